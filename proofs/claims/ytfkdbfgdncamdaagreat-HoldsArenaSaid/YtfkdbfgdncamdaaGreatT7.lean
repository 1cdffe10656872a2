/- Part of the theory that the claims of this work use: Q06, Q07, E13, Q08, Q09, E07, E09, D46, E15, E16, E10, E11, D30, D31, D38, D40, D47, D48, D49, E17, Q10, Q11, Q12, Q13. No conditions of its own. -/
import Derived.Test.YtfkdbfgdncamdaaGreatT6
set_option linter.unusedVariables false
set_option linter.unusedSimpArgs false
set_option maxHeartbeats 4000000
set_option maxRecDepth 10000
section
namespace Go.D
open Go Go.Pav Go.Pw P
set_option maxHeartbeats 2000000
attribute [-simp] List.getElem_cons_drop
variable {C:WProg}
structure HasQm (C:WProg):Prop extends HasQc C where
 f285:C.fns.get 285=some w285
 f299:C.fns.get 299=some w299
theorem rrules_ok (H:HasQm C) (vw ov ls:Int) (ks:List Kd) (ke:Bool) (cap ar fl:Int):FnW C 299 [.agg (cCf vw ov ls ks ke cap ar fl)]=some (aR ks ke cap):=by
 rw [fnW_eq H.f299 rfl]
 simp [w299]
def wasF (ra:List Hd) (e:En):Bool:=decide (0≤atF e.i.k 0 ra)&&(match ra[(atF e.i.k 0 ra).toNat]? with | some h=>decide (h.t=e.i.t) | none=>false)
def cm2 (tr:En→Nd) (ra:List Hd) (l:List En):List Nat→List Hd × List (List Hd) × Int × Int→List Hd × List (List Hd) × Int × Int
 | [],s=>s
 | a::r,s=>cm2 tr ra l r (match l[a]? with
  | none=>s
  | some e=>if wasF ra e=true then (s.1++[⟨e.i.k,e.i.t,tr e⟩],s.2) else if (rowAt s.2.1 e.i.t).length=0 then (s.1++[⟨e.i.k,e.i.t,tr e⟩],s.2.1,s.2.2.1,s.2.2.2+1)
   else (s.1++[⟨e.i.k,e.i.t,tr e⟩],s.2.1.set e.i.t.toNat ((rowAt s.2.1 e.i.t).take ((rowAt s.2.1 e.i.t).length - 1)),s.2.2.1+1,s.2.2.2))
def RwsI (ks:List Kd) (pb ob nb lo:Nat) (RW:AV) (O:List Hd) (rb:Nat) (h:WHeap) (next:Nat) (id:Nat→Nat):Prop :=
 (O=[]∧RW=.ro 8 [] true)∨(O≠[]∧RW=.sl rb 8 0 O.length O.length false∧Pav.get h rb=some (.cells 8 (eHs O) true true)∧lo≤rb∧rb < next∧rb≠pb∧rb≠ob∧rb≠nb∧∀ j,j < ks.length→id j≠rb)
theorem atF_ge (k:Int):∀ (l:List Hd) (i:Nat),0≤atF k i l→(i:Int)≤atF k i l∧atF k i l < i+l.length
 | [],i,h=>by simp [atF] at h
 | x::l,i,h=>by
  simp only [atF] at h ⊢
  split at h
  · rename_i q;rw [if_pos q];simp;omega
  · rename_i q
    rw [if_neg q]
    have:=atF_ge k l (i+1) h
    simp only [List.length_cons];push_cast at this ⊢;omega
section
variable (vw ov ls:Int) (ks:List Kd) (ke:Bool) (cap ar fl:Int) (ra:List Hd) (ea:Bool) (ps:List Pl) (pe:Bool)
theorem cm2_loop (H:HasQm C) (tr:En→Nd) (l:List En) (e:Bool) (A:List Nat) (f:Bool) (hA:A.length≤1000) (hAl:∀ a ∈ A,a < l.length) (hra:ra.length≤1000000)
 (hty:∀ x ∈ l,∃ t:Nat,x.i.t=t∧t < ks.length) (htr:∀ (a:Nat) (h:a < l.length),FnW C 417 [aR ks ke cap,.ro 6 (l.map eEn) e,.int .i64 a]=some (.agg (tr l[a]).c))
 (pb ob nb lo:Nat):∀ m i,m+i=A.length→∀ (RW:AV) (O:List Hd) (rbk:Nat) (W:List (List Hd)) (rb mk d:Int) (h:WHeap) (next:Nat) (cs:List (List AV)) (id:Nat→Nat),
 CmI vw ov ls ks ke cap ar fl ra ea ps pe RW pb ob nb lo AnyH W [rb,mk,d,0] h next cs id→RwsI ks pb ob nb lo RW O rbk h next id→O.length+m≤1000000→0≤rb→rb+m≤1000000→0≤mk→mk+m≤1000000→(∀ w ∈ W,w.length≤1000000) →
 ∃ h' next' cs' id' RW' rbk',CK C 0 (pureFin [.cell 8 2 true,.cell 9 4 true,.tmp 10]) [.sq w285_L0,.bk 2 ⟨true,[12,11,9,8,4],[(9999,65537)]⟩,.sq w285_c0] w285_B0
  ⟨[(15,.int .i64 i),(12,.ptr nb 0 0),(11,.ptr ob 0 0),(9,.ptr 3 0 0),(8,.ptr 2 0 0),(5,.ptr 1 0 0),(4,.ptr 0 0 0),(3,.ro 1 (A.map eAt) f),(2,.ro 6 (l.map eEn) e)],h,next⟩ =
  CK C 0 (pureFin [.cell 8 2 true,.cell 9 4 true,.tmp 10]) [] w285_c0
   ⟨[(12,.ptr nb 0 0),(11,.ptr ob 0 0),(9,.ptr 3 0 0),(8,.ptr 2 0 0),(4,.ptr 0 0 0)],h',next'⟩ ∧
  CmI vw ov ls ks ke cap ar fl ra ea ps pe RW' pb ob nb lo AnyH (cm2 tr ra l (A.drop i) (O,W,rb,mk)).2.1 [(cm2 tr ra l (A.drop i) (O,W,rb,mk)).2.2.1,(cm2 tr ra l (A.drop i) (O,W,rb,mk)).2.2.2,d,0] h' next' cs' id' ∧
  RwsI ks pb ob nb lo RW' (cm2 tr ra l (A.drop i) (O,W,rb,mk)).1 rbk' h' next' id':=by
 intro m
 induction m with
 | zero =>
  intro i hi RW O rbk W rb mk d h next cs id T U hO hrb hrb2 hmk hmk2 hW
  have h2:A.drop i=[]:=List.drop_eq_nil_of_le (by omega)
  have h3:¬ i < A.length:=by omega
  rw [h2]
  refine ⟨h,next+4,cs,id,RW,rbk,?_,T.later vw ov ls ks ke cap ar fl ra ea ps pe (by omega) (fun _ _=>rfl),?_⟩
  · rw [ck_unf w285_B0.eq_1]
    simp (disch:=omega) [h3]
  · rcases U with u | ⟨u1,u2,u3,u4,u5,u6⟩
    · exact .inl u
    · exact .inr ⟨u1,u2,u3,u4,by omega,u6⟩
 | succ m ih =>
  intro i hi RW O rbk W rb mk d h next cs id T U hO hrb hrb2 hmk hmk2 hW
  have h3:i < A.length:=by omega
  have hAi:=hAl _ (List.getElem_mem h3)
  obtain ⟨t,ht,htl⟩:=hty _ (List.getElem_mem hAi)
  have htree:=htr A[i] hAi
  have hrules:=rrules_ok H vw ov ls ks ke cap ar fl
  have hat:=at_row H.toHasQo ra ea l[A[i]].i.k hra
  have ne:=T.ne
  have hwl:=T.wl
  have htW:t < W.length:=by omega
  have hcl:cs.length=ks.length:=by rw [T.R.len,hwl]
  have htc:t < cs.length:=by omega
  have hW1:=hW _ (List.getElem_mem htW)
  have hrow:rowAt W l[A[i]].i.t=W[t]:=by rw [ht];simp [rowAt,htW]
  have hft:(O.length+1) * 121≤35184372088832:=by omega
  have hNc:=(tr l[A[i]]).c_eq
  rw [drop_cons h3]
  try simp at htree
  try simp at hat
  obtain ⟨v,hv,hP⟩:=T.R.row t W[t] (List.getElem?_eq_getElem htW)
  rw [List.getElem?_eq_getElem htc] at hv
  replace hv:=Option.some.inj hv
  obtain ⟨cap2,ex,es,rfl,q1,q2,q3,q4⟩:=hP
  have bd:=T.R.bd t htW
  have nd:=T.nd t htl
  have hatt:l[A[i]].i.t.toNat=t:=by omega
  rcases U with ⟨u1,u2⟩ | ⟨u1,u2,u3,u4,u5,u6,u7,u8,u9⟩
  · subst u1;subst u2
    obtain ⟨L,hL⟩:∃ L,L=CK C 0 (pureFin [.cell 8 2 true,.cell 9 4 true,.tmp 10]) [.sq w285_L0,.bk 2 ⟨true,[12,11,9,8,4],[(9999,65537)]⟩,.sq w285_c0] w285_B0
     ⟨[(15,.int .i64 i),(12,.ptr nb 0 0),(11,.ptr ob 0 0),(9,.ptr 3 0 0),(8,.ptr 2 0 0),(5,.ptr 1 0 0),(4,.ptr 0 0 0),(3,.ro 1 (A.map eAt) f),(2,.ro 6 (l.map eEn) e)],h,next⟩:=⟨_,rfl⟩
    rw [← hL]
    rw [ck_unf w285_B0.eq_1] at hL
    simp (disch:=omega) [T.g0,T.g1,T.go,h3,hAi,getPut_self,getPut_ne,getDel_ne,H.toHasEq.inl,inlB,H.toHasEq.pp,ppB,htree,hrules,wI64,putPut,ltF,gtF,neF,fits,hft] at hL
    by_cases c:wasF ra l[A[i]]=true
    · have hcm:∀ O r,cm2 tr ra l (A[i]::r) (O,W,rb,mk)=cm2 tr ra l r (O++[⟨l[A[i]].i.k,l[A[i]].i.t,tr l[A[i]]⟩],W,rb,mk):=by
       intro O r
       simp only [cm2,List.getElem?_eq_getElem hAi,c,if_true]
      obtain ⟨c1,c2⟩:=Bool.and_eq_true _ _ ▸ c
      have c1:=of_decide_eq_true c1
      obtain ⟨hge,hlt⟩:=atF_ge _ _ _ c1
      obtain ⟨k,hk⟩:∃ k:Nat,atF l[A[i]].i.k 0 ra=k:=⟨(atF l[A[i]].i.k 0 ra).toNat,by omega⟩
      have hkl:k < ra.length:=by omega
      rw [hk] at c2
      simp [hkl] at c2
      have T1:CmI vw ov ls ks ke cap ar fl ra ea ps pe (.sl (next+33) 8 0 1 1 false) pb ob nb lo AnyH W [rb,mk,d,0] (put (put (put (put (put h (next+12) (.cells 4 [[AV.int .u64 l[A[i]].i.k,AV.int .u8 l[A[i]].i.t,AV.str l[A[i]].i.x,AV.ro 1 (List.map eS l[A[i]].i.m) l[A[i]].i.e]] true true)) (next+27) (.cells 8 [(AV.int .u64 l[A[i]].i.k::AV.int .u8 l[A[i]].i.t::(tr l[A[i]]).c)] true true)) (next+32) (.cells 8 [(AV.int .u64 l[A[i]].i.k::AV.int .u8 l[A[i]].i.t::(tr l[A[i]]).c)] true true)) (next+33) (.cells 8 [(AV.int .u64 l[A[i]].i.k::AV.int .u8 l[A[i]].i.t::(tr l[A[i]]).c)] true true)) ob (.cells 2 [[.sl (next+33) 8 0 1 1 false,.sl pb 1 0 ks.length ks.length false]] true false)) (next+58) cs id:=by
       refine ⟨T.R.mono (by omega) (fun j hj=>by have:=T.R.bd j (by omega);have:=T.nd j (by omega);simp (disch:=omega) only [getPut_self,getPut_ne,getDel_ne]),by simp [hwl],?_,?_,?_,?_,?_,?_,?_,by omega,fun j hj=>?_⟩
       · simp (disch:=omega) only [getPut_self,getPut_ne,getDel_ne]
       · simp (disch:=omega) only [getPut_self,getPut_ne,getDel_ne];exact T.gp
       · simp (disch:=omega) only [getPut_self,getPut_ne,getDel_ne];exact T.gn
       · simp (disch:=omega) only [getPut_self,getPut_ne,getDel_ne];exact T.g0
       · simp (disch:=omega) only [getPut_self,getPut_ne,getDel_ne];exact T.g1
       · simp (disch:=omega) only [getPut_self,getPut_ne,getDel_ne];exact T.g2
       · simp (disch:=omega) only [getPut_self,getPut_ne,getDel_ne];exact T.g3
       · have:=T.nd j hj
         exact this
      have U1:RwsI ks pb ob nb lo (.sl (next+33) 8 0 1 1 false) [⟨l[A[i]].i.k,l[A[i]].i.t,tr l[A[i]]⟩] (next+33) (put (put (put (put (put h (next+12) (.cells 4 [[AV.int .u64 l[A[i]].i.k,AV.int .u8 l[A[i]].i.t,AV.str l[A[i]].i.x,AV.ro 1 (List.map eS l[A[i]].i.m) l[A[i]].i.e]] true true)) (next+27) (.cells 8 [(AV.int .u64 l[A[i]].i.k::AV.int .u8 l[A[i]].i.t::(tr l[A[i]]).c)] true true)) (next+32) (.cells 8 [(AV.int .u64 l[A[i]].i.k::AV.int .u8 l[A[i]].i.t::(tr l[A[i]]).c)] true true)) (next+33) (.cells 8 [(AV.int .u64 l[A[i]].i.k::AV.int .u8 l[A[i]].i.t::(tr l[A[i]]).c)] true true)) ob (.cells 2 [[.sl (next+33) 8 0 1 1 false,.sl pb 1 0 ks.length ks.length false]] true false)) (next+58) id:=by
       refine .inr ⟨by simp,by simp,?_,by omega,by omega,by omega,by omega,by omega,fun j hj=>?_⟩
       · simp (disch:=omega) only [getPut_self,getPut_ne,getDel_ne];simp [ht]
       · have:=T.R.bd j (by omega);have:=T.R.bd t htW;omega
      obtain ⟨h',n',cs',id',RW',rbk',e1,e2,e3⟩:=ih (i+1) (by omega) _ [⟨l[A[i]].i.k,l[A[i]].i.t,tr l[A[i]]⟩] _ W rb mk d _ _ _ _ T1 U1 (by simp;omega) (by omega) (by omega) (by omega) (by omega) hW
      refine ⟨h',n',cs',id',RW',rbk',?_,by rw [hcm];exact e2,by rw [hcm];exact e3⟩
      rw [hL,← e1]
      simp (disch:=omega) [T.g0,T.g1,T.go,T.gp,T.gn,hAi,getPut_self,getPut_ne,getDel_ne,H.toHasEq.inl,inlB,H.toHasEq.pp,ppB,hat,wI64,putPut,ltF,gtF,neF,fits,hft,hk,hkl,c2]
    · have c':wasF ra l[A[i]]=false:=by simpa using c
      have hc0:(∃ _:¬ 0≤atF l[A[i]].i.k 0 ra,True)∨∃ k:Nat,atF l[A[i]].i.k 0 ra=k∧∃ h:k < ra.length,¬ ra[k].t=(t:Int):=by
       by_cases c0:0≤atF l[A[i]].i.k 0 ra
       · obtain ⟨hge,hlt⟩:=atF_ge _ _ _ c0
         refine .inr ⟨(atF l[A[i]].i.k 0 ra).toNat,by omega,by omega,fun q=>?_⟩
         have hkl:(atF l[A[i]].i.k 0 ra).toNat < ra.length:=by omega
         have:wasF ra l[A[i]]=true:=by simp [wasF,c0,hkl,q,ht]
         exact c this
       · exact .inl ⟨c0,trivial⟩
      by_cases c3:W[t].length=0
      · have hcm:∀ O r,cm2 tr ra l (A[i]::r) (O,W,rb,mk)=cm2 tr ra l r (O++[⟨l[A[i]].i.k,l[A[i]].i.t,tr l[A[i]]⟩],W,rb,mk+1):=by
         intro O r
         simp only [cm2,List.getElem?_eq_getElem hAi,c',hrow,c3,if_true,Bool.false_eq_true,if_false]
        rw [c3] at hv
        rcases hc0 with ⟨c0,_⟩ | ⟨k,hk,hkl,c2⟩
        · skip
          have T1:CmI vw ov ls ks ke cap ar fl ra ea ps pe (.sl (next+33) 8 0 1 1 false) pb ob nb lo AnyH W [rb,mk+1,d,0] (put (put (put (put (put (put h (next+12) (.cells 4 [[AV.int .u64 l[A[i]].i.k,AV.int .u8 (t:Int),AV.str l[A[i]].i.x,AV.ro 1 (List.map eS l[A[i]].i.m) l[A[i]].i.e]] true true)) (next+27) (.cells 8 [(AV.int .u64 l[A[i]].i.k::AV.int .u8 (t:Int)::(tr l[A[i]]).c)] true true)) (next+32) (.cells 8 [(AV.int .u64 l[A[i]].i.k::AV.int .u8 (t:Int)::(tr l[A[i]]).c)] true true)) (next+33) (.cells 8 [(AV.int .u64 l[A[i]].i.k::AV.int .u8 (t:Int)::(tr l[A[i]]).c)] true true)) ob (.cells 2 [[.sl (next+33) 8 0 1 1 false,.sl pb 1 0 ks.length ks.length false]] true false)) nb (.cells 4 [[.int .i64 rb,.int .i64 (mk+1),.int .i64 d,.int .i64 0]] true true)) (next+73) cs id:=by
           refine ⟨T.R.mono (by omega) (fun j hj=>by have:=T.R.bd j (by omega);have:=T.nd j (by omega);simp (disch:=omega) only [getPut_self,getPut_ne,getDel_ne]),by simp [hwl],?_,?_,?_,?_,?_,?_,?_,by omega,fun j hj=>?_⟩
           · simp (disch:=omega) only [getPut_self,getPut_ne,getDel_ne]
           · simp (disch:=omega) only [getPut_self,getPut_ne,getDel_ne];exact T.gp
           · simp (disch:=omega) only [getPut_self,getPut_ne,getDel_ne];rfl
           · simp (disch:=omega) only [getPut_self,getPut_ne,getDel_ne];exact T.g0
           · simp (disch:=omega) only [getPut_self,getPut_ne,getDel_ne];exact T.g1
           · simp (disch:=omega) only [getPut_self,getPut_ne,getDel_ne];exact T.g2
           · simp (disch:=omega) only [getPut_self,getPut_ne,getDel_ne];exact T.g3
           · have:=T.nd j hj
             exact this
          have U1:RwsI ks pb ob nb lo (.sl (next+33) 8 0 1 1 false) [⟨l[A[i]].i.k,l[A[i]].i.t,tr l[A[i]]⟩] (next+33) (put (put (put (put (put (put h (next+12) (.cells 4 [[AV.int .u64 l[A[i]].i.k,AV.int .u8 (t:Int),AV.str l[A[i]].i.x,AV.ro 1 (List.map eS l[A[i]].i.m) l[A[i]].i.e]] true true)) (next+27) (.cells 8 [(AV.int .u64 l[A[i]].i.k::AV.int .u8 (t:Int)::(tr l[A[i]]).c)] true true)) (next+32) (.cells 8 [(AV.int .u64 l[A[i]].i.k::AV.int .u8 (t:Int)::(tr l[A[i]]).c)] true true)) (next+33) (.cells 8 [(AV.int .u64 l[A[i]].i.k::AV.int .u8 (t:Int)::(tr l[A[i]]).c)] true true)) ob (.cells 2 [[.sl (next+33) 8 0 1 1 false,.sl pb 1 0 ks.length ks.length false]] true false)) nb (.cells 4 [[.int .i64 rb,.int .i64 (mk+1),.int .i64 d,.int .i64 0]] true true)) (next+73) id:=by
           refine .inr ⟨by simp,by simp,?_,by omega,by omega,by omega,by omega,by omega,fun j hj=>?_⟩
           · simp (disch:=omega) only [getPut_self,getPut_ne,getDel_ne];simp [ht]
           · have:=T.R.bd j (by omega);have:=T.R.bd t htW;omega
          obtain ⟨h',n',cs',id',RW',rbk',e1,e2,e3⟩:=ih (i+1) (by omega) _ [⟨l[A[i]].i.k,l[A[i]].i.t,tr l[A[i]]⟩] _ W rb (mk+1) d _ _ _ _ T1 U1 (by simp;omega) (by omega) (by omega) (by omega) (by omega) hW
          refine ⟨h',n',cs',id',RW',rbk',?_,by rw [hcm];exact e2,by rw [hcm];exact e3⟩
          rw [hL,← e1]
          simp (disch:=omega) [T.g0,T.g1,T.go,T.gp,T.gn,hAi,getPut_self,getPut_ne,getDel_ne,H.toHasEq.inl,inlB,H.toHasEq.pp,ppB,hat,wI64,putPut,ltF,gtF,neF,fits,hft,ht,htc,htl,hv,c0]
        · skip
          have T1:CmI vw ov ls ks ke cap ar fl ra ea ps pe (.sl (next+33) 8 0 1 1 false) pb ob nb lo AnyH W [rb,mk+1,d,0] (put (put (put (put (put (put h (next+12) (.cells 4 [[AV.int .u64 l[A[i]].i.k,AV.int .u8 (t:Int),AV.str l[A[i]].i.x,AV.ro 1 (List.map eS l[A[i]].i.m) l[A[i]].i.e]] true true)) (next+27) (.cells 8 [(AV.int .u64 l[A[i]].i.k::AV.int .u8 (t:Int)::(tr l[A[i]]).c)] true true)) (next+32) (.cells 8 [(AV.int .u64 l[A[i]].i.k::AV.int .u8 (t:Int)::(tr l[A[i]]).c)] true true)) (next+33) (.cells 8 [(AV.int .u64 l[A[i]].i.k::AV.int .u8 (t:Int)::(tr l[A[i]]).c)] true true)) ob (.cells 2 [[.sl (next+33) 8 0 1 1 false,.sl pb 1 0 ks.length ks.length false]] true false)) nb (.cells 4 [[.int .i64 rb,.int .i64 (mk+1),.int .i64 d,.int .i64 0]] true true)) (next+73) cs id:=by
           refine ⟨T.R.mono (by omega) (fun j hj=>by have:=T.R.bd j (by omega);have:=T.nd j (by omega);simp (disch:=omega) only [getPut_self,getPut_ne,getDel_ne]),by simp [hwl],?_,?_,?_,?_,?_,?_,?_,by omega,fun j hj=>?_⟩
           · simp (disch:=omega) only [getPut_self,getPut_ne,getDel_ne]
           · simp (disch:=omega) only [getPut_self,getPut_ne,getDel_ne];exact T.gp
           · simp (disch:=omega) only [getPut_self,getPut_ne,getDel_ne];rfl
           · simp (disch:=omega) only [getPut_self,getPut_ne,getDel_ne];exact T.g0
           · simp (disch:=omega) only [getPut_self,getPut_ne,getDel_ne];exact T.g1
           · simp (disch:=omega) only [getPut_self,getPut_ne,getDel_ne];exact T.g2
           · simp (disch:=omega) only [getPut_self,getPut_ne,getDel_ne];exact T.g3
           · have:=T.nd j hj
             exact this
          have U1:RwsI ks pb ob nb lo (.sl (next+33) 8 0 1 1 false) [⟨l[A[i]].i.k,l[A[i]].i.t,tr l[A[i]]⟩] (next+33) (put (put (put (put (put (put h (next+12) (.cells 4 [[AV.int .u64 l[A[i]].i.k,AV.int .u8 (t:Int),AV.str l[A[i]].i.x,AV.ro 1 (List.map eS l[A[i]].i.m) l[A[i]].i.e]] true true)) (next+27) (.cells 8 [(AV.int .u64 l[A[i]].i.k::AV.int .u8 (t:Int)::(tr l[A[i]]).c)] true true)) (next+32) (.cells 8 [(AV.int .u64 l[A[i]].i.k::AV.int .u8 (t:Int)::(tr l[A[i]]).c)] true true)) (next+33) (.cells 8 [(AV.int .u64 l[A[i]].i.k::AV.int .u8 (t:Int)::(tr l[A[i]]).c)] true true)) ob (.cells 2 [[.sl (next+33) 8 0 1 1 false,.sl pb 1 0 ks.length ks.length false]] true false)) nb (.cells 4 [[.int .i64 rb,.int .i64 (mk+1),.int .i64 d,.int .i64 0]] true true)) (next+73) id:=by
           refine .inr ⟨by simp,by simp,?_,by omega,by omega,by omega,by omega,by omega,fun j hj=>?_⟩
           · simp (disch:=omega) only [getPut_self,getPut_ne,getDel_ne];simp [ht]
           · have:=T.R.bd j (by omega);have:=T.R.bd t htW;omega
          obtain ⟨h',n',cs',id',RW',rbk',e1,e2,e3⟩:=ih (i+1) (by omega) _ [⟨l[A[i]].i.k,l[A[i]].i.t,tr l[A[i]]⟩] _ W rb (mk+1) d _ _ _ _ T1 U1 (by simp;omega) (by omega) (by omega) (by omega) (by omega) hW
          refine ⟨h',n',cs',id',RW',rbk',?_,by rw [hcm];exact e2,by rw [hcm];exact e3⟩
          rw [hL,← e1]
          simp (disch:=omega) [T.g0,T.g1,T.go,T.gp,T.gn,hAi,getPut_self,getPut_ne,getDel_ne,H.toHasEq.inl,inlB,H.toHasEq.pp,ppB,hat,wI64,putPut,ltF,gtF,neF,fits,hft,ht,htc,htl,hv,hk,hkl,c2]
      · obtain ⟨n,hn⟩:∃ n,W[t].length=n+1:=⟨W[t].length - 1,by omega⟩
        have hcm:∀ O r,cm2 tr ra l (A[i]::r) (O,W,rb,mk)=cm2 tr ra l r (O++[⟨l[A[i]].i.k,l[A[i]].i.t,tr l[A[i]]⟩],W.set t (W[t].take n),rb+1,mk):=by
         intro O r
         have:W[t].length - 1=n:=by omega
         simp only [cm2,List.getElem?_eq_getElem hAi,c',hrow,c3,Bool.false_eq_true,if_false,hatt,this]
        rw [hn] at hv q1 q2 q3
        have hnl:(W[t].take n).length=n:=by simp;omega
        have hes3:=q3
        have hwn:IntKind.i64.wrap (n:Int)=n:=wI64 (by omega) (by omega)
        have hne0:¬ ((n:Int)+1=0):=by omega
        have hncap:n≤cap2:=by omega
        have hcap1:n+1≤cap2:=by omega
        have hcap0:0 < cap2:=by omega
        have hWs:∀ w ∈ W.set t (W[t].take n),w.length≤1000000:=by
         intro w hw
         rcases List.mem_or_eq_of_mem_set hw with q | q
         · exact hW w q
         · subst q;omega
        have hANY:∀ o,o=some (WObj.cells 8 (eHs es) true true)→AnyH o (id t) (.sl (id t) 8 0 n cap2 ex) (W[t].take n):=by
         rintro o rfl
         refine ⟨cap2,ex,es,by rw [hnl],by omega,by omega,?_,rfl⟩
         rw [hnl,← hes3,List.take_take]
         congr 1
         omega
        rcases hc0 with ⟨c0,_⟩ | ⟨k,hk,hkl,c2⟩
        · skip
          have T1:CmI vw ov ls ks ke cap ar fl ra ea ps pe (.sl (next+33) 8 0 1 1 false) pb ob nb lo AnyH (W.set t (W[t].take n)) [rb+1,mk,d,0] (put (put (put (put (put (put (put h (next+12) (.cells 4 [[AV.int .u64 l[A[i]].i.k,AV.int .u8 (t:Int),AV.str l[A[i]].i.x,AV.ro 1 (List.map eS l[A[i]].i.m) l[A[i]].i.e]] true true)) (next+27) (.cells 8 [(AV.int .u64 l[A[i]].i.k::AV.int .u8 (t:Int)::(tr l[A[i]]).c)] true true)) (next+32) (.cells 8 [(AV.int .u64 l[A[i]].i.k::AV.int .u8 (t:Int)::(tr l[A[i]]).c)] true true)) (next+33) (.cells 8 [(AV.int .u64 l[A[i]].i.k::AV.int .u8 (t:Int)::(tr l[A[i]]).c)] true true)) ob (.cells 2 [[.sl (next+33) 8 0 1 1 false,.sl pb 1 0 ks.length ks.length false]] true false)) nb (.cells 4 [[.int .i64 (rb+1),.int .i64 mk,.int .i64 d,.int .i64 0]] true true)) pb (.cells 1 (cs.set t [.sl (id t) 8 0 n cap2 ex]) true false)) (next+88) (cs.set t [.sl (id t) 8 0 n cap2 ex]) (fun j=>if j=t then id t else id j):=by
           refine ⟨T.R.set t htW (id t) (.inl rfl) bd.1 (by omega) (by omega) _ _ (fun j hj hjt=>by have:=T.R.bd j (by omega);have:=T.nd j (by omega);simp (disch:=omega) only [getPut_self,getPut_ne,getDel_ne]) (hANY _ (by simp (disch:=omega) only [getPut_self,getPut_ne,getDel_ne];exact q4)),by simp [hwl],?_,?_,?_,?_,?_,?_,?_,by omega,fun j hj=>?_⟩
           · simp (disch:=omega) only [getPut_self,getPut_ne,getDel_ne]
           · simp (disch:=omega) only [getPut_self,getPut_ne,getDel_ne]
           · simp (disch:=omega) only [getPut_self,getPut_ne,getDel_ne];rfl
           · simp (disch:=omega) only [getPut_self,getPut_ne,getDel_ne];exact T.g0
           · simp (disch:=omega) only [getPut_self,getPut_ne,getDel_ne];exact T.g1
           · simp (disch:=omega) only [getPut_self,getPut_ne,getDel_ne];exact T.g2
           · simp (disch:=omega) only [getPut_self,getPut_ne,getDel_ne];exact T.g3
           · have h1:=T.nd j hj
             have h2:=T.nd t htl
             split <;> assumption
          have U1:RwsI ks pb ob nb lo (.sl (next+33) 8 0 1 1 false) [⟨l[A[i]].i.k,l[A[i]].i.t,tr l[A[i]]⟩] (next+33) (put (put (put (put (put (put (put h (next+12) (.cells 4 [[AV.int .u64 l[A[i]].i.k,AV.int .u8 (t:Int),AV.str l[A[i]].i.x,AV.ro 1 (List.map eS l[A[i]].i.m) l[A[i]].i.e]] true true)) (next+27) (.cells 8 [(AV.int .u64 l[A[i]].i.k::AV.int .u8 (t:Int)::(tr l[A[i]]).c)] true true)) (next+32) (.cells 8 [(AV.int .u64 l[A[i]].i.k::AV.int .u8 (t:Int)::(tr l[A[i]]).c)] true true)) (next+33) (.cells 8 [(AV.int .u64 l[A[i]].i.k::AV.int .u8 (t:Int)::(tr l[A[i]]).c)] true true)) ob (.cells 2 [[.sl (next+33) 8 0 1 1 false,.sl pb 1 0 ks.length ks.length false]] true false)) nb (.cells 4 [[.int .i64 (rb+1),.int .i64 mk,.int .i64 d,.int .i64 0]] true true)) pb (.cells 1 (cs.set t [.sl (id t) 8 0 n cap2 ex]) true false)) (next+88) (fun j=>if j=t then id t else id j):=by
           refine .inr ⟨by simp,by simp,?_,by omega,by omega,by omega,by omega,by omega,fun j hj=>?_⟩
           · simp (disch:=omega) only [getPut_self,getPut_ne,getDel_ne];simp [ht]
           · have:=T.R.bd j (by omega);have:=T.R.bd t htW;show (if j=t then id t else id j)≠next+33;split <;> omega
          obtain ⟨h',n',cs',id',RW',rbk',e1,e2,e3⟩:=ih (i+1) (by omega) _ [⟨l[A[i]].i.k,l[A[i]].i.t,tr l[A[i]]⟩] _ (W.set t (W[t].take n)) (rb+1) mk d _ _ _ _ T1 U1 (by simp;omega) (by omega) (by omega) (by omega) (by omega) hWs
          refine ⟨h',n',cs',id',RW',rbk',?_,by rw [hcm];exact e2,by rw [hcm];exact e3⟩
          rw [hL,← e1]
          simp (disch:=omega) [T.g0,T.g1,T.go,T.gp,T.gn,hAi,getPut_self,getPut_ne,getDel_ne,H.toHasEq.inl,inlB,H.toHasEq.pp,ppB,hat,wI64,putPut,ltF,gtF,neF,fits,hft,ht,htc,htl,hv,hwn,hncap,hne0,hcap1,hcap0,c0]
        · skip
          have T1:CmI vw ov ls ks ke cap ar fl ra ea ps pe (.sl (next+33) 8 0 1 1 false) pb ob nb lo AnyH (W.set t (W[t].take n)) [rb+1,mk,d,0] (put (put (put (put (put (put (put h (next+12) (.cells 4 [[AV.int .u64 l[A[i]].i.k,AV.int .u8 (t:Int),AV.str l[A[i]].i.x,AV.ro 1 (List.map eS l[A[i]].i.m) l[A[i]].i.e]] true true)) (next+27) (.cells 8 [(AV.int .u64 l[A[i]].i.k::AV.int .u8 (t:Int)::(tr l[A[i]]).c)] true true)) (next+32) (.cells 8 [(AV.int .u64 l[A[i]].i.k::AV.int .u8 (t:Int)::(tr l[A[i]]).c)] true true)) (next+33) (.cells 8 [(AV.int .u64 l[A[i]].i.k::AV.int .u8 (t:Int)::(tr l[A[i]]).c)] true true)) ob (.cells 2 [[.sl (next+33) 8 0 1 1 false,.sl pb 1 0 ks.length ks.length false]] true false)) nb (.cells 4 [[.int .i64 (rb+1),.int .i64 mk,.int .i64 d,.int .i64 0]] true true)) pb (.cells 1 (cs.set t [.sl (id t) 8 0 n cap2 ex]) true false)) (next+88) (cs.set t [.sl (id t) 8 0 n cap2 ex]) (fun j=>if j=t then id t else id j):=by
           refine ⟨T.R.set t htW (id t) (.inl rfl) bd.1 (by omega) (by omega) _ _ (fun j hj hjt=>by have:=T.R.bd j (by omega);have:=T.nd j (by omega);simp (disch:=omega) only [getPut_self,getPut_ne,getDel_ne]) (hANY _ (by simp (disch:=omega) only [getPut_self,getPut_ne,getDel_ne];exact q4)),by simp [hwl],?_,?_,?_,?_,?_,?_,?_,by omega,fun j hj=>?_⟩
           · simp (disch:=omega) only [getPut_self,getPut_ne,getDel_ne]
           · simp (disch:=omega) only [getPut_self,getPut_ne,getDel_ne]
           · simp (disch:=omega) only [getPut_self,getPut_ne,getDel_ne];rfl
           · simp (disch:=omega) only [getPut_self,getPut_ne,getDel_ne];exact T.g0
           · simp (disch:=omega) only [getPut_self,getPut_ne,getDel_ne];exact T.g1
           · simp (disch:=omega) only [getPut_self,getPut_ne,getDel_ne];exact T.g2
           · simp (disch:=omega) only [getPut_self,getPut_ne,getDel_ne];exact T.g3
           · have h1:=T.nd j hj
             have h2:=T.nd t htl
             split <;> assumption
          have U1:RwsI ks pb ob nb lo (.sl (next+33) 8 0 1 1 false) [⟨l[A[i]].i.k,l[A[i]].i.t,tr l[A[i]]⟩] (next+33) (put (put (put (put (put (put (put h (next+12) (.cells 4 [[AV.int .u64 l[A[i]].i.k,AV.int .u8 (t:Int),AV.str l[A[i]].i.x,AV.ro 1 (List.map eS l[A[i]].i.m) l[A[i]].i.e]] true true)) (next+27) (.cells 8 [(AV.int .u64 l[A[i]].i.k::AV.int .u8 (t:Int)::(tr l[A[i]]).c)] true true)) (next+32) (.cells 8 [(AV.int .u64 l[A[i]].i.k::AV.int .u8 (t:Int)::(tr l[A[i]]).c)] true true)) (next+33) (.cells 8 [(AV.int .u64 l[A[i]].i.k::AV.int .u8 (t:Int)::(tr l[A[i]]).c)] true true)) ob (.cells 2 [[.sl (next+33) 8 0 1 1 false,.sl pb 1 0 ks.length ks.length false]] true false)) nb (.cells 4 [[.int .i64 (rb+1),.int .i64 mk,.int .i64 d,.int .i64 0]] true true)) pb (.cells 1 (cs.set t [.sl (id t) 8 0 n cap2 ex]) true false)) (next+88) (fun j=>if j=t then id t else id j):=by
           refine .inr ⟨by simp,by simp,?_,by omega,by omega,by omega,by omega,by omega,fun j hj=>?_⟩
           · simp (disch:=omega) only [getPut_self,getPut_ne,getDel_ne];simp [ht]
           · have:=T.R.bd j (by omega);have:=T.R.bd t htW;show (if j=t then id t else id j)≠next+33;split <;> omega
          obtain ⟨h',n',cs',id',RW',rbk',e1,e2,e3⟩:=ih (i+1) (by omega) _ [⟨l[A[i]].i.k,l[A[i]].i.t,tr l[A[i]]⟩] _ (W.set t (W[t].take n)) (rb+1) mk d _ _ _ _ T1 U1 (by simp;omega) (by omega) (by omega) (by omega) (by omega) hWs
          refine ⟨h',n',cs',id',RW',rbk',?_,by rw [hcm];exact e2,by rw [hcm];exact e3⟩
          rw [hL,← e1]
          simp (disch:=omega) [T.g0,T.g1,T.go,T.gp,T.gn,hAi,getPut_self,getPut_ne,getDel_ne,H.toHasEq.inl,inlB,H.toHasEq.pp,ppB,hat,wI64,putPut,ltF,gtF,neF,fits,hft,ht,htc,htl,hv,hwn,hncap,hne0,hcap1,hcap0,hk,hkl,c2]
  · subst u2
    obtain ⟨L,hL⟩:∃ L,L=CK C 0 (pureFin [.cell 8 2 true,.cell 9 4 true,.tmp 10]) [.sq w285_L0,.bk 2 ⟨true,[12,11,9,8,4],[(9999,65537)]⟩,.sq w285_c0] w285_B0
     ⟨[(15,.int .i64 i),(12,.ptr nb 0 0),(11,.ptr ob 0 0),(9,.ptr 3 0 0),(8,.ptr 2 0 0),(5,.ptr 1 0 0),(4,.ptr 0 0 0),(3,.ro 1 (A.map eAt) f),(2,.ro 6 (l.map eEn) e)],h,next⟩:=⟨_,rfl⟩
    rw [← hL]
    rw [ck_unf w285_B0.eq_1] at hL
    simp (disch:=omega) [T.g0,T.g1,T.go,h3,hAi,getPut_self,getPut_ne,getDel_ne,H.toHasEq.inl,inlB,H.toHasEq.pp,ppB,htree,hrules,wI64,putPut,ltF,gtF,neF,fits,hft,u3] at hL
    by_cases c:wasF ra l[A[i]]=true
    · have hcm:∀ O r,cm2 tr ra l (A[i]::r) (O,W,rb,mk)=cm2 tr ra l r (O++[⟨l[A[i]].i.k,l[A[i]].i.t,tr l[A[i]]⟩],W,rb,mk):=by
       intro O r
       simp only [cm2,List.getElem?_eq_getElem hAi,c,if_true]
      obtain ⟨c1,c2⟩:=Bool.and_eq_true _ _ ▸ c
      have c1:=of_decide_eq_true c1
      obtain ⟨hge,hlt⟩:=atF_ge _ _ _ c1
      obtain ⟨k,hk⟩:∃ k:Nat,atF l[A[i]].i.k 0 ra=k:=⟨(atF l[A[i]].i.k 0 ra).toNat,by omega⟩
      have hkl:k < ra.length:=by omega
      rw [hk] at c2
      simp [hkl] at c2
      have T1:CmI vw ov ls ks ke cap ar fl ra ea ps pe (.sl (next+33) 8 0 (O.length+1) (O.length+1) false) pb ob nb lo AnyH W [rb,mk,d,0] (put (put (del (put (put (put h (next+12) (.cells 4 [[AV.int .u64 l[A[i]].i.k,AV.int .u8 l[A[i]].i.t,AV.str l[A[i]].i.x,AV.ro 1 (List.map eS l[A[i]].i.m) l[A[i]].i.e]] true true)) (next+27) (.cells 8 [(AV.int .u64 l[A[i]].i.k::AV.int .u8 l[A[i]].i.t::(tr l[A[i]]).c)] true true)) (next+32) (.cells 8 [(AV.int .u64 l[A[i]].i.k::AV.int .u8 l[A[i]].i.t::(tr l[A[i]]).c)] true true)) rbk) (next+33) (.cells 8 (eHs O++[(AV.int .u64 l[A[i]].i.k::AV.int .u8 l[A[i]].i.t::(tr l[A[i]]).c)]) true true)) ob (.cells 2 [[.sl (next+33) 8 0 (O.length+1) (O.length+1) false,.sl pb 1 0 ks.length ks.length false]] true false)) (next+58) cs id:=by
       refine ⟨T.R.mono (by omega) (fun j hj=>by have:=T.R.bd j (by omega);have:=T.nd j (by omega);have:=u9 j (by omega);simp (disch:=omega) only [getPut_self,getPut_ne,getDel_ne]),by simp [hwl],?_,?_,?_,?_,?_,?_,?_,by omega,fun j hj=>?_⟩
       · simp (disch:=omega) only [getPut_self,getPut_ne,getDel_ne]
       · simp (disch:=omega) only [getPut_self,getPut_ne,getDel_ne];exact T.gp
       · simp (disch:=omega) only [getPut_self,getPut_ne,getDel_ne];exact T.gn
       · simp (disch:=omega) only [getPut_self,getPut_ne,getDel_ne];exact T.g0
       · simp (disch:=omega) only [getPut_self,getPut_ne,getDel_ne];exact T.g1
       · simp (disch:=omega) only [getPut_self,getPut_ne,getDel_ne];exact T.g2
       · simp (disch:=omega) only [getPut_self,getPut_ne,getDel_ne];exact T.g3
       · have:=T.nd j hj
         exact this
      have U1:RwsI ks pb ob nb lo (.sl (next+33) 8 0 (O.length+1) (O.length+1) false) (O++[⟨l[A[i]].i.k,l[A[i]].i.t,tr l[A[i]]⟩]) (next+33) (put (put (del (put (put (put h (next+12) (.cells 4 [[AV.int .u64 l[A[i]].i.k,AV.int .u8 l[A[i]].i.t,AV.str l[A[i]].i.x,AV.ro 1 (List.map eS l[A[i]].i.m) l[A[i]].i.e]] true true)) (next+27) (.cells 8 [(AV.int .u64 l[A[i]].i.k::AV.int .u8 l[A[i]].i.t::(tr l[A[i]]).c)] true true)) (next+32) (.cells 8 [(AV.int .u64 l[A[i]].i.k::AV.int .u8 l[A[i]].i.t::(tr l[A[i]]).c)] true true)) rbk) (next+33) (.cells 8 (eHs O++[(AV.int .u64 l[A[i]].i.k::AV.int .u8 l[A[i]].i.t::(tr l[A[i]]).c)]) true true)) ob (.cells 2 [[.sl (next+33) 8 0 (O.length+1) (O.length+1) false,.sl pb 1 0 ks.length ks.length false]] true false)) (next+58) id:=by
       refine .inr ⟨by simp,by simp,?_,by omega,by omega,by omega,by omega,by omega,fun j hj=>?_⟩
       · simp (disch:=omega) only [getPut_self,getPut_ne,getDel_ne];simp [ht]
       · have:=T.R.bd j (by omega);have:=T.R.bd t htW;omega
      obtain ⟨h',n',cs',id',RW',rbk',e1,e2,e3⟩:=ih (i+1) (by omega) _ (O++[⟨l[A[i]].i.k,l[A[i]].i.t,tr l[A[i]]⟩]) _ W rb mk d _ _ _ _ T1 U1 (by simp;omega) (by omega) (by omega) (by omega) (by omega) hW
      refine ⟨h',n',cs',id',RW',rbk',?_,by rw [hcm];exact e2,by rw [hcm];exact e3⟩
      rw [hL,← e1]
      simp (disch:=omega) [T.g0,T.g1,T.go,T.gp,T.gn,hAi,getPut_self,getPut_ne,getDel_ne,H.toHasEq.inl,inlB,H.toHasEq.pp,ppB,hat,wI64,putPut,ltF,gtF,neF,fits,hft,hk,hkl,c2,u3]
    · have c':wasF ra l[A[i]]=false:=by simpa using c
      have hc0:(∃ _:¬ 0≤atF l[A[i]].i.k 0 ra,True)∨∃ k:Nat,atF l[A[i]].i.k 0 ra=k∧∃ h:k < ra.length,¬ ra[k].t=(t:Int):=by
       by_cases c0:0≤atF l[A[i]].i.k 0 ra
       · obtain ⟨hge,hlt⟩:=atF_ge _ _ _ c0
         refine .inr ⟨(atF l[A[i]].i.k 0 ra).toNat,by omega,by omega,fun q=>?_⟩
         have hkl:(atF l[A[i]].i.k 0 ra).toNat < ra.length:=by omega
         have:wasF ra l[A[i]]=true:=by simp [wasF,c0,hkl,q,ht]
         exact c this
       · exact .inl ⟨c0,trivial⟩
      by_cases c3:W[t].length=0
      · have hcm:∀ O r,cm2 tr ra l (A[i]::r) (O,W,rb,mk)=cm2 tr ra l r (O++[⟨l[A[i]].i.k,l[A[i]].i.t,tr l[A[i]]⟩],W,rb,mk+1):=by
         intro O r
         simp only [cm2,List.getElem?_eq_getElem hAi,c',hrow,c3,if_true,Bool.false_eq_true,if_false]
        rw [c3] at hv
        rcases hc0 with ⟨c0,_⟩ | ⟨k,hk,hkl,c2⟩
        · skip
          have T1:CmI vw ov ls ks ke cap ar fl ra ea ps pe (.sl (next+33) 8 0 (O.length+1) (O.length+1) false) pb ob nb lo AnyH W [rb,mk+1,d,0] (put (put (put (del (put (put (put h (next+12) (.cells 4 [[AV.int .u64 l[A[i]].i.k,AV.int .u8 (t:Int),AV.str l[A[i]].i.x,AV.ro 1 (List.map eS l[A[i]].i.m) l[A[i]].i.e]] true true)) (next+27) (.cells 8 [(AV.int .u64 l[A[i]].i.k::AV.int .u8 (t:Int)::(tr l[A[i]]).c)] true true)) (next+32) (.cells 8 [(AV.int .u64 l[A[i]].i.k::AV.int .u8 (t:Int)::(tr l[A[i]]).c)] true true)) rbk) (next+33) (.cells 8 (eHs O++[(AV.int .u64 l[A[i]].i.k::AV.int .u8 (t:Int)::(tr l[A[i]]).c)]) true true)) ob (.cells 2 [[.sl (next+33) 8 0 (O.length+1) (O.length+1) false,.sl pb 1 0 ks.length ks.length false]] true false)) nb (.cells 4 [[.int .i64 rb,.int .i64 (mk+1),.int .i64 d,.int .i64 0]] true true)) (next+73) cs id:=by
           refine ⟨T.R.mono (by omega) (fun j hj=>by have:=T.R.bd j (by omega);have:=T.nd j (by omega);have:=u9 j (by omega);simp (disch:=omega) only [getPut_self,getPut_ne,getDel_ne]),by simp [hwl],?_,?_,?_,?_,?_,?_,?_,by omega,fun j hj=>?_⟩
           · simp (disch:=omega) only [getPut_self,getPut_ne,getDel_ne]
           · simp (disch:=omega) only [getPut_self,getPut_ne,getDel_ne];exact T.gp
           · simp (disch:=omega) only [getPut_self,getPut_ne,getDel_ne];rfl
           · simp (disch:=omega) only [getPut_self,getPut_ne,getDel_ne];exact T.g0
           · simp (disch:=omega) only [getPut_self,getPut_ne,getDel_ne];exact T.g1
           · simp (disch:=omega) only [getPut_self,getPut_ne,getDel_ne];exact T.g2
           · simp (disch:=omega) only [getPut_self,getPut_ne,getDel_ne];exact T.g3
           · have:=T.nd j hj
             exact this
          have U1:RwsI ks pb ob nb lo (.sl (next+33) 8 0 (O.length+1) (O.length+1) false) (O++[⟨l[A[i]].i.k,l[A[i]].i.t,tr l[A[i]]⟩]) (next+33) (put (put (put (del (put (put (put h (next+12) (.cells 4 [[AV.int .u64 l[A[i]].i.k,AV.int .u8 (t:Int),AV.str l[A[i]].i.x,AV.ro 1 (List.map eS l[A[i]].i.m) l[A[i]].i.e]] true true)) (next+27) (.cells 8 [(AV.int .u64 l[A[i]].i.k::AV.int .u8 (t:Int)::(tr l[A[i]]).c)] true true)) (next+32) (.cells 8 [(AV.int .u64 l[A[i]].i.k::AV.int .u8 (t:Int)::(tr l[A[i]]).c)] true true)) rbk) (next+33) (.cells 8 (eHs O++[(AV.int .u64 l[A[i]].i.k::AV.int .u8 (t:Int)::(tr l[A[i]]).c)]) true true)) ob (.cells 2 [[.sl (next+33) 8 0 (O.length+1) (O.length+1) false,.sl pb 1 0 ks.length ks.length false]] true false)) nb (.cells 4 [[.int .i64 rb,.int .i64 (mk+1),.int .i64 d,.int .i64 0]] true true)) (next+73) id:=by
           refine .inr ⟨by simp,by simp,?_,by omega,by omega,by omega,by omega,by omega,fun j hj=>?_⟩
           · simp (disch:=omega) only [getPut_self,getPut_ne,getDel_ne];simp [ht]
           · have:=T.R.bd j (by omega);have:=T.R.bd t htW;omega
          obtain ⟨h',n',cs',id',RW',rbk',e1,e2,e3⟩:=ih (i+1) (by omega) _ (O++[⟨l[A[i]].i.k,l[A[i]].i.t,tr l[A[i]]⟩]) _ W rb (mk+1) d _ _ _ _ T1 U1 (by simp;omega) (by omega) (by omega) (by omega) (by omega) hW
          refine ⟨h',n',cs',id',RW',rbk',?_,by rw [hcm];exact e2,by rw [hcm];exact e3⟩
          rw [hL,← e1]
          simp (disch:=omega) [T.g0,T.g1,T.go,T.gp,T.gn,hAi,getPut_self,getPut_ne,getDel_ne,H.toHasEq.inl,inlB,H.toHasEq.pp,ppB,hat,wI64,putPut,ltF,gtF,neF,fits,hft,ht,htc,htl,hv,c0,u3]
        · skip
          have T1:CmI vw ov ls ks ke cap ar fl ra ea ps pe (.sl (next+33) 8 0 (O.length+1) (O.length+1) false) pb ob nb lo AnyH W [rb,mk+1,d,0] (put (put (put (del (put (put (put h (next+12) (.cells 4 [[AV.int .u64 l[A[i]].i.k,AV.int .u8 (t:Int),AV.str l[A[i]].i.x,AV.ro 1 (List.map eS l[A[i]].i.m) l[A[i]].i.e]] true true)) (next+27) (.cells 8 [(AV.int .u64 l[A[i]].i.k::AV.int .u8 (t:Int)::(tr l[A[i]]).c)] true true)) (next+32) (.cells 8 [(AV.int .u64 l[A[i]].i.k::AV.int .u8 (t:Int)::(tr l[A[i]]).c)] true true)) rbk) (next+33) (.cells 8 (eHs O++[(AV.int .u64 l[A[i]].i.k::AV.int .u8 (t:Int)::(tr l[A[i]]).c)]) true true)) ob (.cells 2 [[.sl (next+33) 8 0 (O.length+1) (O.length+1) false,.sl pb 1 0 ks.length ks.length false]] true false)) nb (.cells 4 [[.int .i64 rb,.int .i64 (mk+1),.int .i64 d,.int .i64 0]] true true)) (next+73) cs id:=by
           refine ⟨T.R.mono (by omega) (fun j hj=>by have:=T.R.bd j (by omega);have:=T.nd j (by omega);have:=u9 j (by omega);simp (disch:=omega) only [getPut_self,getPut_ne,getDel_ne]),by simp [hwl],?_,?_,?_,?_,?_,?_,?_,by omega,fun j hj=>?_⟩
           · simp (disch:=omega) only [getPut_self,getPut_ne,getDel_ne]
           · simp (disch:=omega) only [getPut_self,getPut_ne,getDel_ne];exact T.gp
           · simp (disch:=omega) only [getPut_self,getPut_ne,getDel_ne];rfl
           · simp (disch:=omega) only [getPut_self,getPut_ne,getDel_ne];exact T.g0
           · simp (disch:=omega) only [getPut_self,getPut_ne,getDel_ne];exact T.g1
           · simp (disch:=omega) only [getPut_self,getPut_ne,getDel_ne];exact T.g2
           · simp (disch:=omega) only [getPut_self,getPut_ne,getDel_ne];exact T.g3
           · have:=T.nd j hj
             exact this
          have U1:RwsI ks pb ob nb lo (.sl (next+33) 8 0 (O.length+1) (O.length+1) false) (O++[⟨l[A[i]].i.k,l[A[i]].i.t,tr l[A[i]]⟩]) (next+33) (put (put (put (del (put (put (put h (next+12) (.cells 4 [[AV.int .u64 l[A[i]].i.k,AV.int .u8 (t:Int),AV.str l[A[i]].i.x,AV.ro 1 (List.map eS l[A[i]].i.m) l[A[i]].i.e]] true true)) (next+27) (.cells 8 [(AV.int .u64 l[A[i]].i.k::AV.int .u8 (t:Int)::(tr l[A[i]]).c)] true true)) (next+32) (.cells 8 [(AV.int .u64 l[A[i]].i.k::AV.int .u8 (t:Int)::(tr l[A[i]]).c)] true true)) rbk) (next+33) (.cells 8 (eHs O++[(AV.int .u64 l[A[i]].i.k::AV.int .u8 (t:Int)::(tr l[A[i]]).c)]) true true)) ob (.cells 2 [[.sl (next+33) 8 0 (O.length+1) (O.length+1) false,.sl pb 1 0 ks.length ks.length false]] true false)) nb (.cells 4 [[.int .i64 rb,.int .i64 (mk+1),.int .i64 d,.int .i64 0]] true true)) (next+73) id:=by
           refine .inr ⟨by simp,by simp,?_,by omega,by omega,by omega,by omega,by omega,fun j hj=>?_⟩
           · simp (disch:=omega) only [getPut_self,getPut_ne,getDel_ne];simp [ht]
           · have:=T.R.bd j (by omega);have:=T.R.bd t htW;omega
          obtain ⟨h',n',cs',id',RW',rbk',e1,e2,e3⟩:=ih (i+1) (by omega) _ (O++[⟨l[A[i]].i.k,l[A[i]].i.t,tr l[A[i]]⟩]) _ W rb (mk+1) d _ _ _ _ T1 U1 (by simp;omega) (by omega) (by omega) (by omega) (by omega) hW
          refine ⟨h',n',cs',id',RW',rbk',?_,by rw [hcm];exact e2,by rw [hcm];exact e3⟩
          rw [hL,← e1]
          simp (disch:=omega) [T.g0,T.g1,T.go,T.gp,T.gn,hAi,getPut_self,getPut_ne,getDel_ne,H.toHasEq.inl,inlB,H.toHasEq.pp,ppB,hat,wI64,putPut,ltF,gtF,neF,fits,hft,ht,htc,htl,hv,hk,hkl,c2,u3]
      · obtain ⟨n,hn⟩:∃ n,W[t].length=n+1:=⟨W[t].length - 1,by omega⟩
        have hcm:∀ O r,cm2 tr ra l (A[i]::r) (O,W,rb,mk)=cm2 tr ra l r (O++[⟨l[A[i]].i.k,l[A[i]].i.t,tr l[A[i]]⟩],W.set t (W[t].take n),rb+1,mk):=by
         intro O r
         have:W[t].length - 1=n:=by omega
         simp only [cm2,List.getElem?_eq_getElem hAi,c',hrow,c3,Bool.false_eq_true,if_false,hatt,this]
        rw [hn] at hv q1 q2 q3
        have hnl:(W[t].take n).length=n:=by simp;omega
        have hes3:=q3
        have hwn:IntKind.i64.wrap (n:Int)=n:=wI64 (by omega) (by omega)
        have hne0:¬ ((n:Int)+1=0):=by omega
        have hncap:n≤cap2:=by omega
        have hcap1:n+1≤cap2:=by omega
        have hcap0:0 < cap2:=by omega
        have hWs:∀ w ∈ W.set t (W[t].take n),w.length≤1000000:=by
         intro w hw
         rcases List.mem_or_eq_of_mem_set hw with q | q
         · exact hW w q
         · subst q;omega
        have hANY:∀ o,o=some (WObj.cells 8 (eHs es) true true)→AnyH o (id t) (.sl (id t) 8 0 n cap2 ex) (W[t].take n):=by
         rintro o rfl
         refine ⟨cap2,ex,es,by rw [hnl],by omega,by omega,?_,rfl⟩
         rw [hnl,← hes3,List.take_take]
         congr 1
         omega
        rcases hc0 with ⟨c0,_⟩ | ⟨k,hk,hkl,c2⟩
        · skip
          have T1:CmI vw ov ls ks ke cap ar fl ra ea ps pe (.sl (next+33) 8 0 (O.length+1) (O.length+1) false) pb ob nb lo AnyH (W.set t (W[t].take n)) [rb+1,mk,d,0] (put (put (put (put (del (put (put (put h (next+12) (.cells 4 [[AV.int .u64 l[A[i]].i.k,AV.int .u8 (t:Int),AV.str l[A[i]].i.x,AV.ro 1 (List.map eS l[A[i]].i.m) l[A[i]].i.e]] true true)) (next+27) (.cells 8 [(AV.int .u64 l[A[i]].i.k::AV.int .u8 (t:Int)::(tr l[A[i]]).c)] true true)) (next+32) (.cells 8 [(AV.int .u64 l[A[i]].i.k::AV.int .u8 (t:Int)::(tr l[A[i]]).c)] true true)) rbk) (next+33) (.cells 8 (eHs O++[(AV.int .u64 l[A[i]].i.k::AV.int .u8 (t:Int)::(tr l[A[i]]).c)]) true true)) ob (.cells 2 [[.sl (next+33) 8 0 (O.length+1) (O.length+1) false,.sl pb 1 0 ks.length ks.length false]] true false)) nb (.cells 4 [[.int .i64 (rb+1),.int .i64 mk,.int .i64 d,.int .i64 0]] true true)) pb (.cells 1 (cs.set t [.sl (id t) 8 0 n cap2 ex]) true false)) (next+88) (cs.set t [.sl (id t) 8 0 n cap2 ex]) (fun j=>if j=t then id t else id j):=by
           refine ⟨T.R.set t htW (id t) (.inl rfl) bd.1 (by omega) (by omega) _ _ (fun j hj hjt=>by have:=T.R.bd j (by omega);have:=T.nd j (by omega);have:=u9 j (by omega);simp (disch:=omega) only [getPut_self,getPut_ne,getDel_ne]) (hANY _ (by have:=u9 t htl;simp (disch:=omega) only [getPut_self,getPut_ne,getDel_ne];exact q4)),by simp [hwl],?_,?_,?_,?_,?_,?_,?_,by omega,fun j hj=>?_⟩
           · simp (disch:=omega) only [getPut_self,getPut_ne,getDel_ne]
           · simp (disch:=omega) only [getPut_self,getPut_ne,getDel_ne]
           · simp (disch:=omega) only [getPut_self,getPut_ne,getDel_ne];rfl
           · simp (disch:=omega) only [getPut_self,getPut_ne,getDel_ne];exact T.g0
           · simp (disch:=omega) only [getPut_self,getPut_ne,getDel_ne];exact T.g1
           · simp (disch:=omega) only [getPut_self,getPut_ne,getDel_ne];exact T.g2
           · simp (disch:=omega) only [getPut_self,getPut_ne,getDel_ne];exact T.g3
           · have h1:=T.nd j hj
             have h2:=T.nd t htl
             split <;> assumption
          have U1:RwsI ks pb ob nb lo (.sl (next+33) 8 0 (O.length+1) (O.length+1) false) (O++[⟨l[A[i]].i.k,l[A[i]].i.t,tr l[A[i]]⟩]) (next+33) (put (put (put (put (del (put (put (put h (next+12) (.cells 4 [[AV.int .u64 l[A[i]].i.k,AV.int .u8 (t:Int),AV.str l[A[i]].i.x,AV.ro 1 (List.map eS l[A[i]].i.m) l[A[i]].i.e]] true true)) (next+27) (.cells 8 [(AV.int .u64 l[A[i]].i.k::AV.int .u8 (t:Int)::(tr l[A[i]]).c)] true true)) (next+32) (.cells 8 [(AV.int .u64 l[A[i]].i.k::AV.int .u8 (t:Int)::(tr l[A[i]]).c)] true true)) rbk) (next+33) (.cells 8 (eHs O++[(AV.int .u64 l[A[i]].i.k::AV.int .u8 (t:Int)::(tr l[A[i]]).c)]) true true)) ob (.cells 2 [[.sl (next+33) 8 0 (O.length+1) (O.length+1) false,.sl pb 1 0 ks.length ks.length false]] true false)) nb (.cells 4 [[.int .i64 (rb+1),.int .i64 mk,.int .i64 d,.int .i64 0]] true true)) pb (.cells 1 (cs.set t [.sl (id t) 8 0 n cap2 ex]) true false)) (next+88) (fun j=>if j=t then id t else id j):=by
           refine .inr ⟨by simp,by simp,?_,by omega,by omega,by omega,by omega,by omega,fun j hj=>?_⟩
           · simp (disch:=omega) only [getPut_self,getPut_ne,getDel_ne];simp [ht]
           · have:=T.R.bd j (by omega);have:=T.R.bd t htW;show (if j=t then id t else id j)≠next+33;split <;> omega
          obtain ⟨h',n',cs',id',RW',rbk',e1,e2,e3⟩:=ih (i+1) (by omega) _ (O++[⟨l[A[i]].i.k,l[A[i]].i.t,tr l[A[i]]⟩]) _ (W.set t (W[t].take n)) (rb+1) mk d _ _ _ _ T1 U1 (by simp;omega) (by omega) (by omega) (by omega) (by omega) hWs
          refine ⟨h',n',cs',id',RW',rbk',?_,by rw [hcm];exact e2,by rw [hcm];exact e3⟩
          rw [hL,← e1]
          simp (disch:=omega) [T.g0,T.g1,T.go,T.gp,T.gn,hAi,getPut_self,getPut_ne,getDel_ne,H.toHasEq.inl,inlB,H.toHasEq.pp,ppB,hat,wI64,putPut,ltF,gtF,neF,fits,hft,ht,htc,htl,hv,hwn,hncap,hne0,hcap1,hcap0,c0,u3]
        · skip
          have T1:CmI vw ov ls ks ke cap ar fl ra ea ps pe (.sl (next+33) 8 0 (O.length+1) (O.length+1) false) pb ob nb lo AnyH (W.set t (W[t].take n)) [rb+1,mk,d,0] (put (put (put (put (del (put (put (put h (next+12) (.cells 4 [[AV.int .u64 l[A[i]].i.k,AV.int .u8 (t:Int),AV.str l[A[i]].i.x,AV.ro 1 (List.map eS l[A[i]].i.m) l[A[i]].i.e]] true true)) (next+27) (.cells 8 [(AV.int .u64 l[A[i]].i.k::AV.int .u8 (t:Int)::(tr l[A[i]]).c)] true true)) (next+32) (.cells 8 [(AV.int .u64 l[A[i]].i.k::AV.int .u8 (t:Int)::(tr l[A[i]]).c)] true true)) rbk) (next+33) (.cells 8 (eHs O++[(AV.int .u64 l[A[i]].i.k::AV.int .u8 (t:Int)::(tr l[A[i]]).c)]) true true)) ob (.cells 2 [[.sl (next+33) 8 0 (O.length+1) (O.length+1) false,.sl pb 1 0 ks.length ks.length false]] true false)) nb (.cells 4 [[.int .i64 (rb+1),.int .i64 mk,.int .i64 d,.int .i64 0]] true true)) pb (.cells 1 (cs.set t [.sl (id t) 8 0 n cap2 ex]) true false)) (next+88) (cs.set t [.sl (id t) 8 0 n cap2 ex]) (fun j=>if j=t then id t else id j):=by
           refine ⟨T.R.set t htW (id t) (.inl rfl) bd.1 (by omega) (by omega) _ _ (fun j hj hjt=>by have:=T.R.bd j (by omega);have:=T.nd j (by omega);have:=u9 j (by omega);simp (disch:=omega) only [getPut_self,getPut_ne,getDel_ne]) (hANY _ (by have:=u9 t htl;simp (disch:=omega) only [getPut_self,getPut_ne,getDel_ne];exact q4)),by simp [hwl],?_,?_,?_,?_,?_,?_,?_,by omega,fun j hj=>?_⟩
           · simp (disch:=omega) only [getPut_self,getPut_ne,getDel_ne]
           · simp (disch:=omega) only [getPut_self,getPut_ne,getDel_ne]
           · simp (disch:=omega) only [getPut_self,getPut_ne,getDel_ne];rfl
           · simp (disch:=omega) only [getPut_self,getPut_ne,getDel_ne];exact T.g0
           · simp (disch:=omega) only [getPut_self,getPut_ne,getDel_ne];exact T.g1
           · simp (disch:=omega) only [getPut_self,getPut_ne,getDel_ne];exact T.g2
           · simp (disch:=omega) only [getPut_self,getPut_ne,getDel_ne];exact T.g3
           · have h1:=T.nd j hj
             have h2:=T.nd t htl
             split <;> assumption
          have U1:RwsI ks pb ob nb lo (.sl (next+33) 8 0 (O.length+1) (O.length+1) false) (O++[⟨l[A[i]].i.k,l[A[i]].i.t,tr l[A[i]]⟩]) (next+33) (put (put (put (put (del (put (put (put h (next+12) (.cells 4 [[AV.int .u64 l[A[i]].i.k,AV.int .u8 (t:Int),AV.str l[A[i]].i.x,AV.ro 1 (List.map eS l[A[i]].i.m) l[A[i]].i.e]] true true)) (next+27) (.cells 8 [(AV.int .u64 l[A[i]].i.k::AV.int .u8 (t:Int)::(tr l[A[i]]).c)] true true)) (next+32) (.cells 8 [(AV.int .u64 l[A[i]].i.k::AV.int .u8 (t:Int)::(tr l[A[i]]).c)] true true)) rbk) (next+33) (.cells 8 (eHs O++[(AV.int .u64 l[A[i]].i.k::AV.int .u8 (t:Int)::(tr l[A[i]]).c)]) true true)) ob (.cells 2 [[.sl (next+33) 8 0 (O.length+1) (O.length+1) false,.sl pb 1 0 ks.length ks.length false]] true false)) nb (.cells 4 [[.int .i64 (rb+1),.int .i64 mk,.int .i64 d,.int .i64 0]] true true)) pb (.cells 1 (cs.set t [.sl (id t) 8 0 n cap2 ex]) true false)) (next+88) (fun j=>if j=t then id t else id j):=by
           refine .inr ⟨by simp,by simp,?_,by omega,by omega,by omega,by omega,by omega,fun j hj=>?_⟩
           · simp (disch:=omega) only [getPut_self,getPut_ne,getDel_ne];simp [ht]
           · have:=T.R.bd j (by omega);have:=T.R.bd t htW;show (if j=t then id t else id j)≠next+33;split <;> omega
          obtain ⟨h',n',cs',id',RW',rbk',e1,e2,e3⟩:=ih (i+1) (by omega) _ (O++[⟨l[A[i]].i.k,l[A[i]].i.t,tr l[A[i]]⟩]) _ (W.set t (W[t].take n)) (rb+1) mk d _ _ _ _ T1 U1 (by simp;omega) (by omega) (by omega) (by omega) (by omega) hWs
          refine ⟨h',n',cs',id',RW',rbk',?_,by rw [hcm];exact e2,by rw [hcm];exact e3⟩
          rw [hL,← e1]
          simp (disch:=omega) [T.g0,T.g1,T.go,T.gp,T.gn,hAi,getPut_self,getPut_ne,getDel_ne,H.toHasEq.inl,inlB,H.toHasEq.pp,ppB,hat,wI64,putPut,ltF,gtF,neF,fits,hft,ht,htc,htl,hv,hwn,hncap,hne0,hcap1,hcap0,hk,hkl,c2,u3]
end
end Go.D
end
section
namespace Go.D
open Go Go.Pav Go.Pw P
set_option maxHeartbeats 2000000
attribute [-simp] List.getElem_cons_drop
variable {C:WProg}
def cmF (tr:En→Nd) (ks:List Kd) (ra:List Hd) (W:List (List Hd)) (l:List En) (A:List Nat):List Hd × List (List Hd) × Int × Int × Int :=
 let s:=cm1 ks l A ra (W,0)
 let u:=cm2 tr ra l A ([],s.1,0,0)
 (u.1,u.2.1,u.2.2.1,u.2.2.2,s.2)
abbrev aCn (rb mk d lv:Int):AV:=.agg [.int .i64 rb,.int .i64 mk,.int .i64 d,.int .i64 lv]
theorem frz_st {h:WHeap} {lo hi pb rb:Nat} {id:Nat→Nat} {cs:List (List AV)} {W:List (List Hd)} {O:List Hd} {RW:AV} (hR:(O=[]∧RW=.ro 8 [] true)∨(RW=.sl rb 8 0 O.length O.length false∧Pav.get h rb=some (.cells 8 (eHs O) true true)))
 (R:Nst2 AnyH h lo hi id cs W) (gp:Pav.get h pb=some (.cells 1 cs true false)) (r:Nat) (hr:r=W.length) (n:Nat):∃ eo ps' pe',ps'.map (·.1)=W∧frzW h (n+4) (.agg [RW,.sl pb 1 0 r r false])=some (aSt O eo ps' pe'):=by
 subst hr
 obtain ⟨ps,pe,h1,h2⟩:=R.frzS (enc:=eHs) (z:=8) n (fun b v d q=>AnyH.frz q n) (mu:=true) (cap:=W.length) (ex:=false)
 rcases hR with ⟨rfl,rfl⟩ | ⟨rfl,h3⟩
 · refine ⟨true,ps,pe,h1,?_⟩
   rw [frzW_agg]
   simp only [mapO,frzW_ro,frzW_sl,gp,h2,ob,om,aggO]
   rfl
 · refine ⟨false,ps,pe,h1,?_⟩
   have h4:List.take O.length (eHs O)=eHs O:=List.take_of_length_le (by simp)
   rw [frzW_agg]
   simp only [mapO,frzW_sl,gp,h2,h3,ob,om,aggO]
   simp only [Pw.frzS,List.drop_zero,h4,List.length_map,decide_true,og,Bool.false_and,ob,om,aggO]
   rfl
theorem CmI.any {vw ov ls:Int} {ks:List Kd} {ke:Bool} {cap ar fl:Int} {ra:List Hd} {ea:Bool} {ps:List Pl} {pe:Bool} {RW:AV} {pb ob nb lo:Nat} {W:List (List Hd)} {N:List Int} {h:WHeap} {next:Nat} {cs:List (List AV)} {id:Nat→Nat}
 (T:CmI vw ov ls ks ke cap ar fl ra ea ps pe RW pb ob nb lo FullH W N h next cs id):CmI vw ov ls ks ke cap ar fl ra ea ps pe RW pb ob nb lo AnyH W N h next cs id :=
 ⟨T.R.weak (fun _ _ _ _ q=>q.any),T.wl,T.go,T.gp,T.gn,T.g0,T.g1,T.g2,T.g3,T.ne,T.nd⟩
theorem cm1_len (ks:List Kd) (l:List En) (A:List Nat):∀ (ra:List Hd) (s:List (List Hd) × Int) (B:Nat),(∀ w ∈ s.1,w.length≤B)→∀ w ∈ (cm1 ks l A ra s).1,w.length≤B+ra.length
 | [],s,B,h,w,hw=>by simpa using h w hw
 | x::r,s,B,h,w,hw=>by
  simp only [cm1] at hw
  have:=cm1_len ks l A r _ (B+1) (by
   intro w hw
   split at hw
   · have:=h w hw;omega
   · split at hw
     · have:=h w hw;omega
     · rcases List.mem_or_eq_of_mem_set hw with q | q
       · have:=h w q;omega
       · subst q
         have:(rowAt s.1 x.t).length≤B:=by
          unfold rowAt
          cases hq:s.1[x.t.toNat]? with
          | none=>simp
          | some y=>exact h y (List.mem_of_getElem? hq)
         simp;omega) w hw
  simp only [List.length_cons];omega
theorem cm2_len (tr:En→Nd) (ra:List Hd) (l:List En):∀ (A:List Nat) (s:List Hd × List (List Hd) × Int × Int) (B:Nat),(∀ w ∈ s.2.1,w.length≤B) →
 (cm2 tr ra l A s).1.length≤s.1.length+A.length∧(∀ w ∈ (cm2 tr ra l A s).2.1,w.length≤B)∧(cm2 tr ra l A s).2.1.length=s.2.1.length
 | [],s,B,h=>by simpa [cm2] using h
 | a::r,s,B,h=>by
  simp only [cm2]
  cases l[a]? with
  | none=>have:=cm2_len tr ra l r s B h;simp only [List.length_cons];exact ⟨by omega,this.2⟩
  | some e =>
   simp only
   split
   · have:=cm2_len tr ra l r (s.1++[⟨e.i.k,e.i.t,tr e⟩],s.2) B h
     simp only [List.length_cons,List.length_append,List.length_nil] at this ⊢
     exact ⟨by omega,this.2⟩
   · split
     · have:=cm2_len tr ra l r (s.1++[⟨e.i.k,e.i.t,tr e⟩],s.2.1,s.2.2.1,s.2.2.2+1) B h
       simp only [List.length_cons,List.length_append,List.length_nil] at this ⊢
       exact ⟨by omega,this.2⟩
     · have:=cm2_len tr ra l r (s.1++[⟨e.i.k,e.i.t,tr e⟩],s.2.1.set e.i.t.toNat ((rowAt s.2.1 e.i.t).take ((rowAt s.2.1 e.i.t).length - 1)),s.2.2.1+1,s.2.2.2) B (by
        intro w hw
        rcases List.mem_or_eq_of_mem_set hw with q | q
        · exact h w q
        · subst q
          have:(rowAt s.2.1 e.i.t).length≤B:=by
           unfold rowAt
           cases hq:s.2.1[e.i.t.toNat]? with
           | none=>simp
           | some y=>exact h y (List.mem_of_getElem? hq)
          simp;omega)
       simp only [List.length_cons,List.length_append,List.length_nil,List.length_set] at this ⊢
       exact ⟨by omega,this.2⟩
theorem frz_cn (h:WHeap) (n:Nat) (a b c d:Int):frzW h (n+2) (aCn a b c d)=some (aCn a b c d):=rfl
theorem rcommit_ok (H:HasQm C) (tr:En→Nd) (vw ov ls:Int) (ks:List Kd) (ke:Bool) (cap ar fl:Int) (ra:List Hd) (ea:Bool) (ps:List Pl) (pe:Bool) (l:List En) (e:Bool) (A:List Nat) (f:Bool)
 (hA:A.length≤1000) (hAl:∀ a ∈ A,a < l.length) (hra:ra.length≤1000) (hpk:ps.length=ks.length) (hkl:ks.length≤1000) (hk0:0 < ks.length) (hps:∀ p ∈ ps,p.1.length≤100000)
 (hty:∀ x ∈ l,∃ t:Nat,x.i.t=t∧t < ks.length) (htyr:∀ x ∈ ra,∃ t:Nat,x.t=t∧t < ks.length) (htr:∀ (a:Nat) (h:a < l.length),FnW C 417 [aR ks ke cap,.ro 6 (l.map eEn) e,.int .i64 a]=some (.agg (tr l[a]).c)) :
 ∃ (ps':List Pl) (ea' pe':Bool),ps'.map (·.1)=(cmF tr ks ra (ps.map (·.1)) l A).2.1 ∧
  FnW C 285 [.agg (cCf vw ov ls ks ke cap ar fl),aSt ra ea ps pe,.ro 6 (l.map eEn) e,.ro 1 (A.map eAt) f]=some (.tup (
   if live ((cmF tr ks ra (ps.map (·.1)) l A).1::(cmF tr ks ra (ps.map (·.1)) l A).2.1) > ar then [aSt [] true [] true,aCn 0 0 0 0,.int .i64 15]
   else [aSt (cmF tr ks ra (ps.map (·.1)) l A).1 ea' ps' pe',aCn (cmF tr ks ra (ps.map (·.1)) l A).2.2.1 (cmF tr ks ra (ps.map (·.1)) l A).2.2.2.1 (cmF tr ks ra (ps.map (·.1)) l A).2.2.2.2 (live ((cmF tr ks ra (ps.map (·.1)) l A).1::(cmF tr ks ra (ps.map (·.1)) l A).2.1)),.int .i64 0])):=by
 obtain ⟨v,h',n',e1,Rv,pb,cs,id,lo,rfl,e2,R,gp,l1,l2,l3,l4,l5⟩:=rcopyS_ok H.toHasQc ra ea ps pe (by omega) (by omega) (by omega) (fun p hp=>by have:=hps p hp;omega)
  [(0,.cells 7 [cCf vw ov ls ks ke cap ar fl] true true),(1,.cells 2 [[.ro 8 (ra.map eHd) ea,.ro 1 (ps.map ePl) pe]] true true),(2,.cells 2 [[.ro 8 [] true,.ro 1 [] true]] true true),(3,.cells 4 [[.int .i64 0,.int .i64 0,.int .i64 0,.int .i64 0]] true true)] 7
 have g0:=l5 0 (by omega)
 have g1:=l5 1 (by omega)
 have g2:=l5 2 (by omega)
 have g3:=l5 3 (by omega)
 simp at g0 g1 g2 g3
 rw [hpk] at e1 l4
 rw [fnW_eq H.f285 rfl]
 obtain ⟨L,hL⟩:∃ L,L=CK C 0 (pureFin w285.res) [] w285.body ⟨argW 0 [.agg (cCf vw ov ls ks ke cap ar fl),aSt ra ea ps pe,.ro 6 (l.map eEn) e,.ro 1 (A.map eAt) f] [],[],0⟩:=⟨_,rfl⟩
 rw [← hL]
 have hL1:L=CK C 0 (pureFin [.cell 8 2 true,.cell 9 4 true,.tmp 10]) [.sq w285_L1,.bk 0 ⟨true,[12,11,9,8,5,4,3,2],[(9999,65537)]⟩,.sq w285_c1] w285_B1
  ⟨[(13,.int .i64 (0:Nat)),(12,.ptr (n'+4) 0 0),(11,.ptr n' 0 0),(9,.ptr 3 0 0),(8,.ptr 2 0 0),(5,.ptr 1 0 0),(4,.ptr 0 0 0),(3,.ro 1 (A.map eAt) f),(2,.ro 6 (l.map eEn) e)],
   put (put h' n' (.cells 2 [[.ro 8 [] true,.sl pb 1 0 ks.length ks.length false]] true false)) (n'+4) (.cells 4 [[.int .i64 0,.int .i64 0,.int .i64 0,.int .i64 0]] true true),n'+6⟩:=by
  rw [hL]
  rcases e2 with ⟨_,rfl⟩ | ⟨_,rb0,rfl,_⟩
  · simp (disch:=omega) [w285,H.toHasEq.inl,inlB,H.toHasEq.pp,ppB,e1,getPut_self,getPut_ne,putPut]
  · simp (disch:=omega) [w285,H.toHasEq.inl,inlB,H.toHasEq.pp,ppB,e1,getPut_self,getPut_ne,putPut]
 have T0:CmI vw ov ls ks ke cap ar fl ra ea ps pe (.ro 8 [] true) pb n' (n'+4) lo FullH (ps.map (·.1)) [0,0,0,0] (put (put h' n' (.cells 2 [[.ro 8 [] true,.sl pb 1 0 ks.length ks.length false]] true false)) (n'+4) (.cells 4 [[.int .i64 0,.int .i64 0,.int .i64 0,.int .i64 0]] true true)) (n'+6) cs id:=by
  refine ⟨R.mono (by omega) (fun j hj=>by have:=R.bd j hj;simp (disch:=omega) only [getPut_self,getPut_ne]),by simpa using hpk,?_,?_,?_,?_,?_,?_,?_,by omega,fun j hj=>?_⟩
  · simp (disch:=omega) only [getPut_self,getPut_ne]
  · simp (disch:=omega) only [getPut_self,getPut_ne];exact gp
  · simp (disch:=omega) only [getPut_self,getPut_ne];rfl
  · simp (disch:=omega) only [getPut_self,getPut_ne];exact g0
  · simp (disch:=omega) only [getPut_self,getPut_ne];exact g1
  · simp (disch:=omega) only [getPut_self,getPut_ne];exact g2
  · simp (disch:=omega) only [getPut_self,getPut_ne];exact g3
  · have h1:=R.bd j (by simp;omega)
    have h2:=l4 j hj
    omega
 obtain ⟨h1,n1,cs1,id1,x1,T1⟩:=cm1_loop vw ov ls ks ke cap ar fl ra ea ps pe H.toHasQc l e A f (by omega) hAl hra htyr pb n' (n'+4) lo ra.length 0 (by simp) (ps.map (·.1)) 0 _ _ _ _ T0
  (fun w hw=>by obtain ⟨p,hp,rfl⟩:=List.mem_map.1 hw;have:=hps p hp;omega) (by omega) (by omega)
 rw [List.drop_zero] at T1
 have hl1:=cm1_len ks l A ra (ps.map (·.1),0) 100000 (fun w hw=>by obtain ⟨p,hp,rfl⟩:=List.mem_map.1 hw;exact hps p hp)
 obtain ⟨h2,n2,cs2,id2,RW,rbk,x2,T2,U2⟩:=cm2_loop vw ov ls ks ke cap ar fl ra ea ps pe H tr l e A f hA hAl (by omega) hty htr pb n' (n'+4) lo A.length 0 (by simp) (.ro 8 [] true) [] 0 _ 0 0 _ h1 (n1+1) cs1 id1
  (T1.any.later vw ov ls ks ke cap ar fl ra ea ps pe (by omega) (fun _ _=>rfl)) (.inl ⟨rfl,rfl⟩) (by simp;omega) (by omega) (by omega) (by omega) (by omega) (fun w hw=>by have:=hl1 w hw;omega)
 rw [List.drop_zero] at T2 U2
 obtain ⟨L2,hL2⟩:∃ L2,L2=CK C 0 (pureFin [.cell 8 2 true,.cell 9 4 true,.tmp 10]) [] w285_c0 ⟨[(12,.ptr (n'+4) 0 0),(11,.ptr n' 0 0),(9,.ptr 3 0 0),(8,.ptr 2 0 0),(4,.ptr 0 0 0)],h2,n2⟩:=⟨_,rfl⟩
 have hL3:L=L2:=by
  rw [← hL2] at x2
  simp at x2
  rw [hL1,x1,ck_unf w285_c1.eq_1]
  simp [x2]
 have hl2:=cm2_len tr ra l A ([],(cm1 ks l A ra (ps.map (·.1),0)).1,0,0) _ hl1
 rw [hL3]
 unfold cmF
 simp only
 simp only [List.length_nil,Nat.zero_add] at hl2
 generalize hS:cm1 ks l A ra (ps.map (·.1),0)=S at *
 generalize hV:cm2 tr ra l A ([],S.1,0,0)=V at *
 have hR2:(V.1=[]∧RW=.ro 8 [] true)∨(RW=.sl rbk 8 0 V.1.length V.1.length false∧Pav.get h2 rbk=some (.cells 8 (eHs V.1) true true)):=by
  rcases U2 with u | ⟨_,u2,u3,_⟩
  · exact .inl u
  · exact .inr ⟨u2,u3⟩
 have hR4:∀ hf:WHeap,(∀ j,lo≤j→j≠n'+4→Pav.get hf j=Pav.get h2 j)→(V.1=[]∧RW=.ro 8 [] true)∨(RW=.sl rbk 8 0 V.1.length V.1.length false∧Pav.get hf rbk=some (.cells 8 (eHs V.1) true true)):=by
  intro hf hg
  rcases U2 with u | ⟨_,u2,u3,u4,u5,u6,u7,u8,_⟩
  · exact .inl u
  · exact .inr ⟨u2,by rw [hg _ u4 u8];exact u3⟩
 have ne:=T2.ne
 obtain ⟨eo,ps1,pe1,f1,f2⟩:=frz_st hR2 T2.R T2.gp ks.length T2.wl.symm 12
 have hlv:=rhlive_ok H.toHasQo V.1 eo ps1 pe1 (by omega) (fun p hp=>by have:=hl2.2.1 p.1 (by rw [← f1];exact List.mem_map.2 ⟨p,hp,rfl⟩);omega) (by have:=congrArg List.length f1;simp at this;have:=T2.wl;omega)
 rw [f1] at hlv
 obtain ⟨lv,hlve⟩:∃ lv,live (V.1::V.2.1)=lv:=⟨_,rfl⟩
 rw [hlve] at hlv
 have hcell:AV.cell RW=true:=by rcases hR2 with ⟨_,rfl⟩ | ⟨rfl,_⟩ <;> rfl
 rw [hL2,ck_unf w285_c0.eq_1]
 clear hV hS hL2 hL3 x1 x2 hL1 hL
 by_cases c:lv > ar
 · refine ⟨ps1,eo,pe1,f1,?_⟩
   rw [hlve,if_pos c]
   rcases hR2 with ⟨q1,rfl⟩ | ⟨rfl,q3⟩
   · rw [q1] at f2 hlv
     simp (disch:=omega) [T2.go,T2.gn,T2.g0,T2.g2,T2.g3,getPut_self,getPut_ne,H.toHasEq.inl,inlB,H.toHasEq.pp,ppB,f2,hlv,c,-frzW_agg,putPut]
     rfl
   · simp (disch:=omega) [T2.go,T2.gn,T2.g0,T2.g2,T2.g3,getPut_self,getPut_ne,H.toHasEq.inl,inlB,H.toHasEq.pp,ppB,f2,hlv,c,-frzW_agg,putPut]
     rfl
 · rw [hlve]
   rcases hR2 with ⟨q1,rfl⟩ | ⟨rfl,q3⟩
   · obtain ⟨hf,hfe⟩:∃ hf,hf=put (put (put h2 (n'+4) (.cells 4 [[.int .i64 V.2.2.1,.int .i64 V.2.2.2,.int .i64 S.2,.int .i64 lv]] true true)) 2 (.cells 2 [[.ro 8 [] true,.sl pb 1 0 ks.length ks.length false]] true false)) 3 (.cells 4 [[.int .i64 V.2.2.1,.int .i64 V.2.2.2,.int .i64 S.2,.int .i64 lv]] true true):=⟨_,rfl⟩
     have hg:∀ j,lo≤j→j≠n'+4→Pav.get hf j=Pav.get h2 j:=fun j h1 h2=>by rw [hfe];simp (disch:=omega) only [getPut_ne]
     obtain ⟨eo',ps2,pe2,f3,f4⟩:=frz_st (hR4 hf hg) (T2.R.mono (Nat.le_refl _) (fun j hj=>hg _ (T2.R.bd j hj).1 (T2.nd j (by rw [← T2.wl];exact hj)).2.2)) (by rw [hg _ (by omega) (by omega)];exact T2.gp) ks.length T2.wl.symm 11
     refine ⟨ps2,eo',pe2,f3,?_⟩
     rw [if_neg c]
     rw [hfe] at f4
     rw [q1] at f2 hlv
     simp (disch:=omega) [T2.go,T2.gn,T2.g0,T2.g2,T2.g3,getPut_self,getPut_ne,H.toHasEq.inl,inlB,H.toHasEq.pp,ppB,f2,hlv,c,-frzW_agg,putPut]
     rw [f4,frz_cn];rfl
   · obtain ⟨hf,hfe⟩:∃ hf,hf=put (put (put h2 (n'+4) (.cells 4 [[.int .i64 V.2.2.1,.int .i64 V.2.2.2,.int .i64 S.2,.int .i64 lv]] true true)) 2 (.cells 2 [[.sl rbk 8 0 V.1.length V.1.length false,.sl pb 1 0 ks.length ks.length false]] true false)) 3 (.cells 4 [[.int .i64 V.2.2.1,.int .i64 V.2.2.2,.int .i64 S.2,.int .i64 lv]] true true):=⟨_,rfl⟩
     have hg:∀ j,lo≤j→j≠n'+4→Pav.get hf j=Pav.get h2 j:=fun j h1 h2=>by rw [hfe];simp (disch:=omega) only [getPut_ne]
     obtain ⟨eo',ps2,pe2,f3,f4⟩:=frz_st (hR4 hf hg) (T2.R.mono (Nat.le_refl _) (fun j hj=>hg _ (T2.R.bd j hj).1 (T2.nd j (by rw [← T2.wl];exact hj)).2.2)) (by rw [hg _ (by omega) (by omega)];exact T2.gp) ks.length T2.wl.symm 11
     refine ⟨ps2,eo',pe2,f3,?_⟩
     rw [if_neg c]
     rw [hfe] at f4
     simp (disch:=omega) [T2.go,T2.gn,T2.g0,T2.g2,T2.g3,getPut_self,getPut_ne,H.toHasEq.inl,inlB,H.toHasEq.pp,ppB,f2,hlv,c,-frzW_agg,putPut]
     rw [f4,frz_cn];rfl
end Go.D
end
section
namespace Go.D
open Go Go.Pav Go.Pw P
attribute [-simp] List.getElem_cons_drop
variable {C:WProg}
structure Rw where
 k:Int
 t:Int
 s:Int
 n:Nd
@[simp] def eRw (r:Rw):List AV:=[.int .u64 r.k,.int .i64 r.t,.int .i64 r.s,.int .u8 r.n.k,.str r.n.t,.str r.n.y,.ro 2 (r.n.a.map eA) r.n.ae,.str r.n.x,.ro 6 (r.n.ch.map Nd.c) r.n.ce]
structure Sc where
 o:Int
 r:List Rw
 e:Bool
 p:Bool
 h:Rw
@[simp] def eSc (x:Sc):List AV:=[.int .i64 x.o,.ro 9 (x.r.map eRw) x.e,.bool x.p,.int .u64 x.h.k,.int .i64 x.h.t,.int .i64 x.h.s,.int .u8 x.h.n.k,.str x.h.n.t,.str x.h.n.y,.ro 2 (x.h.n.a.map eA) x.h.n.ae,.str x.h.n.x,.ro 6 (x.h.n.ch.map Nd.c) x.h.n.ce]
structure HasQs (C:WProg):Prop extends HasQo C where
 f289:C.fns.get 289=some w289
 f438:C.fns.get 438=some w438
end Go.D
end
section
namespace Go.D
open Go Go.Pav Go.Pw P
set_option maxHeartbeats 1000000
attribute [-simp] List.getElem_cons_drop
variable {C:WProg}
section
variable (ra:List Hd) (ea:Bool) (ps:List Pl) (pe:Bool)
abbrev hpV (s:Int) (ok:Bool):WHeap:=[(0,.cells 2 [[.ro 8 (ra.map eHd) ea,.ro 1 (ps.map ePl) pe]] true true),(2,.cells 1 [[.int .i64 s]] true true),(3,.cells 1 [[.bool ok]] true true),
 (6,.cells 1 [[.fn 438 [.ptr 3 0 0,.ptr 2 0 0,.ptr 6 0 0]]] true false),(12,.cells 1 [[.ro 8 (ra.map eHd) ea]] true true)]
theorem lv5_rows (H:HasQs C) (X:AV) (hX:X=.sl 12 1 0 1 1 true∨∃ (l:List Pl) (e:Bool),X=.ro 1 (l.map ePl) e) (l:List Hd) (e:Bool) (hl:l.length≤1000000) (n:Nat) (hn:13≤n):∀ m i,m+i=l.length→∀ (s:Int) (ok:Bool),0≤s→s+64 * m≤1000000000000000 →
 CK C n (fnEndW []) [.sq w438_L0,.bk 0 ⟨true,[3,0],[]⟩,.sq w438_c0] w438_B0 ⟨[(14,.int .i64 i),(13,.int .i64 l.length),(12,.ro 8 (l.map eHd) e),(3,.ptr 6 0 0),(2,.ptr 2 0 0),(1,.ptr 3 0 0),(0,X)],hpV ra ea ps pe s ok,n⟩ =
  CK C n (fnEndW []) [] w438_c0 ⟨[(3,.ptr 6 0 0),(0,X)],hpV ra ea ps pe (s+(cntS (l.drop i):Nat)) (ok&&okS (l.drop i)),n⟩:=by
 have n0:0 < n:=by omega
 have n2:2 < n:=by omega
 have n3:3 < n:=by omega
 have n6:6 < n:=by omega
 have n12:12 < n:=by omega
 have m1:¬ n=0:=by omega
 have m2:¬ n=3:=by omega
 have m3:¬ n=9:=by omega
 have m4:¬ n≤3:=by omega
 have m5:¬ n≤9:=by omega
 have m6:¬ n+1+1+1 < n:=by omega
 have m7:¬ n≤12:=by omega
 have m8:¬ n=2:=by omega
 have m9:¬ n=6:=by omega
 have m10:¬ n=12:=by omega
 have p0:¬ 0=n:=by omega
 have p2:¬ 2=n:=by omega
 have p3:¬ 3=n:=by omega
 have p6:¬ 6=n:=by omega
 have p12:¬ 12=n:=by omega
 intro m
 induction m with
 | zero =>
  intro i hi s ok h0 h1
  have h2:l.drop i=[]:=List.drop_eq_nil_of_le (by omega)
  have h3:¬ i < l.length:=by omega
  rw [h2,ck_unf w438_B0.eq_1]
  rcases hX with rfl | ⟨L,E,rfl⟩
  · simp (disch:=omega) [h3,cntS,okS,n0,n2,n3,n6,n12]
  · simp (disch:=omega) [h3,cntS,okS,n0,n2,n3,n6,n12]
 | succ m ih =>
  intro i hi s ok h0 h1
  have h3:i < l.length:=by omega
  have hr1:=check_ok H.toHasR.toHasM l[i].n
  have hr2:=count_ok H.toHasR.toHasM l[i].n
  have hc:=cnt_le l[i].n
  have:=ih (i+1) (by omega) (s+(cnt l[i].n:Nat)) (ok&&decide (cnt l[i].n≠0)) (by omega) (by omega)
  have ho:∀ q,(ok&&okS (l[i]::q))=((ok&&decide (cnt l[i].n≠0))&&okS q):=by intro q;simp [okS,Bool.and_assoc]
  rw [drop_cons h3,ho,cntS]
  rw [ck_unf w438_B0.eq_1]
  rw [Nd.c_eq] at hr1 hr2
  by_cases c:cnt l[i].n=0
  · rw [if_pos c] at hr1
    rw [c] at hr2 this
    simp at this
    cases ok
    · rcases hX with rfl | ⟨L,E,rfl⟩
      · simp (disch:=omega) [h3,hr1,hr2,H.toHasEq.inl,inlB,H.toHasEq.pp,ppB,wI64,n0,n2,n3,n6,n12,m1,m2,m3,m4,m5,m6,m7,m8,m9,m10,p0,p2,p3,p6,p12,c,Nd.c_eq]
        rw [this]
      · simp (disch:=omega) [h3,hr1,hr2,H.toHasEq.inl,inlB,H.toHasEq.pp,ppB,wI64,n0,n2,n3,n6,n12,m1,m2,m3,m4,m5,m6,m7,m8,m9,m10,p0,p2,p3,p6,p12,c,Nd.c_eq]
        rw [this]
    · rcases hX with rfl | ⟨L,E,rfl⟩
      · simp (disch:=omega) [h3,hr1,hr2,H.toHasEq.inl,inlB,H.toHasEq.pp,ppB,wI64,n0,n2,n3,n6,n12,m1,m2,m3,m4,m5,m6,m7,m8,m9,m10,p0,p2,p3,p6,p12,c,Nd.c_eq]
        rw [this]
      · simp (disch:=omega) [h3,hr1,hr2,H.toHasEq.inl,inlB,H.toHasEq.pp,ppB,wI64,n0,n2,n3,n6,n12,m1,m2,m3,m4,m5,m6,m7,m8,m9,m10,p0,p2,p3,p6,p12,c,Nd.c_eq]
        rw [this]
  · rw [if_neg c] at hr1
    cases ok
    · rcases hX with rfl | ⟨L,E,rfl⟩
      · simp (disch:=omega) [h3,hr1,hr2,H.toHasEq.inl,inlB,H.toHasEq.pp,ppB,wI64,n0,n2,n3,n6,n12,m1,m2,m3,m4,m5,m6,m7,m8,m9,m10,p0,p2,p3,p6,p12,c,Nd.c_eq]
        simp [c] at this
        rw [this];simp [Int.add_assoc]
      · simp (disch:=omega) [h3,hr1,hr2,H.toHasEq.inl,inlB,H.toHasEq.pp,ppB,wI64,n0,n2,n3,n6,n12,m1,m2,m3,m4,m5,m6,m7,m8,m9,m10,p0,p2,p3,p6,p12,c,Nd.c_eq]
        simp [c] at this
        rw [this];simp [Int.add_assoc]
    · rcases hX with rfl | ⟨L,E,rfl⟩
      · simp (disch:=omega) [h3,hr1,hr2,H.toHasEq.inl,inlB,H.toHasEq.pp,ppB,wI64,n0,n2,n3,n6,n12,m1,m2,m3,m4,m5,m6,m7,m8,m9,m10,p0,p2,p3,p6,p12,c,Nd.c_eq]
        simp [c] at this
        rw [this];simp [Int.add_assoc]
      · simp (disch:=omega) [h3,hr1,hr2,H.toHasEq.inl,inlB,H.toHasEq.pp,ppB,wI64,n0,n2,n3,n6,n12,m1,m2,m3,m4,m5,m6,m7,m8,m9,m10,p0,p2,p3,p6,p12,c,Nd.c_eq]
        simp [c] at this
        rw [this];simp [Int.add_assoc]
theorem lv5_pools (H:HasQs C) (hpl:∀ p ∈ ps,p.1.length≤1000000):∀ (l:List Pl),(∀ p ∈ l,p.1.length≤1000000)→∀ (e:Bool) (n:Nat),13≤n→∀ (s:Int) (ok:Bool),0≤s→s+64000000 * l.length≤1000000000000000 →
 ∃ n',RnW C 438 [.ro 1 (l.map ePl) e,.ptr 3 0 0,.ptr 2 0 0,.ptr 6 0 0] (hpV ra ea ps pe s ok) n=some (.tup [],hpV ra ea ps pe (s+(cntL (l.map (·.1)):Nat)) (ok&&okL (l.map (·.1))),n'):=by
 intro l
 induction l with
 | nil =>
  intro _ e n hn s ok h0 h1
  rw [rnW_eq (args:=[.ro 1 (([]:List Pl).map ePl) e,.ptr 3 0 0,.ptr 2 0 0,.ptr 6 0 0]) H.f438 rfl _ n]
  refine ⟨?_,?_⟩
  rotate_left
  · simp [w438,H.toHasEq.inl,inlB,H.toHasEq.pp,ppB,cntL,okL]
    rfl
 | cons p l ih =>
  intro hl e n hn s ok h0 h1
  have n0:0 < n:=by omega
  have n2:2 < n:=by omega
  have n3:3 < n:=by omega
  have n6:6 < n:=by omega
  have n12:12 < n:=by omega
  have hp:=hl p (by simp)
  have hc:=cntS_le p.1
  simp only [List.length_cons] at h1
  have hr:=lv5_rows ra ea ps pe H (.ro 1 ((p::l).map ePl) e) (.inr ⟨p::l,e,rfl⟩) p.1 p.2 hp n hn p.1.length 0 (by simp) s ok h0 (by omega)
  rw [List.drop_zero] at hr
  rw [rnW_eq (args:=[.ro 1 ((p::l).map ePl) e,.ptr 3 0 0,.ptr 2 0 0,.ptr 6 0 0]) H.f438 rfl _ n]
  simp only [List.map_cons,okL,List.all_cons,cntL]
  have hne:¬ ((l.length:Int)+1=0):=by omega
  obtain ⟨n1,hq⟩:=ih (fun q hq=>hl q (by simp [hq])) e (n+4) (by omega) (s+(cntS p.1:Nat)) (ok&&okS p.1) (by omega) (by omega)
  have ht:List.take l.length (l.map ePl)=l.map ePl:=List.take_of_length_le (by simp)
  have ha:(ok&&(okS p.1&&(l.map (·.1)).all okS))=((ok&&okS p.1)&&okL (l.map (·.1))):=by rw [Bool.and_assoc];rfl
  have hs:s+((cntS p.1+cntL (l.map (·.1)):Nat):Int)=s+(cntS p.1:Nat)+(cntL (l.map (·.1)):Nat):=by omega
  rw [ha,hs]
  generalize s+((cntS p.1:Nat):Int)+((cntL (l.map (·.1)):Nat):Int)=S at *
  generalize (ok&&okS p.1&&okL (l.map (·.1)))=O at *
  simp at hr
  refine ⟨?_,?_⟩
  rotate_left
  · simp [w438,H.toHasEq.inl,inlB,H.toHasEq.pp,ppB,n0,n2,n3,n6,n12,hne,hr]
    rw [ck_unf w438_c0.eq_1]
    simp [w438,H.toHasEq.inl,inlB,H.toHasEq.pp,ppB,n0,n2,n3,n6,n12,hne,hr,ht,hq]
    rfl
theorem hlive_ok (H:HasQs C) (hra:ra.length≤1000000) (hps:∀ p ∈ ps,p.1.length≤1000000) (hpl:ps.length≤1000):FnW C 289 [aSt ra ea ps pe]=some (.int .i64 (live (ra::ps.map (·.1)))):=by
 have hc:=cntS_le ra
 rw [fnW_eq H.f289 rfl]
 have e1:∃ n',13≤n'∧RnW C 438 [.sl 12 1 0 1 1 true,.ptr 3 0 0,.ptr 2 0 0,.ptr 6 0 0] (hpV ra ea ps pe 1 true) 14=some (.tup [],hpV ra ea ps pe (1+(cntS ra:Nat)) (okS ra),n'):=by
  have hr:=lv5_rows ra ea ps pe H (.sl 12 1 0 1 1 true) (.inl rfl) ra ea hra 14 (by omega) ra.length 0 (by simp) 1 true (by omega) (by omega)
  rw [List.drop_zero] at hr
  rw [rnW_eq (args:=[.sl 12 1 0 1 1 true,.ptr 3 0 0,.ptr 2 0 0,.ptr 6 0 0]) H.f438 rfl _ 14]
  simp at hr
  have e0:RnW C 438 [.ro 1 [] true,.ptr 3 0 0,.ptr 2 0 0,.ptr 6 0 0] (hpV ra ea ps pe (1+(cntS ra:Nat)) (okS ra)) 18=some (.tup [],hpV ra ea ps pe (1+(cntS ra:Nat)) (okS ra),21):=by
   rw [rnW_eq (args:=[.ro 1 [] true,.ptr 3 0 0,.ptr 2 0 0,.ptr 6 0 0]) H.f438 rfl _ 18]
   simp [w438,H.toHasEq.inl,inlB,H.toHasEq.pp,ppB,cntL,okL]
  generalize 1+((cntS ra:Nat):Int)=S at *
  refine ⟨?_,?_,?_⟩
  rotate_right
  · simp [w438,H.toHasEq.inl,inlB,H.toHasEq.pp,ppB,hr]
    rw [ck_unf w438_c0.eq_1]
    simp [w438,H.toHasEq.inl,inlB,H.toHasEq.pp,ppB,hr,e0]
    rfl
  · omega
 obtain ⟨n1,hn1,e1⟩:=e1
 obtain ⟨n2,e2⟩:∃ n',RnW C 438 [.ro 1 (ps.map ePl) pe,.ptr 3 0 0,.ptr 2 0 0,.ptr 6 0 0] (hpV ra ea ps pe (1+(cntS ra:Nat)) (okS ra)) (n1+1+1+1+1)=_:=lv5_pools ra ea ps pe H hps ps hps pe (n1+1+1+1+1) (by omega) (1+(cntS ra:Nat)) (okS ra) (by omega) (by omega)
 have hl:live (ra::ps.map (·.1))=if (okS ra&&okL (ps.map (·.1)))=true then 1+((cntS ra:Nat):Int)+(cntL (ps.map (·.1)):Nat) else 0:=by
  unfold live;rw [okL_cons,cntL];simp [Int.add_assoc]
 rw [hl]
 generalize 1+((cntS ra:Nat):Int)+((cntL (ps.map (·.1)):Nat):Int)=S2 at *
 generalize 1+((cntS ra:Nat):Int)=S at *
 generalize (okS ra&&okL (ps.map (·.1)))=O at *
 cases O
 · simp [w289,H.toHasEq.inl,inlB,H.toHasEq.pp,ppB,e1,e2]
 · simp [w289,H.toHasEq.inl,inlB,H.toHasEq.pp,ppB,e1,e2]
end
end Go.D
end
section
namespace Go.D
open Go Go.Pav Go.Pw P
attribute [-simp] List.getElem_cons_drop
variable {C:WProg}
structure HasTr (C:WProg):Prop extends HasG C where
 f238:C.fns.get 238=some w238
theorem tree_at (H:HasTr C) (ks:List Kd) (ke:Bool) (cap:Int) (hr:RuIn ks) (l:List En) (e:Bool) (hl:l.length≤10000) (hs:∀ x ∈ l,EnIn x) (hck:ckE ks cap l=0) (a:Nat) (ha:a < l.length) (ht:l[a].i.t < ks.length) :
 FnW C 238 [aR ks ke cap,aL l e,.int .i64 a]=some (.tup [.agg (rndN (kdAt ks l[a].i.t).p l[a].i cap).c,.int .i64 (rndE (kdAt ks l[a].i.t).p l[a].i cap)]):=by
 have hc:=lcheck_ok H.toHasK ks ke cap hr l e (by omega) hs
 rw [hck] at hc
 have h:=rrender_ok H.toHasK ks ke cap l[a].i (hs _ (List.getElem_mem ha)).i ht hr
 rw [fnW_eq H.f238 rfl]
 generalize rndN (kdAt ks l[a].i.t).p l[a].i cap=N at *
 generalize rndE (kdAt ks l[a].i.t).p l[a].i cap=E at *
 rw [Nd.c_eq] at h ⊢
 simp only [aR,eIt] at h
 have a1:¬ (a:Int) < 0:=by omega
 have a2:¬ (l.length:Int)≤a:=by omega
 simp (disch:=omega) [w238,hc,h,ha,a1,a2,H.inl,inlB,H.pp,ppB]
structure HasCp (C:WProg):Prop extends HasEq C,HasTr C,HasAt C where
 f507:C.fns.get 507=some w507
 f554:C.fns.get 554=some w554
 f553:C.fns.get 553=some w553
theorem cloneA_ok (H:HasCp C) (l:List (Bs × Bs)) (e:Bool) (hl:l.length≤1000000):FnW C 554 [.ro 2 (l.map eA) e]=some (.ro 2 (l.map eA) l.isEmpty):=by
 rw [fnW_eq H.f554 rfl]
 cases l with
 | nil=>simp [w554,ck_cln]
 | cons a r =>
  simp only [List.length_cons] at hl
  have h1:(r.length+1) * 33≤35184372088832:=by omega
  have h2:List.take r.length (List.map eA r)=List.map eA r:=List.take_of_length_le (by simp)
  simp [w554,ck_cln2,clnC,isEmptyRo,h1,h2]
theorem clipA_ok (H:HasCp C) (l:List (Bs × Bs)) (e:Bool):FnW C 553 [.ro 2 (l.map eA) e]=some (.ro 2 (l.map eA) true):=by
 have h:List.take l.length (List.map eA l)=List.map eA l:=List.take_of_length_le (by simp)
 rw [fnW_eq H.f553 rfl]
 simp [w553,h]
theorem gr_get {α β:Type} (f:α→β) (G:List α) (z:β) (m:Nat):(G.map f++List.replicate (m+1) z)[G.length]?=some z:=by
 rw [List.getElem?_append_right (by simp)];simp
theorem gr_set {α β:Type} (f:α→β) (G:List α) (z:β) (m:Nat) (y:α):(G.map f++List.replicate (m+1) z).set G.length (f y)=(G++[y]).map f++List.replicate m z:=by
 rw [List.set_append_right _ _ (by simp)];simp [List.replicate_succ]
theorem rcs_bd:∀ (l:List Nd) (lv c:Nat),rcs l lv c≤64→∀ m ∈ l,rc m lv≤64
 | [],_,_,_,m,hm=>by cases hm
 | n::r,lv,c,h,m,hm=>by
  rw [rcs] at h
  by_cases q:c≤64
  · rw [if_pos q] at h
    have h1:=rcs_ge r lv (c+rc n lv)
    rcases List.mem_cons.1 hm with e | e
    · subst e;omega
    · exact rcs_bd r lv _ h m e
  · rw [if_neg q] at h;omega
mutual
theorem rc_up:∀ (n:Nd) (lv:Nat),rc n lv≤64→rc n (lv+1)=rc n lv
 | ⟨k,t,y,a,ae,x,ch,ce⟩,0,h=>by rw [rc] at h;omega
 | ⟨k,t,y,a,ae,x,ch,ce⟩,lv+1,h=>by
  rw [rc] at h ⊢
  rw [rc]
  by_cases q:alone ⟨k,t,y,a,ae,x,ch,ce⟩=true
  · rw [if_pos q] at h
    rw [if_pos q,if_pos q]
    exact rcs_up ch lv 1 h
  · rw [if_neg q] at h;omega
theorem rcs_up:∀ (l:List Nd) (lv c:Nat),rcs l lv c≤64→rcs l (lv+1) c=rcs l lv c
 | [],lv,c,h=>by rw [rcs,rcs]
 | n::r,lv,c,h=>by
  rw [rcs] at h ⊢
  rw [rcs]
  by_cases q:c≤64
  · rw [if_pos q] at h
    rw [if_pos q,if_pos q]
    have h1:=rcs_ge r lv (c+rc n lv)
    have e:=rc_up n lv (by omega)
    rw [e]
    exact rcs_up r lv _ h
  · rw [if_neg q] at h;omega
end
inductive NdV:Nd→Prop
 | mk (n:Nd) (hc:cnt n≠0) (h1:n.a.length≤8) (h2:n.ch.length≤16) (h:∀ m ∈ n.ch,NdV m):NdV n
theorem ndv_rc:∀ (lv:Nat),lv≤6→∀ n:Nd,rc n lv≤64→NdV n
 | 0,_,n,h=>by rw [rc_z] at h;omega
 | lv+1,hlv,n,h=>by
  have hup:∀ j,lv+1+j≤6→rc n (lv+1+j)=rc n (lv+1):=by
   intro j
   induction j with
   | zero=>intro _;rfl
   | succ j ih =>
    intro hj
    have:=ih (by omega)
    rw [← Nat.add_assoc,rc_up n _ (by omega)]
    exact this
  have h6:=hup (5 - lv) (by omega)
  have e6:lv+1+(5 - lv)=6:=by omega
  rw [e6] at h6
  have hge:=rc_ge n (lv+1)
  have hc:cnt n≠0:=by rw [cnt_rc,h6,if_neg (by omega)];omega
  rw [rc_s] at h
  by_cases q:alone n=true
  · rw [if_pos q] at h
    have hb:=rcs_bd _ _ _ h
    have hq:n.a.length≤8∧n.ch.length≤16:=by
     unfold alone at q
     by_cases d:n.k=2
     · rw [if_pos d] at q;simp at q;obtain ⟨⟨_,q1⟩,q2⟩:=q;rw [q1,q2];simp
     · rw [if_neg d] at q;simp at q;exact ⟨q.1.1.1.2,q.1.1.2⟩
    exact .mk n hc hq.1 hq.2 fun m hm=>ndv_rc lv (by omega) m (hb m hm)
  · rw [if_neg q] at h;omega
theorem ndv_of {n:Nd} (h:cnt n≠0):NdV n:=by
 refine ndv_rc 6 (by omega) n ?_
 rw [cnt_rc] at h
 by_cases c:64 < rc n 6
 · rw [if_pos c] at h;exact absurd rfl h
 · omega
end Go.D
end
section
namespace Go.D
open Go Go.Pav Go.Pw P
attribute [-simp] List.getElem_cons_drop
variable {C:WProg}
theorem sm_bd:∀ (l:List En),(∀ x ∈ l,1≤x.s∧x.s≤40)→sm l≤40 * l.length
 | [],_=>by simp [sm]
 | e::r,h=>by
  have h1:=h e (by simp)
  have h2:=sm_bd r fun x hx=>h x (by simp [hx])
  rw [sm];simp only [List.length_cons];omega
theorem szd_good {ks:List Kd} {l:List En} (hl:l.length≤12) (hg:∀ e ∈ l,GoodE ks e):Szd l:=by
 have:=sm_bd l fun x hx=>(hg x hx).s
 exact ⟨by omega,fun x hx=>by have:=(hg x hx).s;omega,by omega⟩
@[simp] theorem oldRefs_zero:∀ h:WHeap,oldRefs 0 h=[]
 | []=>rfl
 | (b,o)::r=>by rw [oldRefs,if_neg (by omega),oldRefs_zero r]
@[simp] theorem renOld_zero (π:Nat→Option Nat):∀ h:WHeap,renOld 0 π h=some []
 | []=>rfl
 | (b,o)::r=>by rw [renOld,if_neg (by omega),renOld_zero π r]
@[simp] theorem getp (h:WHeap) (n:Nat) (o:WObj) (k:Nat):Pav.get (Pav.put h n o) k=if n=k then some o else Pav.get h k:=get_put h n o k
end Go.D
end
section
namespace Go.D
open Go Go.Pav Go.Pw P
attribute [-simp] List.getElem_cons_drop
variable {C:WProg} {α β:Type}
theorem itE_rnd {ks:List Kd} {x:It} (h:itE ks 12 x false=0):itOk ks.length x=true∧rndE (kdAt ks x.t).p x 12=0:=by
 unfold itE at h
 cases c:itOk ks.length x
 · rw [c] at h;simp at h
 · rw [c] at h
   by_cases d:rndE (kdAt ks x.t).p x 12=0
   · exact ⟨rfl,d⟩
   · simp [d] at h
end Go.D
end
section
namespace Go.D
open Go Go.Pav Go.Pw P
attribute [-simp] List.getElem_cons_drop
variable {C:WProg}
structure HasRo (C:WProg):Prop extends HasCp C where
 f417:C.fns.get 417=some w417
structure LG (r:Int) (l:List En):Prop where
 hr:0≤r∧r≤255
 hl:l.length≤12
 z:Szd l
 en:∀ x ∈ l,EnIn x
 ck:ckE (kindsOf r) 12 l=0
 ck1:∀ x ∈ l,ckE (kindsOf r) 12 [x]=0
 t:∀ x ∈ l,0≤x.i.t∧x.i.t < (kindsOf r).length
 rE:∀ x ∈ l,rndE (kdAt (kindsOf r) x.i.t).p x.i 12=0
theorem LG.of_good {r:Int} {l:List En} (hr:0≤r∧r≤255) (hl:l.length≤12) (hg:∀ e ∈ l,GoodE (kindsOf r) e) (hn:(keysE l).Nodup):LG r l where
 hr:=hr
 hl:=hl
 z:=szd_good hl hg
 en:=fun x hx=>(hg x hx).en
 ck:=ck_good r hr l (by omega) hg hn
 ck1:=fun x hx=>ck_good r hr [x] (by simp) (by intro e he;rw [List.mem_singleton] at he;subst he;exact hg _ hx) (by simp [keysE])
 t:=fun x hx=>by have:=(hg x hx).i.t;rw [(ks_in r hr).l];omega
 rE:=fun x hx=>(itE_rnd (hg x hx).ok).2
theorem fits_kd {ks:List Kd} (h:RuIn ks) {t:Int} (h0:0≤t∧t < ks.length):FitsAll (kdAt ks t).p:=by
 obtain ⟨n,rfl⟩:∃ n:Nat,t=n:=⟨t.toNat,by omega⟩
 rw [kdAt_get (by omega:n < ks.length)]
 exact h.f _ (List.getElem_mem _)
theorem cnt_rnd {p:Pt} {x:It} (h:rndE p x 12=0):cnt (rndN p x 12)≠0:=by
 unfold rndN
 rw [if_pos h]
 unfold rndE at h
 intro c
 rw [if_neg (by omega)] at h
 split at h
 · cases h
 · split at h
   · cases h
   · rw [if_pos (.inl c)] at h;cases h
mutual
theorem eqN_z:∀ n m:Nd,n.z=m.z→eqN n m=true
 | ⟨k,t,y,a,ae,x,ch,ce⟩,⟨k',t',y',a',ae',x',ch',ce'⟩,h=>by
  rw [Nd.z,Nd.z] at h
  simp only [Nd.mk.injEq,true_and,and_true] at h
  obtain ⟨h1,h2,h3,h4,h5,h6⟩:=h
  rw [eqN,eqNs_z ch ch' h6]
  simp [h1,h2,h3,h4,h5]
theorem eqNs_z:∀ l r:List Nd,Nd.zs l=Nd.zs r→eqNs l r=true
 | [],[],_=>by rw [eqNs]
 | n::l,m::r,h=>by
  rw [Nd.zs,Nd.zs] at h
  simp only [List.cons.injEq] at h
  rw [eqNs,eqN_z n m h.1,eqNs_z l r h.2];rfl
 | [],_::_,h=>by rw [Nd.zs,Nd.zs] at h;cases h
 | _::_,[],h=>by rw [Nd.zs,Nd.zs] at h;cases h
end
section
variable {r:Int} {l:List En} (L:LG r l)
end
end Go.D
end
section
namespace Go.D
open Go Go.Pav Go.Pw P
attribute [-simp] List.getElem_cons_drop
variable {C:WProg}
structure HasQh (C:WProg):Prop extends HasQm C,HasQs C,HasRo C where
 f296:C.fns.get 296=some w296
 f283:C.fns.get 283=some w283
theorem rempty_ok (H:HasQh C) (vw ov ls:Int) (a b c:Kd) (ke:Bool) (cap ar fl:Int):FnW C 296 [.agg (cCf vw ov ls [a,b,c] ke cap ar fl)]=some (aSt [] true [([],true),([],true),([],true)] false):=by
 rw [fnW_eq H.f296 rfl]
 simp [w296,H.toHasEq.inl,inlB,H.toHasEq.pp,ppB]
 rw [ck_unf w296_B0.eq_1]
 simp (disch:=omega) [w296,H.toHasEq.inl,inlB,H.toHasEq.pp,ppB,wI64]
 rw [ck_unf w296_B0.eq_1]
 simp (disch:=omega) [w296,H.toHasEq.inl,inlB,H.toHasEq.pp,ppB,wI64]
 rw [ck_unf w296_B0.eq_1]
 simp (disch:=omega) [w296,H.toHasEq.inl,inlB,H.toHasEq.pp,ppB,wI64]
 rw [ck_unf w296_B0.eq_1]
 simp (disch:=omega) [w296,H.toHasEq.inl,inlB,H.toHasEq.pp,ppB,wI64]
 rw [ck_unf w296_c0.eq_1]
 simp (disch:=omega) [w296,H.toHasEq.inl,inlB,H.toHasEq.pp,ppB,wI64]
@[simp] def eW (w:Int × Int):List AV:=[.int .u16 w.1,.int .u16 w.2]
theorem ndin_v {n:Nd} (h:NdV n):NdIn n:=by
 induction h with
 | mk n hc h1 h2 h ih=>exact .mk n (by omega) (by omega) ih
def trK (ks:List Kd) (x:En):Nd:=rndR (kdAt ks x.i.t).p x.i 12
theorem rtree2_ok (H:HasRo C) {r:Int} {l:List En} (L:LG r l) (f:Bool) (i:Nat) (hi:i < l.length):FnW C 417 [aR (kindsOf r) true 12,.ro 6 (l.map eEn) f,.int .i64 i]=some (.agg (trK (kindsOf r) l[i]).c):=by
 have hx:=List.getElem_mem hi
 have ht:=L.t _ hx
 obtain ⟨tn,htn⟩:∃ tn:Nat,l[i].i.t=tn:=⟨l[i].i.t.toNat,by omega⟩
 have htl:tn < (kindsOf r).length:=by omega
 have hz0:=L.rE _ hx
 have h2:=rRender_ok H.toHasZ (kdAt (kindsOf r) l[i].i.t).p (fits_kd (ru_in r) ht) l[i].i (L.en _ hx).i.k 12
 unfold trK
 rw [hz0,htn,kdAt_get htl] at h2
 rw [htn,kdAt_get htl]
 generalize rndR (kindsOf r)[tn].p l[i].i 12=N at *
 rw [Pt.c_eq,Nd.c_eq] at h2
 rw [Nd.c_eq]
 simp only [eIt,htn] at h2
 rw [fnW_eq H.f417 rfl]
 generalize kindsOf r=ks at *
 simp (disch:=omega) [w417,h2,hi,htn,htl,H.inl,inlB,H.pp,ppB]
theorem trK_in {r:Int} {l:List En} (L:LG r l) {x:En} (hx:x ∈ l):NdIn (trK (kindsOf r) x):=by
 refine ndin_v (ndv_of ?_)
 unfold trK
 rw [← cnt_z,← rnd_z _ (fits_kd (ru_in r) (L.t x hx)),cnt_z]
 exact cnt_rnd (L.rE _ hx)
def HQ (x:Hd):Prop:=NdIn x.n∧∃ t:Nat,x.t=t∧t < 3
structure StOk (B:Nat) (ra:List Hd) (ps:List Pl):Prop where
 rl:ra.length≤12
 pl:ps.length=3
 pb:∀ p ∈ ps,p.1.length≤B
 q:∀ x ∈ ra,HQ x
 qp:∀ p ∈ ps,∀ x ∈ p.1,HQ x
theorem rowAt_all {Q:Hd→Prop} {W:List (List Hd)} (h:∀ w ∈ W,∀ x ∈ w,Q x) (t:Int):∀ x ∈ rowAt W t,Q x:=by
 unfold rowAt
 cases hq:W[t.toNat]? with
 | none=>simp
 | some y=>exact h y (List.mem_of_getElem? hq)
theorem cm1_all {Q:Hd→Prop} (ks:List Kd) (l:List En) (A:List Nat):∀ (ra:List Hd) (s:List (List Hd) × Int),(∀ x ∈ ra,Q x)→(∀ w ∈ s.1,∀ x ∈ w,Q x)→∀ w ∈ (cm1 ks l A ra s).1,∀ x ∈ w,Q x
 | [],s,_,h=>by simpa [cm1] using h
 | a::r,s,h1,h=>by
  simp only [cm1]
  refine cm1_all ks l A r _ (fun x hx=>h1 x (by simp [hx])) ?_
  split
  · exact h
  · split
    · exact h
    · intro w hw
      rcases List.mem_or_eq_of_mem_set hw with q | q
      · exact h w q
      · subst q
        intro x hx
        rcases List.mem_append.1 hx with q | q
        · exact rowAt_all h _ x q
        · rw [List.mem_singleton] at q;subst q;exact h1 _ (by simp)
theorem cm1_wl (ks:List Kd) (l:List En) (A:List Nat):∀ (ra:List Hd) (s:List (List Hd) × Int),(cm1 ks l A ra s).1.length=s.1.length
 | [],s=>rfl
 | a::r,s=>by
  simp only [cm1]
  rw [cm1_wl ks l A r]
  split
  · rfl
  · split
    · rfl
    · simp
theorem cm2_all {Q:Hd→Prop} (tr:En→Nd) (ra:List Hd) (l:List En) (hl:∀ e ∈ l,Q ⟨e.i.k,e.i.t,tr e⟩):∀ (A:List Nat) (s:List Hd × List (List Hd) × Int × Int),(∀ x ∈ s.1,Q x)→(∀ w ∈ s.2.1,∀ x ∈ w,Q x) →
 (∀ x ∈ (cm2 tr ra l A s).1,Q x)∧∀ w ∈ (cm2 tr ra l A s).2.1,∀ x ∈ w,Q x
 | [],s,h1,h2=>by simpa [cm2] using ⟨h1,h2⟩
 | a::r,s,h1,h2=>by
  simp only [cm2]
  cases hq:l[a]? with
  | none=>exact cm2_all tr ra l hl r s h1 h2
  | some e =>
   have he:=hl e (List.mem_of_getElem? hq)
   have h3:∀ x ∈ s.1++[⟨e.i.k,e.i.t,tr e⟩],Q x:=by
    intro x hx
    rcases List.mem_append.1 hx with q | q
    · exact h1 x q
    · rw [List.mem_singleton] at q;subst q;exact he
   simp only
   split
   · exact cm2_all tr ra l hl r _ h3 h2
   · split
     · exact cm2_all tr ra l hl r _ h3 h2
     · refine cm2_all tr ra l hl r _ h3 ?_
       intro w hw
       rcases List.mem_or_eq_of_mem_set hw with q | q
       · exact h2 w q
       · subst q
         intro x hx
         exact rowAt_all h2 _ x (List.mem_of_mem_take hx)
theorem cntL_le (B:Nat):∀ L:List (List Hd),(∀ w ∈ L,w.length≤B)→cntL L≤64 * B * L.length
 | [],_=>by simp [cntL]
 | l::r,h=>by
  have h1:=cntL_le B r (fun w hw=>h w (by simp [hw]))
  have h2:=cntS_le l
  have h3:=h l (by simp)
  simp only [cntL,List.length_cons,Nat.mul_add,Nat.mul_one]
  omega
abbrev ofH (cf:List AV) (R1 R2:List En) (g1 g2:Bool) (X:List AV) (w:List (Int × Int)) (we:Bool) (ra:List Hd) (ea:Bool) (ps:List Pl) (pe:Bool):WHeap :=
 [(0, .cells 2 [[.ro 8 (ra.map eHd) ea, .ro 1 (ps.map ePl) pe]] true true), (1, .cells 2 [[.ro 6 (R1.map eEn) g1, .ro 6 (R2.map eEn) g2]] true true), (2, .cells 7 [cf] true true), (3, .cells 2 [[.ro 6 [] true, .ro 6 [] true]] true true), (4, .cells 2 [[.ro 8 [] true, .ro 1 [] true]] true true),
   (5,.cells 7 [[.int .i64 0,.int .i64 0,.int .i64 0,.ro 9 [] true,.int .i64 0,.int .i64 0,.int .u8 0]] true true),(6,.cells 7 [X] true true)]
abbrev ofE (i:Nat):List (Nat × AV):=[(12,.int .i64 i),(11,.ptr 0 0 0),(10,.ptr 1 0 0),(9,.ptr 2 0 0),(4,.ptr 3 0 0),(3,.ptr 4 0 0),(2,.ptr 5 0 0),(1,.ptr 6 0 0)]
structure HasQt (C:WProg):Prop extends HasQh C where
 f515:C.fns.get 515=some w515
 f432:C.fns.get 432=some w432
mutual
/-- A tree; all memory its own. -/
def kepN:Nd→Nd
 | ⟨k,t,y,a,ae,x,ch,ce⟩=>⟨k,t,y,a,true,x,kepNs ch,true⟩
def kepNs:List Nd→List Nd
 | []=>[]
 | n::r=>kepN n::kepNs r
end
theorem kepNs_eq:∀ l:List Nd,kepNs l=l.map kepN
 | []=>rfl
 | n::r=>by rw [kepNs,kepNs_eq r];rfl
theorem kepN_eq (n:Nd):kepN n=⟨n.k,n.t,n.y,n.a,true,n.x,n.ch.map kepN,true⟩:=by cases n;rw [kepN,kepNs_eq]
mutual
theorem kepN_z:∀ n:Nd,(kepN n).z=n.z
 | ⟨k,t,y,a,ae,x,ch,ce⟩=>by rw [kepN,Nd.z,Nd.z,kepNs_z ch]
theorem kepNs_z:∀ l:List Nd,Nd.zs (kepNs l)=Nd.zs l
 | []=>rfl
 | n::r=>by rw [kepNs,Nd.zs,Nd.zs,kepN_z n,kepNs_z r]
end
theorem kcp_loop (H:HasQt C) (n:Nd) (hl:n.ch.length≤16) (ih:∀ c ∈ n.ch,FnW C 507 [.agg c.c,.bool true]=some (.agg (kepN c).c)):∀ m i,m+i=n.ch.length→∀ G:List Nd,G.length=i→G=(n.ch.take i).map kepN →
 w507_K0 C ⟨[(23,.int .i64 i),(22,.int .i64 n.ch.length),(21,.ro 6 (n.ch.map Nd.c) n.ce),(5,.sl 0 6 0 n.ch.length n.ch.length true),(4,.ptr 1 0 0),(2,.ptr 2 0 0),(1,.bool true)],
  [(0,.cells 6 (G.map Nd.c++List.replicate m [.int .u8 0,.str [],.str [],.ro 2 [] true,.str [],.ro 6 [] true]) true true),(1,.cells 6 [[.int .u8 0,.str [],.str [],.ro 2 [] true,.str [],.ro 6 [] true]] true true),
   (2,.cells 6 [[.int .u8 n.k,.str n.t,.str n.y,.ro 2 (n.a.map eA) true,.str n.x,.ro 6 (n.ch.map Nd.c) n.ce]] true true)],3⟩=some (.agg (kepN n).c):=by
 intro m
 induction m with
 | zero =>
  intro i hi G hG hGe
  have h3:¬ i < n.ch.length:=by omega
  have e1:n.ch.take i=n.ch:=List.take_of_length_le (by omega)
  have e2:List.take n.ch.length (List.map Nd.c G)=List.map Nd.c G:=List.take_of_length_le (by simp;omega)
  rw [Nd.c_eq (kepN n),kepN_eq]
  rw [e1] at hGe
  rw [← hGe]
  simp only [w507_K0];rw [ck_unf w507_B0.eq_1]
  have e3:G.length=n.ch.length:=by omega
  simp (disch:=omega) [ck_unf w507_c0.eq_1,h3,e2,e3]
 | succ m ihm =>
  intro i hi G hG hGe
  have h1:i < n.ch.length:=by omega
  have this:=ihm (i+1) (by omega) (G++[kepN n.ch[i]]) (by simp [hG]) (by rw [hGe,List.take_add_one,List.getElem?_eq_getElem h1,List.map_append];rfl)
  have hs:=ih n.ch[i] (List.getElem_mem h1)
  have g1:=gr_get Nd.c G [.int .u8 0,.str [],.str [],.ro 2 [] true,.str [],.ro 6 [] true] m
  have g2:=gr_set Nd.c G [.int .u8 0,.str [],.str [],.ro 2 [] true,.str [],.ro 6 [] true] m (kepN n.ch[i])
  rw [hG] at g1 g2
  simp only [w507_K0] at this ⊢;rw [ck_unf w507_B0.eq_1]
  simp at this
  simp at g2
  simp (disch:=omega) [h1,hs,wI64,H.toHasEq.inl,inlB,H.toHasEq.pp,ppB,g1,g2,this]
theorem kept_step (H:HasQt C) (n:Nd) (ha:n.a.length≤8) (hl:n.ch.length≤16) (ih:∀ c ∈ n.ch,FnW C 507 [.agg c.c,.bool true]=some (.agg (kepN c).c)):FnW C 507 [.agg n.c,.bool true]=some (.agg (kepN n).c):=by
 have h1:=cloneA_ok H.toHasCp n.a n.ae (by omega)
 have h2:=clipA_ok H.toHasCp n.a n.a.isEmpty
 have h3:=kcp_loop H n hl ih n.ch.length 0 (by omega) [] rfl rfl
 rw [fnW_eq H.f507 rfl,Nd.c_eq n]
 simp only [w507_K0] at h3
 simp at h3
 have h4:n.ch.length * 105≤35184372088832:=by omega
 simp (disch:=omega) [w507,h1,h2,h3,h4,H.toHasEq.inl,inlB,H.toHasEq.pp,ppB]
theorem kept_ok (H:HasQt C) {n:Nd} (h:NdV n):FnW C 507 [.agg n.c,.bool true]=some (.agg (kepN n).c):=by
 induction h with
 | mk n hc h1 h2 h ih=>exact kept_step H n h1 h2 ih
theorem kcopy_ok (H:HasQt C) {n:Nd} (h:cnt n≠0):FnW C 515 [.agg n.c]=some (.agg (kepN n).c):=by
 have h1:=check_ok H.toHasR.toHasM n
 have h2:=kept_ok H (ndv_of h)
 rw [if_neg h] at h1
 rw [fnW_eq H.f515 rfl]
 rw [Nd.c_eq (kepN n)] at *
 simp (disch:=omega) [w515,h1,h2,H.toHasEq.inl,inlB,H.toHasEq.pp,ppB]
def kepH (h:Hd):Hd:=⟨h.k,h.t,kepN h.n⟩
abbrev zH:List AV:=[.int .u64 0,.int .u8 0,.int .u8 0,.str [],.str [],.ro 2 [] true,.str [],.ro 6 [] true]
theorem qown_loop (H:HasQt C) (l:List Hd) (e:Bool) (hl:l.length≤1000000) (hc:∀ x ∈ l,cnt x.n≠0):∀ m i,m+i=l.length→∀ G:List Hd,G.length=i→G=(l.take i).map kepH →
 w432_K0 C ⟨[(14,.int .i64 i),(13,.int .i64 l.length),(12,.ro 8 (l.map eHd) e),(3,.sl 0 8 0 l.length l.length true)],[(0,.cells 8 (G.map eHd++List.replicate m zH) true true)],1⟩=some (.ro 8 ((l.map kepH).map eHd) true):=by
 intro m
 induction m with
 | zero =>
  intro i hi G hG hGe
  have h3:¬ i < l.length:=by omega
  have e1:l.take i=l:=List.take_of_length_le (by omega)
  have e2:List.take l.length (List.map eHd G)=List.map eHd G:=List.take_of_length_le (by simp;omega)
  rw [e1] at hGe
  rw [← hGe]
  simp only [w432_K0];rw [ck_unf w432_B0.eq_1]
  have h4:i=l.length:=by omega
  simp (disch:=omega) [ck_unf w432_c0.eq_1,h3,e2,hG,h4]
 | succ m ihm =>
  intro i hi G hG hGe
  have h1:i < l.length:=by omega
  have this:=ihm (i+1) (by omega) (G++[kepH l[i]]) (by simp [hG]) (by rw [hGe,List.take_add_one,List.getElem?_eq_getElem h1,List.map_append];rfl)
  have hs:=kcopy_ok H (hc _ (List.getElem_mem h1))
  have g1:=gr_get eHd G zH m
  have g2:=gr_set eHd G zH m (kepH l[i])
  rw [hG] at g1 g2
  simp only [w432_K0] at this ⊢;rw [ck_unf w432_B0.eq_1]
  simp [kepH,Nd.c_eq] at this
  simp [kepH,Nd.c_eq] at g2 hs
  simp (disch:=omega) [h1,hs,wI64,H.toHasEq.inl,inlB,H.toHasEq.pp,ppB,g1,g2,this,Nd.c_eq]
theorem qown_ok (H:HasQt C) (l:List Hd) (e:Bool) (hl:l.length≤1000000) (hc:∀ x ∈ l,cnt x.n≠0):FnW C 432 [.ro 8 (l.map eHd) e]=some (.ro 8 ((l.map kepH).map eHd) true):=by
 rw [fnW_eq H.f432 rfl]
 by_cases c:l.length=0
 · have:l=[]:=List.length_eq_zero_iff.1 c
   subst this
   simp [w432]
 · have h:=qown_loop H l e hl hc l.length 0 (by simp) [] rfl rfl
   have h4:l.length * 121≤35184372088832:=by omega
   simp only [w432_K0] at h
   simp at h
   simp [w432,c,h4,h]
end Go.D
end
