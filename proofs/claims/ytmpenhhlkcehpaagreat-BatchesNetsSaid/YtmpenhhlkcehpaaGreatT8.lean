/- Part of the theory that the claims of this work use: N13, M07, M08, M09, M12, M18, M19, M13, M20, M21, M22, M23, M24, M25. No conditions of its own. -/
import Derived.Test.YtmpenhhlkcehpaaGreatT7
section
set_option linter.unusedSimpArgs false
set_option linter.unusedVariables false
namespace Go.D
open Go Go.Pav Go.Pw P
set_option maxRecDepth 10000
set_option maxHeartbeats 4000000
set_option linter.unusedSimpArgs false
set_option linter.unusedVariables false
attribute [-simp] List.getElem_cons_drop
variable {C:WProg}
end Go.D
end
section
set_option linter.unusedSimpArgs false
set_option linter.unusedVariables false
namespace Go.D
open Go Go.Pav Go.Pw P
set_option maxRecDepth 10000
set_option maxHeartbeats 4000000
set_option linter.unusedSimpArgs false
set_option linter.unusedVariables false
attribute [-simp] List.getElem_cons_drop
variable {C:WProg}
end Go.D
end
section
set_option linter.unusedSimpArgs false
set_option linter.unusedVariables false
namespace Go.D
open Go Go.Pav Go.Pw P
set_option maxRecDepth 10000
set_option maxHeartbeats 4000000
set_option linter.unusedSimpArgs false
set_option linter.unusedVariables false
attribute [-simp] List.getElem_cons_drop
variable {C:WProg}
def sameX:List It→List It→Bool
 | [],[]=>true
 | a::r,b::s=>sameIt a b&&sameX r s
 | _,_=>false
theorem sameX_refl:∀ l:List It,sameX l l=true
 | []=>rfl
 | a::r=>by rw [sameX,sameX_refl r];simp [sameIt]
theorem sameX_own:∀ l:List It,sameX (l.map It.own) l=true
 | []=>rfl
 | a::r=>by rw [List.map_cons,sameX,sameX_own r];simp [sameIt,It.own]
theorem sameX_len:∀ l m:List It,sameX l m=true→l.length=m.length
 | [],[],_=>rfl
 | [],_::_,h=>by simp [sameX] at h
 | _::_,[],h=>by simp [sameX] at h
 | _::r,_::s,h=>by
  simp only [sameX,Bool.and_eq_true] at h
  simp [sameX_len r s h.2]
structure HasSx (C:WProg):Prop extends HasL C where
 f357:C.fns.get 357=some w357
theorem sall_loop (H:HasSx C) (x y:List It) (xe ye:Bool) (hl:x.length=y.length) (h1:x.length≤1000000) (hx:∀ i ∈ x,i.m.length≤1000000) (hy:∀ i ∈ y,i.m.length≤1000000):∀ n i,n+i=x.length →
 w357_K0 C ⟨[(5,.int .i64 i),(1,.ro 4 (y.map cIt) ye),(0,.ro 4 (x.map cIt) xe)],[],0⟩=some (.int .i64 (if sameX (x.drop i) (y.drop i)=true then 1 else 0)):=by
 intro n
 induction n with
 | zero =>
  intro i hi
  have q1:x.drop i=[]:=List.drop_eq_nil_of_le (by omega)
  have q2:y.drop i=[]:=List.drop_eq_nil_of_le (by omega)
  have h3:¬ i < x.length:=by omega
  simp only [w357_K0];rw [ck_unf w357_B0.eq_1]
  simp [ck_unf w357_c0.eq_1,q1,q2,h3,sameX]
 | succ n ih =>
  intro i hi
  have p1:i < x.length:=by omega
  have p2:i < y.length:=by omega
  have h:=rsame1_ok H.toHasL x[i] y[i] (by have:=hx _ (List.getElem_mem p1);omega) (by have:=hy _ (List.getElem_mem p2);omega)
  have:=ih (i+1) (by omega)
  rw [drop_cons p1,drop_cons p2,sameX]
  simp only [w357_K0] at this ⊢;rw [ck_unf w357_B0.eq_1]
  simp at this
  generalize sameIt x[i] y[i]=b at *
  cases b
  · simp (disch:=omega) [p1,p2,h,wI64,H.inl,inlB,H.pp,ppB]
  · simp (disch:=omega) [p1,p2,h,wI64,H.inl,inlB,H.pp,ppB,this]
theorem sall_ok (H:HasSx C) (x y:List It) (xe ye:Bool) (h1:x.length≤1000000) (h2:y.length≤1000000) (hx:∀ i ∈ x,i.m.length≤1000000) (hy:∀ i ∈ y,i.m.length≤1000000) :
 FnW C 357 [.ro 4 (x.map cIt) xe,.ro 4 (y.map cIt) ye]=some (.int .i64 (if sameX x y=true then 1 else 0)):=by
 rw [fnW_eq H.f357 rfl]
 by_cases hl:x.length=y.length
 · have:=sall_loop H x y xe ye hl h1 hx hy x.length 0 rfl
   simp only [w357_K0] at this
   simp at this
   simp (disch:=omega) [w357,hl,this,wI64,H.inl,inlB,H.pp,ppB]
 · have:sameX x y=false:=by
    cases h:sameX x y with
    | false=>rfl
    | true=>exact absurd (sameX_len x y h) hl
   rw [this]
   simp (disch:=omega) [w357,hl,wI64,H.inl,inlB,H.pp,ppB]
structure Nn where
 o:Int
 f:List Int
 fe:Bool
 b:List Bool
 be:Bool
 x:List It
 xe:Bool
@[simp] def eNn (n:Nn):List AV:=eNet n.o n.f n.fe n.b n.be n.x n.xe
def sameN (a b:Nn):Bool:=decide (a.o=b.o)&&decide (a.f=b.f)&&decide (a.b=b.b)&&sameX a.x b.x
structure NnIn (n:Nn):Prop where
 f:n.f.length≤1000000
 b:n.b.length≤1000000
 x:n.x.length≤1000000
 m:∀ i ∈ n.x,i.m.length≤1000000
structure HasSn (C:WProg):Prop extends HasSx C where
 f182:C.fns.get 182=some w182
theorem sn_loop2 (H:HasSn C) (a b:Nn) (ha:NnIn a) (hb:NnIn b) (hl:a.b.length=b.b.length):∀ n i,n+i=a.b.length →
 w182_K0 C ⟨[(6,.int .i64 i),(3,.ptr 0 0 0),(2,.ptr 1 0 0)],[(0,.cells 4 [eNn b] true true),(1,.cells 4 [eNn a] true true)],2⟩=some (.int .i64 (if a.b.drop i=b.b.drop i∧sameX a.x b.x=true then 1 else 0)):=by
 intro n
 induction n with
 | zero =>
  intro i hi
  have q1:a.b.drop i=[]:=List.drop_eq_nil_of_le (by omega)
  have q2:b.b.drop i=[]:=List.drop_eq_nil_of_le (by omega)
  have h3:¬ i < a.b.length:=by omega
  have h:=sall_ok H.toHasSx a.x b.x a.xe b.xe ha.x hb.x ha.m hb.m
  simp only [w182_K0];rw [ck_unf w182_B0.eq_1]
  generalize sameX a.x b.x=c at *
  simp [ck_unf w182_c0.eq_1,q1,q2,h3,h,H.inl,inlB,H.pp,ppB]
 | succ n ih =>
  intro i hi
  have p1:i < a.b.length:=by omega
  have hq:=ha.b
  have p2:i < b.b.length:=by omega
  have:=ih (i+1) (by omega)
  rw [drop_cons p1,drop_cons p2]
  simp only [w182_K0] at this ⊢;rw [ck_unf w182_B0.eq_1]
  simp at this
  by_cases c:a.b[i]=b.b[i]
  · simp (disch:=omega) [p1,p2,c,wI64,H.inl,inlB,H.pp,ppB,this]
  · simp (disch:=omega) [p1,p2,c,wI64,H.inl,inlB,H.pp,ppB]
theorem sn_loop1 (H:HasSn C) (a b:Nn) (ha:NnIn a) (hb:NnIn b) (hl:a.b.length=b.b.length) (hf:a.f.length=b.f.length):∀ n i,n+i=a.f.length →
 w182_K1 C ⟨[(5,.int .i64 i),(3,.ptr 0 0 0),(2,.ptr 1 0 0)],[(0,.cells 4 [eNn b] true true),(1,.cells 4 [eNn a] true true)],2⟩=some (.int .i64 (if a.f.drop i=b.f.drop i∧a.b=b.b∧sameX a.x b.x=true then 1 else 0)):=by
 intro n
 induction n with
 | zero =>
  intro i hi
  have q1:a.f.drop i=[]:=List.drop_eq_nil_of_le (by omega)
  have q2:b.f.drop i=[]:=List.drop_eq_nil_of_le (by omega)
  have h3:¬ i < a.f.length:=by omega
  have h:=sn_loop2 H a b ha hb hl a.b.length 0 rfl
  simp only [w182_K0,List.drop_zero] at h
  simp at h
  simp only [w182_K1];rw [ck_unf w182_B1.eq_1]
  simp [ck_unf w182_c1.eq_1,q1,q2,h3,h,H.inl,inlB,H.pp,ppB]
 | succ n ih =>
  intro i hi
  have p1:i < a.f.length:=by omega
  have hq:=ha.f
  have p2:i < b.f.length:=by omega
  have:=ih (i+1) (by omega)
  rw [drop_cons p1,drop_cons p2]
  simp only [w182_K1] at this ⊢;rw [ck_unf w182_B1.eq_1]
  simp at this
  by_cases c:a.f[i]=b.f[i]
  · simp (disch:=omega) [p1,p2,c,wI64,H.inl,inlB,H.pp,ppB,this]
  · simp (disch:=omega) [p1,p2,c,wI64,H.inl,inlB,H.pp,ppB]
theorem sn_ok (H:HasSn C) (a b:Nn) (ha:NnIn a) (hb:NnIn b):FnW C 182 [.agg (eNn a),.agg (eNn b)]=some (.int .i64 (if sameN a b=true then 1 else 0)):=by
 rw [fnW_eq H.f182 rfl]
 have e:sameN a b=decide (a.o=b.o∧a.f=b.f∧a.b=b.b∧sameX a.x b.x=true):=by
  unfold sameN
  cases sameX a.x b.x <;> simp [Bool.decide_and,Bool.and_assoc]
 rw [e]
 by_cases c1:a.o=b.o
 · by_cases c2:a.f.length=b.f.length
   · by_cases c3:a.b.length=b.b.length
     · have h:=sn_loop1 H a b ha hb c3 c2 a.f.length 0 rfl
       simp only [w182_K1,List.drop_zero] at h
       simp at h
       simp (disch:=omega) [w182,eq_true c1,eq_true c2,eq_true c3,h,wI64,H.inl,inlB,H.pp,ppB]
     · have n1:¬ a.b=b.b:=fun q=>c3 (by rw [q])
       simp (disch:=omega) [w182,eq_true c1,eq_true c2,c3,n1,wI64,H.inl,inlB,H.pp,ppB]
   · have n1:¬ a.f=b.f:=fun q=>c2 (by rw [q])
     simp (disch:=omega) [w182,eq_true c1,c2,n1,wI64,H.inl,inlB,H.pp,ppB]
 · simp (disch:=omega) [w182,c1,wI64,H.inl,inlB,H.pp,ppB]
end Go.D
end
section
set_option linter.unusedSimpArgs false
set_option linter.unusedVariables false
namespace Go.D
open Go Go.Pav Go.Pw P
set_option maxRecDepth 10000
set_option maxHeartbeats 4000000
set_option linter.unusedSimpArgs false
set_option linter.unusedVariables false
attribute [-simp] List.getElem_cons_drop
variable {C:WProg}
def fitB:List Bool→List Int→Bool
 | b::r,k::s=>(b||decide (0≤k))&&fitB r s
 | _,_=>true
def cntB:List Bool→Nat
 | []=>0
 | b::r=>if b=true then cntB r+1 else cntB r
def chkN (n:Nn):Int:=if Rm.chk n.o n.f≠0 then Rm.chk n.o n.f else if n.b.length≠n.f.length then 1 else if fitB n.b n.f=false then 1 else if cntB n.b≠n.x.length then 1 else 0
structure HasCn (C:WProg):Prop extends Rm.Has C where
 f180:C.fns.get 180=some w180
theorem bcheck_loop (H:HasCn C) (a:Nn) (ha:NnIn a) (hl:a.b.length=a.f.length):∀ n i,n+i=a.b.length→∀ c:Nat,c≤i →
 w180_K0 C ⟨[(24,.int .i64 i),(23,.int .i64 a.b.length),(22,.ro 1 (a.b.map eB) a.be),(4,.int .i64 c),(1,.ptr 0 0 0)],[(0,.cells 4 [eNn a] true true)],1⟩ =
  some (.int .i64 (if fitB (a.b.drop i) (a.f.drop i)=false then 1 else if c+cntB (a.b.drop i)≠a.x.length then 1 else 0)):=by
 intro n
 have hq:=ha.b
 induction n with
 | zero =>
  intro i hi c hc
  have q1:a.b.drop i=[]:=List.drop_eq_nil_of_le (by omega)
  have h3:¬ i < a.b.length:=by omega
  simp only [w180_K0];rw [ck_unf w180_B0.eq_1]
  by_cases h:c=a.x.length
  · simp [ck_unf w180_c0.eq_1,q1,h3,fitB,cntB,eq_true h,H.inl,inlB,H.pp,ppB]
  · simp [ck_unf w180_c0.eq_1,q1,h3,fitB,cntB,h,H.inl,inlB,H.pp,ppB]
 | succ n ih =>
  intro i hi c hc
  have p1:i < a.b.length:=by omega
  have p2:i < a.f.length:=by omega
  rw [drop_cons p1,drop_cons p2,fitB,cntB]
  simp only [w180_K0];rw [ck_unf w180_B0.eq_1]
  by_cases hb:a.b[i]=true
  · have:=ih (i+1) (by omega) (c+1) (by omega)
    have e:c+(cntB (a.b.drop (i+1))+1)=c+1+cntB (a.b.drop (i+1)):=by omega
    rw [hb,Bool.true_or,Bool.true_and,if_pos rfl,e]
    simp only [w180_K0] at this
    simp at this
    simp (disch:=omega) [p1,p2,hb,wI64,H.inl,inlB,H.pp,ppB,this]
  · have hb':a.b[i]=false:=by simpa using hb
    rw [hb',Bool.false_or,if_neg Bool.false_ne_true]
    by_cases hk:a.f[i] < 0
    · have hd:decide (0≤a.f[i])=false:=by simpa using hk
      rw [hd,Bool.false_and,if_pos rfl]
      simp (disch:=omega) [p1,p2,hb',hk,wI64,H.inl,inlB,H.pp,ppB]
    · have hd:decide (0≤a.f[i])=true:=by simpa using hk
      rw [hd,Bool.true_and]
      have:=ih (i+1) (by omega) c (by omega)
      simp only [w180_K0] at this
      simp at this
      simp (disch:=omega) [p1,p2,hb',hk,wI64,H.inl,inlB,H.pp,ppB,this]
theorem bcheck_ok (H:HasCn C) (a:Nn) (ha:NnIn a):FnW C 180 [.agg (eNn a)]=some (.int .i64 (chkN a)):=by
 have hc:=Rm.check_ok H.toHas a.o a.f a.fe
 rw [fnW_eq H.f180 rfl]
 unfold chkN
 simp only [Rm.eM,L1] at hc
 by_cases c1:Rm.chk a.o a.f=0
 · rw [if_neg (by simp [c1])]
   rw [c1] at hc
   by_cases c2:a.b.length=a.f.length
   · rw [if_neg (by simp [c2])]
     have h:=bcheck_loop H a ha c2 a.b.length 0 rfl 0 (by omega)
     simp only [w180_K0,List.drop_zero,Nat.zero_add] at h
     simp at h
     simp (disch:=omega) [w180,hc,eq_true c2,h,wI64,H.inl,inlB,H.pp,ppB]
   · rw [if_pos c2]
     simp (disch:=omega) [w180,hc,c2,wI64,H.inl,inlB,H.pp,ppB]
 · rw [if_pos c1]
   generalize Rm.chk a.o a.f=E at *
   simp (disch:=omega) [w180,hc,c1,wI64,H.inl,inlB,H.pp,ppB]
structure HasAp0 (C:WProg):Prop extends HasCn C,HasK C where
 f183:C.fns.get 183=some w183
theorem bapply_bad (H:HasAp0 C) (ks:List Kd) (ke:Bool) (cap:Int) (hr:RuIn ks) (l:List En) (e:Bool) (hl:l.length≤1000000) (hs:∀ e ∈ l,EnIn e) (a:Nn) (hc:ckE ks cap l≠0) :
 FnW C 183 [aR ks ke cap,aL l e,.agg (eNn a)]=some (errL (ckE ks cap l)):=by
 have h:=lcheck_ok H.toHasK ks ke cap hr l e hl hs
 generalize ckE ks cap l=E at *
 rw [fnW_eq H.f183 rfl]
 unfold errL
 simp (disch:=omega) [w183,h,hc,wI64,H.inl,inlB,H.pp,ppB]
theorem bapply_bad2 (H:HasAp0 C) (ks:List Kd) (ke:Bool) (cap:Int) (hr:RuIn ks) (l:List En) (e:Bool) (hl:l.length≤1000000) (hs:∀ e ∈ l,EnIn e) (a:Nn) (ha:NnIn a) (hc:ckE ks cap l=0) (hn:chkN a≠0) :
 FnW C 183 [aR ks ke cap,aL l e,.agg (eNn a)]=some (errL (chkN a)):=by
 have h:=lcheck_ok H.toHasK ks ke cap hr l e hl hs
 have h2:=bcheck_ok H.toHasCn a ha
 rw [hc] at h
 generalize chkN a=E at *
 rw [fnW_eq H.f183 rfl]
 unfold errL
 simp only [eNn,eNet] at h2
 simp (disch:=omega) [w183,h,h2,hn,wI64,H.inl,inlB,H.pp,ppB]
theorem bapply_len (H:HasAp0 C) (ks:List Kd) (ke:Bool) (cap:Int) (hr:RuIn ks) (l:List En) (e:Bool) (hl:l.length≤1000000) (hs:∀ e ∈ l,EnIn e) (a:Nn) (ha:NnIn a) (hc:ckE ks cap l=0) (hn:chkN a=0) (hd:a.o≠l.length) :
 FnW C 183 [aR ks ke cap,aL l e,.agg (eNn a)]=some (errL 1):=by
 have h:=lcheck_ok H.toHasK ks ke cap hr l e hl hs
 have h2:=bcheck_ok H.toHasCn a ha
 rw [hc] at h
 rw [hn] at h2
 rw [fnW_eq H.f183 rfl]
 unfold errL
 simp only [eNn,eNet] at h2
 simp (disch:=omega) [w183,h,h2,hd,wI64,H.inl,inlB,H.pp,ppB]
end Go.D
end
section
set_option linter.unusedSimpArgs false
set_option linter.unusedVariables false
namespace Go.D
open Go Go.Pav Go.Pw P
set_option maxRecDepth 10000
set_option maxHeartbeats 4000000
set_option linter.unusedSimpArgs false
set_option linter.unusedVariables false
attribute [-simp] List.getElem_cons_drop
variable {C:WProg}
def zE:En:=⟨⟨0,0,[],[],true⟩,0,false⟩
def entE:List Bool→List It→List En
 | [],_=>[]
 | true::r,y::s=>⟨y,0,false⟩::entE r s
 | true::r,[]=>zE::entE r []
 | false::r,x=>zE::entE r x
theorem entE_len:∀ (b:List Bool) (x:List It),(entE b x).length=b.length
 | [],_=>by simp [entE]
 | true::r,y::s=>by simp [entE,entE_len r]
 | true::r,[]=>by simp [entE,entE_len r]
 | false::r,x=>by simp [entE,entE_len r]
theorem entE_mem:∀ (b:List Bool) (x:List It),∀ e ∈ entE b x,e=zE∨∃ y ∈ x,e.i=y
 | [],_,e,h=>by simp [entE] at h
 | true::r,y::s,e,h=>by
  rw [entE] at h
  rcases List.mem_cons.1 h with rfl | h
  · exact .inr ⟨y,by simp,rfl⟩
  · rcases entE_mem r s e h with q | ⟨y',q1,q2⟩
    · exact .inl q
    · exact .inr ⟨y',by simp [q1],q2⟩
 | true::r,[],e,h=>by
  rw [entE] at h
  rcases List.mem_cons.1 h with rfl | h
  · exact .inl rfl
  · exact entE_mem r [] e h
 | false::r,x,e,h=>by
  rw [entE] at h
  rcases List.mem_cons.1 h with rfl | h
  · exact .inl rfl
  · exact entE_mem r x e h
structure HasTn (C:WProg):Prop extends HasCn C,HasNe C where
 f3005:C.fns.get 3005=some w359
 f184:C.fns.get 184=some w184
theorem ent_loop9 (H:HasTn C) (a:Nn) (ha:NnIn a):∀ n i,n+i=a.b.length→∀ (c:Nat) (G:List En),G.length=i→c+cntB (a.b.drop i)=a.x.length →
 ∃ m,CK C 0 (fnEndW [.tmp 2]) [.sq w359_L0,.bk 0 ⟨true,[3],[]⟩,.sq w359_c0] w359_B0
  ⟨[(14,.int .i64 i),(13,.int .i64 a.b.length),(12,.ro 1 (a.b.map eB) a.be),(4,.int .i64 c),(3,.sl 0 6 0 a.b.length a.b.length true),(1,.ptr 1 0 0)],
   [(0,.cells 6 (G.map eEn++List.replicate n [.int .u64 0,.int .u8 0,.str [],.ro 1 [] true,.int .i64 0,.bool false]) true true),(1,.cells 4 [eNn a] true true)],2⟩ =
  some (.sl 0 6 0 a.b.length a.b.length true,[(0,.cells 6 ((G++entE (a.b.drop i) (a.x.drop c)).map eEn) true true)],m):=by
 have hq:=ha.b
 have hq2:=ha.x
 intro n
 induction n with
 | zero =>
  intro i hi c G hG hc
  have q1:a.b.drop i=[]:=List.drop_eq_nil_of_le (by omega)
  have h3:¬ i < a.b.length:=by omega
  refine ⟨3,?_⟩
  rw [ck_unf w359_B0.eq_1]
  rw [q1]
  simp [ck_unf w359_c0.eq_1,h3,entE,H.inl,inlB,H.pp,ppB]
 | succ n ih =>
  intro i hi c G hG hc
  have p1:i < a.b.length:=by omega
  rw [drop_cons p1,cntB] at hc
  rw [drop_cons p1]
  by_cases hb:a.b[i]=true
  · rw [if_pos hb] at hc
    have p2:c < a.x.length:=by omega
    rw [drop_cons p2,hb,entE]
    obtain ⟨m,this⟩:=ih (i+1) (by omega) (c+1) (G++[⟨a.x[c],0,false⟩]) (by simp [hG]) (by omega)
    refine ⟨m,?_⟩
    rw [ck_unf w359_B0.eq_1]
    simp at this
    simp (disch:=omega) [p1,p2,hb,fill_get,fill_set,hG,wI64,H.inl,inlB,H.pp,ppB,this]
  · rw [if_neg hb] at hc
    have hb':a.b[i]=false:=by simpa using hb
    rw [hb',entE]
    obtain ⟨m,this⟩:=ih (i+1) (by omega) c (G++[zE]) (by simp [hG]) (by omega)
    refine ⟨m,?_⟩
    rw [ck_unf w359_B0.eq_1]
    simp [zE] at this
    simp (disch:=omega) [p1,hb',zE,List.replicate_succ,wI64,H.inl,inlB,H.pp,ppB,this]
theorem ent_ok (H:HasTn C) (a:Nn) (ha:NnIn a) (hc:cntB a.b=a.x.length) (nid:Nat) :
 freshCallW (RnW C) 3005 [.agg (eNn a)] nid=some (.sl nid 6 0 a.b.length a.b.length true,[(nid,some (.cells 6 ((entE a.b a.x).map eEn) true true))]):=by
 have h2:a.b.length * 73≤35184372088832:=by have:=ha.b;omega
 obtain ⟨m,h⟩:=ent_loop9 H a ha a.b.length 0 rfl 0 [] rfl (by simpa using hc)
 rw [List.drop_zero,List.drop_zero,List.nil_append] at h
 have hr:∃ m,RnW C 3005 [.agg (eNn a)] [] 0=some (.sl 0 6 0 a.b.length a.b.length true,[(0,.cells 6 ((entE a.b a.x).map eEn) true true)],m):=by
  refine ⟨m,?_⟩
  rw [rnW_eq H.f3005 rfl]
  simp at h
  simp (disch:=omega) [w359,h2,h,wI64,H.inl,inlB,H.pp,ppB]
 obtain ⟨m,hr⟩:=hr
 unfold freshCallW
 rw [hr]
 simp [ob,ownOf,Pav.get,freshOfW,hand,om]
def thb (ab:List Bool):List Bool→List Int→List Bool
 | b::r,k::s=>(b||ab[k.toNat]?.getD false)::thb ab r s
 | _,_=>[]
def the (ab:List Bool) (B:List En):List Bool→List Int→List En→List En
 | b::r,k::s,e::x=>(if (!b&&ab[k.toNat]?.getD false)=true then B[k.toNat]?.getD zE else e)::the ab B r s x
 | _,_,_=>[]
theorem thb_len (ab:List Bool):∀ (b:List Bool) (f:List Int),b.length=f.length→(thb ab b f).length=b.length
 | [],[],_=>rfl
 | [],_::_,h=>by simp at h
 | _::_,[],h=>by simp at h
 | b::r,k::s,h=>by rw [thb,List.length_cons,List.length_cons,thb_len ab r s (by simpa using h)]
theorem the_mem (ab:List Bool) (B:List En):∀ (b:List Bool) (f:List Int) (x:List En),∀ e ∈ the ab B b f x,e ∈ x∨e ∈ B∨e=zE
 | [],_,_,e,h=>by simp [the] at h
 | _::_,[],_,e,h=>by simp [the] at h
 | _::_,_::_,[],e,h=>by simp [the] at h
 | b::r,k::s,e'::x,e,h=>by
  rw [the] at h
  rcases List.mem_cons.1 h with h | h
  · split at h
    · cases hB:B[k.toNat]? with
      | none=>rw [hB] at h;exact .inr (.inr h)
      | some v=>rw [hB] at h;simp only [Option.getD_some] at h;subst h;exact .inr (.inl (List.mem_of_getElem? hB))
    · subst h;exact .inl (by simp)
  · rcases the_mem ab B r s x e h with q | q
    · exact .inl (by simp [q])
    · exact .inr q
def thN (a b:Nn):Nn:=⟨a.o,cm a.f b.f,true,thb a.b b.b b.f,true,(pickI (thb a.b b.b b.f) (the a.b (entE a.b a.x) b.b b.f (entE b.b b.x))).map It.own,true⟩
theorem fitB_get:∀ (b:List Bool) (f:List Int) (i:Nat),fitB b f=true→b[i]?=some false→∀ k,f[i]?=some k→0≤k
 | [],_,i,_,h,_,_=>by simp at h
 | _::_,[],i,_,_,k,h=>by simp at h
 | b::r,k::s,0,h,hb,k',hk=>by
  simp only [List.getElem?_cons_zero,Option.some.injEq] at hb hk
  subst hb;subst hk
  simp only [fitB,Bool.false_or,Bool.and_eq_true,decide_eq_true_eq] at h
  exact h.1
 | b::r,k::s,i+1,h,hb,k',hk=>by
  simp only [fitB,Bool.and_eq_true] at h
  exact fitB_get r s i h.2 (by simpa using hb) k' (by simpa using hk)
theorem chkN_zero {a:Nn} (h:chkN a=0):Rm.chk a.o a.f=0∧a.b.length=a.f.length∧fitB a.b a.f=true∧cntB a.b=a.x.length:=by
 unfold chkN at h
 split at h
 · rename_i q;exact absurd h q
 · rename_i q
   split at h
   · simp at h
   · rename_i q2
     split at h
     · simp at h
     · rename_i q3
       split at h
       · simp at h
       · rename_i q4
         exact ⟨by simpa using q,by simpa using q2,by simpa using q3,by simpa using q4⟩
theorem zE_m:zE.i.m.length≤1000000:=by simp [zE]
theorem ent_m {a:Nn} (ha:NnIn a):∀ e ∈ entE a.b a.x,e.i.m.length≤1000000:=by
 intro e he
 rcases entE_mem _ _ e he with rfl | ⟨y,hy,rfl⟩
 · exact zE_m
 · exact ha.m _ hy
theorem the_m {a b:Nn} (ha:NnIn a) (hb:NnIn b):∀ e ∈ the a.b (entE a.b a.x) b.b b.f (entE b.b b.x),e.i.m.length≤1000000:=by
 intro e he
 rcases the_mem _ _ _ _ _ e he with h | h | rfl
 · exact ent_m hb e h
 · exact ent_m ha e h
 · exact zE_m
theorem then_loop (H:HasTn C) (a b:Nn) (ha:NnIn a) (hb:NnIn b) (hab:a.b.length=a.f.length) (hbb:b.b.length=b.f.length) (hfit:fitB b.b b.f=true) (hr:∀ k ∈ b.f,k < a.b.length) (F:List Int)
 (X B:List En) (hX:X.length=b.f.length) (hB:B.length=a.b.length) (hXm:∀ e ∈ X,e.i.m.length≤1000000) (hBm:∀ e ∈ B,e.i.m.length≤1000000) (hl:b.f.length≤100000):∀ n i,n+i=b.f.length→∀ (G:List Bool) (Q:List En),G.length=i→Q.length=i→(∀ e ∈ Q,e.i.m.length≤1000000) →
 w184_K0 C ⟨[(64,.int .i64 i),(63,.int .i64 b.f.length),(62,.ro 1 (b.f.map eI) b.fe),(13,.sl 0 1 0 b.f.length b.f.length true),(12,.sl 1 6 0 b.f.length b.f.length true),(11,.sl 2 6 0 a.b.length a.b.length true),(9,.ptr 3 0 0),(4,.ptr 4 0 0),(3,.ptr 5 0 0),(2,.ptr 6 0 0)],
  [(0,.cells 1 (G.map eB++List.replicate n [.bool false]) true true),(1,.cells 6 (Q.map eEn++(X.drop i).map eEn) true true),(2,.cells 6 (B.map eEn) true true),(3,.cells 2 [[.int .i64 a.o,.ro 1 (F.map eI) true]] true true),(4,.cells 4 [[.int .i64 0,.ro 1 [] true,.ro 1 [] true,.ro 4 [] true]] true true),(5,.cells 4 [eNn b] true true),(6,.cells 4 [eNn a] true true)],7⟩ =
  some (.tup [.agg (eNet a.o F true (G++thb a.b (b.b.drop i) (b.f.drop i)) true ((pickI (G++thb a.b (b.b.drop i) (b.f.drop i)) (Q++the a.b B (b.b.drop i) (b.f.drop i) (X.drop i))).map It.own) true),.int .i64 0]):=by
 intro n
 induction n with
 | zero =>
  intro i hi G Q hG hQ hQm
  have q1:b.b.drop i=[]:=List.drop_eq_nil_of_le (by omega)
  have q2:X.drop i=[]:=List.drop_eq_nil_of_le (by omega)
  have h3:¬ i < b.f.length:=by omega
  have hlG:G.length=b.f.length:=by omega
  have hlQ:Q.length=b.f.length:=by omega
  have hn:=net_ok H.toHasNe a.o F true G true Q true (by omega) (by omega) hQm
  have hT1:List.take b.f.length (List.map eB G)=List.map eB G:=List.take_of_length_le (by simp;omega)
  have hT2:List.take b.f.length (List.map eEn Q)=List.map eEn Q:=List.take_of_length_le (by simp;omega)
  rw [q1,q2]
  simp only [Rm.eM,L1] at hn
  simp at hn
  simp only [w184_K0];rw [ck_unf w184_B0.eq_1]
  simp (disch:=omega) [ck_unf w184_c0.eq_1,h3,hn,hT1,hT2,hlG,hlQ,thb,the,wI64,H.inl,inlB,H.pp,ppB]
 | succ n ih =>
  intro i hi G Q hG hQ hQm
  have p1:i < b.b.length:=by omega
  have p2:i < b.f.length:=by omega
  have p3:i < X.length:=by omega
  have hQl:(List.map eEn Q).length=i:=by simpa using hQ
  have hGl:(List.map eB G).length=i:=by simpa using hG
  have hrs:(List.replicate (n+1) [AV.bool false]).set 0 [AV.bool true]=[AV.bool true]::List.replicate n [AV.bool false]:=rfl
  rw [drop_cons p1,drop_cons p2,drop_cons p3,thb,the]
  simp only [w184_K0];rw [ck_unf w184_B0.eq_1]
  by_cases hb1:b.b[i]=true
  · have:=ih (i+1) (by omega) (G++[true]) (Q++[X[i]]) (by simp [hG]) (by simp [hQ]) (by
     intro e he
     rcases List.mem_append.1 he with he | he
     · exact hQm e he
     · simp only [List.mem_singleton] at he;subst he;exact hXm _ (List.getElem_mem p3))
    rw [hb1]
    simp only [w184_K0] at this
    simp at this
    simp (disch:=omega) [p1,p2,hb1,fill_get,fill_set,hrs,hG,wI64,H.inl,inlB,H.pp,ppB,this]
  · have hb2:b.b[i]=false:=by simpa using hb1
    have hk0:=fitB_get b.b b.f i hfit (by rw [List.getElem?_eq_getElem p1,hb2]) b.f[i] (List.getElem?_eq_getElem p2)
    have hk1:=hr b.f[i] (List.getElem_mem p2)
    obtain ⟨q,hq⟩:∃ q:Nat,b.f[i]=q:=⟨b.f[i].toNat,by omega⟩
    have hq1:q < a.b.length:=by omega
    have hq2:q < B.length:=by omega
    have e1:a.b[b.f[i].toNat]?.getD false=a.b[q]:=by rw [hq,Int.toNat_natCast,List.getElem?_eq_getElem hq1];rfl
    have e2:B[b.f[i].toNat]?.getD zE=B[q]:=by rw [hq,Int.toNat_natCast,List.getElem?_eq_getElem hq2];rfl
    rw [e1,e2,hb2]
    by_cases ha1:a.b[q]=true
    · have:=ih (i+1) (by omega) (G++[true]) (Q++[B[q]]) (by simp [hG]) (by simp [hQ]) (by
       intro e he
       rcases List.mem_append.1 he with he | he
       · exact hQm e he
       · simp only [List.mem_singleton] at he;subst he;exact hBm _ (List.getElem_mem hq2))
      simp only [w184_K0] at this
      simp at this
      simp (disch:=omega) [p1,p2,p3,hb2,hq,hq1,hq2,hB,ha1,fill_get,fill_set,hrs,mid_set hQl,mid_set hGl,mid_get hQl,hG,wI64,H.inl,inlB,H.pp,ppB,this]
    · have ha2:a.b[q]=false:=by simpa using ha1
      have:=ih (i+1) (by omega) (G++[false]) (Q++[X[i]]) (by simp [hG]) (by simp [hQ]) (by
       intro e he
       rcases List.mem_append.1 he with he | he
       · exact hQm e he
       · simp only [List.mem_singleton] at he;subst he;exact hXm _ (List.getElem_mem p3))
      simp only [w184_K0] at this
      simp at this
      simp (disch:=omega) [p1,p2,hb2,hq,hq1,ha2,List.replicate_succ,mid_get hGl,mid_set hGl,hG,wI64,H.inl,inlB,H.pp,ppB,this]
def errN (e:Int):AV:=.tup [.agg (eNet 0 [] true [] true [] true),.int .i64 e]
theorem then_ok (H:HasTn C) (a b:Nn) (ha:NnIn a) (hb:NnIn b) (hl:b.f.length≤100000) :
 FnW C 184 [.agg (eNn a),.agg (eNn b)]=some (if chkN a≠0 then errN (chkN a) else if chkN b≠0 then errN (chkN b) else if b.o≠a.f.length then errN 1 else .tup [.agg (eNn (thN a b)),.int .i64 0]):=by
 have k1:=bcheck_ok H.toHasCn a ha
 have k2:=bcheck_ok H.toHasCn b hb
 have hc:=Rm.compose_ok H.toHasCn.toHas a.o a.f a.fe b.o b.f b.fe
 rw [fnW_eq H.f184 rfl]
 simp only [eNn,eNet] at k1 k2
 unfold errN
 by_cases ca:chkN a=0
 · rw [if_neg (by simp [ca])]
   rw [ca] at k1
   by_cases cb:chkN b=0
   · rw [if_neg (by simp [cb])]
     rw [cb] at k2
     by_cases co:b.o=a.f.length
     · rw [if_neg (by simp [co])]
       obtain ⟨a1,a2,a3,a4⟩:=chkN_zero ca
       obtain ⟨b1,b2,b3,b4⟩:=chkN_zero cb
       have hr:=(Rm.chk_zero b1).rng
       rw [a1,b1,if_neg (by simp),if_neg (by simp),if_neg (by simp [co]),cm_cmp] at hc
       have e1:=fun nid=>ent_ok H a ha a4 nid
       have e2:=fun nid=>ent_ok H b hb b4 nid
       have h:=then_loop H a b ha hb a2 b2 b3 (fun k hk=>by have:=hr k hk;omega) (cm a.f b.f) (entE b.b b.x) (entE a.b a.x) (by rw [entE_len,b2]) (by rw [entE_len]) (ent_m hb) (ent_m ha) hl b.f.length 0 rfl [] [] rfl rfl (by simp)
       rw [List.drop_zero,List.drop_zero,List.drop_zero,List.nil_append,List.nil_append] at h
       have hmk:b.f.length * 2≤35184372088832:=by omega
       simp only [eNn,eNet,b2] at e1 e2
       simp only [Rm.eM,L1] at hc
       simp only [w184_K0] at h
       unfold thN
       simp at h hc
       simp (disch:=omega) [w184,ck_unf w184_B1.eq_1,ck_unf w184_c1.eq_1,k1,k2,eq_true co,hc,e1,e2,b2,hmk,h,wI64,H.inl,inlB,H.pp,ppB]
     · rw [if_pos co]
       simp (disch:=omega) [w184,ck_unf w184_B1.eq_1,ck_unf w184_c1.eq_1,k1,k2,co,wI64,H.inl,inlB,H.pp,ppB]
   · rw [if_pos cb]
     generalize chkN b=E at *
     simp (disch:=omega) [w184,ck_unf w184_B1.eq_1,k1,k2,cb,wI64,H.inl,inlB,H.pp,ppB]
 · rw [if_pos ca]
   generalize chkN a=E at *
   simp (disch:=omega) [w184,ck_unf w184_B1.eq_1,k1,ca,wI64,H.inl,inlB,H.pp,ppB]
end Go.D
end
section
set_option linter.unusedSimpArgs false
set_option linter.unusedVariables false
namespace Go.D
open Go Go.Pav Go.Pw P
set_option maxRecDepth 10000
set_option maxHeartbeats 4000000
set_option linter.unusedSimpArgs false
set_option linter.unusedVariables false
attribute [-simp] List.getElem_cons_drop
variable {C:WProg}
structure HasSm (C:WProg):Prop extends HasSn C,HasCn C where
 f165:C.fns.get 165=some w165
 f179:C.fns.get 179=some w179
def Bit (x:Option AV) (Q:Prop):Prop:=x=some (.int .i64 0)∨(x=some (.int .i64 1)∧Q)
theorem small_in (H:HasSm C) (a:Nn) (ha:a.x.length≤20) (i:Nat) (hi:i < a.x.length) (hm:a.x[i].m.length≤12) (Q:Prop)
 (hnext:Bit (w165_K0 C ⟨[(3,.int .i64 (i+1:Nat)),(1,.ptr 0 0 0)],[(0,.cells 4 [eNn a] true true)],1⟩) Q):∀ n j,n+j=a.x[i].m.length →
 Bit (w165_K1 C ⟨[(4,.int .i64 j),(3,.int .i64 i),(1,.ptr 0 0 0)],[(0,.cells 4 [eNn a] true true)],1⟩) Q:=by
 intro n
 induction n with
 | zero =>
  intro j hj
  have h3:¬ j < a.x[i].m.length:=by omega
  simp only [w165_K0] at hnext
  simp at hnext
  simp only [w165_K1];rw [ck_unf w165_B1.eq_1]
  simp (disch:=omega) [ck_unf w165_c1.eq_1,hi,h3,wI64,H.inl,inlB,H.pp,ppB]
  exact hnext
 | succ n ih =>
  intro j hj
  have h3:j < a.x[i].m.length:=by omega
  by_cases c:(20:Int) < a.x[i].m[j].length
  · left
    simp only [w165_K1];rw [ck_unf w165_B1.eq_1]
    simp (disch:=omega) [hi,h3,c,wI64,H.inl,inlB,H.pp,ppB]
  · have:=ih (j+1) (by omega)
    simp only [w165_K1] at this ⊢;rw [ck_unf w165_B1.eq_1]
    simp at this
    simp (disch:=omega) [hi,h3,c,wI64,H.inl,inlB,H.pp,ppB]
    exact this
theorem small_loop (H:HasSm C) (a:Nn) (ha:a.x.length≤20):∀ n i,n+i=a.x.length →
 Bit (w165_K0 C ⟨[(3,.int .i64 i),(1,.ptr 0 0 0)],[(0,.cells 4 [eNn a] true true)],1⟩) (∀ y ∈ a.x.drop i,y.m.length≤12):=by
 intro n
 induction n with
 | zero =>
  intro i hi
  have h1:a.x.drop i=[]:=List.drop_eq_nil_of_le (by omega)
  have h3:¬ i < a.x.length:=by omega
  right
  refine ⟨?_,by rw [h1];simp⟩
  simp only [w165_K0];rw [ck_unf w165_B0.eq_1]
  simp [ck_unf w165_c0.eq_1,h3]
 | succ n ih =>
  intro i hi
  have h1:i < a.x.length:=by omega
  rw [drop_cons h1]
  by_cases c1:(70:Int) < a.x[i].x.length
  · left
    simp only [w165_K0];rw [ck_unf w165_B0.eq_1]
    simp (disch:=omega) [h1,c1,wI64,H.inl,inlB,H.pp,ppB]
  · by_cases c2:(12:Int) < a.x[i].m.length
    · left
      simp only [w165_K0];rw [ck_unf w165_B0.eq_1]
      simp (disch:=omega) [h1,c1,c2,wI64,H.inl,inlB,H.pp,ppB]
    · have hnext:=ih (i+1) (by omega)
      have h:=small_in H a ha i h1 (by omega) (∀ y ∈ a.x.drop (i+1),y.m.length≤12) hnext a.x[i].m.length 0 rfl
      have h2:Bit (w165_K1 C ⟨[(4,.int .i64 (0:Nat)),(3,.int .i64 i),(1,.ptr 0 0 0)],[(0,.cells 4 [eNn a] true true)],1⟩) (∀ y ∈ a.x[i]::a.x.drop (i+1),y.m.length≤12):=by
       rcases h with h | ⟨h,q⟩
       · exact .inl h
       · refine .inr ⟨h,fun y hy=>?_⟩
         rcases List.mem_cons.1 hy with rfl | hy
         · omega
         · exact q y hy
      simp only [w165_K1] at h2
      simp only [w165_K0];rw [ck_unf w165_B0.eq_1]
      have conv:∀ Q:Prop,∀ x y:Option AV,x=y→Bit y Q→Bit x Q:=by
       intro Q x y h;subst h;exact id
      refine conv _ _ _ ?_ h2
      simp (disch:=omega) [h1,c1,c2,wI64,H.inl,inlB,H.pp,ppB]
structure SmN (a:Nn):Prop where
 f:a.f.length≤40
 b:a.b.length≤40
 x:a.x.length≤20
 m:∀ y ∈ a.x,y.m.length≤12
theorem SmN.inn {a:Nn} (h:SmN a):NnIn a:=⟨by have:=h.f;omega,by have:=h.b;omega,by have:=h.x;omega,fun y hy=>by have:=h.m y hy;omega⟩
theorem small_ok (H:HasSm C) (a:Nn) (hf:a.f.length≤9223372036854775807) (hb:a.b.length≤9223372036854775807) (hx:a.x.length≤9223372036854775807):Bit (FnW C 165 [.agg (eNn a)]) (SmN a):=by
 rw [fnW_eq H.f165 rfl]
 by_cases c1:(40:Int) < a.f.length
 · left
   simp (disch:=omega) [w165,c1,wI64,H.inl,inlB,H.pp,ppB]
 · by_cases c2:(40:Int) < a.b.length
   · left
     simp (disch:=omega) [w165,c1,c2,wI64,H.inl,inlB,H.pp,ppB]
   · by_cases c3:(20:Int) < a.x.length
     · left
       simp (disch:=omega) [w165,c1,c2,c3,wI64,H.inl,inlB,H.pp,ppB]
     · have h:=small_loop H a (by omega) a.x.length 0 rfl
       rw [List.drop_zero] at h
       simp only [w165_K0] at h
       simp at h
       rcases h with h | ⟨h,q⟩
       · left
         simp (disch:=omega) [w165,c1,c2,c3,h,wI64,H.inl,inlB,H.pp,ppB]
       · right
         refine ⟨?_,by omega,by omega,by omega,q⟩
         simp (disch:=omega) [w165,c1,c2,c3,h,wI64,H.inl,inlB,H.pp,ppB]
def fitN (a:Nn):Bool:=decide (a.b.length=a.f.length)&&(fitB a.b a.f&&decide (cntB a.b=a.x.length))
theorem fits_loop (H:HasSm C) (a:Nn) (ha:NnIn a) (hl:a.b.length=a.f.length):∀ n i,n+i=a.b.length→∀ c:Nat,c≤i →
 w179_K0 C ⟨[(4,.int .i64 i),(3,.int .i64 c),(1,.ptr 0 0 0)],[(0,.cells 4 [eNn a] true true)],1⟩ =
  some (.int .i64 (if fitB (a.b.drop i) (a.f.drop i)=false then 0 else if c+cntB (a.b.drop i)≠a.x.length then 0 else 1)):=by
 intro n
 have hq:=ha.b
 induction n with
 | zero =>
  intro i hi c hc
  have q1:a.b.drop i=[]:=List.drop_eq_nil_of_le (by omega)
  have h3:¬ i < a.b.length:=by omega
  simp only [w179_K0];rw [ck_unf w179_B0.eq_1]
  by_cases h:c=a.x.length
  · simp [ck_unf w179_c0.eq_1,q1,h3,fitB,cntB,eq_true h,H.inl,inlB,H.pp,ppB]
  · simp [ck_unf w179_c0.eq_1,q1,h3,fitB,cntB,h,H.inl,inlB,H.pp,ppB]
 | succ n ih =>
  intro i hi c hc
  have p1:i < a.b.length:=by omega
  have p2:i < a.f.length:=by omega
  rw [drop_cons p1,drop_cons p2,fitB,cntB]
  simp only [w179_K0];rw [ck_unf w179_B0.eq_1]
  by_cases hb:a.b[i]=true
  · have:=ih (i+1) (by omega) (c+1) (by omega)
    have e:c+(cntB (a.b.drop (i+1))+1)=c+1+cntB (a.b.drop (i+1)):=by omega
    rw [hb,Bool.true_or,Bool.true_and,if_pos rfl,e]
    simp only [w179_K0] at this
    simp at this
    simp (disch:=omega) [p1,p2,hb,wI64,H.inl,inlB,H.pp,ppB,this]
  · have hb':a.b[i]=false:=by simpa using hb
    rw [hb',Bool.false_or,if_neg Bool.false_ne_true]
    by_cases hk:a.f[i] < 0
    · have hd:decide (0≤a.f[i])=false:=by simpa using hk
      rw [hd,Bool.false_and,if_pos rfl]
      simp (disch:=omega) [p1,p2,hb',hk,wI64,H.inl,inlB,H.pp,ppB]
    · have hd:decide (0≤a.f[i])=true:=by simpa using hk
      rw [hd,Bool.true_and]
      have:=ih (i+1) (by omega) c (by omega)
      simp only [w179_K0] at this
      simp at this
      simp (disch:=omega) [p1,p2,hb',hk,wI64,H.inl,inlB,H.pp,ppB,this]
theorem fits_ok (H:HasSm C) (a:Nn) (ha:NnIn a):FnW C 179 [.agg (eNn a)]=some (.int .i64 (if fitN a=true then 1 else 0)):=by
 rw [fnW_eq H.f179 rfl]
 unfold fitN
 by_cases c2:a.b.length=a.f.length
 · have h:=fits_loop H a ha c2 a.b.length 0 rfl 0 (by omega)
   simp only [w179_K0,List.drop_zero,Nat.zero_add] at h
   rw [decide_eq_true c2,Bool.true_and]
   cases hf:fitB a.b a.f
   · rw [hf,if_pos rfl] at h
     simp at h
     simp (disch:=omega) [w179,eq_true c2,h,wI64,H.inl,inlB,H.pp,ppB]
   · rw [hf,if_neg (by simp)] at h
     simp at h
     simp (disch:=omega) [w179,eq_true c2,h,wI64,H.inl,inlB,H.pp,ppB]
 · rw [decide_eq_false c2]
   simp (disch:=omega) [w179,c2,wI64,H.inl,inlB,H.pp,ppB]
theorem chk_fit {a:Nn} (h:Rm.chk a.o a.f=0):chkN a=if fitN a=true then 0 else 1:=by
 unfold chkN fitN
 rw [if_neg (by simp [h])]
 by_cases c:a.b.length=a.f.length
 · rw [if_neg (by simp [c]),decide_eq_true c]
   cases fitB a.b a.f
   · simp
   · by_cases d:cntB a.b=a.x.length
     · simp [d]
     · simp [d]
 · rw [if_pos c,decide_eq_false c];simp
end Go.D
end
section
set_option linter.unusedSimpArgs false
set_option linter.unusedVariables false
namespace Go.D
open Go Go.Pav Go.Pw P
set_option maxRecDepth 10000
set_option maxHeartbeats 4000000
set_option linter.unusedSimpArgs false
set_option linter.unusedVariables false
attribute [-simp] List.getElem_cons_drop
variable {C:WProg}
structure HasSa (C:WProg):Prop extends HasG C where
 f353:C.fns.get 353=some w353
 f354:C.fns.get 354=some w354
 f355:C.fns.get 355=some w355
 f356:C.fns.get 356=some w356
 f468:C.fns.get 468=some w468
 f181:C.fns.get 181=some w181
theorem eqs3_loop (H:HasSa C) (a b:List Bs) (e f:Bool) (hl:a.length=b.length) (hm:a.length≤9223372036854775807):∀ n i,n+i=a.length →
 w468_K0 C ⟨[(13,.int .i64 i),(12,.int .i64 a.length),(1,.ro 1 (b.map eS) f),(0,.ro 1 (a.map eS) e)],[],0⟩=some (.bool (decide (a.drop i=b.drop i))):=by
 intro n
 induction n with
 | zero =>
  intro i hi
  have h1:a.drop i=[]:=List.drop_eq_nil_of_le (by omega)
  have h2:b.drop i=[]:=List.drop_eq_nil_of_le (by omega)
  have h3:¬ i < a.length:=by omega
  simp only [w468_K0];rw [ck_unf w468_B0.eq_1]
  simp (disch:=omega) [ck_unf w468_c0.eq_1,h1,h2,h3]
 | succ n ih =>
  intro i hi
  have h1:i < a.length:=by omega
  have h2:i < b.length:=by omega
  have this:=ih (i+1) (by omega)
  rw [drop_cons h1,drop_cons h2]
  by_cases c:a[i]=b[i]
  · have hq:decide (a[i]::a.drop (i+1)=b[i]::b.drop (i+1))=decide (a.drop (i+1)=b.drop (i+1)):=by simp [c]
    rw [hq]
    generalize decide (a.drop (i+1)=b.drop (i+1))=X at *
    simp only [w468_K0] at this ⊢;rw [ck_unf w468_B0.eq_1]
    simp at this
    simp (disch:=omega) [h1,h2,eq_true c,wI64,this]
  · have hq:decide (a[i]::a.drop (i+1)=b[i]::b.drop (i+1))=false:=by simp [c]
    rw [hq]
    simp only [w468_K0];rw [ck_unf w468_B0.eq_1]
    simp (disch:=omega) [h1,h2,c,wI64]
theorem eqs3_ok (H:HasSa C) (a b:List Bs) (e f:Bool) (hm:a.length≤9223372036854775807):FnW C 468 [.ro 1 (a.map eS) e,.ro 1 (b.map eS) f]=some (.bool (decide (a=b))):=by
 rw [fnW_eq H.f468 rfl]
 by_cases c:a.length=b.length
 · have h:=eqs3_loop H a b e f c hm a.length 0 (by simp)
   rw [List.drop_zero,List.drop_zero] at h
   generalize decide (a=b)=X at *
   simp only [w468_K0] at h
   simp at h
   simp [w468,eq_true c,h]
 · have c2:decide (a=b)=false:=by
    simp;intro q;exact c (by rw [q])
   rw [c2]
   simp [w468,c]
theorem eqi3_loop (H:HasSa C) (a b:List Int) (e f:Bool) (hl:a.length=b.length) (hm:a.length≤9223372036854775807):∀ n i,n+i=a.length →
 w353_K0 C ⟨[(13,.int .i64 i),(12,.int .i64 a.length),(1,.ro 1 (b.map eI) f),(0,.ro 1 (a.map eI) e)],[],0⟩=some (.bool (decide (a.drop i=b.drop i))):=by
 intro n
 induction n with
 | zero =>
  intro i hi
  have h1:a.drop i=[]:=List.drop_eq_nil_of_le (by omega)
  have h2:b.drop i=[]:=List.drop_eq_nil_of_le (by omega)
  have h3:¬ i < a.length:=by omega
  simp only [w353_K0];rw [ck_unf w353_B0.eq_1]
  simp (disch:=omega) [ck_unf w353_c0.eq_1,h1,h2,h3]
 | succ n ih =>
  intro i hi
  have h1:i < a.length:=by omega
  have h2:i < b.length:=by omega
  have this:=ih (i+1) (by omega)
  rw [drop_cons h1,drop_cons h2]
  by_cases c:a[i]=b[i]
  · have hq:decide (a[i]::a.drop (i+1)=b[i]::b.drop (i+1))=decide (a.drop (i+1)=b.drop (i+1)):=by simp [c]
    rw [hq]
    generalize decide (a.drop (i+1)=b.drop (i+1))=X at *
    simp only [w353_K0] at this ⊢;rw [ck_unf w353_B0.eq_1]
    simp at this
    simp (disch:=omega) [h1,h2,eq_true c,wI64,this]
  · have hq:decide (a[i]::a.drop (i+1)=b[i]::b.drop (i+1))=false:=by simp [c]
    rw [hq]
    simp only [w353_K0];rw [ck_unf w353_B0.eq_1]
    simp (disch:=omega) [h1,h2,c,wI64]
theorem eqi3_ok (H:HasSa C) (a b:List Int) (e f:Bool) (hm:a.length≤9223372036854775807):FnW C 353 [.ro 1 (a.map eI) e,.ro 1 (b.map eI) f]=some (.bool (decide (a=b))):=by
 rw [fnW_eq H.f353 rfl]
 by_cases c:a.length=b.length
 · have h:=eqi3_loop H a b e f c hm a.length 0 (by simp)
   rw [List.drop_zero,List.drop_zero] at h
   generalize decide (a=b)=X at *
   simp only [w353_K0] at h
   simp at h
   simp [w353,eq_true c,h]
 · have c2:decide (a=b)=false:=by
    simp;intro q;exact c (by rw [q])
   rw [c2]
   simp [w353,c]
theorem eqb3_loop (H:HasSa C) (a b:List Bool) (e f:Bool) (hl:a.length=b.length) (hm:a.length≤9223372036854775807):∀ n i,n+i=a.length →
 w354_K0 C ⟨[(13,.int .i64 i),(12,.int .i64 a.length),(1,.ro 1 (b.map eB) f),(0,.ro 1 (a.map eB) e)],[],0⟩=some (.bool (decide (a.drop i=b.drop i))):=by
 intro n
 induction n with
 | zero =>
  intro i hi
  have h1:a.drop i=[]:=List.drop_eq_nil_of_le (by omega)
  have h2:b.drop i=[]:=List.drop_eq_nil_of_le (by omega)
  have h3:¬ i < a.length:=by omega
  simp only [w354_K0];rw [ck_unf w354_B0.eq_1]
  simp (disch:=omega) [ck_unf w354_c0.eq_1,h1,h2,h3]
 | succ n ih =>
  intro i hi
  have h1:i < a.length:=by omega
  have h2:i < b.length:=by omega
  have this:=ih (i+1) (by omega)
  rw [drop_cons h1,drop_cons h2]
  by_cases c:a[i]=b[i]
  · have hq:decide (a[i]::a.drop (i+1)=b[i]::b.drop (i+1))=decide (a.drop (i+1)=b.drop (i+1)):=by simp [c]
    rw [hq]
    generalize decide (a.drop (i+1)=b.drop (i+1))=X at *
    simp only [w354_K0] at this ⊢;rw [ck_unf w354_B0.eq_1]
    simp at this
    simp (disch:=omega) [h1,h2,eq_true c,wI64,this]
  · have hq:decide (a[i]::a.drop (i+1)=b[i]::b.drop (i+1))=false:=by simp [c]
    rw [hq]
    simp only [w354_K0];rw [ck_unf w354_B0.eq_1]
    simp (disch:=omega) [h1,h2,c,wI64]
theorem eqb3_ok (H:HasSa C) (a b:List Bool) (e f:Bool) (hm:a.length≤9223372036854775807):FnW C 354 [.ro 1 (a.map eB) e,.ro 1 (b.map eB) f]=some (.bool (decide (a=b))):=by
 rw [fnW_eq H.f354 rfl]
 by_cases c:a.length=b.length
 · have h:=eqb3_loop H a b e f c hm a.length 0 (by simp)
   rw [List.drop_zero,List.drop_zero] at h
   generalize decide (a=b)=X at *
   simp only [w354_K0] at h
   simp at h
   simp [w354,eq_true c,h]
 · have c2:decide (a=b)=false:=by
    simp;intro q;exact c (by rw [q])
   rw [c2]
   simp [w354,c]
theorem isame3_ok (H:HasSa C) (a b:It) (hm:a.m.length≤9223372036854775807):FnW C 356 [eIt a,eIt b]=some (.bool (sameIt a b)):=by
 have h:=eqs3_ok H a.m b.m a.e b.e hm
 rw [fnW_eq H.f356 rfl]
 unfold sameIt
 by_cases c1:a.k=b.k
 · by_cases c2:a.t=b.t
   · by_cases c3:a.x=b.x
     · simp [w356,eq_true c1,eq_true c2,eq_true c3,h,H.inl,inlB,H.pp,ppB]
     · simp [w356,eq_true c1,eq_true c2,c3,H.inl,inlB,H.pp,ppB]
   · simp [w356,eq_true c1,c2,H.inl,inlB,H.pp,ppB]
 · simp [w356,c1,H.inl,inlB,H.pp,ppB]
theorem eqx_loop (H:HasSa C) (x y:List It) (xe ye:Bool) (hl:x.length=y.length) (h1:x.length≤1000000) (hx:∀ i ∈ x,i.m.length≤1000000):∀ n i,n+i=x.length →
 w355_K0 C ⟨[(17,.int .i64 i),(16,.int .i64 x.length),(15,.ro 4 (x.map cIt) xe),(2,.fn 356 []),(1,.ro 4 (y.map cIt) ye)],[],0⟩=some (.bool (sameX (x.drop i) (y.drop i))):=by
 intro n
 induction n with
 | zero =>
  intro i hi
  have q1:x.drop i=[]:=List.drop_eq_nil_of_le (by omega)
  have q2:y.drop i=[]:=List.drop_eq_nil_of_le (by omega)
  have h3:¬ i < x.length:=by omega
  simp only [w355_K0];rw [ck_unf w355_B0.eq_1]
  simp [ck_unf w355_c0.eq_1,q1,q2,h3,sameX]
 | succ n ih =>
  intro i hi
  have p1:i < x.length:=by omega
  have p2:i < y.length:=by omega
  have h:=isame3_ok H x[i] y[i] (by have:=hx _ (List.getElem_mem p1);omega)
  have:=ih (i+1) (by omega)
  rw [drop_cons p1,drop_cons p2,sameX]
  simp only [w355_K0] at this ⊢;rw [ck_unf w355_B0.eq_1]
  simp at this
  generalize sameIt x[i] y[i]=b at *
  cases b
  · simp (disch:=omega) [p1,p2,h,wI64,H.inl,inlB,H.pp,ppB]
  · simp (disch:=omega) [p1,p2,h,wI64,H.inl,inlB,H.pp,ppB,this]
theorem eqx_ok (H:HasSa C) (x y:List It) (xe ye:Bool) (h1:x.length≤1000000) (h2:y.length≤1000000) (hx:∀ i ∈ x,i.m.length≤1000000) :
 FnW C 355 [.ro 4 (x.map cIt) xe,.ro 4 (y.map cIt) ye,.fn 356 []]=some (.bool (sameX x y)):=by
 rw [fnW_eq H.f355 rfl]
 by_cases hl:x.length=y.length
 · have:=eqx_loop H x y xe ye hl h1 hx x.length 0 rfl
   simp only [w355_K0] at this
   simp at this
   simp (disch:=omega) [w355,eq_true hl,this,wI64,H.inl,inlB,H.pp,ppB]
 · have:sameX x y=false:=by
    cases h:sameX x y with
    | false=>rfl
    | true=>exact absurd (sameX_len x y h) hl
   rw [this]
   simp (disch:=omega) [w355,hl,wI64,H.inl,inlB,H.pp,ppB]
theorem bsame_ok (H:HasSa C) (a b:Nn) (ha:NnIn a) (hb:NnIn b):FnW C 181 [.agg (eNn a),.agg (eNn b)]=some (.bool (sameN a b)):=by
 have h1:=eqi3_ok H a.f b.f a.fe b.fe (by have:=ha.f;omega)
 have h2:=eqb3_ok H a.b b.b a.be b.be (by have:=ha.b;omega)
 have h3:=eqx_ok H a.x b.x a.xe b.xe ha.x hb.x ha.m
 rw [fnW_eq H.f181 rfl]
 unfold sameN
 generalize sameX a.x b.x=c at *
 by_cases c1:a.o=b.o
 · by_cases c2:a.f=b.f
   · by_cases c3:a.b=b.b
     · simp (disch:=omega) [w181,eq_true c1,eq_true c2,eq_true c3,h1,h2,h3,wI64,H.inl,inlB,H.pp,ppB]
     · simp (disch:=omega) [w181,eq_true c1,eq_true c2,c3,h1,h2,h3,wI64,H.inl,inlB,H.pp,ppB]
   · simp (disch:=omega) [w181,eq_true c1,c2,h1,h2,h3,wI64,H.inl,inlB,H.pp,ppB]
 · simp (disch:=omega) [w181,c1,h1,h2,h3,wI64,H.inl,inlB,H.pp,ppB]
end Go.D
end
section
set_option linter.unusedSimpArgs false
set_option linter.unusedVariables false
namespace Go.D
open Go Go.Pav Go.Pw P
set_option maxRecDepth 10000
set_option maxHeartbeats 4000000
set_option linter.unusedSimpArgs false
set_option linter.unusedVariables false
def cmpT (U:List Tg) (t:Tg):Tg:=if 0≤t.f then (match U[t.f.toNat]? with
 | some u=>⟨u.f,t.b||u.b,if t.b=true then t.i else u.i⟩
 | none=>t) else t
def compT (U T:List Tg):List Tg:=T.map (cmpT U)
def FitT (T:List Tg):Prop:=∀ t ∈ T,t.f < 0→t.b=true
end Go.D
end
section
set_option linter.unusedSimpArgs false
set_option linter.unusedVariables false
namespace Go.D
open Go Go.Pav Go.Pw P
set_option maxRecDepth 10000
set_option maxHeartbeats 4000000
set_option linter.unusedSimpArgs false
set_option linter.unusedVariables false
attribute [-simp] List.getElem_cons_drop
variable {C:WProg}
def bI (b:Bool):Int:=if b=true then 1 else 0
@[simp] theorem bI_t:bI true=1:=rfl
@[simp] theorem bI_f:bI false=0:=rfl
@[simp] def eTg (t:Tg):List AV:=[.int .i64 t.f,.int .i64 (bI t.b),.int .u64 t.i.k,.int .u8 t.i.t,.str t.i.x,.ro 1 (t.i.m.map eS) t.i.e]
def tgE:List Int→List Bool→List It→List Tg
 | k::f,true::b,y::x=>⟨k,true,y⟩::tgE f b x
 | k::f,true::b,[]=>⟨k,true,zE.i⟩::tgE f b []
 | k::f,false::b,x=>⟨k,false,zE.i⟩::tgE f b x
 | _,_,_=>[]
theorem tgE_f:∀ (f:List Int) (b:List Bool) (x:List It),b.length=f.length→(tgE f b x).map (·.f)=f
 | [],[],_,_=>by simp [tgE]
 | [],_::_,_,h=>by simp at h
 | _::_,[],_,h=>by simp at h
 | k::f,true::b,y::x,h=>by rw [tgE,List.map_cons,tgE_f f b x (by simpa using h)]
 | k::f,true::b,[],h=>by rw [tgE,List.map_cons,tgE_f f b [] (by simpa using h)]
 | k::f,false::b,x,h=>by rw [tgE,List.map_cons,tgE_f f b x (by simpa using h)]
theorem tgE_b:∀ (f:List Int) (b:List Bool) (x:List It),b.length=f.length→(tgE f b x).map (·.b)=b
 | [],[],_,_=>by simp [tgE]
 | [],_::_,_,h=>by simp at h
 | _::_,[],_,h=>by simp at h
 | k::f,true::b,y::x,h=>by rw [tgE,List.map_cons,tgE_b f b x (by simpa using h)]
 | k::f,true::b,[],h=>by rw [tgE,List.map_cons,tgE_b f b [] (by simpa using h)]
 | k::f,false::b,x,h=>by rw [tgE,List.map_cons,tgE_b f b x (by simpa using h)]
theorem tgE_len (f:List Int) (b:List Bool) (x:List It) (h:b.length=f.length):(tgE f b x).length=f.length:=by
 simpa using congrArg List.length (tgE_f f b x h)
theorem tgE_ent:∀ (f:List Int) (b:List Bool) (x:List It),b.length=f.length→cntB b=x.length→entE b x=(tgE f b x).map fun t=>if t.b=true then ⟨t.i,0,false⟩ else zE
 | [],[],x,_,h=>by cases x <;> simp [tgE,entE] at h ⊢
 | [],_::_,_,h,_=>by simp at h
 | _::_,[],_,h,_=>by simp at h
 | k::f,true::b,y::x,h,hc=>by
  rw [tgE,entE,List.map_cons,tgE_ent f b x (by simpa using h) (by simpa [cntB] using hc)];rfl
 | k::f,true::b,[],h,hc=>by simp [cntB] at hc
 | k::f,false::b,x,h,hc=>by
  rw [tgE,entE,List.map_cons,tgE_ent f b x (by simpa using h) (by simpa [cntB] using hc)];rfl
theorem tgE_fit:∀ (f:List Int) (b:List Bool) (x:List It),fitB b f=true→FitT (tgE f b x)
 | [],_,_,_=>fun t h=>by simp [tgE] at h
 | _::_,[],_,_=>fun t h=>by simp [tgE] at h
 | k::f,true::b,y::x,h=>fun t ht hf=>by
  rw [tgE] at ht
  rcases List.mem_cons.1 ht with rfl | ht
  · rfl
  · exact tgE_fit f b x (by simpa [fitB] using h) t ht hf
 | k::f,true::b,[],h=>fun t ht hf=>by
  rw [tgE] at ht
  rcases List.mem_cons.1 ht with rfl | ht
  · rfl
  · exact tgE_fit f b [] (by simpa [fitB] using h) t ht hf
 | k::f,false::b,x,h=>fun t ht hf=>by
  simp only [fitB,Bool.false_or,Bool.and_eq_true,decide_eq_true_eq] at h
  rw [tgE] at ht
  rcases List.mem_cons.1 ht with rfl | ht
  · have:=h.1
    simp only at hf
    omega
  · exact tgE_fit f b x h.2 t ht hf
theorem tgE_m:∀ (f:List Int) (b:List Bool) (x:List It),∀ t ∈ tgE f b x,t.i=zE.i∨t.i ∈ x
 | [],_,_,t,h=>by simp [tgE] at h
 | _::_,[],_,t,h=>by simp [tgE] at h
 | k::f,true::b,y::x,t,h=>by
  rw [tgE] at h
  rcases List.mem_cons.1 h with rfl | h
  · exact .inr (by simp)
  · rcases tgE_m f b x t h with q | q
    · exact .inl q
    · exact .inr (by simp [q])
 | k::f,true::b,[],t,h=>by
  rw [tgE] at h
  rcases List.mem_cons.1 h with rfl | h
  · exact .inl rfl
  · exact tgE_m f b [] t h
 | k::f,false::b,x,t,h=>by
  rw [tgE] at h
  rcases List.mem_cons.1 h with rfl | h
  · exact .inl rfl
  · exact tgE_m f b x t h
structure HasTg (C:WProg):Prop extends HasG C where
 f361:C.fns.get 361=some w361
theorem tags_loop (H:HasTg C) (a:Nn) (ha:NnIn a) (hl:a.b.length=a.f.length):∀ n i,n+i=a.f.length→∀ (c:Nat) (G:List Tg),G.length=i→c+cntB (a.b.drop i)=a.x.length →
 w361_K0 C ⟨[(5,.int .i64 i),(4,.int .i64 c),(3,.sl 0 6 0 G.length G.length false),(1,.ptr 1 0 0)],[(0,.cells 6 (G.map eTg) true true),(1,.cells 4 [eNn a] true true)],2⟩ =
  some (.ro 6 ((G++tgE (a.f.drop i) (a.b.drop i) (a.x.drop c)).map eTg) false):=by
 have hq:=ha.f
 have hq2:=ha.x
 intro n
 induction n with
 | zero =>
  intro i hi c G hG hc
  have q1:a.b.drop i=[]:=List.drop_eq_nil_of_le (by omega)
  have q2:a.f.drop i=[]:=List.drop_eq_nil_of_le (by omega)
  have h3:¬ i < a.b.length:=by omega
  have hT:List.take G.length (List.map eTg G)=List.map eTg G:=List.take_of_length_le (by simp)
  simp only [w361_K0];rw [ck_unf w361_B0.eq_1]
  simp [ck_unf w361_c0.eq_1,q1,q2,h3,hT,tgE,H.inl,inlB,H.pp,ppB]
 | succ n ih =>
  intro i hi c G hG hc
  have p1:i < a.b.length:=by omega
  have p2:i < a.f.length:=by omega
  have hfit:(G.length+1) * 73≤35184372088832:=by omega
  rw [drop_cons p1,cntB] at hc
  rw [drop_cons p1,drop_cons p2]
  simp only [w361_K0];rw [ck_unf w361_B0.eq_1]
  by_cases hb:a.b[i]=true
  · rw [if_pos hb] at hc
    have p3:c < a.x.length:=by omega
    rw [drop_cons p3,hb,tgE]
    have:=ih (i+1) (by omega) (c+1) (G++[⟨a.f[i],true,a.x[c]⟩]) (by simp [hG]) (by omega)
    simp only [w361_K0] at this
    simp at this
    simp (disch:=omega) [p1,p2,p3,hb,hfit,wI64,H.inl,inlB,H.pp,ppB,this]
  · rw [if_neg hb] at hc
    have hb':a.b[i]=false:=by simpa using hb
    rw [hb',tgE]
    have:=ih (i+1) (by omega) c (G++[⟨a.f[i],false,zE.i⟩]) (by simp [hG]) (by omega)
    simp only [w361_K0] at this
    simp [zE] at this
    simp (disch:=omega) [p1,p2,hb',hfit,zE,wI64,H.inl,inlB,H.pp,ppB,this]
theorem tags_ok (H:HasTg C) (a:Nn) (ha:NnIn a) (hl:a.b.length=a.f.length) (hc:cntB a.b=a.x.length):FnW C 361 [.agg (eNn a)]=some (.ro 6 ((tgE a.f a.b a.x).map eTg) false):=by
 have h:=tags_loop H a ha hl a.f.length 0 rfl 0 [] rfl (by simpa using hc)
 rw [List.drop_zero,List.drop_zero,List.drop_zero,List.nil_append] at h
 rw [fnW_eq H.f361 rfl]
 simp only [w361_K0] at h
 simp at h
 simp (disch:=omega) [w361,h,wI64,H.inl,inlB,H.pp,ppB]
def netW (old:Int) (T:List Tg) (fe be xe:Bool):Nn:=⟨old,T.map (·.f),fe,T.map (·.b),be,(T.filter (·.b)).map (·.i),xe⟩
theorem th_tagsW (U:List Tg):∀ (T:List Tg),FitT T→(∀ t ∈ T,-1≤t.f∧t.f < U.length) →
 cm (U.map (·.f)) (T.map (·.f))=(compT U T).map (·.f)∧thb (U.map (·.b)) (T.map (·.b)) (T.map (·.f))=(compT U T).map (·.b) ∧
 (pickI ((compT U T).map (·.b)) (the (U.map (·.b)) (U.map fun t=>if t.b=true then ⟨t.i,0,false⟩ else zE) (T.map (·.b)) (T.map (·.f)) (T.map fun t=>if t.b=true then ⟨t.i,0,false⟩ else zE))) =
  (((compT U T).filter (·.b)).map (·.i))
 | [],_,_=>⟨rfl,rfl,rfl⟩
 | t::r,hf,hr=>by
  obtain ⟨i1,i2,i3⟩:=th_tagsW U r (fun u hu=>hf u (List.mem_cons_of_mem _ hu)) (fun u hu=>hr u (List.mem_cons_of_mem _ hu))
  obtain ⟨r1,r2⟩:=hr t (List.mem_cons_self ..)
  have ft:=hf t (List.mem_cons_self ..)
  unfold compT at i1 i2 i3 ⊢
  unfold cm at i1 ⊢
  simp only [List.map_cons,thb,the,pickI,List.filter_cons]
  by_cases h0:0≤t.f
  · have hq:t.f.toNat < U.length:=by omega
    have hc:cmpT U t=⟨U[t.f.toNat].f,t.b||U[t.f.toNat].b,if t.b=true then t.i else U[t.f.toNat].i⟩:=by
     unfold cmpT;rw [if_pos h0,List.getElem?_eq_getElem hq]
    rw [hc,i1,i2]
    simp only [List.getElem?_map,List.getElem?_eq_getElem hq,Option.map_some,Option.getD_some,if_pos h0]
    refine ⟨by trivial,by trivial,?_⟩
    cases hb:t.b
    · cases hu:U[t.f.toNat].b
      · simp only [Bool.or_self,Bool.false_eq_true,if_false]
        exact i3
      · simp only [Bool.false_or,if_true,Bool.not_false,Bool.and_self,List.map_cons,Bool.false_eq_true,if_false]
        rw [i3]
    · simp only [Bool.true_or,if_true,Bool.not_true,Bool.false_and,Bool.false_eq_true,if_false,List.map_cons]
      rw [i3]
  · have hb:=ft (by omega)
    have hm:t.f=-1:=by omega
    have hc:cmpT U t=t:=by unfold cmpT;rw [if_neg h0]
    rw [hc,i1,i2,if_neg h0,hb,hm]
    refine ⟨by trivial,by trivial,?_⟩
    simp only [Bool.true_or,if_true,Bool.not_true,Bool.false_and,Bool.false_eq_true,if_false,List.map_cons,hb]
    rw [i3]
def tgN (a:Nn):List Tg:=tgE a.f a.b a.x
theorem thN_same {a b:Nn} (ha:chkN a=0) (hb:chkN b=0) (hr:∀ k ∈ b.f,-1≤k∧k < a.f.length) (fe be xe:Bool):sameN (thN a b) (netW a.o (compT (tgN a) (tgN b)) fe be xe)=true:=by
 obtain ⟨a1,a2,a3,a4⟩:=chkN_zero ha
 obtain ⟨b1,b2,b3,b4⟩:=chkN_zero hb
 have hlU:(tgN a).length=a.f.length:=tgE_len _ _ _ a2
 have hf:=tgE_fit b.f b.b b.x b3
 obtain ⟨h1,h2,h3⟩:=th_tagsW (tgN a) (tgN b) hf (fun t ht=>by
  have:t.f ∈ b.f:=by rw [← tgE_f b.f b.b b.x b2];exact List.mem_map.2 ⟨t,ht,rfl⟩
  have:=hr _ this
  omega)
 unfold tgN at h1 h2 h3 ⊢
 rw [← tgE_ent _ _ _ a2 a4,← tgE_ent _ _ _ b2 b4,tgE_b _ _ _ b2,tgE_b _ _ _ a2,tgE_f _ _ _ b2,← h2] at h3
 rw [tgE_b _ _ _ b2,tgE_b _ _ _ a2,tgE_f _ _ _ b2] at h2
 rw [tgE_f _ _ _ b2,tgE_f _ _ _ a2] at h1
 rw [tgE_b _ _ _ b2,tgE_b _ _ _ a2,tgE_f _ _ _ b2] at h3
 unfold thN netW sameN
 simp only
 rw [h1,h3,h2,sameX_own]
 simp
end Go.D
end
section
set_option linter.unusedSimpArgs false
set_option linter.unusedVariables false
namespace Go.D
open Go Go.Pav Go.Pw P
set_option maxRecDepth 10000
set_option maxHeartbeats 4000000
set_option linter.unusedSimpArgs false
set_option linter.unusedVariables false
attribute [-simp] List.getElem_cons_drop
variable {C:WProg}
structure HasRt (C:WProg):Prop extends HasTg C where
 f362:C.fns.get 362=some w362
 f186:C.fns.get 186=some w186
def itm (T:List Tg):List It:=(T.filter (·.b)).map (·.i)
theorem itm_cons (t:Tg) (r:List Tg):itm (t::r)=if t.b=true then t.i::itm r else itm r:=by
 unfold itm
 rw [List.filter_cons]
 split <;> simp
theorem rnet_sl (H:HasRt C) (o:Int) (T:List Tg) (te:Bool) (hT:T.length≤1000000):∀ n i,n+i=T.length→∀ (F:List Int) (B:List Bool) (X:List It),F.length=i→B.length=i→0 < i→X≠[]→X.length≤i →
 w362_K0 C ⟨[(6,.int .i64 i),(5,.ptr 0 0 0),(4,.ptr 4 0 0),(1,.ro 6 (T.map eTg) te)],[(0,.cells 4 [[.int .i64 o,.sl 1 1 0 F.length F.length false,.sl 2 1 0 B.length B.length false,.sl 3 4 0 X.length X.length false]] true false),(1,.cells 1 (F.map eI) true true),(2,.cells 1 (B.map eB) true true),(3,.cells 4 (X.map cIt) true true),(4,.cells 4 [[.int .i64 0,.ro 1 [] true,.ro 1 [] true,.ro 4 [] true]] true true)],5⟩ =
  some (.agg [.int .i64 o,.ro 1 ((F++(T.drop i).map (·.f)).map eI) false,.ro 1 ((B++(T.drop i).map (·.b)).map eB) false,.ro 4 ((X++itm (T.drop i)).map cIt) false]):=by
 intro n
 induction n with
 | zero =>
  intro i hi F B X hF hB h0 hX hXl
  have q1:T.drop i=[]:=List.drop_eq_nil_of_le (by omega)
  have h3:¬ i < T.length:=by omega
  simp only [w362_K0];rw [ck_unf w362_B0.eq_1]
  have t1:List.take F.length (List.map eI F)=List.map eI F:=List.take_of_length_le (by simp)
  have t2:List.take B.length (List.map eB B)=List.map eB B:=List.take_of_length_le (by simp)
  have t3:List.take X.length (List.map cIt X)=List.map cIt X:=List.take_of_length_le (by simp)
  simp [ck_unf w362_c0.eq_1,q1,h3,itm,t1,t2,t3,H.inl,inlB,H.pp,ppB]
 | succ n ih =>
  intro i hi F B X hF hB h0 hX hXl
  have p1:i < T.length:=by omega
  have f1:(F.length+1) * 9≤35184372088832:=by omega
  have f2:(B.length+1) * 2≤35184372088832:=by omega
  have f3:(X.length+1) * 57≤35184372088832:=by omega
  rw [drop_cons p1,itm_cons]
  simp only [w362_K0];rw [ck_unf w362_B0.eq_1]
  by_cases hb:T[i].b=true
  · have:=ih (i+1) (by omega) (F++[T[i].f]) (B++[true]) (X++[T[i].i]) (by simp [hF]) (by simp [hB]) (by omega) (by simp) (by simp;omega)
    simp only [w362_K0] at this
    simp at this
    simp (disch:=omega) [p1,hb,f1,f2,f3,wI64,H.inl,inlB,H.pp,ppB,this]
  · have hb':T[i].b=false:=by simpa using hb
    have:=ih (i+1) (by omega) (F++[T[i].f]) (B++[false]) X (by simp [hF]) (by simp [hB]) (by omega) hX (by omega)
    simp only [w362_K0] at this
    simp at this
    simp (disch:=omega) [p1,hb',f1,f2,f3,wI64,H.inl,inlB,H.pp,ppB,this]
theorem rnet_nil (H:HasRt C) (o:Int) (T:List Tg) (hT:T.length≤1000000):∀ n i,n+i=T.length→∀ (F:List Int) (B:List Bool),F.length=i→B.length=i→0 < i →
 ∃ fl,∀ te:Bool,w362_K0 C ⟨[(6,.int .i64 i),(5,.ptr 0 0 0),(4,.ptr 3 0 0),(1,.ro 6 (T.map eTg) te)],[(0,.cells 4 [[.int .i64 o,.sl 1 1 0 F.length F.length false,.sl 2 1 0 B.length B.length false,.ro 4 [] true]] true false),(1,.cells 1 (F.map eI) true true),(2,.cells 1 (B.map eB) true true),(3,.cells 4 [[.int .i64 0,.ro 1 [] true,.ro 1 [] true,.ro 4 [] true]] true true)],4⟩ =
  some (.agg [.int .i64 o,.ro 1 ((F++(T.drop i).map (·.f)).map eI) false,.ro 1 ((B++(T.drop i).map (·.b)).map eB) false,.ro 4 ((itm (T.drop i)).map cIt) fl]):=by
 intro n
 induction n with
 | zero =>
  intro i hi F B hF hB h0
  have q1:T.drop i=[]:=List.drop_eq_nil_of_le (by omega)
  have h3:¬ i < T.length:=by omega
  refine ⟨true,fun te=>?_⟩
  simp only [w362_K0];rw [ck_unf w362_B0.eq_1]
  have t1:List.take F.length (List.map eI F)=List.map eI F:=List.take_of_length_le (by simp)
  have t2:List.take B.length (List.map eB B)=List.map eB B:=List.take_of_length_le (by simp)
  simp [ck_unf w362_c0.eq_1,q1,h3,itm,t1,t2,H.inl,inlB,H.pp,ppB]
 | succ n ih =>
  intro i hi F B hF hB h0
  have p1:i < T.length:=by omega
  have f1:(F.length+1) * 9≤35184372088832:=by omega
  have f2:(B.length+1) * 2≤35184372088832:=by omega
  rw [drop_cons p1,itm_cons]
  by_cases hb:T[i].b=true
  · refine ⟨false,fun te=>?_⟩
    have:=rnet_sl H o T te hT n (i+1) (by omega) (F++[T[i].f]) (B++[true]) [T[i].i] (by simp [hF]) (by simp [hB]) (by omega) (by simp) (by simp)
    simp only [w362_K0] at this ⊢;rw [ck_unf w362_B0.eq_1]
    simp at this
    simp (disch:=omega) [p1,hb,f1,f2,wI64,H.inl,inlB,H.pp,ppB,this]
  · have hb':T[i].b=false:=by simpa using hb
    obtain ⟨fl,this⟩:=ih (i+1) (by omega) (F++[T[i].f]) (B++[false]) (by simp [hF]) (by simp [hB]) (by omega)
    refine ⟨fl,fun te=>?_⟩
    have:=this te
    simp only [w362_K0] at this ⊢;rw [ck_unf w362_B0.eq_1]
    simp at this
    simp (disch:=omega) [p1,hb',f1,f2,wI64,H.inl,inlB,H.pp,ppB,this]
theorem rnet_ok (H:HasRt C) (o:Int) (T:List Tg) (hT:T.length≤1000000):∃ fe be xe,∀ te:Bool,FnW C 362 [.int .i64 o,.ro 6 (T.map eTg) te]=some (.agg (eNn (netW o T fe be xe))):=by
 unfold netW
 have st:∀ (x:AV) (te:Bool),w362_K0 C ⟨[(6,.int .i64 (0:Nat)),(5,.ptr 0 0 0),(4,.ptr 1 0 0),(1,.ro 6 (T.map eTg) te)],[(0,.cells 4 [[.int .i64 o,.ro 1 [] true,.ro 1 [] true,.ro 4 [] true]] true true),(1,.cells 4 [[.int .i64 0,.ro 1 [] true,.ro 1 [] true,.ro 4 [] true]] true true)],2⟩=some x →
  FnW C 362 [.int .i64 o,.ro 6 (T.map eTg) te]=some x:=by
  intro x te h
  rw [fnW_eq H.f362 rfl]
  simp only [w362_K0] at h
  simp at h
  simp (disch:=omega) [w362,h,wI64,H.inl,inlB,H.pp,ppB]
 cases T with
 | nil =>
  refine ⟨true,true,true,fun te=>st _ te ?_⟩
  simp only [w362_K0];rw [ck_unf w362_B0.eq_1]
  simp (disch:=omega) [ck_unf w362_c0.eq_1,wI64,H.inl,inlB,H.pp,ppB]
 | cons t r =>
  have ht:(t::r).drop 1=r:=rfl
  have hlt:0 < (t::r).length:=by simp
  by_cases hb:t.b=true
  · refine ⟨false,false,false,fun te=>st _ te ?_⟩
    have h:=rnet_sl H o (t::r) te hT r.length 1 (by simp) [t.f] [true] [t.i] rfl rfl (by omega) (by simp) (by simp)
    rw [ht] at h
    have q:=itm_cons t r
    unfold itm at q h
    rw [q,if_pos hb]
    simp only [w362_K0] at h ⊢;rw [ck_unf w362_B0.eq_1]
    simp [hb] at h
    simp (disch:=omega) [hb,h,wI64,H.inl,inlB,H.pp,ppB]
  · have hb':t.b=false:=by simpa using hb
    obtain ⟨fl,h⟩:=rnet_nil H o (t::r) hT r.length 1 (by simp) [t.f] [false] rfl rfl (by omega)
    refine ⟨false,false,fl,fun te=>st _ te ?_⟩
    have h:=h te
    rw [ht] at h
    have q:=itm_cons t r
    unfold itm at q h
    rw [q,if_neg hb]
    simp only [w362_K0] at h ⊢;rw [ck_unf w362_B0.eq_1]
    simp [hb'] at h
    simp (disch:=omega) [hb',h,wI64,H.inl,inlB,H.pp,ppB]
theorem rthen_loop (H:HasRt C) (a:Nn) (U T:List Tg) (ue te:Bool) (hU:U.length≤1000000) (hT:T.length≤1000000) (hr:∀ t ∈ T,t.f < U.length) (W:Nn) (hx:∀ fl,FnW C 362 [.int .i64 a.o,.ro 6 ((compT U T).map eTg) fl]=some (.agg (eNn W))):∀ n i,n+i=T.length→∀ (G:List Tg),G.length=i→compT U T=G++compT U (T.drop i) →
 w186_K0 C ⟨[(8,.int .i64 i),(7,.sl 0 6 0 G.length G.length false),(6,.ro 6 (T.map eTg) te),(5,.ro 6 (U.map eTg) ue),(4,.ptr 1 0 0),(2,.ptr 2 0 0)],[(0,.cells 6 (G.map eTg) true true),(1,.cells 4 [[.int .i64 0,.ro 1 [] true,.ro 1 [] true,.ro 4 [] true]] true true),(2,.cells 4 [eNn a] true true)],3⟩=some (.agg (eNn W)):=by
 intro n
 induction n with
 | zero =>
  intro i hi G hG hc
  have q1:T.drop i=[]:=List.drop_eq_nil_of_le (by omega)
  have h3:¬ i < T.length:=by omega
  have hT:List.take G.length (List.map eTg G)=List.map eTg G:=List.take_of_length_le (by simp)
  have hG2:compT U T=G:=by rw [hc,q1];simp [compT]
  rw [hG2] at hx
  simp only [eNn,eNet] at hx
  simp only [w186_K0];rw [ck_unf w186_B0.eq_1]
  simp (disch:=omega) [ck_unf w186_c0.eq_1,h3,hT,hx,wI64,H.inl,inlB,H.pp,ppB]
 | succ n ih =>
  intro i hi G hG hc
  have p1:i < T.length:=by omega
  have hfit:(G.length+1) * 73≤35184372088832:=by omega
  have hrt:=hr _ (List.getElem_mem p1)
  have:=ih (i+1) (by omega) (G++[cmpT U T[i]]) (by simp [hG]) (by rw [hc,drop_cons p1];simp [compT])
  simp only [w186_K0] at this ⊢;rw [ck_unf w186_B0.eq_1]
  by_cases h0:T[i].f < 0
  · have hcm:cmpT U T[i]=T[i]:=by unfold cmpT;rw [if_neg (by omega)]
    have h0':¬ (0≤T[i].f):=by omega
    rw [hcm] at this
    simp at this
    simp (disch:=omega) [p1,h0',hfit,wI64,H.inl,inlB,H.pp,ppB,this]
  · obtain ⟨q,hq⟩:∃ q:Nat,T[i].f=q:=⟨T[i].f.toNat,by omega⟩
    have hq1:q < U.length:=by omega
    have hcm:cmpT U T[i]=⟨U[q].f,T[i].b||U[q].b,if T[i].b=true then T[i].i else U[q].i⟩:=by
     unfold cmpT;rw [if_pos (by omega),hq,Int.toNat_natCast,List.getElem?_eq_getElem hq1]
    rw [hcm] at this
    by_cases hb:T[i].b=true
    · rw [hb] at this
      simp at this
      simp (disch:=omega) [p1,hq,hq1,hb,hfit,wI64,H.inl,inlB,H.pp,ppB,this]
    · have hb':T[i].b=false:=by simpa using hb
      rw [hb'] at this
      simp at this
      simp (disch:=omega) [p1,hq,hq1,hb',hfit,wI64,H.inl,inlB,H.pp,ppB,this]
theorem rthen_ok (H:HasRt C) (a b:Nn) (ha:NnIn a) (hb:NnIn b) (ca:chkN a=0) (cb:chkN b=0) (hr:∀ k ∈ b.f,-1≤k∧k < a.f.length) :
 ∃ fe be xe,FnW C 186 [.agg (eNn a),.agg (eNn b)]=some (.agg (eNn (netW a.o (compT (tgN a) (tgN b)) fe be xe))):=by
 obtain ⟨a1,a2,a3,a4⟩:=chkN_zero ca
 obtain ⟨b1,b2,b3,b4⟩:=chkN_zero cb
 have hlU:(tgN a).length=a.f.length:=tgE_len _ _ _ a2
 have hlT:(tgN b).length=b.f.length:=tgE_len _ _ _ b2
 have k1:=tags_ok H.toHasTg a ha a2 a4
 have k2:=tags_ok H.toHasTg b hb b2 b4
 have hbf:=hb.f
 have haf:=ha.f
 obtain ⟨fe,be,xe,hn⟩:=rnet_ok H a.o (compT (tgN a) (tgN b)) (by unfold compT;rw [List.length_map];omega)
 have h:=rthen_loop H a (tgN a) (tgN b) false false (by omega) (by omega) (fun t ht=>by
  have:t.f ∈ b.f:=by rw [← tgE_f b.f b.b b.x b2];exact List.mem_map.2 ⟨t,ht,rfl⟩
  have:=hr _ this
  omega) _ hn (tgN b).length 0 rfl [] rfl (by simp)
 refine ⟨fe,be,xe,?_⟩
 rw [fnW_eq H.f186 rfl]
 unfold tgN at h ⊢
 simp only [eNn,eNet] at k1 k2
 simp only [w186_K0] at h
 simp at h
 simp (disch:=omega) [w186,k1,k2,h,wI64,H.inl,inlB,H.pp,ppB]
end Go.D
end
section
set_option linter.unusedSimpArgs false
set_option linter.unusedVariables false
namespace Go.D
open Go Go.Pav Go.Pw P
set_option maxRecDepth 10000
set_option maxHeartbeats 4000000
set_option linter.unusedSimpArgs false
set_option linter.unusedVariables false
attribute [-simp] List.getElem_cons_drop
variable {C:WProg}
theorem chk_own (ks:List Kd) (cap:Int):∀ (l:List En) (seen:List Int),chk ks cap seen (l.map En.own)=chk ks cap seen l
 | [],_=>rfl
 | e::r,seen=>by
  have h:e.own.i.k=e.i.k:=rfl
  rw [List.map_cons,chk,chk,enE_own,h,chk_own ks cap r]
theorem ckE_own (ks:List Kd) (cap:Int) (l:List En):ckE ks cap (l.map En.own)=ckE ks cap l:=by
 unfold ckE
 rw [List.length_map,chk_own,ovE_own2]
theorem enE_nn (ks:List Kd) (cap:Int) (e:En) (b:Bool):0≤enE ks cap e b:=by
 unfold enE itE
 repeat' split
 all_goals omega
theorem chk_nn (ks:List Kd) (cap:Int):∀ (l:List En) (seen:List Int),0≤chk ks cap seen l
 | [],_=>by simp [chk]
 | e::r,seen=>by
  rw [chk]
  split
  · exact enE_nn ..
  · exact chk_nn ks cap r _
theorem ckE_pos {ks:List Kd} {cap:Int} {l:List En} (h:ckE ks cap l≠0):0 < ckE ks cap l:=by
 have h1:=chk_nn ks cap l []
 have:0≤ckE ks cap l:=by
  unfold ckE ovE
  repeat' split
  all_goals omega
 omega
def tgEn (ks:List Kd) (l:List En) (t:Tg):En:=if t.b=true then fre ks t.i else l[t.f.toNat]?.getD zE
def badT (l:List En) (t:Tg):Bool:=t.b&&(decide (0≤t.f)&&decide ((l[t.f.toNat]?.getD zE).i.k≠t.i.k))
def bapR (ks:List Kd) (cap:Int) (l:List En) (G:List En) (T:List Tg):AV :=
 if T.any (badT l)=true then .tup [.ro 6 [] true,.int .i64 9] else if ckE ks cap (G++T.map (tgEn ks l))≠0 then .tup [.ro 6 [] true,.int .i64 (ckE ks cap (G++T.map (tgEn ks l)))] else .tup [.ro 6 ((G++T.map (tgEn ks l)).map eEn) false,.int .i64 0]
theorem bapR_bad {ks:List Kd} {cap:Int} {l G:List En} {t:Tg} {r:List Tg} (h:badT l t=true):bapR ks cap l G (t::r)=.tup [.ro 6 [] true,.int .i64 9]:=by
 unfold bapR
 rw [List.any_cons,h,Bool.true_or,if_pos rfl]
theorem bapR_ok {ks:List Kd} {cap:Int} {l G:List En} {t:Tg} {r:List Tg} (h:badT l t=false):bapR ks cap l G (t::r)=bapR ks cap l (G++[tgEn ks l t]) r:=by
 unfold bapR
 rw [List.any_cons,h,Bool.false_or,List.map_cons,List.append_assoc]
 rfl
structure HasRa (C:WProg):Prop extends HasRt C,HasK C where
 f185:C.fns.get 185=some w185
theorem rap_loop (H:HasRa C) (ks:List Kd) (ke:Bool) (cap:Int) (hr:RuIn ks) (hkb:∀ x:Int,-9223372036854775808≤(kdAt ks x).b∧(kdAt ks x).b≤9223372036854775807) (l:List En) (e:Bool) (hl:l.length≤1000000) (hs:∀ x ∈ l,EnIn x)
 (T:List Tg) (te:Bool) (hT:T.length≤1000000) (hTi:∀ t ∈ T,ItIn t.i) (hTf:∀ t ∈ T,t.f < l.length) (hfit:FitT T):∀ n i,n+i=T.length→∀ G:List En,G.length=i→(∀ x ∈ G,EnIn x) →
 w185_K0 C ⟨[(10,.int .i64 i),(9,.sl 0 6 0 G.length G.length false),(8,.ro 6 (T.map eTg) te),(3,.ptr 1 0 0),(1,.ro 6 (l.map eEn) e)],[(0,.cells 6 (G.map eEn) true true),(1,.cells 2 [[.ro 9 (ks.map eKd) ke,.int .i64 cap]] true true)],2⟩ =
  some (bapR ks cap l G (T.drop i)):=by
 intro n
 induction n with
 | zero =>
  intro i hi G hG hGe
  have q1:T.drop i=[]:=List.drop_eq_nil_of_le (by omega)
  have h3:¬ i < T.length:=by omega
  have hTk:List.take G.length (List.map eEn G)=List.map eEn G:=List.take_of_length_le (by simp)
  have hck:=fun f=>rlcheck_ok H.toHasK ks ke cap hr G f (by omega) hGe
  rw [q1]
  unfold bapR
  simp only [List.any_nil,Bool.false_eq_true,if_false,List.map_nil,List.append_nil]
  simp only [w185_K0];rw [ck_unf w185_B0.eq_1]
  simp only [aR] at hck
  by_cases c:ckE ks cap G=0
  · rw [c] at hck ⊢
    simp (disch:=omega) [ck_unf w185_c0.eq_1,h3,hTk,hck,wI64,H.inl,inlB,H.pp,ppB]
  · have hp:=ckE_pos c
    generalize ckE ks cap G=E at *
    simp (disch:=omega) [ck_unf w185_c0.eq_1,h3,hTk,hck,c,hp,wI64,H.inl,inlB,H.pp,ppB]
 | succ n ih =>
  intro i hi G hG hGe
  have p1:i < T.length:=by omega
  have hfit2:(G.length+1) * 73≤35184372088832:=by omega
  have hmem:=List.getElem_mem p1
  have hti:=hTi _ hmem
  have htf:=hTf _ hmem
  have hft:=hfit _ hmem
  rw [drop_cons p1]
  have hst:∀ x:En,tgEn ks l T[i]=x→badT l T[i]=false→EnIn x→w185_K0 C ⟨[(10,.int .i64 (i+1:Nat)),(9,.sl 0 6 0 (G.length+1) (G.length+1) false),(8,.ro 6 (T.map eTg) te),(3,.ptr 1 0 0),(1,.ro 6 (l.map eEn) e)],[(0,.cells 6 ((G++[x]).map eEn) true true),(1,.cells 2 [[.ro 9 (ks.map eKd) ke,.int .i64 cap]] true true)],2⟩ =
   some (bapR ks cap l G (T[i]::T.drop (i+1))):=by
   intro x he hbad hein
   have:=ih (i+1) (by omega) (G++[x]) (by simp [hG]) (by
    intro y hy
    rcases List.mem_append.1 hy with hy | hy
    · exact hGe y hy
    · simp only [List.mem_singleton] at hy;subst hy;exact hein)
   rw [bapR_ok hbad,he,← this]
   simp
  simp only [w185_K0] at hst ⊢;rw [ck_unf w185_B0.eq_1]
  by_cases hb:T[i].b=true
  · have ht0:=hti.t
    have hfin:EnIn (fre ks T[i].i):=⟨hti,hkb _⟩
    have htg:tgEn ks l T[i]=fre ks T[i].i:=by unfold tgEn;rw [if_pos hb]
    have hst:=hst _ htg
    have fin:badT l T[i]=false→True:=fun _=>trivial
    have hfr:=fun h:T[i].i.t < ks.length=>rfresh_ok H.toHasK ks ke cap T[i].i hti h
    simp only [aR,eIt,aE,eEn,fre] at hfr
    have hz:¬ T[i].i.t < ks.length→(kdAt ks T[i].i.t).b=0:=by
     intro h
     unfold kdAt
     rw [List.getElem?_eq_none (by omega)]
     rfl
    by_cases cf:T[i].f < 0
    · have cf':¬ (0≤T[i].f):=by omega
      have hbad:badT l T[i]=false:=by unfold badT;rw [decide_eq_false cf'];simp
      have:=hst hbad hfin
      by_cases ct:T[i].i.t < ks.length
      · have hfr:=hfr ct
        simp [fre] at this
        simp (disch:=omega) [p1,hb,cf',ct,hfr,hfit2,wI64,H.inl,inlB,H.pp,ppB,this]
      · have hz:=hz ct
        simp [fre,hz] at this
        simp (disch:=omega) [p1,hb,cf',ct,hfit2,wI64,H.inl,inlB,H.pp,ppB,this]
    · obtain ⟨q,hq⟩:∃ q:Nat,T[i].f=q:=⟨T[i].f.toNat,by omega⟩
      have hq1:q < l.length:=by omega
      by_cases ck:l[q].i.k=T[i].i.k
      · have hbad:badT l T[i]=false:=by
         unfold badT;rw [hq,Int.toNat_natCast,List.getElem?_eq_getElem hq1];simp [ck]
        have:=hst hbad hfin
        by_cases ct:T[i].i.t < ks.length
        · have hfr:=hfr ct
          simp [fre] at this
          simp (disch:=omega) [p1,hb,hq,hq1,ck,ct,hfr,hfit2,wI64,H.inl,inlB,H.pp,ppB,this]
        · have hz:=hz ct
          simp [fre,hz] at this
          simp (disch:=omega) [p1,hb,hq,hq1,ck,ct,hfit2,wI64,H.inl,inlB,H.pp,ppB,this]
      · have hbad:badT l T[i]=true:=by
         unfold badT;rw [hq,Int.toNat_natCast,List.getElem?_eq_getElem hq1];simp [ck,hb]
        rw [bapR_bad hbad]
        simp (disch:=omega) [p1,hb,hq,hq1,ck,hfit2,wI64,H.inl,inlB,H.pp,ppB]
  · have hb':T[i].b=false:=by simpa using hb
    have h0:0≤T[i].f:=by
     by_cases h:T[i].f < 0
     · exact absurd (hft h) hb
     · omega
    obtain ⟨q,hq⟩:∃ q:Nat,T[i].f=q:=⟨T[i].f.toNat,by omega⟩
    have hq1:q < l.length:=by omega
    have htg:tgEn ks l T[i]=l[q]:=by
     unfold tgEn;rw [if_neg hb,hq,Int.toNat_natCast,List.getElem?_eq_getElem hq1];rfl
    have:=hst _ htg (by unfold badT;rw [hb'];rfl) (hs _ (List.getElem_mem hq1))
    simp at this
    simp (disch:=omega) [p1,hb',hq,hq1,hfit2,wI64,H.inl,inlB,H.pp,ppB,this]
def bapV (ks:List Kd) (cap:Int) (l:List En) (a:Nn):AV:=if a.o≠l.length then .tup [.ro 6 [] true,.int .i64 1] else bapR ks cap l [] (tgN a)
theorem zE_in:ItIn zE.i:=⟨by decide,by decide,by simp [zE]⟩
theorem tg_in {a:Nn} (ha:∀ y ∈ a.x,ItIn y):∀ t ∈ tgN a,ItIn t.i:=by
 intro t ht
 rcases tgE_m _ _ _ t ht with h | h
 · rw [h];exact zE_in
 · exact ha _ h
theorem rap_ok (H:HasRa C) (ks:List Kd) (ke:Bool) (cap:Int) (hr:RuIn ks) (hkb:∀ x:Int,-9223372036854775808≤(kdAt ks x).b∧(kdAt ks x).b≤9223372036854775807) (l:List En) (e:Bool) (hl:l.length≤1000000) (hs:∀ x ∈ l,EnIn x)
 (a:Nn) (ha:NnIn a) (hai:∀ y ∈ a.x,ItIn y) (hc:chkN a=0) :
 FnW C 185 [aR ks ke cap,.ro 6 (l.map eEn) e,.agg (eNn a)]=some (bapV ks cap l a):=by
 obtain ⟨a1,a2,a3,a4⟩:=chkN_zero hc
 have k1:=tags_ok H.toHasTg a ha a2 a4
 have haf:=ha.f
 have hlT:(tgN a).length=a.f.length:=tgE_len _ _ _ a2
 rw [fnW_eq H.f185 rfl]
 unfold bapV
 by_cases c:a.o=l.length
 · rw [if_neg (by simp [c])]
   have h:=rap_loop H ks ke cap hr hkb l e hl hs (tgN a) false (by omega) (tg_in hai) (fun t ht=>by
    have:t.f ∈ a.f:=by rw [← tgE_f a.f a.b a.x a2];exact List.mem_map.2 ⟨t,ht,rfl⟩
    have:=(Rm.chk_zero a1).rng _ this
    omega) (tgE_fit a.f a.b a.x a3) (tgN a).length 0 rfl [] rfl (by simp)
   rw [List.drop_zero] at h
   unfold tgN at h ⊢
   have hv:∃ R f E,bapR ks cap l [] (tgE a.f a.b a.x)=.tup [.ro 6 R f,.int .i64 E]:=by
    unfold bapR
    split
    · exact ⟨_,_,_,rfl⟩
    · split
      · exact ⟨_,_,_,rfl⟩
      · exact ⟨_,_,_,rfl⟩
   obtain ⟨R,f,E,hv⟩:=hv
   rw [hv] at h ⊢
   simp only [eNn,eNet] at k1
   simp only [w185_K0] at h
   simp at h
   simp (disch:=omega) [w185,eq_true c,k1,h,wI64,H.inl,inlB,H.pp,ppB]
 · rw [if_pos c]
   simp (disch:=omega) [w185,c,wI64,H.inl,inlB,H.pp,ppB]
end Go.D
end
section
set_option linter.unusedSimpArgs false
set_option linter.unusedVariables false
namespace Go.D
open Go Go.Pav Go.Pw P
set_option maxRecDepth 10000
set_option maxHeartbeats 4000000
set_option linter.unusedSimpArgs false
set_option linter.unusedVariables false
attribute [-simp] List.getElem_cons_drop
variable {C:WProg}
structure HasPa (C:WProg):Prop extends HasAp0 C,HasNe C where
 f358:C.fns.get 358=some w358
theorem exactE_ok (H:HasPa C) (m:List En) (e:Bool) (hl:m.length≤1000000):FnW C 358 [.ro 6 (m.map eEn) e]=some (.ro 6 (m.map eEn) true):=by
 rw [fnW_eq H.f358 rfl]
 by_cases h:m=[]
 · subst h;simp [w358]
 · have h2:m.length * 73≤35184372088832:=by omega
   have hT:List.take m.length (List.map eEn m)=List.map eEn m:=List.take_of_length_le (by simp)
   simp (disch:=omega) [w358,h,h2,isE,hT]
def papR (ks:List Kd) (cap:Int) (l:List En) (G:List En) (T:List Tg):AV :=
 if T.any (badT l)=true then errL 9 else if ckE ks cap (G++T.map (tgEn ks l))≠0 then errL (ckE ks cap (G++T.map (tgEn ks l))) else .tup [aL ((G++T.map (tgEn ks l)).map En.own) true,.int .i64 0]
theorem papR_bad {ks:List Kd} {cap:Int} {l G:List En} {t:Tg} {r:List Tg} (h:badT l t=true):papR ks cap l G (t::r)=errL 9:=by
 unfold papR
 rw [List.any_cons,h,Bool.true_or,if_pos rfl]
theorem papR_ok {ks:List Kd} {cap:Int} {l G:List En} {t:Tg} {r:List Tg} (h:badT l t=false):papR ks cap l G (t::r)=papR ks cap l (G++[tgEn ks l t]) r:=by
 unfold papR
 rw [List.any_cons,h,Bool.false_or,List.map_cons,List.append_assoc]
 rfl
theorem pap_loop (H:HasPa C) (ks:List Kd) (ke:Bool) (cap:Int) (hr:RuIn ks) (hkb:∀ x:Int,-9223372036854775808≤(kdAt ks x).b∧(kdAt ks x).b≤9223372036854775807) (l:List En) (e:Bool) (hl:l.length≤1000000) (hs:∀ x ∈ l,EnIn x)
 (a:Nn) (ha:NnIn a) (hai:∀ y ∈ a.x,ItIn y) (hab:a.b.length=a.f.length) (hfit:fitB a.b a.f=true) (hrg:∀ k ∈ a.f,k < l.length):∀ n i,n+i=a.f.length→∀ (c:Nat) (xf:Bool) (G:List En),G.length=i→(∀ x ∈ G,EnIn x)→c+cntB (a.b.drop i)=a.x.length →
 w183_K0 C ⟨[(49,.int .i64 i),(48,.int .i64 a.f.length),(47,.ro 1 (a.f.map eI) a.fe),(11,.ro 4 (((a.x.drop c).map It.own).map cIt) xf),(10,.ptr 0 0 0),(6,.ptr 2 0 0),(5,.ptr 3 0 0),(4,.ptr 4 0 0),(3,.ptr 5 0 0)],
  [(0,.cells 1 [[.sl 1 6 0 a.f.length a.f.length true]] true false),(1,.cells 6 ((G.map En.own).map eEn++List.replicate n [.int .u64 0,.int .u8 0,.str [],.ro 1 [] true,.int .i64 0,.bool false]) true true),(2,.cells 1 [[.ro 6 [] true]] true true),(3,.cells 4 [eNn a] true true),(4,.cells 1 [[.ro 6 (l.map eEn) e]] true true),(5,.cells 2 [[.ro 9 (ks.map eKd) ke,.int .i64 cap]] true true)],6⟩ =
  some (papR ks cap l G (tgE (a.f.drop i) (a.b.drop i) (a.x.drop c))):=by
 have hq:=ha.f
 have hq2:=ha.x
 intro n
 induction n with
 | zero =>
  intro i hi c xf G hG hGe hc
  have q1:a.b.drop i=[]:=List.drop_eq_nil_of_le (by omega)
  have q2:a.f.drop i=[]:=List.drop_eq_nil_of_le (by omega)
  have h3:¬ i < a.f.length:=by omega
  have hGl:G.length=a.f.length:=by omega
  have hTk:List.take a.f.length (List.map eEn (List.map En.own G))=List.map eEn (List.map En.own G):=List.take_of_length_le (by simp;omega)
  have hGo:∀ x ∈ G.map En.own,EnIn x:=fun e he=>by
   obtain ⟨e',he',rfl⟩:=List.mem_map.1 he
   exact (hGe e' he').ow
  have hck:=fun f=>lcheck_ok H.toHasK ks ke cap hr (G.map En.own) f (by rw [List.length_map];omega) hGo
  have hex:=fun f=>exactE_ok H (G.map En.own) f (by rw [List.length_map];omega)
  simp only [ckE_own] at hck
  have hqq:tgE [] [] (a.x.drop c)=[]:=by simp [tgE]
  rw [q1,q2,hqq]
  unfold papR errL
  simp only [List.any_nil,Bool.false_eq_true,if_false,List.map_nil,List.append_nil]
  simp only [w183_K0];rw [ck_unf w183_B0.eq_1]
  simp only [aR,aL] at hck
  simp at hTk hck hex
  by_cases c:ckE ks cap G=0
  · rw [c] at hck ⊢
    simp (disch:=omega) [ck_unf w183_c0.eq_1,h3,hTk,hGl,hck,hex,wI64,H.inl,inlB,H.pp,ppB]
  · generalize ckE ks cap G=E at *
    simp (disch:=omega) [ck_unf w183_c0.eq_1,h3,hTk,hGl,hck,hex,c,wI64,H.inl,inlB,H.pp,ppB]
 | succ n ih =>
  intro i hi c xf G hG hGe hc
  have p1:i < a.b.length:=by omega
  have p2:i < a.f.length:=by omega
  rw [drop_cons p1,cntB] at hc
  rw [drop_cons p1,drop_cons p2]
  simp only [w183_K0];rw [ck_unf w183_B0.eq_1]
  have hm2:=List.getElem_mem p2
  have hgl:(List.map (eEn ∘ En.own) G).length=i:=by simpa using hG
  have hkl:=hrg _ hm2
  by_cases hb:a.b[i]=true
  · rw [if_pos hb] at hc
    have p3:c < a.x.length:=by omega
    have hxin:=hai _ (List.getElem_mem p3)
    have ht0:=hxin.t
    have hdx:a.x.drop c=a.x[c]::a.x.drop (c+1):=drop_cons p3
    have hfin:EnIn (fre ks a.x[c]):=⟨hxin,hkb _⟩
    have htg:tgEn ks l ⟨a.f[i],true,a.x[c]⟩=fre ks a.x[c]:=by unfold tgEn;rw [if_pos rfl]
    rw [hdx,hb,tgE]
    have hst:badT l ⟨a.f[i],true,a.x[c]⟩=false→∀ xf,w183_K0 C ⟨[(49,.int .i64 (i+1:Nat)),(48,.int .i64 a.f.length),(47,.ro 1 (a.f.map eI) a.fe),(11,.ro 4 (((a.x.drop (c+1)).map It.own).map cIt) xf),(10,.ptr 0 0 0),(6,.ptr 2 0 0),(5,.ptr 3 0 0),(4,.ptr 4 0 0),(3,.ptr 5 0 0)],
     [(0,.cells 1 [[.sl 1 6 0 a.f.length a.f.length true]] true false),(1,.cells 6 ((G.map En.own).map eEn++[.int .u64 a.x[c].k,.int .u8 a.x[c].t,.str a.x[c].x,.ro 1 (a.x[c].m.map eS) true,.int .i64 (kdAt ks a.x[c].t).b,.bool false]::List.replicate n [.int .u64 0,.int .u8 0,.str [],.ro 1 [] true,.int .i64 0,.bool false]) true true),(2,.cells 1 [[.ro 6 [] true]] true true),(3,.cells 4 [eNn a] true true),(4,.cells 1 [[.ro 6 (l.map eEn) e]] true true),(5,.cells 2 [[.ro 9 (ks.map eKd) ke,.int .i64 cap]] true true)],6⟩ =
     some (papR ks cap l G (⟨a.f[i],true,a.x[c]⟩::tgE (a.f.drop (i+1)) (a.b.drop (i+1)) (a.x.drop (c+1)))):=by
     intro hbad xf
     have:=ih (i+1) (by omega) (c+1) xf (G++[fre ks a.x[c]]) (by simp [hG]) (by
      intro y hy
      rcases List.mem_append.1 hy with hy | hy
      · exact hGe y hy
      · simp only [List.mem_singleton] at hy;subst hy;exact hfin) (by omega)
     rw [papR_ok hbad,htg,← this]
     simp [fre,En.own,It.own]
    simp only [w183_K0] at hst
    obtain ⟨tt,hT⟩:∃ t:Nat,a.x[c].t=t:=⟨a.x[c].t.toNat,by omega⟩
    have hz:¬ tt < ks.length→(kdAt ks (tt:Int)).b=0:=by
     intro h
     unfold kdAt
     rw [Int.toNat_natCast,List.getElem?_eq_none (by omega)]
     rfl
    have hkA:∀ h:tt < ks.length,(kdAt ks (tt:Int)).b=ks[tt].b:=fun h=>by rw [kdAt_get h]
    have hTx:List.take (a.x.length - (c+1)) (List.drop (c+1) (List.map (cIt ∘ It.own) a.x))=List.drop (c+1) (List.map (cIt ∘ It.own) a.x):=List.take_of_length_le (by simp)
    have cst:∀ (x y:Option AV) (Q:AV),x=y→y=some Q→x=some Q:=fun _ _ _ h1 h2=>h1.trans h2
    by_cases cf:a.f[i] < 0
    · have cf':¬ (0≤a.f[i]):=by omega
      have hbad:badT l ⟨a.f[i],true,a.x[c]⟩=false:=by unfold badT;rw [decide_eq_false cf'];simp
      have hst:=hst hbad
      by_cases ct:tt < ks.length
      · have hk:=hkA ct
        refine cst _ _ _ ?_ (hst xf)
        simp (disch:=omega) [p1,p2,p3,hb,cf',ct,hT,hk,hTx,hgl,mid_get hgl,mid_set hgl,List.replicate_succ,wI64,H.inl,inlB,H.pp,ppB,It.own]
      · have hz:=hz ct
        refine cst _ _ _ ?_ (hst xf)
        simp (disch:=omega) [p1,p2,p3,hb,cf',ct,hT,hz,hTx,hgl,mid_get hgl,mid_set hgl,List.replicate_succ,wI64,H.inl,inlB,H.pp,ppB,It.own]
    · obtain ⟨q,hq⟩:∃ q:Nat,a.f[i]=q:=⟨a.f[i].toNat,by omega⟩
      have hq1:q < l.length:=by omega
      by_cases ck:l[q].i.k=a.x[c].k
      · have hbad:badT l ⟨a.f[i],true,a.x[c]⟩=false:=by
         unfold badT;simp only;rw [hq,Int.toNat_natCast,List.getElem?_eq_getElem hq1];simp [ck]
        have hst:=hst hbad
        by_cases ct:tt < ks.length
        · have hk:=hkA ct
          refine cst _ _ _ ?_ (hst xf)
          simp (disch:=omega) [p1,p2,p3,hb,hq,hq1,ck,ct,hT,hk,hTx,hgl,mid_get hgl,mid_set hgl,List.replicate_succ,wI64,H.inl,inlB,H.pp,ppB,It.own]
        · have hz:=hz ct
          refine cst _ _ _ ?_ (hst xf)
          simp (disch:=omega) [p1,p2,p3,hb,hq,hq1,ck,ct,hT,hz,hTx,hgl,mid_get hgl,mid_set hgl,List.replicate_succ,wI64,H.inl,inlB,H.pp,ppB,It.own]
      · have hbad:badT l ⟨a.f[i],true,a.x[c]⟩=true:=by
         unfold badT;simp only;rw [hq,Int.toNat_natCast,List.getElem?_eq_getElem hq1];simp [ck]
        rw [papR_bad hbad]
        unfold errL
        simp (disch:=omega) [p1,p2,p3,hb,hq,hq1,ck,hT,hTx,hgl,wI64,H.inl,inlB,H.pp,ppB,It.own]
  · have hb':a.b[i]=false:=by simpa using hb
    rw [if_neg hb] at hc
    have h0:0≤a.f[i]:=fitB_get a.b a.f i hfit (by rw [List.getElem?_eq_getElem p1,hb']) _ (List.getElem?_eq_getElem p2)
    obtain ⟨q,hq⟩:∃ q:Nat,a.f[i]=q:=⟨a.f[i].toNat,by omega⟩
    have hq1:q < l.length:=by omega
    have htg:tgEn ks l ⟨a.f[i],false,zE.i⟩=l[q]:=by
     unfold tgEn;rw [if_neg (by simp)];simp only;rw [hq,Int.toNat_natCast,List.getElem?_eq_getElem hq1];rfl
    rw [hb',tgE,papR_ok (by unfold badT;rfl),htg]
    have hin:=hs _ (List.getElem_mem hq1)
    have:=ih (i+1) (by omega) c xf (G++[l[q]]) (by simp [hG]) (by
     intro y hy
     rcases List.mem_append.1 hy with hy | hy
     · exact hGe y hy
     · simp only [List.mem_singleton] at hy;subst hy;exact hin) (by omega)
    have hcp:=(fun f=>copy_ok H.toHasNe.toHasL [l[q].i] f (by simp) (by simp;exact hin.i.m))
    simp only [w183_K0] at this
    simp [En.own,It.own] at this hcp
    simp (disch:=omega) [p1,p2,hb',hq,hq1,hcp,hgl,hG,List.replicate_succ,mid_get hgl,mid_set hgl,wI64,H.inl,inlB,H.pp,ppB,this]
def papV (ks:List Kd) (cap:Int) (l:List En) (a:Nn):AV :=
 if ckE ks cap l≠0 then errL (ckE ks cap l) else if chkN a≠0 then errL (chkN a) else if a.o≠l.length then errL 1 else papR ks cap l [] (tgN a)
theorem pap_ok (H:HasPa C) (ks:List Kd) (ke:Bool) (cap:Int) (hr:RuIn ks) (hkb:∀ x:Int,-9223372036854775808≤(kdAt ks x).b∧(kdAt ks x).b≤9223372036854775807) (l:List En) (e:Bool) (hl:l.length≤1000000) (hs:∀ x ∈ l,EnIn x)
 (a:Nn) (ha:NnIn a) (hai:∀ y ∈ a.x,ItIn y) :
 FnW C 183 [aR ks ke cap,aL l e,.agg (eNn a)]=some (papV ks cap l a):=by
 unfold papV
 by_cases c1:ckE ks cap l=0
 · by_cases c2:chkN a=0
   · by_cases c3:a.o=l.length
     · rw [if_neg (by simp [c1]),if_neg (by simp [c2]),if_neg (by simp [c3])]
       obtain ⟨a1,a2,a3,a4⟩:=chkN_zero c2
       have k1:=lcheck_ok H.toHasAp0.toHasK ks ke cap hr l e hl hs
       have k2:=bcheck_ok H.toHasAp0.toHasCn a ha
       have k3:=copy_ok H.toHasNe.toHasL a.x a.xe ha.x ha.m
       have haf:=ha.f
       have h:=pap_loop H ks ke cap hr hkb l e hl hs a ha hai a2 a3 (fun k hk=>by have:=(Rm.chk_zero a1).rng k hk;omega) a.f.length 0 rfl 0 true [] rfl (by simp) (by simpa using a4)
       rw [List.drop_zero,List.drop_zero,List.drop_zero] at h
       rw [c1] at k1
       rw [c2] at k2
       rw [fnW_eq H.toHasAp0.f183 rfl]
       unfold tgN
       have hv:∃ R f E,papR ks cap l [] (tgE a.f a.b a.x)=.tup [.agg [.ro 6 R f],.int .i64 E]:=by
        unfold papR errL
        split
        · exact ⟨_,_,_,rfl⟩
        · split
          · exact ⟨_,_,_,rfl⟩
          · exact ⟨_,_,_,rfl⟩
       obtain ⟨R,f,E,hv⟩:=hv
       rw [hv] at h ⊢
       have hmk:a.f.length * 73≤35184372088832:=by omega
       simp only [eNn,eNet] at k2
       simp only [w183_K0] at h
       simp at h k3
       simp (disch:=omega) [w183,eq_true c3,a2,k1,k2,k3,hmk,h,wI64,H.inl,inlB,H.pp,ppB]
     · rw [if_neg (by simp [c1]),if_neg (by simp [c2]),if_pos c3]
       exact bapply_len H.toHasAp0 ks ke cap hr l e hl hs a ha c1 c2 c3
   · rw [if_neg (by simp [c1]),if_pos c2]
     exact bapply_bad2 H.toHasAp0 ks ke cap hr l e hl hs a ha c1 c2
 · rw [if_pos c1]
   exact bapply_bad H.toHasAp0 ks ke cap hr l e hl hs a c1
end Go.D
end
section
set_option linter.unusedSimpArgs false
set_option linter.unusedVariables false
namespace Go.D
open Go Go.Pav Go.Pw P
set_option maxRecDepth 10000
set_option maxHeartbeats 4000000
set_option linter.unusedSimpArgs false
set_option linter.unusedVariables false
attribute [-simp] List.getElem_cons_drop
variable {C:WProg}
structure HasNl (C:WProg):Prop extends HasSm C,HasSa C,HasPa C,HasRa C,HasTn C where
 f93:C.fns.get 93=some w93
section walk
variable (H:HasNl C) (hlives:FnW C 166 []=some (.bool true)) (q:List (List AV)) (qe:Bool) (zz:List (List AV)) (ze:Bool) (r:Int) (a b:Nn)
include H hlives
theorem nlw_small (x y:Int) (hx:FnW C 165 [.agg (eNn a)]=some (.int .i64 x)) (hy:FnW C 165 [.agg (eNn b)]=some (.int .i64 y)) (hxy:(x=0∨x=1)∧(y=0∨y=1)) (h0:x=0∨y=0) :
 FnW C 93 [.agg [.ro 4 q qe,.ro 1 zz ze,.int .u8 r],.agg (eNn a),.agg (eNn b)]=some (.bool true):=by
 rw [fnW_eq H.f93 rfl]
 simp only [eNn,eNet] at hx hy
 obtain ⟨h1,h2⟩:=hxy
 rcases h1 with rfl | rfl
 · rcases h2 with rfl | rfl
   · simp (disch:=omega) [w93,hx,hy,hlives,wI64,H.inl,inlB,H.pp,ppB]
   · simp (disch:=omega) [w93,hx,hy,hlives,wI64,H.inl,inlB,H.pp,ppB]
 · rcases h2 with rfl | rfl
   · simp (disch:=omega) [w93,hx,hy,hlives,wI64,H.inl,inlB,H.pp,ppB]
   · omega
variable (hx:FnW C 165 [.agg (eNn a)]=some (.int .i64 1)) (hy:FnW C 165 [.agg (eNn b)]=some (.int .i64 1))
 (ks:List Kd) (R:List En) (f:Bool) (hlof:FnW C 130 [.agg [.ro 4 q qe,.ro 1 zz ze,.int .u8 r]]=some (.tup [aR ks true 12,aL R f]))
 (k1 c1:Int) (φ:Bool) (h56:FnW C 56 [Rm.eM a.o a.f a.fe]=some (.int .i64 k1)) (h179:FnW C 179 [.agg (eNn a)]=some (.int .i64 (if φ=true then 1 else 0))) (h180:FnW C 180 [.agg (eNn a)]=some (.int .i64 c1))
 (hc1:c1=if k1≠0 then k1 else if φ=true then 0 else 1)
 (s:Bool) (h181:FnW C 181 [.agg (eNn a),.agg (eNn b)]=some (.bool s)) (h182:FnW C 182 [.agg (eNn a),.agg (eNn b)]=some (.int .i64 (if s=true then 1 else 0))) (h181b:FnW C 181 [.agg (eNn a),.agg (eNn a)]=some (.bool true))
include hx hy hlof h56 h179 h180 hc1 h181 h182 h181b
theorem nlw_bad (hc:c1≠0) (h183:FnW C 183 [aR ks true 12,aL R f,.agg (eNn a)]=some (errL c1)) (h184:FnW C 184 [.agg (eNn a),.agg (eNn b)]=some (errN c1)) :
 FnW C 93 [.agg [.ro 4 q qe,.ro 1 zz ze,.int .u8 r],.agg (eNn a),.agg (eNn b)]=some (.bool true):=by
 rw [fnW_eq H.f93 rfl]
 simp only [eNn,eNet,aR,aL,errL,errN,Rm.eM,L1] at hx hy hlof h56 h179 h180 h181 h182 h181b h183 h184
 simp at h183 h184
 by_cases c:k1=0
 · cases φ
   · rw [if_neg (by simp [c]),if_neg (by simp)] at hc1
     subst hc1;subst c
     cases s
     · simp (disch:=omega) [w93,hx,hy,hlof,h56,h179,h180,h181,h182,h181b,h183,h184,hlives,wI64,H.inl,inlB,H.pp,ppB]
     · simp (disch:=omega) [w93,hx,hy,hlof,h56,h179,h180,h181,h182,h181b,h183,h184,hlives,wI64,H.inl,inlB,H.pp,ppB]
   · rw [if_neg (by simp [c]),if_pos rfl] at hc1
     exact absurd hc1 hc
 · rw [if_pos c] at hc1
   subst hc1
   cases s
   · simp (disch:=omega) [w93,hx,hy,hlof,h56,h179,h180,h181,h182,h181b,h183,h184,c,hlives,wI64,H.inl,inlB,H.pp,ppB]
   · simp (disch:=omega) [w93,hx,hy,hlof,h56,h179,h180,h181,h182,h181b,h183,h184,c,hlives,wI64,H.inl,inlB,H.pp,ppB]
variable (hk1:k1=0) (hφ:φ=true) (E:Int) (X Y:List En) (f1 f2:Bool) (h183:FnW C 183 [aR ks true 12,aL R f,.agg (eNn a)]=some (.tup [aL X f1,.int .i64 E])) (h185:FnW C 185 [aR ks true 12,.ro 6 (R.map eEn) f,.agg (eNn a)]=some (.tup [.ro 6 (Y.map eEn) f2,.int .i64 E]))
 (h172:FnW C 172 [.ro 6 (X.map eEn) f1,.ro 6 (Y.map eEn) f2]=some (.int .i64 1))
 (k2 e2:Int) (ψ:Bool) (h56b:FnW C 56 [Rm.eM b.o b.f b.fe]=some (.int .i64 k2)) (h179b:FnW C 179 [.agg (eNn b)]=some (.int .i64 (if ψ=true then 1 else 0)))
include hk1 hφ h183 h185 h172 h56b h179b
theorem nlw_ref (he2:e2=if k2≠0 then k2 else if ψ=false then 1 else if b.o≠a.f.length then 1 else 0) (he:e2≠0) (h184:FnW C 184 [.agg (eNn a),.agg (eNn b)]=some (errN e2))
 (hz:FnW C 182 [.agg (eNet 0 [] true [] true [] true),.agg (eNet 0 [] true [] true [] true)]=some (.int .i64 1)) :
 FnW C 93 [.agg [.ro 4 q qe,.ro 1 zz ze,.int .u8 r],.agg (eNn a),.agg (eNn b)]=some (.bool true):=by
 subst hk1;subst hφ
 rw [if_neg (by simp),if_pos rfl] at hc1
 subst hc1
 rw [fnW_eq H.f93 rfl]
 simp only [eNn,eNet,aR,aL,errL,errN,Rm.eM,L1] at hx hy hlof h56 h179 h180 h181 h182 h181b h183 h184 h185 h56b h179b hz
 simp at h184 hz
 by_cases c:k2=0
 · rw [if_neg (by simp [c])] at he2
   subst c
   cases ψ
   · rw [if_pos rfl] at he2
     subst he2
     cases s
     · simp (disch:=omega) [w93,hx,hy,hlof,h56,h179,h180,h181,h182,h181b,h183,h184,h185,h172,h56b,h179b,hz,hlives,wI64,H.inl,inlB,H.pp,ppB]
     · simp (disch:=omega) [w93,hx,hy,hlof,h56,h179,h180,h181,h182,h181b,h183,h184,h185,h172,h56b,h179b,hz,hlives,wI64,H.inl,inlB,H.pp,ppB]
   · rw [if_neg (by simp)] at he2
     by_cases d:b.o=a.f.length
     · rw [if_neg (by simp [d])] at he2
       exact absurd he2 he
     · rw [if_pos d] at he2
       subst he2
       cases s
       · simp (disch:=omega) [w93,hx,hy,hlof,h56,h179,h180,h181,h182,h181b,h183,h184,h185,h172,h56b,h179b,hz,d,hlives,wI64,H.inl,inlB,H.pp,ppB]
       · simp (disch:=omega) [w93,hx,hy,hlof,h56,h179,h180,h181,h182,h181b,h183,h184,h185,h172,h56b,h179b,hz,d,hlives,wI64,H.inl,inlB,H.pp,ppB]
 · rw [if_pos c] at he2
   subst he2
   cases s
   · simp (disch:=omega) [w93,hx,hy,hlof,h56,h179,h180,h181,h182,h181b,h183,h184,h185,h172,h56b,h179b,hz,c,hlives,wI64,H.inl,inlB,H.pp,ppB]
   · simp (disch:=omega) [w93,hx,hy,hlof,h56,h179,h180,h181,h182,h181b,h183,h184,h185,h172,h56b,h179b,hz,c,hlives,wI64,H.inl,inlB,H.pp,ppB]
theorem nlw_good (hk2:k2=0) (hψ:ψ=true) (hbo:b.o=a.f.length) (N M:Nn) (h184:FnW C 184 [.agg (eNn a),.agg (eNn b)]=some (.tup [.agg (eNn N),.int .i64 0])) (h186:FnW C 186 [.agg (eNn a),.agg (eNn b)]=some (.agg (eNn M)))
 (hz:FnW C 182 [.agg (eNn N),.agg (eNn M)]=some (.int .i64 1)) :
 FnW C 93 [.agg [.ro 4 q qe,.ro 1 zz ze,.int .u8 r],.agg (eNn a),.agg (eNn b)]=some (.bool true):=by
 subst hk1;subst hφ;subst hk2;subst hψ
 rw [if_neg (by simp),if_pos rfl] at hc1
 subst hc1
 rw [fnW_eq H.f93 rfl]
 simp only [eNn,eNet,aR,aL,errL,errN,Rm.eM,L1] at hx hy hlof h56 h179 h180 h181 h182 h181b h183 h184 h185 h186 h56b h179b hz
 simp only [hbo] at h184 h186 h56b h179b hy h181 h182
 cases s
 · simp (disch:=omega) [w93,hx,hy,hlof,h56,h179,h180,h181,h182,h181b,h183,h184,h185,h186,h172,h56b,h179b,hz,hbo,hlives,wI64,H.inl,inlB,H.pp,ppB]
 · simp (disch:=omega) [w93,hx,hy,hlof,h56,h179,h180,h181,h182,h181b,h183,h184,h185,h186,h172,h56b,h179b,hz,hbo,hlives,wI64,H.inl,inlB,H.pp,ppB]
end walk
end Go.D
end
section
set_option linter.unusedSimpArgs false
set_option linter.unusedVariables false
namespace Go.D
open Go Go.Pav Go.Pw P
set_option maxRecDepth 10000
set_option maxHeartbeats 4000000
set_option linter.unusedSimpArgs false
set_option linter.unusedVariables false
attribute [-simp] List.getElem_cons_drop
variable {C:WProg}
theorem tgEn_m {ks:List Kd} {l:List En} {t:Tg} (ht:ItIn t.i) (hl:∀ e ∈ l,EnIn e):(tgEn ks l t).i.m.length≤1000000:=by
 unfold tgEn
 split
 · exact ht.m
 · cases h:l[t.f.toNat]? with
   | none=>simp [zE]
   | some v=>exact (hl v (List.mem_of_getElem? h)).i.m
theorem two_apply (H:HasL C) (ks:List Kd) (cap:Int) (l:List En) (hs:∀ x ∈ l,EnIn x) (a:Nn) (ha:NnIn a) (hai:∀ y ∈ a.x,ItIn y) (hc1:ckE ks cap l=0) (hc2:chkN a=0) :
 ∃ (E:Int) (X Y:List En) (f1 f2:Bool),papV ks cap l a=.tup [aL X f1,.int .i64 E]∧bapV ks cap l a=.tup [.ro 6 (Y.map eEn) f2,.int .i64 E]∧FnW C 172 [.ro 6 (X.map eEn) f1,.ro 6 (Y.map eEn) f2]=some (.int .i64 1):=by
 have hnil:FnW C 172 [.ro 6 (([]:List En).map eEn) true,.ro 6 (([]:List En).map eEn) true]=some (.int .i64 1):=by
  have:=rsameW_ok H [] [] true true (by simp) (by simp) (by simp) (by simp)
  simpa [sameL] using this
 obtain ⟨a1,a2,a3,a4⟩:=chkN_zero hc2
 have hlT:(tgN a).length=a.f.length:=tgE_len _ _ _ a2
 have haf:=ha.f
 unfold papV bapV errL
 rw [if_neg (by simp [hc1]),if_neg (by simp [hc2])]
 by_cases c:a.o=l.length
 · rw [if_neg (by simp [c]),if_neg (by simp [c])]
   unfold papR bapR errL
   simp only [List.nil_append]
   by_cases c2:(tgN a).any (badT l)=true
   · rw [if_pos c2,if_pos c2]
     exact ⟨9,[],[],true,true,rfl,rfl,hnil⟩
   · rw [if_neg c2,if_neg c2]
     by_cases c3:ckE ks cap ((tgN a).map (tgEn ks l))=0
     · rw [if_neg (by simp [c3]),if_neg (by simp [c3])]
       have hm:∀ x ∈ (tgN a).map (tgEn ks l),x.i.m.length≤1000000:=fun x hx=>by
        obtain ⟨t,ht,rfl⟩:=List.mem_map.1 hx
        exact tgEn_m (tg_in hai t ht) hs
       refine ⟨0,_,_,true,false,rfl,rfl,?_⟩
       have:=rsame_ok H (((tgN a).map (tgEn ks l)).map En.own) ((tgN a).map (tgEn ks l)) true false (by simp;omega) (by simp;omega) (fun x hx=>by
        obtain ⟨y,hy,rfl⟩:=List.mem_map.1 hx
        exact hm y hy) hm
       rw [sameL_own,List.length_map] at this
       simpa using this
     · rw [if_pos c3,if_pos c3]
       exact ⟨_,[],[],true,true,rfl,rfl,hnil⟩
 · rw [if_pos c,if_pos c]
   exact ⟨1,[],[],true,true,rfl,rfl,hnil⟩
theorem kdb_in {ks:List Kd} (hk:KsIn ks) (x:Int):-9223372036854775808≤(kdAt ks x).b∧(kdAt ks x).b≤9223372036854775807:=by
 by_cases h:x.toNat < 3
 · have e:kdAt ks x=kdAt ks ((x.toNat:Nat):Int):=by unfold kdAt;rw [Int.toNat_natCast]
   have:=hk.b ((x.toNat:Nat):Int) (by omega) (by omega)
   rw [e]
   omega
 · have:=hk.l
   unfold kdAt
   rw [List.getElem?_eq_none (by omega)]
   simp
theorem thN_in {a b:Nn} (ha:NnIn a) (hb:NnIn b) (hl:b.b.length=b.f.length):NnIn (thN a b):=by
 have h1:=thb_len a.b b.b b.f hl
 have h2:=pick_len (thb a.b b.b b.f) (the a.b (entE a.b a.x) b.b b.f (entE b.b b.x))
 have h3:=hb.b
 have h4:=hb.f
 unfold thN
 refine ⟨by simp [cm];omega,by simp only;omega,by simp only [List.length_map];omega,?_⟩
 intro y hy
 obtain ⟨z,hz,rfl⟩:=List.mem_map.1 hy
 obtain ⟨e,he,rfl⟩:=pick_mem _ _ z hz
 exact the_m ha hb e he
theorem netW_in (o:Int) {T:List Tg} (fe be xe:Bool) (hl:T.length≤1000000) (hm:∀ t ∈ T,t.i.m.length≤1000000):NnIn (netW o T fe be xe):=by
 unfold netW
 have:=List.length_filter_le (·.b) T
 refine ⟨by simp;omega,by simp;omega,by simp;omega,?_⟩
 intro y hy
 obtain ⟨t,ht,rfl⟩:=List.mem_map.1 hy
 exact hm t (List.mem_filter.1 ht).1
theorem tgN_m {a:Nn} (ha:NnIn a):∀ t ∈ tgN a,t.i.m.length≤1000000:=by
 intro t ht
 rcases tgE_m _ _ _ t ht with h | h
 · rw [h];simp [zE]
 · exact ha.m _ h
theorem comp_m {U T:List Tg} (hU:∀ t ∈ U,t.i.m.length≤1000000) (hT:∀ t ∈ T,t.i.m.length≤1000000):∀ t ∈ compT U T,t.i.m.length≤1000000:=by
 intro t ht
 obtain ⟨s,hs,rfl⟩:=List.mem_map.1 ht
 unfold cmpT
 split
 · cases h:U[s.f.toNat]? with
   | none=>exact hT s hs
   | some u =>
    simp only
    split
    · exact hT s hs
    · exact hU u (List.mem_of_getElem? h)
 · exact hT s hs
theorem nlaw_ok (H:HasNl C) (hone:∀ q:Q4,QIn q→∃ i:It,FnW C 422 [.agg (eQ q)]=some (eIt i)∧Good i) (hlives:FnW C 166 []=some (.bool true))
 (q:List Q4) (qe:Bool) (hq:∀ x ∈ q,QIn x) (z:List Int) (ze:Bool) (hz:∀ s ∈ z,0≤s∧s≤255) (hzl:z.length < 9223372036854775808) (r:Int) (hr:0≤r∧r≤255)
 (a b:Nn) (ha:a.f.length≤9223372036854775807∧a.b.length≤9223372036854775807∧a.x.length≤9223372036854775807) (hb:b.f.length≤9223372036854775807∧b.b.length≤9223372036854775807∧b.x.length≤9223372036854775807)
 (hai:∀ y ∈ a.x,(0≤y.k∧y.k < 18446744073709551616)∧(0≤y.t∧y.t≤255)) :
 FnW C 93 [.agg [.ro 4 (q.map eQ) qe,.ro 1 (z.map eU8) ze,.int .u8 r],.agg (eNn a),.agg (eNn b)]=some (.bool true):=by
 have s1:=small_ok H.toHasSm a ha.1 ha.2.1 ha.2.2
 have s2:=small_ok H.toHasSm b hb.1 hb.2.1 hb.2.2
 rcases s1 with s1 | ⟨s1,sa⟩
 · rcases s2 with s2 | ⟨s2,sb⟩
   · exact nlw_small H hlives _ _ _ _ _ a b 0 0 s1 s2 (by simp) (by simp)
   · exact nlw_small H hlives _ _ _ _ _ a b 0 1 s1 s2 (by simp) (by simp)
 rcases s2 with s2 | ⟨s2,sb⟩
 · exact nlw_small H hlives _ _ _ _ _ a b 1 0 s1 s2 (by simp) (by simp)
 have na:=sa.inn
 have nb:=sb.inn
 have hai2:∀ y ∈ a.x,ItIn y:=fun y hy=>⟨(hai y hy).1,(hai y hy).2,by have:=sa.m y hy;omega⟩
 obtain ⟨R,f,hof,hl,hg,hnd⟩:=lof_ok H.toHasSa.toHasG hone q qe hq z ze hz hzl r hr
 have hck:=ck_good r hr R (by omega) hg hnd
 have hin:∀ x ∈ R,EnIn x:=fun x hx=>(hg x hx).en
 have hks:=ks_in r hr
 generalize kindsOf r=ks at *
 have hru:=hks.r
 have h56:=Rm.check_ok H.toHasTn.toHasCn.toHas a.o a.f a.fe
 have h56b:=Rm.check_ok H.toHasTn.toHasCn.toHas b.o b.f b.fe
 have h179:=fits_ok H.toHasSm a na
 have h179b:=fits_ok H.toHasSm b nb
 have h180:=bcheck_ok H.toHasTn.toHasCn a na
 have h181:=bsame_ok H.toHasSa a b na nb
 have h181b:=bsame_ok H.toHasSa a a na na
 have h182:=sn_ok H.toHasSm.toHasSn a b na nb
 have hrefl:sameN a a=true:=by unfold sameN;rw [sameX_refl];simp
 rw [hrefl] at h181b
 have hc1:chkN a=if Rm.chk a.o a.f≠0 then Rm.chk a.o a.f else if fitN a=true then 0 else 1:=by
  by_cases c:Rm.chk a.o a.f=0
  · rw [if_neg (by simp [c]),chk_fit c]
  · rw [if_pos c];unfold chkN;rw [if_pos c]
 have h183:=pap_ok H.toHasPa ks true 12 hru (kdb_in hks) R f (by omega) hin a na hai2
 have h184:=then_ok H.toHasTn a b na nb (by have:=sb.f;omega)
 have hzz:FnW C 182 [.agg (eNet 0 [] true [] true [] true),.agg (eNet 0 [] true [] true [] true)]=some (.int .i64 1):=by
  have:=sn_ok H.toHasSm.toHasSn ⟨0,[],true,[],true,[],true⟩ ⟨0,[],true,[],true,[],true⟩ ⟨by simp,by simp,by simp,by simp⟩ ⟨by simp,by simp,by simp,by simp⟩
  simpa [sameN,sameX] using this
 by_cases ca:chkN a=0
 · obtain ⟨a1,a2,a3,a4⟩:=chkN_zero ca
   have hφ:fitN a=true:=by
    rw [if_neg (by simp [a1])] at hc1
    cases h:fitN a with
    | true=>rfl
    | false=>rw [h,ca] at hc1;simp at hc1
   have h185:=rap_ok H.toHasRa ks true 12 hru (kdb_in hks) R f (by omega) hin a na hai2 ca
   obtain ⟨E,X,Y,f1,f2,e1,e2,h172⟩:=two_apply H.toHasPa.toHasNe.toHasL ks 12 R hin a na hai2 hck ca
   rw [e1] at h183
   rw [e2] at h185
   rw [if_neg (by simp [ca])] at h184
   by_cases cb:chkN b=0
   · obtain ⟨b1,b2,b3,b4⟩:=chkN_zero cb
     have hψ:fitN b=true:=by
      have:=chk_fit b1
      rw [cb] at this
      cases h:fitN b with
      | true=>rfl
      | false=>rw [h] at this;simp at this
     rw [if_neg (by simp [cb])] at h184
     by_cases d:b.o=a.f.length
     · rw [if_neg (by simp [d])] at h184
       obtain ⟨fe,be,xe,h186⟩:=rthen_ok H.toHasRa.toHasRt a b na nb ca cb (fun k hk=>by have:=(Rm.chk_zero b1).rng k hk;omega)
       have hsame:=thN_same ca cb (fun k hk=>by have:=(Rm.chk_zero b1).rng k hk;omega) fe be xe
       have hz:=sn_ok H.toHasSm.toHasSn (thN a b) (netW a.o (compT (tgN a) (tgN b)) fe be xe) (thN_in na nb b2) (netW_in _ _ _ _ (by unfold compT;rw [List.length_map];unfold tgN;rw [tgE_len _ _ _ b2];have:=nb.f;omega) (comp_m (tgN_m na) (tgN_m nb)))
       rw [hsame,if_pos rfl] at hz
       exact nlw_good H hlives _ qe _ ze r a b s1 s2 ks R f hof _ _ _ h56 h179 h180 hc1 _ h181 h182 h181b a1 hφ E X Y f1 f2 h183 h185 h172 _ _ h56b h179b b1 hψ d _ _ h184 h186 hz
     · rw [if_pos d] at h184
       exact nlw_ref H hlives _ qe _ ze r a b s1 s2 ks R f hof _ _ _ h56 h179 h180 hc1 _ h181 h182 h181b a1 hφ E X Y f1 f2 h183 h185 h172 _ 1 _ h56b h179b (by rw [if_neg (by simp [b1]),hψ,if_neg (by simp),if_pos d]) (by simp) h184 hzz
   · rw [if_pos cb] at h184
     refine nlw_ref H hlives _ qe _ ze r a b s1 s2 ks R f hof _ _ _ h56 h179 h180 hc1 _ h181 h182 h181b a1 hφ E X Y f1 f2 h183 h185 h172 _ (chkN b) _ h56b h179b ?_ cb h184 hzz
     by_cases c:Rm.chk b.o b.f=0
     · rw [if_neg (by simp [c])]
       have:=chk_fit c
       cases h:fitN b with
       | true=>rw [h] at this;exact absurd (by simpa using this) cb
       | false=>rw [h] at this;rw [this];simp
     · rw [if_pos c];unfold chkN;rw [if_pos c]
 · rw [if_pos ca] at h184
   unfold papV at h183
   rw [if_neg (by simp [hck]),if_pos ca] at h183
   exact nlw_bad H hlives _ qe _ ze r a b s1 s2 ks R f hof _ _ _ h56 h179 h180 hc1 _ h181 h182 h181b ca h183 h184
end Go.D
end
