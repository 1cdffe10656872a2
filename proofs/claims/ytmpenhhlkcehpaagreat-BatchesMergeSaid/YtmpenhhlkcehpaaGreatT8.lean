/- Part of the theory that the claims of this work use: N13, M07, M08, M09, M12, M13, M26, M27, M29, M30, M28, M31, M32, M18, M19, M20, M21, M22, M23, M24, M25, M33. No conditions of its own. -/
import Derived.Test.YtmpenhhlkcehpaaGreatT7
set_option linter.unusedVariables false
set_option linter.unusedSimpArgs false
set_option maxHeartbeats 4000000
set_option maxRecDepth 10000
section
namespace Go.D
open Go Go.Pav Go.Pw P
attribute [-simp] List.getElem_cons_drop
variable {C:WProg}
structure HasAl (C:WProg):Prop extends HasNb C,HasNc C where
 f171:C.fns.get 171=some w171
 f170:C.fns.get 170=some w170
def allA (ks:List Kd) (cap:Int) (l:List En) (x:List Nt) (i:Nat):AV :=
 if allE ks cap l x≠0 then .tup [.agg [.ro 6 [] true],.int .i64 ((i+allN ks cap l x:Nat):Int),.int .i64 (allE ks cap l x)] else .tup [aL ((allL ks l x).map En.own) true,.int .i64 ((i+x.length:Nat):Int),.int .i64 0]
def allR (ks:List Kd) (cap:Int) (l:List En) (x:List Nt) (i:Nat) (f:Bool):AV :=
 if allE ks cap l x≠0 then .tup [.ro 6 [] true,.int .i64 ((i+allN ks cap l x:Nat):Int),.int .i64 (allE ks cap l x)] else .tup [.ro 6 ((allL ks l x).map eEn) f,.int .i64 ((i+x.length:Nat):Int),.int .i64 0]
theorem ck_len {ks:List Kd} {cap:Int} {l:List En} (h:ckE ks cap l=0):l.length≤1024:=((ck_iff ks cap l).1 h).2.1
theorem nall_loop (H:HasAl C) (ks:List Kd) (ke:Bool) (cap:Int) (hr:RuIn ks) (x:List Nt) (xe:Bool) (hx:∀ n ∈ x,NtIn ks n) (hxl:x.length≤1000):∀ n i,n+i=x.length→∀ (l:List En),(∀ e ∈ l,EnIn e)→ckE ks cap l=0 →
 w171_K0 C ⟨[(31,.int .i64 i),(30,.int .i64 x.length),(29,.ro 5 (x.map eNt) xe),(8,.int .i64 0),(6,.ptr 0 0 0),(3,.ptr 1 0 0),(2,.ro 5 (x.map eNt) xe)],
  [(0,.cells 1 [[.ro 6 ((l.map En.own).map eEn) true]] true true),(1,.cells 2 [[.ro 9 (ks.map eKd) ke,.int .i64 cap]] true true)],2⟩=some (allA ks cap l (x.drop i) i):=by
 intro n
 induction n with
 | zero =>
  intro i hi l hs hc
  simp only [w171_K0];rw [ck_unf w171_B0.eq_1]
  have h1:x.drop i=[]:=List.drop_eq_nil_of_le (by omega)
  have h2:i=x.length:=by omega
  subst h2
  rw [h1]
  simp (disch:=omega) [ck_unf w171_c0.eq_1,wI64,allA,allE,allL,H.inl,inlB,H.pp,ppB]
 | succ n ih =>
  intro i hi l hs hc
  have hlt:i < x.length:=by omega
  have hd:x.drop i=x[i]::x.drop (i+1):=List.drop_eq_getElem_cons hlt
  have hn:=hx x[i] (List.getElem_mem hlt)
  have hll:=ck_len hc
  have hs':∀ e ∈ l.map En.own,EnIn e:=by
   intro e he
   obtain ⟨e',he',rfl⟩:=List.mem_map.1 he
   exact (hs e' he').ow
  have hap:=napply_eq H.toHasNb ks ke cap hr (l.map En.own) true (by rw [List.length_map];omega) hs' ((ck_own ks cap l).2 hc) x[i] hn
  rw [apE_own,apL_own] at hap
  simp only [w171_K0];rw [ck_unf w171_B0.eq_1]
  rw [hd]
  by_cases hE:apE ks cap l x[i]=0
  · rw [if_neg (by simp [hE])] at hap
    have:=ih (i+1) (by omega) (apL ks l x[i]) (ap_in hn hs hE) (ap_ck hn hc hE)
    have hA:allA ks cap l (x[i]::x.drop (i+1)) i=allA ks cap (apL ks l x[i]) (x.drop (i+1)) (i+1):=by
     have e1:i+(allN ks cap (apL ks l x[i]) (x.drop (i+1))+1)=i+1+allN ks cap (apL ks l x[i]) (x.drop (i+1)):=by omega
     have e2:i+((x.drop (i+1)).length+1)=i+1+(x.drop (i+1)).length:=by omega
     have q:¬ (apE ks cap l x[i]≠0):=by simp [hE]
     simp only [allA,allE,allN,allL,if_neg q,List.length_cons,e1,e2]
    rw [hA,← this]
    simp only [w171_K0]
    simp [aL,aR] at hap
    simp (disch:=omega) [hlt,wI64,hap,H.inl,inlB,H.pp,ppB]
  · rw [if_pos hE] at hap
    have hA:allA ks cap l (x[i]::x.drop (i+1)) i=.tup [.agg [.ro 6 [] true],.int .i64 i,.int .i64 (apE ks cap l x[i])]:=by
     simp only [allA,allE,allN,if_pos hE,Nat.add_zero]
    rw [hA]
    generalize apE ks cap l x[i]=E at *
    simp only [errL,aL,aR] at hap
    simp [aL,aR] at hap
    simp (disch:=omega) [hlt,wI64,hap,hE,H.inl,inlB,H.pp,ppB]
def nallA (ks:List Kd) (cap:Int) (l:List En) (x:List Nt):AV :=
 if ckE ks cap l≠0 then .tup [.agg [.ro 6 [] true],.int .i64 0,.int .i64 (ckE ks cap l)] else if 32 < (x.length:Int) then .tup [.agg [.ro 6 [] true],.int .i64 0,.int .i64 3] else allA ks cap l x 0
theorem nall_ok (H:HasAl C) (ks:List Kd) (ke:Bool) (cap:Int) (hr:RuIn ks) (l:List En) (e:Bool) (hl:l.length≤10000) (hs:∀ e ∈ l,EnIn e) (x:List Nt) (xe:Bool) (hx:∀ n ∈ x,NtIn ks n) (hxl:x.length≤1000) :
 FnW C 171 [aR ks ke cap,aL l e,.ro 5 (x.map eNt) xe]=some (nallA ks cap l x):=by
 have hck:=lcheck_ok H.toHasNb.toHasU2.toHasO.toHasK ks ke cap hr l e (by omega) hs
 have hrm:=remove_ok H.toHasNb.toHasU2.toHasO ks ke cap hr l e (by omega) hs 0 0
 have hin:inR 0 0 (l.length:Int)=true:=by unfold inR;simp
 have hsp:spl l (0:Int).toNat (0:Int).toNat []=l:=by simp [spl]
 rw [hin,hsp,if_neg (by simp:¬ (true=false))] at hrm
 rw [fnW_eq H.f171 rfl]
 unfold nallA
 by_cases hc:ckE ks cap l=0
 · rw [if_neg (by simp [hc])] at hrm ⊢
   rw [hc] at hck
   have hov:ovE l=0:=((ck_iff ks cap l).1 hc).2.2.2.2
   rw [outL_eq,hov,if_neg (by simp)] at hrm
   by_cases h32:32 < (x.length:Int)
   · rw [if_pos h32]
     simp (disch:=omega) [w171,hck,h32,wI64,H.inl,inlB,H.pp,ppB]
   · rw [if_neg h32]
     have:=nall_loop H ks ke cap hr x xe hx hxl x.length 0 rfl l hs hc
     simp only [w171_K0] at this
     rw [List.drop_zero] at this
     simp at this
     simp (disch:=omega) [w171,hck,hrm,h32,this,wI64,H.inl,inlB,H.pp,ppB]
 · rw [if_pos hc]
   generalize ckE ks cap l=E at *
   simp (disch:=omega) [w171,hck,hc,wI64,H.inl,inlB,H.pp,ppB]
theorem rnd_nn (p:Pt) (x:It) (most:Int):0≤rndE p x most:=by
 unfold rndE
 repeat' split
 all_goals omega
theorem chg_nn (ks:List Kd) (cap:Int) (l:List En):∀ (x:List It) (j:Nat),0≤chgE ks cap l j x
 | [],_=>by simp [chgE]
 | a::r,j=>by
  rw [chgE]
  have h:=rnd_nn (kdAt ks a.t).p a cap
  split
  · simp
  · split
    · simp
    · split
      · exact h
      · exact chg_nn ks cap l r _
theorem apE_pos (ks:List Kd) (cap:Int) (l:List En) (n:Nt) (h:apE ks cap l n≠0):0 < apE ks cap l n:=by
 have h1:=inc_nn ks cap n.x (keysE l)
 have h2:=inc_nn ks cap n.x []
 have h3:=chg_nn ks cap l n.x n.a.toNat
 have h4:=ntE_pos n
 have h5:=ov_two (apL ks l n)
 have h6:0≤apF ks cap l n:=by
  unfold apF
  repeat' split
  all_goals omega
 unfold apE at h ⊢
 split
 · rename_i q;exact h4 q
 · split
   · omega
   · rename_i q1 q2
     rw [if_neg q1,if_neg q2] at h
     omega
theorem rnall_loop (H:HasAl C) (ks:List Kd) (ke:Bool) (cap:Int) (hr:RuIn ks) (x:List Nt) (xe:Bool) (hx:∀ n ∈ x,NtIn ks n) (hxl:x.length≤1000):∀ n i,n+i=x.length→∀ (l:List En) (fl:Bool),(∀ e ∈ l,EnIn e)→ckE ks cap l=0 →
 w170_K0 C ⟨[(9,.int .i64 i),(3,.ptr 0 0 0),(2,.ro 5 (x.map eNt) xe),(1,.ro 6 (l.map eEn) fl)],
  [(0,.cells 2 [[.ro 9 (ks.map eKd) ke,.int .i64 cap]] true true)],1⟩=some (allR ks cap l (x.drop i) i (if n=0 then fl else false)):=by
 intro n
 induction n with
 | zero =>
  intro i hi l fl hs hc
  simp only [w170_K0];rw [ck_unf w170_B0.eq_1]
  have h1:x.drop i=[]:=List.drop_eq_nil_of_le (by omega)
  have h2:i=x.length:=by omega
  subst h2
  rw [h1]
  simp (disch:=omega) [ck_unf w170_c0.eq_1,wI64,allR,allE,allL,H.inl,inlB,H.pp,ppB]
 | succ n ih =>
  intro i hi l fl hs hc
  have hlt:i < x.length:=by omega
  have hd:x.drop i=x[i]::x.drop (i+1):=List.drop_eq_getElem_cons hlt
  have hn:=hx x[i] (List.getElem_mem hlt)
  have hap:=rnapply_eq H.toHasNc ks ke cap hr l fl hs hc x[i] hn
  simp only [w170_K0];rw [ck_unf w170_B0.eq_1]
  rw [hd]
  by_cases hE:apE ks cap l x[i]=0
  · rw [if_neg (by simp [hE])] at hap
    have:=ih (i+1) (by omega) (apL ks l x[i]) false (ap_in hn hs hE) (ap_ck hn hc hE)
    have hA:allR ks cap l (x[i]::x.drop (i+1)) i (if n+1=0 then fl else false)=allR ks cap (apL ks l x[i]) (x.drop (i+1)) (i+1) (if n=0 then false else false):=by
     have e1:i+(allN ks cap (apL ks l x[i]) (x.drop (i+1))+1)=i+1+allN ks cap (apL ks l x[i]) (x.drop (i+1)):=by omega
     have e2:i+((x.drop (i+1)).length+1)=i+1+(x.drop (i+1)).length:=by omega
     have q:¬ (apE ks cap l x[i]≠0):=by simp [hE]
     have q2:¬ (n+1=0):=by omega
     simp only [allR,allE,allN,allL,if_neg q,if_neg q2,List.length_cons,e1,e2,ite_self]
    rw [hA,← this]
    simp only [w170_K0]
    simp [aL,aR] at hap
    simp (disch:=omega) [hlt,wI64,hap,H.inl,inlB,H.pp,ppB]
  · rw [if_pos hE] at hap
    have hA:allR ks cap l (x[i]::x.drop (i+1)) i (if n+1=0 then fl else false)=.tup [.ro 6 [] true,.int .i64 i,.int .i64 (apE ks cap l x[i])]:=by
     simp only [allR,allE,allN,if_pos hE,Nat.add_zero]
    rw [hA]
    have hpos:0 < apE ks cap l x[i]:=apE_pos ks cap l x[i] hE
    generalize apE ks cap l x[i]=E at *
    simp only [rfE] at hap
    simp [aL,aR] at hap
    simp (disch:=omega) [hlt,wI64,hap,hE,hpos,H.inl,inlB,H.pp,ppB]
theorem rnall_ok (H:HasAl C) (ks:List Kd) (ke:Bool) (cap:Int) (hr:RuIn ks) (l:List En) (e:Bool) (hs:∀ e ∈ l,EnIn e) (hc:ckE ks cap l=0) (x:List Nt) (xe:Bool) (hx:∀ n ∈ x,NtIn ks n) (hxl:x.length≤1000) :
 FnW C 170 [aR ks ke cap,.ro 6 (l.map eEn) e,.ro 5 (x.map eNt) xe]=some (if 32 < (x.length:Int) then .tup [.ro 6 [] true,.int .i64 0,.int .i64 3] else allR ks cap l x 0 (if x.length=0 then e else false)):=by
 rw [fnW_eq H.f170 rfl]
 by_cases h32:32 < (x.length:Int)
 · rw [if_pos h32]
   simp (disch:=omega) [w170,h32,wI64,H.inl,inlB,H.pp,ppB]
 · rw [if_neg h32]
   have:=rnall_loop H ks ke cap hr x xe hx hxl x.length 0 rfl l e hs hc
   simp only [w170_K0] at this
   rw [List.drop_zero] at this
   simp at this
   simp (disch:=omega) [w170,h32,this,wI64,H.inl,inlB,H.pp,ppB]
def sameX:List It→List It→Bool
 | [],[]=>true
 | a::r,b::s=>sameIt a b&&sameX r s
 | _,_=>false
theorem sameX_own:∀ l:List It,sameX (l.map It.own) l=true
 | []=>rfl
 | a::r=>by rw [List.map_cons,sameX,sameX_own r];simp [sameIt,It.own]
theorem sameX_len:∀ l m:List It,sameX l m=true→l.length=m.length
 | [],[],_=>rfl
 | [],_::_,h=>by simp [sameX] at h
 | _::_,[],h=>by simp [sameX] at h
 | _::r,_::s,h=>by
  simp only [sameX,Bool.and_eq_true] at h
  simp [sameX_len r s h.2]
structure HasSx (C:WProg):Prop extends HasL C where
 f357:C.fns.get 357=some w357
theorem sall_loop (H:HasSx C) (x y:List It) (xe ye:Bool) (hl:x.length=y.length) (h1:x.length≤1000000) (hx:∀ i ∈ x,i.m.length≤1000000) (hy:∀ i ∈ y,i.m.length≤1000000):∀ n i,n+i=x.length →
 w357_K0 C ⟨[(5,.int .i64 i),(1,.ro 4 (y.map cIt) ye),(0,.ro 4 (x.map cIt) xe)],[],0⟩=some (.int .i64 (if sameX (x.drop i) (y.drop i)=true then 1 else 0)):=by
 intro n
 induction n with
 | zero =>
  intro i hi
  have q1:x.drop i=[]:=List.drop_eq_nil_of_le (by omega)
  have q2:y.drop i=[]:=List.drop_eq_nil_of_le (by omega)
  have h3:¬ i < x.length:=by omega
  simp only [w357_K0];rw [ck_unf w357_B0.eq_1]
  simp [ck_unf w357_c0.eq_1,q1,q2,h3,sameX]
 | succ n ih =>
  intro i hi
  have p1:i < x.length:=by omega
  have p2:i < y.length:=by omega
  have h:=rsame1_ok H.toHasL x[i] y[i] (by have:=hx _ (List.getElem_mem p1);omega) (by have:=hy _ (List.getElem_mem p2);omega)
  have:=ih (i+1) (by omega)
  rw [drop_cons p1,drop_cons p2,sameX]
  simp only [w357_K0] at this ⊢;rw [ck_unf w357_B0.eq_1]
  simp at this
  generalize sameIt x[i] y[i]=b at *
  cases b
  · simp (disch:=omega) [p1,p2,h,wI64,H.inl,inlB,H.pp,ppB]
  · simp (disch:=omega) [p1,p2,h,wI64,H.inl,inlB,H.pp,ppB,this]
theorem sall_ok (H:HasSx C) (x y:List It) (xe ye:Bool) (h1:x.length≤1000000) (h2:y.length≤1000000) (hx:∀ i ∈ x,i.m.length≤1000000) (hy:∀ i ∈ y,i.m.length≤1000000) :
 FnW C 357 [.ro 4 (x.map cIt) xe,.ro 4 (y.map cIt) ye]=some (.int .i64 (if sameX x y=true then 1 else 0)):=by
 rw [fnW_eq H.f357 rfl]
 by_cases hl:x.length=y.length
 · have:=sall_loop H x y xe ye hl h1 hx hy x.length 0 rfl
   simp only [w357_K0] at this
   simp at this
   simp (disch:=omega) [w357,hl,this,wI64,H.inl,inlB,H.pp,ppB]
 · have:sameX x y=false:=by
    cases h:sameX x y with
    | false=>rfl
    | true=>exact absurd (sameX_len x y h) hl
   rw [this]
   simp (disch:=omega) [w357,hl,wI64,H.inl,inlB,H.pp,ppB]
structure Nn where
 o:Int
 f:List Int
 fe:Bool
 b:List Bool
 be:Bool
 x:List It
 xe:Bool
@[simp] def eNn (n:Nn):List AV:=eNet n.o n.f n.fe n.b n.be n.x n.xe
structure HasSn (C:WProg):Prop extends HasSx C
structure HasCn (C:WProg):Prop extends Rm.Has C
structure HasAp0 (C:WProg):Prop extends HasCn C,HasK C
def zE:En:=⟨⟨0,0,[],[],true⟩,0,false⟩
structure HasTn (C:WProg):Prop extends HasCn C,HasNe C
def the (ab:List Bool) (B:List En):List Bool→List Int→List En→List En
 | b::r,k::s,e::x=>(if (!b&&ab[k.toNat]?.getD false)=true then B[k.toNat]?.getD zE else e)::the ab B r s x
 | _,_,_=>[]
end Go.D
end
section
namespace Go.D
open Go Go.Pav Go.Pw P
theorem allL_app (ks:List Kd):∀ (x y:List Nt) (l:List En),allL ks l (x++y)=allL ks (allL ks l x) y
 | [],_,_=>rfl
 | n::r,y,l=>by rw [List.cons_append,allL,allL,allL_app ks r y]
theorem allE_app (ks:List Kd) (cap:Int):∀ (x y:List Nt) (l:List En),allE ks cap l (x++y)=if allE ks cap l x≠0 then allE ks cap l x else allE ks cap (allL ks l x) y
 | [],y,l=>by simp [allE,allL]
 | n::r,y,l=>by
  rw [List.cons_append,allE,allE,allL,allE_app ks cap r y]
  by_cases h:apE ks cap l n=0
  · have q:¬ (apE ks cap l n≠0):=by simp [h]
    simp only [if_neg q]
  · simp only [if_pos h]
end Go.D
end
section
namespace Go.D
open Go Go.Pav Go.Pw P
attribute [-simp] List.getElem_cons_drop
variable {C:WProg}
structure HasPu (C:WProg):Prop extends HasNe C where
 f3006:C.fns.get 3006=some w566
 f531:C.fns.get 531=some w531
 f458:C.fns.get 458=some w458
abbrev zI:List AV:=[.int .u64 0,.int .u8 0,.str [],.ro 1 [] true]
theorem grow_zero (H:HasPu C) (nid:Nat):freshCallW (RnW C) 3006 [.ro 4 [] true,.int .i64 0] nid=some (.ro 4 [] true,[]):=by
 have hr:∃ m,RnW C 3006 [.ro 4 [] true,.int .i64 0] [] 0=some (.ro 4 [] true,[],m):=by
  rw [rnW_eq H.f3006 rfl]
  simp (disch:=omega) [w566,wI64,H.inl,inlB,H.pp,ppB]
 obtain ⟨m,hr⟩:=hr
 unfold freshCallW
 rw [hr]
 simp [ob,ownOf,Pav.get,freshOfW,hand,om]
theorem grow_ok (H:HasPu C) (n:Nat) (h0:0 < n) (hn:n≤1000000) (nid:Nat):freshCallW (RnW C) 3006 [.ro 4 [] true,.int .i64 n] nid=some (.sl nid 4 0 0 n false,[(nid,some (.cells 4 (List.replicate n zI) true true))]):=by
 have h2:n * 57≤35184372088832:=by omega
 have h3:¬ n=0:=by omega
 have hr:∃ b m,RnW C 3006 [.ro 4 [] true,.int .i64 n] [] 0=some (.sl b 4 0 0 n false,[(b,.cells 4 (List.replicate n zI) true true)],m):=by
  rw [rnW_eq H.f3006 rfl]
  obtain ⟨k,rfl⟩:∃ k,n=k+1:=⟨n - 1,by omega⟩
  have h4:¬ ((k:Int)+1 < 0):=by omega
  simp (disch:=omega) [w566,List.replicate_succ,h2,h4,wI64,H.inl,inlB,H.pp,ppB]
 obtain ⟨b,m,hr⟩:=hr
 unfold freshCallW
 rw [hr]
 simp [ob,ownOf,Pav.get,freshOfW,hand,om]
@[simp] def eXs (p:List It × Bool):List AV:=[.ro 4 (p.1.map cIt) p.2]
def totX (xs:List (List It × Bool)):Nat:=(xs.map (·.1.length)).sum
def flatX (xs:List (List It × Bool)):List It:=(xs.map (·.1)).flatten
theorem totX_cons (a:List It × Bool) (r:List (List It × Bool)):totX (a::r)=a.1.length+totX r:=by simp [totX]
theorem flatX_cons (a:List It × Bool) (r:List (List It × Bool)):flatX (a::r)=a.1++flatX r:=by simp [flatX]
theorem flatX_len:∀ xs:List (List It × Bool),(flatX xs).length=totX xs
 | []=>rfl
 | a::r=>by rw [flatX_cons,totX_cons,List.length_append,flatX_len r]
theorem cat_loop (H:HasPu C) (xs:List (List It × Bool)) (e:Bool) (N:Nat) (h0:0 < N) (hN:N≤1000000) (hx:xs.length≤10):∀ n i,n+i=xs.length→∀ acc:List It,acc.length+totX (xs.drop i)=N →
 w531_K0 C ⟨[(27,.int .i64 i),(26,.int .i64 xs.length),(25,.ro 1 (xs.map eXs) e),(6,.sl 0 4 0 acc.length N false)],[(0,.cells 4 (acc.map cIt++List.replicate (totX (xs.drop i)) zI) true true)],1⟩ =
  some (.ro 4 ((acc++flatX (xs.drop i)).map cIt) false):=by
 intro n
 induction n with
 | zero =>
  intro i hi acc hA
  have q1:xs.drop i=[]:=List.drop_eq_nil_of_le (by omega)
  have h3:¬ i < xs.length:=by omega
  have hz:totX ([]:List (List It × Bool))=0:=rfl
  rw [q1,hz] at hA ⊢
  have hN2:acc.length=N:=by omega
  have t1:List.take acc.length (List.map cIt acc)=List.map cIt acc:=List.take_of_length_le (by simp)
  simp only [w531_K0];rw [ck_unf w531_B0.eq_1]
  simp [ck_unf w531_c0.eq_1,h3,t1,flatX,H.inl,inlB,H.pp,ppB]
 | succ n ih =>
  intro i hi acc hA
  have p1:i < xs.length:=by omega
  rw [drop_cons p1,totX_cons] at hA ⊢
  rw [flatX_cons]
  have this:=ih (i+1) (by omega) (acc++xs[i].1) (by simp;omega)
  simp only [w531_K0] at this ⊢;rw [ck_unf w531_B0.eq_1]
  by_cases hz:xs[i].1=[]
  · rw [hz] at this hA ⊢
    simp at this
    simp (disch:=omega) [p1,hz,wI64,H.inl,inlB,H.pp,ppB,this]
  · have t1:List.take acc.length (List.map cIt acc++List.replicate (xs[i].1.length+totX (xs.drop (i+1))) zI)=List.map cIt acc:=by
     rw [List.take_append_of_le_length (by simp)];exact List.take_of_length_le (by simp)
    have t2:List.drop (acc.length+xs[i].1.length) (List.map cIt acc++List.replicate (xs[i].1.length+totX (xs.drop (i+1))) zI)=List.replicate (totX (xs.drop (i+1))) zI:=by
     rw [List.drop_append,List.drop_of_length_le (by simp),List.nil_append,List.length_map,List.drop_replicate]
     congr 1
     omega
    have hl1:acc.length+xs[i].1.length≤N:=by omega
    simp at this t2
    simp (disch:=omega) [p1,hz,isE,t1,t2,hl1,wI64,H.inl,inlB,H.pp,ppB,this]
theorem cat_sum (H:HasPu C) (xs:List (List It × Bool)) (e:Bool) (hx:xs.length≤10) (hN:totX xs≤1000000) (R:Option AV)
 (hR:CK C 0 (pureFin [.tmp 2]) [] w531_c1 ⟨[(3,.int .i64 (totX xs)),(0,.ro 1 (xs.map eXs) e)],[],0⟩=R):∀ n i,n+i=xs.length→∀ s:Nat,s+totX (xs.drop i)=totX xs →
 w531_K1 C ⟨[(11,.int .i64 i),(10,.int .i64 xs.length),(9,.ro 1 (xs.map eXs) e),(3,.int .i64 s),(0,.ro 1 (xs.map eXs) e)],[],0⟩=R:=by
 intro n
 induction n with
 | zero =>
  intro i hi s hs
  have q1:xs.drop i=[]:=List.drop_eq_nil_of_le (by omega)
  have h3:¬ i < xs.length:=by omega
  have hz:totX ([]:List (List It × Bool))=0:=rfl
  rw [q1,hz] at hs
  have hs2:s=totX xs:=by omega
  rw [← hR,hs2]
  simp only [w531_K1];rw [ck_unf w531_B1.eq_1]
  simp [h3,H.inl,inlB,H.pp,ppB]
 | succ n ih =>
  intro i hi s hs
  have p1:i < xs.length:=by omega
  rw [drop_cons p1,totX_cons] at hs
  have this:=ih (i+1) (by omega) (s+xs[i].1.length) (by omega)
  have h4:¬ ((s:Int)+xs[i].1.length < 0):=by omega
  simp only [w531_K1] at this ⊢;rw [ck_unf w531_B1.eq_1]
  simp at this
  simp (disch:=omega) [p1,h4,wI64,H.inl,inlB,H.pp,ppB,this]
theorem cat_nil (H:HasPu C) (xs:List (List It × Bool)) (e:Bool) (hx:xs.length≤10):∀ n i,n+i=xs.length→totX (xs.drop i)=0 →
 w531_K0 C ⟨[(27,.int .i64 i),(26,.int .i64 xs.length),(25,.ro 1 (xs.map eXs) e),(6,.ro 4 [] true)],[],0⟩=some (.ro 4 [] true):=by
 intro n
 induction n with
 | zero =>
  intro i hi hA
  have h3:¬ i < xs.length:=by omega
  simp only [w531_K0];rw [ck_unf w531_B0.eq_1]
  simp [ck_unf w531_c0.eq_1,h3,H.inl,inlB,H.pp,ppB]
 | succ n ih =>
  intro i hi hA
  have p1:i < xs.length:=by omega
  rw [drop_cons p1,totX_cons] at hA
  have this:=ih (i+1) (by omega) (by omega)
  have hz:xs[i].1=[]:=List.eq_nil_of_length_eq_zero (by omega)
  simp only [w531_K0] at this ⊢;rw [ck_unf w531_B0.eq_1]
  simp at this
  simp (disch:=omega) [p1,hz,wI64,H.inl,inlB,H.pp,ppB,this]
theorem cat_ok (H:HasPu C) (xs:List (List It × Bool)) (hx:xs.length≤10) (hN:totX xs≤1000000):∃ f,∀ e,FnW C 531 [.ro 1 (xs.map eXs) e]=some (.ro 4 ((flatX xs).map cIt) f):=by
 have fin:∀ e R,CK C 0 (pureFin [.tmp 2]) [] w531_c1 ⟨[(3,.int .i64 (totX xs)),(0,.ro 1 (xs.map eXs) e)],[],0⟩=R→FnW C 531 [.ro 1 (xs.map eXs) e]=R:=by
  intro e R hR
  have h:=cat_sum H xs e hx hN R hR xs.length 0 rfl 0 (by simp)
  rw [fnW_eq H.f531 rfl]
  simp only [w531_K1] at h
  simp at h
  simp (disch:=omega) [w531,h,wI64,H.inl,inlB,H.pp,ppB]
 by_cases h0:totX xs=0
 · refine ⟨true,fun e=>fin _ _ ?_⟩
   have h:=cat_nil H xs e hx xs.length 0 rfl (by simpa using h0)
   have hf:flatX xs=[]:=List.eq_nil_of_length_eq_zero (by rw [flatX_len,h0])
   rw [h0,hf]
   have hg:=grow_zero H
   simp only [w531_K0] at h
   simp at h
   simp (disch:=omega) [ck_unf w531_c1.eq_1,hg,h,wI64,H.inl,inlB,H.pp,ppB]
 · refine ⟨false,fun e=>fin _ _ ?_⟩
   have h:=cat_loop H xs e (totX xs) (by omega) hN hx xs.length 0 rfl [] (by simp)
   have hg:=fun nid=>grow_ok H (totX xs) (by omega) hN nid
   simp only [w531_K0] at h
   rw [List.drop_zero] at h
   simp at h
   simp (disch:=omega) [ck_unf w531_c1.eq_1,hg,h,wI64,H.inl,inlB,H.pp,ppB]
theorem put_ok (H:HasPu C) (x:List It) (e:Bool) (a c:Int) (y:List It) (f:Bool) (h:0≤a∧0≤c∧a+c≤x.length) (hx:x.length≤100000) (hy:y.length≤100000) :
 ∃ g,FnW C 458 [.ro 4 (x.map cIt) e,.int .i64 a,.int .i64 c,.ro 4 (y.map cIt) f]=some (.ro 4 ((spl x a.toNat c.toNat y).map cIt) g):=by
 obtain ⟨a,rfl⟩:∃ n:Nat,a=n:=⟨a.toNat,by omega⟩
 obtain ⟨c,rfl⟩:∃ n:Nat,c=n:=⟨c.toNat,by omega⟩
 have ht:totX [(x.take a,e&&decide (a=x.length)),(y,f),(x.drop (a+c),e)]≤1000000:=by simp [totX];omega
 have hc:∃ g,∀ b,FnW C 531 [.ro 1 ([(x.take a,e&&decide (a=x.length)),(y,f),(x.drop (a+c),e)].map eXs) b]=some (.ro 4 ((spl x a c y).map cIt) g):=by
  obtain ⟨g,hg⟩:=cat_ok H [(x.take a,e&&decide (a=x.length)),(y,f),(x.drop (a+c),e)] (by simp) ht
  refine ⟨g,fun b=>?_⟩
  rw [hg]
  simp [flatX,spl]
 obtain ⟨g,hc⟩:=hc
 refine ⟨g,?_⟩
 rw [fnW_eq H.f458 rfl]
 have h1:a≤x.length:=by omega
 have h2:a+c≤x.length:=by omega
 have hT:List.take x.length (List.map cIt x)=List.map cIt x:=List.take_of_length_le (by simp)
 simp at hc
 simp (disch:=omega) [w458,h1,h2,hT,hc,wI64,H.inl,inlB,H.pp,ppB]
structure HasMn (C:WProg):Prop extends HasPu C,HasK C where
 f337:C.fns.get 337=some w337
 f334:C.fns.get 334=some w334
 f338:C.fns.get 338=some w338
 f335:C.fns.get 335=some w335
 f456:C.fns.get 456=some w456
structure RgN (n:Nt):Prop where
 a:-9223372036854775808≤n.a∧n.a≤9223372036854775807
 c:-9223372036854775808≤n.c∧n.c≤9223372036854775807
def idB (n:Nt):Bool:=if n.k=1∨n.k=4 then decide (n.x.length=0) else if n.k=2 then decide (n.c=0) else if n.k=3 then (decide (n.t=n.a)||decide (n.c=0)) else false
def mrgN (m n:Nt):Option Nt :=
 if m.k=1∧n.k=1 then (if 0≤m.a∧m.a≤n.a∧n.a - m.a≤m.x.length then some ⟨1,m.a,0,0,spl m.x (n.a - m.a).toNat 0 n.x,true⟩ else none)
 else if m.k=2∧n.k=2 then (if 0≤m.c∧0≤n.c∧0≤n.a∧n.a≤m.a∧m.a - n.a≤n.c∧m.c+n.c≤9223372036854775807 then some ⟨2,n.a,m.c+n.c,0,[],true⟩ else none)
 else if m.k=5∧n.k=1 then (if inR n.a 0 m.x.length=true then some ⟨5,0,0,0,spl m.x n.a.toNat 0 n.x,true⟩ else none)
 else if m.k=5∧n.k=2 then (if inR n.a n.c m.x.length=true then some ⟨5,0,0,0,spl m.x n.a.toNat n.c.toNat [],true⟩ else none)
 else if m.k=5∧n.k=4 then (if inR n.a n.x.length m.x.length=true then some ⟨5,0,0,0,spl m.x n.a.toNat n.x.length n.x,true⟩ else none)
 else none
def Nt.st (n:Nt):Nt:={ n with e:=true }
theorem ntE_k {n:Nt} (h:ntE n=0):n.k=1∨n.k=2∨n.k=3∨n.k=4∨n.k=5:=by
 unfold ntE at h
 split at h
 · simp at h
 · omega
theorem idle_ok (H:HasMn C) (n:Nt) (h:ntE n=0):FnW C 337 [.agg (eNt n)]=some (.bool (idB n)):=by
 have hk:=ntE_k h
 obtain ⟨k,a,c,t,x,e⟩:=n
 simp only at hk
 rw [fnW_eq H.f337 rfl]
 unfold idB
 rcases hk with rfl | rfl | rfl | rfl | rfl
 · by_cases c1:x=[]
   · simp [w337,c1,wI64,H.inl,inlB,H.pp,ppB]
   · simp [w337,c1,wI64,H.inl,inlB,H.pp,ppB]
 · by_cases c1:c=0
   · simp [w337,c1,wI64,H.inl,inlB,H.pp,ppB]
   · simp [w337,c1,wI64,H.inl,inlB,H.pp,ppB]
 · by_cases c1:t=a
   · simp [w337,c1,wI64,H.inl,inlB,H.pp,ppB]
   · by_cases c2:c=0
     · simp [w337,c1,c2,wI64,H.inl,inlB,H.pp,ppB]
     · simp [w337,c1,c2,wI64,H.inl,inlB,H.pp,ppB]
 · by_cases c1:x=[]
   · simp [w337,c1,wI64,H.inl,inlB,H.pp,ppB]
   · simp [w337,c1,wI64,H.inl,inlB,H.pp,ppB]
 · simp [w337,wI64,H.inl,inlB,H.pp,ppB]
theorem nothing_ok (H:HasMn C) (n:Nt) (h:ntE n=0):FnW C 334 [.agg (eNt n)]=some (.int .i64 (if idB n=true then 1 else 0)):=by
 have hk:=ntE_k h
 obtain ⟨k,a,c,t,x,e⟩:=n
 simp only at hk
 rw [fnW_eq H.f334 rfl]
 unfold idB
 rcases hk with rfl | rfl | rfl | rfl | rfl
 · by_cases c1:x=[]
   · simp [w334,c1,wI64,H.inl,inlB,H.pp,ppB]
   · simp [w334,c1,wI64,H.inl,inlB,H.pp,ppB]
 · by_cases c1:c=0
   · simp [w334,c1,wI64,H.inl,inlB,H.pp,ppB]
   · simp [w334,c1,wI64,H.inl,inlB,H.pp,ppB]
 · by_cases c1:c=0
   · simp [w334,c1,wI64,H.inl,inlB,H.pp,ppB]
   · by_cases c2:t=a
     · simp [w334,c1,c2,wI64,H.inl,inlB,H.pp,ppB]
     · simp [w334,c1,c2,wI64,H.inl,inlB,H.pp,ppB]
 · by_cases c1:x=[]
   · simp [w334,c1,wI64,H.inl,inlB,H.pp,ppB]
   · simp [w334,c1,wI64,H.inl,inlB,H.pp,ppB]
 · simp [w334,wI64,H.inl,inlB,H.pp,ppB]
theorem wI64o {x:Int} (h1:9223372036854775808≤x) (h2:x < 18446744073709551616):IntKind.i64.wrap x=x - 18446744073709551616:=by
 show (if (true&&decide (x % 18446744073709551616 ≥ 9223372036854775808))=true then x % 18446744073709551616 - 18446744073709551616 else x % 18446744073709551616)=x - 18446744073709551616
 simp only [Bool.true_and,decide_eq_true_eq]
 split <;> omega
theorem inR_yes {a c n:Int} (h:0≤a∧a≤n∧0≤c∧c≤n - a):inR a c n=true:=by
 unfold inR
 rw [decide_eq_true h.1,decide_eq_true h.2.1,decide_eq_true h.2.2.1,decide_eq_true h.2.2.2];rfl
theorem inR_no {a c n:Int} (h:¬ (0≤a∧a≤n∧0≤c∧c≤n - a)):¬ (inR a c n=true):=by
 intro q
 unfold inR at q
 simp only [Bool.and_eq_true,decide_eq_true_eq] at q
 exact h ⟨q.1.1.1,q.1.1.2,q.1.2,q.2⟩
def IsM (m n:Nt) (r:Nt) (b:Bool):Prop:=(b=true→mrgN m n=some r.st)∧(b=false→mrgN m n=none)
theorem merged_ok (H:HasMn C) (m n:Nt) (hm:ntE m=0) (hn:ntE n=0) (rm:RgN m) (rn:RgN n) (lm:m.x.length≤100000) (ln:n.x.length≤100000) :
 ∃ (r:Nt) (b:Bool),FnW C 338 [.agg (eNt m),.agg (eNt n)]=some (.tup [.agg (eNt r),.bool b])∧IsM m n r b:=by
 have hk1:=ntE_k hm
 have hk2:=ntE_k hn
 obtain ⟨k1,a1,c1,t1,x1,e1⟩:=m
 obtain ⟨k2,a2,c2,t2,x2,e2⟩:=n
 obtain ⟨⟨ra1,ra2⟩,rc1,rc2⟩:=rm
 obtain ⟨⟨rb1,rb2⟩,rd1,rd2⟩:=rn
 simp only at hk1 hk2 lm ln ra1 ra2 rb1 rb2 rc1 rc2 rd1 rd2
 rw [fnW_eq H.f338 rfl]
 have no:∀ (P:Prop),(mrgN ⟨k1,a1,c1,t1,x1,e1⟩ ⟨k2,a2,c2,t2,x2,e2⟩=none)→∀ X:Option AV,X=some (.tup [.agg (eNt ⟨k1,a1,c1,t1,x1,e1⟩),.bool false])→∃ (r:Nt) (b:Bool),X=some (.tup [.agg (eNt r),.bool b])∧IsM ⟨k1,a1,c1,t1,x1,e1⟩ ⟨k2,a2,c2,t2,x2,e2⟩ r b:=by
  intro _ h X hX
  exact ⟨_,false,hX,by simp,fun _=>h⟩
 rcases hk1 with rfl | rfl | rfl | rfl | rfl
 · rcases hk2 with rfl | rfl | rfl | rfl | rfl
   · have h1:c1=0∧t1=0:=by
      by_cases u:c1=0
      · by_cases v:t1=0
        · exact ⟨u,v⟩
        · simp [ntE,u,v] at hm
      · simp [ntE,u] at hm
     obtain ⟨rfl,rfl⟩:=h1
     by_cases q1:a1 < 0
     · exact no True (by unfold mrgN;rw [if_pos (by simp),if_neg (by simp only;omega)]) _ (by simp (disch:=omega) [w338,q1,wI64,H.inl,inlB,H.pp,ppB])
     · by_cases q2:a2 < a1
       · exact no True (by unfold mrgN;rw [if_pos (by simp),if_neg (by simp only;omega)]) _ (by simp (disch:=omega) [w338,q1,q2,wI64,H.inl,inlB,H.pp,ppB])
       · by_cases q3:(x1.length:Int) < a2 - a1
         · exact no True (by unfold mrgN;rw [if_pos (by simp),if_neg (by simp only;omega)]) _ (by simp (disch:=omega) [w338,q1,q2,q3,wI64,H.inl,inlB,H.pp,ppB])
         · obtain ⟨g,hp⟩:=put_ok H.toHasPu x1 e1 (a2 - a1) 0 x2 e2 (by omega) lm ln
           refine ⟨⟨1,a1,0,0,spl x1 (a2 - a1).toNat 0 x2,g⟩,true,?_,fun _=>?_,by simp⟩
           · simp at hp
             simp (disch:=omega) [w338,q1,q2,q3,hp,wI64,H.inl,inlB,H.pp,ppB]
           · unfold mrgN
             rw [if_pos (by simp),if_pos (by simp only;omega)]
             rfl
   · exact no True (by simp [mrgN]) _ (by simp [w338,wI64,H.inl,inlB,H.pp,ppB])
   · exact no True (by simp [mrgN]) _ (by simp [w338,wI64,H.inl,inlB,H.pp,ppB])
   · exact no True (by simp [mrgN]) _ (by simp [w338,wI64,H.inl,inlB,H.pp,ppB])
   · exact no True (by simp [mrgN]) _ (by simp [w338,wI64,H.inl,inlB,H.pp,ppB])
 · rcases hk2 with rfl | rfl | rfl | rfl | rfl
   · exact no True (by simp [mrgN]) _ (by simp [w338,wI64,H.inl,inlB,H.pp,ppB])
   · have h2:t2=0∧x2=[]:=by
      by_cases u:t2=0
      · by_cases v:x2=[]
        · exact ⟨u,v⟩
        · simp [ntE,u,v] at hn
      · simp [ntE,u] at hn
     obtain ⟨rfl,rfl⟩:=h2
     have nn:¬ (0≤c1∧0≤c2∧0≤a2∧a2≤a1∧a1 - a2≤c2∧c1+c2≤9223372036854775807)→mrgN ⟨2,a1,c1,t1,x1,e1⟩ ⟨2,a2,c2,0,[],e2⟩=none:=by
      intro h
      unfold mrgN
      rw [if_neg (by simp),if_pos (by simp),if_neg h]
     by_cases q1:c1 < 0
     · exact no True (nn (by omega)) _ (by simp (disch:=omega) [w338,q1,wI64,H.inl,inlB,H.pp,ppB])
     · by_cases q2:c2 < 0
       · exact no True (nn (by omega)) _ (by simp (disch:=omega) [w338,q1,q2,wI64,H.inl,inlB,H.pp,ppB])
       · by_cases q3:a2 < 0
         · exact no True (nn (by omega)) _ (by simp (disch:=omega) [w338,q1,q2,q3,wI64,H.inl,inlB,H.pp,ppB])
         · by_cases q4:a1 < a2
           · exact no True (nn (by omega)) _ (by simp (disch:=omega) [w338,q1,q2,q3,q4,wI64,H.inl,inlB,H.pp,ppB])
           · by_cases q5:c2 < a1 - a2
             · exact no True (nn (by omega)) _ (by simp (disch:=omega) [w338,q1,q2,q3,q4,q5,wI64,H.inl,inlB,H.pp,ppB])
             · by_cases q6:c1+c2≤9223372036854775807
               · have q7:¬ (c1+c2 < 0):=by omega
                 refine ⟨⟨2,a2,c1+c2,0,[],true⟩,true,?_,fun _=>?_,by simp⟩
                 · simp (disch:=omega) [w338,q1,q2,q3,q4,q5,q7,wI64,H.inl,inlB,H.pp,ppB]
                 · unfold mrgN
                   rw [if_neg (by simp),if_pos (by simp),if_pos (by simp only;omega)]
                   rfl
               · have q7:c1+c2 - 18446744073709551616 < 0:=by omega
                 have q8:IntKind.i64.wrap (c1+c2)=c1+c2 - 18446744073709551616:=wI64o (by omega) (by omega)
                 exact no True (nn (by omega)) _ (by simp (disch:=omega) [w338,q1,q2,q3,q4,q5,q7,q8,wI64,H.inl,inlB,H.pp,ppB])
   · exact no True (by simp [mrgN]) _ (by simp [w338,wI64,H.inl,inlB,H.pp,ppB])
   · exact no True (by simp [mrgN]) _ (by simp [w338,wI64,H.inl,inlB,H.pp,ppB])
   · exact no True (by simp [mrgN]) _ (by simp [w338,wI64,H.inl,inlB,H.pp,ppB])
 · rcases hk2 with rfl | rfl | rfl | rfl | rfl
   all_goals exact no True (by simp [mrgN]) _ (by simp [w338,wI64,H.inl,inlB,H.pp,ppB])
 · rcases hk2 with rfl | rfl | rfl | rfl | rfl
   all_goals exact no True (by simp [mrgN]) _ (by simp [w338,wI64,H.inl,inlB,H.pp,ppB])
 · rcases hk2 with rfl | rfl | rfl | rfl | rfl
   · have z0:True:=trivial
     have h1:a1=0∧c1=0∧t1=0:=by
      by_cases u:a1=0
      · by_cases v:c1=0
        · by_cases w:t1=0
          · exact ⟨u,v,w⟩
          · simp [ntE,u,v,w] at hm
        · simp [ntE,u,v] at hm
      · simp [ntE,u] at hm
     obtain ⟨rfl,rfl,rfl⟩:=h1
     by_cases q1:a2 < 0
     · exact no True (by unfold mrgN;rw [if_neg (by simp),if_neg (by simp),if_pos (by simp),if_neg (inR_no (by simp only;omega))]) _ (by simp (disch:=omega) [w338,q1,wI64,H.inl,inlB,H.pp,ppB])
     · by_cases q2:(x1.length:Int) < a2
       · exact no True (by unfold mrgN;rw [if_neg (by simp),if_neg (by simp),if_pos (by simp),if_neg (inR_no (by simp only;omega))]) _ (by simp (disch:=omega) [w338,q1,q2,wI64,H.inl,inlB,H.pp,ppB])
       · by_cases q3:(0:Int) < 0
         · exact no True (by unfold mrgN;rw [if_neg (by simp),if_neg (by simp),if_pos (by simp),if_neg (inR_no (by simp only;omega))]) _ (by simp (disch:=omega) [w338,q1,q2,q3,wI64,H.inl,inlB,H.pp,ppB])
         · by_cases q4:x1.length - a2 < (0:Int)
           · exact no True (by unfold mrgN;rw [if_neg (by simp),if_neg (by simp),if_pos (by simp),if_neg (inR_no (by simp only;omega))]) _ (by simp (disch:=omega) [w338,q1,q2,q3,q4,wI64,H.inl,inlB,H.pp,ppB])
           · obtain ⟨g,hp⟩:=put_ok H.toHasPu x1 e1 a2 (0:Int) x2 e2 (by omega) lm ln
             refine ⟨⟨5,0,0,0,spl x1 a2.toNat 0 x2,g⟩,true,?_,fun _=>?_,by simp⟩
             · simp at hp
               simp (disch:=omega) [w338,q1,q2,q3,q4,hp,wI64,H.inl,inlB,H.pp,ppB]
             · unfold mrgN
               rw [if_neg (by simp),if_neg (by simp),if_pos (by simp),if_pos (inR_yes (by simp only;omega))]
               rfl
   · have z0:True:=trivial
     have h1:a1=0∧c1=0∧t1=0:=by
      by_cases u:a1=0
      · by_cases v:c1=0
        · by_cases w:t1=0
          · exact ⟨u,v,w⟩
          · simp [ntE,u,v,w] at hm
        · simp [ntE,u,v] at hm
      · simp [ntE,u] at hm
     obtain ⟨rfl,rfl,rfl⟩:=h1
     have h2:t2=0∧x2=[]:=by
      by_cases u:t2=0
      · by_cases v:x2=[]
        · exact ⟨u,v⟩
        · simp [ntE,u,v] at hn
      · simp [ntE,u] at hn
     obtain ⟨rfl,rfl⟩:=h2
     by_cases q1:a2 < 0
     · exact no True (by unfold mrgN;rw [if_neg (by simp),if_neg (by simp),if_neg (by simp),if_pos (by simp),if_neg (inR_no (by simp only;omega))]) _ (by simp (disch:=omega) [w338,q1,wI64,H.inl,inlB,H.pp,ppB])
     · by_cases q2:(x1.length:Int) < a2
       · exact no True (by unfold mrgN;rw [if_neg (by simp),if_neg (by simp),if_neg (by simp),if_pos (by simp),if_neg (inR_no (by simp only;omega))]) _ (by simp (disch:=omega) [w338,q1,q2,wI64,H.inl,inlB,H.pp,ppB])
       · by_cases q3:c2 < 0
         · exact no True (by unfold mrgN;rw [if_neg (by simp),if_neg (by simp),if_neg (by simp),if_pos (by simp),if_neg (inR_no (by simp only;omega))]) _ (by simp (disch:=omega) [w338,q1,q2,q3,wI64,H.inl,inlB,H.pp,ppB])
         · by_cases q4:x1.length - a2 < c2
           · exact no True (by unfold mrgN;rw [if_neg (by simp),if_neg (by simp),if_neg (by simp),if_pos (by simp),if_neg (inR_no (by simp only;omega))]) _ (by simp (disch:=omega) [w338,q1,q2,q3,q4,wI64,H.inl,inlB,H.pp,ppB])
           · obtain ⟨g,hp⟩:=put_ok H.toHasPu x1 e1 a2 c2 [] e2 (by omega) lm ln
             refine ⟨⟨5,0,0,0,spl x1 a2.toNat c2.toNat [],g⟩,true,?_,fun _=>?_,by simp⟩
             · simp at hp
               simp (disch:=omega) [w338,q1,q2,q3,q4,hp,wI64,H.inl,inlB,H.pp,ppB]
             · unfold mrgN
               rw [if_neg (by simp),if_neg (by simp),if_neg (by simp),if_pos (by simp),if_pos (inR_yes (by simp only;omega))]
               rfl
   · exact no True (by simp [mrgN]) _ (by simp [w338,wI64,H.inl,inlB,H.pp,ppB])
   · have z0:True:=trivial
     have h1:a1=0∧c1=0∧t1=0:=by
      by_cases u:a1=0
      · by_cases v:c1=0
        · by_cases w:t1=0
          · exact ⟨u,v,w⟩
          · simp [ntE,u,v,w] at hm
        · simp [ntE,u,v] at hm
      · simp [ntE,u] at hm
     obtain ⟨rfl,rfl,rfl⟩:=h1
     by_cases q1:a2 < 0
     · exact no True (by unfold mrgN;rw [if_neg (by simp),if_neg (by simp),if_neg (by simp),if_neg (by simp),if_pos (by simp),if_neg (inR_no (by simp only;omega))]) _ (by simp (disch:=omega) [w338,q1,wI64,H.inl,inlB,H.pp,ppB])
     · by_cases q2:(x1.length:Int) < a2
       · exact no True (by unfold mrgN;rw [if_neg (by simp),if_neg (by simp),if_neg (by simp),if_neg (by simp),if_pos (by simp),if_neg (inR_no (by simp only;omega))]) _ (by simp (disch:=omega) [w338,q1,q2,wI64,H.inl,inlB,H.pp,ppB])
       · by_cases q3:(x2.length:Int) < 0
         · exact no True (by unfold mrgN;rw [if_neg (by simp),if_neg (by simp),if_neg (by simp),if_neg (by simp),if_pos (by simp),if_neg (inR_no (by simp only;omega))]) _ (by simp (disch:=omega) [w338,q1,q2,q3,wI64,H.inl,inlB,H.pp,ppB])
         · by_cases q4:x1.length - a2 < (x2.length:Int)
           · exact no True (by unfold mrgN;rw [if_neg (by simp),if_neg (by simp),if_neg (by simp),if_neg (by simp),if_pos (by simp),if_neg (inR_no (by simp only;omega))]) _ (by simp (disch:=omega) [w338,q1,q2,q3,q4,wI64,H.inl,inlB,H.pp,ppB])
           · obtain ⟨g,hp⟩:=put_ok H.toHasPu x1 e1 a2 (x2.length:Int) x2 e2 (by omega) lm ln
             refine ⟨⟨5,0,0,0,spl x1 a2.toNat x2.length x2,g⟩,true,?_,fun _=>?_,by simp⟩
             · simp at hp
               simp (disch:=omega) [w338,q1,q2,q3,q4,hp,wI64,H.inl,inlB,H.pp,ppB]
             · unfold mrgN
               rw [if_neg (by simp),if_neg (by simp),if_neg (by simp),if_neg (by simp),if_pos (by simp),if_pos (inR_yes (by simp only;omega))]
               rfl
   · exact no True (by simp [mrgN]) _ (by simp [w338,wI64,H.inl,inlB,H.pp,ppB])
end Go.D
end
section
namespace Go.D
open Go Go.Pav Go.Pw P
set_option maxHeartbeats 1000000
def mrgS (M:List Nt) (n:Nt):List Nt :=
 if idB n=true then M else if n.k=5 then [n] else match M.getLast? with
  | none=>[n]
  | some m=>match mrgN m n with
   | some r=>M.dropLast++[r]
   | none=>M++[n]
def mrgF:List Nt→List Nt→List Nt
 | M,[]=>M
 | M,n::r=>mrgF (mrgS M n) r
theorem spl_cat {α:Type} {a c:Nat} {P Q S X:List α} (h:P.length=a) (h2:Q.length=c):spl (P++(Q++S)) a c X=P++(X++S):=by
 subst h;subst h2
 unfold spl
 rw [List.take_left',← List.append_assoc P Q S,← List.length_append,List.drop_left',List.append_assoc]
 · rfl
 · rfl
theorem split3 {α:Type} (l:List α) (a c:Nat) (h:a+c≤l.length):∃ P Q S,l=P++(Q++S)∧P.length=a∧Q.length=c :=
 ⟨l.take a,(l.drop a).take c,(l.drop a).drop c,by rw [List.take_append_drop,List.take_append_drop],by rw [List.length_take];omega,by rw [List.length_take,List.length_drop];omega⟩
theorem spl_ins {α:Type} {l X Y:List α} {a d:Nat} (h:a≤l.length) (hd:d≤X.length):spl (spl l a 0 X) (a+d) 0 Y=spl l a 0 (spl X d 0 Y):=by
 obtain ⟨P,Q,S,rfl,h1,h2⟩:=split3 l a 0 (by omega)
 obtain ⟨U,V,W,rfl,h3,h4⟩:=split3 X d 0 (by omega)
 obtain rfl:Q=[]:=List.eq_nil_of_length_eq_zero h2
 obtain rfl:V=[]:=List.eq_nil_of_length_eq_zero h4
 have e1:spl (P++([]++S)) a 0 (U++([]++W))=P++((U++([]++W))++S):=spl_cat h1 h2
 have e2:spl (U++([]++W)) d 0 Y=U++(Y++W):=spl_cat h3 h4
 rw [e1,e2,spl_cat h1 h2]
 have e3:P++((U++([]++W))++S)=(P++U)++([]++(W++S)):=by simp
 rw [e3,spl_cat (by rw [List.length_append,h1,h3]) h2]
 simp
theorem spl_del {α:Type} {l:List α} {a1 c1 a2 c2:Nat} (h1:a1+c1≤l.length) (h2:a2≤a1) (h3:a1≤a2+c2) (h4:a2+c2+c1≤l.length):spl (spl l a1 c1 []) a2 c2 []=spl l a2 (c1+c2) []:=by
 obtain ⟨A,B',S,rfl,q1,q2⟩:=split3 l a2 (c1+c2) (by omega)
 obtain ⟨B,C,D,rfl,q3,q4⟩:=split3 B' (a1 - a2) c1 (by omega)
 have q5:D.length=c2 - (a1 - a2):=by simp at q2;omega
 rw [spl_cat q1 q2]
 have e:A++((B++(C++D))++S)=(A++B)++(C++(D++S)):=by simp
 rw [e,spl_cat (by rw [List.length_append];omega) q4]
 have e2:A++B++([]++(D++S))=A++((B++D)++S):=by simp
 rw [e2,spl_cat q1 (by rw [List.length_append];omega)]
theorem en_it {ks:List Kd} {cap:Int} {e:En} (h:enE ks cap e false=0):itE ks cap e.i false=0:=by
 unfold enE at h
 by_cases q:itE ks cap e.i false=0
 · exact q
 · rw [if_pos q] at h;exact h
theorem ap_ins {ks:List Kd} {cap:Int} {l:List En} {a:Int} {X:List It} {e:Bool} (ha:0≤a∧a≤l.length) (hc:ckE ks cap (spl l a.toNat 0 (X.map (fre ks)))=0):apE ks cap l ⟨1,a,0,0,X,e⟩=0:=by
 obtain ⟨h1,h2,h3,h4,h5⟩:=(ck_iff ks cap _).1 hc
 have hp:=spl_perm l a.toNat (X.map (fre ks))
 unfold apE
 have e0:ntE ⟨1,a,0,0,X,e⟩=0:=by simp [ntE]
 have e1:apF ks cap l ⟨1,a,0,0,X,e⟩=0:=by
  unfold apF
  rw [if_pos rfl,if_neg (by rw [inR_yes (by simp only;omega)];simp),if_neg (by have:=hp.length_eq;simp at this;simp only;omega)]
  refine (inc_iff ks cap X _).2 ⟨fun y hy=>⟨?_,?_⟩,?_⟩
  · exact en_it (h3 (fre ks y) (hp.mem_iff.2 (List.mem_append_left _ (List.mem_map.2 ⟨y,hy,rfl⟩))))
  · have hn:=(hp.map (fun e=>e.i.k)).nodup_iff.1 h4
    rw [List.map_append,List.nodup_append] at hn
    intro hk
    exact hn.2.2 y.k (by rw [List.map_map];exact List.mem_map.2 ⟨y,hy,rfl⟩) y.k hk rfl
  · have hn:=(hp.map (fun e=>e.i.k)).nodup_iff.1 h4
    rw [List.map_append,List.nodup_append,List.map_map] at hn
    exact hn.1
 rw [e0,if_neg (by simp),e1,if_neg (by simp)]
 unfold apL
 rw [if_pos rfl]
 exact h5
theorem ap_del {ks:List Kd} {cap:Int} {l:List En} {a c:Int} {e:Bool} (ha:0≤a∧0≤c∧a+c≤l.length) (ho:ovE (spl l a.toNat c.toNat [])=0):apE ks cap l ⟨2,a,c,0,[],e⟩=0:=by
 unfold apE
 have e0:ntE ⟨2,a,c,0,[],e⟩=0:=by simp [ntE]
 have e1:apF ks cap l ⟨2,a,c,0,[],e⟩=0:=by
  unfold apF
  rw [if_neg (by simp),if_pos rfl,if_neg (by rw [inR_yes (by simp only;omega)];simp)]
 rw [e0,if_neg (by simp),e1,if_neg (by simp)]
 unfold apL
 rw [if_neg (by simp),if_pos rfl]
 exact ho
theorem ap_res {ks:List Kd} {cap:Int} {l:List En} {X:List It} {e:Bool} (hc:ckE ks cap (X.map (fre ks))=0):apE ks cap l ⟨5,0,0,0,X,e⟩=0:=by
 obtain ⟨h1,h2,h3,h4,h5⟩:=(ck_iff ks cap _).1 hc
 unfold apE
 have e0:ntE ⟨5,0,0,0,X,e⟩=0:=by simp [ntE]
 have e1:apF ks cap l ⟨5,0,0,0,X,e⟩=0:=by
  unfold apF
  rw [if_neg (by simp),if_neg (by simp),if_neg (by simp),if_neg (by simp),if_neg (by simp at h2;simp only;omega)]
  refine (inc_iff ks cap X _).2 ⟨fun y hy=>⟨?_,by simp⟩,?_⟩
  · exact en_it (h3 (fre ks y) (List.mem_map.2 ⟨y,hy,rfl⟩))
  · unfold keysE at h4
    rw [List.map_map] at h4
    exact h4
 rw [e0,if_neg (by simp),e1,if_neg (by simp)]
 unfold apL
 rw [if_neg (by simp),if_neg (by simp),if_neg (by simp),if_neg (by simp)]
 exact h5
theorem spl_0 {α:Type} (l:List α) (a:Nat):spl l a 0 []=l:=by unfold spl;simp
theorem idle_ap {ks:List Kd} {cap:Int} {l:List En} {n:Nt} (h:idB n=true) (hE:apE ks cap l n=0):apL ks l n=l:=by
 have hi:=ins_of hE
 have hk:=hi.k
 unfold idB at h
 unfold apL
 by_cases k1:n.k=1
 · rw [if_pos (.inl k1)] at h
   have hx0:n.x=[]:=List.eq_nil_of_length_eq_zero (by simpa using h)
   rw [if_pos k1,hx0,List.map_nil,spl_0]
 · rw [if_neg k1]
   by_cases k2:n.k=2
   · rw [if_neg (by omega),if_pos k2] at h
     have hc0:n.c=0:=by simpa using h
     rw [if_pos k2,hc0]
     exact spl_0 _ _
   · rw [if_neg k2]
     by_cases k3:n.k=3
     · rw [if_neg (by omega),if_neg k2,if_pos k3] at h
       rw [if_pos k3]
       have ha:=hi.a (by omega)
       have hc:=hi.c (.inr k3)
       obtain ⟨P,Q,S,hl,h1,h2⟩:=split3 l n.a.toNat n.c.toNat (by omega)
       have e1:(l.take (n.a.toNat+n.c.toNat)).drop n.a.toNat=Q:=by
        rw [hl,← List.append_assoc,List.take_left' (by rw [List.length_append];omega),List.drop_left' h1]
       have e2:spl l n.a.toNat n.c.toNat []=P++([]++S):=by rw [hl];exact spl_cat h1 h2
       rw [e1,e2]
       by_cases c0:n.c=0
       · have:Q=[]:=List.eq_nil_of_length_eq_zero (by omega)
         subst this
         rw [spl_0,hl]
       · have ht:n.t=n.a:=by
          simp only [c0,decide_false,Bool.or_false,decide_eq_true_eq] at h
          exact h
         have e3:spl (P++([]++S)) n.a.toNat 0 Q=P++(Q++S):=spl_cat h1 rfl
         rw [ht,e3,hl]
     · rw [if_neg k3]
       by_cases k4:n.k=4
       · rw [if_pos (.inr k4)] at h
         have:n.x=[]:=List.eq_nil_of_length_eq_zero (by simpa using h)
         rw [if_pos k4,this,List.map_nil,List.length_nil,spl_0]
       · rw [if_neg (by omega),if_neg k2,if_neg k3] at h
         simp at h
theorem mrg_sound {ks:List Kd} {cap:Int} {l:List En} {m n r:Nt} (hm:NtIn ks m) (hn:NtIn ks n) (hc:ckE ks cap l=0) (h1:apE ks cap l m=0) (h2:apE ks cap (apL ks l m) n=0) (hr:mrgN m n=some r) :
 apE ks cap l r=0∧apL ks l r=apL ks (apL ks l m) n:=by
 have c1:=ap_ck hm hc h1
 have c2:=ap_ck hn c1 h2
 have i1:=ins_of h1
 have i2:=ins_of h2
 obtain ⟨_,_,_,_,ho⟩:=(ck_iff ks cap _).1 c2
 unfold mrgN at hr
 split at hr
 · rename_i hk
   split at hr
   · rename_i hq
     simp only [Option.some.injEq] at hr
     subst hr
     have ha1:=i1.a (by omega)
     have e1:apL ks l m=spl l m.a.toNat 0 (m.x.map (fre ks)):=by unfold apL;rw [if_pos hk.1]
     have e2:apL ks (apL ks l m) n=spl l m.a.toNat 0 ((spl m.x (n.a - m.a).toNat 0 n.x).map (fre ks)):=by
      rw [e1]
      have:apL ks (spl l m.a.toNat 0 (m.x.map (fre ks))) n=spl (spl l m.a.toNat 0 (m.x.map (fre ks))) n.a.toNat 0 (n.x.map (fre ks)):=by unfold apL;rw [if_pos hk.2]
      rw [this,show n.a.toNat=m.a.toNat+(n.a - m.a).toNat by omega,spl_ins (by omega) (by rw [List.length_map];omega),spl_map]
     have e3:apL ks l ⟨1,m.a,0,0,spl m.x (n.a - m.a).toNat 0 n.x,true⟩=spl l m.a.toNat 0 ((spl m.x (n.a - m.a).toNat 0 n.x).map (fre ks)):=by unfold apL;rw [if_pos rfl]
     rw [e2] at c2 ⊢
     exact ⟨ap_ins (by omega) c2,e3⟩
   · simp at hr
 · split at hr
   · rename_i hk
     split at hr
     · rename_i hq
       simp only [Option.some.injEq] at hr
       subst hr
       have ha1:=i1.a (by omega)
       have hc1:=i1.c (.inl hk.1)
       have ha2:=i2.a (by omega)
       have hc2:=i2.c (.inl hk.2)
       have e1:apL ks l m=spl l m.a.toNat m.c.toNat []:=by unfold apL;rw [if_neg (by omega),if_pos hk.1]
       have hl:(apL ks l m).length=l.length - m.c.toNat:=by rw [e1];unfold spl;simp;omega
       have e2:apL ks (apL ks l m) n=spl l n.a.toNat (m.c+n.c).toNat []:=by
        have:apL ks (apL ks l m) n=spl (apL ks l m) n.a.toNat n.c.toNat []:=by
         show (if n.k=1 then _ else if n.k=2 then _ else _)=_
         rw [if_neg (by omega),if_pos hk.2]
        rw [this,e1,spl_del (by omega) (by omega) (by omega) (by omega),show (m.c+n.c).toNat=m.c.toNat+n.c.toNat by omega]
       have e3:apL ks l ⟨2,n.a,m.c+n.c,0,[],true⟩=spl l n.a.toNat (m.c+n.c).toNat []:=by unfold apL;rw [if_neg (by simp),if_pos rfl]
       rw [e2] at ho ⊢
       exact ⟨ap_del (by omega) ho,e3⟩
     · simp at hr
   · have five:∀ (a c:Nat) (Y:List It),m.k=5→r=⟨5,0,0,0,spl m.x a c Y,true⟩→apL ks (m.x.map (fre ks)) n=spl (m.x.map (fre ks)) a c (Y.map (fre ks))→apE ks cap l r=0∧apL ks l r=apL ks (apL ks l m) n:=by
      intro a c Y hk hr he
      subst hr
      have e1:apL ks l m=m.x.map (fre ks):=by unfold apL;rw [if_neg (by omega),if_neg (by omega),if_neg (by omega),if_neg (by omega)]
      have e3:apL ks l ⟨5,0,0,0,spl m.x a c Y,true⟩=(spl m.x a c Y).map (fre ks):=by unfold apL;rw [if_neg (by simp),if_neg (by simp),if_neg (by simp),if_neg (by simp)]
      rw [e1,he,← spl_map] at c2
      rw [e1,he,← spl_map]
      exact ⟨ap_res c2,e3⟩
     split at hr
     · rename_i hk
       split at hr
       · simp only [Option.some.injEq] at hr
         exact five _ _ _ hk.1 hr.symm (by unfold apL;rw [if_pos hk.2])
       · simp at hr
     · split at hr
       · rename_i hk
         split at hr
         · simp only [Option.some.injEq] at hr
           exact five _ _ _ hk.1 hr.symm (by unfold apL;rw [if_neg (by omega),if_pos hk.2];rfl)
         · simp at hr
       · split at hr
         · rename_i hk
           split at hr
           · simp only [Option.some.injEq] at hr
             exact five _ _ _ hk.1 hr.symm (by unfold apL;rw [if_neg (by omega),if_neg (by omega),if_neg (by omega),if_pos hk.2])
           · simp at hr
         · simp at hr
def wN (x:List Nt):Nat:=(x.map (·.x.length)).sum
theorem wN_cons (n:Nt) (r:List Nt):wN (n::r)=n.x.length+wN r:=by simp [wN]
theorem wN_app (a b:List Nt):wN (a++b)=wN a+wN b:=by simp [wN]
theorem wN_mem {n:Nt} {x:List Nt} (h:n ∈ x):n.x.length≤wN x:=by
 induction x with
 | nil=>simp at h
 | cons a r ih =>
  rw [wN_cons]
  rcases List.mem_cons.1 h with rfl | h
  · omega
  · have:=ih h;omega
theorem spl_le {α:Type} (l:List α) (a c:Nat) (x:List α):(spl l a c x).length≤l.length+x.length:=by
 unfold spl
 simp
 omega
def QN (n:Nt):Prop:=∀ y ∈ n.x,ItIn y
theorem mrgN_q {m n r:Nt} (hm:QN m) (hn:QN n) (hr:mrgN m n=some r):QN r∧r.x.length≤m.x.length+n.x.length:=by
 have sp:∀ (a c:Nat) (Y:List It),(∀ y ∈ Y,ItIn y)→∀ y ∈ spl m.x a c Y,ItIn y:=fun a c Y hY y hy=>by
  rcases spl_mem hy with h | h
  · exact hm y h
  · exact hY y h
 unfold mrgN at hr
 split at hr
 · split at hr
   · simp only [Option.some.injEq] at hr;subst hr;exact ⟨sp _ _ _ hn,spl_le ..⟩
   · simp at hr
 · split at hr
   · split at hr
     · simp only [Option.some.injEq] at hr;subst hr;exact ⟨fun y hy=>by simp at hy,by simp⟩
     · simp at hr
   · split at hr
     · split at hr
       · simp only [Option.some.injEq] at hr;subst hr;exact ⟨sp _ _ _ hn,spl_le ..⟩
       · simp at hr
     · split at hr
       · split at hr
         · simp only [Option.some.injEq] at hr;subst hr
           exact ⟨sp _ _ _ (by simp),by have:=spl_le m.x n.a.toNat n.c.toNat [];simp at this;simp only;omega⟩
         · simp at hr
       · split at hr
         · split at hr
           · simp only [Option.some.injEq] at hr;subst hr;exact ⟨sp _ _ _ hn,spl_le ..⟩
           · simp at hr
         · simp at hr
theorem last_cases {α:Type} (M:List α):M=[]∨∃ M' m,M=M'++[m]:=by
 rcases List.eq_nil_or_concat M with h | ⟨M',m,h⟩
 · exact .inl h
 · exact .inr ⟨M',m,by simpa using h⟩
theorem mrgS_q {M:List Nt} {n:Nt} (hM:∀ m ∈ M,QN m) (hn:QN n):(∀ m ∈ mrgS M n,QN m)∧wN (mrgS M n)≤wN M+n.x.length∧(mrgS M n).length≤M.length+1:=by
 unfold mrgS
 split
 · exact ⟨hM,by omega,by omega⟩
 · split
   · exact ⟨fun m hm=>by simp only [List.mem_singleton] at hm;subst hm;exact hn,by simp [wN],by simp⟩
   · rcases last_cases M with rfl | ⟨M',m,rfl⟩
     · simp only [List.getLast?_nil]
       exact ⟨fun m hm=>by simp only [List.mem_singleton] at hm;subst hm;exact hn,by simp [wN],by simp⟩
     · simp only [List.getLast?_concat,List.dropLast_concat]
       have hm:=hM m (by simp)
       cases hr:mrgN m n with
       | none =>
        simp only
        refine ⟨fun u hu=>?_,by rw [wN_app _ [n]];simp [wN],by simp⟩
        rcases List.mem_append.1 hu with hu | hu
        · exact hM u hu
        · simp only [List.mem_singleton] at hu;subst hu;exact hn
       | some r =>
        obtain ⟨q1,q2⟩:=mrgN_q hm hn hr
        simp only
        refine ⟨fun u hu=>?_,?_,by simp⟩
        · rcases List.mem_append.1 hu with hu | hu
          · exact hM u (List.mem_append_left _ hu)
          · simp only [List.mem_singleton] at hu;subst hu;exact q1
        · rw [wN_app,wN_app]
          simp [wN] at q2 ⊢
          omega
theorem mrgS_sound {ks:List Kd} (hkb:∀ x:Int,-9223372036854775808≤(kdAt ks x).b∧(kdAt ks x).b≤9223372036854775807) {cap:Int} {l:List En} {M:List Nt} {n:Nt} (hM:∀ m ∈ M,QN m) (hn:QN n) (hw:wN M+n.x.length≤10000) (hc:ckE ks cap l=0) (h1:allE ks cap l M=0) (h2:apE ks cap (allL ks l M) n=0) :
 allE ks cap l (mrgS M n)=0∧allL ks l (mrgS M n)=apL ks (allL ks l M) n:=by
 have nt:∀ m,QN m→m.x.length≤10000→NtIn ks m:=fun m hq hl=>⟨hq,hl,fun y _ _=>hkb y.t⟩
 have hMn:∀ m ∈ M,NtIn ks m:=fun m hm=>nt m (hM m hm) (by have:=wN_mem hm;omega)
 have hnn:NtIn ks n:=nt n hn (by omega)
 have hcM:=all_ck M l hMn hc h1
 have hcN:=ap_ck hnn hcM h2
 unfold mrgS
 by_cases hi:idB n=true
 · rw [if_pos hi]
   exact ⟨h1,(idle_ap hi h2).symm⟩
 · rw [if_neg hi]
   by_cases h5:n.k=5
   · rw [if_pos h5]
     have e:∀ L,apL ks L n=n.x.map (fre ks):=fun L=>by unfold apL;rw [if_neg (by omega),if_neg (by omega),if_neg (by omega),if_neg (by omega)]
     have hE:apE ks cap l n=0:=by
      have hnt:ntE n=0:=by
       unfold apE at h2
       by_cases q:ntE n=0
       · exact q
       · rw [if_pos q] at h2;exact h2
      have hF:∀ L,apF ks cap L n=(if 1024 < (n.x.length:Int) then 3 else incE ks cap [] n.x):=fun L=>by unfold apF;rw [if_neg (by omega),if_neg (by omega),if_neg (by omega),if_neg (by omega)]
      unfold apE at h2 ⊢
      rw [hF,e] at h2 ⊢
      exact h2
     refine ⟨?_,?_⟩
     · simp only [allE,hE]
       simp
     · simp only [allL]
       rw [e,e]
   · rw [if_neg h5]
     rcases last_cases M with rfl | ⟨M',m,rfl⟩
     · simp only [List.getLast?_nil]
       simp only [allL] at h2 ⊢
       refine ⟨?_,by trivial⟩
       simp only [allE,h2]
       simp
     · simp only [List.getLast?_concat,List.dropLast_concat]
       rw [allE_app] at h1
       by_cases q:allE ks cap l M'=0
       · rw [if_neg (by simp [q])] at h1
         rw [allL_app] at h2 ⊢
         have hcM':=all_ck M' l (fun u hu=>hMn u (List.mem_append_left _ hu)) hc q
         have hm1:apE ks cap (allL ks l M') m=0:=by
          simp only [allE] at h1
          by_cases z:apE ks cap (allL ks l M') m=0
          · exact z
          · rw [if_pos z] at h1;exact h1
         have hm2:allL ks (allL ks l M') [m]=apL ks (allL ks l M') m:=rfl
         rw [hm2] at h2 ⊢
         cases hr:mrgN m n with
         | none =>
          simp only
          rw [List.append_assoc,allE_app,if_neg (by simp [q]),allL_app]
          have e2:([m]++[n]:List Nt)=[m,n]:=rfl
          rw [e2]
          refine ⟨?_,rfl⟩
          simp only [allE,hm1,h2]
          simp
         | some r =>
          obtain ⟨s1,s2⟩:=mrg_sound (hMn m (by simp)) hnn hcM' hm1 h2 hr
          simp only
          rw [allE_app,if_neg (by simp [q]),allL_app]
          refine ⟨?_,?_⟩
          · simp only [allE,s1]
            simp
          · rw [← s2];rfl
       · rw [if_pos q] at h1
         exact absurd h1 q
theorem mrgF_sound {ks:List Kd} (hkb:∀ x:Int,-9223372036854775808≤(kdAt ks x).b∧(kdAt ks x).b≤9223372036854775807) {cap:Int} {l:List En} (hc:ckE ks cap l=0):∀ (x M:List Nt),(∀ m ∈ M,QN m)→(∀ n ∈ x,QN n)→wN M+wN x≤10000→allE ks cap l M=0→allE ks cap (allL ks l M) x=0 →
 allE ks cap l (mrgF M x)=0∧allL ks l (mrgF M x)=allL ks (allL ks l M) x
 | [],M,_,_,_,h1,_=>⟨h1,rfl⟩
 | n::r,M,hM,hx,hw,h1,h2=>by
  rw [wN_cons] at hw
  have hn:=hx n (by simp)
  obtain ⟨q1,q2,_⟩:=mrgS_q hM hn
  simp only [allE] at h2
  by_cases z:apE ks cap (allL ks l M) n=0
  · rw [if_neg (by simp [z])] at h2
    obtain ⟨s1,s2⟩:=mrgS_sound hkb hM hn (by omega) hc h1 z
    rw [mrgF,allL,← s2]
    exact mrgF_sound hkb hc r (mrgS M n) q1 (fun u hu=>hx u (List.mem_cons_of_mem _ hu)) (by omega) s1 (by rw [s2];exact h2)
  · rw [if_pos z] at h2
    exact absurd h2 z
theorem mrgF_q:∀ (x M:List Nt),(∀ m ∈ M,QN m)→(∀ n ∈ x,QN n)→(∀ m ∈ mrgF M x,QN m)∧wN (mrgF M x)≤wN M+wN x∧(mrgF M x).length≤M.length+x.length
 | [],M,hM,_=>⟨hM,by simp [wN,mrgF],by simp [mrgF]⟩
 | n::r,M,hM,hx=>by
  obtain ⟨q1,q2,q3⟩:=mrgS_q hM (hx n (by simp))
  obtain ⟨p1,p2,p3⟩:=mrgF_q r (mrgS M n) q1 (fun u hu=>hx u (List.mem_cons_of_mem _ hu))
  rw [mrgF,wN_cons]
  exact ⟨p1,by omega,by simp;omega⟩
end Go.D
end
section
namespace Go.D
open Go Go.Pav Go.Pw P
set_option maxHeartbeats 1000000
attribute [-simp] List.getElem_cons_drop
variable {C:WProg}
structure HasMg (C:WProg):Prop extends HasMn C,HasNo C where
 f168:C.fns.get 168=some w168
 f3007:C.fns.get 3007=some w339
theorem wN_nil:wN ([]:List Nt)=0:=rfl
theorem wN_one (n:Nt):wN [n]=n.x.length:=by simp [wN]
theorem fit57a {n:Nat} (h:n≤1000000):n * 57≤35184372088832:=by omega
def ntX:List Nt→Int
 | []=>0
 | n::r=>if ntE n≠0 then ntE n else ntX r
def Nt.ow (n:Nt):Nt:={ n with x:=n.x.map It.own,e:=true }
structure PN (n:Nt):Prop where
 q:QN n
 r:RgN n
 e:ntE n=0
theorem mrgN_p {m n r:Nt} (hm:PN m) (hn:PN n) (hr:mrgN m n=some r):PN r:=by
 refine ⟨(mrgN_q hm.q hn.q hr).1,?_,?_⟩
 · have a1:=hm.r.a
   have a2:=hn.r.a
   unfold mrgN at hr
   repeat' split at hr
   all_goals first
    | (simp only [Option.some.injEq] at hr;subst hr;constructor <;> simp only <;> omega)
    | (simp at hr;done)
 · unfold mrgN at hr
   repeat' split at hr
   all_goals first
    | (simp only [Option.some.injEq] at hr;subst hr;simp [ntE];done)
    | (simp at hr;done)
theorem p_st {n:Nt} (h:PN n.st):PN n:=⟨h.q,⟨h.r.a,h.r.c⟩,h.e⟩
theorem mg_check (H:HasMg C) (x:List Nt) (xe:Bool) (hx:x.length≤1000) (R:Option AV)
 (hR:CK C 0 (pureFin [.tmp 2,.tmp 3]) [] w168_c2 ⟨[(0,.ro 5 (x.map eNt) xe)],[],0⟩=R):∀ n i,n+i=x.length →
 w168_K2 C ⟨[(18,.int .i64 i),(17,.int .i64 x.length),(16,.ro 5 (x.map eNt) xe),(0,.ro 5 (x.map eNt) xe)],[],0⟩=if ntX (x.drop i)≠0 then some (.tup [.ro 5 [] true,.int .i64 (ntX (x.drop i))]) else R:=by
 intro n
 induction n with
 | zero =>
  intro i hi
  have q1:x.drop i=[]:=List.drop_eq_nil_of_le (by omega)
  have h3:¬ i < x.length:=by omega
  rw [q1,ntX,if_neg (by simp),← hR]
  simp only [w168_K2];rw [ck_unf w168_B2.eq_1]
  simp [h3,H.inl,inlB,H.pp,ppB]
 | succ n ih =>
  intro i hi
  have p1:i < x.length:=by omega
  have h:=ncheck_ok H.toHasNo x[i]
  have this:=ih (i+1) (by omega)
  rw [drop_cons p1,ntX]
  simp only [w168_K2] at this ⊢;rw [ck_unf w168_B2.eq_1]
  simp only [eNt] at h
  by_cases c:ntE x[i]=0
  · rw [c] at h
    rw [if_neg (by simp [c]:¬ (ntE x[i]≠0)),← this]
    simp (disch:=omega) [p1,h,wI64,H.inl,inlB,H.pp,ppB]
  · rw [if_pos c,if_pos c]
    generalize ntE x[i]=E at *
    simp (disch:=omega) [p1,h,c,wI64,H.inl,inlB,H.pp,ppB]
theorem mrgS_idle {M:List Nt} {n:Nt} (h:idB n=true):mrgS M n=M:=by unfold mrgS;rw [if_pos h]
theorem mrgS_res {M:List Nt} {n:Nt} (h:¬ idB n=true) (h5:n.k=5):mrgS M n=[n]:=by unfold mrgS;rw [if_neg h,if_pos h5]
theorem mrgS_nil {n:Nt} (h:¬ idB n=true) (h5:¬ n.k=5):mrgS [] n=[n]:=by unfold mrgS;rw [if_neg h,if_neg h5];rfl
theorem mrgS_one {M:List Nt} {m n r:Nt} (h:¬ idB n=true) (h5:¬ n.k=5) (hr:mrgN m n=some r):mrgS (M++[m]) n=M++[r]:=by
 unfold mrgS;rw [if_neg h,if_neg h5];simp [hr]
theorem mrgS_two {M:List Nt} {m n:Nt} (h:¬ idB n=true) (h5:¬ n.k=5) (hr:mrgN m n=none):mrgS (M++[m]) n=M++[m,n]:=by
 unfold mrgS;rw [if_neg h,if_neg h5];simp [hr]
theorem wN_st (M:List Nt):wN (M.map Nt.st)=wN M:=by unfold wN;rw [List.map_map];rfl
theorem mg_loop (H:HasMg C) (x:List Nt) (xe:Bool) (hx:x.length≤1000) (hp:∀ n ∈ x,PN n) (hw:wN x≤10000) (R:Option AV)
 (hR:∀ M:List Nt,M.map Nt.st=mrgF [] (x.map Nt.st)→CK C 0 (pureFin [.tmp 2,.tmp 3]) [] w168_c1 ⟨[(7,.sl 0 5 0 M.length M.length false)],[(0,.cells 5 (M.map eNt) true true)],1⟩=R):∀ n i,n+i=x.length→∀ M:List Nt,
 mrgF (M.map Nt.st) ((x.drop i).map Nt.st)=mrgF [] (x.map Nt.st)→(∀ m ∈ M,PN m)→wN M+wN (x.drop i)≤10000→M.length≤i →
 w168_K1 C ⟨[(30,.int .i64 i),(29,.int .i64 x.length),(28,.ro 5 (x.map eNt) xe),(7,.sl 0 5 0 M.length M.length false)],[(0,.cells 5 (M.map eNt) true true)],1⟩=R:=by
 intro n
 induction n with
 | zero =>
  intro i hi M hM hP hW hl
  have q1:x.drop i=[]:=List.drop_eq_nil_of_le (by omega)
  have h3:¬ i < x.length:=by omega
  rw [q1] at hM
  have:=hR M (by simpa [mrgF] using hM)
  rw [← this]
  simp only [w168_K1];rw [ck_unf w168_B1.eq_1]
  simp [h3,H.inl,inlB,H.pp,ppB]
 | succ n ih =>
  intro i hi M hM hP hW hl
  have p1:i < x.length:=by omega
  have hpi:=hp _ (List.getElem_mem p1)
  rw [drop_cons p1,wN_cons] at hW
  rw [drop_cons p1,List.map_cons,mrgF] at hM
  have hid:=idle_ok H.toHasMn x[i] hpi.e
  have hfit:(M.length+1) * 57≤35184372088832:=fit57a (by omega)
  simp only [w168_K1] at ih ⊢;rw [ck_unf w168_B1.eq_1]
  simp only [eNt] at hid
  by_cases c1:idB x[i]=true
  · rw [mrgS_idle (n:=x[i].st) c1] at hM
    have this:=ih (i+1) (by omega) M hM hP (by omega) (by omega)
    rw [c1] at hid
    simp at this
    simp (disch:=omega) [p1,hid,wI64,H.inl,inlB,H.pp,ppB,this]
  · have c1':idB x[i]=false:=by simpa using c1
    rw [c1'] at hid
    by_cases c5:x[i].k=5
    · rw [mrgS_res (n:=x[i].st) c1 c5] at hM
      have this:=ih (i+1) (by omega) [x[i]] hM (fun m hm=>by simp only [List.mem_singleton] at hm;subst hm;exact hpi) (by rw [wN_one];omega) (by simp)
      rw [c5] at hid
      simp [c5] at this
      simp (disch:=omega) [p1,hid,c5,wI64,H.inl,inlB,H.pp,ppB,this]
    · rcases last_cases M with rfl | ⟨M',m,rfl⟩
      · rw [List.map_nil,mrgS_nil (n:=x[i].st) c1 c5] at hM
        have this:=ih (i+1) (by omega) [x[i]] hM (fun m hm=>by simp only [List.mem_singleton] at hm;subst hm;exact hpi) (by rw [wN_one];omega) (by simp)
        simp at this
        simp (disch:=omega) [p1,hid,c5,wI64,H.inl,inlB,H.pp,ppB,this]
      · have hpm:=hP m (by simp)
        have hM'l:M'.length≤1000:=by simp at hl;omega
        have hwm:m.x.length≤wN (M'++[m]):=wN_mem (by simp)
        obtain ⟨r,b,hmg,hb1,hb2⟩:=merged_ok H.toHasMn m x[i] hpm.e hpi.e hpm.r hpi.r (by omega) (by omega)
        have hset:∀ v:List AV,(List.map eNt M'++[eNt m]).set M'.length v=List.map eNt M'++[v]:=fun v=>mid_set (by simp)
        have hget:(List.map eNt M'++[eNt m])[M'.length]?=some (eNt m):=mid_get (by simp)
        rw [List.map_append,List.map_cons,List.map_nil] at hM
        simp only [eNt] at hmg hset hget
        cases b
        · have hno:=hb2 rfl
          rw [mrgS_two (m:=m.st) (n:=x[i].st) c1 c5 hno] at hM
          have this:=ih (i+1) (by omega) (M'++[m]++[x[i]]) (by rw [← hM];simp) (fun u hu=>by
           rcases List.mem_append.1 hu with hu | hu
           · exact hP u hu
           · simp only [List.mem_singleton] at hu;subst hu;exact hpi) (by rw [wN_app _ [x[i]],wN_one];omega) (by simp at hl ⊢;omega)
          simp at this hfit
          simp (disch:=omega) [p1,hid,c5,hmg,hget,hset,hfit,wI64,H.inl,inlB,H.pp,ppB,this]
        · have hyes:=hb1 rfl
          rw [mrgS_one (m:=m.st) (n:=x[i].st) c1 c5 hyes] at hM
          have hpr:=p_st (mrgN_p hpm hpi hyes)
          have hlr:=(mrgN_q hpm.q hpi.q hyes).2
          have this:=ih (i+1) (by omega) (M'++[r]) (by rw [← hM];simp) (fun u hu=>by
           rcases List.mem_append.1 hu with hu | hu
           · exact hP u (List.mem_append_left _ hu)
           · simp only [List.mem_singleton] at hu;subst hu;exact hpr) (by
             rw [wN_app,wN_one] at hW ⊢
             have:r.st.x.length=r.x.length:=rfl
             omega) (by simp at hl ⊢;omega)
          simp at this
          simp (disch:=omega) [p1,hid,c5,hmg,hget,hset,wI64,H.inl,inlB,H.pp,ppB,this]
theorem mgx_zero (H:HasMg C) (nid:Nat) (e:Bool):freshCallW (RnW C) 3007 [.ro 5 [] e] nid=some (.ro 5 [] true,[]):=by
 have hr:∃ m,RnW C 3007 [.ro 5 [] e] [] 0=some (.ro 5 [] true,[],m):=by
  rw [rnW_eq H.f3007 rfl]
  simp (disch:=omega) [w339,wI64,H.inl,inlB,H.pp,ppB]
 obtain ⟨m,hr⟩:=hr
 unfold freshCallW
 rw [hr]
 simp [ob,ownOf,Pav.get,freshOfW,hand,om]
theorem mgx_ok (H:HasMg C) (nid:Nat) (M:List Nt) (e:Bool) (h0:M≠[]) (hn:M.length≤1000000):freshCallW (RnW C) 3007 [.ro 5 (M.map eNt) e] nid=some (.sl nid 5 0 M.length M.length true,[(nid,some (.cells 5 (M.map eNt) true true))]):=by
 have h2:M.length * 57≤35184372088832:=by omega
 have hT:List.take M.length (List.map eNt M)=List.map eNt M:=List.take_of_length_le (by simp)
 have hr:∃ b m,RnW C 3007 [.ro 5 (M.map eNt) e] [] 0=some (.sl b 5 0 M.length M.length true,[(b,.cells 5 (M.map eNt) true true)],m):=by
  rw [rnW_eq H.f3007 rfl]
  simp (disch:=omega) [w339,h0,h2,isE,hT,wI64,H.inl,inlB,H.pp,ppB]
 obtain ⟨b,m,hr⟩:=hr
 unfold freshCallW
 rw [hr]
 simp [ob,ownOf,Pav.get,freshOfW,hand,om]
theorem mg_last (H:HasMg C) (M:List Nt) (hM:M.length≤1000) (hm:∀ n ∈ M,QN n) (hw:wN M≤10000):∀ n i,n+i=M.length→∀ G:List Nt,G.length=i →
 w168_K0 C ⟨[(72,.int .i64 i),(71,.int .i64 M.length),(7,.sl 0 5 0 M.length M.length true)],[(0,.cells 5 (G.map eNt++(M.drop i).map eNt) true true)],1⟩=some (.tup [.ro 5 ((G++(M.drop i).map Nt.ow).map eNt) true,.int .i64 0]):=by
 intro n
 induction n with
 | zero =>
  intro i hi G hG
  have q1:M.drop i=[]:=List.drop_eq_nil_of_le (by omega)
  have h3:¬ i < M.length:=by omega
  have hGl:G.length=M.length:=by omega
  have hT:List.take M.length (List.map eNt G)=List.map eNt G:=List.take_of_length_le (by simp;omega)
  rw [q1]
  simp only [w168_K0];rw [ck_unf w168_B0.eq_1]
  simp (disch:=omega) [ck_unf w168_c0.eq_1,h3,hT,hGl,wI64,H.inl,inlB,H.pp,ppB]
 | succ n ih =>
  intro i hi G hG
  have p1:i < M.length:=by omega
  have hq:=hm _ (List.getElem_mem p1)
  have hl:=wN_mem (List.getElem_mem p1)
  have hcp:=copy_ok H.toHasMn.toHasPu.toHasNe.toHasL M[i].x M[i].e (by omega) (fun y hy=>(hq y hy).m)
  have this:=ih (i+1) (by omega) (G++[M[i].ow]) (by simp [hG])
  have hgl:(List.map eNt G).length=i:=by simpa using hG
  rw [drop_cons p1]
  simp only [w168_K0] at this ⊢;rw [ck_unf w168_B0.eq_1]
  simp [Nt.ow] at this hcp
  simp (disch:=omega) [p1,hcp,mid_get hgl,mid_set hgl,Nt.ow,wI64,H.inl,inlB,H.pp,ppB,this]
theorem ntX_zero:∀ x:List Nt,ntX x=0→∀ n ∈ x,ntE n=0
 | [],_,n,hn=>by simp at hn
 | a::r,h,n,hn=>by
  rw [ntX] at h
  by_cases q:ntE a=0
  · rw [if_neg (by simp [q])] at h
    rcases List.mem_cons.1 hn with rfl | hn
    · exact q
    · exact ntX_zero r h n hn
  · rw [if_pos q] at h;exact absurd h q
theorem ow_st (M:List Nt):(M.map Nt.st).map Nt.ow=M.map Nt.ow:=by rw [List.map_map];rfl
theorem mg_ok (H:HasMg C) (x:List Nt) (xe:Bool) (hx:x.length≤1000) (hq:∀ n ∈ x,QN n) (hr:∀ n ∈ x,RgN n) (hw:wN x≤10000) :
 FnW C 168 [.ro 5 (x.map eNt) xe]=some (if 32 < (x.length:Int) then .tup [.ro 5 [] true,.int .i64 3] else if ntX x≠0 then .tup [.ro 5 [] true,.int .i64 (ntX x)] else .tup [.ro 5 (((mrgF [] (x.map Nt.st)).map Nt.ow).map eNt) true,.int .i64 0]):=by
 rw [fnW_eq H.f168 rfl]
 by_cases c1:32 < (x.length:Int)
 · rw [if_pos c1]
   simp (disch:=omega) [w168,c1,wI64,H.inl,inlB,H.pp,ppB]
 · rw [if_neg c1]
   by_cases c2:ntX x=0
   · rw [if_neg (by simp [c2])]
     have hp:∀ n ∈ x,PN n:=fun n hn=>⟨hq n hn,hr n hn,ntX_zero x c2 n hn⟩
     have hloop:=mg_loop H x xe hx hp hw (some (.tup [.ro 5 (((mrgF [] (x.map Nt.st)).map Nt.ow).map eNt) true,.int .i64 0])) (by
      intro M hM
      have hqs:∀ n ∈ x.map Nt.st,QN n:=fun n hn=>by
       obtain ⟨m,hm,rfl⟩:=List.mem_map.1 hn
       exact hq m hm
      obtain ⟨u1,u2,u3⟩:=mrgF_q (x.map Nt.st) [] (by simp) hqs
      rw [← hM] at u1 u2 u3 ⊢
      rw [ow_st]
      rw [wN_st,wN_st] at u2
      have hMl:M.length≤1000:=by simp at u3;omega
      have hMw:wN M≤10000:=by rw [wN_nil] at u2;omega
      have hMq:∀ n ∈ M,QN n:=fun n hn=>u1 n.st (List.mem_map.2 ⟨n,hn,rfl⟩)
      by_cases hn:M=[]
      · subst hn
        have hg:=fun nid=>mgx_zero H nid false
        simp (disch:=omega) [ck_unf w168_c1.eq_1,hg,ck_unf w168_B0.eq_1,ck_unf w168_c0.eq_1,wI64,H.inl,inlB,H.pp,ppB]
      · have hg:=fun nid=>mgx_ok H nid M false hn (by omega)
        have hl:=mg_last H M hMl hMq hMw M.length 0 rfl [] rfl
        have hT:List.take M.length (List.map eNt M)=List.map eNt M:=List.take_of_length_le (by simp)
        rw [List.drop_zero] at hl
        simp only [w168_K0] at hl
        simp at hl
        simp (disch:=omega) [ck_unf w168_c1.eq_1,hg,hT,hl,wI64,H.inl,inlB,H.pp,ppB]) x.length 0 rfl [] (by simp) (by simp) (by rw [List.drop_zero,wN_nil];omega) (by simp)
     have hc2:CK C 0 (pureFin [.tmp 2,.tmp 3]) [] w168_c2 ⟨[(0,.ro 5 (x.map eNt) xe)],[],0⟩=some (.tup [.ro 5 (((mrgF [] (x.map Nt.st)).map Nt.ow).map eNt) true,.int .i64 0]):=by
      simp only [w168_K1] at hloop
      simp at hloop
      rw [ck_unf w168_c2.eq_1]
      simp (disch:=omega) [hloop,wI64,H.inl,inlB,H.pp,ppB]
     have hck:=mg_check H x xe hx _ hc2 x.length 0 rfl
     rw [List.drop_zero,if_neg (by simp [c2])] at hck
     simp only [w168_K2] at hck
     simp at hck
     simp (disch:=omega) [w168,c1,hck,wI64,H.inl,inlB,H.pp,ppB]
   · rw [if_pos c2]
     have hck:=mg_check H x xe hx _ rfl x.length 0 rfl
     rw [List.drop_zero,if_pos c2] at hck
     simp only [w168_K2] at hck
     simp at hck
     simp (disch:=omega) [w168,c1,hck,wI64,H.inl,inlB,H.pp,ppB]
end Go.D
end
section
namespace Go.D
open Go Go.Pav Go.Pw P
attribute [-simp] List.getElem_cons_drop
variable {C:WProg}
def pt {α:Type} (a c:Nat) (y:List α):Nat→List α→List α
 | i,[]=>if i=a then y else []
 | i,e::r=>(if i=a then y else [])++(if i < a∨a+c≤i then e::pt a c y (i+1) r else pt a c y (i+1) r)
theorem pt_past {α:Type} {a c:Nat} {y:List α}:∀ (r:List α) (i:Nat),a < i→pt a c y i r=r.drop (a+c - i)
 | [],i,h=>by rw [pt,if_neg (by omega)];simp
 | e::r,i,h=>by
  rw [pt,if_neg (by omega),List.nil_append,pt_past r (i+1) (by omega)]
  by_cases q:a+c≤i
  · rw [if_pos (by omega),show a+c - i=0 by omega,show a+c - (i+1)=0 by omega];rfl
  · rw [if_neg (by omega),show a+c - i=(a+c - (i+1))+1 by omega];rfl
theorem pt_eq {α:Type} {a c:Nat} {y:List α}:∀ (r:List α) (i:Nat),i≤a→a+c≤i+r.length→pt a c y i r=r.take (a - i)++(y++r.drop (a - i+c))
 | [],i,h,h2=>by
  simp only [List.length_nil,Nat.add_zero] at h2
  rw [pt,if_pos (by omega)];simp
 | e::r,i,h,h2=>by
  simp only [List.length_cons] at h2
  by_cases q:i=a
  · subst q
    rw [pt,if_pos rfl,pt_past r (i+1) (by omega),Nat.sub_self,List.take_zero,List.nil_append,Nat.zero_add]
    cases c with
    | zero=>rw [if_pos (by omega),show i+0 - (i+1)=0 by omega];rfl
    | succ c=>rw [if_neg (by omega),show i+(c+1) - (i+1)=c by omega];rfl
  · rw [pt,if_neg q,List.nil_append,if_pos (by omega),pt_eq r (i+1) (by omega) (by omega),show a - i=(a - (i+1))+1 by omega,List.take_succ_cons,show a - (i+1)+1+c=(a - (i+1)+c)+1 by omega,List.drop_succ_cons]
    rfl
theorem pt_spl {α:Type} {a c:Nat} {y x:List α} (h:a+c≤x.length):pt a c y 0 x=spl x a c y:=by
 rw [pt_eq x 0 (by omega) (by omega)]
 simp [spl]
theorem fit57 {n:Nat} (h:n≤1000000):n * 57≤35184372088832:=by omega
theorem rput_loop (H:HasMn C) (x:List It) (e:Bool) (a c:Nat) (y:List It) (f:Bool) (hac:a+c≤x.length) (hx:x.length≤100000) (hy:y.length≤100000):∀ n i,n+i=x.length→∀ G:List It,(i≤a→G.length≤i)→G.length≤100000+i →
 w456_K0 C ⟨[(10,.int .i64 i),(9,.sl 0 4 0 G.length G.length false),(3,.ro 4 (y.map cIt) f),(2,.int .i64 c),(1,.int .i64 a),(0,.ro 4 (x.map cIt) e)],[(0,.cells 4 (G.map cIt) true true)],1⟩ =
  some (.ro 4 ((G++pt a c y i (x.drop i)).map cIt) false):=by
 have stop:∀ G:List It,w456_K0 C ⟨[(10,.int .i64 ((x.length:Int)+1)),(9,.sl 0 4 0 G.length G.length false),(3,.ro 4 (y.map cIt) f),(2,.int .i64 c),(1,.int .i64 a),(0,.ro 4 (x.map cIt) e)],[(0,.cells 4 (G.map cIt) true true)],1⟩=some (.ro 4 (G.map cIt) false):=by
  intro G
  have h3:¬ ((x.length:Int)+1≤x.length):=by omega
  have t1:List.take G.length (List.map cIt G)=List.map cIt G:=List.take_of_length_le (by simp)
  simp only [w456_K0];rw [ck_unf w456_B0.eq_1]
  simp [ck_unf w456_c0.eq_1,h3,t1,H.inl,inlB,H.pp,ppB]
 intro n
 induction n with
 | zero =>
  intro i hi G hG0 hG
  have q1:x.drop i=[]:=List.drop_eq_nil_of_le (by omega)
  have h2:i=x.length:=by omega
  subst h2
  rw [q1,pt]
  by_cases ha:x.length=a
  · rw [if_pos ha]
    by_cases hy0:y=[]
    · have:=stop G
      simp only [w456_K0] at this ⊢;rw [ck_unf w456_B0.eq_1]
      subst hy0
      simp at this
      simp (disch:=omega) [eq_true ha,wI64,H.inl,inlB,H.pp,ppB,this]
    · have:=stop (G++y)
      have h5:¬ G.length+y.length≤G.length:=by
       have:0 < y.length:=List.length_pos_iff.2 hy0
       omega
      have hfit:(G.length+y.length) * 57≤35184372088832:=by omega
      simp only [w456_K0] at this ⊢;rw [ck_unf w456_B0.eq_1]
      simp at this
      simp (disch:=omega) [eq_true ha,hy0,isE,h5,hfit,wI64,H.inl,inlB,H.pp,ppB,this]
  · rw [if_neg ha]
    have:=stop G
    have ha2:¬ ((x.length:Int)=a):=by omega
    simp only [w456_K0] at this ⊢;rw [ck_unf w456_B0.eq_1]
    simp (disch:=omega) [ha,ha2,wI64,H.inl,inlB,H.pp,ppB,this]
 | succ n ih =>
  intro i hi G hG0 hG
  have p1:i < x.length:=by omega
  have p2:i≤x.length:=by omega
  have fit1:(G.length+1) * 57≤35184372088832:=by omega
  rw [drop_cons p1,pt]
  by_cases ha:i=a
  · rw [if_pos ha]
    have e1:¬ i < a:=by omega
    by_cases hc:c=0
    · have e2:a+c≤i:=by omega
      rw [if_pos (by omega)]
      have:=ih (i+1) (by omega) (G++y++[x[i]]) (by omega) (by simp;omega)
      have e3:(a:Int)+c≤i:=by omega
      simp only [w456_K0] at this ⊢;rw [ck_unf w456_B0.eq_1]
      subst hc
      subst ha
      by_cases hy0:y=[]
      · subst hy0
        simp at this
        simp (disch:=omega) [p1,p2,fit1,wI64,H.inl,inlB,H.pp,ppB,this]
      · have h5:¬ G.length+y.length≤G.length:=by
         have:0 < y.length:=List.length_pos_iff.2 hy0
         omega
        have hb2:G.length+y.length+1≤1000000:=by omega
        have hfit:(G.length+y.length) * 57≤35184372088832:=fit57 (by omega)
        have hfit2:(G.length+y.length+1) * 57≤35184372088832:=fit57 hb2
        simp at this
        simp only [← Nat.add_assoc] at this
        simp (disch:=omega) [p1,p2,hy0,isE,h5,hfit,hfit2,wI64,H.inl,inlB,H.pp,ppB,this]
    · rw [if_neg (by omega)]
      have:=ih (i+1) (by omega) (G++y) (by omega) (by simp;omega)
      have e3:¬ ((i:Int)+c≤i):=by omega
      subst ha
      simp only [w456_K0] at this ⊢;rw [ck_unf w456_B0.eq_1]
      by_cases hy0:y=[]
      · subst hy0
        simp at this
        simp (disch:=omega) [p1,p2,e3,hc,fit1,wI64,H.inl,inlB,H.pp,ppB,this]
      · have h5:¬ G.length+y.length≤G.length:=by
         have:0 < y.length:=List.length_pos_iff.2 hy0
         omega
        have hb2:G.length+y.length+1≤1000000:=by omega
        have hfit:(G.length+y.length) * 57≤35184372088832:=fit57 (by omega)
        simp at this
        simp (disch:=omega) [p1,p2,e3,hc,hy0,isE,h5,hfit,wI64,H.inl,inlB,H.pp,ppB,this]
  · rw [if_neg ha,List.nil_append]
    have ha2:¬ ((i:Int)=a):=by omega
    by_cases hk:i < a∨a+c≤i
    · rw [if_pos hk]
      have:=ih (i+1) (by omega) (G++[x[i]]) (by intro q;simp;have:=hG0 (by omega);omega) (by simp;omega)
      have hk2:i < a∨(a:Int)+c≤i:=by omega
      simp only [w456_K0] at this ⊢;rw [ck_unf w456_B0.eq_1]
      simp at this
      rcases hk with hk | hk
      · simp (disch:=omega) [p1,p2,ha,ha2,hk,fit1,wI64,H.inl,inlB,H.pp,ppB,this]
      · have e4:¬ i < a:=by omega
        have e5:(a:Int)+c≤i:=by omega
        simp (disch:=omega) [p1,p2,ha,ha2,e4,e5,fit1,wI64,H.inl,inlB,H.pp,ppB,this]
    · rw [if_neg hk]
      have:=ih (i+1) (by omega) G (by omega) (by omega)
      have e4:¬ i < a:=by omega
      have e5:¬ ((a:Int)+c≤i):=by omega
      simp only [w456_K0] at this ⊢;rw [ck_unf w456_B0.eq_1]
      simp at this
      simp (disch:=omega) [p1,p2,ha,ha2,e4,e5,wI64,H.inl,inlB,H.pp,ppB,this]
theorem rput_ok (H:HasMn C) (x:List It) (e:Bool) (a c:Int) (y:List It) (f:Bool) (h:0≤a∧0≤c∧a+c≤x.length) (hx:x.length≤100000) (hy:y.length≤100000) :
 FnW C 456 [.ro 4 (x.map cIt) e,.int .i64 a,.int .i64 c,.ro 4 (y.map cIt) f]=some (.ro 4 ((spl x a.toNat c.toNat y).map cIt) false):=by
 obtain ⟨a,rfl⟩:∃ n:Nat,a=n:=⟨a.toNat,by omega⟩
 obtain ⟨c,rfl⟩:∃ n:Nat,c=n:=⟨c.toNat,by omega⟩
 have h:=rput_loop H x e a c y f (by omega) hx hy x.length 0 rfl [] (by simp) (by simp)
 rw [List.drop_zero,pt_spl (by omega),List.nil_append] at h
 rw [fnW_eq H.f456 rfl]
 simp only [w456_K0] at h
 simp at h
 simp (disch:=omega) [w456,h,wI64,H.inl,inlB,H.pp,ppB]
theorem both_ok (H:HasMn C) (m n:Nt) (hm:ntE m=0) (hn:ntE n=0) (rm:RgN m) (rn:RgN n) (lm:m.x.length≤100000) (ln:n.x.length≤100000) :
 ∃ (r:Nt) (b:Bool),FnW C 335 [.agg (eNt m),.agg (eNt n)]=some (.tup [.agg (eNt r),.int .i64 (if b=true then 1 else 0)])∧IsM m n r b:=by
 have hk1:=ntE_k hm
 have hk2:=ntE_k hn
 obtain ⟨k1,a1,c1,t1,x1,e1⟩:=m
 obtain ⟨k2,a2,c2,t2,x2,e2⟩:=n
 obtain ⟨⟨ra1,ra2⟩,rc1,rc2⟩:=rm
 obtain ⟨⟨rb1,rb2⟩,rd1,rd2⟩:=rn
 simp only at hk1 hk2 lm ln ra1 ra2 rb1 rb2 rc1 rc2 rd1 rd2
 rw [fnW_eq H.f335 rfl]
 have no:∀ (P:Prop),(mrgN ⟨k1,a1,c1,t1,x1,e1⟩ ⟨k2,a2,c2,t2,x2,e2⟩=none)→∀ X:Option AV,X=some (.tup [.agg (eNt ⟨k1,a1,c1,t1,x1,e1⟩),.int .i64 0])→∃ (r:Nt) (b:Bool),X=some (.tup [.agg (eNt r),.int .i64 (if b=true then 1 else 0)])∧IsM ⟨k1,a1,c1,t1,x1,e1⟩ ⟨k2,a2,c2,t2,x2,e2⟩ r b:=by
  intro _ h X hX
  exact ⟨_,false,by rw [hX];rfl,by simp,fun _=>h⟩
 rcases hk1 with rfl | rfl | rfl | rfl | rfl
 · rcases hk2 with rfl | rfl | rfl | rfl | rfl
   · have h1:c1=0∧t1=0:=by
      by_cases u:c1=0
      · by_cases v:t1=0
        · exact ⟨u,v⟩
        · simp [ntE,u,v] at hm
      · simp [ntE,u] at hm
     obtain ⟨rfl,rfl⟩:=h1
     rcases (Decidable.em (0≤a1)).symm with q1 | q1
     · exact no True (by unfold mrgN;rw [if_pos (by simp),if_neg (by simp only;omega)]) _ (by simp (disch:=omega) [w335,q1,wI64,H.inl,inlB,H.pp,ppB])
     · rcases (Decidable.em (a1≤a2)).symm with q2 | q2
       · exact no True (by unfold mrgN;rw [if_pos (by simp),if_neg (by simp only;omega)]) _ (by simp (disch:=omega) [w335,q1,q2,wI64,H.inl,inlB,H.pp,ppB])
       · rcases (Decidable.em (a2 - a1≤(x1.length:Int))).symm with q3 | q3
         · exact no True (by unfold mrgN;rw [if_pos (by simp),if_neg (by simp only;omega)]) _ (by simp (disch:=omega) [w335,q1,q2,q3,wI64,H.inl,inlB,H.pp,ppB])
         · have hp:=rput_ok H x1 e1 (a2 - a1) 0 x2 e2 (by omega) lm ln
           refine ⟨⟨1,a1,0,0,spl x1 (a2 - a1).toNat 0 x2,false⟩,true,?_,fun _=>?_,by simp⟩
           · simp at hp
             simp (disch:=omega) [w335,q1,q2,q3,hp,wI64,H.inl,inlB,H.pp,ppB]
           · unfold mrgN
             rw [if_pos (by simp),if_pos (by simp only;omega)]
             rfl
   · exact no True (by simp [mrgN]) _ (by simp [w335,wI64,H.inl,inlB,H.pp,ppB])
   · exact no True (by simp [mrgN]) _ (by simp [w335,wI64,H.inl,inlB,H.pp,ppB])
   · exact no True (by simp [mrgN]) _ (by simp [w335,wI64,H.inl,inlB,H.pp,ppB])
   · exact no True (by simp [mrgN]) _ (by simp [w335,wI64,H.inl,inlB,H.pp,ppB])
 · rcases hk2 with rfl | rfl | rfl | rfl | rfl
   · exact no True (by simp [mrgN]) _ (by simp [w335,wI64,H.inl,inlB,H.pp,ppB])
   · have h2:t2=0∧x2=[]:=by
      by_cases u:t2=0
      · by_cases v:x2=[]
        · exact ⟨u,v⟩
        · simp [ntE,u,v] at hn
      · simp [ntE,u] at hn
     obtain ⟨rfl,rfl⟩:=h2
     have nn:¬ (0≤c1∧0≤c2∧0≤a2∧a2≤a1∧a1 - a2≤c2∧c1+c2≤9223372036854775807)→mrgN ⟨2,a1,c1,t1,x1,e1⟩ ⟨2,a2,c2,0,[],e2⟩=none:=by
      intro h
      unfold mrgN
      rw [if_neg (by simp),if_pos (by simp),if_neg h]
     rcases (Decidable.em (0≤c1)).symm with q1 | q1
     · exact no True (nn (by omega)) _ (by simp (disch:=omega) [w335,q1,wI64,H.inl,inlB,H.pp,ppB])
     · rcases (Decidable.em (0≤c2)).symm with q2 | q2
       · exact no True (nn (by omega)) _ (by simp (disch:=omega) [w335,q1,q2,wI64,H.inl,inlB,H.pp,ppB])
       · rcases (Decidable.em (0≤a2)).symm with q3 | q3
         · exact no True (nn (by omega)) _ (by simp (disch:=omega) [w335,q1,q2,q3,wI64,H.inl,inlB,H.pp,ppB])
         · rcases (Decidable.em (a2≤a1)).symm with q4 | q4
           · exact no True (nn (by omega)) _ (by simp (disch:=omega) [w335,q1,q2,q3,q4,wI64,H.inl,inlB,H.pp,ppB])
           · rcases (Decidable.em (a1 - a2≤c2)).symm with q5 | q5
             · exact no True (nn (by omega)) _ (by simp (disch:=omega) [w335,q1,q2,q3,q4,q5,wI64,H.inl,inlB,H.pp,ppB])
             · by_cases q6:c1≤9223372036854775807 - c2
               · have q9:True:=trivial
                 refine ⟨⟨2,a2,c1+c2,0,[],true⟩,true,?_,fun _=>?_,by simp⟩
                 · simp (disch:=omega) [w335,q1,q2,q3,q4,q5,q6,wI64,H.inl,inlB,H.pp,ppB]
                 · unfold mrgN
                   rw [if_neg (by simp),if_pos (by simp),if_pos (by simp only;omega)]
                   rfl
               · exact no True (nn (by omega)) _ (by simp (disch:=omega) [w335,q1,q2,q3,q4,q5,q6,wI64,H.inl,inlB,H.pp,ppB])
   · exact no True (by simp [mrgN]) _ (by simp [w335,wI64,H.inl,inlB,H.pp,ppB])
   · exact no True (by simp [mrgN]) _ (by simp [w335,wI64,H.inl,inlB,H.pp,ppB])
   · exact no True (by simp [mrgN]) _ (by simp [w335,wI64,H.inl,inlB,H.pp,ppB])
 · rcases hk2 with rfl | rfl | rfl | rfl | rfl
   all_goals exact no True (by simp [mrgN]) _ (by simp [w335,wI64,H.inl,inlB,H.pp,ppB])
 · rcases hk2 with rfl | rfl | rfl | rfl | rfl
   all_goals exact no True (by simp [mrgN]) _ (by simp [w335,wI64,H.inl,inlB,H.pp,ppB])
 · rcases hk2 with rfl | rfl | rfl | rfl | rfl
   · have z0:True:=trivial
     have h1:a1=0∧c1=0∧t1=0:=by
      by_cases u:a1=0
      · by_cases v:c1=0
        · by_cases w:t1=0
          · exact ⟨u,v,w⟩
          · simp [ntE,u,v,w] at hm
        · simp [ntE,u,v] at hm
      · simp [ntE,u] at hm
     obtain ⟨rfl,rfl,rfl⟩:=h1
     by_cases h1:inR a2 0 x1.length=true
     · obtain ⟨u1,u2,u3⟩:=inR_nat h1
       have u4:a2≤x1.length:=by omega
       have hp:=rput_ok H x1 e1 a2 0 x2 e2 (by omega) lm ln
       refine ⟨⟨5,0,0,0,spl x1 a2.toNat 0 x2,false⟩,true,?_,fun _=>?_,by simp⟩
       · simp at hp
         simp (disch:=omega) [w335,u1,u4,hp,wI64,H.inl,inlB,H.pp,ppB]
       · unfold mrgN
         rw [if_neg (by simp),if_neg (by simp),if_pos (by simp),if_pos h1]
         rfl
     · by_cases u1:0≤a2
       · have u4:¬ a2≤x1.length:=fun u=>h1 (inR_yes (by omega))
         exact no True (by unfold mrgN;rw [if_neg (by simp),if_neg (by simp),if_pos (by simp),if_neg h1]) _ (by simp (disch:=omega) [w335,u1,u4,wI64,H.inl,inlB,H.pp,ppB])
       · exact no True (by unfold mrgN;rw [if_neg (by simp),if_neg (by simp),if_pos (by simp),if_neg h1]) _ (by simp (disch:=omega) [w335,u1,wI64,H.inl,inlB,H.pp,ppB])
   · have z0:True:=trivial
     have h1:a1=0∧c1=0∧t1=0:=by
      by_cases u:a1=0
      · by_cases v:c1=0
        · by_cases w:t1=0
          · exact ⟨u,v,w⟩
          · simp [ntE,u,v,w] at hm
        · simp [ntE,u,v] at hm
      · simp [ntE,u] at hm
     obtain ⟨rfl,rfl,rfl⟩:=h1
     have h2:t2=0∧x2=[]:=by
      by_cases u:t2=0
      · by_cases v:x2=[]
        · exact ⟨u,v⟩
        · simp [ntE,u,v] at hn
      · simp [ntE,u] at hn
     obtain ⟨rfl,rfl⟩:=h2
     have hi:=inside_ok H.toHasK.toHasL a2 c2 x1.length (by omega)
     by_cases h1:inR a2 c2 x1.length=true
     · obtain ⟨u1,u2,u3⟩:=inR_nat h1
       rw [if_pos h1] at hi
       have hp:=fun f=>rput_ok H x1 e1 a2 c2 [] f (by omega) lm ln
       refine ⟨⟨5,0,0,0,spl x1 a2.toNat c2.toNat [],false⟩,true,?_,fun _=>?_,by simp⟩
       · simp at hp
         simp (disch:=omega) [w335,hi,hp,wI64,H.inl,inlB,H.pp,ppB]
       · unfold mrgN
         rw [if_neg (by simp),if_neg (by simp),if_neg (by simp),if_pos (by simp),if_pos h1]
         rfl
     · rw [if_neg h1] at hi
       exact no True (by unfold mrgN;rw [if_neg (by simp),if_neg (by simp),if_neg (by simp),if_pos (by simp),if_neg h1]) _ (by simp (disch:=omega) [w335,hi,wI64,H.inl,inlB,H.pp,ppB])
   · exact no True (by simp [mrgN]) _ (by simp [w335,wI64,H.inl,inlB,H.pp,ppB])
   · have z0:True:=trivial
     have h1:a1=0∧c1=0∧t1=0:=by
      by_cases u:a1=0
      · by_cases v:c1=0
        · by_cases w:t1=0
          · exact ⟨u,v,w⟩
          · simp [ntE,u,v,w] at hm
        · simp [ntE,u,v] at hm
      · simp [ntE,u] at hm
     obtain ⟨rfl,rfl,rfl⟩:=h1
     have hi:=inside_ok H.toHasK.toHasL a2 (x2.length:Int) x1.length (by omega)
     by_cases h1:inR a2 (x2.length:Int) x1.length=true
     · obtain ⟨u1,u2,u3⟩:=inR_nat h1
       rw [if_pos h1] at hi
       have hp:=rput_ok H x1 e1 a2 (x2.length:Int) x2 e2 (by omega) lm ln
       refine ⟨⟨5,0,0,0,spl x1 a2.toNat x2.length x2,false⟩,true,?_,fun _=>?_,by simp⟩
       · simp at hp
         simp (disch:=omega) [w335,hi,hp,wI64,H.inl,inlB,H.pp,ppB]
       · unfold mrgN
         rw [if_neg (by simp),if_neg (by simp),if_neg (by simp),if_neg (by simp),if_pos (by simp),if_pos h1]
         rfl
     · rw [if_neg h1] at hi
       exact no True (by unfold mrgN;rw [if_neg (by simp),if_neg (by simp),if_neg (by simp),if_neg (by simp),if_pos (by simp),if_neg h1]) _ (by simp (disch:=omega) [w335,hi,wI64,H.inl,inlB,H.pp,ppB])
   · exact no True (by simp [mrgN]) _ (by simp [w335,wI64,H.inl,inlB,H.pp,ppB])
end Go.D
end
section
namespace Go.D
open Go Go.Pav Go.Pw P
set_option maxHeartbeats 1000000
attribute [-simp] List.getElem_cons_drop
variable {C:WProg}
structure HasMr (C:WProg):Prop extends HasMn C,HasNo C where
 f167:C.fns.get 167=some w167
theorem rmg_check (H:HasMr C) (x:List Nt) (xe:Bool) (hx:x.length≤1000) (hl:∀ n ∈ x,n.x.length≤1000000) (R:Option AV)
 (hR:CK C 0 (pureFin [.tmp 2,.tmp 3]) [] w167_c1 ⟨[(0,.ro 5 (x.map eNt) xe)],[],0⟩=R):∀ n i,n+i=x.length →
 w167_K1 C ⟨[(4,.int .i64 i),(0,.ro 5 (x.map eNt) xe)],[],0⟩=if ntX (x.drop i)≠0 then some (.tup [.ro 5 [] true,.int .i64 (ntX (x.drop i))]) else R:=by
 intro n
 induction n with
 | zero =>
  intro i hi
  have q1:x.drop i=[]:=List.drop_eq_nil_of_le (by omega)
  have h3:¬ i < x.length:=by omega
  rw [q1,ntX,if_neg (by simp),← hR]
  simp only [w167_K1];rw [ck_unf w167_B1.eq_1]
  simp [h3,H.inl,inlB,H.pp,ppB]
 | succ n ih =>
  intro i hi
  have p1:i < x.length:=by omega
  have h:=rncheck_ok H.toHasNo x[i] (hl _ (List.getElem_mem p1))
  have this:=ih (i+1) (by omega)
  rw [drop_cons p1,ntX]
  simp only [w167_K1] at this ⊢;rw [ck_unf w167_B1.eq_1]
  simp only [eNt] at h
  by_cases c:ntE x[i]=0
  · rw [c] at h
    rw [if_neg (by simp [c]:¬ (ntE x[i]≠0)),← this]
    simp (disch:=omega) [p1,h,wI64,H.inl,inlB,H.pp,ppB]
  · have hp:=ntE_pos _ c
    rw [if_pos c,if_pos c]
    generalize ntE x[i]=E at *
    simp (disch:=omega) [p1,h,c,hp,wI64,H.inl,inlB,H.pp,ppB]
theorem rmg_loop (H:HasMr C) (x:List Nt) (xe:Bool) (hx:x.length≤1000) (hp:∀ n ∈ x,PN n):∀ n i,n+i=x.length→∀ (M:List Nt) (fx:Bool),
 (∀ m ∈ M,PN m)→wN M+wN (x.drop i)≤10000→M.length≤i →
 ∃ (N:List Nt) (f:Bool),w167_K0 C ⟨[(6,.int .i64 i),(5,.sl 0 5 0 M.length M.length fx),(0,.ro 5 (x.map eNt) xe)],[(0,.cells 5 (M.map eNt) true true)],1⟩=some (.tup [.ro 5 (N.map eNt) f,.int .i64 0]) ∧
  N.map Nt.st=mrgF (M.map Nt.st) ((x.drop i).map Nt.st):=by
 intro n
 induction n with
 | zero =>
  intro i hi M fx hP hW hl
  have q1:x.drop i=[]:=List.drop_eq_nil_of_le (by omega)
  have h3:¬ i < x.length:=by omega
  have hT:List.take M.length (List.map eNt M)=List.map eNt M:=List.take_of_length_le (by simp)
  refine ⟨M,fx,?_,by rw [q1];rfl⟩
  simp only [w167_K0];rw [ck_unf w167_B0.eq_1]
  simp [ck_unf w167_c0.eq_1,h3,hT,H.inl,inlB,H.pp,ppB]
 | succ n ih =>
  intro i hi M fx hP hW hl
  have p1:i < x.length:=by omega
  have hpi:=hp _ (List.getElem_mem p1)
  rw [drop_cons p1,wN_cons] at hW
  rw [drop_cons p1,List.map_cons,mrgF]
  have hid:=nothing_ok H.toHasMn x[i] hpi.e
  have hfit:(M.length+1) * 57≤35184372088832:=fit57a (by omega)
  have conv:∀ (X Y:Option AV) (A:List Nt),X=Y→(∃ (N:List Nt) (f:Bool),Y=some (.tup [.ro 5 (N.map eNt) f,.int .i64 0])∧N.map Nt.st=A)→∃ (N:List Nt) (f:Bool),X=some (.tup [.ro 5 (N.map eNt) f,.int .i64 0])∧N.map Nt.st=A:=by
   intro X Y A h;subst h;exact id
  simp only [w167_K0] at ih ⊢;rw [ck_unf w167_B0.eq_1]
  simp only [eNt] at hid
  by_cases c1:idB x[i]=true
  · rw [mrgS_idle (n:=x[i].st) c1]
    have this:=ih (i+1) (by omega) M fx hP (by omega) (by omega)
    rw [c1] at hid
    refine conv _ _ _ ?_ this
    simp at hid
    simp (disch:=omega) [p1,hid,wI64,H.inl,inlB,H.pp,ppB]
  · have c1':idB x[i]=false:=by simpa using c1
    rw [c1'] at hid
    by_cases c5:x[i].k=5
    · rw [mrgS_res (n:=x[i].st) c1 c5]
      have this:=ih (i+1) (by omega) [x[i]] true (fun m hm=>by simp only [List.mem_singleton] at hm;subst hm;exact hpi) (by rw [wN_one];omega) (by simp)
      refine conv _ _ _ ?_ this
      rw [c5] at hid
      simp at hid
      simp (disch:=omega) [p1,hid,c5,wI64,H.inl,inlB,H.pp,ppB]
    · rcases last_cases M with rfl | ⟨M',m,rfl⟩
      · rw [show List.map Nt.st []=[] from rfl,mrgS_nil (n:=x[i].st) c1 c5]
        have this:=ih (i+1) (by omega) [x[i]] false (fun m hm=>by simp only [List.mem_singleton] at hm;subst hm;exact hpi) (by rw [wN_one];omega) (by simp)
        refine conv _ _ _ ?_ this
        simp at hid
        cases fx
        · simp (disch:=omega) [p1,hid,c5,wI64,H.inl,inlB,H.pp,ppB]
        · simp (disch:=omega) [p1,hid,c5,wI64,H.inl,inlB,H.pp,ppB]
      · have hpm:=hP m (by simp)
        have hM'l:M'.length≤1000:=by simp at hl;omega
        have hwm:m.x.length≤wN (M'++[m]):=wN_mem (by simp)
        obtain ⟨r,b,hmg,hb1,hb2⟩:=both_ok H.toHasMn m x[i] hpm.e hpi.e hpm.r hpi.r (by omega) (by omega)
        have hset:∀ v:List AV,(List.map eNt M'++[eNt m]).set M'.length v=List.map eNt M'++[v]:=fun v=>mid_set (by simp)
        have hget:(List.map eNt M'++[eNt m])[M'.length]?=some (eNt m):=mid_get (by simp)
        rw [show List.map Nt.st (M'++[m])=List.map Nt.st M'++[m.st] from by simp]
        simp only [eNt] at hmg hset hget
        cases b
        · have hno:=hb2 rfl
          rw [mrgS_two (m:=m.st) (n:=x[i].st) c1 c5 hno]
          have this:=ih (i+1) (by omega) (M'++[m]++[x[i]]) false (fun u hu=>by
           rcases List.mem_append.1 hu with hu | hu
           · exact hP u hu
           · simp only [List.mem_singleton] at hu;subst hu;exact hpi) (by rw [wN_app _ [x[i]],wN_one];omega) (by simp at hl ⊢;omega)
          have e:(M'++[m]++[x[i]]).map Nt.st=M'.map Nt.st++[m.st,x[i].st]:=by simp
          rw [e] at this
          refine conv _ _ _ ?_ this
          have hT:List.take (M'.length+1) (List.map eNt M'++[[AV.int .u8 m.k,.int .i64 m.a,.int .i64 m.c,.int .i64 m.t,.ro 4 (m.x.map cIt) m.e]])=List.map eNt M'++[[AV.int .u8 m.k,.int .i64 m.a,.int .i64 m.c,.int .i64 m.t,.ro 4 (m.x.map cIt) m.e]]:=List.take_of_length_le (by simp)
          simp at hid hmg hfit
          cases fx
          · simp (disch:=omega) [p1,hid,c5,hmg,hget,hset,hfit,wI64,H.inl,inlB,H.pp,ppB]
          · simp (disch:=omega) [p1,hid,c5,hmg,hget,hset,hfit,hT,wI64,H.inl,inlB,H.pp,ppB]
        · have hyes:=hb1 rfl
          rw [mrgS_one (m:=m.st) (n:=x[i].st) c1 c5 hyes]
          have hpr:=p_st (mrgN_p hpm hpi hyes)
          have hlr:=(mrgN_q hpm.q hpi.q hyes).2
          have this:=ih (i+1) (by omega) (M'++[r]) fx (fun u hu=>by
           rcases List.mem_append.1 hu with hu | hu
           · exact hP u (List.mem_append_left _ hu)
           · simp only [List.mem_singleton] at hu;subst hu;exact hpr) (by
             rw [wN_app,wN_one] at hW ⊢
             have:r.st.x.length=r.x.length:=rfl
             omega) (by simp at hl ⊢;omega)
          have e:(M'++[r]).map Nt.st=M'.map Nt.st++[r.st]:=by simp
          rw [e] at this
          refine conv _ _ _ ?_ this
          simp at hid hmg
          simp (disch:=omega) [p1,hid,c5,hmg,hget,hset,wI64,H.inl,inlB,H.pp,ppB]
theorem rmg_ok (H:HasMr C) (x:List Nt) (xe:Bool) (hx:x.length≤1000) (hq:∀ n ∈ x,QN n) (hr:∀ n ∈ x,RgN n) (hw:wN x≤10000) :
 ∃ (N:List Nt) (f:Bool),FnW C 167 [.ro 5 (x.map eNt) xe]=some (if 32 < (x.length:Int) then .tup [.ro 5 [] true,.int .i64 3] else if ntX x≠0 then .tup [.ro 5 [] true,.int .i64 (ntX x)] else .tup [.ro 5 (N.map eNt) f,.int .i64 0]) ∧
  (¬ 32 < (x.length:Int)→ntX x=0→N.map Nt.st=mrgF [] (x.map Nt.st)):=by
 have hlx:∀ n ∈ x,n.x.length≤1000000:=fun n hn=>by have:=wN_mem hn;omega
 rw [fnW_eq H.f167 rfl]
 by_cases c1:32 < (x.length:Int)
 · refine ⟨mrgF [] (x.map Nt.st),true,?_,?_⟩
   · rw [if_pos c1]
     simp (disch:=omega) [w167,c1,wI64,H.inl,inlB,H.pp,ppB]
   · exact fun h=>absurd c1 h
 · by_cases c2:ntX x=0
   · have hp:∀ n ∈ x,PN n:=fun n hn=>⟨hq n hn,hr n hn,ntX_zero x c2 n hn⟩
     obtain ⟨N,f,hloop,hN⟩:=rmg_loop H x xe hx hp x.length 0 rfl [] false (by simp) (by rw [List.drop_zero,wN_nil];omega) (by simp)
     refine ⟨N,f,?_,fun _ _=>by simpa using hN⟩
     rw [if_neg c1,if_neg (by simp [c2])]
     have hc2:CK C 0 (pureFin [.tmp 2,.tmp 3]) [] w167_c1 ⟨[(0,.ro 5 (x.map eNt) xe)],[],0⟩=some (.tup [.ro 5 (N.map eNt) f,.int .i64 0]):=by
      simp only [w167_K0] at hloop
      simp at hloop
      rw [ck_unf w167_c1.eq_1]
      simp (disch:=omega) [hloop,wI64,H.inl,inlB,H.pp,ppB]
     have hck:=rmg_check H x xe hx hlx _ hc2 x.length 0 rfl
     rw [List.drop_zero,if_neg (by simp [c2])] at hck
     simp only [w167_K1] at hck
     simp at hck
     simp (disch:=omega) [w167,c1,hck,wI64,H.inl,inlB,H.pp,ppB]
   · refine ⟨[],true,?_,fun _ h=>absurd h c2⟩
     rw [if_neg c1,if_pos c2]
     have hck:=rmg_check H x xe hx hlx _ rfl x.length 0 rfl
     rw [List.drop_zero,if_pos c2] at hck
     simp only [w167_K1] at hck
     simp at hck
     simp (disch:=omega) [w167,c1,hck,wI64,H.inl,inlB,H.pp,ppB]
end Go.D
end
section
namespace Go.D
open Go Go.Pav Go.Pw P
set_option maxHeartbeats 1000000
attribute [-simp] List.getElem_cons_drop
variable {C:WProg}
structure HasSl (C:WProg):Prop extends HasSx C where
 f341:C.fns.get 341=some w341
 f169:C.fns.get 169=some w169
theorem nsame_ok (H:HasSl C) (n:Nt) (hl:n.x.length≤1000000) (hm:∀ y ∈ n.x,y.m.length≤1000000):FnW C 341 [.agg (eNt n.ow),.agg (eNt n)]=some (.int .i64 1):=by
 have h:=sall_ok H.toHasSx (n.x.map It.own) n.x true n.e (by simpa using hl) hl (fun y hy=>by
  obtain ⟨z,hz,rfl⟩:=List.mem_map.1 hy
  exact hm z hz) hm
 rw [sameX_own,if_pos rfl] at h
 rw [fnW_eq H.f341 rfl]
 simp at h
 simp (disch:=omega) [w341,Nt.ow,h,wI64,H.inl,inlB,H.pp,ppB]
theorem sal_loop (H:HasSl C) (N:List Nt) (e f:Bool) (hN:N.length≤1000000) (hl:∀ n ∈ N,n.x.length≤1000000) (hm:∀ n ∈ N,∀ y ∈ n.x,y.m.length≤1000000):∀ n i,n+i=N.length →
 w169_K0 C ⟨[(5,.int .i64 i),(1,.ro 5 (N.map eNt) f),(0,.ro 5 ((N.map Nt.ow).map eNt) e)],[],0⟩=some (.int .i64 1):=by
 intro n
 induction n with
 | zero =>
  intro i hi
  have h3:¬ i < N.length:=by omega
  simp only [w169_K0];rw [ck_unf w169_B0.eq_1]
  simp [ck_unf w169_c0.eq_1,h3]
 | succ n ih =>
  intro i hi
  have p1:i < N.length:=by omega
  have h:=nsame_ok H N[i] (hl _ (List.getElem_mem p1)) (hm _ (List.getElem_mem p1))
  have this:=ih (i+1) (by omega)
  simp only [w169_K0] at this ⊢;rw [ck_unf w169_B0.eq_1]
  simp at this h
  simp (disch:=omega) [p1,h,wI64,H.inl,inlB,H.pp,ppB,this]
theorem sal_ok (H:HasSl C) (N:List Nt) (e f:Bool) (hN:N.length≤1000000) (hl:∀ n ∈ N,n.x.length≤1000000) (hm:∀ n ∈ N,∀ y ∈ n.x,y.m.length≤1000000) :
 FnW C 169 [.ro 5 ((N.map Nt.ow).map eNt) e,.ro 5 (N.map eNt) f]=some (.int .i64 1):=by
 have h:=sal_loop H N e f hN hl hm N.length 0 rfl
 rw [fnW_eq H.f169 rfl]
 simp only [w169_K0] at h
 simp at h
 simp (disch:=omega) [w169,h,wI64,H.inl,inlB,H.pp,ppB]
theorem rnd_own (p:Pt) (x:It) (cap:Int):rndE p x.own cap=rndE p x cap:=by
 unfold rndE
 have h3:itOk2 x.own=itOk2 x:=rfl
 have h4:mkN x.own p=mkN x p:=by unfold mkN;rw [mk_own]
 rw [h3,h4]
theorem itE_own (ks:List Kd) (cap:Int) (x:It) (b:Bool):itE ks cap x.own b=itE ks cap x b:=by
 unfold itE
 have h1:itOk ks.length x.own=itOk ks.length x:=rfl
 have h2:x.own.t=x.t:=rfl
 rw [h1,h2,rnd_own]
theorem inc_own (ks:List Kd) (cap:Int):∀ (x:List It) (seen:List Int),incE ks cap seen (x.map It.own)=incE ks cap seen x
 | [],_=>rfl
 | a::r,seen=>by
  have h:a.own.k=a.k:=rfl
  rw [List.map_cons,incE,incE,itE_own,h,inc_own ks cap r]
theorem chg_own (ks:List Kd) (cap:Int) (l:List En):∀ (x:List It) (j:Nat),chgE ks cap l j (x.map It.own)=chgE ks cap l j x
 | [],_=>rfl
 | a::r,j=>by
  have h:a.own.k=a.k:=rfl
  have h1:itOk ks.length a.own=itOk ks.length a:=rfl
  have h2:a.own.t=a.t:=rfl
  rw [List.map_cons,chgE,chgE,h,h1,h2,rnd_own,chg_own ks cap l r]
theorem fre_own (ks:List Kd) (x:List It):(x.map It.own).map (fre ks)=(x.map (fre ks)).map En.own:=by
 rw [List.map_map,List.map_map];rfl
theorem apL_ow (ks:List Kd) (l:List En) (n:Nt):(apL ks l n.ow).map En.own=(apL ks l n).map En.own:=by
 have e:∀ x:List It,((x.map (fre ks)).map En.own).map En.own=(x.map (fre ks)).map En.own:=fun x=>own_two _
 unfold apL
 have h:n.ow.x=n.x.map It.own:=rfl
 show List.map En.own (if n.k=1 then spl l n.a.toNat 0 (n.ow.x.map (fre ks)) else if n.k=2 then _ else if n.k=3 then _ else if n.k=4 then spl l n.a.toNat n.ow.x.length (n.ow.x.map (fre ks)) else n.ow.x.map (fre ks))=_
 rw [h,fre_own,List.length_map]
 by_cases k1:n.k=1
 · rw [if_pos k1,if_pos k1,spl_map,spl_map,e]
 · rw [if_neg k1,if_neg k1]
   by_cases k2:n.k=2
   · rw [if_pos k2,if_pos k2];rfl
   · rw [if_neg k2,if_neg k2]
     by_cases k3:n.k=3
     · rw [if_pos k3,if_pos k3];rfl
     · rw [if_neg k3,if_neg k3]
       by_cases k4:n.k=4
       · rw [if_pos k4,if_pos k4,spl_map,spl_map,e]
       · rw [if_neg k4,if_neg k4,e]
theorem apE_ow (ks:List Kd) (cap:Int) (l:List En) (n:Nt):apE ks cap l n.ow=apE ks cap l n:=by
 have h1:ntE n.ow=ntE n:=by
  show (if n.k < 1∨5 < n.k then (1:Int) else if n.k=1∨n.k=4 then _ else if n.k=2 then (if n.t≠0 then 5 else if n.ow.x.length≠0 then 5 else 0) else if n.k=3 then (if n.ow.x.length≠0 then 5 else 0) else _)=_
  rw [show n.ow.x.length=n.x.length from List.length_map ..]
  rfl
 have h2:apF ks cap l n.ow=apF ks cap l n:=by
  show (if n.k=1 then (if inR n.a 0 l.length=false then 4 else if 1024 < (l.length:Int)+n.ow.x.length then 3 else incE ks cap (keysE l) n.ow.x) else if n.k=2 then _ else if n.k=3 then _ else if n.k=4 then (if inR n.a n.ow.x.length l.length=false then 4 else chgE ks cap l n.a.toNat n.ow.x) else (if 1024 < (n.ow.x.length:Int) then 3 else incE ks cap [] n.ow.x))=_
  rw [show n.ow.x.length=n.x.length from List.length_map ..,show n.ow.x=n.x.map It.own from rfl,inc_own,inc_own,chg_own]
  rfl
 unfold apE
 rw [h1,h2,← ovE_own2 (apL ks l n.ow),apL_ow,ovE_own2]
theorem all_ow (ks:List Kd) (cap:Int):∀ (M:List Nt) (l:List En),allE ks cap l (M.map Nt.ow)=allE ks cap l M∧(allL ks l (M.map Nt.ow)).map En.own=(allL ks l M).map En.own
 | [],l=>⟨rfl,rfl⟩
 | n::r,l=>by
  obtain ⟨i1,i2⟩:=all_ow ks cap r (apL ks l n.ow)
  obtain ⟨o1,_,o3⟩:=allE_own ks cap r (apL ks l n.ow) (apL ks l n) (apL_ow ks l n)
  rw [List.map_cons]
  simp only [allE,allL]
  rw [apE_ow,i1,o1,i2,o3]
  exact ⟨rfl,rfl⟩
theorem all_st (ks:List Kd) (cap:Int):∀ (M:List Nt) (l:List En),allE ks cap l (M.map Nt.st)=allE ks cap l M∧allL ks l (M.map Nt.st)=allL ks l M
 | [],l=>⟨rfl,rfl⟩
 | n::r,l=>by
  obtain ⟨i1,i2⟩:=all_st ks cap r (apL ks l n)
  rw [List.map_cons]
  have h1:apE ks cap l n.st=apE ks cap l n:=rfl
  have h2:apL ks l n.st=apL ks l n:=rfl
  simp only [allE,allL]
  rw [h1,h2,i1,i2]
  exact ⟨rfl,rfl⟩
end Go.D
end
section
namespace Go.D
open Go Go.Pav Go.Pw P
attribute [-simp] List.getElem_cons_drop
variable {C:WProg}
structure HasSm (C:WProg):Prop extends HasSn C,HasCn C where
 f165:C.fns.get 165=some w165
def Bit (x:Option AV) (Q:Prop):Prop:=x=some (.int .i64 0)∨(x=some (.int .i64 1)∧Q)
theorem small_in (H:HasSm C) (a:Nn) (ha:a.x.length≤20) (i:Nat) (hi:i < a.x.length) (hm:a.x[i].m.length≤12) (Q:Prop)
 (hnext:Bit (w165_K0 C ⟨[(3,.int .i64 (i+1:Nat)),(1,.ptr 0 0 0)],[(0,.cells 4 [eNn a] true true)],1⟩) Q):∀ n j,n+j=a.x[i].m.length →
 Bit (w165_K1 C ⟨[(4,.int .i64 j),(3,.int .i64 i),(1,.ptr 0 0 0)],[(0,.cells 4 [eNn a] true true)],1⟩) Q:=by
 intro n
 induction n with
 | zero =>
  intro j hj
  have h3:¬ j < a.x[i].m.length:=by omega
  simp only [w165_K0] at hnext
  simp at hnext
  simp only [w165_K1];rw [ck_unf w165_B1.eq_1]
  simp (disch:=omega) [ck_unf w165_c1.eq_1,hi,h3,wI64,H.inl,inlB,H.pp,ppB]
  exact hnext
 | succ n ih =>
  intro j hj
  have h3:j < a.x[i].m.length:=by omega
  by_cases c:(20:Int) < a.x[i].m[j].length
  · left
    simp only [w165_K1];rw [ck_unf w165_B1.eq_1]
    simp (disch:=omega) [hi,h3,c,wI64,H.inl,inlB,H.pp,ppB]
  · have:=ih (j+1) (by omega)
    simp only [w165_K1] at this ⊢;rw [ck_unf w165_B1.eq_1]
    simp at this
    simp (disch:=omega) [hi,h3,c,wI64,H.inl,inlB,H.pp,ppB]
    exact this
theorem small_loop (H:HasSm C) (a:Nn) (ha:a.x.length≤20):∀ n i,n+i=a.x.length →
 Bit (w165_K0 C ⟨[(3,.int .i64 i),(1,.ptr 0 0 0)],[(0,.cells 4 [eNn a] true true)],1⟩) (∀ y ∈ a.x.drop i,y.m.length≤12):=by
 intro n
 induction n with
 | zero =>
  intro i hi
  have h1:a.x.drop i=[]:=List.drop_eq_nil_of_le (by omega)
  have h3:¬ i < a.x.length:=by omega
  right
  refine ⟨?_,by rw [h1];simp⟩
  simp only [w165_K0];rw [ck_unf w165_B0.eq_1]
  simp [ck_unf w165_c0.eq_1,h3]
 | succ n ih =>
  intro i hi
  have h1:i < a.x.length:=by omega
  rw [drop_cons h1]
  by_cases c1:(70:Int) < a.x[i].x.length
  · left
    simp only [w165_K0];rw [ck_unf w165_B0.eq_1]
    simp (disch:=omega) [h1,c1,wI64,H.inl,inlB,H.pp,ppB]
  · by_cases c2:(12:Int) < a.x[i].m.length
    · left
      simp only [w165_K0];rw [ck_unf w165_B0.eq_1]
      simp (disch:=omega) [h1,c1,c2,wI64,H.inl,inlB,H.pp,ppB]
    · have hnext:=ih (i+1) (by omega)
      have h:=small_in H a ha i h1 (by omega) (∀ y ∈ a.x.drop (i+1),y.m.length≤12) hnext a.x[i].m.length 0 rfl
      have h2:Bit (w165_K1 C ⟨[(4,.int .i64 (0:Nat)),(3,.int .i64 i),(1,.ptr 0 0 0)],[(0,.cells 4 [eNn a] true true)],1⟩) (∀ y ∈ a.x[i]::a.x.drop (i+1),y.m.length≤12):=by
       rcases h with h | ⟨h,q⟩
       · exact .inl h
       · refine .inr ⟨h,fun y hy=>?_⟩
         rcases List.mem_cons.1 hy with rfl | hy
         · omega
         · exact q y hy
      simp only [w165_K1] at h2
      simp only [w165_K0];rw [ck_unf w165_B0.eq_1]
      have conv:∀ Q:Prop,∀ x y:Option AV,x=y→Bit y Q→Bit x Q:=by
       intro Q x y h;subst h;exact id
      refine conv _ _ _ ?_ h2
      simp (disch:=omega) [h1,c1,c2,wI64,H.inl,inlB,H.pp,ppB]
structure SmN (a:Nn):Prop where
 f:a.f.length≤40
 b:a.b.length≤40
 x:a.x.length≤20
 m:∀ y ∈ a.x,y.m.length≤12
theorem small_ok (H:HasSm C) (a:Nn) (hf:a.f.length≤9223372036854775807) (hb:a.b.length≤9223372036854775807) (hx:a.x.length≤9223372036854775807):Bit (FnW C 165 [.agg (eNn a)]) (SmN a):=by
 rw [fnW_eq H.f165 rfl]
 by_cases c1:(40:Int) < a.f.length
 · left
   simp (disch:=omega) [w165,c1,wI64,H.inl,inlB,H.pp,ppB]
 · by_cases c2:(40:Int) < a.b.length
   · left
     simp (disch:=omega) [w165,c1,c2,wI64,H.inl,inlB,H.pp,ppB]
   · by_cases c3:(20:Int) < a.x.length
     · left
       simp (disch:=omega) [w165,c1,c2,c3,wI64,H.inl,inlB,H.pp,ppB]
     · have h:=small_loop H a (by omega) a.x.length 0 rfl
       rw [List.drop_zero] at h
       simp only [w165_K0] at h
       simp at h
       rcases h with h | ⟨h,q⟩
       · left
         simp (disch:=omega) [w165,c1,c2,c3,h,wI64,H.inl,inlB,H.pp,ppB]
       · right
         refine ⟨?_,by omega,by omega,by omega,q⟩
         simp (disch:=omega) [w165,c1,c2,c3,h,wI64,H.inl,inlB,H.pp,ppB]
structure HasSa (C:WProg):Prop extends HasG C
def bI (b:Bool):Int:=if b=true then 1 else 0
@[simp] theorem bI_t:bI true=1:=rfl
@[simp] theorem bI_f:bI false=0:=rfl
@[simp] def eTg (t:Tg):List AV:=[.int .i64 t.f,.int .i64 (bI t.b),.int .u64 t.i.k,.int .u8 t.i.t,.str t.i.x,.ro 1 (t.i.m.map eS) t.i.e]
structure HasTg (C:WProg):Prop extends HasG C
structure HasRt (C:WProg):Prop extends HasTg C
structure HasRa (C:WProg):Prop extends HasRt C,HasK C
structure HasPa (C:WProg):Prop extends HasAp0 C,HasNe C
structure HasNl (C:WProg):Prop extends HasSm C,HasSa C,HasPa C,HasRa C,HasTn C
section walk
variable (H:HasNl C) (hlives:FnW C 166 []=some (.bool true)) (q:List (List AV)) (qe:Bool) (zz:List (List AV)) (ze:Bool) (r:Int) (a b:Nn)
include H hlives
variable (hx:FnW C 165 [.agg (eNn a)]=some (.int .i64 1)) (hy:FnW C 165 [.agg (eNn b)]=some (.int .i64 1))
 (ks:List Kd) (R:List En) (f:Bool) (hlof:FnW C 130 [.agg [.ro 4 q qe,.ro 1 zz ze,.int .u8 r]]=some (.tup [aR ks true 12,aL R f]))
 (k1 c1:Int) (φ:Bool) (h56:FnW C 56 [Rm.eM a.o a.f a.fe]=some (.int .i64 k1)) (h179:FnW C 179 [.agg (eNn a)]=some (.int .i64 (if φ=true then 1 else 0))) (h180:FnW C 180 [.agg (eNn a)]=some (.int .i64 c1))
 (hc1:c1=if k1≠0 then k1 else if φ=true then 0 else 1)
 (s:Bool) (h181:FnW C 181 [.agg (eNn a),.agg (eNn b)]=some (.bool s)) (h182:FnW C 182 [.agg (eNn a),.agg (eNn b)]=some (.int .i64 (if s=true then 1 else 0))) (h181b:FnW C 181 [.agg (eNn a),.agg (eNn a)]=some (.bool true))
include hx hy hlof h56 h179 h180 hc1 h181 h182 h181b
variable (hk1:k1=0) (hφ:φ=true) (E:Int) (X Y:List En) (f1 f2:Bool) (h183:FnW C 183 [aR ks true 12,aL R f,.agg (eNn a)]=some (.tup [aL X f1,.int .i64 E])) (h185:FnW C 185 [aR ks true 12,.ro 6 (R.map eEn) f,.agg (eNn a)]=some (.tup [.ro 6 (Y.map eEn) f2,.int .i64 E]))
 (h172:FnW C 172 [.ro 6 (X.map eEn) f1,.ro 6 (Y.map eEn) f2]=some (.int .i64 1))
 (k2 e2:Int) (ψ:Bool) (h56b:FnW C 56 [Rm.eM b.o b.f b.fe]=some (.int .i64 k2)) (h179b:FnW C 179 [.agg (eNn b)]=some (.int .i64 (if ψ=true then 1 else 0)))
include hk1 hφ h183 h185 h172 h56b h179b
end walk
theorem kdb_in {ks:List Kd} (hk:KsIn ks) (x:Int):-9223372036854775808≤(kdAt ks x).b∧(kdAt ks x).b≤9223372036854775807:=by
 by_cases h:x.toNat < 3
 · have e:kdAt ks x=kdAt ks ((x.toNat:Nat):Int):=by unfold kdAt;rw [Int.toNat_natCast]
   have:=hk.b ((x.toNat:Nat):Int) (by omega) (by omega)
   rw [e]
   omega
 · have:=hk.l
   unfold kdAt
   rw [List.getElem?_eq_none (by omega)]
   simp
end Go.D
end
section
namespace Go.D
open Go Go.Pav Go.Pw P
set_option maxHeartbeats 1000000
attribute [-simp] List.getElem_cons_drop
variable {C:WProg}
structure HasBm (C:WProg):Prop extends HasMg C,HasMr C,HasSl C,HasSm C,HasAl C,HasG C where
 f91:C.fns.get 91=some w91
section walk
variable (H:HasBm C) (hlives:FnW C 166 []=some (.bool true)) (q:List (List AV)) (qe:Bool) (zz:List (List AV)) (ze:Bool) (r:Int) (x:List Nt) (xe:Bool)
include H hlives
theorem bm_loop (hx:∀ n ∈ x,n.x.length≤9223372036854775807) (hR:x.length≤40→wN x≤60→(∀ n ∈ x,∀ y ∈ n.x,y.m.length≤12) →
 CK C 0 (pureFin [.tmp 4]) [] w91_c0 ⟨[(2,.ptr 0 0 0),(1,.ro 5 (x.map eNt) xe)],[(0,.cells 3 [[.ro 4 q qe,.ro 1 zz ze,.int .u8 r]] true true)],1⟩=some (.bool true)):∀ n i,n+i=x.length→i≤41→∀ s:Nat,s≤60→s=wN (x.take i)→(∀ n ∈ x.take i,∀ y ∈ n.x,y.m.length≤12) →
 w91_K0 C ⟨[(6,.int .i64 i),(5,.int .i64 s),(2,.ptr 0 0 0),(1,.ro 5 (x.map eNt) xe)],[(0,.cells 3 [[.ro 4 q qe,.ro 1 zz ze,.int .u8 r]] true true)],1⟩=some (.bool true):=by
 have big:40 < (x.length:Int)→CK C 0 (pureFin [.tmp 4]) [] w91_c0 ⟨[(2,.ptr 0 0 0),(1,.ro 5 (x.map eNt) xe)],[(0,.cells 3 [[.ro 4 q qe,.ro 1 zz ze,.int .u8 r]] true true)],1⟩=some (.bool true):=by
  intro h
  rw [ck_unf w91_c0.eq_1]
  simp (disch:=omega) [h,hlives,wI64,H.inl,inlB,H.pp,ppB]
 intro n
 induction n with
 | zero =>
  intro i hi h41 s hs hsw hm
  have h3:¬ i < x.length:=by omega
  have hT:x.take i=x:=List.take_of_length_le (by omega)
  rw [hT] at hsw hm
  have hc:CK C 0 (pureFin [.tmp 4]) [] w91_c0 ⟨[(2,.ptr 0 0 0),(1,.ro 5 (x.map eNt) xe)],[(0,.cells 3 [[.ro 4 q qe,.ro 1 zz ze,.int .u8 r]] true true)],1⟩=some (.bool true):=by
   by_cases h:x.length≤40
   · exact hR h (by omega) hm
   · exact big (by omega)
  simp only [w91_K0];rw [ck_unf w91_B0.eq_1]
  simp [h3,hc,H.inl,inlB,H.pp,ppB]
 | succ n ih =>
  intro i hi h41 s hs hsw hm
  have p1:i < x.length:=by omega
  by_cases h4:i=41
  · subst h4
    have hc:=big (by omega)
    simp only [w91_K0];rw [ck_unf w91_B0.eq_1]
    simp [p1,hc,H.inl,inlB,H.pp,ppB]
  · have h5:i < 41:=by omega
    have h5':(i:Int) < 41:=by omega
    have hxl:=hx _ (List.getElem_mem p1)
    have hft:x.take (i+1)=x.take i++[x[i]]:=List.take_succ_eq_append_getElem p1
    by_cases c1:(20:Int) < x[i].x.length
    · simp only [w91_K0];rw [ck_unf w91_B0.eq_1]
      simp (disch:=omega) [p1,h5,c1,hlives,wI64,H.inl,inlB,H.pp,ppB]
    · by_cases c2:(60:Int) < s+x[i].x.length
      · simp only [w91_K0];rw [ck_unf w91_B0.eq_1]
        simp (disch:=omega) [p1,h5,c1,c2,hlives,wI64,H.inl,inlB,H.pp,ppB]
      · have hsm:=small_ok H.toHasSm ⟨0,[],true,[],true,x[i].x,x[i].e⟩ (by simp) (by simp) hxl
        rcases hsm with hsm | ⟨hsm,hS⟩
        · simp only [w91_K0];rw [ck_unf w91_B0.eq_1]
          simp at hsm
          simp (disch:=omega) [p1,h5,c1,c2,hsm,hlives,wI64,H.inl,inlB,H.pp,ppB]
        · have this:=ih (i+1) (by omega) (by omega) (s+x[i].x.length) (by omega) (by rw [hft,wN_app,wN_one,hsw]) (fun n hn=>by
           rw [hft] at hn
           rcases List.mem_append.1 hn with hn | hn
           · exact hm n hn
           · simp only [List.mem_singleton] at hn;subst hn;exact hS.m)
          simp only [w91_K0] at this ⊢;rw [ck_unf w91_B0.eq_1]
          simp at this hsm
          simp (disch:=omega) [p1,h5,c1,c2,hsm,wI64,H.inl,inlB,H.pp,ppB,this]
variable (hx:∀ n ∈ x,n.x.length≤9223372036854775807)
include hx
theorem bm_law (hR:x.length≤40→wN x≤60→(∀ n ∈ x,∀ y ∈ n.x,y.m.length≤12) →
 CK C 0 (pureFin [.tmp 4]) [] w91_c0 ⟨[(2,.ptr 0 0 0),(1,.ro 5 (x.map eNt) xe)],[(0,.cells 3 [[.ro 4 q qe,.ro 1 zz ze,.int .u8 r]] true true)],1⟩=some (.bool true)) :
 FnW C 91 [.agg [.ro 4 q qe,.ro 1 zz ze,.int .u8 r],.ro 5 (x.map eNt) xe]=some (.bool true):=by
 have h:=bm_loop H hlives q qe zz ze r x xe hx hR x.length 0 rfl (by omega) 0 (by omega) (by simp [wN]) (by simp)
 rw [fnW_eq H.f91 rfl]
 simp only [w91_K0] at h
 simp at h
 simp (disch:=omega) [w91,h,wI64,H.inl,inlB,H.pp,ppB]
end walk
section tail
variable (H:HasBm C) (hlives:FnW C 166 []=some (.bool true)) (q:List (List AV)) (qe:Bool) (zz:List (List AV)) (ze:Bool) (r:Int) (x:List Nt) (xe:Bool) (h40:x.length≤40) (ks:List Kd) (R:List En) (f:Bool)
 (hlof:FnW C 130 [.agg [.ro 4 q qe,.ro 1 zz ze,.int .u8 r]]=some (.tup [aR ks true 12,aL R f]))
 (X:List (List AV)) (g:Bool) (B D:Int) (h170:FnW C 170 [aR ks true 12,.ro 6 (R.map eEn) f,.ro 5 (x.map eNt) xe]=some (.tup [.ro 6 X g,.int .i64 B,.int .i64 D]))
include H hlives h40 hlof h170
theorem bm_err (E:Int) (hE:E≠0) (h1:FnW C 167 [.ro 5 (x.map eNt) xe]=some (.tup [.ro 5 [] true,.int .i64 E])) (h2:FnW C 168 [.ro 5 (x.map eNt) xe]=some (.tup [.ro 5 [] true,.int .i64 E])) (h3:FnW C 169 [.ro 5 [] true,.ro 5 [] true]=some (.int .i64 1)) :
 CK C 0 (pureFin [.tmp 4]) [] w91_c0 ⟨[(2,.ptr 0 0 0),(1,.ro 5 (x.map eNt) xe)],[(0,.cells 3 [[.ro 4 q qe,.ro 1 zz ze,.int .u8 r]] true true)],1⟩=some (.bool true):=by
 have hn:¬ ((40:Int) < x.length):=by omega
 simp only [aR,aL] at hlof h170
 rw [ck_unf w91_c0.eq_1]
 simp (disch:=omega) [hn,h1,h2,h3,hlof,h170,hE,hlives,wI64,H.inl,inlB,H.pp,ppB]
variable (N:List Nt) (f2:Bool) (h1:FnW C 167 [.ro 5 (x.map eNt) xe]=some (.tup [.ro 5 (N.map eNt) f2,.int .i64 0])) (h2:FnW C 168 [.ro 5 (x.map eNt) xe]=some (.tup [.ro 5 ((N.map Nt.ow).map eNt) true,.int .i64 0])) (h3:FnW C 169 [.ro 5 ((N.map Nt.ow).map eNt) true,.ro 5 (N.map eNt) f2]=some (.int .i64 1)) (hN:N.length≤x.length)
include h1 h2 h3 hN
theorem bm_ref (hD:D≠0) :
 CK C 0 (pureFin [.tmp 4]) [] w91_c0 ⟨[(2,.ptr 0 0 0),(1,.ro 5 (x.map eNt) xe)],[(0,.cells 3 [[.ro 4 q qe,.ro 1 zz ze,.int .u8 r]] true true)],1⟩=some (.bool true):=by
 have hn:¬ ((40:Int) < x.length):=by omega
 have hn2:¬ (x.length < N.length):=by omega
 simp only [aR,aL] at hlof h170
 rw [ck_unf w91_c0.eq_1]
 simp at h2 h3
 simp (disch:=omega) [hn,hn2,h1,h2,h3,hlof,h170,hD,hlives,wI64,H.inl,inlB,H.pp,ppB]
theorem bm_good (hD:D=0) (A:List (List AV)) (h171:FnW C 171 [aR ks true 12,aL R f,.ro 5 ((N.map Nt.ow).map eNt) true]=some (.tup [.agg [.ro 6 A true],.int .i64 N.length,.int .i64 0])) (h172:FnW C 172 [.ro 6 A true,.ro 6 X g]=some (.int .i64 1)) :
 CK C 0 (pureFin [.tmp 4]) [] w91_c0 ⟨[(2,.ptr 0 0 0),(1,.ro 5 (x.map eNt) xe)],[(0,.cells 3 [[.ro 4 q qe,.ro 1 zz ze,.int .u8 r]] true true)],1⟩=some (.bool true):=by
 subst hD
 have hn:¬ ((40:Int) < x.length):=by omega
 have hn2:¬ (x.length < N.length):=by omega
 simp only [aR,aL] at hlof h170 h171
 rw [ck_unf w91_c0.eq_1]
 simp at h2 h3 h171
 simp (disch:=omega) [hn,hn2,h1,h2,h3,hlof,h170,h171,h172,hlives,wI64,H.inl,inlB,H.pp,ppB]
end tail
theorem bmlaw_ok (H:HasBm C) (hone:∀ q:Q4,QIn q→∃ i:It,FnW C 422 [.agg (eQ q)]=some (eIt i)∧Good i) (hlives:FnW C 166 []=some (.bool true))
 (q:List Q4) (qe:Bool) (hq:∀ x ∈ q,QIn x) (z:List Int) (ze:Bool) (hz:∀ s ∈ z,0≤s∧s≤255) (hzl:z.length < 9223372036854775808) (r:Int) (hr:0≤r∧r≤255)
 (x:List Nt) (xe:Bool) (hxl:∀ n ∈ x,n.x.length≤9223372036854775807) (hxr:∀ n ∈ x,RgN n) (hxi:∀ n ∈ x,∀ y ∈ n.x,(0≤y.k∧y.k < 18446744073709551616)∧(0≤y.t∧y.t≤255)) :
 FnW C 91 [.agg [.ro 4 (q.map eQ) qe,.ro 1 (z.map eU8) ze,.int .u8 r],.ro 5 (x.map eNt) xe]=some (.bool true):=by
 refine bm_law H hlives _ _ _ _ _ x xe hxl ?_
 intro h40 hw hm
 have hqn:∀ n ∈ x,QN n:=fun n hn y hy=>⟨(hxi n hn y hy).1,(hxi n hn y hy).2,by have:=hm n hn y hy;omega⟩
 obtain ⟨R,f,hof,hl,hg,hnd⟩:=lof_ok H.toHasG hone q qe hq z ze hz hzl r hr
 have hck:=ck_good r hr R (by omega) hg hnd
 have hin:∀ x ∈ R,EnIn x:=fun x hx=>(hg x hx).en
 have hks:=ks_in r hr
 generalize kindsOf r=ks at *
 have hru:=hks.r
 have hkb:=kdb_in hks
 have hnt:∀ n,QN n→n.x.length≤10000→NtIn ks n:=fun n h1 h2=>⟨h1,h2,fun y _ _=>hkb y.t⟩
 have hxn:∀ n ∈ x,NtIn ks n:=fun n hn=>hnt n (hqn n hn) (by have:=wN_mem hn;omega)
 obtain ⟨N,f2,h167,hN⟩:=rmg_ok H.toHasMr x xe (by omega) hqn hxr (by omega)
 have h168:=mg_ok H.toHasMg x xe (by omega) hqn hxr (by omega)
 have h170:=rnall_ok H.toHasAl ks true 12 hru R f hin hck x xe hxn (by omega)
 have hnil:FnW C 169 [.ro 5 [] true,.ro 5 [] true]=some (.int .i64 1):=by
  have:=sal_ok H.toHasSl [] true true (by simp) (by simp) (by simp)
  simpa using this
 by_cases c1:32 < (x.length:Int)
 · rw [if_pos c1] at h167 h168 h170
   have h170':FnW C 170 [aR ks true 12,.ro 6 (R.map eEn) f,.ro 5 (x.map eNt) xe]=some (.tup [.ro 6 [] true,.int .i64 0,.int .i64 3]):=h170
   exact bm_err H hlives _ _ _ _ _ x xe h40 ks R f hof [] true 0 3 h170' 3 (by simp) h167 h168 hnil
 · rw [if_neg c1] at h167 h168 h170
   have hA:∃ (X:List (List AV)) (g:Bool) (B:Int),allR ks 12 R x 0 (if x.length=0 then f else false)=.tup [.ro 6 X g,.int .i64 B,.int .i64 (allE ks 12 R x)]∧(allE ks 12 R x=0→X=(allL ks R x).map eEn):=by
    unfold allR
    by_cases c:allE ks 12 R x=0
    · rw [if_neg (by simp [c]),c]
      exact ⟨_,_,_,rfl,fun _=>rfl⟩
    · rw [if_pos c]
      exact ⟨_,_,_,rfl,fun h=>absurd h c⟩
   obtain ⟨X,g,B,hA,hX⟩:=hA
   rw [hA] at h170
   by_cases c2:ntX x=0
   · have hNs:=hN c1 c2
     rw [if_neg (by simp [c2])] at h167 h168
     have hqs:∀ n ∈ x.map Nt.st,QN n:=fun n hn=>by
      obtain ⟨m,hm,rfl⟩:=List.mem_map.1 hn
      exact hqn m hm
     obtain ⟨u1,u2,u3⟩:=mrgF_q (x.map Nt.st) [] (by simp) hqs
     have hgot:(mrgF [] (x.map Nt.st)).map Nt.ow=N.map Nt.ow:=by rw [← hNs,ow_st]
     rw [hgot] at h168
     rw [← hNs] at u1 u2 u3
     rw [wN_st,wN_st,wN_nil] at u2
     have hNl:N.length≤x.length:=by simpa using u3
     have hNq:∀ n ∈ N,QN n:=fun n hn=>u1 n.st (List.mem_map.2 ⟨n,hn,rfl⟩)
     have hNx:∀ n ∈ N,n.x.length≤10000:=fun n hn=>by have:=wN_mem hn;omega
     have hsal:=sal_ok H.toHasSl N true f2 (by omega) (fun n hn=>by have:=hNx n hn;omega) (fun n hn y hy=>(hNq n hn y hy).m)
     by_cases c3:allE ks 12 R x=0
     · have hon:∀ n ∈ N.map Nt.ow,NtIn ks n:=fun n hn=>by
        obtain ⟨m,hm,rfl⟩:=List.mem_map.1 hn
        refine hnt _ (fun y hy=>?_) (by rw [show m.ow.x.length=m.x.length from List.length_map ..];exact hNx m hm)
        obtain ⟨w,hw2,rfl⟩:=List.mem_map.1 hy
        have:=hNq m hm w hw2
        exact ⟨this.k,this.t,this.m⟩
       have h171:=nall_ok H.toHasAl ks true 12 hru R f (by omega) hin (N.map Nt.ow) true hon (by rw [List.length_map];omega)
       obtain ⟨s1,s2⟩:=mrgF_sound hkb hck (x.map Nt.st) [] (by simp) hqs (by rw [wN_st,wN_nil];omega) rfl (by
        show allE ks 12 R (x.map Nt.st)=0
        rw [(all_st ks 12 x R).1];exact c3)
       have s3:allL ks R (mrgF [] (x.map Nt.st))=allL ks R x:=by
        rw [s2]
        exact (all_st ks 12 x R).2
       rw [← hNs,(all_st ks 12 N R).1] at s1
       rw [← hNs,(all_st ks 12 N R).2] at s3
       obtain ⟨o1,o2⟩:=all_ow ks 12 N R
       unfold nallA allA at h171
       rw [if_neg (by simp [hck]),if_neg (by rw [List.length_map];omega),o1,s1,if_neg (by simp),o2,s3,List.length_map,Nat.zero_add] at h171
       have hLi:=all_in x R hxn hin c3
       have hLc:=ck_len (all_ck x R hxn hck c3)
       have h172:=rsame_ok H.toHasMg.toHasMn.toHasPu.toHasNe.toHasL ((allL ks R x).map En.own) (allL ks R x) true g (by rw [List.length_map];omega) (by omega) (fun y hy=>by
        obtain ⟨w,hw2,rfl⟩:=List.mem_map.1 hy
        exact (hLi w hw2).i.m) (fun y hy=>(hLi y hy).i.m)
       rw [sameL_own,List.length_map,decide_eq_true rfl,Bool.and_self,if_pos rfl,← hX c3] at h172
       exact bm_good H hlives _ _ _ _ _ x xe h40 ks R f hof X g B _ h170 N f2 h167 h168 hsal hNl c3 _ h171 h172
     · exact bm_ref H hlives _ _ _ _ _ x xe h40 ks R f hof X g B _ h170 N f2 h167 h168 hsal hNl c3
   · rw [if_pos c2] at h167 h168
     exact bm_err H hlives _ _ _ _ _ x xe h40 ks R f hof X g B _ h170 _ c2 h167 h168 hnil
end Go.D
end
