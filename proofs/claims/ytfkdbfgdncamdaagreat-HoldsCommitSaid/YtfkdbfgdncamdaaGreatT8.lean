/- Part of the theory that the claims of this work use: D30, D31, D38, D40, D47, D48, D49, E17, Q10, Q11, Q12, Q13, Q14, Q15, Q16, Q17, Q18, Q19, Q20, Q21, Q22, Q23, Q24, Q25, Q26, Q27, Q28, Q29, Q30, Q31, Q32, Q33, Q34. No conditions of its own. -/
import Derived.Test.YtfkdbfgdncamdaaGreatT7
set_option linter.unusedVariables false
set_option linter.unusedSimpArgs false
set_option maxHeartbeats 4000000
set_option maxRecDepth 10000
section
namespace Go.D
open Go Go.Pav Go.Pw P
attribute [-simp] List.getElem_cons_drop
variable {C:aJ}
theorem Ie.ow {e:En} (h:Ie e):Ie e.own:=⟨⟨h.i.k,h.i.t,h.i.m⟩,h.s⟩
@[simp] theorem LZ:∀ h:aI,qX 0 h=[]
 | []=>rfl
 | (b,o)::r=>by rw [qX,if_neg (by omega),LZ r]
@[simp] theorem PW (π:Nat→Option Nat):∀ h:aI,jA 0 π h=some []
 | []=>rfl
 | (b,o)::r=>by rw [jA,if_neg (by omega),PW π r]
@[simp] theorem apt (h:aI) (n:Nat) (o:dG) (k:Nat):Pav.get (Pav.put h n o) k=if n=k then some o else Pav.get h k:=get_put h n o k
end Go.D
end
section
namespace Go.D
open Go Go.Pav Go.Pw P
attribute [-simp] List.getElem_cons_drop
variable {C:aJ} {α β:Type}
theorem ac4 {ks:List Kd} {x:It} (h:itE ks 12 x false=0):xB ks.length x=true∧kW (jK ks x.t).p x 12=0:=by
 unfold itE at h
 cases c:xB ks.length x
 · rw [c] at h;simp at h
 · rw [c] at h
   by_cases d:kW (jK ks x.t).p x 12=0
   · exact ⟨rfl,d⟩
   · simp [d] at h
end Go.D
end
section
namespace Go.D
open Go Go.Pav Go.Pw P
attribute [-simp] List.getElem_cons_drop
variable {C:aJ}
structure aan (C:aJ):Prop extends Y2 C where
 akb:C.fns.get 417=some adF
structure LG (r:Int) (l:List En):Prop where
 hr:0≤r∧r≤255
 hl:l.length≤12
 z:Szd l
 en:∀ x ∈ l,Ie x
 ck:ckE (aA r) 12 l=0
 ck1:∀ x ∈ l,ckE (aA r) 12 [x]=0
 t:∀ x ∈ l,0≤x.i.t∧x.i.t < (aA r).length
 rE:∀ x ∈ l,kW (jK (aA r) x.i.t).p x.i 12=0
theorem LG.Vj {r:Int} {l:List En} (hr:0≤r∧r≤255) (hl:l.length≤12) (hg:∀ e ∈ l,gu (aA r) e) (hn:(cO l).Nodup):LG r l where
 hr:=hr
 hl:=hl
 z:=aa8 hl hg
 en:=fun x hx=>(hg x hx).en
 ck:=Uu r hr l (by omega) hg hn
 ck1:=fun x hx=>Uu r hr [x] (by simp) (by intro e he;rw [List.mem_singleton] at he;subst he;exact hg _ hx) (by simp [cO])
 t:=fun x hx=>by have:=(hg x hx).i.t;rw [(afj r hr).l];omega
 rE:=fun x hx=>(ac4 (hg x hx).ok).2
theorem ET {ks:List Kd} (h:Iu ks) {t:Int} (h0:0≤t∧t < ks.length):fG (jK ks t).p:=by
 obtain ⟨n,rfl⟩:∃ n:Nat,t=n:=⟨t.toNat,by omega⟩
 rw [jD (by omega:n < ks.length)]
 exact h.f _ (List.getElem_mem _)
theorem UY {p:Pt} {x:It} (h:kW p x 12=0):cnt (xU p x 12)≠0:=by
 unfold xU
 rw [if_pos h]
 unfold kW at h
 intro c
 rw [if_neg (by omega)] at h
 split at h
 · cases h
 · split at h
   · cases h
   · rw [if_pos (.inl c)] at h;cases h
mutual
theorem afu:∀ n m:Nd,n.z=m.z→eqN n m=true
 | ⟨k,t,y,a,ae,x,ch,ce⟩,⟨k',t',y',a',ae',x',ch',ce'⟩,h=>by
  rw [Nd.z,Nd.z] at h
  simp only [Nd.mk.injEq,true_and,and_true] at h
  obtain ⟨h1,h2,h3,h4,h5,h6⟩:=h
  rw [eqN,Zh ch ch' h6]
  simp [h1,h2,h3,h4,h5]
theorem Zh:∀ l r:List Nd,Nd.zs l=Nd.zs r→rO l r=true
 | [],[],_=>by rw [rO]
 | n::l,m::r,h=>by
  rw [Nd.zs,Nd.zs] at h
  simp only [List.cons.injEq] at h
  rw [rO,afu n m h.1,Zh l r h.2];rfl
 | [],_::_,h=>by rw [Nd.zs,Nd.zs] at h;cases h
 | _::_,[],h=>by rw [Nd.zs,Nd.zs] at h;cases h
end
section
variable {r:Int} {l:List En} (L:LG r l)
end
end Go.D
end
section
namespace Go.D
open Go Go.Pav Go.Pw P
attribute [-simp] List.getElem_cons_drop
variable {C:aJ}
structure Ov (C:aJ):Prop extends Va C,Vw C,aan C where
 f296:C.fns.get 296=some Ls
 f283:C.fns.get 283=some acg
theorem V9 (H:Ov C) (vw ov ls:Int) (a b c:Kd) (ke:Bool) (cap ar fl:Int):FnW C 296 [.agg (cCf vw ov ls [a,b,c] ke cap ar fl)]=some (aSt [] true [([],true),([],true),([],true)] false):=by
 rw [aO H.f296 rfl]
 simp [Ls,H.toQi.inl,aH,H.toQi.pp,ppB]
 rw [au uY.eq_1]
 simp (disch:=omega) [Ls,H.toQi.inl,aH,H.toQi.pp,ppB,aN]
 rw [au uY.eq_1]
 simp (disch:=omega) [Ls,H.toQi.inl,aH,H.toQi.pp,ppB,aN]
 rw [au uY.eq_1]
 simp (disch:=omega) [Ls,H.toQi.inl,aH,H.toQi.pp,ppB,aN]
 rw [au uY.eq_1]
 simp (disch:=omega) [Ls,H.toQi.inl,aH,H.toQi.pp,ppB,aN]
 rw [au Un.eq_1]
 simp (disch:=omega) [Ls,H.toQi.inl,aH,H.toQi.pp,ppB,aN]
@[simp] def eW (w:Int × Int):List AV:=[.int .u16 w.1,.int .u16 w.2]
theorem J9 {n:Nd} (h:NdV n):FZ n:=by
 induction h with
 | mk n hc h1 h2 h ih=>exact .mk n (by omega) (by omega) ih
def trK (ks:List Kd) (x:En):Nd:=OA (jK ks x.i.t).p x.i 12
theorem IY (H:aan C) {r:Int} {l:List En} (L:LG r l) (f:Bool) (i:Nat) (hi:i < l.length):FnW C 417 [aR (aA r) true 12,.ro 6 (l.map eEn) f,.int .i64 i]=some (.agg (trK (aA r) l[i]).c):=by
 have hx:=List.getElem_mem hi
 have ht:=L.t _ hx
 obtain ⟨tn,htn⟩:∃ tn:Nat,l[i].i.t=tn:=⟨l[i].i.t.toNat,by omega⟩
 have htl:tn < (aA r).length:=by omega
 have hz0:=L.rE _ hx
 have h2:=G8 H.toqw (jK (aA r) l[i].i.t).p (ET (Cj r) ht) l[i].i (L.en _ hx).i.k 12
 unfold trK
 rw [hz0,htn,jD htl] at h2
 rw [htn,jD htl]
 generalize OA (aA r)[tn].p l[i].i 12=N at *
 rw [Pt.bZ,Nd.bZ] at h2
 rw [Nd.bZ]
 simp only [eIt,htn] at h2
 rw [aO H.akb rfl]
 generalize aA r=ks at *
 simp (disch:=omega) [adF,h2,hi,htn,htl,H.inl,aH,H.pp,ppB]
theorem ZW {r:Int} {l:List En} (L:LG r l) {x:En} (hx:x ∈ l):FZ (trK (aA r) x):=by
 refine J9 (BA ?_)
 unfold trK
 rw [← wZ,← abq _ (ET (Cj r) (L.t x hx)),wZ]
 exact UY (L.rE _ hx)
def HQ (x:Hd):Prop:=FZ x.n∧∃ t:Nat,x.t=t∧t < 3
structure OL (B:Nat) (ra:List Hd) (ps:List Pl):Prop where
 rl:ra.length≤12
 pl:ps.length=3
 pb:∀ p ∈ ps,p.1.length≤B
 q:∀ x ∈ ra,HQ x
 qp:∀ p ∈ ps,∀ x ∈ p.1,HQ x
theorem rowAt_all {Q:Hd→Prop} {W:List (List Hd)} (h:∀ w ∈ W,∀ x ∈ w,Q x) (t:Int):∀ x ∈ rowAt W t,Q x:=by
 unfold rowAt
 cases hq:W[t.toNat]? with
 | none=>simp
 | some y=>exact h y (List.mem_of_getElem? hq)
theorem JY {Q:Hd→Prop} (ks:List Kd) (l:List En) (A:List Nat):∀ (ra:List Hd) (s:List (List Hd) × Int),(∀ x ∈ ra,Q x)→(∀ w ∈ s.1,∀ x ∈ w,Q x)→∀ w ∈ (cm1 ks l A ra s).1,∀ x ∈ w,Q x
 | [],s,_,h=>by simpa [cm1] using h
 | a::r,s,h1,h=>by
  simp only [cm1]
  refine JY ks l A r _ (fun x hx=>h1 x (by simp [hx])) ?_
  split
  · exact h
  · split
    · exact h
    · intro w hw
      rcases List.mem_or_eq_of_mem_set hw with q | q
      · exact h w q
      · subst q
        intro x hx
        rcases List.mem_append.1 hx with q | q
        · exact rowAt_all h _ x q
        · rw [List.mem_singleton] at q;subst q;exact h1 _ (by simp)
theorem KP (ks:List Kd) (l:List En) (A:List Nat):∀ (ra:List Hd) (s:List (List Hd) × Int),(cm1 ks l A ra s).1.length=s.1.length
 | [],s=>rfl
 | a::r,s=>by
  simp only [cm1]
  rw [KP ks l A r]
  split
  · rfl
  · split
    · rfl
    · simp
theorem pI {Q:Hd→Prop} (tr:En→Nd) (ra:List Hd) (l:List En) (hl:∀ e ∈ l,Q ⟨e.i.k,e.i.t,tr e⟩):∀ (A:List Nat) (s:List Hd × List (List Hd) × Int × Int),(∀ x ∈ s.1,Q x)→(∀ w ∈ s.2.1,∀ x ∈ w,Q x) →
 (∀ x ∈ (cm2 tr ra l A s).1,Q x)∧∀ w ∈ (cm2 tr ra l A s).2.1,∀ x ∈ w,Q x
 | [],s,h1,h2=>by simpa [cm2] using ⟨h1,h2⟩
 | a::r,s,h1,h2=>by
  simp only [cm2]
  cases hq:l[a]? with
  | none=>exact pI tr ra l hl r s h1 h2
  | some e =>
   have he:=hl e (List.mem_of_getElem? hq)
   have h3:∀ x ∈ s.1++[⟨e.i.k,e.i.t,tr e⟩],Q x:=by
    intro x hx
    rcases List.mem_append.1 hx with q | q
    · exact h1 x q
    · rw [List.mem_singleton] at q;subst q;exact he
   simp only
   split
   · exact pI tr ra l hl r _ h3 h2
   · split
     · exact pI tr ra l hl r _ h3 h2
     · refine pI tr ra l hl r _ h3 ?_
       intro w hw
       rcases List.mem_or_eq_of_mem_set hw with q | q
       · exact h2 w q
       · subst q
         intro x hx
         exact rowAt_all h2 _ x (List.mem_of_mem_take hx)
theorem Np (B:Nat):∀ L:List (List Hd),(∀ w ∈ L,w.length≤B)→kY L≤64 * B * L.length
 | [],_=>by simp [kY]
 | l::r,h=>by
  have h1:=Np B r (fun w hw=>h w (by simp [hw]))
  have h2:=vg l
  have h3:=h l (by simp)
  simp only [kY,List.length_cons,Nat.mul_add,Nat.mul_one]
  omega
abbrev ofH (cf:List AV) (R1 R2:List En) (g1 g2:Bool) (X:List AV) (w:List (Int × Int)) (we:Bool) (ra:List Hd) (ea:Bool) (ps:List Pl) (pe:Bool):aI :=
 [(0, .cells 2 [[.ro 8 (ra.map eHd) ea, .ro 1 (ps.map ePl) pe]] true true), (1, .cells 2 [[.ro 6 (R1.map eEn) g1, .ro 6 (R2.map eEn) g2]] true true), (2, .cells 7 [cf] true true), (3, .cells 2 [[.ro 6 [] true, .ro 6 [] true]] true true), (4, .cells 2 [[.ro 8 [] true, .ro 1 [] true]] true true),
   (5,.cells 7 [[.int .i64 0,.int .i64 0,.int .i64 0,.ro 9 [] true,.int .i64 0,.int .i64 0,.int .u8 0]] true true),(6,.cells 7 [X] true true)]
abbrev ofE (i:Nat):List (Nat × AV):=[(12,.int .i64 i),(11,.ptr 0 0 0),(10,.ptr 1 0 0),(9,.ptr 2 0 0),(4,.ptr 3 0 0),(3,.ptr 4 0 0),(2,.ptr 5 0 0),(1,.ptr 6 0 0)]
structure Vo (C:aJ):Prop extends Ov C
mutual
/-- A tree; all memory its own. -/
def jO:Nd→Nd
 | ⟨k,t,y,a,ae,x,ch,ce⟩=>⟨k,t,y,a,true,x,IC ch,true⟩
def IC:List Nd→List Nd
 | []=>[]
 | n::r=>jO n::IC r
end
theorem Qd:∀ l:List Nd,IC l=l.map jO
 | []=>rfl
 | n::r=>by rw [IC,Qd r];rfl
theorem Lm (n:Nd):jO n=⟨n.k,n.t,n.y,n.a,true,n.x,n.ch.map jO,true⟩:=by cases n;rw [jO,Qd]
mutual
theorem TP:∀ n:Nd,(jO n).z=n.z
 | ⟨k,t,y,a,ae,x,ch,ce⟩=>by rw [jO,Nd.z,Nd.z,Um ch]
theorem Um:∀ l:List Nd,Nd.zs (IC l)=Nd.zs l
 | []=>rfl
 | n::r=>by rw [IC,Nd.zs,Nd.zs,TP n,Um r]
end
theorem Yf (H:Vo C) (n:Nd) (hl:n.ch.length≤16) (ih:∀ c ∈ n.ch,FnW C 507 [.agg c.c,.bool true]=some (.agg (jO c).c)):∀ m i,m+i=n.ch.length→∀ G:List Nd,G.length=i→G=(n.ch.take i).map jO →
 Eh C ⟨[(23,.int .i64 i),(22,.int .i64 n.ch.length),(21,.ro 6 (n.ch.map Nd.c) n.ce),(5,.sl 0 6 0 n.ch.length n.ch.length true),(4,.ptr 1 0 0),(2,.ptr 2 0 0),(1,.bool true)],
  [(0,.cells 6 (G.map Nd.c++List.replicate m [.int .u8 0,.str [],.str [],.ro 2 [] true,.str [],.ro 6 [] true]) true true),(1,.cells 6 [[.int .u8 0,.str [],.str [],.ro 2 [] true,.str [],.ro 6 [] true]] true true),
   (2,.cells 6 [[.int .u8 n.k,.str n.t,.str n.y,.ro 2 (n.a.map eA) true,.str n.x,.ro 6 (n.ch.map Nd.c) n.ce]] true true)],3⟩=some (.agg (jO n).c):=by
 intro m
 induction m with
 | zero =>
  intro i hi G hG hGe
  have h3:¬ i < n.ch.length:=by omega
  have e1:n.ch.take i=n.ch:=List.take_of_length_le (by omega)
  have e2:List.take n.ch.length (List.map Nd.c G)=List.map Nd.c G:=List.take_of_length_le (by simp;omega)
  rw [Nd.bZ (jO n),Lm]
  rw [e1] at hGe
  rw [← hGe]
  simp only [Eh];rw [au yw.eq_1]
  have e3:G.length=n.ch.length:=by omega
  simp (disch:=omega) [au J8.eq_1,h3,e2,e3]
 | succ m ihm =>
  intro i hi G hG hGe
  have h1:i < n.ch.length:=by omega
  have this:=ihm (i+1) (by omega) (G++[jO n.ch[i]]) (by simp [hG]) (by rw [hGe,List.take_add_one,List.getElem?_eq_getElem h1,List.map_append];rfl)
  have hs:=ih n.ch[i] (List.getElem_mem h1)
  have g1:=Yv Nd.c G [.int .u8 0,.str [],.str [],.ro 2 [] true,.str [],.ro 6 [] true] m
  have g2:=aaA Nd.c G [.int .u8 0,.str [],.str [],.ro 2 [] true,.str [],.ro 6 [] true] m (jO n.ch[i])
  rw [hG] at g1 g2
  simp only [Eh] at this ⊢;rw [au yw.eq_1]
  simp at this
  simp at g2
  simp (disch:=omega) [h1,hs,aN,H.toQi.inl,aH,H.toQi.pp,ppB,g1,g2,this]
theorem Xz (H:Vo C) (n:Nd) (ha:n.a.length≤8) (hl:n.ch.length≤16) (ih:∀ c ∈ n.ch,FnW C 507 [.agg c.c,.bool true]=some (.agg (jO c).c)):FnW C 507 [.agg n.c,.bool true]=some (.agg (jO n).c):=by
 have h1:=Jt H.toY2 n.a n.ae (by omega)
 have h2:=Po H.toY2 n.a n.a.isEmpty
 have h3:=Yf H n hl ih n.ch.length 0 (by omega) [] rfl rfl
 rw [aO H.aj3 rfl,Nd.bZ n]
 simp only [Eh] at h3
 simp at h3
 have h4:n.ch.length * 105≤35184372088832:=by omega
 simp (disch:=omega) [aex,h1,h2,h3,h4,H.toQi.inl,aH,H.toQi.pp,ppB]
theorem ac3 (H:Vo C) {n:Nd} (h:NdV n):FnW C 507 [.agg n.c,.bool true]=some (.agg (jO n).c):=by
 induction h with
 | mk n hc h1 h2 h ih=>exact Xz H n h1 h2 ih
def fH (h:Hd):Hd:=⟨h.k,h.t,jO h.n⟩
abbrev zH:List AV:=[.int .u64 0,.int .u8 0,.int .u8 0,.str [],.str [],.ro 2 [] true,.str [],.ro 6 [] true]
end Go.D
end
section
namespace Go.D
open Go Go.Pav Go.Pw P
attribute [-simp] List.getElem_cons_drop
variable {C:aJ}
structure akq (C:aJ):Prop extends Vo C
structure qU (C:aJ):Prop extends akq C where
 f277:C.fns.get 277=some acI
 f278:C.fns.get 278=some acz
 f279:C.fns.get 279=some ad7
 akm:C.fns.get 427=some aef
 akn:C.fns.get 428=some acA
 aiW:C.fns.get 429=some adL
 ajy:C.fns.get 430=some ab9
 ajt:C.fns.get 514=some aeA
def Pj (k:Kd):Prop:=0≤k.pl∧k.pl≤16
theorem adw (H:qU C) (k:Kd) (h:Pj k):FnW C 427 [.agg (eKd k)]=some (.bool false):=by
 have h1:¬ k.pl < 0:=by have:=h.1;omega
 have h2:¬ 16 < k.pl:=by have:=h.2;omega
 rw [aO H.akm rfl]
 simp [aef,h1,h2]
theorem Wy (H:qU C) (ks:List Kd) (e:Bool) (hl:ks.length≤1000000) (hp:∀ k ∈ ks,Pj k):∀ n i,n+i=ks.length →
 nJ C ⟨[(8,.int .i64 i),(7,.int .i64 ks.length),(1,.fn 427 []),(0,.ro 9 (ks.map eKd) e)],[],0⟩=some (.int .i64 (-1)):=by
 intro n
 induction n with
 | zero =>
  intro i hi
  have h3:¬ i < ks.length:=by omega
  simp only [nJ];rw [au oW.eq_1]
  simp (disch:=omega) [au Ee.eq_1,h3]
 | succ n ih =>
  intro i hi
  have h1:i < ks.length:=by omega
  have hb:=adw H ks[i] (hp _ (List.getElem_mem h1))
  simp only [eKd] at hb
  have hv:=ih (i+1) (by omega)
  simp only [nJ] at hv ⊢;rw [au oW.eq_1]
  simp at hv
  simp (disch:=omega) [h1,aN,hb,H.toQi.inl,aH,H.toQi.pp,ppB,hv]
theorem Yj (H:qU C) (ks:List Kd) (e:Bool) (hl:ks.length≤1000000) (hp:∀ k ∈ ks,Pj k):FnW C 232 [.ro 9 (ks.map eKd) e,.fn 427 []]=some (.bool false):=by
 have h:=Wy H ks e hl hp ks.length 0 (by simp)
 simp only [nJ] at h
 simp at h
 have h2:FnW C 405 [.ro 9 (ks.map eKd) e,.fn 427 []]=some (.int .i64 (-1)):=by
  rw [aO H.aeu rfl]
  simp [Ye,h]
 rw [aO H.f232 rfl]
 simp [WX,H.toQi.inl,aH,H.toQi.pp,ppB,h2]
theorem A8 (H:qU C) (vw ov ls:Int) (ks:List Kd) (ke:Bool) (cap ar fl:Int):FnW C 279 [.agg (cCf vw ov ls ks ke cap ar fl)]=some (aR ks ke cap):=by
 rw [aO H.f279 rfl]
 simp [ad7,H.toQi.inl,aH,H.toQi.pp,ppB]
theorem aaQ (H:qU C) (vw ov ls:Int) (ks:List Kd) (ke:Bool) (cap ar fl:Int) (hr:Iu ks) (hk:QM ks cap=true) (hl:ks.length≤1000) (hp:∀ k ∈ ks,Pj k) (ha:1≤ar∧ar≤65536):FnW C 277 [.agg (cCf vw ov ls ks ke cap ar fl)]=some (.int .i64 0):=by
 have h1:=A8 H vw ov ls ks ke cap ar fl
 have h2:=PU H.toDl ks ke cap hr
 have h3:=Yj H ks ke (by omega) hp
 rw [if_pos hk] at h2
 have a1:¬ ar < 1:=by omega
 have a2:¬ 65536 < ar:=by omega
 rw [aO H.f277 rfl]
 simp [acI,H.toQi.inl,aH,H.toQi.pp,ppB,h1,h2,h3,a1,a2]
structure VH (ks:List Kd) (cap:Int) (h:Hd):Prop where
 k:h.k≠0
 t:∃ t:Nat,h.t=t∧t < ks.length
 c:cnt h.n≠0∧(cnt h.n:Int)≤cap
 n:h.n.k=(jK ks h.t).p.k∧h.n.t=(jK ks h.t).p.t
theorem Jj (H:qU C) (vw ov ls:Int) (ks:List Kd) (ke:Bool) (cap ar fl:Int) (h:Hd) (V:VH ks cap h) (hl:ks.length≤255):FnW C 428 [.agg (cCf vw ov ls ks ke cap ar fl),.agg (eHd h)]=some (.bool true):=by
 have h1:=tY H.toNb.toOt h.n
 have h2:=zD H.toNb.toOt h.n
 have hv:=V.k
 obtain ⟨t,ht,htl⟩:=V.t
 rw [if_neg V.c.1] at h1
 have hc:¬ cap < (cnt h.n:Int):=by have:=V.c.2;omega
 have hn:=V.n
 rw [ht,jD htl] at hn
 rw [Nd.bZ,hn.1,hn.2] at h1 h2
 have c1:¬ (ks.length:Int)≤t:=by omega
 rw [aO H.akn rfl]
 unfold eHd
 rw [Nd.bZ]
 simp (disch:=omega) [acA,H.toQi.inl,aH,H.toQi.pp,ppB,aN,h1,h2,hv,ht,htl,hc,c1,hn.1,hn.2]
end Go.D
end
section
namespace Go.D
open Go Go.Pav Go.Pw P
attribute [-simp] List.getElem_cons_drop
variable {C:aJ}
section
variable (vw ov ls:Int) (ks:List Kd) (ke:Bool) (cap ar fl:Int)
theorem agj (H:qU C) (hl:ks.length≤255) (i:Nat) (h:Hd) (V:VH ks cap h) (ht:h.t=i):FnW C 430 [.agg (eHd h),.rop [.int .i64 i],.rop (cCf vw ov ls ks ke cap ar fl)]=some (.bool false):=by
 have h1:=Jj H vw ov ls ks ke cap ar fl h V hl
 obtain ⟨t,hq,htl⟩:=V.t
 have hti:t=i:=by omega
 subst hti
 rw [aO H.ajy rfl]
 unfold eHd at h1 ⊢
 rw [Nd.bZ] at h1 ⊢
 rw [ht] at h1 ⊢
 simp (disch:=omega) [ab9,H.toQi.inl,aH,H.toQi.pp,ppB,h1,aN]
theorem Xt (H:qU C) (hl:ks.length≤255) (i:Nat) (l:List Hd) (e:Bool) (hll:l.length≤1000000) (hv:∀ h ∈ l,VH ks cap h∧h.t=i):∀ n k,n+k=l.length →
 ER C ⟨[(8,.int .i64 k),(7,.int .i64 l.length),(1,.fn 430 [.rop [.int .i64 i],.rop (cCf vw ov ls ks ke cap ar fl)]),(0,.ro 8 (l.map eHd) e)],[],0⟩=some (.int .i64 (-1)):=by
 intro n
 induction n with
 | zero =>
  intro k hk
  have h3:¬ k < l.length:=by omega
  simp only [ER];rw [au Aj.eq_1]
  simp (disch:=omega) [au MK.eq_1,h3]
 | succ n ih =>
  intro k hk
  have h1:k < l.length:=by omega
  have hb:=agj vw ov ls ks ke cap ar fl H hl i l[k] (hv _ (List.getElem_mem h1)).1 (hv _ (List.getElem_mem h1)).2
  simp only [eHd] at hb
  have hq:=ih (k+1) (by omega)
  simp only [ER] at hq ⊢;rw [au Aj.eq_1]
  simp at hq
  simp (disch:=omega) [h1,aN,hb,H.toQi.inl,aH,H.toQi.pp,ppB,hq]
theorem afd (H:qU C) (hl:ks.length≤255) (i:Nat) (l:List Hd) (e:Bool) (hll:l.length≤1000000) (hv:∀ h ∈ l,VH ks cap h∧h.t=i) :
 FnW C 429 [.ro 8 (l.map eHd) e,.fn 430 [.rop [.int .i64 i],.rop (cCf vw ov ls ks ke cap ar fl)]]=some (.bool false):=by
 have h:=Xt vw ov ls ks ke cap ar fl H hl i l e hll hv l.length 0 (by simp)
 simp only [ER] at h
 simp at h
 have h2:FnW C 514 [.ro 8 (l.map eHd) e,.fn 430 [.rop [.int .i64 i],.rop (cCf vw ov ls ks ke cap ar fl)]]=some (.int .i64 (-1)):=by
  rw [aO H.ajt rfl]
  simp [aeA,h]
 rw [aO H.aiW rfl]
 simp [adL,H.toQi.inl,aH,H.toQi.pp,ppB,h2]
structure CkS (ra:List Hd) (ps:List Pl):Prop where
 rl:ra.length≤1024
 rv:∀ h ∈ ra,VH ks cap h
 rn:(ra.map Hd.k).Nodup
 pl:ps.length=ks.length
 pv:∀ (i:Nat) (p:Pl),ps[i]?=some p→(p.1.length:Int)≤tX ks i∧∀ h ∈ p.1,VH ks cap h∧h.t=i
theorem OH (H:qU C) (hl:ks.length≤255) (hpm:∀ k ∈ ks,Pj k) (ra:List Hd) (ps:List Pl) (pe:Bool) (S:CkS ks cap ra ps):∀ n i,n+i=ps.length →
 Dt C ⟨[(54,.int .i64 i),(53,.int .i64 ps.length),(52,.ro 1 (ps.map ePl) pe),(2,.ptr 0 0 0)],[(0,.cells 7 [cCf vw ov ls ks ke cap ar fl] true true)],1⟩=some (.int .i64 0):=by
 intro n
 induction n with
 | zero =>
  intro i hi
  have h3:¬ i < ps.length:=by omega
  simp only [Dt];rw [au AA.eq_1]
  simp (disch:=omega) [au Ll.eq_1,h3]
 | succ n ih =>
  intro i hi
  have h1:i < ps.length:=by omega
  have h2:i < ks.length:=by rw [← S.pl];exact h1
  obtain ⟨hc,hv⟩:=S.pv i ps[i] (List.getElem?_eq_getElem h1)
  have hm:=hpm _ (List.getElem_mem h2)
  have hk:=hc
  simp [tX,h2] at hk
  have hb:=afd vw ov ls ks ke cap ar fl H hl i ps[i].1 ps[i].2 (by have:=hm.2;omega) hv
  have hq:=ih (i+1) (by omega)
  simp only [Dt] at hq ⊢;rw [au AA.eq_1]
  try simp at hb
  simp at hq
  have hk2:¬ ks[i].pl < (ps[i].1.length:Int):=by omega
  simp (disch:=omega) [H.toQi.inl,aH,H.toQi.pp,ppB,h1,h2,hk2,hb,aN,hq]
theorem RY (H:qU C) (hl:ks.length≤255) (ra:List Hd) (ea:Bool) (ps:List Pl) (pe:Bool) (S:CkS ks cap ra ps):∀ n i,n+i=ra.length →
 D6 C ⟨[(33,.int .i64 i),(32,.int .i64 ra.length),(31,.ro 8 (ra.map eHd) ea),(6,.map 0),(3,.ptr 1 0 0),(2,.ptr 2 0 0)],
  [(0,.map (tC ((ra.take i).map Hd.k))),(1,.cells 2 [[.ro 8 (ra.map eHd) ea,.ro 1 (ps.map ePl) pe]] true true),(2,.cells 7 [cCf vw ov ls ks ke cap ar fl] true true)],3⟩ =
  CK C 0 (aP [.tmp 4]) [] ES ⟨[(3,.ptr 0 0 0),(2,.ptr 1 0 0)],[(0,.cells 2 [[.ro 8 (ra.map eHd) ea,.ro 1 (ps.map ePl) pe]] true true),(1,.cells 7 [cCf vw ov ls ks ke cap ar fl] true true)],2⟩:=by
 intro n
 induction n with
 | zero =>
  intro i hi
  have h3:¬ i < ra.length:=by omega
  simp only [D6];rw [au yD.eq_1]
  simp (disch:=omega) [h3]
 | succ n ih =>
  intro i hi
  have h1:i < ra.length:=by omega
  have hrl:=S.rl
  have hv:=Jj H vw ov ls ks ke cap ar fl ra[i] (S.rv _ (List.getElem_mem h1)) hl
  have hno:((ra.take i).map Hd.k).contains ra[i].k=false:=by
   have hn:=S.rn
   rw [← List.take_append_drop i ra,List.map_append,List.nodup_append] at hn
   cases q:((ra.take i).map Hd.k).contains ra[i].k
   · rfl
   · have q1:=List.contains_iff_mem.1 q
     have q2:ra[i].k ∈ (ra.drop i).map Hd.k:=by rw [drop_cons h1];simp
     exact absurd rfl (hn.2.2 _ q1 _ q2)
  have hg:=Ar ra[i].k ((ra.take i).map Hd.k)
  have hp:=xO ra[i].k ((ra.take i).map Hd.k) hno
  rw [hno] at hg
  have hq:=ih (i+1) (by omega)
  have ht:(ra.take (i+1)).map Hd.k=(ra.take i).map Hd.k++[ra[i].k]:=by rw [List.take_add_one,List.getElem?_eq_getElem h1,List.map_append];rfl
  rw [ht] at hq
  generalize (ra.take i).map Hd.k=K at *
  simp only [D6] at hq ⊢;rw [au yD.eq_1]
  unfold eHd at hv
  rw [Nd.bZ] at hv
  simp at hq
  simp (disch:=omega) [H.toQi.inl,aH,H.toQi.pp,ppB,h1,hv,hg,hp,aN,hq,Nd.bZ]
theorem IW (H:qU C) (hF:FnW C 277 [.agg (cCf vw ov ls ks ke cap ar fl)]=some (.int .i64 0)) (hl:ks.length≤255) (hpm:∀ k ∈ ks,Pj k) (ra:List Hd) (ea:Bool) (ps:List Pl) (pe:Bool) (S:CkS ks cap ra ps) :
 FnW C 278 [.agg (cCf vw ov ls ks ke cap ar fl),aSt ra ea ps pe]=some (.int .i64 0):=by
 have h1:¬ 1024 < (ra.length:Int):=by have:=S.rl;omega
 have h2:=RY vw ov ls ks ke cap ar fl H hl ra ea ps pe S ra.length 0 (by simp)
 have h3:=OH vw ov ls ks ke cap ar fl H hl hpm ra ps pe S ps.length 0 (by simp)
 have hpl:=S.pl
 simp only [D6,List.take_zero,List.map_nil,Oc] at h2
 simp only [Dt] at h3
 rw [aO H.f278 rfl]
 rw [au ES.eq_1] at h2
 simp at h2 h3
 simp [acz,H.toQi.inl,aH,H.toQi.pp,ppB,hF,h1,hpl,h2]
 rw [hpl] at h3
 simpa using h3
end
end Go.D
end
section
namespace Go.D
open Go Go.Pav Go.Pw P
attribute [-simp] List.getElem_cons_drop
variable {C:aJ}
structure ajf (C:aJ):Prop extends qU C
def tmD (n:Nat):List Pl→Nat
 | []=>0
 | p::r=>(p.1.length - n)+tmD n r
theorem U3 (n:Nd):cnt (jO n)=cnt n:=by rw [← wZ (jO n),TP,wZ]
end Go.D
end
section
namespace Go.D
open Go Go.Pav Go.Pw P
set_option maxHeartbeats 1000000
attribute [-simp] List.getElem_cons_drop
variable {C:aJ}
structure aj1 (C:aJ):Prop extends ajf C
def TlH (o:Option dG) (b:Nat) (v:AV) (d:List Hd):Prop :=
 (d=[]∧v=.sl b 8 0 0 0 true∧o=some (.cells 8 [] true true))∨∃ (es:List Hd) (j:Nat),d=es.drop j∧j≤es.length∧es≠[]∧o=some (.cells 8 (eHs es) true true) ∧
  ((j=es.length∧v=.ro 8 [] false)∨(j < es.length∧v=.sl b 8 j (es.length - j) (es.length - j) false))
theorem TlH.frz {h:aI} {b:Nat} {v:AV} {d:List Hd} (q:TlH (Pav.get h b) b v d) (n:Nat):∃ ex,bD h (n+2) v=some (.ro 8 (eHs d) ex):=by
 rcases q with ⟨rfl,rfl,h2⟩ | ⟨es,j,rfl,hj,h0,h2,⟨rfl,rfl⟩ | ⟨hj2,rfl⟩⟩
 · exact ⟨true,by rw [jF,h2];simp [Pw.ql,og]⟩
 · exact ⟨false,by rw [JA];simp⟩
 · refine ⟨false,?_⟩
   have h5:List.take (es.length - j) (List.drop j (eHs es))=eHs (es.drop j):=by
    rw [List.take_of_length_le (by simp)];simp
   rw [jF,h2]
   have h6:j+(es.length - j)=es.length:=by omega
   simp [Pw.ql,og,h5,h6]
structure TmI (RW:AV) (pb q lo k:Nat) (hz:aI) (h:aI) (next:Nat) (cs:List (List AV)) (W:List (List Hd)) (id:Nat→Nat):Prop where
 R:kD TlH h lo next id cs W
 wl:W.length=k
 gq:Pav.get h q=some (.cells 2 [[RW,.sl pb 1 0 k k false]] true false)
 gp:Pav.get h pb=some (.cells 1 cs true false)
 g1:Pav.get h 1=some (.cells 2 [[.ro 8 [] true,.ro 1 [] true]] true true)
 gz:∀ j,j < lo→Pav.get h j=Pav.get hz j
 ne:1 < lo∧lo≤pb∧lo≤q∧pb≠q∧pb < next∧q < next
 nd:∀ j,j < k→id j≠pb∧id j≠q
theorem TmI.later {RW:AV} {pb q lo k:Nat} {hz h:aI} {next next':Nat} {cs:List (List AV)} {W:List (List Hd)} {id:Nat→Nat} (T:TmI RW pb q lo k hz h next cs W id) (hn:next≤next'):TmI RW pb q lo k hz h next' cs W id :=
 ⟨T.R.mono hn (fun _ _=>rfl),T.wl,T.gq,T.gp,T.g1,T.gz,by have:=T.ne;omega,T.nd⟩
end Go.D
end
section
namespace Go.D
open Go Go.Pav Go.Pw P
set_option maxHeartbeats 2000000
attribute [-simp] List.getElem_cons_drop
variable {C:aJ}
structure Pm (C:aJ):Prop extends aj1 C where
 f287:C.fns.get 287=some aeG
 f288:C.fns.get 288=some acN
theorem Oy (H:Pm C) (ra:List Hd) (ea:Bool) (ps:List Pl) (pe:Bool) (hl:ps.length≤1000) (hp:∀ p ∈ ps,p.1.length≤1000000):∀ m i,m+i=ps.length→∀ c:Nat,c+1000000 * m≤1000000000 →
 Ey C ⟨[(4,.int .i64 i),(3,.int .i64 c),(1,.ptr 0 0 0)],[(0,.cells 2 [[.ro 8 (ra.map eHd) ea,.ro 1 (ps.map ePl) pe]] true true)],1⟩=some (.int .i64 (c+tmD 0 (ps.drop i):Nat)):=by
 intro m
 induction m with
 | zero =>
  intro i hi c hc
  have h3:¬ i < ps.length:=by omega
  have h2:ps.drop i=[]:=List.drop_eq_nil_of_le (by omega)
  simp only [Ey];rw [au yE.eq_1,h2]
  simp (disch:=omega) [au J5.eq_1,h3,tmD]
 | succ m ih =>
  intro i hi c hc
  have h1:i < ps.length:=by omega
  have hh:=hp _ (List.getElem_mem h1)
  have hq:=ih (i+1) (by omega) (c+ps[i].1.length) (by omega)
  rw [drop_cons h1,tmD,Nat.sub_zero,← Nat.add_assoc]
  simp only [Ey] at hq ⊢;rw [au yE.eq_1]
  simp at hq
  simp (disch:=omega) [h1,aN,hq]
theorem I8 (H:Pm C) (ra:List Hd) (ea:Bool) (ps:List Pl) (pe:Bool) (hl:ps.length≤1000) (hp:∀ p ∈ ps,p.1.length≤1000000):FnW C 288 [aSt ra ea ps pe]=some (.int .i64 (tmD 0 ps:Nat)):=by
 have h:=Oy H ra ea ps pe hl hp ps.length 0 (by simp) 0 (by omega)
 rw [List.drop_zero,Nat.zero_add] at h
 generalize tmD 0 ps=D at *
 simp only [Ey] at h
 simp at h
 rw [aO H.f288 rfl]
 simp [acN,H.toQi.inl,aH,H.toQi.pp,ppB,h]
theorem O9 (H:Pm C) (ra:List Hd) (ea:Bool) (ps:List Pl) (pe:Bool) (hl:ps.length≤1000) (hp:∀ p ∈ ps,p.2=true):∀ m i,m+i=ps.length →
 Em C ⟨[(3,.int .i64 i),(1,.ptr 0 0 0)],[(0,.cells 2 [[.ro 8 (ra.map eHd) ea,.ro 1 (ps.map ePl) pe]] true true)],1⟩=some (.int .i64 1):=by
 intro m
 induction m with
 | zero =>
  intro i hi
  have h3:¬ i < ps.length:=by omega
  simp only [Em];rw [au yA.eq_1]
  simp (disch:=omega) [au MN.eq_1,h3]
 | succ m ih =>
  intro i hi
  have h1:i < ps.length:=by omega
  have hh:=hp _ (List.getElem_mem h1)
  have hq:=ih (i+1) (by omega)
  simp only [Em] at hq ⊢;rw [au yA.eq_1]
  simp at hq
  simp (disch:=omega) [h1,hh,aN,hq]
theorem X6 (H:Pm C) (ra:List Hd) (ps:List Pl) (hl:ps.length≤1000) (hp:∀ p ∈ ps,p.2=true):FnW C 287 [aSt ra true ps true]=some (.int .i64 1):=by
 have h:=O9 H ra true ps true hl hp ps.length 0 (by simp)
 simp only [Em] at h
 simp at h
 rw [aO H.f287 rfl]
 simp [aeG,H.toQi.inl,aH,H.toQi.pp,ppB,h]
end Go.D
end
section
namespace Go.D
open Go Go.Pav Go.Pw P
set_option maxHeartbeats 2000000
attribute [-simp] List.getElem_cons_drop
variable {C:aJ}
def PV (ks:List Kd) (cap:Int) (W:List (List Hd)):Prop:=∀ (i:Nat) (w:List Hd),W[i]?=some w→(w.length:Int)≤tX ks i∧∀ h ∈ w,VH ks cap h∧h.t=i
theorem Bj {W:List (List Hd)} {t:Nat} (h:t < W.length):rowAt W t=W[t]:=by simp [rowAt,h]
theorem GU (ks:List Kd) (cap:Int) (l:List En) (A:List Nat):∀ (ra:List Hd) (s:List (List Hd) × Int),(∀ x ∈ ra,VH ks cap x)→s.1.length=ks.length→PV ks cap s.1→PV ks cap (cm1 ks l A ra s).1
 | [],s,_,_,h=>by simpa [cm1] using h
 | a::r,s,h1,hl,h=>by
  simp only [cm1]
  have ha:=h1 a (by simp)
  obtain ⟨t,ht,htl⟩:=ha.t
  split
  · exact GU ks cap l A r _ (fun x hx=>h1 x (by simp [hx])) hl h
  · split
    · exact GU ks cap l A r _ (fun x hx=>h1 x (by simp [hx])) hl h
    · rename_i c
      refine GU ks cap l A r _ (fun x hx=>h1 x (by simp [hx])) (by simpa using hl) ?_
      have htw:t < s.1.length:=by omega
      rw [ht,Bj htw] at c
      obtain ⟨p1,p2⟩:=h t _ (List.getElem?_eq_getElem htw)
      intro i w hw
      simp only [ht] at hw
      rw [show ((t:Int)).toNat=t by omega,Bj htw] at hw
      rw [List.getElem?_set] at hw
      split at hw
      · rename_i q
        subst q
        obtain rfl:=Option.some.inj hw
        refine ⟨by simp;omega,fun x hx=>?_⟩
        rcases List.mem_append.1 hx with q | q
        · exact p2 x q
        · rw [List.mem_singleton] at q;subst q;exact ⟨ha,ht⟩
      · exact h i w hw
theorem AZ (ks:List Kd) (cap:Int) (tr:En→Nd) (ra:List Hd) (l:List En) (hl:∀ e ∈ l,∃ t:Nat,e.i.t=t):∀ (A:List Nat) (s:List Hd × List (List Hd) × Int × Int),PV ks cap s.2.1→PV ks cap (cm2 tr ra l A s).2.1
 | [],s,h=>by simpa [cm2] using h
 | a::r,s,h=>by
  simp only [cm2]
  cases hq:l[a]? with
  | none=>exact AZ ks cap tr ra l hl r s h
  | some e =>
   obtain ⟨t,ht⟩:=hl e (List.mem_of_getElem? hq)
   simp only
   split
   · exact AZ ks cap tr ra l hl r _ h
   · split
     · exact AZ ks cap tr ra l hl r _ h
     · refine AZ ks cap tr ra l hl r _ ?_
       intro i w hw
       simp only [ht] at hw
       rw [show ((t:Int)).toNat=t by omega,List.getElem?_set] at hw
       split at hw
       · rename_i q
         subst q
         split at hw
         · rename_i htw
           obtain rfl:=Option.some.inj hw
           obtain ⟨p1,p2⟩:=h t _ (List.getElem?_eq_getElem htw)
           rw [Bj htw]
           exact ⟨by simp;omega,fun x hx=>p2 x (List.mem_of_mem_take hx)⟩
         · cases hw
       · exact h i w hw
theorem qP (tr:En→Nd) (ra:List Hd) (l:List En):∀ (A:List Nat) (s:List Hd × List (List Hd) × Int × Int),(∀ a ∈ A,a < l.length)→((cm2 tr ra l A s).1).map Hd.k=s.1.map Hd.k++A.map fun a=>(cO l)[a]?.getD 0
 | [],s,_=>by simp [cm2]
 | a::r,s,h=>by
  have ha:=h a (by simp)
  have hr:=fun b hb=>h b (List.mem_cons_of_mem a hb)
  simp only [cm2,List.getElem?_eq_getElem ha]
  have hk:(cO l)[a]?.getD 0=l[a].i.k:=by simp [cO,ha]
  split
  · rw [qP tr ra l r _ hr];simp [ha]
  · split
    · rw [qP tr ra l r _ hr];simp [ha]
    · rw [qP tr ra l r _ hr];simp [ha]
theorem xQ {l:List Int} (h:l.Nodup):∀ (A:List Nat),A.Nodup→(∀ a ∈ A,a < l.length)→(A.map fun a=>l[a]?.getD 0).Nodup
 | [],_,_=>by simp
 | a::r,h1,h2=>by
  obtain ⟨h3,h4⟩:=List.nodup_cons.1 h1
  rw [List.map_cons,List.nodup_cons]
  refine ⟨fun q=>?_,xQ h r h4 (fun b hb=>h2 b (by simp [hb]))⟩
  obtain ⟨b,hb,hbe⟩:=List.mem_map.1 q
  have ha:=h2 a (by simp)
  have hb2:=h2 b (by simp [hb])
  simp only [List.getElem?_eq_getElem ha,List.getElem?_eq_getElem hb2,Option.getD_some] at hbe
  have:=(List.getElem_inj h).1 hbe
  subst this
  exact h3 hb
theorem Zn {r:Int} {l:List En} (L:LG r l) (hg:∀ e ∈ l,gu (aA r) e) {e:En} (he:e ∈ l):VH (aA r) 12 ⟨e.i.k,e.i.t,trK (aA r) e⟩:=by
 have h1:=(hg e he).i.k
 have h2:=L.t e he
 have h3:=L.rE e he
 have h4:=UY h3
 have hz:cnt (trK (aA r) e)=cnt (xU (jK (aA r) e.i.t).p e.i 12):=by
  unfold trK
  rw [← wZ,← abq _ (ET (Cj r) h2),wZ]
 refine ⟨by simp only;omega,⟨e.i.t.toNat,by simp only;omega,by omega⟩,⟨by simp only;rw [hz];exact h4,?_⟩,?_⟩
 · simp only
   rw [hz]
   unfold xU
   rw [if_pos h3]
   have h5:=h3
   unfold kW at h5
   rw [if_neg (by omega)] at h5
   split at h5
   · cases h5
   · split at h5
     · cases h5
     · split at h5
       · cases h5
       · rename_i q;omega
 · simp only
   unfold trK OA
   rw [if_pos h3]
   have hk:(jK (aA r) e.i.t).p.k=1:=by
    have hl:(aA r).length=3:=rfl
    obtain ⟨t,ht⟩:∃ t:Nat,e.i.t=t:=⟨e.i.t.toNat,by omega⟩
    rw [ht]
    have h6:t=0∨t=1∨t=2:=by omega
    rcases h6 with rfl | rfl | rfl <;> rfl
   generalize (jK (aA r) e.i.t).p=p at *
   unfold mdN
   rw [UU,hk]
   simp [iC]
end Go.D
end
section
namespace Go.D
open Go Go.Pav Go.Pw P
attribute [-simp] List.getElem_cons_drop
variable {C:aJ}
theorem Jf (H:Ov C) {r:Int} {l:List En} (L:LG r l) (hg:∀ x ∈ l,gu (aA r) x) (hn:(cO l).Nodup) (e:Bool) {B:Nat} (hB:B≤84) {ra:List Hd} {ps:List Pl} (S:OL B ra ps) (K:CkS (aA r) 12 ra ps) (ea pe:Bool) (A:List Nat) (f:Bool) (hA:A.length≤12) (hAl:∀ a ∈ A,a < l.length) (hAn:A.Nodup) :
 ∃ (ra':List Hd) (ea':Bool) (ps':List Pl) (pe':Bool) (c:AV),OL (B+12) ra' ps'∧CkS (aA r) 12 ra' ps'∧FnW C 285 [.agg (cCf 100 1 1 (aA r) true 12 65536 0),aSt ra ea ps pe,.ro 6 (l.map eEn) e,.ro 1 (A.map eAt) f]=some (.tup [aSt ra' ea' ps' pe',c,.int .i64 0]):=by
 have hk:(aA r).length=3:=rfl
 obtain ⟨ps',ea',pe',h1,h2⟩:=Gs H.toVa (trK (aA r)) 100 1 1 (aA r) true 12 65536 0 ra ea ps pe l e A f (by omega) hAl (by have:=S.rl;omega) (by rw [S.pl];rfl) (by omega) (by omega)
  (fun p hp=>by have:=S.pb p hp;omega) (fun x hx=>⟨x.i.t.toNat,by have:=L.t x hx;omega,by have:=L.t x hx;omega⟩) (fun x hx=>by rw [hk];exact (S.q x hx).2) (fun a ha=>IY H.toaan L e a ha)
 have l1:=zJ (aA r) l A ra (ps.map (·.1),0) B (fun w hw=>by obtain ⟨p,hp,rfl⟩:=List.mem_map.1 hw;exact S.pb p hp)
 have l2:=pV (trK (aA r)) ra l A ([],(cm1 (aA r) l A ra (ps.map (·.1),0)).1,0,0) (B+ra.length) l1
 have l3:=JY (Q:=HQ) (aA r) l A ra (ps.map (·.1),0) S.q (fun w hw=>by obtain ⟨p,hp,rfl⟩:=List.mem_map.1 hw;exact S.qp p hp)
 have l4:=pI (Q:=HQ) (trK (aA r)) ra l (fun x hx=>⟨ZW L hx,x.i.t.toNat,by have:=L.t x hx;simp only;omega,by have:=L.t x hx;omega⟩) A ([],(cm1 (aA r) l A ra (ps.map (·.1),0)).1,0,0) (by simp) l3
 have l5:=KP (aA r) l A ra (ps.map (·.1),0)
 have hpv0:PV (aA r) 12 (ps.map (·.1)):=by
  intro i w hw
  rw [List.getElem?_map] at hw
  cases hq:ps[i]? with
  | none=>rw [hq] at hw;cases hw
  | some p=>rw [hq] at hw;obtain rfl:=Option.some.inj hw;exact K.pv i p hq
 have l6:=GU (aA r) 12 l A ra (ps.map (·.1),0) K.rv (by simp only [List.length_map];exact K.pl) hpv0
 have l7:=AZ (aA r) 12 (trK (aA r)) ra l (fun x hx=>⟨x.i.t.toNat,by have:=L.t x hx;omega⟩) A ([],(cm1 (aA r) l A ra (ps.map (·.1),0)).1,0,0) l6
 have l8:=qP (trK (aA r)) ra l A ([],(cm1 (aA r) l A ra (ps.map (·.1),0)).1,0,0) hAl
 have l9:=pI (Q:=fun x=>FZ x.n→VH (aA r) 12 x) (trK (aA r)) ra l (fun x hx _=>Zn L hg hx) A ([],(cm1 (aA r) l A ra (ps.map (·.1),0)).1,0,0) (by simp) (fun w hw x hx _=>by
  obtain ⟨i,hi,rfl⟩:=List.mem_iff_getElem.1 hw
  exact ((l6 i _ (List.getElem?_eq_getElem hi)).2 x hx).1)
 have l10:=xQ hn A hAn (fun a ha=>by have:=hAl a ha;simpa [cO] using this)
 have hrl:=S.rl
 have hpl:=S.pl
 simp only [List.length_nil,Nat.zero_add,List.length_map] at l2 l5
 unfold cmF at h1 h2
 simp only at h1 h2
 generalize cm1 (aA r) l A ra (ps.map (·.1),0)=s at *
 generalize cm2 (trK (aA r)) ra l A ([],s.1,0,0)=u at *
 have hlv:¬ live (u.1::u.2.1) > 65536:=by
  have:=Np (B+12) (u.1::u.2.1) (by
   intro w hw
   rcases List.mem_cons.1 hw with rfl | q
   · omega
   · have:=l2.2.1 w q;omega)
  have hlen:(u.1::u.2.1).length=4:=by simp;omega
  rw [hlen] at this
  unfold live
  split <;> omega
 rw [if_neg hlv] at h2
 refine ⟨u.1,ea',ps',pe',_,⟨by omega,?_,?_,l4.1,?_⟩,⟨by omega,fun x hx=>l9.1 x hx (l4.1 x hx).1,by rw [l8];simpa using l10,?_,?_⟩,h2⟩
 · have:=congrArg List.length h1;simp at this;omega
 · intro p hp
   have:=l2.2.1 p.1 (by rw [← h1];exact List.mem_map.2 ⟨p,hp,rfl⟩);omega
 · intro p hp
   exact l4.2 p.1 (by rw [← h1];exact List.mem_map.2 ⟨p,hp,rfl⟩)
 · have:=congrArg List.length h1;simp at this;omega
 · intro i p hp
   exact l7 i p.1 (by rw [← h1,List.getElem?_map,hp];rfl)
theorem Y7 (H:Ov C) {r:Int} {R1 R2:List En} (L1:LG r R1) (L2:LG r R2) (G1:∀ x ∈ R1,gu (aA r) x) (G2:∀ x ∈ R2,gu (aA r) x) (N1:(cO R1).Nodup) (N2:(cO R2).Nodup) (g1 g2:Bool) (q1 q2:List Q4) (e1 e2:Bool) (z1 z2:List Int) (f1 f2:Bool) (w:List (Int × Int)) (we:Bool) (hw:∀ p ∈ w,0≤p.1∧∃ x:Nat,p.2=x∧x≤65535):∀ m i,m+i=min w.length 8 →
 ∀ (ra:List Hd) (ea:Bool) (ps:List Pl) (pe:Bool),OL (12 * i) ra ps→CkS (aA r) 12 ra ps→∃ (ra':List Hd) (ea':Bool) (ps':List Pl) (pe':Bool),OL 96 ra' ps'∧CkS (aA r) 12 ra' ps' ∧
 Af C ⟨ofE i,ofH (cCf 100 1 1 (aA r) true 12 65536 0) R1 R2 g1 g2 [.ro 4 (q1.map eQ) e1,.ro 1 (z1.map eU8) f1,.int .u8 r,.ro 4 (q2.map eQ) e2,.ro 1 (z2.map eU8) f2,.int .u8 r,.ro 2 (w.map eW) we] w we ra ea ps pe,7⟩ =
  some (.tup [.agg (cCf 100 1 1 (aA r) true 12 65536 0),aSt ra' ea' ps' pe',.agg [.ro 6 (R1.map eEn) g1,.ro 6 (R2.map eEn) g2]]):=by
 intro m
 induction m with
 | zero =>
  intro i hi ra ea ps pe S K
  refine ⟨ra,ea,ps,pe,⟨S.rl,S.pl,fun p hp=>by have:=S.pb p hp;omega,S.q,S.qp⟩,K,?_⟩
  generalize aA r=ks at *
  simp only [Af];rw [au wH.eq_1]
  by_cases c:(i:Int) < w.length
  · have c2:¬ (i:Int) < 8:=by omega
    simp (disch:=omega) [au EM.eq_1,c,c2]
  · simp (disch:=omega) [au EM.eq_1,c]
 | succ m ih =>
  intro i hi ra ea ps pe S K
  have c1:i < w.length:=by omega
  have c2:(i:Int) < 8:=by omega
  have c3:(i:Int) < w.length:=by omega
  obtain ⟨hx0,x,hx,hx2⟩:=hw _ (List.getElem_mem c1)
  by_cases c:(w[i].1).tmod 2=0
  · have hb:=EJ H.tonY x R1.length hx2 (by have:=L1.hl;omega)
    have hbl:=uy x (min R1.length 16) 0
    obtain ⟨ra1,ea1,ps1,pe1,cc,S1,K1,hs⟩:=Jf H L1 G1 N1 g1 (by omega) S K ea pe (iW x 0 (min R1.length 16)) false (by have:=L1.hl;omega) (fun a ha=>by have:=pW x _ 0 a ha;omega) (vT x _ 0)
    obtain ⟨ra2,ea2,ps2,pe2,S2,K2,h2⟩:=ih (i+1) (by omega) ra1 ea1 ps1 pe1 ⟨S1.rl,S1.pl,fun p hp=>by have:=S1.pb p hp;omega,S1.q,S1.qp⟩ K1
    refine ⟨ra2,ea2,ps2,pe2,S2,K2,?_⟩
    generalize aA r=ks at *
    generalize iW x 0 (min R1.length 16)=Z at *
    simp only [Af] at h2 ⊢;rw [au wH.eq_1]
    simp [ofE,ofH] at h2
    simp (disch:=omega) [ofE,ofH,c1,c2,c3,c,hx,hb,hs,h2,aN,H.toQi.inl,aH,H.toQi.pp,ppB]
  · have c':(w[i].1).tmod 2=1:=by have:=Int.tmod_eq_emod_of_nonneg (b:=2) hx0;omega
    have hb:=EJ H.tonY x R2.length hx2 (by have:=L2.hl;omega)
    have hbl:=uy x (min R2.length 16) 0
    obtain ⟨ra1,ea1,ps1,pe1,cc,S1,K1,hs⟩:=Jf H L2 G2 N2 g2 (by omega) S K ea pe (iW x 0 (min R2.length 16)) false (by have:=L2.hl;omega) (fun a ha=>by have:=pW x _ 0 a ha;omega) (vT x _ 0)
    obtain ⟨ra2,ea2,ps2,pe2,S2,K2,h2⟩:=ih (i+1) (by omega) ra1 ea1 ps1 pe1 ⟨S1.rl,S1.pl,fun p hp=>by have:=S1.pb p hp;omega,S1.q,S1.qp⟩ K1
    refine ⟨ra2,ea2,ps2,pe2,S2,K2,?_⟩
    generalize aA r=ks at *
    generalize iW x 0 (min R2.length 16)=Z at *
    simp only [Af] at h2 ⊢;rw [au wH.eq_1]
    simp [ofE,ofH] at h2
    simp (disch:=omega) [ofE,ofH,c1,c2,c3,c',hx,hb,hs,h2,aN,H.toQi.inl,aH,H.toQi.pp,ppB]
theorem ags (H:Ov C) (hone:∀ q:Q4,QIn q→∃ i:It,FnW C 422 [.agg (eQ q)]=some (eIt i)∧Good i) (q1 q2:List Q4) (e1 e2:Bool) (hq1:∀ x ∈ q1,QIn x) (hq2:∀ x ∈ q2,QIn x) (z1 z2:List Int) (f1 f2:Bool) (hz1:∀ s ∈ z1,0≤s∧s≤255) (hz2:∀ s ∈ z2,0≤s∧s≤255)
 (hl1:z1.length < 9223372036854775808) (hl2:z2.length < 9223372036854775808) (r r2:Int) (hr:0≤r∧r≤255) (w:List (Int × Int)) (we:Bool) (hw:∀ p ∈ w,0≤p.1∧∃ x:Nat,p.2=x∧x≤65535) :
 ∃ (R1 R2:List En) (g1 g2:Bool) (ra:List Hd) (ea:Bool) (ps:List Pl) (pe:Bool),LG r R1∧LG r R2∧(∀ x ∈ R1,gu (aA r) x)∧(∀ x ∈ R2,gu (aA r) x)∧(cO R1).Nodup∧(cO R2).Nodup∧OL 96 ra ps∧CkS (aA r) 12 ra ps∧FnW C 283 [.agg [.ro 4 (q1.map eQ) e1,.ro 1 (z1.map eU8) f1,.int .u8 r,.ro 4 (q2.map eQ) e2,.ro 1 (z2.map eU8) f2,.int .u8 r2,.ro 2 (w.map eW) we]] =
  some (.tup [.agg (cCf 100 1 1 (aA r) true 12 65536 0),aSt ra ea ps pe,.agg [.ro 6 (R1.map eEn) g1,.ro 6 (R2.map eEn) g2]]):=by
 obtain ⟨R1,g1,h1,a1,a2,a3⟩:=abb H.touh hone q1 e1 hq1 z1 f1 hz1 hl1 r hr
 obtain ⟨R2,g2,h2,b1,b2,b3⟩:=abb H.touh hone q2 e2 hq2 z2 f2 hz2 hl2 r hr
 have L1:=LG.Vj hr a1 a2 a3
 have L2:=LG.Vj hr b1 b2 b3
 have hp16:∀ i:Nat,i < 3→0≤tX (aA r) i:=by
  intro i hi
  have h6:i=0∨i=1∨i=2:=by omega
  rcases h6 with rfl | rfl | rfl
  · show (0:Int)≤r % 4;omega
  · show (0:Int)≤r / 4 % 3;omega
  · show (0:Int)≤r / 8 % 3;omega
 have hk0:CkS (aA r) 12 [] [([],true),([],true),([],true)]:=⟨by simp,by simp,by simp,rfl,fun i p hp=>by
  have hi:i < 3:=(List.getElem?_eq_some_iff.1 hp).1
  have h6:i=0∨i=1∨i=2:=by omega
  rcases h6 with rfl | rfl | rfl <;> (obtain rfl:=Option.some.inj hp;exact ⟨by simpa using hp16 _ hi,by simp⟩)⟩
 have h3:FnW C 296 [.agg (cCf 100 1 1 (aA r) true 12 65536 0)]=some (aSt [] true [([],true),([],true),([],true)] false):=V9 H 100 1 1 _ _ _ true 12 65536 0
 obtain ⟨ra,ea,ps,pe,S,K,h4⟩:=Y7 H L1 L2 a2 b2 a3 b3 g1 g2 q1 q2 e1 e2 z1 z2 f1 f2 w we hw (min w.length 8) 0 rfl [] true [([],true),([],true),([],true)] false ⟨by simp,rfl,by simp,by simp,by simp⟩ hk0
 refine ⟨R1,R2,g1,g2,ra,ea,ps,pe,L1,L2,a2,b2,a3,b3,S,K,?_⟩
 rw [aO H.f283 rfl]
 generalize aA r=ks at *
 simp only [Af] at h4
 simp [ofE,ofH] at h4
 simp [acg,H.toQi.inl,aH,H.toQi.pp,ppB,h1,h2,h3,h4]
end Go.D
end
section
namespace Go.D
open Go Go.Pav Go.Pw P
set_option maxHeartbeats 2000000
attribute [-simp] List.getElem_cons_drop
def hz (h:Hd):Int × Int × Nd:=(h.k,h.t,h.n.z)
theorem ahH (h:Hd):hz (fH h)=hz h:=by simp [hz,fH,TP]
theorem Dy (l:List Hd):(l.map fH).map hz=l.map hz:=by rw [List.map_map];exact List.map_congr_left fun h _=>ahH h
theorem zI:∀ a b:List Hd,a.map hz=b.map hz→ku a b=true
 | [],[],_=>rfl
 | x::a,y::b,h=>by
  simp only [List.map_cons,List.cons.injEq,hz,Prod.mk.injEq] at h
  simp [ku,h.1.1,h.1.2.1,afu _ _ h.1.2.2,zI a b h.2]
 | [],_::_,h=>by simp at h
 | _::_,[],h=>by simp at h
theorem zu:∀ a b:List Pl,(a.map fun p=>p.1.map hz)=(b.map fun p=>p.1.map hz)→mQ a b=true
 | [],[],_=>rfl
 | x::a,y::b,h=>by
  simp only [List.map_cons,List.cons.injEq] at h
  simp [mQ,zI _ _ h.1,zu a b h.2]
 | [],_::_,h=>by simp at h
 | _::_,[],h=>by simp at h
theorem Y6 {ks:List Kd} {cap:Int} {h:Hd} (V:VH ks cap h):VH ks cap (fH h):=by
 refine ⟨V.k,V.t,by simpa only [fH,U3] using V.c,?_⟩
 have:=V.n
 simp only [fH]
 rw [Lm]
 exact this
theorem Ob {ks:List Kd} {cap:Int} {ra:List Hd} {ps:List Pl} (S:CkS ks cap ra ps) (h:∀ p ∈ ps,p.1.length≤1000000):aa0 ra∧(∀ p ∈ ps,aa0 p.1)∧(∀ x ∈ ra,cnt x.n≠0)∧∀ p ∈ ps,p.1.length≤1000000∧∀ x ∈ p.1,cnt x.n≠0:=by
 have hp:∀ p ∈ ps,∀ x ∈ p.1,cnt x.n≠0:=fun p hp x hx=>by
  obtain ⟨i,hi,rfl⟩:=List.mem_iff_getElem.1 hp
  exact ((S.pv i _ (List.getElem?_eq_getElem hi)).2 x hx).1.c.1
 have hr:∀ x ∈ ra,cnt x.n≠0:=fun x hx=>(S.rv x hx).c.1
 exact ⟨⟨by have:=S.rl;omega,fun x hx=>J9 (BA (hr x hx))⟩,fun p hq=>⟨h p hq,fun x hx=>J9 (BA (hp p hq x hx))⟩,hr,fun p hq=>⟨h p hq,hp p hq⟩⟩
end Go.D
end
section
namespace Go.D
open Go Go.Pav Go.Pw P
attribute [-simp] List.getElem_cons_drop
variable {C:aJ}
theorem Zc (r:Int):∀ k ∈ aA r,Pj k:=by
 intro k hk
 simp only [aA,List.mem_cons,List.not_mem_nil,or_false] at hk
 rcases hk with rfl | rfl | rfl <;> (unfold Pj;simp only;omega)
end Go.D
end
section
namespace Go.D
open Go Go.Pav Go.Pw P
set_option maxHeartbeats 2000000
attribute [-simp] List.getElem_cons_drop
variable {C:aJ}
structure Fj (C:aJ):Prop extends Pm C where
 f280:C.fns.get 280=some Xl
 YF:C.fns.get 3009=some RF
end Go.D
end
section
namespace Go.D
open Go Go.Pav Go.Pw P
set_option maxHeartbeats 2000000
def uD (s:List (Int × Int)):List (AV × AV):=s.map fun p=>(.int .u64 p.1,.int .u8 p.2)
def qM (k:Int):List (Int × Int)→Option Int
 | []=>none
 | p::r=>if k=p.1 then some p.2 else qM k r
theorem Px (k:Int):∀ s:List (Int × Int),jy (uD s) (.int .u64 k)=some ((qM k s).map (AV.int .u8))
 | []=>rfl
 | a::r=>by
  have ih:=Px k r
  unfold uD at ih ⊢
  rw [List.map_cons,jy,qM]
  simp only [gV,if_true,ob]
  by_cases c:k=a.1
  · simp [c]
  · simp [c,ih]
theorem Qj (k t:Int):∀ s:List (Int × Int),qM k s=none→jT (uD s) (.int .u64 k) (.int .u8 t)=some (uD (s++[(k,t)]))
 | [],_=>rfl
 | a::r,h=>by
  rw [qM] at h
  by_cases c:k=a.1
  · rw [if_pos c] at h;cases h
  · rw [if_neg c] at h
    have ih:=Qj k t r h
    unfold uD at ih ⊢
    rw [List.map_cons,jT]
    simp only [gV,if_true,ob]
    simp [c,ih,om]
def qR (l:List En) (A:List Nat):List (Int × Int):=A.map fun a=>match l[a]? with | some e=>(e.i.k,e.i.t) | none=>(0,0)
theorem Fz {k:Int}:∀ {s:List (Int × Int)},(∀ p ∈ s,p.1≠k)→qM k s=none
 | [],_=>rfl
 | p::r,h=>by
  rw [qM,if_neg (fun q=>h p (by simp) q.symm)]
  exact Fz (fun q hq=>h q (by simp [hq]))
theorem key_inj {l:List En} (hn:(cO l).Nodup) {a b:Nat} (ha:a < l.length) (hb:b < l.length) (h:l[a].i.k=l[b].i.k):a=b:=by
 have h1:(cO l)[a]'(by simpa [cO] using ha)=(cO l)[b]'(by simpa [cO] using hb):=by simpa [cO] using h
 exact (List.getElem_inj hn).1 h1
theorem ZX {l:List En} (hn:(cO l).Nodup) (h:Hd):∀ (A:List Nat),A.Nodup→(∀ a ∈ A,a < l.length)→(stF h l A=true↔qM h.k (qR l A)=some h.t)
 | [],_,_=>by simp [stF,qR,qM]
 | a::r,h1,h2=>by
  obtain ⟨h3,h4⟩:=List.nodup_cons.1 h1
  have ha:=h2 a (by simp)
  have hr:=fun b hb=>h2 b (List.mem_cons_of_mem a hb)
  have ih:=ZX hn h r h4 hr
  have hcons:stF h l (a::r)=((decide (l[a].i.k=h.k)&&decide (l[a].i.t=h.t))||stF h l r):=by
   unfold stF
   rw [List.any_cons,List.getElem?_eq_getElem ha]
  have hm:qR l (a::r)=(l[a].i.k,l[a].i.t)::qR l r:=by unfold qR;rw [List.map_cons,List.getElem?_eq_getElem ha]
  rw [hcons,hm,qM]
  by_cases c:l[a].i.k=h.k
  · have hno:stF h l r=false:=by
     cases q:stF h l r
     · rfl
     · have q2:=ih.1 q
       unfold stF at q
       obtain ⟨b,hb,hbe⟩:=List.any_eq_true.1 q
       have hbl:=hr b hb
       rw [List.getElem?_eq_getElem hbl] at hbe
       simp only [Bool.and_eq_true,decide_eq_true_eq] at hbe
       have:=key_inj hn ha hbl (c.trans hbe.1.symm)
       subst this
       exact absurd hb h3
    rw [if_pos c.symm,hno]
    simp [c]
  · rw [if_neg (fun q=>c q.symm)]
    simp [c,ih]
theorem JO {k:Int}:∀ (ra:List Hd) (i:Nat) (h:Hd),(ra.map Hd.k).Nodup→h ∈ ra→h.k=k→∃ j:Nat,atF k i ra=((i+j:Nat):Int)∧ra[j]?=some h
 | [],_,_,_,hm,_=>by cases hm
 | x::r,i,h,hn,hm,hk=>by
  rw [List.map_cons,List.nodup_cons] at hn
  rw [atF]
  rcases List.mem_cons.1 hm with q | q
  · subst q
    rw [if_pos hk]
    exact ⟨0,rfl,rfl⟩
  · have hx:¬ x.k=k:=fun c=>hn.1 (List.mem_map.2 ⟨h,q,hk.trans c.symm⟩)
    rw [if_neg hx]
    obtain ⟨j,h1,h2⟩:=JO r (i+1) h hn.2 q hk
    exact ⟨j+1,by rw [h1];congr 1;omega,by simpa using h2⟩
def stay (ra:List Hd) (l:List En) (A:List Nat):List Int:=(ra.filter fun h=>stF h l A).map Hd.k
theorem xY {ra:List Hd} (hr:(ra.map Hd.k).Nodup) {l:List En} (hn:(cO l).Nodup) {A:List Nat} (hA:∀ a ∈ A,a < l.length) {a:Nat} (ha:a ∈ A) (hal:a < l.length):(stay ra l A).contains l[a].i.k=mO ra l[a]:=by
 have key:(stay ra l A).contains l[a].i.k=true↔∃ h ∈ ra,h.k=l[a].i.k∧h.t=l[a].i.t:=by
  rw [List.contains_iff_mem,stay,List.mem_map]
  constructor
  · rintro ⟨h,hh,hk⟩
    obtain ⟨h1,h2⟩:=List.mem_filter.1 hh
    refine ⟨h,h1,hk,?_⟩
    unfold stF at h2
    obtain ⟨b,hb,hbe⟩:=List.any_eq_true.1 h2
    have hbl:=hA b hb
    rw [List.getElem?_eq_getElem hbl] at hbe
    simp only [Bool.and_eq_true,decide_eq_true_eq] at hbe
    have:=key_inj hn hbl hal (hbe.1.trans hk)
    subst this
    exact hbe.2.symm
  · rintro ⟨h,h1,h2,h3⟩
    refine ⟨h,List.mem_filter.2 ⟨h1,?_⟩,h2⟩
    unfold stF
    refine List.any_eq_true.2 ⟨a,ha,?_⟩
    rw [List.getElem?_eq_getElem hal]
    simp [h2,h3]
 have key2:mO ra l[a]=true↔∃ h ∈ ra,h.k=l[a].i.k∧h.t=l[a].i.t:=by
  unfold mO
  constructor
  · intro q
    simp only [Bool.and_eq_true,decide_eq_true_eq] at q
    obtain ⟨q1,q2⟩:=q
    cases hq:ra[(atF l[a].i.k 0 ra).toNat]? with
    | none=>rw [hq] at q2;cases q2
    | some h =>
     rw [hq] at q2
     have hm:=List.mem_of_getElem? hq
     by_cases c:∃ g ∈ ra,g.k=l[a].i.k
     · obtain ⟨g,hg,hgk⟩:=c
       obtain ⟨j,j1,j2⟩:=JO ra 0 g hr hg hgk
       rw [j1,Nat.zero_add,Int.toNat_natCast,j2] at hq
       obtain rfl:=Option.some.inj hq
       exact ⟨g,hg,hgk,by simpa using q2⟩
     · exfalso
       have:∀ (r:List Hd) (i:Nat),(∀ g ∈ r,g.k≠l[a].i.k)→atF l[a].i.k i r=-1:=by
        intro r
        induction r with
        | nil=>intro i _;rfl
        | cons x r ih=>intro i hh;rw [atF,if_neg (hh x (by simp))];exact ih _ (fun g hg=>hh g (by simp [hg]))
       rw [this ra 0 (fun g hg hk=>c ⟨g,hg,hk⟩)] at q1
       omega
  · rintro ⟨h,h1,h2,h3⟩
    obtain ⟨j,j1,j2⟩:=JO ra 0 h hr h1 h2
    rw [j1,Nat.zero_add,Int.toNat_natCast,j2]
    simp [h3]
 cases q:mO ra l[a]
 · cases p:(stay ra l A).contains l[a].i.k
   · rfl
   · rw [key2.2 (key.1 p)] at q;cases q
 · exact key.2 (key2.1 q)
end Go.D
end
section
namespace Go.D
open Go Go.Pav Go.Pw P
set_option maxHeartbeats 2000000
attribute [-simp] List.getElem_cons_drop
variable {C:aJ}
section
variable (vw ov ls:Int) (ks:List Kd) (ke:Bool) (cap ar fl:Int) (ra:List Hd) (ea:Bool) (ps:List Pl) (pe:Bool) (l:List En) (e:Bool)
structure PcM (K:List (AV × AV)) (h:aI) (next:Nat):Prop where
 g0:Pav.get h 0=some (.cells 7 [cCf vw ov ls ks ke cap ar fl] true true)
 g1:Pav.get h 1=some (.cells 2 [[.ro 8 (ra.map eHd) ea,.ro 1 (ps.map ePl) pe]] true true)
 g2:Pav.get h 2=some (.cells 1 [[.ro 6 (l.map eEn) e]] true true)
 g3:Pav.get h 3=some (.cells 2 [[.ro 8 [] true,.ro 1 [] true]] true true)
 g4:Pav.get h 4=some (.cells 4 [[.int .i64 0,.int .i64 0,.int .i64 0,.int .i64 0]] true true)
 g5:Pav.get h 5=some (.map K)
 nx:10≤next
theorem aaz (A:List Nat) (f:Bool) (hA:A.length≤1000) (hAl:∀ a ∈ A,a < l.length) (hAn:A.Nodup) (hn:(cO l).Nodup):∀ m i,m+i=A.length→∀ h next,PcM vw ov ls ks ke cap ar fl ra ea ps pe l e (uD (qR l (A.take i))) h next→∃ h' next',PcM vw ov ls ks ke cap ar fl ra ea ps pe l e (uD (qR l A)) h' next' ∧
 CK C 0 (aP [.cell 8 2 true,.cell 9 4 true]) [.sq JZ,.bk 0 ⟨true,[10,9,8,6,5,4,3],[(9999,65537)]⟩,.sq DT] zM
  ⟨[(32,.int .i64 i),(31,.int .i64 A.length),(30,.ro 1 (A.map eAt) f),(10,.map 5),(9,.ptr 4 0 0),(8,.ptr 3 0 0),(6,.ptr 2 0 0),(5,.ptr 1 0 0),(4,.ptr 0 0 0),(3,.ro 1 (A.map eAt) f)],h,next⟩ =
 CK C 0 (aP [.cell 8 2 true,.cell 9 4 true]) [] DT ⟨[(10,.map 5),(9,.ptr 4 0 0),(8,.ptr 3 0 0),(6,.ptr 2 0 0),(5,.ptr 1 0 0),(4,.ptr 0 0 0),(3,.ro 1 (A.map eAt) f)],h',next'⟩:=by
 intro m
 induction m with
 | zero =>
  intro i hi h next T
  have h3:¬ i < A.length:=by omega
  rw [List.take_of_length_le (by omega)] at T
  refine ⟨h,next+1,⟨T.g0,T.g1,T.g2,T.g3,T.g4,T.g5,by have:=T.nx;omega⟩,?_⟩
  rw [au zM.eq_1]
  simp (disch:=omega) [h3]
 | succ m ih =>
  intro i hi h next T
  have h1:i < A.length:=by omega
  have h2:=hAl _ (List.getElem_mem h1)
  have ht:qR l (A.take (i+1))=qR l (A.take i)++[(l[A[i]].i.k,l[A[i]].i.t)]:=by
   unfold qR
   rw [List.take_succ_eq_append_getElem h1,List.map_append,List.map_cons,List.getElem?_eq_getElem h2];rfl
  have hno:qM l[A[i]].i.k (qR l (A.take i))=none:=by
   refine Fz fun p hp q=>?_
   unfold qR at hp
   obtain ⟨b,hb,rfl⟩:=List.mem_map.1 hp
   have hbA:=List.mem_of_mem_take hb
   have hbl:=hAl b hbA
   rw [List.getElem?_eq_getElem hbl] at q
   have:=key_inj hn hbl h2 q
   obtain ⟨j,hj,hje⟩:=List.mem_iff_getElem.1 hb
   rw [List.length_take] at hj
   rw [List.getElem_take] at hje
   have:=(List.getElem_inj hAn).1 (hje.trans this)
   omega
  have hp:=Qj l[A[i]].i.k l[A[i]].i.t _ hno
  have nx:=T.nx
  have T2:PcM vw ov ls ks ke cap ar fl ra ea ps pe l e (uD (qR l (A.take (i+1)))) (put (put h (next+10) (.cells 4 [[.int .u64 l[A[i]].i.k,.int .u8 l[A[i]].i.t,.str l[A[i]].i.x,.ro 1 (l[A[i]].i.m.map eS) l[A[i]].i.e]] true true)) 5 (.map (uD (qR l (A.take (i+1)))))) (next+20):=by
   refine ⟨?_,?_,?_,?_,?_,ak ..,by omega⟩
   · simp (disch:=omega) only [aj];exact T.g0
   · simp (disch:=omega) only [aj];exact T.g1
   · simp (disch:=omega) only [aj];exact T.g2
   · simp (disch:=omega) only [aj];exact T.g3
   · simp (disch:=omega) only [aj];exact T.g4
  obtain ⟨h',n',hn',hq⟩:=ih (i+1) (by omega) _ _ T2
  refine ⟨h',n',hn',?_⟩
  rw [← hq,au zM.eq_1]
  rw [ht] at *
  have g5:=T.g5
  generalize qR l (A.take i)=K at *
  generalize uD (K++[(l[A[i]].i.k,l[A[i]].i.t)])=K2 at *
  generalize uD K=K1 at *
  simp (disch:=omega) [h1,h2,hp,aN,T.g0,T.g1,T.g2,g5,ak,aj,bI]
end
end Go.D
end
section
namespace Go.D
open Go Go.Pav Go.Pw P
set_option maxHeartbeats 2000000
attribute [-simp] List.getElem_cons_drop
variable {C:aJ}
theorem Si (H:Fj C) (e:Bool) (nid:Nat):eP (RnW C) 3009 [.ro 8 [] e] nid=some (.sl nid 8 0 0 0 true,[(nid,some (.cells 8 [] true true))]):=by
 have hr:=jR (args:=[.ro 8 [] e]) H.YF rfl [] 0
 unfold eP
 rw [hr]
 simp [RF,Y9,ng,zy,hand,om]
theorem PO (H:Fj C) (l:List Hd) (h0:l≠[]) (hp:l.length≤1000000) (e:Bool) (nid:Nat):eP (RnW C) 3009 [.ro 8 (l.map eHd) e] nid=some (.sl nid 8 0 l.length l.length false,[(nid,some (.cells 8 (eHs l) true true))]):=by
 have hr:=jR (args:=[.ro 8 (l.map eHd) e]) H.YF rfl [] 0
 unfold eP
 rw [hr]
 cases l with
 | nil=>exact absurd rfl h0
 | cons a r =>
  simp at hp
  have h1:(r.length+1) * 121≤35184372088832:=by omega
  have h2:List.take r.length (List.map eHd r)=List.map eHd r:=List.take_of_length_le (by simp)
  simp [RF,Vt,RI,jV,h1,h2,ng,zy,hand,om]
end Go.D
end
section
namespace Go.D
open Go Go.Pav Go.Pw P
set_option maxHeartbeats 2000000
attribute [-simp] List.getElem_cons_drop
variable {C:aJ}
section
variable (vw ov ls:Int) (ks:List Kd) (ke:Bool) (cap ar fl:Int) (ra:List Hd) (ea:Bool) (ps:List Pl) (pe:Bool) (l:List En) (e:Bool)
structure PcN (K:List (AV × AV)) (pb lo:Nat) (h:aI) (next:Nat) (cs:List (List AV)) (id:Nat→Nat) (i:Nat) (dt:Bool):Prop where
 g0:Pav.get h 0=some (.cells 7 [cCf vw ov ls ks ke cap ar fl] true true)
 g1:Pav.get h 1=some (.cells 2 [[.ro 8 (ra.map eHd) ea,.ro 1 (ps.map ePl) pe]] true true)
 g2:Pav.get h 2=some (.cells 1 [[.ro 6 (l.map eEn) e]] true true)
 g3:Pav.get h 3=some (.cells 2 [[.ro 8 [] true,.sl pb 1 0 ps.length ps.length true]] true false)
 g4:Pav.get h 4=some (.cells 4 [[.int .i64 0,.int .i64 0,.int .i64 0,.int .i64 0]] true true)
 g5:Pav.get h 5=some (.map K)
 gp:Pav.get h pb=some (.cells 1 (cs++List.replicate (ps.length - i) [.ro 8 [] true]) true dt)
 R:kD oG h lo next id cs ((ps.map (·.1)).take i)
 ne:6≤lo∧lo≤pb∧pb < next
 nd:∀ j,j < i→id j≠pb
theorem PcN.wl {K:List (AV × AV)} {pb lo:Nat} {h:aI} {next:Nat} {cs:List (List AV)} {id:Nat→Nat} {i:Nat} {dt:Bool} (T:PcN vw ov ls ks ke cap ar fl ra ea ps pe l e K pb lo h next cs id i dt) (hi:i≤ps.length):cs.length=i:=by
 rw [T.R.len];simp;omega
theorem Ym (H:Fj C) (A:List Nat) (f:Bool) (hl:ps.length≤1000) (hp:∀ p ∈ ps,p.1.length≤1000000) (K:List (AV × AV)) (pb lo:Nat):∀ m i,m+i=ps.length→∀ h next cs id dt,PcN vw ov ls ks ke cap ar fl ra ea ps pe l e K pb lo h next cs id i dt →
 ∃ h' next' cs' id' dt',PcN vw ov ls ks ke cap ar fl ra ea ps pe l e K pb lo h' next' cs' id' ps.length dt'∧(dt=false∨0 < m→dt'=false) ∧
 CK C 0 (aP [.cell 8 2 true,.cell 9 4 true]) [.sq Na,.bk 2 ⟨true,[10,9,8,6,5,4,3],[(9999,65537)]⟩,.sq Ec] vU
  ⟨[(56,.int .i64 i),(55,.int .i64 ps.length),(54,.ro 1 (ps.map ePl) pe),(10,.map 5),(9,.ptr 4 0 0),(8,.ptr 3 0 0),(6,.ptr 2 0 0),(5,.ptr 1 0 0),(4,.ptr 0 0 0),(3,.ro 1 (A.map eAt) f)],h,next⟩ =
 CK C 0 (aP [.cell 8 2 true,.cell 9 4 true]) [] Ec ⟨[(10,.map 5),(9,.ptr 4 0 0),(8,.ptr 3 0 0),(6,.ptr 2 0 0),(5,.ptr 1 0 0),(4,.ptr 0 0 0),(3,.ro 1 (A.map eAt) f)],h',next'⟩:=by
 intro m
 induction m with
 | zero =>
  intro i hi h next cs id dt T
  have h3:¬ i < ps.length:=by omega
  have hil:i=ps.length:=by omega
  subst hil
  have ne:=T.ne
  refine ⟨h,next+1,cs,id,dt,⟨T.g0,T.g1,T.g2,T.g3,T.g4,T.g5,T.gp,T.R.mono (by omega) (fun _ _=>rfl),by omega,T.nd⟩,fun q=>by rcases q with q | q;exact q;omega,?_⟩
  rw [au vU.eq_1]
  simp (disch:=omega)
 | succ m ih =>
  intro i hi h next cs id dt T
  have h1:i < ps.length:=by omega
  have hpi:=hp _ (List.getElem_mem h1)
  have ne:=T.ne
  have hcl:=T.wl vw ov ls ks ke cap ar fl ra ea ps pe l e (by omega)
  have hcs:i < (cs++List.replicate (ps.length - i) [AV.ro 8 [] true]).length:=by simp;omega
  have hci:(cs++List.replicate (ps.length - i) [AV.ro 8 [] true])[i]=[AV.ro 8 [] true]:=by
   rw [List.getElem_append_right (by omega)];simp
  have hset:∀ v:AV,(cs++List.replicate (ps.length - i) [AV.ro 8 [] true]).set i [v]=(cs++[[v]])++List.replicate (ps.length - (i+1)) [AV.ro 8 [] true]:=by
   intro v
   rw [List.set_append_right _ _ (by omega),hcl,Nat.sub_self,show ps.length - i=(ps.length - (i+1))+1 by omega,List.replicate_succ]
   simp
  have htk:(ps.map (·.1)).take (i+1)=(ps.map (·.1)).take i++[ps[i].1]:=by
   rw [List.take_succ_eq_append_getElem (by simpa using h1)];simp
  have hlen:((ps.map (·.1)).take i).length=i:=by simp;omega
  have key:∀ (v:AV) (o:dG),oG (some o) (next+10) v ps[i].1 →
   PcN vw ov ls ks ke cap ar fl ra ea ps pe l e K pb lo (put (put h (next+10) o) pb (.cells 1 ((cs++[[v]])++List.replicate (ps.length - (i+1)) [.ro 8 [] true]) true false)) (next+15) (cs++[[v]]) (fun u=>if u=i then next+10 else id u) (i+1) false:=by
   intro v o hv
   refine ⟨?_,?_,?_,?_,?_,?_,ak ..,?_,by omega,fun j hj=>?_⟩
   · simp (disch:=omega) only [aj];exact T.g0
   · simp (disch:=omega) only [aj];exact T.g1
   · simp (disch:=omega) only [aj];exact T.g2
   · simp (disch:=omega) only [aj];exact T.g3
   · simp (disch:=omega) only [aj];exact T.g4
   · simp (disch:=omega) only [aj];exact T.g5
   · have hs:=T.R.snoc (h':=put (put h (next+10) o) pb (.cells 1 ((cs++[[v]])++List.replicate (ps.length - (i+1)) [.ro 8 [] true]) true false)) (hi':=next+15) (next+10) (by omega) (by omega) (by omega) v ps[i].1
      (fun j hj=>by
       have h1:=T.R.bd j hj
       have h2:=T.nd j (by omega)
       rw [aj (by omega),aj (by omega)])
      (by rw [aj (by omega),ak];exact hv)
     rw [hlen] at hs
     rw [htk]
     exact hs
   · split
     · omega
     · exact T.nd j (by omega)
  by_cases c:ps[i].1=[]
  · have hcl2:=Si H ps[i].2
    obtain ⟨h',n',cs',id',dt',T2,hd,hq⟩:=ih (i+1) (by omega) _ _ _ _ _ (key (.sl (next+10) 8 0 0 0 true) (.cells 8 [] true true) (.inl ⟨c,rfl,rfl⟩))
    refine ⟨h',n',cs',id',dt',T2,fun _=>hd (.inl rfl),?_⟩
    rw [← hq,au vU.eq_1]
    have gp:=T.gp
    rw [← hset] at *
    generalize cs++List.replicate (ps.length - i) [AV.ro 8 [] true]=Z at *
    simp (disch:=omega) [T.g1,T.g3,gp,h1,hcs,hci,c,hcl2,ak,aj,bI,H.toQi.inl,aH,H.toQi.pp,ppB,aN]
  · have hcl2:=PO H ps[i].1 c hpi ps[i].2
    obtain ⟨h',n',cs',id',dt',T2,hd,hq⟩:=ih (i+1) (by omega) _ _ _ _ _ (key (.sl (next+10) 8 0 ps[i].1.length ps[i].1.length false) (.cells 8 (eHs ps[i].1) true true) (.inr ⟨c,rfl,rfl⟩))
    refine ⟨h',n',cs',id',dt',T2,fun _=>hd (.inl rfl),?_⟩
    rw [← hq,au vU.eq_1]
    have gp:=T.gp
    rw [← hset] at *
    generalize cs++List.replicate (ps.length - i) [AV.ro 8 [] true]=Z at *
    simp (disch:=omega) [T.g1,T.g3,gp,h1,hcs,hci,hcl2,ak,aj,bI,H.toQi.inl,aH,H.toQi.pp,ppB,aN]
end
end Go.D
end
section
namespace Go.D
open Go Go.Pav Go.Pw P
set_option maxHeartbeats 2000000
attribute [-simp] List.getElem_cons_drop
variable {C:aJ}
section
variable (vw ov ls:Int) (ks:List Kd) (ke:Bool) (cap ar fl:Int) (l:List En) (e:Bool)
structure PcO (M S:List (AV × AV)) (sb pb lo:Nat) (RW:AV) (P:Option dG→Nat→AV→List Hd→Prop) (W:List (List Hd)) (N:List Int) (h:aI) (next:Nat) (cs:List (List AV)) (id:Nat→Nat):Prop where
 g0:Pav.get h 0=some (.cells 7 [cCf vw ov ls ks ke cap ar fl] true true)
 g2:Pav.get h 2=some (.cells 1 [[.ro 6 (l.map eEn) e]] true true)
 g3:Pav.get h 3=some (.cells 2 [[RW,.sl pb 1 0 ks.length ks.length true]] true false)
 g4:Pav.get h 4=some (.cells 4 [N.map (AV.int .i64)] true true)
 g5:Pav.get h 5=some (.map M)
 gs:Pav.get h sb=some (.map S)
 gp:Pav.get h pb=some (.cells 1 cs true false)
 R:kD P h lo next id cs W
 wl:W.length=ks.length
 ne:6≤lo∧lo≤pb∧lo≤sb∧pb < next∧sb < next∧pb≠sb
 nd:∀ j,j < ks.length→id j≠pb∧id j≠sb
theorem PcO.later {M S:List (AV × AV)} {sb pb lo:Nat} {RW:AV} {P:Option dG→Nat→AV→List Hd→Prop} {W:List (List Hd)} {N:List Int} {h h':aI} {next next':Nat} {cs:List (List AV)} {id:Nat→Nat}
 (T:PcO vw ov ls ks ke cap ar fl l e M S sb pb lo RW P W N h next cs id) (hn:next≤next') (hg:∀ j,j < next→Pav.get h' j=Pav.get h j):PcO vw ov ls ks ke cap ar fl l e M S sb pb lo RW P W N h' next' cs id:=by
 have ne:=T.ne
 exact ⟨by rw [hg _ (by omega)];exact T.g0,by rw [hg _ (by omega)];exact T.g2,by rw [hg _ (by omega)];exact T.g3,by rw [hg _ (by omega)];exact T.g4,by rw [hg _ (by omega)];exact T.g5,by rw [hg _ (by omega)];exact T.gs,by rw [hg _ (by omega)];exact T.gp,
  T.R.mono hn (fun j hj=>hg _ (T.R.bd j hj).2),T.wl,by omega,T.nd⟩
theorem PcO.ag8 {M S:List (AV × AV)} {sb pb lo:Nat} {RW:AV} {P:Option dG→Nat→AV→List Hd→Prop} {W:List (List Hd)} {N:List Int} {h:aI} {next:Nat} {cs:List (List AV)} {id:Nat→Nat}
 (T:PcO vw ov ls ks ke cap ar fl l e M S sb pb lo RW P W N h next cs id) (N':List Int):PcO vw ov ls ks ke cap ar fl l e M S sb pb lo RW P W N' (put h 4 (.cells 4 [N'.map (AV.int .i64)] true true)) next cs id:=by
 have ne:=T.ne
 refine ⟨by rw [aj (by omega)];exact T.g0,by rw [aj (by omega)];exact T.g2,by rw [aj (by omega)];exact T.g3,ak ..,by rw [aj (by omega)];exact T.g5,by rw [aj (by omega)];exact T.gs,by rw [aj (by omega)];exact T.gp,
  T.R.mono (Nat.le_refl _) (fun j hj=>aj (by have:=(T.R.bd j hj).1;omega)),T.wl,T.ne,T.nd⟩
theorem PcO.aow {M S:List (AV × AV)} {sb pb lo:Nat} {RW:AV} {P:Option dG→Nat→AV→List Hd→Prop} {W:List (List Hd)} {N:List Int} {h:aI} {next:Nat} {cs:List (List AV)} {id:Nat→Nat}
 (T:PcO vw ov ls ks ke cap ar fl l e M S sb pb lo RW P W N h next cs id) (S':List (AV × AV)):PcO vw ov ls ks ke cap ar fl l e M S' sb pb lo RW P W N (put h sb (.map S')) next cs id:=by
 have ne:=T.ne
 refine ⟨by rw [aj (by omega)];exact T.g0,by rw [aj (by omega)];exact T.g2,by rw [aj (by omega)];exact T.g3,by rw [aj (by omega)];exact T.g4,by rw [aj (by omega)];exact T.g5,ak ..,by rw [aj (by omega)];exact T.gp,
  T.R.mono (Nat.le_refl _) (fun j hj=>aj (Ne.symm (T.nd j (by rw [← T.wl];exact hj)).2)),T.wl,T.ne,T.nd⟩
theorem PcO.ZF {M S:List (AV × AV)} {sb pb lo:Nat} {RW:AV} {P:Option dG→Nat→AV→List Hd→Prop} {W:List (List Hd)} {N:List Int} {h h':aI} {next next':Nat} {cs:List (List AV)} {id:Nat→Nat}
 (T:PcO vw ov ls ks ke cap ar fl l e M S sb pb lo RW P W N h next cs id) (t:Nat) (ht:t < ks.length) (b:Nat) (hb:b=id t∨next≤b) (hb2:b < next') (hn:next≤next') (v:AV) (d:List Hd) (hP:P (Pav.get h' b) b v d)
 (hp:Pav.get h' pb=some (.cells 1 (cs.set t [v]) true false)) (hg:∀ j,j < next→j≠id t→j≠pb→Pav.get h' j=Pav.get h j) :
 PcO vw ov ls ks ke cap ar fl l e M S sb pb lo RW P (W.set t d) N h' next' (cs.set t [v]) (fun i=>if i=t then b else id i):=by
 have ne:=T.ne
 have wl:=T.wl
 have hbd:=T.R.bd t (by omega)
 have hnt:=T.nd t ht
 refine ⟨?_,?_,?_,?_,?_,?_,hp,T.R.set t (by omega) b hb (by omega) hb2 hn v d (fun j hj hjt=>?_) hP,by simp [wl],by omega,fun j hj=>?_⟩
 · rw [hg _ (by omega) (by omega) (by omega)];exact T.g0
 · rw [hg _ (by omega) (by omega) (by omega)];exact T.g2
 · rw [hg _ (by omega) (by omega) (by omega)];exact T.g3
 · rw [hg _ (by omega) (by omega) (by omega)];exact T.g4
 · rw [hg _ (by omega) (by omega) (by omega)];exact T.g5
 · rw [hg _ (by omega) (by omega) (by omega)];exact T.gs
 · have h1:=T.R.bd j hj
   exact hg _ h1.2 (fun q=>hjt (T.R.inj j t hj (by omega) q)) (T.nd j (by omega)).1
 · have h1:=T.nd j hj
   split
   · rcases hb with q | q
     · rw [q];exact hnt
     · omega
   · exact h1
end
end Go.D
end
section
namespace Go.D
open Go Go.Pav Go.Pw P
set_option maxHeartbeats 2000000
attribute [-simp] List.getElem_cons_drop
variable {C:aJ}
section
variable (vw ov ls:Int) (ks:List Kd) (ke:Bool) (cap ar fl:Int) (l:List En) (e:Bool)
theorem aa5 (H:Fj C) (A:List Nat) (f:Bool) (ra:List Hd) (ea:Bool) (hra:ra.length≤1000) (hrn:(ra.map Hd.k).Nodup) (hty:∀ x ∈ ra,∃ t:Nat,x.t=t∧t < ks.length) (K:List (Int × Int)) (hM:∀ x ∈ ra,(stF x l A=true↔qM x.k K=some x.t)) (sb pb lo:Nat):∀ m i,m+i=ra.length →
 ∀ (W:List (List Hd)) (d:Int) (h:aI) (next:Nat) (cs:List (List AV)) (id:Nat→Nat),
 PcO vw ov ls ks ke cap ar fl l e (uD K) (tC (stay (ra.take i) l A)) sb pb lo (.ro 8 [] true) oG W [0,0,d,0] h next cs id→(∀ w ∈ W,w.length+m≤1000000)→(∀ (j:Nat) (w:List Hd),W[j]?=some w→(w.length:Int)≤tX ks j)→0≤d→d+m≤1000000 →
 ∃ h' next' cs' id',PcO vw ov ls ks ke cap ar fl l e (uD K) (tC (stay ra l A)) sb pb lo (.ro 8 [] true) oG (cm1 ks l A (ra.drop i) (W,d)).1 [0,0,(cm1 ks l A (ra.drop i) (W,d)).2,0] h' next' cs' id' ∧
 CK C 0 (aP [.cell 8 2 true,.cell 9 4 true]) [.sq N7,.bk 4 ⟨true,[16,9,8,6,4,3],[(9999,65537)]⟩,.sq EP] oV
  ⟨[(72,.int .i64 i),(71,.int .i64 ra.length),(70,.ro 8 (ra.map eHd) ea),(16,.map sb),(10,.map 5),(9,.ptr 4 0 0),(8,.ptr 3 0 0),(6,.ptr 2 0 0),(4,.ptr 0 0 0),(3,.ro 1 (A.map eAt) f)],h,next⟩ =
 CK C 0 (aP [.cell 8 2 true,.cell 9 4 true]) [] EP ⟨[(16,.map sb),(9,.ptr 4 0 0),(8,.ptr 3 0 0),(6,.ptr 2 0 0),(4,.ptr 0 0 0),(3,.ro 1 (A.map eAt) f)],h',next'⟩:=by
 intro m
 induction m with
 | zero =>
  intro i hi W d h next cs id T hW hWp h0 h1
  have h2:ra.drop i=[]:=List.drop_eq_nil_of_le (by omega)
  have h3:¬ i < ra.length:=by omega
  rw [List.take_of_length_le (by omega)] at T
  rw [h2]
  refine ⟨h,next+1,cs,id,T.later vw ov ls ks ke cap ar fl l e (by omega) (fun _ _=>rfl),?_⟩
  rw [au oV.eq_1]
  simp (disch:=omega) [h3]
 | succ m ih =>
  intro i hi W d h next cs id T hW hWp h0 h1
  have h3:i < ra.length:=by omega
  obtain ⟨t,ht,htl⟩:=hty _ (List.getElem_mem h3)
  have hg:=Px ra[i].k K
  have hMi:=hM _ (List.getElem_mem h3)
  have ne:=T.ne
  have hwl:=T.wl
  have hcl:cs.length=ks.length:=by rw [T.R.len,hwl]
  have htc:t < cs.length:=by omega
  have htW:t < W.length:=by omega
  have nd:=T.nd t htl
  have bd:=T.R.bd t htW
  have hW1:=hW _ (List.getElem_mem htW)
  have hrow:rowAt W ra[i].t=W[t]:=by rw [ht];simp [rowAt,htW]
  have hpl:tX ks ra[i].t=ks[t].pl:=by rw [ht];simp [tX,htl]
  have htk:ra.take (i+1)=ra.take i++[ra[i]]:=List.take_succ_eq_append_getElem h3
  rw [drop_cons h3]
  by_cases c:stF ra[i] l A=true
  · have hS:(stay (ra.take i) l A).contains ra[i].k=false:=by
     cases q:(stay (ra.take i) l A).contains ra[i].k
     · rfl
     · exfalso
       obtain ⟨x,hx,hxk⟩:=List.mem_map.1 (List.contains_iff_mem.1 q)
       have hx2:=(List.mem_filter.1 hx).1
       have hn:=hrn
       rw [← List.take_append_drop i ra,List.map_append,List.nodup_append] at hn
       exact hn.2.2 _ (List.mem_map.2 ⟨x,hx2,rfl⟩) _ (by rw [drop_cons h3];simp) hxk
    have hSt:stay (ra.take (i+1)) l A=stay (ra.take i) l A++[ra[i].k]:=by unfold stay;rw [htk,List.filter_append,List.map_append];simp [c]
    have hp:=xO ra[i].k _ hS
    rw [hMi.1 c,ht] at hg
    rw [← hSt] at hp
    have T1:=(T.later vw ov ls ks ke cap ar fl l e (h':=put h (next+3) (.cells 8 [AV.int .u64 ra[i].k::AV.int .u8 t::ra[i].n.c] true true)) (next':=next+34) (by omega) (fun j hj=>aj (by omega))).aow vw ov ls ks ke cap ar fl l e (tC (stay (ra.take (i+1)) l A))
    obtain ⟨h',n',cs',id',e2,e1⟩:=ih (i+1) (by omega) W d _ _ _ _ T1 (fun w hw=>by have:=hW w hw;omega) hWp h0 (by omega)
    refine ⟨h',n',cs',id',by simp only [cm1,c,if_true];exact e2,?_⟩
    rw [← e1]
    have gs:=T.gs
    generalize tC (stay (ra.take (i+1)) l A)=S1 at *
    generalize tC (stay (ra.take i) l A)=S0 at *
    rw [au oV.eq_1]
    simp at hg
    simp (disch:=omega) [T.g0,T.g2,T.g3,T.g4,T.g5,gs,T.gp,h3,ht,htl,htc,hg,hp,ak,aj,bI,aN]
  · have hSt:stay (ra.take (i+1)) l A=stay (ra.take i) l A:=by unfold stay;rw [htk,List.filter_append,List.map_append];simp [c]
    rw [← hSt] at T
    have hlk:∃ u:Option Int,qM ra[i].k K=u∧u≠some (t:Int):=⟨_,rfl,fun q=>c (hMi.2 (by rw [q,ht]))⟩
    obtain ⟨u,hu,hun⟩:=hlk
    rw [hu] at hg
    obtain ⟨v,hv,hP⟩:=T.R.row t W[t] (List.getElem?_eq_getElem htW)
    rw [List.getElem?_eq_getElem htc] at hv
    replace hv:=Option.some.inj hv
    have hWt:=hWp t W[t] (List.getElem?_eq_getElem htW)
    rw [← ht,hpl] at hWt
    by_cases c2:(W[t].length:Int)=ks[t].pl
    · have hcm:∀ r s,cm1 ks l A (ra[i]::r) (W,s)=cm1 ks l A r (W,s+1):=by
       intro r s
       simp only [cm1,if_neg c]
       rw [if_pos (by rw [hrow,hpl];exact c2)]
      rw [hcm]
      have T1:=(T.later vw ov ls ks ke cap ar fl l e (h':=put h (next+3) (.cells 8 [AV.int .u64 ra[i].k::AV.int .u8 t::ra[i].n.c] true true)) (next':=next+48) (by omega) (fun j hj=>aj (by omega))).ag8 vw ov ls ks ke cap ar fl l e [0,0,d+1,0]
      obtain ⟨h',n',cs',id',e2,e1⟩:=ih (i+1) (by omega) W (d+1) _ _ _ _ T1 (fun w hw=>by have:=hW w hw;omega) hWp (by omega) (by omega)
      refine ⟨h',n',cs',id',e2,?_⟩
      rw [← e1]
      have gs:=T.gs
      generalize tC (stay (ra.take (i+1)) l A)=S0 at *
      have c3:¬ (W[t].length:Int) < ks[t].pl:=by omega
      have g4:=T.g4
      rw [au oV.eq_1]
      rcases hP with ⟨p0,p1,p2⟩ | ⟨p0,p1,p2⟩
      · rw [p1] at hv
        rw [p0] at c3
        simp at c3
        have c4:¬ 0 < ks[t].pl:=by omega
        cases u with
        | none =>
         simp at hg
         simp (disch:=omega) [T.g0,T.g2,T.g3,g4,T.g5,gs,T.gp,p2,h3,ht,htl,htc,hg,hv,c3,c4,ak,aj,bI,aN]
        | some u =>
         simp at hg
         have hun2:¬ u=(t:Int):=fun q=>hun (by rw [q])
         simp (disch:=omega) [T.g0,T.g2,T.g3,g4,T.g5,gs,T.gp,p2,h3,ht,htl,htc,hg,hv,c3,c4,hun2,ak,aj,bI,aN]
      · rw [p1] at hv
        cases u with
        | none =>
         simp at hg
         simp (disch:=omega) [T.g0,T.g2,T.g3,g4,T.g5,gs,T.gp,p2,h3,ht,htl,htc,hg,hv,c3,ak,aj,bI,aN]
        | some u =>
         simp at hg
         have hun2:¬ u=(t:Int):=fun q=>hun (by rw [q])
         simp (disch:=omega) [T.g0,T.g2,T.g3,g4,T.g5,gs,T.gp,p2,h3,ht,htl,htc,hg,hv,c3,hun2,ak,aj,bI,aN]
    · have hcm:∀ r s,cm1 ks l A (ra[i]::r) (W,s)=cm1 ks l A r (W.set t (W[t]++[ra[i]]),s):=by
       intro r s
       have:ra[i].t.toNat=t:=by omega
       simp only [cm1,if_neg c]
       rw [if_neg (by rw [hrow,hpl];exact c2),hrow,this]
      rw [hcm]
      have hft:(W[t].length+1) * 121≤35184372088832:=by omega
      have c3:(W[t].length:Int) < ks[t].pl:=by omega
      have hplt:tX ks t=ks[t].pl:=by rw [← ht];exact hpl
      have hWn:∀ w ∈ W.set t (W[t]++[ra[i]]),w.length+m≤1000000:=by
       intro w hw
       rcases List.mem_or_eq_of_mem_set hw with q | q
       · have:=hW w q;omega
       · subst q;simp;omega
      have hWpn:∀ (j:Nat) (w:List Hd),(W.set t (W[t]++[ra[i]]))[j]?=some w→(w.length:Int)≤tX ks j:=by
       intro j w hw
       rw [List.getElem?_set] at hw
       split at hw
       · rename_i q
         subst q
         obtain rfl:=Option.some.inj hw
         rw [hplt];simp;omega
       · exact hWp j w hw
      have gs:=T.gs
      have g4:=T.g4
      rcases hP with ⟨p0,p1,p2⟩ | ⟨p0,p1,p2⟩
      · rw [p1] at hv
        have T1:=T.ZF vw ov ls ks ke cap ar fl l e t htl (next+47) (.inr (by omega)) (show next+47 < next+52 by omega) (by omega) (.sl (next+47) 8 0 1 1 false) (W[t]++[ra[i]])
         (h':=put (put (put (put h (next+3) (.cells 8 [(AV.int .u64 ra[i].k::AV.int .u8 t::ra[i].n.c)] true true)) (next+46) (.cells 8 [(AV.int .u64 ra[i].k::AV.int .u8 t::ra[i].n.c)] true true)) (next+47) (.cells 8 [(AV.int .u64 ra[i].k::AV.int .u8 t::ra[i].n.c)] true true)) pb (.cells 1 (cs.set t [.sl (next+47) 8 0 1 1 false]) true false))
         (.inr ⟨by simp,by rw [p0];rfl,by simp (disch:=omega) only [ak,aj];rw [p0];simp [ht]⟩) (by rw [ak]) (fun j h1 h2 h3=>by simp (disch:=omega) only [ak,aj])
        obtain ⟨h',n',cs',id',e2,e1⟩:=ih (i+1) (by omega) _ d _ _ _ _ T1 hWn hWpn h0 (by omega)
        refine ⟨h',n',cs',id',e2,?_⟩
        rw [← e1]
        generalize tC (stay (ra.take (i+1)) l A)=S0 at *
        rw [au oV.eq_1]
        rw [p0] at c3
        simp at c3
        cases u with
        | none =>
         simp at hg
         simp (disch:=omega) [T.g0,T.g2,T.g3,g4,T.g5,gs,T.gp,p2,h3,ht,htl,htc,hg,hv,c3,ak,aj,aB,bI,aN,ltF,gtF,neF,fits]
        | some u =>
         simp at hg
         have hun2:¬ u=(t:Int):=fun q=>hun (by rw [q])
         simp (disch:=omega) [T.g0,T.g2,T.g3,g4,T.g5,gs,T.gp,p2,h3,ht,htl,htc,hg,hv,c3,hun2,ak,aj,aB,bI,aN,ltF,gtF,neF,fits]
      · rw [p1] at hv
        have T1:=T.ZF vw ov ls ks ke cap ar fl l e t htl (next+47) (.inr (by omega)) (show next+47 < next+52 by omega) (by omega) (.sl (next+47) 8 0 (W[t].length+1) (W[t].length+1) false) (W[t]++[ra[i]])
         (h':=put (put (del (put (put h (next+3) (.cells 8 [(AV.int .u64 ra[i].k::AV.int .u8 t::ra[i].n.c)] true true)) (next+46) (.cells 8 [(AV.int .u64 ra[i].k::AV.int .u8 t::ra[i].n.c)] true true)) (id t)) (next+47) (.cells 8 (eHs W[t]++[(AV.int .u64 ra[i].k::AV.int .u8 t::ra[i].n.c)]) true true)) pb (.cells 1 (cs.set t [.sl (next+47) 8 0 (W[t].length+1) (W[t].length+1) false]) true false))
         (.inr ⟨by simp,by simp,by simp (disch:=omega) only [ak,aj];simp [ht]⟩) (by rw [ak]) (fun j h1 h2 h3=>by
          have:=Ne.symm h2
          simp (disch:=omega) only [ak,aj,aB])
        obtain ⟨h',n',cs',id',e2,e1⟩:=ih (i+1) (by omega) _ d _ _ _ _ T1 hWn hWpn h0 (by omega)
        refine ⟨h',n',cs',id',e2,?_⟩
        rw [← e1]
        generalize tC (stay (ra.take (i+1)) l A)=S0 at *
        rw [au oV.eq_1]
        cases u with
        | none =>
         simp at hg
         simp (disch:=omega) [T.g0,T.g2,T.g3,g4,T.g5,gs,T.gp,p2,h3,ht,htl,htc,hg,hv,c3,ak,aj,aB,bI,aN,ltF,gtF,neF,hft]
        | some u =>
         simp at hg
         have hun2:¬ u=(t:Int):=fun q=>hun (by rw [q])
         simp (disch:=omega) [T.g0,T.g2,T.g3,g4,T.g5,gs,T.gp,p2,h3,ht,htl,htc,hg,hv,c3,hun2,ak,aj,aB,bI,aN,ltF,gtF,neF,hft]
end
end Go.D
end
section
namespace Go.D
open Go Go.Pav Go.Pw P
set_option maxHeartbeats 2000000
attribute [-simp] List.getElem_cons_drop
variable {C:aJ}
section
variable (vw ov ls:Int) (ks:List Kd) (ke:Bool) (cap ar fl:Int) (l:List En) (e:Bool)
theorem PcO.any {M S:List (AV × AV)} {sb pb lo:Nat} {RW:AV} {W:List (List Hd)} {N:List Int} {h:aI} {next:Nat} {cs:List (List AV)} {id:Nat→Nat}
 (T:PcO vw ov ls ks ke cap ar fl l e M S sb pb lo RW oG W N h next cs id):PcO vw ov ls ks ke cap ar fl l e M S sb pb lo RW jk W N h next cs id :=
 ⟨T.g0,T.g2,T.g3,T.g4,T.g5,T.gs,T.gp,T.R.weak (fun _ _ _ _ q=>q.any),T.wl,T.ne,T.nd⟩
theorem aaF (H:Fj C) (tp:En→Nd) (A:List Nat) (f:Bool) (ra:List Hd) (hA:A.length≤1000) (hAl:∀ a ∈ A,a < l.length) (hll:l.length≤100000)
 (hty:∀ x ∈ l,∃ t:Nat,x.i.t=t∧t < ks.length) (htr:∀ (a:Nat) (h:a < l.length) (q:Bool),FnW C 238 [aR ks ke cap,aL [l[a]] q,.int .i64 0]=some (.tup [.agg (tp l[a]).c,.int .i64 0]))
 (M S:List (AV × AV)) (hS:∀ a ∈ A,∀ (h:a < l.length),jy S (.int .u64 l[a].i.k)=some (if mO ra l[a]=true then some (.bool true) else none)) (sb pb lo:Nat):∀ m i,m+i=A.length→∀ (RW:AV) (O:List Hd) (rbk:Nat) (W:List (List Hd)) (rb mk d:Int) (h:aI) (next:Nat) (cs:List (List AV)) (id:Nat→Nat),
 PcO vw ov ls ks ke cap ar fl l e M S sb pb lo RW jk W [rb,mk,d,0] h next cs id→qE ks pb sb sb lo RW O rbk h next id→O.length+m≤1000000→0≤rb→rb+m≤1000000→0≤mk→mk+m≤1000000→(∀ w ∈ W,w.length≤1000000) →
 ∃ h' next' cs' id' RW' rbk',CK C 0 (aP [.cell 8 2 true,.cell 9 4 true]) [.sq Ae,.bk 7 ⟨true,[9,8],[(9999,65537)]⟩,.sq vS] o9
  ⟨[(127,.int .i64 i),(126,.int .i64 A.length),(125,.ro 1 (A.map eAt) f),(16,.map sb),(9,.ptr 4 0 0),(8,.ptr 3 0 0),(6,.ptr 2 0 0),(4,.ptr 0 0 0)],h,next⟩ =
  CK C 0 (aP [.cell 8 2 true,.cell 9 4 true]) [] vS ⟨[(9,.ptr 4 0 0),(8,.ptr 3 0 0)],h',next'⟩ ∧
  PcO vw ov ls ks ke cap ar fl l e M S sb pb lo RW' jk (cm2 tp ra l (A.drop i) (O,W,rb,mk)).2.1 [(cm2 tp ra l (A.drop i) (O,W,rb,mk)).2.2.1,(cm2 tp ra l (A.drop i) (O,W,rb,mk)).2.2.2,d,0] h' next' cs' id' ∧
  qE ks pb sb sb lo RW' (cm2 tp ra l (A.drop i) (O,W,rb,mk)).1 rbk' h' next' id':=by
 intro m
 induction m with
 | zero =>
  intro i hi RW O rbk W rb mk d h next cs id T U hO hrb hrb2 hmk hmk2 hW
  have h2:A.drop i=[]:=List.drop_eq_nil_of_le (by omega)
  have h3:¬ i < A.length:=by omega
  rw [h2]
  refine ⟨h,next+1,cs,id,RW,rbk,?_,T.later vw ov ls ks ke cap ar fl l e (by omega) (fun _ _=>rfl),?_⟩
  · rw [au o9.eq_1]
    simp (disch:=omega) [h3]
  · rcases U with u | ⟨u1,u2,u3,u4,u5,u6⟩
    · exact .inl u
    · exact .inr ⟨u1,u2,u3,u4,by omega,u6⟩
 | succ m ih =>
  intro i hi RW O rbk W rb mk d h next cs id T U hO hrb hrb2 hmk hmk2 hW
  have h3:i < A.length:=by omega
  have hAi:=hAl _ (List.getElem_mem h3)
  obtain ⟨t,ht,htl⟩:=hty _ (List.getElem_mem hAi)
  have htree:FnW C 238 [.agg [.ro 9 (ks.map eKd) ke,.int .i64 cap],.agg [.ro 6 [[.int .u64 l[A[i]].i.k,.int .u8 (t:Int),.str l[A[i]].i.x,.ro 1 (l[A[i]].i.m.map eS) l[A[i]].i.e,.int .i64 l[A[i]].s,.bool l[A[i]].kn]] true],.int .i64 0]=some (.tup [.agg (tp l[A[i]]).c,.int .i64 0]):=by
   rw [← ht];exact htr A[i] hAi true
  have hrules:=A8 H.toqU vw ov ls ks ke cap ar fl
  have hg:=hS _ (List.getElem_mem h3) hAi
  have ne:=T.ne
  have hwl:=T.wl
  have htW:t < W.length:=by omega
  have hcl:cs.length=ks.length:=by rw [T.R.len,hwl]
  have htc:t < cs.length:=by omega
  have hW1:=hW _ (List.getElem_mem htW)
  have hrow:rowAt W l[A[i]].i.t=W[t]:=by rw [ht];simp [rowAt,htW]
  have hft:(O.length+1) * 121≤35184372088832:=by omega
  have hA1:A[i]+1≤l.length:=by omega
  have hsl:List.drop A[i] (List.take (A[i]+1) (l.map eEn))=[eEn l[A[i]]]:=by
   rw [List.drop_take,List.drop_eq_getElem_cons (by simpa using hAi)];simp
  rw [drop_cons h3]
  obtain ⟨v,hv,hP⟩:=T.R.row t W[t] (List.getElem?_eq_getElem htW)
  rw [List.getElem?_eq_getElem htc] at hv
  replace hv:=Option.some.inj hv
  obtain ⟨cap2,ex,es,rfl,q1,q2,q3,q4⟩:=hP
  have bd:=T.R.bd t htW
  have nd:=T.nd t htl
  have hatt:l[A[i]].i.t.toNat=t:=by omega
  have gp:=T.gp
  have gs:=T.gs
  have g4:=T.g4
  have g5:=T.g5
  rcases U with ⟨u1,u2⟩ | ⟨u1,u2,u3,u4,u5,u6,u7,u8,u9⟩
  · subst u1;subst u2
    obtain ⟨L,hL⟩:∃ L,L=CK C 0 (aP [.cell 8 2 true,.cell 9 4 true]) [.sq Ae,.bk 7 ⟨true,[9,8],[(9999,65537)]⟩,.sq vS] o9 ⟨[(127,.int .i64 i),(126,.int .i64 A.length),(125,.ro 1 (A.map eAt) f),(16,.map sb),(9,.ptr 4 0 0),(8,.ptr 3 0 0),(6,.ptr 2 0 0),(4,.ptr 0 0 0)],h,next⟩:=⟨_,rfl⟩
    rw [← hL]
    rw [au o9.eq_1] at hL
    simp (disch:=omega) [T.g0,T.g2,T.g3,g4,gp,gs,hv,h3,hAi,ak,aj,aB,H.toQi.inl,aH,H.toQi.pp,ppB,htree,hrules,aN,bI,ltF,gtF,neF,fits,hft,ht,htl,htc,hA1,hsl] at hL
    by_cases c:mO ra l[A[i]]=true
    · have hcm:∀ O r,cm2 tp ra l (A[i]::r) (O,W,rb,mk)=cm2 tp ra l r (O++[⟨l[A[i]].i.k,l[A[i]].i.t,tp l[A[i]]⟩],W,rb,mk):=by
       intro O r
       simp only [cm2,List.getElem?_eq_getElem hAi,c,if_true]
      rw [if_pos c] at hg
      obtain ⟨hh,hhe⟩:∃ hh,hh=put (put (put (put (put h (next+10) (.cells 4 [[AV.int .u64 l[A[i]].i.k,AV.int .u8 (t:Int),AV.str l[A[i]].i.x,AV.ro 1 (List.map eS l[A[i]].i.m) l[A[i]].i.e]] true true)) (next+27) (.cells 6 [(tp l[A[i]]).c] true true)) (next+38) (.cells 8 [(AV.int .u64 l[A[i]].i.k::AV.int .u8 (t:Int)::(tp l[A[i]]).c)] true true)) (next+39) (.cells 8 [(AV.int .u64 l[A[i]].i.k::AV.int .u8 (t:Int)::(tp l[A[i]]).c)] true true)) 3 (.cells 2 [[.sl (next+39) 8 0 1 1 false,.sl pb 1 0 ks.length ks.length true]] true false):=⟨_,rfl⟩
      have T1:PcO vw ov ls ks ke cap ar fl l e M S sb pb lo (.sl (next+39) 8 0 1 1 false) jk W [rb,mk,d,0] hh (next+60) cs id:=by
       refine ⟨?_,?_,?_,?_,?_,?_,?_,T.R.mono (by omega) (fun j hj=>by rw [hhe];have:=T.R.bd j (by omega);have:=T.nd j (by omega);simp (disch:=omega) only [ak,aj,aB]),by simp [hwl],by omega,fun j hj=>?_⟩
       any_goals (rw [hhe];simp (disch:=omega) only [ak,aj,aB] <;> first | rfl | exact T.g0 | exact T.g2 | exact g4 | exact g5 | exact gs | exact gp)
       · have:=T.nd j hj
         exact this
      have U1:qE ks pb sb sb lo (.sl (next+39) 8 0 1 1 false) [⟨l[A[i]].i.k,l[A[i]].i.t,tp l[A[i]]⟩] (next+39) hh (next+60) id:=by
       refine .inr ⟨by simp,by simp,?_,by omega,by omega,by omega,by omega,by omega,fun j hj=>?_⟩
       · rw [hhe];simp (disch:=omega) only [ak,aj,aB];simp [ht]
       · have:=T.R.bd j (by omega);have:=T.R.bd t htW;omega
      obtain ⟨h',n',cs',id',RW',rbk',e1,e2,e3⟩:=ih (i+1) (by omega) _ [⟨l[A[i]].i.k,l[A[i]].i.t,tp l[A[i]]⟩] _ W rb mk d _ _ _ _ T1 U1 (by simp;omega) (by omega) (by omega) (by omega) (by omega) hW
      refine ⟨h',n',cs',id',RW',rbk',?_,by rw [hcm];exact e2,by rw [hcm];exact e3⟩
      rw [hL,← e1,hhe]
      simp (disch:=omega) [T.g0,T.g2,T.g3,g4,gp,gs,hAi,ak,aj,aB,H.toQi.inl,aH,H.toQi.pp,ppB,aN,bI,ltF,gtF,neF,fits,hft,ht,htl,htc,hv,hg]
    · have c':mO ra l[A[i]]=false:=by simpa using c
      rw [if_neg c] at hg
      by_cases c3:W[t].length=0
      · have hcm:∀ O r,cm2 tp ra l (A[i]::r) (O,W,rb,mk)=cm2 tp ra l r (O++[⟨l[A[i]].i.k,l[A[i]].i.t,tp l[A[i]]⟩],W,rb,mk+1):=by
         intro O r
         simp only [cm2,List.getElem?_eq_getElem hAi,c',hrow,c3,if_true,Bool.false_eq_true,if_false]
        obtain ⟨hh,hhe⟩:∃ hh,hh=put (put (put (put (put (put h (next+10) (.cells 4 [[AV.int .u64 l[A[i]].i.k,AV.int .u8 (t:Int),AV.str l[A[i]].i.x,AV.ro 1 (List.map eS l[A[i]].i.m) l[A[i]].i.e]] true true)) (next+27) (.cells 6 [(tp l[A[i]]).c] true true)) (next+38) (.cells 8 [(AV.int .u64 l[A[i]].i.k::AV.int .u8 (t:Int)::(tp l[A[i]]).c)] true true)) (next+39) (.cells 8 [(AV.int .u64 l[A[i]].i.k::AV.int .u8 (t:Int)::(tp l[A[i]]).c)] true true)) 3 (.cells 2 [[.sl (next+39) 8 0 1 1 false,.sl pb 1 0 ks.length ks.length true]] true false)) 4 (.cells 4 [[.int .i64 rb,.int .i64 (mk+1),.int .i64 d,.int .i64 0]] true true):=⟨_,rfl⟩
        have T1:PcO vw ov ls ks ke cap ar fl l e M S sb pb lo (.sl (next+39) 8 0 1 1 false) jk W [rb,mk+1,d,0] hh (next+68) cs id:=by
         refine ⟨?_,?_,?_,?_,?_,?_,?_,T.R.mono (by omega) (fun j hj=>by rw [hhe];have:=T.R.bd j (by omega);have:=T.nd j (by omega);simp (disch:=omega) only [ak,aj,aB]),by simp [hwl],by omega,fun j hj=>?_⟩
         any_goals (rw [hhe];simp (disch:=omega) only [ak,aj,aB] <;> first | rfl | exact T.g0 | exact T.g2 | exact g4 | exact g5 | exact gs | exact gp)
         · have:=T.nd j hj
           exact this
        have U1:qE ks pb sb sb lo (.sl (next+39) 8 0 1 1 false) [⟨l[A[i]].i.k,l[A[i]].i.t,tp l[A[i]]⟩] (next+39) hh (next+68) id:=by
         refine .inr ⟨by simp,by simp,?_,by omega,by omega,by omega,by omega,by omega,fun j hj=>?_⟩
         · rw [hhe];simp (disch:=omega) only [ak,aj,aB];simp [ht]
         · have:=T.R.bd j (by omega);have:=T.R.bd t htW;omega
        obtain ⟨h',n',cs',id',RW',rbk',e1,e2,e3⟩:=ih (i+1) (by omega) _ [⟨l[A[i]].i.k,l[A[i]].i.t,tp l[A[i]]⟩] _ W rb (mk+1) d _ _ _ _ T1 U1 (by simp;omega) (by omega) (by omega) (by omega) (by omega) hW
        refine ⟨h',n',cs',id',RW',rbk',?_,by rw [hcm];exact e2,by rw [hcm];exact e3⟩
        rw [hL,← e1,hhe]
        simp (disch:=omega) [T.g0,T.g2,T.g3,g4,gp,gs,hAi,ak,aj,aB,H.toQi.inl,aH,H.toQi.pp,ppB,aN,bI,ltF,gtF,neF,fits,hft,ht,htl,htc,hv,hg,c3]
      · obtain ⟨n,hn⟩:∃ n,W[t].length=n+1:=⟨W[t].length - 1,by omega⟩
        have hcm:∀ O r,cm2 tp ra l (A[i]::r) (O,W,rb,mk)=cm2 tp ra l r (O++[⟨l[A[i]].i.k,l[A[i]].i.t,tp l[A[i]]⟩],W.set t (W[t].take n),rb+1,mk):=by
         intro O r
         have:W[t].length - 1=n:=by omega
         simp only [cm2,List.getElem?_eq_getElem hAi,c',hrow,c3,Bool.false_eq_true,if_false,hatt,this]
        have hnl:(W[t].take n).length=n:=by simp;omega
        have hwn:IntKind.i64.wrap (n:Int)=n:=aN (by omega) (by omega)
        have hne0:¬ ((n:Int)+1=0):=by omega
        have hncap:n≤cap2:=by omega
        have hcap1:n+1≤cap2:=by omega
        have hcap0:0 < cap2:=by omega
        have hif:(if 0 < n then some (AV.sl (id t) 8 0 n n true) else some (AV.sl (id t) 8 0 0 0 true))=some (AV.sl (id t) 8 0 n n true):=by
         split
         · rfl
         · rw [show n=0 by omega]
        have hWs:∀ w ∈ W.set t (W[t].take n),w.length≤1000000:=by
         intro w hw
         rcases List.mem_or_eq_of_mem_set hw with q | q
         · exact hW w q
         · subst q;omega
        have hANY:∀ o,o=some (dG.cells 8 (eHs es) true true)→jk o (id t) (.sl (id t) 8 0 n n true) (W[t].take n):=by
         rintro o rfl
         refine ⟨n,true,es,by rw [hnl],by omega,by omega,?_,rfl⟩
         rw [hnl,← q3,List.take_take]
         congr 1
         omega
        obtain ⟨hh,hhe⟩:∃ hh,hh=put (put (put (put (put (put (put h (next+10) (.cells 4 [[AV.int .u64 l[A[i]].i.k,AV.int .u8 (t:Int),AV.str l[A[i]].i.x,AV.ro 1 (List.map eS l[A[i]].i.m) l[A[i]].i.e]] true true)) (next+27) (.cells 6 [(tp l[A[i]]).c] true true)) (next+38) (.cells 8 [(AV.int .u64 l[A[i]].i.k::AV.int .u8 (t:Int)::(tp l[A[i]]).c)] true true)) (next+39) (.cells 8 [(AV.int .u64 l[A[i]].i.k::AV.int .u8 (t:Int)::(tp l[A[i]]).c)] true true)) 3 (.cells 2 [[.sl (next+39) 8 0 1 1 false,.sl pb 1 0 ks.length ks.length true]] true false)) pb (.cells 1 (cs.set t [.sl (id t) 8 0 n n true]) true false)) 4 (.cells 4 [[.int .i64 (rb+1),.int .i64 mk,.int .i64 d,.int .i64 0]] true true):=⟨_,rfl⟩
        have T1:PcO vw ov ls ks ke cap ar fl l e M S sb pb lo (.sl (next+39) 8 0 1 1 false) jk (W.set t (W[t].take n)) [rb+1,mk,d,0] hh (next+79) (cs.set t [.sl (id t) 8 0 n n true]) (fun j=>if j=t then id t else id j):=by
         refine ⟨?_,?_,?_,?_,?_,?_,?_,T.R.set t htW (id t) (.inl rfl) bd.1 (by omega) (by omega) _ _ (fun j hj hjt=>by rw [hhe];have:=T.R.bd j (by omega);have:=T.nd j (by omega);simp (disch:=omega) only [ak,aj,aB]) (hANY _ (by rw [hhe];simp (disch:=omega) only [ak,aj,aB];exact q4)),by simp [hwl],by omega,fun j hj=>?_⟩
         any_goals (rw [hhe];simp (disch:=omega) only [ak,aj,aB] <;> first | rfl | exact T.g0 | exact T.g2 | exact g4 | exact g5 | exact gs | exact gp)
         · have h1:=T.nd j hj
           have h2:=T.nd t htl
           split <;> assumption
        have U1:qE ks pb sb sb lo (.sl (next+39) 8 0 1 1 false) [⟨l[A[i]].i.k,l[A[i]].i.t,tp l[A[i]]⟩] (next+39) hh (next+79) (fun j=>if j=t then id t else id j):=by
         refine .inr ⟨by simp,by simp,?_,by omega,by omega,by omega,by omega,by omega,fun j hj=>?_⟩
         · rw [hhe];simp (disch:=omega) only [ak,aj,aB];simp [ht]
         · have:=T.R.bd j (by omega);have:=T.R.bd t htW;show (if j=t then id t else id j)≠next+39;split <;> omega
        obtain ⟨h',n',cs',id',RW',rbk',e1,e2,e3⟩:=ih (i+1) (by omega) _ [⟨l[A[i]].i.k,l[A[i]].i.t,tp l[A[i]]⟩] _ (W.set t (W[t].take n)) (rb+1) mk d _ _ _ _ T1 U1 (by simp;omega) (by omega) (by omega) (by omega) (by omega) hWs
        refine ⟨h',n',cs',id',RW',rbk',?_,by rw [hcm];exact e2,by rw [hcm];exact e3⟩
        rw [hL,← e1,hhe]
        simp (disch:=omega) [T.g0,T.g2,T.g3,g4,gp,gs,hAi,ak,aj,aB,H.toQi.inl,aH,H.toQi.pp,ppB,aN,bI,ltF,gtF,neF,fits,hft,ht,htl,htc,hv,hg,hn,hwn,hncap,hne0,hcap1,hcap0,hif]
  · subst u2
    obtain ⟨L,hL⟩:∃ L,L=CK C 0 (aP [.cell 8 2 true,.cell 9 4 true]) [.sq Ae,.bk 7 ⟨true,[9,8],[(9999,65537)]⟩,.sq vS] o9 ⟨[(127,.int .i64 i),(126,.int .i64 A.length),(125,.ro 1 (A.map eAt) f),(16,.map sb),(9,.ptr 4 0 0),(8,.ptr 3 0 0),(6,.ptr 2 0 0),(4,.ptr 0 0 0)],h,next⟩:=⟨_,rfl⟩
    rw [← hL]
    rw [au o9.eq_1] at hL
    simp (disch:=omega) [T.g0,T.g2,T.g3,g4,gp,gs,hv,h3,hAi,ak,aj,aB,H.toQi.inl,aH,H.toQi.pp,ppB,htree,hrules,aN,bI,ltF,gtF,neF,fits,hft,ht,htl,htc,hA1,hsl,u3] at hL
    by_cases c:mO ra l[A[i]]=true
    · have hcm:∀ O r,cm2 tp ra l (A[i]::r) (O,W,rb,mk)=cm2 tp ra l r (O++[⟨l[A[i]].i.k,l[A[i]].i.t,tp l[A[i]]⟩],W,rb,mk):=by
       intro O r
       simp only [cm2,List.getElem?_eq_getElem hAi,c,if_true]
      rw [if_pos c] at hg
      obtain ⟨hh,hhe⟩:∃ hh,hh=put (put (del (put (put (put h (next+10) (.cells 4 [[AV.int .u64 l[A[i]].i.k,AV.int .u8 (t:Int),AV.str l[A[i]].i.x,AV.ro 1 (List.map eS l[A[i]].i.m) l[A[i]].i.e]] true true)) (next+27) (.cells 6 [(tp l[A[i]]).c] true true)) (next+38) (.cells 8 [(AV.int .u64 l[A[i]].i.k::AV.int .u8 (t:Int)::(tp l[A[i]]).c)] true true)) rbk) (next+39) (.cells 8 (eHs O++[(AV.int .u64 l[A[i]].i.k::AV.int .u8 (t:Int)::(tp l[A[i]]).c)]) true true)) 3 (.cells 2 [[.sl (next+39) 8 0 (O.length+1) (O.length+1) false,.sl pb 1 0 ks.length ks.length true]] true false):=⟨_,rfl⟩
      have T1:PcO vw ov ls ks ke cap ar fl l e M S sb pb lo (.sl (next+39) 8 0 (O.length+1) (O.length+1) false) jk W [rb,mk,d,0] hh (next+60) cs id:=by
       refine ⟨?_,?_,?_,?_,?_,?_,?_,T.R.mono (by omega) (fun j hj=>by rw [hhe];have:=T.R.bd j (by omega);have:=T.nd j (by omega);have:=u9 j (by omega);simp (disch:=omega) only [ak,aj,aB]),by simp [hwl],by omega,fun j hj=>?_⟩
       any_goals (rw [hhe];simp (disch:=omega) only [ak,aj,aB] <;> first | rfl | exact T.g0 | exact T.g2 | exact g4 | exact g5 | exact gs | exact gp)
       · have:=T.nd j hj
         exact this
      have U1:qE ks pb sb sb lo (.sl (next+39) 8 0 (O.length+1) (O.length+1) false) (O++[⟨l[A[i]].i.k,l[A[i]].i.t,tp l[A[i]]⟩]) (next+39) hh (next+60) id:=by
       refine .inr ⟨by simp,by simp,?_,by omega,by omega,by omega,by omega,by omega,fun j hj=>?_⟩
       · rw [hhe];simp (disch:=omega) only [ak,aj,aB];simp [ht]
       · have:=T.R.bd j (by omega);have:=T.R.bd t htW;omega
      obtain ⟨h',n',cs',id',RW',rbk',e1,e2,e3⟩:=ih (i+1) (by omega) _ (O++[⟨l[A[i]].i.k,l[A[i]].i.t,tp l[A[i]]⟩]) _ W rb mk d _ _ _ _ T1 U1 (by simp;omega) (by omega) (by omega) (by omega) (by omega) hW
      refine ⟨h',n',cs',id',RW',rbk',?_,by rw [hcm];exact e2,by rw [hcm];exact e3⟩
      rw [hL,← e1,hhe]
      simp (disch:=omega) [T.g0,T.g2,T.g3,g4,gp,gs,hAi,ak,aj,aB,H.toQi.inl,aH,H.toQi.pp,ppB,aN,bI,ltF,gtF,neF,fits,hft,ht,htl,htc,hv,hg,u3]
    · have c':mO ra l[A[i]]=false:=by simpa using c
      rw [if_neg c] at hg
      by_cases c3:W[t].length=0
      · have hcm:∀ O r,cm2 tp ra l (A[i]::r) (O,W,rb,mk)=cm2 tp ra l r (O++[⟨l[A[i]].i.k,l[A[i]].i.t,tp l[A[i]]⟩],W,rb,mk+1):=by
         intro O r
         simp only [cm2,List.getElem?_eq_getElem hAi,c',hrow,c3,if_true,Bool.false_eq_true,if_false]
        obtain ⟨hh,hhe⟩:∃ hh,hh=put (put (put (del (put (put (put h (next+10) (.cells 4 [[AV.int .u64 l[A[i]].i.k,AV.int .u8 (t:Int),AV.str l[A[i]].i.x,AV.ro 1 (List.map eS l[A[i]].i.m) l[A[i]].i.e]] true true)) (next+27) (.cells 6 [(tp l[A[i]]).c] true true)) (next+38) (.cells 8 [(AV.int .u64 l[A[i]].i.k::AV.int .u8 (t:Int)::(tp l[A[i]]).c)] true true)) rbk) (next+39) (.cells 8 (eHs O++[(AV.int .u64 l[A[i]].i.k::AV.int .u8 (t:Int)::(tp l[A[i]]).c)]) true true)) 3 (.cells 2 [[.sl (next+39) 8 0 (O.length+1) (O.length+1) false,.sl pb 1 0 ks.length ks.length true]] true false)) 4 (.cells 4 [[.int .i64 rb,.int .i64 (mk+1),.int .i64 d,.int .i64 0]] true true):=⟨_,rfl⟩
        have T1:PcO vw ov ls ks ke cap ar fl l e M S sb pb lo (.sl (next+39) 8 0 (O.length+1) (O.length+1) false) jk W [rb,mk+1,d,0] hh (next+68) cs id:=by
         refine ⟨?_,?_,?_,?_,?_,?_,?_,T.R.mono (by omega) (fun j hj=>by rw [hhe];have:=T.R.bd j (by omega);have:=T.nd j (by omega);have:=u9 j (by omega);simp (disch:=omega) only [ak,aj,aB]),by simp [hwl],by omega,fun j hj=>?_⟩
         any_goals (rw [hhe];simp (disch:=omega) only [ak,aj,aB] <;> first | rfl | exact T.g0 | exact T.g2 | exact g4 | exact g5 | exact gs | exact gp)
         · have:=T.nd j hj
           exact this
        have U1:qE ks pb sb sb lo (.sl (next+39) 8 0 (O.length+1) (O.length+1) false) (O++[⟨l[A[i]].i.k,l[A[i]].i.t,tp l[A[i]]⟩]) (next+39) hh (next+68) id:=by
         refine .inr ⟨by simp,by simp,?_,by omega,by omega,by omega,by omega,by omega,fun j hj=>?_⟩
         · rw [hhe];simp (disch:=omega) only [ak,aj,aB];simp [ht]
         · have:=T.R.bd j (by omega);have:=T.R.bd t htW;omega
        obtain ⟨h',n',cs',id',RW',rbk',e1,e2,e3⟩:=ih (i+1) (by omega) _ (O++[⟨l[A[i]].i.k,l[A[i]].i.t,tp l[A[i]]⟩]) _ W rb (mk+1) d _ _ _ _ T1 U1 (by simp;omega) (by omega) (by omega) (by omega) (by omega) hW
        refine ⟨h',n',cs',id',RW',rbk',?_,by rw [hcm];exact e2,by rw [hcm];exact e3⟩
        rw [hL,← e1,hhe]
        simp (disch:=omega) [T.g0,T.g2,T.g3,g4,gp,gs,hAi,ak,aj,aB,H.toQi.inl,aH,H.toQi.pp,ppB,aN,bI,ltF,gtF,neF,fits,hft,ht,htl,htc,hv,hg,c3,u3]
      · obtain ⟨n,hn⟩:∃ n,W[t].length=n+1:=⟨W[t].length - 1,by omega⟩
        have hcm:∀ O r,cm2 tp ra l (A[i]::r) (O,W,rb,mk)=cm2 tp ra l r (O++[⟨l[A[i]].i.k,l[A[i]].i.t,tp l[A[i]]⟩],W.set t (W[t].take n),rb+1,mk):=by
         intro O r
         have:W[t].length - 1=n:=by omega
         simp only [cm2,List.getElem?_eq_getElem hAi,c',hrow,c3,Bool.false_eq_true,if_false,hatt,this]
        have hnl:(W[t].take n).length=n:=by simp;omega
        have hwn:IntKind.i64.wrap (n:Int)=n:=aN (by omega) (by omega)
        have hne0:¬ ((n:Int)+1=0):=by omega
        have hncap:n≤cap2:=by omega
        have hcap1:n+1≤cap2:=by omega
        have hcap0:0 < cap2:=by omega
        have hif:(if 0 < n then some (AV.sl (id t) 8 0 n n true) else some (AV.sl (id t) 8 0 0 0 true))=some (AV.sl (id t) 8 0 n n true):=by
         split
         · rfl
         · rw [show n=0 by omega]
        have hWs:∀ w ∈ W.set t (W[t].take n),w.length≤1000000:=by
         intro w hw
         rcases List.mem_or_eq_of_mem_set hw with q | q
         · exact hW w q
         · subst q;omega
        have hANY:∀ o,o=some (dG.cells 8 (eHs es) true true)→jk o (id t) (.sl (id t) 8 0 n n true) (W[t].take n):=by
         rintro o rfl
         refine ⟨n,true,es,by rw [hnl],by omega,by omega,?_,rfl⟩
         rw [hnl,← q3,List.take_take]
         congr 1
         omega
        obtain ⟨hh,hhe⟩:∃ hh,hh=put (put (put (put (del (put (put (put h (next+10) (.cells 4 [[AV.int .u64 l[A[i]].i.k,AV.int .u8 (t:Int),AV.str l[A[i]].i.x,AV.ro 1 (List.map eS l[A[i]].i.m) l[A[i]].i.e]] true true)) (next+27) (.cells 6 [(tp l[A[i]]).c] true true)) (next+38) (.cells 8 [(AV.int .u64 l[A[i]].i.k::AV.int .u8 (t:Int)::(tp l[A[i]]).c)] true true)) rbk) (next+39) (.cells 8 (eHs O++[(AV.int .u64 l[A[i]].i.k::AV.int .u8 (t:Int)::(tp l[A[i]]).c)]) true true)) 3 (.cells 2 [[.sl (next+39) 8 0 (O.length+1) (O.length+1) false,.sl pb 1 0 ks.length ks.length true]] true false)) pb (.cells 1 (cs.set t [.sl (id t) 8 0 n n true]) true false)) 4 (.cells 4 [[.int .i64 (rb+1),.int .i64 mk,.int .i64 d,.int .i64 0]] true true):=⟨_,rfl⟩
        have T1:PcO vw ov ls ks ke cap ar fl l e M S sb pb lo (.sl (next+39) 8 0 (O.length+1) (O.length+1) false) jk (W.set t (W[t].take n)) [rb+1,mk,d,0] hh (next+79) (cs.set t [.sl (id t) 8 0 n n true]) (fun j=>if j=t then id t else id j):=by
         refine ⟨?_,?_,?_,?_,?_,?_,?_,T.R.set t htW (id t) (.inl rfl) bd.1 (by omega) (by omega) _ _ (fun j hj hjt=>by rw [hhe];have:=T.R.bd j (by omega);have:=T.nd j (by omega);have:=u9 j (by omega);simp (disch:=omega) only [ak,aj,aB]) (hANY _ (by rw [hhe];have:=u9 t htl;simp (disch:=omega) only [ak,aj,aB];exact q4)),by simp [hwl],by omega,fun j hj=>?_⟩
         any_goals (rw [hhe];simp (disch:=omega) only [ak,aj,aB] <;> first | rfl | exact T.g0 | exact T.g2 | exact g4 | exact g5 | exact gs | exact gp)
         · have h1:=T.nd j hj
           have h2:=T.nd t htl
           split <;> assumption
        have U1:qE ks pb sb sb lo (.sl (next+39) 8 0 (O.length+1) (O.length+1) false) (O++[⟨l[A[i]].i.k,l[A[i]].i.t,tp l[A[i]]⟩]) (next+39) hh (next+79) (fun j=>if j=t then id t else id j):=by
         refine .inr ⟨by simp,by simp,?_,by omega,by omega,by omega,by omega,by omega,fun j hj=>?_⟩
         · rw [hhe];simp (disch:=omega) only [ak,aj,aB];simp [ht]
         · have:=T.R.bd j (by omega);have:=T.R.bd t htW;show (if j=t then id t else id j)≠next+39;split <;> omega
        obtain ⟨h',n',cs',id',RW',rbk',e1,e2,e3⟩:=ih (i+1) (by omega) _ (O++[⟨l[A[i]].i.k,l[A[i]].i.t,tp l[A[i]]⟩]) _ (W.set t (W[t].take n)) (rb+1) mk d _ _ _ _ T1 U1 (by simp;omega) (by omega) (by omega) (by omega) (by omega) hWs
        refine ⟨h',n',cs',id',RW',rbk',?_,by rw [hcm];exact e2,by rw [hcm];exact e3⟩
        rw [hL,← e1,hhe]
        simp (disch:=omega) [T.g0,T.g2,T.g3,g4,gp,gs,hAi,ak,aj,aB,H.toQi.inl,aH,H.toQi.pp,ppB,aN,bI,ltF,gtF,neF,fits,hft,ht,htl,htc,hv,hg,hn,hwn,hncap,hne0,hcap1,hcap0,hif,u3]
end
end Go.D
end
section
namespace Go.D
open Go Go.Pav Go.Pw P
set_option maxHeartbeats 2000000
attribute [-simp] List.getElem_cons_drop
variable {C:aJ}
theorem Lc {h:aI} {lo hi pb rb:Nat} {id:Nat→Nat} {cs:List (List AV)} {W:List (List Hd)} {O:List Hd} {RW:AV} (hR:(O=[]∧RW=.ro 8 [] true)∨(RW=.sl rb 8 0 O.length O.length false∧Pav.get h rb=some (.cells 8 (eHs O) true true)))
 (R:kD jk h lo hi id cs W) (gp:Pav.get h pb=some (.cells 1 cs true false)) (r:Nat) (hr:r=W.length) (n:Nat):∃ eo ps' pe',ps'.map (·.1)=W∧bD h (n+4) (.agg [RW,.sl pb 1 0 r r true])=some (aSt O eo ps' pe'):=by
 subst hr
 obtain ⟨ps,pe,h1,h2⟩:=R.ql (enc:=eHs) (z:=8) n (fun b v d q=>jk.frz q n) (mu:=true) (cap:=W.length) (ex:=true)
 rcases hR with ⟨rfl,rfl⟩ | ⟨rfl,h3⟩
 · refine ⟨true,ps,pe,h1,?_⟩
   rw [iM]
   simp only [aX,JA,jF,gp,h2,ob,om,Il]
   rfl
 · refine ⟨false,ps,pe,h1,?_⟩
   have h4:List.take O.length (eHs O)=eHs O:=List.take_of_length_le (by simp)
   rw [iM]
   simp only [aX,jF,gp,h2,h3,ob,om,Il]
   simp only [Pw.ql,List.drop_zero,h4,List.length_map,decide_true,og,Bool.false_and,ob,om,Il]
   rfl
theorem OD (H:Fj C) (tp:En→Nd) (vw ov ls:Int) (ks:List Kd) (ke:Bool) (cap ar fl:Int) (ra:List Hd) (ea:Bool) (ps:List Pl) (pe:Bool) (l:List En) (e:Bool) (A:List Nat) (f:Bool)
 (hA:A.length≤1000) (hAl:∀ a ∈ A,a < l.length) (hAn:A.Nodup) (hn:(cO l).Nodup) (hll:l.length≤100000) (hra:ra.length≤1000) (hrn:(ra.map Hd.k).Nodup) (hpk:ps.length=ks.length) (hkl:ks.length≤1000) (hk0:0 < ks.length) (hps:∀ p ∈ ps,p.1.length≤100000)
 (hpp:∀ (j:Nat) (w:List Hd),(ps.map (·.1))[j]?=some w→(w.length:Int)≤tX ks j)
 (hty:∀ x ∈ l,∃ t:Nat,x.i.t=t∧t < ks.length) (htyr:∀ x ∈ ra,∃ t:Nat,x.t=t∧t < ks.length) (htr:∀ (a:Nat) (h:a < l.length) (q:Bool),FnW C 238 [aR ks ke cap,aL [l[a]] q,.int .i64 0]=some (.tup [.agg (tp l[a]).c,.int .i64 0])) :
 ∃ (ps':List Pl) (ea' pe':Bool),ps'.map (·.1)=(cmF tp ks ra (ps.map (·.1)) l A).2.1 ∧
  FnW C 280 [.agg (cCf vw ov ls ks ke cap ar fl),aSt ra ea ps pe,aL l e,.ro 1 (A.map eAt) f]=some (.tup [aSt (cmF tp ks ra (ps.map (·.1)) l A).1 ea' ps' pe',aCn (cmF tp ks ra (ps.map (·.1)) l A).2.2.1 (cmF tp ks ra (ps.map (·.1)) l A).2.2.2.1 (cmF tp ks ra (ps.map (·.1)) l A).2.2.2.2 (live ((cmF tp ks ra (ps.map (·.1)) l A).1::(cmF tp ks ra (ps.map (·.1)) l A).2.1))]):=by
 rw [aO H.f280 rfl]
 obtain ⟨L,hL⟩:∃ L,L=CK C 0 (aP Xl.res) [] Xl.body ⟨Dj 0 [.agg (cCf vw ov ls ks ke cap ar fl),aSt ra ea ps pe,aL l e,.ro 1 (A.map eAt) f] [],[],0⟩:=⟨_,rfl⟩
 rw [← hL]
 simp [Xl] at hL
 obtain ⟨h1,n1,T1,x1⟩:=aaz (C:=C) vw ov ls ks ke cap ar fl ra ea ps pe l e A f hA hAl hAn hn A.length 0 (by simp)
  [(0,.cells 7 [cCf vw ov ls ks ke cap ar fl] true true),(1,.cells 2 [[.ro 8 (ra.map eHd) ea,.ro 1 (ps.map ePl) pe]] true true),(2,.cells 1 [[.ro 6 (l.map eEn) e]] true true),(3,.cells 2 [[.ro 8 [] true,.ro 1 [] true]] true true),(4,.cells 4 [[.int .i64 0,.int .i64 0,.int .i64 0,.int .i64 0]] true true),(5,.map [])] 10
  ⟨rfl,rfl,rfl,rfl,rfl,rfl,by omega⟩
 have x1':=hL.trans x1
 clear hL x1
 have nx:=T1.nx
 have T2:PcN vw ov ls ks ke cap ar fl ra ea ps pe l e (uD (qR l A)) (n1+3) (n1+3) (put (put h1 (n1+3) (.cells 1 (List.replicate ps.length [.ro 8 [] true]) true true)) 3 (.cells 2 [[.ro 8 [] true,.sl (n1+3) 1 0 ps.length ps.length true]] true false)) (n1+10) [] (fun _=>0) 0 true:=by
  refine ⟨?_,?_,?_,ak ..,?_,?_,?_,by simpa using kD.nil,by omega,fun j hj=>by omega⟩
  · simp (disch:=omega) only [aj];exact T1.g0
  · simp (disch:=omega) only [aj];exact T1.g1
  · simp (disch:=omega) only [aj];exact T1.g2
  · simp (disch:=omega) only [aj];exact T1.g4
  · simp (disch:=omega) only [aj];exact T1.g5
  · simp (disch:=omega) only [aj,ak];simp
 obtain ⟨h2,n2,cs,id,dt,T3,hd,x2⟩:=Ym vw ov ls ks ke cap ar fl ra ea ps pe l e H A f (by omega) (fun p hp=>by have:=hps p hp;omega) (uD (qR l A)) (n1+3) (n1+3) ps.length 0 (by simp) _ _ _ _ _ T2
 have hdt:dt=false:=hd (.inr (by omega))
 subst hdt
 rw [au DT.eq_1] at x1'
 have hk25:ps.length * 25≤35184372088832:=by omega
 simp (disch:=omega) [T1.g0,T1.g1,T1.g2,T1.g3,T1.g4,T1.g5,ak,aj,hk25,aN] at x1'
 have x2':=x1'.trans x2
 clear x1' x2
 have ne:=T3.ne
 have gp:=T3.gp
 rw [Nat.sub_self,List.replicate_zero,List.append_nil] at gp
 have hR:=T3.R
 rw [show ps.length=(ps.map (·.1)).length by simp,List.take_length] at hR
 have nd3:=T3.nd
 have T4:PcO vw ov ls ks ke cap ar fl l e (uD (qR l A)) (tC (stay (ra.take 0) l A)) n2 (n1+3) (n1+3) (.ro 8 [] true) oG (ps.map (·.1)) [0,0,0,0] (put h2 n2 (.map [])) (n2+6) cs id:=by
  refine ⟨?_,?_,?_,?_,?_,ak ..,?_,hR.mono (by omega) (fun j hj=>aj (by have:=(hR.bd j hj).2;omega)),by simpa using hpk,by omega,fun j hj=>⟨nd3 j (by omega),by have:=(hR.bd j (by simp;omega)).2;omega⟩⟩
  · rw [aj (by omega)];exact T3.g0
  · rw [aj (by omega)];exact T3.g2
  · rw [aj (by omega),← hpk];exact T3.g3
  · rw [aj (by omega)];exact T3.g4
  · rw [aj (by omega)];exact T3.g5
  · rw [aj (by omega)];exact gp
 obtain ⟨h3,n3,cs3,id3,T5,x3⟩:=aa5 vw ov ls ks ke cap ar fl l e H A f ra ea hra hrn htyr (qR l A) (fun x hx=>ZX hn x A hAn hAl) n2 (n1+3) (n1+3) ra.length 0 (by simp) (ps.map (·.1)) 0 _ _ _ _ T4 (fun w hw=>by obtain ⟨p,hp,rfl⟩:=List.mem_map.1 hw;have:=hps p hp;omega) hpp (by omega) (by omega)
 rw [au Ec.eq_1] at x2'
 simp (disch:=omega) [T3.g0,T3.g1,T3.g2,T3.g3,T3.g4,T3.g5,gp,ak,aj,aN] at x2'
 have x3':=x2'.trans x3
 clear x2' x3
 rw [List.drop_zero] at T5
 have hl1:=zJ ks l A ra (ps.map (·.1),0) 100000 (fun w hw=>by obtain ⟨p,hp,rfl⟩:=List.mem_map.1 hw;exact hps p hp)
 generalize hS:cm1 ks l A ra (ps.map (·.1),0)=S at *
 obtain ⟨h4,n4,cs4,id4,RW,rbk,x4,T6,U6⟩:=aaF vw ov ls ks ke cap ar fl l e H tp A f ra hA hAl hll hty htr (uD (qR l A)) (tC (stay ra l A)) (fun a ha h=>by rw [Ar,xY hrn hn hAl ha h]) n2 (n1+3) (n1+3) A.length 0 (by simp) (.ro 8 [] true) [] 0 S.1 0 0 S.2 _ _ _ _ ((T5.any vw ov ls ks ke cap ar fl l e).later vw ov ls ks ke cap ar fl l e (show n3≤n3+3 by omega) (fun _ _=>rfl)) (.inl ⟨rfl,rfl⟩) (by simp;omega) (by omega) (by omega) (by omega) (by omega) (fun w hw=>by have:=hl1 w hw;omega)
 rw [au EP.eq_1] at x3'
 simp (disch:=omega) at x3'
 have x4':=x3'.trans x4
 clear x3' x4
 rw [List.drop_zero] at T6 U6
 have hl2:=pV tp ra l A ([],S.1,0,0) _ hl1
 unfold cmF
 simp only
 rw [hS]
 simp only [List.length_nil,Nat.zero_add] at hl2
 generalize hV:cm2 tp ra l A ([],S.1,0,0)=V at *
 have hR2:(V.1=[]∧RW=.ro 8 [] true)∨(RW=.sl rbk 8 0 V.1.length V.1.length false∧Pav.get h4 rbk=some (.cells 8 (eHs V.1) true true)):=by
  rcases U6 with u | ⟨_,u2,u3,_⟩
  · exact .inl u
  · exact .inr ⟨u2,u3⟩
 have hR4:∀ hf:aI,(∀ j,n1+3≤j→Pav.get hf j=Pav.get h4 j)→(V.1=[]∧RW=.ro 8 [] true)∨(RW=.sl rbk 8 0 V.1.length V.1.length false∧Pav.get hf rbk=some (.cells 8 (eHs V.1) true true)):=by
  intro hf hg
  rcases U6 with u | ⟨_,u2,u3,u4,_⟩
  · exact .inl u
  · exact .inr ⟨u2,by rw [hg _ u4];exact u3⟩
 have ne6:=T6.ne
 obtain ⟨eo,ps1,pe1,f1,f2⟩:=Lc hR2 T6.R T6.gp ks.length T6.wl.symm 12
 have hlv:=Pn V.1 eo ps1 pe1 H.toVw (by omega) (fun p hp=>by have:=hl2.2.1 p.1 (by rw [← f1];exact List.mem_map.2 ⟨p,hp,rfl⟩);omega) (by have:=congrArg List.length f1;simp at this;have:=T6.wl;omega)
 rw [f1] at hlv
 obtain ⟨lv,hlve⟩:∃ lv,live (V.1::V.2.1)=lv:=⟨_,rfl⟩
 rw [hlve] at hlv ⊢
 rw [x4',au vS.eq_1]
 clear hV hS x4'
 rcases hR2 with ⟨q1,rfl⟩ | ⟨rfl,q3⟩
 · obtain ⟨hf,hfe⟩:∃ hf,hf=put (put (put h4 4 (.cells 4 [[.int .i64 V.2.2.1,.int .i64 V.2.2.2,.int .i64 S.2,.int .i64 lv]] true true)) 3 (.cells 2 [[.ro 8 [] true,.sl (n1+3) 1 0 ks.length ks.length true]] true false)) 4 (.cells 4 [[.int .i64 V.2.2.1,.int .i64 V.2.2.2,.int .i64 S.2,.int .i64 lv]] true true):=⟨_,rfl⟩
   have hg:∀ j,n1+3≤j→Pav.get hf j=Pav.get h4 j:=fun j h1=>by rw [hfe];simp (disch:=omega) only [aj]
   obtain ⟨eo',ps2,pe2,f3,f4⟩:=Lc (hR4 hf hg) (T6.R.mono (Nat.le_refl _) (fun j hj=>hg _ (T6.R.bd j hj).1)) (by rw [hg (n1+3) (by omega)];exact T6.gp) ks.length T6.wl.symm 11
   refine ⟨ps2,eo',pe2,f3,?_⟩
   rw [hfe] at f4
   rw [q1] at f2 hlv
   simp (disch:=omega) [T6.g0,T6.g2,T6.g3,T6.g4,ak,aj,H.toQi.inl,aH,H.toQi.pp,ppB,f2,hlv,-iM,bI]
   rw [f4,KR];rfl
 · obtain ⟨hf,hfe⟩:∃ hf,hf=put (put (put h4 4 (.cells 4 [[.int .i64 V.2.2.1,.int .i64 V.2.2.2,.int .i64 S.2,.int .i64 lv]] true true)) 3 (.cells 2 [[.sl rbk 8 0 V.1.length V.1.length false,.sl (n1+3) 1 0 ks.length ks.length true]] true false)) 4 (.cells 4 [[.int .i64 V.2.2.1,.int .i64 V.2.2.2,.int .i64 S.2,.int .i64 lv]] true true):=⟨_,rfl⟩
   have hg:∀ j,n1+3≤j→Pav.get hf j=Pav.get h4 j:=fun j h1=>by rw [hfe];simp (disch:=omega) only [aj]
   obtain ⟨eo',ps2,pe2,f3,f4⟩:=Lc (hR4 hf hg) (T6.R.mono (Nat.le_refl _) (fun j hj=>hg _ (T6.R.bd j hj).1)) (by rw [hg (n1+3) (by omega)];exact T6.gp) ks.length T6.wl.symm 11
   refine ⟨ps2,eo',pe2,f3,?_⟩
   rw [hfe] at f4
   simp (disch:=omega) [T6.g0,T6.g2,T6.g3,T6.g4,ak,aj,H.toQi.inl,aH,H.toQi.pp,ppB,f2,hlv,-iM,bI]
   rw [f4,KR];rfl
end Go.D
end
section
namespace Go.D
open Go Go.Pav Go.Pw P
set_option maxHeartbeats 2000000
attribute [-simp] List.getElem_cons_drop
variable {C:aJ}
section
variable (vw ov ls:Int) (ks:List Kd) (ke:Bool) (cap ar fl:Int) (ra:List Hd) (ea:Bool) (ps:List Pl) (pe:Bool) (l:List En) (e:Bool)
end
end Go.D
end
