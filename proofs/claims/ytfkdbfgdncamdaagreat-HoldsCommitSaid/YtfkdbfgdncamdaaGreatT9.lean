/- Part of the theory that the claims of this work use: Q35, Q36, Q37, Q38, Q39, Q40, Q41, Q42, Q43, Q44. No conditions of its own. -/
import Derived.Test.YtfkdbfgdncamdaaGreatT8
set_option linter.unusedVariables false
set_option linter.unusedSimpArgs false
set_option maxHeartbeats 4000000
set_option maxRecDepth 10000
section
namespace Go.D
open Go Go.Pav Go.Pw P
set_option maxHeartbeats 2000000
attribute [-simp] List.getElem_cons_drop
variable {C:aJ}
def trN (ks:List Kd) (x:En):Nd:=xU (jK ks x.i.t).p x.i 12
theorem yu {tp tr:En→Nd} {l:List En} (hz':∀ e ∈ l,(tp e).z=(tr e).z) (ra:List Hd):∀ (A:List Nat) (s s':List Hd × List (List Hd) × Int × Int),s.1.map hz=s'.1.map hz→s.2=s'.2 →
 (cm2 tp ra l A s).1.map hz=(cm2 tr ra l A s').1.map hz∧(cm2 tp ra l A s).2=(cm2 tr ra l A s').2
 | [],s,s',h1,h2=>by simpa [cm2] using ⟨h1,h2⟩
 | a::r,(o,w),(o',w'),h1,h2=>by
  simp only at h1 h2
  subst h2
  simp only [cm2]
  cases hq:l[a]? with
  | none=>exact yu hz' ra r _ _ h1 rfl
  | some e =>
   have he:=hz' e (List.mem_of_getElem? hq)
   have h3:(o++[(⟨e.i.k,e.i.t,tp e⟩:Hd)]).map hz=(o'++[(⟨e.i.k,e.i.t,tr e⟩:Hd)]).map hz:=by
    rw [List.map_append,List.map_append,h1];simp [hz,he]
   simp only
   split
   · exact yu hz' ra r _ _ h3 rfl
   · split
     · exact yu hz' ra r _ _ h3 rfl
     · exact yu hz' ra r _ _ h3 rfl
theorem ado {tp tr:En→Nd} {l:List En} (hz':∀ e ∈ l,(tp e).z=(tr e).z) (ks:List Kd) (ra:List Hd) (W:List (List Hd)) (A:List Nat):(cmF tp ks ra W l A).1.map hz=(cmF tr ks ra W l A).1.map hz∧(cmF tp ks ra W l A).2=(cmF tr ks ra W l A).2:=by
 obtain ⟨h1,h2⟩:=yu hz' ra A ([],(cm1 ks l A ra (W,0)).1,0,0) ([],(cm1 ks l A ra (W,0)).1,0,0) rfl rfl
 unfold cmF
 simp only
 exact ⟨h1,by rw [h2]⟩
theorem RZ {a b:Hd} (h:hz a=hz b):cnt a.n=cnt b.n:=by
 simp only [hz,Prod.mk.injEq] at h
 rw [← wZ,h.2.2,wZ]
theorem Tc:∀ {a b:List Hd},a.map hz=b.map hz→okS a=okS b∧iP a=iP b
 | [],[],_=>⟨rfl,rfl⟩
 | x::a,y::b,h=>by
  simp only [List.map_cons,List.cons.injEq] at h
  obtain ⟨h1,h2⟩:=Tc h.2
  have h3:=RZ h.1
  unfold okS at h1 ⊢
  simp only [List.all_cons,iP,h3,h2,h1,and_self]
 | [],_::_,h=>by simp at h
 | _::_,[],h=>by simp at h
theorem adg {a b:List Hd} (h:a.map hz=b.map hz) (L:List (List Hd)):live (a::L)=live (b::L):=by
 obtain ⟨h1,h2⟩:=Tc h
 unfold live
 rw [oq,oq,h1]
 simp only [kY,h2]
theorem Tm:∀ {a b:List Hd},a.map hz=b.map hz→∀ x ∈ a,∃ y ∈ b,hz x=hz y
 | [],_,_,x,hx=>by cases hx
 | x::a,y::b,h,u,hu=>by
  simp only [List.map_cons,List.cons.injEq] at h
  rcases List.mem_cons.1 hu with rfl | hu
  · exact ⟨y,by simp,h.1⟩
  · obtain ⟨v,hv,h3⟩:=Tm h.2 u hu
    exact ⟨v,by simp [hv],h3⟩
 | _::_,[],h,_,_=>by simp at h
theorem aj6 {r:Int} {l:List En} (L:LG r l):∀ e ∈ l,(trN (aA r) e).z=(trK (aA r) e).z:=fun e he=>by
 unfold trN trK
 rw [abq _ (ET (Cj r) (L.t e he))]
structure ai8 (r:Int) (B:Nat) (U:List Hd × List (List Hd) × Int × Int × Int):Prop where
 l1:U.1.length≤12
 v1:∀ x ∈ U.1,VH (aA r) 12 x
 n1:(U.1.map Hd.k).Nodup
 l2:U.2.1.length=3
 v2:PV (aA r) 12 U.2.1
 b2:∀ w ∈ U.2.1,w.length≤B
 lv:0≤live (U.1::U.2.1)∧live (U.1::U.2.1)≤64 * B * 4+1
theorem YC {r:Int} {l:List En} (L:LG r l) (hg:∀ x ∈ l,gu (aA r) x) (hn:(cO l).Nodup) {B:Nat} {ra:List Hd} {ps:List Pl} (S:OL B ra ps) (K:CkS (aA r) 12 ra ps) (A:List Nat) (hA:A.length≤12) (hAl:∀ a ∈ A,a < l.length) (hAn:A.Nodup) :
 ai8 r (B+12) (cmF (trK (aA r)) (aA r) ra (ps.map (·.1)) l A):=by
 have l1:=zJ (aA r) l A ra (ps.map (·.1),0) B (fun w hw=>by obtain ⟨p,hp,rfl⟩:=List.mem_map.1 hw;exact S.pb p hp)
 have l2:=pV (trK (aA r)) ra l A ([],(cm1 (aA r) l A ra (ps.map (·.1),0)).1,0,0) (B+ra.length) l1
 have l3:=JY (Q:=HQ) (aA r) l A ra (ps.map (·.1),0) S.q (fun w hw=>by obtain ⟨p,hp,rfl⟩:=List.mem_map.1 hw;exact S.qp p hp)
 have l4:=pI (Q:=HQ) (trK (aA r)) ra l (fun x hx=>⟨ZW L hx,x.i.t.toNat,by have:=L.t x hx;simp only;omega,by have:=L.t x hx;have hk:(aA r).length=3:=rfl;omega⟩) A ([],(cm1 (aA r) l A ra (ps.map (·.1),0)).1,0,0) (by simp) l3
 have l5:=KP (aA r) l A ra (ps.map (·.1),0)
 have hpv0:PV (aA r) 12 (ps.map (·.1)):=by
  intro i w hw
  rw [List.getElem?_map] at hw
  cases hq:ps[i]? with
  | none=>rw [hq] at hw;cases hw
  | some p=>rw [hq] at hw;obtain rfl:=Option.some.inj hw;exact K.pv i p hq
 have l6:=GU (aA r) 12 l A ra (ps.map (·.1),0) K.rv (by simp only [List.length_map];exact K.pl) hpv0
 have l7:=AZ (aA r) 12 (trK (aA r)) ra l (fun x hx=>⟨x.i.t.toNat,by have:=L.t x hx;omega⟩) A ([],(cm1 (aA r) l A ra (ps.map (·.1),0)).1,0,0) l6
 have l8:=qP (trK (aA r)) ra l A ([],(cm1 (aA r) l A ra (ps.map (·.1),0)).1,0,0) hAl
 have l9:=pI (Q:=fun x=>FZ x.n→VH (aA r) 12 x) (trK (aA r)) ra l (fun x hx _=>Zn L hg hx) A ([],(cm1 (aA r) l A ra (ps.map (·.1),0)).1,0,0) (by simp) (fun w hw x hx _=>by
  obtain ⟨i,hi,rfl⟩:=List.mem_iff_getElem.1 hw
  exact ((l6 i _ (List.getElem?_eq_getElem hi)).2 x hx).1)
 have l10:=xQ hn A hAn (fun a ha=>by have:=hAl a ha;simpa [cO] using this)
 have hrl:=S.rl
 have hpl:=S.pl
 simp only [List.length_nil,Nat.zero_add,List.length_map] at l2 l5
 unfold cmF
 simp only
 generalize cm1 (aA r) l A ra (ps.map (·.1),0)=s at *
 generalize cm2 (trK (aA r)) ra l A ([],s.1,0,0)=u at *
 have hb:∀ w ∈ u.2.1,w.length≤B+12:=fun w hw=>by have:=l2.2.1 w hw;omega
 have hlv:=Np (B+12) (u.1::u.2.1) (by
  intro w hw
  rcases List.mem_cons.1 hw with rfl | q
  · omega
  · exact hb w q)
 have hlen:(u.1::u.2.1).length=4:=by simp;omega
 rw [hlen] at hlv
 refine ⟨by simp only;omega,fun x hx=>l9.1 x hx (l4.1 x hx).1,by rw [l8];simpa using l10,by simp only;omega,l7,hb,?_⟩
 simp only
 unfold live
 split <;> omega
theorem VX {r:Int} {l:List En} (L:LG r l) {B:Nat} {ra:List Hd} {W:List (List Hd)} {A:List Nat} (R:ai8 r B (cmF (trK (aA r)) (aA r) ra W l A)) :
 (cmF (trN (aA r)) (aA r) ra W l A).1.map hz=(cmF (trK (aA r)) (aA r) ra W l A).1.map hz∧(cmF (trN (aA r)) (aA r) ra W l A).2=(cmF (trK (aA r)) (aA r) ra W l A).2 ∧
 live ((cmF (trN (aA r)) (aA r) ra W l A).1::(cmF (trN (aA r)) (aA r) ra W l A).2.1)=live ((cmF (trK (aA r)) (aA r) ra W l A).1::(cmF (trK (aA r)) (aA r) ra W l A).2.1) ∧
 (cmF (trN (aA r)) (aA r) ra W l A).1.length≤12∧(∀ x ∈ (cmF (trN (aA r)) (aA r) ra W l A).1,cnt x.n≠0)∧∀ w ∈ (cmF (trK (aA r)) (aA r) ra W l A).2.1,w.length≤B∧∀ x ∈ w,cnt x.n≠0:=by
 obtain ⟨h1,h2⟩:=ado (aj6 L) (aA r) ra W A
 have h3:=congrArg List.length h1
 simp only [List.length_map] at h3
 refine ⟨h1,h2,?_,by rw [h3];exact R.l1,fun x hx=>?_,fun w hw=>⟨R.b2 w hw,fun x hx=>?_⟩⟩
 · rw [h2];exact adg h1 _
 · obtain ⟨y,hy,e⟩:=Tm h1 x hx
   rw [RZ e];exact (R.v1 y hy).c.1
 · obtain ⟨i,hi,rfl⟩:=List.mem_iff_getElem.1 hw
   exact ((R.v2 i _ (List.getElem?_eq_getElem hi)).2 x hx).1.c.1
end Go.D
end
section
namespace Go.D
open Go Go.Pav Go.Pw P
attribute [-simp] List.getElem_cons_drop
variable {C:aJ}
structure ai9 (C:aJ):Prop extends Fj C
theorem vH (x:Nat):∀ m i,∀ (j:Nat) (h:j+1 < (iW x i m).length),(iW x i m)[j] < (iW x i m)[j+1]
 | 0,i,j,h=>by simp [iW] at h
 | m+1,i,j,h=>by
  have hh:=h
  unfold iW at hh
  by_cases c:x / 2 ^ i % 2=1
  · rw [if_pos c] at hh
    have e:iW x i (m+1)=i::iW x (i+1) m:=by rw [iW,if_pos c]
    simp only [e]
    cases j with
    | zero =>
     simp only [List.getElem_cons_zero,List.getElem_cons_succ]
     have hl:0 < (iW x (i+1) m).length:=by simpa using hh
     have:=pW x m (i+1) _ (List.getElem_mem hl)
     omega
    | succ j =>
     simp only [List.getElem_cons_succ]
     exact vH x m (i+1) j (by simpa using hh)
  · rw [if_neg c] at hh
    have e:iW x i (m+1)=iW x (i+1) m:=by rw [iW,if_neg c]
    simp only [e]
    exact vH x m (i+1) j hh
theorem Jm (H:aan C) {r:Int} {l:List En} (L:LG r l) (a:Nat) (ha:a < l.length) (q:Bool):FnW C 238 [aR (aA r) true 12,aL [l[a]] q,.int .i64 0]=some (.tup [.agg (trN (aA r) l[a]).c,.int .i64 0]):=by
 have hx:=List.getElem_mem ha
 have h1:ckE (aA r) 12 [l[a]]=0:=L.ck1 _ hx
 have h2:=adC H.toafy (aA r) true 12 (Cj r) [l[a]] q (by simp) (by intro y hy;rw [List.mem_singleton] at hy;subst hy;exact L.en _ hx) h1 0 (by simp) (L.t _ hx).2
 simp only [List.getElem_cons_zero] at h2
 rw [L.rE _ hx] at h2
 exact h2
end Go.D
end
section
namespace Go.D
open Go Go.Pav Go.Pw P
set_option maxHeartbeats 2000000
attribute [-simp] List.getElem_cons_drop
variable {C:aJ}
structure I4 (C:aJ):Prop extends ai9 C where
 afr:C.fns.get 5036=some Uz
 afq:C.fns.get 5035=some U8
 af7:C.fns.get 5034=some Pg
theorem leF {a b:Nat} (h:b < a):(a≤b)=False:=eq_false (by omega)
abbrev zNd:List AV:=[.int .u8 0,.str [],.str [],.ro 2 [] true,.str [],.ro 6 [] true]
abbrev yc (n:Nd) (b:Nat):List AV:=[.int .u8 n.k,.str n.t,.str n.y,.ro 2 (n.a.map eA) true,.str n.x,.sl b 6 0 n.ch.length n.ch.length true]
abbrev Ry (n:Nd):dG:=.cells 6 ((n.ch.map jO).map Nd.c) true true
theorem abK (H:I4 C) (n:Nd) (hl:n.ch.length≤16) (ih:∀ c ∈ n.ch,FnW C 507 [.agg c.c,.bool true]=some (.agg (jO c).c)) (bs bx r kb:Nat) (h1:bx≠kb) (h2:r≠kb) (h3:bx≠r):∀ m i,m+i=n.ch.length→∀ (G:List Nd),G.length=i→G=(n.ch.take i).map jO→∀ (h:aI) (next:Nat),bx < next→r < next→kb < next →
 Pav.get h bx=some (.cells 6 [[.int .u8 n.k,.str n.t,.str n.y,.ro 2 (n.a.map eA) true,.str n.x,.ro 6 (n.ch.map Nd.c) n.ce]] true true)→Pav.get h r=some (.cells 6 [zNd] true true)→Pav.get h kb=some (.cells 6 (G.map Nd.c++List.replicate m zNd) true true) →
 ∃ h' next',Pav.get h' kb=some (Ry n)∧next≤next' ∧
 CK C bs (iR [.cell 4 6 true]) [.sq G5,.bk 0 ⟨true,[5,4,2],[(9999,65537)]⟩,.sq Gf] uG
  ⟨[(23,.int .i64 i),(22,.int .i64 n.ch.length),(21,.ro 6 (n.ch.map Nd.c) n.ce),(5,.sl kb 6 0 n.ch.length n.ch.length true),(4,.ptr r 0 0),(2,.ptr bx 0 0),(1,.bool true)],h,next⟩=some (.agg (yc n kb),h',next'):=by
 intro m
 induction m with
 | zero =>
  intro i hi G hG hGe h next l1 l2 l3 g1 g2 g3
  have c1:¬ i < n.ch.length:=by omega
  have e1:n.ch.take i=n.ch:=List.take_of_length_le (by omega)
  rw [e1] at hGe
  rw [hGe] at g3
  simp only [List.replicate_zero,List.append_nil] at g3
  refine ⟨put (put h bx (.cells 6 [yc n kb] true false)) r (.cells 6 [yc n kb] true false),next+6,?_,by omega,?_⟩
  · simp (disch:=omega) only [aj];exact g3
  · rw [au uG.eq_1]
    simp (disch:=omega) [au Gf.eq_1,c1,g1,g2,g3,ak,aj]
 | succ m ihm =>
  intro i hi G hG hGe h next l1 l2 l3 g1 g2 g3
  have c1:i < n.ch.length:=by omega
  have hs:=ih n.ch[i] (List.getElem_mem c1)
  have q1:=Yv Nd.c G zNd m
  have q2:=aaA Nd.c G zNd m (jO n.ch[i])
  rw [hG] at q1 q2
  obtain ⟨h',n',r1,r2,r3⟩:=ihm (i+1) (by omega) (G++[jO n.ch[i]]) (by simp [hG]) (by rw [hGe,List.take_add_one,List.getElem?_eq_getElem c1,List.map_append];rfl)
   (put (put h (next+4) (.cells 6 [n.ch[i].c] true true)) kb (.cells 6 ((G++[jO n.ch[i]]).map Nd.c++List.replicate m zNd) true true)) (next+16) (by omega) (by omega) (by omega)
   (by simp (disch:=omega) only [aj];exact g1) (by simp (disch:=omega) only [aj];exact g2) (ak ..)
  refine ⟨h',n',r1,by omega,?_⟩
  rw [← r3,au uG.eq_1]
  simp at q2
  simp (disch:=omega) [c1,hs,aN,H.toQi.inl,aH,H.toQi.pp,ppB,g1,g2,g3,q1,q2,ak,aj,bI]
theorem ahP (H:I4 C) (n:Nd) (ha:n.a.length≤8) (hl:n.ch.length≤16) (ih:∀ c ∈ n.ch,FnW C 507 [.agg c.c,.bool true]=some (.agg (jO c).c)) (nx:Nat) :
 ∃ h1 n1 b,RnW C 5036 [.agg n.c,.bool true] [] nx=some (.agg (yc n b),h1,n1)∧nx≤b∧b < n1∧Pav.get h1 b=some (Ry n):=by
 have h1:=Jt H.toY2 n.a n.ae (by omega)
 have h2:=Po H.toY2 n.a n.a.isEmpty
 have h4:n.ch.length * 105≤35184372088832:=by omega
 obtain ⟨L,hL⟩:∃ L,L=RnW C 5036 [.agg n.c,.bool true] [] nx:=⟨_,rfl⟩
 rw [← hL]
 rw [jR (args:=[.agg n.c,.bool true]) H.afr rfl,Nd.bZ n] at hL
 simp (disch:=omega) [Uz,h1,h2,h4,H.toQi.inl,aH,H.toQi.pp,ppB,ltF,gtF,leF] at hL
 obtain ⟨h',n',r1,r2,r3⟩:=abK H n hl ih nx nx (nx+1) (nx+13) (by omega) (by omega) (by omega) n.ch.length 0 (by simp) [] rfl rfl
  [(nx,.cells 6 [[.int .u8 n.k,.str n.t,.str n.y,.ro 2 (n.a.map eA) true,.str n.x,.ro 6 (n.ch.map Nd.c) n.ce]] true true),(nx+1,.cells 6 [zNd] true true),(nx+13,.cells 6 (List.replicate n.ch.length zNd) true true)] (nx+19) (by omega) (by omega) (by omega)
  (by simp) (by simp (disch:=omega) [ltF,gtF]) (by simp (disch:=omega) [ltF,gtF])
 exact ⟨h',n',nx+13,hL.trans r3,by omega,by omega,r1⟩
theorem dI {n b:Nat} {h1 h:aI} (hb:b < n):Pav.get (over n h1 h) b=Pav.get h b:=by
 unfold over
 rw [Fp,if_neg (by omega)]
theorem nC {n b:Nat} {h1 h:aI} {o:dG} (hb:n≤b) (hg:Pav.get h1 b=some o):Pav.get (over n h1 h) b=some o:=by
 unfold over
 rw [Fp,if_pos hb,hg]
theorem agG (H:I4 C) (n:Nd) (hc:cnt n≠0) (nx:Nat) :
 ∃ h1 n1 b,RnW C 5035 [.agg n.c] [] nx=some (.agg (yc n b),h1,n1)∧nx≤b∧b < n1∧Pav.get h1 b=some (Ry n):=by
 have h1:=tY H.toNb.toOt n
 rw [if_neg hc] at h1
 have hv:=BA hc
 obtain ⟨ha,hl,ih⟩:n.a.length≤8∧n.ch.length≤16∧∀ c ∈ n.ch,FnW C 507 [.agg c.c,.bool true]=some (.agg (jO c).c):=by
  cases hv with
  | mk _ hc h1 h2 h=>exact ⟨h1,h2,fun c hcc=>ac3 H.toVo (h c hcc)⟩
 obtain ⟨L,hL⟩:∃ L,L=RnW C 5035 [.agg n.c] [] nx:=⟨_,rfl⟩
 rw [← hL]
 obtain ⟨g1,n1,b,r1,r2,r3,r4⟩:=ahP H n ha hl ih (nx+6+1)
 rw [jR (args:=[.agg n.c]) H.afq rfl,Nd.bZ n] at hL
 rw [Nd.bZ n] at h1 r1
 simp (disch:=omega) [U8,h1,r1,H.toQi.inl,aH,H.toQi.pp,ppB,ltF,gtF,leF,dI,ak,aj] at hL
 exact ⟨_,_,b,hL,by omega,by omega,by simp (disch:=omega) only [aj];exact nC r2 r4⟩
structure uH (h:aI) (lo hi:Nat) (cs:List (List AV)) (l:List Hd):Prop where
 len:cs.length=l.length
 row:∀ (i:Nat) (x:Hd),l[i]?=some x→∃ b,lo≤b∧b < hi∧cs[i]?=some (.int .u64 x.k::.int .u8 x.t::yc x.n b)∧Pav.get h b=some (Ry x.n)
theorem uH.mono {h h':aI} {lo lo' hi hi':Nat} {cs:List (List AV)} {l:List Hd} (R:uH h lo hi cs l) (hl:lo'≤lo) (hh:hi≤hi') (hg:∀ b,lo≤b→b < hi→Pav.get h' b=Pav.get h b):uH h' lo' hi' cs l :=
 ⟨R.len,fun i x hx=>by
  obtain ⟨b,h1,h2,h3,h4⟩:=R.row i x hx
  exact ⟨b,by omega,by omega,h3,by rw [hg b h1 h2];exact h4⟩⟩
theorem uH.snoc {h:aI} {lo hi:Nat} {cs:List (List AV)} {l:List Hd} (R:uH h lo hi cs l) (x:Hd) (b:Nat) (h1:lo≤b) (h2:b < hi) (h3:Pav.get h b=some (Ry x.n)):uH h lo hi (cs++[.int .u64 x.k::.int .u8 x.t::yc x.n b]) (l++[x]):=by
 refine ⟨by simp [R.len],fun i y hy=>?_⟩
 have hi':i < (l++[x]).length:=(List.getElem?_eq_some_iff.1 hy).1
 simp at hi'
 by_cases c:i=l.length
 · subst c
   simp at hy
   subst hy
   exact ⟨b,h1,h2,by rw [← R.len];simp,h3⟩
 · have hil:i < l.length:=by omega
   rw [List.getElem?_append_left hil] at hy
   obtain ⟨b',k1,k2,k3,k4⟩:=R.row i y hy
   exact ⟨b',k1,k2,by rw [List.getElem?_append_left (by rw [R.len];exact hil)];exact k3,k4⟩
theorem aad (H:I4 C) (l:List Hd) (e:Bool) (hl:l.length≤1000000) (hc:∀ x ∈ l,cnt x.n≠0) (bs rb:Nat):∀ m i,m+i=l.length→∀ (cs:List (List AV)) (dt:Bool) (h:aI) (next:Nat),rb < next→uH h (rb+1) next cs (l.take i) →
 Pav.get h rb=some (.cells 8 (cs++List.replicate m zH) true dt) →
 ∃ cs' dt' h' next',uH h' (rb+1) next' cs' l∧Pav.get h' rb=some (.cells 8 cs' true dt')∧(0 < m∨dt=false→dt'=false)∧next≤next' ∧
 CK C bs (iR [.tmp 2]) [.sq Gp,.bk 0 ⟨true,[3],[(9999,65537)]⟩,.sq FT] um
  ⟨[(14,.int .i64 i),(13,.int .i64 l.length),(12,.ro 8 (l.map eHd) e),(3,.sl rb 8 0 l.length l.length true)],h,next⟩=some (.sl rb 8 0 l.length l.length true,h',next'):=by
 intro m
 induction m with
 | zero =>
  intro i hi cs dt h next hlt R g
  have c1:¬ i < l.length:=by omega
  have e1:l.take i=l:=List.take_of_length_le (by omega)
  rw [e1] at R
  simp only [List.replicate_zero,List.append_nil] at g
  refine ⟨cs,dt,h,next+3,R.mono (Nat.le_refl _) (by omega) (fun _ _ _=>rfl),g,fun q=>by rcases q with q | q;omega;exact q,by omega,?_⟩
  rw [au um.eq_1]
  simp (disch:=omega) [au FT.eq_1,c1]
 | succ m ih =>
  intro i hi cs dt h next hlt R g
  have c1:i < l.length:=by omega
  obtain ⟨g1,n1,b,r1,r2,r3,r4⟩:=agG H l[i].n (hc _ (List.getElem_mem c1)) (next+10)
  have hcl:cs.length=i:=by rw [R.len];simp;omega
  have hci:(cs++zH::List.replicate m zH)[i]?=some zH:=by rw [List.getElem?_append_right (by omega)];simp [hcl]
  have hset:cs++(List.replicate (m+1) zH).set 0 (.int .u64 l[i].k::.int .u8 l[i].t::yc l[i].n b)=(cs++[.int .u64 l[i].k::.int .u8 l[i].t::yc l[i].n b])++List.replicate m zH:=by
   rw [List.replicate_succ];simp
  have htk:l.take (i+1)=l.take i++[l[i]]:=List.take_succ_eq_append_getElem c1
  obtain ⟨cs',dt',h',n',k1,k2,k3,k4,k5⟩:=ih (i+1) (by omega) (cs++[.int .u64 l[i].k::.int .u8 l[i].t::yc l[i].n b]) false
   (put (put (over (next+9+1) g1 (put h (next+4) (.cells 8 [.int .u64 l[i].k::.int .u8 l[i].t::l[i].n.c] true true))) (next+4) (.cells 8 [.int .u64 l[i].k::.int .u8 l[i].t::yc l[i].n b] true false)) rb (.cells 8 ((cs++[.int .u64 l[i].k::.int .u8 l[i].t::yc l[i].n b])++List.replicate m zH) true false)) (n1+9) (by omega)
   (by
    rw [htk]
    refine (R.mono (Nat.le_refl _) (by omega) (fun c q1 q2=>?_)).snoc l[i] b (by omega) (by omega) ?_
    · simp (disch:=omega) only [aj,dI]
    · simp (disch:=omega) only [aj];exact nC r2 r4)
   (ak ..)
  refine ⟨cs',dt',h',n',k1,k2,fun _=>k3 (.inr rfl),by omega,?_⟩
  rw [← k5,au um.eq_1]
  rw [Nd.bZ] at r1
  simp (disch:=omega) [c1,r1,g,ak,aj,aN,H.toQi.inl,aH,H.toQi.pp,ppB,Nd.bZ,dI,leF,ltF,hci,bI,List.replicate_succ]
def wS (h:aI) (lo hi:Nat) (v:AV) (l:List Hd):Prop :=
 (l=[]∧v=.ro 8 [] true)∨(l≠[]∧∃ rb cs,v=.sl rb 8 0 l.length l.length true∧lo≤rb∧rb < hi∧Pav.get h rb=some (.cells 8 cs true false)∧uH h (rb+1) hi cs l)
theorem wS.mono {h h':aI} {lo lo' hi hi':Nat} {v:AV} {l:List Hd} (R:wS h lo hi v l) (hl:lo'≤lo) (hh:hi≤hi') (hg:∀ b,lo≤b→b < hi→Pav.get h' b=Pav.get h b):wS h' lo' hi' v l:=by
 rcases R with q | ⟨q,rb,cs,h1,h2,h3,h4,h5⟩
 · exact .inl q
 · exact .inr ⟨q,rb,cs,h1,by omega,by omega,by rw [hg rb h2 h3];exact h4,h5.mono (Nat.le_refl _) hh (fun b k1 k2=>hg b (by omega) k2)⟩
theorem Y3 (H:I4 C) (l:List Hd) (e:Bool) (hl:l.length≤1000000) (hc:∀ x ∈ l,cnt x.n≠0) (nx:Nat):∃ v h1 n1,RnW C 5034 [.ro 8 (l.map eHd) e] [] nx=some (v,h1,n1)∧nx≤n1∧wS h1 nx n1 v l:=by
 obtain ⟨L,hL⟩:∃ L,L=RnW C 5034 [.ro 8 (l.map eHd) e] [] nx:=⟨_,rfl⟩
 rw [← hL]
 rw [jR (args:=[.ro 8 (l.map eHd) e]) H.af7 rfl] at hL
 by_cases c:l=[]
 · subst c
   simp [Pg] at hL
   exact ⟨_,_,_,hL,by omega,.inl ⟨rfl,rfl⟩⟩
 · have c0:¬ l.length=0:=fun q=>c (List.length_eq_zero_iff.1 q)
   have h4:l.length * 121≤35184372088832:=by omega
   simp [Pg,c0,h4,c] at hL
   obtain ⟨cs',dt',h',n',k1,k2,k3,k4,k5⟩:=aad H l e hl hc nx (nx+6) l.length 0 (by simp) [] true [(nx+6,.cells 8 (List.replicate l.length zH) true true)] (nx+11) (by omega) ⟨rfl,fun i x hx=>by simp at hx⟩ (by simp)
   rw [k3 (.inl (by omega))] at k2
   exact ⟨_,_,_,hL.trans k5,by omega,.inr ⟨c,nx+6,cs',rfl,by omega,by omega,k2,k1⟩⟩
end Go.D
end
section
namespace Go.D
open Go Go.Pav Go.Pw P
set_option maxHeartbeats 2000000
attribute [-simp] List.getElem_cons_drop
variable {C:aJ}
theorem FV {α β:Type} {f:α→Option β}:∀ (l:List α) (r:List β),l.length=r.length→(∀ (i:Nat) (x:α) (y:β),l[i]?=some x→r[i]?=some y→f x=some y)→aX f l=some r
 | [],[],_,_=>rfl
 | x::l,y::r,h,hh=>by
  have h0:=hh 0 x y rfl rfl
  have h1:=FV l r (by simpa using h) (fun i a b p q=>hh (i+1) a b (by simpa using p) (by simpa using q))
  simp only [aX,h0,h1,ob,om]
 | [],_::_,h,_=>by simp at h
 | _::_,[],h,_=>by simp at h
theorem adY {h:aI} {x:Hd} {b:Nat} (hg:Pav.get h b=some (Ry x.n)) (n:Nat):aX (bD h (n+2)) (.int .u64 x.k::.int .u8 x.t::yc x.n b)=some (eHd (fH x)):=by
 have e:(jO x.n).c=[.int .u8 x.n.k,.str x.n.t,.str x.n.y,.ro 2 (x.n.a.map eA) true,.str x.n.x,.ro 6 ((x.n.ch.map jO).map Nd.c) true]:=by rw [Nd.bZ,Lm]
 have h1:List.take x.n.ch.length ((x.n.ch.map jO).map Nd.c)=(x.n.ch.map jO).map Nd.c:=List.take_of_length_le (by simp)
 simp only [eHd,fH,e]
 rw [List.map_map] at h1 ⊢
 simp [aX,hg,h1]
theorem wS.frz {h:aI} {lo hi:Nat} {v:AV} {l:List Hd} (R:wS h lo hi v l) (n:Nat):bD h (n+3) v=some (.ro 8 ((l.map fH).map eHd) true):=by
 rcases R with ⟨rfl,rfl⟩ | ⟨_,rb,cs,rfl,_,_,g,R⟩
 · rfl
 · have h1:cs.take l.length=cs:=List.take_of_length_le (by rw [R.len];exact Nat.le_refl _)
   have h2:aX (aX (bD h (n+2))) cs=some ((l.map fH).map eHd):=by
    refine FV _ _ (by simp [R.len]) (fun i c y hc hy=>?_)
    have hil:i < l.length:=by have:=(List.getElem?_eq_some_iff.1 hc).1;rw [← R.len];exact this
    obtain ⟨b,_,_,k3,k4⟩:=R.row i l[i] (List.getElem?_eq_getElem hil)
    rw [hc] at k3
    rw [Option.some.inj k3]
    simp [hil] at hy
    rw [← hy]
    exact adY k4 n
   have h3:(((l.map fH).map eHd).all fun e=>e.all isC)=true:=by
    rw [List.all_eq_true]
    intro e he
    obtain ⟨x,_,rfl⟩:=List.mem_map.1 he
    simp only [eHd,Nd.bZ]
    rfl
   rw [jF,g]
   simp only [Pw.ql,List.drop_zero,h1,h2,ob,h3]
   simp [og]
structure qg (h:aI) (lo hi:Nat) (cs:List (List AV)) (W:List (List Hd)):Prop where
 len:cs.length=W.length
 row:∀ (j:Nat) (w:List Hd),W[j]?=some w→∃ v,cs[j]?=some [v]∧wS h lo hi v w
theorem qg.mono {h h':aI} {lo lo' hi hi':Nat} {cs:List (List AV)} {W:List (List Hd)} (R:qg h lo hi cs W) (hl:lo'≤lo) (hh:hi≤hi') (hg:∀ b,lo≤b→b < hi→Pav.get h' b=Pav.get h b):qg h' lo' hi' cs W :=
 ⟨R.len,fun j w hw=>by
  obtain ⟨v,h1,h2⟩:=R.row j w hw
  exact ⟨v,h1,h2.mono hl hh hg⟩⟩
theorem qg.snoc {h:aI} {lo hi:Nat} {cs:List (List AV)} {W:List (List Hd)} (R:qg h lo hi cs W) (w:List Hd) (v:AV) (hv:wS h lo hi v w):qg h lo hi (cs++[[v]]) (W++[w]):=by
 refine ⟨by simp [R.len],fun i y hy=>?_⟩
 have hi':i < (W++[w]).length:=(List.getElem?_eq_some_iff.1 hy).1
 simp at hi'
 by_cases c:i=W.length
 · subst c
   simp at hy
   subst hy
   exact ⟨v,by rw [← R.len];simp,hv⟩
 · have hil:i < W.length:=by omega
   rw [List.getElem?_append_left hil] at hy
   obtain ⟨v',k1,k2⟩:=R.row i y hy
   exact ⟨v',by rw [List.getElem?_append_left (by rw [R.len];exact hil)];exact k1,k2⟩
theorem qg.frz {h:aI} {lo hi pb:Nat} {cs:List (List AV)} {W:List (List Hd)} (R:qg h lo hi cs W) {dt:Bool} (g:Pav.get h pb=some (.cells 1 cs true dt)) (hd:dt=true→∀ w ∈ W,w=[]) (n:Nat) (k:Nat) (hk:k=W.length):bD h (n+4) (.sl pb 1 0 k k true)=some (.ro 1 (W.map fun w=>[.ro 8 ((w.map fH).map eHd) true]) true):=by
 subst hk
 have h1:cs.take W.length=cs:=List.take_of_length_le (by rw [R.len];exact Nat.le_refl _)
 have h2:aX (aX (bD h (n+3))) cs=some (W.map fun w=>[.ro 8 ((w.map fH).map eHd) true]):=by
  refine FV _ _ (by simp [R.len]) (fun i c y hc hy=>?_)
  have hil:i < W.length:=by have:=(List.getElem?_eq_some_iff.1 hc).1;rw [← R.len];exact this
  obtain ⟨v,k1,k2⟩:=R.row i W[i] (List.getElem?_eq_getElem hil)
  rw [hc] at k1
  rw [Option.some.inj k1]
  rw [List.getElem?_map,List.getElem?_eq_getElem hil] at hy
  rw [← Option.some.inj hy]
  simp only [aX,k2.frz n,ob,om]
 have h3:((W.map fun w=>[AV.ro 8 ((w.map fH).map eHd) true]).all fun e=>e.all isC)=true:=by
  rw [List.all_eq_true]
  intro e he
  obtain ⟨x,_,rfl⟩:=List.mem_map.1 he
  rfl
 rw [jF,g]
 cases dt with
 | false =>
  simp only [Pw.ql,List.drop_zero,h1,h2,ob,h3]
  simp [og]
 | true =>
  have h4:cs=W.map fun w=>[.ro 8 ((w.map fH).map eHd) true]:=by
   refine List.ext_getElem (by simp [R.len]) (fun i q1 q2=>?_)
   have hil:i < W.length:=by simpa using q2
   obtain ⟨v,k1,k2⟩:=R.row i W[i] (List.getElem?_eq_getElem hil)
   rw [List.getElem?_eq_getElem q1] at k1
   have hw:=hd rfl _ (List.getElem_mem hil)
   rcases k2 with ⟨_,rfl⟩ | ⟨q,_⟩
   · rw [Option.some.inj k1];simp [hw]
   · exact absurd hw q
  simp only [Pw.ql,List.drop_zero,h1]
  rw [h4]
  simp [og]
structure Jk (C:aJ):Prop extends I4 C where
 afX:C.fns.get 5033=some QB
 afz:C.fns.get 5032=some Vl
structure StO (h:aI) (lo hi:Nat) (Rv:AV) (pb:Nat) (ra:List Hd) (W:List (List Hd)):Prop where
 rows:wS h lo hi Rv ra
 pool:∃ cs dt,Pav.get h pb=some (.cells 1 cs true dt)∧qg h lo hi cs W∧(dt=true→∀ w ∈ W,w=[])
 bd:pb < hi
theorem StO.frz {h:aI} {lo hi:Nat} {Rv:AV} {pb:Nat} {ra:List Hd} {W:List (List Hd)} (R:StO h lo hi Rv pb ra W) (n:Nat) (k:Nat) (hk:k=W.length):bD h (n+5) (.agg [Rv,.sl pb 1 0 k k true])=some (aSt (ra.map fH) true ((W.map fun w=>(w.map fH,true))) true):=by
 obtain ⟨cs,dt,h1,h2,h3⟩:=R.pool
 rw [iM]
 simp only [aX,R.rows.frz (n+1),h2.frz h1 h3 n k hk,ob,om,Il]
 simp [aSt,ePl]
theorem aay (H:Jk C) (ps:List Pl) (pe:Bool) (hl:ps.length≤1000) (hp:∀ p ∈ ps,p.1.length≤1000000∧∀ x ∈ p.1,cnt x.n≠0) (bs ob rs pb L0:Nat) (Rv:AV) (ra:List Hd) (d1:ob≠pb) (d2:rs≠pb) (d3:ob≠rs) (l1:ob < L0) (l2:rs < L0) (l3:pb < L0) (hRv:AV.cell Rv=true):∀ m i,m+i=ps.length→∀ (cs:List (List AV)) (dt:Bool) (h:aI) (next:Nat),L0≤next →
 Pav.get h ob=some (.cells 2 [[Rv,.sl pb 1 0 ps.length ps.length true]] true false)→Pav.get h rs=some (.cells 2 [[.ro 8 [] true,.ro 1 [] true]] true true)→Pav.get h pb=some (.cells 1 (cs++List.replicate m [.ro 8 [] true]) true dt) →
 wS h L0 next Rv ra→qg h L0 next cs ((ps.map (·.1)).take i)→(dt=true→∀ w ∈ (ps.map (·.1)).take i,w=[]) →
 ∃ h' next',StO h' L0 next' Rv pb ra (ps.map (·.1))∧next≤next' ∧
 CK C bs (iR [.cell 2 2 true]) [.sq yS,.bk 0 ⟨true,[3,2],[(9999,65537)]⟩,.sq ug] oh
  ⟨[(17,.int .i64 i),(16,.int .i64 ps.length),(15,.ro 1 (ps.map ePl) pe),(3,.ptr ob 0 0),(2,.ptr rs 0 0)],h,next⟩=some (.agg [Rv,.sl pb 1 0 ps.length ps.length true],h',next'):=by
 intro m
 induction m with
 | zero =>
  intro i hi cs dt h next ln g1 g2 g3 O R hd
  have c1:¬ i < ps.length:=by omega
  have e1:(ps.map (·.1)).take i=ps.map (·.1):=List.take_of_length_le (by simp;omega)
  rw [e1] at R hd
  simp only [List.replicate_zero,List.append_nil] at g3
  refine ⟨put h rs (.cells 2 [[Rv,.sl pb 1 0 ps.length ps.length true]] true false),next+3,⟨O.mono (Nat.le_refl _) (by omega) (fun b k1 k2=>aj (by omega)),⟨cs,dt,by rw [aj (by omega)];exact g3,R.mono (Nat.le_refl _) (by omega) (fun b k1 k2=>aj (by omega)),hd⟩,by omega⟩,by omega,?_⟩
  rw [au oh.eq_1]
  rcases O with ⟨_,rfl⟩ | ⟨_,rb,cs2,rfl,_⟩
  · simp (disch:=omega) [au ug.eq_1,c1,g1,g2,ak,aj]
  · simp (disch:=omega) [au ug.eq_1,c1,g1,g2,ak,aj]
 | succ m ih =>
  intro i hi cs dt h next ln g1 g2 g3 O R hd
  have c1:i < ps.length:=by omega
  have hpi:=hp _ (List.getElem_mem c1)
  obtain ⟨v,q1,n1,r1,r2,r3⟩:=Y3 H.toI4 ps[i].1 ps[i].2 hpi.1 hpi.2 (next+13)
  have hcl:cs.length=i:=by rw [R.len];simp;omega
  have hci:(cs++[AV.ro 8 [] true]::List.replicate m [.ro 8 [] true])[i]?=some [.ro 8 [] true]:=by rw [List.getElem?_append_right (by omega)];simp [hcl]
  have htk:(ps.map (·.1)).take (i+1)=(ps.map (·.1)).take i++[ps[i].1]:=by rw [List.take_succ_eq_append_getElem (by simpa using c1)];simp
  have key:∀ dt',(dt'=true→dt=true∧ps[i].1=[])→∃ h' next',StO h' L0 next' Rv pb ra (ps.map (·.1))∧next≤next' ∧
   CK C bs (iR [.cell 2 2 true]) [.sq yS,.bk 0 ⟨true,[3,2],[(9999,65537)]⟩,.sq ug] oh
    ⟨[(17,.int .i64 (i+1:Nat)),(16,.int .i64 ps.length),(15,.ro 1 (ps.map ePl) pe),(3,.ptr ob 0 0),(2,.ptr rs 0 0)],put (over (next+6+7) q1 h) pb (.cells 1 ((cs++[[v]])++List.replicate m [.ro 8 [] true]) true dt'),n1+2⟩=some (.agg [Rv,.sl pb 1 0 ps.length ps.length true],h',next'):=by
   intro dt' hd'
   obtain ⟨h',n',z1,z2,z3⟩:=ih (i+1) (by omega) (cs++[[v]]) dt' (put (over (next+6+7) q1 h) pb (.cells 1 ((cs++[[v]])++List.replicate m [.ro 8 [] true]) true dt')) (n1+2) (by omega)
    (by simp (disch:=omega) only [aj,dI];exact g1) (by simp (disch:=omega) only [aj,dI];exact g2) (ak ..)
    (O.mono (Nat.le_refl _) (by omega) (fun b k1 k2=>by simp (disch:=omega) only [aj,dI]))
    (by
     rw [htk]
     refine (R.mono (Nat.le_refl _) (by omega) (fun b k1 k2=>by simp (disch:=omega) only [aj,dI])).snoc _ _ ?_
     have r4:=r3
     rcases r3 with q | ⟨q,rb,cs2,e1,e2,e3,e4,e5⟩
     · exact .inl q
     · refine .inr ⟨q,rb,cs2,e1,by omega,by omega,?_,⟨e5.len,fun j x hx=>?_⟩⟩
       · rw [aj (by omega)];exact nC e2 e4
       · obtain ⟨b,f1,f2,f3,f4⟩:=e5.row j x hx
         exact ⟨b,f1,by omega,f3,by rw [aj (by omega)];exact nC (by omega) f4⟩)
    (fun q=>by
     rw [htk]
     intro w hw
     rcases List.mem_append.1 hw with hw | hw
     · exact hd (hd' q).1 w hw
     · rw [List.mem_singleton] at hw;subst hw;exact (hd' q).2)
   exact ⟨h',n',z1,by omega,z3⟩
  rcases r3 with ⟨q,rfl⟩ | ⟨q,rb,cs2,rfl,_⟩
  · obtain ⟨h',n',z1,z2,z3⟩:=key dt (fun w=>⟨w,q⟩)
    refine ⟨h',n',z1,z2,?_⟩
    rw [← z3,au oh.eq_1]
    simp (disch:=omega) [c1,r1,g1,g2,g3,ak,aj,aN,H.toQi.inl,aH,H.toQi.pp,ppB,dI,leF,ltF,gtF,hci,List.replicate_succ]
  · obtain ⟨h',n',z1,z2,z3⟩:=key false (fun w=>by cases w)
    refine ⟨h',n',z1,z2,?_⟩
    rw [← z3,au oh.eq_1]
    simp (disch:=omega) [c1,r1,g1,g2,g3,ak,aj,aN,H.toQi.inl,aH,H.toQi.pp,ppB,dI,leF,ltF,gtF,hci,List.replicate_succ]
theorem ahB (H:Jk C) (ra:List Hd) (ea:Bool) (ps:List Pl) (pe:Bool) (hr:ra.length≤1000000) (hrc:∀ x ∈ ra,cnt x.n≠0) (hl:ps.length≤1000) (hp:∀ p ∈ ps,p.1.length≤1000000∧∀ x ∈ p.1,cnt x.n≠0) (nx:Nat) :
 ∃ Rv pb h1 n1,RnW C 5033 [aSt ra ea ps pe] [] nx=some (.agg [Rv,.sl pb 1 0 ps.length ps.length true],h1,n1)∧nx≤n1∧nx≤pb∧StO h1 nx n1 Rv pb ra (ps.map (·.1)):=by
 obtain ⟨L,hL⟩:∃ L,L=RnW C 5033 [aSt ra ea ps pe] [] nx:=⟨_,rfl⟩
 rw [← hL]
 obtain ⟨Rv,q1,n1,r1,r2,r3⟩:=Y3 H.toI4 ra ea hr hrc (nx+12)
 have h4:ps.length * 25≤35184372088832:=by omega
 have hRc:AV.cell Rv=true:=by rcases r3 with ⟨_,rfl⟩ | ⟨_,_,_,rfl,_⟩ <;> rfl
 obtain ⟨HH,hHH⟩:∃ HH,HH=put (put (over (nx+2+10) q1 [(nx,.cells 2 [[.ro 8 (ra.map eHd) ea,.ro 1 (ps.map ePl) pe]] true true),(nx+1,.cells 2 [[.ro 8 [] true,.ro 1 [] true]] true true)])
  (nx+8) (.cells 1 (List.replicate ps.length [.ro 8 [] true]) true true)) (nx+10) (.cells 2 [[Rv,.sl (nx+8) 1 0 ps.length ps.length true]] true false):=⟨_,rfl⟩
 have hO:wS HH (nx+12) (n1+4) Rv ra:=by
  rcases r3 with q | ⟨q,rb,cs2,e1,e2,e3,e4,e5⟩
  · exact .inl q
  · refine .inr ⟨q,rb,cs2,e1,by omega,by omega,?_,⟨e5.len,fun j x hx=>?_⟩⟩
    · rw [hHH,aj (by omega),aj (by omega)];exact nC (by omega) e4
    · obtain ⟨b,f1,f2,f3,f4⟩:=e5.row j x hx
      exact ⟨b,f1,by omega,f3,by rw [hHH,aj (by omega),aj (by omega)];exact nC (by omega) f4⟩
 obtain ⟨h',n',z1,z2,z3⟩:=aay H ps pe hl hp nx (nx+10) (nx+1) (nx+8) (nx+12) Rv ra (by omega) (by omega) (by omega) (by omega) (by omega) (by omega) hRc ps.length 0 (by simp) [] true HH (n1+4) (by omega)
  (by rw [hHH,ak]) (by rw [hHH];simp (disch:=omega) [aj,dI,ltF,gtF]) (by rw [hHH];simp (disch:=omega) [aj,ak]) hO ⟨rfl,fun j w hw=>by simp at hw⟩ (fun _ w hw=>by simp at hw)
 refine ⟨Rv,nx+8,h',n',?_,by omega,by omega,⟨z1.rows.mono (by omega) (Nat.le_refl _) (fun _ _ _=>rfl),?_,z1.bd⟩⟩
 · rw [← z3,hHH,hL]
   rw [jR (args:=[aSt ra ea ps pe]) H.afX rfl]
   rcases r3 with ⟨_,rfl⟩ | ⟨_,_,_,rfl,_⟩
   · simp (disch:=omega) [QB,r1,h4,H.toQi.inl,aH,H.toQi.pp,ppB,dI,leF,ltF,gtF,ak,aj,bI]
   · simp (disch:=omega) [QB,r1,h4,H.toQi.inl,aH,H.toQi.pp,ppB,dI,leF,ltF,gtF,ak,aj,bI]
 · obtain ⟨cs,dt,k1,k2,k3⟩:=z1.pool
   exact ⟨cs,dt,k1,k2.mono (by omega) (Nat.le_refl _) (fun _ _ _=>rfl),k3⟩
theorem RQ (H:Jk C) (l:List En) (e:Bool) (A:List Nat) (f:Bool) (hA:A.length≤1000) (hAl:∀ a ∈ A,a < l.length) (hll:l.length≤100000) (hri:∀ (i:Nat) (h:i+1 < A.length),A[i] < A[i+1]) (bs b4 b5 b6 b8 b9:Nat) (hh:aI) (g6:Pav.get hh b6=some (.cells 1 [[.ro 6 (l.map eEn) e]] true true)):∀ m i,m+i=A.length→∀ next,∃ next',next≤next' ∧
 CK C bs (iR [.cell 8 2 true,.cell 9 4 true,.tmp 10]) [.sq FH,.bk 0 ⟨true,[9,8,6,5,4,3],[(9999,65537)]⟩,.sq Aq] uq
  ⟨[(36,.int .i64 i),(35,.int .i64 A.length),(34,.ro 1 (A.map eAt) f),(9,.ptr b9 0 0),(8,.ptr b8 0 0),(6,.ptr b6 0 0),(5,.ptr b5 0 0),(4,.ptr b4 0 0),(3,.ro 1 (A.map eAt) f)],hh,next⟩ =
 CK C bs (iR [.cell 8 2 true,.cell 9 4 true,.tmp 10]) [] Aq
  ⟨[(9,.ptr b9 0 0),(8,.ptr b8 0 0),(6,.ptr b6 0 0),(5,.ptr b5 0 0),(4,.ptr b4 0 0),(3,.ro 1 (A.map eAt) f)],hh,next'⟩:=by
 intro m
 induction m with
 | zero =>
  intro i hi next
  have h3:¬ i < A.length:=by omega
  refine ⟨next+1,by omega,?_⟩
  rw [au uq.eq_1]
  simp (disch:=omega) [h3]
 | succ m ih =>
  intro i hi next
  have h1:i < A.length:=by omega
  have h2:=hAl _ (List.getElem_mem h1)
  have h4:¬ (l.length:Int)≤A[i]:=by omega
  have h5:¬ l.length≤A[i]:=by omega
  obtain ⟨n',k1,k2⟩:=ih (i+1) (by omega) (next+30)
  refine ⟨n',by omega,?_⟩
  rw [← k2]
  rw [au uq.eq_1]
  cases i with
  | zero=>simp (disch:=omega) [h1,h2,h4,h5,aN,g6]
  | succ j =>
   have h6:=hri j h1
   have h7:j < A.length:=by omega
   have h8:¬ (A[j+1]:Int)≤A[j]:=by omega
   have h9:¬ A[j+1]≤A[j]:=by omega
   have h10:IntKind.i64.wrap (j:Int)=j:=aN (by omega) (by omega)
   have h11:(0:Int) < j+1:=by omega
   simp (disch:=omega) [h1,h2,h4,h5,h7,h8,h9,h10,h11,aN,g6]
   try (intro q;omega)
theorem wS.over {h1:aI} {lo hi B:Nat} {v:AV} {l:List Hd} (R:wS h1 lo hi v l) (hB:B≤lo) (h:aI):wS (Pw.over B h1 h) lo hi v l:=by
 rcases R with q | ⟨q,rb,cs2,e1,e2,e3,e4,e5⟩
 · exact .inl q
 · refine .inr ⟨q,rb,cs2,e1,by omega,by omega,nC (by omega) e4,⟨e5.len,fun j x hx=>?_⟩⟩
   obtain ⟨b,f1,f2,f3,f4⟩:=e5.row j x hx
   exact ⟨b,f1,by omega,f3,nC (by omega) f4⟩
theorem StO.over {h1:aI} {lo hi B:Nat} {Rv:AV} {pb:Nat} {ra:List Hd} {W:List (List Hd)} (R:StO h1 lo hi Rv pb ra W) (hB:B≤lo) (hpb:B≤pb) (h:aI):StO (Pw.over B h1 h) lo hi Rv pb ra W:=by
 obtain ⟨cs,dt,k1,k2,k3⟩:=R.pool
 refine ⟨R.rows.over hB h,⟨cs,dt,nC hpb k1,⟨k2.len,fun j w hw=>?_⟩,k3⟩,R.bd⟩
 obtain ⟨v,m1,m2⟩:=k2.row j w hw
 exact ⟨v,m1,m2.over hB h⟩
theorem StO.mono {h h':aI} {lo lo' hi hi':Nat} {Rv:AV} {pb:Nat} {ra:List Hd} {W:List (List Hd)} (R:StO h lo hi Rv pb ra W) (hl:lo'≤lo) (hh:hi≤hi') (hpb:lo'≤pb) (hg:∀ b,lo'≤b→b < hi→Pav.get h' b=Pav.get h b):StO h' lo' hi' Rv pb ra W:=by
 obtain ⟨cs,dt,k1,k2,k3⟩:=R.pool
 exact ⟨R.rows.mono hl hh (fun b p q=>hg b (by omega) q),⟨cs,dt,by rw [hg pb hpb R.bd];exact k1,k2.mono hl hh (fun b p q=>hg b (by omega) q),k3⟩,by have:=R.bd;omega⟩
theorem abI (vw ov ls:Int) (ks:List Kd) (ke:Bool) (cap ar fl:Int) (ra:List Hd) (ea:Bool) (ps:List Pl) (pe:Bool) (l:List En) (e:Bool) (H:Jk C) (tp:En→Nd) (A:List Nat) (f:Bool)
 (hchk:FnW C 278 [.agg (cCf vw ov ls ks ke cap ar fl),aSt ra ea ps pe]=some (.int .i64 0)) (hlc:FnW C 223 [aR ks ke cap,aL l e]=some (.int .i64 0)) (hri:∀ (i:Nat) (h:i+1 < A.length),A[i] < A[i+1])
 (hA:A.length≤1000) (hAl:∀ a ∈ A,a < l.length) (hAn:A.Nodup) (hn:(cO l).Nodup) (hll:l.length≤100000) (hra:ra.length≤1000) (hrn:(ra.map Hd.k).Nodup) (hpk:ps.length=ks.length) (hkl:ks.length≤1000) (hk0:0 < ks.length) (hps:∀ p ∈ ps,p.1.length≤100000)
 (hpp:∀ (j:Nat) (w:List Hd),(ps.map (·.1))[j]?=some w→(w.length:Int)≤tX ks j)
 (hty:∀ x ∈ l,∃ t:Nat,x.i.t=t∧t < ks.length) (htyr:∀ x ∈ ra,∃ t:Nat,x.t=t∧t < ks.length) (htr:∀ (a:Nat) (h:a < l.length) (q:Bool),FnW C 238 [aR ks ke cap,aL [l[a]] q,.int .i64 0]=some (.tup [.agg (tp l[a]).c,.int .i64 0]))
 (hrc:(cmF tp ks ra (ps.map (·.1)) l A).1.length≤1000000∧∀ x ∈ (cmF tp ks ra (ps.map (·.1)) l A).1,cnt x.n≠0) (hpc:∀ w ∈ (cmF tp ks ra (ps.map (·.1)) l A).2.1,w.length≤1000000∧∀ x ∈ w,cnt x.n≠0) (hplen:(cmF tp ks ra (ps.map (·.1)) l A).2.1.length≤1000)
 (hlv:¬ live ((cmF tp ks ra (ps.map (·.1)) l A).1::(cmF tp ks ra (ps.map (·.1)) l A).2.1) > ar) (nx:Nat) :
 ∃ Rv pb h1 n1,RnW C 5032 [.agg (cCf vw ov ls ks ke cap ar fl),aSt ra ea ps pe,aL l e,.ro 1 (A.map eAt) f] [] nx=some (.tup [
  .agg [Rv,.sl pb 1 0 (cmF tp ks ra (ps.map (·.1)) l A).2.1.length (cmF tp ks ra (ps.map (·.1)) l A).2.1.length true],aCn (cmF tp ks ra (ps.map (·.1)) l A).2.2.1 (cmF tp ks ra (ps.map (·.1)) l A).2.2.2.1 (cmF tp ks ra (ps.map (·.1)) l A).2.2.2.2 (live ((cmF tp ks ra (ps.map (·.1)) l A).1::(cmF tp ks ra (ps.map (·.1)) l A).2.1)),.int .i64 0],h1,n1) ∧
  nx≤n1∧nx≤pb∧StO h1 nx n1 Rv pb (cmF tp ks ra (ps.map (·.1)) l A).1 (cmF tp ks ra (ps.map (·.1)) l A).2.1:=by
 obtain ⟨ps1,ea1,pe1,u1,u2⟩:=OD H.toFj tp vw ov ls ks ke cap ar fl ra ea ps pe l e A f hA hAl hAn hn hll hra hrn hpk hkl hk0 hps hpp hty htyr htr
 have hrules:=A8 H.toqU vw ov ls ks ke cap ar fl
 generalize cmF tp ks ra (ps.map (·.1)) l A=V at *
 have hV:V.2.1.length=ps1.length:=by rw [← u1];simp
 obtain ⟨L,hL⟩:∃ L,L=RnW C 5032 [.agg (cCf vw ov ls ks ke cap ar fl),aSt ra ea ps pe,aL l e,.ro 1 (A.map eAt) f] [] nx:=⟨_,rfl⟩
 rw [← hL]
 rw [jR (args:=[.agg (cCf vw ov ls ks ke cap ar fl),aSt ra ea ps pe,aL l e,.ro 1 (A.map eAt) f]) H.afz rfl] at hL
 generalize live (V.1::V.2.1)=lv at *
 simp (disch:=omega) [Vl,hchk,hrules,hlc,H.toQi.inl,aH,H.toQi.pp,ppB,leF,ltF,gtF] at hL
 obtain ⟨n',k1,k2⟩:=RQ H l e A f hA hAl hll hri nx nx (nx+1) (nx+2) (nx+3) (nx+4)
  [(nx,.cells 7 [cCf vw ov ls ks ke cap ar fl] true true),(nx+1,.cells 2 [[.ro 8 (ra.map eHd) ea,.ro 1 (ps.map ePl) pe]] true true),(nx+2,.cells 1 [[.ro 6 (l.map eEn) e]] true true),(nx+3,.cells 2 [[.ro 8 [] true,.ro 1 [] true]] true true),(nx+4,.cells 4 [[.int .i64 0,.int .i64 0,.int .i64 0,.int .i64 0]] true true)]
  (by simp (disch:=omega) [ltF,gtF]) A.length 0 (by simp) (nx+22)
 have hL2:=hL.trans k2
 clear hL k2
 obtain ⟨Rv,pb,h1,n1,r1,r2,r3,r4⟩:=ahB H V.1 ea1 ps1 pe1 hrc.1 hrc.2 (by omega) (fun p hp=>hpc p.1 (by rw [← u1];exact List.mem_map.2 ⟨p,hp,rfl⟩)) (n'+17+6)
 rw [u1] at r4
 rw [au Aq.eq_1] at hL2
 have hRc:AV.cell Rv=true:=by rcases r4.rows with ⟨_,rfl⟩ | ⟨_,_,_,rfl,_⟩ <;> rfl
 refine ⟨Rv,pb,put (put (over (n'+17+6) h1
  [(nx,.cells 7 [cCf vw ov ls ks ke cap ar fl] true true),(nx+1,.cells 2 [[.ro 8 (ra.map eHd) ea,.ro 1 (ps.map ePl) pe]] true true),(nx+2,.cells 1 [[.ro 6 (l.map eEn) e]] true true),(nx+3,.cells 2 [[.ro 8 [] true,.ro 1 [] true]] true true),(nx+4,.cells 4 [[.int .i64 0,.int .i64 0,.int .i64 0,.int .i64 0]] true true),
   (n'+8,.cells 2 [[.ro 8 (V.1.map eHd) ea1,.ro 1 (ps1.map ePl) pe1]] true true),(n'+9,.cells 4 [[.int .i64 V.2.2.1,.int .i64 V.2.2.2.1,.int .i64 V.2.2.2.2,.int .i64 lv]] true true)])
  (nx+3) (.cells 2 [[Rv,.sl pb 1 0 ps1.length ps1.length true]] true false)) (nx+4) (.cells 4 [[.int .i64 V.2.2.1,.int .i64 V.2.2.2.1,.int .i64 V.2.2.2.2,.int .i64 lv]] true true),n1,?_,by omega,by omega,?_⟩
 · rw [hL2,hV]
   rcases r4.rows with ⟨_,rfl⟩ | ⟨_,_,_,rfl,_⟩
   · simp (disch:=omega) [u2,hlv,r1,H.toQi.inl,aH,H.toQi.pp,ppB,leF,ltF,gtF,dI,ak,aj]
   · simp (disch:=omega) [u2,hlv,r1,H.toQi.inl,aH,H.toQi.pp,ppB,leF,ltF,gtF,dI,ak,aj]
 · generalize [(nx,dG.cells 7 [cCf vw ov ls ks ke cap ar fl] true true),(nx+1,.cells 2 [[.ro 8 (ra.map eHd) ea,.ro 1 (ps.map ePl) pe]] true true),(nx+2,.cells 1 [[.ro 6 (l.map eEn) e]] true true),(nx+3,.cells 2 [[.ro 8 [] true,.ro 1 [] true]] true true),(nx+4,.cells 4 [[.int .i64 0,.int .i64 0,.int .i64 0,.int .i64 0]] true true),
    (n'+8,.cells 2 [[.ro 8 (V.1.map eHd) ea1,.ro 1 (ps1.map ePl) pe1]] true true),(n'+9,.cells 4 [[.int .i64 V.2.2.1,.int .i64 V.2.2.2.1,.int .i64 V.2.2.2.2,.int .i64 lv]] true true)]=X
   have s1:=r4.over (Nat.le_refl _) r3 X
   have s2:=s1.mono (h':=put (put (over (n'+17+6) h1 X) (nx+3) (.cells 2 [[Rv,.sl pb 1 0 ps1.length ps1.length true]] true false)) (nx+4) (.cells 4 [[.int .i64 V.2.2.1,.int .i64 V.2.2.2.1,.int .i64 V.2.2.2.2,.int .i64 lv]] true true))
    (Nat.le_refl _) (Nat.le_refl _) r3 (fun b p q=>by rw [aj (by omega),aj (by omega)])
   exact s2.mono (by omega) (Nat.le_refl _) (by omega) (fun _ _ _=>rfl)
end Go.D
end
section
namespace Go.D
open Go Go.Pav Go.Pw P
set_option maxHeartbeats 2000000
attribute [-simp] List.getElem_cons_drop
def Gg (tr:En→Nd) (l:List En) (a:Nat):Option Hd:=l[a]?.map fun e=>⟨e.i.k,e.i.t,tr e⟩
theorem nT (tr:En→Nd) (ra:List Hd) (l:List En):∀ (A:List Nat) (s:List Hd × List (List Hd) × Int × Int),(cm2 tr ra l A s).1=s.1++A.filterMap (Gg tr l)
 | [],s=>by simp [cm2]
 | a::r,s=>by
  simp only [cm2]
  cases h:l[a]? with
  | none=>simp only [nT tr ra l r,List.filterMap_cons,Gg,h,Option.map_none]
  | some e =>
   simp only
   split
   · rw [nT tr ra l r];simp [Gg,h]
   · split
     · rw [nT tr ra l r];simp [Gg,h]
     · rw [nT tr ra l r];simp [Gg,h]
def fF:List (List Hd)→Nat
 | []=>0
 | w::r=>w.length+fF r
theorem Hf:∀ (W:List (List Hd)) (t:Nat) (h:t < W.length) (w:List Hd),fF (W.set t w)+W[t].length=fF W+w.length
 | x::r,0,_,w=>by simp [fF];omega
 | x::r,t+1,h,w=>by
  have:=Hf r t (by simpa using h) w
  simp only [List.set_cons_succ,fF,List.getElem_cons_succ];omega
theorem IV (W:List (List Hd)) (t:Nat) (h:t < W.length):rowAt W (t:Int)=W[t]:=by simp [rowAt,h]
theorem Dw (ks:List Kd) (l:List En) (A:List Nat):∀ (ra:List Hd) (s:List (List Hd) × Int),(∀ x ∈ ra,∃ t:Nat,x.t=t∧t < s.1.length) →
 (fF (cm1 ks l A ra s).1:Int)+(cm1 ks l A ra s).2+(ra.filter fun x=>stF x l A).length=fF s.1+s.2+ra.length
 | [],s,_=>by simp [cm1]
 | x::r,s,h=>by
  obtain ⟨t,ht,htl⟩:=h x (by simp)
  simp only [cm1]
  by_cases c:stF x l A=true
  · rw [if_pos c]
    have:=Dw ks l A r s (fun y hy=>h y (by simp [hy]))
    simp only [List.filter_cons,c,if_true,List.length_cons]
    push_cast
    omega
  · rw [if_neg c]
    have c':stF x l A=false:=by simpa using c
    simp only [List.filter_cons,c',Bool.false_eq_true,if_false,List.length_cons]
    by_cases c2:((rowAt s.1 x.t).length:Int)=tX ks x.t
    · rw [if_pos c2]
      have:=Dw ks l A r (s.1,s.2+1) (fun y hy=>h y (by simp [hy]))
      simp only at this
      push_cast
      omega
    · rw [if_neg c2]
      have h1:=Hf s.1 t htl (s.1[t]++[x])
      have e1:x.t.toNat=t:=by omega
      have e2:rowAt s.1 x.t=s.1[t]:=by rw [ht];exact IV _ _ htl
      rw [e1,e2]
      have:=Dw ks l A r (s.1.set t (s.1[t]++[x]),s.2) (fun y hy=>by simpa using h y (by simp [hy]))
      simp only at this
      simp only [List.length_append,List.length_singleton] at h1
      push_cast
      omega
def Qk (ra:List Hd) (l:List En) (A:List Nat):Nat:=(A.filter fun a=>match l[a]? with | some e=>mO ra e | none=>false).length
theorem DY (tr:En→Nd) (ra:List Hd) (l:List En):∀ (A:List Nat) (s:List Hd × List (List Hd) × Int × Int),(∀ a ∈ A,∃ h:a < l.length,∃ t:Nat,l[a].i.t=t∧t < s.2.1.length) →
 (fF (cm2 tr ra l A s).2.1:Int)+(cm2 tr ra l A s).2.2.1=fF s.2.1+s.2.2.1 ∧
 (cm2 tr ra l A s).2.2.2+(cm2 tr ra l A s).2.2.1+Qk ra l A=s.2.2.2+s.2.2.1+A.length
 | [],s,_=>by simp [cm2,Qk]
 | a::r,s,h=>by
  obtain ⟨ha,t,ht,htl⟩:=h a (by simp)
  have hr:=fun b hb=>h b (List.mem_cons_of_mem a hb)
  have hc:Qk ra l (a::r)=(if mO ra l[a]=true then 1 else 0)+Qk ra l r:=by
   unfold Qk
   rw [List.filter_cons]
   simp only [List.getElem?_eq_getElem ha]
   split
   · simp;omega
   · simp
  simp only [cm2,List.getElem?_eq_getElem ha]
  rw [hc]
  by_cases c:mO ra l[a]=true
  · rw [if_pos c,if_pos c]
    have:=DY tr ra l r (s.1++[⟨l[a].i.k,l[a].i.t,tr l[a]⟩],s.2) hr
    simp only [List.length_cons] at this ⊢
    push_cast
    omega
  · rw [if_neg c,if_neg c]
    have e2:rowAt s.2.1 l[a].i.t=s.2.1[t]:=by rw [ht];exact IV _ _ htl
    by_cases c2:(rowAt s.2.1 l[a].i.t).length=0
    · rw [if_pos c2]
      have:=DY tr ra l r (s.1++[⟨l[a].i.k,l[a].i.t,tr l[a]⟩],s.2.1,s.2.2.1,s.2.2.2+1) hr
      simp only [List.length_cons] at this ⊢
      push_cast
      omega
    · rw [if_neg c2]
      have e1:l[a].i.t.toNat=t:=by omega
      have h1:=Hf s.2.1 t htl (s.2.1[t].take (s.2.1[t].length - 1))
      rw [e2] at c2 ⊢
      rw [e1]
      have:=DY tr ra l r (s.1++[⟨l[a].i.k,l[a].i.t,tr l[a]⟩],s.2.1.set t (s.2.1[t].take (s.2.1[t].length - 1)),s.2.2.1+1,s.2.2.2) (fun b hb=>by simpa using hr b hb)
      simp only [List.length_cons,List.length_take] at this h1 ⊢
      push_cast
      omega
theorem Zy {ra:List Hd} (hr:(ra.map Hd.k).Nodup) {l:List En} (hn:(cO l).Nodup) {A:List Nat} (hA:∀ a ∈ A,a < l.length) (hAn:A.Nodup):Qk ra l A=(ra.filter fun x=>stF x l A).length:=by
 have h1:(stay ra l A).length=(ra.filter fun x=>stF x l A).length:=by simp [stay]
 rw [← h1]
 have h2:Qk ra l A=((A.filter fun a=>match l[a]? with | some e=>mO ra e | none=>false).map fun a=>(cO l)[a]?.getD 0).length:=by simp [Qk]
 rw [h2]
 refine List.Perm.length_eq ((List.perm_ext_iff_of_nodup ?_ ?_).2 ?_)
 · exact xQ hn _ (hAn.filter _) (fun a ha=>by have:=hA a (List.mem_filter.1 ha).1;simpa [cO] using this)
 · unfold stay
   exact List.Nodup.sublist ((List.filter_sublist).map _) hr
 · intro k
   rw [List.mem_map]
   constructor
   · rintro ⟨a,ha,rfl⟩
     obtain ⟨q1,q2⟩:=List.mem_filter.1 ha
     have hal:=hA a q1
     rw [List.getElem?_eq_getElem hal] at q2
     replace q2:mO ra l[a]=true:=q2
     have hk:(cO l)[a]?.getD 0=l[a].i.k:=by simp [cO,hal]
     rw [hk]
     rw [← xY hr hn hA q1 hal] at q2
     exact List.contains_iff_mem.1 q2
   · intro hk
     obtain ⟨x,hx,hxk⟩:=List.mem_map.1 hk
     obtain ⟨hx1,hx2⟩:=List.mem_filter.1 hx
     unfold stF at hx2
     obtain ⟨a,ha,hae⟩:=List.any_eq_true.1 hx2
     have hal:=hA a ha
     rw [List.getElem?_eq_getElem hal] at hae
     simp only [Bool.and_eq_true,decide_eq_true_eq] at hae
     have hka:l[a].i.k=k:=hae.1.trans hxk
     refine ⟨a,List.mem_filter.2 ⟨ha,?_⟩,by simp [cO,hal,hka]⟩
     rw [List.getElem?_eq_getElem hal]
     show mO ra l[a]=true
     rw [← xY hr hn hA ha hal,hka]
     exact List.contains_iff_mem.2 hk
theorem aek (tr:En→Nd) (ks:List Kd) {ra:List Hd} (hr:(ra.map Hd.k).Nodup) (W:List (List Hd)) {l:List En} (hn:(cO l).Nodup) {A:List Nat} (hA:∀ a ∈ A,a < l.length) (hAn:A.Nodup)
 (ht1:∀ x ∈ ra,∃ t:Nat,x.t=t∧t < W.length) (ht2:∀ x ∈ l,∃ t:Nat,x.i.t=t∧t < W.length) :
 (ra.length:Int)+fF W+(cmF tr ks ra W l A).2.2.2.1=(cmF tr ks ra W l A).1.length+fF (cmF tr ks ra W l A).2.1+(cmF tr ks ra W l A).2.2.2.2:=by
 have h1:=Dw ks l A ra (W,0) ht1
 have hwl:=KP ks l A ra (W,0)
 obtain ⟨h2,h3⟩:=DY tr ra l A ([],(cm1 ks l A ra (W,0)).1,0,0) (fun a ha=>⟨hA a ha,by simp only at hwl ⊢;rw [hwl];exact ht2 _ (List.getElem_mem _)⟩)
 have h4:=qP tr ra l A ([],(cm1 ks l A ra (W,0)).1,0,0) hA
 have h5:=congrArg List.length h4
 simp only [List.length_map,List.length_append,List.length_nil,Nat.zero_add] at h5
 have h6:=Zy hr hn hA hAn
 unfold cmF
 simp only at h1 h2 h3 ⊢
 rw [h5]
 omega
theorem ad2 {tr:En→Nd} {l:List En} {A:List Nat} {x:Hd} {y:Hd} (hy:y ∈ A.filterMap (Gg tr l)) (hk:x.k=y.k) (ht:x.t=y.t):stF x l A=true:=by
 obtain ⟨a,ha,hae⟩:=List.mem_filterMap.1 hy
 unfold Gg at hae
 cases h:l[a]? with
 | none=>rw [h] at hae;cases hae
 | some e =>
  rw [h] at hae
  cases hae
  unfold stF
  refine List.any_eq_true.2 ⟨a,ha,?_⟩
  rw [h]
  simp [hk,ht]
theorem zW (ks:List Kd) (l:List En) (A:List Nat):∀ (ra:List Hd) (s:List (List Hd) × Int),(∀ x ∈ ra,stF x l A=true)→cm1 ks l A ra s=s
 | [],s,_=>rfl
 | x::r,s,h=>by
  simp only [cm1,h x (by simp),if_true]
  exact zW ks l A r s (fun y hy=>h y (by simp [hy]))
theorem tK (tr:En→Nd) (ra:List Hd) (l:List En):∀ (A:List Nat) (s:List Hd × List (List Hd) × Int × Int),(∀ a ∈ A,∀ h:a < l.length,mO ra l[a]=true)→(cm2 tr ra l A s).2=s.2
 | [],s,_=>rfl
 | a::r,s,h=>by
  have hr:=fun b hb=>h b (List.mem_cons_of_mem a hb)
  simp only [cm2]
  cases q:l[a]? with
  | none=>exact tK tr ra l r s hr
  | some e =>
   obtain ⟨hal,rfl⟩:=List.getElem?_eq_some_iff.1 q
   simp only [h a (by simp) hal,if_true]
   exact tK tr ra l r _ hr
theorem Xx (tr:En→Nd) (ks:List Kd) {ra g:List Hd} {W W2:List (List Hd)} {l:List En} (hn:(cO l).Nodup) {A:List Nat} (hA:∀ a ∈ A,a < l.length)
 (hg:g.map (fun x=>(x.k,x.t))=((cmF tr ks ra W l A).1).map fun x=>(x.k,x.t)) (hgn:(g.map Hd.k).Nodup):cmF tr ks g W2 l A=((cmF tr ks ra W l A).1,W2,0,0,0):=by
 have e1:(cmF tr ks ra W l A).1=A.filterMap (Gg tr l):=by
  unfold cmF
  simp only [nT,List.nil_append]
 rw [e1] at hg ⊢
 have hst:∀ x ∈ g,stF x l A=true:=by
  intro x hx
  have:(x.k,x.t) ∈ g.map fun x=>(x.k,x.t):=List.mem_map.2 ⟨x,hx,rfl⟩
  rw [hg] at this
  obtain ⟨y,hy,hye⟩:=List.mem_map.1 this
  simp only [Prod.mk.injEq] at hye
  exact ad2 hy hye.1.symm hye.2.symm
 have hwas:∀ a ∈ A,∀ h:a < l.length,mO g l[a]=true:=by
  intro a ha hal
  rw [← xY hgn hn hA ha hal]
  refine List.contains_iff_mem.2 ?_
  have hm:(⟨l[a].i.k,l[a].i.t,tr l[a]⟩:Hd) ∈ A.filterMap (Gg tr l):=List.mem_filterMap.2 ⟨a,ha,by simp [Gg,hal]⟩
  have:(l[a].i.k,l[a].i.t) ∈ (A.filterMap (Gg tr l)).map fun x=>(x.k,x.t):=List.mem_map.2 ⟨_,hm,rfl⟩
  rw [← hg] at this
  obtain ⟨x,hx,hxe⟩:=List.mem_map.1 this
  simp only [Prod.mk.injEq] at hxe
  exact List.mem_map.2 ⟨x,List.mem_filter.2 ⟨hx,hst x hx⟩,hxe.1⟩
 unfold cmF
 simp only
 rw [zW ks l A g (W2,0) hst]
 have h1:=nT tr g l A ([],W2,0,0)
 have h2:=tK tr g l A ([],W2,0,0) hwas
 simp only [List.nil_append] at h1
 rw [h1,h2]
theorem PG {M:Nat}:∀ (l:List Hd),(∀ x ∈ l,cnt x.n≤M)→iP l≤M * l.length
 | [],_=>by simp [iP]
 | x::r,h=>by
  have h1:=PG r (fun y hy=>h y (by simp [hy]))
  have h2:=h x (by simp)
  simp only [iP,List.length_cons,Nat.mul_add,Nat.mul_one]
  omega
theorem PS {M:Nat}:∀ (L:List (List Hd)),(∀ w ∈ L,∀ x ∈ w,cnt x.n≤M)→kY L≤M * fF L
 | [],_=>by simp [kY]
 | w::r,h=>by
  have h1:=PS r (fun y hy=>h y (by simp [hy]))
  have h2:=PG w (h w (by simp))
  simp only [kY,fF,Nat.mul_add]
  omega
theorem Z7 {M:Nat} {L:List (List Hd)} (h:∀ w ∈ L,∀ x ∈ w,cnt x.n≤M):live L≤1+(fF L:Int) * M:=by
 have:=PS L h
 have h2:((M * fF L:Nat):Int)=(fF L:Int) * M:=by push_cast;exact Int.mul_comm _ _
 unfold live
 split <;> omega
theorem Qo:∀ ps:List Pl,tmD 0 ps=fF (ps.map (·.1))
 | []=>rfl
 | p::r=>by simp only [tmD,List.map_cons,fF,Qo r];omega
theorem Qr (f:Hd→Hd):∀ W:List (List Hd),fF (W.map fun w=>w.map f)=fF W
 | []=>rfl
 | w::r=>by simp only [List.map_cons,fF,List.length_map,Qr f r]
end Go.D
end
section
namespace Go.D
open Go Go.Pav Go.Pw P
attribute [-simp] List.getElem_cons_drop
variable {C:aJ}
theorem ai3 {ks:List Kd} {cap:Int} {a b:Hd} (h:hz a=hz b) (V:VH ks cap b):VH ks cap a:=by
 have hc:=RZ h
 simp only [hz,Prod.mk.injEq] at h
 obtain ⟨h1,h2,h3⟩:=h
 refine ⟨by rw [h1];exact V.k,by rw [h2];exact V.t,by rw [hc];exact V.c,?_⟩
 have e:∀ n:Nd,n.z.k=n.k∧n.z.t=n.t:=fun ⟨k,t,y,a,ae,x,ch,ce⟩=>by rw [Nd.z];exact ⟨rfl,rfl⟩
 rw [h2,← (e a.n).1,← (e a.n).2,h3,(e b.n).1,(e b.n).2]
 exact V.n
theorem OI:∀ {L L':List (List Hd)},L.map (fun w=>w.map hz)=L'.map (fun w=>w.map hz)→okL L=okL L'∧kY L=kY L'
 | [],[],_=>⟨rfl,rfl⟩
 | a::L,b::L',h=>by
  simp only [List.map_cons,List.cons.injEq] at h
  obtain ⟨h1,h2⟩:=Tc h.1
  obtain ⟨h3,h4⟩:=OI h.2
  exact ⟨by rw [oq,oq,h1,h3],by simp only [kY,h2,h4]⟩
 | [],_::_,h=>by simp at h
 | _::_,[],h=>by simp at h
theorem Qe {L L':List (List Hd)} (h:L.map (fun w=>w.map hz)=L'.map (fun w=>w.map hz)):live L=live L':=by
 obtain ⟨h1,h2⟩:=OI h
 unfold live
 rw [h1,h2]
abbrev kpW (W:List (List Hd)):List Pl:=W.map fun w=>(w.map fH,true)
theorem VE (W:List (List Hd)):(kpW W).map (·.1)=W.map fun w=>w.map fH:=by simp [kpW]
theorem FN (W:List (List Hd)):((kpW W).map fun p=>p.1.map hz)=W.map fun w=>w.map hz:=by
 rw [List.map_map]
 exact List.map_congr_left fun w _=>Dy w
structure CmO (C:aJ) (r:Int) (l:List En) (e:Bool) (ra:List Hd) (ea:Bool) (ps:List Pl) (pe:Bool) (A:List Nat) (f:Bool) (V1:List Hd) (W1 W2:List (List Hd)) (rb mk d lv:Int) (r1:List Hd) (e1:Bool) (p1:List Pl) (g1:Bool):Prop where
 want:FnW C 285 [.agg (cCf 100 1 1 (aA r) true 12 65536 0),aSt ra ea ps pe,.ro 6 (l.map eEn) e,.ro 1 (A.map eAt) f]=some (.tup [aSt r1 e1 p1 g1,aCn rb mk d lv,.int .i64 0])
 got:∀ nx,∃ Rv pb h1 n1,RnW C 5032 [.agg (cCf 100 1 1 (aA r) true 12 65536 0),aSt ra ea ps pe,aL l e,.ro 1 (A.map eAt) f] [] nx=some (.tup [.agg [Rv,.sl pb 1 0 3 3 true],aCn rb mk d lv,.int .i64 0],h1,n1)∧nx≤n1∧nx≤pb∧StO h1 nx n1 Rv pb V1 W1
 wl:W1.length=3∧W2.length=3
 s1:FnW C 286 [aSt (V1.map fH) true (kpW W1) true,aSt r1 e1 p1 g1]=some (.int .i64 1)
 ex:FnW C 287 [aSt (V1.map fH) true (kpW W1) true]=some (.int .i64 1)
 ck:FnW C 278 [.agg (cCf 100 1 1 (aA r) true 12 65536 0),aSt (V1.map fH) true (kpW W1) true]=some (.int .i64 0)
 pl:FnW C 288 [aSt ra ea ps pe]=some (.int .i64 (fF (ps.map (·.1)):Nat))∧FnW C 288 [aSt (V1.map fH) true (kpW W1) true]=some (.int .i64 (fF W1:Nat))
 lvg:FnW C 289 [aSt (V1.map fH) true (kpW W1) true]=some (.int .i64 lv)
 sum:(ra.length:Int)+(fF (ps.map (·.1)):Nat)+mk=V1.length+(fF W1:Nat)+d
 bds:ra.length≤12∧V1.length≤12∧fF (ps.map (·.1))≤300∧fF W1≤400∧0≤mk∧0≤d∧0≤lv∧lv≤60000∧mk≤1000∧d≤1000
 mx:lv≤1+((V1.length:Int)+(fF W1:Nat)) * 12
 again:∀ nx,∃ Rv pb h1 n1,RnW C 5032 [.agg (cCf 100 1 1 (aA r) true 12 65536 0),aSt (V1.map fH) true (kpW W1) true,aL l e,.ro 1 (A.map eAt) f] [] nx=some (.tup [.agg [Rv,.sl pb 1 0 3 3 true],aCn 0 0 0 lv,.int .i64 0],h1,n1)∧nx≤n1∧nx≤pb∧StO h1 nx n1 Rv pb V1 W2
 s2:FnW C 286 [aSt (V1.map fH) true (kpW W2) true,aSt (V1.map fH) true (kpW W1) true]=some (.int .i64 1)
 s3:FnW C 286 [aSt ra ea ps pe,aSt ra ea ps pe]=some (.int .i64 1)
 cn:∀ x ∈ V1,cnt x.n≠0
theorem ML (B:Nat):∀ W:List (List Hd),(∀ w ∈ W,w.length≤B)→fF W≤B * W.length
 | [],_=>by simp [fF]
 | w::r,h=>by
  have h1:=ML B r (fun x hx=>h x (by simp [hx]))
  have h2:=h w (by simp)
  simp only [fF,List.length_cons,Nat.mul_add,Nat.mul_one];omega
theorem aa9 (ks:List Kd) (l:List En) (A:List Nat):∀ (ra:List Hd) (s:List (List Hd) × Int),s.2≤(cm1 ks l A ra s).2∧(cm1 ks l A ra s).2≤s.2+ra.length
 | [],s=>by simp [cm1]
 | x::r,s=>by
  simp only [cm1,List.length_cons]
  have:=aa9 ks l A r (if stF x l A=true then s else if ((rowAt s.1 x.t).length:Int)=tX ks x.t then (s.1,s.2+1) else (s.1.set x.t.toNat (rowAt s.1 x.t++[x]),s.2))
  push_cast
  split at this
  · split <;> simp_all <;> omega
  · split at this <;> simp_all <;> omega
theorem Fq (tr:En→Nd) (ra:List Hd) (l:List En):∀ (A:List Nat) (s:List Hd × List (List Hd) × Int × Int),s.2.2.2≤(cm2 tr ra l A s).2.2.2∧(cm2 tr ra l A s).2.2.2≤s.2.2.2+A.length
 | [],s=>by simp [cm2]
 | a::r,s=>by
  simp only [cm2,List.length_cons]
  push_cast
  cases l[a]? with
  | none=>have:=Fq tr ra l r s;simp only;omega
  | some e =>
   simp only
   split
   · have:=Fq tr ra l r (s.1++[⟨e.i.k,e.i.t,tr e⟩],s.2);simp only at this ⊢;omega
   · split
     · have:=Fq tr ra l r (s.1++[⟨e.i.k,e.i.t,tr e⟩],s.2.1,s.2.2.1,s.2.2.2+1);simp only at this ⊢;omega
     · have:=Fq tr ra l r (s.1++[⟨e.i.k,e.i.t,tr e⟩],s.2.1.set e.i.t.toNat ((rowAt s.2.1 e.i.t).take ((rowAt s.2.1 e.i.t).length - 1)),s.2.2.1+1,s.2.2.2);simp only at this ⊢;omega
theorem Zv {a b:List Hd} (h:a.map hz=b.map hz):a.map Hd.k=b.map Hd.k:=by
 have h2:=congrArg (fun l=>l.map fun x:Int × Int × Nd=>x.1) h
 simp only [List.map_map] at h2
 exact h2
theorem Zp (H:Jk C) {r:Int} {l:List En} (L:LG r l) (hg:∀ x ∈ l,gu (aA r) x) (hn:(cO l).Nodup) (e:Bool) {ra:List Hd} {ps:List Pl} (S:OL 96 ra ps) (K:CkS (aA r) 12 ra ps) (ea pe:Bool) (A:List Nat) (f:Bool) (hA:A.length≤12) (hAl:∀ a ∈ A,a < l.length) (hAn:A.Nodup) (hri:∀ (i:Nat) (h:i+1 < A.length),A[i] < A[i+1]) :
 ∃ V1 W1 W2 rb mk d lv r1 e1 p1 g1,CmO C r l e ra ea ps pe A f V1 W1 W2 rb mk d lv r1 e1 p1 g1:=by
 have hk:(aA r).length=3:=rfl
 have R:=YC L hg hn S K A hA hAl hAn
 obtain ⟨z1,z2,z3,z4,z5,z6⟩:=VX L R
 have hrl:=S.rl
 have hpl:=S.pl
 have htyl:∀ x ∈ l,∃ t:Nat,x.i.t=t∧t < (aA r).length:=fun x hx=>⟨x.i.t.toNat,by have:=L.t x hx;omega,by have:=L.t x hx;omega⟩
 have htyr:∀ x ∈ ra,∃ t:Nat,x.t=t∧t < (aA r).length:=fun x hx=>by rw [hk];exact (S.q x hx).2
 obtain ⟨ps1,ea1,pe1,h1,h2⟩:=Gs H.toVa (trK (aA r)) 100 1 1 (aA r) true 12 65536 0 ra ea ps pe l e A f (by omega) hAl (by omega) (by rw [hpl];rfl) (by omega) (by omega)
  (fun p hp=>by have:=S.pb p hp;omega) htyl htyr (fun a ha=>IY H.toaan L e a ha)
 have hF:=aaQ H.toqU 100 1 1 (aA r) true 12 65536 0 (Cj r) (af6 r L.hr) (by omega) (Zc r) (by omega)
 have hC:=IW 100 1 1 (aA r) true 12 65536 0 H.toqU hF (by omega) (Zc r) ra ea ps pe K
 have hlc:=I5 H.toDl (aA r) true 12 (Cj r) l e (by have:=L.hl;omega) L.en
 rw [L.ck] at hlc
 have hwl:(cmF (trN (aA r)) (aA r) ra (ps.map (·.1)) l A).2.1.length=3:=by rw [z2];exact R.l2
 have hlvb:live ((cmF (trN (aA r)) (aA r) ra (ps.map (·.1)) l A).1::(cmF (trN (aA r)) (aA r) ra (ps.map (·.1)) l A).2.1)≤60000∧0≤live ((cmF (trN (aA r)) (aA r) ra (ps.map (·.1)) l A).1::(cmF (trN (aA r)) (aA r) ra (ps.map (·.1)) l A).2.1):=by rw [z3];have:=R.lv;omega
 have hpp:∀ (j:Nat) (w:List Hd),(ps.map (·.1))[j]?=some w→(w.length:Int)≤tX (aA r) j:=fun j w hw=>by
  rw [List.getElem?_map] at hw
  cases hq:ps[j]? with
  | none=>rw [hq] at hw;cases hw
  | some p=>rw [hq] at hw;obtain rfl:=Option.some.inj hw;exact (K.pv j p hq).1
 have hgot:=fun nx=>abI 100 1 1 (aA r) true 12 65536 0 ra ea ps pe l e H (trN (aA r)) A f hC hlc hri (by omega) hAl hAn hn (by have:=L.hl;omega) (by omega) K.rn (by rw [hpl];rfl) (by omega) (by omega) (fun p hp=>by have:=S.pb p hp;omega) hpp
  htyl htyr (fun a ha q=>Jm H.toaan L a ha q) ⟨by omega,z5⟩ (fun w hw=>by rw [z2] at hw;have:=z6 w hw;exact ⟨by omega,this.2⟩) (by omega) (by omega) nx
 have hsum:=aek (trN (aA r)) (aA r) K.rn (ps.map (·.1)) hn hAl hAn (fun x hx=>by rw [List.length_map,hpl];exact htyr x hx) (fun x hx=>by rw [List.length_map,hpl];exact htyl x hx)
 have hd0:=aa9 (aA r) l A ra (ps.map (·.1),0)
 have hm0:=Fq (trN (aA r)) ra l A ([],(cm1 (aA r) l A ra (ps.map (·.1),0)).1,0,0)
 have hm1:0≤(cmF (trN (aA r)) (aA r) ra (ps.map (·.1)) l A).2.2.2.1∧(cmF (trN (aA r)) (aA r) ra (ps.map (·.1)) l A).2.2.2.1≤12∧0≤(cmF (trN (aA r)) (aA r) ra (ps.map (·.1)) l A).2.2.2.2∧(cmF (trN (aA r)) (aA r) ra (ps.map (·.1)) l A).2.2.2.2≤12:=by
  unfold cmF
  simp only at hd0 hm0 ⊢
  omega
 rw [if_neg (by rw [← z3];omega)] at h2
 rw [← z3,← z2] at h2
 have z1':=z1
 have hv1:∀ x ∈ (cmF (trN (aA r)) (aA r) ra (ps.map (·.1)) l A).1,VH (aA r) 12 x:=fun x hx=>by
  obtain ⟨y,hy,e⟩:=Tm z1 x hx
  exact ai3 e (R.v1 y hy)
 have hnd:((cmF (trN (aA r)) (aA r) ra (ps.map (·.1)) l A).1.map Hd.k).Nodup:=by rw [Zv z1];exact R.n1
 have hpv:=R.v2
 have hb2:=R.b2
 rw [← z2] at hpv hb2 z6 h1
 have hag:=fun (g:List Hd) (W2:List (List Hd)) (q1:g.map (fun x=>(x.k,x.t))=((cmF (trN (aA r)) (aA r) ra (ps.map (·.1)) l A).1).map fun x=>(x.k,x.t)) (q2:(g.map Hd.k).Nodup)=>Xx (W2:=W2) (trN (aA r)) (aA r) hn hAl q1 q2
 clear z3 R
 generalize hU:(cmF (trK (aA r)) (aA r) ra (ps.map (·.1)) l A).1=U at *
 generalize cmF (trN (aA r)) (aA r) ra (ps.map (·.1)) l A=V at *
 obtain ⟨V1,W1,rb,mk,d⟩:=V
 simp only at *
 have hmaxc:∀ w ∈ V1::W1,∀ x ∈ w,cnt x.n≤12:=by
  intro w hw x hx
  rcases List.mem_cons.1 hw with rfl | hw
  · have:=(hv1 x hx).c.2;omega
  · obtain ⟨i,hi,rfl⟩:=List.mem_iff_getElem.1 hw
    have:=((hpv i _ (List.getElem?_eq_getElem hi)).2 x hx).1.c.2
    omega
 have hmx:=Z7 hmaxc
 obtain ⟨lv,hlv⟩:∃ lv,live (V1::W1)=lv:=⟨_,rfl⟩
 rw [hlv] at hlvb hmx h2 hgot
 have hkl:(kpW W1).length=3:=by simpa using hwl
 have K2:CkS (aA r) 12 (V1.map fH) (kpW W1):=by
  refine ⟨by simp;omega,fun h hh=>?_,?_,hkl,fun i p hp=>?_⟩
  · obtain ⟨x,hx,rfl⟩:=List.mem_map.1 hh
    exact Y6 (hv1 x hx)
  · rw [List.map_map];exact hnd
  · rw [List.getElem?_map] at hp
    cases hq:W1[i]? with
    | none=>rw [hq] at hp;cases hp
    | some w =>
     rw [hq] at hp
     obtain rfl:=Option.some.inj hp
     obtain ⟨q1,q2⟩:=hpv i w hq
     refine ⟨by simpa using q1,fun h hh=>?_⟩
     obtain ⟨x,hx,rfl⟩:=List.mem_map.1 hh
     exact ⟨Y6 (q2 x hx).1,(q2 x hx).2⟩
 have hpb:∀ p ∈ kpW W1,p.1.length≤108:=fun p hp=>by obtain ⟨w,hw,rfl⟩:=List.mem_map.1 hp;simpa using hb2 w hw
 obtain ⟨i1,i2,i3,i4⟩:=Ob K2 (fun p hp=>by have:=hpb p hp;omega)
 obtain ⟨j1,j2,j3,j4⟩:=Ob K (fun p hp=>by have:=S.pb p hp;omega)
 have hC2:=IW 100 1 1 (aA r) true 12 65536 0 H.toqU hF (by omega) (Zc r) (V1.map fH) true (kpW W1) true K2
 have t4:=X6 H.toPm (V1.map fH) (kpW W1) (by omega) (fun p hp=>by obtain ⟨w,_,rfl⟩:=List.mem_map.1 hp;rfl)
 have t6:=I8 H.toPm (V1.map fH) true (kpW W1) true (by omega) (fun p hp=>(i4 p hp).1)
 have t7:=I8 H.toPm ra ea ps pe (by omega) (fun p hp=>(j4 p hp).1)
 rw [Qo] at t6 t7
 rw [VE,Qr] at t6
 have t8:=Pn (V1.map fH) true (kpW W1) true H.toVw (by simp;omega) (fun p hp=>(i4 p hp).1) (by omega)
 have hl2:live (V1.map fH::(kpW W1).map (·.1))=lv:=by
  rw [← hlv]
  refine Qe ?_
  rw [List.map_cons,List.map_cons,Dy,List.map_map,← FN];rfl
 rw [hl2] at t8
 have e1:∀ X:List Pl,(X.map fun p=>p.1.map hz)=(X.map (·.1)).map fun w=>w.map hz:=fun X=>by rw [List.map_map];rfl
 have s1:=Bq H.tonY (V1.map fH) U true ea1 (kpW W1) ps1 true pe1 i1 (by omega) i2
 rw [if_pos (by rw [zI _ _ (by rw [Dy,z1']),zu _ _ (by rw [FN,e1,h1])];rfl)] at s1
 have s3:=Bq H.tonY ra ra ea ea ps ps pe pe j1 (by omega) j2
 rw [if_pos (by rw [zI _ _ rfl,zu _ _ rfl];rfl)] at s3
 have s2:=Bq H.tonY (V1.map fH) (V1.map fH) true true (kpW (W1.map fun w=>w.map fH)) (kpW W1) true true i1 (by simpa using (by omega:W1.length≤1000000)) (fun p hp=>by
  obtain ⟨w,hw,rfl⟩:=List.mem_map.1 hp
  obtain ⟨w0,hw0,rfl⟩:=List.mem_map.1 hw
  have hm:=i2 (w0.map fH,true) (List.mem_map.2 ⟨w0,hw0,rfl⟩)
  refine ⟨by simpa using hm.len,fun x hx=>?_⟩
  obtain ⟨y,hy,rfl⟩:=List.mem_map.1 hx
  have hy2:=(i4 (w0.map fH,true) (List.mem_map.2 ⟨w0,hw0,rfl⟩)).2 y hy
  exact J9 (BA (by simp only [fH];rw [U3];exact hy2)))
 rw [if_pos (by rw [zI _ _ rfl,zu _ _ (by rw [FN,FN,List.map_map];exact List.map_congr_left fun w _=>Dy w)];rfl)] at s2
 have hA2:=hag (V1.map fH) ((kpW W1).map (·.1)) (by rw [List.map_map];rfl) (by rw [List.map_map];exact hnd)
 have hlv2:live (V1::(kpW W1).map (·.1))=lv:=by
  rw [← hlv]
  refine Qe ?_
  rw [List.map_cons,List.map_cons,List.map_map,← FN];rfl
 have hagain:=fun nx=>abI 100 1 1 (aA r) true 12 65536 0 (V1.map fH) true (kpW W1) true l e H (trN (aA r)) A f hC2 hlc hri (by omega) hAl hAn hn (by have:=L.hl;omega) (by simp;omega) K2.rn (by rw [hkl];rfl) (by omega) (by omega) (fun p hp=>by have:=hpb p hp;omega)
  (fun j w hw=>by
   rw [List.getElem?_map] at hw
   cases hq:(kpW W1)[j]? with
   | none=>rw [hq] at hw;cases hw
   | some p=>rw [hq] at hw;obtain rfl:=Option.some.inj hw;exact (K2.pv j p hq).1)
  htyl (fun x hx=>by obtain ⟨t,q1,q2⟩:=(K2.rv x hx).t;exact ⟨t,q1,q2⟩) (fun a ha q=>Jm H.toaan L a ha q)
  (by rw [hA2];exact ⟨by simp only;omega,z5⟩) (by rw [hA2];intro w hw;obtain ⟨p,hp,rfl⟩:=List.mem_map.1 hw;exact i4 p hp) (by rw [hA2];simp;omega) (by rw [hA2];simp only;rw [hlv2];omega) nx
 rw [hA2] at hagain
 simp only [hlv2] at hagain
 have hs0:=ML 96 (ps.map (·.1)) (fun w hw=>by obtain ⟨p,hp,rfl⟩:=List.mem_map.1 hw;exact S.pb p hp)
 have hs1:=ML 108 W1 hb2
 have hsl:(ps.map (·.1)).length=3:=by simpa using hpl
 rw [hsl] at hs0
 rw [hwl] at hs1
 have hw3:((kpW W1).map (·.1)).length=3:=by simpa using hkl
 refine ⟨V1,W1,(kpW W1).map (·.1),rb,mk,d,lv,U,ea1,ps1,pe1,⟨h2,fun nx=>?_,⟨hwl,hw3⟩,s1,t4,hC2,⟨t7,t6⟩,t8,by omega,by omega,?_,fun nx=>?_,by rw [VE];exact s2,s3,z5⟩⟩
 · have:=hgot nx
   rw [hwl] at this
   exact this
 · simp only [fF] at hmx;push_cast at hmx ⊢;omega
 · have:=hagain nx
   rw [hw3] at this
   exact this
structure yT (C:aJ):Prop extends Jk C where
 f141:C.fns.get 141=some adM
def aaT (X:aI) (rb b16:Nat) (c:List AV):Prop :=
 ∃ k t a1 a2 a3 a4 a5 b m es dt,c=[k,t,a1,a2,a3,a4,a5,.sl b 6 0 m m true]∧50≤b∧b≠rb∧b≠b16∧Pav.get X b=some (.cells 6 es true dt)∧es.length=m∧(m≤1000000)∧∀ e ∈ es,∃ c0 c1 c2 c3 c4 c5:AV,e=[c0,c1,c2,c3,c4,c5]
structure LwF (o0 o10 o40:dG) (PV:AV) (rb b16 n:Nat) (X:aI):Prop where
 f0:Pav.get X 0=some o0
 f10:Pav.get X 10=some o10
 f40:Pav.get X 40=some o40
 f16:Pav.get X b16=some (.cells 2 [[.sl rb 8 0 n n true,PV]] true false)
 rows:∃ cs dt,Pav.get X rb=some (.cells 8 cs true dt)∧cs.length=n∧∀ c ∈ cs,aaT X rb b16 c
 ne:50≤rb∧50≤b16∧rb≠b16∧n≤1000000
theorem Yz {X:aI} {rb b16:Nat} {c:List AV} (R:aaT X rb b16 c) {cs:List (List AV)} {dt:Bool}:aaT (put X rb (.cells 8 cs true dt)) rb b16 c:=by
 obtain ⟨k,t,a1,a2,a3,a4,a5,b,m,es,dt',h1,h2,h3,h4,h5,h6,h7,h8⟩:=R
 exact ⟨k,t,a1,a2,a3,a4,a5,b,m,es,dt',h1,h2,h3,h4,by rw [aj (Ne.symm h3)];exact h5,h6,h7,h8⟩
theorem XR {X:aI} {rb b16 b:Nat} {c:List AV} (R:aaT X rb b16 c) {es:List (List AV)} {dt:Bool} (m:Nat) (hm:m≤1000000) (hl:es.length=m) (he:∀ e ∈ es,∃ c0 c1 c2 c3 c4 c5:AV,e=[c0,c1,c2,c3,c4,c5]) {es0:List (List AV)} {dt0:Bool} (h0:Pav.get X b=some (.cells 6 es0 true dt0)) (hl0:es0.length=m):aaT (put X b (.cells 6 es true dt)) rb b16 c:=by
 obtain ⟨k,t,a1,a2,a3,a4,a5,b',m',es',dt',h1,h2,h3,h4,h5,h6,h7,h8⟩:=R
 by_cases q:b=b'
 · subst q
   rw [h0] at h5
   cases h5
   exact ⟨k,t,a1,a2,a3,a4,a5,b,m',es,dt,h1,h2,h3,h4,ak ..,by omega,h7,he⟩
 · exact ⟨k,t,a1,a2,a3,a4,a5,b',m',es',dt',h1,h2,h3,h4,by rw [aj q];exact h5,h6,h7,h8⟩
theorem YE (H:yT C) (o0 o10 o40:dG) (PV v13:AV) (rb b16 n:Nat) (i:Nat) (hi:i < n):∀ (m M k:Nat),m+k=M→∀ (X:aI) (next:Nat),LwF o0 o10 o40 PV rb b16 n X →
 (∃ cs dt c k t a1 a2 a3 a4 a5 b,Pav.get X rb=some (.cells 8 cs true dt)∧cs[i]?=some c∧c=[k,t,a1,a2,a3,a4,a5,.sl b 6 0 M M true]) →
 ∃ X' n',LwF o0 o10 o40 PV rb b16 n X'∧next≤n' ∧
 CK C 0 (aP [.tmp 4]) [.sq DI,.bk 2 ⟨true,[19,16,13,10,6,2],[(9999,65537)]⟩,.bk 1 ⟨true,[19,16,13,10,6,2],[(9999,65537)]⟩,.sq D9,.sq nK,.bk 0 ⟨true,[13,10,6,2],[(9999,65537)]⟩,.sq iY] wG
  ⟨[(20,.int .i64 k),(19,.int .i64 i),(16,.ptr b16 0 0),(13,v13),(10,.ptr 40 0 0),(6,.ptr 10 0 0),(2,.ptr 0 0 0)],X,next⟩ =
 CK C 0 (aP [.tmp 4]) [.sq nK,.bk 0 ⟨true,[13,10,6,2],[(9999,65537)]⟩,.sq iY] lT
  ⟨[(19,.int .i64 (i+1:Nat)),(16,.ptr b16 0 0),(13,v13),(10,.ptr 40 0 0),(6,.ptr 10 0 0),(2,.ptr 0 0 0)],X',n'⟩:=by
 intro m
 induction m with
 | zero =>
  intro M k hk X next F hc
  have ne:=F.ne
  obtain ⟨cs,dt,c,k',t,a1,a2,a3,a4,a5,b,g,hci,rfl⟩:=hc
  have c1:¬ k < M:=by omega
  have hil:i < cs.length:=(List.getElem?_eq_some_iff.1 hci).1
  have hcg:cs[i]=[k',t,a1,a2,a3,a4,a5,.sl b 6 0 M M true]:=by rw [List.getElem?_eq_getElem hil] at hci;exact Option.some.inj hci
  refine ⟨X,next+13,F,by omega,?_⟩
  rw [au wG.eq_1]
  simp (disch:=omega) [F.f16,g,hi,hil,hcg,c1,au D9.eq_1,aN]
 | succ m ih =>
  intro M k hk X next F hc
  have ne:=F.ne
  obtain ⟨cs,dt,c,k',t,a1,a2,a3,a4,a5,b,g,hci,rfl⟩:=hc
  have c1:k < M:=by omega
  have hil:i < cs.length:=(List.getElem?_eq_some_iff.1 hci).1
  have hcg:cs[i]=[k',t,a1,a2,a3,a4,a5,.sl b 6 0 M M true]:=by rw [List.getElem?_eq_getElem hil] at hci;exact Option.some.inj hci
  obtain ⟨cs',dt',g',hl',hr⟩:=F.rows
  rw [g] at g'
  cases g'
  obtain ⟨q1,q2,q3,q4,q5,q6,q7,b',m',es,dt2,e1,e2,e3,e4,e5,e6,e7,e8⟩:=hr _ (List.getElem_mem hil)
  rw [hcg] at e1
  simp only [List.cons.injEq,AV.sl.injEq] at e1
  obtain ⟨rfl,rfl,rfl,rfl,rfl,rfl,rfl,⟨rfl,_,_,rfl,_⟩,_⟩:=e1
  have hkl:k < es.length:=by omega
  obtain ⟨c0,d1,d2,d3,d4,d5,he⟩:=e8 _ (List.getElem_mem hkl)
  have F2:∀ dt3,LwF o0 o10 o40 PV rb b16 n (put X b (.cells 6 (es.set k [c0,d1,d2,d3,.str [111,116,104,101,114],d5]) true dt3)):=by
   intro dt3
   refine ⟨by rw [aj (by omega)];exact F.f0,by rw [aj (by omega)];exact F.f10,by rw [aj (by omega)];exact F.f40,by rw [aj e4];exact F.f16,⟨cs,dt,by rw [aj e3];exact g,hl',fun c hc=>XR (hr c hc) M e7 (by simp;omega) (fun x hx=>?_) e5 e6⟩,ne⟩
   rcases List.mem_or_eq_of_mem_set hx with q | q
   · exact e8 x q
   · exact ⟨_,_,_,_,_,_,q⟩
  have ihx:=fun dt3 nx=>ih M (k+1) (by omega) (put X b (.cells 6 (es.set k [c0,d1,d2,d3,.str [111,116,104,101,114],d5]) true dt3)) nx (F2 dt3) ⟨cs,dt,_,k',t,a1,a2,a3,a4,a5,b,by rw [aj e3];exact g,hci,rfl⟩
  obtain ⟨X',n',z1,z0,z2⟩:=ihx dt2 (next+24)
  refine ⟨X',n',z1,by omega,?_⟩
  rw [← z2,au wG.eq_1]
  simp (disch:=omega) [F.f16,g,hi,hil,hcg,c1,aN,e5,hkl,he]
theorem aao (H:yT C) (o0 o10 o40:dG) (PV v13:AV) (rb b16 n:Nat):∀ (m i:Nat),m+i=n→∀ (X:aI) (next:Nat),LwF o0 o10 o40 PV rb b16 n X →
 ∃ X' n',LwF o0 o10 o40 PV rb b16 n X'∧next≤n' ∧
 CK C 0 (aP [.tmp 4]) [.sq nK,.bk 0 ⟨true,[13,10,6,2],[(9999,65537)]⟩,.sq iY] lT
  ⟨[(19,.int .i64 i),(16,.ptr b16 0 0),(13,v13),(10,.ptr 40 0 0),(6,.ptr 10 0 0),(2,.ptr 0 0 0)],X,next⟩ =
 CK C 0 (aP [.tmp 4]) [] iY ⟨[(13,v13),(10,.ptr 40 0 0),(6,.ptr 10 0 0),(2,.ptr 0 0 0)],X',n'⟩:=by
 intro m
 induction m with
 | zero =>
  intro i hi X next F
  have ne:=F.ne
  have c1:¬ i < n:=by omega
  refine ⟨X,next+5,F,by omega,?_⟩
  rw [au lT.eq_1]
  simp (disch:=omega) [F.f16,c1]
 | succ m ih =>
  intro i hi X next F
  have ne:=F.ne
  have c1:i < n:=by omega
  obtain ⟨cs,dt,g,hl,hr⟩:=F.rows
  have hil:i < cs.length:=by omega
  obtain ⟨k',t,a1,a2,a3,a4,a5,b,M,es,dt2,e1,e2,e3,e4,e5,e6,e7,e8⟩:=hr _ (List.getElem_mem hil)
  have F2:∀ dt3,LwF o0 o10 o40 PV rb b16 n (put X rb (.cells 8 (cs.set i [k',t,a1,.str [111,116,104,101,114],a3,a4,a5,.sl b 6 0 M M true]) true dt3)):=by
   intro dt3
   refine ⟨by rw [aj (by omega)];exact F.f0,by rw [aj (by omega)];exact F.f10,by rw [aj (by omega)];exact F.f40,by rw [aj (by omega)];exact F.f16,⟨_,dt3,ak ..,by simp;omega,fun c hc=>?_⟩,ne⟩
   rcases List.mem_or_eq_of_mem_set hc with q | q
   · exact Yz (hr c q)
   · subst q
     exact ⟨_,_,_,_,_,_,_,b,M,es,dt2,rfl,e2,e3,e4,by rw [aj (Ne.symm e3)];exact e5,e6,e7,e8⟩
  have key:∀ dt3 nx,∃ X' n',LwF o0 o10 o40 PV rb b16 n X'∧nx≤n' ∧
   CK C 0 (aP [.tmp 4]) [.sq DI,.bk 2 ⟨true,[19,16,13,10,6,2],[(9999,65537)]⟩,.bk 1 ⟨true,[19,16,13,10,6,2],[(9999,65537)]⟩,.sq D9,.sq nK,.bk 0 ⟨true,[13,10,6,2],[(9999,65537)]⟩,.sq iY] wG
    ⟨[(20,.int .i64 (0:Nat)),(19,.int .i64 i),(16,.ptr b16 0 0),(13,v13),(10,.ptr 40 0 0),(6,.ptr 10 0 0),(2,.ptr 0 0 0)],put X rb (.cells 8 (cs.set i [k',t,a1,.str [111,116,104,101,114],a3,a4,a5,.sl b 6 0 M M true]) true dt3),nx⟩ =
   CK C 0 (aP [.tmp 4]) [] iY ⟨[(13,v13),(10,.ptr 40 0 0),(6,.ptr 10 0 0),(2,.ptr 0 0 0)],X',n'⟩:=by
   intro dt3 nx
   obtain ⟨X1,n1,z1,z5,z2⟩:=YE H o0 o10 o40 PV v13 rb b16 n i c1 M M 0 (by simp) _ nx (F2 dt3) ⟨_,dt3,_,k',t,a1,_,a3,a4,a5,b,ak ..,List.getElem?_set_self hil,rfl⟩
   obtain ⟨X2,n2,z3,z6,z4⟩:=ih (i+1) (by omega) X1 n1 z1
   exact ⟨X2,n2,z3,by omega,z2.trans z4⟩
  obtain ⟨X',n',z1,z5,z2⟩:=key dt (next+13)
  refine ⟨X',n',z1,by omega,?_⟩
  rw [← z2,au lT.eq_1]
  simp (disch:=omega) [F.f16,g,c1,hil,e1,aN]
theorem ahM (H:yT C) (PV v13:AV) (b16:Nat) (X:aI) (next:Nat) (f16:Pav.get X b16=some (.cells 2 [[.ro 8 [] true,PV]] true false)):∃ n',next≤n' ∧
 CK C 0 (aP [.tmp 4]) [.sq nK,.bk 0 ⟨true,[13,10,6,2],[(9999,65537)]⟩,.sq iY] lT
  ⟨[(19,.int .i64 0),(16,.ptr b16 0 0),(13,v13),(10,.ptr 40 0 0),(6,.ptr 10 0 0),(2,.ptr 0 0 0)],X,next⟩ =
 CK C 0 (aP [.tmp 4]) [] iY ⟨[(13,v13),(10,.ptr 40 0 0),(6,.ptr 10 0 0),(2,.ptr 0 0 0)],X,n'⟩:=by
 refine ⟨next+5,by omega,?_⟩
 rw [au lT.eq_1]
 simp (disch:=omega) [f16]
theorem aaX (H:yT C) (hl:FnW C 145 []=some (.bool true)) (q1 q2:List Q4) (e1 e2:Bool) (z1 z2:List Int) (f1 f2:Bool) (r r2:Int) (w:List (Int × Int)) (we:Bool) {ks:List Kd} {ra:List Hd} {ea:Bool} {ps:List Pl} {pe:Bool} (R1 R2:List En) (g1 g2:Bool)
 (ha:FnW C 283 [.agg [.ro 4 (q1.map eQ) e1,.ro 1 (z1.map eU8) f1,.int .u8 r,.ro 4 (q2.map eQ) e2,.ro 1 (z2.map eU8) f2,.int .u8 r2,.ro 2 (w.map eW) we]]=some (.tup [.agg (cCf 100 1 1 ks true 12 65536 0),aSt ra ea ps pe,.agg [.ro 6 (R1.map eEn) g1,.ro 6 (R2.map eEn) g2]]))
 {G r1:List Hd} {P2 p1:List Pl} {x1 y1:Bool} (t1:FnW C 286 [aSt G true P2 true,aSt r1 x1 p1 y1]=some (.int .i64 1)) (t2:FnW C 286 [aSt ra ea ps pe,aSt ra ea ps pe]=some (.int .i64 1))
 (X:aI) (n:Nat) (hn:50≤n) (f0:Pav.get X 0=some (.cells 7 [[.ro 4 (q1.map eQ) e1,.ro 1 (z1.map eU8) f1,.int .u8 r,.ro 4 (q2.map eQ) e2,.ro 1 (z2.map eU8) f2,.int .u8 r2,.ro 2 (w.map eW) we]] true true)) (f10:Pav.get X 10=some (.cells 2 [[.ro 8 (ra.map eHd) ea,.ro 1 (ps.map ePl) pe]] true true)) (f40:Pav.get X 40=some (.cells 2 [[.ro 8 (r1.map eHd) x1,.ro 1 (p1.map ePl) y1]] true true)) :
 CK C 0 (aP [.tmp 4]) [] iY ⟨[(13,.rop [.ro 8 (G.map eHd) true,.ro 1 (P2.map ePl) true]),(10,.ptr 40 0 0),(6,.ptr 10 0 0),(2,.ptr 0 0 0)],X,n⟩=some (.bool true):=by
 rw [au iY.eq_1]
 simp (disch:=omega) [f0,f10,f40,ha,t1,t2,hl,H.toQi.inl,aH,H.toQi.pp,ppB,ak,aj,aN]
theorem TB (H:yT C) (hl:FnW C 145 []=some (.bool true)) (q1 q2:List Q4) (e1 e2:Bool) (z1 z2:List Int) (f1 f2:Bool) (r r2:Int) (w:List (Int × Int)) (we:Bool) {ks:List Kd} {ra:List Hd} {ea:Bool} {ps:List Pl} {pe:Bool} (R1 R2:List En) (g1 g2:Bool)
 (ha:FnW C 283 [.agg [.ro 4 (q1.map eQ) e1,.ro 1 (z1.map eU8) f1,.int .u8 r,.ro 4 (q2.map eQ) e2,.ro 1 (z2.map eU8) f2,.int .u8 r2,.ro 2 (w.map eW) we]]=some (.tup [.agg (cCf 100 1 1 ks true 12 65536 0),aSt ra ea ps pe,.agg [.ro 6 (R1.map eEn) g1,.ro 6 (R2.map eEn) g2]]))
 {G r1:List Hd} {P2 p1:List Pl} {x1 y1:Bool} (t1:FnW C 286 [aSt G true P2 true,aSt r1 x1 p1 y1]=some (.int .i64 1)) (t2:FnW C 286 [aSt ra ea ps pe,aSt ra ea ps pe]=some (.int .i64 1))
 (X:aI) (n:Nat) (hn:50≤n) (f0:Pav.get X 0=some (.cells 7 [[.ro 4 (q1.map eQ) e1,.ro 1 (z1.map eU8) f1,.int .u8 r,.ro 4 (q2.map eQ) e2,.ro 1 (z2.map eU8) f2,.int .u8 r2,.ro 2 (w.map eW) we]] true true)) (f10:Pav.get X 10=some (.cells 2 [[.ro 8 (ra.map eHd) ea,.ro 1 (ps.map ePl) pe]] true true)) (f40:Pav.get X 40=some (.cells 2 [[.ro 8 (r1.map eHd) x1,.ro 1 (p1.map ePl) y1]] true true)) (PV:AV) (b16:Nat) (f16:Pav.get X b16=some (.cells 2 [[.ro 8 [] true,PV]] true false)) :
 CK C 0 (aP [.tmp 4]) [.sq nK,.bk 0 ⟨true,[13,10,6,2],[(9999,65537)]⟩,.sq iY] lT
  ⟨[(19,.int .i64 0),(16,.ptr b16 0 0),(13,.rop [.ro 8 (G.map eHd) true,.ro 1 (P2.map ePl) true]),(10,.ptr 40 0 0),(6,.ptr 10 0 0),(2,.ptr 0 0 0)],X,n⟩=some (.bool true):=by
 obtain ⟨n',k1,k2⟩:=ahM H PV (.rop [.ro 8 (G.map eHd) true,.ro 1 (P2.map ePl) true]) b16 X n f16
 rw [k2]
 exact aaX H hl q1 q2 e1 e2 z1 z2 f1 f2 r r2 w we R1 R2 g1 g2 ha t1 t2 X n' (by omega) f0 f10 f40
theorem ahf (H:yT C) (hl:FnW C 145 []=some (.bool true)) (q1 q2:List Q4) (e1 e2:Bool) (z1 z2:List Int) (f1 f2:Bool) (r r2:Int) (w:List (Int × Int)) (we:Bool) {ks:List Kd} {ra:List Hd} {ea:Bool} {ps:List Pl} {pe:Bool} (R1 R2:List En) (g1 g2:Bool)
 (ha:FnW C 283 [.agg [.ro 4 (q1.map eQ) e1,.ro 1 (z1.map eU8) f1,.int .u8 r,.ro 4 (q2.map eQ) e2,.ro 1 (z2.map eU8) f2,.int .u8 r2,.ro 2 (w.map eW) we]]=some (.tup [.agg (cCf 100 1 1 ks true 12 65536 0),aSt ra ea ps pe,.agg [.ro 6 (R1.map eEn) g1,.ro 6 (R2.map eEn) g2]]))
 {G r1:List Hd} {P2 p1:List Pl} {x1 y1:Bool} (t1:FnW C 286 [aSt G true P2 true,aSt r1 x1 p1 y1]=some (.int .i64 1)) (t2:FnW C 286 [aSt ra ea ps pe,aSt ra ea ps pe]=some (.int .i64 1))
 (X:aI) (n:Nat) (hn:50≤n) (f0:Pav.get X 0=some (.cells 7 [[.ro 4 (q1.map eQ) e1,.ro 1 (z1.map eU8) f1,.int .u8 r,.ro 4 (q2.map eQ) e2,.ro 1 (z2.map eU8) f2,.int .u8 r2,.ro 2 (w.map eW) we]] true true)) (f10:Pav.get X 10=some (.cells 2 [[.ro 8 (ra.map eHd) ea,.ro 1 (ps.map ePl) pe]] true true)) (f40:Pav.get X 40=some (.cells 2 [[.ro 8 (r1.map eHd) x1,.ro 1 (p1.map ePl) y1]] true true)) (PV:AV) (b16 rb lo hi:Nat) (V1:List Hd) (cs:List (List AV)) (hlo:50≤rb) (hb16:hi≤b16) (hrb:rb < hi) (f16:Pav.get X b16=some (.cells 2 [[.sl rb 8 0 V1.length V1.length true,PV]] true false))
 (g:Pav.get X rb=some (.cells 8 cs true false)) (R:uH X (rb+1) hi cs V1) (hV:V1.length≤1000000) (hcn:∀ x ∈ V1,cnt x.n≠0) :
 CK C 0 (aP [.tmp 4]) [.sq nK,.bk 0 ⟨true,[13,10,6,2],[(9999,65537)]⟩,.sq iY] lT
  ⟨[(19,.int .i64 0),(16,.ptr b16 0 0),(13,.rop [.ro 8 (G.map eHd) true,.ro 1 (P2.map ePl) true]),(10,.ptr 40 0 0),(6,.ptr 10 0 0),(2,.ptr 0 0 0)],X,n⟩=some (.bool true):=by
 have F:LwF (.cells 7 [[.ro 4 (q1.map eQ) e1,.ro 1 (z1.map eU8) f1,.int .u8 r,.ro 4 (q2.map eQ) e2,.ro 1 (z2.map eU8) f2,.int .u8 r2,.ro 2 (w.map eW) we]] true true) (.cells 2 [[.ro 8 (ra.map eHd) ea,.ro 1 (ps.map ePl) pe]] true true) (.cells 2 [[.ro 8 (r1.map eHd) x1,.ro 1 (p1.map ePl) y1]] true true) PV rb b16 V1.length X:=by
  refine ⟨f0,f10,f40,f16,⟨cs,false,g,R.len,fun c hc=>?_⟩,by omega⟩
  obtain ⟨i,hi',rfl⟩:=List.mem_iff_getElem.1 hc
  have hil:i < V1.length:=by rw [← R.len];exact hi'
  obtain ⟨b,m1,m2,m3,m4⟩:=R.row i V1[i] (List.getElem?_eq_getElem hil)
  rw [List.getElem?_eq_getElem hi'] at m3
  rw [Option.some.inj m3]
  have hch:V1[i].n.ch.length≤16:=by
   cases BA (hcn _ (List.getElem_mem hil)) with
   | mk _ hc h1 h2 h=>exact h2
  refine ⟨_,_,_,_,_,_,_,b,_,_,true,rfl,by omega,by omega,by omega,m4,by simp,by omega,fun e he=>?_⟩
  obtain ⟨x,hx,rfl⟩:=List.mem_map.1 he
  exact ⟨_,_,_,_,_,_,Nd.bZ x⟩
 obtain ⟨X',n',z3,k1,k2⟩:=aao H _ _ _ PV (.rop [.ro 8 (G.map eHd) true,.ro 1 (P2.map ePl) true]) rb b16 V1.length V1.length 0 (by simp) X n F
 exact k2.trans (aaX H hl q1 q2 e1 e2 z1 z2 f1 f2 r r2 w we R1 R2 g1 g2 ha t1 t2 X' n' (by omega) z3.f0 z3.f10 z3.f40)
def Dh (h:aI) (b:Nat):aI:=bP h (aW h (aT h aF (.ptr b 0 0)))
theorem acf {H:aI} {bx pb lo hi k:Nat} {Rv:AV} {V1:List Hd} {W1:List (List Hd)} (h2:Pav.get H bx=some (.cells 2 [[Rv,.sl pb 1 0 k k true]] true false)) (h3:StO H lo hi Rv pb V1 W1) (hk:k=W1.length) (n:Nat) :
 bD H (n+6) (.ptr bx 0 0)=some (.rop [.ro 8 ((V1.map fH).map eHd) true,.ro 1 ((kpW W1).map ePl) true]):=by
 obtain ⟨cs,dt,h4,h5,h6⟩:=h3.pool
 rw [abd,h2]
 simp only [ade,List.getElem?_cons_zero,ob,List.drop_zero,aX,h3.rows.frz (n+2),h5.frz h4 h6 (n+1) k hk,om]
 simp [ePl]
theorem Xc {E:Env} {H:aI} {n bx pb lo hi k:Nat} {Rv:AV} {V1:List Hd} {W1:List (List Hd)} (h2:Pav.get H bx=some (.cells 2 [[Rv,.sl pb 1 0 k k true]] true false)) (h3:StO H lo hi Rv pb V1 W1) (hk:k=W1.length) (h1:Pav.get E 13=some (.ptr bx 0 0)) :
 qH 13 ⟨E,H,n⟩=some ⟨eH E (some 13) (.rop [.ro 8 ((V1.map fH).map eHd) true,.ro 1 ((kpW W1).map ePl) true]),Dh H bx,n⟩:=by
 unfold qH
 simp only [h1,ob]
 have:=acf h2 h3 hk 10
 rw [show aF=10+6 from rfl,this]
 rfl
theorem YP {h:aI} {b:Nat}:∀ (L:List Nat) (h':aI),b ∉ L→Pav.get (bP h' (aW h L)) b=Pav.get h' b:=by
 intro L
 induction L with
 | nil=>intro h' _;rfl
 | cons c L ih =>
  intro h' hb
  simp only [List.mem_cons,not_or] at hb
  unfold aW
  split
  · simp only [bP,AB]
    rw [ih _ hb.2,aj (Ne.symm hb.1)]
  · exact ih _ hb.2
theorem Xw {h:aI} {x:Hd} {b:Nat} (hg:Pav.get h b=some (Ry x.n)) (n:Nat):∀ c ∈ (AV.int .u64 x.k::.int .u8 x.t::yc x.n b).flatMap (aT h (n+1)),c=b:=by
 intro c hc
 simp [aT,hg] at hc
 exact hc
theorem wS.reach {h:aI} {lo hi:Nat} {v:AV} {l:List Hd} (R:wS h lo hi v l) (n:Nat):∀ c ∈ aT h (n+2) v,lo≤c∧c < hi:=by
 intro c hc
 rcases R with ⟨rfl,rfl⟩ | ⟨_,rb,cs,rfl,k1,k2,g,R⟩
 · simp [aT] at hc
 · unfold aT at hc
   simp only [g,Bool.false_eq_true,if_false] at hc
   rcases List.mem_cons.1 hc with rfl | hc
   · exact ⟨k1,k2⟩
   · obtain ⟨e,he,hce⟩:=List.mem_flatMap.1 hc
     have he2:e ∈ cs:=List.mem_of_mem_drop (List.mem_of_mem_take he)
     obtain ⟨i,hi',rfl⟩:=List.mem_iff_getElem.1 he2
     have hil:i < l.length:=by rw [← R.len];exact hi'
     obtain ⟨b,m1,m2,m3,m4⟩:=R.row i l[i] (List.getElem?_eq_getElem hil)
     rw [List.getElem?_eq_getElem hi'] at m3
     rw [Option.some.inj m3] at hce
     have:=Xw m4 n c hce
     omega
theorem aai {H:aI} {bx pb lo hi k:Nat} {Rv:AV} {V1:List Hd} {W1:List (List Hd)} (h2:Pav.get H bx=some (.cells 2 [[Rv,.sl pb 1 0 k k true]] true false)) (h3:StO H lo hi Rv pb V1 W1) (hpb:lo≤pb) {b:Nat} (hb:b≠bx) (hb2:b < lo∨hi≤b):Pav.get (Dh H bx) b=Pav.get H b:=by
 unfold Dh
 refine YP _ _ fun hc=>?_
 obtain ⟨cs,dt,h4,h5,h6⟩:=h3.pool
 have hbd:=h3.bd
 rw [show aF=14+2 from rfl] at hc
 unfold aT at hc
 simp only [h2,Bool.false_eq_true,if_false,List.getElem?_cons_zero,Option.getD_some,List.drop_zero] at hc
 rcases List.mem_cons.1 hc with q | hc
 · exact hb q
 · simp only [List.flatMap_cons,List.flatMap_nil,List.append_nil] at hc
   rcases List.mem_append.1 hc with hc | hc
   · have:=h3.rows.reach 13 b hc;omega
   · unfold aT at hc
     simp only [h4] at hc
     rcases List.mem_cons.1 hc with q | hc
     · omega
     · cases dt with
       | true=>simp at hc
       | false =>
        simp only [Bool.false_eq_true,if_false] at hc
        obtain ⟨e,he,hce⟩:=List.mem_flatMap.1 hc
        have he2:e ∈ cs:=List.mem_of_mem_drop (List.mem_of_mem_take he)
        obtain ⟨i,hi',rfl⟩:=List.mem_iff_getElem.1 he2
        have hil:i < W1.length:=by rw [← h5.len];exact hi'
        obtain ⟨v,m1,m2⟩:=h5.row i W1[i] (List.getElem?_eq_getElem hil)
        rw [List.getElem?_eq_getElem hi'] at m1
        rw [Option.some.inj m1] at hce
        simp only [List.flatMap_cons,List.flatMap_nil,List.append_nil] at hce
        have:=m2.reach 12 b hce;omega
theorem U9 (H:yT C) (hl:FnW C 145 []=some (.bool true)) (q1 q2:List Q4) (e1 e2:Bool) (z1 z2:List Int) (f1 f2:Bool) (r r2:Int) (hr:0≤r∧r≤255) (w:List (Int × Int)) (we:Bool) (a b:Nat) (hb:b≤65535)
 {ra:List Hd} {ea:Bool} {ps:List Pl} {pe:Bool} (R1 R2:List En) (g1 g2:Bool)
 (ha:FnW C 283 [.agg [.ro 4 (q1.map eQ) e1,.ro 1 (z1.map eU8) f1,.int .u8 r,.ro 4 (q2.map eQ) e2,.ro 1 (z2.map eU8) f2,.int .u8 r2,.ro 2 (w.map eW) we]]=some (.tup [.agg (cCf 100 1 1 (aA r) true 12 65536 0),aSt ra ea ps pe,.agg [.ro 6 (R1.map eEn) g1,.ro 6 (R2.map eEn) g2]]))
 (A:List Nat) (f:Bool) {V1:List Hd} {W1 W2:List (List Hd)} {rb mk d lv:Int} {r1:List Hd} {x1:Bool} {p1:List Pl} {y1:Bool}
 {l:List En} {g:Bool} (hsel:((a:Int).tmod 2=0∧R1=l∧g1=g)∨((a:Int).tmod 2=1∧R2=l∧g2=g)) (hb2:FnW C 284 [.int .u16 b,.int .i64 l.length]=some (.ro 1 (A.map eAt) f)) (M:CmO C r l g ra ea ps pe A f V1 W1 W2 rb mk d lv r1 x1 p1 y1) :
 FnW C 141 [.agg [.ro 4 (q1.map eQ) e1,.ro 1 (z1.map eU8) f1,.int .u8 r,.ro 4 (q2.map eQ) e2,.ro 1 (z2.map eU8) f2,.int .u8 r2,.ro 2 (w.map eW) we],.agg [.int .u16 a,.int .u16 b]]=some (.bool true):=by
 have t1:=M.want
 have tag:=M.again
 have ts2:=M.s2
 have ts3:=M.s3
 have s1:=M.s1
 have tex:=M.ex
 have tck:=M.ck
 obtain ⟨pl1,pl2⟩:=M.pl
 have tlv:=M.lvg
 have bds:=M.bds
 have hsum:=M.sum
 have hmx:=M.mx
 have w1:IntKind.i64.wrap ((ra.length:Int)+(fF (ps.map (·.1)):Nat))=(ra.length:Int)+(fF (ps.map (·.1)):Nat):=aN (by omega) (by omega)
 have w2:IntKind.i64.wrap ((ra.length:Int)+(fF (ps.map (·.1)):Nat)+mk)=(ra.length:Int)+(fF (ps.map (·.1)):Nat)+mk:=aN (by omega) (by omega)
 have w3:IntKind.i64.wrap ((V1.length:Int)+(fF W1:Nat))=(V1.length:Int)+(fF W1:Nat):=aN (by omega) (by omega)
 have w4:IntKind.i64.wrap ((V1.length:Int)+(fF W1:Nat)+d)=(V1.length:Int)+(fF W1:Nat)+d:=aN (by omega) (by omega)
 have w5:IntKind.i64.wrap (((V1.length:Int)+(fF W1:Nat)) * 12)=((V1.length:Int)+(fF W1:Nat)) * 12:=aN (by omega) (by omega)
 have w6:IntKind.i64.wrap (1+((V1.length:Int)+(fF W1:Nat)) * 12)=1+((V1.length:Int)+(fF W1:Nat)) * 12:=aN (by omega) (by omega)
 have tsum:((ra.length:Int)+(fF (ps.map (·.1)):Nat)+mk=(V1.length:Int)+(fF W1:Nat)+d)=True:=eq_true hsum
 have tmx:¬ (1+((V1.length:Int)+(fF W1:Nat)) * 12 < lv):=by omega
 obtain ⟨Rv,pb,h1,n1,k1,k2,k3,k4⟩:=M.got 50
 generalize aA r=ks at *
 rw [aO H.f141 rfl]
 have st0:=fun X=>k4.over (Nat.le_refl 50) k3 X
 have hw3:=M.wl.1
 obtain ⟨Rv',hRv⟩:∃ x,x=Rv:=⟨_,rfl⟩
 rcases hsel with ⟨c,o3,o4⟩ | ⟨c,o3,o4⟩ <;> rw [o3,o4] at ha <;> rcases k4.rows with ⟨v0,rfl⟩ | ⟨v0,rb1,cs1,rfl,k5,k6,k7,k8⟩
 all_goals
  simp (disch:=omega) [-qH,adM,H.toQi.inl,aH,H.toQi.pp,ppB,ha,c,hb2,t1,aN,k1,dI,ak,aj,leF,ltF,gtF]
  generalize hH:put _ (n1+1+1+1+1+1) (dG.cells 4 [[AV.int .i64 rb,AV.int .i64 mk,AV.int .i64 d,AV.int .i64 lv]] true true)=HH
  have stH:StO HH 50 n1 Rv' pb V1 W1:=by
   rw [← hH,hRv]
   exact (st0 _).mono (Nat.le_refl _) (Nat.le_refl _) k3 (fun b p q=>by rw [aj (by omega),aj (by omega),aj (by omega),aj (by omega)])
  have yb:Pav.get HH (n1+1+1+1+1)=some (.cells 2 [[Rv',.sl pb 1 0 3 3 true]] true false):=by rw [← hH,hRv];simp (disch:=omega) [ak,aj]
  have fY:∀ b,b < 50∨b=n1+1+1+1+1+1→Pav.get (Dh HH (n1+1+1+1+1)) b=Pav.get HH b:=fun b q=>aai yb stH k3 (by omega) (by omega)
  have y0:Pav.get (Dh HH (n1+1+1+1+1)) 0=some (.cells 7 [[.ro 4 (q1.map eQ) e1,.ro 1 (z1.map eU8) f1,.int .u8 r,.ro 4 (q2.map eQ) e2,.ro 1 (z2.map eU8) f2,.int .u8 r2,.ro 2 (w.map eW) we]] true true):=(fY 0 (by omega)).trans (by rw [← hH];simp (disch:=omega) only [aj,dI];rfl)
  have y9:Pav.get (Dh HH (n1+1+1+1+1)) 9=some (.cells 7 [cCf 100 1 1 ks true 12 65536 0] true true):=(fY 9 (by omega)).trans (by rw [← hH];simp (disch:=omega) only [aj,dI];rfl)
  have y10:Pav.get (Dh HH (n1+1+1+1+1)) 10=some (.cells 2 [[.ro 8 (ra.map eHd) ea,.ro 1 (ps.map ePl) pe]] true true):=(fY 10 (by omega)).trans (by rw [← hH];simp (disch:=omega) only [aj,dI];rfl)
  have y21:Pav.get (Dh HH (n1+1+1+1+1)) 21=some (.cells 1 [[.ro 6 (l.map eEn) g]] true true):=(fY 21 (by omega)).trans (by rw [← hH];simp (disch:=omega) only [aj,dI];rfl)
  have y40:Pav.get (Dh HH (n1+1+1+1+1)) 40=some (.cells 2 [[.ro 8 (r1.map eHd) x1,.ro 1 (p1.map ePl) y1]] true true):=(fY 40 (by omega)).trans (by rw [← hH];simp (disch:=omega) only [aj,dI];rfl)
  have y41:Pav.get (Dh HH (n1+1+1+1+1)) 41=some (.cells 4 [[.int .i64 rb,.int .i64 mk,.int .i64 d,.int .i64 lv]] true true):=(fY 41 (by omega)).trans (by rw [← hH];simp (disch:=omega) only [aj,dI];rfl)
  have y14:Pav.get (Dh HH (n1+1+1+1+1)) (n1+1+1+1+1+1)=some (.cells 4 [[.int .i64 rb,.int .i64 mk,.int .i64 d,.int .i64 lv]] true true):=(fY (n1+1+1+1+1+1) (by omega)).trans (by rw [← hH];exact ak ..)
  rw [Xc yb stH hw3.symm (by simp)]
  generalize Dh HH (n1+1+1+1+1)=Y at *
  clear hH fY yb stH st0
  have hGl:(V1.map fH).length=V1.length:=by simp
  generalize hG:V1.map fH=G at *
  generalize kpW W1=P2 at *
  obtain ⟨Rv2,pb2,h2,n2,m1,m2,m3,m4⟩:=tag (n1+80+1)
  have st2:=fun X=>m4.over (Nat.le_refl _) m3 X
  have hw4:=M.wl.2
  obtain ⟨Rv2',hRv2⟩:∃ x,x=Rv2:=⟨_,rfl⟩
  rcases m4.rows with ⟨u0,rfl⟩ | ⟨u0,rb2,cs2,rfl,u1,u2,u3,u4⟩
  all_goals first | exact absurd v0 u0 | exact absurd u0 v0 | skip
  all_goals
   simp (disch:=omega) [H.toQi.inl,aH,H.toQi.pp,ppB,y9,y10,y21,y40,y41,y14,s1,tex,tck,pl1,pl2,tlv,tsum,tmx,hGl,w1,w2,w3,w4,w5,w6,aN]
   simp (disch:=omega) [m1,y14,dI,ak,aj,ltF,gtF,leF]
   generalize hH2:put _ (n2+1+1+1+1+1) (dG.cells 4 [[AV.int .i64 0,AV.int .i64 0,AV.int .i64 0,AV.int .i64 lv]] true true)=HH2
   have z0:Pav.get HH2 0=some (.cells 7 [[.ro 4 (q1.map eQ) e1,.ro 1 (z1.map eU8) f1,.int .u8 r,.ro 4 (q2.map eQ) e2,.ro 1 (z2.map eU8) f2,.int .u8 r2,.ro 2 (w.map eW) we]] true true):=by rw [← hH2];simp (disch:=omega) only [aj,dI];exact y0
   have z10:Pav.get HH2 10=some (.cells 2 [[.ro 8 (ra.map eHd) ea,.ro 1 (ps.map ePl) pe]] true true):=by rw [← hH2];simp (disch:=omega) only [aj,dI];exact y10
   have z40:Pav.get HH2 40=some (.cells 2 [[.ro 8 (r1.map eHd) x1,.ro 1 (p1.map ePl) y1]] true true):=by rw [← hH2];simp (disch:=omega) only [aj,dI];exact y40
   have z16:Pav.get HH2 (n2+1+1+1+1)=some (.cells 2 [[Rv2',.sl pb2 1 0 3 3 true]] true false):=by rw [← hH2,hRv2];simp (disch:=omega) [ak,aj]
   have st3:StO HH2 (n1+80+1) n2 Rv2' pb2 V1 W2:=by
    rw [← hH2,hRv2]
    exact (st2 _).mono (Nat.le_refl _) (Nat.le_refl _) m3 (fun b p q=>by rw [aj (by omega),aj (by omega),aj (by omega),aj (by omega)])
   have fz2:bD HH2 15 (.sl pb2 1 0 3 3 true)=some (.ro 1 ((kpW W2).map ePl) true):=by
    obtain ⟨cs,dt,h4,h5,h6⟩:=st3.pool
    rw [h5.frz h4 h6 11 3 hw4.symm]
    simp [ePl]
   generalize kpW W2=P3 at *
   clear hH2 st2
   first
   |
    have hG0:G=[]:=by rw [← hG,u0];rfl
    subst hG0
    simp only [aSt,List.map_nil] at ts2
    simp (disch:=omega) [-jF,H.toQi.inl,aH,H.toQi.pp,ppB,fz2,ts2]
    rw [hRv2] at z16
    exact TB H hl q1 q2 e1 e2 z1 z2 f1 f2 r r2 w we (G:=[]) _ _ _ _ ha s1 ts3 HH2 _ (by omega) z0 z10 z40 _ _ z16
   |
    have fz1:bD HH2 15 (.sl rb2 8 0 V1.length V1.length true)=some (.ro 8 (G.map eHd) true):=by
     rw [← hG,← hRv2];exact st3.rows.frz 12
    rw [hRv2] at z16 st3
    obtain ⟨cs3,g3,R3⟩:∃ cs,Pav.get HH2 rb2=some (.cells 8 cs true false)∧uH HH2 (rb2+1) n2 cs V1:=by
     rcases st3.rows with ⟨q,_⟩ | ⟨_,rb3,cs3,e3,_,_,e6,e7⟩
     · exact absurd q v0
     · simp only [AV.sl.injEq] at e3
       obtain ⟨rfl,_⟩:=e3
       exact ⟨cs3,e6,e7⟩
    simp (disch:=omega) [-jF,H.toQi.inl,aH,H.toQi.pp,ppB,fz1,fz2,ts2]
    exact ahf H hl q1 q2 e1 e2 z1 z2 f1 f2 r r2 w we _ _ _ _ ha s1 ts3 HH2 _ (by omega) z0 z10 z40 _ _ rb2 0 n2 V1 cs3 (by omega) (by omega) u2 z16 g3 R3 (by omega) M.cn
theorem aa1 (H:yT C) (hl:FnW C 145 []=some (.bool true)) (q1 q2:List Q4) (e1 e2:Bool) (z1 z2:List Int) (f1 f2:Bool) (r r2:Int) (hr:0≤r∧r≤255) (w:List (Int × Int)) (we:Bool) (a b:Nat) (hb:b≤65535)
 {ra:List Hd} {ea:Bool} {ps:List Pl} {pe:Bool} (S:OL 96 ra ps) (K:CkS (aA r) 12 ra ps) (R1 R2:List En) (g1 g2:Bool) (L1:LG r R1) (L2:LG r R2) (G1:∀ x ∈ R1,gu (aA r) x) (G2:∀ x ∈ R2,gu (aA r) x) (N1:(cO R1).Nodup) (N2:(cO R2).Nodup)
 (ha:FnW C 283 [.agg [.ro 4 (q1.map eQ) e1,.ro 1 (z1.map eU8) f1,.int .u8 r,.ro 4 (q2.map eQ) e2,.ro 1 (z2.map eU8) f2,.int .u8 r2,.ro 2 (w.map eW) we]]=some (.tup [.agg (cCf 100 1 1 (aA r) true 12 65536 0),aSt ra ea ps pe,.agg [.ro 6 (R1.map eEn) g1,.ro 6 (R2.map eEn) g2]])) :
 FnW C 141 [.agg [.ro 4 (q1.map eQ) e1,.ro 1 (z1.map eU8) f1,.int .u8 r,.ro 4 (q2.map eQ) e2,.ro 1 (z2.map eU8) f2,.int .u8 r2,.ro 2 (w.map eW) we],.agg [.int .u16 a,.int .u16 b]]=some (.bool true):=by
 by_cases c:(a:Int).tmod 2=0
 · have hb2:=EJ H.tonY b R1.length hb (by have:=L1.hl;omega)
   have hbl:=uy b (min R1.length 16) 0
   obtain ⟨V1,W1,W2,rb,mk,d,lv,r1,x1,p1,y1,M⟩:=Zp H.toJk L1 G1 N1 g1 S K ea pe (iW b 0 (min R1.length 16)) false (by have:=L1.hl;omega) (fun a ha=>by have:=pW b _ 0 a ha;omega) (vT b _ 0) (vH b _ 0)
   exact U9 H hl q1 q2 e1 e2 z1 z2 f1 f2 r r2 hr w we a b hb R1 R2 g1 g2 ha _ _ (.inl ⟨c,rfl,rfl⟩) hb2 M
 · have c':(a:Int).tmod 2=1:=by have:=Int.tmod_eq_emod_of_nonneg (a:=(a:Int)) (b:=2) (by omega);omega
   have hb2:=EJ H.tonY b R2.length hb (by have:=L2.hl;omega)
   have hbl:=uy b (min R2.length 16) 0
   obtain ⟨V1,W1,W2,rb,mk,d,lv,r1,x1,p1,y1,M⟩:=Zp H.toJk L2 G2 N2 g2 S K ea pe (iW b 0 (min R2.length 16)) false (by have:=L2.hl;omega) (fun a ha=>by have:=pW b _ 0 a ha;omega) (vT b _ 0) (vH b _ 0)
   exact U9 H hl q1 q2 e1 e2 z1 z2 f1 f2 r r2 hr w we a b hb R1 R2 g1 g2 ha _ _ (.inr ⟨c',rfl,rfl⟩) hb2 M
end Go.D
end
