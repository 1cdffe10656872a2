/- Part of the theory that the claims of this work use: D38, Y01, Y02, Y03, Y04, PwOrc, PwRun, Y05, Y06, Y07, D33, D37, D40, D39, Y08. No conditions of its own. -/
import Derived.Test.YthoeclhpjbbfhaaGreatT6
set_option linter.unusedVariables false
set_option linter.unusedSimpArgs false
set_option maxHeartbeats 4000000
set_option maxRecDepth 10000
section
namespace Go.D
open Go Go.Pav Go.Pw P
attribute [-simp] List.getElem_cons_drop
variable {C:WProg}
theorem yG (H:dW C) (ks:List Kd) (ke:Bool) (cap:Int) (hr:bH ks) (l:List En) (e:Bool) (hl:l.length≤1000000) (hs:∀ x ∈ l,aK x) (a:Int) (x:List It) (xe:Bool) (hx:∀ y ∈ x,bZ y) (hxl:x.length≤1000000) (ins:Bool) (cnt:Int)
 (hb:∀ y ∈ x,aP ks.length y=true→-9223372036854775808≤(aF ks y.t).b∧(aF ks y.t).b≤9223372036854775807) (hsum:l.length+x.length≤1000000) (hin:ins=true→0≤a∧a≤l.length) :
 DoR (if ckE ks cap l≠0 then aH (ckE ks cap l) else if ins=false then aH 4 else if 1024 < cnt then aH 3 else if aI ks cap (aA l) x≠0 then aH (aI ks cap (aA l) x) else outL (spl l a.toNat 0 (x.map (fre ks)))) (RnW C 216 [aR ks ke cap,aL l e,.agg [.bool ins,.int .i64 cnt,.ro 4 (x.map cIt) xe,.fn 401 [.ptr 25 0 0],.fn 220 [.rop [.ro 6 (l.map eEn) e],.rop [.int .i64 a]]]] [(0,.cells 1 [[.ro 6 [] true]] true true),(25,.cells 1 [[.map 26]] true false),(26,.map (bI (aU [] l)))] 29):=by
 have hc:=aW H.tofK ks ke cap hr l e hl hs
 rw [aS (args:=[aR ks ke cap,aL l e,.agg [.bool ins,.int .i64 cnt,.ro 4 (x.map cIt) xe,.fn 401 [.ptr 25 0 0],.fn 220 [.rop [.ro 6 (l.map eEn) e],.rop [.int .i64 a]]]]) H.f216 rfl [(0,.cells 1 [[.ro 6 [] true]] true true),(25,.cells 1 [[.map 26]] true false),(26,.map (bI (aU [] l)))] 29]
 by_cases c1:ckE ks cap l=0
 · have hru:=ku c1
   rw [c1] at hc
   rw [if_neg (by simpa using c1)]
   cases ins
   · rw [if_pos rfl]
     unfold aH
     simp [w216,hc,H.inl,inlB,H.pp,ppB]
     exact ⟨_,_,rfl,rfl⟩
   · rw [if_neg (by simp)]
     obtain ⟨ha1,ha2⟩:=hin rfl
     obtain ⟨a',rfl⟩:∃ a':Nat,a=a':=⟨a.toNat,by omega⟩
     by_cases c2:1024 < cnt
     · rw [if_pos c2]
       unfold aH
       simp [w216,hc,c2,H.inl,inlB,H.pp,ppB]
       exact ⟨_,_,rfl,rfl⟩
     · rw [if_neg c2]
       have h:=kE H ks ke cap hr hru l e hl hs a' (by omega) x xe hx hxl true cnt hb hsum x.length 0 (by simp) (by simp) (aU [] l)
       rw [List.drop_zero] at h
       rw [dQ ks cap x (aU [] l) (aA l) (fun j=>by rw [fD];simp)] at h
       simp only [Int.toNat_natCast]
       generalize (if aI ks cap (aA l) x≠0 then aH (aI ks cap (aA l) x) else outL (spl l a' 0 (x.map (fre ks))))=Z at *
       simp at h
       simp [w216,hc,c2,H.inl,inlB,H.pp,ppB]
       exact h
 · rw [if_pos c1]
   unfold aH
   simp [w216,hc,c1,H.inl,inlB,H.pp,ppB]
   exact ⟨_,_,rfl,rfl⟩
@[simp] theorem Dp (h:WHeap) (n:Nat) (o:WObj) (k:Nat):Pav.get (Pav.put h n o) k=if n=k then some o else Pav.get h k:=get_put h n o k
theorem oG (H:dW C) (ks:List Kd) (ke:Bool) (cap:Int) (hr:bH ks) (l:List En) (e:Bool) (hl:l.length≤1000000) (hs:∀ x ∈ l,aK x) (a:Int) (x:List It) (xe:Bool) (hx:∀ y ∈ x,bZ y) (hxl:x.length≤1000000)
 (hb:∀ y ∈ x,aP ks.length y=true→-9223372036854775808≤(aF ks y.t).b∧(aF ks y.t).b≤9223372036854775807) (hsum:l.length+x.length≤1000000) :
 FnW C 109 [aR ks ke cap,aL l e,.int .i64 a,.ro 4 (x.map cIt) xe] =
  some (if ckE ks cap l≠0 then aH (ckE ks cap l) else if inR a 0 l.length=false then aH 4 else if 1024 < (l.length:Int)+x.length then aH 3 else if aI ks cap (aA l) x≠0 then aH (aI ks cap (aA l) x) else outL (spl l a.toNat 0 (x.map (fre ks)))):=by
 have hw:=bC H.tobn a 0 l.length (by omega)
 have hu:=gJ H l e hl
 obtain ⟨h',n',hd,hB⟩:=yG H ks ke cap hr l e hl hs a x xe hx hxl (inR a 0 l.length) ((l.length:Int)+x.length) hb hsum (fun q=>by unfold inR at q;simp at q;omega)
 have hR:∃ R n,(if ckE ks cap l≠0 then aH (ckE ks cap l) else if inR a 0 l.length=false then aH 4 else if 1024 < (l.length:Int)+x.length then aH 3 else if aI ks cap (aA l) x≠0 then aH (aI ks cap (aA l) x) else outL (spl l a.toNat 0 (x.map (fre ks))))=.tup [.agg [.ro 6 R true],.int .i64 n]:=by
  unfold outL aH
  repeat (first | exact ⟨_,_,rfl⟩ | split)
 obtain ⟨R,n,hR⟩:=hR
 rw [hR] at hd ⊢
 rw [fnW_eq H.f109 rfl]
 generalize inR a 0 l.length=ins at *
 try simp at hd
 simp (disch:=omega) [w109,ak,hw,hu,hd,hB,H.inl,inlB,H.pp,ppB]
structure bf (C:WProg):Prop extends dW C where
 o9:C.fns.get 3003=some w3003
 qp:C.fns.get 3004=some w226
 ql:C.fns.get 2043=some w2043
 vH:C.fns.get 4108=some w4108
 uU:C.fns.get 4109=some w4109
 pU:C.fns.get 4110=some w4110
def ofR (nid:Nat) (L:List En):AV × WUpd:=if L=[] then (.agg [.ro 6 [] true],[]) else (.agg [.sl nid 6 0 L.length L.length true],[(nid,some (.cells 6 (L.map eEn) true true))])
def aV (e:Int):Int × List En:=(e,[])
def dB (out:List En):Int × List En:=if ovE (out.map En.own)≠0 then aV (ovE (out.map En.own)) else (0,out.map En.own)
def VY (v:AV) (h:WHeap) (R:List En):Prop:=(v=.ro 6 [] true∧R=[])∨(R≠[]∧∃ b,v=.sl b 6 0 R.length R.length true∧Pav.get h b=some (.cells 6 (R.map eEn) true true))
def DoY (r:Int × List En) (o:Option (AV × WHeap × Nat)):Prop:=∃ v h' n',o=some (.tup [.agg [v],.int .i64 r.1],h',n')∧Pav.get h' 0=some (.cells 1 [[.ro 6 [] true]] true true)∧VY v h' r.2
theorem oq (H:bf C) (l:List En) (e:Bool) (hl:l.length≤1000000) (hm:∀ x ∈ l,x.i.m.length≤1000000):∀ n i,n+i=l.length→∀ G:List En,G.length=i →
 ∃ q m,Pav.get q 0=some (.cells 6 ((G++(l.drop i).map En.own).map eEn) true true)∧CK C 0 (fnEndW [.cell 2 1 true]) [.sq w226_L0,.bk 0 ⟨true,[3,2],[]⟩,.sq w226_c0] w226_B0 ⟨[(15,.int .i64 i),(14,.int .i64 l.length),(13,.ro 6 (l.map eEn) e),(3,.sl 0 6 0 l.length l.length true),(2,.ptr 1 0 0)],[(0,.cells 6 (G.map eEn++List.replicate n [.int .u64 0,.int .u8 0,.str [],.ro 1 [] true,.int .i64 0,.bool false]) true true),(1,.cells 1 [[.ro 6 [] true]] true true)],2⟩ =
  some (.agg [.sl 0 6 0 l.length l.length true],q,m):=by
 intro n
 induction n with
 | zero =>
  intro i hi G hG
  have h1:l.drop i=[]:=List.drop_eq_nil_of_le (by omega)
  have h3:¬ i < l.length:=by omega
  have h6:List.take l.length (List.map eEn G)=List.map eEn G:=List.take_of_length_le (by simp;omega)
  have h7:G.length=l.length:=by omega
  rw [ck_unf w226_B0.eq_1]
  simp [ck_unf w226_c0.eq_1,h1,h3,h6,h7]
 | succ n ih =>
  intro i hi G hG
  have h1:i < l.length:=by omega
  have hc:=jH H.tofP.tofK.tobn l[i].i true (hm _ (List.getElem_mem h1))
  obtain ⟨q,m,hq,this⟩:=ih (i+1) (by omega) (G++[l[i].own]) (by simp [hG])
  rw [drop_cons h1]
  refine ⟨q,m,by simpa using hq,?_⟩
  rw [ck_unf w226_B0.eq_1]
  simp [It.own] at hc
  simp [En.own,It.own] at this
  simp (disch:=omega) [h1,ak,hc,eF,eu,hG,H.inl,inlB,H.pp,ppB,En.own,It.own,this]
theorem iQ (H:bf C) (l:List En) (e:Bool) (hl:l.length≤1000000) (hm:∀ x ∈ l,x.i.m.length≤1000000) (nid:Nat):freshCallW (RnW C) 3004 [.ro 6 (l.map eEn) e] nid=some (ofR nid (l.map En.own)):=by
 by_cases hne:l=[]
 · subst hne
   have hr:∃ q m,RnW C 3004 [.ro 6 [] e] [] 0=some (.agg [.ro 6 [] true],q,m):=by
    rw [aS H.qp rfl]
    simp [w226,H.inl,inlB,H.pp,ppB]
   obtain ⟨q,m,hr⟩:=hr
   unfold freshCallW
   rw [List.map_nil,hr]
   simp [ofR,ob,ownOf,ownOfL,Pav.get,freshOfW,hand,handL,om]
 · obtain ⟨q,m,hq,h⟩:=oq H l e hl hm l.length 0 (by simp) [] rfl
   have h2:l.length * 73≤35184372088832:=by omega
   have hr:RnW C 3004 [.ro 6 (l.map eEn) e] [] 0=some (.agg [.sl 0 6 0 l.length l.length true],q,m):=by
    rw [aS H.qp rfl]
    simp at h
    simp (disch:=omega) [w226,hne,h2,h]
   rw [List.nil_append,List.drop_zero] at hq
   unfold freshCallW
   rw [hr]
   simp [ofR,hne,hq,ob,ownOf,ownOfL,freshOfW,hand,handL,om]
theorem jh (H:bf C) (ks:List Kd) (ke:Bool) (cap:Int) (hr:bH ks) (hru:dV ks cap=true) (l:List En) (e:Bool) (hl:l.length≤1000000) (hs:∀ x ∈ l,aK x) (a:Nat) (ha:a≤l.length) (x:List It) (xe:Bool) (hx:∀ y ∈ x,bZ y) (hxl:x.length≤1000000) (ins:Bool) (cnt:Int)
 (hb:∀ y ∈ x,aP ks.length y=true→-9223372036854775808≤(aF ks y.t).b∧(aF ks y.t).b≤9223372036854775807) (hsum:l.length+x.length≤1000000):∀ n i,n+i=x.length→(∀ y ∈ x.take i,aP ks.length y=true)→∀ s:List Int,
 DoY (if aI ks cap s (x.drop i)≠0 then aV (aI ks cap s (x.drop i)) else dB (spl l a 0 (x.map (fre ks)))) (CK C 29 (fnEndW [.cell 6 1 true,.tmp 7]) [.sq w2043_L0,.bk 1 ⟨true,[6,5,3],[]⟩,.sq w2043_c0] w2043_B0 ⟨[(34,.int .i64 i),(33,.int .i64 x.length),(32,.ro 4 (x.map cIt) xe),(6,.ptr 29 0 0),(5,.ptr 30 0 0),(3,.ptr 31 0 0)],[(0,.cells 1 [[.ro 6 [] true]] true true),(25,.cells 1 [[.map 26]] true false),(26,.map (bI s)),(29,.cells 1 [[.ro 6 [] true]] true true),
  (30,.cells 5 [[.bool ins,.int .i64 cnt,.ro 4 (x.map cIt) xe,.fn 401 [.ptr 25 0 0],.fn 220 [.rop [.ro 6 (l.map eEn) e],.rop [.int .i64 a]]]] true false),(31,.cells 2 [[.ro 9 (ks.map eKd) ke,.int .i64 cap]] true true)],32⟩):=by
 intro n
 induction n with
 | zero =>
  intro i hi hok s
  have h1:x.drop i=[]:=List.drop_eq_nil_of_le (by omega)
  have h3:¬ i < x.length:=by omega
  rw [List.take_of_length_le (by omega)] at hok
  have hf:=fresh_ok H.tofK ks ke cap x xe (by omega) (fun y q=>⟨hx y q,bV (hok y q)⟩)
  have hm:FnW C 220 [.ro 6 ((x.map (fre ks)).map eEn) true,.rop [.ro 6 (l.map eEn) e],.rop [.int .i64 a]]=some (.ro 6 ((spl l a 0 (x.map (fre ks))).map eEn) true):=by
   have h:=bP H.tobn l (x.map (fre ks)) e true a 0 hl (by simpa using hxl) (by omega)
   rw [fnW_eq H.f220 rfl]
   generalize spl l a 0 (x.map (fre ks))=R at *
   generalize x.map (fre ks)=X at *
   simp at h
   simp [w220,h,H.inl,inlB,H.pp,ppB]
  have hm2:∀ y ∈ spl l a 0 (x.map (fre ks)),aK y:=cZ _ _ hs fun y q=>by
   obtain ⟨z,hz,rfl⟩:=List.mem_map.1 q
   exact ⟨hx z hz,hb z hz (hok z hz)⟩
  have hlen2:(spl l a 0 (x.map (fre ks))).length≤1000000:=by rw [aO _ _ _ _ (by omega)];simp;omega
  rw [h1,aI,if_neg (by simp)]
  generalize spl l a 0 (x.map (fre ks))=R at *
  have ho:=fun nid=>iQ H R true hlen2 (fun x q=>(hm2 x q).i.m) nid
  have ht:=bD H.tobn (R.map En.own) true (by simpa using hlen2) (fun x q=>by
   obtain ⟨y,hy,rfl⟩:=List.mem_map.1 q
   exact (hm2 y hy).ow)
  unfold dB aV
  generalize R.map En.own=R' at *
  generalize x.map (fre ks)=X at *
  by_cases hne:R'=[]
  · subst hne
    simp only [ofR,if_true] at ho
    have c2:ovE []=0:=by decide
    rw [c2] at ht
    simp only [aL,List.map_nil] at ht
    rw [ck_unf w2043_B0.eq_1]
    simp [ck_unf w2043_c0.eq_1,h3,hf,hm,ho,ht,c2,H.inl,inlB,H.pp,ppB]
    exact ⟨_,_,_,rfl,by simp,.inl ⟨rfl,rfl⟩⟩
  simp only [ofR,if_neg hne] at ho
  have hTK:List.take R'.length (R'.map eEn)=R'.map eEn:=List.take_of_length_le (by simp)
  by_cases c2:ovE R'=0
  · rw [c2] at ht
    rw [ck_unf w2043_B0.eq_1]
    simp [ck_unf w2043_c0.eq_1,h3,hf,hm,ho,ht,hTK,c2,hne,H.inl,inlB,H.pp,ppB]
    exact ⟨_,_,_,rfl,by simp,.inr ⟨hne,_,rfl,by simp⟩⟩
  · rw [ck_unf w2043_B0.eq_1]
    simp [ck_unf w2043_c0.eq_1,h3,hf,hm,ho,ht,hTK,c2,hne,H.inl,inlB,H.pp,ppB]
    exact ⟨_,_,_,rfl,by simp,.inl ⟨rfl,rfl⟩⟩
 | succ n ih =>
  intro i hi hok s
  have h1:i < x.length:=by omega
  have hxi:=hx _ (List.getElem_mem h1)
  have hc:=dh H.tojm x[i] ks.length hxi.t
  have hg:=fun a b c h n=>aS (args:=[a,b,c]) H.rO rfl h n
  have hkg:=dD x[i].k s
  rw [drop_cons h1,aI]
  generalize hO:dB (spl l a 0 (x.map (fre ks)))=O at *
  unfold aV
  cases c1:aP ks.length x[i]
  · have hE:itE ks cap x[i] (s.contains x[i].k)=6:=by unfold itE;simp [c1]
    rw [hE,if_pos (by simp),if_pos (by simp)]
    rw [c1] at hc
    simp at hc
    rw [ck_unf w2043_B0.eq_1]
    simp (disch:=omega) [h1,hc,H.inl,inlB,H.pp,ppB]
    exact ⟨_,_,_,rfl,by simp,.inl ⟨rfl,rfl⟩⟩
  · rw [c1] at hc
    simp at hc
    cases c2:s.contains x[i].k
    · have ht:=bV c1
      have hre:=bU H.tofK ks ke cap x[i] hxi ht hr
      have h14:=qE hru c1 hxi.t.1
      have hp:=dn x[i].k s c2
      rw [c2] at hkg
      simp only [aR,eIt] at hre hc
      have this:=ih (i+1) (by omega) (fun y q=>by
       rw [List.take_succ_eq_append_getElem h1] at q
       rcases List.mem_append.1 q with q | q
       · exact hok y q
       · simp at q;rw [q];exact c1) (s++[x[i].k])
      unfold aV at this
      have hE:itE ks cap x[i] false=if aX (aF ks x[i].t).p x[i] cap=0 then 0 else 14:=by unfold itE;simp [c1]
      generalize iK (aF ks x[i].t).p x[i] cap=N at *
      generalize aX (aF ks x[i].t).p x[i] cap=E at *
      by_cases c3:E=0
      · subst c3
        have hV:itE ks cap x[i] false=0:=by rw [hE];simp
        rw [hV]
        simp only [ne_eq,not_true_eq_false,if_false]
        generalize (if aI ks cap (s++[x[i].k]) (List.drop (i+1) x)≠0 then ((aI ks cap (s++[x[i].k]) (List.drop (i+1) x),[]):Int × List En) else O)=Z at *
        rw [ck_unf w2043_B0.eq_1]
        simp at this
        simp (disch:=omega) [h1,hc,hg,w401,hkg,hp,hre,ak,H.inl,inlB,H.pp,ppB]
        exact this
      · have c4:E=14:=by rcases h14 with q | q;exact absurd q c3;exact q
        subst c4
        have hV:itE ks cap x[i] false=14:=by rw [hE];simp
        rw [hV,if_pos (by simp),if_pos (by simp)]
        rw [ck_unf w2043_B0.eq_1]
        simp (disch:=omega) [h1,hc,hg,w401,hkg,hp,hre,H.inl,inlB,H.pp,ppB]
        exact ⟨_,_,_,rfl,by simp,.inl ⟨rfl,rfl⟩⟩
    · have hE:itE ks cap x[i] true=8:=by unfold itE;simp [c1]
      rw [hE,if_pos (by simp),if_pos (by simp)]
      rw [c2] at hkg
      simp only [eIt] at hc
      rw [ck_unf w2043_B0.eq_1]
      simp (disch:=omega) [h1,hc,hg,w401,hkg,H.inl,inlB,H.pp,ppB]
      exact ⟨_,_,_,rfl,by simp,.inl ⟨rfl,rfl⟩⟩
theorem iZ (H:bf C) (ks:List Kd) (ke:Bool) (cap:Int) (hr:bH ks) (hru:dV ks cap=true)  (x:List It) (xe:Bool) (hx:∀ y ∈ x,bZ y) (hxl:x.length≤1000000) (ins:Bool) (cnt:Int)
 (hb:∀ y ∈ x,aP ks.length y=true→-9223372036854775808≤(aF ks y.t).b∧(aF ks y.t).b≤9223372036854775807) :∀ n i,n+i=x.length→(∀ y ∈ x.take i,aP ks.length y=true)→∀ s:List Int,
 DoY (if aI ks cap s (x.drop i)≠0 then aV (aI ks cap s (x.drop i)) else dB (x.map (fre ks))) (CK C 17 (fnEndW [.cell 6 1 true,.tmp 7]) [.sq w2043_L0,.bk 1 ⟨true,[6,5,3],[]⟩,.sq w2043_c0] w2043_B0 ⟨[(34,.int .i64 i),(33,.int .i64 x.length),(32,.ro 4 (x.map cIt) xe),(6,.ptr 17 0 0),(5,.ptr 18 0 0),(3,.ptr 19 0 0)],[(0,.cells 1 [[.ro 6 [] true]] true true),(13,.cells 1 [[.map 14]] true false),(14,.map (bI s)),(17,.cells 1 [[.ro 6 [] true]] true true),
  (18,.cells 5 [[.bool ins,.int .i64 cnt,.ro 4 (x.map cIt) xe,.fn 401 [.ptr 13 0 0],.fn 218 []]] true false),(19,.cells 2 [[.ro 9 (ks.map eKd) ke,.int .i64 cap]] true true)],20⟩):=by
 intro n
 induction n with
 | zero =>
  intro i hi hok s
  have h1:x.drop i=[]:=List.drop_eq_nil_of_le (by omega)
  have h3:¬ i < x.length:=by omega
  rw [List.take_of_length_le (by omega)] at hok
  have hf:=fresh_ok H.tofK ks ke cap x xe (by omega) (fun y q=>⟨hx y q,bV (hok y q)⟩)
  have hm:FnW C 218 [.ro 6 ((x.map (fre ks)).map eEn) true]=some (.ro 6 ((x.map (fre ks)).map eEn) true):=by
   rw [fnW_eq H.f218 rfl]
   generalize x.map (fre ks)=X at *
   simp [w218]
  have hm2:∀ y ∈ x.map (fre ks),aK y:=fun y q=>by
   obtain ⟨z,hz,rfl⟩:=List.mem_map.1 q
   exact ⟨hx z hz,hb z hz (hok z hz)⟩
  have hlen2:(x.map (fre ks)).length≤1000000:=by simpa using hxl
  rw [h1,aI,if_neg (by simp)]
  generalize x.map (fre ks)=R at *
  have ho:=fun nid=>iQ H R true hlen2 (fun x q=>(hm2 x q).i.m) nid
  have ht:=bD H.tobn (R.map En.own) true (by simpa using hlen2) (fun x q=>by
   obtain ⟨y,hy,rfl⟩:=List.mem_map.1 q
   exact (hm2 y hy).ow)
  unfold dB aV
  generalize R.map En.own=R' at *
  by_cases hne:R'=[]
  · subst hne
    simp only [ofR,if_true] at ho
    have c2:ovE []=0:=by decide
    rw [c2] at ht
    simp only [aL,List.map_nil] at ht
    rw [ck_unf w2043_B0.eq_1]
    simp [ck_unf w2043_c0.eq_1,h3,hf,hm,ho,ht,c2,H.inl,inlB,H.pp,ppB]
    exact ⟨_,_,_,rfl,by simp,.inl ⟨rfl,rfl⟩⟩
  simp only [ofR,if_neg hne] at ho
  have hTK:List.take R'.length (R'.map eEn)=R'.map eEn:=List.take_of_length_le (by simp)
  by_cases c2:ovE R'=0
  · rw [c2] at ht
    rw [ck_unf w2043_B0.eq_1]
    simp [ck_unf w2043_c0.eq_1,h3,hf,hm,ho,ht,hTK,c2,hne,H.inl,inlB,H.pp,ppB]
    exact ⟨_,_,_,rfl,by simp,.inr ⟨hne,_,rfl,by simp⟩⟩
  · rw [ck_unf w2043_B0.eq_1]
    simp [ck_unf w2043_c0.eq_1,h3,hf,hm,ho,ht,hTK,c2,hne,H.inl,inlB,H.pp,ppB]
    exact ⟨_,_,_,rfl,by simp,.inl ⟨rfl,rfl⟩⟩
 | succ n ih =>
  intro i hi hok s
  have h1:i < x.length:=by omega
  have hxi:=hx _ (List.getElem_mem h1)
  have hc:=dh H.tojm x[i] ks.length hxi.t
  have hg:=fun a b c h n=>aS (args:=[a,b,c]) H.rO rfl h n
  have hkg:=dD x[i].k s
  rw [drop_cons h1,aI]
  generalize hO:dB (x.map (fre ks))=O at *
  unfold aV
  cases c1:aP ks.length x[i]
  · have hE:itE ks cap x[i] (s.contains x[i].k)=6:=by unfold itE;simp [c1]
    rw [hE,if_pos (by simp),if_pos (by simp)]
    rw [c1] at hc
    simp at hc
    rw [ck_unf w2043_B0.eq_1]
    simp (disch:=omega) [h1,hc,H.inl,inlB,H.pp,ppB]
    exact ⟨_,_,_,rfl,by simp,.inl ⟨rfl,rfl⟩⟩
  · rw [c1] at hc
    simp at hc
    cases c2:s.contains x[i].k
    · have ht:=bV c1
      have hre:=bU H.tofK ks ke cap x[i] hxi ht hr
      have h14:=qE hru c1 hxi.t.1
      have hp:=dn x[i].k s c2
      rw [c2] at hkg
      simp only [aR,eIt] at hre hc
      have this:=ih (i+1) (by omega) (fun y q=>by
       rw [List.take_succ_eq_append_getElem h1] at q
       rcases List.mem_append.1 q with q | q
       · exact hok y q
       · simp at q;rw [q];exact c1) (s++[x[i].k])
      unfold aV at this
      have hE:itE ks cap x[i] false=if aX (aF ks x[i].t).p x[i] cap=0 then 0 else 14:=by unfold itE;simp [c1]
      generalize iK (aF ks x[i].t).p x[i] cap=N at *
      generalize aX (aF ks x[i].t).p x[i] cap=E at *
      by_cases c3:E=0
      · subst c3
        have hV:itE ks cap x[i] false=0:=by rw [hE];simp
        rw [hV]
        simp only [ne_eq,not_true_eq_false,if_false]
        generalize (if aI ks cap (s++[x[i].k]) (List.drop (i+1) x)≠0 then ((aI ks cap (s++[x[i].k]) (List.drop (i+1) x),[]):Int × List En) else O)=Z at *
        rw [ck_unf w2043_B0.eq_1]
        simp at this
        simp (disch:=omega) [h1,hc,hg,w401,hkg,hp,hre,ak,H.inl,inlB,H.pp,ppB]
        exact this
      · have c4:E=14:=by rcases h14 with q | q;exact absurd q c3;exact q
        subst c4
        have hV:itE ks cap x[i] false=14:=by rw [hE];simp
        rw [hV,if_pos (by simp),if_pos (by simp)]
        rw [ck_unf w2043_B0.eq_1]
        simp (disch:=omega) [h1,hc,hg,w401,hkg,hp,hre,H.inl,inlB,H.pp,ppB]
        exact ⟨_,_,_,rfl,by simp,.inl ⟨rfl,rfl⟩⟩
    · have hE:itE ks cap x[i] true=8:=by unfold itE;simp [c1]
      rw [hE,if_pos (by simp),if_pos (by simp)]
      rw [c2] at hkg
      simp only [eIt] at hc
      rw [ck_unf w2043_B0.eq_1]
      simp (disch:=omega) [h1,hc,hg,w401,hkg,H.inl,inlB,H.pp,ppB]
      exact ⟨_,_,_,rfl,by simp,.inl ⟨rfl,rfl⟩⟩
theorem ug (H:bf C) (ks:List Kd) (ke:Bool) (cap:Int) (hr:bH ks) (l:List En) (e:Bool) (hl:l.length≤1000000) (hs:∀ x ∈ l,aK x) (a:Int) (x:List It) (xe:Bool) (hx:∀ y ∈ x,bZ y) (hxl:x.length≤1000000) (ins:Bool) (cnt:Int)
 (hb:∀ y ∈ x,aP ks.length y=true→-9223372036854775808≤(aF ks y.t).b∧(aF ks y.t).b≤9223372036854775807) (hsum:l.length+x.length≤1000000) (hin:ins=true→0≤a∧a≤l.length) :
 DoY (if ckE ks cap l≠0 then aV (ckE ks cap l) else if ins=false then aV 4 else if 1024 < cnt then aV 3 else if aI ks cap (aA l) x≠0 then aV (aI ks cap (aA l) x) else dB (spl l a.toNat 0 (x.map (fre ks)))) (RnW C 2043 [aR ks ke cap,aL l e,.agg [.bool ins,.int .i64 cnt,.ro 4 (x.map cIt) xe,.fn 401 [.ptr 25 0 0],.fn 220 [.rop [.ro 6 (l.map eEn) e],.rop [.int .i64 a]]]] [(0,.cells 1 [[.ro 6 [] true]] true true),(25,.cells 1 [[.map 26]] true false),(26,.map (bI (aU [] l)))] 29):=by
 have hc:=aW H.tofK ks ke cap hr l e hl hs
 rw [aS (args:=[aR ks ke cap,aL l e,.agg [.bool ins,.int .i64 cnt,.ro 4 (x.map cIt) xe,.fn 401 [.ptr 25 0 0],.fn 220 [.rop [.ro 6 (l.map eEn) e],.rop [.int .i64 a]]]]) H.ql rfl [(0,.cells 1 [[.ro 6 [] true]] true true),(25,.cells 1 [[.map 26]] true false),(26,.map (bI (aU [] l)))] 29]
 by_cases c1:ckE ks cap l=0
 · have hru:=ku c1
   rw [c1] at hc
   rw [if_neg (by simpa using c1)]
   cases ins
   · rw [if_pos rfl]
     unfold aV
     simp [w2043,hc,H.inl,inlB,H.pp,ppB]
     exact ⟨_,_,_,rfl,by simp,.inl ⟨rfl,rfl⟩⟩
   · rw [if_neg (by simp)]
     obtain ⟨ha1,ha2⟩:=hin rfl
     obtain ⟨a',rfl⟩:∃ a':Nat,a=a':=⟨a.toNat,by omega⟩
     by_cases c2:1024 < cnt
     · rw [if_pos c2]
       unfold aV
       simp [w2043,hc,c2,H.inl,inlB,H.pp,ppB]
       exact ⟨_,_,_,rfl,by simp,.inl ⟨rfl,rfl⟩⟩
     · rw [if_neg c2]
       have h:=jh H ks ke cap hr hru l e hl hs a' (by omega) x xe hx hxl true cnt hb hsum x.length 0 (by simp) (by simp) (aU [] l)
       rw [List.drop_zero] at h
       rw [dQ ks cap x (aU [] l) (aA l) (fun j=>by rw [fD];simp)] at h
       simp only [Int.toNat_natCast]
       generalize (if aI ks cap (aA l) x≠0 then aV (aI ks cap (aA l) x) else dB (spl l a' 0 (x.map (fre ks))))=Z at *
       simp at h
       simp [w2043,hc,c2,H.inl,inlB,H.pp,ppB]
       exact h
 · rw [if_pos c1]
   unfold aV
   simp [w2043,hc,c1,H.inl,inlB,H.pp,ppB]
   exact ⟨_,_,_,rfl,by simp,.inl ⟨rfl,rfl⟩⟩
theorem tq (H:bf C) (ks:List Kd) (ke:Bool) (cap:Int) (hr:bH ks) (l:List En) (e:Bool) (hl:l.length≤1000000) (hs:∀ x ∈ l,aK x)  (x:List It) (xe:Bool) (hx:∀ y ∈ x,bZ y) (hxl:x.length≤1000000)  (cnt:Int)
 (hb:∀ y ∈ x,aP ks.length y=true→-9223372036854775808≤(aF ks y.t).b∧(aF ks y.t).b≤9223372036854775807)  :
 DoY (if ckE ks cap l≠0 then aV (ckE ks cap l) else if 1024 < cnt then aV 3 else if aI ks cap [] x≠0 then aV (aI ks cap [] x) else dB (x.map (fre ks))) (RnW C 2043 [aR ks ke cap,aL l e,.agg [.bool true,.int .i64 cnt,.ro 4 (x.map cIt) xe,.fn 401 [.ptr 13 0 0],.fn 218 []]] [(0,.cells 1 [[.ro 6 [] true]] true true),(13,.cells 1 [[.map 14]] true false),(14,.map (bI (aU [] [])))] 17):=by
 have hc:=aW H.tofK ks ke cap hr l e hl hs
 rw [aS (args:=[aR ks ke cap,aL l e,.agg [.bool true,.int .i64 cnt,.ro 4 (x.map cIt) xe,.fn 401 [.ptr 13 0 0],.fn 218 []]]) H.ql rfl [(0,.cells 1 [[.ro 6 [] true]] true true),(13,.cells 1 [[.map 14]] true false),(14,.map (bI (aU [] [])))] 17]
 by_cases c1:ckE ks cap l=0
 · have hru:=ku c1
   rw [c1] at hc
   rw [if_neg (by simpa using c1)]
   by_cases c2:1024 < cnt
   · rw [if_pos c2]
     unfold aV
     simp [w2043,hc,c2,H.inl,inlB,H.pp,ppB]
     exact ⟨_,_,_,rfl,by simp,.inl ⟨rfl,rfl⟩⟩
   · rw [if_neg c2]
     have h:=iZ H ks ke cap hr hru x xe hx hxl true cnt hb x.length 0 (by simp) (by simp) (aU [] [])
     rw [List.drop_zero] at h
     simp only [aU] at h ⊢
     simp [w2043,hc,c2,H.inl,inlB,H.pp,ppB]
     by_cases c3:aI ks cap [] x=0
     · simp [c3] at h ⊢
       exact h
     · simp [c3] at h ⊢
       exact h
 · rw [if_pos c1]
   unfold aV
   simp [w2043,hc,c1,H.inl,inlB,H.pp,ppB]
   exact ⟨_,_,_,rfl,by simp,.inl ⟨rfl,rfl⟩⟩
def oeY (nid:Nat) (Z:Int × List En):AV × WUpd:=if Z.2=[] then (.tup [.agg [.ro 6 [] true],.int .i64 Z.1],[]) else (.tup [.agg [.sl nid 6 0 Z.2.length Z.2.length true],.int .i64 Z.1],[(nid,some (.cells 6 (Z.2.map eEn) true true))])
theorem iw {f:Nat} {args:List AV} {v:AV} {e:Int} {R:List En} {h:WHeap} {n:Nat} (hr:RnW C f args [] 0=some (.tup [.agg [v],.int .i64 e],h,n)) (hV:VY v h R) (nid:Nat):freshCallW (RnW C) f args nid=some (oeY nid (e,R)):=by
 unfold freshCallW
 rw [hr]
 rcases hV with ⟨rfl,rfl⟩ | ⟨hne,b,rfl,hb⟩
 · simp [oeY,ob,ownOf,ownOfL,Pav.get,freshOfW,hand,handL,om]
 · simp [oeY,hne,hb,ob,ownOf,ownOfL,Pav.get,freshOfW,hand,handL,om]
theorem pK {v:AV} {h:WHeap} {R:List En} {cs:List (List AV)} {dt:Bool} (hV:VY v h R) (h0:Pav.get h 0=some (.cells 1 [[.ro 6 [] true]] true true)):VY v (put h 0 (.cells 1 cs true dt)) R:=by
 rcases hV with q | ⟨hne,b,rfl,hb⟩
 · exact .inl q
 · refine .inr ⟨hne,b,rfl,?_⟩
   rw [get_put,if_neg]
   · exact hb
   · rintro rfl
     rw [h0] at hb
     simp at hb
theorem mX (H:bf C) (ks:List Kd) (ke:Bool) (cap:Int) (hr:bH ks) (l:List En) (e:Bool) (hl:l.length≤1000000) (hs:∀ x ∈ l,aK x) (a:Int) (x:List It) (xe:Bool) (hx:∀ y ∈ x,bZ y) (hxl:x.length≤1000000)
 (hb:∀ y ∈ x,aP ks.length y=true→-9223372036854775808≤(aF ks y.t).b∧(aF ks y.t).b≤9223372036854775807) (hsum:l.length+x.length≤1000000) (nid:Nat) :
 freshCallW (RnW C) 4109 [aR ks ke cap,aL l e,.int .i64 a,.ro 4 (x.map cIt) xe] nid =
  some (oeY nid (if ckE ks cap l≠0 then aV (ckE ks cap l) else if inR a 0 l.length=false then aV 4 else if 1024 < (l.length:Int)+x.length then aV 3 else if aI ks cap (aA l) x≠0 then aV (aI ks cap (aA l) x) else dB (spl l a.toNat 0 (x.map (fre ks))))):=by
 have hw:=bC H.tobn a 0 l.length (by omega)
 have hu:=gJ H.todW l e hl
 obtain ⟨v,h',n',hd,hB,hV⟩:=ug H ks ke cap hr l e hl hs a x xe hx hxl (inR a 0 l.length) ((l.length:Int)+x.length) hb hsum (fun q=>by unfold inR at q;simp at q;omega)
 generalize (if ckE ks cap l≠0 then aV (ckE ks cap l) else if inR a 0 l.length=false then aV 4 else if 1024 < (l.length:Int)+x.length then aV 3 else if aI ks cap (aA l) x≠0 then aV (aI ks cap (aA l) x) else dB (spl l a.toNat 0 (x.map (fre ks))))=Z at *
 obtain ⟨ez,R⟩:=Z
 simp only at hd hV
 have hrun:∃ dt,RnW C 4109 [aR ks ke cap,aL l e,.int .i64 a,.ro 4 (x.map cIt) xe] [] 0=some (.tup [.agg [v],.int .i64 ez],put h' 0 (.cells 1 [[v]] true dt),n'):=by
  rw [aS H.uU rfl]
  generalize inR a 0 l.length=ins at *
  try simp at hd
  rcases hV with ⟨rfl,rfl⟩ | ⟨hne,b,rfl,hbb⟩
  · simp (disch:=omega) [w4109,ak,hw,hu,hd,hB,H.inl,inlB,H.pp,ppB]
  · simp (disch:=omega) [w4109,ak,hw,hu,hd,hB,H.inl,inlB,H.pp,ppB]
 obtain ⟨dt,hrun⟩:=hrun
 exact iw hrun (pK hV hB) nid
theorem lJ (H:bf C) (ks:List Kd) (ke:Bool) (cap:Int) (hr:bH ks) (l:List En) (e:Bool) (hl:l.length≤1000000) (hs:∀ x ∈ l,aK x) (x:List It) (xe:Bool) (hx:∀ y ∈ x,bZ y) (hxl:x.length≤1000000)
 (hb:∀ y ∈ x,aP ks.length y=true→-9223372036854775808≤(aF ks y.t).b∧(aF ks y.t).b≤9223372036854775807) (nid:Nat) :
 freshCallW (RnW C) 4108 [aR ks ke cap,aL l e,.ro 4 (x.map cIt) xe] nid =
  some (oeY nid (if ckE ks cap l≠0 then aV (ckE ks cap l) else if 1024 < (x.length:Int) then aV 3 else if aI ks cap [] x≠0 then aV (aI ks cap [] x) else dB (x.map (fre ks)))):=by
 have hu:=kJ H.todW [] true (by simp)
 obtain ⟨v,h',n',hd,hB,hV⟩:=tq H ks ke cap hr l e hl hs x xe hx hxl (x.length:Int) hb
 generalize (if ckE ks cap l≠0 then aV (ckE ks cap l) else if 1024 < (x.length:Int) then aV 3 else if aI ks cap [] x≠0 then aV (aI ks cap [] x) else dB (x.map (fre ks)))=Z at *
 obtain ⟨ez,R⟩:=Z
 simp only at hd hV
 have hrun:∃ dt,RnW C 4108 [aR ks ke cap,aL l e,.ro 4 (x.map cIt) xe] [] 0=some (.tup [.agg [v],.int .i64 ez],put h' 0 (.cells 1 [[v]] true dt),n'):=by
  rw [aS H.vH rfl]
  simp at hd hu
  rcases hV with ⟨rfl,rfl⟩ | ⟨hne,b,rfl,hbb⟩
  · simp (disch:=omega) [w4108,ak,hu,hd,hB,H.inl,inlB,H.pp,ppB]
  · simp (disch:=omega) [w4108,ak,hu,hd,hB,H.inl,inlB,H.pp,ppB]
 obtain ⟨dt,hrun⟩:=hrun
 exact iw hrun (pK hV hB) nid
theorem sZ (H:bf C) (ks:List Kd) (ke:Bool) (cap:Int) (hr:bH ks) (l:List En) (e:Bool) (hl:l.length≤1000000) (hs:∀ x ∈ l,aK x) (c1:ckE ks cap l=0) (a c:Nat) (hac:a+c≤l.length) (hov:ovE ((spl l a c []).map En.own)=0) (nid:Nat) :
 freshCallW (RnW C) 3003 [aR ks ke cap,aL l e,.agg [.bool true,.int .i64 0,.ro 4 [] true,.nilf,.fn 222 [.rop [.ro 6 (l.map eEn) e],.rop [.int .i64 a],.rop [.int .i64 c]]]] nid=some (oeY nid (0,(spl l a c []).map En.own)):=by
 have hc:=aW H.todW.tofP.tofK ks ke cap hr l e hl hs
 rw [c1] at hc
 have hf:=fresh_ok H.todW.tofP.tofK ks ke cap [] true (by simp) (by simp)
 have hm:=jC H.todW.tofP (.ro 6 [] true) ⟨_,_,rfl⟩ l e a c hl hac
 have hm2:∀ x ∈ spl l a c [],aK x:=fun x q=>by
  simp only [spl,List.append_nil,List.mem_append] at q
  rcases q with q | q
  · exact hs x (List.mem_of_mem_take q)
  · exact hs x (List.mem_of_mem_drop q)
 have hlen:=aO l [] a c hac
 have hlen2:(spl l a c []).length≤1000000:=by rw [hlen];simp;omega
 generalize spl l a c []=R at *
 have ho:=fun nid=>iQ H R true hlen2 (fun x q=>(hm2 x q).i.m) nid
 have ht:=bD H.todW.tofP.tofK.tobn (R.map En.own) true (by simpa using hlen2) (fun x q=>by
  obtain ⟨y,hy,rfl⟩:=List.mem_map.1 q
  exact ⟨⟨(hm2 y hy).i.k,(hm2 y hy).i.t,(hm2 y hy).i.m⟩,(hm2 y hy).s⟩)
 rw [hov] at ht
 simp only [List.map_nil] at hf
 simp only [aL,aR] at hc hf hm ht
 generalize R.map En.own=L at *
 by_cases hne:L=[]
 · subst hne
   simp [ofR] at ho hc hf hm ht
   have hrun:∃ q m,RnW C 3003 [aR ks ke cap,aL l e,.agg [.bool true,.int .i64 0,.ro 4 [] true,.nilf,.fn 222 [.rop [.ro 6 (l.map eEn) e],.rop [.int .i64 a],.rop [.int .i64 c]]]] [] 0=some (.tup [.agg [.ro 6 [] true],.int .i64 0],q,m):=by
    simp only [aL,aR]
    rw [aS H.o9 rfl]
    simp [w3003,ck_unf w3003_B0.eq_1,ck_unf w3003_c0.eq_1,hc,hf,hm,ho,ht,H.inl,inlB,H.pp,ppB]
   obtain ⟨q,m,hrun⟩:=hrun
   exact iw hrun (.inl ⟨rfl,rfl⟩) nid
 · simp only [ofR,if_neg hne] at ho
   have hTK:List.take L.length (L.map eEn)=L.map eEn:=List.take_of_length_le (by simp)
   have hrun:∃ q b m,Pav.get q b=some (.cells 6 (L.map eEn) true true)∧RnW C 3003 [aR ks ke cap,aL l e,.agg [.bool true,.int .i64 0,.ro 4 [] true,.nilf,.fn 222 [.rop [.ro 6 (l.map eEn) e],.rop [.int .i64 a],.rop [.int .i64 c]]]] [] 0=some (.tup [.agg [.sl b 6 0 L.length L.length true],.int .i64 0],q,m):=by
    simp only [aL,aR]
    rw [aS H.o9 rfl]
    try simp at hm
    simp [w3003,ck_unf w3003_B0.eq_1,ck_unf w3003_c0.eq_1,hc,hf,hm,ho,ht,hTK,hne,H.inl,inlB,H.pp,ppB]
    exact ⟨_,_,by simp,rfl,rfl⟩
   obtain ⟨q,b,m,hq,hrun⟩:=hrun
   exact iw hrun (.inr ⟨hne,b,rfl,hq⟩) nid
theorem uq (H:bf C) (ks:List Kd) (ke:Bool) (cap:Int) (hr:bH ks) (l:List En) (e:Bool) (hl:l.length≤1000000) (hs:∀ x ∈ l,aK x) (c1:ckE ks cap l=0) (a c:Nat) (hac:a+c≤l.length) (hov:ovE ((spl l a c []).map En.own)=0) (nid:Nat) :
 freshCallW (RnW C) 4110 [aR ks ke cap,aL l e,.int .i64 a,.int .i64 c] nid=some (oeY nid (0,(spl l a c []).map En.own)):=by
 have h:=fun nid=>sZ H ks ke cap hr l e hl hs c1 a c hac hov nid
 have hw:=bC H.todW.tofP.tofK.tobn a c l.length (by omega)
 have hin:inR a c l.length=true:=by unfold inR;simp;omega
 rw [hin] at hw
 generalize (spl l a c []).map En.own=L at *
 by_cases hne:L=[]
 · subst hne
   simp [oeY] at h
   have hrun:∃ q m,RnW C 4110 [aR ks ke cap,aL l e,.int .i64 a,.int .i64 c] [] 0=some (.tup [.agg [.ro 6 [] true],.int .i64 0],q,m):=by
    simp only [aL,aR] at h ⊢
    rw [aS H.pU rfl]
    simp [w4110,hw,h,H.inl,inlB,H.pp,ppB]
   obtain ⟨q,m,hrun⟩:=hrun
   exact iw hrun (.inl ⟨rfl,rfl⟩) nid
 · simp only [oeY,if_neg hne] at h
   have hrun:∃ q b m,Pav.get q b=some (.cells 6 (L.map eEn) true true)∧RnW C 4110 [aR ks ke cap,aL l e,.int .i64 a,.int .i64 c] [] 0=some (.tup [.agg [.sl b 6 0 L.length L.length true],.int .i64 0],q,m):=by
    simp only [aL,aR] at h ⊢
    rw [aS H.pU rfl]
    simp [w4110,hw,h,hne,H.inl,inlB,H.pp,ppB]
    exact ⟨_,_,by simp,rfl,rfl⟩
   obtain ⟨q,b,m,hq,hrun⟩:=hrun
   exact iw hrun (.inr ⟨hne,b,rfl,hq⟩) nid
end Go.D
end
section
namespace Go.D
open Go Go.Pav Go.Pw P
attribute [-simp] List.getElem_cons_drop
theorem qG {ks:List Kd} {cap:Int} {e:En} {b:Bool} (h:enE ks cap e b=0):b=false:=by
 cases b with
 | false=>rfl
 | true =>
  have h1:itE ks cap e.i true≠0:=by
   unfold itE
   split
   · simp
   · rw [if_pos rfl];simp
  unfold enE at h
  rw [if_pos h1] at h
  exact absurd h h1
theorem su (ks:List Kd) (cap:Int):∀ (l:List En) (seen:List Int),chk ks cap seen l=0↔(∀ e ∈ l,enE ks cap e false=0∧e.i.k ∉ seen)∧(aA l).Nodup:=by
 intro l
 induction l with
 | nil=>intro seen;simp [chk,aA]
 | cons a r ih =>
  intro seen
  rw [chk]
  constructor
  · intro h
    split at h
    · rename_i hc;exact absurd h hc
    · rename_i hc
      have hc:enE ks cap a (seen.contains a.i.k)=0:=by simpa using hc
      have hf:=qG hc
      rw [hf] at hc
      have hns:a.i.k ∉ seen:=by simpa using hf
      obtain ⟨q1,q2⟩:=(ih _).1 h
      refine ⟨?_,?_⟩
      · intro e he
        rcases List.mem_cons.1 he with rfl | he
        · exact ⟨hc,hns⟩
        · obtain ⟨p1,p2⟩:=q1 e he
          exact ⟨p1,fun hm=>p2 (by simp [hm])⟩
      · simp only [aA,List.map_cons,List.nodup_cons] at q2 ⊢
        refine ⟨?_,q2⟩
        intro hm
        obtain ⟨e,he,hk⟩:=List.mem_map.1 hm
        exact (q1 e he).2 (by simp [hk])
  · rintro ⟨q1,q2⟩
    obtain ⟨p1,p2⟩:=q1 a (List.mem_cons_self ..)
    have hf:seen.contains a.i.k=false:=by simpa using p2
    rw [hf,if_neg (by simp [p1])]
    rw [ih]
    simp only [aA,List.map_cons,List.nodup_cons] at q2 ⊢
    refine ⟨?_,q2.2⟩
    intro e he
    refine ⟨(q1 e (List.mem_cons_of_mem _ he)).1,?_⟩
    intro hm
    rcases List.mem_append.1 hm with hm | hm
    · exact (q1 e (List.mem_cons_of_mem _ he)).2 hm
    · simp only [List.mem_singleton] at hm
      exact q2.1 (List.mem_map.2 ⟨e,he,hm⟩)
theorem iH (ks:List Kd) (cap:Int) (l:List En):ckE ks cap l=0↔dV ks cap=true∧l.length≤1024∧(∀ e ∈ l,enE ks cap e false=0)∧(aA l).Nodup∧ovE l=0:=by
 have hi:=su ks cap l []
 unfold ckE
 constructor
 · intro h
   split at h
   · cases h
   · rename_i h1
     split at h
     · cases h
     · rename_i h2
       split at h
       · rename_i h3;exact absurd h h3
       · rename_i h3
         have h3:chk ks cap [] l=0:=by simpa using h3
         obtain ⟨q1,q2⟩:=hi.1 h3
         exact ⟨by simpa using h1,by omega,fun e he=>(q1 e he).1,q2,h⟩
 · rintro ⟨h1,h2,h3,h4,h5⟩
   have h6:chk ks cap [] l=0:=hi.2 ⟨fun e he=>⟨h3 e he,by simp⟩,h4⟩
   rw [if_neg (by simp [h1]),if_neg (by omega),if_neg (by simp [h6]),h5]
theorem rF {ks:List Kd} {cap:Int} {x:It} {b:Bool} (h:itE ks cap x b=0):b=false:=by
 cases b with
 | false=>rfl
 | true =>
  unfold itE at h
  split at h
  · simp at h
  · rw [if_pos rfl] at h;simp at h
theorem mQ (ks:List Kd) (cap:Int):∀ (x:List It) (seen:List Int),aI ks cap seen x=0↔(∀ y ∈ x,itE ks cap y false=0∧y.k ∉ seen)∧(x.map fun y=>y.k).Nodup:=by
 intro x
 induction x with
 | nil=>intro seen;simp [aI]
 | cons a r ih =>
  intro seen
  rw [aI]
  constructor
  · intro h
    split at h
    · rename_i hc;exact absurd h hc
    · rename_i hc
      have hc:itE ks cap a (seen.contains a.k)=0:=by simpa using hc
      have hf:=rF hc
      rw [hf] at hc
      have hns:a.k ∉ seen:=by simpa using hf
      obtain ⟨q1,q2⟩:=(ih _).1 h
      refine ⟨?_,?_⟩
      · intro e he
        rcases List.mem_cons.1 he with rfl | he
        · exact ⟨hc,hns⟩
        · obtain ⟨p1,p2⟩:=q1 e he
          exact ⟨p1,fun hm=>p2 (by simp [hm])⟩
      · simp only [List.map_cons,List.nodup_cons]
        refine ⟨?_,q2⟩
        intro hm
        obtain ⟨e,he,hk⟩:=List.mem_map.1 hm
        exact (q1 e he).2 (by simp [hk])
  · rintro ⟨q1,q2⟩
    obtain ⟨p1,p2⟩:=q1 a (List.mem_cons_self ..)
    have hf:seen.contains a.k=false:=by simpa using p2
    rw [hf,if_neg (by simp [p1])]
    rw [ih]
    simp only [List.map_cons,List.nodup_cons] at q2
    refine ⟨?_,q2.2⟩
    intro e he
    refine ⟨(q1 e (List.mem_cons_of_mem _ he)).1,?_⟩
    intro hm
    rcases List.mem_append.1 hm with hm | hm
    · exact (q1 e (List.mem_cons_of_mem _ he)).2 hm
    · simp only [List.mem_singleton] at hm
      exact q2.1 (List.mem_map.2 ⟨e,he,hm⟩)
def kdK (b:Int):Kd:=⟨⟨1,[114,111,119],[],[],true,[],[],true⟩,b,false,0⟩
def ksK:List Kd:=[kdK 10,kdK 20]
def itK (i:Nat):It:=⟨(i:Int)+1,((i % 2:Nat):Int),[],[],true⟩
def xsK:List It:=(List.range 1024).map itK
def lsK:List En:=(xsK.map (fre ksK)).map En.own
def leK:List En:=(spl lsK 0 1 []).map En.own
def i1K:It:=⟨1,0,[],[],true⟩
def i2K:It:=⟨2000,0,[],[],true⟩
def fuK:List En:=(spl leK 1023 0 ([i1K].map (fre ksK))).map En.own
theorem ruK:bH ksK:=⟨by decide,fun k hk=>by
 have:k=kdK 10∨k=kdK 20:=by simpa [ksK] using hk
 rcases this with rfl | rfl <;> exact aN.mk _ ⟨by simp [kdK],by simp [kdK],by simp [kdK]⟩ (by simp [kdK])⟩
theorem vg:dV ksK 1=true:=by decide +kernel
theorem keysL:aA lsK=(List.range 1024).map fun i:Nat=>(i:Int)+1:=by decide +kernel
theorem rQ:aA leK=(List.range 1023).map fun i:Nat=>(i:Int)+2:=by decide +kernel
theorem xP (n:Nat) (c:Int):((List.range n).map fun i:Nat=>(i:Int)+c).Nodup:=by
 refine List.Pairwise.map _ (fun a b h=>?_) (List.nodup_range (n:=n))
 intro q
 exact h (by omega)
theorem enL:lsK.all (fun e=>decide (enE ksK 1 e false=0))=true:=by decide +kernel
theorem BF:leK.all (fun e=>decide (enE ksK 1 e false=0))=true:=by decide +kernel
theorem itX:xsK.all (fun x=>decide (itE ksK 1 x false=0))=true:=by decide +kernel
theorem eG:lsK.length=1024:=by simp [lsK,xsK]
theorem dP:leK.length=1023:=by simp [leK,spl,eG]
theorem mO:fuK.length=1024:=by simp [fuK,spl,dP]
theorem ckL:ckE ksK 1 lsK=0 :=
 (iH ksK 1 lsK).2 ⟨vg,by rw [eG];omega,fun e he=>of_decide_eq_true (List.all_eq_true.1 enL e he),by rw [keysL];exact xP _ _,by decide +kernel⟩
theorem zi:ckE ksK 1 leK=0 :=
 (iH ksK 1 leK).2 ⟨vg,by rw [dP];omega,fun e he=>of_decide_eq_true (List.all_eq_true.1 BF e he),by rw [rQ];exact xP _ _,by decide +kernel⟩
theorem zT:(xsK.map fun y=>y.k)=(List.range 1024).map fun i:Nat=>(i:Int)+1:=by decide +kernel
theorem CV:aI ksK 1 [] xsK=0 :=
 (mQ ksK 1 xsK []).2 ⟨fun y hy=>⟨of_decide_eq_true (List.all_eq_true.1 itX y hy),by simp⟩,by rw [zT];exact xP _ _⟩
theorem zf:aI ksK 1 (aA leK) [i1K]=0:=by
 refine (mQ ksK 1 [i1K] _).2 ⟨fun y hy=>?_,by simp⟩
 obtain rfl:y=i1K:=by simpa using hy
 refine ⟨by decide +kernel,?_⟩
 rw [rQ]
 intro h
 obtain ⟨i,_,hi⟩:=List.mem_map.1 h
 simp only [i1K] at hi
 omega
theorem xIn:∀ y ∈ xsK,bZ y:=by
 intro y hy
 obtain ⟨i,hi,rfl⟩:=List.mem_map.1 hy
 have:=List.mem_range.1 hi
 exact ⟨by simp only [itK];omega,by simp only [itK];omega,by simp [itK]⟩
theorem Af:∀ y ∈ [i1K],bZ y:=fun y hy=>by
 obtain rfl:y=i1K:=by simpa using hy
 exact ⟨by decide,by decide,by decide⟩
theorem zO:∀ y ∈ [i2K],bZ y:=fun y hy=>by
 obtain rfl:y=i2K:=by simpa using hy
 exact ⟨by decide,by decide,by decide⟩
def inB (e:En):Bool:=decide (0≤e.i.k)&&decide (e.i.k < 18446744073709551616)&&decide (0≤e.i.t)&&decide (e.i.t≤255)&&decide (e.i.m.length≤1000000)&&decide (-9223372036854775808≤e.s)&&decide (e.s≤9223372036854775807)
theorem qH {e:En} (h:inB e=true):aK e:=by
 simp only [inB,Bool.and_eq_true,decide_eq_true_eq] at h
 obtain ⟨⟨⟨⟨⟨⟨h1,h2⟩,h3⟩,h4⟩,h5⟩,h6⟩,h7⟩:=h
 exact ⟨⟨⟨h1,h2⟩,⟨h3,h4⟩,h5⟩,⟨h6,h7⟩⟩
theorem lIn:∀ e ∈ lsK,aK e:=fun e he=>qH (List.all_eq_true.1 (by decide +kernel:lsK.all inB=true) e he)
theorem Bf:∀ e ∈ leK,aK e:=fun e he=>qH (List.all_eq_true.1 (by decide +kernel:leK.all inB=true) e he)
theorem uo (t:Int):-9223372036854775808≤(aF ksK t).b∧(aF ksK t).b≤9223372036854775807:=by
 unfold aF ksK
 rcases ht:t.toNat with _ | _ | n <;> simp [kdK]
end Go.D
end
section
namespace Go.Pw
open Go Go.Pav
abbrev Orc:=Nat→List AV→Option AV
def orcRun (orc:Orc) (run:WRun):WRun:=fun f args h n =>
 match h,n with
 | [],0=>(match orc f args with
  | some v=>some (v,[],0)
  | none=>run f args [] 0)
 | h,n=>run f args h n
structure OrcOk (C:WProg) (orc:Orc):Prop where
 inl:∀ f vs v,orc f vs=some v→C.inl f=false
 ptr:∀ f vs v,orc f vs=some v→hasPtrL vs=false
 val:∀ f vs v,orc f vs=some v→FnW C f vs=some v
 frz:∀ f vs v,orc f vs=some v→frzW [] frzDepth v=some v
section
variable (C:WProg) (orc:Orc)
def evO:Nat→WEv
 | 0,_,_,_=>none
 | n+1,base,c,s =>
  match c with
  | .skip=>some (.norm,s)
  | .ops l a=>ob (evOpsW C (orcRun orc (runWithW C (evO n))) l s) fun s=>om (canonF base a s) fun s=>(.norm,s)
  | .draw l un a=>ob (evDrawW C (orcRun orc (runWithW C (evO n))) l s.next ⟨s.env,s.heap,s.next+l.length⟩ []) (drawEndW base un a)
  | .seq a b=>ob (evO n base a s) (evSeqW (evO n base b))
  | .cond c a b=>evCondW (evO n base a) (evO n base b) (c.ev s.env) s
  | .block id b a=>ob (evO n base b s) (evBlockW base id a)
  | .loop a b=>ob (canon base a s) fun s=>ob (evO n base b s) (evSeqW (evO n base (.loop a b)))
  | .exit id=>some (.exit id,s)
  | .ret=>some (.ret,s)
  | .fail=>none
  | .prim k=>om (primF k (primArgs (primN k) 0 s.env)) fun v=>(.ret,⟨putE s.env 9 v,s.heap,s.next⟩)
  | .iso pre ap post a=>ob (evIsoW C (orcRun orc (runWithW C (evO n))) pre ap post s) fun s=>om (canonF base a s) fun s=>(.norm,s)
  | .cln zz z b=>match (Pav.get s.env 0).bind isEmptyRo with
   | some z'=>if z'=z∧zz.length=z∧8≤n then some (.ret,⟨[(2,.sl s.next z 0 0 0 true)],Pav.put s.heap s.next (.cells z [] true true),s.next+1⟩) else none
   | none=>evO n base (clnC zz z b) s
end
section
variable {C:WProg} {orc:Orc} {r r':WRun}
def RunLeC (C:WProg) (r r':WRun):Prop:=∀ f args h nid n c,evCallW C r f args h nid n=some c→evCallW C r' f args h nid n=some c
theorem evActW_mc (hr:RunLeC C r r') {op:COp} {nid:Nat} {e:Env} {h:WHeap} {n:Nat} {d:WDid} (hd:evActW C r op nid e h n=some d):evActW C r' op nid e h n=some d:=by
 unfold evActW at hd ⊢
 split
 · rename_i hc;rw [hc] at hd;cases hd
 · rename_i hc;rw [hc] at hd;exact om_mono hd fun c hc=>hr _ _ _ _ _ _ hc
 · rename_i hc;rw [hc] at hd;exact hd
theorem evOpW_mc (hr:RunLeC C r r') {o:COper} {nid:Nat} {e:Env} {h:WHeap} {n:Nat} {d:WDid} (hd:evOpW C r o nid e h n=some d):evOpW C r' o nid e h n=some d:=by
 unfold evOpW at hd ⊢
 split
 · rename_i hc;rw [hc] at hd;cases hd
 · rename_i hc;rw [hc] at hd;exact hd
 · rename_i hc;rw [hc] at hd;exact evActW_mc hr hd
theorem evOpsW_mc (hr:RunLeC C r r'):∀ (l:List COper) (s s':WSt),evOpsW C r l s=some s'→evOpsW C r' l s=some s':=by
 intro l
 induction l with
 | nil=>intro s s' h;exact h
 | cons o l ih=>intro s s' h;exact ob_mono h (fun d hd=>evOpW_mc hr hd) fun d hd=>ih _ _ hd
theorem evDrawW_mc (hr:RunLeC C r r'):∀ (l:List COper) (nid:Nat) (s:WSt) (ds:List WDid) (x:WSt × List WDid),evDrawW C r l nid s ds=some x→evDrawW C r' l nid s ds=some x:=by
 intro l
 induction l with
 | nil=>intro nid s ds x h;exact h
 | cons o l ih=>intro nid s ds x h;exact ob_mono h (fun d hd=>evOpW_mc hr hd) fun d hd=>ih _ _ _ _ hd
theorem orcRun_some {f:Nat} {args:List AV} {h:WHeap} {n:Nat} {x:AV × WHeap × Nat} (hx:orcRun orc r f args h n=some x):r f args h n=some x∨(∃ v,orc f args=some v∧h=[]∧n=0∧x=(v,[],0)):=by
 unfold orcRun at hx
 split at hx
 · split at hx
   · rename_i v hv
     exact .inr ⟨v,hv,rfl,rfl,(Option.some.inj hx).symm⟩
   · exact .inl hx
 · exact .inl hx
theorem orc_le (ok:OrcOk C orc) (hr:RunLeW r (RnW C)):RunLeC C (orcRun orc r) (RnW C):=by
 intro f args h nid n c hc
 unfold evCallW at hc ⊢
 split
 · rename_i hi
   rw [if_pos hi] at hc
   split
   · rename_i hf
     rw [if_pos hf] at hc
     obtain ⟨az,h1,hc⟩:=ob_some hc
     by_cases hdp:isDp f=true
     · rw [if_pos hdp] at hc
       obtain ⟨x,h3,hc⟩:=ob_some hc
       rw [h1]
       rcases orcRun_some h3 with h3 | ⟨v,hv,_⟩
       · simp only [ob,if_pos hdp]
         rw [hr _ _ _ _ _ h3];exact hc
       · rw [ok.inl _ _ _ hv] at hi;cases hi
     rw [if_neg hdp] at hc
     obtain ⟨x,h2,hend⟩:=ob_some hc
     obtain ⟨y,h3,h4⟩:=ob_some h2
     rw [h1]
     rcases orcRun_some h3 with h3 | ⟨v,hv,_⟩
     · simp only [ob,if_neg hdp]
       unfold freshCallW
       rw [hr _ _ _ _ _ h3]
       simp only [ob]
       rw [h4];exact hend
     · rw [ok.inl _ _ _ hv] at hi;cases hi
   · rename_i hf
     rw [if_neg hf] at hc
     obtain ⟨x,h1,rfl⟩:=om_some hc
     rcases orcRun_some h1 with h1 | ⟨v,hv,_⟩
     · rw [hr _ _ _ _ _ h1];rfl
     · rw [ok.inl _ _ _ hv] at hi;cases hi
 · rename_i hi
   rw [if_neg hi] at hc
   split
   · rename_i hp
     rw [if_pos hp] at hc
     obtain ⟨x,h1,rfl⟩:=om_some hc
     rcases orcRun_some h1 with h1 | ⟨v,hv,_⟩
     · rw [hr _ _ _ _ _ h1];rfl
     · rw [ok.ptr _ _ _ hv] at hp;simp at hp
   · rename_i hp
     rw [if_neg hp] at hc
     obtain ⟨vs,h1,hc⟩:=ob_some hc
     obtain ⟨v,h2,rfl⟩:=om_some hc
     rw [h1]
     have h3:pureCallW (RnW C) f vs=some v:=by
      obtain ⟨x,h4,h5⟩:=ob_some h2
      rcases orcRun_some h4 with h4 | ⟨w,hw,_,_,rfl⟩
      · unfold pureCallW;rw [hr _ _ _ _ _ h4];exact h5
      · simp only at h5
        rw [ok.frz _ _ _ hw] at h5
        rw [← h5]
        exact ok.val _ _ _ hw
     simp only [ob,h3]
     rfl
theorem evIsoW_mc (hr:RunLeC C r r') {pre:List COper} {ap:COper} {post:List COper} {s s':WSt} (h:evIsoW C r pre ap post s=some s'):evIsoW C r' pre ap post s=some s':=by
 unfold evIsoW at h ⊢
 split
 · rename_i hl
   rw [if_pos hl] at h
   exact ob_mono h (fun s1 h1=>evOpsW_mc hr _ _ _ h1) fun s1 h1=>ob_mono h1 (fun v hv=>hv) fun v hv=>om_mono hv fun s2 h2=>evOpsW_mc hr _ _ _ h2
 · rename_i hl
   rw [if_neg hl] at h
   cases h
theorem evO_cd (ok:OrcOk C orc):∀ (n:Nat) (base:Nat) (c:WCode) (s:WSt) (x:Ex × WSt),evO C orc n base c s=some x→CdW C base c s=some x:=by
 intro n
 induction n with
 | zero=>intro base c s x h;simp only [evO] at h;cases h
 | succ n ih =>
  intro base c s x h
  have hr:RunLeC C (orcRun orc (runWithW C (evO C orc n))) (RnW C):=orc_le ok (runWithW_mono ih)
  cases c with
  | skip=>rw [cw_skip];exact h
  | exit id=>rw [cw_exit];exact h
  | ret=>rw [cw_ret];exact h
  | fail=>simp only [evO] at h;cases h
  | prim k=>rw [cw_prim];exact h
  | cln zz z b =>
   rw [cw_cln]
   simp only [evO] at h
   split
   · rename_i z' hz
     rw [hz] at h
     simp only at h
     split at h
     · rename_i hc;rw [if_pos ⟨hc.1,hc.2.1⟩];exact h
     · cases h
   · rename_i hz
     rw [hz] at h
     exact ih _ _ _ _ h
  | iso pre ap post a=>rw [cw_iso];simp only [evO] at h;exact ob_mono h (fun s' hs=>evIsoW_mc hr hs) fun x hx=>hx
  | ops l a=>rw [cw_ops];simp only [evO] at h;exact ob_mono h (fun s' hs=>evOpsW_mc hr l s s' hs) fun x hx=>hx
  | draw l un a=>rw [cw_draw];simp only [evO] at h;exact ob_mono h (fun x hx=>evDrawW_mc hr l _ _ _ x hx) fun x hx=>hx
  | seq a b=>rw [cw_seq];simp only [evO] at h;exact ob_mono h (fun x hx=>ih _ _ _ _ hx) fun x hx=>evSeqW_mono (fun s x hx=>ih _ _ _ _ hx) hx
  | cond c a b =>
   rw [cw_cond]
   simp only [evO] at h
   unfold evCondW at h ⊢
   split
   · rename_i t hv
     rw [hv] at h
     cases t with
     | true=>exact ih _ _ _ _ h
     | false=>exact ih _ _ _ _ h
   · split at h
     · rename_i h1 _ t hv;exact absurd hv (h1 t)
     · cases h
  | block id b a=>rw [cw_block];simp only [evO] at h;exact ob_mono h (fun x hx=>ih _ _ _ _ hx) fun x hx=>hx
  | loop a b=>rw [cw_loop];simp only [evO] at h;exact ob_mono h (fun x hx=>hx) fun s hs=>ob_mono hs (fun x hx=>ih _ _ _ _ hx) fun x hx=>evSeqW_mono (fun s x hx=>ih _ _ _ _ hx) hx
end
end Go.Pw
end
section
namespace Go.Pw
open Go Go.Pav
def sqA:WCode→WCode
 | .seq a _=>a
 | c=>c
def sqB:WCode→WCode
 | .seq _ b=>b
 | c=>c
def norm? (r:Ex × WSt):Option WSt:=match r.1 with
 | .norm=>some r.2
 | _=>none
theorem norm_some {r:Ex × WSt} {s:WSt} (h:norm? r=some s):r=(.norm,s):=by
 obtain ⟨e,t⟩:=r
 cases e <;> simp only [norm?] at h <;> cases h
 rfl
def out? (r:Ex × WSt):Option (Ex × WSt):=match r.1 with
 | .norm=>none
 | _=>some r
theorem out_some {r x:Ex × WSt} (h:out? r=some x):r=x∧r.1≠.norm:=by
 obtain ⟨e,t⟩:=r
 cases e <;> simp only [out?] at h <;> cases h <;> exact ⟨rfl,by simp⟩
def trueOrc (p:Nat→List AV→Bool):Orc:=fun f vs=>bif p f vs then some (.bool true) else none
theorem kW {C:WProg} {p:Nat→List AV→Bool} (h:∀ f vs,p f vs=true→C.inl f=false∧hasPtrL vs=false∧FnW C f vs=some (.bool true)):OrcOk C (trueOrc p):=by
 have k:∀ f vs v,trueOrc p f vs=some v→p f vs=true∧v=.bool true:=by
  intro f vs v hv
  unfold trueOrc at hv
  cases c:p f vs
  · rw [c] at hv;cases hv
  · rw [c] at hv;cases hv;exact ⟨rfl,rfl⟩
 exact ⟨fun f vs v hv=>(h f vs (k f vs v hv).1).1,fun f vs v hv=>(h f vs (k f vs v hv).1).2.1,
  fun f vs v hv=>by rw [(k f vs v hv).2];exact (h f vs (k f vs v hv).1).2.2,fun f vs v hv=>by rw [(k f vs v hv).2];rfl⟩
section
variable (C:WProg) (orc:Orc) (N base:Nat)
def seqO:List WCode→WSt→Option WSt
 | [],s=>some s
 | c::r,s=>ob (evO C orc N base c s) fun x=>ob (norm? x) (seqO r)
def stepO (a:Ann) (b:WCode) (s:WSt):Option WSt:=ob (evO C orc N base b s) fun r=>ob (norm? r) fun s=>canon base a s
def iterO (a:Ann) (b:WCode):Nat→WSt→Option WSt
 | 0,s=>some s
 | n+1,s=>ob (stepO C orc N base a b s) (iterO a b n)
def endO (b:WCode) (s:WSt):Option (Ex × WSt):=ob (evO C orc N base b s) out?
def leaveO (id:Nat) (al:Ann) (b:WCode) (s:WSt):Option WSt:=ob (endO C orc N base b s) fun r=>ob (evBlockW base id al r) norm?
end
section
variable {C:WProg} {orc:Orc} {N base:Nat}
theorem seqO_cd (ok:OrcOk C orc):∀ (cs:List WCode) (s s':WSt) (c:WCode),seqO C orc N base cs s=some s'→CdW C base (cs.foldr .seq c) s=CdW C base c s':=by
 intro cs
 induction cs with
 | nil=>intro s s' c h;cases h;rfl
 | cons a r ih =>
  intro s s' c h
  simp only [seqO] at h
  obtain ⟨x,h1,h⟩:=ob_some h
  obtain ⟨t,h2,h⟩:=ob_some h
  obtain rfl:=norm_some h2
  rw [List.foldr_cons,cw_seq,evO_cd ok _ _ _ _ _ h1]
  exact ih t s' c h
theorem iterO_add (a:Ann) (b:WCode):∀ (m n:Nat) (s t u:WSt),iterO C orc N base a b m s=some t→iterO C orc N base a b n t=some u→iterO C orc N base a b (m+n) s=some u:=by
 intro m
 induction m with
 | zero=>intro n s t u h1 h2;cases h1;rw [Nat.zero_add];exact h2
 | succ m ih =>
  intro n s t u h1 h2
  rw [Nat.succ_add]
  simp only [iterO] at h1 ⊢
  obtain ⟨x,h3,h4⟩:=ob_some h1
  rw [h3]
  exact ih n x t u h4 h2
theorem loop_cd (ok:OrcOk C orc) (a:Ann) (b:WCode):∀ (n:Nat) (s t:WSt) (r:Ex × WSt),iterO C orc N base a b n s=some t→endO C orc N base b t=some r→∀ s0,canon base a s0=some s→CdW C base (.loop a b) s0=some r:=by
 intro n
 induction n with
 | zero =>
  intro s t r h1 h2 s0 hc
  cases h1
  obtain ⟨x,h3,h4⟩:=ob_some h2
  obtain ⟨rfl,h5⟩:=out_some h4
  rw [cw_loop,hc]
  simp only [ob]
  rw [evO_cd ok _ _ _ _ _ h3]
  obtain ⟨e,w⟩:=x
  cases e with
  | norm=>exact absurd rfl h5
  | exit id=>rfl
  | ret=>rfl
 | succ n ih =>
  intro s t r h1 h2 s0 hc
  simp only [iterO,stepO] at h1
  obtain ⟨y,h3,h6⟩:=ob_some h1
  obtain ⟨x,h4,h5⟩:=ob_some h3
  obtain ⟨w,h7,h8⟩:=ob_some h5
  obtain rfl:=norm_some h7
  rw [cw_loop,hc]
  simp only [ob]
  rw [evO_cd ok _ _ _ _ _ h4]
  exact ih y t r h6 h2 w h8
theorem block_cd (ok:OrcOk C orc) (a:Ann) (b:WCode) (id:Nat) (al:Ann) {n:Nat} {s0 s t u:WSt} (hc:canon base a s0=some s) (h1:iterO C orc N base a b n s=some t) (h2:leaveO C orc N base id al b t=some u) (c:WCode) :
 CdW C base (.seq (.block id (.loop a b) al) c) s0=CdW C base c u:=by
 obtain ⟨r,h3,h4⟩:=ob_some h2
 obtain ⟨x,h5,h6⟩:=ob_some h4
 obtain rfl:=norm_some h6
 rw [cw_seq,cw_block,loop_cd ok a b n s t r h1 h3 s0 hc]
 simp only [ob]
 rw [h5]
 rfl
theorem assoc_cd (a b c:WCode) (s:WSt):CdW C base (.seq (.seq a b) c) s=CdW C base (.seq a (.seq b c)) s:=by
 rw [cw_seq,cw_seq,cw_seq]
 cases CdW C base a s with
 | none=>rfl
 | some x =>
  obtain ⟨e,t⟩:=x
  cases e with
  | norm=>simp only [ob,evSeqW];rw [cw_seq];rfl
  | exit id=>rfl
  | ret=>rfl
theorem fn_cd {f:Nat} {w:WFn} (hf:C.fns.get f=some w) (hn:w.np=0) {r:Ex × WSt} (hb:CdW C 0 w.body ⟨[],[],0⟩=some r) {v:AV} (hv:(ob (fnEndW w.res r) fun r=>frzW r.2.1 frzDepth r.1)=some v):FnW C f []=some v:=by
 unfold FnW pureCallW RnW runWithW
 rw [hf]
 simp only [ob]
 rw [if_pos (show ([]:List AV).length=w.np from hn.symm)]
 have ha:(⟨argW 0 [] [],[],0⟩:WSt)=⟨[],[],0⟩:=rfl
 rw [ha,hb]
 exact hv
theorem pre_cd (b d c:WCode):∀ (cs:List WCode) (s:WSt),CdW C base (cs.foldr .seq (.seq (.seq b d) c)) s=CdW C base ((cs++[b]).foldr .seq (.seq d c)) s:=by
 intro cs
 induction cs with
 | nil=>intro s;exact assoc_cd b d c s
 | cons a r ih =>
  intro s
  rw [List.cons_append,List.foldr_cons,List.foldr_cons,cw_seq,cw_seq,funext ih]
theorem head_cd (ok:OrcOk C orc) (cs:List WCode) (b:WCode) (a:Ann) (lb:WCode) (id:Nat) (al:Ann) {n:Nat} {s0 s t u:WSt}
 (h0:(ob (seqO C orc N base (cs++[b]) s0) (canon base a))=some s) (h1:iterO C orc N base a lb n s=some t) (h2:leaveO C orc N base id al lb t=some u) (c:WCode) :
 CdW C base (cs.foldr .seq (.seq (.seq b (.block id (.loop a lb) al)) c)) s0=CdW C base c u:=by
 obtain ⟨s1,h3,h4⟩:=ob_some h0
 rw [pre_cd,seqO_cd ok _ _ _ _ h3]
 exact block_cd ok a lb id al h4 h1 h2 c
theorem iter_chunks (a:Ann) (b:WCode) (k:Nat) (st:Nat→WSt):∀ m,(∀ i,i < m→iterO C orc N base a b k (st (i * k))=some (st (i * k+k)))→iterO C orc N base a b (m * k) (st 0)=some (st (m * k)):=by
 intro m
 induction m with
 | zero=>intro _;rw [Nat.zero_mul];rfl
 | succ m ih =>
  intro h
  rw [Nat.succ_mul]
  exact iterO_add a b _ _ _ _ _ (ih fun i hi=>h i (by omega)) (h m (by omega))
end
end Go.Pw
end
section
namespace Go.D
open Go Go.Pav Go.Pw P
attribute [-simp] List.getElem_cons_drop
variable {C:WProg}
theorem mF (base:Nat) (c:WCode) (s:WSt):CK C base some [] c s=CdW C base c s:=by
 unfold CK
 cases CdW C base c s with
 | none=>rfl
 | some x=>rfl
theorem xC (z:List AV) (bytes:Nat) (s x:Opd) (e:Env) (h:WHeap) (n:Nat) (hb:¬ bytes < 1125899906842624) :
 wApp z bytes false s x e h n=ob (wElems h z.length (x.ev e)) fun xs=>wFrzApp h z.length (bytes - 1125899906842624) xs.1 xs.2 (s.ev e):=by
 simp only [wApp,Bool.false_eq_true,if_false,if_neg hb]
def i2C:List AV:=[.int .u64 2000,.int .u8 0,.str [],.ro 1 [] true]
def i1C:List AV:=[.int .u64 1,.int .u8 0,.str [],.ro 1 [] true]
def sYK (K X L E F:List (List AV)):WSt:=⟨[(78,.int .i64 0),(77,.agg [.sl 18 6 0 1024 1024 true]),(76,.tup [.agg [.sl 18 6 0 1024 1024 true],.int .i64 0]),(75,.sl 17 4 0 1 1 true),(74,.agg i1C),(73,.agg [.sl 7 6 0 1023 1023 true]),(72,.agg [.sl 4 9 0 2 2 true,.int .i64 1]),
 (71,.tup [.agg [.sl 18 6 0 1024 1024 true],.int .i64 0]),(70,.int .i64 0),(69,.agg [.sl 7 6 0 1023 1023 true]),(68,.tup [.agg [.sl 7 6 0 1023 1023 true],.int .i64 0]),(67,.agg [.sl 1 6 0 1024 1024 true]),(66,.agg [.sl 4 9 0 2 2 true,.int .i64 1]),
 (65,.tup [.agg [.sl 7 6 0 1023 1023 true],.int .i64 0]),(13,.int .i64 0),(12,.ptr 22 0 0),(11,.int .i64 0),(10,.ptr 11 0 0),(9,.int .i64 3),(7,.int .i64 3),(5,.int .i64 0),(4,.ptr 0 0 0),(2,.sl 2 4 0 1024 1024 false),(1,.ptr 3 0 0)],
 [(
  0,.cells 1 [[.sl 1 6 0 1024 1024 true]] true false),(1,.cells 6 L true true),(2,.cells 4 X false true),(3,.cells 2 [[.sl 4 9 0 2 2 true,.int .i64 1]] true false),(4,.cells 9 K true true),(7,.cells 6 E true true),
  (11,.cells 1 [[.sl 7 6 0 1023 1023 true]] true false),(17,.cells 4 [i1C] true true),(18,.cells 6 F true true),(22,.cells 1 [[.sl 18 6 0 1024 1024 true]] true false)],25⟩
theorem zU (hi:C.inl=inlB) (hp:C.pp=ppB) (K X L E F:List (List AV)) (hK:K.length=2) (hX:X.length=1024) (hL:L.length=1024) (hE:E.length=1023) (hF:F.length=1024)
 (bL:L.all bareL=true) (bE:E.all bareL=true) (bF:F.all bareL=true) (fX:X.all (fun e=>e.all flat)=true)
 (h0:∀ nid,freshCallW (RnW C) 4108 [.agg [.ro 9 K true,.int .i64 1],.agg [.ro 6 [] true],.ro 4 X false] nid=some (.tup [.agg [.sl nid 6 0 1024 1024 true],.int .i64 0],[(nid,some (.cells 6 L true true))]))
 (h1:∀ nid,freshCallW (RnW C) 4109 [.agg [.ro 9 K true,.int .i64 1],.agg [.ro 6 L true],.int .i64 1024,.ro 4 [i2C] true] nid=some (.tup [.agg [.ro 6 [] true],.int .i64 3],[]))
 (h2:∀ nid,freshCallW (RnW C) 4108 [.agg [.ro 9 K true,.int .i64 1],.agg [.ro 6 L true],.ro 4 (X++[i2C]) false] nid=some (.tup [.agg [.ro 6 [] true],.int .i64 3],[]))
 (h3:∀ nid,freshCallW (RnW C) 4110 [.agg [.ro 9 K true,.int .i64 1],.agg [.ro 6 L true],.int .i64 0,.int .i64 1] nid=some (.tup [.agg [.sl nid 6 0 1023 1023 true],.int .i64 0],[(nid,some (.cells 6 E true true))]))
 (h4:∀ nid,freshCallW (RnW C) 4109 [.agg [.ro 9 K true,.int .i64 1],.agg [.ro 6 E true],.int .i64 1023,.ro 4 [i1C] true] nid=some (.tup [.agg [.sl nid 6 0 1024 1024 true],.int .i64 0],[(nid,some (.cells 6 F true true))]))
 (tl:WCode):CK C 0 some [] (.seq (sqA w85_c4) (.seq (sqA (sqB w85_c4)) (.seq (sqA (sqB (sqB w85_c4))) (.seq (sqA (sqB (sqB (sqB w85_c4)))) (.seq (sqA (sqB (sqB (sqB (sqB w85_c4))))) tl)))))
  ⟨[(2,.sl 0 4 0 1024 1024 false),(1,.ptr 1 0 0)],[(0,.cells 4 X true true),(1,.cells 2 [[.sl 2 9 0 2 2 true,.int .i64 1]] true false),(2,.cells 9 K true true)],3⟩=CK C 0 some [] tl (sYK K X L E F):=by
 have tK:List.take 2 K=K:=List.take_of_length_le (by omega)
 have tX:List.take 1024 X=X:=List.take_of_length_le (by omega)
 have tL:List.take 1024 L=L:=List.take_of_length_le (by omega)
 have tE:List.take 1023 E=E:=List.take_of_length_le (by omega)
 have tF:List.take 1024 F=F:=List.take_of_length_le (by omega)
 have eX:X.isEmpty=false:=by cases X <;> simp_all
 simp only [i1C,i2C] at h1 h2 h4
 simp [sYK,w85_c4,sqA,sqB,hi,inlB,hp,ppB,hK,hX,hL,hE,hF,tK,tX,tL,tE,tF,h0,h1,h2,h3,h4,bareXW,bareOW,bareV,bareL,bL,bE,bF,fX,xC,wElems,wFrzApp,snapOfW,i1C,frzMark,ob,om,maxBytes,flat,eX]
def cK:List (List AV):=ksK.map eKd
def cX:List (List AV):=xsK.map cIt
def cL:List (List AV):=lsK.map eEn
def cE:List (List AV):=leK.map eEn
def cF:List (List AV):=fuK.map eEn
theorem ck0:ckE ksK 1 []=0:=by decide +kernel
theorem ovL:ovE lsK=0:=((iH ksK 1 lsK).1 ckL).2.2.2.2
theorem BR:ovE leK=0:=((iH ksK 1 leK).1 zi).2.2.2.2
theorem Ag:ovE fuK=0:=by decide +kernel
theorem nJ:xsK.length=1024:=by simp [xsK]
theorem neL:lsK≠[]:=fun h=>by have:=eG;rw [h] at this;simp at this
theorem AU:leK≠[]:=fun h=>by have:=dP;rw [h] at this;simp at this
theorem Bg:fuK≠[]:=fun h=>by have:=mO;rw [h] at this;simp at this
theorem h0K (H:bf C) (nid:Nat):freshCallW (RnW C) 4108 [.agg [.ro 9 cK true,.int .i64 1],.agg [.ro 6 [] true],.ro 4 cX false] nid=some (.tup [.agg [.sl nid 6 0 1024 1024 true],.int .i64 0],[(nid,some (.cells 6 cL true true))]):=by
 have h:=lJ H ksK true 1 ruK [] true (by simp) (by simp) xsK false xIn (by rw [nJ];omega) (fun y _ _=>uo y.t) nid
 rw [if_neg (by simp [ck0]),if_neg (by rw [nJ];omega),if_neg (by simp [CV]),show dB (xsK.map (fre ksK))=(0,lsK) from by
  unfold dB;rw [show (xsK.map (fre ksK)).map En.own=lsK from rfl,if_neg (by simp [ovL])]] at h
 simp only [oeY,if_neg neL,eG] at h
 exact h
theorem h1K (H:bf C) (nid:Nat):freshCallW (RnW C) 4109 [.agg [.ro 9 cK true,.int .i64 1],.agg [.ro 6 cL true],.int .i64 1024,.ro 4 [i2C] true] nid=some (.tup [.agg [.ro 6 [] true],.int .i64 3],[]):=by
 have h:=mX H ksK true 1 ruK lsK true (by rw [eG];omega) lIn 1024 [i2K] true zO (by simp) (fun y _ _=>uo y.t) (by rw [eG];simp) nid
 rw [if_neg (by simp [ckL]),if_neg (by rw [eG];decide),if_pos (by rw [eG];simp)] at h
 exact h
theorem h2K (H:bf C) (nid:Nat):freshCallW (RnW C) 4108 [.agg [.ro 9 cK true,.int .i64 1],.agg [.ro 6 cL true],.ro 4 (cX++[i2C]) false] nid=some (.tup [.agg [.ro 6 [] true],.int .i64 3],[]):=by
 have h:=lJ H ksK true 1 ruK lsK true (by rw [eG];omega) lIn (xsK++[i2K]) false (fun y hy=>by
  rcases List.mem_append.1 hy with q | q
  · exact xIn y q
  · exact zO y q) (by rw [List.length_append,nJ];simp) (fun y _ _=>uo y.t) nid
 rw [if_neg (by simp [ckL]),if_pos (by rw [List.length_append,nJ];simp),List.map_append] at h
 exact h
theorem h3K (H:bf C) (nid:Nat):freshCallW (RnW C) 4110 [.agg [.ro 9 cK true,.int .i64 1],.agg [.ro 6 cL true],.int .i64 0,.int .i64 1] nid=some (.tup [.agg [.sl nid 6 0 1023 1023 true],.int .i64 0],[(nid,some (.cells 6 cE true true))]):=by
 have h:=uq H ksK true 1 ruK lsK true (by rw [eG];omega) lIn ckL 0 1 (by rw [eG];omega) BR nid
 rw [show (spl lsK 0 1 []).map En.own=leK from rfl] at h
 simp only [oeY,if_neg AU,dP] at h
 exact h
theorem h4K (H:bf C) (nid:Nat):freshCallW (RnW C) 4109 [.agg [.ro 9 cK true,.int .i64 1],.agg [.ro 6 cE true],.int .i64 1023,.ro 4 [i1C] true] nid=some (.tup [.agg [.sl nid 6 0 1024 1024 true],.int .i64 0],[(nid,some (.cells 6 cF true true))]):=by
 have h:=mX H ksK true 1 ruK leK true (by rw [dP];omega) Bf 1023 [i1K] true Af (by simp) (fun y _ _=>uo y.t) (by rw [dP];simp) nid
 rw [if_neg (by simp [zi]),if_neg (by rw [dP];decide),if_neg (by rw [dP];simp),if_neg (by simp [zf]),show dB (spl leK (1023:Int).toNat 0 ([i1K].map (fre ksK)))=(0,fuK) from by
  unfold dB;rw [show (spl leK (1023:Int).toNat 0 ([i1K].map (fre ksK))).map En.own=fuK from rfl,if_neg (by simp [Ag])]] at h
 simp only [oeY,if_neg Bg,mO] at h
 exact h
theorem oO:cL.all bareL=true:=by decide +kernel
theorem rE:cE.all bareL=true:=by decide +kernel
theorem o7:cF.all bareL=true:=by decide +kernel
theorem vO:cX.all (fun e=>e.all flat)=true:=by decide +kernel
def Df (n:Nat):List (List AV):=((List.range n).map itK).map cIt
def st3K (n:Nat):WSt:=⟨[(3,.int .i64 n),(2,.sl 0 4 0 n n false),(1,.ptr 1 0 0)],[(0,.cells 4 (Df n) true true),(1,.cells 2 [[.sl 2 9 0 2 2 true,.int .i64 1]] true false),(2,.cells 9 cK true true)],3⟩
def sXK:WSt:=⟨[(2,.sl 0 4 0 1024 1024 false),(1,.ptr 1 0 0)],[(0,.cells 4 cX true true),(1,.cells 2 [[.sl 2 9 0 2 2 true,.int .i64 1]] true false),(2,.cells 9 cK true true)],3⟩
def zYK:WSt:=sYK cK cX cL cE cF
def zYe:WSt:=⟨[],[],0⟩
theorem c4K (H:bf C) (tl:WCode):CdW C 0 (.seq (sqA w85_c4) (.seq (sqA (sqB w85_c4)) (.seq (sqA (sqB (sqB w85_c4))) (.seq (sqA (sqB (sqB (sqB w85_c4)))) (.seq (sqA (sqB (sqB (sqB (sqB w85_c4))))) tl))))) sXK=CdW C 0 tl zYK:=by
 have h:=zU H.inl H.pp cK cX cL cE cF (by decide) (by simp [cX,nJ]) (by simp [cL,eG]) (by simp [cE,dP]) (by simp [cF,mO]) oO rE o7 vO (h0K H) (h1K H) (h2K H) (h3K H) (h4K H) tl
 rw [mF,mF] at h
 exact h
def bY:Nat→WCode→WCode
 | 0,c=>c
 | n+1,c=>bY n (sqB c)
def sZK (K:List (List AV)):WSt:=⟨[(124,.bool false),(1,.ptr 0 0 0)],[(0,.cells 2 [[.sl 1 9 0 2 2 true,.int .i64 1]] true false),(1,.cells 9 K true true)],2⟩
theorem zA (hi:C.inl=inlB) (hp:C.pp=ppB) (K X L E F:List (List AV)) (hK:K.length=2) (hX:X.length=1024) (hL:L.length=1024) (hE:E.length=1023) (hF:F.length=1024)
 (bL:L.all bareL=true) (bE:E.all bareL=true) (bF:F.all bareL=true) (fX:X.all (fun e=>e.all flat)=true)
 (x0:X[0]?=some i1C) (f1:F[1023]?=some (i1C++[.int .i64 10,.bool false]))
 (h0:FnW C 111 [.agg [.ro 6 L true]]=some (.int .i64 15360)) (h1:FnW C 112 [.agg i1C,.agg i1C]=some (.int .i64 1))
 (tl:WCode):CK C 0 some [] (.seq (sqA (bY 5 w85_c4)) tl) (sYK K X L E F)=CK C 0 some [] tl (sZK K):=by
 have tK:List.take 2 K=K:=List.take_of_length_le (by omega)
 have tX:List.take 1024 X=X:=List.take_of_length_le (by omega)
 have tL:List.take 1024 L=L:=List.take_of_length_le (by omega)
 have tE:List.take 1023 E=E:=List.take_of_length_le (by omega)
 have tF:List.take 1024 F=F:=List.take_of_length_le (by omega)
 simp only [i1C] at x0 f1 h1
 have x0g:X[0]'(by omega)=[.int .u64 1,.int .u8 0,.str [],.ro 1 [] true]:=by
  rw [List.getElem?_eq_getElem (by omega)] at x0;exact Option.some.inj x0
 have f1g:F[1023]'(by omega)=[.int .u64 1,.int .u8 0,.str [],.ro 1 [] true]++[.int .i64 10,.bool false]:=by
  rw [List.getElem?_eq_getElem (by omega)] at f1;exact Option.some.inj f1
 simp [sYK,sZK,bY,w85_c4,sqA,sqB,hi,inlB,hp,ppB,hK,hX,hL,hE,hF,tK,tX,tL,tE,tF,x0,f1,x0g,f1g,h0,h1,i1C,flat]
def zZK:WSt:=sZK cK
theorem c5K (H:bf C) (h112:FnW C 112 [.agg i1C,.agg i1C]=some (.int .i64 1)) (tl:WCode):CdW C 0 (.seq (sqA (bY 5 w85_c4)) tl) zYK=CdW C 0 tl zZK:=by
 have ht:=rU H.todW.tofP.tofK.tobn lsK true (by rw [eG];omega) lIn
 rw [show tot lsK=15360 from by decide +kernel] at ht
 have h:=zA H.inl H.pp cK cX cL cE cF (by decide) (by simp [cX,nJ]) (by simp [cL,eG]) (by simp [cE,dP]) (by simp [cF,mO]) oO rE o7 vO (by kernel_rfl) (by kernel_rfl) ht h112 tl
 rw [mF,mF] at h
 exact h
def mvR {α:Type} (R M:List α) (t i:Nat):List α:=if i≤t then (R.take t).drop i++M++R.drop t else R.drop i
theorem sW {α:Type} (R M:List α) (t:Nat):mvR R M t 0=spl R t 0 M:=by unfold mvR spl;simp
theorem wP {α:Type} (R M:List α) (t:Nat):mvR R M t t=M++R.drop t:=by
 unfold mvR;rw [if_pos (Nat.le_refl _),List.drop_eq_nil_of_le (by rw [List.length_take];omega)];simp
theorem dS {α:Type} (R M:List α) (t i:Nat) (h:t < i):mvR R M t i=R.drop i:=by unfold mvR;rw [if_neg (by omega)]
theorem pJ {α:Type} (R M:List α) (t i:Nat) (hi:i < R.length) (ht:i≠t) (htl:t≤R.length):mvR R M t i=R[i]::mvR R M t (i+1):=by
 by_cases c:i < t
 · unfold mvR
   rw [if_pos (by omega),if_pos (by omega)]
   have h:i < (R.take t).length:=by rw [List.length_take];omega
   rw [drop_cons h];simp
 · rw [dS _ _ _ _ (by omega),dS _ _ _ _ (by omega),drop_cons hi]
theorem gV (H:bn C) (l:List En) (e:Bool) (a c t:Nat) (R:List En) (re:Bool) (hR:R.length≤1000000) (i:Nat) (hi:i≤R.length) (G:List En) (B:Nat) (hB:G.length+1≤B) (hBB:B≤300000000) (k:Int) (hk:i≠t∨c≤k)
 (Z:AV) (Y:List En→AV) (hY:∀ G:List En,G.length≤B→w242_K0 C ⟨[(13,.int .i64 ((i:Int)+1)),(12,.sl 0 6 0 G.length G.length false),(10,.ro 6 (R.map eEn) re),(3,.int .i64 t),(2,.int .i64 c),(1,.int .i64 a),(0,.ro 6 (l.map eEn) e)],[(0,.cells 6 (G.map eEn) true true)],1⟩=some (Y G))
 (hZ:Z=if i < R.length then Y (G++[R[i]?.getD ⟨⟨0,0,[],[],true⟩,0,false⟩]) else Y G) :
 w242_K1 C ⟨[(14,.int .i64 k),(13,.int .i64 i),(12,.sl 0 6 0 G.length G.length false),(10,.ro 6 (R.map eEn) re),(3,.int .i64 t),(2,.int .i64 c),(1,.int .i64 a),(0,.ro 6 (l.map eEn) e)],[(0,.cells 6 (G.map eEn) true true)],1⟩=some Z:=by
 have hfit:(G.length+1) * 73≤35184372088832:=by omega
 by_cases h1:i < R.length
 · have this:=hY (G++[R[i]]) (by simp;omega)
   have hz:Z=Y (G++[R[i]]):=by rw [hZ,if_pos h1];simp [h1]
   rw [hz]
   generalize Y (G++[R[i]])=Q at *
   simp only [w242_K0] at this
   simp only [w242_K1];rw [ck_unf w242_B1.eq_1]
   simp at this
   by_cases c1:i=t
   · have c2:¬ k < (c:Int):=by rcases hk with q | q;exact absurd c1 q;omega
     simp (disch:=omega) [ck_unf w242_c1.eq_1,ck_unf w242_c2.eq_1,eq_true c1,c2,h1,hfit,ak,this]
   · simp (disch:=omega) [ck_unf w242_c1.eq_1,ck_unf w242_c2.eq_1,c1,h1,hfit,ak,this]
 · have this:=hY G (by omega)
   have hz:Z=Y G:=by rw [hZ,if_neg h1]
   rw [hz]
   generalize Y G=Q at *
   simp only [w242_K0] at this
   simp only [w242_K1];rw [ck_unf w242_B1.eq_1]
   try simp at this
   by_cases c1:i=t
   · have c2:¬ k < (c:Int):=by rcases hk with q | q;exact absurd c1 q;omega
     simp (disch:=omega) [ck_unf w242_c1.eq_1,ck_unf w242_c2.eq_1,eq_true c1,c2,h1,ak,this]
   · simp (disch:=omega) [ck_unf w242_c1.eq_1,ck_unf w242_c2.eq_1,c1,h1,ak,this]
theorem pO (H:bn C) (l:List En) (e:Bool) (hl:l.length≤1000000) (a c t:Nat) (hac:a+c≤l.length) (R:List En) (re:Bool) (hR:R.length≤1000000) (ht:t≤R.length) (B:Nat) (hBB:B≤300000000)
 (Y:List En→AV) (hY:∀ G:List En,G.length≤B→w242_K0 C ⟨[(13,.int .i64 ((t:Int)+1)),(12,.sl 0 6 0 G.length G.length false),(10,.ro 6 (R.map eEn) re),(3,.int .i64 t),(2,.int .i64 c),(1,.int .i64 a),(0,.ro 6 (l.map eEn) e)],[(0,.cells 6 (G.map eEn) true true)],1⟩=some (Y G)) :
 ∀ n k,n+k=c→∀ G:List En,G.length+n+1≤B →
 w242_K1 C ⟨[(14,.int .i64 k),(13,.int .i64 t),(12,.sl 0 6 0 G.length G.length false),(10,.ro 6 (R.map eEn) re),(3,.int .i64 t),(2,.int .i64 c),(1,.int .i64 a),(0,.ro 6 (l.map eEn) e)],[(0,.cells 6 (G.map eEn) true true)],1⟩ =
  some (if t < R.length then Y (G++((l.take (a+c)).drop a).drop k++[R[t]?.getD ⟨⟨0,0,[],[],true⟩,0,false⟩]) else Y (G++((l.take (a+c)).drop a).drop k)):=by
 intro n
 induction n with
 | zero =>
  intro k hk G hG
  have h1:((l.take (a+c)).drop a).drop k=[]:=List.drop_eq_nil_of_le (by simp;omega)
  refine gV H l e a c t R re hR t ht G B (by omega) hBB k (.inr (by omega)) _ Y hY ?_
  rw [h1,List.append_nil]
 | succ n ih =>
  intro k hk G hG
  obtain ⟨j,hj⟩:∃ j:Nat,j=a+k:=⟨_,rfl⟩
  have h1:j < l.length:=by omega
  have h2:k < c:=by omega
  have hfit:(G.length+1) * 73≤35184372088832:=by omega
  have hd:((l.take (a+c)).drop a).drop k=l[j]::((l.take (a+c)).drop a).drop (k+1):=by
   rw [drop_cons (show k < ((l.take (a+c)).drop a).length by simp;omega)]
   subst hj
   simp
  have this:=ih (k+1) (by omega) (G++[l[j]]) (by simp;omega)
  rw [hd]
  have hA:∀ X:List En,G++l[j]::X=G++[l[j]]++X:=fun X=>by simp
  rw [hA]
  generalize (if t < R.length then Y (G++[l[j]]++((l.take (a+c)).drop a).drop (k+1)++[R[t]?.getD ⟨⟨0,0,[],[],true⟩,0,false⟩]) else Y (G++[l[j]]++((l.take (a+c)).drop a).drop (k+1)))=Q at *
  have hj2:(a:Int)+(k:Int)=j:=by omega
  simp only [w242_K1] at this ⊢;rw [ck_unf w242_B1.eq_1]
  simp at this
  simp (disch:=omega) [h1,h2,hj2,hfit,ak,this]
theorem lG (H:bn C) (l:List En) (e:Bool) (hl:l.length≤10000) (a c t:Nat) (hac:a+c≤l.length) (R:List En) (re:Bool) (hR:R.length≤10000) (ht:t≤R.length):∀ n i,n+i=R.length+1→∀ G:List En,G.length≤20000 * (i+1) →
 w242_K0 C ⟨[(13,.int .i64 i),(12,.sl 0 6 0 G.length G.length false),(10,.ro 6 (R.map eEn) re),(3,.int .i64 t),(2,.int .i64 c),(1,.int .i64 a),(0,.ro 6 (l.map eEn) e)],[(0,.cells 6 (G.map eEn) true true)],1⟩ =
  some (.tup [.ro 6 ((G++mvR R ((l.take (a+c)).drop a) t i).map eEn) false,.int .i64 0]):=by
 intro n
 induction n with
 | zero =>
  intro i hi G hG
  have h3:¬ i≤R.length:=by omega
  rw [dS _ _ _ _ (by omega),List.drop_eq_nil_of_le (by omega),List.append_nil]
  simp only [w242_K0];rw [ck_unf w242_B0.eq_1]
  cases G with
  | nil=>simp [ck_unf w242_c0.eq_1,h3]
  | cons g G=>simp (disch:=(first | omega | (simp;done) | (simp;omega))) [ck_unf w242_c0.eq_1,h3,List.take_of_length_le]
 | succ n ih =>
  intro i hi G hG
  have h1:i≤R.length:=by omega
  have hY:∀ G':List En,G'.length≤20000 * (i+2)→w242_K0 C ⟨[(13,.int .i64 ((i:Int)+1)),(12,.sl 0 6 0 G'.length G'.length false),(10,.ro 6 (R.map eEn) re),(3,.int .i64 t),(2,.int .i64 c),(1,.int .i64 a),(0,.ro 6 (l.map eEn) e)],[(0,.cells 6 (G'.map eEn) true true)],1⟩ =
   some ((fun G'=>AV.tup [.ro 6 ((G'++mvR R ((l.take (a+c)).drop a) t (i+1)).map eEn) false,.int .i64 0]) G'):=fun G' q=>by
   have:=ih (i+1) (by omega) G' (by omega)
   simpa using this
  have key:∀ Z,w242_K1 C ⟨[(14,.int .i64 0),(13,.int .i64 i),(12,.sl 0 6 0 G.length G.length false),(10,.ro 6 (R.map eEn) re),(3,.int .i64 t),(2,.int .i64 c),(1,.int .i64 a),(0,.ro 6 (l.map eEn) e)],[(0,.cells 6 (G.map eEn) true true)],1⟩=some Z →
   w242_K0 C ⟨[(13,.int .i64 i),(12,.sl 0 6 0 G.length G.length false),(10,.ro 6 (R.map eEn) re),(3,.int .i64 t),(2,.int .i64 c),(1,.int .i64 a),(0,.ro 6 (l.map eEn) e)],[(0,.cells 6 (G.map eEn) true true)],1⟩=some Z:=fun Z this=>by
   simp only [w242_K1] at this
   simp only [w242_K0];rw [ck_unf w242_B0.eq_1]
   simp (disch:=omega) [h1,ak,this]
  refine key _ ?_
  by_cases c1:i=t
  · subst c1
    have:=pO H l e (by omega) a c i hac R re (by omega) ht (20000 * (i+2)) (by omega) _ hY c 0 (by simp) G (by omega)
    rw [List.drop_zero] at this
    refine this.trans ?_
    rw [wP]
    by_cases h2:i < R.length
    · rw [if_pos h2,dS _ _ _ _ (by omega),drop_cons h2];simp [h2]
    · rw [if_neg h2,dS _ _ _ _ (by omega),List.drop_eq_nil_of_le (show R.length≤i+1 by omega),List.drop_eq_nil_of_le (show R.length≤i by omega)];simp
  · refine gV H l e a c t R re (by omega) i h1 G (20000 * (i+2)) (by omega) (by omega) 0 (.inl c1) _ _ hY ?_
    by_cases h2:i < R.length
    · rw [if_pos h2,pJ _ _ _ _ h2 c1 ht];simp [h2]
    · rw [if_neg h2,dS _ _ _ _ (by omega),dS _ _ _ _ (by omega),List.drop_eq_nil_of_le (show R.length≤i+1 by omega),List.drop_eq_nil_of_le (show R.length≤i by omega)]
theorem qJ (H:rD C) (l:List En) (e:Bool) (hl:l.length≤10000) (a c t:Int) :
 FnW C 242 [.ro 6 (l.map eEn) e,.int .i64 a,.int .i64 c,.int .i64 t]=some (if (inR a c l.length&&inR t 0 (l.length - c))=true then .tup [.ro 6 ((spl (spl l a.toNat c.toNat []) t.toNat 0 ((l.take (a.toNat+c.toNat)).drop a.toNat)).map eEn) false,.int .i64 0] else .tup [.ro 6 [] true,.int .i64 4]):=by
 have hw:=eU H.tobn a c l.length (by omega)
 have hrm:=gK H l e (by omega) a c
 rw [fnW_eq H.f242 rfl]
 cases c1:inR a c l.length
 · rw [c1] at hw
   simp at hw
   simp [w242,hw,H.inl,inlB,H.pp,ppB]
 · have hq:=c1
   unfold inR at hq
   simp at hq
   rw [c1] at hw hrm
   simp at hw
   have hw2:=eU H.tobn t 0 (l.length - c) (by omega)
   cases c2:inR t 0 (l.length - c)
   · rw [c2] at hw2
     simp at hw2
     simp (disch:=omega) [w242,ak,hw,hw2,H.inl,inlB,H.pp,ppB]
   · have hq2:=c2
     unfold inR at hq2
     simp at hq2
     rw [c2] at hw2
     simp at hw2
     obtain ⟨a',rfl⟩:∃ a':Nat,a=a':=⟨a.toNat,by omega⟩
     obtain ⟨c',rfl⟩:∃ c':Nat,c=c':=⟨c.toNat,by omega⟩
     obtain ⟨t',rfl⟩:∃ t':Nat,t=t':=⟨t.toNat,by omega⟩
     have hlen:=aO l [] a' c' (by omega)
     simp only [Int.toNat_natCast] at hrm ⊢
     simp at hlen
     have h:=lG H.tobn l e hl a' c' t' (by omega) (spl l a' c' []) false (by omega) (by omega) ((spl l a' c' []).length+1) 0 (by simp) [] (by simp)
     rw [List.nil_append,sW] at h
     generalize spl (spl l a' c' []) t' 0 ((l.take (a'+c')).drop a')=F at *
     generalize spl l a' c' []=R at *
     simp only [w242_K0] at h
     simp at h hrm
     simp (disch:=omega) [w242,ak,hw,hw2,hrm,h,H.inl,inlB,H.pp,ppB]
theorem gu {ks:List Kd} {l x:List En} (a c:Nat) (hl:∀ y ∈ l,aG ks y) (hx:∀ y ∈ x,aG ks y):∀ y ∈ spl l a c x,aG ks y:=cZ a c hl hx
structure rJ (l w:List En):Prop where
 a:l.length≤1000000
 b:w.length≤1000000
 c:∀ x ∈ l,x.i.m.length≤1000000
 d:∀ x ∈ w,x.i.m.length≤1000000
 s:(decide (l.length=w.length)&&bG l w)=true
theorem mW {ks:List Kd} (X:List En) (hX:X.length≤1000000) (hg:∀ e ∈ X,aG ks e):rJ (X.map En.own) X:=by
 refine ⟨by simpa using hX,hX,fun x hx=>?_,fun x hx=>(hg x hx).en.i.m,by rw [fC];simp⟩
 obtain ⟨y,hy,rfl⟩:=List.mem_map.1 hx
 exact (hg y hy).en.i.m
theorem lW:rJ [] []:=⟨by simp,by simp,by simp,by simp,rfl⟩
theorem qc (H:rD C) {l w:List En} (t:rJ l w) (e2:Bool) (n:Int):FnW C 243 [aL l true,.int .i64 n,.ro 6 (w.map eEn) e2,.int .i64 n]=some (.int .i64 1):=by
 rw [kF H l w true e2 n n t.a t.b t.c t.d,decide_eq_true rfl,Bool.true_and,if_pos t.s]
theorem lu (H:dM C) (f118:C.fns.get 118=some w118) (hone:∀ q:Q4,QIn q→∃ i:It,FnW C 422 [.agg (eQ q)]=some (eIt i)∧Good i) (hlives:FnW C 119 []=some (.bool true))
 (q:List Q4) (qe:Bool) (hq:∀ x ∈ q,QIn x) (z:List Int) (ze:Bool) (hz:∀ s ∈ z,0≤s∧s≤255) (hzl:z.length < 9223372036854775808) (r:Int) (hr:0≤r∧r≤255) (n0 n1 n2:Int) :
 FnW C 118 [.agg [.ro 4 (q.map eQ) qe,.ro 1 (z.map eU8) ze,.int .u8 r],.agg [.int .i64 n0,.int .i64 n1,.int .i64 n2]]=some (.bool true):=by
 obtain ⟨R,f,hof,hl,hg,hn⟩:=jY H hone q qe hq z ze hz hzl r hr
 have hck:=fU r hr R (by omega) hg hn
 have hin:∀ x ∈ R,aK x:=fun x hx=>(hg x hx).en
 have hru:=vJ r
 have key1:∃ (p w:List En) (e:Bool) (b:Int),FnW C 110 [aR (au r) true 12,aL R f,.int .i64 n0,.int .i64 n1]=some (.tup [aL p true,.int .i64 b])∧FnW C 241 [.ro 6 (R.map eEn) f,.int .i64 n0,.int .i64 n1]=some (.tup [.ro 6 (w.map eEn) e,.int .i64 b])∧rJ p w:=by
  have h1:=iq H.torD.tofP (au r) true 12 hru R f (by omega) hin n0 n1
  have h2:=gK H.torD R f (by omega) n0 n1
  rw [hck,if_neg (by simp)] at h1
  cases c:inR n0 n1 R.length
  · rw [c] at h1 h2
    exact ⟨[],[],true,4,h1,h2,lW⟩
  · rw [c] at h1 h2
    have c':=c
    unfold inR at c'
    simp at c'
    have hX:=gu (ks:=au r) (x:=[]) n0.toNat n1.toNat hg (by simp)
    have hXl:(spl R n0.toNat n1.toNat []).length≤10000:=by rw [aO _ _ _ _ (by omega)];simp;omega
    have ho:=iF r ((spl R n0.toNat n1.toNat []).map En.own) (by simpa using hXl) (fun x hx=>by
     obtain ⟨y,hy,rfl⟩:=List.mem_map.1 hx
     exact (hX y hy).ow)
    refine ⟨(spl R n0.toNat n1.toNat []).map En.own,spl R n0.toNat n1.toNat [],false,0,?_,?_,mW _ (by omega) hX⟩
    · rw [h1,if_neg (by simp)];unfold outL;rw [ho];simp
    · rw [h2];simp
 have key2:∃ (p w:List En) (e:Bool) (b:Int),FnW C 237 [aR (au r) true 12,aL R f,.int .i64 n0,.int .i64 n1,.int .i64 n2]=some (.tup [aL p true,.int .i64 b])∧FnW C 242 [.ro 6 (R.map eEn) f,.int .i64 n0,.int .i64 n1,.int .i64 n2]=some (.tup [.ro 6 (w.map eEn) e,.int .i64 b])∧rJ p w:=by
  have h1:=iM H.torD.tofP (au r) true 12 hru R f (by omega) hin n0 n1 n2
  have h2:=qJ H.torD R f (by omega) n0 n1 n2
  rw [hck,if_neg (by simp)] at h1
  cases c:(inR n0 n1 R.length&&inR n2 0 (R.length - n1))
  · rw [c] at h1 h2
    exact ⟨[],[],true,4,h1,h2,lW⟩
  · rw [c] at h1 h2
    have c':=c
    unfold inR at c'
    simp at c'
    have hM:∀ y ∈ (R.take (n0.toNat+n1.toNat)).drop n0.toNat,aG (au r) y:=fun y hy=>hg y (List.mem_of_mem_take (List.mem_of_mem_drop hy))
    have hX:=gu n2.toNat 0 (gu (ks:=au r) (x:=[]) n0.toNat n1.toNat hg (by simp)) hM
    have hlen:=aO R [] n0.toNat n1.toNat (by omega)
    simp at hlen
    have hXl:(spl (spl R n0.toNat n1.toNat []) n2.toNat 0 ((R.take (n0.toNat+n1.toNat)).drop n0.toNat)).length≤10000:=by
     rw [aO _ _ _ _ (by omega),hlen];simp;omega
    generalize spl (spl R n0.toNat n1.toNat []) n2.toNat 0 ((R.take (n0.toNat+n1.toNat)).drop n0.toNat)=X at *
    have ho:=iF r (X.map En.own) (by simpa using hXl) (fun x hx=>by
     obtain ⟨y,hy,rfl⟩:=List.mem_map.1 hx
     exact (hX y hy).ow)
    refine ⟨X.map En.own,X,false,0,?_,?_,mW _ (by omega) hX⟩
    · rw [h1,if_neg (by simp)];unfold outL;rw [ho];simp
    · rw [h2];simp
 obtain ⟨p1,w1,e1,b1,a1,a2,a3⟩:=key1
 obtain ⟨p2,w2,e2,b2,a4,a5,a6⟩:=key2
 have i1:=qc H.torD a3 e1 b1
 have i2:=qc H.torD a6 e2 b2
 have hs:=dY H.tobn R R f f (by omega) (by omega) (fun x hx=>(hin x hx).i.m) (fun x hx=>(hin x hx).i.m)
 rw [gB,decide_eq_true rfl] at hs
 simp only [Bool.and_self,if_true] at hs
 rw [fnW_eq f118 rfl]
 generalize au r=ks at *
 simp (disch:=omega) [w118,ak,hof,a1,a2,a4,a5,i1,i2,hs,hlives,H.inl,inlB,H.pp,ppB]
end Go.D
end
section
namespace Go.D
open Go Go.Pav Go.Pw P
attribute [-simp] List.getElem_cons_drop
variable {C:WProg} {α β:Type}
theorem iC (g:α→β) (l x:List α) (a c:Nat):(spl l a c x).map g=spl (l.map g) a c (x.map g):=by
 unfold spl;simp [List.map_take,List.map_drop]
theorem fQ {l:List α} {t:Nat} (h:t≤l.length):(l.take t).length=t:=by simp;omega
theorem lU (L X:List α) (t:Nat) (h:t≤L.length):spl (spl L t 0 X) t X.length []=L:=by
 have h1:=fQ h
 unfold spl
 rw [List.drop_left' (l₁:=L.take t++X) (by simp;omega),List.append_nil,List.append_assoc (L.take t),List.take_left' h1]
 simp
theorem rX (L X:List α) (t:Nat) (h:t≤L.length):((spl L t 0 X).take (t+X.length)).drop t=X:=by
 have h1:=fQ h
 unfold spl
 rw [List.take_left' (l₁:=L.take t++X) (by simp;omega),List.drop_left' h1]
theorem l7 (l:List α) (a c:Nat) (h:a+c≤l.length):spl (spl l a c []) a 0 ((l.take (a+c)).drop a)=l:=by
 have h1:=fQ (l:=l) (t:=a) (by omega)
 unfold spl
 rw [List.append_nil,List.take_left' h1,Nat.add_zero,List.drop_left' h1]
 have h2:l.take a=(l.take (a+c)).take a:=by rw [List.take_take,Nat.min_eq_left (by omega)]
 rw [h2,List.take_append_drop,List.take_append_drop]
theorem gq (l x:List α) (a:Nat):(spl l a 0 x).Perm (l++x):=by
 unfold spl
 have h:l++x=l.take a++(l.drop a++x):=by rw [← List.append_assoc,List.take_append_drop]
 rw [h,List.append_assoc,Nat.add_zero]
 exact List.Perm.append_left _ List.perm_append_comm
theorem pz (l:List α) (a c t:Nat) (h:a+c≤l.length):(spl (spl l a c []) t 0 ((l.take (a+c)).drop a)).Perm l:=by
 refine (gq _ _ t).trans ?_
 have:=gq (spl l a c []) ((l.take (a+c)).drop a) a
 rw [l7 l a c h] at this
 exact this.symm
theorem jQ (l:List En):aA (l.map En.own)=aA l:=by
 unfold aA;rw [List.map_map];rfl
theorem lZ (l:List En):(l.map En.own).map En.own=l.map En.own:=by
 rw [List.map_map];rfl
theorem oK (ks:List Kd) (x:List It):aA (x.map (fre ks))=x.map It.k:=by
 unfold aA;rw [List.map_map];rfl
theorem jG (ks:List Kd):∀ (x:List It) (s:List Int),(∀ i ∈ x,itE ks 12 i false=0)→(s++x.map It.k).Nodup→aI ks 12 s x=0
 | [],_,_,_=>rfl
 | e::r,s,hg,hn=>by
  have h2:s.contains e.k=false:=by
   simp only [List.map_cons] at hn
   have:=(List.nodup_append.1 hn).2.2
   simp only [List.contains_eq_mem,decide_eq_false_iff_not]
   intro q
   exact this _ q _ (by simp) rfl
  rw [aI,h2,hg e (by simp),if_neg (by simp)]
  exact jG ks r _ (fun x hx=>hg x (by simp [hx])) (by simpa using hn)
def seg (l:List En) (a i:Nat):List It:=((l.drop a).take i).map En.i
theorem pX {l:List En} {a i j:Nat} (hj:j=a+i) (h:j < l.length):seg l a (i+1)=seg l a i++[l[j].i]:=by
 subst hj
 unfold seg
 rw [List.take_add_one,List.map_append]
 simp [List.getElem?_eq_getElem h]
theorem mJ {l:List En} {a i:Nat} (h:a+i≤l.length):(seg l a i).length=i:=by
 unfold seg;simp;omega
theorem qj {l:List En} {a i:Nat} (h:a < l.length):seg l a (i+1)=l[a].i::seg l (a+1) i:=by
 unfold seg;rw [drop_cons h];rfl
theorem yx {l:List En} {a i:Nat} {x:It} (h:x ∈ seg l a i):∃ e ∈ l,e.i=x:=by
 obtain ⟨e,he,rfl⟩:=List.mem_map.1 h
 exact ⟨e,List.mem_of_mem_drop (List.mem_of_mem_take he),rfl⟩
theorem uO {ks:List Kd} {x:It} (h:itE ks 12 x false=0):aP ks.length x=true∧aX (aF ks x.t).p x 12=0:=by
 unfold itE at h
 cases c:aP ks.length x
 · rw [c] at h;simp at h
 · rw [c] at h
   by_cases d:aX (aF ks x.t).p x 12=0
   · exact ⟨rfl,d⟩
   · simp [d] at h
theorem jo (ks:List Kd) (l:List En) (hg:∀ e ∈ l,itE ks 12 e.i false=0):∀ (c a:Nat),a+c≤l.length→bM ks 12 l a (seg l a c)=0
 | 0,a,_=>by simp [seg,bM]
 | c+1,a,h=>by
  have h1:a < l.length:=by omega
  have h2:=uO (hg _ (List.getElem_mem h1))
  have h3:keyAt l a=l[a].i.k:=by unfold keyAt;rw [List.getElem?_eq_getElem h1];rfl
  rw [qj h1,bM,h2.1,h3,h2.2,if_neg (by simp),if_neg (by simp),if_neg (by simp)]
  exact jo ks l hg c (a+1) (by omega)
theorem uF (l Y:List α) (a c i:Nat) (hY:Y.length=c) (h:a+c≤l.length):(spl l a c Y)[i]?=if a≤i∧i < a+c then Y[i - a]? else l[i]?:=by
 have h1:=fQ (l:=l) (t:=a) (by omega)
 unfold spl
 by_cases c1:a≤i
 · by_cases c2:i < a+c
   · rw [if_pos ⟨c1,c2⟩,List.getElem?_append_left (by simp;omega),List.getElem?_append_right (by omega),h1]
   · rw [if_neg (by omega),List.getElem?_append_right (by simp;omega),List.getElem?_drop]
     congr 1
     simp;omega
 · rw [if_neg (by omega),List.append_assoc,List.getElem?_append_left (by omega),List.getElem?_take_of_lt (by omega)]
theorem lq (e:En):bQ e.own e=true:=by simp [bQ,dR,En.own,It.own]
theorem qA (ks:List Kd) (l:List En) (a c:Nat) (h:a+c≤l.length) (i:Nat) (hi:i < l.length) (hi2:i < ((spl l a c ((seg l a c).map (fre ks))).map En.own).length) :
 bQ (((spl l a c ((seg l a c).map (fre ks))).map En.own)[i]) (if a≤i∧i < a+c then fre ks l[i].i else l[i])=true:=by
 have hY:((seg l a c).map (fre ks)).length=c:=by rw [List.length_map,mJ h]
 have h1:=uF l ((seg l a c).map (fre ks)) a c i hY h
 have hi3:i < (spl l a c ((seg l a c).map (fre ks))).length:=by simpa using hi2
 have h2:(spl l a c ((seg l a c).map (fre ks)))[i]=(if a≤i∧i < a+c then fre ks l[i].i else l[i]):=by
  rw [List.getElem?_eq_getElem hi3] at h1
  by_cases c1:a≤i∧i < a+c
  · rw [if_pos c1] at h1 ⊢
    have h4:((seg l a c).map (fre ks))[i - a]?=some (fre ks l[i].i):=by
     unfold seg
     rw [List.getElem?_map,List.getElem?_map,List.getElem?_take_of_lt (by omega),List.getElem?_drop,show a+(i - a)=i by omega,List.getElem?_eq_getElem hi]
     rfl
    rw [h4] at h1
    exact Option.some.inj h1
  · rw [if_neg c1,List.getElem?_eq_getElem hi] at h1
    rw [if_neg c1]
    exact Option.some.inj h1
 rw [List.getElem_map,h2]
 exact lq _
def dF (l w:List En):List It:=(w.filter fun e=>decide (fB e.i.k 0 l < 0)).map En.i
theorem nD (l w:List En) (i:Nat) (h:i < w.length):dF l (w.take (i+1))=dF l (w.take i)++(if fB w[i].i.k 0 l < 0 then [w[i].i] else []):=by
 unfold dF
 rw [List.take_add_one,List.getElem?_eq_getElem h,List.filter_append,List.map_append]
 by_cases c:fB w[i].i.k 0 l < 0 <;> simp [c]
theorem jc (l w:List En):(dF l w).length≤w.length:=by
 unfold dF;rw [List.length_map];exact List.length_filter_le _ _
theorem mM {l w:List En} {x:It} (h:x ∈ dF l w):∃ e ∈ w,e.i=x∧fB x.k 0 l < 0:=by
 obtain ⟨e,he,rfl⟩:=List.mem_map.1 h
 have:=List.mem_filter.1 he
 exact ⟨e,this.1,rfl,by simpa using this.2⟩
theorem l9 {k:Int}:∀ (l:List En) (i:Nat),fB k i l < 0→k ∉ aA l
 | [],_,_=>by simp [aA]
 | e::r,i,h=>by
  rw [fB] at h
  by_cases c:e.i.k=k
  · rw [if_pos c] at h;omega
  · rw [if_neg c] at h
    have:=l9 r (i+1) h
    simp only [aA,List.map_cons,List.mem_cons,not_or]
    exact ⟨fun q=>c q.symm,this⟩
theorem lH (l w:List En) (hl:(aA l).Nodup) (hw:(aA w).Nodup):(aA l++(dF l w).map It.k).Nodup:=by
 refine List.nodup_append.2 ⟨hl,?_,?_⟩
 · have:(dF l w).map It.k=aA (w.filter fun e=>decide (fB e.i.k 0 l < 0)):=by unfold dF aA;rw [List.map_map];rfl
   rw [this]
   exact List.Nodup.sublist (List.Sublist.map _ List.filter_sublist) hw
 · intro x hx y hy hxy
   subst hxy
   obtain ⟨i,hi,rfl⟩:=List.mem_map.1 hy
   obtain ⟨e,he,h1,h2⟩:=mM hi
   exact l9 l 0 h2 hx
end Go.D
end
section
namespace Go.D
open Go Go.Pav Go.Pw P
attribute [-simp] List.getElem_cons_drop
variable {C:WProg}
structure jP (C:WProg):Prop extends dM C,dW C where
 f117:C.fns.get 117=some w117
theorem yN {α:Type} (l:List α) (i:Nat) (h:i < l.length):List.drop i (List.take (i+1) l)=[l[i]]:=by
 rw [List.drop_take,drop_cons h]
 simp [show i+1 - i=1 by omega]
theorem vF (H:jP C) (x y:En) (e f:Bool) (hx:aK x) (hy:aK y) (h:bQ x y=true):FnW C 172 [.ro 6 [eEn x] e,.ro 6 [eEn y] f]=some (.int .i64 1):=by
 have hs:=dY H.tobn [x] [y] e f (by simp) (by simp) (by simpa using hx.i.m) (by simpa using hy.i.m)
 have hV:(decide ([x].length=[y].length)&&bG [x] [y])=true:=by simp [bG,h]
 rw [if_pos hV] at hs
 simpa only [List.map_cons,List.map_nil] using hs
theorem zS (H:jP C) (hlives:FnW C 119 []=some (.bool true)) (ks:List Kd) (l ch:List En) (el ec:Bool) (a c:Nat) (hl:l.length≤12) (hch:ch.length=l.length)
 (ha:a≤12) (hc:c≤12) (hg:∀ e ∈ l,aK e∧e.i.t < ks.length) (hgf:∀ e ∈ l,aK (fre ks e.i)) (hgc:∀ e ∈ ch,aK e)
 (hw:∀ i (h:i < l.length),bQ (ch[i]'(by omega)) (if a≤i∧i < a+c then fre ks l[i].i else l[i])=true):∀ n i,n+i=l.length →
 w117_K0 C ⟨[(24,.int .i64 i),(23,.ptr 0 0 0),(18,.int .i64 c),(11,.int .i64 a),(8,.ptr 1 0 0),(7,.ptr 2 0 0)],[(0,.cells 1 [[.ro 6 (ch.map eEn) ec]] true true),(1,.cells 1 [[.ro 6 (l.map eEn) el]] true true),(2,.cells 2 [[.ro 9 (ks.map eKd) true,.int .i64 12]] true true)],3⟩=some (.bool true):=by
 intro n
 induction n with
 | zero =>
  intro i hi
  have h3:¬ i < l.length:=by omega
  simp only [w117_K0];rw [ck_unf w117_B0.eq_1]
  simp [ck_unf w117_c0.eq_1,h3,hlives,H.inl,inlB,H.pp,ppB]
 | succ n ih =>
  intro i hi
  have h1:i < l.length:=by omega
  have h2:i < ch.length:=by omega
  have h2':i+1≤ch.length:=by omega
  have this:=ih (i+1) (by omega)
  have hgi:=hg _ (List.getElem_mem h1)
  have hgi2:=hgc _ (List.getElem_mem h2)
  have hf:=fF H.tofK ks true 12 l[i].i hgi.1.i hgi.2
  have hsl:=yN (ch.map eEn) i (by simpa using h2)
  have hwi:=hw i h1
  by_cases c1:a≤i∧i < a+c
  · rw [if_pos c1] at hwi
    have hs:=fun e f=>vF H _ _ e f hgi2 (hgf _ (List.getElem_mem h1)) hwi
    have c1a:(a:Int)≤i:=by omega
    have c2:(i:Int) < (a:Int)+c:=by omega
    simp only [fre,eEn] at hs
    simp only [aR,eIt,aE,eEn,fre] at hf
    simp only [w117_K0] at this ⊢;rw [ck_unf w117_B0.eq_1]
    simp at this hsl
    simp (disch:=omega) [h1,h2,h2',c1.1,c1a,c2,hf,hs,hsl,ak,H.inl,inlB,H.pp,ppB,this]
  · rw [if_neg c1] at hwi
    have hs:=fun e f=>vF H _ _ e f hgi2 hgi.1 hwi
    simp only [eEn] at hs
    simp only [w117_K0] at this ⊢;rw [ck_unf w117_B0.eq_1]
    simp at this hsl
    by_cases c2:a≤i
    · have c3:¬ (i:Int) < (a:Int)+c:=by omega
      simp (disch:=omega) [h1,h2,h2',c2,c3,hs,hsl,ak,H.inl,inlB,H.pp,ppB,this]
    · simp (disch:=omega) [h1,h2,h2',c2,hs,hsl,ak,H.inl,inlB,H.pp,ppB,this]
theorem oJ (H:jP C) (hlives:FnW C 119 []=some (.bool true)) (ks:List Kd) (l ch:List En) (el ec:Bool) (a c:Nat) (hl:l.length≤12) (hac:a+c≤l.length) (hch:ch.length=l.length)
 (hg:∀ e ∈ l,aK e∧e.i.t < ks.length) (hgf:∀ e ∈ l,aK (fre ks e.i)) (hgc:∀ e ∈ ch,aK e)
 (hw:∀ i (h:i < l.length),bQ (ch[i]'(by omega)) (if a≤i∧i < a+c then fre ks l[i].i else l[i])=true)
 (hcl:∀ e,FnW C 114 [aR ks true 12,aL l el,.int .i64 a,.ro 4 ((seg l a c).map cIt) e]=some (.tup [aL ch ec,.int .i64 0])):∀ n i,n+i=c→∀ (G:List It),G=seg l a i→G.length=i →
 w117_K1 C ⟨[(22,.int .i64 i),(21,.sl 0 4 0 G.length G.length false),(18,.int .i64 c),(11,.int .i64 a),(8,.ptr 1 0 0),(7,.ptr 2 0 0)],[(0,.cells 4 (G.map cIt) true true),(1,.cells 1 [[.ro 6 (l.map eEn) el]] true true),(2,.cells 2 [[.ro 9 (ks.map eKd) true,.int .i64 12]] true true)],3⟩=some (.bool true):=by
 have h0:=zS H hlives ks l ch el ec a c hl hch (by omega) (by omega) hg hgf hgc hw l.length 0 (by simp)
 intro n
 induction n with
 | zero =>
  intro i hi G hG hGl
  have hic:i=c:=by omega
  subst hic
  have h3:¬ i < i:=by omega
  have h6:List.take G.length (List.map cIt G)=List.map cIt G:=List.take_of_length_le (by simp)
  have hcl:=hcl false
  rw [← hG] at hcl
  simp only [w117_K0] at h0
  simp at h0
  simp only [aR,aL] at hcl
  simp only [w117_K1];rw [ck_unf w117_B1.eq_1]
  simp (disch:=omega) [ck_unf w117_c1.eq_1,h3,h6,hcl,hch,h0,H.inl,inlB,H.pp,ppB]
 | succ n ih =>
  intro i hi G hG hGl
  have h1:i < c:=by omega
  obtain ⟨j,hj⟩:∃ j,j=a+i:=⟨_,rfl⟩
  have hj1:j < l.length:=by omega
  have hji:(a:Int)+i=j:=by omega
  have hfit:(G.length+1) * 57≤35184372088832:=by omega
  have:=ih (i+1) (by omega) (G++[l[j].i]) (by rw [pX hj hj1,hG]) (by simp;omega)
  simp only [w117_K1] at this ⊢;rw [ck_unf w117_B1.eq_1]
  simp at this
  simp (disch:=omega) [h1,hji,hj1,hfit,ak,H.inl,inlB,H.pp,ppB,this]
structure BkS (C:WProg) (ks:List Kd) (l:List En) (el:Bool) (a c t:Nat) (n1 n2:Int) (x:List It) (mo bk mv bk2 ch:List En):Prop where
 lives:FnW C 119 []=some (.bool true)
 ll:l.length≤12
 ac:a+c≤l.length
 tc:t+c≤l.length
 m1:n1.tmod (l.length - a+1)=c
 m2:n2.tmod (l.length - c+1)=t
 b1:0≤n1∧n1≤255
 b2:0≤n2∧n2≤255
 lch:ch.length=l.length
 g:∀ e ∈ l,aK e∧e.i.t < ks.length
 gf:∀ e ∈ l,aK (fre ks e.i)
 gc:∀ e ∈ ch,aK e
 w:∀ i (h:i < l.length),bQ (ch[i]'(by omega)) (if a≤i∧i < a+c then fre ks l[i].i else l[i])=true
 chg:∀ e,FnW C 114 [aR ks true 12,aL l el,.int .i64 a,.ro 4 ((seg l a c).map cIt) e]=some (.tup [aL ch true,.int .i64 0])
 ins:∀ e,FnW C 109 [aR ks true 12,aL l el,.int .i64 a,.ro 4 (x.map cIt) e]=some (.tup [aL mo true,.int .i64 0])
 rem:FnW C 110 [aR ks true 12,aL mo true,.int .i64 a,.int .i64 x.length]=some (.tup [aL bk true,.int .i64 0])
 ck:FnW C 223 [aR ks true 12,aL mo true]=some (.int .i64 0)
 sm:FnW C 172 [.ro 6 (bk.map eEn) true,.ro 6 (l.map eEn) el]=some (.int .i64 1)
 mov:FnW C 237 [aR ks true 12,aL l el,.int .i64 a,.int .i64 c,.int .i64 t]=some (.tup [aL mv true,.int .i64 0])
 mvb:FnW C 237 [aR ks true 12,aL mv true,.int .i64 t,.int .i64 c,.int .i64 a]=some (.tup [aL bk2 true,.int .i64 0])
 ck2:FnW C 223 [aR ks true 12,aL mv true]=some (.int .i64 0)
 sm2:FnW C 172 [.ro 6 (bk2.map eEn) true,.ro 6 (l.map eEn) el]=some (.int .i64 1)
theorem qL (H:jP C) (ks:List Kd) (l w:List En) (el ew:Bool) (a c t:Nat) (n0 n1 n2:Int) (mo bk mv bk2 ch:List En) (hwl:w.length≤12) (B:BkS C ks l el a c t n1 n2 (dF l w) mo bk mv bk2 ch) :
 ∀ n i,n+i=w.length→∀ G:List It,G=dF l (w.take i) →
 w117_K2 C ⟨[(13,.int .i64 i),(12,.sl 0 4 0 G.length G.length false),(11,.int .i64 a),(10,.ptr 1 0 0),(8,.ptr 2 0 0),(7,.ptr 3 0 0),(5,.ptr 4 0 0)],[(0,.cells 4 (G.map cIt) true true),(1,.cells 1 [[.ro 6 (w.map eEn) ew]] true true),(2,.cells 1 [[.ro 6 (l.map eEn) el]] true true),(3,.cells 2 [[.ro 9 (ks.map eKd) true,.int .i64 12]] true true),(4,.cells 3 [[.int .u8 n0,.int .u8 n1,.int .u8 n2]] true true)],5⟩=some (.bool true):=by
 have h0:=oJ H B.lives ks l ch el true a c B.ll B.ac B.lch B.g B.gf B.gc B.w B.chg c 0 (by simp) [] (by simp [seg]) rfl
 have hll:=B.ll
 have hac:=B.ac
 have htc:=B.tc
 have hn1:=B.m1
 have hn2:=B.m2
 have hb1:=B.b1
 have hb2:=B.b2
 intro n
 induction n with
 | zero =>
  intro i hi G hG
  have hic:i=w.length:=by omega
  subst hic
  have h3:¬ w.length < w.length:=by omega
  rw [List.take_length] at hG
  have h6:List.take G.length (List.map cIt G)=List.map cIt G:=List.take_of_length_le (by simp)
  have i1:=B.ins false
  have i2:=B.rem
  have i3:=B.ck
  have i4:=B.sm
  have i5:=B.mov
  have i6:=B.mvb
  have i7:=B.ck2
  have i8:=B.sm2
  rw [← hG] at i1 i2
  simp only [w117_K1] at h0
  try simp at h0
  simp only [aR,aL] at i1 i2 i3 i5 i6 i7
  have z1:¬ ((l.length:Int) - a+1=0):=by omega
  have z2:¬ ((l.length:Int) - c+1=0):=by omega
  simp only [w117_K2];rw [ck_unf w117_B2.eq_1]
  simp (disch:=omega) [ck_unf w117_c2.eq_1,h3,h6,z1,z2,hn1,hn2,i1,i2,i3,i4,i5,i6,i7,i8,h0,ak,H.inl,inlB,H.pp,ppB]
 | succ n ih =>
  intro i hi G hG
  have h1:i < w.length:=by omega
  have hf:=qK H.tobn l el w[i].i.k (by omega)
  have hGm:G.length≤i:=by rw [hG];have:=jc l (w.take i);simp at this;omega
  have hfit:(G.length+1) * 57≤35184372088832:=by omega
  have hs:=nD l w i h1
  by_cases c1:fB w[i].i.k 0 l < 0
  · rw [if_pos c1] at hs
    have:=ih (i+1) (by omega) (G++[w[i].i]) (by rw [hs,hG])
    simp only [w117_K2] at this ⊢;rw [ck_unf w117_B2.eq_1]
    simp at this
    simp (disch:=omega) [h1,hf,c1,hfit,ak,H.inl,inlB,H.pp,ppB,this]
  · rw [if_neg c1,List.append_nil] at hs
    have:=ih (i+1) (by omega) G (by rw [hs,hG])
    simp only [w117_K2] at this ⊢;rw [ck_unf w117_B2.eq_1]
    simp at this
    simp (disch:=omega) [h1,hf,c1,hfit,ak,H.inl,inlB,H.pp,ppB,this]
theorem aG.fr {r:Int} (hr:0≤r∧r≤255) {i:It} (h:Good i) (hk:itE (au r) 12 i false=0):aG (au r) (fre (au r) i):=by
 have:=iI r hr i.t h.t
 exact ⟨h,hk,by unfold fre;simp only;omega,.inr rfl⟩
theorem uK (H:jP C) (hlives:FnW C 119 []=some (.bool true)) (r:Int) (hr:0≤r∧r≤255) (R W:List En) (f:Bool) (hl:R.length≤12) (hlw:W.length≤12)
 (hg:∀ e ∈ R,aG (au r) e) (hn:(aA R).Nodup) (hgw:∀ e ∈ W,aG (au r) e) (hnw:(aA W).Nodup) (a c t:Nat) (n1 n2:Int) (hac:a+c≤R.length) (htc:t+c≤R.length)
 (m1:n1.tmod (R.length - a+1)=c) (m2:n2.tmod (R.length - c+1)=t) (b1:0≤n1∧n1≤255) (b2:0≤n2∧n2≤255) :
 ∃ mo bk mv bk2 ch,BkS C (au r) R f a c t n1 n2 (dF R W) mo bk mv bk2 ch:=by
 have hks:=vP r hr
 have hru:=hks.r
 have hb:∀ y:It,bZ y→aP (au r).length y=true→-9223372036854775808≤(aF (au r) y.t).b∧(aF (au r) y.t).b≤9223372036854775807:=by
  intro y hyt hy
  have h0:=hyt.t
  have h1:=hks.l
  rw [h1] at hy
  have:0≤y.t∧y.t≤2:=by
   unfold aP at hy
   simp only [Bool.and_eq_true,decide_eq_true_eq] at hy
   omega
  have:=hks.b y.t this.1 this.2
  omega
 have hck:=fU r hr R (by omega) hg hn
 have hin:∀ x ∈ R,aK x:=fun x hx=>(hg x hx).en
 have hx:∀ i ∈ dF R W,Good i∧itE (au r) 12 i false=0:=by
  intro i hi
  obtain ⟨e,he,rfl,_⟩:=mM hi
  exact ⟨(hgw e he).i,(hgw e he).ok⟩
 have hxl:(dF R W).length≤12:=Nat.le_trans (jc R W) hlw
 have hxn:=lH R W hn hnw
 have hinc:=jG (au r) (dF R W) (aA R) (fun i hi=>(hx i hi).2) hxn
 generalize dF R W=x at *
 have hX:∀ e ∈ x.map (fre (au r)),aG (au r) e:=by
  intro e he
  obtain ⟨i,hi,rfl⟩:=List.mem_map.1 he
  exact aG.fr hr (hx i hi).1 (hx i hi).2
 have own_good:∀ l:List En,(∀ e ∈ l,aG (au r) e)→∀ e ∈ l.map En.own,aG (au r) e:=by
  intro l h e he
  obtain ⟨y,hy,rfl⟩:=List.mem_map.1 he
  exact (h y hy).ow
 have out:∀ l:List En,(∀ e ∈ l,aG (au r) e)→l.length≤10000→outL l=.tup [aL (l.map En.own) true,.int .i64 0]:=by
  intro l h hl
  unfold outL
  rw [iF r (l.map En.own) (by simpa using hl) (own_good l h),if_neg (by simp)]
 have same:FnW C 172 [.ro 6 ((R.map En.own).map eEn) true,.ro 6 (R.map eEn) f]=some (.int .i64 1):=by
  have hs:=dY H.tobn (R.map En.own) R true f (by simp;omega) (by omega) (fun x hx=>by
   obtain ⟨y,hy,rfl⟩:=List.mem_map.1 hx
   exact (hin y hy).i.m) (fun x hx=>(hin x hx).i.m)
  rw [fC,if_pos (by simp)] at hs
  exact hs
 have inR_of:∀ p q n:Nat,p+q≤n→inR p q n=true:=by
  intro p q n h;unfold inR;simp;omega
 have g1:=cZ (Q:=aG (au r)) a 0 hg hX
 have l1:(spl R a 0 (x.map (fre (au r)))).length=R.length+x.length:=by rw [aO _ _ _ _ (by omega)];simp
 have k1:(aA (spl R a 0 (x.map (fre (au r))))).Nodup:=by
  have hp:(aA (spl R a 0 (x.map (fre (au r))))).Perm (aA R++x.map It.k):=by
   have:=(gq R (x.map (fre (au r))) a).map (fun e:En=>e.i.k)
   rw [List.map_append] at this
   have hk:=oK (au r) x
   unfold aA at hk ⊢
   rw [hk] at this
   exact this
  exact hp.nodup_iff.2 hxn
 have i1:=fun e=>oG H.todW (au r) true 12 hru R f (by omega) hin a x e (fun y hy=>(hx y hy).1.it) (by omega) (fun y hy=>hb y (hx y hy).1.it) (by omega)
 have hi0:=inR_of a 0 R.length (by omega)
 simp only [Int.natCast_zero] at hi0
 simp only [hck,hinc,hi0,Int.toNat_natCast,out _ g1 (by omega)] at i1
 rw [if_neg (by simp),if_neg (by simp),if_neg (by omega),if_neg (by simp)] at i1
 have o1:=own_good _ g1
 have ck1:=fU r hr _ (by rw [List.length_map,l1];omega) o1 (by rw [jQ];exact k1)
 have c1:=aW H.tofK (au r) true 12 hru ((spl R a 0 (x.map (fre (au r)))).map En.own) true (by rw [List.length_map,l1];omega) (fun y hy=>(o1 y hy).en)
 have r1:=iq H.torD.tofP (au r) true 12 hru ((spl R a 0 (x.map (fre (au r)))).map En.own) true (by rw [List.length_map,l1];omega) (fun y hy=>(o1 y hy).en) a x.length
 have e1:spl ((spl R a 0 (x.map (fre (au r)))).map En.own) a x.length []=R.map En.own:=by
  rw [iC]
  have:=lU (R.map En.own) ((x.map (fre (au r))).map En.own) a (by simp;omega)
  simpa using this
 have ro:=own_good R hg
 rw [ck1] at c1 r1
 simp only [Int.toNat_natCast,e1,out _ ro (by simp;omega),lZ] at r1
 rw [if_neg (by simp),if_neg (by rw [inR_of _ _ _ (by rw [List.length_map,l1];omega)];simp)] at r1
 have gM:∀ e ∈ (R.take (a+c)).drop a,aG (au r) e:=fun y hy=>hg y (List.mem_of_mem_take (List.mem_of_mem_drop hy))
 have lM:((R.take (a+c)).drop a).length=c:=by simp;omega
 have lD:(spl R a c []).length=R.length - c:=by rw [aO _ _ _ _ hac];simp
 have gD:=cZ (Q:=aG (au r)) (x:=[]) a c hg (by simp)
 have g2:=cZ (Q:=aG (au r)) t 0 gD gM
 have l2:(spl (spl R a c []) t 0 ((R.take (a+c)).drop a)).length=R.length:=by rw [aO _ _ _ _ (by omega),lM,lD];omega
 have k2:(aA (spl (spl R a c []) t 0 ((R.take (a+c)).drop a))).Nodup:=((pz R a c t hac).map (fun e:En=>e.i.k)).nodup_iff.2 hn
 have v1:=iM H.torD.tofP (au r) true 12 hru R f (by omega) hin a c t
 have q1:(inR a c R.length&&inR t 0 (R.length - c))=true:=by unfold inR;simp;omega
 rw [hck,q1] at v1
 simp only [Int.toNat_natCast,out _ g2 (by omega)] at v1
 rw [if_neg (by simp),if_neg (by simp)] at v1
 have o2:=own_good _ g2
 have ck2:=fU r hr _ (by rw [List.length_map,l2];omega) o2 (by rw [jQ];exact k2)
 have c2:=aW H.tofK (au r) true 12 hru ((spl (spl R a c []) t 0 ((R.take (a+c)).drop a)).map En.own) true (by rw [List.length_map,l2];omega) (fun y hy=>(o2 y hy).en)
 have v2:=iM H.torD.tofP (au r) true 12 hru ((spl (spl R a c []) t 0 ((R.take (a+c)).drop a)).map En.own) true (by rw [List.length_map,l2];omega) (fun y hy=>(o2 y hy).en) t c a
 have q2:(inR t c ((spl (spl R a c []) t 0 ((R.take (a+c)).drop a)).map En.own).length&&inR a 0 (((spl (spl R a c []) t 0 ((R.take (a+c)).drop a)).map En.own).length - c))=true:=by
  rw [List.length_map,l2];unfold inR;simp;omega
 have e2:spl (spl ((spl (spl R a c []) t 0 ((R.take (a+c)).drop a)).map En.own) t c []) a 0 (((((spl (spl R a c []) t 0 ((R.take (a+c)).drop a)).map En.own).take (t+c)).drop t))=R.map En.own:=by
  have h1:=lU (spl R a c []) ((R.take (a+c)).drop a) t (by omega)
  have h2:=rX (spl R a c []) ((R.take (a+c)).drop a) t (by omega)
  rw [lM] at h1 h2
  have h3:=iC En.own (spl (spl R a c []) t 0 ((R.take (a+c)).drop a)) [] t c
  rw [h1] at h3
  rw [List.map_nil] at h3
  rw [← h3,← List.map_take,← List.map_drop,h2,← iC,l7 R a c hac]
 rw [ck2] at c2 v2
 rw [q2] at v2
 simp only [Int.toNat_natCast,e2,out _ ro (by simp;omega),lZ] at v2
 rw [if_neg (by simp),if_neg (by simp)] at v2
 have hsl:=mJ hac
 have gS:∀ y ∈ seg R a c,Good y∧itE (au r) 12 y false=0:=by
  intro y hy
  obtain ⟨e,he,rfl⟩:=yx hy
  exact ⟨(hg e he).i,(hg e he).ok⟩
 have gF:∀ e ∈ (seg R a c).map (fre (au r)),aG (au r) e:=by
  intro e he
  obtain ⟨i,hi,rfl⟩:=List.mem_map.1 he
  exact aG.fr hr (gS i hi).1 (gS i hi).2
 have g3:=cZ (Q:=aG (au r)) a c hg gF
 have l3:(spl R a c ((seg R a c).map (fre (au r)))).length=R.length:=by rw [aO _ _ _ _ hac,List.length_map,hsl];omega
 have d1:=fun e=>oC H.torD.tofP (au r) true 12 hru R f (by omega) hin a (seg R a c) e (by omega) (fun y hy=>(gS y hy).1.it) (fun y hy=>hb y (gS y hy).1.it)
 have hcg:=jo (au r) R (fun e he=>(hg e he).ok) c a hac
 simp only [hck,Int.toNat_natCast,hcg,hsl,inR_of a c R.length hac,out _ g3 (by omega)] at d1
 rw [if_neg (by simp),if_neg (by simp),if_neg (by simp)] at d1
 have o3:=own_good _ g3
 refine ⟨_,_,_,_,_,⟨hlives,hl,hac,htc,m1,m2,b1,b2,?_,?_,?_,?_,?_,d1,i1,r1,c1,same,v1,v2,c2,same⟩⟩
 · rw [List.length_map,l3]
 · intro e he
   have h1:=(hg e he).i.t
   have h2:=hks.l
   exact ⟨hin e he,by omega⟩
 · intro e he
   exact (aG.fr hr (hg e he).i (hg e he).ok).en
 · intro e he
   exact (o3 e he).en
 · intro i h
   exact qA (au r) R a c hac i h (by rw [List.length_map,l3];exact h)
theorem rZ (H:jP C) (hone:∀ q:Q4,QIn q→∃ i:It,FnW C 422 [.agg (eQ q)]=some (eIt i)∧Good i) (hlives:FnW C 119 []=some (.bool true))
 (q:List Q4) (qe:Bool) (hq:∀ x ∈ q,QIn x) (z:List Int) (ze:Bool) (hz:∀ s ∈ z,0≤s∧s≤255) (hzl:z.length < 9223372036854775808) (r:Int) (hr:0≤r∧r≤255)
 (q':List Q4) (qe':Bool) (hq':∀ x ∈ q',QIn x) (z':List Int) (ze':Bool) (hz':∀ s ∈ z',0≤s∧s≤255) (hzl':z'.length < 9223372036854775808) (r':Int)
 (n0 n1 n2:Int) (b0:0≤n0∧n0≤255) (b1:0≤n1∧n1≤255) (b2:0≤n2∧n2≤255) :
 FnW C 117 [.agg [.ro 4 (q.map eQ) qe,.ro 1 (z.map eU8) ze,.int .u8 r],.agg [.ro 4 (q'.map eQ) qe',.ro 1 (z'.map eU8) ze',.int .u8 r'],.agg [.int .u8 n0,.int .u8 n1,.int .u8 n2]]=some (.bool true):=by
 obtain ⟨R,f,hof,hl,hg,hn⟩:=jY H.todM hone q qe hq z ze hz hzl r hr
 obtain ⟨W,g,hof',hlw,hgw,hnw⟩:=jY H.todM hone q' qe' hq' z' ze' hz' hzl' r hr
 have md:∀ (n:Int) (m:Nat),0≤n→∃ k:Nat,n.tmod ((m:Int)+1)=k∧k≤m:=by
  intro n m h0
  have h1:n.tmod ((m:Int)+1)=n % ((m:Int)+1):=Int.tmod_eq_emod_of_nonneg h0
  have h2:=Int.emod_nonneg n (b:=(m:Int)+1) (by omega)
  have h3:=Int.emod_lt_of_pos n (b:=(m:Int)+1) (by omega)
  exact ⟨(n % ((m:Int)+1)).toNat,by omega,by omega⟩
 obtain ⟨a,m0,la⟩:=md n0 R.length b0.1
 obtain ⟨c,m1,lc⟩:=md n1 (R.length - a) b1.1
 obtain ⟨t,m2,lt⟩:=md n2 (R.length - c) b2.1
 rw [Int.natCast_sub la] at m1
 rw [Int.natCast_sub (by omega:c≤R.length)] at m2
 obtain ⟨mo,bk,mv,bk2,ch,B⟩:=uK H hlives r hr R W f hl hlw hg hn hgw hnw a c t n1 n2 (by omega) (by omega) m1 m2 b1 b2
 have h:=qL H (au r) R W f g a c t n0 n1 n2 mo bk mv bk2 ch hlw B W.length 0 (by simp) [] (by simp [dF])
 have z0:¬ ((R.length:Int)+1=0):=by omega
 rw [fnW_eq H.f117 rfl]
 generalize au r=ks at *
 simp only [aR,aL] at hof hof'
 simp only [w117_K2] at h
 simp at h
 simp (disch:=omega) [w117,ak,hof,hof',m0,z0,h,H.inl,inlB,H.pp,ppB]
end Go.D
end
section
namespace Go.D
open Go Go.Pav Go.Pw P
variable {C:WProg}
def q4K:List (List AV)→Bool
 | []=>true
 | [.int .u8 a,.int .u8 b,.int .u8 c,.int .u8 d]::r=>(decide (0≤a)&&decide (a≤255))&&((decide (0≤b)&&decide (b≤255))&&((decide (0≤c)&&decide (c≤255))&&((decide (0≤d)&&decide (d≤255))&&q4K r)))
 | _=>false
theorem jX:∀ l,q4K l=true→∃ xs:List Q4,l=xs.map eQ∧∀ x ∈ xs,QIn x:=by
 intro l
 induction l with
 | nil=>intro _;exact ⟨[],rfl,by simp⟩
 | cons a r ih =>
  intro h
  unfold q4K at h
  split at h
  · rename_i heq;cases heq
  · rename_i heq
    cases heq
    simp only [Bool.and_eq_true,decide_eq_true_eq] at h
    obtain ⟨h1,h2,h3,h4,h5⟩:=h
    obtain ⟨xs,rfl,hx⟩:=ih h5
    refine ⟨⟨_,_,_,_⟩::xs,rfl,?_⟩
    intro x hxm
    rcases List.mem_cons.1 hxm with rfl | hxm
    · exact ⟨h1,h2,h3,h4⟩
    · exact hx x hxm
  · cases h
def u8K:List (List AV)→Bool
 | []=>true
 | [.int .u8 a]::r=>(decide (0≤a)&&decide (a≤255))&&u8K r
 | _=>false
theorem lg:∀ l,u8K l=true→∃ xs:List Int,l=xs.map eU8∧∀ x ∈ xs,0≤x∧x≤255:=by
 intro l
 induction l with
 | nil=>intro _;exact ⟨[],rfl,by simp⟩
 | cons a r ih =>
  intro h
  unfold u8K at h
  split at h
  · rename_i heq;cases heq
  · rename_i heq
    cases heq
    simp only [Bool.and_eq_true,decide_eq_true_eq] at h
    obtain ⟨h1,h5⟩:=h
    obtain ⟨xs,rfl,hx⟩:=ih h5
    refine ⟨_::xs,rfl,?_⟩
    intro x hxm
    rcases List.mem_cons.1 hxm with rfl | hxm
    · exact h1
    · exact hx x hxm
  · cases h
def pY (f:Nat) (vs:List AV):Bool :=
 match vs with
 | []=>Nat.beq f 119
 | [.agg [.ro 4 q _,.ro 1 z _,.int .u8 r],.agg [.int .i64 _,.int .i64 _,.int .i64 _]]=>Nat.beq f 118&&(q4K q&&(u8K z&&(decide (z.length≤100)&&(decide (0≤r)&&decide (r≤255)))))
 | [.agg [.ro 4 q _,.ro 1 z _,.int .u8 r],.agg [.ro 4 q' _,.ro 1 z' _,.int .u8 _],.agg [.int .u8 a,.int .u8 b,.int .u8 c]] =>
  Nat.beq f 117&&(q4K q&&(u8K z&&(q4K q'&&(u8K z'&&(decide (z.length≤100)&&(decide (z'.length≤100)&&((decide (0≤r)&&decide (r≤255))&&((decide (0≤a)&&decide (a≤255))&&((decide (0≤b)&&decide (b≤255))&&(decide (0≤c)&&decide (c≤255)))))))))))
 | _=>false
abbrev orY:Orc:=trueOrc pY
theorem zQ (H:jP C) (f118:C.fns.get 118=some w118) (hone:∀ q:Q4,QIn q→∃ i:It,FnW C 422 [.agg (eQ q)]=some (eIt i)∧Good i) (hlives:FnW C 119 []=some (.bool true)) (inl:C.inl=inlB):OrcOk C orY:=by
 refine kW fun f vs h=>?_
 unfold pY at h
 split at h
 · obtain rfl:=Nat.eq_of_beq_eq_true h
   exact ⟨by rw [inl];decide,rfl,hlives⟩
 · simp only [Bool.and_eq_true,decide_eq_true_eq] at h
   obtain ⟨h0,h1,h2,h3,h4⟩:=h
   obtain rfl:=Nat.eq_of_beq_eq_true h0
   obtain ⟨q,rfl,hq⟩:=jX _ h1
   obtain ⟨z,rfl,hz⟩:=lg _ h2
   rw [List.length_map] at h3
   exact ⟨by rw [inl];decide,rfl,lu H.todM f118 hone hlives q _ hq z _ hz (by omega) _ h4 _ _ _⟩
 · simp only [Bool.and_eq_true,decide_eq_true_eq] at h
   obtain ⟨h0,h1,h2,h1',h2',h3,h3',h4,h5,h6,h7⟩:=h
   obtain rfl:=Nat.eq_of_beq_eq_true h0
   obtain ⟨q,rfl,hq⟩:=jX _ h1
   obtain ⟨z,rfl,hz⟩:=lg _ h2
   obtain ⟨q',rfl,hq'⟩:=jX _ h1'
   obtain ⟨z',rfl,hz'⟩:=lg _ h2'
   rw [List.length_map] at h3 h3'
   exact ⟨by rw [inl];decide,rfl,rZ H hone hlives q _ hq z _ hz (by omega) _ h4 q' _ hq' z' _ hz' (by omega) _ _ _ _ h5 h6 h7⟩
 · cases h
def cs3Y:List WCode:=[sqA w85.body,sqA (bY 1 w85.body),sqA (bY 2 w85.body)]
def hd3Y:WCode:=sqA (sqA (bY 3 w85.body))
def a3Y:Ann:=⟨true,[3,2,1],[]⟩
def e3Y:Ann:=⟨true,[2,1],[]⟩
def cs1Y:List WCode:=[sqA (bY 6 w85_c4),sqA (bY 7 w85_c4),sqA (bY 8 w85_c4),sqA (bY 9 w85_c4),sqA (bY 10 w85_c4),sqA (bY 11 w85_c4),sqA (bY 12 w85_c4),sqA (bY 13 w85_c4)]
def hd1Y:WCode:=sqA (sqA (bY 14 w85_c4))
def a1Y:Ann:=⟨true,[19],[]⟩
def e0Y:Ann:=⟨true,[],[]⟩
def st1Y (n:Nat):WSt:=⟨[(19,.int .i64 n)],[],0⟩
def hd0Y:WCode:=sqA (sqA w85_c1)
def a0Y:Ann:=⟨true,[22],[]⟩
def st0Y (n:Nat):WSt:=⟨[(22,.int .i64 n)],[],0⟩
theorem CB:w85.body=cs3Y.foldr .seq (.seq (.seq hd3Y (.block 0 (.loop a3Y w85_B3) e3Y)) w85_c4):=rfl
theorem AL:w85_c4=.seq (sqA w85_c4) (.seq (sqA (sqB w85_c4)) (.seq (sqA (sqB (sqB w85_c4))) (.seq (sqA (sqB (sqB (sqB w85_c4)))) (.seq (sqA (sqB (sqB (sqB (sqB w85_c4))))) (bY 5 w85_c4))))):=rfl
theorem CJ:bY 5 w85_c4=.seq (sqA (bY 5 w85_c4)) (bY 6 w85_c4):=rfl
theorem AQ:bY 6 w85_c4=cs1Y.foldr .seq (.seq (.seq hd1Y (.block 2 (.loop a1Y w85_B1) e0Y)) w85_c1):=rfl
theorem Dc:w85_c1=([]:List WCode).foldr .seq (.seq (.seq hd0Y (.block 7 (.loop a0Y w85_B0) e0Y)) w85_c0):=rfl
structure zJ (C:WProg) (N k3 k0:Nat):Prop where
 s:FnW C 112 [.agg i1C,.agg i1C]=some (.int .i64 1)
 x0:(ob (seqO C orY N 0 (cs3Y++[hd3Y]) zYe) (canon 0 a3Y))=some (st3K 0)
 xL:∀ i,i < k3→iterO C orY N 0 a3Y w85_B3 128 (st3K (i * 128))=some (st3K (i * 128+128))
 xE:leaveO C orY N 0 0 e3Y w85_B3 (st3K (k3 * 128))=some sXK
 y0:(ob (seqO C orY N 0 (cs1Y++[hd1Y]) zZK) (canon 0 a1Y))=some (st1Y 0)
 yL:∀ i,i < 8→iterO C orY N 0 a1Y w85_B1 1 (st1Y (i * 1))=some (st1Y (i * 1+1))
 yE:leaveO C orY N 0 2 e0Y w85_B1 (st1Y 8)=some zYe
 z0:(ob (seqO C orY N 0 ([]++[hd0Y]) zYe) (canon 0 a0Y))=some (st0Y 0)
 zL:∀ i,i < k0→iterO C orY N 0 a0Y w85_B0 10 (st0Y (i * 10))=some (st0Y (i * 10+10))
 zE:leaveO C orY N 0 7 e0Y w85_B0 (st0Y (k0 * 10))=some zYe
 f:(ob (evO C orY N 0 w85_c0 zYe) fun r=>ob (fnEndW w85.res r) fun r=>frzW r.2.1 frzDepth r.1)=some (.bool true)
theorem zx (H:bf C) (ok:OrcOk C orY) (hf:C.fns.get 85=some w85) {N k3 k0:Nat} (R:zJ C N k3 k0):FnW C 85 []=some (.bool true):=by
 obtain ⟨r,h1,h2⟩:=ob_some R.f
 have hb:CdW C 0 w85.body ⟨[],[],0⟩=some r:=by
  rw [CB,show (⟨[],[],0⟩:WSt)=zYe from rfl,
   head_cd ok cs3Y hd3Y a3Y w85_B3 0 e3Y R.x0 (iter_chunks a3Y w85_B3 128 st3K k3 R.xL) R.xE w85_c4,AL,c4K H,CJ,c5K H R.s,AQ,
   head_cd ok cs1Y hd1Y a1Y w85_B1 2 e0Y R.y0 (iter_chunks a1Y w85_B1 1 st1Y 8 R.yL) R.yE w85_c1,Dc,
   head_cd ok [] hd0Y a0Y w85_B0 7 e0Y R.z0 (iter_chunks a0Y w85_B0 10 st0Y k0 R.zL) R.zE w85_c0]
  exact evO_cd ok _ _ _ _ _ h1
 exact fn_cd hf rfl hb h2
end Go.D
end
