/- Part of the theory that the claims of this work use: I02, N01, N02, N03, N04, N05, N06, N07, N08, N09, D41, I03, I04, I05. No conditions of its own. -/
import Derived.Test.YtpdccepmgkpkjaaGreatT6
set_option linter.unusedVariables false
set_option linter.unusedSimpArgs false
set_option maxHeartbeats 4000000
set_option maxRecDepth 10000
section
namespace Go.D
open Go Go.Pav Go.Pw P
attribute [-simp] List.getElem_cons_drop
variable {C:WProg}
structure HasI2 (C:WProg):Prop extends HasI1 C where
 f2042:C.fns.get 2042=some w2042
 f5041:C.fns.get 5041=some w5041
theorem mapO_get1 {α β:Type} {f:α→Option β}:∀ (l:List α) (r:List β),l.length=r.length→(∀ (i:Nat) (x:α) (y:β),l[i]?=some x→r[i]?=some y→f x=some y)→mapO f l=some r
 | [],[],_,_=>rfl
 | x::l,y::r,h,hh=>by
  have h0:=hh 0 x y rfl rfl
  have h1:=mapO_get1 l r (by simpa using h) (fun i a b p q=>hh (i+1) a b (by simpa using p) (by simpa using q))
  simp only [mapO,h0,h1,ob,om]
 | [],_::_,h,_=>by simp at h
 | _::_,[],h,_=>by simp at h
theorem MkO.frz {h:WHeap} {lo hi:Nat} {v:AV} {m:List Bs} (R:MkO h lo hi v m) (n:Nat):frzW h (n+2) v=some (.ro 1 (m.map eS) true):=by
 rcases R with ⟨rfl,rfl⟩ | ⟨_,b,rfl,_,_,g⟩
 · rfl
 · have h1:List.take m.length (m.map eS)=m.map eS:=List.take_of_length_le (by simp)
   rw [frzW_sl,g]
   simp [Pw.frzS,h1]
theorem OwnE.frz {h:WHeap} {lo hi:Nat} {v:AV} {l:List En} (R:OwnE h lo hi v l) (n:Nat):frzW h (n+3) v=some (.ro 6 ((l.map En.own).map eEn) true):=by
 rcases R with ⟨rfl,rfl⟩ | ⟨_,rb,cs,dt,rfl,_,_,g,R,hd⟩
 · rfl
 · have h1:cs.take l.length=cs:=List.take_of_length_le (by rw [R.len];exact Nat.le_refl _)
   have h2:mapO (mapO (frzW h (n+2))) cs=some ((l.map En.own).map eEn):=by
    refine mapO_get1 _ _ (by simp [R.len]) (fun i c y hc hy=>?_)
    have hil:i < l.length:=by have:=(List.getElem?_eq_some_iff.1 hc).1;rw [← R.len];exact this
    obtain ⟨v,k3,k4⟩:=R.row i l[i] (List.getElem?_eq_getElem hil)
    rw [hc] at k3
    rw [Option.some.inj k3]
    simp [hil] at hy
    rw [← hy]
    have k5:=k4.frz n
    simp [mapO,k5,En.own,It.own]
   have h3:(((l.map En.own).map eEn).all fun e=>e.all isC)=true:=by
    rw [List.all_eq_true]
    intro e he
    obtain ⟨x,_,rfl⟩:=List.mem_map.1 he
    rfl
   rw [frzW_sl,g]
   cases dt with
   | false =>
    simp only [Pw.frzS,List.drop_zero,h1,h2,ob,h3]
    simp [og]
   | true =>
    have h4:cs=(l.map En.own).map eEn:=by
     refine List.ext_getElem (by simp [R.len]) (fun i q1 q2=>?_)
     have hil:i < l.length:=by simpa using q2
     obtain ⟨v,k1,k2⟩:=R.row i l[i] (List.getElem?_eq_getElem hil)
     rw [List.getElem?_eq_getElem q1] at k1
     have hw:=hd rfl _ (List.getElem_mem hil)
     rcases k2 with ⟨_,rfl⟩ | ⟨q,_⟩
     · rw [Option.some.inj k1];simp [hw,En.own,It.own]
     · exact absurd hw q
    simp only [Pw.frzS,List.drop_zero,h1]
    rw [h4]
    simp [og]
def errD (e:Int):Int × List En:=(e,[])
def outD (out:List En):Int × List En:=if ovE (out.map En.own)≠0 then errD (ovE (out.map En.own)) else (0,out)
def DoD (r:Int × List En) (o:Option (AV × WHeap × Nat)):Prop:=∃ v h' n',o=some (.tup [.agg [v],.int .i64 r.1],h',n')∧59≤n'∧Pav.get h' 30=some (.cells 1 [[.ro 6 [] true]] true true)∧OwnE h' 59 n' v r.2
theorem unseen5_loop (H:HasU2 C) (l:List En) (e:Bool) (hl:l.length≤1000000):∀ n i,n+i=l.length→∀ s:List Int,
 CK C 55 (fnEndW [.tmp 2]) [.sq w217_L0,.bk 0 ⟨true,[3],[]⟩,.sq w217_c0] w217_B0 ⟨[(9,.int .i64 i),(8,.int .i64 l.length),(7,.ro 6 (l.map eEn) e),(3,.ptr 55 0 0)],[(30,.cells 1 [[.ro 6 [] true]] true true),(55,.cells 1 [[.map 56]] true false),(56,.map (kmap s))],57⟩ =
  some (.fn 401 [.ptr 55 0 0],[(30,.cells 1 [[.ro 6 [] true]] true true),(55,.cells 1 [[.map 56]] true false),(56,.map (kmap (seenK s (l.drop i))))],59):=by
 intro n
 induction n with
 | zero =>
  intro i hi s
  have h1:l.drop i=[]:=List.drop_eq_nil_of_le (by omega)
  have h3:¬ i < l.length:=by omega
  rw [ck_unf w217_B0.eq_1]
  simp (disch:=omega) [ck_unf w217_c0.eq_1,h1,h3,seenK]
 | succ n ih =>
  intro i hi s
  have h1:i < l.length:=by omega
  have hp:=kmap_add l[i].i.k s
  have this:=ih (i+1) (by omega) (addK s l[i].i.k)
  rw [drop_cons h1,seenK]
  rw [ck_unf w217_B0.eq_1]
  simp at this
  simp (disch:=omega) [h1,wI64,hp,this]
theorem unseen5 (H:HasU2 C) (l:List En) (e:Bool) (hl:l.length≤1000000) :
 RnW C 217 [.ro 6 (l.map eEn) e] [(30,.cells 1 [[.ro 6 [] true]] true true)] 55=some (.fn 401 [.ptr 55 0 0],[(30,.cells 1 [[.ro 6 [] true]] true true),(55,.cells 1 [[.map 56]] true false),(56,.map (kmap (seenK [] l)))],59):=by
 have h:=unseen5_loop H l e hl l.length 0 (by simp) []
 rw [List.drop_zero,kmap_nil] at h
 rw [rnW_eq (args:=[.ro 6 (l.map eEn) e]) H.f217 rfl [(30,.cells 1 [[.ro 6 [] true]] true true)] 55]
 simp at h
 simp [w217,h]
theorem doins5_loop (H:HasI2 C) (ks:List Kd) (ke:Bool) (cap:Int) (hr:RuIn ks) (hru:ruOk ks cap=true) (l:List En) (e:Bool) (hl:l.length≤1000000) (hs:∀ x ∈ l,EnIn x) (a:Nat) (ha:a≤l.length) (x:List It) (xe:Bool) (hx:∀ y ∈ x,ItIn y) (hxl:x.length≤1000000) (ins:Bool) (cnt:Int)
 (hb:∀ y ∈ x,itOk ks.length y=true→-9223372036854775808≤(kdAt ks y.t).b∧(kdAt ks y.t).b≤9223372036854775807) (hsum:l.length+x.length≤1000000):∀ n i,n+i=x.length→(∀ y ∈ x.take i,itOk ks.length y=true)→∀ s:List Int,
 DoD (if incE ks cap s (x.drop i)≠0 then errD (incE ks cap s (x.drop i)) else outD (spl l a 0 (x.map (fre ks)))) (CK C 59 (fnEndW [.cell 6 1 true,.tmp 7]) [.sq w2042_L0,.bk 1 ⟨true,[6,5,3],[]⟩,.sq w2042_c0] w2042_B0 ⟨[(34,.int .i64 i),(33,.int .i64 x.length),(32,.ro 4 (x.map cIt) xe),(6,.ptr 59 0 0),(5,.ptr 60 0 0),(3,.ptr 61 0 0)],[(30,.cells 1 [[.ro 6 [] true]] true true),(55,.cells 1 [[.map 56]] true false),(56,.map (kmap s)),(59,.cells 1 [[.ro 6 [] true]] true true),
  (60,.cells 5 [[.bool ins,.int .i64 cnt,.ro 4 (x.map cIt) xe,.fn 401 [.ptr 55 0 0],.fn 220 [.rop [.ro 6 (l.map eEn) e],.rop [.int .i64 a]]]] true false),(61,.cells 2 [[.ro 9 (ks.map eKd) ke,.int .i64 cap]] true true)],62⟩):=by
 intro n
 induction n with
 | zero =>
  intro i hi hok s
  have h1:x.drop i=[]:=List.drop_eq_nil_of_le (by omega)
  have h3:¬ i < x.length:=by omega
  rw [List.take_of_length_le (by omega)] at hok
  have hf:=fresh_ok H.toHasK ks ke cap x xe (by omega) (fun y q=>⟨hx y q,itOk_t (hok y q)⟩)
  have hm:FnW C 220 [.ro 6 ((x.map (fre ks)).map eEn) true,.rop [.ro 6 (l.map eEn) e],.rop [.int .i64 a]]=some (.ro 6 ((spl l a 0 (x.map (fre ks))).map eEn) true):=by
   have h:=splice_ok H.toHasL l (x.map (fre ks)) e true a 0 hl (by simpa using hxl) (by omega)
   rw [fnW_eq H.f220 rfl]
   generalize spl l a 0 (x.map (fre ks))=R at *
   generalize x.map (fre ks)=X at *
   simp at h
   simp [w220,h,H.inl,inlB,H.pp,ppB]
  have hm2:∀ y ∈ spl l a 0 (x.map (fre ks)),EnIn y:=spl_in _ _ hs fun y q=>by
   obtain ⟨z,hz,rfl⟩:=List.mem_map.1 q
   exact ⟨hx z hz,hb z hz (hok z hz)⟩
  have hlen2:(spl l a 0 (x.map (fre ks))).length≤1000000:=by rw [spl_len _ _ _ _ (by omega)];simp;omega
  rw [h1,incE,if_neg (by simp)]
  generalize spl l a 0 (x.map (fre ks))=R at *
  generalize x.map (fre ks)=X at *
  rw [ck_unf w2042_B0.eq_1]
  obtain ⟨v,q1,n1,r1,r2,r3⟩:=i43_ok H.toHasI1 R true hlen2 (fun x q=>(hm2 x q).i.m) 72
  have r4:=r3
  have ht:=total_ok H.toHasL (R.map En.own) true (by simpa using hlen2) (fun x q=>by
   obtain ⟨y,hy,rfl⟩:=List.mem_map.1 q
   exact (hm2 y hy).ow)
  unfold outD errD
  rcases r3 with ⟨q0,rfl⟩ | ⟨q0,rb,cs,dt,rfl,p1,p2,p3,_,_⟩
  · subst q0
    have c2:ovE []=0:=by decide
    rw [List.map_nil,c2] at ht
    rw [List.map_nil,c2,if_neg (by simp)]
    simp only [aL,List.map_nil] at ht r1 hm
    simp (disch:=omega) [ck_unf w2042_c0.eq_1,h3,hf,hm,r1,ht,ovr_lo,getPut_self,getPut_ne,leF1,ltF,gtF,H.inl,inlB,H.pp,ppB]
    refine ⟨_,_,_,rfl,by omega,?_,.inl ⟨rfl,rfl⟩⟩
    simp (disch:=omega) only [getPut_ne,ovr_lo]
    rfl
  · simp (disch:=omega) [-frzW_sl,ck_unf w2042_c0.eq_1,h3,hf,hm,r1,ovr_lo,getPut_self,getPut_ne,leF1,ltF,gtF,H.inl,inlB,H.pp,ppB]
    have r5:=fun X=>r4.over (X:=X) (Nat.le_refl 72)
    generalize hH:put _ 70 (WObj.cells 1 [[AV.sl rb 6 0 R.length R.length true]] true false)=HH
    have r6:OwnE HH 72 n1 (.sl rb 6 0 R.length R.length true) R:=by
     rw [← hH]
     exact (r5 _).mono (Nat.le_refl _) (Nat.le_refl _) (fun b k1 k2=>by rw [getPut_ne (by omega),getPut_ne (by omega)])
    have fz:=r6.frz 12
    have g30:Pav.get HH 30=some (.cells 1 [[.ro 6 [] true]] true true):=by rw [← hH];simp (disch:=omega) only [getPut_ne,ovr_lo];rfl
    have g59:Pav.get HH 59=some (.cells 1 [[.ro 6 [] true]] true true):=by rw [← hH];simp (disch:=omega) only [getPut_ne,ovr_lo];rfl
    have g70:Pav.get HH 70=some (.cells 1 [[.sl rb 6 0 R.length R.length true]] true false):=by rw [← hH];exact getPut_self ..
    clear hH r5
    generalize R.map En.own=R' at *
    by_cases c2:ovE R'=0
    · rw [c2] at ht ⊢
      simp (disch:=omega) [-frzW_sl,fz,ht,g30,g59,g70,getPut_self,getPut_ne,H.inl,inlB,H.pp,ppB]
      exact ⟨_,_,_,rfl,by omega,by rw [getPut_ne (by omega)];exact g30,r6.mono (by omega) (by omega) (fun b k1 k2=>getPut_ne (by omega))⟩
    · simp (disch:=omega) [-frzW_sl,fz,ht,c2,g30,g59,g70,getPut_self,getPut_ne,H.inl,inlB,H.pp,ppB]
      exact ⟨_,_,_,rfl,by omega,by rw [getPut_ne (by omega)];exact g30,.inl ⟨rfl,rfl⟩⟩
 | succ n ih =>
  intro i hi hok s
  have h1:i < x.length:=by omega
  have hxi:=hx _ (List.getElem_mem h1)
  have hc:=icheck_ok H.toHasI x[i] ks.length hxi.t
  have hg:=fun a b c h n=>rnW_eq (args:=[a,b,c]) H.f401 rfl h n
  have hkg:=kmap_get x[i].k s
  rw [drop_cons h1,incE]
  generalize hO:outD (spl l a 0 (x.map (fre ks)))=O at *
  cases c1:itOk ks.length x[i]
  · have hE:itE ks cap x[i] (s.contains x[i].k)=6:=by unfold itE;simp [c1]
    rw [hE,if_pos (by simp),if_pos (by simp)]
    rw [c1] at hc
    simp at hc
    rw [ck_unf w2042_B0.eq_1]
    simp (disch:=omega) [h1,hc,H.inl,inlB,H.pp,ppB]
    exact ⟨_,_,_,rfl,by omega,rfl,.inl ⟨rfl,rfl⟩⟩
  · rw [c1] at hc
    simp at hc
    cases c2:s.contains x[i].k
    · have ht:=itOk_t c1
      have hre:=rrender_ok H.toHasK ks ke cap x[i] hxi ht hr
      have h14:=rnd14 hru c1 hxi.t.1
      have hp:=kmap_put x[i].k s c2
      rw [c2] at hkg
      simp only [aR,eIt] at hre hc
      have this:=ih (i+1) (by omega) (fun y q=>by
       rw [List.take_succ_eq_append_getElem h1] at q
       rcases List.mem_append.1 q with q | q
       · exact hok y q
       · simp at q;rw [q];exact c1) (s++[x[i].k])
      have hE:itE ks cap x[i] false=if rndE (kdAt ks x[i].t).p x[i] cap=0 then 0 else 14:=by unfold itE;simp [c1]
      generalize rndN (kdAt ks x[i].t).p x[i] cap=N at *
      generalize rndE (kdAt ks x[i].t).p x[i] cap=E at *
      by_cases c3:E=0
      · subst c3
        have hV:itE ks cap x[i] false=0:=by rw [hE];simp
        rw [hV]
        simp only [ne_eq,not_true_eq_false,if_false]
        generalize (if incE ks cap (s++[x[i].k]) (List.drop (i+1) x)≠0 then errD (incE ks cap (s++[x[i].k]) (List.drop (i+1) x)) else O)=Z at *
        rw [ck_unf w2042_B0.eq_1]
        simp at this
        simp (disch:=omega) [h1,hc,hg,w401,hkg,hp,hre,wI64,H.inl,inlB,H.pp,ppB]
        exact this
      · have c4:E=14:=by rcases h14 with q | q;exact absurd q c3;exact q
        subst c4
        have hV:itE ks cap x[i] false=14:=by rw [hE];simp
        rw [hV,if_pos (by simp),if_pos (by simp)]
        rw [ck_unf w2042_B0.eq_1]
        simp (disch:=omega) [h1,hc,hg,w401,hkg,hp,hre,H.inl,inlB,H.pp,ppB]
        exact ⟨_,_,_,rfl,by omega,rfl,.inl ⟨rfl,rfl⟩⟩
    · have hE:itE ks cap x[i] true=8:=by unfold itE;simp [c1]
      rw [hE,if_pos (by simp),if_pos (by simp)]
      rw [c2] at hkg
      simp only [eIt] at hc
      rw [ck_unf w2042_B0.eq_1]
      simp (disch:=omega) [h1,hc,hg,w401,hkg,H.inl,inlB,H.pp,ppB]
      exact ⟨_,_,_,rfl,by omega,rfl,.inl ⟨rfl,rfl⟩⟩
def insD (ks:List Kd) (cap:Int) (l:List En) (a:Int) (ins:Bool) (cnt:Int) (x:List It):Int × List En :=
 if ckE ks cap l≠0 then errD (ckE ks cap l) else if ins=false then errD 4 else if 1024 < cnt then errD 3 else if incE ks cap (keysE l) x≠0 then errD (incE ks cap (keysE l) x) else outD (spl l a.toNat 0 (x.map (fre ks)))
theorem do5_ins (H:HasI2 C) (ks:List Kd) (ke:Bool) (cap:Int) (hr:RuIn ks) (l:List En) (e:Bool) (hl:l.length≤1000000) (hs:∀ x ∈ l,EnIn x) (a:Int) (x:List It) (xe:Bool) (hx:∀ y ∈ x,ItIn y) (hxl:x.length≤1000000) (ins:Bool) (cnt:Int)
 (hb:∀ y ∈ x,itOk ks.length y=true→-9223372036854775808≤(kdAt ks y.t).b∧(kdAt ks y.t).b≤9223372036854775807) (hsum:l.length+x.length≤1000000) (hin:ins=true→0≤a∧a≤l.length) :
 DoD (insD ks cap l a ins cnt x) (RnW C 2042 [aR ks ke cap,aL l e,.agg [.bool ins,.int .i64 cnt,.ro 4 (x.map cIt) xe,.fn 401 [.ptr 55 0 0],.fn 220 [.rop [.ro 6 (l.map eEn) e],.rop [.int .i64 a]]]] [(30,.cells 1 [[.ro 6 [] true]] true true),(55,.cells 1 [[.map 56]] true false),(56,.map (kmap (seenK [] l)))] 59):=by
 have hc:=lcheck_ok H.toHasK ks ke cap hr l e hl hs
 unfold insD
 rw [rnW_eq (args:=[aR ks ke cap,aL l e,.agg [.bool ins,.int .i64 cnt,.ro 4 (x.map cIt) xe,.fn 401 [.ptr 55 0 0],.fn 220 [.rop [.ro 6 (l.map eEn) e],.rop [.int .i64 a]]]]) H.f2042 rfl [(30,.cells 1 [[.ro 6 [] true]] true true),(55,.cells 1 [[.map 56]] true false),(56,.map (kmap (seenK [] l)))] 59]
 by_cases c1:ckE ks cap l=0
 · have hru:=ckE_ru c1
   rw [c1] at hc
   rw [if_neg (by simpa using c1)]
   cases ins
   · rw [if_pos rfl]
     simp [w2042,hc,H.inl,inlB,H.pp,ppB]
     exact ⟨_,_,_,rfl,by omega,rfl,.inl ⟨rfl,rfl⟩⟩
   · rw [if_neg (by simp)]
     obtain ⟨ha1,ha2⟩:=hin rfl
     obtain ⟨a',rfl⟩:∃ a':Nat,a=a':=⟨a.toNat,by omega⟩
     by_cases c2:1024 < cnt
     · rw [if_pos c2]
       simp [w2042,hc,c2,H.inl,inlB,H.pp,ppB]
       exact ⟨_,_,_,rfl,by omega,rfl,.inl ⟨rfl,rfl⟩⟩
     · rw [if_neg c2]
       have h:=doins5_loop H ks ke cap hr hru l e hl hs a' (by omega) x xe hx hxl true cnt hb hsum x.length 0 (by simp) (by simp) (seenK [] l)
       rw [List.drop_zero] at h
       rw [incE_congr ks cap x (seenK [] l) (keysE l) (fun j=>by rw [seenK_has];simp)] at h
       simp only [Int.toNat_natCast]
       generalize (if incE ks cap (keysE l) x≠0 then errD (incE ks cap (keysE l) x) else outD (spl l a' 0 (x.map (fre ks))))=Z at *
       simp at h
       simp [w2042,hc,c2,H.inl,inlB,H.pp,ppB]
       exact h
 · rw [if_pos c1]
   simp [w2042,hc,c1,H.inl,inlB,H.pp,ppB]
   exact ⟨_,_,_,rfl,by omega,rfl,.inl ⟨rfl,rfl⟩⟩
theorem ins5_ok (H:HasI2 C) (ks:List Kd) (ke:Bool) (cap:Int) (hr:RuIn ks) (l:List En) (e:Bool) (hl:l.length≤1000000) (hs:∀ x ∈ l,EnIn x) (a:Int) (x:List It) (xe:Bool) (hx:∀ y ∈ x,ItIn y) (hxl:x.length≤1000000)
 (hb:∀ y ∈ x,itOk ks.length y=true→-9223372036854775808≤(kdAt ks y.t).b∧(kdAt ks y.t).b≤9223372036854775807) (hsum:l.length+x.length≤1000000) :
 ∃ v h1 n1,RnW C 5041 [aR ks ke cap,aL l e,.int .i64 a,.ro 4 (x.map cIt) xe] [] 30=some (.tup [.agg [v],.int .i64 (insD ks cap l a (inR a 0 l.length) ((l.length:Int)+x.length) x).1],h1,n1)∧59≤n1∧OwnE h1 59 n1 v (insD ks cap l a (inR a 0 l.length) ((l.length:Int)+x.length) x).2:=by
 have hw:=within_ok H.toHasL a 0 l.length (by omega)
 have hu:=unseen5 H.toHasU2 l e hl
 obtain ⟨v,h',n',hd,hn,hB,hO⟩:=do5_ins H ks ke cap hr l e hl hs a x xe hx hxl (inR a 0 l.length) ((l.length:Int)+x.length) hb hsum (fun q=>by unfold inR at q;simp at q;omega)
 generalize (insD ks cap l a (inR a 0 l.length) ((l.length:Int)+x.length) x)=D at *
 obtain ⟨er,R⟩:=D
 obtain ⟨L,hL⟩:∃ L,L=RnW C 5041 [aR ks ke cap,aL l e,.int .i64 a,.ro 4 (x.map cIt) xe] [] 30:=⟨_,rfl⟩
 rw [← hL]
 rw [rnW_eq (args:=[aR ks ke cap,aL l e,.int .i64 a,.ro 4 (x.map cIt) xe]) H.f5041 rfl] at hL
 generalize inR a 0 l.length=ins at *
 simp only at hO hd ⊢
 have hO2:=hO
 rcases hO2 with ⟨q0,rfl⟩ | ⟨q0,rb,cs,dt,rfl,p1,p2,p3,_,_⟩
 all_goals
  simp (disch:=omega) [w5041,wI64,hw,hu,hd,hB,H.inl,inlB,H.pp,ppB,getPut_self,getPut_ne] at hL
  exact ⟨_,_,_,hL,by omega,hO.mono (by omega) (by omega) (fun b k1 k2=>getPut_ne (by omega))⟩
structure Nt where
 k:Int
 a:Int
 c:Int
 t:Int
 x:List It
 e:Bool
@[simp] def eNt (n:Nt):List AV:=[.int .u8 n.k,.int .i64 n.a,.int .i64 n.c,.int .i64 n.t,.ro 4 (n.x.map cIt) n.e]
structure HasNo (C:WProg):Prop extends HasS C
structure HasNa (C:WProg):Prop extends HasNo C
structure NtIn (ks:List Kd) (n:Nt):Prop where
 x:∀ y ∈ n.x,ItIn y
 l:n.x.length≤10000
 b:∀ y ∈ n.x,itOk ks.length y=true→-9223372036854775808≤(kdAt ks y.t).b∧(kdAt ks y.t).b≤9223372036854775807
structure HasNb (C:WProg):Prop extends HasNa C,HasU2 C
theorem totG_own2:∀ (l:List En) (s:Int),totG s (l.map En.own)=totG s l
 | [],_=>rfl
 | e::r,s=>by
  have h:(En.own e).s=e.s:=rfl
  simp only [List.map_cons,totG,h,totG_own2 r]
theorem ovE_own2 (l:List En):ovE (l.map En.own)=ovE l:=by unfold ovE tot;rw [totG_own2]
end Go.D
end
section
namespace Go.D
open Go Go.Pav Go.Pw P
theorem en_false {ks:List Kd} {cap:Int} {e:En} {b:Bool} (h:enE ks cap e b=0):b=false:=by
 cases b with
 | false=>rfl
 | true =>
  have h1:itE ks cap e.i true≠0:=by
   unfold itE
   split
   · simp
   · rw [if_pos rfl];simp
  unfold enE at h
  rw [if_pos h1] at h
  exact absurd h h1
theorem chk_iff (ks:List Kd) (cap:Int):∀ (l:List En) (seen:List Int),chk ks cap seen l=0↔(∀ e ∈ l,enE ks cap e false=0∧e.i.k ∉ seen)∧(keysE l).Nodup:=by
 intro l
 induction l with
 | nil=>intro seen;simp [chk,keysE]
 | cons a r ih =>
  intro seen
  rw [chk]
  constructor
  · intro h
    split at h
    · rename_i hc;exact absurd h hc
    · rename_i hc
      have hc:enE ks cap a (seen.contains a.i.k)=0:=by simpa using hc
      have hf:=en_false hc
      rw [hf] at hc
      have hns:a.i.k ∉ seen:=by simpa using hf
      obtain ⟨q1,q2⟩:=(ih _).1 h
      refine ⟨?_,?_⟩
      · intro e he
        rcases List.mem_cons.1 he with rfl | he
        · exact ⟨hc,hns⟩
        · obtain ⟨p1,p2⟩:=q1 e he
          exact ⟨p1,fun hm=>p2 (by simp [hm])⟩
      · simp only [keysE,List.map_cons,List.nodup_cons] at q2 ⊢
        refine ⟨?_,q2⟩
        intro hm
        obtain ⟨e,he,hk⟩:=List.mem_map.1 hm
        exact (q1 e he).2 (by simp [hk])
  · rintro ⟨q1,q2⟩
    obtain ⟨p1,p2⟩:=q1 a (List.mem_cons_self ..)
    have hf:seen.contains a.i.k=false:=by simpa using p2
    rw [hf,if_neg (by simp [p1])]
    rw [ih]
    simp only [keysE,List.map_cons,List.nodup_cons] at q2 ⊢
    refine ⟨?_,q2.2⟩
    intro e he
    refine ⟨(q1 e (List.mem_cons_of_mem _ he)).1,?_⟩
    intro hm
    rcases List.mem_append.1 hm with hm | hm
    · exact (q1 e (List.mem_cons_of_mem _ he)).2 hm
    · simp only [List.mem_singleton] at hm
      exact q2.1 (List.mem_map.2 ⟨e,he,hm⟩)
theorem ck_iff (ks:List Kd) (cap:Int) (l:List En):ckE ks cap l=0↔ruOk ks cap=true∧l.length≤1024∧(∀ e ∈ l,enE ks cap e false=0)∧(keysE l).Nodup∧ovE l=0:=by
 have hi:=chk_iff ks cap l []
 unfold ckE
 constructor
 · intro h
   split at h
   · cases h
   · rename_i h1
     split at h
     · cases h
     · rename_i h2
       split at h
       · rename_i h3;exact absurd h h3
       · rename_i h3
         have h3:chk ks cap [] l=0:=by simpa using h3
         obtain ⟨q1,q2⟩:=hi.1 h3
         exact ⟨by simpa using h1,by omega,fun e he=>(q1 e he).1,q2,h⟩
 · rintro ⟨h1,h2,h3,h4,h5⟩
   have h6:chk ks cap [] l=0:=hi.2 ⟨fun e he=>⟨h3 e he,by simp⟩,h4⟩
   rw [if_neg (by simp [h1]),if_neg (by omega),if_neg (by simp [h6]),h5]
theorem it_false {ks:List Kd} {cap:Int} {x:It} {b:Bool} (h:itE ks cap x b=0):b=false:=by
 cases b with
 | false=>rfl
 | true =>
  unfold itE at h
  split at h
  · simp at h
  · rw [if_pos rfl] at h;simp at h
theorem inc_iff (ks:List Kd) (cap:Int):∀ (x:List It) (seen:List Int),incE ks cap seen x=0↔(∀ y ∈ x,itE ks cap y false=0∧y.k ∉ seen)∧(x.map fun y=>y.k).Nodup:=by
 intro x
 induction x with
 | nil=>intro seen;simp [incE]
 | cons a r ih =>
  intro seen
  rw [incE]
  constructor
  · intro h
    split at h
    · rename_i hc;exact absurd h hc
    · rename_i hc
      have hc:itE ks cap a (seen.contains a.k)=0:=by simpa using hc
      have hf:=it_false hc
      rw [hf] at hc
      have hns:a.k ∉ seen:=by simpa using hf
      obtain ⟨q1,q2⟩:=(ih _).1 h
      refine ⟨?_,?_⟩
      · intro e he
        rcases List.mem_cons.1 he with rfl | he
        · exact ⟨hc,hns⟩
        · obtain ⟨p1,p2⟩:=q1 e he
          exact ⟨p1,fun hm=>p2 (by simp [hm])⟩
      · simp only [List.map_cons,List.nodup_cons]
        refine ⟨?_,q2⟩
        intro hm
        obtain ⟨e,he,hk⟩:=List.mem_map.1 hm
        exact (q1 e he).2 (by simp [hk])
  · rintro ⟨q1,q2⟩
    obtain ⟨p1,p2⟩:=q1 a (List.mem_cons_self ..)
    have hf:seen.contains a.k=false:=by simpa using p2
    rw [hf,if_neg (by simp [p1])]
    rw [ih]
    simp only [List.map_cons,List.nodup_cons] at q2
    refine ⟨?_,q2.2⟩
    intro e he
    refine ⟨(q1 e (List.mem_cons_of_mem _ he)).1,?_⟩
    intro hm
    rcases List.mem_append.1 hm with hm | hm
    · exact (q1 e (List.mem_cons_of_mem _ he)).2 hm
    · simp only [List.mem_singleton] at hm
      exact q2.1 (List.mem_map.2 ⟨e,he,hm⟩)
theorem fre_ok {ks:List Kd} {cap:Int} (hr:ruOk ks cap=true) {y:It} (hy:ItIn y) (h:itE ks cap y false=0):enE ks cap (fre ks y) false=0:=by
 have hb:hOk (kdAt ks y.t).b=true:=by
  have ht:y.t < ks.length:=by
   unfold itE at h
   split at h
   · simp at h
   · rename_i h1
     unfold itOk at h1
     simp only [Bool.not_eq_false,Bool.and_eq_true,decide_eq_true_eq] at h1
     exact h1.1.1.2
  have ht0:=hy.t.1
  have hlt:y.t.toNat < ks.length:=by omega
  unfold ruOk at hr
  simp only [Bool.and_eq_true,List.all_eq_true] at hr
  have:=hr.2 ks[y.t.toNat] (List.getElem_mem hlt)
  unfold kdOk at this
  unfold kdAt
  rw [List.getElem?_eq_getElem hlt]
  simp only [Bool.and_eq_true] at this
  exact this.1
 unfold enE fre
 simp only
 rw [if_neg (by simp [h]),if_pos (by exact ⟨hb,by simp⟩)]
theorem spl_perm {α:Type} (l:List α) (a:Nat) (x:List α):(spl l a 0 x).Perm (x++l):=by
 unfold spl
 rw [Nat.add_zero]
 have h1:(l.take a++x++l.drop a).Perm (x++l.take a++l.drop a):=(List.perm_append_comm).append_right _
 rwa [List.append_assoc x,List.take_append_drop] at h1
theorem ck_ins {ks:List Kd} {cap:Int} {l:List En} (hc:ckE ks cap l=0) (a:Nat) {x:List It} (hx:∀ y ∈ x,ItIn y) (hl:(l.length:Int)+x.length≤1024) (hi:incE ks cap (keysE l) x=0) (ho:ovE (spl l a 0 (x.map (fre ks)))=0) :
 ckE ks cap (spl l a 0 (x.map (fre ks)))=0:=by
 obtain ⟨h1,h2,h3,h4,_⟩:=(ck_iff ks cap l).1 hc
 obtain ⟨q1,q2⟩:=(inc_iff ks cap x _).1 hi
 have hp:=spl_perm l a (x.map (fre ks))
 refine (ck_iff _ _ _).2 ⟨h1,?_,?_,?_,ho⟩
 · rw [hp.length_eq];simp;omega
 · intro e he
   rcases List.mem_append.1 (hp.mem_iff.1 he) with he | he
   · obtain ⟨y,hy,rfl⟩:=List.mem_map.1 he
     exact fre_ok h1 (hx y hy) (q1 y hy).1
   · exact h3 e he
 · refine (hp.map _).nodup_iff.2 ?_
   rw [List.map_append,List.nodup_append]
   have hk:(x.map (fre ks)).map (fun e=>e.i.k)=x.map fun y=>y.k:=by
    rw [List.map_map];rfl
   refine ⟨by rw [hk];exact q2,h4,?_⟩
   rw [hk]
   intro u hu v hv huv
   subst huv
   obtain ⟨y,hy,rfl⟩:=List.mem_map.1 hu
   exact (q1 y hy).2 hv
end Go.D
end
section
namespace Go.D
open Go Go.Pav Go.Pw P
attribute [-simp] List.getElem_cons_drop
variable {C:WProg}
def insF {α:Type} (a:Nat) (X:List α):Nat→List α→List α
 | i,[]=>if i=a then X else []
 | i,e::r=>(if i=a then X else [])++e::insF a X (i+1) r
theorem insF_no {α:Type} (a:Nat) (X:List α):∀ (l:List α) (i:Nat),a < i→insF a X i l=l
 | [],i,h=>by rw [insF,if_neg (by omega)]
 | e::r,i,h=>by rw [insF,if_neg (by omega),insF_no a X r (i+1) (by omega)];rfl
theorem insF_eq {α:Type} (a:Nat) (X:List α):∀ (l:List α) (i:Nat),i≤a→a≤i+l.length→insF a X i l=l.take (a - i)++X++l.drop (a - i)
 | [], i, h, h2 => by simp at h2; obtain rfl : i = a := by omega
                      simp [insF]
 | e::r,i,h,h2=>by
  rw [insF]
  by_cases c:i=a
  · rw [if_pos c,insF_no a X r (i+1) (by omega),show a - i=0 by omega];simp
  · simp at h2
    rw [if_neg c,insF_eq a X r (i+1) (by omega) (by omega),show a - i=(a - (i+1))+1 by omega];simp
theorem insF_spl {α:Type} (a:Nat) (X:List α) (l:List α) (h:a≤l.length):insF a X 0 l=spl l a 0 X:=by
 rw [insF_eq a X l 0 (by omega) (by omega)];unfold spl;simp
structure HasRi (C:WProg):Prop extends HasNb C where
 f461:C.fns.get 461=some w461
 f463:C.fns.get 463=some w463
theorem rins_in (H:HasRi C) (ks:List Kd) (ke:Bool) (cap:Int) (l:List En) (le:Bool) (x:List It) (xe:Bool) (hxl:x.length≤1024) (hx:∀ y ∈ x,ItIn y)
 (hf:∀ y ∈ x,FnW C 240 [aR ks ke cap,eIt y]=some (aE (fre ks y))) (a i:Int) (R:Option AV):∀ n j,n+j=x.length→∀ G:List En,G.length+n≤3000 →
 (CK C 0 (pureFin [.tmp 8,.tmp 9]) [.bk 1 ⟨true,[11,10,4,3,2,1],[]⟩,.sq w461_c1,.sq w461_L0,.bk 0 ⟨true,[10],[]⟩,.sq w461_c0] w461_c2
  ⟨[(11,.int .i64 i),(10,.sl 0 6 0 (G.length+n) (G.length+n) false),(4,.ptr 1 0 0),(3,.ro 4 (x.map cIt) xe),(2,.int .i64 a),(1,.ro 6 (l.map eEn) le)],[(0,.cells 6 ((G++(x.drop j).map (fre ks)).map eEn) true true),(1,.cells 2 [[.ro 9 (ks.map eKd) ke,.int .i64 cap]] true true)],2⟩=R) →
 w461_K1 C ⟨[(12,.int .i64 j),(11,.int .i64 i),(10,.sl 0 6 0 G.length G.length false),(4,.ptr 1 0 0),(3,.ro 4 (x.map cIt) xe),(2,.int .i64 a),(1,.ro 6 (l.map eEn) le)],[(0,.cells 6 (G.map eEn) true true),(1,.cells 2 [[.ro 9 (ks.map eKd) ke,.int .i64 cap]] true true)],2⟩=R:=by
 intro n
 induction n with
 | zero =>
  intro j hj G hG hR
  have h1:x.drop j=[]:=List.drop_eq_nil_of_le (by omega)
  have h3:¬ j < x.length:=by omega
  rw [h1] at hR
  simp only [w461_K1];rw [ck_unf w461_B1.eq_1]
  simp at hR
  simp (disch:=omega) [h3,hR]
 | succ n ih =>
  intro j hj G hG hR
  have h1:j < x.length:=by omega
  have hfit:(G.length+1) * 73≤35184372088832:=by omega
  have hj2:=hf x[j] (List.getElem_mem h1)
  rw [drop_cons h1] at hR
  have this:=ih (j+1) (by omega) (G++[fre ks x[j]]) (by simp;omega) (by
   have e1:(G++[fre ks x[j]]).length+n=G.length+(n+1):=by simp;omega
   rw [e1,List.append_assoc]
   exact hR)
  simp only [w461_K1] at this ⊢;rw [ck_unf w461_B1.eq_1]
  try simp [fre] at this
  try simp only [aE,eEn,eIt,fre] at hj2
  simp (disch:=omega) [h1,hj2,hfit,wI64,H.inl,inlB,H.pp,ppB,this]
def rfO (o:List En):AV:=if ovE o≠0 then .tup [.ro 6 [] true,.int .i64 13] else .tup [.ro 6 (o.map eEn) false,.int .i64 0]
def rest (a:Nat) (X l:List En) (i:Nat):List En:=if i≤l.length then insF a X i (l.drop i) else []
theorem rins_end (H:HasRi C) (o:List En) (hs:∀ x ∈ o,EnIn x) (hl:o.length≤3000) (h:WHeap) :
 CK C 0 (pureFin [.tmp 8,.tmp 9]) [] w461_c0 ⟨[(10,.sl 0 6 0 o.length o.length false)],[(0,.cells 6 (o.map eEn) true true)],1⟩=some (rfO o):=by
 have hv:=rover_ok H.toHasU2.toHasO.toHasK.toHasL o false (by omega) hs
 have h13:ovE o=0∨ovE o=13:=by unfold ovE;split <;> simp
 unfold rfO
 rcases h13 with h0 | h0
 · rw [h0] at hv
   rw [h0,if_neg (by simp)]
   cases o with
   | nil=>simp at hv;simp [ck_unf w461_c0.eq_1,hv,H.inl,inlB,H.pp,ppB]
   | cons g G=>simp at hv;simp (disch:=(first | omega | (simp;done) | (simp;omega))) [ck_unf w461_c0.eq_1,hv,List.take_of_length_le,H.inl,inlB,H.pp,ppB]
 · rw [h0] at hv
   rw [h0,if_pos (by simp)]
   cases o with
   | nil=>simp at hv;simp [ck_unf w461_c0.eq_1,hv,H.inl,inlB,H.pp,ppB]
   | cons g G=>simp at hv;simp (disch:=(first | omega | (simp;done) | (simp;omega))) [ck_unf w461_c0.eq_1,hv,List.take_of_length_le,H.inl,inlB,H.pp,ppB]
theorem rins_loop (H:HasRi C) (ks:List Kd) (ke:Bool) (cap:Int) (l:List En) (le:Bool) (hll:l.length≤1024) (x:List It) (xe:Bool) (hxl:x.length≤1024) (hx:∀ y ∈ x,ItIn y)
 (hf:∀ y ∈ x,FnW C 240 [aR ks ke cap,eIt y]=some (aE (fre ks y))) (a:Nat):∀ n i,n+i=l.length+1→∀ G:List En,G.length+n+(if i≤a then x.length else 0)≤2900 →
 (∀ e ∈ G++rest a (x.map (fre ks)) l i,EnIn e) →
 w461_K0 C ⟨[(11,.int .i64 i),(10,.sl 0 6 0 G.length G.length false),(4,.ptr 1 0 0),(3,.ro 4 (x.map cIt) xe),(2,.int .i64 a),(1,.ro 6 (l.map eEn) le)],[(0,.cells 6 (G.map eEn) true true),(1,.cells 2 [[.ro 9 (ks.map eKd) ke,.int .i64 cap]] true true)],2⟩ =
  some (rfO (G++rest a (x.map (fre ks)) l i)):=by
 intro n
 induction n with
 | zero =>
  intro i hi G hG hs
  have h3:¬ i≤l.length:=by omega
  have hr:rest a (x.map (fre ks)) l i=[]:=by unfold rest;rw [if_neg h3]
  rw [hr,List.append_nil] at hs ⊢
  have he:=rins_end H G hs (by omega) []
  simp only [w461_K0];rw [ck_unf w461_B0.eq_1]
  simp (disch:=omega) [h3,he]
 | succ n ih =>
  intro i hi G hG hs
  have h1:i≤l.length:=by omega
  have tail:∀ G':List En,G'.length+(n+1)+(if i+1≤a then x.length else 0)≤2900→(∀ e ∈ G'++((l.drop i).take 1++rest a (x.map (fre ks)) l (i+1)),EnIn e) →
   CK C 0 (pureFin [.tmp 8,.tmp 9]) [.bk 1 ⟨true,[11,10,4,3,2,1],[]⟩,.sq w461_c1,.sq w461_L0,.bk 0 ⟨true,[10],[]⟩,.sq w461_c0] w461_c2
    ⟨[(11,.int .i64 i),(10,.sl 0 6 0 G'.length G'.length false),(4,.ptr 1 0 0),(3,.ro 4 (x.map cIt) xe),(2,.int .i64 a),(1,.ro 6 (l.map eEn) le)],[(0,.cells 6 (G'.map eEn) true true),(1,.cells 2 [[.ro 9 (ks.map eKd) ke,.int .i64 cap]] true true)],2⟩ =
   some (rfO (G'++((l.drop i).take 1++rest a (x.map (fre ks)) l (i+1)))):=by
   intro G' hG' hs'
   have hfit:(G'.length+1) * 73≤35184372088832:=by omega
   by_cases c:i < l.length
   · have hd:(l.drop i).take 1=[l[i]]:=by rw [drop_cons c];rfl
     rw [hd] at hs' ⊢
     have this:=ih (i+1) (by omega) (G'++[l[i]]) (by simp;omega) (by rw [List.append_assoc];exact hs')
     rw [List.append_assoc] at this
     generalize rfO (G'++([l[i]]++rest a (x.map (fre ks)) l (i+1)))=Q at *
     simp only [w461_K0] at this
     rw [ck_unf w461_c2.eq_1]
     simp at this
     simp (disch:=omega) [ck_unf w461_c1.eq_1,c,hfit,wI64,this]
   · have hd:(l.drop i).take 1=[]:=by rw [List.drop_eq_nil_of_le (by omega)];rfl
     rw [hd,List.nil_append] at hs' ⊢
     have this:=ih (i+1) (by omega) G' (by omega) hs'
     generalize rfO (G'++rest a (x.map (fre ks)) l (i+1))=Q at *
     simp only [w461_K0] at this
     rw [ck_unf w461_c2.eq_1]
     simp at this
     simp (disch:=omega) [ck_unf w461_c1.eq_1,c,hfit,wI64,this]
  have hrest:rest a (x.map (fre ks)) l i=(if i=a then x.map (fre ks) else [])++((l.drop i).take 1++rest a (x.map (fre ks)) l (i+1)):=by
   unfold rest
   rw [if_pos h1]
   by_cases c:i < l.length
   · have c2:i+1≤l.length:=by omega
     rw [if_pos c2,drop_cons c,insF];rfl
   · have c2:¬ i+1≤l.length:=by omega
     rw [if_neg c2,List.drop_eq_nil_of_le (by omega),insF];simp
  rw [hrest] at hs ⊢
  by_cases c:i=a
  · subst c
    rw [if_pos rfl] at hs ⊢
    rw [if_pos (Nat.le_refl _)] at hG
    have ht:=tail (G++x.map (fre ks)) (by rw [if_neg (by omega)];simp;omega) (by rw [List.append_assoc];exact hs)
    rw [List.append_assoc] at ht
    generalize rfO (G++(x.map (fre ks)++((l.drop i).take 1++rest i (x.map (fre ks)) l (i+1))))=Q at *
    have this:=rins_in H ks ke cap l le x xe hxl hx hf i i (some Q) x.length 0 (by simp) G (by omega) (by
     rw [List.drop_zero]
     have e1:(G++x.map (fre ks)).length=G.length+x.length:=by simp
     rw [← e1]
     exact ht)
    simp only [w461_K1] at this
    simp only [w461_K0];rw [ck_unf w461_B0.eq_1]
    simp at this
    simp (disch:=omega) [h1,wI64,this]
  · rw [if_neg c,List.nil_append] at hs ⊢
    have c':¬ (i:Int)=a:=by omega
    have hfit:(G.length+1) * 73≤35184372088832:=by split at hG <;> omega
    by_cases d:i < l.length
    · have hd:(l.drop i).take 1=[l[i]]:=by rw [drop_cons d];rfl
      rw [hd] at hs ⊢
      have this:=ih (i+1) (by omega) (G++[l[i]]) (by simp;split <;> split at hG <;> omega) (by rw [List.append_assoc];exact hs)
      rw [List.append_assoc] at this
      generalize rfO (G++([l[i]]++rest a (x.map (fre ks)) l (i+1)))=Q at *
      simp only [w461_K0] at this ⊢;rw [ck_unf w461_B0.eq_1]
      simp at this
      simp (disch:=omega) [ck_unf w461_c2.eq_1,ck_unf w461_c1.eq_1,h1,c,c',d,hfit,wI64,this]
    · have hd:(l.drop i).take 1=[]:=by rw [List.drop_eq_nil_of_le (by omega)];rfl
      rw [hd,List.nil_append] at hs ⊢
      have this:=ih (i+1) (by omega) G (by split <;> split at hG <;> omega) hs
      generalize rfO (G++rest a (x.map (fre ks)) l (i+1))=Q at *
      simp only [w461_K0] at this ⊢;rw [ck_unf w461_B0.eq_1]
      simp at this
      simp (disch:=omega) [ck_unf w461_c2.eq_1,ck_unf w461_c1.eq_1,h1,c,c',d,hfit,wI64,this]
theorem inR0 (a:Int) (n:Int):inR a 0 n=false↔a < 0∨n < a:=by
 unfold inR
 by_cases h1:0≤a <;> by_cases h2:a≤n <;> simp [h1,h2] <;> omega
theorem inc_nn (ks:List Kd) (cap:Int):∀ (x:List It) (seen:List Int),0≤incE ks cap seen x
 | [],_=>by simp [incE]
 | a::r,seen=>by
  rw [incE]
  have h:0≤itE ks cap a (seen.contains a.k):=by
   unfold itE
   split
   · simp
   · split
     · simp
     · split <;> simp
  split
  · exact h
  · exact inc_nn ks cap r _
theorem rins_ok (H:HasRi C) (ks:List Kd) (ke:Bool) (cap:Int) (l:List En) (le:Bool) (hll:l.length≤1024) (hs:∀ e ∈ l,EnIn e) (a:Int) (x:List It) (xe:Bool) (hx:∀ y ∈ x,ItIn y) (hxl:x.length≤10000)
 (hi:FnW C 532 [aR ks ke cap,.ro 6 (l.map eEn) le,.ro 4 (x.map cIt) xe]=some (.int .i64 (incE ks cap (keysE l) x)))
 (hf:incE ks cap (keysE l) x=0→∀ y ∈ x,FnW C 240 [aR ks ke cap,eIt y]=some (aE (fre ks y)))
 (hfe:incE ks cap (keysE l) x=0→∀ y ∈ x,EnIn (fre ks y)) :
 FnW C 461 [aR ks ke cap,.ro 6 (l.map eEn) le,.int .i64 a,.ro 4 (x.map cIt) xe] =
  some (if inR a 0 l.length=false then .tup [.ro 6 [] true,.int .i64 4] else if 1024 < (l.length:Int)+x.length then .tup [.ro 6 [] true,.int .i64 3] else if incE ks cap (keysE l) x≠0 then .tup [.ro 6 [] true,.int .i64 (incE ks cap (keysE l) x)] else rfO (spl l a.toNat 0 (x.map (fre ks)))):=by
 rw [fnW_eq H.f461 rfl]
 by_cases c1:a < 0
 · rw [if_pos ((inR0 _ _).2 (.inl c1))]
   simp (disch:=omega) [w461,c1,wI64,H.inl,inlB,H.pp,ppB]
 · by_cases c2:(l.length:Int) < a
   · rw [if_pos ((inR0 _ _).2 (.inr c2))]
     simp (disch:=omega) [w461,c1,c2,wI64,H.inl,inlB,H.pp,ppB]
   · rw [if_neg (fun h=>by have:=(inR0 _ _).1 h;omega)]
     by_cases c3:1024 < (l.length:Int)+x.length
     · rw [if_pos c3]
       simp (disch:=omega) [w461,c1,c2,c3,wI64,H.inl,inlB,H.pp,ppB]
     · rw [if_neg c3]
       have hnn:=inc_nn ks cap x (keysE l)
       by_cases c4:incE ks cap (keysE l) x=0
       · rw [if_neg (by simp [c4])]
         rw [c4] at hi
         obtain ⟨b,rfl⟩:∃ b:Nat,a=b:=⟨a.toNat,by omega⟩
         have h:=rins_loop H ks ke cap l le hll x xe (by omega) hx (hf c4) b (l.length+1) 0 (by simp) [] (by simp;omega) (by
          intro e he
          rw [List.nil_append] at he
          unfold rest at he
          rw [if_pos (by omega),List.drop_zero,insF_spl _ _ _ (by omega)] at he
          rcases List.mem_append.1 ((spl_perm _ _ _).mem_iff.1 he) with he | he
          · obtain ⟨y,hy,rfl⟩:=List.mem_map.1 he
            exact hfe c4 y hy
          · exact hs e he)
         unfold rest at h
         rw [List.nil_append,if_pos (by omega),List.drop_zero,insF_spl _ _ _ (by omega)] at h
         rw [Int.toNat_natCast]
         generalize rfO (spl l b 0 (x.map (fre ks)))=Q at *
         simp only [w461_K0] at h
         simp at h
         simp (disch:=omega) [w461,c1,c2,c3,hi,wI64,H.inl,inlB,H.pp,ppB,h]
       · rw [if_pos c4]
         have c5:0 < incE ks cap (keysE l) x:=by omega
         generalize incE ks cap (keysE l) x=E at *
         simp (disch:=omega) [w461,c1,c2,c3,hi,c4,c5,wI64,H.inl,inlB,H.pp,ppB]
theorem itE_t {ks:List Kd} {cap:Int} {y:It} (h:itE ks cap y false=0):y.t < ks.length:=by
 unfold itE at h
 split at h
 · simp at h
 · rename_i h1
   unfold itOk at h1
   simp only [Bool.not_eq_false,Bool.and_eq_true,decide_eq_true_eq] at h1
   exact h1.1.1.2
theorem itE_ok {ks:List Kd} {cap:Int} {y:It} (h:itE ks cap y false=0):itOk ks.length y=true:=by
 unfold itE at h
 split at h
 · simp at h
 · rename_i h1;simpa using h1
theorem rins_ok2 (H:HasRi C) (ks:List Kd) (ke:Bool) (cap:Int) (hr:RuIn ks) (l:List En) (le:Bool) (hll:l.length≤1024) (hs:∀ e ∈ l,EnIn e) (n:Nt) (hn:NtIn ks n) :
 FnW C 461 [aR ks ke cap,.ro 6 (l.map eEn) le,.int .i64 n.a,.ro 4 (n.x.map cIt) n.e] =
  some (if inR n.a 0 l.length=false then .tup [.ro 6 [] true,.int .i64 4] else if 1024 < (l.length:Int)+n.x.length then .tup [.ro 6 [] true,.int .i64 3] else if incE ks cap (keysE l) n.x≠0 then .tup [.ro 6 [] true,.int .i64 (incE ks cap (keysE l) n.x)] else rfO (spl l n.a.toNat 0 (n.x.map (fre ks)))):=by
 have hl2:=hn.l
 refine rins_ok H ks ke cap l le hll hs n.a n.x n.e hn.x hn.l (incoming_ok H.toHasU2.toHasO.toHasK ks ke cap hr l le (by omega) n.x n.e (by omega) hn.x) (fun hz y hy=>?_) (fun hz y hy=>?_)
 · have hi:=((inc_iff ks cap n.x _).1 hz).1 y hy
   exact rfresh_ok H.toHasU2.toHasO.toHasK ks ke cap y (hn.x y hy) (itE_t hi.1)
 · have hi:=((inc_iff ks cap n.x _).1 hz).1 y hy
   exact ⟨hn.x y hy,hn.b y hy (itE_ok hi.1)⟩
theorem rres_ok (H:HasRi C) (ks:List Kd) (ke:Bool) (cap:Int) (hr:RuIn ks) (n:Nt) (hn:NtIn ks n) :
 FnW C 463 [aR ks ke cap,.ro 4 (n.x.map cIt) n.e] =
  some (if 1024 < (n.x.length:Int) then .tup [.ro 6 [] true,.int .i64 3] else if incE ks cap [] n.x≠0 then .tup [.ro 6 [] true,.int .i64 (incE ks cap [] n.x)] else rfO (n.x.map (fre ks))):=by
 have h:=rins_ok2 H ks ke cap hr [] true (by simp) (by simp) { n with a:=0 } ⟨hn.x,hn.l,hn.b⟩
 have e1:inR 0 0 (([]:List En).length:Int)=true:=by decide
 have e2:keysE ([]:List En)=[]:=rfl
 have e3:∀ X:List En,spl [] (0:Int).toNat 0 X=X:=by intro X;simp [spl]
 simp only [e1,e2,e3,List.map_nil,List.length_nil,Int.natCast_zero,Int.zero_add] at h
 rw [if_neg (by decide)] at h
 have hQ:∃ L f E,(if 1024 < (n.x.length:Int) then AV.tup [.ro 6 [] true,.int .i64 3] else if incE ks cap [] n.x≠0 then .tup [.ro 6 [] true,.int .i64 (incE ks cap [] n.x)] else rfO (n.x.map (fre ks)))=.tup [.ro 6 L f,.int .i64 E]:=by
  unfold rfO
  repeat' split
  all_goals exact ⟨_,_,_,rfl⟩
 obtain ⟨L,f,E,hQ⟩:=hQ
 rw [hQ] at h ⊢
 rw [fnW_eq H.f463 rfl]
 simp (disch:=omega) [w463,h,wI64,H.inl,inlB,H.pp,ppB]
structure HasF (C:WProg):Prop extends HasG C where
 f234:C.fns.get 234=some w234
def fewM (m:List Bs):Bool:=m.all fun s=>decide (s.length≤20)
def fewI (x:It):Bool:=decide (x.x.length≤70)&&decide (x.m.length≤12)&&fewM x.m
def fewB (l:List It):Bool:=decide (l.length≤20)&&l.all fewI
theorem few_in (H:HasF C) (l:List It) (e:Bool) (V:Int) (i:Nat) (hi:i < l.length) (hl:l.length≤20) (hm:l[i].m.length≤12)
 (hV:w234_K0 C ⟨[(3,.int .i64 ((i:Int)+1)),(0,.ro 4 (l.map cIt) e)],[],0⟩=some (.int .i64 V)):∀ n k,n+k=l[i].m.length →
 w234_K1 C ⟨[(4,.int .i64 k),(3,.int .i64 i),(0,.ro 4 (l.map cIt) e)],[],0⟩=some (.int .i64 (if fewM (l[i].m.drop k)=true then V else 0)):=by
 intro n
 induction n with
 | zero =>
  intro k hk
  have h1:l[i].m.drop k=[]:=List.drop_eq_nil_of_le (by omega)
  have h3:¬ k < l[i].m.length:=by omega
  simp only [w234_K0] at hV
  simp only [w234_K1];rw [ck_unf w234_B1.eq_1]
  simp (disch:=omega) [ck_unf w234_c1.eq_1,hi,h1,h3,fewM,hV,wI64]
 | succ n ih =>
  intro k hk
  have h1:k < l[i].m.length:=by omega
  have this:=ih (k+1) (by omega)
  have hf:fewM (l[i].m.drop k)=(decide (l[i].m[k].length≤20)&&fewM (l[i].m.drop (k+1))):=by
   rw [drop_cons h1];rfl
  by_cases c:l[i].m[k].length≤20
  · have c':¬ (20:Int) < (l[i].m[k].length:Int):=by omega
    rw [decide_eq_true c,Bool.true_and] at hf
    rw [hf]
    generalize (if fewM (l[i].m.drop (k+1))=true then V else 0)=Z at *
    simp only [w234_K1] at this ⊢;rw [ck_unf w234_B1.eq_1]
    simp at this
    simp (disch:=omega) [hi,h1,c,c',wI64,this]
  · have c':(20:Int) < (l[i].m[k].length:Int):=by omega
    rw [decide_eq_false c,Bool.false_and] at hf
    rw [hf]
    simp only [w234_K1];rw [ck_unf w234_B1.eq_1]
    simp (disch:=omega) [hi,h1,c,c',wI64]
theorem few_loop (H:HasF C) (l:List It) (e:Bool) (hl:l.length≤20):∀ n i,n+i=l.length →
 w234_K0 C ⟨[(3,.int .i64 i),(0,.ro 4 (l.map cIt) e)],[],0⟩=some (.int .i64 (if (l.drop i).all fewI=true then 1 else 0)):=by
 intro n
 induction n with
 | zero =>
  intro i hi
  have h1:l.drop i=[]:=List.drop_eq_nil_of_le (by omega)
  have h3:¬ i < l.length:=by omega
  simp only [w234_K0];rw [ck_unf w234_B0.eq_1]
  simp (disch:=omega) [ck_unf w234_c0.eq_1,h1,h3]
 | succ n ih =>
  intro i hi
  have h1:i < l.length:=by omega
  have this:=ih (i+1) (by omega)
  rw [drop_cons h1,List.all_cons]
  by_cases c1:l[i].x.length≤70
  · have c1':¬ (70:Int) < (l[i].x.length:Int):=by omega
    by_cases c2:l[i].m.length≤12
    · have c2':¬ (12:Int) < (l[i].m.length:Int):=by omega
      generalize (l.drop (i+1)).all fewI=B at *
      have hin:=few_in H l e _ i h1 hl c2 (by simpa using this) l[i].m.length 0 (by simp)
      rw [List.drop_zero] at hin
      have hf:fewI l[i]=fewM l[i].m:=by unfold fewI;simp [c1,c2]
      rw [hf]
      have hE:(if (fewM l[i].m&&B)=true then (1:Int) else 0)=(if fewM l[i].m=true then (if B=true then 1 else 0) else 0):=by
       cases fewM l[i].m <;> simp
      rw [hE]
      generalize (if fewM l[i].m=true then (if B=true then (1:Int) else 0) else 0)=Z at *
      simp only [w234_K1] at hin
      simp only [w234_K0];rw [ck_unf w234_B0.eq_1]
      simp at hin
      simp (disch:=omega) [h1,c1,c1',c2,c2',wI64,hin]
    · have c2':(12:Int) < (l[i].m.length:Int):=by omega
      have hf:fewI l[i]=false:=by unfold fewI;simp [c2]
      rw [hf]
      simp only [w234_K0];rw [ck_unf w234_B0.eq_1]
      simp (disch:=omega) [h1,c1,c1',c2,c2',wI64]
  · have c1':(70:Int) < (l[i].x.length:Int):=by omega
    have hf:fewI l[i]=false:=by unfold fewI;simp [c1]
    rw [hf]
    simp only [w234_K0];rw [ck_unf w234_B0.eq_1]
    simp (disch:=omega) [h1,c1,c1',wI64]
theorem few_ok (H:HasF C) (l:List It) (e:Bool):FnW C 234 [.ro 4 (l.map cIt) e]=some (.int .i64 (if fewB l=true then 1 else 0)):=by
 rw [fnW_eq H.f234 rfl]
 by_cases c:l.length≤20
 · have c':¬ (20:Int) < (l.length:Int):=by omega
   have h:=few_loop H l e c l.length 0 (by simp)
   rw [List.drop_zero] at h
   have hf:fewB l=l.all fewI:=by unfold fewB;simp [c]
   rw [hf]
   generalize (if l.all fewI=true then (1:Int) else 0)=Z at *
   simp only [w234_K0] at h
   simp at h
   simp (disch:=omega) [w234,c,c',h]
 · have c':(20:Int) < (l.length:Int):=by omega
   have hf:fewB l=false:=by unfold fewB;simp [c]
   rw [hf]
   simp (disch:=omega) [w234,c,c']
structure HasIL (C:WProg):Prop extends HasI2 C,HasRi C,HasF C where
 f596:C.fns.get 596=some w596
theorem kdb5 (r:Int) (hr:0≤r∧r≤255) (t:Int):-9223372036854775808≤(kdAt (kindsOf r) t).b∧(kdAt (kindsOf r) t).b≤9223372036854775807:=by
 by_cases c:t.toNat < 3
 · have h:((t.toNat:Int))=t∨t < 0:=by omega
   have:=kd_base r hr t.toNat (by omega)
   have h2:kdAt (kindsOf r) (t.toNat:Int)=kdAt (kindsOf r) t:=by unfold kdAt;rw [Int.toNat_natCast]
   rw [h2] at this
   omega
 · have h:kdAt (kindsOf r) t=⟨zP,0,false,0⟩:=by
    unfold kdAt
    rw [List.getElem?_eq_none (by simp [kindsOf];omega)];rfl
   rw [h];simp
structure Two5 (l w:List En):Prop where
 a:l.length≤1000000
 b:w.length≤1000000
 c:∀ x ∈ l,x.i.m.length≤1000000
 d:∀ x ∈ w,x.i.m.length≤1000000
 s:(decide (l.length=w.length)&&sameL l w)=true
theorem two5_own (X:List En) (hX:X.length≤1000000) (hg:∀ e ∈ X,EnIn e):Two5 (X.map En.own) X:=by
 refine ⟨by simpa using hX,hX,fun x hx=>?_,fun x hx=>(hg x hx).i.m,by rw [sameL_own];simp⟩
 obtain ⟨y,hy,rfl⟩:=List.mem_map.1 hx
 exact (hg y hy).i.m
theorem two5_nil:Two5 [] []:=⟨by simp,by simp,by simp,by simp,rfl⟩
theorem is_two5 (H:HasQ C) {l w:List En} (t:Two5 l w) (e2:Bool) (n:Int):FnW C 243 [aL l true,.int .i64 n,.ro 6 (w.map eEn) e2,.int .i64 n]=some (.int .i64 1):=by
 rw [is_list_ok H l w true e2 n n t.a t.b t.c t.d,decide_eq_true rfl,Bool.true_and,if_pos t.s]
structure InsO (C:WProg) (ks:List Kd) (R:List En) (f:Bool) (a:Int) (x:List It) (xe:Bool) (b:Int) (V w:List En) (e:Bool):Prop where
 d:insD ks 12 R a (inR a 0 R.length) ((R.length:Int)+x.length) x=(b,V)
 r:FnW C 461 [aR ks true 12,.ro 6 (R.map eEn) f,.int .i64 a,.ro 4 (x.map cIt) xe]=some (.tup [.ro 6 (w.map eEn) e,.int .i64 b])
 t:Two5 (V.map En.own) w
 l:V.length≤2000
 m:∀ y ∈ V,y.i.m.length≤1000000
 k:b≠0∨b=0∧FnW C 235 [aR ks true 12,.ro 6 (w.map eEn) e]=some (.int .i64 0)
theorem inso_ok (H:HasIL C) (r:Int) (hr:0≤r∧r≤255) (R:List En) (f:Bool) (hl:R.length≤12) (hck:ckE (kindsOf r) 12 R=0) (hin:∀ x ∈ R,EnIn x) (a:Int) (x:List It) (xe:Bool) (hx:∀ y ∈ x,ItIn y) (hxl:x.length≤20) :
 ∃ b V w e,InsO C (kindsOf r) R f a x xe b V w e:=by
 have hru:=ru_in r
 have h2:=rins_ok2 H.toHasRi (kindsOf r) true 12 hru R f (by omega) hin ⟨0,a,0,0,x,xe⟩ ⟨hx,by simp only;omega,fun y _ _=>kdb5 r hr y.t⟩
 simp only at h2
 have hd:∀ c,insD (kindsOf r) 12 R a (inR a 0 R.length) c x=if inR a 0 R.length=false then errD 4 else if 1024 < c then errD 3 else if incE (kindsOf r) 12 (keysE R) x≠0 then errD (incE (kindsOf r) 12 (keysE R) x) else outD (spl R a.toNat 0 (x.map (fre (kindsOf r)))):=by
  intro c;unfold insD;rw [hck,if_neg (by simp)]
 have bad:∀ n:Int,n≠0→insD (kindsOf r) 12 R a (inR a 0 R.length) ((R.length:Int)+x.length) x=errD n→FnW C 461 [aR (kindsOf r) true 12,.ro 6 (R.map eEn) f,.int .i64 a,.ro 4 (x.map cIt) xe]=some (.tup [.ro 6 [] true,.int .i64 n])→∃ b V w e,InsO C (kindsOf r) R f a x xe b V w e :=
  fun n hn q1 q2=>⟨n,[],[],true,q1,q2,two5_nil,by simp,by simp,.inl hn⟩
 cases c:inR a 0 R.length
 · rw [c,if_pos rfl] at h2
   exact bad 4 (by simp) (by rw [hd,if_pos c]) h2
 · rw [c,if_neg (by simp)] at h2
   by_cases c1:1024 < (R.length:Int)+x.length
   · rw [if_pos c1] at h2
     exact bad 3 (by simp) (by rw [hd,if_neg (by simp [c]),if_pos c1]) h2
   · rw [if_neg c1] at h2
     by_cases c2:incE (kindsOf r) 12 (keysE R) x=0
     · rw [if_neg (by simpa using c2)] at h2
       have hX:∀ e ∈ spl R a.toNat 0 (x.map (fre (kindsOf r))),EnIn e:=spl_in (Q:=EnIn) _ _ hin (by
        intro e he
        obtain ⟨y,hy,rfl⟩:=List.mem_map.1 he
        exact ⟨hx y hy,kdb5 r hr y.t⟩)
       have hal:a.toNat≤R.length:=by unfold inR at c;simp at c;omega
       have hlen:(spl R a.toNat 0 (x.map (fre (kindsOf r)))).length≤2000:=by rw [spl_len _ _ _ _ (by omega)];simp;omega
       unfold rfO at h2
       by_cases c3:ovE (spl R a.toNat 0 (x.map (fre (kindsOf r))))=0
       · rw [if_neg (by simpa using c3)] at h2
         refine ⟨0,_,_,false,?_,h2,two5_own _ (by omega) hX,hlen,fun y hy=>(hX y hy).i.m,.inr ⟨rfl,?_⟩⟩
         · rw [hd,if_neg (by simp [c]),if_neg c1,if_neg (by simpa using c2)]
           unfold outD
           rw [ovE_own2,c3,if_neg (by simp)]
         · rw [rlcheck_ok H.toHasK (kindsOf r) true 12 hru _ _ (by omega) hX,ck_ins hck a.toNat hx (by omega) c2 c3]
       · have h13:ovE (spl R a.toNat 0 (x.map (fre (kindsOf r))))=13:=by unfold ovE at c3 ⊢;split at c3 <;> simp_all
         rw [if_pos c3] at h2
         refine bad 13 (by simp) ?_ h2
         rw [hd,if_neg (by simp [c]),if_neg c1,if_neg (by simpa using c2)]
         unfold outD
         rw [ovE_own2,h13,if_pos (by simp)]
     · rw [if_pos c2] at h2
       exact bad _ c2 (by rw [hd,if_neg (by simp [c]),if_neg c1,if_pos c2]) h2
theorem reso_ok (H:HasIL C) (r:Int) (hr:0≤r∧r≤255) (R:List En) (f:Bool) (hl:R.length≤12) (hck:ckE (kindsOf r) 12 R=0) (hin:∀ x ∈ R,EnIn x) (x:List It) (xe:Bool) (hx:∀ y ∈ x,ItIn y) (hxl:x.length≤20) :
 ∃ (p w:List En) (e:Bool) (b:Int),FnW C 108 [aR (kindsOf r) true 12,aL R f,.ro 4 (x.map cIt) xe]=some (.tup [aL p true,.int .i64 b])∧FnW C 463 [aR (kindsOf r) true 12,.ro 4 (x.map cIt) xe]=some (.tup [.ro 6 (w.map eEn) e,.int .i64 b])∧Two5 p w:=by
 have hru:=ru_in r
 have h1:=reset_ok H.toHasU2 (kindsOf r) true 12 hru R f (by omega) hin x xe hx (by omega) (fun y _ _=>kdb5 r hr y.t)
 have h2:=rres_ok H.toHasRi (kindsOf r) true 12 hru ⟨0,0,0,0,x,xe⟩ ⟨hx,by simp only;omega,fun y _ _=>kdb5 r hr y.t⟩
 simp only at h2
 rw [hck,if_neg (by simp)] at h1
 by_cases c1:1024 < (x.length:Int)
 · rw [if_pos c1] at h1 h2
   exact ⟨[],[],true,3,h1,h2,two5_nil⟩
 · rw [if_neg c1] at h1 h2
   by_cases c2:incE (kindsOf r) 12 [] x=0
   · rw [if_neg (by simpa using c2)] at h1 h2
     have hX:∀ e ∈ x.map (fre (kindsOf r)),EnIn e:=by
      intro e he
      obtain ⟨y,hy,rfl⟩:=List.mem_map.1 he
      exact ⟨hx y hy,kdb5 r hr y.t⟩
     unfold outL at h1
     unfold rfO at h2
     rw [ovE_own2] at h1
     by_cases c:ovE (x.map (fre (kindsOf r)))=0
     · rw [if_neg (by simpa using c)] at h1 h2
       exact ⟨_,_,false,0,h1,h2,two5_own _ (by simp;omega) hX⟩
     · have h13:ovE (x.map (fre (kindsOf r)))=13:=by unfold ovE at c ⊢;split at c <;> simp_all
       rw [h13,if_pos (by simp)] at h1
       rw [if_pos c] at h2
       exact ⟨[],[],true,_,h1,h2,two5_nil⟩
   · rw [if_pos c2] at h1 h2
     exact ⟨[],[],true,_,h1,h2,two5_nil⟩
def RowE (X:WHeap) (rb b11:Nat) (c:List AV):Prop:=∃ k t x v s kn:AV,c=[k,t,x,v,s,kn]∧(v=.ro 1 [] true∨∃ (b m:Nat) (es:List (List AV)) (dt:Bool),v=.sl b 1 0 m m true∧11 < b∧b≠rb∧b≠b11∧Pav.get X b=some (.cells 1 es true dt)∧es.length=m∧m≤1000000∧∀ e ∈ es,∃ c0:AV,e=[c0])
structure LwE (o0 o10 o11:WObj) (rb b11 n:Nat) (X:WHeap):Prop where
 f0:Pav.get X 0=some o0
 f10:Pav.get X 10=some o10
 f11:Pav.get X 11=some o11
 fb:Pav.get X b11=some (.cells 1 [[.sl rb 6 0 n n true]] true false)
 rows:∃ cs dt,Pav.get X rb=some (.cells 6 cs true dt)∧cs.length=n∧∀ c ∈ cs,RowE X rb b11 c
 ne:11 < rb∧rb≠b11∧11 < b11∧n≤1000000
theorem rowe_put {X:WHeap} {rb b11:Nat} {c:List AV} (R:RowE X rb b11 c) {cs:List (List AV)} {dt:Bool}:RowE (put X rb (.cells 6 cs true dt)) rb b11 c:=by
 obtain ⟨k,t,x,v,s,kn,h1,h2⟩:=R
 refine ⟨k,t,x,v,s,kn,h1,?_⟩
 rcases h2 with h2 | ⟨b,m,es,dt',h2,h3,h4,h5,h6,h7,h8,h9⟩
 · exact .inl h2
 · exact .inr ⟨b,m,es,dt',h2,h3,h4,h5,by rw [getPut_ne (Ne.symm h4)];exact h6,h7,h8,h9⟩
theorem rowe_put2 {X:WHeap} {rb b11 b:Nat} {c:List AV} (R:RowE X rb b11 c) {es:List (List AV)} {dt:Bool} (m:Nat) (hm:m≤1000000) (hl:es.length=m) (he:∀ e ∈ es,∃ c0:AV,e=[c0]) {es0:List (List AV)} {dt0:Bool} (h0:Pav.get X b=some (.cells 1 es0 true dt0)) (hl0:es0.length=m):RowE (put X b (.cells 1 es true dt)) rb b11 c:=by
 obtain ⟨k,t,x,v,s,kn,h1,h2⟩:=R
 refine ⟨k,t,x,v,s,kn,h1,?_⟩
 rcases h2 with h2 | ⟨b',m',es',dt',h2,h3,h4,h5,h6,h7,h8,h9⟩
 · exact .inl h2
 · by_cases q:b=b'
   · subst q
     rw [h0] at h6
     cases h6
     exact .inr ⟨b,m',es,dt,h2,h3,h4,h5,getPut_self ..,by omega,h8,he⟩
   · exact .inr ⟨b',m',es',dt',h2,h3,h4,h5,by rw [getPut_ne q];exact h6,h7,h8,h9⟩
theorem we_inner (H:HasIL C) (o0 o10 o11:WObj) (v9 v10:AV) (rb b11 n:Nat) (i:Nat) (hi:i < n):∀ (m M k:Nat),m+k=M→∀ (X:WHeap) (next:Nat),LwE o0 o10 o11 rb b11 n X →
 (∃ cs dt k' t x v s kn,Pav.get X rb=some (.cells 6 cs true dt)∧cs[i]?=some [k',t,x,v,s,kn]∧((M=0∧v=.ro 1 [] true)∨∃ b,v=.sl b 1 0 M M true)) →
 ∃ X' n',LwE o0 o10 o11 rb b11 n X'∧next≤n' ∧
 CK C 0 (pureFin [.tmp 6]) [.sq w596_L1,.bk 2 ⟨true,[17,11,10,9,8,7,3],[(9999,65537)]⟩,.sq w596_c2,.bk 1 ⟨true,[17,11,10,9,8,7,3],[(9999,65537)]⟩,.sq w596_c1,.sq w596_L0,.bk 0 ⟨true,[10,9,8,7,3],[(9999,65537)]⟩,.sq w596_c0] w596_B1
  ⟨[(18,.int .i64 k),(17,.int .i64 i),(11,.ptr b11 0 0),(10,v10),(9,v9),(8,.ptr 11 0 0),(7,.ptr 10 0 0),(3,.ptr 0 0 0)],X,next⟩ =
 CK C 0 (pureFin [.tmp 6]) [.sq w596_L0,.bk 0 ⟨true,[10,9,8,7,3],[(9999,65537)]⟩,.sq w596_c0] w596_B0
  ⟨[(17,.int .i64 (i+1:Nat)),(11,.ptr b11 0 0),(10,v10),(9,v9),(8,.ptr 11 0 0),(7,.ptr 10 0 0),(3,.ptr 0 0 0)],X',n'⟩:=by
 intro m
 induction m with
 | zero =>
  intro M k hk X next F hc
  have ne:=F.ne
  obtain ⟨cs,dt,k',t,x,v,s,kn,g,hci,hv⟩:=hc
  have c1:¬ k < M:=by omega
  have hil:i < cs.length:=(List.getElem?_eq_some_iff.1 hci).1
  have hcg:cs[i]=[k',t,x,v,s,kn]:=by rw [List.getElem?_eq_getElem hil] at hci;exact Option.some.inj hci
  obtain ⟨cs',dt',g',hl',hr⟩:=F.rows
  rw [g] at g'
  cases g'
  have F2:∀ dt3,LwE o0 o10 o11 rb b11 n (put X rb (.cells 6 (cs.set i [k',t,x,v,.int .i64 0,kn]) true dt3)):=by
   intro dt3
   refine ⟨by rw [getPut_ne (by omega)];exact F.f0,by rw [getPut_ne (by omega)];exact F.f10,by rw [getPut_ne (by omega)];exact F.f11,by rw [getPut_ne (by omega)];exact F.fb,⟨_,dt3,getPut_self ..,by simp;omega,fun c hc=>?_⟩,ne⟩
   rcases List.mem_or_eq_of_mem_set hc with q | q
   · exact rowe_put (hr c q)
   · subst q
     have h0:=hr _ (List.getElem_mem hil)
     rw [hcg] at h0
     obtain ⟨_,_,_,_,_,_,e1,e2⟩:=rowe_put (cs:=cs.set i [k',t,x,v,.int .i64 0,kn]) (dt:=dt3) h0
     simp only [List.cons.injEq] at e1
     obtain ⟨rfl,rfl,rfl,rfl,rfl,rfl,_⟩:=e1
     exact ⟨_,_,_,_,_,_,rfl,e2⟩
  refine ⟨_,next+19,F2 dt,by omega,?_⟩
  rw [ck_unf w596_B1.eq_1]
  rcases hv with ⟨_,rfl⟩ | ⟨b,rfl⟩
  · simp (disch:=omega) [F.fb,g,hi,hil,hcg,c1,ck_unf w596_c1.eq_1,ck_unf w596_c2.eq_1,wI64]
  · simp (disch:=omega) [F.fb,g,hi,hil,hcg,c1,ck_unf w596_c1.eq_1,ck_unf w596_c2.eq_1,wI64]
 | succ m ih =>
  intro M k hk X next F hc
  have ne:=F.ne
  obtain ⟨cs,dt,k',t,x,v,s,kn,g,hci,hv⟩:=hc
  have c1:k < M:=by omega
  obtain ⟨b,rfl⟩:∃ b,v=.sl b 1 0 M M true:=by rcases hv with ⟨q,_⟩ | q;omega;exact q
  have hil:i < cs.length:=(List.getElem?_eq_some_iff.1 hci).1
  have hcg:cs[i]=[k',t,x,.sl b 1 0 M M true,s,kn]:=by rw [List.getElem?_eq_getElem hil] at hci;exact Option.some.inj hci
  obtain ⟨cs',dt',g',hl',hr⟩:=F.rows
  rw [g] at g'
  cases g'
  obtain ⟨q1,q2,q3,q4,q5,q6,e1,e2⟩:=hr _ (List.getElem_mem hil)
  rw [hcg] at e1
  simp only [List.cons.injEq] at e1
  obtain ⟨rfl,rfl,rfl,rfl,rfl,rfl,_⟩:=e1
  rcases e2 with e2 | ⟨b',m',es,dt2,e2,e3,e4,e5,e6,e7,e8,e9⟩
  · cases e2
  simp only [AV.sl.injEq] at e2
  obtain ⟨rfl,_,_,rfl,_⟩:=e2
  have hkl:k < es.length:=by omega
  obtain ⟨c0,he⟩:=e9 _ (List.getElem_mem hkl)
  have F2:∀ dt3,LwE o0 o10 o11 rb b11 n (put X b (.cells 1 (es.set k [.str [111,116,104,101,114]]) true dt3)):=by
   intro dt3
   refine ⟨by rw [getPut_ne (by omega)];exact F.f0,by rw [getPut_ne (by omega)];exact F.f10,by rw [getPut_ne (by omega)];exact F.f11,by rw [getPut_ne e5];exact F.fb,⟨cs,dt,by rw [getPut_ne e4];exact g,hl',fun c hc=>rowe_put2 (hr c hc) M e8 (by simp;omega) (fun x hx=>?_) e6 e7⟩,ne⟩
   rcases List.mem_or_eq_of_mem_set hx with q | q
   · exact e9 x q
   · exact ⟨_,q⟩
  obtain ⟨X',n',z1,z0,z2⟩:=ih M (k+1) (by omega) (put X b (.cells 1 (es.set k [.str [111,116,104,101,114]]) true dt2)) (next+23) (F2 dt2) ⟨cs,dt,_,_,_,_,_,_,by rw [getPut_ne e4];exact g,hci,.inr ⟨b,rfl⟩⟩
  refine ⟨X',n',z1,by omega,?_⟩
  rw [← z2,ck_unf w596_B1.eq_1]
  simp (disch:=omega) [F.fb,g,hi,hil,hcg,c1,wI64,e6,hkl,he]
theorem we_outer (H:HasIL C) (o0 o10 o11:WObj) (v9 v10:AV) (rb b11 n:Nat):∀ (m i:Nat),m+i=n→∀ (X:WHeap) (next:Nat),LwE o0 o10 o11 rb b11 n X →
 ∃ X' n',LwE o0 o10 o11 rb b11 n X'∧next≤n' ∧
 CK C 0 (pureFin [.tmp 6]) [.sq w596_L0,.bk 0 ⟨true,[10,9,8,7,3],[(9999,65537)]⟩,.sq w596_c0] w596_B0
  ⟨[(17,.int .i64 i),(11,.ptr b11 0 0),(10,v10),(9,v9),(8,.ptr 11 0 0),(7,.ptr 10 0 0),(3,.ptr 0 0 0)],X,next⟩ =
 CK C 0 (pureFin [.tmp 6]) [] w596_c0 ⟨[(10,v10),(9,v9),(8,.ptr 11 0 0),(7,.ptr 10 0 0),(3,.ptr 0 0 0)],X',n'⟩:=by
 intro m
 induction m with
 | zero =>
  intro i hi X next F
  have ne:=F.ne
  have c1:¬ i < n:=by omega
  refine ⟨X,next+5,F,by omega,?_⟩
  rw [ck_unf w596_B0.eq_1]
  simp (disch:=omega) [F.fb,c1]
 | succ m ih =>
  intro i hi X next F
  have ne:=F.ne
  have c1:i < n:=by omega
  obtain ⟨cs,dt,g,hl,hr⟩:=F.rows
  have hil:i < cs.length:=by omega
  obtain ⟨k',t,x,v,s,kn,e1,e2⟩:=hr _ (List.getElem_mem hil)
  have hci:cs[i]?=some [k',t,x,v,s,kn]:=by rw [List.getElem?_eq_getElem hil,e1]
  obtain ⟨M,hv⟩:∃ M,(M=0∧v=.ro 1 [] true)∨∃ b,v=.sl b 1 0 M M true:=by
   rcases e2 with e2 | ⟨b,m',_,_,e2,_⟩
   · exact ⟨0,.inl ⟨rfl,e2⟩⟩
   · exact ⟨m',.inr ⟨b,e2⟩⟩
  obtain ⟨X1,n1,z1,z5,z2⟩:=we_inner H o0 o10 o11 v9 v10 rb b11 n i c1 M M 0 (by simp) X (next+6) F ⟨cs,dt,k',t,x,v,s,kn,g,hci,hv⟩
  obtain ⟨X2,n2,z3,z6,z4⟩:=ih (i+1) (by omega) X1 n1 z1
  refine ⟨X2,n2,z3,by omega,?_⟩
  rw [← z4,← z2,ck_unf w596_B0.eq_1]
  simp (disch:=omega) [F.fb,c1]
theorem we_nil (H:HasIL C) (v9 v10:AV) (b11:Nat) (X:WHeap) (next:Nat) (fb:Pav.get X b11=some (.cells 1 [[.ro 6 [] true]] true true)):∃ n',next≤n' ∧
 CK C 0 (pureFin [.tmp 6]) [.sq w596_L0,.bk 0 ⟨true,[10,9,8,7,3],[(9999,65537)]⟩,.sq w596_c0] w596_B0
  ⟨[(17,.int .i64 0),(11,.ptr b11 0 0),(10,v10),(9,v9),(8,.ptr 11 0 0),(7,.ptr 10 0 0),(3,.ptr 0 0 0)],X,next⟩ =
 CK C 0 (pureFin [.tmp 6]) [] w596_c0 ⟨[(10,v10),(9,v9),(8,.ptr 11 0 0),(7,.ptr 10 0 0),(3,.ptr 0 0 0)],X,n'⟩:=by
 refine ⟨next+5,by omega,?_⟩
 rw [ck_unf w596_B0.eq_1]
 simp (disch:=omega) [fb]
theorem we_end (H:HasIL C) (hl:FnW C 119 []=some (.bool true)) (q:List Q4) (qe:Bool) (z:List Int) (ze:Bool) (r:Int) (ks:List Kd) (R:List En) (f:Bool)
 (hof:FnW C 130 [.agg [.ro 4 (q.map eQ) qe,.ro 1 (z.map eU8) ze,.int .u8 r]]=some (.tup [aR ks true 12,aL R f]))
 (hs:FnW C 172 [.ro 6 (R.map eEn) f,.ro 6 (R.map eEn) f]=some (.int .i64 1)) {b:Int} {w:List En} {e:Bool} (hk:b≠0∨b=0∧FnW C 235 [aR ks true 12,.ro 6 (w.map eEn) e]=some (.int .i64 0))
 (X:WHeap) (n:Nat) (hn:50≤n) (f0:Pav.get X 0=some (.cells 3 [[.ro 4 (q.map eQ) qe,.ro 1 (z.map eU8) ze,.int .u8 r]] true true)) (f10:Pav.get X 10=some (.cells 2 [[.ro 9 (ks.map eKd) true,.int .i64 12]] true true)) (f11:Pav.get X 11=some (.cells 1 [[.ro 6 (R.map eEn) f]] true true)) :
 CK C 0 (pureFin [.tmp 6]) [] w596_c0 ⟨[(10,.int .i64 b),(9,.ro 6 (w.map eEn) e),(8,.ptr 11 0 0),(7,.ptr 10 0 0),(3,.ptr 0 0 0)],X,n⟩=some (.bool true):=by
 rw [ck_unf w596_c0.eq_1]
 rcases hk with c | ⟨c,h⟩
 · simp (disch:=omega) [f0,f10,f11,hof,hs,hl,c,H.inl,inlB,H.pp,ppB,getPut_self,getPut_ne,wI64]
 · subst c
   simp (disch:=omega) [f0,f10,f11,hof,hs,hl,h,H.inl,inlB,H.pp,ppB,getPut_self,getPut_ne,wI64]
theorem il_core (H:HasIL C) (hl:FnW C 119 []=some (.bool true)) (q:List Q4) (qe:Bool) (z:List Int) (ze:Bool) (r:Int) (ks:List Kd) (R:List En) (f:Bool)
 (hof:FnW C 130 [.agg [.ro 4 (q.map eQ) qe,.ro 1 (z.map eU8) ze,.int .u8 r]]=some (.tup [aR ks true 12,aL R f]))
 (a:Int) (x:List It) (xe:Bool) (hfew:FnW C 234 [.ro 4 (x.map cIt) xe]=some (.int .i64 1))
 (hins:∃ v h1 n1,RnW C 5041 [aR ks true 12,aL R f,.int .i64 a,.ro 4 (x.map cIt) xe] [] 30=some (.tup [.agg [v],.int .i64 (insD ks 12 R a (inR a 0 R.length) ((R.length:Int)+x.length) x).1],h1,n1)∧59≤n1∧OwnE h1 59 n1 v (insD ks 12 R a (inR a 0 R.length) ((R.length:Int)+x.length) x).2)
 {b:Int} {V w:List En} {e:Bool} (M:InsO C ks R f a x xe b V w e)
 {p w2:List En} {e2:Bool} {b2:Int} (m1:FnW C 108 [aR ks true 12,aL R f,.ro 4 (x.map cIt) xe]=some (.tup [aL p true,.int .i64 b2])) (m2:FnW C 463 [aR ks true 12,.ro 4 (x.map cIt) xe]=some (.tup [.ro 6 (w2.map eEn) e2,.int .i64 b2])) (m3:Two5 p w2)
 (hs:FnW C 172 [.ro 6 (R.map eEn) f,.ro 6 (R.map eEn) f]=some (.int .i64 1)) :
 FnW C 596 [.agg [.ro 4 (q.map eQ) qe,.ro 1 (z.map eU8) ze,.int .u8 r],.int .i64 a,.ro 4 (x.map cIt) xe]=some (.bool true):=by
 rw [M.d] at hins
 obtain ⟨v,h1,n1,k1,k2,k3⟩:=hins
 simp only at k1 k3
 have mr:=M.r
 have i1:=is_two5 H.toHasQ M.t e b
 have i2:=is_two5 H.toHasQ m3 e2 b2
 rw [fnW_eq H.f596 rfl]
 have k4:=k3
 rcases k3 with ⟨q0,rfl⟩ | ⟨q0,rb,cs,dt,rfl,p1,p2,p3,_,_⟩
 · subst q0
   simp only [aL,List.map_nil] at i1
   simp (disch:=omega) [-frzW_sl,w596,wI64,hfew,hof,k1,mr,i1,m1,m2,i2,ovr_lo,getPut_self,getPut_ne,leF1,ltF,gtF,H.inl,inlB,H.pp,ppB]
   generalize hY:put _ _ (WObj.cells 1 [[AV.ro 6 (p.map eEn) true]] true true)=Y
   have y0:Pav.get Y 0=some (.cells 3 [[.ro 4 (q.map eQ) qe,.ro 1 (z.map eU8) ze,.int .u8 r]] true true):=by rw [← hY];simp (disch:=omega) only [getPut_ne,ovr_lo];rfl
   have y10:Pav.get Y 10=some (.cells 2 [[.ro 9 (ks.map eKd) true,.int .i64 12]] true true):=by rw [← hY];simp (disch:=omega) only [getPut_ne,ovr_lo];rfl
   have y11:Pav.get Y 11=some (.cells 1 [[.ro 6 (R.map eEn) f]] true true):=by rw [← hY];simp (disch:=omega) only [getPut_ne,ovr_lo];rfl
   have yb:Pav.get Y (n1+1+1+1)=some (.cells 1 [[.ro 6 [] true]] true true):=by rw [← hY];simp (disch:=omega) only [getPut_ne,getPut_self]
   clear hY
   have key:∀ N,50≤N→CK C 0 (pureFin [.tmp 6]) [.sq w596_L0,.bk 0 ⟨true,[10,9,8,7,3],[(9999,65537)]⟩,.sq w596_c0] w596_B0
    ⟨[(17,.int .i64 0),(11,.ptr (n1+1+1+1) 0 0),(10,.int .i64 b),(9,.ro 6 (w.map eEn) e),(8,.ptr 11 0 0),(7,.ptr 10 0 0),(3,.ptr 0 0 0)],Y,N⟩=some (.bool true):=fun N hN=>by
    obtain ⟨n',z1,z2⟩:=we_nil H (.ro 6 (w.map eEn) e) (.int .i64 b) _ Y N yb
    rw [z2]
    exact we_end H hl q qe z ze r ks R f hof hs M.k Y n' (by omega) y0 y10 y11
   exact key _ (by omega)
 · simp (disch:=omega) [-frzW_sl,w596,wI64,hfew,hof,k1,mr,ovr_lo,getPut_self,getPut_ne,leF1,ltF,gtF,H.inl,inlB,H.pp,ppB]
   have r5:=fun X=>k4.over (X:=X) (show 30≤59 by omega)
   generalize hH:put _ (n1+1+1+1) (WObj.cells 1 [[AV.sl rb 6 0 V.length V.length true]] true false)=HH
   have r6:OwnE HH 59 n1 (.sl rb 6 0 V.length V.length true) V:=by
    rw [← hH]
    exact (r5 _).mono (Nat.le_refl _) (Nat.le_refl _) (fun b k1 k2=>by rw [getPut_ne (by omega),getPut_ne (by omega)])
   have fz:=r6.frz 12
   have g0:Pav.get HH 0=some (.cells 3 [[.ro 4 (q.map eQ) qe,.ro 1 (z.map eU8) ze,.int .u8 r]] true true):=by rw [← hH];simp (disch:=omega) only [getPut_ne,ovr_lo];rfl
   have g10:Pav.get HH 10=some (.cells 2 [[.ro 9 (ks.map eKd) true,.int .i64 12]] true true):=by rw [← hH];simp (disch:=omega) only [getPut_ne,ovr_lo];rfl
   have g11:Pav.get HH 11=some (.cells 1 [[.ro 6 (R.map eEn) f]] true true):=by rw [← hH];simp (disch:=omega) only [getPut_ne,ovr_lo];rfl
   have gb:Pav.get HH (n1+1+1+1)=some (.cells 1 [[.sl rb 6 0 V.length V.length true]] true false):=by rw [← hH];exact getPut_self ..
   clear hH r5 k4
   generalize V.map En.own=V' at *
   simp (disch:=omega) [-frzW_sl,wI64,fz,i1,m1,m2,i2,g10,g11,gb,getPut_self,getPut_ne,H.inl,inlB,H.pp,ppB]
   generalize hY:put _ _ (WObj.cells 1 [[AV.ro 6 (p.map eEn) true]] true true)=Y
   have y0:Pav.get Y 0=some (.cells 3 [[.ro 4 (q.map eQ) qe,.ro 1 (z.map eU8) ze,.int .u8 r]] true true):=by rw [← hY];simp (disch:=omega) only [getPut_ne];exact g0
   have y10:Pav.get Y 10=some (.cells 2 [[.ro 9 (ks.map eKd) true,.int .i64 12]] true true):=by rw [← hY];simp (disch:=omega) only [getPut_ne];exact g10
   have y11:Pav.get Y 11=some (.cells 1 [[.ro 6 (R.map eEn) f]] true true):=by rw [← hY];simp (disch:=omega) only [getPut_ne];exact g11
   have yb:Pav.get Y (n1+1+1+1)=some (.cells 1 [[.sl rb 6 0 V.length V.length true]] true false):=by rw [← hY];simp (disch:=omega) only [getPut_ne];exact gb
   have r7:OwnE Y 59 n1 (.sl rb 6 0 V.length V.length true) V:=by
    rw [← hY]
    exact r6.mono (Nat.le_refl _) (Nat.le_refl _) (fun b k1 k2=>by rw [getPut_ne (by omega),getPut_ne (by omega)])
   clear hY
   have F:LwE (.cells 3 [[.ro 4 (q.map eQ) qe,.ro 1 (z.map eU8) ze,.int .u8 r]] true true) (.cells 2 [[.ro 9 (ks.map eKd) true,.int .i64 12]] true true) (.cells 1 [[.ro 6 (R.map eEn) f]] true true) rb (n1+1+1+1) V.length Y:=by
    rcases r7 with ⟨u,_⟩ | ⟨_,rb',cs',dt',e1,u1,u2,u3,u4,_⟩
    · exact absurd u q0
    simp only [AV.sl.injEq] at e1
    obtain ⟨rfl,_⟩:=e1
    have ml:=M.l
    refine ⟨y0,y10,y11,yb,⟨cs',dt',u3,u4.len,fun c hc=>?_⟩,by omega⟩
    obtain ⟨i,hi',rfl⟩:=List.mem_iff_getElem.1 hc
    have hil:i < V.length:=by rw [← u4.len];exact hi'
    obtain ⟨v,t1,t2⟩:=u4.row i V[i] (List.getElem?_eq_getElem hil)
    rw [List.getElem?_eq_getElem hi'] at t1
    rw [Option.some.inj t1]
    refine ⟨_,_,_,v,_,_,rfl,?_⟩
    rcases t2 with ⟨_,t2⟩ | ⟨_,b',t2,t3,t4,t5⟩
    · exact .inl t2
    · refine .inr ⟨b',_,_,true,t2,by omega,by omega,by omega,t5,by simp,M.m _ (List.getElem_mem hil),fun e he=>?_⟩
      obtain ⟨x,hx,rfl⟩:=List.mem_map.1 he
      exact ⟨_,rfl⟩
   have key:∀ N,50≤N→CK C 0 (pureFin [.tmp 6]) [.sq w596_L0,.bk 0 ⟨true,[10,9,8,7,3],[(9999,65537)]⟩,.sq w596_c0] w596_B0
    ⟨[(17,.int .i64 (0:Nat)),(11,.ptr (n1+1+1+1) 0 0),(10,.int .i64 b),(9,.ro 6 (w.map eEn) e),(8,.ptr 11 0 0),(7,.ptr 10 0 0),(3,.ptr 0 0 0)],Y,N⟩=some (.bool true):=fun N hN=>by
    obtain ⟨X',n',z0,z1,z2⟩:=we_outer H _ _ _ (.ro 6 (w.map eEn) e) (.int .i64 b) rb (n1+1+1+1) V.length V.length 0 (by simp) Y N F
    rw [z2]
    exact we_end H hl q qe z ze r ks R f hof hs M.k X' n' (by omega) z0.f0 z0.f10 z0.f11
   exact key _ (by omega)
theorem insertlaw_ok (H:HasIL C) (hone:∀ q:Q4,QIn q→∃ i:It,FnW C 422 [.agg (eQ q)]=some (eIt i)∧Good i) (hlives:FnW C 119 []=some (.bool true))
 (q:List Q4) (qe:Bool) (hq:∀ x ∈ q,QIn x) (z:List Int) (ze:Bool) (hz:∀ s ∈ z,0≤s∧s≤255) (hzl:z.length < 9223372036854775808) (r:Int) (hr:0≤r∧r≤255) (a:Int) (x:List It) (xe:Bool)
 (hit:∀ y ∈ x,(0≤y.k∧y.k < 18446744073709551616)∧0≤y.t∧y.t≤255) :
 FnW C 596 [.agg [.ro 4 (q.map eQ) qe,.ro 1 (z.map eU8) ze,.int .u8 r],.int .i64 a,.ro 4 (x.map cIt) xe]=some (.bool true):=by
 have hfew:=few_ok H.toHasF x xe
 by_cases cf:fewB x=true
 · rw [if_pos cf] at hfew
   unfold fewB at cf
   simp only [Bool.and_eq_true,decide_eq_true_eq,List.all_eq_true] at cf
   have hx:∀ y ∈ x,ItIn y:=by
    intro y hy
    have h1:=hit y hy
    have h2:=cf.2 y hy
    unfold fewI at h2
    simp only [Bool.and_eq_true,decide_eq_true_eq] at h2
    exact ⟨h1.1,h1.2,by omega⟩
   have hxl:x.length≤20:=cf.1
   obtain ⟨R,f,hof,hl,hg,hn⟩:=lof_ok H.toHasG hone q qe hq z ze hz hzl r hr
   have hck:=ck_good r hr R (by omega) hg hn
   have hin:∀ x ∈ R,EnIn x:=fun x hx=>(hg x hx).en
   obtain ⟨b,V,w,e,M⟩:=inso_ok H r hr R f (by omega) hck hin a x xe hx hxl
   obtain ⟨p,w2,e2,b2,m1,m2,m3⟩:=reso_ok H r hr R f (by omega) hck hin x xe hx hxl
   have hs:=rsame_ok H.toHasL R R f f (by omega) (by omega) (fun x hx=>(hin x hx).i.m) (fun x hx=>(hin x hx).i.m)
   rw [sameL_refl,decide_eq_true rfl] at hs
   simp only [Bool.and_self,if_true] at hs
   exact il_core H hlives q qe z ze r _ R f hof a x xe hfew (ins5_ok H.toHasI2 (kindsOf r) true 12 (ru_in r) R f (by omega) hin a x xe hx (by omega) (fun y _ _=>kdb5 r hr y.t) (by omega)) M m1 m2 m3 hs
 · rw [if_neg cf] at hfew
   rw [fnW_eq H.f596 rfl]
   simp (disch:=omega) [w596,wI64,hfew,hlives,H.inl,inlB,H.pp,ppB]
end Go.D
end
