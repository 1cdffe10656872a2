/- Part of the theory that the claims of this work use: M07, M08, M09, M10, M11. No conditions of its own. -/
import Derived.Test.YtmpenhhlkcehpaaGreatT7
section
set_option linter.unusedSimpArgs false
set_option linter.unusedVariables false
namespace Go.D
open Go Go.Pav Go.Pw P
set_option maxRecDepth 10000
set_option maxHeartbeats 4000000
set_option linter.unusedSimpArgs false
set_option linter.unusedVariables false
attribute [-simp] List.getElem_cons_drop
variable {C:WProg}
structure HasOf (C:WProg):Prop extends HasNe C,HasAl C where
 f454:C.fns.get 454=some w454
abbrev ofSt (x:List Nt) (xe:Bool) (j:Nat) (fr:List Bool) (old:Int) (F:List Int) (A:List En) (at_:Int):WSt :=
 ⟨[(46,.int .i64 j),(45,.int .i64 x.length),(44,.ro 5 (x.map eNt) xe),(12,.sl 0 1 0 fr.length fr.length true),(10,.ptr 1 0 0),(9,.ptr 2 0 0),(7,.int .i64 at_),(6,.ptr 3 0 0)],
  [(0,.cells 1 (fr.map eB) true true),(1,.cells 2 [[.int .i64 old,.ro 1 (F.map eI) true]] true true),(2,.cells 1 [[.ro 6 (A.map eEn) true]] true true),(3,.cells 4 [[.int .i64 0,.ro 1 [] true,.ro 1 [] true,.ro 4 [] true]] true true)],4⟩
theorem of_in (H:HasOf C) (x:List Nt) (xe:Bool) (hxl:x.length≤1000) (j:Nat) (hj:j < x.length) (fr:List Bool) (hfr:fr.length≤2000) (old:Int) (F:List Int) (A:List En) (at_:Int) (m:Int) (X:List Int) (hX:X.length≤4000) (hr:∀ k ∈ X,-1≤k∧k < fr.length)
 (a c:Int) (ha:0≤a∧a≤100000) (hc:0≤c∧c≤100000) (F2:List Int) (hcomp:FnW C 52 [Rm.eM old F true,Rm.eM m X true]=some (.tup [Rm.eM old F2 true,.int .i64 0])) (R:AV)
 (hnext:w454_K0 C (ofSt x xe (j+1) (nw fr a c 0 X) old F2 A at_)=some R):∀ n i,n+i=X.length→∀ G:List Bool,G++nw fr a c i (X.drop i)=nw fr a c 0 X→G.length=i →
 w454_K1 C ⟨[(64,.int .i64 i),(63,.int .i64 X.length),(62,.ro 1 (X.map eI) true),(46,.int .i64 j),(45,.int .i64 x.length),(44,.ro 5 (x.map eNt) xe),(17,.sl 0 1 0 X.length X.length true),(16,insC a c),(15,.ptr 1 0 0),(12,.sl 2 1 0 fr.length fr.length true),(10,.ptr 3 0 0),(9,.ptr 4 0 0),(7,.int .i64 at_),(6,.ptr 5 0 0)],
  [(0,.cells 1 (G.map eB++List.replicate n [.bool false]) true true),(1,.cells 2 [[.int .i64 m,.ro 1 (X.map eI) true]] true true),(2,.cells 1 (fr.map eB) true true),(3,.cells 2 [[.int .i64 old,.ro 1 (F.map eI) true]] true true),(4,.cells 1 [[.ro 6 (A.map eEn) true]] true true),(5,.cells 4 [[.int .i64 0,.ro 1 [] true,.ro 1 [] true,.ro 4 [] true]] true true)],6⟩=some R:=by
 intro n
 induction n with
 | zero =>
  intro i hi G hG hg
  have h1:X.drop i=[]:=List.drop_eq_nil_of_le (by omega)
  have h3:i=X.length:=by omega
  rw [h1,nw,List.append_nil] at hG
  have hL:(nw fr a c 0 X).length=X.length:=nw_len ..
  simp only [w454_K0,ofSt] at hnext
  rw [hL] at hnext
  simp only [w454_K1];rw [ck_unf w454_B1.eq_1]
  subst hG
  simp at hnext
  simp (disch:=omega) [ck_unf w454_c2.eq_1,ck_unf w454_c1.eq_1,h3,hcomp,insC,hnext,wI64,H.inl,inlB,H.pp,ppB]
 | succ n ih =>
  intro i hi G hG hg
  have h1:i < X.length:=by omega
  have hk:=hr X[i] (List.getElem_mem h1)
  rw [drop_cons h1,nw] at hG
  have hco:=insC_ok H.toHasNe.toHasOn a c i (by omega) (by omega)
  simp only [w454_K1];rw [ck_unf w454_B1.eq_1]
  by_cases hneg:X[i] < 0
  · have hd:decide (X[i] < 0)=true:=by simpa using hneg
    rw [hd,Bool.true_or,Bool.true_or] at hG
    have:=ih (i+1) (by omega) (G++[true]) (by rw [List.append_assoc];exact hG) (by simp [hg])
    simp only [w454_K1] at this
    simp [insC] at this
    simp (disch:=omega) [h1,hneg,wI64,insC,fill_get,fill_set,hg,this,H.inl,inlB,H.pp,ppB]
  · have hd:decide (X[i] < 0)=false:=by simpa using hneg
    obtain ⟨q,hq⟩:∃ q:Nat,X[i]=q:=⟨X[i].toNat,by omega⟩
    have hql:q < fr.length:=by omega
    have hqe:fr[X[i].toNat]?.getD false=fr[q]:=by rw [hq,Int.toNat_natCast,List.getElem?_eq_getElem hql];rfl
    rw [hd,Bool.false_or,hqe] at hG
    by_cases hf:fr[q]=true
    · rw [hf,Bool.true_or] at hG
      have:=ih (i+1) (by omega) (G++[true]) (by rw [List.append_assoc];exact hG) (by simp [hg])
      simp only [w454_K1] at this
      simp [insC] at this
      simp (disch:=omega) [h1,hq,hql,hf,wI64,insC,fill_get,fill_set,hg,this,H.inl,inlB,H.pp,ppB]
    · have hf':fr[q]=false:=by simpa using hf
      rw [hf',Bool.false_or] at hG
      generalize hb:(decide (a≤(i:Int))&&decide ((i:Int) < a+c))=b at hG hco
      have:=ih (i+1) (by omega) (G++[b]) (by rw [List.append_assoc];exact hG) (by simp [hg])
      simp only [w454_K1] at this
      simp [insC] at this
      simp (disch:=omega) [h1,hq,hql,hf',wI64,insC,hco,fill_get,fill_set,hg,this,H.inl,inlB,H.pp,ppB]
def netT (old:Int) (T:List Tg):List AV:=eNet old (T.map (·.f)) true (T.map (·.b)) true (((T.filter (·.b)).map (·.i)).map It.own) true
theorem pick_tags:∀ (T:List Tg) (L:List En),T.map (·.i)=L.map (·.i)→pickI (T.map (·.b)) L=(T.filter (·.b)).map (·.i)
 | [],[],_=>rfl
 | [],_::_,h=>by simp at h
 | _::_,[],h=>by simp at h
 | t::T,e::L,h=>by
  simp only [List.map_cons,List.cons.injEq] at h
  rw [List.map_cons,pickI,pick_tags T L h.2,List.filter_cons]
  cases t.b
  · rfl
  · simp [h.1]
theorem pick_own:∀ (fr:List Bool) (L:List En),(pickI fr (L.map En.own)).map It.own=(pickI fr L).map It.own
 | [],_=>rfl
 | _::_,[]=>rfl
 | b::fr,e::L=>by
  rw [List.map_cons,pickI,pickI]
  cases b
  · exact pick_own fr L
  · simp only [if_true,List.map_cons,pick_own fr L];rfl
theorem insA_rng {l:List En} {n:Nt} (h:Ins l n) (hl:l.length≤1024):0≤insA n∧insA n≤100000:=by
 unfold insA
 split
 · rename_i q
   have:=h.a (by omega)
   omega
 · omega
theorem insM_rng {n:Nt} (h:n.x.length≤10000):0≤insM n∧insM n≤100000:=by
 unfold insM
 split <;> omega
theorem of_loop (H:HasOf C) (ks:List Kd) (cap:Int) (x:List Nt) (xe:Bool) (hx:∀ n ∈ x,NtIn ks n) (hxl:x.length≤1000) (old:Nat) (hold:old≤1024) (A:List En) (hA:∀ e ∈ A,EnIn e):∀ n j,n+j=x.length→∀ (l:List En) (T:List Tg),
 ckE ks cap l=0→allE ks cap l (x.drop j)=0→T.map (·.i)=l.map (·.i)→Vdm old (T.map (·.f))→(allL ks l (x.drop j)).map En.own=A →
 w454_K0 C (ofSt x xe j (T.map (·.b)) old (T.map (·.f)) A x.length)=some (.tup [.agg (netT old (allT T (x.drop j))),.int .i64 x.length,.int .i64 0]):=by
 intro n
 induction n with
 | zero =>
  intro j hj l T hc hE hT hv hAl
  have h1:x.drop j=[]:=List.drop_eq_nil_of_le (by omega)
  have h2:j=x.length:=by omega
  subst h2
  rw [h1,allL] at hAl
  rw [h1,allT]
  have hll:=ck_len hc
  have hTl:T.length=l.length:=by simpa using congrArg List.length hT
  have hAlen:A.length=l.length:=by rw [← hAl,List.length_map]
  have hn:=net_ok H.toHasNe old (T.map (·.f)) true (T.map (·.b)) true A true (by rw [List.length_map];omega) (by rw [List.length_map];omega) (fun e he=>(hA e he).i.m)
  have hp:(pickI (T.map (·.b)) A).map It.own=((T.filter (·.b)).map (·.i)).map It.own:=by
   rw [← hAl,pick_own,pick_tags _ _ hT]
  rw [hp] at hn
  have hT2:List.take T.length (List.map eB (T.map (·.b)))=List.map eB (T.map (·.b)):=List.take_of_length_le (by simp)
  simp only [w454_K0,ofSt,List.length_map];rw [ck_unf w454_B0.eq_1]
  unfold netT
  simp only [Rm.eM,L1,List.map_map] at hn hT2 ⊢
  simp (disch:=omega) [ck_unf w454_c0.eq_1,hn,hT2,wI64,H.inl,inlB,H.pp,ppB]
 | succ n ih =>
  intro j hj l T hc hE hT hv hAl
  have hlt:j < x.length:=by omega
  have hd:x.drop j=x[j]::x.drop (j+1):=List.drop_eq_getElem_cons hlt
  have hn:=hx x[j] (List.getElem_mem hlt)
  have hll:=ck_len hc
  have hTl:T.length=l.length:=by simpa using congrArg List.length hT
  rw [hd] at hE hAl ⊢
  rw [allE] at hE
  rw [allL] at hAl
  rw [allT]
  split at hE
  · rename_i q;exact absurd hE q
  rename_i q
  have hap:apE ks cap l x[j]=0:=by simpa using q
  have hins:=ins_of hap
  have hone:=onen_ok H.toHasNe.toHasOn l x[j] hins hll hn.l
  have hc2:=ap_ck hn hc hap
  have hll2:=ck_len hc2
  have hfl:=fol_len (ks:=ks) (T:=T) hins hT
  have hol:=one_len hins hTl
  have hvd1:=one_vdm hins
  have hvd2:=fol_vdm hins hTl (by omega) hv
  have hf1:=one_f hins hTl
  have hb1:=one_b hins hTl
  rw [hTl] at hf1 hb1
  have hcomp:=Rm.compose_ok H.toHasNe.toHasOn.toHas old (T.map (·.f)) true l.length (oneF x[j] l.length) true
  rw [chk_vdm hv (by omega) (by omega) (by rw [List.length_map];omega),chk_vdm hvd1 (by omega) (by omega) (by omega),if_neg (by simp),if_neg (by simp),if_neg (by rw [List.length_map,hTl];simp),cm_cmp,hf1] at hcomp
  have hnext:=ih (j+1) (by omega) (apL ks l x[j]) (folT T x[j]) hc2 hE (fol_i hins hT) hvd2 hAl
  rw [← hb1] at hnext
  have hin:=of_in H x xe hxl j hlt (T.map (·.b)) (by rw [List.length_map];omega) old (T.map (·.f)) A x.length l.length (oneF x[j] l.length) (by omega) (fun k hk=>by rw [List.length_map,hTl];exact hvd1.1 k hk)
   (insA x[j]) (insM x[j]) (insA_rng hins hll) (insM_rng hn.l) ((folT T x[j]).map (·.f)) hcomp _ hnext (oneF x[j] l.length).length 0 rfl [] (by simp) rfl
  have hmk:(oneF x[j] l.length).length * 2≤35184372088832:=by omega
  simp only [w454_K0,ofSt,List.length_map];rw [ck_unf w454_B0.eq_1]
  simp only [w454_K1,List.length_map,hTl] at hin
  rw [hTl]
  unfold insC at hin hone
  simp only [eNt] at hone
  simp at hin
  simp (disch:=omega) [hlt,hone,hmk,wI64,H.inl,inlB,H.pp,ppB]
  exact hin
def tag0 (l:List En):List Tg:=l.zipIdx.map fun p=>⟨p.2,false,p.1.i⟩
theorem tag0_i (l:List En):(tag0 l).map (·.i)=l.map (·.i):=by
 unfold tag0
 rw [List.map_map]
 have:∀ (l:List En) (k:Nat),(l.zipIdx k).map ((fun t:Tg=>t.i) ∘ fun p:En × Nat=>⟨p.2,false,p.1.i⟩)=l.map (·.i):=by
  intro l
  induction l with
  | nil=>intro k;rfl
  | cons a r ih=>intro k;simp only [List.zipIdx_cons,List.map_cons,ih];rfl
 exact this l 0
theorem tag0_b (l:List En):(tag0 l).map (·.b)=List.replicate l.length false:=by
 unfold tag0
 rw [List.map_map]
 refine List.eq_replicate_iff.2 ⟨by simp,fun b hb=>?_⟩
 obtain ⟨p,_,rfl⟩:=List.mem_map.1 hb
 rfl
theorem tag0_f (l:List En):(tag0 l).map (·.f)=idx l.length:=by
 unfold tag0 idx
 refine List.ext_getElem? fun j=>?_
 rw [List.map_map,List.getElem?_map,List.getElem?_map,List.getElem?_zipIdx]
 by_cases h:j < l.length
 · rw [List.getElem?_eq_getElem h,List.getElem?_range h]
   simp
 · rw [List.getElem?_eq_none (by omega),List.getElem?_eq_none (by simp;omega)]
   rfl
def ofA (ks:List Kd) (cap:Int) (l:List En) (x:List Nt):AV :=
 if ckE ks cap l≠0 then .tup [.agg (eNet 0 [] true [] true [] true),.int .i64 0,.int .i64 (ckE ks cap l)] else if 32 < (x.length:Int) then .tup [.agg (eNet 0 [] true [] true [] true),.int .i64 0,.int .i64 3]
 else if allE ks cap l x≠0 then .tup [.agg (eNet 0 [] true [] true [] true),.int .i64 (allN ks cap l x),.int .i64 (allE ks cap l x)] else .tup [.agg (netT l.length (allT (tag0 l) x)),.int .i64 x.length,.int .i64 0]
theorem of_ok (H:HasOf C) (ks:List Kd) (ke:Bool) (cap:Int) (hr:RuIn ks) (l:List En) (e:Bool) (hl:l.length≤10000) (hs:∀ e ∈ l,EnIn e) (x:List Nt) (xe:Bool) (hx:∀ n ∈ x,NtIn ks n) (hxl:x.length≤1000) :
 FnW C 454 [aR ks ke cap,aL l e,.ro 5 (x.map eNt) xe]=some (ofA ks cap l x):=by
 have hall:=nall_ok H.toHasAl ks ke cap hr l e hl hs x xe hx hxl
 unfold nallA allA at hall
 rw [fnW_eq H.f454 rfl]
 unfold ofA
 have bad:∀ (a E:Int),E≠0→FnW C 171 [aR ks ke cap,aL l e,.ro 5 (x.map eNt) xe]=some (.tup [.agg [.ro 6 [] true],.int .i64 a,.int .i64 E]) →
  CK C 0 (pureFin w454.res) [] w454.body ⟨argW 0 [aR ks ke cap,aL l e,.ro 5 (x.map eNt) xe] [],[],0⟩=some (.tup [.agg (eNet 0 [] true [] true [] true),.int .i64 a,.int .i64 E]):=by
  intro a E hE h
  simp (disch:=omega) [w454,h,hE,wI64,H.inl,inlB,H.pp,ppB]
 by_cases hc:ckE ks cap l=0
 · rw [if_neg (by simp [hc])] at hall ⊢
   by_cases h32:32 < (x.length:Int)
   · rw [if_pos h32] at hall ⊢
     exact bad _ _ (by simp) hall
   · rw [if_neg h32] at hall ⊢
     by_cases hE:allE ks cap l x=0
     · rw [if_neg (by simp [hE])] at hall ⊢
       have hll:=ck_len hc
       have hrs:=Rm.same_ok H.toHasNe.toHasOn.toHas l.length
       rw [if_neg (by omega),mapR_idx] at hrs
       have hloop:=of_loop H ks cap x xe hx hxl l.length hll ((allL ks l x).map En.own) (fun e he=>by
        obtain ⟨e',he',rfl⟩:=List.mem_map.1 he
        exact (all_in x l hx hs hE e' he').ow) x.length 0 rfl l (tag0 l) hc (by rw [List.drop_zero];exact hE) (tag0_i l) (by rw [tag0_f];exact vdm_idx _) (by rw [List.drop_zero])
       rw [tag0_f,tag0_b,List.drop_zero] at hloop
       have hmk:l.length * 2≤35184372088832:=by omega
       simp only [w454_K0,ofSt,List.length_replicate,Int.natCast_zero,List.map_replicate] at hloop
       simp [Rm.eM,L1] at hrs
       simp at hall
       simp at hloop
       simp (disch:=omega) [w454,hall,hrs,hmk,hloop,wI64,H.inl,inlB,H.pp,ppB]
     · rw [if_pos hE] at hall ⊢
       rw [Nat.zero_add] at hall
       exact bad _ _ hE hall
 · rw [if_pos hc] at hall ⊢
   exact bad _ _ hc hall
end Go.D
end
section
set_option linter.unusedSimpArgs false
set_option linter.unusedVariables false
namespace Go.D
open Go Go.Pav Go.Pw P
set_option maxRecDepth 10000
set_option maxHeartbeats 4000000
set_option linter.unusedSimpArgs false
set_option linter.unusedVariables false
attribute [-simp] List.getElem_cons_drop
variable {C:WProg}
def sameX:List It→List It→Bool
 | [],[]=>true
 | a::r,b::s=>sameIt a b&&sameX r s
 | _,_=>false
theorem sameX_len:∀ l m:List It,sameX l m=true→l.length=m.length
 | [],[],_=>rfl
 | [],_::_,h=>by simp [sameX] at h
 | _::_,[],h=>by simp [sameX] at h
 | _::r,_::s,h=>by
  simp only [sameX,Bool.and_eq_true] at h
  simp [sameX_len r s h.2]
structure HasSx (C:WProg):Prop extends HasL C where
 f357:C.fns.get 357=some w357
theorem sall_loop (H:HasSx C) (x y:List It) (xe ye:Bool) (hl:x.length=y.length) (h1:x.length≤1000000) (hx:∀ i ∈ x,i.m.length≤1000000) (hy:∀ i ∈ y,i.m.length≤1000000):∀ n i,n+i=x.length →
 w357_K0 C ⟨[(5,.int .i64 i),(1,.ro 4 (y.map cIt) ye),(0,.ro 4 (x.map cIt) xe)],[],0⟩=some (.int .i64 (if sameX (x.drop i) (y.drop i)=true then 1 else 0)):=by
 intro n
 induction n with
 | zero =>
  intro i hi
  have q1:x.drop i=[]:=List.drop_eq_nil_of_le (by omega)
  have q2:y.drop i=[]:=List.drop_eq_nil_of_le (by omega)
  have h3:¬ i < x.length:=by omega
  simp only [w357_K0];rw [ck_unf w357_B0.eq_1]
  simp [ck_unf w357_c0.eq_1,q1,q2,h3,sameX]
 | succ n ih =>
  intro i hi
  have p1:i < x.length:=by omega
  have p2:i < y.length:=by omega
  have h:=rsame1_ok H.toHasL x[i] y[i] (by have:=hx _ (List.getElem_mem p1);omega) (by have:=hy _ (List.getElem_mem p2);omega)
  have:=ih (i+1) (by omega)
  rw [drop_cons p1,drop_cons p2,sameX]
  simp only [w357_K0] at this ⊢;rw [ck_unf w357_B0.eq_1]
  simp at this
  generalize sameIt x[i] y[i]=b at *
  cases b
  · simp (disch:=omega) [p1,p2,h,wI64,H.inl,inlB,H.pp,ppB]
  · simp (disch:=omega) [p1,p2,h,wI64,H.inl,inlB,H.pp,ppB,this]
theorem sall_ok (H:HasSx C) (x y:List It) (xe ye:Bool) (h1:x.length≤1000000) (h2:y.length≤1000000) (hx:∀ i ∈ x,i.m.length≤1000000) (hy:∀ i ∈ y,i.m.length≤1000000) :
 FnW C 357 [.ro 4 (x.map cIt) xe,.ro 4 (y.map cIt) ye]=some (.int .i64 (if sameX x y=true then 1 else 0)):=by
 rw [fnW_eq H.f357 rfl]
 by_cases hl:x.length=y.length
 · have:=sall_loop H x y xe ye hl h1 hx hy x.length 0 rfl
   simp only [w357_K0] at this
   simp at this
   simp (disch:=omega) [w357,hl,this,wI64,H.inl,inlB,H.pp,ppB]
 · have:sameX x y=false:=by
    cases h:sameX x y with
    | false=>rfl
    | true=>exact absurd (sameX_len x y h) hl
   rw [this]
   simp (disch:=omega) [w357,hl,wI64,H.inl,inlB,H.pp,ppB]
structure Nn where
 o:Int
 f:List Int
 fe:Bool
 b:List Bool
 be:Bool
 x:List It
 xe:Bool
@[simp] def eNn (n:Nn):List AV:=eNet n.o n.f n.fe n.b n.be n.x n.xe
def sameN (a b:Nn):Bool:=decide (a.o=b.o)&&decide (a.f=b.f)&&decide (a.b=b.b)&&sameX a.x b.x
structure NnIn (n:Nn):Prop where
 f:n.f.length≤1000000
 b:n.b.length≤1000000
 x:n.x.length≤1000000
 m:∀ i ∈ n.x,i.m.length≤1000000
structure HasSn (C:WProg):Prop extends HasSx C where
 f182:C.fns.get 182=some w182
theorem sn_loop2 (H:HasSn C) (a b:Nn) (ha:NnIn a) (hb:NnIn b) (hl:a.b.length=b.b.length):∀ n i,n+i=a.b.length →
 w182_K0 C ⟨[(6,.int .i64 i),(3,.ptr 0 0 0),(2,.ptr 1 0 0)],[(0,.cells 4 [eNn b] true true),(1,.cells 4 [eNn a] true true)],2⟩=some (.int .i64 (if a.b.drop i=b.b.drop i∧sameX a.x b.x=true then 1 else 0)):=by
 intro n
 induction n with
 | zero =>
  intro i hi
  have q1:a.b.drop i=[]:=List.drop_eq_nil_of_le (by omega)
  have q2:b.b.drop i=[]:=List.drop_eq_nil_of_le (by omega)
  have h3:¬ i < a.b.length:=by omega
  have h:=sall_ok H.toHasSx a.x b.x a.xe b.xe ha.x hb.x ha.m hb.m
  simp only [w182_K0];rw [ck_unf w182_B0.eq_1]
  generalize sameX a.x b.x=c at *
  simp [ck_unf w182_c0.eq_1,q1,q2,h3,h,H.inl,inlB,H.pp,ppB]
 | succ n ih =>
  intro i hi
  have p1:i < a.b.length:=by omega
  have hq:=ha.b
  have p2:i < b.b.length:=by omega
  have:=ih (i+1) (by omega)
  rw [drop_cons p1,drop_cons p2]
  simp only [w182_K0] at this ⊢;rw [ck_unf w182_B0.eq_1]
  simp at this
  by_cases c:a.b[i]=b.b[i]
  · simp (disch:=omega) [p1,p2,c,wI64,H.inl,inlB,H.pp,ppB,this]
  · simp (disch:=omega) [p1,p2,c,wI64,H.inl,inlB,H.pp,ppB]
theorem sn_loop1 (H:HasSn C) (a b:Nn) (ha:NnIn a) (hb:NnIn b) (hl:a.b.length=b.b.length) (hf:a.f.length=b.f.length):∀ n i,n+i=a.f.length →
 w182_K1 C ⟨[(5,.int .i64 i),(3,.ptr 0 0 0),(2,.ptr 1 0 0)],[(0,.cells 4 [eNn b] true true),(1,.cells 4 [eNn a] true true)],2⟩=some (.int .i64 (if a.f.drop i=b.f.drop i∧a.b=b.b∧sameX a.x b.x=true then 1 else 0)):=by
 intro n
 induction n with
 | zero =>
  intro i hi
  have q1:a.f.drop i=[]:=List.drop_eq_nil_of_le (by omega)
  have q2:b.f.drop i=[]:=List.drop_eq_nil_of_le (by omega)
  have h3:¬ i < a.f.length:=by omega
  have h:=sn_loop2 H a b ha hb hl a.b.length 0 rfl
  simp only [w182_K0,List.drop_zero] at h
  simp at h
  simp only [w182_K1];rw [ck_unf w182_B1.eq_1]
  simp [ck_unf w182_c1.eq_1,q1,q2,h3,h,H.inl,inlB,H.pp,ppB]
 | succ n ih =>
  intro i hi
  have p1:i < a.f.length:=by omega
  have hq:=ha.f
  have p2:i < b.f.length:=by omega
  have:=ih (i+1) (by omega)
  rw [drop_cons p1,drop_cons p2]
  simp only [w182_K1] at this ⊢;rw [ck_unf w182_B1.eq_1]
  simp at this
  by_cases c:a.f[i]=b.f[i]
  · simp (disch:=omega) [p1,p2,c,wI64,H.inl,inlB,H.pp,ppB,this]
  · simp (disch:=omega) [p1,p2,c,wI64,H.inl,inlB,H.pp,ppB]
theorem sn_ok (H:HasSn C) (a b:Nn) (ha:NnIn a) (hb:NnIn b):FnW C 182 [.agg (eNn a),.agg (eNn b)]=some (.int .i64 (if sameN a b=true then 1 else 0)):=by
 rw [fnW_eq H.f182 rfl]
 have e:sameN a b=decide (a.o=b.o∧a.f=b.f∧a.b=b.b∧sameX a.x b.x=true):=by
  unfold sameN
  cases sameX a.x b.x <;> simp [Bool.decide_and,Bool.and_assoc]
 rw [e]
 by_cases c1:a.o=b.o
 · by_cases c2:a.f.length=b.f.length
   · by_cases c3:a.b.length=b.b.length
     · have h:=sn_loop1 H a b ha hb c3 c2 a.f.length 0 rfl
       simp only [w182_K1,List.drop_zero] at h
       simp at h
       simp (disch:=omega) [w182,eq_true c1,eq_true c2,eq_true c3,h,wI64,H.inl,inlB,H.pp,ppB]
     · have n1:¬ a.b=b.b:=fun q=>c3 (by rw [q])
       simp (disch:=omega) [w182,eq_true c1,eq_true c2,c3,n1,wI64,H.inl,inlB,H.pp,ppB]
   · have n1:¬ a.f=b.f:=fun q=>c2 (by rw [q])
     simp (disch:=omega) [w182,eq_true c1,c2,n1,wI64,H.inl,inlB,H.pp,ppB]
 · simp (disch:=omega) [w182,c1,wI64,H.inl,inlB,H.pp,ppB]
end Go.D
end
section
set_option linter.unusedSimpArgs false
set_option linter.unusedVariables false
namespace Go.D
open Go Go.Pav Go.Pw P
set_option maxRecDepth 10000
set_option maxHeartbeats 4000000
set_option linter.unusedSimpArgs false
set_option linter.unusedVariables false
attribute [-simp] List.getElem_cons_drop
variable {C:WProg}
def fitB:List Bool→List Int→Bool
 | b::r,k::s=>(b||decide (0≤k))&&fitB r s
 | _,_=>true
def cntB:List Bool→Nat
 | []=>0
 | b::r=>if b=true then cntB r+1 else cntB r
def chkN (n:Nn):Int:=if Rm.chk n.o n.f≠0 then Rm.chk n.o n.f else if n.b.length≠n.f.length then 1 else if fitB n.b n.f=false then 1 else if cntB n.b≠n.x.length then 1 else 0
structure HasCn (C:WProg):Prop extends Rm.Has C where
 f180:C.fns.get 180=some w180
theorem bcheck_loop (H:HasCn C) (a:Nn) (ha:NnIn a) (hl:a.b.length=a.f.length):∀ n i,n+i=a.b.length→∀ c:Nat,c≤i →
 w180_K0 C ⟨[(24,.int .i64 i),(23,.int .i64 a.b.length),(22,.ro 1 (a.b.map eB) a.be),(4,.int .i64 c),(1,.ptr 0 0 0)],[(0,.cells 4 [eNn a] true true)],1⟩ =
  some (.int .i64 (if fitB (a.b.drop i) (a.f.drop i)=false then 1 else if c+cntB (a.b.drop i)≠a.x.length then 1 else 0)):=by
 intro n
 have hq:=ha.b
 induction n with
 | zero =>
  intro i hi c hc
  have q1:a.b.drop i=[]:=List.drop_eq_nil_of_le (by omega)
  have h3:¬ i < a.b.length:=by omega
  simp only [w180_K0];rw [ck_unf w180_B0.eq_1]
  by_cases h:c=a.x.length
  · simp [ck_unf w180_c0.eq_1,q1,h3,fitB,cntB,eq_true h,H.inl,inlB,H.pp,ppB]
  · simp [ck_unf w180_c0.eq_1,q1,h3,fitB,cntB,h,H.inl,inlB,H.pp,ppB]
 | succ n ih =>
  intro i hi c hc
  have p1:i < a.b.length:=by omega
  have p2:i < a.f.length:=by omega
  rw [drop_cons p1,drop_cons p2,fitB,cntB]
  simp only [w180_K0];rw [ck_unf w180_B0.eq_1]
  by_cases hb:a.b[i]=true
  · have:=ih (i+1) (by omega) (c+1) (by omega)
    have e:c+(cntB (a.b.drop (i+1))+1)=c+1+cntB (a.b.drop (i+1)):=by omega
    rw [hb,Bool.true_or,Bool.true_and,if_pos rfl,e]
    simp only [w180_K0] at this
    simp at this
    simp (disch:=omega) [p1,p2,hb,wI64,H.inl,inlB,H.pp,ppB,this]
  · have hb':a.b[i]=false:=by simpa using hb
    rw [hb',Bool.false_or,if_neg Bool.false_ne_true]
    by_cases hk:a.f[i] < 0
    · have hd:decide (0≤a.f[i])=false:=by simpa using hk
      rw [hd,Bool.false_and,if_pos rfl]
      simp (disch:=omega) [p1,p2,hb',hk,wI64,H.inl,inlB,H.pp,ppB]
    · have hd:decide (0≤a.f[i])=true:=by simpa using hk
      rw [hd,Bool.true_and]
      have:=ih (i+1) (by omega) c (by omega)
      simp only [w180_K0] at this
      simp at this
      simp (disch:=omega) [p1,p2,hb',hk,wI64,H.inl,inlB,H.pp,ppB,this]
theorem bcheck_ok (H:HasCn C) (a:Nn) (ha:NnIn a):FnW C 180 [.agg (eNn a)]=some (.int .i64 (chkN a)):=by
 have hc:=Rm.check_ok H.toHas a.o a.f a.fe
 rw [fnW_eq H.f180 rfl]
 unfold chkN
 simp only [Rm.eM,L1] at hc
 by_cases c1:Rm.chk a.o a.f=0
 · rw [if_neg (by simp [c1])]
   rw [c1] at hc
   by_cases c2:a.b.length=a.f.length
   · rw [if_neg (by simp [c2])]
     have h:=bcheck_loop H a ha c2 a.b.length 0 rfl 0 (by omega)
     simp only [w180_K0,List.drop_zero,Nat.zero_add] at h
     simp at h
     simp (disch:=omega) [w180,hc,eq_true c2,h,wI64,H.inl,inlB,H.pp,ppB]
   · rw [if_pos c2]
     simp (disch:=omega) [w180,hc,c2,wI64,H.inl,inlB,H.pp,ppB]
 · rw [if_pos c1]
   generalize Rm.chk a.o a.f=E at *
   simp (disch:=omega) [w180,hc,c1,wI64,H.inl,inlB,H.pp,ppB]
structure HasAp0 (C:WProg):Prop extends HasCn C,HasK C where
 f183:C.fns.get 183=some w183
theorem bapply_bad (H:HasAp0 C) (ks:List Kd) (ke:Bool) (cap:Int) (hr:RuIn ks) (l:List En) (e:Bool) (hl:l.length≤1000000) (hs:∀ e ∈ l,EnIn e) (a:Nn) (hc:ckE ks cap l≠0) :
 FnW C 183 [aR ks ke cap,aL l e,.agg (eNn a)]=some (errL (ckE ks cap l)):=by
 have h:=lcheck_ok H.toHasK ks ke cap hr l e hl hs
 generalize ckE ks cap l=E at *
 rw [fnW_eq H.f183 rfl]
 unfold errL
 simp (disch:=omega) [w183,h,hc,wI64,H.inl,inlB,H.pp,ppB]
theorem bapply_len (H:HasAp0 C) (ks:List Kd) (ke:Bool) (cap:Int) (hr:RuIn ks) (l:List En) (e:Bool) (hl:l.length≤1000000) (hs:∀ e ∈ l,EnIn e) (a:Nn) (ha:NnIn a) (hc:ckE ks cap l=0) (hn:chkN a=0) (hd:a.o≠l.length) :
 FnW C 183 [aR ks ke cap,aL l e,.agg (eNn a)]=some (errL 1):=by
 have h:=lcheck_ok H.toHasK ks ke cap hr l e hl hs
 have h2:=bcheck_ok H.toHasCn a ha
 rw [hc] at h
 rw [hn] at h2
 rw [fnW_eq H.f183 rfl]
 unfold errL
 simp only [eNn,eNet] at h2
 simp (disch:=omega) [w183,h,h2,hd,wI64,H.inl,inlB,H.pp,ppB]
end Go.D
end
section
set_option linter.unusedSimpArgs false
set_option linter.unusedVariables false
namespace Go.D
open Go Go.Pav Go.Pw P
set_option maxRecDepth 10000
set_option maxHeartbeats 4000000
set_option linter.unusedSimpArgs false
set_option linter.unusedVariables false
attribute [-simp] List.getElem_cons_drop
variable {C:WProg}
structure HasLN (C:WProg):Prop extends HasG C where
 f2003:C.fns.get 2003=some w130
def LofRN (ks:List Kd) (E0 E1 E2:List (List AV)) (x:Option (AV × WHeap × Nat)) (R:List En):Prop :=
 (R=[]∧x=some (.tup [aR ks true 12,.agg [.ro 6 [] true]],[(0,.cells 6 E0 true true),(1,.cells 6 E1 true true),(2,.cells 3 E2 true true),(5,.cells 1 [[.ro 6 [] true]] true true),(6,.cells 2 [[.ro 9 (ks.map eKd) true,.int .i64 12]] true true),
  (7,.cells 1 [[.ro 6 [] true]] true true),(8,.cells 2 [[.ro 9 (ks.map eKd) true,.int .i64 12]] true true)],13)) ∨
 (R≠[]∧x=some (.tup [aR ks true 12,.agg [.sl 6 6 0 R.length R.length false]],[(0,.cells 6 E0 true true),(1,.cells 6 E1 true true),(2,.cells 3 E2 true true),(5,.cells 1 [[.sl 6 6 0 R.length R.length false]] true false),(6,.cells 6 (R.map eEn) true true),
  (7,.cells 2 [[.ro 9 (ks.map eKd) true,.int .i64 12]] true true),(8,.cells 1 [[.sl 6 6 0 R.length R.length false]] true false),(9,.cells 2 [[.ro 9 (ks.map eKd) true,.int .i64 12]] true true)],14))
theorem lofN_sl (H:HasLN C) (E0 E1 E2:List (List AV)) (ks:List Kd) (hks:KsIn ks) (l:List It) (le:Bool) (hl:l.length≤12) (hg:∀ x ∈ l,Good x) (q:List Q4) (qe:Bool) (z:List Int) (ze:Bool) (hz:∀ s ∈ z,0≤s∧s≤255) (hzl:z.length < 9223372036854775808) (r:Int):∀ n i,n+i=l.length →
 ∀ G:List En,G≠[]→G.length≤i→(∀ x ∈ G,GoodE ks x)→(keysE G++(l.drop i).map It.k).Nodup →
 ∃ R:List En,LofRN ks E0 E1 E2 (CK C 5 (fnEndW [.cell 2 2 true,.cell 3 1 true]) [.sq w130_L0,.bk 0 ⟨true,[6,4,3,2],[]⟩,.sq w130_c0] w130_B0 ⟨[(7,.int .i64 i),(6,.ptr 5 0 0),(5,.ro 4 (l.map cIt) le),(4,.ptr 7 0 0),(3,.ptr 8 0 0),(2,.ptr 9 0 0),(1,.ptr 10 0 0)],[(0,.cells 6 E0 true true),(1,.cells 6 E1 true true),(2,.cells 3 E2 true true),(5,.cells 1 [[.sl 6 6 0 G.length G.length false]] true false),(6,.cells 6 (G.map eEn) true true),(7,.cells 2 [[.ro 9 (ks.map eKd) true,.int .i64 12]] true true),(8,.cells 1 [[.ro 6 [] true]] true true),(9,.cells 2 [[.ro 9 [] true,.int .i64 0]] true true),(10,.cells 3 [[.ro 4 (q.map eQ) qe,.ro 1 (z.map eU8) ze,.int .u8 r]] true true)],11⟩) R∧R.length≤12∧(∀ e ∈ R,GoodE ks e)∧(keysE R).Nodup:=by
 intro n
 induction n with
 | zero =>
  intro i hi G hne hG hge hn
  have h1:l.drop i=[]:=List.drop_eq_nil_of_le (by omega)
  have h3:¬ i < l.length:=by omega
  have h6:List.take G.length (List.map eEn G)=List.map eEn G:=List.take_of_length_le (by simp)
  refine ⟨G,?_,by omega,hge,by rw [h1] at hn;simpa using hn⟩
  rw [ck_unf w130_B0.eq_1]
  simp [ck_unf w130_c0.eq_1,h3,h6,LofRN,hne]
 | succ n ih =>
  intro i hi G hne hG hge hn
  have h1:i < l.length:=by omega
  have gx:=hg _ (List.getElem_mem h1)
  have hii:=ritem_ok H.toHasG.toHasK ks true 12 l[i] gx.it hks.r false
  have hfr:=rfresh_ok H.toHasG.toHasK ks true 12 l[i] gx.it (by have:=gx.t;have:=hks.l;omega)
  have hbase:=hks.b l[i].t gx.t.1 gx.t.2
  rw [drop_cons h1,List.map_cons] at hn
  have hfit:(G.length+1) * 73≤35184372088832:=by omega
  simp only [aR,eIt,Bool.false_eq_true,if_false] at hii
  simp only [aR,eIt,aE,eEn,fre] at hfr
  have hE0:0≤itE ks 12 l[i] false:=by unfold itE;repeat (first | omega | split)
  by_cases c1:itE ks 12 l[i] false=0
  · have step:∀ e:En,e.i=l[i]→GoodE ks e→∃ R:List En,LofRN ks E0 E1 E2 (CK C 5 (fnEndW [.cell 2 2 true,.cell 3 1 true]) [.sq w130_L0,.bk 0 ⟨true,[6,4,3,2],[]⟩,.sq w130_c0] w130_B0 ⟨[(7,.int .i64 ((i:Int)+1)),(6,.ptr 5 0 0),(5,.ro 4 (l.map cIt) le),(4,.ptr 7 0 0),(3,.ptr 8 0 0),(2,.ptr 9 0 0),(1,.ptr 10 0 0)],[(0,.cells 6 E0 true true),(1,.cells 6 E1 true true),(2,.cells 3 E2 true true),(5,.cells 1 [[.sl 6 6 0 (G.length+1) (G.length+1) false]] true false),(6,.cells 6 (G.map eEn++[eEn e]) true true),(7,.cells 2 [[.ro 9 (ks.map eKd) true,.int .i64 12]] true true),(8,.cells 1 [[.ro 6 [] true]] true true),(9,.cells 2 [[.ro 9 [] true,.int .i64 0]] true true),(10,.cells 3 [[.ro 4 (q.map eQ) qe,.ro 1 (z.map eU8) ze,.int .u8 r]] true true)],11⟩) R∧R.length≤12∧(∀ e ∈ R,GoodE ks e)∧(keysE R).Nodup:=by
     intro e he hge2
     have:=ih (i+1) (by omega) (G++[e]) (by simp) (by simp;omega) (by
      intro y hy
      rcases List.mem_append.1 hy with q | q
      · exact hge y q
      · simp at q;rw [q];exact hge2) (by simpa [keysE,he] using hn)
     simpa using this
    by_cases c2:G.length < z.length
    · by_cases c3:(0:Int) < z[G.length]
      · have hzz:=hz _ (List.getElem_mem c2)
        have hm:z[G.length].tmod 40=z[G.length] % 40:=Int.tmod_eq_emod_of_nonneg hzz.1
        have hm1:(0:Int)≤z[G.length] % 40:=Int.emod_nonneg _ (by omega)
        have hm2:z[G.length] % 40 < 40:=Int.emod_lt_of_pos _ (by omega)
        obtain ⟨R,this,hR⟩:=step ⟨l[i],1+z[G.length] % 40,true⟩ rfl ⟨gx,c1,by simp only;omega,.inl rfl⟩
        refine ⟨R,?_,hR⟩
        rw [c1] at hii
        generalize z[G.length] % 40=M at *
        rw [ck_unf w130_B0.eq_1]
        simp at this
        simp (disch:=omega) [h1,c2,c3,hm,hii,hfr,hfit,wI64,wU8,H.inl,inlB,H.pp,ppB,this]
      · obtain ⟨R,this,hR⟩:=step (fre ks l[i]) rfl ⟨gx,c1,by unfold fre;simp only;omega,.inr rfl⟩
        refine ⟨R,?_,hR⟩
        rw [c1] at hii
        simp only [fre] at this
        rw [ck_unf w130_B0.eq_1]
        simp at this
        simp (disch:=omega) [h1,c2,c3,hii,hfr,hfit,wI64,wU8,H.inl,inlB,H.pp,ppB,this]
    · obtain ⟨R,this,hR⟩:=step (fre ks l[i]) rfl ⟨gx,c1,by unfold fre;simp only;omega,.inr rfl⟩
      refine ⟨R,?_,hR⟩
      rw [c1] at hii
      simp only [fre] at this
      rw [ck_unf w130_B0.eq_1]
      simp at this
      simp (disch:=omega) [h1,c2,hii,hfr,hfit,wI64,wU8,H.inl,inlB,H.pp,ppB,this]
  · have c1':0 < itE ks 12 l[i] false:=by omega
    obtain ⟨R,this,hR⟩:=ih (i+1) (by omega) G hne (by omega) hge (by
     refine List.Nodup.sublist ?_ hn;exact List.Sublist.append (List.Sublist.refl _) (List.sublist_cons_self _ _))
    refine ⟨R,?_,hR⟩
    generalize itE ks 12 l[i] false=E at *
    rw [ck_unf w130_B0.eq_1]
    simp at this
    simp (disch:=omega) [h1,c1',hii,wI64,H.inl,inlB,H.pp,ppB,this]
theorem lofN_nil (H:HasLN C) (E0 E1 E2:List (List AV)) (ks:List Kd) (hks:KsIn ks) (l:List It) (le:Bool) (hl:l.length≤12) (hg:∀ x ∈ l,Good x) (q:List Q4) (qe:Bool) (z:List Int) (ze:Bool) (hz:∀ s ∈ z,0≤s∧s≤255) (hzl:z.length < 9223372036854775808) (r:Int):∀ n i,n+i=l.length →
 (keysE []++(l.drop i).map It.k).Nodup →
 ∃ R:List En,LofRN ks E0 E1 E2 (CK C 5 (fnEndW [.cell 2 2 true,.cell 3 1 true]) [.sq w130_L0,.bk 0 ⟨true,[6,4,3,2],[]⟩,.sq w130_c0] w130_B0 ⟨[(7,.int .i64 i),(6,.ptr 5 0 0),(5,.ro 4 (l.map cIt) le),(4,.ptr 6 0 0),(3,.ptr 7 0 0),(2,.ptr 8 0 0),(1,.ptr 9 0 0)],[(0,.cells 6 E0 true true),(1,.cells 6 E1 true true),(2,.cells 3 E2 true true),(5,.cells 1 [[.ro 6 [] true]] true true),(6,.cells 2 [[.ro 9 (ks.map eKd) true,.int .i64 12]] true true),(7,.cells 1 [[.ro 6 [] true]] true true),(8,.cells 2 [[.ro 9 [] true,.int .i64 0]] true true),(9,.cells 3 [[.ro 4 (q.map eQ) qe,.ro 1 (z.map eU8) ze,.int .u8 r]] true true)],10⟩) R∧R.length≤12∧(∀ e ∈ R,GoodE ks e)∧(keysE R).Nodup:=by
 intro n
 induction n with
 | zero =>
  intro i hi  hn
  have h1:l.drop i=[]:=List.drop_eq_nil_of_le (by omega)
  have h3:¬ i < l.length:=by omega
  refine ⟨[],?_,by simp,by simp,by simp⟩
  rw [ck_unf w130_B0.eq_1]
  simp [ck_unf w130_c0.eq_1,h3,LofRN]
 | succ n ih =>
  intro i hi  hn
  have h1:i < l.length:=by omega
  have gx:=hg _ (List.getElem_mem h1)
  have hii:=ritem_ok H.toHasG.toHasK ks true 12 l[i] gx.it hks.r false
  have hfr:=rfresh_ok H.toHasG.toHasK ks true 12 l[i] gx.it (by have:=gx.t;have:=hks.l;omega)
  have hbase:=hks.b l[i].t gx.t.1 gx.t.2
  rw [drop_cons h1,List.map_cons] at hn
  simp only [aR,eIt,Bool.false_eq_true,if_false] at hii
  simp only [aR,eIt,aE,eEn,fre] at hfr
  have hE0:0≤itE ks 12 l[i] false:=by unfold itE;repeat (first | omega | split)
  by_cases c1:itE ks 12 l[i] false=0
  · have step:∀ e:En,e.i=l[i]→GoodE ks e→∃ R:List En,LofRN ks E0 E1 E2 (CK C 5 (fnEndW [.cell 2 2 true,.cell 3 1 true]) [.sq w130_L0,.bk 0 ⟨true,[6,4,3,2],[]⟩,.sq w130_c0] w130_B0 ⟨[(7,.int .i64 ((i:Int)+1)),(6,.ptr 5 0 0),(5,.ro 4 (l.map cIt) le),(4,.ptr 7 0 0),(3,.ptr 8 0 0),(2,.ptr 9 0 0),(1,.ptr 10 0 0)],[(0,.cells 6 E0 true true),(1,.cells 6 E1 true true),(2,.cells 3 E2 true true),(5,.cells 1 [[.sl 6 6 0 1 1 false]] true false),(6,.cells 6 [eEn e] true true),(7,.cells 2 [[.ro 9 (ks.map eKd) true,.int .i64 12]] true true),(8,.cells 1 [[.ro 6 [] true]] true true),(9,.cells 2 [[.ro 9 [] true,.int .i64 0]] true true),(10,.cells 3 [[.ro 4 (q.map eQ) qe,.ro 1 (z.map eU8) ze,.int .u8 r]] true true)],11⟩) R∧R.length≤12∧(∀ e ∈ R,GoodE ks e)∧(keysE R).Nodup:=by
     intro e he hge2
     have:=lofN_sl H E0 E1 E2 ks hks l le hl hg q qe z ze hz hzl r n (i+1) (by omega) [e] (by simp) (by simp) (by simpa using hge2) (by simpa [keysE,he] using hn)
     simpa using this
    by_cases c2:0 < z.length
    · by_cases c3:(0:Int) < z[0]
      · have hzz:=hz _ (List.getElem_mem c2)
        have hm:z[0].tmod 40=z[0] % 40:=Int.tmod_eq_emod_of_nonneg hzz.1
        have hm1:(0:Int)≤z[0] % 40:=Int.emod_nonneg _ (by omega)
        have hm2:z[0] % 40 < 40:=Int.emod_lt_of_pos _ (by omega)
        obtain ⟨R,this,hR⟩:=step ⟨l[i],1+z[0] % 40,true⟩ rfl ⟨gx,c1,by simp only;omega,.inl rfl⟩
        refine ⟨R,?_,hR⟩
        rw [c1] at hii
        generalize z[0] % 40=M at *
        rw [ck_unf w130_B0.eq_1]
        simp at this
        simp (disch:=omega) [h1,c2,c3,hm,hii,hfr,wI64,wU8,H.inl,inlB,H.pp,ppB,this]
      · obtain ⟨R,this,hR⟩:=step (fre ks l[i]) rfl ⟨gx,c1,by unfold fre;simp only;omega,.inr rfl⟩
        refine ⟨R,?_,hR⟩
        rw [c1] at hii
        simp only [fre] at this
        rw [ck_unf w130_B0.eq_1]
        simp at this
        simp (disch:=omega) [h1,c2,c3,hii,hfr,wI64,wU8,H.inl,inlB,H.pp,ppB,this]
    · obtain ⟨R,this,hR⟩:=step (fre ks l[i]) rfl ⟨gx,c1,by unfold fre;simp only;omega,.inr rfl⟩
      refine ⟨R,?_,hR⟩
      rw [c1] at hii
      simp only [fre] at this
      rw [ck_unf w130_B0.eq_1]
      simp at this
      simp (disch:=omega) [h1,c2,hii,hfr,wI64,wU8,H.inl,inlB,H.pp,ppB,this]
  · have c1':0 < itE ks 12 l[i] false:=by omega
    obtain ⟨R,this,hR⟩:=ih (i+1) (by omega) (by
     simp only [keysE,List.map_nil,List.nil_append] at hn ⊢;exact (List.nodup_cons.1 hn).2)
    refine ⟨R,?_,hR⟩
    generalize itE ks 12 l[i] false=E at *
    rw [ck_unf w130_B0.eq_1]
    simp at this
    simp (disch:=omega) [h1,c1',hii,wI64,H.inl,inlB,H.pp,ppB,this]
theorem lofN_ok (H:HasLN C) (hone:∀ q:Q4,QIn q→∃ i:It,FnW C 422 [.agg (eQ q)]=some (eIt i)∧Good i) (E0 E1 E2:List (List AV)) (q:List Q4) (qe:Bool) (hq:∀ x ∈ q,QIn x) (z:List Int) (ze:Bool) (hz:∀ s ∈ z,0≤s∧s≤255) (hzl:z.length < 9223372036854775808) (r:Int) (hr:0≤r∧r≤255) :
 ∃ R:List En,LofRN (kindsOf r) E0 E1 E2 (RnW C 2003 [.agg [.ro 4 (q.map eQ) qe,.ro 1 (z.map eU8) ze,.int .u8 r]] [(0,.cells 6 E0 true true),(1,.cells 6 E1 true true),(2,.cells 3 E2 true true)] 5) R∧R.length≤12∧(∀ e ∈ R,GoodE (kindsOf r) e)∧(keysE R).Nodup:=by
 obtain ⟨I,hI,l1,l2,l3⟩:=items_ok H.toHasG hone q qe hq
 have hk:=kinds_ok H.toHasG r hr
 obtain ⟨R,h,hR⟩:=lofN_nil H E0 E1 E2 (kindsOf r) (ks_in r hr) I false l1 l2 q qe z ze hz hzl r I.length 0 (by simp) (by simpa [keysE] using l3)
 refine ⟨R,?_,hR⟩
 rw [rnW_eq (args:=[.agg [.ro 4 (q.map eQ) qe,.ro 1 (z.map eU8) ze,.int .u8 r]]) H.f2003 rfl]
 generalize kindsOf r=ks at *
 simp at h
 simp [w130,hI,hk,H.inl,inlB,H.pp,ppB]
 exact h
end Go.D
end
section
set_option linter.unusedSimpArgs false
set_option linter.unusedVariables false
namespace Go.D
open Go Go.Pav Go.Pw P
set_option maxRecDepth 10000
set_option maxHeartbeats 4000000
set_option linter.unusedSimpArgs false
set_option linter.unusedVariables false
attribute [-simp] List.getElem_cons_drop
variable {C:WProg}
structure HasBe (C:WProg):Prop extends HasOf C,HasSn C,HasAp0 C,HasLN C where
 f619:C.fns.get 619=some w619
def zNn:Nn:=⟨0,[],true,[],true,[],true⟩
theorem zNn_in:NnIn zNn:=⟨by simp [zNn],by simp [zNn],by simp [zNn],by simp [zNn]⟩
structure BeS (C:WProg) (ks:List Kd) (X:List En) (f:Bool) (n:Nt) (B F at_ o:Int) (A1 A2 A3:List (List AV)) (b1 b2 b3:Bool):Prop where
 k1:FnW C 235 [aR ks true 12,.ro 6 (X.map eEn) f]=some (.int .i64 B)
 k2:FnW C 454 [aR ks true 12,aL X f,.ro 5 [eNt n] true]=some (.tup [.agg [.int .i64 o,.ro 1 A1 b1,.ro 1 A2 b2,.ro 4 A3 b3],.int .i64 at_,.int .i64 F])
 k3:FnW C 183 [aR ks true 12,aL X f,.agg [.int .i64 0,.ro 1 [] true,.ro 1 [] true,.ro 4 [] true]]=some (.tup [.agg [.ro 6 [] true],.int .i64 (if B≠0 then B else 1)])
 k4:B≠0→F=B∧at_=0∧o=0∧A1=[]∧A2=[]∧A3=[]∧b1=true∧b2=true∧b3=true
 k5:FnW C 182 [.agg [.int .i64 0,.ro 1 [] true,.ro 1 [] true,.ro 4 [] true],.agg [.int .i64 0,.ro 1 [] true,.ro 1 [] true,.ro 4 [] true]]=some (.int .i64 1)
 k6:B=0→∃ (L:List (List AV)) (g:Bool) (i:Int),FnW C 170 [aR ks true 12,.ro 6 (X.map eEn) f,.ro 5 [eNt n] true]=some (.tup [.ro 6 L g,.int .i64 i,.int .i64 F])
theorem bes_ok (H:HasBe C) (ks:List Kd) (hr:RuIn ks) (X:List En) (f:Bool) (hne:X≠[]) (hl:X.length≤1000) (hs:∀ e ∈ X,EnIn e) (n:Nt) (hn:n.x=[]):∃ B F at_ o A1 A2 A3 b1 b2 b3,BeS C ks X f n B F at_ o A1 A2 A3 b1 b2 b3:=by
 have hN:∀ m ∈ [n],NtIn ks m:=by
  intro m hm
  rw [List.mem_singleton] at hm
  subst hm
  exact ⟨by rw [hn];simp,by rw [hn];simp,by rw [hn];simp⟩
 have k1:=rlcheck_ok H.toHasAp0.toHasK ks true 12 hr X f (by omega) hs
 have k2:=of_ok H.toHasOf ks true 12 hr X f (by omega) hs [n] true hN (by simp)
 have k5:=sn_ok H.toHasSn zNn zNn zNn_in zNn_in
 have e5:sameN zNn zNn=true:=by decide
 rw [e5] at k5
 have hz:chkN zNn=0:=by decide
 have hpos:0 < X.length:=List.length_pos_iff.2 hne
 unfold ofA at k2
 by_cases hc:ckE ks 12 X=0
 · have k3:=bapply_len H.toHasAp0 ks true 12 hr X f (by omega) hs zNn zNn_in hc hz (by unfold zNn;simp only;omega)
   rw [if_neg (by simp [hc]),if_neg (by simp)] at k2
   have k6:=rnall_ok H.toHasOf.toHasAl ks true 12 hr X f hs hc [n] true hN (by simp)
   rw [if_neg (by simp)] at k6
   unfold allR at k6
   by_cases hE:allE ks 12 X [n]=0
   · rw [if_neg (by simp [hE])] at k2 k6
     exact ⟨0,0,_,_,_,_,_,_,_,_,⟨by rw [k1,hc],k2,k3,fun h=>absurd rfl h,k5,fun _=>⟨_,_,_,k6⟩⟩⟩
   · rw [if_pos hE] at k2 k6
     exact ⟨0,allE ks 12 X [n],_,_,_,_,_,_,_,_,⟨by rw [k1,hc],k2,k3,fun h=>absurd rfl h,k5,fun _=>⟨_,_,_,k6⟩⟩⟩
 · have k3:=bapply_bad H.toHasAp0 ks true 12 hr X f (by omega) hs zNn hc
   rw [if_pos hc] at k2
   exact ⟨ckE ks 12 X,_,_,_,_,_,_,_,_,_,⟨k1,k2,by rw [if_pos hc];exact k3,fun _=>⟨rfl,rfl,rfl,rfl,rfl,rfl,rfl,rfl,rfl⟩,k5,fun h=>absurd h hc⟩⟩
theorem be_end (H:HasBe C) (hone:∀ q:Q4,QIn q→∃ i:It,FnW C 422 [.agg (eQ q)]=some (eIt i)∧Good i) (hlives:FnW C 166 []=some (.bool true))
 (q:List Q4) (qe:Bool) (hq:∀ x ∈ q,QIn x) (z:List Int) (ze:Bool) (hz:∀ s ∈ z,0≤s∧s≤255) (hzl:z.length < 9223372036854775808) (r:Int) (hr:0≤r∧r≤255)
 (e:En) (he:EnIn e) (n:Nt) (hn:n.x=[]) (w:Int) (hw:0≤w∧w≤255) :
 CK C 0 (pureFin [.tmp 6]) [] w619_c0 ⟨[(5,.ptr 0 0 0),(4,.ptr 1 0 0),(3,.ptr 2 0 0)],[(0,.cells 6 [[.int .u8 n.k,.int .i64 n.a,.int .i64 n.c,.int .i64 n.t,.ro 4 (n.x.map cIt) n.e,.int .u8 w]] true true),(1,.cells 6 [eEn e] true true),(2,.cells 3 [[.ro 4 (q.map eQ) qe,.ro 1 (z.map eU8) ze,.int .u8 r]] true true)],3⟩=some (.bool true):=by
 obtain ⟨R,hR,hl,hg,hnd⟩:=lofN_ok H.toHasLN hone [[.int .u8 n.k,.int .i64 n.a,.int .i64 n.c,.int .i64 n.t,.ro 4 (n.x.map cIt) n.e,.int .u8 w]] [eEn e] [[.ro 4 (q.map eQ) qe,.ro 1 (z.map eU8) ze,.int .u8 r]] q qe hq z ze hz hzl r hr
 rcases hR with ⟨rfl,hR⟩ | ⟨hne,hR⟩
 · generalize kindsOf r=ks at *
   rw [ck_unf w619_c0.eq_1]
   simp only [eEn,aR] at hR
   simp (disch:=omega) [hR,hlives,wI64,H.inl,inlB,H.pp,ppB]
 · have hpos:0 < R.length:=List.length_pos_iff.2 hne
   have hmid:w.toNat % R.length < R.length:=Nat.mod_lt _ hpos
   obtain ⟨B,F,at_,o,A1,A2,A3,b1,b2,b3,E⟩:=bes_ok H (kindsOf r) (ru_in r) (R.set (w.toNat % R.length) e) false (by
    intro h;have h2:=congrArg List.length h;rw [List.length_set,List.length_nil] at h2;omega) (by simp;omega) (by
    intro x hx
    rcases List.mem_or_eq_of_mem_set hx with h | h
    · exact (hg x h).en
    · subst h;exact he) n hn
   obtain ⟨k1,k2,k3,k4,k5,k6⟩:=E
   generalize kindsOf r=ks at *
   have hlen:(R.set (w.toNat % R.length) e).length=R.length:=by simp
   have hset:(R.map eEn).set (w.toNat % R.length) [.int .u64 e.i.k,.int .u8 e.i.t,.str e.i.x,.ro 1 (e.i.m.map eS) e.i.e,.int .i64 e.s,.bool e.kn]=(R.set (w.toNat % R.length) e).map eEn:=by
    rw [List.map_set];rfl
   have htk:List.take R.length ((R.set (w.toNat % R.length) e).map eEn)=(R.set (w.toNat % R.length) e).map eEn:=List.take_of_length_le (by simp)
   have hq2:w.tmod (R.length:Int)=((w.toNat % R.length:Nat):Int):=by
    rw [Int.tmod_eq_emod_of_nonneg hw.1]
    obtain ⟨v,rfl⟩:∃ v:Nat,w=v:=⟨w.toNat,by omega⟩
    simp
   generalize R.set (w.toNat % R.length) e=X at *
   generalize w.toNat % R.length=mid at *
   rw [ck_unf w619_c0.eq_1]
   rw [hn] at hR ⊢
   simp only [eNt] at k2 k6
   rw [hn] at k2 k6
   simp only [eEn,aR] at hR
   simp only [aL,aR] at k1 k2 k3
   simp at hR k1 k2 k3
   have hnz:¬ ((R.length:Int)=0):=by omega
   by_cases c:B=0
   · obtain ⟨L,g,i,k7⟩:=k6 c
     simp only [aL,aR] at k7
     simp at k7
     clear k6
     subst c
     simp (disch:=omega) [hR,hpos,hmid,hlen,hset,htk,hq2,hne,hnz,k1,k2,k3,k7,hlives,wI64,H.inl,inlB,H.pp,ppB]
   · obtain ⟨r1,r2,r3,r4,r5,r6,r7,r8,r9⟩:=k4 c
     subst r1;subst r2;subst r3;subst r4;subst r5;subst r6;subst r7;subst r8;subst r9
     simp (disch:=omega) [hR,hpos,hmid,hlen,hset,htk,hq2,hne,hnz,k1,k2,k3,k5,c,hlives,wI64,H.inl,inlB,H.pp,ppB]
theorem be_loop (H:HasBe C) (hlives:FnW C 166 []=some (.bool true)) (E0 E2:List (List AV)) (e:En) (hm:e.i.m.length≤12)
 (hnext:CK C 0 (pureFin [.tmp 6]) [] w619_c0 ⟨[(5,.ptr 0 0 0),(4,.ptr 1 0 0),(3,.ptr 2 0 0)],[(0,.cells 6 E0 true true),(1,.cells 6 [eEn e] true true),(2,.cells 3 E2 true true)],3⟩=some (.bool true)):∀ n i,n+i=e.i.m.length →
 w619_K0 C ⟨[(7,.int .i64 i),(5,.ptr 0 0 0),(4,.ptr 1 0 0),(3,.ptr 2 0 0)],[(0,.cells 6 E0 true true),(1,.cells 6 [eEn e] true true),(2,.cells 3 E2 true true)],3⟩=some (.bool true):=by
 intro n
 induction n with
 | zero =>
  intro i hi
  have h3:¬ i < e.i.m.length:=by omega
  try simp at hnext
  simp only [w619_K0];rw [ck_unf w619_B0.eq_1]
  simp (disch:=omega) [h3,hnext]
 | succ n ih =>
  intro i hi
  have h1:i < e.i.m.length:=by omega
  have this:=ih (i+1) (by omega)
  by_cases c:(20:Int) < e.i.m[i].length
  · simp only [w619_K0];rw [ck_unf w619_B0.eq_1]
    simp (disch:=omega) [h1,c,hlives,wI64,H.inl,inlB,H.pp,ppB]
  · simp only [w619_K0] at this ⊢;rw [ck_unf w619_B0.eq_1]
    simp at this
    simp (disch:=omega) [h1,c,wI64,H.inl,inlB,H.pp,ppB,this]
theorem belaw_ok (H:HasBe C) (hone:∀ q:Q4,QIn q→∃ i:It,FnW C 422 [.agg (eQ q)]=some (eIt i)∧Good i) (hlives:FnW C 166 []=some (.bool true))
 (q:List Q4) (qe:Bool) (hq:∀ x ∈ q,QIn x) (z:List Int) (ze:Bool) (hz:∀ s ∈ z,0≤s∧s≤255) (hzl:z.length < 9223372036854775808) (r:Int) (hr:0≤r∧r≤255)
 (e:En) (hk:0≤e.i.k∧e.i.k < 18446744073709551616) (ht:0≤e.i.t∧e.i.t≤255) (hes:-9223372036854775808≤e.s∧e.s≤9223372036854775807)
 (n:Nt) (w:Int) (hw:0≤w∧w≤255) :
 FnW C 619 [.agg [.ro 4 (q.map eQ) qe,.ro 1 (z.map eU8) ze,.int .u8 r],.agg (eEn e),.agg [.int .u8 n.k,.int .i64 n.a,.int .i64 n.c,.int .i64 n.t,.ro 4 (n.x.map cIt) n.e,.int .u8 w]]=some (.bool true):=by
 rw [fnW_eq H.f619 rfl]
 by_cases c1:(70:Int) < e.i.x.length
 · simp (disch:=omega) [w619,c1,hlives,wI64,H.inl,inlB,H.pp,ppB]
 · by_cases c2:(12:Int) < e.i.m.length
   · simp (disch:=omega) [w619,c1,c2,hlives,wI64,H.inl,inlB,H.pp,ppB]
   · by_cases c3:n.x=[]
     · have k:=be_loop H hlives [[.int .u8 n.k,.int .i64 n.a,.int .i64 n.c,.int .i64 n.t,.ro 4 (n.x.map cIt) n.e,.int .u8 w]] [[.ro 4 (q.map eQ) qe,.ro 1 (z.map eU8) ze,.int .u8 r]] e (by omega) (be_end H hone hlives q qe hq z ze hz hzl r hr e ⟨⟨hk,ht,by omega⟩,hes⟩ n c3 w hw) e.i.m.length 0 (by simp)
       rw [c3] at k ⊢
       simp only [w619_K0] at k
       try simp at k
       simp (disch:=omega) [w619,c1,c2,k,wI64,H.inl,inlB,H.pp,ppB]
     · have c4:0 < n.x.length:=List.length_pos_iff.2 c3
       simp (disch:=omega) [w619,c1,c2,c4,hlives,wI64,H.inl,inlB,H.pp,ppB]
end Go.D
end
