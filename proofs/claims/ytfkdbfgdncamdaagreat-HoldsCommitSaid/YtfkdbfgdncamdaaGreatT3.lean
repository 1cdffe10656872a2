/- Part of the theory that the claims of this work use: PavLocal, PavDraw, PavDraw2, PavDraw3, PavAll, PwRel, PwOps, PwOps2, PwOps3, PwOps4, PwCall, PwFresh, PwSim. No conditions of its own. -/
import Derived.Test.YtfkdbfgdncamdaaGreatT2
section
set_option linter.unusedSimpArgs false
set_option linter.unusedVariables false
namespace Go.Pav
open Go
def eU (l:List Nat) (e e':Env):Prop:=∀ s ∈ l,get e s=get e' s
def jl (l:List Nat) (h h':Heap):Prop:=∀ b ∈ l,get h b=get h' b
theorem eU.left {l k:List Nat} {e e':Env} (h:eU (l++k) e e'):eU l e e':=fun s hs=>h s (List.mem_append_left _ hs)
theorem eU.right {l k:List Nat} {e e':Env} (h:eU (l++k) e e'):eU k e e':=fun s hs=>h s (List.mem_append_right _ hs)
theorem jl.left {l k:List Nat} {e e':Heap} (h:jl (l++k) e e'):jl l e e':=fun s hs=>h s (List.mem_append_left _ hs)
theorem jl.right {l k:List Nat} {e e':Heap} (h:jl (l++k) e e'):jl k e e':=fun s hs=>h s (List.mem_append_right _ hs)
theorem aS {x:Opd} {e e':Env} (h:eU x.slot e e'):x.ev e=x.ev e':=by
 cases x with
 | c v=>rfl
 | t s=>simp only [Opd.ev];rw [h s (by simp [Opd.slot])]
theorem uI {x:Option Opd} {e e':Env} (h:eU (uZ x) e e'):oev e x=oev e' x:=by
 cases x with
 | none=>rfl
 | some x=>simp only [oev];rw [aS (h:eU x.slot e e')]
theorem Gi {xs:List Opd} {e e':Env} (h:eU (xs.flatMap Opd.slot) e e'):∀ x ∈ xs,x.ev e=x.ev e':=by
 intro x hx
 exact aS fun s hs=>h s (List.mem_flatMap.2 ⟨x,hx,hs⟩)
theorem Gq {xs:List Opd} {e e':Env} (h:eU (xs.flatMap Opd.slot) e e'):(xs.map fun x=>x.ev e)=xs.map fun x=>x.ev e' :=
 List.map_congr_left fun x hx=>Gi h x hx
theorem Rq {e e':Env}:∀ (ps:List (Nat × Nat × Opd)) (cs:List AV),eU (ps.flatMap fun p=>p.2.2.slot) e e'→pR e cs ps=pR e' cs ps:=by
 intro ps
 induction ps with
 | nil=>intro cs _;rfl
 | cons p r ih =>
  intro cs h
  obtain ⟨off,n,x⟩:=p
  have hx:x.ev e=x.ev e':=aS fun s hs=>h s (by simp only [List.flatMap_cons,List.mem_append];exact .inl hs)
  simp only [pR,hx]
  rw [ih _ fun s hs=>h s (by simp only [List.flatMap_cons,List.mem_append];exact .inr hs)]
theorem Tj {e e':Env} {z:Nat}:∀ (ps:List (Nat × Opd)) (es:List (List AV)),eU (ps.flatMap fun p=>p.2.slot) e e'→kU e z es ps=kU e' z es ps:=by
 intro ps
 induction ps with
 | nil=>intro cs _;rfl
 | cons p r ih =>
  intro cs h
  obtain ⟨i,x⟩:=p
  have hx:x.ev e=x.ev e':=aS fun s hs=>h s (by simp only [List.flatMap_cons,List.mem_append];exact .inl hs)
  simp only [kU,hx]
  rw [ih _ fun s hs=>h s (by simp only [List.flatMap_cons,List.mem_append];exact .inr hs)]
theorem F6 {h h':Heap} {z:Nat} {v:AV} (hh:jl (dR v) h h'):elems h z v=elems h' z v:=by
 cases v <;> try rfl
 case sl b z' i len cap ex=>simp only [elems];rw [hh b (by simp [dR])]
theorem Q5 {h h':Heap} {nid zl bytes:Nat} {v:AV} {xs:List (List AV)} (hh:jl (dR v) h h'):jU h nid zl bytes v xs=jU h' nid zl bytes v xs:=by
 cases v <;> try rfl
 case sl b z' i len cap ex=>simp only [jU];rw [hh b (by simp [dR])]
theorem Cm {op:COp} {e e':Env} {h h':Heap} {nid:Nat} (he:eU op.slots e e') (hh:jl (readsOf e op) h h'):aK op e h nid=aK op e' h' nid:=by
 cases op <;> simp only [COp.slots,readsOf] at he hh
 case mv x=>simp only [aK,sMv];rw [aS he]
 case pick a b c=>simp only [aK,CO];rw [aS he.left.left,aS he.left.right,aS he.right]
 case alloc z=>rfl
 case box x=>simp only [aK,aeD];rw [aS he]
 case build z ps=>simp only [aK,AX];rw [Rq _ _ he]
 case aZ z len ps=>simp only [aK,AL];rw [Tj _ _ he]
 case load n ag a =>
  have:=aS he
  simp only [aK,YN]
  rw [this] at hh ⊢
  cases hx:a.ev e' <;> try rfl
  case ptr b i o=>rw [hx] at hh;simp only [BH];rw [hh b (by simp [dR])]
 case store n a x =>
  have h1:=aS he.left
  have h2:=aS he.right
  simp only [aK,KC]
  rw [h1] at hh ⊢
  rw [h2]
  cases hx:a.ev e' <;> try rfl
  case ptr b i o=>rw [hx] at hh;simp only [yx];rw [hh b (by simp [dR])]
 case jo x=>simp only [aK,lV];rw [aS he]
 case bin o x y=>simp only [aK,Yq];rw [aS he.left,aS he.right]
 case eqv kd ks ne x y=>simp only [aK,G6];rw [aS he.left,aS he.right]
 case un o x=>simp only [aK,sUn];rw [aS he]
 case cvt k x=>simp only [aK,Qw];rw [aS he]
 case cvs x=>simp only [aK,PE];rw [aS he]
 case cvb x=>simp only [aK,P9];rw [aS he]
 case kX f caps =>
  simp only [aK,zC]
  rw [Gq he]
  have:(caps.all fun x=>(x.ev e).cell)=caps.all fun x=>(x.ev e').cell:=by
   rw [Bool.eq_iff_iff,List.all_eq_true,List.all_eq_true]
   exact ⟨fun q x hx=>by rw [← Gi he x hx];exact q x hx,fun q x hx=>by rw [Gi he x hx];exact q x hx⟩
  rw [this]
 case jX=>rfl
 case mD z b l c=>simp only [aK,Ul];rw [aS he.left,aS he.right]
 case slice z x lo hi mx=>simp only [aK,BF];rw [aS he.left.left.left,uI he.left.left.right,uI he.left.right,uI he.right]
 case fV n x lo hi =>
  have h1:=aS he.left.left
  simp only [aK,yH]
  rw [h1] at hh ⊢
  rw [uI he.left.right,uI he.right]
  cases hx:x.ev e' <;> try rfl
  case ptr b i o=>rw [hx] at hh;simp only [uF];rw [hh b (by simp [dR])]
 case fld off x=>simp only [aK,KY];rw [aS he]
 case xG off n ag x=>simp only [aK,C9];rw [aS he]
 case idxs z x i=>simp only [aK,BZ];rw [aS he.left,aS he.right]
 case kV len z x i=>simp only [aK,CV];rw [aS he.left,aS he.right]
 case dZ x i=>simp only [aK,pO];rw [aS he.left,aS he.right]
 case wR len z ag x i=>simp only [aK,CU];rw [aS he.left,aS he.right]
 case look kd z ok m k =>
  have h1:=aS he.left
  have h2:=aS he.right
  simp only [aK,Jr]
  rw [h1] at hh ⊢
  rw [h2]
  cases hx:m.ev e' <;> try rfl
  case map b=>rw [hx] at hh;simp only;rw [hh b (by simp [dR])]
 case upd kd m k v =>
  have h1:=aS he.left.left
  have h2:=aS he.left.right
  have h3:=aS he.right
  simp only [aK,ace]
  rw [h1] at hh ⊢
  rw [h2,h3]
  cases hx:m.ev e' <;> try rfl
  case map b=>rw [hx] at hh;simp only;rw [hh b (by simp [dR])]
 case range x=>simp only [aK,Ns];rw [aS he]
 case next x =>
  have h1:=aS he
  simp only [aK,Qs]
  rw [h1] at hh ⊢
  split
  · rename_i b heq;rw [heq] at hh;rw [hh b (by simp [dR])]
  · rfl
 case ext i x=>simp only [aK,OE];rw [aS he]
 case call f args=>rfl
 case dW g args=>rfl
 case len kd x =>
  have h1:=aS he
  simp only [aK,sLen]
  rw [h1] at hh ⊢
  cases hx:x.ev e' <;> try rfl
  case map b=>rw [hx] at hh;simp only [mW];rw [hh b (by simp [dR])]
 case cap x=>simp only [aK,sCap];rw [aS he]
 case app z b zs s x =>
  have h1:=aS he.left
  have h2:=aS he.right
  simp only [aK,Tf]
  rw [h1,h2] at hh ⊢
  rw [F6 hh.right]
  have:∀ xs,jU h nid z.length b (s.ev e') xs=jU h' nid z.length b (s.ev e') xs:=fun xs=>Q5 hh.left
  simp only [this]
 case cpy z d s =>
  have h1:=aS he.left
  have h2:=aS he.right
  simp only [aK,acB]
  rw [h1,h2] at hh ⊢
  rw [F6 hh.right]
  have:∀ xs,rQ h z xs (d.ev e')=rQ h' z xs (d.ev e'):=by
   intro xs
   cases hx:d.ev e' <;> try rfl
   case sl b z' i len cap ex=>rw [hx] at hh;simp only [rQ];rw [hh.left b (by simp [dR])]
   case ro z' es ex=>cases es <;> rfl
  simp only [this]
 case clr z d =>
  simp only [aK,acC]
  rw [aS he] at hh ⊢
  cases hx:d.ev e' <;> try rfl
  case sl b z' i len cap ex=>rw [hx] at hh;simp only [Hw];rw [hh b (by simp [dR])]
  case ro z' es ex=>cases es <;> rfl
 case mx x y=>simp only [aK,sMx];rw [aS he.left,aS he.right]
 case mn x y=>simp only [aK,sMn];rw [aS he.left,aS he.right]
 case fail=>rfl
theorem Ad {op:COp} {e e':Env} (he:eU op.slots e e'):readsOf e op=readsOf e' op:=by
 cases op <;> simp only [COp.slots,readsOf] at he ⊢
 case load n ag a=>rw [aS he]
 case fV n x lo hi=>rw [aS he.left.left]
 case store n a x=>rw [aS he.left]
 case look kd z ok m k=>rw [aS he.left]
 case upd kd m k v=>rw [aS he.left.left]
 case next x=>rw [aS he]
 case len kd x=>rw [aS he]
 case app z b zs s x=>rw [aS he.left,aS he.right]
 case cpy z d s=>rw [aS he.left,aS he.right]
 case clr z d=>rw [aS he]
theorem pU {op:COp} {e e':Env} (he:eU op.slots e e'):callOf e op=callOf e' op:=by
 cases op <;> try rfl
 case call f args=>simp only [COp.slots] at he;simp only [callOf];rw [Gq he]
 case dW g args =>
  simp only [COp.slots] at he
  simp only [callOf]
  rw [Gq he.right,aS he.left]
theorem oL {o:bg} {e e':Env} (he:eU o.slots e e'):wants e o.guard=wants e' o.guard:=by
 cases hg:o.guard with
 | none=>rfl
 | some sw =>
  obtain ⟨s,w⟩:=sw
  simp only [wants]
  rw [he s (by simp [bg.slots,hg])]
theorem rG {α β:Type} {f g:α→Option β}:∀ {l:List α},(∀ x ∈ l,f x=g x)→aX f l=aX g l:=by
 intro l
 induction l with
 | nil=>intro _;rfl
 | cons a l ih =>
  intro h
  simp only [aX]
  rw [h a List.mem_cons_self,ih fun x hx=>h x (List.mem_cons_of_mem _ hx)]
theorem kM {α β:Type} {f g:α→List β} {l:List α} (h:∀ x ∈ l,f x=g x):l.flatMap f=l.flatMap g:=by
 induction l with
 | nil=>rfl
 | cons a l ih=>rw [List.flatMap_cons,List.flatMap_cons,h a List.mem_cons_self,ih fun x hx=>h x (List.mem_cons_of_mem _ hx)]
theorem yJ {h h':Heap}:∀ (n:Nat) (v:AV),jl (reach h n v) h h'→frz h n v=frz h' n v∧reach h n v=reach h' n v:=by
 intro n
 induction n with
 | zero=>intro v _;exact ⟨rfl,rfl⟩
 | succ n ih =>
  have many:∀ (l:List AV),jl (l.flatMap (reach h n)) h h'→aX (frz h n) l=aX (frz h' n) l∧l.flatMap (reach h n)=l.flatMap (reach h' n):=by
   intro l hl
   have each:∀ x ∈ l,jl (reach h n x) h h':=fun x hx b hb=>hl b (List.mem_flatMap.2 ⟨x,hx,hb⟩)
   exact ⟨rG fun x hx=>(ih x (each x hx)).1,kM fun x hx=>(ih x (each x hx)).2⟩
  intro v hs
  cases v <;> simp only [frz,reach] at hs ⊢ <;> try exact ⟨trivial,trivial⟩
  case ptr b i o =>
   have hb:get h b=get h' b:=hs b (by simp)
   rw [← hb]
   cases hg:get h b with
   | none=>exact ⟨rfl,rfl⟩
   | some ob =>
    cases ob with
    | map es=>exact ⟨rfl,rfl⟩
    | iter s p=>exact ⟨rfl,rfl⟩
    | cells zb es mu =>
     rw [hg] at hs
     simp only at hs ⊢
     obtain ⟨a1,a2⟩:=many ((es[i]?.getD []).drop o) fun b hb=>hs b (List.mem_cons_of_mem _ hb)
     refine ⟨?_,by rw [a2]⟩
     cases he:es[i]? with
     | none=>rfl
     | some cs=>rw [he] at a1;simp only [Option.getD_some] at a1;simp only [Pav.ob,a1]
  case sl b z i len cap ex =>
   have hb:get h b=get h' b:=hs b (by simp)
   rw [← hb]
   cases hg:get h b with
   | none=>exact ⟨rfl,rfl⟩
   | some o =>
    cases o with
    | map es=>exact ⟨rfl,rfl⟩
    | iter s p=>exact ⟨rfl,rfl⟩
    | cells zb es mu =>
     rw [hg] at hs
     simp only at hs ⊢
     have each:∀ e ∈ (es.drop i).take len,aX (frz h n) e=aX (frz h' n) e∧e.flatMap (reach h n)=e.flatMap (reach h' n):=fun e he =>
      many e fun b hb=>hs b (List.mem_cons_of_mem _ (List.mem_flatMap.2 ⟨e,he,hb⟩))
     rw [rG fun e he=>(each e he).1,kM fun e he=>(each e he).2]
     exact ⟨rfl,rfl⟩
  case fn f caps=>obtain ⟨a,b⟩:=many caps hs;rw [a];exact ⟨rfl,b⟩
  case agg cs=>obtain ⟨a,b⟩:=many cs hs;rw [a];exact ⟨rfl,b⟩
  case tup cs=>obtain ⟨a,b⟩:=many cs hs;rw [a];exact ⟨rfl,b⟩
theorem mP {h h':Heap}:∀ (bs:List Nat),jl bs h h'→aV h bs=aV h' bs:=by
 intro bs
 induction bs with
 | nil=>intro _;rfl
 | cons b r ih =>
  intro hs
  simp only [aV]
  rw [hs b List.mem_cons_self,ih fun x hx=>hs x (List.mem_cons_of_mem _ hx)]
section
variable {C:Prog} {run:Run}
theorem xK {o:bg} {nid:Nat} {e:Env} {h:Heap} {n:Nat} {d:Did} (he:iZ C run o nid e h n=some d) (hb:d.bar=false) :
 ∃ u,d=⟨d.v,aQ h u,d.n,false,d.rd,u.map (·.1)⟩∧(dD o.op=false→d.n=n) ∧
  ∀ (e':Env) (h':Heap) (n':Nat),eU o.slots e e'→jl d.rd h h'→(dD o.op=true→n'=n)→iZ C run o nid e' h' n'=some ⟨d.v,aQ h' u,if dD o.op=true then d.n else n',false,d.rd,u.map (·.1)⟩:=by
 unfold iZ at he
 split at he
 · cases he
 · rename_i hw
   cases he
   refine ⟨[],rfl,fun _=>rfl,fun e' h' n' hs _ hn=>?_⟩
   unfold iZ
   rw [← oL hs,hw]
   by_cases q:dD o.op=true
   · rw [if_pos q,hn q];rfl
   · rw [if_neg q];rfl
 · rename_i hw
   have hslots:∀ {e':Env},eU o.slots e e'→eU o.op.slots e e':=fun hs=>eU.left hs
   unfold iQ at he
   split at he
   · cases he
   · rename_i f args hc
     obtain ⟨c,hcd,rfl⟩:=aG he
     cases c with
     | whole v h1 n1=>simp [bY] at hb
     | deep v u n1 =>
      have hinl:(C.inl f&&sH f)=true∧∃ az x,aX (frz h aF) args=some az∧xR run f az n=some x∧v=x.1∧u=aV h (args.flatMap (reach h aF))++x.2.1∧n1=x.2.2:=by
       unfold jr at hcd
       split at hcd
       · obtain ⟨v',_,hcd⟩:=aG hcd
         cases hcd
       · split at hcd
         · rename_i hf
           obtain ⟨az,hm,hcd⟩:=ay hcd
           obtain ⟨x,hx,hcd⟩:=aG hcd
           cases hcd
           exact ⟨hf,az,x,hm,hx,rfl,rfl,rfl⟩
         · split at hcd
           · obtain ⟨az,hm,hcd⟩:=ay hcd
             obtain ⟨x,hx,hcd⟩:=ay hcd
             unfold yP at hcd
             split at hcd <;> cases hcd
           · obtain ⟨r,_,hcd⟩:=aG hcd
             cases hcd
      obtain ⟨hf,az,x,hm,hx,rfl,rfl,rfl⟩:=hinl
      have hdp:sH f=true:=by simp only [Bool.and_eq_true] at hf;exact hf.2
      have hin:C.inl f=true:=by simp only [Bool.and_eq_true] at hf;exact hf.1
      have hcall:dD o.op=true:=by
       cases hop:o.op <;> rw [hop] at hc <;> simp [callOf] at hc
       · simp only [dD];rw [hc.1];exact hdp
       · rfl
      simp only [bY]
      refine ⟨_,rfl,(fun q=>by rw [hcall] at q;cases q),fun e' h' n' hs hr hn=>?_⟩
      rw [hn hcall,if_pos hcall]
      unfold iZ
      rw [← oL hs,hw]
      unfold iQ
      rw [← pU (hslots hs),hc]
      simp only
      have hfr:∀ x ∈ args,jl (reach h aF x) h h':=fun x hx b hb=>hr b (List.mem_flatMap.2 ⟨x,hx,hb⟩)
      have e1:aX (frz h aF) args=aX (frz h' aF) args:=rG fun x hx=>(yJ _ x (hfr x hx)).1
      have e2:args.flatMap (reach h aF)=args.flatMap (reach h' aF):=kM fun x hx=>(yJ _ x (hfr x hx)).2
      unfold jr
      rw [← e1]
      simp only [hin,Bool.true_or,if_true,hdp,Bool.and_self,hm,ob,hx,om,bY]
      rw [← e2,← mP _ hr]
     | data v u =>
      have hnd:dD o.op=true→∀ m:Nat,m=n→m=(bY h n args (.data v u)).n:=fun _ m q=>q
      simp only [bY]
      refine ⟨u,rfl,fun _=>by trivial,fun e' h' n' hs hr hn=>?_⟩
      have hn2:(if dD o.op=true then n else n')=n':=by
       split
       · rename_i q;exact (hn q).symm
       · rfl
      rw [hn2]
      unfold iZ
      rw [← oL hs,hw]
      unfold iQ
      rw [← pU (hslots hs),hc]
      simp only
      have hfr:∀ x ∈ args,jl (reach h aF x) h h':=fun x hx b hb=>hr b (List.mem_flatMap.2 ⟨x,hx,hb⟩)
      have e1:aX (frz h aF) args=aX (frz h' aF) args:=rG fun x hx=>(yJ _ x (hfr x hx)).1
      have e2:args.flatMap (reach h aF)=args.flatMap (reach h' aF):=kM fun x hx=>(yJ _ x (hfr x hx)).2
      unfold jr at hcd ⊢
      rw [← e1]
      split at hcd
      · rename_i az hfz
        obtain ⟨v',hv',hcd⟩:=aG hcd
        cases hcd
        have e3:marks h args v=marks h' args v:=by
         unfold marks
         rw [← e2,mP _ hr]
        simp only [hv',om,bY]
        rw [e2,e3]
      · split at hcd
        · obtain ⟨az,hm,hcd⟩:=ay hcd
          obtain ⟨x,hx,hcd⟩:=aG hcd
          cases hcd
        rename_i hdp2
        rw [if_neg hdp2]
        split at hcd
        · rename_i hfr2
          obtain ⟨az,hm,hcd⟩:=ay hcd
          obtain ⟨x,hx,hcd⟩:=ay hcd
          rw [if_pos hfr2,hm]
          simp only [ob,hx]
          rw [← e2,← mP _ hr,hcd]
          simp only [om,bY]
          rw [e2]
        · obtain ⟨r,_,hcd⟩:=aG hcd
          cases hcd
   · rename_i hc
     obtain ⟨⟨v,u⟩,hst,rfl⟩:=aG he
     have hnc:dD o.op=false:=by
      cases hop:o.op <;> rw [hop] at hc <;> simp [callOf] at hc <;> first | rfl | skip
      split at hc <;> cases hc
     refine ⟨u,rfl,fun _=>rfl,fun e' h' n' hs hr _=>?_⟩
     rw [hnc]
     simp only [Bool.false_eq_true,if_false]
     unfold iZ
     rw [← oL hs,hw]
     unfold iQ
     rw [← pU (hslots hs),hc]
     simp only
     rw [← Cm (hslots hs) hr,hst,← Ad (hslots hs)]
     rfl
theorem IB {o:COp} (h:dD o=true):qZ o=true:=by
 cases o <;> first | rfl | (simp [dD] at h)
theorem abj {o:bg} {nid:Nat} {e:Env} {h:Heap} {n:Nat} {d:Did} (he:iZ C run o nid e h n=some d) (hb:d.bar=true):qZ o.op=true:=by
 unfold iZ at he
 split at he
 · cases he
 · cases he;cases hb
 · unfold iQ at he
   split at he
   · cases he
   · rename_i f args hc
     cases hop:o.op <;> rw [hop] at hc <;> simp [callOf] at hc <;> rfl
   · obtain ⟨⟨v,u⟩,hst,rfl⟩:=aG he
     cases hb
theorem Zo {o:bg} {nid:Nat} {e e':Env} {h:Heap} {n:Nat} (hs:eU o.slots e e'):iZ C run o nid e h n=iZ C run o nid e' h n:=by
 unfold iZ
 rw [← oL hs]
 unfold iQ
 have hs':eU o.op.slots e e':=eU.left hs
 rw [← pU hs',← Cm hs' (fun _ _=>rfl),← Ad hs']
end
end Go.Pav
end
section
set_option linter.unusedSimpArgs false
set_option linter.unusedVariables false
namespace Go.Pav
open Go
section
variable {C:Prog} {run:Run}
theorem Oz:∀ (l:List bg) (nid:Nat) (s:St) (ds0:List Did) (s':St) (ds:List Did),ou C run l nid s ds0=some (s',ds) →
 ∃ (st:Nat→St) (ds1:List Did),ds=ds0++ds1∧ds1.length=l.length∧st 0=s∧st l.length=s' ∧
  ∀ k o,l[k]?=some o→∃ d,ds1[k]?=some d∧iZ C run o (nid+k) (st k).env (st k).heap (st k).next=some d∧st (k+1)=⟨dL (st k).env o.dst d.v,d.h,d.n⟩:=by
 intro l
 induction l with
 | nil =>
  intro nid s ds0 s' ds h
  simp only [ou,Option.some.injEq,Prod.mk.injEq] at h
  obtain ⟨rfl,rfl⟩:=h
  exact ⟨fun _=>s,[],by simp,rfl,rfl,rfl,fun k o hk=>by simp at hk⟩
 | cons o l ih =>
  intro nid s ds0 s' ds h
  simp only [ou] at h
  obtain ⟨d,hd,h⟩:=ay h
  obtain ⟨st,ds1,h1,h2,h3,h4,h5⟩:=ih _ _ _ _ _ h
  refine ⟨fun k=>match k with | 0=>s | k+1=>st k,d::ds1,by simp [h1],by simp [h2],rfl,by simpa using h4,?_⟩
  intro k o' hk
  cases k with
  | zero =>
   simp at hk
   subst hk
   exact ⟨d,by simp,by simpa using hd,h3⟩
  | succ k =>
   obtain ⟨d',q1,q2,q3⟩:=h5 k o' (by simpa using hk)
   refine ⟨d',by simpa using q1,?_,q3⟩
   have:nid+(k+1)=nid+1+k:=by omega
   rw [this];exact q2
theorem kH {b:Nat}:∀ (u:Upd) (h:Heap),b ∉ u.map (·.1)→get (aQ h u) b=get h b:=by
 intro u
 induction u with
 | nil=>intro h _;rfl
 | cons x u ih =>
  intro h hb
  obtain ⟨c,o⟩:=x
  simp only [List.map_cons,List.mem_cons,not_or] at hb
  simp only [aQ]
  rw [ih _ hb.2]
  cases o with
  | none=>simp only [qW,lW];rw [if_neg (Ne.symm hb.1)]
  | some o=>simp only [qW,get_put];rw [if_neg (Ne.symm hb.1)]
theorem Iq {b:Nat}:∀ (u:Upd) (h h':Heap),b ∈ u.map (·.1)→get (aQ h u) b=get (aQ h' u) b:=by
 intro u
 induction u with
 | nil=>intro h h' hb;simp at hb
 | cons x u ih =>
  intro h h' hb
  obtain ⟨c,o⟩:=x
  simp only [aQ]
  by_cases hu:b ∈ u.map (·.1)
  · exact ih _ _ hu
  · rw [kH u _ hu,kH u _ hu]
    simp only [List.map_cons,List.mem_cons] at hb
    have hc:b=c:=hb.resolve_right hu
    subst hc
    cases o with
    | none=>simp only [qW,lW,if_true]
    | some o=>simp only [qW,get_put,if_true]
theorem FQ {op:COp} {e:Env} {h:Heap} {nid:Nat} {v:AV} {u:Upd} (hs:aK op e h nid=some (v,u)) (hw:writes op=false) (hm:op.makes=false):u=[]:=by
 cases op <;> simp only [writes,COp.makes] at hw hm <;> try (cases hw;done)
 all_goals (first | (cases hm;done) | skip)
 all_goals simp only [aK] at hs
 case mv x=>simp only [sMv,Option.some.injEq,Prod.mk.injEq] at hs;exact hs.2.symm
 case pick c a b=>simp only [CO] at hs;split at hs <;> cases hs;rfl
 case build z ps=>obtain ⟨_,_,h⟩:=aG hs;cases h;rfl
 case load n ag a=>exact (dN hs).2
 case jo x=>simp only [lV] at hs;split at hs <;> cases hs <;> rfl
 case bin o x y=>exact (dN hs).2
 case eqv kd ks ne x y=>obtain ⟨_,_,h⟩:=aG hs;cases h;rfl
 case un o x=>exact (dN hs).2
 case cvt k x=>simp only [Qw] at hs;split at hs <;> cases hs;rfl
 case cvs x=>simp only [PE] at hs;split at hs <;> cases hs;rfl
 case cvb x=>exact (dN hs).2
 case kX f caps=>simp only [zC] at hs;split at hs <;> cases hs;rfl
 case slice z x lo hi mx=>exact (dN hs).2
 case fld off x=>simp only [KY] at hs;split at hs <;> cases hs <;> rfl
 case xG off n ag x =>
  simp only [C9] at hs
  split at hs
  · exact (dN hs).2
  · cases hs
 case idxs z x i =>
  simp only [BZ] at hs
  split at hs
  · obtain ⟨n,_,hs⟩:=ay hs
    unfold sV at hs
    split at hs
    · split at hs
      · obtain ⟨_,_,hs⟩:=ay hs;cases hs;rfl
      · cases hs
    · split at hs <;> cases hs;rfl
    · cases hs
  · cases hs
 case kV len z x i =>
  simp only [CV] at hs
  split at hs
  · obtain ⟨n,_,hs⟩:=ay hs
    split at hs
    · unfold sK at hs;split at hs <;> cases hs <;> rfl
    · cases hs
  · cases hs
 case dZ x i =>
  simp only [pO] at hs
  split at hs
  · obtain ⟨n,_,hs⟩:=ay hs
    obtain ⟨_,_,hs⟩:=ay hs
    cases hs;rfl
  · cases hs
 case wR len z ag x i =>
  simp only [CU] at hs
  split at hs
  · obtain ⟨n,_,hs⟩:=ay hs
    split at hs
    · exact (dN hs).2
    · cases hs
  · cases hs
 case look kd z ok m k =>
  simp only [Jr] at hs
  split at hs
  · split at hs
    · cases hs;rfl
    · exact (dN hs).2
    · cases hs
  · cases hs
 case ext i x =>
  simp only [OE] at hs
  split at hs
  · exact (dN hs).2
  · cases hs
 case len kd x=>exact (dN hs).2
 case cap x=>exact (dN hs).2
 case mx x y =>
  simp only [sMx] at hs
  split at hs
  · split at hs <;> cases hs;rfl
  · cases hs
 case mn x y =>
  simp only [sMn] at hs
  split at hs
  · split at hs <;> cases hs;rfl
  · cases hs
 case fail=>simp only [yh] at hs;cases hs
theorem GX {o:bg} {nid:Nat} {e:Env} {h:Heap} {n:Nat} {d:Did} (he:iZ C run o nid e h n=some d) :
 (writes o.op=false→o.op.makes=false→d.bar=false∧d.wr=[])∧(touches o.op=false→d.bar=false∧d.wr=[]∧d.rd=[]):=by
 have wt:touches o.op=false→writes o.op=false∧o.op.makes=false∧(∀ e:Env,readsOf e o.op=[]):=by
  intro ht
  cases hop:o.op <;> rw [hop] at ht <;> simp only [touches] at ht <;> first | (cases ht;done) | exact ⟨rfl,rfl,fun _=>rfl⟩
 unfold iZ at he
 split at he
 · cases he
 · cases he;exact ⟨fun _ _=>⟨rfl,rfl⟩,fun _=>⟨rfl,rfl,rfl⟩⟩
 · unfold iQ at he
   split at he
   · cases he
   · rename_i f args hc
     have hw:writes o.op=true:=by
      cases hop:o.op <;> rw [hop] at hc <;> simp [callOf] at hc <;> rfl
     exact ⟨fun h _=>(by rw [hw] at h;cases h),fun h=>(by rw [(wt h).1] at hw;cases hw)⟩
   · obtain ⟨⟨v,u⟩,hst,rfl⟩:=aG he
     refine ⟨fun h1 h2=>⟨rfl,?_⟩,fun ht=>⟨rfl,?_,?_⟩⟩
     · rw [FQ hst h1 h2];rfl
     · obtain ⟨h1,h2,_⟩:=wt ht
       rw [FQ hst h1 h2];rfl
     · exact (wt ht).2.2 e
end
def oD (e0:Env) (dst:Nat→Option Nat) (D:Nat→Did) (L:Nat→Bool) (s:Nat):Nat→Option AV
 | 0=>get e0 s
 | k+1=>if L k=true∧dst k=some s then some (D k).v else oD e0 dst D L s k
def jm (h0:Heap) (D:Nat→Did) (L:Nat→Bool) (b:Nat):Nat→Option iV
 | 0=>get h0 b
 | k+1=>if L k=true∧((D k).bar=true∨b ∈ (D k).wr) then get (D k).h b else jm h0 D L b k
def nAt (n0:Nat) (mv:Nat→Bool) (D:Nat→Did) (L:Nat→Bool):Nat→Nat
 | 0=>n0
 | k+1=>if L k=true∧mv k=true then (D k).n else nAt n0 mv D L k
section
variable {e0:Env} {h0:Heap} {n0:Nat} {mv:Nat→Bool} {dst:Nat→Option Nat} {D:Nat→Did} {L M:Nat→Bool}
theorem pJ {s:Nat}:∀ (n:Nat),(∀ k,k < n→L k=M k∨dst k≠some s)→oD e0 dst D L s n=oD e0 dst D M s n:=by
 intro n
 induction n with
 | zero=>intro _;rfl
 | succ n ih =>
  intro h
  simp only [oD]
  rw [ih fun k hk=>h k (by omega)]
  rcases h n (by omega) with q | q
  · rw [q]
  · rw [if_neg (fun x=>q x.2),if_neg (fun x=>q x.2)]
theorem nH {b:Nat}:∀ (n:Nat),(∀ k,k < n→L k=M k∨((D k).bar=false∧b ∉ (D k).wr))→jm h0 D L b n=jm h0 D M b n:=by
 intro n
 induction n with
 | zero=>intro _;rfl
 | succ n ih =>
  intro h
  simp only [jm]
  rw [ih fun k hk=>h k (by omega)]
  rcases h n (by omega) with q | ⟨q1,q2⟩
  · rw [q]
  · have:¬ ((D n).bar=true∨b ∈ (D n).wr):=fun x=>x.elim (fun x=>by rw [q1] at x;cases x) q2
    rw [if_neg (fun x=>this x.2),if_neg (fun x=>this x.2)]
theorem vk:∀ (n:Nat),(∀ k,k < n→L k=M k∨mv k=false)→nAt n0 mv D L n=nAt n0 mv D M n:=by
 intro n
 induction n with
 | zero=>intro _;rfl
 | succ n ih =>
  intro h
  simp only [nAt]
  rw [ih fun k hk=>h k (by omega)]
  rcases h n (by omega) with q | q
  · rw [q]
  · rw [if_neg (fun x=>by rw [q] at x;cases x.2),if_neg (fun x=>by rw [q] at x;cases x.2)]
theorem WI {s i:Nat}:∀ (n:Nat),i≤n→oD e0 dst D (fun k=>decide (k < i)) s n=oD e0 dst D (fun _=>true) s i:=by
 intro n
 induction n with
 | zero => intro h; have : i = 0 := by omega
           subst this;rfl
 | succ n ih =>
  intro h
  by_cases hi:i=n+1
  · subst hi;exact pJ _ fun k hk=>.inl (by simp [hk])
  · simp only [oD]
    rw [if_neg (by simp;omega)]
    exact ih (by omega)
theorem TV {b i:Nat}:∀ (n:Nat),i≤n→jm h0 D (fun k=>decide (k < i)) b n=jm h0 D (fun _=>true) b i:=by
 intro n
 induction n with
 | zero => intro h; have : i = 0 := by omega
           subst this;rfl
 | succ n ih =>
  intro h
  by_cases hi:i=n+1
  · subst hi;exact nH _ fun k hk=>.inl (by simp [hk])
  · simp only [jm]
    rw [if_neg (by simp;omega)]
    exact ih (by omega)
theorem adz {i:Nat}:∀ (n:Nat),i≤n→nAt n0 mv D (fun k=>decide (k < i)) n=nAt n0 mv D (fun _=>true) i:=by
 intro n
 induction n with
 | zero => intro h; have : i = 0 := by omega
           subst this;rfl
 | succ n ih =>
  intro h
  by_cases hi:i=n+1
  · subst hi;exact vk _ fun k hk=>.inl (by simp [hk])
  · simp only [nAt]
    rw [if_neg (by simp;omega)]
    exact ih (by omega)
theorem VN {s i:Nat} (hL:L i=false) (hM:∀ k,M k=(decide (k=i)||L k)):∀ (n:Nat),i < n→(∀ k,k < n→i < k→L k=true→dst i=some s→dst k≠some s) →
 oD e0 dst D M s n=if dst i=some s then some (D i).v else oD e0 dst D L s n:=by
 intro n
 induction n with
 | zero=>intro h;omega
 | succ n ih =>
  intro h hk
  simp only [oD]
  by_cases hi:i=n
  · subst hi
    rw [hM i,hL]
    simp only [decide_true,Bool.true_or,true_and,Bool.false_eq_true,false_and,if_false]
    split
    · rfl
    · exact pJ _ fun k hk' => .inl (by rw [hM k]; have : k ≠ i := by omega
                                       simp [this])
  · rw [ih (by omega) fun k h1 h2=>hk k (by omega) h2,hM n]
    have:¬ n=i:=fun e=>hi e.symm
    simp only [this,decide_false,Bool.false_or]
    by_cases hc:L n=true∧dst n=some s
    · rw [if_pos hc,if_pos hc]
      split
      · rename_i hd;exact absurd hc.2 (hk n (by omega) (by omega) hc.1 hd)
      · rfl
    · rw [if_neg hc,if_neg hc]
theorem Td {b i:Nat} (hL:L i=false) (hM:∀ k,M k=(decide (k=i)||L k)):∀ (n:Nat),i < n →
 (∀ k,k < n→i < k→L k=true→((D i).bar=true∨b ∈ (D i).wr)→¬ ((D k).bar=true∨b ∈ (D k).wr)) →
 jm h0 D M b n=if (D i).bar=true∨b ∈ (D i).wr then get (D i).h b else jm h0 D L b n:=by
 intro n
 induction n with
 | zero=>intro h;omega
 | succ n ih =>
  intro h hk
  simp only [jm]
  by_cases hi:i=n
  · subst hi
    rw [hM i,hL]
    simp only [decide_true,Bool.true_or,true_and,Bool.false_eq_true,false_and,if_false]
    split
    · rfl
    · exact nH _ fun k hk' => .inl (by rw [hM k]; have : k ≠ i := by omega
                                       simp [this])
  · rw [ih (by omega) fun k h1 h2=>hk k (by omega) h2,hM n]
    have:¬ n=i:=fun e=>hi e.symm
    simp only [this,decide_false,Bool.false_or]
    by_cases hc:L n=true∧((D n).bar=true∨b ∈ (D n).wr)
    · rw [if_pos hc,if_pos hc]
      split
      · rename_i hd;exact absurd hc.2 (hk n (by omega) (by omega) hc.1 hd)
      · rfl
    · rw [if_neg hc,if_neg hc]
theorem ae8 {i:Nat} (hL:L i=false) (hM:∀ k,M k=(decide (k=i)||L k)):∀ (n:Nat),i < n→(∀ k,k < n→i < k→L k=true→mv i=true→mv k=false) →
 nAt n0 mv D M n=if mv i=true then (D i).n else nAt n0 mv D L n:=by
 intro n
 induction n with
 | zero=>intro h;omega
 | succ n ih =>
  intro h hk
  simp only [nAt]
  by_cases hi:i=n
  · subst hi
    rw [hM i,hL]
    simp only [decide_true,Bool.true_or,true_and,Bool.false_eq_true,false_and,if_false]
    split
    · rfl
    · exact vk _ fun k hk' => .inl (by rw [hM k]; have : k ≠ i := by omega
                                       simp [this])
  · rw [ih (by omega) fun k h1 h2=>hk k (by omega) h2,hM n]
    have:¬ n=i:=fun e=>hi e.symm
    simp only [this,decide_false,Bool.false_or]
    by_cases hc:L n=true∧mv n=true
    · rw [if_pos hc,if_pos hc]
      split
      · rename_i hd;rw [hk n (by omega) (by omega) hc.1 hd] at hc;cases hc.2
      · rfl
    · rw [if_neg hc,if_neg hc]
end
end Go.Pav
end
section
set_option linter.unusedSimpArgs false
set_option linter.unusedVariables false
namespace Go.Pav
open Go
def Jd (acc:Array Nat) (o:Oper):Nat:=o.after.toList.foldl (fun s e=>if Region.binds .any e then s ||| 2 ^ e.on ||| acc.getD e.on 0 else s) 0
theorem XI {acc:Array Nat} {j:Nat}:∀ (l:List Edge) (s:Nat),(l.foldl (fun s e=>if Region.binds .any e then s ||| 2 ^ e.on ||| acc.getD e.on 0 else s) s).testBit j=true →
 s.testBit j=true∨∃ e ∈ l,Region.binds .any e=true∧(e.on=j∨(acc.getD e.on 0).testBit j=true):=by
 intro l
 induction l with
 | nil=>intro s h;exact .inl h
 | cons e l ih =>
  intro s h
  simp only [List.foldl_cons] at h
  rcases ih _ h with q | ⟨e',q1,q2,q3⟩
  · by_cases hb:Region.binds .any e=true
    · rw [if_pos hb] at q
      simp only [Nat.testBit_or,Bool.or_eq_true,Nat.testBit_two_pow,decide_eq_true_eq] at q
      rcases q with (q | q) | q
      · exact .inl q
      · exact .inr ⟨e,List.mem_cons_self,hb,.inl q⟩
      · exact .inr ⟨e,List.mem_cons_self,hb,.inr q⟩
    · rw [if_neg hb] at q;exact .inl q
  · exact .inr ⟨e',List.mem_cons_of_mem _ q1,q2,q3⟩
theorem oH (g:Array Nat→Oper→Nat):∀ (l:List Oper) (acc:Array Nat) (k:Nat),
 (l.foldl (fun acc o=>acc.push (g acc o)) acc).size=acc.size+l.length ∧
 (k < acc.size→(l.foldl (fun acc o=>acc.push (g acc o)) acc)[k]?=acc[k]?):=by
 intro l
 induction l with
 | nil=>intro acc k;exact ⟨rfl,fun _=>rfl⟩
 | cons o l ih =>
  intro acc k
  simp only [List.foldl_cons]
  obtain ⟨h1,h2⟩:=ih (acc.push (g acc o)) k
  refine ⟨by rw [h1];simp;omega,fun hk=>?_⟩
  rw [h2 (by simp;omega),Array.getElem?_push,if_neg (by omega)]
theorem Iy (g:Array Nat→Oper→Nat):∀ (l:List Oper) (acc:Array Nat) (k:Nat) (o:Oper),l[k]?=some o →
 ∃ acc':Array Nat,acc'.size=acc.size+k∧(l.foldl (fun acc o=>acc.push (g acc o)) acc)[acc.size+k]?=some (g acc' o) ∧
  ∀ j,j < acc.size+k→(l.foldl (fun acc o=>acc.push (g acc o)) acc)[j]?=acc'[j]?:=by
 intro l
 induction l with
 | nil=>intro acc k o h;simp at h
 | cons x l ih =>
  intro acc k o h
  simp only [List.foldl_cons]
  cases k with
  | zero =>
   simp at h
   subst h
   refine ⟨acc,by simp,?_,fun j hj=>?_⟩
   · rw [(oH g l _ _).2 (by simp)]
     simp
   · rw [(oH g l _ _).2 (by simp;omega),Array.getElem?_push,if_neg (by omega)]
  | succ k =>
   obtain ⟨acc',h1,h2,h3⟩:=ih (acc.push (g acc x)) k o (by simpa using h)
   have e:(acc.push (g acc x)).size+k=acc.size+(k+1):=by simp;omega
   rw [e] at h1 h2 h3
   exact ⟨acc',h1,h2,h3⟩
theorem KD {ops:List Oper} {k:Nat} {o:Oper} (hk:ops[k]?=some o):∃ acc:Array Nat,acc.size=k∧(ancestors ops).getD k 0=Jd acc o∧∀ j,j < k→(ancestors ops).getD j 0=acc.getD j 0:=by
 obtain ⟨acc,h1,h2,h3⟩:=Iy Jd ops #[] k o hk
 simp only [List.size_toArray,List.length_nil,Nat.zero_add] at h1 h2 h3
 have e:∀ j,(ancestors ops).getD j 0=((ops.foldl (fun acc o=>acc.push (Jd acc o)) (#[]:Array Nat))[j]?).getD 0:=by
  intro j
  rw [List.getD_eq_getElem?_getD]
  simp [ancestors,Jd]
 refine ⟨acc,h1,by rw [e,h2];rfl,fun j hj=>?_⟩
 rw [e,h3 j hj,Array.getD_eq_getD_getElem?]
theorem H6:∀ (ops:List Oper) (k0:Nat),o7 k0 ops=true→∀ (k:Nat) (o:Oper),ops[k]?=some o→∀ e ∈ o.after.toList,Region.binds .any e=true→e.on < k0+k:=by
 intro ops
 induction ops with
 | nil=>intro k0 _ k o h;simp at h
 | cons x ops ih =>
  intro k0 h k o hk e he hb
  simp only [o7,Bool.and_eq_true] at h
  cases k with
  | zero =>
   simp at hk
   subst hk
   have:=List.all_eq_true.1 h.1 e he
   simp only [hb,Bool.not_true,Bool.false_or] at this
   rw [Nat.blt_eq] at this
   omega
  | succ k =>
   have:=ih (k0+1) h.2 k o (by simpa using hk) e he hb
   omega
theorem xk {ops:List Oper} (hE:o7 0 ops=true) {k j:Nat} {o:Oper} (hk:ops[k]?=some o) (hj:((ancestors ops).getD k 0).testBit j=true) :
 ∃ e ∈ o.after.toList,Region.binds .any e=true∧e.on < k∧(e.on=j∨((ancestors ops).getD e.on 0).testBit j=true):=by
 obtain ⟨acc,h1,h2,h3⟩:=KD hk
 rw [h2] at hj
 rcases XI _ _ hj with q | ⟨e,q1,q2,q3⟩
 · simp at q
 · have hlt:=H6 ops 0 hE k o hk e q1 q2
   rw [Nat.zero_add] at hlt
   exact ⟨e,q1,q2,hlt,by rw [h3 _ hlt];exact q3⟩
theorem Bh (ops:List Oper):(ancestors ops).length=ops.length:=by
 have:=(oH Jd ops #[] 0).1
 simpa [ancestors,Jd] using this
theorem Ir {anc:List Nat} {i j:Nat} (hij:i < j) (hj:j < anc.length) (hb:(anc.getD j 0).testBit i=false):(i,j) ∈ unordered anc:=by
 simp only [unordered,List.mem_flatMap,List.mem_range,List.mem_filterMap]
 exact ⟨j,hj,i,hij,by rw [hb];rfl⟩
theorem AO {a b:List Nat} (h:meets a b=false):∀ x ∈ a,x ∉ b:=by
 intro x hx hy
 have:meets a b=true:=by
  simp only [meets,List.any_eq_true,decide_eq_true_eq]
  exact ⟨x,hx,x,hy,rfl⟩
 rw [h] at this;cases this
structure Apart (a b:bg) (x y:Did):Prop where
 s1:∀ d,a.dst=some d→d ∉ b.slots
 s2:∀ d,a.dst=some d→b.dst≠some d
 s3:∀ d,b.dst=some d→d ∉ a.slots
 dp:dD a.op=true→qZ b.op=false
 dp':dD b.op=true→qZ a.op=false
 rd:y.bar=false→∀ c ∈ y.rd,x.bar=false∧c ∉ x.wr
 bar:y.bar=true→x.bar=false∧x.wr=[]
 wr:y.bar=false→∀ c ∈ y.wr,x.bar=false∧c ∉ x.wr
 rd':x.bar=false→∀ c ∈ x.rd,y.bar=false∧c ∉ y.wr
 amo:x.bar=true→y.bar=false∧y.wr=[]
 wr':x.bar=false→∀ c ∈ x.wr,y.bar=false∧c ∉ y.wr
theorem Apart.symm {a b:bg} {x y:Did} (h:Apart a b x y):Apart b a y x :=
 ⟨h.s3,fun d h1 h2=>h.s2 d h2 h1,h.s1,h.dp',h.dp,h.rd',h.amo,h.wr',h.rd,h.bar,h.wr⟩
theorem Apart.of {a b:bg} {x y:Did} (hs:lu a b=true) (hc:clash x y=false∨(x.bar=false∧x.wr=[]∧x.rd=[])∨(y.bar=false∧y.wr=[]∧y.rd=[])∨(x.bar=false∧x.wr=[]∧y.bar=false∧y.wr=[])) :
 Apart a b x y:=by
 have hdp:(dD a.op=true→qZ b.op=false)∧(dD b.op=true→qZ a.op=false):=by
  unfold lu at hs
  rw [Bool.and_eq_true] at hs
  have:=hs.1
  simp only [Bool.not_eq_true',Bool.or_eq_false_iff] at this
  refine ⟨fun q=>?_,fun q=>?_⟩
  · have h1:=this.1;rw [q] at h1;simpa using h1
  · have h1:=this.2;rw [q] at h1;simpa using h1
 have h1:(∀ d,a.dst=some d→d ∉ b.slots)∧(∀ d,a.dst=some d→b.dst≠some d)∧∀ d,b.dst=some d→d ∉ a.slots:=by
  unfold lu at hs
  rw [Bool.and_eq_true] at hs
  replace hs:=hs.2
  simp only [Bool.and_eq_true] at hs
  refine ⟨fun d hd=>?_,fun d hd=>?_,fun d hd=>?_⟩
  · have:=hs.1;rw [hd] at this
    simp only [Bool.and_eq_true,Bool.not_eq_true',List.contains_eq_mem,decide_eq_false_iff_not] at this
    exact this.1
  · have:=hs.1;rw [hd] at this
    simp only [Bool.and_eq_true,Bool.not_eq_true',beq_eq_false_iff_ne] at this
    exact this.2
  · have:=hs.2;rw [hd] at this
    simp only [Bool.not_eq_true',List.contains_eq_mem,decide_eq_false_iff_not] at this
    exact this
 obtain ⟨s1,s2,s3⟩:=h1
 have nil:∀ {l:List Nat} {c:Nat},l=[]→c ∉ l:=fun h hc=>by subst h;cases hc
 have hc:(x.bar||(y.bar||(meets x.wr y.wr||(meets x.wr y.rd||meets x.rd y.wr))))=false∨(x.bar=false∧x.wr=[]∧x.rd=[])∨(y.bar=false∧y.wr=[]∧y.rd=[])∨(x.bar=false∧x.wr=[]∧y.bar=false∧y.wr=[]):=by
  rcases hc with h | h
  · have qt:∀ d:Did,quiet d=true→d.bar=false∧d.wr=[]∧d.rd=[]:=by
     intro d hd
     simp only [quiet,Bool.and_eq_true,Bool.not_eq_true',List.isEmpty_iff] at hd
     exact hd
    unfold clash at h
    cases qx:quiet x with
    | true=>exact .inr (.inl (qt x qx))
    | false =>
     cases qy:quiet y with
     | true=>exact .inr (.inr (.inl (qt y qy)))
     | false =>
      rw [qx,qy] at h
      exact .inl (by simpa using h)
  · exact .inr h
 rcases hc with h | ⟨h1,h2,h3⟩ | ⟨h1,h2,h3⟩ | ⟨h1,h2,h3,h4⟩
 · simp only [Bool.or_eq_false_iff] at h
   obtain ⟨b1,b2,m1,m2,m3⟩:=h
   exact ⟨s1,s2,s3,hdp.1,hdp.2,fun _ c hc=>⟨b1,fun hx=>AO m2 c hx hc⟩,fun hb=>(by rw [b2] at hb;cases hb),fun _ c hc=>⟨b1,fun hx=>AO m1 c hx hc⟩,
    fun _ c hc=>⟨b2,fun hx=>AO m3 c hc hx⟩,fun hb=>(by rw [b1] at hb;cases hb),fun _ c hc=>⟨b2,fun hx=>AO m1 c hc hx⟩⟩
 · exact ⟨s1,s2,s3,hdp.1,hdp.2,fun _ c _=>⟨h1,nil h2⟩,fun _=>⟨h1,h2⟩,fun _ c _=>⟨h1,nil h2⟩,
    fun _ c hc=>absurd hc (nil h3),fun hb=>(by rw [h1] at hb;cases hb),fun _ c hc=>absurd hc (nil h2)⟩
 · exact ⟨s1,s2,s3,hdp.1,hdp.2,fun _ c hc=>absurd hc (nil h3),fun hb=>(by rw [h1] at hb;cases hb),fun _ c hc=>absurd hc (nil h2),
    fun _ c _=>⟨h1,nil h2⟩,fun _=>⟨h1,h2⟩,fun _ c _=>⟨h1,nil h2⟩⟩
 · exact ⟨s1,s2,s3,hdp.1,hdp.2,fun _ c _=>⟨h1,nil h2⟩,fun _=>⟨h1,h2⟩,fun _ c _=>⟨h1,nil h2⟩,
    fun _ c _=>⟨h3,nil h4⟩,fun _=>⟨h3,h4⟩,fun _ c _=>⟨h3,nil h4⟩⟩
end Go.Pav
end
section
set_option linter.unusedSimpArgs false
set_option linter.unusedVariables false
namespace Go.Pav
open Go
section
variable {P:Program} {φ:FuncId→Option Nat} {ψ:Nat→FuncId} {C:Prog} {run:Run} {N:Nat} {w0 w:World} {S:Nat→Prop} {m:Nat→Nat × Nat} {A:Nat→Prop} {a:Act}
theorem Inv.ext {h h':Heap} (i:Inv ψ N w0 w S m A h) (hh:∀ b,get h' b=get h b):Inv ψ N w0 w S m A h' :=
 i.sub fun c o hc=>by rw [← hh c];exact hc
theorem jq.ext {e e':Env} {tmps:Array Value} (i:jq ψ w S m A e tmps) (hh:∀ b,get e' b=get e b):jq ψ w S m A e' tmps :=
 fun s v hs=>i s v (by rw [← hh s];exact hs)
theorem Hq (e:Env) (d:Option Nat) (v:AV) (s:Nat):get (dL e d v) s=if d=some s then some v else get e s:=by
 cases d with
 | none=>simp [dL]
 | some d=>simp [dL,get_put]
def Az (P:Program) (φ:FuncId→Option Nat) (ops:Array Oper) (D:Nat→Did) (k:Nat):Bool :=
 (D k).bar||(match ops[k]? with | some o=>dD (bV P φ ops o).op | none=>false)
structure P5 (C:Prog) (run:Run) (P:Program) (φ:FuncId→Option Nat) (ops:Array Oper) (base:Nat) (e0:Env) (h0:Heap) (n0:Nat) (D:Nat→Did) (st:Nat→St):Prop where
 edges:o7 0 ops.toList=true
 ap:∀ (i j:Nat) (a b:Oper),ops[i]?=some a→ops[j]?=some b→i < j→((ancestors ops.toList).getD j 0).testBit i=false→Apart (bV P φ ops a) (bV P φ ops b) (D i) (D j)
 did:∀ (k:Nat) (o:Oper),ops[k]?=some o→iZ C run (bV P φ ops o) (base+k) (st k).env (st k).heap (st k).next=some (D k)
 env:∀ k s,k≤ops.size→get (st k).env s=oD e0 (fun k=>(ops[k]?).bind (·.dst)) D (fun _=>true) s k
 heap:∀ k b,k≤ops.size→get (st k).heap b=jm h0 D (fun _=>true) b k
 next:∀ k,k≤ops.size→(st k).next=nAt n0 (Az P φ ops D) D (fun _=>true) k
theorem uX (P:Program) (φ:FuncId→Option Nat) (ops:Array Oper) (o:Oper):(bV P φ ops o).dst=o.dst:=by
 unfold bV;simp only;split <;> rfl
theorem P5.make {ops:Array Oper} {s:St} {r:St × List Did}
 (hE:o7 0 ops.toList=true)
 (hu:(unordered (ancestors ops.toList)).all (fun p=>lu ((ops.toList.map (bV P φ ops)).getD p.1 default) ((ops.toList.map (bV P φ ops)).getD p.2 default))=true)
 (hr:ou C run (ops.toList.map (bV P φ ops)) s.next ⟨s.env,s.heap,s.next+(ops.toList.map (bV P φ ops)).length⟩ []=some r)
 (hap:((unordered (ancestors ops.toList)).filter fun p=>tV ((ops.toList.map (bV P φ ops)).getD p.1 default).op ((ops.toList.map (bV P φ ops)).getD p.2 default).op).all (apart r.2)=true) :
 ∃ D st,P5 C run P φ ops s.next s.env s.heap (s.next+ops.size) D st∧r.1=st ops.size:=by
 obtain ⟨s',ds⟩:=r
 obtain ⟨st,ds1,h1,h2,h3,h4,h5⟩:=Oz _ _ _ _ _ _ hr
 simp only [List.nil_append] at h1
 subst h1
 simp only [List.length_map,Array.length_toList] at h2 h3 h4
 have at_:∀ (k:Nat) (o:Oper),ops[k]?=some o→(ops.toList.map (bV P φ ops))[k]?=some (bV P φ ops o):=by
  intro k o hk
  rw [List.getElem?_map,Array.getElem?_toList,hk];rfl
 have gd:∀ (k:Nat) (o:Oper),ops[k]?=some o→(ops.toList.map (bV P φ ops)).getD k default=bV P φ ops o:=by
  intro k o hk
  rw [List.getD_eq_getElem?_getD,at_ k o hk];rfl
 have each:∀ (k:Nat) (o:Oper),ops[k]?=some o→ds[k]?=some (ds.getD k ⟨.undef,[],0,false,[],[]⟩)∧iZ C run (bV P φ ops o) (s.next+k) (st k).env (st k).heap (st k).next=some (ds.getD k ⟨.undef,[],0,false,[],[]⟩) ∧
  st (k+1)=⟨dL (st k).env o.dst (ds.getD k ⟨.undef,[],0,false,[],[]⟩).v,(ds.getD k ⟨.undef,[],0,false,[],[]⟩).h,(ds.getD k ⟨.undef,[],0,false,[],[]⟩).n⟩:=by
  intro k o hk
  obtain ⟨d,q1,q2,q3⟩:=h5 k _ (at_ k o hk)
  have e:ds.getD k ⟨.undef,[],0,false,[],[]⟩=d:=by rw [List.getD_eq_getElem?_getD,q1];rfl
  rw [e]
  rw [uX] at q3
  exact ⟨q1,q2,q3⟩
 have opAt:∀ k,k < ops.size→ops[k]?=some ops[k]!:=by
  intro k hk
  rw [getElem!_pos ops k hk];exact Array.getElem?_eq_getElem hk
 refine ⟨fun k=>ds.getD k ⟨.undef,[],0,false,[],[]⟩,st,⟨hE,?_,fun k o hk=>(each k o hk).2.1,?_,?_,?_⟩,?_⟩
 · intro i j a b hi hj hij hb
   have hjl:j < (ancestors ops.toList).length:=by rw [Bh];simpa using (Array.getElem?_eq_some_iff.1 hj).1
   have hm:=Ir hij hjl hb
   have hsl:=List.all_eq_true.1 hu _ hm
   simp only [gd i a hi,gd j b hj] at hsl
   refine Apart.of hsl ?_
   obtain ⟨sa1,sa2⟩:=GX (each i a hi).2.1
   obtain ⟨sb1,sb2⟩:=GX (each j b hj).2.1
   cases hmc:tV (bV P φ ops a).op (bV P φ ops b).op with
   | true =>
    left
    have:=List.all_eq_true.1 hap (i,j) (List.mem_filter.2 ⟨hm,by simp only [gd i a hi,gd j b hj];exact hmc⟩)
    simp only [apart,(each i a hi).1,(each j b hj).1,Bool.not_eq_true'] at this
    exact this
   | false =>
    right
    unfold tV at hmc
    cases ta:touches (bV P φ ops a).op with
    | false=>exact .inl (sa2 ta)
    | true =>
     cases tb:touches (bV P φ ops b).op with
     | false=>exact .inr (.inl (sb2 tb))
     | true =>
      simp only [ta,tb,Bool.and_self,Bool.true_and,Bool.or_eq_false_iff] at hmc
      obtain ⟨⟨⟨c1,c2⟩,c3⟩,c4⟩:=hmc
      obtain ⟨x1,x2⟩:=sa1 c1 c3
      obtain ⟨y1,y2⟩:=sb1 c2 c4
      exact .inr (.inr ⟨x1,x2,y1,y2⟩)
 · intro k sl
   induction k with
   | zero=>intro _;rw [h3];rfl
   | succ k ih =>
    intro hk
    have ho:=opAt k (by omega)
    rw [(each k _ ho).2.2,Hq]
    simp only [oD,true_and,ho,Option.bind_some]
    split
    · rfl
    · exact ih (by omega)
 · intro k b
   induction k with
   | zero=>intro _;rw [h3];rfl
   | succ k ih =>
    intro hk
    have ho:=opAt k (by omega)
    rw [(each k _ ho).2.2]
    simp only [jm,true_and]
    split
    · rfl
    · rename_i hno
      simp only [not_or,Bool.not_eq_true] at hno
      obtain ⟨u,q1,_,_⟩:=xK (each k _ ho).2.1 hno.1
      rw [← ih (by omega),q1]
      rw [q1] at hno
      exact kH u _ hno.2
 · intro k
   induction k with
   | zero=>intro _;rw [h3];simp [nAt]
   | succ k ih =>
    intro hk
    have ho:=opAt k (by omega)
    rw [(each k _ ho).2.2]
    simp only [nAt,true_and]
    split
    · rfl
    · rename_i hno
      simp only [Az,ho,Bool.not_eq_true,Bool.or_eq_false_iff] at hno
      obtain ⟨u,_,q1,_⟩:=xK (each k _ ho).2.1 hno.1
      rw [q1 hno.2]
      exact ih (by omega)
 · exact h4.symm
def AtL (P:Program) (φ:FuncId→Option Nat) (ψ:Nat→FuncId) (N:Nat) (w0 w1:World) (S:Nat→Prop) (m:Nat→Nat × Nat) (A:Nat→Prop) (ops:Array Oper) (base:Nat) (e0:Env) (h0:Heap) (n0:Nat) (D:Nat→Did) (a0:Act) (T:Nat→Prop) (L:Nat→Bool) (a:Act) (w:World):Prop :=
 jW T a0 a∧∃ S' m' A' e h n,Inv ψ N w0 w S' m' A' h∧jq ψ w S' m' A' e a.tmps∧(∀ s,get e s=oD e0 (fun k=>(ops[k]?).bind (·.dst)) D L s ops.size)∧(∀ b,get h b=jm h0 D L b ops.size) ∧
  n=nAt n0 (Az P φ ops D) D L ops.size∧a.tmps.size=a0.tmps.size∧a.defers=a0.defers∧Le w1 S m A w S' m' A'∧(∀ c,c < N→S' c→S c)∧base+ops.size≤n ∧
  ∀ b,A' b→A b∨(∃ k,k < ops.size∧L k=true∧b=base+k)∨(base+ops.size≤b∧b < n)
theorem RP {ops:Array Oper} {base:Nat} {e0:Env} {h0:Heap} {n0:Nat} {D:Nat→Did} {st:Nat→St} (dr:P5 C run P φ ops base e0 h0 n0 D st) (hr:mY P ψ run) (ids:∀ f g,φ f=some g→ψ g=f)
 {w1:World} {a0:Act} (hA0:∀ b,A b→b < base) (hd:∀ o ∈ ops.toList,∀ x,o.dst=some x→x < a0.tmps.size) {T:Nat→Prop} (hT:∀ o ∈ ops.toList,∀ x,o.dst=some x→¬ T x) {L M:Nat→Bool} {i:Nat} {o:Oper} (hi:ops[i]?=some o) (hL:L i=false) (hM:∀ k,M k=(decide (k=i)||L k))
 (ready:∀ e ∈ o.after.toList,Region.binds .any e=true→L e.on=true) (clos:∀ k,k < ops.size→L k=true→∀ j,((ancestors ops.toList).getD k 0).testBit j=true→L j=true)
 {Q:Exit→Act→World→Prop} {K:Act→World→Prop} {a:Act} {w:World} (hat:AtL P φ ψ N w0 w1 S m A ops base e0 h0 n0 D a0 T L a w)
 (hK:∀ a' w',AtL P φ ψ N w0 w1 S m A ops base e0 h0 n0 D a0 T M a' w'→K a' w'):wpOp P ops Q i K a w:=by
 obtain ⟨hkt,S1,m1,A1,e,h,n,r1,r2,r3,r4,r5,r6,r7,r8,r9,r10,r11⟩:=hat
 have hil:i < ops.size:=(Array.getElem?_eq_some_iff.1 hi).1
 have hil':ops.toList[i]?=some o:=by simpa using hi
 have anci:∀ j,((ancestors ops.toList).getD i 0).testBit j=true→L j=true:=by
  intro j hj
  obtain ⟨ed,q1,q2,q3,q4⟩:=xk dr.edges hil' hj
  have q5:=ready ed q1 q2
  rcases q4 with q | q
  · rw [← q];exact q5
  · exact clos ed.on (by omega) q5 j q
 have differ:∀ k,k < ops.size→L k=decide (k < i)∨(k≠i∧∃ o',ops[k]?=some o'∧Apart (bV P φ ops o') (bV P φ ops o) (D k) (D i)):=by
  intro k hk
  have hok:ops[k]?=some ops[k]:=Array.getElem?_eq_getElem hk
  rcases Nat.lt_trichotomy k i with q | q | q
  · cases hLk:L k with
    | true=>exact .inl (by simp [q])
    | false =>
     refine .inr ⟨by omega,_,hok,dr.ap k i _ _ hok hi q ?_⟩
     cases hb:((ancestors ops.toList).getD i 0).testBit k with
     | false=>rfl
     | true=>rw [anci k hb] at hLk;cases hLk
  · subst q;exact .inl (by rw [hL];simp)
  · cases hLk:L k with
    | false=>exact .inl (by simp;omega)
    | true =>
     refine .inr ⟨by omega,_,hok,(dr.ap i k _ _ hi hok q ?_).symm⟩
     cases hb:((ancestors ops.toList).getD k 0).testBit i with
     | false=>rfl
     | true=>rw [clos k hk hLk i hb] at hL;cases hL
 have later:∀ k,k < ops.size→i < k→L k=true→∃ o',ops[k]?=some o'∧Apart (bV P φ ops o') (bV P φ ops o) (D k) (D i):=by
  intro k hk hik hLk
  rcases differ k hk with q | ⟨_,q⟩
  · rw [hLk] at q
    have:k < i:=of_decide_eq_true q.symm
    omega
  · exact q
 have hsame:eU (bV P φ ops o).slots (st i).env e:=by
  intro s hs
  rw [dr.env i s (by omega),r3 s,← WI ops.size (by omega)]
  refine (pJ ops.size fun k hk=>?_).symm
  rcases differ k hk with q | ⟨_,o',q1,q2⟩
  · exact .inl q
  · refine .inr fun hdk=>?_
    rw [q1] at hdk
    exact q2.s1 s (by rw [uX];exact hdk) hs
 have hheap:∀ b,((D i).bar=false→b ∈ (D i).rd)→get (st i).heap b=get h b:=by
  intro b hb
  rw [dr.heap i b (by omega),r4 b,← TV ops.size (by omega)]
  refine (nH ops.size fun k hk=>?_).symm
  rcases differ k hk with q | ⟨_,o',q1,q2⟩
  · exact .inl q
  · refine .inr ?_
    cases hbar:(D i).bar with
    | false=>exact q2.rd hbar b (hb hbar)
    | true=>obtain ⟨x1,x2⟩:=q2.bar hbar;exact ⟨x1,by rw [x2];intro hx;cases hx⟩
 have hnid:¬ A1 (base+i):=by
  intro hb
  rcases r11 _ hb with q | ⟨k,q1,q2,q3⟩ | ⟨q1,q2⟩
  · have:=hA0 _ q;omega
  · have:k=i:=by omega
    rw [this,hL] at q2;cases q2
  · omega
 have hA1:∀ b,A1 b→b < n:=by
  intro b hb
  rcases r11 b hb with q | ⟨k,q1,q2,q3⟩ | ⟨q1,q2⟩
  · have:=hA0 _ q;omega
  · omega
  · exact q2
 have barCall:∀ k o',ops[k]?=some o'→(D k).bar=true→qZ (bV P φ ops o').op=true:=fun k o' hk hb=>abj (dr.did k o' hk) hb
 have mvl:∀ k,k < ops.size→(∃ o',ops[k]?=some o'∧Apart (bV P φ ops o') (bV P φ ops o) (D k) (D i))→Az P φ ops D i=true→Az P φ ops D k=false:=by
  rintro k hk ⟨o',x1,x2⟩ hx
  simp only [Az,hi,Bool.or_eq_true] at hx
  simp only [Az,x1,Bool.or_eq_false_iff]
  rcases hx with hx | hx
  · refine ⟨(x2.bar hx).1,?_⟩
    cases q:dD (bV P φ ops o').op with
    | false=>rfl
    | true=>have:=x2.dp q;rw [barCall i o hi hx] at this;cases this
  · have hc:=x2.dp' hx
    refine ⟨?_,?_⟩
    · cases q:(D k).bar with
      | false=>rfl
      | true=>rw [barCall k o' x1 q] at hc;cases hc
    · cases q:dD (bV P φ ops o').op with
      | false=>rfl
      | true=>rw [IB q] at hc;cases hc
 have hn:Az P φ ops D i=true→n=(st i).next:=by
  intro hmv
  rw [r5,dr.next i (by omega),← adz ops.size (by omega)]
  refine vk ops.size fun k hk=>?_
  rcases differ k hk with q | ⟨_,q⟩
  · exact .inl q
  · exact .inr (mvl k hk q hmv)
 have fin:∀ (d:Did),d.v=(D i).v→(∀ b,get d.h b=if (D i).bar=true∨b ∈ (D i).wr then get (D i).h b else jm h0 D L b ops.size)→d.n=(if Az P φ ops D i=true then (D i).n else n) →
  ∀ cv w',VJ ψ N w0 w S1 m1 A1 (base+i) n w' cv d→K (a.put o.dst cv) w':=by
  rintro d ev eh en cv w' ⟨S2,m2,A2,q1,q2,q3,q4,q5,q6⟩
  refine hK _ _ ⟨hkt.trans (jW.put (hT o (List.mem_of_getElem? hil'))),S2,m2,A2,dL e o.dst d.v,d.h,d.n,q2,(r2.mono q3).dL (fun x hx=>by rw [r6];exact hd o (List.mem_of_getElem? hil') x hx) q1,fun s=>?_,fun b=>?_,?_,(Act.Ib ..).trans r6,(Act.CG ..).trans r7,r8.trans q3,fun c hc hs=>r9 c hc (q4 c hc hs),by omega,fun b hb=>?_⟩
  · rw [Hq,VN (s:=s) hL hM ops.size hil,ev,r3 s,hi]
    · rfl
    · intro k hk hik hLk hdi hdk
      obtain ⟨o',x1,x2⟩:=later k hk hik hLk
      rw [hi] at hdi
      rw [x1] at hdk
      exact x2.s2 s (by rw [uX];exact hdk) (by rw [uX];exact hdi)
  · rw [eh b,Td (b:=b) hL hM ops.size hil]
    intro k hk hik hLk hx hy
    obtain ⟨o',x1,x2⟩:=later k hk hik hLk
    cases hbar:(D i).bar with
    | true =>
     obtain ⟨y1,y2⟩:=x2.bar hbar
     rw [y1,y2] at hy
     rcases hy with hy | hy <;> cases hy
    | false =>
     rw [hbar] at hx
     have hx:=hx.resolve_left (by simp)
     obtain ⟨y1,y2⟩:=x2.wr hbar b hx
     rw [y1] at hy
     exact y2 (hy.resolve_left (by simp))
  · rw [en,ae8 hL hM ops.size hil,r5]
    intro k hk hik hLk hx
    exact mvl k hk (later k hk hik hLk) hx
  · rcases q6 b hb with z | z | ⟨z1,z2⟩
    · rcases r11 b z with y | ⟨k,y1,y2,y3⟩ | ⟨y1,y2⟩
      · exact .inl y
      · exact .inr (.inl ⟨k,y1,by rw [hM,y2];simp,y3⟩)
      · exact .inr (.inr ⟨y1,by omega⟩)
    · exact .inr (.inl ⟨i,hil,by rw [hM];simp,z⟩)
    · exact .inr (.inr ⟨by omega,z2⟩)
 cases hbar:(D i).bar with
 | false =>
  obtain ⟨u,e1,e0,e2⟩:=xK (dr.did i o hi) hbar
  have hmvi:Az P φ ops D i=dD (bV P φ ops o).op:=by simp only [Az,hbar,hi,Bool.false_or]
  have hev:=e2 e h n hsame (fun b hb=>hheap b fun _=>hb) (fun q=>hn (by rw [hmvi];exact q))
  refine aah hr hi hev ⟨r1,r2,ids⟩ hA1 hnid fun cv w' hout=>fin ⟨(D i).v,aQ h u,if dD (bV P φ ops o).op=true then (D i).n else n,false,(D i).rd,u.map (·.1)⟩ rfl (fun b=>?_) ?_ cv w' hout
  · have hwr:(D i).wr=u.map (·.1):=by rw [e1]
    have hh:(D i).h=aQ (st i).heap u:=by rw [e1]
    simp only [hbar,Bool.false_eq_true,false_or,hwr,hh]
    by_cases hb:b ∈ u.map (·.1)
    · rw [if_pos hb];exact Iq u _ _ hb
    · rw [if_neg hb,← r4 b];exact kH u _ hb
  · rw [hmvi]
 | true =>
  have hmvi:Az P φ ops D i=true:=by simp only [Az,hbar,Bool.true_or]
  have hev:=dr.did i o hi
  rw [Zo hsame,← hn hmvi] at hev
  have hi1:Inv ψ N w0 w S1 m1 A1 (st i).heap:=r1.ext fun b=>hheap b fun hx=>by rw [hbar] at hx;cases hx
  refine aah hr hi hev ⟨hi1,r2,ids⟩ hA1 hnid fun cv w' hout=>fin (D i) rfl (fun b=>?_) ?_ cv w' hout
  · rw [if_pos (.inl hbar)]
  · rw [if_pos hmvi]
end
end Go.Pav
end
section
set_option linter.unusedSimpArgs false
set_option linter.unusedVariables false
namespace Go.Pav
open Go
section
variable {P:Program} {φ:FuncId→Option Nat} {ψ:Nat→FuncId} {C:Prog} {run:Run} {N:Nat} {w0 w:World} {S:Nat→Prop} {m:Nat→Nat × Nat} {A:Nat→Prop} {a:Act}
theorem getD_in {l:Array Bool} {k:Nat} (hk:k < l.size) (d d':Bool):l.getD k d=l.getD k d':=by
 simp [Array.getD,hk]
theorem Py {ops:Array Oper} {base:Nat} {e0:Env} {h0:Heap} {n0:Nat} {D:Nat→Did} {st:Nat→St} (dr:P5 C run P φ ops base e0 h0 n0 D st) (hr:mY P ψ run) (ids:∀ f g,φ f=some g→ψ g=f)
 {w1:World} {a0:Act} (hA0:∀ b,A b→b < base) (hd:∀ o ∈ ops.toList,∀ x,o.dst=some x→x < a0.tmps.size) {T:Nat→Prop} (hT:∀ o ∈ ops.toList,∀ x,o.dst=some x→¬ T x) {Q:Exit→Act→World→Prop}
 (hQ:∀ a' w',AtL P φ ψ N w0 w1 S m A ops base e0 h0 n0 D a0 T (fun _=>true) a' w'→Q .normal a' w') :
 ∀ (fuel:Nat) (listed:Array Bool) (un:List Nat) (a:Act) (w:World),listed.size=ops.size→(∀ k,k < ops.size→listed.getD k false=false→k ∈ un)→un.length≤fuel →
  (∀ k,k < ops.size→listed.getD k false=true→∀ j,((ancestors ops.toList).getD k 0).testBit j=true→listed.getD j false=true) →
  AtL P φ ψ N w0 w1 S m A ops base e0 h0 n0 D a0 T (fun k=>listed.getD k false) a w→wpAny P .any ops Q fuel listed a w:=by
 have full:∀ (listed:Array Bool) (a:Act) (w:World),listed.size=ops.size→Region.ready .any ops listed=[]→AtL P φ ψ N w0 w1 S m A ops base e0 h0 n0 D a0 T (fun k=>listed.getD k false) a w→Q .normal a w:=by
  intro listed a w hsz hready hat
  have all:∀ k,k < ops.size→listed.getD k false=true:=by
   intro k
   induction k using Nat.strongRecOn with
   | _ k ih =>
    intro hk
    cases hl:listed.getD k false with
    | true=>rfl
    | false =>
     have hok:ops[k]?=some ops[k]:=Array.getElem?_eq_getElem hk
     have:k ∈ Region.ready .any ops listed:=by
      refine mem_ready.2 ⟨by rw [getD_in (by omega) true false];exact hl,ops[k],hok,fun e he hb=>?_⟩
      have:=H6 ops.toList 0 dr.edges k ops[k] (by rw [Array.getElem?_toList];exact hok) e (Array.mem_toList_iff.2 he) hb
      exact ih e.on (by omega) (by omega)
     rw [hready] at this
     cases this
  refine hQ a w ?_
  obtain ⟨hkt,S1,m1,A1,e,h,n,r1,r2,r3,r4,r5,r6,r7,r8,r9,r10,r11⟩:=hat
  refine ⟨hkt,S1,m1,A1,e,h,n,r1,r2,fun s=>?_,fun b=>?_,?_,r6,r7,r8,r9,r10,fun b hb=>?_⟩
  · rw [r3 s];exact pJ _ fun k hk=>.inl (all k hk)
  · rw [r4 b];exact nH _ fun k hk=>.inl (all k hk)
  · rw [r5];exact vk _ fun k hk=>.inl (all k hk)
  · rcases r11 b hb with q | ⟨k,q1,_,q3⟩ | q
    · exact .inl q
    · exact .inr (.inl ⟨k,q1,rfl,q3⟩)
    · exact .inr (.inr q)
 intro fuel
 induction fuel with
 | zero =>
  intro listed un a w hsz hun hlen _ hat
  have hun0:un=[]:=List.length_eq_zero_iff.1 (by omega)
  have:Region.ready .any ops listed=[]:=by
   rw [List.eq_nil_iff_forall_not_mem]
   intro k hk
   obtain ⟨q1,o,q2,_⟩:=mem_ready.1 hk
   have hkl:k < ops.size:=(Array.getElem?_eq_some_iff.1 q2).1
   have:=hun k hkl (by rw [getD_in (by omega) false true];exact q1)
   rw [hun0] at this;cases this
  exact ⟨this,full listed a w hsz this hat⟩
 | succ fuel ih =>
  intro listed un a w hsz hun hlen clos hat
  refine ⟨fun hready=>full listed a w hsz hready hat,fun i hi=>?_⟩
  obtain ⟨q1,o,q2,q3⟩:=mem_ready.1 hi
  have hil:i < ops.size:=(Array.getElem?_eq_some_iff.1 q2).1
  have hLi:listed.getD i false=false:=by rw [getD_in (by omega) false true];exact q1
  have hM:∀ k,(listed.setIfInBounds i true).getD k false=(decide (k=i)||listed.getD k false):=by
   intro k
   simp only [Array.getD_eq_getD_getElem?]
   by_cases e:k=i
   · subst e
     have:k < listed.size:=by omega
     simp [this]
   · rw [Array.getElem?_setIfInBounds_ne (Ne.symm e)]
     simp [e]
  have ready:∀ e ∈ o.after.toList,Region.binds .any e=true→listed.getD e.on false=true:=fun e he hb=>q3 e (by simpa using he) hb
  refine RP (L:=fun k=>listed.getD k false) (M:=fun k=>(listed.setIfInBounds i true).getD k false) dr hr ids hA0 hd hT q2 hLi hM ready clos hat fun a' w' hat'=>?_
  refine ih (listed.setIfInBounds i true) (un.erase i) a' w' (by simpa using hsz) (fun k hk hl=>?_) ?_ (fun k hk hl j hj=>?_) hat'
  · rw [hM] at hl
    simp only [Bool.or_eq_false_iff,decide_eq_false_iff_not] at hl
    exact (List.mem_erase_of_ne hl.1).2 (hun k hk hl.2)
  · rw [List.length_erase_of_mem (hun i hil hLi)];omega
  · rw [hM] at hl ⊢
    simp only [Bool.or_eq_true,decide_eq_true_eq] at hl ⊢
    right
    rcases hl with rfl | hl
    · obtain ⟨ed,x1,x2,x3,x4⟩:=xk dr.edges (by simpa using q2) hj
      have x5:=ready ed x1 x2
      rcases x4 with x | x
      · rw [← x];exact x5
      · exact clos ed.on (by omega) x5 j x
    · exact clos k hk hl j hj
theorem aew (ids:∀ f g,φ f=some g→ψ g=f) (mixed:P.follows .mixedOrders=true) (hr:mY P ψ run):SV P φ ψ C run:=by
 intro nt id ops un live T hT hfit s r hev hap N w0 w S m A a Q i env hA hsz hQ
 cases hfit with
 | draw _ _ _ hd hE hu =>
  obtain ⟨D,st,dr,hend⟩:=P5.make (C:=C) (run:=run) (P:=P) (φ:=φ) hE hu hev hap
  refine wp_region_any mixed ?_
  have hT':∀ o ∈ ops.toList,∀ x,o.dst=some x→¬ T x:=by
   intro o ho x hx hTx
   have:=hT x hTx
   simp only [fO,List.any_eq_false] at this
   have:=this o ho
   rw [hx] at this
   simp at this
  have le:Le w S m A { w with drawn:=w.drawn+1 } S m A:=Le.vJ rfl
  have i':Inv ψ N w0 { w with drawn:=w.drawn+1 } S m A s.heap:=i.vJ rfl rfl rfl
  have none_:∀ k,(Array.replicate ops.size false).getD k false=false:=by
   intro k
   rw [Array.getD_eq_getD_getElem?,Array.getElem?_replicate]
   split <;> rfl
  refine Py (N:=N) (w0:=w0) (S:=S) (m:=m) (A:=A) (w1:=w) (a0:=a) dr hr ids hA (fun o ho x hx=>by rw [hsz];exact hd o ho x hx) hT' ?_ ops.size _ (List.range ops.size) a _ (by simp) (fun k hk _=>List.mem_range.2 hk) (by simp) (fun k _ hl=>by rw [none_] at hl;cases hl) ?_
  · rintro a' w' ⟨hkt,S1,m1,A1,e,h,n,r1,r2,r3,r4,r5,r6,r7,r8,r9,r10,r11⟩
    refine hQ a' w' ⟨hkt,S1,m1,A1,r1.ext fun b=>?_,r2.ext fun sl=>?_,r6,r7,r8,r9,?_,fun b hb=>?_⟩
    · rw [hend,dr.heap ops.size b (Nat.le_refl _),r4 b]
    · rw [hend,dr.env ops.size sl (Nat.le_refl _),r3 sl]
    · rw [hend,dr.next ops.size (Nat.le_refl _),← r5];omega
    · rw [hend,dr.next ops.size (Nat.le_refl _),← r5]
      rcases r11 b hb with q | ⟨k,q1,_,q3⟩ | ⟨q1,q2⟩
      · exact .inl q
      · exact .inr ⟨by omega,by omega⟩
      · exact .inr ⟨by omega,q2⟩
  · have e0:(fun k=>(Array.replicate ops.size false).getD k false)=fun _=>false:=funext none_
    rw [e0]
    refine ⟨jW.refl _ _,S,m,A,s.env,s.heap,s.next+ops.size,i',env.mono le,fun sl=>?_,fun b=>?_,?_,rfl,rfl,le,fun _ _ h=>h,Nat.le_refl _,fun b hb=>.inl hb⟩
    · have:∀ n,oD s.env (fun k=>(ops[k]?).bind (·.dst)) D (fun _=>false) sl n=get s.env sl:=by
       intro n;induction n with
       | zero=>rfl
       | succ n ih=>simp only [oD,Bool.false_eq_true,false_and,if_false];exact ih
      exact (this _).symm
    · have:∀ n,jm s.heap D (fun _=>false) b n=get s.heap b:=by
       intro n;induction n with
       | zero=>rfl
       | succ n ih=>simp only [jm,Bool.false_eq_true,false_and,if_false];exact ih
      exact (this _).symm
    · have:∀ n,nAt (s.next+ops.size) (Az P φ ops D) D (fun _=>false) n=s.next+ops.size:=by
       intro n;induction n with
       | zero=>rfl
       | succ n ih=>simp only [nAt,Bool.false_eq_true,false_and,if_false];exact ih
      exact (this _).symm
theorem agw {Φ:Nat→FuncId→Option Nat} (hL:Linked P Φ ψ C) (fuel:Nat):mY P ψ (Pav.run C fuel) :=
 Gn hL (agF hL (fun g _ hr=>aew (hL.ids g) hL.mixed hr) fuel)
theorem abS {Φ:Nat→FuncId→Option Nat} (hL:Linked P Φ ψ C) {fuel g:Nat} {args:List AV} {v:AV} (hc:afH C fuel g args=some v) {w:World} {S:Nat→Prop} {m:Nat→Nat × Nat} {cargs:Array Value}
 (hS:∀ c,S c→c < w.heap.size) (hs:cargs.size=args.length) (hv:∀ (j:Nat) (x:AV),args[j]?=some x→VR ψ w S m (fun _=>False) x (cargs.getD j Go.undef)) :
 Calls P (ψ g) cargs w fun e w'=>∃ cv S' m',e=.returned cv∧VR ψ w' S' m' (fun _=>False) v cv∧(∀ c,c < w.heap.size→w'.heap[c]?=w.heap[c]?)∧w.heap.size≤w'.heap.size∧w'.os=w.os∧w'.output=w.output:=by
 obtain ⟨⟨v0,h0,n0⟩,hrun,hfv⟩:=ay hc
 have hi0:Inv ψ w.heap.size w w S m (fun _=>False) ([]:Heap) :=
  ⟨fun b o hb=>by simp [get] at hb,fun b o hb=>by simp [get] at hb,fun b o hb=>by simp [get] at hb,fun b o hb=>by simp [get] at hb,fun b o b' o' hb=>by simp [get] at hb,
   hS,Nat.le_refl _,fun _ _=>rfl,rfl,rfl⟩
 refine Calls.mono ((agw hL fuel g args [] 0 v0 h0 n0 hrun).2 w.heap.size w w S m (fun _=>False) cargs hi0 (fun b hb=>hb.elim) hs hv).1 ?_
 rintro e w' ⟨cv,rfl,S',m',A',hvr,hinv,hle,hsub,_,_⟩
 refine ⟨cv,fun c=>S' c∨∃ b ∈ reach h0 aF v0,c=(m' b).1,m',rfl,?_,hinv.old,hinv.size,hinv.os,hinv.out⟩
 exact xH hinv.obj (fun b hb=>.inl hb) aF v0 v _ hfv hvr fun b hb=>.inr ⟨b,hb,rfl⟩
end
end Go.Pav
end
section
set_option linter.unusedSimpArgs false
set_option linter.unusedVariables false
namespace Go.Pw
open Go Go.Pav
def bC {α β:Type} (R:α→β→Prop) (l:List α) (l':List β):Prop:=l.length=l'.length∧∀ (j:Nat) (x:α) (x':β),l[j]?=some x→l'[j]?=some x'→R x x'
namespace bC
variable {α β:Type} {R R':α→β→Prop} {l m:List α} {l' m':List β}
theorem nil:bC R [] []:=⟨rfl,fun j x x' h=>by simp at h⟩
theorem cons {a:α} {b:β} (h:R a b) (t:bC R l l'):bC R (a::l) (b::l'):=by
 refine ⟨by simp [t.1],fun j x x' h1 h2=>?_⟩
 cases j with
 | zero=>simp at h1 h2;subst h1;subst h2;exact h
 | succ j=>exact t.2 j x x' (by simpa using h1) (by simpa using h2)
theorem Yk {a:α} {b:β} (t:bC R (a::l) (b::l')):R a b∧bC R l l':=by
 refine ⟨t.2 0 a b (by simp) (by simp),by simpa using t.1,fun j x x' h1 h2=>t.2 (j+1) x x' (by simpa using h1) (by simpa using h2)⟩
theorem dX (t:bC R [] l'):l'=[]:=List.length_eq_zero_iff.1 t.1.symm
theorem dF {a:α} (t:bC R (a::l) l'):∃ b r,l'=b::r∧R a b∧bC R l r:=by
 cases l' with
 | nil=>simp [bC] at t
 | cons b r=>exact ⟨b,r,rfl,t.Yk.1,t.Yk.2⟩
theorem mono (h:bC R l l') (hr:∀ x x',x ∈ l→R x x'→R' x x'):bC R' l l':=⟨h.1,fun j x x' h1 h2=>hr _ _ (List.mem_of_getElem? h1) (h.2 j x x' h1 h2)⟩
theorem get (h:bC R l l') {j:Nat} {x:α} (hj:l[j]?=some x):∃ x',l'[j]?=some x'∧R x x':=by
 have hlt:j < l'.length:=by rw [← h.1];exact (List.getElem?_eq_some_iff.1 hj).1
 exact ⟨l'[j],List.getElem?_eq_getElem hlt,h.2 j x _ hj (List.getElem?_eq_getElem hlt)⟩
theorem get' (h:bC R l l') {j:Nat} {x':β} (hj:l'[j]?=some x'):∃ x,l[j]?=some x∧R x x':=by
 have hlt:j < l.length:=by rw [h.1];exact (List.getElem?_eq_some_iff.1 hj).1
 exact ⟨l[j],List.getElem?_eq_getElem hlt,h.2 j _ x' (List.getElem?_eq_getElem hlt) hj⟩
theorem take (h:bC R l l') (n:Nat):bC R (l.take n) (l'.take n):=by
 refine ⟨by simp [h.1],fun j x x' h1 h2=>?_⟩
 rw [List.getElem?_take] at h1 h2
 split at h1
 · rename_i hj;rw [if_pos hj] at h2;exact h.2 j x x' h1 h2
 · cases h1
theorem drop (h:bC R l l') (n:Nat):bC R (l.drop n) (l'.drop n):=by
 refine ⟨by simp [h.1],fun j x x' h1 h2=>?_⟩
 rw [List.getElem?_drop] at h1 h2
 exact h.2 _ x x' h1 h2
theorem append (h:bC R l l') (k:bC R m m'):bC R (l++m) (l'++m'):=by
 refine ⟨by simp [h.1,k.1],fun j x x' h1 h2=>?_⟩
 rw [List.getElem?_append] at h1 h2
 split at h1
 · rename_i hj;rw [if_pos (by rw [← h.1];exact hj)] at h2;exact h.2 j x x' h1 h2
 · rename_i hj;rw [if_neg (by rw [← h.1];exact hj),← h.1] at h2;exact k.2 _ x x' h1 h2
theorem set (h:bC R l l') {n:Nat} {a:α} {b:β} (hab:R a b):bC R (l.set n a) (l'.set n b):=by
 refine ⟨by simp [h.1],fun j x x' h1 h2=>?_⟩
 rw [List.getElem?_set] at h1 h2
 split at h1
 · rename_i hj
   rw [if_pos hj] at h2
   split at h1
   · cases h1
     split at h2
     · cases h2;exact hab
     · cases h2
   · cases h1
 · rename_i hj;rw [if_neg hj] at h2;exact h.2 j x x' h1 h2
theorem replicate {a:α} {b:β} (hab:R a b) (n:Nat):bC R (List.replicate n a) (List.replicate n b):=by
 refine ⟨by simp,fun j x x' h1 h2=>?_⟩
 rw [List.getElem?_replicate] at h1 h2
 split at h1
 · rename_i hj;rw [if_pos hj] at h2;cases h1;cases h2;exact hab
 · cases h1
theorem map {γ δ:Type} {T:γ→δ→Prop} {f:α→γ} {g:β→δ} (h:bC R l l') (hf:∀ x x',R x x'→T (f x) (g x')):bC T (l.map f) (l'.map g):=by
 refine ⟨by simp [h.1],fun j x x' h1 h2=>?_⟩
 rw [List.getElem?_map] at h1 h2
 cases h3:l[j]? with
 | none=>rw [h3] at h1;cases h1
 | some a =>
  cases h4:l'[j]? with
  | none=>rw [h4] at h2;cases h2
  | some b=>rw [h3] at h1;rw [h4] at h2;cases h1;cases h2;exact hf _ _ (h.2 j a b h3 h4)
end bC
inductive VW (ρ:Nat→Nat) (V:Nat→Prop):(Nat→Prop)→AV→AV→Prop
 | undef {A:Nat→Prop} (v:AV):VW ρ V A .undef v
 | bool {A:Nat→Prop} (b:Bool):VW ρ V A (.bool b) (.bool b)
 | int {A:Nat→Prop} (k:IntKind) (n:Int):VW ρ V A (.int k n) (.int k n)
 | str {A:Nat→Prop} (s:List UInt8):VW ρ V A (.str s) (.str s)
 | dY {A:Nat→Prop}:VW ρ V A .dY .dY
 | bH {A:Nat→Prop}:VW ρ V A .bH .bH
 | dS {A:Nat→Prop}:VW ρ V A .dS .dS
 | dV {A:Nat→Prop}:VW ρ V A .dV .dV
 | kJ {A:Nat→Prop} (z:Nat) (ex:Bool):VW ρ V A (.ro z [] ex) .bH
 | ro {A:Nat→Prop} (z:Nat) (es es':List (List AV)) (ex ex':Bool) (hc:∀ e ∈ es,∀ x ∈ e,isC x=true) (hl:es.length=es'.length) (hx:ex=true→ex'=true)
  (he:∀ (i:Nat) (e e':List AV),es[i]?=some e→es'[i]?=some e'→e.length=e'.length)
  (hr:∀ (i:Nat) (e e':List AV) (j:Nat) (x x':AV),es[i]?=some e→es'[i]?=some e'→e[j]?=some x→e'[j]?=some x'→VW ρ V (fun _=>False) x x') :
  VW ρ V A (.ro z es ex) (.ro z es' ex')
 | rop {A:Nat→Prop} (cs cs':List AV) (hl:cs.length=cs'.length) (hr:∀ (j:Nat) (x x':AV),cs[j]?=some x→cs'[j]?=some x'→VW ρ V (fun _=>False) x x') :
  VW ρ V A (.rop cs) (.rop cs')
 | ptr {A:Nat→Prop} (b i o:Nat) (hA:A b) (hV:¬ V b):VW ρ V A (.ptr b i o) (.ptr (ρ b) i o)
 | sl {A:Nat→Prop} (b z i len cap:Nat) (ex ex':Bool) (hA:A b) (hV:¬ V b) (hx:ex=true→ex'=true):VW ρ V A (.sl b z i len cap ex) (.sl (ρ b) z i len cap ex')
 | slv {A:Nat→Prop} (b z:Nat) (ex:Bool) (v:AV) (hA:A b) (hV:V b) (hv:v=.bH∨v=.ro z [] true):VW ρ V A (.sl b z 0 0 0 ex) v
 | map {A:Nat→Prop} (b:Nat) (hA:A b) (hV:¬ V b):VW ρ V A (.map b) (.map (ρ b))
 | fn {A:Nat→Prop} (f:Nat) (cs cs':List AV) (hl:cs.length=cs'.length) (hr:∀ (j:Nat) (x x':AV),cs[j]?=some x→cs'[j]?=some x'→VW ρ V A x x'):VW ρ V A (.fn f cs) (.fn f cs')
 | agg {A:Nat→Prop} (cs cs':List AV) (hl:cs.length=cs'.length) (hr:∀ (j:Nat) (x x':AV),cs[j]?=some x→cs'[j]?=some x'→VW ρ V A x x'):VW ρ V A (.agg cs) (.agg cs')
 | tup {A:Nat→Prop} (cs cs':List AV) (hl:cs.length=cs'.length) (hr:∀ (j:Nat) (x x':AV),cs[j]?=some x→cs'[j]?=some x'→VW ρ V A x x'):VW ρ V A (.tup cs) (.tup cs')
abbrev VD (ρ:Nat→Nat) (V:Nat→Prop):AV→AV→Prop:=VW ρ V (fun _=>False)
section
variable {ρ ρ':Nat→Nat} {V V' A A':Nat→Prop}
theorem VW.mono {v u:AV} (h:VW ρ V A v u):∀ {A':Nat→Prop},(∀ b,A b→A' b∧ρ' b=ρ b∧(V' b↔V b))→VW ρ' V' A' v u:=by
 induction h with
 | undef v=>intro A' _;exact .undef v
 | bool b=>intro A' _;exact .bool b
 | int k n=>intro A' _;exact .int k n
 | str s=>intro A' _;exact .str s
 | dY=>intro A' _;exact .dY
 | bH=>intro A' _;exact .bH
 | dS=>intro A' _;exact .dS
 | dV=>intro A' _;exact .dV
 | kJ z ex=>intro A' _;exact .kJ z ex
 | ro z es es' ex ex' hc hl hx he _ ih=>intro A' _;exact .ro z es es' ex ex' hc hl hx he fun i e e' j x x' h1 h2 h3 h4=>ih i e e' j x x' h1 h2 h3 h4 fun _ h=>h.elim
 | rop cs cs' hl _ ih=>intro A' _;exact .rop cs cs' hl fun j x x' h1 h2=>ih j x x' h1 h2 fun _ h=>h.elim
 | ptr b i o hA hV=>intro A' h;obtain ⟨h1,h2,h3⟩:=h b hA;rw [← h2];exact .ptr b i o h1 (fun q=>hV (h3.1 q))
 | sl b z i len cap ex ex' hA hV hx=>intro A' h;obtain ⟨h1,h2,h3⟩:=h b hA;rw [← h2];exact .sl b z i len cap ex ex' h1 (fun q=>hV (h3.1 q)) hx
 | slv b z ex v hA hV hv=>intro A' h;obtain ⟨h1,h2,h3⟩:=h b hA;exact .slv b z ex v h1 (h3.2 hV) hv
 | map b hA hV=>intro A' h;obtain ⟨h1,h2,h3⟩:=h b hA;rw [← h2];exact .map b h1 (fun q=>hV (h3.1 q))
 | fn f cs cs' hl _ ih=>intro A' h;exact .fn f cs cs' hl fun j x x' h1 h2=>ih j x x' h1 h2 h
 | agg cs cs' hl _ ih=>intro A' h;exact .agg cs cs' hl fun j x x' h1 h2=>ih j x x' h1 h2 h
 | tup cs cs' hl _ ih=>intro A' h;exact .tup cs cs' hl fun j x x' h1 h2=>ih j x x' h1 h2 h
theorem VW.data {v u:AV} (h:VD ρ V v u):VW ρ' V' A' v u:=h.mono fun _ q=>q.elim
theorem VW.dM {k:IntKind} {n:Int} {u:AV} (h:VW ρ V A (.int k n) u):u=.int k n:=by cases h;rfl
theorem VW.fC {b:Bool} {u:AV} (h:VW ρ V A (.bool b) u):u=.bool b:=by cases h;rfl
theorem VW.gY {s:List UInt8} {u:AV} (h:VW ρ V A (.str s) u):u=.str s:=by cases h;rfl
theorem VW.lQ {cs:List AV} {u:AV} (h:VW ρ V A (.agg cs) u):∃ cs',u=.agg cs'∧bC (VW ρ V A) cs cs':=by
 cases h with | agg _ cs' hl hr=>exact ⟨cs',rfl,hl,hr⟩
theorem VW.qY {cs:List AV} {u:AV} (h:VW ρ V A (.tup cs) u):∃ cs',u=.tup cs'∧bC (VW ρ V A) cs cs':=by
 cases h with | tup _ cs' hl hr=>exact ⟨cs',rfl,hl,hr⟩
theorem VW.xE {f:Nat} {cs:List AV} {u:AV} (h:VW ρ V A (.fn f cs) u):∃ cs',u=.fn f cs'∧bC (VW ρ V A) cs cs':=by
 cases h with | fn _ _ cs' hl hr=>exact ⟨cs',rfl,hl,hr⟩
theorem VW.rJ {cs:List AV} {u:AV} (h:VW ρ V A (.rop cs) u):∃ cs',u=.rop cs'∧bC (VD ρ V) cs cs':=by
 cases h with | rop _ cs' hl hr=>exact ⟨cs',rfl,⟨hl,hr⟩⟩
theorem VW.iL {b i o:Nat} {u:AV} (h:VW ρ V A (.ptr b i o) u):u=.ptr (ρ b) i o∧A b∧¬ V b:=by
 cases h with | ptr _ _ _ hA hV=>exact ⟨rfl,hA,hV⟩
theorem VW.vG {b:Nat} {u:AV} (h:VW ρ V A (.map b) u):u=.map (ρ b)∧A b∧¬ V b:=by
 cases h with | map _ hA hV=>exact ⟨rfl,hA,hV⟩
theorem VW.lN {z:Nat} {es:List (List AV)} {ex:Bool} {u:AV} (h:VW ρ V A (.ro z es ex) u) :
 (es=[]∧u=.bH)∨∃ es' ex',u=.ro z es' ex'∧(ex=true→ex'=true)∧bC (bC (VD ρ V)) es es'∧∀ e ∈ es,∀ x ∈ e,isC x=true:=by
 cases h with
 | kJ=>exact .inl ⟨rfl,rfl⟩
 | ro _ _ es' _ ex' hc hl hx he hr=>exact .inr ⟨es',ex',rfl,hx,⟨hl,fun i e e' h1 h2=>⟨he i e e' h1 h2,fun j x x' h3 h4=>hr i e e' j x x' h1 h2 h3 h4⟩⟩,hc⟩
theorem VW.jh {b z i len cap:Nat} {ex:Bool} {u:AV} (h:VW ρ V A (.sl b z i len cap ex) u) :
 (A b∧¬ V b∧∃ ex',u=.sl (ρ b) z i len cap ex'∧(ex=true→ex'=true))∨(A b∧V b∧i=0∧len=0∧cap=0∧(u=.bH∨u=.ro z [] true)):=by
 cases h with
 | sl _ _ _ _ _ _ ex' hA hV hx=>exact .inl ⟨hA,hV,ex',rfl,hx⟩
 | slv _ _ _ _ hA hV hv=>exact .inr ⟨hA,hV,rfl,rfl,rfl,hv⟩
theorem VW.XH {z:Nat} {es es':List (List AV)} {ex ex':Bool} (h:bC (bC (VD ρ V)) es es') (hc:∀ e ∈ es,∀ x ∈ e,Pw.isC x=true) (hx:ex=true→ex'=true):VW ρ V A (.ro z es ex) (.ro z es' ex') :=
 .ro z es es' ex ex' hc h.1 hx (fun i e e' h1 h2=>(h.2 i e e' h1 h2).1) fun i e e' j x x' h1 h2 h3 h4=>(h.2 i e e' h1 h2).2 j x x' h3 h4
theorem VW.Oa {cs cs':List AV} (h:bC (VD ρ V) cs cs'):VW ρ V A (.rop cs) (.rop cs'):=.rop cs cs' h.1 h.2
theorem VW.Jp {cs cs':List AV} (h:bC (VW ρ V A) cs cs'):VW ρ V A (.agg cs) (.agg cs'):=.agg cs cs' h.1 h.2
theorem VW.mM {cs cs':List AV} (h:bC (VW ρ V A) cs cs'):VW ρ V A (.tup cs) (.tup cs'):=.tup cs cs' h.1 h.2
theorem VW.kX {f:Nat} {cs cs':List AV} (h:bC (VW ρ V A) cs cs'):VW ρ V A (.fn f cs) (.fn f cs'):=.fn f cs cs' h.1 h.2
theorem VW.isC {v u:AV} (h:VW ρ V A v u) (hc:isC v=true):VW ρ' V' A' v u:=by
 cases h with
 | fn f cs cs' hl hr =>
  cases cs with
  | nil=>exact .fn f [] cs' hl fun j x x' h1=>by simp at h1
  | cons a r=>simp [Pw.isC] at hc
 | undef=>simp [Pw.isC] at hc
 | ptr=>simp [Pw.isC] at hc
 | sl=>simp [Pw.isC] at hc
 | slv=>simp [Pw.isC] at hc
 | map=>simp [Pw.isC] at hc
 | agg=>simp [Pw.isC] at hc
 | tup=>simp [Pw.isC] at hc
 | bool b=>exact .bool b
 | int k n=>exact .int k n
 | str s=>exact .str s
 | dY=>exact .dY
 | bH=>exact .bH
 | dS=>exact .dS
 | dV=>exact .dV
 | kJ z ex=>exact .kJ z ex
 | ro z es es' ex ex' hc2 hl hx he hr=>exact .ro z es es' ex ex' hc2 hl hx he fun i e e' j x x' h1 h2 h3 h4=>(hr i e e' j x x' h1 h2 h3 h4).data
 | rop cs cs' hl hr=>exact .rop cs cs' hl fun j x x' h1 h2=>(hr j x x' h1 h2).data
theorem VW.isD {v u:AV} (h:VW ρ V A v u) (hc:isD v=true):VW ρ' V' A' v u:=by
 cases h with
 | agg cs cs' hl hr =>
  simp only [Pw.isD,List.all_eq_true] at hc
  exact .agg cs cs' hl fun j x x' h1 h2=>(hr j x x' h1 h2).isC (hc x (List.mem_of_getElem? h1))
 | undef _=>exact .undef _
 | fn f cs cs' hl hr=>exact (VW.fn f cs cs' hl hr:VW ρ V A _ _).isC hc
 | ptr=>simp [Pw.isD,Pw.isC] at hc
 | sl=>simp [Pw.isD,Pw.isC] at hc
 | slv=>simp [Pw.isD,Pw.isC] at hc
 | map=>simp [Pw.isD,Pw.isC] at hc
 | tup=>simp [Pw.isD,Pw.isC] at hc
 | bool b=>exact .bool b
 | int k n=>exact .int k n
 | str s=>exact .str s
 | dY=>exact .dY
 | bH=>exact .bH
 | dS=>exact .dS
 | dV=>exact .dV
 | kJ z ex=>exact .kJ z ex
 | ro z es es' ex ex' hc2 hl hx he hr=>exact .ro z es es' ex ex' hc2 hl hx he fun i e e' j x x' h1 h2 h3 h4=>(hr i e e' j x x' h1 h2 h3 h4).data
 | rop cs cs' hl hr=>exact .rop cs cs' hl fun j x x' h1 h2=>(hr j x x' h1 h2).data
theorem VW.cell {v u:AV} (h:VW ρ V A v u) (hc:v.cell=true):u.cell=true:=by
 cases h with
 | slv b z ex w hA hV hv=>rcases hv with e | e <;> subst e <;> rfl
 | undef=>simp [AV.cell] at hc
 | agg=>simp [AV.cell] at hc
 | tup=>simp [AV.cell] at hc
 | _=>rfl
theorem H8 {v:AV} (hc:v.cell=true):v.cells=[v]:=by
 cases v <;> simp_all [AV.cell,AV.cells]
theorem VW.cells {v u:AV} (h:VW ρ V A v u) (hc:v.cells.all AV.cell=true):bC (VW ρ V A) v.cells u.cells∧u.cells.all AV.cell=true:=by
 have one:∀ {v u:AV},VW ρ V A v u→v.cell=true→bC (VW ρ V A) v.cells u.cells∧u.cells.all AV.cell=true:=by
  intro v u h hc
  rw [H8 hc,H8 (h.cell hc)]
  exact ⟨.cons h .nil,by simp [h.cell hc]⟩
 cases hv:v with
 | agg cs =>
  subst hv
  obtain ⟨cs',rfl,hr⟩:=h.lQ
  refine ⟨hr,?_⟩
  simp only [AV.cells,List.all_eq_true] at hc ⊢
  intro x' hx'
  obtain ⟨j,hj,e⟩:=List.getElem_of_mem hx'
  obtain ⟨x,h1,h2⟩:=hr.get' (List.getElem?_eq_getElem hj)
  rw [e] at h2
  exact h2.cell (hc x (List.mem_of_getElem? h1))
 | undef=>subst hv;simp [AV.cells,AV.cell] at hc
 | tup cs=>subst hv;simp [AV.cells,AV.cell] at hc
 | _=>subst hv;exact one h rfl
end
def OW (ρ:Nat→Nat) (V A:Nat→Prop):dG→iV→Prop
 | .cells z es mu dt,o=>∃ es' mu',o=.cells z es' mu'∧(mu=true→mu'=true)∧bC (bC (VW ρ V A)) es es'∧(dt=true→∀ e ∈ es,∀ x ∈ e,isC x=true)
 | .map es,o=>∃ es',o=.map es'∧bC (fun (x y:AV × AV)=>x.1=y.1∧VD ρ V x.2 y.2) es es'
 | .iter s p,o=>o=.iter s p
def EW (ρ:Nat→Nat) (V A:Nat→Prop) (e:Env) (e':Env):Prop:=∀ k v,get e k=some v→∃ v',get e' k=some v'∧VW ρ V A v v'
structure HW (ρ:Nat→Nat) (V A:Nat→Prop) (h:aI) (h':Heap):Prop where
 dom:∀ b o,get h b=some o→A b
 tH:∀ b o,get h b=some o→V b→∃ z mu dt,o=.cells z [] mu dt
 obj:∀ b o,get h b=some o→¬ V b→∃ o',get h' (ρ b)=some o'∧OW ρ V A o o'
 sub:∀ b,V b→A b
 inj:∀ b c,A b→A c→¬ V b→¬ V c→ρ b=ρ c→b=c
section
variable {ρ ρ':Nat→Nat} {V V' A A':Nat→Prop}
theorem OW.mono {o:dG} {o':iV} (h:OW ρ V A o o') (hm:∀ b,A b→A' b∧ρ' b=ρ b∧(V' b↔V b)):OW ρ' V' A' o o':=by
 cases o with
 | cells z es mu dt =>
  obtain ⟨es',mu',h1,h2,h3,h4⟩:=h
  exact ⟨es',mu',h1,h2,h3.mono fun e e' _ he=>he.mono fun x x' _ hx=>hx.mono hm,h4⟩
 | map es =>
  obtain ⟨es',h1,h2⟩:=h
  exact ⟨es',h1,h2.mono fun x x' _ hx=>⟨hx.1,hx.2.data⟩⟩
 | iter s p=>exact h
theorem EW.mono {e e':Env} (h:EW ρ V A e e') (hm:∀ b,A b→A' b∧ρ' b=ρ b∧(V' b↔V b)):EW ρ' V' A' e e':=by
 intro k v hk
 obtain ⟨v',h1,h2⟩:=h k v hk
 exact ⟨v',h1,h2.mono hm⟩
theorem O4 (l:Env) (n:Nat) (x:AV) (k:Nat):get (Bz l n x) k=if n=k then some x else get l k:=by
 induction l with
 | nil=>simp [Bz,Pav.get]
 | cons a r ih =>
  obtain ⟨j,v⟩:=a
  simp only [Bz]
  by_cases h1:j < n
  · simp only [h1,if_true,Pav.get]
  · rw [if_neg h1]
    by_cases h2:j=n
    · subst h2
      simp only [if_true,Pav.get]
      by_cases h3:j=k <;> simp [h3]
    · simp only [h2,if_false,Pav.get,ih]
      by_cases h3:j=k
      · subst h3;simp [Ne.symm h2]
      · simp [h3]
theorem EW.put {e e':Env} (h:EW ρ V A e e') {d:Nat} {v v':AV} (hv:VW ρ V A v v'):EW ρ V A (Bz e d v) (put e' d v'):=by
 intro k u hk
 rw [O4] at hk
 rw [get_put]
 split at hk
 · rename_i hd;cases hk;exact ⟨v',by rw [if_pos hd],hv⟩
 · rename_i hd;rw [if_neg hd];exact h k u hk
theorem EW.dL {e e':Env} (h:EW ρ V A e e') {d:Option Nat} {v v':AV} (hv:VW ρ V A v v'):EW ρ V A (eH e d v) (dL e' d v'):=by
 cases d with
 | none=>exact h
 | some d=>exact h.put hv
theorem QT (v:AV):okV v=true→VW ρ V A v (er v):=by
 refine AV.rec (motive_1:=fun v=>okV v=true→VW ρ V A v (er v)) (motive_2:=fun _=>True) (motive_3:=fun l=>okL l=true→bC (VW ρ V A) l (erL l))
  ?_ ?_ ?_ ?_ ?_ ?_ ?_ ?_ ?_ ?_ ?_ ?_ ?_ ?_ ?_ ?_ ?_ ?_ ?_ ?_ v
 · intro h;simp [okV] at h
 · intro b _;exact .bool b
 · intro k n _;exact .int k n
 · intro s _;exact .str s
 · intro _;exact .dY
 · intro _;exact .bH
 · intro _;exact .dS
 · intro _;exact .dV
 · intro z es ex _ h
   simp only [okV,List.isEmpty_iff] at h
   subst h
   cases ex with
   | true=>exact .kJ z true
   | false=>exact VW.XH .nil (fun _ h=>by cases h) id
 · intro cs _ h;simp [okV] at h
 · intro b i o h;simp [okV] at h
 · intro b z i len cap ex h;simp [okV] at h
 · intro b h;simp [okV] at h
 · intro f cs ih h;exact VW.kX (ih h)
 · intro cs ih h;exact VW.Jp (ih h)
 · intro cs ih h;exact VW.mM (ih h)
 · trivial
 · intros;trivial
 · intro _;exact .nil
 · intro v r ih1 ih2 h
   simp only [okL,Bool.and_eq_true] at h
   exact .cons (ih1 h.1) (ih2 h.2)
theorem xJ:∀ l:List AV,okL l=true→bC (VW ρ V A) l (erL l):=by
 intro l
 induction l with
 | nil=>intro _;exact .nil
 | cons v r ih =>
  intro h
  simp only [okL,Bool.and_eq_true] at h
  exact .cons (QT v h.1) (ih h.2)
theorem EW.opd {e e':Env} (h:EW ρ V A e e') {x:Opd} (hx:okO x=true):VW ρ V A (x.ev e) ((erO x).ev e'):=by
 cases x with
 | t s =>
  simp only [Opd.ev,erO]
  cases hg:get e s with
  | none=>exact .undef _
  | some v =>
   obtain ⟨v',h1,h2⟩:=h s v hg
   rw [h1];exact h2
 | c v=>exact QT v hx
end
end Go.Pw
end
section
set_option linter.unusedSimpArgs false
set_option linter.unusedVariables false
namespace Go.Pw
open Go Go.Pav
def up (ρ:Nat→Nat) (n m:Nat):Nat→Nat:=fun b=>if b=n then m else ρ b
def addN (A:Nat→Prop) (n:Nat):Nat→Prop:=fun b=>A b∨b=n
def Ok2 (ρ:Nat→Nat) (V A:Nat→Prop) (n m:Nat) (h:aI) (h':Heap) (r:AV × dU) (r':AV × Upd):Prop :=
 VW (up ρ n m) V (addN A n) r.1 r'.1∧HW (up ρ n m) V (addN A n) (bP h r.2) (aQ h' r'.2)∧∀ b ∈ r'.2.map (·.1),∃ c ∈ r.2.map (·.1),b=up ρ n m c∧¬ V c∧addN A n c
section
variable {ρ:Nat→Nat} {V A:Nat→Prop} {n m:Nat} {h:aI} {h':Heap} {e e':Env}
theorem pK (hn:¬ A n):∀ b,A b→addN A n b∧up ρ n m b=ρ b∧(V b↔V b):=by
 intro b hb
 refine ⟨.inl hb,?_,Iff.rfl⟩
 unfold up
 rw [if_neg]
 rintro rfl;exact hn hb
theorem HW.up (H:HW ρ V A h h') (hn:¬ A n) (hm:∀ b,A b→¬ V b→ρ b≠m):HW (up ρ n m) V (addN A n) h h':=by
 have hu:=pK (ρ:=ρ) (V:=V) (m:=m) hn
 refine ⟨fun b o hb=>.inl (H.dom b o hb),H.tH,fun b o hb hv=>?_,fun b hb=>.inl (H.sub b hb),?_⟩
 · obtain ⟨o',h1,h2⟩:=H.obj b o hb hv
   rw [(hu b (H.dom b o hb)).2.1]
   exact ⟨o',h1,h2.mono hu⟩
 · rintro b c (hb | rfl) (hc | rfl) vb vc hbc
   · rw [(hu b hb).2.1,(hu c hc).2.1] at hbc
     exact H.inj b c hb hc vb vc hbc
   · rw [(hu b hb).2.1] at hbc
     simp only [Pw.up,if_true] at hbc
     exact absurd hbc (hm b hb vb)
   · rw [(hu c hc).2.1] at hbc
     simp only [Pw.up,if_true] at hbc
     exact absurd hbc.symm (hm c hc vc)
   · rfl
theorem aU (H:HW ρ V A h h') (hn:¬ A n) (hm:∀ b,A b→¬ V b→ρ b≠m) {v v':AV} (hv:VW ρ V A v v'):Ok2 ρ V A n m h h' (v,[]) (v',[]) :=
 ⟨hv.mono (pK hn),H.up hn hm,fun b hb=>by simp at hb⟩
theorem nX (H:HW ρ V A h h') (hn:¬ A n) (hm:∀ b,A b→¬ V b→ρ b≠m) {o:dG} {o':iV} (ho:OW (Pw.up ρ n m) V (addN A n) o o'):HW (Pw.up ρ n m) V (addN A n) (put h n o) (put h' m o'):=by
 have K:=H.up hn hm
 have hVn:¬ V n:=fun q=>hn (H.sub n q)
 have un:Pw.up ρ n m n=m:=by simp [Pw.up]
 refine ⟨fun b x hb=>?_,fun b x hb hv=>?_,fun b x hb hv=>?_,K.sub,K.inj⟩
 · rw [get_put] at hb
   split at hb
   · rename_i q;exact .inr q.symm
   · exact K.dom b x hb
 · rw [get_put] at hb
   split at hb
   · rename_i q;subst q;exact absurd hv hVn
   · exact K.tH b x hb hv
 · rw [get_put] at hb
   split at hb
   · rename_i q;cases hb;subst q
     refine ⟨o',?_,ho⟩
     rw [get_put,un,if_pos rfl]
   · rename_i q
     obtain ⟨x',h1,h2⟩:=K.obj b x hb hv
     refine ⟨x',?_,h2⟩
     rw [get_put,if_neg];exact h1
     exact fun q2=>q (K.inj n b (.inr rfl) (K.dom b x hb) hVn hv (un.trans q2))
theorem oI {ρ:Nat→Nat} {V A:Nat→Prop} {h:aI} {h':Heap} (H:HW ρ V A h h') {b:Nat} (hA:A b) (hV:¬ V b) {o:dG} {o':iV} (ho:OW ρ V A o o'):HW ρ V A (put h b o) (put h' (ρ b) o'):=by
 refine ⟨fun c x hc=>?_,fun c x hc hv=>?_,fun c x hc hv=>?_,H.sub,H.inj⟩
 · rw [get_put] at hc
   split at hc
   · rename_i q;subst q;exact hA
   · exact H.dom c x hc
 · rw [get_put] at hc
   split at hc
   · rename_i q;subst q;exact absurd hv hV
   · exact H.tH c x hc hv
 · rw [get_put] at hc
   split at hc
   · rename_i q;subst q;cases hc
     exact ⟨o',by rw [get_put,if_pos rfl],ho⟩
   · rename_i q
     obtain ⟨x',h1,h2⟩:=H.obj c x hc hv
     refine ⟨x',?_,h2⟩
     rw [get_put,if_neg];exact h1
     exact fun q2=>q (H.inj b c hA (H.dom c x hc) hV hv q2)
theorem ahw {ρ:Nat→Nat} {V A:Nat→Prop} {h:aI} {h':Heap} (H:HW ρ V A h h') {b:Nat} (hA:A b) (hV:¬ V b):HW ρ V A (del h b) (del h' (ρ b)):=by
 refine ⟨fun c x hc=>?_,fun c x hc hv=>?_,fun c x hc hv=>?_,H.sub,H.inj⟩
 · rw [lW] at hc
   split at hc
   · cases hc
   · exact H.dom c x hc
 · rw [lW] at hc
   split at hc
   · cases hc
   · exact H.tH c x hc hv
 · rw [lW] at hc
   split at hc
   · cases hc
   · rename_i q
     obtain ⟨x',h1,h2⟩:=H.obj c x hc hv
     refine ⟨x',?_,h2⟩
     rw [lW,if_neg];exact h1
     exact fun q2=>q (H.inj b c hA (H.dom c x hc) hV hv q2)
theorem Vg {ρ:Nat→Nat} {V A:Nat→Prop} {h:aI} {h':Heap} (H:HW ρ V A h h') {b:Nat}:HW ρ V A (del h b) h':=by
 refine ⟨fun c x hc=>?_,fun c x hc hv=>?_,fun c x hc hv=>?_,H.sub,H.inj⟩
 all_goals
  rw [lW] at hc
  split at hc
  · cases hc
  first
   | exact H.dom c x hc
   | exact H.tH c x hc hv
   | exact H.obj c x hc hv
end
section
variable {ρ:Nat→Nat} {V A:Nat→Prop}
theorem uM {cs cs':List AV} (hr:bC (VW ρ V A) cs cs') {n:Nat} {ag:Bool} {v:AV} (hv:pz n ag cs=some v):∃ v',pz n ag cs'=some v'∧VW ρ V A v v':=by
 unfold pz at hv ⊢
 split at hv
 · rename_i hag
   rw [if_pos hag]
   split at hv
   · rename_i hn
     cases hv
     rw [← hr.1,if_pos hn]
     exact ⟨_,rfl,VW.Jp (hr.take n)⟩
   · cases hv
 · rename_i hag
   rw [if_neg hag]
   cases cs with
   | nil=>simp at hv
   | cons a r =>
    obtain ⟨b,r',rfl,h1,_⟩:=hr.dF
    simp at hv;subst hv
    exact ⟨b,by simp,h1⟩
theorem IX {cs cs' v v':List AV} (hr:bC (VW ρ V A) cs cs') (hv:bC (VW ρ V A) v v') (off:Nat):bC (VW ρ V A) (splice cs off v) (splice cs' off v'):=by
 unfold splice
 rw [hv.1]
 exact (hr.take off).append (hv.append (hr.drop _))
theorem Yl {e e':Env} (he:EW ρ V A e e'):∀ (ps:List (Nat × Nat × Opd)) (cs cs' r:List AV),(ps.all fun p=>okO p.2.2)=true→bC (VW ρ V A) cs cs'→pR e cs ps=some r →
 ∃ r',pR e' cs' (ps.map fun p=>(p.1,p.2.1,erO p.2.2))=some r'∧bC (VW ρ V A) r r':=by
 intro ps
 induction ps with
 | nil=>intro cs cs' r _ hr h;simp only [pR,Option.some.injEq] at h;subst h;exact ⟨cs',rfl,hr⟩
 | cons p ps ih =>
  intro cs cs' r hok hr h
  obtain ⟨off,n,x⟩:=p
  simp only [List.all_cons,Bool.and_eq_true] at hok
  simp only [pR] at h
  split at h
  · rename_i hc
    obtain ⟨h1,h2⟩:=(he.opd hok.1).cells hc.2.2
    obtain ⟨r',h3,h4⟩:=ih _ _ r hok.2 (IX hr h1 off) h
    refine ⟨r',?_,h4⟩
    simp only [List.map_cons,pR]
    rw [if_pos ⟨by rw [← h1.1];exact hc.1,by rw [← hr.1];exact hc.2.1,h2⟩]
    exact h3
  · cases h
theorem ZH {e e':Env} (he:EW ρ V A e e') (z:Nat):∀ (ps:List (Nat × Opd)) (es es' r:List (List AV)),(ps.all fun p=>okO p.2)=true→bC (bC (VW ρ V A)) es es'→kU e z es ps=some r →
 ∃ r',kU e' z es' (ps.map fun p=>(p.1,erO p.2))=some r'∧bC (bC (VW ρ V A)) r r':=by
 intro ps
 induction ps with
 | nil=>intro cs cs' r _ hr h;simp only [kU,Option.some.injEq] at h;subst h;exact ⟨cs',rfl,hr⟩
 | cons p ps ih =>
  intro cs cs' r hok hr h
  obtain ⟨i,x⟩:=p
  simp only [List.all_cons,Bool.and_eq_true] at hok
  simp only [kU] at h
  split at h
  · rename_i hc
    obtain ⟨h1,h2⟩:=(he.opd hok.1).cells hc.2.2
    obtain ⟨r',h3,h4⟩:=ih _ _ r hok.2 (hr.set h1) h
    refine ⟨r',?_,h4⟩
    simp only [List.map_cons,kU]
    rw [if_pos ⟨by rw [← h1.1];exact hc.1,by rw [← hr.1];exact hc.2.1,h2⟩]
    exact h3
  · cases h
theorem abv {op:BinOp} {x y x' y' v:AV} (hx:VW ρ V A x x') (hy:VW ρ V A y y') (h:wX op x y=some v):wX op x' y'=some v∧VW ρ V A v v:=by
 have binInt_leaf:∀ {op k a b v},BM op k a b=some v→VW ρ V A v v:=by
  intro op k a b v h
  unfold BM at h
  split at h <;> first | (cases h;done) | (cases h;constructor) | (split at h <;> first | (cases h;done) | (cases h;constructor))
 have shift_leaf:∀ {op k a b v},qJ op k a b=some v→VW ρ V A v v:=by
  intro op k a b v h
  unfold qJ at h
  split at h <;> first | (cases h;done) | (cases h;constructor)
 have binStr_leaf:∀ {op a b v},Bo op a b=some v→VW ρ V A v v:=by
  intro op a b v h
  unfold Bo at h
  split at h <;> first | (cases h;done) | (cases h;constructor) | (split at h <;> first | (cases h;done) | (cases h;constructor))
 cases x with
 | int k a =>
  cases y with
  | int k' b =>
   rw [hx.dM,hy.dM]
   refine ⟨h,?_⟩
   simp only [wX] at h
   split at h
   · obtain ⟨q,_,h2⟩:=ay h;exact shift_leaf h2
   · split at h
     · exact binInt_leaf h
     · cases h
  | _=>simp [wX] at h
 | str a =>
  cases y with
  | str b =>
   rw [hx.gY,hy.gY]
   exact ⟨h,binStr_leaf h⟩
  | _=>simp [wX] at h
 | _=>simp [wX] at h
theorem XG {x y x' y':AV} {b:Bool} (hx:VW ρ V A x x') (hy:VW ρ V A y y') (h:gV x y=some b):gV x' y'=some b:=by
 cases x with
 | int k a =>
  cases y with
  | int k' b=>rw [hx.dM,hy.dM];exact h
  | _=>simp [gV] at h
 | str a =>
  cases y with
  | str b=>rw [hx.gY,hy.gY];exact h
  | _=>simp [gV] at h
 | bool a =>
  cases y with
  | bool b=>rw [hx.fC,hy.fC];exact h
  | _=>simp [gV] at h
 | _=>simp [gV] at h
theorem yQ {kd:Nat} {x x':AV} (hx:VW ρ V A x x') (h:jZ kd x=true):x'=x:=by
 cases x with
 | int k a=>exact hx.dM
 | str a=>exact hx.gY
 | bool a=>exact hx.fC
 | _=>simp [jZ] at h
theorem TW:∀ (ks:List Nat) {x y x' y':List AV} {b:Bool},bC (VW ρ V A) x x'→bC (VW ρ V A) y y'→gZ ks x y=some b→gZ ks x' y'=some b:=by
 intro ks
 induction ks with
 | nil =>
  intro x y x' y' b hx hy h
  cases x with
  | nil=>cases y with
   | nil=>rw [hx.dX,hy.dX];exact h
   | cons=>simp [gZ] at h
  | cons=>simp [gZ] at h
 | cons k ks ih =>
  intro x y x' y' b hx hy h
  cases x with
  | nil=>simp [gZ] at h
  | cons a r =>
   cases y with
   | nil=>simp [gZ] at h
   | cons c t =>
    obtain ⟨a',r',rfl,h1,h2⟩:=hx.dF
    obtain ⟨c',t',rfl,h3,h4⟩:=hy.dF
    simp only [gZ] at h ⊢
    split at h
    · rename_i hk
      obtain ⟨p,h5,h6⟩:=ay h
      obtain ⟨q,h7,h8⟩:=aG h6
      rw [yQ h1 hk,if_pos hk]
      have:=XG h1 h3 h5
      rw [yQ h1 hk] at this
      rw [this]
      simp only [ob]
      rw [ih h2 h4 h7]
      simp only [om,h8]
    · cases h
theorem WO {kd:Nat} {ks:List Nat} {x y x' y':AV} {b:Bool} (hx:VW ρ V A x x') (hy:VW ρ V A y y') (hk:kd≠0) (h:iq kd ks x y=some b):iq kd ks x' y'=some b:=by
 unfold iq at h ⊢
 rw [if_neg hk] at h ⊢
 split at h
 · rename_i hk
   rw [if_pos hk]
   cases hx <;> cases hy <;> simp_all [eqFn]
 · rename_i hk
   rw [if_neg hk]
   split at h
   · rename_i hk
     rw [if_pos hk]
     cases hx <;> cases hy <;> simp_all [Jb]
   · rename_i hk
     rw [if_neg hk]
     split at h
     · rename_i hk
       rw [if_pos hk]
       cases hx <;> cases hy <;> simp_all [Ji]
     · rename_i hk
       rw [if_neg hk]
       split at h
       · rename_i hk
         rw [if_pos hk]
         unfold IZ at h
         split at h
         · obtain ⟨c,rfl,h1⟩:=hx.lQ
           obtain ⟨d,rfl,h2⟩:=hy.lQ
           exact TW ks h1 h2 h
         · cases h
       · rename_i hk
         rw [if_neg hk]
         unfold BQ at h
         split at h
         · rw [hx.fC,hy.fC];exact h
         · cases h
theorem aau {x y x' y':AV} {b:Bool} (hx:VW ρ V A x x') (hy:VW ρ V A y y') (h:UK x y=some b):RD x' y'=some b:=by
 unfold UK at h
 split at h
 · cases hx;cases hy;exact h
 · cases hx;rcases hy.lN with ⟨q,_⟩ | ⟨es',ex',rfl,_⟩
   · cases q
   · exact h
 · cases hy;rcases hx.lN with ⟨q,_⟩ | ⟨es',ex',rfl,_⟩
   · cases q
   · exact h
 · cases h
end
end Go.Pw
end
section
set_option linter.unusedSimpArgs false
set_option linter.unusedVariables false
namespace Go.Pw
open Go Go.Pav
section
variable {ρ:Nat→Nat} {V A:Nat→Prop} {n m:Nat} {h:aI} {h':Heap} {e e':Env}
theorem ab7 {op:UnOp} {x x' v:AV} (hx:VW ρ V A x x') (h:Pv op x=some v):Pv op x'=some v∧VW ρ V A v v:=by
 cases x with
 | int k a =>
  rw [hx.dM]
  refine ⟨h,?_⟩
  cases op <;> simp only [Pv] at h <;> first | (cases h;done) | (cases h;constructor)
 | bool b =>
  rw [hx.fC]
  refine ⟨h,?_⟩
  cases op <;> simp only [Pv] at h <;> first | (cases h;done) | (cases h;constructor)
 | _=>simp [Pv] at h
theorem YA {o:Option AV} {o':Option AV} {d k:Nat} (ho:∀ v,o=some v→∃ v',o'=some v'∧VW ρ V A v v') (hn:o=none→o'=none) (h:bound o d=some k):bound o' d=some k:=by
 cases o with
 | none=>rw [hn rfl];exact h
 | some v =>
  obtain ⟨v',rfl,hv⟩:=ho v rfl
  cases v with
  | int k n=>rw [hv.dM];exact h
  | _=>simp [bound] at h
def OVW (ρ:Nat→Nat) (V A:Nat→Prop):Option AV→Option AV→Prop
 | none,none=>True
 | some v,some v'=>VW ρ V A v v'
 | _,_=>False
theorem OVW.bound {o o':Option AV} (ho:OVW ρ V A o o') {d k:Nat} (h:Pav.bound o d=some k):Pav.bound o' d=some k:=by
 cases o with
 | none=>cases o' with
  | none=>exact h
  | some v'=>exact ho.elim
 | some v=>cases o' with
  | none=>exact ho.elim
  | some v'=>exact YA (ρ:=ρ) (V:=V) (A:=A) (o:=some v) (fun u hu=>by cases hu;exact ⟨v',rfl,ho⟩) (fun q=>by cases q) h
theorem Fg {z:Nat} {es es':List (List AV)} {ex ex':Bool} {lo hi mx lo' hi' mx':Option AV} {v:AV} (hr:bC (bC (VD ρ V)) es es') (hd:∀ e ∈ es,∀ x ∈ e,isC x=true) (hx:ex=true→ex'=true)
 (hlo:OVW ρ V A lo lo') (hhi:OVW ρ V A hi hi') (hmx:OVW ρ V A mx mx') (h:gI z es ex lo hi mx=some v):∃ v',gI z es' ex' lo' hi' mx'=some v'∧VW ρ V A v v':=by
 cases mx with
 | none =>
  cases mx' with
  | some _=>exact hmx.elim
  | none =>
   simp only [gI] at h ⊢
   obtain ⟨hh,h1,h⟩:=ay h
   obtain ⟨ll,h2,h⟩:=ay h
   rw [← hr.1,hhi.bound h1]
   simp only [ob]
   rw [hlo.bound h2]
   simp only
   split at h
   · rename_i hc
     rw [if_pos hc]
     cases h
     refine ⟨_,rfl,VW.XH ((hr.take hh).drop ll) (fun e he=>hd e (List.mem_of_mem_take (List.mem_of_mem_drop he))) ?_⟩
     simp only [Bool.and_eq_true,decide_eq_true_eq]
     rintro ⟨q1,q2⟩
     exact ⟨hx q1,q2⟩
   · cases h
 | some mv =>
  cases mx' with
  | none=>exact hmx.elim
  | some mv' =>
   simp only [gI] at h ⊢
   obtain ⟨mm,h1,g1⟩:=ay h
   clear h
   obtain ⟨hv,hhv,g2⟩:=ay g1
   clear g1
   subst hhv
   obtain ⟨hh,h2,g3⟩:=ay g2
   clear g2
   obtain ⟨ll,h3,h⟩:=ay g3
   clear g3
   cases hi' with
   | none=>exact hhi.elim
   | some hv' =>
    rw [OVW.bound (ρ:=ρ) (V:=V) (A:=A) (o:=some mv) (o':=some mv') hmx h1]
    simp only [ob]
    rw [OVW.bound (ρ:=ρ) (V:=V) (A:=A) (o:=some hv) (o':=some hv') hhi h2]
    simp only
    rw [hlo.bound h3]
    simp only [← hr.1]
    split at h
    · rename_i hc
      rw [if_pos hc]
      cases h
      exact ⟨_,rfl,VW.XH ((hr.take hh).drop ll) (fun e he=>hd e (List.mem_of_mem_take (List.mem_of_mem_drop he))) id⟩
    · cases h
theorem QC {z:Nat} {ex:Bool} {lo hi mx lo' hi' mx':Option AV} {v:AV}
 (hlo:OVW ρ V A lo lo') (hhi:OVW ρ V A hi hi') (hmx:OVW ρ V A mx mx') (h:gI z [] ex lo hi mx=some v):∃ v',jC lo' hi' mx'=some v'∧VW ρ V A v v':=by
 cases mx with
 | none =>
  cases mx' with
  | some _=>exact hmx.elim
  | none =>
   simp only [gI,List.length_nil] at h
   obtain ⟨hh,h1,h⟩:=ay h
   obtain ⟨ll,h2,h⟩:=ay h
   split at h
   · rename_i hc
     cases h
     obtain ⟨c1,c2⟩:=hc
     refine ⟨.bH,?_,?_⟩
     · simp only [jC]
       rw [show Pav.bound none 0=some 0 from rfl]
       simp only [ob]
       rw [hhi.bound h1]
       simp only
       rw [hlo.bound h2]
       simp only
       rw [if_pos]
       exact ⟨by omega,by omega,by trivial,by simp⟩
     · simp only [List.take_nil,List.drop_nil];exact .kJ _ _
   · cases h
 | some mv =>
  cases mx' with
  | none=>exact hmx.elim
  | some mv' =>
   simp only [gI,List.length_nil] at h
   obtain ⟨mm,h1,g1⟩:=ay h
   clear h
   obtain ⟨hv,hhv,g2⟩:=ay g1
   clear g1
   subst hhv
   obtain ⟨hh,h2,g3⟩:=ay g2
   clear g2
   obtain ⟨ll,h3,h⟩:=ay g3
   clear g3
   cases hi' with
   | none=>exact hhi.elim
   | some hv' =>
    split at h
    · rename_i hc
      cases h
      obtain ⟨c1,c2,c3⟩:=hc
      refine ⟨.bH,?_,?_⟩
      · simp only [jC]
        rw [OVW.bound (ρ:=ρ) (V:=V) (A:=A) (o:=some mv) (o':=some mv') hmx h1]
        simp only [ob]
        rw [OVW.bound (ρ:=ρ) (V:=V) (A:=A) (o:=some hv) (o':=some hv') hhi h2]
        simp only
        rw [hlo.bound h3]
        simp only
        rw [if_pos]
        exact ⟨by omega,by omega,by omega,by simp⟩
      · simp only [List.take_nil,List.drop_nil];exact .kJ _ _
    · cases h
theorem SE {b z i len cap:Nat} {ex ex':Bool} {lo hi mx lo' hi' mx':Option AV} {v:AV} (hA:A b) (hV:¬ V b) (hx:ex=true→ex'=true)
 (hlo:OVW ρ V A lo lo') (hhi:OVW ρ V A hi hi') (hmx:OVW ρ V A mx mx') (h:lS b z i len cap ex lo hi mx=some v):∃ v',lS (ρ b) z i len cap ex' lo' hi' mx'=some v'∧VW ρ V A v v':=by
 cases mx with
 | none =>
  cases mx' with
  | some _=>exact hmx.elim
  | none =>
   simp only [lS] at h ⊢
   obtain ⟨hh,h1,h⟩:=ay h
   obtain ⟨ll,h2,h⟩:=ay h
   rw [hhi.bound h1]
   simp only [ob]
   rw [hlo.bound h2]
   simp only
   split at h
   · rename_i hc
     rw [if_pos hc]
     split at h
     · rename_i hc2;rw [if_pos hc2];cases h;exact ⟨_,rfl,.sl _ _ _ _ _ _ _ hA hV hx⟩
     · rename_i hc2
       rw [if_neg hc2]
       split at h
       · rename_i hl
         cases h
         rw [if_pos hl]
         exact ⟨_,rfl,.sl _ _ _ _ _ _ _ hA hV hx⟩
       · rename_i hl
         cases h
         rw [if_neg hl]
         exact ⟨_,rfl,.ro _ _ _ _ _ (by simp) rfl hx (by simp) (by simp)⟩
   · cases h
 | some mv =>
  cases mx' with
  | none=>exact hmx.elim
  | some mv' =>
   simp only [lS] at h ⊢
   obtain ⟨mm,h1,g1⟩:=ay h
   clear h
   obtain ⟨hv,hhv,g2⟩:=ay g1
   clear g1
   subst hhv
   obtain ⟨hh,h2,g3⟩:=ay g2
   clear g2
   obtain ⟨ll,h3,h⟩:=ay g3
   clear g3
   cases hi' with
   | none=>exact hhi.elim
   | some hv' =>
    rw [OVW.bound (ρ:=ρ) (V:=V) (A:=A) (o:=some mv) (o':=some mv') hmx h1]
    simp only [ob]
    rw [OVW.bound (ρ:=ρ) (V:=V) (A:=A) (o:=some hv) (o':=some hv') hhi h2]
    simp only
    rw [hlo.bound h3]
    simp only
    split at h
    · rename_i hc
      rw [if_pos hc]
      split at h
      · rename_i hc2;rw [if_pos hc2];cases h;exact ⟨_,rfl,.sl _ _ _ _ _ _ _ hA hV id⟩
      · rename_i hc2;rw [if_neg hc2];cases h;exact ⟨_,rfl,.sl _ _ _ _ _ _ _ hA hV id⟩
    · cases h
theorem Kw {b z:Nat} {ex:Bool} {lo hi mx lo' hi' mx':Option AV} {v:AV} (hA:A b) (hV:V b)
 (hlo:OVW ρ V A lo lo') (hhi:OVW ρ V A hi hi') (hmx:OVW ρ V A mx mx') (h:lS b z 0 0 0 ex lo hi mx=some v) :
 ((∃ v',jC lo' hi' mx'=some v'∧VW ρ V A v v')∧∃ v',gI z [] true lo' hi' mx'=some v'∧VW ρ V A v v'):=by
 cases mx with
 | none =>
  cases mx' with
  | some _=>exact hmx.elim
  | none =>
   simp only [lS] at h
   obtain ⟨hh,h1,h⟩:=ay h
   obtain ⟨ll,h2,h⟩:=ay h
   split at h
   · rename_i hc
     obtain ⟨c1,c2,_⟩:=hc
     have hv:∃ ex2,v=.sl b z 0 0 0 ex2:=by
      have e1:ll=0:=by omega
      have e2:hh=0:=by omega
      subst e1;subst e2
      simp only [Nat.lt_irrefl,if_false,if_true] at h
      cases h;exact ⟨_,rfl⟩
     obtain ⟨ex2,rfl⟩:=hv
     refine ⟨⟨.bH,?_,.slv _ _ _ _ hA hV (.inl rfl)⟩,⟨.ro z [] true,?_,.slv _ _ _ _ hA hV (.inr rfl)⟩⟩
     · simp only [jC]
       rw [show Pav.bound none 0=some 0 from rfl]
       simp only [ob]
       rw [hhi.bound h1]
       simp only
       rw [hlo.bound h2]
       simp only
       rw [if_pos]
       exact ⟨by omega,by omega,by trivial,by simp⟩
     · simp only [gI,List.length_nil]
       rw [hhi.bound h1]
       simp only [ob]
       rw [hlo.bound h2]
       simp only
       rw [if_pos ⟨c1,by omega⟩]
       have e2:hh=0:=by omega
       subst e2
       simp
   · cases h
 | some mv =>
  cases mx' with
  | none=>exact hmx.elim
  | some mv' =>
   simp only [lS] at h
   obtain ⟨mm,h1,g1⟩:=ay h
   clear h
   obtain ⟨hv,hhv,g2⟩:=ay g1
   clear g1
   subst hhv
   obtain ⟨hh,h2,g3⟩:=ay g2
   clear g2
   obtain ⟨ll,h3,h⟩:=ay g3
   clear g3
   cases hi' with
   | none=>exact hhi.elim
   | some hv' =>
    split at h
    · rename_i hc
      obtain ⟨c1,c2,c3⟩:=hc
      have hv:v=.sl b z 0 0 0 true:=by
       rw [if_neg (by omega)] at h
       cases h;rfl
      subst hv
      refine ⟨⟨.bH,?_,.slv _ _ _ _ hA hV (.inl rfl)⟩,⟨.ro z [] true,?_,.slv _ _ _ _ hA hV (.inr rfl)⟩⟩
      · simp only [jC]
        rw [OVW.bound (ρ:=ρ) (V:=V) (A:=A) (o:=some mv) (o':=some mv') hmx h1]
        simp only [ob]
        rw [OVW.bound (ρ:=ρ) (V:=V) (A:=A) (o:=some hv) (o':=some hv') hhi h2]
        simp only
        rw [hlo.bound h3]
        simp only
        rw [if_pos]
        exact ⟨by omega,by omega,by omega,by simp⟩
      · simp only [gI,List.length_nil]
        rw [OVW.bound (ρ:=ρ) (V:=V) (A:=A) (o:=some mv) (o':=some mv') hmx h1]
        simp only [ob]
        rw [OVW.bound (ρ:=ρ) (V:=V) (A:=A) (o:=some hv) (o':=some hv') hhi h2]
        simp only
        rw [hlo.bound h3]
        simp only
        rw [if_pos ⟨c1,c2,by omega⟩]
        have e2:mm=hh:=by omega
        simp [e2]
    · cases h
theorem acD {x x':AV} (hl:qo x=true) (h:VW ρ V A x x'):x'=x:=by
 cases h <;> first | rfl | (simp [qo] at hl)
theorem Cb {k:Nat} {cs cs':List AV} {lo hi lo' hi':Option AV} {v:AV} (hr:bC (VW ρ V A) cs cs')
 (hlo:OVW ρ V A lo lo') (hhi:OVW ρ V A hi hi') (h:jB k cs lo hi=some v):∃ v',jB k cs' lo' hi'=some v'∧VW ρ V A v v':=by
 unfold jB at h ⊢
 split at h
 case isFalse=>cases h
 rename_i hc
 obtain ⟨c1,c2⟩:=hc
 have e:cs'.take k=cs.take k:=by
  have hk:=hr.take k
  refine List.ext_getElem? fun j=>?_
  cases hj:(cs.take k)[j]? with
  | none =>
   rw [List.getElem?_eq_none_iff] at hj ⊢
   rw [← hk.1];exact hj
  | some x =>
   obtain ⟨x',h1,h2⟩:=hk.get hj
   rw [h1,acD (List.all_eq_true.1 c2 x (List.mem_of_getElem? hj)) h2]
 rw [e,if_pos ⟨by rw [← hr.1];exact c1,c2⟩]
 refine Fg (es:=(cs.take k).map fun x=>[x]) ⟨rfl,fun j x x' h1 h2=>?_⟩ (fun e he x hx=>?_) id hlo hhi (mx:=none) (mx':=none) trivial h
 · rw [h1] at h2;cases h2
   rw [List.getElem?_map] at h1
   cases hj:(cs.take k)[j]? with
   | none=>rw [hj] at h1;cases h1
   | some y =>
    rw [hj] at h1;cases h1
    refine .cons ?_ .nil
    have:=List.all_eq_true.1 c2 y (List.mem_of_getElem? hj)
    cases y <;> simp [qo] at this <;> constructor
 · simp only [List.mem_map] at he
   obtain ⟨y,hy,rfl⟩:=he
   simp only [List.mem_cons,List.not_mem_nil,or_false] at hx
   subst hx
   have:=List.all_eq_true.1 c2 x hy
   cases x <;> simp [qo] at this <;> rfl
theorem TQ {k:Nat} {x x':AV} {lo hi mx lo' hi' mx':Option AV} {v:AV} (hx:VW ρ V A x x')
 (hlo:OVW ρ V A lo lo') (hhi:OVW ρ V A hi hi') (hmx:OVW ρ V A mx mx') (h:gG k x lo hi mx=some v):∃ v',gG k x' lo' hi' mx'=some v'∧VW ρ V A v v':=by
 cases x with
 | str s =>
  rw [hx.gY]
  simp only [gG] at h ⊢
  split at h
  · rename_i hk
    rw [if_pos hk]
    cases mx with
    | some _=>simp [uo] at h
    | none =>
     cases mx' with
     | some _=>exact hmx.elim
     | none =>
      simp only [uo] at h ⊢
      obtain ⟨hh,h1,h⟩:=ay h
      obtain ⟨ll,h2,h⟩:=ay h
      rw [hhi.bound h1]
      simp only [ob]
      rw [hlo.bound h2]
      simp only
      split at h
      · rename_i hc;rw [if_pos hc];cases h;exact ⟨_,rfl,.str _⟩
      · cases h
  · cases h
 | bH =>
  cases hx
  simp only [gG] at h ⊢
  split at h
  · cases h
  · rename_i hk
    rw [if_neg hk]
    simp only [jC] at h ⊢
    obtain ⟨mm,h1,h⟩:=ay h
    obtain ⟨hh,h2,h⟩:=ay h
    obtain ⟨ll,h3,h⟩:=ay h
    rw [hmx.bound h1]
    simp only [ob]
    rw [hhi.bound h2]
    simp only
    rw [hlo.bound h3]
    simp only
    have e1:mx.isSome=mx'.isSome:=by cases mx <;> cases mx' <;> simp_all [OVW]
    have e2:hi.isNone=hi'.isNone:=by cases hi <;> cases hi' <;> simp_all [OVW]
    rw [e1,e2] at h
    split at h
    · rename_i hc;rw [if_pos hc];cases h;exact ⟨_,rfl,.bH⟩
    · cases h
 | ro z es ex =>
  simp only [gG] at h
  split at h
  · rename_i hk
    rcases hx.lN with ⟨rfl,rfl⟩ | ⟨es',ex',rfl,h2,h3,h4⟩
    · simp only [gG,if_neg hk.1]
      exact QC hlo hhi hmx h
    · simp only [gG,if_pos hk]
      exact Fg h3 h4 h2 hlo hhi hmx h
  · cases h
 | sl b z i len cap ex =>
  simp only [gG] at h
  split at h
  · rename_i hk
    rcases hx.jh with ⟨hA,hV,ex',rfl,h2⟩ | ⟨hA,hV,rfl,rfl,rfl,h2⟩
    · simp only [gG,if_pos hk]
      exact SE hA hV h2 hlo hhi hmx h
    · obtain ⟨q1,q2⟩:=Kw hA hV hlo hhi hmx h
      rcases h2 with rfl | rfl
      · simp only [gG,if_neg hk.1];exact q1
      · simp only [gG,if_pos hk];exact q2
  · cases h
 | _=>simp [gG] at h
end
end Go.Pw
end
section
set_option linter.unusedSimpArgs false
set_option linter.unusedVariables false
namespace Go.Pw
open Go Go.Pav
section
variable {ρ:Nat→Nat} {V A:Nat→Prop} {n m:Nat} {h:aI} {h':Heap} {e e':Env}
theorem PI (H:HW ρ V A h h') {z:Nat} {x x':AV} (hx:VW ρ V A x x') {xs:List (List AV)} {d:Bool} (he:jP h z x=some (xs,d)) :
 ∃ xs',elems h' z x'=some xs'∧bC (bC (VW ρ V A)) xs xs'∧(d=true→∀ e ∈ xs,∀ x ∈ e,isC x=true):=by
 cases x with
 | bH=>cases hx;simp only [jP,Option.some.injEq,Prod.mk.injEq] at he;obtain ⟨rfl,rfl⟩:=he;exact ⟨[],rfl,.nil,fun _ e he=>by cases he⟩
 | str s =>
  rw [hx.gY]
  simp only [jP] at he
  split at he
  · rename_i hz
    simp only [Option.some.injEq,Prod.mk.injEq] at he
    obtain ⟨rfl,rfl⟩:=he
    refine ⟨s.map fun c=>[.int .u8 c.toNat],by simp only [elems,if_pos hz],?_,?_⟩
    · exact (bC.map (R:=Eq) (T:=bC (VW ρ V A)) (l:=s) (l':=s) ⟨rfl,fun j x x' h1 h2=>by rw [h1] at h2;cases h2;rfl⟩ fun x x' hxx=>by subst hxx;exact .cons (.int _ _) .nil)
    · intro _ e he x hx
      simp only [List.mem_map] at he
      obtain ⟨c,_,rfl⟩:=he
      simp at hx;subst hx
      rfl
  · cases he
 | ro z' es ex =>
  simp only [jP] at he
  split at he
  · rename_i hz
    simp only [Option.some.injEq,Prod.mk.injEq] at he
    obtain ⟨rfl,rfl⟩:=he
    rcases hx.lN with ⟨rfl,rfl⟩ | ⟨es',ex',rfl,_,hr,hc⟩
    · exact ⟨[],rfl,.nil,fun _ e he=>by cases he⟩
    · exact ⟨es',by simp only [elems,if_pos hz],hr.mono fun e e' _ h=>h.mono fun x x' _ h=>h.data,fun _=>hc⟩
  · cases he
 | sl b z' i len cap ex =>
  simp only [jP] at he
  split at he
  · rename_i hz
    split at he
    · rename_i zb es mu dt hg
      split at he
      · rename_i hl
        simp only [Option.some.injEq,Prod.mk.injEq] at he
        obtain ⟨rfl,rfl⟩:=he
        rcases hx.jh with ⟨hA,hV,ex',rfl,_⟩ | ⟨hA,hV,rfl,rfl,rfl,hv⟩
        · obtain ⟨o',h1,es',mu',rfl,_,hr,hd⟩:=H.obj b _ hg hV
          refine ⟨(es'.drop i).take len,?_,(hr.drop i).take len,fun q e he x hx=>hd q e (List.mem_of_mem_drop (List.mem_of_mem_take he)) x hx⟩
          simp only [elems,if_pos hz,h1,← hr.1,if_pos hl]
        · obtain ⟨z2,mu2,dt2,q⟩:=H.tH b _ hg hV
          cases q
          refine ⟨[],?_,by simp only [List.drop_nil,List.take_nil];exact .nil,fun _ e he=>by simp at he⟩
          rcases hv with rfl | rfl
          · rfl
          · simp only [elems,if_pos hz]
      · cases he
    · cases he
  · cases he
 | _=>simp [jP] at he
theorem nS (H:HW ρ V A h h') (hn:¬ A n) (hm:∀ b,A b→¬ V b→ρ b≠m) {zl k bytes:Nat} {xs xs':List (List AV)} {d:Bool} {r:AV × dU}
 (hr:bC (bC (VW ρ V A)) xs xs') (hd:d=true→∀ e ∈ xs,∀ x ∈ e,isC x=true) (he:lZ n zl k bytes xs d=some r) :
 ∃ r',Pav.newRow m zl k bytes xs'=some r'∧Ok2 ρ V A n m h h' r r':=by
 unfold lZ at he
 split at he
 · rename_i hb
   cases he
   have hVn:¬ V n:=fun q=>hn (H.sub n q)
   have un:up ρ n m n=m:=by simp [up]
   refine ⟨_,by simp only [Pav.newRow,if_pos hb];rfl,?_,?_,?_⟩
   · have:=VW.sl (ρ:=up ρ n m) (V:=V) (A:=addN A n) n zl 0 k k false false (.inr rfl) hVn id
     rw [un] at this;exact this
   · exact nX H hn hm ⟨xs',true,rfl,fun _=>rfl,hr.mono fun e e' _ h=>h.mono fun x x' _ h=>h.mono (pK hn),hd⟩
   · intro b hb
     simp at hb;subst hb
     exact ⟨n,by simp,un.symm,hVn,.inr rfl⟩
 · cases he
theorem Qp (H:HW ρ V A h h') (hn:¬ A n) (hm:∀ b,A b→¬ V b→ρ b≠m) {zl bytes:Nat} {s s':AV} {xs xs':List (List AV)} {d:Bool} {r:AV × dU} (hs:VW ρ V A s s')
 (hr:bC (bC (VW ρ V A)) xs xs') (hd:d=true→∀ e ∈ xs,∀ x ∈ e,isC x=true) (he:jM h n zl bytes s xs d=some r) :
 ∃ r',jU h' m zl bytes s' xs'=some r'∧Ok2 ρ V A n m h h' r r':=by
 cases s with
 | bH =>
  cases hs
  simp only [jM] at he
  cases xs with
  | nil=>simp only [Option.some.injEq] at he;subst he;rw [hr.dX];exact ⟨_,rfl,aU H hn hm .bH⟩
  | cons a t =>
   obtain ⟨a',t',rfl,h1,h2⟩:=hr.dF
   simp only at he
   obtain ⟨r',h3,h4⟩:=nS H hn hm hr hd he
   exact ⟨r',by simp only [jU,← hr.1];exact h3,h4⟩
 | ro z es ex =>
  simp only [jM] at he
  split at he
  · rename_i hz
    rcases hs.lN with ⟨rfl,rfl⟩ | ⟨es',ex',rfl,hx,hes,hc⟩
    · cases xs with
      | nil=>simp only [Option.some.injEq] at he;subst he;rw [hr.dX];exact ⟨_,rfl,aU H hn hm hs⟩
      | cons a t =>
       obtain ⟨a',t',rfl,h1,h2⟩:=hr.dF
       simp only at he
       split at he
       · simp only [List.length_nil,Nat.zero_add,List.nil_append] at he
         obtain ⟨r',h3,h4⟩:=nS H hn hm hr hd he
         exact ⟨r',by simp only [jU,← hr.1];exact h3,h4⟩
       · cases he
    · cases xs with
      | nil=>simp only [Option.some.injEq] at he;subst he;rw [hr.dX];exact ⟨_,by simp only [jU,if_pos hz],aU H hn hm hs⟩
      | cons a t =>
       obtain ⟨a',t',rfl,h1,h2⟩:=hr.dF
       simp only at he
       split at he
       · rename_i hex
         obtain ⟨r',h3,h4⟩:=nS H hn hm (xs':=es'++a'::t') ((hes.mono fun e e' _ h=>h.mono fun x x' _ h=>h.data).append hr) (fun q e he x hx=>by
          rcases List.mem_append.1 he with q1 | q1
          · exact hc e q1 x hx
          · exact hd q e q1 x hx) he
         refine ⟨r',?_,h4⟩
         simp only [jU,if_pos hz,hx hex,if_true]
         rw [← hes.1,← hr.1]
         exact h3
       · cases he
  · cases he
 | sl b z i len cap ex =>
  simp only [jM] at he
  split at he
  · rename_i hz
    subst hz
    cases xs with
    | nil =>
     simp only [Option.some.injEq] at he;subst he;rw [hr.dX]
     rcases hs.jh with ⟨hA,hV,ex',rfl,_⟩ | ⟨hA,hV,rfl,rfl,rfl,hv⟩
     · exact ⟨_,by simp only [jU,if_true],aU H hn hm hs⟩
     · rcases hv with rfl | rfl
       · exact ⟨_,rfl,aU H hn hm hs⟩
       · exact ⟨_,by simp only [jU,if_true],aU H hn hm hs⟩
    | cons a t =>
     obtain ⟨a',t',rfl,h1,h2⟩:=hr.dF
     simp only at he
     unfold KJ at he
     split at he
     · rename_i zb es mu dt hg
       split at he
       · rename_i hzb
         rcases hs.jh with ⟨hA,hV,ex',rfl,hx⟩ | ⟨hA,hV,rfl,rfl,rfl,hv⟩
         · obtain ⟨o',g1,es',mu',rfl,gm,ge,gd⟩:=H.obj b _ hg hV
           have hu:=pK (ρ:=ρ) (V:=V) (m:=m) hn
           have dd:(dt&&d)=true→(∀ e ∈ es,∀ x ∈ e,isC x=true)∧∀ e ∈ a::t,∀ x ∈ e,isC x=true:=by
            intro q
            simp only [Bool.and_eq_true] at q
            exact ⟨gd q.1,hd q.2⟩
           simp only [jU,if_true,g1,aas,if_pos hzb]
           have hlen:(a'::t').length=(a::t).length:=hr.1.symm
           rw [hlen]
           split at he
           · rename_i hcap
             rw [if_pos hcap]
             split at he
             · rename_i hc
               cases he
               have e1:mu'=true∧i+(len+(a::t).length)≤es'.length:=⟨gm hc.1,by rw [← ge.1];exact hc.2⟩
               rw [if_pos e1]
               refine ⟨_,rfl,?_,?_,?_⟩
               · have:=VW.sl (ρ:=up ρ n m) (V:=V) (A:=addN A n) b z i (len+(a::t).length) cap ex ex' (.inl hA) hV hx
                 rw [(hu b hA).2.1] at this;exact this
               · refine HW.up (oI H hA hV ?_) hn hm
                 refine ⟨_,true,rfl,fun _=>rfl,(ge.take _).append (hr.append (ge.drop _)),fun q e he x hx=>?_⟩
                 obtain ⟨q1,q2⟩:=dd q
                 rcases List.mem_append.1 he with q3 | q3
                 · exact q1 e (List.mem_of_mem_take q3) x hx
                 · rcases List.mem_append.1 q3 with q3 | q3
                   · exact q2 e q3 x hx
                   · exact q1 e (List.mem_of_mem_drop q3) x hx
               · intro c hc
                 simp at hc;subst hc
                 exact ⟨b,by simp,((hu b hA).2.1).symm,hV,.inl hA⟩
             · cases he
           · rename_i hcap
             rw [if_neg hcap]
             split at he
             · rename_i hex
               subst hex
               rw [hx rfl]
               simp only [if_true]
               split at he
               · rename_i hl
                 rw [if_pos (by rw [← ge.1];exact hl)]
                 exact nS H hn hm (((ge.drop _).take _).append hr) (fun q e he x hx=>by
                  obtain ⟨q1,q2⟩:=dd q
                  rcases List.mem_append.1 he with q3 | q3
                  · exact q1 e (List.mem_of_mem_drop (List.mem_of_mem_take q3)) x hx
                  · exact q2 e q3 x hx) he
               · cases he
             · rename_i hex
               have hex:ex=false:=by simpa using hex
               subst hex
               split at he
               · rename_i hc
                 cases he
                 obtain ⟨c1,c2,c3,c4⟩:=hc
                 subst c2
                 have hVn:¬ V n:=fun q=>hn (H.sub n q)
                 have un:up ρ n m n=m:=by simp [up]
                 have vw:VW (up ρ n m) V (addN A n) (.sl n z 0 (len+(a::t).length) (len+(a::t).length) false) (.sl m z 0 (len+(a::t).length) (len+(a::t).length) false):=by
                  have:=VW.sl (ρ:=up ρ n m) (V:=V) (A:=addN A n) n z 0 (len+(a::t).length) (len+(a::t).length) false false (.inr rfl) hVn id
                  rw [un] at this;exact this
                 have ow:∀ {mu2},OW (up ρ n m) V (addN A n) (.cells z (es++a::t) true (dt&&d)) (.cells z (es'++a'::t') mu2)↔mu2=true:=by
                  intro mu2
                  constructor
                  · rintro ⟨_,_,q,q2,_⟩;cases q;exact q2 rfl
                  · rintro rfl
                    refine ⟨_,true,rfl,fun _=>rfl,(ge.append hr).mono fun e e' _ h=>h.mono fun x x' _ h=>h.mono hu,fun q e he x hx=>?_⟩
                    obtain ⟨q1,q2⟩:=dd q
                    rcases List.mem_append.1 he with q3 | q3
                    · exact q1 e q3 x hx
                    · exact q2 e q3 x hx
                 have wr:∀ c,c=ρ b∨c=m→∃ c2 ∈ [(b,(none:Option dG)),(n,some (.cells z (es++a::t) true (dt&&d)))].map (·.1),c=up ρ n m c2∧¬ V c2∧addN A n c2:=by
                  rintro c (rfl | rfl)
                  · exact ⟨b,by simp,((hu b hA).2.1).symm,hV,.inl hA⟩
                  · exact ⟨n,by simp,un.symm,hVn,.inr rfl⟩
                 cases ex' with
                 | false =>
                  simp only [Bool.false_eq_true,if_false]
                  rw [if_pos ⟨gm c1,by trivial,by rw [← ge.1];exact c3,c4⟩]
                  refine ⟨_,rfl,vw,?_,fun c hc=>wr c (by simpa using hc)⟩
                  exact nX (ahw H hA hV) hn hm (ow.2 rfl)
                 | true =>
                  simp only [if_true]
                  rw [if_pos (by rw [← ge.1,c3];simp)]
                  have e3:(es'.drop 0).take len=es':=by rw [List.drop_zero,List.take_of_length_le (by rw [← ge.1];omega)]
                  rw [e3]
                  refine ⟨_,by simp only [Pav.newRow,if_pos c4];rfl,vw,?_,fun c hc=>wr c (.inr (by simpa using hc))⟩
                  exact nX (Vg H) hn hm (ow.2 rfl)
               · cases he
         · obtain ⟨z2,mu2,dt2,q⟩:=H.tH b _ hg hV
           cases q
           have hnr:∃ d2,(d2=true→d=true)∧((lZ n zb (a::t).length bytes (a::t) d2=some r)∨(∃ (q4:(a::t).length * (bytes+1)≤dh),r=(.sl n zb 0 (a::t).length (a::t).length false,[(b,none),(n,some (.cells zb (a::t) true d2))]))):=by
            refine ⟨dt&&d,fun q=>by simp only [Bool.and_eq_true] at q;exact q.2,?_⟩
            subst hzb
            rw [if_neg (by simp)] at he
            split at he
            · split at he
              · left
                simpa using he
              · cases he
            · split at he
              · rename_i hc
                right
                simp only [Nat.zero_add] at hc he
                exact ⟨hc.2.2.2,by simpa using he.symm⟩
              · cases he
           obtain ⟨d2,hd2,hh⟩:=hnr
           have hd3:d2=true→∀ e ∈ a::t,∀ x ∈ e,isC x=true:=fun q=>hd (hd2 q)
           have goal:∃ r',Pav.newRow m z (a'::t').length bytes (a'::t')=some r'∧Ok2 ρ V A n m h h' r r':=by
            subst hzb
            rcases hh with hh | ⟨q4,rfl⟩
            · obtain ⟨r',h3,h4⟩:=nS H hn hm hr hd3 hh
              exact ⟨r',by rw [← hr.1];exact h3,h4⟩
            · obtain ⟨r',h3,h4⟩:=nS (h:=del h b) (zl:=zb) (k:=(a::t).length) (bytes:=bytes) (r:=(.sl n zb 0 (a::t).length (a::t).length false,[(n,some (dG.cells zb (a::t) true d2))])) (Vg H) hn hm hr hd3 (by simp only [lZ,if_pos q4])
              refine ⟨r',by rw [← hr.1];exact h3,h4.1,h4.2.1,fun c hc=>?_⟩
              obtain ⟨c2,q5,q6⟩:=h4.2.2 c hc
              exact ⟨c2,by simp at q5 ⊢;exact .inr q5,q6⟩
           obtain ⟨r',g1,g2⟩:=goal
           rcases hv with rfl | rfl
           · exact ⟨r',by simp only [jU];exact g1,g2⟩
           · exact ⟨r',by simp only [jU,if_true,List.length_nil,Nat.zero_add,List.nil_append];exact g1,g2⟩
       · cases he
     · cases he
  · cases he
 | _=>simp [jM] at he
end
end Go.Pw
end
section
set_option linter.unusedSimpArgs false
set_option linter.unusedVariables false
namespace Go.Pw
open Go Go.Pav
section
variable {ρ:Nat→Nat} {V A:Nat→Prop} {n m:Nat} {h:aI} {h':Heap} {e e':Env}
theorem sZ {x:Option AV} {a:AV} (hx:x=some a):ov x=some (a,[]):=by rw [hx];rfl
theorem bJ {x:Option (AV × Upd)} {r:AV × dU} (h:plainW x=some r):∃ v u,x=some (v,u)∧r=(v,[]):=by
 obtain ⟨⟨v,u⟩,h1,h2⟩:=aG h
 exact ⟨v,u,h1,h2.symm⟩
theorem He {x:Option AV} {r:AV × dU} (h:ovW x=some r):∃ v,x=some v∧r=(v,[]):=by
 obtain ⟨v,h1,h2⟩:=aG h
 exact ⟨v,h1,h2.symm⟩
theorem mJ {x:Option AV} {v:AV} {u:Upd} (h:ov x=some (v,u)):x=some v:=by
 obtain ⟨w,h1,h2⟩:=aG h
 cases h2;exact h1
theorem xw (he:EW ρ V A e e') {o:Option Opd} (ho:(o.map okO).getD true=true):OVW ρ V A (oev e o) (oev e' (o.map erO)):=by
 cases o with
 | none=>trivial
 | some x=>exact he.opd (by simpa using ho)
theorem Ws:∀ {es es':List (AV × AV)} {k:AV} {r:Option AV},bC (fun (x y:AV × AV)=>x.1=y.1∧VD ρ V x.2 y.2) es es'→jy es k=some r→∃ r',jy es' k=some r'∧OVW ρ V A r r':=by
 intro es
 induction es with
 | nil=>intro es' k r hr h;rw [hr.dX];simp only [jy,Option.some.injEq] at h;subst h;exact ⟨none,rfl,trivial⟩
 | cons x es ih =>
  intro es' k r hr h
  obtain ⟨y,t,rfl,h1,h2⟩:=hr.dF
  obtain ⟨a,v⟩:=x
  obtain ⟨a',v'⟩:=y
  obtain ⟨rfl,hv⟩:=h1
  simp only [jy] at h ⊢
  obtain ⟨c,h3,h⟩:=ay h
  rw [h3]
  simp only [ob]
  split at h
  · rename_i hc;rw [if_pos hc];cases h;exact ⟨some v',rfl,hv.data⟩
  · rename_i hc;rw [if_neg hc];exact ih h2 h
theorem XW:∀ {es es' r:List (AV × AV)} {k v v':AV},bC (fun (x y:AV × AV)=>x.1=y.1∧VD ρ V x.2 y.2) es es'→VD ρ V v v'→jT es k v=some r →
 ∃ r',jT es' k v'=some r'∧bC (fun (x y:AV × AV)=>x.1=y.1∧VD ρ V x.2 y.2) r r':=by
 intro es
 induction es with
 | nil=>intro es' r k v v' hr hv h;rw [hr.dX];simp only [jT,Option.some.injEq] at h;subst h;exact ⟨_,rfl,.cons ⟨rfl,hv⟩ .nil⟩
 | cons x es ih =>
  intro es' r k v v' hr hv h
  obtain ⟨y,t,rfl,h1,h2⟩:=hr.dF
  obtain ⟨a,w⟩:=x
  obtain ⟨a',w'⟩:=y
  obtain ⟨rfl,hw⟩:=h1
  simp only [jT] at h ⊢
  obtain ⟨c,h3,h⟩:=ay h
  rw [h3]
  simp only [ob]
  split at h
  · rename_i hc;rw [if_pos hc];cases h;exact ⟨_,rfl,.cons ⟨rfl,hv⟩ h2⟩
  · rename_i hc
    rw [if_neg hc]
    obtain ⟨r1,h4,rfl⟩:=aG h
    obtain ⟨r2,h5,h6⟩:=ih h2 hv h4
    rw [h5]
    exact ⟨_,rfl,.cons ⟨rfl,hw⟩ h6⟩
theorem O7 {z z':AV} {r r':Option AV} (hz:VW ρ V A z z') (hr:OVW ρ V A r r') (ok:Bool):VW ρ V A (found z ok r) (found z' ok r'):=by
 have:VW ρ V A (r.getD z) (r'.getD z')∧r.isSome=r'.isSome:=by
  cases r <;> cases r' <;> simp_all [OVW]
 unfold found
 split
 · rw [this.2];exact VW.mM (.cons this.1 (.cons (.bool _) .nil))
 · exact this.1
theorem aaR (he:EW ρ V A e e') (H:HW ρ V A h h') (hn:¬ A n) (hm:∀ b,A b→¬ V b→ρ b≠m) {op:COp} (ho:iH op=true) {r:AV × dU} (hs:stepW op e h n=some r) :
 ∃ r',aK (fJ op) e' h' m=some r'∧Ok2 ρ V A n m h h' r r':=by
 have hVn:¬ V n:=fun q=>hn (H.sub n q)
 have un:up ρ n m n=m:=by simp [up]
 have hu:=pK (ρ:=ρ) (V:=V) (m:=m) hn
 have wrn:∀ {o:dG} {o':iV} {v:AV} {v':AV},∀ b ∈ ((v',[(m,some o')]):AV × Upd).2.map (·.1),∃ c ∈ ((v,[(n,some o)]):AV × dU).2.map (·.1),b=up ρ n m c∧¬ V c∧addN A n c:=by
  intro o o' v v' b hb
  simp at hb;subst hb
  exact ⟨n,by simp,un.symm,hVn,.inr rfl⟩
 have wro:∀ {b:Nat} {o:dG} {o':iV} {v:AV} {v':AV},A b→¬ V b→∀ c ∈ ((v',[(ρ b,some o')]):AV × Upd).2.map (·.1),∃ c2 ∈ ((v,[(b,some o)]):AV × dU).2.map (·.1),c=up ρ n m c2∧¬ V c2∧addN A n c2:=by
  intro b o o' v v' hA hV c hc
  simp at hc;subst hc
  exact ⟨b,by simp,((hu b hA).2.1).symm,hV,.inl hA⟩
 have zok:∀ {z:List AV},okL z=true→bC (VW (up ρ n m) V (addN A n)) z (erL z):=fun q=>xJ _ q
 have allC:∀ {z:List AV},(z.all isC)=true→∀ x ∈ z,isC x=true:=fun q x hx=>List.all_eq_true.1 q x hx
 cases op with
 | mv x =>
  obtain ⟨v,u,h1,rfl⟩:=bJ hs
  simp only [sMv,Option.some.injEq,Prod.mk.injEq] at h1
  obtain ⟨rfl,rfl⟩:=h1
  exact ⟨_,rfl,aU H hn hm (he.opd ho)⟩
 | pick c a b =>
  simp only [iH,Bool.and_eq_true] at ho
  obtain ⟨v,u,h1,rfl⟩:=bJ hs
  simp only [CO] at h1
  split at h1
  · rename_i t hc
    simp only [Option.some.injEq,Prod.mk.injEq] at h1
    obtain ⟨rfl,rfl⟩:=h1
    have hc':=he.opd ho.1
    rw [hc] at hc'
    refine ⟨_,by simp only [aK,fJ,CO,hc'.fC];rfl,aU H hn hm ?_⟩
    cases t with
    | true=>exact he.opd ho.2.1
    | false=>exact he.opd ho.2.2
  · cases h1
 | alloc z =>
  simp only [stepW,TA,Option.some.injEq] at hs
  subst hs
  have hz:=xJ (ρ:=up ρ n m) (V:=V) (A:=addN A n) z ho
  refine ⟨_,rfl,?_,?_,wrn⟩
  · have:=VW.ptr (ρ:=up ρ n m) (V:=V) (A:=addN A n) n 0 0 (.inr rfl) hVn
    rw [un] at this;exact this
  · refine nX H hn hm ?_
    simp only [← hz.1]
    exact ⟨_,true,rfl,fun _=>rfl,.cons hz .nil,fun q e he x hx=>by simp at he;subst he;exact allC q x hx⟩
 | box x =>
  simp only [stepW,agi,Tz] at hs
  split at hs
  · rename_i hc
    cases hs
    obtain ⟨h1,h2⟩:=(he.opd ho).cells hc
    refine ⟨_,by simp only [aK,fJ,aeD,boxed,if_pos h2];rfl,?_,?_,wrn⟩
    · have:=VW.ptr (ρ:=up ρ n m) (V:=V) (A:=addN A n) n 0 0 (.inr rfl) hVn
      rw [un] at this;exact this
    · refine nX H hn hm ?_
      simp only [← h1.1]
      exact ⟨_,true,rfl,fun _=>rfl,.cons (h1.mono fun x x' _ h=>h.mono hu) .nil,fun q e he x hx=>by simp at he;subst he;exact allC q x hx⟩
  · cases hs
 | build z ps =>
  simp only [iH,Bool.and_eq_true] at ho
  obtain ⟨v,u,h1,rfl⟩:=bJ hs
  obtain ⟨cs,h2,h3⟩:=aG h1
  cases h3
  obtain ⟨r',h4,h5⟩:=Yl he ps z _ cs ho.2 (xJ z ho.1) h2
  exact ⟨_,by simp only [aK,fJ,AX,h4];rfl,aU H hn hm (VW.Jp h5)⟩
 | aZ z len ps =>
  simp only [iH,Bool.and_eq_true] at ho
  simp only [stepW,Nz] at hs
  obtain ⟨es,h1,rfl⟩:=aG hs
  have hz:=xJ (ρ:=ρ) (V:=V) (A:=A) z ho.1
  obtain ⟨es',h4,h5⟩:=ZH he z.length ps (List.replicate len z) (List.replicate len (erL z)) es ho.2 (.replicate hz len) h1
  refine ⟨_,by simp only [aK,fJ,AL,← hz.1,h4];rfl,?_,?_,wrn⟩
  · have:=VW.sl (ρ:=up ρ n m) (V:=V) (A:=addN A n) n z.length 0 len len true true (.inr rfl) hVn id
    rw [un] at this;exact this
  · refine nX H hn hm ?_
    exact ⟨_,true,rfl,fun _=>rfl,h5.mono fun e e' _ h=>h.mono fun x x' _ h=>h.mono hu,fun q e he x hx=>by
     simp only [List.all_eq_true] at q
     exact q e he x hx⟩
 | load k ag a =>
  obtain ⟨v,h1,rfl⟩:=He hs
  have ha:=he.opd (x:=a) ho
  have key:∃ v',BH k ag h' ((erO a).ev e')=some v'∧VW ρ V A v v':=by
   cases hx:a.ev e with
   | rop cs =>
    rw [hx] at ha h1
    obtain ⟨cs',q,hr⟩:=ha.rJ
    rw [q]
    obtain ⟨v',h2,h3⟩:=uM hr h1
    exact ⟨v',h2,h3.data⟩
   | ptr b i o =>
    rw [hx] at ha h1
    obtain ⟨q,hA,hV⟩:=ha.iL
    rw [q]
    simp only [yB] at h1
    unfold uU at h1
    split at h1
    · rename_i z es mu dt hg
      obtain ⟨cs,h2,h3⟩:=ay h1
      obtain ⟨o',g1,es',mu',rfl,_,ge,_⟩:=H.obj b _ hg hV
      obtain ⟨cs',h4,h5⟩:=ge.get h2
      obtain ⟨v',h6,h7⟩:=uM (h5.drop o) h3
      exact ⟨v',by simp only [BH,g1,loadAt,h4,ob];exact h6,h7⟩
    · cases h1
   | _=>rw [hx] at h1;simp [yB] at h1
  obtain ⟨v',h2,h3⟩:=key
  exact ⟨_,sZ h2,aU H hn hm h3⟩
 | store k a x =>
  simp only [iH,Bool.and_eq_true] at ho
  simp only [stepW,NQ] at hs
  split at hs
  · rename_i hc
    obtain ⟨c1,c2⟩:=(he.opd ho.2).cells hc.2
    have ha:=he.opd ho.1
    cases hx:a.ev e with
    | ptr b i o =>
     rw [hx] at ha hs
     obtain ⟨q,hA,hV⟩:=ha.iL
     simp only [tN] at hs
     unfold F8 at hs
     split at hs
     · rename_i z es mu dt hg
       split at hs
       · rename_i hmu
         obtain ⟨cs,h2,h3⟩:=ay hs
         split at h3
         · rename_i hl
           cases h3
           obtain ⟨o',g1,es',mu',rfl,gm,ge,gd⟩:=H.obj b _ hg hV
           obtain ⟨cs',h4,h5⟩:=ge.get h2
           refine ⟨_,by simp only [aK,fJ,KC,← c1.1];rw [if_pos ⟨hc.1,c2⟩,q];simp only [yx,g1,storeAt,gm hmu,if_true,h4,ob,← h5.1];rw [if_pos hl],?_,?_,wro hA hV⟩
           · exact VW.mM .nil
           · refine HW.up (oI H hA hV ?_) hn hm
             refine ⟨_,true,rfl,fun _=>rfl,ge.set (IX h5 c1 o),fun q e he x hx=>?_⟩
             simp only [Bool.and_eq_true,List.all_eq_true] at q
             rcases List.mem_or_eq_of_mem_set he with q2 | rfl
             · exact gd q.1 e q2 x hx
             · unfold splice at hx
               simp only [List.mem_append] at hx
               rcases hx with q3 | q3 | q3
               · exact gd q.1 cs (List.mem_of_getElem? h2) x (List.mem_of_mem_take q3)
               · exact q.2 x q3
               · exact gd q.1 cs (List.mem_of_getElem? h2) x (List.mem_of_mem_drop q3)
         · cases h3
       · cases hs
     · cases hs
    | _=>rw [hx] at hs;simp [tN] at hs
  · cases hs
 | jo x =>
  obtain ⟨v,u,h1,rfl⟩:=bJ hs
  have hx:=he.opd (x:=x) ho
  simp only [lV] at h1
  split at h1
  · rename_i b i o hc
    cases h1
    rw [hc] at hx
    exact ⟨_,by simp only [aK,fJ,lV,hx.iL.1],aU H hn hm (hx.iL.1 ▸ hx)⟩
  · rename_i cs hc
    cases h1
    rw [hc] at hx
    obtain ⟨cs',q,_⟩:=hx.rJ
    exact ⟨_,by simp only [aK,fJ,lV,q],aU H hn hm (q ▸ hx)⟩
  · rename_i f cs hc
    cases h1
    rw [hc] at hx
    obtain ⟨cs',q,_⟩:=hx.xE
    exact ⟨_,by simp only [aK,fJ,lV,q],aU H hn hm (q ▸ hx)⟩
  · cases h1
 | bin op x y =>
  simp only [iH,Bool.and_eq_true] at ho
  obtain ⟨v,u,h1,rfl⟩:=bJ hs
  obtain ⟨h2,h3⟩:=abv (he.opd ho.1) (he.opd ho.2) (mJ h1)
  exact ⟨_,sZ h2,aU H hn hm h3⟩
 | eqv kd ks ne x y =>
  simp only [iH,Bool.and_eq_true] at ho
  simp only [stepW] at hs
  split at hs
  · rename_i hk
    subst hk
    obtain ⟨b,h1,rfl⟩:=aG hs
    refine ⟨_,by simp only [aK,fJ,G6,iq,if_true,aau (he.opd ho.1) (he.opd ho.2) h1];rfl,aU H hn hm (.bool _)⟩
  · rename_i hk
    obtain ⟨v,u,h1,rfl⟩:=bJ hs
    obtain ⟨b,h2,h3⟩:=aG h1
    cases h3
    exact ⟨_,by simp only [aK,fJ,G6,WO (he.opd ho.1) (he.opd ho.2) hk h2];rfl,aU H hn hm (.bool _)⟩
 | un op x =>
  obtain ⟨v,u,h1,rfl⟩:=bJ hs
  obtain ⟨h2,h3⟩:=ab7 (he.opd (x:=x) ho) (mJ h1)
  exact ⟨_,sZ h2,aU H hn hm h3⟩
 | cvt k x =>
  obtain ⟨v,u,h1,rfl⟩:=bJ hs
  have hx:=he.opd (x:=x) ho
  simp only [Qw] at h1
  split at h1
  · rename_i k' q hc
    cases h1
    rw [hc] at hx
    exact ⟨_,by simp only [aK,fJ,Qw,hx.dM],aU H hn hm (.int _ _)⟩
  · cases h1
 | cvs x =>
  obtain ⟨v,u,h1,rfl⟩:=bJ hs
  have hx:=he.opd (x:=x) ho
  simp only [PE] at h1
  split at h1
  · rename_i q hc
    cases h1
    rw [hc] at hx
    exact ⟨_,by simp only [aK,fJ,PE,hx.gY],aU H hn hm (.str _)⟩
  · cases h1
 | cvb x =>
  obtain ⟨v,u,h1,rfl⟩:=bJ hs
  have hx:=he.opd (x:=x) ho
  simp only [P9] at h1
  have h1:=mJ h1
  cases hxv:x.ev e <;> rw [hxv] at h1 hx <;> simp only [Ol] at h1 <;> try (cases h1;done)
  · cases h1
    have q:(erO x).ev e'=.bH:=by
     generalize (erO x).ev e'=u at hx
     cases hx;rfl
    exact ⟨_,sZ (by rw [q];rfl),aU H hn hm (.str _)⟩
  · rename_i z es ex
    split at h1
    · rename_i hz
      subst hz
      obtain ⟨s,hb,rfl⟩:=aG h1
      rcases hx.lN with ⟨q2,q1⟩ | ⟨es',ex',q1,q3,q2,q4⟩
      · subst q2
        simp only [bytesOf,Option.some.injEq] at hb
        subst hb
        exact ⟨_,sZ (by rw [q1];rfl),aU H hn hm (.str _)⟩
      · have hb':bytesOf es'=some s:=by
         have key:∀ (es es':List (List AV)) (s:List UInt8),bC (bC (VD ρ V)) es es'→bytesOf es=some s→bytesOf es'=some s:=by
          intro es
          induction es with
          | nil=>intro es' s hr hb;rw [hr.dX];exact hb
          | cons c r ih =>
           intro es' s hr hb
           obtain ⟨c',t,rfl,h2,h3⟩:=hr.dF
           simp only [bytesOf] at hb
           split at hb
           · obtain ⟨s',h4,rfl⟩:=aG hb
             obtain ⟨a,b,rfl,h5,h6⟩:=h2.dF
             rw [h6.dX,h5.dM]
             simp only [bytesOf,ih t s' h3 h4,om]
           · cases hb
         exact key es es' s q2 hb
        exact ⟨_,sZ (by rw [q1];simp only [Ol,if_true,hb',om]),aU H hn hm (.str _)⟩
    · cases h1
 | kX f caps =>
  obtain ⟨v,u,h1,rfl⟩:=bJ hs
  simp only [zC] at h1
  split at h1
  · rename_i hc
    cases h1
    simp only [iH,List.all_eq_true] at ho hc
    have rel:bC (VW ρ V A) (caps.map fun x=>x.ev e) ((caps.map erO).map fun x=>x.ev e'):=by
     rw [List.map_map]
     refine ⟨by simp,fun j x x' h1 h2=>?_⟩
     rw [List.getElem?_map] at h1 h2
     cases h3:caps[j]? with
     | none=>rw [h3] at h1;cases h1
     | some c=>rw [h3] at h1 h2;cases h1;cases h2;exact he.opd (ho c (List.mem_of_getElem? h3))
    have c2:((caps.map erO).all fun x=>(x.ev e').cell)=true:=by
     simp only [List.all_map,List.all_eq_true]
     intro c hcc
     exact (he.opd (ho c hcc)).cell (hc c hcc)
    exact ⟨_,by simp only [aK,fJ,zC,if_pos c2],aU H hn hm (VW.kX rel)⟩
  · cases h1
 | jX =>
  simp only [stepW,TN,Option.some.injEq] at hs
  subst hs
  refine ⟨_,rfl,?_,nX H hn hm ⟨[],rfl,.nil⟩,wrn⟩
  have:=VW.map (ρ:=up ρ n m) (V:=V) (A:=addN A n) n (.inr rfl) hVn
  rw [un] at this;exact this
 | mD z bytes l c =>
  simp only [iH,Bool.and_eq_true] at ho
  simp only [stepW,YT] at hs
  have hl:=he.opd ho.2.1
  have hc:=he.opd ho.2.2
  split at hs
  · rename_i k1 l1 k2 c1 e1 e2
    rw [e1] at hl
    rw [e2] at hc
    obtain ⟨l2,h1,h⟩:=ay hs
    obtain ⟨c2,h2,h⟩:=ay h
    split at h
    · rename_i hb
      cases h
      have hz:=xJ (ρ:=up ρ n m) (V:=V) (A:=addN A n) z ho.1
      refine ⟨_,by simp only [aK,fJ,Ul,hl.dM,hc.dM,h1,h2,ob,if_pos hb];rfl,?_,?_,wrn⟩
      · have:=VW.sl (ρ:=up ρ n m) (V:=V) (A:=addN A n) n z.length 0 l2 c2 true true (.inr rfl) hVn id
        rw [un] at this
        simp only [← hz.1];exact this
      · refine nX H hn hm ?_
        simp only [← hz.1]
        exact ⟨_,true,rfl,fun _=>rfl,.replicate hz _,fun q e he x hx=>by
         rw [List.eq_of_mem_replicate he] at hx
         exact allC q x hx⟩
    · cases h
  · cases hs
 | fV n' x lo hi =>
  simp only [iH,Bool.and_eq_true] at ho
  have hx:=he.opd (x:=x) ho.1
  simp only [stepW,EU] at hs
  cases hxv:x.ev e <;> rw [hxv] at hs hx <;> simp only [yM] at hs <;> try (cases hs;done)
  · rename_i cs
    obtain ⟨r,hr,q⟩:=aG hs
    cases q
    obtain ⟨cs',q,hc⟩:=hx.rJ
    obtain ⟨v',h2,h3⟩:=Cb (hc.mono fun _ _ _ hx=>hx.mono fun _ q=>q.elim) (xw he ho.2.1) (xw he ho.2.2) hr
    exact ⟨_,by simp only [aK,fJ,yH,q,uF,h2,om],aU H hn hm h3⟩
  · rename_i b i o
    unfold G7 at hs
    split at hs
    case h_2=>cases hs
    rename_i z es mu dt hg
    obtain ⟨cs,hcs,hs⟩:=ay hs
    obtain ⟨r,hr,q⟩:=aG hs
    cases q
    obtain ⟨q,hA,hV⟩:=hx.iL
    obtain ⟨o',g1,es',mu',rfl,gm,ge,gd⟩:=H.obj b _ hg hV
    obtain ⟨cs',h4,h5⟩:=ge.get hcs
    obtain ⟨v',h2,h3⟩:=Cb (h5.drop o) (xw he ho.2.1) (xw he ho.2.2) hr
    refine ⟨_,by simp only [aK,fJ,yH,q,uF,g1,sliceAt,h4,ob,h2,om];rfl,?_,?_,wro hA hV⟩
    · exact h3.mono fun c hc=>⟨(hu c hc).1,(hu c hc).2.1,(hu c hc).2.2⟩
    · refine HW.up (oI H hA hV ?_) hn hm
      exact ⟨_,false,rfl,id,ge,gd⟩
 | slice z x lo hi mx =>
  simp only [iH,Bool.and_eq_true] at ho
  obtain ⟨v,u,h1,rfl⟩:=bJ hs
  obtain ⟨v',h2,h3⟩:=TQ (he.opd ho.1) (xw he ho.2.1) (xw he ho.2.2.1) (xw he ho.2.2.2) (mJ h1)
  exact ⟨_,sZ h2,aU H hn hm h3⟩
 | fld off x =>
  obtain ⟨v,u,h1,rfl⟩:=bJ hs
  have hx:=he.opd (x:=x) ho
  simp only [KY] at h1
  split at h1
  · rename_i cs hc
    cases h1
    rw [hc] at hx
    obtain ⟨cs',q,hr⟩:=hx.rJ
    exact ⟨_,by simp only [aK,fJ,KY,q],aU H hn hm (VW.Oa (hr.drop off))⟩
  · rename_i b i o hc
    cases h1
    rw [hc] at hx
    obtain ⟨q,hA,hV⟩:=hx.iL
    exact ⟨_,by simp only [aK,fJ,KY,q],aU H hn hm (.ptr _ _ _ hA hV)⟩
  · cases h1
 | xG off k ag x =>
  obtain ⟨v,u,h1,rfl⟩:=bJ hs
  have hx:=he.opd (x:=x) ho
  simp only [C9] at h1
  split at h1
  · rename_i cs hc
    rw [hc] at hx
    obtain ⟨cs',q,hr⟩:=hx.lQ
    obtain ⟨v',h2,h3⟩:=uM (hr.drop off) (mJ h1)
    exact ⟨_,by simp only [aK,fJ,C9,q];exact sZ h2,aU H hn hm h3⟩
  · cases h1
 | idxs z x i =>
  simp only [iH,Bool.and_eq_true] at ho
  obtain ⟨v,u,h1,rfl⟩:=bJ hs
  have hx:=he.opd ho.1
  have hi:=he.opd ho.2
  simp only [BZ] at h1
  split at h1
  · rename_i k q hc
    rw [hc] at hi
    obtain ⟨j,h2,h3⟩:=ay h1
    simp only [aK,fJ,BZ,hi.dM,h2,ob]
    cases hxe:x.ev e with
    | ro z' es ex =>
     rw [hxe] at hx h3
     simp only [sV] at h3
     split at h3
     · rename_i hz
       obtain ⟨cs,h4,h5⟩:=ay h3
       cases h5
       rcases hx.lN with ⟨rfl,_⟩ | ⟨es',ex',q,_,hr,hd⟩
       · simp at h4
       · obtain ⟨cs',h6,h7⟩:=hr.get h4
         exact ⟨_,by simp only [q,sV,if_pos hz,h6,ob],aU H hn hm (VW.Oa h7)⟩
     · cases h3
    | sl b z' j2 len cap ex =>
     rw [hxe] at hx h3
     simp only [sV] at h3
     split at h3
     · rename_i hz
       cases h3
       rcases hx.jh with ⟨hA,hV,ex',q,_⟩ | ⟨_,_,_,rfl,_,_⟩
       · exact ⟨_,by simp only [q,sV,if_pos hz],aU H hn hm (.ptr _ _ _ hA hV)⟩
       · omega
     · cases h3
    | _=>rw [hxe] at h3;simp [sV] at h3
  · cases h1
 | kV len z x i =>
  simp only [iH,Bool.and_eq_true] at ho
  obtain ⟨v,u,h1,rfl⟩:=bJ hs
  have hx:=he.opd ho.1
  have hi:=he.opd ho.2
  simp only [CV] at h1
  split at h1
  · rename_i k q hc
    rw [hc] at hi
    obtain ⟨j,h2,h3⟩:=ay h1
    split at h3
    · rename_i hj
      simp only [aK,fJ,CV,hi.dM,h2,ob,if_pos hj]
      cases hxe:x.ev e with
      | rop cs =>
       rw [hxe] at hx h3
       simp only [sK,Option.some.injEq,Prod.mk.injEq] at h3
       obtain ⟨rfl,_⟩:=h3
       obtain ⟨cs',q,hr⟩:=hx.rJ
       exact ⟨_,by simp only [q,sK],aU H hn hm (VW.Oa (hr.drop _))⟩
      | ptr b j2 o =>
       rw [hxe] at hx h3
       simp only [sK,Option.some.injEq,Prod.mk.injEq] at h3
       obtain ⟨rfl,_⟩:=h3
       obtain ⟨q,hA,hV⟩:=hx.iL
       exact ⟨_,by simp only [q,sK],aU H hn hm (.ptr _ _ _ hA hV)⟩
      | _=>rw [hxe] at h3;simp [sK] at h3
    · cases h3
  · cases h1
 | dZ x i =>
  simp only [iH,Bool.and_eq_true] at ho
  obtain ⟨v,u,h1,rfl⟩:=bJ hs
  have hx:=he.opd ho.1
  have hi:=he.opd ho.2
  simp only [pO] at h1
  split at h1
  · rename_i s k q hc1 hc2
    rw [hc1] at hx
    rw [hc2] at hi
    obtain ⟨j,h2,h3⟩:=ay h1
    obtain ⟨c,h4,h5⟩:=ay h3
    cases h5
    exact ⟨_,by simp only [aK,fJ,pO,hx.gY,hi.dM,h2,ob,h4],aU H hn hm (.int _ _)⟩
  · cases h1
 | wR len z ag x i =>
  simp only [iH,Bool.and_eq_true] at ho
  obtain ⟨v,u,h1,rfl⟩:=bJ hs
  have hx:=he.opd ho.1
  have hi:=he.opd ho.2
  simp only [CU] at h1
  split at h1
  · rename_i cs k q hc1 hc2
    rw [hc1] at hx
    rw [hc2] at hi
    obtain ⟨j,h2,h3⟩:=ay h1
    split at h3
    · rename_i hj
      obtain ⟨cs',q,hr⟩:=hx.lQ
      obtain ⟨v',h4,h5⟩:=uM (hr.drop _) (mJ h3)
      exact ⟨_,by simp only [aK,fJ,CU,q,hi.dM,h2,ob,if_pos hj];exact sZ h4,aU H hn hm h5⟩
    · cases h3
  · cases h1
 | look kd z ok mp k =>
  simp only [iH,Bool.and_eq_true] at ho
  simp only [stepW,Vr] at hs
  split at hs
  · rename_i hk
    have hmp:=he.opd ho.2.1
    have hkk:=yQ (he.opd ho.2.2) hk
    have hz:=QT (ρ:=ρ) (V:=V) (A:=A) z ho.1
    split at hs
    · rename_i hc
      cases hs
      rw [hc] at hmp
      cases hnm:(erO mp).ev e' <;> rw [hnm] at hmp <;> cases hmp
      exact ⟨_,by simp only [aK,fJ,Jr,hkk,if_pos hk,hnm],aU H hn hm (O7 hz (r:=none) (r':=none) trivial ok)⟩
    · rename_i b hc
      rw [hc] at hmp
      obtain ⟨q,hA,hV⟩:=hmp.vG
      obtain ⟨v,h1,rfl⟩:=He hs
      unfold Nk at h1
      split at h1
      · rename_i es hg
        obtain ⟨r,h2,rfl⟩:=aG h1
        obtain ⟨o',g1,es',rfl,hr⟩:=H.obj b _ hg hV
        obtain ⟨r',h3,h4⟩:=Ws (A:=A) hr h2
        refine ⟨_,by simp only [aK,fJ,Jr,hkk,if_pos hk,q,g1,lookIn,h3,om,ov],aU H hn hm (O7 hz h4 ok)⟩
      · cases h1
    · cases hs
  · cases hs
 | upd kd mp k v =>
  simp only [iH,Bool.and_eq_true] at ho
  simp only [stepW,aeO] at hs
  split at hs
  · rename_i hk
    have hmp:=he.opd ho.1
    have hkk:=yQ (he.opd ho.2.1) hk.1
    have hv:=(he.opd ho.2.2).isD (ρ':=ρ) (V':=V) (A':=fun _=>False) hk.2
    split at hs
    · rename_i b hc
      rw [hc] at hmp
      obtain ⟨q,hA,hV⟩:=hmp.vG
      unfold QH at hs
      split at hs
      · rename_i es hg
        obtain ⟨r,h2,rfl⟩:=aG hs
        obtain ⟨o',g1,es',rfl,hr⟩:=H.obj b _ hg hV
        obtain ⟨r',h3,h4⟩:=XW hr hv h2
        refine ⟨_,by simp only [aK,fJ,ace,hkk,if_pos hk.1,q,g1,Zr,h3,om];rfl,VW.mM .nil,?_,wro hA hV⟩
        exact HW.up (oI H hA hV ⟨_,rfl,h4⟩) hn hm
      · cases hs
    · cases hs
  · cases hs
 | range x =>
  simp only [stepW,QW] at hs
  have hx:=he.opd (x:=x) ho
  split at hs
  · rename_i s hc
    cases hs
    rw [hc] at hx
    refine ⟨(.ptr m 0 0,[(m,some (.iter s 0))]),by simp only [aK,fJ,Ns,hx.gY],?_,nX H hn hm (show OW _ _ _ (.iter s 0) (.iter s 0) from rfl),wrn⟩
    have:=VW.ptr (ρ:=up ρ n m) (V:=V) (A:=addN A n) n 0 0 (.inr rfl) hVn
    rw [un] at this;exact this
  · cases hs
 | next x =>
  simp only [stepW,UQ] at hs
  have hx:=he.opd (x:=x) ho
  split at hs
  · rename_i b hc
    rw [hc] at hx
    obtain ⟨q,hA,hV⟩:=hx.iL
    unfold AU at hs
    split at hs
    · rename_i s pos hg
      obtain ⟨o',g1,rfl⟩:=H.obj b _ hg hV
      split at hs
      · rename_i hp
        cases hs
        refine ⟨_,by simp only [aK,fJ,Qs,q,g1,nextIter,if_pos hp];rfl,VW.mM (.cons (.bool _) (.cons (.int _ _) (.cons (.int _ _) .nil))),?_,wro hA hV⟩
        exact HW.up (oI H hA hV rfl) hn hm
      · rename_i hp
        cases hs
        exact ⟨_,by simp only [aK,fJ,Qs,q,g1,nextIter,if_neg hp],aU H hn hm (VW.mM (.cons (.bool _) .nil))⟩
    · cases hs
  · cases hs
 | ext i x =>
  obtain ⟨v,u,h1,rfl⟩:=bJ hs
  have hx:=he.opd (x:=x) ho
  simp only [OE] at h1
  split at h1
  · rename_i vs hc
    rw [hc] at hx
    obtain ⟨vs',q,hr⟩:=hx.qY
    obtain ⟨v',h2,h3⟩:=hr.get (mJ h1)
    exact ⟨_,by simp only [aK,fJ,OE,q];exact sZ h2,aU H hn hm h3⟩
  · cases h1
 | len kd x =>
  obtain ⟨v,h1,rfl⟩:=He hs
  have hx:=he.opd (x:=x) ho
  have key:mW kd h' ((erO x).ev e')=some v∧VW ρ V A v v:=by
   cases hxe:x.ev e with
   | str s=>rw [hxe] at hx h1;rw [hx.gY];simp only [qC] at h1;split at h1 <;> cases h1;exact ⟨by simp only [mW];rw [if_pos];assumption,.int _ _⟩
   | bH =>
    rw [hxe] at hx h1
    cases hnm:(erO x).ev e' <;> rw [hnm] at hx <;> cases hx
    simp only [qC] at h1;split at h1 <;> cases h1;exact ⟨by simp only [mW];rw [if_pos];assumption,.int _ _⟩
   | dS =>
    rw [hxe] at hx h1
    cases hnm:(erO x).ev e' <;> rw [hnm] at hx <;> cases hx
    simp only [qC] at h1;split at h1 <;> cases h1;exact ⟨by simp only [mW];rw [if_pos];assumption,.int _ _⟩
   | ro z es ex =>
    rw [hxe] at hx h1
    simp only [qC] at h1;split at h1 <;> cases h1
    rcases hx.lN with ⟨rfl,q⟩ | ⟨es',ex',q,_,hr,_⟩
    · rw [q];exact ⟨by simp only [mW];rw [if_pos];rfl;assumption,.int _ _⟩
    · rw [q];exact ⟨by simp only [mW,← hr.1];rw [if_pos];assumption,.int _ _⟩
   | sl b z i len cap ex =>
    rw [hxe] at hx h1
    simp only [qC] at h1;split at h1 <;> cases h1
    rcases hx.jh with ⟨_,_,ex',q,_⟩ | ⟨_,_,_,rfl,_,q⟩
    · rw [q];exact ⟨by simp only [mW];rw [if_pos];assumption,.int _ _⟩
    · rcases q with q | q
      · rw [q];exact ⟨by simp only [mW];rw [if_pos];rfl;assumption,.int _ _⟩
      · rw [q];exact ⟨by simp only [mW,List.length_nil];rw [if_pos];assumption,.int _ _⟩
   | map b =>
    rw [hxe] at hx h1
    obtain ⟨q,hA,hV⟩:=hx.vG
    simp only [qC] at h1;split at h1
    · rename_i hk
      unfold NP at h1
      split at h1
      · rename_i es hg
        cases h1
        obtain ⟨o',g1,es',rfl,hr⟩:=H.obj b _ hg hV
        exact ⟨by simp only [q,mW,if_pos hk,g1,RN,hr.1],.int _ _⟩
      · cases h1
    · cases h1
   | _=>rw [hxe] at h1;simp [qC] at h1
  exact ⟨_,sZ key.1,aU H hn hm key.2⟩
 | cap x =>
  obtain ⟨v,u,h1,rfl⟩:=bJ hs
  have hx:=he.opd (x:=x) ho
  have h1:=mJ h1
  have key:xq ((erO x).ev e')=some v∧VW ρ V A v v:=by
   cases hxe:x.ev e with
   | bH =>
    rw [hxe] at hx h1
    cases hnm:(erO x).ev e' <;> rw [hnm] at hx <;> cases hx
    simp only [xq] at h1;cases h1;exact ⟨rfl,.int _ _⟩
   | ro z es ex =>
    rw [hxe] at hx h1
    simp only [xq] at h1;split at h1 <;> cases h1
    rename_i hex
    rcases hx.lN with ⟨rfl,q⟩ | ⟨es',ex',q,hxx,hr,_⟩
    · rw [q];exact ⟨rfl,.int _ _⟩
    · rw [q];exact ⟨by simp only [xq,hxx hex,if_true,← hr.1],.int _ _⟩
   | sl b z i len cap ex =>
    rw [hxe] at hx h1
    simp only [xq] at h1;split at h1 <;> cases h1
    rename_i hex
    rcases hx.jh with ⟨_,_,ex',q,hxx⟩ | ⟨_,_,_,_,rfl,q⟩
    · rw [q];exact ⟨by simp only [xq,hxx hex,if_true],.int _ _⟩
    · rcases q with q | q
      · rw [q];exact ⟨rfl,.int _ _⟩
      · rw [q];exact ⟨rfl,.int _ _⟩
   | _=>rw [hxe] at h1;simp [xq] at h1
  exact ⟨_,sZ key.1,aU H hn hm key.2⟩
 | app z bytes zeros s x =>
  simp only [iH,Bool.and_eq_true] at ho
  simp only [stepW,QE] at hs
  have hz:=xJ (ρ:=ρ) (V:=V) (A:=A) z ho.1
  have hss:=he.opd ho.2.1
  have hx:=he.opd ho.2.2
  split at hs
  · rename_i hzz
    split at hs
    · rename_i k q hc
      rw [hc] at hx
      obtain ⟨j,h1,h2⟩:=ay hs
      split at h2
      · rename_i hb
        obtain ⟨r',h3,h4⟩:=Qp H hn hm hss (bC.replicate hz j) (fun q e he x hx=>by
         rw [List.eq_of_mem_replicate he] at hx
         exact allC q x hx) h2
        exact ⟨r',by simp only [aK,fJ,Tf,if_pos hzz,hx.dM,h1,ob,if_pos hb,← hz.1];exact h3,h4⟩
      · cases h2
    · cases hs
  · rename_i hzz
    obtain ⟨⟨xs,d⟩,h1,h2⟩:=ay hs
    obtain ⟨xs',h3,h4,h5⟩:=PI H hx h1
    obtain ⟨r',h6,h7⟩:=Qp H hn hm hss h4 h5 h2
    exact ⟨r',by simp only [aK,fJ,Tf,if_neg hzz,← hz.1,h3,ob];exact h6,h7⟩
 | cpy z d s =>
  simp only [iH,Bool.and_eq_true] at ho
  simp only [stepW,XO] at hs
  have hd:=he.opd ho.1
  have hss:=he.opd ho.2
  obtain ⟨⟨xs,dd⟩,h1,h2⟩:=ay hs
  obtain ⟨xs',h3,h4,h5⟩:=PI H hss h1
  simp only [aK,fJ,acB,h3,ob]
  cases hde:d.ev e with
  | bH =>
   rw [hde] at hd h2
   cases hnm:(erO d).ev e' <;> rw [hnm] at hd <;> cases hd
   simp only [o8,Option.some.injEq] at h2;subst h2
   exact ⟨_,rfl,aU H hn hm (.int _ _)⟩
  | sl b z' i len cap ex =>
   rw [hde] at hd h2
   simp only [o8] at h2
   split at h2
   · rename_i hzz
     subst hzz
     split at h2
     · rename_i hmin
       cases h2
       rcases hd.jh with ⟨_,_,ex',q,_⟩ | ⟨hA,hV,rfl,rfl,rfl,q⟩
       · exact ⟨_,by simp only [q,rQ,if_true,← h4.1,if_pos hmin],aU H hn hm (.int _ _)⟩
       · rcases q with q | q
         · exact ⟨_,by simp only [q,rQ],aU H hn hm (.int _ _)⟩
         · exact ⟨_,by simp only [q,rQ],aU H hn hm (.int _ _)⟩
     · rename_i hmin
       rcases hd.jh with ⟨hA,hV,ex',q,_⟩ | ⟨_,_,_,rfl,_,_⟩
       · unfold N9 at h2
         split at h2
         · rename_i zb es mu dt hg
           split at h2
           · rename_i hc
             cases h2
             obtain ⟨o',g1,es',mu',rfl,gm,ge,gd⟩:=H.obj b _ hg hV
             refine ⟨_,by simp only [q,rQ,if_true,← h4.1,if_neg hmin,g1,S9];rw [if_pos ⟨gm hc.1,hc.2.1,by rw [← ge.1];exact hc.2.2⟩],?_,?_,wro hA hV⟩
             · exact .int _ _
             · refine HW.up (oI H hA hV ?_) hn hm
               refine ⟨_,true,rfl,fun _=>rfl,(ge.take _).append ((h4.take _).append (ge.drop _)),fun q e he x hx=>?_⟩
               simp only [Bool.and_eq_true] at q
               rcases List.mem_append.1 he with q3 | q3
               · exact gd q.1 e (List.mem_of_mem_take q3) x hx
               · rcases List.mem_append.1 q3 with q3 | q3
                 · exact h5 q.2 e (List.mem_of_mem_take q3) x hx
                 · exact gd q.1 e (List.mem_of_mem_drop q3) x hx
           · cases h2
         · cases h2
       · simp at hmin
   · cases h2
  | _=>rw [hde] at h2;simp [o8] at h2
 | clr z d =>
  simp only [iH,Bool.and_eq_true] at ho
  simp only [stepW,afc] at hs
  have hz:=xJ (ρ:=ρ) (V:=V) (A:=A) z ho.1
  have hd:=he.opd ho.2
  simp only [aK,fJ,acC]
  cases hde:d.ev e with
  | bH =>
   rw [hde] at hd hs
   cases hnm:(erO d).ev e' <;> rw [hnm] at hd <;> cases hd
   simp only [Bd,Option.some.injEq] at hs;subst hs
   exact ⟨_,rfl,aU H hn hm (.mM ⟨rfl,by simp⟩)⟩
  | sl b z' i len cap ex =>
   rw [hde] at hd hs
   simp only [Bd] at hs
   split at hs
   · rename_i hzz
     split at hs
     · rename_i h0
       cases hs
       rcases hd.jh with ⟨_,_,ex',q,_⟩ | ⟨hA,hV,rfl,rfl,rfl,q⟩
       · exact ⟨_,by simp only [q,Hw,← hz.1,if_pos hzz,if_pos h0],aU H hn hm (.mM ⟨rfl,by simp⟩)⟩
       · rcases q with q | q
         · exact ⟨_,by simp only [q,Hw],aU H hn hm (.mM ⟨rfl,by simp⟩)⟩
         · exact ⟨_,by simp only [q,Hw],aU H hn hm (.mM ⟨rfl,by simp⟩)⟩
     · rename_i h0
       rcases hd.jh with ⟨hA,hV,ex',q,_⟩ | ⟨_,_,_,rfl,_,_⟩
       · unfold TM at hs
         split at hs
         · rename_i zb es mu dt hg
           split at hs
           · rename_i hc
             cases hs
             obtain ⟨o',g1,es',mu',rfl,gm,ge,gd⟩:=H.obj b _ hg hV
             refine ⟨_,by simp only [q,Hw,← hz.1,if_pos hzz,if_neg h0,g1,abl];rw [if_pos ⟨gm hc.1,hc.2.1,by rw [← ge.1];exact hc.2.2⟩],?_,?_,wro hA hV⟩
             · exact .mM ⟨rfl,by simp⟩
             · refine HW.up (oI H hA hV ?_) hn hm
               refine ⟨_,true,rfl,fun _=>rfl,(ge.take _).append ((bC.replicate hz len).append (ge.drop _)),fun q e he x hx=>?_⟩
               simp only [Bool.and_eq_true] at q
               rcases List.mem_append.1 he with q3 | q3
               · exact gd q.1 e (List.mem_of_mem_take q3) x hx
               · rcases List.mem_append.1 q3 with q3 | q3
                 · rw [List.eq_of_mem_replicate q3] at hx
                   exact allC q.2 x hx
                 · exact gd q.1 e (List.mem_of_mem_drop q3) x hx
           · cases hs
         · cases hs
       · simp at h0
   · cases hs
  | _=>rw [hde] at hs;simp [Bd] at hs
 | mx x y =>
  simp only [iH,Bool.and_eq_true] at ho
  obtain ⟨v,u,h1,rfl⟩:=bJ hs
  have hx:=he.opd ho.1
  have hy:=he.opd ho.2
  simp only [sMx] at h1
  split at h1
  · rename_i k a k' b hc1 hc2
    rw [hc1] at hx
    rw [hc2] at hy
    split at h1
    · rename_i hk;cases h1;exact ⟨_,by simp only [aK,fJ,sMx,hx.dM,hy.dM,if_pos hk],aU H hn hm (.int _ _)⟩
    · cases h1
  · cases h1
 | mn x y =>
  simp only [iH,Bool.and_eq_true] at ho
  obtain ⟨v,u,h1,rfl⟩:=bJ hs
  have hx:=he.opd ho.1
  have hy:=he.opd ho.2
  simp only [sMn] at h1
  split at h1
  · rename_i k a k' b hc1 hc2
    rw [hc1] at hx
    rw [hc2] at hy
    split at h1
    · rename_i hk;cases h1;exact ⟨_,by simp only [aK,fJ,sMn,hx.dM,hy.dM,if_pos hk],aU H hn hm (.int _ _)⟩
    · cases h1
  · cases h1
 | call f args=>simp [stepW] at hs
 | dW g args=>simp [stepW] at hs
 | fail=>simp [stepW] at hs
end
end Go.Pw
end
section
set_option linter.unusedSimpArgs false
set_option linter.unusedVariables false
namespace Go.Pw
open Go Go.Pav
section
variable {ρ:Nat→Nat} {V A:Nat→Prop} {h:aI} {h':Heap}
theorem fP {α β:Type} {R:α→β→Prop} {f:α→Option α} {g:β→Option β} {T:α→β→Prop} (hf:∀ x y,R x y→∀ x',f x=some x'→∃ y',g y=some y'∧T x' y') :
 ∀ {l:List α} {l':List β} {r:List α},bC R l l'→aX f l=some r→∃ r',aX g l'=some r'∧bC T r r':=by
 intro l
 induction l with
 | nil=>intro l' r hr h;rw [hr.dX];simp only [aX,Option.some.injEq] at h;subst h;exact ⟨[],rfl,.nil⟩
 | cons a l ih =>
  intro l' r hr h
  obtain ⟨b,t,rfl,h1,h2⟩:=hr.dF
  simp only [aX] at h ⊢
  obtain ⟨x',h3,h⟩:=ay h
  obtain ⟨xs',h4,rfl⟩:=aG h
  obtain ⟨y',h5,h6⟩:=hf _ _ h1 _ h3
  obtain ⟨ys',h7,h8⟩:=ih h2 h4
  exact ⟨y'::ys',by rw [h5,h7];rfl,.cons h6 h8⟩
theorem UG {x u:AV} (hx:VW ρ V A x u) (hc:isC x=true) (n:Nat):frz h' (n+1) u=some u:=by
 cases hx with
 | fn f cs cs' hl hr =>
  cases cs with
  | nil =>
   have:cs'=[]:=List.length_eq_zero_iff.1 (by simpa using hl.symm)
   subst this;rfl
  | cons a r=>simp [isC] at hc
 | undef=>simp [isC] at hc
 | ptr=>simp [isC] at hc
 | sl=>simp [isC] at hc
 | slv=>simp [isC] at hc
 | map=>simp [isC] at hc
 | agg=>simp [isC] at hc
 | tup=>simp [isC] at hc
 | _=>rfl
theorem KG {α:Type} {f:α→Option α}:∀ {l:List α},(∀ x ∈ l,f x=some x)→aX f l=some l:=by
 intro l
 induction l with
 | nil=>intro _;rfl
 | cons a l ih =>
  intro h
  simp only [aX,h a List.mem_cons_self,ob,ih (fun x hx=>h x (List.mem_cons_of_mem _ hx)),om]
theorem Ho (H:HW ρ V A h h'):∀ (n:Nat) (v u v':AV),VW ρ V A v u→bD h n v=some v'→∃ u',frz h' n u=some u'∧VD ρ V v' u':=by
 intro n
 induction n with
 | zero=>intro v u v' _ hf;simp [bD] at hf
 | succ n ih =>
  intro v u v' hv hf
  cases v with
  | undef=>simp [bD] at hf
  | bool b=>simp only [bD] at hf;cases hf;rw [hv.fC];exact ⟨_,rfl,.bool b⟩
  | int k x=>simp only [bD] at hf;cases hf;rw [hv.dM];exact ⟨_,rfl,.int k x⟩
  | str s=>simp only [bD] at hf;cases hf;rw [hv.gY];exact ⟨_,rfl,.str s⟩
  | dY=>simp only [bD] at hf;cases hf;cases hv;exact ⟨_,rfl,.dY⟩
  | bH=>simp only [bD] at hf;cases hf;cases hv;exact ⟨_,rfl,.bH⟩
  | dS=>simp only [bD] at hf;cases hf;cases hv;exact ⟨_,rfl,.dS⟩
  | dV=>simp only [bD] at hf;cases hf;cases hv;exact ⟨_,rfl,.dV⟩
  | ro z es ex =>
   simp only [bD] at hf;cases hf
   have hd:VW ρ V (fun _=>False) (.ro z es ex) u:=hv.isC rfl
   rcases hv.lN with ⟨rfl,rfl⟩ | ⟨es',ex',rfl,_,_,_⟩
   · exact ⟨_,rfl,hd⟩
   · exact ⟨_,rfl,hd⟩
  | rop cs =>
   simp only [bD] at hf;cases hf
   have hd:VW ρ V (fun _=>False) (.rop cs) u:=hv.isC rfl
   obtain ⟨cs',rfl,_⟩:=hv.rJ
   exact ⟨_,rfl,hd⟩
  | ptr b i o =>
   simp only [bD] at hf
   split at hf
   · rename_i zb es mu dt hg
     obtain ⟨rfl,hA,hV⟩:=hv.iL
     obtain ⟨o',g1,es',mu',rfl,_,ge,gd⟩:=H.obj b _ hg hV
     obtain ⟨cs,hcs,hf⟩:=ay hf
     obtain ⟨cs',hcs',hce⟩:=ge.get hcs
     simp only [frz,g1,hcs',Pav.ob]
     split at hf
     · rename_i hdt
       split at hf
       · cases hf
       · rename_i hn0
         cases hf
         obtain ⟨k,rfl⟩:∃ k,n=k+1:=⟨n - 1,by omega⟩
         have hsub:∀ x ∈ cs.drop o,isC x=true:=fun x hx=>gd hdt cs (List.mem_of_getElem? hcs) x (List.mem_of_mem_drop hx)
         have grel:=hce.drop o
         have hid:aX (frz h' (k+1)) (cs'.drop o)=some (cs'.drop o):=by
          refine KG fun x' hx'=>?_
          obtain ⟨c,hc,q4⟩:=List.getElem_of_mem hx'
          obtain ⟨x,q5,q6⟩:=grel.get' (List.getElem?_eq_getElem hc)
          rw [q4] at q6
          exact UG q6 (hsub x (List.mem_of_getElem? q5)) k
         refine ⟨_,by rw [hid];rfl,?_⟩
         exact VW.Oa (grel.mono fun x x' hx hxx=>hxx.isC (hsub x hx))
     · obtain ⟨cs2,h1,rfl⟩:=aG hf
       obtain ⟨r',h2,h3⟩:=fP (fun a b hab a' ha'=>ih a b a' hab ha') (hce.drop o) h1
       exact ⟨_,by rw [h2];rfl,VW.Oa h3⟩
   · cases hf
  | map b=>simp [bD] at hf
  | sl b z i len cap ex =>
   simp only [bD] at hf
   split at hf
   · rename_i zb es mu dt hg
     rcases hv.jh with ⟨hA,hV,ex',rfl,hx⟩ | ⟨hA,hV,rfl,rfl,rfl,hu⟩
     · obtain ⟨o',g1,es',mu',rfl,_,ge,gd⟩:=H.obj b _ hg hV
       simp only [frz,g1]
       split at hf
       · rename_i hdt
         split at hf
         · cases hf
         · rename_i hn0
           obtain ⟨hlen,hf⟩:=wK hf
           cases hf
           simp only [decide_eq_true_eq] at hlen
           obtain ⟨k,rfl⟩:∃ k,n=k+1:=⟨n - 1,by omega⟩
           have hsub:∀ e ∈ (es.drop i).take len,∀ x ∈ e,isC x=true:=fun e he x hx=>gd hdt e (List.mem_of_mem_drop (List.mem_of_mem_take he)) x hx
           have grel:=(ge.drop i).take len
           have hid:aX (aX (frz h' (k+1))) ((es'.drop i).take len)=some ((es'.drop i).take len):=by
            refine KG fun e' he'=>KG fun x' hx'=>?_
            obtain ⟨a,ha,q1⟩:=List.getElem_of_mem he'
            obtain ⟨e,q2,q3⟩:=grel.get' (List.getElem?_eq_getElem ha)
            rw [q1] at q3
            obtain ⟨c,hc,q4⟩:=List.getElem_of_mem hx'
            obtain ⟨x,q5,q6⟩:=q3.get' (List.getElem?_eq_getElem hc)
            rw [q4] at q6
            exact UG q6 (hsub e (List.mem_of_getElem? q2) x (List.mem_of_getElem? q5)) k
           refine ⟨_,by rw [hid];simp only [ob,og,← grel.1,hlen,decide_true];rfl,?_⟩
           refine VW.XH (grel.mono fun e e' he hee=>hee.mono fun x x' hx hxx=>hxx.isC (hsub e he x hx)) hsub ?_
           simp only [Bool.and_eq_true]
           exact fun q=>⟨hx q.1,q.2⟩
       · obtain ⟨es2,h1,hf⟩:=ay hf
         obtain ⟨hlen,hf⟩:=wK hf
         cases hf
         simp only [Bool.and_eq_true,decide_eq_true_eq,List.all_eq_true] at hlen
         obtain ⟨r',h2,h3⟩:=fP (R:=bC (VW ρ V A)) (g:=aX (frz h' n)) (T:=bC (VD ρ V)) (fun x y hxy x' hx'=>fP (fun a b hab a' ha'=>ih a b a' hab ha') hxy hx') ((ge.drop i).take len) h1
         refine ⟨_,by rw [h2];simp only [ob,og,← h3.1,hlen.1,decide_true];rfl,?_⟩
         refine VW.XH h3 hlen.2 ?_
         simp only [Bool.and_eq_true]
         exact fun q=>⟨hx q.1,q.2⟩
     · obtain ⟨z2,mu2,dt2,q⟩:=H.tH b _ hg hV
       cases q
       have hv':∃ ex2,v'=.ro z [] ex2:=by
        split at hf
        · split at hf
          · cases hf
          · obtain ⟨_,hf⟩:=wK hf
            cases hf;exact ⟨_,rfl⟩
        · obtain ⟨es2,h1,hf⟩:=ay hf
          simp only [List.drop_nil,List.take_nil,aX,Option.some.injEq] at h1
          subst h1
          obtain ⟨_,hf⟩:=wK hf
          cases hf;exact ⟨_,rfl⟩
       obtain ⟨ex2,rfl⟩:=hv'
       rcases hu with rfl | rfl
       · exact ⟨_,rfl,.kJ _ _⟩
       · exact ⟨_,rfl,VW.XH .nil (fun _ h=>by cases h) (fun _=>rfl)⟩
   · cases hf
  | fn f caps =>
   obtain ⟨cs',rfl,hr⟩:=hv.xE
   simp only [bD] at hf
   obtain ⟨cs,h1,rfl⟩:=aG hf
   obtain ⟨r',h2,h3⟩:=fP (fun a b hab a' ha'=>ih a b a' hab ha') hr h1
   exact ⟨_,by simp only [frz,h2];rfl,VW.kX h3⟩
  | agg caps =>
   obtain ⟨cs',rfl,hr⟩:=hv.lQ
   simp only [bD] at hf
   obtain ⟨cs,h1,rfl⟩:=aG hf
   obtain ⟨r',h2,h3⟩:=fP (fun a b hab a' ha'=>ih a b a' hab ha') hr h1
   exact ⟨_,by simp only [frz,h2];rfl,VW.Jp h3⟩
  | tup caps =>
   obtain ⟨cs',rfl,hr⟩:=hv.qY
   simp only [bD] at hf
   obtain ⟨cs,h1,rfl⟩:=aG hf
   obtain ⟨r',h2,h3⟩:=fP (fun a b hab a' ha'=>ih a b a' hab ha') hr h1
   exact ⟨_,by simp only [frz,h2];rfl,VW.mM h3⟩
theorem vZ {x u:AV} (hx:VW ρ V A x u) (hc:isC x=true):∀ n,reach h' n u=[]:=by
 intro n
 cases n with
 | zero=>rfl
 | succ n =>
  cases hx with
  | fn f cs cs' hl hr =>
   cases cs with
   | nil =>
    have:cs'=[]:=List.length_eq_zero_iff.1 (by simpa using hl.symm)
    subst this;rfl
   | cons a r=>simp [isC] at hc
  | undef=>simp [isC] at hc
  | ptr=>simp [isC] at hc
  | sl=>simp [isC] at hc
  | slv=>simp [isC] at hc
  | map=>simp [isC] at hc
  | agg=>simp [isC] at hc
  | tup=>simp [isC] at hc
  | _=>rfl
theorem GY (H:HW ρ V A h h'):∀ (n:Nat) (v u v':AV),VW ρ V A v u→bD h n v=some v'→∀ b' ∈ reach h' n u,∃ b ∈ aT h n v,b'=ρ b∧¬ V b∧A b∧∃ z es mu dt,get h b=some (.cells z es mu dt):=by
 intro n
 induction n with
 | zero=>intro v u v' _ _ b hb;simp [reach] at hb
 | succ n ih =>
  have lst:∀ {l l' r:List AV},bC (VW ρ V A) l l'→aX (bD h n) l=some r→∀ b' ∈ l'.flatMap (reach h' n),∃ b ∈ l.flatMap (aT h n),b'=ρ b∧¬ V b∧A b∧∃ z es mu dt,get h b=some (.cells z es mu dt):=by
   intro l l' r hr hm b' hb'
   simp only [List.mem_flatMap] at hb' ⊢
   obtain ⟨u,hu,hb'⟩:=hb'
   obtain ⟨j,hj,q1⟩:=List.getElem_of_mem hu
   obtain ⟨v,q2,q3⟩:=hr.get' (List.getElem?_eq_getElem hj)
   rw [q1] at q3
   obtain ⟨v',_,q4⟩:=(dB hm).2 j v q2
   obtain ⟨b,q5,q6⟩:=ih v u v' q3 q4 b' hb'
   exact ⟨b,⟨v,List.mem_of_getElem? q2,q5⟩,q6⟩
  intro v u v' hv hf b' hb'
  cases v with
  | undef=>simp [bD] at hf
  | bool b=>rw [hv.fC] at hb';simp [reach] at hb'
  | int k x=>rw [hv.dM] at hb';simp [reach] at hb'
  | str s=>rw [hv.gY] at hb';simp [reach] at hb'
  | dY=>cases hv;simp [reach] at hb'
  | bH=>cases hv;simp [reach] at hb'
  | dS=>cases hv;simp [reach] at hb'
  | dV=>cases hv;simp [reach] at hb'
  | ro z es ex=>rw [vZ hv rfl] at hb';cases hb'
  | rop cs=>rw [vZ hv rfl] at hb';cases hb'
  | ptr b i o =>
   simp only [bD] at hf
   split at hf
   · rename_i zb es mu dt hg
     obtain ⟨rfl,hA,hV⟩:=hv.iL
     obtain ⟨o',g1,es',mu',rfl,_,ge,gd⟩:=H.obj b _ hg hV
     obtain ⟨cs,hcs,hf⟩:=ay hf
     obtain ⟨cs',hcs',hce⟩:=ge.get hcs
     simp only [reach,g1,hcs',Option.getD_some,List.mem_cons] at hb'
     rcases hb' with rfl | hb'
     · exact ⟨b,by simp [aT],rfl,hV,hA,_,_,_,_,hg⟩
     · split at hf
       · rename_i hdt
         exfalso
         simp only [List.mem_flatMap] at hb'
         obtain ⟨x',hx',hb'⟩:=hb'
         obtain ⟨c,hc,q4⟩:=List.getElem_of_mem hx'
         obtain ⟨x,q5,q6⟩:=(hce.drop o).get' (List.getElem?_eq_getElem hc)
         rw [q4] at q6
         have:=gd hdt cs (List.mem_of_getElem? hcs) x (List.mem_of_mem_drop (List.mem_of_getElem? q5))
         rw [vZ q6 this] at hb'
         cases hb'
       · rename_i hdt
         obtain ⟨cs2,h1,rfl⟩:=aG hf
         obtain ⟨b2,q5,q6⟩:=lst (hce.drop o) h1 b' hb'
         refine ⟨b2,?_,q6⟩
         simp only [aT,hg,hcs,Option.getD_some,List.mem_cons]
         right
         rw [if_neg hdt]
         exact q5
   · cases hf
  | map b=>simp [bD] at hf
  | sl b z i len cap ex =>
   simp only [bD] at hf
   split at hf
   · rename_i zb es mu dt hg
     rcases hv.jh with ⟨hA,hV,ex',rfl,hx⟩ | ⟨hA,hV,rfl,rfl,rfl,hu⟩
     · obtain ⟨o',g1,es',mu',rfl,_,ge,gd⟩:=H.obj b _ hg hV
       simp only [reach,g1,List.mem_cons] at hb'
       rcases hb' with rfl | hb'
       · exact ⟨b,by simp [aT],rfl,hV,hA,_,_,_,_,hg⟩
       · split at hf
         · rename_i hdt
           exfalso
           simp only [List.mem_flatMap] at hb'
           obtain ⟨e',he',x',hx',hb'⟩:=hb'
           obtain ⟨a,ha,q1⟩:=List.getElem_of_mem he'
           obtain ⟨e,q2,q3⟩:=((ge.drop i).take len).get' (List.getElem?_eq_getElem ha)
           rw [q1] at q3
           obtain ⟨c,hc,q4⟩:=List.getElem_of_mem hx'
           obtain ⟨x,q5,q6⟩:=q3.get' (List.getElem?_eq_getElem hc)
           rw [q4] at q6
           have:=gd hdt e (List.mem_of_mem_drop (List.mem_of_mem_take (List.mem_of_getElem? q2))) x (List.mem_of_getElem? q5)
           rw [vZ q6 this] at hb'
           cases hb'
         · rename_i hdt
           obtain ⟨es2,h1,hf⟩:=ay hf
           simp only [List.mem_flatMap] at hb'
           obtain ⟨e',he',x',hx',hb'⟩:=hb'
           obtain ⟨a,ha,q1⟩:=List.getElem_of_mem he'
           obtain ⟨e,q2,q3⟩:=((ge.drop i).take len).get' (List.getElem?_eq_getElem ha)
           rw [q1] at q3
           obtain ⟨e2,_,q4⟩:=(dB h1).2 a e q2
           obtain ⟨b2,q5,q6⟩:=lst q3 q4 b' (by simp only [List.mem_flatMap];exact ⟨x',hx',hb'⟩)
           refine ⟨b2,?_,q6⟩
           simp only [aT,hg,List.mem_cons]
           right
           rw [if_neg hdt]
           simp only [List.mem_flatMap] at q5 ⊢
           exact ⟨e,List.mem_of_getElem? q2,q5⟩
     · rcases hu with rfl | rfl <;> simp [reach] at hb'
   · cases hf
  | fn f caps =>
   obtain ⟨cs',rfl,hr⟩:=hv.xE
   simp only [bD] at hf
   obtain ⟨cs,h1,rfl⟩:=aG hf
   simp only [reach] at hb'
   obtain ⟨b,q⟩:=lst hr h1 b' hb'
   exact ⟨b,by simpa only [aT] using q⟩
  | agg caps =>
   obtain ⟨cs',rfl,hr⟩:=hv.lQ
   simp only [bD] at hf
   obtain ⟨cs,h1,rfl⟩:=aG hf
   simp only [reach] at hb'
   obtain ⟨b,q⟩:=lst hr h1 b' hb'
   exact ⟨b,by simpa only [aT] using q⟩
  | tup caps =>
   obtain ⟨cs',rfl,hr⟩:=hv.qY
   simp only [bD] at hf
   obtain ⟨cs,h1,rfl⟩:=aG hf
   simp only [reach] at hb'
   obtain ⟨b,q⟩:=lst hr h1 b' hb'
   exact ⟨b,by simpa only [aT] using q⟩
theorem WG:∀ (n:Nat) (v u:AV),VD ρ V v u→fB n u=true→dA n v=true:=by
 intro n
 induction n with
 | zero=>intro v u _ _;rfl
 | succ n ih =>
  have lst:∀ {l l':List AV},bC (VD ρ V) l l'→l'.any (fB n)=true→l.any (dA n)=true:=by
   intro l l' hr h
   simp only [List.any_eq_true] at h ⊢
   obtain ⟨u,hu,h⟩:=h
   obtain ⟨j,hj,q1⟩:=List.getElem_of_mem hu
   obtain ⟨v,q2,q3⟩:=hr.get' (List.getElem?_eq_getElem hj)
   rw [q1] at q3
   exact ⟨v,List.mem_of_getElem? q2,ih v u q3 h⟩
  intro v u hv h
  cases hv with
  | undef u=>rfl
  | fn f cs cs' hl hr=>simp only [fB] at h;simp only [dA];exact lst ⟨hl,hr⟩ h
  | agg cs cs' hl hr=>simp only [fB] at h;simp only [dA];exact lst ⟨hl,hr⟩ h
  | tup cs cs' hl hr=>simp only [fB] at h;simp only [dA];exact lst ⟨hl,hr⟩ h
  | ro=>rfl
  | rop=>rfl
  | kJ=>rfl
  | ptr _ _ _ hA=>exact hA.elim
  | sl _ _ _ _ _ _ _ hA=>exact hA.elim
  | slv _ _ _ _ hA=>exact hA.elim
  | map _ hA=>exact hA.elim
  | _=>simp [fB] at h
theorem tZ (H:HW ρ V A h h'):∀ (L:List Nat) (L':List Nat),(∀ b' ∈ L',∃ b ∈ L,b'=ρ b∧¬ V b∧A b∧∃ z es mu dt,get h b=some (.cells z es mu dt)) →
 HW ρ V A (bP h (aW h L)) (aQ h' (aV h' L'))∧∀ b' ∈ (aV h' L').map (·.1),∃ b ∈ (aW h L).map (·.1),b'=ρ b∧¬ V b∧A b:=by
 have getW:∀ (h0:aI) (L:List Nat) (g:aI),∀ c,get (bP g (aW h0 L)) c=if c ∈ L then (match get h0 c with | some (.cells z es _ dt)=>some (.cells z es false dt) | _=>get g c) else get g c:=by
  intro h0 L
  induction L with
  | nil=>intro g c;simp [aW,bP]
  | cons b L ih =>
   intro g c
   simp only [aW]
   split
   · rename_i z es mu dt hg
     simp only [bP,AB,ih,get_put,List.mem_cons]
     by_cases e:c=b
     · subst e
       simp only [hg,if_true,true_or]
       split <;> rfl
     · simp only [e,false_or,if_neg (Ne.symm e)]
   · rename_i hg
     rw [ih]
     simp only [List.mem_cons]
     by_cases e:c=b
     · subst e
       simp only [true_or,if_true]
       have:(match get h0 c with | some (.cells z es _ dt)=>some (dG.cells z es false dt) | _=>get g c)=get g c:=by
        split
        · rename_i z es mu dt hg2;exact absurd hg2 (hg z es mu dt)
        · rfl
       first
        | (rw [this];split <;> rfl)
        | (split <;> rfl)
     · simp only [e,false_or]
 have getP:∀ (h0:Heap) (L:List Nat) (g:Heap),∀ c,get (aQ g (aV h0 L)) c=if c ∈ L then (match get h0 c with | some (.cells z es _)=>some (.cells z es false) | _=>get g c) else get g c:=by
  intro h0 L
  induction L with
  | nil=>intro g c;simp [aV,aQ]
  | cons b L ih =>
   intro g c
   simp only [aV]
   split
   · rename_i z es mu hg
     simp only [aQ,qW,ih,get_put,List.mem_cons]
     by_cases e:c=b
     · subst e
       simp only [hg,if_true,true_or]
       split <;> rfl
     · simp only [e,false_or,if_neg (Ne.symm e)]
   · rename_i hg
     rw [ih]
     simp only [List.mem_cons]
     by_cases e:c=b
     · subst e
       simp only [true_or,if_true]
       have:(match get h0 c with | some (.cells z es _)=>some (iV.cells z es false) | _=>get g c)=get g c:=by
        split
        · rename_i z es mu hg2;exact absurd hg2 (hg z es mu)
        · rfl
       first
        | (rw [this];split <;> rfl)
        | (split <;> rfl)
     · simp only [e,false_or]
 have memW:∀ (h0:aI) (L:List Nat) (b:Nat),b ∈ L→(∃ z es mu dt,get h0 b=some (.cells z es mu dt))→b ∈ (aW h0 L).map (·.1):=by
  intro h0 L b
  induction L with
  | nil=>intro hb;cases hb
  | cons a L ih =>
   intro hb hg
   simp only [aW]
   rcases List.mem_cons.1 hb with rfl | hb
   · obtain ⟨z,es,mu,dt,hg⟩:=hg
     rw [hg];simp
   · have:=ih hb hg
     split
     · simp only [List.map_cons,List.mem_cons];exact .inr this
     · exact this
 intro L L' hL
 refine ⟨⟨fun c o hc=>?_,fun c o hc hv=>?_,fun c o hc hv=>?_,H.sub,H.inj⟩,fun b' hb'=>?_⟩
 · rw [getW] at hc
   split at hc
   · split at hc
     · rename_i hg;exact H.dom c _ hg
     · exact H.dom c o hc
   · exact H.dom c o hc
 · rw [getW] at hc
   split at hc
   · split at hc
     · rename_i hg
       obtain ⟨z,mu,dt,q⟩:=H.tH c _ hg hv
       cases q;cases hc
       exact ⟨_,_,_,rfl⟩
     · exact H.tH c o hc hv
   · exact H.tH c o hc hv
 · have hA:A c:=by
    rw [getW] at hc
    split at hc
    · split at hc
      · rename_i hg;exact H.dom c _ hg
      · exact H.dom c o hc
    · exact H.dom c o hc
   have inv:ρ c ∈ L'→c ∈ L:=by
    intro q
    obtain ⟨b,q1,q2,q3,q4,_⟩:=hL _ q
    rw [H.inj c b hA q4 hv q3 q2];exact q1
   rw [getW] at hc
   by_cases hcL:c ∈ L
   · rw [if_pos hcL] at hc
     split at hc
     · rename_i z es mu dt hg
       cases hc
       obtain ⟨o',g1,es',mu',rfl,gm,ge,gd⟩:=H.obj c _ hg hv
       rw [getP]
       split
       · rw [g1];exact ⟨_,rfl,es',false,rfl,id,ge,gd⟩
       · exact ⟨_,g1,es',mu',rfl,(fun q=>by cases q),ge,gd⟩
     · rename_i hng
       obtain ⟨o',g1,g2⟩:=H.obj c o hc hv
       refine ⟨o',?_,g2⟩
       rw [getP]
       split
       · rw [g1]
         cases o with
         | cells z es mu dt=>exact absurd hc (hng z es mu dt)
         | map es=>obtain ⟨es',rfl,_⟩:=g2;rfl
         | iter s p=>cases g2;rfl
       · exact g1
   · rw [if_neg hcL] at hc
     obtain ⟨o',g1,g2⟩:=H.obj c o hc hv
     exact ⟨o',by rw [getP,if_neg (fun q=>hcL (inv q))];exact g1,g2⟩
 · have key:∀ (h0:Heap) (L:List Nat) (b:Nat),b ∈ (aV h0 L).map (·.1)→b ∈ L∧∃ z es mu,get h0 b=some (.cells z es mu):=by
    intro h0 L b
    induction L with
    | nil=>intro hb;simp [aV] at hb
    | cons a L ih =>
     intro hb
     simp only [aV] at hb
     split at hb
     · rename_i z es mu hg
       simp only [List.map_cons,List.mem_cons] at hb
       rcases hb with rfl | hb
       · exact ⟨by simp,_,_,_,hg⟩
       · exact ⟨List.mem_cons_of_mem _ (ih hb).1,(ih hb).2⟩
     · exact ⟨List.mem_cons_of_mem _ (ih hb).1,(ih hb).2⟩
   obtain ⟨q1,z,es,mu,q2⟩:=key h' L' b' hb'
   obtain ⟨b,q3,rfl,q5,q6,q7⟩:=hL b' q1
   exact ⟨b,memW h L b q3 q7,rfl,q5,q6⟩
end
end Go.Pw
end
section
set_option linter.unusedSimpArgs false
set_option linter.unusedVariables false
namespace Go.Pw
open Go Go.Pav
section
variable {ρ ρ2:Nat→Nat} {V A V2 A2:Nat→Prop} {b nid b' mid:Nat}
theorem F7 {R:AV→AV→Prop}:∀ (l l':List AV),l.length=l'.length→(∀ (j:Nat) (x x':AV),l[j]?=some x→l'[j]?=some x'→∀ y,hand b nid x=some y→∃ y',hand b' mid x'=some y'∧R y y') →
 ∀ r,ny b nid l=some r→∃ r',ny b' mid l'=some r'∧bC R r r':=by
 intro l
 induction l with
 | nil =>
  intro l' hl _ r hr
  simp only [ny,Option.some.injEq] at hr
  subst hr
  have:l'=[]:=List.length_eq_zero_iff.1 hl.symm
  subst this
  exact ⟨[],rfl,.nil⟩
 | cons a l ih =>
  intro l' hl hh r hr
  cases l' with
  | nil=>simp at hl
  | cons a' l' =>
   simp only [ny] at hr
   obtain ⟨y,h1,hr⟩:=ay hr
   obtain ⟨ys,h2,rfl⟩:=aG hr
   obtain ⟨y',h3,h4⟩:=hh 0 a a' (by simp) (by simp) y h1
   obtain ⟨ys',h5,h6⟩:=ih l' (by simpa using hl) (fun j x x' p q=>hh (j+1) x x' (by simpa using p) (by simpa using q)) ys h2
   exact ⟨y'::ys',by simp only [ny,h3,h5,ob,om],.cons h4 h6⟩
theorem Kv (hb:A b→(¬ V b∧b'=ρ b∧A2 nid∧¬ V2 nid∧ρ2 nid=mid)∨(V b∧A2 nid∧V2 nid)) {v u:AV} (hv:VW ρ V A v u):∀ v',hand b nid v=some v'→∃ u',hand b' mid u=some u'∧VW ρ2 V2 A2 v' u':=by
 have data:∀ {A:Nat→Prop} {x y:AV},isC x=true→VW ρ V A x y→VW ρ2 V2 A2 x y:=fun hx h=>h.isC hx
 induction hv with
 | undef v=>intro v' h;simp [hand] at h
 | bool t=>intro v' h;simp only [hand] at h;cases h;exact ⟨_,rfl,.bool t⟩
 | int k n=>intro v' h;simp only [hand] at h;cases h;exact ⟨_,rfl,.int k n⟩
 | str s=>intro v' h;simp only [hand] at h;cases h;exact ⟨_,rfl,.str s⟩
 | dY=>intro v' h;simp only [hand] at h;cases h;exact ⟨_,rfl,.dY⟩
 | bH=>intro v' h;simp only [hand] at h;cases h;exact ⟨_,rfl,.bH⟩
 | dS=>intro v' h;simp only [hand] at h;cases h;exact ⟨_,rfl,.dS⟩
 | dV=>intro v' h;simp only [hand] at h;cases h;exact ⟨_,rfl,.dV⟩
 | kJ z ex=>intro v' h;simp only [hand] at h;cases h;exact ⟨_,rfl,.kJ z ex⟩
 | ro z es es' ex ex' hc hl hx he hr _=>intro v' h;simp only [hand] at h;cases h;exact ⟨_,rfl,data rfl (VW.ro (A:=A) z es es' ex ex' hc hl hx he hr)⟩
 | rop cs cs' hl hr _=>intro v' h;simp only [hand] at h;cases h;exact ⟨_,rfl,data rfl (VW.rop (A:=A) cs cs' hl hr)⟩
 | ptr c i o hA hV =>
  intro v' h
  simp only [hand] at h
  split at h
  · rename_i e
    cases h
    subst e
    rcases hb hA with ⟨q1,q2,q3,q4,q5⟩ | ⟨q1,_⟩
    · refine ⟨.ptr mid i o,by simp only [hand,q2,if_true],?_⟩
      rw [← q5];exact .ptr nid i o q3 q4
    · exact absurd q1 hV
  · cases h
 | sl c z i len cap ex ex' hA hV hx =>
  intro v' h
  simp only [hand] at h
  split at h
  · rename_i e
    cases h
    subst e
    rcases hb hA with ⟨q1,q2,q3,q4,q5⟩ | ⟨q1,_⟩
    · refine ⟨.sl mid z i len cap ex',by simp only [hand,q2,if_true],?_⟩
      rw [← q5];exact .sl nid z i len cap ex ex' q3 q4 hx
    · exact absurd q1 hV
  · cases h
 | slv c z ex v hA hV hv =>
  intro v' h
  simp only [hand] at h
  split at h
  · rename_i e
    cases h
    subst e
    rcases hb hA with ⟨q1,_⟩ | ⟨_,q2,q3⟩
    · exact absurd hV q1
    · refine ⟨v,?_,.slv nid z ex v q2 q3 hv⟩
      rcases hv with rfl | rfl <;> rfl
  · cases h
 | map c hA hV=>intro v' h;simp [hand] at h
 | fn f cs cs' hl hr ih =>
  intro v' h
  simp only [hand] at h
  obtain ⟨r,h1,rfl⟩:=aG h
  obtain ⟨r',h2,h3⟩:=F7 cs cs' hl (fun j x x' p q y hy=>ih j x x' p q hb y hy) r h1
  exact ⟨.fn f r',by simp only [hand,h2,om],.kX h3⟩
 | agg cs cs' hl hr ih =>
  intro v' h
  simp only [hand] at h
  obtain ⟨r,h1,rfl⟩:=aG h
  obtain ⟨r',h2,h3⟩:=F7 cs cs' hl (fun j x x' p q y hy=>ih j x x' p q hb y hy) r h1
  exact ⟨.agg r',by simp only [hand,h2,om],.Jp h3⟩
 | tup cs cs' hl hr ih =>
  intro v' h
  simp only [hand] at h
  obtain ⟨r,h1,rfl⟩:=aG h
  obtain ⟨r',h2,h3⟩:=F7 cs cs' hl (fun j x x' p q y hy=>ih j x x' p q hb y hy) r h1
  exact ⟨.tup r',by simp only [hand,h2,om],.mM h3⟩
theorem aia (hA:A b) (hV:¬ V b) {v u:AV} (hv:VW ρ V A v u):∀ v',hand b nid v=some v'→(ng v=none∧ng u=none)∨(ng v=some b∧ng u=some (ρ b)):=by
 have lst:∀ (l l':List AV),l.length=l'.length→(∀ (j:Nat) (x x':AV),l[j]?=some x→l'[j]?=some x'→∀ y,hand b nid x=some y→(ng x=none∧ng x'=none)∨(ng x=some b∧ng x'=some (ρ b))) →
  ∀ r,ny b nid l=some r→(jv l=none∧jv l'=none)∨(jv l=some b∧jv l'=some (ρ b)):=by
  intro l
  induction l with
  | nil =>
   intro l' hl _ r hr
   have:l'=[]:=List.length_eq_zero_iff.1 hl.symm
   subst this
   exact .inl ⟨rfl,rfl⟩
  | cons a l ih =>
   intro l' hl hh r hr
   cases l' with
   | nil=>simp at hl
   | cons a' l' =>
    simp only [ny] at hr
    obtain ⟨y,h1,hr⟩:=ay hr
    obtain ⟨ys,h2,rfl⟩:=aG hr
    rcases hh 0 a a' (by simp) (by simp) y h1 with ⟨q1,q2⟩ | ⟨q1,q2⟩
    · rcases ih l' (by simpa using hl) (fun j x x' p q=>hh (j+1) x x' (by simpa using p) (by simpa using q)) ys h2 with ⟨q3,q4⟩ | ⟨q3,q4⟩
      · exact .inl ⟨by simp only [jv,q1,q3],by simp only [jv,q2,q4]⟩
      · exact .inr ⟨by simp only [jv,q1,q3],by simp only [jv,q2,q4]⟩
    · exact .inr ⟨by simp only [jv,q1],by simp only [jv,q2]⟩
 induction hv with
 | undef v=>intro v' h;simp [hand] at h
 | bool t=>intro v' h;exact .inl ⟨rfl,rfl⟩
 | int k n=>intro v' h;exact .inl ⟨rfl,rfl⟩
 | str s=>intro v' h;exact .inl ⟨rfl,rfl⟩
 | dY=>intro v' h;exact .inl ⟨rfl,rfl⟩
 | bH=>intro v' h;exact .inl ⟨rfl,rfl⟩
 | dS=>intro v' h;exact .inl ⟨rfl,rfl⟩
 | dV=>intro v' h;exact .inl ⟨rfl,rfl⟩
 | kJ z ex=>intro v' h;exact .inl ⟨rfl,rfl⟩
 | ro z es es' ex ex' hc hl hx he hr _=>intro v' h;exact .inl ⟨rfl,rfl⟩
 | rop cs cs' hl hr _=>intro v' h;exact .inl ⟨rfl,rfl⟩
 | ptr c i o hA' hV' =>
  intro v' h
  simp only [hand] at h
  split at h
  · rename_i e;subst e;exact .inr ⟨rfl,rfl⟩
  · cases h
 | sl c z i len cap ex ex' hA' hV' hx =>
  intro v' h
  simp only [hand] at h
  split at h
  · rename_i e;subst e;exact .inr ⟨rfl,rfl⟩
  · cases h
 | slv c z ex v hA' hV' hv =>
  intro v' h
  simp only [hand] at h
  split at h
  · rename_i e;subst e;exact absurd hV' hV
  · cases h
 | map c hA' hV'=>intro v' h;simp [hand] at h
 | fn f cs cs' hl hr ih=>intro v' h;simp only [hand] at h;obtain ⟨r,h1,rfl⟩:=aG h;exact lst cs cs' hl (fun j x x' p q y hy=>ih j x x' p q hA y hy) r h1
 | agg cs cs' hl hr ih=>intro v' h;simp only [hand] at h;obtain ⟨r,h1,rfl⟩:=aG h;exact lst cs cs' hl (fun j x x' p q y hy=>ih j x x' p q hA y hy) r h1
 | tup cs cs' hl hr ih=>intro v' h;simp only [hand] at h;obtain ⟨r,h1,rfl⟩:=aG h;exact lst cs cs' hl (fun j x x' p q y hy=>ih j x x' p q hA y hy) r h1
theorem Ug (hb:A b→V b) {v u:AV} (hv:VW ρ V A v u):∀ v',hand b nid v=some v'→ng u=none:=by
 have lst:∀ (l l':List AV),l.length=l'.length→(∀ (j:Nat) (x x':AV),l[j]?=some x→l'[j]?=some x'→∀ y,hand b nid x=some y→ng x'=none) →
  ∀ r,ny b nid l=some r→jv l'=none:=by
  intro l
  induction l with
  | nil =>
   intro l' hl _ r hr
   have:l'=[]:=List.length_eq_zero_iff.1 hl.symm
   subst this
   rfl
  | cons a l ih =>
   intro l' hl hh r hr
   cases l' with
   | nil=>simp at hl
   | cons a' l' =>
    simp only [ny] at hr
    obtain ⟨y,h1,hr⟩:=ay hr
    obtain ⟨ys,h2,rfl⟩:=aG hr
    have q1:=hh 0 a a' (by simp) (by simp) y h1
    have q2:=ih l' (by simpa using hl) (fun j x x' p q=>hh (j+1) x x' (by simpa using p) (by simpa using q)) ys h2
    simp only [jv,q1,q2]
 induction hv with
 | undef v=>intro v' h;simp [hand] at h
 | bool t=>intro v' h;rfl
 | int k n=>intro v' h;rfl
 | str s=>intro v' h;rfl
 | dY=>intro v' h;rfl
 | bH=>intro v' h;rfl
 | dS=>intro v' h;rfl
 | dV=>intro v' h;rfl
 | kJ z ex=>intro v' h;rfl
 | ro z es es' ex ex' hc hl hx he hr _=>intro v' h;rfl
 | rop cs cs' hl hr _=>intro v' h;rfl
 | ptr c i o hA' hV' =>
  intro v' h
  simp only [hand] at h
  split at h
  · rename_i e;subst e;exact absurd (hb hA') hV'
  · cases h
 | sl c z i len cap ex ex' hA' hV' hx =>
  intro v' h
  simp only [hand] at h
  split at h
  · rename_i e;subst e;exact absurd (hb hA') hV'
  · cases h
 | slv c z ex v hA' hV' hv=>intro v' h;rcases hv with rfl | rfl <;> rfl
 | map c hA' hV'=>intro v' h;simp [hand] at h
 | fn f cs cs' hl hr ih=>intro v' h;simp only [hand] at h;obtain ⟨r,h1,rfl⟩:=aG h;exact lst cs cs' hl (fun j x x' p q y hy=>ih j x x' p q hb y hy) r h1
 | agg cs cs' hl hr ih=>intro v' h;simp only [hand] at h;obtain ⟨r,h1,rfl⟩:=aG h;exact lst cs cs' hl (fun j x x' p q y hy=>ih j x x' p q hb y hy) r h1
 | tup cs cs' hl hr ih=>intro v' h;simp only [hand] at h;obtain ⟨r,h1,rfl⟩:=aG h;exact lst cs cs' hl (fun j x x' p q y hy=>ih j x x' p q hb y hy) r h1
theorem O5 {R:AV→AV→Prop}:∀ {l l':List AV},bC R l l'→(∀ x x',R x x'→gK x=true→gK x'=true)→mZ l=true→mZ l'=true:=by
 intro l
 induction l with
 | nil=>intro l' h _ _;have:=h.dX;subst this;rfl
 | cons a l ih =>
  intro l' h hf hb
  obtain ⟨b,r,rfl,h1,h2⟩:=h.dF
  simp only [mZ,Bool.and_eq_true] at hb ⊢
  exact ⟨hf _ _ h1 hb.1,ih h2 hf hb.2⟩
theorem EG {v u:AV} (hv:VW ρ V A v u):gK v=true→gK u=true:=by
 have lst:∀ (l l':List AV),l.length=l'.length→(∀ (j:Nat) (x x':AV),l[j]?=some x→l'[j]?=some x'→gK x=true→gK x'=true)→mZ l=true→mZ l'=true:=fun l l' h1 h2 h3 =>
  O5 (R:=fun x x'=>gK x=true→gK x'=true) ⟨h1,h2⟩ (fun x x' h=>h) h3
 induction hv with
 | undef v=>intro h;simp [gK] at h
 | kJ z ex=>intro h;rfl
 | ro z es es' ex ex' hc hl hx he hr _ =>
  intro h
  simp only [gK,Bool.and_eq_true,List.isEmpty_iff] at h ⊢
  obtain ⟨rfl,rfl⟩:=h
  exact ⟨List.length_eq_zero_iff.1 hl.symm,hx rfl⟩
 | rop=>intro h;simp [gK] at h
 | slv c z ex v hA hV hv=>intro h;rcases hv with rfl | rfl <;> rfl
 | fn f cs cs' hl hr ih=>intro h;simp only [gK] at h ⊢;exact lst cs cs' hl (fun j x x' p q=>ih j x x' p q) h
 | agg cs cs' hl hr ih=>intro h;simp only [gK] at h ⊢;exact lst cs cs' hl (fun j x x' p q=>ih j x x' p q) h
 | tup cs cs' hl hr ih=>intro h;simp only [gK] at h ⊢;exact lst cs cs' hl (fun j x x' p q=>ih j x x' p q) h
 | _=>intro h;rfl
theorem abA {l l':List AV} (h:bC (VW ρ V A) l l'):mZ l=true→mZ l'=true:=O5 h fun _ _ h=>EG h
theorem Wx {x u:AV} (h:VW ρ V A x u) (hc:isC x=true):lK u=true:=by
 cases h with
 | undef=>simp [Pw.isC] at hc
 | ptr=>simp [Pw.isC] at hc
 | sl=>simp [Pw.isC] at hc
 | slv=>simp [Pw.isC] at hc
 | map=>simp [Pw.isC] at hc
 | agg=>simp [Pw.isC] at hc
 | tup=>simp [Pw.isC] at hc
 | fn f cs cs' hl hr =>
  cases cs with
  | nil =>
   have:cs'=[]:=List.length_eq_zero_iff.1 hl.symm
   subst this
   rfl
  | cons a r=>simp [Pw.isC] at hc
 | _=>rfl
end
end Go.Pw
end
section
set_option linter.unusedSimpArgs false
set_option linter.unusedVariables false
namespace Go.Pw
open Go Go.Pav
def Keeps (ρ:Nat→Nat) (V A:Nat→Prop) (ρ':Nat→Nat) (V' A':Nat→Prop):Prop:=∀ b,A b→A' b∧ρ' b=ρ b∧(V' b↔V b)
theorem Keeps.refl (ρ:Nat→Nat) (V A:Nat→Prop):Keeps ρ V A ρ V A:=fun _ h=>⟨h,rfl,Iff.rfl⟩
theorem Keeps.trans {ρ ρ1 ρ2:Nat→Nat} {V A V1 A1 V2 A2:Nat→Prop} (h:Keeps ρ V A ρ1 V1 A1) (k:Keeps ρ1 V1 A1 ρ2 V2 A2):Keeps ρ V A ρ2 V2 A2:=fun b hb=>by
 obtain ⟨h1,h2,h3⟩:=h b hb
 obtain ⟨k1,k2,k3⟩:=k b h1
 exact ⟨k1,k2.trans h2,k3.trans h3⟩
structure Lts (ρ:Nat→Nat) (V A:Nat→Prop) (n m:Nat):Prop where
 w:∀ b,A b→b < n
 p:∀ b,A b→¬ V b→ρ b < m
def xI (run:wU) (run':Run):Prop :=
 ∀ (f:Nat) (args:List AV) (h:aI) (n:Nat) (v:AV) (h1:aI) (n1:Nat),run f args h n=some (v,h1,n1) →
  ∀ (ρ:Nat→Nat) (V A:Nat→Prop) (args':List AV) (h':Heap) (m:Nat),bC (VW ρ V A) args args'→HW ρ V A h h'→Lts ρ V A n m →
   ∃ v' h1' m1 ρ' V' A',run' f args' h' m=some (v',h1',m1)∧VW ρ' V' A' v v'∧HW ρ' V' A' h1 h1'∧Lts ρ' V' A' n1 m1∧Keeps ρ V A ρ' V' A' ∧
    (∀ b,A' b→A b∨n≤b)∧(∀ b,A' b→¬ V' b→(A b∧ρ' b=ρ b)∨m≤ρ' b)∧n≤n1∧m≤m1
def Q7 (d:kC):List Nat:=match d.bar with | true=>d.wr.tail | false=>d.wr
structure Qc (ρ:Nat→Nat) (V A:Nat→Prop) (nid n mid m:Nat) (d:kC) (d':Did) (ρ':Nat→Nat) (V' A':Nat→Prop):Prop where
 v:VW ρ' V' A' d.v d'.v
 h:HW ρ' V' A' d.h d'.h
 keeps:Keeps ρ V A ρ' V' A'
 new:∀ b,A' b→A b∨b=nid∨n≤b
 aen:∀ b,A' b→¬ V' b→(A b∧ρ' b=ρ b)∨ρ' b=mid∨m≤ρ' b
 lt:Lts ρ' V' A' d.n d'.n
 next:n≤d.n
 Vs:m≤d'.n
 bar:d'.bar=true→d.bar=true∧d.wr=[]
 rd:∀ b ∈ d'.rd,∃ c ∈ d.rd,b=ρ' c∧¬ V' c∧A' c
 wr:∀ b ∈ d'.wr,(∃ c ∈ Q7 d,b=ρ' c∧¬ V' c∧A' c)∨∃ k w,d.bar=true∧d.wr=k::w∧m≤b∧b < d'.n∧∀ c,A' c→¬ V' c→ρ' c=b→k≤c
section
variable {ρ:Nat→Nat} {V A:Nat→Prop} {n m:Nat} {h:aI} {h':Heap} {e e':Env} {C:aJ} {run:wU} {run':Run}
theorem XM:∀ (v:AV),bU v=true→∀ (u:AV),VW ρ V A v u→bU u=true:=by
 intro v
 refine AV.rec (motive_1:=fun v=>bU v=true→∀ (u:AV),VW ρ V A v u→bU u=true) (motive_2:=fun _=>True)
  (motive_3:=fun l=>bT l=true→∀ l',bC (VW ρ V A) l l'→bT l'=true) ?_ ?_ ?_ ?_ ?_ ?_ ?_ ?_ ?_ ?_ ?_ ?_ ?_ ?_ ?_ ?_ ?_ ?_ ?_ ?_ v
 · intro hp;simp [bU] at hp
 · intro b hp;simp [bU] at hp
 · intro b c hp;simp [bU] at hp
 · intro b hp;simp [bU] at hp
 · intro hp;simp [bU] at hp
 · intro hp;simp [bU] at hp
 · intro hp;simp [bU] at hp
 · intro hp;simp [bU] at hp
 · intro z es ex _ hp;simp [bU] at hp
 · intro z _ hp;simp [bU] at hp
 · intro b i o _ u hu
   rw [hu.iL.1];rfl
 · intro b z i len cap ex hp;simp [bU] at hp
 · intro b _ u hu
   rw [hu.vG.1];rfl
 · intro f cs ih hp u hu
   obtain ⟨cs',rfl,hr⟩:=hu.xE
   simp only [bU];exact ih (by simpa only [bU] using hp) cs' hr
 · intro cs ih hp u hu
   obtain ⟨cs',rfl,hr⟩:=hu.lQ
   simp only [bU];exact ih (by simpa only [bU] using hp) cs' hr
 · intro cs ih hp u hu
   obtain ⟨cs',rfl,hr⟩:=hu.qY
   simp only [bU];exact ih (by simpa only [bU] using hp) cs' hr
 · trivial
 · intros;trivial
 · intro hp;simp [bT] at hp
 · intro v l ih1 ih2 hp l' hr
   obtain ⟨u,t,rfl,h1,h2⟩:=hr.dF
   simp only [bT,Bool.or_eq_true] at hp ⊢
   rcases hp with hp | hp
   · exact .inl (ih1 hp u h1)
   · exact .inr (ih2 hp t h2)
theorem TL:∀ (l:List AV),bT l=true→∀ l',bC (VW ρ V A) l l'→bT l'=true:=by
 intro l
 induction l with
 | nil=>intro hp;simp [bT] at hp
 | cons v l ih =>
  intro hp l' hr
  obtain ⟨u,t,rfl,h1,h2⟩:=hr.dF
  simp only [bT,Bool.or_eq_true] at hp ⊢
  rcases hp with hp | hp
  · exact .inl (XM v hp u h1)
  · exact .inr (ih hp t h2)
theorem aaO:∀ (n:Nat) (v u v':AV),VW ρ V A v u→bD h n v=some v'→bU v=false→bU u=false:=by
 intro n
 induction n with
 | zero=>intro v u v' _ hf;simp [bD] at hf
 | succ n ih =>
  have lst:∀ (l l' r:List AV),bC (VW ρ V A) l l'→aX (bD h n) l=some r→bT l=false→bT l'=false:=by
   intro l
   induction l with
   | nil=>intro l' r hr _ _;rw [hr.dX];rfl
   | cons a l ihl =>
    intro l' r hr hm hp
    obtain ⟨b,t,rfl,h1,h2⟩:=hr.dF
    simp only [aX] at hm
    obtain ⟨x,h3,hm⟩:=ay hm
    obtain ⟨xs,h4,rfl⟩:=aG hm
    simp only [bT,Bool.or_eq_false_iff] at hp ⊢
    exact ⟨ih a b x h1 h3 hp.1,ihl t xs h2 h4 hp.2⟩
  intro v u v' hv hf hp
  cases v with
  | undef=>simp [bD] at hf
  | bool b=>rw [hv.fC];simp [bU]
  | int k x=>rw [hv.dM];simp [bU]
  | str s=>rw [hv.gY];simp [bU]
  | dY=>cases hv;simp [bU]
  | bH=>cases hv;simp [bU]
  | dS=>cases hv;simp [bU]
  | dV=>cases hv;simp [bU]
  | ro z es ex=>rcases hv.lN with ⟨rfl,rfl⟩ | ⟨es',ex',rfl,_,_,_⟩ <;> simp [bU]
  | rop cs=>obtain ⟨cs',rfl,_⟩:=hv.rJ;simp [bU]
  | ptr b i o=>simp [bU] at hp
  | map b=>simp [bU] at hp
  | sl b z i len cap ex =>
   rcases hv.jh with ⟨_,_,ex',rfl,_⟩ | ⟨_,_,rfl,rfl,rfl,hu⟩
   · simp [bU]
   · rcases hu with rfl | rfl <;> simp [bU]
  | fn f cs =>
   obtain ⟨cs',rfl,hr⟩:=hv.xE
   simp only [bD] at hf
   obtain ⟨r,h1,rfl⟩:=aG hf
   simp only [bU] at hp ⊢
   exact lst cs cs' r hr h1 hp
  | agg cs =>
   obtain ⟨cs',rfl,hr⟩:=hv.lQ
   simp only [bD] at hf
   obtain ⟨r,h1,rfl⟩:=aG hf
   simp only [bU] at hp ⊢
   exact lst cs cs' r hr h1 hp
  | tup cs =>
   obtain ⟨cs',rfl,hr⟩:=hv.qY
   simp only [bD] at hf
   obtain ⟨r,h1,rfl⟩:=aG hf
   simp only [bU] at hp ⊢
   exact lst cs cs' r hr h1 hp
theorem XY {n:Nat}:∀ (l l' r:List AV),bC (VW ρ V A) l l'→aX (bD h n) l=some r→bT l=false→bT l'=false:=by
 intro l
 induction l with
 | nil=>intro l' r hr _ _;rw [hr.dX];rfl
 | cons a l ihl =>
  intro l' r hr hm hp
  obtain ⟨b,t,rfl,h1,h2⟩:=hr.dF
  simp only [aX] at hm
  obtain ⟨x,h3,hm⟩:=ay hm
  obtain ⟨xs,h4,rfl⟩:=aG hm
  simp only [bT,Bool.or_eq_false_iff] at hp ⊢
  exact ⟨aaO n a b x h1 h3 hp.1,ihl t xs h2 h4 hp.2⟩
theorem Qx (hr:xI run run') {f:Nat} {az az':List AV} {v:AV} (ha:bC (VD ρ V) az az') (hp:jg run f az=some v):∃ v',qG run' f az'=some v'∧VD ρ V v v':=by
 obtain ⟨⟨v0,h0,n0⟩,h1,h2⟩:=ay hp
 obtain ⟨v',h1',m1,ρ',V',A',r1,r2,r3,_⟩:=hr f az [] 0 v0 h0 n0 h1 ρ (fun _=>False) (fun _=>False) az' [] 0 (ha.mono fun x x' _ hx=>hx.data)
  ⟨fun b o hb=>by simp [Pav.get] at hb,fun b o hb=>by simp [Pav.get] at hb,fun b o hb=>by simp [Pav.get] at hb,fun b hb=>hb.elim,fun b c hb=>hb.elim⟩ ⟨fun b hb=>hb.elim,fun b hb=>hb.elim⟩
 obtain ⟨u',r4,r5⟩:=Ho r3 _ _ _ _ r2 h2
 exact ⟨u',by unfold qG;rw [r1];exact r4,r5.data⟩
theorem qm:∀ (u v:dU) (h:aI),bP h (u++v)=bP (bP h u) v:=by
 intro u
 induction u with
 | nil=>intro v h;rfl
 | cons x u ih=>intro v h;obtain ⟨b,o⟩:=x;simp only [List.cons_append,bP];exact ih v _
theorem ab1 (H:HW ρ V A h h') {nid:Nat} (hn:¬ A nid) (mid z:Nat) (mu dt:Bool):HW (up ρ nid mid) (addN V nid) (addN A nid) (put h nid (.cells z [] mu dt)) h':=by
 have hold:∀ b,A b→addN A nid b∧up ρ nid mid b=ρ b∧(addN V nid b↔V b):=by
  intro b hb
  have hne:b≠nid:=fun e=>hn (e ▸ hb)
  refine ⟨.inl hb,by simp [up,hne],⟨fun q=>?_,fun q=>.inl q⟩⟩
  rcases q with q | q
  · exact q
  · exact absurd q hne
 constructor
 · intro b o hb
   rw [get_put] at hb
   split at hb
   · rename_i e;exact .inr e.symm
   · exact .inl (H.dom b o hb)
 · intro b o hb hv
   rw [get_put] at hb
   split at hb
   · cases hb;exact ⟨z,mu,dt,rfl⟩
   · rename_i e
     rcases hv with q | q
     · exact H.tH b o hb q
     · exact absurd q.symm e
 · intro b o hb hv
   rw [get_put] at hb
   split at hb
   · rename_i e;exact absurd (.inr e.symm) hv
   · have hA:=H.dom b o hb
     obtain ⟨_,q2,q3⟩:=hold b hA
     obtain ⟨o',r1,r2⟩:=H.obj b o hb fun q=>hv (.inl q)
     refine ⟨o',by rw [q2];exact r1,r2.mono hold⟩
 · rintro b (q | q)
   · exact .inl (H.sub b q)
   · exact .inr q
 · rintro b c (hb | hb) (hc | hc) h1 h2 he
   · obtain ⟨_,p2,_⟩:=hold b hb
     obtain ⟨_,q2,_⟩:=hold c hc
     rw [p2,q2] at he
     exact H.inj b c hb hc (fun q=>h1 (.inl q)) (fun q=>h2 (.inl q)) he
   · exact absurd (.inr hc) h2
   · exact absurd (.inr hb) h1
   · exact hb.trans hc.symm
theorem Fp (n b:Nat):∀ (h1 h:aI),get (bP h (Di n h1)) b=if n≤b then (match get h1 b with | some o=>some o | none=>get h b) else get h b:=by
 intro h1
 induction h1 with
 | nil=>intro h;simp [Di,bP,Pav.get]
 | cons x r ih =>
  intro h
  obtain ⟨c,o⟩:=x
  by_cases hc:n≤c
  · have e:Di n ((c,o)::r)=Di n r++[(c,some o)]:=by simp [Di,hc]
    rw [e,qm]
    simp only [bP,AB,get_put,Pav.get]
    by_cases q:c=b
    · subst q;simp [hc]
    · simp only [if_neg q];exact ih h
  · have e:Di n ((c,o)::r)=Di n r:=by simp [Di,hc]
    rw [e,ih h]
    simp only [Pav.get]
    by_cases q:c=b
    · subst q;simp [hc]
    · simp only [if_neg q]
theorem HW.union {ρ1:Nat→Nat} {V1 A1:Nat→Prop} {h1:aI} {h1':Heap} (H:HW ρ V A h h') (H1:HW ρ1 V1 A1 h1 h1') (hA:∀ b,A b→b < n) (hA1:∀ b,A1 b→n≤b) (hp:∀ b,A b→¬ V b→ρ b < m) {m1:Nat} (hp1:∀ b,A1 b→¬ V1 b→m≤ρ1 b∧ρ1 b < m1) :
 Keeps ρ V A (fun b=>if n≤b then ρ1 b else ρ b) (fun b=>V b∨V1 b) (fun b=>A b∨A1 b)∧Keeps ρ1 V1 A1 (fun b=>if n≤b then ρ1 b else ρ b) (fun b=>V b∨V1 b) (fun b=>A b∨A1 b) ∧
 HW (fun b=>if n≤b then ρ1 b else ρ b) (fun b=>V b∨V1 b) (fun b=>A b∨A1 b) (bP h (Di n h1)) (aQ h' (ups m m1 h1')):=by
 have k:Keeps ρ V A (fun b=>if n≤b then ρ1 b else ρ b) (fun b=>V b∨V1 b) (fun b=>A b∨A1 b):=fun b hb=>by
  have:=hA b hb
  exact ⟨.inl hb,if_neg (by omega),⟨fun q=>q.elim id fun q=>by have:=hA1 b (H1.sub b q);omega,.inl⟩⟩
 have k1:Keeps ρ1 V1 A1 (fun b=>if n≤b then ρ1 b else ρ b) (fun b=>V b∨V1 b) (fun b=>A b∨A1 b):=fun b hb=>by
  have:=hA1 b hb
  exact ⟨.inr hb,if_pos this,⟨fun q=>q.elim (fun q=>by have:=hA b (H.sub b q);omega) id,.inr⟩⟩
 have key:∀ b o,get (bP h (Di n h1)) b=some o→(get h1 b=some o∧n≤b)∨(get h b=some o∧¬ n≤b):=by
  intro b o hb
  rw [Fp] at hb
  by_cases q:n≤b
  · rw [if_pos q] at hb
    cases hq:get h1 b with
    | some o1=>rw [hq] at hb;cases hb;exact .inl ⟨rfl,q⟩
    | none=>rw [hq] at hb;exact .inr ⟨hb,by have:=hA b (H.dom b _ hb);omega⟩
  · rw [if_neg q] at hb;exact .inr ⟨hb,q⟩
 refine ⟨k,k1,?_,?_,?_,?_,?_⟩
 · intro b o hb
   rcases key b o hb with ⟨q,_⟩ | ⟨q,_⟩
   · exact .inr (H1.dom b o q)
   · exact .inl (H.dom b o q)
 · intro b o hb hv
   rcases key b o hb with ⟨q,q2⟩ | ⟨q,q2⟩
   · exact H1.tH b o q ((k1 b (H1.dom b o q)).2.2.1 hv)
   · exact H.tH b o q ((k b (H.dom b o q)).2.2.1 hv)
 · intro b o hb hv
   rcases key b o hb with ⟨q,q2⟩ | ⟨q,q2⟩
   · have hA':=H1.dom b o q
     have hv':¬ V1 b:=fun p=>hv (.inr p)
     obtain ⟨o',e1,e2⟩:=H1.obj b o q hv'
     refine ⟨o',?_,e2.mono k1⟩
     rw [JD]
     simp only [if_pos q2]
     rw [if_pos (hp1 b hA' hv'),e1]
   · have hA':=H.dom b o q
     have hv':¬ V b:=fun p=>hv (.inl p)
     obtain ⟨o',e1,e2⟩:=H.obj b o q hv'
     refine ⟨o',?_,e2.mono k⟩
     rw [JD]
     simp only [if_neg q2]
     rw [if_neg (by have:=hp b hA' hv';omega)]
     exact e1
 · rintro b (q | q)
   · exact .inl (H.sub b q)
   · exact .inr (H1.sub b q)
 · have f0:∀ b,A b→(if n≤b then ρ1 b else ρ b)=ρ b:=fun b hb=>(k b hb).2.1
   have f1:∀ b,A1 b→(if n≤b then ρ1 b else ρ b)=ρ1 b:=fun b hb=>(k1 b hb).2.1
   rintro b c (hb | hb) (hc | hc) g1 g2 he
   · rw [f0 b hb,f0 c hc] at he
     exact H.inj b c hb hc (fun q=>g1 (.inl q)) (fun q=>g2 (.inl q)) he
   · rw [f0 b hb,f1 c hc] at he
     have h1:=hp b hb (fun q=>g1 (.inl q))
     have h2:=(hp1 c hc (fun q=>g2 (.inr q))).1
     omega
   · rw [f1 b hb,f0 c hc] at he
     have h1:=(hp1 b hb (fun q=>g1 (.inr q))).1
     have h2:=hp c hc (fun q=>g2 (.inl q))
     omega
   · rw [f1 b hb,f1 c hc] at he
     exact H1.inj b c hb hc (fun q=>g1 (.inr q)) (fun q=>g2 (.inr q)) he
theorem Zg (hr:xI run run') (H:HW ρ V A h h') (lt:Lts ρ V A n m) {nid mid:Nat} (hn:¬ A nid) (hnl:nid < n) (hm:∀ b,A b→¬ V b→ρ b≠mid) (hml:mid < m) {f:Nat} {args args':List AV} (ha:bC (VW ρ V A) args args') {c:wo} (hc:jf C run f args h nid n=some c) :
 ∃ c' ρ' V' A',jr (fD C) run' f args' h' mid m=some c'∧Qc ρ V A nid n mid m (jd h n args c) (bY h' m args' c') ρ' V' A':=by
 have whole:∀ {r:AV × aI × Nat},run f args h n=some r→∃ r' ρ' V' A',run' f args' h' m=some r'∧Qc ρ V A nid n mid m (jd h n args (.whole r.1 r.2.1 r.2.2)) (bY h' m args' (.whole r'.1 r'.2.1 r'.2.2)) ρ' V' A':=by
  rintro ⟨v,h1,n1⟩ hrun
  obtain ⟨v',h1',m1,ρ',V',A',r1,r2,r3,r4,r5,r6,r7,r8,r9⟩:=hr f args h n v h1 n1 hrun ρ V A args' h' m ha H lt
  refine ⟨(v',h1',m1),ρ',V',A',r1,r2,r3,r5,fun b hb=>?_,fun b hb hv=>?_,r4,r8,r9,fun _=>⟨rfl,rfl⟩,fun b hb=>by simp [bY] at hb,fun b hb=>by simp [bY] at hb⟩
  · rcases r6 b hb with q | q
    · exact .inl q
    · exact .inr (.inr q)
  · rcases r7 b hb hv with q | q
    · exact .inl q
    · exact .inr (.inr q)
 unfold jf at hc
 split at hc
 · rename_i hi
   split at hc
   · rename_i hfr
     obtain ⟨az,h1,h2⟩:=ay hc
     have hreach:∀ b' ∈ args'.flatMap (reach h' aF),∃ b ∈ args.flatMap (aT h aF),b'=ρ b∧¬ V b∧A b∧∃ z es mu dt,get h b=some (.cells z es mu dt):=by
      intro b' hb'
      simp only [List.mem_flatMap] at hb' ⊢
      obtain ⟨u,hu,hb'⟩:=hb'
      obtain ⟨j,hj,q1⟩:=List.getElem_of_mem hu
      obtain ⟨x,q2,q3⟩:=ha.get' (List.getElem?_eq_getElem hj)
      rw [q1] at q3
      obtain ⟨x',_,q4⟩:=(dB h1).2 j x q2
      obtain ⟨b,q5,q6⟩:=GY H aF x u x' q3 q4 b' hb'
      exact ⟨b,⟨x,List.mem_of_getElem? q2,q5⟩,q6⟩
     by_cases hdp:sH f=true
     · rw [if_pos hdp] at h2
       obtain ⟨⟨v0,h0,n0⟩,hrun,rfl⟩:=aG h2
       obtain ⟨az',h4,h5⟩:=fP (fun x y hxy x' hx'=>Ho H aF x y x' hxy hx') ha h1
       obtain ⟨v0',h0',m0,ρ1,V1,A1,r1,r2,r3,r4,r5,r6,r7,r8,r9⟩:=hr f az [] n v0 h0 n0 hrun ρ (fun _=>False) (fun _=>False) az' [] m (h5.mono fun x x' _ hx=>hx.data)
        ⟨fun b o hb=>by simp [Pav.get] at hb,fun b o hb=>by simp [Pav.get] at hb,fun b o hb=>by simp [Pav.get] at hb,fun b hb=>hb.elim,fun b c hb=>hb.elim⟩ ⟨fun b hb=>hb.elim,fun b hb=>hb.elim⟩
       obtain ⟨k1,k2⟩:=tZ H _ _ hreach
       have hA1:∀ b,A1 b→n≤b:=fun b hb=>(r6 b hb).elim (fun q=>q.elim) id
       have hp1:∀ b,A1 b→¬ V1 b→m≤ρ1 b∧ρ1 b < m0:=fun b hb hv=>⟨(r7 b hb hv).elim (fun q=>q.1.elim) id,r4.p b hb hv⟩
       obtain ⟨u1,u2,u3⟩:=k1.union r3 lt.w hA1 lt.p hp1
       refine ⟨.deep v0' (aV h' (args'.flatMap (reach h' aF))++ups m m0 h0') m0,(fun b=>if n≤b then ρ1 b else ρ b),(fun b=>V b∨V1 b),(fun b=>A b∨A1 b),?_,?_⟩
       · simp only [jr,fD,hi,Bool.true_or,if_true,hdp,Bool.and_self,h4,ob,xR,r1,om]
       · have f0:∀ b,A b→(if n≤b then ρ1 b else ρ b)=ρ b:=fun b hb=>(u1 b hb).2.1
         have f1:∀ b,A1 b→(if n≤b then ρ1 b else ρ b)=ρ1 b:=fun b hb=>(u2 b hb).2.1
         simp only [jd,bY]
         refine ⟨r2.mono u2,by rw [iF];exact u3,u1,?_,?_,⟨?_,?_⟩,r8,r9,fun q=>(by cases q),?_,?_⟩
         · rintro b (hb | hb)
           · exact .inl hb
           · exact .inr (.inr (hA1 b hb))
         · rintro b (hb | hb) hv
           · exact .inl ⟨hb,(u1 b hb).2.1⟩
           · refine .inr (.inr ?_)
             simp only [f1 b hb]
             exact (hp1 b hb fun q=>hv (.inr q)).1
         · rintro b (hb | hb)
           · exact Nat.lt_of_lt_of_le (lt.w b hb) r8
           · exact r4.w b hb
         · rintro b (hb | hb) hv
           · simp only [f0 b hb]
             exact Nat.lt_of_lt_of_le (lt.p b hb fun q=>hv (.inl q)) r9
           · simp only [f1 b hb]
             exact r4.p b hb fun q=>hv (.inr q)
         · intro b' hb'
           obtain ⟨b,q1,q2,q3,q4,_⟩:=hreach b' hb'
           exact ⟨b,q1,by simp only [f0 b q4];exact q2,fun q=>q3 ((u1 b q4).2.2.1 q),.inl q4⟩
         · intro b' hb'
           rw [List.map_append] at hb'
           rcases List.mem_append.1 hb' with hb' | hb'
           · obtain ⟨c,s1,s2,s3,s4⟩:=k2 b' hb'
             exact .inl ⟨c,s1,by simp only [f0 c s4];exact s2,fun q=>s3 ((u1 c s4).2.2.1 q),.inl s4⟩
           · refine .inr ⟨n,_,rfl,rfl,?_,?_,?_⟩
             · simp only [ups,List.map_reverse,List.mem_reverse,List.mem_map,List.mem_filter,decide_eq_true_eq] at hb'
               obtain ⟨_,⟨x,⟨_,q⟩,rfl⟩,rfl⟩:=hb'
               exact q.1
             · simp only [ups,List.map_reverse,List.mem_reverse,List.mem_map,List.mem_filter,decide_eq_true_eq] at hb'
               obtain ⟨_,⟨x,⟨_,q⟩,rfl⟩,rfl⟩:=hb'
               exact q.2
             · rintro c (hc | hc) hv he
               · simp only [f0 c hc] at he
                 have h1:=lt.p c hc fun q=>hv (.inl q)
                 have h2:m≤b':=by
                  simp only [ups,List.map_reverse,List.mem_reverse,List.mem_map,List.mem_filter,decide_eq_true_eq] at hb'
                  obtain ⟨_,⟨x,⟨_,q⟩,rfl⟩,rfl⟩:=hb'
                  exact q.1
                 omega
               · exact hA1 c hc
     rw [if_neg hdp] at h2
     obtain ⟨x,h3,hend⟩:=ay h2
     unfold wP at hend
     split at hend
     · cases hend
     rename_i hbr0
     cases hend
     have hbr:rW f=true→mV x=true:=by
      intro hb
      simpa [hb] using hbr0
     obtain ⟨az',h4,h5⟩:=fP (fun x y hxy x' hx'=>Ho H aF x y x' hxy hx') ha h1
     obtain ⟨⟨v0,h0,n0⟩,hrun,hx⟩:=ay h3
     obtain ⟨v0',h0',m0,ρ1,V1,A1,r1,r2,r3,r4,_⟩:=hr f az [] 0 v0 h0 n0 hrun ρ (fun _=>False) (fun _=>False) az' [] 0 (h5.mono fun x x' _ hx=>hx.data)
      ⟨fun b o hb=>by simp [Pav.get] at hb,fun b o hb=>by simp [Pav.get] at hb,fun b o hb=>by simp [Pav.get] at hb,fun b hb=>hb.elim,fun b c hb=>hb.elim⟩ ⟨fun b hb=>hb.elim,fun b hb=>hb.elim⟩
     have hmk:HW ρ V A (bP h (vW f (aW h (args.flatMap (aT h aF))))) (aQ h' (Bl f (aV h' (args'.flatMap (reach h' aF))))) ∧
      ∀ b' ∈ (Bl f (aV h' (args'.flatMap (reach h' aF)))).map (·.1),∃ b ∈ (vW f (aW h (args.flatMap (aT h aF)))).map (·.1),b'=ρ b∧¬ V b∧A b:=by
      unfold Bl vW
      split
      · exact ⟨H,fun b hb=>by simp at hb⟩
      · exact tZ H _ _ hreach
     obtain ⟨k1,k2⟩:=hmk
     have hgo:∀ {x':AV × Upd},iG run' f az' mid=some x'→(rW f=true→sW x'=true)→jr (fD C) run' f args' h' mid m=some (.data x'.1 (Bl f (aV h' (args'.flatMap (reach h' aF)))++x'.2)):=by
      intro x' hx' hb'
      have hb2:(rW f&&!sW x')=false:=by
       cases hq:rW f with
       | false=>rfl
       | true=>simp [hb' hq]
      have hdp':sH f=false:=by simpa using hdp
      simp only [jr,fD,hi,Bool.true_or,if_true,hfr,hdp',Bool.and_self,Bool.and_false,h4,hx',ob,yP,hb2,Bool.false_eq_true,if_false]
     have rdOk:∀ {ρ':Nat→Nat} {V' A':Nat→Prop},(∀ b,A b→A' b∧ρ' b=ρ b∧(V' b↔V b))→∀ b' ∈ args'.flatMap (reach h' aF),∃ c ∈ args.flatMap (aT h aF),b'=ρ' c∧¬ V' c∧A' c:=by
      intro ρ' V' A' hk b' hb'
      obtain ⟨b,q1,q2,q3,q4,_⟩:=hreach b' hb'
      obtain ⟨s1,s2,s3⟩:=hk b q4
      exact ⟨b,q1,by rw [s2];exact q2,fun q=>q3 (s3.1 q),s1⟩
     have hold2:∀ b,A b→addN A nid b∧up ρ nid mid b=ρ b∧(addN V nid b↔V b):=by
      intro b hb
      have hne:b≠nid:=fun e=>hn (e ▸ hb)
      refine ⟨.inl hb,by simp [up,hne],⟨fun q=>?_,fun q=>.inl q⟩⟩
      rcases q with q | q
      · exact q
      · exact absurd q hne
     have hold1:∀ b,A b→addN A nid b∧up ρ nid mid b=ρ b∧(V b↔V b):=pK hn
     have hVn:¬ V nid:=fun q=>hn (H.sub nid q)
     simp only at hx
     split at hx
     · rename_i hown
       obtain ⟨v,h6,rfl⟩:=aG hx
       have hnA:¬ A1 n0:=fun q=>Nat.lt_irrefl _ (r4.w n0 q)
       obtain ⟨u',q1,q2⟩:=Kv (ρ2:=ρ) (V2:=V) (A2:=A) (b':=m0) (mid:=0) (fun q=>absurd q hnA) r2 v h6
       have q3:=Ug (fun q=>absurd q hnA) r2 v h6
       have hfc:iG run' f az' mid=some (u',[]):=by
        unfold iG
        rw [r1]
        simp only [ob,q3,q1,om]
       have hbx:rW f=true→sW (u',([]:Upd))=true:=by
        intro hb
        have:=hbr hb
        simp only [mV,sW,List.all_nil,Bool.and_true] at this ⊢
        exact EG q2 this
       refine ⟨_,ρ,V,A,hgo hfc hbx,?_⟩
       simp only [jd,bY,List.append_nil]
       exact ⟨q2,k1,Keeps.refl ρ V A,fun b hb=>.inl hb,fun b hb _=>.inl ⟨hb,rfl⟩,lt,Nat.le_refl _,Nat.le_refl _,fun q=>(by cases q),rdOk fun b hb=>⟨hb,rfl,Iff.rfl⟩,fun b hb=>.inl (k2 b hb)⟩
     · rename_i b hown
       unfold zy at hx
       split at hx
       · rename_i z es mu dt hg
         split at hx
         · rename_i hmd
           obtain ⟨v,h6,rfl⟩:=aG hx
           simp only [Bool.and_eq_true] at hmd
           obtain ⟨rfl,rfl⟩:=hmd
           have hA1:A1 b:=r3.dom b _ hg
           by_cases hV1:V1 b
           · obtain ⟨z',mu',dt',e⟩:=r3.tH b _ hg hV1
             cases e
             obtain ⟨u',q1,q2⟩:=Kv (ρ2:=up ρ nid mid) (V2:=addN V nid) (A2:=addN A nid) (b':=m0) (mid:=0) (fun _=>.inr ⟨hV1,.inr rfl,.inr rfl⟩) r2 v h6
             have q3:=Ug (fun _=>hV1) r2 v h6
             have hfc:iG run' f az' mid=some (u',[]):=by
              unfold iG
              rw [r1]
              simp only [ob,q3,q1,om]
             have hbx:rW f=true→sW (u',([]:Upd))=true:=by
              intro hb
              have:=hbr hb
              simp only [mV,sW,List.all_nil,Bool.and_true,Bool.and_eq_true] at this ⊢
              exact EG q2 this.1
             refine ⟨_,up ρ nid mid,addN V nid,addN A nid,hgo hfc hbx,?_⟩
             simp only [jd,bY,List.append_nil]
             refine ⟨q2,?_,hold2,?_,?_,⟨?_,?_⟩,Nat.le_refl _,Nat.le_refl _,fun q=>(by cases q),rdOk hold2,?_⟩
             · rw [qm]
               exact ab1 k1 hn mid z true true
             · rintro c (hc | hc)
               · exact .inl hc
               · exact .inr (.inl hc)
             · rintro c (hc | hc) hv
               · exact .inl ⟨hc,(hold2 c hc).2.1⟩
               · exact absurd (.inr hc) hv
             · rintro c (hc | hc)
               · exact lt.w c hc
               · subst hc;exact hnl
             · rintro c (hc | hc) hv
               · rw [(hold2 c hc).2.1];exact lt.p c hc fun q=>hv (.inl q)
               · exact absurd (.inr hc) hv
             · intro b' hb'
               obtain ⟨c,s1,s2,s3,s4⟩:=k2 b' hb'
               obtain ⟨t1,t2,t3⟩:=hold2 c s4
               exact .inl ⟨c,by simp only [Q7];rw [List.map_append];exact List.mem_append_left _ s1,by rw [t2];exact s2,fun q=>s3 (t3.1 q),t1⟩
           · obtain ⟨o',g1,g2⟩:=r3.obj b _ hg hV1
             obtain ⟨es',mu',rfl,e1,e2,e3⟩:=g2
             have hmu:=e1 rfl
             subst hmu
             obtain ⟨u',q1,q2⟩:=Kv (ρ2:=up ρ nid mid) (V2:=V) (A2:=addN A nid) (b':=ρ1 b) (mid:=mid) (fun _=>.inl ⟨hV1,rfl,.inr rfl,hVn,by simp [up]⟩) r2 v h6
             have q3:ng v0'=some (ρ1 b):=by
              rcases aia hA1 hV1 r2 v h6 with ⟨s1,_⟩ | ⟨_,s2⟩
              · rw [hown] at s1;cases s1
              · exact s2
             have hcells:bC (bC (VW (up ρ nid mid) V (addN A nid))) es es':=e2.mono fun e e' he hee=>hee.mono fun x x' hx hxx=>hxx.isC (e3 rfl e he x hx)
             have hpl:(es'.all fun e=>e.all lK)=true:=by
              rw [List.all_eq_true]
              intro e' he'
              rw [List.all_eq_true]
              intro x' hx'
              obtain ⟨j,hj,p1⟩:=List.getElem_of_mem he'
              obtain ⟨e,p2,p3⟩:=e2.get' (List.getElem?_eq_getElem hj)
              rw [p1] at p3
              obtain ⟨k,hk,p4⟩:=List.getElem_of_mem hx'
              obtain ⟨x,p5,p6⟩:=p3.get' (List.getElem?_eq_getElem hk)
              rw [p4] at p6
              exact Wx p6 (e3 rfl e (List.mem_of_getElem? p2) x (List.mem_of_getElem? p5))
             have hfc:iG run' f az' mid=some (u',[(mid,some (.cells z es' true))]):=by
              unfold iG
              rw [r1]
              simp only [ob,q3,g1,DX,hpl,Bool.and_self,if_true,q1,om]
             have hbx:rW f=true→sW (u',[(mid,some (.cells z es' true))])=true:=by
              intro hb
              have:=hbr hb
              simp only [mV,sW,List.all_nil,List.all_cons,RJ,abB,Bool.and_true,Bool.and_eq_true] at this ⊢
              refine ⟨EG q2 this.1,?_⟩
              rw [List.all_eq_true]
              intro e' he'
              obtain ⟨j,hj,p1⟩:=List.getElem_of_mem he'
              obtain ⟨e,p2,p3⟩:=e2.get' (List.getElem?_eq_getElem hj)
              rw [p1] at p3
              exact abA p3 (List.all_eq_true.1 this.2 e (List.mem_of_getElem? p2))
             refine ⟨_,up ρ nid mid,V,addN A nid,hgo hfc hbx,?_⟩
             simp only [jd,bY]
             refine ⟨q2,?_,hold1,?_,?_,⟨?_,?_⟩,Nat.le_refl _,Nat.le_refl _,fun q=>(by cases q),rdOk hold1,?_⟩
             · rw [qm,iF]
               exact nX k1 hn hm ⟨es',true,rfl,fun _=>rfl,hcells,e3⟩
             · rintro c (hc | hc)
               · exact .inl hc
               · exact .inr (.inl hc)
             · rintro c (hc | hc) hv
               · exact .inl ⟨hc,(hold1 c hc).2.1⟩
               · subst hc;exact .inr (.inl (by simp [up]))
             · rintro c (hc | hc)
               · exact lt.w c hc
               · subst hc;exact hnl
             · rintro c (hc | hc) hv
               · rw [(hold1 c hc).2.1];exact lt.p c hc hv
               · subst hc;simp only [up,if_true];exact hml
             · intro b' hb'
               rw [List.map_append] at hb'
               rcases List.mem_append.1 hb' with hb' | hb'
               · obtain ⟨c,s1,s2,s3,s4⟩:=k2 b' hb'
                 obtain ⟨t1,t2,t3⟩:=hold1 c s4
                 exact .inl ⟨c,by simp only [Q7];rw [List.map_append];exact List.mem_append_left _ s1,by rw [t2];exact s2,s3,t1⟩
               · simp only [List.map_cons,List.map_nil,List.mem_singleton] at hb'
                 subst hb'
                 exact .inl ⟨nid,by simp only [Q7];rw [List.map_append];exact List.mem_append_right _ (by simp),by simp [up],hVn,.inr rfl⟩
         · cases hx
       · cases hx
   · rename_i hfr
     obtain ⟨r,h1,rfl⟩:=aG hc
     obtain ⟨r',ρ',V',A',r1,r2⟩:=whole h1
     refine ⟨_,ρ',V',A',?_,r2⟩
     have hfr:KQ f=false:=by simpa using hfr
     have hdp':sH f=false:=by
      unfold KQ at hfr
      unfold sH
      have:=of_decide_eq_false hfr
      exact decide_eq_false (by omega)
     simp only [jr,fD,hi,Bool.true_or,if_true,hfr,hdp',Bool.and_false,Bool.false_eq_true,if_false,rD,r1,om,tidy]
 · rename_i hi
   have hi:C.inl f=false:=by simpa using hi
   split at hc
   · rename_i hp
     obtain ⟨r,h1,rfl⟩:=aG hc
     obtain ⟨r',ρ',V',A',r1,r2⟩:=whole h1
     refine ⟨_,ρ',V',A',?_,r2⟩
     simp only [Bool.and_eq_true,Bool.not_eq_true'] at hp
     simp only [jr,fD,hi,hp.1,TL args hp.2 args' ha,Bool.false_or,Bool.not_false,Bool.and_self,if_true,Bool.false_and,Bool.false_eq_true,if_false,rD,r1,om,tidy]
   · rename_i hp
     obtain ⟨az,h1,h2⟩:=ay hc
     obtain ⟨v,h3,rfl⟩:=aG h2
     have hp':(!C.pp f&&bT args')=false:=by
      cases hpp:C.pp f with
      | true=>rfl
      | false =>
       rw [hpp] at hp
       have h0:bT args=false:=by simpa using hp
       rw [XY args args' az ha h1 h0];rfl
     obtain ⟨az',h4,h5⟩:=fP (fun x y hxy x' hx'=>Ho H aF x y x' hxy hx') ha h1
     obtain ⟨v',h6,h7⟩:=Qx hr h5 h3
     have hreach:∀ b' ∈ args'.flatMap (reach h' aF),∃ b ∈ args.flatMap (aT h aF),b'=ρ b∧¬ V b∧A b∧∃ z es mu dt,get h b=some (.cells z es mu dt):=by
      intro b' hb'
      simp only [List.mem_flatMap] at hb' ⊢
      obtain ⟨u,hu,hb'⟩:=hb'
      obtain ⟨j,hj,q1⟩:=List.getElem_of_mem hu
      obtain ⟨x,q2,q3⟩:=ha.get' (List.getElem?_eq_getElem hj)
      rw [q1] at q3
      obtain ⟨x',_,q4⟩:=(dB h1).2 j x q2
      obtain ⟨b,q5,q6⟩:=GY H aF x u x' q3 q4 b' hb'
      exact ⟨b,⟨x,List.mem_of_getElem? q2,q5⟩,q6⟩
     refine ⟨.data v' (marks h' args' v'),ρ,V,A,by simp only [jr,fD,hi,hp',Bool.false_or,Bool.false_eq_true,if_false,h4,h6,om],?_⟩
     have hmarks:HW ρ V A (bP h (oN h args v)) (aQ h' (marks h' args' v'))∧∀ b' ∈ (marks h' args' v').map (·.1),∃ b ∈ (oN h args v).map (·.1),b'=ρ b∧¬ V b∧A b:=by
      unfold marks oN
      by_cases hr2:dA aF v=true
      · rw [if_pos hr2]
        split
        · exact tZ H _ _ hreach
        · have:=tZ H (args.flatMap (aT h aF)) [] (fun b hb=>by cases hb)
          exact ⟨this.1,fun b hb=>by simp at hb⟩
      · rw [if_neg hr2,if_neg (fun q=>hr2 (WG _ _ _ h7 q))]
        exact ⟨H,fun b hb=>by simp at hb⟩
     refine ⟨h7.mono fun _ q=>q.elim,hmarks.1,Keeps.refl ρ V A,fun b hb=>.inl hb,fun b hb _=>.inl ⟨hb,rfl⟩,lt,Nat.le_refl _,Nat.le_refl _,fun q=>(by cases q),fun b' hb'=>?_,fun b hb=>.inl (hmarks.2 b hb)⟩
     obtain ⟨b,q1,q2,q3,q4,_⟩:=hreach b' hb'
     exact ⟨b,q1,q2,q3,q4⟩
theorem abV (he:EW ρ V A e e') {xs:List Opd} (hx:xs.all okO=true):bC (VW ρ V A) (xs.map fun x=>x.ev e) ((xs.map erO).map fun x=>x.ev e'):=by
 rw [List.map_map]
 simp only [List.all_eq_true] at hx
 refine ⟨by simp,fun j x x' h1 h2=>?_⟩
 rw [List.getElem?_map] at h1 h2
 cases h3:xs[j]? with
 | none=>rw [h3] at h1;cases h1
 | some c=>rw [h3] at h1 h2;cases h1;cases h2;exact he.opd (hx c (List.mem_of_getElem? h3))
theorem akv (he:EW ρ V A e e') {op:COp} (ho:iH op=true) {r:AV × dU} (hs:stepW op e h n=some r):∀ b' ∈ readsOf e' (fJ op),∃ b ∈ readsOf e op,b'=ρ b∧¬ V b∧A b:=by
 have one:∀ {x:Opd},okO x=true→x.ev e≠.undef→∀ b' ∈ dR ((erO x).ev e'),∃ b ∈ dR (x.ev e),b'=ρ b∧¬ V b∧A b:=by
  intro x hx hun b' hb'
  have hv:=he.opd hx
  cases hxe:x.ev e with
  | ptr b i o=>rw [hxe] at hv;obtain ⟨q,h1,h2⟩:=hv.iL;rw [q] at hb';simp [dR] at hb' ⊢;exact ⟨hb',h2,h1⟩
  | map b=>rw [hxe] at hv;obtain ⟨q,h1,h2⟩:=hv.vG;rw [q] at hb';simp [dR] at hb' ⊢;exact ⟨hb',h2,h1⟩
  | sl b z i len cap ex =>
   rw [hxe] at hv
   rcases hv.jh with ⟨h1,h2,ex',q,_⟩ | ⟨_,_,_,_,_,q⟩
   · rw [q] at hb';simp [dR] at hb' ⊢;exact ⟨hb',h2,h1⟩
   · rcases q with q | q <;> rw [q] at hb' <;> simp [dR] at hb'
  | undef=>exact absurd hxe hun
  | ro z es ex =>
   rw [hxe] at hv
   rcases hv.lN with ⟨_,q⟩ | ⟨_,_,q,_⟩ <;> rw [q] at hb' <;> simp [dR] at hb'
  | _=>rw [hxe] at hv;cases hnm:(erO x).ev e' <;> rw [hnm] at hv hb' <;> first | (cases hv;done) | (simp [dR] at hb';done)
 have two:∀ {x y:Opd},okO x=true→okO y=true→x.ev e≠.undef→y.ev e≠.undef→∀ b' ∈ dR ((erO x).ev e')++dR ((erO y).ev e'),∃ b ∈ dR (x.ev e)++dR (y.ev e),b'=ρ b∧¬ V b∧A b:=by
  intro x y hx hy hux huy b' hb'
  rcases List.mem_append.1 hb' with q | q
  · obtain ⟨b,q1,q2⟩:=one hx hux b' q;exact ⟨b,List.mem_append.2 (.inl q1),q2⟩
  · obtain ⟨b,q1,q2⟩:=one hy huy b' q;exact ⟨b,List.mem_append.2 (.inr q1),q2⟩
 have nil:∀ b' ∈ ([]:List Nat),∃ b ∈ readsOf e op,b'=ρ b∧¬ V b∧A b:=fun b' hb'=>by cases hb'
 cases op with
 | load k ag a=>exact one ho (fun q=>by simp [stepW,Za,ovW,om,yB,q] at hs)
 | fV k x lo hi =>
  simp only [iH,Bool.and_eq_true] at ho
  exact one ho.1 (fun q=>by simp [stepW,EU,yM,q] at hs)
 | store k a x =>
  simp only [iH,Bool.and_eq_true] at ho
  exact one ho.1 (fun q=>by simp [stepW,NQ,tN,q] at hs)
 | next x=>exact one ho (fun q=>by simp [stepW,UQ,q] at hs)
 | len kd x=>exact one ho (fun q=>by simp [stepW,aio,qC,ovW,om,q] at hs)
 | look kd z ok m k =>
  simp only [iH,Bool.and_eq_true] at ho
  exact one ho.2.1 (fun q=>by simp [stepW,Vr,q] at hs)
 | upd kd m k v =>
  simp only [iH,Bool.and_eq_true] at ho
  exact one ho.1 (fun q=>by simp [stepW,aeO,q] at hs)
 | app z bytes zeros s x =>
  simp only [iH,Bool.and_eq_true] at ho
  have hux:x.ev e≠.undef:=fun q=>by simp [stepW,QE,q,jP,ob] at hs
  refine two ho.2.1 ho.2.2 (fun q=>?_) hux
  simp only [stepW,QE,q] at hs
  split at hs
  · split at hs
    · obtain ⟨_,_,hs⟩:=ay hs
      split at hs
      · simp [jM] at hs
      · cases hs
    · cases hs
  · obtain ⟨_,_,hs⟩:=ay hs
    simp [jM] at hs
 | cpy z d s =>
  simp only [iH,Bool.and_eq_true] at ho
  refine two ho.1 ho.2 (fun q=>?_) (fun q=>by simp [stepW,XO,q,jP,ob] at hs)
  simp only [stepW,XO,q] at hs
  obtain ⟨_,_,hs⟩:=ay hs
  simp [o8] at hs
 | clr z d =>
  simp only [iH,Bool.and_eq_true] at ho
  exact one ho.2 (fun q=>by simp [stepW,afc,Bd,q] at hs)
 | _=>exact nil
theorem Xj (he:EW ρ V A e e') {g:Option (Nat × Bool)} {b:Bool} (hw:wants e g=some b):wants e' g=some b:=by
 cases g with
 | none=>exact hw
 | some p =>
  obtain ⟨s,w⟩:=p
  simp only [wants] at hw ⊢
  cases hg:get e s with
  | none=>rw [hg] at hw;cases hw
  | some v =>
   obtain ⟨v',h1,h2⟩:=he s v hg
   rw [hg] at hw
   rw [h1]
   cases v with
   | bool b=>rw [h2.fC];exact hw
   | tup vs =>
    cases vs with
    | nil =>
     obtain ⟨vs',rfl,hr⟩:=h2.qY
     rw [hr.dX];exact hw
    | cons a r=>cases hw
   | _=>cases hw
theorem aaG (hr:xI run run') (he:EW ρ V A e e') (H:HW ρ V A h h') (lt:Lts ρ V A n m) {nid mid:Nat} (hn:¬ A nid) (hnl:nid < n) (hm:∀ b,A b→¬ V b→ρ b≠mid) (hml:mid < m)
 {o:bg} (ho:iH o.op=true) {d:kC} (hd:gy C run o nid e h n=some d):∃ d' ρ' V' A',iZ (fD C) run' (rF o) mid e' h' m=some d'∧Qc ρ V A nid n mid m d d' ρ' V' A':=by
 unfold gy at hd
 cases hw:wants e o.guard with
 | none=>rw [hw] at hd;cases hd
 | some b =>
  rw [hw] at hd
  have hw':=Xj he hw
  cases b with
  | false =>
   simp only [Option.some.injEq] at hd
   subst hd
   refine ⟨⟨.tup [],h',m,false,[],[]⟩,ρ,V,A,by simp only [iZ,rF,hw'],VW.mM .nil,H,Keeps.refl ρ V A,fun b hb=>.inl hb,fun b hb _=>.inl ⟨hb,rfl⟩,lt,Nat.le_refl _,Nat.le_refl _,fun q=>(by cases q),fun b hb=>(by cases hb),fun b hb=>(by cases hb)⟩
  | true =>
   simp only at hd
   have goal:∃ d' ρ' V' A',iQ (fD C) run' (fJ o.op) mid e' h' m=some d'∧Qc ρ V A nid n mid m d d' ρ' V' A':=by
    have callCase:∀ (f:Nat) (args args':List AV),bC (VW ρ V A) args args'→callOf e' (fJ o.op)=some (some (f,args'))→callOf e o.op=some (some (f,args)) →
     ∃ d' ρ' V' A',iQ (fD C) run' (fJ o.op) mid e' h' m=some d'∧Qc ρ V A nid n mid m d d' ρ' V' A':=by
     intro f args args' ha hc' hc
     simp only [ji,hc] at hd
     obtain ⟨c,h1,rfl⟩:=aG hd
     obtain ⟨c',ρ',V',A',h2,h3⟩:=Zg hr H lt hn hnl hm hml ha h1
     exact ⟨_,ρ',V',A',by simp only [iQ,hc',h2,om],h3⟩
    by_cases hcall:callOf e o.op=some none
    · have hcall':callOf e' (fJ o.op)=some none:=by
       cases hop:o.op <;> rw [hop] at hcall <;> simp only [callOf,fJ] at hcall ⊢
       · cases hcall
       · split at hcall <;> cases hcall
      simp only [ji,hcall] at hd
      obtain ⟨r,h1,rfl⟩:=aG hd
      obtain ⟨r',h2,h3⟩:=aaR he H hn hm ho h1
      have hu:=pK (ρ:=ρ) (V:=V) (m:=mid) hn
      have hVn:¬ V nid:=fun q=>hn (H.sub nid q)
      refine ⟨_,up ρ nid mid,V,addN A nid,by simp only [iQ,hcall',h2,om];rfl,h3.1,h3.2.1,hu,?_,?_,⟨?_,?_⟩,Nat.le_refl _,Nat.le_refl _,fun q=>(by cases q),?_,?_⟩
      · rintro b (hb | rfl)
        · exact .inl hb
        · exact .inr (.inl rfl)
      · rintro b (hb | rfl) hv
        · exact .inl ⟨hb,(hu b hb).2.1⟩
        · exact .inr (.inl (by simp [up]))
      · rintro b (hb | rfl)
        · exact lt.w b hb
        · exact hnl
      · rintro b (hb | rfl) hv
        · rw [(hu b hb).2.1];exact lt.p b hb hv
        · simp only [up,if_true];exact hml
      · intro b' hb'
        obtain ⟨b,q1,q2,q3,q4⟩:=akv he ho h1 b' hb'
        exact ⟨b,q1,by rw [(hu b q4).2.1];exact q2,q3,.inl q4⟩
      · intro b' hb'
        exact .inl (h3.2.2 b' hb')
    · cases hop:o.op with
      | call f args =>
       rw [hop] at ho
       have:=callCase f _ _ (abV he ho) (by rw [hop];rfl) (by rw [hop];rfl)
       rwa [hop] at this
      | dW g args =>
       rw [hop] at ho
       simp only [iH,Bool.and_eq_true] at ho
       have hg:=he.opd ho.1
       cases hge:g.ev e with
       | fn f caps =>
        rw [hge] at hg
        obtain ⟨caps',q,hrel⟩:=hg.xE
        have:=callCase f _ _ ((abV he ho.2).append hrel) (by rw [hop];simp only [fJ,callOf,q]) (by rw [hop];simp only [callOf,hge])
        rwa [hop] at this
       | _ =>
        exfalso
        rw [hop] at hd
        simp only [ji,callOf,hge] at hd
        cases hd
      | _=>exact absurd (by rw [hop];rfl) hcall
   obtain ⟨d',ρ',V',A',h1,h2⟩:=goal
   exact ⟨d',ρ',V',A',by simp only [iZ,rF,hw'];exact h1,h2⟩
end
end Go.Pw
end
