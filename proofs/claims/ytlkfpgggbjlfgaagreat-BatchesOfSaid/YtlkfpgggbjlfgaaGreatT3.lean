/- Part of the theory that the claims of this work use: PavLocal, PavDraw, PavDraw2, PavDraw3, PavAll, PwRel, PwOps, PwOps2, PwOps3, PwOps4, PwCall, PwFresh, PwBare. No conditions of its own. -/
import Derived.Test.YtlkfpgggbjlfgaaGreatT2
section
set_option linter.unusedSimpArgs false
set_option linter.unusedVariables false
namespace Go.Pav
open Go
def fG (l:List Nat) (e e':Env):Prop:=∀ s ∈ l,get e s=get e' s
def jU (l:List Nat) (h h':Heap):Prop:=∀ b ∈ l,get h b=get h' b
theorem fG.left {l k:List Nat} {e e':Env} (h:fG (l++k) e e'):fG l e e':=λs hs=>h s (qlx _ hs)
theorem fG.right {l k:List Nat} {e e':Env} (h:fG (l++k) e e'):fG k e e':=λs hs=>h s (quq _ hs)
theorem jU.left {l k:List Nat} {e e':Heap} (h:jU (l++k) e e'):jU l e e':=λs hs=>h s (qlx _ hs)
theorem jU.right {l k:List Nat} {e e':Heap} (h:jU (l++k) e e'):jU k e e':=λs hs=>h s (quq _ hs)
theorem aU {x:Opd} {e e':Env} (h:fG x.slot e e'):x.ev e=x.ev e':=by
 cases x with
 | c v=>rfl
 | t s=>simp only [Opd.ev];rw [h s (by simp [Opd.slot])]
theorem vN {x:Option Opd} {e e':Env} (h:fG (xM x) e e'):oev e x=oev e' x:=by
 cases x with
 | none=>rfl
 | some x=>simp only [oev];rw [aU (h:fG x.slot e e')]
theorem Jt {xs:List Opd} {e e':Env} (h:fG (xs.flatMap Opd.slot) e e'):∀ x ∈ xs,x.ev e=x.ev e':=by intro x hx;exact aU λs hs=>h s (qkx.2 ⟨x,hx,hs⟩)
theorem JL {xs:List Opd} {e e':Env} (h:fG (xs.flatMap Opd.slot) e e'):(xs.map λx=>x.ev e)=xs.map λx=>x.ev e' :=qrj λx hx=>Jt h x hx
theorem Vs {e e':Env}:∀ (ps:List (Nat × Nat × Opd)) (cs:List AV),fG (ps.flatMap λp=>p.2.2.slot) e e'->qB e cs ps=qB e' cs ps:=by
 intro ps;induction ps with
 | nil=>intro cs _;rfl
 | cons p r ih =>intro cs h;obtain ⟨off,n,x⟩:=p;have hx:x.ev e=x.ev e':=aU λs hs=>h s (by simp only [qpj,qjj];exact .inl hs);simp only [qB,hx];rw [ih _ λs hs=>h s (by simp only [qpj,qjj];exact .inr hs)]
theorem VB {e e':Env} {z:Nat}:∀ (ps:List (Nat × Opd)) (es:List (List AV)),fG (ps.flatMap λp=>p.2.slot) e e'->kZ e z es ps=kZ e' z es ps:=by
 intro ps;induction ps with
 | nil=>intro cs _;rfl
 | cons p r ih =>intro cs h;obtain ⟨i,x⟩:=p;have hx:x.ev e=x.ev e':=aU λs hs=>h s (by simp only [qpj,qjj];exact .inl hs);simp only [kZ,hx];rw [ih _ λs hs=>h s (by simp only [qpj,qjj];exact .inr hs)]
theorem I5 {h h':Heap} {z:Nat} {v:AV} (hh:jU (eP v) h h'):elems h z v=elems h' z v:=by
 cases v <;> try rfl
 case sl b z' i len cap ex=>simp only [elems];rw [hh b (by simp [eP])]
theorem VE {h h':Heap} {nid zl bytes:Nat} {v:AV} {xs:List (List AV)} (hh:jU (eP v) h h'):kW h nid zl bytes v xs=kW h' nid zl bytes v xs:=by
 cases v <;> try rfl
 case sl b z' i len cap ex=>simp only [kW];rw [hh b (by simp [eP])]
theorem Et {op:COp} {e e':Env} {h h':Heap} {nid:Nat} (he:fG op.slots e e') (hh:jU (readsOf e op) h h'):aJ op e h nid=aJ op e' h' nid:=by
 cases op <;> simp only [COp.slots,readsOf] at he hh;case mv x=>simp only [aJ,sMv];rw [aU he]
 case pick a b c=>simp only [aJ,ES];rw [aU he.left.left,aU he.left.right,aU he.right]
 case alloc z=>rfl
 case box x=>simp only [aJ,ai9];rw [aU he]
 case build z ps=>simp only [aJ,Eo];rw [Vs _ _ he]
 case aP z len ps=>simp only [aJ,Ci];rw [VB _ _ he]
 case load n ag a =>
  have:=aU he;simp only [aJ,adg];rw [this] at hh |-;cases hx:a.ev e' <;> try rfl
  case ptr b i o=>rw [hx] at hh;simp only [Ea];rw [hh b (by simp [eP])]
 case store n a x =>
  have h1:=aU he.left;have h2:=aU he.right;simp only [aJ,Oi];rw [h1] at hh |-;rw [h2];cases hx:a.ev e' <;> try rfl
  case ptr b i o=>rw [hx] at hh;simp only [Dq];rw [hh b (by simp [eP])]
 case jQ x=>simp only [aJ,mW];rw [aU he]
 case bin o x y=>simp only [aJ,adD];rw [aU he.left,aU he.right]
 case eqv kd ks ne x y=>simp only [aJ,JD];rw [aU he.left,aU he.right]
 case un o x=>simp only [aJ,sUn];rw [aU he]
 case cvt k x=>simp only [aJ,Tn];rw [aU he]
 case cvs x=>simp only [aJ,S9];rw [aU he]
 case cvb x=>simp only [aJ,RX];rw [aU he]
 case iW f caps =>
  simp only [aJ,Bj];rw [JL he];have:(caps.all λx=>(x.ev e).cell)=caps.all λx=>(x.ev e').cell:=by rw [Bool.eq_iff_iff,qjx,qjx];exact ⟨λq x hx=>by rw [<- Jt he x hx];exact q x hx,λq x hx=>by rw [Jt he x hx];exact q x hx⟩
  rw [this]
 case lY=>rfl
 case kE z b l c=>simp only [aJ,Xq];rw [aU he.left,aU he.right]
 case slice z x lo hi mx=>simp only [aJ,Ef];rw [aU he.left.left.left,vN he.left.left.right,vN he.left.right,vN he.right]
 case gX n x lo hi =>
  have h1:=aU he.left.left;simp only [aJ,Dl];rw [h1] at hh |-;rw [vN he.left.right,vN he.right];cases hx:x.ev e' <;> try rfl
  case ptr b i o=>rw [hx] at hh;simp only [wK];rw [hh b (by simp [eP])]
 case fld off x=>simp only [aJ,O1];rw [aU he]
 case yU off n ag x=>simp only [aJ,EP];rw [aU he]
 case idxs z x i=>simp only [aJ,ED];rw [aU he.left,aU he.right]
 case gq len z x i=>simp only [aJ,EH];rw [aU he.left,aU he.right]
 case fB x i=>simp only [aJ,qF];rw [aU he.left,aU he.right]
 case vI len z ag x i=>simp only [aJ,Ey];rw [aU he.left,aU he.right]
 case look kd z ok m k =>
  have h1:=aU he.left;have h2:=aU he.right;simp only [aJ,KR];rw [h1] at hh |-;rw [h2];cases hx:m.ev e' <;> try rfl
  case map b=>rw [hx] at hh;simp only;rw [hh b (by simp [eP])]
 case upd kd m k v =>
  have h1:=aU he.left.left;have h2:=aU he.left.right;have h3:=aU he.right;simp only [aJ,agd];rw [h1] at hh |-;rw [h2,h3];cases hx:m.ev e' <;> try rfl
  case map b=>rw [hx] at hh;simp only;rw [hh b (by simp [eP])]
 case range x=>simp only [aJ,QG];rw [aU he]
 case next x =>
  have h1:=aU he;simp only [aJ,TW];rw [h1] at hh |-;split
  ·rename_i b heq;rw [heq] at hh;rw [hh b (by simp [eP])]
  ·rfl
 case ext i x=>simp only [aJ,Rz];rw [aU he]
 case call f args=>rfl
 case dN g args=>rfl
 case len kd x =>
  have h1:=aU he;simp only [aJ,sLen];rw [h1] at hh |-;cases hx:x.ev e' <;> try rfl
  case map b=>rw [hx] at hh;simp only [oz];rw [hh b (by simp [eP])]
 case cap x=>simp only [aJ,sCap];rw [aU he]
 case app z b zs s x =>have h1:=aU he.left;have h2:=aU he.right;simp only [aJ,U7];rw [h1,h2] at hh |-;rw [I5 hh.right];have:∀ xs,kW h nid z.length b (s.ev e') xs=kW h' nid z.length b (s.ev e') xs:=λxs=>VE hh.left;simp only [this]
 case cpy z d s =>
  have h1:=aU he.left;have h2:=aU he.right;simp only [aJ,afL];rw [h1,h2] at hh |-;rw [I5 hh.right];have:∀ xs,uD h z xs (d.ev e')=uD h' z xs (d.ev e'):=by
   intro xs;cases hx:d.ev e' <;> try rfl
   case sl b z' i len cap ex=>rw [hx] at hh;simp only [uD];rw [hh.left b (by simp [eP])]
   case ro z' es ex=>cases es <;> rfl
  simp only [this]
 case clr z d =>
  simp only [aJ,agH];rw [aU he] at hh |-;cases hx:d.ev e' <;> try rfl
  case sl b z' i len cap ex=>rw [hx] at hh;simp only [Ig];rw [hh b (by simp [eP])]
  case ro z' es ex=>cases es <;> rfl
 case mx x y=>simp only [aJ,sMx];rw [aU he.left,aU he.right]
 case mn x y=>simp only [aJ,sMn];rw [aU he.left,aU he.right]
 case fail=>rfl
theorem Du {op:COp} {e e':Env} (he:fG op.slots e e'):readsOf e op=readsOf e' op:=by
 cases op <;> simp only [COp.slots,readsOf] at he |-;case load n ag a=>rw [aU he]
 case gX n x lo hi=>rw [aU he.left.left]
 case store n a x=>rw [aU he.left]
 case look kd z ok m k=>rw [aU he.left]
 case upd kd m k v=>rw [aU he.left.left]
 case next x=>rw [aU he]
 case len kd x=>rw [aU he]
 case app z b zs s x=>rw [aU he.left,aU he.right]
 case cpy z d s=>rw [aU he.left,aU he.right]
 case clr z d=>rw [aU he]
theorem qC {op:COp} {e e':Env} (he:fG op.slots e e'):callOf e op=callOf e' op:=by
 cases op <;> try rfl
 case call f args=>simp only [COp.slots] at he;simp only [callOf];rw [JL he]
 case dN g args =>simp only [COp.slots] at he;simp only [callOf];rw [JL he.right,aU he.left]
theorem pU {o:bg} {e e':Env} (he:fG o.slots e e'):wants e o.guard=wants e' o.guard:=by
 cases hg:o.guard with
 | none=>rfl
 | some sw =>obtain ⟨s,w⟩:=sw;simp only [wants];rw [he s (by simp [bg.slots,hg])]
theorem uM {α β:Type} {f g:α->Option β}:∀ {l:List α},(∀ x ∈ l,f x=g x)->aZ f l=aZ g l:=by
 intro l;induction l with
 | nil=>intro _;rfl
 | cons a l ih =>intro h;simp only [aZ];rw [h a qXq,ih λx hx=>h x (qyz _ hx)]
theorem lu {α β:Type} {f g:α->List β} {l:List α} (h:∀ x ∈ l,f x=g x):l.flatMap f=l.flatMap g:=by
 induction l with
 | nil=>rfl
 | cons a l ih=>rw [qpj,qpj,h a qXq,ih λx hx=>h x (qyz _ hx)]
theorem AQ {h h':Heap}:∀ (n:Nat) (v:AV),jU (reach h n v) h h'->frz h n v=frz h' n v/\reach h n v=reach h' n v:=by
 intro n;induction n with
 | zero=>intro v _;exact ⟨rfl,rfl⟩
 | succ n ih =>
  have many:∀ (l:List AV),jU (l.flatMap (reach h n)) h h'->aZ (frz h n) l=aZ (frz h' n) l/\l.flatMap (reach h n)=l.flatMap (reach h' n):=by intro l hl;have each:∀ x ∈ l,jU (reach h n x) h h':=λx hx b hb=>hl b (qkx.2 ⟨x,hx,hb⟩);exact ⟨uM λx hx=>(ih x (each x hx)).1,lu λx hx=>(ih x (each x hx)).2⟩
  intro v hs;cases v <;> simp only [frz,reach] at hs |- <;> try exact ⟨trivial,trivial⟩
  case ptr b i o =>
   have hb:get h b=get h' b:=hs b qqz;rw [<- hb];cases hg:get h b with
   | none=>exact ⟨rfl,rfl⟩
   | some ob =>
    cases ob with
    | map es=>exact ⟨rfl,rfl⟩
    | iter s p=>exact ⟨rfl,rfl⟩
    | cells zb es mu =>
     rw [hg] at hs;simp only at hs |-;obtain ⟨a1,a2⟩:=many ((es[i]?.getD []).drop o) λb hb=>hs b (qyz _ hb);refine ⟨?_,by rw [a2]⟩;cases he:es[i]? with
     | none=>rfl
     | some cs=>rw [he] at a1;simp only [qYx] at a1;simp only [Pav.ob,a1]
  case sl b z i len cap ex =>
   have hb:get h b=get h' b:=hs b qqz;rw [<- hb];cases hg:get h b with
   | none=>exact ⟨rfl,rfl⟩
   | some o =>
    cases o with
    | map es=>exact ⟨rfl,rfl⟩
    | iter s p=>exact ⟨rfl,rfl⟩
    | cells zb es mu =>rw [hg] at hs;simp only at hs |-;have each:∀ e ∈ (es.drop i).take len,aZ (frz h n) e=aZ (frz h' n) e/\e.flatMap (reach h n)=e.flatMap (reach h' n):=λe he =>many e λb hb=>hs b (qyz _ (qkx.2 ⟨e,he,hb⟩));rw [uM λe he=>(each e he).1,lu λe he=>(each e he).2];exact ⟨rfl,rfl⟩
  case fn f caps=>obtain ⟨a,b⟩:=many caps hs;rw [a];exact ⟨rfl,b⟩
  case agg cs=>obtain ⟨a,b⟩:=many cs hs;rw [a];exact ⟨rfl,b⟩
  case tup cs=>obtain ⟨a,b⟩:=many cs hs;rw [a];exact ⟨rfl,b⟩
theorem nU {h h':Heap}:∀ (bs:List Nat),jU bs h h'->aW h bs=aW h' bs:=by
 intro bs;induction bs with
 | nil=>intro _;rfl
 | cons b r ih =>intro hs;simp only [aW];rw [hs b qXq,ih λx hx=>hs x (qyz _ hx)]
section
variable {C:Prog} {run:Run}
theorem zH {o:bg} {nid:Nat} {e:Env} {h:Heap} {n:Nat} {d:Did} (he:jO C run o nid e h n=some d) (hb:d.bar=false) :
 ∃ u,d=⟨d.v,aQ h u,d.n,false,d.rd,u.map (·.1)⟩/\(dJ o.op=false->d.n=n) /\
  ∀ (e':Env) (h':Heap) (n':Nat),fG o.slots e e'->jU d.rd h h'->(dJ o.op=true->n'=n)->jO C run o nid e' h' n'=some ⟨d.v,aQ h' u,if dJ o.op=true then d.n else n',false,d.rd,u.map (·.1)⟩:=by
 unfold jO at he;split at he
 ·cases he
 ·rename_i hw;cases he;refine ⟨[],rfl,λ_=>rfl,λe' h' n' hs _ hn=>?_⟩;unfold jO;rw [<- pU hs,hw];by_cases q:dJ o.op=true
  ·rw [qwz q,hn q];rfl
  ·rw [qwq q];rfl
 ·rename_i hw;have hslots:∀ {e':Env},fG o.slots e e'->fG o.op.slots e e':=λhs=>fG.left hs;unfold jG at he;split at he
  ·cases he
  ·rename_i f args hc;obtain ⟨c,hcd,rfl⟩:=aB he;cases c with
   | whole v h1 n1=>simp [bZ] at hb
   | deep v u n1 =>
    have hinl:(C.inl f&&tV f)=true/\∃ az x,aZ (frz h ay) args=some az/\sH run f az n=some x/\v=x.1/\u=Ue f (aW h (args.flatMap (reach h ay)))++x.2.1/\n1=x.2.2:=by
     unfold jD at hcd;split at hcd
     ·obtain ⟨v',_,hcd⟩:=aB hcd;cases hcd
     ·split at hcd
      ·rename_i hf;obtain ⟨az,hm,hcd⟩:=au hcd;obtain ⟨x,hx,hcd⟩:=aB hcd;cases hcd;exact ⟨hf,az,x,hm,hx,rfl,rfl,rfl⟩
      ·split at hcd
       ·obtain ⟨az,hm,hcd⟩:=au hcd;obtain ⟨x,hx,hcd⟩:=au hcd;unfold Cc at hcd;split at hcd <;> cases hcd
       ·obtain ⟨r,_,hcd⟩:=aB hcd;cases hcd
    obtain ⟨hf,az,x,hm,hx,rfl,rfl,rfl⟩:=hinl;have hdp:tV f=true:=by simp only [qzq] at hf;exact hf.2
    have hin:C.inl f=true:=by simp only [qzq] at hf;exact hf.1
    have hcall:dJ o.op=true:=by
     cases hop:o.op <;> rw [hop] at hc <;> simp [callOf] at hc
     ·simp only [dJ];rw [hc.1];exact hdp
     ·rfl
    simp only [bZ];refine ⟨_,rfl,(λq=>by rw [hcall] at q;cases q),λe' h' n' hs hr hn=>?_⟩;rw [hn hcall,qwz hcall];unfold jO;rw [<- pU hs,hw];unfold jG;rw [<- qC (hslots hs),hc];simp only;have hfr:∀ x ∈ args,jU (reach h ay x) h h':=λx hx b hb=>hr b (qkx.2 ⟨x,hx,hb⟩);have e1:aZ (frz h ay) args=aZ (frz h' ay) args:=uM λx hx=>(AQ _ x (hfr x hx)).1;have e2:args.flatMap (reach h ay)=args.flatMap (reach h' ay):=lu λx hx=>(AQ _ x (hfr x hx)).2;unfold jD;rw [<- e1];simp only [hin,qfx,qQx,hdp,qlz,hm,ob,hx,om,bZ];rw [<- e2,<- nU _ hr]
   | data v u =>
    have hnd:dJ o.op=true->∀ m:Nat,m=n->m=(bZ h n args (.data v u)).n:=λ_ m q=>q;simp only [bZ];refine ⟨u,rfl,λ_=>by trivial,λe' h' n' hs hr hn=>?_⟩;have hn2:(if dJ o.op=true then n else n')=n':=by
     split
     ·rename_i q;exact (hn q).symm
     ·rfl
    rw [hn2];unfold jO;rw [<- pU hs,hw];unfold jG;rw [<- qC (hslots hs),hc];simp only;have hfr:∀ x ∈ args,jU (reach h ay x) h h':=λx hx b hb=>hr b (qkx.2 ⟨x,hx,hb⟩);have e1:aZ (frz h ay) args=aZ (frz h' ay) args:=uM λx hx=>(AQ _ x (hfr x hx)).1;have e2:args.flatMap (reach h ay)=args.flatMap (reach h' ay):=lu λx hx=>(AQ _ x (hfr x hx)).2;unfold jD at hcd |-;rw [<- e1];split at hcd
    ·rename_i az hfz;obtain ⟨v',hv',hcd⟩:=aB hcd;cases hcd;have e3:marks h args v=marks h' args v:=by unfold marks;rw [<- e2,nU _ hr]
     simp only [hv',om,bZ];rw [e2,e3]
    ·split at hcd
     ·obtain ⟨az,hm,hcd⟩:=au hcd;obtain ⟨x,hx,hcd⟩:=aB hcd;cases hcd
     rename_i hdp2;rw [qwq hdp2];split at hcd
     ·rename_i hfr2;obtain ⟨az,hm,hcd⟩:=au hcd;obtain ⟨x,hx,hcd⟩:=au hcd;rw [qwz hfr2,hm];simp only [ob,hx];rw [<- e2,<- nU _ hr,hcd];simp only [om,bZ];rw [e2]
     ·obtain ⟨r,_,hcd⟩:=aB hcd;cases hcd
  ·rename_i hc;obtain ⟨⟨v,u⟩,hst,rfl⟩:=aB he;have hnc:dJ o.op=false:=by
    cases hop:o.op <;> rw [hop] at hc <;> simp [callOf] at hc <;> first | rfl | skip
    split at hc <;> cases hc
   refine ⟨u,rfl,λ_=>rfl,λe' h' n' hs hr _=>?_⟩;rw [hnc];simp only [qjz,qWz];unfold jO;rw [<- pU hs,hw];unfold jG;rw [<- qC (hslots hs),hc];simp only;rw [<- Et (hslots hs) hr,hst,<- Du (hslots hs)];rfl
theorem J9 {o:COp} (h:dJ o=true):uN o=true:=by cases o <;> first | rfl | (simp [dJ] at h)
theorem aeG {o:bg} {nid:Nat} {e:Env} {h:Heap} {n:Nat} {d:Did} (he:jO C run o nid e h n=some d) (hb:d.bar=true):uN o.op=true:=by
 unfold jO at he;split at he
 ·cases he
 ·cases he;cases hb
 ·unfold jG at he;split at he
  ·cases he
  ·rename_i f args hc;cases hop:o.op <;> rw [hop] at hc <;> simp [callOf] at hc <;> rfl
  ·obtain ⟨⟨v,u⟩,hst,rfl⟩:=aB he;cases hb
theorem ae7 {o:bg} {nid:Nat} {e e':Env} {h:Heap} {n:Nat} (hs:fG o.slots e e'):jO C run o nid e h n=jO C run o nid e' h n:=by unfold jO;rw [<- pU hs];unfold jG;have hs':fG o.op.slots e e':=fG.left hs;rw [<- qC hs',<- Et hs' (λ_ _=>rfl),<- Du hs']
end
end Go.Pav
end
section
set_option linter.unusedSimpArgs false
set_option linter.unusedVariables false
namespace Go.Pav
open Go
section
variable {C:Prog} {run:Run}
theorem Ul:∀ (l:List bg) (nid:Nat) (s:St) (ds0:List Did) (s':St) (ds:List Did),o9 C run l nid s ds0=some (s',ds) ->
 ∃ (st:Nat->St) (ds1:List Did),ds=ds0++ds1/\ds1.length=l.length/\st 0=s/\st l.length=s' /\
  ∀ k o,l[k]?=some o->∃ d,ds1[k]?=some d/\jO C run o (nid+k) (st k).env (st k).heap (st k).next=some d/\st (k+1)=⟨dR (st k).env o.dst d.v,d.h,d.n⟩:=by
 intro l;induction l with
 | nil =>intro nid s ds0 s' ds h;simp only [o9,qwx,qkj] at h;obtain ⟨rfl,rfl⟩:=h;exact ⟨λ_=>s,[],by simp,rfl,rfl,rfl,λk o hk=>by simp at hk⟩
 | cons o l ih =>
  intro nid s ds0 s' ds h;simp only [o9] at h;obtain ⟨d,hd,h⟩:=au h;obtain ⟨st,ds1,h1,h2,h3,h4,h5⟩:=ih _ _ _ _ _ h;refine ⟨λk=>match k with | 0=>s | k+1=>st k,d::ds1,by simp [h1],by simp [h2],rfl,by simpa using h4,?_⟩;intro k o' hk;cases k with
  | zero =>simp at hk;subst hk;exact ⟨d,by simp,by simpa using hd,h3⟩
  | succ k =>
   obtain ⟨d',q1,q2,q3⟩:=h5 k o' (by simpa using hk);refine ⟨d',by simpa using q1,?_,q3⟩;have:nid+(k+1)=nid+1+k:=by omega
   rw [this];exact q2
theorem lQ {b:Nat}:∀ (u:Upd) (h:Heap),b ∉ u.map (·.1)->get (aQ h u) b=get h b:=by
 intro u;induction u with
 | nil=>intro h _;rfl
 | cons x u ih =>
  intro h hb;obtain ⟨c,o⟩:=x;simp only [qvz,qkq,not_or] at hb;simp only [aQ];rw [ih _ hb.2];cases o with
  | none=>simp only [uX,oD];rw [qwq (qcj hb.1)]
  | some o=>simp only [uX,get_put];rw [qwq (qcj hb.1)]
theorem JY {b:Nat}:∀ (u:Upd) (h h':Heap),b ∈ u.map (·.1)->get (aQ h u) b=get (aQ h' u) b:=by
 intro u;induction u with
 | nil=>intro h h' hb;simp at hb
 | cons x u ih =>
  intro h h' hb;obtain ⟨c,o⟩:=x;simp only [aQ];by_cases hu:b ∈ u.map (·.1)
  ·exact ih _ _ hu
  ·rw [lQ u _ hu,lQ u _ hu];simp only [qvz,qkq] at hb;have hc:b=c:=hb.resolve_right hu;subst hc;cases o with
   | none=>simp only [uX,oD,qQx]
   | some o=>simp only [uX,get_put,qQx]
theorem Jv {op:COp} {e:Env} {h:Heap} {nid:Nat} {v:AV} {u:Upd} (hs:aJ op e h nid=some (v,u)) (hw:writes op=false) (hm:op.makes=false):u=[]:=by
 cases op <;> simp only [writes,COp.makes] at hw hm <;> try (cases hw;done)
 all_goals (first | (cases hm;done) | skip)
 all_goals simp only [aJ] at hs
 case mv x=>simp only [sMv,qwx,qkj] at hs;exact hs.2.symm
 case pick c a b=>simp only [ES] at hs;split at hs <;> cases hs;rfl
 case build z ps=>obtain ⟨_,_,h⟩:=aB hs;cases h;rfl
 case load n ag a=>exact (dZ hs).2
 case jQ x=>simp only [mW] at hs;split at hs <;> cases hs <;> rfl
 case bin o x y=>exact (dZ hs).2
 case eqv kd ks ne x y=>obtain ⟨_,_,h⟩:=aB hs;cases h;rfl
 case un o x=>exact (dZ hs).2
 case cvt k x=>simp only [Tn] at hs;split at hs <;> cases hs;rfl
 case cvs x=>simp only [S9] at hs;split at hs <;> cases hs;rfl
 case cvb x=>exact (dZ hs).2
 case iW f caps=>simp only [Bj] at hs;split at hs <;> cases hs;rfl
 case slice z x lo hi mx=>exact (dZ hs).2
 case fld off x=>simp only [O1] at hs;split at hs <;> cases hs <;> rfl
 case yU off n ag x =>
  simp only [EP] at hs;split at hs
  ·exact (dZ hs).2
  ·cases hs
 case idxs z x i =>
  simp only [ED] at hs;split at hs
  ·obtain ⟨n,_,hs⟩:=au hs;unfold uo at hs;split at hs
   ·split at hs
    ·obtain ⟨_,_,hs⟩:=au hs;cases hs;rfl
    ·cases hs
   ·split at hs <;> cases hs;rfl
   ·cases hs
  ·cases hs
 case gq len z x i =>
  simp only [EH] at hs;split at hs
  ·obtain ⟨n,_,hs⟩:=au hs;split at hs
   ·unfold tu at hs;split at hs <;> cases hs <;> rfl
   ·cases hs
  ·cases hs
 case fB x i =>
  simp only [qF] at hs;split at hs
  ·obtain ⟨n,_,hs⟩:=au hs;obtain ⟨_,_,hs⟩:=au hs;cases hs;rfl
  ·cases hs
 case vI len z ag x i =>
  simp only [Ey] at hs;split at hs
  ·obtain ⟨n,_,hs⟩:=au hs;split at hs
   ·exact (dZ hs).2
   ·cases hs
  ·cases hs
 case look kd z ok m k =>
  simp only [KR] at hs;split at hs
  ·split at hs
   ·cases hs;rfl
   ·exact (dZ hs).2
   ·cases hs
  ·cases hs
 case ext i x =>
  simp only [Rz] at hs;split at hs
  ·exact (dZ hs).2
  ·cases hs
 case len kd x=>exact (dZ hs).2
 case cap x=>exact (dZ hs).2
 case mx x y =>
  simp only [sMx] at hs;split at hs
  ·split at hs <;> cases hs;rfl
  ·cases hs
 case mn x y =>
  simp only [sMn] at hs;split at hs
  ·split at hs <;> cases hs;rfl
  ·cases hs
 case fail=>simp only [Aq] at hs;cases hs
theorem Ju {o:bg} {nid:Nat} {e:Env} {h:Heap} {n:Nat} {d:Did} (he:jO C run o nid e h n=some d) :
 (writes o.op=false->o.op.makes=false->d.bar=false/\d.wr=[])/\(touches o.op=false->d.bar=false/\d.wr=[]/\d.rd=[]):=by
 have wt:touches o.op=false->writes o.op=false/\o.op.makes=false/\(∀ e:Env,readsOf e o.op=[]):=by intro ht;cases hop:o.op <;> rw [hop] at ht <;> simp only [touches] at ht <;> first | (cases ht;done) | exact ⟨rfl,rfl,λ_=>rfl⟩
 unfold jO at he;split at he
 ·cases he
 ·cases he;exact ⟨λ_ _=>⟨rfl,rfl⟩,λ_=>⟨rfl,rfl,rfl⟩⟩
 ·unfold jG at he;split at he
  ·cases he
  ·rename_i f args hc;have hw:writes o.op=true:=by cases hop:o.op <;> rw [hop] at hc <;> simp [callOf] at hc <;> rfl
   exact ⟨λh _=>(by rw [hw] at h;cases h),λh=>(by rw [(wt h).1] at hw;cases hw)⟩
  ·obtain ⟨⟨v,u⟩,hst,rfl⟩:=aB he;refine ⟨λh1 h2=>⟨rfl,?_⟩,λht=>⟨rfl,?_,?_⟩⟩
   ·rw [Jv hst h1 h2];rfl
   ·obtain ⟨h1,h2,_⟩:=wt ht;rw [Jv hst h1 h2];rfl
   ·exact (wt ht).2.2 e
end
def pR (e0:Env) (dst:Nat->Option Nat) (D:Nat->Did) (L:Nat->Bool) (s:Nat):Nat->Option AV
 | 0=>get e0 s
 | k+1=>if L k=true/\dst k=some s then some (D k).v else pR e0 dst D L s k
def jT (h0:Heap) (D:Nat->Did) (L:Nat->Bool) (b:Nat):Nat->Option jr
 | 0=>get h0 b
 | k+1=>if L k=true/\((D k).bar=true\/b ∈ (D k).wr) then get (D k).h b else jT h0 D L b k
def nAt (n0:Nat) (mv:Nat->Bool) (D:Nat->Did) (L:Nat->Bool):Nat->Nat
 | 0=>n0
 | k+1=>if L k=true/\mv k=true then (D k).n else nAt n0 mv D L k
section
variable {e0:Env} {h0:Heap} {n0:Nat} {mv:Nat->Bool} {dst:Nat->Option Nat} {D:Nat->Did} {L M:Nat->Bool}
theorem qP {s:Nat}:∀ (n:Nat),(∀ k,k < n->L k=M k\/dst k≠some s)->pR e0 dst D L s n=pR e0 dst D M s n:=by
 intro n;induction n with
 | zero=>intro _;rfl
 | succ n ih =>
  intro h;simp only [pR];rw [ih λk hk=>h k qqq];rcases h n qqq with q | q
  ·rw [q]
  ·rw [qwq (λx=>q x.2),qwq (λx=>q x.2)]
theorem oI {b:Nat}:∀ (n:Nat),(∀ k,k < n->L k=M k\/((D k).bar=false/\b ∉ (D k).wr))->jT h0 D L b n=jT h0 D M b n:=by
 intro n;induction n with
 | zero=>intro _;rfl
 | succ n ih =>
  intro h;simp only [jT];rw [ih λk hk=>h k qqq];rcases h n qqq with q | ⟨q1,q2⟩
  ·rw [q]
  ·have:¬ ((D n).bar=true\/b ∈ (D n).wr):=λx=>x.elim (λx=>by rw [q1] at x;cases x) q2;rw [qwq (λx=>this x.2),qwq (λx=>this x.2)]
theorem xC:∀ (n:Nat),(∀ k,k < n->L k=M k\/mv k=false)->nAt n0 mv D L n=nAt n0 mv D M n:=by
 intro n;induction n with
 | zero=>intro _;rfl
 | succ n ih =>
  intro h;simp only [nAt];rw [ih λk hk=>h k qqq];rcases h n qqq with q | q
  ·rw [q]
  ·rw [qwq (λx=>by rw [q] at x;cases x.2),qwq (λx=>by rw [q] at x;cases x.2)]
theorem Zc {s i:Nat}:∀ (n:Nat),i<=n->pR e0 dst D (λk=>decide (k < i)) s n=pR e0 dst D (λ_=>true) s i:=by
 intro n;induction n with
 | zero =>
  intro h;have:i=0:=by omega
  subst this;rfl
 | succ n ih =>
  intro h;by_cases hi:i=n+1
  ·subst hi;exact qP _ λk hk=>.inl (by simp [hk])
  ·simp only [pR];rw [qwq qqx];exact ih qqq
theorem U9 {b i:Nat}:∀ (n:Nat),i<=n->jT h0 D (λk=>decide (k < i)) b n=jT h0 D (λ_=>true) b i:=by
 intro n;induction n with
 | zero =>
  intro h;have:i=0:=by omega
  subst this;rfl
 | succ n ih =>
  intro h;by_cases hi:i=n+1
  ·subst hi;exact oI _ λk hk=>.inl (by simp [hk])
  ·simp only [jT];rw [qwq qqx];exact ih qqq
theorem aiB {i:Nat}:∀ (n:Nat),i<=n->nAt n0 mv D (λk=>decide (k < i)) n=nAt n0 mv D (λ_=>true) i:=by
 intro n;induction n with
 | zero =>
  intro h;have:i=0:=by omega
  subst this;rfl
 | succ n ih =>
  intro h;by_cases hi:i=n+1
  ·subst hi;exact xC _ λk hk=>.inl (by simp [hk])
  ·simp only [nAt];rw [qwq qqx];exact ih qqq
theorem aaN {s i:Nat} (hL:L i=false) (hM:∀ k,M k=(decide (k=i)||L k)):∀ (n:Nat),i < n->(∀ k,k < n->i < k->L k=true->dst i=some s->dst k≠some s) ->
 pR e0 dst D M s n=if dst i=some s then some (D i).v else pR e0 dst D L s n:=by
 intro n;induction n with
 | zero=>intro h;omega
 | succ n ih =>
  intro h hk;simp only [pR];by_cases hi:i=n
  ·subst hi;rw [hM i,hL];simp only [q7z,qfx,q5q,qjz,q8j,qWz];split
   ·rfl
   ·exact qP _ λk hk'=>.inl (by
     rw [hM k];have:k≠i:=by omega
     simp [this])
  ·rw [ih qqq λk h1 h2=>hk k qqq h2,hM n];have:¬ n=i:=λe=>hi e.symm;simp only [this,zyx,qdx];by_cases hc:L n=true/\dst n=some s
   ·rw [qwz hc,qwz hc];split
    ·rename_i hd;exact absurd hc.2 (hk n qqq qqq hc.1 hd)
    ·rfl
   ·rw [qwq hc,qwq hc]
theorem VI {b i:Nat} (hL:L i=false) (hM:∀ k,M k=(decide (k=i)||L k)):∀ (n:Nat),i < n ->
 (∀ k,k < n->i < k->L k=true->((D i).bar=true\/b ∈ (D i).wr)->¬ ((D k).bar=true\/b ∈ (D k).wr)) ->
 jT h0 D M b n=if (D i).bar=true\/b ∈ (D i).wr then get (D i).h b else jT h0 D L b n:=by
 intro n;induction n with
 | zero=>intro h;omega
 | succ n ih =>
  intro h hk;simp only [jT];by_cases hi:i=n
  ·subst hi;rw [hM i,hL];simp only [q7z,qfx,q5q,qjz,q8j,qWz];split
   ·rfl
   ·exact oI _ λk hk'=>.inl (by
     rw [hM k];have:k≠i:=by omega
     simp [this])
  ·rw [ih qqq λk h1 h2=>hk k qqq h2,hM n];have:¬ n=i:=λe=>hi e.symm;simp only [this,zyx,qdx];by_cases hc:L n=true/\((D n).bar=true\/b ∈ (D n).wr)
   ·rw [qwz hc,qwz hc];split
    ·rename_i hd;exact absurd hc.2 (hk n qqq qqq hc.1 hd)
    ·rfl
   ·rw [qwq hc,qwq hc]
theorem ag4 {i:Nat} (hL:L i=false) (hM:∀ k,M k=(decide (k=i)||L k)):∀ (n:Nat),i < n->(∀ k,k < n->i < k->L k=true->mv i=true->mv k=false) ->
 nAt n0 mv D M n=if mv i=true then (D i).n else nAt n0 mv D L n:=by
 intro n;induction n with
 | zero=>intro h;omega
 | succ n ih =>
  intro h hk;simp only [nAt];by_cases hi:i=n
  ·subst hi;rw [hM i,hL];simp only [q7z,qfx,q5q,qjz,q8j,qWz];split
   ·rfl
   ·exact xC _ λk hk'=>.inl (by
     rw [hM k];have:k≠i:=by omega
     simp [this])
  ·rw [ih qqq λk h1 h2=>hk k qqq h2,hM n];have:¬ n=i:=λe=>hi e.symm;simp only [this,zyx,qdx];by_cases hc:L n=true/\mv n=true
   ·rw [qwz hc,qwz hc];split
    ·rename_i hd;rw [hk n qqq qqq hc.1 hd] at hc;cases hc.2
    ·rfl
   ·rw [qwq hc,qwq hc]
end
end Go.Pav
end
section
set_option linter.unusedSimpArgs false
set_option linter.unusedVariables false
namespace Go.Pav
open Go
def LJ (acc:Array Nat) (o:Oper):Nat:=o.after.toList.foldl (λs e=>if Region.binds .any e then s ||| 2 ^ e.on ||| acc.getD e.on 0 else s) 0
theorem ZM {acc:Array Nat} {j:Nat}:∀ (l:List Edge) (s:Nat),(l.foldl (λs e=>if Region.binds .any e then s ||| 2 ^ e.on ||| acc.getD e.on 0 else s) s).testBit j=true ->
 s.testBit j=true\/∃ e ∈ l,Region.binds .any e=true/\(e.on=j\/(acc.getD e.on 0).testBit j=true):=by
 intro l;induction l with
 | nil=>intro s h;exact .inl h
 | cons e l ih =>
  intro s h;simp only [q3q] at h;rcases ih _ h with q | ⟨e',q1,q2,q3⟩
  ·by_cases hb:Region.binds .any e=true
   ·rw [qwz hb] at q;simp only [Nat.testBit_or,qtz,Nat.testBit_two_pow,qvj] at q;rcases q with (q | q) | q
    ·exact .inl q
    ·exact .inr ⟨e,qXq,hb,.inl q⟩
    ·exact .inr ⟨e,qXq,hb,.inr q⟩
   ·rw [qwq hb] at q;exact .inl q
  ·exact .inr ⟨e',qyz _ q1,q2,q3⟩
theorem pY (g:Array Nat->Oper->Nat):∀ (l:List Oper) (acc:Array Nat) (k:Nat),
 (l.foldl (λacc o=>acc.push (g acc o)) acc).size=acc.size+l.length /\
 (k < acc.size->(l.foldl (λacc o=>acc.push (g acc o)) acc)[k]?=acc[k]?):=by
 intro l;induction l with
 | nil=>intro acc k;exact ⟨rfl,λ_=>rfl⟩
 | cons o l ih =>intro acc k;simp only [q3q];obtain ⟨h1,h2⟩:=ih (acc.push (g acc o)) k;refine ⟨by rw [h1];simp;omega,λhk=>?_⟩;rw [h2 qqx,qrz,qwq qqq]
theorem Kv (g:Array Nat->Oper->Nat):∀ (l:List Oper) (acc:Array Nat) (k:Nat) (o:Oper),l[k]?=some o ->
 ∃ acc':Array Nat,acc'.size=acc.size+k/\(l.foldl (λacc o=>acc.push (g acc o)) acc)[acc.size+k]?=some (g acc' o) /\
  ∀ j,j < acc.size+k->(l.foldl (λacc o=>acc.push (g acc o)) acc)[j]?=acc'[j]?:=by
 intro l;induction l with
 | nil=>intro acc k o h;simp at h
 | cons x l ih =>
  intro acc k o h;simp only [q3q];cases k with
  | zero =>
   simp at h;subst h;refine ⟨acc,by simp,?_,λj hj=>?_⟩
   ·rw [(pY g l _ _).2 qqz];simp
   ·rw [(pY g l _ _).2 qqx,qrz,qwq qqq]
  | succ k =>
   obtain ⟨acc',h1,h2,h3⟩:=ih (acc.push (g acc x)) k o (by simpa using h);have e:(acc.push (g acc x)).size+k=acc.size+(k+1):=by simp;omega
   rw [e] at h1 h2 h3;exact ⟨acc',h1,h2,h3⟩
theorem Qd {ops:List Oper} {k:Nat} {o:Oper} (hk:ops[k]?=some o):∃ acc:Array Nat,acc.size=k/\(ancestors ops).getD k 0=LJ acc o/\∀ j,j < k->(ancestors ops).getD j 0=acc.getD j 0:=by
 obtain ⟨acc,h1,h2,h3⟩:=Kv LJ ops #[] k o hk;simp only [List.size_toArray,qaj,qVq] at h1 h2 h3;have e:∀ j,(ancestors ops).getD j 0=((ops.foldl (λacc o=>acc.push (LJ acc o)) (#[]:Array Nat))[j]?).getD 0:=by intro j;rw [qoq];simp [ancestors,LJ]
 refine ⟨acc,h1,by rw [e,h2];rfl,λj hj=>?_⟩;rw [e,h3 j hj,qxj]
theorem H7:∀ (ops:List Oper) (k0:Nat),qI k0 ops=true->∀ (k:Nat) (o:Oper),ops[k]?=some o->∀ e ∈ o.after.toList,Region.binds .any e=true->e.on < k0+k:=by
 intro ops;induction ops with
 | nil=>intro k0 _ k o h;simp at h
 | cons x ops ih =>
  intro k0 h k o hk e he hb;simp only [qI,qzq] at h;cases k with
  | zero =>simp at hk;subst hk;have:=qjx.1 h.1 e he;simp only [hb,zvj,qdx] at this;rw [zxz] at this;omega
  | succ k =>have:=ih (k0+1) h.2 k o (by simpa using hk) e he hb;omega
theorem zk {ops:List Oper} (hE:qI 0 ops=true) {k j:Nat} {o:Oper} (hk:ops[k]?=some o) (hj:((ancestors ops).getD k 0).testBit j=true) :
 ∃ e ∈ o.after.toList,Region.binds .any e=true/\e.on < k/\(e.on=j\/((ancestors ops).getD e.on 0).testBit j=true):=by
 obtain ⟨acc,h1,h2,h3⟩:=Qd hk;rw [h2] at hj;rcases ZM _ _ hj with q | ⟨e,q1,q2,q3⟩
 ·simp at q
 ·have hlt:=H7 ops 0 hE k o hk e q1 q2;rw [qVq] at hlt;exact ⟨e,q1,q2,hlt,by rw [h3 _ hlt];exact q3⟩
theorem Ec (ops:List Oper):(ancestors ops).length=ops.length:=by have:=(pY LJ ops #[] 0).1;simpa [ancestors,LJ] using this
theorem Kt {anc:List Nat} {i j:Nat} (hij:i < j) (hj:j < anc.length) (hb:(anc.getD j 0).testBit i=false):(i,j) ∈ unordered anc:=by simp only [unordered,qkx,zvq,List.mem_filterMap];exact ⟨j,hj,i,hij,by rw [hb];rfl⟩
theorem CY {a b:List Nat} (h:meets a b=false):∀ x ∈ a,x ∉ b:=by
 intro x hx hy;have:meets a b=true:=by simp only [meets,qhx,qvj];exact ⟨x,hx,x,hy,rfl⟩
 rw [h] at this;cases this
structure Apart (a b:bg) (x y:Did):Prop where
 s1:∀ d,a.dst=some d->d ∉ b.slots
 s2:∀ d,a.dst=some d->b.dst≠some d
 s3:∀ d,b.dst=some d->d ∉ a.slots
 dp:dJ a.op=true->uN b.op=false
 dp':dJ b.op=true->uN a.op=false
 rd:y.bar=false->∀ c ∈ y.rd,x.bar=false/\c ∉ x.wr
 bar:y.bar=true->x.bar=false/\x.wr=[]
 wr:y.bar=false->∀ c ∈ y.wr,x.bar=false/\c ∉ x.wr
 rd':x.bar=false->∀ c ∈ x.rd,y.bar=false/\c ∉ y.wr
 aun:x.bar=true->y.bar=false/\y.wr=[]
 wr':x.bar=false->∀ c ∈ x.wr,y.bar=false/\c ∉ y.wr
theorem Apart.symm {a b:bg} {x y:Did} (h:Apart a b x y):Apart b a y x :=⟨h.s3,λd h1 h2=>h.s2 d h2 h1,h.s1,h.dp',h.dp,h.rd',h.aun,h.wr',h.rd,h.bar,h.wr⟩
theorem Apart.of {a b:bg} {x y:Did} (hs:mF a b=true) (hc:clash x y=false\/(x.bar=false/\x.wr=[]/\x.rd=[])\/(y.bar=false/\y.wr=[]/\y.rd=[])\/(x.bar=false/\x.wr=[]/\y.bar=false/\y.wr=[])) :
 Apart a b x y:=by
 have hdp:(dJ a.op=true->uN b.op=false)/\(dJ b.op=true->uN a.op=false):=by
  unfold mF at hs;rw [qzq] at hs;have:=hs.1;simp only [qcx,qZq] at this;refine ⟨λq=>?_,λq=>?_⟩
  ·have h1:=this.1;rw [q] at h1;simpa using h1
  ·have h1:=this.2;rw [q] at h1;simpa using h1
 have h1:(∀ d,a.dst=some d->d ∉ b.slots)/\(∀ d,a.dst=some d->b.dst≠some d)/\∀ d,b.dst=some d->d ∉ a.slots:=by
  unfold mF at hs;rw [qzq] at hs;replace hs:=hs.2;simp only [qzq] at hs;refine ⟨λd hd=>?_,λd hd=>?_,λd hd=>?_⟩
  ·have:=hs.1;rw [hd] at this;simp only [qzq,qcx,qlj,qmx] at this;exact this.1
  ·have:=hs.1;rw [hd] at this;simp only [qzq,qcx,beq_eq_false_iff_ne] at this;exact this.2
  ·have:=hs.2;rw [hd] at this;simp only [qcx,qlj,qmx] at this;exact this
 obtain ⟨s1,s2,s3⟩:=h1;have nil:∀ {l:List Nat} {c:Nat},l=[]->c ∉ l:=λh hc=>by subst h;cases hc
 have hc:(x.bar||(y.bar||(meets x.wr y.wr||(meets x.wr y.rd||meets x.rd y.wr))))=false\/(x.bar=false/\x.wr=[]/\x.rd=[])\/(y.bar=false/\y.wr=[]/\y.rd=[])\/(x.bar=false/\x.wr=[]/\y.bar=false/\y.wr=[]):=by
  rcases hc with h | h
  ·have qt:∀ d:Did,quiet d=true->d.bar=false/\d.wr=[]/\d.rd=[]:=by intro d hd;simp only [quiet,qzq,qcx,qhj] at hd;exact hd
   unfold clash at h;cases qx:quiet x with
   | true=>exact .inr (.inl (qt x qx))
   | false =>
    cases qy:quiet y with
    | true=>exact .inr (.inr (.inl (qt y qy)))
    | false =>rw [qx,qy] at h;exact .inl (by simpa using h)
  ·exact .inr h
 rcases hc with h | ⟨h1,h2,h3⟩ | ⟨h1,h2,h3⟩ | ⟨h1,h2,h3,h4⟩
 ·simp only [qZq] at h;obtain ⟨b1,b2,m1,m2,m3⟩:=h;exact ⟨s1,s2,s3,hdp.1,hdp.2,λ_ c hc=>⟨b1,λhx=>CY m2 c hx hc⟩,λhb=>(by rw [b2] at hb;cases hb),λ_ c hc=>⟨b1,λhx=>CY m1 c hx hc⟩, λ_ c hc=>⟨b2,λhx=>CY m3 c hc hx⟩,λhb=>(by rw [b1] at hb;cases hb),λ_ c hc=>⟨b2,λhx=>CY m1 c hc hx⟩⟩
 ·exact ⟨s1,s2,s3,hdp.1,hdp.2,λ_ c _=>⟨h1,nil h2⟩,λ_=>⟨h1,h2⟩,λ_ c _=>⟨h1,nil h2⟩,
   λ_ c hc=>absurd hc (nil h3),λhb=>(by rw [h1] at hb;cases hb),λ_ c hc=>absurd hc (nil h2)⟩
 ·exact ⟨s1,s2,s3,hdp.1,hdp.2,λ_ c hc=>absurd hc (nil h3),λhb=>(by rw [h1] at hb;cases hb),λ_ c hc=>absurd hc (nil h2),
   λ_ c _=>⟨h1,nil h2⟩,λ_=>⟨h1,h2⟩,λ_ c _=>⟨h1,nil h2⟩⟩
 ·exact ⟨s1,s2,s3,hdp.1,hdp.2,λ_ c _=>⟨h1,nil h2⟩,λ_=>⟨h1,h2⟩,λ_ c _=>⟨h1,nil h2⟩,
   λ_ c _=>⟨h3,nil h4⟩,λ_=>⟨h3,h4⟩,λ_ c _=>⟨h3,nil h4⟩⟩
end Go.Pav
end
section
set_option linter.unusedSimpArgs false
set_option linter.unusedVariables false
namespace Go.Pav
open Go
section
variable {P:Program} {φ:FuncId->Option Nat} {ψ:Nat->FuncId} {C:Prog} {run:Run} {N:Nat} {w0 w:World} {S:Nat->Prop} {m:Nat->Nat × Nat} {A:Nat->Prop} {a:Act}
theorem Inv.ext {h h':Heap} (i:Inv ψ N w0 w S m A h) (hh:∀ b,get h' b=get h b):Inv ψ N w0 w S m A h' :=i.sub λc o hc=>by rw [<- hh c];exact hc
theorem jW.ext {e e':Env} {tmps:Array Value} (i:jW ψ w S m A e tmps) (hh:∀ b,get e' b=get e b):jW ψ w S m A e' tmps :=λs v hs=>i s v (by rw [<- hh s];exact hs)
theorem JI (e:Env) (d:Option Nat) (v:AV) (s:Nat):get (dR e d v) s=if d=some s then some v else get e s:=by
 cases d with
 | none=>simp [dR]
 | some d=>simp [dR,get_put]
def Au (P:Program) (φ:FuncId->Option Nat) (ops:Array Oper) (D:Nat->Did) (k:Nat):Bool :=(D k).bar||(match ops[k]? with | some o=>dJ (cu P φ ops o).op | none=>false)
structure SQ (C:Prog) (run:Run) (P:Program) (φ:FuncId->Option Nat) (ops:Array Oper) (base:Nat) (e0:Env) (h0:Heap) (n0:Nat) (D:Nat->Did) (st:Nat->St):Prop where
 edges:qI 0 ops.toList=true
 ap:∀ (i j:Nat) (a b:Oper),ops[i]?=some a->ops[j]?=some b->i < j->((ancestors ops.toList).getD j 0).testBit i=false->Apart (cu P φ ops a) (cu P φ ops b) (D i) (D j)
 did:∀ (k:Nat) (o:Oper),ops[k]?=some o->jO C run (cu P φ ops o) (base+k) (st k).env (st k).heap (st k).next=some (D k)
 env:∀ k s,k<=ops.size->get (st k).env s=pR e0 (λk=>(ops[k]?).bind (·.dst)) D (λ_=>true) s k
 heap:∀ k b,k<=ops.size->get (st k).heap b=jT h0 D (λ_=>true) b k
 next:∀ k,k<=ops.size->(st k).next=nAt n0 (Au P φ ops D) D (λ_=>true) k
theorem xU (P:Program) (φ:FuncId->Option Nat) (ops:Array Oper) (o:Oper):(cu P φ ops o).dst=o.dst:=by unfold cu;simp only;split <;> rfl
theorem SQ.make {ops:Array Oper} {s:St} {r:St × List Did}
 (hE:qI 0 ops.toList=true)
 (hu:(unordered (ancestors ops.toList)).all (λp=>mF ((ops.toList.map (cu P φ ops)).getD p.1 default) ((ops.toList.map (cu P φ ops)).getD p.2 default))=true)
 (hr:o9 C run (ops.toList.map (cu P φ ops)) s.next ⟨s.env,s.heap,s.next+(ops.toList.map (cu P φ ops)).length⟩ []=some r)
 (hap:((unordered (ancestors ops.toList)).filter λp=>vP ((ops.toList.map (cu P φ ops)).getD p.1 default).op ((ops.toList.map (cu P φ ops)).getD p.2 default).op).all (apart r.2)=true) :
 ∃ D st,SQ C run P φ ops s.next s.env s.heap (s.next+ops.size) D st/\r.1=st ops.size:=by
 obtain ⟨s',ds⟩:=r;obtain ⟨st,ds1,h1,h2,h3,h4,h5⟩:=Ul _ _ _ _ _ _ hr;simp only [qJj] at h1;subst h1;simp only [qQq,q7j] at h2 h3 h4;have at_:∀ (k:Nat) (o:Oper),ops[k]?=some o->(ops.toList.map (cu P φ ops))[k]?=some (cu P φ ops o):=by intro k o hk;rw [qWx,qeq,hk];rfl
 have gd:∀ (k:Nat) (o:Oper),ops[k]?=some o->(ops.toList.map (cu P φ ops)).getD k default=cu P φ ops o:=by intro k o hk;rw [qoq,at_ k o hk];rfl
 have each:∀ (k:Nat) (o:Oper),ops[k]?=some o->ds[k]?=some (ds.getD k ⟨.undef,[],0,false,[],[]⟩)/\jO C run (cu P φ ops o) (s.next+k) (st k).env (st k).heap (st k).next=some (ds.getD k ⟨.undef,[],0,false,[],[]⟩) /\
  st (k+1)=⟨dR (st k).env o.dst (ds.getD k ⟨.undef,[],0,false,[],[]⟩).v,(ds.getD k ⟨.undef,[],0,false,[],[]⟩).h,(ds.getD k ⟨.undef,[],0,false,[],[]⟩).n⟩:=by
  intro k o hk;obtain ⟨d,q1,q2,q3⟩:=h5 k _ (at_ k o hk);have e:ds.getD k ⟨.undef,[],0,false,[],[]⟩=d:=by rw [qoq,q1];rfl
  rw [e];rw [xU] at q3;exact ⟨q1,q2,q3⟩
 have opAt:∀ k,k < ops.size->ops[k]?=some ops[k]!:=by intro k hk;rw [getElem!_pos ops k hk];exact qiz hk
 refine ⟨λk=>ds.getD k ⟨.undef,[],0,false,[],[]⟩,st,⟨hE,?_,λk o hk=>(each k o hk).2.1,?_,?_,?_⟩,?_⟩
 ·intro i j a b hi hj hij hb;have hjl:j < (ancestors ops.toList).length:=by rw [Ec];simpa using (qWq.1 hj).1
  have hm:=Kt hij hjl hb;have hsl:=qjx.1 hu _ hm;simp only [gd i a hi,gd j b hj] at hsl;refine Apart.of hsl ?_;obtain ⟨sa1,sa2⟩:=Ju (each i a hi).2.1;obtain ⟨sb1,sb2⟩:=Ju (each j b hj).2.1;cases hmc:vP (cu P φ ops a).op (cu P φ ops b).op with
  | true =>left;have:=qjx.1 hap (i,j) (qgx.2 ⟨hm,by simp only [gd i a hi,gd j b hj];exact hmc⟩);simp only [apart,(each i a hi).1,(each j b hj).1,qcx] at this;exact this
  | false =>
   right;unfold vP at hmc;cases ta:touches (cu P φ ops a).op with
   | false=>exact .inl (sa2 ta)
   | true =>
    cases tb:touches (cu P φ ops b).op with
    | false=>exact .inr (.inl (sb2 tb))
    | true =>simp only [ta,tb,qlz,qYj,qZq] at hmc;obtain ⟨⟨⟨c1,c2⟩,c3⟩,c4⟩:=hmc;obtain ⟨x1,x2⟩:=sa1 c1 c3;obtain ⟨y1,y2⟩:=sb1 c2 c4;exact .inr (.inr ⟨x1,x2,y1,y2⟩)
 ·intro k sl;induction k with
  | zero=>intro _;rw [h3];rfl
  | succ k ih =>
   intro hk;have ho:=opAt k qqq;rw [(each k _ ho).2.2,JI];simp only [pR,q5q,ho,zzx];split
   ·rfl
   ·exact ih qqq
 ·intro k b;induction k with
  | zero=>intro _;rw [h3];rfl
  | succ k ih =>
   intro hk;have ho:=opAt k qqq;rw [(each k _ ho).2.2];simp only [jT,q5q];split
   ·rfl
   ·rename_i hno;simp only [not_or,Bool.not_eq_true] at hno;obtain ⟨u,q1,_,_⟩:=zH (each k _ ho).2.1 hno.1;rw [<- ih qqq,q1];rw [q1] at hno;exact lQ u _ hno.2
 ·intro k;induction k with
  | zero=>intro _;rw [h3];simp [nAt]
  | succ k ih =>
   intro hk;have ho:=opAt k qqq;rw [(each k _ ho).2.2];simp only [nAt,q5q];split
   ·rfl
   ·rename_i hno;simp only [Au,ho,Bool.not_eq_true,qZq] at hno;obtain ⟨u,_,q1,_⟩:=zH (each k _ ho).2.1 hno.1;rw [q1 hno.2];exact ih qqq
 ·exact h4.symm
def AtL (P:Program) (φ:FuncId->Option Nat) (ψ:Nat->FuncId) (N:Nat) (w0 w1:World) (S:Nat->Prop) (m:Nat->Nat × Nat) (A:Nat->Prop) (ops:Array Oper) (base:Nat) (e0:Env) (h0:Heap) (n0:Nat) (D:Nat->Did) (a0:Act) (T:Nat->Prop) (L:Nat->Bool) (a:Act) (w:World):Prop :=
 kS T a0 a/\∃ S' m' A' e h n,Inv ψ N w0 w S' m' A' h/\jW ψ w S' m' A' e a.tmps/\(∀ s,get e s=pR e0 (λk=>(ops[k]?).bind (·.dst)) D L s ops.size)/\(∀ b,get h b=jT h0 D L b ops.size) /\
  n=nAt n0 (Au P φ ops D) D L ops.size/\a.tmps.size=a0.tmps.size/\a.defers=a0.defers/\Le w1 S m A w S' m' A'/\(∀ c,c < N->S' c->S c)/\base+ops.size<=n /\
  ∀ b,A' b->A b\/(∃ k,k < ops.size/\L k=true/\b=base+k)\/(base+ops.size<=b/\b < n)
theorem Va {ops:Array Oper} {base:Nat} {e0:Env} {h0:Heap} {n0:Nat} {D:Nat->Did} {st:Nat->St} (dr:SQ C run P φ ops base e0 h0 n0 D st) (hr:nS P ψ run) (ids:∀ f g,φ f=some g->ψ g=f)
 {w1:World} {a0:Act} (hA0:∀ b,A b->b < base) (hd:∀ o ∈ ops.toList,∀ x,o.dst=some x->x < a0.tmps.size) {T:Nat->Prop} (hT:∀ o ∈ ops.toList,∀ x,o.dst=some x->¬ T x) {L M:Nat->Bool} {i:Nat} {o:Oper} (hi:ops[i]?=some o) (hL:L i=false) (hM:∀ k,M k=(decide (k=i)||L k))
 (ready:∀ e ∈ o.after.toList,Region.binds .any e=true->L e.on=true) (clos:∀ k,k < ops.size->L k=true->∀ j,((ancestors ops.toList).getD k 0).testBit j=true->L j=true)
 {Q:Exit->Act->World->Prop} {K:Act->World->Prop} {a:Act} {w:World} (hat:AtL P φ ψ N w0 w1 S m A ops base e0 h0 n0 D a0 T L a w)
 (hK:∀ a' w',AtL P φ ψ N w0 w1 S m A ops base e0 h0 n0 D a0 T M a' w'->K a' w'):wpOp P ops Q i K a w:=by
 obtain ⟨hkt,S1,m1,A1,e,h,n,r1,r2,r3,r4,r5,r6,r7,r8,r9,r10,r11⟩:=hat;have hil:i < ops.size:=(qWq.1 hi).1;have hil':ops.toList[i]?=some o:=by simpa using hi
 have anci:∀ j,((ancestors ops.toList).getD i 0).testBit j=true->L j=true:=by
  intro j hj;obtain ⟨ed,q1,q2,q3,q4⟩:=zk dr.edges hil' hj;have q5:=ready ed q1 q2;rcases q4 with q | q
  ·rw [<- q];exact q5
  ·exact clos ed.on qqq q5 j q
 have differ:∀ k,k < ops.size->L k=decide (k < i)\/(k≠i/\∃ o',ops[k]?=some o'/\Apart (cu P φ ops o') (cu P φ ops o) (D k) (D i)):=by
  intro k hk;have hok:ops[k]?=some ops[k]:=qiz hk;rcases Nat.lt_trichotomy k i with q | q | q
  ·cases hLk:L k with
   | true=>exact .inl (by simp [q])
   | false =>
    refine .inr ⟨by omega,_,hok,dr.ap k i _ _ hok hi q ?_⟩;cases hb:((ancestors ops.toList).getD i 0).testBit k with
    | false=>rfl
    | true=>rw [anci k hb] at hLk;cases hLk
  ·subst q;exact .inl (by rw [hL];simp)
  ·cases hLk:L k with
   | false=>exact .inl qqx
   | true =>
    refine .inr ⟨by omega,_,hok,(dr.ap i k _ _ hi hok q ?_).symm⟩;cases hb:((ancestors ops.toList).getD k 0).testBit i with
    | false=>rfl
    | true=>rw [clos k hk hLk i hb] at hL;cases hL
 have later:∀ k,k < ops.size->i < k->L k=true->∃ o',ops[k]?=some o'/\Apart (cu P φ ops o') (cu P φ ops o) (D k) (D i):=by
  intro k hk hik hLk;rcases differ k hk with q | ⟨_,q⟩
  ·rw [hLk] at q;have:k < i:=zwz q.symm;omega
  ·exact q
 have hsame:fG (cu P φ ops o).slots (st i).env e:=by
  intro s hs;rw [dr.env i s qqq,r3 s,<- Zc ops.size qqq];refine (qP ops.size λk hk=>?_).symm;rcases differ k hk with q | ⟨_,o',q1,q2⟩
  ·exact .inl q
  ·refine .inr λhdk=>?_;rw [q1] at hdk;exact q2.s1 s (by rw [xU];exact hdk) hs
 have hheap:∀ b,((D i).bar=false->b ∈ (D i).rd)->get (st i).heap b=get h b:=by
  intro b hb;rw [dr.heap i b qqq,r4 b,<- U9 ops.size qqq];refine (oI ops.size λk hk=>?_).symm;rcases differ k hk with q | ⟨_,o',q1,q2⟩
  ·exact .inl q
  ·refine .inr ?_;cases hbar:(D i).bar with
   | false=>exact q2.rd hbar b (hb hbar)
   | true=>obtain ⟨x1,x2⟩:=q2.bar hbar;exact ⟨x1,by rw [x2];intro hx;cases hx⟩
 have hnid:¬ A1 (base+i):=by
  intro hb;rcases r11 _ hb with q | ⟨k,q1,q2,q3⟩ | ⟨q1,q2⟩
  ·have:=hA0 _ q;omega
  ·have:k=i:=by omega
   rw [this,hL] at q2;cases q2
  ·omega
 have hA1:∀ b,A1 b->b < n:=by
  intro b hb;rcases r11 b hb with q | ⟨k,q1,q2,q3⟩ | ⟨q1,q2⟩
  ·have:=hA0 _ q;omega
  ·omega
  ·exact q2
 have barCall:∀ k o',ops[k]?=some o'->(D k).bar=true->uN (cu P φ ops o').op=true:=λk o' hk hb=>aeG (dr.did k o' hk) hb;have mvl:∀ k,k < ops.size->(∃ o',ops[k]?=some o'/\Apart (cu P φ ops o') (cu P φ ops o) (D k) (D i))->Au P φ ops D i=true->Au P φ ops D k=false:=by
  rintro k hk ⟨o',x1,x2⟩ hx;simp only [Au,hi,qtz] at hx;simp only [Au,x1,qZq];rcases hx with hx | hx
  ·refine ⟨(x2.bar hx).1,?_⟩;cases q:dJ (cu P φ ops o').op with
   | false=>rfl
   | true=>have:=x2.dp q;rw [barCall i o hi hx] at this;cases this
  ·have hc:=x2.dp' hx;refine ⟨?_,?_⟩
   ·cases q:(D k).bar with
    | false=>rfl
    | true=>rw [barCall k o' x1 q] at hc;cases hc
   ·cases q:dJ (cu P φ ops o').op with
    | false=>rfl
    | true=>rw [J9 q] at hc;cases hc
 have hn:Au P φ ops D i=true->n=(st i).next:=by
  intro hmv;rw [r5,dr.next i qqq,<- aiB ops.size qqq];refine xC ops.size λk hk=>?_;rcases differ k hk with q | ⟨_,q⟩
  ·exact .inl q
  ·exact .inr (mvl k hk q hmv)
 have fin:∀ (d:Did),d.v=(D i).v->(∀ b,get d.h b=if (D i).bar=true\/b ∈ (D i).wr then get (D i).h b else jT h0 D L b ops.size)->d.n=(if Au P φ ops D i=true then (D i).n else n) ->
  ∀ cv w',YM ψ N w0 w S1 m1 A1 (base+i) n w' cv d->K (a.put o.dst cv) w':=by
  rintro d ev eh en cv w' ⟨S2,m2,A2,q1,q2,q3,q4,q5,q6⟩;refine hK _ _ ⟨hkt.trans (kS.put (hT o (qzx hil'))),S2,m2,A2,dR e o.dst d.v,d.h,d.n,q2,(r2.mono q3).dR (λx hx=>by rw [r6];exact hd o (qzx hil') x hx) q1,λs=>?_,λb=>?_,?_,(Act.Iy ..).trans r6,(Act.EF ..).trans r7,r8.trans q3,λc hc hs=>r9 c hc (q4 c hc hs),by omega,λb hb=>?_⟩
  ·rw [JI,aaN (s:=s) hL hM ops.size hil,ev,r3 s,hi]
   ·rfl
   ·intro k hk hik hLk hdi hdk;obtain ⟨o',x1,x2⟩:=later k hk hik hLk;rw [hi] at hdi;rw [x1] at hdk;exact x2.s2 s (by rw [xU];exact hdk) (by rw [xU];exact hdi)
  ·rw [eh b,VI (b:=b) hL hM ops.size hil];intro k hk hik hLk hx hy;obtain ⟨o',x1,x2⟩:=later k hk hik hLk;cases hbar:(D i).bar with
   | true =>obtain ⟨y1,y2⟩:=x2.bar hbar;rw [y1,y2] at hy;rcases hy with hy | hy <;> cases hy
   | false =>rw [hbar] at hx;have hx:=hx.resolve_left qqz;obtain ⟨y1,y2⟩:=x2.wr hbar b hx;rw [y1] at hy;exact y2 (hy.resolve_left qqz)
  ·rw [en,ag4 hL hM ops.size hil,r5];intro k hk hik hLk hx;exact mvl k hk (later k hk hik hLk) hx
  ·rcases q6 b hb with z | z | ⟨z1,z2⟩
   ·rcases r11 b z with y | ⟨k,y1,y2,y3⟩ | ⟨y1,y2⟩
    ·exact .inl y
    ·exact .inr (.inl ⟨k,y1,by rw [hM,y2];simp,y3⟩)
    ·exact .inr (.inr ⟨y1,by omega⟩)
   ·exact .inr (.inl ⟨i,hil,by rw [hM];simp,z⟩)
   ·exact .inr (.inr ⟨by omega,z2⟩)
 cases hbar:(D i).bar with
 | false =>
  obtain ⟨u,e1,e0,e2⟩:=zH (dr.did i o hi) hbar;have hmvi:Au P φ ops D i=dJ (cu P φ ops o).op:=by simp only [Au,hbar,hi,qdx]
  have hev:=e2 e h n hsame (λb hb=>hheap b λ_=>hb) (λq=>hn (by rw [hmvi];exact q));refine abK hr hi hev ⟨r1,r2,ids⟩ hA1 hnid λcv w' hout=>fin ⟨(D i).v,aQ h u,if dJ (cu P φ ops o).op=true then (D i).n else n,false,(D i).rd,u.map (·.1)⟩ rfl (λb=>?_) ?_ cv w' hout
  ·have hwr:(D i).wr=u.map (·.1):=by rw [e1]
   have hh:(D i).h=aQ (st i).heap u:=by rw [e1]
   simp only [hbar,qjz,zkj,hwr,hh];by_cases hb:b ∈ u.map (·.1)
   ·rw [qwz hb];exact JY u _ _ hb
   ·rw [qwq hb,<- r4 b];exact lQ u _ hb
  ·rw [hmvi]
 | true =>
  have hmvi:Au P φ ops D i=true:=by simp only [Au,hbar,qfx]
  have hev:=dr.did i o hi;rw [ae7 hsame,<- hn hmvi] at hev;have hi1:Inv ψ N w0 w S1 m1 A1 (st i).heap:=r1.ext λb=>hheap b λhx=>by rw [hbar] at hx;cases hx
  refine abK hr hi hev ⟨hi1,r2,ids⟩ hA1 hnid λcv w' hout=>fin (D i) rfl (λb=>?_) ?_ cv w' hout
  ·rw [qwz (.inl hbar)]
  ·rw [qwz hmvi]
end
end Go.Pav
end
section
set_option linter.unusedSimpArgs false
set_option linter.unusedVariables false
namespace Go.Pav
open Go
section
variable {P:Program} {φ:FuncId->Option Nat} {ψ:Nat->FuncId} {C:Prog} {run:Run} {N:Nat} {w0 w:World} {S:Nat->Prop} {m:Nat->Nat × Nat} {A:Nat->Prop} {a:Act}
theorem getD_in {l:Array Bool} {k:Nat} (hk:k < l.size) (d d':Bool):l.getD k d=l.getD k d':=by simp [Array.getD,hk]
theorem Tt {ops:Array Oper} {base:Nat} {e0:Env} {h0:Heap} {n0:Nat} {D:Nat->Did} {st:Nat->St} (dr:SQ C run P φ ops base e0 h0 n0 D st) (hr:nS P ψ run) (ids:∀ f g,φ f=some g->ψ g=f)
 {w1:World} {a0:Act} (hA0:∀ b,A b->b < base) (hd:∀ o ∈ ops.toList,∀ x,o.dst=some x->x < a0.tmps.size) {T:Nat->Prop} (hT:∀ o ∈ ops.toList,∀ x,o.dst=some x->¬ T x) {Q:Exit->Act->World->Prop}
 (hQ:∀ a' w',AtL P φ ψ N w0 w1 S m A ops base e0 h0 n0 D a0 T (λ_=>true) a' w'->Q .normal a' w') :
 ∀ (fuel:Nat) (listed:Array Bool) (un:List Nat) (a:Act) (w:World),listed.size=ops.size->(∀ k,k < ops.size->listed.getD k false=false->k ∈ un)->un.length<=fuel ->
  (∀ k,k < ops.size->listed.getD k false=true->∀ j,((ancestors ops.toList).getD k 0).testBit j=true->listed.getD j false=true) ->
  AtL P φ ψ N w0 w1 S m A ops base e0 h0 n0 D a0 T (λk=>listed.getD k false) a w->wpAny P .any ops Q fuel listed a w:=by
 have full:∀ (listed:Array Bool) (a:Act) (w:World),listed.size=ops.size->Region.ready .any ops listed=[]->AtL P φ ψ N w0 w1 S m A ops base e0 h0 n0 D a0 T (λk=>listed.getD k false) a w->Q .normal a w:=by
  intro listed a w hsz hready hat;have all:∀ k,k < ops.size->listed.getD k false=true:=by
   intro k;induction k using Nat.strongRecOn with
   | _ k ih =>
    intro hk;cases hl:listed.getD k false with
    | true=>rfl
    | false =>
     have hok:ops[k]?=some ops[k]:=qiz hk;have:k ∈ Region.ready .any ops listed:=by refine mem_ready.2 ⟨by rw [getD_in qqq true false];exact hl,ops[k],hok,λe he hb=>?_⟩;have:=H7 ops.toList 0 dr.edges k ops[k] (by rw [qeq];exact hok) e (Array.mem_toList_iff.2 he) hb;exact ih e.on qqq qqq
     rw [hready] at this;cases this
  refine hQ a w ?_;obtain ⟨hkt,S1,m1,A1,e,h,n,r1,r2,r3,r4,r5,r6,r7,r8,r9,r10,r11⟩:=hat;refine ⟨hkt,S1,m1,A1,e,h,n,r1,r2,λs=>?_,λb=>?_,?_,r6,r7,r8,r9,r10,λb hb=>?_⟩
  ·rw [r3 s];exact qP _ λk hk=>.inl (all k hk)
  ·rw [r4 b];exact oI _ λk hk=>.inl (all k hk)
  ·rw [r5];exact xC _ λk hk=>.inl (all k hk)
  ·rcases r11 b hb with q | ⟨k,q1,_,q3⟩ | q
   ·exact .inl q
   ·exact .inr (.inl ⟨k,q1,rfl,q3⟩)
   ·exact .inr (.inr q)
 intro fuel;induction fuel with
 | zero =>
  intro listed un a w hsz hun hlen _ hat;have hun0:un=[]:=qXj.1 qqq;have:Region.ready .any ops listed=[]:=by rw [List.eq_nil_iff_forall_not_mem];intro k hk;obtain ⟨q1,o,q2,_⟩:=mem_ready.1 hk;have hkl:k < ops.size:=(qWq.1 q2).1;have:=hun k hkl (by rw [getD_in qqq false true];exact q1);rw [hun0] at this;cases this
  exact ⟨this,full listed a w hsz this hat⟩
 | succ fuel ih =>
  intro listed un a w hsz hun hlen clos hat;refine ⟨λhready=>full listed a w hsz hready hat,λi hi=>?_⟩;obtain ⟨q1,o,q2,q3⟩:=mem_ready.1 hi;have hil:i < ops.size:=(qWq.1 q2).1;have hLi:listed.getD i false=false:=by rw [getD_in qqq false true];exact q1
  have hM:∀ k,(listed.setIfInBounds i true).getD k false=(decide (k=i)||listed.getD k false):=by
   intro k;simp only [qxj];by_cases e:k=i
   ·subst e;have:k < listed.size:=by omega
    simp [this]
   ·rw [qcq (qcj e)];simp [e]
  have ready:∀ e ∈ o.after.toList,Region.binds .any e=true->listed.getD e.on false=true:=λe he hb=>q3 e (by simpa using he) hb;refine Va (L:=λk=>listed.getD k false) (M:=λk=>(listed.setIfInBounds i true).getD k false) dr hr ids hA0 hd hT q2 hLi hM ready clos hat λa' w' hat'=>?_;refine ih (listed.setIfInBounds i true) (un.erase i) a' w' (by simpa using hsz) (λk hk hl=>?_) ?_ (λk hk hl j hj=>?_) hat'
  ·rw [hM] at hl;simp only [qZq,qmx] at hl;exact (List.mem_erase_of_ne hl.1).2 (hun k hk hl.2)
  ·rw [List.length_erase_of_mem (hun i hil hLi)];omega
  ·rw [hM] at hl |-;simp only [qtz,qvj] at hl |-;right;rcases hl with rfl | hl
   ·obtain ⟨ed,x1,x2,x3,x4⟩:=zk dr.edges (by simpa using q2) hj;have x5:=ready ed x1 x2;rcases x4 with x | x
    ·rw [<- x];exact x5
    ·exact clos ed.on qqq x5 j x
   ·exact clos k hk hl j hj
theorem ahQ (ids:∀ f g,φ f=some g->ψ g=f) (mixed:P.follows .mixedOrders=true) (hr:nS P ψ run):VJ P φ ψ C run:=by
 intro nt id ops un live T hT hfit s r hev hap N w0 w S m A a Q i env hA hsz hQ;cases hfit with
 | draw _ _ _ hd hE hu =>
  obtain ⟨D,st,dr,hend⟩:=SQ.make (C:=C) (run:=run) (P:=P) (φ:=φ) hE hu hev hap;refine wp_region_any mixed ?_;have hT':∀ o ∈ ops.toList,∀ x,o.dst=some x->¬ T x:=by intro o ho x hx hTx;have:=hT x hTx;simp only [gG,q5x] at this;have:=this o ho;rw [hx] at this;simp at this
  have le:Le w S m A { w with drawn:=w.drawn+1 } S m A:=Le.xu rfl;have i':Inv ψ N w0 { w with drawn:=w.drawn+1 } S m A s.heap:=i.xu rfl rfl rfl;have none_:∀ k,(Array.replicate ops.size false).getD k false=false:=by intro k;rw [qxj,Array.getElem?_replicate];split <;> rfl
  refine Tt (N:=N) (w0:=w0) (S:=S) (m:=m) (A:=A) (w1:=w) (a0:=a) dr hr ids hA (λo ho x hx=>by rw [hsz];exact hd o ho x hx) hT' ?_ ops.size _ (List.range ops.size) a _ qqz (λk hk _=>zvq.2 hk) qqz (λk _ hl=>by rw [none_] at hl;cases hl) ?_
  ·rintro a' w' ⟨hkt,S1,m1,A1,e,h,n,r1,r2,r3,r4,r5,r6,r7,r8,r9,r10,r11⟩;refine hQ a' w' ⟨hkt,S1,m1,A1,r1.ext λb=>?_,r2.ext λsl=>?_,r6,r7,r8,r9,?_,λb hb=>?_⟩
   ·rw [hend,dr.heap ops.size b (qxq _),r4 b]
   ·rw [hend,dr.env ops.size sl (qxq _),r3 sl]
   ·rw [hend,dr.next ops.size (qxq _),<- r5];omega
   ·rw [hend,dr.next ops.size (qxq _),<- r5];rcases r11 b hb with q | ⟨k,q1,_,q3⟩ | ⟨q1,q2⟩
    ·exact .inl q
    ·exact .inr ⟨by omega,by omega⟩
    ·exact .inr ⟨by omega,q2⟩
  ·have e0:(λk=>(Array.replicate ops.size false).getD k false)=λ_=>false:=funext none_;rw [e0];refine ⟨kS.refl _ _,S,m,A,s.env,s.heap,s.next+ops.size,i',env.mono le,λsl=>?_,λb=>?_,?_,rfl,rfl,le,λ_ _ h=>h,qxq _,λb hb=>.inl hb⟩
   ·have:∀ n,pR s.env (λk=>(ops[k]?).bind (·.dst)) D (λ_=>false) sl n=get s.env sl:=by
     intro n;induction n with
     | zero=>rfl
     | succ n ih=>simp only [pR,qjz,q8j,qWz];exact ih
    exact (this _).symm
   ·have:∀ n,jT s.heap D (λ_=>false) b n=get s.heap b:=by
     intro n;induction n with
     | zero=>rfl
     | succ n ih=>simp only [jT,qjz,q8j,qWz];exact ih
    exact (this _).symm
   ·have:∀ n,nAt (s.next+ops.size) (Au P φ ops D) D (λ_=>false) n=s.next+ops.size:=by
     intro n;induction n with
     | zero=>rfl
     | succ n ih=>simp only [nAt,qjz,q8j,qWz];exact ih
    exact (this _).symm
theorem amA {Φ:Nat->FuncId->Option Nat} (hL:Linked P Φ ψ C) (fuel:Nat):nS P ψ (Pav.run C fuel) :=JM hL (amc hL (λg _ hr=>ahQ (hL.ids g) hL.mixed hr) fuel)
theorem acf {Φ:Nat->FuncId->Option Nat} (hL:Linked P Φ ψ C) {fuel g:Nat} {args:List AV} {v:AV} (hc:ajm C fuel g args=some v) {w:World} {S:Nat->Prop} {m:Nat->Nat × Nat} {cargs:Array Value}
 (hS:∀ c,S c->c < w.heap.size) (hs:cargs.size=args.length) (hv:∀ (j:Nat) (x:AV),args[j]?=some x->VR ψ w S m (λ_=>False) x (cargs.getD j Go.undef)) :
 Calls P (ψ g) cargs w λe w'=>∃ cv S' m',e=.returned cv/\VR ψ w' S' m' (λ_=>False) v cv/\(∀ c,c < w.heap.size->w'.heap[c]?=w.heap[c]?)/\w.heap.size<=w'.heap.size/\w'.os=w.os/\w'.output=w.output:=by
 obtain ⟨⟨v0,h0,n0⟩,hrun,hfv⟩:=au hc;have hi0:Inv ψ w.heap.size w w S m (λ_=>False) ([]:Heap) :=
  ⟨λb o hb=>by simp [get] at hb,λb o hb=>by simp [get] at hb,λb o hb=>by simp [get] at hb,λb o hb=>by simp [get] at hb,λb o b' o' hb=>by simp [get] at hb,
   hS,qxq _,λ_ _=>rfl,rfl,rfl⟩
 refine Calls.mono ((amA hL fuel g args [] 0 v0 h0 n0 hrun).2 w.heap.size w w S m (λ_=>False) cargs hi0 (λb hb=>hb.elim) hs hv).1 ?_;rintro e w' ⟨cv,rfl,S',m',A',hvr,hinv,hle,hsub,_,_⟩;refine ⟨cv,λc=>S' c\/∃ b ∈ reach h0 ay v0,c=(m' b).1,m',rfl,?_,hinv.old,hinv.size,hinv.os,hinv.out⟩;exact wH hinv.obj (λb hb=>.inl hb) ay v0 v _ hfv hvr λb hb=>.inr ⟨b,hb,rfl⟩
end
end Go.Pav
end
section
set_option linter.unusedSimpArgs false
set_option linter.unusedVariables false
namespace Go.Pw
open Go Go.Pav
def bC {α β:Type} (R:α->β->Prop) (l:List α) (l':List β):Prop:=l.length=l'.length/\∀ (j:Nat) (x:α) (x':β),l[j]?=some x->l'[j]?=some x'->R x x'
namespace bC
variable {α β:Type} {R R':α->β->Prop} {l m:List α} {l' m':List β}
theorem nil:bC R [] []:=⟨rfl,λj x x' h=>by simp at h⟩
theorem cons {a:α} {b:β} (h:R a b) (t:bC R l l'):bC R (a::l) (b::l'):=by
 refine ⟨by simp [t.1],λj x x' h1 h2=>?_⟩;cases j with
 | zero=>simp at h1 h2;subst h1;subst h2;exact h
 | succ j=>exact t.2 j x x' (by simpa using h1) (by simpa using h2)
theorem acT {a:α} {b:β} (t:bC R (a::l) (b::l')):R a b/\bC R l l':=by refine ⟨t.2 0 a b qqz qqz,by simpa using t.1,λj x x' h1 h2=>t.2 (j+1) x x' (by simpa using h1) (by simpa using h2)⟩
theorem eU (t:bC R [] l'):l'=[]:=qXj.1 t.1.symm
theorem dK {a:α} (t:bC R (a::l) l'):∃ b r,l'=b::r/\R a b/\bC R l r:=by
 cases l' with
 | nil=>simp [bC] at t
 | cons b r=>exact ⟨b,r,rfl,t.acT.1,t.acT.2⟩
theorem mono (h:bC R l l') (hr:∀ x x',x ∈ l->R x x'->R' x x'):bC R' l l':=⟨h.1,λj x x' h1 h2=>hr _ _ (qzx h1) (h.2 j x x' h1 h2)⟩
theorem get (h:bC R l l') {j:Nat} {x:α} (hj:l[j]?=some x):∃ x',l'[j]?=some x'/\R x x':=by
 have hlt:j < l'.length:=by rw [<- h.1];exact (qxz.1 hj).1
 exact ⟨l'[j],qqj hlt,h.2 j x _ hj (qqj hlt)⟩
theorem get' (h:bC R l l') {j:Nat} {x':β} (hj:l'[j]?=some x'):∃ x,l[j]?=some x/\R x x':=by
 have hlt:j < l.length:=by rw [h.1];exact (qxz.1 hj).1
 exact ⟨l[j],qqj hlt,h.2 j _ x' (qqj hlt) hj⟩
theorem take (h:bC R l l') (n:Nat):bC R (l.take n) (l'.take n):=by
 refine ⟨by simp [h.1],λj x x' h1 h2=>?_⟩;rw [qZj] at h1 h2;split at h1
 ·rename_i hj;rw [qwz hj] at h2;exact h.2 j x x' h1 h2
 ·cases h1
theorem drop (h:bC R l l') (n:Nat):bC R (l.drop n) (l'.drop n):=by refine ⟨by simp [h.1],λj x x' h1 h2=>?_⟩;rw [qKq] at h1 h2;exact h.2 _ x x' h1 h2
theorem append (h:bC R l l') (k:bC R m m'):bC R (l++m) (l'++m'):=by
 refine ⟨by simp [h.1,k.1],λj x x' h1 h2=>?_⟩;rw [qbj] at h1 h2;split at h1
 ·rename_i hj;rw [qwz (by rw [<- h.1];exact hj)] at h2;exact h.2 j x x' h1 h2
 ·rename_i hj;rw [qwq (by rw [<- h.1];exact hj),<- h.1] at h2;exact k.2 _ x x' h1 h2
theorem set (h:bC R l l') {n:Nat} {a:α} {b:β} (hab:R a b):bC R (l.set n a) (l'.set n b):=by
 refine ⟨by simp [h.1],λj x x' h1 h2=>?_⟩;rw [qpx] at h1 h2;split at h1
 ·rename_i hj;rw [qwz hj] at h2;split at h1
  ·cases h1;split at h2
   ·cases h2;exact hab
   ·cases h2
  ·cases h1
 ·rename_i hj;rw [qwq hj] at h2;exact h.2 j x x' h1 h2
theorem replicate {a:α} {b:β} (hab:R a b) (n:Nat):bC R (List.replicate n a) (List.replicate n b):=by
 refine ⟨by simp,λj x x' h1 h2=>?_⟩;rw [qmq] at h1 h2;split at h1
 ·rename_i hj;rw [qwz hj] at h2;cases h1;cases h2;exact hab
 ·cases h1
theorem map {γ δ:Type} {T:γ->δ->Prop} {f:α->γ} {g:β->δ} (h:bC R l l') (hf:∀ x x',R x x'->T (f x) (g x')):bC T (l.map f) (l'.map g):=by
 refine ⟨by simp [h.1],λj x x' h1 h2=>?_⟩;rw [qWx] at h1 h2;cases h3:l[j]? with
 | none=>rw [h3] at h1;cases h1
 | some a =>
  cases h4:l'[j]? with
  | none=>rw [h4] at h2;cases h2
  | some b=>rw [h3] at h1;rw [h4] at h2;cases h1;cases h2;exact hf _ _ (h.2 j a b h3 h4)
end bC
inductive VW (ρ:Nat->Nat) (V:Nat->Prop):(Nat->Prop)->AV->AV->Prop
 | undef {A:Nat->Prop} (v:AV):VW ρ V A .undef v
 | bool {A:Nat->Prop} (b:Bool):VW ρ V A (.bool b) (.bool b)
 | int {A:Nat->Prop} (k:IntKind) (n:Int):VW ρ V A (.int k n) (.int k n)
 | str {A:Nat->Prop} (s:List UInt8):VW ρ V A (.str s) (.str s)
 | eH {A:Nat->Prop}:VW ρ V A .eH .eH
 | bF {A:Nat->Prop}:VW ρ V A .bF .bF
 | dU {A:Nat->Prop}:VW ρ V A .dU .dU
 | bQ {A:Nat->Prop}:VW ρ V A .bQ .bQ
 | jP {A:Nat->Prop} (z:Nat) (ex:Bool):VW ρ V A (.ro z [] ex) .bF
 | ro {A:Nat->Prop} (z:Nat) (es es':List (List AV)) (ex ex':Bool) (hc:∀ e ∈ es,∀ x ∈ e,isC x=true) (hl:es.length=es'.length) (hx:ex=true->ex'=true)
  (he:∀ (i:Nat) (e e':List AV),es[i]?=some e->es'[i]?=some e'->e.length=e'.length)
  (hr:∀ (i:Nat) (e e':List AV) (j:Nat) (x x':AV),es[i]?=some e->es'[i]?=some e'->e[j]?=some x->e'[j]?=some x'->VW ρ V (λ_=>False) x x') :
  VW ρ V A (.ro z es ex) (.ro z es' ex')
 | rop {A:Nat->Prop} (cs cs':List AV) (hl:cs.length=cs'.length) (hr:∀ (j:Nat) (x x':AV),cs[j]?=some x->cs'[j]?=some x'->VW ρ V (λ_=>False) x x') :
  VW ρ V A (.rop cs) (.rop cs')
 | ptr {A:Nat->Prop} (b i o:Nat) (hA:A b) (hV:¬ V b):VW ρ V A (.ptr b i o) (.ptr (ρ b) i o)
 | sl {A:Nat->Prop} (b z i len cap:Nat) (ex ex':Bool) (hA:A b) (hV:¬ V b) (hx:ex=true->ex'=true):VW ρ V A (.sl b z i len cap ex) (.sl (ρ b) z i len cap ex')
 | slv {A:Nat->Prop} (b z:Nat) (ex:Bool) (v:AV) (hA:A b) (hV:V b) (hv:v=.bF\/v=.ro z [] true):VW ρ V A (.sl b z 0 0 0 ex) v
 | map {A:Nat->Prop} (b:Nat) (hA:A b) (hV:¬ V b):VW ρ V A (.map b) (.map (ρ b))
 | fn {A:Nat->Prop} (f:Nat) (cs cs':List AV) (hl:cs.length=cs'.length) (hr:∀ (j:Nat) (x x':AV),cs[j]?=some x->cs'[j]?=some x'->VW ρ V A x x'):VW ρ V A (.fn f cs) (.fn f cs')
 | agg {A:Nat->Prop} (cs cs':List AV) (hl:cs.length=cs'.length) (hr:∀ (j:Nat) (x x':AV),cs[j]?=some x->cs'[j]?=some x'->VW ρ V A x x'):VW ρ V A (.agg cs) (.agg cs')
 | tup {A:Nat->Prop} (cs cs':List AV) (hl:cs.length=cs'.length) (hr:∀ (j:Nat) (x x':AV),cs[j]?=some x->cs'[j]?=some x'->VW ρ V A x x'):VW ρ V A (.tup cs) (.tup cs')
abbrev VD (ρ:Nat->Nat) (V:Nat->Prop):AV->AV->Prop:=VW ρ V (λ_=>False)
section
variable {ρ ρ':Nat->Nat} {V V' A A':Nat->Prop}
theorem VW.mono {v u:AV} (h:VW ρ V A v u):∀ {A':Nat->Prop},(∀ b,A b->A' b/\ρ' b=ρ b/\(V' b↔V b))->VW ρ' V' A' v u:=by
 induction h with
 | undef v=>intro A' _;exact .undef v
 | bool b=>intro A' _;exact .bool b
 | int k n=>intro A' _;exact .int k n
 | str s=>intro A' _;exact .str s
 | eH=>intro A' _;exact .eH
 | bF=>intro A' _;exact .bF
 | dU=>intro A' _;exact .dU
 | bQ=>intro A' _;exact .bQ
 | jP z ex=>intro A' _;exact .jP z ex
 | ro z es es' ex ex' hc hl hx he _ ih=>intro A' _;exact .ro z es es' ex ex' hc hl hx he λi e e' j x x' h1 h2 h3 h4=>ih i e e' j x x' h1 h2 h3 h4 λ_ h=>h.elim
 | rop cs cs' hl _ ih=>intro A' _;exact .rop cs cs' hl λj x x' h1 h2=>ih j x x' h1 h2 λ_ h=>h.elim
 | ptr b i o hA hV=>intro A' h;obtain ⟨h1,h2,h3⟩:=h b hA;rw [<- h2];exact .ptr b i o h1 (λq=>hV (h3.1 q))
 | sl b z i len cap ex ex' hA hV hx=>intro A' h;obtain ⟨h1,h2,h3⟩:=h b hA;rw [<- h2];exact .sl b z i len cap ex ex' h1 (λq=>hV (h3.1 q)) hx
 | slv b z ex v hA hV hv=>intro A' h;obtain ⟨h1,h2,h3⟩:=h b hA;exact .slv b z ex v h1 (h3.2 hV) hv
 | map b hA hV=>intro A' h;obtain ⟨h1,h2,h3⟩:=h b hA;rw [<- h2];exact .map b h1 (λq=>hV (h3.1 q))
 | fn f cs cs' hl _ ih=>intro A' h;exact .fn f cs cs' hl λj x x' h1 h2=>ih j x x' h1 h2 h
 | agg cs cs' hl _ ih=>intro A' h;exact .agg cs cs' hl λj x x' h1 h2=>ih j x x' h1 h2 h
 | tup cs cs' hl _ ih=>intro A' h;exact .tup cs cs' hl λj x x' h1 h2=>ih j x x' h1 h2 h
theorem VW.data {v u:AV} (h:VD ρ V v u):VW ρ' V' A' v u:=h.mono λ_ q=>q.elim
theorem VW.dV {k:IntKind} {n:Int} {u:AV} (h:VW ρ V A (.int k n) u):u=.int k n:=by cases h;rfl
theorem VW.fU {b:Bool} {u:AV} (h:VW ρ V A (.bool b) u):u=.bool b:=by cases h;rfl
theorem VW.iL {s:List UInt8} {u:AV} (h:VW ρ V A (.str s) u):u=.str s:=by cases h;rfl
theorem VW.nH {cs:List AV} {u:AV} (h:VW ρ V A (.agg cs) u):∃ cs',u=.agg cs'/\bC (VW ρ V A) cs cs':=by cases h with | agg _ cs' hl hr=>exact ⟨cs',rfl,hl,hr⟩
theorem VW.uJ {cs:List AV} {u:AV} (h:VW ρ V A (.tup cs) u):∃ cs',u=.tup cs'/\bC (VW ρ V A) cs cs':=by cases h with | tup _ cs' hl hr=>exact ⟨cs',rfl,hl,hr⟩
theorem VW.zI {f:Nat} {cs:List AV} {u:AV} (h:VW ρ V A (.fn f cs) u):∃ cs',u=.fn f cs'/\bC (VW ρ V A) cs cs':=by cases h with | fn _ _ cs' hl hr=>exact ⟨cs',rfl,hl,hr⟩
theorem VW.uT {cs:List AV} {u:AV} (h:VW ρ V A (.rop cs) u):∃ cs',u=.rop cs'/\bC (VD ρ V) cs cs':=by cases h with | rop _ cs' hl hr=>exact ⟨cs',rfl,⟨hl,hr⟩⟩
theorem VW.jl {b i o:Nat} {u:AV} (h:VW ρ V A (.ptr b i o) u):u=.ptr (ρ b) i o/\A b/\¬ V b:=by cases h with | ptr _ _ _ hA hV=>exact ⟨rfl,hA,hV⟩
theorem VW.yJ {b:Nat} {u:AV} (h:VW ρ V A (.map b) u):u=.map (ρ b)/\A b/\¬ V b:=by cases h with | map _ hA hV=>exact ⟨rfl,hA,hV⟩
theorem VW.mO {z:Nat} {es:List (List AV)} {ex:Bool} {u:AV} (h:VW ρ V A (.ro z es ex) u) :
 (es=[]/\u=.bF)\/∃ es' ex',u=.ro z es' ex'/\(ex=true->ex'=true)/\bC (bC (VD ρ V)) es es'/\∀ e ∈ es,∀ x ∈ e,isC x=true:=by
 cases h with
 | jP=>exact .inl ⟨rfl,rfl⟩
 | ro _ _ es' _ ex' hc hl hx he hr=>exact .inr ⟨es',ex',rfl,hx,⟨hl,λi e e' h1 h2=>⟨he i e e' h1 h2,λj x x' h3 h4=>hr i e e' j x x' h1 h2 h3 h4⟩⟩,hc⟩
theorem VW.jY {b z i len cap:Nat} {ex:Bool} {u:AV} (h:VW ρ V A (.sl b z i len cap ex) u) :
 (A b/\¬ V b/\∃ ex',u=.sl (ρ b) z i len cap ex'/\(ex=true->ex'=true))\/(A b/\V b/\i=0/\len=0/\cap=0/\(u=.bF\/u=.ro z [] true)):=by
 cases h with
 | sl _ _ _ _ _ _ ex' hA hV hx=>exact .inl ⟨hA,hV,ex',rfl,hx⟩
 | slv _ _ _ _ hA hV hv=>exact .inr ⟨hA,hV,rfl,rfl,rfl,hv⟩
theorem VW.aa3 {z:Nat} {es es':List (List AV)} {ex ex':Bool} (h:bC (bC (VD ρ V)) es es') (hc:∀ e ∈ es,∀ x ∈ e,Pw.isC x=true) (hx:ex=true->ex'=true):VW ρ V A (.ro z es ex) (.ro z es' ex') :=.ro z es es' ex ex' hc h.1 hx (λi e e' h1 h2=>(h.2 i e e' h1 h2).1) λi e e' j x x' h1 h2 h3 h4=>(h.2 i e e' h1 h2).2 j x x' h3 h4
theorem VW.TA {cs cs':List AV} (h:bC (VD ρ V) cs cs'):VW ρ V A (.rop cs) (.rop cs'):=.rop cs cs' h.1 h.2
theorem VW.L6 {cs cs':List AV} (h:bC (VW ρ V A) cs cs'):VW ρ V A (.agg cs) (.agg cs'):=.agg cs cs' h.1 h.2
theorem VW.l7 {cs cs':List AV} (h:bC (VW ρ V A) cs cs'):VW ρ V A (.tup cs) (.tup cs'):=.tup cs cs' h.1 h.2
theorem VW.iW {f:Nat} {cs cs':List AV} (h:bC (VW ρ V A) cs cs'):VW ρ V A (.fn f cs) (.fn f cs'):=.fn f cs cs' h.1 h.2
theorem VW.isC {v u:AV} (h:VW ρ V A v u) (hc:isC v=true):VW ρ' V' A' v u:=by
 cases h with
 | fn f cs cs' hl hr =>
  cases cs with
  | nil=>exact .fn f [] cs' hl λj x x' h1=>by simp at h1
  | cons a r=>simp [Pw.isC] at hc
 | undef=>simp [Pw.isC] at hc
 | ptr=>simp [Pw.isC] at hc
 | sl=>simp [Pw.isC] at hc
 | slv=>simp [Pw.isC] at hc
 | map=>simp [Pw.isC] at hc
 | agg=>simp [Pw.isC] at hc
 | tup=>simp [Pw.isC] at hc
 | bool b=>exact .bool b
 | int k n=>exact .int k n
 | str s=>exact .str s
 | eH=>exact .eH
 | bF=>exact .bF
 | dU=>exact .dU
 | bQ=>exact .bQ
 | jP z ex=>exact .jP z ex
 | ro z es es' ex ex' hc2 hl hx he hr=>exact .ro z es es' ex ex' hc2 hl hx he λi e e' j x x' h1 h2 h3 h4=>(hr i e e' j x x' h1 h2 h3 h4).data
 | rop cs cs' hl hr=>exact .rop cs cs' hl λj x x' h1 h2=>(hr j x x' h1 h2).data
theorem VW.isD {v u:AV} (h:VW ρ V A v u) (hc:isD v=true):VW ρ' V' A' v u:=by
 cases h with
 | agg cs cs' hl hr =>simp only [Pw.isD,qjx] at hc;exact .agg cs cs' hl λj x x' h1 h2=>(hr j x x' h1 h2).isC (hc x (qzx h1))
 | undef _=>exact .undef _
 | fn f cs cs' hl hr=>exact (VW.fn f cs cs' hl hr:VW ρ V A _ _).isC hc
 | ptr=>simp [Pw.isD,Pw.isC] at hc
 | sl=>simp [Pw.isD,Pw.isC] at hc
 | slv=>simp [Pw.isD,Pw.isC] at hc
 | map=>simp [Pw.isD,Pw.isC] at hc
 | tup=>simp [Pw.isD,Pw.isC] at hc
 | bool b=>exact .bool b
 | int k n=>exact .int k n
 | str s=>exact .str s
 | eH=>exact .eH
 | bF=>exact .bF
 | dU=>exact .dU
 | bQ=>exact .bQ
 | jP z ex=>exact .jP z ex
 | ro z es es' ex ex' hc2 hl hx he hr=>exact .ro z es es' ex ex' hc2 hl hx he λi e e' j x x' h1 h2 h3 h4=>(hr i e e' j x x' h1 h2 h3 h4).data
 | rop cs cs' hl hr=>exact .rop cs cs' hl λj x x' h1 h2=>(hr j x x' h1 h2).data
theorem VW.cell {v u:AV} (h:VW ρ V A v u) (hc:v.cell=true):u.cell=true:=by
 cases h with
 | slv b z ex w hA hV hv=>rcases hv with e | e <;> subst e <;> rfl
 | undef=>simp [AV.cell] at hc
 | agg=>simp [AV.cell] at hc
 | tup=>simp [AV.cell] at hc
 | _=>rfl
theorem Jh {v:AV} (hc:v.cell=true):v.cells=[v]:=by cases v <;> simp_all [AV.cell,AV.cells]
theorem VW.cells {v u:AV} (h:VW ρ V A v u) (hc:v.cells.all AV.cell=true):bC (VW ρ V A) v.cells u.cells/\u.cells.all AV.cell=true:=by
 have one:∀ {v u:AV},VW ρ V A v u->v.cell=true->bC (VW ρ V A) v.cells u.cells/\u.cells.all AV.cell=true:=by intro v u h hc;rw [Jh hc,Jh (h.cell hc)];exact ⟨.cons h .nil,by simp [h.cell hc]⟩
 cases hv:v with
 | agg cs =>subst hv;obtain ⟨cs',rfl,hr⟩:=h.nH;refine ⟨hr,?_⟩;simp only [AV.cells,qjx] at hc |-;intro x' hx';obtain ⟨j,hj,e⟩:=qvx hx';obtain ⟨x,h1,h2⟩:=hr.get' (qqj hj);rw [e] at h2;exact h2.cell (hc x (qzx h1))
 | undef=>subst hv;simp [AV.cells,AV.cell] at hc
 | tup cs=>subst hv;simp [AV.cells,AV.cell] at hc
 | _=>subst hv;exact one h rfl
end
def OW (ρ:Nat->Nat) (V A:Nat->Prop):fC->jr->Prop
 | .cells z es mu dt,o=>∃ es' mu',o=.cells z es' mu'/\(mu=true->mu'=true)/\bC (bC (VW ρ V A)) es es'/\(dt=true->∀ e ∈ es,∀ x ∈ e,isC x=true)
 | .map es,o=>∃ es',o=.map es'/\bC (λ(x y:AV × AV)=>x.1=y.1/\VD ρ V x.2 y.2) es es'
 | .iter s p,o=>o=.iter s p
def EW (ρ:Nat->Nat) (V A:Nat->Prop) (e:Env) (e':Env):Prop:=∀ k v,get e k=some v->∃ v',get e' k=some v'/\VW ρ V A v v'
structure HW (ρ:Nat->Nat) (V A:Nat->Prop) (h:aG) (h':Heap):Prop where
 dom:∀ b o,get h b=some o->A b
 uZ:∀ b o,get h b=some o->V b->∃ z mu dt,o=.cells z [] mu dt
 obj:∀ b o,get h b=some o->¬ V b->∃ o',get h' (ρ b)=some o'/\OW ρ V A o o'
 sub:∀ b,V b->A b
 inj:∀ b c,A b->A c->¬ V b->¬ V c->ρ b=ρ c->b=c
section
variable {ρ ρ':Nat->Nat} {V V' A A':Nat->Prop}
theorem OW.mono {o:fC} {o':jr} (h:OW ρ V A o o') (hm:∀ b,A b->A' b/\ρ' b=ρ b/\(V' b↔V b)):OW ρ' V' A' o o':=by
 cases o with
 | cells z es mu dt =>obtain ⟨es',mu',h1,h2,h3,h4⟩:=h;exact ⟨es',mu',h1,h2,h3.mono λe e' _ he=>he.mono λx x' _ hx=>hx.mono hm,h4⟩
 | map es =>obtain ⟨es',h1,h2⟩:=h;exact ⟨es',h1,h2.mono λx x' _ hx=>⟨hx.1,hx.2.data⟩⟩
 | iter s p=>exact h
theorem EW.mono {e e':Env} (h:EW ρ V A e e') (hm:∀ b,A b->A' b/\ρ' b=ρ b/\(V' b↔V b)):EW ρ' V' A' e e':=by intro k v hk;obtain ⟨v',h1,h2⟩:=h k v hk;exact ⟨v',h1,h2.mono hm⟩
theorem Rl (l:Env) (n:Nat) (x:AV) (k:Nat):get (Ed l n x) k=if n=k then some x else get l k:=by
 induction l with
 | nil=>simp [Ed,Pav.get]
 | cons a r ih =>
  obtain ⟨j,v⟩:=a;simp only [Ed];by_cases h1:j < n
  ·simp only [h1,qQx,Pav.get]
  ·rw [qwq h1];by_cases h2:j=n
   ·subst h2;simp only [qQx,Pav.get];by_cases h3:j=k <;> simp [h3]
   ·simp only [h2,qWz,Pav.get,ih];by_cases h3:j=k
    ·subst h3;simp [qcj h2]
    ·simp [h3]
theorem EW.put {e e':Env} (h:EW ρ V A e e') {d:Nat} {v v':AV} (hv:VW ρ V A v v'):EW ρ V A (Ed e d v) (put e' d v'):=by
 intro k u hk;rw [Rl] at hk;rw [get_put];split at hk
 ·rename_i hd;cases hk;exact ⟨v',by rw [qwz hd],hv⟩
 ·rename_i hd;rw [qwq hd];exact h k u hk
theorem EW.dR {e e':Env} (h:EW ρ V A e e') {d:Option Nat} {v v':AV} (hv:VW ρ V A v v'):EW ρ V A (eG e d v) (dR e' d v'):=by
 cases d with
 | none=>exact h
 | some d=>exact h.put hv
theorem U6 (v:AV):okV v=true->VW ρ V A v (er v):=by
 refine AV.rec (motive_1:=λv=>okV v=true->VW ρ V A v (er v)) (motive_2:=λ_=>True) (motive_3:=λl=>okL l=true->bC (VW ρ V A) l (erL l)) ?_ ?_ ?_ ?_ ?_ ?_ ?_ ?_ ?_ ?_ ?_ ?_ ?_ ?_ ?_ ?_ ?_ ?_ ?_ ?_ v
 ·intro h;simp [okV] at h
 ·intro b _;exact .bool b
 ·intro k n _;exact .int k n
 ·intro s _;exact .str s
 ·intro _;exact .eH
 ·intro _;exact .bF
 ·intro _;exact .dU
 ·intro _;exact .bQ
 ·intro z es ex _ h;simp only [okV,qhj] at h;subst h;cases ex with
  | true=>exact .jP z true
  | false=>exact VW.aa3 .nil (λ_ h=>by cases h) id
 ·intro cs _ h;simp [okV] at h
 ·intro b i o h;simp [okV] at h
 ·intro b z i len cap ex h;simp [okV] at h
 ·intro b h;simp [okV] at h
 ·intro f cs ih h;exact VW.iW (ih h)
 ·intro cs ih h;exact VW.L6 (ih h)
 ·intro cs ih h;exact VW.l7 (ih h)
 ·trivial
 ·intros;trivial
 ·intro _;exact .nil
 ·intro v r ih1 ih2 h;simp only [okL,qzq] at h;exact .cons (ih1 h.1) (ih2 h.2)
theorem zK:∀ l:List AV,okL l=true->bC (VW ρ V A) l (erL l):=by
 intro l;induction l with
 | nil=>intro _;exact .nil
 | cons v r ih =>intro h;simp only [okL,qzq] at h;exact .cons (U6 v h.1) (ih h.2)
theorem EW.opd {e e':Env} (h:EW ρ V A e e') {x:Opd} (hx:okO x=true):VW ρ V A (x.ev e) ((erO x).ev e'):=by
 cases x with
 | t s =>
  simp only [Opd.ev,erO];cases hg:get e s with
  | none=>exact .undef _
  | some v =>obtain ⟨v',h1,h2⟩:=h s v hg;rw [h1];exact h2
 | c v=>exact U6 v hx
end
end Go.Pw
end
section
set_option linter.unusedSimpArgs false
set_option linter.unusedVariables false
namespace Go.Pw
open Go Go.Pav
def up (ρ:Nat->Nat) (n m:Nat):Nat->Nat:=λb=>if b=n then m else ρ b
def addN (A:Nat->Prop) (n:Nat):Nat->Prop:=λb=>A b\/b=n
def Ok2 (ρ:Nat->Nat) (V A:Nat->Prop) (n m:Nat) (h:aG) (h':Heap) (r:AV × dW) (r':AV × Upd):Prop :=VW (up ρ n m) V (addN A n) r.1 r'.1/\HW (up ρ n m) V (addN A n) (bU h r.2) (aQ h' r'.2)/\∀ b ∈ r'.2.map (·.1),∃ c ∈ r.2.map (·.1),b=up ρ n m c/\¬ V c/\addN A n c
section
variable {ρ:Nat->Nat} {V A:Nat->Prop} {n m:Nat} {h:aG} {h':Heap} {e e':Env}
theorem qK (hn:¬ A n):∀ b,A b->addN A n b/\up ρ n m b=ρ b/\(V b↔V b):=by intro b hb;refine ⟨.inl hb,?_,zQq⟩;unfold up;rw [qwq];rintro rfl;exact hn hb
theorem HW.up (H:HW ρ V A h h') (hn:¬ A n) (hm:∀ b,A b->¬ V b->ρ b≠m):HW (up ρ n m) V (addN A n) h h':=by
 have hu:=qK (ρ:=ρ) (V:=V) (m:=m) hn;refine ⟨λb o hb=>.inl (H.dom b o hb),H.uZ,λb o hb hv=>?_,λb hb=>.inl (H.sub b hb),?_⟩
 ·obtain ⟨o',h1,h2⟩:=H.obj b o hb hv;rw [(hu b (H.dom b o hb)).2.1];exact ⟨o',h1,h2.mono hu⟩
 ·rintro b c (hb | rfl) (hc | rfl) vb vc hbc
  ·rw [(hu b hb).2.1,(hu c hc).2.1] at hbc;exact H.inj b c hb hc vb vc hbc
  ·rw [(hu b hb).2.1] at hbc;simp only [Pw.up,qQx] at hbc;exact absurd hbc (hm b hb vb)
  ·rw [(hu c hc).2.1] at hbc;simp only [Pw.up,qQx] at hbc;exact absurd hbc.symm (hm c hc vc)
  ·rfl
theorem aV (H:HW ρ V A h h') (hn:¬ A n) (hm:∀ b,A b->¬ V b->ρ b≠m) {v v':AV} (hv:VW ρ V A v v'):Ok2 ρ V A n m h h' (v,[]) (v',[]) :=⟨hv.mono (qK hn),H.up hn hm,λb hb=>by simp at hb⟩
theorem pz (H:HW ρ V A h h') (hn:¬ A n) (hm:∀ b,A b->¬ V b->ρ b≠m) {o:fC} {o':jr} (ho:OW (Pw.up ρ n m) V (addN A n) o o'):HW (Pw.up ρ n m) V (addN A n) (put h n o) (put h' m o'):=by
 have K:=H.up hn hm;have hVn:¬ V n:=λq=>hn (H.sub n q);have un:Pw.up ρ n m n=m:=by simp [Pw.up]
 refine ⟨λb x hb=>?_,λb x hb hv=>?_,λb x hb hv=>?_,K.sub,K.inj⟩
 ·rw [get_put] at hb;split at hb
  ·rename_i q;exact .inr q.symm
  ·exact K.dom b x hb
 ·rw [get_put] at hb;split at hb
  ·rename_i q;subst q;exact absurd hv hVn
  ·exact K.uZ b x hb hv
 ·rw [get_put] at hb;split at hb
  ·rename_i q;cases hb;subst q;refine ⟨o',?_,ho⟩;rw [get_put,un,qwz rfl]
  ·rename_i q;obtain ⟨x',h1,h2⟩:=K.obj b x hb hv;refine ⟨x',?_,h2⟩;rw [get_put,qwq];exact h1;exact λq2=>q (K.inj n b (.inr rfl) (K.dom b x hb) hVn hv (un.trans q2))
theorem oQ {ρ:Nat->Nat} {V A:Nat->Prop} {h:aG} {h':Heap} (H:HW ρ V A h h') {b:Nat} (hA:A b) (hV:¬ V b) {o:fC} {o':jr} (ho:OW ρ V A o o'):HW ρ V A (put h b o) (put h' (ρ b) o'):=by
 refine ⟨λc x hc=>?_,λc x hc hv=>?_,λc x hc hv=>?_,H.sub,H.inj⟩
 ·rw [get_put] at hc;split at hc
  ·rename_i q;subst q;exact hA
  ·exact H.dom c x hc
 ·rw [get_put] at hc;split at hc
  ·rename_i q;subst q;exact absurd hv hV
  ·exact H.uZ c x hc hv
 ·rw [get_put] at hc;split at hc
  ·rename_i q;subst q;cases hc;exact ⟨o',by rw [get_put,qwz rfl],ho⟩
  ·rename_i q;obtain ⟨x',h1,h2⟩:=H.obj c x hc hv;refine ⟨x',?_,h2⟩;rw [get_put,qwq];exact h1;exact λq2=>q (H.inj b c hA (H.dom c x hc) hV hv q2)
theorem akh {ρ:Nat->Nat} {V A:Nat->Prop} {h:aG} {h':Heap} (H:HW ρ V A h h') {b:Nat} (hA:A b) (hV:¬ V b):HW ρ V A (del h b) (del h' (ρ b)):=by
 refine ⟨λc x hc=>?_,λc x hc hv=>?_,λc x hc hv=>?_,H.sub,H.inj⟩
 ·rw [oD] at hc;split at hc
  ·cases hc
  ·exact H.dom c x hc
 ·rw [oD] at hc;split at hc
  ·cases hc
  ·exact H.uZ c x hc hv
 ·rw [oD] at hc;split at hc
  ·cases hc
  ·rename_i q;obtain ⟨x',h1,h2⟩:=H.obj c x hc hv;refine ⟨x',?_,h2⟩;rw [oD,qwq];exact h1;exact λq2=>q (H.inj b c hA (H.dom c x hc) hV hv q2)
theorem YD {ρ:Nat->Nat} {V A:Nat->Prop} {h:aG} {h':Heap} (H:HW ρ V A h h') {b:Nat}:HW ρ V A (del h b) h':=by
 refine ⟨λc x hc=>?_,λc x hc hv=>?_,λc x hc hv=>?_,H.sub,H.inj⟩;all_goals
  rw [oD] at hc;split at hc
  ·cases hc
  first
   | exact H.dom c x hc
   | exact H.uZ c x hc hv
   | exact H.obj c x hc hv
end
section
variable {ρ:Nat->Nat} {V A:Nat->Prop}
theorem vO {cs cs':List AV} (hr:bC (VW ρ V A) cs cs') {n:Nat} {ag:Bool} {v:AV} (hv:qO n ag cs=some v):∃ v',qO n ag cs'=some v'/\VW ρ V A v v':=by
 unfold qO at hv |-;split at hv
 ·rename_i hag;rw [qwz hag];split at hv
  ·rename_i hn;cases hv;rw [<- hr.1,qwz hn];exact ⟨_,rfl,VW.L6 (hr.take n)⟩
  ·cases hv
 ·rename_i hag;rw [qwq hag];cases cs with
  | nil=>simp at hv
  | cons a r =>obtain ⟨b,r',rfl,h1,_⟩:=hr.dK;simp at hv;subst hv;exact ⟨b,by simp,h1⟩
theorem KW {cs cs' v v':List AV} (hr:bC (VW ρ V A) cs cs') (hv:bC (VW ρ V A) v v') (off:Nat):bC (VW ρ V A) (splice cs off v) (splice cs' off v'):=by unfold splice;rw [hv.1];exact (hr.take off).append (hv.append (hr.drop _))
theorem abn {e e':Env} (he:EW ρ V A e e'):∀ (ps:List (Nat × Nat × Opd)) (cs cs' r:List AV),(ps.all λp=>okO p.2.2)=true->bC (VW ρ V A) cs cs'->qB e cs ps=some r ->
 ∃ r',qB e' cs' (ps.map λp=>(p.1,p.2.1,erO p.2.2))=some r'/\bC (VW ρ V A) r r':=by
 intro ps;induction ps with
 | nil=>intro cs cs' r _ hr h;simp only [qB,qwx] at h;subst h;exact ⟨cs',rfl,hr⟩
 | cons p ps ih =>
  intro cs cs' r hok hr h;obtain ⟨off,n,x⟩:=p;simp only [qdz,qzq] at hok;simp only [qB] at h;split at h
  ·rename_i hc;obtain ⟨h1,h2⟩:=(he.opd hok.1).cells hc.2.2;obtain ⟨r',h3,h4⟩:=ih _ _ r hok.2 (KW hr h1 off) h;refine ⟨r',?_,h4⟩;simp only [qvz,qB];rw [qwz ⟨by rw [<- h1.1];exact hc.1,by rw [<- hr.1];exact hc.2.1,h2⟩];exact h3
  ·cases h
theorem aeh {e e':Env} (he:EW ρ V A e e') (z:Nat):∀ (ps:List (Nat × Opd)) (es es' r:List (List AV)),(ps.all λp=>okO p.2)=true->bC (bC (VW ρ V A)) es es'->kZ e z es ps=some r ->
 ∃ r',kZ e' z es' (ps.map λp=>(p.1,erO p.2))=some r'/\bC (bC (VW ρ V A)) r r':=by
 intro ps;induction ps with
 | nil=>intro cs cs' r _ hr h;simp only [kZ,qwx] at h;subst h;exact ⟨cs',rfl,hr⟩
 | cons p ps ih =>
  intro cs cs' r hok hr h;obtain ⟨i,x⟩:=p;simp only [qdz,qzq] at hok;simp only [kZ] at h;split at h
  ·rename_i hc;obtain ⟨h1,h2⟩:=(he.opd hok.1).cells hc.2.2;obtain ⟨r',h3,h4⟩:=ih _ _ r hok.2 (hr.set h1) h;refine ⟨r',?_,h4⟩;simp only [qvz,kZ];rw [qwz ⟨by rw [<- h1.1];exact hc.1,by rw [<- hr.1];exact hc.2.1,h2⟩];exact h3
  ·cases h
theorem adF {op:BinOp} {x y x' y' v:AV} (hx:VW ρ V A x x') (hy:VW ρ V A y y') (h:yY op x y=some v):yY op x' y'=some v/\VW ρ V A v v:=by
 have binInt_leaf:∀ {op k a b v},D7 op k a b=some v->VW ρ V A v v:=by intro op k a b v h;unfold D7 at h;split at h <;> first | (cases h;done) | (cases h;constructor) | (split at h <;> first | (cases h;done) | (cases h;constructor))
 have shift_leaf:∀ {op k a b v},su op k a b=some v->VW ρ V A v v:=by intro op k a b v h;unfold su at h;split at h <;> first | (cases h;done) | (cases h;constructor)
 have binStr_leaf:∀ {op a b v},D6 op a b=some v->VW ρ V A v v:=by intro op a b v h;unfold D6 at h;split at h <;> first | (cases h;done) | (cases h;constructor) | (split at h <;> first | (cases h;done) | (cases h;constructor))
 cases x with
 | int k a =>
  cases y with
  | int k' b =>
   rw [hx.dV,hy.dV];refine ⟨h,?_⟩;simp only [yY] at h;split at h
   ·obtain ⟨q,_,h2⟩:=au h;exact shift_leaf h2
   ·split at h
    ·exact binInt_leaf h
    ·cases h
  | _=>simp [yY] at h
 | str a =>
  cases y with
  | str b =>rw [hx.iL,hy.iL];exact ⟨h,binStr_leaf h⟩
  | _=>simp [yY] at h
 | _=>simp [yY] at h
theorem aax {x y x' y':AV} {b:Bool} (hx:VW ρ V A x x') (hy:VW ρ V A y y') (h:iO x y=some b):iO x' y'=some b:=by
 cases x with
 | int k a =>
  cases y with
  | int k' b=>rw [hx.dV,hy.dV];exact h
  | _=>simp [iO] at h
 | str a =>
  cases y with
  | str b=>rw [hx.iL,hy.iL];exact h
  | _=>simp [iO] at h
 | bool a =>
  cases y with
  | bool b=>rw [hx.fU,hy.fU];exact h
  | _=>simp [iO] at h
 | _=>simp [iO] at h
theorem zV {kd:Nat} {x x':AV} (hx:VW ρ V A x x') (h:kT kd x=true):x'=x:=by
 cases x with
 | int k a=>exact hx.dV
 | str a=>exact hx.iL
 | bool a=>exact hx.fU
 | _=>simp [kT] at h
theorem Xd:∀ (ks:List Nat) {x y x' y':List AV} {b:Bool},bC (VW ρ V A) x x'->bC (VW ρ V A) y y'->iH ks x y=some b->iH ks x' y'=some b:=by
 intro ks;induction ks with
 | nil =>
  intro x y x' y' b hx hy h;cases x with
  | nil=>cases y with
   | nil=>rw [hx.eU,hy.eU];exact h
   | cons=>simp [iH] at h
  | cons=>simp [iH] at h
 | cons k ks ih =>
  intro x y x' y' b hx hy h;cases x with
  | nil=>simp [iH] at h
  | cons a r =>
   cases y with
   | nil=>simp [iH] at h
   | cons c t =>
    obtain ⟨a',r',rfl,h1,h2⟩:=hx.dK;obtain ⟨c',t',rfl,h3,h4⟩:=hy.dK;simp only [iH] at h |-;split at h
    ·rename_i hk;obtain ⟨p,h5,h6⟩:=au h;obtain ⟨q,h7,h8⟩:=aB h6;rw [zV h1 hk,qwz hk];have:=aax h1 h3 h5;rw [zV h1 hk] at this;rw [this];simp only [ob];rw [ih h2 h4 h7];simp only [om,h8]
    ·cases h
theorem Z7 {kd:Nat} {ks:List Nat} {x y x' y':AV} {b:Bool} (hx:VW ρ V A x x') (hy:VW ρ V A y y') (hk:kd≠0) (h:iK kd ks x y=some b):iK kd ks x' y'=some b:=by
 unfold iK at h |-;rw [qwq hk] at h |-;split at h
 ·rename_i hk;rw [qwz hk];cases hx <;> cases hy <;> simp_all [eqFn]
 ·rename_i hk;rw [qwq hk];split at h
  ·rename_i hk;rw [qwz hk];cases hx <;> cases hy <;> simp_all [KI]
  ·rename_i hk;rw [qwq hk];split at h
   ·rename_i hk;rw [qwz hk];cases hx <;> cases hy <;> simp_all [KT]
   ·rename_i hk;rw [qwq hk];split at h
    ·rename_i hk;rw [qwz hk];unfold KU at h;split at h
     ·obtain ⟨c,rfl,h1⟩:=hx.nH;obtain ⟨d,rfl,h2⟩:=hy.nH;exact Xd ks h1 h2 h
     ·cases h
    ·rename_i hk;rw [qwq hk];unfold Dv at h;split at h
     ·rw [hx.fU,hy.fU];exact h
     ·cases h
theorem adP {x y x' y':AV} {b:Bool} (hx:VW ρ V A x x') (hy:VW ρ V A y y') (h:XU x y=some b):Vr x' y'=some b:=by
 unfold XU at h;split at h
 ·cases hx;cases hy;exact h
 ·cases hx;rcases hy.mO with ⟨q,_⟩ | ⟨es',ex',rfl,_⟩
  ·cases q
  ·exact h
 ·cases hy;rcases hx.mO with ⟨q,_⟩ | ⟨es',ex',rfl,_⟩
  ·cases q
  ·exact h
 ·cases h
end
end Go.Pw
end
section
set_option linter.unusedSimpArgs false
set_option linter.unusedVariables false
namespace Go.Pw
open Go Go.Pav
section
variable {ρ:Nat->Nat} {V A:Nat->Prop} {n m:Nat} {h:aG} {h':Heap} {e e':Env}
theorem ahg {op:UnOp} {x x' v:AV} (hx:VW ρ V A x x') (h:Tm op x=some v):Tm op x'=some v/\VW ρ V A v v:=by
 cases x with
 | int k a =>rw [hx.dV];refine ⟨h,?_⟩;cases op <;> simp only [Tm] at h <;> first | (cases h;done) | (cases h;constructor)
 | bool b =>rw [hx.fU];refine ⟨h,?_⟩;cases op <;> simp only [Tm] at h <;> first | (cases h;done) | (cases h;constructor)
 | _=>simp [Tm] at h
theorem abZ {o:Option AV} {o':Option AV} {d k:Nat} (ho:∀ v,o=some v->∃ v',o'=some v'/\VW ρ V A v v') (hn:o=none->o'=none) (h:bound o d=some k):bound o' d=some k:=by
 cases o with
 | none=>rw [hn rfl];exact h
 | some v =>
  obtain ⟨v',rfl,hv⟩:=ho v rfl;cases v with
  | int k n=>rw [hv.dV];exact h
  | _=>simp [bound] at h
def OVW (ρ:Nat->Nat) (V A:Nat->Prop):Option AV->Option AV->Prop
 | none,none=>True
 | some v,some v'=>VW ρ V A v v'
 | _,_=>False
theorem OVW.bound {o o':Option AV} (ho:OVW ρ V A o o') {d k:Nat} (h:Pav.bound o d=some k):Pav.bound o' d=some k:=by
 cases o with
 | none=>cases o' with
  | none=>exact h
  | some v'=>exact ho.elim
 | some v=>cases o' with
  | none=>exact ho.elim
  | some v'=>exact abZ (ρ:=ρ) (V:=V) (A:=A) (o:=some v) (λu hu=>by cases hu;exact ⟨v',rfl,ho⟩) (λq=>by cases q) h
theorem JJ {z:Nat} {es es':List (List AV)} {ex ex':Bool} {lo hi mx lo' hi' mx':Option AV} {v:AV} (hr:bC (bC (VD ρ V)) es es') (hd:∀ e ∈ es,∀ x ∈ e,isC x=true) (hx:ex=true->ex'=true)
 (hlo:OVW ρ V A lo lo') (hhi:OVW ρ V A hi hi') (hmx:OVW ρ V A mx mx') (h:ig z es ex lo hi mx=some v):∃ v',ig z es' ex' lo' hi' mx'=some v'/\VW ρ V A v v':=by
 cases mx with
 | none =>
  cases mx' with
  | some _=>exact hmx.elim
  | none =>
   simp only [ig] at h |-;obtain ⟨hh,h1,h⟩:=au h;obtain ⟨ll,h2,h⟩:=au h;rw [<- hr.1,hhi.bound h1];simp only [ob];rw [hlo.bound h2];simp only;split at h
   ·rename_i hc;rw [qwz hc];cases h;refine ⟨_,rfl,VW.aa3 ((hr.take hh).drop ll) (λe he=>hd e (qZz (qQz he))) ?_⟩;simp only [qzq,qvj];rintro ⟨q1,q2⟩;exact ⟨hx q1,q2⟩
   ·cases h
 | some mv =>
  cases mx' with
  | none=>exact hmx.elim
  | some mv' =>
   simp only [ig] at h |-;obtain ⟨mm,h1,g1⟩:=au h;clear h;obtain ⟨hv,hhv,g2⟩:=au g1;clear g1;subst hhv;obtain ⟨hh,h2,g3⟩:=au g2;clear g2;obtain ⟨ll,h3,h⟩:=au g3;clear g3;cases hi' with
   | none=>exact hhi.elim
   | some hv' =>
    rw [OVW.bound (ρ:=ρ) (V:=V) (A:=A) (o:=some mv) (o':=some mv') hmx h1];simp only [ob];rw [OVW.bound (ρ:=ρ) (V:=V) (A:=A) (o:=some hv) (o':=some hv') hhi h2];simp only;rw [hlo.bound h3];simp only [<- hr.1];split at h
    ·rename_i hc;rw [qwz hc];cases h;exact ⟨_,rfl,VW.aa3 ((hr.take hh).drop ll) (λe he=>hd e (qZz (qQz he))) id⟩
    ·cases h
theorem Ut {z:Nat} {ex:Bool} {lo hi mx lo' hi' mx':Option AV} {v:AV}
 (hlo:OVW ρ V A lo lo') (hhi:OVW ρ V A hi hi') (hmx:OVW ρ V A mx mx') (h:ig z [] ex lo hi mx=some v):∃ v',kC lo' hi' mx'=some v'/\VW ρ V A v v':=by
 cases mx with
 | none =>
  cases mx' with
  | some _=>exact hmx.elim
  | none =>
   simp only [ig,qaj] at h;obtain ⟨hh,h1,h⟩:=au h;obtain ⟨ll,h2,h⟩:=au h;split at h
   ·rename_i hc;cases h;obtain ⟨c1,c2⟩:=hc;refine ⟨.bF,?_,?_⟩
    ·simp only [kC];rw [show Pav.bound none 0=some 0 from rfl];simp only [ob];rw [hhi.bound h1];simp only;rw [hlo.bound h2];simp only;rw [qwz];exact ⟨by omega,by omega,by trivial,by simp⟩
    ·simp only [zwx,zwj];exact .jP _ _
   ·cases h
 | some mv =>
  cases mx' with
  | none=>exact hmx.elim
  | some mv' =>
   simp only [ig,qaj] at h;obtain ⟨mm,h1,g1⟩:=au h;clear h;obtain ⟨hv,hhv,g2⟩:=au g1;clear g1;subst hhv;obtain ⟨hh,h2,g3⟩:=au g2;clear g2;obtain ⟨ll,h3,h⟩:=au g3;clear g3;cases hi' with
   | none=>exact hhi.elim
   | some hv' =>
    split at h
    ·rename_i hc;cases h;obtain ⟨c1,c2,c3⟩:=hc;refine ⟨.bF,?_,?_⟩
     ·simp only [kC];rw [OVW.bound (ρ:=ρ) (V:=V) (A:=A) (o:=some mv) (o':=some mv') hmx h1];simp only [ob];rw [OVW.bound (ρ:=ρ) (V:=V) (A:=A) (o:=some hv) (o':=some hv') hhi h2];simp only;rw [hlo.bound h3];simp only;rw [qwz];exact ⟨by omega,by omega,by omega,by simp⟩
     ·simp only [zwx,zwj];exact .jP _ _
    ·cases h
theorem Xf {b z i len cap:Nat} {ex ex':Bool} {lo hi mx lo' hi' mx':Option AV} {v:AV} (hA:A b) (hV:¬ V b) (hx:ex=true->ex'=true)
 (hlo:OVW ρ V A lo lo') (hhi:OVW ρ V A hi hi') (hmx:OVW ρ V A mx mx') (h:mZ b z i len cap ex lo hi mx=some v):∃ v',mZ (ρ b) z i len cap ex' lo' hi' mx'=some v'/\VW ρ V A v v':=by
 cases mx with
 | none =>
  cases mx' with
  | some _=>exact hmx.elim
  | none =>
   simp only [mZ] at h |-;obtain ⟨hh,h1,h⟩:=au h;obtain ⟨ll,h2,h⟩:=au h;rw [hhi.bound h1];simp only [ob];rw [hlo.bound h2];simp only;split at h
   ·rename_i hc;rw [qwz hc];split at h
    ·rename_i hc2;rw [qwz hc2];cases h;exact ⟨_,rfl,.sl _ _ _ _ _ _ _ hA hV hx⟩
    ·rename_i hc2;rw [qwq hc2];split at h
     ·rename_i hl;cases h;rw [qwz hl];exact ⟨_,rfl,.sl _ _ _ _ _ _ _ hA hV hx⟩
     ·rename_i hl;cases h;rw [qwq hl];exact ⟨_,rfl,.ro _ _ _ _ _ qqz rfl hx qqz qqz⟩
   ·cases h
 | some mv =>
  cases mx' with
  | none=>exact hmx.elim
  | some mv' =>
   simp only [mZ] at h |-;obtain ⟨mm,h1,g1⟩:=au h;clear h;obtain ⟨hv,hhv,g2⟩:=au g1;clear g1;subst hhv;obtain ⟨hh,h2,g3⟩:=au g2;clear g2;obtain ⟨ll,h3,h⟩:=au g3;clear g3;cases hi' with
   | none=>exact hhi.elim
   | some hv' =>
    rw [OVW.bound (ρ:=ρ) (V:=V) (A:=A) (o:=some mv) (o':=some mv') hmx h1];simp only [ob];rw [OVW.bound (ρ:=ρ) (V:=V) (A:=A) (o:=some hv) (o':=some hv') hhi h2];simp only;rw [hlo.bound h3];simp only;split at h
    ·rename_i hc;rw [qwz hc];split at h
     ·rename_i hc2;rw [qwz hc2];cases h;exact ⟨_,rfl,.sl _ _ _ _ _ _ _ hA hV id⟩
     ·rename_i hc2;rw [qwq hc2];cases h;exact ⟨_,rfl,.sl _ _ _ _ _ _ _ hA hV id⟩
    ·cases h
theorem NW {b z:Nat} {ex:Bool} {lo hi mx lo' hi' mx':Option AV} {v:AV} (hA:A b) (hV:V b)
 (hlo:OVW ρ V A lo lo') (hhi:OVW ρ V A hi hi') (hmx:OVW ρ V A mx mx') (h:mZ b z 0 0 0 ex lo hi mx=some v) :
 ((∃ v',kC lo' hi' mx'=some v'/\VW ρ V A v v')/\∃ v',ig z [] true lo' hi' mx'=some v'/\VW ρ V A v v'):=by
 cases mx with
 | none =>
  cases mx' with
  | some _=>exact hmx.elim
  | none =>
   simp only [mZ] at h;obtain ⟨hh,h1,h⟩:=au h;obtain ⟨ll,h2,h⟩:=au h;split at h
   ·rename_i hc;obtain ⟨c1,c2,_⟩:=hc;have hv:∃ ex2,v=.sl b z 0 0 0 ex2:=by
     have e1:ll=0:=by omega
     have e2:hh=0:=by omega
     subst e1;subst e2;simp only [qrq,qWz,qQx] at h;cases h;exact ⟨_,rfl⟩
    obtain ⟨ex2,rfl⟩:=hv;refine ⟨⟨.bF,?_,.slv _ _ _ _ hA hV (.inl rfl)⟩,⟨.ro z [] true,?_,.slv _ _ _ _ hA hV (.inr rfl)⟩⟩
    ·simp only [kC];rw [show Pav.bound none 0=some 0 from rfl];simp only [ob];rw [hhi.bound h1];simp only;rw [hlo.bound h2];simp only;rw [qwz];exact ⟨by omega,by omega,by trivial,by simp⟩
    ·simp only [ig,qaj];rw [hhi.bound h1];simp only [ob];rw [hlo.bound h2];simp only;rw [qwz ⟨c1,by omega⟩];have e2:hh=0:=by omega
     subst e2;simp
   ·cases h
 | some mv =>
  cases mx' with
  | none=>exact hmx.elim
  | some mv' =>
   simp only [mZ] at h;obtain ⟨mm,h1,g1⟩:=au h;clear h;obtain ⟨hv,hhv,g2⟩:=au g1;clear g1;subst hhv;obtain ⟨hh,h2,g3⟩:=au g2;clear g2;obtain ⟨ll,h3,h⟩:=au g3;clear g3;cases hi' with
   | none=>exact hhi.elim
   | some hv' =>
    split at h
    ·rename_i hc;obtain ⟨c1,c2,c3⟩:=hc;have hv:v=.sl b z 0 0 0 true:=by rw [qwq qqq] at h;cases h;rfl
     subst hv;refine ⟨⟨.bF,?_,.slv _ _ _ _ hA hV (.inl rfl)⟩,⟨.ro z [] true,?_,.slv _ _ _ _ hA hV (.inr rfl)⟩⟩
     ·simp only [kC];rw [OVW.bound (ρ:=ρ) (V:=V) (A:=A) (o:=some mv) (o':=some mv') hmx h1];simp only [ob];rw [OVW.bound (ρ:=ρ) (V:=V) (A:=A) (o:=some hv) (o':=some hv') hhi h2];simp only;rw [hlo.bound h3];simp only;rw [qwz];exact ⟨by omega,by omega,by omega,by simp⟩
     ·simp only [ig,qaj];rw [OVW.bound (ρ:=ρ) (V:=V) (A:=A) (o:=some mv) (o':=some mv') hmx h1];simp only [ob];rw [OVW.bound (ρ:=ρ) (V:=V) (A:=A) (o:=some hv) (o':=some hv') hhi h2];simp only;rw [hlo.bound h3];simp only;rw [qwz ⟨c1,c2,by omega⟩];have e2:mm=hh:=by omega
      simp [e2]
    ·cases h
theorem ahS {x x':AV} (hl:rF x=true) (h:VW ρ V A x x'):x'=x:=by cases h <;> first | rfl | (simp [rF] at hl)
theorem Ez {k:Nat} {cs cs':List AV} {lo hi lo' hi':Option AV} {v:AV} (hr:bC (VW ρ V A) cs cs')
 (hlo:OVW ρ V A lo lo') (hhi:OVW ρ V A hi hi') (h:jZ k cs lo hi=some v):∃ v',jZ k cs' lo' hi'=some v'/\VW ρ V A v v':=by
 unfold jZ at h |-;split at h;case isFalse=>cases h
 rename_i hc;obtain ⟨c1,c2⟩:=hc;have e:cs'.take k=cs.take k:=by
  have hk:=hr.take k;refine qfq λj=>?_;cases hj:(cs.take k)[j]? with
  | none =>rw [q2x] at hj |-;rw [<- hk.1];exact hj
  | some x =>obtain ⟨x',h1,h2⟩:=hk.get hj;rw [h1,ahS (qjx.1 c2 x (qzx hj)) h2]
 rw [e,qwz ⟨by rw [<- hr.1];exact c1,c2⟩];refine JJ (es:=(cs.take k).map λx=>[x]) ⟨rfl,λj x x' h1 h2=>?_⟩ (λe he x hx=>?_) id hlo hhi (mx:=none) (mx':=none) trivial h
 ·rw [h1] at h2;cases h2;rw [qWx] at h1;cases hj:(cs.take k)[j]? with
  | none=>rw [hj] at h1;cases h1
  | some y =>rw [hj] at h1;cases h1;refine .cons ?_ .nil;have:=qjx.1 c2 y (qzx hj);cases y <;> simp [rF] at this <;> constructor
 ·simp only [qyq] at he;obtain ⟨y,hy,rfl⟩:=he;simp only [qkq,qdq,q0x] at hx;subst hx;have:=qjx.1 c2 x hy;cases x <;> simp [rF] at this <;> rfl
theorem UZ {k:Nat} {x x':AV} {lo hi mx lo' hi' mx':Option AV} {v:AV} (hx:VW ρ V A x x')
 (hlo:OVW ρ V A lo lo') (hhi:OVW ρ V A hi hi') (hmx:OVW ρ V A mx mx') (h:iq k x lo hi mx=some v):∃ v',iq k x' lo' hi' mx'=some v'/\VW ρ V A v v':=by
 cases x with
 | str s =>
  rw [hx.iL];simp only [iq] at h |-;split at h
  ·rename_i hk;rw [qwz hk];cases mx with
   | some _=>simp [wz] at h
   | none =>
    cases mx' with
    | some _=>exact hmx.elim
    | none =>
     simp only [wz] at h |-;obtain ⟨hh,h1,h⟩:=au h;obtain ⟨ll,h2,h⟩:=au h;rw [hhi.bound h1];simp only [ob];rw [hlo.bound h2];simp only;split at h
     ·rename_i hc;rw [qwz hc];cases h;exact ⟨_,rfl,.str _⟩
     ·cases h
  ·cases h
 | bF =>
  cases hx;simp only [iq] at h |-;split at h
  ·cases h
  ·rename_i hk;rw [qwq hk];simp only [kC] at h |-;obtain ⟨mm,h1,h⟩:=au h;obtain ⟨hh,h2,h⟩:=au h;obtain ⟨ll,h3,h⟩:=au h;rw [hmx.bound h1];simp only [ob];rw [hhi.bound h2];simp only;rw [hlo.bound h3];simp only;have e1:mx.isSome=mx'.isSome:=by cases mx <;> cases mx' <;> simp_all [OVW]
   have e2:hi.isNone=hi'.isNone:=by cases hi <;> cases hi' <;> simp_all [OVW]
   rw [e1,e2] at h;split at h
   ·rename_i hc;rw [qwz hc];cases h;exact ⟨_,rfl,.bF⟩
   ·cases h
 | ro z es ex =>
  simp only [iq] at h;split at h
  ·rename_i hk;rcases hx.mO with ⟨rfl,rfl⟩ | ⟨es',ex',rfl,h2,h3,h4⟩
   ·simp only [iq,qwq hk.1];exact Ut hlo hhi hmx h
   ·simp only [iq,qwz hk];exact JJ h3 h4 h2 hlo hhi hmx h
  ·cases h
 | sl b z i len cap ex =>
  simp only [iq] at h;split at h
  ·rename_i hk;rcases hx.jY with ⟨hA,hV,ex',rfl,h2⟩ | ⟨hA,hV,rfl,rfl,rfl,h2⟩
   ·simp only [iq,qwz hk];exact Xf hA hV h2 hlo hhi hmx h
   ·obtain ⟨q1,q2⟩:=NW hA hV hlo hhi hmx h;rcases h2 with rfl | rfl
    ·simp only [iq,qwq hk.1];exact q1
    ·simp only [iq,qwz hk];exact q2
  ·cases h
 | _=>simp [iq] at h
end
end Go.Pw
end
section
set_option linter.unusedSimpArgs false
set_option linter.unusedVariables false
namespace Go.Pw
open Go Go.Pav
section
variable {ρ:Nat->Nat} {V A:Nat->Prop} {n m:Nat} {h:aG} {h':Heap} {e e':Env}
theorem Q9 (H:HW ρ V A h h') {z:Nat} {x x':AV} (hx:VW ρ V A x x') {xs:List (List AV)} {d:Bool} (he:kL h z x=some (xs,d)) :
 ∃ xs',elems h' z x'=some xs'/\bC (bC (VW ρ V A)) xs xs'/\(d=true->∀ e ∈ xs,∀ x ∈ e,isC x=true):=by
 cases x with
 | bF=>cases hx;simp only [kL,qwx,qkj] at he;obtain ⟨rfl,rfl⟩:=he;exact ⟨[],rfl,.nil,λ_ e he=>by cases he⟩
 | str s =>
  rw [hx.iL];simp only [kL] at he;split at he
  ·rename_i hz;simp only [qwx,qkj] at he;obtain ⟨rfl,rfl⟩:=he;refine ⟨s.map λc=>[.int .u8 c.toNat],by simp only [elems,qwz hz],?_,?_⟩
   ·exact (bC.map (R:=Eq) (T:=bC (VW ρ V A)) (l:=s) (l':=s) ⟨rfl,λj x x' h1 h2=>by rw [h1] at h2;cases h2;rfl⟩ λx x' hxx=>by subst hxx;exact .cons (.int _ _) .nil)
   ·intro _ e he x hx;simp only [qyq] at he;obtain ⟨c,_,rfl⟩:=he;simp at hx;subst hx;rfl
  ·cases he
 | ro z' es ex =>
  simp only [kL] at he;split at he
  ·rename_i hz;simp only [qwx,qkj] at he;obtain ⟨rfl,rfl⟩:=he;rcases hx.mO with ⟨rfl,rfl⟩ | ⟨es',ex',rfl,_,hr,hc⟩
   ·exact ⟨[],rfl,.nil,λ_ e he=>by cases he⟩
   ·exact ⟨es',by simp only [elems,qwz hz],hr.mono λe e' _ h=>h.mono λx x' _ h=>h.data,λ_=>hc⟩
  ·cases he
 | sl b z' i len cap ex =>
  simp only [kL] at he;split at he
  ·rename_i hz;split at he
   ·rename_i zb es mu dt hg;split at he
    ·rename_i hl;simp only [qwx,qkj] at he;obtain ⟨rfl,rfl⟩:=he;rcases hx.jY with ⟨hA,hV,ex',rfl,_⟩ | ⟨hA,hV,rfl,rfl,rfl,hv⟩
     ·obtain ⟨o',h1,es',mu',rfl,_,hr,hd⟩:=H.obj b _ hg hV;refine ⟨(es'.drop i).take len,?_,(hr.drop i).take len,λq e he x hx=>hd q e (qQz (qZz he)) x hx⟩;simp only [elems,qwz hz,h1,<- hr.1,qwz hl]
     ·obtain ⟨z2,mu2,dt2,q⟩:=H.uZ b _ hg hV;cases q;refine ⟨[],?_,by simp only [zwj,zwx];exact .nil,λ_ e he=>by simp at he⟩;rcases hv with rfl | rfl
      ·rfl
      ·simp only [elems,qwz hz]
    ·cases he
   ·cases he
  ·cases he
 | _=>simp [kL] at he
theorem oP (H:HW ρ V A h h') (hn:¬ A n) (hm:∀ b,A b->¬ V b->ρ b≠m) {zl k bytes:Nat} {xs xs':List (List AV)} {d:Bool} {r:AV × dW}
 (hr:bC (bC (VW ρ V A)) xs xs') (hd:d=true->∀ e ∈ xs,∀ x ∈ e,isC x=true) (he:ng n zl k bytes xs d=some r) :
 ∃ r',Pav.newRow m zl k bytes xs'=some r'/\Ok2 ρ V A n m h h' r r':=by
 unfold ng at he;split at he
 ·rename_i hb;cases he;have hVn:¬ V n:=λq=>hn (H.sub n q);have un:up ρ n m n=m:=by simp [up]
  refine ⟨_,by simp only [Pav.newRow,qwz hb];rfl,?_,?_,?_⟩
  ·have:=VW.sl (ρ:=up ρ n m) (V:=V) (A:=addN A n) n zl 0 k k false false (.inr rfl) hVn id;rw [un] at this;exact this
  ·exact pz H hn hm ⟨xs',true,rfl,λ_=>rfl,hr.mono λe e' _ h=>h.mono λx x' _ h=>h.mono (qK hn),hd⟩
  ·intro b hb;simp at hb;subst hb;exact ⟨n,by simp,un.symm,hVn,.inr rfl⟩
 ·cases he
theorem TJ (H:HW ρ V A h h') (hn:¬ A n) (hm:∀ b,A b->¬ V b->ρ b≠m) {zl bytes:Nat} {s s':AV} {xs xs':List (List AV)} {d:Bool} {r:AV × dW} (hs:VW ρ V A s s')
 (hr:bC (bC (VW ρ V A)) xs xs') (hd:d=true->∀ e ∈ xs,∀ x ∈ e,isC x=true) (he:jg h n zl bytes s xs d=some r) :
 ∃ r',kW h' m zl bytes s' xs'=some r'/\Ok2 ρ V A n m h h' r r':=by
 cases s with
 | bF =>
  cases hs;simp only [jg] at he;cases xs with
  | nil=>simp only [qwx] at he;subst he;rw [hr.eU];exact ⟨_,rfl,aV H hn hm .bF⟩
  | cons a t =>obtain ⟨a',t',rfl,h1,h2⟩:=hr.dK;simp only at he;obtain ⟨r',h3,h4⟩:=oP H hn hm hr hd he;exact ⟨r',by simp only [kW,<- hr.1];exact h3,h4⟩
 | ro z es ex =>
  simp only [jg] at he;split at he
  ·rename_i hz;rcases hs.mO with ⟨rfl,rfl⟩ | ⟨es',ex',rfl,hx,hes,hc⟩
   ·cases xs with
    | nil=>simp only [qwx] at he;subst he;rw [hr.eU];exact ⟨_,rfl,aV H hn hm hs⟩
    | cons a t =>
     obtain ⟨a',t',rfl,h1,h2⟩:=hr.dK;simp only at he;split at he
     ·simp only [qaj,qVq,qJj] at he;obtain ⟨r',h3,h4⟩:=oP H hn hm hr hd he;exact ⟨r',by simp only [kW,<- hr.1];exact h3,h4⟩
     ·cases he
   ·cases xs with
    | nil=>simp only [qwx] at he;subst he;rw [hr.eU];exact ⟨_,by simp only [kW,qwz hz],aV H hn hm hs⟩
    | cons a t =>
     obtain ⟨a',t',rfl,h1,h2⟩:=hr.dK;simp only at he;split at he
     ·rename_i hex;obtain ⟨r',h3,h4⟩:=oP H hn hm (xs':=es'++a'::t') ((hes.mono λe e' _ h=>h.mono λx x' _ h=>h.data).append hr) (λq e he x hx=>by
       rcases qjj.1 he with q1 | q1
       ·exact hc e q1 x hx
       ·exact hd q e q1 x hx) he
      refine ⟨r',?_,h4⟩;simp only [kW,qwz hz,hx hex,qQx];rw [<- hes.1,<- hr.1];exact h3
     ·cases he
  ·cases he
 | sl b z i len cap ex =>
  simp only [jg] at he;split at he
  ·rename_i hz;subst hz;cases xs with
   | nil =>
    simp only [qwx] at he;subst he;rw [hr.eU];rcases hs.jY with ⟨hA,hV,ex',rfl,_⟩ | ⟨hA,hV,rfl,rfl,rfl,hv⟩
    ·exact ⟨_,by simp only [kW,qQx],aV H hn hm hs⟩
    ·rcases hv with rfl | rfl
     ·exact ⟨_,rfl,aV H hn hm hs⟩
     ·exact ⟨_,by simp only [kW,qQx],aV H hn hm hs⟩
   | cons a t =>
    obtain ⟨a',t',rfl,h1,h2⟩:=hr.dK;simp only at he;unfold Oz at he;split at he
    ·rename_i zb es mu dt hg;split at he
     ·rename_i hzb;rcases hs.jY with ⟨hA,hV,ex',rfl,hx⟩ | ⟨hA,hV,rfl,rfl,rfl,hv⟩
      ·obtain ⟨o',g1,es',mu',rfl,gm,ge,gd⟩:=H.obj b _ hg hV;have hu:=qK (ρ:=ρ) (V:=V) (m:=m) hn;have dd:(dt&&d)=true->(∀ e ∈ es,∀ x ∈ e,isC x=true)/\∀ e ∈ a::t,∀ x ∈ e,isC x=true:=by intro q;simp only [qzq] at q;exact ⟨gd q.1,hd q.2⟩
       simp only [kW,qQx,g1,ad6,qwz hzb];have hlen:(a'::t').length=(a::t).length:=hr.1.symm;rw [hlen];split at he
       ·rename_i hcap;rw [qwz hcap];split at he
        ·rename_i hc;cases he;have e1:mu'=true/\i+(len+(a::t).length)<=es'.length:=⟨gm hc.1,by rw [<- ge.1];exact hc.2⟩;rw [qwz e1];refine ⟨_,rfl,?_,?_,?_⟩
         ·have:=VW.sl (ρ:=up ρ n m) (V:=V) (A:=addN A n) b z i (len+(a::t).length) cap ex ex' (.inl hA) hV hx;rw [(hu b hA).2.1] at this;exact this
         ·refine HW.up (oQ H hA hV ?_) hn hm;refine ⟨_,true,rfl,λ_=>rfl,(ge.take _).append (hr.append (ge.drop _)),λq e he x hx=>?_⟩;obtain ⟨q1,q2⟩:=dd q;rcases qjj.1 he with q3 | q3
          ·exact q1 e (qZz q3) x hx
          ·rcases qjj.1 q3 with q3 | q3
           ·exact q2 e q3 x hx
           ·exact q1 e (qQz q3) x hx
         ·intro c hc;simp at hc;subst hc;exact ⟨b,by simp,((hu b hA).2.1).symm,hV,.inl hA⟩
        ·cases he
       ·rename_i hcap;rw [qwq hcap];split at he
        ·rename_i hex;subst hex;rw [hx rfl];simp only [qQx];split at he
         ·rename_i hl;rw [qwz (by rw [<- ge.1];exact hl)];exact oP H hn hm (((ge.drop _).take _).append hr) (λq e he x hx=>by
           obtain ⟨q1,q2⟩:=dd q;rcases qjj.1 he with q3 | q3
           ·exact q1 e (qQz (qZz q3)) x hx
           ·exact q2 e q3 x hx) he
         ·cases he
        ·rename_i hex;have hex:ex=false:=by simpa using hex
         subst hex;split at he
         ·rename_i hc;cases he;obtain ⟨c1,c2,c3,c4⟩:=hc;subst c2;have hVn:¬ V n:=λq=>hn (H.sub n q);have un:up ρ n m n=m:=by simp [up]
          have vw:VW (up ρ n m) V (addN A n) (.sl n z 0 (len+(a::t).length) (len+(a::t).length) false) (.sl m z 0 (len+(a::t).length) (len+(a::t).length) false):=by have:=VW.sl (ρ:=up ρ n m) (V:=V) (A:=addN A n) n z 0 (len+(a::t).length) (len+(a::t).length) false false (.inr rfl) hVn id;rw [un] at this;exact this
          have ow:∀ {mu2},OW (up ρ n m) V (addN A n) (.cells z (es++a::t) true (dt&&d)) (.cells z (es'++a'::t') mu2)↔mu2=true:=by
           intro mu2;constructor
           ·rintro ⟨_,_,q,q2,_⟩;cases q;exact q2 rfl
           ·rintro rfl;refine ⟨_,true,rfl,λ_=>rfl,(ge.append hr).mono λe e' _ h=>h.mono λx x' _ h=>h.mono hu,λq e he x hx=>?_⟩;obtain ⟨q1,q2⟩:=dd q;rcases qjj.1 he with q3 | q3
            ·exact q1 e q3 x hx
            ·exact q2 e q3 x hx
          have wr:∀ c,c=ρ b\/c=m->∃ c2 ∈ [(b,(none:Option fC)),(n,some (.cells z (es++a::t) true (dt&&d)))].map (·.1),c=up ρ n m c2/\¬ V c2/\addN A n c2:=by
           rintro c (rfl | rfl)
           ·exact ⟨b,by simp,((hu b hA).2.1).symm,hV,.inl hA⟩
           ·exact ⟨n,by simp,un.symm,hVn,.inr rfl⟩
          cases ex' with
          | false =>simp only [qjz,qWz];rw [qwz ⟨gm c1,by trivial,by rw [<- ge.1];exact c3,c4⟩];refine ⟨_,rfl,vw,?_,λc hc=>wr c (by simpa using hc)⟩;exact pz (akh H hA hV) hn hm (ow.2 rfl)
          | true =>
           simp only [qQx];rw [qwz (by rw [<- ge.1,c3];simp)];have e3:(es'.drop 0).take len=es':=by rw [qjq,qzz (by rw [<- ge.1];omega)]
           rw [e3];refine ⟨_,by simp only [Pav.newRow,qwz c4];rfl,vw,?_,λc hc=>wr c (.inr (by simpa using hc))⟩;exact pz (YD H) hn hm (ow.2 rfl)
         ·cases he
      ·obtain ⟨z2,mu2,dt2,q⟩:=H.uZ b _ hg hV;cases q;have hnr:∃ d2,(d2=true->d=true)/\((ng n zb (a::t).length bytes (a::t) d2=some r)\/(∃ (q4:(a::t).length * (bytes+1)<=dD),r=(.sl n zb 0 (a::t).length (a::t).length false,[(b,none),(n,some (.cells zb (a::t) true d2))]))):=by
        refine ⟨dt&&d,λq=>by simp only [qzq] at q;exact q.2,?_⟩;subst hzb;rw [qwq qqz] at he;split at he
        ·split at he
         ·left;simpa using he
         ·cases he
        ·split at he
         ·rename_i hc;right;simp only [qVq] at hc he;exact ⟨hc.2.2.2,by simpa using he.symm⟩
         ·cases he
       obtain ⟨d2,hd2,hh⟩:=hnr;have hd3:d2=true->∀ e ∈ a::t,∀ x ∈ e,isC x=true:=λq=>hd (hd2 q);have goal:∃ r',Pav.newRow m z (a'::t').length bytes (a'::t')=some r'/\Ok2 ρ V A n m h h' r r':=by
        subst hzb;rcases hh with hh | ⟨q4,rfl⟩
        ·obtain ⟨r',h3,h4⟩:=oP H hn hm hr hd3 hh;exact ⟨r',by rw [<- hr.1];exact h3,h4⟩
        ·obtain ⟨r',h3,h4⟩:=oP (h:=del h b) (zl:=zb) (k:=(a::t).length) (bytes:=bytes) (r:=(.sl n zb 0 (a::t).length (a::t).length false,[(n,some (fC.cells zb (a::t) true d2))])) (YD H) hn hm hr hd3 (by simp only [ng,qwz q4]);refine ⟨r',by rw [<- hr.1];exact h3,h4.1,h4.2.1,λc hc=>?_⟩;obtain ⟨c2,q5,q6⟩:=h4.2.2 c hc;exact ⟨c2,by simp at q5 |-;exact .inr q5,q6⟩
       obtain ⟨r',g1,g2⟩:=goal;rcases hv with rfl | rfl
       ·exact ⟨r',by simp only [kW];exact g1,g2⟩
       ·exact ⟨r',by simp only [kW,qQx,qaj,qVq,qJj];exact g1,g2⟩
     ·cases he
    ·cases he
  ·cases he
 | _=>simp [jg] at he
end
end Go.Pw
end
section
set_option linter.unusedSimpArgs false
set_option linter.unusedVariables false
namespace Go.Pw
open Go Go.Pav
section
variable {ρ:Nat->Nat} {V A:Nat->Prop} {n m:Nat} {h:aG} {h':Heap} {e e':Env}
theorem vG {x:Option AV} {a:AV} (hx:x=some a):ov x=some (a,[]):=by rw [hx];rfl
theorem bJ {x:Option (AV × Upd)} {r:AV × dW} (h:plainW x=some r):∃ v u,x=some (v,u)/\r=(v,[]):=by obtain ⟨⟨v,u⟩,h1,h2⟩:=aB h;exact ⟨v,u,h1,h2.symm⟩
theorem JK {x:Option AV} {r:AV × dW} (h:ovW x=some r):∃ v,x=some v/\r=(v,[]):=by obtain ⟨v,h1,h2⟩:=aB h;exact ⟨v,h1,h2.symm⟩
theorem nR {x:Option AV} {v:AV} {u:Upd} (h:ov x=some (v,u)):x=some v:=by obtain ⟨w,h1,h2⟩:=aB h;cases h2;exact h1
theorem zq (he:EW ρ V A e e') {o:Option Opd} (ho:(o.map okO).getD true=true):OVW ρ V A (oev e o) (oev e' (o.map erO)):=by
 cases o with
 | none=>trivial
 | some x=>exact he.opd (by simpa using ho)
theorem aaY:∀ {es es':List (AV × AV)} {k:AV} {r:Option AV},bC (λ(x y:AV × AV)=>x.1=y.1/\VD ρ V x.2 y.2) es es'->mQ es k=some r->∃ r',mQ es' k=some r'/\OVW ρ V A r r':=by
 intro es;induction es with
 | nil=>intro es' k r hr h;rw [hr.eU];simp only [mQ,qwx] at h;subst h;exact ⟨none,rfl,trivial⟩
 | cons x es ih =>
  intro es' k r hr h;obtain ⟨y,t,rfl,h1,h2⟩:=hr.dK;obtain ⟨a,v⟩:=x;obtain ⟨a',v'⟩:=y;obtain ⟨rfl,hv⟩:=h1;simp only [mQ] at h |-;obtain ⟨c,h3,h⟩:=au h;rw [h3];simp only [ob];split at h
  ·rename_i hc;rw [qwz hc];cases h;exact ⟨some v',rfl,hv.data⟩
  ·rename_i hc;rw [qwq hc];exact ih h2 h
theorem aaK:∀ {es es' r:List (AV × AV)} {k v v':AV},bC (λ(x y:AV × AV)=>x.1=y.1/\VD ρ V x.2 y.2) es es'->VD ρ V v v'->kN es k v=some r ->
 ∃ r',kN es' k v'=some r'/\bC (λ(x y:AV × AV)=>x.1=y.1/\VD ρ V x.2 y.2) r r':=by
 intro es;induction es with
 | nil=>intro es' r k v v' hr hv h;rw [hr.eU];simp only [kN,qwx] at h;subst h;exact ⟨_,rfl,.cons ⟨rfl,hv⟩ .nil⟩
 | cons x es ih =>
  intro es' r k v v' hr hv h;obtain ⟨y,t,rfl,h1,h2⟩:=hr.dK;obtain ⟨a,w⟩:=x;obtain ⟨a',w'⟩:=y;obtain ⟨rfl,hw⟩:=h1;simp only [kN] at h |-;obtain ⟨c,h3,h⟩:=au h;rw [h3];simp only [ob];split at h
  ·rename_i hc;rw [qwz hc];cases h;exact ⟨_,rfl,.cons ⟨rfl,hv⟩ h2⟩
  ·rename_i hc;rw [qwq hc];obtain ⟨r1,h4,rfl⟩:=aB h;obtain ⟨r2,h5,h6⟩:=ih h2 hv h4;rw [h5];exact ⟨_,rfl,.cons ⟨rfl,hw⟩ h6⟩
theorem TB {z z':AV} {r r':Option AV} (hz:VW ρ V A z z') (hr:OVW ρ V A r r') (ok:Bool):VW ρ V A (found z ok r) (found z' ok r'):=by
 have:VW ρ V A (r.getD z) (r'.getD z')/\r.isSome=r'.isSome:=by cases r <;> cases r' <;> simp_all [OVW]
 unfold found;split
 ·rw [this.2];exact VW.l7 (.cons this.1 (.cons (.bool _) .nil))
 ·exact this.1
theorem ad3 (he:EW ρ V A e e') (H:HW ρ V A h h') (hn:¬ A n) (hm:∀ b,A b->¬ V b->ρ b≠m) {op:COp} (ho:jh op=true) {r:AV × dW} (hs:stepW op e h n=some r) :
 ∃ r',aJ (gu op) e' h' m=some r'/\Ok2 ρ V A n m h h' r r':=by
 have hVn:¬ V n:=λq=>hn (H.sub n q);have un:up ρ n m n=m:=by simp [up]
 have hu:=qK (ρ:=ρ) (V:=V) (m:=m) hn;have wrn:∀ {o:fC} {o':jr} {v:AV} {v':AV},∀ b ∈ ((v',[(m,some o')]):AV × Upd).2.map (·.1),∃ c ∈ ((v,[(n,some o)]):AV × dW).2.map (·.1),b=up ρ n m c/\¬ V c/\addN A n c:=by intro o o' v v' b hb;simp at hb;subst hb;exact ⟨n,by simp,un.symm,hVn,.inr rfl⟩
 have wro:∀ {b:Nat} {o:fC} {o':jr} {v:AV} {v':AV},A b->¬ V b->∀ c ∈ ((v',[(ρ b,some o')]):AV × Upd).2.map (·.1),∃ c2 ∈ ((v,[(b,some o)]):AV × dW).2.map (·.1),c=up ρ n m c2/\¬ V c2/\addN A n c2:=by intro b o o' v v' hA hV c hc;simp at hc;subst hc;exact ⟨b,by simp,((hu b hA).2.1).symm,hV,.inl hA⟩
 have zok:∀ {z:List AV},okL z=true->bC (VW (up ρ n m) V (addN A n)) z (erL z):=λq=>zK _ q;have allC:∀ {z:List AV},(z.all isC)=true->∀ x ∈ z,isC x=true:=λq x hx=>qjx.1 q x hx;cases op with
 | mv x =>obtain ⟨v,u,h1,rfl⟩:=bJ hs;simp only [sMv,qwx,qkj] at h1;obtain ⟨rfl,rfl⟩:=h1;exact ⟨_,rfl,aV H hn hm (he.opd ho)⟩
 | pick c a b =>
  simp only [jh,qzq] at ho;obtain ⟨v,u,h1,rfl⟩:=bJ hs;simp only [ES] at h1;split at h1
  ·rename_i t hc;simp only [qwx,qkj] at h1;obtain ⟨rfl,rfl⟩:=h1;have hc':=he.opd ho.1;rw [hc] at hc';refine ⟨_,by simp only [aJ,gu,ES,hc'.fU];rfl,aV H hn hm ?_⟩;cases t with
   | true=>exact he.opd ho.2.1
   | false=>exact he.opd ho.2.2
  ·cases h1
 | alloc z =>
  simp only [stepW,VY,qwx] at hs;subst hs;have hz:=zK (ρ:=up ρ n m) (V:=V) (A:=addN A n) z ho;refine ⟨_,rfl,?_,?_,wrn⟩
  ·have:=VW.ptr (ρ:=up ρ n m) (V:=V) (A:=addN A n) n 0 0 (.inr rfl) hVn;rw [un] at this;exact this
  ·refine pz H hn hm ?_;simp only [<- hz.1];exact ⟨_,true,rfl,λ_=>rfl,.cons hz .nil,λq e he x hx=>by simp at he;subst he;exact allC q x hx⟩
 | box x =>
  simp only [stepW,akA,VP] at hs;split at hs
  ·rename_i hc;cases hs;obtain ⟨h1,h2⟩:=(he.opd ho).cells hc;refine ⟨_,by simp only [aJ,gu,ai9,boxed,qwz h2];rfl,?_,?_,wrn⟩
   ·have:=VW.ptr (ρ:=up ρ n m) (V:=V) (A:=addN A n) n 0 0 (.inr rfl) hVn;rw [un] at this;exact this
   ·refine pz H hn hm ?_;simp only [<- h1.1];exact ⟨_,true,rfl,λ_=>rfl,.cons (h1.mono λx x' _ h=>h.mono hu) .nil,λq e he x hx=>by simp at he;subst he;exact allC q x hx⟩
  ·cases hs
 | build z ps =>simp only [jh,qzq] at ho;obtain ⟨v,u,h1,rfl⟩:=bJ hs;obtain ⟨cs,h2,h3⟩:=aB h1;cases h3;obtain ⟨r',h4,h5⟩:=abn he ps z _ cs ho.2 (zK z ho.1) h2;exact ⟨_,by simp only [aJ,gu,Eo,h4];rfl,aV H hn hm (VW.L6 h5)⟩
 | aP z len ps =>
  simp only [jh,qzq] at ho;simp only [stepW,NH] at hs;obtain ⟨es,h1,rfl⟩:=aB hs;have hz:=zK (ρ:=ρ) (V:=V) (A:=A) z ho.1;obtain ⟨es',h4,h5⟩:=aeh he z.length ps (List.replicate len z) (List.replicate len (erL z)) es ho.2 (.replicate hz len) h1;refine ⟨_,by simp only [aJ,gu,Ci,<- hz.1,h4];rfl,?_,?_,wrn⟩
  ·have:=VW.sl (ρ:=up ρ n m) (V:=V) (A:=addN A n) n z.length 0 len len true true (.inr rfl) hVn id;rw [un] at this;exact this
  ·refine pz H hn hm ?_;exact ⟨_,true,rfl,λ_=>rfl,h5.mono λe e' _ h=>h.mono λx x' _ h=>h.mono hu,λq e he x hx=>by simp only [qjx] at q;exact q e he x hx⟩
 | load k ag a =>
  obtain ⟨v,h1,rfl⟩:=JK hs;have ha:=he.opd (x:=a) ho;have key:∃ v',Ea k ag h' ((erO a).ev e')=some v'/\VW ρ V A v v':=by
   cases hx:a.ev e with
   | rop cs =>rw [hx] at ha h1;obtain ⟨cs',q,hr⟩:=ha.uT;rw [q];obtain ⟨v',h2,h3⟩:=vO hr h1;exact ⟨v',h2,h3.data⟩
   | ptr b i o =>
    rw [hx] at ha h1;obtain ⟨q,hA,hV⟩:=ha.jl;rw [q];simp only [BJ] at h1;unfold yL at h1;split at h1
    ·rename_i z es mu dt hg;obtain ⟨cs,h2,h3⟩:=au h1;obtain ⟨o',g1,es',mu',rfl,_,ge,_⟩:=H.obj b _ hg hV;obtain ⟨cs',h4,h5⟩:=ge.get h2;obtain ⟨v',h6,h7⟩:=vO (h5.drop o) h3;exact ⟨v',by simp only [Ea,g1,loadAt,h4,ob];exact h6,h7⟩
    ·cases h1
   | _=>rw [hx] at h1;simp [BJ] at h1
  obtain ⟨v',h2,h3⟩:=key;exact ⟨_,vG h2,aV H hn hm h3⟩
 | store k a x =>
  simp only [jh,qzq] at ho;simp only [stepW,Qk] at hs;split at hs
  ·rename_i hc;obtain ⟨c1,c2⟩:=(he.opd ho.2).cells hc.2;have ha:=he.opd ho.1;cases hx:a.ev e with
   | ptr b i o =>
    rw [hx] at ha hs;obtain ⟨q,hA,hV⟩:=ha.jl;simp only [vU] at hs;unfold IL at hs;split at hs
    ·rename_i z es mu dt hg;split at hs
     ·rename_i hmu;obtain ⟨cs,h2,h3⟩:=au hs;split at h3
      ·rename_i hl;cases h3;obtain ⟨o',g1,es',mu',rfl,gm,ge,gd⟩:=H.obj b _ hg hV;obtain ⟨cs',h4,h5⟩:=ge.get h2;refine ⟨_,by simp only [aJ,gu,Oi,<- c1.1];rw [qwz ⟨hc.1,c2⟩,q];simp only [Dq,g1,storeAt,gm hmu,qQx,h4,ob,<- h5.1];rw [qwz hl],?_,?_,wro hA hV⟩
       ·exact VW.l7 .nil
       ·refine HW.up (oQ H hA hV ?_) hn hm;refine ⟨_,true,rfl,λ_=>rfl,ge.set (KW h5 c1 o),λq e he x hx=>?_⟩;simp only [qzq,qjx] at q;rcases qix he with q2 | rfl
        ·exact gd q.1 e q2 x hx
        ·unfold splice at hx;simp only [qjj] at hx;rcases hx with q3 | q3 | q3
         ·exact gd q.1 cs (qzx h2) x (qZz q3)
         ·exact q.2 x q3
         ·exact gd q.1 cs (qzx h2) x (qQz q3)
      ·cases h3
     ·cases hs
    ·cases hs
   | _=>rw [hx] at hs;simp [vU] at hs
  ·cases hs
 | jQ x =>
  obtain ⟨v,u,h1,rfl⟩:=bJ hs;have hx:=he.opd (x:=x) ho;simp only [mW] at h1;split at h1
  ·rename_i b i o hc;cases h1;rw [hc] at hx;exact ⟨_,by simp only [aJ,gu,mW,hx.jl.1],aV H hn hm (hx.jl.1 ▸ hx)⟩
  ·rename_i cs hc;cases h1;rw [hc] at hx;obtain ⟨cs',q,_⟩:=hx.uT;exact ⟨_,by simp only [aJ,gu,mW,q],aV H hn hm (q ▸ hx)⟩
  ·rename_i f cs hc;cases h1;rw [hc] at hx;obtain ⟨cs',q,_⟩:=hx.zI;exact ⟨_,by simp only [aJ,gu,mW,q],aV H hn hm (q ▸ hx)⟩
  ·cases h1
 | bin op x y =>simp only [jh,qzq] at ho;obtain ⟨v,u,h1,rfl⟩:=bJ hs;obtain ⟨h2,h3⟩:=adF (he.opd ho.1) (he.opd ho.2) (nR h1);exact ⟨_,vG h2,aV H hn hm h3⟩
 | eqv kd ks ne x y =>
  simp only [jh,qzq] at ho;simp only [stepW] at hs;split at hs
  ·rename_i hk;subst hk;obtain ⟨b,h1,rfl⟩:=aB hs;refine ⟨_,by simp only [aJ,gu,JD,iK,qQx,adP (he.opd ho.1) (he.opd ho.2) h1];rfl,aV H hn hm (.bool _)⟩
  ·rename_i hk;obtain ⟨v,u,h1,rfl⟩:=bJ hs;obtain ⟨b,h2,h3⟩:=aB h1;cases h3;exact ⟨_,by simp only [aJ,gu,JD,Z7 (he.opd ho.1) (he.opd ho.2) hk h2];rfl,aV H hn hm (.bool _)⟩
 | un op x =>obtain ⟨v,u,h1,rfl⟩:=bJ hs;obtain ⟨h2,h3⟩:=ahg (he.opd (x:=x) ho) (nR h1);exact ⟨_,vG h2,aV H hn hm h3⟩
 | cvt k x =>
  obtain ⟨v,u,h1,rfl⟩:=bJ hs;have hx:=he.opd (x:=x) ho;simp only [Tn] at h1;split at h1
  ·rename_i k' q hc;cases h1;rw [hc] at hx;exact ⟨_,by simp only [aJ,gu,Tn,hx.dV],aV H hn hm (.int _ _)⟩
  ·cases h1
 | cvs x =>
  obtain ⟨v,u,h1,rfl⟩:=bJ hs;have hx:=he.opd (x:=x) ho;simp only [S9] at h1;split at h1
  ·rename_i q hc;cases h1;rw [hc] at hx;exact ⟨_,by simp only [aJ,gu,S9,hx.iL],aV H hn hm (.str _)⟩
  ·cases h1
 | cvb x =>
  obtain ⟨v,u,h1,rfl⟩:=bJ hs;have hx:=he.opd (x:=x) ho;simp only [RX] at h1;have h1:=nR h1;cases hxv:x.ev e <;> rw [hxv] at h1 hx <;> simp only [TI] at h1 <;> try (cases h1;done)
  ·cases h1;have q:(erO x).ev e'=.bF:=by generalize (erO x).ev e'=u at hx;cases hx;rfl
   exact ⟨_,vG (by rw [q];rfl),aV H hn hm (.str _)⟩
  ·rename_i z es ex;split at h1
   ·rename_i hz;subst hz;obtain ⟨s,hb,rfl⟩:=aB h1;rcases hx.mO with ⟨q2,q1⟩ | ⟨es',ex',q1,q3,q2,q4⟩
    ·subst q2;simp only [bytesOf,qwx] at hb;subst hb;exact ⟨_,vG (by rw [q1];rfl),aV H hn hm (.str _)⟩
    ·have hb':bytesOf es'=some s:=by
      have key:∀ (es es':List (List AV)) (s:List UInt8),bC (bC (VD ρ V)) es es'->bytesOf es=some s->bytesOf es'=some s:=by
       intro es;induction es with
       | nil=>intro es' s hr hb;rw [hr.eU];exact hb
       | cons c r ih =>
        intro es' s hr hb;obtain ⟨c',t,rfl,h2,h3⟩:=hr.dK;simp only [bytesOf] at hb;split at hb
        ·obtain ⟨s',h4,rfl⟩:=aB hb;obtain ⟨a,b,rfl,h5,h6⟩:=h2.dK;rw [h6.eU,h5.dV];simp only [bytesOf,ih t s' h3 h4,om]
        ·cases hb
      exact key es es' s q2 hb
     exact ⟨_,vG (by rw [q1];simp only [TI,qQx,hb',om]),aV H hn hm (.str _)⟩
   ·cases h1
 | iW f caps =>
  obtain ⟨v,u,h1,rfl⟩:=bJ hs;simp only [Bj] at h1;split at h1
  ·rename_i hc;cases h1;simp only [jh,qjx] at ho hc;have rel:bC (VW ρ V A) (caps.map λx=>x.ev e) ((caps.map erO).map λx=>x.ev e'):=by
    rw [qVz];refine ⟨by simp,λj x x' h1 h2=>?_⟩;rw [qWx] at h1 h2;cases h3:caps[j]? with
    | none=>rw [h3] at h1;cases h1
    | some c=>rw [h3] at h1 h2;cases h1;cases h2;exact he.opd (ho c (qzx h3))
   have c2:((caps.map erO).all λx=>(x.ev e').cell)=true:=by simp only [List.all_map,qjx];intro c hcc;exact (he.opd (ho c hcc)).cell (hc c hcc)
   exact ⟨_,by simp only [aJ,gu,Bj,qwz c2],aV H hn hm (VW.iW rel)⟩
  ·cases h1
 | lY =>simp only [stepW,WB,qwx] at hs;subst hs;refine ⟨_,rfl,?_,pz H hn hm ⟨[],rfl,.nil⟩,wrn⟩;have:=VW.map (ρ:=up ρ n m) (V:=V) (A:=addN A n) n (.inr rfl) hVn;rw [un] at this;exact this
 | kE z bytes l c =>
  simp only [jh,qzq] at ho;simp only [stepW,aff] at hs;have hl:=he.opd ho.2.1;have hc:=he.opd ho.2.2;split at hs
  ·rename_i k1 l1 k2 c1 e1 e2;rw [e1] at hl;rw [e2] at hc;obtain ⟨l2,h1,h⟩:=au hs;obtain ⟨c2,h2,h⟩:=au h;split at h
   ·rename_i hb;cases h;have hz:=zK (ρ:=up ρ n m) (V:=V) (A:=addN A n) z ho.1;refine ⟨_,by simp only [aJ,gu,Xq,hl.dV,hc.dV,h1,h2,ob,qwz hb];rfl,?_,?_,wrn⟩
    ·have:=VW.sl (ρ:=up ρ n m) (V:=V) (A:=addN A n) n z.length 0 l2 c2 true true (.inr rfl) hVn id;rw [un] at this;simp only [<- hz.1];exact this
    ·refine pz H hn hm ?_;simp only [<- hz.1];exact ⟨_,true,rfl,λ_=>rfl,.replicate hz _,λq e he x hx=>by rw [qgz he] at hx;exact allC q x hx⟩
   ·cases h
  ·cases hs
 | gX n' x lo hi =>
  simp only [jh,qzq] at ho;have hx:=he.opd (x:=x) ho.1;simp only [stepW,Gl] at hs;cases hxv:x.ev e <;> rw [hxv] at hs hx <;> simp only [Ak] at hs <;> try (cases hs;done)
  ·rename_i cs;obtain ⟨r,hr,q⟩:=aB hs;cases q;obtain ⟨cs',q,hc⟩:=hx.uT;obtain ⟨v',h2,h3⟩:=Ez (hc.mono λ_ _ _ hx=>hx.mono λ_ q=>q.elim) (zq he ho.2.1) (zq he ho.2.2) hr;exact ⟨_,by simp only [aJ,gu,Dl,q,wK,h2,om],aV H hn hm h3⟩
  ·rename_i b i o;unfold Je at hs;split at hs;case h_2=>cases hs
   rename_i z es mu dt hg;obtain ⟨cs,hcs,hs⟩:=au hs;obtain ⟨r,hr,q⟩:=aB hs;cases q;obtain ⟨q,hA,hV⟩:=hx.jl;obtain ⟨o',g1,es',mu',rfl,gm,ge,gd⟩:=H.obj b _ hg hV;obtain ⟨cs',h4,h5⟩:=ge.get hcs;obtain ⟨v',h2,h3⟩:=Ez (h5.drop o) (zq he ho.2.1) (zq he ho.2.2) hr;refine ⟨_,by simp only [aJ,gu,Dl,q,wK,g1,sliceAt,h4,ob,h2,om];rfl,?_,?_,wro hA hV⟩
   ·exact h3.mono λc hc=>⟨(hu c hc).1,(hu c hc).2.1,(hu c hc).2.2⟩
   ·refine HW.up (oQ H hA hV ?_) hn hm;exact ⟨_,false,rfl,id,ge,gd⟩
 | slice z x lo hi mx =>simp only [jh,qzq] at ho;obtain ⟨v,u,h1,rfl⟩:=bJ hs;obtain ⟨v',h2,h3⟩:=UZ (he.opd ho.1) (zq he ho.2.1) (zq he ho.2.2.1) (zq he ho.2.2.2) (nR h1);exact ⟨_,vG h2,aV H hn hm h3⟩
 | fld off x =>
  obtain ⟨v,u,h1,rfl⟩:=bJ hs;have hx:=he.opd (x:=x) ho;simp only [O1] at h1;split at h1
  ·rename_i cs hc;cases h1;rw [hc] at hx;obtain ⟨cs',q,hr⟩:=hx.uT;exact ⟨_,by simp only [aJ,gu,O1,q],aV H hn hm (VW.TA (hr.drop off))⟩
  ·rename_i b i o hc;cases h1;rw [hc] at hx;obtain ⟨q,hA,hV⟩:=hx.jl;exact ⟨_,by simp only [aJ,gu,O1,q],aV H hn hm (.ptr _ _ _ hA hV)⟩
  ·cases h1
 | yU off k ag x =>
  obtain ⟨v,u,h1,rfl⟩:=bJ hs;have hx:=he.opd (x:=x) ho;simp only [EP] at h1;split at h1
  ·rename_i cs hc;rw [hc] at hx;obtain ⟨cs',q,hr⟩:=hx.nH;obtain ⟨v',h2,h3⟩:=vO (hr.drop off) (nR h1);exact ⟨_,by simp only [aJ,gu,EP,q];exact vG h2,aV H hn hm h3⟩
  ·cases h1
 | idxs z x i =>
  simp only [jh,qzq] at ho;obtain ⟨v,u,h1,rfl⟩:=bJ hs;have hx:=he.opd ho.1;have hi:=he.opd ho.2;simp only [ED] at h1;split at h1
  ·rename_i k q hc;rw [hc] at hi;obtain ⟨j,h2,h3⟩:=au h1;simp only [aJ,gu,ED,hi.dV,h2,ob];cases hxe:x.ev e with
   | ro z' es ex =>
    rw [hxe] at hx h3;simp only [uo] at h3;split at h3
    ·rename_i hz;obtain ⟨cs,h4,h5⟩:=au h3;cases h5;rcases hx.mO with ⟨rfl,_⟩ | ⟨es',ex',q,_,hr,hd⟩
     ·simp at h4
     ·obtain ⟨cs',h6,h7⟩:=hr.get h4;exact ⟨_,by simp only [q,uo,qwz hz,h6,ob],aV H hn hm (VW.TA h7)⟩
    ·cases h3
   | sl b z' j2 len cap ex =>
    rw [hxe] at hx h3;simp only [uo] at h3;split at h3
    ·rename_i hz;cases h3;rcases hx.jY with ⟨hA,hV,ex',q,_⟩ | ⟨_,_,_,rfl,_,_⟩
     ·exact ⟨_,by simp only [q,uo,qwz hz],aV H hn hm (.ptr _ _ _ hA hV)⟩
     ·omega
    ·cases h3
   | _=>rw [hxe] at h3;simp [uo] at h3
  ·cases h1
 | gq len z x i =>
  simp only [jh,qzq] at ho;obtain ⟨v,u,h1,rfl⟩:=bJ hs;have hx:=he.opd ho.1;have hi:=he.opd ho.2;simp only [EH] at h1;split at h1
  ·rename_i k q hc;rw [hc] at hi;obtain ⟨j,h2,h3⟩:=au h1;split at h3
   ·rename_i hj;simp only [aJ,gu,EH,hi.dV,h2,ob,qwz hj];cases hxe:x.ev e with
    | rop cs =>rw [hxe] at hx h3;simp only [tu,qwx,qkj] at h3;obtain ⟨rfl,_⟩:=h3;obtain ⟨cs',q,hr⟩:=hx.uT;exact ⟨_,by simp only [q,tu],aV H hn hm (VW.TA (hr.drop _))⟩
    | ptr b j2 o =>rw [hxe] at hx h3;simp only [tu,qwx,qkj] at h3;obtain ⟨rfl,_⟩:=h3;obtain ⟨q,hA,hV⟩:=hx.jl;exact ⟨_,by simp only [q,tu],aV H hn hm (.ptr _ _ _ hA hV)⟩
    | _=>rw [hxe] at h3;simp [tu] at h3
   ·cases h3
  ·cases h1
 | fB x i =>
  simp only [jh,qzq] at ho;obtain ⟨v,u,h1,rfl⟩:=bJ hs;have hx:=he.opd ho.1;have hi:=he.opd ho.2;simp only [qF] at h1;split at h1
  ·rename_i s k q hc1 hc2;rw [hc1] at hx;rw [hc2] at hi;obtain ⟨j,h2,h3⟩:=au h1;obtain ⟨c,h4,h5⟩:=au h3;cases h5;exact ⟨_,by simp only [aJ,gu,qF,hx.iL,hi.dV,h2,ob,h4],aV H hn hm (.int _ _)⟩
  ·cases h1
 | vI len z ag x i =>
  simp only [jh,qzq] at ho;obtain ⟨v,u,h1,rfl⟩:=bJ hs;have hx:=he.opd ho.1;have hi:=he.opd ho.2;simp only [Ey] at h1;split at h1
  ·rename_i cs k q hc1 hc2;rw [hc1] at hx;rw [hc2] at hi;obtain ⟨j,h2,h3⟩:=au h1;split at h3
   ·rename_i hj;obtain ⟨cs',q,hr⟩:=hx.nH;obtain ⟨v',h4,h5⟩:=vO (hr.drop _) (nR h3);exact ⟨_,by simp only [aJ,gu,Ey,q,hi.dV,h2,ob,qwz hj];exact vG h4,aV H hn hm h5⟩
   ·cases h3
  ·cases h1
 | look kd z ok mp k =>
  simp only [jh,qzq] at ho;simp only [stepW,Xw] at hs;split at hs
  ·rename_i hk;have hmp:=he.opd ho.2.1;have hkk:=zV (he.opd ho.2.2) hk;have hz:=U6 (ρ:=ρ) (V:=V) (A:=A) z ho.1;split at hs
   ·rename_i hc;cases hs;rw [hc] at hmp;cases hnm:(erO mp).ev e' <;> rw [hnm] at hmp <;> cases hmp;exact ⟨_,by simp only [aJ,gu,KR,hkk,qwz hk,hnm],aV H hn hm (TB hz (r:=none) (r':=none) trivial ok)⟩
   ·rename_i b hc;rw [hc] at hmp;obtain ⟨q,hA,hV⟩:=hmp.yJ;obtain ⟨v,h1,rfl⟩:=JK hs;unfold Nc at h1;split at h1
    ·rename_i es hg;obtain ⟨r,h2,rfl⟩:=aB h1;obtain ⟨o',g1,es',rfl,hr⟩:=H.obj b _ hg hV;obtain ⟨r',h3,h4⟩:=aaY (A:=A) hr h2;refine ⟨_,by simp only [aJ,gu,KR,hkk,qwz hk,q,g1,lookIn,h3,om,ov],aV H hn hm (TB hz h4 ok)⟩
    ·cases h1
   ·cases hs
  ·cases hs
 | upd kd mp k v =>
  simp only [jh,qzq] at ho;simp only [stepW,ahy] at hs;split at hs
  ·rename_i hk;have hmp:=he.opd ho.1;have hkk:=zV (he.opd ho.2.1) hk.1;have hv:=(he.opd ho.2.2).isD (ρ':=ρ) (V':=V) (A':=λ_=>False) hk.2;split at hs
   ·rename_i b hc;rw [hc] at hmp;obtain ⟨q,hA,hV⟩:=hmp.yJ;unfold VO at hs;split at hs
    ·rename_i es hg;obtain ⟨r,h2,rfl⟩:=aB hs;obtain ⟨o',g1,es',rfl,hr⟩:=H.obj b _ hg hV;obtain ⟨r',h3,h4⟩:=aaK hr hv h2;refine ⟨_,by simp only [aJ,gu,agd,hkk,qwz hk.1,q,g1,ac4,h3,om];rfl,VW.l7 .nil,?_,wro hA hV⟩;exact HW.up (oQ H hA hV ⟨_,rfl,h4⟩) hn hm
    ·cases hs
   ·cases hs
  ·cases hs
 | range x =>
  simp only [stepW,Vt] at hs;have hx:=he.opd (x:=x) ho;split at hs
  ·rename_i s hc;cases hs;rw [hc] at hx;refine ⟨(.ptr m 0 0,[(m,some (.iter s 0))]),by simp only [aJ,gu,QG,hx.iL],?_,pz H hn hm (show OW _ _ _ (.iter s 0) (.iter s 0) from rfl),wrn⟩;have:=VW.ptr (ρ:=up ρ n m) (V:=V) (A:=addN A n) n 0 0 (.inr rfl) hVn;rw [un] at this;exact this
  ·cases hs
 | next x =>
  simp only [stepW,X3] at hs;have hx:=he.opd (x:=x) ho;split at hs
  ·rename_i b hc;rw [hc] at hx;obtain ⟨q,hA,hV⟩:=hx.jl;unfold DY at hs;split at hs
   ·rename_i s pos hg;obtain ⟨o',g1,rfl⟩:=H.obj b _ hg hV;split at hs
    ·rename_i hp;cases hs;refine ⟨_,by simp only [aJ,gu,TW,q,g1,nextIter,qwz hp];rfl,VW.l7 (.cons (.bool _) (.cons (.int _ _) (.cons (.int _ _) .nil))),?_,wro hA hV⟩;exact HW.up (oQ H hA hV rfl) hn hm
    ·rename_i hp;cases hs;exact ⟨_,by simp only [aJ,gu,TW,q,g1,nextIter,qwq hp],aV H hn hm (VW.l7 (.cons (.bool _) .nil))⟩
   ·cases hs
  ·cases hs
 | ext i x =>
  obtain ⟨v,u,h1,rfl⟩:=bJ hs;have hx:=he.opd (x:=x) ho;simp only [Rz] at h1;split at h1
  ·rename_i vs hc;rw [hc] at hx;obtain ⟨vs',q,hr⟩:=hx.uJ;obtain ⟨v',h2,h3⟩:=hr.get (nR h1);exact ⟨_,by simp only [aJ,gu,Rz,q];exact vG h2,aV H hn hm h3⟩
  ·cases h1
 | len kd x =>
  obtain ⟨v,h1,rfl⟩:=JK hs;have hx:=he.opd (x:=x) ho;have key:oz kd h' ((erO x).ev e')=some v/\VW ρ V A v v:=by
   cases hxe:x.ev e with
   | str s=>rw [hxe] at hx h1;rw [hx.iL];simp only [rC] at h1;split at h1 <;> cases h1;exact ⟨by simp only [oz];rw [qwz];assumption,.int _ _⟩
   | bF =>rw [hxe] at hx h1;cases hnm:(erO x).ev e' <;> rw [hnm] at hx <;> cases hx;simp only [rC] at h1;split at h1 <;> cases h1;exact ⟨by simp only [oz];rw [qwz];assumption,.int _ _⟩
   | dU =>rw [hxe] at hx h1;cases hnm:(erO x).ev e' <;> rw [hnm] at hx <;> cases hx;simp only [rC] at h1;split at h1 <;> cases h1;exact ⟨by simp only [oz];rw [qwz];assumption,.int _ _⟩
   | ro z es ex =>
    rw [hxe] at hx h1;simp only [rC] at h1;split at h1 <;> cases h1;rcases hx.mO with ⟨rfl,q⟩ | ⟨es',ex',q,_,hr,_⟩
    ·rw [q];exact ⟨by simp only [oz];rw [qwz];rfl;assumption,.int _ _⟩
    ·rw [q];exact ⟨by simp only [oz,<- hr.1];rw [qwz];assumption,.int _ _⟩
   | sl b z i len cap ex =>
    rw [hxe] at hx h1;simp only [rC] at h1;split at h1 <;> cases h1;rcases hx.jY with ⟨_,_,ex',q,_⟩ | ⟨_,_,_,rfl,_,q⟩
    ·rw [q];exact ⟨by simp only [oz];rw [qwz];assumption,.int _ _⟩
    ·rcases q with q | q
     ·rw [q];exact ⟨by simp only [oz];rw [qwz];rfl;assumption,.int _ _⟩
     ·rw [q];exact ⟨by simp only [oz,qaj];rw [qwz];assumption,.int _ _⟩
   | map b =>
    rw [hxe] at hx h1;obtain ⟨q,hA,hV⟩:=hx.yJ;simp only [rC] at h1;split at h1
    ·rename_i hk;unfold MP at h1;split at h1
     ·rename_i es hg;cases h1;obtain ⟨o',g1,es',rfl,hr⟩:=H.obj b _ hg hV;exact ⟨by simp only [q,oz,qwz hk,g1,Wy,hr.1],.int _ _⟩
     ·cases h1
    ·cases h1
   | _=>rw [hxe] at h1;simp [rC] at h1
  exact ⟨_,vG key.1,aV H hn hm key.2⟩
 | cap x =>
  obtain ⟨v,u,h1,rfl⟩:=bJ hs;have hx:=he.opd (x:=x) ho;have h1:=nR h1;have key:y7 ((erO x).ev e')=some v/\VW ρ V A v v:=by
   cases hxe:x.ev e with
   | bF =>rw [hxe] at hx h1;cases hnm:(erO x).ev e' <;> rw [hnm] at hx <;> cases hx;simp only [y7] at h1;cases h1;exact ⟨rfl,.int _ _⟩
   | ro z es ex =>
    rw [hxe] at hx h1;simp only [y7] at h1;split at h1 <;> cases h1;rename_i hex;rcases hx.mO with ⟨rfl,q⟩ | ⟨es',ex',q,hxx,hr,_⟩
    ·rw [q];exact ⟨rfl,.int _ _⟩
    ·rw [q];exact ⟨by simp only [y7,hxx hex,qQx,<- hr.1],.int _ _⟩
   | sl b z i len cap ex =>
    rw [hxe] at hx h1;simp only [y7] at h1;split at h1 <;> cases h1;rename_i hex;rcases hx.jY with ⟨_,_,ex',q,hxx⟩ | ⟨_,_,_,_,rfl,q⟩
    ·rw [q];exact ⟨by simp only [y7,hxx hex,qQx],.int _ _⟩
    ·rcases q with q | q
     ·rw [q];exact ⟨rfl,.int _ _⟩
     ·rw [q];exact ⟨rfl,.int _ _⟩
   | _=>rw [hxe] at h1;simp [y7] at h1
  exact ⟨_,vG key.1,aV H hn hm key.2⟩
 | app z bytes zeros s x =>
  simp only [jh,qzq] at ho;simp only [stepW,Ur] at hs;have hz:=zK (ρ:=ρ) (V:=V) (A:=A) z ho.1;have hss:=he.opd ho.2.1;have hx:=he.opd ho.2.2;split at hs
  ·rename_i hzz;split at hs
   ·rename_i k q hc;rw [hc] at hx;obtain ⟨j,h1,h2⟩:=au hs;split at h2
    ·rename_i hb;obtain ⟨r',h3,h4⟩:=TJ H hn hm hss (bC.replicate hz j) (λq e he x hx=>by rw [qgz he] at hx;exact allC q x hx) h2;exact ⟨r',by simp only [aJ,gu,U7,qwz hzz,hx.dV,h1,ob,qwz hb,<- hz.1];exact h3,h4⟩
    ·cases h2
   ·cases hs
  ·rename_i hzz;obtain ⟨⟨xs,d⟩,h1,h2⟩:=au hs;obtain ⟨xs',h3,h4,h5⟩:=Q9 H hx h1;obtain ⟨r',h6,h7⟩:=TJ H hn hm hss h4 h5 h2;exact ⟨r',by simp only [aJ,gu,U7,qwq hzz,<- hz.1,h3,ob];exact h6,h7⟩
 | cpy z d s =>
  simp only [jh,qzq] at ho;simp only [stepW,aaX] at hs;have hd:=he.opd ho.1;have hss:=he.opd ho.2;obtain ⟨⟨xs,dd⟩,h1,h2⟩:=au hs;obtain ⟨xs',h3,h4,h5⟩:=Q9 H hss h1;simp only [aJ,gu,afL,h3,ob];cases hde:d.ev e with
  | bF =>rw [hde] at hd h2;cases hnm:(erO d).ev e' <;> rw [hnm] at hd <;> cases hd;simp only [qR,qwx] at h2;subst h2;exact ⟨_,rfl,aV H hn hm (.int _ _)⟩
  | sl b z' i len cap ex =>
   rw [hde] at hd h2;simp only [qR] at h2;split at h2
   ·rename_i hzz;subst hzz;split at h2
    ·rename_i hmin;cases h2;rcases hd.jY with ⟨_,_,ex',q,_⟩ | ⟨hA,hV,rfl,rfl,rfl,q⟩
     ·exact ⟨_,by simp only [q,uD,qQx,<- h4.1,qwz hmin],aV H hn hm (.int _ _)⟩
     ·rcases q with q | q
      ·exact ⟨_,by simp only [q,uD],aV H hn hm (.int _ _)⟩
      ·exact ⟨_,by simp only [q,uD],aV H hn hm (.int _ _)⟩
    ·rename_i hmin;rcases hd.jY with ⟨hA,hV,ex',q,_⟩ | ⟨_,_,_,rfl,_,_⟩
     ·unfold Oy at h2;split at h2
      ·rename_i zb es mu dt hg;split at h2
       ·rename_i hc;cases h2;obtain ⟨o',g1,es',mu',rfl,gm,ge,gd⟩:=H.obj b _ hg hV;refine ⟨_,by simp only [q,uD,qQx,<- h4.1,qwq hmin,g1,WT];rw [qwz ⟨gm hc.1,hc.2.1,by rw [<- ge.1];exact hc.2.2⟩],?_,?_,wro hA hV⟩
        ·exact .int _ _
        ·refine HW.up (oQ H hA hV ?_) hn hm;refine ⟨_,true,rfl,λ_=>rfl,(ge.take _).append ((h4.take _).append (ge.drop _)),λq e he x hx=>?_⟩;simp only [qzq] at q;rcases qjj.1 he with q3 | q3
         ·exact gd q.1 e (qZz q3) x hx
         ·rcases qjj.1 q3 with q3 | q3
          ·exact h5 q.2 e (qZz q3) x hx
          ·exact gd q.1 e (qQz q3) x hx
       ·cases h2
      ·cases h2
     ·simp at hmin
   ·cases h2
  | _=>rw [hde] at h2;simp [qR] at h2
 | clr z d =>
  simp only [jh,qzq] at ho;simp only [stepW,agQ] at hs;have hz:=zK (ρ:=ρ) (V:=V) (A:=A) z ho.1;have hd:=he.opd ho.2;simp only [aJ,gu,agH];cases hde:d.ev e with
  | bF =>rw [hde] at hd hs;cases hnm:(erO d).ev e' <;> rw [hnm] at hd <;> cases hd;simp only [DR,qwx] at hs;subst hs;exact ⟨_,rfl,aV H hn hm (.l7 ⟨rfl,by simp⟩)⟩
  | sl b z' i len cap ex =>
   rw [hde] at hd hs;simp only [DR] at hs;split at hs
   ·rename_i hzz;split at hs
    ·rename_i h0;cases hs;rcases hd.jY with ⟨_,_,ex',q,_⟩ | ⟨hA,hV,rfl,rfl,rfl,q⟩
     ·exact ⟨_,by simp only [q,Ig,<- hz.1,qwz hzz,qwz h0],aV H hn hm (.l7 ⟨rfl,by simp⟩)⟩
     ·rcases q with q | q
      ·exact ⟨_,by simp only [q,Ig],aV H hn hm (.l7 ⟨rfl,by simp⟩)⟩
      ·exact ⟨_,by simp only [q,Ig],aV H hn hm (.l7 ⟨rfl,by simp⟩)⟩
    ·rename_i h0;rcases hd.jY with ⟨hA,hV,ex',q,_⟩ | ⟨_,_,_,rfl,_,_⟩
     ·unfold VZ at hs;split at hs
      ·rename_i zb es mu dt hg;split at hs
       ·rename_i hc;cases hs;obtain ⟨o',g1,es',mu',rfl,gm,ge,gd⟩:=H.obj b _ hg hV;refine ⟨_,by simp only [q,Ig,<- hz.1,qwz hzz,qwq h0,g1,ae9];rw [qwz ⟨gm hc.1,hc.2.1,by rw [<- ge.1];exact hc.2.2⟩],?_,?_,wro hA hV⟩
        ·exact .l7 ⟨rfl,by simp⟩
        ·refine HW.up (oQ H hA hV ?_) hn hm;refine ⟨_,true,rfl,λ_=>rfl,(ge.take _).append ((bC.replicate hz len).append (ge.drop _)),λq e he x hx=>?_⟩;simp only [qzq] at q;rcases qjj.1 he with q3 | q3
         ·exact gd q.1 e (qZz q3) x hx
         ·rcases qjj.1 q3 with q3 | q3
          ·rw [qgz q3] at hx;exact allC q.2 x hx
          ·exact gd q.1 e (qQz q3) x hx
       ·cases hs
      ·cases hs
     ·simp at h0
   ·cases hs
  | _=>rw [hde] at hs;simp [DR] at hs
 | mx x y =>
  simp only [jh,qzq] at ho;obtain ⟨v,u,h1,rfl⟩:=bJ hs;have hx:=he.opd ho.1;have hy:=he.opd ho.2;simp only [sMx] at h1;split at h1
  ·rename_i k a k' b hc1 hc2;rw [hc1] at hx;rw [hc2] at hy;split at h1
   ·rename_i hk;cases h1;exact ⟨_,by simp only [aJ,gu,sMx,hx.dV,hy.dV,qwz hk],aV H hn hm (.int _ _)⟩
   ·cases h1
  ·cases h1
 | mn x y =>
  simp only [jh,qzq] at ho;obtain ⟨v,u,h1,rfl⟩:=bJ hs;have hx:=he.opd ho.1;have hy:=he.opd ho.2;simp only [sMn] at h1;split at h1
  ·rename_i k a k' b hc1 hc2;rw [hc1] at hx;rw [hc2] at hy;split at h1
   ·rename_i hk;cases h1;exact ⟨_,by simp only [aJ,gu,sMn,hx.dV,hy.dV,qwz hk],aV H hn hm (.int _ _)⟩
   ·cases h1
  ·cases h1
 | call f args=>simp [stepW] at hs
 | dN g args=>simp [stepW] at hs
 | fail=>simp [stepW] at hs
end
end Go.Pw
end
section
set_option linter.unusedSimpArgs false
set_option linter.unusedVariables false
namespace Go.Pw
open Go Go.Pav
section
variable {ρ:Nat->Nat} {V A:Nat->Prop} {h:aG} {h':Heap}
theorem gI {α β:Type} {R:α->β->Prop} {f:α->Option α} {g:β->Option β} {T:α->β->Prop} (hf:∀ x y,R x y->∀ x',f x=some x'->∃ y',g y=some y'/\T x' y') :
 ∀ {l:List α} {l':List β} {r:List α},bC R l l'->aZ f l=some r->∃ r',aZ g l'=some r'/\bC T r r':=by
 intro l;induction l with
 | nil=>intro l' r hr h;rw [hr.eU];simp only [aZ,qwx] at h;subst h;exact ⟨[],rfl,.nil⟩
 | cons a l ih =>intro l' r hr h;obtain ⟨b,t,rfl,h1,h2⟩:=hr.dK;simp only [aZ] at h |-;obtain ⟨x',h3,h⟩:=au h;obtain ⟨xs',h4,rfl⟩:=aB h;obtain ⟨y',h5,h6⟩:=hf _ _ h1 _ h3;obtain ⟨ys',h7,h8⟩:=ih h2 h4;exact ⟨y'::ys',by rw [h5,h7];rfl,.cons h6 h8⟩
theorem X6 {x u:AV} (hx:VW ρ V A x u) (hc:isC x=true) (n:Nat):frz h' (n+1) u=some u:=by
 cases hx with
 | fn f cs cs' hl hr =>
  cases cs with
  | nil =>have:cs'=[]:=qXj.1 (by simpa using hl.symm);subst this;rfl
  | cons a r=>simp [isC] at hc
 | undef=>simp [isC] at hc
 | ptr=>simp [isC] at hc
 | sl=>simp [isC] at hc
 | slv=>simp [isC] at hc
 | map=>simp [isC] at hc
 | agg=>simp [isC] at hc
 | tup=>simp [isC] at hc
 | _=>rfl
theorem Qq {α:Type} {f:α->Option α}:∀ {l:List α},(∀ x ∈ l,f x=some x)->aZ f l=some l:=by
 intro l;induction l with
 | nil=>intro _;rfl
 | cons a l ih =>intro h;simp only [aZ,h a qXq,ob,ih (λx hx=>h x (qyz _ hx)),om]
theorem H8 (H:HW ρ V A h h'):∀ (n:Nat) (v u v':AV),VW ρ V A v u->bK h n v=some v'->∃ u',frz h' n u=some u'/\VD ρ V v' u':=by
 intro n;induction n with
 | zero=>intro v u v' _ hf;simp [bK] at hf
 | succ n ih =>
  intro v u v' hv hf;cases v with
  | undef=>simp [bK] at hf
  | bool b=>simp only [bK] at hf;cases hf;rw [hv.fU];exact ⟨_,rfl,.bool b⟩
  | int k x=>simp only [bK] at hf;cases hf;rw [hv.dV];exact ⟨_,rfl,.int k x⟩
  | str s=>simp only [bK] at hf;cases hf;rw [hv.iL];exact ⟨_,rfl,.str s⟩
  | eH=>simp only [bK] at hf;cases hf;cases hv;exact ⟨_,rfl,.eH⟩
  | bF=>simp only [bK] at hf;cases hf;cases hv;exact ⟨_,rfl,.bF⟩
  | dU=>simp only [bK] at hf;cases hf;cases hv;exact ⟨_,rfl,.dU⟩
  | bQ=>simp only [bK] at hf;cases hf;cases hv;exact ⟨_,rfl,.bQ⟩
  | ro z es ex =>
   simp only [bK] at hf;cases hf;have hd:VW ρ V (λ_=>False) (.ro z es ex) u:=hv.isC rfl;rcases hv.mO with ⟨rfl,rfl⟩ | ⟨es',ex',rfl,_,_,_⟩
   ·exact ⟨_,rfl,hd⟩
   ·exact ⟨_,rfl,hd⟩
  | rop cs =>simp only [bK] at hf;cases hf;have hd:VW ρ V (λ_=>False) (.rop cs) u:=hv.isC rfl;obtain ⟨cs',rfl,_⟩:=hv.uT;exact ⟨_,rfl,hd⟩
  | ptr b i o =>
   simp only [bK] at hf;split at hf
   ·rename_i zb es mu dt hg;obtain ⟨rfl,hA,hV⟩:=hv.jl;obtain ⟨o',g1,es',mu',rfl,_,ge,gd⟩:=H.obj b _ hg hV;obtain ⟨cs,hcs,hf⟩:=au hf;obtain ⟨cs',hcs',hce⟩:=ge.get hcs;simp only [frz,g1,hcs',Pav.ob];split at hf
    ·rename_i hdt;split at hf
     ·cases hf
     ·rename_i hn0;cases hf;obtain ⟨k,rfl⟩:∃ k,n=k+1:=⟨n - 1,by omega⟩;have hsub:∀ x ∈ cs.drop o,isC x=true:=λx hx=>gd hdt cs (qzx hcs) x (qQz hx);have grel:=hce.drop o;have hid:aZ (frz h' (k+1)) (cs'.drop o)=some (cs'.drop o):=by refine Qq λx' hx'=>?_;obtain ⟨c,hc,q4⟩:=qvx hx';obtain ⟨x,q5,q6⟩:=grel.get' (qqj hc);rw [q4] at q6;exact X6 q6 (hsub x (qzx q5)) k
      refine ⟨_,by rw [hid];rfl,?_⟩;exact VW.TA (grel.mono λx x' hx hxx=>hxx.isC (hsub x hx))
    ·obtain ⟨cs2,h1,rfl⟩:=aB hf;obtain ⟨r',h2,h3⟩:=gI (λa b hab a' ha'=>ih a b a' hab ha') (hce.drop o) h1;exact ⟨_,by rw [h2];rfl,VW.TA h3⟩
   ·cases hf
  | map b=>simp [bK] at hf
  | sl b z i len cap ex =>
   simp only [bK] at hf;split at hf
   ·rename_i zb es mu dt hg;rcases hv.jY with ⟨hA,hV,ex',rfl,hx⟩ | ⟨hA,hV,rfl,rfl,rfl,hu⟩
    ·obtain ⟨o',g1,es',mu',rfl,_,ge,gd⟩:=H.obj b _ hg hV;simp only [frz,g1];split at hf
     ·rename_i hdt;split at hf
      ·cases hf
      ·rename_i hn0;obtain ⟨hlen,hf⟩:=yP hf;cases hf;simp only [qvj] at hlen;obtain ⟨k,rfl⟩:∃ k,n=k+1:=⟨n - 1,by omega⟩;have hsub:∀ e ∈ (es.drop i).take len,∀ x ∈ e,isC x=true:=λe he x hx=>gd hdt e (qQz (qZz he)) x hx;have grel:=(ge.drop i).take len;have hid:aZ (aZ (frz h' (k+1))) ((es'.drop i).take len)=some ((es'.drop i).take len):=by refine Qq λe' he'=>Qq λx' hx'=>?_;obtain ⟨a,ha,q1⟩:=qvx he';obtain ⟨e,q2,q3⟩:=grel.get' (qqj ha);rw [q1] at q3;obtain ⟨c,hc,q4⟩:=qvx hx';obtain ⟨x,q5,q6⟩:=q3.get' (qqj hc);rw [q4] at q6;exact X6 q6 (hsub e (qzx q2) x (qzx q5)) k
       refine ⟨_,by rw [hid];simp only [ob,og,<- grel.1,hlen,q7z];rfl,?_⟩;refine VW.aa3 (grel.mono λe e' he hee=>hee.mono λx x' hx hxx=>hxx.isC (hsub e he x hx)) hsub ?_;simp only [qzq];exact λq=>⟨hx q.1,q.2⟩
     ·obtain ⟨es2,h1,hf⟩:=au hf;obtain ⟨hlen,hf⟩:=yP hf;cases hf;simp only [qzq,qvj,qjx] at hlen;obtain ⟨r',h2,h3⟩:=gI (R:=bC (VW ρ V A)) (g:=aZ (frz h' n)) (T:=bC (VD ρ V)) (λx y hxy x' hx'=>gI (λa b hab a' ha'=>ih a b a' hab ha') hxy hx') ((ge.drop i).take len) h1;refine ⟨_,by rw [h2];simp only [ob,og,<- h3.1,hlen.1,q7z];rfl,?_⟩;refine VW.aa3 h3 hlen.2 ?_;simp only [qzq];exact λq=>⟨hx q.1,q.2⟩
    ·obtain ⟨z2,mu2,dt2,q⟩:=H.uZ b _ hg hV;cases q;have hv':∃ ex2,v'=.ro z [] ex2:=by
      split at hf
      ·split at hf
       ·cases hf
       ·obtain ⟨_,hf⟩:=yP hf;cases hf;exact ⟨_,rfl⟩
      ·obtain ⟨es2,h1,hf⟩:=au hf;simp only [zwj,zwx,aZ,qwx] at h1;subst h1;obtain ⟨_,hf⟩:=yP hf;cases hf;exact ⟨_,rfl⟩
     obtain ⟨ex2,rfl⟩:=hv';rcases hu with rfl | rfl
     ·exact ⟨_,rfl,.jP _ _⟩
     ·exact ⟨_,rfl,VW.aa3 .nil (λ_ h=>by cases h) (λ_=>rfl)⟩
   ·cases hf
  | fn f caps =>obtain ⟨cs',rfl,hr⟩:=hv.zI;simp only [bK] at hf;obtain ⟨cs,h1,rfl⟩:=aB hf;obtain ⟨r',h2,h3⟩:=gI (λa b hab a' ha'=>ih a b a' hab ha') hr h1;exact ⟨_,by simp only [frz,h2];rfl,VW.iW h3⟩
  | agg caps =>obtain ⟨cs',rfl,hr⟩:=hv.nH;simp only [bK] at hf;obtain ⟨cs,h1,rfl⟩:=aB hf;obtain ⟨r',h2,h3⟩:=gI (λa b hab a' ha'=>ih a b a' hab ha') hr h1;exact ⟨_,by simp only [frz,h2];rfl,VW.L6 h3⟩
  | tup caps =>obtain ⟨cs',rfl,hr⟩:=hv.uJ;simp only [bK] at hf;obtain ⟨cs,h1,rfl⟩:=aB hf;obtain ⟨r',h2,h3⟩:=gI (λa b hab a' ha'=>ih a b a' hab ha') hr h1;exact ⟨_,by simp only [frz,h2];rfl,VW.l7 h3⟩
theorem xZ {x u:AV} (hx:VW ρ V A x u) (hc:isC x=true):∀ n,reach h' n u=[]:=by
 intro n;cases n with
 | zero=>rfl
 | succ n =>
  cases hx with
  | fn f cs cs' hl hr =>
   cases cs with
   | nil =>have:cs'=[]:=qXj.1 (by simpa using hl.symm);subst this;rfl
   | cons a r=>simp [isC] at hc
  | undef=>simp [isC] at hc
  | ptr=>simp [isC] at hc
  | sl=>simp [isC] at hc
  | slv=>simp [isC] at hc
  | map=>simp [isC] at hc
  | agg=>simp [isC] at hc
  | tup=>simp [isC] at hc
  | _=>rfl
theorem Ht (H:HW ρ V A h h'):∀ (n:Nat) (v u v':AV),VW ρ V A v u->bK h n v=some v'->∀ b' ∈ reach h' n u,∃ b ∈ aK h n v,b'=ρ b/\¬ V b/\A b/\∃ z es mu dt,get h b=some (.cells z es mu dt):=by
 intro n;induction n with
 | zero=>intro v u v' _ _ b hb;simp [reach] at hb
 | succ n ih =>
  have lst:∀ {l l' r:List AV},bC (VW ρ V A) l l'->aZ (bK h n) l=some r->∀ b' ∈ l'.flatMap (reach h' n),∃ b ∈ l.flatMap (aK h n),b'=ρ b/\¬ V b/\A b/\∃ z es mu dt,get h b=some (.cells z es mu dt):=by intro l l' r hr hm b' hb';simp only [qkx] at hb' |-;obtain ⟨u,hu,hb'⟩:=hb';obtain ⟨j,hj,q1⟩:=qvx hu;obtain ⟨v,q2,q3⟩:=hr.get' (qqj hj);rw [q1] at q3;obtain ⟨v',_,q4⟩:=(dB hm).2 j v q2;obtain ⟨b,q5,q6⟩:=ih v u v' q3 q4 b' hb';exact ⟨b,⟨v,qzx q2,q5⟩,q6⟩
  intro v u v' hv hf b' hb';cases v with
  | undef=>simp [bK] at hf
  | bool b=>rw [hv.fU] at hb';simp [reach] at hb'
  | int k x=>rw [hv.dV] at hb';simp [reach] at hb'
  | str s=>rw [hv.iL] at hb';simp [reach] at hb'
  | eH=>cases hv;simp [reach] at hb'
  | bF=>cases hv;simp [reach] at hb'
  | dU=>cases hv;simp [reach] at hb'
  | bQ=>cases hv;simp [reach] at hb'
  | ro z es ex=>rw [xZ hv rfl] at hb';cases hb'
  | rop cs=>rw [xZ hv rfl] at hb';cases hb'
  | ptr b i o =>
   simp only [bK] at hf;split at hf
   ·rename_i zb es mu dt hg;obtain ⟨rfl,hA,hV⟩:=hv.jl;obtain ⟨o',g1,es',mu',rfl,_,ge,gd⟩:=H.obj b _ hg hV;obtain ⟨cs,hcs,hf⟩:=au hf;obtain ⟨cs',hcs',hce⟩:=ge.get hcs;simp only [reach,g1,hcs',qYx,qkq] at hb';rcases hb' with rfl | hb'
    ·exact ⟨b,by simp [aK],rfl,hV,hA,_,_,_,_,hg⟩
    ·split at hf
     ·rename_i hdt;exfalso;simp only [qkx] at hb';obtain ⟨x',hx',hb'⟩:=hb';obtain ⟨c,hc,q4⟩:=qvx hx';obtain ⟨x,q5,q6⟩:=(hce.drop o).get' (qqj hc);rw [q4] at q6;have:=gd hdt cs (qzx hcs) x (qQz (qzx q5));rw [xZ q6 this] at hb';cases hb'
     ·rename_i hdt;obtain ⟨cs2,h1,rfl⟩:=aB hf;obtain ⟨b2,q5,q6⟩:=lst (hce.drop o) h1 b' hb';refine ⟨b2,?_,q6⟩;simp only [aK,hg,hcs,qYx,qkq];right;rw [qwq hdt];exact q5
   ·cases hf
  | map b=>simp [bK] at hf
  | sl b z i len cap ex =>
   simp only [bK] at hf;split at hf
   ·rename_i zb es mu dt hg;rcases hv.jY with ⟨hA,hV,ex',rfl,hx⟩ | ⟨hA,hV,rfl,rfl,rfl,hu⟩
    ·obtain ⟨o',g1,es',mu',rfl,_,ge,gd⟩:=H.obj b _ hg hV;simp only [reach,g1,qkq] at hb';rcases hb' with rfl | hb'
     ·exact ⟨b,by simp [aK],rfl,hV,hA,_,_,_,_,hg⟩
     ·split at hf
      ·rename_i hdt;exfalso;simp only [qkx] at hb';obtain ⟨e',he',x',hx',hb'⟩:=hb';obtain ⟨a,ha,q1⟩:=qvx he';obtain ⟨e,q2,q3⟩:=((ge.drop i).take len).get' (qqj ha);rw [q1] at q3;obtain ⟨c,hc,q4⟩:=qvx hx';obtain ⟨x,q5,q6⟩:=q3.get' (qqj hc);rw [q4] at q6;have:=gd hdt e (qQz (qZz (qzx q2))) x (qzx q5);rw [xZ q6 this] at hb';cases hb'
      ·rename_i hdt;obtain ⟨es2,h1,hf⟩:=au hf;simp only [qkx] at hb';obtain ⟨e',he',x',hx',hb'⟩:=hb';obtain ⟨a,ha,q1⟩:=qvx he';obtain ⟨e,q2,q3⟩:=((ge.drop i).take len).get' (qqj ha);rw [q1] at q3;obtain ⟨e2,_,q4⟩:=(dB h1).2 a e q2;obtain ⟨b2,q5,q6⟩:=lst q3 q4 b' (by simp only [qkx];exact ⟨x',hx',hb'⟩);refine ⟨b2,?_,q6⟩;simp only [aK,hg,qkq];right;rw [qwq hdt];simp only [qkx] at q5 |-;exact ⟨e,qzx q2,q5⟩
    ·rcases hu with rfl | rfl <;> simp [reach] at hb'
   ·cases hf
  | fn f caps =>obtain ⟨cs',rfl,hr⟩:=hv.zI;simp only [bK] at hf;obtain ⟨cs,h1,rfl⟩:=aB hf;simp only [reach] at hb';obtain ⟨b,q⟩:=lst hr h1 b' hb';exact ⟨b,by simpa only [aK] using q⟩
  | agg caps =>obtain ⟨cs',rfl,hr⟩:=hv.nH;simp only [bK] at hf;obtain ⟨cs,h1,rfl⟩:=aB hf;simp only [reach] at hb';obtain ⟨b,q⟩:=lst hr h1 b' hb';exact ⟨b,by simpa only [aK] using q⟩
  | tup caps =>obtain ⟨cs',rfl,hr⟩:=hv.uJ;simp only [bK] at hf;obtain ⟨cs,h1,rfl⟩:=aB hf;simp only [reach] at hb';obtain ⟨b,q⟩:=lst hr h1 b' hb';exact ⟨b,by simpa only [aK] using q⟩
theorem ZE:∀ (n:Nat) (v u:AV),VD ρ V v u->fP n u=true->dG n v=true:=by
 intro n;induction n with
 | zero=>intro v u _ _;rfl
 | succ n ih =>
  have lst:∀ {l l':List AV},bC (VD ρ V) l l'->l'.any (fP n)=true->l.any (dG n)=true:=by intro l l' hr h;simp only [qhx] at h |-;obtain ⟨u,hu,h⟩:=h;obtain ⟨j,hj,q1⟩:=qvx hu;obtain ⟨v,q2,q3⟩:=hr.get' (qqj hj);rw [q1] at q3;exact ⟨v,qzx q2,ih v u q3 h⟩
  intro v u hv h;cases hv with
  | undef u=>rfl
  | fn f cs cs' hl hr=>simp only [fP] at h;simp only [dG];exact lst ⟨hl,hr⟩ h
  | agg cs cs' hl hr=>simp only [fP] at h;simp only [dG];exact lst ⟨hl,hr⟩ h
  | tup cs cs' hl hr=>simp only [fP] at h;simp only [dG];exact lst ⟨hl,hr⟩ h
  | ro=>rfl
  | rop=>rfl
  | jP=>rfl
  | ptr _ _ _ hA=>exact hA.elim
  | sl _ _ _ _ _ _ _ hA=>exact hA.elim
  | slv _ _ _ _ hA=>exact hA.elim
  | map _ hA=>exact hA.elim
  | _=>simp [fP] at h
theorem wJ (H:HW ρ V A h h'):∀ (L:List Nat) (L':List Nat),(∀ b' ∈ L',∃ b ∈ L,b'=ρ b/\¬ V b/\A b/\∃ z es mu dt,get h b=some (.cells z es mu dt)) ->
 HW ρ V A (bU h (aY h L)) (aQ h' (aW h' L'))/\∀ b' ∈ (aW h' L').map (·.1),∃ b ∈ (aY h L).map (·.1),b'=ρ b/\¬ V b/\A b:=by
 have getW:∀ (h0:aG) (L:List Nat) (g:aG),∀ c,get (bU g (aY h0 L)) c=if c ∈ L then (match get h0 c with | some (.cells z es _ dt)=>some (.cells z es false dt) | _=>get g c) else get g c:=by
  intro h0 L;induction L with
  | nil=>intro g c;simp [aY,bU]
  | cons b L ih =>
   intro g c;simp only [aY];split
   ·rename_i z es mu dt hg;simp only [bU,FU,ih,get_put,qkq];by_cases e:c=b
    ·subst e;simp only [hg,qQx,true_or];split <;> rfl
    ·simp only [e,zkj,qwq (qcj e)]
   ·rename_i hg;rw [ih];simp only [qkq];by_cases e:c=b
    ·subst e;simp only [true_or,qQx];have:(match get h0 c with | some (.cells z es _ dt)=>some (fC.cells z es false dt) | _=>get g c)=get g c:=by
      split
      ·rename_i z es mu dt hg2;exact absurd hg2 (hg z es mu dt)
      ·rfl
     first
      | (rw [this];split <;> rfl)
      | (split <;> rfl)
    ·simp only [e,zkj]
 have getP:∀ (h0:Heap) (L:List Nat) (g:Heap),∀ c,get (aQ g (aW h0 L)) c=if c ∈ L then (match get h0 c with | some (.cells z es _)=>some (.cells z es false) | _=>get g c) else get g c:=by
  intro h0 L;induction L with
  | nil=>intro g c;simp [aW,aQ]
  | cons b L ih =>
   intro g c;simp only [aW];split
   ·rename_i z es mu hg;simp only [aQ,uX,ih,get_put,qkq];by_cases e:c=b
    ·subst e;simp only [hg,qQx,true_or];split <;> rfl
    ·simp only [e,zkj,qwq (qcj e)]
   ·rename_i hg;rw [ih];simp only [qkq];by_cases e:c=b
    ·subst e;simp only [true_or,qQx];have:(match get h0 c with | some (.cells z es _)=>some (jr.cells z es false) | _=>get g c)=get g c:=by
      split
      ·rename_i z es mu hg2;exact absurd hg2 (hg z es mu)
      ·rfl
     first
      | (rw [this];split <;> rfl)
      | (split <;> rfl)
    ·simp only [e,zkj]
 have memW:∀ (h0:aG) (L:List Nat) (b:Nat),b ∈ L->(∃ z es mu dt,get h0 b=some (.cells z es mu dt))->b ∈ (aY h0 L).map (·.1):=by
  intro h0 L b;induction L with
  | nil=>intro hb;cases hb
  | cons a L ih =>
   intro hb hg;simp only [aY];rcases qkq.1 hb with rfl | hb
   ·obtain ⟨z,es,mu,dt,hg⟩:=hg;rw [hg];simp
   ·have:=ih hb hg;split
    ·simp only [qvz,qkq];exact .inr this
    ·exact this
 intro L L' hL;refine ⟨⟨λc o hc=>?_,λc o hc hv=>?_,λc o hc hv=>?_,H.sub,H.inj⟩,λb' hb'=>?_⟩
 ·rw [getW] at hc;split at hc
  ·split at hc
   ·rename_i hg;exact H.dom c _ hg
   ·exact H.dom c o hc
  ·exact H.dom c o hc
 ·rw [getW] at hc;split at hc
  ·split at hc
   ·rename_i hg;obtain ⟨z,mu,dt,q⟩:=H.uZ c _ hg hv;cases q;cases hc;exact ⟨_,_,_,rfl⟩
   ·exact H.uZ c o hc hv
  ·exact H.uZ c o hc hv
 ·have hA:A c:=by
   rw [getW] at hc;split at hc
   ·split at hc
    ·rename_i hg;exact H.dom c _ hg
    ·exact H.dom c o hc
   ·exact H.dom c o hc
  have inv:ρ c ∈ L'->c ∈ L:=by intro q;obtain ⟨b,q1,q2,q3,q4,_⟩:=hL _ q;rw [H.inj c b hA q4 hv q3 q2];exact q1
  rw [getW] at hc;by_cases hcL:c ∈ L
  ·rw [qwz hcL] at hc;split at hc
   ·rename_i z es mu dt hg;cases hc;obtain ⟨o',g1,es',mu',rfl,gm,ge,gd⟩:=H.obj c _ hg hv;rw [getP];split
    ·rw [g1];exact ⟨_,rfl,es',false,rfl,id,ge,gd⟩
    ·exact ⟨_,g1,es',mu',rfl,(λq=>by cases q),ge,gd⟩
   ·rename_i hng;obtain ⟨o',g1,g2⟩:=H.obj c o hc hv;refine ⟨o',?_,g2⟩;rw [getP];split
    ·rw [g1];cases o with
     | cells z es mu dt=>exact absurd hc (hng z es mu dt)
     | map es=>obtain ⟨es',rfl,_⟩:=g2;rfl
     | iter s p=>cases g2;rfl
    ·exact g1
  ·rw [qwq hcL] at hc;obtain ⟨o',g1,g2⟩:=H.obj c o hc hv;exact ⟨o',by rw [getP,qwq (λq=>hcL (inv q))];exact g1,g2⟩
 ·have key:∀ (h0:Heap) (L:List Nat) (b:Nat),b ∈ (aW h0 L).map (·.1)->b ∈ L/\∃ z es mu,get h0 b=some (.cells z es mu):=by
   intro h0 L b;induction L with
   | nil=>intro hb;simp [aW] at hb
   | cons a L ih =>
    intro hb;simp only [aW] at hb;split at hb
    ·rename_i z es mu hg;simp only [qvz,qkq] at hb;rcases hb with rfl | hb
     ·exact ⟨by simp,_,_,_,hg⟩
     ·exact ⟨qyz _ (ih hb).1,(ih hb).2⟩
    ·exact ⟨qyz _ (ih hb).1,(ih hb).2⟩
  obtain ⟨q1,z,es,mu,q2⟩:=key h' L' b' hb';obtain ⟨b,q3,rfl,q5,q6,q7⟩:=hL b' q1;exact ⟨b,memW h L b q3 q7,rfl,q5,q6⟩
end
end Go.Pw
end
section
set_option linter.unusedSimpArgs false
set_option linter.unusedVariables false
namespace Go.Pw
open Go Go.Pav
section
variable {ρ ρ2:Nat->Nat} {V A V2 A2:Nat->Prop} {b nid b' mid:Nat}
theorem Ir {R:AV->AV->Prop}:∀ (l l':List AV),l.length=l'.length->(∀ (j:Nat) (x x':AV),l[j]?=some x->l'[j]?=some x'->∀ y,hand b nid x=some y->∃ y',hand b' mid x'=some y'/\R y y') ->
 ∀ r,ou b nid l=some r->∃ r',ou b' mid l'=some r'/\bC R r r':=by
 intro l;induction l with
 | nil =>intro l' hl _ r hr;simp only [ou,qwx] at hr;subst hr;have:l'=[]:=qXj.1 hl.symm;subst this;exact ⟨[],rfl,.nil⟩
 | cons a l ih =>
  intro l' hl hh r hr;cases l' with
  | nil=>simp at hl
  | cons a' l' =>simp only [ou] at hr;obtain ⟨y,h1,hr⟩:=au hr;obtain ⟨ys,h2,rfl⟩:=aB hr;obtain ⟨y',h3,h4⟩:=hh 0 a a' qqz qqz y h1;obtain ⟨ys',h5,h6⟩:=ih l' (by simpa using hl) (λj x x' p q=>hh (j+1) x x' (by simpa using p) (by simpa using q)) ys h2;exact ⟨y'::ys',by simp only [ou,h3,h5,ob,om],.cons h4 h6⟩
theorem NI (hb:A b->(¬ V b/\b'=ρ b/\A2 nid/\¬ V2 nid/\ρ2 nid=mid)\/(V b/\A2 nid/\V2 nid)) {v u:AV} (hv:VW ρ V A v u):∀ v',hand b nid v=some v'->∃ u',hand b' mid u=some u'/\VW ρ2 V2 A2 v' u':=by
 have data:∀ {A:Nat->Prop} {x y:AV},isC x=true->VW ρ V A x y->VW ρ2 V2 A2 x y:=λhx h=>h.isC hx;induction hv with
 | undef v=>intro v' h;simp [hand] at h
 | bool t=>intro v' h;simp only [hand] at h;cases h;exact ⟨_,rfl,.bool t⟩
 | int k n=>intro v' h;simp only [hand] at h;cases h;exact ⟨_,rfl,.int k n⟩
 | str s=>intro v' h;simp only [hand] at h;cases h;exact ⟨_,rfl,.str s⟩
 | eH=>intro v' h;simp only [hand] at h;cases h;exact ⟨_,rfl,.eH⟩
 | bF=>intro v' h;simp only [hand] at h;cases h;exact ⟨_,rfl,.bF⟩
 | dU=>intro v' h;simp only [hand] at h;cases h;exact ⟨_,rfl,.dU⟩
 | bQ=>intro v' h;simp only [hand] at h;cases h;exact ⟨_,rfl,.bQ⟩
 | jP z ex=>intro v' h;simp only [hand] at h;cases h;exact ⟨_,rfl,.jP z ex⟩
 | ro z es es' ex ex' hc hl hx he hr _=>intro v' h;simp only [hand] at h;cases h;exact ⟨_,rfl,data rfl (VW.ro (A:=A) z es es' ex ex' hc hl hx he hr)⟩
 | rop cs cs' hl hr _=>intro v' h;simp only [hand] at h;cases h;exact ⟨_,rfl,data rfl (VW.rop (A:=A) cs cs' hl hr)⟩
 | ptr c i o hA hV =>
  intro v' h;simp only [hand] at h;split at h
  ·rename_i e;cases h;subst e;rcases hb hA with ⟨q1,q2,q3,q4,q5⟩ | ⟨q1,_⟩
   ·refine ⟨.ptr mid i o,by simp only [hand,q2,qQx],?_⟩;rw [<- q5];exact .ptr nid i o q3 q4
   ·exact absurd q1 hV
  ·cases h
 | sl c z i len cap ex ex' hA hV hx =>
  intro v' h;simp only [hand] at h;split at h
  ·rename_i e;cases h;subst e;rcases hb hA with ⟨q1,q2,q3,q4,q5⟩ | ⟨q1,_⟩
   ·refine ⟨.sl mid z i len cap ex',by simp only [hand,q2,qQx],?_⟩;rw [<- q5];exact .sl nid z i len cap ex ex' q3 q4 hx
   ·exact absurd q1 hV
  ·cases h
 | slv c z ex v hA hV hv =>
  intro v' h;simp only [hand] at h;split at h
  ·rename_i e;cases h;subst e;rcases hb hA with ⟨q1,_⟩ | ⟨_,q2,q3⟩
   ·exact absurd hV q1
   ·refine ⟨v,?_,.slv nid z ex v q2 q3 hv⟩;rcases hv with rfl | rfl <;> rfl
  ·cases h
 | map c hA hV=>intro v' h;simp [hand] at h
 | fn f cs cs' hl hr ih =>intro v' h;simp only [hand] at h;obtain ⟨r,h1,rfl⟩:=aB h;obtain ⟨r',h2,h3⟩:=Ir cs cs' hl (λj x x' p q y hy=>ih j x x' p q hb y hy) r h1;exact ⟨.fn f r',by simp only [hand,h2,om],.iW h3⟩
 | agg cs cs' hl hr ih =>intro v' h;simp only [hand] at h;obtain ⟨r,h1,rfl⟩:=aB h;obtain ⟨r',h2,h3⟩:=Ir cs cs' hl (λj x x' p q y hy=>ih j x x' p q hb y hy) r h1;exact ⟨.agg r',by simp only [hand,h2,om],.L6 h3⟩
 | tup cs cs' hl hr ih =>intro v' h;simp only [hand] at h;obtain ⟨r,h1,rfl⟩:=aB h;obtain ⟨r',h2,h3⟩:=Ir cs cs' hl (λj x x' p q y hy=>ih j x x' p q hb y hy) r h1;exact ⟨.tup r',by simp only [hand,h2,om],.l7 h3⟩
theorem alp (hA:A b) (hV:¬ V b) {v u:AV} (hv:VW ρ V A v u):∀ v',hand b nid v=some v'->(qG v=none/\qG u=none)\/(qG v=some b/\qG u=some (ρ b)):=by
 have lst:∀ (l l':List AV),l.length=l'.length->(∀ (j:Nat) (x x':AV),l[j]?=some x->l'[j]?=some x'->∀ y,hand b nid x=some y->(qG x=none/\qG x'=none)\/(qG x=some b/\qG x'=some (ρ b))) ->
  ∀ r,ou b nid l=some r->(jX l=none/\jX l'=none)\/(jX l=some b/\jX l'=some (ρ b)):=by
  intro l;induction l with
  | nil =>intro l' hl _ r hr;have:l'=[]:=qXj.1 hl.symm;subst this;exact .inl ⟨rfl,rfl⟩
  | cons a l ih =>
   intro l' hl hh r hr;cases l' with
   | nil=>simp at hl
   | cons a' l' =>
    simp only [ou] at hr;obtain ⟨y,h1,hr⟩:=au hr;obtain ⟨ys,h2,rfl⟩:=aB hr;rcases hh 0 a a' qqz qqz y h1 with ⟨q1,q2⟩ | ⟨q1,q2⟩
    ·rcases ih l' (by simpa using hl) (λj x x' p q=>hh (j+1) x x' (by simpa using p) (by simpa using q)) ys h2 with ⟨q3,q4⟩ | ⟨q3,q4⟩
     ·exact .inl ⟨by simp only [jX,q1,q3],by simp only [jX,q2,q4]⟩
     ·exact .inr ⟨by simp only [jX,q1,q3],by simp only [jX,q2,q4]⟩
    ·exact .inr ⟨by simp only [jX,q1],by simp only [jX,q2]⟩
 induction hv with
 | undef v=>intro v' h;simp [hand] at h
 | bool t=>intro v' h;exact .inl ⟨rfl,rfl⟩
 | int k n=>intro v' h;exact .inl ⟨rfl,rfl⟩
 | str s=>intro v' h;exact .inl ⟨rfl,rfl⟩
 | eH=>intro v' h;exact .inl ⟨rfl,rfl⟩
 | bF=>intro v' h;exact .inl ⟨rfl,rfl⟩
 | dU=>intro v' h;exact .inl ⟨rfl,rfl⟩
 | bQ=>intro v' h;exact .inl ⟨rfl,rfl⟩
 | jP z ex=>intro v' h;exact .inl ⟨rfl,rfl⟩
 | ro z es es' ex ex' hc hl hx he hr _=>intro v' h;exact .inl ⟨rfl,rfl⟩
 | rop cs cs' hl hr _=>intro v' h;exact .inl ⟨rfl,rfl⟩
 | ptr c i o hA' hV' =>
  intro v' h;simp only [hand] at h;split at h
  ·rename_i e;subst e;exact .inr ⟨rfl,rfl⟩
  ·cases h
 | sl c z i len cap ex ex' hA' hV' hx =>
  intro v' h;simp only [hand] at h;split at h
  ·rename_i e;subst e;exact .inr ⟨rfl,rfl⟩
  ·cases h
 | slv c z ex v hA' hV' hv =>
  intro v' h;simp only [hand] at h;split at h
  ·rename_i e;subst e;exact absurd hV' hV
  ·cases h
 | map c hA' hV'=>intro v' h;simp [hand] at h
 | fn f cs cs' hl hr ih=>intro v' h;simp only [hand] at h;obtain ⟨r,h1,rfl⟩:=aB h;exact lst cs cs' hl (λj x x' p q y hy=>ih j x x' p q hA y hy) r h1
 | agg cs cs' hl hr ih=>intro v' h;simp only [hand] at h;obtain ⟨r,h1,rfl⟩:=aB h;exact lst cs cs' hl (λj x x' p q y hy=>ih j x x' p q hA y hy) r h1
 | tup cs cs' hl hr ih=>intro v' h;simp only [hand] at h;obtain ⟨r,h1,rfl⟩:=aB h;exact lst cs cs' hl (λj x x' p q y hy=>ih j x x' p q hA y hy) r h1
theorem Xp (hb:A b->V b) {v u:AV} (hv:VW ρ V A v u):∀ v',hand b nid v=some v'->qG u=none:=by
 have lst:∀ (l l':List AV),l.length=l'.length->(∀ (j:Nat) (x x':AV),l[j]?=some x->l'[j]?=some x'->∀ y,hand b nid x=some y->qG x'=none) ->
  ∀ r,ou b nid l=some r->jX l'=none:=by
  intro l;induction l with
  | nil =>intro l' hl _ r hr;have:l'=[]:=qXj.1 hl.symm;subst this;rfl
  | cons a l ih =>
   intro l' hl hh r hr;cases l' with
   | nil=>simp at hl
   | cons a' l' =>simp only [ou] at hr;obtain ⟨y,h1,hr⟩:=au hr;obtain ⟨ys,h2,rfl⟩:=aB hr;have q1:=hh 0 a a' qqz qqz y h1;have q2:=ih l' (by simpa using hl) (λj x x' p q=>hh (j+1) x x' (by simpa using p) (by simpa using q)) ys h2;simp only [jX,q1,q2]
 induction hv with
 | undef v=>intro v' h;simp [hand] at h
 | bool t=>intro v' h;rfl
 | int k n=>intro v' h;rfl
 | str s=>intro v' h;rfl
 | eH=>intro v' h;rfl
 | bF=>intro v' h;rfl
 | dU=>intro v' h;rfl
 | bQ=>intro v' h;rfl
 | jP z ex=>intro v' h;rfl
 | ro z es es' ex ex' hc hl hx he hr _=>intro v' h;rfl
 | rop cs cs' hl hr _=>intro v' h;rfl
 | ptr c i o hA' hV' =>
  intro v' h;simp only [hand] at h;split at h
  ·rename_i e;subst e;exact absurd (hb hA') hV'
  ·cases h
 | sl c z i len cap ex ex' hA' hV' hx =>
  intro v' h;simp only [hand] at h;split at h
  ·rename_i e;subst e;exact absurd (hb hA') hV'
  ·cases h
 | slv c z ex v hA' hV' hv=>intro v' h;rcases hv with rfl | rfl <;> rfl
 | map c hA' hV'=>intro v' h;simp [hand] at h
 | fn f cs cs' hl hr ih=>intro v' h;simp only [hand] at h;obtain ⟨r,h1,rfl⟩:=aB h;exact lst cs cs' hl (λj x x' p q y hy=>ih j x x' p q hb y hy) r h1
 | agg cs cs' hl hr ih=>intro v' h;simp only [hand] at h;obtain ⟨r,h1,rfl⟩:=aB h;exact lst cs cs' hl (λj x x' p q y hy=>ih j x x' p q hb y hy) r h1
 | tup cs cs' hl hr ih=>intro v' h;simp only [hand] at h;obtain ⟨r,h1,rfl⟩:=aB h;exact lst cs cs' hl (λj x x' p q y hy=>ih j x x' p q hb y hy) r h1
theorem QZ {R:AV->AV->Prop}:∀ {l l':List AV},bC R l l'->(∀ x x',R x x'->iG x=true->iG x'=true)->nZ l=true->nZ l'=true:=by
 intro l;induction l with
 | nil=>intro l' h _ _;have:=h.eU;subst this;rfl
 | cons a l ih =>intro l' h hf hb;obtain ⟨b,r,rfl,h1,h2⟩:=h.dK;simp only [nZ,qzq] at hb |-;exact ⟨hf _ _ h1 hb.1,ih h2 hf hb.2⟩
theorem Gy {v u:AV} (hv:VW ρ V A v u):iG v=true->iG u=true:=by
 have lst:∀ (l l':List AV),l.length=l'.length->(∀ (j:Nat) (x x':AV),l[j]?=some x->l'[j]?=some x'->iG x=true->iG x'=true)->nZ l=true->nZ l'=true:=λl l' h1 h2 h3 =>QZ (R:=λx x'=>iG x=true->iG x'=true) ⟨h1,h2⟩ (λx x' h=>h) h3;induction hv with
 | undef v=>intro h;simp [iG] at h
 | jP z ex=>intro h;rfl
 | ro z es es' ex ex' hc hl hx he hr _ =>intro h;simp only [iG,qzq,qhj] at h |-;obtain ⟨rfl,rfl⟩:=h;exact ⟨qXj.1 hl.symm,hx rfl⟩
 | rop=>intro h;simp [iG] at h
 | slv c z ex v hA hV hv=>intro h;rcases hv with rfl | rfl <;> rfl
 | fn f cs cs' hl hr ih=>intro h;simp only [iG] at h |-;exact lst cs cs' hl (λj x x' p q=>ih j x x' p q) h
 | agg cs cs' hl hr ih=>intro h;simp only [iG] at h |-;exact lst cs cs' hl (λj x x' p q=>ih j x x' p q) h
 | tup cs cs' hl hr ih=>intro h;simp only [iG] at h |-;exact lst cs cs' hl (λj x x' p q=>ih j x x' p q) h
 | _=>intro h;rfl
theorem abx {l l':List AV} (h:bC (VW ρ V A) l l'):nZ l=true->nZ l'=true:=QZ h λ_ _ h=>Gy h
theorem Zu {x u:AV} (h:VW ρ V A x u) (hc:isC x=true):mD u=true:=by
 cases h with
 | undef=>simp [Pw.isC] at hc
 | ptr=>simp [Pw.isC] at hc
 | sl=>simp [Pw.isC] at hc
 | slv=>simp [Pw.isC] at hc
 | map=>simp [Pw.isC] at hc
 | agg=>simp [Pw.isC] at hc
 | tup=>simp [Pw.isC] at hc
 | fn f cs cs' hl hr =>
  cases cs with
  | nil =>have:cs'=[]:=qXj.1 hl.symm;subst this;rfl
  | cons a r=>simp [Pw.isC] at hc
 | _=>rfl
end
end Go.Pw
end
section
set_option linter.unusedSimpArgs false
set_option linter.unusedVariables false
namespace Go.Pw
open Go Go.Pav
section
variable {ρ:Nat->Nat} {V A:Nat->Prop} {h:aG} {h':Heap}
theorem Xy {L L':List Nat} (hLL:∀ b ∈ L,¬ V b->ρ b ∈ L') {v u:AV} (hv:VW ρ V A v u) (hk:cO L v=true):cO L' u=true:=by
 have lst:∀ {l l':List AV},l.length=l'.length->nO L l=true->(∀ (j:Nat) (x x':AV),l[j]?=some x->l'[j]?=some x'->cO L x=true->cO L' x'=true)->nO L' l'=true:=by
  intro l;induction l with
  | nil=>intro l' hl _ _;cases l' with
   | nil=>rfl
   | cons _ _=>simp at hl
  | cons a r ih =>
   intro l' hl hk hr;cases l' with
   | nil=>simp at hl
   | cons a' r' =>simp only [nO,qzq] at hk |-;exact ⟨hr 0 a a' rfl rfl hk.1,ih (by simpa using hl) hk.2 λj x x' h1 h2=>hr (j+1) x x' (by simpa using h1) (by simpa using h2)⟩
 induction hv with
 | undef v=>simp [cO] at hk
 | jP z ex=>rfl
 | ro z es es' ex ex' hc hl hx he hr _ =>simp only [cO,qzq,qhj] at hk |-;obtain ⟨rfl,rfl⟩:=hk;exact ⟨qXj.1 (by simpa using hl.symm),hx rfl⟩
 | rop=>simp [cO] at hk
 | ptr b i o hA hV=>simp only [cO,qfj] at hk |-;exact hLL b hk hV
 | sl b z i len cap ex ex' hA hV hx=>simp only [cO,qfj] at hk |-;exact hLL b hk hV
 | slv b z ex v hA hV hv=>rcases hv with rfl | rfl <;> rfl
 | map=>simp [cO] at hk
 | fn f cs cs' hl hr ih=>simp only [cO] at hk |-;exact lst hl hk λj x x' h1 h2 h3=>ih j x x' h1 h2 h3
 | agg cs cs' hl hr ih=>simp only [cO] at hk |-;exact lst hl hk λj x x' h1 h2 h3=>ih j x x' h1 h2 h3
 | tup cs cs' hl hr ih=>simp only [cO] at hk |-;exact lst hl hk λj x x' h1 h2 h3=>ih j x x' h1 h2 h3
 | _=>rfl
theorem YX {L:List Nat} {v u:AV} (hv:VW ρ V A v u) (hk:cO L v=true):VW ρ (λb=>V b/\b ∈ L) (λb=>A b/\b ∈ L) v u:=by
 induction hv with
 | undef v=>simp [cO] at hk
 | bool b=>exact .bool b
 | int k n=>exact .int k n
 | str s=>exact .str s
 | eH=>exact .eH
 | bF=>exact .bF
 | dU=>exact .dU
 | bQ=>exact .bQ
 | jP z ex=>exact .jP z ex
 | ro z es es' ex ex' hc hl hx he hr _ =>simp only [cO,qzq,qhj] at hk;obtain ⟨rfl,rfl⟩:=hk;refine .ro z [] es' true ex' qqz hl hx qqz qqz
 | rop=>simp [cO] at hk
 | ptr b i o hA hV=>simp only [cO,qfj] at hk;exact .ptr b i o ⟨hA,hk⟩ λq=>hV q.1
 | sl b z i len cap ex ex' hA hV hx=>simp only [cO,qfj] at hk;exact .sl b z i len cap ex ex' ⟨hA,hk⟩ (λq=>hV q.1) hx
 | slv b z ex v hA hV hv=>simp only [cO,qfj] at hk;exact .slv b z ex v ⟨hA,hk⟩ ⟨hV,hk⟩ hv
 | map=>simp [cO] at hk
 | fn f cs cs' hl hr ih=>exact .fn f cs cs' hl λj x x' h1 h2=>ih j x x' h1 h2 (gy (by simpa only [cO] using hk) x (qzx h1))
 | agg cs cs' hl hr ih=>exact .agg cs cs' hl λj x x' h1 h2=>ih j x x' h1 h2 (gy (by simpa only [cO] using hk) x (qzx h1))
 | tup cs cs' hl hr ih=>exact .tup cs cs' hl λj x x' h1 h2=>ih j x x' h1 h2 (gy (by simpa only [cO] using hk) x (qzx h1))
theorem Pm {l l':List AV} {u:AV} (hl:l.length=l'.length) (hu:u ∈ l'):∃ (j:Nat) (v:AV),l[j]?=some v/\l'[j]?=some u:=by obtain ⟨j,hj,e⟩:=qvx hu;exact ⟨j,l[j]'qqq,qqj qqq,by rw [qqj hj,e]⟩
theorem Ji {l l':List AV} {v:AV} (hl:l.length=l'.length) (hu:v ∈ l):∃ (j:Nat) (u:AV),l[j]?=some v/\l'[j]?=some u:=by obtain ⟨j,hj,e⟩:=qvx hu;exact ⟨j,l'[j]'qqq,by rw [qqj hj,e],qqj qqq⟩
theorem Vx (H:HW ρ V A h h') {L:List Nat} (hL:∀ b ∈ L,jd L (Pav.get h b)=true):∀ (n:Nat) (v u:AV),VW ρ V A v u->cO L v=true->∀ b' ∈ reach h' n u,∃ b ∈ L,b'=ρ b/\¬ V b/\A b:=by
 intro n;induction n with
 | zero=>intro v u _ _ b hb;simp [reach] at hb
 | succ n ih =>
  intro v u hv hk b' hb';have obj:∀ b,b ∈ L->¬ V b->∃ z es es' mu',Pav.get h' (ρ b)=some (.cells z es' mu')/\bC (bC (VW ρ V A)) es es'/\∀ e ∈ es,nO L e=true:=by
   intro b hb hV;have h1:=hL b hb;cases hg:Pav.get h b with
   | none=>rw [hg] at h1;simp [jd] at h1
   | some o =>
    rw [hg] at h1;obtain ⟨o',g1,g2⟩:=H.obj b o hg hV;cases o with
    | cells z es mu dt =>obtain ⟨es',mu',rfl,_,g3,_⟩:=g2;simp only [jd,qzq,qjx] at h1;exact ⟨z,es,es',mu',g1,g3,h1.2⟩
    | map es=>simp [jd] at h1
    | iter s p=>simp [jd] at h1
  have cell:∀ {e e':List AV},bC (VW ρ V A) e e'->nO L e=true->∀ x' ∈ e',b' ∈ reach h' n x'->∃ b ∈ L,b'=ρ b/\¬ V b/\A b:=by intro e e' hr hk x' hx' hb;obtain ⟨j,hj,q⟩:=qvx hx';obtain ⟨x,q2,q3⟩:=hr.get' (qqj hj);rw [q] at q3;exact ih x x' q3 (gy hk x (qzx q2)) b' hb
  cases hv with
  | ptr b i o hA hV =>
   simp only [cO,qfj] at hk;obtain ⟨z,es,es',mu',g1,g2,g3⟩:=obj b hk hV;simp only [reach,g1,qkq] at hb';rcases hb' with rfl | hb'
   ·exact ⟨b,hk,rfl,hV,hA⟩
   ·simp only [qkx] at hb';obtain ⟨x',hx',hb'⟩:=hb';have hx2:=qQz hx';cases he:es'[i]? with
    | none=>rw [he] at hx2;simp at hx2
    | some e' =>rw [he] at hx2;obtain ⟨e,q1,q2⟩:=g2.get' he;exact cell q2 (g3 e (qzx q1)) x' hx2 hb'
  | sl b z i len cap ex ex' hA hV hx =>
   simp only [cO,qfj] at hk;obtain ⟨z,es,es',mu',g1,g2,g3⟩:=obj b hk hV;simp only [reach,g1,qkq] at hb';rcases hb' with rfl | hb'
   ·exact ⟨b,hk,rfl,hV,hA⟩
   ·simp only [qkx] at hb';obtain ⟨e',he',x',hx',hb'⟩:=hb';have he2:=qQz (qZz he');obtain ⟨j,hj,q⟩:=qvx he2;obtain ⟨e,q1,q2⟩:=g2.get' (qqj hj);rw [q] at q2;exact cell q2 (g3 e (qzx q1)) x' hx' hb'
  | slv b z ex v hA hV hv=>rcases hv with rfl | rfl <;> simp [reach] at hb'
  | map=>simp [cO] at hk
  | rop=>simp [cO] at hk
  | undef=>simp [cO] at hk
  | fn f cs cs' hl hr =>simp only [cO] at hk;simp only [reach,qkx] at hb';obtain ⟨x',hx',hb'⟩:=hb';obtain ⟨j,x,q1,q2⟩:=Pm hl hx';exact ih x x' (hr j x x' q1 q2) (gy hk x (qzx q1)) b' hb'
  | agg cs cs' hl hr =>simp only [cO] at hk;simp only [reach,qkx] at hb';obtain ⟨x',hx',hb'⟩:=hb';obtain ⟨j,x,q1,q2⟩:=Pm hl hx';exact ih x x' (hr j x x' q1 q2) (gy hk x (qzx q1)) b' hb'
  | tup cs cs' hl hr =>simp only [cO] at hk;simp only [reach,qkx] at hb';obtain ⟨x',hx',hb'⟩:=hb';obtain ⟨j,x,q1,q2⟩:=Pm hl hx';exact ih x x' (hr j x x' q1 q2) (gy hk x (qzx q1)) b' hb'
  | _=>simp [reach] at hb'
theorem KX (H:HW ρ V A h h'):∀ (n:Nat) (v u:AV),VW ρ V A v u->∀ b ∈ aK h n v,¬ V b->ρ b ∈ reach h' n u:=by
 intro n;induction n with
 | zero=>intro v u _ b hb;simp [aK] at hb
 | succ n ih =>
  intro v u hv b hb hVb;cases hv with
  | ptr c i o hA hV =>
   simp only [aK,qkq] at hb;simp only [reach,qkq];rcases hb with rfl | hb
   ·exact .inl rfl
   ·refine .inr ?_;split at hb
    ·rename_i zb es mu dt hg;obtain ⟨o',g1,es',mu',rfl,_,ge,gd⟩:=H.obj c _ hg hV;split at hb
     ·cases hb
     ·simp only [g1];simp only [qkx] at hb |-;obtain ⟨x,hx,hb⟩:=hb;cases he:es[i]? with
      | none=>rw [he] at hx;simp at hx
      | some e =>rw [he] at hx;obtain ⟨e',q1,q2⟩:=ge.get he;rw [q1];simp only [qYx] at hx |-;obtain ⟨j,hj,q⟩:=qvx hx;obtain ⟨x',q3,q4⟩:=(q2.drop o).get (qqj hj);rw [q] at q4;exact ⟨x',qzx q3,ih x x' q4 b hb hVb⟩
    ·cases hb
  | sl c z i len cap ex ex' hA hV hx =>
   simp only [aK,qkq] at hb;simp only [reach,qkq];rcases hb with rfl | hb
   ·exact .inl rfl
   ·refine .inr ?_;split at hb
    ·rename_i zb es mu dt hg;obtain ⟨o',g1,es',mu',rfl,_,ge,gd⟩:=H.obj c _ hg hV;split at hb
     ·cases hb
     ·simp only [g1];simp only [qkx] at hb |-;obtain ⟨e,he,x,hx,hb⟩:=hb;obtain ⟨k,hk,qk⟩:=qvx he;obtain ⟨e',q1,q2⟩:=((ge.drop i).take len).get (qqj hk);rw [qk] at q2;obtain ⟨j,hj,q⟩:=qvx hx;obtain ⟨x',q3,q4⟩:=q2.get (qqj hj);rw [q] at q4;exact ⟨e',qzx q1,x',qzx q3,ih x x' q4 b hb hVb⟩
    ·cases hb
  | slv c z ex v hA hV hv =>
   simp only [aK,qkq] at hb;rcases hb with rfl | hb
   ·exact absurd hV hVb
   ·split at hb
    ·split at hb
     ·cases hb
     ·simp at hb
    ·cases hb
  | fn f cs cs' hl hr =>simp only [aK,reach,qkx] at hb |-;obtain ⟨x,hx,hb⟩:=hb;obtain ⟨j,x',q1,q2⟩:=Ji hl hx;exact ⟨x',qzx q2,ih x x' (hr j x x' q1 q2) b hb hVb⟩
  | agg cs cs' hl hr =>simp only [aK,reach,qkx] at hb |-;obtain ⟨x,hx,hb⟩:=hb;obtain ⟨j,x',q1,q2⟩:=Ji hl hx;exact ⟨x',qzx q2,ih x x' (hr j x x' q1 q2) b hb hVb⟩
  | tup cs cs' hl hr =>simp only [aK,reach,qkx] at hb |-;obtain ⟨x,hx,hb⟩:=hb;obtain ⟨j,x',q1,q2⟩:=Ji hl hx;exact ⟨x',qzx q2,ih x x' (hr j x x' q1 q2) b hb hVb⟩
  | undef=>simp [aK] at hb
  | _=>simp [aK] at hb
theorem ac8 (H:HW ρ V A h h') {L L':List Nat} (hLL:∀ b ∈ L,¬ V b->ρ b ∈ L') {b:Nat} (hV:¬ V b) (hk:jd L (Pav.get h b)=true):EC L' (Pav.get h' (ρ b))=true:=by
 cases hg:Pav.get h b with
 | none=>rw [hg] at hk;simp [jd] at hk
 | some o =>
  rw [hg] at hk;obtain ⟨o',g1,g2⟩:=H.obj b o hg hV;rw [g1];cases o with
  | cells z es mu dt =>obtain ⟨es',mu',rfl,hmu,g3,_⟩:=g2;simp only [jd,EC,qzq,qjx] at hk |-;refine ⟨hmu hk.1,λe' he'=>?_⟩;obtain ⟨j,hj,q⟩:=qvx he';obtain ⟨e,q1,q2⟩:=g3.get' (qqj hj);rw [q] at q2;have hke:=hk.2 e (qzx q1);have h1:=Xy (v:=.tup e) (u:=.tup e') hLL (VW.l7 q2) (by simpa only [cO] using hke);simpa only [cO] using h1
  | map es=>simp [jd] at hk
  | iter s p=>simp [jd] at hk
theorem aeH (H:HW ρ V A h h') (n:Nat) {v u:AV} (hv:VW ρ V A v u) (hk:kQ h v (aK h n v)=true):YO h' u (reach h' n u)=true:=by simp only [kQ,YO,qzq,qjx] at hk |-;obtain ⟨k1,k2⟩:=hk;have hLL:=λb hb hV=>KX H n v u hv b hb hV;refine ⟨Xy hLL hv k1,λb' hb'=>?_⟩;obtain ⟨b,q1,rfl,q3,_⟩:=Vx H k2 n v u hv k1 b' hb';exact ac8 H hLL q3 (k2 b q1)
theorem HW.keep (H:HW ρ V A h h') {L L':List Nat} (hL:∀ b ∈ L,jd L (Pav.get h b)=true) (hLL:∀ b ∈ L,¬ V b->ρ b ∈ L') :
 HW ρ (λb=>V b/\b ∈ L) (λb=>A b/\b ∈ L) (h.filter λx=>L.contains x.1) (h'.filter λx=>L'.contains x.1):=by
 have key:∀ b o,Pav.get (h.filter λx=>L.contains x.1) b=some o->Pav.get h b=some o/\b ∈ L:=by
  intro b o hb;rw [get_filter] at hb;by_cases q:b ∈ L
  ·rw [qwz (by simpa using q)] at hb;exact ⟨hb,q⟩
  ·rw [qwq (by simpa using q)] at hb;cases hb
 refine ⟨λb o hb=>?_,λb o hb hv=>?_,λb o hb hv=>?_,λb hb=>⟨H.sub b hb.1,hb.2⟩,λb c hb hc hb' hc' he=>?_⟩
 ·exact ⟨H.dom b o (key b o hb).1,(key b o hb).2⟩
 ·exact H.uZ b o (key b o hb).1 hv.1
 ·obtain ⟨q1,q2⟩:=key b o hb;have hV:¬ V b:=λq=>hv ⟨q,q2⟩;obtain ⟨o',g1,g2⟩:=H.obj b o q1 hV;have hk:=hL b q2;rw [q1] at hk;refine ⟨o',by rw [get_filter,qwz (by simpa using hLL b q2 hV)];exact g1,?_⟩;cases o with
  | cells z es mu dt =>obtain ⟨es',mu',rfl,hmu,g3,g4⟩:=g2;simp only [jd,qzq,qjx] at hk;exact ⟨es',mu',rfl,hmu,⟨g3.1,λj e e' h1 h2=>⟨(g3.2 j e e' h1 h2).1,λk x x' h3 h4=>YX ((g3.2 j e e' h1 h2).2 k x x' h3 h4) (gy (hk.2 e (qzx h1)) x (qzx h3))⟩⟩,g4⟩
  | map es=>simp [jd] at hk
  | iter s p=>simp [jd] at hk
 ·exact H.inj b c hb.1 hc.1 (λq=>hb' ⟨q,hb.2⟩) (λq=>hc' ⟨q,hc.2⟩) he
end
end Go.Pw
end
