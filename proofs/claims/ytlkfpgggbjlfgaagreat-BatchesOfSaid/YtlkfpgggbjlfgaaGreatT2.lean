/- Part of the theory that the claims of this work use: PavSnd8, PavSnd9, PavSndA, PavSndB, PavSndC, PavCall, PavOp, PavEv, PavRun. No conditions of its own. -/
import Derived.Test.YtlkfpgggbjlfgaaGreatT1
import Derived.WideLaws
import Derived.Defers
import Derived.Orders
import Derived.Tactics
import Derived.Scope
section
set_option linter.unusedSimpArgs false
set_option linter.unusedVariables false
namespace Go.Pav
open Go
section
variable {P:Program} {φ:FuncId->Option Nat} {ψ:Nat->FuncId} {N:Nat} {w0 w:World} {S:Nat->Prop} {m:Nat->Nat × Nat} {A:Nat->Prop} {h:Heap} {e:Env} {a:Act} {o:Oper}
def afK (ψ:Nat->FuncId) (w:World) (S:Nat->Prop) (m:Nat->Nat × Nat) (A:Nat->Prop):Option AV->Option Value->Prop
 | none,none=>True
 | some x,some c=>VR ψ w S m A x c
 | _,_=>False
theorem Cx.opt (cx:Cx P φ ψ N w0 w S m A h e a) {x:Option Operand} {y:Option Opd} (hy:cOpt φ x=some y):afK ψ w S m A (oev e y) (x.map a.eval):=by
 cases x with
 | none=>simp only [cOpt] at hy;cases hy;trivial
 | some x =>simp only [cOpt,qyx] at hy;obtain ⟨z,hz,rfl⟩:=hy;exact cx.opd hz
theorem gW {x:Option AV} {c:Option Value} (hr:afK ψ w S m A x c) {d n:Nat} (hb:bound x d=some n):(x=none/\c=none/\n=d)\/(x.isSome=true/\∃ k:IntKind,c=some (.int k n)):=by
 cases x with
 | none =>
  cases c with
  | none=>simp only [bound] at hb;cases hb;exact .inl ⟨rfl,rfl,rfl⟩
  | some c=>exact hr.elim
 | some x =>
  cases c with
  | none=>exact hr.elim
  | some c =>
   right;cases x <;> simp only [bound] at hb <;> try (cases hb;done)
   have hv:VR ψ w S m A _ c:=hr;have e1:=hv.eu;have e2:=nat?_some hb;exact ⟨rfl,_,by rw [e1,e2]⟩
theorem dY (k:IntKind) (n y:Nat) (code:BoundsCode) (hn:n<=y):(Instr.sliceBound (.int k n) y code).run P w=.ok n w:=by unfold Instr.sliceBound;simp only [asIntOf,Sem.run_bind,Sem.run_pure,Result.andThen_ok];rw [qwz qqq];simp
theorem kR (isS:Bool) {len cap l h:Nat} {lo hi:Option Value} (hlo:(lo=none/\l=0)\/∃ k:IntKind,lo=some (.int k l)) (hhi:(hi=none/\h=len)\/∃ k:IntKind,hi=some (.int k h))
 (h1:l<=h) (h2:h<=cap):(Instr.sliceBounds isS len cap lo hi none).run P w=.ok (l,h,cap) w:=by
 unfold Instr.sliceBounds;rcases hhi with ⟨rfl,rfl⟩ | ⟨k,rfl⟩
 ·rcases hlo with ⟨rfl,rfl⟩ | ⟨k',rfl⟩
  ·simp
  ·simp [dY k' l h _ h1]
 ·rcases hlo with ⟨rfl,rfl⟩ | ⟨k',rfl⟩
  ·simp [dY k h cap _ h2]
  ·simp [dY k h cap _ h2,dY k' l h _ h1]
theorem qN {len cap l h mm:Nat} {lo:Option Value} {k k2:IntKind} (hlo:(lo=none/\l=0)\/∃ k:IntKind,lo=some (.int k l))
 (h1:l<=h) (h2:h<=mm) (h3:mm<=cap):(Instr.sliceBounds true len cap lo (some (.int k h)) (some (.int k2 mm))).run P w=.ok (l,h,mm) w:=by
 unfold Instr.sliceBounds;rcases hlo with ⟨rfl,rfl⟩ | ⟨k',rfl⟩
 ·simp [dY k2 mm cap _ h3,dY k h mm _ h2]
 ·simp [dY k2 mm cap _ h3,dY k h mm _ h2,dY k' l h _ h1]
theorem lM {t el:TypeId} {z:Nat} (hd:P.underlying t=some (.slice el)) (hz:sizeT P el=some z) {g off len cap l h mm:Nat} {lo hi mx:Option Value}
 (hb:(Instr.sliceBounds true len cap lo hi mx).run P w=.ok (l,h,mm) w) :
 (Instr.sliceAt t (.slice (some ⟨g,off,none⟩) len cap) lo hi mx).run P w=.ok (.slice (some ⟨g,if mm=l then off else off+l * z,none⟩) (h - l) (mm - l)) w:=by
 simp only [Instr.sliceAt,Instr.slice,Sem.run_bind,run_underlying hd,Result.andThen_ok,hb,fE hz,Sem.run_pure];split <;> simp_all [lT]
theorem VR.UQ {z:Nat} {es:List (List AV)} {ex:Bool} {g off len cap:Nat} (hv:∃ cs:Nat->Nat->Value,len=es.length/\S g/\(∀ (i:Nat) (e:List AV),es[i]?=some e->e.length=z)/\es.length<=cap/\(ex=true->cap=es.length)/\(∀ (i:Nat) (e:List AV) (j:Nat) (x:AV),es[i]?=some e->e[j]?=some x->x.cell=true/\w.cell? ⟨g,off+i * z+j,none⟩=some (cs i j))/\∀ (i:Nat) (e:List AV) (j:Nat) (x:AV),es[i]?=some e->e[j]?=some x->VR ψ w S m (λ_=>False) x (cs i j)) {l h mm:Nat} (h1:l<=h) (h2:h<=es.length) (h3:h<=mm) {ex':Bool}
 (hex:ex'=true->mm=h):VR ψ w S m A (.ro z ((es.take h).drop l) ex') (.slice (some ⟨g,if mm=l then off else off+l * z,none⟩) (h - l) (mm - l)):=by
 obtain ⟨cs,rfl,hS,hw,hcap,hx,hcell,hrep⟩:=hv;have hl:((es.take h).drop l).length=h - l:=by simp;omega
 have get:∀ (i:Nat) (e:List AV),((es.take h).drop l)[i]?=some e->es[l+i]?=some e/\l+i < h:=by
  intro i e he;rw [qKq,qZj] at he;split at he
  ·rename_i hh;exact ⟨he,hh⟩
  ·cases he
 have:=VR.ro (ψ:=ψ) (w:=w) (S:=S) (m:=m) (A:=A) z ((es.take h).drop l) ex' g (if mm=l then off else off+l * z) (mm - l) (λi j=>cs (l+i) j) hS (λi e he=>hw _ e (get i e he).1) (by rw [hl];omega) (λhx'=>by rw [hl];have:=hex hx';omega) (λi e j x he hx=>?_) (λi e j x he hx=>hrep _ e j x (get i e he).1 hx)
 ·rwa [hl] at this
 ·obtain ⟨q1,q2⟩:=get i e he;obtain ⟨q3,q4⟩:=hcell _ e j x q1 hx;refine ⟨q3,?_⟩;rw [qwq qqq,<- q4];congr 2;rw [qYq];omega
theorem VR.O8 {b z i len cap:Nat} {ex:Bool} {c:Value} (hv:VR ψ w S m A (.sl b z i len cap ex) c) {cc l h mm cap':Nat} (hc:c=.slice (some ⟨(m b).1,i * z,none⟩) len cc) (h1:l<=h) (h3:h<=mm) (h4:mm<=cc) (h5:cap'<=mm - l) {ex':Bool}
 (hex:ex'=true->mm - l=cap') (i':Nat) (hi:i'=if mm=l then i else i+l) :
 VR ψ w S m A (.sl b z i' (h - l) cap' ex') (.slice (some ⟨(m b).1,if mm=l then i * z else i * z+l * z,none⟩) (h - l) (mm - l)):=by
 obtain ⟨cc',e1,hA,hz,hl,hcap,hx,cur,t,fr,hrow,hsz⟩:=hv.mJ;rw [hc] at e1;cases e1;have hoff:(if mm=l then i * z else i * z+l * z)=i' * z:=by
  rw [hi];split
  ·rfl
  ·rw [qYq]
 rw [hoff];refine .sl b z i' (h - l) cap' ex' (mm - l) hA hz qqq h5 hex ⟨cur,t,fr,hrow,qej (qKj z ?_) hsz⟩;rw [hi];split <;> omega
theorem afi {t el:TypeId} {n:Nat} (hd:P.underlying t=some (.array n el)) (hz:sizeT P el=some 1) {g off l h:Nat} {lo hi:Option Value}
 (hb:(Instr.sliceBounds false n n lo hi none).run P w=.ok (l,h,n) w) :
 (Instr.sliceAt t (.pointer (some ⟨g,off,none⟩)) lo hi none).run P w=.ok (.slice (some ⟨g,if n=l then off else off+l * 1,none⟩) (h - l) (n - l)) w:=by
 simp only [Instr.sliceAt,Instr.sureAddr,Sem.run_bind,run_underlying hd,Result.andThen_ok,Sem.run_pure,hb,fE hz];split <;> simp_all [lT]
theorem Ep {S':Nat->Prop} {t el:TypeId} {n:Nat} (hd:P.underlying t=some (.array n el)) (hz:sizeT P el=some 1) {cs:List AV} {g off:Nat}
 (hcell:∀ (j:Nat) (x:AV),cs[j]?=some x->∃ u,w.cell? ⟨g,off+j,none⟩=some u/\VR ψ w S m A x u) (hS:S' g) {alo ahi:Option AV} {clo chi:Option Value}
 (rlo:afK ψ w S m A alo clo) (rhi:afK ψ w S m A ahi chi) {v:AV} (hs:jZ n cs alo ahi=some v) :
 ∃ cv,(Instr.sliceAt t (.pointer (some ⟨g,off,none⟩)) clo chi none).run P w=.ok cv w/\VR ψ w S' m A v cv:=by
 unfold jZ at hs;split at hs;case isFalse=>cases hs
 rename_i hc;obtain ⟨hn,hleaf⟩:=hc;unfold ig at hs;simp only [qQq,qKz,q7x hn] at hs;obtain ⟨hh,hhh,hs⟩:=au hs;obtain ⟨l,hl,hs⟩:=au hs;split at hs;case isFalse=>cases hs
 rename_i hc;obtain ⟨c1,c2⟩:=hc;cases hs;refine ⟨_,afi hd hz (kR false (l:=l) (h:=hh) ?_ ?_ c1 c2),?_⟩
 ·rcases gW rlo hl with ⟨_,q1,q2⟩ | ⟨_,q⟩
  ·exact .inl ⟨q1,q2⟩
  ·exact .inr q
 ·rcases gW rhi hhh with ⟨_,q1,q2⟩ | ⟨_,q⟩
  ·exact .inl ⟨q1,q2⟩
  ·exact .inr q
 ·have hlen:((cs.take n).map λx=>[x]).length=n:=by simp;omega
  have get:∀ (i:Nat) (e:List AV) (j:Nat) (x:AV),((cs.take n).map λx=>[x])[i]?=some e->e[j]?=some x->j=0/\cs[i]?=some x/\rF x=true:=by
   intro i e j x he hx;rw [qWx] at he;cases hy:(cs.take n)[i]? with
   | none=>rw [hy] at he;cases he
   | some y =>
    rw [hy] at he;cases he;cases j with
    | succ j=>simp at hx
    | zero =>
     simp at hx;subst hx;rw [qZj] at hy;split at hy
     ·rename_i hi;exact ⟨rfl,hy,qjx.1 hleaf y (qzx (i:=i) (by rw [qZj,qwz hi];exact hy))⟩
     ·cases hy
  refine VR.UQ (len:=((cs.take n).map λx=>[x]).length) (cap:=n) (ex:=true) ⟨λi j=>(w.cell? ⟨g,off+i * 1+j,none⟩).getD Go.undef,rfl,hS,λi e he=>?_,by omega,λ_=>hlen.symm,λi e j x he hx=>?_,λi e j x he hx=>?_⟩ c1 qqq c2 (λq=>by simp at q;omega)
  ·rw [qWx] at he;cases hy:(cs.take n)[i]? with
   | none=>rw [hy] at he;cases he
   | some y=>rw [hy] at he;cases he;rfl
  ·obtain ⟨rfl,q1,q2⟩:=get i e j x he hx;obtain ⟨u,q3,q4⟩:=hcell i x q1;refine ⟨by cases x <;> simp [rF] at q2 <;> rfl,?_⟩;simp only [Nat.mul_one,qbz,q3,qYx]
  ·obtain ⟨rfl,q1,q2⟩:=get i e j x he hx;obtain ⟨u,q3,q4⟩:=hcell i x q1;simp only [Nat.mul_one,qbz,q3,qYx];exact ahp q2 q4
theorem ZG (cx:Cx P φ ψ N w0 w S m A h e a) {t el:TypeId} {X:Operand} {lo hi:Option Operand} (ho:o.op=.slice t X lo hi none) {n:Nat} (hd:P.underlying t=some (.array n el)) (hz:sizeT P el=some 1)
 {x:Opd} (hx:fD φ X=some x) {lo' hi':Option Opd} (hlo:cOpt φ lo=some lo') (hhi:cOpt φ hi=some hi') {v:AV} {u:Upd} {nid:Nat} (hs:aJ (.gX n x lo' hi') e h nid=some (v,u)) :
 Snd P ψ N w0 w S m A (execOp a.eval o) (aQ h u) v nid:=by
 have hX:=cx.opd hx;have rlo:=cx.opt hlo;have rhi:=cx.opt hhi;simp only [aJ,Dl] at hs;have hex:∀ cv,(Instr.sliceAt t (a.eval X) (lo.map a.eval) (hi.map a.eval) none).run P w=.ok cv w->(execOp a.eval o).run P w=.ok (.value cv) w:=λcv q=>by simp [execOp,ho,q]
 cases hxv:x.ev e <;> rw [hxv] at hs hX <;> simp only [wK] at hs <;> try (cases hs;done)
 ·rename_i cs;obtain ⟨r,hr,q⟩:=aB hs;cases q;obtain ⟨b,off,vs,e1,hS,hcell,hrep⟩:=hX.qQ;rw [e1] at hex;obtain ⟨cv,q1,q2⟩:=Ep (P:=P) (S':=S) hd hz (λj x hj=>⟨_,(hcell j x hj).2,(hrep j x hj).open_⟩) hS rlo rhi hr;exact Snd.quiet cx.inv (hex _ q1) q2 nid
 ·rename_i b i o';unfold sliceAt at hs;split at hs;case h_2=>cases hs
  rename_i z es mu hg;obtain ⟨cs,hcs,hs⟩:=au hs;obtain ⟨r,hr,q⟩:=aB hs;cases q;obtain ⟨j1,j2,j3⟩:=adM cx.inv hg;obtain ⟨p1,p2,cur,tt,p3,p4,p5⟩:=cx.inv.obj b _ hg;obtain ⟨hA,e1⟩:=hX.lg;rw [e1] at hex;obtain ⟨cv,q1,q2⟩:=Ep (P:=P) (S':=λc=>S c\/c=(m b).1) (g:=(m b).1) (off:=i * (m b).2+o') hd hz (λj x hj=>by
   rw [qKq] at hj;obtain ⟨t1,u,t2,t3⟩:=p5 _ cs _ x hcs hj;refine ⟨u,?_,t3⟩;have e2:i * (m b).2+o'+j=i * z+(o'+j):=by rw [<- p1,qgq]
   simp only [World.cell?,p3,e2,q3j,qjz,qWz];exact t2) (.inr rfl) rlo rhi hr
  exact ⟨cv,w,_,m,A,.inl (hex _ q1),q2,j1,j2,j3,λb hb=>.inl hb⟩
theorem aeP (cx:Cx P φ ψ N w0 w S m A h e a) {t:TypeId} {X:Operand} {lo hi mx:Option Operand} (ho:o.op=.slice t X lo hi mx):Ok P φ ψ N w0 w S m A h e a o:=by
 intro cop v u nid hc hs hn;rw [ho] at hc;simp only [cOp,qvq,qzj] at hc;obtain ⟨x,hx,d,hd,hc⟩:=hc;have hX:=cx.opd hx;have fin:∀ cv,(Instr.sliceAt t (a.eval X) (lo.map a.eval) (hi.map a.eval) (mx.map a.eval)).run P w=.ok cv w->VR ψ w S m A v cv->Snd P ψ N w0 w S m A (execOp a.eval o) (aQ h []) v nid :=λcv q1 q2=>Snd.val cx.inv (s:=Instr.sliceAt t (a.eval X) (lo.map a.eval) (hi.map a.eval) (mx.map a.eval)) (by simp [execOp,ho]) q1 q2 nid;split at hc
 ·rename_i el;simp only [qzj] at hc;obtain ⟨z,hz,hc⟩:=hc;split at hc
  ·cases hc
  ·rename_i hz0;simp only [qzj] at hc;obtain ⟨lo',hlo,hi',hhi,mx',hmx,hc⟩:=hc;cases hc;simp only [aJ,Ef] at hs;obtain ⟨h1,rfl⟩:=dZ hs;have rlo:=cx.opt hlo;have rhi:=cx.opt hhi;have rmx:=cx.opt hmx;generalize oev e lo'=alo at h1 rlo;generalize oev e hi'=ahi at h1 rhi;generalize oev e mx'=amx at h1 rmx;generalize lo.map a.eval=clo at rlo fin;generalize hi.map a.eval=chi at rhi fin;generalize mx.map a.eval=cmx at rmx fin;have lob:∀ l,bound alo 0=some l->(clo=none/\l=0)\/∃ k:IntKind,clo=some (.int k l):=by
    intro l hl;rcases gW rlo hl with ⟨_,q1,q2⟩ | ⟨_,q⟩
    ·exact .inl ⟨q1,q2⟩
    ·exact .inr q
   have hib:∀ d h,bound ahi d=some h->(ahi=none/\chi=none/\h=d)\/∃ k:IntKind,chi=some (.int k h):=by
    intro d h hl;rcases gW rhi hl with q | ⟨_,q⟩
    ·exact .inl q
    ·exact .inr q
   cases hxv:x.ev e <;> rw [hxv] at h1 hX <;> simp only [iq] at h1 <;> try (cases h1;done)
   ·rw [qwq hz0] at h1;cases h1
   ·rw [qwq hz0] at h1;unfold kC at h1;obtain ⟨mm,hm,h1'⟩:=au h1;replace h1:=h1';clear h1';obtain ⟨hh,hhh,h1'⟩:=au h1;replace h1:=h1';clear h1';obtain ⟨l,hl,h1'⟩:=au h1;replace h1:=h1';clear h1';split at h1
    ·rename_i hc;obtain ⟨rfl,rfl,rfl,hno⟩:=hc;cases h1;rw [hX.gQ] at fin;refine fin (.slice none 0 0) ?_ .bF;have hb:(Instr.sliceBounds true 0 0 clo chi cmx).run P w=.ok (0,0,0) w:=by
      rcases gW rmx hm with ⟨q1,rfl,_⟩ | ⟨q1,k,rfl⟩
      ·refine kR true (lob 0 hl) ?_ (qxq _) (qxq _);rcases hib 0 0 hhh with ⟨_,q2,q3⟩ | ⟨k,q2⟩
       ·exact .inl ⟨q2,rfl⟩
       ·exact .inr ⟨k,q2⟩
      ·rcases hib 0 0 hhh with ⟨q2,_,_⟩ | ⟨k2,rfl⟩
       ·exact absurd ⟨q1,by rw [q2];rfl⟩ hno
       ·exact qN (lob 0 hl) (qxq _) (qxq _) (qxq _)
     simp only [Instr.sliceAt,Instr.slice,Sem.run_bind,run_underlying hd,Result.andThen_ok,hb,fE hz,Sem.run_pure];simp
    ·cases h1
   ·rename_i z' es ex;split at h1
    ·rename_i hzz;obtain ⟨_,rfl⟩:=hzz;rcases hX.pG with ⟨g,off,cap,cs,e1,hS,hw,hcap,hex,hcell,hrep⟩ | ⟨rfl,ad,k0,e1,hk0⟩;case inr =>
      rw [e1] at fin;unfold ig at h1;have done_:∀ m,(Instr.sliceBounds true 0 k0 clo chi cmx).run P w=.ok (0,0,m) w->∃ ad',(Instr.sliceAt t (.slice (some ad) 0 k0) clo chi cmx).run P w=.ok (.slice (some ad') 0 m) w:=λm hb=>by
       simp only [Instr.sliceAt,Instr.slice,Sem.run_bind,run_underlying hd,Result.andThen_ok,hb,fE hz,Sem.run_pure];by_cases hm0:m=0
       ·subst hm0;exact ⟨ad,by simp⟩
       ·exact ⟨ad.add (0 * z'),by rw [qwq qqq];rfl⟩
      cases amx with
      | none =>
       have hcm:cmx=none:=by cases cmx with | none=>rfl | some c=>exact rmx.elim
       subst hcm;simp only at h1;obtain ⟨hh,hhh,h1'⟩:=au h1;replace h1:=h1';clear h1';obtain ⟨l,hl,h1'⟩:=au h1;replace h1:=h1';clear h1';split at h1
       ·rename_i hc;obtain ⟨c1,c2⟩:=hc;simp only [qaj,Nat.le_zero] at c2;subst c2;obtain rfl:l=0:=by omega
        cases h1;obtain ⟨ad',hd'⟩:=done_ k0 (kR true (lob 0 hl) (by
         rcases hib _ _ hhh with ⟨_,q2,q3⟩ | ⟨k,q2⟩
         ·exact .inl ⟨q2,rfl⟩
         ·exact .inr ⟨k,q2⟩) (qxq _) (Nat.zero_le _))
        exact fin _ hd' (.roe _ _ _ _ λq=>hk0 (by simpa using q))
       ·cases h1
      | some am =>
       simp only at h1;obtain ⟨mm,hm,h1'⟩:=au h1;replace h1:=h1';clear h1';obtain ⟨ah,hah,h1'⟩:=au h1;replace h1:=h1';clear h1';subst hah;obtain ⟨hh,hhh,h1'⟩:=au h1;replace h1:=h1';clear h1';obtain ⟨l,hl,h1'⟩:=au h1;replace h1:=h1';clear h1';split at h1
       ·rename_i hc;obtain ⟨c1,c2,c3⟩:=hc;simp only [qaj,Nat.le_zero] at c3;subst c3;obtain rfl:hh=0:=by omega
        obtain rfl:l=0:=by omega
        cases h1;rcases gW rmx hm with ⟨q1,_,_⟩ | ⟨_,k,rfl⟩
        ·cases q1
        ·rcases hib _ _ hhh with ⟨q2,_,_⟩ | ⟨k2,rfl⟩
         ·cases q2
         ·obtain ⟨ad',hd'⟩:=done_ 0 (qN (lob 0 hl) (qxq _) (qxq _) (Nat.zero_le _));exact fin _ hd' (.roe _ _ _ _ λ_=>rfl)
       ·cases h1
     rw [e1] at fin hX;unfold ig at h1;cases amx with
     | none =>
      have hcm:cmx=none:=by cases cmx with | none=>rfl | some c=>exact rmx.elim
      subst hcm;simp only at h1;obtain ⟨hh,hhh,h1'⟩:=au h1;replace h1:=h1';clear h1';obtain ⟨l,hl,h1'⟩:=au h1;replace h1:=h1';clear h1';split at h1
      ·rename_i hc;obtain ⟨c1,c2⟩:=hc;cases h1;refine fin _ (lM hd hz (kR true (lob l hl) ?_ c1 qqq)) (VR.UQ ⟨cs,rfl,hS,hw,hcap,hex,hcell,hrep⟩ c1 c2 qqq λhx'=>?_)
       ·rcases hib _ _ hhh with ⟨_,q2,q3⟩ | ⟨k,q2⟩
        ·exact .inl ⟨q2,q3⟩
        ·exact .inr ⟨k,q2⟩
       ·simp only [qzq,qvj] at hx';rw [hex hx'.1,hx'.2]
      ·cases h1
     | some am =>
      simp only at h1;obtain ⟨mm,hm,h1'⟩:=au h1;replace h1:=h1';clear h1';obtain ⟨ah,hah,h1'⟩:=au h1;replace h1:=h1';clear h1';subst hah;obtain ⟨hh,hhh,h1'⟩:=au h1;replace h1:=h1';clear h1';obtain ⟨l,hl,h1'⟩:=au h1;replace h1:=h1';clear h1';split at h1
      ·rename_i hc;obtain ⟨c1,c2,c3⟩:=hc;cases h1;rcases gW rmx hm with ⟨q1,_,_⟩ | ⟨_,k,rfl⟩
       ·cases q1
       ·rcases hib _ _ hhh with ⟨q2,_,_⟩ | ⟨k2,rfl⟩
        ·cases q2
        ·exact fin _ (lM hd hz (qN (lob l hl) c1 c2 qqq)) (VR.UQ ⟨cs,rfl,hS,hw,hcap,hex,hcell,hrep⟩ c1 qqq c2 λhx'=>by simpa using hx')
      ·cases h1
    ·cases h1
   ·rename_i b z' i len cap ex;split at h1
    ·rename_i hzz;obtain ⟨_,rfl⟩:=hzz;obtain ⟨cc,e1,hA,hmz,hlen,hcap,hex,hrow⟩:=hX.mJ;rw [e1] at fin;unfold mZ at h1;cases amx with
     | none =>
      have hcm:cmx=none:=by cases cmx with | none=>rfl | some c=>exact rmx.elim
      subst hcm;simp only at h1;obtain ⟨hh,hhh,h1'⟩:=au h1;replace h1:=h1';clear h1';obtain ⟨l,hl,h1'⟩:=au h1;replace h1:=h1';clear h1';split at h1
      ·rename_i hc;obtain ⟨c1,c2,c3⟩:=hc;have run:=lM (P:=P) (w:=w) (t:=t) (off:=i * z') (g:=(m b).1) hd hz (kR (P:=P) (w:=w) (len:=len) (cap:=cc) (h:=hh) (hi:=chi) true (lob l hl) (by
        rcases hib _ _ hhh with ⟨_,q2,q3⟩ | ⟨k,q2⟩
        ·exact .inl ⟨q2,q3⟩
        ·exact .inr ⟨k,q2⟩) c1 qqq)
       split at h1
       ·cases h1;exact fin _ run (hX.O8 e1 c1 qqq (qxq _) qqq (λhx'=>by rw [hex hx']) _ (by rw [qwq qqq]))
       ·split at h1
        ·rename_i hl0;subst hl0;cases h1;have:=hX.O8 (l:=0) (mm:=cc) (cap':=cap) (ex':=ex) e1 c1 qqq (qxq _) qqq (λhx'=>by rw [hex hx'];rfl) i (by split <;> rfl);rw [Nat.sub_zero] at this;exact fin _ run this
        ·cases h1;have e0:hh - l=0:=by omega
         rw [e0] at run;exact fin _ run (.roe _ _ _ _ λhx'=>by have:=hex hx';omega)
      ·cases h1
     | some am =>
      simp only at h1;obtain ⟨mm,hm,h1'⟩:=au h1;replace h1:=h1';clear h1';obtain ⟨ah,hah,h1'⟩:=au h1;replace h1:=h1';clear h1';subst hah;obtain ⟨hh,hhh,h1'⟩:=au h1;replace h1:=h1';clear h1';obtain ⟨l,hl,h1'⟩:=au h1;replace h1:=h1';clear h1';split at h1
      ·rename_i hc;obtain ⟨c1,c2,c3⟩:=hc;rcases gW rmx hm with ⟨q1,_,_⟩ | ⟨_,k,rfl⟩
       ·cases q1
       ·rcases hib _ _ hhh with ⟨q2,_,_⟩ | ⟨k2,rfl⟩
        ·cases q2
        ·have run:=lM (P:=P) (w:=w) (t:=t) (off:=i * z') (g:=(m b).1) hd hz (qN (P:=P) (w:=w) (len:=len) (cap:=cc) (h:=hh) (k:=k2) (k2:=k) (mm:=mm) (lob l hl) c1 c2 qqq);split at h1
         ·cases h1;exact fin _ run (hX.O8 e1 c1 c2 qqq (qxq _) (λ_=>rfl) _ (by rw [qwq qqq]))
         ·cases h1;have e0:hh - l=0:=by omega
          have:=hX.O8 (l:=l) (h:=hh) (mm:=mm) (cap':=0) (ex':=true) e1 c1 c2 qqq (Nat.zero_le _) (λ_=>by omega) i (by rw [qwz qqq]);rw [e0] at this run;exact fin _ run this
      ·cases h1
    ·cases h1
 ·simp only [qzj] at hc;obtain ⟨lo',hlo,hi',hhi,mx',hmx,hc⟩:=hc;cases hc;simp only [aJ,Ef] at hs;obtain ⟨h1,rfl⟩:=dZ hs;have rlo:=cx.opt hlo;have rhi:=cx.opt hhi;have rmx:=cx.opt hmx;generalize oev e lo'=alo at h1 rlo;generalize oev e hi'=ahi at h1 rhi;generalize oev e mx'=amx at h1 rmx;generalize lo.map a.eval=clo at rlo fin;generalize hi.map a.eval=chi at rhi fin;generalize mx.map a.eval=cmx at rmx fin;cases hxv:x.ev e <;> rw [hxv] at h1 hX <;> simp only [iq] at h1 <;> try (cases h1;done)
  ·rename_i s;rw [qwz trivial] at h1;unfold wz at h1;cases amx with
   | some am=>cases h1
   | none =>
    have hcm:cmx=none:=by cases cmx with | none=>rfl | some c=>exact rmx.elim
    subst hcm;simp only at h1;obtain ⟨hh,hhh,h1'⟩:=au h1;replace h1:=h1';clear h1';obtain ⟨l,hl,h1'⟩:=au h1;replace h1:=h1';clear h1';split at h1
    ·rename_i hc;obtain ⟨c1,c2⟩:=hc;cases h1;have eX:=hX.jq;rw [eX] at fin;have hsz:(⟨⟨s⟩⟩:ByteArray).size=s.length:=rfl;have hb:(Instr.sliceBounds false s.length s.length clo chi none).run P w=.ok (l,hh,s.length) w:=by
      refine kR false ?_ ?_ c1 c2
      ·rcases gW rlo hl with ⟨_,q1,q2⟩ | ⟨_,q⟩
       ·exact .inl ⟨q1,q2⟩
       ·exact .inr q
      ·rcases gW rhi hhh with ⟨_,q1,q2⟩ | ⟨_,q⟩
       ·exact .inl ⟨q1,q2⟩
       ·exact .inr q
     refine fin (.string ⟨⟨(s.take hh).drop l⟩⟩) ?_ (.str _);have hx:(⟨⟨s⟩⟩:ByteArray).extract l hh=⟨⟨(s.take hh).drop l⟩⟩:=by
      have:((⟨⟨s⟩⟩:ByteArray).extract l hh).data=⟨(s.take hh).drop l⟩:=by rw [zxq];apply q9z;simp only [Array.toList_extract,zqx];rw [List.drop_take]
      calc (⟨⟨s⟩⟩:ByteArray).extract l hh=⟨((⟨⟨s⟩⟩:ByteArray).extract l hh).data⟩:=rfl
       _=_:=by rw [this]
     simp only [Instr.sliceAt,Instr.slice,Sem.run_bind,run_underlying hd,Result.andThen_ok,hsz];simp only [q3j,qjz,qWz,Sem.run_bind,Result.andThen_ok,hb,Sem.run_pure];rw [hx]
    ·cases h1
  all_goals (simp at h1)
 ·rename_i n el;simp only [qzj] at hc;obtain ⟨z,hz,hc⟩:=hc;split at hc
  ·rename_i hzm;obtain ⟨rfl,rfl⟩:=hzm;simp only [qzj,qwx] at hc;obtain ⟨lo',hlo,hi',hhi,rfl⟩:=hc;exact ZG cx ho hd hz hx hlo hhi hs
  ·cases hc
 ·cases hc
end
end Go.Pav
end
section
set_option linter.unusedSimpArgs false
set_option linter.unusedVariables false
namespace Go.Pav
open Go
section
variable {P:Program} {φ:FuncId->Option Nat} {ψ:Nat->FuncId} {N:Nat} {w0 w:World} {S:Nat->Prop} {m:Nat->Nat × Nat} {A:Nat->Prop} {h:Heap} {e:Env} {a:Act} {o:Oper}
theorem wrap_i64 {n:Nat} (hn:n<=dD):IntKind.i64.wrap (n:Int)=(n:Int):=by simp only [dD] at hn;simp only [IntKind.wrap,IntKind.bits,IntKind.signed];have:(n:Int) % 2 ^ 64=n:=Int.emod_eq_of_lt qqq qqq;simp only [this];rw [qwq];simp;omega
theorem aiE (cx:Cx P φ ψ N w0 w S m A h e a) {t:TypeId} {L C:Operand} (ho:o.op=.makeSlice t L C):Ok P φ ψ N w0 w S m A h e a o:=by
 intro cop v u nid hc hs hn;rw [ho] at hc;simp only [cOp,qvq,qzj] at hc;obtain ⟨l,hl,c,hcc,d,hd,hc⟩:=hc;have hL:=cx.opd hl;have hC:=cx.opd hcc;split at hc
 ·rename_i el;simp only [qzj] at hc;obtain ⟨z,hz,i,hi,hc⟩:=hc;split at hc
  ·cases hc
  ·cases hc;simp only [aJ,Xq] at hs;split at hs
   ·rename_i k1 n1 k2 n2 e1 e2;obtain ⟨nl,hnl,hs'⟩:=au hs;replace hs:=hs';clear hs';obtain ⟨nc,hnc,hs'⟩:=au hs;replace hs:=hs';clear hs';split at hs
    ·rename_i hcond;obtain ⟨c1,c2⟩:=hcond;cases hs;rw [e1] at hL;rw [e2] at hC;have eL:=hL.eu;have eC:=hC.eu;have q1:=nat?_some hnl;have q2:=nat?_some hnc;subst q1 q2;obtain ⟨it,zv,hit,hzv,z1,z2,z3,z4⟩:=iC (ψ:=ψ) (w:=w) (S:=S) (m:=m) (A:=A) hz;rw [hi] at hit;cases hit;have hcb:nc<=dD:=qej (zzq nc (Nat.succ_pos _)) c2;have hlb:nl<=dD:=qej c1 hcb;have hbig:¬ ((i.bytes:Int) * (nc:Int) > 2 ^ 48):=by
      have h1:nc * i.bytes<=nc * (i.bytes+1):=Nat.mul_le_mul_left nc (zkx _);have h2:nc * i.bytes<=dD:=qej h1 c2;simp only [dD] at h2;rw [q1x] at h2;have h3:((i.bytes * nc:Nat):Int)<=35184372088832:=by omega
      rw [Int.natCast_mul] at h3;omega
     have hrow:=Dz (ψ:=ψ) (w:=w) (S:=S) (m:=m) (A:=A) z1 z3 z4 nc;refine Snd.XD (w':=w.alloc (.cells ((Array.range (nc * z.length)).map (zv.cells[· % zv.cells.size]!)) el)) (c:=(Array.range (nc * z.length)).map (zv.cells[· % zv.cells.size]!)) (t:=el) cx.inv hn (len:=nl) (cap:=nc) ?_ rfl rfl rfl hrow (λ_ _=>rfl) (qxq _) rfl c1 (qxq _) (λ_=>rfl) qqz;simp only [execOp,ho,Sem.run_bind];have:(Instr.makeSlice t (a.eval L) (a.eval C)).run P w=.ok (.slice (some ⟨w.heap.size,0,none⟩) nl nc) (w.alloc (.cells ((Array.range (nc * z.length)).map (zv.cells[· % zv.cells.size]!)) el)):=by
      rw [eL,eC];unfold Instr.makeSlice;simp only [Sem.run_bind,run_underlying hd,Result.andThen_ok,asInt,asIntOf,Sem.run_pure,typeInfo,run_program,hi];rw [wrap_i64 hlb,wrap_i64 hcb];have t1:(decide ((nc:Int) < 0)||decide ((i.bytes:Int) * (nc:Int) > 2 ^ 48))=false:=by rw [qJz hbig];simp
      have t2:decide ((nl:Int) < 0)=false:=by rw [qJz];omega
      have t3:decide ((nl:Int) > (nc:Int))=false:=by rw [qJz];omega
      simp only [t1,t2,t3,Bool.or_false,qjz,qWz,Sem.run_bind,run_askRoom,Result.andThen_ok,sizeOf,typeInfo,run_program,hi,Sem.run_pure,z2,qWj];by_cases hz0:nc * z.length=0
      ·rw [qwz hz0];have hr0:Array.range 0=#[]:=rfl;simp [hz0,hr0,Go.newRow]
      ·rw [qwq hz0];simp [zeroValue,typeInfo,hi,hzv,Go.newRow]
     rw [this];rfl
    ·cases hs
   ·cases hs
 ·cases hc
theorem iI {c:Call} {b:Builtin} (ho:o.op=.call c) (hb:c.callee=.builtin b) {s:Sem Value} (hs:∀ consts,builtin b c.argTypes o.type consts (c.args.map a.eval)=(do pure (.value (<- s)))) :
 execOp a.eval o=(do pure (.value (<- s))):=by
 simp only [execOp,ho,resolve,hb,pure_bind,invoke];exact hs _
theorem arr1 {α:Type} {xs:Array α} {x:α} (hx:xs.toList=[x]):xs=#[x]:=by apply q9z;simpa using hx
theorem abV {α:Type} {xs:Array α} {x y:α} (hx:xs.toList=[x,y]):xs=#[x,y]:=by apply q9z;simpa using hx
theorem amd (cx:Cx P φ ψ N w0 w S m A h e a) {c:Call} (ho:o.op=.call c) (hb:c.callee=.builtin .len):Ok P φ ψ N w0 w S m A h e a o:=by
 intro cop v u nid hc hs hn;rw [ho] at hc;simp only [cOp,hb,ku] at hc;unfold cLen at hc;split at hc
 ·rename_i X t hargs htys;simp only [qvq,qzj] at hc;obtain ⟨x,hx,d,hd,hc⟩:=hc;have hX:=cx.opd hx;have ea:=arr1 hargs;have et:=arr1 htys;have hex:execOp a.eval o=(do pure (.value (<- Builtin.len_ #[t] o.type #[a.eval X]))):=iI ho hb (λ_=>by rw [ea,et];simp [builtin]);have fin:∀ kd,cop=.len kd x->(∀ v,oz kd h (x.ev e)=some v->∃ cv,(Builtin.len_ #[t] o.type #[a.eval X]).run P w=.ok cv w/\VR ψ w S m A v cv)->Snd P ψ N w0 w S m A (execOp a.eval o) (aQ h u) v nid:=by intro kd hcop hr;subst hcop;simp only [aJ,sLen] at hs;obtain ⟨h1,rfl⟩:=dZ hs;obtain ⟨cv,h2,h3⟩:=hr v h1;exact Snd.val cx.inv hex h2 h3 nid
  split at hc
  ·cases hc;refine fin 0 rfl λv hv=>?_;cases hxv:x.ev e <;> rw [hxv] at hv hX <;> simp only [oz] at hv <;> first
    | (cases hv;done)
    | (simp at hv;done)
    | skip
   rename_i s;simp only [qQx] at hv;cases hv;rw [hX.jq];refine ⟨_,?_,.int _ _⟩;have hsz:(⟨⟨s⟩⟩:ByteArray).size=s.length:=rfl;simp [Builtin.len_,run_underlying hd,goInt,hsz]
  ·cases hc;refine fin 1 rfl λv hv=>?_;cases hxv:x.ev e <;> rw [hxv] at hv hX <;> simp only [oz] at hv <;> first
    | (cases hv;done)
    | (simp at hv;done)
    | skip
   ·simp only [qQx] at hv;cases hv;rw [hX.gQ];refine ⟨_,?_,.int _ _⟩;simp [Builtin.len_,run_underlying hd,goInt]
   ·simp only [qQx] at hv;cases hv;rcases hX.pG with ⟨b,off,cap,cs,e1,_⟩ | ⟨rfl,ad,k,e1,_⟩ <;>
    ·rw [e1];refine ⟨_,?_,.int _ _⟩;simp [Builtin.len_,run_underlying hd,goInt]
   ·simp only [qQx] at hv;cases hv;obtain ⟨cc,e1,_⟩:=hX.mJ;rw [e1];refine ⟨_,?_,.int _ _⟩;simp [Builtin.len_,run_underlying hd,goInt]
  ·cases hc;refine fin 2 rfl λv hv=>?_;cases hxv:x.ev e <;> rw [hxv] at hv hX <;> simp only [oz] at hv <;> first
    | (cases hv;done)
    | (simp at hv;done)
    | skip
   ·simp only [qQx] at hv;cases hv;rw [hX.sF];refine ⟨_,?_,.int _ _⟩;simp [Builtin.len_,run_underlying hd,goInt]
   ·rename_i b;simp only [qQx] at hv;unfold Wy at hv;split at hv
    ·rename_i es hg;cases hv;obtain ⟨hA,e1⟩:=hX.CO;obtain ⟨es',clock,q1,q2,_⟩:=cx.inv.obj b _ hg;rw [e1];refine ⟨_,?_,.int _ _⟩;simp [Builtin.len_,run_underlying hd,goInt,run_getObj_map w _ _ _ q1,q2]
    ·cases hv
  ·cases hc
 ·cases hc
theorem akP (cx:Cx P φ ψ N w0 w S m A h e a) {c:Call} (ho:o.op=.call c) (hb:c.callee=.builtin .cap):Ok P φ ψ N w0 w S m A h e a o:=by
 intro cop v u nid hc hs hn;rw [ho] at hc;simp only [cOp,hb,ku] at hc;unfold ak6 at hc;split at hc
 ·rename_i X t hargs htys;simp only [qvq,qzj] at hc;obtain ⟨x,hx,d,hd,hc⟩:=hc;have hX:=cx.opd hx;have ea:=arr1 hargs;have et:=arr1 htys;have hex:execOp a.eval o=(do pure (.value (<- Builtin.cap_ #[t] o.type #[a.eval X]))):=iI ho hb (λ_=>by rw [ea,et];simp [builtin]);split at hc
  ·cases hc;simp only [aJ,sCap] at hs;obtain ⟨h1,rfl⟩:=dZ hs;cases hxv:x.ev e <;> rw [hxv] at h1 hX <;> simp only [y7] at h1 <;> try (cases h1;done)
   ·cases h1;have e1:=hX.gQ;exact Snd.val cx.inv hex (cv:=.int .i64 0) (by rw [e1];simp [Builtin.cap_,run_underlying hd,goInt]) (.int _ _) nid
   ·split at h1
    ·rename_i hx';cases h1;rcases hX.pG with ⟨b,off,cap,cs,e1,_,_,_,hex',_⟩ | ⟨rfl,ad,k,e1,hk⟩;case inr=>exact Snd.val cx.inv hex (cv:=.int .i64 0) (by rw [e1,hk hx'];simp [Builtin.cap_,run_underlying hd,goInt]) (.int _ _) nid
     exact Snd.val cx.inv hex (cv:=.int .i64 _) (by rw [e1,hex' hx'];simp [Builtin.cap_,run_underlying hd,goInt]) (.int _ _) nid
    ·cases h1
   ·split at h1
    ·rename_i hx';cases h1;obtain ⟨cc,e1,_,_,_,_,hex',_⟩:=hX.mJ;exact Snd.val cx.inv hex (cv:=.int .i64 _) (by rw [e1,hex' hx'];simp [Builtin.cap_,run_underlying hd,goInt]) (.int _ _) nid
    ·cases h1
  ·cases hc
 ·cases hc
theorem ajQ (cx:Cx P φ ψ N w0 w S m A h e a) {c:Call} (ho:o.op=.call c) {mxx:Bool} (hb:c.callee=.builtin (if mxx then .max else .min)):Ok P φ ψ N w0 w S m A h e a o:=by
 intro cop v u nid hc hs hn;rw [ho] at hc;have hc':adk φ mxx c.args.toList=some cop:=by simp only [cOp,hb,ku] at hc;cases mxx <;> exact hc
 clear hc;unfold adk at hc';split at hc'
 ·rename_i X Y hargs;simp only [qvq,qzj,qwx] at hc';obtain ⟨x,hx,y,hy,rfl⟩:=hc';have hX:=cx.opd hx;have hY:=cx.opd hy;have ea:=abV hargs;cases mxx
  ·have hex:execOp a.eval o=(do pure (.value (<- Builtin.min_ c.argTypes o.type #[a.eval X,a.eval Y]))):=iI ho hb (λ_=>by rw [ea];simp [builtin]);simp only [qjz,qWz,aJ,sMn] at hs;split at hs
   ·rename_i k n k' n' ex ey;split at hs
    ·rename_i hk;subst hk;cases hs;rw [ex] at hX;rw [ey] at hY;have e1:=hX.eu;have e2:=hY.eu;exact Snd.val cx.inv hex (cv:=.int k _) (by rw [e1,e2];simp [Builtin.min_,Builtin.min2]) (.int _ _) nid
    ·cases hs
   ·cases hs
  ·have hex:execOp a.eval o=(do pure (.value (<- Builtin.max_ c.argTypes o.type #[a.eval X,a.eval Y]))):=iI ho hb (λ_=>by rw [ea];simp [builtin]);simp only [qQx,aJ,sMx] at hs;split at hs
   ·rename_i k n k' n' ex ey;split at hs
    ·rename_i hk;subst hk;cases hs;rw [ex] at hX;rw [ey] at hY;have e1:=hX.eu;have e2:=hY.eu;exact Snd.val cx.inv hex (cv:=.int k _) (by rw [e1,e2];simp [Builtin.max_,Builtin.max2]) (.int _ _) nid
    ·cases hs
   ·cases hs
 ·cases hc'
end
end Go.Pav
end
section
set_option linter.unusedSimpArgs false
set_option linter.unusedVariables false
namespace Go.Pav
open Go
section
variable {P:Program} {φ:FuncId->Option Nat} {ψ:Nat->FuncId} {N:Nat} {w0 w:World} {S:Nat->Prop} {m:Nat->Nat × Nat} {A:Nat->Prop} {h:Heap} {e:Env} {a:Act} {o:Oper}
structure Ja (ψ:Nat->FuncId) (w:World) (S:Nat->Prop) (m:Nat->Nat × Nat) (A:Nat->Prop) (z:Nat) (es:List (List AV)) (g off:Nat):Prop where
 wide:∀ (k:Nat) (e:List AV),es[k]?=some e->e.length=z
 cell:∀ (k:Nat) (e:List AV) (j:Nat) (x:AV),es[k]?=some e->e[j]?=some x->x.cell=true/\∃ u,w.cell? ⟨g,off+(k * z+j),none⟩=some u/\VR ψ w S m A x u
theorem Ja.load {z:Nat} {es:List (List AV)} {g off:Nat} (hr:Ja ψ w S m A z es g off) (hz:0 < z) {n:Nat} (hn:n<=es.length) :
 ∃ vs,(∀ w2:World,w2.heap=w.heap->(loadCells ⟨g,off,none⟩ (n * z)).run P w2=.ok vs w2)/\EsR ψ w S m A z (es.take n) vs:=by
 have key:∀ q,q < n * z->∃ u,w.cell? ⟨g,off+q,none⟩=some u:=by intro q hq;have hk:q / z < n:=q7q (by rw [q1x];exact hq);have hj:q % z < z:=zyq _ hz;have he:es[q / z]?=some es[q / z]:=qqj qqq;have hw:=hr.wide _ _ he;obtain ⟨_,u,h2,_⟩:=hr.cell _ _ (q % z) _ he (qqj qqq);rw [q1x,Nat.div_add_mod] at h2;exact ⟨u,h2⟩
 refine ⟨((List.range (n * z)).map λq=>(w.cell? ⟨g,off+q,none⟩).getD Go.undef).toArray,λw2 hw2=>?_,?_,?_,?_⟩
 ·refine run_loadCells w2 ⟨g,off,none⟩ (n * z) _ λq hq=>?_;obtain ⟨u,hu⟩:=key q hq;rw [lT,hu];have:w2.cell? ⟨g,off+q,none⟩=w.cell? ⟨g,off+q,none⟩:=World.cell?_of_block (by rw [hw2]);rw [this,hu];rfl
 ·simp;rw [q7x hn]
 ·intro k e he;rw [qZj] at he;split at he
  ·exact hr.wide k e he
  ·cases he
 ·intro k e j x he hx;rw [qZj] at he;split at he
  ·rename_i hk;obtain ⟨h1,u,h2,h3⟩:=hr.cell k e j x he hx;have hj:j < z:=by rw [<- hr.wide k e he];exact (qxz.1 hx).1
   have hlt:=vS hk hj;refine ⟨h1,?_⟩;rw [qxj];simp only [qez,qWx,qrx hlt,qiq,qYx,h2];exact h3
  ·cases he
theorem Inv.Xe (i:Inv ψ N w0 w S m A h) {b z k len:Nat} {es:List (List AV)} {mu:Bool} (hb:get h b=some (.cells z es mu)) :
 (m b).2=z/\Ja ψ w S m A z ((es.drop k).take len) (m b).1 (k * z):=by
 obtain ⟨h0,h1,c,t,h2,h3,h4⟩:=i.obj b _ hb;have get:∀ (q:Nat) (e:List AV),((es.drop k).take len)[q]?=some e->es[k+q]?=some e:=by
  intro q e he;rw [qZj] at he;split at he
  ·rwa [qKq] at he
  ·cases he
 refine ⟨h0,λq e he=>h1 _ e (get q e he),λq e j x he hx=>?_⟩;obtain ⟨h5,u,h6,h7⟩:=h4 _ e j x (get q e he) hx;refine ⟨h5,u,?_,h7⟩;rw [cell_of_row w _ _ c t _ h2,<- h6];congr 1;rw [qYq];omega
theorem Ky (i:Inv ψ N w0 w S m A h) {z:Nat} (hz:0 < z) {xv:AV} {c:Value} (hx:VR ψ w S m A xv c) {xs:List (List AV)} (he:elems h z xv=some xs) :
 (Builtin.lenOf c).run P w=.ok xs.length w/\∀ n,n<=xs.length->∃ vs,(∀ w2:World,w2.heap=w.heap->(Builtin.firstCells z n c).run P w2=.ok vs w2)/\EsR ψ w S m A z (xs.take n) vs:=by
 cases xv <;> simp only [elems] at he <;> try (cases he;done)
 ·rename_i s;split at he
  ·rename_i hz1;subst hz1;cases he;rw [hx.jq];have hsz:(⟨⟨s⟩⟩:ByteArray).size=s.length:=rfl;refine ⟨by simp [Builtin.lenOf,hsz],λn hn=>?_⟩;rw [qQq] at hn;refine ⟨((s.take n).map λb=>Value.int .u8 b.toNat).toArray,λw2 _=>?_,?_,?_,?_⟩
   ·have hd:((⟨⟨s⟩⟩:ByteArray).extract 0 n).data=⟨s.take n⟩:=by rw [zxq];apply q9z;simp [zqx]
    simp only [Builtin.firstCells,hd,Sem.run_pure];congr 1;apply q9z;simp
   ·simp
   ·intro k e he;simp only [qZj,qWx] at he;split at he
    ·simp only [qyx] at he;obtain ⟨b,_,rfl⟩:=he;rfl
    ·cases he
   ·intro k e j x he hx;simp only [qZj,qWx] at he;split at he
    ·rename_i hk;simp only [qyx] at he;obtain ⟨b,hb,rfl⟩:=he;cases j with
     | succ j=>simp at hx
     | zero =>simp only [List.getElem?_cons_zero,qwx] at hx;subst hx;refine ⟨rfl,?_⟩;rw [qxj];simp only [Nat.mul_one,qbz,qez,qWx,qZj,qwz hk,hb,qiq,qYx];exact .int _ _
    ·cases he
  ·cases he
 ·cases he;rw [hx.gQ];refine ⟨by simp [Builtin.lenOf],λn hn=>?_⟩;simp only [qaj,Nat.le_zero_eq] at hn;subst hn;exact ⟨#[],λw2 _=>by simp [Builtin.firstCells],⟨by simp,by simp,by simp⟩⟩
 ·rename_i z' es ex;split at he
  ·rename_i hzz;subst hzz;cases he;rcases hx.pG with ⟨b,off,cap,cs,e1,hS,hw,hcap,hex,hcell,hrep⟩ | ⟨rfl,ad,k,e1,_⟩;case inr =>
    rw [e1];refine ⟨by simp [Builtin.lenOf],λn hn=>?_⟩;obtain rfl:n=0:=by simpa using hn
    exact ⟨#[],λw2 _=>by simp [Builtin.firstCells,loadCells,loadCellsFrom],⟨by simp,by simp,by simp⟩⟩
   rw [e1];refine ⟨by simp [Builtin.lenOf],λn hn=>?_⟩;have hr:Ja ψ w S m A z' xs b off:=⟨hw,λk e j x q1 q2=>by obtain ⟨q3,q4⟩:=hcell k e j x q1 q2;exact ⟨q3,cs k j,by rw [<- qgq];exact q4,(hrep k e j x q1 q2).open_⟩⟩;obtain ⟨vs,q1,q2⟩:=hr.load (P:=P) hz hn;exact ⟨vs,λw2 hw2=>by simp only [Builtin.firstCells];exact q1 w2 hw2,q2⟩
  ·cases he
 ·rename_i b z' k len cap ex;split at he
  ·rename_i hzz;subst hzz;split at he
   ·rename_i zb es mu hb;split at he
    ·rename_i hfit;cases he;obtain ⟨cc,e1,hA,hmz,_⟩:=hx.mJ;obtain ⟨h0,hr⟩:=i.Xe (k:=k) (len:=len) hb;have hzb:zb=z':=by rw [<- h0,hmz]
     subst hzb;have hl:((es.drop k).take len).length=len:=by simp;omega
     rw [e1];refine ⟨by simp [Builtin.lenOf,hl],λn hn=>?_⟩;obtain ⟨vs,q1,q2⟩:=hr.load (P:=P) hz hn;exact ⟨vs,λw2 hw2=>by simp only [Builtin.firstCells];exact q1 w2 hw2,q2⟩
    ·cases he
   ·cases he
  ·cases he
theorem EsR.one {z:Nat} {es:List (List AV)} {vs:Array Value} (hr:EsR ψ w S m A z es vs):∀ u ∈ vs.toList,u.oneCell'=true:=by
 intro u hu;obtain ⟨q,hq,e1⟩:=qvx hu;have hqs:q < vs.size:=by simpa using hq
 have hsz:=hr.size;by_cases hz:z=0
 ·subst hz;rw [Nat.mul_zero] at hsz;omega
 ·have hk:q / z < es.length:=q7q (by rw [q1x,<- hsz];exact hqs);have hj:q % z < z:=zyq _ (q9x hz);have he:es[q / z]?=some es[q / z]:=qqj hk;have hw:=hr.wide _ _ he;obtain ⟨h1,h2⟩:=hr.cell _ _ (q % z) _ he (qqj qqq);have h3:=h2.one h1;rw [q1x,Nat.div_add_mod] at h3;have:vs.getD q Go.undef=u:=by simp only [Array.getD,hqs,zyj];simpa using e1
  rwa [this] at h3
theorem Snd.overwrite {x:Sem Next} (i:Inv ψ N w0 w S m A h) {b z k:Nat} {es xs:List (List AV)} (hb:get h b=some (.cells z es true)) (hk:k+xs.length<=es.length) {vs:Array Value} (hx:EsR ψ w S m A z xs vs)
 {cv:Value} {v:AV}
 (hr:∀ (c:Array Value) (t:TypeId),w.heap[(m b).1]?=some (.cells c t (0,0))->es.length * z<=c.size ->
  x.run P w=.ok (.value cv) (w.setRow (m b).1 (c.toList.take (k * z)++vs.toList++c.toList.drop (k * z+vs.toList.length)).toArray))
 (hv:∀ {w':World},Le w S m A w' S m A->VR ψ w' S m A v cv) (nid:Nat) :
 Snd P ψ N w0 w S m A x (put h b (.cells z (es.take k++(xs++es.drop (k+xs.length))) true)) v nid:=by
 obtain ⟨h0,h1,_⟩:=i.obj b _ hb;have hvl:vs.toList.length=xs.length * z:=by simp [hx.size]
 have hmul:=qKj z hk;rw [qYq] at hmul;have get:∀ (q:Nat) (e:List AV),(es.take k++(xs++es.drop (k+xs.length)))[q]?=some e->(q < k/\es[q]?=some e)\/(k<=q/\q < k+xs.length/\xs[q - k]?=some e)\/(k+xs.length<=q/\es[q]?=some e):=by
  intro q e he;simp only [qbj,qKz,qZj,qKq] at he;have hm:min k es.length=k:=by omega
  rw [hm] at he;by_cases q1:q < k
  ·rw [qwz q1,qwz q1] at he;exact .inl ⟨q1,he⟩
  ·rw [qwq q1] at he;by_cases q2:q - k < xs.length
   ·rw [qwz q2] at he;exact .inr (.inl ⟨by omega,by omega,he⟩)
   ·rw [qwq q2] at he;right;right;refine ⟨by omega,?_⟩;rwa [show k+xs.length+(q - k - xs.length)=q by omega] at he
 refine Snd.write (z:=z) (p:=k * z) (vs:=vs.toList) i hb qqq (λc t hc hsz=>.inl (hr c t hc hsz)) ?_ (λq e he=>?_) (λq e j y he hy=>?_) hv nid
 ·simp;omega
 ·rcases get q e he with ⟨_,q2⟩ | ⟨_,_,q2⟩ | ⟨_,q2⟩
  ·exact h1 _ e q2
  ·exact hx.wide _ e q2
  ·exact h1 _ e q2
 ·rcases get q e he with ⟨q1,q2⟩ | ⟨q1,q1',q2⟩ | ⟨q1,q2⟩
  ·right;have hj:j < z:=by rw [<- h1 q e q2];exact (qxz.1 hy).1
   have:=vS q1 hj;exact ⟨by omega,e,q2,hy⟩
  ·left;obtain ⟨c1,u,c2,c3⟩:=hx.at_ q2 hy;have hj:j < z:=by rw [<- hx.wide _ e q2];exact (qxz.1 hy).1
   have hlt:=vS (show q - k < xs.length by omega) hj;have e2:q * z=k * z+(q - k) * z:=by rw [<- qYq];congr 1;omega
   refine ⟨by omega,by omega,c1,u,?_,c3⟩;rw [show q * z+j - k * z=(q - k) * z+j by omega,qeq];exact c2
  ·right;have:=qKj z q1;rw [qYq] at this;exact ⟨by omega,e,q2,hy⟩
end
end Go.Pav
end
section
set_option linter.unusedSimpArgs false
set_option linter.unusedVariables false
set_option linter.unusedSimpArgs false
namespace Go.Pav
open Go
section
variable {P:Program} {φ:FuncId->Option Nat} {ψ:Nat->FuncId} {N:Nat} {w0 w:World} {S:Nat->Prop} {m:Nat->Nat × Nat} {A:Nat->Prop} {h:Heap} {e:Env} {a:Act} {o:Oper}
structure Src (P:Program) (w:World) (t u ty el:TypeId) (i:TypeInfo) (z:Nat) (zv:Value) (x:Value) (n:Nat) (news:Array Value):Prop where
 room:∀ (base:Option Addr) (sLen sCap:Nat),sLen+n<=sCap->(Builtin.append_ #[t,u] ty #[.slice base sLen sCap,x]).run P w =
  (match base with | some ad=>((storeCells (ad.add (sLen * z)) news.toList).run P w).andThen λ_ w'=>.ok (.slice base (sLen+n) sCap) w' | none=>.ok (.slice base (sLen+n) sCap) w)
 grow:∀ (base:Option Addr) (sLen sCap:Nat) (olds:Array Value),¬ sLen+n<=sCap->(sLen+n) * (i.bytes+1)<=dD->i.bytes≠0 ->
  (∀ w2:World,w2.heap=w.heap->(Builtin.firstCells z sLen (.slice base sLen sCap)).run P w2=.ok olds w2) ->
  (Builtin.append_ #[t,u] ty #[.slice base sLen sCap,x]).run P w=.ok (.slice (some ⟨w.heap.size,0,none⟩) (sLen+n) (grownCap w (sLen+n) sCap el))
   (w.drew.alloc (.cells (olds++news++Builtin.zeroCells zv.cells (grownCap w (sLen+n) sCap el - (sLen+n))) el))
theorem zL {n b:Nat} (hn:n * (b+1)<=dD):n<=dD/\n * b<=140737488355328:=by have h1:n<=n * (b+1):=zzq n (Nat.succ_pos b);have h2:n * b<=n * (b+1):=Nat.mul_le_mul_left n (zkx b);simp only [dD] at hn |-;omega
theorem aaE {t u ty el:TypeId} {i:TypeInfo} {z:Nat} {zv x:Value} {n:Nat} {news:Array Value} {du:TypeDesc} (ht:P.underlying t=some (.slice el)) (hu:P.underlying u=some du) (hdu:∀ k,du≠.int k)
 (hi:P.info? el=some i) (hz:i.size=z) (hzv:i.zero=some zv) (hl:(Builtin.lenOf x).run P w=.ok n w) (hf:∀ w2:World,w2.heap=w.heap->(Builtin.firstCells z n x).run P w2=.ok news w2) :
 Src P w t u ty el i z zv x n news:=by
 have hno:(du matches .int _)=false:=by cases du <;> first | rfl | exact absurd rfl (hdu _)
 constructor
 ·intro base sLen sCap hroom;have hf0:=hf w rfl;unfold Builtin.append_;simp only [qez,List.getElem?_cons_zero,qhz,Sem.run_bind,run_underlying ht,run_underlying hu,Result.andThen_ok,sizeOf,typeInfo,run_program,hi,Sem.run_pure,hz,hno,qjz,qWz,hl,q9j,qQx];rw [qwz hroom];cases base with
  | none=>simp [hf0]
  | some ad=>simp [hf0]
 ·intro base sLen sCap olds hroom hb hb0 hold;obtain ⟨s1,s2⟩:=zL hb;have h63:¬ (((sLen+n:Nat):Int) > IntKind.i64.max/\(false=true\/i.bytes=0)):=by simp [hb0]
  have h48:¬ (Builtin.nextslicecap (sLen+n) sCap * i.bytes > 2 ^ 48):=by have:=growslice_fits (need:=sLen+n) (old:=sCap) (bytes:=i.bytes) qqq s2;omega
  have hd1:=hf w.drew rfl;have hd2:=hold w.drew rfl;unfold Builtin.append_;simp only [qez,List.getElem?_cons_zero,qhz,Sem.run_bind,run_underlying ht,run_underlying hu,Result.andThen_ok,sizeOf,typeInfo,run_program,hi,Sem.run_pure,hz,hno,qjz,qWz,hl,q9j,qQx];rw [qwq hroom];have h63':¬ (((sLen+n:Nat):Int) > IntKind.i64.max/\i.bytes=0):=by simp [hb0]
  simp only [qjz,zkj,h63',qWz,Sem.run_bind,Sem.run_pure,Result.andThen_ok,run_program,hi,h48,run_choose,Question.forced,run_askRoom];simp [hd1,hd2,zeroValue,typeInfo,hi,hzv,grownCap,Go.newRow]
theorem zh {z:List AV} {zc:Array Value} (h1:zc.size=z.length) (h3:∀ (j:Nat) (x:AV),z[j]?=some x->x.cell=true)
 (h4:∀ (j:Nat) (x:AV),z[j]?=some x->VR ψ w S m A x (zc.getD j Go.undef)) (n:Nat):EsR ψ w S m A z.length (List.replicate n z) (Builtin.zeroCells zc n):=by
 have:=Dz h1 h3 h4 n;unfold Builtin.zeroCells;rw [h1];rw [h1] at this;exact this
theorem Zj {t u ty el:TypeId} {i:TypeInfo} {z:Nat} {zv:Value} {n:Nat} {k k':IntKind} (ht:P.underlying t=some (.slice el)) (hu:P.underlying u=some (.int k'))
 (hi:P.info? el=some i) (hz:i.size=z) (hz0:z≠0) (hzv:i.zero=some zv) (_hsz:zv.cells.size=z) (hb:n * (i.bytes+1)<=dD) :
 Src P w t u ty el i z zv (.int k n) n (Builtin.zeroCells zv.cells n):=by
 obtain ⟨s1,s2⟩:=zL hb;have hw:=wrap_i64 s1;have hbig:¬ ((n:Int) * (i.bytes:Int) > 2 ^ 48):=by
  have h3:((n * i.bytes:Nat):Int)<=140737488355328:=by omega
  rw [Int.natCast_mul] at h3;omega
 have hap:∀ w2:World,(if n * z=0 then pure #[] else do pure (Builtin.zeroCells (<- zeroValue el).cells n):Sem (Array Value)).run P w2=.ok (Builtin.zeroCells zv.cells n) w2:=by
  intro w2;by_cases h0:n * z=0
  ·have hn0:n=0:=by rcases Nat.mul_eq_zero.1 h0 with h | h;exact h;exact absurd h hz0
   rw [qwz h0,hn0];simp only [Sem.run_pure];congr 1;apply q9z;simp [Builtin.zeroCells]
  ·rw [qwq h0];simp [zeroValue,typeInfo,hi,hzv]
 constructor
 ·intro base sLen sCap hroom;have hap0:=hap w;unfold Builtin.append_;simp only [qez,List.getElem?_cons_zero,qhz,Sem.run_bind,run_underlying ht,run_underlying hu,Result.andThen_ok,sizeOf,typeInfo,run_program,hi,Sem.run_pure,hz,qQx,asInt,asIntOf,hw];rw [qwq (show ¬ ((n:Int) < 0) by omega)];simp only [Sem.run_bind,Sem.run_pure,run_program,Result.andThen_ok,hi];rw [qwq hbig];simp only [Sem.run_bind,Sem.run_pure,Result.andThen_ok,qWj,zvj,qjz,qWz];rw [qwz hroom];simp only [Sem.run_bind,hap0,Result.andThen_ok];cases base with
  | none=>simp
  | some ad=>simp
 ·intro base sLen sCap olds hroom hb hb0 hold;obtain ⟨s1,s2⟩:=zL hb;have h48:¬ (Builtin.nextslicecap (sLen+n) sCap * i.bytes > 2 ^ 48):=by have:=growslice_fits (need:=sLen+n) (old:=sCap) (bytes:=i.bytes) qqq s2;omega
  have h63:¬ (((sLen+n:Nat):Int) > IntKind.i64.max):=by rw [IntKind.max_i64];simp only [dD] at s1;omega
  have hd1:=hap w.drew;have hd2:=hold w.drew rfl;unfold Builtin.append_;simp only [qez,List.getElem?_cons_zero,qhz,Sem.run_bind,run_underlying ht,run_underlying hu,Result.andThen_ok,sizeOf,typeInfo,run_program,hi,Sem.run_pure,hz,qQx,asInt,asIntOf,hw];rw [qwq (show ¬ ((n:Int) < 0) by omega)];simp only [Sem.run_bind,Sem.run_pure,run_program,Result.andThen_ok,hi];rw [qwq hbig];simp only [Sem.run_bind,Sem.run_pure,Result.andThen_ok,qWj,zvj,qjz,qWz];rw [qwq hroom];simp only [h63,q8j,qWz,Sem.run_bind,Sem.run_pure,Result.andThen_ok,run_program,hi,h48,run_choose,Question.forced,run_askRoom,qjz];have hd1':(if n * z=0 then pure #[] else do pure (Builtin.zeroCells (<- zeroValue el).cells n):Sem (Array Value)).run P { w with drawn:=w.drawn+1 }=.ok (Builtin.zeroCells zv.cells n) w.drew:=hd1;have hd2':(Builtin.firstCells z sLen (.slice base sLen sCap)).run P { w with drawn:=w.drawn+1 }=.ok olds w.drew:=hd2;simp only [hd2',Result.andThen_ok,hd1];simp [zeroValue,typeInfo,hi,hzv,grownCap,Go.newRow]
theorem EsR.append {z:Nat} {es fs:List (List AV)} {vs us:Array Value} (_hz:0 < z) (h1:EsR ψ w S m A z es vs) (h2:EsR ψ w S m A z fs us):EsR ψ w S m A z (es++fs) (vs++us):=by
 have get:∀ (k:Nat) (e:List AV),(es++fs)[k]?=some e->(k < es.length/\es[k]?=some e)\/(es.length<=k/\fs[k - es.length]?=some e):=by
  intro k e he;rw [qbj] at he;split at he
  ·rename_i hk;exact .inl ⟨hk,he⟩
  ·rename_i hk;exact .inr ⟨by omega,he⟩
 refine ⟨by simp [h1.size,h2.size,qYq],λk e he=>?_,λk e j x he hx=>?_⟩
 ·rcases get k e he with ⟨_,q⟩ | ⟨_,q⟩
  ·exact h1.wide _ e q
  ·exact h2.wide _ e q
 ·rcases get k e he with ⟨q1,q2⟩ | ⟨q1,q2⟩
  ·obtain ⟨c1,u,c2,c3⟩:=h1.at_ q2 hx;refine ⟨c1,?_⟩;have hlt:=(qWq.1 c2).1;rw [qxj,zqq hlt,c2];exact c3
  ·obtain ⟨c1,u,c2,c3⟩:=h2.at_ q2 hx;refine ⟨c1,?_⟩;have e2:k * z=es.length * z+(k - es.length) * z:=by rw [<- qYq];congr 1;omega
   rw [qxj,Array.getElem?_append_right (by rw [h1.size];omega)];rw [show k * z+j - vs.size=(k - es.length) * z+j by rw [h1.size];omega,c2];exact c3
theorem Snd.grown {x:Sem Next} (i:Inv ψ N w0 w S m A h) {nid:Nat} (hn:¬ A nid) {need cap z:Nat} {es:List (List AV)} {vs:Array Value} {el:TypeId} {zc:Array Value}
 (hr:x.run P w=.ok (.value (.slice (some ⟨w.heap.size,0,none⟩) need cap)) (w.drew.alloc (.cells (vs++Builtin.zeroCells zc (cap - need)) el)))
 (he:EsR ψ w S m A z es vs) (hl:es.length=need) (hcap:need<=cap) (hzc:zc.size=z) :
 Snd P ψ N w0 w S m A x (put h nid (.cells z es true)) (.sl nid z 0 need need false) nid:=by
 refine Snd.XD (w':=w.drew.alloc (.cells (vs++Builtin.zeroCells zc (cap - need)) el)) (c:=vs++Builtin.zeroCells zc (cap - need)) (t:=el) (cs:=vs) i hn hr rfl rfl rfl he (λq hq=>?_) qqz rfl hcap hcap (λhx=>by cases hx) ?_
 ·rw [zqq hq]
 ·rw [Array.size_append,size_zeroCells,he.size,hl,hzc,<- qYq];exact qKj z qqq
theorem afM (i:Inv ψ N w0 w S m A h) {nid:Nat} (hn:¬ A nid) {t u ty el:TypeId} {it:TypeInfo} {zv:Value} {z:Nat} (hz0:0 < z) (hzv:zv.cells.size=z) (hb0:it.bytes≠0) {x:Sem Next} {cs cx:Value} {xs:List (List AV)} {news:Array Value}
 (hx:∀ w' v,(Builtin.append_ #[t,u] ty #[cs,cx]).run P w=.ok v w'->x.run P w=.ok (.value v) w')
 (src:Src P w t u ty el it z zv cx xs.length news) (hnews:EsR ψ w S m A z xs news) {b cap:Nat} {es:List (List AV)} (hs:VR ψ w S m A (.sl b z 0 es.length cap false) cs) (hb:get h b=some (.cells z es true))
 (hbb:(es.length+xs.length) * (it.bytes+1)<=dD) :
 Snd P ψ N w0 w S m A x (put (Pav.del h b) nid (.cells z (es++xs) true)) (.sl nid z 0 (es.length+xs.length) (es.length+xs.length) false) nid:=by
 have hone:=hnews.one;obtain ⟨cc,e1,hA,hmz,hlen,hcap,hex,cur,tt,fr,hrow,hsz⟩:=hs.mJ;subst e1;have hlive:=i.live b _ hb rfl;obtain ⟨h0,h1,c,tc,h2,h3,h4⟩:=i.obj b _ hb;by_cases hroom:es.length+xs.length<=cc
 ·-- in place
  have heq:=h2.symm.trans hrow;simp only [qwx,Obj.cells.injEq] at heq;rw [<- heq.1,qVq] at hsz;have hmul:=qKj z hroom;rw [qYq,<- hnews.size] at hmul;have hfit:es.length * z+news.toList.length<=c.size:=by simp;omega
  have hst:=run_storeCells_at P (m b).1 (0 * z+es.length * z) tc news.toList 0 c w h2 qqx hone;simp only [q1q,qVq,qbz] at hst;have hrun:=src.room (some ⟨(m b).1,0 * z,none⟩) es.length cc hroom;simp only [lT,q1q,qVq,hst,Result.andThen_ok] at hrun;have hrow2:∀ c' t' fr,w.heap[(m b).1]?=some (.cells c' t' fr)->∃ c'',(w.setRow (m b).1 (c.toList.take (es.length * z)++news.toList++c.toList.drop (es.length * z+news.toList.length)).toArray).heap[(m b).1]?=some (.cells c'' t' fr)/\c''.size=c'.size:=by intro c' t' fr hc';rw [h2] at hc';cases hc';exact ⟨_,setRow_heap w _ c _ tc (0,0) h2,vY hfit⟩
  have le:=Le.adopt (m:=m) (A:=A) (nid:=nid) hlive.1 (λk hk=>setRow_other w _ k _ hk) (setRow_size w _ _) hrow2 hn ((m b).1,z);have hnew:(w.setRow (m b).1 (c.toList.take (es.length * z)++news.toList++c.toList.drop (es.length * z+news.toList.length)).toArray).heap[(m b).1]?=some (.cells (c.toList.take (es.length * z)++news.toList++c.toList.drop (es.length * z+news.toList.length)).toArray tc (0,0)):=setRow_heap w _ c _ tc (0,0) h2;refine ⟨_,_,S,gK m nid ((m b).1,z),sN A nid,.inl (hx _ _ (by rw [q1q];exact hrun)),?_,i.adopt hb rfl rfl hn z (λk hk=>setRow_other w _ k _ hk) (setRow_size w _ _) rfl rfl hrow2 ?_,le,λ_ _ hs=>hs,λ_ q=>q⟩
  ·have:=VR.sl (ψ:=ψ) (w:=w.setRow (m b).1 (c.toList.take (es.length * z)++news.toList++c.toList.drop (es.length * z+news.toList.length)).toArray) (S:=S) (m:=gK m nid ((m b).1,z)) (A:=sN A nid) nid z 0 (es.length+xs.length) (es.length+xs.length) false cc (.inr rfl) (by simp [gK]) hroom hroom (λq=>by cases q)
    ⟨_,tc,(0,0),by simp only [gK,qQx];exact hnew,by rw [vY hfit,qVq];exact hsz⟩
   simpa [gK] using this
  ·have hnl:news.toList.length=xs.length * z:=by simp [hnews.size]
   refine ⟨rfl,λq e he=>?_,_,tc,hnew,?_,λq e j y he hy=>?_⟩
   ·rw [qbj] at he;split at he
    ·exact h1 q e he
    ·exact hnews.wide _ e he
   ·rw [vY hfit,qlq,qYq];omega
   ·rw [qbj] at he;split at he
    ·rename_i hq;obtain ⟨c1,u',c2,c3⟩:=h4 q e j y he hy;have hj:j < z:=by rw [<- h1 q e he];exact (qxz.1 hy).1
     have hlt:=vS hq hj;exact ⟨c1,u',by rw [FY hfit,qwq qqq];exact c2,c3.mono le⟩
    ·rename_i hq;obtain ⟨c1,u',c2,c3⟩:=hnews.at_ he hy;have hlt:=(qWq.1 c2).1;rw [hnews.size] at hlt;have e2:q * z=es.length * z+(q - es.length) * z:=by rw [<- qYq];congr 1;omega
     refine ⟨c1,u',?_,c3.mono le⟩;rw [FY hfit,qwz qqq,show q * z+j - es.length * z=(q - es.length) * z+j by omega,qeq];exact c2
 ·-- a new block
  obtain ⟨_,hr0⟩:=i.Xe (k:=0) (len:=es.length) hb;have hl:(es.drop 0).take es.length=es:=by simp
  rw [hl] at hr0;obtain ⟨vs,q1,q2⟩:=hr0.load (P:=P) hz0 (qxq _);rw [qzz (qxq _)] at q2;have hr:=src.grow (some ⟨(m b).1,0 * z,none⟩) es.length cc vs hroom hbb hb0 (λw2 hw2=>by simp only [Builtin.firstCells];exact q1 w2 hw2);exact Snd.grown (i.del b) hn (hx _ _ hr) (q2.append hz0 hnews) qqz (grownCap_ge ..) hzv
theorem Ym (i:Inv ψ N w0 w S m A h) {nid:Nat} (hn:¬ A nid) {t u ty el:TypeId} {it:TypeInfo} {zv:Value} {z:Nat} (hz0:0 < z) (hzv:zv.cells.size=z) (hb0:it.bytes≠0) {x:Sem Next} {cs cx:Value} {sv:AV} {xs:List (List AV)} {news:Array Value}
 (hx:∀ w' v,(Builtin.append_ #[t,u] ty #[cs,cx]).run P w=.ok v w'->x.run P w=.ok (.value v) w')
 (src:Src P w t u ty el it z zv cx xs.length news) (hnews:EsR ψ w S m A z xs news) (hs:VR ψ w S m A sv cs) {v:AV} {up:Upd} (hv:kW h nid z it.bytes sv xs=some (v,up)) :
 Snd P ψ N w0 w S m A x (aQ h up) v nid:=by
 cases sv <;> simp only [kW] at hv <;> try (cases hv;done)
 ·-- nil
  have e1:=hs.gQ;subst e1;cases xs with
  | nil =>simp only at hv;cases hv;refine Snd.quiet i (hx _ _ ?_) .bF nid;rw [src.room none 0 0 qqz];simp
  | cons x0 xr =>
   simp only [Pav.newRow] at hv;split at hv
   ·rename_i hb;cases hv;have hr:=src.grow none 0 0 #[] qqz (by rw [qVq];exact hb) hb0 (λw2 _=>by simp [Builtin.firstCells]);rw [qVq,q4q] at hr;exact Snd.grown i hn (hx _ _ hr) hnews rfl (grownCap_ge ..) hzv
   ·cases hv
 ·-- read-only
  rename_i z' es ex;split at hv
  ·rename_i hzz;subst hzz;rcases hs.pG with ⟨b,off,cap,f,e1,hS,hw,hcap,hex,hcell,hrep⟩ | ⟨rfl,ad,kk,e1,hkk⟩;case inr =>
    subst e1;cases xs with
    | nil =>
     simp only at hv;cases hv;have hnil:news=#[]:=by have:=hnews.size;simp at this;exact this
     subst hnil;refine Snd.quiet i (hx _ _ ?_) hs nid;rw [src.room (some ad) 0 kk qqz];simp [storeCells]
    | cons x0 xr =>
     simp only at hv;split at hv
     ·rename_i hex';obtain rfl:=hkk hex';simp only [Pav.newRow] at hv;split at hv
      ·rename_i hb;simp only [qaj,qVq,qJj] at hv hb;cases hv;have hr:=src.grow (some ad) 0 0 #[] qqz (by rw [qVq];exact hb) hb0 (λw2 _=>by simp [Builtin.firstCells,loadCells,loadCellsFrom]);rw [qVq,q4q] at hr;exact Snd.grown i hn (hx _ _ hr) hnews rfl (grownCap_ge ..) hzv
      ·cases hv
     ·cases hv
   subst e1;cases xs with
   | nil =>
    simp only at hv;cases hv;have hnil:news=#[]:=by have:=hnews.size;simp at this;exact this
    subst hnil;refine Snd.quiet i (hx _ _ ?_) hs nid;rw [src.room _ _ _ (by simp;exact hcap)];simp [storeCells]
   | cons x0 xr =>
    simp only at hv;split at hv
    ·rename_i hext;simp only [Pav.newRow] at hv;split at hv
     ·rename_i hb;cases hv;have hce:=hex hext;subst hce;have hr0:Ja ψ w S m A z' es b off:=⟨hw,λk e j y q1 q2=>by obtain ⟨q3,q4⟩:=hcell k e j y q1 q2;exact ⟨q3,f k j,by rw [<- qgq];exact q4,(hrep k e j y q1 q2).open_⟩⟩;obtain ⟨vs,q1,q2⟩:=hr0.load (P:=P) hz0 (qxq _);rw [qzz (qxq _)] at q2;have hr:=src.grow (some ⟨b,off,none⟩) es.length es.length vs qqz hb hb0 (λw2 hw2=>by simp only [Builtin.firstCells];exact q1 w2 hw2);exact Snd.grown i hn (hx _ _ hr) (q2.append hz0 hnews) qqz (grownCap_ge ..) hzv
     ·cases hv
    ·cases hv
  ·cases hv
 ·-- the frame's own
  rename_i b z' k len cap ex;split at hv
  ·rename_i hzz;subst hzz;obtain ⟨cc,e1,hA,hmz,hlen,hcap,hex,cur,tt,fr,hrow,hsz⟩:=hs.mJ;subst e1;cases xs with
   | nil =>
    simp only at hv;cases hv;have hnil:news=#[]:=by have:=hnews.size;simp at this;exact this
    subst hnil;refine Snd.quiet i (hx _ _ ?_) hs nid;rw [src.room _ _ _ (by simp;exact hlen)];simp [storeCells]
   | cons x0 xr =>
    simp only [ad6] at hv;split at hv
    ·rename_i zb es mu hb;split at hv
     ·rename_i hzb;subst hzb;have hone:=hnews.one;have hxl:(x0::xr).length=xr.length+1:=rfl;split at hv
      ·rename_i hle;split at hv
       ·rename_i hc;obtain ⟨rfl,hfit⟩:=hc;cases hv;have hkl:k+len+(x0::xr).length<=es.length:=by omega
        have key:=Snd.overwrite (P:=P) (x:=x) (k:=k+len) i hb hkl hnews (cv:=.slice (some ⟨(m b).1,k * zb,none⟩) (len+(x0::xr).length) cc) (v:=.sl b zb k (len+(x0::xr).length) cap ex) (λc t' hc hsz'=>?_) (λle=>?_) nid
        ·rw [show k+(len+(x0::xr).length)=k+len+(x0::xr).length by omega];exact key
        ·refine hx _ _ ?_;rw [src.room _ _ _ qqq];have hmul:=qKj zb hkl;rw [qYq,qYq,<- hnews.size] at hmul;have hst:=run_storeCells_at P (m b).1 (k * zb+len * zb) t' news.toList 0 c w hc qqx hone;simp only [qbz] at hst;rw [qYq];simp only [lT,hst,Result.andThen_ok]
        ·have:=hs.mono le;obtain ⟨cc',e2,q1,q2,q3,q4,q5,q6⟩:=this.mJ;cases e2;exact .sl b zb k _ cap ex cc q1 q2 qqq q4 q5 q6
       ·cases hv
      ·rename_i hgt;split at hv
       ·rename_i hext;split at hv
        ·rename_i hfit;simp only [Pav.newRow] at hv;split at hv
         ·rename_i hbb;cases hv;have hce:=hex hext;obtain ⟨_,hr0⟩:=i.Xe (k:=k) (len:=len) hb;have hl:((es.drop k).take len).length=len:=by simp;omega
          obtain ⟨vs,q1,q2⟩:=hr0.load (P:=P) hz0 (n:=len) qqq;rw [qzz qqq] at q2;have hr:=src.grow (some ⟨(m b).1,k * zb,none⟩) len cc vs qqq hbb hb0 (λw2 hw2=>by simp only [Builtin.firstCells];exact q1 w2 hw2);exact Snd.grown i hn (hx _ _ hr) (q2.append hz0 hnews) qqx (grownCap_ge ..) hzv
         ·cases hv
        ·cases hv
       ·rename_i hnex;split at hv
        ·rename_i hc;obtain ⟨rfl,rfl,hel,hbb⟩:=hc;subst hel;cases hv;have hexf:ex=false:=by simpa using hnex
         subst hexf;exact afM i hn hz0 hzv hb0 hx src hnews hs hb hbb
        ·cases hv
     ·cases hv
    ·cases hv
  ·cases hv
theorem amo (cx:Cx P φ ψ N w0 w S m A h e a) {c:Call} (ho:o.op=.call c) (hb:c.callee=.builtin .append):Ok P φ ψ N w0 w S m A h e a o:=by
 intro cop v up nid hc hs hn;rw [ho] at hc;simp only [cOp,hb,ku] at hc;unfold Ot at hc;split at hc
 ·rename_i S0 X t u hargs htys;simp only [qvq,qzj] at hc;obtain ⟨s,hsx,x,hx,d,hd,hc⟩:=hc;have hS:=cx.opd hsx;have hX:=cx.opd hx;have ea:=abV hargs;have et:=abV htys;have hex:∀ w' v,(Builtin.append_ #[t,u] o.type #[a.eval S0,a.eval X]).run P w=.ok v w'->(execOp a.eval o).run P w=.ok (.value v) w':=by intro w' v hr;rw [iI (s:=Builtin.append_ #[t,u] o.type #[a.eval S0,a.eval X]) ho hb (λ_=>by rw [ea,et];simp [builtin])];simp [hr]
  split at hc
  ·rename_i el;simp only [qzj] at hc;obtain ⟨z,hz,it,hit,hc⟩:=hc;split at hc
   ·cases hc
   ·rename_i hne;obtain ⟨it',zv,hit',hzv,z1,z2,z3,z4⟩:=iC (ψ:=ψ) (w:=w) (S:=S) (m:=m) (A:=A) hz;rw [hit] at hit';cases hit';have hz0:0 < z.length:=q9x λq=>hne (.inl q);have hb0:it.bytes≠0:=λq=>hne (.inr q);simp only [qzj] at hc;obtain ⟨du,hdu,hc⟩:=hc;have plain:(∀ k,du≠.int k)->cop=.app z it.bytes false s x->Snd P ψ N w0 w S m A (execOp a.eval o) (aQ h up) v nid:=by intro hno hcop;subst hcop;simp only [aJ,U7,qjz,qWz] at hs;obtain ⟨xs,hxs,hs'⟩:=au hs;obtain ⟨q1,q2⟩:=Ky (P:=P) cx.inv hz0 hX hxs;obtain ⟨news,q3,q4⟩:=q2 xs.length (qxq _);rw [qzz (qxq _)] at q4;exact Ym cx.inv hn hz0 z1 hb0 hex (aaE hd hdu hno hit z2 hzv q1 q3) q4 hS hs'
    split at hc
    ·cases hc;simp only [aJ,U7,qQx] at hs;split at hs
     ·rename_i k n ei;obtain ⟨n',hn',hs'⟩:=au hs;cases nat?_some hn';replace hs:=hs';clear hs';split at hs
      ·rename_i hbb;rw [ei] at hX;have eX:=hX.eu;have src:=Zj (P:=P) (w:=w) (t:=t) (u:=u) (ty:=o.type) (k:=k) hd hdu hit z2 (Nat.pos_iff_ne_zero.1 hz0) hzv z1 hbb;rw [<- eX] at src;have hl:(List.replicate n' z).length=n':=by simp
       have src':Src P w t u o.type el it z.length zv (a.eval X) (List.replicate n' z).length (Builtin.zeroCells zv.cells n'):=by rw [hl];exact src
       exact Ym cx.inv hn hz0 z1 hb0 hex src' (zh z1 z3 z4 n') hS hs
      ·cases hs
     ·cases hs
    ·cases hc;exact plain (λk q=>by cases q) rfl
    ·cases hc;exact plain (λk q=>by cases q) rfl
    ·cases hc
  ·cases hc
 ·cases hc
theorem ale (cx:Cx P φ ψ N w0 w S m A h e a) {c:Call} (ho:o.op=.call c) (hb:c.callee=.builtin .copy):Ok P φ ψ N w0 w S m A h e a o:=by
 intro cop v up nid hc hs hn;rw [ho] at hc;simp only [cOp,hb,ku] at hc;unfold acz at hc;split at hc
 ·rename_i D X t u hargs htys;simp only [qvq,qzj] at hc;obtain ⟨dd,hdx,x,hx,d,hd,hc⟩:=hc;have hD:=cx.opd hdx;have hX:=cx.opd hx;have ea:=abV hargs;have et:=abV htys;have hex:∀ w' v,(Builtin.copy_ #[t,u] o.type #[a.eval D,a.eval X]).run P w=.ok v w'->(execOp a.eval o).run P w=.ok (.value v) w':=by intro w' v hr;rw [iI (s:=Builtin.copy_ #[t,u] o.type #[a.eval D,a.eval X]) ho hb (λ_=>by rw [ea,et];simp [builtin])];simp [hr]
  split at hc
  ·rename_i el;simp only [qzj] at hc;obtain ⟨z,hz,hc⟩:=hc;split at hc
   ·cases hc
   ·rename_i hz0;cases hc;simp only [aJ,afL] at hs;obtain ⟨xs,hxs,hs'⟩:=au hs;replace hs:=hs';clear hs';obtain ⟨q1,q2⟩:=Ky (P:=P) cx.inv (q9x hz0) hX hxs;have run:∀ base dLen dCap news n,n=Nat.min xs.length dLen->a.eval D=.slice base dLen dCap->(∀ w2:World,w2.heap=w.heap->(Builtin.firstCells z n (a.eval X)).run P w2=.ok news w2) ->
     (Builtin.copy_ #[t,u] o.type #[a.eval D,a.eval X]).run P w=(match base with | some ad=>((storeCells ad news.toList).run P w).andThen λ_ w'=>.ok (.int .i64 (n:Int)) w' | none=>.ok (.int .i64 (n:Int)) w):=by
     intro base dLen dCap news n hn e1 hf;have hf0:=hf w rfl;rw [e1];unfold Builtin.copy_;simp only [qez,List.getElem?_cons_zero,qhz,Sem.run_bind,run_underlying hd,Result.andThen_ok,q1,fE hz];rw [<- hn];clear hn;cases base
     ·simp only [Sem.run_bind,hf0,Result.andThen_ok,Sem.run_pure];rfl
     ·simp only [Sem.run_bind,hf0,Result.andThen_ok,Sem.run_pure];rfl
    cases hxv:dd.ev e <;> rw [hxv] at hs hD <;> simp only [uD] at hs <;> try (cases hs;done)
    ·cases hs;have e1:=hD.gQ;obtain ⟨news,q3,q4⟩:=q2 (min xs.length 0) (zxj _ _);have hr:=run none 0 0 news 0 qqz e1 (by simpa using q3);exact Snd.quiet cx.inv (hex _ _ hr) (.int _ _) nid
    ·rename_i z' es ex;cases es with
     | cons _ _=>cases hs
     | nil =>
      cases hs;obtain ⟨ad,cap,e1⟩:∃ (ad:Addr) (cap:Nat),_=Value.slice (some ad) 0 cap:=by
       rcases hD.pG with ⟨b,off,cap,_,e1,_⟩ | ⟨_,ad,_,e1,_⟩
       ·exact ⟨_,_,e1⟩
       ·exact ⟨_,_,e1⟩
      obtain ⟨news,q3,q4⟩:=q2 (min xs.length 0) (zxj _ _);have hr:=run _ _ _ news 0 qqz e1 (by simpa using q3);have hnil:news=#[]:=by have:=q4.size;simp at this;exact this
      subst hnil;simp only [storeCells,Sem.run_pure,Result.andThen_ok] at hr;exact Snd.quiet cx.inv (hex _ _ hr) (.int _ _) nid
    ·rename_i b z' k len cap ex;split at hs
     ·rename_i hzz;subst hzz;obtain ⟨cc,e1,hA,hmz,_⟩:=hD.mJ;obtain ⟨news,q3,q4⟩:=q2 (min xs.length len) (zxj _ _);have hr:=run _ _ _ news _ rfl e1 q3;simp only at hr;rw [show Nat.min xs.length len=min xs.length len from rfl] at hr;split at hs
      ·rename_i h0;cases hs;rw [h0] at q4;have hnil:news=#[]:=by have:=q4.size;simp at this;exact this
       subst hnil;rw [h0] at hr;simp only [storeCells,Sem.run_pure,Result.andThen_ok] at hr;exact Snd.quiet cx.inv (hex _ _ hr) (.int _ _) nid
      ·unfold WT at hs;split at hs
       ·rename_i zb es mu hb';split at hs
        ·rename_i hcc;obtain ⟨rfl,rfl,hfit⟩:=hcc;cases hs;have hl:(xs.take (min xs.length len)).length=min xs.length len:=by simp
         have hkl:k+(xs.take (min xs.length len)).length<=es.length:=by rw [hl];omega
         have key:=Snd.overwrite (P:=P) (x:=execOp a.eval o) (k:=k) cx.inv hb' hkl q4 (cv:=.int .i64 ((min xs.length len:Nat):Int)) (v:=.int .i64 ((min xs.length len:Nat):Int)) (λc' t' hc hsz'=>?_) (λ_=>.int _ _) nid
         ·rw [hl] at key;exact key
         ·have hmul:=qKj zb hkl;rw [qYq,<- q4.size] at hmul;have hst:=run_storeCells_at P (m b).1 (k * zb) t' news.toList 0 c' w hc qqx q4.one;simp only [qbz] at hst;rw [hst] at hr;exact hex _ _ hr
        ·cases hs
       ·cases hs
     ·cases hs
  ·cases hc
 ·cases hc
theorem akt (cx:Cx P φ ψ N w0 w S m A h e a) {c:Call} (ho:o.op=.call c) (hb:c.callee=.builtin .clear):Ok P φ ψ N w0 w S m A h e a o:=by
 intro cop v up nid hc hs hn;rw [ho] at hc;simp only [cOp,hb,ku] at hc;unfold Xi at hc;split at hc
 ·rename_i D t hargs htys;simp only [qvq,qzj] at hc;obtain ⟨dd,hdx,d,hd,hc⟩:=hc;have hD:=cx.opd hdx;have ea:c.args=#[D]:=by rw [<- hargs]
  have et:c.argTypes=#[t]:=by rw [<- htys]
  have hex:∀ w' v,(Builtin.clear_ #[t] o.type #[a.eval D]).run P w=.ok v w'->(execOp a.eval o).run P w=.ok (.value v) w':=by intro w' v hr;rw [iI (s:=Builtin.clear_ #[t] o.type #[a.eval D]) ho hb (λ_=>by rw [ea,et];simp [builtin])];simp [hr]
  split at hc
  ·rename_i el;simp only [qzj] at hc;obtain ⟨z,hz,hc⟩:=hc;split at hc
   ·cases hc
   ·rename_i hz0;cases hc;obtain ⟨it,zv,hit,hzv,z1,z2,z3,z4⟩:=iC (ψ:=ψ) (w:=w) (S:=S) (m:=m) (A:=A) hz;simp only [aJ,agH] at hs;have run0:∀ base cap,a.eval D=.slice base 0 cap->(Builtin.clear_ #[t] o.type #[a.eval D]).run P w=.ok (.tuple #[]) w:=by intro base cap e1;rw [e1];unfold Builtin.clear_;cases base <;> simp [Sem.run_bind,run_underlying hd]
    have run1:∀ ad n cap,n≠0->a.eval D=.slice (some ad) n cap->(Builtin.clear_ #[t] o.type #[a.eval D]).run P w=((storeCells ad (Builtin.zeroCells zv.cells n).toList).run P w).andThen λ_ w'=>.ok (.tuple #[]) w':=by intro ad n cap h0 e1;rw [e1];obtain ⟨n,rfl⟩:∃ k,n=k+1:=⟨n - 1,by omega⟩;unfold Builtin.clear_;simp [Sem.run_bind,run_underlying hd,zeroValue,typeInfo,hit,hzv]
    cases hxv:dd.ev e <;> rw [hxv] at hs hD <;> simp only [Ig] at hs <;> try (cases hs;done)
    ·cases hs;exact Snd.quiet cx.inv (hex _ _ (run0 none 0 hD.gQ)) (.tup _ _ rfl qqz) nid
    ·rename_i z' es ex;cases es with
     | cons _ _=>cases hs
     | nil =>
      cases hs;obtain ⟨ad,cap,e1⟩:∃ (ad:Addr) (cap:Nat),_=Value.slice (some ad) 0 cap:=by
       rcases hD.pG with ⟨b,off,cap,_,e1,_⟩ | ⟨_,ad,_,e1,_⟩
       ·exact ⟨_,_,e1⟩
       ·exact ⟨_,_,e1⟩
      exact Snd.quiet cx.inv (hex _ _ (run0 _ _ e1)) (.tup _ _ rfl qqz) nid
    ·rename_i b z' k len cap ex;split at hs
     ·rename_i hzz;subst hzz;obtain ⟨cc,e1,hA,hmz,_⟩:=hD.mJ;split at hs
      ·rename_i h0;subst h0;cases hs;exact Snd.quiet cx.inv (hex _ _ (run0 _ _ e1)) (.tup _ _ rfl qqz) nid
      ·rename_i h0;have hr:=run1 _ _ _ h0 e1;have q4:=zh z1 z3 z4 len;unfold ae9 at hs;split at hs
       ·rename_i zb es mu hb';split at hs
        ·rename_i hcc;obtain ⟨rfl,rfl,hfit⟩:=hcc;cases hs;have hl:(List.replicate len z).length=len:=by simp
         have hkl:k+(List.replicate len z).length<=es.length:=by rw [hl];omega
         have key:=Snd.overwrite (P:=P) (x:=execOp a.eval o) (k:=k) cx.inv hb' hkl q4 (cv:=.tuple #[]) (v:=.tup []) (λc' t' hc hsz'=>?_) (λ_=>.tup _ _ rfl qqz) nid
         ·rw [hl] at key;exact key
         ·have hmul:=qKj z.length hkl;rw [qYq,<- q4.size] at hmul;have hst:=run_storeCells_at P (m b).1 (k * z.length) t' (Builtin.zeroCells zv.cells len).toList 0 c' w hc qqx q4.one;simp only [qbz] at hst;rw [hst] at hr;exact hex _ _ hr
        ·cases hs
       ·cases hs
     ·cases hs
  ·cases hc
 ·cases hc
end
end Go.Pav
end
section
set_option linter.unusedSimpArgs false
set_option linter.unusedVariables false
set_option linter.unusedSimpArgs false
namespace Go.Pav
open Go
section
variable {P:Program} {φ:FuncId->Option Nat} {ψ:Nat->FuncId} {N:Nat} {w0 w:World} {S:Nat->Prop} {m:Nat->Nat × Nat} {A:Nat->Prop} {h:Heap} {e:Env} {a:Act} {o:Oper}
theorem JH {x y:AV} {b:Bool} (hb:iO x y=some b) {cx cy:Value} (hx:VR ψ w S m A x cx) (hy:VR ψ w S m A y cy) {kd:Nat} {t:TypeId} (ht:mY P t=some kd) (hk:kT kd x=true) :
 ∃ d,P.underlying t=some d/\Instr.sameNow d cx cy=some b:=by
 have hkk:=jI ht;unfold iO at hb;split at hb
 ·split at hb
  ·rename_i hk';subst hk';cases hb;have h0:kd=0:=by simpa [kT] using hk
   subst h0;rcases hkk with ⟨k',hk',_⟩ | ⟨_,h⟩ | ⟨_,h⟩
   ·cases hx.eu;cases hy.eu;exact ⟨_,hk',by simp [Instr.sameNow]⟩
   ·cases h
   ·cases h
  ·cases hb
 ·cases hb;have h0:kd=1:=by simpa [kT] using hk
  subst h0;rcases hkk with ⟨k',_,h⟩ | ⟨hk',_⟩ | ⟨_,h⟩
  ·cases h
  ·cases hx.jq;cases hy.jq;refine ⟨_,hk',?_⟩;simp only [Instr.sameNow];rw [beq_toListBytes,lK,lK]
  ·cases h
 ·cases hb;have h0:kd=2:=by simpa [kT] using hk
  subst h0;rcases hkk with ⟨k',_,h⟩ | ⟨_,h⟩ | ⟨hk',_⟩
  ·cases h
  ·cases h
  ·cases hx.iD;cases hy.iD;exact ⟨_,hk',by simp [Instr.sameNow]⟩
 ·cases hb
def qm (ψ:Nat->FuncId) (w:World) (S:Nat->Prop) (m:Nat->Nat × Nat) (A:Nat->Prop):List (AV × AV)->List MapEntry->Prop
 | [],[]=>True
 | (k,v)::r,x::s=>k.cell=true/\VR ψ w S m A k x.key/\VR ψ w S m A v x.val/\qm ψ w S m A r s
 | _,_=>False
theorem qm.of:∀ (es:List (AV × AV)) (xs:List MapEntry),xs.length=es.length->(∀ (i:Nat) (k v:AV),es[i]?=some (k,v)->k.cell=true/\∃ x,xs[i]?=some x/\VR ψ w S m A k x.key/\VR ψ w S m A v x.val)->qm ψ w S m A es xs
 | [],[],_,_=>trivial
 | [],_::_,h,_=>by simp at h
 | _::_,[],h,_=>by simp at h
 | (k,v)::r,x::s,h1,h2=>by obtain ⟨q1,x',q2,q3,q4⟩:=h2 0 k v qqz;simp at q2;subst q2;refine ⟨q1,q3,q4,qm.of r s (by simpa using h1) λi k v hi=>?_⟩;obtain ⟨r1,x',r2,r3⟩:=h2 (i+1) k v (by simpa using hi);exact ⟨r1,x',by simpa using r2,r3⟩
theorem qm.to:∀ (es:List (AV × AV)) (xs:List MapEntry),qm ψ w S m A es xs->xs.length=es.length/\∀ (i:Nat) (k v:AV),es[i]?=some (k,v)->k.cell=true/\∃ x,xs[i]?=some x/\VR ψ w S m A k x.key/\VR ψ w S m A v x.val
 | [],[],_=>⟨rfl,λi k v hi=>by simp at hi⟩
 | [],_::_,h=>h.elim
 | _::_,[],h=>h.elim
 | (k,v)::r,x::s,h=>by
  obtain ⟨h1,h2,h3,h4⟩:=h;obtain ⟨q1,q2⟩:=qm.to r s h4;refine ⟨by simp [q1],λi k' v' hi=>?_⟩;cases i with
  | zero =>simp at hi;obtain ⟨rfl,rfl⟩:=hi;exact ⟨h1,x,by simp,h2,h3⟩
  | succ i =>obtain ⟨r1,x',r2,r3⟩:=q2 i k' v' (by simpa using hi);exact ⟨r1,x',by simpa using r2,r3⟩
theorem Jk {kd:Nat} {t:TypeId} {d:TypeDesc} (ht:mY P t=some kd) (hd:P.underlying t=some d) {x:AV} {cx:Value} (hx:VR ψ w S m A x cx) (hk:kT kd x=true) :
 ∀ (es:List (AV × AV)) (xs:List MapEntry) (k:Nat) (r:Option AV),qm ψ w S m A es xs->mQ es x=some r ->
  ∃ q,Instr.findNow d cx xs k=some q/\(match r,q with | none,none=>True | some v,some (_,c)=>VR ψ w S m A v c | _,_=>False)
 | [],[],k,r,_,h=>by simp only [mQ] at h;cases h;exact ⟨none,rfl,trivial⟩
 | [],_::_,_,_,h,_=>h.elim
 | _::_,[],_,_,h,_=>h.elim
 | (ky,v)::es,y::xs,k,r,h1,h2=>by
  obtain ⟨_,c2,c3,c4⟩:=h1;simp only [mQ] at h2;obtain ⟨b,hb,h2⟩:=au h2;obtain ⟨d',hd',hs⟩:=JH (P:=P) hb hx c2 ht hk;rw [hd] at hd';cases hd';cases b with
  | true =>simp only [qQx,qwx] at h2;subst h2;exact ⟨some (k,y.val),by simp only [Instr.findNow,hs],c3⟩
  | false =>simp only [qjz,qWz] at h2;obtain ⟨q,q1,q2⟩:=Jk ht hd hx hk es xs (k+1) r c4 h2;exact ⟨q,by simp only [Instr.findNow,hs];exact q1,q2⟩
theorem oM {kd:Nat} {t:TypeId} (ht:mY P t=some kd) (emp:Bool) (v:Value) (n:Nat):(Instr.checkKey emp (n+1) t v).run P w=.ok () w:=by rcases jI ht with ⟨k',hk',_⟩ | ⟨hk',_⟩ | ⟨hk',_⟩ <;> simp [Instr.checkKey,run_underlying hk']
theorem look_ok (cx:Cx P φ ψ N w0 w S m A h e a) {t:TypeId} {M K:Operand} {ok:Bool} (ho:o.op=.lookup t M K ok):Ok P φ ψ N w0 w S m A h e a o:=by
 intro cop v u nid hc hs hn;rw [ho] at hc;simp only [cOp,qvq,qzj] at hc;obtain ⟨mm,hm,k,hk,d,hd,hc⟩:=hc;have hM:=cx.opd hm;have hK:=cx.opd hk;split at hc
 ·rename_i kt et;simp only [qzj,qwx] at hc;obtain ⟨it,hit,zc,hzc,z,hz,kd,hkd,rfl⟩:=hc;have hZ:VR ψ w S m A z zc:=XZ hz;obtain ⟨dk,hdk⟩:∃ dk,P.underlying kt=some dk:=by rcases jI hkd with ⟨k',hk',_⟩ | ⟨hk',_⟩ | ⟨hk',_⟩ <;> exact ⟨_,hk'⟩
  have hex:execOp a.eval o=(do pure (.value (<- Instr.lookup t (a.eval M) (a.eval K) ok))):=by simp [execOp,ho]
  have fin:∀ (r:Option AV) (es:Array MapEntry),((a.eval M=.map none/\es=#[])\/∃ g clock,a.eval M=.map (some g)/\w.heap[g]?=some (.map es clock)) ->
   (∃ q,Instr.findNow dk (a.eval K) es.toList 0=some q/\(match r,q with | none,none=>True | some v,some (_,c)=>VR ψ w S m A v c | _,_=>False)) ->
   ∃ cv,(Instr.lookup t (a.eval M) (a.eval K) ok).run P w=.ok cv w/\VR ψ w S m A (found z ok r) cv:=by
   intro r es hes hq;obtain ⟨q,q1,q2⟩:=hq;have hfk:(Instr.findKey kt (a.eval K) es.toList).run P w=.ok q w:=by unfold Instr.findKey;rw [Sem.run_bind,run_underlying hdk];simp only [Result.andThen_ok,q1,Sem.run_pure]
   have hrun:∀ (f:Option (Nat × Value)->Sem Value),f=(λr=>do
    let (v,ok') <- match r with
     | some (_,v)=>pure (v,true)
     | none=>pure (<- zeroValue et,false)
    pure (if ok then .tuple #[v,.bool ok'] else v))->(Instr.lookup t (a.eval M) (a.eval K) ok).run P w=(f q).run P w:=by
    intro f hf;subst hf;unfold Instr.lookup;simp only [Sem.run_bind,run_underlying hd,Result.andThen_ok];rcases hes with ⟨e1,e2⟩ | ⟨g,clock,e1,e2⟩
    ·subst e2;rw [e1];simp only [Sem.run_pure,Result.andThen_ok,oM hkd,Sem.run_bind,hfk];cases q <;> rfl
    ·rw [e1];simp only [Sem.run_bind,run_getObj_map w _ _ _ e2,Sem.run_pure,Result.andThen_ok,oM hkd,hfk];cases q <;> rfl
   rw [hrun _ rfl];simp only [Sem.run_bind];cases r with
   | none =>
    cases q with
    | some q=>exact q2.elim
    | none =>
     simp only [Sem.run_bind,zeroValue,typeInfo,run_program,Result.andThen_ok,hit,hzc,Sem.run_pure];cases ok
     ·exact ⟨zc,rfl,hZ⟩
     ·refine ⟨.tuple #[zc,.bool false],rfl,.tup _ _ rfl λj y hj=>?_⟩;cases j with
      | zero=>simp at hj;subst hj;exact hZ
      | succ j=>cases j with
       | zero=>simp at hj;subst hj;exact .bool _
       | succ j=>simp at hj
   | some rv =>
    cases q with
    | none=>exact q2.elim
    | some q =>
     obtain ⟨qi,qv⟩:=q;simp only [Sem.run_pure,Result.andThen_ok];cases ok
     ·exact ⟨qv,rfl,q2⟩
     ·refine ⟨.tuple #[qv,.bool true],rfl,.tup _ _ rfl λj y hj=>?_⟩;cases j with
      | zero=>simp at hj;subst hj;exact q2
      | succ j=>cases j with
       | zero=>simp at hj;subst hj;exact .bool _
       | succ j=>simp at hj
  simp only [aJ,KR] at hs;split at hs
  ·rename_i hko;split at hs
   ·rename_i em;cases hs;rw [em] at hM;have e1:=hM.sF;obtain ⟨cv,q1,q2⟩:=fin none #[] (.inl ⟨e1,rfl⟩) ⟨none,rfl,trivial⟩;exact Snd.val cx.inv hex q1 q2 nid
   ·rename_i b em;obtain ⟨h1,rfl⟩:=dZ hs;unfold lookIn at h1;split at h1
    ·rename_i es hg;obtain ⟨r,hr,rfl⟩:=aB h1;rw [em] at hM;obtain ⟨hA,e1⟩:=hM.CO;obtain ⟨es',clock,q1,q2,q3⟩:=cx.inv.obj b _ hg;have hent:qm ψ w S m A es es'.toList:=qm.of es es'.toList (by simpa using q2) (λi k v hi=>by obtain ⟨c1,x,c2,c3⟩:=q3 i k v hi;exact ⟨c1,x,by simpa using c2,c3⟩);obtain ⟨cv,q4,q5⟩:=fin r es' (.inr ⟨_,clock,e1,q1⟩) (Jk hkd hdk hK hko es es'.toList 0 r hent hr);exact Snd.val cx.inv hex q4 q5 nid
    ·cases h1
   ·cases hs
  ·cases hs
 ·cases hc
theorem af4 (cx:Cx P φ ψ N w0 w S m A h e a) {X:Operand} (ho:o.op=.next X true):Ok P φ ψ N w0 w S m A h e a o:=by
 intro cop v u nid hc hs hn;rw [ho] at hc;simp only [cOp,qyx] at hc;obtain ⟨x,hx,rfl⟩:=hc;have hX:=cx.opd hx;simp only [aJ,TW] at hs;split at hs
 ·rename_i b ex;rw [ex] at hX;obtain ⟨hA,e1⟩:=hX.lg;simp only [q1q,qbz] at e1;unfold nextIter at hs;split at hs
  ·rename_i s pos hg;have hobj:w.heap[(m b).1]?=some (.stringIter ⟨⟨s⟩⟩ pos):=cx.inv.obj b _ hg;have hget:(getObj (m b).1).run P w=.ok (.stringIter ⟨⟨s⟩⟩ pos) w:=by simp [getObj,Sem.run,hobj]
   have hsz:(⟨⟨s⟩⟩:ByteArray).size=s.length:=rfl;split at hs
   ·rename_i hpos;cases hs;have hset:∀ o',(setObj (m b).1 o').run P w=.ok () { w with heap:=w.heap.setIfInBounds (m b).1 o' }:=by intro o';simp [setObj,Sem.run,hobj]
    have hlt:(m b).1 < w.heap.size:=(qWq.1 hobj).1;have hoth:∀ o' c,c≠(m b).1->(w.heap.setIfInBounds (m b).1 o')[c]?=w.heap[c]?:=λo' c hc=>by rw [qcq (qcj hc)]
    refine ⟨.tuple #[.bool true,goInt pos,.int .i32 (Utf8.decode ⟨⟨s⟩⟩ pos).1],_,S,m,A,.inl ?_,?_,cx.inv.write hg rfl rfl (w':={ w with heap:=w.heap.setIfInBounds (m b).1 (.stringIter ⟨⟨s⟩⟩ (pos+(Utf8.decode ⟨⟨s⟩⟩ pos).2)) }) (hoth _) qqz rfl rfl ?_ ?_, Le.write (cx.inv.live b _ hg rfl).1 (hoth _) qqz ?_,λ_ _ hs=>hs,λ_ q=>.inl q⟩
    ·simp only [execOp,ho,Sem.run_bind];rw [e1];simp only [Instr.next,Sem.run_bind,hget,Result.andThen_ok,hsz];rw [qwz hpos];simp only [Sem.run_bind,hset,Result.andThen_ok,Sem.run_pure]
    ·refine .tup _ #[.bool true,goInt pos,.int .i32 (Utf8.decode ⟨⟨s⟩⟩ pos).1] rfl λj y hj=>?_;match j,hj with
     | 0,hj=>simp at hj;subst hj;exact .bool _
     | 1,hj=>simp at hj;subst hj;exact .int _ _
     | 2,hj=>simp at hj;subst hj;exact .int _ _
     | j+3,hj=>simp at hj
    ·intro c t fr hc;rw [hobj] at hc;cases hc
    ·show (w.heap.setIfInBounds (m b).1 _)[(m b).1]?=_;simp [hlt]
    ·intro c t fr hc;rw [hobj] at hc;cases hc
   ·rename_i hpos;cases hs;refine Snd.val cx.inv (s:=Instr.next (a.eval X) true o.type) (cv:=.tuple #[.bool false]) (by simp [execOp,ho]) ?_ (.tup _ _ rfl λj y hj=>?_) nid
    ·rw [e1];simp only [Instr.next,Sem.run_bind,hget,Result.andThen_ok,hsz];rw [qwq hpos];rfl
    ·cases j with
     | zero=>simp at hj;subst hj;exact .bool _
     | succ j=>simp at hj
  ·cases hs
 ·cases hs
theorem WO {x y:AV} (hb:iO x y=some true) {cx cy:Value} (hx:VR ψ w S m A x cx) (hy:VR ψ w S m A y cy) (n:Nat):Instr.sameBits n cy cx=true:=by
 unfold iO at hb;split at hb
 ·split at hb
  ·rename_i hk;subst hk;cases hx.eu;cases hy.eu;simp only [qwx,zyz] at hb;subst hb;simp [Instr.sameBits]
  ·cases hb
 ·cases hx.jq;cases hy.jq;simp only [qwx,zyz] at hb;subst hb;simp only [Instr.sameBits];rw [beq_toListBytes];simp
 ·cases hx.iD;cases hy.iD;simp only [qwx,zyz] at hb;subst hb;simp [Instr.sameBits]
 ·cases hb
theorem JR {kd:Nat} {x:AV} (hk:kT kd x=true):x.cell=true:=by cases x <;> simp [kT] at hk <;> rfl
theorem Hu {kd:Nat} {t:TypeId} {d:TypeDesc} (ht:mY P t=some kd) (hd:P.underlying t=some d) {x:AV} {cx:Value} (hx:VR ψ w S m A x cx) (hk:kT kd x=true) {v:AV} {cv:Value} (hv:VR ψ w S m A v cv) :
 ∀ (es es':List (AV × AV)) (xs:List MapEntry) (k:Nat),qm ψ w S m A es xs->kN es x v=some es' ->
  (∃ i old c,Instr.findNow d cx xs k=some (some (k+i,c))/\xs[i]?=some old/\Instr.sameBits 10000 old.key cx=true/\qm ψ w S m A es' (xs.modify i λe=>{ e with key:=cx,val:=cv })) \/
  (Instr.findNow d cx xs k=some none/\∀ born,qm ψ w S m A es' (xs++[{ key:=cx,val:=cv,born:=born }]))
 | [],es',[],k,_,h=>by simp only [kN] at h;cases h;exact .inr ⟨rfl,λborn=>⟨JR hk,hx,hv,trivial⟩⟩
 | [],_,_::_,_,h,_=>h.elim
 | _::_,_,[],_,h,_=>h.elim
 | (ky,vy)::es,es',y::xs,k,h1,h2=>by
  obtain ⟨c1,c2,c3,c4⟩:=h1;simp only [kN] at h2;obtain ⟨b,hb,h2⟩:=au h2;obtain ⟨d',hd',hs⟩:=JH (P:=P) hb hx c2 ht hk;rw [hd] at hd';cases hd';cases b with
  | true =>simp only [qQx,qwx] at h2;subst h2;left;refine ⟨0,y,y.val,by simp only [Instr.findNow,hs,qbz],by simp,WO hb hx c2 10000,?_⟩;simp only [List.modify_zero_cons];exact ⟨JR hk,hx,hv,c4⟩
  | false =>
   simp only [qjz,qWz] at h2;obtain ⟨es1,q1,rfl⟩:=aB h2;rcases Hu ht hd hx hk hv es es1 xs (k+1) c4 q1 with ⟨i,old,c,r1,r2,r3,r4⟩ | ⟨r1,r2⟩
   ·left;refine ⟨i+1,old,c,?_,by simpa using r2,r3,?_⟩
    ·simp only [Instr.findNow,hs];rw [show k+(i+1)=k+1+i by omega];exact r1
    ·simp only [List.modify_succ_cons];exact ⟨c1,c2,c3,r4⟩
   ·right;exact ⟨by simp only [Instr.findNow,hs];exact r1,λborn=>⟨c1,c2,c3,r2 born⟩⟩
theorem qm.mono {w':World} {S':Nat->Prop} {m':Nat->Nat × Nat} {A':Nat->Prop} (le:Le w S m A w' S' m' A'):∀ (es:List (AV × AV)) (xs:List MapEntry),qm ψ w S m A es xs->qm ψ w' S' m' A' es xs
 | [],[],_=>trivial
 | [],_::_,h=>h.elim
 | _::_,[],h=>h.elim
 | (_,_)::r,_::s,h=>⟨h.1,h.2.1.mono le,h.2.2.1.mono le,qm.mono le r s h.2.2.2⟩
theorem ab4 (cx:Cx P φ ψ N w0 w S m A h e a) {t:TypeId} {M K V:Operand} (ho:o.op=.mapUpdate t M K V\/o.op=.insert t M K V):Ok P φ ψ N w0 w S m A h e a o:=by
 intro cop v u nid hc hs hn;have hc':cOp P φ (.mapUpdate t M K V)=some cop:=by
  rcases ho with ho | ho <;> rw [ho] at hc
  ·exact hc
  ·simpa only [cOp] using hc
 simp only [cOp,qvq,qzj] at hc';obtain ⟨mm,hm,k,hk,vv,hvv,d,hd,hc'⟩:=hc';have hM:=cx.opd hm;have hK:=cx.opd hk;have hV:=cx.opd hvv;split at hc'
 ·rename_i kt et;simp only [qzj,qwx] at hc';obtain ⟨kd,hkd,rfl⟩:=hc';obtain ⟨dk,hdk⟩:∃ dk,P.underlying kt=some dk:=by rcases jI hkd with ⟨k',hk',_⟩ | ⟨hk',_⟩ | ⟨hk',_⟩ <;> exact ⟨_,hk'⟩
  have hex:∀ w',(Instr.mapUpdate t (a.eval M) (a.eval K) (a.eval V)).run P w=.ok () w'->(execOp a.eval o).run P w=.ok .skip w':=by intro w' hr;rcases ho with ho | ho <;> simp [execOp,ho,hr]
  simp only [aJ,agd] at hs;split at hs
  ·rename_i hko;split at hs
   ·rename_i b em;unfold ac4 at hs;split at hs
    ·rename_i es hg;obtain ⟨es1,hp,hs'⟩:=aB hs;cases hs';rw [em] at hM;obtain ⟨hA,e1⟩:=hM.CO;obtain ⟨es',clock,q1,q2,q3⟩:=cx.inv.obj b _ hg;have hlt:(m b).1 < w.heap.size:=(qWq.1 q1).1;have hent:qm ψ w S m A es es'.toList:=qm.of es es'.toList (by simpa using q2) (λi k v hi=>by obtain ⟨c1,x,c2,c3⟩:=q3 i k v hi;exact ⟨c1,x,by simpa using c2,c3⟩);have hoth:∀ o' c,c≠(m b).1->(w.heap.setIfInBounds (m b).1 o')[c]?=w.heap[c]?:=λo' c hc=>by rw [qcq (qcj hc)]
     have fin:∀ (xs:Array MapEntry) (ck:Nat),(Instr.mapUpdate t (a.eval M) (a.eval K) (a.eval V)).run P w=.ok () { w with heap:=w.heap.setIfInBounds (m b).1 (.map xs ck) }->qm ψ w S m A es1 xs.toList ->
      Snd P ψ N w0 w S m A (execOp a.eval o) (aQ h [(b,some (.map es1))]) (.tup []) nid:=by
      intro xs ck hr he;have le:Le w S m A { w with heap:=w.heap.setIfInBounds (m b).1 (.map xs ck) } S m A:=Le.write (cx.inv.live b _ hg rfl).1 (hoth _) qqz (λc t fr hc=>by rw [q1] at hc;cases hc);refine ⟨Go.undef,_,S,m,A,.inr ⟨hex _ hr,rfl⟩,.tup [] #[] rfl qqz,cx.inv.write hg rfl rfl (hoth _) qqz rfl rfl (λc t fr hc=>by rw [q1] at hc;cases hc) ?_,le,λ_ _ hs=>hs,λ_ q=>.inl q⟩;obtain ⟨l1,l2⟩:=qm.to es1 xs.toList (qm.mono le es1 xs.toList he);refine ⟨xs,ck,?_,by simpa using l1,λi k v hi=>?_⟩
      ·show (w.heap.setIfInBounds (m b).1 _)[(m b).1]?=_;simp [hlt]
      ·obtain ⟨c1,x,c2,c3⟩:=l2 i k v hi;exact ⟨c1,x,by simpa using c2,c3⟩
     have hset:∀ o',(setObj (m b).1 o').run P w=.ok () { w with heap:=w.heap.setIfInBounds (m b).1 o' }:=by intro o';simp [setObj,Sem.run,q1]
     rcases Hu (P:=P) hkd hdk hK hko hV es es1 es'.toList 0 hent hp with ⟨i,old,c,r1,r2,r3,r4⟩ | ⟨r1,r2⟩
     ·refine fin (es'.modify i λe=>{ e with key:=a.eval K,val:=a.eval V }) clock ?_ (by rw [Array.toList_modify];exact r4);have hfk:(Instr.findKey kt (a.eval K) es'.toList).run P w=.ok (some (i,c)) w:=by unfold Instr.findKey;rw [Sem.run_bind,run_underlying hdk];simp only [Result.andThen_ok,r1,Sem.run_pure,qVq]
      have ho':es'[i]?=some old:=by simpa using r2
      unfold Instr.mapUpdate;rw [e1];simp only [Sem.run_bind,run_underlying hd,Result.andThen_ok,run_getObj_map w _ _ _ q1,oM hkd,hfk,ho',qiq,qYx,Instr.keyThatStays,r3,qQx,Sem.run_pure,hset]
     ·refine fin (es'.push { key:=a.eval K,val:=a.eval V,born:=clock }) (clock+1) ?_ (by rw [Array.toList_push];exact r2 clock);have hfk:(Instr.findKey kt (a.eval K) es'.toList).run P w=.ok none w:=by unfold Instr.findKey;rw [Sem.run_bind,run_underlying hdk];simp only [Result.andThen_ok,r1,Sem.run_pure]
      unfold Instr.mapUpdate;rw [e1];simp only [Sem.run_bind,run_underlying hd,Result.andThen_ok,run_getObj_map w _ _ _ q1,oM hkd,hfk,hset]
    ·cases hs
   ·cases hs
  ·cases hs
 ·cases hc'
theorem step_ok (cx:Cx P φ ψ N w0 w S m A h e a) {cop:COp} {v:AV} {u:Upd} {nid:Nat} (hc:cOp P φ o.op=some cop) (hs:aJ cop e h nid=some (v,u)) (hn:¬ A nid) :
 Snd P ψ N w0 w S m A (execOp a.eval o) (aQ h u) v nid:=by
 cases ho:o.op with
 | move x=>exact akb cx (.inl ho) cop v u nid hc hs hn
 | assign x=>exact akb cx (.inr ho) cop v u nid hc hs hn
 | pick c x y=>exact agG cx ho cop v u nid hc hs hn
 | alloc t=>exact afb cx ho cop v u nid hc hs hn
 | box t x=>exact ake cx ho cop v u nid hc hs hn
 | build t ps=>rw [ho] at hc;exact aaB cx ho hc hs
 | buildSlice t len ps=>rw [ho] at hc;exact U8 cx ho hc hn hs
 | load t x=>exact aiU cx ho cop v u nid hc hs hn
 | store t p x=>exact abQ cx ho cop v u nid hc hs hn
 | nilCheck x=>exact aa4 cx ho cop v u nid hc hs hn
 | binOp op t X Y t'=>exact amI cx ho cop v u nid hc hs hn
 | unOp op t X=>exact ao2 cx ho cop v u nid hc hs hn
 | convert t t' X=>exact alT cx ho cop v u nid hc hs hn
 | makeFunc fn f cs=>exact ahV cx ho cop v u nid hc hs hn
 | makeMap t r=>exact aey cx ho cop v u nid hc hs hn
 | makeSlice t l c=>exact aiE cx ho cop v u nid hc hs hn
 | slice t x lo hi mx=>exact aeP cx ho cop v u nid hc hs hn
 | fieldAddr t x f=>exact amU cx ho cop v u nid hc hs hn
 | field t x f=>exact afF cx ho cop v u nid hc hs hn
 | indexAddr t x i=>exact ahj cx ho cop v u nid hc hs hn
 | index t x i=>exact Ad cx ho cop v u nid hc hs hn
 | lookup t M K ok=>exact look_ok cx ho cop v u nid hc hs hn
 | mapUpdate t M K V=>exact ab4 cx (.inl ho) cop v u nid hc hs hn
 | insert t M K V=>exact ab4 cx (.inr ho) cop v u nid hc hs hn
 | range t X=>exact adv cx ho cop v u nid hc hs hn
 | next X b =>
  cases b with
  | true=>exact af4 cx ho cop v u nid hc hs hn
  | false=>rw [ho] at hc;simp only [cOp] at hc;cases hc
 | extract X k=>exact akV cx ho cop v u nid hc hs hn
 | call c =>
  cases hcal:c.callee with
  | builtin b =>
   cases b with
   | len=>exact amd cx ho hcal cop v u nid hc hs hn
   | cap=>exact akP cx ho hcal cop v u nid hc hs hn
   | append=>exact amo cx ho hcal cop v u nid hc hs hn
   | copy=>exact ale cx ho hcal cop v u nid hc hs hn
   | clear=>exact akt cx ho hcal cop v u nid hc hs hn
   | max=>exact ajQ cx ho (mxx:=true) hcal cop v u nid hc hs hn
   | min=>exact ajQ cx ho (mxx:=false) hcal cop v u nid hc hs hn
   | _=>rw [ho] at hc;simp only [cOp,hcal,ku] at hc;cases hc
  | value f =>
   rw [ho] at hc;cases f with
   | func f =>simp only [cOp,hcal,qvq,qzj,qwx] at hc;obtain ⟨_,_,_,_,rfl⟩:=hc;simp only [aJ,Aq] at hs;cases hs
   | _ =>simp only [cOp,hcal,qvq,qzj,qwx] at hc;obtain ⟨_,_,_,_,rfl⟩:=hc;simp only [aJ,Aq] at hs;cases hs
  | invoke r n=>rw [ho] at hc;simp only [cOp,hcal] at hc;cases hc
 | _=>rw [ho] at hc;simp only [cOp] at hc;cases hc
end
end Go.Pav
end
section
set_option linter.unusedSimpArgs false
set_option linter.unusedVariables false
namespace Go.Pav
open Go
theorem iw {α β:Type} {f:α->Option β}:∀ {l:List α} {r:List β},aZ f l=some r->∀ (i:Nat) (b:β),r[i]?=some b->∃ a,l[i]?=some a/\f a=some b:=by
 intro l r h i b hb;obtain ⟨hl,hi⟩:=dB h;have hlt:i < l.length:=by rw [<- hl];exact (qxz.1 hb).1
 obtain ⟨b',h1,h2⟩:=hi i l[i] (qqj hlt);rw [hb] at h1;cases h1;exact ⟨l[i],qqj hlt,h2⟩
section
variable {ψ:Nat->FuncId} {w:World} {S S':Nat->Prop} {m:Nat->Nat × Nat} {A:Nat->Prop} {h:Heap}
theorem Io {n:Nat} {v v':AV} (hf:frz h n v=some v'):v'.cell=v.cell:=by
 cases n with
 | zero=>simp [frz] at hf
 | succ n =>
  cases v <;> simp only [frz] at hf;case ptr b i o =>
   split at hf
   ·obtain ⟨cs,_,hf⟩:=au hf;obtain ⟨cs',_,rfl⟩:=aB hf;rfl
   ·cases hf
  case sl b z i len cap ex =>
   split at hf
   ·obtain ⟨es',_,hf⟩:=au hf;obtain ⟨_,hf⟩:=yP hf;cases hf;rfl
   ·cases hf
  case fn f caps=>obtain ⟨cs,_,rfl⟩:=aB hf;rfl
  case agg cs=>obtain ⟨cs,_,rfl⟩:=aB hf;rfl
  case tup cs=>obtain ⟨cs,_,rfl⟩:=aB hf;rfl
  all_goals (cases hf;try rfl)
theorem Ko {α:Type} {l:List α} {i len k:Nat} {a:α} (hk:((l.drop i).take len)[k]?=some a):k < len/\l[i+k]?=some a:=by
 rw [qZj] at hk;split at hk
 ·rename_i hlt;rw [qKq] at hk;exact ⟨hlt,hk⟩
 ·cases hk
theorem wH (hob:∀ b o,get h b=some o->OR ψ w S m A (m b) o) (hS:∀ b,S b->S' b):∀ (n:Nat) (v v':AV) (c:Value),frz h n v=some v'->VR ψ w S m A v c ->
 (∀ b ∈ reach h n v,S' (m b).1)->VR ψ w S' m (λ_=>False) v' c:=by
 intro n;induction n with
 | zero=>intro v v' c hf;simp [frz] at hf
 | succ n ih =>
  intro v v' c hf hv hr;cases hv with
  | undef=>simp [frz] at hf
  | bool b=>simp only [frz] at hf;cases hf;exact .bool b
  | int k x=>simp only [frz] at hf;cases hf;exact .int k x
  | str s=>simp only [frz] at hf;cases hf;exact .str s
  | eH=>simp only [frz] at hf;cases hf;exact .eH
  | bF=>simp only [frz] at hf;cases hf;exact .bF
  | dU=>simp only [frz] at hf;cases hf;exact .dU
  | bQ=>simp only [frz] at hf;cases hf;exact .bQ
  | roe z ex a k hk=>simp only [frz] at hf;cases hf;exact .roe z ex a k hk
  | ro z es ex b off cap cs h1 h2 h3 h4 h5 h6 =>simp only [frz] at hf;cases hf;exact (VR.ro (A:=λ_=>False) z es ex b off cap cs h1 h2 h3 h4 h5 h6).mono' (λ_ _=>rfl) (λ_ c _ _ h=>⟨c,h,rfl⟩) hS (λ_ h=>h) (λ_ h=>h.elim)
  | rop cs b off vs h1 h2 h3 =>simp only [frz] at hf;cases hf;exact (VR.rop (A:=λ_=>False) cs b off vs h1 h2 h3).mono' (λ_ _=>rfl) (λ_ c _ _ h=>⟨c,h,rfl⟩) hS (λ_ h=>h) (λ_ h=>h.elim)
  | ptr b i o hA =>
   simp only [frz] at hf;split at hf
   ·rename_i zb es mu hg;obtain ⟨cs,hcs,hf⟩:=au hf;obtain ⟨cs',hcs',rfl⟩:=aB hf;obtain ⟨q1,q2,cur,t,q3,q4,q5⟩:=hob b _ hg;have elem:∀ (j:Nat) (x':AV),cs'[j]?=some x'->∃ x,cs[o+j]?=some x/\x ∈ cs.drop o/\frz h n x=some x':=by intro j x' hj;obtain ⟨x,r1,r2⟩:=iw hcs' j x' hj;exact ⟨x,by rw [qKq] at r1;exact r1,qzx r1,r2⟩
    refine VR.rop cs' (m b).1 (i * (m b).2+o) (λj=>cur.getD (i * zb+(o+j)) Go.undef) (hr b (by simp [reach])) ?_ ?_
    ·intro j x' hj;obtain ⟨x,r1,r2,r3⟩:=elem j x' hj;obtain ⟨t1,u,t2,t3⟩:=q5 _ cs _ x hcs r1;refine ⟨by rw [Io r3];exact t1,?_⟩;have e1:i * (m b).2+o+j=i * zb+(o+j):=by rw [<- q1,qgq]
     simp only [World.cell?,q3,e1,q3j,qjz,qWz];rw [t2,qxj,t2];rfl
    ·intro j x' hj;obtain ⟨x,r1,r2,r3⟩:=elem j x' hj;obtain ⟨t1,u,t2,t3⟩:=q5 _ cs _ x hcs r1;rw [qxj,t2];refine ih x x' u r3 t3 λb' hb'=>hr b' ?_;simp only [reach,hg,hcs,qYx,qkq,qkx];exact .inr ⟨x,r2,hb'⟩
   ·cases hf
  | map b hA=>simp [frz] at hf
  | sl b z i len cap ex cc hA hz hl hc hx hrow =>
   simp only [frz] at hf;split at hf
   ·rename_i zb es mu hg;obtain ⟨es',hes,hf⟩:=au hf;obtain ⟨hlen,hf⟩:=yP hf;simp only [qvj] at hlen;cases hf;obtain ⟨q1,q2,cur,t,q3,q4,q5⟩:=hob b _ hg;have hzb:zb=z:=q1.symm.trans hz;subst hzb;have elem:∀ (k:Nat) (e':List AV),es'[k]?=some e'->∃ e,es[i+k]?=some e/\((es.drop i).take len)[k]?=some e/\aZ (frz h n) e=some e':=by intro k e' hk;obtain ⟨e,r1,r2⟩:=iw hes k e' hk;exact ⟨e,(Ko r1).2,r1,r2⟩
    have hro:=VR.ro (ψ:=ψ) (w:=w) (S:=S') (m:=m) (A:=λ_=>False) zb es' (ex&&decide (cap=len)) (m b).1 (i * zb) cc (λk j=>cur.getD ((i+k) * zb+j) Go.undef) (hr b (by simp [reach])) ?_ (by rw [hlen];exact hl) ?_ ?_ ?_
    ·rw [hlen] at hro;exact hro
    ·intro k e' hk;obtain ⟨e,r1,r2,r3⟩:=elem k e' hk;rw [(dB r3).1];exact q2 _ _ r1
    ·intro hx';simp only [qzq,qvj] at hx';rw [hx hx'.1,hx'.2,hlen]
    ·intro k e' j x' hk hj;obtain ⟨e,r1,r2,r3⟩:=elem k e' hk;obtain ⟨x,s1,s2⟩:=iw r3 j x' hj;obtain ⟨t1,u,t2,t3⟩:=q5 _ e j x r1 s1;refine ⟨by rw [Io s2];exact t1,?_⟩;have e1:i * zb+k * zb+j=(i+k) * zb+j:=by rw [qYq]
     simp only [World.cell?,q3,e1,q3j,qjz,qWz];rw [t2,qxj,t2];rfl
    ·intro k e' j x' hk hj;obtain ⟨e,r1,r2,r3⟩:=elem k e' hk;obtain ⟨x,s1,s2⟩:=iw r3 j x' hj;obtain ⟨t1,u,t2,t3⟩:=q5 _ e j x r1 s1;rw [qxj,t2];refine ih x x' u s2 t3 λb' hb'=>hr b' ?_;simp only [reach,hg,qkq,qkx];exact .inr ⟨e,qzx r2,x,qzx s1,hb'⟩
   ·cases hf
  | fn f caps vs hn hc =>simp only [frz] at hf;obtain ⟨cs,hcs,rfl⟩:=aB hf;refine .fn f cs vs (by rw [(dB hcs).1];exact hn) λj x' hj=>?_;obtain ⟨x,s1,s2⟩:=iw hcs j x' hj;refine ih x x' _ s2 (hc j x s1) λb' hb'=>hr b' ?_;simp only [reach,qkx];exact ⟨x,qzx s1,hb'⟩
  | agg cs vs hn hcell hc =>
   simp only [frz] at hf;obtain ⟨cs',hcs,rfl⟩:=aB hf;refine .agg cs' vs (by rw [(dB hcs).1];exact hn) (λj x' hj=>?_) λj x' hj=>?_
   ·obtain ⟨x,s1,s2⟩:=iw hcs j x' hj;rw [Io s2];exact hcell j x s1
   ·obtain ⟨x,s1,s2⟩:=iw hcs j x' hj;refine ih x x' _ s2 (hc j x s1) λb' hb'=>hr b' ?_;simp only [reach,qkx];exact ⟨x,qzx s1,hb'⟩
  | tup cs vs hn hc =>simp only [frz] at hf;obtain ⟨cs',hcs,rfl⟩:=aB hf;refine .tup cs' vs (by rw [(dB hcs).1];exact hn) λj x' hj=>?_;obtain ⟨x,s1,s2⟩:=iw hcs j x' hj;refine ih x x' _ s2 (hc j x s1) λb' hb'=>hr b' ?_;simp only [reach,qkx];exact ⟨x,qzx s1,hb'⟩
theorem kV:∀ (n:Nat) (v v':AV),frz h n v=some v'->∀ b ∈ reach h n v,∃ z es mu,get h b=some (.cells z es mu):=by
 intro n;induction n with
 | zero=>intro v v' hf;simp [frz] at hf
 | succ n ih =>
  have many:∀ (l r:List AV),aZ (frz h n) l=some r->∀ b ∈ l.flatMap (reach h n),∃ z es mu,get h b=some (.cells z es mu):=by intro l r hl b hb;simp only [qkx] at hb;obtain ⟨x,hx,hb⟩:=hb;obtain ⟨j,hj,e⟩:=qvx hx;obtain ⟨x',_,h2⟩:=(dB hl).2 j x (by rw [qqj hj,e]);exact ih x x' h2 b hb
  intro v v' hf b hb;cases v <;> simp only [frz,reach] at hf hb <;> try (simp at hb;done)
  case ptr b0 i o =>
   split at hf
   ·rename_i zb es mu hg;simp only [hg,qkq] at hb;obtain ⟨cs,hcs,hf⟩:=au hf;obtain ⟨cs',hcs',rfl⟩:=aB hf;rcases hb with rfl | hb
    ·exact ⟨_,_,_,hg⟩
    ·rw [hcs] at hb;exact many _ _ hcs' b hb
   ·cases hf
  case sl b0 z i len cap ex =>
   split at hf
   ·rename_i zb es mu hg;simp only [hg,qkq,qkx] at hb;obtain ⟨es',hes,hf⟩:=au hf;rcases hb with rfl | ⟨e,he,hb⟩
    ·exact ⟨_,_,_,hg⟩
    ·obtain ⟨j,hj,e1⟩:=qvx he;obtain ⟨x',_,h2⟩:=(dB hes).2 j e (by rw [qqj hj,e1]);exact many e x' h2 b (by simpa only [qkx] using hb)
   ·cases hf
  case fn f caps=>obtain ⟨cs,hcs,rfl⟩:=aB hf;exact many _ _ hcs b hb
  case agg cs=>obtain ⟨cs,hcs,rfl⟩:=aB hf;exact many _ _ hcs b hb
  case tup cs=>obtain ⟨cs,hcs,rfl⟩:=aB hf;exact many _ _ hcs b hb
theorem ae0 {w':World} {m':Nat->Nat × Nat}:∀ (n:Nat) (v:AV) (c:Value),fP n v=false->VR ψ w S m (λ_=>False) v c->VR ψ w' S' m' (λ_=>False) v c:=by
 intro n;induction n with
 | zero=>intro v c hf;simp [fP] at hf
 | succ n ih =>
  intro v c hf hv;have each:∀ (l:List AV),l.any (fP n)=false->∀ (j:Nat) (x:AV),l[j]?=some x->fP n x=false:=by
   intro l hl j x hj;cases hx:fP n x with
   | false=>rfl
   | true=>rw [qhx.2 ⟨x,qzx hj,hx⟩] at hl;cases hl
  cases hv with
  | undef=>exact .undef _
  | bool b=>exact .bool b
  | int k x=>exact .int k x
  | str s=>exact .str s
  | eH=>exact .eH
  | bF=>exact .bF
  | dU=>exact .dU
  | bQ=>exact .bQ
  | ro=>simp [fP] at hf
  | roe=>simp [fP] at hf
  | rop=>simp [fP] at hf
  | ptr b i o hA=>exact hA.elim
  | map b hA=>exact hA.elim
  | sl b z i len cap ex cc hA=>exact hA.elim
  | fn f caps vs hn hc=>exact .fn f caps vs hn λj x hj=>ih x _ (each _ (by simpa [fP] using hf) j x hj) (hc j x hj)
  | agg cs vs hn hcell hc=>exact .agg cs vs hn hcell λj x hj=>ih x _ (each _ (by simpa only [fP] using hf) j x hj) (hc j x hj)
  | tup cs vs hn hc=>exact .tup cs vs hn λj x hj=>ih x _ (each _ (by simpa only [fP] using hf) j x hj) (hc j x hj)
end
def Out (ψ:Nat->FuncId) (N:Nat) (w0 w:World) (S:Nat->Prop) (m:Nat->Nat × Nat) (A:Nat->Prop) (n:Nat) (w':World) (v:AV) (cv:Value) (h':Heap) (n':Nat):Prop :=∃ S' m' A',VR ψ w' S' m' A' v cv/\Inv ψ N w0 w' S' m' A' h'/\Le w S m A w' S' m' A'/\(∀ c,c < N->S' c->S c)/\n<=n'/\∀ b,A' b->A b\/(n<=b/\b < n')
def XM (P:Program) (f:FuncId):Prop:=∀ fn c,P.funcs[f]?=some fn->fn.body=some c->gB c=false
def jv (P:Program) (f:FuncId) (args:Array Value) (w:World) (R:Ending->World->Prop):Prop :=Calls P f args w R/\(XM P f->∀ u,CallsD P f args u w λe u' w'=>u'=u/\R e w')
theorem jv.mono {P:Program} {f:FuncId} {args:Array Value} {w:World} {R R':Ending->World->Prop} (h:jv P f args w R) (hr:∀ e w',R e w'->R' e w'):jv P f args w R' :=⟨Calls.mono h.1 hr,λhp u=>(h.2 hp u).mono λe u' w' q=>⟨q.1,hr e w' q.2⟩⟩
def nS (P:Program) (ψ:Nat->FuncId) (run:Run):Prop :=
 ∀ (g:Nat) (args:List AV) (h:Heap) (n:Nat) (v:AV) (h':Heap) (n':Nat),run g args h n=some (v,h',n') ->
  (∃ fn c, P.funcs[ψ g]? = some fn /\ fn.name ≠ "runtime.NumGoroutine" /\ fn.body = some c) /\
  ∀ (N:Nat) (w0 w:World) (S:Nat->Prop) (m:Nat->Nat × Nat) (A:Nat->Prop) (cargs:Array Value),Inv ψ N w0 w S m A h->(∀ b,A b->b < n)->cargs.size=args.length ->
   (∀ (j:Nat) (x:AV),args[j]?=some x->VR ψ w S m A x (cargs.getD j Go.undef)) ->
   jv P (ψ g) cargs w λe w'=>∃ cv,e=.returned cv/\Out ψ N w0 w S m A n w' v cv h' n'
section
variable {P:Program} {ψ:Nat->FuncId} {N:Nat} {w0 w:World} {S:Nat->Prop} {m:Nat->Nat × Nat} {A:Nat->Prop} {h:Heap} {run:Run}
theorem pure_ok (hr:nS P ψ run) {g:Nat} {args az:List AV} {n:Nat} {v:AV} {cargs:Array Value} (hfr:aZ (frz h ay) args=some az) (hp:rW run g az=some v)
 (i:Inv ψ N w0 w S m A h) (hs:cargs.size=args.length) (hv:∀ (j:Nat) (x:AV),args[j]?=some x->VR ψ w S m A x (cargs.getD j Go.undef)) :
 jv P (ψ g) cargs w λe w'=>∃ cv,e=.returned cv/\Out ψ N w0 w S m A n w' v cv (aQ h (marks h args v)) n:=by
 obtain ⟨⟨v0,h0,n0⟩,hrun,hfv⟩:=au hp;let S1:Nat->Prop:=λc=>S c\/∃ b ∈ args.flatMap (reach h ay),c=(m b).1;have hreach:∀ b ∈ args.flatMap (reach h ay),∃ z es mu,get h b=some (.cells z es mu):=by intro b hb;simp only [qkx] at hb;obtain ⟨x,hx,hb⟩:=hb;obtain ⟨j,hj,e⟩:=qvx hx;obtain ⟨x',_,h2⟩:=(dB hfr).2 j x (by rw [qqj hj,e]);exact kV _ x x' h2 b hb
 have hS1:∀ c,S1 c->c < w.heap.size:=by
  rintro c (hc | ⟨b,hb,rfl⟩)
  ·exact i.sb c hc
  ·obtain ⟨z,es,mu,hg⟩:=hreach b hb;exact (i.obj b _ hg).lt
 have hi0:Inv ψ w.heap.size w w S1 m (λ_=>False) ([]:Heap) :=
  ⟨λb o hb=>by simp [get] at hb,λb o hb=>by simp [get] at hb,λb o hb=>by simp [get] at hb,λb o hb=>by simp [get] at hb,λb o b' o' hb=>by simp [get] at hb,
   hS1,qxq _,λ_ _=>rfl,rfl,rfl⟩
 refine jv.mono ((hr g az [] 0 v0 h0 n0 hrun).2 w.heap.size w w S1 m (λ_=>False) cargs hi0 (λb hb=>hb.elim) (by rw [(dB hfr).1];exact hs) ?_) ?_
 ·intro j x' hj;obtain ⟨x,s1,s2⟩:=iw hfr j x' hj;exact wH i.obj (λb hb=>.inl hb) ay x x' _ s2 (hv j x s1) λb hb=>.inr ⟨b,by simp only [qkx];exact ⟨x,qzx s1,hb⟩,rfl⟩
 ·rintro e w' ⟨cv,rfl,S',m',A',hvr,hinv,hle,hsub,_,_⟩;refine ⟨cv,rfl,?_⟩;let S2:Nat->Prop:=λc=>S' c\/∃ b ∈ reach h0 ay v0,c=(m' b).1;have hfro:=wH (S':=S2) hinv.obj (λb hb=>.inl hb) ay v0 v _ hfv hvr λb hb=>.inr ⟨b,hb,rfl⟩;have hold:∀ c,c < w.heap.size->w'.heap[c]?=w.heap[c]?:=hinv.old;by_cases href:fP ay v=true
  ·have hS2:∀ c,S2 c->c < w'.heap.size:=by
    rintro c (hc | ⟨b,hb,rfl⟩)
    ·exact hinv.sb c hc
    ·obtain ⟨z,es,mu,hg⟩:=kV _ v0 v hfv b hb;exact (hinv.obj b _ hg).lt
   have hS21:∀ c,S2 c->c < w.heap.size->S1 c:=by
    rintro c (hc | ⟨b,hb,rfl⟩) hlt
    ·exact hsub c hlt hc
    ·obtain ⟨z,es,mu,hg⟩:=kV _ v0 v hfv b hb;cases mu with
     | true=>have:=(hinv.live b _ hg rfl).2;omega
     | false=>exact hsub _ hlt (hinv.fro b _ hg rfl)
   have h12:∀ c,S1 c->S2 c:=λc hc=>.inl (hle.sub c hc);obtain ⟨j1,j2⟩:=i.data (w':=w') (Sn:=S2) hold hinv.size hinv.os hinv.out (λc hc=>h12 c (.inl hc)) hS2 (args.flatMap (reach h ay))
    (λb hb=>by obtain ⟨z,es,mu,hg⟩:=hreach b hb;exact ⟨z,es,mu,hg,h12 _ (.inr ⟨b,hb,rfl⟩)⟩)
    (λc hc=>by
     rcases qsj c w.heap.size with hlt | hge
     ·rcases hS21 c hc hlt with q | q
      ·exact .inl q
      ·exact .inr (.inl q)
     ·exact .inr (.inr hge))
   refine ⟨S2,m,A,?_,?_,j2,?_,qxq _,λb hb=>.inl hb⟩
   ·exact hfro.mono' (λ_ _=>rfl) (λ_ c _ _ h=>⟨c,h,rfl⟩) (λ_ h=>h) (λ_ h=>h.elim) (λ_ h=>h.elim)
   ·simp only [marks,href,qQx];exact j1
   ·intro c hc hs2;rcases hS21 c hs2 (qXx hc i.size) with q | ⟨b,hb,rfl⟩
    ·exact q
    ·obtain ⟨z,es,mu,hg⟩:=hreach b hb;cases mu with
     | true=>have:=(i.live b _ hg rfl).2;omega
     | false=>exact i.fro b _ hg rfl
  ·have href':fP ay v=false:=by simpa using href
   obtain ⟨j1,j2⟩:=i.data (w':=w') (Sn:=S) hold hinv.size hinv.os hinv.out (λc hc=>hc) (λc hc=>qXx (i.sb c hc) hinv.size) [] (λb hb=>by cases hb) (λc hc=>.inl hc);refine ⟨S,m,A,(ae0 ay v cv href' hfro:VR ψ w' S m (λ_=>False) v cv).open_,?_,j2,λc _ hs=>hs,qxq _,λb hb=>.inl hb⟩;simp only [marks,href',qjz,qWz];exact j1
theorem Ze (hr:nS P ψ run) {g:Nat} {args:List AV} {n:Nat} {r:AV × Heap × Nat} {cargs:Array Value} (hp:uO run g args h n=some r)
 (i:Inv ψ N w0 w S m A h) (hn:∀ b,A b->b < n) (hs:cargs.size=args.length) (hv:∀ (j:Nat) (x:AV),args[j]?=some x->VR ψ w S m A x (cargs.getD j Go.undef)) :
 jv P (ψ g) cargs w λe w'=>∃ cv,e=.returned cv/\Out ψ N w0 w S m A n w' r.1 cv r.2.1 r.2.2:=by
 obtain ⟨⟨v0,h0,n0⟩,hrun,rfl⟩:=aB hp;refine jv.mono ((hr g args h n v0 h0 n0 hrun).2 N w0 w S m A cargs i hn hs hv) ?_;rintro e w' ⟨cv,rfl,S',m',A',hvr,hinv,hle,hsub,hnn,hA⟩;refine ⟨cv,rfl,?_⟩;exact ⟨S',m',A',hvr,hinv,hle,hsub,hnn,hA⟩
theorem JQ {S S' A':Nat->Prop} {m':Nat->Nat × Nat} {x:AV} {v:Value} (hx:mD x=true) (h:VR ψ w S m A x v) (hs:∀ b,S b->S' b):VR ψ w S' m' A' x v:=by
 cases h with
 | undef=>simp [mD] at hx
 | bool b=>exact .bool b
 | int k n=>exact .int k n
 | str s=>exact .str s
 | eH=>exact .eH
 | bF=>exact .bF
 | dU=>exact .dU
 | bQ=>exact .bQ
 | roe z ex a k hk=>exact .roe z ex a k hk
 | ro z es ex b off cap cs hS hz hc hx2 hcell hrep =>exact .ro z es ex b off cap cs (hs b hS) hz hc hx2 hcell (λi e j x h1 h2=>(hrep i e j x h1 h2).mono' (λ_ _=>rfl) (λ_ c _ _ h=>⟨c,h,rfl⟩) hs (λ_ h=>h) (λ_ h=>h.elim))
 | rop cs b off vs hS hcell hrep =>exact .rop cs b off vs (hs b hS) hcell (λj x h1=>(hrep j x h1).mono' (λ_ _=>rfl) (λ_ c _ _ h=>⟨c,h,rfl⟩) hs (λ_ h=>h) (λ_ h=>h.elim))
 | ptr=>simp [mD] at hx
 | sl=>simp [mD] at hx
 | map=>simp [mD] at hx
 | agg=>simp [mD] at hx
 | tup=>simp [mD] at hx
 | fn f caps vs hn hc =>
  cases caps with
  | nil=>exact .fn f [] vs hn λj x hj=>by simp at hj
  | cons a r=>simp [mD] at hx
theorem DZ {b nid:Nat}:∀ (l r:List AV),ou b nid l=some r->r.length=l.length/\∀ (j:Nat) (x':AV),r[j]?=some x'->∃ x,l[j]?=some x/\hand b nid x=some x':=by
 intro l;induction l with
 | nil=>intro r hr;simp only [ou,qwx] at hr;subst hr;exact ⟨rfl,λj x' hj=>by simp at hj⟩
 | cons a l ih =>
  intro r hr;simp only [ou] at hr;obtain ⟨y,h1,hr⟩:=au hr;obtain ⟨ys,h2,rfl⟩:=aB hr;obtain ⟨q1,q2⟩:=ih ys h2;refine ⟨by simp [q1],λj x' hj=>?_⟩;cases j with
  | zero=>simp only [List.getElem?_cons_zero,qwx] at hj;subst hj;exact ⟨a,by simp,h1⟩
  | succ j=>simpa using q2 j x' (by simpa using hj)
theorem aaG {b nid:Nat} {v v':AV} (hf:hand b nid v=some v'):v'.cell=v.cell:=by
 cases v <;> simp only [hand] at hf;case ptr=>split at hf <;> cases hf;rfl
 case sl=>split at hf <;> cases hf;rfl
 case fn f caps=>obtain ⟨cs,_,rfl⟩:=aB hf;rfl
 case agg cs=>obtain ⟨cs,_,rfl⟩:=aB hf;rfl
 case tup cs=>obtain ⟨cs,_,rfl⟩:=aB hf;rfl
 all_goals (cases hf;try rfl)
theorem F9 {b nid:Nat} {m2:Nat->Nat × Nat} {A2:Nat->Prop} (hb:A b->A2 nid/\m2 nid=m b) {v:AV} {c:Value} (hv:VR ψ w S m A v c):∀ v',hand b nid v=some v'->VR ψ w S m2 A2 v' c:=by
 have data:∀ {S A A2:Nat->Prop} {m m2:Nat->Nat × Nat} {x:AV} {u:Value},mD x=true->VR ψ w S m A x u->VR ψ w S m2 A2 x u:=λhx h=>JQ hx h λ_ h=>h;induction hv with
 | undef v=>intro v' h;simp [hand] at h
 | bool b=>intro v' h;simp only [hand] at h;cases h;exact .bool b
 | int k n=>intro v' h;simp only [hand] at h;cases h;exact .int k n
 | str s=>intro v' h;simp only [hand] at h;cases h;exact .str s
 | eH=>intro v' h;simp only [hand] at h;cases h;exact .eH
 | bF=>intro v' h;simp only [hand] at h;cases h;exact .bF
 | dU=>intro v' h;simp only [hand] at h;cases h;exact .dU
 | bQ=>intro v' h;simp only [hand] at h;cases h;exact .bQ
 | roe z ex a k hk=>intro v' h;simp only [hand] at h;cases h;exact .roe z ex a k hk
 | ro z es ex b off cap cs hS hz hc hx hcell hrep _ =>intro v' h;simp only [hand] at h;cases h;exact data rfl (VR.ro (A:=A) z es ex b off cap cs hS hz hc hx hcell hrep)
 | rop cs b off vs hS hcell hrep _ =>intro v' h;simp only [hand] at h;cases h;exact data rfl (VR.rop (A:=A) cs b off vs hS hcell hrep)
 | ptr c i o hA =>
  intro v' h;simp only [hand] at h;split at h
  ·rename_i e;cases h;subst e;obtain ⟨q1,q2⟩:=hb hA;rw [<- q2];exact .ptr nid i o q1
  ·cases h
 | sl c z i len cap ex k hA hz hl hc hx hrow =>
  intro v' h;simp only [hand] at h;split at h
  ·rename_i e;cases h;subst e;obtain ⟨q1,q2⟩:=hb hA;rw [<- q2] at hz hrow |-;exact .sl nid z i len cap ex k q1 hz hl hc hx hrow
  ·cases h
 | map c hA=>intro v' h;simp [hand] at h
 | fn f caps vs hn _ ih =>intro v' h;simp only [hand] at h;obtain ⟨cs,h1,rfl⟩:=aB h;obtain ⟨q1,q2⟩:=DZ _ _ h1;refine .fn f cs vs (hn.trans q1.symm) λj x' hj=>?_;obtain ⟨x,r1,r2⟩:=q2 j x' hj;exact ih j x r1 hb x' r2
 | agg cs vs hn hcell _ ih =>
  intro v' h;simp only [hand] at h;obtain ⟨cs',h1,rfl⟩:=aB h;obtain ⟨q1,q2⟩:=DZ _ _ h1;refine .agg cs' vs (hn.trans q1.symm) (λj x' hj=>?_) λj x' hj=>?_
  ·obtain ⟨x,r1,r2⟩:=q2 j x' hj;rw [aaG r2];exact hcell j x r1
  ·obtain ⟨x,r1,r2⟩:=q2 j x' hj;exact ih j x r1 hb x' r2
 | tup cs vs hn _ ih =>intro v' h;simp only [hand] at h;obtain ⟨cs',h1,rfl⟩:=aB h;obtain ⟨q1,q2⟩:=DZ _ _ h1;refine .tup cs' vs (hn.trans q1.symm) λj x' hj=>?_;obtain ⟨x,r1,r2⟩:=q2 j x' hj;exact ih j x r1 hb x' r2
theorem Inv.join (i:Inv ψ N w0 w S m A h) {nid:Nat} (hn:¬ A nid) (x:Nat × Nat) (o:jr) (hor:OR ψ w S (gK m nid x) (sN A nid) x o) (hm:oq o=true) (hlive:¬ S x.1/\N<=x.1)
 (hne:∀ b o',get h b=some o'->oq o'=true->(m b).1≠x.1):Inv ψ N w0 w S (gK m nid x) (sN A nid) (put h nid o)/\Le w S m A w S (gK m nid x) (sN A nid):=by
 have mof:∀ b,b≠nid->gK m nid x b=m b:=λb hb=>by simp [gK,hb]
 have mn:gK m nid x nid=x:=by simp [gK]
 have le:Le w S m A w S (gK m nid x) (sN A nid) :=⟨λ_ _=>rfl,λ_ c _ _ h=>⟨c,h,rfl⟩,qxq _,λ_ h=>h,λ_ h=>.inl h,λb hb=>mof b λe=>hn (e ▸ hb)⟩;refine ⟨?_,le⟩;constructor
 ·intro b o' hb;rw [get_put] at hb;by_cases e:nid=b
  ·exact .inr e.symm
  ·rw [qwq e] at hb;exact .inl (i.dom b o' hb)
 ·intro b o' hb;rw [get_put] at hb;by_cases e:nid=b
  ·rw [qwz e] at hb;cases hb;subst e;rw [mn];exact hor
  ·rw [qwq e] at hb;rw [mof b (qcj e)];exact (i.obj b o' hb).mono le rfl
 ·intro b o' hb hf;rw [get_put] at hb;by_cases e:nid=b
  ·rw [qwz e] at hb;cases hb;rw [hm] at hf;cases hf
  ·rw [qwq e] at hb;rw [mof b (qcj e)];exact i.fro b o' hb hf
 ·intro b o' hb hf;rw [get_put] at hb;by_cases e:nid=b
  ·subst e;rw [mn];exact hlive
  ·rw [qwq e] at hb;rw [mof b (qcj e)];exact i.live b o' hb hf
 ·intro b o1 b' o2 h1 h2 f1 f2 hne';rw [get_put] at h1 h2;by_cases e1:nid=b
  ·by_cases e2:nid=b'
   ·exact absurd (e1.symm.trans e2) hne'
   ·rw [qwq e2] at h2;subst e1;rw [mn,mof b' (qcj e2)];exact qcj (hne b' o2 h2 f2)
  ·rw [qwq e1] at h1;by_cases e2:nid=b'
   ·subst e2;rw [mn,mof b (qcj e1)];exact hne b o1 h1 f1
   ·rw [qwq e2] at h2;rw [mof b (qcj e1),mof b' (qcj e2)];exact i.inj b o1 b' o2 h1 h2 f1 f2 hne'
 ·exact i.sb
 ·exact i.size
 ·exact i.old
 ·exact i.os
 ·exact i.out
theorem iV:∀ (u v:Upd) (h:Heap),aQ h (u++v)=aQ (aQ h u) v:=by
 intro u;induction u with
 | nil=>intro v h;rfl
 | cons x u ih=>intro v h;obtain ⟨b,o⟩:=x;simp only [qfz,aQ];exact ih v _
theorem o8 (hr:nS P ψ run) {g:Nat} {args az:List AV} {nid n:Nat} {x:AV × Upd} {cargs:Array Value} (hfr:aZ (frz h ay) args=some az) (hp:jc run g az nid=some x)
 (i:Inv ψ N w0 w S m A h) (hnid:¬ A nid) (hs:cargs.size=args.length) (hv:∀ (j:Nat) (x:AV),args[j]?=some x->VR ψ w S m A x (cargs.getD j Go.undef)) :
 jv P (ψ g) cargs w λe w'=>∃ cv,e=.returned cv/\∃ S' m' A',VR ψ w' S' m' A' x.1 cv/\Inv ψ N w0 w' S' m' A' (aQ h (aW h (args.flatMap (reach h ay))++x.2))/\Le w S m A w' S' m' A' /\
  (∀ c,c < N->S' c->S c)/\n<=n/\∀ b,A' b->A b\/b=nid\/(n<=b/\b < n):=by
 obtain ⟨⟨v0,h0,n0⟩,hrun,hx⟩:=au hp;let S1:Nat->Prop:=λc=>S c\/∃ b ∈ args.flatMap (reach h ay),c=(m b).1;have hreach:∀ b ∈ args.flatMap (reach h ay),∃ z es mu,get h b=some (.cells z es mu):=by intro b hb;simp only [qkx] at hb;obtain ⟨x,hx,hb⟩:=hb;obtain ⟨j,hj,e⟩:=qvx hx;obtain ⟨x',_,h2⟩:=(dB hfr).2 j x (by rw [qqj hj,e]);exact kV _ x x' h2 b hb
 have hS1:∀ c,S1 c->c < w.heap.size:=by
  rintro c (hc | ⟨b,hb,rfl⟩)
  ·exact i.sb c hc
  ·obtain ⟨z,es,mu,hg⟩:=hreach b hb;exact (i.obj b _ hg).lt
 have hi0:Inv ψ w.heap.size w w S1 m (λ_=>False) ([]:Heap) :=
  ⟨λb o hb=>by simp [get] at hb,λb o hb=>by simp [get] at hb,λb o hb=>by simp [get] at hb,λb o hb=>by simp [get] at hb,λb o b' o' hb=>by simp [get] at hb,
   hS1,qxq _,λ_ _=>rfl,rfl,rfl⟩
 refine jv.mono ((hr g az [] 0 v0 h0 n0 hrun).2 w.heap.size w w S1 m (λ_=>False) cargs hi0 (λb hb=>hb.elim) (by rw [(dB hfr).1];exact hs) ?_) ?_
 ·intro j x' hj;obtain ⟨x,s1,s2⟩:=iw hfr j x' hj;exact wH i.obj (λb hb=>.inl hb) ay x x' _ s2 (hv j x s1) λb hb=>.inr ⟨b,by simp only [qkx];exact ⟨x,qzx s1,hb⟩,rfl⟩
 ·rintro e w' ⟨cv,rfl,S',m',A',hvr,hinv,hle,hsub,_,hA'⟩;refine ⟨cv,rfl,?_⟩;have hold:∀ c,c < w.heap.size->w'.heap[c]?=w.heap[c]?:=hinv.old;have h12:∀ c,S1 c->S' c:=hle.sub;obtain ⟨j1,j2⟩:=i.data (w':=w') (Sn:=S') hold hinv.size hinv.os hinv.out (λc hc=>h12 c (.inl hc)) hinv.sb (args.flatMap (reach h ay))
   (λb hb=>by obtain ⟨z,es,mu,hg⟩:=hreach b hb;exact ⟨z,es,mu,hg,h12 _ (.inr ⟨b,hb,rfl⟩)⟩)
   (λc hc=>by
    rcases qsj c w.heap.size with hlt | hge
    ·rcases hsub c hlt hc with q | q
     ·exact .inl q
     ·exact .inr (.inl q)
    ·exact .inr (.inr hge))
  have hlow:∀ c,c < N->S' c->S c:=by
   intro c hc hs2;rcases hsub c (qXx hc i.size) hs2 with q | ⟨b,hb,rfl⟩
   ·exact q
   ·obtain ⟨z,es,mu,hg⟩:=hreach b hb;cases mu with
    | true=>have:=(i.live b _ hg rfl).2;omega
    | false=>exact i.fro b _ hg rfl
  simp only at hx;split at hx
  ·obtain ⟨v,h1,rfl⟩:=aB hx;refine ⟨S',m,A,?_,?_,j2,hlow,qxq _,λb hb=>.inl hb⟩
   ·exact F9 (b:=n0) (nid:=0) (λhb=>by rcases hA' _ hb with q | q;exact q.elim;omega) hvr _ h1
   ·simp only [qXz];exact j1
  ·rename_i b _;unfold Gg at hx;split at hx
   ·rename_i z es mu hg;split at hx
    ·rename_i hcond;obtain ⟨v,h1,rfl⟩:=aB hx;simp only [qzq] at hcond;obtain ⟨rfl,hpl⟩:=hcond;obtain ⟨q1,q2,cur,t,q3,q4,q5⟩:=hinv.obj b _ hg;obtain ⟨l1,l2⟩:=hinv.live b _ hg rfl;have hmn:gK m nid (m' b) nid=m' b:=by simp [gK]
     obtain ⟨k1,k2⟩:=j1.join (nid:=nid) hnid (m' b) (.cells z es true) ⟨q1,q2,cur,t,q3,q4,λi e j x he hx=>by
      obtain ⟨r1,u,r2,r3⟩:=q5 i e j x he hx;refine ⟨r1,u,r2,JQ ?_ r3 λ_ h=>h⟩;simp only [qjx] at hpl;exact hpl e (qzx he) x (qzx hx)⟩ rfl ⟨l1,qej i.size l2⟩ (λc o' hc hmu=>by
      rcases DV (h:=h) c (args.flatMap (reach h ay)) h with ⟨z',es',mu',r1,r2,r3⟩ | ⟨r1,_⟩
      ·rw [r3] at hc;cases hc;cases hmu
      ·rw [r1] at hc;have:=(i.obj c o' hc).lt;omega)
     refine ⟨S',gK m nid (m' b),sN A nid,?_,?_,j2.trans k2,hlow,qxq _,λc hc=>hc.imp id .inl⟩
     ·exact F9 (λ_=>⟨.inr rfl,hmn⟩) hvr _ h1
     ·rw [iV];exact k1
    ·cases hx
   ·cases hx
theorem yI:∀ {l:List AV},nZ l=true->∀ x ∈ l,iG x=true:=by
 intro l;induction l with
 | nil=>intro _ x hx;cases hx
 | cons a l ih =>
  intro h x hx;simp only [nZ,qzq] at h;rcases qkq.1 hx with rfl | hx
  ·exact h.1
  ·exact ih h.2 x hx
theorem OH {S S':Nat->Prop} {v:AV} {c:Value} (hb:iG v=true) (hv:VR ψ w S m A v c):VR ψ w S' m A v c:=by
 induction hv with
 | undef v=>simp [iG] at hb
 | bool b=>exact .bool b
 | int k n=>exact .int k n
 | str s=>exact .str s
 | eH=>exact .eH
 | bF=>exact .bF
 | dU=>exact .dU
 | bQ=>exact .bQ
 | roe z ex a k hk=>exact .roe z ex a k hk
 | ro z es ex b off cap cs hS hz hc hx hcell hrep _ =>simp only [iG,qzq,qhj] at hb;obtain ⟨rfl,rfl⟩:=hb;have hc0:cap=0:=hx rfl;subst hc0;exact .roe z true _ 0 (λ_=>rfl)
 | rop cs b off vs hS hcell hrep _=>simp [iG] at hb
 | ptr c i o hA=>exact .ptr c i o hA
 | sl c z i len cap ex k hA hz hl hc hx hrow=>exact .sl c z i len cap ex k hA hz hl hc hx hrow
 | map c hA=>exact .map c hA
 | fn f caps vs hn _ ih=>exact .fn f caps vs hn λj x hj=>ih j x hj (yI (by simpa only [iG] using hb) x (qzx hj))
 | agg cs vs hn hcell _ ih=>exact .agg cs vs hn hcell λj x hj=>ih j x hj (yI (by simpa only [iG] using hb) x (qzx hj))
 | tup cs vs hn _ ih=>exact .tup cs vs hn λj x hj=>ih j x hj (yI (by simpa only [iG] using hb) x (qzx hj))
theorem agF (hr:nS P ψ run) {g:Nat} {args az:List AV} {nid n:Nat} {x:AV × Upd} {cargs:Array Value} (hfr:aZ (frz h ay) args=some az) (hp:jc run g az nid=some x) (hbx:vF x=true)
 (i:Inv ψ N w0 w S m A h) (hnid:¬ A nid) (hs:cargs.size=args.length) (hv:∀ (j:Nat) (x:AV),args[j]?=some x->VR ψ w S m A x (cargs.getD j Go.undef)) :
 jv P (ψ g) cargs w λe w'=>∃ cv,e=.returned cv/\∃ S' m' A',VR ψ w' S' m' A' x.1 cv/\Inv ψ N w0 w' S' m' A' (aQ h x.2)/\Le w S m A w' S' m' A' /\
  (∀ c,c < N->S' c->S c)/\n<=n/\∀ b,A' b->A b\/b=nid\/(n<=b/\b < n):=by
 obtain ⟨⟨v0,h0,n0⟩,hrun,hx⟩:=au hp;let S1:Nat->Prop:=λc=>S c\/∃ b ∈ args.flatMap (reach h ay),c=(m b).1;have hreach:∀ b ∈ args.flatMap (reach h ay),∃ z es mu,get h b=some (.cells z es mu):=by intro b hb;simp only [qkx] at hb;obtain ⟨x,hx,hb⟩:=hb;obtain ⟨j,hj,e⟩:=qvx hx;obtain ⟨x',_,h2⟩:=(dB hfr).2 j x (by rw [qqj hj,e]);exact kV _ x x' h2 b hb
 have hS1:∀ c,S1 c->c < w.heap.size:=by
  rintro c (hc | ⟨b,hb,rfl⟩)
  ·exact i.sb c hc
  ·obtain ⟨z,es,mu,hg⟩:=hreach b hb;exact (i.obj b _ hg).lt
 have hi0:Inv ψ w.heap.size w w S1 m (λ_=>False) ([]:Heap) :=
  ⟨λb o hb=>by simp [get] at hb,λb o hb=>by simp [get] at hb,λb o hb=>by simp [get] at hb,λb o hb=>by simp [get] at hb,λb o b' o' hb=>by simp [get] at hb,
   hS1,qxq _,λ_ _=>rfl,rfl,rfl⟩
 refine jv.mono ((hr g az [] 0 v0 h0 n0 hrun).2 w.heap.size w w S1 m (λ_=>False) cargs hi0 (λb hb=>hb.elim) (by rw [(dB hfr).1];exact hs) ?_) ?_
 ·intro j x' hj;obtain ⟨x,s1,s2⟩:=iw hfr j x' hj;exact wH i.obj (λb hb=>.inl hb) ay x x' _ s2 (hv j x s1) λb hb=>.inr ⟨b,by simp only [qkx];exact ⟨x,qzx s1,hb⟩,rfl⟩
 ·rintro e w' ⟨cv,rfl,S',m',A',hvr,hinv,hle,hsub,_,hA'⟩;refine ⟨cv,rfl,?_⟩;have hold:∀ c,c < w.heap.size->w'.heap[c]?=w.heap[c]?:=hinv.old;obtain ⟨j1,j2⟩:=i.data (w':=w') (Sn:=S) hold hinv.size hinv.os hinv.out (λc hc=>hc) (λc hc=>qXx (i.sb c hc) hinv.size) [] (λb hb=>by cases hb) (λc hc=>.inl hc);simp only at hx;split at hx
  ·obtain ⟨v,h1,rfl⟩:=aB hx;simp only [vF,qzq] at hbx;refine ⟨S,m,A,?_,j1,j2,λc _ hs=>hs,qxq _,λb hb=>.inl hb⟩;exact OH hbx.1 (F9 (b:=n0) (nid:=0) (m2:=m) (A2:=A) (λhb=>by rcases hA' _ hb with q | q;exact q.elim;omega) hvr _ h1)
  ·rename_i b _;unfold Gg at hx;split at hx
   ·rename_i z es mu hg;split at hx
    ·rename_i hcond;obtain ⟨v,h1,rfl⟩:=aB hx;simp only [vF,qdz,q8z,adp,qzq,qtj] at hbx;obtain ⟨hb1,hb2⟩:=hbx;simp only [qzq] at hcond;obtain ⟨rfl,hpl⟩:=hcond;obtain ⟨q1,q2,cur,t,q3,q4,q5⟩:=hinv.obj b _ hg;obtain ⟨l1,l2⟩:=hinv.live b _ hg rfl;have hmn:gK m nid (m' b) nid=m' b:=by simp [gK]
     obtain ⟨k1,k2⟩:=j1.join (nid:=nid) hnid (m' b) (.cells z es true) ⟨q1,q2,cur,t,q3,q4,λi e j x he hx=>by
      obtain ⟨r1,u,r2,r3⟩:=q5 i e j x he hx;refine ⟨r1,u,r2,?_⟩;simp only [qjx] at hpl hb2;have hp1:mD x=true:=hpl e (qzx he) x (qzx hx);have hp2:iG x=true:=yI (hb2 e (qzx he)) x (qzx hx);exact OH hp2 (JQ hp1 r3 λ_ h=>h)⟩ rfl ⟨λq=>l1 (hle.sub _ (.inl q)),qej i.size l2⟩ (λc o' hc hmu=>by
      have:=(i.obj c o' hc).lt;omega)
     refine ⟨S,gK m nid (m' b),sN A nid,?_,k1,j2.trans k2,λc _ hs=>hs,qxq _,λc hc=>hc.imp id .inl⟩;exact OH hb1 (F9 (λ_=>⟨.inr rfl,hmn⟩) hvr _ h1)
    ·cases hx
   ·cases hx
theorem PY (n n1 b:Nat):∀ (h1 h:Heap),get (aQ h (ups n n1 h1)) b=if n<=b/\b < n1 then (match get h1 b with | some o=>some o | none=>get h b) else get h b:=by
 intro h1;induction h1 with
 | nil=>intro h;simp [ups,aQ,get]
 | cons x r ih =>
  intro h;obtain ⟨c,o⟩:=x;by_cases hc:n<=c/\c < n1
  ·have e:ups n n1 ((c,o)::r)=ups n n1 r++[(c,some o)]:=by simp [ups,hc]
   rw [e,iV];simp only [aQ,uX,get_put,get];by_cases q:c=b
   ·subst q;simp [hc]
   ·simp only [qwq q];exact ih h
  ·have e:ups n n1 ((c,o)::r)=ups n n1 r:=by simp [ups,hc]
   rw [e,ih h];simp only [get];by_cases q:c=b
   ·subst q;simp [hc]
   ·simp only [qwq q]
theorem Inv.union {N2:Nat} {w2:World} {m1:Nat->Nat × Nat} {A1:Nat->Prop} {h1:Heap} {n n1:Nat} (i:Inv ψ N w0 w S m A h) (i1:Inv ψ N2 w2 w S m1 A1 h1) (hn:∀ b,A b->b < n) (hn1:∀ b,A1 b->n<=b) (hN:N<=N2)
 (hlt:∀ b o,get h b=some o->oq o=true->(m b).1 < N2) :
 Inv ψ N w0 w S (λb=>if n<=b then m1 b else m b) (λb=>A b\/A1 b) (aQ h (ups n n1 h1))/\Le w S m A w S (λb=>if n<=b then m1 b else m b) (λb=>A b\/A1 b)/\Le w S m1 A1 w S (λb=>if n<=b then m1 b else m b) (λb=>A b\/A1 b):=by
 have le:Le w S m A w S (λb=>if n<=b then m1 b else m b) (λb=>A b\/A1 b) :=⟨λ_ _=>rfl,λ_ c _ _ h=>⟨c,h,rfl⟩,qxq _,λ_ h=>h,λ_ h=>.inl h,λb hb=>qwq (by have:=hn b hb;omega)⟩;have le1:Le w S m1 A1 w S (λb=>if n<=b then m1 b else m b) (λb=>A b\/A1 b) :=⟨λ_ _=>rfl,λ_ c _ _ h=>⟨c,h,rfl⟩,qxq _,λ_ h=>h,λ_ h=>.inr h,λb hb=>qwz (hn1 b hb)⟩;have key:∀ b o,get (aQ h (ups n n1 h1)) b=some o->(get h1 b=some o/\n<=b)\/(get h b=some o/\¬ n<=b):=by
  intro b o hb;rw [PY] at hb;by_cases q:n<=b/\b < n1
  ·rw [qwz q] at hb;cases hq:get h1 b with
   | some o1 =>rw [hq] at hb;cases hb;exact .inl ⟨rfl,q.1⟩
   | none =>rw [hq] at hb;exact .inr ⟨hb,by have:=hn b (i.dom b _ hb);omega⟩
  ·rw [qwq q] at hb;exact .inr ⟨hb,by have:=hn b (i.dom b _ hb);omega⟩
 refine ⟨⟨?_,?_,?_,?_,?_,i.sb,i.size,i.old,i.os,i.out⟩,le,le1⟩
 ·intro b o hb;rcases key b o hb with ⟨q,_⟩ | ⟨q,_⟩
  ·exact .inr (i1.dom b o q)
  ·exact .inl (i.dom b o q)
 ·intro b o hb;rcases key b o hb with ⟨q,q2⟩ | ⟨q,q2⟩
  ·simp only [qwz q2];exact (i1.obj b o q).mono le1 rfl
  ·simp only [qwq q2];exact (i.obj b o q).mono le rfl
 ·intro b o hb hf;rcases key b o hb with ⟨q,q2⟩ | ⟨q,q2⟩
  ·simp only [qwz q2];exact i1.fro b o q hf
  ·simp only [qwq q2];exact i.fro b o q hf
 ·intro b o hb hf;rcases key b o hb with ⟨q,q2⟩ | ⟨q,q2⟩
  ·simp only [qwz q2];obtain ⟨l1,l2⟩:=i1.live b o q hf;exact ⟨l1,qej hN l2⟩
  ·simp only [qwq q2];exact i.live b o q hf
 ·intro b o b' o' hb hb' hf hf' hne;rcases key b o hb with ⟨q,q2⟩ | ⟨q,q2⟩ <;> rcases key b' o' hb' with ⟨p,p2⟩ | ⟨p,p2⟩
  ·simp only [qwz q2,qwz p2];exact i1.inj b o b' o' q p hf hf' hne
  ·simp only [qwz q2,qwq p2];have h1:=(i1.live b o q hf).2;have h2:=hlt b' o' p hf';omega
  ·simp only [qwq q2,qwz p2];have h1:=(i1.live b' o' p hf').2;have h2:=hlt b o q hf;omega
  ·simp only [qwq q2,qwq p2];exact i.inj b o b' o' q p hf hf' hne
theorem get_filter {α:Type} (p:Nat->Bool):∀ (h:List (Nat × α)) (b:Nat),get (h.filter λx=>p x.1) b=if p b=true then get h b else none:=by
 intro h;induction h with
 | nil=>intro b;simp [get]
 | cons x r ih =>
  intro b;obtain ⟨c,o⟩:=x;by_cases hc:p c=true
  ·rw [List.filter_cons_of_pos (by simpa using hc)];simp only [get];by_cases q:c=b
   ·subst q;simp [hc]
   ·rw [qwq q,qwq q,ih]
  ·rw [List.filter_cons_of_neg (by simpa using hc),ih];simp only [get];by_cases q:c=b
   ·subst q;simp [hc]
   ·rw [qwq q]
theorem gy {L:List Nat}:∀ {l:List AV},nO L l=true->∀ x ∈ l,cO L x=true:=by
 intro l;induction l with
 | nil=>intro _ x hx;cases hx
 | cons a l ih =>
  intro h x hx;simp only [nO,qzq] at h;rcases qkq.1 hx with rfl | hx
  ·exact h.1
  ·exact ih h.2 x hx
theorem X4 {S S':Nat->Prop} {L:List Nat} {v:AV} {c:Value} (hb:cO L v=true) (hv:VR ψ w S m A v c):VR ψ w S' m (λb=>A b/\b ∈ L) v c:=by
 induction hv with
 | undef v=>simp [cO] at hb
 | bool b=>exact .bool b
 | int k n=>exact .int k n
 | str s=>exact .str s
 | eH=>exact .eH
 | bF=>exact .bF
 | dU=>exact .dU
 | bQ=>exact .bQ
 | roe z ex a k hk=>exact .roe z ex a k hk
 | ro z es ex b off cap cs hS hz hc hx hcell hrep _ =>simp only [cO,qzq,qhj] at hb;obtain ⟨rfl,rfl⟩:=hb;have hc0:cap=0:=hx rfl;subst hc0;exact .roe z true _ 0 (λ_=>rfl)
 | rop cs b off vs hS hcell hrep _=>simp [cO] at hb
 | ptr c i o hA=>exact .ptr c i o ⟨hA,by simpa [cO] using hb⟩
 | sl c z i len cap ex k hA hz hl hc hx hrow=>exact .sl c z i len cap ex k ⟨hA,by simpa [cO] using hb⟩ hz hl hc hx hrow
 | map c hA=>simp [cO] at hb
 | fn f caps vs hn _ ih=>exact .fn f caps vs hn λj x hj=>ih j x hj (gy (by simpa only [cO] using hb) x (qzx hj))
 | agg cs vs hn hcell _ ih=>exact .agg cs vs hn hcell λj x hj=>ih j x hj (gy (by simpa only [cO] using hb) x (qzx hj))
 | tup cs vs hn _ ih=>exact .tup cs vs hn λj x hj=>ih j x hj (gy (by simpa only [cO] using hb) x (qzx hj))
theorem Inv.keep {N2:Nat} {w2 w':World} {S' Sn:Nat->Prop} {m':Nat->Nat × Nat} {A':Nat->Prop} {h0:Heap} {L:List Nat} (i:Inv ψ N2 w2 w' S' m' A' h0) (hL:∀ b ∈ L,EC L (get h0 b)=true) (hsub:∀ c,Sn c->S' c) :
 Inv ψ N2 w2 w' Sn m' (λb=>A' b/\b ∈ L) (h0.filter λx=>L.contains x.1):=by
 have key:∀ b o,get (h0.filter λx=>L.contains x.1) b=some o->get h0 b=some o/\b ∈ L:=by
  intro b o hb;rw [get_filter] at hb;by_cases q:b ∈ L
  ·rw [qwz (by simpa using q)] at hb;exact ⟨hb,q⟩
  ·rw [qwq (by simpa using q)] at hb;cases hb
 have mut_:∀ b o,get (h0.filter λx=>L.contains x.1) b=some o->oq o=true:=by
  intro b o hb;obtain ⟨q1,q2⟩:=key b o hb;have:=hL b q2;rw [q1] at this;cases o with
  | cells z es mu=>simp only [EC,qzq] at this;exact this.1
  | map es=>rfl
  | iter s pos=>rfl
 refine ⟨λb o hb=>?_,λb o hb=>?_,λb o hb hf=>?_,λb o hb hf=>?_,λb o b' o' hb hb' hf hf' hne=>?_,λc hc=>i.sb c (hsub c hc),i.size,i.old,i.os,i.out⟩
 ·obtain ⟨q1,q2⟩:=key b o hb;exact ⟨i.dom b o q1,q2⟩
 ·obtain ⟨q1,q2⟩:=key b o hb;have h1:=hL b q2;have h2:=i.obj b o q1;rw [q1] at h1;cases o with
  | cells z es mu =>simp only [EC,qzq,qjx] at h1;obtain ⟨r1,r2,c,t,r3,r4,r5⟩:=h2;refine ⟨r1,r2,c,t,r3,r4,λa e j x he hx=>?_⟩;obtain ⟨u1,u,u2,u3⟩:=r5 a e j x he hx;exact ⟨u1,u,u2,X4 (gy (h1.2 e (qzx he)) x (qzx hx)) u3⟩
  | map es=>simp [EC] at h1
  | iter s pos=>simp [EC] at h1
 ·rw [mut_ b o hb] at hf;cases hf
 ·obtain ⟨l1,l2⟩:=i.live b o (key b o hb).1 hf;exact ⟨λq=>l1 (hsub _ q),l2⟩
 ·exact i.inj b o b' o' (key b o hb).1 (key b' o' hb').1 hf hf' hne
theorem aeD (hr:nS P ψ run) {g:Nat} {args az:List AV} {nid n:Nat} {x:AV × Upd × Nat} {cargs:Array Value} (hdb:zJ g=true) (hfr:aZ (frz h ay) args=some az) (hp:sH run g az n=some x)
 (i:Inv ψ N w0 w S m A h) (hn:∀ b,A b->b < n) (hs:cargs.size=args.length) (hv:∀ (j:Nat) (x:AV),args[j]?=some x->VR ψ w S m A x (cargs.getD j Go.undef)) :
 jv P (ψ g) cargs w λe w'=>∃ cv,e=.returned cv/\∃ S' m' A',VR ψ w' S' m' A' x.1 cv/\Inv ψ N w0 w' S' m' A' (aQ h x.2.1)/\Le w S m A w' S' m' A' /\
  (∀ c,c < N->S' c->S c)/\n<=x.2.2/\∀ b,A' b->A b\/b=nid\/(n<=b/\b < x.2.2):=by
 obtain ⟨⟨v0,h0,n0⟩,hrun,hx⟩:=au hp;obtain ⟨hh,hx2,rfl⟩:=aB hx;clear hx;unfold vV at hx2;rw [qwz hdb] at hx2;split at hx2;case isFalse=>cases hx2
 rename_i hk;obtain rfl:=qyj hx2;let S1:Nat->Prop:=λc=>S c\/∃ b ∈ args.flatMap (reach h ay),c=(m b).1;have hreach:∀ b ∈ args.flatMap (reach h ay),∃ z es mu,get h b=some (.cells z es mu):=by intro b hb;simp only [qkx] at hb;obtain ⟨x,hx,hb⟩:=hb;obtain ⟨j,hj,e⟩:=qvx hx;obtain ⟨x',_,h2⟩:=(dB hfr).2 j x (by rw [qqj hj,e]);exact kV _ x x' h2 b hb
 have hS1:∀ c,S1 c->c < w.heap.size:=by
  rintro c (hc | ⟨b,hb,rfl⟩)
  ·exact i.sb c hc
  ·obtain ⟨z,es,mu,hg⟩:=hreach b hb;exact (i.obj b _ hg).lt
 have hi0:Inv ψ w.heap.size w w S1 m (λ_=>False) ([]:Heap) :=
  ⟨λb o hb=>by simp [get] at hb,λb o hb=>by simp [get] at hb,λb o hb=>by simp [get] at hb,λb o hb=>by simp [get] at hb,λb o b' o' hb=>by simp [get] at hb,
   hS1,qxq _,λ_ _=>rfl,rfl,rfl⟩
 refine jv.mono ((hr g az [] n v0 h0 n0 hrun).2 w.heap.size w w S1 m (λ_=>False) cargs hi0 (λb hb=>hb.elim) (by rw [(dB hfr).1];exact hs) ?_) ?_
 ·intro j x' hj;obtain ⟨x,s1,s2⟩:=iw hfr j x' hj;exact wH i.obj (λb hb=>.inl hb) ay x x' _ s2 (hv j x s1) λb hb=>.inr ⟨b,by simp only [qkx];exact ⟨x,qzx s1,hb⟩,rfl⟩
 ·rintro e w' ⟨cv,rfl,S',m',A',hvr,hinv,hle,hsub,hnn,hA'⟩;refine ⟨cv,rfl,?_⟩;simp only [YO,qzq,qjx] at hk;obtain ⟨hk1,hk2⟩:=hk;have hold:∀ c,c < w.heap.size->w'.heap[c]?=w.heap[c]?:=hinv.old;have hinvB:=hinv.keep (Sn:=S) hk2 (λc hc=>hle.sub c (.inl hc));obtain ⟨j1,j2⟩:=i.data (w':=w') (Sn:=S) hold hinv.size hinv.os hinv.out (λc hc=>hc) (λc hc=>qXx (i.sb c hc) hinv.size) [] (λb hb=>by cases hb) (λc hc=>.inl hc);obtain ⟨k1,k2,k3⟩:=Inv.union (n:=n) (n1:=n0) j1 hinvB hn (λb hb=>(hA' b hb.1).elim (λq=>q.elim) (λq=>q.1)) i.size (λc o' hc _=>(i.obj c o' hc).lt);refine ⟨S,_,_,(X4 hk1 hvr).mono k3,k1,j2.trans k2,λc _ q=>q,hnn,λb hb=>?_⟩;rcases hb with q | q
  ·exact .inl q
  ·rcases hA' b q.1 with z | z
   ·exact z.elim
   ·exact .inr (.inr z)
theorem ahu (hr:nS P ψ run) {g:Nat} {args az:List AV} {nid n:Nat} {x:AV × Upd × Nat} {cargs:Array Value} (hdb:¬ zJ g=true) (hfr:aZ (frz h ay) args=some az) (hp:sH run g az n=some x)
 (i:Inv ψ N w0 w S m A h) (hn:∀ b,A b->b < n) (hs:cargs.size=args.length) (hv:∀ (j:Nat) (x:AV),args[j]?=some x->VR ψ w S m A x (cargs.getD j Go.undef)) :
 jv P (ψ g) cargs w λe w'=>∃ cv,e=.returned cv/\∃ S' m' A',VR ψ w' S' m' A' x.1 cv/\Inv ψ N w0 w' S' m' A' (aQ h (aW h (args.flatMap (reach h ay))++x.2.1))/\Le w S m A w' S' m' A' /\
  (∀ c,c < N->S' c->S c)/\n<=x.2.2/\∀ b,A' b->A b\/b=nid\/(n<=b/\b < x.2.2):=by
 obtain ⟨⟨v0,h0,n0⟩,hrun,hx⟩:=au hp;unfold vV at hx;rw [qwq hdb] at hx;cases hx;let S1:Nat->Prop:=λc=>S c\/∃ b ∈ args.flatMap (reach h ay),c=(m b).1;have hreach:∀ b ∈ args.flatMap (reach h ay),∃ z es mu,get h b=some (.cells z es mu):=by intro b hb;simp only [qkx] at hb;obtain ⟨x,hx,hb⟩:=hb;obtain ⟨j,hj,e⟩:=qvx hx;obtain ⟨x',_,h2⟩:=(dB hfr).2 j x (by rw [qqj hj,e]);exact kV _ x x' h2 b hb
 have hS1:∀ c,S1 c->c < w.heap.size:=by
  rintro c (hc | ⟨b,hb,rfl⟩)
  ·exact i.sb c hc
  ·obtain ⟨z,es,mu,hg⟩:=hreach b hb;exact (i.obj b _ hg).lt
 have hi0:Inv ψ w.heap.size w w S1 m (λ_=>False) ([]:Heap) :=
  ⟨λb o hb=>by simp [get] at hb,λb o hb=>by simp [get] at hb,λb o hb=>by simp [get] at hb,λb o hb=>by simp [get] at hb,λb o b' o' hb=>by simp [get] at hb,
   hS1,qxq _,λ_ _=>rfl,rfl,rfl⟩
 refine jv.mono ((hr g az [] n v0 h0 n0 hrun).2 w.heap.size w w S1 m (λ_=>False) cargs hi0 (λb hb=>hb.elim) (by rw [(dB hfr).1];exact hs) ?_) ?_
 ·intro j x' hj;obtain ⟨x,s1,s2⟩:=iw hfr j x' hj;exact wH i.obj (λb hb=>.inl hb) ay x x' _ s2 (hv j x s1) λb hb=>.inr ⟨b,by simp only [qkx];exact ⟨x,qzx s1,hb⟩,rfl⟩
 ·rintro e w' ⟨cv,rfl,S',m',A',hvr,hinv,hle,hsub,hnn,hA'⟩;refine ⟨cv,rfl,?_⟩;have hold:∀ c,c < w.heap.size->w'.heap[c]?=w.heap[c]?:=hinv.old;have h12:∀ c,S1 c->S' c:=hle.sub;obtain ⟨j1,j2⟩:=i.data (w':=w') (Sn:=S') hold hinv.size hinv.os hinv.out (λc hc=>h12 c (.inl hc)) hinv.sb (args.flatMap (reach h ay))
   (λb hb=>by obtain ⟨z,es,mu,hg⟩:=hreach b hb;exact ⟨z,es,mu,hg,h12 _ (.inr ⟨b,hb,rfl⟩)⟩)
   (λc hc=>by
    rcases qsj c w.heap.size with hlt | hge
    ·rcases hsub c hlt hc with q | q
     ·exact .inl q
     ·exact .inr (.inl q)
    ·exact .inr (.inr hge))
  have hlow:∀ c,c < N->S' c->S c:=by
   intro c hc hs2;rcases hsub c (qXx hc i.size) hs2 with q | ⟨b,hb,rfl⟩
   ·exact q
   ·obtain ⟨z,es,mu,hg⟩:=hreach b hb;cases mu with
    | true=>have:=(i.live b _ hg rfl).2;omega
    | false=>exact i.fro b _ hg rfl
  obtain ⟨k1,k2,k3⟩:=j1.union (n1:=n0) hinv hn (λb hb=>(hA' b hb).elim (λq=>q.elim) (λq=>q.1)) i.size (λc o' hc hmu=>by
   rcases DV (h:=h) c (args.flatMap (reach h ay)) h with ⟨z',es',mu',r1,r2,r3⟩ | ⟨r1,_⟩
   ·rw [r3] at hc;cases hc;cases hmu
   ·rw [r1] at hc;exact (i.obj c o' hc).lt)
  refine ⟨S',_,_,hvr.mono k3,by rw [iV];exact k1,j2.trans k2,hlow,hnn,λb hb=>?_⟩;rcases hb with q | q
  ·exact .inl q
  ·rcases hA' b q with z | z
   ·exact z.elim
   ·exact .inr (.inr z)
theorem KZ (hr:nS P ψ run) {C:Prog} {g:Nat} {args:List AV} {nid n:Nat} {d:Called} {cargs:Array Value} (hp:jD C run g args h nid n=some d)
 (i:Inv ψ N w0 w S m A h) (hn:∀ b,A b->b < n) (hnid:¬ A nid) (hs:cargs.size=args.length) (hv:∀ (j:Nat) (x:AV),args[j]?=some x->VR ψ w S m A x (cargs.getD j Go.undef)) :
 (∃ fn c, P.funcs[ψ g]? = some fn /\ fn.name ≠ "runtime.NumGoroutine" /\ fn.body = some c) /\
 jv P (ψ g) cargs w λe w'=>∃ cv,e=.returned cv/\∃ S' m' A',VR ψ w' S' m' A' (bZ h n args d).v cv/\Inv ψ N w0 w' S' m' A' (bZ h n args d).h/\Le w S m A w' S' m' A' /\
  (∀ c,c < N->S' c->S c)/\n<=(bZ h n args d).n/\∀ b,A' b->A b\/b=nid\/(n<=b/\b < (bZ h n args d).n):=by
 have wide:∀ {w':World} {v:AV} {cv:Value} {h':Heap} {n':Nat},Out ψ N w0 w S m A n w' v cv h' n'->∃ S' m' A',VR ψ w' S' m' A' v cv/\Inv ψ N w0 w' S' m' A' h'/\Le w S m A w' S' m' A' /\
  (∀ c,c < N->S' c->S c)/\n<=n'/\∀ b,A' b->A b\/b=nid\/(n<=b/\b < n'):=by
  rintro w' v cv h' n' ⟨S',m',A',r1,r2,r3,r4,r5,r6⟩;exact ⟨S',m',A',r1,r2,r3,r4,r5,λb hb=>(r6 b hb).imp id .inr⟩
 unfold jD at hp;split at hp
 ·rename_i az hfr;split at hfr
  ·cases hfr
  ·obtain ⟨v,hv1,rfl⟩:=aB hp;refine ⟨?_,(pure_ok hr hfr hv1 i hs hv).mono λe w' ⟨cv,h1,h2⟩=>⟨cv,h1,wide h2⟩⟩;obtain ⟨⟨v0,h0,n0⟩,hrun,_⟩:=au hv1;exact (hr _ _ _ _ _ _ _ hrun).1
 ·split at hp
  ·obtain ⟨az,hfr,hp⟩:=au hp;obtain ⟨x,hx,rfl⟩:=aB hp;refine ⟨?_,?_⟩
   ·obtain ⟨⟨v0,h0,n0⟩,hrun,_⟩:=au hx;exact (hr _ _ _ _ _ _ _ hrun).1
   ·simp only [bZ];unfold Ue;by_cases hdb:zJ g=true
    ·rw [qwz hdb,qJj];exact aeD hr hdb hfr hx i hn hs hv
    ·rw [qwq hdb];exact ahu hr hdb hfr hx i hn hs hv
  split at hp
  ·obtain ⟨az,hfr,hp⟩:=au hp;obtain ⟨x,hx,hend⟩:=au hp;refine ⟨?_,?_⟩
   ·obtain ⟨⟨v0,h0,n0⟩,hrun,_⟩:=au hx;exact (hr _ _ _ _ _ _ _ hrun).1
   ·unfold Cc at hend;split at hend
    ·cases hend
    ·rename_i hbr;cases hend;unfold Dx;by_cases hb:sZ g=true
     ·simp only [hb,qYj,qcx,zwq] at hbr;simp only [hb,qQx,bZ,qJj];exact agF hr hfr hx (by simpa using hbr) i hnid hs hv
     ·simp only [hb,qjz,qWz,bZ];exact o8 hr hfr hx i hnid hs hv
  ·obtain ⟨r,hr1,rfl⟩:=aB hp;refine ⟨?_,(Ze hr hr1 i hn hs hv).mono λe w' ⟨cv,h1,h2⟩=>⟨cv,h1,wide h2⟩⟩;obtain ⟨⟨v0,h0,n0⟩,hrun,_⟩:=aB hr1;exact (hr _ _ _ _ _ _ _ hrun).1
end
end Go.Pav
end
section
set_option linter.unusedSimpArgs false
set_option linter.unusedVariables false
namespace Go.Pav
open Go
def COp.calls:COp->Bool
 | .call _ _=>true
 | .dN _ _=>true
 | _=>false
def dS (x:Option COp):Prop:=∀ c,x=some c->c.calls=false
theorem dS.none:dS none:=λc h=>by cases h
theorem dS.some {c:COp} (h:c.calls=false):dS (some c):=λc' h'=>by cases h';exact h
theorem dS.bind {α:Type} {x:Option α} {f:α->Option COp} (h:∀ a,dS (f a)):dS (x >>= f):=by
 intro c hc;cases x with
 | none=>cases hc
 | some a=>exact h a c hc
theorem dS.map {α:Type} {x:Option α} {f:α->COp} (h:∀ a,(f a).calls=false):dS (x.map f):=by
 intro c hc;cases x with
 | none=>cases hc
 | some a=>cases hc;exact h a
theorem Xg (kd:Nat) (ks:List Nat) (op:BinOp) (x y:Opd):dS (cEq kd ks op x y):=by unfold cEq;split <;> first | exact dS.some rfl | exact dS.none
theorem E8 (P:Program) (φ:FuncId->Option Nat) (b:Builtin) (args:List Operand) (ts:List TypeId):dS (ku P φ b args ts):=by
 unfold ku;split;all_goals (first | unfold cLen | unfold ak6 | unfold Ot | unfold acz | unfold Xi | unfold adk | skip)
 all_goals (repeat' (first | exact dS.none | exact dS.some rfl | (refine dS.bind λ_=>?_) | split))
theorem WY (P:Program) (φ:FuncId->Option Nat) (op:Op) (h:∀ c x,op=.call c->c.callee≠.value x):dS (cOp P φ op):=by
 cases op;case call c =>
  simp only [cOp];cases hc:c.callee with
  | value f=>exact absurd hc (h c f rfl)
  | builtin b=>exact E8 P φ b _ _
  | invoke r n=>exact dS.none
 case makeFunc fn first caps =>
  cases fn <;> simp only [cOp] <;> first | exact dS.none | skip
  refine dS.bind λ_=>?_;split
  ·exact dS.bind λ_=>dS.some rfl
  ·exact dS.none
 case makeMap t r=>cases r <;> simp only [cOp] <;> first | exact dS.none | exact dS.some rfl
 case next x b=>cases b <;> simp only [cOp] <;> first | exact dS.none | exact dS.map (λ_=>rfl)
 all_goals simp only [cOp]
 all_goals (repeat' (first | exact dS.none | exact dS.some rfl | exact dS.map (λ_=>rfl) | exact Xg _ _ _ _ _ | (refine dS.bind λ_=>?_) | split))
theorem Sr {e:Env} {c:COp} (h:c.calls=false):callOf e c=some none:=by cases c <;> first | rfl | (simp [COp.calls] at h)
theorem qY {P : Program} {f : FuncId} {fn : Func} {c : Code} (hf : P.funcs[f]? = some fn) (hname : fn.name ≠ "runtime.NumGoroutine") (hb : fn.body = some c) (args : Array Value) (w : World) :
 (callFunc f args).run P w=.ok (.enter f args) w:=by
 simp [callFunc,hf,hname,hb]
section
variable {P:Program} {φ:FuncId->Option Nat} {ψ:Nat->FuncId} {N:Nat} {w0 w:World} {S:Nat->Prop} {m:Nat->Nat × Nat} {A:Nat->Prop} {h:Heap} {e:Env} {a:Act} {o:Oper} {run:Run} {C:Prog}
theorem aa1 (cx:Cx P φ ψ N w0 w S m A h e a) {cop:COp} (hc:cOp P φ o.op=some cop) {f:Nat} {args:List AV} (hcall:callOf e cop=some (some (f,args))) :
 ∃ cargs:Array Value,cargs.size=args.length/\(∀ (j:Nat) (x:AV),args[j]?=some x->VR ψ w S m A x (cargs.getD j Go.undef)) /\
  ∀ fn c, P.funcs[ψ f]? = some fn -> fn.name ≠ "runtime.NumGoroutine" -> fn.body = some c -> (execOp a.eval o).run P w = .ok (.enter (ψ f) cargs) w := by
 have key:∃ c X,o.op=.call c/\c.callee=.value X:=by apply qpq;intro hno;have:=WY P φ o.op (λc x h1 h2=>hno ⟨c,x,h1,h2⟩) cop hc;rw [Sr this] at hcall;cases hcall
 obtain ⟨c,X,ho,hX⟩:=key;have exec : ∀ (F : FuncId) (vs : Array Value), a.eval X = .func (.func F) #[] vs -> ∀ fn b, P.funcs[F]? = some fn -> fn.name ≠ "runtime.NumGoroutine" -> fn.body = some b ->
  (execOp a.eval o).run P w=.ok (.enter F (c.args.map a.eval++vs)) w:=by
  intro F vs hev fn b h1 h2 h3;simp only [execOp,ho,resolve,hX,hev,Deferred.ofValue,invoke,Sem.run_bind,Sem.run_pure,Result.andThen_ok,q4q];exact qY h1 h2 h3 _ w
 have sized:∀ (xs:List Opd) (caps:List AV) (vs:Array Value),Ld φ c.args.toList=some xs->vs.size=caps.length->(∀ (j:Nat) (x:AV),caps[j]?=some x->VR ψ w S m A x (vs.getD j Go.undef)) ->
  (c.args.map a.eval++vs).size=(xs.map (λx=>x.ev e)++caps).length /\
  ∀ (j:Nat) (x:AV),(xs.map (λx=>x.ev e)++caps)[j]?=some x->VR ψ w S m A x ((c.args.map a.eval++vs).getD j Go.undef):=by
  intro xs caps vs hxs hn hcs;obtain ⟨n1,n2⟩:=cx.aoS hxs;refine ⟨by simp [n1,hn],λj x hj=>?_⟩;rw [qxj,zjz];rw [qbj] at hj;simp only [qQq,Array.size_map] at hj |-;rw [n1];split at hj
  ·rename_i hlt;rw [qwz hlt];rw [qWx] at hj;cases hy:xs[j]? with
   | none=>rw [hy] at hj;cases hj
   | some y =>rw [hy] at hj;cases hj;obtain ⟨x0,r1,r2⟩:=n2 j y hy;rw [q9q,r1];exact r2
  ·rename_i hge;rw [qwq hge];have:=hcs _ x hj;rwa [qxj] at this
 rw [ho] at hc;simp only [cOp,hX] at hc;split at hc
 ·rename_i f0 heq;cases heq;simp only [qvq,qzj,qwx] at hc;obtain ⟨g,hg,xs,hxs,rfl⟩:=hc;simp only [callOf,qwx,qkj] at hcall;obtain ⟨rfl,rfl⟩:=hcall;obtain ⟨s1,s2⟩:=sized xs [] #[] hxs rfl (λj x hj=>by simp at hj);refine ⟨c.args.map a.eval++#[],by simpa using s1,λj x hj=>s2 j x (by simpa using hj),?_⟩;exact exec (ψ g) #[] (by rw [cx.ids _ _ hg];rfl)
 ·rename_i X' _ heq;cases heq;simp only [qvq,qzj,qwx] at hc;obtain ⟨g,hg,xs,hxs,rfl⟩:=hc;simp only [callOf] at hcall;split at hcall
  ·rename_i f' caps hev;simp only [qwx,qkj] at hcall;obtain ⟨rfl,rfl⟩:=hcall;have hv:=cx.opd hg;rw [hev] at hv;obtain ⟨vs,e1,n1,r1⟩:=hv.DU;obtain ⟨s1,s2⟩:=sized xs caps vs hxs n1 r1;exact ⟨_,s1,s2,exec (ψ f') vs e1⟩
  ·cases hcall
 ·rename_i heq;cases heq
 ·rename_i heq;cases heq
def YM (ψ:Nat->FuncId) (N:Nat) (w0 w:World) (S:Nat->Prop) (m:Nat->Nat × Nat) (A:Nat->Prop) (nid n:Nat) (w':World) (cv:Value) (d:Did):Prop :=∃ S' m' A',VR ψ w' S' m' A' d.v cv/\Inv ψ N w0 w' S' m' A' d.h/\Le w S m A w' S' m' A'/\(∀ c,c < N->S' c->S c)/\n<=d.n/\∀ b,A' b->A b\/b=nid\/(n<=b/\b < d.n)
theorem UN {ops:Array Oper} {tmps:Array Value} {j s:Nat} (hs:(ops[j]?).bind (·.dst)=some s) :
 yielded ops tmps j=match tmps[s]? with | some (.bool b)=>some b | _=>none:=by
 simp only [yielded,hs,zzx];rfl
theorem KG {ops:Array Oper} (env:jW ψ w S m A e a.tmps) {g:Option (Nat × Bool)}
 (hg:(match o.guard with | none=>some none | some (j,w)=>((ops[j]?).bind (·.dst)).map λd=>some (d,w):Option (Option (Nat × Bool)))=some g) {b:Bool} (hw:wants e g=some b) :
 Region.wanted o (yielded ops a.tmps)=b:=by
 cases hgu:o.guard with
 | none =>rw [hgu] at hg;cases hg;simp only [wants,qwx] at hw;simp [Region.wanted,hgu,<- hw]
 | some jw =>
  obtain ⟨j,want⟩:=jw;rw [hgu] at hg;simp only [qyx] at hg;obtain ⟨s,hs,rfl⟩:=hg;simp only [wants] at hw;simp only [Region.wanted,hgu,UN hs];cases hx:get e s with
  | none=>rw [hx] at hw;cases hw
  | some x =>
   have hv:=env s x hx;rw [hx] at hw;cases x <;> (try simp only at hw) <;> try (cases hw;done)
   case bool t =>
    have:=hv.iD;rw [qxj] at this;cases hy:a.tmps[s]? with
    | none=>rw [hy] at this;cases this
    | some y =>rw [hy] at this;simp only [qYx] at this;subst this;cases hw;cases t <;> cases want <;> rfl
   case tup vs =>
    cases vs with
    | nil =>
     cases hw;obtain ⟨us,e1,_,_⟩:=hv.YZ;rw [qxj] at e1;cases hy:a.tmps[s]? with
     | none=>rfl
     | some y =>rw [hy] at e1;simp only [qYx] at e1;subst e1;rfl
    | cons _ _=>cases hw
theorem abK (hr:nS P ψ run) {ops:Array Oper} {i:Nat} (hi:ops[i]?=some o) {nid n:Nat} {d:Did} (he:jO C run (cu P φ ops o) nid e h n=some d)
 (cx:Cx P φ ψ N w0 w S m A h e a) (hA:∀ b,A b->b < n) (hnid:¬ A nid) {K:Act->World->Prop} {Q:Exit->Act->World->Prop}
 (hK:∀ cv w',YM ψ N w0 w S m A nid n w' cv d->K (a.put o.dst cv) w'):wpOp P ops Q i K a w:=by
 have quiet:∀ {d':Did},d'.v=.tup []->d'.h=h->d'.n=n->YM ψ N w0 w S m A nid n w Go.undef d':=by
  intro d' e1 e2 e3;refine ⟨S,m,A,?_,?_,Le.refl ..,λ_ _ hs=>hs,by omega,λb hb=>.inl hb⟩
  ·rw [e1];exact .tup [] #[] rfl qqz
  ·rw [e2];exact cx.inv
 unfold cu at he;simp only at he;split at he;case h_2=>simp only [jO,wants,jG,callOf,aJ,Aq,om] at he;cases he
 rename_i g cop hg hcop;unfold wpOp;simp only [hi];unfold jO at he;simp only at he;split at he
 ·cases he
 ·rename_i hw;cases he;rw [KG cx.env hg hw];simp only [qjz,qWz];exact hK _ _ (quiet rfl rfl rfl)
 ·rename_i hw;rw [KG cx.env hg hw];simp only [qQx];refine .inl ?_;unfold Oper.wp;unfold jG at he;split at he
  ·cases he
  ·rename_i f args hcall;obtain ⟨c,hcd,rfl⟩:=aB he;obtain ⟨cargs,n1,n2,hex⟩:=aa1 cx hcop hcall;obtain ⟨⟨fn,b,q1,q2,q3⟩,hcalls⟩:=KZ hr hcd cx.inv hA hnid n1 n2;rw [hex fn b q1 q2 q3];simp only [Oper.upon];refine Calls.mono hcalls.1 ?_;rintro e' w' ⟨cv,rfl,S',m',A',r1,r2,r3,r4,r5,r6⟩;exact hK cv w' ⟨S',m',A',r1,r2,r3,r4,r5,r6⟩
  ·rename_i hcall;obtain ⟨⟨v,u⟩,hst,rfl⟩:=aB he;obtain ⟨cv,w',S',m',A',hrun,r1,r2,r3,r5,r4⟩:=step_ok cx hcop hst hnid;have out:YM ψ N w0 w S m A nid n w' cv ⟨v,aQ h u,n,false,readsOf e cop,u.map (·.1)⟩ :=⟨S',m',A',r1,r2,r3,r5,qxq _,λb hb=>(r4 b hb).imp id .inl⟩;rcases hrun with hrun | ⟨hrun,rfl⟩
   ·rw [hrun];exact hK _ _ out
   ·rw [hrun];exact hK _ _ out
end
end Go.Pav
end
section
set_option linter.unusedSimpArgs false
set_option linter.unusedVariables false
namespace Go.Pav
open Go
structure Linked (P:Program) (Φ:Nat->FuncId->Option Nat) (ψ:Nat->FuncId) (C:Prog):Prop where
 ids:∀ g f k,Φ g f=some k->ψ k=f
 fns:∀ g cf,C.fns.get g=some cf->∃ fn,P.funcs[ψ g]?=some fn/\(cFn P (Φ g) fn).map IU=some (IU cf)
 mixed:P.follows .mixedOrders=true
def Reach (ψ:Nat->FuncId) (N:Nat) (w0 w:World) (S:Nat->Prop) (m:Nat->Nat × Nat) (A:Nat->Prop) (n:Nat) (a:Act) (s':St) (a':Act) (w':World):Prop :=
 ∃ S' m' A',Inv ψ N w0 w' S' m' A' s'.heap/\jW ψ w' S' m' A' s'.env a'.tmps/\a'.tmps.size=a.tmps.size/\a'.defers=a.defers/\Le w S m A w' S' m' A' /\
  (∀ c,c < N->S' c->S c)/\n<=s'.next/\∀ b,A' b->A b\/(n<=b/\b < s'.next)
section
variable {P:Program} {φ:FuncId->Option Nat} {ψ:Nat->FuncId} {N:Nat} {w0 w:World} {S:Nat->Prop} {m:Nat->Nat × Nat} {A:Nat->Prop} {a:Act} {run:Run} {C:Prog}
theorem Reach.refl {s:St} (i:Inv ψ N w0 w S m A s.heap) (env:jW ψ w S m A s.env a.tmps):Reach ψ N w0 w S m A s.next a s a w :=⟨S,m,A,i,env,rfl,rfl,Le.refl ..,λ_ _ h=>h,qxq _,λ_ h=>.inl h⟩
def kS (T:Nat->Prop) (a a':Act):Prop:=∀ t,T t->a'.tmps.getD t Go.undef=a.tmps.getD t Go.undef
theorem kS.refl (T:Nat->Prop) (a:Act):kS T a a:=λ_ _=>rfl
theorem kS.trans {T:Nat->Prop} {a b c:Act} (h:kS T a b) (k:kS T b c):kS T a c:=λt ht=>(k t ht).trans (h t ht)
theorem kS.put {T:Nat->Prop} {a:Act} {d:Option Tmp} {v:Value} (h:∀ x,d=some x->¬ T x):kS T a (a.put d v):=by
 intro t ht;cases d with
 | none=>rfl
 | some x =>have hne:x≠t:=λe=>h x rfl (e ▸ ht);simp only [Act.put,qxj,qcq hne]
def jB (T:Nat->Prop) (ψ:Nat->FuncId) (N:Nat) (w0 w:World) (S:Nat->Prop) (m:Nat->Nat × Nat) (A:Nat->Prop) (n:Nat) (a:Act) (s':St) (a':Act) (w':World):Prop :=kS T a a'/\Reach ψ N w0 w S m A n a s' a' w'
theorem Reach.trans {w1:World} {S1:Nat->Prop} {m1:Nat->Nat × Nat} {A1:Nat->Prop} {a1:Act} {n n1:Nat} (hs:a1.tmps.size=a.tmps.size) (hd:a1.defers=a.defers)
 (hle:Le w S m A w1 S1 m1 A1) (hS:∀ c,c < N->S1 c->S c) (hn:n<=n1) (hA:∀ b,A1 b->A b\/(n<=b/\b < n1)) {s2:St} {a2:Act} {w2:World}
 (r:Reach ψ N w0 w1 S1 m1 A1 n1 a1 s2 a2 w2):Reach ψ N w0 w S m A n a s2 a2 w2:=by
 obtain ⟨S2,m2,A2,r1,r2,r3,r4,r5,r6,r7,r8⟩:=r;refine ⟨S2,m2,A2,r1,r2,r3.trans hs,r4.trans hd,hle.trans r5,λc hc h=>hS c hc (r6 c hc h),qej hn r7,λb hb=>?_⟩;rcases r8 b hb with q | ⟨q1,q2⟩
 ·rcases hA b q with q | ⟨q1,q2⟩
  ·exact .inl q
  ·exact .inr ⟨q1,by omega⟩
 ·exact .inr ⟨by omega,q2⟩
theorem Act.Iy (a:Act) (d:Option Tmp) (v:Value):(a.put d v).tmps.size=a.tmps.size:=by cases d <;> simp [Act.put]
theorem Act.EF (a:Act) (d:Option Tmp) (v:Value):(a.put d v).defers=a.defers:=by cases d <;> rfl
theorem jW.dR {e:Env} (env:jW ψ w S m A e a.tmps) {d:Option Nat} (hd:∀ x,d=some x->x < a.tmps.size) {v:AV} {cv:Value} (hv:VR ψ w S m A v cv) :
 jW ψ w S m A (dR e d v) (a.put d cv).tmps:=by
 cases d with
 | none=>exact env
 | some d=>exact env.put (hd d rfl) hv
theorem aam (ops:Array Oper) (Q:Exit->Act->World->Prop) (i:Nat) (rest:List Nat) (a:Act) (w:World):wpOps P ops Q (i::rest) a w=wpOp P ops Q i (wpOps P ops Q rest) a w:=wpOps_cons i rest a w
theorem Ro {T:Nat->Prop} (ids:∀ f g,φ f=some g->ψ g=f) (hr:nS P ψ run) (ops:Array Oper) (Q:Exit->Act->World->Prop) (rest:List Nat):∀ (l:List Oper) (k:Nat),(∀ j o,l[j]?=some o->ops[k+j]?=some o)->∀ (s s':St),lX C run (l.map (cu P φ ops)) s=some s' ->
 ∀ (w:World) (S:Nat->Prop) (m:Nat->Nat × Nat) (A:Nat->Prop) (a:Act),Inv ψ N w0 w S m A s.heap->jW ψ w S m A s.env a.tmps->(∀ b,A b->b < s.next) ->
 (∀ o ∈ l,∀ x,o.dst=some x->x < a.tmps.size)->(∀ o ∈ l,∀ x,o.dst=some x->¬ T x)->(∀ a' w',jB T ψ N w0 w S m A s.next a s' a' w'->wpOps P ops Q rest a' w')->wpOps P ops Q (List.range' k l.length++rest) a w:=by
 intro l;induction l with
 | nil =>intro k _ s s' he w S m A a i env hA _ _ hQ;simp only [qax,lX,qwx] at he;subst he;exact hQ a w ⟨kS.refl _ _,Reach.refl i env⟩
 | cons o l ih =>
  intro k hk s s' he w S m A a i env hA hd hT hQ;have h0:ops[k]?=some o:=by simpa using hk 0 o rfl
  simp only [qvz,lX] at he;obtain ⟨d,hev,he⟩:=au he;rw [qaz,List.range'_succ,qfz,aam];refine abK hr h0 hev ⟨i,env,ids⟩ (λb hb=>qmz (hA b hb)) (λhb=>qrq _ (hA _ hb)) ?_;rintro cv w1 ⟨S1,m1,A1,r1,r2,r3,r4,r5,r6⟩;have hdst:(cu P φ ops o).dst=o.dst:=by unfold cu;simp only;split <;> rfl
  rw [hdst] at he;have hA1:∀ b,A1 b->A b\/(s.next<=b/\b < d.n):=by
   intro b hb;rcases r6 b hb with q | q | ⟨q1,q2⟩
   ·exact .inl q
   ·exact .inr ⟨by omega,by omega⟩
   ·exact .inr ⟨by omega,q2⟩
  refine ih (k+1) (λj o' ho'=>by have:=hk (j+1) o' (by simpa using ho');simpa [qgq,Nat.add_comm 1 j] using this) ⟨dR s.env o.dst d.v,d.h,d.n⟩ s' he w1 S1 m1 A1 (a.put o.dst cv) r2 ((env.mono r3).dR (hd o qXq) r1) (λb hb=>?_) (λo' ho' x hx=>?_) (λo' ho'=>hT o' (qyz _ ho')) (λa' w' hre=>?_)
  ·rcases hA1 b hb with q | q
   ·have:=hA b q;simp only;omega
   ·exact q.2
  ·rw [Act.Iy];exact hd o' (qyz _ ho') x hx
  ·exact hQ a' w' ⟨(kS.put (hT o qXq)).trans hre.1,Reach.trans (Act.Iy ..) (Act.EF ..) r3 r4 qqq hA1 hre.2⟩
inductive Fit (P:Program) (φ:FuncId->Option Nat) (nt:Nat):Option Nat->Code->bn->Prop
 | fail (c:Code):Fit P φ nt none c .fail
 | skip:Fit P φ nt none .skip .skip
 | ops (id:Nat) (ops:Array Oper) (live:Nat × List Nat) (hd:∀ o ∈ ops.toList,∀ x,o.dst=some x->x < nt):Fit P φ nt none (.region id ops false) (.ops (ops.toList.map (cu P φ ops)) live)
 | draw (id:Nat) (ops:Array Oper) (live:Nat × List Nat) (hd:∀ o ∈ ops.toList,∀ x,o.dst=some x->x < nt) (he:qI 0 ops.toList=true)
  (hu:(unordered (ancestors ops.toList)).all (λp=>mF ((ops.toList.map (cu P φ ops)).getD p.1 default) ((ops.toList.map (cu P φ ops)).getD p.2 default))=true) :
  Fit P φ nt none (.region id ops true) (.draw (ops.toList.map (cu P φ ops))
   ((unordered (ancestors ops.toList)).filter λp=>vP ((ops.toList.map (cu P φ ops)).getD p.1 default).op ((ops.toList.map (cu P φ ops)).getD p.2 default).op) live)
 | seq {a b:Code} {x y:bn} (ha:Fit P φ nt none a x) (hb:Fit P φ nt none b y):Fit P φ nt none (.seq a b) (.seq x y)
 | cond {c:Operand} {c':Opd} {a b:Code} {x y:bn} (hc:fD φ c=some c') (ha:Fit P φ nt none a x) (hb:Fit P φ nt none b y):Fit P φ nt none (.cond c a b) (.cond c' x y)
 | block (id:Nat) (hid:id < iT) {b:Code} {y:bn} (hb:Fit P φ nt none b y):Fit P φ nt none (.block id b) (.block id y)
 | loop (live:Nat) {b:Code} {y:bn} (hb:Fit P φ nt none b y):Fit P φ nt none (.loop b) (.loop live y)
 | scope {b:Code} {y:bn} (hj:JO b=true) (hb:Fit P φ nt none b y):Fit P φ nt none (.scope b) (.seq y .skip)
 | label (l:Nat):Fit P φ nt none (.label l) .skip
 | exit (id:Nat) (hid:id < iT):Fit P φ nt none (.exit id) (.exit id)
 | goto (l:Nat):Fit P φ nt none (.goto l) (.exit (gV l))
 | again (l:Nat) {b:Code} {y:bn} (hb:Fit P φ nt (some l) b y):Fit P φ nt none (.scope b) y
 | here (l live:Nat) {b:Code} {y:bn} (hj:dM (λk=>decide (k=l)) b=true) (hb:Fit P φ nt none b y) :
  Fit P φ nt (some l) (.seq (.label l) b) (.block (l9 l) (.loop live (.block (gV l) (.seq y (.exit (l9 l))))))
 | on (l:Nat) {a b:Code} {x y:bn} (hj:JO a=true) (hl:findLabel a l=none) (ha:Fit P φ nt none a x) (hb:Fit P φ nt (some l) b y):Fit P φ nt (some l) (.seq a b) (.seq x y)
 | ret:Fit P φ nt none .ret .ret
theorem Ua {nt id:Nat} {ops:Array Oper} {d:Bool} (hd:∀ o ∈ ops.toList,∀ x,o.dst=some x->x < nt):Fit P φ nt none (.region id ops d) (Og P φ ops d):=by
 unfold Og;cases d with
 | false=>exact .ops id ops (0,[]) hd
 | true =>
  simp only;split
  ·rename_i h;simp only [qzq] at h;exact .draw id ops (0,[]) hd h.1 h.2
  ·exact .fail _
theorem QL {a:Code} {l:Nat} (h:Bl a=some l):a=.label l:=by cases a <;> simp only [Bl,qwx] at h <;> first | (cases h;done) | (rw [h])
theorem Zh {nt:Nat}:∀ (c:Code),dX nt c=true->Fit P φ nt none c (lZ P φ c)/\∀ l,gZ l c=true->Fit P φ nt (some l) c (O5 P φ c):=by
 intro c;induction c with
 | skip=>intro _;exact ⟨.skip,λl h=>by simp [gZ] at h⟩
 | region id ops d =>intro h;refine ⟨Ua λo ho x hx=>?_,λl h=>by simp [gZ] at h⟩;simp only [dX,qjx] at h;have:=h o ho;rw [hx] at this;exact zxz ▸ this
 | seq a b iha ihb =>
  intro h;simp only [dX,qzq] at h;refine ⟨.seq (iha h.1).1 (ihb h.2).1,λl hl=>?_⟩;simp only [gZ] at hl;simp only [O5];split at hl
  ·rename_i l' hla;simp only [qzq,qvj] at hl;obtain ⟨rfl,hj⟩:=hl;rw [QL hla];exact .here _ 0 hj (ihb h.2).1
  ·rename_i hla;simp only [qzq,Option.isNone_iff_eq_none] at hl;exact .on l hl.1.1 hl.1.2 (iha h.1).1 ((ihb h.2).2 l hl.2)
 | cond c a b iha ihb =>
  intro h;simp only [dX,qzq] at h;refine ⟨?_,λl h=>by simp [gZ] at h⟩;simp only [lZ];split
  ·rename_i c' hc;exact .cond hc (iha h.1).1 (ihb h.2).1
  ·exact .fail _
 | block id b ih =>intro h;simp only [dX,qzq] at h;exact ⟨.block id (zxz ▸ h.1) (ih h.2).1,λl h=>by simp [gZ] at h⟩
 | loop b ih=>intro h;exact ⟨.loop 0 (ih h).1,λl h=>by simp [gZ] at h⟩
 | scope b ih =>
  intro h;simp only [dX,qzq,qtz] at h;refine ⟨?_,λl h=>by simp [gZ] at h⟩;simp only [lZ];split
  ·rename_i hj;exact .scope hj (ih h.1).1
  ·rename_i hj;have h2:=h.2.resolve_left (by rw [hj];simp);split at h2
   ·rename_i l hl;exact .again l ((ih h.1).2 l h2)
   ·cases h2
 | label l=>intro _;exact ⟨.label l,λl h=>by simp [gZ] at h⟩
 | goto l=>intro _;exact ⟨.goto l,λl h=>by simp [gZ] at h⟩
 | exit id =>intro h;simp only [dX] at h;exact ⟨.exit id (zxz ▸ h),λl h=>by simp [gZ] at h⟩
 | ret=>intro _;exact ⟨.ret,λl h=>by simp [gZ] at h⟩
 | rangeFunc f ps a b _ _=>intro _;exact ⟨.fail _,λl h=>by simp [gZ] at h⟩
 | refuse w=>intro _;exact ⟨.fail _,λl h=>by simp [gZ] at h⟩
theorem Ej {nt:Nat} (c:Code) (h:dX nt c=true):Fit P φ nt none c (lZ P φ c):=(Zh c h).1
theorem Zn {nt rm:Nat} {sp:Option Nat} {c:Code} {cc:bn} (h:Fit P φ nt sp c cc):∀ (out:Nat) (ex:List (Nat × Nat)),Fit P φ nt sp c (oh rm cc out ex).1:=by
 induction h with
 | fail c=>intro out ex;exact .fail c
 | skip=>intro out ex;exact .skip
 | ops id ops live hd=>intro out ex;exact .ops id ops _ hd
 | draw id ops live hd he hu=>intro out ex;exact .draw id ops _ hd he hu
 | seq _ _ iha ihb=>intro out ex;exact .seq (iha _ _) (ihb _ _)
 | cond hc _ _ iha ihb=>intro out ex;exact .cond hc (iha _ _) (ihb _ _)
 | block id hid _ ih=>intro out ex;exact .block id hid (ih _ _)
 | loop live _ ih=>intro out ex;exact .loop _ (ih _ _)
 | scope hj _ ih=>intro out ex;exact .scope hj (ih _ _)
 | label l=>intro out ex;exact .label l
 | exit id hid=>intro out ex;exact .exit id hid
 | goto l=>intro out ex;exact .goto l
 | again l _ ih=>intro out ex;exact .again l (ih _ _)
 | here l live hj _ ih=>intro out ex;exact .here l _ hj (ih _ _)
 | on l hj hl _ _ iha ihb=>intro out ex;exact .on l hj hl (iha _ _) (ihb _ _)
 | ret=>intro out ex;exact .ret
theorem UC {nt:Nat} {c:Code} {x:bn} {sp:Option Nat} (h:Fit P φ nt sp c x):∀ y,mz y=mz x->Fit P φ nt sp c y:=by
 induction h with
 | fail c=>intro y hy;cases y <;> simp only [mz] at hy <;> first | (cases hy;done) | exact .fail _
 | skip=>intro y hy;cases y <;> simp only [mz] at hy <;> first | (cases hy;done) | exact .skip
 | label l=>intro y hy;cases y <;> simp only [mz] at hy <;> first | (cases hy;done) | exact .label _
 | scope hj _ ih =>
  intro y hy;cases y <;> simp only [mz] at hy <;> try (cases hy;done)
  rename_i y1 y2;simp only [bn.seq.injEq] at hy;have h2:y2=.skip:=by have:=hy.2;cases y2 <;> simp only [mz] at this <;> first | rfl | (cases this;done)
  rw [h2];exact .scope hj (ih _ hy.1)
 | again l _ ih=>intro y hy;exact .again l (ih _ hy)
 | on l hj hl _ _ iha ihb =>
  intro y hy;cases y <;> simp only [mz] at hy <;> try (cases hy;done)
  simp only [bn.seq.injEq] at hy;exact .on l hj hl (iha _ hy.1) (ihb _ hy.2)
 | here l live hj _ ih =>
  intro y hy;cases y <;> simp only [mz] at hy <;> try (cases hy;done)
  rename_i y1;simp only [bn.block.injEq] at hy;obtain ⟨rfl,hy⟩:=hy;cases y1 <;> simp only [mz] at hy <;> try (cases hy;done)
  rename_i m1 y2;simp only [bn.loop.injEq,q5q] at hy;cases y2 <;> simp only [mz] at hy <;> try (cases hy;done)
  rename_i y3;simp only [bn.block.injEq] at hy;obtain ⟨rfl,hy⟩:=hy;cases y3 <;> simp only [mz] at hy <;> try (cases hy;done)
  rename_i y4 y5;simp only [bn.seq.injEq] at hy;have h5:y5=.exit (l9 l):=by have:=hy.2;cases y5 <;> simp only [mz] at this <;> first | (cases this;done) | (cases this;rfl)
  rw [h5];exact .here l _ hj (ih _ hy.1)
 | exit id hid=>intro y hy;cases y <;> simp only [mz] at hy <;> first | (cases hy;done) | (cases hy;exact .exit _ hid)
 | goto l=>intro y hy;cases y <;> simp only [mz] at hy <;> first | (cases hy;done) | (cases hy;exact .goto _)
 | ret=>intro y hy;cases y <;> simp only [mz] at hy <;> first | (cases hy;done) | exact .ret
 | ops id ops live hd =>
  intro y hy;cases y <;> simp only [mz] at hy <;> try (cases hy;done)
  simp only [bn.ops.injEq,and_true] at hy;rw [hy];exact .ops id ops _ hd
 | draw id ops live hd he hu =>
  intro y hy;cases y <;> simp only [mz] at hy <;> try (cases hy;done)
  simp only [bn.draw.injEq,and_true] at hy;rw [hy.1,hy.2];exact .draw id ops _ hd he hu
 | seq _ _ iha ihb =>
  intro y hy;cases y <;> simp only [mz] at hy <;> try (cases hy;done)
  simp only [bn.seq.injEq] at hy;exact .seq (iha _ hy.1) (ihb _ hy.2)
 | cond hc _ _ iha ihb =>
  intro y hy;cases y <;> simp only [mz] at hy <;> try (cases hy;done)
  simp only [bn.cond.injEq] at hy;rw [hy.1];exact .cond hc (iha _ hy.2.1) (ihb _ hy.2.2)
 | block id hid _ ih =>
  intro y hy;cases y <;> simp only [mz] at hy <;> try (cases hy;done)
  simp only [bn.block.injEq] at hy;rw [hy.1];exact .block id hid (ih _ hy.2)
 | loop live _ ih =>
  intro y hy;cases y <;> simp only [mz] at hy <;> try (cases hy;done)
  simp only [bn.loop.injEq,q5q] at hy;exact .loop _ (ih _ hy)
theorem Un (l:Nat):l9 l≠gV l:=by unfold l9 gV;omega
theorem EN {m live l:Nat} {y:bn} {s s':St} {ex:Ex} (h:evC C m (.loop live (.block (gV l) (.seq y (.exit (l9 l))))) s=some (ex,s')) :
 ∃ k e1 s1,k < m/\evC C k y (iJ live s)=some (e1,s1)/\((e1=.norm/\ex=.exit (l9 l)/\s'=s1)\/(e1=.exit (gV l)/\∃ m',m' < m/\evC C m' (.loop live (.block (gV l) (.seq y (.exit (l9 l))))) s1=some (ex,s')) \/
  (e1=.ret/\ex=.ret/\s'=s1)\/(∃ j,e1=.exit j/\j≠gV l/\ex=.exit j/\s'=s1)):=by
 match m,h with
 | 0,h=>simp only [evC] at h;cases h
 | 1,h=>simp only [evC,ob] at h;cases h
 | 2,h=>simp only [evC,ob,om] at h;cases h
 | k+3,h =>
  rw [evC] at h;obtain ⟨⟨e2,s2⟩,h2,h⟩:=au h;rw [evC] at h2;obtain ⟨⟨e3,s3⟩,h3,h2⟩:=aB h2;rw [evC] at h3;obtain ⟨⟨e1,s1⟩,h1,h3⟩:=au h3;refine ⟨k,e1,s1,by omega,h1,?_⟩;cases e1 with
  | norm =>
   simp only [cZ] at h3;cases k with
   | zero=>simp only [evC] at h3;cases h3
   | succ k =>simp only [evC,qwx,qkj] at h3;obtain ⟨rfl,rfl⟩:=h3;simp only [dF,qwq (Un l)] at h2;cases h2;simp only [cZ,qwx,qkj] at h;exact .inl ⟨rfl,h.1.symm,h.2.symm⟩
  | ret =>simp only [cZ,qwx,qkj] at h3;obtain ⟨rfl,rfl⟩:=h3;simp only [dF] at h2;cases h2;simp only [cZ,qwx,qkj] at h;exact .inr (.inr (.inl ⟨rfl,h.1.symm,h.2.symm⟩))
  | exit j =>
   simp only [cZ,qwx,qkj] at h3;obtain ⟨rfl,rfl⟩:=h3;simp only [dF] at h2;by_cases hj:j=gV l
   ·rw [qwz hj] at h2;cases h2;exact .inr (.inl ⟨by rw [hj],k+2,by omega,h⟩)
   ·rw [qwq hj] at h2;cases h2;simp only [cZ,qwx,qkj] at h;exact .inr (.inr (.inr ⟨j,rfl,hj,h.1.symm,h.2.symm⟩))
theorem GL {nt:Nat}:∀ (n:Nat) {sp:Option Nat} {c:Code} {cc:bn},Fit P φ nt sp c cc->∀ (s s':St) (i:Nat),evC C n cc s=some (.exit i,s') ->
 i < iT\/∃ l,i=gV l/\∀ p,dM p c=true->p l=true:=by
 intro n;induction n with
 | zero=>intro sp c cc _ s s' i he;simp only [evC] at he;cases he
 | succ n ih =>
  have spine:∀ {l:Nat} {c:Code} {cc:bn},Fit P φ nt (some l) c cc->∀ (s s':St) (i:Nat),evC C (n+1) cc s=some (.exit i,s')->i < iT\/∃ l,i=gV l/\∀ p,dM p c=true->p l=true:=by
   intro l c cc hf s s' i he;cases hf with
   | on _ hj hl ha hb =>
    simp only [evC] at he;obtain ⟨⟨e1,s1⟩,h1,he⟩:=au he;cases e1 with
    | norm =>
     rcases ih hb _ _ _ he with q | ⟨l,q1,q2⟩
     ·exact .inl q
     ·exact .inr ⟨l,q1,λp hp=>by simp only [dM,qzq] at hp;exact q2 p hp.2⟩
    | exit j =>
     simp only [cZ,qwx,qkj,Ex.exit.injEq] at he;obtain ⟨rfl,rfl⟩:=he;rcases ih ha _ _ _ h1 with q | ⟨l,q1,q2⟩
     ·exact .inl q
     ·exact .inr ⟨l,q1,λp hp=>by simp only [dM,qzq] at hp;exact q2 p hp.1⟩
    | ret=>simp [cZ] at he
   | @here _ live _ y hj hb =>
    rw [evC] at he;obtain ⟨⟨e1,s1⟩,h1,he⟩:=aB he;have loop:∀ (m:Nat),m<=n->∀ s s1 j,evC C m (.loop live (.block (gV l) (.seq y (.exit (l9 l))))) s=some (.exit j,s1)->j=l9 l\/j < iT:=by
     intro m;induction m using Nat.strongRecOn with
     | _ m ihm =>
      intro hm s s1 j h;obtain ⟨k,e1,s2,hk,hy,hc⟩:=EN h;rcases hc with ⟨_,q,_⟩ | ⟨_,m',hm',q⟩ | ⟨_,q,_⟩ | ⟨i,rfl,q1,q2,_⟩
      ·cases q;exact .inl rfl
      ·exact ihm m' hm' qqq _ _ _ q
      ·cases q
      ·cases q2;rcases ih hb _ _ _ (pW k n qqq _ _ _ hy) with z | ⟨l',z1,z2⟩
       ·exact .inr z
       ·have:=z2 _ hj;simp only [qvj] at this;exact absurd (by rw [z1,this]) q1
    cases e1 with
    | norm=>simp [dF] at he
    | ret=>simp [dF] at he
    | exit j =>
     simp only [dF] at he;split at he
     ·cases he
     ·rename_i hne;cases he;exact .inl ((loop n (qxq _) _ _ _ h1).resolve_left hne)
  intro sp c cc hf s s' i he;cases hf with
  | here l live hj hb=>exact spine (.here l live hj hb) _ _ _ he
  | again l hb =>
   rcases spine hb _ _ _ he with q | ⟨l,q1,q2⟩
   ·exact .inl q
   ·exact .inr ⟨l,q1,λp hp=>by simp only [dM] at hp;exact q2 p hp⟩
  | on l hj hl ha hb=>exact spine (.on l hj hl ha hb) _ _ _ he
  | fail=>simp only [evC] at he;cases he
  | skip=>simp only [evC] at he;cases he
  | label=>simp only [evC] at he;cases he
  | ret=>simp only [evC] at he;cases he
  | exit id hid=>simp only [evC,qwx,qkj,Ex.exit.injEq] at he;exact .inl (he.1 ▸ hid)
  | goto l=>simp only [evC,qwx,qkj,Ex.exit.injEq] at he;exact .inr ⟨l,he.1.symm,λp hp=>by simpa [dM] using hp⟩
  | ops id ops live hd=>simp only [evC] at he;obtain ⟨s1,_,he⟩:=au he;obtain ⟨s2,_,he⟩:=aB he;cases he
  | draw id ops live hd h1 h2 =>
   simp only [evC] at he;obtain ⟨s1,_,he⟩:=au he;unfold Bf at he;split at he
   ·obtain ⟨s2,_,he⟩:=aB he;cases he
   ·cases he
  | seq ha hb =>
   simp only [evC] at he;obtain ⟨⟨e1,s1⟩,h1,he⟩:=au he;cases e1 with
   | norm =>
    rcases ih hb _ _ _ he with q | ⟨l,q1,q2⟩
    ·exact .inl q
    ·exact .inr ⟨l,q1,λp hp=>by simp only [dM,qzq] at hp;exact q2 p hp.2⟩
   | exit j =>
    simp only [cZ,qwx,qkj,Ex.exit.injEq] at he;obtain ⟨rfl,rfl⟩:=he;rcases ih ha _ _ _ h1 with q | ⟨l,q1,q2⟩
    ·exact .inl q
    ·exact .inr ⟨l,q1,λp hp=>by simp only [dM,qzq] at hp;exact q2 p hp.1⟩
   | ret=>simp [cZ] at he
  | cond hc ha hb =>
   simp only [evC] at he;unfold tq at he;split at he
   ·rename_i t _;cases t with
    | true =>
     rcases ih ha _ _ _ he with q | ⟨l,q1,q2⟩
     ·exact .inl q
     ·exact .inr ⟨l,q1,λp hp=>by simp only [dM,qzq] at hp;exact q2 p hp.1⟩
    | false =>
     rcases ih hb _ _ _ he with q | ⟨l,q1,q2⟩
     ·exact .inl q
     ·exact .inr ⟨l,q1,λp hp=>by simp only [dM,qzq] at hp;exact q2 p hp.2⟩
   ·cases he
  | block id hid hb =>
   simp only [evC] at he;obtain ⟨⟨e1,s1⟩,h1,he⟩:=aB he;cases e1 with
   | norm=>simp [dF] at he
   | ret=>simp [dF] at he
   | exit j =>
    simp only [dF] at he;split at he
    ·cases he
    ·cases he;rcases ih hb _ _ _ h1 with q | ⟨l,q1,q2⟩
     ·exact .inl q
     ·exact .inr ⟨l,q1,λp hp=>by simp only [dM] at hp;exact q2 p hp⟩
  | loop live hb =>
   simp only [evC] at he;obtain ⟨⟨e1,s1⟩,h1,he⟩:=au he;cases e1 with
   | norm=>exact ih (.loop live hb) _ _ _ he
   | exit j =>
    simp only [cZ,qwx,qkj,Ex.exit.injEq] at he;obtain ⟨rfl,rfl⟩:=he;rcases ih hb _ _ _ h1 with q | ⟨l,q1,q2⟩
    ·exact .inl q
    ·exact .inr ⟨l,q1,λp hp=>by simp only [dM] at hp;exact q2 p hp⟩
   | ret=>simp [cZ] at he
  | scope hj hb =>
   simp only [evC] at he;obtain ⟨⟨e1,s1⟩,h1,he⟩:=au he;cases e1 with
   | norm =>
    simp only [cZ] at he;cases n with
    | zero=>simp only [evC] at he;cases he
    | succ k=>simp only [evC] at he;cases he
   | exit j =>
    simp only [cZ,qwx,qkj,Ex.exit.injEq] at he;obtain ⟨rfl,rfl⟩:=he;rcases ih hb _ _ _ h1 with q | ⟨l,q1,q2⟩
    ·exact .inl q
    ·exact .inr ⟨l,q1,λp hp=>by simp only [dM] at hp;exact q2 p hp⟩
   | ret=>simp [cZ] at he
def VJ (P:Program) (φ:FuncId->Option Nat) (ψ:Nat->FuncId) (C:Prog) (run:Run):Prop :=
 ∀ (nt id:Nat) (ops:Array Oper) (un:List (Nat × Nat)) (live:Nat × List Nat) (T:Nat->Prop),(∀ t,T t->gG t (.region id ops true)=false)->Fit P φ nt none (.region id ops true) (.draw (ops.toList.map (cu P φ ops)) un live) ->
  ∀ (s:St) (r:St × List Did),o9 C run (ops.toList.map (cu P φ ops)) s.next ⟨s.env,s.heap,s.next+(ops.toList.map (cu P φ ops)).length⟩ []=some r->un.all (apart r.2)=true ->
  ∀ (N:Nat) (w0 w:World) (S:Nat->Prop) (m:Nat->Nat × Nat) (A:Nat->Prop) (a:Act) (Q:Exit->Act->World->Prop),Inv ψ N w0 w S m A s.heap->jW ψ w S m A s.env a.tmps->(∀ b,A b->b < s.next) ->
  a.tmps.size=nt->(∀ a' w',jB T ψ N w0 w S m A s.next a r.1 a' w'->Q .normal a' w')->(Code.region id ops true).wp P Q a w
def Ex.out:Ex->Exit
 | .norm=>.normal
 | .exit id=>if id < iT then .exit id else .goto ((id - 1000000) / 2)
 | .ret=>.ret
theorem rY {id:Nat} (h:id < iT):(Ex.exit id).out=.exit id:=by simp only [Ex.out,qwz h]
theorem RU (l:Nat):(Ex.exit (gV l)).out=.goto l:=by
 have h:¬ gV l < iT:=by unfold gV iT;omega
 simp only [Ex.out,qwq h,Exit.goto.injEq];unfold gV;omega
theorem Ri {R:Act->World->Prop} {Q:Exit->Act->World->Prop} {a:Act} {w:World} {id:Nat} (h:Q (Ex.exit id).out a w):Exit.then R Q (Ex.exit id).out a w:=by revert h;unfold Ex.out;simp only;split <;> exact λh=>h
def BX (P:Program) (c:Code) (Q:Exit->Act->World->Prop) (a:Act) (w:World):Prop :=∀ (b:Frame) (k:List Item) (cs:List Frame),∃ e a' w',Q e a' w'/\Arrives P (lone (b.at a (.code c::.inLoop c::k)) cs w) b k cs e a' w'
theorem BX.wp {c:Code} {Q:Exit->Act->World->Prop} (h:BX P c Q a w):(Code.loop c).wp P Q a w:=by intro b k cs;obtain ⟨e,a',w',hq,harr⟩:=h b k cs;exact ⟨e,a',w',hq,.of_steps (.one step_loop) harr⟩
theorem BX.step {c:Code} {Q:Exit->Act->World->Prop} (h:c.wp P (Exit.then (BX P c Q) Q) a w):BX P c Q a w:=by
 intro b k cs;obtain ⟨e,a₁,w₁,hq,harr⟩:=h b (.inLoop c::k) cs;cases e with
 | normal =>obtain ⟨e₂,a₂,w₂,hq₂,harr₂⟩:=hq b k cs;exact ⟨e₂,a₂,w₂,hq₂,.of_steps (Steps.trans harr (.one step_inLoop)) harr₂⟩
 | exit id=>exact ⟨_,a₁,w₁,hq,.pass (x:=.inLoop c) rfl (λ_ _=>.inl qqz) harr⟩
 | goto l=>exact ⟨_,a₁,w₁,hq,.pass (x:=.inLoop c) rfl (λ_ _=>.inl qqz) harr⟩
 | ret=>exact ⟨_,a₁,w₁,hq,.pass (x:=.inLoop c) rfl (λ_ _=>.inl qqz) harr⟩
 | panic ch=>exact ⟨_,a₁,w₁,hq,.pass (x:=.inLoop c) rfl (λ_ _=>.inl qqz) harr⟩
 | outgrown=>exact ⟨_,a₁,w₁,hq,.pass (x:=.inLoop c) rfl (λ_ _=>.inl qqz) harr⟩
def rM (P:Program) (φ:FuncId->Option Nat) (ψ:Nat->FuncId) (C:Prog) (fuel:Nat):Prop :=
 ∀ (nt:Nat) (c:Code) (cc:bn),Fit P φ nt none c cc->∀ (T:Nat->Prop),(∀ t,T t->gG t c=false)->∀ (s:St) (ex:Ex) (s':St),evC C fuel cc s=some (ex,s') ->
  ∀ (N:Nat) (w0 w:World) (S:Nat->Prop) (m:Nat->Nat × Nat) (A:Nat->Prop) (a:Act) (Q:Exit->Act->World->Prop),Inv ψ N w0 w S m A s.heap->jW ψ w S m A s.env a.tmps->(∀ b,A b->b < s.next) ->
  a.tmps.size=nt->(∀ a' w',jB T ψ N w0 w S m A s.next a s' a' w'->Q ex.out a' w')->c.wp P Q a w/\∀ b,c=.loop b->BX P b Q a w
theorem jW.drop {s':St} {t:Array Value} (h:jW ψ w S m A s'.env t) (live:Nat):jW ψ w S m A (iJ live s').env t:=by
 unfold iJ;simp only;split
 ·exact h
 ·exact h.keep live
theorem Reach.drop {n live:Nat} {s':St} {a':Act} {w':World} (r:Reach ψ N w0 w S m A n a s' a' w'):Reach ψ N w0 w S m A n a (iJ live s') a' w':=by obtain ⟨S2,m2,A2,r1,r2,r3⟩:=r;exact ⟨S2,m2,A2,r1,r2.drop live,r3⟩
theorem Reach.frz {n k:Nat} {s' s2:St} {a':Act} {w':World} (r:Reach ψ N w0 w S m A n a s' a' w') (h:Gj k s'=some s2):Reach ψ N w0 w S m A n a s2 a' w':=by
 obtain ⟨S2,m2,A2,i,env,hsz,hdf,le,hS,hn,hA⟩:=r;obtain ⟨v,hv,h⟩:=au h;obtain ⟨v',hf,rfl⟩:=aB h;have hreach:∀ b ∈ reach s'.heap ay v,∃ z es mu,get s'.heap b=some (.cells z es mu):=kV _ v v' hf;obtain ⟨j1,j2⟩:=i.data (w':=w') (Sn:=λc=>S2 c\/∃ b ∈ reach s'.heap ay v,c=(m2 b).1) (λ_ _=>rfl) (qxq _) rfl rfl (λ_ hc=>.inl hc)
  (λc hc=>by
   rcases hc with hc | ⟨b,hb,rfl⟩
   ·exact i.sb c hc
   ·obtain ⟨z,es,mu,hg⟩:=hreach b hb;exact (i.obj b _ hg).lt)
  (reach s'.heap ay v)
  (λb hb=>by obtain ⟨z,es,mu,hg⟩:=hreach b hb;exact ⟨z,es,mu,hg,.inr ⟨b,hb,rfl⟩⟩)
  (λc hc=>hc.elim .inl λq=>.inr (.inl q))
 refine ⟨λc=>S2 c\/∃ b ∈ reach s'.heap ay v,c=(m2 b).1,m2,A2,j1,?_,hsz,hdf,le.trans j2,?_,hn,hA⟩
 ·intro sl x hx;simp only [dR,get_put] at hx;split at hx
  ·rename_i hk;cases hx;subst hk;have hro:=wH (S':=λc=>S2 c\/∃ b ∈ reach s'.heap ay v,c=(m2 b).1) i.obj (λb hb=>.inl hb) ay v v' _ hf (env k v hv) λb hb=>.inr ⟨b,hb,rfl⟩;exact hro.mono' (λ_ _=>rfl) (λ_ c _ _ h=>⟨c,h,rfl⟩) (λ_ h=>h) (λ_ h=>h.elim) (λ_ h=>h.elim)
  ·exact (env sl x hx).mono j2
 ·intro c hc hs;rcases hs with q | ⟨b,hb,rfl⟩
  ·exact hS c hc q
  ·obtain ⟨z,es,mu,hg⟩:=hreach b hb;cases mu with
   | true=>have:=(i.live b _ hg rfl).2;omega
   | false=>exact hS _ hc (i.fro b _ hg rfl)
theorem Reach.Zi {n:Nat} {a':Act} {w':World}:∀ (l:List Nat) {s' s2:St},Reach ψ N w0 w S m A n a s' a' w'->lD l s'=some s2->Reach ψ N w0 w S m A n a s2 a' w'
 | [],s',s2,r,h=>by simp only [lD,qwx] at h;exact h ▸ r
 | k::l,s',s2,r,h=>by simp only [lD] at h;obtain ⟨s1,h1,h2⟩:=au h;exact Reach.Zi l (r.frz h1) h2
theorem Reach.kM {n:Nat} {live:Nat × List Nat} {s' s2:St} {a':Act} {w':World} (r:Reach ψ N w0 w S m A n a s' a' w') (h:Pav.kM live s'=some s2):Reach ψ N w0 w S m A n a s2 a' w':=by obtain ⟨s1,h1,rfl⟩:=aB h;exact (r.Zi _ h1).drop
theorem jB.kM {T:Nat->Prop} {n:Nat} {live:Nat × List Nat} {s' s2:St} {a':Act} {w':World} (r:jB T ψ N w0 w S m A n a s' a' w') (h:Pav.kM live s'=some s2):jB T ψ N w0 w S m A n a s2 a' w' :=⟨r.1,r.2.kM h⟩
theorem jB.trans {T:Nat->Prop} {w1:World} {S1:Nat->Prop} {m1:Nat->Nat × Nat} {A1:Nat->Prop} {a1:Act} {n n1:Nat} (hk:kS T a a1) (hs:a1.tmps.size=a.tmps.size) (hd:a1.defers=a.defers)
 (hle:Le w S m A w1 S1 m1 A1) (hS:∀ c,c < N->S1 c->S c) (hn:n<=n1) (hA:∀ b,A1 b->A b\/(n<=b/\b < n1)) {s2:St} {a2:Act} {w2:World}
 (r:jB T ψ N w0 w1 S1 m1 A1 n1 a1 s2 a2 w2):jB T ψ N w0 w S m A n a s2 a2 w2:=⟨hk.trans r.1,Reach.trans hs hd hle hS hn hA r.2⟩
def iE (l:Nat) (e:Ex):Exit:=match e with
 | .exit i=>if i=l9 l then .normal else (Ex.exit i).out
 | e=>e.out
theorem aaP {fuel nt l:Nat} (ih:rM P φ ψ C fuel) {live:Nat} {b whole:Code} {y:bn} (hj:dM (λk=>decide (k=l)) b=true) (hf:Fit P φ nt none b y) (hw:findLabel whole l=some (.seq .skip b)) {T:Nat->Prop} (hT:∀ t,T t->gG t b=false) :
 ∀ (n:Nat),n<=fuel+1->∀ (s:St) (ex:Ex) (s':St),evC C n (.loop live (.block (gV l) (.seq y (.exit (l9 l))))) s=some (ex,s') ->
 ∀ (N:Nat) (w0 w:World) (S:Nat->Prop) (m:Nat->Nat × Nat) (A:Nat->Prop) (a:Act) (Q:Exit->Act->World->Prop),Inv ψ N w0 w S m A s.heap->jW ψ w S m A s.env a.tmps->(∀ b,A b->b < s.next) ->
 a.tmps.size=nt->(∀ a' w',jB T ψ N w0 w S m A s.next a s' a' w'->Q (iE l ex) a' w') ->
 ∀ (f:Go.Frame) (k:List Item) (cs:List Go.Frame),∃ e a' w',Q e a' w'/\Arrives P (lone (f.at a (.code b::.inScope whole::k)) cs w) f k cs e a' w':=by
 intro n;induction n using Nat.strongRecOn with
 | _ n ihn =>
  intro hn s ex s' he N w0 w S m A a Q i env hA hsz hQ f k cs;obtain ⟨k1,e1,s1,hk,hy,hc⟩:=EN he;obtain ⟨e,a1,w1,⟨rfl,hk1,hre⟩,harr⟩:=(ih nt b y hf T hT (iJ live s) e1 s1 (pW k1 fuel qqq _ _ _ hy) N w0 w S m A a (λe a' w'=>e=e1.out/\jB T ψ N w0 w S m A s.next a s1 a' w') i (env.drop live) hA hsz (λa' w' h=>⟨rfl,h⟩)).1 f (.inScope whole::k) cs;rcases hc with ⟨rfl,rfl,rfl⟩ | ⟨rfl,m',hm',he'⟩ | ⟨rfl,rfl,rfl⟩ | ⟨j,rfl,hne,rfl,rfl⟩
  ·refine ⟨.normal,a1,w1,?_,Steps.trans harr (.one step_inScope)⟩;have:=hQ a1 w1 ⟨hk1,hre⟩;simpa only [iE,qwz] using this
  ·rw [RU] at harr;have hg:gotoIn l (.inScope whole::k)=some (.code (.seq .skip b)::.inScope whole::k):=by simp [gotoIn,hw]
   have hs:=harr _ hg;obtain ⟨S1,m1,A1,r1,r2,r3,r4,r5,r6,r7,r8⟩:=hre;obtain ⟨e2,a2,w2,hq2,harr2⟩:=ihn m' hm' qqq s1 ex s' he' N w0 w1 S1 m1 A1 a1 Q r1 r2 (λb hb=>by
    rcases r8 b hb with q | q
    ·have:=hA b q;omega
    ·exact q.2) (r3.trans hsz) (λa' w' h=>hQ a' w' (jB.trans hk1 r3 r4 r5 r6 r7 r8 h)) f k cs
   exact ⟨e2,a2,w2,hq2,.of_steps (Steps.trans hs (.head step_seq (.one step_skip))) harr2⟩
  ·exact ⟨.ret,a1,w1,hQ a1 w1 ⟨hk1,hre⟩,harr⟩
  ·have hlt:j < iT:=by
    rcases GL k1 hf _ _ _ hy with z | ⟨l',z1,z2⟩
    ·exact z
    ·have:=z2 _ hj;simp only [qvj] at this;exact absurd (by rw [z1,this]) hne
   rw [rY hlt] at harr;refine ⟨.exit j,a1,w1,?_,λk' hk'=>harr k' (by simp [exitTo,hk'])⟩;have:=hQ a1 w1 ⟨hk1,hre⟩;have hno:j≠l9 l:=by unfold l9 iT at *;omega
   simpa only [iE,qwq hno,rY hlt] using this
theorem aeJ {fuel nt l:Nat} (ih:rM P φ ψ C fuel) {whole:Code} {T:Nat->Prop}:∀ (c:Code) (cc:bn),Fit P φ nt (some l) c cc->findLabel whole l=findLabel c l->(∀ t,T t->gG t c=false) ->
 ∀ (n:Nat),n<=fuel+1->∀ (s:St) (ex:Ex) (s':St),evC C n cc s=some (ex,s') ->
 ∀ (N:Nat) (w0 w:World) (S:Nat->Prop) (m:Nat->Nat × Nat) (A:Nat->Prop) (a:Act) (Q:Exit->Act->World->Prop),Inv ψ N w0 w S m A s.heap->jW ψ w S m A s.env a.tmps->(∀ b,A b->b < s.next) ->
 a.tmps.size=nt->(∀ a' w',jB T ψ N w0 w S m A s.next a s' a' w'->Q ex.out a' w') ->
 ∀ (f:Go.Frame) (k:List Item) (cs:List Go.Frame),∃ e a' w',Q e a' w'/\Arrives P (lone (f.at a (.code c::.inScope whole::k)) cs w) f k cs e a' w':=by
 intro c;induction c with
 | seq a0 b _ ihb =>
  intro cc hf hw hT n hn s ex s' he N w0 w S m A a Q i env hA hsz hQ f k cs;have hTb:∀ t,T t->gG t b=false:=λt ht=>by have:=hT t ht;simp only [gG,qZq] at this;exact this.2
  have hTa:∀ t,T t->gG t a0=false:=λt ht=>by have:=hT t ht;simp only [gG,qZq] at this;exact this.1
  cases hf with
  | @here _ live _ y hj hb =>
   match n,he with
   | 0,he=>simp only [evC] at he;cases he
   | n+1,he =>
    rw [evC] at he;obtain ⟨⟨e1,s1⟩,h1,he⟩:=aB he;have hw':findLabel whole l=some (.seq .skip b):=by rw [hw];simp [findLabel]
    have hs1:s1=s':=by
     unfold dF at he;split at he
     ·split at he <;> cases he <;> rfl
     ·cases he;rfl
    subst hs1;obtain ⟨e2,a2,w2,hq2,harr2⟩:=aaP ih hj hb hw' hTb n qqq s e1 s1 h1 N w0 w S m A a Q i env hA hsz (λa' w' h=>by
     have hq:=hQ a' w' h;cases e1 with
     | norm=>simp only [dF,qkj] at he;rw [<- he.1] at hq;exact hq
     | ret=>simp only [dF,qkj] at he;rw [<- he.1] at hq;exact hq
     | exit j =>
      simp only [dF] at he;simp only [iE];by_cases hj':j=l9 l
      ·rw [qwz hj'] at he |-;simp only [qkj] at he;rw [<- he.1] at hq;exact hq
      ·rw [qwq hj'] at he |-;simp only [qkj] at he;rw [<- he.1] at hq;exact hq) f k cs
    exact ⟨e2,a2,w2,hq2,.of_steps (.head step_seq (.one step_label)) harr2⟩
  | @on _ _ _ x y hj hl ha hb =>
   match n,he with
   | 0,he=>simp only [evC] at he;cases he
   | n+1,he =>
    rw [evC] at he;obtain ⟨⟨e1,s1⟩,h1,he⟩:=au he;obtain ⟨e,a1,w1,⟨rfl,hk1,hre⟩,harr⟩:=(ih nt a0 x ha T hTa s e1 s1 (pW n fuel qqq _ _ _ h1) N w0 w S m A a (λe a' w'=>e=e1.out/\jB T ψ N w0 w S m A s.next a s1 a' w') i env hA hsz (λa' w' h=>⟨rfl,h⟩)).1 f (.code b::.inScope whole::k) cs;cases e1 with
    | norm =>
     simp only [cZ] at he;obtain ⟨S1,m1,A1,r1,r2,r3,r4,r5,r6,r7,r8⟩:=hre;have hwb:findLabel whole l=findLabel b l:=by rw [hw];simp [findLabel,hl]
     obtain ⟨e2,a2,w2,hq2,harr2⟩:=ihb y hb hwb hTb n qqq s1 ex s' he N w0 w1 S1 m1 A1 a1 Q r1 r2 (λb hb=>by
      rcases r8 b hb with q | q
      ·have:=hA b q;omega
      ·exact q.2) (r3.trans hsz) (λa' w' h=>hQ a' w' (jB.trans hk1 r3 r4 r5 r6 r7 r8 h)) f k cs
     exact ⟨e2,a2,w2,hq2,.of_steps (.head step_seq harr) harr2⟩
    | ret =>simp only [cZ,qwx,qkj] at he;obtain ⟨rfl,rfl⟩:=he;exact ⟨.ret,a1,w1,hQ a1 w1 ⟨hk1,hre⟩,.of_steps (.one step_seq) harr⟩
    | exit j =>
     simp only [cZ,qwx,qkj] at he;obtain ⟨rfl,rfl⟩:=he;have hlt:j < iT:=by
      rcases GL n ha _ _ _ h1 with z | ⟨l',z1,z2⟩
      ·exact z
      ·have:=z2 _ hj;cases this
     have hq:=hQ a1 w1 ⟨hk1,hre⟩;rw [rY hlt] at harr hq;exact ⟨.exit j,a1,w1,hq,λk' hk'=>.head step_seq (harr k' (by simp [exitTo,hk']))⟩
 | _=>intro cc hf;cases hf
theorem aay (ids:∀ f g,φ f=some g->ψ g=f) {fuel:Nat} (ih:rM P φ ψ C fuel) (hr:nS P ψ (runWith C (evC C fuel))) (hd:VJ P φ ψ C (runWith C (evC C fuel))):rM P φ ψ C (fuel+1):=by
 intro nt c cc hfit T hT s ex s' he N w0 w S m A a Q i env hA hsz hQ;have plain:∀ {c:Code},(∀ b,c≠.loop b)->c.wp P Q a w->c.wp P Q a w/\∀ b,c=.loop b->BX P b Q a w:=λhne h=>⟨h,λb e=>absurd e (hne b)⟩;cases hfit with
 | fail c=>simp only [evC] at he;cases he
 | skip =>simp only [evC,qwx,qkj] at he;obtain ⟨rfl,rfl⟩:=he;exact plain (λb e=>by cases e) (wp_skip (hQ a w ⟨kS.refl _ _,Reach.refl i env⟩))
 | label l =>simp only [evC,qwx,qkj] at he;obtain ⟨rfl,rfl⟩:=he;exact plain (λb e=>by cases e) (wp_label (hQ a w ⟨kS.refl _ _,Reach.refl i env⟩))
 | @scope b cb hj hb =>
  simp only [evC] at he;obtain ⟨⟨e1,s1⟩,h1,he⟩:=au he;refine plain (λb e=>by cases e) (wp_scope_straight ?_);refine (ih nt b cb hb T (λt ht=>by simpa only [gG] using hT t ht) s e1 s1 h1 N w0 w S m A a _ i env hA hsz ?_).1;rintro a1 w1 hre;cases e1 with
  | norm =>
   simp only [cZ] at he;cases fuel with
   | zero=>simp only [evC] at he;cases he
   | succ k =>simp only [evC,qwx,qkj] at he;obtain ⟨rfl,rfl⟩:=he;exact hQ a1 w1 hre
  | exit id =>
   simp only [cZ,qwx,qkj] at he;obtain ⟨rfl,rfl⟩:=he;have hlt:id < iT:=by
    rcases GL fuel hb _ _ _ h1 with z | ⟨l',z1,z2⟩
    ·exact z
    ·have:=z2 _ hj;cases this
   have hq:=hQ a1 w1 hre;rw [rY hlt] at hq |-;exact hq
  | ret =>simp only [cZ,qwx,qkj] at he;obtain ⟨rfl,rfl⟩:=he;exact hQ a1 w1 hre
 | @again l b cb hb =>refine plain (λb e=>by cases e) (λf k cs=>?_);obtain ⟨e2,a2,w2,hq2,harr2⟩:=aeJ ih b cc hb rfl (λt ht=>by simpa only [gG] using hT t ht) (fuel+1) (qxq _) s ex s' he N w0 w S m A a Q i env hA hsz hQ f k cs;exact ⟨e2,a2,w2,hq2,.of_steps (.one step_scope) harr2⟩
 | goto l =>simp only [evC,qwx,qkj] at he;obtain ⟨rfl,rfl⟩:=he;have hq:=hQ a w ⟨kS.refl _ _,Reach.refl i env⟩;rw [RU] at hq;exact plain (λb e=>by cases e) (λf k cs=>⟨.goto l,a,w,hq,λk' hk=>.one (step_goto hk)⟩)
 | exit id hid =>simp only [evC,qwx,qkj] at he;obtain ⟨rfl,rfl⟩:=he;have hq:=hQ a w ⟨kS.refl _ _,Reach.refl i env⟩;rw [rY hid] at hq;exact plain (λb e=>by cases e) (wp_exit hq)
 | ret =>simp only [evC,qwx,qkj] at he;obtain ⟨rfl,rfl⟩:=he;exact plain (λb e=>by cases e) (wp_ret (hQ a w ⟨kS.refl _ _,Reach.refl i env⟩))
 | ops id ops live hdst =>simp only [evC] at he;obtain ⟨s1,h1,he⟩:=au he;obtain ⟨s2,h2,he⟩:=aB he;cases he;refine plain (λb e=>by cases e) (wp_region ?_);rw [List.range_eq_range',<- q7j,<- qXz (List.range' 0 ops.toList.length)];refine Ro ids hr ops Q [] ops.toList 0 (λj o ho=>by simpa using ho) s s1 h1 w S m A a i env hA (by rw [hsz];exact hdst) (λo ho x hx hTx=>?_) λa' w' hre=>hQ a' w' (hre.kM h2);have:=hT x hTx;simp only [gG,q5x] at this;have:=this o ho;rw [hx] at this;simp at this
 | draw id ops live hdst hedge hun =>
  simp only [evC] at he;obtain ⟨r,h1,he⟩:=au he;unfold Bf at he;split at he
  ·rename_i hap;obtain ⟨s2,h2,he⟩:=aB he;cases he;exact plain (λb e=>by cases e) (hd nt id ops _ live T hT (.draw id ops live hdst hedge hun) s r h1 hap N w0 w S m A a Q i env hA hsz λa' w' hre=>hQ a' w' (hre.kM h2))
  ·cases he
 | @seq x y cx cy hx hy =>
  simp only [evC] at he;obtain ⟨⟨e1,s1⟩,h1,he⟩:=au he;have hTx:∀ t,T t->gG t x=false:=λt ht=>by have:=hT t ht;simp only [gG,qZq] at this;exact this.1
  have hTy:∀ t,T t->gG t y=false:=λt ht=>by have:=hT t ht;simp only [gG,qZq] at this;exact this.2
  refine plain (λb e=>by cases e) (wp_seq ?_);refine (ih nt x cx hx T hTx s e1 s1 h1 N w0 w S m A a _ i env hA hsz ?_).1;rintro a1 w1 ⟨hk1,hre⟩;obtain ⟨S1,m1,A1,r1,r2,r3,r4,r5,r6,r7,r8⟩:=hre;cases e1 with
  | norm =>
   simp only [cZ] at he;refine (ih nt y cy hy T hTy s1 ex s' he N w0 w1 S1 m1 A1 a1 Q r1 r2 (λb hb=>?_) (r3.trans hsz) λa' w' hre=>hQ a' w' (jB.trans hk1 r3 r4 r5 r6 r7 r8 hre)).1;rcases r8 b hb with q | q
   ·have:=hA b q;omega
   ·exact q.2
  | exit id =>simp only [cZ,qwx,qkj] at he;obtain ⟨rfl,rfl⟩:=he;exact Ri (hQ a1 w1 ⟨hk1,S1,m1,A1,r1,r2,r3,r4,r5,r6,r7,r8⟩)
  | ret =>simp only [cZ,qwx,qkj] at he;obtain ⟨rfl,rfl⟩:=he;exact hQ a1 w1 ⟨hk1,S1,m1,A1,r1,r2,r3,r4,r5,r6,r7,r8⟩
 | @cond c c' x y cx cy hc hx hy =>
  simp only [evC] at he;have hv:=(Cx.mk i env ids:Cx P φ ψ N w0 w S m A s.heap s.env a).opd hc;unfold tq at he;split at he
  ·rename_i t heq;rw [heq] at hv;refine plain (λb e=>by cases e) (wp_cond hv.iD ?_);cases t with
   | true=>exact (ih nt x cx hx T (λt ht=>by have:=hT t ht;simp only [gG,qZq] at this;exact this.1) s ex s' he N w0 w S m A a Q i env hA hsz hQ).1
   | false=>exact (ih nt y cy hy T (λt ht=>by have:=hT t ht;simp only [gG,qZq] at this;exact this.2) s ex s' he N w0 w S m A a Q i env hA hsz hQ).1
  ·cases he
 | @block id hid b cb hb =>
  simp only [evC] at he;obtain ⟨⟨e1,s1⟩,h1,he⟩:=aB he;refine plain (λb e=>by cases e) (wp_block ?_);refine (ih nt b cb hb T (λt ht=>by simpa only [gG] using hT t ht) s e1 s1 h1 N w0 w S m A a _ i env hA hsz ?_).1;intro a1 w1 hre;cases e1 with
  | norm=>simp only [dF,qkj] at he;obtain ⟨rfl,rfl⟩:=he;exact hQ a1 w1 hre
  | ret=>simp only [dF,qkj] at he;obtain ⟨rfl,rfl⟩:=he;exact hQ a1 w1 hre
  | exit id' =>
   simp only [dF] at he;by_cases hid':id'=id
   ·rw [qwz hid'] at he;simp only [qkj] at he;obtain ⟨rfl,rfl⟩:=he;subst hid';rw [rY hid];simp only [Exit.inBlock,qQx];exact hQ a1 w1 hre
   ·rw [qwq hid'] at he;simp only [qkj] at he;obtain ⟨rfl,rfl⟩:=he;have hq:=hQ a1 w1 hre;revert hq;unfold Ex.out;simp only;split
    ·simp only [Exit.inBlock,qwq hid'];exact λh=>h
    ·simp only [Exit.inBlock];exact λh=>h
 | @loop live b cb hb =>
  simp only [evC] at he;obtain ⟨⟨e1,s1⟩,h1,he⟩:=au he;have key:BX P b Q a w:=by
   refine BX.step ?_;refine (ih nt b cb hb T (λt ht=>by simpa only [gG] using hT t ht) (iJ live s) e1 s1 h1 N w0 w S m A a _ i (env.drop live) hA hsz ?_).1;rintro a1 w1 ⟨hk1,hre⟩;obtain ⟨S1,m1,A1,r1,r2,r3,r4,r5,r6,r7,r8⟩:=hre;cases e1 with
   | norm =>
    simp only [cZ] at he;refine (ih nt (.loop b) (.loop live cb) (.loop live hb) T hT s1 ex s' he N w0 w1 S1 m1 A1 a1 Q r1 r2 (λb hb=>?_) (r3.trans hsz) λa' w' hre=>hQ a' w' (jB.trans hk1 r3 r4 r5 r6 r7 r8 hre)).2 b rfl;rcases r8 b hb with q | q
    ·have:=hA b q;have:=r7;simp only [iJ] at this;omega
    ·exact q.2
   | exit id =>simp only [cZ,qwx,qkj] at he;obtain ⟨rfl,rfl⟩:=he;exact Ri (hQ a1 w1 ⟨hk1,S1,m1,A1,r1,r2,r3,r4,r5,r6,r7,r8⟩)
   | ret =>simp only [cZ,qwx,qkj] at he;obtain ⟨rfl,rfl⟩:=he;exact hQ a1 w1 ⟨hk1,S1,m1,A1,r1,r2,r3,r4,r5,r6,r7,r8⟩
  exact ⟨key.wp,λb' e=>by cases e;exact key⟩
end
end Go.Pav
end
section
set_option linter.unusedSimpArgs false
set_option linter.unusedVariables false
namespace Go.Pav
open Go
section
variable {P:Program} {φ:FuncId->Option Nat} {ψ:Nat->FuncId} {N:Nat} {w0 w:World} {S:Nat->Prop} {m:Nat->Nat × Nat} {A:Nat->Prop} {h:Heap} {a:Act} {run:Run} {C:Prog}
theorem Fit.mono {nt nt':Nat} (hn:nt<=nt') {sp:Option Nat} {c:Code} {cc:bn} (h:Fit P φ nt sp c cc):Fit P φ nt' sp c cc:=by
 induction h with
 | fail c=>exact .fail c
 | skip=>exact .skip
 | ops id ops live hd=>exact .ops id ops live λo ho x hx=>qXx (hd o ho x hx) hn
 | draw id ops live hd he hu=>exact .draw id ops live (λo ho x hx=>qXx (hd o ho x hx) hn) he hu
 | seq _ _ iha ihb=>exact .seq iha ihb
 | cond hc _ _ iha ihb=>exact .cond hc iha ihb
 | block id hid _ ih=>exact .block id hid ih
 | loop live _ ih=>exact .loop live ih
 | scope hj _ ih=>exact .scope hj ih
 | label l=>exact .label l
 | exit id hid=>exact .exit id hid
 | goto l=>exact .goto l
 | again l _ ih=>exact .again l ih
 | here l live hj _ ih=>exact .here l live hj ih
 | on l hj hl _ _ iha ihb=>exact .on l hj hl iha ihb
 | ret=>exact .ret
def rU (tmps:Array Value):ResultVar->Sem Value
 | .tmp t=>pure (tmps.getD t Go.undef)
 | .cell a t=>do loadVar t (<- asAddr (tmps.getD a Go.undef))
theorem VF (fn:Func) (tmps:Array Value):Go.results fn tmps=(do
 let vs <- fn.results.toList.mapM (rU tmps)
 pure (if h:vs.toArray.size=1 then vs.toArray[0] else .tuple vs.toArray)):=by
 have:Go.results fn tmps=(do
  let vs <- fn.results.mapM (rU tmps)
  pure (if h:vs.size=1 then vs[0] else .tuple vs)):=rfl
 rw [this,Array.mapM_eq_mapM_toList];simp
theorem aac (i:Inv ψ N w0 w S m A h) {e:Env} {tmps:Array Value} (env:jW ψ w S m A e tmps) {r:ResultVar} {cr:vK} (hc:NJ P r=some cr) {v:AV} (hv:H6 e h cr=some v) :
 ∃ cv,(rU tmps r).run P w=.ok cv w/\VR ψ w S m A v cv:=by
 cases r with
 | tmp t =>simp only [NJ,qwx] at hc;subst hc;exact ⟨_,by simp [rU],env t v hv⟩
 | cell t ty =>
  simp only [NJ,qvq,qzj,qwx] at hc;obtain ⟨n,hn,ag,hag,rfl⟩:=hc;simp only [H6] at hv;split at hv
  ·rename_i b i0 o hg;have hp:=env t _ hg;obtain ⟨_,e1⟩:=hp.lg;simp only [loadAt] at hv;split at hv
   ·rename_i z es mu hb;obtain ⟨cs,hk,hl⟩:=au hv;obtain ⟨cv,h1,h2⟩:=vX (P:=P) ((i.Yq hb hk).drop o) hn hag hl;exact ⟨cv,by simp only [rU,e1,asAddr,Sem.run_bind,Sem.run_pure,Result.andThen_ok,h1],h2⟩
   ·cases hv
  ·cases hv
theorem abB:∀ (rs:List ResultVar) (cs:List vK) (vs:List AV) {e:Env} {tmps:Array Value},Inv ψ N w0 w S m A h->jW ψ w S m A e tmps->rs.mapM (NJ P)=some cs->aZ (H6 e h) cs=some vs ->
 ∃ us:List Value,(rs.mapM (rU tmps)).run P w=.ok us w/\us.length=vs.length/\∀ (j:Nat) (x:AV),vs[j]?=some x->VR ψ w S m A x (us.toArray.getD j Go.undef):=by
 intro rs;induction rs with
 | nil =>intro cs vs e tmps i env hc hv;simp only [List.mapM_nil,zxx,qwx] at hc;subst hc;simp only [aZ,qwx] at hv;subst hv;exact ⟨[],by simp,rfl,λj x hj=>by simp at hj⟩
 | cons r rs ih =>
  intro cs vs e tmps i env hc hv;simp only [zkz,qvq,qzj,zxx,qwx] at hc;obtain ⟨c,hc1,cs',hcs,rfl⟩:=hc;simp only [aZ] at hv;obtain ⟨v,hv1,hv⟩:=au hv;obtain ⟨vs',hvs,rfl⟩:=aB hv;obtain ⟨cv,r1,r2⟩:=aac (P:=P) i env hc1 hv1;obtain ⟨us,q1,q2,q3⟩:=ih cs' vs' i env hcs hvs;refine ⟨cv::us,?_,by simp [q2],λj x hj=>?_⟩
  ·simp only [zkz,Sem.run_bind,r1,Result.andThen_ok,q1,Sem.run_pure]
  ·cases j with
   | zero=>simp at hj;subst hj;simpa using r2
   | succ j=>simpa using q3 j x (by simpa using hj)
theorem SE (i:Inv ψ N w0 w S m A h) {e:Env} {tmps:Array Value} (env:jW ψ w S m A e tmps) {fn:Func} {cs:List vK} (hc:fn.results.toList.mapM (NJ P)=some cs) {v:AV} (hv:results e h cs=some v) :
 ∃ cv,(Go.results fn tmps).run P w=.ok cv w/\VR ψ w S m A v cv:=by
 obtain ⟨vs,hvs,rfl⟩:=aB hv;obtain ⟨us,q1,q2,q3⟩:=abB (P:=P) _ _ _ i env hc hvs;rw [VF];refine ⟨(if h:us.toArray.size=1 then us.toArray[0] else Value.tuple us.toArray),by simp only [Sem.run_bind,q1,Result.andThen_ok,Sem.run_pure],?_⟩;match vs,us,q2,q3 with
 | [v],[u],_,q3=>simpa [IG] using q3 0 v rfl
 | [],[],_,q3=>exact .tup [] #[] rfl qqz
 | v1::v2::vs,u1::u2::us,q2,q3 =>
  have:¬ (u1::u2::us).toArray.size=1:=by simp
  rw [dif_neg this];exact .tup _ _ (by simpa using q2) q3
theorem Vu:∀ (l:List AV) (k s:Nat) (v:AV),get (fO k l) s=some v->k<=s/\l[s - k]?=some v:=by
 intro l;induction l with
 | nil=>intro k s v h;simp [fO,get] at h
 | cons x l ih =>
  intro k s v h;simp only [fO,get] at h;by_cases e:k=s
  ·subst e;simp at h;subst h;simp
  ·rw [qwq e] at h;obtain ⟨h1,h2⟩:=ih (k+1) s v h;refine ⟨by omega,?_⟩;have:s - k=(s - (k+1))+1:=by omega
   rw [this];simpa using h2
inductive Ret:bn->bn->Prop
 | skip:Ret .skip .skip
 | ops (l:List bg) (m:Nat × List Nat):Ret (.ops l m) (.ops l m)
 | draw (l:List bg) (un:List (Nat × Nat)) (m:Nat × List Nat):Ret (.draw l un m) (.draw l un m)
 | seq {a b x y:bn} (h1:Ret a x) (h2:Ret b y):Ret (.seq a b) (.seq x y)
 | cond (c:Opd) {a b x y:bn} (h1:Ret a x) (h2:Ret b y):Ret (.cond c a b) (.cond c x y)
 | block (id:Nat) (hne:id≠iT) {b y:bn} (h:Ret b y):Ret (.block id b) (.block id y)
 | loop (m:Nat) {b y:bn} (h:Ret b y):Ret (.loop m b) (.loop m y)
 | exit (id:Nat):Ret (.exit id) (.exit id)
 | ret:Ret .ret (.exit iT)
 | fail:Ret .fail .fail
theorem ajc {nt:Nat} {sp:Option Nat} {c:Code} {cc:bn} (h:Fit P φ nt sp c cc):Ret cc (Es cc):=by
 induction h with
 | fail c=>exact .fail
 | skip=>exact .skip
 | ops id ops live hd=>exact .ops _ _
 | draw id ops live hd he hu=>exact .draw _ _ _
 | seq _ _ iha ihb=>exact .seq iha ihb
 | cond hc _ _ iha ihb=>exact .cond _ iha ihb
 | block id hid _ ih=>exact .block id qqq ih
 | loop live _ ih=>exact .loop live ih
 | scope hj _ ih=>exact .seq ih .skip
 | label l=>exact .skip
 | exit id hid=>exact .exit id
 | goto l=>exact .exit _
 | again l _ ih=>exact ih
 | here l live hj _ ih=>exact .block _ (by unfold l9 iT;omega) (.loop _ (.block _ (by unfold gV iT;omega) (.seq ih (.exit _))))
 | on l hj hl _ _ iha ihb=>exact .seq iha ihb
 | ret=>exact .ret
theorem ako {a x:bn} (h:Ret a x):∀ y,mz y=mz x->∃ b,mz b=mz a/\Ret b y:=by
 induction h with
 | skip=>intro y hy;cases y <;> simp only [mz] at hy <;> first | (cases hy;done) | exact ⟨_,rfl,.skip⟩
 | fail=>intro y hy;cases y <;> simp only [mz] at hy <;> first | (cases hy;done) | exact ⟨_,rfl,.fail⟩
 | ret=>intro y hy;cases y <;> simp only [mz] at hy <;> first | (cases hy;done) | (cases hy;exact ⟨_,rfl,.ret⟩)
 | exit id=>intro y hy;cases y <;> simp only [mz] at hy <;> first | (cases hy;done) | (cases hy;exact ⟨_,rfl,.exit _⟩)
 | ops l m=>intro y hy;cases y <;> simp only [mz] at hy <;> first | (cases hy;done) | (cases hy;refine ⟨_,?_,.ops _ _⟩;rfl)
 | draw l un m=>intro y hy;cases y <;> simp only [mz] at hy <;> first | (cases hy;done) | (cases hy;refine ⟨_,?_,.draw _ _ _⟩;rfl)
 | seq _ _ iha ihb =>
  intro y hy;cases y <;> simp only [mz] at hy <;> try (cases hy;done)
  simp only [bn.seq.injEq] at hy;obtain ⟨a1,q1,q2⟩:=iha _ hy.1;obtain ⟨b1,q3,q4⟩:=ihb _ hy.2;exact ⟨.seq a1 b1,by simp only [mz,q1,q3],.seq q2 q4⟩
 | cond c _ _ iha ihb =>
  intro y hy;cases y <;> simp only [mz] at hy <;> try (cases hy;done)
  simp only [bn.cond.injEq] at hy;obtain ⟨a1,q1,q2⟩:=iha _ hy.2.1;obtain ⟨b1,q3,q4⟩:=ihb _ hy.2.2;rw [hy.1];exact ⟨.cond c a1 b1,by simp only [mz,q1,q3],.cond c q2 q4⟩
 | block id hne _ ih =>
  intro y hy;cases y <;> simp only [mz] at hy <;> try (cases hy;done)
  simp only [bn.block.injEq] at hy;obtain ⟨a1,q1,q2⟩:=ih _ hy.2;rw [hy.1];exact ⟨.block id a1,by simp only [mz,q1],.block id hne q2⟩
 | loop m _ ih =>
  intro y hy;cases y <;> simp only [mz] at hy <;> try (cases hy;done)
  rename_i m' y';simp only [bn.loop.injEq,q5q] at hy;obtain ⟨a1,q1,q2⟩:=ih _ hy;exact ⟨.loop m' a1,by simp only [mz,q1],.loop m' q2⟩
def DI:Ex->Ex
 | .ret=>.exit iT
 | e=>e
theorem alf:∀ (n:Nat) {a x:bn},Ret a x->∀ (s s':St) (ex:Ex),evC C n x s=some (ex,s')->∃ e0,evC C n a s=some (e0,s')/\ex=DI e0:=by
 intro n;induction n with
 | zero=>intro a x _ s s' ex he;simp only [evC] at he;cases he
 | succ n ih =>
  intro a x hr s s' ex he;cases hr with
  | skip=>rw [evC] at he |-;cases he;exact ⟨_,rfl,rfl⟩
  | fail=>simp only [evC] at he;cases he
  | exit id=>simp only [evC] at he |-;cases he;exact ⟨_,rfl,rfl⟩
  | ret=>simp only [evC] at he |-;cases he;exact ⟨.ret,rfl,rfl⟩
  | ops l m =>refine ⟨ex,he,?_⟩;rw [evC] at he;obtain ⟨s1,_,he⟩:=au he;obtain ⟨s2,_,he⟩:=aB he;cases he;rfl
  | draw l un m =>
   refine ⟨ex,he,?_⟩;rw [evC] at he;obtain ⟨s1,_,he⟩:=au he;unfold Bf at he;split at he
   ·obtain ⟨s2,_,he⟩:=aB he;cases he;rfl
   ·cases he
  | seq h1 h2 =>
   rw [evC] at he |-;obtain ⟨⟨e1,s1⟩,q1,he⟩:=au he;obtain ⟨e0,z1,rfl⟩:=ih h1 _ _ _ q1;rw [z1];cases e0 with
   | norm =>simp only [DI,cZ] at he;obtain ⟨e2,z2,rfl⟩:=ih h2 _ _ _ he;exact ⟨e2,by simp only [ob,cZ,z2],rfl⟩
   | exit id=>simp only [DI,cZ] at he;cases he;exact ⟨_,rfl,rfl⟩
   | ret=>simp only [DI,cZ] at he;cases he;exact ⟨_,rfl,rfl⟩
  | cond c h1 h2 =>
   rw [evC] at he |-;unfold tq at he |-;split at he
   ·rename_i t hv;cases t with
    | true=>exact ih h1 _ _ _ he
    | false=>exact ih h2 _ _ _ he
   ·cases he
  | block id hne h1 =>
   rw [evC] at he |-;obtain ⟨⟨e1,s1⟩,q1,he⟩:=aB he;obtain ⟨e0,z1,rfl⟩:=ih h1 _ _ _ q1;rw [z1];cases e0 with
   | norm=>simp only [DI,dF] at he;cases he;exact ⟨_,rfl,rfl⟩
   | ret=>simp only [DI,dF,qwq (qcj hne)] at he;cases he;exact ⟨_,rfl,rfl⟩
   | exit i =>
    simp only [DI,dF] at he;by_cases hi:i=id
    ·rw [qwz hi] at he;cases he;exact ⟨.norm,by simp only [om,dF,qwz hi],rfl⟩
    ·rw [qwq hi] at he;cases he;exact ⟨.exit i,by simp only [om,dF,qwq hi],rfl⟩
  | loop m h1 =>
   rw [evC] at he |-;obtain ⟨⟨e1,s1⟩,q1,he⟩:=au he;obtain ⟨e0,z1,rfl⟩:=ih h1 _ _ _ q1;rw [z1];cases e0 with
   | norm =>simp only [DI,cZ] at he;obtain ⟨e2,z2,rfl⟩:=ih (.loop m h1) _ _ _ he;exact ⟨e2,by simp only [ob,cZ,z2],rfl⟩
   | exit id=>simp only [DI,cZ] at he;cases he;exact ⟨_,rfl,rfl⟩
   | ret=>simp only [DI,cZ] at he;cases he;exact ⟨_,rfl,rfl⟩
theorem aiD (rm:Nat):∀ (c:bn) (out:Nat) (ex:List (Nat × Nat)),mz (oh rm c out ex).1=mz c:=by
 intro c;induction c with
 | seq a b iha ihb=>intro out ex;simp only [oh,mz,iha,ihb]
 | cond c a b iha ihb=>intro out ex;simp only [oh,mz,iha,ihb]
 | block id b ih=>intro out ex;simp only [oh,mz,ih]
 | loop m b ih=>intro out ex;simp only [oh,mz,ih]
 | _=>intro out ex;rfl
inductive AX (P:Program) (φ:FuncId->Option Nat) (nt:Nat):Code->bn->Prop
 | fail (c:Code):AX P φ nt c .fail
 | on {a b:Code} {x y:bn} (ha:Fit P φ nt none a x) (hb:AX P φ nt b y):AX P φ nt (.seq a b) (.seq x y)
 | here (id:Nat) (ops:Array Oper) (l:List Oper) (t:Nat) (f:FuncId) (m m2:Nat × List Nat) {b:Code} {y y0:bn} (hdf:deferred ops.toList=some (l,t,f)) (hd:∀ o ∈ ops.toList,∀ x,o.dst=some x->x < nt)
  (ht:gG t b=false) (hp:((P.funcs[f]?).bind (·.body)).map gB=some false) (hb:Fit P φ nt none b y0) (hy:Ret y0 y) :
  AX P φ nt (.seq (.region id ops false) b) (.seq (.ops (l.map (cu P φ ops)) m) (.seq (.block iT y) (.ops [⟨none,none,.dN (.t t) []⟩] m2)))
theorem AX.mono {nt nt':Nat} (hn:nt<=nt') {c:Code} {cc:bn} (h:AX P φ nt c cc):AX P φ nt' c cc:=by
 induction h with
 | fail c=>exact .fail c
 | on ha _ ih=>exact .on (ha.mono hn) ih
 | here id ops l t f m m2 hdf hd ht hp hb hy=>exact .here id ops l t f m m2 hdf (λo ho x hx=>qXx (hd o ho x hx) hn) ht hp (hb.mono hn) hy
theorem Wn {nt:Nat}:∀ (c:Code),dX nt c=true->AX P φ nt c (Dy P φ c):=by
 intro c;induction c with
 | seq a b _ ihb =>
  intro h;simp only [dX,qzq] at h;have on:AX P φ nt (.seq a b) (.seq (lZ P φ a) (Dy P φ b)):=.on (Ej a h.1) (ihb h.2);simp only [Dy];split
  ·rename_i id ops _;split
   ·rename_i l t f hdf;split
    ·rename_i hc;have hf:=Ej (P:=P) (φ:=φ) b h.2;refine .here id ops l t f _ _ hdf (λo ho x hx=>?_) hc.1 hc.2.1 hf (ajc hf);have:=h.1;simp only [dX,qjx] at this;have:=this o ho;rw [hx] at this;exact zxz ▸ this
    ·exact .fail _
   ·exact on
  ·exact on
 | _=>intro _;exact .fail _
theorem YJ {nt:Nat} {c:Code} {x:bn} (h:AX P φ nt c x):∀ y,mz y=mz x->AX P φ nt c y:=by
 induction h with
 | fail c=>intro y hy;cases y <;> simp only [mz] at hy <;> first | (cases hy;done) | exact .fail _
 | on ha _ ih =>
  intro y hy;cases y <;> simp only [mz] at hy <;> try (cases hy;done)
  simp only [bn.seq.injEq] at hy;exact .on (UC ha _ hy.1) (ih _ hy.2)
 | here id ops l t f m m2 hdf hd ht hp hb hr =>
  intro y hy;cases y <;> simp only [mz] at hy <;> try (cases hy;done)
  rename_i y1 y2;simp only [bn.seq.injEq] at hy;obtain ⟨h1,h2⟩:=hy;cases y1 <;> simp only [mz] at h1 <;> try (cases h1;done)
  simp only [bn.ops.injEq,and_true] at h1;cases y2 <;> simp only [mz] at h2 <;> try (cases h2;done)
  rename_i y3 y4;simp only [bn.seq.injEq] at h2;obtain ⟨h3,h4⟩:=h2;cases y3 <;> simp only [mz] at h3 <;> try (cases h3;done)
  simp only [bn.block.injEq] at h3;cases y4 <;> simp only [mz] at h4 <;> try (cases h4;done)
  simp only [bn.ops.injEq,and_true] at h4;obtain ⟨z0,z1,z2⟩:=ako hr _ h3.2;rw [h1,h3.1,h4];exact .here id ops l t f _ _ hdf hd ht hp (UC hb _ z1) z2
theorem adN {fn : Func} {cf : CFn} (hc : cFn P φ fn = some cf) : ∃ c, fn.body = some c /\ fn.name ≠ "runtime.NumGoroutine" /\ fn.results.toList.mapM (NJ P) = some cf.res /\
 ((gB c=false/\Fit P φ fn.ntmps none c cf.body)\/(gB c=true/\AX P φ fn.ntmps c cf.body)):=by
 unfold cFn at hc;simp only [qvq,qzj] at hc;obtain ⟨c,hb,hc⟩:=hc;split at hc
 ·cases hc
 ·rename_i hfit;obtain ⟨res,hres,hc⟩:=qzj.1 hc;split at hc
  ·cases hc
  ·rename_i hname;cases hc;refine ⟨c,hb,hname,hres,?_⟩;simp only [ajw];split
   ·rename_i hdf;exact .inr ⟨hdf,YJ (Wn c (by simpa using hfit)) _ (aiD ..)⟩
   ·rename_i hdf;exact .inl ⟨hdf,Zn (Ej c (by simpa using hfit)) _ _⟩
theorem JZ {ops:List Oper} {l:List Oper} {t:Nat} {f:FuncId} (h:deferred ops=some (l,t,f)) :
 ∃ pre mk d ts fs cs,l=pre++[mk]/\ops=l++[d]/\d.op=.defer ⟨.value (.tmp t),#[],ts⟩/\d.dst=none/\d.guard=none/\mk.op=.makeFunc (.func f) fs cs/\mk.dst=some t/\mk.guard=none:=by
 unfold deferred at h;split at h
 ·rename_i d mk r hr;split at h
  ·rename_i t0 args ts f0 fs cs t' h1 h2 h3 h4 h5 h6;split at h
   ·rename_i hc;cases h;have hops:ops=(mk::r).reverse++[d]:=by have:=congrArg List.reverse hr;simpa using this
    have ha:args=#[]:=Array.size_eq_zero_iff.1 hc.2;exact ⟨r.reverse,mk,d,ts,fs,cs,by simp,hops,by rw [h1,ha],h2,h3,h4,by rw [h5,hc.1],h6⟩
   ·cases h
  ·cases h
 ·cases h
theorem A8:∀ (l l2:List bg) (s s2:St),lX C run (l++l2) s=some s2->∃ s1,lX C run l s=some s1/\lX C run l2 s1=some s2
 | [],l2,s,s2,h=>⟨s,rfl,h⟩
 | o::l,l2,s,s2,h=>by simp only [qfz,lX] at h |-;obtain ⟨d,h1,h2⟩:=au h;obtain ⟨s1,q1,q2⟩:=A8 l l2 _ _ h2;exact ⟨s1,by rw [h1];exact q1,q2⟩
theorem agU {ops:Array Oper} {mk:Oper} {t:Nat} {f:FuncId} {fs cs:Array Operand} (ids:∀ f g,φ f=some g->ψ g=f) (h1:mk.op=.makeFunc (.func f) fs cs) (h2:mk.dst=some t) (h3:mk.guard=none) {s s2:St} (h:lX C run [cu P φ ops mk] s=some s2) :
 ∃ g caps,ψ g=f/\get s2.env t=some (.fn g caps):=by
 simp only [lX] at h;obtain ⟨d,hd,h⟩:=au h;cases h;have hdst:(cu P φ ops mk).dst=some t:=by unfold cu;simp only;split <;> exact h2
 simp only [hdst,dR,get_put,qQx];unfold cu at hd;simp only [h1,h2,h3,cOp] at hd;cases hg:φ f with
 | none=>simp [hg,jO,wants,jG,callOf,aJ,Aq,om] at hd
 | some g =>
  simp only [hg,qvq,zzx] at hd;split at hd
  ·rename_i g0 op0 e1 e2;split at e2
   ·cases hcs:Ld φ cs.toList with
    | none=>rw [hcs] at e2;cases e2
    | some xs =>
     rw [hcs] at e2;cases e1;cases e2;simp only [jO,wants,jG,callOf,aJ] at hd;obtain ⟨x,hx,rfl⟩:=aB hd;unfold Bj at hx;split at hx
     ·cases hx;exact ⟨g,_,ids f g hg,rfl⟩
     ·cases hx
   ·cases e2
  ·simp [jO,wants,jG,callOf,aJ,Aq,om] at hd
theorem acJ {n:Nat} {fn:Func} {cs:List vK} (hres:fn.results.toList.mapM (NJ P)=some cs) {s':St} {v:AV} {h':Heap} {n':Nat} (hfin:om (results s'.env s'.heap cs) (λv=>(v,s'.heap,s'.next))=some (v,h',n'))
 {a':Act} {w':World} (hre:Reach ψ N w0 w S m A n a s' a' w'):∃ cv,(Go.results fn a'.tmps).run P w'=.ok cv w'/\∃ cv',(Ending.returned cv=.returned cv')/\Out ψ N w0 w S m A n w' v cv' h' n':=by
 obtain ⟨S',m',A',r1,r2,r3,r4,r5,r6,r7,r8⟩:=hre;obtain ⟨v1,hv1,hfin⟩:=aB hfin;cases hfin;obtain ⟨cv,q1,q2⟩:=SE (P:=P) r1 r2 hres hv1;exact ⟨cv,q1,cv,rfl,S',m',A',q2,r1,r5,r6,r7,r8⟩
theorem rM.less {k fuel:Nat} (h:rM P φ ψ C fuel) (hk:k<=fuel):rM P φ ψ C k :=λnt c cc hf T hT s ex s' he=>h nt c cc hf T hT s ex s' (pW k fuel hk _ _ _ he)
theorem afe (ids:∀ f g,φ f=some g->ψ g=f) {fuel nt:Nat} (hc:rM P φ ψ C fuel) (hr:∀ k,k < fuel->nS P ψ (runWith C (evC C k))) {fn:Func} {R:Ending->World->Prop} {c:Code} {cc:bn} (hf:AX P φ nt c cc) :
 ∀ (n:Nat),n<=fuel->∀ (s:St) (ex:Ex) (s':St),evC C n cc s=some (ex,s')->(ex=.norm\/ex=.ret)->∀ (w:World) (S:Nat->Prop) (m:Nat->Nat × Nat) (A:Nat->Prop) (a:Act),Inv ψ N w0 w S m A s.heap->jW ψ w S m A s.env a.tmps->(∀ b,A b->b < s.next) ->
 a.tmps.size=nt->a.defers=[]->(∀ a' w',Reach ψ N w0 w S m A s.next a s' a' w'->∃ v,(Go.results fn a'.tmps).run P w'=.ok v w'/\R (.returned v) w')->c.wp P (bodyPostD P fn R) a w:=by
 induction hf with
 | fail c=>intro n hn s ex s' he;cases n <;> simp only [evC] at he <;> cases he
 | @on x y cx cy hx hy ih =>
  intro n hn s ex s' he hex w S m A a i env hA hsz hdf hQ;match n,he with
  | 0,he=>simp only [evC] at he;cases he
  | n+1,he =>
   rw [evC] at he;obtain ⟨⟨e1,s1⟩,h1,he⟩:=au he;refine wp_seq ?_;refine (hc nt x cx hx (λ_=>False) (λ_ h=>h.elim) s e1 s1 (pW n fuel qqq _ _ _ h1) N w0 w S m A a _ i env hA hsz ?_).1;rintro a1 w1 ⟨_,hre⟩;cases e1 with
   | norm =>
    simp only [cZ] at he;obtain ⟨S1,m1,A1,r1,r2,r3,r4,r5,r6,r7,r8⟩:=hre;refine ih n qqq s1 ex s' he hex w1 S1 m1 A1 a1 r1 r2 (λb hb=>?_) (r3.trans hsz) (r4.trans hdf) λa' w' hre=>hQ a' w' (Reach.trans r3 r4 r5 r6 r7 r8 hre);rcases r8 b hb with q | q
    ·have:=hA b q;omega
    ·exact q.2
   | ret =>simp only [cZ] at he;cases he;obtain ⟨v,q1,q2⟩:=hQ a1 w1 hre;obtain ⟨S1,m1,A1,r1,r2,r3,r4,r5⟩:=hre;have hd1:a1.defers=[]:=r4.trans hdf;simp only [Ex.out,Exit.then,bodyPostD,hd1];exact ⟨v,q1,q2⟩
   | exit id =>simp only [cZ] at he;cases he;rcases hex with q | q <;> cases q
 | @here id ops l t f mm m2 b y y0 hdfd hd ht hp hb hy =>
  intro n hn s ex s' he hex w S m A a i env hA hsz hdf hQ;obtain ⟨pre,mk,d,ts,fs,cs,hl,hops,d1,d2,d3,k1,k2,k3⟩:=JZ hdfd;match n,he with
  | 0,he=>simp only [evC] at he;cases he
  | 1,he=>simp only [evC,ob] at he;cases he
  | n1+2,he =>
  rw [evC] at he;obtain ⟨⟨e1,s1⟩,h1,he⟩:=au he;rw [evC] at h1;obtain ⟨sA,hA1,h1⟩:=au h1;obtain ⟨s1',hA2,h1⟩:=aB h1;cases h1;simp only [cZ] at he;rw [evC] at he;obtain ⟨⟨e2,s2⟩,h2,he⟩:=au he;match n1,h2,he,hA1,hn with
  | 0,h2,_,_,_=>simp only [evC] at h2;cases h2
  | n3+1,h2,he,hA1,hn =>
  rw [evC] at h2;obtain ⟨⟨e3,s3⟩,h3,h2⟩:=aB h2;obtain ⟨e0,h0,rfl⟩:=alf n3 hy _ _ _ h3;have hleft:(e0=.norm\/e0=.ret)/\e2=.norm/\s2=s3:=by
   cases e0 with
   | norm=>simp only [DI,dF] at h2;cases h2;exact ⟨.inl rfl,rfl,rfl⟩
   | ret=>simp only [DI,dF,qQx] at h2;cases h2;exact ⟨.inr rfl,rfl,rfl⟩
   | exit j =>
    have hne:j≠iT:=by
     rcases GL n3 hb _ _ _ h0 with z | ⟨l',z1,_⟩
     ·omega
     ·rw [z1];unfold gV iT;omega
    simp only [DI,dF,qwq hne] at h2;cases h2;simp only [cZ] at he;cases he;rcases hex with q | q <;> cases q
  obtain ⟨he0,rfl,rfl⟩:=hleft;simp only [cZ] at he;rw [evC] at he;obtain ⟨sB,hB1,he⟩:=au he;obtain ⟨s4,hB2,he⟩:=aB he;cases he;simp only [lX] at hB1;obtain ⟨dd,hD,hB3⟩:=au hB1;clear hB1;have hB1:=hD;clear hD;cases hB3;simp only [jO,wants,jG,callOf] at hB1;have hfn:∃ g' caps',get s2.env t=some (.fn g' caps'):=by
   have key:∀ x,(Opd.t t).ev s2.env=x->∃ g' caps',x=.fn g' caps':=by intro x hx;rw [hx] at hB1;cases x <;> first | exact ⟨_,_,rfl⟩ | cases hB1
   obtain ⟨g',caps',e⟩:=key _ rfl;refine ⟨g',caps',?_⟩;simp only [Opd.ev] at e;cases hg:get s2.env t with
   | none=>rw [hg] at e;cases e
   | some x=>rw [hg] at e;simp only [qYx] at e;rw [e]
  obtain ⟨g',caps',hg'⟩:=hfn;simp only [Opd.ev,hg',qYx,qax,qJj] at hB1;obtain ⟨called,hcall,rfl⟩:=aB hB1;have hsize:ops.size=l.length+1:=by rw [<- q7j,hops];simp
  have hat:∀ j o,l[j]?=some o->ops[0+j]?=some o:=by intro j o ho;have hj:j < l.length:=(qxz.1 ho).1;rw [qVq,<- qeq,hops,qYz hj];exact ho
  have hatd:ops[l.length]?=some d:=by rw [<- qeq,hops];simp
  have hrange:List.range ops.size=List.range' 0 l.length++[l.length]:=by rw [hsize,List.range_succ,List.range_eq_range']
  refine wp_seq (wp_region ?_);rw [hrange];have hin:∀ o ∈ l,o ∈ ops.toList:=λo ho=>by rw [hops];exact qlx _ ho
  refine Ro (T:=λ_=>False) ids (hr (n3+1) qqq) ops _ [l.length] l 0 hat s sA hA1 w S m A a i env hA (by intro o ho x hx;rw [hsz];exact hd o (hin o ho) x hx) (λ_ _ _ _ h=>h) λa1 w1 hre1=>?_;obtain ⟨_,hre1⟩:=hre1;have hmk:∃ g caps,ψ g=f/\get sA.env t=some (.fn g caps):=by rw [hl,qcz] at hA1;obtain ⟨sp,_,q2⟩:=A8 _ _ _ _ hA1;exact agU ids k1 k2 k3 q2
  obtain ⟨g,caps,hgf,hgt⟩:=hmk;have hre1':=hre1.kM hA2;obtain ⟨S1,m1,A1,r1,r2,r3,r4,r5,r6,r7,r8⟩:=hre1';have hfn1:∃ vs,a1.tmps.getD t Go.undef=.func (.func (ψ g)) #[] vs:=by obtain ⟨_,_,_,_,q2,_⟩:=hre1;obtain ⟨vs,e1,_,_⟩:=(q2 t _ hgt).DU;exact ⟨vs,e1⟩
  obtain ⟨vs,hvs⟩:=hfn1;have hrun:(execOp a1.eval d).run P w1=.ok (.defer { target:=.fn (.func f) vs,args:=#[] }) w1:=by
   have he1:a1.eval (.tmp t)=.func (.func f) #[] vs:=by rw [<- hgf];exact hvs
   simp only [execOp,d1,resolve,he1,Deferred.ofValue,Sem.run_bind,Sem.run_pure,Result.andThen_ok,Array.map_empty,Array.append_empty]
  simp only [wpOps,hatd];have hwant:Region.wanted d (yielded ops a1.tmps)=true:=by simp [Region.wanted,d3]
  rw [qwz hwant];refine .inl ?_;simp only [Oper.wp,hrun,Oper.upon_defer,d2,Act.put,Exit.then];have hsz1:a1.tmps.size=nt:=r3.trans hsz;refine (hc nt b y0 hb (λx=>x=t) (λx hx=>hx ▸ ht) s1 e0 s2 (pW n3 fuel qqq _ _ _ h0) N w0 w1 S1 m1 A1 { a1 with defers:={ target:=.fn (.func f) vs,args:=#[] }::a1.defers } _ r1 r2 (λb hb=>?_) hsz1 ?_).1
  ·rcases r8 b hb with q | q
   ·have:=hA b q;omega
   ·exact q.2
  rintro a2 w2 ⟨hkeep,S2,m2',A2,q1,q2,q3,q4,q5,q6,q7,q8⟩;have hd2:a2.defers=[{ target:=.fn (.func f) vs,args:=#[] }]:=by rw [q4,r4,hdf]
  obtain ⟨vs',e1,hn1,hv1⟩:=(q2 t _ hg').DU;have hk:=hkeep t rfl;simp only [hvs] at hk;rw [e1] at hk;simp only [Value.func.injEq,Fn.func.injEq,q5q] at hk;obtain ⟨hgg,rfl⟩:=hk;have hA2':∀ b,A2 b->b < s2.next:=by
   intro b hb;rcases q8 b hb with z | z
   ·rcases r8 b z with y | y
    ·have:=hA b y;omega
    ·omega
   ·exact z.2
  obtain ⟨⟨fn',cb,z1,z2,z3⟩,_,hcd⟩:=KZ (hr n3 qqq) hcall q1 (λb hb=>qmz (hA2' b hb)) (λhb=>qrq _ (hA2' _ hb)) hn1 hv1;have hplain:XM P (ψ g'):=by intro fn0 c0 x1 x2;rw [hgg,hgf] at x1;rw [x1] at hp;simpa [x2] using hp
  have hleave:Leaves P fn a2.tmps R a2.defers .returning w2:=by
   rw [hd2];refine ⟨by simp,.func f,vs',f,vs',rfl,?_,?_⟩
   ·simp only [invoke,q4q];exact qY (by rw [<- hgf,<- hgg];exact z1) z2 z3 _ _
   ·have:=hcd hplain .returning;rw [hgg,hgf] at this;refine this.mono ?_;rintro e u' w3 ⟨rfl,cv,rfl,S3,m3,A3,p1,p2,p3,p4,p5,p6⟩;simp only [settle,Leaves];have hreB:Reach ψ N w0 w2 S2 m2' A2 s2.next a2 ⟨dR s2.env none (bZ s2.heap (s2.next+1) caps' called).v,(bZ s2.heap (s2.next+1) caps' called).h,(bZ s2.heap (s2.next+1) caps' called).n⟩ a2 w3 :=
     ⟨S3,m3,A3,p2,q2.mono p3,rfl,rfl,p3,p4,by simp only at p5 |-;omega,λb hb=>by
      rcases p6 b hb with z | z | z
      ·exact .inl z
      ·exact .inr ⟨by omega,by simp only at p5 |-;omega⟩
      ·exact .inr ⟨by omega,z.2⟩⟩
    have hre3:=hreB.kM hB2;obtain ⟨S4,m4,A4,x1,x2,x3,x4,x5,x6,x7,x8⟩:=hre3;refine hQ { a2 with defers:=a.defers } w3 ⟨S4,m4,A4,x1,x2,?_,rfl,r5.trans (q5.trans x5),λc hc hs=>r6 c hc (q6 c hc (x6 c hc hs)),by omega,λb hb=>?_⟩
    ·exact q3.trans r3
    ·rcases x8 b hb with z | z
     ·rcases q8 b z with y | y
      ·rcases r8 b y with u | u
       ·exact .inl u
       ·exact .inr ⟨u.1,by omega⟩
      ·exact .inr ⟨by omega,by omega⟩
     ·exact .inr ⟨by omega,z.2⟩
  rcases he0 with rfl | rfl
  ·exact hleave
  ·exact hleave
theorem JM {Φ:Nat->FuncId->Option Nat} (hL:Linked P Φ ψ C):∀ {fuel:Nat} (_:∀ g,rM P (Φ g) ψ C fuel),nS P ψ (runWith C (evC C fuel)):=by
 intro fuel;induction fuel using Nat.strongRecOn with
 | _ fuel IH =>
 intro hc g args h n v h' n' hrun;obtain ⟨cf,hcf,hrun⟩:=au hrun;split at hrun;case isFalse=>cases hrun
 rename_i hlen;obtain ⟨⟨ex,s'⟩,hev,hend⟩:=au hrun;obtain ⟨fn,hfn,hcfn⟩:=hL.fns g cf hcf;obtain ⟨c0,hc0,hst⟩:=qyx.1 hcfn;obtain ⟨c,hb,hname,hres0,hfit0⟩:=adN hc0;simp only [IU,CFn.mk.injEq] at hst;have hres:fn.results.toList.mapM (NJ P)=some cf.res:=by rw [<- hst.2.1];exact hres0
 have hex:(ex=.norm\/ex=.ret)/\om (results s'.env s'.heap cf.res) (λv=>(v,s'.heap,s'.next))=some (v,h',n'):=by
  unfold XF at hend;cases ex with
  | norm=>exact ⟨.inl rfl,hend⟩
  | ret=>exact ⟨.inr rfl,hend⟩
  | exit id=>cases hend
 refine ⟨⟨fn,c,hfn,hname,hb⟩,?_⟩;intro N w0 w S m A cargs i hA hsz hargs;have hts:(cargs++Array.replicate (fn.ntmps - cargs.size) Go.undef).size=max cargs.size fn.ntmps:=by simp;omega
 have henv:jW ψ w S m A (fO 0 args) (cargs++Array.replicate (fn.ntmps - cargs.size) Go.undef):=by
  intro s x hs;obtain ⟨_,h2⟩:=Vu args 0 s x hs;have h3:=hargs s x (by simpa using h2);have hlt:s < cargs.size:=by rw [hsz];exact (qxz.1 (by simpa using h2)).1
  rw [qxj,zjz,qwz hlt,<- qxj];exact h3
 rcases hfit0 with ⟨hdf,hfit0⟩ | ⟨hdf,hfit0⟩
 ·have hfit:Fit P (Φ g) fn.ntmps none c cf.body:=UC hfit0 _ hst.2.2.symm;have hwp:c.wp P (bodyPost P fn λe w'=>∃ cv,e=.returned cv/\Out ψ N w0 w S m A n w' v cv h' n') { tmps:=cargs++Array.replicate (fn.ntmps - cargs.size) Go.undef,defers:=[] } w:=by
   refine (hc g _ c cf.body (hfit.mono (qnx cargs.size fn.ntmps)) (λ_=>False) (λ_ h=>h.elim) ⟨fO 0 args,h,n⟩ ex s' hev N w0 w S m A _ _ i henv hA hts ?_).1;rintro a' w' ⟨_,hre⟩;obtain ⟨cv,q1,q2⟩:=acJ (P:=P) hres hex.2 hre;obtain ⟨_,_,_,_,_,_,r4,_⟩:=hre;rcases hex.1 with rfl | rfl
   ·exact ⟨r4,cv,q1,q2⟩
   ·exact ⟨r4,cv,q1,q2⟩
  exact ⟨calls_of_wp hfn hb hwp,λ_ u=>callsD_of_wp hfn hb hwp⟩
 ·have hfit:AX P (Φ g) fn.ntmps c cf.body:=YJ hfit0 _ hst.2.2.symm;refine ⟨calls_of_wp_defers hfn hb ?_,λhp=>?_⟩
  ·refine afe (N:=N) (w0:=w0) (hL.ids g) (hc g) (λk hk=>IH k hk λg=>(hc g).less (Nat.le_of_lt hk)) (hfit.mono (qnx cargs.size fn.ntmps)) fuel (qxq _) ⟨fO 0 args,h,n⟩ ex s' hev hex.1 w S m A _ i henv hA hts rfl λa' w' hre=>?_;exact acJ (P:=P) hres hex.2 hre
  ·have:=hp fn c hfn hb;rw [hdf] at this;cases this
theorem amc {Φ:Nat->FuncId->Option Nat} (hL:Linked P Φ ψ C) (hd:∀ g run,nS P ψ run->VJ P (Φ g) ψ C run):∀ fuel g,rM P (Φ g) ψ C fuel:=by
 intro fuel;induction fuel with
 | zero=>intro g nt c cc _ T hT s ex s' he;simp only [evC] at he;cases he
 | succ fuel ih=>intro g;exact aay (hL.ids g) (ih g) (JM hL ih) (hd g _ (JM hL ih))
end
end Go.Pav
end
