/- Part of the theory that the claims of this work use: PavSnd8, PavSnd9, PavSndA, PavSndB, PavSnap, PavSndC, PavCall, PavOp, PavIso, PavEv. No conditions of its own. -/
import Derived.Test.YthoeclhpjbbfhaaGreatT1
import Derived.WideLaws
import Derived.Defers
import Derived.Orders
import Derived.Tactics
import Derived.Scope
section
set_option linter.unusedSimpArgs false
set_option linter.unusedVariables false
namespace Go.Pav
open Go
section
variable {P:Program} {φ:FuncId→Option Nat} {ψ:Psi} {N:Nat} {w0 w:World} {S:Nat→Prop} {m:Nat→Nat × Nat} {A:Nat→Prop} {h:Heap} {e:Env} {a:Act} {o:Oper}
def OptR (ψ:Psi) (w:World) (S:Nat→Prop) (m:Nat→Nat × Nat) (A:Nat→Prop):Option AV→Option Value→Prop
 | none,none=>True
 | some x,some c=>VR ψ w S m A x c
 | _,_=>False
theorem Cx.opt (cx:Cx P φ ψ N w0 w S m A h e a) {x:Option Operand} {y:Option Opd} (hy:cOpt φ x=some y):OptR ψ w S m A (oev e y) (x.map a.eval):=by
 cases x with
 | none=>simp only [cOpt] at hy;cases hy;trivial
 | some x =>
  simp only [cOpt,Option.map_eq_some_iff] at hy
  obtain ⟨z,hz,rfl⟩:=hy
  exact cx.opd hz
theorem bound_some {x:Option AV} {c:Option Value} (hr:OptR ψ w S m A x c) {d n:Nat} (hb:bound x d=some n):(x=none∧c=none∧n=d)∨(x.isSome=true∧∃ k:IntKind,c=some (.int k n)):=by
 cases x with
 | none =>
  cases c with
  | none=>simp only [bound] at hb;cases hb;exact .inl ⟨rfl,rfl,rfl⟩
  | some c=>exact hr.elim
 | some x =>
  cases c with
  | none=>exact hr.elim
  | some c =>
   right
   cases x <;> simp only [bound] at hb <;> try (cases hb;done)
   have hv:VR ψ w S m A _ c:=hr
   have e1:=hv.inv_int
   have e2:=nat?_some hb
   exact ⟨rfl,_,by rw [e1,e2]⟩
theorem sliceBound_run (k:IntKind) (n y:Nat) (code:BoundsCode) (hn:n≤y):(Instr.sliceBound (.int k n) y code).run P w=.ok n w:=by
 unfold Instr.sliceBound
 simp only [asIntOf,Sem.run_bind,Sem.run_pure,Result.andThen_ok]
 rw [if_pos (by omega)]
 simp
theorem bounds2_run (isS:Bool) {len cap l h:Nat} {lo hi:Option Value} (hlo:(lo=none∧l=0)∨∃ k:IntKind,lo=some (.int k l)) (hhi:(hi=none∧h=len)∨∃ k:IntKind,hi=some (.int k h))
 (h1:l≤h) (h2:h≤cap):(Instr.sliceBounds isS len cap lo hi none).run P w=.ok (l,h,cap) w:=by
 unfold Instr.sliceBounds
 rcases hhi with ⟨rfl,rfl⟩ | ⟨k,rfl⟩
 · rcases hlo with ⟨rfl,rfl⟩ | ⟨k',rfl⟩
   · simp
   · simp [sliceBound_run k' l h _ h1]
 · rcases hlo with ⟨rfl,rfl⟩ | ⟨k',rfl⟩
   · simp [sliceBound_run k h cap _ h2]
   · simp [sliceBound_run k h cap _ h2,sliceBound_run k' l h _ h1]
theorem bounds3_run {len cap l h mm:Nat} {lo:Option Value} {k k2:IntKind} (hlo:(lo=none∧l=0)∨∃ k:IntKind,lo=some (.int k l))
 (h1:l≤h) (h2:h≤mm) (h3:mm≤cap):(Instr.sliceBounds true len cap lo (some (.int k h)) (some (.int k2 mm))).run P w=.ok (l,h,mm) w:=by
 unfold Instr.sliceBounds
 rcases hlo with ⟨rfl,rfl⟩ | ⟨k',rfl⟩
 · simp [sliceBound_run k2 mm cap _ h3,sliceBound_run k h mm _ h2]
 · simp [sliceBound_run k2 mm cap _ h3,sliceBound_run k h mm _ h2,sliceBound_run k' l h _ h1]
theorem slice_some_run {t el:TypeId} {z:Nat} (hd:P.underlying t=some (.slice el)) (hz:sizeT P el=some z) {g off len cap l h mm:Nat} {lo hi mx:Option Value}
 (hb:(Instr.sliceBounds true len cap lo hi mx).run P w=.ok (l,h,mm) w) :
 (Instr.sliceAt t (.slice (some ⟨g,off,none⟩) len cap) lo hi mx).run P w=.ok (.slice (some ⟨g,if mm=l then off else off+l * z,none⟩) (h - l) (mm - l)) w:=by
 simp only [Instr.sliceAt,Instr.slice,Sem.run_bind,run_underlying hd,Result.andThen_ok,hb,sizeOf_run hz,Sem.run_pure]
 split <;> simp_all [add_row]
theorem VR.ro_sub {z:Nat} {es:List (List AV)} {ex:Bool} {g off len cap:Nat} (hv:∃ cs:Nat→Nat→Value,len=es.length∧S g∧(∀ (i:Nat) (e:List AV),es[i]?=some e→e.length=z)∧es.length≤cap∧(ex=true→cap=es.length)∧(∀ (i:Nat) (e:List AV) (j:Nat) (x:AV),es[i]?=some e→e[j]?=some x→x.cell=true∧w.cell? ⟨g,off+i * z+j,none⟩=some (cs i j))∧∀ (i:Nat) (e:List AV) (j:Nat) (x:AV),es[i]?=some e→e[j]?=some x→VR ψ w S m (fun _=>False) x (cs i j)) {l h mm:Nat} (h1:l≤h) (h2:h≤es.length) (h3:h≤mm) {ex':Bool}
 (hex:ex'=true→mm=h):VR ψ w S m A (.ro z ((es.take h).drop l) ex') (.slice (some ⟨g,if mm=l then off else off+l * z,none⟩) (h - l) (mm - l)):=by
 obtain ⟨cs,rfl,hS,hw,hcap,hx,hcell,hrep⟩:=hv
 have hl:((es.take h).drop l).length=h - l:=by simp;omega
 have get:∀ (i:Nat) (e:List AV),((es.take h).drop l)[i]?=some e→es[l+i]?=some e∧l+i < h:=by
  intro i e he
  rw [List.getElem?_drop,List.getElem?_take] at he
  split at he
  · rename_i hh;exact ⟨he,hh⟩
  · cases he
 have:=VR.ro (ψ:=ψ) (w:=w) (S:=S) (m:=m) (A:=A) z ((es.take h).drop l) ex' g (if mm=l then off else off+l * z) (mm - l) (fun i j=>cs (l+i) j) hS (fun i e he=>hw _ e (get i e he).1) (by rw [hl];omega) (fun hx'=>by rw [hl];have:=hex hx';omega)
  (fun i e j x he hx=>?_) (fun i e j x he hx=>hrep _ e j x (get i e he).1 hx)
 · rwa [hl] at this
 · obtain ⟨q1,q2⟩:=get i e he
   obtain ⟨q3,q4⟩:=hcell _ e j x q1 hx
   refine ⟨q3,?_⟩
   rw [if_neg (by omega),← q4]
   congr 2
   rw [Nat.add_mul]
   omega
theorem VR.sl_sub {b z i len cap:Nat} {ex:Bool} {c:Value} (hv:VR ψ w S m A (.sl b z i len cap ex) c) {cc l h mm cap':Nat} (hc:c=.slice (some ⟨(m b).1,i * z,none⟩) len cc) (h1:l≤h) (h3:h≤mm) (h4:mm≤cc) (h5:cap'≤mm - l) {ex':Bool}
 (hex:ex'=true→mm - l=cap') (i':Nat) (hi:i'=if mm=l then i else i+l) :
 VR ψ w S m A (.sl b z i' (h - l) cap' ex') (.slice (some ⟨(m b).1,if mm=l then i * z else i * z+l * z,none⟩) (h - l) (mm - l)):=by
 obtain ⟨cc',e1,hA,hz,hl,hcap,hx,cur,t,fr,hrow,hsz⟩:=hv.inv_sl
 rw [hc] at e1
 cases e1
 have hoff:(if mm=l then i * z else i * z+l * z)=i' * z:=by
  rw [hi]
  split
  · rfl
  · rw [Nat.add_mul]
 rw [hoff]
 refine .sl b z i' (h - l) cap' ex' (mm - l) hA hz (by omega) h5 hex ⟨cur,t,fr,hrow,Nat.le_trans (Nat.mul_le_mul_right z ?_) hsz⟩
 rw [hi]
 split <;> omega
theorem arr_run {t el:TypeId} {n:Nat} (hd:P.underlying t=some (.array n el)) (hz:sizeT P el=some 1) {g off l h:Nat} {lo hi:Option Value}
 (hb:(Instr.sliceBounds false n n lo hi none).run P w=.ok (l,h,n) w) :
 (Instr.sliceAt t (.pointer (some ⟨g,off,none⟩)) lo hi none).run P w=.ok (.slice (some ⟨g,if n=l then off else off+l * 1,none⟩) (h - l) (n - l)) w:=by
 simp only [Instr.sliceAt,Instr.sureAddr,Sem.run_bind,run_underlying hd,Result.andThen_ok,Sem.run_pure,hb,sizeOf_run hz]
 split <;> simp_all [add_row]
theorem sliceArr_ok {S':Nat→Prop} {t el:TypeId} {n:Nat} (hd:P.underlying t=some (.array n el)) (hz:sizeT P el=some 1) {cs:List AV} {g off:Nat}
 (hcell:∀ (j:Nat) (x:AV),cs[j]?=some x→∃ u,w.cell? ⟨g,off+j,none⟩=some u∧VR ψ w S m A x u) (hS:S' g) {alo ahi:Option AV} {clo chi:Option Value}
 (rlo:OptR ψ w S m A alo clo) (rhi:OptR ψ w S m A ahi chi) {v:AV} (hs:sliceArr n cs alo ahi=some v) :
 ∃ cv,(Instr.sliceAt t (.pointer (some ⟨g,off,none⟩)) clo chi none).run P w=.ok cv w∧VR ψ w S' m A v cv:=by
 unfold sliceArr at hs
 split at hs
 case isFalse=>cases hs
 rename_i hc
 obtain ⟨hn,hleaf⟩:=hc
 unfold sliceRo at hs
 simp only [List.length_map,List.length_take,Nat.min_eq_left hn] at hs
 obtain ⟨hh,hhh,hs⟩:=ob_some hs
 obtain ⟨l,hl,hs⟩:=ob_some hs
 split at hs
 case isFalse=>cases hs
 rename_i hc
 obtain ⟨c1,c2⟩:=hc
 cases hs
 refine ⟨_,arr_run hd hz (bounds2_run false (l:=l) (h:=hh) ?_ ?_ c1 c2),?_⟩
 · rcases bound_some rlo hl with ⟨_,q1,q2⟩ | ⟨_,q⟩
   · exact .inl ⟨q1,q2⟩
   · exact .inr q
 · rcases bound_some rhi hhh with ⟨_,q1,q2⟩ | ⟨_,q⟩
   · exact .inl ⟨q1,q2⟩
   · exact .inr q
 · have hlen:((cs.take n).map fun x=>[x]).length=n:=by simp;omega
   have get:∀ (i:Nat) (e:List AV) (j:Nat) (x:AV),((cs.take n).map fun x=>[x])[i]?=some e→e[j]?=some x→j=0∧cs[i]?=some x∧isLeaf x=true:=by
    intro i e j x he hx
    rw [List.getElem?_map] at he
    cases hy:(cs.take n)[i]? with
    | none=>rw [hy] at he;cases he
    | some y =>
     rw [hy] at he
     cases he
     cases j with
     | succ j=>simp at hx
     | zero =>
      simp at hx
      subst hx
      rw [List.getElem?_take] at hy
      split at hy
      · rename_i hi
        exact ⟨rfl,hy,List.all_eq_true.1 hleaf y (List.mem_of_getElem? (i:=i) (by rw [List.getElem?_take,if_pos hi];exact hy))⟩
      · cases hy
   refine VR.ro_sub (len:=((cs.take n).map fun x=>[x]).length) (cap:=n) (ex:=true) ⟨fun i j=>(w.cell? ⟨g,off+i * 1+j,none⟩).getD Go.undef,rfl,hS,fun i e he=>?_,by omega,fun _=>hlen.symm,fun i e j x he hx=>?_,fun i e j x he hx=>?_⟩ c1 (by omega) c2 (fun q=>by simp at q;omega)
   · rw [List.getElem?_map] at he
     cases hy:(cs.take n)[i]? with
     | none=>rw [hy] at he;cases he
     | some y=>rw [hy] at he;cases he;rfl
   · obtain ⟨rfl,q1,q2⟩:=get i e j x he hx
     obtain ⟨u,q3,q4⟩:=hcell i x q1
     refine ⟨by cases x <;> simp [isLeaf] at q2 <;> rfl,?_⟩
     simp only [Nat.mul_one,Nat.add_zero,q3,Option.getD_some]
   · obtain ⟨rfl,q1,q2⟩:=get i e j x he hx
     obtain ⟨u,q3,q4⟩:=hcell i x q1
     simp only [Nat.mul_one,Nat.add_zero,q3,Option.getD_some]
     exact leaf_vr q2 q4
theorem sliceA_ok (cx:Cx P φ ψ N w0 w S m A h e a) {t el:TypeId} {X:Operand} {lo hi:Option Operand} (ho:o.op=.slice t X lo hi none) {n:Nat} (hd:P.underlying t=some (.array n el)) (hz:sizeT P el=some 1)
 {x:Opd} (hx:cOpd φ X=some x) {lo' hi':Option Opd} (hlo:cOpt φ lo=some lo') (hhi:cOpt φ hi=some hi') {v:AV} {u:Upd} {nid:Nat} (hs:stepOp (.sliceA n x lo' hi') e h nid=some (v,u)) :
 Snd P ψ N w0 w S m A (execOp a.eval o) (applyUpd h u) v nid:=by
 have hX:=cx.opd hx
 have rlo:=cx.opt hlo
 have rhi:=cx.opt hhi
 simp only [stepOp,sSliceA] at hs
 have hex:∀ cv,(Instr.sliceAt t (a.eval X) (lo.map a.eval) (hi.map a.eval) none).run P w=.ok cv w→(execOp a.eval o).run P w=.ok (.value cv) w:=fun cv q=>by simp [execOp,ho,q]
 cases hxv:x.ev e <;> rw [hxv] at hs hX <;> simp only [evSliceA] at hs <;> try (cases hs;done)
 · rename_i cs
   obtain ⟨r,hr,q⟩:=om_some hs
   cases q
   obtain ⟨b,off,vs,e1,hS,hcell,hrep⟩:=hX.inv_rop
   rw [e1] at hex
   obtain ⟨cv,q1,q2⟩:=sliceArr_ok (P:=P) (S':=S) hd hz (fun j x hj=>⟨_,(hcell j x hj).2,(hrep j x hj).open_⟩) hS rlo rhi hr
   exact Snd.quiet cx.inv (hex _ q1) q2 nid
 · rename_i b i o'
   unfold sliceAt at hs
   split at hs
   case h_2=>cases hs
   rename_i z es mu hg
   obtain ⟨cs,hcs,hs⟩:=ob_some hs
   obtain ⟨r,hr,q⟩:=om_some hs
   cases q
   obtain ⟨j1,j2,j3⟩:=mark_one cx.inv hg
   obtain ⟨p1,p2,cur,tt,p3,p4,p5⟩:=cx.inv.obj b _ hg
   obtain ⟨hA,e1⟩:=hX.inv_ptr
   rw [e1] at hex
   obtain ⟨cv,q1,q2⟩:=sliceArr_ok (P:=P) (S':=fun c=>S c∨c=(m b).1) (g:=(m b).1) (off:=i * (m b).2+o') hd hz (fun j x hj=>by
    rw [List.getElem?_drop] at hj
    obtain ⟨t1,u,t2,t3⟩:=p5 _ cs _ x hcs hj
    refine ⟨u,?_,t3⟩
    have e2:i * (m b).2+o'+j=i * z+(o'+j):=by rw [← p1,Nat.add_assoc]
    simp only [World.cell?,p3,e2,Option.isSome_none,Bool.false_eq_true,if_false]
    exact t2) (.inr rfl) rlo rhi hr
   exact ⟨cv,w,_,m,A,.inl (hex _ q1),q2,j1,j2,j3,fun b hb=>.inl hb⟩
theorem slice_ok (cx:Cx P φ ψ N w0 w S m A h e a) {t:TypeId} {X:Operand} {lo hi mx:Option Operand} (ho:o.op=.slice t X lo hi mx):Ok P φ ψ N w0 w S m A h e a o:=by
 intro cop v u nid hc hs hn
 rw [ho] at hc
 simp only [cOp,Option.bind_eq_bind,Option.bind_eq_some_iff] at hc
 obtain ⟨x,hx,d,hd,hc⟩:=hc
 have hX:=cx.opd hx
 have fin:∀ cv,(Instr.sliceAt t (a.eval X) (lo.map a.eval) (hi.map a.eval) (mx.map a.eval)).run P w=.ok cv w→VR ψ w S m A v cv→Snd P ψ N w0 w S m A (execOp a.eval o) (applyUpd h []) v nid :=
  fun cv q1 q2=>Snd.val cx.inv (s:=Instr.sliceAt t (a.eval X) (lo.map a.eval) (hi.map a.eval) (mx.map a.eval)) (by simp [execOp,ho]) q1 q2 nid
 split at hc
 · rename_i el
   simp only [Option.bind_eq_some_iff] at hc
   obtain ⟨z,hz,hc⟩:=hc
   split at hc
   · cases hc
   · rename_i hz0
     simp only [Option.bind_eq_some_iff] at hc
     obtain ⟨lo',hlo,hi',hhi,mx',hmx,hc⟩:=hc
     cases hc
     simp only [stepOp,sSlice] at hs
     obtain ⟨h1,rfl⟩:=ov_some hs
     have rlo:=cx.opt hlo
     have rhi:=cx.opt hhi
     have rmx:=cx.opt hmx
     generalize oev e lo'=alo at h1 rlo
     generalize oev e hi'=ahi at h1 rhi
     generalize oev e mx'=amx at h1 rmx
     generalize lo.map a.eval=clo at rlo fin
     generalize hi.map a.eval=chi at rhi fin
     generalize mx.map a.eval=cmx at rmx fin
     have lob:∀ l,bound alo 0=some l→(clo=none∧l=0)∨∃ k:IntKind,clo=some (.int k l):=by
      intro l hl
      rcases bound_some rlo hl with ⟨_,q1,q2⟩ | ⟨_,q⟩
      · exact .inl ⟨q1,q2⟩
      · exact .inr q
     have hib:∀ d h,bound ahi d=some h→(ahi=none∧chi=none∧h=d)∨∃ k:IntKind,chi=some (.int k h):=by
      intro d h hl
      rcases bound_some rhi hl with q | ⟨_,q⟩
      · exact .inl q
      · exact .inr q
     cases hxv:x.ev e <;> rw [hxv] at h1 hX <;> simp only [evSlice] at h1 <;> try (cases h1;done)
     · rw [if_neg hz0] at h1;cases h1
     · rw [if_neg hz0] at h1
       unfold sliceNil at h1
       obtain ⟨mm,hm,h1'⟩:=ob_some h1
       replace h1:=h1';clear h1'
       obtain ⟨hh,hhh,h1'⟩:=ob_some h1
       replace h1:=h1';clear h1'
       obtain ⟨l,hl,h1'⟩:=ob_some h1
       replace h1:=h1';clear h1'
       split at h1
       · rename_i hc
         obtain ⟨rfl,rfl,rfl,hno⟩:=hc
         cases h1
         rw [hX.inv_nils] at fin
         refine fin (.slice none 0 0) ?_ .nils
         have hb:(Instr.sliceBounds true 0 0 clo chi cmx).run P w=.ok (0,0,0) w:=by
          rcases bound_some rmx hm with ⟨q1,rfl,_⟩ | ⟨q1,k,rfl⟩
          · refine bounds2_run true (lob 0 hl) ?_ (Nat.le_refl _) (Nat.le_refl _)
            rcases hib 0 0 hhh with ⟨_,q2,q3⟩ | ⟨k,q2⟩
            · exact .inl ⟨q2,rfl⟩
            · exact .inr ⟨k,q2⟩
          · rcases hib 0 0 hhh with ⟨q2,_,_⟩ | ⟨k2,rfl⟩
            · exact absurd ⟨q1,by rw [q2];rfl⟩ hno
            · exact bounds3_run (lob 0 hl) (Nat.le_refl _) (Nat.le_refl _) (Nat.le_refl _)
         simp only [Instr.sliceAt,Instr.slice,Sem.run_bind,run_underlying hd,Result.andThen_ok,hb,sizeOf_run hz,Sem.run_pure]
         simp
       · cases h1
     · rename_i z' es ex
       split at h1
       · rename_i hzz
         obtain ⟨_,rfl⟩:=hzz
         rcases hX.inv_ro with ⟨g,off,cap,cs,e1,hS,hw,hcap,hex,hcell,hrep⟩ | ⟨rfl,ad,k0,e1,hk0⟩
         case inr =>
          rw [e1] at fin
          unfold sliceRo at h1
          have done_:∀ m,(Instr.sliceBounds true 0 k0 clo chi cmx).run P w=.ok (0,0,m) w→∃ ad',(Instr.sliceAt t (.slice (some ad) 0 k0) clo chi cmx).run P w=.ok (.slice (some ad') 0 m) w:=fun m hb=>by
           simp only [Instr.sliceAt,Instr.slice,Sem.run_bind,run_underlying hd,Result.andThen_ok,hb,sizeOf_run hz,Sem.run_pure]
           by_cases hm0:m=0
           · subst hm0;exact ⟨ad,by simp⟩
           · exact ⟨ad.add (0 * z'),by rw [if_neg (by omega)];rfl⟩
          cases amx with
          | none =>
           have hcm:cmx=none:=by cases cmx with | none=>rfl | some c=>exact rmx.elim
           subst hcm
           simp only at h1
           obtain ⟨hh,hhh,h1'⟩:=ob_some h1
           replace h1:=h1';clear h1'
           obtain ⟨l,hl,h1'⟩:=ob_some h1
           replace h1:=h1';clear h1'
           split at h1
           · rename_i hc
             obtain ⟨c1,c2⟩:=hc
             simp only [List.length_nil,Nat.le_zero] at c2
             subst c2
             obtain rfl:l=0:=by omega
             cases h1
             obtain ⟨ad',hd'⟩:=done_ k0 (bounds2_run true (lob 0 hl) (by
              rcases hib _ _ hhh with ⟨_,q2,q3⟩ | ⟨k,q2⟩
              · exact .inl ⟨q2,rfl⟩
              · exact .inr ⟨k,q2⟩) (Nat.le_refl _) (Nat.zero_le _))
             exact fin _ hd' (.roe _ _ _ _ fun q=>hk0 (by simpa using q))
           · cases h1
          | some am =>
           simp only at h1
           obtain ⟨mm,hm,h1'⟩:=ob_some h1
           replace h1:=h1';clear h1'
           obtain ⟨ah,hah,h1'⟩:=ob_some h1
           replace h1:=h1';clear h1'
           subst hah
           obtain ⟨hh,hhh,h1'⟩:=ob_some h1
           replace h1:=h1';clear h1'
           obtain ⟨l,hl,h1'⟩:=ob_some h1
           replace h1:=h1';clear h1'
           split at h1
           · rename_i hc
             obtain ⟨c1,c2,c3⟩:=hc
             simp only [List.length_nil,Nat.le_zero] at c3
             subst c3
             obtain rfl:hh=0:=by omega
             obtain rfl:l=0:=by omega
             cases h1
             rcases bound_some rmx hm with ⟨q1,_,_⟩ | ⟨_,k,rfl⟩
             · cases q1
             · rcases hib _ _ hhh with ⟨q2,_,_⟩ | ⟨k2,rfl⟩
               · cases q2
               · obtain ⟨ad',hd'⟩:=done_ 0 (bounds3_run (lob 0 hl) (Nat.le_refl _) (Nat.le_refl _) (Nat.zero_le _))
                 exact fin _ hd' (.roe _ _ _ _ fun _=>rfl)
           · cases h1
         rw [e1] at fin hX
         unfold sliceRo at h1
         cases amx with
         | none =>
          have hcm:cmx=none:=by cases cmx with | none=>rfl | some c=>exact rmx.elim
          subst hcm
          simp only at h1
          obtain ⟨hh,hhh,h1'⟩:=ob_some h1
          replace h1:=h1';clear h1'
          obtain ⟨l,hl,h1'⟩:=ob_some h1
          replace h1:=h1';clear h1'
          split at h1
          · rename_i hc
            obtain ⟨c1,c2⟩:=hc
            cases h1
            refine fin _ (slice_some_run hd hz (bounds2_run true (lob l hl) ?_ c1 (by omega))) (VR.ro_sub ⟨cs,rfl,hS,hw,hcap,hex,hcell,hrep⟩ c1 c2 (by omega) fun hx'=>?_)
            · rcases hib _ _ hhh with ⟨_,q2,q3⟩ | ⟨k,q2⟩
              · exact .inl ⟨q2,q3⟩
              · exact .inr ⟨k,q2⟩
            · simp only [Bool.and_eq_true,decide_eq_true_eq] at hx'
              rw [hex hx'.1,hx'.2]
          · cases h1
         | some am =>
          simp only at h1
          obtain ⟨mm,hm,h1'⟩:=ob_some h1
          replace h1:=h1';clear h1'
          obtain ⟨ah,hah,h1'⟩:=ob_some h1
          replace h1:=h1';clear h1'
          subst hah
          obtain ⟨hh,hhh,h1'⟩:=ob_some h1
          replace h1:=h1';clear h1'
          obtain ⟨l,hl,h1'⟩:=ob_some h1
          replace h1:=h1';clear h1'
          split at h1
          · rename_i hc
            obtain ⟨c1,c2,c3⟩:=hc
            cases h1
            rcases bound_some rmx hm with ⟨q1,_,_⟩ | ⟨_,k,rfl⟩
            · cases q1
            · rcases hib _ _ hhh with ⟨q2,_,_⟩ | ⟨k2,rfl⟩
              · cases q2
              · exact fin _ (slice_some_run hd hz (bounds3_run (lob l hl) c1 c2 (by omega))) (VR.ro_sub ⟨cs,rfl,hS,hw,hcap,hex,hcell,hrep⟩ c1 (by omega) c2 fun hx'=>by simpa using hx')
          · cases h1
       · cases h1
     · rename_i b z' i len cap ex
       split at h1
       · rename_i hzz
         obtain ⟨_,rfl⟩:=hzz
         obtain ⟨cc,e1,hA,hmz,hlen,hcap,hex,hrow⟩:=hX.inv_sl
         rw [e1] at fin
         unfold sliceSl at h1
         cases amx with
         | none =>
          have hcm:cmx=none:=by cases cmx with | none=>rfl | some c=>exact rmx.elim
          subst hcm
          simp only at h1
          obtain ⟨hh,hhh,h1'⟩:=ob_some h1
          replace h1:=h1';clear h1'
          obtain ⟨l,hl,h1'⟩:=ob_some h1
          replace h1:=h1';clear h1'
          split at h1
          · rename_i hc
            obtain ⟨c1,c2,c3⟩:=hc
            have run:=slice_some_run (P:=P) (w:=w) (t:=t) (off:=i * z') (g:=(m b).1) hd hz (bounds2_run (P:=P) (w:=w) (len:=len) (cap:=cc) (h:=hh) (hi:=chi) true (lob l hl) (by
             rcases hib _ _ hhh with ⟨_,q2,q3⟩ | ⟨k,q2⟩
             · exact .inl ⟨q2,q3⟩
             · exact .inr ⟨k,q2⟩) c1 (by omega))
            split at h1
            · cases h1
              exact fin _ run (hX.sl_sub e1 c1 (by omega) (Nat.le_refl _) (by omega) (fun hx'=>by rw [hex hx']) _ (by rw [if_neg (by omega)]))
            · split at h1
              · rename_i hl0
                subst hl0
                cases h1
                have:=hX.sl_sub (l:=0) (mm:=cc) (cap':=cap) (ex':=ex) e1 c1 (by omega) (Nat.le_refl _) (by omega) (fun hx'=>by rw [hex hx'];rfl) i (by split <;> rfl)
                rw [Nat.sub_zero] at this
                exact fin _ run this
              · cases h1
                have e0:hh - l=0:=by omega
                rw [e0] at run
                exact fin _ run (.roe _ _ _ _ fun hx'=>by have:=hex hx';omega)
          · cases h1
         | some am =>
          simp only at h1
          obtain ⟨mm,hm,h1'⟩:=ob_some h1
          replace h1:=h1';clear h1'
          obtain ⟨ah,hah,h1'⟩:=ob_some h1
          replace h1:=h1';clear h1'
          subst hah
          obtain ⟨hh,hhh,h1'⟩:=ob_some h1
          replace h1:=h1';clear h1'
          obtain ⟨l,hl,h1'⟩:=ob_some h1
          replace h1:=h1';clear h1'
          split at h1
          · rename_i hc
            obtain ⟨c1,c2,c3⟩:=hc
            rcases bound_some rmx hm with ⟨q1,_,_⟩ | ⟨_,k,rfl⟩
            · cases q1
            · rcases hib _ _ hhh with ⟨q2,_,_⟩ | ⟨k2,rfl⟩
              · cases q2
              · have run:=slice_some_run (P:=P) (w:=w) (t:=t) (off:=i * z') (g:=(m b).1) hd hz (bounds3_run (P:=P) (w:=w) (len:=len) (cap:=cc) (h:=hh) (k:=k2) (k2:=k) (mm:=mm) (lob l hl) c1 c2 (by omega))
                split at h1
                · cases h1
                  exact fin _ run (hX.sl_sub e1 c1 c2 (by omega) (Nat.le_refl _) (fun _=>rfl) _ (by rw [if_neg (by omega)]))
                · cases h1
                  have e0:hh - l=0:=by omega
                  have:=hX.sl_sub (l:=l) (h:=hh) (mm:=mm) (cap':=0) (ex':=true) e1 c1 c2 (by omega) (Nat.zero_le _) (fun _=>by omega) i (by rw [if_pos (by omega)])
                  rw [e0] at this run
                  exact fin _ run this
          · cases h1
       · cases h1
 · simp only [Option.bind_eq_some_iff] at hc
   obtain ⟨lo',hlo,hi',hhi,mx',hmx,hc⟩:=hc
   cases hc
   simp only [stepOp,sSlice] at hs
   obtain ⟨h1,rfl⟩:=ov_some hs
   have rlo:=cx.opt hlo
   have rhi:=cx.opt hhi
   have rmx:=cx.opt hmx
   generalize oev e lo'=alo at h1 rlo
   generalize oev e hi'=ahi at h1 rhi
   generalize oev e mx'=amx at h1 rmx
   generalize lo.map a.eval=clo at rlo fin
   generalize hi.map a.eval=chi at rhi fin
   generalize mx.map a.eval=cmx at rmx fin
   cases hxv:x.ev e <;> rw [hxv] at h1 hX <;> simp only [evSlice] at h1 <;> try (cases h1;done)
   · rename_i s
     rw [if_pos trivial] at h1
     unfold sliceStr at h1
     cases amx with
     | some am=>cases h1
     | none =>
      have hcm:cmx=none:=by cases cmx with | none=>rfl | some c=>exact rmx.elim
      subst hcm
      simp only at h1
      obtain ⟨hh,hhh,h1'⟩:=ob_some h1
      replace h1:=h1';clear h1'
      obtain ⟨l,hl,h1'⟩:=ob_some h1
      replace h1:=h1';clear h1'
      split at h1
      · rename_i hc
        obtain ⟨c1,c2⟩:=hc
        cases h1
        have eX:=hX.inv_str
        rw [eX] at fin
        have hsz:(⟨⟨s⟩⟩:ByteArray).size=s.length:=rfl
        have hb:(Instr.sliceBounds false s.length s.length clo chi none).run P w=.ok (l,hh,s.length) w:=by
         refine bounds2_run false ?_ ?_ c1 c2
         · rcases bound_some rlo hl with ⟨_,q1,q2⟩ | ⟨_,q⟩
           · exact .inl ⟨q1,q2⟩
           · exact .inr q
         · rcases bound_some rhi hhh with ⟨_,q1,q2⟩ | ⟨_,q⟩
           · exact .inl ⟨q1,q2⟩
           · exact .inr q
        refine fin (.string ⟨⟨(s.take hh).drop l⟩⟩) ?_ (.str _)
        have hx:(⟨⟨s⟩⟩:ByteArray).extract l hh=⟨⟨(s.take hh).drop l⟩⟩:=by
         have:((⟨⟨s⟩⟩:ByteArray).extract l hh).data=⟨(s.take hh).drop l⟩:=by
          rw [ByteArray.data_extract]
          apply Array.ext'
          simp only [Array.toList_extract,List.extract_eq_take_drop]
          rw [List.drop_take]
         calc (⟨⟨s⟩⟩:ByteArray).extract l hh=⟨((⟨⟨s⟩⟩:ByteArray).extract l hh).data⟩:=rfl
          _=_:=by rw [this]
        simp only [Instr.sliceAt,Instr.slice,Sem.run_bind,run_underlying hd,Result.andThen_ok,hsz]
        simp only [Option.isSome_none,Bool.false_eq_true,if_false,Sem.run_bind,Result.andThen_ok,hb,Sem.run_pure]
        rw [hx]
      · cases h1
   all_goals (simp at h1)
 · rename_i n el
   simp only [Option.bind_eq_some_iff] at hc
   obtain ⟨z,hz,hc⟩:=hc
   split at hc
   · rename_i hzm
     obtain ⟨rfl,rfl⟩:=hzm
     simp only [Option.bind_eq_some_iff,Option.some.injEq] at hc
     obtain ⟨lo',hlo,hi',hhi,rfl⟩:=hc
     exact sliceA_ok cx ho hd hz hx hlo hhi hs
   · cases hc
 · cases hc
end
end Go.Pav
end
section
set_option linter.unusedSimpArgs false
set_option linter.unusedVariables false
namespace Go.Pav
open Go
section
variable {P:Program} {φ:FuncId→Option Nat} {ψ:Psi} {N:Nat} {w0 w:World} {S:Nat→Prop} {m:Nat→Nat × Nat} {A:Nat→Prop} {h:Heap} {e:Env} {a:Act} {o:Oper}
theorem wrap_i64 {n:Nat} (hn:n≤maxBytes):IntKind.i64.wrap (n:Int)=(n:Int):=by
 simp only [maxBytes] at hn
 simp only [IntKind.wrap,IntKind.bits,IntKind.signed]
 have:(n:Int) % 2 ^ 64=n:=Int.emod_eq_of_lt (by omega) (by omega)
 simp only [this]
 rw [if_neg]
 simp
 omega
theorem mksl_ok (cx:Cx P φ ψ N w0 w S m A h e a) {t:TypeId} {L C:Operand} (ho:o.op=.makeSlice t L C):Ok P φ ψ N w0 w S m A h e a o:=by
 intro cop v u nid hc hs hn
 rw [ho] at hc
 simp only [cOp,Option.bind_eq_bind,Option.bind_eq_some_iff] at hc
 obtain ⟨l,hl,c,hcc,d,hd,hc⟩:=hc
 have hL:=cx.opd hl
 have hC:=cx.opd hcc
 split at hc
 · rename_i el
   simp only [Option.bind_eq_some_iff] at hc
   obtain ⟨z,hz,i,hi,hc⟩:=hc
   split at hc
   · cases hc
   · cases hc
     simp only [stepOp,sMksl] at hs
     split at hs
     · rename_i k1 n1 k2 n2 e1 e2
       obtain ⟨nl,hnl,hs'⟩:=ob_some hs
       replace hs:=hs';clear hs'
       obtain ⟨nc,hnc,hs'⟩:=ob_some hs
       replace hs:=hs';clear hs'
       split at hs
       · rename_i hcond
         obtain ⟨c1,c2⟩:=hcond
         cases hs
         rw [e1] at hL
         rw [e2] at hC
         have eL:=hL.inv_int
         have eC:=hC.inv_int
         have q1:=nat?_some hnl
         have q2:=nat?_some hnc
         subst q1 q2
         obtain ⟨it,zv,hit,hzv,z1,z2,z3,z4⟩:=zeroCells_some (ψ:=ψ) (w:=w) (S:=S) (m:=m) (A:=A) hz
         rw [hi] at hit
         cases hit
         have hcb:nc≤maxBytes:=Nat.le_trans (Nat.le_mul_of_pos_right nc (Nat.succ_pos _)) c2
         have hlb:nl≤maxBytes:=Nat.le_trans c1 hcb
         have hbig:¬ ((i.bytes:Int) * (nc:Int) > 2 ^ 48):=by
          have h1:nc * i.bytes≤nc * (i.bytes+1):=Nat.mul_le_mul_left nc (Nat.le_succ _)
          have h2:nc * i.bytes≤maxBytes:=Nat.le_trans h1 c2
          simp only [maxBytes] at h2
          rw [Nat.mul_comm] at h2
          have h3:((i.bytes * nc:Nat):Int)≤35184372088832:=by omega
          rw [Int.natCast_mul] at h3
          omega
         have hrow:=zeros_EsR (ψ:=ψ) (w:=w) (S:=S) (m:=m) (A:=A) z1 z3 z4 nc
         refine Snd.newSl (w':=w.alloc (.cells ((Array.range (nc * z.length)).map (zv.cells[· % zv.cells.size]!)) el)) (c:=(Array.range (nc * z.length)).map (zv.cells[· % zv.cells.size]!)) (t:=el) cx.inv hn (len:=nl) (cap:=nc) ?_ rfl rfl rfl hrow (fun _ _=>rfl) (Nat.le_refl _) rfl c1 (Nat.le_refl _) (fun _=>rfl) (by simp)
         simp only [execOp,ho,Sem.run_bind]
         have:(Instr.makeSlice t (a.eval L) (a.eval C)).run P w=.ok (.slice (some ⟨w.heap.size,0,none⟩) nl nc) (w.alloc (.cells ((Array.range (nc * z.length)).map (zv.cells[· % zv.cells.size]!)) el)):=by
          rw [eL,eC]
          unfold Instr.makeSlice
          simp only [Sem.run_bind,run_underlying hd,Result.andThen_ok,asInt,asIntOf,Sem.run_pure,typeInfo,run_program,hi]
          rw [wrap_i64 hlb,wrap_i64 hcb]
          have t1:(decide ((nc:Int) < 0)||decide ((i.bytes:Int) * (nc:Int) > 2 ^ 48))=false:=by
           rw [decide_eq_false hbig]
           simp
          have t2:decide ((nl:Int) < 0)=false:=by rw [decide_eq_false];omega
          have t3:decide ((nl:Int) > (nc:Int))=false:=by rw [decide_eq_false];omega
          simp only [t1,t2,t3,Bool.or_false,Bool.false_eq_true,if_false,Sem.run_bind,run_askRoom,Result.andThen_ok,sizeOf,typeInfo,run_program,hi,Sem.run_pure,z2,Int.toNat_natCast]
          by_cases hz0:nc * z.length=0
          · rw [if_pos hz0]
            have hr0:Array.range 0=#[]:=rfl
            simp [hz0,hr0,Go.newRow]
          · rw [if_neg hz0]
            simp [zeroValue,typeInfo,hi,hzv,Go.newRow]
         rw [this]
         rfl
       · cases hs
     · cases hs
 · cases hc
theorem call_builtin {c:Call} {b:Builtin} (ho:o.op=.call c) (hb:c.callee=.builtin b) {s:Sem Value} (hs:∀ consts,builtin b c.argTypes o.type consts (c.args.map a.eval)=(do pure (.value (← s)))) :
 execOp a.eval o=(do pure (.value (← s))):=by
 simp only [execOp,ho,resolve,hb,pure_bind,invoke]
 exact hs _
theorem arr1 {α:Type} {xs:Array α} {x:α} (hx:xs.toList=[x]):xs=#[x]:=by
 apply Array.ext';simpa using hx
theorem arr2 {α:Type} {xs:Array α} {x y:α} (hx:xs.toList=[x,y]):xs=#[x,y]:=by
 apply Array.ext';simpa using hx
theorem len_ok (cx:Cx P φ ψ N w0 w S m A h e a) {c:Call} (ho:o.op=.call c) (hb:c.callee=.builtin .len):Ok P φ ψ N w0 w S m A h e a o:=by
 intro cop v u nid hc hs hn
 rw [ho] at hc
 simp only [cOp,hb,cBuiltin] at hc
 unfold cLen at hc
 split at hc
 · rename_i X t hargs htys
   simp only [Option.bind_eq_bind,Option.bind_eq_some_iff] at hc
   obtain ⟨x,hx,d,hd,hc⟩:=hc
   have hX:=cx.opd hx
   have ea:=arr1 hargs
   have et:=arr1 htys
   have hex:execOp a.eval o=(do pure (.value (← Builtin.len_ #[t] o.type #[a.eval X]))):=call_builtin ho hb (fun _=>by rw [ea,et];simp [builtin])
   have fin:∀ kd,cop=.len kd x→(∀ v,evLen kd h (x.ev e)=some v→∃ cv,(Builtin.len_ #[t] o.type #[a.eval X]).run P w=.ok cv w∧VR ψ w S m A v cv)→Snd P ψ N w0 w S m A (execOp a.eval o) (applyUpd h u) v nid:=by
    intro kd hcop hr
    subst hcop
    simp only [stepOp,sLen] at hs
    obtain ⟨h1,rfl⟩:=ov_some hs
    obtain ⟨cv,h2,h3⟩:=hr v h1
    exact Snd.val cx.inv hex h2 h3 nid
   split at hc
   · cases hc
     refine fin 0 rfl fun v hv=>?_
     cases hxv:x.ev e <;> rw [hxv] at hv hX <;> simp only [evLen] at hv <;> first
      | (cases hv;done)
      | (simp at hv;done)
      | skip
     rename_i s
     simp only [if_true] at hv
     cases hv
     rw [hX.inv_str]
     refine ⟨_,?_,.int _ _⟩
     have hsz:(⟨⟨s⟩⟩:ByteArray).size=s.length:=rfl
     simp [Builtin.len_,run_underlying hd,goInt,hsz]
   · cases hc
     refine fin 1 rfl fun v hv=>?_
     cases hxv:x.ev e <;> rw [hxv] at hv hX <;> simp only [evLen] at hv <;> first
      | (cases hv;done)
      | (simp at hv;done)
      | skip
     · simp only [if_true] at hv
       cases hv
       rw [hX.inv_nils]
       refine ⟨_,?_,.int _ _⟩
       simp [Builtin.len_,run_underlying hd,goInt]
     · simp only [if_true] at hv
       cases hv
       rcases hX.inv_ro with ⟨b,off,cap,cs,e1,_⟩ | ⟨rfl,ad,k,e1,_⟩ <;>
       · rw [e1]
         refine ⟨_,?_,.int _ _⟩
         simp [Builtin.len_,run_underlying hd,goInt]
     · simp only [if_true] at hv
       cases hv
       obtain ⟨cc,e1,_⟩:=hX.inv_sl
       rw [e1]
       refine ⟨_,?_,.int _ _⟩
       simp [Builtin.len_,run_underlying hd,goInt]
   · cases hc
     refine fin 2 rfl fun v hv=>?_
     cases hxv:x.ev e <;> rw [hxv] at hv hX <;> simp only [evLen] at hv <;> first
      | (cases hv;done)
      | (simp at hv;done)
      | skip
     · simp only [if_true] at hv
       cases hv
       rw [hX.inv_nilm]
       refine ⟨_,?_,.int _ _⟩
       simp [Builtin.len_,run_underlying hd,goInt]
     · rename_i b
       simp only [if_true] at hv
       unfold lenMap at hv
       split at hv
       · rename_i es hg
         cases hv
         obtain ⟨hA,e1⟩:=hX.inv_map
         obtain ⟨es',clock,q1,q2,_⟩:=cx.inv.obj b _ hg
         rw [e1]
         refine ⟨_,?_,.int _ _⟩
         simp [Builtin.len_,run_underlying hd,goInt,run_getObj_map w _ _ _ q1,q2]
       · cases hv
   · cases hc
 · cases hc
theorem cap_ok (cx:Cx P φ ψ N w0 w S m A h e a) {c:Call} (ho:o.op=.call c) (hb:c.callee=.builtin .cap):Ok P φ ψ N w0 w S m A h e a o:=by
 intro cop v u nid hc hs hn
 rw [ho] at hc
 simp only [cOp,hb,cBuiltin] at hc
 unfold cCap at hc
 split at hc
 · rename_i X t hargs htys
   simp only [Option.bind_eq_bind,Option.bind_eq_some_iff] at hc
   obtain ⟨x,hx,d,hd,hc⟩:=hc
   have hX:=cx.opd hx
   have ea:=arr1 hargs
   have et:=arr1 htys
   have hex:execOp a.eval o=(do pure (.value (← Builtin.cap_ #[t] o.type #[a.eval X]))):=call_builtin ho hb (fun _=>by rw [ea,et];simp [builtin])
   split at hc
   · cases hc
     simp only [stepOp,sCap] at hs
     obtain ⟨h1,rfl⟩:=ov_some hs
     cases hxv:x.ev e <;> rw [hxv] at h1 hX <;> simp only [evCap] at h1 <;> try (cases h1;done)
     · cases h1
       have e1:=hX.inv_nils
       exact Snd.val cx.inv hex (cv:=.int .i64 0) (by rw [e1];simp [Builtin.cap_,run_underlying hd,goInt]) (.int _ _) nid
     · split at h1
       · rename_i hx'
         cases h1
         rcases hX.inv_ro with ⟨b,off,cap,cs,e1,_,_,_,hex',_⟩ | ⟨rfl,ad,k,e1,hk⟩
         case inr=>exact Snd.val cx.inv hex (cv:=.int .i64 0) (by rw [e1,hk hx'];simp [Builtin.cap_,run_underlying hd,goInt]) (.int _ _) nid
         exact Snd.val cx.inv hex (cv:=.int .i64 _) (by rw [e1,hex' hx'];simp [Builtin.cap_,run_underlying hd,goInt]) (.int _ _) nid
       · cases h1
     · split at h1
       · rename_i hx'
         cases h1
         obtain ⟨cc,e1,_,_,_,_,hex',_⟩:=hX.inv_sl
         exact Snd.val cx.inv hex (cv:=.int .i64 _) (by rw [e1,hex' hx'];simp [Builtin.cap_,run_underlying hd,goInt]) (.int _ _) nid
       · cases h1
   · cases hc
 · cases hc
theorem mx_ok (cx:Cx P φ ψ N w0 w S m A h e a) {c:Call} (ho:o.op=.call c) {mxx:Bool} (hb:c.callee=.builtin (if mxx then .max else .min)):Ok P φ ψ N w0 w S m A h e a o:=by
 intro cop v u nid hc hs hn
 rw [ho] at hc
 have hc':cMax φ mxx c.args.toList=some cop:=by
  simp only [cOp,hb,cBuiltin] at hc
  cases mxx <;> exact hc
 clear hc
 unfold cMax at hc'
 split at hc'
 · rename_i X Y hargs
   simp only [Option.bind_eq_bind,Option.bind_eq_some_iff,Option.some.injEq] at hc'
   obtain ⟨x,hx,y,hy,rfl⟩:=hc'
   have hX:=cx.opd hx
   have hY:=cx.opd hy
   have ea:=arr2 hargs
   cases mxx
   · have hex:execOp a.eval o=(do pure (.value (← Builtin.min_ c.argTypes o.type #[a.eval X,a.eval Y]))):=call_builtin ho hb (fun _=>by rw [ea];simp [builtin])
     simp only [Bool.false_eq_true,if_false,stepOp,sMn] at hs
     split at hs
     · rename_i k n k' n' ex ey
       split at hs
       · rename_i hk
         subst hk
         cases hs
         rw [ex] at hX
         rw [ey] at hY
         have e1:=hX.inv_int
         have e2:=hY.inv_int
         exact Snd.val cx.inv hex (cv:=.int k _) (by rw [e1,e2];simp [Builtin.min_,Builtin.min2]) (.int _ _) nid
       · cases hs
     · cases hs
   · have hex:execOp a.eval o=(do pure (.value (← Builtin.max_ c.argTypes o.type #[a.eval X,a.eval Y]))):=call_builtin ho hb (fun _=>by rw [ea];simp [builtin])
     simp only [if_true,stepOp,sMx] at hs
     split at hs
     · rename_i k n k' n' ex ey
       split at hs
       · rename_i hk
         subst hk
         cases hs
         rw [ex] at hX
         rw [ey] at hY
         have e1:=hX.inv_int
         have e2:=hY.inv_int
         exact Snd.val cx.inv hex (cv:=.int k _) (by rw [e1,e2];simp [Builtin.max_,Builtin.max2]) (.int _ _) nid
       · cases hs
     · cases hs
 · cases hc'
end
end Go.Pav
end
section
set_option linter.unusedSimpArgs false
set_option linter.unusedVariables false
namespace Go.Pav
open Go
section
variable {P:Program} {φ:FuncId→Option Nat} {ψ:Psi} {N:Nat} {w0 w:World} {S:Nat→Prop} {m:Nat→Nat × Nat} {A:Nat→Prop} {h:Heap} {e:Env} {a:Act} {o:Oper}
structure RowsAt (ψ:Psi) (w:World) (S:Nat→Prop) (m:Nat→Nat × Nat) (A:Nat→Prop) (z:Nat) (es:List (List AV)) (g off:Nat):Prop where
 wide:∀ (k:Nat) (e:List AV),es[k]?=some e→e.length=z
 cell:∀ (k:Nat) (e:List AV) (j:Nat) (x:AV),es[k]?=some e→e[j]?=some x→x.cell=true∧∃ u,w.cell? ⟨g,off+(k * z+j),none⟩=some u∧VR ψ w S m A x u
theorem RowsAt.load {z:Nat} {es:List (List AV)} {g off:Nat} (hr:RowsAt ψ w S m A z es g off) (hz:0 < z) {n:Nat} (hn:n≤es.length) :
 ∃ vs,(∀ w2:World,w2.heap=w.heap→(loadCells ⟨g,off,none⟩ (n * z)).run P w2=.ok vs w2)∧EsR ψ w S m A z (es.take n) vs:=by
 have key:∀ q,q < n * z→∃ u,w.cell? ⟨g,off+q,none⟩=some u:=by
  intro q hq
  have hk:q / z < n:=Nat.div_lt_of_lt_mul (by rw [Nat.mul_comm];exact hq)
  have hj:q % z < z:=Nat.mod_lt _ hz
  have he:es[q / z]?=some es[q / z]:=List.getElem?_eq_getElem (by omega)
  have hw:=hr.wide _ _ he
  obtain ⟨_,u,h2,_⟩:=hr.cell _ _ (q % z) _ he (List.getElem?_eq_getElem (by omega))
  rw [Nat.mul_comm,Nat.div_add_mod] at h2
  exact ⟨u,h2⟩
 refine ⟨((List.range (n * z)).map fun q=>(w.cell? ⟨g,off+q,none⟩).getD Go.undef).toArray,fun w2 hw2=>?_,?_,?_,?_⟩
 · refine run_loadCells w2 ⟨g,off,none⟩ (n * z) _ fun q hq=>?_
   obtain ⟨u,hu⟩:=key q hq
   rw [add_row,hu]
   have:w2.cell? ⟨g,off+q,none⟩=w.cell? ⟨g,off+q,none⟩:=World.cell?_of_block (by rw [hw2])
   rw [this,hu];rfl
 · simp;rw [Nat.min_eq_left hn]
 · intro k e he
   rw [List.getElem?_take] at he
   split at he
   · exact hr.wide k e he
   · cases he
 · intro k e j x he hx
   rw [List.getElem?_take] at he
   split at he
   · rename_i hk
     obtain ⟨h1,u,h2,h3⟩:=hr.cell k e j x he hx
     have hj:j < z:=by rw [← hr.wide k e he];exact (List.getElem?_eq_some_iff.1 hx).1
     have hlt:=row_lt hk hj
     refine ⟨h1,?_⟩
     rw [Array.getD_eq_getD_getElem?]
     simp only [List.getElem?_toArray,List.getElem?_map,List.getElem?_range hlt,Option.map_some,Option.getD_some,h2]
     exact h3
   · cases he
theorem Inv.rowsAt (i:Inv ψ N w0 w S m A h) {b z k len:Nat} {es:List (List AV)} {mu:Bool} (hb:get h b=some (.cells z es mu)) :
 (m b).2=z∧RowsAt ψ w S m A z ((es.drop k).take len) (m b).1 (k * z):=by
 obtain ⟨h0,h1,c,t,h2,h3,h4⟩:=i.obj b _ hb
 have get:∀ (q:Nat) (e:List AV),((es.drop k).take len)[q]?=some e→es[k+q]?=some e:=by
  intro q e he
  rw [List.getElem?_take] at he
  split at he
  · rwa [List.getElem?_drop] at he
  · cases he
 refine ⟨h0,fun q e he=>h1 _ e (get q e he),fun q e j x he hx=>?_⟩
 obtain ⟨h5,u,h6,h7⟩:=h4 _ e j x (get q e he) hx
 refine ⟨h5,u,?_,h7⟩
 rw [cell_of_row w _ _ c t _ h2,← h6]
 congr 1
 rw [Nat.add_mul]
 omega
theorem elems_run (i:Inv ψ N w0 w S m A h) {z:Nat} (hz:0 < z) {xv:AV} {c:Value} (hx:VR ψ w S m A xv c) {xs:List (List AV)} (he:elems h z xv=some xs) :
 (Builtin.lenOf c).run P w=.ok xs.length w∧∀ n,n≤xs.length→∃ vs,(∀ w2:World,w2.heap=w.heap→(Builtin.firstCells z n c).run P w2=.ok vs w2)∧EsR ψ w S m A z (xs.take n) vs:=by
 cases xv <;> simp only [elems] at he <;> try (cases he;done)
 · rename_i s
   split at he
   · rename_i hz1
     subst hz1
     cases he
     rw [hx.inv_str]
     have hsz:(⟨⟨s⟩⟩:ByteArray).size=s.length:=rfl
     refine ⟨by simp [Builtin.lenOf,hsz],fun n hn=>?_⟩
     rw [List.length_map] at hn
     refine ⟨((s.take n).map fun b=>Value.int .u8 b.toNat).toArray,fun w2 _=>?_,?_,?_,?_⟩
     · have hd:((⟨⟨s⟩⟩:ByteArray).extract 0 n).data=⟨s.take n⟩:=by
        rw [ByteArray.data_extract]
        apply Array.ext'
        simp [List.extract_eq_take_drop]
       simp only [Builtin.firstCells,hd,Sem.run_pure]
       congr 1
       apply Array.ext'
       simp
     · simp
     · intro k e he
       simp only [List.getElem?_take,List.getElem?_map] at he
       split at he
       · simp only [Option.map_eq_some_iff] at he
         obtain ⟨b,_,rfl⟩:=he
         rfl
       · cases he
     · intro k e j x he hx
       simp only [List.getElem?_take,List.getElem?_map] at he
       split at he
       · rename_i hk
         simp only [Option.map_eq_some_iff] at he
         obtain ⟨b,hb,rfl⟩:=he
         cases j with
         | succ j=>simp at hx
         | zero =>
          simp only [List.getElem?_cons_zero,Option.some.injEq] at hx
          subst hx
          refine ⟨rfl,?_⟩
          rw [Array.getD_eq_getD_getElem?]
          simp only [Nat.mul_one,Nat.add_zero,List.getElem?_toArray,List.getElem?_map,List.getElem?_take,if_pos hk,hb,Option.map_some,Option.getD_some]
          exact .int _ _
       · cases he
   · cases he
 · cases he
   rw [hx.inv_nils]
   refine ⟨by simp [Builtin.lenOf],fun n hn=>?_⟩
   simp only [List.length_nil,Nat.le_zero_eq] at hn
   subst hn
   exact ⟨#[],fun w2 _=>by simp [Builtin.firstCells],⟨by simp,by simp,by simp⟩⟩
 · rename_i z' es ex
   split at he
   · rename_i hzz
     subst hzz
     cases he
     rcases hx.inv_ro with ⟨b,off,cap,cs,e1,hS,hw,hcap,hex,hcell,hrep⟩ | ⟨rfl,ad,k,e1,_⟩
     case inr =>
      rw [e1]
      refine ⟨by simp [Builtin.lenOf],fun n hn=>?_⟩
      obtain rfl:n=0:=by simpa using hn
      exact ⟨#[],fun w2 _=>by simp [Builtin.firstCells,loadCells,loadCellsFrom],⟨by simp,by simp,by simp⟩⟩
     rw [e1]
     refine ⟨by simp [Builtin.lenOf],fun n hn=>?_⟩
     have hr:RowsAt ψ w S m A z' xs b off:=⟨hw,fun k e j x q1 q2=>by
      obtain ⟨q3,q4⟩:=hcell k e j x q1 q2
      exact ⟨q3,cs k j,by rw [← Nat.add_assoc];exact q4,(hrep k e j x q1 q2).open_⟩⟩
     obtain ⟨vs,q1,q2⟩:=hr.load (P:=P) hz hn
     exact ⟨vs,fun w2 hw2=>by simp only [Builtin.firstCells];exact q1 w2 hw2,q2⟩
   · cases he
 · rename_i b z' k len cap ex
   split at he
   · rename_i hzz
     subst hzz
     split at he
     · rename_i zb es mu hb
       split at he
       · rename_i hfit
         cases he
         obtain ⟨cc,e1,hA,hmz,_⟩:=hx.inv_sl
         obtain ⟨h0,hr⟩:=i.rowsAt (k:=k) (len:=len) hb
         have hzb:zb=z':=by rw [← h0,hmz]
         subst hzb
         have hl:((es.drop k).take len).length=len:=by simp;omega
         rw [e1]
         refine ⟨by simp [Builtin.lenOf,hl],fun n hn=>?_⟩
         obtain ⟨vs,q1,q2⟩:=hr.load (P:=P) hz hn
         exact ⟨vs,fun w2 hw2=>by simp only [Builtin.firstCells];exact q1 w2 hw2,q2⟩
       · cases he
     · cases he
   · cases he
theorem EsR.one {z:Nat} {es:List (List AV)} {vs:Array Value} (hr:EsR ψ w S m A z es vs):∀ u ∈ vs.toList,u.oneCell'=true:=by
 intro u hu
 obtain ⟨q,hq,e1⟩:=List.getElem_of_mem hu
 have hqs:q < vs.size:=by simpa using hq
 have hsz:=hr.size
 by_cases hz:z=0
 · subst hz;rw [Nat.mul_zero] at hsz;omega
 · have hk:q / z < es.length:=Nat.div_lt_of_lt_mul (by rw [Nat.mul_comm,← hsz];exact hqs)
   have hj:q % z < z:=Nat.mod_lt _ (Nat.pos_of_ne_zero hz)
   have he:es[q / z]?=some es[q / z]:=List.getElem?_eq_getElem hk
   have hw:=hr.wide _ _ he
   obtain ⟨h1,h2⟩:=hr.cell _ _ (q % z) _ he (List.getElem?_eq_getElem (by omega))
   have h3:=h2.one h1
   rw [Nat.mul_comm,Nat.div_add_mod] at h3
   have:vs.getD q Go.undef=u:=by simp only [Array.getD,hqs,dif_pos];simpa using e1
   rwa [this] at h3
theorem Snd.overwrite {x:Sem Next} (i:Inv ψ N w0 w S m A h) {b z k:Nat} {es xs:List (List AV)} (hb:get h b=some (.cells z es true)) (hk:k+xs.length≤es.length) {vs:Array Value} (hx:EsR ψ w S m A z xs vs)
 {cv:Value} {v:AV}
 (hr:∀ (c:Array Value) (t:TypeId),w.heap[(m b).1]?=some (.cells c t (0,0))→es.length * z≤c.size →
  x.run P w=.ok (.value cv) (w.setRow (m b).1 (c.toList.take (k * z)++vs.toList++c.toList.drop (k * z+vs.toList.length)).toArray))
 (hv:∀ {w':World},Le w S m A w' S m A→VR ψ w' S m A v cv) (nid:Nat) :
 Snd P ψ N w0 w S m A x (put h b (.cells z (es.take k++(xs++es.drop (k+xs.length))) true)) v nid:=by
 obtain ⟨h0,h1,_⟩:=i.obj b _ hb
 have hvl:vs.toList.length=xs.length * z:=by simp [hx.size]
 have hmul:=Nat.mul_le_mul_right z hk
 rw [Nat.add_mul] at hmul
 have get:∀ (q:Nat) (e:List AV),(es.take k++(xs++es.drop (k+xs.length)))[q]?=some e→(q < k∧es[q]?=some e)∨(k≤q∧q < k+xs.length∧xs[q - k]?=some e)∨(k+xs.length≤q∧es[q]?=some e):=by
  intro q e he
  simp only [List.getElem?_append,List.length_take,List.getElem?_take,List.getElem?_drop] at he
  have hm:min k es.length=k:=by omega
  rw [hm] at he
  by_cases q1:q < k
  · rw [if_pos q1,if_pos q1] at he;exact .inl ⟨q1,he⟩
  · rw [if_neg q1] at he
    by_cases q2:q - k < xs.length
    · rw [if_pos q2] at he;exact .inr (.inl ⟨by omega,by omega,he⟩)
    · rw [if_neg q2] at he
      right;right
      refine ⟨by omega,?_⟩
      rwa [show k+xs.length+(q - k - xs.length)=q by omega] at he
 refine Snd.write (z:=z) (p:=k * z) (vs:=vs.toList) i hb (by omega) (fun c t hc hsz=>.inl (hr c t hc hsz)) ?_ (fun q e he=>?_) (fun q e j y he hy=>?_) hv nid
 · simp;omega
 · rcases get q e he with ⟨_,q2⟩ | ⟨_,_,q2⟩ | ⟨_,q2⟩
   · exact h1 _ e q2
   · exact hx.wide _ e q2
   · exact h1 _ e q2
 · rcases get q e he with ⟨q1,q2⟩ | ⟨q1,q1',q2⟩ | ⟨q1,q2⟩
   · right
     have hj:j < z:=by rw [← h1 q e q2];exact (List.getElem?_eq_some_iff.1 hy).1
     have:=row_lt q1 hj
     exact ⟨by omega,e,q2,hy⟩
   · left
     obtain ⟨c1,u,c2,c3⟩:=hx.at_ q2 hy
     have hj:j < z:=by rw [← hx.wide _ e q2];exact (List.getElem?_eq_some_iff.1 hy).1
     have hlt:=row_lt (show q - k < xs.length by omega) hj
     have e2:q * z=k * z+(q - k) * z:=by rw [← Nat.add_mul];congr 1;omega
     refine ⟨by omega,by omega,c1,u,?_,c3⟩
     rw [show q * z+j - k * z=(q - k) * z+j by omega,Array.getElem?_toList]
     exact c2
   · right
     have:=Nat.mul_le_mul_right z q1
     rw [Nat.add_mul] at this
     exact ⟨by omega,e,q2,hy⟩
end
end Go.Pav
end
section
set_option linter.unusedSimpArgs false
set_option linter.unusedVariables false
set_option linter.unusedSimpArgs false
namespace Go.Pav
open Go
section
variable {P:Program} {φ:FuncId→Option Nat} {ψ:Psi} {N:Nat} {w0 w:World} {S:Nat→Prop} {m:Nat→Nat × Nat} {A:Nat→Prop} {h:Heap} {e:Env} {a:Act} {o:Oper}
structure Src (P:Program) (w:World) (t u ty el:TypeId) (i:TypeInfo) (z:Nat) (zv:Value) (x:Value) (n:Nat) (news:Array Value):Prop where
 room:∀ (base:Option Addr) (sLen sCap:Nat),sLen+n≤sCap→(Builtin.append_ #[t,u] ty #[.slice base sLen sCap,x]).run P w =
  (match base with | some ad=>((storeCells (ad.add (sLen * z)) news.toList).run P w).andThen fun _ w'=>.ok (.slice base (sLen+n) sCap) w' | none=>.ok (.slice base (sLen+n) sCap) w)
 grow:∀ (base:Option Addr) (sLen sCap:Nat) (olds:Array Value),¬ sLen+n≤sCap→(sLen+n) * (i.bytes+1)≤maxBytes→i.bytes≠0 →
  (∀ w2:World,w2.heap=w.heap→(Builtin.firstCells z sLen (.slice base sLen sCap)).run P w2=.ok olds w2) →
  (Builtin.append_ #[t,u] ty #[.slice base sLen sCap,x]).run P w=.ok (.slice (some ⟨w.heap.size,0,none⟩) (sLen+n) (grownCap w (sLen+n) sCap el))
   (w.drew.alloc (.cells (olds++news++Builtin.zeroCells zv.cells (grownCap w (sLen+n) sCap el - (sLen+n))) el))
theorem small_need {n b:Nat} (hn:n * (b+1)≤maxBytes):n≤maxBytes∧n * b≤140737488355328:=by
 have h1:n≤n * (b+1):=Nat.le_mul_of_pos_right n (Nat.succ_pos b)
 have h2:n * b≤n * (b+1):=Nat.mul_le_mul_left n (Nat.le_succ b)
 simp only [maxBytes] at hn ⊢
 omega
theorem src_plain {t u ty el:TypeId} {i:TypeInfo} {z:Nat} {zv x:Value} {n:Nat} {news:Array Value} {du:TypeDesc} (ht:P.underlying t=some (.slice el)) (hu:P.underlying u=some du) (hdu:∀ k,du≠.int k)
 (hi:P.info? el=some i) (hz:i.size=z) (hzv:i.zero=some zv) (hl:(Builtin.lenOf x).run P w=.ok n w) (hf:∀ w2:World,w2.heap=w.heap→(Builtin.firstCells z n x).run P w2=.ok news w2) :
 Src P w t u ty el i z zv x n news:=by
 have hno:(du matches .int _)=false:=by cases du <;> first | rfl | exact absurd rfl (hdu _)
 constructor
 · intro base sLen sCap hroom
   have hf0:=hf w rfl
   unfold Builtin.append_
   simp only [List.getElem?_toArray,List.getElem?_cons_zero,List.getElem?_cons_succ,Sem.run_bind,run_underlying ht,run_underlying hu,Result.andThen_ok,sizeOf,typeInfo,run_program,hi,Sem.run_pure,hz,hno,Bool.false_eq_true,if_false,hl,Bool.not_false,if_true]
   rw [if_pos hroom]
   cases base with
   | none=>simp [hf0]
   | some ad=>simp [hf0]
 · intro base sLen sCap olds hroom hb hb0 hold
   obtain ⟨s1,s2⟩:=small_need hb
   have h63:¬ (((sLen+n:Nat):Int) > IntKind.i64.max∧(false=true∨i.bytes=0)):=by simp [hb0]
   have h48:¬ (Builtin.nextslicecap (sLen+n) sCap * i.bytes > 2 ^ 48):=by
    have:=growslice_fits (need:=sLen+n) (old:=sCap) (bytes:=i.bytes) (by omega) s2
    omega
   have hd1:=hf w.drew rfl
   have hd2:=hold w.drew rfl
   unfold Builtin.append_
   simp only [List.getElem?_toArray,List.getElem?_cons_zero,List.getElem?_cons_succ,Sem.run_bind,run_underlying ht,run_underlying hu,Result.andThen_ok,sizeOf,typeInfo,run_program,hi,Sem.run_pure,hz,hno,Bool.false_eq_true,if_false,hl,Bool.not_false,if_true]
   rw [if_neg hroom]
   have h63':¬ (((sLen+n:Nat):Int) > IntKind.i64.max∧i.bytes=0):=by simp [hb0]
   simp only [Bool.false_eq_true,false_or,h63',if_false,Sem.run_bind,Sem.run_pure,Result.andThen_ok,run_program,hi,h48,run_choose,Question.forced,run_askRoom]
   simp [hd1,hd2,zeroValue,typeInfo,hi,hzv,grownCap,Go.newRow]
theorem zeroCells_EsR {z:List AV} {zc:Array Value} (h1:zc.size=z.length) (h3:∀ (j:Nat) (x:AV),z[j]?=some x→x.cell=true)
 (h4:∀ (j:Nat) (x:AV),z[j]?=some x→VR ψ w S m A x (zc.getD j Go.undef)) (n:Nat):EsR ψ w S m A z.length (List.replicate n z) (Builtin.zeroCells zc n):=by
 have:=zeros_EsR h1 h3 h4 n
 unfold Builtin.zeroCells
 rw [h1]
 rw [h1] at this
 exact this
theorem src_zeros {t u ty el:TypeId} {i:TypeInfo} {z:Nat} {zv:Value} {n:Nat} {k k':IntKind} (ht:P.underlying t=some (.slice el)) (hu:P.underlying u=some (.int k'))
 (hi:P.info? el=some i) (hz:i.size=z) (hz0:z≠0) (hzv:i.zero=some zv) (_hsz:zv.cells.size=z) (hb:n * (i.bytes+1)≤maxBytes) :
 Src P w t u ty el i z zv (.int k n) n (Builtin.zeroCells zv.cells n):=by
 obtain ⟨s1,s2⟩:=small_need hb
 have hw:=wrap_i64 s1
 have hbig:¬ ((n:Int) * (i.bytes:Int) > 2 ^ 48):=by
  have h3:((n * i.bytes:Nat):Int)≤140737488355328:=by omega
  rw [Int.natCast_mul] at h3
  omega
 have hap:∀ w2:World,(if n * z=0 then pure #[] else do pure (Builtin.zeroCells (← zeroValue el).cells n):Sem (Array Value)).run P w2=.ok (Builtin.zeroCells zv.cells n) w2:=by
  intro w2
  by_cases h0:n * z=0
  · have hn0:n=0:=by rcases Nat.mul_eq_zero.1 h0 with h | h;exact h;exact absurd h hz0
    rw [if_pos h0,hn0]
    simp only [Sem.run_pure]
    congr 1
    apply Array.ext'
    simp [Builtin.zeroCells]
  · rw [if_neg h0]
    simp [zeroValue,typeInfo,hi,hzv]
 constructor
 · intro base sLen sCap hroom
   have hap0:=hap w
   unfold Builtin.append_
   simp only [List.getElem?_toArray,List.getElem?_cons_zero,List.getElem?_cons_succ,Sem.run_bind,run_underlying ht,run_underlying hu,Result.andThen_ok,sizeOf,typeInfo,run_program,hi,Sem.run_pure,hz,if_true,asInt,asIntOf,hw]
   rw [if_neg (show ¬ ((n:Int) < 0) by omega)]
   simp only [Sem.run_bind,Sem.run_pure,run_program,Result.andThen_ok,hi]
   rw [if_neg hbig]
   simp only [Sem.run_bind,Sem.run_pure,Result.andThen_ok,Int.toNat_natCast,Bool.not_true,Bool.false_eq_true,if_false]
   rw [if_pos hroom]
   simp only [Sem.run_bind,hap0,Result.andThen_ok]
   cases base with
   | none=>simp
   | some ad=>simp
 · intro base sLen sCap olds hroom hb hb0 hold
   obtain ⟨s1,s2⟩:=small_need hb
   have h48:¬ (Builtin.nextslicecap (sLen+n) sCap * i.bytes > 2 ^ 48):=by
    have:=growslice_fits (need:=sLen+n) (old:=sCap) (bytes:=i.bytes) (by omega) s2
    omega
   have h63:¬ (((sLen+n:Nat):Int) > IntKind.i64.max):=by
    rw [IntKind.max_i64]
    simp only [maxBytes] at s1
    omega
   have hd1:=hap w.drew
   have hd2:=hold w.drew rfl
   unfold Builtin.append_
   simp only [List.getElem?_toArray,List.getElem?_cons_zero,List.getElem?_cons_succ,Sem.run_bind,run_underlying ht,run_underlying hu,Result.andThen_ok,sizeOf,typeInfo,run_program,hi,Sem.run_pure,hz,if_true,asInt,asIntOf,hw]
   rw [if_neg (show ¬ ((n:Int) < 0) by omega)]
   simp only [Sem.run_bind,Sem.run_pure,run_program,Result.andThen_ok,hi]
   rw [if_neg hbig]
   simp only [Sem.run_bind,Sem.run_pure,Result.andThen_ok,Int.toNat_natCast,Bool.not_true,Bool.false_eq_true,if_false]
   rw [if_neg hroom]
   simp only [h63,false_and,if_false,Sem.run_bind,Sem.run_pure,Result.andThen_ok,run_program,hi,h48,run_choose,Question.forced,run_askRoom,Bool.false_eq_true]
   have hd1':(if n * z=0 then pure #[] else do pure (Builtin.zeroCells (← zeroValue el).cells n):Sem (Array Value)).run P { w with drawn:=w.drawn+1 }=.ok (Builtin.zeroCells zv.cells n) w.drew:=hd1
   have hd2':(Builtin.firstCells z sLen (.slice base sLen sCap)).run P { w with drawn:=w.drawn+1 }=.ok olds w.drew:=hd2
   simp only [hd2',Result.andThen_ok,hd1]
   simp [zeroValue,typeInfo,hi,hzv,grownCap,Go.newRow]
theorem EsR.append {z:Nat} {es fs:List (List AV)} {vs us:Array Value} (_hz:0 < z) (h1:EsR ψ w S m A z es vs) (h2:EsR ψ w S m A z fs us):EsR ψ w S m A z (es++fs) (vs++us):=by
 have get:∀ (k:Nat) (e:List AV),(es++fs)[k]?=some e→(k < es.length∧es[k]?=some e)∨(es.length≤k∧fs[k - es.length]?=some e):=by
  intro k e he
  rw [List.getElem?_append] at he
  split at he
  · rename_i hk;exact .inl ⟨hk,he⟩
  · rename_i hk;exact .inr ⟨by omega,he⟩
 refine ⟨by simp [h1.size,h2.size,Nat.add_mul],fun k e he=>?_,fun k e j x he hx=>?_⟩
 · rcases get k e he with ⟨_,q⟩ | ⟨_,q⟩
   · exact h1.wide _ e q
   · exact h2.wide _ e q
 · rcases get k e he with ⟨q1,q2⟩ | ⟨q1,q2⟩
   · obtain ⟨c1,u,c2,c3⟩:=h1.at_ q2 hx
     refine ⟨c1,?_⟩
     have hlt:=(Array.getElem?_eq_some_iff.1 c2).1
     rw [Array.getD_eq_getD_getElem?,Array.getElem?_append_left hlt,c2]
     exact c3
   · obtain ⟨c1,u,c2,c3⟩:=h2.at_ q2 hx
     refine ⟨c1,?_⟩
     have e2:k * z=es.length * z+(k - es.length) * z:=by rw [← Nat.add_mul];congr 1;omega
     rw [Array.getD_eq_getD_getElem?,Array.getElem?_append_right (by rw [h1.size];omega)]
     rw [show k * z+j - vs.size=(k - es.length) * z+j by rw [h1.size];omega,c2]
     exact c3
theorem Snd.grown {x:Sem Next} (i:Inv ψ N w0 w S m A h) {nid:Nat} (hn:¬ A nid) {need cap z:Nat} {es:List (List AV)} {vs:Array Value} {el:TypeId} {zc:Array Value}
 (hr:x.run P w=.ok (.value (.slice (some ⟨w.heap.size,0,none⟩) need cap)) (w.drew.alloc (.cells (vs++Builtin.zeroCells zc (cap - need)) el)))
 (he:EsR ψ w S m A z es vs) (hl:es.length=need) (hcap:need≤cap) (hzc:zc.size=z) :
 Snd P ψ N w0 w S m A x (put h nid (.cells z es true)) (.sl nid z 0 need need false) nid:=by
 refine Snd.newSl (w':=w.drew.alloc (.cells (vs++Builtin.zeroCells zc (cap - need)) el)) (c:=vs++Builtin.zeroCells zc (cap - need)) (t:=el) (cs:=vs) i hn hr rfl rfl rfl he (fun q hq=>?_) (by simp) rfl hcap hcap (fun hx=>by cases hx) ?_
 · rw [Array.getElem?_append_left hq]
 · rw [Array.size_append,size_zeroCells,he.size,hl,hzc,← Nat.add_mul]
   exact Nat.mul_le_mul_right z (by omega)
theorem app_own (i:Inv ψ N w0 w S m A h) {nid:Nat} (hn:¬ A nid) {t u ty el:TypeId} {it:TypeInfo} {zv:Value} {z:Nat} (hz0:0 < z) (hzv:zv.cells.size=z) (hb0:it.bytes≠0) {x:Sem Next} {cs cx:Value} {xs:List (List AV)} {news:Array Value}
 (hx:∀ w' v,(Builtin.append_ #[t,u] ty #[cs,cx]).run P w=.ok v w'→x.run P w=.ok (.value v) w')
 (src:Src P w t u ty el it z zv cx xs.length news) (hnews:EsR ψ w S m A z xs news) {b cap:Nat} {es:List (List AV)} (hs:VR ψ w S m A (.sl b z 0 es.length cap false) cs) (hb:get h b=some (.cells z es true))
 (hbb:(es.length+xs.length) * (it.bytes+1)≤maxBytes) :
 Snd P ψ N w0 w S m A x (put (Pav.del h b) nid (.cells z (es++xs) true)) (.sl nid z 0 (es.length+xs.length) (es.length+xs.length) false) nid:=by
 have hone:=hnews.one
 obtain ⟨cc,e1,hA,hmz,hlen,hcap,hex,cur,tt,fr,hrow,hsz⟩:=hs.inv_sl
 subst e1
 have hlive:=i.live b _ hb rfl
 obtain ⟨h0,h1,c,tc,h2,h3,h4⟩:=i.obj b _ hb
 by_cases hroom:es.length+xs.length≤cc
 · -- in place
   have heq:=h2.symm.trans hrow
   simp only [Option.some.injEq,Obj.cells.injEq] at heq
   rw [← heq.1,Nat.zero_add] at hsz
   have hmul:=Nat.mul_le_mul_right z hroom
   rw [Nat.add_mul,← hnews.size] at hmul
   have hfit:es.length * z+news.toList.length≤c.size:=by simp;omega
   have hst:=run_storeCells_at P (m b).1 (0 * z+es.length * z) tc news.toList 0 c w h2 (by simp;omega) hone
   simp only [Nat.zero_mul,Nat.zero_add,Nat.add_zero] at hst
   have hrun:=src.room (some ⟨(m b).1,0 * z,none⟩) es.length cc hroom
   simp only [add_row,Nat.zero_mul,Nat.zero_add,hst,Result.andThen_ok] at hrun
   have hrow2:∀ c' t' fr,w.heap[(m b).1]?=some (.cells c' t' fr)→∃ c'',(w.setRow (m b).1 (c.toList.take (es.length * z)++news.toList++c.toList.drop (es.length * z+news.toList.length)).toArray).heap[(m b).1]?=some (.cells c'' t' fr)∧c''.size=c'.size:=by
    intro c' t' fr hc'
    rw [h2] at hc'
    cases hc'
    exact ⟨_,setRow_heap w _ c _ tc (0,0) h2,seg_size hfit⟩
   have le:=Le.adopt (m:=m) (A:=A) (nid:=nid) hlive.1 (fun k hk=>setRow_other w _ k _ hk) (setRow_size w _ _) hrow2 hn ((m b).1,z)
   have hnew:(w.setRow (m b).1 (c.toList.take (es.length * z)++news.toList++c.toList.drop (es.length * z+news.toList.length)).toArray).heap[(m b).1]?=some (.cells (c.toList.take (es.length * z)++news.toList++c.toList.drop (es.length * z+news.toList.length)).toArray tc (0,0)):=setRow_heap w _ c _ tc (0,0) h2
   refine ⟨_,_,S,updM m nid ((m b).1,z),addA A nid,.inl (hx _ _ (by rw [Nat.zero_mul];exact hrun)),?_,i.adopt hb rfl rfl hn z (fun k hk=>setRow_other w _ k _ hk) (setRow_size w _ _) rfl rfl hrow2 ?_,le,fun _ _ hs=>hs,fun _ q=>q⟩
   · have:=VR.sl (ψ:=ψ) (w:=w.setRow (m b).1 (c.toList.take (es.length * z)++news.toList++c.toList.drop (es.length * z+news.toList.length)).toArray) (S:=S) (m:=updM m nid ((m b).1,z)) (A:=addA A nid) nid z 0 (es.length+xs.length) (es.length+xs.length) false cc (.inr rfl) (by simp [updM]) hroom hroom (fun q=>by cases q)
      ⟨_,tc,(0,0),by simp only [updM,if_true];exact hnew,by rw [seg_size hfit,Nat.zero_add];exact hsz⟩
     simpa [updM] using this
   · have hnl:news.toList.length=xs.length * z:=by simp [hnews.size]
     refine ⟨rfl,fun q e he=>?_,_,tc,hnew,?_,fun q e j y he hy=>?_⟩
     · rw [List.getElem?_append] at he
       split at he
       · exact h1 q e he
       · exact hnews.wide _ e he
     · rw [seg_size hfit,List.length_append,Nat.add_mul];omega
     · rw [List.getElem?_append] at he
       split at he
       · rename_i hq
         obtain ⟨c1,u',c2,c3⟩:=h4 q e j y he hy
         have hj:j < z:=by rw [← h1 q e he];exact (List.getElem?_eq_some_iff.1 hy).1
         have hlt:=row_lt hq hj
         exact ⟨c1,u',by rw [seg_get hfit,if_neg (by omega)];exact c2,c3.mono le⟩
       · rename_i hq
         obtain ⟨c1,u',c2,c3⟩:=hnews.at_ he hy
         have hlt:=(Array.getElem?_eq_some_iff.1 c2).1
         rw [hnews.size] at hlt
         have e2:q * z=es.length * z+(q - es.length) * z:=by rw [← Nat.add_mul];congr 1;omega
         refine ⟨c1,u',?_,c3.mono le⟩
         rw [seg_get hfit,if_pos (by omega),show q * z+j - es.length * z=(q - es.length) * z+j by omega,Array.getElem?_toList]
         exact c2
 · -- a new block
   obtain ⟨_,hr0⟩:=i.rowsAt (k:=0) (len:=es.length) hb
   have hl:(es.drop 0).take es.length=es:=by simp
   rw [hl] at hr0
   obtain ⟨vs,q1,q2⟩:=hr0.load (P:=P) hz0 (Nat.le_refl _)
   rw [List.take_of_length_le (Nat.le_refl _)] at q2
   have hr:=src.grow (some ⟨(m b).1,0 * z,none⟩) es.length cc vs hroom hbb hb0 (fun w2 hw2=>by simp only [Builtin.firstCells];exact q1 w2 hw2)
   exact Snd.grown (i.del b) hn (hx _ _ hr) (q2.append hz0 hnews) (by simp) (grownCap_ge ..) hzv
theorem app_run (i:Inv ψ N w0 w S m A h) {nid:Nat} (hn:¬ A nid) {t u ty el:TypeId} {it:TypeInfo} {zv:Value} {z:Nat} (hz0:0 < z) (hzv:zv.cells.size=z) (hb0:it.bytes≠0) {x:Sem Next} {cs cx:Value} {sv:AV} {xs:List (List AV)} {news:Array Value}
 (hx:∀ w' v,(Builtin.append_ #[t,u] ty #[cs,cx]).run P w=.ok v w'→x.run P w=.ok (.value v) w')
 (src:Src P w t u ty el it z zv cx xs.length news) (hnews:EsR ψ w S m A z xs news) (hs:VR ψ w S m A sv cs) {v:AV} {up:Upd} (hv:evApp h nid z it.bytes sv xs=some (v,up)) :
 Snd P ψ N w0 w S m A x (applyUpd h up) v nid:=by
 cases sv <;> simp only [evApp] at hv <;> try (cases hv;done)
 · -- nil
   have e1:=hs.inv_nils
   subst e1
   cases xs with
   | nil =>
    simp only at hv
    cases hv
    refine Snd.quiet i (hx _ _ ?_) .nils nid
    rw [src.room none 0 0 (by simp)]
    simp
   | cons x0 xr =>
    simp only [Pav.newRow] at hv
    split at hv
    · rename_i hb
      cases hv
      have hr:=src.grow none 0 0 #[] (by simp) (by rw [Nat.zero_add];exact hb) hb0 (fun w2 _=>by simp [Builtin.firstCells])
      rw [Nat.zero_add,Array.empty_append] at hr
      exact Snd.grown i hn (hx _ _ hr) hnews rfl (grownCap_ge ..) hzv
    · cases hv
 · -- read-only
   rename_i z' es ex
   split at hv
   · rename_i hzz
     subst hzz
     rcases hs.inv_ro with ⟨b,off,cap,f,e1,hS,hw,hcap,hex,hcell,hrep⟩ | ⟨rfl,ad,kk,e1,hkk⟩
     case inr =>
      subst e1
      cases xs with
      | nil =>
       simp only at hv
       cases hv
       have hnil:news=#[]:=by have:=hnews.size;simp at this;exact this
       subst hnil
       refine Snd.quiet i (hx _ _ ?_) hs nid
       rw [src.room (some ad) 0 kk (by simp)]
       simp [storeCells]
      | cons x0 xr =>
       simp only at hv
       split at hv
       · rename_i hex'
         obtain rfl:=hkk hex'
         simp only [Pav.newRow] at hv
         split at hv
         · rename_i hb
           simp only [List.length_nil,Nat.zero_add,List.nil_append] at hv hb
           cases hv
           have hr:=src.grow (some ad) 0 0 #[] (by simp) (by rw [Nat.zero_add];exact hb) hb0 (fun w2 _=>by simp [Builtin.firstCells,loadCells,loadCellsFrom])
           rw [Nat.zero_add,Array.empty_append] at hr
           exact Snd.grown i hn (hx _ _ hr) hnews rfl (grownCap_ge ..) hzv
         · cases hv
       · cases hv
     subst e1
     cases xs with
     | nil =>
      simp only at hv
      cases hv
      have hnil:news=#[]:=by have:=hnews.size;simp at this;exact this
      subst hnil
      refine Snd.quiet i (hx _ _ ?_) hs nid
      rw [src.room _ _ _ (by simp;exact hcap)]
      simp [storeCells]
     | cons x0 xr =>
      simp only at hv
      split at hv
      · rename_i hext
        simp only [Pav.newRow] at hv
        split at hv
        · rename_i hb
          cases hv
          have hce:=hex hext
          subst hce
          have hr0:RowsAt ψ w S m A z' es b off:=⟨hw,fun k e j y q1 q2=>by
           obtain ⟨q3,q4⟩:=hcell k e j y q1 q2
           exact ⟨q3,f k j,by rw [← Nat.add_assoc];exact q4,(hrep k e j y q1 q2).open_⟩⟩
          obtain ⟨vs,q1,q2⟩:=hr0.load (P:=P) hz0 (Nat.le_refl _)
          rw [List.take_of_length_le (Nat.le_refl _)] at q2
          have hr:=src.grow (some ⟨b,off,none⟩) es.length es.length vs (by simp) hb hb0 (fun w2 hw2=>by simp only [Builtin.firstCells];exact q1 w2 hw2)
          exact Snd.grown i hn (hx _ _ hr) (q2.append hz0 hnews) (by simp) (grownCap_ge ..) hzv
        · cases hv
      · cases hv
   · cases hv
 · -- the frame's own
   rename_i b z' k len cap ex
   split at hv
   · rename_i hzz
     subst hzz
     obtain ⟨cc,e1,hA,hmz,hlen,hcap,hex,cur,tt,fr,hrow,hsz⟩:=hs.inv_sl
     subst e1
     cases xs with
     | nil =>
      simp only at hv
      cases hv
      have hnil:news=#[]:=by have:=hnews.size;simp at this;exact this
      subst hnil
      refine Snd.quiet i (hx _ _ ?_) hs nid
      rw [src.room _ _ _ (by simp;exact hlen)]
      simp [storeCells]
     | cons x0 xr =>
      simp only [appSl] at hv
      split at hv
      · rename_i zb es mu hb
        split at hv
        · rename_i hzb
          subst hzb
          have hone:=hnews.one
          have hxl:(x0::xr).length=xr.length+1:=rfl
          split at hv
          · rename_i hle
            split at hv
            · rename_i hc
              obtain ⟨rfl,hfit⟩:=hc
              cases hv
              have hkl:k+len+(x0::xr).length≤es.length:=by omega
              have key:=Snd.overwrite (P:=P) (x:=x) (k:=k+len) i hb hkl hnews (cv:=.slice (some ⟨(m b).1,k * zb,none⟩) (len+(x0::xr).length) cc) (v:=.sl b zb k (len+(x0::xr).length) cap ex) (fun c t' hc hsz'=>?_) (fun le=>?_) nid
              · rw [show k+(len+(x0::xr).length)=k+len+(x0::xr).length by omega]
                exact key
              · refine hx _ _ ?_
                rw [src.room _ _ _ (by omega)]
                have hmul:=Nat.mul_le_mul_right zb hkl
                rw [Nat.add_mul,Nat.add_mul,← hnews.size] at hmul
                have hst:=run_storeCells_at P (m b).1 (k * zb+len * zb) t' news.toList 0 c w hc (by simp;omega) hone
                simp only [Nat.add_zero] at hst
                rw [Nat.add_mul]
                simp only [add_row,hst,Result.andThen_ok]
              · have:=hs.mono le
                obtain ⟨cc',e2,q1,q2,q3,q4,q5,q6⟩:=this.inv_sl
                cases e2
                exact .sl b zb k _ cap ex cc q1 q2 (by omega) q4 q5 q6
            · cases hv
          · rename_i hgt
            split at hv
            · rename_i hext
              split at hv
              · rename_i hfit
                simp only [Pav.newRow] at hv
                split at hv
                · rename_i hbb
                  cases hv
                  have hce:=hex hext
                  obtain ⟨_,hr0⟩:=i.rowsAt (k:=k) (len:=len) hb
                  have hl:((es.drop k).take len).length=len:=by simp;omega
                  obtain ⟨vs,q1,q2⟩:=hr0.load (P:=P) hz0 (n:=len) (by omega)
                  rw [List.take_of_length_le (by omega)] at q2
                  have hr:=src.grow (some ⟨(m b).1,k * zb,none⟩) len cc vs (by omega) hbb hb0 (fun w2 hw2=>by simp only [Builtin.firstCells];exact q1 w2 hw2)
                  exact Snd.grown i hn (hx _ _ hr) (q2.append hz0 hnews) (by simp;omega) (grownCap_ge ..) hzv
                · cases hv
              · cases hv
            · rename_i hnex
              split at hv
              · rename_i hc
                obtain ⟨rfl,rfl,hel,hbb⟩:=hc
                subst hel
                cases hv
                have hexf:ex=false:=by simpa using hnex
                subst hexf
                exact app_own i hn hz0 hzv hb0 hx src hnews hs hb hbb
              · cases hv
        · cases hv
      · cases hv
   · cases hv
theorem cpy_ok (cx:Cx P φ ψ N w0 w S m A h e a) {c:Call} (ho:o.op=.call c) (hb:c.callee=.builtin .copy):Ok P φ ψ N w0 w S m A h e a o:=by
 intro cop v up nid hc hs hn
 rw [ho] at hc
 simp only [cOp,hb,cBuiltin] at hc
 unfold cCopy at hc
 split at hc
 · rename_i D X t u hargs htys
   simp only [Option.bind_eq_bind,Option.bind_eq_some_iff] at hc
   obtain ⟨dd,hdx,x,hx,d,hd,hc⟩:=hc
   have hD:=cx.opd hdx
   have hX:=cx.opd hx
   have ea:=arr2 hargs
   have et:=arr2 htys
   have hex:∀ w' v,(Builtin.copy_ #[t,u] o.type #[a.eval D,a.eval X]).run P w=.ok v w'→(execOp a.eval o).run P w=.ok (.value v) w':=by
    intro w' v hr
    rw [call_builtin (s:=Builtin.copy_ #[t,u] o.type #[a.eval D,a.eval X]) ho hb (fun _=>by rw [ea,et];simp [builtin])]
    simp [hr]
   split at hc
   · rename_i el
     simp only [Option.bind_eq_some_iff] at hc
     obtain ⟨z,hz,hc⟩:=hc
     split at hc
     · cases hc
     · rename_i hz0
       cases hc
       simp only [stepOp,sCpy] at hs
       obtain ⟨xs,hxs,hs'⟩:=ob_some hs
       replace hs:=hs';clear hs'
       obtain ⟨q1,q2⟩:=elems_run (P:=P) cx.inv (Nat.pos_of_ne_zero hz0) hX hxs
       have run:∀ base dLen dCap news n,n=Nat.min xs.length dLen→a.eval D=.slice base dLen dCap→(∀ w2:World,w2.heap=w.heap→(Builtin.firstCells z n (a.eval X)).run P w2=.ok news w2) →
        (Builtin.copy_ #[t,u] o.type #[a.eval D,a.eval X]).run P w=(match base with | some ad=>((storeCells ad news.toList).run P w).andThen fun _ w'=>.ok (.int .i64 (n:Int)) w' | none=>.ok (.int .i64 (n:Int)) w):=by
        intro base dLen dCap news n hn e1 hf
        have hf0:=hf w rfl
        rw [e1]
        unfold Builtin.copy_
        simp only [List.getElem?_toArray,List.getElem?_cons_zero,List.getElem?_cons_succ,Sem.run_bind,run_underlying hd,Result.andThen_ok,q1,sizeOf_run hz]
        rw [← hn]
        clear hn
        cases base
        · simp only [Sem.run_bind,hf0,Result.andThen_ok,Sem.run_pure];rfl
        · simp only [Sem.run_bind,hf0,Result.andThen_ok,Sem.run_pure];rfl
       cases hxv:dd.ev e <;> rw [hxv] at hs hD <;> simp only [copyIn] at hs <;> try (cases hs;done)
       · cases hs
         have e1:=hD.inv_nils
         obtain ⟨news,q3,q4⟩:=q2 (min xs.length 0) (Nat.min_le_left _ _)
         have hr:=run none 0 0 news 0 (by simp) e1 (by simpa using q3)
         exact Snd.quiet cx.inv (hex _ _ hr) (.int _ _) nid
       · rename_i z' es ex
         cases es with
         | cons _ _=>cases hs
         | nil =>
          cases hs
          obtain ⟨ad,cap,e1⟩:∃ (ad:Addr) (cap:Nat),_=Value.slice (some ad) 0 cap:=by
           rcases hD.inv_ro with ⟨b,off,cap,_,e1,_⟩ | ⟨_,ad,_,e1,_⟩
           · exact ⟨_,_,e1⟩
           · exact ⟨_,_,e1⟩
          obtain ⟨news,q3,q4⟩:=q2 (min xs.length 0) (Nat.min_le_left _ _)
          have hr:=run _ _ _ news 0 (by simp) e1 (by simpa using q3)
          have hnil:news=#[]:=by have:=q4.size;simp at this;exact this
          subst hnil
          simp only [storeCells,Sem.run_pure,Result.andThen_ok] at hr
          exact Snd.quiet cx.inv (hex _ _ hr) (.int _ _) nid
       · rename_i b z' k len cap ex
         split at hs
         · rename_i hzz
           subst hzz
           obtain ⟨cc,e1,hA,hmz,_⟩:=hD.inv_sl
           obtain ⟨news,q3,q4⟩:=q2 (min xs.length len) (Nat.min_le_left _ _)
           have hr:=run _ _ _ news _ rfl e1 q3
           simp only at hr
           rw [show Nat.min xs.length len=min xs.length len from rfl] at hr
           split at hs
           · rename_i h0
             cases hs
             rw [h0] at q4
             have hnil:news=#[]:=by have:=q4.size;simp at this;exact this
             subst hnil
             rw [h0] at hr
             simp only [storeCells,Sem.run_pure,Result.andThen_ok] at hr
             exact Snd.quiet cx.inv (hex _ _ hr) (.int _ _) nid
           · unfold copyTo at hs
             split at hs
             · rename_i zb es mu hb'
               split at hs
               · rename_i hcc
                 obtain ⟨rfl,rfl,hfit⟩:=hcc
                 cases hs
                 have hl:(xs.take (min xs.length len)).length=min xs.length len:=by simp
                 have hkl:k+(xs.take (min xs.length len)).length≤es.length:=by rw [hl];omega
                 have key:=Snd.overwrite (P:=P) (x:=execOp a.eval o) (k:=k) cx.inv hb' hkl q4 (cv:=.int .i64 ((min xs.length len:Nat):Int)) (v:=.int .i64 ((min xs.length len:Nat):Int)) (fun c' t' hc hsz'=>?_) (fun _=>.int _ _) nid
                 · rw [hl] at key
                   exact key
                 · have hmul:=Nat.mul_le_mul_right zb hkl
                   rw [Nat.add_mul,← q4.size] at hmul
                   have hst:=run_storeCells_at P (m b).1 (k * zb) t' news.toList 0 c' w hc (by simp;omega) q4.one
                   simp only [Nat.add_zero] at hst
                   rw [hst] at hr
                   exact hex _ _ hr
               · cases hs
             · cases hs
         · cases hs
   · cases hc
 · cases hc
theorem clr_ok (cx:Cx P φ ψ N w0 w S m A h e a) {c:Call} (ho:o.op=.call c) (hb:c.callee=.builtin .clear):Ok P φ ψ N w0 w S m A h e a o:=by
 intro cop v up nid hc hs hn
 rw [ho] at hc
 simp only [cOp,hb,cBuiltin] at hc
 unfold cClear at hc
 split at hc
 · rename_i D t hargs htys
   simp only [Option.bind_eq_bind,Option.bind_eq_some_iff] at hc
   obtain ⟨dd,hdx,d,hd,hc⟩:=hc
   have hD:=cx.opd hdx
   have ea:c.args=#[D]:=by rw [← hargs]
   have et:c.argTypes=#[t]:=by rw [← htys]
   have hex:∀ w' v,(Builtin.clear_ #[t] o.type #[a.eval D]).run P w=.ok v w'→(execOp a.eval o).run P w=.ok (.value v) w':=by
    intro w' v hr
    rw [call_builtin (s:=Builtin.clear_ #[t] o.type #[a.eval D]) ho hb (fun _=>by rw [ea,et];simp [builtin])]
    simp [hr]
   split at hc
   · rename_i el
     simp only [Option.bind_eq_some_iff] at hc
     obtain ⟨z,hz,hc⟩:=hc
     split at hc
     · cases hc
     · rename_i hz0
       cases hc
       obtain ⟨it,zv,hit,hzv,z1,z2,z3,z4⟩:=zeroCells_some (ψ:=ψ) (w:=w) (S:=S) (m:=m) (A:=A) hz
       simp only [stepOp,sClr] at hs
       have run0:∀ base cap,a.eval D=.slice base 0 cap→(Builtin.clear_ #[t] o.type #[a.eval D]).run P w=.ok (.tuple #[]) w:=by
        intro base cap e1
        rw [e1]
        unfold Builtin.clear_
        cases base <;> simp [Sem.run_bind,run_underlying hd]
       have run1:∀ ad n cap,n≠0→a.eval D=.slice (some ad) n cap→(Builtin.clear_ #[t] o.type #[a.eval D]).run P w=((storeCells ad (Builtin.zeroCells zv.cells n).toList).run P w).andThen fun _ w'=>.ok (.tuple #[]) w':=by
        intro ad n cap h0 e1
        rw [e1]
        obtain ⟨n,rfl⟩:∃ k,n=k+1:=⟨n - 1,by omega⟩
        unfold Builtin.clear_
        simp [Sem.run_bind,run_underlying hd,zeroValue,typeInfo,hit,hzv]
       cases hxv:dd.ev e <;> rw [hxv] at hs hD <;> simp only [clrIn] at hs <;> try (cases hs;done)
       · cases hs
         exact Snd.quiet cx.inv (hex _ _ (run0 none 0 hD.inv_nils)) (.tup _ _ rfl (by simp)) nid
       · rename_i z' es ex
         cases es with
         | cons _ _=>cases hs
         | nil =>
          cases hs
          obtain ⟨ad,cap,e1⟩:∃ (ad:Addr) (cap:Nat),_=Value.slice (some ad) 0 cap:=by
           rcases hD.inv_ro with ⟨b,off,cap,_,e1,_⟩ | ⟨_,ad,_,e1,_⟩
           · exact ⟨_,_,e1⟩
           · exact ⟨_,_,e1⟩
          exact Snd.quiet cx.inv (hex _ _ (run0 _ _ e1)) (.tup _ _ rfl (by simp)) nid
       · rename_i b z' k len cap ex
         split at hs
         · rename_i hzz
           subst hzz
           obtain ⟨cc,e1,hA,hmz,_⟩:=hD.inv_sl
           split at hs
           · rename_i h0
             subst h0
             cases hs
             exact Snd.quiet cx.inv (hex _ _ (run0 _ _ e1)) (.tup _ _ rfl (by simp)) nid
           · rename_i h0
             have hr:=run1 _ _ _ h0 e1
             have q4:=zeroCells_EsR z1 z3 z4 len
             unfold clrTo at hs
             split at hs
             · rename_i zb es mu hb'
               split at hs
               · rename_i hcc
                 obtain ⟨rfl,rfl,hfit⟩:=hcc
                 cases hs
                 have hl:(List.replicate len z).length=len:=by simp
                 have hkl:k+(List.replicate len z).length≤es.length:=by rw [hl];omega
                 have key:=Snd.overwrite (P:=P) (x:=execOp a.eval o) (k:=k) cx.inv hb' hkl q4 (cv:=.tuple #[]) (v:=.tup []) (fun c' t' hc hsz'=>?_) (fun _=>.tup _ _ rfl (by simp)) nid
                 · rw [hl] at key
                   exact key
                 · have hmul:=Nat.mul_le_mul_right z.length hkl
                   rw [Nat.add_mul,← q4.size] at hmul
                   have hst:=run_storeCells_at P (m b).1 (k * z.length) t' (Builtin.zeroCells zv.cells len).toList 0 c' w hc (by simp;omega) q4.one
                   simp only [Nat.add_zero] at hst
                   rw [hst] at hr
                   exact hex _ _ hr
               · cases hs
             · cases hs
         · cases hs
   · cases hc
 · cases hc
end
end Go.Pav
end
section
set_option linter.unusedSimpArgs false
set_option linter.unusedVariables false
namespace Go.Pav
open Go
set_option linter.unusedVariables false
set_option linter.unusedSimpArgs false
section
variable {P:Program} {φ:FuncId→Option Nat} {ψ:Psi} {N:Nat} {w0 w w1:World} {S S1:Nat→Prop} {m:Nat→Nat × Nat} {A A':Nat→Prop} {h:Heap}
theorem flat_vr {x:AV} {v:Value} (hf:flat x=true) (hv:VR ψ w S m A x v):VR ψ w S m A' x v:=by
 cases hv with
 | bool b=>exact .bool b
 | int k n=>exact .int k n
 | str s=>exact .str s
 | nilp=>exact .nilp
 | nils=>exact .nils
 | nilm=>exact .nilm
 | nilf=>exact .nilf
 | ro z es ex b off cap cs hS hz hc hx hcell hrep=>exact .ro z es ex b off cap cs hS hz hc hx hcell hrep
 | roe z ex a k hk=>exact .roe z ex a k hk
 | rop cs b off vs hS hcell hrep=>exact .rop cs b off vs hS hcell hrep
 | undef v=>simp [flat] at hf
 | ptr b i o hA=>simp [flat] at hf
 | sl b z i len cap ex c hA hz hl hc hx hrow=>simp [flat] at hf
 | map b hA=>simp [flat] at hf
 | fn f caps vs hn hc=>simp [flat] at hf
 | agg cs vs hn hcell hc=>simp [flat] at hf
 | tup cs vs hn hc=>simp [flat] at hf
theorem Le.more (hs:∀ c,S c→S1 c):Le w S m A w S1 m A :=
 ⟨fun _ _=>rfl,fun _ c _ _ hc=>⟨c,hc,rfl⟩,Nat.le_refl _,hs,fun _ x=>x,fun _ _=>rfl⟩
theorem Inv.stay (i:Inv ψ N w0 w S m A h) (hk:∀ c,c < w.heap.size→w1.heap[c]?=w.heap[c]?) (hs:w.heap.size≤w1.heap.size) (ho:w1.os=w.os) (ht:w1.output=w.output) :
 Inv ψ N w0 w1 S m A h∧Le w S m A w1 S m A:=by
 have le:Le w S m A w1 S m A:=⟨fun b hb=>hk b (i.sb b hb),fun b c t fr hc=>⟨c,by rw [hk b (Array.getElem?_eq_some_iff.1 hc).1];exact hc,rfl⟩,hs,fun _ x=>x,fun _ x=>x,fun _ _=>rfl⟩
 refine ⟨⟨i.dom,fun b o hb=>(i.obj b o hb).mono le (hk _ (i.obj b o hb).lt),i.fro,i.live,i.inj,fun c hc=>Nat.lt_of_lt_of_le (i.sb c hc) hs,Nat.le_trans i.size hs,fun c hc=>?_,ho.trans i.os,ht.trans i.out,i.laid⟩,le⟩
 rw [hk c (Nat.lt_of_lt_of_le hc i.size)];exact i.old c hc
theorem RowsAt.ro {z:Nat} {es:List (List AV)} {g off cap:Nat} (hr:RowsAt ψ w S m A z es g off) (hg:S g) (hc:es.length≤cap) (hf:∀ e ∈ es,∀ x ∈ e,flat x=true) :
 VR ψ w S m A' (.ro z es false) (.slice (some ⟨g,off,none⟩) es.length cap):=by
 refine .ro z es false g off cap (fun i j=>(w.cell? ⟨g,off+i * z+j,none⟩).getD Go.undef) hg hr.wide hc (fun q=>by cases q) (fun i e j x he hx=>?_) (fun i e j x he hx=>?_)
 · obtain ⟨q1,u,q2,q3⟩:=hr.cell i e j x he hx
   rw [← Nat.add_assoc] at q2
   exact ⟨q1,by rw [q2];rfl⟩
 · obtain ⟨q1,u,q2,q3⟩:=hr.cell i e j x he hx
   rw [← Nat.add_assoc] at q2
   rw [q2]
   exact flat_vr (hf e (List.mem_of_getElem? he) x (List.mem_of_getElem? hx)) q3
theorem app_snap (i:Inv ψ N w0 w S m A h) {t u ty el:TypeId} {it:TypeInfo} {zv:Value} {z:Nat} (hz0:0 < z) (hzv:zv.cells.size=z) (hb0:it.bytes≠0) {x:Sem Next} {cs cx:Value} {xs:List (List AV)} {news:Array Value}
 (hx:∀ w' v,(Builtin.append_ #[t,u] ty #[cs,cx]).run P w=.ok v w'→x.run P w=.ok (.value v) w')
 (src:Src P w t u ty el it z zv cx xs.length news) (hnews:EsR ψ w S m A z xs news) {b cap:Nat} {ex:Bool} {es:List (List AV)} (hs:VR ψ w S m A (.sl b z 0 es.length cap ex) cs) (hb:get h b=some (.cells z es true))
 (hbb:(es.length+xs.length) * (it.bytes+1)≤maxBytes) (hf:∀ e ∈ es++xs,∀ x ∈ e,flat x=true) :
 ∃ cv w1 S1,x.run P w=.ok (.value cv) w1∧VR ψ w1 S1 m A (.ro z (es++xs) false) cv∧Inv ψ N w0 w1 S m A h∧Le w S m A w1 S m A∧(∀ c,S c→S1 c)∧(∀ c,S1 c→c < w1.heap.size)∧∀ c,S1 c→S c∨c=(m b).1∨w.heap.size≤c:=by
 have hone:=hnews.one
 obtain ⟨cc,e1,hA,hmz,hlen,hcap,hex,cur,tt,fr,hrow,hsz⟩:=hs.inv_sl
 subst e1
 have hlive:=i.live b _ hb rfl
 have hlt:=(i.obj b _ hb).lt
 obtain ⟨h0,h1,c,tc,h2,h3,h4⟩:=i.obj b _ hb
 by_cases hroom:es.length+xs.length≤cc
 · -- in place
   have heq:=h2.symm.trans hrow
   simp only [Option.some.injEq,Obj.cells.injEq] at heq
   rw [← heq.1,Nat.zero_add] at hsz
   have hmul:=Nat.mul_le_mul_right z hroom
   rw [Nat.add_mul,← hnews.size] at hmul
   have hfit:es.length * z+news.toList.length≤c.size:=by simp;omega
   have hst:=run_storeCells_at P (m b).1 (0 * z+es.length * z) tc news.toList 0 c w h2 (by simp;omega) hone
   simp only [Nat.zero_mul,Nat.zero_add,Nat.add_zero] at hst
   have hrun:=src.room (some ⟨(m b).1,0 * z,none⟩) es.length cc hroom
   simp only [add_row,Nat.zero_mul,Nat.zero_add,hst,Result.andThen_ok] at hrun
   have hrow2:∀ c' t' fr,w.heap[(m b).1]?=some (.cells c' t' fr)→∃ c'',(w.setRow (m b).1 (c.toList.take (es.length * z)++news.toList++c.toList.drop (es.length * z+news.toList.length)).toArray).heap[(m b).1]?=some (.cells c'' t' fr)∧c''.size=c'.size:=by
    intro c' t' fr hc'
    rw [h2] at hc'
    cases hc'
    exact ⟨_,setRow_heap w _ c _ tc (0,0) h2,seg_size hfit⟩
   have hother:=fun k hk=>setRow_other w (m b).1 k (c.toList.take (es.length * z)++news.toList++c.toList.drop (es.length * z+news.toList.length)).toArray hk
   have hssz:=setRow_size w (m b).1 (c.toList.take (es.length * z)++news.toList++c.toList.drop (es.length * z+news.toList.length)).toArray
   have le:Le w S m A (w.setRow (m b).1 (c.toList.take (es.length * z)++news.toList++c.toList.drop (es.length * z+news.toList.length)).toArray) S m A:=Le.write hlive.1 hother hssz hrow2
   have hnew:(w.setRow (m b).1 (c.toList.take (es.length * z)++news.toList++c.toList.drop (es.length * z+news.toList.length)).toArray).heap[(m b).1]?=some (.cells (c.toList.take (es.length * z)++news.toList++c.toList.drop (es.length * z+news.toList.length)).toArray tc (0,0)):=setRow_heap w _ c _ tc (0,0) h2
   have hnl:news.toList.length=xs.length * z:=by simp [hnews.size]
   have keyE:∀ (q:Nat) (e:List AV) (j:Nat) (y:AV),es[q]?=some e→e[j]?=some y→y.cell=true∧∃ u',(c.toList.take (es.length * z)++news.toList++c.toList.drop (es.length * z+news.toList.length)).toArray[q * z+j]?=some u' ∧
    VR ψ (w.setRow (m b).1 (c.toList.take (es.length * z)++news.toList++c.toList.drop (es.length * z+news.toList.length)).toArray) S m A y u':=by
    intro q e j y he hy
    obtain ⟨c1,u',c2,c3⟩:=h4 q e j y he hy
    have hq:=(List.getElem?_eq_some_iff.1 he).1
    have hj:j < z:=by rw [← h1 q e he];exact (List.getElem?_eq_some_iff.1 hy).1
    have hlt:=row_lt hq hj
    exact ⟨c1,u',by rw [seg_get hfit,if_neg (by omega)];exact c2,c3.mono le⟩
   refine ⟨_,_,fun k=>S k∨k=(m b).1,hx _ _ (by rw [Nat.zero_mul];exact hrun),?_,?_,le,fun _ q=>.inl q,?_,fun c hc=>hc.imp id .inl⟩
   · have hr:RowsAt ψ (w.setRow (m b).1 (c.toList.take (es.length * z)++news.toList++c.toList.drop (es.length * z+news.toList.length)).toArray) S m A z (es++xs) (m b).1 0:=by
      refine ⟨fun q e he=>?_,fun q e j y he hy=>?_⟩
      · rw [List.getElem?_append] at he
        split at he
        · exact h1 q e he
        · exact hnews.wide _ e he
      · rw [List.getElem?_append] at he
        split at he
        · obtain ⟨c1,u',c2,c3⟩:=keyE q e j y he hy
          exact ⟨c1,u',by simp only [World.cell?,hnew,Nat.zero_add];exact c2,c3⟩
        · rename_i hq
          obtain ⟨c1,u',c2,c3⟩:=hnews.at_ he hy
          have hlt:=(Array.getElem?_eq_some_iff.1 c2).1
          rw [hnews.size] at hlt
          have e2:q * z=es.length * z+(q - es.length) * z:=by rw [← Nat.add_mul];congr 1;omega
          have key:(c.toList.take (es.length * z)++news.toList++c.toList.drop (es.length * z+news.toList.length)).toArray[q * z+j]?=some u':=by
           rw [seg_get hfit,if_pos (by omega),show q * z+j - es.length * z=(q - es.length) * z+j by omega,Array.getElem?_toList]
           exact c2
          exact ⟨c1,u',by simp only [World.cell?,hnew,Nat.zero_add];exact key,c3.mono le⟩
     have hr':RowsAt ψ (w.setRow (m b).1 (c.toList.take (es.length * z)++news.toList++c.toList.drop (es.length * z+news.toList.length)).toArray) (fun k=>S k∨k=(m b).1) m A z (es++xs) (m b).1 0 :=
      ⟨hr.wide,fun q e j y he hy=>by
       obtain ⟨c1,u',c2,c3⟩:=hr.cell q e j y he hy
       exact ⟨c1,u',c2,c3.mono (Le.more fun _ q=>.inl q)⟩⟩
     have:=hr'.ro (A':=A) (cap:=cc) (.inr rfl) (by simpa using hroom) hf
     simpa using this
   · refine (i.write hb rfl rfl hother hssz rfl rfl hrow2 (o':=.cells z es true) ⟨h0,h1,_,tc,hnew,?_,keyE⟩).sub fun k o hk=>?_
     · rw [seg_size hfit];exact h3
     · rw [get_put]
       split
       · rename_i e;subst e;rw [hb] at hk;exact hk
       · exact hk
   · rintro k (hk | rfl)
     · rw [hssz];exact i.sb k hk
     · rw [hssz];exact hlt
 · -- a new block
   obtain ⟨_,hr0⟩:=i.rowsAt (k:=0) (len:=es.length) hb
   have hl:(es.drop 0).take es.length=es:=by simp
   rw [hl] at hr0
   obtain ⟨vs,q1,q2⟩:=hr0.load (P:=P) hz0 (Nat.le_refl _)
   rw [List.take_of_length_le (Nat.le_refl _)] at q2
   have hr:=src.grow (some ⟨(m b).1,0 * z,none⟩) es.length cc vs hroom hbb hb0 (fun w2 hw2=>by simp only [Builtin.firstCells];exact q1 w2 hw2)
   have hE:=q2.append hz0 hnews
   generalize hzc:Builtin.zeroCells zv.cells (grownCap w (es.length+xs.length) cc el - (es.length+xs.length))=zc at hr
   have hh:(w.drew.alloc (.cells (vs++news++zc) el)).heap=w.heap.push (.cells (vs++news++zc) el (0,0)):=rfl
   obtain ⟨st1,st2⟩:=i.stay (w1:=w.drew.alloc (.cells (vs++news++zc) el)) (fun k hk=>by rw [hh,Array.getElem?_push,if_neg (Nat.ne_of_lt hk)]) (by rw [hh];simp) rfl rfl
   refine ⟨_,_,fun k=>S k∨k=w.heap.size,hx _ _ hr,?_,st1,st2,fun _ q=>.inl q,?_,fun c hc=>hc.imp id fun q=>.inr (Nat.le_of_eq q.symm)⟩
   · have hr':RowsAt ψ (w.drew.alloc (.cells (vs++news++zc) el)) (fun k=>S k∨k=w.heap.size) m A z (es++xs) w.heap.size 0:=by
      refine ⟨hE.wide,fun q e j y he hy=>?_⟩
      obtain ⟨c1,u',c2,c3⟩:=hE.at_ he hy
      refine ⟨c1,u',?_,(c3.mono st2).mono (Le.more fun _ q=>.inl q)⟩
      have hlt:=(Array.getElem?_eq_some_iff.1 c2).1
      simp only [World.cell?,hh,Array.getElem?_push,if_true,Nat.zero_add]
      rw [Array.getElem?_append_left hlt]
      exact c2
     have:=hr'.ro (A':=A) (cap:=grownCap w (es.length+xs.length) cc el) (.inr rfl) (by have:=grownCap_ge w (es.length+xs.length) cc el;simpa using this) hf
     simpa using this
   · rintro k (hk | rfl)
     · rw [hh];have:=i.sb k hk;simp;omega
     · rw [hh];simp
theorem appBytes_or (φ:FuncId→Option Nat) (s:Opd) (b:Nat):appBytes φ s b=b∨appBytes φ s b=frzBytes+b:=by
 unfold appBytes
 split
 · split
   · exact .inr rfl
   · exact .inl rfl
 · exact .inl rfl
theorem Inv.frz1 {w1:World} (i:Inv ψ N w0 w1 S m A h) {b z:Nat} {es:List (List AV)} (hb:get h b=some (.cells z es true)) {Sn:Nat→Prop} (hsub:∀ c,S c→Sn c) (hbn:Sn (m b).1) (hlt:∀ c,Sn c→c < w1.heap.size)
 (hnew:∀ c,Sn c→S c∨c=(m b).1∨∀ b' o',get h b'=some o'→(m b').1≠c):Inv ψ N w0 w1 Sn m A (put h b (.cells z es false))∧Le w1 S m A w1 Sn m A:=by
 have le:Le w1 S m A w1 Sn m A:=Le.more hsub
 refine ⟨⟨fun c o hc=>?_,fun c o hc=>?_,fun c o hc hm=>?_,fun c o hc hm=>?_,fun c o c' o' hc hc' hm hm' hne=>?_,hlt,i.size,i.old,i.os,i.out,i.laid⟩,le⟩
 · rw [get_put] at hc
   split at hc
   · rename_i e;subst e;exact i.dom _ _ hb
   · exact i.dom _ _ hc
 · rw [get_put] at hc
   split at hc
   · rename_i e;subst e;cases hc
     exact (i.obj _ _ hb).mono le rfl
   · exact (i.obj _ _ hc).mono le rfl
 · rw [get_put] at hc
   split at hc
   · rename_i e;subst e;exact hbn
   · exact hsub _ (i.fro _ _ hc hm)
 · rw [get_put] at hc
   split at hc
   · cases hc;cases hm
   · rename_i e
     obtain ⟨q1,q2⟩:=i.live _ _ hc hm
     refine ⟨fun q=>?_,q2⟩
     rcases hnew _ q with r | r | r
     · exact q1 r
     · exact i.inj _ _ _ _ hc hb hm rfl (Ne.symm e) r
     · exact r _ _ hc rfl
 · rw [get_put] at hc hc'
   split at hc
   · cases hc;cases hm
   · split at hc'
     · cases hc';cases hm'
     · exact i.inj _ _ _ _ hc hc' hm hm' hne
theorem app_frz (i:Inv ψ N w0 w S m A h) {t u ty el:TypeId} {it:TypeInfo} {zv:Value} {z:Nat} (hz0:0 < z) (hzv:zv.cells.size=z) (hb0:it.bytes≠0) {x:Sem Next} {cs cx:Value} {sv:AV} {xs:List (List AV)} {news:Array Value}
 (hx:∀ w' v,(Builtin.append_ #[t,u] ty #[cs,cx]).run P w=.ok v w'→x.run P w=.ok (.value v) w')
 (src:Src P w t u ty el it z zv cx xs.length news) (hnews:EsR ψ w S m A z xs news) (hs:VR ψ w S m A sv cs) {v:AV} {up:Upd} (he:frzApp h z it.bytes xs sv=some (v,up)) (nid:Nat):Snd P ψ N w0 w S m A x (applyUpd h up) v nid:=by
 unfold frzApp at he
 split at he
 · rename_i b z' k len cap ex
   split at he
   · rename_i zb es mu hg
     split at he
     · rename_i hc
       obtain ⟨rfl,rfl,rfl,rfl,h5,hbb,hfl⟩:=hc
       subst h5
       cases he
       have hf:∀ e' ∈ es++xs,∀ x' ∈ e',flat x'=true:=fun e' he' x' hx'=>List.all_eq_true.1 (List.all_eq_true.1 hfl e' he') x' hx'
       obtain ⟨cv,w1,S1,r1,r2,r3,r4,r5,r6,r7⟩:=app_snap i hz0 hzv hb0 hx src hnews hs hg hbb hf
       have hlt:=(r3.obj b _ hg).lt
       obtain ⟨j1,j2⟩:=r3.frz1 hg (Sn:=fun c=>S1 c∨c=(m b).1) (fun c hc=>.inl (r5 c hc)) (.inr rfl) (fun c hc=>hc.elim (r6 c) fun q=>q ▸ hlt) (fun c hc=>by
        rcases hc with q | q
        · rcases r7 c q with y | y | y
          · exact .inl y
          · exact .inr (.inl y)
          · exact .inr (.inr fun b' o' hb' e=>by have:=(i.obj b' o' hb').lt;omega)
        · exact .inr (.inl q))
       refine ⟨cv,w1,_,m,A,.inl r1,r2.mono (Le.more fun c hc=>.inl hc),j1,r4.trans j2,fun c hc q=>?_,fun _ hb=>.inl hb⟩
       have hN:=(i.live b _ hg rfl).2
       rcases q with q | q
       · rcases r7 c q with y | y | y
         · exact y
         · omega
         · have:=i.size;omega
       · omega
     · cases he
   · cases he
 · cases he
end
section
variable {P:Program} {φ:FuncId→Option Nat} {ψ:Psi} {N:Nat} {w0 w:World} {S:Nat→Prop} {m:Nat→Nat × Nat} {A:Nat→Prop} {h:Heap} {e:Env} {a:Act} {o:Oper}
theorem app_ok (cx:Cx P φ ψ N w0 w S m A h e a) {c:Call} (ho:o.op=.call c) (hb:c.callee=.builtin .append):Ok P φ ψ N w0 w S m A h e a o:=by
 intro cop v up nid hc hs hn
 rw [ho] at hc
 simp only [cOp,hb,cBuiltin] at hc
 unfold cAppend at hc
 split at hc
 · rename_i S0 X t u hargs htys
   simp only [Option.bind_eq_bind,Option.bind_eq_some_iff] at hc
   obtain ⟨s,hsx,x,hx,d,hd,hc⟩:=hc
   have hS:=cx.opd hsx
   have hX:=cx.opd hx
   have ea:=arr2 hargs
   have et:=arr2 htys
   have hex:∀ w' v,(Builtin.append_ #[t,u] o.type #[a.eval S0,a.eval X]).run P w=.ok v w'→(execOp a.eval o).run P w=.ok (.value v) w':=by
    intro w' v hr
    rw [call_builtin (s:=Builtin.append_ #[t,u] o.type #[a.eval S0,a.eval X]) ho hb (fun _=>by rw [ea,et];simp [builtin])]
    simp [hr]
   split at hc
   · rename_i el
     simp only [Option.bind_eq_some_iff] at hc
     obtain ⟨z,hz,it,hit,hc⟩:=hc
     split at hc
     · cases hc
     · rename_i hne
       obtain ⟨it',zv,hit',hzv,z1,z2,z3,z4⟩:=zeroCells_some (ψ:=ψ) (w:=w) (S:=S) (m:=m) (A:=A) hz
       rw [hit] at hit'
       cases hit'
       have hz0:0 < z.length:=Nat.pos_of_ne_zero fun q=>hne (.inl q)
       have hb0:it.bytes≠0:=fun q=>hne (.inr (.inl q))
       have hbf:it.bytes < frzBytes:=Nat.lt_of_not_le fun q=>hne (.inr (.inr q))
       simp only [Option.bind_eq_some_iff] at hc
       obtain ⟨du,hdu,hc⟩:=hc
       have plain:(∀ k,du≠.int k)→cop=.app z (appBytes φ s it.bytes) false s x→Snd P ψ N w0 w S m A (execOp a.eval o) (applyUpd h up) v nid:=by
        intro hno hcop
        subst hcop
        simp only [stepOp,sApp,Bool.false_eq_true,if_false] at hs
        rcases appBytes_or φ s it.bytes with hab | hab
        · rw [hab,if_pos hbf] at hs
          obtain ⟨xs,hxs,hs'⟩:=ob_some hs
          obtain ⟨q1,q2⟩:=elems_run (P:=P) cx.inv hz0 hX hxs
          obtain ⟨news,q3,q4⟩:=q2 xs.length (Nat.le_refl _)
          rw [List.take_of_length_le (Nat.le_refl _)] at q4
          exact app_run cx.inv hn hz0 z1 hb0 hex (src_plain hd hdu hno hit z2 hzv q1 q3) q4 hS hs'
        · rw [hab,if_neg (by omega),Nat.add_sub_cancel_left] at hs
          obtain ⟨xs,hxs,hs'⟩:=ob_some hs
          obtain ⟨q1,q2⟩:=elems_run (P:=P) cx.inv hz0 hX hxs
          obtain ⟨news,q3,q4⟩:=q2 xs.length (Nat.le_refl _)
          rw [List.take_of_length_le (Nat.le_refl _)] at q4
          exact app_frz cx.inv hz0 z1 hb0 hex (src_plain hd hdu hno hit z2 hzv q1 q3) q4 hS hs' nid
       split at hc
       · cases hc
         simp only [stepOp,sApp,if_true] at hs
         split at hs
         · rename_i k n ei
           obtain ⟨n',hn',hs'⟩:=ob_some hs
           cases nat?_some hn'
           replace hs:=hs';clear hs'
           split at hs
           · rename_i hbb
             rw [ei] at hX
             have eX:=hX.inv_int
             have src:=src_zeros (P:=P) (w:=w) (t:=t) (u:=u) (ty:=o.type) (k:=k) hd hdu hit z2 (Nat.pos_iff_ne_zero.1 hz0) hzv z1 hbb
             rw [← eX] at src
             have hl:(List.replicate n' z).length=n':=by simp
             have src':Src P w t u o.type el it z.length zv (a.eval X) (List.replicate n' z).length (Builtin.zeroCells zv.cells n'):=by rw [hl];exact src
             exact app_run cx.inv hn hz0 z1 hb0 hex src' (zeroCells_EsR z1 z3 z4 n') hS hs
           · cases hs
         · cases hs
       · cases hc;exact plain (fun k q=>by cases q) rfl
       · cases hc;exact plain (fun k q=>by cases q) rfl
       · cases hc
   · cases hc
 · cases hc
end
end Go.Pav
end
section
set_option linter.unusedSimpArgs false
set_option linter.unusedVariables false
set_option linter.unusedSimpArgs false
namespace Go.Pav
open Go
section
variable {P:Program} {φ:FuncId→Option Nat} {ψ:Psi} {N:Nat} {w0 w:World} {S:Nat→Prop} {m:Nat→Nat × Nat} {A:Nat→Prop} {h:Heap} {e:Env} {a:Act} {o:Oper}
theorem sameNow_of {x y:AV} {b:Bool} (hb:eqCell x y=some b) {cx cy:Value} (hx:VR ψ w S m A x cx) (hy:VR ψ w S m A y cy) {kd:Nat} {t:TypeId} (ht:keyKind P t=some kd) (hk:keyOk kd x=true) :
 ∃ d,P.underlying t=some d∧Instr.sameNow d cx cy=some b:=by
 have hkk:=keyKind_some ht
 unfold eqCell at hb
 split at hb
 · split at hb
   · rename_i hk'
     subst hk'
     cases hb
     have h0:kd=0:=by simpa [keyOk] using hk
     subst h0
     rcases hkk with ⟨k',hk',_⟩ | ⟨_,h⟩ | ⟨_,h⟩
     · cases hx.inv_int;cases hy.inv_int
       exact ⟨_,hk',by simp [Instr.sameNow]⟩
     · cases h
     · cases h
   · cases hb
 · cases hb
   have h0:kd=1:=by simpa [keyOk] using hk
   subst h0
   rcases hkk with ⟨k',_,h⟩ | ⟨hk',_⟩ | ⟨_,h⟩
   · cases h
   · cases hx.inv_str;cases hy.inv_str
     refine ⟨_,hk',?_⟩
     simp only [Instr.sameNow]
     rw [beq_toListBytes,toList_bytes,toList_bytes]
   · cases h
 · cases hb
   have h0:kd=2:=by simpa [keyOk] using hk
   subst h0
   rcases hkk with ⟨k',_,h⟩ | ⟨_,h⟩ | ⟨hk',_⟩
   · cases h
   · cases h
   · cases hx.inv_bool;cases hy.inv_bool
     exact ⟨_,hk',by simp [Instr.sameNow]⟩
 · cases hb
def EntR (ψ:Psi) (w:World) (S:Nat→Prop) (m:Nat→Nat × Nat) (A:Nat→Prop):List (AV × AV)→List MapEntry→Prop
 | [],[]=>True
 | (k,v)::r,x::s=>k.cell=true∧VR ψ w S m A k x.key∧VR ψ w S m A v x.val∧EntR ψ w S m A r s
 | _,_=>False
theorem EntR.of:∀ (es:List (AV × AV)) (xs:List MapEntry),xs.length=es.length→(∀ (i:Nat) (k v:AV),es[i]?=some (k,v)→k.cell=true∧∃ x,xs[i]?=some x∧VR ψ w S m A k x.key∧VR ψ w S m A v x.val)→EntR ψ w S m A es xs
 | [],[],_,_=>trivial
 | [],_::_,h,_=>by simp at h
 | _::_,[],h,_=>by simp at h
 | (k,v)::r,x::s,h1,h2=>by
  obtain ⟨q1,x',q2,q3,q4⟩:=h2 0 k v (by simp)
  simp at q2
  subst q2
  refine ⟨q1,q3,q4,EntR.of r s (by simpa using h1) fun i k v hi=>?_⟩
  obtain ⟨r1,x',r2,r3⟩:=h2 (i+1) k v (by simpa using hi)
  exact ⟨r1,x',by simpa using r2,r3⟩
theorem EntR.to:∀ (es:List (AV × AV)) (xs:List MapEntry),EntR ψ w S m A es xs→xs.length=es.length∧∀ (i:Nat) (k v:AV),es[i]?=some (k,v)→k.cell=true∧∃ x,xs[i]?=some x∧VR ψ w S m A k x.key∧VR ψ w S m A v x.val
 | [],[],_=>⟨rfl,fun i k v hi=>by simp at hi⟩
 | [],_::_,h=>h.elim
 | _::_,[],h=>h.elim
 | (k,v)::r,x::s,h=>by
  obtain ⟨h1,h2,h3,h4⟩:=h
  obtain ⟨q1,q2⟩:=EntR.to r s h4
  refine ⟨by simp [q1],fun i k' v' hi=>?_⟩
  cases i with
  | zero =>
   simp at hi
   obtain ⟨rfl,rfl⟩:=hi
   exact ⟨h1,x,by simp,h2,h3⟩
  | succ i =>
   obtain ⟨r1,x',r2,r3⟩:=q2 i k' v' (by simpa using hi)
   exact ⟨r1,x',by simpa using r2,r3⟩
theorem mapGet_run {kd:Nat} {t:TypeId} {d:TypeDesc} (ht:keyKind P t=some kd) (hd:P.underlying t=some d) {x:AV} {cx:Value} (hx:VR ψ w S m A x cx) (hk:keyOk kd x=true) :
 ∀ (es:List (AV × AV)) (xs:List MapEntry) (k:Nat) (r:Option AV),EntR ψ w S m A es xs→mapGet es x=some r →
  ∃ q,Instr.findNow d cx xs k=some q∧(match r,q with | none,none=>True | some v,some (_,c)=>VR ψ w S m A v c | _,_=>False)
 | [],[],k,r,_,h=>by simp only [mapGet] at h;cases h;exact ⟨none,rfl,trivial⟩
 | [],_::_,_,_,h,_=>h.elim
 | _::_,[],_,_,h,_=>h.elim
 | (ky,v)::es,y::xs,k,r,h1,h2=>by
  obtain ⟨_,c2,c3,c4⟩:=h1
  simp only [mapGet] at h2
  obtain ⟨b,hb,h2⟩:=ob_some h2
  obtain ⟨d',hd',hs⟩:=sameNow_of (P:=P) hb hx c2 ht hk
  rw [hd] at hd'
  cases hd'
  cases b with
  | true =>
   simp only [if_true,Option.some.injEq] at h2
   subst h2
   exact ⟨some (k,y.val),by simp only [Instr.findNow,hs],c3⟩
  | false =>
   simp only [Bool.false_eq_true,if_false] at h2
   obtain ⟨q,q1,q2⟩:=mapGet_run ht hd hx hk es xs (k+1) r c4 h2
   exact ⟨q,by simp only [Instr.findNow,hs];exact q1,q2⟩
theorem checkKey_run {kd:Nat} {t:TypeId} (ht:keyKind P t=some kd) (emp:Bool) (v:Value) (n:Nat):(Instr.checkKey emp (n+1) t v).run P w=.ok () w:=by
 rcases keyKind_some ht with ⟨k',hk',_⟩ | ⟨hk',_⟩ | ⟨hk',_⟩ <;> simp [Instr.checkKey,run_underlying hk']
theorem look_ok (cx:Cx P φ ψ N w0 w S m A h e a) {t:TypeId} {M K:Operand} {ok:Bool} (ho:o.op=.lookup t M K ok):Ok P φ ψ N w0 w S m A h e a o:=by
 intro cop v u nid hc hs hn
 rw [ho] at hc
 simp only [cOp,Option.bind_eq_bind,Option.bind_eq_some_iff] at hc
 obtain ⟨mm,hm,k,hk,d,hd,hc⟩:=hc
 have hM:=cx.opd hm
 have hK:=cx.opd hk
 split at hc
 · rename_i kt et
   simp only [Option.bind_eq_some_iff,Option.some.injEq] at hc
   obtain ⟨it,hit,zc,hzc,z,hz,kd,hkd,rfl⟩:=hc
   have hZ:VR ψ w S m A z zc:=avOf_vr hz
   obtain ⟨dk,hdk⟩:∃ dk,P.underlying kt=some dk:=by
    rcases keyKind_some hkd with ⟨k',hk',_⟩ | ⟨hk',_⟩ | ⟨hk',_⟩ <;> exact ⟨_,hk'⟩
   have hex:execOp a.eval o=(do pure (.value (← Instr.lookup t (a.eval M) (a.eval K) ok))):=by simp [execOp,ho]
   have fin:∀ (r:Option AV) (es:Array MapEntry),((a.eval M=.map none∧es=#[])∨∃ g clock,a.eval M=.map (some g)∧w.heap[g]?=some (.map es clock)) →
    (∃ q,Instr.findNow dk (a.eval K) es.toList 0=some q∧(match r,q with | none,none=>True | some v,some (_,c)=>VR ψ w S m A v c | _,_=>False)) →
    ∃ cv,(Instr.lookup t (a.eval M) (a.eval K) ok).run P w=.ok cv w∧VR ψ w S m A (found z ok r) cv:=by
    intro r es hes hq
    obtain ⟨q,q1,q2⟩:=hq
    have hfk:(Instr.findKey kt (a.eval K) es.toList).run P w=.ok q w:=by
     unfold Instr.findKey
     rw [Sem.run_bind,run_underlying hdk]
     simp only [Result.andThen_ok,q1,Sem.run_pure]
    have hrun:∀ (f:Option (Nat × Value)→Sem Value),f=(fun r=>do
     let (v,ok') ← match r with
      | some (_,v)=>pure (v,true)
      | none=>pure (← zeroValue et,false)
     pure (if ok then .tuple #[v,.bool ok'] else v))→(Instr.lookup t (a.eval M) (a.eval K) ok).run P w=(f q).run P w:=by
     intro f hf
     subst hf
     unfold Instr.lookup
     simp only [Sem.run_bind,run_underlying hd,Result.andThen_ok]
     rcases hes with ⟨e1,e2⟩ | ⟨g,clock,e1,e2⟩
     · subst e2
       rw [e1]
       simp only [Sem.run_pure,Result.andThen_ok,checkKey_run hkd,Sem.run_bind,hfk]
       cases q <;> rfl
     · rw [e1]
       simp only [Sem.run_bind,run_getObj_map w _ _ _ e2,Sem.run_pure,Result.andThen_ok,checkKey_run hkd,hfk]
       cases q <;> rfl
    rw [hrun _ rfl]
    simp only [Sem.run_bind]
    cases r with
    | none =>
     cases q with
     | some q=>exact q2.elim
     | none =>
      simp only [Sem.run_bind,zeroValue,typeInfo,run_program,Result.andThen_ok,hit,hzc,Sem.run_pure]
      cases ok
      · exact ⟨zc,rfl,hZ⟩
      · refine ⟨.tuple #[zc,.bool false],rfl,.tup _ _ rfl fun j y hj=>?_⟩
        cases j with
        | zero=>simp at hj;subst hj;exact hZ
        | succ j=>cases j with
         | zero=>simp at hj;subst hj;exact .bool _
         | succ j=>simp at hj
    | some rv =>
     cases q with
     | none=>exact q2.elim
     | some q =>
      obtain ⟨qi,qv⟩:=q
      simp only [Sem.run_pure,Result.andThen_ok]
      cases ok
      · exact ⟨qv,rfl,q2⟩
      · refine ⟨.tuple #[qv,.bool true],rfl,.tup _ _ rfl fun j y hj=>?_⟩
        cases j with
        | zero=>simp at hj;subst hj;exact q2
        | succ j=>cases j with
         | zero=>simp at hj;subst hj;exact .bool _
         | succ j=>simp at hj
   simp only [stepOp,sLook] at hs
   split at hs
   · rename_i hko
     split at hs
     · rename_i em
       cases hs
       rw [em] at hM
       have e1:=hM.inv_nilm
       obtain ⟨cv,q1,q2⟩:=fin none #[] (.inl ⟨e1,rfl⟩) ⟨none,rfl,trivial⟩
       exact Snd.val cx.inv hex q1 q2 nid
     · rename_i b em
       obtain ⟨h1,rfl⟩:=ov_some hs
       unfold lookIn at h1
       split at h1
       · rename_i es hg
         obtain ⟨r,hr,rfl⟩:=om_some h1
         rw [em] at hM
         obtain ⟨hA,e1⟩:=hM.inv_map
         obtain ⟨es',clock,q1,q2,q3⟩:=cx.inv.obj b _ hg
         have hent:EntR ψ w S m A es es'.toList:=EntR.of es es'.toList (by simpa using q2) (fun i k v hi=>by
          obtain ⟨c1,x,c2,c3⟩:=q3 i k v hi
          exact ⟨c1,x,by simpa using c2,c3⟩)
         obtain ⟨cv,q4,q5⟩:=fin r es' (.inr ⟨_,clock,e1,q1⟩) (mapGet_run hkd hdk hK hko es es'.toList 0 r hent hr)
         exact Snd.val cx.inv hex q4 q5 nid
       · cases h1
     · cases hs
   · cases hs
 · cases hc
theorem next_ok (cx:Cx P φ ψ N w0 w S m A h e a) {X:Operand} (ho:o.op=.next X true):Ok P φ ψ N w0 w S m A h e a o:=by
 intro cop v u nid hc hs hn
 rw [ho] at hc
 simp only [cOp,Option.map_eq_some_iff] at hc
 obtain ⟨x,hx,rfl⟩:=hc
 have hX:=cx.opd hx
 simp only [stepOp,sNext] at hs
 split at hs
 · rename_i b ex
   rw [ex] at hX
   obtain ⟨hA,e1⟩:=hX.inv_ptr
   simp only [Nat.zero_mul,Nat.add_zero] at e1
   unfold nextIter at hs
   split at hs
   · rename_i s pos hg
     have hobj:w.heap[(m b).1]?=some (.stringIter ⟨⟨s⟩⟩ pos):=cx.inv.obj b _ hg
     have hget:(getObj (m b).1).run P w=.ok (.stringIter ⟨⟨s⟩⟩ pos) w:=by simp [getObj,Sem.run,hobj]
     have hsz:(⟨⟨s⟩⟩:ByteArray).size=s.length:=rfl
     split at hs
     · rename_i hpos
       cases hs
       have hset:∀ o',(setObj (m b).1 o').run P w=.ok () { w with heap:=w.heap.setIfInBounds (m b).1 o' }:=by intro o';simp [setObj,Sem.run,hobj]
       have hlt:(m b).1 < w.heap.size:=(Array.getElem?_eq_some_iff.1 hobj).1
       have hoth:∀ o' c,c≠(m b).1→(w.heap.setIfInBounds (m b).1 o')[c]?=w.heap[c]?:=fun o' c hc=>by rw [Array.getElem?_setIfInBounds_ne (Ne.symm hc)]
       refine ⟨.tuple #[.bool true,goInt pos,.int .i32 (Utf8.decode ⟨⟨s⟩⟩ pos).1],_,S,m,A,.inl ?_,?_,cx.inv.write hg rfl rfl (w':={ w with heap:=w.heap.setIfInBounds (m b).1 (.stringIter ⟨⟨s⟩⟩ (pos+(Utf8.decode ⟨⟨s⟩⟩ pos).2)) }) (hoth _) (by simp) rfl rfl ?_ ?_,
        Le.write (cx.inv.live b _ hg rfl).1 (hoth _) (by simp) ?_,fun _ _ hs=>hs,fun _ q=>.inl q⟩
       · simp only [execOp,ho,Sem.run_bind]
         rw [e1]
         simp only [Instr.next,Sem.run_bind,hget,Result.andThen_ok,hsz]
         rw [if_pos hpos]
         simp only [Sem.run_bind,hset,Result.andThen_ok,Sem.run_pure]
       · refine .tup _ #[.bool true,goInt pos,.int .i32 (Utf8.decode ⟨⟨s⟩⟩ pos).1] rfl fun j y hj=>?_
         match j,hj with
         | 0,hj=>simp at hj;subst hj;exact .bool _
         | 1,hj=>simp at hj;subst hj;exact .int _ _
         | 2,hj=>simp at hj;subst hj;exact .int _ _
         | j+3,hj=>simp at hj
       · intro c t fr hc;rw [hobj] at hc;cases hc
       · show (w.heap.setIfInBounds (m b).1 _)[(m b).1]?=_
         simp [hlt]
       · intro c t fr hc;rw [hobj] at hc;cases hc
     · rename_i hpos
       cases hs
       refine Snd.val cx.inv (s:=Instr.next (a.eval X) true o.type) (cv:=.tuple #[.bool false]) (by simp [execOp,ho]) ?_ (.tup _ _ rfl fun j y hj=>?_) nid
       · rw [e1]
         simp only [Instr.next,Sem.run_bind,hget,Result.andThen_ok,hsz]
         rw [if_neg hpos]
         rfl
       · cases j with
         | zero=>simp at hj;subst hj;exact .bool _
         | succ j=>simp at hj
   · cases hs
 · cases hs
theorem same_of_eq {x y:AV} (hb:eqCell x y=some true) {cx cy:Value} (hx:VR ψ w S m A x cx) (hy:VR ψ w S m A y cy) (n:Nat):Instr.sameBits n cy cx=true:=by
 unfold eqCell at hb
 split at hb
 · split at hb
   · rename_i hk
     subst hk
     cases hx.inv_int;cases hy.inv_int
     simp only [Option.some.injEq,beq_iff_eq] at hb
     subst hb
     simp [Instr.sameBits]
   · cases hb
 · cases hx.inv_str;cases hy.inv_str
   simp only [Option.some.injEq,beq_iff_eq] at hb
   subst hb
   simp only [Instr.sameBits]
   rw [beq_toListBytes]
   simp
 · cases hx.inv_bool;cases hy.inv_bool
   simp only [Option.some.injEq,beq_iff_eq] at hb
   subst hb
   simp [Instr.sameBits]
 · cases hb
theorem keyOk_cell {kd:Nat} {x:AV} (hk:keyOk kd x=true):x.cell=true:=by
 cases x <;> simp [keyOk] at hk <;> rfl
theorem mapPut_run {kd:Nat} {t:TypeId} {d:TypeDesc} (ht:keyKind P t=some kd) (hd:P.underlying t=some d) {x:AV} {cx:Value} (hx:VR ψ w S m A x cx) (hk:keyOk kd x=true) {v:AV} {cv:Value} (hv:VR ψ w S m A v cv) :
 ∀ (es es':List (AV × AV)) (xs:List MapEntry) (k:Nat),EntR ψ w S m A es xs→mapPut es x v=some es' →
  (∃ i old c,Instr.findNow d cx xs k=some (some (k+i,c))∧xs[i]?=some old∧Instr.sameBits 10000 old.key cx=true∧EntR ψ w S m A es' (xs.modify i fun e=>{ e with key:=cx,val:=cv })) ∨
  (Instr.findNow d cx xs k=some none∧∀ born,EntR ψ w S m A es' (xs++[{ key:=cx,val:=cv,born:=born }]))
 | [],es',[],k,_,h=>by
  simp only [mapPut] at h
  cases h
  exact .inr ⟨rfl,fun born=>⟨keyOk_cell hk,hx,hv,trivial⟩⟩
 | [],_,_::_,_,h,_=>h.elim
 | _::_,_,[],_,h,_=>h.elim
 | (ky,vy)::es,es',y::xs,k,h1,h2=>by
  obtain ⟨c1,c2,c3,c4⟩:=h1
  simp only [mapPut] at h2
  obtain ⟨b,hb,h2⟩:=ob_some h2
  obtain ⟨d',hd',hs⟩:=sameNow_of (P:=P) hb hx c2 ht hk
  rw [hd] at hd'
  cases hd'
  cases b with
  | true =>
   simp only [if_true,Option.some.injEq] at h2
   subst h2
   left
   refine ⟨0,y,y.val,by simp only [Instr.findNow,hs,Nat.add_zero],by simp,same_of_eq hb hx c2 10000,?_⟩
   simp only [List.modify_zero_cons]
   exact ⟨keyOk_cell hk,hx,hv,c4⟩
  | false =>
   simp only [Bool.false_eq_true,if_false] at h2
   obtain ⟨es1,q1,rfl⟩:=om_some h2
   rcases mapPut_run ht hd hx hk hv es es1 xs (k+1) c4 q1 with ⟨i,old,c,r1,r2,r3,r4⟩ | ⟨r1,r2⟩
   · left
     refine ⟨i+1,old,c,?_,by simpa using r2,r3,?_⟩
     · simp only [Instr.findNow,hs]
       rw [show k+(i+1)=k+1+i by omega]
       exact r1
     · simp only [List.modify_succ_cons]
       exact ⟨c1,c2,c3,r4⟩
   · right
     exact ⟨by simp only [Instr.findNow,hs];exact r1,fun born=>⟨c1,c2,c3,r2 born⟩⟩
theorem EntR.mono {w':World} {S':Nat→Prop} {m':Nat→Nat × Nat} {A':Nat→Prop} (le:Le w S m A w' S' m' A'):∀ (es:List (AV × AV)) (xs:List MapEntry),EntR ψ w S m A es xs→EntR ψ w' S' m' A' es xs
 | [],[],_=>trivial
 | [],_::_,h=>h.elim
 | _::_,[],h=>h.elim
 | (_,_)::r,_::s,h=>⟨h.1,h.2.1.mono le,h.2.2.1.mono le,EntR.mono le r s h.2.2.2⟩
theorem upd_ok (cx:Cx P φ ψ N w0 w S m A h e a) {t:TypeId} {M K V:Operand} (ho:o.op=.mapUpdate t M K V∨o.op=.insert t M K V):Ok P φ ψ N w0 w S m A h e a o:=by
 intro cop v u nid hc hs hn
 have hc':cOp P φ (.mapUpdate t M K V)=some cop:=by
  rcases ho with ho | ho <;> rw [ho] at hc
  · exact hc
  · simpa only [cOp] using hc
 simp only [cOp,Option.bind_eq_bind,Option.bind_eq_some_iff] at hc'
 obtain ⟨mm,hm,k,hk,vv,hvv,d,hd,hc'⟩:=hc'
 have hM:=cx.opd hm
 have hK:=cx.opd hk
 have hV:=cx.opd hvv
 split at hc'
 · rename_i kt et
   simp only [Option.bind_eq_some_iff,Option.some.injEq] at hc'
   obtain ⟨kd,hkd,rfl⟩:=hc'
   obtain ⟨dk,hdk⟩:∃ dk,P.underlying kt=some dk:=by
    rcases keyKind_some hkd with ⟨k',hk',_⟩ | ⟨hk',_⟩ | ⟨hk',_⟩ <;> exact ⟨_,hk'⟩
   have hex:∀ w',(Instr.mapUpdate t (a.eval M) (a.eval K) (a.eval V)).run P w=.ok () w'→(execOp a.eval o).run P w=.ok .skip w':=by
    intro w' hr
    rcases ho with ho | ho <;> simp [execOp,ho,hr]
   simp only [stepOp,sUpd] at hs
   split at hs
   · rename_i hko
     split at hs
     · rename_i b em
       unfold updIn at hs
       split at hs
       · rename_i es hg
         obtain ⟨es1,hp,hs'⟩:=om_some hs
         cases hs'
         rw [em] at hM
         obtain ⟨hA,e1⟩:=hM.inv_map
         obtain ⟨es',clock,q1,q2,q3⟩:=cx.inv.obj b _ hg
         have hlt:(m b).1 < w.heap.size:=(Array.getElem?_eq_some_iff.1 q1).1
         have hent:EntR ψ w S m A es es'.toList:=EntR.of es es'.toList (by simpa using q2) (fun i k v hi=>by
          obtain ⟨c1,x,c2,c3⟩:=q3 i k v hi
          exact ⟨c1,x,by simpa using c2,c3⟩)
         have hoth:∀ o' c,c≠(m b).1→(w.heap.setIfInBounds (m b).1 o')[c]?=w.heap[c]?:=fun o' c hc=>by rw [Array.getElem?_setIfInBounds_ne (Ne.symm hc)]
         have fin:∀ (xs:Array MapEntry) (ck:Nat),(Instr.mapUpdate t (a.eval M) (a.eval K) (a.eval V)).run P w=.ok () { w with heap:=w.heap.setIfInBounds (m b).1 (.map xs ck) }→EntR ψ w S m A es1 xs.toList →
          Snd P ψ N w0 w S m A (execOp a.eval o) (applyUpd h [(b,some (.map es1))]) (.tup []) nid:=by
          intro xs ck hr he
          have le:Le w S m A { w with heap:=w.heap.setIfInBounds (m b).1 (.map xs ck) } S m A:=Le.write (cx.inv.live b _ hg rfl).1 (hoth _) (by simp) (fun c t fr hc=>by rw [q1] at hc;cases hc)
          refine ⟨Go.undef,_,S,m,A,.inr ⟨hex _ hr,rfl⟩,.tup [] #[] rfl (by simp),cx.inv.write hg rfl rfl (hoth _) (by simp) rfl rfl (fun c t fr hc=>by rw [q1] at hc;cases hc) ?_,le,fun _ _ hs=>hs,fun _ q=>.inl q⟩
          obtain ⟨l1,l2⟩:=EntR.to es1 xs.toList (EntR.mono le es1 xs.toList he)
          refine ⟨xs,ck,?_,by simpa using l1,fun i k v hi=>?_⟩
          · show (w.heap.setIfInBounds (m b).1 _)[(m b).1]?=_
            simp [hlt]
          · obtain ⟨c1,x,c2,c3⟩:=l2 i k v hi
            exact ⟨c1,x,by simpa using c2,c3⟩
         have hset:∀ o',(setObj (m b).1 o').run P w=.ok () { w with heap:=w.heap.setIfInBounds (m b).1 o' }:=by intro o';simp [setObj,Sem.run,q1]
         rcases mapPut_run (P:=P) hkd hdk hK hko hV es es1 es'.toList 0 hent hp with ⟨i,old,c,r1,r2,r3,r4⟩ | ⟨r1,r2⟩
         · refine fin (es'.modify i fun e=>{ e with key:=a.eval K,val:=a.eval V }) clock ?_ (by rw [Array.toList_modify];exact r4)
           have hfk:(Instr.findKey kt (a.eval K) es'.toList).run P w=.ok (some (i,c)) w:=by
            unfold Instr.findKey
            rw [Sem.run_bind,run_underlying hdk]
            simp only [Result.andThen_ok,r1,Sem.run_pure,Nat.zero_add]
           have ho':es'[i]?=some old:=by simpa using r2
           unfold Instr.mapUpdate
           rw [e1]
           simp only [Sem.run_bind,run_underlying hd,Result.andThen_ok,run_getObj_map w _ _ _ q1,checkKey_run hkd,hfk,ho',Option.map_some,Option.getD_some,Instr.keyThatStays,r3,if_true,Sem.run_pure,hset]
         · refine fin (es'.push { key:=a.eval K,val:=a.eval V,born:=clock }) (clock+1) ?_ (by rw [Array.toList_push];exact r2 clock)
           have hfk:(Instr.findKey kt (a.eval K) es'.toList).run P w=.ok none w:=by
            unfold Instr.findKey
            rw [Sem.run_bind,run_underlying hdk]
            simp only [Result.andThen_ok,r1,Sem.run_pure]
           unfold Instr.mapUpdate
           rw [e1]
           simp only [Sem.run_bind,run_underlying hd,Result.andThen_ok,run_getObj_map w _ _ _ q1,checkKey_run hkd,hfk,hset]
       · cases hs
     · cases hs
   · cases hs
 · cases hc'
theorem step_ok (cx:Cx P φ ψ N w0 w S m A h e a) {cop:COp} {v:AV} {u:Upd} {nid:Nat} (hc:cOp P φ o.op=some cop) (hs:stepOp cop e h nid=some (v,u)) (hn:¬ A nid) :
 Snd P ψ N w0 w S m A (execOp a.eval o) (applyUpd h u) v nid:=by
 cases ho:o.op with
 | move x=>exact mv_ok cx (.inl ho) cop v u nid hc hs hn
 | assign x=>exact mv_ok cx (.inr ho) cop v u nid hc hs hn
 | pick c x y=>exact pick_ok cx ho cop v u nid hc hs hn
 | alloc t=>exact alloc_ok cx ho cop v u nid hc hs hn
 | box t x=>exact box_ok cx ho cop v u nid hc hs hn
 | build t ps=>rw [ho] at hc;exact build_snd cx ho hc hs
 | buildSlice t len ps=>rw [ho] at hc;exact buildS_snd cx ho hc hn hs
 | load t x=>exact load_ok cx ho cop v u nid hc hs hn
 | store t p x=>exact store_ok cx ho cop v u nid hc hs hn
 | nilCheck x=>exact nilchk_ok cx ho cop v u nid hc hs hn
 | binOp op t X Y t'=>exact bin_ok cx ho cop v u nid hc hs hn
 | unOp op t X=>exact un_ok cx ho cop v u nid hc hs hn
 | convert t t' X=>exact cvt_ok cx ho cop v u nid hc hs hn
 | makeFunc fn f cs=>exact mkfn_ok cx ho cop v u nid hc hs hn
 | makeInterface t X=>exact mkif_ok cx ho cop v u nid hc hs hn
 | makeMap t r=>exact mkmap_ok cx ho cop v u nid hc hs hn
 | makeSlice t l c=>exact mksl_ok cx ho cop v u nid hc hs hn
 | slice t x lo hi mx=>exact slice_ok cx ho cop v u nid hc hs hn
 | fieldAddr t x f=>exact fld_ok cx ho cop v u nid hc hs hn
 | field t x f=>exact fldv_ok cx ho cop v u nid hc hs hn
 | indexAddr t x i=>exact idxs_ok cx ho cop v u nid hc hs hn
 | index t x i=>exact index_ok cx ho cop v u nid hc hs hn
 | lookup t M K ok=>exact look_ok cx ho cop v u nid hc hs hn
 | mapUpdate t M K V=>exact upd_ok cx (.inl ho) cop v u nid hc hs hn
 | insert t M K V=>exact upd_ok cx (.inr ho) cop v u nid hc hs hn
 | range t X=>exact range_ok cx ho cop v u nid hc hs hn
 | next X b =>
  cases b with
  | true=>exact next_ok cx ho cop v u nid hc hs hn
  | false=>rw [ho] at hc;simp only [cOp] at hc;cases hc
 | extract X k=>exact ext_ok cx ho cop v u nid hc hs hn
 | call c =>
  cases hcal:c.callee with
  | builtin b =>
   cases b with
   | len=>exact len_ok cx ho hcal cop v u nid hc hs hn
   | cap=>exact cap_ok cx ho hcal cop v u nid hc hs hn
   | append=>exact app_ok cx ho hcal cop v u nid hc hs hn
   | copy=>exact cpy_ok cx ho hcal cop v u nid hc hs hn
   | clear=>exact clr_ok cx ho hcal cop v u nid hc hs hn
   | max=>exact mx_ok cx ho (mxx:=true) hcal cop v u nid hc hs hn
   | min=>exact mx_ok cx ho (mxx:=false) hcal cop v u nid hc hs hn
   | _=>rw [ho] at hc;simp only [cOp,hcal,cBuiltin] at hc;cases hc
  | value f =>
   rw [ho] at hc
   cases f with
   | func f =>
    simp only [cOp,hcal,Option.bind_eq_bind,Option.bind_eq_some_iff,Option.some.injEq] at hc
    obtain ⟨_,_,_,_,rfl⟩:=hc
    simp only [stepOp,sNone] at hs
    cases hs
   | _ =>
    simp only [cOp,hcal,Option.bind_eq_bind,Option.bind_eq_some_iff,Option.some.injEq] at hc
    obtain ⟨_,_,_,_,rfl⟩:=hc
    simp only [stepOp,sNone] at hs
    cases hs
  | invoke r n=>rw [ho] at hc;simp only [cOp,hcal] at hc;cases hc
 | _=>rw [ho] at hc;simp only [cOp] at hc;cases hc
end
end Go.Pav
end
section
set_option linter.unusedSimpArgs false
set_option linter.unusedVariables false
namespace Go.Pav
open Go
theorem mapO_inv {α β:Type} {f:α→Option β}:∀ {l:List α} {r:List β},mapO f l=some r→∀ (i:Nat) (b:β),r[i]?=some b→∃ a,l[i]?=some a∧f a=some b:=by
 intro l r h i b hb
 obtain ⟨hl,hi⟩:=mapO_some h
 have hlt:i < l.length:=by rw [← hl];exact (List.getElem?_eq_some_iff.1 hb).1
 obtain ⟨b',h1,h2⟩:=hi i l[i] (List.getElem?_eq_getElem hlt)
 rw [hb] at h1
 cases h1
 exact ⟨l[i],List.getElem?_eq_getElem hlt,h2⟩
section
variable {ψ:Psi} {w:World} {S S':Nat→Prop} {m:Nat→Nat × Nat} {A:Nat→Prop} {h:Heap}
theorem frz_cell {n:Nat} {v v':AV} (hf:frz h n v=some v'):v'.cell=v.cell:=by
 cases n with
 | zero=>simp [frz] at hf
 | succ n =>
  cases v <;> simp only [frz] at hf
  case ptr b i o =>
   split at hf
   · obtain ⟨cs,_,hf⟩:=ob_some hf
     obtain ⟨cs',_,rfl⟩:=om_some hf
     rfl
   · cases hf
  case sl b z i len cap ex =>
   split at hf
   · obtain ⟨es',_,hf⟩:=ob_some hf
     obtain ⟨_,hf⟩:=og_some hf
     cases hf;rfl
   · cases hf
  case fn f caps=>obtain ⟨cs,_,rfl⟩:=om_some hf;rfl
  case agg cs=>obtain ⟨cs,_,rfl⟩:=om_some hf;rfl
  case tup cs=>obtain ⟨cs,_,rfl⟩:=om_some hf;rfl
  all_goals (cases hf;try rfl)
theorem take_drop_get {α:Type} {l:List α} {i len k:Nat} {a:α} (hk:((l.drop i).take len)[k]?=some a):k < len∧l[i+k]?=some a:=by
 rw [List.getElem?_take] at hk
 split at hk
 · rename_i hlt
   rw [List.getElem?_drop] at hk
   exact ⟨hlt,hk⟩
 · cases hk
theorem frz_vr (hob:∀ b o,get h b=some o→OR ψ w S m A (m b) o) (hS:∀ b,S b→S' b):∀ (n:Nat) (v v':AV) (c:Value),frz h n v=some v'→VR ψ w S m A v c →
 (∀ b ∈ reach h n v,S' (m b).1)→VR ψ w S' m (fun _=>False) v' c:=by
 intro n
 induction n with
 | zero=>intro v v' c hf;simp [frz] at hf
 | succ n ih =>
  intro v v' c hf hv hr
  cases hv with
  | undef=>simp [frz] at hf
  | bool b=>simp only [frz] at hf;cases hf;exact .bool b
  | int k x=>simp only [frz] at hf;cases hf;exact .int k x
  | str s=>simp only [frz] at hf;cases hf;exact .str s
  | nilp=>simp only [frz] at hf;cases hf;exact .nilp
  | nils=>simp only [frz] at hf;cases hf;exact .nils
  | nilm=>simp only [frz] at hf;cases hf;exact .nilm
  | nilf=>simp only [frz] at hf;cases hf;exact .nilf
  | roe z ex a k hk=>simp only [frz] at hf;cases hf;exact .roe z ex a k hk
  | ro z es ex b off cap cs h1 h2 h3 h4 h5 h6 =>
   simp only [frz] at hf;cases hf
   exact (VR.ro (A:=fun _=>False) z es ex b off cap cs h1 h2 h3 h4 h5 h6).mono' (fun _ _=>rfl) (fun _ c _ _ h=>⟨c,h,rfl⟩) hS (fun _ h=>h) (fun _ h=>h.elim)
  | rop cs b off vs h1 h2 h3 =>
   simp only [frz] at hf;cases hf
   exact (VR.rop (A:=fun _=>False) cs b off vs h1 h2 h3).mono' (fun _ _=>rfl) (fun _ c _ _ h=>⟨c,h,rfl⟩) hS (fun _ h=>h) (fun _ h=>h.elim)
  | ptr b i o hA =>
   simp only [frz] at hf
   split at hf
   · rename_i zb es mu hg
     obtain ⟨cs,hcs,hf⟩:=ob_some hf
     obtain ⟨cs',hcs',rfl⟩:=om_some hf
     obtain ⟨q1,q2,cur,t,q3,q4,q5⟩:=hob b _ hg
     have elem:∀ (j:Nat) (x':AV),cs'[j]?=some x'→∃ x,cs[o+j]?=some x∧x ∈ cs.drop o∧frz h n x=some x':=by
      intro j x' hj
      obtain ⟨x,r1,r2⟩:=mapO_inv hcs' j x' hj
      exact ⟨x,by rw [List.getElem?_drop] at r1;exact r1,List.mem_of_getElem? r1,r2⟩
     refine VR.rop cs' (m b).1 (i * (m b).2+o) (fun j=>cur.getD (i * zb+(o+j)) Go.undef) (hr b (by simp [reach])) ?_ ?_
     · intro j x' hj
       obtain ⟨x,r1,r2,r3⟩:=elem j x' hj
       obtain ⟨t1,u,t2,t3⟩:=q5 _ cs _ x hcs r1
       refine ⟨by rw [frz_cell r3];exact t1,?_⟩
       have e1:i * (m b).2+o+j=i * zb+(o+j):=by rw [← q1,Nat.add_assoc]
       simp only [World.cell?,q3,e1,Option.isSome_none,Bool.false_eq_true,if_false]
       rw [t2,Array.getD_eq_getD_getElem?,t2];rfl
     · intro j x' hj
       obtain ⟨x,r1,r2,r3⟩:=elem j x' hj
       obtain ⟨t1,u,t2,t3⟩:=q5 _ cs _ x hcs r1
       rw [Array.getD_eq_getD_getElem?,t2]
       refine ih x x' u r3 t3 fun b' hb'=>hr b' ?_
       simp only [reach,hg,hcs,Option.getD_some,List.mem_cons,List.mem_flatMap]
       exact .inr ⟨x,r2,hb'⟩
   · cases hf
  | map b hA=>simp [frz] at hf
  | sl b z i len cap ex cc hA hz hl hc hx hrow =>
   simp only [frz] at hf
   split at hf
   · rename_i zb es mu hg
     obtain ⟨es',hes,hf⟩:=ob_some hf
     obtain ⟨hlen,hf⟩:=og_some hf
     simp only [decide_eq_true_eq] at hlen
     cases hf
     obtain ⟨q1,q2,cur,t,q3,q4,q5⟩:=hob b _ hg
     have hzb:zb=z:=q1.symm.trans hz
     subst hzb
     have elem:∀ (k:Nat) (e':List AV),es'[k]?=some e'→∃ e,es[i+k]?=some e∧((es.drop i).take len)[k]?=some e∧mapO (frz h n) e=some e':=by
      intro k e' hk
      obtain ⟨e,r1,r2⟩:=mapO_inv hes k e' hk
      exact ⟨e,(take_drop_get r1).2,r1,r2⟩
     have hro:=VR.ro (ψ:=ψ) (w:=w) (S:=S') (m:=m) (A:=fun _=>False) zb es' (ex&&decide (cap=len)) (m b).1 (i * zb) cc (fun k j=>cur.getD ((i+k) * zb+j) Go.undef)
      (hr b (by simp [reach])) ?_ (by rw [hlen];exact hl) ?_ ?_ ?_
     · rw [hlen] at hro;exact hro
     · intro k e' hk
       obtain ⟨e,r1,r2,r3⟩:=elem k e' hk
       rw [(mapO_some r3).1]
       exact q2 _ _ r1
     · intro hx'
       simp only [Bool.and_eq_true,decide_eq_true_eq] at hx'
       rw [hx hx'.1,hx'.2,hlen]
     · intro k e' j x' hk hj
       obtain ⟨e,r1,r2,r3⟩:=elem k e' hk
       obtain ⟨x,s1,s2⟩:=mapO_inv r3 j x' hj
       obtain ⟨t1,u,t2,t3⟩:=q5 _ e j x r1 s1
       refine ⟨by rw [frz_cell s2];exact t1,?_⟩
       have e1:i * zb+k * zb+j=(i+k) * zb+j:=by rw [Nat.add_mul]
       simp only [World.cell?,q3,e1,Option.isSome_none,Bool.false_eq_true,if_false]
       rw [t2,Array.getD_eq_getD_getElem?,t2];rfl
     · intro k e' j x' hk hj
       obtain ⟨e,r1,r2,r3⟩:=elem k e' hk
       obtain ⟨x,s1,s2⟩:=mapO_inv r3 j x' hj
       obtain ⟨t1,u,t2,t3⟩:=q5 _ e j x r1 s1
       rw [Array.getD_eq_getD_getElem?,t2]
       refine ih x x' u s2 t3 fun b' hb'=>hr b' ?_
       simp only [reach,hg,List.mem_cons,List.mem_flatMap]
       exact .inr ⟨e,List.mem_of_getElem? r2,x,List.mem_of_getElem? s1,hb'⟩
   · cases hf
  | fn f caps vs hn hc _ hv =>
   simp only [frz] at hf
   obtain ⟨cs,hcs,rfl⟩:=om_some hf
   refine .fn f cs vs (by rw [(mapO_some hcs).1];exact hn) (fun j x' hj=>?_) _ hv
   obtain ⟨x,s1,s2⟩:=mapO_inv hcs j x' hj
   refine ih x x' _ s2 (hc j x s1) fun b' hb'=>hr b' ?_
   simp only [reach,List.mem_flatMap]
   exact ⟨x,List.mem_of_getElem? s1,hb'⟩
  | agg cs vs hn hcell hc =>
   simp only [frz] at hf
   obtain ⟨cs',hcs,rfl⟩:=om_some hf
   refine .agg cs' vs (by rw [(mapO_some hcs).1];exact hn) (fun j x' hj=>?_) fun j x' hj=>?_
   · obtain ⟨x,s1,s2⟩:=mapO_inv hcs j x' hj
     rw [frz_cell s2];exact hcell j x s1
   · obtain ⟨x,s1,s2⟩:=mapO_inv hcs j x' hj
     refine ih x x' _ s2 (hc j x s1) fun b' hb'=>hr b' ?_
     simp only [reach,List.mem_flatMap]
     exact ⟨x,List.mem_of_getElem? s1,hb'⟩
  | tup cs vs hn hc =>
   simp only [frz] at hf
   obtain ⟨cs',hcs,rfl⟩:=om_some hf
   refine .tup cs' vs (by rw [(mapO_some hcs).1];exact hn) fun j x' hj=>?_
   obtain ⟨x,s1,s2⟩:=mapO_inv hcs j x' hj
   refine ih x x' _ s2 (hc j x s1) fun b' hb'=>hr b' ?_
   simp only [reach,List.mem_flatMap]
   exact ⟨x,List.mem_of_getElem? s1,hb'⟩
theorem frz_reach:∀ (n:Nat) (v v':AV),frz h n v=some v'→∀ b ∈ reach h n v,∃ z es mu,get h b=some (.cells z es mu):=by
 intro n
 induction n with
 | zero=>intro v v' hf;simp [frz] at hf
 | succ n ih =>
  have many:∀ (l r:List AV),mapO (frz h n) l=some r→∀ b ∈ l.flatMap (reach h n),∃ z es mu,get h b=some (.cells z es mu):=by
   intro l r hl b hb
   simp only [List.mem_flatMap] at hb
   obtain ⟨x,hx,hb⟩:=hb
   obtain ⟨j,hj,e⟩:=List.getElem_of_mem hx
   obtain ⟨x',_,h2⟩:=(mapO_some hl).2 j x (by rw [List.getElem?_eq_getElem hj,e])
   exact ih x x' h2 b hb
  intro v v' hf b hb
  cases v <;> simp only [frz,reach] at hf hb <;> try (simp at hb;done)
  case ptr b0 i o =>
   split at hf
   · rename_i zb es mu hg
     simp only [hg,List.mem_cons] at hb
     obtain ⟨cs,hcs,hf⟩:=ob_some hf
     obtain ⟨cs',hcs',rfl⟩:=om_some hf
     rcases hb with rfl | hb
     · exact ⟨_,_,_,hg⟩
     · rw [hcs] at hb
       exact many _ _ hcs' b hb
   · cases hf
  case sl b0 z i len cap ex =>
   split at hf
   · rename_i zb es mu hg
     simp only [hg,List.mem_cons,List.mem_flatMap] at hb
     obtain ⟨es',hes,hf⟩:=ob_some hf
     rcases hb with rfl | ⟨e,he,hb⟩
     · exact ⟨_,_,_,hg⟩
     · obtain ⟨j,hj,e1⟩:=List.getElem_of_mem he
       obtain ⟨x',_,h2⟩:=(mapO_some hes).2 j e (by rw [List.getElem?_eq_getElem hj,e1])
       exact many e x' h2 b (by simpa only [List.mem_flatMap] using hb)
   · cases hf
  case fn f caps=>obtain ⟨cs,hcs,rfl⟩:=om_some hf;exact many _ _ hcs b hb
  case agg cs=>obtain ⟨cs,hcs,rfl⟩:=om_some hf;exact many _ _ hcs b hb
  case tup cs=>obtain ⟨cs,hcs,rfl⟩:=om_some hf;exact many _ _ hcs b hb
theorem noref_vr {w':World} {m':Nat→Nat × Nat}:∀ (n:Nat) (v:AV) (c:Value),hasRef n v=false→VR ψ w S m (fun _=>False) v c→VR ψ w' S' m' (fun _=>False) v c:=by
 intro n
 induction n with
 | zero=>intro v c hf;simp [hasRef] at hf
 | succ n ih =>
  intro v c hf hv
  have each:∀ (l:List AV),l.any (hasRef n)=false→∀ (j:Nat) (x:AV),l[j]?=some x→hasRef n x=false:=by
   intro l hl j x hj
   cases hx:hasRef n x with
   | false=>rfl
   | true=>rw [List.any_eq_true.2 ⟨x,List.mem_of_getElem? hj,hx⟩] at hl;cases hl
  cases hv with
  | undef=>exact .undef _
  | bool b=>exact .bool b
  | int k x=>exact .int k x
  | str s=>exact .str s
  | nilp=>exact .nilp
  | nils=>exact .nils
  | nilm=>exact .nilm
  | nilf=>exact .nilf
  | ro=>simp [hasRef] at hf
  | roe=>simp [hasRef] at hf
  | rop=>simp [hasRef] at hf
  | ptr b i o hA=>exact hA.elim
  | map b hA=>exact hA.elim
  | sl b z i len cap ex cc hA=>exact hA.elim
  | fn f caps vs hn hc _ hv=>exact .fn f caps vs hn (fun j x hj=>ih x _ (each _ (by simpa [hasRef] using hf) j x hj) (hc j x hj)) _ hv
  | agg cs vs hn hcell hc=>exact .agg cs vs hn hcell fun j x hj=>ih x _ (each _ (by simpa only [hasRef] using hf) j x hj) (hc j x hj)
  | tup cs vs hn hc=>exact .tup cs vs hn fun j x hj=>ih x _ (each _ (by simpa only [hasRef] using hf) j x hj) (hc j x hj)
end
def Out (ψ:Psi) (N:Nat) (w0 w:World) (S:Nat→Prop) (m:Nat→Nat × Nat) (A:Nat→Prop) (n:Nat) (w':World) (v:AV) (cv:Value) (h':Heap) (n':Nat):Prop :=
 ∃ S' m' A',VR ψ w' S' m' A' v cv∧Inv ψ N w0 w' S' m' A' h'∧Le w S m A w' S' m' A'∧(∀ c,c < N→S' c→S c)∧n≤n'∧∀ b,A' b→A b∨(n≤b∧b < n')
def PlainFn (P:Program) (f:FuncId):Prop:=∀ fn c,P.funcs[f]?=some fn→fn.body=some c→hasDefer c=false∧fn.params.size=0
def CallsX (P:Program) (f:FuncId) (args:Array Value) (w:World) (R:Ending→World→Prop):Prop :=
 Calls P f args w R∧(PlainFn P f→∀ u,CallsD P f args u w fun e u' w'=>u'=u∧R e w')
theorem CallsX.mono {P:Program} {f:FuncId} {args:Array Value} {w:World} {R R':Ending→World→Prop} (h:CallsX P f args w R) (hr:∀ e w',R e w'→R' e w'):CallsX P f args w R' :=
 ⟨Calls.mono h.1 hr,fun hp u=>(h.2 hp u).mono fun e u' w' q=>⟨q.1,hr e w' q.2⟩⟩
def RunOk (P:Program) (ψ:Psi) (run:Run):Prop :=
 ∀ (g:Nat) (args:List AV) (h:Heap) (n:Nat) (v:AV) (h':Heap) (n':Nat),run g args h n=some (v,h',n') →
  (g < 1000000 ∧ ∃ fn c, P.funcs[ψ g]? = some fn ∧ fn.name ≠ "runtime.NumGoroutine" ∧ fn.body = some c) ∧
  ∀ (N:Nat) (w0 w:World) (S:Nat→Prop) (m:Nat→Nat × Nat) (A:Nat→Prop) (cargs:Array Value),Inv ψ N w0 w S m A h→(∀ b,A b→b < n)→cargs.size=args.length →
   (∀ (j:Nat) (x:AV),args[j]?=some x→VR ψ w S m A x (cargs.getD j Go.undef)) →
   CallsX P (ψ g) cargs w fun e w'=>∃ cv,e=.returned cv∧Out ψ N w0 w S m A n w' v cv h' n'
section
variable {P:Program} {ψ:Psi} {N:Nat} {w0 w:World} {S:Nat→Prop} {m:Nat→Nat × Nat} {A:Nat→Prop} {h:Heap} {run:Run}
theorem pure_ok (hr:RunOk P ψ run) {g:Nat} {args az:List AV} {n:Nat} {v:AV} {cargs:Array Value} (hfr:mapO (frz h frzDepth) args=some az) (hp:pureCall run g az=some v)
 (i:Inv ψ N w0 w S m A h) (hs:cargs.size=args.length) (hv:∀ (j:Nat) (x:AV),args[j]?=some x→VR ψ w S m A x (cargs.getD j Go.undef)) :
 CallsX P (ψ g) cargs w fun e w'=>∃ cv,e=.returned cv∧Out ψ N w0 w S m A n w' v cv (applyUpd h (marks h args v)) n:=by
 obtain ⟨⟨v0,h0,n0⟩,hrun,hfv⟩:=ob_some hp
 let S1:Nat→Prop:=fun c=>S c∨∃ b ∈ args.flatMap (reach h frzDepth),c=(m b).1
 have hreach:∀ b ∈ args.flatMap (reach h frzDepth),∃ z es mu,get h b=some (.cells z es mu):=by
  intro b hb
  simp only [List.mem_flatMap] at hb
  obtain ⟨x,hx,hb⟩:=hb
  obtain ⟨j,hj,e⟩:=List.getElem_of_mem hx
  obtain ⟨x',_,h2⟩:=(mapO_some hfr).2 j x (by rw [List.getElem?_eq_getElem hj,e])
  exact frz_reach _ x x' h2 b hb
 have hS1:∀ c,S1 c→c < w.heap.size:=by
  rintro c (hc | ⟨b,hb,rfl⟩)
  · exact i.sb c hc
  · obtain ⟨z,es,mu,hg⟩:=hreach b hb
    exact (i.obj b _ hg).lt
 have hi0:Inv ψ w.heap.size w w S1 m (fun _=>False) ([]:Heap) :=
  ⟨fun b o hb=>by simp [get] at hb,fun b o hb=>by simp [get] at hb,fun b o hb=>by simp [get] at hb,fun b o hb=>by simp [get] at hb,fun b o b' o' hb=>by simp [get] at hb,
   hS1,Nat.le_refl _,fun _ _=>rfl,rfl,rfl,i.laidw⟩
 refine CallsX.mono ((hr g az [] 0 v0 h0 n0 hrun).2 w.heap.size w w S1 m (fun _=>False) cargs hi0 (fun b hb=>hb.elim) (by rw [(mapO_some hfr).1];exact hs) ?_) ?_
 · intro j x' hj
   obtain ⟨x,s1,s2⟩:=mapO_inv hfr j x' hj
   exact frz_vr i.obj (fun b hb=>.inl hb) frzDepth x x' _ s2 (hv j x s1) fun b hb=>.inr ⟨b,by simp only [List.mem_flatMap];exact ⟨x,List.mem_of_getElem? s1,hb⟩,rfl⟩
 · rintro e w' ⟨cv,rfl,S',m',A',hvr,hinv,hle,hsub,_,_⟩
   refine ⟨cv,rfl,?_⟩
   let S2:Nat→Prop:=fun c=>S' c∨∃ b ∈ reach h0 frzDepth v0,c=(m' b).1
   have hfro:=frz_vr (S':=S2) hinv.obj (fun b hb=>.inl hb) frzDepth v0 v _ hfv hvr fun b hb=>.inr ⟨b,hb,rfl⟩
   have hold:∀ c,c < w.heap.size→w'.heap[c]?=w.heap[c]?:=hinv.old
   by_cases href:hasRef frzDepth v=true
   · have hS2:∀ c,S2 c→c < w'.heap.size:=by
      rintro c (hc | ⟨b,hb,rfl⟩)
      · exact hinv.sb c hc
      · obtain ⟨z,es,mu,hg⟩:=frz_reach _ v0 v hfv b hb
        exact (hinv.obj b _ hg).lt
     have hS21:∀ c,S2 c→c < w.heap.size→S1 c:=by
      rintro c (hc | ⟨b,hb,rfl⟩) hlt
      · exact hsub c hlt hc
      · obtain ⟨z,es,mu,hg⟩:=frz_reach _ v0 v hfv b hb
        cases mu with
        | true=>have:=(hinv.live b _ hg rfl).2;omega
        | false=>exact hsub _ hlt (hinv.fro b _ hg rfl)
     have h12:∀ c,S1 c→S2 c:=fun c hc=>.inl (hle.sub c hc)
     obtain ⟨j1,j2⟩:=i.data (w':=w') (Sn:=S2) hold hinv.size hinv.os hinv.out (fun c hc=>h12 c (.inl hc)) hS2 (args.flatMap (reach h frzDepth))
      (fun b hb=>by
       obtain ⟨z,es,mu,hg⟩:=hreach b hb
       exact ⟨z,es,mu,hg,h12 _ (.inr ⟨b,hb,rfl⟩)⟩)
      (fun c hc=>by
       rcases Nat.lt_or_ge c w.heap.size with hlt | hge
       · rcases hS21 c hc hlt with q | q
         · exact .inl q
         · exact .inr (.inl q)
       · exact .inr (.inr hge))
     refine ⟨S2,m,A,?_,?_,j2,?_,Nat.le_refl _,fun b hb=>.inl hb⟩
     · exact hfro.mono' (fun _ _=>rfl) (fun _ c _ _ h=>⟨c,h,rfl⟩) (fun _ h=>h) (fun _ h=>h.elim) (fun _ h=>h.elim)
     · simp only [marks,href,if_true];exact j1
     · intro c hc hs2
       rcases hS21 c hs2 (Nat.lt_of_lt_of_le hc i.size) with q | ⟨b,hb,rfl⟩
       · exact q
       · obtain ⟨z,es,mu,hg⟩:=hreach b hb
         cases mu with
         | true=>have:=(i.live b _ hg rfl).2;omega
         | false=>exact i.fro b _ hg rfl
   · have href':hasRef frzDepth v=false:=by simpa using href
     obtain ⟨j1,j2⟩:=i.data (w':=w') (Sn:=S) hold hinv.size hinv.os hinv.out (fun c hc=>hc) (fun c hc=>Nat.lt_of_lt_of_le (i.sb c hc) hinv.size) [] (fun b hb=>by cases hb) (fun c hc=>.inl hc)
     refine ⟨S,m,A,(noref_vr frzDepth v cv href' hfro:VR ψ w' S m (fun _=>False) v cv).open_,?_,j2,fun c _ hs=>hs,Nat.le_refl _,fun b hb=>.inl hb⟩
     simp only [marks,href',Bool.false_eq_true,if_false];exact j1
theorem inline_ok (hr:RunOk P ψ run) {g:Nat} {args:List AV} {n:Nat} {r:AV × Heap × Nat} {cargs:Array Value} (hp:inlineCall run g args h n=some r)
 (i:Inv ψ N w0 w S m A h) (hn:∀ b,A b→b < n) (hs:cargs.size=args.length) (hv:∀ (j:Nat) (x:AV),args[j]?=some x→VR ψ w S m A x (cargs.getD j Go.undef)) :
 CallsX P (ψ g) cargs w fun e w'=>∃ cv,e=.returned cv∧Out ψ N w0 w S m A n w' r.1 cv r.2.1 r.2.2:=by
 obtain ⟨⟨v0,h0,n0⟩,hrun,rfl⟩:=om_some hp
 refine CallsX.mono ((hr g args h n v0 h0 n0 hrun).2 N w0 w S m A cargs i hn hs hv) ?_
 rintro e w' ⟨cv,rfl,S',m',A',hvr,hinv,hle,hsub,hnn,hA⟩
 refine ⟨cv,rfl,?_⟩
 exact ⟨S',m',A',hvr,hinv,hle,hsub,hnn,hA⟩
theorem plain_vr {S S' A':Nat→Prop} {m':Nat→Nat × Nat} {x:AV} {v:Value} (hx:plainC x=true) (h:VR ψ w S m A x v) (hs:∀ b,S b→S' b):VR ψ w S' m' A' x v:=by
 cases h with
 | undef=>simp [plainC] at hx
 | bool b=>exact .bool b
 | int k n=>exact .int k n
 | str s=>exact .str s
 | nilp=>exact .nilp
 | nils=>exact .nils
 | nilm=>exact .nilm
 | nilf=>exact .nilf
 | roe z ex a k hk=>exact .roe z ex a k hk
 | ro z es ex b off cap cs hS hz hc hx2 hcell hrep =>
  exact .ro z es ex b off cap cs (hs b hS) hz hc hx2 hcell (fun i e j x h1 h2=>(hrep i e j x h1 h2).mono' (fun _ _=>rfl) (fun _ c _ _ h=>⟨c,h,rfl⟩) hs (fun _ h=>h) (fun _ h=>h.elim))
 | rop cs b off vs hS hcell hrep =>
  exact .rop cs b off vs (hs b hS) hcell (fun j x h1=>(hrep j x h1).mono' (fun _ _=>rfl) (fun _ c _ _ h=>⟨c,h,rfl⟩) hs (fun _ h=>h) (fun _ h=>h.elim))
 | ptr=>simp [plainC] at hx
 | sl=>simp [plainC] at hx
 | map=>simp [plainC] at hx
 | agg=>simp [plainC] at hx
 | tup=>simp [plainC] at hx
 | fn f caps vs hn hc _ hv =>
  cases caps with
  | nil=>exact .fn f [] vs hn (fun j x hj=>by simp at hj) _ hv
  | cons a r=>simp [plainC] at hx
theorem handL_get {b nid:Nat}:∀ (l r:List AV),handL b nid l=some r→r.length=l.length∧∀ (j:Nat) (x':AV),r[j]?=some x'→∃ x,l[j]?=some x∧hand b nid x=some x':=by
 intro l
 induction l with
 | nil=>intro r hr;simp only [handL,Option.some.injEq] at hr;subst hr;exact ⟨rfl,fun j x' hj=>by simp at hj⟩
 | cons a l ih =>
  intro r hr
  simp only [handL] at hr
  obtain ⟨y,h1,hr⟩:=ob_some hr
  obtain ⟨ys,h2,rfl⟩:=om_some hr
  obtain ⟨q1,q2⟩:=ih ys h2
  refine ⟨by simp [q1],fun j x' hj=>?_⟩
  cases j with
  | zero=>simp only [List.getElem?_cons_zero,Option.some.injEq] at hj;subst hj;exact ⟨a,by simp,h1⟩
  | succ j=>simpa using q2 j x' (by simpa using hj)
theorem hand_cell {b nid:Nat} {v v':AV} (hf:hand b nid v=some v'):v'.cell=v.cell:=by
 cases v <;> simp only [hand] at hf
 case ptr=>split at hf <;> cases hf;rfl
 case sl=>split at hf <;> cases hf;rfl
 case fn f caps=>obtain ⟨cs,_,rfl⟩:=om_some hf;rfl
 case agg cs=>obtain ⟨cs,_,rfl⟩:=om_some hf;rfl
 case tup cs=>obtain ⟨cs,_,rfl⟩:=om_some hf;rfl
 all_goals (cases hf;try rfl)
theorem hand_vr {b nid:Nat} {m2:Nat→Nat × Nat} {A2:Nat→Prop} (hb:A b→A2 nid∧m2 nid=m b) {v:AV} {c:Value} (hv:VR ψ w S m A v c):∀ v',hand b nid v=some v'→VR ψ w S m2 A2 v' c:=by
 have data:∀ {S A A2:Nat→Prop} {m m2:Nat→Nat × Nat} {x:AV} {u:Value},plainC x=true→VR ψ w S m A x u→VR ψ w S m2 A2 x u:=fun hx h=>plain_vr hx h fun _ h=>h
 induction hv with
 | undef v=>intro v' h;simp [hand] at h
 | bool b=>intro v' h;simp only [hand] at h;cases h;exact .bool b
 | int k n=>intro v' h;simp only [hand] at h;cases h;exact .int k n
 | str s=>intro v' h;simp only [hand] at h;cases h;exact .str s
 | nilp=>intro v' h;simp only [hand] at h;cases h;exact .nilp
 | nils=>intro v' h;simp only [hand] at h;cases h;exact .nils
 | nilm=>intro v' h;simp only [hand] at h;cases h;exact .nilm
 | nilf=>intro v' h;simp only [hand] at h;cases h;exact .nilf
 | roe z ex a k hk=>intro v' h;simp only [hand] at h;cases h;exact .roe z ex a k hk
 | ro z es ex b off cap cs hS hz hc hx hcell hrep _ =>
  intro v' h;simp only [hand] at h;cases h
  exact data rfl (VR.ro (A:=A) z es ex b off cap cs hS hz hc hx hcell hrep)
 | rop cs b off vs hS hcell hrep _ =>
  intro v' h;simp only [hand] at h;cases h
  exact data rfl (VR.rop (A:=A) cs b off vs hS hcell hrep)
 | ptr c i o hA =>
  intro v' h
  simp only [hand] at h
  split at h
  · rename_i e
    cases h
    subst e
    obtain ⟨q1,q2⟩:=hb hA
    rw [← q2]
    exact .ptr nid i o q1
  · cases h
 | sl c z i len cap ex k hA hz hl hc hx hrow =>
  intro v' h
  simp only [hand] at h
  split at h
  · rename_i e
    cases h
    subst e
    obtain ⟨q1,q2⟩:=hb hA
    rw [← q2] at hz hrow ⊢
    exact .sl nid z i len cap ex k q1 hz hl hc hx hrow
  · cases h
 | map c hA=>intro v' h;simp [hand] at h
 | fn f caps vs hn _ cv hv ih =>
  intro v' h
  simp only [hand] at h
  obtain ⟨cs,h1,rfl⟩:=om_some h
  obtain ⟨q1,q2⟩:=handL_get _ _ h1
  refine .fn f cs vs (hn.trans q1.symm) (fun j x' hj=>?_) cv hv
  obtain ⟨x,r1,r2⟩:=q2 j x' hj
  exact ih j x r1 hb x' r2
 | agg cs vs hn hcell _ ih =>
  intro v' h
  simp only [hand] at h
  obtain ⟨cs',h1,rfl⟩:=om_some h
  obtain ⟨q1,q2⟩:=handL_get _ _ h1
  refine .agg cs' vs (hn.trans q1.symm) (fun j x' hj=>?_) fun j x' hj=>?_
  · obtain ⟨x,r1,r2⟩:=q2 j x' hj
    rw [hand_cell r2];exact hcell j x r1
  · obtain ⟨x,r1,r2⟩:=q2 j x' hj
    exact ih j x r1 hb x' r2
 | tup cs vs hn _ ih =>
  intro v' h
  simp only [hand] at h
  obtain ⟨cs',h1,rfl⟩:=om_some h
  obtain ⟨q1,q2⟩:=handL_get _ _ h1
  refine .tup cs' vs (hn.trans q1.symm) fun j x' hj=>?_
  obtain ⟨x,r1,r2⟩:=q2 j x' hj
  exact ih j x r1 hb x' r2
theorem Inv.join (i:Inv ψ N w0 w S m A h) {nid:Nat} (hn:¬ A nid) (x:Nat × Nat) (o:AObj) (hor:OR ψ w S (updM m nid x) (addA A nid) x o) (hm:mutab o=true) (hlive:¬ S x.1∧N≤x.1)
 (hne:∀ b o',get h b=some o'→mutab o'=true→(m b).1≠x.1):Inv ψ N w0 w S (updM m nid x) (addA A nid) (put h nid o)∧Le w S m A w S (updM m nid x) (addA A nid):=by
 have mof:∀ b,b≠nid→updM m nid x b=m b:=fun b hb=>by simp [updM,hb]
 have mn:updM m nid x nid=x:=by simp [updM]
 have le:Le w S m A w S (updM m nid x) (addA A nid) :=
  ⟨fun _ _=>rfl,fun _ c _ _ h=>⟨c,h,rfl⟩,Nat.le_refl _,fun _ h=>h,fun _ h=>.inl h,fun b hb=>mof b fun e=>hn (e ▸ hb)⟩
 refine ⟨?_,le⟩
 constructor
 · intro b o' hb
   rw [get_put] at hb
   by_cases e:nid=b
   · exact .inr e.symm
   · rw [if_neg e] at hb;exact .inl (i.dom b o' hb)
 · intro b o' hb
   rw [get_put] at hb
   by_cases e:nid=b
   · rw [if_pos e] at hb
     cases hb
     subst e
     rw [mn];exact hor
   · rw [if_neg e] at hb
     rw [mof b (Ne.symm e)]
     exact (i.obj b o' hb).mono le rfl
 · intro b o' hb hf
   rw [get_put] at hb
   by_cases e:nid=b
   · rw [if_pos e] at hb;cases hb;rw [hm] at hf;cases hf
   · rw [if_neg e] at hb;rw [mof b (Ne.symm e)];exact i.fro b o' hb hf
 · intro b o' hb hf
   rw [get_put] at hb
   by_cases e:nid=b
   · subst e;rw [mn];exact hlive
   · rw [if_neg e] at hb;rw [mof b (Ne.symm e)];exact i.live b o' hb hf
 · intro b o1 b' o2 h1 h2 f1 f2 hne'
   rw [get_put] at h1 h2
   by_cases e1:nid=b
   · by_cases e2:nid=b'
     · exact absurd (e1.symm.trans e2) hne'
     · rw [if_neg e2] at h2
       subst e1
       rw [mn,mof b' (Ne.symm e2)]
       exact Ne.symm (hne b' o2 h2 f2)
   · rw [if_neg e1] at h1
     by_cases e2:nid=b'
     · subst e2
       rw [mn,mof b (Ne.symm e1)]
       exact hne b o1 h1 f1
     · rw [if_neg e2] at h2
       rw [mof b (Ne.symm e1),mof b' (Ne.symm e2)]
       exact i.inj b o1 b' o2 h1 h2 f1 f2 hne'
 · exact i.sb
 · exact i.size
 · exact i.old
 · exact i.os
 · exact i.out
 · exact i.laid
theorem applyUpd_append:∀ (u v:Upd) (h:Heap),applyUpd h (u++v)=applyUpd (applyUpd h u) v:=by
 intro u
 induction u with
 | nil=>intro v h;rfl
 | cons x u ih=>intro v h;obtain ⟨b,o⟩:=x;simp only [List.cons_append,applyUpd];exact ih v _
theorem fresh_ok (hr:RunOk P ψ run) {g:Nat} {args az:List AV} {nid n:Nat} {x:AV × Upd} {cargs:Array Value} (hfr:mapO (frz h frzDepth) args=some az) (hp:freshCall run g az nid=some x)
 (i:Inv ψ N w0 w S m A h) (hnid:¬ A nid) (hs:cargs.size=args.length) (hv:∀ (j:Nat) (x:AV),args[j]?=some x→VR ψ w S m A x (cargs.getD j Go.undef)) :
 CallsX P (ψ g) cargs w fun e w'=>∃ cv,e=.returned cv∧∃ S' m' A',VR ψ w' S' m' A' x.1 cv∧Inv ψ N w0 w' S' m' A' (applyUpd h (markFrozen h (args.flatMap (reach h frzDepth))++x.2))∧Le w S m A w' S' m' A' ∧
  (∀ c,c < N→S' c→S c)∧n≤n∧∀ b,A' b→A b∨b=nid∨(n≤b∧b < n):=by
 obtain ⟨⟨v0,h0,n0⟩,hrun,hx⟩:=ob_some hp
 let S1:Nat→Prop:=fun c=>S c∨∃ b ∈ args.flatMap (reach h frzDepth),c=(m b).1
 have hreach:∀ b ∈ args.flatMap (reach h frzDepth),∃ z es mu,get h b=some (.cells z es mu):=by
  intro b hb
  simp only [List.mem_flatMap] at hb
  obtain ⟨x,hx,hb⟩:=hb
  obtain ⟨j,hj,e⟩:=List.getElem_of_mem hx
  obtain ⟨x',_,h2⟩:=(mapO_some hfr).2 j x (by rw [List.getElem?_eq_getElem hj,e])
  exact frz_reach _ x x' h2 b hb
 have hS1:∀ c,S1 c→c < w.heap.size:=by
  rintro c (hc | ⟨b,hb,rfl⟩)
  · exact i.sb c hc
  · obtain ⟨z,es,mu,hg⟩:=hreach b hb
    exact (i.obj b _ hg).lt
 have hi0:Inv ψ w.heap.size w w S1 m (fun _=>False) ([]:Heap) :=
  ⟨fun b o hb=>by simp [get] at hb,fun b o hb=>by simp [get] at hb,fun b o hb=>by simp [get] at hb,fun b o hb=>by simp [get] at hb,fun b o b' o' hb=>by simp [get] at hb,
   hS1,Nat.le_refl _,fun _ _=>rfl,rfl,rfl,i.laidw⟩
 refine CallsX.mono ((hr g az [] 0 v0 h0 n0 hrun).2 w.heap.size w w S1 m (fun _=>False) cargs hi0 (fun b hb=>hb.elim) (by rw [(mapO_some hfr).1];exact hs) ?_) ?_
 · intro j x' hj
   obtain ⟨x,s1,s2⟩:=mapO_inv hfr j x' hj
   exact frz_vr i.obj (fun b hb=>.inl hb) frzDepth x x' _ s2 (hv j x s1) fun b hb=>.inr ⟨b,by simp only [List.mem_flatMap];exact ⟨x,List.mem_of_getElem? s1,hb⟩,rfl⟩
 · rintro e w' ⟨cv,rfl,S',m',A',hvr,hinv,hle,hsub,_,hA'⟩
   refine ⟨cv,rfl,?_⟩
   have hold:∀ c,c < w.heap.size→w'.heap[c]?=w.heap[c]?:=hinv.old
   have h12:∀ c,S1 c→S' c:=hle.sub
   obtain ⟨j1,j2⟩:=i.data (w':=w') (Sn:=S') hold hinv.size hinv.os hinv.out (fun c hc=>h12 c (.inl hc)) hinv.sb (args.flatMap (reach h frzDepth))
    (fun b hb=>by
     obtain ⟨z,es,mu,hg⟩:=hreach b hb
     exact ⟨z,es,mu,hg,h12 _ (.inr ⟨b,hb,rfl⟩)⟩)
    (fun c hc=>by
     rcases Nat.lt_or_ge c w.heap.size with hlt | hge
     · rcases hsub c hlt hc with q | q
       · exact .inl q
       · exact .inr (.inl q)
     · exact .inr (.inr hge))
   have hlow:∀ c,c < N→S' c→S c:=by
    intro c hc hs2
    rcases hsub c (Nat.lt_of_lt_of_le hc i.size) hs2 with q | ⟨b,hb,rfl⟩
    · exact q
    · obtain ⟨z,es,mu,hg⟩:=hreach b hb
      cases mu with
      | true=>have:=(i.live b _ hg rfl).2;omega
      | false=>exact i.fro b _ hg rfl
   simp only at hx
   split at hx
   · obtain ⟨v,h1,rfl⟩:=om_some hx
     refine ⟨S',m,A,?_,?_,j2,hlow,Nat.le_refl _,fun b hb=>.inl hb⟩
     · exact hand_vr (b:=n0) (nid:=0) (fun hb=>by rcases hA' _ hb with q | q;exact q.elim;omega) hvr _ h1
     · simp only [List.append_nil];exact j1
   · rename_i b _
     unfold freshOf at hx
     split at hx
     · rename_i z es mu hg
       split at hx
       · rename_i hcond
         obtain ⟨v,h1,rfl⟩:=om_some hx
         simp only [Bool.and_eq_true] at hcond
         obtain ⟨rfl,hpl⟩:=hcond
         obtain ⟨q1,q2,cur,t,q3,q4,q5⟩:=hinv.obj b _ hg
         obtain ⟨l1,l2⟩:=hinv.live b _ hg rfl
         have hmn:updM m nid (m' b) nid=m' b:=by simp [updM]
         obtain ⟨k1,k2⟩:=j1.join (nid:=nid) hnid (m' b) (.cells z es true) ⟨q1,q2,cur,t,q3,q4,fun i e j x he hx=>by
          obtain ⟨r1,u,r2,r3⟩:=q5 i e j x he hx
          refine ⟨r1,u,r2,plain_vr ?_ r3 fun _ h=>h⟩
          simp only [List.all_eq_true] at hpl
          exact hpl e (List.mem_of_getElem? he) x (List.mem_of_getElem? hx)⟩ rfl ⟨l1,Nat.le_trans i.size l2⟩ (fun c o' hc hmu=>by
          rcases get_marks (h:=h) c (args.flatMap (reach h frzDepth)) h with ⟨z',es',mu',r1,r2,r3⟩ | ⟨r1,_⟩
          · rw [r3] at hc;cases hc;cases hmu
          · rw [r1] at hc
            have:=(i.obj c o' hc).lt
            omega)
         refine ⟨S',updM m nid (m' b),addA A nid,?_,?_,j2.trans k2,hlow,Nat.le_refl _,fun c hc=>hc.imp id .inl⟩
         · exact hand_vr (fun _=>⟨.inr rfl,hmn⟩) hvr _ h1
         · rw [applyUpd_append]
           exact k1
       · cases hx
     · cases hx
theorem bareL_get:∀ {l:List AV},bareL l=true→∀ x ∈ l,bareV x=true:=by
 intro l
 induction l with
 | nil=>intro _ x hx;cases hx
 | cons a l ih =>
  intro h x hx
  simp only [bareL,Bool.and_eq_true] at h
  rcases List.mem_cons.1 hx with rfl | hx
  · exact h.1
  · exact ih h.2 x hx
theorem bare_vr {S S':Nat→Prop} {v:AV} {c:Value} (hb:bareV v=true) (hv:VR ψ w S m A v c):VR ψ w S' m A v c:=by
 induction hv with
 | undef v=>simp [bareV] at hb
 | bool b=>exact .bool b
 | int k n=>exact .int k n
 | str s=>exact .str s
 | nilp=>exact .nilp
 | nils=>exact .nils
 | nilm=>exact .nilm
 | nilf=>exact .nilf
 | roe z ex a k hk=>exact .roe z ex a k hk
 | ro z es ex b off cap cs hS hz hc hx hcell hrep _ =>
  simp only [bareV,Bool.and_eq_true,List.isEmpty_iff] at hb
  obtain ⟨rfl,rfl⟩:=hb
  have hc0:cap=0:=hx rfl
  subst hc0
  exact .roe z true _ 0 (fun _=>rfl)
 | rop cs b off vs hS hcell hrep _=>simp [bareV] at hb
 | ptr c i o hA=>exact .ptr c i o hA
 | sl c z i len cap ex k hA hz hl hc hx hrow=>exact .sl c z i len cap ex k hA hz hl hc hx hrow
 | map c hA=>exact .map c hA
 | fn f caps vs hn _ cv hv ih=>exact .fn f caps vs hn (fun j x hj=>ih j x hj (bareL_get (by simpa only [bareV] using hb) x (List.mem_of_getElem? hj))) cv hv
 | agg cs vs hn hcell _ ih=>exact .agg cs vs hn hcell fun j x hj=>ih j x hj (bareL_get (by simpa only [bareV] using hb) x (List.mem_of_getElem? hj))
 | tup cs vs hn _ ih=>exact .tup cs vs hn fun j x hj=>ih j x hj (bareL_get (by simpa only [bareV] using hb) x (List.mem_of_getElem? hj))
theorem bare_ok (hr:RunOk P ψ run) {g:Nat} {args az:List AV} {nid n:Nat} {x:AV × Upd} {cargs:Array Value} (hfr:mapO (frz h frzDepth) args=some az) (hp:freshCall run g az nid=some x) (hbx:bareX x=true)
 (i:Inv ψ N w0 w S m A h) (hnid:¬ A nid) (hs:cargs.size=args.length) (hv:∀ (j:Nat) (x:AV),args[j]?=some x→VR ψ w S m A x (cargs.getD j Go.undef)) :
 CallsX P (ψ g) cargs w fun e w'=>∃ cv,e=.returned cv∧∃ S' m' A',VR ψ w' S' m' A' x.1 cv∧Inv ψ N w0 w' S' m' A' (applyUpd h x.2)∧Le w S m A w' S' m' A' ∧
  (∀ c,c < N→S' c→S c)∧n≤n∧∀ b,A' b→A b∨b=nid∨(n≤b∧b < n):=by
 obtain ⟨⟨v0,h0,n0⟩,hrun,hx⟩:=ob_some hp
 let S1:Nat→Prop:=fun c=>S c∨∃ b ∈ args.flatMap (reach h frzDepth),c=(m b).1
 have hreach:∀ b ∈ args.flatMap (reach h frzDepth),∃ z es mu,get h b=some (.cells z es mu):=by
  intro b hb
  simp only [List.mem_flatMap] at hb
  obtain ⟨x,hx,hb⟩:=hb
  obtain ⟨j,hj,e⟩:=List.getElem_of_mem hx
  obtain ⟨x',_,h2⟩:=(mapO_some hfr).2 j x (by rw [List.getElem?_eq_getElem hj,e])
  exact frz_reach _ x x' h2 b hb
 have hS1:∀ c,S1 c→c < w.heap.size:=by
  rintro c (hc | ⟨b,hb,rfl⟩)
  · exact i.sb c hc
  · obtain ⟨z,es,mu,hg⟩:=hreach b hb
    exact (i.obj b _ hg).lt
 have hi0:Inv ψ w.heap.size w w S1 m (fun _=>False) ([]:Heap) :=
  ⟨fun b o hb=>by simp [get] at hb,fun b o hb=>by simp [get] at hb,fun b o hb=>by simp [get] at hb,fun b o hb=>by simp [get] at hb,fun b o b' o' hb=>by simp [get] at hb,
   hS1,Nat.le_refl _,fun _ _=>rfl,rfl,rfl,i.laidw⟩
 refine CallsX.mono ((hr g az [] 0 v0 h0 n0 hrun).2 w.heap.size w w S1 m (fun _=>False) cargs hi0 (fun b hb=>hb.elim) (by rw [(mapO_some hfr).1];exact hs) ?_) ?_
 · intro j x' hj
   obtain ⟨x,s1,s2⟩:=mapO_inv hfr j x' hj
   exact frz_vr i.obj (fun b hb=>.inl hb) frzDepth x x' _ s2 (hv j x s1) fun b hb=>.inr ⟨b,by simp only [List.mem_flatMap];exact ⟨x,List.mem_of_getElem? s1,hb⟩,rfl⟩
 · rintro e w' ⟨cv,rfl,S',m',A',hvr,hinv,hle,hsub,_,hA'⟩
   refine ⟨cv,rfl,?_⟩
   have hold:∀ c,c < w.heap.size→w'.heap[c]?=w.heap[c]?:=hinv.old
   obtain ⟨j1,j2⟩:=i.data (w':=w') (Sn:=S) hold hinv.size hinv.os hinv.out (fun c hc=>hc) (fun c hc=>Nat.lt_of_lt_of_le (i.sb c hc) hinv.size) [] (fun b hb=>by cases hb) (fun c hc=>.inl hc)
   simp only at hx
   split at hx
   · obtain ⟨v,h1,rfl⟩:=om_some hx
     simp only [bareX,Bool.and_eq_true] at hbx
     refine ⟨S,m,A,?_,j1,j2,fun c _ hs=>hs,Nat.le_refl _,fun b hb=>.inl hb⟩
     exact bare_vr hbx.1 (hand_vr (b:=n0) (nid:=0) (m2:=m) (A2:=A) (fun hb=>by rcases hA' _ hb with q | q;exact q.elim;omega) hvr _ h1)
   · rename_i b _
     unfold freshOf at hx
     split at hx
     · rename_i z es mu hg
       split at hx
       · rename_i hcond
         obtain ⟨v,h1,rfl⟩:=om_some hx
         simp only [bareX,List.all_cons,List.all_nil,bareO,Bool.and_eq_true,Bool.and_true] at hbx
         obtain ⟨hb1,hb2⟩:=hbx
         simp only [Bool.and_eq_true] at hcond
         obtain ⟨rfl,hpl⟩:=hcond
         obtain ⟨q1,q2,cur,t,q3,q4,q5⟩:=hinv.obj b _ hg
         obtain ⟨l1,l2⟩:=hinv.live b _ hg rfl
         have hmn:updM m nid (m' b) nid=m' b:=by simp [updM]
         obtain ⟨k1,k2⟩:=j1.join (nid:=nid) hnid (m' b) (.cells z es true) ⟨q1,q2,cur,t,q3,q4,fun i e j x he hx=>by
          obtain ⟨r1,u,r2,r3⟩:=q5 i e j x he hx
          refine ⟨r1,u,r2,?_⟩
          simp only [List.all_eq_true] at hpl hb2
          have hp1:plainC x=true:=hpl e (List.mem_of_getElem? he) x (List.mem_of_getElem? hx)
          have hp2:bareV x=true:=bareL_get (hb2 e (List.mem_of_getElem? he)) x (List.mem_of_getElem? hx)
          exact bare_vr hp2 (plain_vr hp1 r3 fun _ h=>h)⟩ rfl ⟨fun q=>l1 (hle.sub _ (.inl q)),Nat.le_trans i.size l2⟩ (fun c o' hc hmu=>by
          have:=(i.obj c o' hc).lt
          omega)
         refine ⟨S,updM m nid (m' b),addA A nid,?_,k1,j2.trans k2,fun c _ hs=>hs,Nat.le_refl _,fun c hc=>hc.imp id .inl⟩
         exact bare_vr hb1 (hand_vr (fun _=>⟨.inr rfl,hmn⟩) hvr _ h1)
       · cases hx
     · cases hx
theorem get_ups (n n1 b:Nat):∀ (h1 h:Heap),get (applyUpd h (ups n n1 h1)) b=if n≤b∧b < n1 then (match get h1 b with | some o=>some o | none=>get h b) else get h b:=by
 intro h1
 induction h1 with
 | nil=>intro h;simp [ups,applyUpd,get]
 | cons x r ih =>
  intro h
  obtain ⟨c,o⟩:=x
  by_cases hc:n≤c∧c < n1
  · have e:ups n n1 ((c,o)::r)=ups n n1 r++[(c,some o)]:=by simp [ups,hc]
    rw [e,applyUpd_append]
    simp only [applyUpd,updOne,get_put,get]
    by_cases q:c=b
    · subst q;simp [hc]
    · simp only [if_neg q];exact ih h
  · have e:ups n n1 ((c,o)::r)=ups n n1 r:=by simp [ups,hc]
    rw [e,ih h]
    simp only [get]
    by_cases q:c=b
    · subst q;simp [hc]
    · simp only [if_neg q]
theorem Inv.union {N2:Nat} {w2:World} {m1:Nat→Nat × Nat} {A1:Nat→Prop} {h1:Heap} {n n1:Nat} (i:Inv ψ N w0 w S m A h) (i1:Inv ψ N2 w2 w S m1 A1 h1) (hn:∀ b,A b→b < n) (hn1:∀ b,A1 b→n≤b) (hN:N≤N2)
 (hlt:∀ b o,get h b=some o→mutab o=true→(m b).1 < N2) :
 Inv ψ N w0 w S (fun b=>if n≤b then m1 b else m b) (fun b=>A b∨A1 b) (applyUpd h (ups n n1 h1))∧Le w S m A w S (fun b=>if n≤b then m1 b else m b) (fun b=>A b∨A1 b)∧Le w S m1 A1 w S (fun b=>if n≤b then m1 b else m b) (fun b=>A b∨A1 b):=by
 have le:Le w S m A w S (fun b=>if n≤b then m1 b else m b) (fun b=>A b∨A1 b) :=
  ⟨fun _ _=>rfl,fun _ c _ _ h=>⟨c,h,rfl⟩,Nat.le_refl _,fun _ h=>h,fun _ h=>.inl h,fun b hb=>if_neg (by have:=hn b hb;omega)⟩
 have le1:Le w S m1 A1 w S (fun b=>if n≤b then m1 b else m b) (fun b=>A b∨A1 b) :=
  ⟨fun _ _=>rfl,fun _ c _ _ h=>⟨c,h,rfl⟩,Nat.le_refl _,fun _ h=>h,fun _ h=>.inr h,fun b hb=>if_pos (hn1 b hb)⟩
 have key:∀ b o,get (applyUpd h (ups n n1 h1)) b=some o→(get h1 b=some o∧n≤b)∨(get h b=some o∧¬ n≤b):=by
  intro b o hb
  rw [get_ups] at hb
  by_cases q:n≤b∧b < n1
  · rw [if_pos q] at hb
    cases hq:get h1 b with
    | some o1 =>
     rw [hq] at hb
     cases hb
     exact .inl ⟨rfl,q.1⟩
    | none =>
     rw [hq] at hb
     exact .inr ⟨hb,by have:=hn b (i.dom b _ hb);omega⟩
  · rw [if_neg q] at hb
    exact .inr ⟨hb,by have:=hn b (i.dom b _ hb);omega⟩
 refine ⟨⟨?_,?_,?_,?_,?_,i.sb,i.size,i.old,i.os,i.out,i.laid⟩,le,le1⟩
 · intro b o hb
   rcases key b o hb with ⟨q,_⟩ | ⟨q,_⟩
   · exact .inr (i1.dom b o q)
   · exact .inl (i.dom b o q)
 · intro b o hb
   rcases key b o hb with ⟨q,q2⟩ | ⟨q,q2⟩
   · simp only [if_pos q2];exact (i1.obj b o q).mono le1 rfl
   · simp only [if_neg q2];exact (i.obj b o q).mono le rfl
 · intro b o hb hf
   rcases key b o hb with ⟨q,q2⟩ | ⟨q,q2⟩
   · simp only [if_pos q2];exact i1.fro b o q hf
   · simp only [if_neg q2];exact i.fro b o q hf
 · intro b o hb hf
   rcases key b o hb with ⟨q,q2⟩ | ⟨q,q2⟩
   · simp only [if_pos q2];obtain ⟨l1,l2⟩:=i1.live b o q hf;exact ⟨l1,Nat.le_trans hN l2⟩
   · simp only [if_neg q2];exact i.live b o q hf
 · intro b o b' o' hb hb' hf hf' hne
   rcases key b o hb with ⟨q,q2⟩ | ⟨q,q2⟩ <;> rcases key b' o' hb' with ⟨p,p2⟩ | ⟨p,p2⟩
   · simp only [if_pos q2,if_pos p2];exact i1.inj b o b' o' q p hf hf' hne
   · simp only [if_pos q2,if_neg p2]
     have h1:=(i1.live b o q hf).2
     have h2:=hlt b' o' p hf'
     omega
   · simp only [if_neg q2,if_pos p2]
     have h1:=(i1.live b' o' p hf').2
     have h2:=hlt b o q hf
     omega
   · simp only [if_neg q2,if_neg p2];exact i.inj b o b' o' q p hf hf' hne
theorem get_filter {α:Type} (p:Nat→Bool):∀ (h:List (Nat × α)) (b:Nat),get (h.filter fun x=>p x.1) b=if p b=true then get h b else none:=by
 intro h
 induction h with
 | nil=>intro b;simp [get]
 | cons x r ih =>
  intro b
  obtain ⟨c,o⟩:=x
  by_cases hc:p c=true
  · rw [List.filter_cons_of_pos (by simpa using hc)]
    simp only [get]
    by_cases q:c=b
    · subst q;simp [hc]
    · rw [if_neg q,if_neg q,ih]
  · rw [List.filter_cons_of_neg (by simpa using hc),ih]
    simp only [get]
    by_cases q:c=b
    · subst q;simp [hc]
    · rw [if_neg q]
theorem keptL_get {L:List Nat}:∀ {l:List AV},keptL L l=true→∀ x ∈ l,keptV L x=true:=by
 intro l
 induction l with
 | nil=>intro _ x hx;cases hx
 | cons a l ih =>
  intro h x hx
  simp only [keptL,Bool.and_eq_true] at h
  rcases List.mem_cons.1 hx with rfl | hx
  · exact h.1
  · exact ih h.2 x hx
theorem kept_vr {S S':Nat→Prop} {L:List Nat} {v:AV} {c:Value} (hb:keptV L v=true) (hv:VR ψ w S m A v c):VR ψ w S' m (fun b=>A b∧b ∈ L) v c:=by
 induction hv with
 | undef v=>simp [keptV] at hb
 | bool b=>exact .bool b
 | int k n=>exact .int k n
 | str s=>exact .str s
 | nilp=>exact .nilp
 | nils=>exact .nils
 | nilm=>exact .nilm
 | nilf=>exact .nilf
 | roe z ex a k hk=>exact .roe z ex a k hk
 | ro z es ex b off cap cs hS hz hc hx hcell hrep _ =>
  simp only [keptV,Bool.and_eq_true,List.isEmpty_iff] at hb
  obtain ⟨rfl,rfl⟩:=hb
  have hc0:cap=0:=hx rfl
  subst hc0
  exact .roe z true _ 0 (fun _=>rfl)
 | rop cs b off vs hS hcell hrep _=>simp [keptV] at hb
 | ptr c i o hA=>exact .ptr c i o ⟨hA,by simpa [keptV] using hb⟩
 | sl c z i len cap ex k hA hz hl hc hx hrow=>exact .sl c z i len cap ex k ⟨hA,by simpa [keptV] using hb⟩ hz hl hc hx hrow
 | map c hA=>simp [keptV] at hb
 | fn f caps vs hn _ cv hv ih=>exact .fn f caps vs hn (fun j x hj=>ih j x hj (keptL_get (by simpa only [keptV] using hb) x (List.mem_of_getElem? hj))) cv hv
 | agg cs vs hn hcell _ ih=>exact .agg cs vs hn hcell fun j x hj=>ih j x hj (keptL_get (by simpa only [keptV] using hb) x (List.mem_of_getElem? hj))
 | tup cs vs hn _ ih=>exact .tup cs vs hn fun j x hj=>ih j x hj (keptL_get (by simpa only [keptV] using hb) x (List.mem_of_getElem? hj))
theorem Inv.keep {N2:Nat} {w2 w':World} {S' Sn:Nat→Prop} {m':Nat→Nat × Nat} {A':Nat→Prop} {h0:Heap} {L:List Nat} (i:Inv ψ N2 w2 w' S' m' A' h0) (hL:∀ b ∈ L,keptO L (get h0 b)=true) (hsub:∀ c,Sn c→S' c) :
 Inv ψ N2 w2 w' Sn m' (fun b=>A' b∧b ∈ L) (h0.filter fun x=>L.contains x.1):=by
 have key:∀ b o,get (h0.filter fun x=>L.contains x.1) b=some o→get h0 b=some o∧b ∈ L:=by
  intro b o hb
  rw [get_filter] at hb
  by_cases q:b ∈ L
  · rw [if_pos (by simpa using q)] at hb;exact ⟨hb,q⟩
  · rw [if_neg (by simpa using q)] at hb;cases hb
 have mut_:∀ b o,get (h0.filter fun x=>L.contains x.1) b=some o→mutab o=true:=by
  intro b o hb
  obtain ⟨q1,q2⟩:=key b o hb
  have:=hL b q2
  rw [q1] at this
  cases o with
  | cells z es mu=>simp only [keptO,Bool.and_eq_true] at this;exact this.1
  | map es=>rfl
  | iter s pos=>rfl
 refine ⟨fun b o hb=>?_,fun b o hb=>?_,fun b o hb hf=>?_,fun b o hb hf=>?_,fun b o b' o' hb hb' hf hf' hne=>?_,fun c hc=>i.sb c (hsub c hc),i.size,i.old,i.os,i.out,i.laid⟩
 · obtain ⟨q1,q2⟩:=key b o hb
   exact ⟨i.dom b o q1,q2⟩
 · obtain ⟨q1,q2⟩:=key b o hb
   have h1:=hL b q2
   have h2:=i.obj b o q1
   rw [q1] at h1
   cases o with
   | cells z es mu =>
    simp only [keptO,Bool.and_eq_true,List.all_eq_true] at h1
    obtain ⟨r1,r2,c,t,r3,r4,r5⟩:=h2
    refine ⟨r1,r2,c,t,r3,r4,fun a e j x he hx=>?_⟩
    obtain ⟨u1,u,u2,u3⟩:=r5 a e j x he hx
    exact ⟨u1,u,u2,kept_vr (keptL_get (h1.2 e (List.mem_of_getElem? he)) x (List.mem_of_getElem? hx)) u3⟩
   | map es=>simp [keptO] at h1
   | iter s pos=>simp [keptO] at h1
 · rw [mut_ b o hb] at hf;cases hf
 · obtain ⟨l1,l2⟩:=i.live b o (key b o hb).1 hf
   exact ⟨fun q=>l1 (hsub _ q),l2⟩
 · exact i.inj b o b' o' (key b o hb).1 (key b' o' hb').1 hf hf' hne
theorem deepb_ok (hr:RunOk P ψ run) {g:Nat} {args az:List AV} {nid n:Nat} {x:AV × Upd × Nat} {cargs:Array Value} (hdb:isDb g=true) (hfr:mapO (frz h frzDepth) args=some az) (hp:deepCall run g az n=some x)
 (i:Inv ψ N w0 w S m A h) (hn:∀ b,A b→b < n) (hs:cargs.size=args.length) (hv:∀ (j:Nat) (x:AV),args[j]?=some x→VR ψ w S m A x (cargs.getD j Go.undef)) :
 CallsX P (ψ g) cargs w fun e w'=>∃ cv,e=.returned cv∧∃ S' m' A',VR ψ w' S' m' A' x.1 cv∧Inv ψ N w0 w' S' m' A' (applyUpd h x.2.1)∧Le w S m A w' S' m' A' ∧
  (∀ c,c < N→S' c→S c)∧n≤x.2.2∧∀ b,A' b→A b∨b=nid∨(n≤b∧b < x.2.2):=by
 obtain ⟨⟨v0,h0,n0⟩,hrun,hx⟩:=ob_some hp
 obtain ⟨hh,hx2,rfl⟩:=om_some hx
 clear hx
 unfold deepKeep at hx2
 rw [if_pos hdb] at hx2
 split at hx2
 case isFalse=>cases hx2
 rename_i hk
 obtain rfl:=Option.some.inj hx2
 let S1:Nat→Prop:=fun c=>S c∨∃ b ∈ args.flatMap (reach h frzDepth),c=(m b).1
 have hreach:∀ b ∈ args.flatMap (reach h frzDepth),∃ z es mu,get h b=some (.cells z es mu):=by
  intro b hb
  simp only [List.mem_flatMap] at hb
  obtain ⟨x,hx,hb⟩:=hb
  obtain ⟨j,hj,e⟩:=List.getElem_of_mem hx
  obtain ⟨x',_,h2⟩:=(mapO_some hfr).2 j x (by rw [List.getElem?_eq_getElem hj,e])
  exact frz_reach _ x x' h2 b hb
 have hS1:∀ c,S1 c→c < w.heap.size:=by
  rintro c (hc | ⟨b,hb,rfl⟩)
  · exact i.sb c hc
  · obtain ⟨z,es,mu,hg⟩:=hreach b hb
    exact (i.obj b _ hg).lt
 have hi0:Inv ψ w.heap.size w w S1 m (fun _=>False) ([]:Heap) :=
  ⟨fun b o hb=>by simp [get] at hb,fun b o hb=>by simp [get] at hb,fun b o hb=>by simp [get] at hb,fun b o hb=>by simp [get] at hb,fun b o b' o' hb=>by simp [get] at hb,
   hS1,Nat.le_refl _,fun _ _=>rfl,rfl,rfl,i.laidw⟩
 refine CallsX.mono ((hr g az [] n v0 h0 n0 hrun).2 w.heap.size w w S1 m (fun _=>False) cargs hi0 (fun b hb=>hb.elim) (by rw [(mapO_some hfr).1];exact hs) ?_) ?_
 · intro j x' hj
   obtain ⟨x,s1,s2⟩:=mapO_inv hfr j x' hj
   exact frz_vr i.obj (fun b hb=>.inl hb) frzDepth x x' _ s2 (hv j x s1) fun b hb=>.inr ⟨b,by simp only [List.mem_flatMap];exact ⟨x,List.mem_of_getElem? s1,hb⟩,rfl⟩
 · rintro e w' ⟨cv,rfl,S',m',A',hvr,hinv,hle,hsub,hnn,hA'⟩
   refine ⟨cv,rfl,?_⟩
   simp only [keptX,Bool.and_eq_true,List.all_eq_true] at hk
   obtain ⟨hk1,hk2⟩:=hk
   have hold:∀ c,c < w.heap.size→w'.heap[c]?=w.heap[c]?:=hinv.old
   have hinvB:=hinv.keep (Sn:=S) hk2 (fun c hc=>hle.sub c (.inl hc))
   obtain ⟨j1,j2⟩:=i.data (w':=w') (Sn:=S) hold hinv.size hinv.os hinv.out (fun c hc=>hc) (fun c hc=>Nat.lt_of_lt_of_le (i.sb c hc) hinv.size) [] (fun b hb=>by cases hb) (fun c hc=>.inl hc)
   obtain ⟨k1,k2,k3⟩:=Inv.union (n:=n) (n1:=n0) j1 hinvB hn (fun b hb=>(hA' b hb.1).elim (fun q=>q.elim) (fun q=>q.1)) i.size (fun c o' hc _=>(i.obj c o' hc).lt)
   refine ⟨S,_,_,(kept_vr hk1 hvr).mono k3,k1,j2.trans k2,fun c _ q=>q,hnn,fun b hb=>?_⟩
   rcases hb with q | q
   · exact .inl q
   · rcases hA' b q.1 with z | z
     · exact z.elim
     · exact .inr (.inr z)
theorem deep_ok (hr:RunOk P ψ run) {g:Nat} {args az:List AV} {nid n:Nat} {x:AV × Upd × Nat} {cargs:Array Value} (hdb:¬ isDb g=true) (hfr:mapO (frz h frzDepth) args=some az) (hp:deepCall run g az n=some x)
 (i:Inv ψ N w0 w S m A h) (hn:∀ b,A b→b < n) (hs:cargs.size=args.length) (hv:∀ (j:Nat) (x:AV),args[j]?=some x→VR ψ w S m A x (cargs.getD j Go.undef)) :
 CallsX P (ψ g) cargs w fun e w'=>∃ cv,e=.returned cv∧∃ S' m' A',VR ψ w' S' m' A' x.1 cv∧Inv ψ N w0 w' S' m' A' (applyUpd h (markFrozen h (args.flatMap (reach h frzDepth))++x.2.1))∧Le w S m A w' S' m' A' ∧
  (∀ c,c < N→S' c→S c)∧n≤x.2.2∧∀ b,A' b→A b∨b=nid∨(n≤b∧b < x.2.2):=by
 obtain ⟨⟨v0,h0,n0⟩,hrun,hx⟩:=ob_some hp
 unfold deepKeep at hx
 rw [if_neg hdb] at hx
 cases hx
 let S1:Nat→Prop:=fun c=>S c∨∃ b ∈ args.flatMap (reach h frzDepth),c=(m b).1
 have hreach:∀ b ∈ args.flatMap (reach h frzDepth),∃ z es mu,get h b=some (.cells z es mu):=by
  intro b hb
  simp only [List.mem_flatMap] at hb
  obtain ⟨x,hx,hb⟩:=hb
  obtain ⟨j,hj,e⟩:=List.getElem_of_mem hx
  obtain ⟨x',_,h2⟩:=(mapO_some hfr).2 j x (by rw [List.getElem?_eq_getElem hj,e])
  exact frz_reach _ x x' h2 b hb
 have hS1:∀ c,S1 c→c < w.heap.size:=by
  rintro c (hc | ⟨b,hb,rfl⟩)
  · exact i.sb c hc
  · obtain ⟨z,es,mu,hg⟩:=hreach b hb
    exact (i.obj b _ hg).lt
 have hi0:Inv ψ w.heap.size w w S1 m (fun _=>False) ([]:Heap) :=
  ⟨fun b o hb=>by simp [get] at hb,fun b o hb=>by simp [get] at hb,fun b o hb=>by simp [get] at hb,fun b o hb=>by simp [get] at hb,fun b o b' o' hb=>by simp [get] at hb,
   hS1,Nat.le_refl _,fun _ _=>rfl,rfl,rfl,i.laidw⟩
 refine CallsX.mono ((hr g az [] n v0 h0 n0 hrun).2 w.heap.size w w S1 m (fun _=>False) cargs hi0 (fun b hb=>hb.elim) (by rw [(mapO_some hfr).1];exact hs) ?_) ?_
 · intro j x' hj
   obtain ⟨x,s1,s2⟩:=mapO_inv hfr j x' hj
   exact frz_vr i.obj (fun b hb=>.inl hb) frzDepth x x' _ s2 (hv j x s1) fun b hb=>.inr ⟨b,by simp only [List.mem_flatMap];exact ⟨x,List.mem_of_getElem? s1,hb⟩,rfl⟩
 · rintro e w' ⟨cv,rfl,S',m',A',hvr,hinv,hle,hsub,hnn,hA'⟩
   refine ⟨cv,rfl,?_⟩
   have hold:∀ c,c < w.heap.size→w'.heap[c]?=w.heap[c]?:=hinv.old
   have h12:∀ c,S1 c→S' c:=hle.sub
   obtain ⟨j1,j2⟩:=i.data (w':=w') (Sn:=S') hold hinv.size hinv.os hinv.out (fun c hc=>h12 c (.inl hc)) hinv.sb (args.flatMap (reach h frzDepth))
    (fun b hb=>by
     obtain ⟨z,es,mu,hg⟩:=hreach b hb
     exact ⟨z,es,mu,hg,h12 _ (.inr ⟨b,hb,rfl⟩)⟩)
    (fun c hc=>by
     rcases Nat.lt_or_ge c w.heap.size with hlt | hge
     · rcases hsub c hlt hc with q | q
       · exact .inl q
       · exact .inr (.inl q)
     · exact .inr (.inr hge))
   have hlow:∀ c,c < N→S' c→S c:=by
    intro c hc hs2
    rcases hsub c (Nat.lt_of_lt_of_le hc i.size) hs2 with q | ⟨b,hb,rfl⟩
    · exact q
    · obtain ⟨z,es,mu,hg⟩:=hreach b hb
      cases mu with
      | true=>have:=(i.live b _ hg rfl).2;omega
      | false=>exact i.fro b _ hg rfl
   obtain ⟨k1,k2,k3⟩:=j1.union (n1:=n0) hinv hn (fun b hb=>(hA' b hb).elim (fun q=>q.elim) (fun q=>q.1)) i.size (fun c o' hc hmu=>by
    rcases get_marks (h:=h) c (args.flatMap (reach h frzDepth)) h with ⟨z',es',mu',r1,r2,r3⟩ | ⟨r1,_⟩
    · rw [r3] at hc;cases hc;cases hmu
    · rw [r1] at hc
      exact (i.obj c o' hc).lt)
   refine ⟨S',_,_,hvr.mono k3,by rw [applyUpd_append];exact k1,j2.trans k2,hlow,hnn,fun b hb=>?_⟩
   rcases hb with q | q
   · exact .inl q
   · rcases hA' b q with z | z
     · exact z.elim
     · exact .inr (.inr z)
theorem evCall_fn (hr:RunOk P ψ run) {C:Prog} {g:Nat} {args:List AV} {nid n:Nat} {d:Called} (hp:evCall C run g args h nid n=some d) :
 g < 1000000 ∧ ∃ fn c, P.funcs[ψ g]? = some fn ∧ fn.name ≠ "runtime.NumGoroutine" ∧ fn.body = some c := by
 have key:∃ az h1 m r,run g az h1 m=some r:=by
  unfold evCall at hp
  split at hp
  · obtain ⟨v,hv1,_⟩:=om_some hp
    obtain ⟨r,hrun,_⟩:=ob_some hv1
    exact ⟨_,_,_,r,hrun⟩
  · split at hp
    · obtain ⟨az,_,hp⟩:=ob_some hp
      obtain ⟨x,hx,_⟩:=om_some hp
      obtain ⟨r,hrun,_⟩:=ob_some hx
      exact ⟨_,_,_,r,hrun⟩
    split at hp
    · obtain ⟨az,_,hp⟩:=ob_some hp
      obtain ⟨x,hx,_⟩:=ob_some hp
      obtain ⟨r,hrun,_⟩:=ob_some hx
      exact ⟨_,_,_,r,hrun⟩
    · obtain ⟨r,hr1,_⟩:=om_some hp
      obtain ⟨r,hrun,_⟩:=om_some hr1
      exact ⟨_,_,_,r,hrun⟩
 obtain ⟨az,h1,m,⟨v0,h0,n0⟩,hrun⟩:=key
 exact (hr _ _ _ _ _ _ _ hrun).1
theorem evCall_ok (hr:RunOk P ψ run) {C:Prog} {g:Nat} {args:List AV} {nid n:Nat} {d:Called} {cargs:Array Value} (hp:evCall C run g args h nid n=some d)
 (i:Inv ψ N w0 w S m A h) (hn:∀ b,A b→b < n) (hnid:¬ A nid) (hs:cargs.size=args.length) (hv:∀ (j:Nat) (x:AV),args[j]?=some x→VR ψ w S m A x (cargs.getD j Go.undef)) :
 (g < 1000000 ∧ ∃ fn c, P.funcs[ψ g]? = some fn ∧ fn.name ≠ "runtime.NumGoroutine" ∧ fn.body = some c) ∧
 CallsX P (ψ g) cargs w fun e w'=>∃ cv,e=.returned cv∧∃ S' m' A',VR ψ w' S' m' A' (doneCall h n args d).v cv∧Inv ψ N w0 w' S' m' A' (doneCall h n args d).h∧Le w S m A w' S' m' A' ∧
  (∀ c,c < N→S' c→S c)∧n≤(doneCall h n args d).n∧∀ b,A' b→A b∨b=nid∨(n≤b∧b < (doneCall h n args d).n):=by
 have wide:∀ {w':World} {v:AV} {cv:Value} {h':Heap} {n':Nat},Out ψ N w0 w S m A n w' v cv h' n'→∃ S' m' A',VR ψ w' S' m' A' v cv∧Inv ψ N w0 w' S' m' A' h'∧Le w S m A w' S' m' A' ∧
  (∀ c,c < N→S' c→S c)∧n≤n'∧∀ b,A' b→A b∨b=nid∨(n≤b∧b < n'):=by
  rintro w' v cv h' n' ⟨S',m',A',r1,r2,r3,r4,r5,r6⟩
  exact ⟨S',m',A',r1,r2,r3,r4,r5,fun b hb=>(r6 b hb).imp id .inr⟩
 refine ⟨evCall_fn hr hp,?_⟩
 unfold evCall at hp
 split at hp
 · rename_i az hfr
   split at hfr
   · cases hfr
   · obtain ⟨v,hv1,rfl⟩:=om_some hp
     exact (pure_ok hr hfr hv1 i hs hv).mono fun e w' ⟨cv,h1,h2⟩=>⟨cv,h1,wide h2⟩
 · split at hp
   · obtain ⟨az,hfr,hp⟩:=ob_some hp
     obtain ⟨x,hx,rfl⟩:=om_some hp
     simp only [doneCall]
     unfold deepU
     by_cases hdb:isDb g=true
     · rw [if_pos hdb,List.nil_append]
       exact deepb_ok hr hdb hfr hx i hn hs hv
     · rw [if_neg hdb]
       exact deep_ok hr hdb hfr hx i hn hs hv
   split at hp
   · obtain ⟨az,hfr,hp⟩:=ob_some hp
     obtain ⟨x,hx,hend⟩:=ob_some hp
     unfold freshEnd at hend
     split at hend
     · cases hend
     · rename_i hbr
       cases hend
       unfold freshU
       by_cases hb:isBr g=true
       · simp only [hb,Bool.true_and,Bool.not_eq_true',Bool.not_eq_false] at hbr
         simp only [hb,if_true,doneCall,List.nil_append]
         exact bare_ok hr hfr hx (by simpa using hbr) i hnid hs hv
       · simp only [hb,Bool.false_eq_true,if_false,doneCall]
         exact fresh_ok hr hfr hx i hnid hs hv
   · obtain ⟨r,hr1,rfl⟩:=om_some hp
     exact (inline_ok hr hr1 i hn hs hv).mono fun e w' ⟨cv,h1,h2⟩=>⟨cv,h1,wide h2⟩
end
end Go.Pav
end
section
set_option linter.unusedSimpArgs false
set_option linter.unusedVariables false
namespace Go.Pav
open Go
def COp.calls:COp→Bool
 | .call _ _=>true
 | .callv _ _=>true
 | _=>false
def NoCall (x:Option COp):Prop:=∀ c,x=some c→c.calls=false
theorem NoCall.none:NoCall none:=fun c h=>by cases h
theorem NoCall.some {c:COp} (h:c.calls=false):NoCall (some c):=fun c' h'=>by cases h';exact h
theorem NoCall.bind {α:Type} {x:Option α} {f:α→Option COp} (h:∀ a,NoCall (f a)):NoCall (x >>= f):=by
 intro c hc
 cases x with
 | none=>cases hc
 | some a=>exact h a c hc
theorem NoCall.map {α:Type} {x:Option α} {f:α→COp} (h:∀ a,(f a).calls=false):NoCall (x.map f):=by
 intro c hc
 cases x with
 | none=>cases hc
 | some a=>cases hc;exact h a
theorem cEq_nocall (kd:Nat) (ks:List Nat) (op:BinOp) (x y:Opd):NoCall (cEq kd ks op x y):=by
 unfold cEq
 split <;> first | exact NoCall.some rfl | exact NoCall.none
theorem cBuiltin_nocall (P:Program) (φ:FuncId→Option Nat) (b:Builtin) (args:List Operand) (ts:List TypeId):NoCall (cBuiltin P φ b args ts):=by
 unfold cBuiltin
 split
 all_goals (first | unfold cLen | unfold cCap | unfold cAppend | unfold cCopy | unfold cClear | unfold cMax | skip)
 all_goals (repeat' (first | exact NoCall.none | exact NoCall.some rfl | (refine NoCall.bind fun _=>?_) | split))
theorem cOp_nocall (P:Program) (φ:FuncId→Option Nat) (op:Op) (h:∀ c x,op=.call c→c.callee≠.value x):NoCall (cOp P φ op):=by
 cases op
 case call c =>
  simp only [cOp]
  cases hc:c.callee with
  | value f=>exact absurd hc (h c f rfl)
  | builtin b=>exact cBuiltin_nocall P φ b _ _
  | invoke r n=>exact NoCall.none
 case makeFunc fn first caps =>
  cases fn <;> simp only [cOp] <;> first | exact NoCall.none | skip
  refine NoCall.bind fun _=>?_
  split
  · exact NoCall.bind fun _=>NoCall.some rfl
  · exact NoCall.none
 case makeMap t r=>cases r <;> simp only [cOp] <;> first | exact NoCall.none | exact NoCall.some rfl
 case next x b=>cases b <;> simp only [cOp] <;> first | exact NoCall.none | exact NoCall.map (fun _=>rfl)
 all_goals simp only [cOp]
 all_goals (repeat' (first | exact NoCall.none | exact NoCall.some rfl | exact NoCall.map (fun _=>rfl) | exact cEq_nocall _ _ _ _ _ | (refine NoCall.bind fun _=>?_) | split))
theorem callOf_none {e:Env} {c:COp} (h:c.calls=false):callOf e c=some none:=by
 cases c <;> first | rfl | (simp [COp.calls] at h)
theorem run_callFunc_body {P : Program} {f : FuncId} {fn : Func} {c : Code} (hf : P.funcs[f]? = some fn) (hname : fn.name ≠ "runtime.NumGoroutine") (hb : fn.body = some c) (args : Array Value) (w : World) :
 (callFunc f args).run P w=.ok (.enter f args) w:=by
 simp [callFunc,hf,hname,hb]
section
variable {P:Program} {φ:FuncId→Option Nat} {ψ:Psi} {N:Nat} {w0 w:World} {S:Nat→Prop} {m:Nat→Nat × Nat} {A:Nat→Prop} {h:Heap} {e:Env} {a:Act} {o:Oper} {run:Run} {C:Prog}
theorem callOf_ok (cx:Cx P φ ψ N w0 w S m A h e a) {cop:COp} (hc:cOp P φ o.op=some cop) {f:Nat} {args:List AV} (hcall:callOf e cop=some (some (f,args))) (hlt:f < 1000000) :
 ∃ cargs:Array Value,cargs.size=args.length∧(∀ (j:Nat) (x:AV),args[j]?=some x→VR ψ w S m A x (cargs.getD j Go.undef)) ∧
  ∀ fn c, P.funcs[ψ f]? = some fn → fn.name ≠ "runtime.NumGoroutine" → fn.body = some c → (execOp a.eval o).run P w = .ok (.enter (ψ f) cargs) w := by
 have key:∃ c X,o.op=.call c∧c.callee=.value X:=by
  apply Classical.byContradiction
  intro hno
  have:=cOp_nocall P φ o.op (fun c x h1 h2=>hno ⟨c,x,h1,h2⟩) cop hc
  rw [callOf_none this] at hcall
  cases hcall
 obtain ⟨c,X,ho,hX⟩:=key
 have exec : ∀ (F : FuncId) (vs : Array Value), a.eval X = .func (.func F) #[] vs → ∀ fn b, P.funcs[F]? = some fn → fn.name ≠ "runtime.NumGoroutine" → fn.body = some b →
  (execOp a.eval o).run P w=.ok (.enter F (c.args.map a.eval++vs)) w:=by
  intro F vs hev fn b h1 h2 h3
  simp only [execOp,ho,resolve,hX,hev,Deferred.ofValue,invoke,Sem.run_bind,Sem.run_pure,Result.andThen_ok,Array.empty_append]
  exact run_callFunc_body h1 h2 h3 _ w
 have sized:∀ (xs:List Opd) (caps:List AV) (vs:Array Value),cOpds φ c.args.toList=some xs→vs.size=caps.length→(∀ (j:Nat) (x:AV),caps[j]?=some x→VR ψ w S m A x (vs.getD j Go.undef)) →
  (c.args.map a.eval++vs).size=(xs.map (fun x=>x.ev e)++caps).length ∧
  ∀ (j:Nat) (x:AV),(xs.map (fun x=>x.ev e)++caps)[j]?=some x→VR ψ w S m A x ((c.args.map a.eval++vs).getD j Go.undef):=by
  intro xs caps vs hxs hn hcs
  obtain ⟨n1,n2⟩:=cx.opds hxs
  refine ⟨by simp [n1,hn],fun j x hj=>?_⟩
  rw [Array.getD_eq_getD_getElem?,Array.getElem?_append]
  rw [List.getElem?_append] at hj
  simp only [List.length_map,Array.size_map] at hj ⊢
  rw [n1]
  split at hj
  · rename_i hlt
    rw [if_pos hlt]
    rw [List.getElem?_map] at hj
    cases hy:xs[j]? with
    | none=>rw [hy] at hj;cases hj
    | some y =>
     rw [hy] at hj
     cases hj
     obtain ⟨x0,r1,r2⟩:=n2 j y hy
     rw [Array.getElem?_map,r1]
     exact r2
  · rename_i hge
    rw [if_neg hge]
    have:=hcs _ x hj
    rwa [Array.getD_eq_getD_getElem?] at this
 rw [ho] at hc
 simp only [cOp,hX] at hc
 split at hc
 · rename_i f0 heq
   cases heq
   simp only [Option.bind_eq_bind,Option.bind_eq_some_iff,Option.some.injEq] at hc
   obtain ⟨g,hg,xs,hxs,rfl⟩:=hc
   simp only [callOf,Option.some.injEq,Prod.mk.injEq] at hcall
   obtain ⟨rfl,rfl⟩:=hcall
   obtain ⟨s1,s2⟩:=sized xs [] #[] hxs rfl (fun j x hj=>by simp at hj)
   refine ⟨c.args.map a.eval++#[],by simpa using s1,fun j x hj=>s2 j x (by simpa using hj),?_⟩
   exact exec (ψ g) #[] (by rw [cx.ids _ _ hg];rfl)
 · rename_i X' _ heq
   cases heq
   simp only [Option.bind_eq_bind,Option.bind_eq_some_iff,Option.some.injEq] at hc
   obtain ⟨g,hg,xs,hxs,rfl⟩:=hc
   simp only [callOf] at hcall
   split at hcall
   · rename_i f' caps hev
     simp only [Option.some.injEq,Prod.mk.injEq] at hcall
     obtain ⟨rfl,rfl⟩:=hcall
     have hv:=cx.opd hg
     rw [hev] at hv
     obtain ⟨vs,e1,n1,r1⟩:=hv.inv_fn hlt
     obtain ⟨s1,s2⟩:=sized xs caps vs hxs n1 r1
     exact ⟨_,s1,s2,exec (ψ f') vs e1⟩
   · cases hcall
 · rename_i heq;cases heq
 · rename_i heq;cases heq
def OpOut (ψ:Psi) (N:Nat) (w0 w:World) (S:Nat→Prop) (m:Nat→Nat × Nat) (A:Nat→Prop) (nid n:Nat) (w':World) (cv:Value) (d:Did):Prop :=
 ∃ S' m' A',VR ψ w' S' m' A' d.v cv∧Inv ψ N w0 w' S' m' A' d.h∧Le w S m A w' S' m' A'∧(∀ c,c < N→S' c→S c)∧n≤d.n∧∀ b,A' b→A b∨b=nid∨(n≤b∧b < d.n)
theorem yielded_of {ops:Array Oper} {tmps:Array Value} {j s:Nat} (hs:(ops[j]?).bind (·.dst)=some s) :
 yielded ops tmps j=match tmps[s]? with | some (.bool b)=>some b | _=>none:=by
 simp only [yielded,hs,Option.bind_some]
 rfl
theorem wanted_ok {ops:Array Oper} (env:EnvR ψ w S m A e a.tmps) {g:Option (Nat × Bool)}
 (hg:(match o.guard with | none=>some none | some (j,w)=>((ops[j]?).bind (·.dst)).map fun d=>some (d,w):Option (Option (Nat × Bool)))=some g) {b:Bool} (hw:wants e g=some b) :
 Region.wanted o (yielded ops a.tmps)=b:=by
 cases hgu:o.guard with
 | none =>
  rw [hgu] at hg
  cases hg
  simp only [wants,Option.some.injEq] at hw
  simp [Region.wanted,hgu,← hw]
 | some jw =>
  obtain ⟨j,want⟩:=jw
  rw [hgu] at hg
  simp only [Option.map_eq_some_iff] at hg
  obtain ⟨s,hs,rfl⟩:=hg
  simp only [wants] at hw
  simp only [Region.wanted,hgu,yielded_of hs]
  cases hx:get e s with
  | none=>rw [hx] at hw;cases hw
  | some x =>
   have hv:=env s x hx
   rw [hx] at hw
   cases x <;> (try simp only at hw) <;> try (cases hw;done)
   case bool t =>
    have:=hv.inv_bool
    rw [Array.getD_eq_getD_getElem?] at this
    cases hy:a.tmps[s]? with
    | none=>rw [hy] at this;cases this
    | some y =>
     rw [hy] at this
     simp only [Option.getD_some] at this
     subst this
     cases hw
     cases t <;> cases want <;> rfl
   case tup vs =>
    cases vs with
    | nil =>
     cases hw
     obtain ⟨us,e1,_,_⟩:=hv.inv_tup
     rw [Array.getD_eq_getD_getElem?] at e1
     cases hy:a.tmps[s]? with
     | none=>rfl
     | some y =>
      rw [hy] at e1
      simp only [Option.getD_some] at e1
      subst e1
      rfl
    | cons _ _=>cases hw
theorem op_ok (hr:RunOk P ψ run) {ops:Array Oper} {i:Nat} (hi:ops[i]?=some o) {nid n:Nat} {d:Did} (he:evOp C run (cOper P φ ops o) nid e h n=some d)
 (cx:Cx P φ ψ N w0 w S m A h e a) (hA:∀ b,A b→b < n) (hnid:¬ A nid) {K:Act→World→Prop} {Q:Exit→Act→World→Prop}
 (hK:∀ cv w',OpOut ψ N w0 w S m A nid n w' cv d→K (a.put o.dst cv) w'):wpOp P ops Q i K a w:=by
 have quiet:∀ {d':Did},d'.v=.tup []→d'.h=h→d'.n=n→OpOut ψ N w0 w S m A nid n w Go.undef d':=by
  intro d' e1 e2 e3
  refine ⟨S,m,A,?_,?_,Le.refl ..,fun _ _ hs=>hs,by omega,fun b hb=>.inl hb⟩
  · rw [e1];exact .tup [] #[] rfl (by simp)
  · rw [e2];exact cx.inv
 unfold cOper at he
 simp only at he
 split at he
 case h_2=>simp only [evOp,wants,evAct,callOf,stepOp,sNone,om] at he;cases he
 rename_i g cop hg hcop
 unfold wpOp
 simp only [hi]
 unfold evOp at he
 simp only at he
 split at he
 · cases he
 · rename_i hw
   cases he
   rw [wanted_ok cx.env hg hw]
   simp only [Bool.false_eq_true,if_false]
   exact hK _ _ (quiet rfl rfl rfl)
 · rename_i hw
   rw [wanted_ok cx.env hg hw]
   simp only [if_true]
   refine .inl ?_
   unfold Oper.wp
   unfold evAct at he
   split at he
   · cases he
   · rename_i f args hcall
     obtain ⟨c,hcd,rfl⟩:=om_some he
     obtain ⟨cargs,n1,n2,hex⟩:=callOf_ok cx hcop hcall (evCall_fn hr hcd).1
     obtain ⟨⟨_,fn,b,q1,q2,q3⟩,hcalls⟩:=evCall_ok hr hcd cx.inv hA hnid n1 n2
     rw [hex fn b q1 q2 q3]
     simp only [Oper.upon]
     refine Calls.mono hcalls.1 ?_
     rintro e' w' ⟨cv,rfl,S',m',A',r1,r2,r3,r4,r5,r6⟩
     exact hK cv w' ⟨S',m',A',r1,r2,r3,r4,r5,r6⟩
   · rename_i hcall
     obtain ⟨⟨v,u⟩,hst,rfl⟩:=om_some he
     obtain ⟨cv,w',S',m',A',hrun,r1,r2,r3,r5,r4⟩:=step_ok cx hcop hst hnid
     have out:OpOut ψ N w0 w S m A nid n w' cv ⟨v,applyUpd h u,n,false,readsOf e cop,u.map (·.1)⟩ :=
      ⟨S',m',A',r1,r2,r3,r5,Nat.le_refl _,fun b hb=>(r4 b hb).imp id .inl⟩
     rcases hrun with hrun | ⟨hrun,rfl⟩
     · rw [hrun];exact hK _ _ out
     · rw [hrun];exact hK _ _ out
end
end Go.Pav
end
section
set_option linter.unusedSimpArgs false
set_option linter.unusedVariables false
namespace Go.Pav
open Go
set_option linter.unusedVariables false
set_option linter.unusedSimpArgs false
def COp.isApp:COp→Bool
 | .app _ _ _ _ _=>true
 | _=>false
def NoApp (x:Option COp):Prop:=∀ c,x=some c→c.isApp=false
theorem NoApp.none:NoApp none:=fun c h=>by cases h
theorem NoApp.some {c:COp} (h:c.isApp=false):NoApp (some c):=fun c' h'=>by cases h';exact h
theorem NoApp.bind {α:Type} {x:Option α} {f:α→Option COp} (h:∀ a,NoApp (f a)):NoApp (x >>= f):=by
 intro c hc
 cases x with
 | none=>cases hc
 | some a=>exact h a c hc
theorem NoApp.map {α:Type} {x:Option α} {f:α→COp} (h:∀ a,(f a).isApp=false):NoApp (x.map f):=by
 intro c hc
 cases x with
 | none=>cases hc
 | some a=>cases hc;exact h a
theorem cEq_noapp (kd:Nat) (ks:List Nat) (op:BinOp) (x y:Opd):NoApp (cEq kd ks op x y):=by
 unfold cEq
 split <;> first | exact NoApp.some rfl | exact NoApp.none
theorem cBuiltin_noapp (P:Program) (φ:FuncId→Option Nat) (b:Builtin) (hb:b≠.append) (args:List Operand) (ts:List TypeId):NoApp (cBuiltin P φ b args ts):=by
 unfold cBuiltin
 split
 all_goals (first | exact absurd rfl hb | skip)
 all_goals (first | unfold cLen | unfold cCap | unfold cCopy | unfold cClear | unfold cMax | skip)
 all_goals (repeat' (first | exact NoApp.none | exact NoApp.some rfl | (refine NoApp.bind fun _=>?_) | split))
theorem cOp_noapp (P:Program) (φ:FuncId→Option Nat) (op:Op) (h:∀ c,op=.call c→c.callee≠.builtin .append):NoApp (cOp P φ op):=by
 cases op
 case call c =>
  simp only [cOp]
  cases hc:c.callee with
  | value f=>split <;> (repeat' (first | (rename_i heq;cases heq;done) | exact NoApp.none | exact NoApp.some rfl | (refine NoApp.bind fun _=>?_) | split))
  | builtin b=>exact cBuiltin_noapp P φ b (fun e=>h c rfl (by rw [hc,e])) _ _
  | invoke r n=>exact NoApp.none
 case makeFunc fn first caps =>
  cases fn <;> simp only [cOp] <;> first | exact NoApp.none | skip
  refine NoApp.bind fun _=>?_
  split
  · exact NoApp.bind fun _=>NoApp.some rfl
  · exact NoApp.none
 case makeMap t r=>cases r <;> simp only [cOp] <;> first | exact NoApp.none | exact NoApp.some rfl
 case next x b=>cases b <;> simp only [cOp] <;> first | exact NoApp.none | exact NoApp.map (fun _=>rfl)
 all_goals simp only [cOp]
 all_goals (repeat' (first | exact NoApp.none | exact NoApp.some rfl | exact NoApp.map (fun _=>rfl) | exact cEq_noapp _ _ _ _ _ | (refine NoApp.bind fun _=>?_) | split))
section
variable {P:Program} {φ:FuncId→Option Nat} {ψ:Psi} {N:Nat} {w0 w:World} {S:Nat→Prop} {m:Nat→Nat × Nat} {A:Nat→Prop} {h:Heap} {e:Env} {a:Act} {o:Oper}
def SnapOut (ψ:Psi) (N:Nat) (w0 w:World) (S:Nat→Prop) (m:Nat→Nat × Nat) (A:Nat→Prop) (h:Heap) (v:AV) (cv:Value) (w1:World):Prop :=
 ∃ S1:Nat→Prop,VR ψ w1 S1 m A v cv∧Inv ψ N w0 w1 S m A h∧Le w S m A w1 S m A∧(∀ c,S c→S1 c)∧∀ c,S1 c→c < w1.heap.size
theorem snap_run (cx:Cx P φ ψ N w0 w S m A h e a) {cop:COp} {v:AV} (hcop:cOp P φ o.op=some cop) (hs:snapOp e h cop=some v) :
 ∃ cv w1,(execOp a.eval o).run P w=.ok (.value cv) w1∧SnapOut ψ N w0 w S m A h v cv w1:=by
 have key:∃ c,o.op=.call c∧c.callee=.builtin .append:=by
  apply Classical.byContradiction
  intro hno
  have:=cOp_noapp P φ o.op (fun c h1 h2=>hno ⟨c,h1,h2⟩) cop hcop
  cases cop <;> simp only [snapOp] at hs <;> first | (cases hs;done) | (simp [COp.isApp] at this)
 obtain ⟨c,ho,hb⟩:=key
 rw [ho] at hcop
 simp only [cOp,hb,cBuiltin] at hcop
 unfold cAppend at hcop
 split at hcop
 · rename_i S0 X t u hargs htys
   simp only [Option.bind_eq_bind,Option.bind_eq_some_iff] at hcop
   obtain ⟨s,hsx,x,hx,d,hd,hc⟩:=hcop
   have hS:=cx.opd hsx
   have hX:=cx.opd hx
   have ea:=arr2 hargs
   have et:=arr2 htys
   have hex:∀ w' v,(Builtin.append_ #[t,u] o.type #[a.eval S0,a.eval X]).run P w=.ok v w'→(execOp a.eval o).run P w=.ok (.value v) w':=by
    intro w' v hr
    rw [call_builtin (s:=Builtin.append_ #[t,u] o.type #[a.eval S0,a.eval X]) ho hb (fun _=>by rw [ea,et];simp [builtin])]
    simp [hr]
   split at hc
   · rename_i el
     simp only [Option.bind_eq_some_iff] at hc
     obtain ⟨z,hz,it,hit,hc⟩:=hc
     split at hc
     · cases hc
     · rename_i hne
       obtain ⟨it',zv,hit',hzv,z1,z2,z3,z4⟩:=zeroCells_some (ψ:=ψ) (w:=w) (S:=S) (m:=m) (A:=A) hz
       rw [hit] at hit'
       cases hit'
       have hz0:0 < z.length:=Nat.pos_of_ne_zero fun q=>hne (.inl q)
       have hb0:it.bytes≠0:=fun q=>hne (.inr (.inl q))
       have hbf:it.bytes < frzBytes:=Nat.lt_of_not_le fun q=>hne (.inr (.inr q))
       simp only [Option.bind_eq_some_iff] at hc
       obtain ⟨du,hdu,hc⟩:=hc
       have plain:(∀ k,du≠.int k)→cop=.app z (appBytes φ s it.bytes) false s x→∃ cv w1,(execOp a.eval o).run P w=.ok (.value cv) w1∧SnapOut ψ N w0 w S m A h v cv w1:=by
        intro hno hcop
        subst hcop
        simp only [snapOp,Bool.false_eq_true,false_or] at hs
        split at hs
        · cases hs
        rename_i hnb
        have hab:appBytes φ s it.bytes=it.bytes:=(appBytes_or φ s it.bytes).resolve_right fun q=>hnb (by rw [q];omega)
        rw [hab] at hs
        obtain ⟨xs,hxs,hs'⟩:=ob_some hs
        obtain ⟨q1,q2⟩:=elems_run (P:=P) cx.inv hz0 hX hxs
        obtain ⟨news,q3,q4⟩:=q2 xs.length (Nat.le_refl _)
        rw [List.take_of_length_le (Nat.le_refl _)] at q4
        unfold snapOf at hs'
        split at hs'
        · rename_i b z' i len cap ex heq
          split at hs'
          · rename_i zb es mu hg
            split at hs'
            · rename_i hcnd
              obtain ⟨rfl,h2,rfl,rfl,rfl,hbb,hfl⟩:=hcnd
              subst h2
              cases hs'
              rw [heq] at hS
              have hf:∀ e' ∈ es++xs,∀ x' ∈ e',flat x'=true:=fun e' he' x' hx'=>List.all_eq_true.1 (List.all_eq_true.1 hfl e' he') x' hx'
              obtain ⟨cv,w1,S1,r1,r2,r3,r4,r5,r6⟩:=app_snap cx.inv hz0 z1 hb0 hex (src_plain hd hdu hno hit z2 hzv q1 q3) q4 hS hg hbb hf
              exact ⟨cv,w1,r1,S1,r2,r3,r4,r5,r6.1⟩
            · cases hs'
          · cases hs'
        · cases hs'
       split at hc
       · cases hc
         simp only [snapOp,true_or,if_true] at hs
         cases hs
       · cases hc;exact plain (fun k q=>by cases q) rfl
       · cases hc;exact plain (fun k q=>by cases q) rfl
       · cases hc
   · cases hc
 · cases hcop
theorem snap_ok {ops:Array Oper} {i:Nat} (hi:ops[i]?=some o) {v:AV} (he:evSnap (cOper P φ ops o) e h=some v) (cx:Cx P φ ψ N w0 w S m A h e a) {K:Act→World→Prop} {Q:Exit→Act→World→Prop}
 (hK:∀ cv w1,SnapOut ψ N w0 w S m A h v cv w1→K (a.put o.dst cv) w1):wpOp P ops Q i K a w:=by
 unfold cOper at he
 simp only at he
 split at he
 case h_2 =>
  unfold evSnap at he
  split at he
  · simp only [snapOp] at he;cases he
  · cases he
 rename_i g cop hg hcop
 unfold wpOp
 simp only [hi]
 unfold evSnap at he
 simp only at he
 split at he
 · rename_i hw
   rw [wanted_ok cx.env hg hw]
   simp only [if_true]
   refine .inl ?_
   unfold Oper.wp
   obtain ⟨cv,w1,hrun,out⟩:=snap_run cx hcop he
   rw [hrun]
   exact hK _ _ out
 · cases he
end
end Go.Pav
end
section
set_option linter.unusedSimpArgs false
set_option linter.unusedVariables false
namespace Go.Pav
open Go
def RuleOk (P:Program) (ψ:Psi) (g:Nat) (cf:CFn):Prop :=
 (∃ fn c, P.funcs[ψ g]? = some fn ∧ fn.name ≠ "runtime.NumGoroutine" ∧ fn.body = some c) ∧
 ∀ (C:Prog) (fuel:Nat) (args:List AV) (h:Heap) (n:Nat) (r:Ex × St) (v:AV) (h':Heap) (n':Nat),args.length=cf.np→evC C fuel cf.body ⟨argEnv 0 args,h,n⟩=some r→fnEnd cf r=some (v,h',n') →
  ∀ (N:Nat) (w0 w:World) (S:Nat→Prop) (m:Nat→Nat × Nat) (A:Nat→Prop) (cargs:Array Value),Inv ψ N w0 w S m A h→(∀ b,A b→b < n)→cargs.size=args.length →
  (∀ (j:Nat) (x:AV),args[j]?=some x→VR ψ w S m A x (cargs.getD j Go.undef))→CallsX P (ψ g) cargs w fun e w'=>∃ cv,e=.returned cv∧Out ψ N w0 w S m A n w' v cv h' n'
structure Linked (P:Program) (Φ:Nat→FuncId→Option Nat) (ψ:Psi) (C:Prog):Prop where
 ids:∀ g f k,Φ g f=some k→ψ k=f
 fns:∀ g cf,C.fns.get g=some cf→(∃ fn,P.funcs[ψ g]?=some fn∧(cFn P (Φ g) fn).map stripF=some (stripF cf))∨RuleOk P ψ g cf
 lt:∀ g cf,C.fns.get g=some cf→g < 1000000
 mixed:P.follows .mixedOrders=true
def Reach (ψ:Psi) (N:Nat) (w0 w:World) (S:Nat→Prop) (m:Nat→Nat × Nat) (A:Nat→Prop) (n:Nat) (a:Act) (s':St) (a':Act) (w':World):Prop :=
 ∃ S' m' A',Inv ψ N w0 w' S' m' A' s'.heap∧EnvR ψ w' S' m' A' s'.env a'.tmps∧a'.tmps.size=a.tmps.size∧a'.defers=a.defers∧Le w S m A w' S' m' A' ∧
  (∀ c,c < N→S' c→S c)∧n≤s'.next∧∀ b,A' b→A b∨(n≤b∧b < s'.next)
section
variable {P:Program} {φ:FuncId→Option Nat} {ψ:Psi} {N:Nat} {w0 w:World} {S:Nat→Prop} {m:Nat→Nat × Nat} {A:Nat→Prop} {a:Act} {run:Run} {C:Prog}
theorem Reach.refl {s:St} (i:Inv ψ N w0 w S m A s.heap) (env:EnvR ψ w S m A s.env a.tmps):Reach ψ N w0 w S m A s.next a s a w :=
 ⟨S,m,A,i,env,rfl,rfl,Le.refl ..,fun _ _ h=>h,Nat.le_refl _,fun _ h=>.inl h⟩
def KeepT (T:Nat→Prop) (a a':Act):Prop:=∀ t,T t→a'.tmps.getD t Go.undef=a.tmps.getD t Go.undef
theorem KeepT.refl (T:Nat→Prop) (a:Act):KeepT T a a:=fun _ _=>rfl
theorem KeepT.trans {T:Nat→Prop} {a b c:Act} (h:KeepT T a b) (k:KeepT T b c):KeepT T a c:=fun t ht=>(k t ht).trans (h t ht)
theorem KeepT.put {T:Nat→Prop} {a:Act} {d:Option Tmp} {v:Value} (h:∀ x,d=some x→¬ T x):KeepT T a (a.put d v):=by
 intro t ht
 cases d with
 | none=>rfl
 | some x =>
  have hne:x≠t:=fun e=>h x rfl (e ▸ ht)
  simp only [Act.put,Array.getD_eq_getD_getElem?,Array.getElem?_setIfInBounds_ne hne]
def ReachT (T:Nat→Prop) (ψ:Psi) (N:Nat) (w0 w:World) (S:Nat→Prop) (m:Nat→Nat × Nat) (A:Nat→Prop) (n:Nat) (a:Act) (s':St) (a':Act) (w':World):Prop :=
 KeepT T a a'∧Reach ψ N w0 w S m A n a s' a' w'
theorem Reach.trans {w1:World} {S1:Nat→Prop} {m1:Nat→Nat × Nat} {A1:Nat→Prop} {a1:Act} {n n1:Nat} (hs:a1.tmps.size=a.tmps.size) (hd:a1.defers=a.defers)
 (hle:Le w S m A w1 S1 m1 A1) (hS:∀ c,c < N→S1 c→S c) (hn:n≤n1) (hA:∀ b,A1 b→A b∨(n≤b∧b < n1)) {s2:St} {a2:Act} {w2:World}
 (r:Reach ψ N w0 w1 S1 m1 A1 n1 a1 s2 a2 w2):Reach ψ N w0 w S m A n a s2 a2 w2:=by
 obtain ⟨S2,m2,A2,r1,r2,r3,r4,r5,r6,r7,r8⟩:=r
 refine ⟨S2,m2,A2,r1,r2,r3.trans hs,r4.trans hd,hle.trans r5,fun c hc h=>hS c hc (r6 c hc h),Nat.le_trans hn r7,fun b hb=>?_⟩
 rcases r8 b hb with q | ⟨q1,q2⟩
 · rcases hA b q with q | ⟨q1,q2⟩
   · exact .inl q
   · exact .inr ⟨q1,by omega⟩
 · exact .inr ⟨by omega,q2⟩
theorem Act.put_size (a:Act) (d:Option Tmp) (v:Value):(a.put d v).tmps.size=a.tmps.size:=by
 cases d <;> simp [Act.put]
theorem Act.put_defers' (a:Act) (d:Option Tmp) (v:Value):(a.put d v).defers=a.defers:=by
 cases d <;> rfl
theorem EnvR.setDst {e:Env} (env:EnvR ψ w S m A e a.tmps) {d:Option Nat} (hd:∀ x,d=some x→x < a.tmps.size) {v:AV} {cv:Value} (hv:VR ψ w S m A v cv) :
 EnvR ψ w S m A (setDst e d v) (a.put d cv).tmps:=by
 cases d with
 | none=>exact env
 | some d=>exact env.put (hd d rfl) hv
theorem wpOps_iff (ops:Array Oper) (Q:Exit→Act→World→Prop) (i:Nat) (rest:List Nat) (a:Act) (w:World):wpOps P ops Q (i::rest) a w=wpOp P ops Q i (wpOps P ops Q rest) a w:=wpOps_cons i rest a w
theorem evOps_ok {T:Nat→Prop} (ids:∀ f g,φ f=some g→ψ g=f) (hr:RunOk P ψ run) (ops:Array Oper) (Q:Exit→Act→World→Prop) (rest:List Nat):∀ (l:List Oper) (k:Nat),(∀ j o,l[j]?=some o→ops[k+j]?=some o)→∀ (s s':St),evOps C run (l.map (cOper P φ ops)) s=some s' →
 ∀ (w:World) (S:Nat→Prop) (m:Nat→Nat × Nat) (A:Nat→Prop) (a:Act),Inv ψ N w0 w S m A s.heap→EnvR ψ w S m A s.env a.tmps→(∀ b,A b→b < s.next) →
 (∀ o ∈ l,∀ x,o.dst=some x→x < a.tmps.size)→(∀ o ∈ l,∀ x,o.dst=some x→¬ T x)→(∀ a' w',ReachT T ψ N w0 w S m A s.next a s' a' w'→wpOps P ops Q rest a' w')→wpOps P ops Q (List.range' k l.length++rest) a w:=by
 intro l
 induction l with
 | nil =>
  intro k _ s s' he w S m A a i env hA _ _ hQ
  simp only [List.map_nil,evOps,Option.some.injEq] at he
  subst he
  exact hQ a w ⟨KeepT.refl _ _,Reach.refl i env⟩
 | cons o l ih =>
  intro k hk s s' he w S m A a i env hA hd hT hQ
  have h0:ops[k]?=some o:=by simpa using hk 0 o rfl
  simp only [List.map_cons,evOps] at he
  obtain ⟨d,hev,he⟩:=ob_some he
  rw [List.length_cons,List.range'_succ,List.cons_append,wpOps_iff]
  refine op_ok hr h0 hev ⟨i,env,ids⟩ (fun b hb=>Nat.lt_succ_of_lt (hA b hb)) (fun hb=>Nat.lt_irrefl _ (hA _ hb)) ?_
  rintro cv w1 ⟨S1,m1,A1,r1,r2,r3,r4,r5,r6⟩
  have hdst:(cOper P φ ops o).dst=o.dst:=by unfold cOper;simp only;split <;> rfl
  rw [hdst] at he
  have hA1:∀ b,A1 b→A b∨(s.next≤b∧b < d.n):=by
   intro b hb
   rcases r6 b hb with q | q | ⟨q1,q2⟩
   · exact .inl q
   · exact .inr ⟨by omega,by omega⟩
   · exact .inr ⟨by omega,q2⟩
  refine ih (k+1) (fun j o' ho'=>by have:=hk (j+1) o' (by simpa using ho');simpa [Nat.add_assoc,Nat.add_comm 1 j] using this) ⟨setDst s.env o.dst d.v,d.h,d.n⟩ s' he w1 S1 m1 A1 (a.put o.dst cv) r2
   ((env.mono r3).setDst (hd o List.mem_cons_self) r1) (fun b hb=>?_) (fun o' ho' x hx=>?_) (fun o' ho'=>hT o' (List.mem_cons_of_mem _ ho')) (fun a' w' hre=>?_)
  · rcases hA1 b hb with q | q
    · have:=hA b q;simp only;omega
    · exact q.2
  · rw [Act.put_size];exact hd o' (List.mem_cons_of_mem _ ho') x hx
  · exact hQ a' w' ⟨(KeepT.put (hT o List.mem_cons_self)).trans hre.1,Reach.trans (Act.put_size ..) (Act.put_defers' ..) r3 r4 (by omega) hA1 hre.2⟩
theorem isoEnv_get (e2:Env) (t:Nat):∀ (L:List Nat) (e:Env),get (isoEnv e2 L e) t=if t ∈ L then some (isoVal e2 t) else get e t
 | [],e=>by simp [isoEnv]
 | k::r,e=>by
  rw [isoEnv,isoEnv_get e2 t r,get_put]
  by_cases h1:t ∈ r
  · rw [if_pos h1,if_pos (List.mem_cons_of_mem _ h1)]
  · rw [if_neg h1]
    by_cases h2:k=t
    · subst h2;simp
    · rw [if_neg h2,if_neg]
      rw [List.mem_cons]
      rintro (q | q)
      · exact h2 q.symm
      · exact h1 q
theorem plainV_vr {w':World} {S':Nat→Prop} {m':Nat→Nat × Nat} {A A':Nat→Prop} {v:AV} {cv:Value} (hp:plainV v=true) (h:VR ψ w S m A v cv):VR ψ w' S' m' A' v cv:=by
 cases h with
 | bool b=>exact .bool b
 | int k n=>exact .int k n
 | str s=>exact .str s
 | nilp=>exact .nilp
 | nils=>exact .nils
 | nilm=>exact .nilm
 | nilf=>exact .nilf
 | undef v=>exact .undef _
 | _=>simp [plainV] at hp
theorem isoVal_vr {w':World} {S':Nat→Prop} {m':Nat→Nat × Nat} {A A':Nat→Prop} {e2:Env} {t:Array Value} (env:EnvR ψ w S m A e2 t) (k:Nat):VR ψ w' S' m' A' (isoVal e2 k) (t.getD k Go.undef):=by
 unfold isoVal
 cases hg:get e2 k with
 | none=>exact .undef _
 | some v =>
  simp only
  split
  · rename_i hp;exact plainV_vr hp (env k v hg)
  · exact .undef _
theorem Inv.empty {w1:World} {S1:Nat→Prop} (hS:∀ c,S1 c→c < w1.heap.size) (hl:∀ c o,ψ.laid c=some o→c < w1.heap.size∧w1.heap[c]?=some o):Inv ψ w1.heap.size w1 w1 S1 m A ([]:Heap) :=
 ⟨fun b o hb=>by simp [get] at hb,fun b o hb=>by simp [get] at hb,fun b o hb=>by simp [get] at hb,fun b o hb=>by simp [get] at hb,fun b o b' o' hb=>by simp [get] at hb,hS,Nat.le_refl _,fun _ _=>rfl,rfl,rfl,hl⟩
theorem evIso_ok {T:Nat→Prop} (ids:∀ f g,φ f=some g→ψ g=f) (hr:RunOk P ψ run) (ops:Array Oper) (Q:Exit→Act→World→Prop) {l1 l2:List Oper} {o:Oper} (hl:ops.toList=l1++o::l2) {s s':St}
 (he:evIso C run (l1.map (cOper P φ ops)) (cOper P φ ops o) (l2.map (cOper P φ ops)) s=some s') (i:Inv ψ N w0 w S m A s.heap) (env:EnvR ψ w S m A s.env a.tmps) (hA:∀ b,A b→b < s.next)
 (hd:∀ o ∈ ops.toList,∀ x,o.dst=some x→x < a.tmps.size) (hT:∀ o ∈ ops.toList,∀ x,o.dst=some x→¬ T x) (hQ:∀ a' w',ReachT T ψ N w0 w S m A s.next a s' a' w'→wpOps P ops Q [] a' w') :
 wpOps P ops Q (List.range' 0 ops.toList.length) a w:=by
 unfold evIso at he
 split at he
 case isFalse=>cases he
 obtain ⟨s1,h1,he⟩:=ob_some he
 obtain ⟨v,h2,he⟩:=ob_some he
 obtain ⟨s2,h3,he⟩:=om_some he
 have at_:∀ j o',(l1++o::l2)[j]?=some o'→ops[j]?=some o':=fun j o' hj=>by rw [← hl,Array.getElem?_toList] at hj;exact hj
 have dst_:∀ o':Oper,(cOper P φ ops o').dst=o'.dst:=fun o'=>by unfold cOper;simp only;split <;> rfl
 have hsplit:List.range' 0 ops.toList.length=List.range' 0 l1.length++(l1.length::(List.range' (l1.length+1) l2.length++[])):=by
  rw [hl,List.length_append,List.length_cons,← List.range'_append_1,List.range'_succ,List.append_nil,Nat.zero_add]
 rw [hsplit]
 have in1:∀ o' ∈ l1,o' ∈ ops.toList:=fun o' ho=>by rw [hl];exact List.mem_append_left _ ho
 have ino:o ∈ ops.toList:=by rw [hl];exact List.mem_append_right _ List.mem_cons_self
 have in2:∀ o' ∈ l2,o' ∈ ops.toList:=fun o' ho=>by rw [hl];exact List.mem_append_right _ (List.mem_cons_of_mem _ ho)
 refine evOps_ok ids hr ops Q _ l1 0 (fun j o' hj=>by rw [Nat.zero_add];exact at_ j o' (by rw [List.getElem?_append_left (List.getElem?_eq_some_iff.1 hj).1];exact hj)) s s1 h1 w S m A a i env hA
  (fun o' ho=>hd o' (in1 o' ho)) (fun o' ho=>hT o' (in1 o' ho)) ?_
 rintro a1 w1 ⟨hk1,S1,m1,A1,i1,env1,r3,r4,r5,r6,r7,r8⟩
 rw [wpOps_iff]
 refine snap_ok (at_ l1.length o (by rw [List.getElem?_append_right (Nat.le_refl _),Nat.sub_self];rfl)) h2 ⟨i1,env1,ids⟩ ?_
 rintro cv w2 ⟨S2,v2,i2,le2,sub2,sb2⟩
 have hA1:∀ b,A1 b→b < s1.next:=fun b hb=>by
  rcases r8 b hb with q | q
  · have:=hA b q;omega
  · exact q.2
 have le12:Le w1 S1 m1 A1 w2 S2 m1 A1:=⟨le2.kept,le2.rows,le2.size,sub2,le2.made,le2.same⟩
 rw [dst_] at h3
 refine evOps_ok (T:=fun t=>∀ o' ∈ o::l2,o'.dst≠some t) ids hr ops Q [] l2 (l1.length+1) (fun j o' hj=>at_ _ o' (by
  rw [List.getElem?_append_right (by omega),show l1.length+1+j - l1.length=j+1 by omega,List.getElem?_cons_succ];exact hj))
  ⟨setDst s1.env o.dst v,[],s1.next⟩ s2 h3 w2 S2 m1 A1 (a1.put o.dst cv) (Inv.empty sb2 i2.laidw) ((env1.mono le12).setDst (fun x hx=>by rw [r3];exact hd o ino x hx) v2) hA1
  (fun o' ho x hx=>by rw [Act.put_size,r3];exact hd o' (in2 o' ho) x hx) (fun o' ho x hx hn=>hn o' (List.mem_cons_of_mem _ ho) hx) ?_
 rintro a3 w3 ⟨hk3,S3,m3,A3,i3,env3,p3,p4,p5,p6,p7,p8⟩
 obtain ⟨i4,le4⟩:=i2.stay (w1:=w3) i3.old i3.size i3.os i3.out
 have tr:Le w S m A w3 S1 m1 A1:=(r5.trans le2).trans le4
 subst he
 have hput:(a1.put o.dst cv).defers=a1.defers:=Act.put_defers' ..
 refine hQ a3 w3 ⟨?_,S1,m1,A1,i4,fun k u hk=>?_,?_,(p4.trans hput).trans r4,tr,r6,Nat.le_trans r7 p7,fun b hb=>?_⟩
 · refine hk1.trans ((KeepT.put (hT o ino)).trans fun t ht=>hk3 t fun o' ho hx=>?_)
   rcases List.mem_cons.1 ho with rfl | ho
   · exact hT _ ino t hx ht
   · exact hT _ (in2 _ ho) t hx ht
 · simp only at hk
   rw [isoEnv_get] at hk
   split at hk
   · cases hk;exact isoVal_vr env3 k
   · rename_i hn
     have hno:∀ o' ∈ o::l2,o'.dst≠some k:=by
      intro o' ho hx
      refine hn (List.mem_filterMap.2 ⟨cOper P φ ops o',?_,by rw [dst_];exact hx⟩)
      rw [← List.map_cons]
      exact List.mem_map_of_mem ho
     have e1:a3.tmps.getD k Go.undef=a1.tmps.getD k Go.undef:=by
      rw [hk3 k hno]
      exact KeepT.put (T:=fun t=>o.dst≠some t) (fun x hx hn=>hn hx) k (hno o List.mem_cons_self)
     rw [e1]
     exact ((env1 k u hk).mono le2).mono le4
 · exact (p3.trans (Act.put_size ..)).trans r3
 · rcases r8 b hb with q | q
   · exact .inl q
   · exact .inr ⟨q.1,Nat.lt_of_lt_of_le q.2 p7⟩
inductive Fit (P:Program) (φ:FuncId→Option Nat) (nt:Nat):Option Nat→Code→CCode→Prop
 | fail (c:Code):Fit P φ nt none c .fail
 | skip:Fit P φ nt none .skip .skip
 | ops (id:Nat) (ops:Array Oper) (live:Nat × List Nat) (hd:∀ o ∈ ops.toList,∀ x,o.dst=some x→x < nt):Fit P φ nt none (.region id ops false) (.ops (ops.toList.map (cOper P φ ops)) live)
 | draw (id:Nat) (ops:Array Oper) (live:Nat × List Nat) (hd:∀ o ∈ ops.toList,∀ x,o.dst=some x→x < nt) (he:edgesOk 0 ops.toList=true)
  (hu:(unordered (ancestors ops.toList)).all (fun p=>slotsApart ((ops.toList.map (cOper P φ ops)).getD p.1 default) ((ops.toList.map (cOper P φ ops)).getD p.2 default))=true) :
  Fit P φ nt none (.region id ops true) (.draw (ops.toList.map (cOper P φ ops))
   ((unordered (ancestors ops.toList)).filter fun p=>mayClash ((ops.toList.map (cOper P φ ops)).getD p.1 default).op ((ops.toList.map (cOper P φ ops)).getD p.2 default).op) live)
 | iso (id:Nat) (ops:Array Oper) (live:Nat × List Nat) (l1:List Oper) (o:Oper) (l2:List Oper) (hl:ops.toList=l1++o::l2) (hd:∀ o ∈ ops.toList,∀ x,o.dst=some x→x < nt) :
  Fit P φ nt none (.region id ops false) (.iso (l1.map (cOper P φ ops)) (cOper P φ ops o) (l2.map (cOper P φ ops)) live)
 | seq {a b:Code} {x y:CCode} (ha:Fit P φ nt none a x) (hb:Fit P φ nt none b y):Fit P φ nt none (.seq a b) (.seq x y)
 | cond {c:Operand} {c':Opd} {a b:Code} {x y:CCode} (hc:cOpd φ c=some c') (ha:Fit P φ nt none a x) (hb:Fit P φ nt none b y):Fit P φ nt none (.cond c a b) (.cond c' x y)
 | block (id:Nat) (hid:id < topId) {b:Code} {y:CCode} (hb:Fit P φ nt none b y):Fit P φ nt none (.block id b) (.block id y)
 | loop (live:Nat) {b:Code} {y:CCode} (hb:Fit P φ nt none b y):Fit P φ nt none (.loop b) (.loop live y)
 | scope {b:Code} {y:CCode} (hj:noJump b=true) (hb:Fit P φ nt none b y):Fit P φ nt none (.scope b) (.seq y .skip)
 | label (l:Nat):Fit P φ nt none (.label l) .skip
 | exit (id:Nat) (hid:id < topId):Fit P φ nt none (.exit id) (.exit id)
 | goto (l:Nat):Fit P φ nt none (.goto l) (.exit (gotoId l))
 | again (l:Nat) {b:Code} {y:CCode} (hb:Fit P φ nt (some l) b y):Fit P φ nt none (.scope b) y
 | here (l live:Nat) {b:Code} {y:CCode} (hj:jumpsTo (fun k=>decide (k=l)) b=true) (hb:Fit P φ nt none b y) :
  Fit P φ nt (some l) (.seq (.label l) b) (.block (outId l) (.loop live (.block (gotoId l) (.seq y (.exit (outId l))))))
 | on (l:Nat) {a b:Code} {x y:CCode} (hj:noJump a=true) (hl:findLabel a l=none) (ha:Fit P φ nt none a x) (hb:Fit P φ nt (some l) b y):Fit P φ nt (some l) (.seq a b) (.seq x y)
 | ret:Fit P φ nt none .ret .ret
theorem cRegion_fit {nt id:Nat} {ops:Array Oper} {d:Bool} (hd:∀ o ∈ ops.toList,∀ x,o.dst=some x→x < nt):Fit P φ nt none (.region id ops d) (cRegion P φ ops d):=by
 unfold cRegion
 cases d with
 | false=>exact .ops id ops (0,[]) hd
 | true =>
  simp only
  split
  · rename_i h
    simp only [Bool.and_eq_true] at h
    exact .draw id ops (0,[]) hd h.1 h.2
  · exact .fail _
theorem isLabel_some {a:Code} {l:Nat} (h:isLabel a=some l):a=.label l:=by
 cases a <;> simp only [isLabel,Option.some.injEq] at h <;> first | (cases h;done) | (rw [h])
theorem cBoth_fit {nt:Nat}:∀ (c:Code),codeFits nt c=true→Fit P φ nt none c (cCode P φ c)∧∀ l,spineOk l c=true→Fit P φ nt (some l) c (cSpine P φ c):=by
 intro c
 induction c with
 | skip=>intro _;exact ⟨.skip,fun l h=>by simp [spineOk] at h⟩
 | region id ops d =>
  intro h
  refine ⟨cRegion_fit fun o ho x hx=>?_,fun l h=>by simp [spineOk] at h⟩
  simp only [codeFits,List.all_eq_true] at h
  have:=h o ho
  rw [hx] at this
  exact Nat.blt_eq ▸ this
 | seq a b iha ihb =>
  intro h
  simp only [codeFits,Bool.and_eq_true] at h
  refine ⟨.seq (iha h.1).1 (ihb h.2).1,fun l hl=>?_⟩
  simp only [spineOk] at hl
  simp only [cSpine]
  split at hl
  · rename_i l' hla
    simp only [Bool.and_eq_true,decide_eq_true_eq] at hl
    obtain ⟨rfl,hj⟩:=hl
    rw [isLabel_some hla]
    exact .here _ 0 hj (ihb h.2).1
  · rename_i hla
    simp only [Bool.and_eq_true,Option.isNone_iff_eq_none] at hl
    exact .on l hl.1.1 hl.1.2 (iha h.1).1 ((ihb h.2).2 l hl.2)
 | cond c a b iha ihb =>
  intro h
  simp only [codeFits,Bool.and_eq_true] at h
  refine ⟨?_,fun l h=>by simp [spineOk] at h⟩
  simp only [cCode]
  split
  · rename_i c' hc;exact .cond hc (iha h.1).1 (ihb h.2).1
  · exact .fail _
 | block id b ih =>
  intro h
  simp only [codeFits,Bool.and_eq_true] at h
  exact ⟨.block id (Nat.blt_eq ▸ h.1) (ih h.2).1,fun l h=>by simp [spineOk] at h⟩
 | loop b ih=>intro h;exact ⟨.loop 0 (ih h).1,fun l h=>by simp [spineOk] at h⟩
 | scope b ih =>
  intro h
  simp only [codeFits,Bool.and_eq_true,Bool.or_eq_true] at h
  refine ⟨?_,fun l h=>by simp [spineOk] at h⟩
  simp only [cCode]
  split
  · rename_i hj;exact .scope hj (ih h.1).1
  · rename_i hj
    have h2:=h.2.resolve_left (by rw [hj];simp)
    split at h2
    · rename_i l hl;exact .again l ((ih h.1).2 l h2)
    · cases h2
 | label l=>intro _;exact ⟨.label l,fun l h=>by simp [spineOk] at h⟩
 | goto l=>intro _;exact ⟨.goto l,fun l h=>by simp [spineOk] at h⟩
 | exit id =>
  intro h
  simp only [codeFits] at h
  exact ⟨.exit id (Nat.blt_eq ▸ h),fun l h=>by simp [spineOk] at h⟩
 | ret=>intro _;exact ⟨.ret,fun l h=>by simp [spineOk] at h⟩
 | rangeFunc f ps a b _ _=>intro _;exact ⟨.fail _,fun l h=>by simp [spineOk] at h⟩
 | refuse w=>intro _;exact ⟨.fail _,fun l h=>by simp [spineOk] at h⟩
theorem cCode_fit {nt:Nat} (c:Code) (h:codeFits nt c=true):Fit P φ nt none c (cCode P φ c):=(cBoth_fit c h).1
theorem liveC_fit {nt rm:Nat} {sp:Option Nat} {c:Code} {cc:CCode} (h:Fit P φ nt sp c cc):∀ (out:Nat) (ex:List (Nat × Nat)),Fit P φ nt sp c (liveC rm cc out ex).1:=by
 induction h with
 | fail c=>intro out ex;exact .fail c
 | skip=>intro out ex;exact .skip
 | ops id ops live hd=>intro out ex;exact .ops id ops _ hd
 | iso id ops live l1 o l2 hl hd=>intro out ex;exact .iso id ops _ l1 o l2 hl hd
 | draw id ops live hd he hu=>intro out ex;exact .draw id ops _ hd he hu
 | seq _ _ iha ihb=>intro out ex;exact .seq (iha _ _) (ihb _ _)
 | cond hc _ _ iha ihb=>intro out ex;exact .cond hc (iha _ _) (ihb _ _)
 | block id hid _ ih=>intro out ex;exact .block id hid (ih _ _)
 | loop live _ ih=>intro out ex;exact .loop _ (ih _ _)
 | scope hj _ ih=>intro out ex;exact .scope hj (ih _ _)
 | label l=>intro out ex;exact .label l
 | exit id hid=>intro out ex;exact .exit id hid
 | goto l=>intro out ex;exact .goto l
 | again l _ ih=>intro out ex;exact .again l (ih _ _)
 | here l live hj _ ih=>intro out ex;exact .here l _ hj (ih _ _)
 | on l hj hl _ _ iha ihb=>intro out ex;exact .on l hj hl (iha _ _) (ihb _ _)
 | ret=>intro out ex;exact .ret
theorem fit_mz {nt:Nat} {c:Code} {x:CCode} {sp:Option Nat} (h:Fit P φ nt sp c x):∀ y,mz y=mz x→Fit P φ nt sp c y:=by
 induction h with
 | fail c=>intro y hy;cases y <;> simp only [mz] at hy <;> first | (cases hy;done) | exact .fail _
 | skip=>intro y hy;cases y <;> simp only [mz] at hy <;> first | (cases hy;done) | exact .skip
 | label l=>intro y hy;cases y <;> simp only [mz] at hy <;> first | (cases hy;done) | exact .label _
 | scope hj _ ih =>
  intro y hy
  cases y <;> simp only [mz] at hy <;> try (cases hy;done)
  rename_i y1 y2
  simp only [CCode.seq.injEq] at hy
  have h2:y2=.skip:=by
   have:=hy.2
   cases y2 <;> simp only [mz] at this <;> first | rfl | (cases this;done)
  rw [h2]
  exact .scope hj (ih _ hy.1)
 | again l _ ih=>intro y hy;exact .again l (ih _ hy)
 | on l hj hl _ _ iha ihb =>
  intro y hy
  cases y <;> simp only [mz] at hy <;> try (cases hy;done)
  simp only [CCode.seq.injEq] at hy
  exact .on l hj hl (iha _ hy.1) (ihb _ hy.2)
 | here l live hj _ ih =>
  intro y hy
  cases y <;> simp only [mz] at hy <;> try (cases hy;done)
  rename_i y1
  simp only [CCode.block.injEq] at hy
  obtain ⟨rfl,hy⟩:=hy
  cases y1 <;> simp only [mz] at hy <;> try (cases hy;done)
  rename_i m1 y2
  simp only [CCode.loop.injEq,true_and] at hy
  cases y2 <;> simp only [mz] at hy <;> try (cases hy;done)
  rename_i y3
  simp only [CCode.block.injEq] at hy
  obtain ⟨rfl,hy⟩:=hy
  cases y3 <;> simp only [mz] at hy <;> try (cases hy;done)
  rename_i y4 y5
  simp only [CCode.seq.injEq] at hy
  have h5:y5=.exit (outId l):=by
   have:=hy.2
   cases y5 <;> simp only [mz] at this <;> first | (cases this;done) | (cases this;rfl)
  rw [h5]
  exact .here l _ hj (ih _ hy.1)
 | exit id hid=>intro y hy;cases y <;> simp only [mz] at hy <;> first | (cases hy;done) | (cases hy;exact .exit _ hid)
 | goto l=>intro y hy;cases y <;> simp only [mz] at hy <;> first | (cases hy;done) | (cases hy;exact .goto _)
 | ret=>intro y hy;cases y <;> simp only [mz] at hy <;> first | (cases hy;done) | exact .ret
 | ops id ops live hd =>
  intro y hy
  cases y <;> simp only [mz] at hy <;> try (cases hy;done)
  · simp only [CCode.ops.injEq,and_true] at hy
    rw [hy];exact .ops id ops _ hd
  · simp only [CCode.ops.injEq,and_true] at hy
    obtain ⟨l1,r,h1,h2,h3⟩:=List.map_eq_append_iff.1 hy.symm
    obtain ⟨o,l2,h4,h5,h6⟩:=List.map_eq_cons_iff.1 h3
    rw [← h2,← h5,← h6]
    exact .iso id ops _ l1 o l2 (by rw [h1,h4]) hd
 | iso id ops live l1 o l2 hl hd =>
  intro y hy
  cases y <;> simp only [mz] at hy <;> try (cases hy;done)
  · simp only [CCode.ops.injEq,and_true] at hy
    rw [← List.map_cons,← List.map_append,← hl] at hy
    rw [hy];exact .ops id ops _ hd
  · simp only [CCode.ops.injEq,and_true] at hy
    rw [← List.map_cons,← List.map_append,← hl] at hy
    obtain ⟨l1,r,h1,h2,h3⟩:=List.map_eq_append_iff.1 hy.symm
    obtain ⟨o,l2,h4,h5,h6⟩:=List.map_eq_cons_iff.1 h3
    rw [← h2,← h5,← h6]
    exact .iso id ops _ l1 o l2 (by rw [h1,h4]) hd
 | draw id ops live hd he hu =>
  intro y hy
  cases y <;> simp only [mz] at hy <;> try (cases hy;done)
  simp only [CCode.draw.injEq,and_true] at hy
  rw [hy.1,hy.2];exact .draw id ops _ hd he hu
 | seq _ _ iha ihb =>
  intro y hy
  cases y <;> simp only [mz] at hy <;> try (cases hy;done)
  simp only [CCode.seq.injEq] at hy
  exact .seq (iha _ hy.1) (ihb _ hy.2)
 | cond hc _ _ iha ihb =>
  intro y hy
  cases y <;> simp only [mz] at hy <;> try (cases hy;done)
  simp only [CCode.cond.injEq] at hy
  rw [hy.1]
  exact .cond hc (iha _ hy.2.1) (ihb _ hy.2.2)
 | block id hid _ ih =>
  intro y hy
  cases y <;> simp only [mz] at hy <;> try (cases hy;done)
  simp only [CCode.block.injEq] at hy
  rw [hy.1];exact .block id hid (ih _ hy.2)
 | loop live _ ih =>
  intro y hy
  cases y <;> simp only [mz] at hy <;> try (cases hy;done)
  simp only [CCode.loop.injEq,true_and] at hy
  exact .loop _ (ih _ hy)
theorem goto_ne_out (l:Nat):outId l≠gotoId l:=by unfold outId gotoId;omega
theorem again_round {m live l:Nat} {y:CCode} {s s':St} {ex:Ex} (h:evC C m (.loop live (.block (gotoId l) (.seq y (.exit (outId l))))) s=some (ex,s')) :
 ∃ k e1 s1,k < m∧evC C k y (dropEnv live s)=some (e1,s1)∧((e1=.norm∧ex=.exit (outId l)∧s'=s1)∨(e1=.exit (gotoId l)∧∃ m',m' < m∧evC C m' (.loop live (.block (gotoId l) (.seq y (.exit (outId l))))) s1=some (ex,s')) ∨
  (e1=.ret∧ex=.ret∧s'=s1)∨(∃ j,e1=.exit j∧j≠gotoId l∧ex=.exit j∧s'=s1)):=by
 match m,h with
 | 0,h=>simp only [evC] at h;cases h
 | 1,h=>simp only [evC,ob] at h;cases h
 | 2,h=>simp only [evC,ob,om] at h;cases h
 | k+3,h =>
  rw [evC] at h
  obtain ⟨⟨e2,s2⟩,h2,h⟩:=ob_some h
  rw [evC] at h2
  obtain ⟨⟨e3,s3⟩,h3,h2⟩:=om_some h2
  rw [evC] at h3
  obtain ⟨⟨e1,s1⟩,h1,h3⟩:=ob_some h3
  refine ⟨k,e1,s1,by omega,h1,?_⟩
  cases e1 with
  | norm =>
   simp only [evSeq] at h3
   cases k with
   | zero=>simp only [evC] at h3;cases h3
   | succ k =>
    simp only [evC,Option.some.injEq,Prod.mk.injEq] at h3
    obtain ⟨rfl,rfl⟩:=h3
    simp only [evBlock,if_neg (goto_ne_out l)] at h2
    cases h2
    simp only [evSeq,Option.some.injEq,Prod.mk.injEq] at h
    exact .inl ⟨rfl,h.1.symm,h.2.symm⟩
  | ret =>
   simp only [evSeq,Option.some.injEq,Prod.mk.injEq] at h3
   obtain ⟨rfl,rfl⟩:=h3
   simp only [evBlock] at h2
   cases h2
   simp only [evSeq,Option.some.injEq,Prod.mk.injEq] at h
   exact .inr (.inr (.inl ⟨rfl,h.1.symm,h.2.symm⟩))
  | exit j =>
   simp only [evSeq,Option.some.injEq,Prod.mk.injEq] at h3
   obtain ⟨rfl,rfl⟩:=h3
   simp only [evBlock] at h2
   by_cases hj:j=gotoId l
   · rw [if_pos hj] at h2
     cases h2
     exact .inr (.inl ⟨by rw [hj],k+2,by omega,h⟩)
   · rw [if_neg hj] at h2
     cases h2
     simp only [evSeq,Option.some.injEq,Prod.mk.injEq] at h
     exact .inr (.inr (.inr ⟨j,rfl,hj,h.1.symm,h.2.symm⟩))
theorem exit_ok {nt:Nat}:∀ (n:Nat) {sp:Option Nat} {c:Code} {cc:CCode},Fit P φ nt sp c cc→∀ (s s':St) (i:Nat),evC C n cc s=some (.exit i,s') →
 i < topId∨∃ l,i=gotoId l∧∀ p,jumpsTo p c=true→p l=true:=by
 intro n
 induction n with
 | zero=>intro sp c cc _ s s' i he;simp only [evC] at he;cases he
 | succ n ih =>
  have spine:∀ {l:Nat} {c:Code} {cc:CCode},Fit P φ nt (some l) c cc→∀ (s s':St) (i:Nat),evC C (n+1) cc s=some (.exit i,s')→i < topId∨∃ l,i=gotoId l∧∀ p,jumpsTo p c=true→p l=true:=by
   intro l c cc hf s s' i he
   cases hf with
   | on _ hj hl ha hb =>
    simp only [evC] at he
    obtain ⟨⟨e1,s1⟩,h1,he⟩:=ob_some he
    cases e1 with
    | norm =>
     rcases ih hb _ _ _ he with q | ⟨l,q1,q2⟩
     · exact .inl q
     · exact .inr ⟨l,q1,fun p hp=>by simp only [jumpsTo,Bool.and_eq_true] at hp;exact q2 p hp.2⟩
    | exit j =>
     simp only [evSeq,Option.some.injEq,Prod.mk.injEq,Ex.exit.injEq] at he
     obtain ⟨rfl,rfl⟩:=he
     rcases ih ha _ _ _ h1 with q | ⟨l,q1,q2⟩
     · exact .inl q
     · exact .inr ⟨l,q1,fun p hp=>by simp only [jumpsTo,Bool.and_eq_true] at hp;exact q2 p hp.1⟩
    | ret=>simp [evSeq] at he
   | @here _ live _ y hj hb =>
    rw [evC] at he
    obtain ⟨⟨e1,s1⟩,h1,he⟩:=om_some he
    have loop:∀ (m:Nat),m≤n→∀ s s1 j,evC C m (.loop live (.block (gotoId l) (.seq y (.exit (outId l))))) s=some (.exit j,s1)→j=outId l∨j < topId:=by
     intro m
     induction m using Nat.strongRecOn with
     | _ m ihm =>
      intro hm s s1 j h
      obtain ⟨k,e1,s2,hk,hy,hc⟩:=again_round h
      rcases hc with ⟨_,q,_⟩ | ⟨_,m',hm',q⟩ | ⟨_,q,_⟩ | ⟨i,rfl,q1,q2,_⟩
      · cases q;exact .inl rfl
      · exact ihm m' hm' (by omega) _ _ _ q
      · cases q
      · cases q2
        rcases ih hb _ _ _ (evC_mono k n (by omega) _ _ _ hy) with z | ⟨l',z1,z2⟩
        · exact .inr z
        · have:=z2 _ hj
          simp only [decide_eq_true_eq] at this
          exact absurd (by rw [z1,this]) q1
    cases e1 with
    | norm=>simp [evBlock] at he
    | ret=>simp [evBlock] at he
    | exit j =>
     simp only [evBlock] at he
     split at he
     · cases he
     · rename_i hne
       cases he
       exact .inl ((loop n (Nat.le_refl _) _ _ _ h1).resolve_left hne)
  intro sp c cc hf s s' i he
  cases hf with
  | here l live hj hb=>exact spine (.here l live hj hb) _ _ _ he
  | again l hb =>
   rcases spine hb _ _ _ he with q | ⟨l,q1,q2⟩
   · exact .inl q
   · exact .inr ⟨l,q1,fun p hp=>by simp only [jumpsTo] at hp;exact q2 p hp⟩
  | on l hj hl ha hb=>exact spine (.on l hj hl ha hb) _ _ _ he
  | fail=>simp only [evC] at he;cases he
  | skip=>simp only [evC] at he;cases he
  | label=>simp only [evC] at he;cases he
  | ret=>simp only [evC] at he;cases he
  | exit id hid=>simp only [evC,Option.some.injEq,Prod.mk.injEq,Ex.exit.injEq] at he;exact .inl (he.1 ▸ hid)
  | goto l=>simp only [evC,Option.some.injEq,Prod.mk.injEq,Ex.exit.injEq] at he;exact .inr ⟨l,he.1.symm,fun p hp=>by simpa [jumpsTo] using hp⟩
  | ops id ops live hd=>simp only [evC] at he;obtain ⟨s1,_,he⟩:=ob_some he;obtain ⟨s2,_,he⟩:=om_some he;cases he
  | iso id ops live l1 o l2 hl hd=>simp only [evC] at he;obtain ⟨s1,_,he⟩:=ob_some he;obtain ⟨s2,_,he⟩:=om_some he;cases he
  | draw id ops live hd h1 h2 =>
   simp only [evC] at he
   obtain ⟨s1,_,he⟩:=ob_some he
   unfold drawEnd at he
   split at he
   · obtain ⟨s2,_,he⟩:=om_some he;cases he
   · cases he
  | seq ha hb =>
   simp only [evC] at he
   obtain ⟨⟨e1,s1⟩,h1,he⟩:=ob_some he
   cases e1 with
   | norm =>
    rcases ih hb _ _ _ he with q | ⟨l,q1,q2⟩
    · exact .inl q
    · exact .inr ⟨l,q1,fun p hp=>by simp only [jumpsTo,Bool.and_eq_true] at hp;exact q2 p hp.2⟩
   | exit j =>
    simp only [evSeq,Option.some.injEq,Prod.mk.injEq,Ex.exit.injEq] at he
    obtain ⟨rfl,rfl⟩:=he
    rcases ih ha _ _ _ h1 with q | ⟨l,q1,q2⟩
    · exact .inl q
    · exact .inr ⟨l,q1,fun p hp=>by simp only [jumpsTo,Bool.and_eq_true] at hp;exact q2 p hp.1⟩
   | ret=>simp [evSeq] at he
  | cond hc ha hb =>
   simp only [evC] at he
   unfold evCond at he
   split at he
   · rename_i t _
     cases t with
     | true =>
      rcases ih ha _ _ _ he with q | ⟨l,q1,q2⟩
      · exact .inl q
      · exact .inr ⟨l,q1,fun p hp=>by simp only [jumpsTo,Bool.and_eq_true] at hp;exact q2 p hp.1⟩
     | false =>
      rcases ih hb _ _ _ he with q | ⟨l,q1,q2⟩
      · exact .inl q
      · exact .inr ⟨l,q1,fun p hp=>by simp only [jumpsTo,Bool.and_eq_true] at hp;exact q2 p hp.2⟩
   · cases he
  | block id hid hb =>
   simp only [evC] at he
   obtain ⟨⟨e1,s1⟩,h1,he⟩:=om_some he
   cases e1 with
   | norm=>simp [evBlock] at he
   | ret=>simp [evBlock] at he
   | exit j =>
    simp only [evBlock] at he
    split at he
    · cases he
    · cases he
      rcases ih hb _ _ _ h1 with q | ⟨l,q1,q2⟩
      · exact .inl q
      · exact .inr ⟨l,q1,fun p hp=>by simp only [jumpsTo] at hp;exact q2 p hp⟩
  | loop live hb =>
   simp only [evC] at he
   obtain ⟨⟨e1,s1⟩,h1,he⟩:=ob_some he
   cases e1 with
   | norm=>exact ih (.loop live hb) _ _ _ he
   | exit j =>
    simp only [evSeq,Option.some.injEq,Prod.mk.injEq,Ex.exit.injEq] at he
    obtain ⟨rfl,rfl⟩:=he
    rcases ih hb _ _ _ h1 with q | ⟨l,q1,q2⟩
    · exact .inl q
    · exact .inr ⟨l,q1,fun p hp=>by simp only [jumpsTo] at hp;exact q2 p hp⟩
   | ret=>simp [evSeq] at he
  | scope hj hb =>
   simp only [evC] at he
   obtain ⟨⟨e1,s1⟩,h1,he⟩:=ob_some he
   cases e1 with
   | norm =>
    simp only [evSeq] at he
    cases n with
    | zero=>simp only [evC] at he;cases he
    | succ k=>simp only [evC] at he;cases he
   | exit j =>
    simp only [evSeq,Option.some.injEq,Prod.mk.injEq,Ex.exit.injEq] at he
    obtain ⟨rfl,rfl⟩:=he
    rcases ih hb _ _ _ h1 with q | ⟨l,q1,q2⟩
    · exact .inl q
    · exact .inr ⟨l,q1,fun p hp=>by simp only [jumpsTo] at hp;exact q2 p hp⟩
   | ret=>simp [evSeq] at he
def DrawOk (P:Program) (φ:FuncId→Option Nat) (ψ:Psi) (C:Prog) (run:Run):Prop :=
 ∀ (nt id:Nat) (ops:Array Oper) (un:List (Nat × Nat)) (live:Nat × List Nat) (T:Nat→Prop),(∀ t,T t→inDst t (.region id ops true)=false)→Fit P φ nt none (.region id ops true) (.draw (ops.toList.map (cOper P φ ops)) un live) →
  ∀ (s:St) (r:St × List Did),evDraw C run (ops.toList.map (cOper P φ ops)) s.next ⟨s.env,s.heap,s.next+(ops.toList.map (cOper P φ ops)).length⟩ []=some r→un.all (apart r.2)=true →
  ∀ (N:Nat) (w0 w:World) (S:Nat→Prop) (m:Nat→Nat × Nat) (A:Nat→Prop) (a:Act) (Q:Exit→Act→World→Prop),Inv ψ N w0 w S m A s.heap→EnvR ψ w S m A s.env a.tmps→(∀ b,A b→b < s.next) →
  a.tmps.size=nt→(∀ a' w',ReachT T ψ N w0 w S m A s.next a r.1 a' w'→Q .normal a' w')→(Code.region id ops true).wp P Q a w
def Ex.out:Ex→Exit
 | .norm=>.normal
 | .exit id=>if id < topId then .exit id else .goto ((id - 1000000) / 2)
 | .ret=>.ret
theorem out_exit {id:Nat} (h:id < topId):(Ex.exit id).out=.exit id:=by simp only [Ex.out,if_pos h]
theorem out_goto (l:Nat):(Ex.exit (gotoId l)).out=.goto l:=by
 have h:¬ gotoId l < topId:=by unfold gotoId topId;omega
 simp only [Ex.out,if_neg h,Exit.goto.injEq]
 unfold gotoId;omega
theorem out_then {R:Act→World→Prop} {Q:Exit→Act→World→Prop} {a:Act} {w:World} {id:Nat} (h:Q (Ex.exit id).out a w):Exit.then R Q (Ex.exit id).out a w:=by
 revert h
 unfold Ex.out
 simp only
 split <;> exact fun h=>h
def LoopK (P:Program) (c:Code) (Q:Exit→Act→World→Prop) (a:Act) (w:World):Prop :=
 ∀ (b:Frame) (k:List Item) (cs:List Frame),∃ e a' w',Q e a' w'∧Arrives P (lone (b.at a (.code c::.inLoop c::k)) cs w) b k cs e a' w'
theorem LoopK.wp {c:Code} {Q:Exit→Act→World→Prop} (h:LoopK P c Q a w):(Code.loop c).wp P Q a w:=by
 intro b k cs
 obtain ⟨e,a',w',hq,harr⟩:=h b k cs
 exact ⟨e,a',w',hq,.of_steps (.one step_loop) harr⟩
theorem LoopK.step {c:Code} {Q:Exit→Act→World→Prop} (h:c.wp P (Exit.then (LoopK P c Q) Q) a w):LoopK P c Q a w:=by
 intro b k cs
 obtain ⟨e,a₁,w₁,hq,harr⟩:=h b (.inLoop c::k) cs
 cases e with
 | normal =>
  obtain ⟨e₂,a₂,w₂,hq₂,harr₂⟩:=hq b k cs
  exact ⟨e₂,a₂,w₂,hq₂,.of_steps (Steps.trans harr (.one step_inLoop)) harr₂⟩
 | exit id=>exact ⟨_,a₁,w₁,hq,.pass (x:=.inLoop c) rfl (fun _ _=>.inl (by simp)) harr⟩
 | goto l=>exact ⟨_,a₁,w₁,hq,.pass (x:=.inLoop c) rfl (fun _ _=>.inl (by simp)) harr⟩
 | ret=>exact ⟨_,a₁,w₁,hq,.pass (x:=.inLoop c) rfl (fun _ _=>.inl (by simp)) harr⟩
 | panic ch=>exact ⟨_,a₁,w₁,hq,.pass (x:=.inLoop c) rfl (fun _ _=>.inl (by simp)) harr⟩
 | outgrown=>exact ⟨_,a₁,w₁,hq,.pass (x:=.inLoop c) rfl (fun _ _=>.inl (by simp)) harr⟩
def CodeOk (P:Program) (φ:FuncId→Option Nat) (ψ:Psi) (C:Prog) (fuel:Nat):Prop :=
 ∀ (nt:Nat) (c:Code) (cc:CCode),Fit P φ nt none c cc→∀ (T:Nat→Prop),(∀ t,T t→inDst t c=false)→∀ (s:St) (ex:Ex) (s':St),evC C fuel cc s=some (ex,s') →
  ∀ (N:Nat) (w0 w:World) (S:Nat→Prop) (m:Nat→Nat × Nat) (A:Nat→Prop) (a:Act) (Q:Exit→Act→World→Prop),Inv ψ N w0 w S m A s.heap→EnvR ψ w S m A s.env a.tmps→(∀ b,A b→b < s.next) →
  a.tmps.size=nt→(∀ a' w',ReachT T ψ N w0 w S m A s.next a s' a' w'→Q ex.out a' w')→c.wp P Q a w∧∀ b,c=.loop b→LoopK P b Q a w
theorem EnvR.drop {s':St} {t:Array Value} (h:EnvR ψ w S m A s'.env t) (live:Nat):EnvR ψ w S m A (dropEnv live s').env t:=by
 unfold dropEnv
 simp only
 split
 · exact h
 · exact h.keep live
theorem Reach.drop {n live:Nat} {s':St} {a':Act} {w':World} (r:Reach ψ N w0 w S m A n a s' a' w'):Reach ψ N w0 w S m A n a (dropEnv live s') a' w':=by
 obtain ⟨S2,m2,A2,r1,r2,r3⟩:=r
 exact ⟨S2,m2,A2,r1,r2.drop live,r3⟩
theorem Reach.frz {n k:Nat} {s' s2:St} {a':Act} {w':World} (r:Reach ψ N w0 w S m A n a s' a' w') (h:frzSlot k s'=some s2):Reach ψ N w0 w S m A n a s2 a' w':=by
 obtain ⟨S2,m2,A2,i,env,hsz,hdf,le,hS,hn,hA⟩:=r
 obtain ⟨v,hv,h⟩:=ob_some h
 obtain ⟨v',hf,rfl⟩:=om_some h
 have hreach:∀ b ∈ reach s'.heap frzDepth v,∃ z es mu,get s'.heap b=some (.cells z es mu):=frz_reach _ v v' hf
 obtain ⟨j1,j2⟩:=i.data (w':=w') (Sn:=fun c=>S2 c∨∃ b ∈ reach s'.heap frzDepth v,c=(m2 b).1) (fun _ _=>rfl) (Nat.le_refl _) rfl rfl (fun _ hc=>.inl hc)
  (fun c hc=>by
   rcases hc with hc | ⟨b,hb,rfl⟩
   · exact i.sb c hc
   · obtain ⟨z,es,mu,hg⟩:=hreach b hb
     exact (i.obj b _ hg).lt)
  (reach s'.heap frzDepth v)
  (fun b hb=>by
   obtain ⟨z,es,mu,hg⟩:=hreach b hb
   exact ⟨z,es,mu,hg,.inr ⟨b,hb,rfl⟩⟩)
  (fun c hc=>hc.elim .inl fun q=>.inr (.inl q))
 refine ⟨fun c=>S2 c∨∃ b ∈ reach s'.heap frzDepth v,c=(m2 b).1,m2,A2,j1,?_,hsz,hdf,le.trans j2,?_,hn,hA⟩
 · intro sl x hx
   simp only [setDst,get_put] at hx
   split at hx
   · rename_i hk
     cases hx
     subst hk
     have hro:=frz_vr (S':=fun c=>S2 c∨∃ b ∈ reach s'.heap frzDepth v,c=(m2 b).1) i.obj (fun b hb=>.inl hb) frzDepth v v' _ hf (env k v hv) fun b hb=>.inr ⟨b,hb,rfl⟩
     exact hro.mono' (fun _ _=>rfl) (fun _ c _ _ h=>⟨c,h,rfl⟩) (fun _ h=>h) (fun _ h=>h.elim) (fun _ h=>h.elim)
   · exact (env sl x hx).mono j2
 · intro c hc hs
   rcases hs with q | ⟨b,hb,rfl⟩
   · exact hS c hc q
   · obtain ⟨z,es,mu,hg⟩:=hreach b hb
     cases mu with
     | true=>have:=(i.live b _ hg rfl).2;omega
     | false=>exact hS _ hc (i.fro b _ hg rfl)
theorem Reach.frzs {n:Nat} {a':Act} {w':World}:∀ (l:List Nat) {s' s2:St},Reach ψ N w0 w S m A n a s' a' w'→frzSlots l s'=some s2→Reach ψ N w0 w S m A n a s2 a' w'
 | [],s',s2,r,h=>by simp only [frzSlots,Option.some.injEq] at h;exact h ▸ r
 | k::l,s',s2,r,h=>by
  simp only [frzSlots] at h
  obtain ⟨s1,h1,h2⟩:=ob_some h
  exact Reach.frzs l (r.frz h1) h2
theorem Reach.endOps {n:Nat} {live:Nat × List Nat} {s' s2:St} {a':Act} {w':World} (r:Reach ψ N w0 w S m A n a s' a' w') (h:Pav.endOps live s'=some s2):Reach ψ N w0 w S m A n a s2 a' w':=by
 obtain ⟨s1,h1,rfl⟩:=om_some h
 exact (r.frzs _ h1).drop
theorem ReachT.endOps {T:Nat→Prop} {n:Nat} {live:Nat × List Nat} {s' s2:St} {a':Act} {w':World} (r:ReachT T ψ N w0 w S m A n a s' a' w') (h:Pav.endOps live s'=some s2):ReachT T ψ N w0 w S m A n a s2 a' w' :=
 ⟨r.1,r.2.endOps h⟩
theorem ReachT.trans {T:Nat→Prop} {w1:World} {S1:Nat→Prop} {m1:Nat→Nat × Nat} {A1:Nat→Prop} {a1:Act} {n n1:Nat} (hk:KeepT T a a1) (hs:a1.tmps.size=a.tmps.size) (hd:a1.defers=a.defers)
 (hle:Le w S m A w1 S1 m1 A1) (hS:∀ c,c < N→S1 c→S c) (hn:n≤n1) (hA:∀ b,A1 b→A b∨(n≤b∧b < n1)) {s2:St} {a2:Act} {w2:World}
 (r:ReachT T ψ N w0 w1 S1 m1 A1 n1 a1 s2 a2 w2):ReachT T ψ N w0 w S m A n a s2 a2 w2:=⟨hk.trans r.1,Reach.trans hs hd hle hS hn hA r.2⟩
def outL (l:Nat) (e:Ex):Exit:=match e with
 | .exit i=>if i=outId l then .normal else (Ex.exit i).out
 | e=>e.out
theorem rounds_ok {fuel nt l:Nat} (ih:CodeOk P φ ψ C fuel) {live:Nat} {b whole:Code} {y:CCode} (hj:jumpsTo (fun k=>decide (k=l)) b=true) (hf:Fit P φ nt none b y) (hw:findLabel whole l=some (.seq .skip b)) {T:Nat→Prop} (hT:∀ t,T t→inDst t b=false) :
 ∀ (n:Nat),n≤fuel+1→∀ (s:St) (ex:Ex) (s':St),evC C n (.loop live (.block (gotoId l) (.seq y (.exit (outId l))))) s=some (ex,s') →
 ∀ (N:Nat) (w0 w:World) (S:Nat→Prop) (m:Nat→Nat × Nat) (A:Nat→Prop) (a:Act) (Q:Exit→Act→World→Prop),Inv ψ N w0 w S m A s.heap→EnvR ψ w S m A s.env a.tmps→(∀ b,A b→b < s.next) →
 a.tmps.size=nt→(∀ a' w',ReachT T ψ N w0 w S m A s.next a s' a' w'→Q (outL l ex) a' w') →
 ∀ (f:Go.Frame) (k:List Item) (cs:List Go.Frame),∃ e a' w',Q e a' w'∧Arrives P (lone (f.at a (.code b::.inScope whole::k)) cs w) f k cs e a' w':=by
 intro n
 induction n using Nat.strongRecOn with
 | _ n ihn =>
  intro hn s ex s' he N w0 w S m A a Q i env hA hsz hQ f k cs
  obtain ⟨k1,e1,s1,hk,hy,hc⟩:=again_round he
  obtain ⟨e,a1,w1,⟨rfl,hk1,hre⟩,harr⟩:=(ih nt b y hf T hT (dropEnv live s) e1 s1 (evC_mono k1 fuel (by omega) _ _ _ hy) N w0 w S m A a (fun e a' w'=>e=e1.out∧ReachT T ψ N w0 w S m A s.next a s1 a' w') i (env.drop live) hA hsz (fun a' w' h=>⟨rfl,h⟩)).1 f (.inScope whole::k) cs
  rcases hc with ⟨rfl,rfl,rfl⟩ | ⟨rfl,m',hm',he'⟩ | ⟨rfl,rfl,rfl⟩ | ⟨j,rfl,hne,rfl,rfl⟩
  · refine ⟨.normal,a1,w1,?_,Steps.trans harr (.one step_inScope)⟩
    have:=hQ a1 w1 ⟨hk1,hre⟩
    simpa only [outL,if_pos] using this
  · rw [out_goto] at harr
    have hg:gotoIn l (.inScope whole::k)=some (.code (.seq .skip b)::.inScope whole::k):=by simp [gotoIn,hw]
    have hs:=harr _ hg
    obtain ⟨S1,m1,A1,r1,r2,r3,r4,r5,r6,r7,r8⟩:=hre
    obtain ⟨e2,a2,w2,hq2,harr2⟩:=ihn m' hm' (by omega) s1 ex s' he' N w0 w1 S1 m1 A1 a1 Q r1 r2 (fun b hb=>by
     rcases r8 b hb with q | q
     · have:=hA b q;omega
     · exact q.2) (r3.trans hsz) (fun a' w' h=>hQ a' w' (ReachT.trans hk1 r3 r4 r5 r6 r7 r8 h)) f k cs
    exact ⟨e2,a2,w2,hq2,.of_steps (Steps.trans hs (.head step_seq (.one step_skip))) harr2⟩
  · exact ⟨.ret,a1,w1,hQ a1 w1 ⟨hk1,hre⟩,harr⟩
  · have hlt:j < topId:=by
     rcases exit_ok k1 hf _ _ _ hy with z | ⟨l',z1,z2⟩
     · exact z
     · have:=z2 _ hj
       simp only [decide_eq_true_eq] at this
       exact absurd (by rw [z1,this]) hne
    rw [out_exit hlt] at harr
    refine ⟨.exit j,a1,w1,?_,fun k' hk'=>harr k' (by simp [exitTo,hk'])⟩
    have:=hQ a1 w1 ⟨hk1,hre⟩
    have hno:j≠outId l:=by unfold outId topId at *;omega
    simpa only [outL,if_neg hno,out_exit hlt] using this
theorem spine_ok {fuel nt l:Nat} (ih:CodeOk P φ ψ C fuel) {whole:Code} {T:Nat→Prop}:∀ (c:Code) (cc:CCode),Fit P φ nt (some l) c cc→findLabel whole l=findLabel c l→(∀ t,T t→inDst t c=false) →
 ∀ (n:Nat),n≤fuel+1→∀ (s:St) (ex:Ex) (s':St),evC C n cc s=some (ex,s') →
 ∀ (N:Nat) (w0 w:World) (S:Nat→Prop) (m:Nat→Nat × Nat) (A:Nat→Prop) (a:Act) (Q:Exit→Act→World→Prop),Inv ψ N w0 w S m A s.heap→EnvR ψ w S m A s.env a.tmps→(∀ b,A b→b < s.next) →
 a.tmps.size=nt→(∀ a' w',ReachT T ψ N w0 w S m A s.next a s' a' w'→Q ex.out a' w') →
 ∀ (f:Go.Frame) (k:List Item) (cs:List Go.Frame),∃ e a' w',Q e a' w'∧Arrives P (lone (f.at a (.code c::.inScope whole::k)) cs w) f k cs e a' w':=by
 intro c
 induction c with
 | seq a0 b _ ihb =>
  intro cc hf hw hT n hn s ex s' he N w0 w S m A a Q i env hA hsz hQ f k cs
  have hTb:∀ t,T t→inDst t b=false:=fun t ht=>by have:=hT t ht;simp only [inDst,Bool.or_eq_false_iff] at this;exact this.2
  have hTa:∀ t,T t→inDst t a0=false:=fun t ht=>by have:=hT t ht;simp only [inDst,Bool.or_eq_false_iff] at this;exact this.1
  cases hf with
  | @here _ live _ y hj hb =>
   match n,he with
   | 0,he=>simp only [evC] at he;cases he
   | n+1,he =>
    rw [evC] at he
    obtain ⟨⟨e1,s1⟩,h1,he⟩:=om_some he
    have hw':findLabel whole l=some (.seq .skip b):=by rw [hw];simp [findLabel]
    have hs1:s1=s':=by
     unfold evBlock at he
     split at he
     · split at he <;> cases he <;> rfl
     · cases he;rfl
    subst hs1
    obtain ⟨e2,a2,w2,hq2,harr2⟩:=rounds_ok ih hj hb hw' hTb n (by omega) s e1 s1 h1 N w0 w S m A a Q i env hA hsz (fun a' w' h=>by
     have hq:=hQ a' w' h
     cases e1 with
     | norm=>simp only [evBlock,Prod.mk.injEq] at he;rw [← he.1] at hq;exact hq
     | ret=>simp only [evBlock,Prod.mk.injEq] at he;rw [← he.1] at hq;exact hq
     | exit j =>
      simp only [evBlock] at he
      simp only [outL]
      by_cases hj':j=outId l
      · rw [if_pos hj'] at he ⊢
        simp only [Prod.mk.injEq] at he
        rw [← he.1] at hq;exact hq
      · rw [if_neg hj'] at he ⊢
        simp only [Prod.mk.injEq] at he
        rw [← he.1] at hq;exact hq) f k cs
    exact ⟨e2,a2,w2,hq2,.of_steps (.head step_seq (.one step_label)) harr2⟩
  | @on _ _ _ x y hj hl ha hb =>
   match n,he with
   | 0,he=>simp only [evC] at he;cases he
   | n+1,he =>
    rw [evC] at he
    obtain ⟨⟨e1,s1⟩,h1,he⟩:=ob_some he
    obtain ⟨e,a1,w1,⟨rfl,hk1,hre⟩,harr⟩:=(ih nt a0 x ha T hTa s e1 s1 (evC_mono n fuel (by omega) _ _ _ h1) N w0 w S m A a (fun e a' w'=>e=e1.out∧ReachT T ψ N w0 w S m A s.next a s1 a' w') i env hA hsz (fun a' w' h=>⟨rfl,h⟩)).1 f (.code b::.inScope whole::k) cs
    cases e1 with
    | norm =>
     simp only [evSeq] at he
     obtain ⟨S1,m1,A1,r1,r2,r3,r4,r5,r6,r7,r8⟩:=hre
     have hwb:findLabel whole l=findLabel b l:=by rw [hw];simp [findLabel,hl]
     obtain ⟨e2,a2,w2,hq2,harr2⟩:=ihb y hb hwb hTb n (by omega) s1 ex s' he N w0 w1 S1 m1 A1 a1 Q r1 r2 (fun b hb=>by
      rcases r8 b hb with q | q
      · have:=hA b q;omega
      · exact q.2) (r3.trans hsz) (fun a' w' h=>hQ a' w' (ReachT.trans hk1 r3 r4 r5 r6 r7 r8 h)) f k cs
     exact ⟨e2,a2,w2,hq2,.of_steps (.head step_seq harr) harr2⟩
    | ret =>
     simp only [evSeq,Option.some.injEq,Prod.mk.injEq] at he
     obtain ⟨rfl,rfl⟩:=he
     exact ⟨.ret,a1,w1,hQ a1 w1 ⟨hk1,hre⟩,.of_steps (.one step_seq) harr⟩
    | exit j =>
     simp only [evSeq,Option.some.injEq,Prod.mk.injEq] at he
     obtain ⟨rfl,rfl⟩:=he
     have hlt:j < topId:=by
      rcases exit_ok n ha _ _ _ h1 with z | ⟨l',z1,z2⟩
      · exact z
      · have:=z2 _ hj;cases this
     have hq:=hQ a1 w1 ⟨hk1,hre⟩
     rw [out_exit hlt] at harr hq
     exact ⟨.exit j,a1,w1,hq,fun k' hk'=>.head step_seq (harr k' (by simp [exitTo,hk']))⟩
 | _=>intro cc hf;cases hf
theorem code_step (ids:∀ f g,φ f=some g→ψ g=f) {fuel:Nat} (ih:CodeOk P φ ψ C fuel) (hr:RunOk P ψ (runWith C (evC C fuel))) (hd:DrawOk P φ ψ C (runWith C (evC C fuel))):CodeOk P φ ψ C (fuel+1):=by
 intro nt c cc hfit T hT s ex s' he N w0 w S m A a Q i env hA hsz hQ
 have plain:∀ {c:Code},(∀ b,c≠.loop b)→c.wp P Q a w→c.wp P Q a w∧∀ b,c=.loop b→LoopK P b Q a w:=fun hne h=>⟨h,fun b e=>absurd e (hne b)⟩
 cases hfit with
 | fail c=>simp only [evC] at he;cases he
 | skip =>
  simp only [evC,Option.some.injEq,Prod.mk.injEq] at he
  obtain ⟨rfl,rfl⟩:=he
  exact plain (fun b e=>by cases e) (wp_skip (hQ a w ⟨KeepT.refl _ _,Reach.refl i env⟩))
 | label l =>
  simp only [evC,Option.some.injEq,Prod.mk.injEq] at he
  obtain ⟨rfl,rfl⟩:=he
  exact plain (fun b e=>by cases e) (wp_label (hQ a w ⟨KeepT.refl _ _,Reach.refl i env⟩))
 | @scope b cb hj hb =>
  simp only [evC] at he
  obtain ⟨⟨e1,s1⟩,h1,he⟩:=ob_some he
  refine plain (fun b e=>by cases e) (wp_scope_straight ?_)
  refine (ih nt b cb hb T (fun t ht=>by simpa only [inDst] using hT t ht) s e1 s1 h1 N w0 w S m A a _ i env hA hsz ?_).1
  rintro a1 w1 hre
  cases e1 with
  | norm =>
   simp only [evSeq] at he
   cases fuel with
   | zero=>simp only [evC] at he;cases he
   | succ k =>
    simp only [evC,Option.some.injEq,Prod.mk.injEq] at he
    obtain ⟨rfl,rfl⟩:=he
    exact hQ a1 w1 hre
  | exit id =>
   simp only [evSeq,Option.some.injEq,Prod.mk.injEq] at he
   obtain ⟨rfl,rfl⟩:=he
   have hlt:id < topId:=by
    rcases exit_ok fuel hb _ _ _ h1 with z | ⟨l',z1,z2⟩
    · exact z
    · have:=z2 _ hj;cases this
   have hq:=hQ a1 w1 hre
   rw [out_exit hlt] at hq ⊢
   exact hq
  | ret =>
   simp only [evSeq,Option.some.injEq,Prod.mk.injEq] at he
   obtain ⟨rfl,rfl⟩:=he
   exact hQ a1 w1 hre
 | @again l b cb hb =>
  refine plain (fun b e=>by cases e) (fun f k cs=>?_)
  obtain ⟨e2,a2,w2,hq2,harr2⟩:=spine_ok ih b cc hb rfl (fun t ht=>by simpa only [inDst] using hT t ht) (fuel+1) (Nat.le_refl _) s ex s' he N w0 w S m A a Q i env hA hsz hQ f k cs
  exact ⟨e2,a2,w2,hq2,.of_steps (.one step_scope) harr2⟩
 | goto l =>
  simp only [evC,Option.some.injEq,Prod.mk.injEq] at he
  obtain ⟨rfl,rfl⟩:=he
  have hq:=hQ a w ⟨KeepT.refl _ _,Reach.refl i env⟩
  rw [out_goto] at hq
  exact plain (fun b e=>by cases e) (fun f k cs=>⟨.goto l,a,w,hq,fun k' hk=>.one (step_goto hk)⟩)
 | exit id hid =>
  simp only [evC,Option.some.injEq,Prod.mk.injEq] at he
  obtain ⟨rfl,rfl⟩:=he
  have hq:=hQ a w ⟨KeepT.refl _ _,Reach.refl i env⟩
  rw [out_exit hid] at hq
  exact plain (fun b e=>by cases e) (wp_exit hq)
 | ret =>
  simp only [evC,Option.some.injEq,Prod.mk.injEq] at he
  obtain ⟨rfl,rfl⟩:=he
  exact plain (fun b e=>by cases e) (wp_ret (hQ a w ⟨KeepT.refl _ _,Reach.refl i env⟩))
 | ops id ops live hdst =>
  simp only [evC] at he
  obtain ⟨s1,h1,he⟩:=ob_some he
  obtain ⟨s2,h2,he⟩:=om_some he
  cases he
  refine plain (fun b e=>by cases e) (wp_region ?_)
  rw [List.range_eq_range',← Array.length_toList,← List.append_nil (List.range' 0 ops.toList.length)]
  refine evOps_ok ids hr ops Q [] ops.toList 0 (fun j o ho=>by simpa using ho) s s1 h1 w S m A a i env hA (by rw [hsz];exact hdst) (fun o ho x hx hTx=>?_) fun a' w' hre=>hQ a' w' (hre.endOps h2)
  have:=hT x hTx
  simp only [inDst,List.any_eq_false] at this
  have:=this o ho
  rw [hx] at this
  simp at this
 | iso id ops live l1 o l2 hl hdst =>
  simp only [evC] at he
  obtain ⟨s1,h1,he⟩:=ob_some he
  obtain ⟨s2,h2,he⟩:=om_some he
  cases he
  refine plain (fun b e=>by cases e) (wp_region ?_)
  rw [List.range_eq_range',← Array.length_toList]
  refine evIso_ok ids hr ops Q hl h1 i env hA (by rw [hsz];exact hdst) (fun o ho x hx hTx=>?_) fun a' w' hre=>hQ a' w' (hre.endOps h2)
  have:=hT x hTx
  simp only [inDst,List.any_eq_false] at this
  have:=this o ho
  rw [hx] at this
  simp at this
 | draw id ops live hdst hedge hun =>
  simp only [evC] at he
  obtain ⟨r,h1,he⟩:=ob_some he
  unfold drawEnd at he
  split at he
  · rename_i hap
    obtain ⟨s2,h2,he⟩:=om_some he
    cases he
    exact plain (fun b e=>by cases e) (hd nt id ops _ live T hT (.draw id ops live hdst hedge hun) s r h1 hap N w0 w S m A a Q i env hA hsz fun a' w' hre=>hQ a' w' (hre.endOps h2))
  · cases he
 | @seq x y cx cy hx hy =>
  simp only [evC] at he
  obtain ⟨⟨e1,s1⟩,h1,he⟩:=ob_some he
  have hTx:∀ t,T t→inDst t x=false:=fun t ht=>by have:=hT t ht;simp only [inDst,Bool.or_eq_false_iff] at this;exact this.1
  have hTy:∀ t,T t→inDst t y=false:=fun t ht=>by have:=hT t ht;simp only [inDst,Bool.or_eq_false_iff] at this;exact this.2
  refine plain (fun b e=>by cases e) (wp_seq ?_)
  refine (ih nt x cx hx T hTx s e1 s1 h1 N w0 w S m A a _ i env hA hsz ?_).1
  rintro a1 w1 ⟨hk1,hre⟩
  obtain ⟨S1,m1,A1,r1,r2,r3,r4,r5,r6,r7,r8⟩:=hre
  cases e1 with
  | norm =>
   simp only [evSeq] at he
   refine (ih nt y cy hy T hTy s1 ex s' he N w0 w1 S1 m1 A1 a1 Q r1 r2 (fun b hb=>?_) (r3.trans hsz) fun a' w' hre=>hQ a' w' (ReachT.trans hk1 r3 r4 r5 r6 r7 r8 hre)).1
   rcases r8 b hb with q | q
   · have:=hA b q;omega
   · exact q.2
  | exit id =>
   simp only [evSeq,Option.some.injEq,Prod.mk.injEq] at he
   obtain ⟨rfl,rfl⟩:=he
   exact out_then (hQ a1 w1 ⟨hk1,S1,m1,A1,r1,r2,r3,r4,r5,r6,r7,r8⟩)
  | ret =>
   simp only [evSeq,Option.some.injEq,Prod.mk.injEq] at he
   obtain ⟨rfl,rfl⟩:=he
   exact hQ a1 w1 ⟨hk1,S1,m1,A1,r1,r2,r3,r4,r5,r6,r7,r8⟩
 | @cond c c' x y cx cy hc hx hy =>
  simp only [evC] at he
  have hv:=(Cx.mk i env ids:Cx P φ ψ N w0 w S m A s.heap s.env a).opd hc
  unfold evCond at he
  split at he
  · rename_i t heq
    rw [heq] at hv
    refine plain (fun b e=>by cases e) (wp_cond hv.inv_bool ?_)
    cases t with
    | true=>exact (ih nt x cx hx T (fun t ht=>by have:=hT t ht;simp only [inDst,Bool.or_eq_false_iff] at this;exact this.1) s ex s' he N w0 w S m A a Q i env hA hsz hQ).1
    | false=>exact (ih nt y cy hy T (fun t ht=>by have:=hT t ht;simp only [inDst,Bool.or_eq_false_iff] at this;exact this.2) s ex s' he N w0 w S m A a Q i env hA hsz hQ).1
  · cases he
 | @block id hid b cb hb =>
  simp only [evC] at he
  obtain ⟨⟨e1,s1⟩,h1,he⟩:=om_some he
  refine plain (fun b e=>by cases e) (wp_block ?_)
  refine (ih nt b cb hb T (fun t ht=>by simpa only [inDst] using hT t ht) s e1 s1 h1 N w0 w S m A a _ i env hA hsz ?_).1
  intro a1 w1 hre
  cases e1 with
  | norm=>simp only [evBlock,Prod.mk.injEq] at he;obtain ⟨rfl,rfl⟩:=he;exact hQ a1 w1 hre
  | ret=>simp only [evBlock,Prod.mk.injEq] at he;obtain ⟨rfl,rfl⟩:=he;exact hQ a1 w1 hre
  | exit id' =>
   simp only [evBlock] at he
   by_cases hid':id'=id
   · rw [if_pos hid'] at he
     simp only [Prod.mk.injEq] at he
     obtain ⟨rfl,rfl⟩:=he
     subst hid'
     rw [out_exit hid]
     simp only [Exit.inBlock,if_true];exact hQ a1 w1 hre
   · rw [if_neg hid'] at he
     simp only [Prod.mk.injEq] at he
     obtain ⟨rfl,rfl⟩:=he
     have hq:=hQ a1 w1 hre
     revert hq
     unfold Ex.out
     simp only
     split
     · simp only [Exit.inBlock,if_neg hid'];exact fun h=>h
     · simp only [Exit.inBlock];exact fun h=>h
 | @loop live b cb hb =>
  simp only [evC] at he
  obtain ⟨⟨e1,s1⟩,h1,he⟩:=ob_some he
  have key:LoopK P b Q a w:=by
   refine LoopK.step ?_
   refine (ih nt b cb hb T (fun t ht=>by simpa only [inDst] using hT t ht) (dropEnv live s) e1 s1 h1 N w0 w S m A a _ i (env.drop live) hA hsz ?_).1
   rintro a1 w1 ⟨hk1,hre⟩
   obtain ⟨S1,m1,A1,r1,r2,r3,r4,r5,r6,r7,r8⟩:=hre
   cases e1 with
   | norm =>
    simp only [evSeq] at he
    refine (ih nt (.loop b) (.loop live cb) (.loop live hb) T hT s1 ex s' he N w0 w1 S1 m1 A1 a1 Q r1 r2 (fun b hb=>?_) (r3.trans hsz) fun a' w' hre=>hQ a' w' (ReachT.trans hk1 r3 r4 r5 r6 r7 r8 hre)).2 b rfl
    rcases r8 b hb with q | q
    · have:=hA b q;have:=r7;simp only [dropEnv] at this;omega
    · exact q.2
   | exit id =>
    simp only [evSeq,Option.some.injEq,Prod.mk.injEq] at he
    obtain ⟨rfl,rfl⟩:=he
    exact out_then (hQ a1 w1 ⟨hk1,S1,m1,A1,r1,r2,r3,r4,r5,r6,r7,r8⟩)
   | ret =>
    simp only [evSeq,Option.some.injEq,Prod.mk.injEq] at he
    obtain ⟨rfl,rfl⟩:=he
    exact hQ a1 w1 ⟨hk1,S1,m1,A1,r1,r2,r3,r4,r5,r6,r7,r8⟩
  exact ⟨key.wp,fun b' e=>by cases e;exact key⟩
end
end Go.Pav
end
