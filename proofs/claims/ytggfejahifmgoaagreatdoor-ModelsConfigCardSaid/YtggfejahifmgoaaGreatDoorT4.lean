/- Part of the theory that the claims of this work use: PwOps2, PwOps3, PwOps4, PwCall, PwFresh, PwBare, PwSim, PwCanon, PwPrim, PwCode, PwDen. No conditions of its own. -/
import Derived.Test.YtggfejahifmgoaaGreatDoorT3
section
set_option linter.unusedSimpArgs false
set_option linter.unusedVariables false
namespace Go.Pw
open Go Go.Pav
section
variable {ρ:Nat->Nat} {V A:Nat->Prop} {n m:Nat} {h:WHeap} {h':Heap} {e e':Env}
theorem evUn_vw {op:UnOp} {x x' v:AV} (hx:VW ρ V A x x') (h:evUn op x=some v):evUn op x'=some v/\VW ρ V A v v:=by
 cases x with
 | int k a =>rw [hx.int_inv];refine ⟨h,?_⟩;cases op <;> simp only [evUn] at h <;> first | (cases h;done) | (cases h;constructor)
 | bool b =>rw [hx.bool_inv];refine ⟨h,?_⟩;cases op <;> simp only [evUn] at h <;> first | (cases h;done) | (cases h;constructor)
 | _=>simp [evUn] at h
theorem bound_vw {o:Option AV} {o':Option AV} {d k:Nat} (ho:∀ v,o=some v->∃ v',o'=some v'/\VW ρ V A v v') (hn:o=none->o'=none) (h:bound o d=some k):bound o' d=some k:=by
 cases o with
 | none=>rw [hn rfl];exact h
 | some v =>
  obtain ⟨v',rfl,hv⟩:=ho v rfl;cases v with
  | int k n=>rw [hv.int_inv];exact h
  | _=>simp [bound] at h
def OVW (ρ:Nat->Nat) (V A:Nat->Prop):Option AV->Option AV->Prop
 | none,none=>True
 | some v,some v'=>VW ρ V A v v'
 | _,_=>False
theorem OVW.bound {o o':Option AV} (ho:OVW ρ V A o o') {d k:Nat} (h:Pav.bound o d=some k):Pav.bound o' d=some k:=by
 cases o with
 | none=>cases o' with
  | none=>exact h
  | some v'=>exact ho.elim
 | some v=>cases o' with
  | none=>exact ho.elim
  | some v'=>exact bound_vw (ρ:=ρ) (V:=V) (A:=A) (o:=some v) (λu hu=>by cases hu;exact ⟨v',rfl,ho⟩) (λq=>by cases q) h
theorem sliceRo_vw {z:Nat} {es es':List (List AV)} {ex ex':Bool} {lo hi mx lo' hi' mx':Option AV} {v:AV} (hr:Rel2 (Rel2 (VD ρ V)) es es') (hd:∀ e ∈ es,∀ x ∈ e,isC x=true) (hx:ex=true->ex'=true)
 (hlo:OVW ρ V A lo lo') (hhi:OVW ρ V A hi hi') (hmx:OVW ρ V A mx mx') (h:sliceRo z es ex lo hi mx=some v):∃ v',sliceRo z es' ex' lo' hi' mx'=some v'/\VW ρ V A v v':=by
 cases mx with
 | none =>
  cases mx' with
  | some _=>exact hmx.elim
  | none =>
   simp only [sliceRo] at h |-;obtain ⟨hh,h1,h⟩:=ob_some h;obtain ⟨ll,h2,h⟩:=ob_some h;rw [<- hr.1,hhi.bound h1];simp only [ob];rw [hlo.bound h2];simp only;split at h
   ·rename_i hc;rw [if_pos hc];cases h;refine ⟨_,rfl,VW.mkro ((hr.take hh).drop ll) (λe he=>hd e (List.mem_of_mem_take (List.mem_of_mem_drop he))) ?_⟩;simp only [Bool.and_eq_true,decide_eq_true_eq];rintro ⟨q1,q2⟩;exact ⟨hx q1,q2⟩
   ·cases h
 | some mv =>
  cases mx' with
  | none=>exact hmx.elim
  | some mv' =>
   simp only [sliceRo] at h |-;obtain ⟨mm,h1,g1⟩:=ob_some h;clear h;obtain ⟨hv,hhv,g2⟩:=ob_some g1;clear g1;subst hhv;obtain ⟨hh,h2,g3⟩:=ob_some g2;clear g2;obtain ⟨ll,h3,h⟩:=ob_some g3;clear g3;cases hi' with
   | none=>exact hhi.elim
   | some hv' =>
    rw [OVW.bound (ρ:=ρ) (V:=V) (A:=A) (o:=some mv) (o':=some mv') hmx h1];simp only [ob];rw [OVW.bound (ρ:=ρ) (V:=V) (A:=A) (o:=some hv) (o':=some hv') hhi h2];simp only;rw [hlo.bound h3];simp only [<- hr.1];split at h
    ·rename_i hc;rw [if_pos hc];cases h;exact ⟨_,rfl,VW.mkro ((hr.take hh).drop ll) (λe he=>hd e (List.mem_of_mem_take (List.mem_of_mem_drop he))) id⟩
    ·cases h
theorem sliceNil_of {z:Nat} {ex:Bool} {lo hi mx lo' hi' mx':Option AV} {v:AV}
 (hlo:OVW ρ V A lo lo') (hhi:OVW ρ V A hi hi') (hmx:OVW ρ V A mx mx') (h:sliceRo z [] ex lo hi mx=some v):∃ v',sliceNil lo' hi' mx'=some v'/\VW ρ V A v v':=by
 cases mx with
 | none =>
  cases mx' with
  | some _=>exact hmx.elim
  | none =>
   simp only [sliceRo,List.length_nil] at h;obtain ⟨hh,h1,h⟩:=ob_some h;obtain ⟨ll,h2,h⟩:=ob_some h;split at h
   ·rename_i hc;cases h;obtain ⟨c1,c2⟩:=hc;refine ⟨.nils,?_,?_⟩
    ·simp only [sliceNil];rw [show Pav.bound none 0=some 0 from rfl];simp only [ob];rw [hhi.bound h1];simp only;rw [hlo.bound h2];simp only;rw [if_pos];exact ⟨by omega,by omega,by trivial,by simp⟩
    ·simp only [List.take_nil,List.drop_nil];exact .ronil _ _
   ·cases h
 | some mv =>
  cases mx' with
  | none=>exact hmx.elim
  | some mv' =>
   simp only [sliceRo,List.length_nil] at h;obtain ⟨mm,h1,g1⟩:=ob_some h;clear h;obtain ⟨hv,hhv,g2⟩:=ob_some g1;clear g1;subst hhv;obtain ⟨hh,h2,g3⟩:=ob_some g2;clear g2;obtain ⟨ll,h3,h⟩:=ob_some g3;clear g3;cases hi' with
   | none=>exact hhi.elim
   | some hv' =>
    split at h
    ·rename_i hc;cases h;obtain ⟨c1,c2,c3⟩:=hc;refine ⟨.nils,?_,?_⟩
     ·simp only [sliceNil];rw [OVW.bound (ρ:=ρ) (V:=V) (A:=A) (o:=some mv) (o':=some mv') hmx h1];simp only [ob];rw [OVW.bound (ρ:=ρ) (V:=V) (A:=A) (o:=some hv) (o':=some hv') hhi h2];simp only;rw [hlo.bound h3];simp only;rw [if_pos];exact ⟨by omega,by omega,by omega,by simp⟩
     ·simp only [List.take_nil,List.drop_nil];exact .ronil _ _
    ·cases h
theorem sliceSl_vw {b z i len cap:Nat} {ex ex':Bool} {lo hi mx lo' hi' mx':Option AV} {v:AV} (hA:A b) (hV:¬ V b) (hx:ex=true->ex'=true)
 (hlo:OVW ρ V A lo lo') (hhi:OVW ρ V A hi hi') (hmx:OVW ρ V A mx mx') (h:sliceSl b z i len cap ex lo hi mx=some v):∃ v',sliceSl (ρ b) z i len cap ex' lo' hi' mx'=some v'/\VW ρ V A v v':=by
 cases mx with
 | none =>
  cases mx' with
  | some _=>exact hmx.elim
  | none =>
   simp only [sliceSl] at h |-;obtain ⟨hh,h1,h⟩:=ob_some h;obtain ⟨ll,h2,h⟩:=ob_some h;rw [hhi.bound h1];simp only [ob];rw [hlo.bound h2];simp only;split at h
   ·rename_i hc;rw [if_pos hc];split at h
    ·rename_i hc2;rw [if_pos hc2];cases h;exact ⟨_,rfl,.sl _ _ _ _ _ _ _ hA hV hx⟩
    ·rename_i hc2;rw [if_neg hc2];split at h
     ·rename_i hl;cases h;rw [if_pos hl];exact ⟨_,rfl,.sl _ _ _ _ _ _ _ hA hV hx⟩
     ·rename_i hl;cases h;rw [if_neg hl];exact ⟨_,rfl,.ro _ _ _ _ _ Qw rfl hx Qw Qw⟩
   ·cases h
 | some mv =>
  cases mx' with
  | none=>exact hmx.elim
  | some mv' =>
   simp only [sliceSl] at h |-;obtain ⟨mm,h1,g1⟩:=ob_some h;clear h;obtain ⟨hv,hhv,g2⟩:=ob_some g1;clear g1;subst hhv;obtain ⟨hh,h2,g3⟩:=ob_some g2;clear g2;obtain ⟨ll,h3,h⟩:=ob_some g3;clear g3;cases hi' with
   | none=>exact hhi.elim
   | some hv' =>
    rw [OVW.bound (ρ:=ρ) (V:=V) (A:=A) (o:=some mv) (o':=some mv') hmx h1];simp only [ob];rw [OVW.bound (ρ:=ρ) (V:=V) (A:=A) (o:=some hv) (o':=some hv') hhi h2];simp only;rw [hlo.bound h3];simp only;split at h
    ·rename_i hc;rw [if_pos hc];split at h
     ·rename_i hc2;rw [if_pos hc2];cases h;exact ⟨_,rfl,.sl _ _ _ _ _ _ _ hA hV id⟩
     ·rename_i hc2;rw [if_neg hc2];cases h;exact ⟨_,rfl,.sl _ _ _ _ _ _ _ hA hV id⟩
    ·cases h
theorem sliceSl_virt {b z:Nat} {ex:Bool} {lo hi mx lo' hi' mx':Option AV} {v:AV} (hA:A b) (hV:V b)
 (hlo:OVW ρ V A lo lo') (hhi:OVW ρ V A hi hi') (hmx:OVW ρ V A mx mx') (h:sliceSl b z 0 0 0 ex lo hi mx=some v) :
 ((∃ v',sliceNil lo' hi' mx'=some v'/\VW ρ V A v v')/\∃ v',sliceRo z [] true lo' hi' mx'=some v'/\VW ρ V A v v'):=by
 cases mx with
 | none =>
  cases mx' with
  | some _=>exact hmx.elim
  | none =>
   simp only [sliceSl] at h;obtain ⟨hh,h1,h⟩:=ob_some h;obtain ⟨ll,h2,h⟩:=ob_some h;split at h
   ·rename_i hc;obtain ⟨c1,c2,_⟩:=hc;have hv:∃ ex2,v=.sl b z 0 0 0 ex2:=by
     have e1:ll=0:=by omega
     have e2:hh=0:=by omega
     subst e1;subst e2;simp only [Nat.lt_irrefl,if_false,if_true] at h;cases h;exact ⟨_,rfl⟩
    obtain ⟨ex2,rfl⟩:=hv;refine ⟨⟨.nils,?_,.slv _ _ _ _ hA hV (.inl rfl)⟩,⟨.ro z [] true,?_,.slv _ _ _ _ hA hV (.inr rfl)⟩⟩
    ·simp only [sliceNil];rw [show Pav.bound none 0=some 0 from rfl];simp only [ob];rw [hhi.bound h1];simp only;rw [hlo.bound h2];simp only;rw [if_pos];exact ⟨by omega,by omega,by trivial,by simp⟩
    ·simp only [sliceRo,List.length_nil];rw [hhi.bound h1];simp only [ob];rw [hlo.bound h2];simp only;rw [if_pos ⟨c1,by omega⟩];have e2:hh=0:=by omega
     subst e2;simp
   ·cases h
 | some mv =>
  cases mx' with
  | none=>exact hmx.elim
  | some mv' =>
   simp only [sliceSl] at h;obtain ⟨mm,h1,g1⟩:=ob_some h;clear h;obtain ⟨hv,hhv,g2⟩:=ob_some g1;clear g1;subst hhv;obtain ⟨hh,h2,g3⟩:=ob_some g2;clear g2;obtain ⟨ll,h3,h⟩:=ob_some g3;clear g3;cases hi' with
   | none=>exact hhi.elim
   | some hv' =>
    split at h
    ·rename_i hc;obtain ⟨c1,c2,c3⟩:=hc;have hv:v=.sl b z 0 0 0 true:=by rw [if_neg Qq] at h;cases h;rfl
     subst hv;refine ⟨⟨.nils,?_,.slv _ _ _ _ hA hV (.inl rfl)⟩,⟨.ro z [] true,?_,.slv _ _ _ _ hA hV (.inr rfl)⟩⟩
     ·simp only [sliceNil];rw [OVW.bound (ρ:=ρ) (V:=V) (A:=A) (o:=some mv) (o':=some mv') hmx h1];simp only [ob];rw [OVW.bound (ρ:=ρ) (V:=V) (A:=A) (o:=some hv) (o':=some hv') hhi h2];simp only;rw [hlo.bound h3];simp only;rw [if_pos];exact ⟨by omega,by omega,by omega,by simp⟩
     ·simp only [sliceRo,List.length_nil];rw [OVW.bound (ρ:=ρ) (V:=V) (A:=A) (o:=some mv) (o':=some mv') hmx h1];simp only [ob];rw [OVW.bound (ρ:=ρ) (V:=V) (A:=A) (o:=some hv) (o':=some hv') hhi h2];simp only;rw [hlo.bound h3];simp only;rw [if_pos ⟨c1,c2,by omega⟩];have e2:mm=hh:=by omega
      simp [e2]
    ·cases h
theorem leaf_eq {x x':AV} (hl:isLeaf x=true) (h:VW ρ V A x x'):x'=x:=by cases h <;> first | rfl | (simp [isLeaf] at hl)
theorem sliceArr_vw {k:Nat} {cs cs':List AV} {lo hi lo' hi':Option AV} {v:AV} (hr:Rel2 (VW ρ V A) cs cs')
 (hlo:OVW ρ V A lo lo') (hhi:OVW ρ V A hi hi') (h:sliceArr k cs lo hi=some v):∃ v',sliceArr k cs' lo' hi'=some v'/\VW ρ V A v v':=by
 unfold sliceArr at h |-;split at h;case isFalse=>cases h
 rename_i hc;obtain ⟨c1,c2⟩:=hc;have e:cs'.take k=cs.take k:=by
  have hk:=hr.take k;refine List.ext_getElem? λj=>?_;cases hj:(cs.take k)[j]? with
  | none =>rw [List.getElem?_eq_none_iff] at hj |-;rw [<- hk.1];exact hj
  | some x =>obtain ⟨x',h1,h2⟩:=hk.get hj;rw [h1,leaf_eq (List.all_eq_true.1 c2 x (List.mem_of_getElem? hj)) h2]
 rw [e,if_pos ⟨by rw [<- hr.1];exact c1,c2⟩];refine sliceRo_vw (es:=(cs.take k).map λx=>[x]) ⟨rfl,λj x x' h1 h2=>?_⟩ (λe he x hx=>?_) id hlo hhi (mx:=none) (mx':=none) trivial h
 ·rw [h1] at h2;cases h2;rw [List.getElem?_map] at h1;cases hj:(cs.take k)[j]? with
  | none=>rw [hj] at h1;cases h1
  | some y =>rw [hj] at h1;cases h1;refine .cons ?_ .nil;have:=List.all_eq_true.1 c2 y (List.mem_of_getElem? hj);cases y <;> simp [isLeaf] at this <;> constructor
 ·simp only [List.mem_map] at he;obtain ⟨y,hy,rfl⟩:=he;simp only [List.mem_cons,List.not_mem_nil,or_false] at hx;subst hx;have:=List.all_eq_true.1 c2 x hy;cases x <;> simp [isLeaf] at this <;> rfl
theorem evSlice_vw {k:Nat} {x x':AV} {lo hi mx lo' hi' mx':Option AV} {v:AV} (hx:VW ρ V A x x')
 (hlo:OVW ρ V A lo lo') (hhi:OVW ρ V A hi hi') (hmx:OVW ρ V A mx mx') (h:evSlice k x lo hi mx=some v):∃ v',evSlice k x' lo' hi' mx'=some v'/\VW ρ V A v v':=by
 cases x with
 | str s =>
  rw [hx.str_inv];simp only [evSlice] at h |-;split at h
  ·rename_i hk;rw [if_pos hk];cases mx with
   | some _=>simp [sliceStr] at h
   | none =>
    cases mx' with
    | some _=>exact hmx.elim
    | none =>
     simp only [sliceStr] at h |-;obtain ⟨hh,h1,h⟩:=ob_some h;obtain ⟨ll,h2,h⟩:=ob_some h;rw [hhi.bound h1];simp only [ob];rw [hlo.bound h2];simp only;split at h
     ·rename_i hc;rw [if_pos hc];cases h;exact ⟨_,rfl,.str _⟩
     ·cases h
  ·cases h
 | nils =>
  cases hx;simp only [evSlice] at h |-;split at h
  ·cases h
  ·rename_i hk;rw [if_neg hk];simp only [sliceNil] at h |-;obtain ⟨mm,h1,h⟩:=ob_some h;obtain ⟨hh,h2,h⟩:=ob_some h;obtain ⟨ll,h3,h⟩:=ob_some h;rw [hmx.bound h1];simp only [ob];rw [hhi.bound h2];simp only;rw [hlo.bound h3];simp only;have e1:mx.isSome=mx'.isSome:=by cases mx <;> cases mx' <;> simp_all [OVW]
   have e2:hi.isNone=hi'.isNone:=by cases hi <;> cases hi' <;> simp_all [OVW]
   rw [e1,e2] at h;split at h
   ·rename_i hc;rw [if_pos hc];cases h;exact ⟨_,rfl,.nils⟩
   ·cases h
 | ro z es ex =>
  simp only [evSlice] at h;split at h
  ·rename_i hk;rcases hx.ro_inv with ⟨rfl,rfl⟩ | ⟨es',ex',rfl,h2,h3,h4⟩
   ·simp only [evSlice,if_neg hk.1];exact sliceNil_of hlo hhi hmx h
   ·simp only [evSlice,if_pos hk];exact sliceRo_vw h3 h4 h2 hlo hhi hmx h
  ·cases h
 | sl b z i len cap ex =>
  simp only [evSlice] at h;split at h
  ·rename_i hk;rcases hx.sl_inv with ⟨hA,hV,ex',rfl,h2⟩ | ⟨hA,hV,rfl,rfl,rfl,h2⟩
   ·simp only [evSlice,if_pos hk];exact sliceSl_vw hA hV h2 hlo hhi hmx h
   ·obtain ⟨q1,q2⟩:=sliceSl_virt hA hV hlo hhi hmx h;rcases h2 with rfl | rfl
    ·simp only [evSlice,if_neg hk.1];exact q1
    ·simp only [evSlice,if_pos hk];exact q2
  ·cases h
 | _=>simp [evSlice] at h
end
end Go.Pw
end
section
set_option linter.unusedSimpArgs false
set_option linter.unusedVariables false
namespace Go.Pw
open Go Go.Pav
section
variable {ρ:Nat->Nat} {V A:Nat->Prop} {n m:Nat} {h:WHeap} {h':Heap} {e e':Env}
theorem elems_vw (H:HW ρ V A h h') {z:Nat} {x x':AV} (hx:VW ρ V A x x') {xs:List (List AV)} {d:Bool} (he:wElems h z x=some (xs,d)) :
 ∃ xs',elems h' z x'=some xs'/\Rel2 (Rel2 (VW ρ V A)) xs xs'/\(d=true->∀ e ∈ xs,∀ x ∈ e,isC x=true):=by
 cases x with
 | nils=>cases hx;simp only [wElems,Option.some.injEq,Prod.mk.injEq] at he;obtain ⟨rfl,rfl⟩:=he;exact ⟨[],rfl,.nil,λ_ e he=>by cases he⟩
 | str s =>
  rw [hx.str_inv];simp only [wElems] at he;split at he
  ·rename_i hz;simp only [Option.some.injEq,Prod.mk.injEq] at he;obtain ⟨rfl,rfl⟩:=he;refine ⟨s.map λc=>[.int .u8 c.toNat],by simp only [elems,if_pos hz],?_,?_⟩
   ·exact (Rel2.map (R:=Eq) (T:=Rel2 (VW ρ V A)) (l:=s) (l':=s) ⟨rfl,λj x x' h1 h2=>by rw [h1] at h2;cases h2;rfl⟩ λx x' hxx=>by subst hxx;exact .cons (.int _ _) .nil)
   ·intro _ e he x hx;simp only [List.mem_map] at he;obtain ⟨c,_,rfl⟩:=he;simp at hx;subst hx;rfl
  ·cases he
 | ro z' es ex =>
  simp only [wElems] at he;split at he
  ·rename_i hz;simp only [Option.some.injEq,Prod.mk.injEq] at he;obtain ⟨rfl,rfl⟩:=he;rcases hx.ro_inv with ⟨rfl,rfl⟩ | ⟨es',ex',rfl,_,hr,hc⟩
   ·exact ⟨[],rfl,.nil,λ_ e he=>by cases he⟩
   ·exact ⟨es',by simp only [elems,if_pos hz],hr.mono λe e' _ h=>h.mono λx x' _ h=>h.data,λ_=>hc⟩
  ·cases he
 | sl b z' i len cap ex =>
  simp only [wElems] at he;split at he
  ·rename_i hz;split at he
   ·rename_i zb es mu dt hg;split at he
    ·rename_i hl;simp only [Option.some.injEq,Prod.mk.injEq] at he;obtain ⟨rfl,rfl⟩:=he;rcases hx.sl_inv with ⟨hA,hV,ex',rfl,_⟩ | ⟨hA,hV,rfl,rfl,rfl,hv⟩
     ·obtain ⟨o',h1,es',mu',rfl,_,hr,hd⟩:=H.obj b _ hg hV;refine ⟨(es'.drop i).take len,?_,(hr.drop i).take len,λq e he x hx=>hd q e (List.mem_of_mem_drop (List.mem_of_mem_take he)) x hx⟩;simp only [elems,if_pos hz,h1,<- hr.1,if_pos hl]
     ·obtain ⟨z2,mu2,dt2,q⟩:=H.virt b _ hg hV;cases q;refine ⟨[],?_,by simp only [List.drop_nil,List.take_nil];exact .nil,λ_ e he=>by simp at he⟩;rcases hv with rfl | rfl
      ·rfl
      ·simp only [elems,if_pos hz]
    ·cases he
   ·cases he
  ·cases he
 | _=>simp [wElems] at he
theorem newRow_vw (H:HW ρ V A h h') (hn:¬ A n) (hm:∀ b,A b->¬ V b->ρ b≠m) {zl k bytes:Nat} {xs xs':List (List AV)} {d:Bool} {r:AV × WUpd}
 (hr:Rel2 (Rel2 (VW ρ V A)) xs xs') (hd:d=true->∀ e ∈ xs,∀ x ∈ e,isC x=true) (he:wNewRow n zl k bytes xs d=some r) :
 ∃ r',Pav.newRow m zl k bytes xs'=some r'/\Ok2 ρ V A n m h h' r r':=by
 unfold wNewRow at he;split at he
 ·rename_i hb;cases he;have hVn:¬ V n:=λq=>hn (H.sub n q);have un:up ρ n m n=m:=by simp [up]
  refine ⟨_,by simp only [Pav.newRow,if_pos hb];rfl,?_,?_,?_⟩
  ·have:=VW.sl (ρ:=up ρ n m) (V:=V) (A:=addN A n) n zl 0 k k false false (.inr rfl) hVn id;rw [un] at this;exact this
  ·exact new_ok H hn hm ⟨xs',true,rfl,λ_=>rfl,hr.mono λe e' _ h=>h.mono λx x' _ h=>h.mono (up_mono hn),hd⟩
  ·intro b hb;simp at hb;subst hb;exact ⟨n,by simp,un.symm,hVn,.inr rfl⟩
 ·cases he
theorem evApp_vw (H:HW ρ V A h h') (hn:¬ A n) (hm:∀ b,A b->¬ V b->ρ b≠m) {zl bytes:Nat} {s s':AV} {xs xs':List (List AV)} {d:Bool} {r:AV × WUpd} (hs:VW ρ V A s s')
 (hr:Rel2 (Rel2 (VW ρ V A)) xs xs') (hd:d=true->∀ e ∈ xs,∀ x ∈ e,isC x=true) (he:wEvApp h n zl bytes s xs d=some r) :
 ∃ r',evApp h' m zl bytes s' xs'=some r'/\Ok2 ρ V A n m h h' r r':=by
 cases s with
 | nils =>
  cases hs;simp only [wEvApp] at he;cases xs with
  | nil=>simp only [Option.some.injEq] at he;subst he;rw [hr.inv_nil];exact ⟨_,rfl,plain_ok H hn hm .nils⟩
  | cons a t =>obtain ⟨a',t',rfl,h1,h2⟩:=hr.inv_cons;simp only at he;obtain ⟨r',h3,h4⟩:=newRow_vw H hn hm hr hd he;exact ⟨r',by simp only [evApp,<- hr.1];exact h3,h4⟩
 | ro z es ex =>
  simp only [wEvApp] at he;split at he
  ·rename_i hz;rcases hs.ro_inv with ⟨rfl,rfl⟩ | ⟨es',ex',rfl,hx,hes,hc⟩
   ·cases xs with
    | nil=>simp only [Option.some.injEq] at he;subst he;rw [hr.inv_nil];exact ⟨_,rfl,plain_ok H hn hm hs⟩
    | cons a t =>
     obtain ⟨a',t',rfl,h1,h2⟩:=hr.inv_cons;simp only at he;split at he
     ·simp only [List.length_nil,Nat.zero_add,List.nil_append] at he;obtain ⟨r',h3,h4⟩:=newRow_vw H hn hm hr hd he;exact ⟨r',by simp only [evApp,<- hr.1];exact h3,h4⟩
     ·cases he
   ·cases xs with
    | nil=>simp only [Option.some.injEq] at he;subst he;rw [hr.inv_nil];exact ⟨_,by simp only [evApp,if_pos hz],plain_ok H hn hm hs⟩
    | cons a t =>
     obtain ⟨a',t',rfl,h1,h2⟩:=hr.inv_cons;simp only at he;split at he
     ·rename_i hex;obtain ⟨r',h3,h4⟩:=newRow_vw H hn hm (xs':=es'++a'::t') ((hes.mono λe e' _ h=>h.mono λx x' _ h=>h.data).append hr) (λq e he x hx=>by
       rcases List.mem_append.1 he with q1 | q1
       ·exact hc e q1 x hx
       ·exact hd q e q1 x hx) he
      refine ⟨r',?_,h4⟩;simp only [evApp,if_pos hz,hx hex,if_true];rw [<- hes.1,<- hr.1];exact h3
     ·cases he
  ·cases he
 | sl b z i len cap ex =>
  simp only [wEvApp] at he;split at he
  ·rename_i hz;subst hz;cases xs with
   | nil =>
    simp only [Option.some.injEq] at he;subst he;rw [hr.inv_nil];rcases hs.sl_inv with ⟨hA,hV,ex',rfl,_⟩ | ⟨hA,hV,rfl,rfl,rfl,hv⟩
    ·exact ⟨_,by simp only [evApp,if_true],plain_ok H hn hm hs⟩
    ·rcases hv with rfl | rfl
     ·exact ⟨_,rfl,plain_ok H hn hm hs⟩
     ·exact ⟨_,by simp only [evApp,if_true],plain_ok H hn hm hs⟩
   | cons a t =>
    obtain ⟨a',t',rfl,h1,h2⟩:=hr.inv_cons;simp only at he;unfold wAppSl at he;split at he
    ·rename_i zb es mu dt hg;split at he
     ·rename_i hzb;rcases hs.sl_inv with ⟨hA,hV,ex',rfl,hx⟩ | ⟨hA,hV,rfl,rfl,rfl,hv⟩
      ·obtain ⟨o',g1,es',mu',rfl,gm,ge,gd⟩:=H.obj b _ hg hV;have hu:=up_mono (ρ:=ρ) (V:=V) (m:=m) hn;have dd:(dt&&d)=true->(∀ e ∈ es,∀ x ∈ e,isC x=true)/\∀ e ∈ a::t,∀ x ∈ e,isC x=true:=by intro q;simp only [Bool.and_eq_true] at q;exact ⟨gd q.1,hd q.2⟩
       simp only [evApp,if_true,g1,appSl,if_pos hzb];have hlen:(a'::t').length=(a::t).length:=hr.1.symm;rw [hlen];split at he
       ·rename_i hcap;rw [if_pos hcap];split at he
        ·rename_i hc;cases he;have e1:mu'=true/\i+(len+(a::t).length)<=es'.length:=⟨gm hc.1,by rw [<- ge.1];exact hc.2⟩;rw [if_pos e1];refine ⟨_,rfl,?_,?_,?_⟩
         ·have:=VW.sl (ρ:=up ρ n m) (V:=V) (A:=addN A n) b z i (len+(a::t).length) cap ex ex' (.inl hA) hV hx;rw [(hu b hA).2.1] at this;exact this
         ·refine HW.up (write_ok H hA hV ?_) hn hm;refine ⟨_,true,rfl,λ_=>rfl,(ge.take _).append (hr.append (ge.drop _)),λq e he x hx=>?_⟩;obtain ⟨q1,q2⟩:=dd q;rcases List.mem_append.1 he with q3 | q3
          ·exact q1 e (List.mem_of_mem_take q3) x hx
          ·rcases List.mem_append.1 q3 with q3 | q3
           ·exact q2 e q3 x hx
           ·exact q1 e (List.mem_of_mem_drop q3) x hx
         ·intro c hc;simp at hc;subst hc;exact ⟨b,by simp,((hu b hA).2.1).symm,hV,.inl hA⟩
        ·cases he
       ·rename_i hcap;rw [if_neg hcap];split at he
        ·rename_i hex;subst hex;rw [hx rfl];simp only [if_true];split at he
         ·rename_i hl;rw [if_pos (by rw [<- ge.1];exact hl)];exact newRow_vw H hn hm (((ge.drop _).take _).append hr) (λq e he x hx=>by
           obtain ⟨q1,q2⟩:=dd q;rcases List.mem_append.1 he with q3 | q3
           ·exact q1 e (List.mem_of_mem_drop (List.mem_of_mem_take q3)) x hx
           ·exact q2 e q3 x hx) he
         ·cases he
        ·rename_i hex;have hex:ex=false:=by simpa using hex
         subst hex;split at he
         ·rename_i hc;cases he;obtain ⟨c1,c2,c3,c4⟩:=hc;subst c2;have hVn:¬ V n:=λq=>hn (H.sub n q);have un:up ρ n m n=m:=by simp [up]
          have vw:VW (up ρ n m) V (addN A n) (.sl n z 0 (len+(a::t).length) (len+(a::t).length) false) (.sl m z 0 (len+(a::t).length) (len+(a::t).length) false):=by have:=VW.sl (ρ:=up ρ n m) (V:=V) (A:=addN A n) n z 0 (len+(a::t).length) (len+(a::t).length) false false (.inr rfl) hVn id;rw [un] at this;exact this
          have ow:∀ {mu2},OW (up ρ n m) V (addN A n) (.cells z (es++a::t) true (dt&&d)) (.cells z (es'++a'::t') mu2)↔mu2=true:=by
           intro mu2;constructor
           ·rintro ⟨_,_,q,q2,_⟩;cases q;exact q2 rfl
           ·rintro rfl;refine ⟨_,true,rfl,λ_=>rfl,(ge.append hr).mono λe e' _ h=>h.mono λx x' _ h=>h.mono hu,λq e he x hx=>?_⟩;obtain ⟨q1,q2⟩:=dd q;rcases List.mem_append.1 he with q3 | q3
            ·exact q1 e q3 x hx
            ·exact q2 e q3 x hx
          have wr:∀ c,c=ρ b\/c=m->∃ c2 ∈ [(b,(none:Option WObj)),(n,some (.cells z (es++a::t) true (dt&&d)))].map (·.1),c=up ρ n m c2/\¬ V c2/\addN A n c2:=by
           rintro c (rfl | rfl)
           ·exact ⟨b,by simp,((hu b hA).2.1).symm,hV,.inl hA⟩
           ·exact ⟨n,by simp,un.symm,hVn,.inr rfl⟩
          cases ex' with
          | false =>simp only [Bool.false_eq_true,if_false];rw [if_pos ⟨gm c1,by trivial,by rw [<- ge.1];exact c3,c4⟩];refine ⟨_,rfl,vw,?_,λc hc=>wr c (by simpa using hc)⟩;exact new_ok (del_ok H hA hV) hn hm (ow.2 rfl)
          | true =>
           simp only [if_true];rw [if_pos (by rw [<- ge.1,c3];simp)];have e3:(es'.drop 0).take len=es':=by rw [List.drop_zero,List.take_of_length_le (by rw [<- ge.1];omega)]
           rw [e3];refine ⟨_,by simp only [Pav.newRow,if_pos c4];rfl,vw,?_,λc hc=>wr c (.inr (by simpa using hc))⟩;exact new_ok (drop_ok H) hn hm (ow.2 rfl)
         ·cases he
      ·obtain ⟨z2,mu2,dt2,q⟩:=H.virt b _ hg hV;cases q;have hnr:∃ d2,(d2=true->d=true)/\((wNewRow n zb (a::t).length bytes (a::t) d2=some r)\/(∃ (q4:(a::t).length * (bytes+1)<=maxBytes),r=(.sl n zb 0 (a::t).length (a::t).length false,[(b,none),(n,some (.cells zb (a::t) true d2))]))):=by
        refine ⟨dt&&d,λq=>by simp only [Bool.and_eq_true] at q;exact q.2,?_⟩;subst hzb;rw [if_neg Qw] at he;split at he
        ·split at he
         ·left;simpa using he
         ·cases he
        ·split at he
         ·rename_i hc;right;simp only [Nat.zero_add] at hc he;exact ⟨hc.2.2.2,by simpa using he.symm⟩
         ·cases he
       obtain ⟨d2,hd2,hh⟩:=hnr;have hd3:d2=true->∀ e ∈ a::t,∀ x ∈ e,isC x=true:=λq=>hd (hd2 q);have goal:∃ r',Pav.newRow m z (a'::t').length bytes (a'::t')=some r'/\Ok2 ρ V A n m h h' r r':=by
        subst hzb;rcases hh with hh | ⟨q4,rfl⟩
        ·obtain ⟨r',h3,h4⟩:=newRow_vw H hn hm hr hd3 hh;exact ⟨r',by rw [<- hr.1];exact h3,h4⟩
        ·obtain ⟨r',h3,h4⟩:=newRow_vw (h:=del h b) (zl:=zb) (k:=(a::t).length) (bytes:=bytes) (r:=(.sl n zb 0 (a::t).length (a::t).length false,[(n,some (WObj.cells zb (a::t) true d2))])) (drop_ok H) hn hm hr hd3 (by simp only [wNewRow,if_pos q4]);refine ⟨r',by rw [<- hr.1];exact h3,h4.1,h4.2.1,λc hc=>?_⟩;obtain ⟨c2,q5,q6⟩:=h4.2.2 c hc;exact ⟨c2,by simp at q5 |-;exact .inr q5,q6⟩
       obtain ⟨r',g1,g2⟩:=goal;rcases hv with rfl | rfl
       ·exact ⟨r',by simp only [evApp];exact g1,g2⟩
       ·exact ⟨r',by simp only [evApp,if_true,List.length_nil,Nat.zero_add,List.nil_append];exact g1,g2⟩
     ·cases he
    ·cases he
  ·cases he
 | _=>simp [wEvApp] at he
end
end Go.Pw
end
section
set_option linter.unusedSimpArgs false
set_option linter.unusedVariables false
namespace Go.Pw
open Go Go.Pav
section
variable {ρ:Nat->Nat} {V A:Nat->Prop} {n m:Nat} {h:WHeap} {h':Heap} {e e':Env}
theorem ov_of {x:Option AV} {a:AV} (hx:x=some a):ov x=some (a,[]):=by rw [hx];rfl
theorem plainW_some {x:Option (AV × Upd)} {r:AV × WUpd} (h:plainW x=some r):∃ v u,x=some (v,u)/\r=(v,[]):=by obtain ⟨⟨v,u⟩,h1,h2⟩:=om_some h;exact ⟨v,u,h1,h2.symm⟩
theorem ovW_some {x:Option AV} {r:AV × WUpd} (h:ovW x=some r):∃ v,x=some v/\r=(v,[]):=by obtain ⟨v,h1,h2⟩:=om_some h;exact ⟨v,h1,h2.symm⟩
theorem ov_some' {x:Option AV} {v:AV} {u:Upd} (h:ov x=some (v,u)):x=some v:=by obtain ⟨w,h1,h2⟩:=om_some h;cases h2;exact h1
theorem oev_vw (he:EW ρ V A e e') {o:Option Opd} (ho:(o.map okO).getD true=true):OVW ρ V A (oev e o) (oev e' (o.map erO)):=by
 cases o with
 | none=>trivial
 | some x=>exact he.opd (by simpa using ho)
theorem mapGet_vw:∀ {es es':List (AV × AV)} {k:AV} {r:Option AV},Rel2 (λ(x y:AV × AV)=>x.1=y.1/\VD ρ V x.2 y.2) es es'->mapGet es k=some r->∃ r',mapGet es' k=some r'/\OVW ρ V A r r':=by
 intro es;induction es with
 | nil=>intro es' k r hr h;rw [hr.inv_nil];simp only [mapGet,Option.some.injEq] at h;subst h;exact ⟨none,rfl,trivial⟩
 | cons x es ih =>
  intro es' k r hr h;obtain ⟨y,t,rfl,h1,h2⟩:=hr.inv_cons;obtain ⟨a,v⟩:=x;obtain ⟨a',v'⟩:=y;obtain ⟨rfl,hv⟩:=h1;simp only [mapGet] at h |-;obtain ⟨c,h3,h⟩:=ob_some h;rw [h3];simp only [ob];split at h
  ·rename_i hc;rw [if_pos hc];cases h;exact ⟨some v',rfl,hv.data⟩
  ·rename_i hc;rw [if_neg hc];exact ih h2 h
theorem mapPut_vw:∀ {es es' r:List (AV × AV)} {k v v':AV},Rel2 (λ(x y:AV × AV)=>x.1=y.1/\VD ρ V x.2 y.2) es es'->VD ρ V v v'->mapPut es k v=some r ->
 ∃ r',mapPut es' k v'=some r'/\Rel2 (λ(x y:AV × AV)=>x.1=y.1/\VD ρ V x.2 y.2) r r':=by
 intro es;induction es with
 | nil=>intro es' r k v v' hr hv h;rw [hr.inv_nil];simp only [mapPut,Option.some.injEq] at h;subst h;exact ⟨_,rfl,.cons ⟨rfl,hv⟩ .nil⟩
 | cons x es ih =>
  intro es' r k v v' hr hv h;obtain ⟨y,t,rfl,h1,h2⟩:=hr.inv_cons;obtain ⟨a,w⟩:=x;obtain ⟨a',w'⟩:=y;obtain ⟨rfl,hw⟩:=h1;simp only [mapPut] at h |-;obtain ⟨c,h3,h⟩:=ob_some h;rw [h3];simp only [ob];split at h
  ·rename_i hc;rw [if_pos hc];cases h;exact ⟨_,rfl,.cons ⟨rfl,hv⟩ h2⟩
  ·rename_i hc;rw [if_neg hc];obtain ⟨r1,h4,rfl⟩:=om_some h;obtain ⟨r2,h5,h6⟩:=ih h2 hv h4;rw [h5];exact ⟨_,rfl,.cons ⟨rfl,hw⟩ h6⟩
theorem found_vw {z z':AV} {r r':Option AV} (hz:VW ρ V A z z') (hr:OVW ρ V A r r') (ok:Bool):VW ρ V A (found z ok r) (found z' ok r'):=by
 have:VW ρ V A (r.getD z) (r'.getD z')/\r.isSome=r'.isSome:=by cases r <;> cases r' <;> simp_all [OVW]
 unfold found;split
 ·rw [this.2];exact VW.mktup (.cons this.1 (.cons (.bool _) .nil))
 ·exact this.1
theorem flat_vw {ρ:Nat->Nat} {V A:Nat->Prop} {x x':AV} (h:VW ρ V A x x') (hf:flat x=true):flat x'=true:=by cases h <;> first | rfl | (simp [flat] at hf)
theorem snapOf_vw {ρ:Nat->Nat} {V A:Nat->Prop} {h:WHeap} {h':Heap} (H:HW ρ V A h h') {zl bytes:Nat} {s sv:AV} {xs xs':List (List AV)} {v:AV} (hv:VW ρ V A s sv) (q2:Rel2 (Rel2 (VW ρ V A)) xs xs') (q3:∀ e ∈ xs,∀ x ∈ e,isC x=true)
 (h2:snapOfW h zl bytes xs s=some v):∃ b len cap ex ex' es es',s=.sl b zl 0 len cap ex/\sv=.sl (ρ b) zl 0 len cap ex'/\Pav.get h b=some (.cells zl es true true)/\Pav.get h' (ρ b)=some (.cells zl es' true)/\¬ V b/\A b /\
  Rel2 (Rel2 (VW ρ V A)) es es'/\(∀ e ∈ es,∀ x ∈ e,isC x=true)/\es.length=len/\es'.length=len/\(es'.length+xs'.length) * (bytes+1)<=maxBytes/\(es'++xs').all (λe=>e.all flat)=true/\v=.ro zl (es++xs) false/\VW ρ V A v (.ro zl (es'++xs') false):=by
 unfold snapOfW at h2;split at h2;case h_2=>cases h2
 rename_i b z' i len cap ex;split at h2;case h_2=>cases h2
 rename_i zb es mu dt hg;split at h2;case isFalse=>cases h2
 rename_i hc;obtain ⟨rfl,rfl,rfl,rfl,rfl,rfl,hne,hbb,hfl⟩:=hc;cases h2;generalize hn:es.length=n at hv;cases hv with
 | slv _ _ _ _ hA hV hv =>obtain ⟨z0,mu0,dt0,e0⟩:=H.virt b _ hg hV;cases e0;simp at hne
 | sl _ _ _ _ _ _ ex' hA hV hx =>
  obtain ⟨o',ho',es',mu',rfl,r1,r2,r3⟩:=H.obj b _ hg hV;cases r1 rfl;have hR:Rel2 (Rel2 (VW ρ V A)) (es++xs) (es'++xs'):=r2.append q2;have hC:∀ e ∈ es++xs,∀ x ∈ e,isC x=true:=by
   intro e he x hx;rcases List.mem_append.1 he with q | q
   ·exact r3 rfl e q x hx
   ·exact q3 e q x hx
  have hfl':(es'++xs').all (λe=>e.all flat)=true:=by rw [List.all_eq_true];intro e' he';rw [List.all_eq_true];intro x' hx';obtain ⟨i,hi⟩:=List.mem_iff_getElem?.1 he';obtain ⟨j,hj⟩:=List.mem_iff_getElem?.1 hx';obtain ⟨e,p1,p2⟩:=hR.get' hi;obtain ⟨x,p3,p4⟩:=p2.get' hj;exact flat_vw p4 (List.all_eq_true.1 (List.all_eq_true.1 hfl _ (List.mem_of_getElem? p1)) _ (List.mem_of_getElem? p3))
  refine ⟨b,n,cap,ex,ex',es,es',rfl,rfl,hg,ho',hV,hA,r2,r3 rfl,hn,r2.1.symm.trans hn,by rw [<- r2.1,<- q2.1];exact hbb,hfl',rfl,?_⟩;exact .ro _ _ _ _ _ hC hR.1 (λq=>q) (λi e e' h3 h4=>(hR.2 i e e' h3 h4).1) (λi e e' j x x' h3 h4 h5 h6 =>((hR.2 i e e' h3 h4).2 j x x' h5 h6).isC (hC _ (List.mem_of_getElem? h3) _ (List.mem_of_getElem? h5)))
theorem frzApp_vw {ρ:Nat->Nat} {V A:Nat->Prop} {n m:Nat} {h:WHeap} {h':Heap} (H:HW ρ V A h h') (hn:¬ A n) (hm:∀ b,A b->¬ V b->ρ b≠m) {zl bytes:Nat} {s sv:AV} {xs xs':List (List AV)} {d:Bool} {r:AV × WUpd} (hv:VW ρ V A s sv)
 (q2:Rel2 (Rel2 (VW ρ V A)) xs xs') (q3:d=true->∀ e ∈ xs,∀ x ∈ e,isC x=true) (he:wFrzApp h zl bytes xs d s=some r):∃ r',frzApp h' zl bytes xs' sv=some r'/\Ok2 ρ V A n m h h' r r':=by
 unfold wFrzApp at he;split at he;case isFalse=>cases he
 rename_i hd;obtain ⟨v,h1,h2⟩:=ob_some he;obtain ⟨u,h3,rfl⟩:=om_some h2;obtain ⟨b,len,cap,ex,ex',es,es',rfl,rfl,hg,ho',hV,hA,hR,hD,hlen,hlen',hbb,hfl,rfl,hvw⟩:=snapOf_vw H hv q2 (q3 hd) h1;simp only [frzMark,hg,Option.some.injEq] at h3;subst h3;refine ⟨_,by simp only [frzApp,ho'];rw [if_pos ⟨trivial,trivial,trivial,trivial,hlen',hbb,hfl⟩],?_,?_,λc hc=>(by simp at hc;subst hc;exact ⟨b,by simp,((up_mono (V:=V) hn b hA).2.1).symm,hV,.inl hA⟩)⟩
 ·exact hvw.mono (up_mono hn)
 ·exact HW.up (write_ok H hA hV ⟨es',false,rfl,λq=>(by cases q),hR,λ_=>hD⟩) hn hm
theorem stepW_ok (he:EW ρ V A e e') (H:HW ρ V A h h') (hn:¬ A n) (hm:∀ b,A b->¬ V b->ρ b≠m) {op:COp} (ho:okOp op=true) {r:AV × WUpd} (hs:stepW op e h n=some r) :
 ∃ r',stepOp (erOp op) e' h' m=some r'/\Ok2 ρ V A n m h h' r r':=by
 have hVn:¬ V n:=λq=>hn (H.sub n q);have un:up ρ n m n=m:=by simp [up]
 have hu:=up_mono (ρ:=ρ) (V:=V) (m:=m) hn;have wrn:∀ {o:WObj} {o':AObj} {v:AV} {v':AV},∀ b ∈ ((v',[(m,some o')]):AV × Upd).2.map (·.1),∃ c ∈ ((v,[(n,some o)]):AV × WUpd).2.map (·.1),b=up ρ n m c/\¬ V c/\addN A n c:=by intro o o' v v' b hb;simp at hb;subst hb;exact ⟨n,by simp,un.symm,hVn,.inr rfl⟩
 have wro:∀ {b:Nat} {o:WObj} {o':AObj} {v:AV} {v':AV},A b->¬ V b->∀ c ∈ ((v',[(ρ b,some o')]):AV × Upd).2.map (·.1),∃ c2 ∈ ((v,[(b,some o)]):AV × WUpd).2.map (·.1),c=up ρ n m c2/\¬ V c2/\addN A n c2:=by intro b o o' v v' hA hV c hc;simp at hc;subst hc;exact ⟨b,by simp,((hu b hA).2.1).symm,hV,.inl hA⟩
 have zok:∀ {z:List AV},okL z=true->Rel2 (VW (up ρ n m) V (addN A n)) z (erL z):=λq=>okL_vw _ q;have allC:∀ {z:List AV},(z.all isC)=true->∀ x ∈ z,isC x=true:=λq x hx=>List.all_eq_true.1 q x hx;cases op with
 | mv x =>obtain ⟨v,u,h1,rfl⟩:=plainW_some hs;simp only [sMv,Option.some.injEq,Prod.mk.injEq] at h1;obtain ⟨rfl,rfl⟩:=h1;exact ⟨_,rfl,plain_ok H hn hm (he.opd ho)⟩
 | pick c a b =>
  simp only [okOp,Bool.and_eq_true] at ho;obtain ⟨v,u,h1,rfl⟩:=plainW_some hs;simp only [sPick] at h1;split at h1
  ·rename_i t hc;simp only [Option.some.injEq,Prod.mk.injEq] at h1;obtain ⟨rfl,rfl⟩:=h1;have hc':=he.opd ho.1;rw [hc] at hc';refine ⟨_,by simp only [stepOp,erOp,sPick,hc'.bool_inv];rfl,plain_ok H hn hm ?_⟩;cases t with
   | true=>exact he.opd ho.2.1
   | false=>exact he.opd ho.2.2
  ·cases h1
 | alloc z =>
  simp only [stepW,wAlloc,Option.some.injEq] at hs;subst hs;have hz:=okL_vw (ρ:=up ρ n m) (V:=V) (A:=addN A n) z ho;refine ⟨_,rfl,?_,?_,wrn⟩
  ·have:=VW.ptr (ρ:=up ρ n m) (V:=V) (A:=addN A n) n 0 0 (.inr rfl) hVn;rw [un] at this;exact this
  ·refine new_ok H hn hm ?_;simp only [<- hz.1];exact ⟨_,true,rfl,λ_=>rfl,.cons hz .nil,λq e he x hx=>by simp at he;subst he;exact allC q x hx⟩
 | box x =>
  simp only [stepW,wBox,boxedW] at hs;split at hs
  ·rename_i hc;cases hs;obtain ⟨h1,h2⟩:=(he.opd ho).cells hc;refine ⟨_,by simp only [stepOp,erOp,sBox,boxed,if_pos h2];rfl,?_,?_,wrn⟩
   ·have:=VW.ptr (ρ:=up ρ n m) (V:=V) (A:=addN A n) n 0 0 (.inr rfl) hVn;rw [un] at this;exact this
   ·refine new_ok H hn hm ?_;simp only [<- h1.1];exact ⟨_,true,rfl,λ_=>rfl,.cons (h1.mono λx x' _ h=>h.mono hu) .nil,λq e he x hx=>by simp at he;subst he;exact allC q x hx⟩
  ·cases hs
 | build z ps =>simp only [okOp,Bool.and_eq_true] at ho;obtain ⟨v,u,h1,rfl⟩:=plainW_some hs;obtain ⟨cs,h2,h3⟩:=om_some h1;cases h3;obtain ⟨r',h4,h5⟩:=fillC_vw he ps z _ cs ho.2 (okL_vw z ho.1) h2;exact ⟨_,by simp only [stepOp,erOp,sBuild,h4];rfl,plain_ok H hn hm (VW.mkagg h5)⟩
 | buildS z len ps =>
  simp only [okOp,Bool.and_eq_true] at ho;simp only [stepW,wBuildS] at hs;obtain ⟨es,h1,rfl⟩:=om_some hs;have hz:=okL_vw (ρ:=ρ) (V:=V) (A:=A) z ho.1;obtain ⟨es',h4,h5⟩:=fillS_vw he z.length ps (List.replicate len z) (List.replicate len (erL z)) es ho.2 (.replicate hz len) h1;refine ⟨_,by simp only [stepOp,erOp,sBuildS,<- hz.1,h4];rfl,?_,?_,wrn⟩
  ·have:=VW.sl (ρ:=up ρ n m) (V:=V) (A:=addN A n) n z.length 0 len len true true (.inr rfl) hVn id;rw [un] at this;exact this
  ·refine new_ok H hn hm ?_;exact ⟨_,true,rfl,λ_=>rfl,h5.mono λe e' _ h=>h.mono λx x' _ h=>h.mono hu,λq e he x hx=>by simp only [List.all_eq_true] at q;exact q e he x hx⟩
 | load k ag a =>
  obtain ⟨v,h1,rfl⟩:=ovW_some hs;have ha:=he.opd (x:=a) ho;have key:∃ v',loadOf k ag h' ((erO a).ev e')=some v'/\VW ρ V A v v':=by
   cases hx:a.ev e with
   | rop cs =>rw [hx] at ha h1;obtain ⟨cs',q,hr⟩:=ha.rop_inv;rw [q];obtain ⟨v',h2,h3⟩:=loadC_vw hr h1;exact ⟨v',h2,h3.data⟩
   | ptr b i o =>
    rw [hx] at ha h1;obtain ⟨q,hA,hV⟩:=ha.ptr_inv;rw [q];simp only [wLoadOf] at h1;unfold wLoadAt at h1;split at h1
    ·rename_i z es mu dt hg;obtain ⟨cs,h2,h3⟩:=ob_some h1;obtain ⟨o',g1,es',mu',rfl,_,ge,_⟩:=H.obj b _ hg hV;obtain ⟨cs',h4,h5⟩:=ge.get h2;obtain ⟨v',h6,h7⟩:=loadC_vw (h5.drop o) h3;exact ⟨v',by simp only [loadOf,g1,loadAt,h4,ob];exact h6,h7⟩
    ·cases h1
   | _=>rw [hx] at h1;simp [wLoadOf] at h1
  obtain ⟨v',h2,h3⟩:=key;exact ⟨_,ov_of h2,plain_ok H hn hm h3⟩
 | store k a x =>
  simp only [okOp,Bool.and_eq_true] at ho;simp only [stepW,wStore] at hs;split at hs
  ·rename_i hc;obtain ⟨c1,c2⟩:=(he.opd ho.2).cells hc.2;have ha:=he.opd ho.1;cases hx:a.ev e with
   | ptr b i o =>
    rw [hx] at ha hs;obtain ⟨q,hA,hV⟩:=ha.ptr_inv;simp only [wStoreOf] at hs;unfold wStoreAt at hs;split at hs
    ·rename_i z es mu dt hg;split at hs
     ·rename_i hmu;obtain ⟨cs,h2,h3⟩:=ob_some hs;split at h3
      ·rename_i hl;cases h3;obtain ⟨o',g1,es',mu',rfl,gm,ge,gd⟩:=H.obj b _ hg hV;obtain ⟨cs',h4,h5⟩:=ge.get h2;refine ⟨_,by simp only [stepOp,erOp,sStore,<- c1.1];rw [if_pos ⟨hc.1,c2⟩,q];simp only [storeOf,g1,storeAt,gm hmu,if_true,h4,ob,<- h5.1];rw [if_pos hl],?_,?_,wro hA hV⟩
       ·exact VW.mktup .nil
       ·refine HW.up (write_ok H hA hV ?_) hn hm;refine ⟨_,true,rfl,λ_=>rfl,ge.set (splice_vw h5 c1 o),λq e he x hx=>?_⟩;simp only [Bool.and_eq_true,List.all_eq_true] at q;rcases List.mem_or_eq_of_mem_set he with q2 | rfl
        ·exact gd q.1 e q2 x hx
        ·unfold splice at hx;simp only [List.mem_append] at hx;rcases hx with q3 | q3 | q3
         ·exact gd q.1 cs (List.mem_of_getElem? h2) x (List.mem_of_mem_take q3)
         ·exact q.2 x q3
         ·exact gd q.1 cs (List.mem_of_getElem? h2) x (List.mem_of_mem_drop q3)
      ·cases h3
     ·cases hs
    ·cases hs
   | _=>rw [hx] at hs;simp [wStoreOf] at hs
  ·cases hs
 | nilchk x =>
  obtain ⟨v,u,h1,rfl⟩:=plainW_some hs;have hx:=he.opd (x:=x) ho;simp only [sNilchk] at h1;split at h1
  ·rename_i b i o hc;cases h1;rw [hc] at hx;exact ⟨_,by simp only [stepOp,erOp,sNilchk,hx.ptr_inv.1],plain_ok H hn hm (hx.ptr_inv.1 ▸ hx)⟩
  ·rename_i cs hc;cases h1;rw [hc] at hx;obtain ⟨cs',q,_⟩:=hx.rop_inv;exact ⟨_,by simp only [stepOp,erOp,sNilchk,q],plain_ok H hn hm (q ▸ hx)⟩
  ·rename_i f cs hc;split at h1
   ·rename_i hlt;cases h1;rw [hc] at hx;obtain ⟨cs',q,_⟩:=hx.fn_inv;exact ⟨_,by simp only [stepOp,erOp,sNilchk,q,if_pos hlt],plain_ok H hn hm (q ▸ hx)⟩
   ·cases h1
  ·cases h1
 | bin op x y =>simp only [okOp,Bool.and_eq_true] at ho;obtain ⟨v,u,h1,rfl⟩:=plainW_some hs;obtain ⟨h2,h3⟩:=evBin_vw (he.opd ho.1) (he.opd ho.2) (ov_some' h1);exact ⟨_,ov_of h2,plain_ok H hn hm h3⟩
 | eqv kd ks ne x y =>
  simp only [okOp,Bool.and_eq_true] at ho;simp only [stepW] at hs;split at hs
  ·rename_i hk;subst hk;obtain ⟨b,h1,rfl⟩:=om_some hs;refine ⟨_,by simp only [stepOp,erOp,sEqv,eqVals,if_true,wEqSl_vw (he.opd ho.1) (he.opd ho.2) h1];rfl,plain_ok H hn hm (.bool _)⟩
  ·rename_i hk;obtain ⟨v,u,h1,rfl⟩:=plainW_some hs;obtain ⟨b,h2,h3⟩:=om_some h1;cases h3;exact ⟨_,by simp only [stepOp,erOp,sEqv,eqVals_vw (he.opd ho.1) (he.opd ho.2) hk h2];rfl,plain_ok H hn hm (.bool _)⟩
 | un op x =>obtain ⟨v,u,h1,rfl⟩:=plainW_some hs;obtain ⟨h2,h3⟩:=evUn_vw (he.opd (x:=x) ho) (ov_some' h1);exact ⟨_,ov_of h2,plain_ok H hn hm h3⟩
 | cvt k x =>
  obtain ⟨v,u,h1,rfl⟩:=plainW_some hs;have hx:=he.opd (x:=x) ho;simp only [sCvt] at h1;split at h1
  ·rename_i k' q hc;cases h1;rw [hc] at hx;exact ⟨_,by simp only [stepOp,erOp,sCvt,hx.int_inv],plain_ok H hn hm (.int _ _)⟩
  ·cases h1
 | cvs x =>
  obtain ⟨v,u,h1,rfl⟩:=plainW_some hs;have hx:=he.opd (x:=x) ho;simp only [sCvs] at h1;split at h1
  ·rename_i q hc;cases h1;rw [hc] at hx;exact ⟨_,by simp only [stepOp,erOp,sCvs,hx.str_inv],plain_ok H hn hm (.str _)⟩
  ·cases h1
 | cvb x =>
  obtain ⟨v,u,h1,rfl⟩:=plainW_some hs;have hx:=he.opd (x:=x) ho;simp only [sCvb] at h1;have h1:=ov_some' h1;cases hxv:x.ev e <;> rw [hxv] at h1 hx <;> simp only [evCvb] at h1 <;> try (cases h1;done)
  ·cases h1;have q:(erO x).ev e'=.nils:=by generalize (erO x).ev e'=u at hx;cases hx;rfl
   exact ⟨_,ov_of (by rw [q];rfl),plain_ok H hn hm (.str _)⟩
  ·rename_i z es ex;split at h1
   ·rename_i hz;subst hz;obtain ⟨s,hb,rfl⟩:=om_some h1;rcases hx.ro_inv with ⟨q2,q1⟩ | ⟨es',ex',q1,q3,q2,q4⟩
    ·subst q2;simp only [bytesOf,Option.some.injEq] at hb;subst hb;exact ⟨_,ov_of (by rw [q1];rfl),plain_ok H hn hm (.str _)⟩
    ·have hb':bytesOf es'=some s:=by
      have key:∀ (es es':List (List AV)) (s:List UInt8),Rel2 (Rel2 (VD ρ V)) es es'->bytesOf es=some s->bytesOf es'=some s:=by
       intro es;induction es with
       | nil=>intro es' s hr hb;rw [hr.inv_nil];exact hb
       | cons c r ih =>
        intro es' s hr hb;obtain ⟨c',t,rfl,h2,h3⟩:=hr.inv_cons;simp only [bytesOf] at hb;split at hb
        ·obtain ⟨s',h4,rfl⟩:=om_some hb;obtain ⟨a,b,rfl,h5,h6⟩:=h2.inv_cons;rw [h6.inv_nil,h5.int_inv];simp only [bytesOf,ih t s' h3 h4,om]
        ·cases hb
      exact key es es' s q2 hb
     exact ⟨_,ov_of (by rw [q1];simp only [evCvb,if_true,hb',om]),plain_ok H hn hm (.str _)⟩
   ·cases h1
 | mkfn f caps =>
  obtain ⟨v,u,h1,rfl⟩:=plainW_some hs;simp only [sMkfn] at h1;split at h1
  ·rename_i hc;cases h1;simp only [okOp,List.all_eq_true] at ho hc;have rel:Rel2 (VW ρ V A) (caps.map λx=>x.ev e) ((caps.map erO).map λx=>x.ev e'):=by
    rw [List.map_map];refine ⟨by simp,λj x x' h1 h2=>?_⟩;rw [List.getElem?_map] at h1 h2;cases h3:caps[j]? with
    | none=>rw [h3] at h1;cases h1
    | some c=>rw [h3] at h1 h2;cases h1;cases h2;exact he.opd (ho c (List.mem_of_getElem? h3))
   have c2:((caps.map erO).all λx=>(x.ev e').cell||(decide (1000000 < f)&&(x.ev e').isAg))=true:=by
    simp only [List.all_map,List.all_eq_true];intro c hcc;have hx:=he.opd (ho c hcc);have hcc':=hc c hcc;rw [Bool.or_eq_true,Bool.and_eq_true] at hcc';rcases hcc' with q | q
    ·simp only [Function.comp,hx.cell q,Bool.true_or]
    ·have q2:=q.2;unfold AV.isAg at q2;split at q2
     ·rename_i hcc;rw [hcc] at hx;obtain ⟨d,e1,_⟩:=hx.agg_inv;simp only [Function.comp,e1,AV.isAg,q.1,Bool.and_self,Bool.or_true]
     ·cases q2
   exact ⟨_,by simp only [stepOp,erOp,sMkfn,if_pos c2],plain_ok H hn hm (VW.mkfn rel)⟩
  ·cases h1
 | mkmap =>simp only [stepW,wMkmap,Option.some.injEq] at hs;subst hs;refine ⟨_,rfl,?_,new_ok H hn hm ⟨[],rfl,.nil⟩,wrn⟩;have:=VW.map (ρ:=up ρ n m) (V:=V) (A:=addN A n) n (.inr rfl) hVn;rw [un] at this;exact this
 | mksl z bytes l c =>
  simp only [okOp,Bool.and_eq_true] at ho;simp only [stepW,wMksl] at hs;have hl:=he.opd ho.2.1;have hc:=he.opd ho.2.2;split at hs
  ·rename_i k1 l1 k2 c1 e1 e2;rw [e1] at hl;rw [e2] at hc;obtain ⟨l2,h1,h⟩:=ob_some hs;obtain ⟨c2,h2,h⟩:=ob_some h;split at h
   ·rename_i hb;cases h;have hz:=okL_vw (ρ:=up ρ n m) (V:=V) (A:=addN A n) z ho.1;refine ⟨_,by simp only [stepOp,erOp,sMksl,hl.int_inv,hc.int_inv,h1,h2,ob,if_pos hb];rfl,?_,?_,wrn⟩
    ·have:=VW.sl (ρ:=up ρ n m) (V:=V) (A:=addN A n) n z.length 0 l2 c2 true true (.inr rfl) hVn id;rw [un] at this;simp only [<- hz.1];exact this
    ·refine new_ok H hn hm ?_;simp only [<- hz.1];exact ⟨_,true,rfl,λ_=>rfl,.replicate hz _,λq e he x hx=>by rw [List.eq_of_mem_replicate he] at hx;exact allC q x hx⟩
   ·cases h
  ·cases hs
 | sliceA n' x lo hi =>
  simp only [okOp,Bool.and_eq_true] at ho;have hx:=he.opd (x:=x) ho.1;simp only [stepW,wSliceA] at hs;cases hxv:x.ev e <;> rw [hxv] at hs hx <;> simp only [wSliceOf] at hs <;> try (cases hs;done)
  ·rename_i cs;obtain ⟨r,hr,q⟩:=om_some hs;cases q;obtain ⟨cs',q,hc⟩:=hx.rop_inv;obtain ⟨v',h2,h3⟩:=sliceArr_vw (hc.mono λ_ _ _ hx=>hx.mono λ_ q=>q.elim) (oev_vw he ho.2.1) (oev_vw he ho.2.2) hr;exact ⟨_,by simp only [stepOp,erOp,sSliceA,q,evSliceA,h2,om],plain_ok H hn hm h3⟩
  ·rename_i b i o;unfold wSliceAt at hs;split at hs;case h_2=>cases hs
   rename_i z es mu dt hg;obtain ⟨cs,hcs,hs⟩:=ob_some hs;obtain ⟨r,hr,q⟩:=om_some hs;cases q;obtain ⟨q,hA,hV⟩:=hx.ptr_inv;obtain ⟨o',g1,es',mu',rfl,gm,ge,gd⟩:=H.obj b _ hg hV;obtain ⟨cs',h4,h5⟩:=ge.get hcs;obtain ⟨v',h2,h3⟩:=sliceArr_vw (h5.drop o) (oev_vw he ho.2.1) (oev_vw he ho.2.2) hr;refine ⟨_,by simp only [stepOp,erOp,sSliceA,q,evSliceA,g1,sliceAt,h4,ob,h2,om];rfl,?_,?_,wro hA hV⟩
   ·exact h3.mono λc hc=>⟨(hu c hc).1,(hu c hc).2.1,(hu c hc).2.2⟩
   ·refine HW.up (write_ok H hA hV ?_) hn hm;exact ⟨_,false,rfl,id,ge,gd⟩
 | slice z x lo hi mx =>simp only [okOp,Bool.and_eq_true] at ho;obtain ⟨v,u,h1,rfl⟩:=plainW_some hs;obtain ⟨v',h2,h3⟩:=evSlice_vw (he.opd ho.1) (oev_vw he ho.2.1) (oev_vw he ho.2.2.1) (oev_vw he ho.2.2.2) (ov_some' h1);exact ⟨_,ov_of h2,plain_ok H hn hm h3⟩
 | fld off x =>
  obtain ⟨v,u,h1,rfl⟩:=plainW_some hs;have hx:=he.opd (x:=x) ho;simp only [sFld] at h1;split at h1
  ·rename_i cs hc;cases h1;rw [hc] at hx;obtain ⟨cs',q,hr⟩:=hx.rop_inv;exact ⟨_,by simp only [stepOp,erOp,sFld,q],plain_ok H hn hm (VW.mkrop (hr.drop off))⟩
  ·rename_i b i o hc;cases h1;rw [hc] at hx;obtain ⟨q,hA,hV⟩:=hx.ptr_inv;exact ⟨_,by simp only [stepOp,erOp,sFld,q],plain_ok H hn hm (.ptr _ _ _ hA hV)⟩
  ·cases h1
 | fldv off k ag x =>
  obtain ⟨v,u,h1,rfl⟩:=plainW_some hs;have hx:=he.opd (x:=x) ho;simp only [sFldv] at h1;split at h1
  ·rename_i cs hc;rw [hc] at hx;obtain ⟨cs',q,hr⟩:=hx.agg_inv;obtain ⟨v',h2,h3⟩:=loadC_vw (hr.drop off) (ov_some' h1);exact ⟨_,by simp only [stepOp,erOp,sFldv,q];exact ov_of h2,plain_ok H hn hm h3⟩
  ·cases h1
 | idxs z x i =>
  simp only [okOp,Bool.and_eq_true] at ho;obtain ⟨v,u,h1,rfl⟩:=plainW_some hs;have hx:=he.opd ho.1;have hi:=he.opd ho.2;simp only [sIdxs] at h1;split at h1
  ·rename_i k q hc;rw [hc] at hi;obtain ⟨j,h2,h3⟩:=ob_some h1;simp only [stepOp,erOp,sIdxs,hi.int_inv,h2,ob];cases hxe:x.ev e with
   | ro z' es ex =>
    rw [hxe] at hx h3;simp only [idxsAt] at h3;split at h3
    ·rename_i hz;obtain ⟨cs,h4,h5⟩:=ob_some h3;cases h5;rcases hx.ro_inv with ⟨rfl,_⟩ | ⟨es',ex',q,_,hr,hd⟩
     ·simp at h4
     ·obtain ⟨cs',h6,h7⟩:=hr.get h4;exact ⟨_,by simp only [q,idxsAt,if_pos hz,h6,ob],plain_ok H hn hm (VW.mkrop h7)⟩
    ·cases h3
   | sl b z' j2 len cap ex =>
    rw [hxe] at hx h3;simp only [idxsAt] at h3;split at h3
    ·rename_i hz;cases h3;rcases hx.sl_inv with ⟨hA,hV,ex',q,_⟩ | ⟨_,_,_,rfl,_,_⟩
     ·exact ⟨_,by simp only [q,idxsAt,if_pos hz],plain_ok H hn hm (.ptr _ _ _ hA hV)⟩
     ·omega
    ·cases h3
   | _=>rw [hxe] at h3;simp [idxsAt] at h3
  ·cases h1
 | idxa len z x i =>
  simp only [okOp,Bool.and_eq_true] at ho;obtain ⟨v,u,h1,rfl⟩:=plainW_some hs;have hx:=he.opd ho.1;have hi:=he.opd ho.2;simp only [sIdxa] at h1;split at h1
  ·rename_i k q hc;rw [hc] at hi;obtain ⟨j,h2,h3⟩:=ob_some h1;split at h3
   ·rename_i hj;simp only [stepOp,erOp,sIdxa,hi.int_inv,h2,ob,if_pos hj];cases hxe:x.ev e with
    | rop cs =>rw [hxe] at hx h3;simp only [idxaAt,Option.some.injEq,Prod.mk.injEq] at h3;obtain ⟨rfl,_⟩:=h3;obtain ⟨cs',q,hr⟩:=hx.rop_inv;exact ⟨_,by simp only [q,idxaAt],plain_ok H hn hm (VW.mkrop (hr.drop _))⟩
    | ptr b j2 o =>rw [hxe] at hx h3;simp only [idxaAt,Option.some.injEq,Prod.mk.injEq] at h3;obtain ⟨rfl,_⟩:=h3;obtain ⟨q,hA,hV⟩:=hx.ptr_inv;exact ⟨_,by simp only [q,idxaAt],plain_ok H hn hm (.ptr _ _ _ hA hV)⟩
    | _=>rw [hxe] at h3;simp [idxaAt] at h3
   ·cases h3
  ·cases h1
 | idxstr x i =>
  simp only [okOp,Bool.and_eq_true] at ho;obtain ⟨v,u,h1,rfl⟩:=plainW_some hs;have hx:=he.opd ho.1;have hi:=he.opd ho.2;simp only [sIdxstr] at h1;split at h1
  ·rename_i s k q hc1 hc2;rw [hc1] at hx;rw [hc2] at hi;obtain ⟨j,h2,h3⟩:=ob_some h1;obtain ⟨c,h4,h5⟩:=ob_some h3;cases h5;exact ⟨_,by simp only [stepOp,erOp,sIdxstr,hx.str_inv,hi.int_inv,h2,ob,h4],plain_ok H hn hm (.int _ _)⟩
  ·cases h1
 | idxv len z ag x i =>
  simp only [okOp,Bool.and_eq_true] at ho;obtain ⟨v,u,h1,rfl⟩:=plainW_some hs;have hx:=he.opd ho.1;have hi:=he.opd ho.2;simp only [sIdxv] at h1;split at h1
  ·rename_i cs k q hc1 hc2;rw [hc1] at hx;rw [hc2] at hi;obtain ⟨j,h2,h3⟩:=ob_some h1;split at h3
   ·rename_i hj;obtain ⟨cs',q,hr⟩:=hx.agg_inv;obtain ⟨v',h4,h5⟩:=loadC_vw (hr.drop _) (ov_some' h3);exact ⟨_,by simp only [stepOp,erOp,sIdxv,q,hi.int_inv,h2,ob,if_pos hj];exact ov_of h4,plain_ok H hn hm h5⟩
   ·cases h3
  ·cases h1
 | look kd z ok mp k =>
  simp only [okOp,Bool.and_eq_true] at ho;simp only [stepW,wLook] at hs;split at hs
  ·rename_i hk;have hmp:=he.opd ho.2.1;have hkk:=keyOk_vw (he.opd ho.2.2) hk;have hz:=okV_vw (ρ:=ρ) (V:=V) (A:=A) z ho.1;split at hs
   ·rename_i hc;cases hs;rw [hc] at hmp;cases hnm:(erO mp).ev e' <;> rw [hnm] at hmp <;> cases hmp;exact ⟨_,by simp only [stepOp,erOp,sLook,hkk,if_pos hk,hnm],plain_ok H hn hm (found_vw hz (r:=none) (r':=none) trivial ok)⟩
   ·rename_i b hc;rw [hc] at hmp;obtain ⟨q,hA,hV⟩:=hmp.map_inv;obtain ⟨v,h1,rfl⟩:=ovW_some hs;unfold wLookIn at h1;split at h1
    ·rename_i es hg;obtain ⟨r,h2,rfl⟩:=om_some h1;obtain ⟨o',g1,es',rfl,hr⟩:=H.obj b _ hg hV;obtain ⟨r',h3,h4⟩:=mapGet_vw (A:=A) hr h2;refine ⟨_,by simp only [stepOp,erOp,sLook,hkk,if_pos hk,q,g1,lookIn,h3,om,ov],plain_ok H hn hm (found_vw hz h4 ok)⟩
    ·cases h1
   ·cases hs
  ·cases hs
 | upd kd mp k v =>
  simp only [okOp,Bool.and_eq_true] at ho;simp only [stepW,wUpd] at hs;split at hs
  ·rename_i hk;have hmp:=he.opd ho.1;have hkk:=keyOk_vw (he.opd ho.2.1) hk.1;have hv:=(he.opd ho.2.2).isD (ρ':=ρ) (V':=V) (A':=λ_=>False) hk.2;split at hs
   ·rename_i b hc;rw [hc] at hmp;obtain ⟨q,hA,hV⟩:=hmp.map_inv;unfold wUpdIn at hs;split at hs
    ·rename_i es hg;obtain ⟨r,h2,rfl⟩:=om_some hs;obtain ⟨o',g1,es',rfl,hr⟩:=H.obj b _ hg hV;obtain ⟨r',h3,h4⟩:=mapPut_vw hr hv h2;refine ⟨_,by simp only [stepOp,erOp,sUpd,hkk,if_pos hk.1,q,g1,updIn,h3,om];rfl,VW.mktup .nil,?_,wro hA hV⟩;exact HW.up (write_ok H hA hV ⟨_,rfl,h4⟩) hn hm
    ·cases hs
   ·cases hs
  ·cases hs
 | range x =>
  simp only [stepW,wRange] at hs;have hx:=he.opd (x:=x) ho;split at hs
  ·rename_i s hc;cases hs;rw [hc] at hx;refine ⟨(.ptr m 0 0,[(m,some (.iter s 0))]),by simp only [stepOp,erOp,sRange,hx.str_inv],?_,new_ok H hn hm (show OW _ _ _ (.iter s 0) (.iter s 0) from rfl),wrn⟩;have:=VW.ptr (ρ:=up ρ n m) (V:=V) (A:=addN A n) n 0 0 (.inr rfl) hVn;rw [un] at this;exact this
  ·cases hs
 | next x =>
  simp only [stepW,wNext] at hs;have hx:=he.opd (x:=x) ho;split at hs
  ·rename_i b hc;rw [hc] at hx;obtain ⟨q,hA,hV⟩:=hx.ptr_inv;unfold wNextIter at hs;split at hs
   ·rename_i s pos hg;obtain ⟨o',g1,rfl⟩:=H.obj b _ hg hV;split at hs
    ·rename_i hp;cases hs;refine ⟨_,by simp only [stepOp,erOp,sNext,q,g1,nextIter,if_pos hp];rfl,VW.mktup (.cons (.bool _) (.cons (.int _ _) (.cons (.int _ _) .nil))),?_,wro hA hV⟩;exact HW.up (write_ok H hA hV rfl) hn hm
    ·rename_i hp;cases hs;exact ⟨_,by simp only [stepOp,erOp,sNext,q,g1,nextIter,if_neg hp],plain_ok H hn hm (VW.mktup (.cons (.bool _) .nil))⟩
   ·cases hs
  ·cases hs
 | ext i x =>
  obtain ⟨v,u,h1,rfl⟩:=plainW_some hs;have hx:=he.opd (x:=x) ho;simp only [sExt] at h1;split at h1
  ·rename_i vs hc;rw [hc] at hx;obtain ⟨vs',q,hr⟩:=hx.tup_inv;obtain ⟨v',h2,h3⟩:=hr.get (ov_some' h1);exact ⟨_,by simp only [stepOp,erOp,sExt,q];exact ov_of h2,plain_ok H hn hm h3⟩
  ·rename_i f vs hc;split at h1
   ·rename_i hlt;rw [hc] at hx;obtain ⟨vs',q,hr⟩:=hx.fn_inv;have h1':=ov_some' h1;cases vs with
    | nil=>cases h1'
    | cons y vs =>obtain ⟨z,r,rfl,h3,_⟩:=hr.inv_cons;cases h1';exact ⟨_,by simp only [stepOp,erOp,sExt,q,if_pos hlt];exact ov_of rfl,plain_ok H hn hm h3⟩
   ·cases h1
  ·cases h1
 | len kd x =>
  obtain ⟨v,h1,rfl⟩:=ovW_some hs;have hx:=he.opd (x:=x) ho;have key:evLen kd h' ((erO x).ev e')=some v/\VW ρ V A v v:=by
   cases hxe:x.ev e with
   | str s=>rw [hxe] at hx h1;rw [hx.str_inv];simp only [wEvLen] at h1;split at h1 <;> cases h1;exact ⟨by simp only [evLen];rw [if_pos];assumption,.int _ _⟩
   | nils =>rw [hxe] at hx h1;cases hnm:(erO x).ev e' <;> rw [hnm] at hx <;> cases hx;simp only [wEvLen] at h1;split at h1 <;> cases h1;exact ⟨by simp only [evLen];rw [if_pos];assumption,.int _ _⟩
   | nilm =>rw [hxe] at hx h1;cases hnm:(erO x).ev e' <;> rw [hnm] at hx <;> cases hx;simp only [wEvLen] at h1;split at h1 <;> cases h1;exact ⟨by simp only [evLen];rw [if_pos];assumption,.int _ _⟩
   | ro z es ex =>
    rw [hxe] at hx h1;simp only [wEvLen] at h1;split at h1 <;> cases h1;rcases hx.ro_inv with ⟨rfl,q⟩ | ⟨es',ex',q,_,hr,_⟩
    ·rw [q];exact ⟨by simp only [evLen];rw [if_pos];rfl;assumption,.int _ _⟩
    ·rw [q];exact ⟨by simp only [evLen,<- hr.1];rw [if_pos];assumption,.int _ _⟩
   | sl b z i len cap ex =>
    rw [hxe] at hx h1;simp only [wEvLen] at h1;split at h1 <;> cases h1;rcases hx.sl_inv with ⟨_,_,ex',q,_⟩ | ⟨_,_,_,rfl,_,q⟩
    ·rw [q];exact ⟨by simp only [evLen];rw [if_pos];assumption,.int _ _⟩
    ·rcases q with q | q
     ·rw [q];exact ⟨by simp only [evLen];rw [if_pos];rfl;assumption,.int _ _⟩
     ·rw [q];exact ⟨by simp only [evLen,List.length_nil];rw [if_pos];assumption,.int _ _⟩
   | map b =>
    rw [hxe] at hx h1;obtain ⟨q,hA,hV⟩:=hx.map_inv;simp only [wEvLen] at h1;split at h1
    ·rename_i hk;unfold wLenMap at h1;split at h1
     ·rename_i es hg;cases h1;obtain ⟨o',g1,es',rfl,hr⟩:=H.obj b _ hg hV;exact ⟨by simp only [q,evLen,if_pos hk,g1,lenMap,hr.1],.int _ _⟩
     ·cases h1
    ·cases h1
   | _=>rw [hxe] at h1;simp [wEvLen] at h1
  exact ⟨_,ov_of key.1,plain_ok H hn hm key.2⟩
 | cap x =>
  obtain ⟨v,u,h1,rfl⟩:=plainW_some hs;have hx:=he.opd (x:=x) ho;have h1:=ov_some' h1;have key:evCap ((erO x).ev e')=some v/\VW ρ V A v v:=by
   cases hxe:x.ev e with
   | nils =>rw [hxe] at hx h1;cases hnm:(erO x).ev e' <;> rw [hnm] at hx <;> cases hx;simp only [evCap] at h1;cases h1;exact ⟨rfl,.int _ _⟩
   | ro z es ex =>
    rw [hxe] at hx h1;simp only [evCap] at h1;split at h1 <;> cases h1;rename_i hex;rcases hx.ro_inv with ⟨rfl,q⟩ | ⟨es',ex',q,hxx,hr,_⟩
    ·rw [q];exact ⟨rfl,.int _ _⟩
    ·rw [q];exact ⟨by simp only [evCap,hxx hex,if_true,<- hr.1],.int _ _⟩
   | sl b z i len cap ex =>
    rw [hxe] at hx h1;simp only [evCap] at h1;split at h1 <;> cases h1;rename_i hex;rcases hx.sl_inv with ⟨_,_,ex',q,hxx⟩ | ⟨_,_,_,_,rfl,q⟩
    ·rw [q];exact ⟨by simp only [evCap,hxx hex,if_true],.int _ _⟩
    ·rcases q with q | q
     ·rw [q];exact ⟨rfl,.int _ _⟩
     ·rw [q];exact ⟨rfl,.int _ _⟩
   | _=>rw [hxe] at h1;simp [evCap] at h1
  exact ⟨_,ov_of key.1,plain_ok H hn hm key.2⟩
 | app z bytes zeros s x =>
  simp only [okOp,Bool.and_eq_true] at ho;simp only [stepW,wApp] at hs;have hz:=okL_vw (ρ:=ρ) (V:=V) (A:=A) z ho.1;have hss:=he.opd ho.2.1;have hx:=he.opd ho.2.2;split at hs
  ·rename_i hzz;split at hs
   ·rename_i k q hc;rw [hc] at hx;obtain ⟨j,h1,h2⟩:=ob_some hs;split at h2
    ·rename_i hb;obtain ⟨r',h3,h4⟩:=evApp_vw H hn hm hss (Rel2.replicate hz j) (λq e he x hx=>by rw [List.eq_of_mem_replicate he] at hx;exact allC q x hx) h2;exact ⟨r',by simp only [stepOp,erOp,sApp,if_pos hzz,hx.int_inv,h1,ob,if_pos hb,<- hz.1];exact h3,h4⟩
    ·cases h2
   ·cases hs
  ·rename_i hzz;split at hs
   ·rename_i hbf;obtain ⟨⟨xs,d⟩,h1,h2⟩:=ob_some hs;obtain ⟨xs',h3,h4,h5⟩:=elems_vw H hx h1;obtain ⟨r',h6,h7⟩:=evApp_vw H hn hm hss h4 h5 h2;exact ⟨r',by simp only [stepOp,erOp,sApp,if_neg hzz,if_pos hbf,<- hz.1,h3,ob];exact h6,h7⟩
   ·rename_i hbf;obtain ⟨⟨xs,d⟩,h1,h2⟩:=ob_some hs;obtain ⟨xs',h3,h4,h5⟩:=elems_vw H hx h1;obtain ⟨r',h6,h7⟩:=frzApp_vw H hn hm hss h4 h5 h2;exact ⟨r',by simp only [stepOp,erOp,sApp,if_neg hzz,if_neg hbf,<- hz.1,h3,ob];exact h6,h7⟩
 | cpy z d s =>
  simp only [okOp,Bool.and_eq_true] at ho;simp only [stepW,wCpy] at hs;have hd:=he.opd ho.1;have hss:=he.opd ho.2;obtain ⟨⟨xs,dd⟩,h1,h2⟩:=ob_some hs;obtain ⟨xs',h3,h4,h5⟩:=elems_vw H hss h1;simp only [stepOp,erOp,sCpy,h3,ob];cases hde:d.ev e with
  | nils =>rw [hde] at hd h2;cases hnm:(erO d).ev e' <;> rw [hnm] at hd <;> cases hd;simp only [wCopyIn,Option.some.injEq] at h2;subst h2;exact ⟨_,rfl,plain_ok H hn hm (.int _ _)⟩
  | sl b z' i len cap ex =>
   rw [hde] at hd h2;simp only [wCopyIn] at h2;split at h2
   ·rename_i hzz;subst hzz;split at h2
    ·rename_i hmin;cases h2;rcases hd.sl_inv with ⟨_,_,ex',q,_⟩ | ⟨hA,hV,rfl,rfl,rfl,q⟩
     ·exact ⟨_,by simp only [q,copyIn,if_true,<- h4.1,if_pos hmin],plain_ok H hn hm (.int _ _)⟩
     ·rcases q with q | q
      ·exact ⟨_,by simp only [q,copyIn],plain_ok H hn hm (.int _ _)⟩
      ·exact ⟨_,by simp only [q,copyIn],plain_ok H hn hm (.int _ _)⟩
    ·rename_i hmin;rcases hd.sl_inv with ⟨hA,hV,ex',q,_⟩ | ⟨_,_,_,rfl,_,_⟩
     ·unfold wCopyTo at h2;split at h2
      ·rename_i zb es mu dt hg;split at h2
       ·rename_i hc;cases h2;obtain ⟨o',g1,es',mu',rfl,gm,ge,gd⟩:=H.obj b _ hg hV;refine ⟨_,by simp only [q,copyIn,if_true,<- h4.1,if_neg hmin,g1,copyTo];rw [if_pos ⟨gm hc.1,hc.2.1,by rw [<- ge.1];exact hc.2.2⟩],?_,?_,wro hA hV⟩
        ·exact .int _ _
        ·refine HW.up (write_ok H hA hV ?_) hn hm;refine ⟨_,true,rfl,λ_=>rfl,(ge.take _).append ((h4.take _).append (ge.drop _)),λq e he x hx=>?_⟩;simp only [Bool.and_eq_true] at q;rcases List.mem_append.1 he with q3 | q3
         ·exact gd q.1 e (List.mem_of_mem_take q3) x hx
         ·rcases List.mem_append.1 q3 with q3 | q3
          ·exact h5 q.2 e (List.mem_of_mem_take q3) x hx
          ·exact gd q.1 e (List.mem_of_mem_drop q3) x hx
       ·cases h2
      ·cases h2
     ·simp at hmin
   ·cases h2
  | _=>rw [hde] at h2;simp [wCopyIn] at h2
 | clr z d =>
  simp only [okOp,Bool.and_eq_true] at ho;simp only [stepW,wClr] at hs;have hz:=okL_vw (ρ:=ρ) (V:=V) (A:=A) z ho.1;have hd:=he.opd ho.2;simp only [stepOp,erOp,sClr];cases hde:d.ev e with
  | nils =>rw [hde] at hd hs;cases hnm:(erO d).ev e' <;> rw [hnm] at hd <;> cases hd;simp only [wClrIn,Option.some.injEq] at hs;subst hs;exact ⟨_,rfl,plain_ok H hn hm (.mktup ⟨rfl,by simp⟩)⟩
  | sl b z' i len cap ex =>
   rw [hde] at hd hs;simp only [wClrIn] at hs;split at hs
   ·rename_i hzz;split at hs
    ·rename_i h0;cases hs;rcases hd.sl_inv with ⟨_,_,ex',q,_⟩ | ⟨hA,hV,rfl,rfl,rfl,q⟩
     ·exact ⟨_,by simp only [q,clrIn,<- hz.1,if_pos hzz,if_pos h0],plain_ok H hn hm (.mktup ⟨rfl,by simp⟩)⟩
     ·rcases q with q | q
      ·exact ⟨_,by simp only [q,clrIn],plain_ok H hn hm (.mktup ⟨rfl,by simp⟩)⟩
      ·exact ⟨_,by simp only [q,clrIn],plain_ok H hn hm (.mktup ⟨rfl,by simp⟩)⟩
    ·rename_i h0;rcases hd.sl_inv with ⟨hA,hV,ex',q,_⟩ | ⟨_,_,_,rfl,_,_⟩
     ·unfold wClrTo at hs;split at hs
      ·rename_i zb es mu dt hg;split at hs
       ·rename_i hc;cases hs;obtain ⟨o',g1,es',mu',rfl,gm,ge,gd⟩:=H.obj b _ hg hV;refine ⟨_,by simp only [q,clrIn,<- hz.1,if_pos hzz,if_neg h0,g1,clrTo];rw [if_pos ⟨gm hc.1,hc.2.1,by rw [<- ge.1];exact hc.2.2⟩],?_,?_,wro hA hV⟩
        ·exact .mktup ⟨rfl,by simp⟩
        ·refine HW.up (write_ok H hA hV ?_) hn hm;refine ⟨_,true,rfl,λ_=>rfl,(ge.take _).append ((Rel2.replicate hz len).append (ge.drop _)),λq e he x hx=>?_⟩;simp only [Bool.and_eq_true] at q;rcases List.mem_append.1 he with q3 | q3
         ·exact gd q.1 e (List.mem_of_mem_take q3) x hx
         ·rcases List.mem_append.1 q3 with q3 | q3
          ·rw [List.eq_of_mem_replicate q3] at hx;exact allC q.2 x hx
          ·exact gd q.1 e (List.mem_of_mem_drop q3) x hx
       ·cases hs
      ·cases hs
     ·simp at h0
   ·cases hs
  | _=>rw [hde] at hs;simp [wClrIn] at hs
 | mx x y =>
  simp only [okOp,Bool.and_eq_true] at ho;obtain ⟨v,u,h1,rfl⟩:=plainW_some hs;have hx:=he.opd ho.1;have hy:=he.opd ho.2;simp only [sMx] at h1;split at h1
  ·rename_i k a k' b hc1 hc2;rw [hc1] at hx;rw [hc2] at hy;split at h1
   ·rename_i hk;cases h1;exact ⟨_,by simp only [stepOp,erOp,sMx,hx.int_inv,hy.int_inv,if_pos hk],plain_ok H hn hm (.int _ _)⟩
   ·cases h1
  ·cases h1
 | mn x y =>
  simp only [okOp,Bool.and_eq_true] at ho;obtain ⟨v,u,h1,rfl⟩:=plainW_some hs;have hx:=he.opd ho.1;have hy:=he.opd ho.2;simp only [sMn] at h1;split at h1
  ·rename_i k a k' b hc1 hc2;rw [hc1] at hx;rw [hc2] at hy;split at h1
   ·rename_i hk;cases h1;exact ⟨_,by simp only [stepOp,erOp,sMn,hx.int_inv,hy.int_inv,if_pos hk],plain_ok H hn hm (.int _ _)⟩
   ·cases h1
  ·cases h1
 | call f args=>simp [stepW] at hs
 | callv g args=>simp [stepW] at hs
 | fail=>simp [stepW] at hs
end
end Go.Pw
end
section
set_option linter.unusedSimpArgs false
set_option linter.unusedVariables false
namespace Go.Pw
open Go Go.Pav
section
variable {ρ:Nat->Nat} {V A:Nat->Prop} {h:WHeap} {h':Heap}
theorem mapO_of_rel {α β:Type} {R:α->β->Prop} {f:α->Option α} {g:β->Option β} {T:α->β->Prop} (hf:∀ x y,R x y->∀ x',f x=some x'->∃ y',g y=some y'/\T x' y') :
 ∀ {l:List α} {l':List β} {r:List α},Rel2 R l l'->mapO f l=some r->∃ r',mapO g l'=some r'/\Rel2 T r r':=by
 intro l;induction l with
 | nil=>intro l' r hr h;rw [hr.inv_nil];simp only [mapO,Option.some.injEq] at h;subst h;exact ⟨[],rfl,.nil⟩
 | cons a l ih =>intro l' r hr h;obtain ⟨b,t,rfl,h1,h2⟩:=hr.inv_cons;simp only [mapO] at h |-;obtain ⟨x',h3,h⟩:=ob_some h;obtain ⟨xs',h4,rfl⟩:=om_some h;obtain ⟨y',h5,h6⟩:=hf _ _ h1 _ h3;obtain ⟨ys',h7,h8⟩:=ih h2 h4;exact ⟨y'::ys',by rw [h5,h7];rfl,.cons h6 h8⟩
theorem frz_isC {x u:AV} (hx:VW ρ V A x u) (hc:isC x=true) (n:Nat):frz h' (n+1) u=some u:=by
 cases hx with
 | fn f cs cs' hl hr =>
  cases cs with
  | nil =>have:cs'=[]:=List.length_eq_zero_iff.1 (by simpa using hl.symm);subst this;rfl
  | cons a r=>simp [isC] at hc
 | undef=>simp [isC] at hc
 | ptr=>simp [isC] at hc
 | sl=>simp [isC] at hc
 | slv=>simp [isC] at hc
 | map=>simp [isC] at hc
 | agg=>simp [isC] at hc
 | tup=>simp [isC] at hc
 | _=>rfl
theorem mapO_id {α:Type} {f:α->Option α}:∀ {l:List α},(∀ x ∈ l,f x=some x)->mapO f l=some l:=by
 intro l;induction l with
 | nil=>intro _;rfl
 | cons a l ih =>intro h;simp only [mapO,h a List.mem_cons_self,ob,ih (λx hx=>h x (List.mem_cons_of_mem _ hx)),om]
theorem frz_vw (H:HW ρ V A h h'):∀ (n:Nat) (v u v':AV),VW ρ V A v u->frzW h n v=some v'->∃ u',frz h' n u=some u'/\VD ρ V v' u':=by
 intro n;induction n with
 | zero=>intro v u v' _ hf;simp [frzW] at hf
 | succ n ih =>
  intro v u v' hv hf;cases v with
  | undef=>simp [frzW] at hf
  | bool b=>simp only [frzW] at hf;cases hf;rw [hv.bool_inv];exact ⟨_,rfl,.bool b⟩
  | int k x=>simp only [frzW] at hf;cases hf;rw [hv.int_inv];exact ⟨_,rfl,.int k x⟩
  | str s=>simp only [frzW] at hf;cases hf;rw [hv.str_inv];exact ⟨_,rfl,.str s⟩
  | nilp=>simp only [frzW] at hf;cases hf;cases hv;exact ⟨_,rfl,.nilp⟩
  | nils=>simp only [frzW] at hf;cases hf;cases hv;exact ⟨_,rfl,.nils⟩
  | nilm=>simp only [frzW] at hf;cases hf;cases hv;exact ⟨_,rfl,.nilm⟩
  | nilf=>simp only [frzW] at hf;cases hf;cases hv;exact ⟨_,rfl,.nilf⟩
  | ro z es ex =>
   simp only [frzW] at hf;cases hf;have hd:VW ρ V (λ_=>False) (.ro z es ex) u:=hv.isC rfl;rcases hv.ro_inv with ⟨rfl,rfl⟩ | ⟨es',ex',rfl,_,_,_⟩
   ·exact ⟨_,rfl,hd⟩
   ·exact ⟨_,rfl,hd⟩
  | rop cs =>simp only [frzW] at hf;cases hf;have hd:VW ρ V (λ_=>False) (.rop cs) u:=hv.isC rfl;obtain ⟨cs',rfl,_⟩:=hv.rop_inv;exact ⟨_,rfl,hd⟩
  | ptr b i o =>
   simp only [frzW] at hf;split at hf
   ·rename_i zb es mu dt hg;obtain ⟨rfl,hA,hV⟩:=hv.ptr_inv;obtain ⟨o',g1,es',mu',rfl,_,ge,gd⟩:=H.obj b _ hg hV;obtain ⟨cs,hcs,hf⟩:=ob_some hf;obtain ⟨cs',hcs',hce⟩:=ge.get hcs;simp only [frz,g1,hcs',Pav.ob];split at hf
    ·rename_i hdt;split at hf
     ·cases hf
     ·rename_i hn0;cases hf;obtain ⟨k,rfl⟩:∃ k,n=k+1:=⟨n - 1,by omega⟩;have hsub:∀ x ∈ cs.drop o,isC x=true:=λx hx=>gd hdt cs (List.mem_of_getElem? hcs) x (List.mem_of_mem_drop hx);have grel:=hce.drop o;have hid:mapO (frz h' (k+1)) (cs'.drop o)=some (cs'.drop o):=by refine mapO_id λx' hx'=>?_;obtain ⟨c,hc,q4⟩:=List.getElem_of_mem hx';obtain ⟨x,q5,q6⟩:=grel.get' (List.getElem?_eq_getElem hc);rw [q4] at q6;exact frz_isC q6 (hsub x (List.mem_of_getElem? q5)) k
      refine ⟨_,by rw [hid];rfl,?_⟩;exact VW.mkrop (grel.mono λx x' hx hxx=>hxx.isC (hsub x hx))
    ·obtain ⟨cs2,h1,rfl⟩:=om_some hf;obtain ⟨r',h2,h3⟩:=mapO_of_rel (λa b hab a' ha'=>ih a b a' hab ha') (hce.drop o) h1;exact ⟨_,by rw [h2];rfl,VW.mkrop h3⟩
   ·cases hf
  | map b=>simp [frzW] at hf
  | sl b z i len cap ex =>
   simp only [frzW] at hf;split at hf
   ·rename_i zb es mu dt hg;rcases hv.sl_inv with ⟨hA,hV,ex',rfl,hx⟩ | ⟨hA,hV,rfl,rfl,rfl,hu⟩
    ·obtain ⟨o',g1,es',mu',rfl,_,ge,gd⟩:=H.obj b _ hg hV;simp only [frz,g1];split at hf
     ·rename_i hdt;split at hf
      ·cases hf
      ·rename_i hn0;obtain ⟨hlen,hf⟩:=og_some hf;cases hf;simp only [decide_eq_true_eq] at hlen;obtain ⟨k,rfl⟩:∃ k,n=k+1:=⟨n - 1,by omega⟩;have hsub:∀ e ∈ (es.drop i).take len,∀ x ∈ e,isC x=true:=λe he x hx=>gd hdt e (List.mem_of_mem_drop (List.mem_of_mem_take he)) x hx;have grel:=(ge.drop i).take len;have hid:mapO (mapO (frz h' (k+1))) ((es'.drop i).take len)=some ((es'.drop i).take len):=by refine mapO_id λe' he'=>mapO_id λx' hx'=>?_;obtain ⟨a,ha,q1⟩:=List.getElem_of_mem he';obtain ⟨e,q2,q3⟩:=grel.get' (List.getElem?_eq_getElem ha);rw [q1] at q3;obtain ⟨c,hc,q4⟩:=List.getElem_of_mem hx';obtain ⟨x,q5,q6⟩:=q3.get' (List.getElem?_eq_getElem hc);rw [q4] at q6;exact frz_isC q6 (hsub e (List.mem_of_getElem? q2) x (List.mem_of_getElem? q5)) k
       refine ⟨_,by rw [hid];simp only [ob,og,<- grel.1,hlen,decide_true];rfl,?_⟩;refine VW.mkro (grel.mono λe e' he hee=>hee.mono λx x' hx hxx=>hxx.isC (hsub e he x hx)) hsub ?_;simp only [Bool.and_eq_true];exact λq=>⟨hx q.1,q.2⟩
     ·obtain ⟨es2,h1,hf⟩:=ob_some hf;obtain ⟨hlen,hf⟩:=og_some hf;cases hf;simp only [Bool.and_eq_true,decide_eq_true_eq,List.all_eq_true] at hlen;obtain ⟨r',h2,h3⟩:=mapO_of_rel (R:=Rel2 (VW ρ V A)) (g:=mapO (frz h' n)) (T:=Rel2 (VD ρ V)) (λx y hxy x' hx'=>mapO_of_rel (λa b hab a' ha'=>ih a b a' hab ha') hxy hx') ((ge.drop i).take len) h1;refine ⟨_,by rw [h2];simp only [ob,og,<- h3.1,hlen.1,decide_true];rfl,?_⟩;refine VW.mkro h3 hlen.2 ?_;simp only [Bool.and_eq_true];exact λq=>⟨hx q.1,q.2⟩
    ·obtain ⟨z2,mu2,dt2,q⟩:=H.virt b _ hg hV;cases q;have hv':∃ ex2,v'=.ro z [] ex2:=by
      split at hf
      ·split at hf
       ·cases hf
       ·obtain ⟨_,hf⟩:=og_some hf;cases hf;exact ⟨_,rfl⟩
      ·obtain ⟨es2,h1,hf⟩:=ob_some hf;simp only [List.drop_nil,List.take_nil,mapO,Option.some.injEq] at h1;subst h1;obtain ⟨_,hf⟩:=og_some hf;cases hf;exact ⟨_,rfl⟩
     obtain ⟨ex2,rfl⟩:=hv';rcases hu with rfl | rfl
     ·exact ⟨_,rfl,.ronil _ _⟩
     ·exact ⟨_,rfl,VW.mkro .nil (λ_ h=>by cases h) (λ_=>rfl)⟩
   ·cases hf
  | fn f caps =>obtain ⟨cs',rfl,hr⟩:=hv.fn_inv;simp only [frzW] at hf;obtain ⟨cs,h1,rfl⟩:=om_some hf;obtain ⟨r',h2,h3⟩:=mapO_of_rel (λa b hab a' ha'=>ih a b a' hab ha') hr h1;exact ⟨_,by simp only [frz,h2];rfl,VW.mkfn h3⟩
  | agg caps =>obtain ⟨cs',rfl,hr⟩:=hv.agg_inv;simp only [frzW] at hf;obtain ⟨cs,h1,rfl⟩:=om_some hf;obtain ⟨r',h2,h3⟩:=mapO_of_rel (λa b hab a' ha'=>ih a b a' hab ha') hr h1;exact ⟨_,by simp only [frz,h2];rfl,VW.mkagg h3⟩
  | tup caps =>obtain ⟨cs',rfl,hr⟩:=hv.tup_inv;simp only [frzW] at hf;obtain ⟨cs,h1,rfl⟩:=om_some hf;obtain ⟨r',h2,h3⟩:=mapO_of_rel (λa b hab a' ha'=>ih a b a' hab ha') hr h1;exact ⟨_,by simp only [frz,h2];rfl,VW.mktup h3⟩
theorem reach_isC {x u:AV} (hx:VW ρ V A x u) (hc:isC x=true):∀ n,reach h' n u=[]:=by
 intro n;cases n with
 | zero=>rfl
 | succ n =>
  cases hx with
  | fn f cs cs' hl hr =>
   cases cs with
   | nil =>have:cs'=[]:=List.length_eq_zero_iff.1 (by simpa using hl.symm);subst this;rfl
   | cons a r=>simp [isC] at hc
  | undef=>simp [isC] at hc
  | ptr=>simp [isC] at hc
  | sl=>simp [isC] at hc
  | slv=>simp [isC] at hc
  | map=>simp [isC] at hc
  | agg=>simp [isC] at hc
  | tup=>simp [isC] at hc
  | _=>rfl
theorem reach_vw (H:HW ρ V A h h'):∀ (n:Nat) (v u v':AV),VW ρ V A v u->frzW h n v=some v'->∀ b' ∈ reach h' n u,∃ b ∈ reachW h n v,b'=ρ b/\¬ V b/\A b/\∃ z es mu dt,get h b=some (.cells z es mu dt):=by
 intro n;induction n with
 | zero=>intro v u v' _ _ b hb;simp [reach] at hb
 | succ n ih =>
  have lst:∀ {l l' r:List AV},Rel2 (VW ρ V A) l l'->mapO (frzW h n) l=some r->∀ b' ∈ l'.flatMap (reach h' n),∃ b ∈ l.flatMap (reachW h n),b'=ρ b/\¬ V b/\A b/\∃ z es mu dt,get h b=some (.cells z es mu dt):=by intro l l' r hr hm b' hb';simp only [List.mem_flatMap] at hb' |-;obtain ⟨u,hu,hb'⟩:=hb';obtain ⟨j,hj,q1⟩:=List.getElem_of_mem hu;obtain ⟨v,q2,q3⟩:=hr.get' (List.getElem?_eq_getElem hj);rw [q1] at q3;obtain ⟨v',_,q4⟩:=(mapO_some hm).2 j v q2;obtain ⟨b,q5,q6⟩:=ih v u v' q3 q4 b' hb';exact ⟨b,⟨v,List.mem_of_getElem? q2,q5⟩,q6⟩
  intro v u v' hv hf b' hb';cases v with
  | undef=>simp [frzW] at hf
  | bool b=>rw [hv.bool_inv] at hb';simp [reach] at hb'
  | int k x=>rw [hv.int_inv] at hb';simp [reach] at hb'
  | str s=>rw [hv.str_inv] at hb';simp [reach] at hb'
  | nilp=>cases hv;simp [reach] at hb'
  | nils=>cases hv;simp [reach] at hb'
  | nilm=>cases hv;simp [reach] at hb'
  | nilf=>cases hv;simp [reach] at hb'
  | ro z es ex=>rw [reach_isC hv rfl] at hb';cases hb'
  | rop cs=>rw [reach_isC hv rfl] at hb';cases hb'
  | ptr b i o =>
   simp only [frzW] at hf;split at hf
   ·rename_i zb es mu dt hg;obtain ⟨rfl,hA,hV⟩:=hv.ptr_inv;obtain ⟨o',g1,es',mu',rfl,_,ge,gd⟩:=H.obj b _ hg hV;obtain ⟨cs,hcs,hf⟩:=ob_some hf;obtain ⟨cs',hcs',hce⟩:=ge.get hcs;simp only [reach,g1,hcs',Option.getD_some,List.mem_cons] at hb';rcases hb' with rfl | hb'
    ·exact ⟨b,by simp [reachW],rfl,hV,hA,_,_,_,_,hg⟩
    ·split at hf
     ·rename_i hdt;exfalso;simp only [List.mem_flatMap] at hb';obtain ⟨x',hx',hb'⟩:=hb';obtain ⟨c,hc,q4⟩:=List.getElem_of_mem hx';obtain ⟨x,q5,q6⟩:=(hce.drop o).get' (List.getElem?_eq_getElem hc);rw [q4] at q6;have:=gd hdt cs (List.mem_of_getElem? hcs) x (List.mem_of_mem_drop (List.mem_of_getElem? q5));rw [reach_isC q6 this] at hb';cases hb'
     ·rename_i hdt;obtain ⟨cs2,h1,rfl⟩:=om_some hf;obtain ⟨b2,q5,q6⟩:=lst (hce.drop o) h1 b' hb';refine ⟨b2,?_,q6⟩;simp only [reachW,hg,hcs,Option.getD_some,List.mem_cons];right;rw [if_neg hdt];exact q5
   ·cases hf
  | map b=>simp [frzW] at hf
  | sl b z i len cap ex =>
   simp only [frzW] at hf;split at hf
   ·rename_i zb es mu dt hg;rcases hv.sl_inv with ⟨hA,hV,ex',rfl,hx⟩ | ⟨hA,hV,rfl,rfl,rfl,hu⟩
    ·obtain ⟨o',g1,es',mu',rfl,_,ge,gd⟩:=H.obj b _ hg hV;simp only [reach,g1,List.mem_cons] at hb';rcases hb' with rfl | hb'
     ·exact ⟨b,by simp [reachW],rfl,hV,hA,_,_,_,_,hg⟩
     ·split at hf
      ·rename_i hdt;exfalso;simp only [List.mem_flatMap] at hb';obtain ⟨e',he',x',hx',hb'⟩:=hb';obtain ⟨a,ha,q1⟩:=List.getElem_of_mem he';obtain ⟨e,q2,q3⟩:=((ge.drop i).take len).get' (List.getElem?_eq_getElem ha);rw [q1] at q3;obtain ⟨c,hc,q4⟩:=List.getElem_of_mem hx';obtain ⟨x,q5,q6⟩:=q3.get' (List.getElem?_eq_getElem hc);rw [q4] at q6;have:=gd hdt e (List.mem_of_mem_drop (List.mem_of_mem_take (List.mem_of_getElem? q2))) x (List.mem_of_getElem? q5);rw [reach_isC q6 this] at hb';cases hb'
      ·rename_i hdt;obtain ⟨es2,h1,hf⟩:=ob_some hf;simp only [List.mem_flatMap] at hb';obtain ⟨e',he',x',hx',hb'⟩:=hb';obtain ⟨a,ha,q1⟩:=List.getElem_of_mem he';obtain ⟨e,q2,q3⟩:=((ge.drop i).take len).get' (List.getElem?_eq_getElem ha);rw [q1] at q3;obtain ⟨e2,_,q4⟩:=(mapO_some h1).2 a e q2;obtain ⟨b2,q5,q6⟩:=lst q3 q4 b' (by simp only [List.mem_flatMap];exact ⟨x',hx',hb'⟩);refine ⟨b2,?_,q6⟩;simp only [reachW,hg,List.mem_cons];right;rw [if_neg hdt];simp only [List.mem_flatMap] at q5 |-;exact ⟨e,List.mem_of_getElem? q2,q5⟩
    ·rcases hu with rfl | rfl <;> simp [reach] at hb'
   ·cases hf
  | fn f caps =>obtain ⟨cs',rfl,hr⟩:=hv.fn_inv;simp only [frzW] at hf;obtain ⟨cs,h1,rfl⟩:=om_some hf;simp only [reach] at hb';obtain ⟨b,q⟩:=lst hr h1 b' hb';exact ⟨b,by simpa only [reachW] using q⟩
  | agg caps =>obtain ⟨cs',rfl,hr⟩:=hv.agg_inv;simp only [frzW] at hf;obtain ⟨cs,h1,rfl⟩:=om_some hf;simp only [reach] at hb';obtain ⟨b,q⟩:=lst hr h1 b' hb';exact ⟨b,by simpa only [reachW] using q⟩
  | tup caps =>obtain ⟨cs',rfl,hr⟩:=hv.tup_inv;simp only [frzW] at hf;obtain ⟨cs,h1,rfl⟩:=om_some hf;simp only [reach] at hb';obtain ⟨b,q⟩:=lst hr h1 b' hb';exact ⟨b,by simpa only [reachW] using q⟩
theorem hasRef_vw:∀ (n:Nat) (v u:AV),VD ρ V v u->hasRef n u=true->hasRefW n v=true:=by
 intro n;induction n with
 | zero=>intro v u _ _;rfl
 | succ n ih =>
  have lst:∀ {l l':List AV},Rel2 (VD ρ V) l l'->l'.any (hasRef n)=true->l.any (hasRefW n)=true:=by intro l l' hr h;simp only [List.any_eq_true] at h |-;obtain ⟨u,hu,h⟩:=h;obtain ⟨j,hj,q1⟩:=List.getElem_of_mem hu;obtain ⟨v,q2,q3⟩:=hr.get' (List.getElem?_eq_getElem hj);rw [q1] at q3;exact ⟨v,List.mem_of_getElem? q2,ih v u q3 h⟩
  intro v u hv h;cases hv with
  | undef u=>rfl
  | fn f cs cs' hl hr=>simp only [hasRef] at h;simp only [hasRefW];exact lst ⟨hl,hr⟩ h
  | agg cs cs' hl hr=>simp only [hasRef] at h;simp only [hasRefW];exact lst ⟨hl,hr⟩ h
  | tup cs cs' hl hr=>simp only [hasRef] at h;simp only [hasRefW];exact lst ⟨hl,hr⟩ h
  | ro=>rfl
  | rop=>rfl
  | ronil=>rfl
  | ptr _ _ _ hA=>exact hA.elim
  | sl _ _ _ _ _ _ _ hA=>exact hA.elim
  | slv _ _ _ _ hA=>exact hA.elim
  | map _ hA=>exact hA.elim
  | _=>simp [hasRef] at h
theorem marks_ok (H:HW ρ V A h h'):∀ (L:List Nat) (L':List Nat),(∀ b' ∈ L',∃ b ∈ L,b'=ρ b/\¬ V b/\A b/\∃ z es mu dt,get h b=some (.cells z es mu dt)) ->
 HW ρ V A (applyW h (markFrozenW h L)) (applyUpd h' (markFrozen h' L'))/\∀ b' ∈ (markFrozen h' L').map (·.1),∃ b ∈ (markFrozenW h L).map (·.1),b'=ρ b/\¬ V b/\A b:=by
 have getW:∀ (h0:WHeap) (L:List Nat) (g:WHeap),∀ c,get (applyW g (markFrozenW h0 L)) c=if c ∈ L then (match get h0 c with | some (.cells z es _ dt)=>some (.cells z es false dt) | _=>get g c) else get g c:=by
  intro h0 L;induction L with
  | nil=>intro g c;simp [markFrozenW,applyW]
  | cons b L ih =>
   intro g c;simp only [markFrozenW];split
   ·rename_i z es mu dt hg;simp only [applyW,updOneW,ih,get_put,List.mem_cons];by_cases e:c=b
    ·subst e;simp only [hg,if_true,true_or];split <;> rfl
    ·simp only [e,false_or,if_neg (Ne.symm e)]
   ·rename_i hg;rw [ih];simp only [List.mem_cons];by_cases e:c=b
    ·subst e;simp only [true_or,if_true];have:(match get h0 c with | some (.cells z es _ dt)=>some (WObj.cells z es false dt) | _=>get g c)=get g c:=by
      split
      ·rename_i z es mu dt hg2;exact absurd hg2 (hg z es mu dt)
      ·rfl
     first
      | (rw [this];split <;> rfl)
      | (split <;> rfl)
    ·simp only [e,false_or]
 have getP:∀ (h0:Heap) (L:List Nat) (g:Heap),∀ c,get (applyUpd g (markFrozen h0 L)) c=if c ∈ L then (match get h0 c with | some (.cells z es _)=>some (.cells z es false) | _=>get g c) else get g c:=by
  intro h0 L;induction L with
  | nil=>intro g c;simp [markFrozen,applyUpd]
  | cons b L ih =>
   intro g c;simp only [markFrozen];split
   ·rename_i z es mu hg;simp only [applyUpd,updOne,ih,get_put,List.mem_cons];by_cases e:c=b
    ·subst e;simp only [hg,if_true,true_or];split <;> rfl
    ·simp only [e,false_or,if_neg (Ne.symm e)]
   ·rename_i hg;rw [ih];simp only [List.mem_cons];by_cases e:c=b
    ·subst e;simp only [true_or,if_true];have:(match get h0 c with | some (.cells z es _)=>some (AObj.cells z es false) | _=>get g c)=get g c:=by
      split
      ·rename_i z es mu hg2;exact absurd hg2 (hg z es mu)
      ·rfl
     first
      | (rw [this];split <;> rfl)
      | (split <;> rfl)
    ·simp only [e,false_or]
 have memW:∀ (h0:WHeap) (L:List Nat) (b:Nat),b ∈ L->(∃ z es mu dt,get h0 b=some (.cells z es mu dt))->b ∈ (markFrozenW h0 L).map (·.1):=by
  intro h0 L b;induction L with
  | nil=>intro hb;cases hb
  | cons a L ih =>
   intro hb hg;simp only [markFrozenW];rcases List.mem_cons.1 hb with rfl | hb
   ·obtain ⟨z,es,mu,dt,hg⟩:=hg;rw [hg];simp
   ·have:=ih hb hg;split
    ·simp only [List.map_cons,List.mem_cons];exact .inr this
    ·exact this
 intro L L' hL;refine ⟨⟨λc o hc=>?_,λc o hc hv=>?_,λc o hc hv=>?_,H.sub,H.inj⟩,λb' hb'=>?_⟩
 ·rw [getW] at hc;split at hc
  ·split at hc
   ·rename_i hg;exact H.dom c _ hg
   ·exact H.dom c o hc
  ·exact H.dom c o hc
 ·rw [getW] at hc;split at hc
  ·split at hc
   ·rename_i hg;obtain ⟨z,mu,dt,q⟩:=H.virt c _ hg hv;cases q;cases hc;exact ⟨_,_,_,rfl⟩
   ·exact H.virt c o hc hv
  ·exact H.virt c o hc hv
 ·have hA:A c:=by
   rw [getW] at hc;split at hc
   ·split at hc
    ·rename_i hg;exact H.dom c _ hg
    ·exact H.dom c o hc
   ·exact H.dom c o hc
  have inv:ρ c ∈ L'->c ∈ L:=by intro q;obtain ⟨b,q1,q2,q3,q4,_⟩:=hL _ q;rw [H.inj c b hA q4 hv q3 q2];exact q1
  rw [getW] at hc;by_cases hcL:c ∈ L
  ·rw [if_pos hcL] at hc;split at hc
   ·rename_i z es mu dt hg;cases hc;obtain ⟨o',g1,es',mu',rfl,gm,ge,gd⟩:=H.obj c _ hg hv;rw [getP];split
    ·rw [g1];exact ⟨_,rfl,es',false,rfl,id,ge,gd⟩
    ·exact ⟨_,g1,es',mu',rfl,(λq=>by cases q),ge,gd⟩
   ·rename_i hng;obtain ⟨o',g1,g2⟩:=H.obj c o hc hv;refine ⟨o',?_,g2⟩;rw [getP];split
    ·rw [g1];cases o with
     | cells z es mu dt=>exact absurd hc (hng z es mu dt)
     | map es=>obtain ⟨es',rfl,_⟩:=g2;rfl
     | iter s p=>cases g2;rfl
    ·exact g1
  ·rw [if_neg hcL] at hc;obtain ⟨o',g1,g2⟩:=H.obj c o hc hv;exact ⟨o',by rw [getP,if_neg (λq=>hcL (inv q))];exact g1,g2⟩
 ·have key:∀ (h0:Heap) (L:List Nat) (b:Nat),b ∈ (markFrozen h0 L).map (·.1)->b ∈ L/\∃ z es mu,get h0 b=some (.cells z es mu):=by
   intro h0 L b;induction L with
   | nil=>intro hb;simp [markFrozen] at hb
   | cons a L ih =>
    intro hb;simp only [markFrozen] at hb;split at hb
    ·rename_i z es mu hg;simp only [List.map_cons,List.mem_cons] at hb;rcases hb with rfl | hb
     ·exact ⟨by simp,_,_,_,hg⟩
     ·exact ⟨List.mem_cons_of_mem _ (ih hb).1,(ih hb).2⟩
    ·exact ⟨List.mem_cons_of_mem _ (ih hb).1,(ih hb).2⟩
  obtain ⟨q1,z,es,mu,q2⟩:=key h' L' b' hb';obtain ⟨b,q3,rfl,q5,q6,q7⟩:=hL b' q1;exact ⟨b,memW h L b q3 q7,rfl,q5,q6⟩
end
end Go.Pw
end
section
set_option linter.unusedSimpArgs false
set_option linter.unusedVariables false
namespace Go.Pw
open Go Go.Pav
section
variable {ρ ρ2:Nat->Nat} {V A V2 A2:Nat->Prop} {b nid b' mid:Nat}
theorem handL_of {R:AV->AV->Prop}:∀ (l l':List AV),l.length=l'.length->(∀ (j:Nat) (x x':AV),l[j]?=some x->l'[j]?=some x'->∀ y,hand b nid x=some y->∃ y',hand b' mid x'=some y'/\R y y') ->
 ∀ r,handL b nid l=some r->∃ r',handL b' mid l'=some r'/\Rel2 R r r':=by
 intro l;induction l with
 | nil =>intro l' hl _ r hr;simp only [handL,Option.some.injEq] at hr;subst hr;have:l'=[]:=List.length_eq_zero_iff.1 hl.symm;subst this;exact ⟨[],rfl,.nil⟩
 | cons a l ih =>
  intro l' hl hh r hr;cases l' with
  | nil=>simp at hl
  | cons a' l' =>simp only [handL] at hr;obtain ⟨y,h1,hr⟩:=ob_some hr;obtain ⟨ys,h2,rfl⟩:=om_some hr;obtain ⟨y',h3,h4⟩:=hh 0 a a' Qw Qw y h1;obtain ⟨ys',h5,h6⟩:=ih l' (by simpa using hl) (λj x x' p q=>hh (j+1) x x' (by simpa using p) (by simpa using q)) ys h2;exact ⟨y'::ys',by simp only [handL,h3,h5,ob,om],.cons h4 h6⟩
theorem hand_vw (hb:A b->(¬ V b/\b'=ρ b/\A2 nid/\¬ V2 nid/\ρ2 nid=mid)\/(V b/\A2 nid/\V2 nid)) {v u:AV} (hv:VW ρ V A v u):∀ v',hand b nid v=some v'->∃ u',hand b' mid u=some u'/\VW ρ2 V2 A2 v' u':=by
 have data:∀ {A:Nat->Prop} {x y:AV},isC x=true->VW ρ V A x y->VW ρ2 V2 A2 x y:=λhx h=>h.isC hx;induction hv with
 | undef v=>intro v' h;simp [hand] at h
 | bool t=>intro v' h;simp only [hand] at h;cases h;exact ⟨_,rfl,.bool t⟩
 | int k n=>intro v' h;simp only [hand] at h;cases h;exact ⟨_,rfl,.int k n⟩
 | str s=>intro v' h;simp only [hand] at h;cases h;exact ⟨_,rfl,.str s⟩
 | nilp=>intro v' h;simp only [hand] at h;cases h;exact ⟨_,rfl,.nilp⟩
 | nils=>intro v' h;simp only [hand] at h;cases h;exact ⟨_,rfl,.nils⟩
 | nilm=>intro v' h;simp only [hand] at h;cases h;exact ⟨_,rfl,.nilm⟩
 | nilf=>intro v' h;simp only [hand] at h;cases h;exact ⟨_,rfl,.nilf⟩
 | ronil z ex=>intro v' h;simp only [hand] at h;cases h;exact ⟨_,rfl,.ronil z ex⟩
 | ro z es es' ex ex' hc hl hx he hr _=>intro v' h;simp only [hand] at h;cases h;exact ⟨_,rfl,data rfl (VW.ro (A:=A) z es es' ex ex' hc hl hx he hr)⟩
 | rop cs cs' hl hr _=>intro v' h;simp only [hand] at h;cases h;exact ⟨_,rfl,data rfl (VW.rop (A:=A) cs cs' hl hr)⟩
 | ptr c i o hA hV =>
  intro v' h;simp only [hand] at h;split at h
  ·rename_i e;cases h;subst e;rcases hb hA with ⟨q1,q2,q3,q4,q5⟩ | ⟨q1,_⟩
   ·refine ⟨.ptr mid i o,by simp only [hand,q2,if_true],?_⟩;rw [<- q5];exact .ptr nid i o q3 q4
   ·exact absurd q1 hV
  ·cases h
 | sl c z i len cap ex ex' hA hV hx =>
  intro v' h;simp only [hand] at h;split at h
  ·rename_i e;cases h;subst e;rcases hb hA with ⟨q1,q2,q3,q4,q5⟩ | ⟨q1,_⟩
   ·refine ⟨.sl mid z i len cap ex',by simp only [hand,q2,if_true],?_⟩;rw [<- q5];exact .sl nid z i len cap ex ex' q3 q4 hx
   ·exact absurd q1 hV
  ·cases h
 | slv c z ex v hA hV hv =>
  intro v' h;simp only [hand] at h;split at h
  ·rename_i e;cases h;subst e;rcases hb hA with ⟨q1,_⟩ | ⟨_,q2,q3⟩
   ·exact absurd hV q1
   ·refine ⟨v,?_,.slv nid z ex v q2 q3 hv⟩;rcases hv with rfl | rfl <;> rfl
  ·cases h
 | map c hA hV=>intro v' h;simp [hand] at h
 | fn f cs cs' hl hr ih =>intro v' h;simp only [hand] at h;obtain ⟨r,h1,rfl⟩:=om_some h;obtain ⟨r',h2,h3⟩:=handL_of cs cs' hl (λj x x' p q y hy=>ih j x x' p q hb y hy) r h1;exact ⟨.fn f r',by simp only [hand,h2,om],.mkfn h3⟩
 | agg cs cs' hl hr ih =>intro v' h;simp only [hand] at h;obtain ⟨r,h1,rfl⟩:=om_some h;obtain ⟨r',h2,h3⟩:=handL_of cs cs' hl (λj x x' p q y hy=>ih j x x' p q hb y hy) r h1;exact ⟨.agg r',by simp only [hand,h2,om],.mkagg h3⟩
 | tup cs cs' hl hr ih =>intro v' h;simp only [hand] at h;obtain ⟨r,h1,rfl⟩:=om_some h;obtain ⟨r',h2,h3⟩:=handL_of cs cs' hl (λj x x' p q y hy=>ih j x x' p q hb y hy) r h1;exact ⟨.tup r',by simp only [hand,h2,om],.mktup h3⟩
theorem own_vw (hA:A b) (hV:¬ V b) {v u:AV} (hv:VW ρ V A v u):∀ v',hand b nid v=some v'->(ownOf v=none/\ownOf u=none)\/(ownOf v=some b/\ownOf u=some (ρ b)):=by
 have lst:∀ (l l':List AV),l.length=l'.length->(∀ (j:Nat) (x x':AV),l[j]?=some x->l'[j]?=some x'->∀ y,hand b nid x=some y->(ownOf x=none/\ownOf x'=none)\/(ownOf x=some b/\ownOf x'=some (ρ b))) ->
  ∀ r,handL b nid l=some r->(ownOfL l=none/\ownOfL l'=none)\/(ownOfL l=some b/\ownOfL l'=some (ρ b)):=by
  intro l;induction l with
  | nil =>intro l' hl _ r hr;have:l'=[]:=List.length_eq_zero_iff.1 hl.symm;subst this;exact .inl ⟨rfl,rfl⟩
  | cons a l ih =>
   intro l' hl hh r hr;cases l' with
   | nil=>simp at hl
   | cons a' l' =>
    simp only [handL] at hr;obtain ⟨y,h1,hr⟩:=ob_some hr;obtain ⟨ys,h2,rfl⟩:=om_some hr;rcases hh 0 a a' Qw Qw y h1 with ⟨q1,q2⟩ | ⟨q1,q2⟩
    ·rcases ih l' (by simpa using hl) (λj x x' p q=>hh (j+1) x x' (by simpa using p) (by simpa using q)) ys h2 with ⟨q3,q4⟩ | ⟨q3,q4⟩
     ·exact .inl ⟨by simp only [ownOfL,q1,q3],by simp only [ownOfL,q2,q4]⟩
     ·exact .inr ⟨by simp only [ownOfL,q1,q3],by simp only [ownOfL,q2,q4]⟩
    ·exact .inr ⟨by simp only [ownOfL,q1],by simp only [ownOfL,q2]⟩
 induction hv with
 | undef v=>intro v' h;simp [hand] at h
 | bool t=>intro v' h;exact .inl ⟨rfl,rfl⟩
 | int k n=>intro v' h;exact .inl ⟨rfl,rfl⟩
 | str s=>intro v' h;exact .inl ⟨rfl,rfl⟩
 | nilp=>intro v' h;exact .inl ⟨rfl,rfl⟩
 | nils=>intro v' h;exact .inl ⟨rfl,rfl⟩
 | nilm=>intro v' h;exact .inl ⟨rfl,rfl⟩
 | nilf=>intro v' h;exact .inl ⟨rfl,rfl⟩
 | ronil z ex=>intro v' h;exact .inl ⟨rfl,rfl⟩
 | ro z es es' ex ex' hc hl hx he hr _=>intro v' h;exact .inl ⟨rfl,rfl⟩
 | rop cs cs' hl hr _=>intro v' h;exact .inl ⟨rfl,rfl⟩
 | ptr c i o hA' hV' =>
  intro v' h;simp only [hand] at h;split at h
  ·rename_i e;subst e;exact .inr ⟨rfl,rfl⟩
  ·cases h
 | sl c z i len cap ex ex' hA' hV' hx =>
  intro v' h;simp only [hand] at h;split at h
  ·rename_i e;subst e;exact .inr ⟨rfl,rfl⟩
  ·cases h
 | slv c z ex v hA' hV' hv =>
  intro v' h;simp only [hand] at h;split at h
  ·rename_i e;subst e;exact absurd hV' hV
  ·cases h
 | map c hA' hV'=>intro v' h;simp [hand] at h
 | fn f cs cs' hl hr ih=>intro v' h;simp only [hand] at h;obtain ⟨r,h1,rfl⟩:=om_some h;exact lst cs cs' hl (λj x x' p q y hy=>ih j x x' p q hA y hy) r h1
 | agg cs cs' hl hr ih=>intro v' h;simp only [hand] at h;obtain ⟨r,h1,rfl⟩:=om_some h;exact lst cs cs' hl (λj x x' p q y hy=>ih j x x' p q hA y hy) r h1
 | tup cs cs' hl hr ih=>intro v' h;simp only [hand] at h;obtain ⟨r,h1,rfl⟩:=om_some h;exact lst cs cs' hl (λj x x' p q y hy=>ih j x x' p q hA y hy) r h1
theorem none_vw (hb:A b->V b) {v u:AV} (hv:VW ρ V A v u):∀ v',hand b nid v=some v'->ownOf u=none:=by
 have lst:∀ (l l':List AV),l.length=l'.length->(∀ (j:Nat) (x x':AV),l[j]?=some x->l'[j]?=some x'->∀ y,hand b nid x=some y->ownOf x'=none) ->
  ∀ r,handL b nid l=some r->ownOfL l'=none:=by
  intro l;induction l with
  | nil =>intro l' hl _ r hr;have:l'=[]:=List.length_eq_zero_iff.1 hl.symm;subst this;rfl
  | cons a l ih =>
   intro l' hl hh r hr;cases l' with
   | nil=>simp at hl
   | cons a' l' =>simp only [handL] at hr;obtain ⟨y,h1,hr⟩:=ob_some hr;obtain ⟨ys,h2,rfl⟩:=om_some hr;have q1:=hh 0 a a' Qw Qw y h1;have q2:=ih l' (by simpa using hl) (λj x x' p q=>hh (j+1) x x' (by simpa using p) (by simpa using q)) ys h2;simp only [ownOfL,q1,q2]
 induction hv with
 | undef v=>intro v' h;simp [hand] at h
 | bool t=>intro v' h;rfl
 | int k n=>intro v' h;rfl
 | str s=>intro v' h;rfl
 | nilp=>intro v' h;rfl
 | nils=>intro v' h;rfl
 | nilm=>intro v' h;rfl
 | nilf=>intro v' h;rfl
 | ronil z ex=>intro v' h;rfl
 | ro z es es' ex ex' hc hl hx he hr _=>intro v' h;rfl
 | rop cs cs' hl hr _=>intro v' h;rfl
 | ptr c i o hA' hV' =>
  intro v' h;simp only [hand] at h;split at h
  ·rename_i e;subst e;exact absurd (hb hA') hV'
  ·cases h
 | sl c z i len cap ex ex' hA' hV' hx =>
  intro v' h;simp only [hand] at h;split at h
  ·rename_i e;subst e;exact absurd (hb hA') hV'
  ·cases h
 | slv c z ex v hA' hV' hv=>intro v' h;rcases hv with rfl | rfl <;> rfl
 | map c hA' hV'=>intro v' h;simp [hand] at h
 | fn f cs cs' hl hr ih=>intro v' h;simp only [hand] at h;obtain ⟨r,h1,rfl⟩:=om_some h;exact lst cs cs' hl (λj x x' p q y hy=>ih j x x' p q hb y hy) r h1
 | agg cs cs' hl hr ih=>intro v' h;simp only [hand] at h;obtain ⟨r,h1,rfl⟩:=om_some h;exact lst cs cs' hl (λj x x' p q y hy=>ih j x x' p q hb y hy) r h1
 | tup cs cs' hl hr ih=>intro v' h;simp only [hand] at h;obtain ⟨r,h1,rfl⟩:=om_some h;exact lst cs cs' hl (λj x x' p q y hy=>ih j x x' p q hb y hy) r h1
theorem bareL_of {R:AV->AV->Prop}:∀ {l l':List AV},Rel2 R l l'->(∀ x x',R x x'->bareV x=true->bareV x'=true)->bareL l=true->bareL l'=true:=by
 intro l;induction l with
 | nil=>intro l' h _ _;have:=h.inv_nil;subst this;rfl
 | cons a l ih =>intro l' h hf hb;obtain ⟨b,r,rfl,h1,h2⟩:=h.inv_cons;simp only [bareL,Bool.and_eq_true] at hb |-;exact ⟨hf _ _ h1 hb.1,ih h2 hf hb.2⟩
theorem bare_vw {v u:AV} (hv:VW ρ V A v u):bareV v=true->bareV u=true:=by
 have lst:∀ (l l':List AV),l.length=l'.length->(∀ (j:Nat) (x x':AV),l[j]?=some x->l'[j]?=some x'->bareV x=true->bareV x'=true)->bareL l=true->bareL l'=true:=λl l' h1 h2 h3 =>bareL_of (R:=λx x'=>bareV x=true->bareV x'=true) ⟨h1,h2⟩ (λx x' h=>h) h3;induction hv with
 | undef v=>intro h;simp [bareV] at h
 | ronil z ex=>intro h;rfl
 | ro z es es' ex ex' hc hl hx he hr _ =>intro h;simp only [bareV,Bool.and_eq_true,List.isEmpty_iff] at h |-;obtain ⟨rfl,rfl⟩:=h;exact ⟨List.length_eq_zero_iff.1 hl.symm,hx rfl⟩
 | rop=>intro h;simp [bareV] at h
 | slv c z ex v hA hV hv=>intro h;rcases hv with rfl | rfl <;> rfl
 | fn f cs cs' hl hr ih=>intro h;simp only [bareV] at h |-;exact lst cs cs' hl (λj x x' p q=>ih j x x' p q) h
 | agg cs cs' hl hr ih=>intro h;simp only [bareV] at h |-;exact lst cs cs' hl (λj x x' p q=>ih j x x' p q) h
 | tup cs cs' hl hr ih=>intro h;simp only [bareV] at h |-;exact lst cs cs' hl (λj x x' p q=>ih j x x' p q) h
 | _=>intro h;rfl
theorem bareL_vw {l l':List AV} (h:Rel2 (VW ρ V A) l l'):bareL l=true->bareL l'=true:=bareL_of h λ_ _ h=>bare_vw h
theorem plain_isC {x u:AV} (h:VW ρ V A x u) (hc:isC x=true):plainC u=true:=by
 cases h with
 | undef=>simp [Pw.isC] at hc
 | ptr=>simp [Pw.isC] at hc
 | sl=>simp [Pw.isC] at hc
 | slv=>simp [Pw.isC] at hc
 | map=>simp [Pw.isC] at hc
 | agg=>simp [Pw.isC] at hc
 | tup=>simp [Pw.isC] at hc
 | fn f cs cs' hl hr =>
  cases cs with
  | nil =>have:cs'=[]:=List.length_eq_zero_iff.1 hl.symm;subst this;rfl
  | cons a r=>simp [Pw.isC] at hc
 | _=>rfl
end
end Go.Pw
end
section
set_option linter.unusedSimpArgs false
set_option linter.unusedVariables false
namespace Go.Pw
open Go Go.Pav
section
variable {ρ:Nat->Nat} {V A:Nat->Prop} {h:WHeap} {h':Heap}
theorem kept_vw {L L':List Nat} (hLL:∀ b ∈ L,¬ V b->ρ b ∈ L') {v u:AV} (hv:VW ρ V A v u) (hk:keptV L v=true):keptV L' u=true:=by
 have lst:∀ {l l':List AV},l.length=l'.length->keptL L l=true->(∀ (j:Nat) (x x':AV),l[j]?=some x->l'[j]?=some x'->keptV L x=true->keptV L' x'=true)->keptL L' l'=true:=by
  intro l;induction l with
  | nil=>intro l' hl _ _;cases l' with
   | nil=>rfl
   | cons _ _=>simp at hl
  | cons a r ih =>
   intro l' hl hk hr;cases l' with
   | nil=>simp at hl
   | cons a' r' =>simp only [keptL,Bool.and_eq_true] at hk |-;exact ⟨hr 0 a a' rfl rfl hk.1,ih (by simpa using hl) hk.2 λj x x' h1 h2=>hr (j+1) x x' (by simpa using h1) (by simpa using h2)⟩
 induction hv with
 | undef v=>simp [keptV] at hk
 | ronil z ex=>rfl
 | ro z es es' ex ex' hc hl hx he hr _ =>simp only [keptV,Bool.and_eq_true,List.isEmpty_iff] at hk |-;obtain ⟨rfl,rfl⟩:=hk;exact ⟨List.length_eq_zero_iff.1 (by simpa using hl.symm),hx rfl⟩
 | rop=>simp [keptV] at hk
 | ptr b i o hA hV=>simp only [keptV,List.contains_iff_mem] at hk |-;exact hLL b hk hV
 | sl b z i len cap ex ex' hA hV hx=>simp only [keptV,List.contains_iff_mem] at hk |-;exact hLL b hk hV
 | slv b z ex v hA hV hv=>rcases hv with rfl | rfl <;> rfl
 | map=>simp [keptV] at hk
 | fn f cs cs' hl hr ih=>simp only [keptV] at hk |-;exact lst hl hk λj x x' h1 h2 h3=>ih j x x' h1 h2 h3
 | agg cs cs' hl hr ih=>simp only [keptV] at hk |-;exact lst hl hk λj x x' h1 h2 h3=>ih j x x' h1 h2 h3
 | tup cs cs' hl hr ih=>simp only [keptV] at hk |-;exact lst hl hk λj x x' h1 h2 h3=>ih j x x' h1 h2 h3
 | _=>rfl
theorem keep_vw {L:List Nat} {v u:AV} (hv:VW ρ V A v u) (hk:keptV L v=true):VW ρ (λb=>V b/\b ∈ L) (λb=>A b/\b ∈ L) v u:=by
 induction hv with
 | undef v=>simp [keptV] at hk
 | bool b=>exact .bool b
 | int k n=>exact .int k n
 | str s=>exact .str s
 | nilp=>exact .nilp
 | nils=>exact .nils
 | nilm=>exact .nilm
 | nilf=>exact .nilf
 | ronil z ex=>exact .ronil z ex
 | ro z es es' ex ex' hc hl hx he hr _ =>simp only [keptV,Bool.and_eq_true,List.isEmpty_iff] at hk;obtain ⟨rfl,rfl⟩:=hk;refine .ro z [] es' true ex' Qw hl hx Qw Qw
 | rop=>simp [keptV] at hk
 | ptr b i o hA hV=>simp only [keptV,List.contains_iff_mem] at hk;exact .ptr b i o ⟨hA,hk⟩ λq=>hV q.1
 | sl b z i len cap ex ex' hA hV hx=>simp only [keptV,List.contains_iff_mem] at hk;exact .sl b z i len cap ex ex' ⟨hA,hk⟩ (λq=>hV q.1) hx
 | slv b z ex v hA hV hv=>simp only [keptV,List.contains_iff_mem] at hk;exact .slv b z ex v ⟨hA,hk⟩ ⟨hV,hk⟩ hv
 | map=>simp [keptV] at hk
 | fn f cs cs' hl hr ih=>exact .fn f cs cs' hl λj x x' h1 h2=>ih j x x' h1 h2 (keptL_get (by simpa only [keptV] using hk) x (List.mem_of_getElem? h1))
 | agg cs cs' hl hr ih=>exact .agg cs cs' hl λj x x' h1 h2=>ih j x x' h1 h2 (keptL_get (by simpa only [keptV] using hk) x (List.mem_of_getElem? h1))
 | tup cs cs' hl hr ih=>exact .tup cs cs' hl λj x x' h1 h2=>ih j x x' h1 h2 (keptL_get (by simpa only [keptV] using hk) x (List.mem_of_getElem? h1))
theorem lst_get {l l':List AV} {u:AV} (hl:l.length=l'.length) (hu:u ∈ l'):∃ (j:Nat) (v:AV),l[j]?=some v/\l'[j]?=some u:=by obtain ⟨j,hj,e⟩:=List.getElem_of_mem hu;exact ⟨j,l[j]'Qq,List.getElem?_eq_getElem Qq,by rw [List.getElem?_eq_getElem hj,e]⟩
theorem lst_get' {l l':List AV} {v:AV} (hl:l.length=l'.length) (hu:v ∈ l):∃ (j:Nat) (u:AV),l[j]?=some v/\l'[j]?=some u:=by obtain ⟨j,hj,e⟩:=List.getElem_of_mem hu;exact ⟨j,l'[j]'Qq,by rw [List.getElem?_eq_getElem hj,e],List.getElem?_eq_getElem Qq⟩
theorem reach_kept (H:HW ρ V A h h') {L:List Nat} (hL:∀ b ∈ L,keptOW L (Pav.get h b)=true):∀ (n:Nat) (v u:AV),VW ρ V A v u->keptV L v=true->∀ b' ∈ reach h' n u,∃ b ∈ L,b'=ρ b/\¬ V b/\A b:=by
 intro n;induction n with
 | zero=>intro v u _ _ b hb;simp [reach] at hb
 | succ n ih =>
  intro v u hv hk b' hb';have obj:∀ b,b ∈ L->¬ V b->∃ z es es' mu',Pav.get h' (ρ b)=some (.cells z es' mu')/\Rel2 (Rel2 (VW ρ V A)) es es'/\∀ e ∈ es,keptL L e=true:=by
   intro b hb hV;have h1:=hL b hb;cases hg:Pav.get h b with
   | none=>rw [hg] at h1;simp [keptOW] at h1
   | some o =>
    rw [hg] at h1;obtain ⟨o',g1,g2⟩:=H.obj b o hg hV;cases o with
    | cells z es mu dt =>obtain ⟨es',mu',rfl,_,g3,_⟩:=g2;simp only [keptOW,Bool.and_eq_true,List.all_eq_true] at h1;exact ⟨z,es,es',mu',g1,g3,h1.2⟩
    | map es=>simp [keptOW] at h1
    | iter s p=>simp [keptOW] at h1
  have cell:∀ {e e':List AV},Rel2 (VW ρ V A) e e'->keptL L e=true->∀ x' ∈ e',b' ∈ reach h' n x'->∃ b ∈ L,b'=ρ b/\¬ V b/\A b:=by intro e e' hr hk x' hx' hb;obtain ⟨j,hj,q⟩:=List.getElem_of_mem hx';obtain ⟨x,q2,q3⟩:=hr.get' (List.getElem?_eq_getElem hj);rw [q] at q3;exact ih x x' q3 (keptL_get hk x (List.mem_of_getElem? q2)) b' hb
  cases hv with
  | ptr b i o hA hV =>
   simp only [keptV,List.contains_iff_mem] at hk;obtain ⟨z,es,es',mu',g1,g2,g3⟩:=obj b hk hV;simp only [reach,g1,List.mem_cons] at hb';rcases hb' with rfl | hb'
   ·exact ⟨b,hk,rfl,hV,hA⟩
   ·simp only [List.mem_flatMap] at hb';obtain ⟨x',hx',hb'⟩:=hb';have hx2:=List.mem_of_mem_drop hx';cases he:es'[i]? with
    | none=>rw [he] at hx2;simp at hx2
    | some e' =>rw [he] at hx2;obtain ⟨e,q1,q2⟩:=g2.get' he;exact cell q2 (g3 e (List.mem_of_getElem? q1)) x' hx2 hb'
  | sl b z i len cap ex ex' hA hV hx =>
   simp only [keptV,List.contains_iff_mem] at hk;obtain ⟨z,es,es',mu',g1,g2,g3⟩:=obj b hk hV;simp only [reach,g1,List.mem_cons] at hb';rcases hb' with rfl | hb'
   ·exact ⟨b,hk,rfl,hV,hA⟩
   ·simp only [List.mem_flatMap] at hb';obtain ⟨e',he',x',hx',hb'⟩:=hb';have he2:=List.mem_of_mem_drop (List.mem_of_mem_take he');obtain ⟨j,hj,q⟩:=List.getElem_of_mem he2;obtain ⟨e,q1,q2⟩:=g2.get' (List.getElem?_eq_getElem hj);rw [q] at q2;exact cell q2 (g3 e (List.mem_of_getElem? q1)) x' hx' hb'
  | slv b z ex v hA hV hv=>rcases hv with rfl | rfl <;> simp [reach] at hb'
  | map=>simp [keptV] at hk
  | rop=>simp [keptV] at hk
  | undef=>simp [keptV] at hk
  | fn f cs cs' hl hr =>simp only [keptV] at hk;simp only [reach,List.mem_flatMap] at hb';obtain ⟨x',hx',hb'⟩:=hb';obtain ⟨j,x,q1,q2⟩:=lst_get hl hx';exact ih x x' (hr j x x' q1 q2) (keptL_get hk x (List.mem_of_getElem? q1)) b' hb'
  | agg cs cs' hl hr =>simp only [keptV] at hk;simp only [reach,List.mem_flatMap] at hb';obtain ⟨x',hx',hb'⟩:=hb';obtain ⟨j,x,q1,q2⟩:=lst_get hl hx';exact ih x x' (hr j x x' q1 q2) (keptL_get hk x (List.mem_of_getElem? q1)) b' hb'
  | tup cs cs' hl hr =>simp only [keptV] at hk;simp only [reach,List.mem_flatMap] at hb';obtain ⟨x',hx',hb'⟩:=hb';obtain ⟨j,x,q1,q2⟩:=lst_get hl hx';exact ih x x' (hr j x x' q1 q2) (keptL_get hk x (List.mem_of_getElem? q1)) b' hb'
  | _=>simp [reach] at hb'
theorem reachW_vw (H:HW ρ V A h h'):∀ (n:Nat) (v u:AV),VW ρ V A v u->∀ b ∈ reachW h n v,¬ V b->ρ b ∈ reach h' n u:=by
 intro n;induction n with
 | zero=>intro v u _ b hb;simp [reachW] at hb
 | succ n ih =>
  intro v u hv b hb hVb;cases hv with
  | ptr c i o hA hV =>
   simp only [reachW,List.mem_cons] at hb;simp only [reach,List.mem_cons];rcases hb with rfl | hb
   ·exact .inl rfl
   ·refine .inr ?_;split at hb
    ·rename_i zb es mu dt hg;obtain ⟨o',g1,es',mu',rfl,_,ge,gd⟩:=H.obj c _ hg hV;split at hb
     ·cases hb
     ·simp only [g1];simp only [List.mem_flatMap] at hb |-;obtain ⟨x,hx,hb⟩:=hb;cases he:es[i]? with
      | none=>rw [he] at hx;simp at hx
      | some e =>rw [he] at hx;obtain ⟨e',q1,q2⟩:=ge.get he;rw [q1];simp only [Option.getD_some] at hx |-;obtain ⟨j,hj,q⟩:=List.getElem_of_mem hx;obtain ⟨x',q3,q4⟩:=(q2.drop o).get (List.getElem?_eq_getElem hj);rw [q] at q4;exact ⟨x',List.mem_of_getElem? q3,ih x x' q4 b hb hVb⟩
    ·cases hb
  | sl c z i len cap ex ex' hA hV hx =>
   simp only [reachW,List.mem_cons] at hb;simp only [reach,List.mem_cons];rcases hb with rfl | hb
   ·exact .inl rfl
   ·refine .inr ?_;split at hb
    ·rename_i zb es mu dt hg;obtain ⟨o',g1,es',mu',rfl,_,ge,gd⟩:=H.obj c _ hg hV;split at hb
     ·cases hb
     ·simp only [g1];simp only [List.mem_flatMap] at hb |-;obtain ⟨e,he,x,hx,hb⟩:=hb;obtain ⟨k,hk,qk⟩:=List.getElem_of_mem he;obtain ⟨e',q1,q2⟩:=((ge.drop i).take len).get (List.getElem?_eq_getElem hk);rw [qk] at q2;obtain ⟨j,hj,q⟩:=List.getElem_of_mem hx;obtain ⟨x',q3,q4⟩:=q2.get (List.getElem?_eq_getElem hj);rw [q] at q4;exact ⟨e',List.mem_of_getElem? q1,x',List.mem_of_getElem? q3,ih x x' q4 b hb hVb⟩
    ·cases hb
  | slv c z ex v hA hV hv =>
   simp only [reachW,List.mem_cons] at hb;rcases hb with rfl | hb
   ·exact absurd hV hVb
   ·split at hb
    ·split at hb
     ·cases hb
     ·simp at hb
    ·cases hb
  | fn f cs cs' hl hr =>simp only [reachW,reach,List.mem_flatMap] at hb |-;obtain ⟨x,hx,hb⟩:=hb;obtain ⟨j,x',q1,q2⟩:=lst_get' hl hx;exact ⟨x',List.mem_of_getElem? q2,ih x x' (hr j x x' q1 q2) b hb hVb⟩
  | agg cs cs' hl hr =>simp only [reachW,reach,List.mem_flatMap] at hb |-;obtain ⟨x,hx,hb⟩:=hb;obtain ⟨j,x',q1,q2⟩:=lst_get' hl hx;exact ⟨x',List.mem_of_getElem? q2,ih x x' (hr j x x' q1 q2) b hb hVb⟩
  | tup cs cs' hl hr =>simp only [reachW,reach,List.mem_flatMap] at hb |-;obtain ⟨x,hx,hb⟩:=hb;obtain ⟨j,x',q1,q2⟩:=lst_get' hl hx;exact ⟨x',List.mem_of_getElem? q2,ih x x' (hr j x x' q1 q2) b hb hVb⟩
  | undef=>simp [reachW] at hb
  | _=>simp [reachW] at hb
theorem keptO_vw (H:HW ρ V A h h') {L L':List Nat} (hLL:∀ b ∈ L,¬ V b->ρ b ∈ L') {b:Nat} (hV:¬ V b) (hk:keptOW L (Pav.get h b)=true):keptO L' (Pav.get h' (ρ b))=true:=by
 cases hg:Pav.get h b with
 | none=>rw [hg] at hk;simp [keptOW] at hk
 | some o =>
  rw [hg] at hk;obtain ⟨o',g1,g2⟩:=H.obj b o hg hV;rw [g1];cases o with
  | cells z es mu dt =>obtain ⟨es',mu',rfl,hmu,g3,_⟩:=g2;simp only [keptOW,keptO,Bool.and_eq_true,List.all_eq_true] at hk |-;refine ⟨hmu hk.1,λe' he'=>?_⟩;obtain ⟨j,hj,q⟩:=List.getElem_of_mem he';obtain ⟨e,q1,q2⟩:=g3.get' (List.getElem?_eq_getElem hj);rw [q] at q2;have hke:=hk.2 e (List.mem_of_getElem? q1);have h1:=kept_vw (v:=.tup e) (u:=.tup e') hLL (VW.mktup q2) (by simpa only [keptV] using hke);simpa only [keptV] using h1
  | map es=>simp [keptOW] at hk
  | iter s p=>simp [keptOW] at hk
theorem kept_sim (H:HW ρ V A h h') (n:Nat) {v u:AV} (hv:VW ρ V A v u) (hk:keptXW h v (reachW h n v)=true):keptX h' u (reach h' n u)=true:=by simp only [keptXW,keptX,Bool.and_eq_true,List.all_eq_true] at hk |-;obtain ⟨k1,k2⟩:=hk;have hLL:=λb hb hV=>reachW_vw H n v u hv b hb hV;refine ⟨kept_vw hLL hv k1,λb' hb'=>?_⟩;obtain ⟨b,q1,rfl,q3,_⟩:=reach_kept H k2 n v u hv k1 b' hb';exact keptO_vw H hLL q3 (k2 b q1)
theorem HW.keep (H:HW ρ V A h h') {L L':List Nat} (hL:∀ b ∈ L,keptOW L (Pav.get h b)=true) (hLL:∀ b ∈ L,¬ V b->ρ b ∈ L') :
 HW ρ (λb=>V b/\b ∈ L) (λb=>A b/\b ∈ L) (h.filter λx=>L.contains x.1) (h'.filter λx=>L'.contains x.1):=by
 have key:∀ b o,Pav.get (h.filter λx=>L.contains x.1) b=some o->Pav.get h b=some o/\b ∈ L:=by
  intro b o hb;rw [get_filter] at hb;by_cases q:b ∈ L
  ·rw [if_pos (by simpa using q)] at hb;exact ⟨hb,q⟩
  ·rw [if_neg (by simpa using q)] at hb;cases hb
 refine ⟨λb o hb=>?_,λb o hb hv=>?_,λb o hb hv=>?_,λb hb=>⟨H.sub b hb.1,hb.2⟩,λb c hb hc hb' hc' he=>?_⟩
 ·exact ⟨H.dom b o (key b o hb).1,(key b o hb).2⟩
 ·exact H.virt b o (key b o hb).1 hv.1
 ·obtain ⟨q1,q2⟩:=key b o hb;have hV:¬ V b:=λq=>hv ⟨q,q2⟩;obtain ⟨o',g1,g2⟩:=H.obj b o q1 hV;have hk:=hL b q2;rw [q1] at hk;refine ⟨o',by rw [get_filter,if_pos (by simpa using hLL b q2 hV)];exact g1,?_⟩;cases o with
  | cells z es mu dt =>obtain ⟨es',mu',rfl,hmu,g3,g4⟩:=g2;simp only [keptOW,Bool.and_eq_true,List.all_eq_true] at hk;exact ⟨es',mu',rfl,hmu,⟨g3.1,λj e e' h1 h2=>⟨(g3.2 j e e' h1 h2).1,λk x x' h3 h4=>keep_vw ((g3.2 j e e' h1 h2).2 k x x' h3 h4) (keptL_get (hk.2 e (List.mem_of_getElem? h1)) x (List.mem_of_getElem? h3))⟩⟩,g4⟩
  | map es=>simp [keptOW] at hk
  | iter s p=>simp [keptOW] at hk
 ·exact H.inj b c hb.1 hc.1 (λq=>hb' ⟨q,hb.2⟩) (λq=>hc' ⟨q,hc.2⟩) he
end
end Go.Pw
end
section
set_option linter.unusedSimpArgs false
set_option linter.unusedVariables false
namespace Go.Pw
open Go Go.Pav
def Keeps (ρ:Nat->Nat) (V A:Nat->Prop) (ρ':Nat->Nat) (V' A':Nat->Prop):Prop:=∀ b,A b->A' b/\ρ' b=ρ b/\(V' b↔V b)
theorem Keeps.refl (ρ:Nat->Nat) (V A:Nat->Prop):Keeps ρ V A ρ V A:=λ_ h=>⟨h,rfl,Iff.rfl⟩
theorem Keeps.trans {ρ ρ1 ρ2:Nat->Nat} {V A V1 A1 V2 A2:Nat->Prop} (h:Keeps ρ V A ρ1 V1 A1) (k:Keeps ρ1 V1 A1 ρ2 V2 A2):Keeps ρ V A ρ2 V2 A2:=λb hb=>by obtain ⟨h1,h2,h3⟩:=h b hb;obtain ⟨k1,k2,k3⟩:=k b h1;exact ⟨k1,k2.trans h2,k3.trans h3⟩
structure Lts (ρ:Nat->Nat) (V A:Nat->Prop) (n m:Nat):Prop where
 w:∀ b,A b->b < n
 p:∀ b,A b->¬ V b->ρ b < m
def RunSim (run:WRun) (run':Run):Prop :=
 ∀ (f:Nat) (args:List AV) (h:WHeap) (n:Nat) (v:AV) (h1:WHeap) (n1:Nat),run f args h n=some (v,h1,n1) ->
  ∀ (ρ:Nat->Nat) (V A:Nat->Prop) (args':List AV) (h':Heap) (m:Nat),Rel2 (VW ρ V A) args args'->HW ρ V A h h'->Lts ρ V A n m ->
   ∃ v' h1' m1 ρ' V' A',run' f args' h' m=some (v',h1',m1)/\VW ρ' V' A' v v'/\HW ρ' V' A' h1 h1'/\Lts ρ' V' A' n1 m1/\Keeps ρ V A ρ' V' A' /\
    (∀ b,A' b->A b\/n<=b)/\(∀ b,A' b->¬ V' b->(A b/\ρ' b=ρ b)\/m<=ρ' b)/\n<=n1/\m<=m1
def wrOf (d:WDid):List Nat:=match d.bar with | true=>d.wr.tail | false=>d.wr
structure OpSim (ρ:Nat->Nat) (V A:Nat->Prop) (nid n mid m:Nat) (d:WDid) (d':Did) (ρ':Nat->Nat) (V' A':Nat->Prop):Prop where
 v:VW ρ' V' A' d.v d'.v
 h:HW ρ' V' A' d.h d'.h
 keeps:Keeps ρ V A ρ' V' A'
 new:∀ b,A' b->A b\/b=nid\/n<=b
 newp:∀ b,A' b->¬ V' b->(A b/\ρ' b=ρ b)\/ρ' b=mid\/m<=ρ' b
 lt:Lts ρ' V' A' d.n d'.n
 next:n<=d.n
 nextp:m<=d'.n
 bar:d'.bar=true->d.bar=true/\d.wr=[]
 rd:∀ b ∈ d'.rd,∃ c ∈ d.rd,b=ρ' c/\¬ V' c/\A' c
 wr:∀ b ∈ d'.wr,(∃ c ∈ wrOf d,b=ρ' c/\¬ V' c/\A' c)\/∃ k w,d.bar=true/\d.wr=k::w/\m<=b/\b < d'.n/\∀ c,A' c->¬ V' c->ρ' c=b->k<=c
section
variable {ρ:Nat->Nat} {V A:Nat->Prop} {n m:Nat} {h:WHeap} {h':Heap} {e e':Env} {C:WProg} {run:WRun} {run':Run}
theorem hasPtr_vw:∀ (v:AV),hasPtr v=true->∀ (u:AV),VW ρ V A v u->hasPtr u=true:=by
 intro v;refine AV.rec (motive_1:=λv=>hasPtr v=true->∀ (u:AV),VW ρ V A v u->hasPtr u=true) (motive_2:=λ_=>True) (motive_3:=λl=>hasPtrL l=true->∀ l',Rel2 (VW ρ V A) l l'->hasPtrL l'=true) ?_ ?_ ?_ ?_ ?_ ?_ ?_ ?_ ?_ ?_ ?_ ?_ ?_ ?_ ?_ ?_ ?_ ?_ ?_ ?_ v
 ·intro hp;simp [hasPtr] at hp
 ·intro b hp;simp [hasPtr] at hp
 ·intro b c hp;simp [hasPtr] at hp
 ·intro b hp;simp [hasPtr] at hp
 ·intro hp;simp [hasPtr] at hp
 ·intro hp;simp [hasPtr] at hp
 ·intro hp;simp [hasPtr] at hp
 ·intro hp;simp [hasPtr] at hp
 ·intro z es ex _ hp;simp [hasPtr] at hp
 ·intro z _ hp;simp [hasPtr] at hp
 ·intro b i o _ u hu;rw [hu.ptr_inv.1];rfl
 ·intro b z i len cap ex hp;simp [hasPtr] at hp
 ·intro b _ u hu;rw [hu.map_inv.1];rfl
 ·intro f cs ih hp u hu;obtain ⟨cs',rfl,hr⟩:=hu.fn_inv;simp only [hasPtr];exact ih (by simpa only [hasPtr] using hp) cs' hr
 ·intro cs ih hp u hu;obtain ⟨cs',rfl,hr⟩:=hu.agg_inv;simp only [hasPtr];exact ih (by simpa only [hasPtr] using hp) cs' hr
 ·intro cs ih hp u hu;obtain ⟨cs',rfl,hr⟩:=hu.tup_inv;simp only [hasPtr];exact ih (by simpa only [hasPtr] using hp) cs' hr
 ·trivial
 ·intros;trivial
 ·intro hp;simp [hasPtrL] at hp
 ·intro v l ih1 ih2 hp l' hr;obtain ⟨u,t,rfl,h1,h2⟩:=hr.inv_cons;simp only [hasPtrL,Bool.or_eq_true] at hp |-;rcases hp with hp | hp
  ·exact .inl (ih1 hp u h1)
  ·exact .inr (ih2 hp t h2)
theorem hasPtrL_vw:∀ (l:List AV),hasPtrL l=true->∀ l',Rel2 (VW ρ V A) l l'->hasPtrL l'=true:=by
 intro l;induction l with
 | nil=>intro hp;simp [hasPtrL] at hp
 | cons v l ih =>
  intro hp l' hr;obtain ⟨u,t,rfl,h1,h2⟩:=hr.inv_cons;simp only [hasPtrL,Bool.or_eq_true] at hp |-;rcases hp with hp | hp
  ·exact .inl (hasPtr_vw v hp u h1)
  ·exact .inr (ih hp t h2)
theorem noPtr_vw:∀ (n:Nat) (v u v':AV),VW ρ V A v u->frzW h n v=some v'->hasPtr v=false->hasPtr u=false:=by
 intro n;induction n with
 | zero=>intro v u v' _ hf;simp [frzW] at hf
 | succ n ih =>
  have lst:∀ (l l' r:List AV),Rel2 (VW ρ V A) l l'->mapO (frzW h n) l=some r->hasPtrL l=false->hasPtrL l'=false:=by
   intro l;induction l with
   | nil=>intro l' r hr _ _;rw [hr.inv_nil];rfl
   | cons a l ihl =>intro l' r hr hm hp;obtain ⟨b,t,rfl,h1,h2⟩:=hr.inv_cons;simp only [mapO] at hm;obtain ⟨x,h3,hm⟩:=ob_some hm;obtain ⟨xs,h4,rfl⟩:=om_some hm;simp only [hasPtrL,Bool.or_eq_false_iff] at hp |-;exact ⟨ih a b x h1 h3 hp.1,ihl t xs h2 h4 hp.2⟩
  intro v u v' hv hf hp;cases v with
  | undef=>simp [frzW] at hf
  | bool b=>rw [hv.bool_inv];simp [hasPtr]
  | int k x=>rw [hv.int_inv];simp [hasPtr]
  | str s=>rw [hv.str_inv];simp [hasPtr]
  | nilp=>cases hv;simp [hasPtr]
  | nils=>cases hv;simp [hasPtr]
  | nilm=>cases hv;simp [hasPtr]
  | nilf=>cases hv;simp [hasPtr]
  | ro z es ex=>rcases hv.ro_inv with ⟨rfl,rfl⟩ | ⟨es',ex',rfl,_,_,_⟩ <;> simp [hasPtr]
  | rop cs=>obtain ⟨cs',rfl,_⟩:=hv.rop_inv;simp [hasPtr]
  | ptr b i o=>simp [hasPtr] at hp
  | map b=>simp [hasPtr] at hp
  | sl b z i len cap ex =>
   rcases hv.sl_inv with ⟨_,_,ex',rfl,_⟩ | ⟨_,_,rfl,rfl,rfl,hu⟩
   ·simp [hasPtr]
   ·rcases hu with rfl | rfl <;> simp [hasPtr]
  | fn f cs =>obtain ⟨cs',rfl,hr⟩:=hv.fn_inv;simp only [frzW] at hf;obtain ⟨r,h1,rfl⟩:=om_some hf;simp only [hasPtr] at hp |-;exact lst cs cs' r hr h1 hp
  | agg cs =>obtain ⟨cs',rfl,hr⟩:=hv.agg_inv;simp only [frzW] at hf;obtain ⟨r,h1,rfl⟩:=om_some hf;simp only [hasPtr] at hp |-;exact lst cs cs' r hr h1 hp
  | tup cs =>obtain ⟨cs',rfl,hr⟩:=hv.tup_inv;simp only [frzW] at hf;obtain ⟨r,h1,rfl⟩:=om_some hf;simp only [hasPtr] at hp |-;exact lst cs cs' r hr h1 hp
theorem noPtrL_vw {n:Nat}:∀ (l l' r:List AV),Rel2 (VW ρ V A) l l'->mapO (frzW h n) l=some r->hasPtrL l=false->hasPtrL l'=false:=by
 intro l;induction l with
 | nil=>intro l' r hr _ _;rw [hr.inv_nil];rfl
 | cons a l ihl =>intro l' r hr hm hp;obtain ⟨b,t,rfl,h1,h2⟩:=hr.inv_cons;simp only [mapO] at hm;obtain ⟨x,h3,hm⟩:=ob_some hm;obtain ⟨xs,h4,rfl⟩:=om_some hm;simp only [hasPtrL,Bool.or_eq_false_iff] at hp |-;exact ⟨noPtr_vw n a b x h1 h3 hp.1,ihl t xs h2 h4 hp.2⟩
theorem pure_sim (hr:RunSim run run') {f:Nat} {az az':List AV} {v:AV} (ha:Rel2 (VD ρ V) az az') (hp:pureCallW run f az=some v):∃ v',pureCall run' f az'=some v'/\VD ρ V v v':=by obtain ⟨⟨v0,h0,n0⟩,h1,h2⟩:=ob_some hp;obtain ⟨v',h1',m1,ρ',V',A',r1,r2,r3,_⟩:=hr f az [] 0 v0 h0 n0 h1 ρ (λ_=>False) (λ_=>False) az' [] 0 (ha.mono λx x' _ hx=>hx.data) ⟨λb o hb=>by simp [Pav.get] at hb,λb o hb=>by simp [Pav.get] at hb,λb o hb=>by simp [Pav.get] at hb,λb hb=>hb.elim,λb c hb=>hb.elim⟩ ⟨λb hb=>hb.elim,λb hb=>hb.elim⟩;obtain ⟨u',r4,r5⟩:=frz_vw r3 _ _ _ _ r2 h2;exact ⟨u',by unfold pureCall;rw [r1];exact r4,r5.data⟩
theorem applyW_append:∀ (u v:WUpd) (h:WHeap),applyW h (u++v)=applyW (applyW h u) v:=by
 intro u;induction u with
 | nil=>intro v h;rfl
 | cons x u ih=>intro v h;obtain ⟨b,o⟩:=x;simp only [List.cons_append,applyW];exact ih v _
theorem virt_ok (H:HW ρ V A h h') {nid:Nat} (hn:¬ A nid) (mid z:Nat) (mu dt:Bool):HW (up ρ nid mid) (addN V nid) (addN A nid) (put h nid (.cells z [] mu dt)) h':=by
 have hold:∀ b,A b->addN A nid b/\up ρ nid mid b=ρ b/\(addN V nid b↔V b):=by
  intro b hb;have hne:b≠nid:=λe=>hn (e ▸ hb);refine ⟨.inl hb,by simp [up,hne],⟨λq=>?_,λq=>.inl q⟩⟩;rcases q with q | q
  ·exact q
  ·exact absurd q hne
 constructor
 ·intro b o hb;rw [get_put] at hb;split at hb
  ·rename_i e;exact .inr e.symm
  ·exact .inl (H.dom b o hb)
 ·intro b o hb hv;rw [get_put] at hb;split at hb
  ·cases hb;exact ⟨z,mu,dt,rfl⟩
  ·rename_i e;rcases hv with q | q
   ·exact H.virt b o hb q
   ·exact absurd q.symm e
 ·intro b o hb hv;rw [get_put] at hb;split at hb
  ·rename_i e;exact absurd (.inr e.symm) hv
  ·have hA:=H.dom b o hb;obtain ⟨_,q2,q3⟩:=hold b hA;obtain ⟨o',r1,r2⟩:=H.obj b o hb λq=>hv (.inl q);refine ⟨o',by rw [q2];exact r1,r2.mono hold⟩
 ·rintro b (q | q)
  ·exact .inl (H.sub b q)
  ·exact .inr q
 ·rintro b c (hb | hb) (hc | hc) h1 h2 he
  ·obtain ⟨_,p2,_⟩:=hold b hb;obtain ⟨_,q2,_⟩:=hold c hc;rw [p2,q2] at he;exact H.inj b c hb hc (λq=>h1 (.inl q)) (λq=>h2 (.inl q)) he
  ·exact absurd (.inr hc) h2
  ·exact absurd (.inr hb) h1
  ·exact hb.trans hc.symm
theorem get_upsW (n b:Nat):∀ (h1 h:WHeap),get (applyW h (upsW n h1)) b=if n<=b then (match get h1 b with | some o=>some o | none=>get h b) else get h b:=by
 intro h1;induction h1 with
 | nil=>intro h;simp [upsW,applyW,Pav.get]
 | cons x r ih =>
  intro h;obtain ⟨c,o⟩:=x;by_cases hc:n<=c
  ·have e:upsW n ((c,o)::r)=upsW n r++[(c,some o)]:=by simp [upsW,hc]
   rw [e,applyW_append];simp only [applyW,updOneW,get_put,Pav.get];by_cases q:c=b
   ·subst q;simp [hc]
   ·simp only [if_neg q];exact ih h
  ·have e:upsW n ((c,o)::r)=upsW n r:=by simp [upsW,hc]
   rw [e,ih h];simp only [Pav.get];by_cases q:c=b
   ·subst q;simp [hc]
   ·simp only [if_neg q]
theorem HW.union {ρ1:Nat->Nat} {V1 A1:Nat->Prop} {h1:WHeap} {h1':Heap} (H:HW ρ V A h h') (H1:HW ρ1 V1 A1 h1 h1') (hA:∀ b,A b->b < n) (hA1:∀ b,A1 b->n<=b) (hp:∀ b,A b->¬ V b->ρ b < m) {m1:Nat} (hp1:∀ b,A1 b->¬ V1 b->m<=ρ1 b/\ρ1 b < m1) :
 Keeps ρ V A (λb=>if n<=b then ρ1 b else ρ b) (λb=>V b\/V1 b) (λb=>A b\/A1 b)/\Keeps ρ1 V1 A1 (λb=>if n<=b then ρ1 b else ρ b) (λb=>V b\/V1 b) (λb=>A b\/A1 b) /\
 HW (λb=>if n<=b then ρ1 b else ρ b) (λb=>V b\/V1 b) (λb=>A b\/A1 b) (applyW h (upsW n h1)) (applyUpd h' (ups m m1 h1')):=by
 have k:Keeps ρ V A (λb=>if n<=b then ρ1 b else ρ b) (λb=>V b\/V1 b) (λb=>A b\/A1 b):=λb hb=>by have:=hA b hb;exact ⟨.inl hb,if_neg Qq,⟨λq=>q.elim id λq=>by have:=hA1 b (H1.sub b q);omega,.inl⟩⟩
 have k1:Keeps ρ1 V1 A1 (λb=>if n<=b then ρ1 b else ρ b) (λb=>V b\/V1 b) (λb=>A b\/A1 b):=λb hb=>by have:=hA1 b hb;exact ⟨.inr hb,if_pos this,⟨λq=>q.elim (λq=>by have:=hA b (H.sub b q);omega) id,.inr⟩⟩
 have key:∀ b o,get (applyW h (upsW n h1)) b=some o->(get h1 b=some o/\n<=b)\/(get h b=some o/\¬ n<=b):=by
  intro b o hb;rw [get_upsW] at hb;by_cases q:n<=b
  ·rw [if_pos q] at hb;cases hq:get h1 b with
   | some o1=>rw [hq] at hb;cases hb;exact .inl ⟨rfl,q⟩
   | none=>rw [hq] at hb;exact .inr ⟨hb,by have:=hA b (H.dom b _ hb);omega⟩
  ·rw [if_neg q] at hb;exact .inr ⟨hb,q⟩
 refine ⟨k,k1,?_,?_,?_,?_,?_⟩
 ·intro b o hb;rcases key b o hb with ⟨q,_⟩ | ⟨q,_⟩
  ·exact .inr (H1.dom b o q)
  ·exact .inl (H.dom b o q)
 ·intro b o hb hv;rcases key b o hb with ⟨q,q2⟩ | ⟨q,q2⟩
  ·exact H1.virt b o q ((k1 b (H1.dom b o q)).2.2.1 hv)
  ·exact H.virt b o q ((k b (H.dom b o q)).2.2.1 hv)
 ·intro b o hb hv;rcases key b o hb with ⟨q,q2⟩ | ⟨q,q2⟩
  ·have hA':=H1.dom b o q;have hv':¬ V1 b:=λp=>hv (.inr p);obtain ⟨o',e1,e2⟩:=H1.obj b o q hv';refine ⟨o',?_,e2.mono k1⟩;rw [get_ups];simp only [if_pos q2];rw [if_pos (hp1 b hA' hv'),e1]
  ·have hA':=H.dom b o q;have hv':¬ V b:=λp=>hv (.inl p);obtain ⟨o',e1,e2⟩:=H.obj b o q hv';refine ⟨o',?_,e2.mono k⟩;rw [get_ups];simp only [if_neg q2];rw [if_neg (by have:=hp b hA' hv';omega)];exact e1
 ·rintro b (q | q)
  ·exact .inl (H.sub b q)
  ·exact .inr (H1.sub b q)
 ·have f0:∀ b,A b->(if n<=b then ρ1 b else ρ b)=ρ b:=λb hb=>(k b hb).2.1;have f1:∀ b,A1 b->(if n<=b then ρ1 b else ρ b)=ρ1 b:=λb hb=>(k1 b hb).2.1;rintro b c (hb | hb) (hc | hc) g1 g2 he
  ·rw [f0 b hb,f0 c hc] at he;exact H.inj b c hb hc (λq=>g1 (.inl q)) (λq=>g2 (.inl q)) he
  ·rw [f0 b hb,f1 c hc] at he;have h1:=hp b hb (λq=>g1 (.inl q));have h2:=(hp1 c hc (λq=>g2 (.inr q))).1;omega
  ·rw [f1 b hb,f0 c hc] at he;have h1:=(hp1 b hb (λq=>g1 (.inr q))).1;have h2:=hp c hc (λq=>g2 (.inl q));omega
  ·rw [f1 b hb,f1 c hc] at he;exact H1.inj b c hb hc (λq=>g1 (.inr q)) (λq=>g2 (.inr q)) he
theorem call_sim (hr:RunSim run run') (H:HW ρ V A h h') (lt:Lts ρ V A n m) {nid mid:Nat} (hn:¬ A nid) (hnl:nid < n) (hm:∀ b,A b->¬ V b->ρ b≠mid) (hml:mid < m) {f:Nat} {args args':List AV} (ha:Rel2 (VW ρ V A) args args') {c:WCalled} (hc:evCallW C run f args h nid n=some c) :
 ∃ c' ρ' V' A',evCall (erProg C) run' f args' h' mid m=some c'/\OpSim ρ V A nid n mid m (doneCallW h n args c) (doneCall h' m args' c') ρ' V' A':=by
 have whole:∀ {r:AV × WHeap × Nat},run f args h n=some r->∃ r' ρ' V' A',run' f args' h' m=some r'/\OpSim ρ V A nid n mid m (doneCallW h n args (.whole r.1 r.2.1 r.2.2)) (doneCall h' m args' (.whole r'.1 r'.2.1 r'.2.2)) ρ' V' A':=by
  rintro ⟨v,h1,n1⟩ hrun;obtain ⟨v',h1',m1,ρ',V',A',r1,r2,r3,r4,r5,r6,r7,r8,r9⟩:=hr f args h n v h1 n1 hrun ρ V A args' h' m ha H lt;refine ⟨(v',h1',m1),ρ',V',A',r1,r2,r3,r5,λb hb=>?_,λb hb hv=>?_,r4,r8,r9,λ_=>⟨rfl,rfl⟩,λb hb=>by simp [doneCall] at hb,λb hb=>by simp [doneCall] at hb⟩
  ·rcases r6 b hb with q | q
   ·exact .inl q
   ·exact .inr (.inr q)
  ·rcases r7 b hb hv with q | q
   ·exact .inl q
   ·exact .inr (.inr q)
 unfold evCallW at hc;split at hc
 ·rename_i hi;split at hc
  ·rename_i hfr;obtain ⟨az,h1,h2⟩:=ob_some hc;have hreach:∀ b' ∈ args'.flatMap (reach h' frzDepth),∃ b ∈ args.flatMap (reachW h frzDepth),b'=ρ b/\¬ V b/\A b/\∃ z es mu dt,get h b=some (.cells z es mu dt):=by intro b' hb';simp only [List.mem_flatMap] at hb' |-;obtain ⟨u,hu,hb'⟩:=hb';obtain ⟨j,hj,q1⟩:=List.getElem_of_mem hu;obtain ⟨x,q2,q3⟩:=ha.get' (List.getElem?_eq_getElem hj);rw [q1] at q3;obtain ⟨x',_,q4⟩:=(mapO_some h1).2 j x q2;obtain ⟨b,q5,q6⟩:=reach_vw H frzDepth x u x' q3 q4 b' hb';exact ⟨b,⟨x,List.mem_of_getElem? q2,q5⟩,q6⟩
   by_cases hdp:isDp f=true
   ·rw [if_pos hdp] at h2;obtain ⟨⟨v0,h0,n0⟩,hrun,h2⟩:=ob_some h2;obtain ⟨hk,h2k,rfl⟩:=om_some h2;clear h2;obtain ⟨az',h4,h5⟩:=mapO_of_rel (λx y hxy x' hx'=>frz_vw H frzDepth x y x' hxy hx') ha h1;obtain ⟨v0',h0',m0,ρ1,V1,A1,r1,r2,r3,r4,r5,r6,r7,r8,r9⟩:=hr f az [] n v0 h0 n0 hrun ρ (λ_=>False) (λ_=>False) az' [] m (h5.mono λx x' _ hx=>hx.data) ⟨λb o hb=>by simp [Pav.get] at hb,λb o hb=>by simp [Pav.get] at hb,λb o hb=>by simp [Pav.get] at hb,λb hb=>hb.elim,λb c hb=>hb.elim⟩ ⟨λb hb=>hb.elim,λb hb=>hb.elim⟩;unfold deepKeepW at h2k;unfold deepUW;by_cases hdb:isDb f=true
    ·rw [if_pos hdb] at h2k |-;split at h2k;case isFalse=>cases h2k
     rename_i hkW;obtain rfl:=Option.some.inj h2k;simp only at hkW |-;have hLL:=λb hb hV=>reachW_vw r3 frzDepth v0 v0' r2 b hb hV;have hkx:=kept_sim r3 frzDepth r2 hkW;simp only [keptXW,Bool.and_eq_true,List.all_eq_true] at hkW;have r3k:=r3.keep (L':=reach h0' frzDepth v0') hkW.2 hLL;have r2k:=keep_vw r2 hkW.1;have hA1:∀ b,A1 b/\b ∈ reachW h0 frzDepth v0->n<=b:=λb hb=>(r6 b hb.1).elim (λq=>q.elim) id;have hp1:∀ b,A1 b/\b ∈ reachW h0 frzDepth v0->¬ (V1 b/\b ∈ reachW h0 frzDepth v0)->m<=ρ1 b/\ρ1 b < m0:=λb hb hv=>⟨(r7 b hb.1 λq=>hv ⟨q,hb.2⟩).elim (λq=>q.1.elim) id,r4.p b hb.1 λq=>hv ⟨q,hb.2⟩⟩;obtain ⟨u1,u2,u3⟩:=H.union r3k lt.w hA1 lt.p hp1;refine ⟨.deep v0' (ups m m0 (h0'.filter λx=>(reach h0' frzDepth v0').contains x.1)) m0,(λb=>if n<=b then ρ1 b else ρ b),(λb=>V b\/(V1 b/\b ∈ reachW h0 frzDepth v0)),(λb=>A b\/(A1 b/\b ∈ reachW h0 frzDepth v0)),?_,?_⟩
     ·simp only [evCall,erProg,hi,Bool.true_or,if_true,hdp,Bool.and_self,h4,ob,deepCall,r1,om,deepKeep,deepU,if_pos hdb,hkx,List.nil_append]
     ·have f0:∀ b,A b->(if n<=b then ρ1 b else ρ b)=ρ b:=λb hb=>(u1 b hb).2.1;have f1:∀ b,A1 b/\b ∈ reachW h0 frzDepth v0->(if n<=b then ρ1 b else ρ b)=ρ1 b:=λb hb=>(u2 b hb).2.1;simp only [doneCallW,doneCall];refine ⟨r2k.mono u2,u3,u1,?_,?_,⟨?_,?_⟩,r8,r9,λq=>(by cases q),?_,?_⟩
      ·rintro b (hb | hb)
       ·exact .inl hb
       ·exact .inr (.inr (hA1 b hb))
      ·rintro b (hb | hb) hv
       ·exact .inl ⟨hb,(u1 b hb).2.1⟩
       ·refine .inr (.inr ?_);simp only [f1 b hb];exact (hp1 b hb λq=>hv (.inr q)).1
      ·rintro b (hb | hb)
       ·exact Nat.lt_of_lt_of_le (lt.w b hb) r8
       ·exact r4.w b hb.1
      ·rintro b (hb | hb) hv
       ·simp only [f0 b hb];exact Nat.lt_of_lt_of_le (lt.p b hb λq=>hv (.inl q)) r9
       ·simp only [f1 b hb];exact (hp1 b hb λq=>hv (.inr q)).2
      ·intro b' hb';obtain ⟨b,q1,q2,q3,q4,_⟩:=hreach b' hb';exact ⟨b,q1,by simp only [f0 b q4];exact q2,λq=>q3 ((u1 b q4).2.2.1 q),.inl q4⟩
      ·intro b' hb';refine .inr ⟨n,_,rfl,rfl,?_,?_,?_⟩
       ·simp only [ups,List.map_reverse,List.mem_reverse,List.mem_map,List.mem_filter,decide_eq_true_eq] at hb';obtain ⟨_,⟨x,⟨_,q⟩,rfl⟩,rfl⟩:=hb';exact q.1
       ·simp only [ups,List.map_reverse,List.mem_reverse,List.mem_map,List.mem_filter,decide_eq_true_eq] at hb';obtain ⟨_,⟨x,⟨_,q⟩,rfl⟩,rfl⟩:=hb';exact q.2
       ·rintro c (hc | hc) hv he
        ·simp only [f0 c hc] at he;have h1:=lt.p c hc λq=>hv (.inl q);have h2:m<=b':=by simp only [ups,List.map_reverse,List.mem_reverse,List.mem_map,List.mem_filter,decide_eq_true_eq] at hb';obtain ⟨_,⟨x,⟨_,q⟩,rfl⟩,rfl⟩:=hb';exact q.1
         omega
        ·exact hA1 c hc
    ·rw [if_neg hdb] at h2k |-;obtain rfl:=Option.some.inj h2k;simp only at *;obtain ⟨k1,k2⟩:=marks_ok H _ _ hreach;have hA1:∀ b,A1 b->n<=b:=λb hb=>(r6 b hb).elim (λq=>q.elim) id;have hp1:∀ b,A1 b->¬ V1 b->m<=ρ1 b/\ρ1 b < m0:=λb hb hv=>⟨(r7 b hb hv).elim (λq=>q.1.elim) id,r4.p b hb hv⟩;obtain ⟨u1,u2,u3⟩:=k1.union r3 lt.w hA1 lt.p hp1;refine ⟨.deep v0' (markFrozen h' (args'.flatMap (reach h' frzDepth))++ups m m0 h0') m0,(λb=>if n<=b then ρ1 b else ρ b),(λb=>V b\/V1 b),(λb=>A b\/A1 b),?_,?_⟩
     ·simp only [evCall,erProg,hi,Bool.true_or,if_true,hdp,Bool.and_self,h4,ob,deepCall,r1,om,deepKeep,deepU,if_neg hdb]
     ·have f0:∀ b,A b->(if n<=b then ρ1 b else ρ b)=ρ b:=λb hb=>(u1 b hb).2.1;have f1:∀ b,A1 b->(if n<=b then ρ1 b else ρ b)=ρ1 b:=λb hb=>(u2 b hb).2.1;simp only [doneCallW,doneCall];refine ⟨r2.mono u2,by rw [applyUpd_append];exact u3,u1,?_,?_,⟨?_,?_⟩,r8,r9,λq=>(by cases q),?_,?_⟩
      ·rintro b (hb | hb)
       ·exact .inl hb
       ·exact .inr (.inr (hA1 b hb))
      ·rintro b (hb | hb) hv
       ·exact .inl ⟨hb,(u1 b hb).2.1⟩
       ·refine .inr (.inr ?_);simp only [f1 b hb];exact (hp1 b hb λq=>hv (.inr q)).1
      ·rintro b (hb | hb)
       ·exact Nat.lt_of_lt_of_le (lt.w b hb) r8
       ·exact r4.w b hb
      ·rintro b (hb | hb) hv
       ·simp only [f0 b hb];exact Nat.lt_of_lt_of_le (lt.p b hb λq=>hv (.inl q)) r9
       ·simp only [f1 b hb];exact r4.p b hb λq=>hv (.inr q)
      ·intro b' hb';obtain ⟨b,q1,q2,q3,q4,_⟩:=hreach b' hb';exact ⟨b,q1,by simp only [f0 b q4];exact q2,λq=>q3 ((u1 b q4).2.2.1 q),.inl q4⟩
      ·intro b' hb';rw [List.map_append] at hb';rcases List.mem_append.1 hb' with hb' | hb'
       ·obtain ⟨c,s1,s2,s3,s4⟩:=k2 b' hb';exact .inl ⟨c,s1,by simp only [f0 c s4];exact s2,λq=>s3 ((u1 c s4).2.2.1 q),.inl s4⟩
       ·refine .inr ⟨n,_,rfl,rfl,?_,?_,?_⟩
        ·simp only [ups,List.map_reverse,List.mem_reverse,List.mem_map,List.mem_filter,decide_eq_true_eq] at hb';obtain ⟨_,⟨x,⟨_,q⟩,rfl⟩,rfl⟩:=hb';exact q.1
        ·simp only [ups,List.map_reverse,List.mem_reverse,List.mem_map,List.mem_filter,decide_eq_true_eq] at hb';obtain ⟨_,⟨x,⟨_,q⟩,rfl⟩,rfl⟩:=hb';exact q.2
        ·rintro c (hc | hc) hv he
         ·simp only [f0 c hc] at he;have h1:=lt.p c hc λq=>hv (.inl q);have h2:m<=b':=by simp only [ups,List.map_reverse,List.mem_reverse,List.mem_map,List.mem_filter,decide_eq_true_eq] at hb';obtain ⟨_,⟨x,⟨_,q⟩,rfl⟩,rfl⟩:=hb';exact q.1
          omega
         ·exact hA1 c hc
   rw [if_neg hdp] at h2;obtain ⟨x,h3,hend⟩:=ob_some h2;unfold freshEndW at hend;split at hend
   ·cases hend
   rename_i hbr0;cases hend;have hbr:isBr f=true->bareXW x=true:=by intro hb;simpa [hb] using hbr0
   obtain ⟨az',h4,h5⟩:=mapO_of_rel (λx y hxy x' hx'=>frz_vw H frzDepth x y x' hxy hx') ha h1;obtain ⟨⟨v0,h0,n0⟩,hrun,hx⟩:=ob_some h3;obtain ⟨v0',h0',m0,ρ1,V1,A1,r1,r2,r3,r4,_⟩:=hr f az [] 0 v0 h0 n0 hrun ρ (λ_=>False) (λ_=>False) az' [] 0 (h5.mono λx x' _ hx=>hx.data) ⟨λb o hb=>by simp [Pav.get] at hb,λb o hb=>by simp [Pav.get] at hb,λb o hb=>by simp [Pav.get] at hb,λb hb=>hb.elim,λb c hb=>hb.elim⟩ ⟨λb hb=>hb.elim,λb hb=>hb.elim⟩;have hmk:HW ρ V A (applyW h (freshUW f (markFrozenW h (args.flatMap (reachW h frzDepth))))) (applyUpd h' (freshU f (markFrozen h' (args'.flatMap (reach h' frzDepth))))) /\
    ∀ b' ∈ (freshU f (markFrozen h' (args'.flatMap (reach h' frzDepth)))).map (·.1),∃ b ∈ (freshUW f (markFrozenW h (args.flatMap (reachW h frzDepth)))).map (·.1),b'=ρ b/\¬ V b/\A b:=by
    unfold freshU freshUW;split
    ·exact ⟨H,λb hb=>by simp at hb⟩
    ·exact marks_ok H _ _ hreach
   obtain ⟨k1,k2⟩:=hmk;have hgo:∀ {x':AV × Upd},freshCall run' f az' mid=some x'->(isBr f=true->bareX x'=true)->evCall (erProg C) run' f args' h' mid m=some (.data x'.1 (freshU f (markFrozen h' (args'.flatMap (reach h' frzDepth)))++x'.2)):=by
    intro x' hx' hb';have hb2:(isBr f&&!bareX x')=false:=by
     cases hq:isBr f with
     | false=>rfl
     | true=>simp [hb' hq]
    have hdp':isDp f=false:=by simpa using hdp
    simp only [evCall,erProg,hi,Bool.true_or,if_true,hfr,hdp',Bool.and_self,Bool.and_false,h4,hx',ob,freshEnd,hb2,Bool.false_eq_true,if_false]
   have rdOk:∀ {ρ':Nat->Nat} {V' A':Nat->Prop},(∀ b,A b->A' b/\ρ' b=ρ b/\(V' b↔V b))->∀ b' ∈ args'.flatMap (reach h' frzDepth),∃ c ∈ args.flatMap (reachW h frzDepth),b'=ρ' c/\¬ V' c/\A' c:=by intro ρ' V' A' hk b' hb';obtain ⟨b,q1,q2,q3,q4,_⟩:=hreach b' hb';obtain ⟨s1,s2,s3⟩:=hk b q4;exact ⟨b,q1,by rw [s2];exact q2,λq=>q3 (s3.1 q),s1⟩
   have hold2:∀ b,A b->addN A nid b/\up ρ nid mid b=ρ b/\(addN V nid b↔V b):=by
    intro b hb;have hne:b≠nid:=λe=>hn (e ▸ hb);refine ⟨.inl hb,by simp [up,hne],⟨λq=>?_,λq=>.inl q⟩⟩;rcases q with q | q
    ·exact q
    ·exact absurd q hne
   have hold1:∀ b,A b->addN A nid b/\up ρ nid mid b=ρ b/\(V b↔V b):=up_mono hn;have hVn:¬ V nid:=λq=>hn (H.sub nid q);simp only at hx;split at hx
   ·rename_i hown;obtain ⟨v,h6,rfl⟩:=om_some hx;have hnA:¬ A1 n0:=λq=>Nat.lt_irrefl _ (r4.w n0 q);obtain ⟨u',q1,q2⟩:=hand_vw (ρ2:=ρ) (V2:=V) (A2:=A) (b':=m0) (mid:=0) (λq=>absurd q hnA) r2 v h6;have q3:=none_vw (λq=>absurd q hnA) r2 v h6;have hfc:freshCall run' f az' mid=some (u',[]):=by unfold freshCall;rw [r1];simp only [ob,q3,q1,om]
    have hbx:isBr f=true->bareX (u',([]:Upd))=true:=by intro hb;have:=hbr hb;simp only [bareXW,bareX,List.all_nil,Bool.and_true] at this |-;exact bare_vw q2 this
    refine ⟨_,ρ,V,A,hgo hfc hbx,?_⟩;simp only [doneCallW,doneCall,List.append_nil];exact ⟨q2,k1,Keeps.refl ρ V A,λb hb=>.inl hb,λb hb _=>.inl ⟨hb,rfl⟩,lt,Nat.le_refl _,Nat.le_refl _,λq=>(by cases q),rdOk λb hb=>⟨hb,rfl,Iff.rfl⟩,λb hb=>.inl (k2 b hb)⟩
   ·rename_i b hown;unfold freshOfW at hx;split at hx
    ·rename_i z es mu dt hg;split at hx
     ·rename_i hmd;obtain ⟨v,h6,rfl⟩:=om_some hx;simp only [Bool.and_eq_true] at hmd;obtain ⟨rfl,rfl⟩:=hmd;have hA1:A1 b:=r3.dom b _ hg;by_cases hV1:V1 b
      ·obtain ⟨z',mu',dt',e⟩:=r3.virt b _ hg hV1;cases e;obtain ⟨u',q1,q2⟩:=hand_vw (ρ2:=up ρ nid mid) (V2:=addN V nid) (A2:=addN A nid) (b':=m0) (mid:=0) (λ_=>.inr ⟨hV1,.inr rfl,.inr rfl⟩) r2 v h6;have q3:=none_vw (λ_=>hV1) r2 v h6;have hfc:freshCall run' f az' mid=some (u',[]):=by unfold freshCall;rw [r1];simp only [ob,q3,q1,om]
       have hbx:isBr f=true->bareX (u',([]:Upd))=true:=by intro hb;have:=hbr hb;simp only [bareXW,bareX,List.all_nil,Bool.and_true,Bool.and_eq_true] at this |-;exact bare_vw q2 this.1
       refine ⟨_,up ρ nid mid,addN V nid,addN A nid,hgo hfc hbx,?_⟩;simp only [doneCallW,doneCall,List.append_nil];refine ⟨q2,?_,hold2,?_,?_,⟨?_,?_⟩,Nat.le_refl _,Nat.le_refl _,λq=>(by cases q),rdOk hold2,?_⟩
       ·rw [applyW_append];exact virt_ok k1 hn mid z true true
       ·rintro c (hc | hc)
        ·exact .inl hc
        ·exact .inr (.inl hc)
       ·rintro c (hc | hc) hv
        ·exact .inl ⟨hc,(hold2 c hc).2.1⟩
        ·exact absurd (.inr hc) hv
       ·rintro c (hc | hc)
        ·exact lt.w c hc
        ·subst hc;exact hnl
       ·rintro c (hc | hc) hv
        ·rw [(hold2 c hc).2.1];exact lt.p c hc λq=>hv (.inl q)
        ·exact absurd (.inr hc) hv
       ·intro b' hb';obtain ⟨c,s1,s2,s3,s4⟩:=k2 b' hb';obtain ⟨t1,t2,t3⟩:=hold2 c s4;exact .inl ⟨c,by simp only [wrOf];rw [List.map_append];exact List.mem_append_left _ s1,by rw [t2];exact s2,λq=>s3 (t3.1 q),t1⟩
      ·obtain ⟨o',g1,g2⟩:=r3.obj b _ hg hV1;obtain ⟨es',mu',rfl,e1,e2,e3⟩:=g2;have hmu:=e1 rfl;subst hmu;obtain ⟨u',q1,q2⟩:=hand_vw (ρ2:=up ρ nid mid) (V2:=V) (A2:=addN A nid) (b':=ρ1 b) (mid:=mid) (λ_=>.inl ⟨hV1,rfl,.inr rfl,hVn,by simp [up]⟩) r2 v h6;have q3:ownOf v0'=some (ρ1 b):=by
        rcases own_vw hA1 hV1 r2 v h6 with ⟨s1,_⟩ | ⟨_,s2⟩
        ·rw [hown] at s1;cases s1
        ·exact s2
       have hcells:Rel2 (Rel2 (VW (up ρ nid mid) V (addN A nid))) es es':=e2.mono λe e' he hee=>hee.mono λx x' hx hxx=>hxx.isC (e3 rfl e he x hx);have hpl:(es'.all λe=>e.all plainC)=true:=by rw [List.all_eq_true];intro e' he';rw [List.all_eq_true];intro x' hx';obtain ⟨j,hj,p1⟩:=List.getElem_of_mem he';obtain ⟨e,p2,p3⟩:=e2.get' (List.getElem?_eq_getElem hj);rw [p1] at p3;obtain ⟨k,hk,p4⟩:=List.getElem_of_mem hx';obtain ⟨x,p5,p6⟩:=p3.get' (List.getElem?_eq_getElem hk);rw [p4] at p6;exact plain_isC p6 (e3 rfl e (List.mem_of_getElem? p2) x (List.mem_of_getElem? p5))
       have hfc:freshCall run' f az' mid=some (u',[(mid,some (.cells z es' true))]):=by unfold freshCall;rw [r1];simp only [ob,q3,g1,freshOf,hpl,Bool.and_self,if_true,q1,om]
       have hbx:isBr f=true->bareX (u',[(mid,some (.cells z es' true))])=true:=by intro hb;have:=hbr hb;simp only [bareXW,bareX,List.all_nil,List.all_cons,bareOW,bareO,Bool.and_true,Bool.and_eq_true] at this |-;refine ⟨bare_vw q2 this.1,?_⟩;rw [List.all_eq_true];intro e' he';obtain ⟨j,hj,p1⟩:=List.getElem_of_mem he';obtain ⟨e,p2,p3⟩:=e2.get' (List.getElem?_eq_getElem hj);rw [p1] at p3;exact bareL_vw p3 (List.all_eq_true.1 this.2 e (List.mem_of_getElem? p2))
       refine ⟨_,up ρ nid mid,V,addN A nid,hgo hfc hbx,?_⟩;simp only [doneCallW,doneCall];refine ⟨q2,?_,hold1,?_,?_,⟨?_,?_⟩,Nat.le_refl _,Nat.le_refl _,λq=>(by cases q),rdOk hold1,?_⟩
       ·rw [applyW_append,applyUpd_append];exact new_ok k1 hn hm ⟨es',true,rfl,λ_=>rfl,hcells,e3⟩
       ·rintro c (hc | hc)
        ·exact .inl hc
        ·exact .inr (.inl hc)
       ·rintro c (hc | hc) hv
        ·exact .inl ⟨hc,(hold1 c hc).2.1⟩
        ·subst hc;exact .inr (.inl (by simp [up]))
       ·rintro c (hc | hc)
        ·exact lt.w c hc
        ·subst hc;exact hnl
       ·rintro c (hc | hc) hv
        ·rw [(hold1 c hc).2.1];exact lt.p c hc hv
        ·subst hc;simp only [up,if_true];exact hml
       ·intro b' hb';rw [List.map_append] at hb';rcases List.mem_append.1 hb' with hb' | hb'
        ·obtain ⟨c,s1,s2,s3,s4⟩:=k2 b' hb';obtain ⟨t1,t2,t3⟩:=hold1 c s4;exact .inl ⟨c,by simp only [wrOf];rw [List.map_append];exact List.mem_append_left _ s1,by rw [t2];exact s2,s3,t1⟩
        ·simp only [List.map_cons,List.map_nil,List.mem_singleton] at hb';subst hb';exact .inl ⟨nid,by simp only [wrOf];rw [List.map_append];exact List.mem_append_right _ Qw,by simp [up],hVn,.inr rfl⟩
     ·cases hx
    ·cases hx
  ·rename_i hfr;obtain ⟨r,h1,rfl⟩:=om_some hc;obtain ⟨r',ρ',V',A',r1,r2⟩:=whole h1;refine ⟨_,ρ',V',A',?_,r2⟩;have hfr:isFr f=false:=by simpa using hfr
   have hdp':isDp f=false:=by unfold isFr at hfr;unfold isDp;have:=of_decide_eq_false hfr;exact decide_eq_false Qq
   simp only [evCall,erProg,hi,Bool.true_or,if_true,hfr,hdp',Bool.and_false,Bool.false_eq_true,if_false,inlineCall,r1,om,tidy]
 ·rename_i hi;have hi:C.inl f=false:=by simpa using hi
  split at hc
  ·rename_i hp;obtain ⟨r,h1,rfl⟩:=om_some hc;obtain ⟨r',ρ',V',A',r1,r2⟩:=whole h1;refine ⟨_,ρ',V',A',?_,r2⟩;simp only [Bool.and_eq_true,Bool.not_eq_true'] at hp;simp only [evCall,erProg,hi,hp.1,hasPtrL_vw args hp.2 args' ha,Bool.false_or,Bool.not_false,Bool.and_self,if_true,Bool.false_and,Bool.false_eq_true,if_false,inlineCall,r1,om,tidy]
  ·rename_i hp;obtain ⟨az,h1,h2⟩:=ob_some hc;obtain ⟨v,h3,rfl⟩:=om_some h2;have hp':(!C.pp f&&hasPtrL args')=false:=by
    cases hpp:C.pp f with
    | true=>rfl
    | false =>
     rw [hpp] at hp;have h0:hasPtrL args=false:=by simpa using hp
     rw [noPtrL_vw args args' az ha h1 h0];rfl
   obtain ⟨az',h4,h5⟩:=mapO_of_rel (λx y hxy x' hx'=>frz_vw H frzDepth x y x' hxy hx') ha h1;obtain ⟨v',h6,h7⟩:=pure_sim hr h5 h3;have hreach:∀ b' ∈ args'.flatMap (reach h' frzDepth),∃ b ∈ args.flatMap (reachW h frzDepth),b'=ρ b/\¬ V b/\A b/\∃ z es mu dt,get h b=some (.cells z es mu dt):=by intro b' hb';simp only [List.mem_flatMap] at hb' |-;obtain ⟨u,hu,hb'⟩:=hb';obtain ⟨j,hj,q1⟩:=List.getElem_of_mem hu;obtain ⟨x,q2,q3⟩:=ha.get' (List.getElem?_eq_getElem hj);rw [q1] at q3;obtain ⟨x',_,q4⟩:=(mapO_some h1).2 j x q2;obtain ⟨b,q5,q6⟩:=reach_vw H frzDepth x u x' q3 q4 b' hb';exact ⟨b,⟨x,List.mem_of_getElem? q2,q5⟩,q6⟩
   refine ⟨.data v' (marks h' args' v'),ρ,V,A,by simp only [evCall,erProg,hi,hp',Bool.false_or,Bool.false_eq_true,if_false,h4,h6,om],?_⟩;have hmarks:HW ρ V A (applyW h (marksW h args v)) (applyUpd h' (marks h' args' v'))/\∀ b' ∈ (marks h' args' v').map (·.1),∃ b ∈ (marksW h args v).map (·.1),b'=ρ b/\¬ V b/\A b:=by
    unfold marks marksW;by_cases hr2:hasRefW frzDepth v=true
    ·rw [if_pos hr2];split
     ·exact marks_ok H _ _ hreach
     ·have:=marks_ok H (args.flatMap (reachW h frzDepth)) [] (λb hb=>by cases hb);exact ⟨this.1,λb hb=>by simp at hb⟩
    ·rw [if_neg hr2,if_neg (λq=>hr2 (hasRef_vw _ _ _ h7 q))];exact ⟨H,λb hb=>by simp at hb⟩
   refine ⟨h7.mono λ_ q=>q.elim,hmarks.1,Keeps.refl ρ V A,λb hb=>.inl hb,λb hb _=>.inl ⟨hb,rfl⟩,lt,Nat.le_refl _,Nat.le_refl _,λq=>(by cases q),λb' hb'=>?_,λb hb=>.inl (hmarks.2 b hb)⟩;obtain ⟨b,q1,q2,q3,q4,_⟩:=hreach b' hb';exact ⟨b,q1,q2,q3,q4⟩
theorem map_ev (he:EW ρ V A e e') {xs:List Opd} (hx:xs.all okO=true):Rel2 (VW ρ V A) (xs.map λx=>x.ev e) ((xs.map erO).map λx=>x.ev e'):=by
 rw [List.map_map];simp only [List.all_eq_true] at hx;refine ⟨by simp,λj x x' h1 h2=>?_⟩;rw [List.getElem?_map] at h1 h2;cases h3:xs[j]? with
 | none=>rw [h3] at h1;cases h1
 | some c=>rw [h3] at h1 h2;cases h1;cases h2;exact he.opd (hx c (List.mem_of_getElem? h3))
theorem rd_ok (he:EW ρ V A e e') {op:COp} (ho:okOp op=true) {r:AV × WUpd} (hs:stepW op e h n=some r):∀ b' ∈ readsOf e' (erOp op),∃ b ∈ readsOf e op,b'=ρ b/\¬ V b/\A b:=by
 have one:∀ {x:Opd},okO x=true->x.ev e≠.undef->∀ b' ∈ ptrId ((erO x).ev e'),∃ b ∈ ptrId (x.ev e),b'=ρ b/\¬ V b/\A b:=by
  intro x hx hun b' hb';have hv:=he.opd hx;cases hxe:x.ev e with
  | ptr b i o=>rw [hxe] at hv;obtain ⟨q,h1,h2⟩:=hv.ptr_inv;rw [q] at hb';simp [ptrId] at hb' |-;exact ⟨hb',h2,h1⟩
  | map b=>rw [hxe] at hv;obtain ⟨q,h1,h2⟩:=hv.map_inv;rw [q] at hb';simp [ptrId] at hb' |-;exact ⟨hb',h2,h1⟩
  | sl b z i len cap ex =>
   rw [hxe] at hv;rcases hv.sl_inv with ⟨h1,h2,ex',q,_⟩ | ⟨_,_,_,_,_,q⟩
   ·rw [q] at hb';simp [ptrId] at hb' |-;exact ⟨hb',h2,h1⟩
   ·rcases q with q | q <;> rw [q] at hb' <;> simp [ptrId] at hb'
  | undef=>exact absurd hxe hun
  | ro z es ex =>rw [hxe] at hv;rcases hv.ro_inv with ⟨_,q⟩ | ⟨_,_,q,_⟩ <;> rw [q] at hb' <;> simp [ptrId] at hb'
  | _=>rw [hxe] at hv;cases hnm:(erO x).ev e' <;> rw [hnm] at hv hb' <;> first | (cases hv;done) | (simp [ptrId] at hb';done)
 have two:∀ {x y:Opd},okO x=true->okO y=true->x.ev e≠.undef->y.ev e≠.undef->∀ b' ∈ ptrId ((erO x).ev e')++ptrId ((erO y).ev e'),∃ b ∈ ptrId (x.ev e)++ptrId (y.ev e),b'=ρ b/\¬ V b/\A b:=by
  intro x y hx hy hux huy b' hb';rcases List.mem_append.1 hb' with q | q
  ·obtain ⟨b,q1,q2⟩:=one hx hux b' q;exact ⟨b,List.mem_append.2 (.inl q1),q2⟩
  ·obtain ⟨b,q1,q2⟩:=one hy huy b' q;exact ⟨b,List.mem_append.2 (.inr q1),q2⟩
 have nil:∀ b' ∈ ([]:List Nat),∃ b ∈ readsOf e op,b'=ρ b/\¬ V b/\A b:=λb' hb'=>by cases hb'
 cases op with
 | load k ag a=>exact one ho (λq=>by simp [stepW,wLoad,ovW,om,wLoadOf,q] at hs)
 | sliceA k x lo hi =>simp only [okOp,Bool.and_eq_true] at ho;exact one ho.1 (λq=>by simp [stepW,wSliceA,wSliceOf,q] at hs)
 | store k a x =>simp only [okOp,Bool.and_eq_true] at ho;exact one ho.1 (λq=>by simp [stepW,wStore,wStoreOf,q] at hs)
 | next x=>exact one ho (λq=>by simp [stepW,wNext,q] at hs)
 | len kd x=>exact one ho (λq=>by simp [stepW,wLen,wEvLen,ovW,om,q] at hs)
 | look kd z ok m k =>simp only [okOp,Bool.and_eq_true] at ho;exact one ho.2.1 (λq=>by simp [stepW,wLook,q] at hs)
 | upd kd m k v =>simp only [okOp,Bool.and_eq_true] at ho;exact one ho.1 (λq=>by simp [stepW,wUpd,q] at hs)
 | app z bytes zeros s x =>
  simp only [okOp,Bool.and_eq_true] at ho;have hux:x.ev e≠.undef:=λq=>by simp [stepW,wApp,q,wElems,ob] at hs
  refine two ho.2.1 ho.2.2 (λq=>?_) hux;simp only [stepW,wApp,q] at hs;split at hs
  ·split at hs
   ·obtain ⟨_,_,hs⟩:=ob_some hs;split at hs
    ·simp [wEvApp] at hs
    ·cases hs
   ·cases hs
  ·split at hs
   ·obtain ⟨_,_,hs⟩:=ob_some hs;simp [wEvApp] at hs
   ·obtain ⟨_,_,hs⟩:=ob_some hs;simp [wFrzApp,snapOfW,ob] at hs
 | cpy z d s =>simp only [okOp,Bool.and_eq_true] at ho;refine two ho.1 ho.2 (λq=>?_) (λq=>by simp [stepW,wCpy,q,wElems,ob] at hs);simp only [stepW,wCpy,q] at hs;obtain ⟨_,_,hs⟩:=ob_some hs;simp [wCopyIn] at hs
 | clr z d =>simp only [okOp,Bool.and_eq_true] at ho;exact one ho.2 (λq=>by simp [stepW,wClr,wClrIn,q] at hs)
 | _=>exact nil
theorem wants_sim (he:EW ρ V A e e') {g:Option (Nat × Bool)} {b:Bool} (hw:wants e g=some b):wants e' g=some b:=by
 cases g with
 | none=>exact hw
 | some p =>
  obtain ⟨s,w⟩:=p;simp only [wants] at hw |-;cases hg:get e s with
  | none=>rw [hg] at hw;cases hw
  | some v =>
   obtain ⟨v',h1,h2⟩:=he s v hg;rw [hg] at hw;rw [h1];cases v with
   | bool b=>rw [h2.bool_inv];exact hw
   | tup vs =>
    cases vs with
    | nil =>obtain ⟨vs',rfl,hr⟩:=h2.tup_inv;rw [hr.inv_nil];exact hw
    | cons a r=>cases hw
   | _=>cases hw
theorem op_sim (hr:RunSim run run') (he:EW ρ V A e e') (H:HW ρ V A h h') (lt:Lts ρ V A n m) {nid mid:Nat} (hn:¬ A nid) (hnl:nid < n) (hm:∀ b,A b->¬ V b->ρ b≠mid) (hml:mid < m)
 {o:COper} (ho:okOp o.op=true) {d:WDid} (hd:evOpW C run o nid e h n=some d):∃ d' ρ' V' A',evOp (erProg C) run' (erOper o) mid e' h' m=some d'/\OpSim ρ V A nid n mid m d d' ρ' V' A':=by
 unfold evOpW at hd;cases hw:wants e o.guard with
 | none=>rw [hw] at hd;cases hd
 | some b =>
  rw [hw] at hd;have hw':=wants_sim he hw;cases b with
  | false =>simp only [Option.some.injEq] at hd;subst hd;refine ⟨⟨.tup [],h',m,false,[],[]⟩,ρ,V,A,by simp only [evOp,erOper,hw'],VW.mktup .nil,H,Keeps.refl ρ V A,λb hb=>.inl hb,λb hb _=>.inl ⟨hb,rfl⟩,lt,Nat.le_refl _,Nat.le_refl _,λq=>(by cases q),λb hb=>(by cases hb),λb hb=>(by cases hb)⟩
  | true =>
   simp only at hd;have goal:∃ d' ρ' V' A',evAct (erProg C) run' (erOp o.op) mid e' h' m=some d'/\OpSim ρ V A nid n mid m d d' ρ' V' A':=by
    have callCase:∀ (f:Nat) (args args':List AV),Rel2 (VW ρ V A) args args'->callOf e' (erOp o.op)=some (some (f,args'))->callOf e o.op=some (some (f,args)) ->
     ∃ d' ρ' V' A',evAct (erProg C) run' (erOp o.op) mid e' h' m=some d'/\OpSim ρ V A nid n mid m d d' ρ' V' A':=by
     intro f args args' ha hc' hc;simp only [evActW,hc] at hd;obtain ⟨c,h1,rfl⟩:=om_some hd;obtain ⟨c',ρ',V',A',h2,h3⟩:=call_sim hr H lt hn hnl hm hml ha h1;exact ⟨_,ρ',V',A',by simp only [evAct,hc',h2,om],h3⟩
    by_cases hcall:callOf e o.op=some none
    ·have hcall':callOf e' (erOp o.op)=some none:=by
      cases hop:o.op <;> rw [hop] at hcall <;> simp only [callOf,erOp] at hcall |-
      ·cases hcall
      ·split at hcall <;> cases hcall
     simp only [evActW,hcall] at hd;obtain ⟨r,h1,rfl⟩:=om_some hd;obtain ⟨r',h2,h3⟩:=stepW_ok he H hn hm ho h1;have hu:=up_mono (ρ:=ρ) (V:=V) (m:=mid) hn;have hVn:¬ V nid:=λq=>hn (H.sub nid q);refine ⟨_,up ρ nid mid,V,addN A nid,by simp only [evAct,hcall',h2,om];rfl,h3.1,h3.2.1,hu,?_,?_,⟨?_,?_⟩,Nat.le_refl _,Nat.le_refl _,λq=>(by cases q),?_,?_⟩
     ·rintro b (hb | rfl)
      ·exact .inl hb
      ·exact .inr (.inl rfl)
     ·rintro b (hb | rfl) hv
      ·exact .inl ⟨hb,(hu b hb).2.1⟩
      ·exact .inr (.inl (by simp [up]))
     ·rintro b (hb | rfl)
      ·exact lt.w b hb
      ·exact hnl
     ·rintro b (hb | rfl) hv
      ·rw [(hu b hb).2.1];exact lt.p b hb hv
      ·simp only [up,if_true];exact hml
     ·intro b' hb';obtain ⟨b,q1,q2,q3,q4⟩:=rd_ok he ho h1 b' hb';exact ⟨b,q1,by rw [(hu b q4).2.1];exact q2,q3,.inl q4⟩
     ·intro b' hb';exact .inl (h3.2.2 b' hb')
    ·cases hop:o.op with
     | call f args =>rw [hop] at ho;have:=callCase f _ _ (map_ev he ho) (by rw [hop];rfl) (by rw [hop];rfl);rwa [hop] at this
     | callv g args =>
      rw [hop] at ho;simp only [okOp,Bool.and_eq_true] at ho;have hg:=he.opd ho.1;cases hge:g.ev e with
      | fn f caps =>rw [hge] at hg;obtain ⟨caps',q,hrel⟩:=hg.fn_inv;have:=callCase f _ _ ((map_ev he ho.2).append hrel) (by rw [hop];simp only [erOp,callOf,q]) (by rw [hop];simp only [callOf,hge]);rwa [hop] at this
      | _ =>exfalso;rw [hop] at hd;simp only [evActW,callOf,hge] at hd;cases hd
     | _=>exact absurd (by rw [hop];rfl) hcall
   obtain ⟨d',ρ',V',A',h1,h2⟩:=goal;exact ⟨d',ρ',V',A',by simp only [evOp,erOper,hw'];exact h1,h2⟩
end
end Go.Pw
end
section
set_option linter.unusedSimpArgs false
set_option linter.unusedVariables false
namespace Go.Pw
open Go Go.Pav
def Srt (e:Env):Prop:=e.Pairwise λa b=>b.1 < a.1
theorem Srt.put {e:Env} (h:Srt e) (k:Nat) (v:AV):Srt (putE e k v):=by
 have mem:∀ (e:Env) x,x ∈ putE e k v->x=(k,v)\/x ∈ e:=by
  intro e;induction e with
  | nil=>intro x hx;simp [putE] at hx;exact .inl hx
  | cons y e ih =>
   intro x hx;obtain ⟨j,u⟩:=y;simp only [putE] at hx;split at hx
   ·rcases List.mem_cons.1 hx with q | q
    ·exact .inl q
    ·exact .inr q
   ·split at hx
    ·rcases List.mem_cons.1 hx with q | q
     ·exact .inl q
     ·exact .inr (List.mem_cons_of_mem _ q)
    ·rcases List.mem_cons.1 hx with q | q
     ·exact .inr (q ▸ List.mem_cons_self)
     ·rcases ih x q with q | q
      ·exact .inl q
      ·exact .inr (List.mem_cons_of_mem _ q)
 induction e with
 | nil=>exact List.pairwise_singleton _ _
 | cons y e ih =>
  obtain ⟨j,u⟩:=y;have h1:∀ x ∈ e,x.1 < j:=λx hx=>(List.pairwise_cons.1 h).1 x hx;have h2:Srt e:=(List.pairwise_cons.1 h).2;simp only [putE];split
  ·rename_i hk;refine List.pairwise_cons.2 ⟨λx hx=>?_,h⟩;rcases List.mem_cons.1 hx with rfl | q
   ·exact hk
   ·have:=h1 x q;simp only;omega
  ·rename_i hk;split
   ·rename_i hj;subst hj;exact List.pairwise_cons.2 ⟨h1,h2⟩
   ·rename_i hj;refine List.pairwise_cons.2 ⟨λx hx=>?_,ih h2⟩;rcases mem e x hx with rfl | q
    ·simp only;omega
    ·exact h1 x q
theorem Srt.setDst {e:Env} (h:Srt e) (d:Option Nat) (v:AV):Srt (setD e d v):=by
 cases d with
 | none=>exact h
 | some d=>exact h.put d v
theorem argW_eq:∀ (l:List AV) (k:Nat) (acc:Env),argW k l acc=(argEnv k l).reverse++acc:=by
 intro l;induction l with
 | nil=>intro k acc;rfl
 | cons v l ih=>intro k acc;simp [argW,argEnv,ih]
theorem srt_arg0:∀ (l:List AV) (k:Nat),(argEnv k l).Pairwise (λa b=>a.1 < b.1)/\∀ x ∈ argEnv k l,k<=x.1:=by
 intro l;induction l with
 | nil=>intro k;exact ⟨List.Pairwise.nil,λx hx=>by simp [argEnv] at hx⟩
 | cons v l ih =>
  intro k;obtain ⟨h1,h2⟩:=ih (k+1);refine ⟨List.pairwise_cons.2 ⟨λx hx=>by have:=h2 x hx;simp only;omega,h1⟩,λx hx=>?_⟩;rcases List.mem_cons.1 hx with rfl | q
  ·exact Nat.le_refl _
  ·have:=h2 x q;omega
theorem srt_arg (l:List AV) (k:Nat):Srt (argW k l []):=by rw [argW_eq,List.append_nil];exact List.pairwise_reverse.2 (srt_arg0 l k).1
theorem Srt.get {e:Env} (h:Srt e) {k:Nat} {v:AV} (hm:(k,v) ∈ e):Pav.get e k=some v:=by
 induction e with
 | nil=>cases hm
 | cons y e ih =>
  obtain ⟨j,u⟩:=y;have h1:∀ x ∈ e,x.1 < j:=λx hx=>(List.pairwise_cons.1 h).1 x hx;simp only [Pav.get];rcases List.mem_cons.1 hm with q | q
  ·cases q;simp
  ·have:=h1 _ q;simp only at this;rw [if_neg Qq];exact ih (List.pairwise_cons.1 h).2 q
theorem dropLt_mem {k a:Nat}:∀ {l:List Nat},a ∈ dropLt k l->a ∈ l:=by
 intro l;induction l with
 | nil=>intro h;exact h
 | cons b l ih =>
  intro h;simp only [dropLt] at h;split at h
  ·exact List.mem_cons_of_mem _ (ih h)
  ·exact h
theorem keepL_sub:∀ (e:Env) (live:List Nat),(keepL live e).Sublist e/\∀ x ∈ keepL live e,x.1 ∈ live:=by
 intro e;induction e with
 | nil=>intro live;simp [keepL_nil]
 | cons y e ih =>
  obtain ⟨j,u⟩:=y;intro live;simp only [keepL_cons];have hsub:∀ a ∈ dropLt j live,a ∈ live:=λa ha=>dropLt_mem ha;cases hd:dropLt j live with
  | nil=>simp [keepN]
  | cons a l =>
   rw [hd] at hsub;simp only [keepN];split
   ·rename_i ha;obtain ⟨h1,h2⟩:=ih l;refine ⟨h1.cons_cons _,λx hx=>?_⟩;rcases List.mem_cons.1 hx with rfl | q
    ·simp only;subst ha;exact hsub _ Qw
    ·exact hsub _ (List.mem_cons_of_mem _ (h2 x q))
   ·obtain ⟨h1,h2⟩:=ih (a::l);exact ⟨h1.cons _,λx hx=>hsub _ (h2 x hx)⟩
structure Sim (ρ:Nat->Nat) (V A:Nat->Prop) (s:WSt) (s':St):Prop where
 srt:Srt s.env
 env:EW ρ V A s.env s'.env
 heap:HW ρ V A s.heap s'.heap
 lt:Lts ρ V A s.next s'.next
def Old (base:Nat) (ρ:Nat->Nat) (V A:Nat->Prop) (ρ':Nat->Nat) (V' A':Nat->Prop):Prop:=∀ b,b < base->(A b->A' b/\ρ' b=ρ b/\(V' b↔V b))/\(A' b->A b)
theorem Old.refl (base:Nat) (ρ:Nat->Nat) (V A:Nat->Prop):Old base ρ V A ρ V A:=λ_ _=>⟨λh=>⟨h,rfl,Iff.rfl⟩,id⟩
theorem Old.trans {base:Nat} {ρ ρ1 ρ2:Nat->Nat} {V A V1 A1 V2 A2:Nat->Prop} (h:Old base ρ V A ρ1 V1 A1) (k:Old base ρ1 V1 A1 ρ2 V2 A2):Old base ρ V A ρ2 V2 A2:=λb hb =>⟨λha=>by obtain ⟨h1,h2,h3⟩:=(h b hb).1 ha;obtain ⟨k1,k2,k3⟩:=(k b hb).1 h1;exact ⟨k1,k2.trans h2,k3.trans h3⟩,λha=>(h b hb).2 ((k b hb).2 ha)⟩
section
variable {ρ:Nat->Nat} {V A:Nat->Prop} {n m:Nat} {h:WHeap} {h':Heap} {e e':Env}
theorem close_ok {base:Nat} {h:WHeap}:∀ (n:Nat) (w acc:List Nat),acc.Nodup->(∀ x ∈ acc,base<=x)->(close base h n w acc).Nodup/\∀ x ∈ close base h n w acc,base<=x:=by
 intro n;induction n with
 | zero=>intro w acc h1 h2;exact ⟨h1,h2⟩
 | succ n ih =>
  intro w acc h1 h2;cases w with
  | nil=>exact ⟨h1,h2⟩
  | cons b w =>
   simp only [close];split
   ·exact ih w acc h1 h2
   ·rename_i hb;split
    ·exact ih w acc h1 h2
    ·rename_i hc;refine ih _ _ ?_ ?_
     ·have hc:b ∉ acc:=by simpa using hc
      rw [List.nodup_append];exact ⟨h1,by simp,λx hx y hy=>by simp at hy;subst hy;rintro rfl;exact hc hx⟩
     ·intro x hx;rcases List.mem_append.1 hx with q | q
      ·exact h2 x q
      ·simp at q;subst q;omega
def pre (base:Nat) (L:List Nat) (b:Nat):Nat:=if b < base then b else L.getD (b - base) 0
theorem place_some:∀ {L:List Nat} {n b c:Nat},place n L b=some c->n<=c/\L[c - n]?=some b:=by
 intro L;induction L with
 | nil=>intro n b c h;simp [place] at h
 | cons a L ih =>
  intro n b c h;simp only [place] at h;split at h
  ·rename_i hb;cases h;subst hb;simp
  ·obtain ⟨h1,h2⟩:=ih h;refine ⟨by omega,?_⟩;have:c - n=(c - (n+1))+1:=by omega
   rw [this];simpa using h2
theorem place_at:∀ {L:List Nat} {n i b:Nat},L.Nodup->L[i]?=some b->place n L b=some (n+i):=by
 intro L;induction L with
 | nil=>intro n i b _ h;simp at h
 | cons a L ih =>
  intro n i b hd h;cases i with
  | zero=>simp at h;subst h;simp [place]
  | succ i =>
   simp only [List.getElem?_cons_succ] at h;simp only [List.nodup_cons] at hd;simp only [place];rw [if_neg]
   ·rw [ih hd.2 h];congr 1;omega
   ·rintro rfl;exact hd.1 (List.mem_of_getElem? h)
theorem newNum_pre {base:Nat} {L:List Nat} {b c:Nat} (h:newNum base L b=some c):pre base L c=b/\(c < base↔b < base)/\(c < base->c=b)/\(c < base\/c < base+L.length):=by
 unfold newNum at h;split at h
 ·rename_i hb;cases h;exact ⟨by simp [pre,hb],Iff.rfl,λ_=>rfl,.inl hb⟩
 ·rename_i hb;obtain ⟨h1,h2⟩:=place_some h;have hlt:=(List.getElem?_eq_some_iff.1 h2).1;refine ⟨?_,⟨λq=>by omega,λq=>absurd q hb⟩,λq=>by omega,.inr Qq⟩;unfold pre;rw [if_neg Qq,List.getD_eq_getElem?_getD,h2];rfl
theorem ren_vw {ρ':Nat->Nat} {V' A':Nat->Prop} {π:Nat->Option Nat} (hπ:∀ b c,A b->π b=some c->A' c/\ρ' c=ρ b/\(V' c↔V b)) (v:AV) :
 ∀ (u v':AV),VW ρ V A v u->ren π v=some v'->VW ρ' V' A' v' u:=by
 refine AV.rec (motive_1:=λv=>∀ (u v':AV),VW ρ V A v u->ren π v=some v'->VW ρ' V' A' v' u) (motive_2:=λ_=>True) (motive_3:=λl=>∀ (l' r:List AV),Rel2 (VW ρ V A) l l'->renL π l=some r->Rel2 (VW ρ' V' A') r l') ?_ ?_ ?_ ?_ ?_ ?_ ?_ ?_ ?_ ?_ ?_ ?_ ?_ ?_ ?_ ?_ ?_ ?_ ?_ ?_ v
 ·intro u v' _ h;simp only [ren,Option.some.injEq] at h;subst h;exact .undef _
 ·intro b u v' hu h;simp only [ren,Option.some.injEq] at h;subst h;rw [hu.bool_inv];exact .bool _
 ·intro b c u v' hu h;simp only [ren,Option.some.injEq] at h;subst h;rw [hu.int_inv];exact .int _ _
 ·intro b u v' hu h;simp only [ren,Option.some.injEq] at h;subst h;rw [hu.str_inv];exact .str _
 ·intro u v' hu h;simp only [ren,Option.some.injEq] at h;subst h;exact hu.isC rfl
 ·intro u v' hu h;simp only [ren,Option.some.injEq] at h;subst h;exact hu.isC rfl
 ·intro u v' hu h;simp only [ren,Option.some.injEq] at h;subst h;exact hu.isC rfl
 ·intro u v' hu h;simp only [ren,Option.some.injEq] at h;subst h;exact hu.isC rfl
 ·intro z es ex _ u v' hu h;simp only [ren,Option.some.injEq] at h;subst h;exact hu.isC rfl
 ·intro z _ u v' hu h;simp only [ren,Option.some.injEq] at h;subst h;exact hu.isC rfl
 ·intro b i o u v' hu h;obtain ⟨rfl,hA,hV⟩:=hu.ptr_inv;simp only [ren] at h;obtain ⟨c,h1,rfl⟩:=om_some h;obtain ⟨q1,q2,q3⟩:=hπ b c hA h1;rw [<- q2];exact .ptr c i o q1 (λq=>hV (q3.1 q))
 ·intro b z i len cap ex u v' hu h;simp only [ren] at h;obtain ⟨c,h1,rfl⟩:=om_some h;rcases hu.sl_inv with ⟨hA,hV,ex',rfl,hx⟩ | ⟨hA,hV,rfl,rfl,rfl,hv⟩
  ·obtain ⟨q1,q2,q3⟩:=hπ b c hA h1;rw [<- q2];exact .sl c z i len cap ex ex' q1 (λq=>hV (q3.1 q)) hx
  ·obtain ⟨q1,q2,q3⟩:=hπ b c hA h1;exact .slv c z ex u q1 (q3.2 hV) hv
 ·intro b u v' hu h;obtain ⟨rfl,hA,hV⟩:=hu.map_inv;simp only [ren] at h;obtain ⟨c,h1,rfl⟩:=om_some h;obtain ⟨q1,q2,q3⟩:=hπ b c hA h1;rw [<- q2];exact .map c q1 (λq=>hV (q3.1 q))
 ·intro f cs ih u v' hu h;obtain ⟨cs',rfl,hr⟩:=hu.fn_inv;simp only [ren] at h;obtain ⟨r,h1,rfl⟩:=om_some h;exact VW.mkfn (ih cs' r hr h1)
 ·intro cs ih u v' hu h;obtain ⟨cs',rfl,hr⟩:=hu.agg_inv;simp only [ren] at h;obtain ⟨r,h1,rfl⟩:=om_some h;exact VW.mkagg (ih cs' r hr h1)
 ·intro cs ih u v' hu h;obtain ⟨cs',rfl,hr⟩:=hu.tup_inv;simp only [ren] at h;obtain ⟨r,h1,rfl⟩:=om_some h;exact VW.mktup (ih cs' r hr h1)
 ·trivial
 ·intros;trivial
 ·intro l' r hr h;simp only [renL,Option.some.injEq] at h;subst h;rw [hr.inv_nil];exact .nil
 ·intro v l ih1 ih2 l' r hr h;obtain ⟨u,t,rfl,h1,h2⟩:=hr.inv_cons;simp only [renL] at h;obtain ⟨v',h3,h⟩:=ob_some h;obtain ⟨r',h4,rfl⟩:=om_some h;exact .cons (ih1 u v' h1 h3) (ih2 t r' h2 h4)
theorem renL_vw {ρ':Nat->Nat} {V' A':Nat->Prop} {π:Nat->Option Nat} (hπ:∀ b c,A b->π b=some c->A' c/\ρ' c=ρ b/\(V' c↔V b)):∀ (l l' r:List AV),Rel2 (VW ρ V A) l l'->renL π l=some r->Rel2 (VW ρ' V' A') r l':=by
 intro l;induction l with
 | nil=>intro l' r hr h;simp only [renL,Option.some.injEq] at h;subst h;rw [hr.inv_nil];exact .nil
 | cons v l ih =>intro l' r hr h;obtain ⟨u,t,rfl,h1,h2⟩:=hr.inv_cons;simp only [renL] at h;obtain ⟨v',h3,h⟩:=ob_some h;obtain ⟨r',h4,rfl⟩:=om_some h;exact .cons (ren_vw hπ v u v' h1 h3) (ih t r' h2 h4)
theorem renEnv_ew {ρ':Nat->Nat} {V' A':Nat->Prop} {π:Nat->Option Nat} (_hπ:∀ b c,A b->π b=some c->A' c/\ρ' c=ρ b/\(V' c↔V b)):∀ (e:Env) (r:Env),renEnv π e=some r->∀ k v',get r k=some v'->∃ v,get e k=some v/\ren π v=some v':=by
 intro e;induction e with
 | nil=>intro r h k v' hk;simp only [renEnv,Option.some.injEq] at h;subst h;simp [Pav.get] at hk
 | cons x e ih =>
  obtain ⟨j,v⟩:=x;intro r h k v' hk;simp only [renEnv] at h;obtain ⟨w,h1,h⟩:=ob_some h;obtain ⟨r',h2,rfl⟩:=om_some h;simp only [Pav.get] at hk |-;split at hk
  ·rename_i hj;rw [if_pos hj];cases hk;exact ⟨v,rfl,h1⟩
  ·rename_i hj;rw [if_neg hj];exact ih r' h2 k v' hk
theorem renEnv_keys {π:Nat->Option Nat}:∀ (e r:Env),renEnv π e=some r->r.map (·.1)=e.map (·.1):=by
 intro e;induction e with
 | nil=>intro r h;simp only [renEnv,Option.some.injEq] at h;subst h;rfl
 | cons x e ih =>obtain ⟨j,v⟩:=x;intro r h;simp only [renEnv] at h;obtain ⟨w,h1,h⟩:=ob_some h;obtain ⟨r',h2,rfl⟩:=om_some h;simp only [List.map_cons,ih r' h2]
theorem Srt.keys {e r:Env} (h:Srt e) (hk:r.map (·.1)=e.map (·.1)):Srt r:=by have h1:(e.map (·.1)).Pairwise (λa b=>b < a):=List.pairwise_map.2 h;rw [<- hk] at h1;exact List.pairwise_map.1 h1
theorem renOld_get {base:Nat} {π:Nat->Option Nat}:∀ (h r:WHeap),renOld base π h=some r->∀ k o',get r k=some o'->k < base/\∃ o,get h k=some o/\renObj π o=some o':=by
 intro h;induction h with
 | nil=>intro r h k v' hk;simp only [renOld,Option.some.injEq] at h;subst h;simp [Pav.get] at hk
 | cons x h ih =>
  obtain ⟨j,v⟩:=x;intro r h k o' hk;simp only [renOld] at h;split at h
  ·rename_i hj;obtain ⟨w,h1,h⟩:=ob_some h;obtain ⟨r',h2,rfl⟩:=om_some h;simp only [Pav.get] at hk |-;split at hk
   ·rename_i hjk;rw [if_pos hjk];cases hk;exact ⟨hjk ▸ hj,v,rfl,h1⟩
   ·rename_i hjk;rw [if_neg hjk];exact ih r' h2 k o' hk
  ·rename_i hj;obtain ⟨q1,o,q2,q3⟩:=ih r h k o' hk;refine ⟨q1,o,?_,q3⟩;simp only [Pav.get];rw [if_neg Qq];exact q2
theorem renNew_get {π:Nat->Option Nat} {h:WHeap}:∀ (L:List Nat) (n:Nat) (r:WHeap),renNew π h n L=some r->∀ k o',get r k=some o'->∃ i b o,k=n+i/\L[i]?=some b/\get h b=some o/\renObj π o=some o':=by
 intro L;induction L with
 | nil=>intro n r h k v' hk;simp only [renNew,Option.some.injEq] at h;subst h;simp [Pav.get] at hk
 | cons b L ih =>
  intro n r h k o' hk;simp only [renNew] at h;split at h
  ·rename_i o ho;obtain ⟨w,h1,h⟩:=ob_some h;obtain ⟨r',h2,rfl⟩:=om_some h;simp only [Pav.get] at hk;split at hk
   ·rename_i hjk;cases hk;exact ⟨0,b,o,by omega,by simp,ho,h1⟩
   ·obtain ⟨i,b',o2,q1,q2,q3,q4⟩:=ih (n+1) r' h2 k o' hk;exact ⟨i+1,b',o2,by omega,by simpa using q2,q3,q4⟩
  ·obtain ⟨i,b',o2,q1,q2,q3,q4⟩:=ih (n+1) r h k o' hk;exact ⟨i+1,b',o2,by omega,by simpa using q2,q3,q4⟩
theorem get_append {α:Type}:∀ (l r:List (Nat × α)) (k:Nat),get (l++r) k=match get l k with | some x=>some x | none=>get r k:=by
 intro l;induction l with
 | nil=>intro r k;rfl
 | cons x l ih =>
  intro r k;obtain ⟨j,v⟩:=x;simp only [List.cons_append,Pav.get];split
  ·rfl
  ·exact ih r k
theorem mapO_ren {ρ':Nat->Nat} {V' A':Nat->Prop} {π:Nat->Option Nat} (hπ:∀ b c,A b->π b=some c->A' c/\ρ' c=ρ b/\(V' c↔V b)):∀ (es es' r:List (List AV)),Rel2 (Rel2 (VW ρ V A)) es es'->mapO (renL π) es=some r->Rel2 (Rel2 (VW ρ' V' A')) r es':=by
 intro es;induction es with
 | nil=>intro l' r hr h;simp only [mapO,Option.some.injEq] at h;subst h;rw [hr.inv_nil];exact .nil
 | cons v l ih =>intro l' r hr h;obtain ⟨u,t,rfl,h1,h2⟩:=hr.inv_cons;simp only [mapO] at h;obtain ⟨v',h3,h⟩:=ob_some h;obtain ⟨r',h4,rfl⟩:=om_some h;exact .cons (renL_vw hπ v u v' h1 h3) (ih t r' h2 h4)
theorem renObj_ow {ρ':Nat->Nat} {V' A':Nat->Prop} {π:Nat->Option Nat} (hπ:∀ b c,A b->π b=some c->A' c/\ρ' c=ρ b/\(V' c↔V b)) {o o2:WObj} {o':AObj} (ho:OW ρ V A o o') (hr:renObj π o=some o2):OW ρ' V' A' o2 o':=by
 cases o with
 | cells z es mu dt =>
  obtain ⟨es',mu',rfl,h2,h3,h4⟩:=ho;simp only [renObj] at hr;split at hr
  ·rename_i hd;cases hr;exact ⟨es',mu',rfl,h2,h3.mono λe e' he hee=>hee.mono λx x' hx hxx=>hxx.isC (h4 hd e he x hx),h4⟩
  ·rename_i hd;obtain ⟨es2,h5,rfl⟩:=om_some hr;exact ⟨es',mu',rfl,h2,mapO_ren hπ es es' es2 h3 h5,λq=>absurd q hd⟩
 | map es =>simp only [renObj,Option.some.injEq] at hr;subst hr;obtain ⟨es',rfl,h2⟩:=ho;exact ⟨es',rfl,h2.mono λx y _ hxy=>⟨hxy.1,hxy.2.data⟩⟩
 | iter s p =>simp only [renObj,Option.some.injEq] at hr;subst hr;exact ho
theorem renumber_sim {base:Nat} {s s2:WSt} {s':St} (S:Sim ρ V A s s') {L:List Nat} (hL:L.Nodup) (hLb:∀ x ∈ L,base<=x) (hr:renumber base s L=some s2) :
 ∃ ρ' V' A',Sim ρ' V' A' s2 s'/\base<=s2.next/\Old base ρ V A ρ' V' A'/\(∀ b,A' b->¬ V' b->∃ c,A c/\¬ V c/\ρ' b=ρ c/\(base<=b->base<=c)):=by
 unfold renumber at hr;obtain ⟨e,h1,hr⟩:=ob_some hr;obtain ⟨h1',h2,hr⟩:=ob_some hr;obtain ⟨h2',h3,rfl⟩:=om_some hr;let ρ':=λc=>ρ (pre base L c);let A':=λc=>∃ b,A b/\newNum base L b=some c;let V':=λc=>V (pre base L c)/\A' c;have hπ:∀ b c,A b->newNum base L b=some c->A' c/\ρ' c=ρ b/\(V' c↔V b):=by intro b c hb hc;have:=(newNum_pre hc).1;exact ⟨⟨b,hb,hc⟩,by show ρ (pre base L c)=ρ b;rw [this],by show V (pre base L c)/\A' c↔V b;rw [this];exact ⟨λq=>q.1,λq=>⟨q,b,hb,hc⟩⟩⟩
 have hgetH:∀ c o2,get (h1'++h2') c=some o2->∃ b o,newNum base L b=some c/\get s.heap b=some o/\renObj (newNum base L) o=some o2:=by
  intro c o2 hc;rw [get_append] at hc;split at hc
  ·rename_i x hx;cases hc;obtain ⟨q1,o,q2,q3⟩:=renOld_get _ _ h2 c o2 hx;exact ⟨c,o,by simp [newNum,q1],q2,q3⟩
  ·obtain ⟨i,b,o,rfl,q2,q3,q4⟩:=renNew_get _ _ _ h3 c o2 hc;refine ⟨b,o,?_,q3,q4⟩;unfold newNum;rw [if_neg (by have:=hLb b (List.mem_of_getElem? q2);omega)];exact place_at hL q2
 refine ⟨ρ',V',A',⟨S.srt.keys (renEnv_keys _ _ h1),?_,?_,?_⟩,Nat.le_add_right _ _,?_,?_⟩
 ·intro k v' hk;obtain ⟨v,q1,q2⟩:=renEnv_ew (ρ':=ρ') (V':=V') (A':=A') hπ _ _ h1 k v' hk;obtain ⟨u,q3,q4⟩:=S.env k v q1;exact ⟨u,q3,ren_vw hπ v u v' q4 q2⟩
 ·refine ⟨λc o hc=>?_,λc o hc hv=>?_,λc o hc hv=>?_,?_,?_⟩
  ·obtain ⟨b,o1,q1,q2,q3⟩:=hgetH c o hc;exact ⟨b,S.heap.dom b o1 q2,q1⟩
  ·obtain ⟨b,o1,q1,q2,q3⟩:=hgetH c o hc;have hvb:V b:=((hπ b c (S.heap.dom b o1 q2) q1).2.2).1 hv;obtain ⟨z,mu,dt,rfl⟩:=S.heap.virt b o1 q2 hvb;simp only [renObj,mapO,om] at q3;split at q3 <;> cases q3 <;> exact ⟨_,_,_,rfl⟩
  ·obtain ⟨b,o1,q1,q2,q3⟩:=hgetH c o hc;obtain ⟨p1,p2,p3⟩:=hπ b c (S.heap.dom b o1 q2) q1;obtain ⟨o',q4,q5⟩:=S.heap.obj b o1 q2 (λq=>hv (p3.2 q));exact ⟨o',by rw [p2];exact q4,renObj_ow hπ q5 q3⟩
  ·exact λc hc=>hc.2
  ·rintro c d ⟨b,hb,hbc⟩ ⟨a,ha,had⟩ vc vd hcd;obtain ⟨_,p2,p3⟩:=hπ b c hb hbc;obtain ⟨_,r2,r3⟩:=hπ a d ha had;rw [p2,r2] at hcd;have:=S.heap.inj b a hb ha (λq=>vc (p3.2 q)) (λq=>vd (r3.2 q)) hcd;subst this;rw [hbc] at had;cases had;rfl
 ·refine ⟨?_,?_⟩
  ·rintro c ⟨b,hb,hbc⟩;rcases (newNum_pre hbc).2.2.2 with q | q
   ·exact Nat.lt_of_lt_of_le q (Nat.le_add_right _ _)
   ·exact q
  ·rintro c ⟨b,hb,hbc⟩ hv;obtain ⟨_,p2,p3⟩:=hπ b c hb hbc;rw [p2];exact S.lt.p b hb (λq=>hv (p3.2 q))
 ·intro b hb;have hnb:newNum base L b=some b:=by simp [newNum,hb]
  refine ⟨λha=>hπ b b ha hnb,?_⟩;rintro ⟨c,hc,hcb⟩;have:=(newNum_pre hcb).2.2.1 hb;rw [this];exact hc
 ·rintro c ⟨b,hb,hbc⟩ hv;obtain ⟨_,p2,p3⟩:=hπ b c hb hbc;exact ⟨b,hb,λq=>hv (p3.2 q),p2,λq=>by have:=(newNum_pre hbc).2.1;omega⟩
theorem grow_sim {base:Nat}:∀ (g:List (Nat × Nat)) (s:WSt) (s':St) (ρ:Nat->Nat) (V A:Nat->Prop),Sim ρ V A s s'->base<=s.next ->
 ∃ V' A',Sim ρ V' A' (growAll g s) s'/\base<=(growAll g s).next/\Old base ρ V A ρ V' A'/\∀ b,A' b->¬ V' b->A b/\¬ V b:=by
 intro g;induction g with
 | nil=>intro s s' ρ V A S hb;exact ⟨V,A,S,hb,Old.refl base ρ V A,λb h1 h2=>⟨h1,h2⟩⟩
 | cons x g ih =>
  intro s s' ρ V A S hb;obtain ⟨k,z⟩:=x;simp only [growAll];split
  ·rename_i v hk;have key:∃ V' A',Sim ρ V' A' (growOne s k z v) s'/\base<=(growOne s k z v).next/\Old base ρ V A ρ V' A'/\∀ b,A' b->¬ V' b->A b/\¬ V b:=by
    unfold growOne;split
    ·rename_i z';split
     ·rename_i hz;subst hz;obtain ⟨v',h1,h2⟩:=S.env k _ hk;have hn:¬ A s.next:=λq=>Nat.lt_irrefl _ (S.lt.w _ q)
      have hu:∀ b,A b->addN A s.next b/\ρ b=ρ b/\((V b\/b=s.next)↔V b):=λb hb=>⟨.inl hb,rfl,⟨λq=>q.elim id λe=>absurd (e ▸ hb) hn,.inl⟩⟩
      have hv':v'=.nils\/v'=.ro z' [] true:=by
       rcases h2.ro_inv with ⟨_,rfl⟩ | ⟨es',ex',rfl,hx,hr,_⟩
       ·exact .inl rfl
       ·rw [hr.inv_nil,hx rfl];exact .inr rfl
      refine ⟨λb=>V b\/b=s.next,addN A s.next,⟨S.srt.put _ _,?_,?_,?_⟩,by simp only;omega,?_,?_⟩
      ·intro j u hj;simp only at hj;rw [get_putE] at hj;split at hj
       ·rename_i hkj;cases hj;subst hkj;exact ⟨v',h1,.slv _ _ _ _ (.inr rfl) (.inr rfl) hv'⟩
       ·exact (S.env.mono hu) j u hj
      ·have H:=S.heap;refine ⟨λb o hb=>?_,λb o hb hv=>?_,λb o hb hv=>?_,?_,?_⟩
       ·rw [get_put] at hb;split at hb
        ·rename_i q;exact .inr q.symm
        ·exact .inl (H.dom b o hb)
       ·rw [get_put] at hb;split at hb
        ·cases hb;exact ⟨_,_,_,rfl⟩
        ·rename_i q;rcases hv with hv | hv
         ·exact H.virt b o hb hv
         ·exact absurd hv.symm q
       ·rw [get_put] at hb;split at hb
        ·rename_i q;exact absurd (.inr q.symm) hv
        ·obtain ⟨o',q1,q2⟩:=H.obj b o hb (λq=>hv (.inl q));exact ⟨o',q1,q2.mono hu⟩
       ·rintro b (hb | hb)
        ·exact .inl (H.sub b hb)
        ·exact .inr hb
       ·rintro b c (hb | hb) (hc | hc) vb vc hbc
        ·exact H.inj b c hb hc (λq=>vb (.inl q)) (λq=>vc (.inl q)) hbc
        ·exact absurd (.inr hc) vc
        ·exact absurd (.inr hb) vb
        ·exact absurd (.inr hb) vb
      ·refine ⟨?_,?_⟩
       ·rintro b (hb | rfl)
        ·exact Nat.lt_succ_of_lt (S.lt.w b hb)
        ·exact Nat.lt_succ_self _
       ·rintro b (hb | rfl) hv
        ·exact S.lt.p b hb (λq=>hv (.inl q))
        ·exact absurd (.inr rfl) hv
      ·intro b hbb;exact ⟨hu b,λq=>q.elim id λe=>by omega⟩
      ·rintro b (hb | rfl) hv
       ·exact ⟨hb,λq=>hv (.inl q)⟩
       ·exact absurd (.inr rfl) hv
     ·exact ⟨V,A,S,hb,Old.refl base ρ V A,λb h1 h2=>⟨h1,h2⟩⟩
    ·exact ⟨V,A,S,hb,Old.refl base ρ V A,λb h1 h2=>⟨h1,h2⟩⟩
   obtain ⟨V1,A1,S1,b1,o1,n1⟩:=key;obtain ⟨V2,A2,S2,b2,o2,n2⟩:=ih _ s' ρ V1 A1 S1 b1;exact ⟨V2,A2,S2,b2,o1.trans o2,λb q1 q2=>by obtain ⟨q3,q4⟩:=n2 b q1 q2;exact n1 b q3 q4⟩
  ·exact ih s s' ρ V A S hb
theorem testBit_bitsOf (k:Nat):∀ l:List Nat,(bitsOf l).testBit k=l.contains k:=by
 intro l;induction l with
 | nil=>simp [bitsOf]
 | cons a l ih =>
  simp only [bitsOf,Nat.testBit_or,ih,Nat.testBit_two_pow,List.contains_cons];congr 1;by_cases h:a=k
  ·subst h;simp
  ·have:(k == a)=false:=by simpa using Ne.symm h
   rw [this];simpa using h
theorem canon_sim {base:Nat} {a:Ann} {s s2:WSt} {s':St} (S:Sim ρ V A s s') (hb:base<=s.next) (hc:canon base a s=some s2) {s1:St} (hs1:s1=s'\/s1=dropEnv (maskOf a) s') :
 ∃ ρ' V' A',Sim ρ' V' A' s2 s1/\base<=s2.next/\Old base ρ V A ρ' V' A'/\∀ b,A' b->¬ V' b->∃ c,A c/\¬ V c/\ρ' b=ρ c/\(base<=b->base<=c):=by
 cases hcn:a.cn with
 | false =>
  have e1:maskOf a=0:=by simp only [maskOf,hcn]
  simp only [canon,hcn,Option.some.injEq] at hc;subst hc;have e2:s1=s':=by
   rcases hs1 with h | h
   ·exact h
   ·rw [h,e1];rfl
  subst e2;exact ⟨ρ,V,A,S,hb,Old.refl base ρ V A,λb h1 h2=>⟨b,h1,h2,rfl,id⟩⟩
 | true =>
 have S0:Sim ρ V A ⟨keepL a.live s.env,s.heap,s.next⟩ s1:=by
  have ek:∀ k v,get (keepL a.live s.env) k=some v->get s.env k=some v/\a.live.contains k=true:=by intro k v hk;obtain ⟨q1,q2⟩:=keepL_sub s.env a.live;have hm:=get_mem hk;exact ⟨S.srt.get (q1.subset hm),by simpa using q2 _ hm⟩
  have ks:Srt (keepL a.live s.env):=S.srt.sublist (keepL_sub s.env a.live).1;rcases hs1 with rfl | rfl
  ·exact ⟨ks,λk v hk=>S.env k v (ek k v hk).1,S.heap,S.lt⟩
  ·refine ⟨ks,λk v hk=>?_,S.heap,S.lt⟩;obtain ⟨h1,h2⟩:=ek k v hk;obtain ⟨v',h3,h4⟩:=S.env k v h1;refine ⟨v',?_,h4⟩;simp only [dropEnv,maskOf,hcn];split
   ·exact h3
   ·rw [get_keep,testBit_bitsOf,h2,if_pos rfl];exact h3
 obtain ⟨V1,A1,S1,b1,o1,n1⟩:=grow_sim (base:=base) a.grow _ s1 ρ V A S0 hb;simp only [canon,hcn] at hc;cases hnr:noRen a.grow with
 | true =>rw [hnr] at hc;simp only [Option.some.injEq] at hc;subst hc;exact ⟨ρ,V1,A1,S1,b1,o1,λb h1 h2=>by obtain ⟨c4,c5⟩:=n1 b h1 h2;exact ⟨b,c4,c5,rfl,id⟩⟩
 | false =>
 rw [hnr] at hc;simp only [canonG] at hc;obtain ⟨q1,q2⟩:=close_ok (base:=base) (h:=(growAll a.grow ⟨keepL a.live s.env,s.heap,s.next⟩).heap) 1000 (envRefs (growAll a.grow ⟨keepL a.live s.env,s.heap,s.next⟩).env++oldRefs base (growAll a.grow ⟨keepL a.live s.env,s.heap,s.next⟩).heap) [] Qw (λx hx=>by cases hx);obtain ⟨ρ',V',A',S2,b2,o2,n2⟩:=renumber_sim S1 q1 q2 hc;exact ⟨ρ',V',A',S2,b2,o1.trans o2,λb h1 h2=>by obtain ⟨c,c1,c2,c3⟩:=n2 b h1 h2;obtain ⟨c4,c5⟩:=n1 c c1 c2;exact ⟨c,c4,c5,c3⟩⟩
end
end Go.Pw
end
section
set_option linter.unusedSimpArgs false
set_option linter.unusedVariables false
namespace Go.Pw
open Go Go.Pav
variable {ρ:Nat->Nat} {V A:Nat->Prop}
theorem markRow_vw {a b:List AV} (hl:a.length=b.length) (hr:∀ (j:Nat) (x x':AV),a[j]?=some x->b[j]?=some x'->VW ρ V A x x') (h:markRow a=true):markRow b=true:=by
 unfold markRow at h;split at h
 ·match b,hl with
  | [y],_ =>have:=hr 0 _ y rfl rfl;cases this;rfl
 ·cases h
theorem marks_vw {x u:AV} (h:VW ρ V A x u) (hx:marksOk x=true):marksOk u=true:=by
 cases h with
 | nils=>rfl
 | ronil=>rfl
 | ro z es es' ex ex' hc hl hxx he hr =>
  simp only [marksOk,Bool.and_eq_true,decide_eq_true_eq,List.all_eq_true] at hx |-;refine ⟨hx.1,λe' he'=>?_⟩;obtain ⟨i,hi,rfl⟩:=List.mem_iff_getElem.1 he';have hi2:i < es.length:=by omega
  exact markRow_vw (he i _ _ (List.getElem?_eq_getElem hi2) (List.getElem?_eq_getElem hi)) (λj x x' h1 h2=>hr i _ _ j x x' (List.getElem?_eq_getElem hi2) (List.getElem?_eq_getElem hi) h1 h2) (hx.2 _ (List.getElem_mem hi2))
 | _=>simp [marksOk] at hx
theorem rowKey_vw {a b:List AV} {k:Int} (hl:a.length=b.length) (hr:∀ (j:Nat) (x x':AV),a[j]?=some x->b[j]?=some x'->VW ρ V A x x') (h:rowKey a=some k):rowKey b=some k:=by
 unfold rowKey at h;split at h
 ·match b,hl with
  | [y0,y1,y2,y3,y4,y5],_ =>
   have h0:=hr 0 _ y0 rfl rfl;have h1:=hr 1 _ y1 rfl rfl;have h2:=hr 2 _ y2 rfl rfl;have h3:=hr 3 _ y3 rfl rfl;have h4:=hr 4 _ y4 rfl rfl;have h5:=hr 5 _ y5 rfl rfl;cases h0;cases h1;cases h2;cases h4;cases h5;split at h
   ·rename_i hm;simp only [rowKey,marks_vw h3 hm,if_true];exact h
   ·cases h
 ·cases h
theorem mapO_vw:∀ {es es':List (List AV)} {l:List Int},es.length=es'.length->(∀ (i:Nat) (e e':List AV),es[i]?=some e->es'[i]?=some e'->e.length=e'.length) ->
 (∀ (i:Nat) (e e':List AV) (j:Nat) (x x':AV),es[i]?=some e->es'[i]?=some e'->e[j]?=some x->e'[j]?=some x'->VW ρ V A x x')->mapO rowKey es=some l->mapO rowKey es'=some l
 | [],[],_,_,_,_,h=>h
 | a::es,b::es',l,hl,he,hr,h=>by simp only [mapO] at h |-;obtain ⟨k,h1,h⟩:=ob_some h;obtain ⟨r,h2,h⟩:=om_some h;rw [rowKey_vw (he 0 a b rfl rfl) (λj x x'=>hr 0 a b j x x' rfl rfl) h1,ob,mapO_vw (by simpa using hl) (λi e e' h1 h2=>he (i+1) e e' (by simpa using h1) (by simpa using h2)) (λi e e' j x x' h1 h2=>hr (i+1) e e' j x x' (by simpa using h1) (by simpa using h2)) h2,om,h]
 | [],_::_,_,hl,_,_,_=>by simp at hl
 | _::_,[],_,hl,_,_,_=>by simp at hl
theorem aftKeys_vw {x u:AV} {l:List Int} (h:VW ρ V A x u) (hx:aftKeys x=some l):aftKeys u=some l:=by
 cases h with
 | agg cs cs' hl hr =>
  unfold aftKeys at hx;split at hx
  ·rename_i e;cases e;match cs',hl with
   | [y],_ =>have:=hr 0 _ y rfl rfl;cases this;exact hx
  ·rename_i z es ex e;cases e;match cs',hl with
   | [y],_ =>
    have:=hr 0 _ y rfl rfl;split at hx
    ·rename_i hz;cases this with
     | ronil=>simpa [aftKeys,mapO] using hx
     | ro z es es' ex ex' hc hl2 hxx he2 hr2 =>simp only [aftKeys];rw [if_pos ⟨hz.1,by omega⟩];exact mapO_vw hl2 he2 hr2 hx
    ·cases hx
  ·cases hx
 | _=>simp [aftKeys] at hx
theorem primAfter_vw {a b:List AV} (hl:a.length=b.length) (hr:∀ (j:Nat) (x x':AV),a[j]?=some x->b[j]?=some x'->VW ρ V A x x') {v:AV} (h:primAfter a=some v):primAfter b=some v/\VW ρ V A v v:=by
 unfold primAfter at h;split at h
 ·match b,hl with
  | [y0,y1,y2],_ =>
   have h0:=hr 0 _ y0 rfl rfl;have h1:=hr 1 _ y1 rfl rfl;have h2:=hr 2 _ y2 rfl rfl;obtain ⟨kb,q1,h⟩:=ob_some h;obtain ⟨kn,q2,h⟩:=om_some h;subst h;cases h2 with
   | agg cs cs' hl2 hr2 =>
    match cs',hl2 with
    | [z0,z1],_ =>
     have g0:=hr2 0 _ z0 rfl rfl;have g1:=hr2 1 _ z1 rfl rfl;cases g0;cases g1;refine ⟨by simp only [primAfter,aftKeys_vw h0 q1,aftKeys_vw h1 q2,ob,om],.agg _ _ rfl λj x x' e1 e2=>?_⟩;match j with
     | 0=>cases e1;cases e2;exact .int _ _
     | 1=>cases e1;cases e2;exact .int _ _
     | j+2=>simp at e1
 ·cases h
theorem primArgs_len:∀ (n i:Nat) (e:Env),(primArgs n i e).length=n
 | 0,_,_=>rfl
 | n+1,i,e=>by simp only [primArgs,List.length_cons,primArgs_len n]
theorem primArgs_get:∀ (n i j:Nat) (e:Env),j < n->(primArgs n i e)[j]?=some ((get e (i+j)).getD .undef)
 | 0,_,_,_,h=>by omega
 | n+1,i,0,e,_=>rfl
 | n+1,i,j+1,e,h=>by simp only [primArgs,List.getElem?_cons_succ];rw [primArgs_get n (i+1) j e Qq];congr 3;omega
theorem prim_vw {e e':Env} (he:EW ρ V A e e') {k:Nat} {v:AV} (h:primF k (primArgs (primN k) 0 e)=some v):primF k (primArgs (primN k) 0 e')=some v/\VW ρ V A v v:=by
 unfold primF at h |-;split at h
 ·rename_i hk;rw [if_pos hk];refine primAfter_vw (by rw [primArgs_len,primArgs_len]) (λj x x' h1 h2=>?_) h;have hj:j < primN k:=by have:=(List.getElem?_eq_some_iff.1 h1).1;rwa [primArgs_len] at this
  rw [primArgs_get _ _ _ _ hj] at h1 h2;cases h1;cases h2;cases hg:get e (0+j) with
  | none=>exact .undef _
  | some y =>obtain ⟨u,q1,q2⟩:=he _ _ hg;rw [q1];exact q2
 ·cases h
end Go.Pw
end
section
set_option linter.unusedSimpArgs false
set_option linter.unusedVariables false
namespace Go.Pw
open Go Go.Pav
def Hi (base m0:Nat) (ρ:Nat->Nat) (V A:Nat->Prop):Prop:=∀ b,A b->¬ V b->base<=b->m0<=ρ b
structure Res (base m0:Nat) (ρ:Nat->Nat) (V A:Nat->Prop) (s1:WSt) (s1':St) (ρ':Nat->Nat) (V' A':Nat->Prop):Prop where
 sim:Sim ρ' V' A' s1 s1'
 base_le:base<=s1.next
 old:Old base ρ V A ρ' V' A'
 hi:Hi base m0 ρ' V' A'
section
variable {C:WProg} {run:WRun} {run':Run} {base m0:Nat}
theorem Res.canon {ρ:Nat->Nat} {V A:Nat->Prop} {s1 s2:WSt} {s1' s2':St} {ρ':Nat->Nat} {V' A':Nat->Prop} (R:Res base m0 ρ V A s1 s1' ρ' V' A') {a:Ann} (hc:canon base a s1=some s2)
 (hs:s2'=s1'\/s2'=dropEnv (maskOf a) s1'):∃ ρ' V' A',Res base m0 ρ V A s2 s2' ρ' V' A':=by
 obtain ⟨ρ2,V2,A2,S2,b2,o2,n2⟩:=canon_sim R.sim R.base_le hc hs;refine ⟨ρ2,V2,A2,S2,b2,R.old.trans o2,λb h1 h2 h3=>?_⟩;obtain ⟨c,c1,c2,c3,c4⟩:=n2 b h1 h2;rw [c3];exact R.hi c c1 c2 (c4 h3)
theorem Res.frz {ρ:Nat->Nat} {V A:Nat->Prop} {k:Nat} {s1 s2:WSt} {s1':St} {ρ':Nat->Nat} {V' A':Nat->Prop} (R:Res base m0 ρ V A s1 s1' ρ' V' A') (hc:frzSlotW k s1=some s2) :
 ∃ s2',frzSlot k s1'=some s2'/\s2'.next=s1'.next/\Res base m0 ρ V A s2 s2' ρ' V' A':=by
 obtain ⟨v,hv,hc⟩:=ob_some hc;obtain ⟨x,hx,rfl⟩:=om_some hc;obtain ⟨u,hu,hr⟩:=R.sim.env k v hv;obtain ⟨y,hy,hd⟩:=frz_vw R.sim.heap _ _ _ _ hr hx;have hm:=marks_ok R.sim.heap (reachW s1.heap frzDepth v) (reach s1'.heap frzDepth u) (λb' hb'=>reach_vw R.sim.heap _ _ _ _ hr hx b' hb');refine ⟨⟨setDst s1'.env (some k) y,applyUpd s1'.heap (markFrozen s1'.heap (reach s1'.heap frzDepth u)),s1'.next⟩,by simp only [frzSlot,hu,ob,hy,om],rfl,⟨?_,R.base_le,R.old,R.hi⟩⟩;exact ⟨R.sim.srt.setDst (some k) x,R.sim.env.setDst (d:=some k) (hd.mono λ_ q=>q.elim),hm.1,R.sim.lt⟩
theorem Res.frzs {ρ:Nat->Nat} {V A:Nat->Prop} {ρ':Nat->Nat} {V' A':Nat->Prop}:∀ (l:List Nat) {s1 s2:WSt} {s1':St},Res base m0 ρ V A s1 s1' ρ' V' A'->frzSlotsW l s1=some s2 ->
 ∃ s2',frzSlots l s1'=some s2'/\s2'.next=s1'.next/\Res base m0 ρ V A s2 s2' ρ' V' A'
 | [],s1,s2,s1',R,h=>by simp only [frzSlotsW,Option.some.injEq] at h;subst h;exact ⟨s1',rfl,rfl,R⟩
 | k::l,s1,s2,s1',R,h=>by simp only [frzSlotsW] at h;obtain ⟨s3,h1,h2⟩:=ob_some h;obtain ⟨s3',h3,e3,R3⟩:=R.frz h1;obtain ⟨s2',h4,e4,R4⟩:=Res.frzs l R3 h2;exact ⟨s2',by simp only [frzSlots,h3,ob];exact h4,e4.trans e3,R4⟩
theorem Keeps.old {ρ:Nat->Nat} {V A:Nat->Prop} {ρ':Nat->Nat} {V' A':Nat->Prop} (k:Keeps ρ V A ρ' V' A') (hn:∀ b,b < base->A' b->A b):Old base ρ V A ρ' V' A':=λb hb=>⟨k b,hn b hb⟩
theorem ops_sim (hr:RunSim run run'):∀ (l:List COper) (s s1:WSt),(l.all λo=>okOp o.op)=true->evOpsW C run l s=some s1->∀ (s':St) (ρ:Nat->Nat) (V A:Nat->Prop),Sim ρ V A s s'->base<=s.next->Hi base m0 ρ V A->m0<=s'.next ->
 ∃ s1' ρ' V' A',evOps (erProg C) run' (l.map erOper) s'=some s1'/\Res base m0 ρ V A s1 s1' ρ' V' A'/\m0<=s1'.next:=by
 intro l;induction l with
 | nil =>intro s s1 _ he s' ρ V A S hb hi hm;simp only [evOpsW,Option.some.injEq] at he;subst he;exact ⟨s',ρ,V,A,rfl,⟨S,hb,Old.refl base ρ V A,hi⟩,hm⟩
 | cons o l ih =>
  intro s s1 hok he s' ρ V A S hb hi hm;simp only [List.all_cons,Bool.and_eq_true] at hok;simp only [evOpsW] at he;obtain ⟨d,h1,he⟩:=ob_some he;have lt':Lts ρ V A (s.next+1) (s'.next+1):=⟨λb hb=>Nat.lt_succ_of_lt (S.lt.w b hb),λb hb hv=>Nat.lt_succ_of_lt (S.lt.p b hb hv)⟩;obtain ⟨d',ρ1,V1,A1,h2,O⟩:=op_sim hr S.env S.heap lt' (nid:=s.next) (mid:=s'.next) (λq=>Nat.lt_irrefl _ (S.lt.w _ q)) (Nat.lt_succ_self _) (λb hb hv=>Nat.ne_of_lt (S.lt.p b hb hv)) (Nat.lt_succ_self _) hok.1 h1;have S1:Sim ρ1 V1 A1 ⟨setD s.env o.dst d.v,d.h,d.n⟩ ⟨setDst s'.env o.dst d'.v,d'.h,d'.n⟩:=⟨S.srt.setDst _ _,(S.env.mono O.keeps).setDst O.v,O.h,O.lt⟩;have hi1:Hi base m0 ρ1 V1 A1:=by
   intro b q1 q2 q3;rcases O.newp b q1 q2 with ⟨q4,q5⟩ | q4 | q4
   ·rw [q5];exact hi b q4 (λq=>q2 ((O.keeps b q4).2.2.2 q)) q3
   ·omega
   ·omega
  have hb1:base<=d.n:=by have:=O.next;omega
  have hm1:m0<=d'.n:=by have:=O.nextp;omega
  obtain ⟨s1',ρ2,V2,A2,h3,R,h4⟩:=ih ⟨setD s.env o.dst d.v,d.h,d.n⟩ s1 hok.2 he _ ρ1 V1 A1 S1 hb1 hi1 hm1;have o1:Old base ρ V A ρ1 V1 A1:=Keeps.old O.keeps λb hbb hA=>by
   rcases O.new b hA with q | q | q
   ·exact q
   ·omega
   ·omega
  refine ⟨s1',ρ2,V2,A2,?_,⟨R.sim,R.base_le,o1.trans R.old,R.hi⟩,h4⟩;simp only [List.map_cons,evOps];have:(erOper o).dst=o.dst:=rfl;rw [h2];simp only [ob,this];exact h3
def DidRel (ρ:Nat->Nat) (V A:Nat->Prop) (m1 m2:Nat) (d:WDid) (d':Did):Prop :=(d'.bar=true->d.bar=true/\d.wr=[])/\(∀ b ∈ d'.rd,∃ c ∈ d.rd,b=ρ c/\¬ V c/\A c)/\(∀ b ∈ d'.wr,(∃ c ∈ wrOf d,b=ρ c/\¬ V c/\A c)\/∃ k w,d.bar=true/\d.wr=k::w/\m1<=b/\b < m2/\∀ c,A c->¬ V c->ρ c=b->k<=c)
theorem DidRel.mono {ρ ρ':Nat->Nat} {V A V' A':Nat->Prop} {m1 m2 m2' mid:Nat} {d:WDid} {d':Did} (h:DidRel ρ V A m1 m2 d d') (k:Keeps ρ V A ρ' V' A') (hm:m2<=m2') (hmid:mid < m1)
 (hnew:∀ b,A' b->¬ V' b->(A b/\ρ' b=ρ b)\/ρ' b=mid\/m2<=ρ' b):DidRel ρ' V' A' m1 m2' d d':=by
 refine ⟨h.1,λb hb=>?_,λb hb=>?_⟩
 ·obtain ⟨c,h1,h2,h3,h4⟩:=h.2.1 b hb;obtain ⟨k1,k2,k3⟩:=k c h4;exact ⟨c,h1,by rw [k2];exact h2,λq=>h3 (k3.1 q),k1⟩
 ·rcases h.2.2 b hb with ⟨c,h1,h2,h3,h4⟩ | ⟨j,w,h1,h2,h3,h4,h5⟩
  ·obtain ⟨k1,k2,k3⟩:=k c h4;exact .inl ⟨c,h1,by rw [k2];exact h2,λq=>h3 (k3.1 q),k1⟩
  ·refine .inr ⟨j,w,h1,h2,h3,by omega,λc hA hV hc=>?_⟩;rcases hnew c hA hV with ⟨q1,q2⟩ | q | q
   ·exact h5 c q1 (λq=>hV ((k c q1).2.2.2 q)) (by rw [<- q2];exact hc)
   ·omega
   ·omega
theorem meets_vw {ρ:Nat->Nat} {V A:Nat->Prop} (inj:∀ b c,A b->A c->¬ V b->¬ V c->ρ b=ρ c->b=c) {a b:List Nat} {a' b':List Nat}
 (ha:∀ x ∈ a',∃ c ∈ a,x=ρ c/\¬ V c/\A c) (hb:∀ x ∈ b',∃ c ∈ b,x=ρ c/\¬ V c/\A c) (h:meets a' b'=true):meets a b=true:=by
 simp only [meets,List.any_eq_true,decide_eq_true_eq] at h |-;obtain ⟨x,hx,y,hy,rfl⟩:=h;obtain ⟨c,h1,h2,h3,h4⟩:=ha x hx;obtain ⟨d,h5,h6,h7,h8⟩:=hb x hy;have:=inj c d h4 h8 h3 h7 (h2.symm.trans h6);subst this;exact ⟨c,h1,c,h5,rfl⟩
theorem clash_vw {ρ:Nat->Nat} {V A:Nat->Prop} (inj:∀ b c,A b->A c->¬ V b->¬ V c->ρ b=ρ c->b=c) {m1 m2:Nat} {a b:WDid} {a' b':Did} (ha:DidRel ρ V A m1 m2 a a') (hb:DidRel ρ V A m1 m2 b b') (h:clashW a b=false):clash a' b'=false:=by
 have nt:∀ {x y:Bool},(x=true->y=true)->y=false->x=false:=by intro x y q1 q2;cases x <;> simp_all
 have plain:∀ {d:WDid} {d':Did},DidRel ρ V A m1 m2 d d'->d.bar=false->d'.bar=false/\∀ b ∈ d'.wr,∃ c ∈ d.wr,b=ρ c/\¬ V c/\A c:=by
  intro d d' hd hq;refine ⟨?_,λb hb=>?_⟩
  ·cases q:d'.bar with
   | false=>rfl
   | true=>rw [(hd.1 q).1] at hq;cases hq
  ·rcases hd.2.2 b hb with ⟨c,q1,q2⟩ | ⟨_,_,q,_⟩
   ·unfold wrOf at q1;rw [hq] at q1;exact ⟨c,q1,q2⟩
   ·rw [hq] at q;cases q
 have deep:∀ {d e:WDid} {d' e':Did},DidRel ρ V A m1 m2 d d'->DidRel ρ V A m1 m2 e e'->d.bar=true->e.bar=false->hitL d.rd d.wr e.rd e.wr=false ->
  d'.bar=false/\e'.bar=false/\meets d'.wr e'.wr=false/\meets d'.wr e'.rd=false/\meets d'.rd e'.wr=false:=by
  intro d e d' e' hd he hdb heb hh;unfold hitL at hh;cases hw:d.wr with
  | nil=>rw [hw] at hh;cases hh
  | cons k w =>
   rw [hw] at hh;simp only [Bool.or_eq_false_iff] at hh;obtain ⟨g1,g2,g3,g4⟩:=hh;obtain ⟨p1,p2⟩:=plain he heb;have g1':∀ c ∈ e.rd++e.wr,¬ k<=c:=by intro c hc q;have:=List.any_eq_false.1 g1 c hc;simp [q] at this
   have key:∀ (l l':List Nat),(∀ x ∈ l',∃ c ∈ l,x=ρ c/\¬ V c/\A c)->(∀ c ∈ l,¬ k<=c)->meets w l=false->meets d'.wr l'=false:=by
    intro l l' h1 h2 h3;cases q:meets d'.wr l' with
    | false=>rfl
    | true =>
     exfalso;simp only [meets,List.any_eq_true,decide_eq_true_eq] at q;obtain ⟨x,hx,y,hy,rfl⟩:=q;obtain ⟨c,c1,c2,c3,c4⟩:=h1 x hy;rcases hd.2.2 x hx with ⟨c',q1,q2,q3,q4⟩ | ⟨k',w',q1,q2,q3,q4,q5⟩
     ·unfold wrOf at q1;rw [hdb,hw] at q1;simp only [List.tail_cons] at q1;have:=inj c c' c4 q4 c3 q3 (c2.symm.trans q2);subst this;have:meets w l=true:=by simp only [meets,List.any_eq_true,decide_eq_true_eq];exact ⟨c,q1,c,c1,rfl⟩
      rw [h3] at this;cases this
     ·rw [hw] at q2;cases q2;exact h2 c c1 (q5 c c4 c3 c2.symm)
   refine ⟨?_,p1,key _ _ p2 (λc hc=>g1' c (by simp [hc])) g2,key _ _ he.2.1 (λc hc=>g1' c (by simp [hc])) g3,?_⟩
   ·cases q:d'.bar with
    | false=>rfl
    | true=>rw [(hd.1 q).2] at hw;cases hw
   ·cases q:meets d'.rd e'.wr with
    | false=>rfl
    | true=>rw [meets_vw inj hd.2.1 p2 q] at g4;cases g4
 have msym:∀ a b:List Nat,meets a b=meets b a:=by
  intro a b;cases q:meets a b with
  | true =>symm;simp only [meets,List.any_eq_true,decide_eq_true_eq] at q |-;obtain ⟨x,h1,y,h2,h3⟩:=q;exact ⟨y,h2,x,h1,h3.symm⟩
  | false =>
   symm;cases p:meets b a with
   | false=>rfl
   | true =>
    exfalso;simp only [meets,List.any_eq_true,decide_eq_true_eq] at p;obtain ⟨x,h1,y,h2,h3⟩:=p;have:meets a b=true:=by simp only [meets,List.any_eq_true,decide_eq_true_eq];exact ⟨y,h2,x,h1,h3.symm⟩
    rw [q] at this;cases this
 have qt:∀ {d:WDid} {d':Did},DidRel ρ V A m1 m2 d d'->quietW d=true->quiet d'=true:=by
  intro d d' hd hq;simp only [quietW,Bool.and_eq_true,Bool.not_eq_true',List.isEmpty_iff] at hq;simp only [quiet,Bool.and_eq_true,Bool.not_eq_true',List.isEmpty_iff];refine ⟨(plain hd hq.1).1,?_,?_⟩
  ·cases hw:d'.wr with
   | nil=>rfl
   | cons b r =>obtain ⟨c,h1,_⟩:=(plain hd hq.1).2 b (by rw [hw];exact List.mem_cons_self);rw [hq.2.1] at h1;cases h1
  ·cases hw:d'.rd with
   | nil=>rfl
   | cons b r =>obtain ⟨c,h1,_⟩:=hd.2.1 b (by rw [hw];exact List.mem_cons_self);rw [hq.2.2] at h1;cases h1
 unfold clashW at h;unfold clash;cases qa:quietW a with
 | true=>rw [qt ha qa];simp
 | false =>
  cases qb:quietW b with
  | true=>rw [qt hb qb];simp
  | false =>
   rw [qa,qb] at h;simp only [Bool.or_self,Bool.not_false,Bool.true_and] at h;cases ab:a.bar with
   | true =>rw [ab,if_pos rfl,Bool.or_eq_false_iff] at h;obtain ⟨d1,d2,d3,d4,d5⟩:=deep ha hb ab h.1 h.2;rw [d1,d2,d3,d4,d5];simp
   | false =>
   cases bb:b.bar with
   | true =>rw [ab,bb,if_neg Qw,if_pos rfl] at h;obtain ⟨d1,d2,d3,d4,d5⟩:=deep hb ha bb ab h;rw [d1,d2,msym,d3,msym a'.wr,d5,msym a'.rd,d4];simp
   | false =>
   rw [ab,bb,if_neg Qw,if_neg Qw] at h;simp only [Bool.or_eq_false_iff] at h;obtain ⟨h3,h4,h5⟩:=h;obtain ⟨h1,ha2⟩:=plain ha ab;obtain ⟨h2,hb2⟩:=plain hb bb;have e:(a'.bar||(b'.bar||(meets a'.wr b'.wr||(meets a'.wr b'.rd||meets a'.rd b'.wr))))=false:=by simp only [Bool.or_eq_false_iff];exact ⟨h1,h2,nt (meets_vw inj ha2 hb2) h3,nt (meets_vw inj ha2 hb.2.1) h4,nt (meets_vw inj ha.2.1 hb2) h5⟩
   rw [e,Bool.and_false]
theorem draw_sim (hr:RunSim run run'):∀ (l:List COper) (nid:Nat) (s s1:WSt) (ds ds1:List WDid),(l.all λo=>okOp o.op)=true->evDrawW C run l nid s ds=some (s1,ds1) ->
 ∀ (mid:Nat) (s':St) (ds':List Did) (ρ:Nat->Nat) (V A:Nat->Prop),Sim ρ V A s s'->base<=nid->nid+l.length<=s.next->(∀ b,A b->b < nid\/nid+l.length<=b)->Hi base m0 ρ V A->m0<=mid->mid+l.length<=s'.next ->
  (∀ b,A b->¬ V b->ρ b < mid\/mid+l.length<=ρ b)->∀ R:Nat,mid+l.length<=R->R<=s'.next->Rel2 (DidRel ρ V A R s'.next) ds ds' ->
 ∃ s1' ds1' ρ' V' A',evDraw (erProg C) run' (l.map erOper) mid s' ds'=some (s1',ds1')/\Res base m0 ρ V A s1 s1' ρ' V' A'/\m0<=s1'.next/\Rel2 (DidRel ρ' V' A' R s1'.next) ds1 ds1':=by
 intro l;induction l with
 | nil =>intro nid s s1 ds ds1 _ he mid s' ds' ρ V A S hb hnl _ hi hm hml _ R hR1 hR2 hds;simp only [evDrawW,Option.some.injEq,Prod.mk.injEq] at he;obtain ⟨rfl,rfl⟩:=he;simp only [List.length_nil] at hnl hml;exact ⟨s',ds',ρ,V,A,rfl,⟨S,by omega,Old.refl base ρ V A,hi⟩,by omega,hds⟩
 | cons o l ih =>
  intro nid s s1 ds ds1 hok he mid s' ds' ρ V A S hb hnl hgap hi hm hml hgap' R hR1 hR2 hds;simp only [List.all_cons,Bool.and_eq_true] at hok;simp only [List.length_cons] at hnl hml hgap hgap' hR1;simp only [evDrawW] at he;obtain ⟨d,h1,he⟩:=ob_some he;have hn:¬ A nid:=λq=>by rcases hgap nid q with q | q <;> omega
  obtain ⟨d',ρ1,V1,A1,h2,O⟩:=op_sim hr S.env S.heap S.lt (nid:=nid) (mid:=mid) hn Qq (λb hbb hv=>by rcases hgap' b hbb hv with q | q <;> omega) Qq hok.1 h1;have S1:Sim ρ1 V1 A1 ⟨setD s.env o.dst d.v,d.h,d.n⟩ ⟨setDst s'.env o.dst d'.v,d'.h,d'.n⟩:=⟨S.srt.setDst _ _,(S.env.mono O.keeps).setDst O.v,O.h,O.lt⟩;have hi1:Hi base m0 ρ1 V1 A1:=by
   intro b q1 q2 q3;rcases O.newp b q1 q2 with ⟨q4,q5⟩ | q4 | q4
   ·rw [q5];exact hi b q4 (λq=>q2 ((O.keeps b q4).2.2.2 q)) q3
   ·omega
   ·omega
  have hds1:Rel2 (DidRel ρ1 V1 A1 R d'.n) (ds++[d]) (ds'++[d']):=(hds.mono λx y _ hxy=>hxy.mono O.keeps O.nextp Qq O.newp).append (.cons ⟨O.bar,O.rd,λb hb=>by
   rcases O.wr b hb with q | ⟨k,w,q1,q2,q3,q4,q5⟩
   ·exact .inl q
   ·exact .inr ⟨k,w,q1,q2,by omega,q4,q5⟩⟩ .nil)
  obtain ⟨s1',ds1',ρ2,V2,A2,h3,R,h4,h5⟩:=ih (nid+1) ⟨setD s.env o.dst d.v,d.h,d.n⟩ s1 (ds++[d]) ds1 hok.2 he (mid+1) _ (ds'++[d']) ρ1 V1 A1 S1 Qq (by have:=O.next;simp only;omega)
   (λb hbb=>by
    rcases O.new b hbb with q | q | q
    ·rcases hgap b q with q | q <;> omega
    ·omega
    ·omega) hi1 Qq (by have:=O.nextp;simp only;omega)
   (λb hbb hv=>by
    rcases O.newp b hbb hv with ⟨q,q5⟩ | q | q
    ·rw [q5];rcases hgap' b q (λq6=>hv ((O.keeps b q).2.2.2 q6)) with q | q <;> omega
    ·omega
    ·omega) R Qq (by have:=O.nextp;simp only;omega) hds1
  have o1:Old base ρ V A ρ1 V1 A1:=Keeps.old O.keeps λb hbb hA=>by
   rcases O.new b hA with q | q | q
   ·exact q
   ·omega
   ·omega
  refine ⟨s1',ds1',ρ2,V2,A2,?_,⟨R.sim,R.base_le,o1.trans R.old,R.hi⟩,h4,h5⟩;simp only [List.map_cons,evDraw];have:(erOper o).dst=o.dst:=rfl;rw [h2];simp only [ob,this];exact h3
theorem apart_vw {ρ:Nat->Nat} {V A:Nat->Prop} (inj:∀ b c,A b->A c->¬ V b->¬ V c->ρ b=ρ c->b=c) {m1 m2:Nat} {ds:List WDid} {ds':List Did} (h:Rel2 (DidRel ρ V A m1 m2) ds ds') {p:Nat × Nat} (ha:apartW ds p=true):apart ds' p=true:=by
 unfold apartW at ha;split at ha
 ·rename_i a b h1 h2;obtain ⟨a',h3,h4⟩:=h.get h1;obtain ⟨b',h5,h6⟩:=h.get h2;unfold apart;rw [h3,h5];simp only [Bool.not_eq_true'] at ha |-;exact clash_vw inj h4 h6 ha
 ·cases ha
def CodeSim (C:WProg) (k:Nat):Prop :=
 ∀ (base:Nat) (c:WCode) (s:WSt) (ex:Ex) (s1:WSt),okC c=true->evW C k base c s=some (ex,s1)->∀ (m0:Nat) (s':St) (ρ:Nat->Nat) (V A:Nat->Prop),Sim ρ V A s s'->base<=s.next->Hi base m0 ρ V A->m0<=s'.next ->
  ∃ s1' ρ' V' A',evC (erProg C) k (erC c) s'=some (ex,s1')/\Res base m0 ρ V A s1 s1' ρ' V' A'/\m0<=s1'.next
theorem erL_len:∀ l:List AV,(erL l).length=l.length
 | []=>rfl
 | _::r=>by simp only [erL,List.length_cons,erL_len r]
theorem cln_sim {j:Nat} {s:WSt} {s':St} {ρ:Nat->Nat} {V A:Nat->Prop} (S:Sim ρ V A s s') (hb:base<=s.next) (hi:Hi base m0 ρ V A) (hm:m0<=s'.next) {z b:Nat} {xe:Bool} {zz:List AV} {u:AV} (hu:get s'.env 0=some u) (hr:VW ρ V A (.ro z [] xe) u) (hl:zz.length=z) :
 ∃ s1' ρ' V' A',evC (erProg C) (j+8+1) (clnE zz b) s'=some (.ret,s1') /\
  Res base m0 ρ V A ⟨[(2,.sl s.next z 0 0 0 true)],put s.heap s.next (.cells z [] true true),s.next+1⟩ s1' ρ' V' A'/\m0<=s1'.next:=by
 have hn:¬ A s.next:=λq=>Nat.lt_irrefl _ (S.lt.w _ q)
 obtain ⟨e0,h0,m⟩:=s';simp only at hu hm;have hmo:∀ b,A b->addN A s.next b/\ρ b=ρ b/\((V b\/b=s.next)↔V b):=λb q=>⟨.inl q,rfl,⟨λh=>h.elim id λe=>absurd (e ▸ q) hn,.inl⟩⟩
 cases hr with
 | ronil =>
  refine ⟨⟨put (put (put (put e0 2 .nils) 3 .nils) 4 (.bool true)) 2 .nils,h0,m+4⟩,ρ,λb=>V b\/b=s.next,addN A s.next,?_,⟨⟨by simp [Srt],?_,⟨?_,?_,?_,?_,?_⟩,⟨?_,?_⟩⟩,Nat.le_succ_of_le hb,?_,?_⟩,Nat.le_trans hm (Nat.le_add_right _ _)⟩
  ·simp [clnE,evC,evOps,evOp,wants,evAct,callOf,stepOp,sMv,sEqv,eqVals,eqSl,Opd.ev,ob,om,get_put,setDst,hu,endOps,frzSlots,dropEnv,evSeq,evCond,applyUpd]
  ·intro k v hk;simp only [Pav.get] at hk;split at hk
   ·rename_i e;subst e;cases hk;exact ⟨.nils,by simp [get_put],.slv _ _ _ _ (.inr rfl) (.inr rfl) (.inl rfl)⟩
   ·cases hk
  ·intro b o hbo;rw [get_put] at hbo;split at hbo
   ·rename_i e;exact .inr e.symm
   ·exact .inl (S.heap.dom b o hbo)
  ·intro b o hbo hv;rw [get_put] at hbo;split at hbo
   ·cases hbo;exact ⟨z,true,true,rfl⟩
   ·rename_i e;exact S.heap.virt b o hbo (hv.resolve_right λq=>e q.symm)
  ·intro b o hbo hv;rw [get_put] at hbo;split at hbo
   ·rename_i e;exact absurd (.inr e.symm) hv
   ·obtain ⟨o',h1,h2⟩:=S.heap.obj b o hbo (λq=>hv (.inl q));exact ⟨o',h1,h2.mono hmo⟩
  ·rintro b (q | q)
   ·exact .inl (S.heap.sub b q)
   ·exact .inr q
  ·rintro b c hb hc vb vc;exact S.heap.inj b c (hb.resolve_right λq=>vb (.inr q)) (hc.resolve_right λq=>vc (.inr q)) (λq=>vb (.inl q)) (λq=>vc (.inl q))
  ·rintro b (q | q)
   ·exact Nat.lt_succ_of_lt (S.lt.w b q)
   ·subst q;exact Nat.lt_succ_self _
  ·intro b q v;have:=S.lt.p b (q.resolve_right λe=>v (.inr e)) (λe=>v (.inl e));simp only at this |-;omega
  ·intro b hbb;have hne:b≠s.next:=by omega
   exact ⟨λq=>hmo b q,λq=>q.resolve_right hne⟩
  ·intro b q v hbb;exact hi b (q.resolve_right λe=>v (.inr e)) (λe=>v (.inl e)) hbb
 | ro _ _ es' _ ex' hc hl2 hx he hr =>
  have:es'=[]:=List.length_eq_zero_iff.1 hl2.symm;subst this;have hne:∀ b,A b->¬ V b->ρ b≠m+3:=λb q v e=>by have:=S.lt.p b q v;simp only at this;omega
  refine ⟨⟨put (put (put (put (put (put (put e0 2 .nils) 3 (.ro z [] ex')) 4 (.bool false)) 5 (.sl (m+3) z 0 0 0 true)) 6 (.ro z [] ex')) 7 (.sl (m+3) z 0 0 0 true)) 2 (.sl (m+3) z 0 0 0 true),put h0 (m+3) (.cells z [] true),m+7⟩,up ρ s.next (m+3),V,addN A s.next,?_, ⟨⟨by simp [Srt],?_,new_ok S.heap hn hne ⟨[],true,rfl,λh=>h,.nil,λ_ e he=>by cases he⟩,⟨?_,?_⟩⟩,Nat.le_succ_of_le hb,?_,?_⟩,Nat.le_trans hm (Nat.le_add_right _ _)⟩
  ·have hbf:b % 1125899906842624 < frzBytes:=Nat.mod_lt _ (by decide);simp [hbf,clnE,evC,evOps,evOp,wants,evAct,callOf,stepOp,sMv,sEqv,eqVals,eqSl,sBuildS,fillS,sApp,elems,evApp,updOne,Opd.ev,ob,om,get_put,setDst,hu,hl,endOps,frzSlots,dropEnv,evSeq,evCond,applyUpd]
  ·intro k v hk;simp only [Pav.get] at hk;split at hk
   ·rename_i e;subst e;cases hk;refine ⟨.sl (m+3) z 0 0 0 true,by simp [get_put],?_⟩;have:up ρ s.next (m+3) s.next=m+3:=by simp [up]
    have key:=VW.sl (ρ:=up ρ s.next (m+3)) (V:=V) (A:=addN A s.next) s.next z 0 0 0 true true (.inr rfl) (λq=>hn (S.heap.sub _ q)) (λh=>h)
    rw [this] at key;exact key
   ·cases hk
  ·rintro b (q | q)
   ·exact Nat.lt_succ_of_lt (S.lt.w b q)
   ·subst q;exact Nat.lt_succ_self _
  ·intro b q v;unfold up;split
   ·simp
   ·rename_i e;have:=S.lt.p b (q.resolve_right e) v;simp only at this |-;omega
  ·intro b hbb;have hne2:b≠s.next:=by omega
   exact ⟨λq=>up_mono hn b q,λq=>q.resolve_right hne2⟩
  ·intro b q v hbb;unfold up;split
   ·omega
   ·rename_i e;exact hi b (q.resolve_right e) v hbb
theorem lastOk_er (ap:COper) (post:List COper):lastOk (erOper ap) (post.map erOper)=lastOk ap post:=by
 have e:∀ o:COper,(erOper o).op.isMk=o.op.isMk:=λo=>by obtain ⟨d,g,op⟩:=o;cases op <;> rfl
 unfold lastOk;rw [List.getLast?_map];cases post.getLast? with
 | none=>simp only [Option.map_none,e]
 | some o=>simp only [Option.map_some,e]
theorem plain_vw {ρ:Nat->Nat} {V A:Nat->Prop} {x x':AV} (h:VW ρ V A x x') (hp:plainV x=true):x'=x:=by cases h <;> first | rfl | (simp [plainV] at hp)
theorem isoVal_vw {ρ ρ':Nat->Nat} {V A V' A':Nat->Prop} {e e':Env} (h:EW ρ V A e e') (k:Nat):VW ρ' V' A' (isoVal e k) (isoVal e' k):=by
 unfold isoVal;cases hg:get e k with
 | none=>exact .undef _
 | some v =>
  obtain ⟨v',hg',hv⟩:=h k v hg;simp only [hg'];by_cases hp:plainV v=true
  ·have e1:=plain_vw hv hp;subst e1;rw [if_pos hp];cases v' <;> first | (simp [plainV] at hp;done) | constructor
  ·rw [if_neg hp];exact .undef _
theorem isoEnv_vw {ρ ρ':Nat->Nat} {V A V' A':Nat->Prop} {e2 e2':Env} (h:EW ρ V A e2 e2'):∀ (L:List Nat) {e e':Env},EW ρ' V' A' e e'->EW ρ' V' A' (isoEnvW e2 L e) (isoEnv e2' L e')
 | [],_,_,he=>he
 | k::r,_,_,he=>isoEnv_vw h r (he.put (isoVal_vw h k))
theorem isoEnv_srt (e2:Env):∀ (L:List Nat) {e:Env},Srt e->Srt (isoEnvW e2 L e)
 | [],_,h=>h
 | k::r,_,h=>isoEnv_srt e2 r (h.put k _)
theorem snap_vw {ρ:Nat->Nat} {V A:Nat->Prop} {h:WHeap} {h':Heap} {e e':Env} (he:EW ρ V A e e') (H:HW ρ V A h h') {o:COper} (hok:okOp o.op=true) {v:AV} (hs:evSnapW o e h=some v) :
 ∃ v',evSnap (erOper o) e' h'=some v'/\VW ρ V A v v':=by
 unfold evSnapW at hs;split at hs;case h_2=>cases hs
 rename_i hw;have hw':wants e' (erOper o).guard=some true:=wants_sim he hw;unfold evSnap;rw [hw'];simp only;obtain ⟨d,g,op⟩:=o;simp only [erOper] at *;cases op <;> simp only [snapOpW] at hs <;> try (cases hs;done)
 rename_i z bytes zeros s x;split at hs
 ·cases hs
 rename_i hz;obtain ⟨⟨xs,d⟩,h1,h2⟩:=ob_some hs;simp only [okOp,Bool.and_eq_true] at hok;obtain ⟨xs',q1,q2,q3⟩:=elems_vw H (he.opd hok.2.2) h1;have hl:(erL z).length=z.length:=erL_len z;simp only at h2;split at h2;case isFalse=>cases h2
 rename_i hd;simp only [erOp,snapOp,if_neg hz,hl,q1,ob];obtain ⟨b,len,cap,ex,ex',es,es',e1,e2,hg,ho',hV,hA,hR,hD,hlen,hlen',hbb,hfl,rfl,hvw⟩:=snapOf_vw H (he.opd hok.2.1) q2 (q3 hd) h2;refine ⟨_,?_,hvw⟩;rw [e2];simp only [snapOf,ho'];rw [if_pos ⟨trivial,trivial,trivial,trivial,hlen',hbb,hfl⟩]
theorem iso_sim (hr:RunSim run run') {pre:List COper} {ap:COper} {post:List COper} {s s2:WSt} (hok:okC (.iso pre ap post ⟨false,[],[]⟩)=true) (he:evIsoW C run pre ap post s=some s2) {s':St} {ρ:Nat->Nat} {V A:Nat->Prop}
 (S:Sim ρ V A s s') (hb:base<=s.next) (hi:Hi base m0 ρ V A) (hm:m0<=s'.next) :
 ∃ s2' ρ' V' A',evIso (erProg C) run' (pre.map erOper) (erOper ap) (post.map erOper) s'=some s2'/\Res base m0 ρ V A s2 s2' ρ' V' A'/\m0<=s2'.next:=by
 simp only [okC,Bool.and_eq_true] at hok;unfold evIsoW at he;split at he;case isFalse=>cases he
 rename_i hlast;obtain ⟨s1,h1,he⟩:=ob_some he;obtain ⟨v,h2,he⟩:=ob_some he;obtain ⟨t,h3,he⟩:=om_some he;obtain ⟨s1',ρ1,V1,A1,g1,R,g2⟩:=ops_sim hr pre s s1 hok.1 h1 s' ρ V A S hb hi hm;obtain ⟨v',g3,g4⟩:=snap_vw R.sim.env R.sim.heap hok.2.1 h2;have S1:Sim ρ1 V1 A1 ⟨setD s1.env ap.dst v,[],s1.next⟩ ⟨setDst s1'.env ap.dst v',[],s1'.next⟩ :=⟨R.sim.srt.setDst _ _,R.sim.env.setDst g4,⟨λb o hb=>by simp [Pav.get] at hb,λb o hb=>by simp [Pav.get] at hb,λb o hb=>by simp [Pav.get] at hb,R.sim.heap.sub,R.sim.heap.inj⟩,R.sim.lt⟩;obtain ⟨t',ρ2,V2,A2,g5,R2,g6⟩:=ops_sim (base:=s1.next) (m0:=s1'.next) hr post _ t hok.2.2 h3 _ ρ1 V1 A1 S1 (Nat.le_refl _) (λb q _ q3=>absurd (R.sim.lt.w b q) Qq) (Nat.le_refl _);subst he;have hd:((erOper ap::post.map erOper).filterMap (·.dst))=(ap::post).filterMap (·.dst):=by rw [<- List.map_cons,List.filterMap_map];rfl
 refine ⟨⟨isoEnv t'.env ((erOper ap::post.map erOper).filterMap (·.dst)) s1'.env,s1'.heap,t'.next⟩,ρ1,V1,A1,?_,⟨⟨isoEnv_srt _ _ R.sim.srt,?_,R.sim.heap,?_⟩,Nat.le_trans R.base_le R2.base_le,R.old,R.hi⟩,Nat.le_trans g2 g6⟩
 ·unfold evIso;rw [lastOk_er,if_pos hlast];simp only [g1,ob,g3,om,show (erOper ap).dst=ap.dst from rfl,g5]
 ·rw [hd];exact isoEnv_vw R2.sim.env _ R.sim.env
 ·exact ⟨λb q=>Nat.lt_of_lt_of_le (R.sim.lt.w b q) R2.base_le,λb q q2=>Nat.lt_of_lt_of_le (R.sim.lt.p b q q2) g6⟩
theorem code_sim {k:Nat} (ih:CodeSim C k) (hr:RunSim (runWithW C (evW C k)) (runWith (erProg C) (evC (erProg C) k))):CodeSim C (k+1):=by
 intro base c s ex s1 hok he m0 s' ρ V A S hb hi hm;cases c with
 | skip=>simp only [evW,Option.some.injEq,Prod.mk.injEq] at he;obtain ⟨rfl,rfl⟩:=he;exact ⟨s',ρ,V,A,rfl,⟨S,hb,Old.refl base ρ V A,hi⟩,hm⟩
 | exit id=>simp only [evW,Option.some.injEq,Prod.mk.injEq] at he;obtain ⟨rfl,rfl⟩:=he;exact ⟨s',ρ,V,A,rfl,⟨S,hb,Old.refl base ρ V A,hi⟩,hm⟩
 | ret=>simp only [evW,Option.some.injEq,Prod.mk.injEq] at he;obtain ⟨rfl,rfl⟩:=he;exact ⟨s',ρ,V,A,rfl,⟨S,hb,Old.refl base ρ V A,hi⟩,hm⟩
 | fail=>simp [evW] at he
 | prim k0 =>simp only [evW] at he;obtain ⟨v,h1,he⟩:=om_some he;simp only [Prod.mk.injEq] at he;obtain ⟨rfl,rfl⟩:=he;obtain ⟨h2,hv⟩:=prim_vw S.env h1;exact ⟨⟨put s'.env 9 v,s'.heap,s'.next⟩,ρ,V,A,by simp only [erC,evC,h2,om],⟨⟨S.srt.put _ _,S.env.put hv,S.heap,S.lt⟩,hb,Old.refl base ρ V A,hi⟩,hm⟩
 | cln zz z b =>
  simp only [evW] at he;split at he
  ·rename_i z' hz;split at he
   ·rename_i hc;obtain ⟨rfl,hzz,hk⟩:=hc;simp only [Option.some.injEq,Prod.mk.injEq] at he;obtain ⟨rfl,rfl⟩:=he;obtain ⟨x,hx,hx2⟩:=Option.bind_eq_some_iff.1 hz;obtain ⟨j,rfl⟩:∃ j,k=j+8:=⟨k - 8,by omega⟩;obtain ⟨u,hu,hr⟩:=S.env 0 x hx;obtain ⟨xe,hxe⟩:∃ e,x=.ro z' [] e:=by
     unfold isEmptyRo at hx2;split at hx2
     ·cases hx2;exact ⟨_,rfl⟩
     ·cases hx2
    subst hxe;have hl:(erL zz).length=z':=by rw [erL_len];exact hzz
    exact cln_sim S hb hi hm hu hr hl
   ·cases he
  ·obtain ⟨s1',ρ1,V1,A1,h3,R,h4⟩:=ih base (clnC zz z b) s ex s1 (by simpa [okC,clnC,okOp,okO,okV,okL] using hok) he m0 s' ρ V A S hb hi hm;exact ⟨s1',ρ1,V1,A1,evC_mono k (k+1) (Nat.le_succ k) _ _ _ h3,R,h4⟩
 | ops l a =>simp only [evW] at he;obtain ⟨s2,h1,he⟩:=ob_some he;obtain ⟨s3,h2,he⟩:=om_some he;cases he;obtain ⟨s1',ρ1,V1,A1,h3,R,h4⟩:=ops_sim hr l s s2 hok h1 s' ρ V A S hb hi hm;obtain ⟨s2b,h2b,h2⟩:=ob_some h2;obtain ⟨s2b',h5,e5,R5⟩:=R.frzs _ h2b;obtain ⟨ρ2,V2,A2,R2⟩:=R5.canon h2 (.inr rfl);exact ⟨_,ρ2,V2,A2,by simp only [erC,evC,h3,ob,endOps,h5,om],R2,by rw [<- e5] at h4;exact h4⟩
 | iso pre ap post a =>simp only [evW] at he;obtain ⟨s2,h1,he⟩:=ob_some he;obtain ⟨s3,h2,he⟩:=om_some he;cases he;obtain ⟨s1',ρ1,V1,A1,h3,R,h4⟩:=iso_sim hr hok h1 S hb hi hm;obtain ⟨s2b,h2b,h2⟩:=ob_some h2;obtain ⟨s2b',h5,e5,R5⟩:=R.frzs _ h2b;obtain ⟨ρ2,V2,A2,R2⟩:=R5.canon h2 (.inr rfl);exact ⟨_,ρ2,V2,A2,by simp only [erC,evC,h3,ob,endOps,h5,om],R2,by rw [<- e5] at h4;exact h4⟩
 | draw l un a =>
  simp only [evW] at he;obtain ⟨⟨s2,ds⟩,h1,he⟩:=ob_some he;unfold drawEndW at he;split at he
  ·rename_i hap;obtain ⟨s3,h2,he⟩:=om_some he;cases he;have S0:Sim ρ V A ⟨s.env,s.heap,s.next+l.length⟩ ⟨s'.env,s'.heap,s'.next+l.length⟩:=⟨S.srt,S.env,S.heap,λb q=>Nat.lt_of_lt_of_le (S.lt.w b q) (Nat.le_add_right _ _),λb q v=>Nat.lt_of_lt_of_le (S.lt.p b q v) (Nat.le_add_right _ _)⟩;obtain ⟨s1',ds1',ρ1,V1,A1,h3,R,h4,h5⟩:=draw_sim hr l s.next _ s2 [] ds hok h1 s'.next _ [] ρ V A S0 hb (Nat.le_refl _) (λb q=>.inl (S.lt.w b q)) hi hm (Nat.le_refl _) (λb q v=>.inl (S.lt.p b q v)) (s'.next+l.length) (Nat.le_refl _) (Nat.le_refl _) .nil
   obtain ⟨s2b,h2b,h2⟩:=ob_some h2;obtain ⟨s2b',h6,e6,R6⟩:=R.frzs _ h2b;obtain ⟨ρ2,V2,A2,R2⟩:=R6.canon h2 (.inr rfl);refine ⟨_,ρ2,V2,A2,?_,R2,by rw [<- e6] at h4;exact h4⟩;simp only [erC,evC,List.length_map];rw [h3];simp only [ob,drawEnd,endOps,h6,om];rw [if_pos];simp only [List.all_eq_true] at hap |-;exact λp hp=>apart_vw R.sim.heap.inj h5 (hap p hp)
  ·cases he
 | seq a b =>
  simp only [okC,Bool.and_eq_true] at hok;simp only [evW] at he;obtain ⟨⟨e1,s2⟩,h1,he⟩:=ob_some he;obtain ⟨s1',ρ1,V1,A1,h3,R,h4⟩:=ih base a s e1 s2 hok.1 h1 m0 s' ρ V A S hb hi hm;cases e1 with
  | norm =>simp only [evSeqW] at he;obtain ⟨s2',ρ2,V2,A2,h5,R2,h6⟩:=ih base b s2 ex s1 hok.2 he m0 s1' ρ1 V1 A1 R.sim R.base_le R.hi h4;exact ⟨s2',ρ2,V2,A2,by simp only [erC,evC,h3,ob,evSeq,h5],⟨R2.sim,R2.base_le,R.old.trans R2.old,R2.hi⟩,h6⟩
  | exit id=>simp only [evSeqW,Option.some.injEq,Prod.mk.injEq] at he;obtain ⟨rfl,rfl⟩:=he;exact ⟨s1',ρ1,V1,A1,by simp only [erC,evC,h3,ob,evSeq],R,h4⟩
  | ret=>simp only [evSeqW,Option.some.injEq,Prod.mk.injEq] at he;obtain ⟨rfl,rfl⟩:=he;exact ⟨s1',ρ1,V1,A1,by simp only [erC,evC,h3,ob,evSeq],R,h4⟩
 | cond c a b =>
  simp only [okC,Bool.and_eq_true] at hok;simp only [evW] at he;have hc:=S.env.opd hok.1;unfold evCondW at he;split at he
  ·rename_i t ht;rw [ht] at hc;cases t with
   | true =>simp only [if_true] at he;obtain ⟨s1',ρ1,V1,A1,h3,R,h4⟩:=ih base a s ex s1 hok.2.1 he m0 s' ρ V A S hb hi hm;exact ⟨s1',ρ1,V1,A1,by simp only [erC,evC,hc.bool_inv,evCond,if_true];exact h3,R,h4⟩
   | false =>simp only [Bool.false_eq_true,if_false] at he;obtain ⟨s1',ρ1,V1,A1,h3,R,h4⟩:=ih base b s ex s1 hok.2.2 he m0 s' ρ V A S hb hi hm;exact ⟨s1',ρ1,V1,A1,by simp only [erC,evC,hc.bool_inv,evCond,Bool.false_eq_true,if_false];exact h3,R,h4⟩
  ·cases he
 | block id b a =>
  simp only [okC] at hok;simp only [evW] at he;obtain ⟨⟨e1,s2⟩,h1,he⟩:=ob_some he;obtain ⟨s1',ρ1,V1,A1,h3,R,h4⟩:=ih base b s e1 s2 hok h1 m0 s' ρ V A S hb hi hm;cases e1 with
  | norm =>simp only [evBlockW] at he;obtain ⟨s3,h5,he⟩:=om_some he;cases he;obtain ⟨ρ2,V2,A2,R2⟩:=R.canon h5 (.inl rfl);exact ⟨s1',ρ2,V2,A2,by simp only [erC,evC,h3,om,evBlock],R2,h4⟩
  | exit i =>
   simp only [evBlockW] at he;split at he
   ·rename_i hid;obtain ⟨s3,h5,he⟩:=om_some he;cases he;obtain ⟨ρ2,V2,A2,R2⟩:=R.canon h5 (.inl rfl);exact ⟨s1',ρ2,V2,A2,by simp only [erC,evC,h3,om,evBlock,if_pos hid],R2,h4⟩
   ·rename_i hid;simp only [Option.some.injEq,Prod.mk.injEq] at he;obtain ⟨rfl,rfl⟩:=he;exact ⟨s1',ρ1,V1,A1,by simp only [erC,evC,h3,om,evBlock,if_neg hid],R,h4⟩
  | ret =>simp only [evBlockW,Option.some.injEq,Prod.mk.injEq] at he;obtain ⟨rfl,rfl⟩:=he;exact ⟨s1',ρ1,V1,A1,by simp only [erC,evC,h3,om,evBlock],R,h4⟩
 | loop a b =>
  have hok':okC b=true:=hok;simp only [evW] at he;obtain ⟨s0,h0,he⟩:=ob_some he;obtain ⟨⟨e1,s2⟩,h1,he⟩:=ob_some he;obtain ⟨ρ0,V0,A0,R0⟩:=(⟨S,hb,Old.refl base ρ V A,hi⟩:Res base m0 ρ V A s s' ρ V A).canon h0 (s2':=dropEnv (maskOf a) s') (.inr rfl);obtain ⟨s1',ρ1,V1,A1,h3,R,h4⟩:=ih base b s0 e1 s2 hok' h1 m0 _ ρ0 V0 A0 R0.sim R0.base_le R0.hi hm;have R':Res base m0 ρ V A s2 s1' ρ1 V1 A1:=⟨R.sim,R.base_le,R0.old.trans R.old,R.hi⟩;cases e1 with
  | norm =>simp only [evSeqW] at he;obtain ⟨s2',ρ2,V2,A2,h5,R2,h6⟩:=ih base (.loop a b) s2 ex s1 hok he m0 s1' ρ1 V1 A1 R.sim R.base_le R.hi h4;exact ⟨s2',ρ2,V2,A2,by simp only [erC,evC,h3,ob,evSeq];exact h5,⟨R2.sim,R2.base_le,R'.old.trans R2.old,R2.hi⟩,h6⟩
  | exit id=>simp only [evSeqW,Option.some.injEq,Prod.mk.injEq] at he;obtain ⟨rfl,rfl⟩:=he;exact ⟨s1',ρ1,V1,A1,by simp only [erC,evC,h3,ob,evSeq],R',h4⟩
  | ret=>simp only [evSeqW,Option.some.injEq,Prod.mk.injEq] at he;obtain ⟨rfl,rfl⟩:=he;exact ⟨s1',ρ1,V1,A1,by simp only [erC,evC,h3,ob,evSeq],R',h4⟩
theorem results_vw {ρ:Nat->Nat} {V A:Nat->Prop} {e:Env} {e':Env} {h:WHeap} {h':Heap} (he:EW ρ V A e e') (H:HW ρ V A h h') {rs:List CRes} {v:AV} (hv:resultsW e h rs=some v):∃ v',Pav.results e' h' rs=some v'/\VW ρ V A v v':=by
 obtain ⟨vs,h1,rfl⟩:=om_some hv;have one:∀ r x,resOfW e h r=some x->∃ x',resOf e' h' r=some x'/\VW ρ V A x x':=by
  intro r x hx;cases r with
  | tmp t=>exact he t x hx
  | cell t k ag =>
   simp only [resOfW] at hx;split at hx
   ·rename_i b i o hg;obtain ⟨p,h2,h3⟩:=he t _ hg;obtain ⟨rfl,hA,hV⟩:=h3.ptr_inv;unfold wLoadAt at hx;split at hx
    ·rename_i z es mu dt hgb;obtain ⟨cs,h4,h5⟩:=ob_some hx;obtain ⟨o',g1,es',mu',rfl,_,ge,_⟩:=H.obj b _ hgb hV;obtain ⟨cs',h6,h7⟩:=ge.get h4;obtain ⟨v',h8,h9⟩:=loadC_vw (h7.drop o) h5;exact ⟨v',by simp only [resOf,h2,g1,loadAt,h6,ob];exact h8,h9⟩
    ·cases hx
   ·cases hx
 have lst:∀ (rs:List CRes) (vs:List AV),mapO (resOfW e h) rs=some vs->∃ vs',mapO (resOf e' h') rs=some vs'/\Rel2 (VW ρ V A) vs vs':=by
  intro rs;induction rs with
  | nil=>intro vs hq;simp only [mapO,Option.some.injEq] at hq;subst hq;exact ⟨[],rfl,.nil⟩
  | cons r rs ih =>intro vs hq;simp only [mapO] at hq |-;obtain ⟨x,h2,hq⟩:=ob_some hq;obtain ⟨xs,h3,rfl⟩:=om_some hq;obtain ⟨x',h4,h5⟩:=one r x h2;obtain ⟨xs',h6,h7⟩:=ih xs h3;exact ⟨x'::xs',by rw [h4,h6];rfl,.cons h5 h7⟩
 obtain ⟨vs',h2,h3⟩:=lst rs vs h1;refine ⟨tupled vs',by simp only [Pav.results,h2,om],?_⟩;cases vs with
 | nil=>rw [h3.inv_nil];exact VW.mktup .nil
 | cons a r =>
  obtain ⟨b,t,rfl,h4,h5⟩:=h3.inv_cons;cases r with
  | nil=>rw [h5.inv_nil];exact h4
  | cons a2 r2 =>obtain ⟨b2,t2,rfl,h6,h7⟩:=h5.inv_cons;exact VW.mktup (.cons h4 (.cons h6 h7))
theorem argEnv_get:∀ (l:List AV) (k j:Nat),get (argEnv k l) j=if j < k then none else l[j - k]?:=by
 intro l;induction l with
 | nil=>intro k j;simp [argEnv,Pav.get]
 | cons a l ih =>
  intro k j;simp only [argEnv,Pav.get];by_cases h1:k=j
  ·subst h1;simp
  ·rw [if_neg h1,ih];by_cases h2:j < k
   ·rw [if_pos Qq,if_pos h2]
   ·rw [if_neg Qq,if_neg h2];have:j - k=(j - (k+1))+1:=by omega
    rw [this];simp
theorem erTree_get:∀ (t:WTree) (g:Nat),(erTree t).get g=(t.get g).map erFn:=by
 intro t;induction t with
 | leaf=>intro g;rfl
 | node l k f r ihl ihr =>
  intro g;simp only [erTree,Tree.get,WTree.get];split
  ·rfl
  ·split
   ·exact ihl g
   ·exact ihr g
theorem okTree_get:∀ (t:WTree) (g:Nat) (f:WFn),okTree t=true->t.get g=some f->okC f.body=true:=by
 intro t;induction t with
 | leaf=>intro g f _ h;simp [WTree.get] at h
 | node l k f r ihl ihr =>
  intro g f' hok h;simp only [okTree,Bool.and_eq_true] at hok;simp only [WTree.get] at h;split at h
  ·cases h;exact hok.2.1
  ·split at h
   ·exact ihl g f' hok.1 h
   ·exact ihr g f' hok.2.2 h
theorem run_sim (hok:okTree C.fns=true) {k:Nat} (hc:CodeSim C k):RunSim (runWithW C (evW C k)) (runWith (erProg C) (evC (erProg C) k)):=by
 intro f args h n v h1 n1 hrun ρ V A args' h' m ha H lt;unfold runWithW at hrun;obtain ⟨fn,hf,hrun⟩:=ob_some hrun;split at hrun
 ·rename_i hl;obtain ⟨⟨ex,s1⟩,h2,h3⟩:=ob_some hrun;have S:Sim ρ V A ⟨argW 0 args [],h,n⟩ ⟨argEnv 0 args',h',m⟩:=by
   refine ⟨srt_arg args 0,λj x hj=>?_,H,lt⟩;have hj2:get (argEnv 0 args) j=some x:=by
    have hm:=get_mem hj;rw [argW_eq,List.append_nil] at hm;have hm2:=List.mem_reverse.1 hm;have key:∀ (l:List AV) (k:Nat),(j,x) ∈ argEnv k l->get (argEnv k l) j=some x:=by
     intro l;induction l with
     | nil=>intro k hq;simp [argEnv] at hq
     | cons v l ih =>
      intro k hq;simp only [argEnv,Pav.get];rcases List.mem_cons.1 hq with q | q
      ·cases q;simp
      ·have:=(srt_arg0 l (k+1)).2 _ q;simp only at this;rw [if_neg Qq];exact ih (k+1) q
    exact key args 0 hm2
   simp only [argEnv_get,Nat.not_lt_zero,if_false,Nat.sub_zero] at hj2 |-;exact ha.get hj2
  obtain ⟨s1',ρ1,V1,A1,h4,R,h5⟩:=hc n fn.body _ ex s1 (okTree_get _ _ _ hok hf) h2 m ⟨argEnv 0 args',h',m⟩ ρ V A S (Nat.le_refl _) (λb hb _ hn=>absurd (lt.w b hb) Qq) (Nat.le_refl _);have fin:∃ v',Pav.results s1'.env s1'.heap fn.res=some v'/\VW ρ1 V1 A1 v v'/\s1.heap=h1/\s1.next=n1/\∀ i,ex≠.exit i:=by
   unfold fnEndW at h3;cases ex with
   | exit i=>cases h3
   | norm =>obtain ⟨w,q1,q2⟩:=om_some h3;cases q2;obtain ⟨v',q3,q4⟩:=results_vw R.sim.env R.sim.heap q1;exact ⟨v',q3,q4,rfl,rfl,λi e=>by cases e⟩
   | ret =>obtain ⟨w,q1,q2⟩:=om_some h3;cases q2;obtain ⟨v',q3,q4⟩:=results_vw R.sim.env R.sim.heap q1;exact ⟨v',q3,q4,rfl,rfl,λi e=>by cases e⟩
  obtain ⟨v',h6,h7,rfl,rfl,h8⟩:=fin;refine ⟨v',s1'.heap,s1'.next,ρ1,V1,A1,?_,h7,R.sim.heap,R.sim.lt,λb hb=>(R.old b (lt.w b hb)).1 hb,λb hb=>?_,λb hb hv=>?_,R.base_le,h5⟩
  ·unfold runWith;have:(erProg C).fns.get f=some (erFn fn):=by show (erTree C.fns).get f=_;rw [erTree_get,hf];rfl
   rw [this];have hnp:args'.length=(erFn fn).np:=by rw [<- ha.1];exact hl
   simp only [ob];rw [if_pos hnp,show (erFn fn).body=erC fn.body from rfl,h4];cases ex with
   | exit i=>exact absurd rfl (h8 i)
   | norm=>simp only [fnEnd,show (erFn fn).res=fn.res from rfl,h6,om]
   | ret=>simp only [fnEnd,show (erFn fn).res=fn.res from rfl,h6,om]
  ·rcases Nat.lt_or_ge b n with q | q
   ·exact .inl ((R.old b q).2 hb)
   ·exact .inr q
  ·rcases Nat.lt_or_ge b n with q | q
   ·have:=(R.old b q).2 hb;exact .inl ⟨this,((R.old b q).1 this).2.1⟩
   ·exact .inr (R.hi b hb hv q)
 ·cases hrun
theorem all_sim (hok:okTree C.fns=true):∀ k,CodeSim C k:=by
 intro k;induction k with
 | zero=>intro base c s ex s1 _ he;simp [evW] at he
 | succ k ih=>exact code_sim ih (run_sim hok ih)
theorem callW_ok (hok:okTree C.fns=true) {k f:Nat} {args args':List AV} {v:AV} (ha:Rel2 (VD id λ_=>False) args args') (hc:callW C k f args=some v):∃ v',callF (erProg C) k f args'=some v'/\VD id (λ_=>False) v v' :=pure_sim (run_sim hok (all_sim hok k)) ha hc
end
end Go.Pw
end
section
set_option linter.unusedSimpArgs false
set_option linter.unusedVariables false
namespace Go.Pw
open Go Go.Pav
def RunLeW (r r':WRun):Prop:=∀ f args h n x,r f args h n=some x->r' f args h n=some x
section
variable {C:WProg} {r r':WRun}
theorem evCallW_mono (hr:RunLeW r r') {f:Nat} {args:List AV} {h:WHeap} {nid n:Nat} {c:WCalled} (hc:evCallW C r f args h nid n=some c):evCallW C r' f args h nid n=some c:=by
 unfold evCallW at hc |-;split
 ·rename_i hi;rw [if_pos hi] at hc;split
  ·rename_i hf;rw [if_pos hf] at hc;refine ob_mono hc (λx hx=>hx) λaz has=>?_;by_cases hdp:isDp f=true
   ·rw [if_pos hdp] at has |-;exact ob_mono has (λx hx=>hr _ _ _ _ _ hx) λx hx=>hx
   ·rw [if_neg hdp] at has |-;exact ob_mono has (λv hv=>ob_mono hv (λx hx=>hr _ _ _ _ _ hx) λx hx=>hx) λx hx=>hx
  ·rename_i hf;rw [if_neg hf] at hc;exact om_mono hc λx hx=>hr _ _ _ _ _ hx
 ·rename_i hi;rw [if_neg hi] at hc;split
  ·rename_i hp;rw [if_pos hp] at hc;exact om_mono hc λx hx=>hr _ _ _ _ _ hx
  ·rename_i hp;rw [if_neg hp] at hc;exact ob_mono hc (λx hx=>hx) λaz has=>om_mono has λv hv=>ob_mono hv (λx hx=>hr _ _ _ _ _ hx) λx hx=>hx
theorem evActW_mono (hr:RunLeW r r') {op:COp} {nid:Nat} {e:Env} {h:WHeap} {n:Nat} {d:WDid} (hd:evActW C r op nid e h n=some d):evActW C r' op nid e h n=some d:=by
 unfold evActW at hd |-;split
 ·rename_i hc;rw [hc] at hd;cases hd
 ·rename_i hc;rw [hc] at hd;exact om_mono hd λc hc=>evCallW_mono hr hc
 ·rename_i hc;rw [hc] at hd;exact hd
theorem evOpW_mono (hr:RunLeW r r') {o:COper} {nid:Nat} {e:Env} {h:WHeap} {n:Nat} {d:WDid} (hd:evOpW C r o nid e h n=some d):evOpW C r' o nid e h n=some d:=by
 unfold evOpW at hd |-;split
 ·rename_i hc;rw [hc] at hd;cases hd
 ·rename_i hc;rw [hc] at hd;exact hd
 ·rename_i hc;rw [hc] at hd;exact evActW_mono hr hd
theorem evOpsW_mono (hr:RunLeW r r'):∀ (l:List COper) (s s':WSt),evOpsW C r l s=some s'->evOpsW C r' l s=some s':=by
 intro l;induction l with
 | nil=>intro s s' h;exact h
 | cons o l ih=>intro s s' h;exact ob_mono h (λd hd=>evOpW_mono hr hd) λd hd=>ih _ _ hd
theorem evDrawW_mono (hr:RunLeW r r'):∀ (l:List COper) (nid:Nat) (s:WSt) (ds:List WDid) (x:WSt × List WDid),evDrawW C r l nid s ds=some x->evDrawW C r' l nid s ds=some x:=by
 intro l;induction l with
 | nil=>intro nid s ds x h;exact h
 | cons o l ih=>intro nid s ds x h;exact ob_mono h (λd hd=>evOpW_mono hr hd) λd hd=>ih _ _ _ _ hd
theorem runWithW_mono {ev ev':WEv} (he:∀ b c s x,ev b c s=some x->ev' b c s=some x):RunLeW (runWithW C ev) (runWithW C ev'):=by
 intro f args h n x hx;refine ob_mono hx (λa ha=>ha) λfn hfn=>?_;split
 ·rename_i hl;rw [if_pos hl] at hfn;exact ob_mono hfn (λa ha=>he _ _ _ _ ha) λa ha=>ha
 ·rename_i hl;rw [if_neg hl] at hfn;cases hfn
theorem evSeqW_mono {b b':WSt->Option (Ex × WSt)} (h:∀ s x,b s=some x->b' s=some x) {r:Ex × WSt} {x:Ex × WSt} (hx:evSeqW b r=some x):evSeqW b' r=some x:=by
 unfold evSeqW at hx |-;split
 ·rename_i hr;rw [hr] at hx;exact h _ _ hx
 ·split at hx
  ·rename_i h1 _ h2;exact absurd h2 h1
  ·exact hx
theorem evIsoW_mono (hr:RunLeW r r') {pre:List COper} {ap:COper} {post:List COper} {s s':WSt} (h:evIsoW C r pre ap post s=some s'):evIsoW C r' pre ap post s=some s':=by
 unfold evIsoW at h |-;split
 ·rename_i hl;rw [if_pos hl] at h;exact ob_mono h (λs1 h1=>evOpsW_mono hr _ _ _ h1) λs1 h1=>ob_mono h1 (λv hv=>hv) λv hv=>om_mono hv λs2 h2=>evOpsW_mono hr _ _ _ h2
 ·rename_i hl;rw [if_neg hl] at h;cases h
theorem evW_mono:∀ (n m:Nat),n<=m->∀ (base:Nat) (c:WCode) (s:WSt) (x:Ex × WSt),evW C n base c s=some x->evW C m base c s=some x:=by
 intro n;induction n with
 | zero=>intro m _ base c s x h;simp only [evW] at h;cases h
 | succ n ih =>
  intro m hm base c s x h;obtain ⟨m,rfl⟩:∃ k,m=k+1:=⟨m - 1,by omega⟩;have ih':=ih m Qq;have hr:RunLeW (runWithW C (evW C n)) (runWithW C (evW C m)):=runWithW_mono ih';cases c with
  | skip=>exact h
  | exit id=>exact h
  | ret=>exact h
  | fail=>exact h
  | prim k=>exact h
  | cln zz z b =>
   simp only [evW] at h |-;split
   ·rename_i z' hz;rw [hz] at h;simp only at h;split at h
    ·rename_i hc;rw [if_pos ⟨hc.1,hc.2.1,by omega⟩];exact h
    ·cases h
   ·rename_i hz;rw [hz] at h;exact ih' _ _ _ _ h
  | ops l a=>simp only [evW] at h |-;exact ob_mono h (λs' hs=>evOpsW_mono hr l s s' hs) λx hx=>hx
  | iso pre ap post a=>simp only [evW] at h |-;exact ob_mono h (λs' hs=>evIsoW_mono hr hs) λx hx=>hx
  | draw l un a=>simp only [evW] at h |-;exact ob_mono h (λx hx=>evDrawW_mono hr l _ _ _ x hx) λx hx=>hx
  | seq a b=>simp only [evW] at h |-;exact ob_mono h (λx hx=>ih' _ _ _ _ hx) λx hx=>evSeqW_mono (λs x hx=>ih' _ _ _ _ hx) hx
  | cond c a b =>
   simp only [evW] at h |-;unfold evCondW at h |-;split
   ·rename_i t hv;rw [hv] at h;cases t with
    | true=>exact ih' _ _ _ _ h
    | false=>exact ih' _ _ _ _ h
   ·split at h
    ·rename_i h1 _ t hv;exact absurd hv (h1 t)
    ·cases h
  | block id b a=>simp only [evW] at h |-;exact ob_mono h (λx hx=>ih' _ _ _ _ hx) λx hx=>hx
  | loop a b=>simp only [evW] at h |-;exact ob_mono h (λx hx=>hx) λs hs=>ob_mono hs (λx hx=>ih' _ _ _ _ hx) λx hx=>evSeqW_mono (λs x hx=>ih' _ _ _ _ hx) hx
theorem runW_mono {n m:Nat} (h:n<=m):RunLeW (runW C n) (runW C m):=runWithW_mono (evW_mono n m h)
end
section
variable (C:WProg)
noncomputable def CdW:WEv:=λbase c s=>lim λn=>evW C n base c s
noncomputable def RnW:WRun:=runWithW C (CdW C)
noncomputable def FnW (f:Nat) (args:List AV):Option AV:=pureCallW (RnW C) f args
end
section
variable {C:WProg} {base:Nat}
theorem mono_W (base:Nat) (c:WCode) (s:WSt):Mono λn=>evW C n base c s:=λn m h a ha=>evW_mono n m h base c s a ha
theorem cdW_iff {c:WCode} {s:WSt} {x:Ex × WSt}:CdW C base c s=some x↔∃ n,evW C n base c s=some x:=lim_iff (mono_W base c s)
theorem evW_cd {n:Nat} {c:WCode} {s:WSt} {x:Ex × WSt} (h:evW C n base c s=some x):CdW C base c s=some x:=cdW_iff.2 ⟨n,h⟩
theorem runle_rnW (n:Nat):RunLeW (runW C n) (RnW C):=runWithW_mono λ_ _ _ _ h=>evW_cd h
theorem rnW_run {f:Nat} {args:List AV} {h:WHeap} {n:Nat} {x:AV × WHeap × Nat} (hx:RnW C f args h n=some x):∃ k,runW C k f args h n=some x:=by
 unfold RnW runWithW at hx;obtain ⟨fn,hf,hx⟩:=ob_some hx;split at hx
 ·rename_i hl;obtain ⟨y,hc,hx⟩:=ob_some hx;obtain ⟨k,hk⟩:=cdW_iff.1 hc;refine ⟨k,?_⟩;unfold runW runWithW;rw [hf];simp only [ob,if_pos hl,hk];exact hx
 ·cases hx
theorem evCallW_cont {f:Nat} {args:List AV} {h:WHeap} {nid n:Nat} {c:WCalled} (hc:evCallW C (RnW C) f args h nid n=some c):∃ k,evCallW C (runW C k) f args h nid n=some c:=by
 unfold evCallW at hc |-;split
 ·rename_i hi;rw [if_pos hi] at hc;split
  ·rename_i hf;rw [if_pos hf] at hc;obtain ⟨az,h1,hc⟩:=ob_some hc;by_cases hdp:isDp f=true
   ·rw [if_pos hdp] at hc;obtain ⟨r,h3,hc⟩:=ob_some hc;obtain ⟨k,hk⟩:=rnW_run h3;refine ⟨k,?_⟩;rw [h1];simp only [ob,if_pos hdp,hk];exact hc
   rw [if_neg hdp] at hc;obtain ⟨x,h2,hend⟩:=ob_some hc;obtain ⟨r,h3,h4⟩:=ob_some h2;obtain ⟨k,hk⟩:=rnW_run h3;refine ⟨k,?_⟩;rw [h1];simp only [ob,if_neg hdp];unfold freshCallW;simp only [ob,hk];rw [h4];exact hend
  ·rename_i hf;rw [if_neg hf] at hc;obtain ⟨r,h1,rfl⟩:=om_some hc;obtain ⟨k,hk⟩:=rnW_run h1;exact ⟨k,by rw [hk];rfl⟩
 ·rename_i hi;rw [if_neg hi] at hc;split
  ·rename_i hp;rw [if_pos hp] at hc;obtain ⟨r,h1,rfl⟩:=om_some hc;obtain ⟨k,hk⟩:=rnW_run h1;exact ⟨k,by rw [hk];rfl⟩
  ·rename_i hp;rw [if_neg hp] at hc;obtain ⟨az,h1,hc⟩:=ob_some hc;obtain ⟨v,h2,rfl⟩:=om_some hc;obtain ⟨r,h3,h4⟩:=ob_some h2;obtain ⟨k,hk⟩:=rnW_run h3;exact ⟨k,by rw [h1];simp only [ob,pureCallW,hk,h4];rfl⟩
theorem evOpW_cont {o:COper} {nid:Nat} {e:Env} {h:WHeap} {n:Nat} {d:WDid} (hd:evOpW C (RnW C) o nid e h n=some d):∃ k,evOpW C (runW C k) o nid e h n=some d:=by
 unfold evOpW at hd |-;split
 ·rename_i hc;rw [hc] at hd;cases hd
 ·rename_i hc;rw [hc] at hd;exact ⟨0,hd⟩
 ·rename_i hc;rw [hc] at hd;simp only at hd;unfold evActW at hd |-;split
  ·rename_i hc;rw [hc] at hd;cases hd
  ·rename_i hc;rw [hc] at hd;simp only at hd;obtain ⟨r,h1,rfl⟩:=om_some hd;obtain ⟨k,hk⟩:=evCallW_cont h1;exact ⟨k,by rw [hk];rfl⟩
  ·rename_i hc;rw [hc] at hd;exact ⟨0,hd⟩
theorem evOpsW_cont:∀ (l:List COper) (s s':WSt),evOpsW C (RnW C) l s=some s'->∃ k,evOpsW C (runW C k) l s=some s':=by
 intro l;induction l with
 | nil=>intro s s' h;exact ⟨0,h⟩
 | cons o l ih =>intro s s' h;simp only [evOpsW] at h |-;obtain ⟨d,hd,h⟩:=ob_some h;obtain ⟨k1,h1⟩:=evOpW_cont hd;obtain ⟨k2,h2⟩:=ih _ _ h;refine ⟨max k1 k2,?_⟩;rw [evOpW_mono (runW_mono (Nat.le_max_left k1 k2)) h1];exact evOpsW_mono (runW_mono (Nat.le_max_right k1 k2)) _ _ _ h2
theorem evDrawW_cont:∀ (l:List COper) (nid:Nat) (s:WSt) (ds:List WDid) (x:WSt × List WDid),evDrawW C (RnW C) l nid s ds=some x->∃ k,evDrawW C (runW C k) l nid s ds=some x:=by
 intro l;induction l with
 | nil=>intro nid s ds x h;exact ⟨0,h⟩
 | cons o l ih =>intro nid s ds x h;simp only [evDrawW] at h |-;obtain ⟨d,hd,h⟩:=ob_some h;obtain ⟨k1,h1⟩:=evOpW_cont hd;obtain ⟨k2,h2⟩:=ih _ _ _ _ h;refine ⟨max k1 k2,?_⟩;rw [evOpW_mono (runW_mono (Nat.le_max_left k1 k2)) h1];exact evDrawW_mono (runW_mono (Nat.le_max_right k1 k2)) _ _ _ _ _ h2
theorem cw_skip (s:WSt):CdW C base .skip s=some (.norm,s):=evW_cd (n:=1) rfl
theorem cw_exit (id:Nat) (s:WSt):CdW C base (.exit id) s=some (.exit id,s):=evW_cd (n:=1) rfl
theorem cw_prim (k:Nat) (s:WSt):CdW C base (.prim k) s=om (primF k (primArgs (primN k) 0 s.env)) λv=>(.ret,⟨putE s.env 9 v,s.heap,s.next⟩):=by
 cases h:om (primF k (primArgs (primN k) 0 s.env)) λv=>((.ret,⟨putE s.env 9 v,s.heap,s.next⟩):Ex × WSt) with
 | some x=>exact evW_cd (n:=1) h
 | none =>
  cases h2:CdW C base (.prim k) s with
  | none=>rfl
  | some x =>
   obtain ⟨n,hn⟩:=cdW_iff.1 h2;cases n with
   | zero=>simp only [evW] at hn;cases hn
   | succ n=>simp only [evW] at hn;rw [h] at hn;cases hn
theorem cw_ret (s:WSt):CdW C base .ret s=some (.ret,s):=evW_cd (n:=1) rfl
theorem cw_succ {c:WCode} {s:WSt} {x:Ex × WSt}:CdW C base c s=some x↔∃ n,evW C (n+1) base c s=some x:=by
 rw [cdW_iff];constructor
 ·rintro ⟨n,h⟩;exact ⟨n,evW_mono n (n+1) (Nat.le_succ n) base c s x h⟩
 ·rintro ⟨n,h⟩;exact ⟨_,h⟩
theorem evSeqW_iff {b:WCode} {r x:Ex × WSt}:evSeqW (CdW C base b) r=some x↔∃ n,evSeqW (evW C n base b) r=some x:=by
 obtain ⟨ex,s⟩:=r;cases ex with
 | norm=>simp only [evSeqW];exact cdW_iff
 | exit id=>simp [evSeqW]
 | ret=>simp [evSeqW]
theorem cw_seq (a b:WCode) (s:WSt):CdW C base (.seq a b) s=ob (CdW C base a s) (evSeqW (CdW C base b)):=by
 refine opt_ext λx=>?_;rw [cw_succ,ob_iff];simp only [evW,ob_iff];constructor
 ·rintro ⟨n,r,h1,h2⟩;exact ⟨r,evW_cd h1,evSeqW_iff.2 ⟨n,h2⟩⟩
 ·rintro ⟨r,h1,h2⟩;obtain ⟨n,h1⟩:=cdW_iff.1 h1;obtain ⟨m,h2⟩:=evSeqW_iff.1 h2;exact ⟨max n m,r,evW_mono _ _ (Nat.le_max_left n m) _ _ _ _ h1,evSeqW_mono (λs x hx=>evW_mono _ _ (Nat.le_max_right n m) _ _ _ _ hx) h2⟩
theorem cw_loop (a:Ann) (b:WCode) (s:WSt):CdW C base (.loop a b) s=ob (canon base a s) λs=>ob (CdW C base b s) (evSeqW (CdW C base (.loop a b))):=by
 refine opt_ext λx=>?_;rw [cw_succ,ob_iff];simp only [evW,ob_iff];constructor
 ·rintro ⟨n,s0,h0,r,h1,h2⟩;exact ⟨s0,h0,r,evW_cd h1,evSeqW_iff.2 ⟨n,h2⟩⟩
 ·rintro ⟨s0,h0,r,h1,h2⟩;obtain ⟨n,h1⟩:=cdW_iff.1 h1;obtain ⟨m,h2⟩:=evSeqW_iff.1 h2;exact ⟨max n m,s0,h0,r,evW_mono _ _ (Nat.le_max_left n m) _ _ _ _ h1,evSeqW_mono (λs x hx=>evW_mono _ _ (Nat.le_max_right n m) _ _ _ _ hx) h2⟩
theorem cw_block (id:Nat) (b:WCode) (a:Ann) (s:WSt):CdW C base (.block id b a) s=ob (CdW C base b s) (evBlockW base id a):=by
 refine opt_ext λx=>?_;rw [cw_succ,ob_iff];simp only [evW,ob_iff];constructor
 ·rintro ⟨n,r,h1,h2⟩;exact ⟨r,evW_cd h1,h2⟩
 ·rintro ⟨r,h1,h2⟩;obtain ⟨n,h1⟩:=cdW_iff.1 h1;exact ⟨n,r,h1,h2⟩
theorem cw_cond (c:Opd) (a b:WCode) (s:WSt):CdW C base (.cond c a b) s=evCondW (CdW C base a) (CdW C base b) (c.ev s.env) s:=by
 refine opt_ext λx=>?_;rw [cw_succ];simp only [evW];unfold evCondW;split
 ·rename_i t _;cases t with
  | true=>exact cdW_iff.symm
  | false=>exact cdW_iff.symm
 ·simp
theorem cw_ops (l:List COper) (a:Ann) (s:WSt):CdW C base (.ops l a) s=ob (evOpsW C (RnW C) l s) λs=>om (canonF base a s) λs=>(.norm,s):=by
 refine opt_ext λx=>?_;rw [cw_succ,ob_iff];simp only [evW,ob_iff];constructor
 ·rintro ⟨n,r,h1,h2⟩;exact ⟨r,evOpsW_mono (runle_rnW n) _ _ _ h1,h2⟩
 ·rintro ⟨r,h1,h2⟩;obtain ⟨n,h1⟩:=evOpsW_cont _ _ _ h1;exact ⟨n,r,h1,h2⟩
theorem evIsoW_cont {pre:List COper} {ap:COper} {post:List COper} {s s':WSt} (h:evIsoW C (RnW C) pre ap post s=some s'):∃ k,evIsoW C (runW C k) pre ap post s=some s':=by
 unfold evIsoW at h |-;split
 ·rename_i hl;rw [if_pos hl] at h;obtain ⟨s1,h1,h⟩:=ob_some h;obtain ⟨v,h2,h⟩:=ob_some h;obtain ⟨s2,h3,h⟩:=om_some h;obtain ⟨k1,q1⟩:=evOpsW_cont _ _ _ h1;obtain ⟨k2,q2⟩:=evOpsW_cont _ _ _ h3;refine ⟨max k1 k2,?_⟩;rw [evOpsW_mono (runW_mono (Nat.le_max_left k1 k2)) _ _ _ q1];simp only [ob,h2,evOpsW_mono (runW_mono (Nat.le_max_right k1 k2)) _ _ _ q2,om,h]
 ·rename_i hl;rw [if_neg hl] at h;cases h
theorem cw_iso (pre:List COper) (ap:COper) (post:List COper) (a:Ann) (s:WSt):CdW C base (.iso pre ap post a) s=ob (evIsoW C (RnW C) pre ap post s) λs=>om (canonF base a s) λs=>(.norm,s):=by
 refine opt_ext λx=>?_;rw [cw_succ,ob_iff];simp only [evW,ob_iff];constructor
 ·rintro ⟨n,r,h1,h2⟩;exact ⟨r,evIsoW_mono (runle_rnW n) h1,h2⟩
 ·rintro ⟨r,h1,h2⟩;obtain ⟨n,h1⟩:=evIsoW_cont h1;exact ⟨n,r,h1,h2⟩
theorem cw_draw (l:List COper) (un:List (Nat × Nat)) (a:Ann) (s:WSt):CdW C base (.draw l un a) s=ob (evDrawW C (RnW C) l s.next ⟨s.env,s.heap,s.next+l.length⟩ []) (drawEndW base un a):=by
 refine opt_ext λx=>?_;rw [cw_succ,ob_iff];simp only [evW,ob_iff];constructor
 ·rintro ⟨n,r,h1,h2⟩;exact ⟨r,evDrawW_mono (runle_rnW n) _ _ _ _ _ h1,h2⟩
 ·rintro ⟨r,h1,h2⟩;obtain ⟨n,h1⟩:=evDrawW_cont _ _ _ _ _ h1;exact ⟨n,r,h1,h2⟩
theorem cw_cln (zz:List AV) (z b:Nat) (s:WSt):CdW C base (.cln zz z b) s=match (Pav.get s.env 0).bind isEmptyRo with
 | some z'=>if z'=z/\zz.length=z then some (.ret,⟨[(2,.sl s.next z 0 0 0 true)],Pav.put s.heap s.next (.cells z [] true true),s.next+1⟩) else none
 | none=>CdW C base (clnC zz z b) s:=by
 refine opt_ext λx=>?_;rw [cw_succ];simp only [evW];cases hq:(Pav.get s.env 0).bind isEmptyRo with
 | some z' =>
  simp only;by_cases hc:z'=z/\zz.length=z
  ·rw [if_pos hc];constructor
   ·rintro ⟨n,h⟩;split at h
    ·exact h
    ·cases h
   ·intro h;exact ⟨8,by rw [if_pos ⟨hc.1,hc.2,by omega⟩];exact h⟩
  ·rw [if_neg hc];constructor
   ·rintro ⟨n,h⟩;rw [if_neg (λw=>hc ⟨w.1,w.2.1⟩)] at h;exact h
   ·intro h;cases h
 | none=>exact cdW_iff.symm
theorem fnW_call {f:Nat} {args:List AV} {v:AV}:FnW C f args=some v↔∃ n,callW C n f args=some v:=by
 unfold FnW callW pureCallW;simp only [ob_iff];constructor
 ·rintro ⟨r,h1,h2⟩;obtain ⟨k,h1⟩:=rnW_run h1;exact ⟨k,r,h1,h2⟩
 ·rintro ⟨k,r,h1,h2⟩;exact ⟨r,runle_rnW k _ _ _ _ _ h1,h2⟩
end
end Go.Pw
end
