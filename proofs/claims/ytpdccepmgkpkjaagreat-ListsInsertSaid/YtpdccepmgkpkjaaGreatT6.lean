/- Part of the theory that the claims of this work use: D19, D20, D21, D22, D23, V600, D24, D25, D26, D27, D28, D29, D32, D34, D35, D36, PwGlue, PwGlue2, G24, D30, D31, D38, PwNest, V596, I01. No conditions of its own. -/
import Derived.Test.YtpdccepmgkpkjaaGreatT5
import Derived.ChangeSame
import Derived.ChangeArms
import Derived.ReadAgain
import Derived.Handed
import Derived.JoinedOf
import Derived.RowKit
import Derived.Test.YtpdccepmgkpkjaaGreatRows
import Derived.ProofKit
set_option linter.unusedVariables false
set_option linter.unusedSimpArgs false
set_option maxHeartbeats 4000000
set_option maxRecDepth 10000
section
namespace Go.D
open Go Go.Pav Go.Pw P
mutual
/-- A tree without what is known of its memory. -/
def Nd.z:Nd→Nd
 | ⟨k,t,y,a,ae,x,ch,ce⟩=>⟨k,t,y,a,true,x,Nd.zs ch,true⟩
def Nd.zs:List Nd→List Nd
 | []=>[]
 | n::r=>n.z::Nd.zs r
end
theorem Nd.zs_eq:∀ l:List Nd,Nd.zs l=l.map Nd.z
 | []=>rfl
 | n::r=>by rw [Nd.zs,Nd.zs_eq r];rfl
theorem Nd.z_eq (n:Nd):n.z=⟨n.k,n.t,n.y,n.a,true,n.x,n.ch.map Nd.z,true⟩:=by cases n;rw [Nd.z,Nd.zs_eq]
theorem Nd.z_y (n:Nd):n.z.y=n.y:=by rw [Nd.z_eq]
theorem alone_z (n:Nd):alone n.z=alone n:=by
 have h:(n.ch.map Nd.z).map Nd.y=n.ch.map Nd.y:=by rw [List.map_map];exact List.map_congr_left fun m _=>m.z_y
 rw [Nd.z_eq]
 unfold alone
 simp only [h,List.length_map,List.map_eq_nil_iff]
mutual
theorem wk_z:∀ (n:Nd) (lv:Nat) (s:Nat × Nat),wk n.z lv s=wk n lv s
 | ⟨k,t,y,a,ae,x,ch,ce⟩,lv,(c,d)=>by
  have h:=alone_z ⟨k,t,y,a,ae,x,ch,ce⟩
  rw [wk_eq,wk_eq,h]
  have e:(Nd.z ⟨k,t,y,a,ae,x,ch,ce⟩).ch=Nd.zs ch:=by rw [Nd.z]
  rw [e,wks_z ch (lv+1) (c+1,max d lv)]
theorem wks_z:∀ (l:List Nd) (lv:Nat) (s:Nat × Nat),wks (Nd.zs l) lv s=wks l lv s
 | [],lv,s=>by rw [Nd.zs]
 | m::r,lv,s=>by
  rw [Nd.zs,wks,wks,wk_z m lv s]
  split
  · exact wks_z r lv _
  · rfl
end
theorem cnt_z (n:Nd):cnt n.z=cnt n:=by unfold cnt;rw [wk_z]
end Go.D
end
section
namespace Go.D
open Go Go.Pav Go.Pw P
inductive Okp:Pt→Prop
 | mk (p:Pt) (h:pOne p=true) (hf:Fits p) (hm:∀ m ∈ p.ch,Okp m):Okp p
mutual
theorem tk_okp:∀ (p:Pt),FitsAll p→∀ (lv c:Nat),(tk p lv c).1=true→Okp p
 | ⟨k,t,y,s,se,x,ch,ce⟩,hf,lv,c,h=>by
  rw [tk_eq] at h
  split at h
  · cases h
  · rename_i q
    cases hf with
    | mk _ h1 hm =>
     exact .mk _ (by simpa using fun e=>q (.inr (.inr e))) h1 (tks_okp ch hm _ _ h)
theorem tks_okp:∀ (l:List Pt),(∀ m ∈ l,FitsAll m)→∀ (lv c:Nat),(tks l lv c).1=true→∀ m ∈ l,Okp m
 | [],_,_,_,_=>by simp
 | m::r,hf,lv,c,h=>by
  rw [tks] at h
  split at h
  · rename_i q
    intro a ha
    have h0:=tk_okp m (hf m (by simp)) lv c q
    have h2:=tks_okp r (fun b hb=>hf b (by simp [hb])) lv _ h
    rcases List.mem_cons.1 ha with e | ha
    · exact e ▸ h0
    · exact h2 a ha
  · cases h
end
theorem tcnt_okp {p:Pt} (hf:FitsAll p) (h:tcnt p≠0):Okp p:=by
 unfold tcnt at h
 split at h
 · rename_i q;exact tk_okp p hf 1 0 q.2
 · exact absurd rfl h
theorem tcnt_k {p:Pt} (h:tcnt p≠0):p.k=1:=by
 unfold tcnt at h
 split at h
 · rename_i q;exact q.1
 · exact absurd rfl h
theorem slsOk_f:∀ (l:List Sl) (p:Option Bs),slsOk p l=true→∀ s ∈ l,s.f≤3
 | [],_,_=>by simp
 | s::r,p,h=>by
  rw [slsOk] at h
  simp at h
  intro a ha
  rcases List.mem_cons.1 ha with rfl | ha
  · exact h.1.1.1.1.2
  · exact slsOk_f r _ h.2 a ha
theorem pOne_s {p:Pt} (h:pOne p=true):p.s.length≤8∧∀ s ∈ p.s,s.f≤3:=by
 unfold pOne at h
 split at h
 · simp at h;exact ⟨h.1.2.1,slsOk_f _ _ h.1.2.2⟩
 · split at h
   · simp at h;exact ⟨h.1.1.1.2.1,slsOk_f _ _ h.1.1.1.2.2⟩
   · split at h
     · simp at h;rw [h.1.2];simp
     · simp at h;rw [h.1.2];simp
theorem pOne_k {p:Pt} (h:pOne p=true):p.k=1∨p.k=2∨p.k=3∨p.k=4∨p.k=5:=by
 unfold pOne at h
 split at h
 · exact .inl ‹_›
 · split at h
   · exact .inr (.inr (.inr (.inr ‹_›)))
   · split at h
     · exact .inr (.inl ‹_›)
     · simp at h
       rcases h.1.1.1.1.1 with q | q
       · exact .inr (.inr (.inl q))
       · exact .inr (.inr (.inr (.inl q)))
mutual
/-- What a part makes. -/
def mk (x:It):Pt→List Nd
 | ⟨k,t,y,s,se,tx,ch,ce⟩ =>
  if k=1 then [⟨1,t,y,s.map (attrOf x),true,[],mks x ch,true⟩]
  else if k=2 then [wordsN tx] else if k=3 then [wordsN x.x] else if k=4 then [wordsN (dec x.k.toNat)]
  else if k=5 then x.m.map fun m=>⟨1,t,m,s.map (attrOf x),true,[],[wordsN m],true⟩ else []
def mks (x:It):List Pt→List Nd
 | []=>[]
 | p::r=>mk x p++mks x r
end
theorem mk_eq (x:It) (p:Pt):mk x p=if p.k=1 then [elemN x p p.y (mks x p.ch)]
 else if p.k=2 then [wordsN p.x] else if p.k=3 then [wordsN x.x] else if p.k=4 then [wordsN (dec x.k.toNat)]
 else if p.k=5 then x.m.map fun m=>elemN x p m [wordsN m] else []:=by cases p;rw [mk];rfl
mutual
/-- What the specification's part makes. -/
def md (x:It):Pt→List Nd
 | ⟨k,t,y,s,se,tx,ch,ce⟩ =>
  if k=2 then [wordsN tx] else if k=3 then [wordsN x.x] else if k=4 then [wordsN (dec x.k.toNat)]
  else if k=5 then x.m.map fun m=>⟨1,t,m,s.map (attrOf x),false,[],[wordsN m],true⟩
  else [⟨1,t,y,s.map (attrOf x),false,[],mds x ch,(mds x ch).isEmpty⟩]
def mds (x:It):List Pt→List Nd
 | []=>[]
 | p::r=>md x p++mds x r
end
def elemR (x:It) (p:Pt) (key:Bs) (ch:List Nd) (e:Bool):Nd:=⟨1,p.t,key,p.s.map (attrOf x),false,[],ch,e⟩
theorem md_eq (x:It) (p:Pt):md x p=if p.k=2 then [wordsN p.x] else if p.k=3 then [wordsN x.x] else if p.k=4 then [wordsN (dec x.k.toNat)]
 else if p.k=5 then x.m.map fun m=>elemR x p m [wordsN m] true else [elemR x p p.y (mds x p.ch) (mds x p.ch).isEmpty]:=by cases p;rw [md];rfl
mutual
theorem mk_md (x:It):∀ (p:Pt),Okp p→(mk x p).map Nd.z=(md x p).map Nd.z
 | ⟨k,t,y,s,se,tx,ch,ce⟩,h=>by
  have hk:=pOne_k (by cases h;assumption:pOne ⟨k,t,y,s,se,tx,ch,ce⟩=true)
  have hm:∀ m ∈ ch,Okp m:=by cases h;assumption
  have ih:=mks_mds x ch hm
  rw [mk,md]
  simp only at hk
  rcases hk with rfl | rfl | rfl | rfl | rfl
  · simp [Nd.z_eq,ih]
  · simp
  · simp
  · simp
  · simp [Nd.z_eq]
theorem mks_mds (x:It):∀ (l:List Pt),(∀ m ∈ l,Okp m)→(mks x l).map Nd.z=(mds x l).map Nd.z
 | [],_=>by rw [mks,mds]
 | p::r,h=>by
  rw [mks,mds,List.map_append,List.map_append,mk_md x p (h p (by simp)),mks_mds x r fun m hm=>h m (by simp [hm])]
end
theorem md_len (x:It) (hx:x.m.length≤8) (p:Pt):(md x p).length≤8:=by
 rw [md_eq];split <;> (try split) <;> (try split) <;> (try split) <;> (try split) <;> simp <;> omega
def zN:Nd:=⟨0,[],[],[],true,[],[],true⟩
def mkN (x:It) (p:Pt):Nd:=(mk x p).headD zN
def mdN (x:It) (p:Pt):Nd:=(md x p).headD zN
theorem mkN_z (x:It) (p:Pt) (h:Okp p):(mkN x p).z=(mdN x p).z:=by
 have:=mk_md x p h
 unfold mkN mdN
 cases h1:mk x p <;> cases h2:md x p <;> rw [h1,h2] at this <;> simp at this ⊢
 exact this.1
def rndE (p:Pt) (x:It) (most:Int):Int :=
 if most < 1∨64 < most then 1 else if tcnt p=0 then 14 else if itOk2 x=false then 6 else if cnt (mkN x p)=0∨most < cnt (mkN x p) then 14 else 0
def rndN (p:Pt) (x:It) (most:Int):Nd:=if rndE p x most=0 then mkN x p else zN
def rndR (p:Pt) (x:It) (most:Int):Nd:=if rndE p x most=0 then mdN x p else zN
end Go.D
end
section
namespace Go.D
open Go Go.Pav Go.Pw P
attribute [-simp] List.getElem_cons_drop
variable {C:WProg}
structure HasZ (C:WProg):Prop extends HasY C,HasR C where
 f547:C.fns.get 547=some w547
 f513:C.fns.get 513=some w513
 f501:C.fns.get 501=some w501
 f425:C.fns.get 425=some w425
@[simp] theorem Nd.c_hasRef (n:Nd) (k:Nat):n.c.any (hasRefW (k+1))=true:=by rw [Nd.c_eq];rfl
@[simp] theorem Nd.c_hasRef2 (n:Nd) (k:Nat):(∃ x,x ∈ n.c∧hasRefW (k+1) x=true)=True:=by
 refine eq_true ⟨.ro 2 (n.a.map eA) n.ae,?_,rfl⟩
 rw [Nd.c_eq];simp
theorem made_in (H:HasZ C) (x:It) (hk:0≤x.k∧x.k < 18446744073709551616) (hm:x.m.length≤8) (l:List Pt) (e:Bool) (hl:l.length≤16) (p:Pt) (hp:pOne p=true∧Fits p) (hk5:p.k=5) (i:Nat) (hi:i < l.length)
 (hnext:∀ G:List Nd,G.length≤8 * (i+1)→w547_K0 C ⟨[(12,.int .i64 ((i:Int)+1)),(11,.int .i64 l.length),(10,.ro 6 (l.map Pt.c) e),(5,.sl 0 6 0 G.length G.length false),(2,.ptr 1 0 0)],[(0,.cells 6 (G.map Nd.c) true true),(1,.cells 4 [[.int .u64 x.k,.int .u8 x.t,.str x.x,.ro 1 (x.m.map eS) x.e]] true true)],2⟩ =
  some (.ro 6 ((G++mks x (l.drop (i+1))).map Nd.c) false)):∀ n k,n+k=x.m.length→∀ G:List Nd,G.length≤8 * i+k →
 w547_K1 C ⟨[(65,.int .i64 k),(64,.int .i64 x.m.length),(63,.ro 1 (x.m.map eS) x.e),(12,.int .i64 i),(11,.int .i64 l.length),(10,.ro 6 (l.map Pt.c) e),(7,.ptr 0 0 0),(5,.sl 1 6 0 G.length G.length false),(2,.ptr 2 0 0)],[(0,.cells 6 [p.c] true true),(1,.cells 6 (G.map Nd.c) true true),(2,.cells 4 [[.int .u64 x.k,.int .u8 x.t,.str x.x,.ro 1 (x.m.map eS) x.e]] true true)],3⟩ =
  some (.ro 6 ((G++(x.m.drop k).map (fun m=>elemN x p m [wordsN m])++mks x (l.drop (i+1))).map Nd.c) false):=by
 intro n
 induction n with
 | zero =>
  intro k hk2 G hG
  have h1:x.m.drop k=[]:=List.drop_eq_nil_of_le (by omega)
  have h3:¬ k < x.m.length:=by omega
  have:=hnext G (by omega)
  simp only [w547_K0] at this
  simp at this
  simp only [w547_K1];rw [ck_unf w547_B1.eq_1]
  simp (disch:=omega) [ck_unf w547_c1.eq_1,h1,h3,wI64,this]
 | succ n ih =>
  intro k hk2 G hG
  have h1:k < x.m.length:=by omega
  have hs:=pOne_s hp.1
  have he:=element_ok H.toHasY x hk (by omega) p hs.1 (fun s q=>⟨hp.2.f s q,hs.2 s q⟩) x.m[k] [wordsN x.m[k]] true
  have hw:=words_ok2 H.toHasY x.m[k]
  have:=ih (k+1) (by omega) (G++[elemN x p x.m[k] [wordsN x.m[k]]]) (by simp;omega)
  have hfit:(G.length+1) * 105≤35184372088832:=by omega
  rw [drop_cons h1]
  simp only [w547_K1] at this ⊢;rw [ck_unf w547_B1.eq_1]
  simp at this
  simp at he
  simp (disch:=omega) [h1,wI64,hfit,hw,he,H.inl,inlB,H.pp,ppB,this]
theorem make_loop (H:HasZ C) (x:It) (hk:0≤x.k∧x.k < 18446744073709551616) (hm:x.m.length≤8) (l:List Pt) (e:Bool) (hl:l.length≤16) (ho:∀ p ∈ l,Okp p)
 (ih:∀ p ∈ l,FnW C 547 [eIt x,.ro 6 (p.ch.map Pt.c) p.ce]=some (.ro 6 ((mks x p.ch).map Nd.c) false)):∀ n i,n+i=l.length→∀ G:List Nd,G.length≤8 * i →
 w547_K0 C ⟨[(12,.int .i64 i),(11,.int .i64 l.length),(10,.ro 6 (l.map Pt.c) e),(5,.sl 0 6 0 G.length G.length false),(2,.ptr 1 0 0)],[(0,.cells 6 (G.map Nd.c) true true),(1,.cells 4 [[.int .u64 x.k,.int .u8 x.t,.str x.x,.ro 1 (x.m.map eS) x.e]] true true)],2⟩ =
  some (.ro 6 ((G++mks x (l.drop i)).map Nd.c) false):=by
 intro n
 induction n with
 | zero =>
  intro i hi G hG
  have h1:l.drop i=[]:=List.drop_eq_nil_of_le (by omega)
  have h3:¬ i < l.length:=by omega
  simp only [w547_K0];rw [ck_unf w547_B0.eq_1]
  cases G with
  | nil=>simp [ck_unf w547_c0.eq_1,h1,h3,mks]
  | cons g G=>simp (disch:=(first | omega | (simp;done) | (simp;omega))) [ck_unf w547_c0.eq_1,h1,h3,mks,List.take_of_length_le]
 | succ n ihn =>
  intro i hi G hG
  have h1:i < l.length:=by omega
  have hp:=ho _ (List.getElem_mem h1)
  have hpo:pOne l[i]=true:=by cases hp;assumption
  have hpf:Fits l[i]:=by cases hp;assumption
  have hs:=pOne_s hpo
  have hnext:∀ G:List Nd,G.length≤8 * (i+1)→w547_K0 C ⟨[(12,.int .i64 ((i:Int)+1)),(11,.int .i64 l.length),(10,.ro 6 (l.map Pt.c) e),(5,.sl 0 6 0 G.length G.length false),(2,.ptr 1 0 0)],[(0,.cells 6 (G.map Nd.c) true true),(1,.cells 4 [[.int .u64 x.k,.int .u8 x.t,.str x.x,.ro 1 (x.m.map eS) x.e]] true true)],2⟩ =
   some (.ro 6 ((G++mks x (l.drop (i+1))).map Nd.c) false):=fun G q=>by
    have:=ihn (i+1) (by omega) G q
    simpa using this
  have hfit:(G.length+1) * 105≤35184372088832:=by omega
  rw [drop_cons h1,mks]
  have step:∀ N:Nd,w547_K0 C ⟨[(12,.int .i64 ((i:Int)+1)),(11,.int .i64 l.length),(10,.ro 6 (l.map Pt.c) e),(5,.sl 0 6 0 (G.length+1) (G.length+1) false),(2,.ptr 1 0 0)],[(0,.cells 6 (G.map Nd.c++[N.c]) true true),(1,.cells 4 [[.int .u64 x.k,.int .u8 x.t,.str x.x,.ro 1 (x.m.map eS) x.e]] true true)],2⟩ =
   some (.ro 6 ((G++([N]++mks x (l.drop (i+1)))).map Nd.c) false):=fun N=>by
    have:=hnext (G++[N]) (by simp;omega)
    simpa using this
  rcases pOne_k hpo with k1 | k1 | k1 | k1 | k1
  · have he:=element_ok H.toHasY x hk (by omega) l[i] hs.1 (fun s q=>⟨hpf.f s q,hs.2 s q⟩) l[i].y (mks x l[i].ch) false
    have hr:=ih _ (List.getElem_mem h1)
    have:=step (elemN x l[i] l[i].y (mks x l[i].ch))
    have hq:mk x l[i]=[elemN x l[i] l[i].y (mks x l[i].ch)]:=by rw [mk_eq,if_pos k1]
    rw [hq]
    simp only [w547_K0] at this ⊢;rw [ck_unf w547_B0.eq_1]
    simp at this
    simp (disch:=omega) [ck_unf w547_c1.eq_1,h1,k1,wI64,hfit,he,hr,H.inl,inlB,H.pp,ppB,this]
  · have hw:=words_ok2 H.toHasY l[i].x
    have:=step (wordsN l[i].x)
    have hq:mk x l[i]=[wordsN l[i].x]:=by rw [mk_eq,if_neg (by omega),if_pos k1]
    rw [hq]
    simp only [w547_K0] at this ⊢;rw [ck_unf w547_B0.eq_1]
    simp at this
    simp (disch:=omega) [ck_unf w547_c1.eq_1,h1,k1,wI64,hfit,hw,H.inl,inlB,H.pp,ppB,this]
  · have hw:=words_ok2 H.toHasY x.x
    have:=step (wordsN x.x)
    have hq:mk x l[i]=[wordsN x.x]:=by rw [mk_eq,if_neg (by omega),if_neg (by omega),if_pos k1]
    rw [hq]
    simp only [w547_K0] at this ⊢;rw [ck_unf w547_B0.eq_1]
    simp at this
    simp (disch:=omega) [ck_unf w547_c1.eq_1,h1,k1,wI64,hfit,hw,H.inl,inlB,H.pp,ppB,this]
  · obtain ⟨k,hk2⟩:∃ k:Nat,x.k=k:=⟨x.k.toNat,by omega⟩
    have hd:=tdec_ok H.toHasW k (by omega)
    have hw:=words_ok2 H.toHasY (dec x.k.toNat)
    have:=step (wordsN (dec x.k.toNat))
    have hq:mk x l[i]=[wordsN (dec x.k.toNat)]:=by rw [mk_eq,if_neg (by omega),if_neg (by omega),if_neg (by omega),if_pos k1]
    rw [hq]
    rw [hk2] at this hw ⊢
    simp only [w547_K0] at this ⊢;rw [ck_unf w547_B0.eq_1]
    simp at this hw
    simp (disch:=omega) [ck_unf w547_c1.eq_1,h1,k1,wI64,hfit,hd,hw,H.inl,inlB,H.pp,ppB,this]
  · have:=made_in H x hk hm l e hl l[i] ⟨hpo,hpf⟩ k1 i h1 hnext x.m.length 0 (by simp) G (by omega)
    have hq:mk x l[i]=x.m.map fun m=>elemN x l[i] m [wordsN m]:=by rw [mk_eq,if_neg (by omega),if_neg (by omega),if_neg (by omega),if_neg (by omega),if_pos k1]
    rw [hq,← List.append_assoc]
    rw [List.drop_zero] at this
    generalize G++List.map (fun m=>elemN x l[i] m [wordsN m]) x.m++mks x (l.drop (i+1))=R at *
    simp only [w547_K0]
    simp only [w547_K1] at this
    rw [ck_unf w547_B0.eq_1]
    simp at this
    simp (disch:=omega) [ck_unf w547_c1.eq_1,h1,k1,wI64,H.inl,inlB,H.pp,ppB,this]
theorem make_step (H:HasZ C) (x:It) (hk:0≤x.k∧x.k < 18446744073709551616) (hm:x.m.length≤8) (l:List Pt) (e:Bool) (hl:l.length≤16) (ho:∀ p ∈ l,Okp p)
 (ih:∀ p ∈ l,FnW C 547 [eIt x,.ro 6 (p.ch.map Pt.c) p.ce]=some (.ro 6 ((mks x p.ch).map Nd.c) false)):FnW C 547 [eIt x,.ro 6 (l.map Pt.c) e]=some (.ro 6 ((mks x l).map Nd.c) false):=by
 have h:=make_loop H x hk hm l e hl ho ih l.length 0 (by simp) [] (by simp)
 simp only [w547_K0] at h
 simp at h
 rw [fnW_eq H.f547 rfl]
 simp [w547,h]
theorem make_all (H:HasZ C) (x:It) (hk:0≤x.k∧x.k < 18446744073709551616) (hm:x.m.length≤8) (p:Pt) (hp:Okp p):FnW C 547 [eIt x,.ro 6 (p.ch.map Pt.c) p.ce]=some (.ro 6 ((mks x p.ch).map Nd.c) false):=by
 have ho:∀ m ∈ p.ch,Okp m:=by cases hp;assumption
 have hl:p.ch.length≤16:=pOne_len (by cases hp;assumption)
 exact make_step H x hk hm p.ch p.ce hl ho fun m q=>make_all H x hk hm m (ho m q)
termination_by SizeOf.sizeOf p
decreasing_by
 have:=List.sizeOf_lt_of_mem q
 have:=Pt.size_ch p
 omega
theorem make_ok (H:HasZ C) (x:It) (hk:0≤x.k∧x.k < 18446744073709551616) (hm:x.m.length≤8) (l:List Pt) (e:Bool) (hl:l.length≤16) (ho:∀ p ∈ l,Okp p) :
 FnW C 547 [eIt x,.ro 6 (l.map Pt.c) e]=some (.ro 6 ((mks x l).map Nd.c) false) :=
 make_step H x hk hm l e hl ho fun m q=>make_all H x hk hm m (ho m q)
theorem elemR_c (x:It) (p:Pt) (m:Bs):(elemR x p m [wordsN m] true).c=[.int .u8 1,.str p.t,.str m,.ro 2 ((p.s.map (attrOf x)).map eA) false,.str [],.ro 6 [[.int .u8 2,.str [],.str [],.ro 2 [] true,.str m,.ro 6 [] true]] true]:=by
 rw [Nd.c_eq];simp only [elemR,List.map_cons,List.map_nil];rw [Nd.c_eq];simp [wordsN]
theorem made5_8 (H:HasZ C) (x:It) (hk:0≤x.k∧x.k < 18446744073709551616) (hl8:x.m.length≤8) (p:Pt) (hl:p.s.length≤8) (m1 m2 m3 m4 m5 m6 m7 m8:Bs) (r:List Bs) (hm:x.m=[m1,m2,m3,m4,m5,m6,m7,m8]++r) :
 w513_K1 C ⟨[(6,.int .i64 8),(5,.sl 0 6 0 8 8 false),(3,.ptr 9 0 0),(2,.ptr 10 0 0)],[(0,.cells 6 [[.int .u8 1,.str p.t,.str m1,.ro 2 ((p.s.map (attrOf x)).map eA) false,.str [],.sl 1 6 0 1 1 true],[.int .u8 1,.str p.t,.str m2,.ro 2 ((p.s.map (attrOf x)).map eA) false,.str [],.sl 2 6 0 1 1 true],[.int .u8 1,.str p.t,.str m3,.ro 2 ((p.s.map (attrOf x)).map eA) false,.str [],.sl 3 6 0 1 1 true],[.int .u8 1,.str p.t,.str m4,.ro 2 ((p.s.map (attrOf x)).map eA) false,.str [],.sl 4 6 0 1 1 true],[.int .u8 1,.str p.t,.str m5,.ro 2 ((p.s.map (attrOf x)).map eA) false,.str [],.sl 5 6 0 1 1 true],[.int .u8 1,.str p.t,.str m6,.ro 2 ((p.s.map (attrOf x)).map eA) false,.str [],.sl 6 6 0 1 1 true],[.int .u8 1,.str p.t,.str m7,.ro 2 ((p.s.map (attrOf x)).map eA) false,.str [],.sl 7 6 0 1 1 true],[.int .u8 1,.str p.t,.str m8,.ro 2 ((p.s.map (attrOf x)).map eA) false,.str [],.sl 8 6 0 1 1 true]] true false),(1,.cells 6 [[.int .u8 2,.str [],.str [],.ro 2 [] true,.str m1,.ro 6 [] true]] true true),(2,.cells 6 [[.int .u8 2,.str [],.str [],.ro 2 [] true,.str m2,.ro 6 [] true]] true true),(3,.cells 6 [[.int .u8 2,.str [],.str [],.ro 2 [] true,.str m3,.ro 6 [] true]] true true),(4,.cells 6 [[.int .u8 2,.str [],.str [],.ro 2 [] true,.str m4,.ro 6 [] true]] true true),(5,.cells 6 [[.int .u8 2,.str [],.str [],.ro 2 [] true,.str m5,.ro 6 [] true]] true true),(6,.cells 6 [[.int .u8 2,.str [],.str [],.ro 2 [] true,.str m6,.ro 6 [] true]] true true),(7,.cells 6 [[.int .u8 2,.str [],.str [],.ro 2 [] true,.str m7,.ro 6 [] true]] true true),(8,.cells 6 [[.int .u8 2,.str [],.str [],.ro 2 [] true,.str m8,.ro 6 [] true]] true true),(9,.cells 4 [[.int .u64 x.k,.int .u8 x.t,.str x.x,.ro 1 (x.m.map eS) x.e]] true true),(10,.cells 6 [p.c] true true)],11⟩ =
  some (.ro 6 (([m1,m2,m3,m4,m5,m6,m7,m8]++r).map fun m=>(elemR x p m [wordsN m] true).c) false):=by
 simp only [w513_K1];rw [ck_unf w513_B1.eq_1]
 have hxl:x.m.length=8+r.length:=by rw [hm];simp;omega
 cases r with
 | nil =>
  simp at hxl
  simp [ck_unf w513_c2.eq_1,hxl,elemR_c]
 | cons m9 r=>simp at hxl;omega
theorem made5_7 (H:HasZ C) (x:It) (hk:0≤x.k∧x.k < 18446744073709551616) (hl8:x.m.length≤8) (p:Pt) (hl:p.s.length≤8) (m1 m2 m3 m4 m5 m6 m7:Bs) (r:List Bs) (hm:x.m=[m1,m2,m3,m4,m5,m6,m7]++r) :
 w513_K1 C ⟨[(6,.int .i64 7),(5,.sl 0 6 0 7 7 false),(3,.ptr 8 0 0),(2,.ptr 9 0 0)],[(0,.cells 6 [[.int .u8 1,.str p.t,.str m1,.ro 2 ((p.s.map (attrOf x)).map eA) false,.str [],.sl 1 6 0 1 1 true],[.int .u8 1,.str p.t,.str m2,.ro 2 ((p.s.map (attrOf x)).map eA) false,.str [],.sl 2 6 0 1 1 true],[.int .u8 1,.str p.t,.str m3,.ro 2 ((p.s.map (attrOf x)).map eA) false,.str [],.sl 3 6 0 1 1 true],[.int .u8 1,.str p.t,.str m4,.ro 2 ((p.s.map (attrOf x)).map eA) false,.str [],.sl 4 6 0 1 1 true],[.int .u8 1,.str p.t,.str m5,.ro 2 ((p.s.map (attrOf x)).map eA) false,.str [],.sl 5 6 0 1 1 true],[.int .u8 1,.str p.t,.str m6,.ro 2 ((p.s.map (attrOf x)).map eA) false,.str [],.sl 6 6 0 1 1 true],[.int .u8 1,.str p.t,.str m7,.ro 2 ((p.s.map (attrOf x)).map eA) false,.str [],.sl 7 6 0 1 1 true]] true false),(1,.cells 6 [[.int .u8 2,.str [],.str [],.ro 2 [] true,.str m1,.ro 6 [] true]] true true),(2,.cells 6 [[.int .u8 2,.str [],.str [],.ro 2 [] true,.str m2,.ro 6 [] true]] true true),(3,.cells 6 [[.int .u8 2,.str [],.str [],.ro 2 [] true,.str m3,.ro 6 [] true]] true true),(4,.cells 6 [[.int .u8 2,.str [],.str [],.ro 2 [] true,.str m4,.ro 6 [] true]] true true),(5,.cells 6 [[.int .u8 2,.str [],.str [],.ro 2 [] true,.str m5,.ro 6 [] true]] true true),(6,.cells 6 [[.int .u8 2,.str [],.str [],.ro 2 [] true,.str m6,.ro 6 [] true]] true true),(7,.cells 6 [[.int .u8 2,.str [],.str [],.ro 2 [] true,.str m7,.ro 6 [] true]] true true),(8,.cells 4 [[.int .u64 x.k,.int .u8 x.t,.str x.x,.ro 1 (x.m.map eS) x.e]] true true),(9,.cells 6 [p.c] true true)],10⟩ =
  some (.ro 6 (([m1,m2,m3,m4,m5,m6,m7]++r).map fun m=>(elemR x p m [wordsN m] true).c) false):=by
 simp only [w513_K1];rw [ck_unf w513_B1.eq_1]
 have hxl:x.m.length=7+r.length:=by rw [hm];simp;omega
 cases r with
 | nil =>
  simp at hxl
  simp [ck_unf w513_c2.eq_1,hxl,elemR_c]
 | cons m8 r =>
  have h1:7 < x.m.length:=by rw [hxl];simp
  have hg:x.m[7]=m8:=by
   have q:x.m[7]?=some m8:=by rw [hm];simp
   rw [List.getElem?_eq_getElem h1] at q
   exact Option.some.inj q
  have ha:=rattrs_ok H.toHasX x hk (by omega) p.s p.se hl
  have this:=made5_8 H x hk hl8 p hl m1 m2 m3 m4 m5 m6 m7 m8 r (by rw [hm];simp)
  simp only [w513_K1] at this
  simp [elemR_c] at this
  have h2:(7:Int) < x.m.length:=by omega
  simp (disch:=omega) [h1,h2,hg,wI64,elemR_c,ha,H.inl,inlB,H.pp,ppB,this]
theorem made5_6 (H:HasZ C) (x:It) (hk:0≤x.k∧x.k < 18446744073709551616) (hl8:x.m.length≤8) (p:Pt) (hl:p.s.length≤8) (m1 m2 m3 m4 m5 m6:Bs) (r:List Bs) (hm:x.m=[m1,m2,m3,m4,m5,m6]++r) :
 w513_K1 C ⟨[(6,.int .i64 6),(5,.sl 0 6 0 6 6 false),(3,.ptr 7 0 0),(2,.ptr 8 0 0)],[(0,.cells 6 [[.int .u8 1,.str p.t,.str m1,.ro 2 ((p.s.map (attrOf x)).map eA) false,.str [],.sl 1 6 0 1 1 true],[.int .u8 1,.str p.t,.str m2,.ro 2 ((p.s.map (attrOf x)).map eA) false,.str [],.sl 2 6 0 1 1 true],[.int .u8 1,.str p.t,.str m3,.ro 2 ((p.s.map (attrOf x)).map eA) false,.str [],.sl 3 6 0 1 1 true],[.int .u8 1,.str p.t,.str m4,.ro 2 ((p.s.map (attrOf x)).map eA) false,.str [],.sl 4 6 0 1 1 true],[.int .u8 1,.str p.t,.str m5,.ro 2 ((p.s.map (attrOf x)).map eA) false,.str [],.sl 5 6 0 1 1 true],[.int .u8 1,.str p.t,.str m6,.ro 2 ((p.s.map (attrOf x)).map eA) false,.str [],.sl 6 6 0 1 1 true]] true false),(1,.cells 6 [[.int .u8 2,.str [],.str [],.ro 2 [] true,.str m1,.ro 6 [] true]] true true),(2,.cells 6 [[.int .u8 2,.str [],.str [],.ro 2 [] true,.str m2,.ro 6 [] true]] true true),(3,.cells 6 [[.int .u8 2,.str [],.str [],.ro 2 [] true,.str m3,.ro 6 [] true]] true true),(4,.cells 6 [[.int .u8 2,.str [],.str [],.ro 2 [] true,.str m4,.ro 6 [] true]] true true),(5,.cells 6 [[.int .u8 2,.str [],.str [],.ro 2 [] true,.str m5,.ro 6 [] true]] true true),(6,.cells 6 [[.int .u8 2,.str [],.str [],.ro 2 [] true,.str m6,.ro 6 [] true]] true true),(7,.cells 4 [[.int .u64 x.k,.int .u8 x.t,.str x.x,.ro 1 (x.m.map eS) x.e]] true true),(8,.cells 6 [p.c] true true)],9⟩ =
  some (.ro 6 (([m1,m2,m3,m4,m5,m6]++r).map fun m=>(elemR x p m [wordsN m] true).c) false):=by
 simp only [w513_K1];rw [ck_unf w513_B1.eq_1]
 have hxl:x.m.length=6+r.length:=by rw [hm];simp;omega
 cases r with
 | nil =>
  simp at hxl
  simp [ck_unf w513_c2.eq_1,hxl,elemR_c]
 | cons m7 r =>
  have h1:6 < x.m.length:=by rw [hxl];simp
  have hg:x.m[6]=m7:=by
   have q:x.m[6]?=some m7:=by rw [hm];simp
   rw [List.getElem?_eq_getElem h1] at q
   exact Option.some.inj q
  have ha:=rattrs_ok H.toHasX x hk (by omega) p.s p.se hl
  have this:=made5_7 H x hk hl8 p hl m1 m2 m3 m4 m5 m6 m7 r (by rw [hm];simp)
  simp only [w513_K1] at this
  simp [elemR_c] at this
  have h2:(6:Int) < x.m.length:=by omega
  simp (disch:=omega) [h1,h2,hg,wI64,elemR_c,ha,H.inl,inlB,H.pp,ppB,this]
theorem made5_5 (H:HasZ C) (x:It) (hk:0≤x.k∧x.k < 18446744073709551616) (hl8:x.m.length≤8) (p:Pt) (hl:p.s.length≤8) (m1 m2 m3 m4 m5:Bs) (r:List Bs) (hm:x.m=[m1,m2,m3,m4,m5]++r) :
 w513_K1 C ⟨[(6,.int .i64 5),(5,.sl 0 6 0 5 5 false),(3,.ptr 6 0 0),(2,.ptr 7 0 0)],[(0,.cells 6 [[.int .u8 1,.str p.t,.str m1,.ro 2 ((p.s.map (attrOf x)).map eA) false,.str [],.sl 1 6 0 1 1 true],[.int .u8 1,.str p.t,.str m2,.ro 2 ((p.s.map (attrOf x)).map eA) false,.str [],.sl 2 6 0 1 1 true],[.int .u8 1,.str p.t,.str m3,.ro 2 ((p.s.map (attrOf x)).map eA) false,.str [],.sl 3 6 0 1 1 true],[.int .u8 1,.str p.t,.str m4,.ro 2 ((p.s.map (attrOf x)).map eA) false,.str [],.sl 4 6 0 1 1 true],[.int .u8 1,.str p.t,.str m5,.ro 2 ((p.s.map (attrOf x)).map eA) false,.str [],.sl 5 6 0 1 1 true]] true false),(1,.cells 6 [[.int .u8 2,.str [],.str [],.ro 2 [] true,.str m1,.ro 6 [] true]] true true),(2,.cells 6 [[.int .u8 2,.str [],.str [],.ro 2 [] true,.str m2,.ro 6 [] true]] true true),(3,.cells 6 [[.int .u8 2,.str [],.str [],.ro 2 [] true,.str m3,.ro 6 [] true]] true true),(4,.cells 6 [[.int .u8 2,.str [],.str [],.ro 2 [] true,.str m4,.ro 6 [] true]] true true),(5,.cells 6 [[.int .u8 2,.str [],.str [],.ro 2 [] true,.str m5,.ro 6 [] true]] true true),(6,.cells 4 [[.int .u64 x.k,.int .u8 x.t,.str x.x,.ro 1 (x.m.map eS) x.e]] true true),(7,.cells 6 [p.c] true true)],8⟩ =
  some (.ro 6 (([m1,m2,m3,m4,m5]++r).map fun m=>(elemR x p m [wordsN m] true).c) false):=by
 simp only [w513_K1];rw [ck_unf w513_B1.eq_1]
 have hxl:x.m.length=5+r.length:=by rw [hm];simp;omega
 cases r with
 | nil =>
  simp at hxl
  simp [ck_unf w513_c2.eq_1,hxl,elemR_c]
 | cons m6 r =>
  have h1:5 < x.m.length:=by rw [hxl];simp
  have hg:x.m[5]=m6:=by
   have q:x.m[5]?=some m6:=by rw [hm];simp
   rw [List.getElem?_eq_getElem h1] at q
   exact Option.some.inj q
  have ha:=rattrs_ok H.toHasX x hk (by omega) p.s p.se hl
  have this:=made5_6 H x hk hl8 p hl m1 m2 m3 m4 m5 m6 r (by rw [hm];simp)
  simp only [w513_K1] at this
  simp [elemR_c] at this
  have h2:(5:Int) < x.m.length:=by omega
  simp (disch:=omega) [h1,h2,hg,wI64,elemR_c,ha,H.inl,inlB,H.pp,ppB,this]
theorem made5_4 (H:HasZ C) (x:It) (hk:0≤x.k∧x.k < 18446744073709551616) (hl8:x.m.length≤8) (p:Pt) (hl:p.s.length≤8) (m1 m2 m3 m4:Bs) (r:List Bs) (hm:x.m=[m1,m2,m3,m4]++r) :
 w513_K1 C ⟨[(6,.int .i64 4),(5,.sl 0 6 0 4 4 false),(3,.ptr 5 0 0),(2,.ptr 6 0 0)],[(0,.cells 6 [[.int .u8 1,.str p.t,.str m1,.ro 2 ((p.s.map (attrOf x)).map eA) false,.str [],.sl 1 6 0 1 1 true],[.int .u8 1,.str p.t,.str m2,.ro 2 ((p.s.map (attrOf x)).map eA) false,.str [],.sl 2 6 0 1 1 true],[.int .u8 1,.str p.t,.str m3,.ro 2 ((p.s.map (attrOf x)).map eA) false,.str [],.sl 3 6 0 1 1 true],[.int .u8 1,.str p.t,.str m4,.ro 2 ((p.s.map (attrOf x)).map eA) false,.str [],.sl 4 6 0 1 1 true]] true false),(1,.cells 6 [[.int .u8 2,.str [],.str [],.ro 2 [] true,.str m1,.ro 6 [] true]] true true),(2,.cells 6 [[.int .u8 2,.str [],.str [],.ro 2 [] true,.str m2,.ro 6 [] true]] true true),(3,.cells 6 [[.int .u8 2,.str [],.str [],.ro 2 [] true,.str m3,.ro 6 [] true]] true true),(4,.cells 6 [[.int .u8 2,.str [],.str [],.ro 2 [] true,.str m4,.ro 6 [] true]] true true),(5,.cells 4 [[.int .u64 x.k,.int .u8 x.t,.str x.x,.ro 1 (x.m.map eS) x.e]] true true),(6,.cells 6 [p.c] true true)],7⟩ =
  some (.ro 6 (([m1,m2,m3,m4]++r).map fun m=>(elemR x p m [wordsN m] true).c) false):=by
 simp only [w513_K1];rw [ck_unf w513_B1.eq_1]
 have hxl:x.m.length=4+r.length:=by rw [hm];simp;omega
 cases r with
 | nil =>
  simp at hxl
  simp [ck_unf w513_c2.eq_1,hxl,elemR_c]
 | cons m5 r =>
  have h1:4 < x.m.length:=by rw [hxl];simp
  have hg:x.m[4]=m5:=by
   have q:x.m[4]?=some m5:=by rw [hm];simp
   rw [List.getElem?_eq_getElem h1] at q
   exact Option.some.inj q
  have ha:=rattrs_ok H.toHasX x hk (by omega) p.s p.se hl
  have this:=made5_5 H x hk hl8 p hl m1 m2 m3 m4 m5 r (by rw [hm];simp)
  simp only [w513_K1] at this
  simp [elemR_c] at this
  have h2:(4:Int) < x.m.length:=by omega
  simp (disch:=omega) [h1,h2,hg,wI64,elemR_c,ha,H.inl,inlB,H.pp,ppB,this]
theorem made5_3 (H:HasZ C) (x:It) (hk:0≤x.k∧x.k < 18446744073709551616) (hl8:x.m.length≤8) (p:Pt) (hl:p.s.length≤8) (m1 m2 m3:Bs) (r:List Bs) (hm:x.m=[m1,m2,m3]++r) :
 w513_K1 C ⟨[(6,.int .i64 3),(5,.sl 0 6 0 3 3 false),(3,.ptr 4 0 0),(2,.ptr 5 0 0)],[(0,.cells 6 [[.int .u8 1,.str p.t,.str m1,.ro 2 ((p.s.map (attrOf x)).map eA) false,.str [],.sl 1 6 0 1 1 true],[.int .u8 1,.str p.t,.str m2,.ro 2 ((p.s.map (attrOf x)).map eA) false,.str [],.sl 2 6 0 1 1 true],[.int .u8 1,.str p.t,.str m3,.ro 2 ((p.s.map (attrOf x)).map eA) false,.str [],.sl 3 6 0 1 1 true]] true false),(1,.cells 6 [[.int .u8 2,.str [],.str [],.ro 2 [] true,.str m1,.ro 6 [] true]] true true),(2,.cells 6 [[.int .u8 2,.str [],.str [],.ro 2 [] true,.str m2,.ro 6 [] true]] true true),(3,.cells 6 [[.int .u8 2,.str [],.str [],.ro 2 [] true,.str m3,.ro 6 [] true]] true true),(4,.cells 4 [[.int .u64 x.k,.int .u8 x.t,.str x.x,.ro 1 (x.m.map eS) x.e]] true true),(5,.cells 6 [p.c] true true)],6⟩ =
  some (.ro 6 (([m1,m2,m3]++r).map fun m=>(elemR x p m [wordsN m] true).c) false):=by
 simp only [w513_K1];rw [ck_unf w513_B1.eq_1]
 have hxl:x.m.length=3+r.length:=by rw [hm];simp;omega
 cases r with
 | nil =>
  simp at hxl
  simp [ck_unf w513_c2.eq_1,hxl,elemR_c]
 | cons m4 r =>
  have h1:3 < x.m.length:=by rw [hxl];simp
  have hg:x.m[3]=m4:=by
   have q:x.m[3]?=some m4:=by rw [hm];simp
   rw [List.getElem?_eq_getElem h1] at q
   exact Option.some.inj q
  have ha:=rattrs_ok H.toHasX x hk (by omega) p.s p.se hl
  have this:=made5_4 H x hk hl8 p hl m1 m2 m3 m4 r (by rw [hm];simp)
  simp only [w513_K1] at this
  simp [elemR_c] at this
  have h2:(3:Int) < x.m.length:=by omega
  simp (disch:=omega) [h1,h2,hg,wI64,elemR_c,ha,H.inl,inlB,H.pp,ppB,this]
theorem made5_2 (H:HasZ C) (x:It) (hk:0≤x.k∧x.k < 18446744073709551616) (hl8:x.m.length≤8) (p:Pt) (hl:p.s.length≤8) (m1 m2:Bs) (r:List Bs) (hm:x.m=[m1,m2]++r) :
 w513_K1 C ⟨[(6,.int .i64 2),(5,.sl 0 6 0 2 2 false),(3,.ptr 3 0 0),(2,.ptr 4 0 0)],[(0,.cells 6 [[.int .u8 1,.str p.t,.str m1,.ro 2 ((p.s.map (attrOf x)).map eA) false,.str [],.sl 1 6 0 1 1 true],[.int .u8 1,.str p.t,.str m2,.ro 2 ((p.s.map (attrOf x)).map eA) false,.str [],.sl 2 6 0 1 1 true]] true false),(1,.cells 6 [[.int .u8 2,.str [],.str [],.ro 2 [] true,.str m1,.ro 6 [] true]] true true),(2,.cells 6 [[.int .u8 2,.str [],.str [],.ro 2 [] true,.str m2,.ro 6 [] true]] true true),(3,.cells 4 [[.int .u64 x.k,.int .u8 x.t,.str x.x,.ro 1 (x.m.map eS) x.e]] true true),(4,.cells 6 [p.c] true true)],5⟩ =
  some (.ro 6 (([m1,m2]++r).map fun m=>(elemR x p m [wordsN m] true).c) false):=by
 simp only [w513_K1];rw [ck_unf w513_B1.eq_1]
 have hxl:x.m.length=2+r.length:=by rw [hm];simp;omega
 cases r with
 | nil =>
  simp at hxl
  simp [ck_unf w513_c2.eq_1,hxl,elemR_c]
 | cons m3 r =>
  have h1:2 < x.m.length:=by rw [hxl];simp
  have hg:x.m[2]=m3:=by
   have q:x.m[2]?=some m3:=by rw [hm];simp
   rw [List.getElem?_eq_getElem h1] at q
   exact Option.some.inj q
  have ha:=rattrs_ok H.toHasX x hk (by omega) p.s p.se hl
  have this:=made5_3 H x hk hl8 p hl m1 m2 m3 r (by rw [hm];simp)
  simp only [w513_K1] at this
  simp [elemR_c] at this
  have h2:(2:Int) < x.m.length:=by omega
  simp (disch:=omega) [h1,h2,hg,wI64,elemR_c,ha,H.inl,inlB,H.pp,ppB,this]
theorem made5_1 (H:HasZ C) (x:It) (hk:0≤x.k∧x.k < 18446744073709551616) (hl8:x.m.length≤8) (p:Pt) (hl:p.s.length≤8) (m1:Bs) (r:List Bs) (hm:x.m=[m1]++r) :
 w513_K1 C ⟨[(6,.int .i64 1),(5,.sl 0 6 0 1 1 false),(3,.ptr 2 0 0),(2,.ptr 3 0 0)],[(0,.cells 6 [[.int .u8 1,.str p.t,.str m1,.ro 2 ((p.s.map (attrOf x)).map eA) false,.str [],.sl 1 6 0 1 1 true]] true false),(1,.cells 6 [[.int .u8 2,.str [],.str [],.ro 2 [] true,.str m1,.ro 6 [] true]] true true),(2,.cells 4 [[.int .u64 x.k,.int .u8 x.t,.str x.x,.ro 1 (x.m.map eS) x.e]] true true),(3,.cells 6 [p.c] true true)],4⟩ =
  some (.ro 6 (([m1]++r).map fun m=>(elemR x p m [wordsN m] true).c) false):=by
 simp only [w513_K1];rw [ck_unf w513_B1.eq_1]
 have hxl:x.m.length=1+r.length:=by rw [hm];simp;omega
 cases r with
 | nil =>
  simp at hxl
  simp [ck_unf w513_c2.eq_1,hxl,elemR_c]
 | cons m2 r =>
  have h1:1 < x.m.length:=by rw [hxl];simp
  have hg:x.m[1]=m2:=by
   have q:x.m[1]?=some m2:=by rw [hm];simp
   rw [List.getElem?_eq_getElem h1] at q
   exact Option.some.inj q
  have ha:=rattrs_ok H.toHasX x hk (by omega) p.s p.se hl
  have this:=made5_2 H x hk hl8 p hl m1 m2 r (by rw [hm];simp)
  simp only [w513_K1] at this
  simp [elemR_c] at this
  have h2:(1:Int) < x.m.length:=by omega
  simp (disch:=omega) [h1,h2,hg,wI64,elemR_c,ha,H.inl,inlB,H.pp,ppB,this]
theorem made5_0 (H:HasZ C) (x:It) (hk:0≤x.k∧x.k < 18446744073709551616) (hl8:x.m.length≤8) (p:Pt) (hl:p.s.length≤8) (r:List Bs) (hm:x.m=r) :
 w513_K1 C ⟨[(6,.int .i64 0),(5,.sl 0 6 0 0 0 false),(3,.ptr 1 0 0),(2,.ptr 2 0 0)],[(0,.cells 6 [] true true),(1,.cells 4 [[.int .u64 x.k,.int .u8 x.t,.str x.x,.ro 1 (x.m.map eS) x.e]] true true),(2,.cells 6 [p.c] true true)],3⟩ =
  some (.ro 6 (r.map fun m=>(elemR x p m [wordsN m] true).c) false):=by
 simp only [w513_K1];rw [ck_unf w513_B1.eq_1]
 have hxl:x.m.length=0+r.length:=by rw [hm];simp
 cases r with
 | nil =>
  simp at hxl
  simp [ck_unf w513_c2.eq_1,hxl,elemR_c]
 | cons m1 r =>
  have h1:0 < x.m.length:=by rw [hxl];simp
  have hg:x.m[0]=m1:=by
   have q:x.m[0]?=some m1:=by rw [hm];simp
   rw [List.getElem?_eq_getElem h1] at q
   exact Option.some.inj q
  have ha:=rattrs_ok H.toHasX x hk (by omega) p.s p.se hl
  have this:=made5_1 H x hk hl8 p hl  m1 r (by rw [hm];simp)
  simp only [w513_K1] at this
  simp [elemR_c] at this
  have h2:(0:Int) < x.m.length:=by omega
  simp (disch:=omega) [h1,h2,hg,wI64,elemR_c,ha,H.inl,inlB,H.pp,ppB,this]
def mdF (p:Pt):Bool:=decide (p.k≠5)
theorem made_sl (H:HasZ C) (x:It) (hk:0≤x.k∧x.k < 18446744073709551616) (hm:x.m.length≤8) (p:Pt) (hl:p.ch.length≤16)
 (ih:∀ m ∈ p.ch,FnW C 513 [.agg m.c,eIt x]=some (.ro 6 ((md x m).map Nd.c) (mdF m))):∀ n i,n+i=p.ch.length→∀ G:List Nd,G.length≤8 * i →
 w513_K0 C ⟨[(8,.int .i64 i),(7,.ptr 0 0 0),(3,.ptr 2 0 0),(2,.ptr 3 0 0)],[(0,.cells 6 [[.int .u8 1,.str p.t,.str p.y,.ro 2 ((p.s.map (attrOf x)).map eA) false,.str [],.sl 1 6 0 G.length G.length false]] true false),(1,.cells 6 (G.map Nd.c) true true),(2,.cells 4 [[.int .u64 x.k,.int .u8 x.t,.str x.x,.ro 1 (x.m.map eS) x.e]] true true),(3,.cells 6 [p.c] true true)],4⟩ =
  some (.ro 6 [(elemR x p p.y (G++mds x (p.ch.drop i)) false).c] true):=by
 intro n
 induction n with
 | zero =>
  intro i hi G hG
  have h1:p.ch.drop i=[]:=List.drop_eq_nil_of_le (by omega)
  have h3:¬ i < p.ch.length:=by omega
  have h4:List.take G.length (List.map Nd.c G)=List.map Nd.c G:=List.take_of_length_le (by simp)
  have hw:(elemR x p p.y G false).c=[.int .u8 1,.str p.t,.str p.y,.ro 2 ((p.s.map (attrOf x)).map eA) false,.str [],.ro 6 (G.map Nd.c) false]:=by rw [Nd.c_eq];rfl
  rw [h1,mds,List.append_nil,hw]
  simp only [w513_K0];rw [ck_unf w513_B0.eq_1]
  simp (disch:=omega) [ck_unf w513_c0.eq_1,h3,h4]
 | succ n ihn =>
  intro i hi G hG
  have h1:i < p.ch.length:=by omega
  have hr:=ih _ (List.getElem_mem h1)
  have hlen:=md_len x hm p.ch[i]
  have:=ihn (i+1) (by omega) (G++md x p.ch[i]) (by simp;omega)
  have hfit:(G.length+(md x p.ch[i]).length) * 105≤35184372088832:=by omega
  rw [drop_cons h1,mds,← List.append_assoc]
  generalize (elemR x p p.y (G++md x p.ch[i]++mds x (List.drop (i+1) p.ch)) false).c=R at *
  by_cases hE:md x p.ch[i]=[]
  · simp only [w513_K0] at this ⊢;rw [ck_unf w513_B0.eq_1]
    simp [hE] at this
    simp (disch:=omega) [h1,wI64,hr,hE,H.inl,inlB,H.pp,ppB,this]
  · simp only [w513_K0] at this ⊢;rw [ck_unf w513_B0.eq_1]
    simp at this
    simp (disch:=omega) [h1,wI64,hr,hE,isE hE,hfit,H.inl,inlB,H.pp,ppB,this]
theorem made_nil (H:HasZ C) (x:It) (hk:0≤x.k∧x.k < 18446744073709551616) (hm:x.m.length≤8) (p:Pt) (hl:p.ch.length≤16)
 (ih:∀ m ∈ p.ch,FnW C 513 [.agg m.c,eIt x]=some (.ro 6 ((md x m).map Nd.c) (mdF m))):∀ n i,n+i=p.ch.length →
 w513_K0 C ⟨[(8,.int .i64 i),(7,.ptr 0 0 0),(3,.ptr 1 0 0),(2,.ptr 2 0 0)],[(0,.cells 6 [[.int .u8 1,.str p.t,.str p.y,.ro 2 ((p.s.map (attrOf x)).map eA) false,.str [],.ro 6 [] true]] true true),(1,.cells 4 [[.int .u64 x.k,.int .u8 x.t,.str x.x,.ro 1 (x.m.map eS) x.e]] true true),(2,.cells 6 [p.c] true true)],3⟩ =
  some (.ro 6 [(elemR x p p.y (mds x (p.ch.drop i)) (mds x (p.ch.drop i)).isEmpty).c] true):=by
 intro n
 induction n with
 | zero =>
  intro i hi
  have h1:p.ch.drop i=[]:=List.drop_eq_nil_of_le (by omega)
  have h3:¬ i < p.ch.length:=by omega
  have hw:(elemR x p p.y [] true).c=[.int .u8 1,.str p.t,.str p.y,.ro 2 ((p.s.map (attrOf x)).map eA) false,.str [],.ro 6 [] true]:=by rw [Nd.c_eq];rfl
  rw [h1,mds,List.isEmpty_nil,hw]
  simp only [w513_K0];rw [ck_unf w513_B0.eq_1]
  simp (disch:=omega) [ck_unf w513_c0.eq_1,h3]
 | succ n ihn =>
  intro i hi
  have h1:i < p.ch.length:=by omega
  have hr:=ih _ (List.getElem_mem h1)
  have hlen:=md_len x hm p.ch[i]
  have hfit:((md x p.ch[i]).length) * 105≤35184372088832:=by omega
  rw [drop_cons h1,mds]
  by_cases hE:md x p.ch[i]=[]
  · have:=ihn (i+1) (by omega)
    rw [hE,List.nil_append]
    generalize (elemR x p p.y (mds x (List.drop (i+1) p.ch)) (mds x (List.drop (i+1) p.ch)).isEmpty).c=R at *
    simp only [w513_K0] at this ⊢;rw [ck_unf w513_B0.eq_1]
    simp at this
    simp (disch:=omega) [h1,wI64,hr,hE,H.inl,inlB,H.pp,ppB,this]
  · have:=made_sl H x hk hm p hl ih n (i+1) (by omega) (md x p.ch[i]) (by omega)
    have he:(md x p.ch[i]++mds x (List.drop (i+1) p.ch)).isEmpty=false:=isE (by simp [hE])
    rw [he]
    generalize (elemR x p p.y (md x p.ch[i]++mds x (List.drop (i+1) p.ch)) false).c=R at *
    simp only [w513_K0] at this ⊢;rw [ck_unf w513_B0.eq_1]
    simp at this
    simp (disch:=omega) [h1,wI64,hr,hE,isE hE,hfit,H.inl,inlB,H.pp,ppB,this]
theorem made_step (H:HasZ C) (x:It) (hk:0≤x.k∧x.k < 18446744073709551616) (hm:x.m.length≤8) (p:Pt) (hp:pOne p=true)
 (ih:∀ m ∈ p.ch,FnW C 513 [.agg m.c,eIt x]=some (.ro 6 ((md x m).map Nd.c) (mdF m))):FnW C 513 [.agg p.c,eIt x]=some (.ro 6 ((md x p).map Nd.c) (mdF p)):=by
 have hl:=pOne_len hp
 have hs:=pOne_s hp
 rw [fnW_eq H.f513 rfl,md_eq]
 unfold mdF
 have hw:∀ s:Bs,(wordsN s).c=[.int .u8 2,.str [],.str [],.ro 2 [] true,.str s,.ro 6 [] true]:=fun s=>by rw [Nd.c_eq];rfl
 rcases pOne_k hp with k1 | k1 | k1 | k1 | k1
 · have h:=made_nil H x hk hm p hl ih p.ch.length 0 (by simp)
   have ha:=rattrs_ok H.toHasX x hk (by omega) p.s p.se hs.1
   rw [if_neg (by omega),if_neg (by omega),if_neg (by omega),if_neg (by omega)]
   rw [List.drop_zero] at h
   simp only [List.map_cons,List.map_nil]
   generalize (elemR x p p.y (mds x p.ch) (mds x p.ch).isEmpty).c=R at *
   simp only [w513_K0] at h
   simp at h
   simp [w513,ck_unf w513_c1.eq_1,k1,ha,H.inl,inlB,H.pp,ppB,h]
 · simp [w513,k1,hw]
 · simp [w513,k1,hw]
 · obtain ⟨k,hk2⟩:∃ k:Nat,x.k=k:=⟨x.k.toNat,by omega⟩
   have hd:=rdec_ok H.toHasW k (by omega)
   simp [w513,k1,hw,hk2,hd,H.inl,inlB,H.pp,ppB]
 · have h:=made5_0 H x hk hm p hs.1 x.m rfl
   rw [if_neg (by omega),if_neg (by omega),if_neg (by omega),if_pos k1,List.map_map]
   have hq:(Nd.c ∘ fun m=>elemR x p m [wordsN m] true)=fun m=>(elemR x p m [wordsN m] true).c:=rfl
   rw [hq]
   generalize List.map (fun m=>(elemR x p m [wordsN m] true).c) x.m=R at *
   simp only [w513_K1] at h
   simp [w513,k1,h]
theorem made_ok (H:HasZ C) (x:It) (hk:0≤x.k∧x.k < 18446744073709551616) (hm:x.m.length≤8) (p:Pt) (hp:Okp p):FnW C 513 [.agg p.c,eIt x]=some (.ro 6 ((md x p).map Nd.c) (mdF p)):=by
 have ho:∀ m ∈ p.ch,Okp m:=by cases hp;assumption
 exact made_step H x hk hm p (by cases hp;assumption) fun m q=>made_ok H x hk hm m (ho m q)
termination_by SizeOf.sizeOf p
decreasing_by
 have:=List.sizeOf_lt_of_mem q
 have:=Pt.size_ch p
 omega
theorem itOk2_m {x:It} (h:itOk2 x=true):x.m.length≤8:=by
 unfold itOk2 at h
 simp at h
 exact h.2.1
theorem render_ok (H:HasZ C) (p:Pt) (hf:FitsAll p) (x:It) (hk:0≤x.k∧x.k < 18446744073709551616) (most:Int) :
 FnW C 501 [.agg p.c,eIt x,.int .i64 most]=some (.tup [.agg (rndN p x most).c,.int .i64 (rndE p x most)]):=by
 have hz:zN.c=[.int .u8 0,.str [],.str [],.ro 2 [] true,.str [],.ro 6 [] true]:=by rw [Nd.c_eq];rfl
 have hc:=tCheck_ok H.toHasT p
 have hi:=tItem_ok H.toHasV x
 rw [fnW_eq H.f501 rfl]
 unfold rndN rndE
 by_cases c1:most < 1
 · simp [w501,c1,hz]
 · by_cases c2:64 < most
   · simp [w501,c1,c2,hz]
   · by_cases c3:tcnt p=0
     · rw [c3] at hc
       simp at hc
       simp [w501,c1,c2,c3,hc,hz,H.inl,inlB,H.pp,ppB]
     · rw [if_neg c3] at hc
       cases c4:itOk2 x
       · rw [c4] at hi
         simp at hi
         simp [w501,c1,c2,c3,hc,hi,hz,H.inl,inlB,H.pp,ppB]
       · rw [c4] at hi
         simp at hi
         have hk1:=tcnt_k c3
         have hmk:=make_ok H x hk (itOk2_m c4) [p] true (by simp) (by simpa using tcnt_okp hf c3)
         have hq:mks x [p]=[mkN x p]:=by unfold mkN;rw [mks,mks,mk_eq,if_pos hk1];rfl
         rw [hq] at hmk
         have hn:=count_ok H.toHasM (mkN x p)
         generalize hN:mkN x p=N at *
         generalize cnt N=K at *
         simp at hmk
         by_cases c5:K=0
         · subst c5
           simp [w501,c1,c2,c3,hc,hi,hz,hmk,hn,H.inl,inlB,H.pp,ppB]
         · by_cases c6:most < K
           · simp [w501,c1,c2,c3,hc,hi,hz,hmk,hn,c5,c6,H.inl,inlB,H.pp,ppB]
           · simp [w501,c1,c2,c3,hc,hi,hz,hmk,hn,c5,c6,H.inl,inlB,H.pp,ppB]
theorem rRender_ok (H:HasZ C) (p:Pt) (hf:FitsAll p) (x:It) (hk:0≤x.k∧x.k < 18446744073709551616) (most:Int) :
 FnW C 425 [.agg p.c,eIt x,.int .i64 most]=some (.tup [.agg (rndR p x most).c,.int .i64 (rndE p x most)]):=by
 have hz:zN.c=[.int .u8 0,.str [],.str [],.ro 2 [] true,.str [],.ro 6 [] true]:=by rw [Nd.c_eq];rfl
 have hc:=trCheck_ok H.toHasU p hf
 have hi:=rItem_ok H.toHasV x
 rw [fnW_eq H.f425 rfl]
 unfold rndR rndE
 by_cases c1:most < 1
 · simp [w425,c1,hz]
 · by_cases c2:64 < most
   · simp [w425,c1,c2,hz]
   · by_cases c3:tcnt p=0
     · rw [c3] at hc
       simp at hc
       simp [w425,c1,c2,c3,hc,hz,H.inl,inlB,H.pp,ppB]
     · rw [if_neg c3] at hc
       cases c4:itOk2 x
       · rw [c4] at hi
         simp at hi
         simp [w425,c1,c2,c3,hc,hi,hz,H.inl,inlB,H.pp,ppB]
       · rw [c4] at hi
         simp at hi
         have hk1:=tcnt_k c3
         have ho:=tcnt_okp hf c3
         have hmk:=made_ok H x hk (itOk2_m c4) p ho
         have hq:md x p=[mdN x p]:=by unfold mdN;rw [md_eq,if_neg (by omega),if_neg (by omega),if_neg (by omega),if_neg (by omega)];rfl
         rw [hq] at hmk
         have hn:=rCount_ok H.toHasR (mdN x p)
         have hn2:=rCheck_ok H.toHasR (mdN x p)
         have hcz:cnt (mkN x p)=cnt (mdN x p):=by rw [← cnt_z,mkN_z x p ho,cnt_z]
         rw [hcz]
         generalize hN:mdN x p=N at *
         generalize cnt N=K at *
         simp at hmk
         by_cases c5:K=0
         · subst c5
           simp at hn2
           simp [w425,c1,c2,c3,hc,hi,hz,hmk,hn,hn2,H.inl,inlB,H.pp,ppB]
         · simp [c5] at hn2
           by_cases c6:most < K
           · simp [w425,c1,c2,c3,hc,hi,hz,hmk,hn,hn2,c5,c6,H.inl,inlB,H.pp,ppB]
           · simp [w425,c1,c2,c3,hc,hi,hz,hmk,hn,hn2,c5,c6,H.inl,inlB,H.pp,ppB]
end Go.D
end
section
namespace Go.D
open Go Go.Pav Go.Pw P
structure Kd where
 p:Pt
 b:Int
 st:Bool
 pl:Int
structure En where
 i:It
 s:Int
 kn:Bool
@[simp] def eKd (k:Kd):List AV:=[.int .u8 k.p.k,.str k.p.t,.str k.p.y,.ro 3 (k.p.s.map eSl) k.p.se,.str k.p.x,.ro 6 (k.p.ch.map Pt.c) k.p.ce,.int .i64 k.b,.bool k.st,.int .i64 k.pl]
@[simp] def cIt (i:It):List AV:=[.int .u64 i.k,.int .u8 i.t,.str i.x,.ro 1 (i.m.map eS) i.e]
@[simp] def eEn (e:En):List AV:=[.int .u64 e.i.k,.int .u8 e.i.t,.str e.i.x,.ro 1 (e.i.m.map eS) e.i.e,.int .i64 e.s,.bool e.kn]
abbrev aR (ks:List Kd) (ke:Bool) (cap:Int):AV:=.agg [.ro 9 (ks.map eKd) ke,.int .i64 cap]
abbrev aL (l:List En) (e:Bool):AV:=.agg [.ro 6 (l.map eEn) e]
abbrev aE (e:En):AV:=.agg (eEn e)
structure ItIn (i:It):Prop where
 k:0≤i.k∧i.k < 18446744073709551616
 t:0≤i.t∧i.t≤255
 m:i.m.length≤1000000
structure EnIn (e:En):Prop where
 i:ItIn e.i
 s:-9223372036854775808≤e.s∧e.s≤9223372036854775807
structure RuIn (ks:List Kd):Prop where
 n:ks.length≤1000000
 f:∀ k ∈ ks,FitsAll k.p
def hOk (n:Int):Bool:=decide (1≤n)&&decide (n≤2305843009213693952)
def kdOk (k:Kd):Bool:=hOk k.b&&decide (tcnt k.p≠0)
def ruOk (ks:List Kd) (cap:Int):Bool:=decide (1≤ks.length)&&decide (ks.length≤8)&&decide (1≤cap)&&decide (cap≤64)&&ks.all kdOk
def zP:Pt:=⟨0,[],[],[],true,[],[],true⟩
def kdAt (ks:List Kd) (t:Int):Kd:=(ks[t.toNat]?).getD ⟨zP,0,false,0⟩
def itE (ks:List Kd) (cap:Int) (x:It) (seen:Bool):Int :=
 if itOk ks.length x=false then 6 else if seen=true then 8 else if rndE (kdAt ks x.t).p x cap=0 then 0 else 14
def enE (ks:List Kd) (cap:Int) (e:En) (seen:Bool):Int :=
 if itE ks cap e.i seen≠0 then itE ks cap e.i seen else if hOk e.s=true∧(e.kn=true∨e.s=(kdAt ks e.i.t).b) then 0 else 12
def chk (ks:List Kd) (cap:Int):List Int→List En→Int
 | _,[]=>0
 | seen,e::r=>if enE ks cap e (seen.contains e.i.k)≠0 then enE ks cap e (seen.contains e.i.k) else chk ks cap (seen++[e.i.k]) r
def totG:Int→List En→Int
 | sum,[]=>sum
 | sum,e::r=>if 4611686018427387904 - sum < imax e.s 0 then 4611686018427387905 else totG (sum+imax e.s 0) r
def tot (l:List En):Int:=totG 0 l
def ovE (l:List En):Int:=if 4611686018427387904 < tot l then 13 else 0
def ckE (ks:List Kd) (cap:Int) (l:List En):Int :=
 if ruOk ks cap=false then 7 else if 1024 < l.length then 3 else if chk ks cap [] l≠0 then chk ks cap [] l else ovE l
def sameIt (a b:It):Bool:=decide (a.k=b.k)&&decide (a.t=b.t)&&decide (a.x=b.x)&&decide (a.m=b.m)
def sameEn (a b:En):Bool:=decide (a.s=b.s)&&decide (a.kn=b.kn)&&sameIt a.i b.i
def sameL:List En→List En→Bool
 | [],[]=>true
 | a::r,b::s=>sameEn a b&&sameL r s
 | _,_=>false
def It.own (i:It):It:={ i with e:=true }
def En.own (e:En):En:={ e with i:=e.i.own }
def fre (ks:List Kd) (x:It):En:=⟨x,(kdAt ks x.t).b,false⟩
def spl {α:Type} (l:List α) (at_ count:Nat) (x:List α):List α:=l.take at_++x++l.drop (at_+count)
end Go.D
end
section
end
section
namespace Go.D
open Go Go.Pav Go.Pw P
attribute [-simp] List.getElem_cons_drop
variable {C:WProg}
structure HasL (C:WProg):Prop extends HasS C where
 f225:C.fns.get 225=some w225
 f111:C.fns.get 111=some w111
 f227:C.fns.get 227=some w227
 f460:C.fns.get 460=some w460
 f459:C.fns.get 459=some w459
 f340:C.fns.get 340=some w340
 f226:C.fns.get 226=some w226
 f221:C.fns.get 221=some w221
 f400:C.fns.get 400=some w400
 f219:C.fns.get 219=some w219
 f504:C.fns.get 504=some w504
 f407:C.fns.get 407=some w407
 f239:C.fns.get 239=some w239
 f406:C.fns.get 406=some w406
 f240:C.fns.get 240=some w240
 f172:C.fns.get 172=some w172
 f112:C.fns.get 112=some w112
 f423:C.fns.get 423=some w423
theorem height_ok (H:HasL C) (n:Int):FnW C 225 [.int .i64 n]=some (.bool (hOk n)):=by
 rw [fnW_eq H.f225 rfl]
 unfold hOk
 by_cases c1:1≤n <;> by_cases c2:n≤2305843009213693952 <;> simp [w225,c1,c2]
theorem imax_bd (s:Int) (h1:-9223372036854775808≤s) (h2:s≤9223372036854775807):0≤imax s 0∧imax s 0≤9223372036854775807:=by
 unfold imax;split <;> omega
theorem tot_loop (H:HasL C) (l:List En) (e:Bool) (hl:l.length≤1000000) (hs:∀ x ∈ l,-9223372036854775808≤x.s∧x.s≤9223372036854775807):∀ n i,n+i=l.length→∀ sum:Int,0≤sum→sum≤4611686018427387904 →
 w111_K0 C ⟨[(10,.int .i64 i),(9,.int .i64 l.length),(8,.ro 6 (l.map eEn) e),(3,.int .i64 sum)],[],0⟩=some (.int .i64 (totG sum (l.drop i))):=by
 intro n
 induction n with
 | zero =>
  intro i hi sum s1 s2
  simp only [w111_K0];rw [ck_unf w111_B0.eq_1]
  have h1:l.drop i=[]:=List.drop_eq_nil_of_le (by omega)
  have h3:¬ i < l.length:=by omega
  simp [ck_unf w111_c0.eq_1,h1,h3,totG]
 | succ n ih =>
  intro i hi sum s1 s2
  have h1:i < l.length:=by omega
  have hb:=imax_bd l[i].s (hs _ (List.getElem_mem h1)).1 (hs _ (List.getElem_mem h1)).2
  rw [drop_cons h1,totG]
  generalize hM:imax l[i].s 0=M at *
  by_cases c:4611686018427387904 - sum < M
  · rw [if_pos c]
    simp only [w111_K0];rw [ck_unf w111_B0.eq_1]
    simp (disch:=omega) [h1,wI64,hM,c]
  · rw [if_neg c]
    have:=ih (i+1) (by omega) (sum+M) (by omega) (by omega)
    simp only [w111_K0] at this ⊢;rw [ck_unf w111_B0.eq_1]
    simp at this
    simp (disch:=omega) [h1,wI64,hM,c,this]
theorem totW_ok (H:HasL C) (l:List En) (e:Bool) (hl:l.length≤1000000) (hs:∀ x ∈ l,-9223372036854775808≤x.s∧x.s≤9223372036854775807):FnW C 111 [aL l e]=some (.int .i64 (tot l)):=by
 have h:=tot_loop H l e hl hs l.length 0 (by simp) 0 (by omega) (by omega)
 simp only [w111_K0] at h
 simp at h
 rw [fnW_eq H.f111 rfl]
 unfold tot
 simp [w111,h]
theorem tot_ok (H:HasL C) (l:List En) (e:Bool) (hl:l.length≤1000000) (hs:∀ x ∈ l,EnIn x):FnW C 111 [aL l e]=some (.int .i64 (tot l)):=totW_ok H l e hl fun x hx=>(hs x hx).s
theorem total_ok (H:HasL C) (l:List En) (e:Bool) (hl:l.length≤1000000) (hs:∀ x ∈ l,EnIn x):FnW C 227 [aL l e]=some (.int .i64 (ovE l)):=by
 have h:=tot_ok H l e hl hs
 rw [fnW_eq H.f227 rfl]
 unfold ovE
 by_cases c:4611686018427387904 < tot l <;> simp [w227,h,H.inl,inlB,H.pp,ppB,c]
theorem rtot_loop (H:HasL C) (l:List En) (e:Bool) (hl:l.length≤1000000) (hs:∀ x ∈ l,-9223372036854775808≤x.s∧x.s≤9223372036854775807):∀ n i,n+i=l.length→∀ sum:Int,0≤sum→sum≤4611686018427387904 →
 w504_K0 C ⟨[(4,.int .i64 i),(3,.int .u64 sum),(0,.ro 6 (l.map eEn) e)],[],0⟩=some (.int .i64 (totG sum (l.drop i))):=by
 intro n
 induction n with
 | zero =>
  intro i hi sum s1 s2
  simp only [w504_K0];rw [ck_unf w504_B0.eq_1]
  have h1:l.drop i=[]:=List.drop_eq_nil_of_le (by omega)
  have h3:¬ i < l.length:=by omega
  simp (disch:=omega) [ck_unf w504_c0.eq_1,h1,h3,totG,wI64]
 | succ n ih =>
  intro i hi sum s1 s2
  have h1:i < l.length:=by omega
  have hx:=hs _ (List.getElem_mem h1)
  have hb:=imax_bd l[i].s hx.1 hx.2
  rw [drop_cons h1,totG]
  by_cases p:0 < l[i].s
  · rw [imax_l (by omega:(0:Int)≤l[i].s)] at *
    by_cases c:4611686018427387904 - sum < l[i].s
    · rw [if_pos c]
      have c':4611686018427387904 < sum+l[i].s:=by omega
      simp only [w504_K0];rw [ck_unf w504_B0.eq_1]
      simp (disch:=omega) [h1,wI64,wU64,p,c']
    · rw [if_neg c]
      have c':¬ 4611686018427387904 < sum+l[i].s:=by omega
      have:=ih (i+1) (by omega) (sum+l[i].s) (by omega) (by omega)
      simp only [w504_K0] at this ⊢;rw [ck_unf w504_B0.eq_1]
      simp at this
      simp (disch:=omega) [h1,wI64,wU64,p,c',this]
  · rw [imax_r (by omega:l[i].s≤(0:Int)),if_neg (by omega),Int.add_zero]
    have c':¬ 4611686018427387904 < sum:=by omega
    have:=ih (i+1) (by omega) sum (by omega) (by omega)
    simp only [w504_K0] at this ⊢;rw [ck_unf w504_B0.eq_1]
    simp at this
    simp (disch:=omega) [h1,wI64,wU64,p,c',this]
theorem rtotW_ok (H:HasL C) (l:List En) (e:Bool) (hl:l.length≤1000000) (hs:∀ x ∈ l,-9223372036854775808≤x.s∧x.s≤9223372036854775807):FnW C 504 [.ro 6 (l.map eEn) e]=some (.int .i64 (tot l)):=by
 have h:=rtot_loop H l e hl hs l.length 0 (by simp) 0 (by omega) (by omega)
 simp only [w504_K0] at h
 simp at h
 rw [fnW_eq H.f504 rfl]
 unfold tot
 simp [w504,h]
theorem rtot_ok (H:HasL C) (l:List En) (e:Bool) (hl:l.length≤1000000) (hs:∀ x ∈ l,EnIn x):FnW C 504 [.ro 6 (l.map eEn) e]=some (.int .i64 (tot l)):=rtotW_ok H l e hl fun x hx=>(hs x hx).s
theorem rover_ok (H:HasL C) (l:List En) (e:Bool) (hl:l.length≤1000000) (hs:∀ x ∈ l,EnIn x):FnW C 407 [.ro 6 (l.map eEn) e]=some (.int .i64 (ovE l)):=by
 have h:=rtot_ok H l e hl hs
 rw [fnW_eq H.f407 rfl]
 unfold ovE
 by_cases c:4611686018427387904 < tot l <;> simp [w407,h,H.inl,inlB,H.pp,ppB,c]
def fndF (k:Int):Nat→List En→Int
 | _,[]=>-1
 | i,e::r=>if e.i.k=k then i else fndF k (i+1) r
def fndI (k:Int):Nat→List It→Int
 | _,[]=>-1
 | i,x::r=>if x.k=k then i else fndI k (i+1) r
theorem rfind_loop (H:HasL C) (l:List En) (e:Bool) (k:Int) (hl:l.length≤1000000):∀ n i,n+i=l.length →
 w239_K0 C ⟨[(5,.int .i64 i),(1,.int .u64 k),(0,.ro 6 (l.map eEn) e)],[],0⟩=some (.int .i64 (fndF k i (l.drop i))):=by
 intro n
 induction n with
 | zero =>
  intro i hi
  simp only [w239_K0];rw [ck_unf w239_B0.eq_1]
  have h1:l.drop i=[]:=List.drop_eq_nil_of_le (by omega)
  have h3:¬ i < l.length:=by omega
  simp (disch:=omega) [ck_unf w239_c0.eq_1,h1,h3,fndF]
 | succ n ih =>
  intro i hi
  have h1:i < l.length:=by omega
  have:=ih (i+1) (by omega)
  rw [drop_cons h1,fndF]
  by_cases c:l[i].i.k=k
  · rw [if_pos c]
    simp only [w239_K0];rw [ck_unf w239_B0.eq_1]
    simp (disch:=omega) [h1,wI64,c]
  · rw [if_neg c]
    simp only [w239_K0] at this ⊢;rw [ck_unf w239_B0.eq_1]
    simp at this
    simp (disch:=omega) [h1,wI64,c,this]
theorem rfind_ok (H:HasL C) (l:List En) (e:Bool) (k:Int) (hl:l.length≤1000000):FnW C 239 [.ro 6 (l.map eEn) e,.int .u64 k]=some (.int .i64 (fndF k 0 l)):=by
 have h:=rfind_loop H l e k hl l.length 0 (by simp)
 simp only [w239_K0] at h
 simp at h
 rw [fnW_eq H.f239 rfl]
 simp [w239,h]
theorem ifind_loop (H:HasL C) (l:List It) (e:Bool) (k:Int) (hl:l.length≤1000000):∀ n i,n+i=l.length →
 w423_K0 C ⟨[(5,.int .i64 i),(1,.int .u64 k),(0,.ro 4 (l.map cIt) e)],[],0⟩=some (.int .i64 (fndI k i (l.drop i))):=by
 intro n
 induction n with
 | zero =>
  intro i hi
  simp only [w423_K0];rw [ck_unf w423_B0.eq_1]
  have h1:l.drop i=[]:=List.drop_eq_nil_of_le (by omega)
  have h3:¬ i < l.length:=by omega
  simp (disch:=omega) [ck_unf w423_c0.eq_1,h1,h3,fndI]
 | succ n ih =>
  intro i hi
  have h1:i < l.length:=by omega
  have:=ih (i+1) (by omega)
  rw [drop_cons h1,fndI]
  by_cases c:l[i].k=k
  · rw [if_pos c]
    simp only [w423_K0];rw [ck_unf w423_B0.eq_1]
    simp (disch:=omega) [h1,wI64,c]
  · rw [if_neg c]
    simp only [w423_K0] at this ⊢;rw [ck_unf w423_B0.eq_1]
    simp at this
    simp (disch:=omega) [h1,wI64,c,this]
theorem ifind_ok (H:HasL C) (l:List It) (e:Bool) (k:Int) (hl:l.length≤1000000):FnW C 423 [.ro 4 (l.map cIt) e,.int .u64 k]=some (.int .i64 (fndI k 0 l)):=by
 have h:=ifind_loop H l e k hl l.length 0 (by simp)
 simp only [w423_K0] at h
 simp at h
 rw [fnW_eq H.f423 rfl]
 simp [w423,h]
theorem is_ok (H:HasL C) (b:Bool):FnW C 406 [.bool b]=some (.int .i64 (if b=true then 1 else 0)):=by
 rw [fnW_eq H.f406 rfl]
 cases b <;> simp [w406]
def inR (a c n:Int):Bool:=decide (0≤a)&&decide (a≤n)&&decide (0≤c)&&decide (c≤n - a)
theorem within_ok (H:HasL C) (a c n:Int) (hn:0≤n∧n≤1000000):FnW C 219 [.int .i64 a,.int .i64 c,.int .i64 n]=some (.bool (inR a c n)):=by
 rw [fnW_eq H.f219 rfl]
 unfold inR
 by_cases c1:0≤a <;> by_cases c2:a≤n <;> by_cases c3:0≤c <;> by_cases c4:c≤n - a <;> first
  | (simp (disch:=omega) [w219,c1,c2,c3,c4,wI64];done)
  | (simp (disch:=omega) [w219,c1,c2,c3,c4,wI64];omega)
end Go.D
end
section
namespace Go.D
open Go Go.Pav Go.Pw P
attribute [-simp] List.getElem_cons_drop
variable {C:WProg}
theorem exactS_ok (H:HasL C) (m:List Bs) (e:Bool) (hl:m.length≤1000000):FnW C 460 [.ro 1 (m.map eS) e]=some (.ro 1 (m.map eS) true):=by
 rw [fnW_eq H.f460 rfl]
 by_cases h:m=[]
 · subst h;simp [w460]
 · have h2:m.length * 17≤35184372088832:=by omega
   have hT:List.take m.length (List.map eS m)=List.map eS m:=List.take_of_length_le (by simp)
   simp (disch:=omega) [w460,h,h2,isE,hT]
theorem copy1_ok (H:HasL C) (x:It) (e:Bool) (hl:x.m.length≤1000000):FnW C 340 [.ro 4 [cIt x] e]=some (.ro 4 [cIt x.own] true):=by
 have hg:=fun a h n=>rnW_eq (args:=[a]) H.f459 rfl h n
 have he:=exactS_ok H x.m x.e hl
 rw [fnW_eq H.f340 rfl]
 simp (disch:=omega) [w340,ck_unf w340_B0.eq_1,ck_unf w340_c0.eq_1,hg,w459,he,H.inl,inlB,H.pp,ppB,It.own,wI64]
theorem own_loop (H:HasL C) (l:List En) (e:Bool) (hl:l.length≤1000000) (hm:∀ x ∈ l,x.i.m.length≤1000000):∀ n i,n+i=l.length→∀ G:List En,G.length=i →
 w226_K0 C ⟨[(15,.int .i64 i),(14,.int .i64 l.length),(13,.ro 6 (l.map eEn) e),(3,.sl 0 6 0 l.length l.length true),(2,.ptr 1 0 0)],[(0,.cells 6 (G.map eEn++List.replicate n [.int .u64 0,.int .u8 0,.str [],.ro 1 [] true,.int .i64 0,.bool false]) true true),(1,.cells 1 [[.ro 6 [] true]] true true)],2⟩ =
  some (aL (G++(l.drop i).map En.own) true):=by
 intro n
 induction n with
 | zero =>
  intro i hi G hG
  have h1:l.drop i=[]:=List.drop_eq_nil_of_le (by omega)
  have h3:¬ i < l.length:=by omega
  have h6:List.take l.length (List.map eEn G)=List.map eEn G:=List.take_of_length_le (by simp;omega)
  have h7:G.length=l.length:=by omega
  simp only [w226_K0];rw [ck_unf w226_B0.eq_1]
  simp [ck_unf w226_c0.eq_1,h1,h3,h6,h7]
 | succ n ih =>
  intro i hi G hG
  have h1:i < l.length:=by omega
  have hc:=copy1_ok H l[i].i true (hm _ (List.getElem_mem h1))
  have:=ih (i+1) (by omega) (G++[l[i].own]) (by simp [hG])
  rw [drop_cons h1]
  simp only [w226_K0] at this ⊢;rw [ck_unf w226_B0.eq_1]
  simp [It.own] at hc
  simp [En.own,It.own] at this
  simp (disch:=omega) [h1,wI64,hc,fill_get,fill_set,hG,H.inl,inlB,H.pp,ppB,En.own,It.own,this]
theorem own_ok (H:HasL C) (l:List En) (e:Bool) (hl:l.length≤1000000) (hm:∀ x ∈ l,x.i.m.length≤1000000):FnW C 226 [.ro 6 (l.map eEn) e]=some (aL (l.map En.own) true):=by
 rw [fnW_eq H.f226 rfl]
 by_cases hne:l=[]
 · subst hne;simp [w226]
 · have h:=own_loop H l e hl hm l.length 0 (by simp) [] rfl
   have h2:l.length * 73≤35184372088832:=by omega
   simp only [w226_K0] at h
   simp at h
   simp (disch:=omega) [w226,hne,h2,h]
section
variable {β:Type} {base:Nat} {fin:Ex × WSt→Option β} {K:List Pw.Frame} {a:Ann} {l:List COper} {d:Option Nat} {e:Env} {n:Nat}
theorem sk_app0 {z bytes N nid:Nat} {zz:List AV} {xs:List (List AV)} {ex:Bool} (h:xs.length≤N) :
 SK C base fin K a l d e [(0,.cells z (List.replicate N zz) true true)] n (wEvApp [(0,.cells z (List.replicate N zz) true true)] nid z bytes (.sl 0 z 0 0 N ex) xs true) =
  OK C base fin K a l ⟨setD e d (.sl 0 z 0 xs.length N ex),[(0,.cells z (xs++List.replicate (N - xs.length) zz) true true)],n⟩:=by
 by_cases c:xs=[]
 · subst c;simp [sk_some]
 · simp [isE c,h,sk_some]
theorem sk_app {z bytes N nid k m:Nat} {zz:List AV} {A xs:List (List AV)} {ex:Bool} (hA:A.length=k) (hm:k+m=N) (h:xs.length≤m) :
 SK C base fin K a l d e [(0,.cells z (A++List.replicate m zz) true true)] n (wEvApp [(0,.cells z (A++List.replicate m zz) true true)] nid z bytes (.sl 0 z 0 k N ex) xs true) =
  OK C base fin K a l ⟨setD e d (.sl 0 z 0 (k+xs.length) N ex),[(0,.cells z (A++(xs++List.replicate (m - xs.length) zz)) true true)],n⟩:=by
 have h1:k+xs.length≤N:=by omega
 have h2:List.take k A=A:=List.take_of_length_le (by omega)
 have h3:List.drop (k+xs.length) A=[]:=List.drop_eq_nil_of_le (by omega)
 by_cases c:xs=[]
 · subst c;simp [sk_some]
 · simp (disch:=omega) [isE c,hA,hm,h1,h2,h3,sk_some,List.take_append,List.drop_append]
theorem sk_app2 {z bytes N nid k m:Nat} {zz:List AV} {A B xs:List (List AV)} {ex:Bool} (hA:A.length+B.length=k) (hm:k+m=N) (h:xs.length≤m) :
 SK C base fin K a l d e [(0,.cells z (A++(B++List.replicate m zz)) true true)] n (wEvApp [(0,.cells z (A++(B++List.replicate m zz)) true true)] nid z bytes (.sl 0 z 0 k N ex) xs true) =
  OK C base fin K a l ⟨setD e d (.sl 0 z 0 (k+xs.length) N ex),[(0,.cells z (A++(B++(xs++List.replicate (m - xs.length) zz))) true true)],n⟩:=by
 have:=sk_app (C:=C) (base:=base) (fin:=fin) (K:=K) (a:=a) (l:=l) (d:=d) (e:=e) (n:=n) (z:=z) (bytes:=bytes) (N:=N) (nid:=nid) (k:=k) (m:=m) (zz:=zz) (A:=A++B) (xs:=xs) (ex:=ex) (by simpa using hA) hm h
 simpa only [List.append_assoc] using this
end
theorem spl_len {α:Type} (l x:List α) (a c:Nat) (h:a+c≤l.length):(spl l a c x).length=l.length - c+x.length:=by
 unfold spl;simp;omega
theorem splice_ok (H:HasL C) (l x:List En) (e e2:Bool) (a c:Nat) (hl:l.length≤1000000) (hx:x.length≤1000000) (hac:a+c≤l.length) :
 FnW C 221 [.ro 6 (l.map eEn) e,.int .i64 a,.int .i64 c,.ro 6 (x.map eEn) e2]=some (.ro 6 ((spl l a c x).map eEn) true):=by
 rw [fnW_eq H.f221 rfl]
 obtain ⟨N,hN,hN2⟩:∃ N:Nat,(l.length:Int) - c+x.length=N∧N=l.length - c+x.length:=⟨_,by omega,rfl⟩
 have h1:(c:Int)≤l.length:=by omega
 have h2:N * 73≤35184372088832:=by omega
 have hA:min a l.length=a:=by omega
 have h3:a≤N:=by omega
 have h4:a+x.length≤N:=by omega
 have h5:a+x.length+(l.length - (a+c))=N:=by omega
 have h6:a≤l.length:=by omega
 have hT:List.take l.length (List.map eEn l)=List.map eEn l:=List.take_of_length_le (by simp)
 have h9:a+(x.length+(l.length - (a+c)))=N:=by omega
 have h7:N - a - x.length=l.length - (a+c):=by omega
 have h8:List.take N (List.map eEn (spl l a c x))=List.map eEn (spl l a c x):=List.take_of_length_le (by simp [spl];omega)
 simp only [spl] at h8 ⊢
 simp at h8
 simp (disch:=first | omega | (simp;done) | (simp;omega)) [w221,wI64,h1,hN,h2,hA,h3,h4,h5,h6,hac,-wEvApp_sl,sk_app0,sk_app,sk_app2,hT,h7,h8,h9]
end Go.D
end
section
namespace Go.D
open Go Go.Pav Go.Pw P
attribute [-simp] List.getElem_cons_drop
variable {C:WProg}
structure HasK (C:WProg):Prop extends HasZ C,HasL C where
 f399:C.fns.get 399=some w399
 f230:C.fns.get 230=some w230
 f405:C.fns.get 405=some w405
 f232:C.fns.get 232=some w232
 f115:C.fns.get 115=some w115
 f236:C.fns.get 236=some w236
 f271:C.fns.get 271=some w271
 f223:C.fns.get 223=some w223
 f235:C.fns.get 235=some w235
 f532:C.fns.get 532=some w532
theorem kdAt_get {ks:List Kd} {t:Nat} (h:t < ks.length):kdAt ks t=ks[t]:=by
 unfold kdAt;simp [h]
theorem itOk_t {n:Int} {x:It} (h:itOk n x=true):x.t < n:=by
 unfold itOk at h;simp at h;exact h.1.1.2
theorem rrender_ok (H:HasK C) (ks:List Kd) (ke:Bool) (cap:Int) (x:It) (hx:ItIn x) (ht:x.t < ks.length) (hr:RuIn ks) :
 FnW C 399 [aR ks ke cap,eIt x]=some (.tup [.agg (rndN (kdAt ks x.t).p x cap).c,.int .i64 (rndE (kdAt ks x.t).p x cap)]):=by
 obtain ⟨t,hT⟩:∃ t:Nat,x.t=t:=⟨x.t.toNat,by have:=hx.t;omega⟩
 have h1:t < ks.length:=by omega
 have h:=render_ok H.toHasZ ks[t].p (hr.f _ (List.getElem_mem h1)) x hx.k cap
 rw [hT,kdAt_get h1]
 rw [fnW_eq H.f399 rfl]
 generalize (rndN ks[t].p x cap)=N at *
 generalize rndE ks[t].p x cap=E at *
 rw [Pt.c_eq] at h
 simp only [eIt,hT] at h
 simp (disch:=omega) [w399,hT,h1,h,H.inl,inlB,H.pp,ppB]
theorem bad_ok (H:HasK C) (k:Kd):FnW C 230 [.agg (eKd k)]=some (.bool (!kdOk k)):=by
 have h1:=height_ok H.toHasL k.b
 have h2:=tCheck_ok H.toHasT k.p
 rw [Pt.c_eq] at h2
 rw [fnW_eq H.f230 rfl]
 unfold kdOk
 generalize hOk k.b=X at *
 cases X
 · simp [w230,h1,H.inl,inlB,H.pp,ppB]
 · by_cases c:tcnt k.p=0
   · simp [c] at h2
     simp [w230,h1,h2,c,H.inl,inlB,H.pp,ppB]
   · simp [c] at h2
     simp [w230,h1,h2,c,H.inl,inlB,H.pp,ppB]
theorem indexK_loop (H:HasK C) (ks:List Kd) (e:Bool) (hl:ks.length≤1000000):∀ n i,n+i=ks.length →
 ∃ v:Int,w405_K0 C ⟨[(8,.int .i64 i),(7,.int .i64 ks.length),(1,.fn 230 []),(0,.ro 9 (ks.map eKd) e)],[],0⟩=some (.int .i64 v)∧decide (v < 0)=(ks.drop i).all kdOk:=by
 intro n
 induction n with
 | zero =>
  intro i hi
  simp only [w405_K0];rw [ck_unf w405_B0.eq_1]
  have h1:ks.drop i=[]:=List.drop_eq_nil_of_le (by omega)
  have h3:¬ i < ks.length:=by omega
  exact ⟨-1,by simp (disch:=omega) [ck_unf w405_c0.eq_1,h1,h3],by simp [h1]⟩
 | succ n ih =>
  intro i hi
  have h1:i < ks.length:=by omega
  have hb:=bad_ok H ks[i]
  simp only [eKd] at hb
  rw [drop_cons h1]
  cases c:kdOk ks[i]
  · refine ⟨i,?_,by simp [c]⟩
    rw [c] at hb
    simp only [w405_K0];rw [ck_unf w405_B0.eq_1]
    simp (disch:=omega) [h1,hb,H.inl,inlB,H.pp,ppB]
  · obtain ⟨v,hv,hq⟩:=ih (i+1) (by omega)
    refine ⟨v,?_,by simp [hq,c]⟩
    rw [c] at hb
    simp only [w405_K0] at hv ⊢;rw [ck_unf w405_B0.eq_1]
    simp at hv
    simp (disch:=omega) [h1,wI64,hb,H.inl,inlB,H.pp,ppB,hv]
theorem containsK_ok (H:HasK C) (ks:List Kd) (e:Bool) (hl:ks.length≤1000000):FnW C 232 [.ro 9 (ks.map eKd) e,.fn 230 []]=some (.bool (!ks.all kdOk)):=by
 obtain ⟨v,h,q⟩:=indexK_loop H ks e hl ks.length 0 (by simp)
 simp only [w405_K0] at h
 simp at h
 have h2:FnW C 405 [.ro 9 (ks.map eKd) e,.fn 230 []]=some (.int .i64 v):=by
  rw [fnW_eq H.f405 rfl]
  simp [w405,h]
 rw [fnW_eq H.f232 rfl]
 rw [List.drop_zero] at q
 rw [← q]
 by_cases c:v < 0
 · have c':¬ 0≤v:=by omega
   simp [w232,H.inl,inlB,H.pp,ppB,h2,c,c']
 · have c':0≤v:=by omega
   simp [w232,H.inl,inlB,H.pp,ppB,h2,c,c']
theorem valid_ok (H:HasK C) (ks:List Kd) (ke:Bool) (cap:Int) (hr:RuIn ks):FnW C 115 [aR ks ke cap]=some (.int .i64 (if ruOk ks cap=true then 0 else 7)):=by
 have h:=containsK_ok H ks ke hr.n
 have hl:=hr.n
 rw [fnW_eq H.f115 rfl]
 unfold ruOk
 by_cases c1:1≤ks.length
 · have c1':¬ ((ks.length:Int) < 1):=by omega
   by_cases c2:ks.length≤8
   · have c2':¬ (8 < (ks.length:Int)):=by omega
     by_cases c3:1≤cap
     · have c3':¬ cap < 1:=by omega
       by_cases c4:cap≤64
       · have c4':¬ 64 < cap:=by omega
         cases c5:ks.all kdOk
         · rw [c5] at h
           simp [w115,c1,c1',c2,c2',c3,c3',c4,c4',h,H.inl,inlB,H.pp,ppB]
         · rw [c5] at h
           simp [w115,c1,c1',c2,c2',c3,c3',c4,c4',h,H.inl,inlB,H.pp,ppB]
       · have c4':64 < cap:=by omega
         simp [w115,c1,c1',c2,c2',c3,c3',c4,c4']
     · have c3':cap < 1:=by omega
       simp [w115,c1,c1',c2,c2',c3,c3']
   · have c2':(8 < (ks.length:Int)):=by omega
     simp [w115,c1,c1',c2,c2']
 · have c1':((ks.length:Int) < 1):=by omega
   simp [w115,c1,c1']
theorem rvalid_loop (H:HasK C) (ks:List Kd) (ke:Bool) (cap:Int) (hr:RuIn ks):∀ n i,n+i=ks.length →
 w236_K0 C ⟨[(3,.int .i64 i),(1,.ptr 0 0 0)],[(0,.cells 2 [[.ro 9 (ks.map eKd) ke,.int .i64 cap]] true true)],1⟩=some (.int .i64 (if (ks.drop i).all kdOk=true then 0 else 7)):=by
 have hl:=hr.n
 intro n
 induction n with
 | zero =>
  intro i hi
  simp only [w236_K0];rw [ck_unf w236_B0.eq_1]
  have h1:ks.drop i=[]:=List.drop_eq_nil_of_le (by omega)
  have h3:¬ i < ks.length:=by omega
  simp (disch:=omega) [ck_unf w236_c0.eq_1,h1,h3]
 | succ n ih =>
  intro i hi
  have h1:i < ks.length:=by omega
  have hc:=trCheck_ok H.toHasU ks[i].p (hr.f _ (List.getElem_mem h1))
  rw [Pt.c_eq] at hc
  have:=ih (i+1) (by omega)
  rw [drop_cons h1,List.all_cons]
  generalize (ks.drop (i+1)).all kdOk=X at *
  simp only [w236_K0] at this ⊢;rw [ck_unf w236_B0.eq_1]
  simp at this
  unfold kdOk hOk
  by_cases c1:1≤ks[i].b
  · have c1':¬ ks[i].b < 1:=by omega
    by_cases c2:ks[i].b≤2305843009213693952
    · have c2':¬ 2305843009213693952 < ks[i].b:=by omega
      by_cases c3:tcnt ks[i].p=0
      · simp [c3] at hc
        simp (disch:=omega) [h1,wI64,c1,c1',c2,c2',c3,hc,H.inl,inlB,H.pp,ppB]
      · simp [c3] at hc
        simp (disch:=omega) [h1,wI64,c1,c1',c2,c2',c3,hc,H.inl,inlB,H.pp,ppB,this]
    · have c2':2305843009213693952 < ks[i].b:=by omega
      simp (disch:=omega) [h1,wI64,c1,c1',c2,c2']
  · have c1':ks[i].b < 1:=by omega
    simp (disch:=omega) [h1,wI64,c1,c1']
theorem rvalid_ok (H:HasK C) (ks:List Kd) (ke:Bool) (cap:Int) (hr:RuIn ks):FnW C 236 [aR ks ke cap]=some (.int .i64 (if ruOk ks cap=true then 0 else 7)):=by
 have h:=rvalid_loop H ks ke cap hr ks.length 0 (by simp)
 rw [List.drop_zero] at h
 have hl:=hr.n
 rw [fnW_eq H.f236 rfl]
 unfold ruOk
 generalize ks.all kdOk=X at *
 simp only [w236_K0] at h
 simp at h
 by_cases c1:1≤ks.length
 · have c1':¬ ks=[]:=by intro q;subst q;simp at c1
   by_cases c2:ks.length≤8
   · have c2':¬ (8 < (ks.length:Int)):=by omega
     by_cases c3:1≤cap
     · have c3':¬ cap < 1:=by omega
       by_cases c4:cap≤64
       · have c4':¬ 64 < cap:=by omega
         simp [w236,c1,c1',c2,c2',c3,c3',c4,c4',h]
       · have c4':64 < cap:=by omega
         simp [w236,c1,c1',c2,c2',c3,c3',c4,c4']
     · have c3':cap < 1:=by omega
       simp [w236,c1,c1',c2,c2',c3,c3']
   · have c2':(8 < (ks.length:Int)):=by omega
     simp [w236,c1,c1',c2,c2']
 · have c1':ks=[]:=by cases ks with | nil=>rfl | cons a r=>simp at c1
   subst c1'
   simp [w236]
theorem ritem_ok (H:HasK C) (ks:List Kd) (ke:Bool) (cap:Int) (x:It) (hx:ItIn x) (hr:RuIn ks) (seen:Bool) :
 FnW C 271 [aR ks ke cap,eIt x,.int .i64 (if seen=true then 1 else 0)]=some (.int .i64 (itE ks cap x seen)):=by
 have hc:=rcheck_ok H.toHasI x ks.length hx.t hx.m
 rw [fnW_eq H.f271 rfl]
 unfold itE
 cases c1:itOk ks.length x
 · rw [c1] at hc
   simp at hc
   simp [w271,hc,H.inl,inlB,H.pp,ppB]
 · rw [c1] at hc
   cases seen
   · have ht:=itOk_t c1
     obtain ⟨t,hT⟩:∃ t:Nat,x.t=t:=⟨x.t.toNat,by have:=hx.t;omega⟩
     have h1:t < ks.length:=by omega
     have h:=rRender_ok H.toHasZ ks[t].p (hr.f _ (List.getElem_mem h1)) x hx.k cap
     rw [hT,kdAt_get h1]
     have hE:0≤rndE ks[t].p x cap:=by unfold rndE;repeat (first | omega | split)
     generalize (rndR ks[t].p x cap)=N at *
     generalize rndE ks[t].p x cap=E at *
     rw [Pt.c_eq] at h
     simp only [eIt,hT] at h hc
     by_cases c:E=0
     · subst c
       simp at hc
       simp (disch:=omega) [w271,hc,hT,h1,h,H.inl,inlB,H.pp,ppB]
     · have c':0 < E:=by omega
       simp at hc
       simp (disch:=omega) [w271,hc,hT,h1,h,c,c',H.inl,inlB,H.pp,ppB]
   · simp at hc
     simp [w271,hc,H.inl,inlB,H.pp,ppB]
def kmap (s:List Int):List (AV × AV):=s.map fun k=>(.int .u64 k,.bool true)
theorem kmap_nil:kmap []=[]:=rfl
theorem kmap_get (k:Int):∀ s:List Int,mapGet (kmap s) (.int .u64 k)=some (if s.contains k=true then some (.bool true) else none)
 | []=>rfl
 | a::r=>by
  have ih:=kmap_get k r
  unfold kmap at ih ⊢
  rw [List.map_cons,mapGet]
  simp only [eqCell,if_true,ob]
  by_cases c:k=a
  · subst c;simp
  · simp [c,ih]
theorem kmap_put (k:Int):∀ s:List Int,s.contains k=false→mapPut (kmap s) (.int .u64 k) (.bool true)=some (kmap (s++[k]))
 | [],_=>rfl
 | a::r,h=>by
  simp at h
  have ih:=kmap_put k r (by simpa using h.2)
  unfold kmap at ih ⊢
  rw [List.map_cons,mapPut]
  simp only [eqCell,if_true,ob]
  simp [h.1,ih,om]
theorem fndF_has (k:Int):∀ (l:List En) (i:Nat),decide (0≤fndF k i l)=(l.map fun e=>e.i.k).contains k
 | [],_=>rfl
 | e::r,i=>by
  rw [fndF]
  by_cases c:e.i.k=k
  · rw [if_pos c];simp [c]
  · have c':¬ k=e.i.k:=fun q=>c q.symm
    rw [if_neg c,fndF_has k r (i+1)]
    simp [c']
theorem fndI_has (k:Int):∀ (l:List It) (i:Nat),decide (0≤fndI k i l)=(l.map fun e=>e.k).contains k
 | [],_=>rfl
 | e::r,i=>by
  rw [fndI]
  by_cases c:e.k=k
  · rw [if_pos c];simp [c]
  · have c':¬ k=e.k:=fun q=>c q.symm
    rw [if_neg c,fndI_has k r (i+1)]
    simp [c']
abbrev keysE (l:List En):List Int:=l.map fun e=>e.i.k
theorem check_loop (H:HasK C) (ks:List Kd) (ke:Bool) (cap:Int) (hr:RuIn ks) (l:List En) (e:Bool) (hl:l.length≤1000000) (hs:∀ x ∈ l,EnIn x):∀ n i,n+i=l.length→∀ seen:List Int,
 w223_K0 C ⟨[(25,.int .i64 i),(24,.int .i64 l.length),(23,.ro 6 (l.map eEn) e),(6,.map 0),(3,.ptr 1 0 0),(2,.ptr 2 0 0)],[(0,.map (kmap seen)),(1,.cells 1 [[.ro 6 (l.map eEn) e]] true true),(2,.cells 2 [[.ro 9 (ks.map eKd) ke,.int .i64 cap]] true true)],3⟩ =
  some (.int .i64 (if chk ks cap seen (l.drop i)≠0 then chk ks cap seen (l.drop i) else ovE l)):=by
 intro n
 induction n with
 | zero =>
  intro i hi seen
  have ht:=total_ok H.toHasL l e hl hs
  simp only [w223_K0];rw [ck_unf w223_B0.eq_1]
  have h1:l.drop i=[]:=List.drop_eq_nil_of_le (by omega)
  have h3:¬ i < l.length:=by omega
  simp (disch:=omega) [ck_unf w223_c0.eq_1,h1,h3,chk,ht,H.inl,inlB,H.pp,ppB]
 | succ n ih =>
  intro i hi seen
  have h1:i < l.length:=by omega
  have hx:=hs _ (List.getElem_mem h1)
  have hc:=icheck_ok H.toHasI l[i].i ks.length hx.i.t
  have hg:=kmap_get l[i].i.k seen
  rw [drop_cons h1,chk]
  cases c1:itOk ks.length l[i].i
  · have hE:enE ks cap l[i] (seen.contains l[i].i.k)=6:=by unfold enE itE;simp [c1]
    rw [hE]
    rw [c1] at hc
    simp at hc
    simp only [w223_K0];rw [ck_unf w223_B0.eq_1]
    simp (disch:=omega) [h1,hc,H.inl,inlB,H.pp,ppB]
  · rw [c1] at hc
    simp at hc
    cases c2:seen.contains l[i].i.k
    · have ht:=itOk_t c1
      obtain ⟨t,hT⟩:∃ t:Nat,l[i].i.t=t:=⟨l[i].i.t.toNat,by have:=hx.i.t;omega⟩
      have h2:t < ks.length:=by omega
      have hp:=kmap_put l[i].i.k seen c2
      have hre:=rrender_ok H ks ke cap l[i].i hx.i ht hr
      have hh:=height_ok H.toHasL l[i].s
      have this:=ih (i+1) (by omega) (seen++[l[i].i.k])
      rw [c2] at hg
      simp only [aR,eIt] at hre
      have hk:=kdAt_get h2
      have hE:enE ks cap l[i] false=if rndE ks[t].p l[i].i cap=0 then (if hOk l[i].s=true∧(l[i].kn=true∨l[i].s=ks[t].b) then 0 else 12) else 14:=by
       unfold enE itE
       rw [c1,hT,hk]
       by_cases q:rndE ks[t].p l[i].i cap=0 <;> simp [q]
      simp only [eIt,hT,hk] at hc hre
      generalize rndN ks[t].p l[i].i cap=N at *
      generalize rndE ks[t].p l[i].i cap=E at *
      by_cases c3:E=0
      · subst c3
        cases c4:hOk l[i].s
        · rw [c4] at hh
          have hE':enE ks cap l[i] false=12:=by rw [hE];simp [c4]
          rw [hE']
          simp only [w223_K0];rw [ck_unf w223_B0.eq_1]
          simp (disch:=omega) [h1,h2,hT,hc,hg,hp,hre,hh,H.inl,inlB,H.pp,ppB]
        · rw [c4] at hh
          cases c5:l[i].kn
          · by_cases c6:l[i].s=ks[t].b
            · have hE':enE ks cap l[i] false=0:=by rw [hE,if_pos rfl,if_pos ⟨c4,.inr c6⟩]
              rw [hE']
              simp only [w223_K0] at this ⊢;rw [ck_unf w223_B0.eq_1]
              generalize chk ks cap (seen++[l[i].i.k]) (List.drop (i+1) l)=Z at *
              simp at this
              simp (disch:=omega) [h1,h2,hT,hc,hg,hp,hre,hh,c5,eq_true c6,wI64,H.inl,inlB,H.pp,ppB,this]
            · have hE':enE ks cap l[i] false=12:=by rw [hE];simp [c5,c6]
              rw [hE']
              simp only [w223_K0];rw [ck_unf w223_B0.eq_1]
              simp (disch:=omega) [h1,h2,hT,hc,hg,hp,hre,hh,c5,c6,H.inl,inlB,H.pp,ppB]
          · have hE':enE ks cap l[i] false=0:=by rw [hE];simp [c4,c5]
            rw [hE']
            simp only [w223_K0] at this ⊢;rw [ck_unf w223_B0.eq_1]
            generalize chk ks cap (seen++[l[i].i.k]) (List.drop (i+1) l)=Z at *
            simp at this
            simp (disch:=omega) [h1,h2,hT,hc,hg,hp,hre,hh,c5,wI64,H.inl,inlB,H.pp,ppB,this]
      · have hE':enE ks cap l[i] false=14:=by rw [hE];simp [c3]
        rw [hE']
        simp only [w223_K0];rw [ck_unf w223_B0.eq_1]
        simp (disch:=omega) [h1,h2,hT,hc,hg,hp,hre,c3,H.inl,inlB,H.pp,ppB]
    · have hE:enE ks cap l[i] true=8:=by unfold enE itE;simp [c1]
      rw [hE]
      rw [c2] at hg
      simp only [w223_K0];rw [ck_unf w223_B0.eq_1]
      simp (disch:=omega) [h1,hc,hg,H.inl,inlB,H.pp,ppB]
theorem lcheck_ok (H:HasK C) (ks:List Kd) (ke:Bool) (cap:Int) (hr:RuIn ks) (l:List En) (e:Bool) (hl:l.length≤1000000) (hs:∀ x ∈ l,EnIn x) :
 FnW C 223 [aR ks ke cap,aL l e]=some (.int .i64 (ckE ks cap l)):=by
 have hv:=valid_ok H ks ke cap hr
 have h:=check_loop H ks ke cap hr l e hl hs l.length 0 (by simp) []
 rw [List.drop_zero,kmap_nil] at h
 rw [fnW_eq H.f223 rfl]
 unfold ckE
 generalize (if chk ks cap [] l≠0 then chk ks cap [] l else ovE l)=R at *
 simp only [w223_K0] at h
 simp at h
 cases c1:ruOk ks cap
 · rw [c1] at hv
   simp at hv
   simp [w223,hv,H.inl,inlB,H.pp,ppB]
 · rw [c1] at hv
   simp at hv
   by_cases c2:1024 < l.length
   · have c2':1024 < (l.length:Int):=by omega
     simp [w223,hv,c2,c2',H.inl,inlB,H.pp,ppB]
   · have c2':¬ 1024 < (l.length:Int):=by omega
     simp [w223,hv,c2,c2',h,H.inl,inlB,H.pp,ppB]
theorem rcheck_loop2 (H:HasK C) (ks:List Kd) (ke:Bool) (cap:Int) (hr:RuIn ks) (l:List En) (e:Bool) (hl:l.length≤1000000) (hs:∀ x ∈ l,EnIn x):∀ n i,n+i=l.length →
 w235_K0 C ⟨[(5,.int .i64 i),(2,.ptr 0 0 0),(1,.ro 6 (l.map eEn) e)],[(0,.cells 2 [[.ro 9 (ks.map eKd) ke,.int .i64 cap]] true true)],1⟩ =
  some (.int .i64 (if chk ks cap (keysE (l.take i)) (l.drop i)≠0 then chk ks cap (keysE (l.take i)) (l.drop i) else ovE l)):=by
 intro n
 induction n with
 | zero =>
  intro i hi
  have ht:=rover_ok H.toHasL l e hl hs
  simp only [w235_K0];rw [ck_unf w235_B0.eq_1]
  have h1:l.drop i=[]:=List.drop_eq_nil_of_le (by omega)
  have h3:¬ i < l.length:=by omega
  simp (disch:=omega) [ck_unf w235_c0.eq_1,h1,h3,chk,ht,H.inl,inlB,H.pp,ppB]
 | succ n ih =>
  intro i hi
  have h1:i < l.length:=by omega
  have h1':i≤l.length:=by omega
  have hx:=hs _ (List.getElem_mem h1)
  have hf:=fun e=>rfind_ok H.toHasL (l.take i) e l[i].i.k (by rw [List.length_take];omega)
  have hb:=is_ok H.toHasL (decide (0≤fndF l[i].i.k 0 (l.take i)))
  have hii:=ritem_ok H ks ke cap l[i].i hx.i hr (decide (0≤fndF l[i].i.k 0 (l.take i)))
  have this:=ih (i+1) (by omega)
  rw [show keysE (l.take (i+1))=keysE (l.take i)++[l[i].i.k] by rw [keysE,List.take_succ_eq_append_getElem h1,List.map_append];rfl] at this
  rw [drop_cons h1,chk,← fndF_has l[i].i.k (l.take i) 0]
  generalize fndF l[i].i.k 0 (l.take i)=F at *
  simp only [List.map_take] at hf
  simp only [aR,eIt] at hii
  have hE:enE ks cap l[i] (decide (0≤F))=if itE ks cap l[i].i (decide (0≤F))≠0 then itE ks cap l[i].i (decide (0≤F)) else if hOk l[i].s=true∧(l[i].kn=true∨l[i].s=(kdAt ks l[i].i.t).b) then 0 else 12:=rfl
  have hE0:0≤itE ks cap l[i].i (decide (0≤F)):=by unfold itE;repeat (first | omega | split)
  have hEt:itE ks cap l[i].i (decide (0≤F))=0→l[i].i.t < ks.length:=by
   intro q
   unfold itE at q
   cases c:itOk ks.length l[i].i
   · rw [if_pos c] at q;cases q
   · exact itOk_t c
  generalize itE ks cap l[i].i (decide (0≤F))=E at *
  generalize enE ks cap l[i] (decide (0≤F))=V at *
  generalize (if decide (0≤F)=true then (1:Int) else 0)=S at *
  by_cases c3:E=0
  · subst c3
    obtain ⟨t,hT⟩:∃ t:Nat,l[i].i.t=t:=⟨l[i].i.t.toNat,by have:=hx.i.t;omega⟩
    have h2:t < ks.length:=by have:=hEt rfl;omega
    rw [hT,kdAt_get h2] at hE
    simp only [hT] at hii
    unfold hOk at hE
    by_cases c4:1≤l[i].s
    · have c4':¬ l[i].s < 1:=by omega
      by_cases c5:l[i].s≤2305843009213693952
      · have c5':¬ 2305843009213693952 < l[i].s:=by omega
        cases c6:l[i].kn
        · by_cases c7:l[i].s=ks[t].b
          · have hV:V=0:=by rw [hE,if_neg (by simp),if_pos ⟨by simp [c4,c5],.inr c7⟩]
            rw [hV]
            simp only [w235_K0] at this ⊢;rw [ck_unf w235_B0.eq_1]
            generalize chk ks cap (keysE (l.take i)++[l[i].i.k]) (List.drop (i+1) l)=Z at *
            simp at this
            simp (disch:=omega) [h1,h1',h2,hT,hf,hb,hii,c4,c4',c5,c5',c6,eq_true c7,wI64,H.inl,inlB,H.pp,ppB,this]
          · have hV:V=12:=by rw [hE,if_neg (by simp),if_neg (by simp [c6,c7])]
            rw [hV]
            simp only [w235_K0];rw [ck_unf w235_B0.eq_1]
            simp (disch:=omega) [h1,h1',h2,hT,hf,hb,hii,c4,c4',c5,c5',c6,c7,H.inl,inlB,H.pp,ppB]
        · have hV:V=0:=by rw [hE,if_neg (by simp),if_pos ⟨by simp [c4,c5],.inl c6⟩]
          rw [hV]
          simp only [w235_K0] at this ⊢;rw [ck_unf w235_B0.eq_1]
          generalize chk ks cap (keysE (l.take i)++[l[i].i.k]) (List.drop (i+1) l)=Z at *
          simp at this
          simp (disch:=omega) [h1,h1',h2,hT,hf,hb,hii,c4,c4',c5,c5',c6,wI64,H.inl,inlB,H.pp,ppB,this]
      · have c5':2305843009213693952 < l[i].s:=by omega
        have hV:V=12:=by rw [hE,if_neg (by simp),if_neg (by simp [c5])]
        rw [hV]
        simp only [w235_K0];rw [ck_unf w235_B0.eq_1]
        simp (disch:=omega) [h1,h1',h2,hT,hf,hb,hii,c4,c4',c5,c5',H.inl,inlB,H.pp,ppB]
    · have c4':l[i].s < 1:=by omega
      have hV:V=12:=by rw [hE,if_neg (by simp),if_neg (by simp [c4])]
      rw [hV]
      simp only [w235_K0];rw [ck_unf w235_B0.eq_1]
      simp (disch:=omega) [h1,h1',h2,hT,hf,hb,hii,c4,c4',H.inl,inlB,H.pp,ppB]
  · have c3':0 < E:=by omega
    have hV:V=E:=by rw [hE,if_pos c3]
    rw [hV]
    simp only [w235_K0];rw [ck_unf w235_B0.eq_1]
    simp (disch:=omega) [h1,h1',hf,hb,hii,c3,c3',H.inl,inlB,H.pp,ppB]
theorem rlcheck_ok (H:HasK C) (ks:List Kd) (ke:Bool) (cap:Int) (hr:RuIn ks) (l:List En) (e:Bool) (hl:l.length≤1000000) (hs:∀ x ∈ l,EnIn x) :
 FnW C 235 [aR ks ke cap,.ro 6 (l.map eEn) e]=some (.int .i64 (ckE ks cap l)):=by
 have hv:=rvalid_ok H ks ke cap hr
 have h:=rcheck_loop2 H ks ke cap hr l e hl hs l.length 0 (by simp)
 rw [List.drop_zero,List.take_zero] at h
 rw [fnW_eq H.f235 rfl]
 unfold ckE
 simp only [keysE,List.map_nil] at h
 generalize (if chk ks cap [] l≠0 then chk ks cap [] l else ovE l)=R at *
 simp only [w235_K0] at h
 simp at h
 cases c1:ruOk ks cap
 · rw [c1] at hv
   simp at hv
   simp [w235,hv,H.inl,inlB,H.pp,ppB]
 · rw [c1] at hv
   simp at hv
   by_cases c2:1024 < l.length
   · have c2':1024 < (l.length:Int):=by omega
     simp [w235,hv,c2,c2',H.inl,inlB,H.pp,ppB]
   · have c2':¬ 1024 < (l.length:Int):=by omega
     simp [w235,hv,c2,c2',h,H.inl,inlB,H.pp,ppB]
def incE (ks:List Kd) (cap:Int):List Int→List It→Int
 | _,[]=>0
 | seen,x::r=>if itE ks cap x (seen.contains x.k)≠0 then itE ks cap x (seen.contains x.k) else incE ks cap (seen++[x.k]) r
theorem incoming_loop (H:HasK C) (ks:List Kd) (ke:Bool) (cap:Int) (hr:RuIn ks) (l:List En) (e:Bool) (hl:l.length≤1000000) (x:List It) (e2:Bool) (hxl:x.length≤1000000) (hs:∀ i ∈ x,ItIn i):∀ n i,n+i=x.length →
 w532_K0 C ⟨[(7,.int .i64 i),(3,.ptr 0 0 0),(2,.ro 4 (x.map cIt) e2),(1,.ro 6 (l.map eEn) e)],[(0,.cells 2 [[.ro 9 (ks.map eKd) ke,.int .i64 cap]] true true)],1⟩ =
  some (.int .i64 (incE ks cap (keysE l++(x.take i).map It.k) (x.drop i))):=by
 intro n
 induction n with
 | zero =>
  intro i hi
  simp only [w532_K0];rw [ck_unf w532_B0.eq_1]
  have h1:x.drop i=[]:=List.drop_eq_nil_of_le (by omega)
  have h3:¬ i < x.length:=by omega
  simp (disch:=omega) [ck_unf w532_c0.eq_1,h1,h3,incE]
 | succ n ih =>
  intro i hi
  have h1:i < x.length:=by omega
  have h1':i≤x.length:=by omega
  have hx:=hs _ (List.getElem_mem h1)
  have hf1:=rfind_ok H.toHasL l e x[i].k hl
  have hf:=fun e=>ifind_ok H.toHasL (x.take i) e x[i].k (by rw [List.length_take];omega)
  have hb:=fun b=>is_ok H.toHasL b
  have hii:=fun b=>ritem_ok H ks ke cap x[i] hx hr b
  have this:=ih (i+1) (by omega)
  rw [show (x.take (i+1)).map It.k=(x.take i).map It.k++[x[i].k] by rw [List.take_succ_eq_append_getElem h1,List.map_append];rfl,← List.append_assoc] at this
  have hC:(keysE l++(x.take i).map It.k).contains x[i].k=(decide (0≤fndF x[i].k 0 l)||decide (0≤fndI x[i].k 0 (x.take i))):=by
   rw [fndF_has,fndI_has];simp
  rw [drop_cons h1,incE,hC]
  generalize fndF x[i].k 0 l=F at *
  generalize fndI x[i].k 0 (x.take i)=F2 at *
  have hE0:∀ b,0≤itE ks cap x[i] b:=by intro b;unfold itE;repeat (first | omega | split)
  simp only [List.map_take] at hf
  simp only [aR,eIt] at hii
  have b1:=hb true
  have b0:=hb false
  have i1:=hii true
  have i0:=hii false
  have e1:=hE0 true
  have e0:=hE0 false
  simp only [if_true,Bool.false_eq_true,if_false] at b1 b0 i1 i0
  generalize hE1:itE ks cap x[i] true=E1 at *
  generalize hE2:itE ks cap x[i] false=E0 at *
  by_cases c1:0≤F
  · rw [decide_eq_true c1,Bool.true_or,hE1]
    by_cases c3:E1=0
    · subst c3
      simp only [w532_K0] at this ⊢;rw [ck_unf w532_B0.eq_1]
      generalize incE ks cap (keysE l++(x.take i).map It.k++[x[i].k]) (List.drop (i+1) x)=Z at *
      simp at this
      simp (disch:=omega) [h1,h1',hf1,hf,b1,i1,c1,wI64,H.inl,inlB,H.pp,ppB,this]
    · have c3':0 < E1:=by omega
      simp only [w532_K0];rw [ck_unf w532_B0.eq_1]
      simp (disch:=omega) [h1,h1',hf1,hf,b1,i1,c1,c3,c3',H.inl,inlB,H.pp,ppB]
  · by_cases c2:0≤F2
    · rw [decide_eq_false c1,decide_eq_true c2,Bool.false_or,hE1]
      by_cases c3:E1=0
      · subst c3
        simp only [w532_K0] at this ⊢;rw [ck_unf w532_B0.eq_1]
        generalize incE ks cap (keysE l++(x.take i).map It.k++[x[i].k]) (List.drop (i+1) x)=Z at *
        simp at this
        simp (disch:=omega) [h1,h1',hf1,hf,b1,i1,c1,c2,wI64,H.inl,inlB,H.pp,ppB,this]
      · have c3':0 < E1:=by omega
        simp only [w532_K0];rw [ck_unf w532_B0.eq_1]
        simp (disch:=omega) [h1,h1',hf1,hf,b1,i1,c1,c2,c3,c3',H.inl,inlB,H.pp,ppB]
    · rw [decide_eq_false c1,decide_eq_false c2,Bool.false_or,hE2]
      by_cases c3:E0=0
      · subst c3
        simp only [w532_K0] at this ⊢;rw [ck_unf w532_B0.eq_1]
        generalize incE ks cap (keysE l++(x.take i).map It.k++[x[i].k]) (List.drop (i+1) x)=Z at *
        simp at this
        simp (disch:=omega) [h1,h1',hf1,hf,b0,i0,c1,c2,wI64,H.inl,inlB,H.pp,ppB,this]
      · have c3':0 < E0:=by omega
        simp only [w532_K0];rw [ck_unf w532_B0.eq_1]
        simp (disch:=omega) [h1,h1',hf1,hf,b0,i0,c1,c2,c3,c3',H.inl,inlB,H.pp,ppB]
theorem incoming_ok (H:HasK C) (ks:List Kd) (ke:Bool) (cap:Int) (hr:RuIn ks) (l:List En) (e:Bool) (hl:l.length≤1000000) (x:List It) (e2:Bool) (hxl:x.length≤1000000) (hs:∀ i ∈ x,ItIn i) :
 FnW C 532 [aR ks ke cap,.ro 6 (l.map eEn) e,.ro 4 (x.map cIt) e2]=some (.int .i64 (incE ks cap (keysE l) x)):=by
 have h:=incoming_loop H ks ke cap hr l e hl x e2 hxl hs x.length 0 (by simp)
 rw [List.drop_zero,List.take_zero,List.map_nil,List.append_nil] at h
 generalize incE ks cap (keysE l) x=R at *
 simp only [w532_K0] at h
 simp at h
 rw [fnW_eq H.f532 rfl]
 simp [w532,h]
structure HasO (C:WProg):Prop extends HasK C where
 f216:C.fns.get 216=some w216
theorem rfresh_ok (H:HasK C) (ks:List Kd) (ke:Bool) (cap:Int) (x:It) (hx:ItIn x) (ht:x.t < ks.length) :
 FnW C 240 [aR ks ke cap,eIt x]=some (aE (fre ks x)):=by
 obtain ⟨t,hT⟩:∃ t:Nat,x.t=t:=⟨x.t.toNat,by have:=hx.t;omega⟩
 have h1:t < ks.length:=by omega
 rw [fnW_eq H.f240 rfl]
 unfold fre
 rw [hT,kdAt_get h1]
 simp (disch:=omega) [w240,hT,h1]
theorem fresh_loop (H:HasK C) (ks:List Kd) (ke:Bool) (cap:Int) (x:List It) (e:Bool) (hxl:x.length≤1000000) (hx:∀ i ∈ x,ItIn i∧i.t < ks.length):∀ n i,n+i=x.length→∀ G:List En,G.length=i →
 w400_K0 C ⟨[(13,.int .i64 i),(12,.int .i64 x.length),(11,.ro 4 (x.map cIt) e),(5,.sl 0 6 0 x.length x.length true),(2,.ptr 1 0 0)],[(0,.cells 6 (G.map eEn++List.replicate n [.int .u64 0,.int .u8 0,.str [],.ro 1 [] true,.int .i64 0,.bool false]) true true),(1,.cells 2 [[.ro 9 (ks.map eKd) ke,.int .i64 cap]] true true)],2⟩ =
  some (.ro 6 ((G++(x.drop i).map (fre ks)).map eEn) true):=by
 intro n
 induction n with
 | zero =>
  intro i hi G hG
  have h1:x.drop i=[]:=List.drop_eq_nil_of_le (by omega)
  have h3:¬ i < x.length:=by omega
  have h6:List.take x.length (List.map eEn G)=List.map eEn G:=List.take_of_length_le (by simp;omega)
  have h7:G.length=x.length:=by omega
  simp only [w400_K0];rw [ck_unf w400_B0.eq_1]
  simp [ck_unf w400_c0.eq_1,h1,h3,h6,h7]
 | succ n ih =>
  intro i hi G hG
  have h1:i < x.length:=by omega
  have hxi:=hx _ (List.getElem_mem h1)
  obtain ⟨t,hT⟩:∃ t:Nat,x[i].t=t:=⟨x[i].t.toNat,by have:=hxi.1.t;omega⟩
  have h2:t < ks.length:=by have:=hxi.2;omega
  have:=ih (i+1) (by omega) (G++[fre ks x[i]]) (by simp [hG])
  rw [drop_cons h1]
  simp only [w400_K0] at this ⊢;rw [ck_unf w400_B0.eq_1]
  simp [fre,hT,kdAt_get h2] at this
  simp (disch:=omega) [h1,h2,hT,wI64,fill_get,fill_set,hG,fre,kdAt_get h2,this]
theorem fresh_ok (H:HasK C) (ks:List Kd) (ke:Bool) (cap:Int) (x:List It) (e:Bool) (hxl:x.length≤1000000) (hx:∀ i ∈ x,ItIn i∧i.t < ks.length) :
 FnW C 400 [aR ks ke cap,.ro 4 (x.map cIt) e]=some (.ro 6 ((x.map (fre ks)).map eEn) true):=by
 rw [fnW_eq H.f400 rfl]
 by_cases hne:x=[]
 · subst hne
   simp (disch:=omega) [w400,ck_unf w400_B0.eq_1,ck_unf w400_c0.eq_1]
 · have h:=fresh_loop H ks ke cap x e hxl hx x.length 0 (by simp) [] rfl
   have h2:x.length * 73≤35184372088832:=by omega
   simp only [w400_K0] at h
   simp at h
   simp (disch:=omega) [w400,hne,h2,h]
def errL (e:Int):AV:=.tup [aL [] true,.int .i64 e]
def outL (out:List En):AV:=if ovE (out.map En.own)≠0 then errL (ovE (out.map En.own)) else .tup [aL (out.map En.own) true,.int .i64 0]
structure HasQ (C:WProg):Prop extends HasO C where
 f243:C.fns.get 243=some w243
theorem rsame1_loop (H:HasL C) (a b:It) (hl:a.m.length=b.m.length) (hb:a.m.length≤9223372036854775807):∀ n i,n+i=a.m.length →
 w112_K0 C ⟨[(5,.int .i64 i),(3,.ptr 0 0 0),(2,.ptr 1 0 0)],[(0,.cells 4 [[.int .u64 b.k,.int .u8 b.t,.str b.x,.ro 1 (b.m.map eS) b.e]] true true),(1,.cells 4 [[.int .u64 a.k,.int .u8 a.t,.str a.x,.ro 1 (a.m.map eS) a.e]] true true)],2⟩ =
  some (.int .i64 (if decide (a.m.drop i=b.m.drop i)=true then 1 else 0)):=by
 intro n
 induction n with
 | zero =>
  intro i hi
  have h1:a.m.drop i=[]:=List.drop_eq_nil_of_le (by omega)
  have h2:b.m.drop i=[]:=List.drop_eq_nil_of_le (by omega)
  have h3:¬ i < b.m.length:=by omega
  simp only [w112_K0];rw [ck_unf w112_B0.eq_1]
  simp (disch:=omega) [ck_unf w112_c0.eq_1,h1,h2,h3,hl]
 | succ n ih =>
  intro i hi
  have h1:i < a.m.length:=by omega
  have h2:i < b.m.length:=by omega
  have this:=ih (i+1) (by omega)
  rw [drop_cons h1,drop_cons h2]
  by_cases c:a.m[i]=b.m[i]
  · have hq:decide (a.m[i]::a.m.drop (i+1)=b.m[i]::b.m.drop (i+1))=decide (a.m.drop (i+1)=b.m.drop (i+1)):=by simp [c]
    rw [hq]
    generalize decide (a.m.drop (i+1)=b.m.drop (i+1))=X at *
    simp only [w112_K0] at this ⊢;rw [ck_unf w112_B0.eq_1]
    simp at this
    simp (disch:=omega) [h1,h2,eq_true c,wI64,this]
  · have hq:decide (a.m[i]::a.m.drop (i+1)=b.m[i]::b.m.drop (i+1))=false:=by simp [c]
    rw [hq]
    simp only [w112_K0];rw [ck_unf w112_B0.eq_1]
    simp (disch:=omega) [h1,h2,c]
theorem rsame1_ok (H:HasL C) (a b:It) (hb:a.m.length≤9223372036854775807) (hb2:b.m.length≤9223372036854775807):FnW C 112 [eIt a,eIt b]=some (.int .i64 (if sameIt a b=true then 1 else 0)):=by
 rw [fnW_eq H.f112 rfl]
 unfold sameIt
 by_cases c1:a.k=b.k
 · by_cases c2:a.t=b.t
   · by_cases c3:a.x=b.x
     · by_cases c4:a.m.length=b.m.length
       · have h:=rsame1_loop H a b c4 hb a.m.length 0 (by simp)
         rw [List.drop_zero,List.drop_zero] at h
         rw [decide_eq_true c1,decide_eq_true c2,decide_eq_true c3,Bool.true_and,Bool.true_and,Bool.true_and]
         generalize decide (a.m=b.m)=X at *
         simp only [w112_K0] at h
         simp at h
         simp [w112,eq_true c1,eq_true c2,eq_true c3,eq_true c4,h]
       · have c5:¬ a.m=b.m:=fun q=>c4 (by rw [q])
         simp [w112,eq_true c1,eq_true c2,eq_true c3,c4,c5]
     · simp [w112,eq_true c1,eq_true c2,c3]
   · simp [w112,eq_true c1,c2]
 · simp [w112,c1]
theorem rsame_loop (H:HasL C) (a b:List En) (e f:Bool) (hl:a.length=b.length) (hb:a.length≤1000000) (ha:∀ x ∈ a,x.i.m.length≤9223372036854775807) (hbm:∀ x ∈ b,x.i.m.length≤9223372036854775807):∀ n i,n+i=a.length →
 w172_K0 C ⟨[(5,.int .i64 i),(1,.ro 6 (b.map eEn) f),(0,.ro 6 (a.map eEn) e)],[],0⟩=some (.int .i64 (if sameL (a.drop i) (b.drop i)=true then 1 else 0)):=by
 intro n
 induction n with
 | zero =>
  intro i hi
  have h1:a.drop i=[]:=List.drop_eq_nil_of_le (by omega)
  have h2:b.drop i=[]:=List.drop_eq_nil_of_le (by omega)
  have h3:¬ i < b.length:=by omega
  simp only [w172_K0];rw [ck_unf w172_B0.eq_1]
  simp (disch:=omega) [ck_unf w172_c0.eq_1,h1,h2,h3,hl,sameL]
 | succ n ih =>
  intro i hi
  have h1:i < a.length:=by omega
  have h2:i < b.length:=by omega
  have this:=ih (i+1) (by omega)
  have hs:=rsame1_ok H a[i].i b[i].i (ha _ (List.getElem_mem h1)) (hbm _ (List.getElem_mem h2))
  rw [drop_cons h1,drop_cons h2,sameL]
  unfold sameEn
  simp only [eIt] at hs
  generalize sameL (a.drop (i+1)) (b.drop (i+1))=Y at *
  generalize sameIt a[i].i b[i].i=X at *
  by_cases c1:a[i].s=b[i].s
  · by_cases c2:a[i].kn=b[i].kn
    · rw [decide_eq_true c1,decide_eq_true c2,Bool.true_and,Bool.true_and]
      cases X
      · simp at hs
        simp only [w172_K0];rw [ck_unf w172_B0.eq_1]
        simp (disch:=omega) [h1,h2,eq_true c1,eq_true c2,hs,H.inl,inlB,H.pp,ppB]
      · simp at hs
        simp only [w172_K0] at this ⊢;rw [ck_unf w172_B0.eq_1]
        simp at this
        simp (disch:=omega) [h1,h2,eq_true c1,eq_true c2,hs,wI64,H.inl,inlB,H.pp,ppB,this]
    · rw [decide_eq_true c1,decide_eq_false c2]
      simp only [w172_K0];rw [ck_unf w172_B0.eq_1]
      simp (disch:=omega) [h1,h2,eq_true c1,c2]
  · rw [decide_eq_false c1]
    simp only [w172_K0];rw [ck_unf w172_B0.eq_1]
    simp (disch:=omega) [h1,h2,c1]
theorem rsameW_ok (H:HasL C) (a b:List En) (e f:Bool) (hb:a.length≤1000000) (hb2:b.length≤1000000) (ha:∀ x ∈ a,x.i.m.length≤9223372036854775807) (hbm:∀ x ∈ b,x.i.m.length≤9223372036854775807) :
 FnW C 172 [.ro 6 (a.map eEn) e,.ro 6 (b.map eEn) f]=some (.int .i64 (if (decide (a.length=b.length)&&sameL a b)=true then 1 else 0)):=by
 rw [fnW_eq H.f172 rfl]
 by_cases c:a.length=b.length
 · have h:=rsame_loop H a b e f c hb ha hbm a.length 0 (by simp)
   rw [List.drop_zero,List.drop_zero] at h
   rw [decide_eq_true c,Bool.true_and]
   generalize sameL a b=X at *
   simp only [w172_K0] at h
   simp at h
   simp [w172,eq_true c,h]
 · simp [w172,c]
theorem rsame_ok (H:HasL C) (a b:List En) (e f:Bool) (hb:a.length≤1000000) (hb2:b.length≤1000000) (ha:∀ x ∈ a,x.i.m.length≤1000000) (hbm:∀ x ∈ b,x.i.m.length≤1000000) :
 FnW C 172 [.ro 6 (a.map eEn) e,.ro 6 (b.map eEn) f]=some (.int .i64 (if (decide (a.length=b.length)&&sameL a b)=true then 1 else 0)) :=
 rsameW_ok H a b e f hb hb2 (fun x hx=>by have:=ha x hx;omega) (fun x hx=>by have:=hbm x hx;omega)
theorem sameL_refl:∀ l:List En,sameL l l=true
 | []=>rfl
 | a::r=>by rw [sameL,sameL_refl r];simp [sameEn,sameIt]
theorem sameL_own:∀ l:List En,sameL (l.map En.own) l=true
 | []=>rfl
 | a::r=>by rw [List.map_cons,sameL,sameL_own r];simp [sameEn,sameIt,En.own,It.own]
theorem is_list_ok (H:HasQ C) (l w:List En) (e1 e2:Bool) (n b:Int) (hb:l.length≤1000000) (hb2:w.length≤1000000) (ha:∀ x ∈ l,x.i.m.length≤1000000) (hbm:∀ x ∈ w,x.i.m.length≤1000000) :
 FnW C 243 [aL l true,.int .i64 n,.ro 6 (w.map eEn) e2,.int .i64 b]=some (.int .i64 (if (decide (n=b)&&(decide (l.length=w.length)&&sameL l w))=true then 1 else 0)):=by
 have h:=rsame_ok H.toHasL l w true e2 hb hb2 ha hbm
 rw [fnW_eq H.f243 rfl]
 generalize (decide (l.length=w.length)&&sameL l w)=X at *
 by_cases c:n=b
 · rw [decide_eq_true c,Bool.true_and]
   simp [w243,eq_true c,h,H.inl,inlB,H.pp,ppB]
 · simp [w243,c]
structure HasG (C:WProg):Prop extends HasQ C where
 f422:C.fns.get 422=some w422
 f270:C.fns.get 270=some w270
 f126:C.fns.get 126=some w126
 f130:C.fns.get 130=some w130
structure Good (i:It):Prop where
 k:1≤i.k∧i.k≤60
 t:0≤i.t∧i.t≤2
 x:isText i.x=true
 l:i.m.length≤8
 m:i.m.all isName=true
def OneR (k t:Int) (x:Bs) (o:Option AV):Prop:=∃ (m:List Bs) (e:Bool),o=some (eIt ⟨k,t,x,m,e⟩)∧m.length≤8∧m.all isName=true
theorem one_sl3 (H:HasG C) (k t a b c d:Int) (hd:0≤d∧d≤255) (x:Bs) (G:List Bs) (hG:G≠[]) (hl:G.length≤3) (hm:G.all isName=true) :
 OneR k t x (w422_K0 C ⟨[(4,.int .i64 3),(3,.ptr 0 0 0),(2,.ptr 2 0 0),(1,.ptr 3 0 0)],[(0,.cells 4 [[.int .u64 k,.int .u8 t,.str x,.sl 1 1 0 G.length G.length false]] true false),(1,.cells 1 (G.map eS) true true),(2,.cells 4 [[.int .u64 0,.int .u8 0,.str [],.ro 1 [] true]] true true),(3,.cells 4 [[.int .u8 a,.int .u8 b,.int .u8 c,.int .u8 d]] true true)],4⟩):=by
 have hfit:(G.length+1) * 17≤35184372088832:=by omega
 have hfit2:(G.length+2) * 17≤35184372088832:=by omega
 have h4:List.take G.length (List.map eS G)=List.map eS G:=List.take_of_length_le (by simp)
 by_cases c1:240≤d
 · refine ⟨G++[[97],[97]],false,?_,by simp;omega,by simp only [List.all_append,hm];decide⟩
   have h5:List.take (G.length+2) (List.map eS G++[[.str [97]],[.str [97]]])=List.map eS G++[[.str [97]],[.str [97]]]:=List.take_of_length_le (by simp)
   simp only [w422_K0];rw [ck_unf w422_B0.eq_1]
   simp (disch:=omega) [ck_unf w422_c0.eq_1,c1,h4,h5,hfit2]
 · refine ⟨G,false,?_,by omega,hm⟩
   simp only [w422_K0];rw [ck_unf w422_B0.eq_1]
   simp (disch:=omega) [ck_unf w422_c0.eq_1,c1,h4]
theorem one_nil3 (H:HasG C) (k t a b c d:Int) (hd:0≤d∧d≤255) (x:Bs) :
 OneR k t x (w422_K0 C ⟨[(4,.int .i64 3),(3,.ptr 0 0 0),(2,.ptr 1 0 0),(1,.ptr 2 0 0)],[(0,.cells 4 [[.int .u64 k,.int .u8 t,.str x,.ro 1 [] true]] true true),(1,.cells 4 [[.int .u64 0,.int .u8 0,.str [],.ro 1 [] true]] true true),(2,.cells 4 [[.int .u8 a,.int .u8 b,.int .u8 c,.int .u8 d]] true true)],3⟩):=by
 by_cases c1:240≤d
 · refine ⟨[[97],[97]],false,?_,by simp,by decide⟩
   simp only [w422_K0];rw [ck_unf w422_B0.eq_1]
   simp (disch:=omega) [ck_unf w422_c0.eq_1,c1]
 · refine ⟨[],true,?_,by simp,rfl⟩
   simp only [w422_K0];rw [ck_unf w422_B0.eq_1]
   simp (disch:=omega) [ck_unf w422_c0.eq_1,c1]
theorem one_sl2 (H:HasG C) (k t a b c d:Int) (hd:0≤d∧d≤255) (x:Bs) (G:List Bs) (hG:G≠[]) (hl:G.length≤2) (hm:G.all isName=true) :
 OneR k t x (w422_K0 C ⟨[(4,.int .i64 2),(3,.ptr 0 0 0),(2,.ptr 2 0 0),(1,.ptr 3 0 0)],[(0,.cells 4 [[.int .u64 k,.int .u8 t,.str x,.sl 1 1 0 G.length G.length false]] true false),(1,.cells 1 (G.map eS) true true),(2,.cells 4 [[.int .u64 0,.int .u8 0,.str [],.ro 1 [] true]] true true),(3,.cells 4 [[.int .u8 a,.int .u8 b,.int .u8 c,.int .u8 d]] true true)],4⟩):=by
 have hfit:(G.length+1) * 17≤35184372088832:=by omega
 have hfit2:(G.length+2) * 17≤35184372088832:=by omega
 have h4:List.take G.length (List.map eS G)=List.map eS G:=List.take_of_length_le (by simp)
 have h6:d.tdiv 8=d / 8:=Int.tdiv_eq_ediv_of_nonneg (by omega)
 have h5:(2+d / 8).tmod 3=(2+d / 8) % 3:=Int.tmod_eq_emod_of_nonneg (by omega)
 have hJ:(2+d / 8) % 3=0∨(2+d / 8) % 3=1∨(2+d / 8) % 3=2:=by omega
 simp only [w422_K0];rw [ck_unf w422_B0.eq_1]
 rcases hJ with hj | hj | hj
 · simp (disch:=omega) [wI64,wU8,h5,h6,hj,h4,hfit]
   split
   · have h:=one_sl3 H k t a b c d hd x (G++[[97]]) (by simp) (by simp;omega) (by simp only [List.all_append,hm];decide)
     simp only [w422_K0] at h
     simpa using h
   · exact one_sl3 H k t a b c d hd x G hG (by omega) hm
 · simp (disch:=omega) [wI64,wU8,h5,h6,hj,h4,hfit]
   split
   · have h:=one_sl3 H k t a b c d hd x (G++[[98,50]]) (by simp) (by simp;omega) (by simp only [List.all_append,hm];decide)
     simp only [w422_K0] at h
     simpa using h
   · exact one_sl3 H k t a b c d hd x G hG (by omega) hm
 · simp (disch:=omega) [wI64,wU8,h5,h6,hj,h4,hfit]
   split
   · have h:=one_sl3 H k t a b c d hd x (G++[[107,101,121]]) (by simp) (by simp;omega) (by simp only [List.all_append,hm];decide)
     simp only [w422_K0] at h
     simpa using h
   · exact one_sl3 H k t a b c d hd x G hG (by omega) hm
theorem one_nil2 (H:HasG C) (k t a b c d:Int) (hd:0≤d∧d≤255) (x:Bs) :
 OneR k t x (w422_K0 C ⟨[(4,.int .i64 2),(3,.ptr 0 0 0),(2,.ptr 1 0 0),(1,.ptr 2 0 0)],[(0,.cells 4 [[.int .u64 k,.int .u8 t,.str x,.ro 1 [] true]] true true),(1,.cells 4 [[.int .u64 0,.int .u8 0,.str [],.ro 1 [] true]] true true),(2,.cells 4 [[.int .u8 a,.int .u8 b,.int .u8 c,.int .u8 d]] true true)],3⟩):=by
 have h6:d.tdiv 8=d / 8:=Int.tdiv_eq_ediv_of_nonneg (by omega)
 have h5:(2+d / 8).tmod 3=(2+d / 8) % 3:=Int.tmod_eq_emod_of_nonneg (by omega)
 have hJ:(2+d / 8) % 3=0∨(2+d / 8) % 3=1∨(2+d / 8) % 3=2:=by omega
 simp only [w422_K0];rw [ck_unf w422_B0.eq_1]
 rcases hJ with hj | hj | hj
 · simp (disch:=omega) [wI64,wU8,h5,h6,hj]
   split
   · exact one_sl3 H k t a b c d hd x [[97]] (by simp) (by simp) (by decide)
   · exact one_nil3 H k t a b c d hd x
 · simp (disch:=omega) [wI64,wU8,h5,h6,hj]
   split
   · exact one_sl3 H k t a b c d hd x [[98,50]] (by simp) (by simp) (by decide)
   · exact one_nil3 H k t a b c d hd x
 · simp (disch:=omega) [wI64,wU8,h5,h6,hj]
   split
   · exact one_sl3 H k t a b c d hd x [[107,101,121]] (by simp) (by simp) (by decide)
   · exact one_nil3 H k t a b c d hd x
theorem one_sl1 (H:HasG C) (k t a b c d:Int) (hd:0≤d∧d≤255) (x:Bs) (G:List Bs) (hG:G≠[]) (hl:G.length≤1) (hm:G.all isName=true) :
 OneR k t x (w422_K0 C ⟨[(4,.int .i64 1),(3,.ptr 0 0 0),(2,.ptr 2 0 0),(1,.ptr 3 0 0)],[(0,.cells 4 [[.int .u64 k,.int .u8 t,.str x,.sl 1 1 0 G.length G.length false]] true false),(1,.cells 1 (G.map eS) true true),(2,.cells 4 [[.int .u64 0,.int .u8 0,.str [],.ro 1 [] true]] true true),(3,.cells 4 [[.int .u8 a,.int .u8 b,.int .u8 c,.int .u8 d]] true true)],4⟩):=by
 have hfit:(G.length+1) * 17≤35184372088832:=by omega
 have hfit2:(G.length+2) * 17≤35184372088832:=by omega
 have h4:List.take G.length (List.map eS G)=List.map eS G:=List.take_of_length_le (by simp)
 have h6:d.tdiv 8=d / 8:=Int.tdiv_eq_ediv_of_nonneg (by omega)
 have h5:(1+d / 8).tmod 3=(1+d / 8) % 3:=Int.tmod_eq_emod_of_nonneg (by omega)
 have hJ:(1+d / 8) % 3=0∨(1+d / 8) % 3=1∨(1+d / 8) % 3=2:=by omega
 simp only [w422_K0];rw [ck_unf w422_B0.eq_1]
 rcases hJ with hj | hj | hj
 · simp (disch:=omega) [wI64,wU8,h5,h6,hj,h4,hfit]
   split
   · have h:=one_sl2 H k t a b c d hd x (G++[[97]]) (by simp) (by simp;omega) (by simp only [List.all_append,hm];decide)
     simp only [w422_K0] at h
     simpa using h
   · exact one_sl2 H k t a b c d hd x G hG (by omega) hm
 · simp (disch:=omega) [wI64,wU8,h5,h6,hj,h4,hfit]
   split
   · have h:=one_sl2 H k t a b c d hd x (G++[[98,50]]) (by simp) (by simp;omega) (by simp only [List.all_append,hm];decide)
     simp only [w422_K0] at h
     simpa using h
   · exact one_sl2 H k t a b c d hd x G hG (by omega) hm
 · simp (disch:=omega) [wI64,wU8,h5,h6,hj,h4,hfit]
   split
   · have h:=one_sl2 H k t a b c d hd x (G++[[107,101,121]]) (by simp) (by simp;omega) (by simp only [List.all_append,hm];decide)
     simp only [w422_K0] at h
     simpa using h
   · exact one_sl2 H k t a b c d hd x G hG (by omega) hm
theorem one_nil1 (H:HasG C) (k t a b c d:Int) (hd:0≤d∧d≤255) (x:Bs) :
 OneR k t x (w422_K0 C ⟨[(4,.int .i64 1),(3,.ptr 0 0 0),(2,.ptr 1 0 0),(1,.ptr 2 0 0)],[(0,.cells 4 [[.int .u64 k,.int .u8 t,.str x,.ro 1 [] true]] true true),(1,.cells 4 [[.int .u64 0,.int .u8 0,.str [],.ro 1 [] true]] true true),(2,.cells 4 [[.int .u8 a,.int .u8 b,.int .u8 c,.int .u8 d]] true true)],3⟩):=by
 have h6:d.tdiv 8=d / 8:=Int.tdiv_eq_ediv_of_nonneg (by omega)
 have h5:(1+d / 8).tmod 3=(1+d / 8) % 3:=Int.tmod_eq_emod_of_nonneg (by omega)
 have hJ:(1+d / 8) % 3=0∨(1+d / 8) % 3=1∨(1+d / 8) % 3=2:=by omega
 simp only [w422_K0];rw [ck_unf w422_B0.eq_1]
 rcases hJ with hj | hj | hj
 · simp (disch:=omega) [wI64,wU8,h5,h6,hj]
   split
   · exact one_sl2 H k t a b c d hd x [[97]] (by simp) (by simp) (by decide)
   · exact one_nil2 H k t a b c d hd x
 · simp (disch:=omega) [wI64,wU8,h5,h6,hj]
   split
   · exact one_sl2 H k t a b c d hd x [[98,50]] (by simp) (by simp) (by decide)
   · exact one_nil2 H k t a b c d hd x
 · simp (disch:=omega) [wI64,wU8,h5,h6,hj]
   split
   · exact one_sl2 H k t a b c d hd x [[107,101,121]] (by simp) (by simp) (by decide)
   · exact one_nil2 H k t a b c d hd x
theorem one_nil0 (H:HasG C) (k t a b c d:Int) (hd:0≤d∧d≤255) (x:Bs) :
 OneR k t x (w422_K0 C ⟨[(4,.int .i64 0),(3,.ptr 0 0 0),(2,.ptr 1 0 0),(1,.ptr 2 0 0)],[(0,.cells 4 [[.int .u64 k,.int .u8 t,.str x,.ro 1 [] true]] true true),(1,.cells 4 [[.int .u64 0,.int .u8 0,.str [],.ro 1 [] true]] true true),(2,.cells 4 [[.int .u8 a,.int .u8 b,.int .u8 c,.int .u8 d]] true true)],3⟩):=by
 have h6:d.tdiv 8=d / 8:=Int.tdiv_eq_ediv_of_nonneg (by omega)
 have h5:(0+d / 8).tmod 3=(0+d / 8) % 3:=Int.tmod_eq_emod_of_nonneg (by omega)
 have hJ:(0+d / 8) % 3=0∨(0+d / 8) % 3=1∨(0+d / 8) % 3=2:=by omega
 simp only [w422_K0];rw [ck_unf w422_B0.eq_1]
 simp only [Int.zero_add] at h5 hJ
 rcases hJ with hj | hj | hj
 · simp (disch:=omega) [wI64,wU8,h5,h6,hj]
   split
   · exact one_sl1 H k t a b c d hd x [[97]] (by simp) (by simp) (by decide)
   · exact one_nil1 H k t a b c d hd x
 · simp (disch:=omega) [wI64,wU8,h5,h6,hj]
   split
   · exact one_sl1 H k t a b c d hd x [[98,50]] (by simp) (by simp) (by decide)
   · exact one_nil1 H k t a b c d hd x
 · simp (disch:=omega) [wI64,wU8,h5,h6,hj]
   split
   · exact one_sl1 H k t a b c d hd x [[107,101,121]] (by simp) (by simp) (by decide)
   · exact one_nil1 H k t a b c d hd x
structure Q4 where
 (a b c d:Int)
@[simp] def eQ (q:Q4):List AV:=[.int .u8 q.a,.int .u8 q.b,.int .u8 q.c,.int .u8 q.d]
structure QIn (q:Q4):Prop where
 a:0≤q.a∧q.a≤255
 b:0≤q.b∧q.b≤255
 c:0≤q.c∧q.c≤255
 d:0≤q.d∧q.d≤255
theorem item1_ok (H:HasG C) (q:Q4) (hq:QIn q):∃ i:It,FnW C 422 [.agg (eQ q)]=some (eIt i)∧Good i:=by
 obtain ⟨a,b,c,d⟩:=q
 obtain ⟨ha,hb,hc,hd⟩:=hq
 simp only at ha hb hc hd
 have h1:a.tmod 60=a % 60:=Int.tmod_eq_emod_of_nonneg (by omega)
 have h2:b.tmod 3=b % 3:=Int.tmod_eq_emod_of_nonneg (by omega)
 have h3:c.tmod 8=c % 8:=Int.tmod_eq_emod_of_nonneg (by omega)
 have hx:∀ x:Bs,isText x=true→∃ i:It,w422_K0 C ⟨[(4,.int .i64 0),(3,.ptr 0 0 0),(2,.ptr 1 0 0),(1,.ptr 2 0 0)],[(0,.cells 4 [[.int .u64 (1+a % 60),.int .u8 (b % 3),.str x,.ro 1 [] true]] true true),(1,.cells 4 [[.int .u64 0,.int .u8 0,.str [],.ro 1 [] true]] true true),(2,.cells 4 [[.int .u8 a,.int .u8 b,.int .u8 c,.int .u8 d]] true true)],3⟩=some (eIt i)∧Good i:=by
  intro x hx
  obtain ⟨m,e,h,r1,r2⟩:=one_nil0 H (1+a % 60) (b % 3) a b c d hd x
  exact ⟨_,h,⟨by simp only;omega,by simp only;omega,hx,r1,r2⟩⟩
 rw [fnW_eq H.f422 rfl]
 have hJ:c % 8=0∨c % 8=1∨c % 8=2∨c % 8=3∨c % 8=4∨c % 8=5∨c % 8=6∨c % 8=7:=by omega
 rcases hJ with hj | hj | hj | hj | hj | hj | hj | hj
 · obtain ⟨i,h,g⟩:=hx [] (by decide)
   refine ⟨i,?_,g⟩
   simp only [w422_K0] at h
   simp (disch:=omega) [w422,h1,h2,h3,hj,wI64,wU8,wU64,h]
 · obtain ⟨i,h,g⟩:=hx [97] (by decide)
   refine ⟨i,?_,g⟩
   simp only [w422_K0] at h
   simp (disch:=omega) [w422,h1,h2,h3,hj,wI64,wU8,wU64,h]
 · obtain ⟨i,h,g⟩:=hx [114,111,119] (by decide)
   refine ⟨i,?_,g⟩
   simp only [w422_K0] at h
   simp (disch:=omega) [w422,h1,h2,h3,hj,wI64,wU8,wU64,h]
 · obtain ⟨i,h,g⟩:=hx [116,119,111,32,119,111,114,100,115] (by decide)
   refine ⟨i,?_,g⟩
   simp only [w422_K0] at h
   simp (disch:=omega) [w422,h1,h2,h3,hj,wI64,wU8,wU64,h]
 · obtain ⟨i,h,g⟩:=hx [32,32] (by decide)
   refine ⟨i,?_,g⟩
   simp only [w422_K0] at h
   simp (disch:=omega) [w422,h1,h2,h3,hj,wI64,wU8,wU64,h]
 · obtain ⟨i,h,g⟩:=hx [126,33,45,44] (by decide)
   refine ⟨i,?_,g⟩
   simp only [w422_K0] at h
   simp (disch:=omega) [w422,h1,h2,h3,hj,wI64,wU8,wU64,h]
 · obtain ⟨i,h,g⟩:=hx [97,32,108,111,110,103,101,114,32,116,101,120,116,32,111,102,32,116,104,105,115,32,107,105,110,100] (by decide)
   refine ⟨i,?_,g⟩
   simp only [w422_K0] at h
   simp (disch:=omega) [w422,h1,h2,h3,hj,wI64,wU8,wU64,h]
 · obtain ⟨i,h,g⟩:=hx [57] (by decide)
   refine ⟨i,?_,g⟩
   simp only [w422_K0] at h
   simp (disch:=omega) [w422,h1,h2,h3,hj,wI64,wU8,wU64,h]
theorem Good.it {i:It} (h:Good i):ItIn i:=⟨by have:=h.k;omega,by have:=h.t;omega,by have:=h.l;omega⟩
theorem Good.ok {i:It} (h:Good i):itOk 3 i=true:=by
 have h1:=h.k;have h2:=h.t;have h3:=h.x;have h4:=h.l;have h5:=h.m
 unfold itOk
 simp only [Bool.and_eq_true,decide_eq_true_eq]
 exact ⟨⟨⟨by omega,by omega⟩,h3⟩,h4,h5⟩
theorem fndI_no {k:Int}:∀ (l:List It) (i:Nat),fndI k i l < 0→∀ x ∈ l,x.k≠k
 | [],_,_=>by simp
 | e::r,i,h=>by
  rw [fndI] at h
  split at h
  · omega
  · rename_i c
    intro x hx
    rcases List.mem_cons.1 hx with rfl | hx
    · exact c
    · exact fndI_no r (i+1) h x hx
theorem items_loop (H:HasG C) (hone:∀ q:Q4,QIn q→∃ i:It,FnW C 422 [.agg (eQ q)]=some (eIt i)∧Good i) (l:List Q4) (e:Bool) (hq:∀ q ∈ l,QIn q):∀ n i,n+i=min l.length 12→∀ G:List It,G.length≤i→(∀ x ∈ G,Good x)→(G.map It.k).Nodup →
 ∃ R:List It,w270_K0 C ⟨[(4,.int .i64 i),(3,.sl 0 4 0 G.length G.length false),(1,.ptr 1 0 0)],[(0,.cells 4 (G.map cIt) true true),(1,.cells 1 [[.ro 4 (l.map eQ) e]] true true)],2⟩=some (.ro 4 (R.map cIt) false) ∧
  R.length≤12∧(∀ x ∈ R,Good x)∧(R.map It.k).Nodup:=by
 intro n
 induction n with
 | zero =>
  intro i hi G hG hg hn
  refine ⟨G,?_,by omega,hg,hn⟩
  simp only [w270_K0];rw [ck_unf w270_B0.eq_1]
  have h6:List.take G.length (List.map cIt G)=List.map cIt G:=List.take_of_length_le (by simp)
  by_cases h3:i < l.length
  · have h4:¬ (i:Int) < 12:=by omega
    simp [ck_unf w270_c0.eq_1,h3,h4,h6]
  · simp [ck_unf w270_c0.eq_1,h3,h6]
 | succ n ih =>
  intro i hi G hG hg hn
  have h1:i < l.length:=by omega
  have h2:(i:Int) < 12:=by omega
  obtain ⟨x,hx,gx⟩:=hone l[i] (hq _ (List.getElem_mem h1))
  have hf:=ifind_ok H.toHasL G false x.k (by omega)
  have h6:List.take G.length (List.map cIt G)=List.map cIt G:=List.take_of_length_le (by simp)
  have hfit:(G.length+1) * 57≤35184372088832:=by omega
  simp only [eQ] at hx
  by_cases c:fndI x.k 0 G < 0
  · have hno:=fndI_no G 0 c
    obtain ⟨R,this,r1,r2,r3⟩:=ih (i+1) (by omega) (G++[x]) (by simp;omega) (by
     intro y hy
     rcases List.mem_append.1 hy with q | q
     · exact hg y q
     · simp at q;rw [q];exact gx) (by
     rw [List.map_append,List.nodup_append]
     refine ⟨hn,by simp,?_⟩
     intro a ha b hb
     simp at hb
     obtain ⟨y,hy,rfl⟩:=List.mem_map.1 ha
     rw [hb];exact hno y hy)
    refine ⟨R,?_,r1,r2,r3⟩
    simp only [w270_K0] at this ⊢;rw [ck_unf w270_B0.eq_1]
    simp at this
    simp (disch:=omega) [h1,h2,hx,hf,h6,c,hfit,wI64,H.inl,inlB,H.pp,ppB,this]
  · obtain ⟨R,this,r1,r2,r3⟩:=ih (i+1) (by omega) G (by omega) hg hn
    refine ⟨R,?_,r1,r2,r3⟩
    simp only [w270_K0] at this ⊢;rw [ck_unf w270_B0.eq_1]
    simp at this
    simp (disch:=omega) [h1,h2,hx,hf,h6,c,wI64,H.inl,inlB,H.pp,ppB,this]
theorem items_ok (H:HasG C) (hone:∀ q:Q4,QIn q→∃ i:It,FnW C 422 [.agg (eQ q)]=some (eIt i)∧Good i) (l:List Q4) (e:Bool) (hq:∀ q ∈ l,QIn q) :
 ∃ R:List It,FnW C 270 [.agg [.ro 4 (l.map eQ) e]]=some (.ro 4 (R.map cIt) false)∧R.length≤12∧(∀ x ∈ R,Good x)∧(R.map It.k).Nodup:=by
 obtain ⟨R,h,r⟩:=items_loop H hone l e hq (min l.length 12) 0 (by simp) [] (by simp) (by simp) (by simp)
 refine ⟨R,?_,r⟩
 simp only [w270_K0] at h
 simp at h
 rw [fnW_eq H.f270 rfl]
 simp [w270,h]
def leafP (k:Int) (t:Bs):Pt:=⟨k,[],[],[],true,t,[],true⟩
def tmRow:Pt:=⟨1,[114,111,119],[],[⟨[110],3,[]⟩,⟨[116,101,120,116],1,[]⟩],true,[],[leafP 3 []],true⟩
def tmHead:Pt:=⟨1,[104,101,97,100],[104],[⟨[105,100],2,[]⟩],true,[],[leafP 2 [35],leafP 4 []],true⟩
def tmTags:Pt:=⟨1,[114,111,119],[],[],true,[],[⟨1,[98],[98,50],[],true,[],[leafP 3 []],true⟩,⟨5,[116,97,103],[],[⟨[111,102],2,[]⟩],true,[],[],true⟩],true⟩
def kindsOf (n:Int):List Kd:=[⟨tmRow,10+n % 7,false,n % 4⟩,⟨tmHead,6+n % 3,true,n / 4 % 3⟩,⟨tmTags,20,decide (n % 16=15),n / 8 % 3⟩]
theorem kinds_ok (H:HasG C) (n:Int) (hn:0≤n∧n≤255):FnW C 126 [.int .u8 n]=some (.ro 9 ((kindsOf n).map eKd) true):=by
 rw [fnW_eq H.f126 rfl]
 have h1:n.tmod 7=n % 7:=Int.tmod_eq_emod_of_nonneg (by omega)
 have h2:n.tmod 4=n % 4:=Int.tmod_eq_emod_of_nonneg (by omega)
 have h3:n.tmod 3=n % 3:=Int.tmod_eq_emod_of_nonneg (by omega)
 have h4:n.tdiv 4=n / 4:=Int.tdiv_eq_ediv_of_nonneg (by omega)
 have h5:n.tdiv 8=n / 8:=Int.tdiv_eq_ediv_of_nonneg (by omega)
 have h6:(n / 4).tmod 3=n / 4 % 3:=Int.tmod_eq_emod_of_nonneg (by omega)
 have h7:(n / 8).tmod 3=n / 8 % 3:=Int.tmod_eq_emod_of_nonneg (by omega)
 have h8:n.tmod 16=n % 16:=Int.tmod_eq_emod_of_nonneg (by omega)
 simp (disch:=omega) [w126,kindsOf,tmRow,tmHead,tmTags,leafP,h1,h2,h3,h4,h5,h6,h7,h8,wI64,wU8,Pt.c_eq]
 rfl
theorem fits_leaf (k:Int) (t:Bs):FitsAll (leafP k t):=.mk _ ⟨by simp [leafP],by simp [leafP],by simp [leafP]⟩ (by simp [leafP])
theorem fits_row:FitsAll tmRow:=.mk _ ⟨by simp [tmRow],by simp [tmRow],by simp [tmRow]⟩ (by simp only [tmRow,List.mem_cons,List.not_mem_nil,or_false];rintro m rfl;exact fits_leaf _ _)
theorem fits_head:FitsAll tmHead:=.mk _ ⟨by simp [tmHead],by simp [tmHead],by simp [tmHead]⟩ (by simp only [tmHead,List.mem_cons,List.not_mem_nil,or_false];rintro m (rfl | rfl) <;> exact fits_leaf _ _)
theorem fits_tags:FitsAll tmTags:=.mk _ ⟨by simp [tmTags],by simp [tmTags],by simp [tmTags]⟩ (by
 simp only [tmTags,List.mem_cons,List.not_mem_nil,or_false]
 rintro m (rfl | rfl)
 · exact .mk _ ⟨by simp,by simp,by simp⟩ (by simp only [List.mem_cons,List.not_mem_nil,or_false];rintro m rfl;exact fits_leaf _ _)
 · exact .mk _ ⟨by simp,by simp,by simp⟩ (by simp))
theorem ru_in (n:Int):RuIn (kindsOf n):=⟨by simp [kindsOf],by
 simp only [kindsOf,List.mem_cons,List.not_mem_nil,or_false]
 rintro k (rfl | rfl | rfl)
 · exact fits_row
 · exact fits_head
 · exact fits_tags⟩
theorem tc_row:tcnt tmRow≠0:=by decide +kernel
theorem tc_head:tcnt tmHead≠0:=by decide +kernel
theorem tc_tags:tcnt tmTags≠0:=by decide +kernel
theorem ru_ok (n:Int) (hn:0≤n∧n≤255):ruOk (kindsOf n) 12=true:=by
 have e1:(1:Int)≤10+n % 7∧10+n % 7≤2305843009213693952:=by omega
 have e2:(1:Int)≤6+n % 3∧6+n % 3≤2305843009213693952:=by omega
 simp [ruOk,kdOk,hOk,kindsOf,tc_row,tc_head,tc_tags,e1,e2]
theorem kd_base (n:Int) (hn:0≤n∧n≤255) (t:Int) (ht:0≤t∧t≤2):1≤(kdAt (kindsOf n) t).b∧(kdAt (kindsOf n) t).b≤30:=by
 have:t=0∨t=1∨t=2:=by omega
 rcases this with rfl | rfl | rfl <;> simp [kdAt,kindsOf] <;> omega
structure GoodE (ks:List Kd) (e:En):Prop where
 i:Good e.i
 ok:itE ks 12 e.i false=0
 s:1≤e.s∧e.s≤40
 b:e.kn=true∨e.s=(kdAt ks e.i.t).b
structure KsIn (ks:List Kd):Prop where
 r:RuIn ks
 l:ks.length=3
 b:∀ t:Int,0≤t→t≤2→1≤(kdAt ks t).b∧(kdAt ks t).b≤30
theorem ks_in (n:Int) (hn:0≤n∧n≤255):KsIn (kindsOf n):=⟨ru_in n,rfl,fun t h1 h2=>kd_base n hn t ⟨h1,h2⟩⟩
theorem lof_sl (H:HasG C) (ks:List Kd) (hks:KsIn ks) (l:List It) (le:Bool) (hl:l.length≤12) (hg:∀ x ∈ l,Good x) (q:List Q4) (qe:Bool) (z:List Int) (ze:Bool) (hz:∀ s ∈ z,0≤s∧s≤255) (hzl:z.length < 9223372036854775808) (r:Int):∀ n i,n+i=l.length →
 ∀ G:List En,G≠[]→G.length≤i→(∀ x ∈ G,GoodE ks x)→(keysE G++(l.drop i).map It.k).Nodup →
 ∃ (R:List En) (f:Bool),w130_K0 C ⟨[(7,.int .i64 i),(6,.ptr 0 0 0),(5,.ro 4 (l.map cIt) le),(4,.ptr 2 0 0),(3,.ptr 3 0 0),(2,.ptr 4 0 0),(1,.ptr 5 0 0)],[(0,.cells 1 [[.sl 1 6 0 G.length G.length false]] true false),(1,.cells 6 (G.map eEn) true true),(2,.cells 2 [[.ro 9 (ks.map eKd) true,.int .i64 12]] true true),(3,.cells 1 [[.ro 6 [] true]] true true),(4,.cells 2 [[.ro 9 [] true,.int .i64 0]] true true),(5,.cells 3 [[.ro 4 (q.map eQ) qe,.ro 1 (z.map eU8) ze,.int .u8 r]] true true)],6⟩=some (.tup [aR ks true 12,aL R f])∧R.length≤12∧(∀ e ∈ R,GoodE ks e)∧(keysE R).Nodup:=by
 intro n
 induction n with
 | zero =>
  intro i hi G hne hG hge hn
  have h1:l.drop i=[]:=List.drop_eq_nil_of_le (by omega)
  have h3:¬ i < l.length:=by omega
  have h6:List.take G.length (List.map eEn G)=List.map eEn G:=List.take_of_length_le (by simp)
  refine ⟨G,false,?_,by omega,hge,by rw [h1] at hn;simpa using hn⟩
  simp only [w130_K0];rw [ck_unf w130_B0.eq_1]
  simp [ck_unf w130_c0.eq_1,h3,h6]
 | succ n ih =>
  intro i hi G hne hG hge hn
  have h1:i < l.length:=by omega
  have gx:=hg _ (List.getElem_mem h1)
  have hii:=ritem_ok H.toHasK ks true 12 l[i] gx.it hks.r false
  have hfr:=rfresh_ok H.toHasK ks true 12 l[i] gx.it (by have:=gx.t;have:=hks.l;omega)
  have hbase:=hks.b l[i].t gx.t.1 gx.t.2
  rw [drop_cons h1,List.map_cons] at hn
  have hfit:(G.length+1) * 73≤35184372088832:=by omega
  simp only [aR,eIt,Bool.false_eq_true,if_false] at hii
  simp only [aR,eIt,aE,eEn,fre] at hfr
  have hE0:0≤itE ks 12 l[i] false:=by unfold itE;repeat (first | omega | split)
  by_cases c1:itE ks 12 l[i] false=0
  · have step:∀ e:En,e.i=l[i]→GoodE ks e→∃ (R:List En) (f:Bool),w130_K0 C ⟨[(7,.int .i64 ((i:Int)+1)),(6,.ptr 0 0 0),(5,.ro 4 (l.map cIt) le),(4,.ptr 2 0 0),(3,.ptr 3 0 0),(2,.ptr 4 0 0),(1,.ptr 5 0 0)],[(0,.cells 1 [[.sl 1 6 0 (G.length+1) (G.length+1) false]] true false),(1,.cells 6 (G.map eEn++[eEn e]) true true),(2,.cells 2 [[.ro 9 (ks.map eKd) true,.int .i64 12]] true true),(3,.cells 1 [[.ro 6 [] true]] true true),(4,.cells 2 [[.ro 9 [] true,.int .i64 0]] true true),(5,.cells 3 [[.ro 4 (q.map eQ) qe,.ro 1 (z.map eU8) ze,.int .u8 r]] true true)],6⟩=some (.tup [aR ks true 12,aL R f])∧R.length≤12∧(∀ e ∈ R,GoodE ks e)∧(keysE R).Nodup:=by
     intro e he hge2
     have:=ih (i+1) (by omega) (G++[e]) (by simp) (by simp;omega) (by
      intro y hy
      rcases List.mem_append.1 hy with q | q
      · exact hge y q
      · simp at q;rw [q];exact hge2) (by simpa [keysE,he] using hn)
     simpa using this
    by_cases c2:G.length < z.length
    · by_cases c3:(0:Int) < z[G.length]
      · have hzz:=hz _ (List.getElem_mem c2)
        have hm:z[G.length].tmod 40=z[G.length] % 40:=Int.tmod_eq_emod_of_nonneg hzz.1
        have hm1:(0:Int)≤z[G.length] % 40:=Int.emod_nonneg _ (by omega)
        have hm2:z[G.length] % 40 < 40:=Int.emod_lt_of_pos _ (by omega)
        obtain ⟨R,f,this,hR⟩:=step ⟨l[i],1+z[G.length] % 40,true⟩ rfl ⟨gx,c1,by simp only;omega,.inl rfl⟩
        refine ⟨R,f,?_,hR⟩
        rw [c1] at hii
        generalize z[G.length] % 40=M at *
        simp only [w130_K0] at this ⊢;rw [ck_unf w130_B0.eq_1]
        simp at this
        simp (disch:=omega) [h1,c2,c3,hm,hii,hfr,hfit,wI64,wU8,H.inl,inlB,H.pp,ppB,this]
      · obtain ⟨R,f,this,hR⟩:=step (fre ks l[i]) rfl ⟨gx,c1,by unfold fre;simp only;omega,.inr rfl⟩
        refine ⟨R,f,?_,hR⟩
        rw [c1] at hii
        simp only [fre] at this
        simp only [w130_K0] at this ⊢;rw [ck_unf w130_B0.eq_1]
        simp at this
        simp (disch:=omega) [h1,c2,c3,hii,hfr,hfit,wI64,wU8,H.inl,inlB,H.pp,ppB,this]
    · obtain ⟨R,f,this,hR⟩:=step (fre ks l[i]) rfl ⟨gx,c1,by unfold fre;simp only;omega,.inr rfl⟩
      refine ⟨R,f,?_,hR⟩
      rw [c1] at hii
      simp only [fre] at this
      simp only [w130_K0] at this ⊢;rw [ck_unf w130_B0.eq_1]
      simp at this
      simp (disch:=omega) [h1,c2,hii,hfr,hfit,wI64,wU8,H.inl,inlB,H.pp,ppB,this]
  · have c1':0 < itE ks 12 l[i] false:=by omega
    obtain ⟨R,f,this,hR⟩:=ih (i+1) (by omega) G hne (by omega) hge (by
     refine List.Nodup.sublist ?_ hn;exact List.Sublist.append (List.Sublist.refl _) (List.sublist_cons_self _ _))
    refine ⟨R,f,?_,hR⟩
    generalize itE ks 12 l[i] false=E at *
    simp only [w130_K0] at this ⊢;rw [ck_unf w130_B0.eq_1]
    simp at this
    simp (disch:=omega) [h1,c1',hii,wI64,H.inl,inlB,H.pp,ppB,this]
theorem lof_nil (H:HasG C) (ks:List Kd) (hks:KsIn ks) (l:List It) (le:Bool) (hl:l.length≤12) (hg:∀ x ∈ l,Good x) (q:List Q4) (qe:Bool) (z:List Int) (ze:Bool) (hz:∀ s ∈ z,0≤s∧s≤255) (hzl:z.length < 9223372036854775808) (r:Int):∀ n i,n+i=l.length →
 (keysE []++(l.drop i).map It.k).Nodup →
 ∃ (R:List En) (f:Bool),w130_K0 C ⟨[(7,.int .i64 i),(6,.ptr 0 0 0),(5,.ro 4 (l.map cIt) le),(4,.ptr 1 0 0),(3,.ptr 2 0 0),(2,.ptr 3 0 0),(1,.ptr 4 0 0)],[(0,.cells 1 [[.ro 6 [] true]] true true),(1,.cells 2 [[.ro 9 (ks.map eKd) true,.int .i64 12]] true true),(2,.cells 1 [[.ro 6 [] true]] true true),(3,.cells 2 [[.ro 9 [] true,.int .i64 0]] true true),(4,.cells 3 [[.ro 4 (q.map eQ) qe,.ro 1 (z.map eU8) ze,.int .u8 r]] true true)],5⟩=some (.tup [aR ks true 12,aL R f])∧R.length≤12∧(∀ e ∈ R,GoodE ks e)∧(keysE R).Nodup:=by
 intro n
 induction n with
 | zero =>
  intro i hi  hn
  have h1:l.drop i=[]:=List.drop_eq_nil_of_le (by omega)
  have h3:¬ i < l.length:=by omega
  refine ⟨[],true,?_,by simp,by simp,by simp⟩
  simp only [w130_K0];rw [ck_unf w130_B0.eq_1]
  simp [ck_unf w130_c0.eq_1,h3]
 | succ n ih =>
  intro i hi  hn
  have h1:i < l.length:=by omega
  have gx:=hg _ (List.getElem_mem h1)
  have hii:=ritem_ok H.toHasK ks true 12 l[i] gx.it hks.r false
  have hfr:=rfresh_ok H.toHasK ks true 12 l[i] gx.it (by have:=gx.t;have:=hks.l;omega)
  have hbase:=hks.b l[i].t gx.t.1 gx.t.2
  rw [drop_cons h1,List.map_cons] at hn
  simp only [aR,eIt,Bool.false_eq_true,if_false] at hii
  simp only [aR,eIt,aE,eEn,fre] at hfr
  have hE0:0≤itE ks 12 l[i] false:=by unfold itE;repeat (first | omega | split)
  by_cases c1:itE ks 12 l[i] false=0
  · have step:∀ e:En,e.i=l[i]→GoodE ks e→∃ (R:List En) (f:Bool),w130_K0 C ⟨[(7,.int .i64 ((i:Int)+1)),(6,.ptr 0 0 0),(5,.ro 4 (l.map cIt) le),(4,.ptr 2 0 0),(3,.ptr 3 0 0),(2,.ptr 4 0 0),(1,.ptr 5 0 0)],[(0,.cells 1 [[.sl 1 6 0 1 1 false]] true false),(1,.cells 6 [eEn e] true true),(2,.cells 2 [[.ro 9 (ks.map eKd) true,.int .i64 12]] true true),(3,.cells 1 [[.ro 6 [] true]] true true),(4,.cells 2 [[.ro 9 [] true,.int .i64 0]] true true),(5,.cells 3 [[.ro 4 (q.map eQ) qe,.ro 1 (z.map eU8) ze,.int .u8 r]] true true)],6⟩=some (.tup [aR ks true 12,aL R f])∧R.length≤12∧(∀ e ∈ R,GoodE ks e)∧(keysE R).Nodup:=by
     intro e he hge2
     have:=lof_sl H ks hks l le hl hg q qe z ze hz hzl r n (i+1) (by omega) [e] (by simp) (by simp) (by simpa using hge2) (by simpa [keysE,he] using hn)
     simpa using this
    by_cases c2:0 < z.length
    · by_cases c3:(0:Int) < z[0]
      · have hzz:=hz _ (List.getElem_mem c2)
        have hm:z[0].tmod 40=z[0] % 40:=Int.tmod_eq_emod_of_nonneg hzz.1
        have hm1:(0:Int)≤z[0] % 40:=Int.emod_nonneg _ (by omega)
        have hm2:z[0] % 40 < 40:=Int.emod_lt_of_pos _ (by omega)
        obtain ⟨R,f,this,hR⟩:=step ⟨l[i],1+z[0] % 40,true⟩ rfl ⟨gx,c1,by simp only;omega,.inl rfl⟩
        refine ⟨R,f,?_,hR⟩
        rw [c1] at hii
        generalize z[0] % 40=M at *
        simp only [w130_K0] at this ⊢;rw [ck_unf w130_B0.eq_1]
        simp at this
        simp (disch:=omega) [h1,c2,c3,hm,hii,hfr,wI64,wU8,H.inl,inlB,H.pp,ppB,this]
      · obtain ⟨R,f,this,hR⟩:=step (fre ks l[i]) rfl ⟨gx,c1,by unfold fre;simp only;omega,.inr rfl⟩
        refine ⟨R,f,?_,hR⟩
        rw [c1] at hii
        simp only [fre] at this
        simp only [w130_K0] at this ⊢;rw [ck_unf w130_B0.eq_1]
        simp at this
        simp (disch:=omega) [h1,c2,c3,hii,hfr,wI64,wU8,H.inl,inlB,H.pp,ppB,this]
    · obtain ⟨R,f,this,hR⟩:=step (fre ks l[i]) rfl ⟨gx,c1,by unfold fre;simp only;omega,.inr rfl⟩
      refine ⟨R,f,?_,hR⟩
      rw [c1] at hii
      simp only [fre] at this
      simp only [w130_K0] at this ⊢;rw [ck_unf w130_B0.eq_1]
      simp at this
      simp (disch:=omega) [h1,c2,hii,hfr,wI64,wU8,H.inl,inlB,H.pp,ppB,this]
  · have c1':0 < itE ks 12 l[i] false:=by omega
    obtain ⟨R,f,this,hR⟩:=ih (i+1) (by omega) (by
     simp only [keysE,List.map_nil,List.nil_append] at hn ⊢;exact (List.nodup_cons.1 hn).2)
    refine ⟨R,f,?_,hR⟩
    generalize itE ks 12 l[i] false=E at *
    simp only [w130_K0] at this ⊢;rw [ck_unf w130_B0.eq_1]
    simp at this
    simp (disch:=omega) [h1,c1',hii,wI64,H.inl,inlB,H.pp,ppB,this]
theorem lof_ok (H:HasG C) (hone:∀ q:Q4,QIn q→∃ i:It,FnW C 422 [.agg (eQ q)]=some (eIt i)∧Good i) (q:List Q4) (qe:Bool) (hq:∀ x ∈ q,QIn x) (z:List Int) (ze:Bool) (hz:∀ s ∈ z,0≤s∧s≤255) (hzl:z.length < 9223372036854775808) (r:Int) (hr:0≤r∧r≤255) :
 ∃ (R:List En) (f:Bool),FnW C 130 [.agg [.ro 4 (q.map eQ) qe,.ro 1 (z.map eU8) ze,.int .u8 r]]=some (.tup [aR (kindsOf r) true 12,aL R f])∧R.length≤12∧(∀ e ∈ R,GoodE (kindsOf r) e)∧(keysE R).Nodup:=by
 obtain ⟨I,hI,l1,l2,l3⟩:=items_ok H hone q qe hq
 have hk:=kinds_ok H r hr
 obtain ⟨R,f,h,hR⟩:=lof_nil H (kindsOf r) (ks_in r hr) I false l1 l2 q qe z ze hz hzl r I.length 0 (by simp) (by simpa [keysE] using l3)
 refine ⟨R,f,?_,hR⟩
 rw [fnW_eq H.f130 rfl]
 generalize kindsOf r=ks at *
 simp only [w130_K0] at h
 simp at h
 simp [w130,hI,hk,h,H.inl,inlB,H.pp,ppB]
mutual
theorem mk_own (i:It):∀ p:Pt,mk i.own p=mk i p
 | ⟨k,t,y,s,se,tx,ch,ce⟩=>by rw [mk,mk,mks_own i ch];rfl
theorem mks_own (i:It):∀ l:List Pt,mks i.own l=mks i l
 | []=>rfl
 | p::r=>by rw [mks,mks,mk_own i p,mks_own i r]
end
theorem chk_good (ks:List Kd) (hb:∀ t:Int,0≤t→t≤2→1≤(kdAt ks t).b∧(kdAt ks t).b≤30):∀ (l:List En) (s:List Int),(∀ e ∈ l,GoodE ks e)→(s++keysE l).Nodup→chk ks 12 s l=0
 | [],_,_,_=>rfl
 | e::r,s,hg,hn=>by
  have h1:=hg e (by simp)
  have h2:s.contains e.i.k=false:=by
   simp only [keysE,List.map_cons] at hn
   have:=(List.nodup_append.1 hn).2.2
   simp only [List.contains_eq_mem,decide_eq_false_iff_not]
   intro q
   exact this _ q _ (by simp) rfl
  have h3:enE ks 12 e false=0:=by
   unfold enE
   rw [h1.ok]
   have hh:hOk e.s=true:=by unfold hOk;have:=h1.s;simp;omega
   simp [hh,h1.b]
  rw [chk,h2,h3]
  simp only [ne_eq,not_true_eq_false,if_false]
  refine chk_good ks hb r _ (fun x hx=>hg x (by simp [hx])) ?_
  simpa [keysE] using hn
theorem tot_good (ks:List Kd):∀ (l:List En) (s:Int),(∀ e ∈ l,GoodE ks e)→0≤s→s+40 * l.length≤4611686018427387904→totG s l≤s+40 * l.length
 | [],s,_,_,_=>by simp [totG]
 | e::r,s,hg,h0,h=>by
  have h1:=(hg e (by simp)).s
  have h2:imax e.s 0=e.s:=imax_l (by omega)
  simp only [List.length_cons] at h ⊢
  rw [totG,h2,if_neg (by omega)]
  have:=tot_good ks r (s+e.s) (fun x hx=>hg x (by simp [hx])) (by omega) (by omega)
  omega
theorem ck_good (r:Int) (hr:0≤r∧r≤255) (l:List En) (hl:l.length≤1024) (hg:∀ e ∈ l,GoodE (kindsOf r) e) (hn:(keysE l).Nodup):ckE (kindsOf r) 12 l=0:=by
 have h1:=chk_good (kindsOf r) (fun t a b=>kd_base r hr t ⟨a,b⟩) l [] hg (by simpa using hn)
 have h2:=tot_good (kindsOf r) l 0 hg (by omega) (by omega)
 have h3:ovE l=0:=by unfold ovE tot;rw [if_neg (by omega)]
 unfold ckE
 rw [ru_ok r hr,h1,if_neg (by simp),if_neg (by omega),if_neg (by simp),h3]
theorem GoodE.en {ks:List Kd} {e:En} (h:GoodE ks e):EnIn e:=⟨h.i.it,by have:=h.s;omega⟩
theorem GoodE.ow {ks:List Kd} {e:En} (h:GoodE ks e):GoodE ks e.own:=by
 refine ⟨⟨h.i.k,h.i.t,h.i.x,h.i.l,h.i.m⟩,?_,h.s,h.b⟩
 have h1:=h.ok
 have e1:∀ i:It,itOk ks.length i.own=itOk ks.length i:=fun i=>rfl
 have e2:∀ (i:It) (p:Pt),rndE p i.own 12=rndE p i 12:=by
  intro i p
  have:mkN i.own p=mkN i p:=by
   have m1:∀ p,Go.D.mk i.own p=Go.D.mk i p:=by
    intro p
    exact (mk_own i p)
   unfold mkN;rw [m1]
  unfold rndE;rw [this];rfl
 unfold itE at h1 ⊢
 simp only [En.own,e1,e2]
 exact h1
end Go.D
end
section
namespace Go.Pw
open Go Go.Pav
inductive CT where
 | bool
 | int (k:IntKind)
 | str
 | slice (ts:List CT)
inductive Ty:CT→AV→Prop
 | bool (b:Bool):Ty .bool (.bool b)
 | int (k:IntKind) (n:Int) (h1:k.min≤n) (h2:n≤k.max):Ty (.int k) (.int k n)
 | str (s:List UInt8) (h:s.length < 2 ^ 63):Ty .str (.str s)
 | slice (ts:List CT) (es:List (List AV)) (ex:Bool) (hn:es.length < 2 ^ 63) (hw:∀ (i:Nat) (e:List AV),es[i]?=some e→e.length=ts.length)
  (h:∀ (i:Nat) (e:List AV) (j:Nat) (ct:CT) (x:AV),es[i]?=some e→ts[j]?=some ct→e[j]?=some x→Ty ct x):Ty (.slice ts) (.ro ts.length es ex)
theorem Ty.isC {ct:CT} {a:AV} (h:Ty ct a):Pw.isC a=true:=by cases h <;> rfl
def fieldsT (F:TypeId→Option (List CT)) (P:Program):List Field→Nat→Option (List CT)
 | [],_=>some []
 | f::r,off=>(F f.type).bind fun ts=>if f.offset=off∧ts.length=P.cellsOf f.type then (fieldsT F P r (off+ts.length)).map (ts++·) else none
def flatT (P:Program):Nat→TypeId→Option (List CT)
 | 0,_=>none
 | n+1,t=>match P.underlying t with
  | some .bool=>some [.bool]
  | some (.int k)=>some [.int k]
  | some .string=>some [.str]
  | some (.slice e)=>(flatT P n e).bind fun ts=>if ts.length=P.cellsOf e∧0 < ts.length then some [.slice ts] else none
  | some (.struct fs)=>(fieldsT (flatT P n) P fs.toList 0).bind fun ts=>if ts.length=P.cellsOf t then some ts else none
  | some (.array m e)=>(flatT P n e).bind fun ts=>if ts.length=P.cellsOf e∧m * ts.length=P.cellsOf t then some (List.replicate m ts).flatten else none
  | _=>none
theorem flatten_rep {α:Type} (ts:List α):∀ (m j:Nat),j < m * ts.length→(List.replicate m ts).flatten[j]?=ts[j % ts.length]?
 | 0,j,h=>by simp at h
 | m+1,j,h=>by
  rw [List.replicate_succ,List.flatten_cons]
  rcases Nat.lt_or_ge j ts.length with hl | hl
  · rw [List.getElem?_append_left hl,Nat.mod_eq_of_lt hl]
  · rw [List.getElem?_append_right hl,flatten_rep ts m (j - ts.length) (by rw [Nat.add_mul] at h;omega),Nat.mod_eq_sub_mod hl]
theorem trod_array {H:Type} {enc:TypeId × Value→H} {P:Program} {w:World} {base:Nat} {spare:Nat→Bool} {held:Bool} {fuel:Nat} {t:TypeId} {cs:List Value} {x:DataW H × List MemPlace} {m:Nat} {e:TypeId}
 (ht:P.underlying t=some (.array m e)) (h:DataW.trod enc P w base spare held fuel t cs=some x) :
 ∃ (xs:List (DataW H × List MemPlace)) (n:Nat),fuel=n+1∧cs.length=P.cellsOf t∧xs.length=m ∧
  ∀ i,i < m→DataW.trod enc P w base spare held n e ((cs.drop (i * P.cellsOf e)).take (P.cellsOf e))=xs[i]?:=by
 cases fuel with
 | zero=>simp [DataW.trod] at h
 | succ n =>
  unfold DataW.trod at h
  rw [ht] at h
  split at h <;> simp_all
  obtain ⟨hl,xs,hp,hd⟩:=h
  exact ⟨xs,by simpa using mapM_some_length hp,fun i hi=>mapM_some_get hp i i (List.getElem?_range hi)⟩
def CellOk (ψ:Nat→FuncId) (W:World) (ct:CT) (v:Value):Prop :=
 ∃ a a',Ty ct a∧VD id (fun _=>False) a a'∧a'.cell=true∧VR ψ W (fun c=>c < W.heap.size) (fun _=>(0,0)) (fun _=>False) a' v
section
variable {H:Type} {enc:TypeId × Value→H} {P:Program} {W:World} {ψ:Nat→FuncId}
theorem fields_open {F:TypeId→Option (List CT)} {n:Nat} {cs:List Value}
 (hF:∀ t cs x ts,F t=some ts→DataW.trod enc P W 0 (fun _=>true) true n t cs=some x→cs.length=ts.length∧∀ (j:Nat) (ct:CT),ts[j]?=some ct→∃ v,cs[j]?=some v∧CellOk ψ W ct v) :
 ∀ (fs:List Field) (off:Nat) (ts:List CT),fieldsT F P fs off=some ts→(∀ f ∈ fs,∃ x,DataW.trod enc P W 0 (fun _=>true) true n f.type ((cs.drop f.offset).take (P.cellsOf f.type))=some x) →
  ∀ (j:Nat) (ct:CT),ts[j]?=some ct→∃ v,cs[off+j]?=some v∧CellOk ψ W ct v:=by
 intro fs
 induction fs with
 | nil=>intro off ts h _ j ct hj;simp only [fieldsT,Option.some.injEq] at h;subst h;simp at hj
 | cons f r ih =>
  intro off ts h hx j ct hj
  simp only [fieldsT,Option.bind_eq_some_iff] at h
  obtain ⟨t1,h1,h⟩:=h
  split at h
  · rename_i hc
    simp only [Option.map_eq_some_iff] at h
    obtain ⟨t2,h2,rfl⟩:=h
    rcases Nat.lt_or_ge j t1.length with hl | hl
    · rw [List.getElem?_append_left hl] at hj
      obtain ⟨x,q⟩:=hx f (by simp)
      obtain ⟨v,q1,q2⟩:=(hF _ _ _ _ h1 q).2 j ct hj
      refine ⟨v,?_,q2⟩
      rw [List.getElem?_take] at q1
      split at q1
      · rw [List.getElem?_drop] at q1;rw [← hc.1];exact q1
      · cases q1
    · rw [List.getElem?_append_right hl] at hj
      obtain ⟨v,q1,q2⟩:=ih _ _ h2 (fun f hf=>hx f (by simp [hf])) _ ct hj
      exact ⟨v,by rw [← q1];congr 1;omega,q2⟩
  · cases h
theorem cells_open:∀ (n k:Nat) (t:TypeId) (cs:List Value) (x:DataW H × List MemPlace) (ts:List CT),flatT P k t=some ts→DataW.trod enc P W 0 (fun _=>true) true n t cs=some x →
 cs.length=ts.length∧∀ (j:Nat) (ct:CT),ts[j]?=some ct→∃ v,cs[j]?=some v∧CellOk ψ W ct v:=by
 intro n
 induction n with
 | zero=>intro k t cs x ts _ h;simp [DataW.trod] at h
 | succ n ih =>
  intro k t cs x ts hf h
  cases k with
  | zero=>simp [flatT] at hf
  | succ k =>
   have one:∀ {v:Value} {ct:CT},cs=[v]→ts=[ct]→CellOk ψ W ct v→cs.length=ts.length∧∀ (j:Nat) (ct:CT),ts[j]?=some ct→∃ v,cs[j]?=some v∧CellOk ψ W ct v:=by
    intro v ct h1 h2 h3
    subst h1;subst h2
    refine ⟨rfl,fun j ct' hj=>?_⟩
    cases j with
    | zero=>simp only [List.getElem?_cons_zero,Option.some.injEq] at hj;subst hj;exact ⟨v,rfl,h3⟩
    | succ j=>simp at hj
   unfold flatT at hf
   split at hf
   · rename_i ht
     cases hf
     obtain ⟨b,e,_⟩:=DataW.trod_bool ht h
     exact one e rfl ⟨_,_,.bool b,.bool b,rfl,.bool b⟩
   · rename_i k' ht
     cases hf
     obtain ⟨m,e,_,hw⟩:=DataW.trod_int ht h
     simp only [Lit.wf,Bool.and_eq_true,decide_eq_true_eq] at hw
     exact one e rfl ⟨_,_,.int k' m hw.1 hw.2,.int k' m,rfl,.int k' m⟩
   · rename_i ht
     cases hf
     obtain ⟨s,e,_,hw⟩:=DataW.trod_string ht h
     refine one e rfl ⟨.str s.data.toList,_,.str _ ?_,.str _,rfl,?_⟩
     · simp only [maxLen] at hw
       have:s.data.toList.length=s.size:=rfl
       omega
     · have:=VR.str (ψ:=ψ) (w:=W) (S:=fun c=>c < W.heap.size) (m:=fun _=>(0,0)) (A:=fun _=>False) s.data.toList
       exact this
   · rename_i el ht
     simp only [Option.bind_eq_some_iff] at hf
     obtain ⟨us,hu,hf⟩:=hf
     split at hf
     · rename_i hz
       obtain ⟨hz,hz0⟩:=hz
       cases hf
       rcases DataW.trod_slice ht h with ⟨e,_⟩ | ⟨a,len,cap,elems,rest,n',hn,e,_,_,hl,hm,hlen,hel,hsp,_⟩
       · exact one e rfl ⟨.ro us.length [] true,.nils,.slice us [] true (by simp) (by simp) (by simp),.ronil _ _,rfl,.nils⟩
       · cases hn
         refine one e rfl ?_
         have row:∀ i,i < cap→∃ vs y,W.cells? 0 (a.add (i * us.length)) us.length=some vs∧DataW.trod enc P W 0 (fun _=>true) true n el vs=some y:=by
          intro i hi
          rcases Nat.lt_or_ge i len with hil | hil
          · have:=hel i hil
            rw [List.getElem?_eq_getElem (by omega),Option.bind_eq_some_iff,← hz] at this
            obtain ⟨vs,q1,q2⟩:=this
            exact ⟨vs,_,q1,q2⟩
          · obtain ⟨q0,q⟩:=hsp rfl
            have:=q (i - len) (by omega)
            rw [List.getElem?_eq_getElem (by omega),Option.bind_eq_some_iff,← hz,show len+(i - len)=i by omega] at this
            obtain ⟨vs,q1,q2⟩:=this
            exact ⟨vs,_,q1,q2⟩
         rcases Nat.eq_zero_or_pos cap with hc0 | hc0
         · subst hc0
           obtain rfl:len=0:=by omega
           exact ⟨.ro us.length [] true,.ro us.length [] true,.slice us [] true (by simp) (by simp) (by simp),.ro _ [] [] true true (by simp) rfl id (by simp) (by simp),rfl,.roe _ _ _ 0 (fun _=>rfl)⟩
         · obtain ⟨b,off,spot⟩:=a
           have hfirst:∃ v,W.cell? ⟨b,off,spot⟩=some v:=by
            obtain ⟨vs,_,q1,_⟩:=row 0 hc0
            obtain ⟨_,q2,q3⟩:=World.cells?_some q1
            have:=q3 0 hz0
            rw [List.getElem?_eq_getElem (by omega)] at this
            exact ⟨_,by simpa [Addr.add] using this⟩
           obtain ⟨v0,hv0⟩:=hfirst
           obtain rfl:spot=none:=World.cell?_spot hv0
           have hS:b < W.heap.size:=by
            unfold World.cell? at hv0
            split at hv0
            · rename_i hb;exact (Array.getElem?_eq_some_iff.1 hb).1
            · cases hv0
           have key:∀ p:Nat × Nat,∃ q:Value × AV × AV,p.1 < len→∀ ct,us[p.2]?=some ct→W.cell? ⟨b,off+p.1 * us.length+p.2,none⟩=some q.1∧Ty ct q.2.1∧VD id (fun _=>False) q.2.1 q.2.2∧q.2.2.cell=true ∧
            VR ψ W (fun c=>c < W.heap.size) (fun _=>(0,0)) (fun _=>False) q.2.2 q.1:=by
            intro ⟨i,j⟩
            by_cases hi:i < len
            · cases hj:us[j]? with
              | none=>exact ⟨default,fun _ ct q=>by cases q⟩
              | some ct =>
               obtain ⟨vs,y,q1,q2⟩:=row i (by omega)
               obtain ⟨v,q3,c1,c2,q4,q5,q6,q7⟩:=(ih _ _ _ _ _ hu q2).2 j ct hj
               refine ⟨(v,c1,c2),fun _ ct' q=>?_⟩
               cases q
               refine ⟨?_,q4,q5,q6,q7⟩
               obtain ⟨_,r1,r2⟩:=World.cells?_some q1
               have hjl:j < us.length:=(List.getElem?_eq_some_iff.1 hj).1
               have:=r2 j hjl
               rw [q3] at this
               rw [← this]
               congr 1
               simp only [Addr.add]
               split <;> split <;> simp_all <;> omega
            · exact ⟨default,fun q=>absurd q hi⟩
           obtain ⟨F,hF⟩:=Classical.axiomOfChoice key
           let es:List (List AV):=(List.range len).map fun i=>(List.range us.length).map fun j=>(F (i,j)).2.1
           let es':List (List AV):=(List.range len).map fun i=>(List.range us.length).map fun j=>(F (i,j)).2.2
           have g1:∀ (i:Nat) (e:List AV),es[i]?=some e→i < len∧e=(List.range us.length).map fun j=>(F (i,j)).2.1:=by
            intro i e he
            simp only [es,List.getElem?_map,Option.map_eq_some_iff] at he
            obtain ⟨i',q1,q2⟩:=he
            have:=List.getElem?_eq_some_iff.1 q1
            obtain ⟨q3,q4⟩:=this
            simp at q3 q4
            subst q4
            exact ⟨q3,q2.symm⟩
           have g1':∀ (i:Nat) (e:List AV),es'[i]?=some e→i < len∧e=(List.range us.length).map fun j=>(F (i,j)).2.2:=by
            intro i e he
            simp only [es',List.getElem?_map,Option.map_eq_some_iff] at he
            obtain ⟨i',q1,q2⟩:=he
            have:=List.getElem?_eq_some_iff.1 q1
            obtain ⟨q3,q4⟩:=this
            simp at q3 q4
            subst q4
            exact ⟨q3,q2.symm⟩
           have g2:∀ (G:Nat→AV) (j:Nat) (x:AV),((List.range us.length).map G)[j]?=some x→∃ ct,us[j]?=some ct∧x=G j:=by
            intro G j x hx
            simp only [List.getElem?_map,Option.map_eq_some_iff] at hx
            obtain ⟨j',q1,q2⟩:=hx
            obtain ⟨q3,q4⟩:=List.getElem?_eq_some_iff.1 q1
            simp at q3 q4
            subst q4
            exact ⟨us[j],List.getElem?_eq_getElem q3,q2.symm⟩
           have l1:es.length=len:=by simp [es]
           have l2:es'.length=len:=by simp [es']
           refine ⟨.ro us.length es (decide (cap=len)),.ro us.length es' (decide (cap=len)),.slice us es _ ?_ ?_ ?_,.ro _ es es' _ _ ?_ (by rw [l1,l2]) id ?_ ?_,rfl,?_⟩
           · rw [l1];simp only [maxLen] at hm;omega
           · intro i e he;rw [(g1 i e he).2];simp
           · intro i e j ct y he hct hy
             obtain ⟨q1,rfl⟩:=g1 i e he
             obtain ⟨ct',q2,rfl⟩:=g2 _ j y hy
             rw [hct] at q2
             cases q2
             exact (hF (i,j) q1 ct hct).2.1
           · intro e he y hy
             obtain ⟨i,he⟩:=List.getElem?_of_mem he
             obtain ⟨j,hy⟩:=List.getElem?_of_mem hy
             obtain ⟨q1,rfl⟩:=g1 i e he
             obtain ⟨ct',q2,rfl⟩:=g2 _ j y hy
             exact (hF (i,j) q1 ct' q2).2.1.isC
           · intro i e e' he he'
             rw [(g1 i e he).2,(g1' i e' he').2];simp
           · intro i e e' j y y' he he' hy hy'
             obtain ⟨q1,rfl⟩:=g1 i e he
             obtain ⟨_,rfl⟩:=g1' i e' he'
             obtain ⟨ct',q2,rfl⟩:=g2 _ j y hy
             obtain ⟨_,_,rfl⟩:=g2 _ j y' hy'
             exact (hF (i,j) q1 ct' q2).2.2.1
           · have:=VR.ro (ψ:=ψ) (w:=W) (S:=fun c=>c < W.heap.size) (m:=fun _=>(0,0)) (A:=fun _=>False) us.length es' (decide (cap=len)) b off cap (fun i j=>(F (i,j)).1) hS
              (fun i e he=>by rw [(g1' i e he).2];simp) (by rw [l2];exact hl) (fun q=>by rw [l2];simpa using q)
              (fun i e j y he hy=>by
               obtain ⟨q1,rfl⟩:=g1' i e he
               obtain ⟨ct',q2,rfl⟩:=g2 _ j y hy
               have:=hF (i,j) q1 ct' q2
               exact ⟨this.2.2.2.1,this.1⟩)
              (fun i e j y he hy=>by
               obtain ⟨q1,rfl⟩:=g1' i e he
               obtain ⟨ct',q2,rfl⟩:=g2 _ j y hy
               exact (hF (i,j) q1 ct' q2).2.2.2.2)
             rw [l2] at this
             exact this
     · cases hf
   · rename_i fs ht
     simp only [Option.bind_eq_some_iff] at hf
     obtain ⟨us,hu,hf⟩:=hf
     split at hf
     · rename_i hz
       cases hf
       obtain ⟨xs,n',hn,_,hcl,hxl,hx⟩:=DataW.trod_struct ht h
       cases hn
       refine ⟨by rw [hcl,hz],fun j ct hj=>?_⟩
       have:=fields_open (cs:=cs) (F:=flatT P k) (n:=n) (fun t cs x ts h1 h2=>ih k t cs x ts h1 h2) fs.toList 0 _ hu (fun f hf=>by
        obtain ⟨i,hi⟩:=List.getElem?_of_mem hf
        have hi':fs[i]?=some f:=by simpa using hi
        have hlt:i < fs.size:=(Array.getElem?_eq_some_iff.1 hi').1
        have:=hx i f hi'
        rw [List.getElem?_eq_getElem (by omega)] at this
        exact ⟨_,this⟩) j ct hj
       simpa using this
     · cases hf
   · rename_i m' e ht
     simp only [Option.bind_eq_some_iff] at hf
     obtain ⟨us,hu,hf⟩:=hf
     split at hf
     · rename_i hz
       obtain ⟨hz1,hz2⟩:=hz
       cases hf
       obtain ⟨xs,n',hn,hcl,hxl,hx⟩:=trod_array ht h
       cases hn
       have hlen:(List.replicate m' us).flatten.length=m' * us.length:=by simp
       refine ⟨by rw [hcl,hlen,hz2],fun j ct hj=>?_⟩
       have hjl:j < m' * us.length:=by rw [← hlen];exact (List.getElem?_eq_some_iff.1 hj).1
       have hk:0 < us.length:=by
        rcases Nat.eq_zero_or_pos us.length with q | q
        · rw [q,Nat.mul_zero] at hjl;omega
        · exact q
       rw [flatten_rep us m' j hjl] at hj
       have hq:j / us.length < m':=Nat.div_lt_of_lt_mul (by rw [Nat.mul_comm];exact hjl)
       have hxq:=hx (j / us.length) hq
       rw [List.getElem?_eq_getElem (by omega)] at hxq
       obtain ⟨v,q1,q2⟩:=(ih k e _ _ us hu hxq).2 (j % us.length) ct hj
       refine ⟨v,?_,q2⟩
       rw [List.getElem?_take] at q1
       split at q1
       · rw [List.getElem?_drop,← hz1] at q1
         rw [← q1];congr 1
         exact (Nat.div_add_mod' j us.length).symm
       · cases q1
     · cases hf
   · cases hf
inductive AT where
 | c (ct:CT)
 | g (ts:List CT)
def AT.has:AT→AV→Prop
 | .c ct,a=>Ty ct a
 | .g ts,a=>∃ es,a=.agg es∧es.length=ts.length∧∀ (j:Nat) (ct:CT) (x:AV),ts[j]?=some ct→es[j]?=some x→Ty ct x
def argT (P:Program) (t:TypeId):Option AT :=
 match P.underlying t with
 | some (.struct _)=>(flatT P 20 t).map .g
 | some (.array _ _)=>(flatT P 20 t).map .g
 | some .bool | some (.int _) | some .string | some (.slice _)=>match flatT P 20 t with | some [ct]=>some (.c ct) | _=>none
 | _=>none
theorem cells_plain {t:TypeId} {base:Nat} {v:Value} (hu:P.underlying t=some .bool∨(∃ k,P.underlying t=some (.int k))∨P.underlying t=some .string∨∃ e,P.underlying t=some (.slice e)) (h:Value.okWide P W .any base t v) :
 v.cells=#[v]:=by
 cases v <;> try rfl
 rcases hu with hu | ⟨k,hu⟩ | hu | ⟨e,hu⟩ <;> simp [Value.okWide,hu,Cell.okWide,Cell.ok] at h
theorem arg_open {t:TypeId} {at_:AT} (ha:argT P t=some at_) {base:Nat} {v:Value} (hv:Value.okWide P W .any base t v) {d:DataW H} {p:List MemPlace} (h:DataW.Trod enc P W 0 (fun _=>true) true t v d p) :
 ∃ a a',at_.has a∧VD id (fun _=>False) a a'∧VR ψ W (fun c=>c < W.heap.size) (fun _=>(0,0)) (fun _=>False) a' v:=by
 obtain ⟨fuel,h⟩:=h
 have plain:(P.underlying t=some .bool∨(∃ k,P.underlying t=some (.int k))∨P.underlying t=some .string∨∃ e,P.underlying t=some (.slice e)) →
  (match flatT P 20 t with | some [ct]=>some (AT.c ct) | _=>none)=some at_→∃ a a',at_.has a∧VD id (fun _=>False) a a'∧VR ψ W (fun c=>c < W.heap.size) (fun _=>(0,0)) (fun _=>False) a' v:=by
  intro hu he
  split at he
  · rename_i ct hf
    cases he
    rw [cells_plain hu hv] at h
    obtain ⟨_,q⟩:=cells_open (ψ:=ψ) _ _ _ _ _ _ hf h
    obtain ⟨v',q1,a,a',q2,q3,_,q4⟩:=q 0 ct rfl
    simp only [List.getElem?_cons_zero,Option.some.injEq] at q1
    subst q1
    exact ⟨a,a',q2,q3,q4⟩
  · cases he
 have whole:(∃ cs,v=.agg cs)→(flatT P 20 t).map AT.g=some at_→∃ a a',at_.has a∧VD id (fun _=>False) a a'∧VR ψ W (fun c=>c < W.heap.size) (fun _=>(0,0)) (fun _=>False) a' v:=by
  rintro ⟨cs,rfl⟩ ha
  simp only [Option.map_eq_some_iff] at ha
  obtain ⟨ts,hf,rfl⟩:=ha
  obtain ⟨hl,q⟩:=cells_open (ψ:=ψ) _ _ _ _ _ _ hf h
  simp only [Value.cells] at hl q
  have key:∀ j:Nat,∃ x:AV × AV,∀ ct,ts[j]?=some ct→Ty ct x.1∧VD id (fun _=>False) x.1 x.2∧x.2.cell=true∧∃ v,cs.toList[j]?=some v∧VR ψ W (fun c=>c < W.heap.size) (fun _=>(0,0)) (fun _=>False) x.2 v:=by
   intro j
   cases hj:ts[j]? with
   | none=>exact ⟨default,fun _ q=>by cases q⟩
   | some ct =>
    obtain ⟨v,q1,a,a',q2,q3,q4,q5⟩:=q j ct hj
    exact ⟨(a,a'),fun ct' e=>by cases e;exact ⟨q2,q3,q4,v,q1,q5⟩⟩
  obtain ⟨F,hF⟩:=Classical.axiomOfChoice key
  have g2:∀ (G:Nat→AV) (j:Nat) (x:AV),((List.range ts.length).map G)[j]?=some x→∃ ct,ts[j]?=some ct∧x=G j:=by
   intro G j x hx
   simp only [List.getElem?_map,Option.map_eq_some_iff] at hx
   obtain ⟨j',q1,q2⟩:=hx
   obtain ⟨q3,q4⟩:=List.getElem?_eq_some_iff.1 q1
   simp at q3 q4
   subst q4
   exact ⟨ts[j],List.getElem?_eq_getElem q3,q2.symm⟩
  refine ⟨.agg ((List.range ts.length).map fun j=>(F j).1),.agg ((List.range ts.length).map fun j=>(F j).2),⟨_,rfl,by simp,?_⟩,.agg _ _ (by simp) ?_,.agg _ _ ?_ ?_ ?_⟩
  · intro j ct x hct hx
    obtain ⟨ct',q1,rfl⟩:=g2 _ j x hx
    exact (hF j ct hct).1
  · intro j x x' hx hx'
    obtain ⟨ct,q1,rfl⟩:=g2 _ j x hx
    obtain ⟨_,_,rfl⟩:=g2 _ j x' hx'
    exact (hF j ct q1).2.1
  · simp only [List.length_map,List.length_range]
    rw [← hl];simp
  · intro j x hx
    obtain ⟨ct,q1,rfl⟩:=g2 _ j x hx
    exact (hF j ct q1).2.2.1
  · intro j x hx
    obtain ⟨ct,q1,rfl⟩:=g2 _ j x hx
    obtain ⟨v,q2,q3⟩:=(hF j ct q1).2.2.2
    have e:cs[j]?=some v:=by simpa using q2
    rw [Array.getD_eq_getD_getElem?,e]
    exact q3
 unfold argT at ha
 split at ha
 · rename_i fs ht
   simp only [Value.okWide,ht] at hv
   obtain ⟨cs,hv,_,_⟩:=hv
   exact whole ⟨cs,hv⟩ ha
 · rename_i m e ht
   simp only [Value.okWide,ht] at hv
   obtain ⟨cs,hv,_,_⟩:=hv
   exact whole ⟨cs,hv⟩ ha
 · rename_i ht;exact plain (.inl ht) ha
 · rename_i k ht;exact plain (.inr (.inl ⟨k,ht⟩)) ha
 · rename_i ht;exact plain (.inr (.inr (.inl ht))) ha
 · rename_i e ht;exact plain (.inr (.inr (.inr ⟨e,ht⟩))) ha
 · cases ha
def TyAll:List AT→List AV→Prop
 | [],[]=>True
 | a::r,x::s=>a.has x∧TyAll r s
 | _,_=>False
theorem args_open {base:Nat}:∀ {ts:List TypeId} {ats:List AT} {vs:List Value} {ds:List (DataW H)} {p:List MemPlace},ts.map (argT P)=ats.map some →
 (∀ (j:Nat) (t:TypeId) (v:Value),ts[j]?=some t→vs[j]?=some v→Value.okWide P W .any base t v)→DataW.TrodAll enc P W 0 (fun _=>true) true ts vs ds p →
 ∃ us us',TyAll ats us∧Rel2 (VD id fun _=>False) us us'∧us'.length=vs.length∧∀ (j:Nat) (x:AV) (v:Value),us'[j]?=some x→vs[j]?=some v→VR ψ W (fun c=>c < W.heap.size) (fun _=>(0,0)) (fun _=>False) x v
 | [],[],vs,ds,p,_,_,h=>by
  obtain ⟨rfl,_,_⟩:=ChangeShapes.trodAll_nil h
  exact ⟨[],[],trivial,⟨rfl,by simp⟩,rfl,by simp⟩
 | t::ts,at_::ats,_,_,_,hm,hv,h=>by
  obtain ⟨v,vs1,d,ds1,p1,q1,rfl,rfl,rfl,h1,h2⟩:=ChangeShapes.trodAll_cons h
  simp only [List.map_cons,List.cons.injEq] at hm
  obtain ⟨a,a',r1,r2,r3⟩:=arg_open (ψ:=ψ) hm.1 (hv 0 t v rfl rfl) h1
  obtain ⟨us,us',s1,s2,s3,s4⟩:=args_open hm.2 (fun j t v e1 e2=>hv (j+1) t v e1 e2) h2
  refine ⟨a::us,a'::us',⟨r1,s1⟩,⟨by simp [s2.1],fun j x x' e1 e2=>?_⟩,by simp [s3],fun j x v' e1 e2=>?_⟩
  · cases j with
    | zero=>cases e1;cases e2;exact r2
    | succ j=>exact s2.2 j x x' e1 e2
  · cases j with
    | zero=>cases e1;cases e2;exact r3
    | succ j=>exact s4 j x v' e1 e2
 | [],_::_,_,_,_,hm,_,_=>by simp at hm
 | _::_,[],_,_,_,hm,_,_=>by simp at hm
theorem law_calls {Φ:Nat→FuncId→Option Nat} {D:WProg} (hL:Linked P Φ ψ (erProg D)) (hok:okTree D.fns=true) {f:Nat} {ts:List TypeId} {ats:List AT} (hts:ts.map (argT P)=ats.map some)
 (core:∀ us,TyAll ats us→FnW D f us=some (.bool true)) {base:Nat} {args:Array Value} {ds:List (DataW H)} {p:List MemPlace}
 (hv:∀ (j:Nat) (t:TypeId) (v:Value),ts[j]?=some t→args[j]?=some v→Value.okWide P W .any base t v) (hA:DataW.TrodAll enc P W 0 (fun _=>true) true ts args.toList ds p) :
 Calls P (ψ f) args W fun e W'=>e=.returned (.bool true)∧(∀ c,c < W.heap.size→W'.heap[c]?=W.heap[c]?)∧W.heap.size≤W'.heap.size∧W'.os=W.os∧W'.output=W.output:=by
 obtain ⟨us,us',h1,h2,h3,h4⟩:=args_open (ψ:=ψ) hts (fun j t v e1 e2=>hv j t v e1 (by simpa using e2)) hA
 obtain ⟨n,hc⟩:=fnW_call.1 (core us h1)
 obtain ⟨v',hc',hvd⟩:=callW_ok hok h2 hc
 rw [hvd.bool_inv] at hc'
 refine (callF_ok hL hc' (w:=W) (S:=fun c=>c < W.heap.size) (m:=fun _=>(0,0)) (cargs:=args) (fun _ h=>h) (by rw [h3];simp) fun j x hx=>?_).mono ?_
 · have hj:j < args.size:=by have:=(List.getElem?_eq_some_iff.1 hx).1;rw [h3] at this;simpa using this
   rw [Array.getD_eq_getD_getElem?,Array.getElem?_eq_getElem hj]
   exact h4 j x _ hx (by simp [hj])
 · rintro e W' ⟨cv,S',m',rfl,hr,q1,q2,q3,q4⟩
   rw [hr.inv_bool]
   exact ⟨rfl,q1,q2,q3,q4⟩
theorem trodAll_old {W':World} (hh:∀ c,c < W.heap.size→W'.heap[c]?=W.heap[c]?) {base:Nat} {sp:Nat→Bool} {held:Bool}:∀ {ts:List TypeId} {vs:List Value} {ds:List (DataW H)} {ps:List MemPlace},
 DataW.TrodAll enc P W base sp held ts vs ds ps→(∀ p ∈ ps,p.block < W.heap.size)→DataW.TrodAll enc P W' base sp held ts vs ds ps
 | [],[],[],_,h,_=>h
 | _::_,_::_,_::_,_,⟨p,q,⟨n,h1⟩,h2,e⟩,hs=>⟨p,q,⟨n,DataW.trod_carry n _ _ _ h1 fun x hx=>by
  have hlt:=hs x (by rw [e];exact List.mem_append_left _ hx)
  cases x with
  | cell b off=>simp only [World.sameAt,World.cell?];rw [hh b hlt]
  | map b=>exact hh b hlt⟩,trodAll_old hh h2 (fun x hx=>hs x (by rw [e];exact List.mem_append_right _ hx)),e⟩
theorem keptBut_old {W':World} (hh:∀ c,c < W.heap.size→W'.heap[c]?=W.heap[c]?) (ho:W'.os=W.os) (hp:W'.output=W.output) (may:MemPlace→Prop):W.keptBut W' may:=by
 have h:=World.keptBut_refl W may
 refine ⟨ho,hp,fun i hi=>?_⟩
 have:=h.2.2 i hi
 rw [hh i hi]
 exact this
theorem law_post {f:Func} {s:ChangeSpec} {fresh handsOn again:Bool} {W':World} {args:Array Value} {ds gs:List (DataW H)} {before:List MemPlace} {tb:TypeId}
 (kids:Kids P (· < P.types.size)) (full:∀ t e,t < P.types.size→P.underlying t=some (.slice e)→0 < P.cellsOf e)
 (hvars0:s.vars=[]) (hW:DataW.Whole enc P f.params.toList s.vars false W args.toList ds gs before) (hfn:s.fn H (ds++gs)={ results:=[.lit (.bool true)],args:=ds })
 (hps:∀ t ∈ f.params.toList,t < P.types.size) (hr:f.resultTypes=#[tb]) (htb:P.underlying tb=some .bool)
 (hh:∀ c,c < W.heap.size→W'.heap[c]?=W.heap[c]?) (_hsz:W.heap.size≤W'.heap.size) (ho:W'.os=W.os) (hp:W'.output=W.output) :
 s.post enc P f false fresh handsOn again W args (.bool true) W':=by
 have hlt:∀ p ∈ before,p.block < W.heap.size:=hW.lt
 have hW':=hW
 obtain ⟨p,q,hA,hV,rfl,hz,_⟩:=hW
 rw [hvars0] at hV
 obtain ⟨rfl,rfl⟩:=ChangeShapes.trodVars_none hV
 simp only [List.append_nil] at hlt hz hW' hfn
 have hargs:∀ sp:Nat→Bool,(∀ x ∈ p,sp x.block=true)→DataW.TrodAll enc P W' 0 sp true f.params.toList args.toList ds p:=fun sp hsp =>
  trodAll_old hh (DataW.TrodAll.respare kids full hps hA hsp) hlt
 have hvars:∀ sp:Nat→Bool,DataW.TrodVars enc P W' sp s.vars [] []:=fun sp=>by rw [hvars0];rfl
 have hres:∀ (b:Nat) (sp:Nat→Bool) (hd:Bool),DataW.TrodAll enc P W' b sp hd f.resultTypes.toList ((Value.bool true).resultList f.resultTypes.size) [.lit (.bool true)] []:=fun b sp hd=>by
  rw [hr];exact ChangeShapes.trodAll_mk1 (RowKit.shut_bool htb true)
 have hok:∀ (j:Nat) (t:TypeId) (r:Value),f.resultTypes[j]?=some t→((Value.bool true).resultList f.resultTypes.size)[j]?=some r→Value.okWide P W' .any 0 t r :=
  RowKit.ok_one hr rfl (by simp [Value.okWide,htb,Cell.okWide,Cell.ok])
 have hold:∀ x ∈ p,(fun b=>decide (b < W.heap.size)) x.block=true:=fun x hx=>by simpa using hlt x hx
 refine ⟨ds,[],p,[],p,[],hW',?_,?_,?_,keptBut_old hh ho hp _,fun _=>⟨hok,[.lit (.bool true)]++ds,[],([]++p)++[],⟨[]++p,[],?_,hvars _,rfl,?_,fun h=>by cases h⟩,?_⟩⟩
 · rw [List.append_nil,hfn];exact hres _ _ _
 · rw [List.append_nil,hfn];exact hargs _ hold
 · rw [List.append_nil,hfn];exact hvars _
 · exact ChangeShapes.trodAll_append (hargs _ fun _ _=>rfl) (hres _ _ _)
 · intro b off hb
   simp only [List.nil_append,List.append_nil] at hb
   have:=hz b off hb
   unfold World.frozen? at this ⊢
   rw [hh b (hlt _ hb)]
   exact this
 · intro x hx _
   simpa using hx
theorem trodAll_len {base:Nat} {sp:Nat→Bool} {held:Bool}:∀ {ts:List TypeId} {vs:List Value} {ds:List (DataW H)} {ps:List MemPlace},DataW.TrodAll enc P W base sp held ts vs ds ps→ds.length=ts.length
 | [],[],[],_,_=>rfl
 | _::_,_::_,_::_,_,⟨_,_,_,h2,_⟩=>by simp [trodAll_len h2]
def isTrue:Option AV→Bool
 | some (.bool true)=>true
 | _=>false
theorem isTrue_eq {o:Option AV} (h:isTrue o=true):o=some (.bool true):=by
 unfold isTrue at h
 split at h
 · rfl
 · cases h
end
end Go.Pw
end
section
namespace Go.Pw
open Go Go.Pav
theorem ty_map2 {α:Type} {g:α→List AV} {Q:List AV→Prop} {R:α→Prop} (h:∀ a,Q a→∃ x,a=g x∧R x):∀ (xs:List (List AV)),(∀ x ∈ xs,Q x)→∃ ys:List α,xs=ys.map g∧∀ y ∈ ys,R y:=by
 intro xs
 induction xs with
 | nil=>intro _;exact ⟨[],rfl,by simp⟩
 | cons a r ih =>
  intro hx
  obtain ⟨y,rfl,hy⟩:=h a (hx a (by simp))
  obtain ⟨ys,rfl,hys⟩:=ih fun x q=>hx x (by simp [q])
  exact ⟨y::ys,rfl,by simpa using ⟨hy,hys⟩⟩
theorem ty_slice {ts:List CT} {a:AV} (h:Ty (.slice ts) a):∃ (es:List (List AV)) (e:Bool),a=.ro ts.length es e∧es.length < 2 ^ 63∧∀ x ∈ es,x.length=ts.length∧∀ (j:Nat) (ct:CT) (v:AV),ts[j]?=some ct→x[j]?=some v→Ty ct v:=by
 cases h with
 | slice ts es ex hn hw h =>
  refine ⟨es,ex,rfl,hn,fun x hx=>?_⟩
  obtain ⟨i,hi⟩:=List.getElem?_of_mem hx
  exact ⟨hw i x hi,fun j ct v e1 e2=>h i x j ct v hi e1 e2⟩
theorem ty_u8 {v:AV} (h:Ty (.int .u8) v):∃ n:Int,v=.int .u8 n∧0≤n∧n≤255:=by
 cases h with
 | int k n h1 h2=>exact ⟨n,rfl,h1,h2⟩
theorem ty_u64 {v:AV} (h:Ty (.int .u64) v):∃ n:Int,v=.int .u64 n∧0≤n∧n≤18446744073709551615:=by
 cases h with
 | int k n h1 h2=>exact ⟨n,rfl,h1,h2⟩
theorem ty_i64 {v:AV} (h:Ty (.int .i64) v):∃ n:Int,v=.int .i64 n∧-9223372036854775808≤n∧n≤9223372036854775807:=by
 cases h with
 | int k n h1 h2=>exact ⟨n,rfl,h1,h2⟩
theorem ty_str {v:AV} (h:Ty .str v):∃ s:List UInt8,v=.str s∧s.length < 9223372036854775808:=by
 cases h with
 | str s h=>exact ⟨s,rfl,h⟩
end Go.Pw
end
section
namespace Go.Proofs.YtpdccepmgkpkjaaGreat
open Go.ChangeShapes Go.WideShapes Go.ChangeAt Go.RowKit Go.Pav Go.Pw P
theorem own_:ownKnob Tryz.prog.godebug=none:=by kernel_rfl
theorem kids_:Kids Tryz.prog (· < Tryz.prog.types.size):=kids_rows (by kernel_rfl) (by kernel_rfl)
theorem full_:∀ t e,t < Tryz.prog.types.size→Tryz.prog.underlying t=some (.slice e)→0 < Tryz.prog.cellsOf e:=slices_full_of Tryz.prog (by kernel_rfl)
theorem has_:Go.D.HasG prog:={ f561:=rfl,f517:=rfl,f557:=rfl,f556:=rfl,f511:=rfl,f510:=rfl,f560:=rfl,f545:=rfl,f578:=rfl,f543:=rfl,f495:=rfl,f516:=rfl,f500:=rfl,inl:=rfl,pp:=rfl,f434:=rfl,f519:=rfl,f518:=rfl,f562:=rfl,f433:=rfl,f282:=rfl,f140:=rfl,f439:=rfl,f581:=rfl,f579:=rfl,f585:=rfl,f549:=rfl,f502:=rfl,f503:=rfl,f548:=rfl,f404:=rfl,f231:=rfl,f594:=rfl,f586:=rfl,f550:=rfl,f505:=rfl,f408:=rfl,f398:=rfl,f424:=rfl,f494:=rfl,f496:=rfl,f497:=rfl,f498:=rfl,f499:=rfl,f544:=rfl,f546:=rfl,f580:=rfl,f512:=rfl,f584:=rfl,f558:=rfl,f559:=rfl,f592:=rfl,f582:=rfl,f583:=rfl,f593:=rfl,f563:=rfl,f520:=rfl,f442:=rfl,f441:=rfl,f547:=rfl,f513:=rfl,f501:=rfl,f425:=rfl,f225:=rfl,f111:=rfl,f227:=rfl,f460:=rfl,f459:=rfl,f340:=rfl,f226:=rfl,f221:=rfl,f400:=rfl,f219:=rfl,f504:=rfl,f407:=rfl,f239:=rfl,f406:=rfl,f240:=rfl,f172:=rfl,f112:=rfl,f423:=rfl,f399:=rfl,f230:=rfl,f405:=rfl,f232:=rfl,f115:=rfl,f236:=rfl,f271:=rfl,f223:=rfl,f235:=rfl,f532:=rfl,f216:=rfl,f243:=rfl,f422:=rfl,f270:=rfl,f126:=rfl,f130:=rfl }
theorem lives_:FnW prog 119 []=some (.bool true):=fnW_call.2 ⟨400,isTrue_eq (by kernel_rfl)⟩
theorem ty_four {a:AV} (h:Ty (.slice [.int .u8,.int .u8,.int .u8,.int .u8]) a):∃ (xs:List Go.D.Q4) (e:Bool),a=.ro 4 (xs.map Go.D.eQ) e∧∀ s ∈ xs,Go.D.QIn s:=by
 obtain ⟨es,e,rfl,_,hx⟩:=ty_slice h
 obtain ⟨xs,rfl,hr⟩:=ty_map2 (g:=Go.D.eQ) (R:=Go.D.QIn) (fun l q=>by
  obtain ⟨q1,q2⟩:=q
  match l,q1 with
  | [u,v,w,x],_ =>
   obtain ⟨n1,rfl,h1⟩:=ty_u8 (q2 0 _ u rfl rfl)
   obtain ⟨n2,rfl,h2⟩:=ty_u8 (q2 1 _ v rfl rfl)
   obtain ⟨n3,rfl,h3⟩:=ty_u8 (q2 2 _ w rfl rfl)
   obtain ⟨n4,rfl,h4⟩:=ty_u8 (q2 3 _ x rfl rfl)
   exact ⟨⟨n1,n2,n3,n4⟩,rfl,h1,h2,h3,h4⟩) es hx
 exact ⟨xs,e,rfl,hr⟩
theorem ty_bytes2 {a:AV} (h:Ty (.slice [.int .u8]) a):∃ (xs:List Int) (e:Bool),a=.ro 1 (xs.map eU8) e∧(∀ x ∈ xs,0≤x∧x≤255)∧xs.length < 9223372036854775808:=by
 obtain ⟨es,e,rfl,hl,hx⟩:=ty_slice h
 obtain ⟨xs,rfl,hr⟩:=ty_map2 (g:=eU8) (R:=fun x:Int=>0≤x∧x≤255) (fun l q=>by
  obtain ⟨q1,q2⟩:=q
  match l,q1 with
  | [v],_ =>
   obtain ⟨n,rfl,h1⟩:=ty_u8 (q2 0 _ v rfl rfl)
   exact ⟨n,rfl,h1⟩) es hx
 exact ⟨xs,e,rfl,hr,by simpa using hl⟩
end Go.Proofs.YtpdccepmgkpkjaaGreat
end
section
namespace Go.D
open Go Go.Pav Go.Pw P
attribute [-simp] List.getElem_cons_drop
variable {C:WProg}
theorem spl_in {α:Type} {Q:α→Prop} {l x:List α} (a c:Nat) (hl:∀ y ∈ l,Q y) (hx:∀ y ∈ x,Q y):∀ y ∈ spl l a c x,Q y:=fun y q=>by
 simp only [spl,List.mem_append] at q
 rcases q with (q | q) | q
 · exact hl y (List.mem_of_mem_take q)
 · exact hx y q
 · exact hl y (List.mem_of_mem_drop q)
theorem EnIn.ow {e:En} (h:EnIn e):EnIn e.own:=⟨⟨h.i.k,h.i.t,h.i.m⟩,h.s⟩
structure HasU2 (C:WProg):Prop extends HasO C where
 f217:C.fns.get 217=some w217
 f401:C.fns.get 401=some w401
 f220:C.fns.get 220=some w220
 f218:C.fns.get 218=some w218
 f108:C.fns.get 108=some w108
theorem ckE_ru {ks:List Kd} {cap:Int} {l:List En} (h:ckE ks cap l=0):ruOk ks cap=true:=by
 unfold ckE at h
 cases c:ruOk ks cap
 · rw [if_pos c] at h;cases h
 · rfl
theorem itOk_2 {n:Int} {x:It} (h:itOk n x=true):itOk2 x=true:=by
 unfold itOk at h;unfold itOk2;simp at h ⊢;exact ⟨⟨h.1.1.1,h.1.2⟩,h.2⟩
theorem rnd14 {ks:List Kd} {cap:Int} (h:ruOk ks cap=true) {x:It} (hx:itOk ks.length x=true) (ht:0≤x.t):rndE (kdAt ks x.t).p x cap=0∨rndE (kdAt ks x.t).p x cap=14:=by
 have h2:=itOk_2 hx
 have h3:=itOk_t hx
 unfold ruOk at h
 simp only [Bool.and_eq_true,decide_eq_true_eq] at h
 unfold rndE
 rw [if_neg (by omega)]
 split
 · exact .inr rfl
 · rw [if_neg (by simp [h2])]
   split
   · exact .inr rfl
   · exact .inl rfl
@[simp] theorem oldRefs_zero:∀ h:WHeap,oldRefs 0 h=[]
 | []=>rfl
 | (b,o)::r=>by rw [oldRefs,if_neg (by omega),oldRefs_zero r]
@[simp] theorem renOld_zero (π:Nat→Option Nat):∀ h:WHeap,renOld 0 π h=some []
 | []=>rfl
 | (b,o)::r=>by rw [renOld,if_neg (by omega),renOld_zero π r]
def DoR (v:AV) (o:Option (AV × WHeap × Nat)):Prop:=∃ h' n',o=some (v,h',n')∧Pav.get h' 0=some (.cells 1 [[.ro 6 [] true]] true true)
def addK (s:List Int) (k:Int):List Int:=if s.contains k=true then s else s++[k]
def seenK (s:List Int):List En→List Int
 | []=>s
 | e::r=>seenK (addK s e.i.k) r
theorem addK_has (s:List Int) (k j:Int):(addK s k).contains j=(s++[k]).contains j:=by
 unfold addK
 split
 · rename_i h
   simp only [List.contains_eq_mem,decide_eq_true_eq] at h
   by_cases c:j=k
   · subst c;simp [h]
   · simp [c]
 · rfl
theorem seenK_has:∀ (l:List En) (s:List Int) (j:Int),(seenK s l).contains j=(s++keysE l).contains j
 | [],s,j=>by rw [seenK];simp [keysE]
 | e::r,s,j=>by
  rw [seenK,seenK_has r]
  have:=addK_has s e.i.k j
  simp only [List.contains_eq_mem,List.mem_append,List.mem_cons,List.not_mem_nil,or_false,decide_eq_decide,keysE,List.map_cons] at this ⊢
  rw [this,or_assoc]
theorem kmap_add (k:Int):∀ s:List Int,mapPut (kmap s) (.int .u64 k) (.bool true)=some (kmap (addK s k)):=by
 intro s
 unfold addK
 cases c:s.contains k
 · rw [if_neg (by simp)];exact kmap_put k s c
 · rw [if_pos rfl]
   induction s with
   | nil=>simp at c
   | cons a r ih =>
    unfold kmap at ih ⊢
    rw [List.map_cons,mapPut]
    simp only [eqCell,if_true,ob]
    by_cases d:k=a
    · subst d;simp
    · have:r.contains k=true:=by simpa [d] using c
      simp [d,ih this,om]
theorem incE_congr (ks:List Kd) (cap:Int):∀ (x:List It) (s t:List Int),(∀ j,s.contains j=t.contains j)→incE ks cap s x=incE ks cap t x
 | [],s,t,_=>rfl
 | x::r,s,t,h=>by
  rw [incE,incE,h,incE_congr ks cap r (s++[x.k]) (t++[x.k]) (fun j=>by
   have:=h j
   simp only [List.contains_eq_mem,List.mem_append,decide_eq_decide] at this ⊢
   rw [this])]
theorem unseen_loop_res (H:HasU2 C) (l:List En) (e:Bool) (hl:l.length≤1000000):∀ n i,n+i=l.length→∀ s:List Int,
 CK C 13 (fnEndW [.tmp 2]) [.sq w217_L0,.bk 0 ⟨true,[3],[]⟩,.sq w217_c0] w217_B0 ⟨[(9,.int .i64 i),(8,.int .i64 l.length),(7,.ro 6 (l.map eEn) e),(3,.ptr 13 0 0)],[(0,.cells 1 [[.ro 6 [] true]] true true),(13,.cells 1 [[.map 14]] true false),(14,.map (kmap s))],15⟩ =
  some (.fn 401 [.ptr 13 0 0],[(0,.cells 1 [[.ro 6 [] true]] true true),(13,.cells 1 [[.map 14]] true false),(14,.map (kmap (seenK s (l.drop i))))],17):=by
 intro n
 induction n with
 | zero =>
  intro i hi s
  have h1:l.drop i=[]:=List.drop_eq_nil_of_le (by omega)
  have h3:¬ i < l.length:=by omega
  rw [ck_unf w217_B0.eq_1]
  simp (disch:=omega) [ck_unf w217_c0.eq_1,h1,h3,seenK]
 | succ n ih =>
  intro i hi s
  have h1:i < l.length:=by omega
  have hp:=kmap_add l[i].i.k s
  have this:=ih (i+1) (by omega) (addK s l[i].i.k)
  rw [drop_cons h1,seenK]
  rw [ck_unf w217_B0.eq_1]
  simp at this
  simp (disch:=omega) [h1,wI64,hp,this]
theorem unseen_res (H:HasU2 C) (l:List En) (e:Bool) (hl:l.length≤1000000) :
 RnW C 217 [.ro 6 (l.map eEn) e] [(0,.cells 1 [[.ro 6 [] true]] true true)] 13=some (.fn 401 [.ptr 13 0 0],[(0,.cells 1 [[.ro 6 [] true]] true true),(13,.cells 1 [[.map 14]] true false),(14,.map (kmap (seenK [] l)))],17):=by
 have h:=unseen_loop_res H l e hl l.length 0 (by simp) []
 rw [List.drop_zero,kmap_nil] at h
 rw [rnW_eq (args:=[.ro 6 (l.map eEn) e]) H.f217 rfl [(0,.cells 1 [[.ro 6 [] true]] true true)] 13]
 simp at h
 simp [w217,h]
theorem dores_loop (H:HasU2 C) (ks:List Kd) (ke:Bool) (cap:Int) (hr:RuIn ks) (hru:ruOk ks cap=true)  (x:List It) (xe:Bool) (hx:∀ y ∈ x,ItIn y) (hxl:x.length≤1000000) (ins:Bool) (cnt:Int)
 (hb:∀ y ∈ x,itOk ks.length y=true→-9223372036854775808≤(kdAt ks y.t).b∧(kdAt ks y.t).b≤9223372036854775807) :∀ n i,n+i=x.length→(∀ y ∈ x.take i,itOk ks.length y=true)→∀ s:List Int,
 DoR (if incE ks cap s (x.drop i)≠0 then errL (incE ks cap s (x.drop i)) else outL (x.map (fre ks))) (CK C 17 (fnEndW [.cell 6 1 true,.tmp 7]) [.sq w216_L0,.bk 1 ⟨true,[6,5,3],[]⟩,.sq w216_c0] w216_B0 ⟨[(34,.int .i64 i),(33,.int .i64 x.length),(32,.ro 4 (x.map cIt) xe),(6,.ptr 17 0 0),(5,.ptr 18 0 0),(3,.ptr 19 0 0)],[(0,.cells 1 [[.ro 6 [] true]] true true),(13,.cells 1 [[.map 14]] true false),(14,.map (kmap s)),(17,.cells 1 [[.ro 6 [] true]] true true),
  (18,.cells 5 [[.bool ins,.int .i64 cnt,.ro 4 (x.map cIt) xe,.fn 401 [.ptr 13 0 0],.fn 218 []]] true false),(19,.cells 2 [[.ro 9 (ks.map eKd) ke,.int .i64 cap]] true true)],20⟩):=by
 intro n
 induction n with
 | zero =>
  intro i hi hok s
  have h1:x.drop i=[]:=List.drop_eq_nil_of_le (by omega)
  have h3:¬ i < x.length:=by omega
  rw [List.take_of_length_le (by omega)] at hok
  have hf:=fresh_ok H.toHasK ks ke cap x xe (by omega) (fun y q=>⟨hx y q,itOk_t (hok y q)⟩)
  have hm:FnW C 218 [.ro 6 ((x.map (fre ks)).map eEn) true]=some (.ro 6 ((x.map (fre ks)).map eEn) true):=by
   rw [fnW_eq H.f218 rfl]
   generalize x.map (fre ks)=X at *
   simp [w218]
  have hm2:∀ y ∈ x.map (fre ks),EnIn y:=fun y q=>by
   obtain ⟨z,hz,rfl⟩:=List.mem_map.1 q
   exact ⟨hx z hz,hb z hz (hok z hz)⟩
  have hlen2:(x.map (fre ks)).length≤1000000:=by simpa using hxl
  rw [h1,incE,if_neg (by simp)]
  generalize x.map (fre ks)=R at *
  have ho:=own_ok H.toHasL R true hlen2 (fun x q=>(hm2 x q).i.m)
  have ht:=total_ok H.toHasL (R.map En.own) true (by simpa using hlen2) (fun x q=>by
   obtain ⟨y,hy,rfl⟩:=List.mem_map.1 q
   exact (hm2 y hy).ow)
  unfold outL errL
  generalize R.map En.own=R' at *
  by_cases c2:ovE R'=0
  · rw [c2] at ht
    rw [ck_unf w216_B0.eq_1]
    simp [ck_unf w216_c0.eq_1,h3,hf,hm,ho,ht,c2,H.inl,inlB,H.pp,ppB]
    exact ⟨_,_,rfl,rfl⟩
  · rw [ck_unf w216_B0.eq_1]
    simp [ck_unf w216_c0.eq_1,h3,hf,hm,ho,ht,c2,H.inl,inlB,H.pp,ppB]
    exact ⟨_,_,rfl,rfl⟩
 | succ n ih =>
  intro i hi hok s
  have h1:i < x.length:=by omega
  have hxi:=hx _ (List.getElem_mem h1)
  have hc:=icheck_ok H.toHasI x[i] ks.length hxi.t
  have hg:=fun a b c h n=>rnW_eq (args:=[a,b,c]) H.f401 rfl h n
  have hkg:=kmap_get x[i].k s
  rw [drop_cons h1,incE]
  generalize hO:outL (x.map (fre ks))=O at *
  unfold errL
  cases c1:itOk ks.length x[i]
  · have hE:itE ks cap x[i] (s.contains x[i].k)=6:=by unfold itE;simp [c1]
    rw [hE,if_pos (by simp),if_pos (by simp)]
    rw [c1] at hc
    simp at hc
    rw [ck_unf w216_B0.eq_1]
    simp (disch:=omega) [h1,hc,H.inl,inlB,H.pp,ppB]
    exact ⟨_,_,rfl,rfl⟩
  · rw [c1] at hc
    simp at hc
    cases c2:s.contains x[i].k
    · have ht:=itOk_t c1
      have hre:=rrender_ok H.toHasK ks ke cap x[i] hxi ht hr
      have h14:=rnd14 hru c1 hxi.t.1
      have hp:=kmap_put x[i].k s c2
      rw [c2] at hkg
      simp only [aR,eIt] at hre hc
      have this:=ih (i+1) (by omega) (fun y q=>by
       rw [List.take_succ_eq_append_getElem h1] at q
       rcases List.mem_append.1 q with q | q
       · exact hok y q
       · simp at q;rw [q];exact c1) (s++[x[i].k])
      unfold errL at this
      have hE:itE ks cap x[i] false=if rndE (kdAt ks x[i].t).p x[i] cap=0 then 0 else 14:=by unfold itE;simp [c1]
      generalize rndN (kdAt ks x[i].t).p x[i] cap=N at *
      generalize rndE (kdAt ks x[i].t).p x[i] cap=E at *
      by_cases c3:E=0
      · subst c3
        have hV:itE ks cap x[i] false=0:=by rw [hE];simp
        rw [hV]
        simp only [ne_eq,not_true_eq_false,if_false]
        generalize (if incE ks cap (s++[x[i].k]) (List.drop (i+1) x)≠0 then AV.tup [aL [] true,.int .i64 (incE ks cap (s++[x[i].k]) (List.drop (i+1) x))] else O)=Z at *
        rw [ck_unf w216_B0.eq_1]
        simp at this
        simp (disch:=omega) [h1,hc,hg,w401,hkg,hp,hre,wI64,H.inl,inlB,H.pp,ppB]
        exact this
      · have c4:E=14:=by rcases h14 with q | q;exact absurd q c3;exact q
        subst c4
        have hV:itE ks cap x[i] false=14:=by rw [hE];simp
        rw [hV,if_pos (by simp),if_pos (by simp)]
        rw [ck_unf w216_B0.eq_1]
        simp (disch:=omega) [h1,hc,hg,w401,hkg,hp,hre,H.inl,inlB,H.pp,ppB]
        exact ⟨_,_,rfl,rfl⟩
    · have hE:itE ks cap x[i] true=8:=by unfold itE;simp [c1]
      rw [hE,if_pos (by simp),if_pos (by simp)]
      rw [c2] at hkg
      simp only [eIt] at hc
      rw [ck_unf w216_B0.eq_1]
      simp (disch:=omega) [h1,hc,hg,w401,hkg,H.inl,inlB,H.pp,ppB]
      exact ⟨_,_,rfl,rfl⟩
theorem do_res (H:HasU2 C) (ks:List Kd) (ke:Bool) (cap:Int) (hr:RuIn ks) (l:List En) (e:Bool) (hl:l.length≤1000000) (hs:∀ x ∈ l,EnIn x)  (x:List It) (xe:Bool) (hx:∀ y ∈ x,ItIn y) (hxl:x.length≤1000000)  (cnt:Int)
 (hb:∀ y ∈ x,itOk ks.length y=true→-9223372036854775808≤(kdAt ks y.t).b∧(kdAt ks y.t).b≤9223372036854775807)  :
 DoR (if ckE ks cap l≠0 then errL (ckE ks cap l) else if 1024 < cnt then errL 3 else if incE ks cap [] x≠0 then errL (incE ks cap [] x) else outL (x.map (fre ks))) (RnW C 216 [aR ks ke cap,aL l e,.agg [.bool true,.int .i64 cnt,.ro 4 (x.map cIt) xe,.fn 401 [.ptr 13 0 0],.fn 218 []]] [(0,.cells 1 [[.ro 6 [] true]] true true),(13,.cells 1 [[.map 14]] true false),(14,.map (kmap (seenK [] [])))] 17):=by
 have hc:=lcheck_ok H.toHasK ks ke cap hr l e hl hs
 rw [rnW_eq (args:=[aR ks ke cap,aL l e,.agg [.bool true,.int .i64 cnt,.ro 4 (x.map cIt) xe,.fn 401 [.ptr 13 0 0],.fn 218 []]]) H.f216 rfl [(0,.cells 1 [[.ro 6 [] true]] true true),(13,.cells 1 [[.map 14]] true false),(14,.map (kmap (seenK [] [])))] 17]
 by_cases c1:ckE ks cap l=0
 · have hru:=ckE_ru c1
   rw [c1] at hc
   rw [if_neg (by simpa using c1)]
   by_cases c2:1024 < cnt
   · rw [if_pos c2]
     unfold errL
     simp [w216,hc,c2,H.inl,inlB,H.pp,ppB]
     exact ⟨_,_,rfl,rfl⟩
   · rw [if_neg c2]
     have h:=dores_loop H ks ke cap hr hru x xe hx hxl true cnt hb x.length 0 (by simp) (by simp) (seenK [] [])
     rw [List.drop_zero] at h
     simp only [seenK] at h ⊢
     simp [w216,hc,c2,H.inl,inlB,H.pp,ppB]
     by_cases c3:incE ks cap [] x=0
     · simp [c3] at h ⊢
       exact h
     · simp [c3] at h ⊢
       exact h
 · rw [if_pos c1]
   unfold errL
   simp [w216,hc,c1,H.inl,inlB,H.pp,ppB]
   exact ⟨_,_,rfl,rfl⟩
@[simp] theorem getp (h:WHeap) (n:Nat) (o:WObj) (k:Nat):Pav.get (Pav.put h n o) k=if n=k then some o else Pav.get h k:=get_put h n o k
theorem reset_ok (H:HasU2 C) (ks:List Kd) (ke:Bool) (cap:Int) (hr:RuIn ks) (l:List En) (e:Bool) (hl:l.length≤1000000) (hs:∀ x ∈ l,EnIn x) (x:List It) (xe:Bool) (hx:∀ y ∈ x,ItIn y) (hxl:x.length≤1000000)
 (hb:∀ y ∈ x,itOk ks.length y=true→-9223372036854775808≤(kdAt ks y.t).b∧(kdAt ks y.t).b≤9223372036854775807) :
 FnW C 108 [aR ks ke cap,aL l e,.ro 4 (x.map cIt) xe] =
  some (if ckE ks cap l≠0 then errL (ckE ks cap l) else if 1024 < (x.length:Int) then errL 3 else if incE ks cap [] x≠0 then errL (incE ks cap [] x) else outL (x.map (fre ks))):=by
 have hu:=unseen_res H [] true (by simp)
 obtain ⟨h',n',hd,hB⟩:=do_res H ks ke cap hr l e hl hs x xe hx hxl (x.length:Int) hb
 have hR:∃ R n,(if ckE ks cap l≠0 then errL (ckE ks cap l) else if 1024 < (x.length:Int) then errL 3 else if incE ks cap [] x≠0 then errL (incE ks cap [] x) else outL (x.map (fre ks)))=.tup [.agg [.ro 6 R true],.int .i64 n]:=by
  unfold outL errL
  repeat (first | exact ⟨_,_,rfl⟩ | split)
 obtain ⟨R,n,hR⟩:=hR
 rw [hR] at hd ⊢
 rw [fnW_eq H.f108 rfl]
 simp at hd hu
 simp (disch:=omega) [w108,wI64,hu,hd,hB,H.inl,inlB,H.pp,ppB]
end Go.D
end
section
namespace Go.Pw
open Go Go.Pav
theorem getPut {α:Type} (l:List (Nat × α)) (k:Nat) (x:α) (j:Nat):Pav.get (Pav.put l k x) j=if k=j then some x else Pav.get l j:=get_put l k x j
theorem getPut_self {α:Type} (l:List (Nat × α)) (k:Nat) (x:α):Pav.get (Pav.put l k x) k=some x:=by rw [getPut,if_pos rfl]
theorem getPut_ne {α:Type} {l:List (Nat × α)} {k:Nat} {x:α} {j:Nat} (h:k≠j):Pav.get (Pav.put l k x) j=Pav.get l j:=by rw [getPut,if_neg h]
theorem putPut {α:Type} (l:List (Nat × α)) (k:Nat) (x y:α):Pav.put (Pav.put l k x) k y=Pav.put l k y:=by
 induction l with
 | nil=>simp [Pav.put]
 | cons a r ih =>
  obtain ⟨j,v⟩:=a
  simp only [Pav.put]
  by_cases h1:j=k
  · simp [h1,Pav.put]
  · by_cases h2:k≤j
    · simp [h1,h2,Pav.put]
    · simp [h1,h2,Pav.put,ih]
theorem ltF {a b:Nat} (h:a < b):(a=b)=False:=eq_false (by omega)
theorem gtF {a b:Nat} (h:b < a):(a=b)=False:=eq_false (by omega)
structure Rw where
 i:Nat
 len:Nat
 cap:Nat
 es:List (List AV)
abbrev Rw.of (es:List (List AV)):Rw:=⟨0,es.length,es.length,es⟩
def Rw.c (w:Rw):List (List AV):=(w.es.drop w.i).take w.len
def Rw.v (z b:Nat) (w:Rw):AV:=match w.es with
 | []=>.ro z [] true
 | _::_=>if w.cap=0 then .ro z [] false else .sl b z w.i w.len w.cap false
def Rw.d (z:Nat) (w:Rw):AV:=match w.es with
 | []=>.ro z [] true
 | _::_=>.ro z w.c false
structure Rw.Ok (w:Rw):Prop where
 le:w.i+w.len≤w.es.length
 c0:w.cap=0→w.len=0
structure Nst (z:Nat) (h:WHeap) (lo hi:Nat) (id:Nat→Nat) (cs:List (List AV)) (W:List Rw):Prop where
 len:cs.length=W.length
 bd:∀ i,i < W.length→lo≤id i∧id i < hi
 inj:∀ i j,i < W.length→j < W.length→id i=id j→i=j
 cell:∀ (i:Nat) (w:Rw),W[i]?=some w→cs[i]?=some [w.v z (id i)]
 blk:∀ (i:Nat) (w:Rw),W[i]?=some w→w.es≠[]→Pav.get h (id i)=some (.cells z w.es true true)
 ok:∀ w,w ∈ W→w.Ok
section
variable {z:Nat} {h h':WHeap} {lo hi hi':Nat} {id:Nat→Nat} {cs:List (List AV)} {W:List Rw}
theorem Nst.nil:Nst z h lo hi id [] []:=⟨rfl,fun i h=>by simp at h,fun i j h=>by simp at h,fun i w h=>by simp at h,fun i w h=>by simp at h,fun w h=>by simp at h⟩
theorem Nst.mono (R:Nst z h lo hi id cs W) (hh:hi≤hi') (hg:∀ j,lo≤j→j < hi→Pav.get h' j=Pav.get h j):Nst z h' lo hi' id cs W where
 len:=R.len
 bd i hi:=⟨(R.bd i hi).1,Nat.lt_of_lt_of_le (R.bd i hi).2 hh⟩
 inj:=R.inj
 cell:=R.cell
 blk i w hw hn:=by
  have hl:i < W.length:=(List.getElem?_eq_some_iff.1 hw).1
  rw [hg _ (R.bd i hl).1 (R.bd i hl).2]
  exact R.blk i w hw hn
 ok:=R.ok
theorem Nst.snoc (R:Nst z h lo hi id cs W) (b:Nat) (hb:hi≤b) (hb2:lo≤b) (hh:b < hi') (w:Rw) (hw:w.Ok)
 (hg:∀ j,lo≤j→j < hi→Pav.get h' j=Pav.get h j) (hn:w.es≠[]→Pav.get h' b=some (.cells z w.es true true)) :
 Nst z h' lo hi' (fun i=>if i=W.length then b else id i) (cs++[[w.v z b]]) (W++[w]):=by
 have hid:∀ i,i < W.length→(if i=W.length then b else id i)=id i:=fun i hi=>if_neg (by omega)
 have hlt:∀ i,i < (W++[w]).length→i=W.length∨i < W.length:=by intro i hi;simp at hi;omega
 refine ⟨by simp [R.len],?_,?_,?_,?_,?_⟩
 · intro i hi
   rcases hlt i hi with q | q
   · rw [if_pos q];exact ⟨hb2,hh⟩
   · rw [hid i q];exact ⟨(R.bd i q).1,by have:=(R.bd i q).2;omega⟩
 · intro i j hi hj he
   rcases hlt i hi with q | q <;> rcases hlt j hj with q' | q'
   · omega
   · rw [if_pos q,hid j q'] at he;have:=(R.bd j q').2;omega
   · rw [if_pos q',hid i q] at he;have:=(R.bd i q).2;omega
   · rw [hid i q,hid j q'] at he;exact R.inj i j q q' he
 · intro i x hx
   have hi:i < (W++[w]).length:=(List.getElem?_eq_some_iff.1 hx).1
   rcases hlt i hi with q | q
   · subst q
     rw [if_pos rfl]
     simp at hx;subst hx
     rw [← R.len];simp
   · rw [hid i q]
     rw [List.getElem?_append_left q] at hx
     rw [List.getElem?_append_left (by rw [R.len];exact q)]
     exact R.cell i x hx
 · intro i x hx hne
   have hi:i < (W++[w]).length:=(List.getElem?_eq_some_iff.1 hx).1
   rcases hlt i hi with q | q
   · subst q
     rw [if_pos rfl]
     simp at hx;subst hx
     exact hn hne
   · rw [hid i q,hg _ (R.bd i q).1 (R.bd i q).2]
     rw [List.getElem?_append_left q] at hx
     exact R.blk i x hx hne
 · intro x hx
   rcases List.mem_append.1 hx with q | q
   · exact R.ok x q
   · simp at q;subst q;exact hw
theorem Nst.set (R:Nst z h lo hi id cs W) (k:Nat) (hk:k < W.length) (b:Nat) (hb:b=id k∨hi≤b) (hb2:lo≤b) (hh:b < hi') (hhi:hi≤hi') (w:Rw) (hw:w.Ok)
 (hg:∀ j,j < W.length→j≠k→Pav.get h' (id j)=Pav.get h (id j)) (hn:w.es≠[]→Pav.get h' b=some (.cells z w.es true true)) :
 Nst z h' lo hi' (fun i=>if i=k then b else id i) (cs.set k [w.v z b]) (W.set k w):=by
 refine ⟨by simp [R.len],?_,?_,?_,?_,?_⟩
 · intro i hi
   rw [List.length_set] at hi
   by_cases q:i=k
   · rw [if_pos q];exact ⟨hb2,hh⟩
   · rw [if_neg q];exact ⟨(R.bd i hi).1,by have:=(R.bd i hi).2;omega⟩
 · intro i j hi hj he
   rw [List.length_set] at hi hj
   have hne:∀ j,j < W.length→j≠k→b≠id j:=by
    intro j hj q e
    rcases hb with q2 | q2
    · exact q (R.inj j k hj hk (by rw [← e,q2]))
    · have:=(R.bd j hj).2;omega
   by_cases q:i=k <;> by_cases q':j=k
   · omega
   · rw [if_pos q,if_neg q'] at he;exact absurd he (hne j hj q')
   · rw [if_neg q,if_pos q'] at he;exact absurd he.symm (hne i hi q)
   · rw [if_neg q,if_neg q'] at he;exact R.inj i j hi hj he
 · intro i x hx
   by_cases q:i=k
   · subst q
     rw [List.getElem?_set_self hk] at hx
     cases hx
     rw [if_pos rfl,List.getElem?_set_self (by rw [R.len];exact hk)]
   · rw [if_neg q]
     rw [List.getElem?_set_ne (by omega)] at hx ⊢
     exact R.cell i x hx
 · intro i x hx hne
   by_cases q:i=k
   · subst q
     rw [List.getElem?_set_self hk] at hx
     cases hx
     rw [if_pos rfl]
     exact hn hne
   · rw [if_neg q]
     rw [List.getElem?_set_ne (by omega)] at hx
     have hi:i < W.length:=(List.getElem?_eq_some_iff.1 hx).1
     rw [hg i hi q]
     exact R.blk i x hx hne
 · intro x hx
   rcases List.mem_or_eq_of_mem_set hx with q | q
   · exact R.ok x q
   · subst q;exact hw
theorem Nst.frzOne (R:Nst z h lo hi id cs W) (n:Nat) {i:Nat} {w:Rw} (hw:W[i]?=some w):mapO (frzW h (n+2)) [w.v z (id i)]=some [w.d z]:=by
 have hb:=R.blk i w hw
 have hok:=(R.ok w (List.mem_of_getElem? hw)).le
 have hc0:=(R.ok w (List.mem_of_getElem? hw)).c0
 unfold Rw.v Rw.d
 cases he:w.es with
 | nil=>simp [mapO,ob,om]
 | cons a r =>
  simp only
  have:=hb (by simp [he])
  by_cases hcap:w.cap=0
  · rw [if_pos hcap]
    have hl0:=hc0 hcap
    simp [mapO,ob,om,Rw.c,hl0]
  rw [if_neg hcap]
  simp only [mapO,frzW_sl,this,frzS]
  have hl:((w.es.drop w.i).take w.len).length=w.len:=by rw [List.length_take,List.length_drop];omega
  simp [hl,og,ob,Rw.c]
theorem Nst.frz (R:Nst z h lo hi id cs W) (n:Nat):mapO (mapO (frzW h (n+2))) cs=some (W.map fun w=>[w.d z]):=by
 have key:∀ (cs:List (List AV)) (W:List Rw) (id:Nat→Nat),cs.length=W.length→(∀ (i:Nat) (w:Rw),W[i]?=some w→∃ c,cs[i]?=some c∧mapO (frzW h (n+2)) c=some [w.d z])→mapO (mapO (frzW h (n+2))) cs=some (W.map fun w=>[w.d z]):=by
  intro cs
  induction cs with
  | nil=>intro W id hl _;cases W with
   | nil=>rfl
   | cons _ _=>simp at hl
  | cons c cs ih =>
   intro W id hl hc
   cases W with
   | nil=>simp at hl
   | cons w W =>
    obtain ⟨c',h1,h2⟩:=hc 0 w rfl
    simp at h1;subst h1
    have:=ih W (fun i=>id (i+1)) (by simpa using hl) (fun i w hw=>by simpa using hc (i+1) w (by simpa using hw))
    simp only [mapO,h2,this,ob,om,List.map_cons]
 exact key cs W id R.len fun i w hw=>⟨_,R.cell i w hw,R.frzOne n hw⟩
theorem Nst.flat (R:Nst z h lo hi id cs W) (h0:∀ w ∈ W,w.es=[]):cs=W.map fun w=>[w.d z]:=by
 apply List.ext_getElem?
 intro i
 rw [List.getElem?_map]
 cases hw:W[i]? with
 | none =>
  rw [List.getElem?_eq_none_iff] at hw
  rw [List.getElem?_eq_none_iff.2 (by rw [R.len];exact hw)];rfl
 | some w =>
  rw [R.cell i w hw]
  have:=h0 w (List.mem_of_getElem? hw)
  simp [Rw.v,Rw.d,this]
theorem Rw.d_isC (z:Nat) (w:Rw):isC (w.d z)=true:=by unfold Rw.d;split <;> rfl
theorem Nst.frzS (R:Nst z h lo hi id cs W) (n:Nat) {mu dt ex:Bool} (hd:dt=true→∀ w ∈ W,w.es=[]) :
 Pw.frzS h (n+2) 1 0 W.length W.length ex (some (.cells 1 cs mu dt))=some (.ro 1 (W.map fun w=>[w.d z]) ex):=by
 have hl:=R.len
 cases dt with
 | true =>
  have:=R.flat (hd rfl)
  simp only [Pw.frzS,List.drop_zero]
  rw [List.take_of_length_le (by omega),this]
  simp [og]
 | false =>
  simp only [Pw.frzS,List.drop_zero]
  rw [List.take_of_length_le (by omega),R.frz n]
  have:((W.map fun w=>[w.d z]).all fun e=>e.all isC)=true:=by
   rw [List.all_eq_true]
   intro x hx
   obtain ⟨w,_,rfl⟩:=List.mem_map.1 hx
   simp only [List.all_cons,List.all_nil,Rw.d_isC,Bool.and_self]
  simp only [ob,List.length_map,decide_true,this,Bool.and_self,og,Bool.and_true]
end
end Go.Pw
end
section
end
section
namespace Go.D
open Go Go.Pav Go.Pw P
set_option maxHeartbeats 2000000
attribute [-simp] List.getElem_cons_drop
variable {C:WProg}
structure HasI1 (C:WProg):Prop extends HasU2 C where
 f5045:C.fns.get 5045=some w5045
 f5044:C.fns.get 5044=some w5044
 f5043:C.fns.get 5043=some w5043
theorem leF1 {a b:Nat} (h:b < a):(a≤b)=False:=eq_false (by omega)
theorem ovr_lo {n b:Nat} {h1 h:WHeap} (hb:b < n):Pav.get (over n h1 h) b=Pav.get h b:=by
 unfold over
 rw [get_upsW,if_neg (by omega)]
theorem ovr_hi {n b:Nat} {h1 h:WHeap} {o:WObj} (hb:n≤b) (hg:Pav.get h1 b=some o):Pav.get (over n h1 h) b=some o:=by
 unfold over
 rw [get_upsW,if_pos hb,hg]
def MkO (h:WHeap) (lo hi:Nat) (v:AV) (m:List Bs):Prop :=
 (m=[]∧v=.ro 1 [] true)∨(m≠[]∧∃ b,v=.sl b 1 0 m.length m.length true∧lo≤b∧b < hi∧Pav.get h b=some (.cells 1 (m.map eS) true true))
theorem MkO.mono {h h':WHeap} {lo lo' hi hi':Nat} {v:AV} {m:List Bs} (R:MkO h lo hi v m) (hl:lo'≤lo) (hh:hi≤hi') (hg:∀ b,lo≤b→b < hi→Pav.get h' b=Pav.get h b):MkO h' lo' hi' v m:=by
 rcases R with q | ⟨q,b,h1,h2,h3,h4⟩
 · exact .inl q
 · exact .inr ⟨q,b,h1,by omega,by omega,by rw [hg b h2 h3];exact h4⟩
theorem MkO.over {h1 X:WHeap} {n lo hi:Nat} {v:AV} {m:List Bs} (R:MkO h1 lo hi v m) (hn:n≤lo):MkO (over n h1 X) lo hi v m:=by
 rcases R with q | ⟨q,b,k1,k2,k3,k4⟩
 · exact .inl q
 · exact .inr ⟨q,b,k1,k2,k3,ovr_hi (by omega) k4⟩
theorem i45_ok (H:HasI1 C) (m:List Bs) (e:Bool) (hl:m.length≤1000000) (nx:Nat):∃ v h1 n1,RnW C 5045 [.ro 1 (m.map eS) e] [] nx=some (v,h1,n1)∧nx≤n1∧MkO h1 nx n1 v m:=by
 obtain ⟨L,hL⟩:∃ L,L=RnW C 5045 [.ro 1 (m.map eS) e] [] nx:=⟨_,rfl⟩
 rw [← hL]
 rw [rnW_eq (args:=[.ro 1 (m.map eS) e]) H.f5045 rfl] at hL
 by_cases h:m=[]
 · subst h
   simp [w5045] at hL
   exact ⟨_,_,_,hL,by omega,.inl ⟨rfl,rfl⟩⟩
 · have h0:¬ m.length=0:=fun q=>h (List.length_eq_zero_iff.1 q)
   have h2:m.length * 17≤35184372088832:=by omega
   simp (disch:=omega) [w5045,h,h0,h2,isE] at hL
   have hT:List.take m.length (m.map eS)=m.map eS:=List.take_of_length_le (by simp)
   exact ⟨_,_,_,hL,by omega,.inr ⟨h,_,rfl,by omega,by omega,by simp [hT]⟩⟩
theorem i44_ok (H:HasI1 C) (x:It) (e:Bool) (hl:x.m.length≤1000000) (nx:Nat):∃ v b dt h1 n1,RnW C 5044 [.ro 4 [cIt x] e] [] nx=some (.sl b 4 0 1 1 true,h1,n1)∧nx≤n1∧nx≤b∧b < n1∧Pav.get h1 b=some (.cells 4 [[.int .u64 x.k,.int .u8 x.t,.str x.x,v]] true dt)∧MkO h1 nx n1 v x.m:=by
 have hg:=fun a h n=>rnW_eq (args:=[a]) H.f459 rfl h n
 obtain ⟨L,hL⟩:∃ L,L=RnW C 5044 [.ro 4 [cIt x] e] [] nx:=⟨_,rfl⟩
 rw [← hL]
 obtain ⟨v,q1,n1,r1,r2,r3⟩:=i45_ok H x.m x.e hl (nx+30+1)
 have r4:=r3
 rw [rnW_eq (args:=[.ro 4 [cIt x] e]) H.f5044 rfl] at hL
 rcases r3 with ⟨_,rfl⟩ | ⟨_,b,rfl,_,_,_⟩
 all_goals
  simp (disch:=omega) [w5044,ck_unf w5044_B0.eq_1,ck_unf w5044_c0.eq_1,hg,w459,H.inl,inlB,H.pp,ppB,wI64,r1,ltF,gtF,leF1,ovr_lo,getPut_self,getPut_ne] at hL
  refine ⟨_,_,_,_,_,hL,by omega,by omega,by omega,getPut_self ..,?_⟩
  exact (r4.over (Nat.le_refl _)).mono (by omega) (by omega) fun c k1 k2=>getPut_ne (by omega)
structure EnsO (h:WHeap) (lo hi:Nat) (cs:List (List AV)) (l:List En):Prop where
 len:cs.length=l.length
 row:∀ (i:Nat) (x:En),l[i]?=some x→∃ v,cs[i]?=some [.int .u64 x.i.k,.int .u8 x.i.t,.str x.i.x,v,.int .i64 x.s,.bool x.kn]∧MkO h lo hi v x.i.m
theorem EnsO.mono {h h':WHeap} {lo lo' hi hi':Nat} {cs:List (List AV)} {l:List En} (R:EnsO h lo hi cs l) (hl:lo'≤lo) (hh:hi≤hi') (hg:∀ b,lo≤b→b < hi→Pav.get h' b=Pav.get h b):EnsO h' lo' hi' cs l :=
 ⟨R.len,fun i x hx=>by
  obtain ⟨v,h1,h2⟩:=R.row i x hx
  exact ⟨v,h1,h2.mono hl hh hg⟩⟩
theorem EnsO.over {h1 X:WHeap} {n lo hi:Nat} {cs:List (List AV)} {l:List En} (R:EnsO h1 lo hi cs l) (hn:n≤lo):EnsO (over n h1 X) lo hi cs l :=
 ⟨R.len,fun i x hx=>by
  obtain ⟨v,h1,h2⟩:=R.row i x hx
  exact ⟨v,h1,h2.over hn⟩⟩
theorem EnsO.snoc {h:WHeap} {lo hi:Nat} {cs:List (List AV)} {l:List En} (R:EnsO h lo hi cs l) (x:En) (v:AV) (hv:MkO h lo hi v x.i.m):EnsO h lo hi (cs++[[.int .u64 x.i.k,.int .u8 x.i.t,.str x.i.x,v,.int .i64 x.s,.bool x.kn]]) (l++[x]):=by
 refine ⟨by simp [R.len],fun i y hy=>?_⟩
 have hi':i < (l++[x]).length:=(List.getElem?_eq_some_iff.1 hy).1
 simp at hi'
 by_cases c:i=l.length
 · subst c
   simp at hy
   subst hy
   exact ⟨v,by rw [← R.len];simp,hv⟩
 · have hil:i < l.length:=by omega
   rw [List.getElem?_append_left hil] at hy
   obtain ⟨v',k1,k2⟩:=R.row i y hy
   exact ⟨v',by rw [List.getElem?_append_left (by rw [R.len];exact hil)];exact k1,k2⟩
abbrev zEn:List AV:=[.int .u64 0,.int .u8 0,.str [],.ro 1 [] true,.int .i64 0,.bool false]
theorem i43_loop (H:HasI1 C) (l:List En) (e:Bool) (hl:l.length≤1000000) (hm:∀ x ∈ l,x.i.m.length≤1000000) (bs rb rs:Nat) (hrs:rs < rb):∀ m i,m+i=l.length→∀ (cs:List (List AV)) (dt:Bool) (h:WHeap) (next:Nat),rb < next→EnsO h (rb+1) next cs (l.take i)→(dt=true→∀ x ∈ l.take i,x.i.m=[]) →
 Pav.get h rs=some (.cells 1 [[.ro 6 [] true]] true true)→Pav.get h rb=some (.cells 6 (cs++List.replicate m zEn) true dt) →
 ∃ cs' dt' h' next',EnsO h' (rb+1) next' cs' l∧Pav.get h' rb=some (.cells 6 cs' true dt')∧(dt'=true→∀ x ∈ l,x.i.m=[])∧next≤next' ∧
 CK C bs (fnEndW [.cell 2 1 true]) [.sq w5043_L0,.bk 0 ⟨true,[3,2],[(9999,65537)]⟩,.sq w5043_c0] w5043_B0
  ⟨[(15,.int .i64 i),(14,.int .i64 l.length),(13,.ro 6 (l.map eEn) e),(3,.sl rb 6 0 l.length l.length true),(2,.ptr rs 0 0)],h,next⟩=some (.agg [.sl rb 6 0 l.length l.length true],h',next'):=by
 intro m
 induction m with
 | zero =>
  intro i hi cs dt h next hlt R hd g1 g2
  have c1:¬ i < l.length:=by omega
  have e1:l.take i=l:=List.take_of_length_le (by omega)
  rw [e1] at R hd
  simp only [List.replicate_zero,List.append_nil] at g2
  refine ⟨cs,dt,put h rs (.cells 1 [[.sl rb 6 0 l.length l.length true]] true false),next+4,R.mono (Nat.le_refl _) (by omega) (fun b k1 k2=>getPut_ne (by omega)),by rw [getPut_ne (by omega)];exact g2,hd,by omega,?_⟩
  rw [ck_unf w5043_B0.eq_1]
  simp (disch:=omega) [ck_unf w5043_c0.eq_1,c1,g1,g2,getPut_self,getPut_ne]
 | succ m ih =>
  intro i hi cs dt h next hlt R hd g1 g2
  have c1:i < l.length:=by omega
  obtain ⟨v,b,dt1,q1,n1,r1,r2,r3,r4,r5,r6⟩:=i44_ok H l[i].i true (hm _ (List.getElem_mem c1)) (next+10+1)
  have hcl:cs.length=i:=by rw [R.len];simp;omega
  have hci:(cs++zEn::List.replicate m zEn)[i]?=some zEn:=by rw [List.getElem?_append_right (by omega)];simp [hcl]
  have htk:l.take (i+1)=l.take i++[l[i]]:=List.take_succ_eq_append_getElem c1
  have key:∀ dt2 dt3,(dt3=true→dt=true∧l[i].i.m=[])→∃ cs' dt' h' next',EnsO h' (rb+1) next' cs' l∧Pav.get h' rb=some (.cells 6 cs' true dt')∧(dt'=true→∀ x ∈ l,x.i.m=[])∧next≤next' ∧
   CK C bs (fnEndW [.cell 2 1 true]) [.sq w5043_L0,.bk 0 ⟨true,[3,2],[(9999,65537)]⟩,.sq w5043_c0] w5043_B0
    ⟨[(15,.int .i64 (i+1:Nat)),(14,.int .i64 l.length),(13,.ro 6 (l.map eEn) e),(3,.sl rb 6 0 l.length l.length true),(2,.ptr rs 0 0)],
     put (put (over (next+10+1) q1 (put (put h (next+4) (.cells 6 [eEn l[i]] true true)) (next+9) (.cells 4 [cIt l[i].i] false true))) (next+4) (.cells 6 [[.int .u64 l[i].i.k,.int .u8 l[i].i.t,.str l[i].i.x,v,.int .i64 l[i].s,.bool l[i].kn]] true dt2)) rb (.cells 6 ((cs++[[.int .u64 l[i].i.k,.int .u8 l[i].i.t,.str l[i].i.x,v,.int .i64 l[i].s,.bool l[i].kn]])++List.replicate m zEn) true dt3),n1+11⟩=some (.agg [.sl rb 6 0 l.length l.length true],h',next'):=by
   intro dt2 dt3 hd3
   obtain ⟨cs',dt',h',n',k1,k2,k5,k3,k4⟩:=ih (i+1) (by omega) (cs++[[.int .u64 l[i].i.k,.int .u8 l[i].i.t,.str l[i].i.x,v,.int .i64 l[i].s,.bool l[i].kn]]) dt3 (put (put (over (next+10+1) q1 (put (put h (next+4) (.cells 6 [eEn l[i]] true true)) (next+9) (.cells 4 [cIt l[i].i] false true))) (next+4) (.cells 6 [[.int .u64 l[i].i.k,.int .u8 l[i].i.t,.str l[i].i.x,v,.int .i64 l[i].s,.bool l[i].kn]] true dt2)) rb (.cells 6 ((cs++[[.int .u64 l[i].i.k,.int .u8 l[i].i.t,.str l[i].i.x,v,.int .i64 l[i].s,.bool l[i].kn]])++List.replicate m zEn) true dt3)) (n1+11) (by omega)
    (by
     rw [htk]
     refine (R.mono (Nat.le_refl _) (by omega) (fun c q1 q2=>?_)).snoc l[i] v ?_
     · simp (disch:=omega) only [getPut_ne,ovr_lo]
     · exact (r6.over (Nat.le_refl _)).mono (by omega) (by omega) (fun c q1 q2=>by rw [getPut_ne (by omega),getPut_ne (by omega)]))
    (fun q=>by
     rw [htk]
     intro w hw
     rcases List.mem_append.1 hw with hw | hw
     · exact hd (hd3 q).1 w hw
     · rw [List.mem_singleton] at hw;subst hw;exact (hd3 q).2)
    (by simp (disch:=omega) only [getPut_ne,ovr_lo];exact g1) (getPut_self ..)
   exact ⟨cs',dt',h',n',k1,k2,k5,by omega,k4⟩
  simp only [cIt] at r1
  rcases r6 with ⟨q6,rfl⟩ | ⟨_,b2,rfl,_⟩
  · obtain ⟨cs',dt',h',n',k1,k2,k5,k3,k4⟩:=key true dt (fun w=>⟨w,q6⟩)
    refine ⟨cs',dt',h',n',k1,k2,k5,k3,?_⟩
    rw [← k4,ck_unf w5043_B0.eq_1]
    simp (disch:=omega) [c1,r1,r5,g1,g2,getPut_self,getPut_ne,wI64,H.inl,inlB,H.pp,ppB,ovr_lo,ovr_hi,leF1,ltF,gtF,hci,putPut,List.replicate_succ]
  · obtain ⟨cs',dt',h',n',k1,k2,k5,k3,k4⟩:=key false false (fun w=>by cases w)
    refine ⟨cs',dt',h',n',k1,k2,k5,k3,?_⟩
    rw [← k4,ck_unf w5043_B0.eq_1]
    simp (disch:=omega) [c1,r1,r5,g1,g2,getPut_self,getPut_ne,wI64,H.inl,inlB,H.pp,ppB,ovr_lo,ovr_hi,leF1,ltF,gtF,hci,putPut,List.replicate_succ]
def OwnE (h:WHeap) (lo hi:Nat) (v:AV) (l:List En):Prop :=
 (l=[]∧v=.ro 6 [] true)∨(l≠[]∧∃ rb cs dt,v=.sl rb 6 0 l.length l.length true∧lo≤rb∧rb < hi∧Pav.get h rb=some (.cells 6 cs true dt)∧EnsO h (rb+1) hi cs l∧(dt=true→∀ x ∈ l,x.i.m=[]))
theorem OwnE.mono {h h':WHeap} {lo lo' hi hi':Nat} {v:AV} {l:List En} (R:OwnE h lo hi v l) (hl:lo'≤lo) (hh:hi≤hi') (hg:∀ b,lo≤b→b < hi→Pav.get h' b=Pav.get h b):OwnE h' lo' hi' v l:=by
 rcases R with q | ⟨q,rb,cs,dt,h1,h2,h3,h4,h5,h6⟩
 · exact .inl q
 · exact .inr ⟨q,rb,cs,dt,h1,by omega,by omega,by rw [hg rb h2 h3];exact h4,h5.mono (Nat.le_refl _) hh (fun b k1 k2=>hg b (by omega) k2),h6⟩
theorem OwnE.over {h1 X:WHeap} {n lo hi:Nat} {v:AV} {l:List En} (R:OwnE h1 lo hi v l) (hn:n≤lo):OwnE (over n h1 X) lo hi v l:=by
 rcases R with q | ⟨q,rb,cs,dt,k1,k2,k3,k4,k5,k6⟩
 · exact .inl q
 · exact .inr ⟨q,rb,cs,dt,k1,k2,k3,ovr_hi (by omega) k4,k5.over (by omega),k6⟩
theorem i43_ok (H:HasI1 C) (l:List En) (e:Bool) (hl:l.length≤1000000) (hm:∀ x ∈ l,x.i.m.length≤1000000) (nx:Nat):∃ v h1 n1,RnW C 5043 [.ro 6 (l.map eEn) e] [] nx=some (.agg [v],h1,n1)∧nx≤n1∧OwnE h1 nx n1 v l:=by
 obtain ⟨L,hL⟩:∃ L,L=RnW C 5043 [.ro 6 (l.map eEn) e] [] nx:=⟨_,rfl⟩
 rw [← hL]
 rw [rnW_eq (args:=[.ro 6 (l.map eEn) e]) H.f5043 rfl] at hL
 by_cases c:l=[]
 · subst c
   simp (disch:=omega) [w5043,getPut_self,getPut_ne,ltF,gtF,leF1] at hL
   exact ⟨_,_,_,hL,by omega,.inl ⟨rfl,rfl⟩⟩
 · have c0:¬ l.length=0:=fun q=>c (List.length_eq_zero_iff.1 q)
   have h4:l.length * 73≤35184372088832:=by omega
   simp (disch:=omega) [w5043,c0,h4,c,getPut_self,getPut_ne,ltF,gtF,leF1] at hL
   obtain ⟨cs',dt',h',n',k1,k2,k5,k3,k4⟩:=i43_loop H l e hl hm nx (nx+6) nx (by omega) l.length 0 (by simp) [] true [(nx,.cells 1 [[.ro 6 [] true]] true true),(nx+6,.cells 6 (List.replicate l.length zEn) true true)] (nx+11) (by omega) ⟨rfl,fun i x hx=>by simp at hx⟩ (fun _ x hx=>by simp at hx) (by simp) (by simp (disch:=omega) [ltF,gtF])
   exact ⟨_,_,_,hL.trans k4,by omega,.inr ⟨c,nx+6,cs',dt',rfl,by omega,by omega,k2,k1,k5⟩⟩
end Go.D
end
