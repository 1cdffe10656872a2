/- Part of the theory that the claims of this work use: D04, D05, D06, D07, D08, D09, D10, D11, D12, D13, D14, D15, D16, D17, D18, D19, D20, D21, D22, D23, V600, D24, D25, D26, D27, D28, D29, D32, D34, D35, D36, GTy, V27, E01. No conditions of its own. -/
import Derived.Test.YtcekmcchienbfaaGreatT5
set_option linter.unusedVariables false
set_option linter.unusedSimpArgs false
set_option maxHeartbeats 4000000
set_option maxRecDepth 10000
section
namespace Go.D
open Go Go.Pav Go.Pw P
attribute [-simp] List.getElem_cons_drop
variable {C:aG}
mutual
/-- The walk below a node: whether it ends well, how many nodes, how many levels. -/
def wk:Nd→Nat→Nat × Nat→Bool × (Nat × Nat)
 | ⟨k,t,y,a,ae,x,ch,ce⟩,lv,(c,d)=>if 6 < lv∨64 < c+1∨alone ⟨k,t,y,a,ae,x,ch,ce⟩=false then (false,(c+1,max d lv)) else wks ch (lv+1) (c+1,max d lv)
def wks:List Nd→Nat→Nat × Nat→Bool × (Nat × Nat)
 | [],_,s=>(true,s)
 | m::r,lv,s=>if (wk m lv s).1=true then wks r lv (wk m lv s).2 else (false,(wk m lv s).2)
end
theorem aa8 (n:Nd) (lv c d:Nat):wk n lv (c,d)=if 6 < lv∨64 < c+1∨alone n=false then (false,(c+1,max d lv)) else wks n.ch (lv+1) (c+1,max d lv):=by cases n;rw [wk]
structure QG (C:aG):Prop extends VL C where
 akc:C.fns.get 433=some GV
 f282:C.fns.get 282=some ahr
 f140:C.fns.get 140=some agk
 aiC:C.fns.get 439=some ac3
abbrev hpM (root:Nd) (s:Nat × Nat):aK:=[(0,.cells 6 [root.c] true true),(1,.cells 1 [[.int .i64 s.1]] true true),(2,.cells 1 [[.int .i64 s.2]] true true),(3,.cells 1 [[.fn 433 [.ptr 1 0 0,.ptr 2 0 0,.ptr 3 0 0]]] true false)]
mutual
theorem ahL:∀ (n:Nd) (lv c d:Nat),lv≤7→c≤64→d≤7→((wk n lv (c,d)).1=true→(wk n lv (c,d)).2.1≤64)∧(wk n lv (c,d)).2.2≤7
 | ⟨k,t,y,a,ae,x,ch,ce⟩,lv,c,d,h1,h2,h3=>by
  rw [wk]
  split
  · exact ⟨fun q=>by simp at q,by simp only;omega⟩
  · rename_i h
    exact acC ch (lv+1) (c+1) (max d lv) (by omega) (by omega) (by omega)
theorem acC:∀ (l:List Nd) (lv c d:Nat),lv≤7→c≤64→d≤7→((wks l lv (c,d)).1=true→(wks l lv (c,d)).2.1≤64)∧(wks l lv (c,d)).2.2≤7
 | [],lv,c,d,h1,h2,h3=>by rw [wks];exact ⟨fun _=>h2,h3⟩
 | m::r,lv,c,d,h1,h2,h3=>by
  have h4:=ahL m lv c d h1 h2 h3
  rw [wks]
  split
  · rename_i h
    exact acC r lv _ _ h1 (h4.1 h) h4.2
  · exact ⟨fun q=>by simp at q,h4.2⟩
end
def Walks (C:aG) (root nd:Nd):Prop:=∀ (lv c d n:Nat),4≤n→c≤64→d≤7→lv≤7 →
 ∃ n',RnW C 433 [.rop nd.c,.int .i64 lv,.ptr 1 0 0,.ptr 2 0 0,.ptr 3 0 0] (hpM root (c,d)) n=some (.bool (wk nd lv (c,d)).1,hpM root (wk nd lv (c,d)).2,n')
theorem lM (d lv:Nat):imax d lv=((max d lv:Nat):Int):=by
 by_cases h:lv≤d
 · rw [MH (by omega),Nat.max_eq_left h]
 · rw [adg (by omega),Nat.max_eq_right (by omega)]
theorem Y2 (H:QG C) (root nd:Nd) (X:AV) (hX:X=.rop nd.c∨X=.ptr 0 0 0∧root=nd) (lv n:Nat) (hn:4≤n) (hlv:lv≤6) (hl:nd.ch.length≤16) (ih:∀ m ∈ nd.ch,Walks C root m):∀ j i,j+i=nd.ch.length→∀ c d,c≤64→d≤7 →
 ∃ n',CK C n (iW [.tmp 7]) [.sq Kv,.bk 0 ⟨true,[],[]⟩,.sq EL] wY ⟨[(30,.int .i64 i),(29,.int .i64 nd.ch.length),(4,.ptr 3 0 0),(1,.int .i64 lv),(0,X)],hpM root (c,d),n⟩ =
  some (.bool (wks (nd.ch.drop i) (lv+1) (c,d)).1,hpM root (wks (nd.ch.drop i) (lv+1) (c,d)).2,n'):=by
 have n0:0 < n:=by omega
 have n1:1 < n:=by omega
 have n2:2 < n:=by omega
 have n3:3 < n:=by omega
 intro j
 induction j with
 | zero =>
  intro i hi c d hc hd
  have h1:nd.ch.drop i=[]:=List.drop_eq_nil_of_le (by omega)
  have h3:¬ i < nd.ch.length:=by omega
  rw [h1,wks,aj wY.eq_1]
  refine ⟨?_,?_⟩
  rotate_left
  · rcases hX with rfl | ⟨rfl,rfl⟩
    · simp (disch:=omega) [aj EL.eq_1,n0,n1,n2,n3,h3]
      rfl
    · simp (disch:=omega) [aj EL.eq_1,n0,n1,n2,n3,h3]
 | succ j ihj =>
  intro i hi c d hc hd
  have h1:i < nd.ch.length:=by omega
  obtain ⟨n',hw⟩:=ih _ (List.getElem_mem h1) (lv+1) c d (n+1+1+1+11) (by omega) hc hd (by omega)
  have hb:=ahL nd.ch[i] (lv+1) c d (by omega) hc hd
  rw [drop_cons h1,wks]
  generalize hR:wk nd.ch[i] (lv+1) (c,d)=R at *
  obtain ⟨r,c',d'⟩:=R
  cases r with
  | true =>
   obtain ⟨n2',hw2⟩:=ihj (i+1) (by omega) c' d' (hb.1 rfl) hb.2
   refine ⟨n2',?_⟩
   rw [if_pos rfl]
   rw [aj wY.eq_1]
   simp at hw hw2
   rcases hX with rfl | ⟨rfl,rfl⟩
   · simp (disch:=omega) [aB,H.inl,ak,H.pp,ppB,n0,n1,n2,n3,h1,hw,hw2]
   · simp (disch:=omega) [aB,H.inl,ak,H.pp,ppB,n0,n1,n2,n3,h1,hw,hw2]
  | false =>
   rw [if_neg (by simp)]
   rw [aj wY.eq_1]
   simp at hw
   refine ⟨?_,?_⟩
   rotate_left
   · rcases hX with rfl | ⟨rfl,rfl⟩
     · simp (disch:=omega) [aB,H.inl,ak,H.pp,ppB,n0,n1,n2,n3,h1,hw]
       rfl
     · simp (disch:=omega) [aB,H.inl,ak,H.pp,ppB,n0,n1,n2,n3,h1,hw]
theorem Js (H:QG C) (root nd:Nd) (X:AV) (hX:X=.rop nd.c∨X=.ptr 0 0 0∧root=nd) (ih:∀ m ∈ nd.ch,Walks C root m) (lv c d n:Nat) (hn:4≤n) (hc:c≤64) (hd:d≤7) (hlv:lv≤7) :
 ∃ n',RnW C 433 [X,.int .i64 lv,.ptr 1 0 0,.ptr 2 0 0,.ptr 3 0 0] (hpM root (c,d)) n=some (.bool (wk nd lv (c,d)).1,hpM root (wk nd lv (c,d)).2,n'):=by
 rw [bV (args:=[X,.int .i64 lv,.ptr 1 0 0,.ptr 2 0 0,.ptr 3 0 0]) H.akc rfl (hpM root (c,d)) n,aa8]
 have ha:=adL H.toVL nd
 have n0:0 < n:=by omega
 have n1:1 < n:=by omega
 have n2:2 < n:=by omega
 have n3:3 < n:=by omega
 by_cases b1:6 < lv
 · rw [if_pos (.inl b1)]
   refine ⟨?_,?_⟩
   rotate_left
   · rcases hX with rfl | ⟨rfl,rfl⟩
     · simp (disch:=omega) [GV,aB,H.inl,ak,H.pp,ppB,b1,n0,n1,n2,n3,lM]
       rfl
     · simp (disch:=omega) [GV,aB,H.inl,ak,H.pp,ppB,b1,n0,n1,n2,n3,lM]
 · by_cases b2:64 < c+1
   · rw [if_pos (.inr (.inl b2))]
     have b2':64 < (c:Int)+1:=by omega
     refine ⟨?_,?_⟩
     rotate_left
     · rcases hX with rfl | ⟨rfl,rfl⟩
       · simp (disch:=omega) [GV,aB,H.inl,ak,H.pp,ppB,b1,b2',n0,n1,n2,n3,lM]
         rfl
       · simp (disch:=omega) [GV,aB,H.inl,ak,H.pp,ppB,b1,b2',n0,n1,n2,n3,lM]
   · have b2':¬ 64 < (c:Int)+1:=by omega
     cases b3:alone nd with
     | false =>
      rw [if_pos (.inr (.inr rfl))]
      rw [b3] at ha
      refine ⟨?_,?_⟩
      rotate_left
      · rcases hX with rfl | ⟨rfl,rfl⟩
        · simp (disch:=omega) [GV,aB,H.inl,ak,H.pp,ppB,b1,b2',ha,n0,n1,n2,n3,lM]
          rfl
        · simp (disch:=omega) [GV,aB,H.inl,ak,H.pp,ppB,b1,b2',ha,n0,n1,n2,n3,lM]
     | true =>
      rw [if_neg (by simp;omega)]
      have hl:nd.ch.length≤16:=by
       unfold alone at b3
       split at b3
       · simp at b3;rw [b3.2];simp
       · simp at b3;omega
      rw [b3] at ha
      obtain ⟨n',hw⟩:=Y2 H root nd X hX lv n hn (by omega) hl ih nd.ch.length 0 (by simp) (c+1) (max d lv) (by omega) (by omega)
      refine ⟨n',?_⟩
      rw [List.drop_zero] at hw
      have hI:=lM d lv
      generalize max d lv=D at *
      generalize wks nd.ch (lv+1) (c+1,D)=R at *
      simp only [hpM] at hw ⊢
      simp at hw
      rcases hX with rfl | ⟨rfl,rfl⟩
      · simp (disch:=omega) [GV,aB,H.inl,ak,H.pp,ppB,b1,b2',ha,n0,n1,n2,n3,hI,hw]
      · simp (disch:=omega) [GV,aB,H.inl,ak,H.pp,ppB,b1,b2',ha,n0,n1,n2,n3,hI,hw]
theorem uX (n:Nd):SizeOf.sizeOf n.ch < SizeOf.sizeOf n:=by cases n;simp;omega
theorem walks (H:QG C) (root nd:Nd):Walks C root nd :=
 fun lv c d n hn hc hd hlv=>Js H root nd (.rop nd.c) (.inl rfl) (fun m hm=>walks H root m) lv c d n hn hc hd hlv
termination_by SizeOf.sizeOf nd
decreasing_by
 have:=List.sizeOf_lt_of_mem hm
 have:=uX nd
 omega
def cnt (n:Nd):Nat:=if (wk n 1 (0,0)).1=true then (wk n 1 (0,0)).2.1 else 0
def dep (n:Nd):Nat:=if (wk n 1 (0,0)).1=true then (wk n 1 (0,0)).2.2 else 0
theorem Vz (H:QG C) (n:Nd):FnW C 282 [.agg n.c]=some (.tup [.int .i64 (cnt n),.int .i64 (dep n)]):=by
 rw [aH H.f282 rfl]
 have hw:=fun k hk=>Js H n n (.ptr 0 0 0) (.inr ⟨rfl,rfl⟩) (fun m _=>walks H n m) 1 0 0 k hk (by omega) (by omega) (by omega)
 unfold cnt dep
 generalize wk n 1 (0,0)=R at *
 obtain ⟨r,c,d⟩:=R
 obtain ⟨n',h⟩:=hw 8 (by omega)
 simp only [hpM] at h
 simp at h
 cases r <;> simp [ahr,H.inl,ak,H.pp,ppB,h]
theorem QE (H:QG C) (n:Nd):FnW C 140 [.agg n.c]=some (.int .i64 (cnt n)):=by
 have h:=Vz H n
 rw [aH H.f140 rfl]
 simp [agk,H.inl,ak,H.pp,ppB,h]
theorem RI (H:QG C) (n:Nd):FnW C 439 [.agg n.c]=some (.int .i64 (if cnt n=0 then 14 else 0)):=by
 have h:=QE H n
 rw [aH H.aiC rfl]
 by_cases c:cnt n=0
 · simp [ac3,H.inl,ak,H.pp,ppB,h,c]
 · simp [ac3,H.inl,ak,H.pp,ppB,h,c]
end Go.D
end
section
namespace Go.D
open Go Go.Pav Go.Pw P
attribute [-simp] List.getElem_cons_drop
variable {C:aG}
structure Qw (C:aG):Prop extends QG C where
 ZW:C.fns.get 563=some xQ
 ajL:C.fns.get 520=some Zz
 akv:C.fns.get 442=some aaq
 akd:C.fns.get 441=some ac8
abbrev hp1 (n:Nd):aK:=[(0,.cells 6 [n.c] true true)]
theorem abR (n:Nd) (i:Nat) (hi:i < n.ch.length) (hl:n.ch.length≤16) (R:AV)
 (hout:wE C ⟨[(5,.int .i64 (i+1:Nat)),(1,.ptr 0 0 0)],hp1 n,1⟩=some R):∀ j k,j+k=i →
 Eo C ⟨[(6,.int .i64 k),(5,.int .i64 i),(1,.ptr 0 0 0)],hp1 n,1⟩=some (if decide (n.ch[i].y≠[])&&(((n.ch.map Nd.y).take i).drop k).contains n.ch[i].y then .bool false else R):=by
 intro j
 induction j with
 | zero =>
  intro k hk
  have h1:((n.ch.map Nd.y).take i).drop k=[]:=List.drop_eq_nil_of_le (by simp;omega)
  have h3:¬ k < i:=by omega
  simp only [wE] at hout
  simp only [Eo];rw [aj Ba.eq_1]
  simp at hout
  simp (disch:=omega) [aj LD.eq_1,h1,h3,aB,hout]
 | succ j ih =>
  intro k hk
  have h1:k < i:=by omega
  have h2:k < n.ch.length:=by omega
  have hlt:k < ((n.ch.map Nd.y).take i).length:=by simp;omega
  have:=ih (k+1) (by omega)
  rw [drop_cons hlt]
  have hy:((n.ch.map Nd.y).take i)[k]=n.ch[k].y:=by simp
  rw [hy]
  generalize (((n.ch.map Nd.y).take i).drop (k+1))=Q at *
  simp only [Eo] at this ⊢;rw [aj Ba.eq_1]
  simp at this
  by_cases c1:n.ch[i].y=[]
  · simp [c1] at this
    simp (disch:=omega) [h1,h2,hi,aB,c1,this]
  · by_cases c2:n.ch[i].y=n.ch[k].y
    · have c3:¬ n.ch[k].y=[]:=by rw [← c2];exact c1
      simp (disch:=omega) [h1,h2,hi,aB,c1,c2,c3]
    · simp [c1] at this
      simp (disch:=omega) [h1,h2,hi,aB,c1,c2,this]
theorem X8 (n:Nd) (hl:n.ch.length≤16):∀ j i,j+i=n.ch.length →
 wE C ⟨[(5,.int .i64 i),(1,.ptr 0 0 0)],hp1 n,1⟩=some (.bool (iy ((n.ch.map Nd.y).take i) ((n.ch.map Nd.y).drop i))):=by
 intro j
 induction j with
 | zero =>
  intro i hi
  simp only [wE];rw [aj y9.eq_1]
  have h1:(n.ch.map Nd.y).drop i=[]:=List.drop_eq_nil_of_le (by simp;omega)
  have h3:¬ i < n.ch.length:=by omega
  simp [aj FI.eq_1,h1,h3,iy,-List.map_drop]
 | succ j ih =>
  intro i hi
  have h1:i < n.ch.length:=by omega
  have h2:i < (n.ch.map Nd.y).length:=by simp;omega
  have hin:=abR n i h1 hl _ (ih (i+1) (by omega)) i 0 (by simp)
  have hy:(n.ch.map Nd.y)[i]=n.ch[i].y:=by simp
  rw [List.take_succ_eq_append_getElem h2,List.drop_zero,hy] at hin
  rw [drop_cons h2,iy,hy]
  generalize (n.ch.map Nd.y).take i=P at *
  generalize (n.ch.map Nd.y).drop (i+1)=Q at *
  simp only [wE,Eo] at hin ⊢;rw [aj y9.eq_1]
  simp at hin
  by_cases c1:n.ch[i].y=[]
  · simp [c1] at hin
    simp (disch:=omega) [h1,hin,c1]
  · by_cases c2:n.ch[i].y ∈ P
    · simp [c1,c2] at hin
      simp (disch:=omega) [h1,hin,c1,c2]
    · simp [c1,c2] at hin
      simp (disch:=omega) [h1,hin,c1,c2]
theorem abS (n:Nd) (i:Nat) (hi:i < n.a.length) (hl:n.a.length≤8) (R:AV)
 (hout:nG C ⟨[(3,.int .i64 (i+1:Nat)),(1,.ptr 0 0 0)],hp1 n,1⟩=some R):∀ j k,j+k=i →
 pI C ⟨[(4,.int .i64 k),(3,.int .i64 i),(1,.ptr 0 0 0)],hp1 n,1⟩=some (if ((n.a.take i).drop k).all (fun b=>decide (b.1 < n.a[i].1))=true then R else .bool false):=by
 intro j
 induction j with
 | zero =>
  intro k hk
  have h1:(n.a.take i).drop k=[]:=List.drop_eq_nil_of_le (by simp;omega)
  have h3:¬ k < i:=by omega
  simp only [nG] at hout
  simp only [pI];rw [aj rZ.eq_1]
  simp at hout
  simp (disch:=omega) [aj Nh.eq_1,h1,h3,aB,hout]
 | succ j ih =>
  intro k hk
  have h1:k < i:=by omega
  have h2:k < n.a.length:=by omega
  have hlt:k < (n.a.take i).length:=by simp;omega
  have:=ih (k+1) (by omega)
  rw [drop_cons hlt]
  have hy:(n.a.take i)[k]=n.a[k]:=by simp
  rw [hy]
  generalize ((n.a.take i).drop (k+1))=Q at *
  simp only [pI] at this ⊢;rw [aj rZ.eq_1]
  simp at this
  by_cases c1:n.a[k].1 < n.a[i].1
  · rw [List.all_cons,decide_eq_true c1,Bool.true_and]
    simp (disch:=omega) [h1,h2,hi,aB,blt_eq,c1,this]
  · rw [List.all_cons,decide_eq_false c1,Bool.false_and]
    have c2:n.a[i].1≤n.a[k].1:=List.not_lt.1 c1
    simp (disch:=omega) [h1,h2,hi,aB,blt_eq,c1,c2]
theorem Zn (n:Nd) (i:Nat) (hi:i < n.a.length) (hl:n.a.length≤8):∀ j k,j+k=i→((n.a.take i).drop k).all (fun b=>decide (b.1 < n.a[i].1))=false →
 pI C ⟨[(4,.int .i64 k),(3,.int .i64 i),(1,.ptr 0 0 0)],hp1 n,1⟩=some (.bool false):=by
 intro j
 induction j with
 | zero =>
  intro k hk hf
  have h1:(n.a.take i).drop k=[]:=List.drop_eq_nil_of_le (by simp;omega)
  rw [h1] at hf
  simp at hf
 | succ j ih =>
  intro k hk hf
  have h1:k < i:=by omega
  have h2:k < n.a.length:=by omega
  have hlt:k < (n.a.take i).length:=by simp;omega
  rw [drop_cons hlt] at hf
  have hy:(n.a.take i)[k]=n.a[k]:=by simp
  rw [hy,List.all_cons] at hf
  by_cases c1:n.a[k].1 < n.a[i].1
  · rw [decide_eq_true c1,Bool.true_and] at hf
    have:=ih (k+1) (by omega) hf
    simp only [pI] at this ⊢;rw [aj rZ.eq_1]
    simp at this
    simp (disch:=omega) [h1,h2,hi,aB,blt_eq,c1,this]
  · have c2:n.a[i].1≤n.a[k].1:=List.not_lt.1 c1
    simp only [pI];rw [aj rZ.eq_1]
    simp (disch:=omega) [h1,h2,hi,aB,blt_eq,c1,c2]
theorem XZ (H:Qw C) (n:Nd) (hl:n.a.length≤8) (hl2:n.ch.length≤16):∀ j i,j+i=n.a.length→(∀ (p q:Nat) (hp:p < n.a.length) (hq:q < n.a.length),p < q→q < i→n.a[p].1 < n.a[q].1) →
 nG C ⟨[(3,.int .i64 i),(1,.ptr 0 0 0)],hp1 n,1⟩=some (.bool (atOk (if i=0 then none else (n.a[i - 1]?).map Prod.fst) (n.a.drop i)&&iy [] (n.ch.map Nd.y))):=by
 intro j
 induction j with
 | zero =>
  intro i hi hs
  have hk:=X8 (C:=C) n hl2 n.ch.length 0 (by simp)
  simp only [List.take_zero,List.drop_zero] at hk
  generalize iy [] (n.ch.map Nd.y)=K at *
  simp only [wE] at hk
  simp at hk
  simp only [nG];rw [aj rW.eq_1]
  have h1:n.a.drop i=[]:=List.drop_eq_nil_of_le (by omega)
  have h3:¬ i < n.a.length:=by omega
  simp [aj Ew.eq_1,h1,h3,atOk,hk]
 | succ j ih =>
  intro i hi hs
  have h1:i < n.a.length:=by omega
  have hb:=oD H.tong n.a[i].1
  have hc:=Bo H.tong n.a[i].2
  rw [drop_cons h1,atOk]
  generalize hK:iy [] (n.ch.map Nd.y)=K at *
  cases q1:isName n.a[i].1
  · rw [q1] at hb
    simp only [nG];rw [aj rW.eq_1]
    simp (disch:=omega) [h1,aB,hb,H.inl,ak,H.pp,ppB]
  · cases q2:isText n.a[i].2
    · rw [q1] at hb;rw [q2] at hc
      simp only [nG];rw [aj rW.eq_1]
      simp (disch:=omega) [h1,aB,hb,hc,H.inl,ak,H.pp,ppB]
    · rw [q1] at hb;rw [q2] at hc
      have key:(n.a.take i).all (fun b=>decide (b.1 < n.a[i].1))=after (if i=0 then none else (n.a[i - 1]?).map Prod.fst) n.a[i].1:=by
       cases i with
       | zero=>simp [after]
       | succ i =>
        have h4:i < n.a.length:=by omega
        rw [if_neg (by omega),show i+1 - 1=i from rfl,List.getElem?_eq_getElem h4]
        simp only [Option.map_some,after]
        by_cases q3:n.a[i].1 < n.a[i+1].1
        · rw [decide_eq_true q3,List.all_eq_true]
          intro b hb
          obtain ⟨p,hp,rfl⟩:=List.getElem_of_mem hb
          simp at hp
          rw [List.getElem_take]
          apply decide_eq_true
          by_cases e:p=i
          · subst e;exact q3
          · exact List.lt_trans (hs p i (by omega) h4 (by omega) (by omega)) q3
        · rw [decide_eq_false q3,List.all_eq_false]
          exact ⟨n.a[i],List.mem_take_iff_getElem.2 ⟨i,by omega,rfl⟩,by simp [q3]⟩
      have step:∀ R,pI C ⟨[(4,.int .i64 (0:Nat)),(3,.int .i64 i),(1,.ptr 0 0 0)],hp1 n,1⟩=some R→nG C ⟨[(3,.int .i64 i),(1,.ptr 0 0 0)],hp1 n,1⟩=some R:=by
       intro R hR
       simp only [nG,pI] at hR ⊢;rw [aj rW.eq_1]
       simp at hR
       simp (disch:=omega) [h1,aB,hb,hc,H.inl,ak,H.pp,ppB,hR]
      by_cases q3:(n.a.take i).all (fun b=>decide (b.1 < n.a[i].1))=true
      · have:=ih (i+1) (by omega) (fun p q hp hq h5 h6=>by
         by_cases e:q=i
         · subst e
           have:=List.all_eq_true.1 q3 n.a[p] (List.mem_take_iff_getElem.2 ⟨p,by omega,rfl⟩)
           simpa using this
         · exact hs p q hp hq h5 (by omega))
        rw [if_neg (by omega),show i+1 - 1=i from rfl,List.getElem?_eq_getElem h1] at this
        have hin:=abS n i h1 hl _ this i 0 (by simp)
        rw [List.drop_zero,if_pos q3] at hin
        rw [step _ hin,← key,q3]
        simp
      · have q4:(n.a.take i).all (fun b=>decide (b.1 < n.a[i].1))=false:=Bool.eq_false_iff.2 q3
        rw [← key,q4]
        simp only [Bool.and_false,Bool.false_and]
        exact step _ (Zn n i h1 hl i 0 (by simp) (by rw [List.drop_zero];exact q4))
theorem aiW (H:Qw C) (n:Nd):FnW C 563 [.agg n.c]=some (.bool (alone n)):=by
 rw [aH H.ZW rfl]
 unfold alone
 have ht:=oD H.tong n.t
 have hy:=oD H.tong n.y
 have hx:=Bo H.tong n.x
 by_cases k2:n.k=2
 · rw [if_pos k2]
   generalize isText n.x=X at *
   cases X
   · simp [xQ,k2,hx,H.inl,ak,H.pp,ppB]
   · by_cases c1:n.t=[] <;> by_cases c2:n.y=[] <;> by_cases c3:n.a=[] <;> by_cases c4:n.ch=[] <;> simp [xQ,k2,hx,H.inl,ak,H.pp,ppB,c1,c2,c3,c4]
 · rw [if_neg k2]
   by_cases k1:n.k=1
   · cases q1:isName n.t
     · rw [q1] at ht;simp [xQ,k1,ht,H.inl,ak,H.pp,ppB]
     · rw [q1] at ht
       have rest:(n.y=[]∨n.y≠[]∧isName n.y=true)→FnW C 563 [.agg n.c]=some (.bool (decide (n.x=[])&&decide (n.a.length≤8)&&decide (n.ch.length≤16)&&atOk none n.a&&iy [] (n.ch.map Nd.y))):=by
        intro hyy
        rw [aH H.ZW rfl]
        by_cases c3:n.x=[]
        · by_cases c4:n.a.length≤8
          · by_cases c5:n.ch.length≤16
            · have c6:¬ 8 < (n.a.length:Int):=by omega
              have c7:¬ 16 < (n.ch.length:Int):=by omega
              have hl:=XZ H n c4 c5 n.a.length 0 (by simp) (by omega)
              simp only [nG,if_true,List.drop_zero] at hl
              generalize atOk none n.a=A at *
              generalize iy [] (n.ch.map Nd.y)=K at *
              simp at hl
              rcases hyy with c2 | ⟨c2,q2⟩
              · simp [xQ,k1,ht,H.inl,ak,H.pp,ppB,eq_true c2,eq_true c3,c4,c5,c6,c7,hl]
              · rw [q2] at hy
                simp [xQ,k1,ht,hy,H.inl,ak,H.pp,ppB,c2,eq_true c3,c4,c5,c6,c7,hl]
            · have c6:¬ 8 < (n.a.length:Int):=by omega
              have c7:16 < (n.ch.length:Int):=by omega
              rcases hyy with c2 | ⟨c2,q2⟩
              · simp [xQ,k1,ht,H.inl,ak,H.pp,ppB,eq_true c2,eq_true c3,c4,c5,c6,c7]
              · rw [q2] at hy
                simp [xQ,k1,ht,hy,H.inl,ak,H.pp,ppB,c2,eq_true c3,c4,c5,c6,c7]
          · have c6:8 < (n.a.length:Int):=by omega
            rcases hyy with c2 | ⟨c2,q2⟩
            · simp [xQ,k1,ht,H.inl,ak,H.pp,ppB,eq_true c2,eq_true c3,c4,c6]
            · rw [q2] at hy
              simp [xQ,k1,ht,hy,H.inl,ak,H.pp,ppB,c2,eq_true c3,c4,c6]
        · rcases hyy with c2 | ⟨c2,q2⟩
          · simp [xQ,k1,ht,H.inl,ak,H.pp,ppB,eq_true c2,c3]
          · rw [q2] at hy
            simp [xQ,k1,ht,hy,H.inl,ak,H.pp,ppB,c2,c3]
       rw [aH H.ZW rfl] at rest
       by_cases c2:n.y=[]
       · rw [rest (.inl c2)];simp [k1,c2]
       · cases q2:isName n.y
         · rw [q2] at hy;simp [xQ,k1,ht,hy,H.inl,ak,H.pp,ppB,c2]
         · rw [rest (.inr ⟨c2,q2⟩)];simp [k1]
   · simp [xQ,k1,k2,H.inl,ak,H.pp,ppB]
mutual
/-- The specification's count, with so many levels. -/
def rc:Nd→Nat→Nat
 | _,0=>1000
 | ⟨k,t,y,a,ae,x,ch,ce⟩,lv+1=>if alone ⟨k,t,y,a,ae,x,ch,ce⟩=true then rcs ch lv 1 else 1000
def rcs:List Nd→Nat→Nat→Nat
 | [],_,c=>c
 | m::r,lv,c=>if c≤64 then rcs r lv (c+rc m lv) else c
end
theorem amN (n:Nd):rc n 0=1000:=by cases n;rw [rc]
theorem akB (n:Nd) (lv:Nat):rc n (lv+1)=if alone n=true then rcs n.ch lv 1 else 1000:=by cases n;rw [rc]
theorem U0:∀ (l:List Nd) (lv c:Nat),c≤rcs l lv c
 | [],lv,c=>by rw [rcs];exact Nat.le_refl _
 | m::r,lv,c=>by
  rw [rcs]
  split
  · have:=U0 r lv (c+rc m lv);omega
  · exact Nat.le_refl _
theorem ams (n:Nd) (lv:Nat):1≤rc n lv:=by
 cases lv with
 | zero=>rw [amN];omega
 | succ lv =>
  rw [akB]
  split
  · exact U0 _ _ _
  · omega
mutual
theorem aii:∀ (n:Nd) (lv:Nat),rc n lv≤1000+64 * lv
 | ⟨k,t,y,a,ae,x,ch,ce⟩,0=>by rw [rc];omega
 | ⟨k,t,y,a,ae,x,ch,ce⟩,lv+1=>by
  rw [rc]
  split
  · have:=adS ch lv 1 (by omega);omega
  · omega
theorem adS:∀ (l:List Nd) (lv c:Nat),c≤1064+64 * lv→rcs l lv c≤1064+64 * lv
 | [],lv,c,h=>by rw [rcs];exact h
 | m::r,lv,c,h=>by
  rw [rcs]
  split
  · have h2:=aii m lv
    exact adS r lv _ (by omega)
  · exact h
end
mutual
theorem ahS:∀ (n:Nd) (lv L c d:Nat),lv+L=7→c≤64→((wk n L (c,d)).1=true→(wk n L (c,d)).2.1=c+rc n lv∧c+rc n lv≤64)∧((wk n L (c,d)).1=false→64 < c+rc n lv)
 | ⟨k,t,y,a,ae,x,ch,ce⟩,lv,L,c,d,h1,h2=>by
  have hge:=ams ⟨k,t,y,a,ae,x,ch,ce⟩ lv
  rw [wk]
  by_cases q:6 < L∨64 < c+1∨alone ⟨k,t,y,a,ae,x,ch,ce⟩=false
  · rw [if_pos q]
    refine ⟨fun r=>by simp at r,fun _=>?_⟩
    rcases q with q | q | q
    · have:lv=0:=by omega
      subst this
      rw [rc];omega
    · omega
    · cases lv with
      | zero=>rw [rc];omega
      | succ lv=>rw [rc,if_neg (by simp [q])];omega
  · rw [if_neg q]
    cases lv with
    | zero=>omega
    | succ lv =>
     rw [rc,if_pos (by simpa using fun r=>q (.inr (.inr r)))]
     exact aaN ch lv (L+1) c 1 (max d L) (by omega) (by omega)
theorem aaN:∀ (l:List Nd) (lv L g c d:Nat),lv+L=7→g+c≤64→((wks l L (g+c,d)).1=true→(wks l L (g+c,d)).2.1=g+rcs l lv c∧g+rcs l lv c≤64)∧((wks l L (g+c,d)).1=false→64 < g+rcs l lv c)
 | [],lv,L,g,c,d,h1,h2=>by
  rw [wks,rcs];exact ⟨fun _=>⟨rfl,h2⟩,fun r=>by simp at r⟩
 | m::r,lv,L,g,c,d,h1,h2=>by
  have hm:=ahS m lv L (g+c) d h1 h2
  have hr:rcs (m::r) lv c=rcs r lv (c+rc m lv):=by rw [rcs,if_pos (by omega)]
  rw [wks,hr]
  generalize wk m L (g+c,d)=R at *
  obtain ⟨b,c',d'⟩:=R
  cases b with
  | true =>
   obtain ⟨e1,e2⟩:=hm.1 rfl
   rw [if_pos rfl]
   simp only at e1
   rw [e1,Nat.add_assoc]
   exact aaN r lv L g (c+rc m lv) d' h1 (by omega)
  | false =>
   have e:=hm.2 rfl
   rw [if_neg (by simp)]
   refine ⟨fun q=>by simp at q,fun _=>?_⟩
   have:=U0 r lv (c+rc m lv)
   omega
end
theorem aaj (n:Nd):cnt n=if 64 < rc n 6 then 0 else rc n 6:=by
 have h:=ahS n 6 1 0 0 rfl (by omega)
 unfold cnt
 generalize wk n 1 (0,0)=R at *
 obtain ⟨b,c,d⟩:=R
 cases b with
 | true =>
  obtain ⟨e1,e2⟩:=h.1 rfl
  simp only at e1
  rw [if_pos rfl,if_neg (by omega)];simp only;omega
 | false =>
  have e:=h.2 rfl
  rw [if_neg (by simp),if_pos (by omega)]
theorem QA (H:Qw C) (n:Nd) (lv:Nat) (hlv:lv≤5) (hl:n.ch.length≤16) (ih:∀ m ∈ n.ch,FnW C 520 [.agg m.c,.int .i64 lv]=some (.int .i64 (rc m lv))):∀ j i,j+i=n.ch.length→∀ c,c≤1064+64 * lv →
 zK C ⟨[(6,.int .i64 i),(5,.int .i64 c),(2,.ptr 0 0 0),(1,.int .i64 (lv+1:Nat))],hp1 n,1⟩=some (.int .i64 (rcs (n.ch.drop i) lv c)):=by
 intro j
 induction j with
 | zero =>
  intro i hi c hc
  simp only [zK];rw [aj wU.eq_1]
  have h1:n.ch.drop i=[]:=List.drop_eq_nil_of_le (by omega)
  have h3:¬ i < n.ch.length:=by omega
  rw [h1,rcs]
  simp [aj Eh.eq_1,h3]
 | succ j ihj =>
  intro i hi c hc
  have h1:i < n.ch.length:=by omega
  have hm:=ih _ (List.getElem_mem h1)
  have hle:=aii n.ch[i] lv
  rw [drop_cons h1,rcs]
  by_cases c1:c≤64
  · have:=ihj (i+1) (by omega) (c+rc n.ch[i] lv) (by omega)
    rw [if_pos c1]
    have c2:(c:Int)≤64:=by omega
    simp only [zK] at this ⊢;rw [aj wU.eq_1]
    simp at this
    simp (disch:=omega) [h1,c1,c2,aB,hm,H.inl,ak,H.pp,ppB,this]
  · rw [if_neg c1]
    have c2:¬ (c:Int)≤64:=by omega
    simp only [zK];rw [aj wU.eq_1]
    simp (disch:=omega) [aj Eh.eq_1,h1,c1,c2]
theorem P9 (H:Qw C) (n:Nd) (ih:∀ m ∈ n.ch,∀ lv:Nat,lv≤6→FnW C 520 [.agg m.c,.int .i64 lv]=some (.int .i64 (rc m lv))) (lv:Nat) (hlv:lv≤6):FnW C 520 [.agg n.c,.int .i64 lv]=some (.int .i64 (rc n lv)):=by
 have ho:=aiW H n
 rw [aH H.ajL rfl]
 cases lv with
 | zero=>rw [amN];simp [Zz]
 | succ lv =>
  rw [akB]
  have c1:¬ (lv:Int)+1 < 1:=by omega
  cases ha:alone n with
  | false=>rw [ha] at ho;simp [Zz,c1,ho,H.inl,ak,H.pp,ppB]
  | true =>
   rw [ha] at ho
   have hl:n.ch.length≤16:=by
    unfold alone at ha
    split at ha
    · simp at ha;rw [ha.2];simp
    · simp at ha;omega
   have hr:=QA H n lv (by omega) hl (fun m hm=>ih m hm lv (by omega)) n.ch.length 0 (by simp) 1 (by omega)
   rw [List.drop_zero] at hr
   simp only [zK] at hr
   simp at hr
   simp [Zz,c1,ho,H.inl,ak,H.pp,ppB,hr]
theorem Jw (H:Qw C) (n:Nd) (lv:Nat) (hlv:lv≤6):FnW C 520 [.agg n.c,.int .i64 lv]=some (.int .i64 (rc n lv)) :=
 P9 H n (fun m hm lv hlv=>Jw H m lv hlv) lv hlv
termination_by SizeOf.sizeOf n
decreasing_by
 have:=List.sizeOf_lt_of_mem hm
 have:=uX n
 omega
theorem J4 (H:Qw C) (n:Nd):FnW C 442 [.agg n.c]=some (.int .i64 (cnt n)):=by
 have h:=Jw H n 6 (by omega)
 rw [aH H.akv rfl,aaj]
 generalize rc n 6=R at *
 simp at h
 by_cases c:64 < R
 · have c1:64 < (R:Int):=by omega
   simp [aaq,H.inl,ak,H.pp,ppB,h,c,c1]
 · have c1:¬ 64 < (R:Int):=by omega
   simp [aaq,H.inl,ak,H.pp,ppB,h,c,c1]
theorem Y7 (H:Qw C) (n:Nd):FnW C 441 [.agg n.c]=some (.int .i64 (if cnt n=0 then 14 else 0)):=by
 have h:=J4 H n
 rw [aH H.akd rfl]
 by_cases c:cnt n=0
 · simp [ac8,H.inl,ak,H.pp,ppB,h,c]
 · simp [ac8,H.inl,ak,H.pp,ppB,h,c]
end Go.D
end
section
namespace Go.D
open Go Go.Pav Go.Pw P
attribute [-simp] List.getElem_cons_drop
variable {C:aG}
structure Sl where
 n:Bs
 f:Int
 v:Bs
@[simp] def eSl (s:Sl):List AV:=[.str s.n,.int .u8 s.f,.str s.v]
structure Pt where
 k:Int
 t:Bs
 y:Bs
 s:List Sl
 se:Bool
 x:Bs
 ch:List Pt
 ce:Bool
mutual
def Pt.c:Pt→List AV
 | ⟨k,t,y,s,se,x,ch,ce⟩=>[.int .u8 k,.str t,.str y,.ro 3 (s.map eSl) se,.str x,.ro 6 (Pt.cs ch) ce]
def Pt.cs:List Pt→List (List AV)
 | []=>[]
 | n::r=>n.c::Pt.cs r
end
theorem Pt.SL:∀ l:List Pt,Pt.cs l=l.map Pt.c
 | []=>rfl
 | n::r=>by rw [Pt.cs,Pt.SL r];rfl
theorem Pt.dY (n:Pt):n.c=[.int .u8 n.k,.str n.t,.str n.y,.ro 3 (n.s.map eSl) n.se,.str n.x,.ro 6 (n.ch.map Pt.c) n.ce]:=by
 cases n;rw [Pt.c,Pt.SL]
@[simp] theorem Pt.am1 (n:Pt):n.c.length=6:=by rw [Pt.dY];rfl
@[simp] theorem Pt.aiR (n:Pt):n.c.take 6=n.c:=List.take_of_length_le (by simp)
@[simp] theorem Pt.c0 (n:Pt):n.c[0]?=some (.int .u8 n.k):=by rw [Pt.dY];rfl
@[simp] theorem Pt.c1 (n:Pt):n.c[1]?=some (.str n.t):=by rw [Pt.dY];rfl
@[simp] theorem Pt.c2 (n:Pt):n.c[2]?=some (.str n.y):=by rw [Pt.dY];rfl
@[simp] theorem Pt.c3 (n:Pt):n.c[3]?=some (.ro 3 (n.s.map eSl) n.se):=by rw [Pt.dY];rfl
@[simp] theorem Pt.c4 (n:Pt):n.c[4]?=some (.str n.x):=by rw [Pt.dY];rfl
@[simp] theorem Pt.c5 (n:Pt):n.c[5]?=some (.ro 6 (n.ch.map Pt.c) n.ce):=by rw [Pt.dY];rfl
@[simp] theorem Pt.g0 (n:Pt) (h:0 < n.c.length):n.c[0]=.int .u8 n.k:=Option.some.inj ((List.getElem?_eq_getElem h).symm.trans n.c0)
@[simp] theorem Pt.g1 (n:Pt) (h:1 < n.c.length):n.c[1]=.str n.t:=Option.some.inj ((List.getElem?_eq_getElem h).symm.trans n.c1)
@[simp] theorem Pt.g2 (n:Pt) (h:2 < n.c.length):n.c[2]=.str n.y:=Option.some.inj ((List.getElem?_eq_getElem h).symm.trans n.c2)
@[simp] theorem Pt.g3 (n:Pt) (h:3 < n.c.length):n.c[3]=.ro 3 (n.s.map eSl) n.se:=Option.some.inj ((List.getElem?_eq_getElem h).symm.trans n.c3)
@[simp] theorem Pt.g4 (n:Pt) (h:4 < n.c.length):n.c[4]=.str n.x:=Option.some.inj ((List.getElem?_eq_getElem h).symm.trans n.c4)
@[simp] theorem Pt.g5 (n:Pt) (h:5 < n.c.length):n.c[5]=.ro 6 (n.ch.map Pt.c) n.ce:=Option.some.inj ((List.getElem?_eq_getElem h).symm.trans n.c5)
@[simp] theorem Pt.hd (n:Pt):n.c.head?=some (.int .u8 n.k):=by rw [Pt.dY];rfl
@[simp] theorem Pt.amh (n:Pt):bQ n.c=false:=by rw [Pt.dY];rfl
@[simp] theorem Pt.ani (n:Pt) (h:aK) (k:Nat):bG (bP h (k+1)) n.c=some n.c:=by rw [Pt.dY];rfl
@[simp] theorem Pt.aew (n:Pt) (h:aK) (k:Nat):n.c.flatMap (aY h (k+1))=[]:=by rw [Pt.dY];rfl
@[simp] theorem Pt.ane (n:Pt) (π:Nat→Option Nat):lG π n.c=some n.c:=by rw [Pt.dY];rfl
@[simp] theorem Pt.akU (n:Pt):DI n.c=[]:=by rw [Pt.dY];rfl
@[simp] theorem Pt.alJ (n:Pt):n.c.all isC=true:=by rw [Pt.dY];rfl
@[simp] theorem Pt.aiG (n:Pt):n.c.all AV.cell=true:=by rw [Pt.dY];rfl
theorem Pt.uX (n:Pt):SizeOf.sizeOf n.ch < SizeOf.sizeOf n:=by cases n;simp;omega
def kF:Option Bs→List Sl→Bool
 | _,[]=>true
 | p,s::r=>isName s.n&&decide (s.f≤3)&&isText s.v&&(decide (s.f≤0)||decide (s.v=[]))&&after p s.n&&kF (some s.n) r
def oU (p:Pt):Bool :=
 if p.k=1 then (decide (p.y=[])||isName p.y)&&decide (p.ch.length≤16)&&isName p.t&&(decide (p.s.length≤8)&&kF none p.s)&&decide (p.x=[])
 else if p.k=5 then isName p.t&&(decide (p.s.length≤8)&&kF none p.s)&&decide (p.y=[])&&decide (p.x=[])&&decide (p.ch=[])
 else if p.k=2 then isText p.x&&decide (p.t=[])&&decide (p.y=[])&&decide (p.s=[])&&decide (p.ch=[])
 else decide (p.k=3∨p.k=4)&&decide (p.t=[])&&decide (p.y=[])&&decide (p.x=[])&&decide (p.s=[])&&decide (p.ch=[])
structure D5 (C:aG):Prop extends QG C where
 akJ:C.fns.get 581=some afM
 ajD:C.fns.get 579=some aeA
 ai1:C.fns.get 585=some adq
 aiy:C.fns.get 549=some iM
 ajB:C.fns.get 502=some aaA
 aiD:C.fns.get 503=some afT
 ajR:C.fns.get 548=some TU
 aj0:C.fns.get 404=some ags
 f231:C.fns.get 231=some acE
theorem QW (n:Nd) (h:n.ch=[]):cnt n=if alone n=true then 1 else 0:=by
 rw [aaj,akB,h,rcs]
 cases alone n <;> simp
theorem xg (H:D5 C) (s:Bs):FnW C 581 [.str s]=some (.bool (isName s)):=by
 have h:FnW C 439 [.agg [.int .u8 1,.str s,.str [],.ro 2 [] true,.str [],.ro 6 [] true]]=_:=RI H.toQG ⟨1,s,[],[],true,[],[],true⟩
 rw [QW _ rfl] at h
 have e:alone ⟨1,s,[],[],true,[],[],true⟩=isName s:=by unfold alone;simp [atOk,iy]
 rw [e] at h
 rw [aH H.akJ rfl]
 cases q:isName s <;> rw [q] at h <;> simp at h <;> simp [afM,H.inl,ak,H.pp,ppB,h]
theorem BQ (H:D5 C) (s:Bs):FnW C 579 [.str s]=some (.bool (isText s)):=by
 have h:FnW C 439 [.agg [.int .u8 2,.str [],.str [],.ro 2 [] true,.str s,.ro 6 [] true]]=_:=RI H.toQG ⟨2,[],[],[],true,s,[],true⟩
 rw [QW _ rfl] at h
 have e:alone ⟨2,[],[],[],true,s,[],true⟩=isText s:=by unfold alone;simp
 rw [e] at h
 rw [aH H.ajD rfl]
 cases q:isText s <;> rw [q] at h <;> simp at h <;> simp [aeA,H.inl,ak,H.pp,ppB,h]
theorem Ux (H:D5 C) (l:List Sl) (e:Bool) (hl:l.length≤1000000):∀ n i,n+i=l.length →
 EI C ⟨[(10,.int .i64 i),(9,.int .i64 l.length),(8,.ro 3 (l.map eSl) e),(0,.ro 3 (l.map eSl) e)],[],0⟩ =
  some (.bool (kF (if i=0 then none else (l[i - 1]?).map Sl.n) (l.drop i))):=by
 intro n
 induction n with
 | zero =>
  intro i hi
  simp only [EI];rw [aj zC.eq_1]
  have h1:l.drop i=[]:=List.drop_eq_nil_of_le (by omega)
  have h3:¬ i < l.length:=by omega
  simp [aj OV.eq_1,h1,h3,kF]
 | succ n ih =>
  intro i hi
  have h1:i < l.length:=by omega
  have hb:=xg H l[i].n
  have hc:=BQ H l[i].v
  have:=ih (i+1) (by omega)
  rw [if_neg (by omega),show i+1 - 1=i from rfl,List.getElem?_eq_getElem h1] at this
  rw [drop_cons h1,kF]
  simp only [EI] at this ⊢;rw [aj zC.eq_1]
  simp only [Option.map_some] at this
  generalize kF (some l[i].n) (l.drop (i+1))=R at *
  cases q1:isName l[i].n
  · rw [q1] at hb
    simp (disch:=omega) [h1,aB,hb,H.inl,ak,H.pp,ppB]
  · rw [q1] at hb
    by_cases f3:l[i].f≤3
    · have f3':¬ 3 < l[i].f:=by omega
      cases q2:isText l[i].v
      · rw [q2] at hc
        simp (disch:=omega) [h1,aB,hb,hc,H.inl,ak,H.pp,ppB,f3,f3']
      · rw [q2] at hc
        by_cases f0:0 < l[i].f∧¬ l[i].v=[]
        · have f1:¬ l[i].f≤0:=by omega
          simp (disch:=omega) [h1,aB,hb,hc,H.inl,ak,H.pp,ppB,f3,f3',f0.1,f0.2,f1]
        · have key:(0 < l[i].f∧l[i].v=[])∨¬ 0 < l[i].f:=by
           by_cases a:0 < l[i].f
           · exact .inl ⟨a,Classical.byContradiction fun b=>f0 ⟨a,b⟩⟩
           · exact .inr a
          cases i with
          | zero =>
           simp at this
           rcases key with ⟨a,b⟩ | a
           · have b':=eq_true b
             simp (disch:=omega) [h1,aB,hb,hc,H.inl,ak,H.pp,ppB,f3,f3',a,b',this,after]
           · have a':l[0].f≤0:=by omega
             simp (disch:=omega) [h1,aB,hb,hc,H.inl,ak,H.pp,ppB,f3,f3',a,a',this,after]
          | succ i =>
           have h4:i < l.length:=by omega
           have h5:(i:Int)+1 < l.length:=by omega
           simp at this
           by_cases q3:l[i].n < l[i+1].n
           · have q4:¬ l[i+1].n≤l[i].n:=List.not_le.2 q3
             rcases key with ⟨a,b⟩ | a
             · have b':=eq_true b
               simp (disch:=omega) [h1,h4,h5,aB,hb,hc,H.inl,ak,H.pp,ppB,f3,f3',a,b',this,after,BX,q3,q4]
             · have a':l[i+1].f≤0:=by omega
               simp (disch:=omega) [h1,h4,h5,aB,hb,hc,H.inl,ak,H.pp,ppB,f3,f3',a,a',this,after,BX,q3,q4]
           · have q4:l[i+1].n≤l[i].n:=List.not_lt.1 q3
             rcases key with ⟨a,b⟩ | a
             · have b':=eq_true b
               simp (disch:=omega) [h1,h4,h5,aB,hb,hc,H.inl,ak,H.pp,ppB,f3,f3',a,b',this,after,BX,q3,q4]
             · have a':l[i+1].f≤0:=by omega
               simp (disch:=omega) [h1,h4,h5,aB,hb,hc,H.inl,ak,H.pp,ppB,f3,f3',a,a',this,after,BX,q3,q4]
    · have f3':3 < l[i].f:=by omega
      simp (disch:=omega) [h1,aB,hb,H.inl,ak,H.pp,ppB,f3,f3']
theorem adt (H:D5 C) (l:List Sl) (e:Bool):FnW C 585 [.ro 3 (l.map eSl) e]=some (.bool (decide (l.length≤8)&&kF none l)):=by
 rw [aH H.ai1 rfl]
 by_cases c:l.length≤8
 · have c1:¬ 8 < (l.length:Int):=by omega
   have h:=Ux H l e (by omega) l.length 0 (by simp)
   rw [List.drop_zero,if_pos rfl] at h
   generalize kF none l=R at *
   simp only [EI] at h
   simp at h
   simp [adq,c,c1,h]
 · have c1:8 < (l.length:Int):=by omega
   simp [adq,c,c1]
end Go.D
end
section
namespace Go.D
open Go Go.Pav Go.Pw P
attribute [-simp] List.getElem_cons_drop
variable {C:aG}
theorem ZI (H:D5 C) (p:Pt):FnW C 549 [.rop p.c]=some (.bool (oU p)):=by
 obtain ⟨k,t,y,s,se,x,ch,ce⟩:=p
 rw [aH H.aiy rfl,Pt.dY]
 simp only []
 unfold oU
 simp only []
 have ht:=xg H t
 have hy:=xg H y
 have hx:=BQ H x
 have hs:=adt H s se
 generalize isName t=T at *
 generalize isText x=X at *
 generalize (decide (s.length≤8)&&kF none s)=S at *
 by_cases k1:k=1
 · rw [if_pos k1]
   by_cases c2:y=[]
   · subst c2
     by_cases c5:ch.length≤16
     · have c7:¬ 16 < (ch.length:Int):=by omega
       cases T
       · simp [iM,k1,ht,hs,H.inl,ak,H.pp,ppB,c5,c7]
       · cases S
         · simp [iM,k1,ht,hs,H.inl,ak,H.pp,ppB,c5,c7]
         · by_cases c3:x=[] <;> simp [iM,k1,ht,hs,H.inl,ak,H.pp,ppB,c3,c5,c7]
     · have c7:16 < (ch.length:Int):=by omega
       simp [iM,k1,ht,hs,H.inl,ak,H.pp,ppB,c5,c7]
   · cases q2:isName y
     · rw [q2] at hy;simp [iM,k1,hy,H.inl,ak,H.pp,ppB,c2]
     · rw [q2] at hy
       by_cases c5:ch.length≤16
       · have c7:¬ 16 < (ch.length:Int):=by omega
         cases T
         · simp [iM,k1,ht,hy,hs,H.inl,ak,H.pp,ppB,c2,c5,c7]
         · cases S
           · simp [iM,k1,ht,hy,hs,H.inl,ak,H.pp,ppB,c2,c5,c7]
           · by_cases c3:x=[] <;> simp [iM,k1,ht,hy,hs,H.inl,ak,H.pp,ppB,c2,c3,c5,c7]
       · have c7:16 < (ch.length:Int):=by omega
         simp [iM,k1,ht,hy,hs,H.inl,ak,H.pp,ppB,c2,c5,c7]
 · rw [if_neg k1]
   by_cases k5:k=5
   · rw [if_pos k5]
     cases T
     · simp [iM,k5,ht,hs,H.inl,ak,H.pp,ppB]
     · cases S
       · simp [iM,k5,ht,hs,H.inl,ak,H.pp,ppB]
       · by_cases c2:y=[]
         · by_cases c3:x=[]
           · by_cases c4:ch=[]
             · simp [iM,k5,ht,hs,H.inl,ak,H.pp,ppB,c2,c3,c4]
             · simp [iM,k5,ht,hs,H.inl,ak,H.pp,ppB,c2,c3,c4]
           · simp [iM,k5,ht,hs,H.inl,ak,H.pp,ppB,c2,c3]
         · simp [iM,k5,ht,hs,H.inl,ak,H.pp,ppB,c2]
   · rw [if_neg k5]
     by_cases k2:k=2
     · rw [if_pos k2]
       cases X
       · simp [iM,k2,hx,H.inl,ak,H.pp,ppB]
       · by_cases c1:t=[]
         · by_cases c2:y=[]
           · by_cases c3:s=[]
             · by_cases c4:ch=[]
               · simp [iM,k2,hx,H.inl,ak,H.pp,ppB,c1,c2,c3,c4]
               · simp [iM,k2,hx,H.inl,ak,H.pp,ppB,c1,c2,c3,c4]
             · simp [iM,k2,hx,H.inl,ak,H.pp,ppB,c1,c2,c3]
           · simp [iM,k2,hx,H.inl,ak,H.pp,ppB,c1,c2]
         · simp [iM,k2,hx,H.inl,ak,H.pp,ppB,c1]
     · rw [if_neg k2]
       by_cases k34:k=3∨k=4
       · rcases k34 with k3 | k4
         · by_cases c1:t=[]
           · by_cases c2:y=[]
             · by_cases c0:x=[]
               · by_cases c3:s=[]
                 · by_cases c4:ch=[]
                   · simp [iM,k3,H.inl,ak,H.pp,ppB,c1,c2,c0,c3,c4]
                   · simp [iM,k3,H.inl,ak,H.pp,ppB,c1,c2,c0,c3,c4]
                 · simp [iM,k3,H.inl,ak,H.pp,ppB,c1,c2,c0,c3]
               · simp [iM,k3,H.inl,ak,H.pp,ppB,c1,c2,c0]
             · simp [iM,k3,H.inl,ak,H.pp,ppB,c1,c2]
           · simp [iM,k3,H.inl,ak,H.pp,ppB,c1]
         · by_cases c1:t=[]
           · by_cases c2:y=[]
             · by_cases c0:x=[]
               · by_cases c3:s=[]
                 · by_cases c4:ch=[]
                   · simp [iM,k4,H.inl,ak,H.pp,ppB,c1,c2,c0,c3,c4]
                   · simp [iM,k4,H.inl,ak,H.pp,ppB,c1,c2,c0,c3,c4]
                 · simp [iM,k4,H.inl,ak,H.pp,ppB,c1,c2,c0,c3]
               · simp [iM,k4,H.inl,ak,H.pp,ppB,c1,c2,c0]
             · simp [iM,k4,H.inl,ak,H.pp,ppB,c1,c2]
           · simp [iM,k4,H.inl,ak,H.pp,ppB,c1]
       · have k3:¬ k=3:=fun q=>k34 (.inl q)
         have k4:¬ k=4:=fun q=>k34 (.inr q)
         simp [iM,k1,k2,k3,k4,k5,H.inl,ak,H.pp,ppB]
mutual
/-- The walk below a part: whether it ends well, how many parts. -/
def tk:Pt→Nat→Nat→Bool × Nat
 | ⟨k,t,y,s,se,x,ch,ce⟩,lv,c=>if 6 < lv∨64 < c+1∨oU ⟨k,t,y,s,se,x,ch,ce⟩=false then (false,c+1) else tks ch (lv+1) (c+1)
def tks:List Pt→Nat→Nat→Bool × Nat
 | [],_,c=>(true,c)
 | m::r,lv,c=>if (tk m lv c).1=true then tks r lv (tk m lv c).2 else (false,(tk m lv c).2)
end
theorem ahQ (p:Pt) (lv c:Nat):tk p lv c=if 6 < lv∨64 < c+1∨oU p=false then (false,c+1) else tks p.ch (lv+1) (c+1):=by cases p;rw [tk]
mutual
theorem ahO:∀ (p:Pt) (lv c:Nat),lv≤7→c≤64→(tk p lv c).1=true→(tk p lv c).2≤64
 | ⟨k,t,y,s,se,x,ch,ce⟩,lv,c,h1,h2=>by
  rw [tk]
  split
  · exact fun q=>by simp at q
  · rename_i h
    exact ads ch (lv+1) (c+1) (by omega) (by omega)
theorem ads:∀ (l:List Pt) (lv c:Nat),lv≤7→c≤64→(tks l lv c).1=true→(tks l lv c).2≤64
 | [],lv,c,h1,h2=>by rw [tks];exact fun _=>h2
 | m::r,lv,c,h1,h2=>by
  have h4:=ahO m lv c h1 h2
  rw [tks]
  split
  · rename_i h
    exact ads r lv _ h1 (h4 h)
  · exact fun q=>by simp at q
end
abbrev hpT (c:Nat):aK:=[(0,.cells 1 [[.fn 503 []]] true true),(7,.cells 1 [[.int .i64 c]] true true),(9,.cells 1 [[.fn 548 [.ptr 7 0 0,.ptr 0 0 0,.ptr 9 0 0]]] true false)]
def VY (C:aG) (p:Pt):Prop:=∀ (lv c n:Nat),10≤n→c≤64→lv≤7 →
 ∃ n',RnW C 548 [.rop p.c,.int .i64 lv,.ptr 7 0 0,.ptr 0 0 0,.ptr 9 0 0] (hpT c) n=some (.bool (tk p lv c).1,hpT (tk p lv c).2,n')
theorem Tn (H:D5 C) (p:Pt) (lv n:Nat) (hn:10≤n) (hlv:lv≤6) (hl:p.ch.length≤16) (ih:∀ m ∈ p.ch,VY C m):∀ j i,j+i=p.ch.length→∀ c,c≤64 →
 ∃ n',CK C n (iW [.tmp 7]) [.sq O5,.bk 0 ⟨true,[],[]⟩,.sq KZ] vY ⟨[(30,.int .i64 i),(29,.int .i64 p.ch.length),(4,.ptr 9 0 0),(1,.int .i64 lv),(0,.rop p.c)],hpT c,n⟩ =
  some (.bool (tks (p.ch.drop i) (lv+1) c).1,hpT (tks (p.ch.drop i) (lv+1) c).2,n'):=by
 have n0:0 < n:=by omega
 have n1:7 < n:=by omega
 have n2:9 < n:=by omega
 intro j
 induction j with
 | zero =>
  intro i hi c hc
  have h1:p.ch.drop i=[]:=List.drop_eq_nil_of_le (by omega)
  have h3:¬ i < p.ch.length:=by omega
  rw [h1,tks,aj vY.eq_1]
  refine ⟨?_,?_⟩
  rotate_left
  · simp (disch:=omega) [aj KZ.eq_1,n0,n1,n2,h3]
    rfl
 | succ j ihj =>
  intro i hi c hc
  have h1:i < p.ch.length:=by omega
  obtain ⟨n',hw⟩:=ih _ (List.getElem_mem h1) (lv+1) c (n+1+1+1+11) (by omega) hc (by omega)
  have hb:=ahO p.ch[i] (lv+1) c (by omega) hc
  rw [drop_cons h1,tks]
  generalize hR:tk p.ch[i] (lv+1) c=R at *
  obtain ⟨r,c'⟩:=R
  cases r with
  | true =>
   obtain ⟨n2',hw2⟩:=ihj (i+1) (by omega) c' (hb rfl)
   refine ⟨n2',?_⟩
   rw [if_pos rfl]
   rw [aj vY.eq_1]
   simp at hw hw2
   simp (disch:=omega) [aB,H.inl,ak,H.pp,ppB,n0,n1,n2,h1,hw,hw2]
  | false =>
   rw [if_neg (by simp)]
   rw [aj vY.eq_1]
   simp at hw
   refine ⟨?_,?_⟩
   rotate_left
   · simp (disch:=omega) [aB,H.inl,ak,H.pp,ppB,n0,n1,n2,h1,hw]
     rfl
theorem zW {p:Pt} (h:oU p=true):p.ch.length≤16:=by
 unfold oU at h
 split at h
 · simp at h;omega
 · split at h
   · simp at h;rw [h.2];simp
   · split at h
     · simp at h;rw [h.2];simp
     · simp at h;rw [h.2];simp
theorem Vw (H:D5 C) (p:Pt) (ih:∀ m ∈ p.ch,VY C m):VY C p:=by
 intro lv c n hn hc hlv
 rw [bV (args:=[.rop p.c,.int .i64 lv,.ptr 7 0 0,.ptr 0 0 0,.ptr 9 0 0]) H.ajR rfl (hpT c) n,ahQ]
 have ha:=ZI H p
 have hu:FnW C 503 [.rop p.c]=some (.tup []):=by rw [aH H.aiD rfl];simp [afT]
 have n0:0 < n:=by omega
 have n1:7 < n:=by omega
 have n2:9 < n:=by omega
 by_cases b1:6 < lv
 · rw [if_pos (.inl b1)]
   refine ⟨?_,?_⟩
   rotate_left
   · simp (disch:=omega) [TU,aB,H.inl,ak,H.pp,ppB,b1,n0,n1,n2]
     rfl
 · by_cases b2:64 < c+1
   · rw [if_pos (.inr (.inl b2))]
     have b2':64 < (c:Int)+1:=by omega
     refine ⟨?_,?_⟩
     rotate_left
     · simp (disch:=omega) [TU,aB,H.inl,ak,H.pp,ppB,b1,b2',n0,n1,n2]
       rfl
   · have b2':¬ 64 < (c:Int)+1:=by omega
     cases b3:oU p with
     | false =>
      rw [if_pos (.inr (.inr rfl))]
      rw [b3] at ha
      refine ⟨?_,?_⟩
      rotate_left
      · simp (disch:=omega) [TU,aB,H.inl,ak,H.pp,ppB,b1,b2',ha,n0,n1,n2]
        rfl
     | true =>
      rw [if_neg (by simp;omega)]
      have hl:=zW b3
      rw [b3] at ha
      obtain ⟨n',hw⟩:=Tn H p lv n hn (by omega) hl ih p.ch.length 0 (by simp) (c+1) (by omega)
      refine ⟨n',?_⟩
      rw [List.drop_zero] at hw
      generalize tks p.ch (lv+1) (c+1)=R at *
      simp only [hpT] at hw ⊢
      simp at hw
      simp (disch:=omega) [TU,aB,H.inl,ak,H.pp,ppB,b1,b2',ha,hu,n0,n1,n2,hw]
theorem abH (H:D5 C) (p:Pt):VY C p :=
 Vw H p (fun m hm=>abH H m)
termination_by SizeOf.sizeOf p
decreasing_by
 have:=List.sizeOf_lt_of_mem hm
 have:=p.uX
 omega
def oN (p:Pt):Nat:=if p.k=1∧(tk p 1 0).1=true then (tk p 1 0).2 else 0
theorem aaR (H:D5 C) (p:Pt):FnW C 502 [.rop p.c,.fn 503 []]=some (.int .i64 (oN p)):=by
 rw [aH H.ajB rfl]
 obtain ⟨n',h⟩:=abH H p 1 0 15 (by omega) (by omega) (by omega)
 unfold oN
 generalize tk p 1 0=R at *
 obtain ⟨r,c⟩:=R
 simp only [hpT] at h
 simp at h
 by_cases k1:p.k=1
 · cases r <;> simp [aaA,H.inl,ak,H.pp,ppB,k1,h]
 · simp [aaA,H.inl,ak,H.pp,ppB,k1]
theorem Zp (H:D5 C) (p:Pt):FnW C 404 [.agg p.c]=some (.int .i64 (oN p)):=by
 have h:=aaR H p
 rw [aH H.aj0 rfl]
 simp [ags,H.inl,ak,H.pp,ppB,h]
theorem Jv (H:D5 C) (p:Pt):FnW C 231 [.agg p.c]=some (.int .i64 (if oN p=0 then 14 else 0)):=by
 have h:=Zp H p
 rw [aH H.f231 rfl]
 by_cases c:oN p=0
 · simp [acE,H.inl,ak,H.pp,ppB,h,c]
 · simp [acE,H.inl,ak,H.pp,ppB,h,c]
end Go.D
end
section
namespace Go.D
open Go Go.Pav Go.Pw P
attribute [-simp] List.getElem_cons_drop
variable {C:aG}
structure LJ (C:aG):Prop extends D5 C where
 aj3:C.fns.get 594=some abt
 abd:C.fns.get 586=some lD
 akN:C.fns.get 550=some XP
 akR:C.fns.get 505=some Zi
 aiS:C.fns.get 408=some aav
theorem QX (H:LJ C) (l:List Sl) (e:Bool) (hl:l.length≤1000000) (hf:∀ s ∈ l,0≤s.f):∀ n i,n+i=l.length →
 EX C ⟨[(3,.int .i64 i),(0,.ro 3 (l.map eSl) e)],[],0⟩ =
  some (.bool (kF (if i=0 then none else (l[i - 1]?).map Sl.n) (l.drop i))):=by
 intro n
 induction n with
 | zero =>
  intro i hi
  simp only [EX];rw [aj Bq.eq_1]
  have h1:l.drop i=[]:=List.drop_eq_nil_of_le (by omega)
  have h3:¬ i < l.length:=by omega
  simp [aj KH.eq_1,h1,h3,kF]
 | succ n ih =>
  intro i hi
  have h1:i < l.length:=by omega
  have hb:=oD H.tong l[i].n
  have hc:=Bo H.tong l[i].v
  have h0:=hf _ (List.getElem_mem h1)
  have:=ih (i+1) (by omega)
  rw [if_neg (by omega),show i+1 - 1=i from rfl,List.getElem?_eq_getElem h1] at this
  rw [drop_cons h1,kF]
  simp only [EX] at this ⊢;rw [aj Bq.eq_1]
  simp only [Option.map_some] at this
  generalize kF (some l[i].n) (l.drop (i+1))=R at *
  cases q1:isName l[i].n
  · rw [q1] at hb
    simp (disch:=omega) [h1,aB,hb,H.inl,ak,H.pp,ppB]
  · rw [q1] at hb
    by_cases f3:l[i].f≤3
    · have f3':¬ 3 < l[i].f:=by omega
      cases q2:isText l[i].v
      · rw [q2] at hc
        simp (disch:=omega) [h1,aB,hb,hc,H.inl,ak,H.pp,ppB,f3,f3']
      · rw [q2] at hc
        by_cases f0:¬ l[i].f=0∧¬ l[i].v=[]
        · have f1:¬ l[i].f≤0:=by have:=f0.1;omega
          simp (disch:=omega) [h1,aB,hb,hc,H.inl,ak,H.pp,ppB,f3,f3',f0.1,f0.2,f1]
        · have key:(¬ l[i].f=0∧l[i].v=[])∨l[i].f=0:=by
           by_cases a:l[i].f=0
           · exact .inr a
           · exact .inl ⟨a,Classical.byContradiction fun b=>f0 ⟨a,b⟩⟩
          cases i with
          | zero =>
           simp at this
           rcases key with ⟨a,b⟩ | a
           · have b':=eq_true b
             simp (disch:=omega) [h1,aB,hb,hc,H.inl,ak,H.pp,ppB,f3,f3',a,b',this,after]
           · have a':l[0].f≤0:=by omega
             simp (disch:=omega) [h1,aB,hb,hc,H.inl,ak,H.pp,ppB,f3,f3',eq_true a,a',this,after]
          | succ i =>
           have h4:i < l.length:=by omega
           have h5:(i:Int)+1 < l.length:=by omega
           simp at this
           by_cases q3:l[i].n < l[i+1].n
           · have q4:¬ l[i+1].n≤l[i].n:=List.not_le.2 q3
             rcases key with ⟨a,b⟩ | a
             · have b':=eq_true b
               simp (disch:=omega) [h1,h4,h5,aB,hb,hc,H.inl,ak,H.pp,ppB,f3,f3',a,b',this,after,blt_eq,q3,q4]
             · have a':l[i+1].f≤0:=by omega
               simp (disch:=omega) [h1,h4,h5,aB,hb,hc,H.inl,ak,H.pp,ppB,f3,f3',eq_true a,a',this,after,blt_eq,q3,q4]
           · have q4:l[i+1].n≤l[i].n:=List.not_lt.1 q3
             rcases key with ⟨a,b⟩ | a
             · have b':=eq_true b
               simp (disch:=omega) [h1,h4,h5,aB,hb,hc,H.inl,ak,H.pp,ppB,f3,f3',a,b',this,after,blt_eq,q3,q4]
             · have a':l[i+1].f≤0:=by omega
               simp (disch:=omega) [h1,h4,h5,aB,hb,hc,H.inl,ak,H.pp,ppB,f3,f3',eq_true a,a',this,after,blt_eq,q3,q4]
    · have f3':3 < l[i].f:=by omega
      simp (disch:=omega) [h1,aB,hb,H.inl,ak,H.pp,ppB,f3,f3']
theorem XU (H:LJ C) (l:List Sl) (e:Bool) (hf:∀ s ∈ l,0≤s.f):FnW C 594 [.ro 3 (l.map eSl) e]=some (.bool (decide (l.length≤8)&&kF none l)):=by
 rw [aH H.aj3 rfl]
 by_cases c:l.length≤8
 · have c1:¬ 8 < (l.length:Int):=by omega
   have h:=QX H l e (by omega) hf l.length 0 (by simp)
   rw [List.drop_zero,if_pos rfl] at h
   generalize kF none l=R at *
   simp only [EX] at h
   simp at h
   simp [abt,c,c1,h]
 · have c1:8 < (l.length:Int):=by omega
   simp [abt,c,c1]
structure Fits (p:Pt):Prop where
 f:∀ s ∈ p.s,0≤s.f
 s:p.s.length≤9223372036854775807
 c:p.ch.length≤9223372036854775807
theorem atc {α β:Type} (a:List α) (b:List β) [Decidable (a=[])] [Decidable (b=[])]:((a.length:Int)+(b.length:Int) == 0)=(decide (a=[])&&decide (b=[])):=by
 cases a <;> cases b <;> simp <;> omega
theorem amU {α β:Type} (a:List α) (b:List β) (ha:a.length≤9223372036854775807) (hb:b.length≤9223372036854775807) [Decidable (a=[])] [Decidable (b=[])]:(IntKind.i64.wrap ((a.length:Int)+(b.length:Int)) == 0)=(decide (a=[])&&decide (b=[])):=by
 have h:(IntKind.i64.wrap ((a.length:Int)+(b.length:Int)) == 0)=((a.length:Int)+(b.length:Int) == 0):=by
  rw [Bool.eq_iff_iff]
  show ((if (true&&decide (((a.length:Int)+b.length) % 18446744073709551616 ≥ 9223372036854775808))=true then ((a.length:Int)+b.length) % 18446744073709551616 - 18446744073709551616 else ((a.length:Int)+b.length) % 18446744073709551616) == 0)=true↔_
  simp only [Bool.true_and,decide_eq_true_eq,beq_iff_eq]
  split <;> omega
 rw [h,atc]
theorem af0 (H:LJ C) (p:Pt) (hp:Fits p):FnW C 586 [.agg p.c]=some (.bool (oU p)):=by
 rw [aH H.abd rfl]
 unfold oU
 have ht:=oD H.tong p.t
 have hy:=oD H.tong p.y
 have hx:=Bo H.tong p.x
 have hs:=XU H p.s p.se hp.f
 have hl1:=hp.s
 have hl2:=hp.c
 have hz:(IntKind.i64.wrap ((p.s.length:Int)+(p.ch.length:Int)) == 0)=(decide (p.s=[])&&decide (p.ch=[])):=amU _ _ hl1 hl2
 generalize isName p.t=T at *
 generalize isText p.x=X at *
 generalize (decide (p.s.length≤8)&&kF none p.s)=S at *
 by_cases k1:p.k=1
 · rw [if_pos k1]
   cases T
   · simp [lD,k1,ht,H.inl,ak,H.pp,ppB]
   · by_cases c2:p.y=[]
     · have c2':=eq_true c2
       cases S
       · simp [lD,k1,ht,hs,H.inl,ak,H.pp,ppB,c2']
       · by_cases c3:p.x=[]
         · have c3':=eq_true c3
           by_cases c5:p.ch.length≤16
           · have c7:(p.ch.length:Int)≤16:=by omega
             simp [lD,k1,ht,hs,H.inl,ak,H.pp,ppB,c2',c3',c5,c7]
           · have c7:¬ (p.ch.length:Int)≤16:=by omega
             simp [lD,k1,ht,hs,H.inl,ak,H.pp,ppB,c2',c3',c5,c7]
         · simp [lD,k1,ht,hs,H.inl,ak,H.pp,ppB,c2',c3]
     · cases q2:isName p.y
       · rw [q2] at hy;simp [lD,k1,ht,hy,H.inl,ak,H.pp,ppB,c2]
       · rw [q2] at hy
         cases S
         · simp [lD,k1,ht,hy,hs,H.inl,ak,H.pp,ppB,c2]
         · by_cases c3:p.x=[]
           · have c3':=eq_true c3
             by_cases c5:p.ch.length≤16
             · have c7:(p.ch.length:Int)≤16:=by omega
               simp [lD,k1,ht,hy,hs,H.inl,ak,H.pp,ppB,c2,c3',c5,c7]
             · have c7:¬ (p.ch.length:Int)≤16:=by omega
               simp [lD,k1,ht,hy,hs,H.inl,ak,H.pp,ppB,c2,c3',c5,c7]
           · simp [lD,k1,ht,hy,hs,H.inl,ak,H.pp,ppB,c2,c3]
 · rw [if_neg k1]
   by_cases k5:p.k=5
   · rw [if_pos k5]
     cases T
     · simp [lD,k5,ht,hs,H.inl,ak,H.pp,ppB]
     · cases S
       · simp [lD,k5,ht,hs,H.inl,ak,H.pp,ppB]
       · by_cases c2:p.y=[]
         · by_cases c3:p.x=[]
           · by_cases c4:p.ch=[] <;> simp [lD,k5,ht,hs,H.inl,ak,H.pp,ppB,eq_true c2,eq_true c3,c4]
           · simp [lD,k5,ht,hs,H.inl,ak,H.pp,ppB,eq_true c2,c3]
         · simp [lD,k5,ht,hs,H.inl,ak,H.pp,ppB,c2]
   · rw [if_neg k5]
     by_cases k2:p.k=2
     · rw [if_pos k2]
       cases X
       · simp [lD,k2,hx,H.inl,ak,H.pp,ppB]
       · by_cases c1:p.t=[]
         · by_cases c2:p.y=[]
           · simp (disch:=omega) [lD,k2,hx,H.inl,ak,H.pp,ppB,eq_true c1,eq_true c2,hz]
           · simp [lD,k2,hx,H.inl,ak,H.pp,ppB,eq_true c1,c2]
         · simp [lD,k2,hx,H.inl,ak,H.pp,ppB,c1]
     · rw [if_neg k2]
       by_cases k34:p.k=3∨p.k=4
       · have rest:FnW C 586 [.agg p.c]=some (.bool (decide (p.t=[])&&decide (p.y=[])&&decide (p.x=[])&&decide (p.s=[])&&decide (p.ch=[]))):=by
          rw [aH H.abd rfl]
          by_cases c0:p.x=[]
          · by_cases c1:p.t=[]
            · by_cases c2:p.y=[]
              · rcases k34 with k3 | k3 <;> simp (disch:=omega) [lD,k3,H.inl,ak,H.pp,ppB,eq_true c0,eq_true c1,eq_true c2,hz]
              · rcases k34 with k3 | k3 <;> simp [lD,k3,H.inl,ak,H.pp,ppB,eq_true c0,eq_true c1,c2]
            · rcases k34 with k3 | k3 <;> simp [lD,k3,H.inl,ak,H.pp,ppB,eq_true c0,c1]
          · rcases k34 with k3 | k3 <;> simp [lD,k3,H.inl,ak,H.pp,ppB,c0]
         rw [aH H.abd rfl] at rest
         rw [rest]
         simp [k34]
       · have k3:¬ p.k=3:=fun q=>k34 (.inl q)
         have k4:¬ p.k=4:=fun q=>k34 (.inr q)
         simp [lD,k1,k2,k3,k4,k5,H.inl,ak,H.pp,ppB]
inductive iF:Pt→Prop
 | mk (p:Pt) (h:Fits p) (hm:∀ m ∈ p.ch,iF m):iF p
mutual
/-- The specification's count, with so many levels. -/
def trc:Pt→Nat→Nat
 | _,0=>1000
 | ⟨k,t,y,s,se,x,ch,ce⟩,lv+1=>if oU ⟨k,t,y,s,se,x,ch,ce⟩=true then qY ch lv 1 else 1000
def qY:List Pt→Nat→Nat→Nat
 | [],_,c=>c
 | m::r,lv,c=>if c≤64 then qY r lv (c+trc m lv) else c
end
theorem aif (n:Pt):trc n 0=1000:=by cases n;rw [trc]
theorem ah7 (n:Pt) (lv:Nat):trc n (lv+1)=if oU n=true then qY n.ch lv 1 else 1000:=by cases n;rw [trc]
theorem NW:∀ (l:List Pt) (lv c:Nat),c≤qY l lv c
 | [],lv,c=>by rw [qY];exact Nat.le_refl _
 | m::r,lv,c=>by
  rw [qY]
  split
  · have:=NW r lv (c+trc m lv);omega
  · exact Nat.le_refl _
theorem akE (n:Pt) (lv:Nat):1≤trc n lv:=by
 cases lv with
 | zero=>rw [aif];omega
 | succ lv =>
  rw [ah7]
  split
  · exact NW _ _ _
  · omega
mutual
theorem aaT:∀ (n:Pt) (lv:Nat),trc n lv≤1000+64 * lv
 | ⟨k,t,y,s,se,x,ch,ce⟩,0=>by rw [trc];omega
 | ⟨k,t,y,s,se,x,ch,ce⟩,lv+1=>by
  rw [trc]
  split
  · have:=Wp ch lv 1 (by omega);omega
  · omega
theorem Wp:∀ (l:List Pt) (lv c:Nat),c≤1064+64 * lv→qY l lv c≤1064+64 * lv
 | [],lv,c,h=>by rw [qY];exact h
 | m::r,lv,c,h=>by
  rw [qY]
  split
  · have h2:=aaT m lv
    exact Wp r lv _ (by omega)
  · exact h
end
mutual
theorem ahK:∀ (n:Pt) (lv L c:Nat),lv+L=7→c≤64→((tk n L c).1=true→(tk n L c).2=c+trc n lv∧c+trc n lv≤64)∧((tk n L c).1=false→64 < c+trc n lv)
 | ⟨k,t,y,s,se,x,ch,ce⟩,lv,L,c,h1,h2=>by
  have hge:=akE ⟨k,t,y,s,se,x,ch,ce⟩ lv
  rw [tk]
  by_cases q:6 < L∨64 < c+1∨oU ⟨k,t,y,s,se,x,ch,ce⟩=false
  · rw [if_pos q]
    refine ⟨fun r=>by simp at r,fun _=>?_⟩
    rcases q with q | q | q
    · have:lv=0:=by omega
      subst this
      rw [trc];omega
    · omega
    · cases lv with
      | zero=>rw [trc];omega
      | succ lv=>rw [trc,if_neg (by simp [q])];omega
  · rw [if_neg q]
    cases lv with
    | zero=>omega
    | succ lv =>
     rw [trc,if_pos (by simpa using fun r=>q (.inr (.inr r)))]
     exact aaD ch lv (L+1) c 1 (by omega) (by omega)
theorem aaD:∀ (l:List Pt) (lv L g c:Nat),lv+L=7→g+c≤64→((tks l L (g+c)).1=true→(tks l L (g+c)).2=g+qY l lv c∧g+qY l lv c≤64)∧((tks l L (g+c)).1=false→64 < g+qY l lv c)
 | [],lv,L,g,c,h1,h2=>by
  rw [tks,qY];exact ⟨fun _=>⟨rfl,h2⟩,fun r=>by simp at r⟩
 | m::r,lv,L,g,c,h1,h2=>by
  have hm:=ahK m lv L (g+c) h1 h2
  have hr:qY (m::r) lv c=qY r lv (c+trc m lv):=by rw [qY,if_pos (by omega)]
  rw [tks,hr]
  generalize tk m L (g+c)=R at *
  obtain ⟨b,c'⟩:=R
  cases b with
  | true =>
   obtain ⟨e1,e2⟩:=hm.1 rfl
   rw [if_pos rfl]
   simp only at e1
   rw [e1,Nat.add_assoc]
   exact aaD r lv L g (c+trc m lv) h1 (by omega)
  | false =>
   have e:=hm.2 rfl
   rw [if_neg (by simp)]
   refine ⟨fun q=>by simp at q,fun _=>?_⟩
   have:=NW r lv (c+trc m lv)
   omega
end
theorem ad3 (p:Pt):oN p=if p.k≠1∨64 < trc p 6 then 0 else trc p 6:=by
 have h:=ahK p 6 1 0 rfl (by omega)
 unfold oN
 generalize tk p 1 0=R at *
 obtain ⟨b,c⟩:=R
 by_cases k1:p.k=1
 · cases b with
   | true =>
    obtain ⟨e1,e2⟩:=h.1 rfl
    simp only at e1
    rw [if_pos ⟨k1,rfl⟩,if_neg (by intro q;rcases q with q | q;exact q k1;omega)];simp only;omega
   | false =>
    have e:=h.2 rfl
    rw [if_neg (by simp),if_pos (.inr (by omega))]
 · rw [if_neg (fun q=>k1 q.1),if_pos (.inl k1)]
abbrev hpP (p:Pt):aK:=[(0,.cells 6 [p.c] true true)]
theorem OA (H:LJ C) (n:Pt) (lv:Nat) (hlv:lv≤5) (hl:n.ch.length≤16) (ih:∀ m ∈ n.ch,FnW C 550 [.agg m.c,.int .i64 lv]=some (.int .i64 (trc m lv))):∀ j i,j+i=n.ch.length→∀ c,c≤1064+64 * lv →
 Ae C ⟨[(6,.int .i64 i),(5,.int .i64 c),(2,.ptr 0 0 0),(1,.int .i64 (lv+1:Nat))],hpP n,1⟩=some (.int .i64 (qY (n.ch.drop i) lv c)):=by
 intro j
 induction j with
 | zero =>
  intro i hi c hc
  simp only [Ae];rw [aj wM.eq_1]
  have h1:n.ch.drop i=[]:=List.drop_eq_nil_of_le (by omega)
  have h3:¬ i < n.ch.length:=by omega
  rw [h1,qY]
  simp [aj Fv.eq_1,h3]
 | succ j ihj =>
  intro i hi c hc
  have h1:i < n.ch.length:=by omega
  have hm:=ih _ (List.getElem_mem h1)
  have hle:=aaT n.ch[i] lv
  rw [drop_cons h1,qY]
  by_cases c1:c≤64
  · have:=ihj (i+1) (by omega) (c+trc n.ch[i] lv) (by omega)
    rw [if_pos c1]
    have c2:(c:Int)≤64:=by omega
    simp only [Ae] at this ⊢;rw [aj wM.eq_1]
    simp at this
    simp (disch:=omega) [h1,c1,c2,aB,hm,H.inl,ak,H.pp,ppB,this]
  · rw [if_neg c1]
    have c2:¬ (c:Int)≤64:=by omega
    simp only [Ae];rw [aj wM.eq_1]
    simp (disch:=omega) [aj Fv.eq_1,h1,c1,c2]
theorem Lu (H:LJ C) (n:Pt) (hf:Fits n) (ih:∀ m ∈ n.ch,∀ lv:Nat,lv≤6→FnW C 550 [.agg m.c,.int .i64 lv]=some (.int .i64 (trc m lv))) (lv:Nat) (hlv:lv≤6):FnW C 550 [.agg n.c,.int .i64 lv]=some (.int .i64 (trc n lv)):=by
 have ho:=af0 H n hf
 rw [aH H.akN rfl]
 cases lv with
 | zero=>rw [aif];simp [XP]
 | succ lv =>
  rw [ah7]
  have c1:¬ (lv:Int)+1 < 1:=by omega
  cases ha:oU n with
  | false=>rw [ha] at ho;simp [XP,c1,ho,H.inl,ak,H.pp,ppB]
  | true =>
   rw [ha] at ho
   have hr:=OA H n lv (by omega) (zW ha) (fun m hm=>ih m hm lv (by omega)) n.ch.length 0 (by simp) 1 (by omega)
   rw [List.drop_zero] at hr
   simp only [Ae] at hr
   simp at hr
   simp [XP,c1,ho,H.inl,ak,H.pp,ppB,hr]
theorem UG (H:LJ C) (p:Pt) (hf:iF p):∀ lv:Nat,lv≤6→FnW C 550 [.agg p.c,.int .i64 lv]=some (.int .i64 (trc p lv)):=by
 induction hf with
 | mk p h hm ih=>exact fun lv hlv=>Lu H p h (fun m hm lv hlv=>ih m hm lv hlv) lv hlv
theorem Tv (H:LJ C) (p:Pt) (hf:iF p):FnW C 505 [.agg p.c]=some (.int .i64 (oN p)):=by
 have h:=UG H p hf 6 (by omega)
 rw [aH H.akR rfl,ad3]
 generalize trc p 6=R at *
 simp at h
 by_cases k1:p.k=1
 · by_cases c:64 < R
   · have c1:64 < (R:Int):=by omega
     simp [Zi,H.inl,ak,H.pp,ppB,h,c,c1,k1]
   · have c1:¬ 64 < (R:Int):=by omega
     simp [Zi,H.inl,ak,H.pp,ppB,h,c,c1,k1]
 · simp [Zi,H.inl,ak,H.pp,ppB,h,k1]
theorem Ib (H:LJ C) (p:Pt) (hf:iF p):FnW C 408 [.agg p.c]=some (.int .i64 (if oN p=0 then 14 else 0)):=by
 have h:=Tv H p hf
 rw [aH H.aiS rfl]
 by_cases c:oN p=0
 · simp [aav,H.inl,ak,H.pp,ppB,h,c]
 · simp [aav,H.inl,ak,H.pp,ppB,h,c]
end Go.D
end
section
namespace Go.D
open Go Go.Pav Go.Pw P
attribute [-simp] List.getElem_cons_drop
variable {C:aG}
structure aah (C:aG):Prop extends LJ C,RJ C where
 ajg:C.fns.get 546=some Ut
 aiv:C.fns.get 580=some afv
 ajd:C.fns.get 512=some Ua
def uG (i:It):Bool:=decide (i.k≠0)&&isText i.x&&(decide (i.m.length≤8)&&i.m.all isName)
theorem af8 (H:aah C):Xv C 580 isName where
 ok s:=by
  have:=xg H.toD5 s
  rw [aH H.aiv rfl]
  simp [afv,H.inl,ak,H.pp,ppB,this]
 ne:=by rfl
 ni:=by rfl
theorem Z9 (H:aah C) (i:It):FnW C 546 [eIt i]=some (.int .i64 (if uG i=true then 0 else 6)):=by
 have hx:=BQ H.toD5 i.x
 rw [aH H.ajg rfl]
 unfold uG
 generalize isText i.x=X at *
 by_cases c1:i.k=0
 · simp [Ut,eq_true c1]
 · cases X
   · simp [Ut,c1,hx,H.inl,ak,H.pp,ppB]
   · by_cases c2:i.m.length≤8
     · have c3:¬ 8 < (i.m.length:Int):=by omega
       have hm:=Bz H.toRJ (af8 H) i.m i.e (by omega)
       generalize i.m.all isName=M at *
       cases M <;> simp at hm <;> simp [Ut,c1,hx,c2,c3,hm,H.inl,ak,H.pp,ppB]
     · have c3:8 < (i.m.length:Int):=by omega
       simp [Ut,c1,hx,c2,c3,H.inl,ak,H.pp,ppB]
theorem Vu (H:aah C) (k t:Int) (x:Bs) (m:List Bs) (e:Bool) (hl:m.length≤8):∀ n i,n+i=m.length →
 Fj C ⟨[(3,.int .i64 i),(1,.ptr 0 0 0)],[(0,.cells 4 [[.int .u64 k,.int .u8 t,.str x,.ro 1 (m.map eS) e]] true true)],1⟩ =
  some (.int .i64 (if (m.drop i).all isName=true then 0 else 6)):=by
 intro n
 induction n with
 | zero =>
  intro i hi
  simp only [Fj];rw [aj zx.eq_1]
  have h1:m.drop i=[]:=List.drop_eq_nil_of_le (by omega)
  have h3:¬ i < m.length:=by omega
  simp [aj NS.eq_1,h1,h3]
 | succ n ih =>
  intro i hi
  have h1:i < m.length:=by omega
  have:=ih (i+1) (by omega)
  have hb:=oD H.tong m[i]
  rw [drop_cons h1]
  generalize hX:(m.drop (i+1)).all isName=X at *
  rw [List.all_cons,hX]
  simp only [Fj] at this ⊢;rw [aj zx.eq_1]
  cases hn:isName m[i]
  · rw [hn] at hb
    simp (disch:=omega) [h1,aB,hb,H.inl,ak,H.pp,ppB]
  · rw [hn] at hb
    simp at this
    simp (disch:=omega) [h1,aB,hb,H.inl,ak,H.pp,ppB,this]
theorem adf (H:aah C) (i:It):FnW C 512 [eIt i]=some (.int .i64 (if uG i=true then 0 else 6)):=by
 have hx:=Bo H.tong i.x
 rw [aH H.ajd rfl]
 unfold uG
 generalize isText i.x=X at *
 by_cases c1:i.k=0
 · simp [Ua,eq_true c1]
 · cases X
   · simp [Ua,c1,hx,H.inl,ak,H.pp,ppB]
   · by_cases c2:i.m.length≤8
     · have c3:¬ 8 < (i.m.length:Int):=by omega
       have hm:=Vu H i.k i.t i.x i.m i.e c2 i.m.length 0 (by simp)
       rw [List.drop_zero] at hm
       generalize i.m.all isName=M at *
       simp only [Fj] at hm
       simp at hm
       simp [Ua,c1,hx,c2,c3,hm,H.inl,ak,H.pp,ppB]
     · have c3:8 < (i.m.length:Int):=by omega
       simp [Ua,c1,hx,c2,c3,H.inl,ak,H.pp,ppB]
def dec (n:Nat):Bs:=if h:n < 10 then [UInt8.ofNat (48+n)] else dec (n / 10)++[UInt8.ofNat (48+n % 10)]
termination_by n
theorem V6:∀ (k n:Nat),n < 10 ^ (k+1)→(dec n).length≤k+1
 | 0,n,h=>by unfold dec;rw [dif_pos (by simpa using h)];simp
 | k+1,n,h=>by
  unfold dec
  split
  · simp
  · have:=V6 k (n / 10) (by rw [Nat.pow_succ] at h;omega)
    simp;omega
structure adT (C:aG):Prop extends aah C where
 akI:C.fns.get 584=some agG
 agb:C.fns.get 558=some acN
theorem Xu (n:Nat) (h:n < 10):dec n=[UInt8.ofNat (48+n)]:=by unfold dec;rw [dif_pos h]
theorem Xa (H:adT C) (n:Nat) (h:n < 10):FnW C 558 [.int .u64 n]=some (.str (dec n)):=by
 rw [aH H.agb rfl,Xu n h]
 obtain rfl | rfl | rfl | rfl | rfl | rfl | rfl | rfl | rfl | rfl:n=0∨n=1∨n=2∨n=3∨n=4∨n=5∨n=6∨n=7∨n=8∨n=9:=by omega
 all_goals (simp (disch:=omega) [acN,jZ];try rfl)
theorem YX (H:adT C) (n:Nat) (h:n < 18446744073709551616) (ih:∀ m < n,FnW C 558 [.int .u64 m]=some (.str (dec m))):FnW C 558 [.int .u64 n]=some (.str (dec n)):=by
 by_cases c:n < 10
 · exact Xa H n c
 · have h1:=ih (n / 10) (by omega)
   have h2:=Xa H (n % 10) (by omega)
   have hl:=V6 19 (n / 10) (by omega)
   rw [Xu _ (by omega)] at h2
   rw [aH H.agb rfl]
   rw [dec,dif_neg c]
   have e1:(n:Int).tdiv 10=((n / 10:Nat):Int):=by rw [Int.tdiv_eq_ediv_of_nonneg (by omega)];omega
   have e2:(n:Int).tmod 10=((n % 10:Nat):Int):=by rw [Int.tmod_eq_emod_of_nonneg (by omega)];omega
   have c2:¬ (n:Int) < 10:=by omega
   have hm:(dec (n / 10)).length+1≤maxStr:=by unfold maxStr;omega
   have b1:n / 10≤n:=by omega
   have b2:n % 10≤n:=by omega
   generalize dec (n / 10)=D at *
   generalize UInt8.ofNat (48+n % 10)=dg at *
   generalize n / 10=q at *
   generalize n % 10=r at *
   simp (disch:=omega) [acN,jZ,c2,e1,e2,h1,h2,hm,H.inl,ak,H.pp,ppB]
theorem L8 (H:adT C) (n:Nat):n < 18446744073709551616→FnW C 558 [.int .u64 n]=some (.str (dec n)):=by
 induction n using Nat.strongRecOn with
 | ind n ih=>exact fun h=>YX H n h (fun m hm=>ih m hm (by omega))
theorem bytesOf_map:∀ l:List UInt8,bytesOf (l.map fun b=>[AV.int .u8 b.toNat])=some l
 | []=>rfl
 | b::r=>by
  rw [List.map_cons,bytesOf,bytesOf_map r]
  simp
theorem aaH (r:Nat) (h:r < 10):([48,49,50,51,52,53,54,55,56,57]:List UInt8)[r]'(by simpa using h)=UInt8.ofNat (48+r):=by
 obtain rfl | rfl | rfl | rfl | rfl | rfl | rfl | rfl | rfl | rfl:r=0∨r=1∨r=2∨r=3∨r=4∨r=5∨r=6∨r=7∨r=8∨r=9:=by omega
 all_goals rfl
theorem acy:∀ (i n:Nat) (acc:List UInt8),acc.length+i=19→n < 10 ^ (i+1)→n < 18446744073709551616 →
 Fa C ⟨[(4,.int .i64 (i+1:Nat)),(3,.ptr 0 0 0),(0,.int .u64 n)],[(0,.cells 20 [List.replicate i (AV.int .u8 0)++AV.int .u8 0::acc.map fun b=>AV.int .u8 b.toNat] true true)],1⟩=some (.str (dec n++acc)):=by
 intro i
 induction i with
 | zero =>
  intro n acc ha hn hb
  have e1:(n:Int).tdiv 10=0:=by rw [Int.tdiv_eq_ediv_of_nonneg (by omega)];omega
  have e2:(n:Int).tmod 10=n:=by rw [Int.tmod_eq_emod_of_nonneg (by omega)];omega
  have hr:n < 10:=by simpa using hn
  have hd:=aaH n hr
  have h19:19≤acc.length:=by omega
  rw [Xu n hr]
  generalize UInt8.ofNat (48+n)=dg at *
  have hm:bytesOf ([AV.int .u8 dg.toNat]::List.map ((fun x=>[x]) ∘ fun b:UInt8=>AV.int .u8 b.toNat) acc)=some (dg::acc):=bytesOf_map (dg::acc)
  simp only [Fa];rw [aj Aj.eq_1]
  simp (disch:=(first | omega | (simp;done) | (simp;omega))) [aB,jZ,e1,e2,hr,hd,h19,hm,List.take_of_length_le,RX]
 | succ i ih =>
  intro n acc ha hn hb
  have e1:(n:Int).tdiv 10=((n / 10:Nat):Int):=by rw [Int.tdiv_eq_ediv_of_nonneg (by omega)];omega
  have e2:(n:Int).tmod 10=((n % 10:Nat):Int):=by rw [Int.tmod_eq_emod_of_nonneg (by omega)];omega
  have hr:n % 10 < 10:=by omega
  have hq:n / 10 < 10 ^ (i+1):=by rw [Nat.pow_succ] at hn;omega
  have hqb:n / 10≤n:=by omega
  have h18:acc.length+i=18:=by omega
  have hi:i+1 < 20:=by omega
  have h20:20≤i+1+(acc.length+1):=by omega
  have hi19:i≤19:=by omega
  have hd:=aaH (n % 10) hr
  have ih':=fun dg=>ih (n / 10) (dg::acc) (by simp;omega) hq (by omega)
  have hdec:dec n=(if n / 10=0 then [] else dec (n / 10))++[UInt8.ofNat (48+n % 10)]:=by
   by_cases c:n < 10
   · have:n / 10=0:=by omega
     have h2:n % 10=n:=by omega
     rw [Xu n c,this,h2];simp
   · rw [dec,dif_neg c,if_neg (by omega)]
  rw [hdec]
  have t1:∀ (z:AV) (L:List AV),List.take (i+1) (List.replicate (i+1) z++L)=List.replicate (i+1) z:=fun z L=>List.take_left' (by simp)
  have t2:∀ (z y:AV) (L:List AV),List.drop (i+1+1) (List.replicate (i+1) z++y::L)=L:=fun z y L=>by
   rw [List.append_cons];exact List.drop_left' (by simp)
  have t3:∀ (z:AV) (X:List AV),List.replicate i z++z::X=List.replicate (i+1) z++X:=fun z X=>by rw [List.replicate_succ'];simp
  generalize dec (n / 10)=D at *
  generalize UInt8.ofNat (48+n % 10)=dg at *
  have hm:bytesOf ([AV.int .u8 dg.toNat]::List.map ((fun x=>[x]) ∘ fun b:UInt8=>AV.int .u8 b.toNat) acc)=some (dg::acc):=bytesOf_map (dg::acc)
  have ih2:=ih' dg
  rw [t3] at ih2
  generalize n / 10=q at *
  generalize n % 10=r at *
  simp only [Fa] at ih2 ⊢;rw [aj Aj.eq_1]
  simp at ih2
  by_cases c:q=0
  · simp (disch:=(first | omega | (simp;done) | (simp;omega))) [aB,jZ,e1,e2,hr,hd,hi,h20,hi19,hm,t1,t2,c,List.take_of_length_le,RX]
  · simp (disch:=(first | omega | (simp;done) | (simp;omega))) [aB,jZ,e1,e2,hr,hd,hi,t1,t2,c,ih2]
theorem MV (H:adT C) (n:Nat) (h:n < 18446744073709551616):FnW C 584 [.int .u64 n]=some (.str (dec n)):=by
 have hl:=acy (C:=C) 19 n [] rfl (by omega) h
 have e:List.replicate 19 (AV.int .u8 0)++AV.int .u8 0::List.map (fun b:UInt8=>AV.int .u8 b.toNat) []=rep 20 (AV.int .u8 0):=rfl
 rw [e] at hl
 simp only [Fa] at hl
 simp at hl
 rw [aH H.akI rfl]
 simp [agG,hl]
def bD (x:It) (s:Sl):Bs × Bs:=(s.n,if s.f=1 then x.x else if s.f=2 then dec x.k.toNat else if s.f=3 then dec x.m.length else s.v)
structure adz (C:aG):Prop extends adT C where
 akS:C.fns.get 559=some afS
 akM:C.fns.get 592=some acH
theorem Qx (H:adz C) (x:It) (hk:0≤x.k∧x.k < 18446744073709551616) (hm:x.m.length≤1000000) (l:List Sl) (e:Bool) (hl:l.length≤8):∀ n i,n+i=l.length→∀ G:List (Bs × Bs),G.length=i →
 Fb C ⟨[(6,.int .i64 i),(5,.sl 0 2 0 G.length G.length false),(3,.ptr 1 0 0),(0,.ro 3 (l.map eSl) e)],[(0,.cells 2 (G.map eA) true true),(1,.cells 4 [[.int .u64 x.k,.int .u8 x.t,.str x.x,.ro 1 (x.m.map eS) x.e]] true true)],2⟩ =
  some (.ro 2 ((G++(l.drop i).map (bD x)).map eA) false):=by
 intro n
 induction n with
 | zero =>
  intro i hi G hG
  have h1:l.drop i=[]:=List.drop_eq_nil_of_le (by omega)
  have h3:¬ i < l.length:=by omega
  simp only [Fb];rw [aj Bv.eq_1]
  cases G with
  | nil=>simp [aj Ef.eq_1,h1,h3]
  | cons g G=>simp (disch:=(first | omega | (simp;done) | (simp;omega))) [aj Ef.eq_1,h1,h3,List.take_of_length_le]
 | succ n ih =>
  intro i hi G hG
  have h1:i < l.length:=by omega
  obtain ⟨k,hk2⟩:∃ k:Nat,x.k=k:=⟨x.k.toNat,by omega⟩
  have d1:=L8 H.toadT k (by omega)
  have d2:=L8 H.toadT x.m.length (by omega)
  have ih':=ih (i+1) (by omega) (G++[bD x l[i]]) (by simp [hG])
  have hfit:(G.length+1) * 33≤35184372088832:=by omega
  rw [drop_cons h1]
  simp only [Fb] at ih' ⊢;rw [aj Bv.eq_1]
  simp at ih'
  unfold bD at ih' ⊢
  rw [hk2] at ih' ⊢
  by_cases f1:l[i].f=1
  · simp [f1] at ih'
    simp (disch:=omega) [h1,f1,aB,hfit,ih',H.inl,ak,H.pp,ppB]
  · by_cases f2:l[i].f=2
    · simp [f2] at ih'
      simp (disch:=omega) [h1,f2,aB,hfit,d1,ih',H.inl,ak,H.pp,ppB]
    · by_cases f3:l[i].f=3
      · simp [f3] at ih'
        simp (disch:=omega) [h1,f3,aB,jZ,hfit,d2,ih',H.inl,ak,H.pp,ppB]
      · simp [f1,f2,f3] at ih'
        simp (disch:=omega) [h1,f1,f2,f3,aB,hfit,ih',H.inl,ak,H.pp,ppB]
theorem jk (H:adz C) (x:It) (hk:0≤x.k∧x.k < 18446744073709551616) (hm:x.m.length≤1000000) (l:List Sl) (e:Bool) (hl:l.length≤8) :
 FnW C 559 [.ro 3 (l.map eSl) e,eIt x]=some (.ro 2 ((l.map (bD x)).map eA) false):=by
 have h:=Qx H x hk hm l e hl l.length 0 (by simp) [] rfl
 simp only [Fb] at h
 simp at h
 rw [aH H.akS rfl]
 simp [afS,h]
theorem RZ (H:adz C) (x:It) (hk:0≤x.k∧x.k < 18446744073709551616) (hm:x.m.length≤1000000) (l:List Sl) (e:Bool) (hl:l.length≤8) (hf:∀ s ∈ l,0≤s.f∧s.f≤3):∀ n i,n+i=l.length→∀ G:List (Bs × Bs),G.length=i →
 EZ C ⟨[(13,.int .i64 i),(12,.int .i64 l.length),(11,.ro 3 (l.map eSl) e),(5,.sl 0 2 0 l.length l.length true),(2,.ptr 1 0 0)],[(0,.cells 2 (G.map eA++List.replicate n [.str [],.str []]) true true),(1,.cells 4 [[.int .u64 x.k,.int .u8 x.t,.str x.x,.ro 1 (x.m.map eS) x.e]] true true)],2⟩ =
  some (.ro 2 ((G++(l.drop i).map (bD x)).map eA) true):=by
 intro n
 induction n with
 | zero =>
  intro i hi G hG
  have h1:l.drop i=[]:=List.drop_eq_nil_of_le (by omega)
  have h3:¬ i < l.length:=by omega
  have h5:G.length=l.length:=by omega
  have h6:List.take l.length (List.map eA G)=List.map eA G:=List.take_of_length_le (by simp [h5])
  simp only [EZ];rw [aj vV.eq_1]
  simp [aj FQ.eq_1,h1,h3,h5,h6]
 | succ n ih =>
  intro i hi G hG
  have h1:i < l.length:=by omega
  obtain ⟨k,hk2⟩:∃ k:Nat,x.k=k:=⟨x.k.toNat,by omega⟩
  have d1:=MV H.toadT k (by omega)
  have d2:=MV H.toadT x.m.length (by omega)
  have ih':=ih (i+1) (by omega) (G++[bD x l[i]]) (by simp [hG])
  have h0:=hf _ (List.getElem_mem h1)
  rw [drop_cons h1]
  simp only [EZ] at ih' ⊢;rw [aj vV.eq_1]
  simp at ih'
  unfold bD at ih' ⊢
  rw [hk2] at ih' ⊢
  have f0123:l[i].f=0∨l[i].f=1∨l[i].f=2∨l[i].f=3:=by omega
  rcases f0123 with f | f | f | f
  all_goals
   simp [f] at ih'
   simp (disch:=omega) [h1,f,aB,jZ,d1,d2,y8,AO,H.inl,ak,H.pp,ppB,ih']
theorem YD (H:adz C) (x:It) (hk:0≤x.k∧x.k < 18446744073709551616) (hm:x.m.length≤1000000) (l:List Sl) (e:Bool) (hl:l.length≤8) (hf:∀ s ∈ l,0≤s.f∧s.f≤3) :
 FnW C 592 [eIt x,.ro 3 (l.map eSl) e]=some (.ro 2 ((l.map (bD x)).map eA) true):=by
 rw [aH H.akM rfl]
 by_cases hne:l=[]
 · subst hne
   simp (disch:=omega) [acH,aj vV.eq_1,aj FQ.eq_1]
 · have h:=RZ H x hk hm l e hl hf l.length 0 (by simp) [] rfl
   simp only [EZ] at h
   simp at h
   simp (disch:=omega) [acH,fits,hne,h]
structure afL (C:aG):Prop extends adz C where
 aiU:C.fns.get 582=some ahp
 ajl:C.fns.get 583=some agj
 ajw:C.fns.get 593=some agZ
def bM (s:Bs):Nd:=⟨2,[],[],[],true,s,[],true⟩
theorem vC (H:afL C) (s:Bs):FnW C 583 [.str s]=some (.agg (bM s).c):=by
 rw [aH H.ajl rfl,Nd.dY]
 simp [agj,bM]
theorem ad2 (H:afL C) (l:List Nd) (e:Bool):FnW C 593 [.ro 6 (l.map Nd.c) e]=some (.ro 6 (l.map Nd.c) true):=by
 have h:List.take l.length (List.map Nd.c l)=List.map Nd.c l:=List.take_of_length_le (by simp)
 rw [aH H.ajw rfl]
 simp [agZ,h]
def xW (x:It) (p:Pt) (key:Bs) (ch:List Nd):Nd:=⟨1,p.t,key,p.s.map (bD x),true,[],ch,true⟩
theorem H8 (H:afL C) (x:It) (hk:0≤x.k∧x.k < 18446744073709551616) (hm:x.m.length≤1000000) (p:Pt) (hl:p.s.length≤8) (hf:∀ s ∈ p.s,0≤s.f∧s.f≤3) (key:Bs) (ch:List Nd) (e:Bool) :
 FnW C 582 [eIt x,.agg p.c,.str key,.ro 6 (ch.map Nd.c) e]=some (.agg (xW x p key ch).c):=by
 have h1:=YD H.toadz x hk hm p.s p.se hl hf
 have h2:=ad2 H ch e
 rw [aH H.aiU rfl,Nd.dY]
 simp only [xW]
 simp [ahp,h1,h2,H.inl,ak,H.pp,ppB]
end Go.D
end
section
namespace Go.D
open Go Go.Pav Go.Pw P
mutual
/-- A tree without what is known of its memory. -/
def Nd.z:Nd→Nd
 | ⟨k,t,y,a,ae,x,ch,ce⟩=>⟨k,t,y,a,true,x,Nd.zs ch,true⟩
def Nd.zs:List Nd→List Nd
 | []=>[]
 | n::r=>n.z::Nd.zs r
end
theorem Nd.aib:∀ l:List Nd,Nd.zs l=l.map Nd.z
 | []=>rfl
 | n::r=>by rw [Nd.zs,Nd.aib r];rfl
theorem Nd.afW (n:Nd):n.z=⟨n.k,n.t,n.y,n.a,true,n.x,n.ch.map Nd.z,true⟩:=by cases n;rw [Nd.z,Nd.aib]
theorem Nd.z_y (n:Nd):n.z.y=n.y:=by rw [Nd.afW]
theorem agU (n:Nd):alone n.z=alone n:=by
 have h:(n.ch.map Nd.z).map Nd.y=n.ch.map Nd.y:=by rw [List.map_map];exact List.map_congr_left fun m _=>m.z_y
 rw [Nd.afW]
 unfold alone
 simp only [h,List.length_map,List.map_eq_nil_iff]
mutual
theorem amM:∀ (n:Nd) (lv:Nat) (s:Nat × Nat),wk n.z lv s=wk n lv s
 | ⟨k,t,y,a,ae,x,ch,ce⟩,lv,(c,d)=>by
  have h:=agU ⟨k,t,y,a,ae,x,ch,ce⟩
  rw [aa8,aa8,h]
  have e:(Nd.z ⟨k,t,y,a,ae,x,ch,ce⟩).ch=Nd.zs ch:=by rw [Nd.z]
  rw [e,ahX ch (lv+1) (c+1,max d lv)]
theorem ahX:∀ (l:List Nd) (lv:Nat) (s:Nat × Nat),wks (Nd.zs l) lv s=wks l lv s
 | [],lv,s=>by rw [Nd.zs]
 | m::r,lv,s=>by
  rw [Nd.zs,wks,wks,amM m lv s]
  split
  · exact ahX r lv _
  · rfl
end
theorem ahW (n:Nd):cnt n.z=cnt n:=by unfold cnt;rw [amM]
end Go.D
end
section
namespace Go.D
open Go Go.Pav Go.Pw P
inductive Okp:Pt→Prop
 | mk (p:Pt) (h:oU p=true) (hf:Fits p) (hm:∀ m ∈ p.ch,Okp m):Okp p
mutual
theorem aaE:∀ (p:Pt),iF p→∀ (lv c:Nat),(tk p lv c).1=true→Okp p
 | ⟨k,t,y,s,se,x,ch,ce⟩,hf,lv,c,h=>by
  rw [ahQ] at h
  split at h
  · cases h
  · rename_i q
    cases hf with
    | mk _ h1 hm =>
     exact .mk _ (by simpa using fun e=>q (.inr (.inr e))) h1 (Wh ch hm _ _ h)
theorem Wh:∀ (l:List Pt),(∀ m ∈ l,iF m)→∀ (lv c:Nat),(tks l lv c).1=true→∀ m ∈ l,Okp m
 | [],_,_,_,_=>by simp
 | m::r,hf,lv,c,h=>by
  rw [tks] at h
  split at h
  · rename_i q
    intro a ha
    have h0:=aaE m (hf m (by simp)) lv c q
    have h2:=Wh r (fun b hb=>hf b (by simp [hb])) lv _ h
    rcases List.mem_cons.1 ha with e | ha
    · exact e ▸ h0
    · exact h2 a ha
  · cases h
end
theorem Ql {p:Pt} (hf:iF p) (h:oN p≠0):Okp p:=by
 unfold oN at h
 split at h
 · rename_i q;exact aaE p hf 1 0 q.2
 · exact absurd rfl h
theorem ab6 {p:Pt} (h:oN p≠0):p.k=1:=by
 unfold oN at h
 split at h
 · rename_i q;exact q.1
 · exact absurd rfl h
theorem KL:∀ (l:List Sl) (p:Option Bs),kF p l=true→∀ s ∈ l,s.f≤3
 | [],_,_=>by simp
 | s::r,p,h=>by
  rw [kF] at h
  simp at h
  intro a ha
  rcases List.mem_cons.1 ha with rfl | ha
  · exact h.1.1.1.1.2
  · exact KL r _ h.2 a ha
theorem VB {p:Pt} (h:oU p=true):p.s.length≤8∧∀ s ∈ p.s,s.f≤3:=by
 unfold oU at h
 split at h
 · simp at h;exact ⟨h.1.2.1,KL _ _ h.1.2.2⟩
 · split at h
   · simp at h;exact ⟨h.1.1.1.2.1,KL _ _ h.1.1.1.2.2⟩
   · split at h
     · simp at h;rw [h.1.2];simp
     · simp at h;rw [h.1.2];simp
theorem U6 {p:Pt} (h:oU p=true):p.k=1∨p.k=2∨p.k=3∨p.k=4∨p.k=5:=by
 unfold oU at h
 split at h
 · exact .inl ‹_›
 · split at h
   · exact .inr (.inr (.inr (.inr ‹_›)))
   · split at h
     · exact .inr (.inl ‹_›)
     · simp at h
       rcases h.1.1.1.1.1 with q | q
       · exact .inr (.inr (.inl q))
       · exact .inr (.inr (.inr (.inl q)))
mutual
/-- What a part makes. -/
def mk (x:It):Pt→List Nd
 | ⟨k,t,y,s,se,tx,ch,ce⟩ =>
  if k=1 then [⟨1,t,y,s.map (bD x),true,[],mks x ch,true⟩]
  else if k=2 then [bM tx] else if k=3 then [bM x.x] else if k=4 then [bM (dec x.k.toNat)]
  else if k=5 then x.m.map fun m=>⟨1,t,m,s.map (bD x),true,[],[bM m],true⟩ else []
def mks (x:It):List Pt→List Nd
 | []=>[]
 | p::r=>mk x p++mks x r
end
theorem mk_eq (x:It) (p:Pt):mk x p=if p.k=1 then [xW x p p.y (mks x p.ch)]
 else if p.k=2 then [bM p.x] else if p.k=3 then [bM x.x] else if p.k=4 then [bM (dec x.k.toNat)]
 else if p.k=5 then x.m.map fun m=>xW x p m [bM m] else []:=by cases p;rw [mk];rfl
mutual
/-- What the specification's part makes. -/
def md (x:It):Pt→List Nd
 | ⟨k,t,y,s,se,tx,ch,ce⟩ =>
  if k=2 then [bM tx] else if k=3 then [bM x.x] else if k=4 then [bM (dec x.k.toNat)]
  else if k=5 then x.m.map fun m=>⟨1,t,m,s.map (bD x),false,[],[bM m],true⟩
  else [⟨1,t,y,s.map (bD x),false,[],mds x ch,(mds x ch).isEmpty⟩]
def mds (x:It):List Pt→List Nd
 | []=>[]
 | p::r=>md x p++mds x r
end
def iR (x:It) (p:Pt) (key:Bs) (ch:List Nd) (e:Bool):Nd:=⟨1,p.t,key,p.s.map (bD x),false,[],ch,e⟩
theorem adE (x:It) (p:Pt):md x p=if p.k=2 then [bM p.x] else if p.k=3 then [bM x.x] else if p.k=4 then [bM (dec x.k.toNat)]
 else if p.k=5 then x.m.map fun m=>iR x p m [bM m] true else [iR x p p.y (mds x p.ch) (mds x p.ch).isEmpty]:=by cases p;rw [md];rfl
mutual
theorem ahT (x:It):∀ (p:Pt),Okp p→(mk x p).map Nd.z=(md x p).map Nd.z
 | ⟨k,t,y,s,se,tx,ch,ce⟩,h=>by
  have hk:=U6 (by cases h;assumption:oU ⟨k,t,y,s,se,tx,ch,ce⟩=true)
  have hm:∀ m ∈ ch,Okp m:=by cases h;assumption
  have ih:=Xd x ch hm
  rw [mk,md]
  simp only at hk
  rcases hk with rfl | rfl | rfl | rfl | rfl
  · simp [Nd.afW,ih]
  · simp
  · simp
  · simp
  · simp [Nd.afW]
theorem Xd (x:It):∀ (l:List Pt),(∀ m ∈ l,Okp m)→(mks x l).map Nd.z=(mds x l).map Nd.z
 | [],_=>by rw [mks,mds]
 | p::r,h=>by
  rw [mks,mds,List.map_append,List.map_append,ahT x p (h p (by simp)),Xd x r fun m hm=>h m (by simp [hm])]
end
theorem abA (x:It) (hx:x.m.length≤8) (p:Pt):(md x p).length≤8:=by
 rw [adE];split <;> (try split) <;> (try split) <;> (try split) <;> (try split) <;> simp <;> omega
def zN:Nd:=⟨0,[],[],[],true,[],[],true⟩
def mkN (x:It) (p:Pt):Nd:=(mk x p).headD zN
def mdN (x:It) (p:Pt):Nd:=(md x p).headD zN
theorem amo (x:It) (p:Pt) (h:Okp p):(mkN x p).z=(mdN x p).z:=by
 have:=ahT x p h
 unfold mkN mdN
 cases h1:mk x p <;> cases h2:md x p <;> rw [h1,h2] at this <;> simp at this ⊢
 exact this.1
def sJ (p:Pt) (x:It) (most:Int):Int :=
 if most < 1∨64 < most then 1 else if oN p=0 then 14 else if uG x=false then 6 else if cnt (mkN x p)=0∨most < cnt (mkN x p) then 14 else 0
def adC (p:Pt) (x:It) (most:Int):Nd:=if sJ p x most=0 then mkN x p else zN
def aix (p:Pt) (x:It) (most:Int):Nd:=if sJ p x most=0 then mdN x p else zN
end Go.D
end
section
namespace Go.D
open Go Go.Pav Go.Pw P
attribute [-simp] List.getElem_cons_drop
variable {C:aG}
structure qB (C:aG):Prop extends afL C,Qw C where
 ajb:C.fns.get 547=some aeT
 ajr:C.fns.get 513=some SB
 aiL:C.fns.get 501=some IL
 ai8:C.fns.get 425=some Jb
@[simp] theorem Nd.anj (n:Nd) (k:Nat):n.c.any (cO (k+1))=true:=by rw [Nd.dY];rfl
@[simp] theorem Nd.ak5 (n:Nd) (k:Nat):(∃ x,x ∈ n.c∧cO (k+1) x=true)=True:=by
 refine eq_true ⟨.ro 2 (n.a.map eA) n.ae,?_,rfl⟩
 rw [Nd.dY];simp
theorem agl (H:qB C) (x:It) (hk:0≤x.k∧x.k < 18446744073709551616) (hm:x.m.length≤8) (l:List Pt) (e:Bool) (hl:l.length≤16) (p:Pt) (hp:oU p=true∧Fits p) (hk5:p.k=5) (i:Nat) (hi:i < l.length)
 (hnext:∀ G:List Nd,G.length≤8 * (i+1)→jP C ⟨[(12,.int .i64 ((i:Int)+1)),(11,.int .i64 l.length),(10,.ro 6 (l.map Pt.c) e),(5,.sl 0 6 0 G.length G.length false),(2,.ptr 1 0 0)],[(0,.cells 6 (G.map Nd.c) true true),(1,.cells 4 [[.int .u64 x.k,.int .u8 x.t,.str x.x,.ro 1 (x.m.map eS) x.e]] true true)],2⟩ =
  some (.ro 6 ((G++mks x (l.drop (i+1))).map Nd.c) false)):∀ n k,n+k=x.m.length→∀ G:List Nd,G.length≤8 * i+k →
 Fp C ⟨[(65,.int .i64 k),(64,.int .i64 x.m.length),(63,.ro 1 (x.m.map eS) x.e),(12,.int .i64 i),(11,.int .i64 l.length),(10,.ro 6 (l.map Pt.c) e),(7,.ptr 0 0 0),(5,.sl 1 6 0 G.length G.length false),(2,.ptr 2 0 0)],[(0,.cells 6 [p.c] true true),(1,.cells 6 (G.map Nd.c) true true),(2,.cells 4 [[.int .u64 x.k,.int .u8 x.t,.str x.x,.ro 1 (x.m.map eS) x.e]] true true)],3⟩ =
  some (.ro 6 ((G++(x.m.drop k).map (fun m=>xW x p m [bM m])++mks x (l.drop (i+1))).map Nd.c) false):=by
 intro n
 induction n with
 | zero =>
  intro k hk2 G hG
  have h1:x.m.drop k=[]:=List.drop_eq_nil_of_le (by omega)
  have h3:¬ k < x.m.length:=by omega
  have:=hnext G (by omega)
  simp only [jP] at this
  simp at this
  simp only [Fp];rw [aj Ak.eq_1]
  simp (disch:=omega) [aj qg.eq_1,h1,h3,aB,this]
 | succ n ih =>
  intro k hk2 G hG
  have h1:k < x.m.length:=by omega
  have hs:=VB hp.1
  have he:=H8 H.toafL x hk (by omega) p hs.1 (fun s q=>⟨hp.2.f s q,hs.2 s q⟩) x.m[k] [bM x.m[k]] true
  have hw:=vC H.toafL x.m[k]
  have:=ih (k+1) (by omega) (G++[xW x p x.m[k] [bM x.m[k]]]) (by simp;omega)
  have hfit:(G.length+1) * 105≤35184372088832:=by omega
  rw [drop_cons h1]
  simp only [Fp] at this ⊢;rw [aj Ak.eq_1]
  simp at this
  simp at he
  simp (disch:=omega) [h1,aB,hfit,hw,he,H.inl,ak,H.pp,ppB,this]
theorem YR (H:qB C) (x:It) (hk:0≤x.k∧x.k < 18446744073709551616) (hm:x.m.length≤8) (l:List Pt) (e:Bool) (hl:l.length≤16) (ho:∀ p ∈ l,Okp p)
 (ih:∀ p ∈ l,FnW C 547 [eIt x,.ro 6 (p.ch.map Pt.c) p.ce]=some (.ro 6 ((mks x p.ch).map Nd.c) false)):∀ n i,n+i=l.length→∀ G:List Nd,G.length≤8 * i →
 jP C ⟨[(12,.int .i64 i),(11,.int .i64 l.length),(10,.ro 6 (l.map Pt.c) e),(5,.sl 0 6 0 G.length G.length false),(2,.ptr 1 0 0)],[(0,.cells 6 (G.map Nd.c) true true),(1,.cells 4 [[.int .u64 x.k,.int .u8 x.t,.str x.x,.ro 1 (x.m.map eS) x.e]] true true)],2⟩ =
  some (.ro 6 ((G++mks x (l.drop i)).map Nd.c) false):=by
 intro n
 induction n with
 | zero =>
  intro i hi G hG
  have h1:l.drop i=[]:=List.drop_eq_nil_of_le (by omega)
  have h3:¬ i < l.length:=by omega
  simp only [jP];rw [aj nS.eq_1]
  cases G with
  | nil=>simp [aj Ad.eq_1,h1,h3,mks]
  | cons g G=>simp (disch:=(first | omega | (simp;done) | (simp;omega))) [aj Ad.eq_1,h1,h3,mks,List.take_of_length_le]
 | succ n ihn =>
  intro i hi G hG
  have h1:i < l.length:=by omega
  have hp:=ho _ (List.getElem_mem h1)
  have hpo:oU l[i]=true:=by cases hp;assumption
  have hpf:Fits l[i]:=by cases hp;assumption
  have hs:=VB hpo
  have hnext:∀ G:List Nd,G.length≤8 * (i+1)→jP C ⟨[(12,.int .i64 ((i:Int)+1)),(11,.int .i64 l.length),(10,.ro 6 (l.map Pt.c) e),(5,.sl 0 6 0 G.length G.length false),(2,.ptr 1 0 0)],[(0,.cells 6 (G.map Nd.c) true true),(1,.cells 4 [[.int .u64 x.k,.int .u8 x.t,.str x.x,.ro 1 (x.m.map eS) x.e]] true true)],2⟩ =
   some (.ro 6 ((G++mks x (l.drop (i+1))).map Nd.c) false):=fun G q=>by
    have:=ihn (i+1) (by omega) G q
    simpa using this
  have hfit:(G.length+1) * 105≤35184372088832:=by omega
  rw [drop_cons h1,mks]
  have step:∀ N:Nd,jP C ⟨[(12,.int .i64 ((i:Int)+1)),(11,.int .i64 l.length),(10,.ro 6 (l.map Pt.c) e),(5,.sl 0 6 0 (G.length+1) (G.length+1) false),(2,.ptr 1 0 0)],[(0,.cells 6 (G.map Nd.c++[N.c]) true true),(1,.cells 4 [[.int .u64 x.k,.int .u8 x.t,.str x.x,.ro 1 (x.m.map eS) x.e]] true true)],2⟩ =
   some (.ro 6 ((G++([N]++mks x (l.drop (i+1)))).map Nd.c) false):=fun N=>by
    have:=hnext (G++[N]) (by simp;omega)
    simpa using this
  rcases U6 hpo with k1 | k1 | k1 | k1 | k1
  · have he:=H8 H.toafL x hk (by omega) l[i] hs.1 (fun s q=>⟨hpf.f s q,hs.2 s q⟩) l[i].y (mks x l[i].ch) false
    have hr:=ih _ (List.getElem_mem h1)
    have:=step (xW x l[i] l[i].y (mks x l[i].ch))
    have hq:mk x l[i]=[xW x l[i] l[i].y (mks x l[i].ch)]:=by rw [mk_eq,if_pos k1]
    rw [hq]
    simp only [jP] at this ⊢;rw [aj nS.eq_1]
    simp at this
    simp (disch:=omega) [aj qg.eq_1,h1,k1,aB,hfit,he,hr,H.inl,ak,H.pp,ppB,this]
  · have hw:=vC H.toafL l[i].x
    have:=step (bM l[i].x)
    have hq:mk x l[i]=[bM l[i].x]:=by rw [mk_eq,if_neg (by omega),if_pos k1]
    rw [hq]
    simp only [jP] at this ⊢;rw [aj nS.eq_1]
    simp at this
    simp (disch:=omega) [aj qg.eq_1,h1,k1,aB,hfit,hw,H.inl,ak,H.pp,ppB,this]
  · have hw:=vC H.toafL x.x
    have:=step (bM x.x)
    have hq:mk x l[i]=[bM x.x]:=by rw [mk_eq,if_neg (by omega),if_neg (by omega),if_pos k1]
    rw [hq]
    simp only [jP] at this ⊢;rw [aj nS.eq_1]
    simp at this
    simp (disch:=omega) [aj qg.eq_1,h1,k1,aB,hfit,hw,H.inl,ak,H.pp,ppB,this]
  · obtain ⟨k,hk2⟩:∃ k:Nat,x.k=k:=⟨x.k.toNat,by omega⟩
    have hd:=MV H.toadT k (by omega)
    have hw:=vC H.toafL (dec x.k.toNat)
    have:=step (bM (dec x.k.toNat))
    have hq:mk x l[i]=[bM (dec x.k.toNat)]:=by rw [mk_eq,if_neg (by omega),if_neg (by omega),if_neg (by omega),if_pos k1]
    rw [hq]
    rw [hk2] at this hw ⊢
    simp only [jP] at this ⊢;rw [aj nS.eq_1]
    simp at this hw
    simp (disch:=omega) [aj qg.eq_1,h1,k1,aB,hfit,hd,hw,H.inl,ak,H.pp,ppB,this]
  · have:=agl H x hk hm l e hl l[i] ⟨hpo,hpf⟩ k1 i h1 hnext x.m.length 0 (by simp) G (by omega)
    have hq:mk x l[i]=x.m.map fun m=>xW x l[i] m [bM m]:=by rw [mk_eq,if_neg (by omega),if_neg (by omega),if_neg (by omega),if_neg (by omega),if_pos k1]
    rw [hq,← List.append_assoc]
    rw [List.drop_zero] at this
    generalize G++List.map (fun m=>xW x l[i] m [bM m]) x.m++mks x (l.drop (i+1))=R at *
    simp only [jP]
    simp only [Fp] at this
    rw [aj nS.eq_1]
    simp at this
    simp (disch:=omega) [aj qg.eq_1,h1,k1,aB,H.inl,ak,H.pp,ppB,this]
theorem Jo (H:qB C) (x:It) (hk:0≤x.k∧x.k < 18446744073709551616) (hm:x.m.length≤8) (l:List Pt) (e:Bool) (hl:l.length≤16) (ho:∀ p ∈ l,Okp p)
 (ih:∀ p ∈ l,FnW C 547 [eIt x,.ro 6 (p.ch.map Pt.c) p.ce]=some (.ro 6 ((mks x p.ch).map Nd.c) false)):FnW C 547 [eIt x,.ro 6 (l.map Pt.c) e]=some (.ro 6 ((mks x l).map Nd.c) false):=by
 have h:=YR H x hk hm l e hl ho ih l.length 0 (by simp) [] (by simp)
 simp only [jP] at h
 simp at h
 rw [aH H.ajb rfl]
 simp [aeT,h]
theorem Qs (H:qB C) (x:It) (hk:0≤x.k∧x.k < 18446744073709551616) (hm:x.m.length≤8) (p:Pt) (hp:Okp p):FnW C 547 [eIt x,.ro 6 (p.ch.map Pt.c) p.ce]=some (.ro 6 ((mks x p.ch).map Nd.c) false):=by
 have ho:∀ m ∈ p.ch,Okp m:=by cases hp;assumption
 have hl:p.ch.length≤16:=zW (by cases hp;assumption)
 exact Jo H x hk hm p.ch p.ce hl ho fun m q=>Qs H x hk hm m (ho m q)
termination_by SizeOf.sizeOf p
decreasing_by
 have:=List.sizeOf_lt_of_mem q
 have:=Pt.uX p
 omega
theorem agr (H:qB C) (x:It) (hk:0≤x.k∧x.k < 18446744073709551616) (hm:x.m.length≤8) (l:List Pt) (e:Bool) (hl:l.length≤16) (ho:∀ p ∈ l,Okp p) :
 FnW C 547 [eIt x,.ro 6 (l.map Pt.c) e]=some (.ro 6 ((mks x l).map Nd.c) false) :=
 Jo H x hk hm l e hl ho fun m q=>Qs H x hk hm m (ho m q)
theorem dD (x:It) (p:Pt) (m:Bs):(iR x p m [bM m] true).c=[.int .u8 1,.str p.t,.str m,.ro 2 ((p.s.map (bD x)).map eA) false,.str [],.ro 6 [[.int .u8 2,.str [],.str [],.ro 2 [] true,.str m,.ro 6 [] true]] true]:=by
 rw [Nd.dY];simp only [iR,List.map_cons,List.map_nil];rw [Nd.dY];simp [bM]
theorem aej (H:qB C) (x:It) (hk:0≤x.k∧x.k < 18446744073709551616) (hl8:x.m.length≤8) (p:Pt) (hl:p.s.length≤8) (m1 m2 m3 m4 m5 m6 m7 m8:Bs) (r:List Bs) (hm:x.m=[m1,m2,m3,m4,m5,m6,m7,m8]++r) :
 cZ C ⟨[(6,.int .i64 8),(5,.sl 0 6 0 8 8 false),(3,.ptr 9 0 0),(2,.ptr 10 0 0)],[(0,.cells 6 [[.int .u8 1,.str p.t,.str m1,.ro 2 ((p.s.map (bD x)).map eA) false,.str [],.sl 1 6 0 1 1 true],[.int .u8 1,.str p.t,.str m2,.ro 2 ((p.s.map (bD x)).map eA) false,.str [],.sl 2 6 0 1 1 true],[.int .u8 1,.str p.t,.str m3,.ro 2 ((p.s.map (bD x)).map eA) false,.str [],.sl 3 6 0 1 1 true],[.int .u8 1,.str p.t,.str m4,.ro 2 ((p.s.map (bD x)).map eA) false,.str [],.sl 4 6 0 1 1 true],[.int .u8 1,.str p.t,.str m5,.ro 2 ((p.s.map (bD x)).map eA) false,.str [],.sl 5 6 0 1 1 true],[.int .u8 1,.str p.t,.str m6,.ro 2 ((p.s.map (bD x)).map eA) false,.str [],.sl 6 6 0 1 1 true],[.int .u8 1,.str p.t,.str m7,.ro 2 ((p.s.map (bD x)).map eA) false,.str [],.sl 7 6 0 1 1 true],[.int .u8 1,.str p.t,.str m8,.ro 2 ((p.s.map (bD x)).map eA) false,.str [],.sl 8 6 0 1 1 true]] true false),(1,.cells 6 [[.int .u8 2,.str [],.str [],.ro 2 [] true,.str m1,.ro 6 [] true]] true true),(2,.cells 6 [[.int .u8 2,.str [],.str [],.ro 2 [] true,.str m2,.ro 6 [] true]] true true),(3,.cells 6 [[.int .u8 2,.str [],.str [],.ro 2 [] true,.str m3,.ro 6 [] true]] true true),(4,.cells 6 [[.int .u8 2,.str [],.str [],.ro 2 [] true,.str m4,.ro 6 [] true]] true true),(5,.cells 6 [[.int .u8 2,.str [],.str [],.ro 2 [] true,.str m5,.ro 6 [] true]] true true),(6,.cells 6 [[.int .u8 2,.str [],.str [],.ro 2 [] true,.str m6,.ro 6 [] true]] true true),(7,.cells 6 [[.int .u8 2,.str [],.str [],.ro 2 [] true,.str m7,.ro 6 [] true]] true true),(8,.cells 6 [[.int .u8 2,.str [],.str [],.ro 2 [] true,.str m8,.ro 6 [] true]] true true),(9,.cells 4 [[.int .u64 x.k,.int .u8 x.t,.str x.x,.ro 1 (x.m.map eS) x.e]] true true),(10,.cells 6 [p.c] true true)],11⟩ =
  some (.ro 6 (([m1,m2,m3,m4,m5,m6,m7,m8]++r).map fun m=>(iR x p m [bM m] true).c) false):=by
 simp only [cZ];rw [aj jO.eq_1]
 have hxl:x.m.length=8+r.length:=by rw [hm];simp;omega
 cases r with
 | nil =>
  simp at hxl
  simp [aj kW.eq_1,hxl,dD]
 | cons m9 r=>simp at hxl;omega
theorem afX (H:qB C) (x:It) (hk:0≤x.k∧x.k < 18446744073709551616) (hl8:x.m.length≤8) (p:Pt) (hl:p.s.length≤8) (m1 m2 m3 m4 m5 m6 m7:Bs) (r:List Bs) (hm:x.m=[m1,m2,m3,m4,m5,m6,m7]++r) :
 cZ C ⟨[(6,.int .i64 7),(5,.sl 0 6 0 7 7 false),(3,.ptr 8 0 0),(2,.ptr 9 0 0)],[(0,.cells 6 [[.int .u8 1,.str p.t,.str m1,.ro 2 ((p.s.map (bD x)).map eA) false,.str [],.sl 1 6 0 1 1 true],[.int .u8 1,.str p.t,.str m2,.ro 2 ((p.s.map (bD x)).map eA) false,.str [],.sl 2 6 0 1 1 true],[.int .u8 1,.str p.t,.str m3,.ro 2 ((p.s.map (bD x)).map eA) false,.str [],.sl 3 6 0 1 1 true],[.int .u8 1,.str p.t,.str m4,.ro 2 ((p.s.map (bD x)).map eA) false,.str [],.sl 4 6 0 1 1 true],[.int .u8 1,.str p.t,.str m5,.ro 2 ((p.s.map (bD x)).map eA) false,.str [],.sl 5 6 0 1 1 true],[.int .u8 1,.str p.t,.str m6,.ro 2 ((p.s.map (bD x)).map eA) false,.str [],.sl 6 6 0 1 1 true],[.int .u8 1,.str p.t,.str m7,.ro 2 ((p.s.map (bD x)).map eA) false,.str [],.sl 7 6 0 1 1 true]] true false),(1,.cells 6 [[.int .u8 2,.str [],.str [],.ro 2 [] true,.str m1,.ro 6 [] true]] true true),(2,.cells 6 [[.int .u8 2,.str [],.str [],.ro 2 [] true,.str m2,.ro 6 [] true]] true true),(3,.cells 6 [[.int .u8 2,.str [],.str [],.ro 2 [] true,.str m3,.ro 6 [] true]] true true),(4,.cells 6 [[.int .u8 2,.str [],.str [],.ro 2 [] true,.str m4,.ro 6 [] true]] true true),(5,.cells 6 [[.int .u8 2,.str [],.str [],.ro 2 [] true,.str m5,.ro 6 [] true]] true true),(6,.cells 6 [[.int .u8 2,.str [],.str [],.ro 2 [] true,.str m6,.ro 6 [] true]] true true),(7,.cells 6 [[.int .u8 2,.str [],.str [],.ro 2 [] true,.str m7,.ro 6 [] true]] true true),(8,.cells 4 [[.int .u64 x.k,.int .u8 x.t,.str x.x,.ro 1 (x.m.map eS) x.e]] true true),(9,.cells 6 [p.c] true true)],10⟩ =
  some (.ro 6 (([m1,m2,m3,m4,m5,m6,m7]++r).map fun m=>(iR x p m [bM m] true).c) false):=by
 simp only [cZ];rw [aj jO.eq_1]
 have hxl:x.m.length=7+r.length:=by rw [hm];simp;omega
 cases r with
 | nil =>
  simp at hxl
  simp [aj kW.eq_1,hxl,dD]
 | cons m8 r =>
  have h1:7 < x.m.length:=by rw [hxl];simp
  have hg:x.m[7]=m8:=by
   have q:x.m[7]?=some m8:=by rw [hm];simp
   rw [List.getElem?_eq_getElem h1] at q
   exact Option.some.inj q
  have ha:=jk H.toadz x hk (by omega) p.s p.se hl
  have this:=aej H x hk hl8 p hl m1 m2 m3 m4 m5 m6 m7 m8 r (by rw [hm];simp)
  simp only [cZ] at this
  simp [dD] at this
  have h2:(7:Int) < x.m.length:=by omega
  simp (disch:=omega) [h1,h2,hg,aB,dD,ha,H.inl,ak,H.pp,ppB,this]
theorem ad6 (H:qB C) (x:It) (hk:0≤x.k∧x.k < 18446744073709551616) (hl8:x.m.length≤8) (p:Pt) (hl:p.s.length≤8) (m1 m2 m3 m4 m5 m6:Bs) (r:List Bs) (hm:x.m=[m1,m2,m3,m4,m5,m6]++r) :
 cZ C ⟨[(6,.int .i64 6),(5,.sl 0 6 0 6 6 false),(3,.ptr 7 0 0),(2,.ptr 8 0 0)],[(0,.cells 6 [[.int .u8 1,.str p.t,.str m1,.ro 2 ((p.s.map (bD x)).map eA) false,.str [],.sl 1 6 0 1 1 true],[.int .u8 1,.str p.t,.str m2,.ro 2 ((p.s.map (bD x)).map eA) false,.str [],.sl 2 6 0 1 1 true],[.int .u8 1,.str p.t,.str m3,.ro 2 ((p.s.map (bD x)).map eA) false,.str [],.sl 3 6 0 1 1 true],[.int .u8 1,.str p.t,.str m4,.ro 2 ((p.s.map (bD x)).map eA) false,.str [],.sl 4 6 0 1 1 true],[.int .u8 1,.str p.t,.str m5,.ro 2 ((p.s.map (bD x)).map eA) false,.str [],.sl 5 6 0 1 1 true],[.int .u8 1,.str p.t,.str m6,.ro 2 ((p.s.map (bD x)).map eA) false,.str [],.sl 6 6 0 1 1 true]] true false),(1,.cells 6 [[.int .u8 2,.str [],.str [],.ro 2 [] true,.str m1,.ro 6 [] true]] true true),(2,.cells 6 [[.int .u8 2,.str [],.str [],.ro 2 [] true,.str m2,.ro 6 [] true]] true true),(3,.cells 6 [[.int .u8 2,.str [],.str [],.ro 2 [] true,.str m3,.ro 6 [] true]] true true),(4,.cells 6 [[.int .u8 2,.str [],.str [],.ro 2 [] true,.str m4,.ro 6 [] true]] true true),(5,.cells 6 [[.int .u8 2,.str [],.str [],.ro 2 [] true,.str m5,.ro 6 [] true]] true true),(6,.cells 6 [[.int .u8 2,.str [],.str [],.ro 2 [] true,.str m6,.ro 6 [] true]] true true),(7,.cells 4 [[.int .u64 x.k,.int .u8 x.t,.str x.x,.ro 1 (x.m.map eS) x.e]] true true),(8,.cells 6 [p.c] true true)],9⟩ =
  some (.ro 6 (([m1,m2,m3,m4,m5,m6]++r).map fun m=>(iR x p m [bM m] true).c) false):=by
 simp only [cZ];rw [aj jO.eq_1]
 have hxl:x.m.length=6+r.length:=by rw [hm];simp;omega
 cases r with
 | nil =>
  simp at hxl
  simp [aj kW.eq_1,hxl,dD]
 | cons m7 r =>
  have h1:6 < x.m.length:=by rw [hxl];simp
  have hg:x.m[6]=m7:=by
   have q:x.m[6]?=some m7:=by rw [hm];simp
   rw [List.getElem?_eq_getElem h1] at q
   exact Option.some.inj q
  have ha:=jk H.toadz x hk (by omega) p.s p.se hl
  have this:=afX H x hk hl8 p hl m1 m2 m3 m4 m5 m6 m7 r (by rw [hm];simp)
  simp only [cZ] at this
  simp [dD] at this
  have h2:(6:Int) < x.m.length:=by omega
  simp (disch:=omega) [h1,h2,hg,aB,dD,ha,H.inl,ak,H.pp,ppB,this]
theorem agH (H:qB C) (x:It) (hk:0≤x.k∧x.k < 18446744073709551616) (hl8:x.m.length≤8) (p:Pt) (hl:p.s.length≤8) (m1 m2 m3 m4 m5:Bs) (r:List Bs) (hm:x.m=[m1,m2,m3,m4,m5]++r) :
 cZ C ⟨[(6,.int .i64 5),(5,.sl 0 6 0 5 5 false),(3,.ptr 6 0 0),(2,.ptr 7 0 0)],[(0,.cells 6 [[.int .u8 1,.str p.t,.str m1,.ro 2 ((p.s.map (bD x)).map eA) false,.str [],.sl 1 6 0 1 1 true],[.int .u8 1,.str p.t,.str m2,.ro 2 ((p.s.map (bD x)).map eA) false,.str [],.sl 2 6 0 1 1 true],[.int .u8 1,.str p.t,.str m3,.ro 2 ((p.s.map (bD x)).map eA) false,.str [],.sl 3 6 0 1 1 true],[.int .u8 1,.str p.t,.str m4,.ro 2 ((p.s.map (bD x)).map eA) false,.str [],.sl 4 6 0 1 1 true],[.int .u8 1,.str p.t,.str m5,.ro 2 ((p.s.map (bD x)).map eA) false,.str [],.sl 5 6 0 1 1 true]] true false),(1,.cells 6 [[.int .u8 2,.str [],.str [],.ro 2 [] true,.str m1,.ro 6 [] true]] true true),(2,.cells 6 [[.int .u8 2,.str [],.str [],.ro 2 [] true,.str m2,.ro 6 [] true]] true true),(3,.cells 6 [[.int .u8 2,.str [],.str [],.ro 2 [] true,.str m3,.ro 6 [] true]] true true),(4,.cells 6 [[.int .u8 2,.str [],.str [],.ro 2 [] true,.str m4,.ro 6 [] true]] true true),(5,.cells 6 [[.int .u8 2,.str [],.str [],.ro 2 [] true,.str m5,.ro 6 [] true]] true true),(6,.cells 4 [[.int .u64 x.k,.int .u8 x.t,.str x.x,.ro 1 (x.m.map eS) x.e]] true true),(7,.cells 6 [p.c] true true)],8⟩ =
  some (.ro 6 (([m1,m2,m3,m4,m5]++r).map fun m=>(iR x p m [bM m] true).c) false):=by
 simp only [cZ];rw [aj jO.eq_1]
 have hxl:x.m.length=5+r.length:=by rw [hm];simp;omega
 cases r with
 | nil =>
  simp at hxl
  simp [aj kW.eq_1,hxl,dD]
 | cons m6 r =>
  have h1:5 < x.m.length:=by rw [hxl];simp
  have hg:x.m[5]=m6:=by
   have q:x.m[5]?=some m6:=by rw [hm];simp
   rw [List.getElem?_eq_getElem h1] at q
   exact Option.some.inj q
  have ha:=jk H.toadz x hk (by omega) p.s p.se hl
  have this:=ad6 H x hk hl8 p hl m1 m2 m3 m4 m5 m6 r (by rw [hm];simp)
  simp only [cZ] at this
  simp [dD] at this
  have h2:(5:Int) < x.m.length:=by omega
  simp (disch:=omega) [h1,h2,hg,aB,dD,ha,H.inl,ak,H.pp,ppB,this]
theorem ahw (H:qB C) (x:It) (hk:0≤x.k∧x.k < 18446744073709551616) (hl8:x.m.length≤8) (p:Pt) (hl:p.s.length≤8) (m1 m2 m3 m4:Bs) (r:List Bs) (hm:x.m=[m1,m2,m3,m4]++r) :
 cZ C ⟨[(6,.int .i64 4),(5,.sl 0 6 0 4 4 false),(3,.ptr 5 0 0),(2,.ptr 6 0 0)],[(0,.cells 6 [[.int .u8 1,.str p.t,.str m1,.ro 2 ((p.s.map (bD x)).map eA) false,.str [],.sl 1 6 0 1 1 true],[.int .u8 1,.str p.t,.str m2,.ro 2 ((p.s.map (bD x)).map eA) false,.str [],.sl 2 6 0 1 1 true],[.int .u8 1,.str p.t,.str m3,.ro 2 ((p.s.map (bD x)).map eA) false,.str [],.sl 3 6 0 1 1 true],[.int .u8 1,.str p.t,.str m4,.ro 2 ((p.s.map (bD x)).map eA) false,.str [],.sl 4 6 0 1 1 true]] true false),(1,.cells 6 [[.int .u8 2,.str [],.str [],.ro 2 [] true,.str m1,.ro 6 [] true]] true true),(2,.cells 6 [[.int .u8 2,.str [],.str [],.ro 2 [] true,.str m2,.ro 6 [] true]] true true),(3,.cells 6 [[.int .u8 2,.str [],.str [],.ro 2 [] true,.str m3,.ro 6 [] true]] true true),(4,.cells 6 [[.int .u8 2,.str [],.str [],.ro 2 [] true,.str m4,.ro 6 [] true]] true true),(5,.cells 4 [[.int .u64 x.k,.int .u8 x.t,.str x.x,.ro 1 (x.m.map eS) x.e]] true true),(6,.cells 6 [p.c] true true)],7⟩ =
  some (.ro 6 (([m1,m2,m3,m4]++r).map fun m=>(iR x p m [bM m] true).c) false):=by
 simp only [cZ];rw [aj jO.eq_1]
 have hxl:x.m.length=4+r.length:=by rw [hm];simp;omega
 cases r with
 | nil =>
  simp at hxl
  simp [aj kW.eq_1,hxl,dD]
 | cons m5 r =>
  have h1:4 < x.m.length:=by rw [hxl];simp
  have hg:x.m[4]=m5:=by
   have q:x.m[4]?=some m5:=by rw [hm];simp
   rw [List.getElem?_eq_getElem h1] at q
   exact Option.some.inj q
  have ha:=jk H.toadz x hk (by omega) p.s p.se hl
  have this:=agH H x hk hl8 p hl m1 m2 m3 m4 m5 r (by rw [hm];simp)
  simp only [cZ] at this
  simp [dD] at this
  have h2:(4:Int) < x.m.length:=by omega
  simp (disch:=omega) [h1,h2,hg,aB,dD,ha,H.inl,ak,H.pp,ppB,this]
theorem aeb (H:qB C) (x:It) (hk:0≤x.k∧x.k < 18446744073709551616) (hl8:x.m.length≤8) (p:Pt) (hl:p.s.length≤8) (m1 m2 m3:Bs) (r:List Bs) (hm:x.m=[m1,m2,m3]++r) :
 cZ C ⟨[(6,.int .i64 3),(5,.sl 0 6 0 3 3 false),(3,.ptr 4 0 0),(2,.ptr 5 0 0)],[(0,.cells 6 [[.int .u8 1,.str p.t,.str m1,.ro 2 ((p.s.map (bD x)).map eA) false,.str [],.sl 1 6 0 1 1 true],[.int .u8 1,.str p.t,.str m2,.ro 2 ((p.s.map (bD x)).map eA) false,.str [],.sl 2 6 0 1 1 true],[.int .u8 1,.str p.t,.str m3,.ro 2 ((p.s.map (bD x)).map eA) false,.str [],.sl 3 6 0 1 1 true]] true false),(1,.cells 6 [[.int .u8 2,.str [],.str [],.ro 2 [] true,.str m1,.ro 6 [] true]] true true),(2,.cells 6 [[.int .u8 2,.str [],.str [],.ro 2 [] true,.str m2,.ro 6 [] true]] true true),(3,.cells 6 [[.int .u8 2,.str [],.str [],.ro 2 [] true,.str m3,.ro 6 [] true]] true true),(4,.cells 4 [[.int .u64 x.k,.int .u8 x.t,.str x.x,.ro 1 (x.m.map eS) x.e]] true true),(5,.cells 6 [p.c] true true)],6⟩ =
  some (.ro 6 (([m1,m2,m3]++r).map fun m=>(iR x p m [bM m] true).c) false):=by
 simp only [cZ];rw [aj jO.eq_1]
 have hxl:x.m.length=3+r.length:=by rw [hm];simp;omega
 cases r with
 | nil =>
  simp at hxl
  simp [aj kW.eq_1,hxl,dD]
 | cons m4 r =>
  have h1:3 < x.m.length:=by rw [hxl];simp
  have hg:x.m[3]=m4:=by
   have q:x.m[3]?=some m4:=by rw [hm];simp
   rw [List.getElem?_eq_getElem h1] at q
   exact Option.some.inj q
  have ha:=jk H.toadz x hk (by omega) p.s p.se hl
  have this:=ahw H x hk hl8 p hl m1 m2 m3 m4 r (by rw [hm];simp)
  simp only [cZ] at this
  simp [dD] at this
  have h2:(3:Int) < x.m.length:=by omega
  simp (disch:=omega) [h1,h2,hg,aB,dD,ha,H.inl,ak,H.pp,ppB,this]
theorem ahe (H:qB C) (x:It) (hk:0≤x.k∧x.k < 18446744073709551616) (hl8:x.m.length≤8) (p:Pt) (hl:p.s.length≤8) (m1 m2:Bs) (r:List Bs) (hm:x.m=[m1,m2]++r) :
 cZ C ⟨[(6,.int .i64 2),(5,.sl 0 6 0 2 2 false),(3,.ptr 3 0 0),(2,.ptr 4 0 0)],[(0,.cells 6 [[.int .u8 1,.str p.t,.str m1,.ro 2 ((p.s.map (bD x)).map eA) false,.str [],.sl 1 6 0 1 1 true],[.int .u8 1,.str p.t,.str m2,.ro 2 ((p.s.map (bD x)).map eA) false,.str [],.sl 2 6 0 1 1 true]] true false),(1,.cells 6 [[.int .u8 2,.str [],.str [],.ro 2 [] true,.str m1,.ro 6 [] true]] true true),(2,.cells 6 [[.int .u8 2,.str [],.str [],.ro 2 [] true,.str m2,.ro 6 [] true]] true true),(3,.cells 4 [[.int .u64 x.k,.int .u8 x.t,.str x.x,.ro 1 (x.m.map eS) x.e]] true true),(4,.cells 6 [p.c] true true)],5⟩ =
  some (.ro 6 (([m1,m2]++r).map fun m=>(iR x p m [bM m] true).c) false):=by
 simp only [cZ];rw [aj jO.eq_1]
 have hxl:x.m.length=2+r.length:=by rw [hm];simp;omega
 cases r with
 | nil =>
  simp at hxl
  simp [aj kW.eq_1,hxl,dD]
 | cons m3 r =>
  have h1:2 < x.m.length:=by rw [hxl];simp
  have hg:x.m[2]=m3:=by
   have q:x.m[2]?=some m3:=by rw [hm];simp
   rw [List.getElem?_eq_getElem h1] at q
   exact Option.some.inj q
  have ha:=jk H.toadz x hk (by omega) p.s p.se hl
  have this:=aeb H x hk hl8 p hl m1 m2 m3 r (by rw [hm];simp)
  simp only [cZ] at this
  simp [dD] at this
  have h2:(2:Int) < x.m.length:=by omega
  simp (disch:=omega) [h1,h2,hg,aB,dD,ha,H.inl,ak,H.pp,ppB,this]
theorem afw (H:qB C) (x:It) (hk:0≤x.k∧x.k < 18446744073709551616) (hl8:x.m.length≤8) (p:Pt) (hl:p.s.length≤8) (m1:Bs) (r:List Bs) (hm:x.m=[m1]++r) :
 cZ C ⟨[(6,.int .i64 1),(5,.sl 0 6 0 1 1 false),(3,.ptr 2 0 0),(2,.ptr 3 0 0)],[(0,.cells 6 [[.int .u8 1,.str p.t,.str m1,.ro 2 ((p.s.map (bD x)).map eA) false,.str [],.sl 1 6 0 1 1 true]] true false),(1,.cells 6 [[.int .u8 2,.str [],.str [],.ro 2 [] true,.str m1,.ro 6 [] true]] true true),(2,.cells 4 [[.int .u64 x.k,.int .u8 x.t,.str x.x,.ro 1 (x.m.map eS) x.e]] true true),(3,.cells 6 [p.c] true true)],4⟩ =
  some (.ro 6 (([m1]++r).map fun m=>(iR x p m [bM m] true).c) false):=by
 simp only [cZ];rw [aj jO.eq_1]
 have hxl:x.m.length=1+r.length:=by rw [hm];simp;omega
 cases r with
 | nil =>
  simp at hxl
  simp [aj kW.eq_1,hxl,dD]
 | cons m2 r =>
  have h1:1 < x.m.length:=by rw [hxl];simp
  have hg:x.m[1]=m2:=by
   have q:x.m[1]?=some m2:=by rw [hm];simp
   rw [List.getElem?_eq_getElem h1] at q
   exact Option.some.inj q
  have ha:=jk H.toadz x hk (by omega) p.s p.se hl
  have this:=ahe H x hk hl8 p hl m1 m2 r (by rw [hm];simp)
  simp only [cZ] at this
  simp [dD] at this
  have h2:(1:Int) < x.m.length:=by omega
  simp (disch:=omega) [h1,h2,hg,aB,dD,ha,H.inl,ak,H.pp,ppB,this]
theorem aem (H:qB C) (x:It) (hk:0≤x.k∧x.k < 18446744073709551616) (hl8:x.m.length≤8) (p:Pt) (hl:p.s.length≤8) (r:List Bs) (hm:x.m=r) :
 cZ C ⟨[(6,.int .i64 0),(5,.sl 0 6 0 0 0 false),(3,.ptr 1 0 0),(2,.ptr 2 0 0)],[(0,.cells 6 [] true true),(1,.cells 4 [[.int .u64 x.k,.int .u8 x.t,.str x.x,.ro 1 (x.m.map eS) x.e]] true true),(2,.cells 6 [p.c] true true)],3⟩ =
  some (.ro 6 (r.map fun m=>(iR x p m [bM m] true).c) false):=by
 simp only [cZ];rw [aj jO.eq_1]
 have hxl:x.m.length=0+r.length:=by rw [hm];simp
 cases r with
 | nil =>
  simp at hxl
  simp [aj kW.eq_1,hxl,dD]
 | cons m1 r =>
  have h1:0 < x.m.length:=by rw [hxl];simp
  have hg:x.m[0]=m1:=by
   have q:x.m[0]?=some m1:=by rw [hm];simp
   rw [List.getElem?_eq_getElem h1] at q
   exact Option.some.inj q
  have ha:=jk H.toadz x hk (by omega) p.s p.se hl
  have this:=afw H x hk hl8 p hl  m1 r (by rw [hm];simp)
  simp only [cZ] at this
  simp [dD] at this
  have h2:(0:Int) < x.m.length:=by omega
  simp (disch:=omega) [h1,h2,hg,aB,dD,ha,H.inl,ak,H.pp,ppB,this]
def mdF (p:Pt):Bool:=decide (p.k≠5)
theorem agN (H:qB C) (x:It) (hk:0≤x.k∧x.k < 18446744073709551616) (hm:x.m.length≤8) (p:Pt) (hl:p.ch.length≤16)
 (ih:∀ m ∈ p.ch,FnW C 513 [.agg m.c,eIt x]=some (.ro 6 ((md x m).map Nd.c) (mdF m))):∀ n i,n+i=p.ch.length→∀ G:List Nd,G.length≤8 * i →
 nI C ⟨[(8,.int .i64 i),(7,.ptr 0 0 0),(3,.ptr 2 0 0),(2,.ptr 3 0 0)],[(0,.cells 6 [[.int .u8 1,.str p.t,.str p.y,.ro 2 ((p.s.map (bD x)).map eA) false,.str [],.sl 1 6 0 G.length G.length false]] true false),(1,.cells 6 (G.map Nd.c) true true),(2,.cells 4 [[.int .u64 x.k,.int .u8 x.t,.str x.x,.ro 1 (x.m.map eS) x.e]] true true),(3,.cells 6 [p.c] true true)],4⟩ =
  some (.ro 6 [(iR x p p.y (G++mds x (p.ch.drop i)) false).c] true):=by
 intro n
 induction n with
 | zero =>
  intro i hi G hG
  have h1:p.ch.drop i=[]:=List.drop_eq_nil_of_le (by omega)
  have h3:¬ i < p.ch.length:=by omega
  have h4:List.take G.length (List.map Nd.c G)=List.map Nd.c G:=List.take_of_length_le (by simp)
  have hw:(iR x p p.y G false).c=[.int .u8 1,.str p.t,.str p.y,.ro 2 ((p.s.map (bD x)).map eA) false,.str [],.ro 6 (G.map Nd.c) false]:=by rw [Nd.dY];rfl
  rw [h1,mds,List.append_nil,hw]
  simp only [nI];rw [aj nR.eq_1]
  simp (disch:=omega) [aj Ed.eq_1,h3,h4]
 | succ n ihn =>
  intro i hi G hG
  have h1:i < p.ch.length:=by omega
  have hr:=ih _ (List.getElem_mem h1)
  have hlen:=abA x hm p.ch[i]
  have:=ihn (i+1) (by omega) (G++md x p.ch[i]) (by simp;omega)
  have hfit:(G.length+(md x p.ch[i]).length) * 105≤35184372088832:=by omega
  rw [drop_cons h1,mds,← List.append_assoc]
  generalize (iR x p p.y (G++md x p.ch[i]++mds x (List.drop (i+1) p.ch)) false).c=R at *
  by_cases hE:md x p.ch[i]=[]
  · simp only [nI] at this ⊢;rw [aj nR.eq_1]
    simp [hE] at this
    simp (disch:=omega) [h1,aB,hr,hE,H.inl,ak,H.pp,ppB,this]
  · simp only [nI] at this ⊢;rw [aj nR.eq_1]
    simp at this
    simp (disch:=omega) [h1,aB,hr,hE,isE hE,hfit,H.inl,ak,H.pp,ppB,this]
theorem adu (H:qB C) (x:It) (hk:0≤x.k∧x.k < 18446744073709551616) (hm:x.m.length≤8) (p:Pt) (hl:p.ch.length≤16)
 (ih:∀ m ∈ p.ch,FnW C 513 [.agg m.c,eIt x]=some (.ro 6 ((md x m).map Nd.c) (mdF m))):∀ n i,n+i=p.ch.length →
 nI C ⟨[(8,.int .i64 i),(7,.ptr 0 0 0),(3,.ptr 1 0 0),(2,.ptr 2 0 0)],[(0,.cells 6 [[.int .u8 1,.str p.t,.str p.y,.ro 2 ((p.s.map (bD x)).map eA) false,.str [],.ro 6 [] true]] true true),(1,.cells 4 [[.int .u64 x.k,.int .u8 x.t,.str x.x,.ro 1 (x.m.map eS) x.e]] true true),(2,.cells 6 [p.c] true true)],3⟩ =
  some (.ro 6 [(iR x p p.y (mds x (p.ch.drop i)) (mds x (p.ch.drop i)).isEmpty).c] true):=by
 intro n
 induction n with
 | zero =>
  intro i hi
  have h1:p.ch.drop i=[]:=List.drop_eq_nil_of_le (by omega)
  have h3:¬ i < p.ch.length:=by omega
  have hw:(iR x p p.y [] true).c=[.int .u8 1,.str p.t,.str p.y,.ro 2 ((p.s.map (bD x)).map eA) false,.str [],.ro 6 [] true]:=by rw [Nd.dY];rfl
  rw [h1,mds,List.isEmpty_nil,hw]
  simp only [nI];rw [aj nR.eq_1]
  simp (disch:=omega) [aj Ed.eq_1,h3]
 | succ n ihn =>
  intro i hi
  have h1:i < p.ch.length:=by omega
  have hr:=ih _ (List.getElem_mem h1)
  have hlen:=abA x hm p.ch[i]
  have hfit:((md x p.ch[i]).length) * 105≤35184372088832:=by omega
  rw [drop_cons h1,mds]
  by_cases hE:md x p.ch[i]=[]
  · have:=ihn (i+1) (by omega)
    rw [hE,List.nil_append]
    generalize (iR x p p.y (mds x (List.drop (i+1) p.ch)) (mds x (List.drop (i+1) p.ch)).isEmpty).c=R at *
    simp only [nI] at this ⊢;rw [aj nR.eq_1]
    simp at this
    simp (disch:=omega) [h1,aB,hr,hE,H.inl,ak,H.pp,ppB,this]
  · have:=agN H x hk hm p hl ih n (i+1) (by omega) (md x p.ch[i]) (by omega)
    have he:(md x p.ch[i]++mds x (List.drop (i+1) p.ch)).isEmpty=false:=isE (by simp [hE])
    rw [he]
    generalize (iR x p p.y (md x p.ch[i]++mds x (List.drop (i+1) p.ch)) false).c=R at *
    simp only [nI] at this ⊢;rw [aj nR.eq_1]
    simp at this
    simp (disch:=omega) [h1,aB,hr,hE,isE hE,hfit,H.inl,ak,H.pp,ppB,this]
theorem XA (H:qB C) (x:It) (hk:0≤x.k∧x.k < 18446744073709551616) (hm:x.m.length≤8) (p:Pt) (hp:oU p=true)
 (ih:∀ m ∈ p.ch,FnW C 513 [.agg m.c,eIt x]=some (.ro 6 ((md x m).map Nd.c) (mdF m))):FnW C 513 [.agg p.c,eIt x]=some (.ro 6 ((md x p).map Nd.c) (mdF p)):=by
 have hl:=zW hp
 have hs:=VB hp
 rw [aH H.ajr rfl,adE]
 unfold mdF
 have hw:∀ s:Bs,(bM s).c=[.int .u8 2,.str [],.str [],.ro 2 [] true,.str s,.ro 6 [] true]:=fun s=>by rw [Nd.dY];rfl
 rcases U6 hp with k1 | k1 | k1 | k1 | k1
 · have h:=adu H x hk hm p hl ih p.ch.length 0 (by simp)
   have ha:=jk H.toadz x hk (by omega) p.s p.se hs.1
   rw [if_neg (by omega),if_neg (by omega),if_neg (by omega),if_neg (by omega)]
   rw [List.drop_zero] at h
   simp only [List.map_cons,List.map_nil]
   generalize (iR x p p.y (mds x p.ch) (mds x p.ch).isEmpty).c=R at *
   simp only [nI] at h
   simp at h
   simp [SB,aj Pg.eq_1,k1,ha,H.inl,ak,H.pp,ppB,h]
 · simp [SB,k1,hw]
 · simp [SB,k1,hw]
 · obtain ⟨k,hk2⟩:∃ k:Nat,x.k=k:=⟨x.k.toNat,by omega⟩
   have hd:=L8 H.toadT k (by omega)
   simp [SB,k1,hw,hk2,hd,H.inl,ak,H.pp,ppB]
 · have h:=aem H x hk hm p hs.1 x.m rfl
   rw [if_neg (by omega),if_neg (by omega),if_neg (by omega),if_pos k1,List.map_map]
   have hq:(Nd.c ∘ fun m=>iR x p m [bM m] true)=fun m=>(iR x p m [bM m] true).c:=rfl
   rw [hq]
   generalize List.map (fun m=>(iR x p m [bM m] true).c) x.m=R at *
   simp only [cZ] at h
   simp [SB,k1,h]
theorem WE (H:qB C) (x:It) (hk:0≤x.k∧x.k < 18446744073709551616) (hm:x.m.length≤8) (p:Pt) (hp:Okp p):FnW C 513 [.agg p.c,eIt x]=some (.ro 6 ((md x p).map Nd.c) (mdF p)):=by
 have ho:∀ m ∈ p.ch,Okp m:=by cases hp;assumption
 exact XA H x hk hm p (by cases hp;assumption) fun m q=>WE H x hk hm m (ho m q)
termination_by SizeOf.sizeOf p
decreasing_by
 have:=List.sizeOf_lt_of_mem q
 have:=Pt.uX p
 omega
theorem WT {x:It} (h:uG x=true):x.m.length≤8:=by
 unfold uG at h
 simp at h
 exact h.2.1
theorem YG (H:qB C) (p:Pt) (hf:iF p) (x:It) (hk:0≤x.k∧x.k < 18446744073709551616) (most:Int) :
 FnW C 501 [.agg p.c,eIt x,.int .i64 most]=some (.tup [.agg (adC p x most).c,.int .i64 (sJ p x most)]):=by
 have hz:zN.c=[.int .u8 0,.str [],.str [],.ro 2 [] true,.str [],.ro 6 [] true]:=by rw [Nd.dY];rfl
 have hc:=Jv H.toD5 p
 have hi:=Z9 H.toaah x
 rw [aH H.aiL rfl]
 unfold adC sJ
 by_cases c1:most < 1
 · simp [IL,c1,hz]
 · by_cases c2:64 < most
   · simp [IL,c1,c2,hz]
   · by_cases c3:oN p=0
     · rw [c3] at hc
       simp at hc
       simp [IL,c1,c2,c3,hc,hz,H.inl,ak,H.pp,ppB]
     · rw [if_neg c3] at hc
       cases c4:uG x
       · rw [c4] at hi
         simp at hi
         simp [IL,c1,c2,c3,hc,hi,hz,H.inl,ak,H.pp,ppB]
       · rw [c4] at hi
         simp at hi
         have hk1:=ab6 c3
         have hmk:=agr H x hk (WT c4) [p] true (by simp) (by simpa using Ql hf c3)
         have hq:mks x [p]=[mkN x p]:=by unfold mkN;rw [mks,mks,mk_eq,if_pos hk1];rfl
         rw [hq] at hmk
         have hn:=QE H.toQG (mkN x p)
         generalize hN:mkN x p=N at *
         generalize cnt N=K at *
         simp at hmk
         by_cases c5:K=0
         · subst c5
           simp [IL,c1,c2,c3,hc,hi,hz,hmk,hn,H.inl,ak,H.pp,ppB]
         · by_cases c6:most < K
           · simp [IL,c1,c2,c3,hc,hi,hz,hmk,hn,c5,c6,H.inl,ak,H.pp,ppB]
           · simp [IL,c1,c2,c3,hc,hi,hz,hmk,hn,c5,c6,H.inl,ak,H.pp,ppB]
theorem Vq (H:qB C) (p:Pt) (hf:iF p) (x:It) (hk:0≤x.k∧x.k < 18446744073709551616) (most:Int) :
 FnW C 425 [.agg p.c,eIt x,.int .i64 most]=some (.tup [.agg (aix p x most).c,.int .i64 (sJ p x most)]):=by
 have hz:zN.c=[.int .u8 0,.str [],.str [],.ro 2 [] true,.str [],.ro 6 [] true]:=by rw [Nd.dY];rfl
 have hc:=Ib H.toLJ p hf
 have hi:=adf H.toaah x
 rw [aH H.ai8 rfl]
 unfold aix sJ
 by_cases c1:most < 1
 · simp [Jb,c1,hz]
 · by_cases c2:64 < most
   · simp [Jb,c1,c2,hz]
   · by_cases c3:oN p=0
     · rw [c3] at hc
       simp at hc
       simp [Jb,c1,c2,c3,hc,hz,H.inl,ak,H.pp,ppB]
     · rw [if_neg c3] at hc
       cases c4:uG x
       · rw [c4] at hi
         simp at hi
         simp [Jb,c1,c2,c3,hc,hi,hz,H.inl,ak,H.pp,ppB]
       · rw [c4] at hi
         simp at hi
         have hk1:=ab6 c3
         have ho:=Ql hf c3
         have hmk:=WE H x hk (WT c4) p ho
         have hq:md x p=[mdN x p]:=by unfold mdN;rw [adE,if_neg (by omega),if_neg (by omega),if_neg (by omega),if_neg (by omega)];rfl
         rw [hq] at hmk
         have hn:=J4 H.toQw (mdN x p)
         have hn2:=Y7 H.toQw (mdN x p)
         have hcz:cnt (mkN x p)=cnt (mdN x p):=by rw [← ahW,amo x p ho,ahW]
         rw [hcz]
         generalize hN:mdN x p=N at *
         generalize cnt N=K at *
         simp at hmk
         by_cases c5:K=0
         · subst c5
           simp at hn2
           simp [Jb,c1,c2,c3,hc,hi,hz,hmk,hn,hn2,H.inl,ak,H.pp,ppB]
         · simp [c5] at hn2
           by_cases c6:most < K
           · simp [Jb,c1,c2,c3,hc,hi,hz,hmk,hn,hn2,c5,c6,H.inl,ak,H.pp,ppB]
           · simp [Jb,c1,c2,c3,hc,hi,hz,hmk,hn,hn2,c5,c6,H.inl,ak,H.pp,ppB]
end Go.D
end
section
namespace Go.D
open Go Go.Pav Go.Pw P
structure Kd where
 p:Pt
 b:Int
 st:Bool
 pl:Int
structure En where
 i:It
 s:Int
 kn:Bool
@[simp] def eKd (k:Kd):List AV:=[.int .u8 k.p.k,.str k.p.t,.str k.p.y,.ro 3 (k.p.s.map eSl) k.p.se,.str k.p.x,.ro 6 (k.p.ch.map Pt.c) k.p.ce,.int .i64 k.b,.bool k.st,.int .i64 k.pl]
@[simp] def cIt (i:It):List AV:=[.int .u64 i.k,.int .u8 i.t,.str i.x,.ro 1 (i.m.map eS) i.e]
@[simp] def eEn (e:En):List AV:=[.int .u64 e.i.k,.int .u8 e.i.t,.str e.i.x,.ro 1 (e.i.m.map eS) e.i.e,.int .i64 e.s,.bool e.kn]
abbrev aR (ks:List Kd) (ke:Bool) (cap:Int):AV:=.agg [.ro 9 (ks.map eKd) ke,.int .i64 cap]
abbrev aL (l:List En) (e:Bool):AV:=.agg [.ro 6 (l.map eEn) e]
abbrev aE (e:En):AV:=.agg (eEn e)
structure RQ (i:It):Prop where
 k:0≤i.k∧i.k < 18446744073709551616
 t:0≤i.t∧i.t≤255
 m:i.m.length≤1000000
structure qC (e:En):Prop where
 i:RQ e.i
 s:-9223372036854775808≤e.s∧e.s≤9223372036854775807
structure lg (ks:List Kd):Prop where
 n:ks.length≤1000000
 f:∀ k ∈ ks,iF k.p
def hOk (n:Int):Bool:=decide (1≤n)&&decide (n≤2305843009213693952)
def CO (k:Kd):Bool:=hOk k.b&&decide (oN k.p≠0)
def yD (ks:List Kd) (cap:Int):Bool:=decide (1≤ks.length)&&decide (ks.length≤8)&&decide (1≤cap)&&decide (cap≤64)&&ks.all CO
def zP:Pt:=⟨0,[],[],[],true,[],[],true⟩
def iU (ks:List Kd) (t:Int):Kd:=(ks[t.toNat]?).getD ⟨zP,0,false,0⟩
def itE (ks:List Kd) (cap:Int) (x:It) (seen:Bool):Int :=
 if uI ks.length x=false then 6 else if seen=true then 8 else if sJ (iU ks x.t).p x cap=0 then 0 else 14
def enE (ks:List Kd) (cap:Int) (e:En) (seen:Bool):Int :=
 if itE ks cap e.i seen≠0 then itE ks cap e.i seen else if hOk e.s=true∧(e.kn=true∨e.s=(iU ks e.i.t).b) then 0 else 12
def chk (ks:List Kd) (cap:Int):List Int→List En→Int
 | _,[]=>0
 | seen,e::r=>if enE ks cap e (seen.contains e.i.k)≠0 then enE ks cap e (seen.contains e.i.k) else chk ks cap (seen++[e.i.k]) r
def oM:Int→List En→Int
 | sum,[]=>sum
 | sum,e::r=>if 4611686018427387904 - sum < imax e.s 0 then 4611686018427387905 else oM (sum+imax e.s 0) r
def tot (l:List En):Int:=oM 0 l
def ovE (l:List En):Int:=if 4611686018427387904 < tot l then 13 else 0
def ckE (ks:List Kd) (cap:Int) (l:List En):Int :=
 if yD ks cap=false then 7 else if 1024 < l.length then 3 else if chk ks cap [] l≠0 then chk ks cap [] l else ovE l
def BL (a b:It):Bool:=decide (a.k=b.k)&&decide (a.t=b.t)&&decide (a.x=b.x)&&decide (a.m=b.m)
def KI (a b:En):Bool:=decide (a.s=b.s)&&decide (a.kn=b.kn)&&BL a.i b.i
def uO:List En→List En→Bool
 | [],[]=>true
 | a::r,b::s=>KI a b&&uO r s
 | _,_=>false
def It.own (i:It):It:={ i with e:=true }
def En.own (e:En):En:={ e with i:=e.i.own }
def fre (ks:List Kd) (x:It):En:=⟨x,(iU ks x.t).b,false⟩
def spl {α:Type} (l:List α) (at_ count:Nat) (x:List α):List α:=l.take at_++x++l.drop (at_+count)
end Go.D
end
section
end
section
namespace Go.D
open Go Go.Pav Go.Pw P
attribute [-simp] List.getElem_cons_drop
variable {C:aG}
structure kU (C:aG):Prop extends ng C where
 f225:C.fns.get 225=some agw
 f111:C.fns.get 111=some af5
 f227:C.fns.get 227=some afC
 ake:C.fns.get 403=some agW
 agB:C.fns.get 402=some acp
 f224:C.fns.get 224=some agK
 aki:C.fns.get 460=some adG
 aiK:C.fns.get 459=some ag0
 f340:C.fns.get 340=some afA
 f221:C.fns.get 221=some aeJ
 ajG:C.fns.get 400=some abD
 f219:C.fns.get 219=some ZR
 ajO:C.fns.get 504=some ahm
 aeN:C.fns.get 407=some aaC
 f239:C.fns.get 239=some afq
 aky:C.fns.get 406=some adZ
 f240:C.fns.get 240=some af2
 f172:C.fns.get 172=some aa6
 f112:C.fns.get 112=some QI
 akq:C.fns.get 423=some aei
theorem JE (H:kU C) (n:Int):FnW C 225 [.int .i64 n]=some (.bool (hOk n)):=by
 rw [aH H.f225 rfl]
 unfold hOk
 by_cases c1:1≤n <;> by_cases c2:n≤2305843009213693952 <;> simp [agw,c1,c2]
theorem Wi (s:Int) (h1:-9223372036854775808≤s) (h2:s≤9223372036854775807):0≤imax s 0∧imax s 0≤9223372036854775807:=by
 unfold imax;split <;> omega
theorem ac1 (H:kU C) (l:List En) (e:Bool) (hl:l.length≤1000000) (hs:∀ x ∈ l,-9223372036854775808≤x.s∧x.s≤9223372036854775807):∀ n i,n+i=l.length→∀ sum:Int,0≤sum→sum≤4611686018427387904 →
 Ai C ⟨[(10,.int .i64 i),(9,.int .i64 l.length),(8,.ro 6 (l.map eEn) e),(3,.int .i64 sum)],[],0⟩=some (.int .i64 (oM sum (l.drop i))):=by
 intro n
 induction n with
 | zero =>
  intro i hi sum s1 s2
  simp only [Ai];rw [aj xB.eq_1]
  have h1:l.drop i=[]:=List.drop_eq_nil_of_le (by omega)
  have h3:¬ i < l.length:=by omega
  simp [aj KR.eq_1,h1,h3,oM]
 | succ n ih =>
  intro i hi sum s1 s2
  have h1:i < l.length:=by omega
  have hb:=Wi l[i].s (hs _ (List.getElem_mem h1)).1 (hs _ (List.getElem_mem h1)).2
  rw [drop_cons h1,oM]
  generalize hM:imax l[i].s 0=M at *
  by_cases c:4611686018427387904 - sum < M
  · rw [if_pos c]
    simp only [Ai];rw [aj xB.eq_1]
    simp (disch:=omega) [h1,aB,hM,c]
  · rw [if_neg c]
    have:=ih (i+1) (by omega) (sum+M) (by omega) (by omega)
    simp only [Ai] at this ⊢;rw [aj xB.eq_1]
    simp at this
    simp (disch:=omega) [h1,aB,hM,c,this]
theorem nH (H:kU C) (l:List En) (e:Bool) (hl:l.length≤1000000) (hs:∀ x ∈ l,-9223372036854775808≤x.s∧x.s≤9223372036854775807):FnW C 111 [aL l e]=some (.int .i64 (tot l)):=by
 have h:=ac1 H l e hl hs l.length 0 (by simp) 0 (by omega) (by omega)
 simp only [Ai] at h
 simp at h
 rw [aH H.f111 rfl]
 unfold tot
 simp [af5,h]
theorem aiE (H:kU C) (l:List En) (e:Bool) (hl:l.length≤1000000) (hs:∀ x ∈ l,qC x):FnW C 111 [aL l e]=some (.int .i64 (tot l)):=nH H l e hl fun x hx=>(hs x hx).s
theorem Qv (H:kU C) (l:List En) (e:Bool) (hl:l.length≤1000000) (hs:∀ x ∈ l,qC x):FnW C 227 [aL l e]=some (.int .i64 (ovE l)):=by
 have h:=aiE H l e hl hs
 rw [aH H.f227 rfl]
 unfold ovE
 by_cases c:4611686018427387904 < tot l <;> simp [afC,h,H.inl,ak,H.pp,ppB,c]
theorem YO (H:kU C) (l:List En) (e:Bool) (hl:l.length≤1000000) (hs:∀ x ∈ l,-9223372036854775808≤x.s∧x.s≤9223372036854775807):∀ n i,n+i=l.length→∀ sum:Int,0≤sum→sum≤4611686018427387904 →
 xk C ⟨[(4,.int .i64 i),(3,.int .u64 sum),(0,.ro 6 (l.map eEn) e)],[],0⟩=some (.int .i64 (oM sum (l.drop i))):=by
 intro n
 induction n with
 | zero =>
  intro i hi sum s1 s2
  simp only [xk];rw [aj qV.eq_1]
  have h1:l.drop i=[]:=List.drop_eq_nil_of_le (by omega)
  have h3:¬ i < l.length:=by omega
  simp (disch:=omega) [aj Nc.eq_1,h1,h3,oM,aB]
 | succ n ih =>
  intro i hi sum s1 s2
  have h1:i < l.length:=by omega
  have hx:=hs _ (List.getElem_mem h1)
  have hb:=Wi l[i].s hx.1 hx.2
  rw [drop_cons h1,oM]
  by_cases p:0 < l[i].s
  · rw [MH (by omega:(0:Int)≤l[i].s)] at *
    by_cases c:4611686018427387904 - sum < l[i].s
    · rw [if_pos c]
      have c':4611686018427387904 < sum+l[i].s:=by omega
      simp only [xk];rw [aj qV.eq_1]
      simp (disch:=omega) [h1,aB,jZ,p,c']
    · rw [if_neg c]
      have c':¬ 4611686018427387904 < sum+l[i].s:=by omega
      have:=ih (i+1) (by omega) (sum+l[i].s) (by omega) (by omega)
      simp only [xk] at this ⊢;rw [aj qV.eq_1]
      simp at this
      simp (disch:=omega) [h1,aB,jZ,p,c',this]
  · rw [adg (by omega:l[i].s≤(0:Int)),if_neg (by omega),Int.add_zero]
    have c':¬ 4611686018427387904 < sum:=by omega
    have:=ih (i+1) (by omega) sum (by omega) (by omega)
    simp only [xk] at this ⊢;rw [aj qV.eq_1]
    simp at this
    simp (disch:=omega) [h1,aB,jZ,p,c',this]
theorem Qy (H:kU C) (l:List En) (e:Bool) (hl:l.length≤1000000) (hs:∀ x ∈ l,-9223372036854775808≤x.s∧x.s≤9223372036854775807):FnW C 504 [.ro 6 (l.map eEn) e]=some (.int .i64 (tot l)):=by
 have h:=YO H l e hl hs l.length 0 (by simp) 0 (by omega) (by omega)
 simp only [xk] at h
 simp at h
 rw [aH H.ajO rfl]
 unfold tot
 simp [ahm,h]
theorem aeX (H:kU C) (l:List En) (e:Bool) (hl:l.length≤1000000) (hs:∀ x ∈ l,qC x):FnW C 504 [.ro 6 (l.map eEn) e]=some (.int .i64 (tot l)):=Qy H l e hl fun x hx=>(hs x hx).s
theorem ac4 (H:kU C) (l:List En) (e:Bool) (hl:l.length≤1000000) (hs:∀ x ∈ l,qC x):FnW C 407 [.ro 6 (l.map eEn) e]=some (.int .i64 (ovE l)):=by
 have h:=aeX H l e hl hs
 rw [aH H.aeN rfl]
 unfold ovE
 by_cases c:4611686018427387904 < tot l <;> simp [aaC,h,H.inl,ak,H.pp,ppB,c]
def fJ (k:Int):Nat→List En→Int
 | _,[]=>-1
 | i,e::r=>if e.i.k=k then i else fJ k (i+1) r
def RH (k:Int):Nat→List It→Int
 | _,[]=>-1
 | i,x::r=>if x.k=k then i else RH k (i+1) r
theorem abZ (H:kU C) (x:En) (k:Int):FnW C 403 [aE x,.rop [.int .u64 k]]=some (.bool (decide (x.i.k=k))):=by
 rw [aH H.ake rfl]
 by_cases c:x.i.k=k <;> simp [agW,c]
theorem RU (H:kU C) (l:List En) (e:Bool) (k:Int) (hl:l.length≤1000000):∀ n i,n+i=l.length →
 l9 C ⟨[(8,.int .i64 i),(7,.int .i64 l.length),(1,.fn 403 [.rop [.int .u64 k]]),(0,.ro 6 (l.map eEn) e)],[],0⟩=some (.int .i64 (fJ k i (l.drop i))):=by
 intro n
 induction n with
 | zero =>
  intro i hi
  simp only [l9];rw [aj nX.eq_1]
  have h1:l.drop i=[]:=List.drop_eq_nil_of_le (by omega)
  have h3:¬ i < l.length:=by omega
  simp (disch:=omega) [aj Fq.eq_1,h1,h3,fJ]
 | succ n ih =>
  intro i hi
  have h1:i < l.length:=by omega
  have hf:=abZ H l[i] k
  have:=ih (i+1) (by omega)
  rw [drop_cons h1,fJ]
  simp only [aE,eEn] at hf
  by_cases c:l[i].i.k=k
  · rw [if_pos c]
    simp [c] at hf
    simp only [l9];rw [aj nX.eq_1]
    simp (disch:=omega) [h1,aB,hf,H.inl,ak,H.pp,ppB,c]
  · rw [if_neg c]
    simp [c] at hf
    simp only [l9] at this ⊢;rw [aj nX.eq_1]
    simp at this
    simp (disch:=omega) [h1,aB,hf,H.inl,ak,H.pp,ppB,c,this]
theorem Y6 (H:kU C) (l:List En) (e:Bool) (k:Int) (hl:l.length≤1000000):FnW C 402 [.ro 6 (l.map eEn) e,.fn 403 [.rop [.int .u64 k]]]=some (.int .i64 (fJ k 0 l)):=by
 have h:=RU H l e k hl l.length 0 (by simp)
 simp only [l9] at h
 simp at h
 rw [aH H.agB rfl]
 simp [acp,h]
theorem find_ok (H:kU C) (l:List En) (e:Bool) (k:Int) (hl:l.length≤1000000):FnW C 224 [aL l e,.int .u64 k]=some (.tup [.int .i64 (imax (fJ k 0 l) 0),.bool (decide (0≤fJ k 0 l))]):=by
 have h:=Y6 H l e k hl
 rw [aH H.f224 rfl]
 simp [agK,h,H.inl,ak,H.pp,ppB]
theorem TL (H:kU C) (l:List En) (e:Bool) (k:Int) (hl:l.length≤1000000):∀ n i,n+i=l.length →
 zB C ⟨[(5,.int .i64 i),(1,.int .u64 k),(0,.ro 6 (l.map eEn) e)],[],0⟩=some (.int .i64 (fJ k i (l.drop i))):=by
 intro n
 induction n with
 | zero =>
  intro i hi
  simp only [zB];rw [aj vH.eq_1]
  have h1:l.drop i=[]:=List.drop_eq_nil_of_le (by omega)
  have h3:¬ i < l.length:=by omega
  simp (disch:=omega) [aj Nu.eq_1,h1,h3,fJ]
 | succ n ih =>
  intro i hi
  have h1:i < l.length:=by omega
  have:=ih (i+1) (by omega)
  rw [drop_cons h1,fJ]
  by_cases c:l[i].i.k=k
  · rw [if_pos c]
    simp only [zB];rw [aj vH.eq_1]
    simp (disch:=omega) [h1,aB,c]
  · rw [if_neg c]
    simp only [zB] at this ⊢;rw [aj vH.eq_1]
    simp at this
    simp (disch:=omega) [h1,aB,c,this]
theorem P7 (H:kU C) (l:List En) (e:Bool) (k:Int) (hl:l.length≤1000000):FnW C 239 [.ro 6 (l.map eEn) e,.int .u64 k]=some (.int .i64 (fJ k 0 l)):=by
 have h:=TL H l e k hl l.length 0 (by simp)
 simp only [zB] at h
 simp at h
 rw [aH H.f239 rfl]
 simp [afq,h]
theorem TV (H:kU C) (l:List It) (e:Bool) (k:Int) (hl:l.length≤1000000):∀ n i,n+i=l.length →
 Aq C ⟨[(5,.int .i64 i),(1,.int .u64 k),(0,.ro 4 (l.map cIt) e)],[],0⟩=some (.int .i64 (RH k i (l.drop i))):=by
 intro n
 induction n with
 | zero =>
  intro i hi
  simp only [Aq];rw [aj wK.eq_1]
  have h1:l.drop i=[]:=List.drop_eq_nil_of_le (by omega)
  have h3:¬ i < l.length:=by omega
  simp (disch:=omega) [aj NY.eq_1,h1,h3,RH]
 | succ n ih =>
  intro i hi
  have h1:i < l.length:=by omega
  have:=ih (i+1) (by omega)
  rw [drop_cons h1,RH]
  by_cases c:l[i].k=k
  · rw [if_pos c]
    simp only [Aq];rw [aj wK.eq_1]
    simp (disch:=omega) [h1,aB,c]
  · rw [if_neg c]
    simp only [Aq] at this ⊢;rw [aj wK.eq_1]
    simp at this
    simp (disch:=omega) [h1,aB,c,this]
theorem abj (H:kU C) (l:List It) (e:Bool) (k:Int) (hl:l.length≤1000000):FnW C 423 [.ro 4 (l.map cIt) e,.int .u64 k]=some (.int .i64 (RH k 0 l)):=by
 have h:=TV H l e k hl l.length 0 (by simp)
 simp only [Aq] at h
 simp at h
 rw [aH H.akq rfl]
 simp [aei,h]
theorem alV (H:kU C) (b:Bool):FnW C 406 [.bool b]=some (.int .i64 (if b=true then 1 else 0)):=by
 rw [aH H.aky rfl]
 cases b <;> simp [adZ]
def inR (a c n:Int):Bool:=decide (0≤a)&&decide (a≤n)&&decide (0≤c)&&decide (c≤n - a)
theorem XB (H:kU C) (a c n:Int) (hn:0≤n∧n≤1000000):FnW C 219 [.int .i64 a,.int .i64 c,.int .i64 n]=some (.bool (inR a c n)):=by
 rw [aH H.f219 rfl]
 unfold inR
 by_cases c1:0≤a <;> by_cases c2:a≤n <;> by_cases c3:0≤c <;> by_cases c4:c≤n - a <;> first
  | (simp (disch:=omega) [ZR,c1,c2,c3,c4,aB];done)
  | (simp (disch:=omega) [ZR,c1,c2,c3,c4,aB];omega)
end Go.D
end
section
namespace Go.D
open Go Go.Pav Go.Pw P
attribute [-simp] List.getElem_cons_drop
variable {C:aG}
theorem XR (H:kU C) (m:List Bs) (e:Bool) (hl:m.length≤1000000):FnW C 460 [.ro 1 (m.map eS) e]=some (.ro 1 (m.map eS) true):=by
 rw [aH H.aki rfl]
 by_cases h:m=[]
 · subst h;simp [adG]
 · have h2:m.length * 17≤35184372088832:=by omega
   have hT:List.take m.length (List.map eS m)=List.map eS m:=List.take_of_length_le (by simp)
   simp (disch:=omega) [adG,h,h2,isE,hT]
theorem aak (H:kU C) (x:It) (e:Bool) (hl:x.m.length≤1000000):FnW C 340 [.ro 4 [cIt x] e]=some (.ro 4 [cIt x.own] true):=by
 have hg:=fun a h n=>bV (args:=[a]) H.aiK rfl h n
 have he:=XR H x.m x.e hl
 rw [aH H.f340 rfl]
 simp (disch:=omega) [afA,aj J8.eq_1,aj V4.eq_1,hg,ag0,he,H.inl,ak,H.pp,ppB,It.own,aB]
section
variable {β:Type} {base:Nat} {fin:Ex × WSt→Option β} {K:List Pw.Frame} {a:Ann} {l:List aZ} {d:Option Nat} {e:Env} {n:Nat}
theorem agq {z bytes N nid:Nat} {zz:List AV} {xs:List (List AV)} {ex:Bool} (h:xs.length≤N) :
 SK C base fin K a l d e [(0,.cells z (List.replicate N zz) true true)] n (iK [(0,.cells z (List.replicate N zz) true true)] nid z bytes (.sl 0 z 0 0 N ex) xs true) =
  OK C base fin K a l ⟨eH e d (.sl 0 z 0 xs.length N ex),[(0,.cells z (xs++List.replicate (N - xs.length) zz) true true)],n⟩:=by
 by_cases c:xs=[]
 · subst c;simp [zY]
 · simp [isE c,h,zY]
theorem acQ {z bytes N nid k m:Nat} {zz:List AV} {A xs:List (List AV)} {ex:Bool} (hA:A.length=k) (hm:k+m=N) (h:xs.length≤m) :
 SK C base fin K a l d e [(0,.cells z (A++List.replicate m zz) true true)] n (iK [(0,.cells z (A++List.replicate m zz) true true)] nid z bytes (.sl 0 z 0 k N ex) xs true) =
  OK C base fin K a l ⟨eH e d (.sl 0 z 0 (k+xs.length) N ex),[(0,.cells z (A++(xs++List.replicate (m - xs.length) zz)) true true)],n⟩:=by
 have h1:k+xs.length≤N:=by omega
 have h2:List.take k A=A:=List.take_of_length_le (by omega)
 have h3:List.drop (k+xs.length) A=[]:=List.drop_eq_nil_of_le (by omega)
 by_cases c:xs=[]
 · subst c;simp [zY]
 · simp (disch:=omega) [isE c,hA,hm,h1,h2,h3,zY,List.take_append,List.drop_append]
theorem af9 {z bytes N nid k m:Nat} {zz:List AV} {A B xs:List (List AV)} {ex:Bool} (hA:A.length+B.length=k) (hm:k+m=N) (h:xs.length≤m) :
 SK C base fin K a l d e [(0,.cells z (A++(B++List.replicate m zz)) true true)] n (iK [(0,.cells z (A++(B++List.replicate m zz)) true true)] nid z bytes (.sl 0 z 0 k N ex) xs true) =
  OK C base fin K a l ⟨eH e d (.sl 0 z 0 (k+xs.length) N ex),[(0,.cells z (A++(B++(xs++List.replicate (m - xs.length) zz))) true true)],n⟩:=by
 have:=acQ (C:=C) (base:=base) (fin:=fin) (K:=K) (a:=a) (l:=l) (d:=d) (e:=e) (n:=n) (z:=z) (bytes:=bytes) (N:=N) (nid:=nid) (k:=k) (m:=m) (zz:=zz) (A:=A++B) (xs:=xs) (ex:=ex) (by simpa using hA) hm h
 simpa only [List.append_assoc] using this
end
theorem Xy (H:kU C) (l x:List En) (e e2:Bool) (a c:Nat) (hl:l.length≤1000000) (hx:x.length≤1000000) (hac:a+c≤l.length) :
 FnW C 221 [.ro 6 (l.map eEn) e,.int .i64 a,.int .i64 c,.ro 6 (x.map eEn) e2]=some (.ro 6 ((spl l a c x).map eEn) true):=by
 rw [aH H.f221 rfl]
 obtain ⟨N,hN,hN2⟩:∃ N:Nat,(l.length:Int) - c+x.length=N∧N=l.length - c+x.length:=⟨_,by omega,rfl⟩
 have h1:(c:Int)≤l.length:=by omega
 have h2:N * 73≤35184372088832:=by omega
 have hA:min a l.length=a:=by omega
 have h3:a≤N:=by omega
 have h4:a+x.length≤N:=by omega
 have h5:a+x.length+(l.length - (a+c))=N:=by omega
 have h6:a≤l.length:=by omega
 have hT:List.take l.length (List.map eEn l)=List.map eEn l:=List.take_of_length_le (by simp)
 have h9:a+(x.length+(l.length - (a+c)))=N:=by omega
 have h7:N - a - x.length=l.length - (a+c):=by omega
 have h8:List.take N (List.map eEn (spl l a c x))=List.map eEn (spl l a c x):=List.take_of_length_le (by simp [spl];omega)
 simp only [spl] at h8 ⊢
 simp at h8
 simp (disch:=first | omega | (simp;done) | (simp;omega)) [aeJ,aB,h1,hN,h2,hA,h3,h4,h5,h6,hac,-ZG,agq,acQ,af9,hT,h7,h8,h9]
end Go.D
end
section
namespace Go.D
open Go Go.Pav Go.Pw P
attribute [-simp] List.getElem_cons_drop
variable {C:aG}
structure uN (C:aG):Prop extends qB C,kU C where
 akP:C.fns.get 399=some aft
 f230:C.fns.get 230=some XH
 ajC:C.fns.get 405=some agO
 f232:C.fns.get 232=some aaS
 f115:C.fns.get 115=some Ny
 f236:C.fns.get 236=some Qc
 f271:C.fns.get 271=some UF
 f223:C.fns.get 223=some Yb
 f235:C.fns.get 235=some Ym
theorem kQ {ks:List Kd} {t:Nat} (h:t < ks.length):iU ks t=ks[t]:=by
 unfold iU;simp [h]
theorem Uj {n:Int} {x:It} (h:uI n x=true):x.t < n:=by
 unfold uI at h;simp at h;exact h.1.1.2
theorem Us (H:uN C) (ks:List Kd) (ke:Bool) (cap:Int) (x:It) (hx:RQ x) (ht:x.t < ks.length) (hr:lg ks) :
 FnW C 399 [aR ks ke cap,eIt x]=some (.tup [.agg (adC (iU ks x.t).p x cap).c,.int .i64 (sJ (iU ks x.t).p x cap)]):=by
 obtain ⟨t,hT⟩:∃ t:Nat,x.t=t:=⟨x.t.toNat,by have:=hx.t;omega⟩
 have h1:t < ks.length:=by omega
 have h:=YG H.toqB ks[t].p (hr.f _ (List.getElem_mem h1)) x hx.k cap
 rw [hT,kQ h1]
 rw [aH H.akP rfl]
 generalize (adC ks[t].p x cap)=N at *
 generalize sJ ks[t].p x cap=E at *
 rw [Pt.dY] at h
 simp only [eIt,hT] at h
 simp (disch:=omega) [aft,hT,h1,h,H.inl,ak,H.pp,ppB]
theorem ajH (H:uN C) (k:Kd):FnW C 230 [.agg (eKd k)]=some (.bool (!CO k)):=by
 have h1:=JE H.tokU k.b
 have h2:=Jv H.toD5 k.p
 rw [Pt.dY] at h2
 rw [aH H.f230 rfl]
 unfold CO
 generalize hOk k.b=X at *
 cases X
 · simp [XH,h1,H.inl,ak,H.pp,ppB]
 · by_cases c:oN k.p=0
   · simp [c] at h2
     simp [XH,h1,h2,c,H.inl,ak,H.pp,ppB]
   · simp [c] at h2
     simp [XH,h1,h2,c,H.inl,ak,H.pp,ppB]
theorem PO (H:uN C) (ks:List Kd) (e:Bool) (hl:ks.length≤1000000):∀ n i,n+i=ks.length →
 ∃ v:Int,zf C ⟨[(8,.int .i64 i),(7,.int .i64 ks.length),(1,.fn 230 []),(0,.ro 9 (ks.map eKd) e)],[],0⟩=some (.int .i64 v)∧decide (v < 0)=(ks.drop i).all CO:=by
 intro n
 induction n with
 | zero =>
  intro i hi
  simp only [zf];rw [aj wG.eq_1]
  have h1:ks.drop i=[]:=List.drop_eq_nil_of_le (by omega)
  have h3:¬ i < ks.length:=by omega
  exact ⟨-1,by simp (disch:=omega) [aj KN.eq_1,h1,h3],by simp [h1]⟩
 | succ n ih =>
  intro i hi
  have h1:i < ks.length:=by omega
  have hb:=ajH H ks[i]
  simp only [eKd] at hb
  rw [drop_cons h1]
  cases c:CO ks[i]
  · refine ⟨i,?_,by simp [c]⟩
    rw [c] at hb
    simp only [zf];rw [aj wG.eq_1]
    simp (disch:=omega) [h1,hb,H.inl,ak,H.pp,ppB]
  · obtain ⟨v,hv,hq⟩:=ih (i+1) (by omega)
    refine ⟨v,?_,by simp [hq,c]⟩
    rw [c] at hb
    simp only [zf] at hv ⊢;rw [aj wG.eq_1]
    simp at hv
    simp (disch:=omega) [h1,aB,hb,H.inl,ak,H.pp,ppB,hv]
theorem MF (H:uN C) (ks:List Kd) (e:Bool) (hl:ks.length≤1000000):FnW C 232 [.ro 9 (ks.map eKd) e,.fn 230 []]=some (.bool (!ks.all CO)):=by
 obtain ⟨v,h,q⟩:=PO H ks e hl ks.length 0 (by simp)
 simp only [zf] at h
 simp at h
 have h2:FnW C 405 [.ro 9 (ks.map eKd) e,.fn 230 []]=some (.int .i64 v):=by
  rw [aH H.ajC rfl]
  simp [agO,h]
 rw [aH H.f232 rfl]
 rw [List.drop_zero] at q
 rw [← q]
 by_cases c:v < 0
 · have c':¬ 0≤v:=by omega
   simp [aaS,H.inl,ak,H.pp,ppB,h2,c,c']
 · have c':0≤v:=by omega
   simp [aaS,H.inl,ak,H.pp,ppB,h2,c,c']
theorem Qi (H:uN C) (ks:List Kd) (ke:Bool) (cap:Int) (hr:lg ks):FnW C 115 [aR ks ke cap]=some (.int .i64 (if yD ks cap=true then 0 else 7)):=by
 have h:=MF H ks ke hr.n
 have hl:=hr.n
 rw [aH H.f115 rfl]
 unfold yD
 by_cases c1:1≤ks.length
 · have c1':¬ ((ks.length:Int) < 1):=by omega
   by_cases c2:ks.length≤8
   · have c2':¬ (8 < (ks.length:Int)):=by omega
     by_cases c3:1≤cap
     · have c3':¬ cap < 1:=by omega
       by_cases c4:cap≤64
       · have c4':¬ 64 < cap:=by omega
         cases c5:ks.all CO
         · rw [c5] at h
           simp [Ny,c1,c1',c2,c2',c3,c3',c4,c4',h,H.inl,ak,H.pp,ppB]
         · rw [c5] at h
           simp [Ny,c1,c1',c2,c2',c3,c3',c4,c4',h,H.inl,ak,H.pp,ppB]
       · have c4':64 < cap:=by omega
         simp [Ny,c1,c1',c2,c2',c3,c3',c4,c4']
     · have c3':cap < 1:=by omega
       simp [Ny,c1,c1',c2,c2',c3,c3']
   · have c2':(8 < (ks.length:Int)):=by omega
     simp [Ny,c1,c1',c2,c2']
 · have c1':((ks.length:Int) < 1):=by omega
   simp [Ny,c1,c1']
theorem Ru (H:uN C) (ks:List Kd) (ke:Bool) (cap:Int) (hr:lg ks):∀ n i,n+i=ks.length →
 Ep C ⟨[(3,.int .i64 i),(1,.ptr 0 0 0)],[(0,.cells 2 [[.ro 9 (ks.map eKd) ke,.int .i64 cap]] true true)],1⟩=some (.int .i64 (if (ks.drop i).all CO=true then 0 else 7)):=by
 have hl:=hr.n
 intro n
 induction n with
 | zero =>
  intro i hi
  simp only [Ep];rw [aj A8.eq_1]
  have h1:ks.drop i=[]:=List.drop_eq_nil_of_le (by omega)
  have h3:¬ i < ks.length:=by omega
  simp (disch:=omega) [aj NC.eq_1,h1,h3]
 | succ n ih =>
  intro i hi
  have h1:i < ks.length:=by omega
  have hc:=Ib H.toLJ ks[i].p (hr.f _ (List.getElem_mem h1))
  rw [Pt.dY] at hc
  have:=ih (i+1) (by omega)
  rw [drop_cons h1,List.all_cons]
  generalize (ks.drop (i+1)).all CO=X at *
  simp only [Ep] at this ⊢;rw [aj A8.eq_1]
  simp at this
  unfold CO hOk
  by_cases c1:1≤ks[i].b
  · have c1':¬ ks[i].b < 1:=by omega
    by_cases c2:ks[i].b≤2305843009213693952
    · have c2':¬ 2305843009213693952 < ks[i].b:=by omega
      by_cases c3:oN ks[i].p=0
      · simp [c3] at hc
        simp (disch:=omega) [h1,aB,c1,c1',c2,c2',c3,hc,H.inl,ak,H.pp,ppB]
      · simp [c3] at hc
        simp (disch:=omega) [h1,aB,c1,c1',c2,c2',c3,hc,H.inl,ak,H.pp,ppB,this]
    · have c2':2305843009213693952 < ks[i].b:=by omega
      simp (disch:=omega) [h1,aB,c1,c1',c2,c2']
  · have c1':ks[i].b < 1:=by omega
    simp (disch:=omega) [h1,aB,c1,c1']
theorem XC (H:uN C) (ks:List Kd) (ke:Bool) (cap:Int) (hr:lg ks):FnW C 236 [aR ks ke cap]=some (.int .i64 (if yD ks cap=true then 0 else 7)):=by
 have h:=Ru H ks ke cap hr ks.length 0 (by simp)
 rw [List.drop_zero] at h
 have hl:=hr.n
 rw [aH H.f236 rfl]
 unfold yD
 generalize ks.all CO=X at *
 simp only [Ep] at h
 simp at h
 by_cases c1:1≤ks.length
 · have c1':¬ ks=[]:=by intro q;subst q;simp at c1
   by_cases c2:ks.length≤8
   · have c2':¬ (8 < (ks.length:Int)):=by omega
     by_cases c3:1≤cap
     · have c3':¬ cap < 1:=by omega
       by_cases c4:cap≤64
       · have c4':¬ 64 < cap:=by omega
         simp [Qc,c1,c1',c2,c2',c3,c3',c4,c4',h]
       · have c4':64 < cap:=by omega
         simp [Qc,c1,c1',c2,c2',c3,c3',c4,c4']
     · have c3':cap < 1:=by omega
       simp [Qc,c1,c1',c2,c2',c3,c3']
   · have c2':(8 < (ks.length:Int)):=by omega
     simp [Qc,c1,c1',c2,c2']
 · have c1':ks=[]:=by cases ks with | nil=>rfl | cons a r=>simp at c1
   subst c1'
   simp [Qc]
theorem He (H:uN C) (ks:List Kd) (ke:Bool) (cap:Int) (x:It) (hx:RQ x) (hr:lg ks) (seen:Bool) :
 FnW C 271 [aR ks ke cap,eIt x,.int .i64 (if seen=true then 1 else 0)]=some (.int .i64 (itE ks cap x seen)):=by
 have hc:=YF H.toRJ x ks.length hx.t hx.m
 rw [aH H.f271 rfl]
 unfold itE
 cases c1:uI ks.length x
 · rw [c1] at hc
   simp at hc
   simp [UF,hc,H.inl,ak,H.pp,ppB]
 · rw [c1] at hc
   cases seen
   · have ht:=Uj c1
     obtain ⟨t,hT⟩:∃ t:Nat,x.t=t:=⟨x.t.toNat,by have:=hx.t;omega⟩
     have h1:t < ks.length:=by omega
     have h:=Vq H.toqB ks[t].p (hr.f _ (List.getElem_mem h1)) x hx.k cap
     rw [hT,kQ h1]
     have hE:0≤sJ ks[t].p x cap:=by unfold sJ;repeat (first | omega | split)
     generalize (aix ks[t].p x cap)=N at *
     generalize sJ ks[t].p x cap=E at *
     rw [Pt.dY] at h
     simp only [eIt,hT] at h hc
     by_cases c:E=0
     · subst c
       simp at hc
       simp (disch:=omega) [UF,hc,hT,h1,h,H.inl,ak,H.pp,ppB]
     · have c':0 < E:=by omega
       simp at hc
       simp (disch:=omega) [UF,hc,hT,h1,h,c,c',H.inl,ak,H.pp,ppB]
   · simp at hc
     simp [UF,hc,H.inl,ak,H.pp,ppB]
def TS (s:List Int):List (AV × AV):=s.map fun k=>(.int .u64 k,.bool true)
theorem abk:TS []=[]:=rfl
theorem SH (k:Int):∀ s:List Int,lU (TS s) (.int .u64 k)=some (if s.contains k=true then some (.bool true) else none)
 | []=>rfl
 | a::r=>by
  have ih:=SH k r
  unfold TS at ih ⊢
  rw [List.map_cons,lU]
  simp only [iL,if_true,ob]
  by_cases c:k=a
  · subst c;simp
  · simp [c,ih]
theorem P8 (k:Int):∀ s:List Int,s.contains k=false→lH (TS s) (.int .u64 k) (.bool true)=some (TS (s++[k]))
 | [],_=>rfl
 | a::r,h=>by
  simp at h
  have ih:=P8 k r (by simpa using h.2)
  unfold TS at ih ⊢
  rw [List.map_cons,lH]
  simp only [iL,if_true,ob]
  simp [h.1,ih,om]
theorem Qq (k:Int):∀ (l:List En) (i:Nat),decide (0≤fJ k i l)=(l.map fun e=>e.i.k).contains k
 | [],_=>rfl
 | e::r,i=>by
  rw [fJ]
  by_cases c:e.i.k=k
  · rw [if_pos c];simp [c]
  · have c':¬ k=e.i.k:=fun q=>c q.symm
    rw [if_neg c,Qq k r (i+1)]
    simp [c']
abbrev jd (l:List En):List Int:=l.map fun e=>e.i.k
theorem Uo (H:uN C) (ks:List Kd) (ke:Bool) (cap:Int) (hr:lg ks) (l:List En) (e:Bool) (hl:l.length≤1000000) (hs:∀ x ∈ l,qC x):∀ n i,n+i=l.length→∀ seen:List Int,
 lX C ⟨[(25,.int .i64 i),(24,.int .i64 l.length),(23,.ro 6 (l.map eEn) e),(6,.map 0),(3,.ptr 1 0 0),(2,.ptr 2 0 0)],[(0,.map (TS seen)),(1,.cells 1 [[.ro 6 (l.map eEn) e]] true true),(2,.cells 2 [[.ro 9 (ks.map eKd) ke,.int .i64 cap]] true true)],3⟩ =
  some (.int .i64 (if chk ks cap seen (l.drop i)≠0 then chk ks cap seen (l.drop i) else ovE l)):=by
 intro n
 induction n with
 | zero =>
  intro i hi seen
  have ht:=Qv H.tokU l e hl hs
  simp only [lX];rw [aj kD.eq_1]
  have h1:l.drop i=[]:=List.drop_eq_nil_of_le (by omega)
  have h3:¬ i < l.length:=by omega
  simp (disch:=omega) [aj Oj.eq_1,h1,h3,chk,ht,H.inl,ak,H.pp,ppB]
 | succ n ih =>
  intro i hi seen
  have h1:i < l.length:=by omega
  have hx:=hs _ (List.getElem_mem h1)
  have hc:=Yt H.toRJ l[i].i ks.length hx.i.t
  have hg:=SH l[i].i.k seen
  rw [drop_cons h1,chk]
  cases c1:uI ks.length l[i].i
  · have hE:enE ks cap l[i] (seen.contains l[i].i.k)=6:=by unfold enE itE;simp [c1]
    rw [hE]
    rw [c1] at hc
    simp at hc
    simp only [lX];rw [aj kD.eq_1]
    simp (disch:=omega) [h1,hc,H.inl,ak,H.pp,ppB]
  · rw [c1] at hc
    simp at hc
    cases c2:seen.contains l[i].i.k
    · have ht:=Uj c1
      obtain ⟨t,hT⟩:∃ t:Nat,l[i].i.t=t:=⟨l[i].i.t.toNat,by have:=hx.i.t;omega⟩
      have h2:t < ks.length:=by omega
      have hp:=P8 l[i].i.k seen c2
      have hre:=Us H ks ke cap l[i].i hx.i ht hr
      have hh:=JE H.tokU l[i].s
      have this:=ih (i+1) (by omega) (seen++[l[i].i.k])
      rw [c2] at hg
      simp only [aR,eIt] at hre
      have hk:=kQ h2
      have hE:enE ks cap l[i] false=if sJ ks[t].p l[i].i cap=0 then (if hOk l[i].s=true∧(l[i].kn=true∨l[i].s=ks[t].b) then 0 else 12) else 14:=by
       unfold enE itE
       rw [c1,hT,hk]
       by_cases q:sJ ks[t].p l[i].i cap=0 <;> simp [q]
      simp only [eIt,hT,hk] at hc hre
      generalize adC ks[t].p l[i].i cap=N at *
      generalize sJ ks[t].p l[i].i cap=E at *
      by_cases c3:E=0
      · subst c3
        cases c4:hOk l[i].s
        · rw [c4] at hh
          have hE':enE ks cap l[i] false=12:=by rw [hE];simp [c4]
          rw [hE']
          simp only [lX];rw [aj kD.eq_1]
          simp (disch:=omega) [h1,h2,hT,hc,hg,hp,hre,hh,H.inl,ak,H.pp,ppB]
        · rw [c4] at hh
          cases c5:l[i].kn
          · by_cases c6:l[i].s=ks[t].b
            · have hE':enE ks cap l[i] false=0:=by rw [hE,if_pos rfl,if_pos ⟨c4,.inr c6⟩]
              rw [hE']
              simp only [lX] at this ⊢;rw [aj kD.eq_1]
              generalize chk ks cap (seen++[l[i].i.k]) (List.drop (i+1) l)=Z at *
              simp at this
              simp (disch:=omega) [h1,h2,hT,hc,hg,hp,hre,hh,c5,eq_true c6,aB,H.inl,ak,H.pp,ppB,this]
            · have hE':enE ks cap l[i] false=12:=by rw [hE];simp [c5,c6]
              rw [hE']
              simp only [lX];rw [aj kD.eq_1]
              simp (disch:=omega) [h1,h2,hT,hc,hg,hp,hre,hh,c5,c6,H.inl,ak,H.pp,ppB]
          · have hE':enE ks cap l[i] false=0:=by rw [hE];simp [c4,c5]
            rw [hE']
            simp only [lX] at this ⊢;rw [aj kD.eq_1]
            generalize chk ks cap (seen++[l[i].i.k]) (List.drop (i+1) l)=Z at *
            simp at this
            simp (disch:=omega) [h1,h2,hT,hc,hg,hp,hre,hh,c5,aB,H.inl,ak,H.pp,ppB,this]
      · have hE':enE ks cap l[i] false=14:=by rw [hE];simp [c3]
        rw [hE']
        simp only [lX];rw [aj kD.eq_1]
        simp (disch:=omega) [h1,h2,hT,hc,hg,hp,hre,c3,H.inl,ak,H.pp,ppB]
    · have hE:enE ks cap l[i] true=8:=by unfold enE itE;simp [c1]
      rw [hE]
      rw [c2] at hg
      simp only [lX];rw [aj kD.eq_1]
      simp (disch:=omega) [h1,hc,hg,H.inl,ak,H.pp,ppB]
theorem BA (H:uN C) (ks:List Kd) (ke:Bool) (cap:Int) (hr:lg ks) (l:List En) (e:Bool) (hl:l.length≤1000000) (hs:∀ x ∈ l,qC x) :
 FnW C 223 [aR ks ke cap,aL l e]=some (.int .i64 (ckE ks cap l)):=by
 have hv:=Qi H ks ke cap hr
 have h:=Uo H ks ke cap hr l e hl hs l.length 0 (by simp) []
 rw [List.drop_zero,abk] at h
 rw [aH H.f223 rfl]
 unfold ckE
 generalize (if chk ks cap [] l≠0 then chk ks cap [] l else ovE l)=R at *
 simp only [lX] at h
 simp at h
 cases c1:yD ks cap
 · rw [c1] at hv
   simp at hv
   simp [Yb,hv,H.inl,ak,H.pp,ppB]
 · rw [c1] at hv
   simp at hv
   by_cases c2:1024 < l.length
   · have c2':1024 < (l.length:Int):=by omega
     simp [Yb,hv,c2,c2',H.inl,ak,H.pp,ppB]
   · have c2':¬ 1024 < (l.length:Int):=by omega
     simp [Yb,hv,c2,c2',h,H.inl,ak,H.pp,ppB]
theorem MS (H:uN C) (ks:List Kd) (ke:Bool) (cap:Int) (hr:lg ks) (l:List En) (e:Bool) (hl:l.length≤1000000) (hs:∀ x ∈ l,qC x):∀ n i,n+i=l.length →
 nV C ⟨[(5,.int .i64 i),(2,.ptr 0 0 0),(1,.ro 6 (l.map eEn) e)],[(0,.cells 2 [[.ro 9 (ks.map eKd) ke,.int .i64 cap]] true true)],1⟩ =
  some (.int .i64 (if chk ks cap (jd (l.take i)) (l.drop i)≠0 then chk ks cap (jd (l.take i)) (l.drop i) else ovE l)):=by
 intro n
 induction n with
 | zero =>
  intro i hi
  have ht:=ac4 H.tokU l e hl hs
  simp only [nV];rw [aj lY.eq_1]
  have h1:l.drop i=[]:=List.drop_eq_nil_of_le (by omega)
  have h3:¬ i < l.length:=by omega
  simp (disch:=omega) [aj Ku.eq_1,h1,h3,chk,ht,H.inl,ak,H.pp,ppB]
 | succ n ih =>
  intro i hi
  have h1:i < l.length:=by omega
  have h1':i≤l.length:=by omega
  have hx:=hs _ (List.getElem_mem h1)
  have hf:=fun e=>P7 H.tokU (l.take i) e l[i].i.k (by rw [List.length_take];omega)
  have hb:=alV H.tokU (decide (0≤fJ l[i].i.k 0 (l.take i)))
  have hii:=He H ks ke cap l[i].i hx.i hr (decide (0≤fJ l[i].i.k 0 (l.take i)))
  have this:=ih (i+1) (by omega)
  rw [show jd (l.take (i+1))=jd (l.take i)++[l[i].i.k] by rw [jd,List.take_succ_eq_append_getElem h1,List.map_append];rfl] at this
  rw [drop_cons h1,chk,← Qq l[i].i.k (l.take i) 0]
  generalize fJ l[i].i.k 0 (l.take i)=F at *
  simp only [List.map_take] at hf
  simp only [aR,eIt] at hii
  have hE:enE ks cap l[i] (decide (0≤F))=if itE ks cap l[i].i (decide (0≤F))≠0 then itE ks cap l[i].i (decide (0≤F)) else if hOk l[i].s=true∧(l[i].kn=true∨l[i].s=(iU ks l[i].i.t).b) then 0 else 12:=rfl
  have hE0:0≤itE ks cap l[i].i (decide (0≤F)):=by unfold itE;repeat (first | omega | split)
  have hEt:itE ks cap l[i].i (decide (0≤F))=0→l[i].i.t < ks.length:=by
   intro q
   unfold itE at q
   cases c:uI ks.length l[i].i
   · rw [if_pos c] at q;cases q
   · exact Uj c
  generalize itE ks cap l[i].i (decide (0≤F))=E at *
  generalize enE ks cap l[i] (decide (0≤F))=V at *
  generalize (if decide (0≤F)=true then (1:Int) else 0)=S at *
  by_cases c3:E=0
  · subst c3
    obtain ⟨t,hT⟩:∃ t:Nat,l[i].i.t=t:=⟨l[i].i.t.toNat,by have:=hx.i.t;omega⟩
    have h2:t < ks.length:=by have:=hEt rfl;omega
    rw [hT,kQ h2] at hE
    simp only [hT] at hii
    unfold hOk at hE
    by_cases c4:1≤l[i].s
    · have c4':¬ l[i].s < 1:=by omega
      by_cases c5:l[i].s≤2305843009213693952
      · have c5':¬ 2305843009213693952 < l[i].s:=by omega
        cases c6:l[i].kn
        · by_cases c7:l[i].s=ks[t].b
          · have hV:V=0:=by rw [hE,if_neg (by simp),if_pos ⟨by simp [c4,c5],.inr c7⟩]
            rw [hV]
            simp only [nV] at this ⊢;rw [aj lY.eq_1]
            generalize chk ks cap (jd (l.take i)++[l[i].i.k]) (List.drop (i+1) l)=Z at *
            simp at this
            simp (disch:=omega) [h1,h1',h2,hT,hf,hb,hii,c4,c4',c5,c5',c6,eq_true c7,aB,H.inl,ak,H.pp,ppB,this]
          · have hV:V=12:=by rw [hE,if_neg (by simp),if_neg (by simp [c6,c7])]
            rw [hV]
            simp only [nV];rw [aj lY.eq_1]
            simp (disch:=omega) [h1,h1',h2,hT,hf,hb,hii,c4,c4',c5,c5',c6,c7,H.inl,ak,H.pp,ppB]
        · have hV:V=0:=by rw [hE,if_neg (by simp),if_pos ⟨by simp [c4,c5],.inl c6⟩]
          rw [hV]
          simp only [nV] at this ⊢;rw [aj lY.eq_1]
          generalize chk ks cap (jd (l.take i)++[l[i].i.k]) (List.drop (i+1) l)=Z at *
          simp at this
          simp (disch:=omega) [h1,h1',h2,hT,hf,hb,hii,c4,c4',c5,c5',c6,aB,H.inl,ak,H.pp,ppB,this]
      · have c5':2305843009213693952 < l[i].s:=by omega
        have hV:V=12:=by rw [hE,if_neg (by simp),if_neg (by simp [c5])]
        rw [hV]
        simp only [nV];rw [aj lY.eq_1]
        simp (disch:=omega) [h1,h1',h2,hT,hf,hb,hii,c4,c4',c5,c5',H.inl,ak,H.pp,ppB]
    · have c4':l[i].s < 1:=by omega
      have hV:V=12:=by rw [hE,if_neg (by simp),if_neg (by simp [c4])]
      rw [hV]
      simp only [nV];rw [aj lY.eq_1]
      simp (disch:=omega) [h1,h1',h2,hT,hf,hb,hii,c4,c4',H.inl,ak,H.pp,ppB]
  · have c3':0 < E:=by omega
    have hV:V=E:=by rw [hE,if_pos c3]
    rw [hV]
    simp only [nV];rw [aj lY.eq_1]
    simp (disch:=omega) [h1,h1',hf,hb,hii,c3,c3',H.inl,ak,H.pp,ppB]
theorem U3 (H:uN C) (ks:List Kd) (ke:Bool) (cap:Int) (hr:lg ks) (l:List En) (e:Bool) (hl:l.length≤1000000) (hs:∀ x ∈ l,qC x) :
 FnW C 235 [aR ks ke cap,.ro 6 (l.map eEn) e]=some (.int .i64 (ckE ks cap l)):=by
 have hv:=XC H ks ke cap hr
 have h:=MS H ks ke cap hr l e hl hs l.length 0 (by simp)
 rw [List.drop_zero,List.take_zero] at h
 rw [aH H.f235 rfl]
 unfold ckE
 simp only [jd,List.map_nil] at h
 generalize (if chk ks cap [] l≠0 then chk ks cap [] l else ovE l)=R at *
 simp only [nV] at h
 simp at h
 cases c1:yD ks cap
 · rw [c1] at hv
   simp at hv
   simp [Ym,hv,H.inl,ak,H.pp,ppB]
 · rw [c1] at hv
   simp at hv
   by_cases c2:1024 < l.length
   · have c2':1024 < (l.length:Int):=by omega
     simp [Ym,hv,c2,c2',H.inl,ak,H.pp,ppB]
   · have c2':¬ 1024 < (l.length:Int):=by omega
     simp [Ym,hv,c2,c2',h,H.inl,ak,H.pp,ppB]
structure ajm (C:aG):Prop extends uN C where
 f222:C.fns.get 222=some aez
theorem JC (H:uN C) (ks:List Kd) (ke:Bool) (cap:Int) (x:It) (hx:RQ x) (ht:x.t < ks.length) :
 FnW C 240 [aR ks ke cap,eIt x]=some (aE (fre ks x)):=by
 obtain ⟨t,hT⟩:∃ t:Nat,x.t=t:=⟨x.t.toNat,by have:=hx.t;omega⟩
 have h1:t < ks.length:=by omega
 rw [aH H.f240 rfl]
 unfold fre
 rw [hT,kQ h1]
 simp (disch:=omega) [af2,hT,h1]
theorem VJ (H:uN C) (ks:List Kd) (ke:Bool) (cap:Int) (x:List It) (e:Bool) (hxl:x.length≤1000000) (hx:∀ i ∈ x,RQ i∧i.t < ks.length):∀ n i,n+i=x.length→∀ G:List En,G.length=i →
 EG C ⟨[(13,.int .i64 i),(12,.int .i64 x.length),(11,.ro 4 (x.map cIt) e),(5,.sl 0 6 0 x.length x.length true),(2,.ptr 1 0 0)],[(0,.cells 6 (G.map eEn++List.replicate n [.int .u64 0,.int .u8 0,.str [],.ro 1 [] true,.int .i64 0,.bool false]) true true),(1,.cells 2 [[.ro 9 (ks.map eKd) ke,.int .i64 cap]] true true)],2⟩ =
  some (.ro 6 ((G++(x.drop i).map (fre ks)).map eEn) true):=by
 intro n
 induction n with
 | zero =>
  intro i hi G hG
  have h1:x.drop i=[]:=List.drop_eq_nil_of_le (by omega)
  have h3:¬ i < x.length:=by omega
  have h6:List.take x.length (List.map eEn G)=List.map eEn G:=List.take_of_length_le (by simp;omega)
  have h7:G.length=x.length:=by omega
  simp only [EG];rw [aj vZ.eq_1]
  simp [aj Fh.eq_1,h1,h3,h6,h7]
 | succ n ih =>
  intro i hi G hG
  have h1:i < x.length:=by omega
  have hxi:=hx _ (List.getElem_mem h1)
  obtain ⟨t,hT⟩:∃ t:Nat,x[i].t=t:=⟨x[i].t.toNat,by have:=hxi.1.t;omega⟩
  have h2:t < ks.length:=by have:=hxi.2;omega
  have:=ih (i+1) (by omega) (G++[fre ks x[i]]) (by simp [hG])
  rw [drop_cons h1]
  simp only [EG] at this ⊢;rw [aj vZ.eq_1]
  simp [fre,hT,kQ h2] at this
  simp (disch:=omega) [h1,h2,hT,aB,y8,AO,hG,fre,kQ h2,this]
theorem Ig (H:uN C) (ks:List Kd) (ke:Bool) (cap:Int) (x:List It) (e:Bool) (hxl:x.length≤1000000) (hx:∀ i ∈ x,RQ i∧i.t < ks.length) :
 FnW C 400 [aR ks ke cap,.ro 4 (x.map cIt) e]=some (.ro 6 ((x.map (fre ks)).map eEn) true):=by
 rw [aH H.ajG rfl]
 by_cases hne:x=[]
 · subst hne
   simp (disch:=omega) [abD,aj vZ.eq_1,aj Fh.eq_1]
 · have h:=VJ H ks ke cap x e hxl hx x.length 0 (by simp) [] rfl
   have h2:x.length * 73≤35184372088832:=by omega
   simp only [EG] at h
   simp at h
   simp (disch:=omega) [abD,hne,h2,h]
theorem acn (H:ajm C) (X:AV) (hX:∃ es ex,X=.ro 6 es ex) (l:List En) (e:Bool) (a c:Nat) (hl:l.length≤1000000) (hac:a+c≤l.length) :
 FnW C 222 [X,.rop [.ro 6 (l.map eEn) e],.rop [.int .i64 a],.rop [.int .i64 c]]=some (.ro 6 ((spl l a c []).map eEn) true):=by
 obtain ⟨es,ex,rfl⟩:=hX
 have h:=Xy H.tokU l [] e true a c hl (by simp) hac
 simp only [List.map_nil] at h
 rw [aH H.f222 rfl]
 generalize spl l a c []=R at *
 simp [aez,h,H.inl,ak,H.pp,ppB]
structure asi (C:aG):Prop extends ajm C
theorem QY (H:kU C) (a b:It) (hl:a.m.length=b.m.length) (hb:a.m.length≤9223372036854775807):∀ n i,n+i=a.m.length →
 AQ C ⟨[(5,.int .i64 i),(3,.ptr 0 0 0),(2,.ptr 1 0 0)],[(0,.cells 4 [[.int .u64 b.k,.int .u8 b.t,.str b.x,.ro 1 (b.m.map eS) b.e]] true true),(1,.cells 4 [[.int .u64 a.k,.int .u8 a.t,.str a.x,.ro 1 (a.m.map eS) a.e]] true true)],2⟩ =
  some (.int .i64 (if decide (a.m.drop i=b.m.drop i)=true then 1 else 0)):=by
 intro n
 induction n with
 | zero =>
  intro i hi
  have h1:a.m.drop i=[]:=List.drop_eq_nil_of_le (by omega)
  have h2:b.m.drop i=[]:=List.drop_eq_nil_of_le (by omega)
  have h3:¬ i < b.m.length:=by omega
  simp only [AQ];rw [aj wB.eq_1]
  simp (disch:=omega) [aj Oa.eq_1,h1,h2,h3,hl]
 | succ n ih =>
  intro i hi
  have h1:i < a.m.length:=by omega
  have h2:i < b.m.length:=by omega
  have this:=ih (i+1) (by omega)
  rw [drop_cons h1,drop_cons h2]
  by_cases c:a.m[i]=b.m[i]
  · have hq:decide (a.m[i]::a.m.drop (i+1)=b.m[i]::b.m.drop (i+1))=decide (a.m.drop (i+1)=b.m.drop (i+1)):=by simp [c]
    rw [hq]
    generalize decide (a.m.drop (i+1)=b.m.drop (i+1))=X at *
    simp only [AQ] at this ⊢;rw [aj wB.eq_1]
    simp at this
    simp (disch:=omega) [h1,h2,eq_true c,aB,this]
  · have hq:decide (a.m[i]::a.m.drop (i+1)=b.m[i]::b.m.drop (i+1))=false:=by simp [c]
    rw [hq]
    simp only [AQ];rw [aj wB.eq_1]
    simp (disch:=omega) [h1,h2,c]
theorem XK (H:kU C) (a b:It) (hb:a.m.length≤9223372036854775807) (hb2:b.m.length≤9223372036854775807):FnW C 112 [eIt a,eIt b]=some (.int .i64 (if BL a b=true then 1 else 0)):=by
 rw [aH H.f112 rfl]
 unfold BL
 by_cases c1:a.k=b.k
 · by_cases c2:a.t=b.t
   · by_cases c3:a.x=b.x
     · by_cases c4:a.m.length=b.m.length
       · have h:=QY H a b c4 hb a.m.length 0 (by simp)
         rw [List.drop_zero,List.drop_zero] at h
         rw [decide_eq_true c1,decide_eq_true c2,decide_eq_true c3,Bool.true_and,Bool.true_and,Bool.true_and]
         generalize decide (a.m=b.m)=X at *
         simp only [AQ] at h
         simp at h
         simp [QI,eq_true c1,eq_true c2,eq_true c3,eq_true c4,h]
       · have c5:¬ a.m=b.m:=fun q=>c4 (by rw [q])
         simp [QI,eq_true c1,eq_true c2,eq_true c3,c4,c5]
     · simp [QI,eq_true c1,eq_true c2,c3]
   · simp [QI,eq_true c1,c2]
 · simp [QI,c1]
theorem U1 (H:kU C) (a b:List En) (e f:Bool) (hl:a.length=b.length) (hb:a.length≤1000000) (ha:∀ x ∈ a,x.i.m.length≤9223372036854775807) (hbm:∀ x ∈ b,x.i.m.length≤9223372036854775807):∀ n i,n+i=a.length →
 su C ⟨[(5,.int .i64 i),(1,.ro 6 (b.map eEn) f),(0,.ro 6 (a.map eEn) e)],[],0⟩=some (.int .i64 (if uO (a.drop i) (b.drop i)=true then 1 else 0)):=by
 intro n
 induction n with
 | zero =>
  intro i hi
  have h1:a.drop i=[]:=List.drop_eq_nil_of_le (by omega)
  have h2:b.drop i=[]:=List.drop_eq_nil_of_le (by omega)
  have h3:¬ i < b.length:=by omega
  simp only [su];rw [aj oZ.eq_1]
  simp (disch:=omega) [aj Oo.eq_1,h1,h2,h3,hl,uO]
 | succ n ih =>
  intro i hi
  have h1:i < a.length:=by omega
  have h2:i < b.length:=by omega
  have this:=ih (i+1) (by omega)
  have hs:=XK H a[i].i b[i].i (ha _ (List.getElem_mem h1)) (hbm _ (List.getElem_mem h2))
  rw [drop_cons h1,drop_cons h2,uO]
  unfold KI
  simp only [eIt] at hs
  generalize uO (a.drop (i+1)) (b.drop (i+1))=Y at *
  generalize BL a[i].i b[i].i=X at *
  by_cases c1:a[i].s=b[i].s
  · by_cases c2:a[i].kn=b[i].kn
    · rw [decide_eq_true c1,decide_eq_true c2,Bool.true_and,Bool.true_and]
      cases X
      · simp at hs
        simp only [su];rw [aj oZ.eq_1]
        simp (disch:=omega) [h1,h2,eq_true c1,eq_true c2,hs,H.inl,ak,H.pp,ppB]
      · simp at hs
        simp only [su] at this ⊢;rw [aj oZ.eq_1]
        simp at this
        simp (disch:=omega) [h1,h2,eq_true c1,eq_true c2,hs,aB,H.inl,ak,H.pp,ppB,this]
    · rw [decide_eq_true c1,decide_eq_false c2]
      simp only [su];rw [aj oZ.eq_1]
      simp (disch:=omega) [h1,h2,eq_true c1,c2]
  · rw [decide_eq_false c1]
    simp only [su];rw [aj oZ.eq_1]
    simp (disch:=omega) [h1,h2,c1]
theorem Jd (H:kU C) (a b:List En) (e f:Bool) (hb:a.length≤1000000) (hb2:b.length≤1000000) (ha:∀ x ∈ a,x.i.m.length≤9223372036854775807) (hbm:∀ x ∈ b,x.i.m.length≤9223372036854775807) :
 FnW C 172 [.ro 6 (a.map eEn) e,.ro 6 (b.map eEn) f]=some (.int .i64 (if (decide (a.length=b.length)&&uO a b)=true then 1 else 0)):=by
 rw [aH H.f172 rfl]
 by_cases c:a.length=b.length
 · have h:=U1 H a b e f c hb ha hbm a.length 0 (by simp)
   rw [List.drop_zero,List.drop_zero] at h
   rw [decide_eq_true c,Bool.true_and]
   generalize uO a b=X at *
   simp only [su] at h
   simp at h
   simp [aa6,eq_true c,h]
 · simp [aa6,c]
theorem Gw:∀ l:List En,uO l l=true
 | []=>rfl
 | a::r=>by rw [uO,Gw r];simp [KI,BL]
theorem JD:∀ l:List En,uO (l.map En.own) l=true
 | []=>rfl
 | a::r=>by rw [List.map_cons,uO,JD r];simp [KI,BL,En.own,It.own]
structure tH (C:aG):Prop extends asi C where
 aiP:C.fns.get 422=some GH
 f270:C.fns.get 270=some ad7
 f126:C.fns.get 126=some aeK
 f130:C.fns.get 130=some ag2
structure Good (i:It):Prop where
 k:1≤i.k∧i.k≤60
 t:0≤i.t∧i.t≤2
 x:isText i.x=true
 l:i.m.length≤8
 m:i.m.all isName=true
def Vh (k t:Int) (x:Bs) (o:Option AV):Prop:=∃ (m:List Bs) (e:Bool),o=some (eIt ⟨k,t,x,m,e⟩)∧m.length≤8∧m.all isName=true
theorem nO (H:tH C) (k t a b c d:Int) (hd:0≤d∧d≤255) (x:Bs) (G:List Bs) (hG:G≠[]) (hl:G.length≤3) (hm:G.all isName=true) :
 Vh k t x (bU C ⟨[(4,.int .i64 3),(3,.ptr 0 0 0),(2,.ptr 2 0 0),(1,.ptr 3 0 0)],[(0,.cells 4 [[.int .u64 k,.int .u8 t,.str x,.sl 1 1 0 G.length G.length false]] true false),(1,.cells 1 (G.map eS) true true),(2,.cells 4 [[.int .u64 0,.int .u8 0,.str [],.ro 1 [] true]] true true),(3,.cells 4 [[.int .u8 a,.int .u8 b,.int .u8 c,.int .u8 d]] true true)],4⟩):=by
 have hfit:(G.length+1) * 17≤35184372088832:=by omega
 have hfit2:(G.length+2) * 17≤35184372088832:=by omega
 have h4:List.take G.length (List.map eS G)=List.map eS G:=List.take_of_length_le (by simp)
 by_cases c1:240≤d
 · refine ⟨G++[[97],[97]],false,?_,by simp;omega,by simp only [List.all_append,hm];decide⟩
   have h5:List.take (G.length+2) (List.map eS G++[[.str [97]],[.str [97]]])=List.map eS G++[[.str [97]],[.str [97]]]:=List.take_of_length_le (by simp)
   simp only [bU];rw [aj jM.eq_1]
   simp (disch:=omega) [aj uV.eq_1,c1,h4,h5,hfit2]
 · refine ⟨G,false,?_,by omega,hm⟩
   simp only [bU];rw [aj jM.eq_1]
   simp (disch:=omega) [aj uV.eq_1,c1,h4]
theorem Hu (H:tH C) (k t a b c d:Int) (hd:0≤d∧d≤255) (x:Bs) :
 Vh k t x (bU C ⟨[(4,.int .i64 3),(3,.ptr 0 0 0),(2,.ptr 1 0 0),(1,.ptr 2 0 0)],[(0,.cells 4 [[.int .u64 k,.int .u8 t,.str x,.ro 1 [] true]] true true),(1,.cells 4 [[.int .u64 0,.int .u8 0,.str [],.ro 1 [] true]] true true),(2,.cells 4 [[.int .u8 a,.int .u8 b,.int .u8 c,.int .u8 d]] true true)],3⟩):=by
 by_cases c1:240≤d
 · refine ⟨[[97],[97]],false,?_,by simp,by decide⟩
   simp only [bU];rw [aj jM.eq_1]
   simp (disch:=omega) [aj uV.eq_1,c1]
 · refine ⟨[],true,?_,by simp,rfl⟩
   simp only [bU];rw [aj jM.eq_1]
   simp (disch:=omega) [aj uV.eq_1,c1]
theorem nU (H:tH C) (k t a b c d:Int) (hd:0≤d∧d≤255) (x:Bs) (G:List Bs) (hG:G≠[]) (hl:G.length≤2) (hm:G.all isName=true) :
 Vh k t x (bU C ⟨[(4,.int .i64 2),(3,.ptr 0 0 0),(2,.ptr 2 0 0),(1,.ptr 3 0 0)],[(0,.cells 4 [[.int .u64 k,.int .u8 t,.str x,.sl 1 1 0 G.length G.length false]] true false),(1,.cells 1 (G.map eS) true true),(2,.cells 4 [[.int .u64 0,.int .u8 0,.str [],.ro 1 [] true]] true true),(3,.cells 4 [[.int .u8 a,.int .u8 b,.int .u8 c,.int .u8 d]] true true)],4⟩):=by
 have hfit:(G.length+1) * 17≤35184372088832:=by omega
 have hfit2:(G.length+2) * 17≤35184372088832:=by omega
 have h4:List.take G.length (List.map eS G)=List.map eS G:=List.take_of_length_le (by simp)
 have h6:d.tdiv 8=d / 8:=Int.tdiv_eq_ediv_of_nonneg (by omega)
 have h5:(2+d / 8).tmod 3=(2+d / 8) % 3:=Int.tmod_eq_emod_of_nonneg (by omega)
 have hJ:(2+d / 8) % 3=0∨(2+d / 8) % 3=1∨(2+d / 8) % 3=2:=by omega
 simp only [bU];rw [aj jM.eq_1]
 rcases hJ with hj | hj | hj
 · simp (disch:=omega) [aB,wU8,h5,h6,hj,h4,hfit]
   split
   · have h:=nO H k t a b c d hd x (G++[[97]]) (by simp) (by simp;omega) (by simp only [List.all_append,hm];decide)
     simp only [bU] at h
     simpa using h
   · exact nO H k t a b c d hd x G hG (by omega) hm
 · simp (disch:=omega) [aB,wU8,h5,h6,hj,h4,hfit]
   split
   · have h:=nO H k t a b c d hd x (G++[[98,50]]) (by simp) (by simp;omega) (by simp only [List.all_append,hm];decide)
     simp only [bU] at h
     simpa using h
   · exact nO H k t a b c d hd x G hG (by omega) hm
 · simp (disch:=omega) [aB,wU8,h5,h6,hj,h4,hfit]
   split
   · have h:=nO H k t a b c d hd x (G++[[107,101,121]]) (by simp) (by simp;omega) (by simp only [List.all_append,hm];decide)
     simp only [bU] at h
     simpa using h
   · exact nO H k t a b c d hd x G hG (by omega) hm
theorem IG (H:tH C) (k t a b c d:Int) (hd:0≤d∧d≤255) (x:Bs) :
 Vh k t x (bU C ⟨[(4,.int .i64 2),(3,.ptr 0 0 0),(2,.ptr 1 0 0),(1,.ptr 2 0 0)],[(0,.cells 4 [[.int .u64 k,.int .u8 t,.str x,.ro 1 [] true]] true true),(1,.cells 4 [[.int .u64 0,.int .u8 0,.str [],.ro 1 [] true]] true true),(2,.cells 4 [[.int .u8 a,.int .u8 b,.int .u8 c,.int .u8 d]] true true)],3⟩):=by
 have h6:d.tdiv 8=d / 8:=Int.tdiv_eq_ediv_of_nonneg (by omega)
 have h5:(2+d / 8).tmod 3=(2+d / 8) % 3:=Int.tmod_eq_emod_of_nonneg (by omega)
 have hJ:(2+d / 8) % 3=0∨(2+d / 8) % 3=1∨(2+d / 8) % 3=2:=by omega
 simp only [bU];rw [aj jM.eq_1]
 rcases hJ with hj | hj | hj
 · simp (disch:=omega) [aB,wU8,h5,h6,hj]
   split
   · exact nO H k t a b c d hd x [[97]] (by simp) (by simp) (by decide)
   · exact Hu H k t a b c d hd x
 · simp (disch:=omega) [aB,wU8,h5,h6,hj]
   split
   · exact nO H k t a b c d hd x [[98,50]] (by simp) (by simp) (by decide)
   · exact Hu H k t a b c d hd x
 · simp (disch:=omega) [aB,wU8,h5,h6,hj]
   split
   · exact nO H k t a b c d hd x [[107,101,121]] (by simp) (by simp) (by decide)
   · exact Hu H k t a b c d hd x
theorem Nv (H:tH C) (k t a b c d:Int) (hd:0≤d∧d≤255) (x:Bs) (G:List Bs) (hG:G≠[]) (hl:G.length≤1) (hm:G.all isName=true) :
 Vh k t x (bU C ⟨[(4,.int .i64 1),(3,.ptr 0 0 0),(2,.ptr 2 0 0),(1,.ptr 3 0 0)],[(0,.cells 4 [[.int .u64 k,.int .u8 t,.str x,.sl 1 1 0 G.length G.length false]] true false),(1,.cells 1 (G.map eS) true true),(2,.cells 4 [[.int .u64 0,.int .u8 0,.str [],.ro 1 [] true]] true true),(3,.cells 4 [[.int .u8 a,.int .u8 b,.int .u8 c,.int .u8 d]] true true)],4⟩):=by
 have hfit:(G.length+1) * 17≤35184372088832:=by omega
 have hfit2:(G.length+2) * 17≤35184372088832:=by omega
 have h4:List.take G.length (List.map eS G)=List.map eS G:=List.take_of_length_le (by simp)
 have h6:d.tdiv 8=d / 8:=Int.tdiv_eq_ediv_of_nonneg (by omega)
 have h5:(1+d / 8).tmod 3=(1+d / 8) % 3:=Int.tmod_eq_emod_of_nonneg (by omega)
 have hJ:(1+d / 8) % 3=0∨(1+d / 8) % 3=1∨(1+d / 8) % 3=2:=by omega
 simp only [bU];rw [aj jM.eq_1]
 rcases hJ with hj | hj | hj
 · simp (disch:=omega) [aB,wU8,h5,h6,hj,h4,hfit]
   split
   · have h:=nU H k t a b c d hd x (G++[[97]]) (by simp) (by simp;omega) (by simp only [List.all_append,hm];decide)
     simp only [bU] at h
     simpa using h
   · exact nU H k t a b c d hd x G hG (by omega) hm
 · simp (disch:=omega) [aB,wU8,h5,h6,hj,h4,hfit]
   split
   · have h:=nU H k t a b c d hd x (G++[[98,50]]) (by simp) (by simp;omega) (by simp only [List.all_append,hm];decide)
     simp only [bU] at h
     simpa using h
   · exact nU H k t a b c d hd x G hG (by omega) hm
 · simp (disch:=omega) [aB,wU8,h5,h6,hj,h4,hfit]
   split
   · have h:=nU H k t a b c d hd x (G++[[107,101,121]]) (by simp) (by simp;omega) (by simp only [List.all_append,hm];decide)
     simp only [bU] at h
     simpa using h
   · exact nU H k t a b c d hd x G hG (by omega) hm
theorem Gt (H:tH C) (k t a b c d:Int) (hd:0≤d∧d≤255) (x:Bs) :
 Vh k t x (bU C ⟨[(4,.int .i64 1),(3,.ptr 0 0 0),(2,.ptr 1 0 0),(1,.ptr 2 0 0)],[(0,.cells 4 [[.int .u64 k,.int .u8 t,.str x,.ro 1 [] true]] true true),(1,.cells 4 [[.int .u64 0,.int .u8 0,.str [],.ro 1 [] true]] true true),(2,.cells 4 [[.int .u8 a,.int .u8 b,.int .u8 c,.int .u8 d]] true true)],3⟩):=by
 have h6:d.tdiv 8=d / 8:=Int.tdiv_eq_ediv_of_nonneg (by omega)
 have h5:(1+d / 8).tmod 3=(1+d / 8) % 3:=Int.tmod_eq_emod_of_nonneg (by omega)
 have hJ:(1+d / 8) % 3=0∨(1+d / 8) % 3=1∨(1+d / 8) % 3=2:=by omega
 simp only [bU];rw [aj jM.eq_1]
 rcases hJ with hj | hj | hj
 · simp (disch:=omega) [aB,wU8,h5,h6,hj]
   split
   · exact nU H k t a b c d hd x [[97]] (by simp) (by simp) (by decide)
   · exact IG H k t a b c d hd x
 · simp (disch:=omega) [aB,wU8,h5,h6,hj]
   split
   · exact nU H k t a b c d hd x [[98,50]] (by simp) (by simp) (by decide)
   · exact IG H k t a b c d hd x
 · simp (disch:=omega) [aB,wU8,h5,h6,hj]
   split
   · exact nU H k t a b c d hd x [[107,101,121]] (by simp) (by simp) (by decide)
   · exact IG H k t a b c d hd x
theorem Z4 (H:tH C) (k t a b c d:Int) (hd:0≤d∧d≤255) (x:Bs) :
 Vh k t x (bU C ⟨[(4,.int .i64 0),(3,.ptr 0 0 0),(2,.ptr 1 0 0),(1,.ptr 2 0 0)],[(0,.cells 4 [[.int .u64 k,.int .u8 t,.str x,.ro 1 [] true]] true true),(1,.cells 4 [[.int .u64 0,.int .u8 0,.str [],.ro 1 [] true]] true true),(2,.cells 4 [[.int .u8 a,.int .u8 b,.int .u8 c,.int .u8 d]] true true)],3⟩):=by
 have h6:d.tdiv 8=d / 8:=Int.tdiv_eq_ediv_of_nonneg (by omega)
 have h5:(0+d / 8).tmod 3=(0+d / 8) % 3:=Int.tmod_eq_emod_of_nonneg (by omega)
 have hJ:(0+d / 8) % 3=0∨(0+d / 8) % 3=1∨(0+d / 8) % 3=2:=by omega
 simp only [bU];rw [aj jM.eq_1]
 simp only [Int.zero_add] at h5 hJ
 rcases hJ with hj | hj | hj
 · simp (disch:=omega) [aB,wU8,h5,h6,hj]
   split
   · exact Nv H k t a b c d hd x [[97]] (by simp) (by simp) (by decide)
   · exact Gt H k t a b c d hd x
 · simp (disch:=omega) [aB,wU8,h5,h6,hj]
   split
   · exact Nv H k t a b c d hd x [[98,50]] (by simp) (by simp) (by decide)
   · exact Gt H k t a b c d hd x
 · simp (disch:=omega) [aB,wU8,h5,h6,hj]
   split
   · exact Nv H k t a b c d hd x [[107,101,121]] (by simp) (by simp) (by decide)
   · exact Gt H k t a b c d hd x
structure Q4 where
 (a b c d:Int)
@[simp] def eQ (q:Q4):List AV:=[.int .u8 q.a,.int .u8 q.b,.int .u8 q.c,.int .u8 q.d]
structure QIn (q:Q4):Prop where
 a:0≤q.a∧q.a≤255
 b:0≤q.b∧q.b≤255
 c:0≤q.c∧q.c≤255
 d:0≤q.d∧q.d≤255
theorem acI (H:tH C) (q:Q4) (hq:QIn q):∃ i:It,FnW C 422 [.agg (eQ q)]=some (eIt i)∧Good i:=by
 obtain ⟨a,b,c,d⟩:=q
 obtain ⟨ha,hb,hc,hd⟩:=hq
 simp only at ha hb hc hd
 have h1:a.tmod 60=a % 60:=Int.tmod_eq_emod_of_nonneg (by omega)
 have h2:b.tmod 3=b % 3:=Int.tmod_eq_emod_of_nonneg (by omega)
 have h3:c.tmod 8=c % 8:=Int.tmod_eq_emod_of_nonneg (by omega)
 have hx:∀ x:Bs,isText x=true→∃ i:It,bU C ⟨[(4,.int .i64 0),(3,.ptr 0 0 0),(2,.ptr 1 0 0),(1,.ptr 2 0 0)],[(0,.cells 4 [[.int .u64 (1+a % 60),.int .u8 (b % 3),.str x,.ro 1 [] true]] true true),(1,.cells 4 [[.int .u64 0,.int .u8 0,.str [],.ro 1 [] true]] true true),(2,.cells 4 [[.int .u8 a,.int .u8 b,.int .u8 c,.int .u8 d]] true true)],3⟩=some (eIt i)∧Good i:=by
  intro x hx
  obtain ⟨m,e,h,r1,r2⟩:=Z4 H (1+a % 60) (b % 3) a b c d hd x
  exact ⟨_,h,⟨by simp only;omega,by simp only;omega,hx,r1,r2⟩⟩
 rw [aH H.aiP rfl]
 have hJ:c % 8=0∨c % 8=1∨c % 8=2∨c % 8=3∨c % 8=4∨c % 8=5∨c % 8=6∨c % 8=7:=by omega
 rcases hJ with hj | hj | hj | hj | hj | hj | hj | hj
 · obtain ⟨i,h,g⟩:=hx [] (by decide)
   refine ⟨i,?_,g⟩
   simp only [bU] at h
   simp (disch:=omega) [GH,h1,h2,h3,hj,aB,wU8,jZ,h]
 · obtain ⟨i,h,g⟩:=hx [97] (by decide)
   refine ⟨i,?_,g⟩
   simp only [bU] at h
   simp (disch:=omega) [GH,h1,h2,h3,hj,aB,wU8,jZ,h]
 · obtain ⟨i,h,g⟩:=hx [114,111,119] (by decide)
   refine ⟨i,?_,g⟩
   simp only [bU] at h
   simp (disch:=omega) [GH,h1,h2,h3,hj,aB,wU8,jZ,h]
 · obtain ⟨i,h,g⟩:=hx [116,119,111,32,119,111,114,100,115] (by decide)
   refine ⟨i,?_,g⟩
   simp only [bU] at h
   simp (disch:=omega) [GH,h1,h2,h3,hj,aB,wU8,jZ,h]
 · obtain ⟨i,h,g⟩:=hx [32,32] (by decide)
   refine ⟨i,?_,g⟩
   simp only [bU] at h
   simp (disch:=omega) [GH,h1,h2,h3,hj,aB,wU8,jZ,h]
 · obtain ⟨i,h,g⟩:=hx [126,33,45,44] (by decide)
   refine ⟨i,?_,g⟩
   simp only [bU] at h
   simp (disch:=omega) [GH,h1,h2,h3,hj,aB,wU8,jZ,h]
 · obtain ⟨i,h,g⟩:=hx [97,32,108,111,110,103,101,114,32,116,101,120,116,32,111,102,32,116,104,105,115,32,107,105,110,100] (by decide)
   refine ⟨i,?_,g⟩
   simp only [bU] at h
   simp (disch:=omega) [GH,h1,h2,h3,hj,aB,wU8,jZ,h]
 · obtain ⟨i,h,g⟩:=hx [57] (by decide)
   refine ⟨i,?_,g⟩
   simp only [bU] at h
   simp (disch:=omega) [GH,h1,h2,h3,hj,aB,wU8,jZ,h]
theorem Good.it {i:It} (h:Good i):RQ i:=⟨by have:=h.k;omega,by have:=h.t;omega,by have:=h.l;omega⟩
theorem Good.ok {i:It} (h:Good i):uI 3 i=true:=by
 have h1:=h.k;have h2:=h.t;have h3:=h.x;have h4:=h.l;have h5:=h.m
 unfold uI
 simp only [Bool.and_eq_true,decide_eq_true_eq]
 exact ⟨⟨⟨by omega,by omega⟩,h3⟩,h4,h5⟩
theorem WG {k:Int}:∀ (l:List It) (i:Nat),RH k i l < 0→∀ x ∈ l,x.k≠k
 | [],_,_=>by simp
 | e::r,i,h=>by
  rw [RH] at h
  split at h
  · omega
  · rename_i c
    intro x hx
    rcases List.mem_cons.1 hx with rfl | hx
    · exact c
    · exact WG r (i+1) h x hx
theorem TD (H:tH C) (hone:∀ q:Q4,QIn q→∃ i:It,FnW C 422 [.agg (eQ q)]=some (eIt i)∧Good i) (l:List Q4) (e:Bool) (hq:∀ q ∈ l,QIn q):∀ n i,n+i=min l.length 12→∀ G:List It,G.length≤i→(∀ x ∈ G,Good x)→(G.map It.k).Nodup →
 ∃ R:List It,zU C ⟨[(4,.int .i64 i),(3,.sl 0 4 0 G.length G.length false),(1,.ptr 1 0 0)],[(0,.cells 4 (G.map cIt) true true),(1,.cells 1 [[.ro 4 (l.map eQ) e]] true true)],2⟩=some (.ro 4 (R.map cIt) false) ∧
  R.length≤12∧(∀ x ∈ R,Good x)∧(R.map It.k).Nodup:=by
 intro n
 induction n with
 | zero =>
  intro i hi G hG hg hn
  refine ⟨G,?_,by omega,hg,hn⟩
  simp only [zU];rw [aj vF.eq_1]
  have h6:List.take G.length (List.map cIt G)=List.map cIt G:=List.take_of_length_le (by simp)
  by_cases h3:i < l.length
  · have h4:¬ (i:Int) < 12:=by omega
    simp [aj Ei.eq_1,h3,h4,h6]
  · simp [aj Ei.eq_1,h3,h6]
 | succ n ih =>
  intro i hi G hG hg hn
  have h1:i < l.length:=by omega
  have h2:(i:Int) < 12:=by omega
  obtain ⟨x,hx,gx⟩:=hone l[i] (hq _ (List.getElem_mem h1))
  have hf:=abj H.tokU G false x.k (by omega)
  have h6:List.take G.length (List.map cIt G)=List.map cIt G:=List.take_of_length_le (by simp)
  have hfit:(G.length+1) * 57≤35184372088832:=by omega
  simp only [eQ] at hx
  by_cases c:RH x.k 0 G < 0
  · have hno:=WG G 0 c
    obtain ⟨R,this,r1,r2,r3⟩:=ih (i+1) (by omega) (G++[x]) (by simp;omega) (by
     intro y hy
     rcases List.mem_append.1 hy with q | q
     · exact hg y q
     · simp at q;rw [q];exact gx) (by
     rw [List.map_append,List.nodup_append]
     refine ⟨hn,by simp,?_⟩
     intro a ha b hb
     simp at hb
     obtain ⟨y,hy,rfl⟩:=List.mem_map.1 ha
     rw [hb];exact hno y hy)
    refine ⟨R,?_,r1,r2,r3⟩
    simp only [zU] at this ⊢;rw [aj vF.eq_1]
    simp at this
    simp (disch:=omega) [h1,h2,hx,hf,h6,c,hfit,aB,H.inl,ak,H.pp,ppB,this]
  · obtain ⟨R,this,r1,r2,r3⟩:=ih (i+1) (by omega) G (by omega) hg hn
    refine ⟨R,?_,r1,r2,r3⟩
    simp only [zU] at this ⊢;rw [aj vF.eq_1]
    simp at this
    simp (disch:=omega) [h1,h2,hx,hf,h6,c,aB,H.inl,ak,H.pp,ppB,this]
theorem acB (H:tH C) (hone:∀ q:Q4,QIn q→∃ i:It,FnW C 422 [.agg (eQ q)]=some (eIt i)∧Good i) (l:List Q4) (e:Bool) (hq:∀ q ∈ l,QIn q) :
 ∃ R:List It,FnW C 270 [.agg [.ro 4 (l.map eQ) e]]=some (.ro 4 (R.map cIt) false)∧R.length≤12∧(∀ x ∈ R,Good x)∧(R.map It.k).Nodup:=by
 obtain ⟨R,h,r⟩:=TD H hone l e hq (min l.length 12) 0 (by simp) [] (by simp) (by simp) (by simp)
 refine ⟨R,?_,r⟩
 simp only [zU] at h
 simp at h
 rw [aH H.f270 rfl]
 simp [ad7,h]
def yh (k:Int) (t:Bs):Pt:=⟨k,[],[],[],true,t,[],true⟩
def DN:Pt:=⟨1,[114,111,119],[],[⟨[110],3,[]⟩,⟨[116,101,120,116],1,[]⟩],true,[],[yh 3 []],true⟩
def uq:Pt:=⟨1,[104,101,97,100],[104],[⟨[105,100],2,[]⟩],true,[],[yh 2 [35],yh 4 []],true⟩
def tV:Pt:=⟨1,[114,111,119],[],[],true,[],[⟨1,[98],[98,50],[],true,[],[yh 3 []],true⟩,⟨5,[116,97,103],[],[⟨[111,102],2,[]⟩],true,[],[],true⟩],true⟩
def aX (n:Int):List Kd:=[⟨DN,10+n % 7,false,n % 4⟩,⟨uq,6+n % 3,true,n / 4 % 3⟩,⟨tV,20,decide (n % 16=15),n / 8 % 3⟩]
theorem aaB (H:tH C) (n:Int) (hn:0≤n∧n≤255):FnW C 126 [.int .u8 n]=some (.ro 9 ((aX n).map eKd) true):=by
 rw [aH H.f126 rfl]
 have h1:n.tmod 7=n % 7:=Int.tmod_eq_emod_of_nonneg (by omega)
 have h2:n.tmod 4=n % 4:=Int.tmod_eq_emod_of_nonneg (by omega)
 have h3:n.tmod 3=n % 3:=Int.tmod_eq_emod_of_nonneg (by omega)
 have h4:n.tdiv 4=n / 4:=Int.tdiv_eq_ediv_of_nonneg (by omega)
 have h5:n.tdiv 8=n / 8:=Int.tdiv_eq_ediv_of_nonneg (by omega)
 have h6:(n / 4).tmod 3=n / 4 % 3:=Int.tmod_eq_emod_of_nonneg (by omega)
 have h7:(n / 8).tmod 3=n / 8 % 3:=Int.tmod_eq_emod_of_nonneg (by omega)
 have h8:n.tmod 16=n % 16:=Int.tmod_eq_emod_of_nonneg (by omega)
 simp (disch:=omega) [aeK,aX,DN,uq,tV,yh,h1,h2,h3,h4,h5,h6,h7,h8,aB,wU8,Pt.dY]
 rfl
theorem Df (k:Int) (t:Bs):iF (yh k t):=.mk _ ⟨by simp [yh],by simp [yh],by simp [yh]⟩ (by simp [yh])
theorem ZN:iF DN:=.mk _ ⟨by simp [DN],by simp [DN],by simp [DN]⟩ (by simp only [DN,List.mem_cons,List.not_mem_nil,or_false];rintro m rfl;exact Df _ _)
theorem Zb:iF uq:=.mk _ ⟨by simp [uq],by simp [uq],by simp [uq]⟩ (by simp only [uq,List.mem_cons,List.not_mem_nil,or_false];rintro m (rfl | rfl) <;> exact Df _ _)
theorem Y8:iF tV:=.mk _ ⟨by simp [tV],by simp [tV],by simp [tV]⟩ (by
 simp only [tV,List.mem_cons,List.not_mem_nil,or_false]
 rintro m (rfl | rfl)
 · exact .mk _ ⟨by simp,by simp,by simp⟩ (by simp only [List.mem_cons,List.not_mem_nil,or_false];rintro m rfl;exact Df _ _)
 · exact .mk _ ⟨by simp,by simp,by simp⟩ (by simp))
theorem ah9 (n:Int):lg (aX n):=⟨by simp [aX],by
 simp only [aX,List.mem_cons,List.not_mem_nil,or_false]
 rintro k (rfl | rfl | rfl)
 · exact ZN
 · exact Zb
 · exact Y8⟩
theorem akG:oN DN≠0:=by decide +kernel
theorem afQ:oN uq≠0:=by decide +kernel
theorem afz:oN tV≠0:=by decide +kernel
theorem alZ (n:Int) (hn:0≤n∧n≤255):yD (aX n) 12=true:=by
 have e1:(1:Int)≤10+n % 7∧10+n % 7≤2305843009213693952:=by omega
 have e2:(1:Int)≤6+n % 3∧6+n % 3≤2305843009213693952:=by omega
 simp [yD,CO,hOk,aX,akG,afQ,afz,e1,e2]
theorem WJ (n:Int) (hn:0≤n∧n≤255) (t:Int) (ht:0≤t∧t≤2):1≤(iU (aX n) t).b∧(iU (aX n) t).b≤30:=by
 have:t=0∨t=1∨t=2:=by omega
 rcases this with rfl | rfl | rfl <;> simp [iU,aX] <;> omega
structure pV (ks:List Kd) (e:En):Prop where
 i:Good e.i
 ok:itE ks 12 e.i false=0
 s:1≤e.s∧e.s≤40
 b:e.kn=true∨e.s=(iU ks e.i.t).b
structure ajn (ks:List Kd):Prop where
 r:lg ks
 l:ks.length=3
 b:∀ t:Int,0≤t→t≤2→1≤(iU ks t).b∧(iU ks t).b≤30
theorem ail (n:Int) (hn:0≤n∧n≤255):ajn (aX n):=⟨ah9 n,rfl,fun t h1 h2=>WJ n hn t ⟨h1,h2⟩⟩
theorem aiN (H:tH C) (ks:List Kd) (hks:ajn ks) (l:List It) (le:Bool) (hl:l.length≤12) (hg:∀ x ∈ l,Good x) (q:List Q4) (qe:Bool) (z:List Int) (ze:Bool) (hz:∀ s ∈ z,0≤s∧s≤255) (hzl:z.length < 9223372036854775808) (r:Int):∀ n i,n+i=l.length →
 ∀ G:List En,G≠[]→G.length≤i→(∀ x ∈ G,pV ks x)→(jd G++(l.drop i).map It.k).Nodup →
 ∃ (R:List En) (f:Bool),iC C ⟨[(7,.int .i64 i),(6,.ptr 0 0 0),(5,.ro 4 (l.map cIt) le),(4,.ptr 2 0 0),(3,.ptr 3 0 0),(2,.ptr 4 0 0),(1,.ptr 5 0 0)],[(0,.cells 1 [[.sl 1 6 0 G.length G.length false]] true false),(1,.cells 6 (G.map eEn) true true),(2,.cells 2 [[.ro 9 (ks.map eKd) true,.int .i64 12]] true true),(3,.cells 1 [[.ro 6 [] true]] true true),(4,.cells 2 [[.ro 9 [] true,.int .i64 0]] true true),(5,.cells 3 [[.ro 4 (q.map eQ) qe,.ro 1 (z.map eU8) ze,.int .u8 r]] true true)],6⟩=some (.tup [aR ks true 12,aL R f])∧R.length≤12∧(∀ e ∈ R,pV ks e)∧(jd R).Nodup:=by
 intro n
 induction n with
 | zero =>
  intro i hi G hne hG hge hn
  have h1:l.drop i=[]:=List.drop_eq_nil_of_le (by omega)
  have h3:¬ i < l.length:=by omega
  have h6:List.take G.length (List.map eEn G)=List.map eEn G:=List.take_of_length_le (by simp)
  refine ⟨G,false,?_,by omega,hge,by rw [h1] at hn;simpa using hn⟩
  simp only [iC];rw [aj ji.eq_1]
  simp [aj EJ.eq_1,h3,h6]
 | succ n ih =>
  intro i hi G hne hG hge hn
  have h1:i < l.length:=by omega
  have gx:=hg _ (List.getElem_mem h1)
  have hii:=He H.touN ks true 12 l[i] gx.it hks.r false
  have hfr:=JC H.touN ks true 12 l[i] gx.it (by have:=gx.t;have:=hks.l;omega)
  have hbase:=hks.b l[i].t gx.t.1 gx.t.2
  rw [drop_cons h1,List.map_cons] at hn
  have hfit:(G.length+1) * 73≤35184372088832:=by omega
  simp only [aR,eIt,Bool.false_eq_true,if_false] at hii
  simp only [aR,eIt,aE,eEn,fre] at hfr
  have hE0:0≤itE ks 12 l[i] false:=by unfold itE;repeat (first | omega | split)
  by_cases c1:itE ks 12 l[i] false=0
  · have step:∀ e:En,e.i=l[i]→pV ks e→∃ (R:List En) (f:Bool),iC C ⟨[(7,.int .i64 ((i:Int)+1)),(6,.ptr 0 0 0),(5,.ro 4 (l.map cIt) le),(4,.ptr 2 0 0),(3,.ptr 3 0 0),(2,.ptr 4 0 0),(1,.ptr 5 0 0)],[(0,.cells 1 [[.sl 1 6 0 (G.length+1) (G.length+1) false]] true false),(1,.cells 6 (G.map eEn++[eEn e]) true true),(2,.cells 2 [[.ro 9 (ks.map eKd) true,.int .i64 12]] true true),(3,.cells 1 [[.ro 6 [] true]] true true),(4,.cells 2 [[.ro 9 [] true,.int .i64 0]] true true),(5,.cells 3 [[.ro 4 (q.map eQ) qe,.ro 1 (z.map eU8) ze,.int .u8 r]] true true)],6⟩=some (.tup [aR ks true 12,aL R f])∧R.length≤12∧(∀ e ∈ R,pV ks e)∧(jd R).Nodup:=by
     intro e he hge2
     have:=ih (i+1) (by omega) (G++[e]) (by simp) (by simp;omega) (by
      intro y hy
      rcases List.mem_append.1 hy with q | q
      · exact hge y q
      · simp at q;rw [q];exact hge2) (by simpa [jd,he] using hn)
     simpa using this
    by_cases c2:G.length < z.length
    · by_cases c3:(0:Int) < z[G.length]
      · have hzz:=hz _ (List.getElem_mem c2)
        have hm:z[G.length].tmod 40=z[G.length] % 40:=Int.tmod_eq_emod_of_nonneg hzz.1
        have hm1:(0:Int)≤z[G.length] % 40:=Int.emod_nonneg _ (by omega)
        have hm2:z[G.length] % 40 < 40:=Int.emod_lt_of_pos _ (by omega)
        obtain ⟨R,f,this,hR⟩:=step ⟨l[i],1+z[G.length] % 40,true⟩ rfl ⟨gx,c1,by simp only;omega,.inl rfl⟩
        refine ⟨R,f,?_,hR⟩
        rw [c1] at hii
        generalize z[G.length] % 40=M at *
        simp only [iC] at this ⊢;rw [aj ji.eq_1]
        simp at this
        simp (disch:=omega) [h1,c2,c3,hm,hii,hfr,hfit,aB,wU8,H.inl,ak,H.pp,ppB,this]
      · obtain ⟨R,f,this,hR⟩:=step (fre ks l[i]) rfl ⟨gx,c1,by unfold fre;simp only;omega,.inr rfl⟩
        refine ⟨R,f,?_,hR⟩
        rw [c1] at hii
        simp only [fre] at this
        simp only [iC] at this ⊢;rw [aj ji.eq_1]
        simp at this
        simp (disch:=omega) [h1,c2,c3,hii,hfr,hfit,aB,wU8,H.inl,ak,H.pp,ppB,this]
    · obtain ⟨R,f,this,hR⟩:=step (fre ks l[i]) rfl ⟨gx,c1,by unfold fre;simp only;omega,.inr rfl⟩
      refine ⟨R,f,?_,hR⟩
      rw [c1] at hii
      simp only [fre] at this
      simp only [iC] at this ⊢;rw [aj ji.eq_1]
      simp at this
      simp (disch:=omega) [h1,c2,hii,hfr,hfit,aB,wU8,H.inl,ak,H.pp,ppB,this]
  · have c1':0 < itE ks 12 l[i] false:=by omega
    obtain ⟨R,f,this,hR⟩:=ih (i+1) (by omega) G hne (by omega) hge (by
     refine List.Nodup.sublist ?_ hn;exact List.Sublist.append (List.Sublist.refl _) (List.sublist_cons_self _ _))
    refine ⟨R,f,?_,hR⟩
    generalize itE ks 12 l[i] false=E at *
    simp only [iC] at this ⊢;rw [aj ji.eq_1]
    simp at this
    simp (disch:=omega) [h1,c1',hii,aB,H.inl,ak,H.pp,ppB,this]
theorem aeg (H:tH C) (ks:List Kd) (hks:ajn ks) (l:List It) (le:Bool) (hl:l.length≤12) (hg:∀ x ∈ l,Good x) (q:List Q4) (qe:Bool) (z:List Int) (ze:Bool) (hz:∀ s ∈ z,0≤s∧s≤255) (hzl:z.length < 9223372036854775808) (r:Int):∀ n i,n+i=l.length →
 (jd []++(l.drop i).map It.k).Nodup →
 ∃ (R:List En) (f:Bool),iC C ⟨[(7,.int .i64 i),(6,.ptr 0 0 0),(5,.ro 4 (l.map cIt) le),(4,.ptr 1 0 0),(3,.ptr 2 0 0),(2,.ptr 3 0 0),(1,.ptr 4 0 0)],[(0,.cells 1 [[.ro 6 [] true]] true true),(1,.cells 2 [[.ro 9 (ks.map eKd) true,.int .i64 12]] true true),(2,.cells 1 [[.ro 6 [] true]] true true),(3,.cells 2 [[.ro 9 [] true,.int .i64 0]] true true),(4,.cells 3 [[.ro 4 (q.map eQ) qe,.ro 1 (z.map eU8) ze,.int .u8 r]] true true)],5⟩=some (.tup [aR ks true 12,aL R f])∧R.length≤12∧(∀ e ∈ R,pV ks e)∧(jd R).Nodup:=by
 intro n
 induction n with
 | zero =>
  intro i hi  hn
  have h1:l.drop i=[]:=List.drop_eq_nil_of_le (by omega)
  have h3:¬ i < l.length:=by omega
  refine ⟨[],true,?_,by simp,by simp,by simp⟩
  simp only [iC];rw [aj ji.eq_1]
  simp [aj EJ.eq_1,h3]
 | succ n ih =>
  intro i hi  hn
  have h1:i < l.length:=by omega
  have gx:=hg _ (List.getElem_mem h1)
  have hii:=He H.touN ks true 12 l[i] gx.it hks.r false
  have hfr:=JC H.touN ks true 12 l[i] gx.it (by have:=gx.t;have:=hks.l;omega)
  have hbase:=hks.b l[i].t gx.t.1 gx.t.2
  rw [drop_cons h1,List.map_cons] at hn
  simp only [aR,eIt,Bool.false_eq_true,if_false] at hii
  simp only [aR,eIt,aE,eEn,fre] at hfr
  have hE0:0≤itE ks 12 l[i] false:=by unfold itE;repeat (first | omega | split)
  by_cases c1:itE ks 12 l[i] false=0
  · have step:∀ e:En,e.i=l[i]→pV ks e→∃ (R:List En) (f:Bool),iC C ⟨[(7,.int .i64 ((i:Int)+1)),(6,.ptr 0 0 0),(5,.ro 4 (l.map cIt) le),(4,.ptr 2 0 0),(3,.ptr 3 0 0),(2,.ptr 4 0 0),(1,.ptr 5 0 0)],[(0,.cells 1 [[.sl 1 6 0 1 1 false]] true false),(1,.cells 6 [eEn e] true true),(2,.cells 2 [[.ro 9 (ks.map eKd) true,.int .i64 12]] true true),(3,.cells 1 [[.ro 6 [] true]] true true),(4,.cells 2 [[.ro 9 [] true,.int .i64 0]] true true),(5,.cells 3 [[.ro 4 (q.map eQ) qe,.ro 1 (z.map eU8) ze,.int .u8 r]] true true)],6⟩=some (.tup [aR ks true 12,aL R f])∧R.length≤12∧(∀ e ∈ R,pV ks e)∧(jd R).Nodup:=by
     intro e he hge2
     have:=aiN H ks hks l le hl hg q qe z ze hz hzl r n (i+1) (by omega) [e] (by simp) (by simp) (by simpa using hge2) (by simpa [jd,he] using hn)
     simpa using this
    by_cases c2:0 < z.length
    · by_cases c3:(0:Int) < z[0]
      · have hzz:=hz _ (List.getElem_mem c2)
        have hm:z[0].tmod 40=z[0] % 40:=Int.tmod_eq_emod_of_nonneg hzz.1
        have hm1:(0:Int)≤z[0] % 40:=Int.emod_nonneg _ (by omega)
        have hm2:z[0] % 40 < 40:=Int.emod_lt_of_pos _ (by omega)
        obtain ⟨R,f,this,hR⟩:=step ⟨l[i],1+z[0] % 40,true⟩ rfl ⟨gx,c1,by simp only;omega,.inl rfl⟩
        refine ⟨R,f,?_,hR⟩
        rw [c1] at hii
        generalize z[0] % 40=M at *
        simp only [iC] at this ⊢;rw [aj ji.eq_1]
        simp at this
        simp (disch:=omega) [h1,c2,c3,hm,hii,hfr,aB,wU8,H.inl,ak,H.pp,ppB,this]
      · obtain ⟨R,f,this,hR⟩:=step (fre ks l[i]) rfl ⟨gx,c1,by unfold fre;simp only;omega,.inr rfl⟩
        refine ⟨R,f,?_,hR⟩
        rw [c1] at hii
        simp only [fre] at this
        simp only [iC] at this ⊢;rw [aj ji.eq_1]
        simp at this
        simp (disch:=omega) [h1,c2,c3,hii,hfr,aB,wU8,H.inl,ak,H.pp,ppB,this]
    · obtain ⟨R,f,this,hR⟩:=step (fre ks l[i]) rfl ⟨gx,c1,by unfold fre;simp only;omega,.inr rfl⟩
      refine ⟨R,f,?_,hR⟩
      rw [c1] at hii
      simp only [fre] at this
      simp only [iC] at this ⊢;rw [aj ji.eq_1]
      simp at this
      simp (disch:=omega) [h1,c2,hii,hfr,aB,wU8,H.inl,ak,H.pp,ppB,this]
  · have c1':0 < itE ks 12 l[i] false:=by omega
    obtain ⟨R,f,this,hR⟩:=ih (i+1) (by omega) (by
     simp only [jd,List.map_nil,List.nil_append] at hn ⊢;exact (List.nodup_cons.1 hn).2)
    refine ⟨R,f,?_,hR⟩
    generalize itE ks 12 l[i] false=E at *
    simp only [iC] at this ⊢;rw [aj ji.eq_1]
    simp at this
    simp (disch:=omega) [h1,c1',hii,aB,H.inl,ak,H.pp,ppB,this]
theorem ai9 (H:tH C) (hone:∀ q:Q4,QIn q→∃ i:It,FnW C 422 [.agg (eQ q)]=some (eIt i)∧Good i) (q:List Q4) (qe:Bool) (hq:∀ x ∈ q,QIn x) (z:List Int) (ze:Bool) (hz:∀ s ∈ z,0≤s∧s≤255) (hzl:z.length < 9223372036854775808) (r:Int) (hr:0≤r∧r≤255) :
 ∃ (R:List En) (f:Bool),FnW C 130 [.agg [.ro 4 (q.map eQ) qe,.ro 1 (z.map eU8) ze,.int .u8 r]]=some (.tup [aR (aX r) true 12,aL R f])∧R.length≤12∧(∀ e ∈ R,pV (aX r) e)∧(jd R).Nodup:=by
 obtain ⟨I,hI,l1,l2,l3⟩:=acB H hone q qe hq
 have hk:=aaB H r hr
 obtain ⟨R,f,h,hR⟩:=aeg H (aX r) (ail r hr) I false l1 l2 q qe z ze hz hzl r I.length 0 (by simp) (by simpa [jd] using l3)
 refine ⟨R,f,?_,hR⟩
 rw [aH H.f130 rfl]
 generalize aX r=ks at *
 simp only [iC] at h
 simp at h
 simp [ag2,hI,hk,h,H.inl,ak,H.pp,ppB]
mutual
theorem aaf (i:It):∀ p:Pt,mk i.own p=mk i p
 | ⟨k,t,y,s,se,tx,ch,ce⟩=>by rw [mk,mk,Wj i ch];rfl
theorem Wj (i:It):∀ l:List Pt,mks i.own l=mks i l
 | []=>rfl
 | p::r=>by rw [mks,mks,aaf i p,Wj i r]
end
theorem PV (ks:List Kd) (hb:∀ t:Int,0≤t→t≤2→1≤(iU ks t).b∧(iU ks t).b≤30):∀ (l:List En) (s:List Int),(∀ e ∈ l,pV ks e)→(s++jd l).Nodup→chk ks 12 s l=0
 | [],_,_,_=>rfl
 | e::r,s,hg,hn=>by
  have h1:=hg e (by simp)
  have h2:s.contains e.i.k=false:=by
   simp only [jd,List.map_cons] at hn
   have:=(List.nodup_append.1 hn).2.2
   simp only [List.contains_eq_mem,decide_eq_false_iff_not]
   intro q
   exact this _ q _ (by simp) rfl
  have h3:enE ks 12 e false=0:=by
   unfold enE
   rw [h1.ok]
   have hh:hOk e.s=true:=by unfold hOk;have:=h1.s;simp;omega
   simp [hh,h1.b]
  rw [chk,h2,h3]
  simp only [ne_eq,not_true_eq_false,if_false]
  refine PV ks hb r _ (fun x hx=>hg x (by simp [hx])) ?_
  simpa [jd] using hn
theorem Qk (ks:List Kd):∀ (l:List En) (s:Int),(∀ e ∈ l,pV ks e)→0≤s→s+40 * l.length≤4611686018427387904→oM s l≤s+40 * l.length
 | [],s,_,_,_=>by simp [oM]
 | e::r,s,hg,h0,h=>by
  have h1:=(hg e (by simp)).s
  have h2:imax e.s 0=e.s:=MH (by omega)
  simp only [List.length_cons] at h ⊢
  rw [oM,h2,if_neg (by omega)]
  have:=Qk ks r (s+e.s) (fun x hx=>hg x (by simp [hx])) (by omega) (by omega)
  omega
theorem aeZ (r:Int) (hr:0≤r∧r≤255) (l:List En) (hl:l.length≤1024) (hg:∀ e ∈ l,pV (aX r) e) (hn:(jd l).Nodup):ckE (aX r) 12 l=0:=by
 have h1:=PV (aX r) (fun t a b=>WJ r hr t ⟨a,b⟩) l [] hg (by simpa using hn)
 have h2:=Qk (aX r) l 0 hg (by omega) (by omega)
 have h3:ovE l=0:=by unfold ovE tot;rw [if_neg (by omega)]
 unfold ckE
 rw [alZ r hr,h1,if_neg (by simp),if_neg (by omega),if_neg (by simp),h3]
theorem pV.en {ks:List Kd} {e:En} (h:pV ks e):qC e:=⟨h.i.it,by have:=h.s;omega⟩
end Go.D
end
section
end
section
namespace Go.D
open Go Go.Pav Go.Pw P
def sm:List En→Int
 | []=>0
 | e::r=>e.s+sm r
def top (l:List En) (i:Nat):Int:=sm (l.take i)
theorem Jy (l:List En):top l 0=0:=rfl
theorem abI:∀ (a b:List En),sm (a++b)=sm a+sm b
 | [],b=>by simp [sm]
 | e::r,b=>by simp only [List.cons_append,sm];rw [abI r b];omega
theorem Bl {l:List En} {i:Nat} (h:i < l.length):top l (i+1)=top l i+l[i].s:=by
 unfold top
 rw [List.take_add_one,List.getElem?_eq_getElem h,abI]
 simp [sm]
theorem wL (l:List En):top l l.length=sm l:=by unfold top;rw [List.take_length]
theorem ai3 {l:List En} {i:Nat} (h:l.length≤i):top l i=sm l:=by unfold top;rw [List.take_of_length_le h]
def szE (l:List En):Int:=if 1024 < l.length then 3 else if l.any (fun e=>!hOk e.s) then 12 else ovE l
structure Szd (l:List En):Prop where
 n:l.length≤1024
 s:∀ x ∈ l,1≤x.s∧x.s≤2305843009213693952
 t:sm l≤4611686018427387904
theorem adv:∀ (l:List En),(∀ x ∈ l,1≤x.s)→0≤sm l
 | [],_=>by simp [sm]
 | e::r,h=>by
  have h1:=h e (by simp)
  have h2:=adv r fun x hx=>h x (by simp [hx])
  rw [sm];omega
theorem OZ:∀ (l:List En) (s:Int),(∀ x ∈ l,1≤x.s)→s≤4611686018427387904 →
 (s+sm l≤4611686018427387904∧oM s l=s+sm l)∨(4611686018427387904 < s+sm l∧oM s l=4611686018427387905)
 | [],s,_,h=>by left;simp [sm,oM,h]
 | e::r,s,hs,h=>by
  have h1:=hs e (by simp)
  have h2:=adv r fun x hx=>hs x (by simp [hx])
  have h3:imax e.s 0=e.s:=MH (by omega)
  rw [oM,sm,h3]
  by_cases c:4611686018427387904 - s < e.s
  · right;rw [if_pos c];omega
  · rw [if_neg c]
    have:=OZ r (s+e.s) (fun x hx=>hs x (by simp [hx])) (by omega)
    rw [← Int.add_assoc];exact this
theorem o7 (n:Int):hOk n=true↔1≤n∧n≤2305843009213693952:=by unfold hOk;simp
theorem Ho {l:List En} (h:szE l=0):Szd l:=by
 unfold szE at h
 by_cases c1:1024 < l.length
 · rw [if_pos c1] at h;omega
 · rw [if_neg c1] at h
   by_cases c2:l.any (fun e=>!hOk e.s)=true
   · rw [if_pos c2] at h;omega
   · rw [if_neg c2] at h
     have hs:∀ x ∈ l,1≤x.s∧x.s≤2305843009213693952:=by
      intro x hx
      rw [← o7]
      simp only [List.any_eq_true,not_exists,not_and] at c2
      simpa using c2 x hx
     refine ⟨by omega,hs,?_⟩
     rcases OZ l 0 (fun x hx=>(hs x hx).1) (by omega) with q | q
     · omega
     · unfold ovE tot at h
       rw [q.2] at h
       simp at h
theorem Szd.tot {l:List En} (h:Szd l):tot l=sm l:=by
 unfold Go.D.tot
 have h2:=h.t
 rcases OZ l 0 (fun x hx=>(h.s x hx).1) (by omega) with q | q
 · omega
 · omega
theorem C9 {l:List En} (h:Szd l):szE l=0:=by
 have h1:=h.n
 have h2:=h.t
 have h3:ovE l=0:=by unfold ovE;rw [h.tot,if_neg (by omega)]
 unfold szE
 rw [if_neg (by omega),h3,if_neg]
 intro c
 obtain ⟨x,hx,c⟩:=List.any_eq_true.1 c
 have:=(o7 x.s).2 (h.s x hx)
 rw [this] at c
 cases c
theorem Szd.nn {l:List En} (h:Szd l):0≤sm l:=adv l fun x hx=>(h.s x hx).1
theorem Szd.lt {l:List En} (h:Szd l) {i:Nat} (hi:i < l.length):top l i+1≤top l (i+1):=by
 rw [Bl hi]
 have:=(h.s _ (List.getElem_mem hi)).1
 omega
theorem Szd.mono {l:List En} (h:Szd l) {i:Nat}:∀ {j:Nat},i≤j→j≤l.length→top l i+((j:Int) - i)≤top l j:=by
 intro j hij
 induction j with
 | zero => intro _; have : i = 0 := by omega
           subst this;simp
 | succ j ih =>
  intro hj
  by_cases c:i=j+1
  · subst c;omega
  · have h1:=ih (by omega) (by omega)
    have h2:=h.lt (i:=j) (by omega)
    omega
theorem Szd.rng {l:List En} (h:Szd l) (i:Nat):0≤top l i∧top l i≤sm l:=by
 by_cases c:i≤l.length
 · have h1:=h.mono (i:=0) (j:=i) (by omega) c
   have h2:=h.mono (i:=i) (j:=l.length) c (by omega)
   rw [Jy] at h1
   rw [wL] at h2
   omega
 · rw [ai3 (by omega)];have:=h.nn;omega
theorem Szd.small {l:List En} (h:Szd l) (i:Nat):-9223372036854775808≤top l i∧top l i≤4611686018427387904:=by
 have:=h.rng i
 have:=h.t
 omega
def Qp (l:List En) (x:Int):Nat→Nat→Int
 | 0,_=>-1
 | n+1,i=>if top l i≤x∧x < top l (i+1) then i else Qp l x n (i+1)
def rowA (l:List En) (x:Int):Int:=Qp l x l.length 0
theorem Szd.aeL {l:List En} (h:Szd l) {x:Int} {p:Nat} (hp:p < l.length) (h1:top l p≤x) (h2:x < top l (p+1)):∀ n i,n+i=l.length→i≤p→Qp l x n i=p:=by
 intro n
 induction n with
 | zero=>intro i hi hip;omega
 | succ n ih =>
  intro i hi hip
  rw [Qp]
  by_cases c:i=p
  · subst c;rw [if_pos ⟨h1,h2⟩]
  · have:=h.mono (i:=i+1) (j:=p) (by omega) (by omega)
    rw [if_neg (by omega)]
    exact ih (i+1) (by omega) (by omega)
theorem Szd.pG {l:List En} (h:Szd l) {x:Int} {p:Nat} (hp:p < l.length) (h1:top l p≤x) (h2:x < top l (p+1)):rowA l x=p:=h.aeL hp h1 h2 _ _ (by simp) (by omega)
theorem Szd.row {l:List En} (h:Szd l) {x:Int} (h0:0≤x) (h1:x < sm l):∃ p,p < l.length∧top l p≤x∧x < top l (p+1):=by
 have key:∀ n,n≤l.length→top l n≤x∨∃ p,p < n∧top l p≤x∧x < top l (p+1):=by
  intro n
  induction n with
  | zero=>intro _;left;rw [Jy];exact h0
  | succ n ih =>
   intro hn
   rcases ih (by omega) with q | ⟨p,q1,q2⟩
   · by_cases c:top l (n+1)≤x
     · exact .inl c
     · exact .inr ⟨n,by omega,q,by omega⟩
   · exact .inr ⟨p,by omega,q2⟩
 rcases key l.length (by omega) with q | ⟨p,q⟩
 · rw [wL] at q;omega
 · exact ⟨p,q⟩
def dI (l:List En) (v:Int):Int:=if sm l < v then 0 else sm l - v
def vpE (l:List En) (s v:Int):Int:=if szE l≠0 then szE l else if v < 1∨2147483648 < v then 1 else if s < 0∨dI l v < s then 4 else 0
def DX (l:List En) (s v:Int):Int:=if l.length=0 then 0 else rowA l s
def DZ (l:List En) (s v:Int):Int:=if l.length=0 then 0 else rowA l (jH (s+v) (sm l) - 1)+1
structure Vp (l:List En) (o v:Int):Prop extends Szd l where
 v0:1≤v∧v≤2147483648
 s0:0≤o∧o≤dI l v
theorem amX {l:List En} {s v:Int} (h:vpE l s v=0):Vp l s v:=by
 unfold vpE at h
 by_cases c1:szE l=0
 · rw [if_neg (by simpa using c1)] at h
   by_cases c2:v < 1∨2147483648 < v
   · rw [if_pos c2] at h;omega
   · rw [if_neg c2] at h
     by_cases c3:s < 0∨dI l v < s
     · rw [if_pos c3] at h;omega
     · exact ⟨Ho c1,by omega,by omega⟩
 · rw [if_pos c1] at h;exact absurd h c1
theorem acg {l:List En} {s v:Int} (h:Vp l s v):vpE l s v=0:=by
 have:=h.v0
 have:=h.s0
 unfold vpE
 rw [C9 h.toSzd,if_neg (by simp),if_neg (by omega),if_neg (by omega)]
theorem Vp.ends {l:List En} {s v:Int} (h:Vp l s v) (hl:0 < l.length):∃ p q:Nat,p < l.length∧q < l.length∧p≤q∧(top l p≤s∧s < top l (p+1))∧(top l q≤jH (s+v) (sm l) - 1∧jH (s+v) (sm l) - 1 < top l (q+1)):=by
 have h1:=h.v0
 have h2:=h.s0
 have h3:1≤sm l:=by
  have:=h.mono (i:=0) (j:=l.length) (by omega) (by omega)
  rw [Jy,wL] at this;omega
 have h4:s < sm l:=by unfold dI at h2;split at h2 <;> omega
 have h5:s+1≤jH (s+v) (sm l)∧jH (s+v) (sm l)≤sm l:=by unfold jH;split <;> omega
 obtain ⟨p,p1,p2,p3⟩:=h.row h2.1 h4
 obtain ⟨q,q1,q2,q3⟩:=h.row (x:=jH (s+v) (sm l) - 1) (by omega) (by omega)
 refine ⟨p,q,p1,q1,?_,⟨p2,p3⟩,q2,q3⟩
 by_cases c:p≤q
 · exact c
 · have:=h.mono (i:=q+1) (j:=p) (by omega) (by omega)
   omega
theorem Vp.seen {l:List En} {s v:Int} (h:Vp l s v) {p q:Nat} (hp:p < l.length) (hq:q < l.length) (h1:top l p≤s∧s < top l (p+1)) (h2:top l q≤jH (s+v) (sm l) - 1∧jH (s+v) (sm l) - 1 < top l (q+1)) {i:Nat} (hi:i < l.length) :
 (top l i < s+v∧s < top l (i+1))↔(p≤i∧i≤q):=by
 have e1:jH (s+v) (sm l)≤s+v:=by unfold jH;split <;> omega
 have hm:=h.rng (i+1)
 have hlt:=h.lt hi
 constructor
 · rintro ⟨a,b⟩
   constructor
   · by_cases c:p≤i
     · exact c
     · have:=h.mono (i:=i+1) (j:=p) (by omega) (by omega);omega
   · by_cases c:i≤q
     · exact c
     · have:=h.mono (i:=q+1) (j:=i) (by omega) (by omega)
       have e2:s+v≤top l i:=by
        unfold jH at h2;split at h2 <;> omega
       omega
 · rintro ⟨a,b⟩
   have m1:=h.mono (i:=i) (j:=q) b (by omega)
   have m2:=h.mono (i:=p+1) (j:=i+1) (by omega) (by omega)
   omega
end Go.D
end
