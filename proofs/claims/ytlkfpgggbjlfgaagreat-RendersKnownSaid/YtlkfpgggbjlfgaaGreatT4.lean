/- Part of the theory that the claims of this work use: PwSim, PwCanon, PwPrim, PwCode, PwDen, PwCk, PwSimp, PwZip. No conditions of its own. -/
import Derived.Test.YtlkfpgggbjlfgaaGreatT3
section
set_option linter.unusedSimpArgs false
set_option linter.unusedVariables false
namespace Go.Pw
open Go Go.Pav
def Keeps (ρ:Nat→Nat) (V A:Nat→Prop) (ρ':Nat→Nat) (V' A':Nat→Prop):Prop:=∀ b,A b→A' b∧ρ' b=ρ b∧(V' b↔V b)
theorem Keeps.refl (ρ:Nat→Nat) (V A:Nat→Prop):Keeps ρ V A ρ V A:=fun _ h=>⟨h,rfl,Iff.rfl⟩
theorem Keeps.trans {ρ ρ1 ρ2:Nat→Nat} {V A V1 A1 V2 A2:Nat→Prop} (h:Keeps ρ V A ρ1 V1 A1) (k:Keeps ρ1 V1 A1 ρ2 V2 A2):Keeps ρ V A ρ2 V2 A2:=fun b hb=>by
 obtain ⟨h1,h2,h3⟩:=h b hb
 obtain ⟨k1,k2,k3⟩:=k b h1
 exact ⟨k1,k2.trans h2,k3.trans h3⟩
structure Lts (ρ:Nat→Nat) (V A:Nat→Prop) (n m:Nat):Prop where
 w:∀ b,A b→b < n
 p:∀ b,A b→¬ V b→ρ b < m
def uO (run:vg) (run':Run):Prop :=
 ∀ (f:Nat) (args:List AV) (h:aJ) (n:Nat) (v:AV) (h1:aJ) (n1:Nat),run f args h n=some (v,h1,n1) →
  ∀ (ρ:Nat→Nat) (V A:Nat→Prop) (args':List AV) (h':Heap) (m:Nat),bf (VW ρ V A) args args'→HW ρ V A h h'→Lts ρ V A n m →
   ∃ v' h1' m1 ρ' V' A',run' f args' h' m=some (v',h1',m1)∧VW ρ' V' A' v v'∧HW ρ' V' A' h1 h1'∧Lts ρ' V' A' n1 m1∧Keeps ρ V A ρ' V' A' ∧
    (∀ b,A' b→A b∨n≤b)∧(∀ b,A' b→¬ V' b→(A b∧ρ' b=ρ b)∨m≤ρ' b)∧n≤n1∧m≤m1
def SG (d:kC):List Nat:=match d.bar with | true=>d.wr.tail | false=>d.wr
structure PE (ρ:Nat→Nat) (V A:Nat→Prop) (nid n mid m:Nat) (d:kC) (d':Did) (ρ':Nat→Nat) (V' A':Nat→Prop):Prop where
 v:VW ρ' V' A' d.v d'.v
 h:HW ρ' V' A' d.h d'.h
 keeps:Keeps ρ V A ρ' V' A'
 new:∀ b,A' b→A b∨b=nid∨n≤b
 acV:∀ b,A' b→¬ V' b→(A b∧ρ' b=ρ b)∨ρ' b=mid∨m≤ρ' b
 lt:Lts ρ' V' A' d.n d'.n
 next:n≤d.n
 VG:m≤d'.n
 bar:d'.bar=true→d.bar=true∧d.wr=[]
 rd:∀ b ∈ d'.rd,∃ c ∈ d.rd,b=ρ' c∧¬ V' c∧A' c
 wr:∀ b ∈ d'.wr,(∃ c ∈ SG d,b=ρ' c∧¬ V' c∧A' c)∨∃ k w,d.bar=true∧d.wr=k::w∧m≤b∧b < d'.n∧∀ c,A' c→¬ V' c→ρ' c=b→k≤c
section
variable {ρ:Nat→Nat} {V A:Nat→Prop} {n m:Nat} {h:aJ} {h':Heap} {e e':Env} {C:aG} {run:vg} {run':Run}
theorem Wy:∀ (v:AV),bU v=true→∀ (u:AV),VW ρ V A v u→bU u=true:=by
 intro v
 refine AV.rec (motive_1:=fun v=>bU v=true→∀ (u:AV),VW ρ V A v u→bU u=true) (motive_2:=fun _=>True)
  (motive_3:=fun l=>bQ l=true→∀ l',bf (VW ρ V A) l l'→bQ l'=true) ?_ ?_ ?_ ?_ ?_ ?_ ?_ ?_ ?_ ?_ ?_ ?_ ?_ ?_ ?_ ?_ ?_ ?_ ?_ ?_ v
 · intro hp;simp [bU] at hp
 · intro b hp;simp [bU] at hp
 · intro b c hp;simp [bU] at hp
 · intro b hp;simp [bU] at hp
 · intro hp;simp [bU] at hp
 · intro hp;simp [bU] at hp
 · intro hp;simp [bU] at hp
 · intro hp;simp [bU] at hp
 · intro z es ex _ hp;simp [bU] at hp
 · intro z _ hp;simp [bU] at hp
 · intro b i o _ u hu
   rw [hu.iT.1];rfl
 · intro b z i len cap ex hp;simp [bU] at hp
 · intro b _ u hu
   rw [hu.xK.1];rfl
 · intro f cs ih hp u hu
   obtain ⟨cs',rfl,hr⟩:=hu.yK
   simp only [bU];exact ih (by simpa only [bU] using hp) cs' hr
 · intro cs ih hp u hu
   obtain ⟨cs',rfl,hr⟩:=hu.mg
   simp only [bU];exact ih (by simpa only [bU] using hp) cs' hr
 · intro cs ih hp u hu
   obtain ⟨cs',rfl,hr⟩:=hu.sS
   simp only [bU];exact ih (by simpa only [bU] using hp) cs' hr
 · trivial
 · intros;trivial
 · intro hp;simp [bQ] at hp
 · intro v l ih1 ih2 hp l' hr
   obtain ⟨u,t,rfl,h1,h2⟩:=hr.dw
   simp only [bQ,Bool.or_eq_true] at hp ⊢
   rcases hp with hp | hp
   · exact .inl (ih1 hp u h1)
   · exact .inr (ih2 hp t h2)
theorem Ry:∀ (l:List AV),bQ l=true→∀ l',bf (VW ρ V A) l l'→bQ l'=true:=by
 intro l
 induction l with
 | nil=>intro hp;simp [bQ] at hp
 | cons v l ih =>
  intro hp l' hr
  obtain ⟨u,t,rfl,h1,h2⟩:=hr.dw
  simp only [bQ,Bool.or_eq_true] at hp ⊢
  rcases hp with hp | hp
  · exact .inl (Wy v hp u h1)
  · exact .inr (ih hp t h2)
theorem Zh:∀ (n:Nat) (v u v':AV),VW ρ V A v u→bM h n v=some v'→bU v=false→bU u=false:=by
 intro n
 induction n with
 | zero=>intro v u v' _ hf;simp [bM] at hf
 | succ n ih =>
  have lst:∀ (l l' r:List AV),bf (VW ρ V A) l l'→bn (bM h n) l=some r→bQ l=false→bQ l'=false:=by
   intro l
   induction l with
   | nil=>intro l' r hr _ _;rw [hr.dV];rfl
   | cons a l ihl =>
    intro l' r hr hm hp
    obtain ⟨b,t,rfl,h1,h2⟩:=hr.dw
    simp only [bn] at hm
    obtain ⟨x,h3,hm⟩:=au hm
    obtain ⟨xs,h4,rfl⟩:=aA hm
    simp only [bQ,Bool.or_eq_false_iff] at hp ⊢
    exact ⟨ih a b x h1 h3 hp.1,ihl t xs h2 h4 hp.2⟩
  intro v u v' hv hf hp
  cases v with
  | undef=>simp [bM] at hf
  | bool b=>rw [hv.fB];simp [bU]
  | int k x=>rw [hv.dK];simp [bU]
  | str s=>rw [hv.iw];simp [bU]
  | dH=>cases hv;simp [bU]
  | aZ=>cases hv;simp [bU]
  | dA=>cases hv;simp [bU]
  | dG=>cases hv;simp [bU]
  | ro z es ex=>rcases hv.lH with ⟨rfl,rfl⟩ | ⟨es',ex',rfl,_,_,_⟩ <;> simp [bU]
  | rop cs=>obtain ⟨cs',rfl,_⟩:=hv.qZ;simp [bU]
  | ptr b i o=>simp [bU] at hp
  | map b=>simp [bU] at hp
  | sl b z i len cap ex =>
   rcases hv.jD with ⟨_,_,ex',rfl,_⟩ | ⟨_,_,rfl,rfl,rfl,hu⟩
   · simp [bU]
   · rcases hu with rfl | rfl <;> simp [bU]
  | fn f cs =>
   obtain ⟨cs',rfl,hr⟩:=hv.yK
   simp only [bM] at hf
   obtain ⟨r,h1,rfl⟩:=aA hf
   simp only [bU] at hp ⊢
   exact lst cs cs' r hr h1 hp
  | agg cs =>
   obtain ⟨cs',rfl,hr⟩:=hv.mg
   simp only [bM] at hf
   obtain ⟨r,h1,rfl⟩:=aA hf
   simp only [bU] at hp ⊢
   exact lst cs cs' r hr h1 hp
  | tup cs =>
   obtain ⟨cs',rfl,hr⟩:=hv.sS
   simp only [bM] at hf
   obtain ⟨r,h1,rfl⟩:=aA hf
   simp only [bU] at hp ⊢
   exact lst cs cs' r hr h1 hp
theorem VT {n:Nat}:∀ (l l' r:List AV),bf (VW ρ V A) l l'→bn (bM h n) l=some r→bQ l=false→bQ l'=false:=by
 intro l
 induction l with
 | nil=>intro l' r hr _ _;rw [hr.dV];rfl
 | cons a l ihl =>
  intro l' r hr hm hp
  obtain ⟨b,t,rfl,h1,h2⟩:=hr.dw
  simp only [bn] at hm
  obtain ⟨x,h3,hm⟩:=au hm
  obtain ⟨xs,h4,rfl⟩:=aA hm
  simp only [bQ,Bool.or_eq_false_iff] at hp ⊢
  exact ⟨Zh n a b x h1 h3 hp.1,ihl t xs h2 h4 hp.2⟩
theorem Qe (hr:uO run run') {f:Nat} {az az':List AV} {v:AV} (ha:bf (VD ρ V) az az') (hp:jo run f az=some v):∃ v',qQ run' f az'=some v'∧VD ρ V v v':=by
 obtain ⟨⟨v0,h0,n0⟩,h1,h2⟩:=au hp
 obtain ⟨v',h1',m1,ρ',V',A',r1,r2,r3,_⟩:=hr f az [] 0 v0 h0 n0 h1 ρ (fun _=>False) (fun _=>False) az' [] 0 (ha.mono fun x x' _ hx=>hx.data)
  ⟨fun b o hb=>by simp [Pav.get] at hb,fun b o hb=>by simp [Pav.get] at hb,fun b o hb=>by simp [Pav.get] at hb,fun b hb=>hb.elim,fun b c hb=>hb.elim⟩ ⟨fun b hb=>hb.elim,fun b hb=>hb.elim⟩
 obtain ⟨u',r4,r5⟩:=GX r3 _ _ _ _ r2 h2
 exact ⟨u',by unfold qQ;rw [r1];exact r4,r5.data⟩
theorem qw:∀ (u v:dP) (h:aJ),bK h (u++v)=bK (bK h u) v:=by
 intro u
 induction u with
 | nil=>intro v h;rfl
 | cons x u ih=>intro v h;obtain ⟨b,o⟩:=x;simp only [List.cons_append,bK];exact ih v _
theorem adg (H:HW ρ V A h h') {nid:Nat} (hn:¬ A nid) (mid z:Nat) (mu dt:Bool):HW (up ρ nid mid) (addN V nid) (addN A nid) (put h nid (.cells z [] mu dt)) h':=by
 have hold:∀ b,A b→addN A nid b∧up ρ nid mid b=ρ b∧(addN V nid b↔V b):=by
  intro b hb
  have hne:b≠nid:=fun e=>hn (e ▸ hb)
  refine ⟨.inl hb,by simp [up,hne],⟨fun q=>?_,fun q=>.inl q⟩⟩
  rcases q with q | q
  · exact q
  · exact absurd q hne
 constructor
 · intro b o hb
   rw [get_put] at hb
   split at hb
   · rename_i e;exact .inr e.symm
   · exact .inl (H.dom b o hb)
 · intro b o hb hv
   rw [get_put] at hb
   split at hb
   · cases hb;exact ⟨z,mu,dt,rfl⟩
   · rename_i e
     rcases hv with q | q
     · exact H.qM b o hb q
     · exact absurd q.symm e
 · intro b o hb hv
   rw [get_put] at hb
   split at hb
   · rename_i e;exact absurd (.inr e.symm) hv
   · have hA:=H.dom b o hb
     obtain ⟨_,q2,q3⟩:=hold b hA
     obtain ⟨o',r1,r2⟩:=H.obj b o hb fun q=>hv (.inl q)
     refine ⟨o',by rw [q2];exact r1,r2.mono hold⟩
 · rintro b (q | q)
   · exact .inl (H.sub b q)
   · exact .inr q
 · rintro b c (hb | hb) (hc | hc) h1 h2 he
   · obtain ⟨_,p2,_⟩:=hold b hb
     obtain ⟨_,q2,_⟩:=hold c hc
     rw [p2,q2] at he
     exact H.inj b c hb hc (fun q=>h1 (.inl q)) (fun q=>h2 (.inl q)) he
   · exact absurd (.inr hc) h2
   · exact absurd (.inr hb) h1
   · exact hb.trans hc.symm
theorem ZP (n b:Nat):∀ (h1 h:aJ),get (bK h (DF n h1)) b=if n≤b then (match get h1 b with | some o=>some o | none=>get h b) else get h b:=by
 intro h1
 induction h1 with
 | nil=>intro h;simp [DF,bK,Pav.get]
 | cons x r ih =>
  intro h
  obtain ⟨c,o⟩:=x
  by_cases hc:n≤c
  · have e:DF n ((c,o)::r)=DF n r++[(c,some o)]:=by simp [DF,hc]
    rw [e,qw]
    simp only [bK,Eo,get_put,Pav.get]
    by_cases q:c=b
    · subst q;simp [hc]
    · simp only [if_neg q];exact ih h
  · have e:DF n ((c,o)::r)=DF n r:=by simp [DF,hc]
    rw [e,ih h]
    simp only [Pav.get]
    by_cases q:c=b
    · subst q;simp [hc]
    · simp only [if_neg q]
theorem HW.union {ρ1:Nat→Nat} {V1 A1:Nat→Prop} {h1:aJ} {h1':Heap} (H:HW ρ V A h h') (H1:HW ρ1 V1 A1 h1 h1') (hA:∀ b,A b→b < n) (hA1:∀ b,A1 b→n≤b) (hp:∀ b,A b→¬ V b→ρ b < m) {m1:Nat} (hp1:∀ b,A1 b→¬ V1 b→m≤ρ1 b∧ρ1 b < m1) :
 Keeps ρ V A (fun b=>if n≤b then ρ1 b else ρ b) (fun b=>V b∨V1 b) (fun b=>A b∨A1 b)∧Keeps ρ1 V1 A1 (fun b=>if n≤b then ρ1 b else ρ b) (fun b=>V b∨V1 b) (fun b=>A b∨A1 b) ∧
 HW (fun b=>if n≤b then ρ1 b else ρ b) (fun b=>V b∨V1 b) (fun b=>A b∨A1 b) (bK h (DF n h1)) (aO h' (ups m m1 h1')):=by
 have k:Keeps ρ V A (fun b=>if n≤b then ρ1 b else ρ b) (fun b=>V b∨V1 b) (fun b=>A b∨A1 b):=fun b hb=>by
  have:=hA b hb
  exact ⟨.inl hb,if_neg (by omega),⟨fun q=>q.elim id fun q=>by have:=hA1 b (H1.sub b q);omega,.inl⟩⟩
 have k1:Keeps ρ1 V1 A1 (fun b=>if n≤b then ρ1 b else ρ b) (fun b=>V b∨V1 b) (fun b=>A b∨A1 b):=fun b hb=>by
  have:=hA1 b hb
  exact ⟨.inr hb,if_pos this,⟨fun q=>q.elim (fun q=>by have:=hA b (H.sub b q);omega) id,.inr⟩⟩
 have key:∀ b o,get (bK h (DF n h1)) b=some o→(get h1 b=some o∧n≤b)∨(get h b=some o∧¬ n≤b):=by
  intro b o hb
  rw [ZP] at hb
  by_cases q:n≤b
  · rw [if_pos q] at hb
    cases hq:get h1 b with
    | some o1=>rw [hq] at hb;cases hb;exact .inl ⟨rfl,q⟩
    | none=>rw [hq] at hb;exact .inr ⟨hb,by have:=hA b (H.dom b _ hb);omega⟩
  · rw [if_neg q] at hb;exact .inr ⟨hb,q⟩
 refine ⟨k,k1,?_,?_,?_,?_,?_⟩
 · intro b o hb
   rcases key b o hb with ⟨q,_⟩ | ⟨q,_⟩
   · exact .inr (H1.dom b o q)
   · exact .inl (H.dom b o q)
 · intro b o hb hv
   rcases key b o hb with ⟨q,q2⟩ | ⟨q,q2⟩
   · exact H1.qM b o q ((k1 b (H1.dom b o q)).2.2.1 hv)
   · exact H.qM b o q ((k b (H.dom b o q)).2.2.1 hv)
 · intro b o hb hv
   rcases key b o hb with ⟨q,q2⟩ | ⟨q,q2⟩
   · have hA':=H1.dom b o q
     have hv':¬ V1 b:=fun p=>hv (.inr p)
     obtain ⟨o',e1,e2⟩:=H1.obj b o q hv'
     refine ⟨o',?_,e2.mono k1⟩
     rw [Np]
     simp only [if_pos q2]
     rw [if_pos (hp1 b hA' hv'),e1]
   · have hA':=H.dom b o q
     have hv':¬ V b:=fun p=>hv (.inl p)
     obtain ⟨o',e1,e2⟩:=H.obj b o q hv'
     refine ⟨o',?_,e2.mono k⟩
     rw [Np]
     simp only [if_neg q2]
     rw [if_neg (by have:=hp b hA' hv';omega)]
     exact e1
 · rintro b (q | q)
   · exact .inl (H.sub b q)
   · exact .inr (H1.sub b q)
 · have f0:∀ b,A b→(if n≤b then ρ1 b else ρ b)=ρ b:=fun b hb=>(k b hb).2.1
   have f1:∀ b,A1 b→(if n≤b then ρ1 b else ρ b)=ρ1 b:=fun b hb=>(k1 b hb).2.1
   rintro b c (hb | hb) (hc | hc) g1 g2 he
   · rw [f0 b hb,f0 c hc] at he
     exact H.inj b c hb hc (fun q=>g1 (.inl q)) (fun q=>g2 (.inl q)) he
   · rw [f0 b hb,f1 c hc] at he
     have h1:=hp b hb (fun q=>g1 (.inl q))
     have h2:=(hp1 c hc (fun q=>g2 (.inr q))).1
     omega
   · rw [f1 b hb,f0 c hc] at he
     have h1:=(hp1 b hb (fun q=>g1 (.inr q))).1
     have h2:=hp c hc (fun q=>g2 (.inl q))
     omega
   · rw [f1 b hb,f1 c hc] at he
     exact H1.inj b c hb hc (fun q=>g1 (.inr q)) (fun q=>g2 (.inr q)) he
theorem aaJ (hr:uO run run') (H:HW ρ V A h h') (lt:Lts ρ V A n m) {nid mid:Nat} (hn:¬ A nid) (hnl:nid < n) (hm:∀ b,A b→¬ V b→ρ b≠mid) (hml:mid < m) {f:Nat} {args args':List AV} (ha:bf (VW ρ V A) args args') {c:xO} (hc:jm C run f args h nid n=some c) :
 ∃ c' ρ' V' A',je (eu C) run' f args' h' mid m=some c'∧PE ρ V A nid n mid m (iJ h n args c) (bT h' m args' c') ρ' V' A':=by
 have whole:∀ {r:AV × aJ × Nat},run f args h n=some r→∃ r' ρ' V' A',run' f args' h' m=some r'∧PE ρ V A nid n mid m (iJ h n args (.whole r.1 r.2.1 r.2.2)) (bT h' m args' (.whole r'.1 r'.2.1 r'.2.2)) ρ' V' A':=by
  rintro ⟨v,h1,n1⟩ hrun
  obtain ⟨v',h1',m1,ρ',V',A',r1,r2,r3,r4,r5,r6,r7,r8,r9⟩:=hr f args h n v h1 n1 hrun ρ V A args' h' m ha H lt
  refine ⟨(v',h1',m1),ρ',V',A',r1,r2,r3,r5,fun b hb=>?_,fun b hb hv=>?_,r4,r8,r9,fun _=>⟨rfl,rfl⟩,fun b hb=>by simp [bT] at hb,fun b hb=>by simp [bT] at hb⟩
  · rcases r6 b hb with q | q
    · exact .inl q
    · exact .inr (.inr q)
  · rcases r7 b hb hv with q | q
    · exact .inl q
    · exact .inr (.inr q)
 unfold jm at hc
 split at hc
 · rename_i hi
   split at hc
   · rename_i hfr
     obtain ⟨az,h1,h2⟩:=au hc
     have hreach:∀ b' ∈ args'.flatMap (reach h' ay),∃ b ∈ args.flatMap (aN h ay),b'=ρ b∧¬ V b∧A b∧∃ z es mu dt,get h b=some (.cells z es mu dt):=by
      intro b' hb'
      simp only [List.mem_flatMap] at hb' ⊢
      obtain ⟨u,hu,hb'⟩:=hb'
      obtain ⟨j,hj,q1⟩:=List.getElem_of_mem hu
      obtain ⟨x,q2,q3⟩:=ha.get' (List.getElem?_eq_getElem hj)
      rw [q1] at q3
      obtain ⟨x',_,q4⟩:=(bY h1).2 j x q2
      obtain ⟨b,q5,q6⟩:=Gq H ay x u x' q3 q4 b' hb'
      exact ⟨b,⟨x,List.mem_of_getElem? q2,q5⟩,q6⟩
     by_cases hdp:rV f=true
     · rw [if_pos hdp] at h2
       obtain ⟨⟨v0,h0,n0⟩,hrun,h2⟩:=au h2
       obtain ⟨hk,h2k,rfl⟩:=aA h2
       clear h2
       obtain ⟨az',h4,h5⟩:=fV (fun x y hxy x' hx'=>GX H ay x y x' hxy hx') ha h1
       obtain ⟨v0',h0',m0,ρ1,V1,A1,r1,r2,r3,r4,r5,r6,r7,r8,r9⟩:=hr f az [] n v0 h0 n0 hrun ρ (fun _=>False) (fun _=>False) az' [] m (h5.mono fun x x' _ hx=>hx.data)
        ⟨fun b o hb=>by simp [Pav.get] at hb,fun b o hb=>by simp [Pav.get] at hb,fun b o hb=>by simp [Pav.get] at hb,fun b hb=>hb.elim,fun b c hb=>hb.elim⟩ ⟨fun b hb=>hb.elim,fun b hb=>hb.elim⟩
       unfold wS at h2k
       unfold Nq
       by_cases hdb:yL f=true
       · rw [if_pos hdb] at h2k ⊢
         split at h2k
         case isFalse=>cases h2k
         rename_i hkW
         obtain rfl:=Option.some.inj h2k
         simp only at hkW ⊢
         have hLL:=fun b hb hV=>Ir r3 ay v0 v0' r2 b hb hV
         have hkx:=Zu r3 ay r2 hkW
         simp only [oq,Bool.and_eq_true,List.all_eq_true] at hkW
         have r3k:=r3.keep (L':=reach h0' ay v0') hkW.2 hLL
         have r2k:=Vu r2 hkW.1
         have hA1:∀ b,A1 b∧b ∈ aN h0 ay v0→n≤b:=fun b hb=>(r6 b hb.1).elim (fun q=>q.elim) id
         have hp1:∀ b,A1 b∧b ∈ aN h0 ay v0→¬ (V1 b∧b ∈ aN h0 ay v0)→m≤ρ1 b∧ρ1 b < m0:=fun b hb hv=>⟨(r7 b hb.1 fun q=>hv ⟨q,hb.2⟩).elim (fun q=>q.1.elim) id,r4.p b hb.1 fun q=>hv ⟨q,hb.2⟩⟩
         obtain ⟨u1,u2,u3⟩:=H.union r3k lt.w hA1 lt.p hp1
         refine ⟨.deep v0' (ups m m0 (h0'.filter fun x=>(reach h0' ay v0').contains x.1)) m0,(fun b=>if n≤b then ρ1 b else ρ b),(fun b=>V b∨(V1 b∧b ∈ aN h0 ay v0)),(fun b=>A b∨(A1 b∧b ∈ aN h0 ay v0)),?_,?_⟩
         · simp only [je,eu,hi,Bool.true_or,if_true,hdp,Bool.and_self,h4,ob,qP,r1,om,uq,OY,if_pos hdb,hkx,List.nil_append]
         · have f0:∀ b,A b→(if n≤b then ρ1 b else ρ b)=ρ b:=fun b hb=>(u1 b hb).2.1
           have f1:∀ b,A1 b∧b ∈ aN h0 ay v0→(if n≤b then ρ1 b else ρ b)=ρ1 b:=fun b hb=>(u2 b hb).2.1
           simp only [iJ,bT]
           refine ⟨r2k.mono u2,u3,u1,?_,?_,⟨?_,?_⟩,r8,r9,fun q=>(by cases q),?_,?_⟩
           · rintro b (hb | hb)
             · exact .inl hb
             · exact .inr (.inr (hA1 b hb))
           · rintro b (hb | hb) hv
             · exact .inl ⟨hb,(u1 b hb).2.1⟩
             · refine .inr (.inr ?_)
               simp only [f1 b hb]
               exact (hp1 b hb fun q=>hv (.inr q)).1
           · rintro b (hb | hb)
             · exact Nat.lt_of_lt_of_le (lt.w b hb) r8
             · exact r4.w b hb.1
           · rintro b (hb | hb) hv
             · simp only [f0 b hb]
               exact Nat.lt_of_lt_of_le (lt.p b hb fun q=>hv (.inl q)) r9
             · simp only [f1 b hb]
               exact (hp1 b hb fun q=>hv (.inr q)).2
           · intro b' hb'
             obtain ⟨b,q1,q2,q3,q4,_⟩:=hreach b' hb'
             exact ⟨b,q1,by simp only [f0 b q4];exact q2,fun q=>q3 ((u1 b q4).2.2.1 q),.inl q4⟩
           · intro b' hb'
             refine .inr ⟨n,_,rfl,rfl,?_,?_,?_⟩
             · simp only [ups,List.map_reverse,List.mem_reverse,List.mem_map,List.mem_filter,decide_eq_true_eq] at hb'
               obtain ⟨_,⟨x,⟨_,q⟩,rfl⟩,rfl⟩:=hb'
               exact q.1
             · simp only [ups,List.map_reverse,List.mem_reverse,List.mem_map,List.mem_filter,decide_eq_true_eq] at hb'
               obtain ⟨_,⟨x,⟨_,q⟩,rfl⟩,rfl⟩:=hb'
               exact q.2
             · rintro c (hc | hc) hv he
               · simp only [f0 c hc] at he
                 have h1:=lt.p c hc fun q=>hv (.inl q)
                 have h2:m≤b':=by
                  simp only [ups,List.map_reverse,List.mem_reverse,List.mem_map,List.mem_filter,decide_eq_true_eq] at hb'
                  obtain ⟨_,⟨x,⟨_,q⟩,rfl⟩,rfl⟩:=hb'
                  exact q.1
                 omega
               · exact hA1 c hc
       · rw [if_neg hdb] at h2k ⊢
         obtain rfl:=Option.some.inj h2k
         simp only at *
         obtain ⟨k1,k2⟩:=uN H _ _ hreach
         have hA1:∀ b,A1 b→n≤b:=fun b hb=>(r6 b hb).elim (fun q=>q.elim) id
         have hp1:∀ b,A1 b→¬ V1 b→m≤ρ1 b∧ρ1 b < m0:=fun b hb hv=>⟨(r7 b hb hv).elim (fun q=>q.1.elim) id,r4.p b hb hv⟩
         obtain ⟨u1,u2,u3⟩:=k1.union r3 lt.w hA1 lt.p hp1
         refine ⟨.deep v0' (aT h' (args'.flatMap (reach h' ay))++ups m m0 h0') m0,(fun b=>if n≤b then ρ1 b else ρ b),(fun b=>V b∨V1 b),(fun b=>A b∨A1 b),?_,?_⟩
         · simp only [je,eu,hi,Bool.true_or,if_true,hdp,Bool.and_self,h4,ob,qP,r1,om,uq,OY,if_neg hdb]
         · have f0:∀ b,A b→(if n≤b then ρ1 b else ρ b)=ρ b:=fun b hb=>(u1 b hb).2.1
           have f1:∀ b,A1 b→(if n≤b then ρ1 b else ρ b)=ρ1 b:=fun b hb=>(u2 b hb).2.1
           simp only [iJ,bT]
           refine ⟨r2.mono u2,by rw [iG];exact u3,u1,?_,?_,⟨?_,?_⟩,r8,r9,fun q=>(by cases q),?_,?_⟩
           · rintro b (hb | hb)
             · exact .inl hb
             · exact .inr (.inr (hA1 b hb))
           · rintro b (hb | hb) hv
             · exact .inl ⟨hb,(u1 b hb).2.1⟩
             · refine .inr (.inr ?_)
               simp only [f1 b hb]
               exact (hp1 b hb fun q=>hv (.inr q)).1
           · rintro b (hb | hb)
             · exact Nat.lt_of_lt_of_le (lt.w b hb) r8
             · exact r4.w b hb
           · rintro b (hb | hb) hv
             · simp only [f0 b hb]
               exact Nat.lt_of_lt_of_le (lt.p b hb fun q=>hv (.inl q)) r9
             · simp only [f1 b hb]
               exact r4.p b hb fun q=>hv (.inr q)
           · intro b' hb'
             obtain ⟨b,q1,q2,q3,q4,_⟩:=hreach b' hb'
             exact ⟨b,q1,by simp only [f0 b q4];exact q2,fun q=>q3 ((u1 b q4).2.2.1 q),.inl q4⟩
           · intro b' hb'
             rw [List.map_append] at hb'
             rcases List.mem_append.1 hb' with hb' | hb'
             · obtain ⟨c,s1,s2,s3,s4⟩:=k2 b' hb'
               exact .inl ⟨c,s1,by simp only [f0 c s4];exact s2,fun q=>s3 ((u1 c s4).2.2.1 q),.inl s4⟩
             · refine .inr ⟨n,_,rfl,rfl,?_,?_,?_⟩
               · simp only [ups,List.map_reverse,List.mem_reverse,List.mem_map,List.mem_filter,decide_eq_true_eq] at hb'
                 obtain ⟨_,⟨x,⟨_,q⟩,rfl⟩,rfl⟩:=hb'
                 exact q.1
               · simp only [ups,List.map_reverse,List.mem_reverse,List.mem_map,List.mem_filter,decide_eq_true_eq] at hb'
                 obtain ⟨_,⟨x,⟨_,q⟩,rfl⟩,rfl⟩:=hb'
                 exact q.2
               · rintro c (hc | hc) hv he
                 · simp only [f0 c hc] at he
                   have h1:=lt.p c hc fun q=>hv (.inl q)
                   have h2:m≤b':=by
                    simp only [ups,List.map_reverse,List.mem_reverse,List.mem_map,List.mem_filter,decide_eq_true_eq] at hb'
                    obtain ⟨_,⟨x,⟨_,q⟩,rfl⟩,rfl⟩:=hb'
                    exact q.1
                   omega
                 · exact hA1 c hc
     rw [if_neg hdp] at h2
     obtain ⟨x,h3,hend⟩:=au h2
     unfold xP at hend
     split at hend
     · cases hend
     rename_i hbr0
     cases hend
     have hbr:ru f=true→mP x=true:=by
      intro hb
      simpa [hb] using hbr0
     obtain ⟨az',h4,h5⟩:=fV (fun x y hxy x' hx'=>GX H ay x y x' hxy hx') ha h1
     obtain ⟨⟨v0,h0,n0⟩,hrun,hx⟩:=au h3
     obtain ⟨v0',h0',m0,ρ1,V1,A1,r1,r2,r3,r4,_⟩:=hr f az [] 0 v0 h0 n0 hrun ρ (fun _=>False) (fun _=>False) az' [] 0 (h5.mono fun x x' _ hx=>hx.data)
      ⟨fun b o hb=>by simp [Pav.get] at hb,fun b o hb=>by simp [Pav.get] at hb,fun b o hb=>by simp [Pav.get] at hb,fun b hb=>hb.elim,fun b c hb=>hb.elim⟩ ⟨fun b hb=>hb.elim,fun b hb=>hb.elim⟩
     have hmk:HW ρ V A (bK h (wU f (aY h (args.flatMap (aN h ay))))) (aO h' (Bo f (aT h' (args'.flatMap (reach h' ay))))) ∧
      ∀ b' ∈ (Bo f (aT h' (args'.flatMap (reach h' ay)))).map (·.1),∃ b ∈ (wU f (aY h (args.flatMap (aN h ay)))).map (·.1),b'=ρ b∧¬ V b∧A b:=by
      unfold Bo wU
      split
      · exact ⟨H,fun b hb=>by simp at hb⟩
      · exact uN H _ _ hreach
     obtain ⟨k1,k2⟩:=hmk
     have hgo:∀ {x':AV × Upd},iI run' f az' mid=some x'→(ru f=true→tY x'=true)→je (eu C) run' f args' h' mid m=some (.data x'.1 (Bo f (aT h' (args'.flatMap (reach h' ay)))++x'.2)):=by
      intro x' hx' hb'
      have hb2:(ru f&&!tY x')=false:=by
       cases hq:ru f with
       | false=>rfl
       | true=>simp [hb' hq]
      have hdp':rV f=false:=by simpa using hdp
      simp only [je,eu,hi,Bool.true_or,if_true,hfr,hdp',Bool.and_self,Bool.and_false,h4,hx',ob,yQ,hb2,Bool.false_eq_true,if_false]
     have rdOk:∀ {ρ':Nat→Nat} {V' A':Nat→Prop},(∀ b,A b→A' b∧ρ' b=ρ b∧(V' b↔V b))→∀ b' ∈ args'.flatMap (reach h' ay),∃ c ∈ args.flatMap (aN h ay),b'=ρ' c∧¬ V' c∧A' c:=by
      intro ρ' V' A' hk b' hb'
      obtain ⟨b,q1,q2,q3,q4,_⟩:=hreach b' hb'
      obtain ⟨s1,s2,s3⟩:=hk b q4
      exact ⟨b,q1,by rw [s2];exact q2,fun q=>q3 (s3.1 q),s1⟩
     have hold2:∀ b,A b→addN A nid b∧up ρ nid mid b=ρ b∧(addN V nid b↔V b):=by
      intro b hb
      have hne:b≠nid:=fun e=>hn (e ▸ hb)
      refine ⟨.inl hb,by simp [up,hne],⟨fun q=>?_,fun q=>.inl q⟩⟩
      rcases q with q | q
      · exact q
      · exact absurd q hne
     have hold1:∀ b,A b→addN A nid b∧up ρ nid mid b=ρ b∧(V b↔V b):=pG hn
     have hVn:¬ V nid:=fun q=>hn (H.sub nid q)
     simp only at hx
     split at hx
     · rename_i hown
       obtain ⟨v,h6,rfl⟩:=aA hx
       have hnA:¬ A1 n0:=fun q=>Nat.lt_irrefl _ (r4.w n0 q)
       obtain ⟨u',q1,q2⟩:=KG (ρ2:=ρ) (V2:=V) (A2:=A) (b':=m0) (mid:=0) (fun q=>absurd q hnA) r2 v h6
       have q3:=Vy (fun q=>absurd q hnA) r2 v h6
       have hfc:iI run' f az' mid=some (u',[]):=by
        unfold iI
        rw [r1]
        simp only [ob,q3,q1,om]
       have hbx:ru f=true→tY (u',([]:Upd))=true:=by
        intro hb
        have:=hbr hb
        simp only [mP,tY,List.all_nil,Bool.and_true] at this ⊢
        exact Ee q2 this
       refine ⟨_,ρ,V,A,hgo hfc hbx,?_⟩
       simp only [iJ,bT,List.append_nil]
       exact ⟨q2,k1,Keeps.refl ρ V A,fun b hb=>.inl hb,fun b hb _=>.inl ⟨hb,rfl⟩,lt,Nat.le_refl _,Nat.le_refl _,fun q=>(by cases q),rdOk fun b hb=>⟨hb,rfl,Iff.rfl⟩,fun b hb=>.inl (k2 b hb)⟩
     · rename_i b hown
       unfold OA at hx
       split at hx
       · rename_i z es mu dt hg
         split at hx
         · rename_i hmd
           obtain ⟨v,h6,rfl⟩:=aA hx
           simp only [Bool.and_eq_true] at hmd
           obtain ⟨rfl,rfl⟩:=hmd
           have hA1:A1 b:=r3.dom b _ hg
           by_cases hV1:V1 b
           · obtain ⟨z',mu',dt',e⟩:=r3.qM b _ hg hV1
             cases e
             obtain ⟨u',q1,q2⟩:=KG (ρ2:=up ρ nid mid) (V2:=addN V nid) (A2:=addN A nid) (b':=m0) (mid:=0) (fun _=>.inr ⟨hV1,.inr rfl,.inr rfl⟩) r2 v h6
             have q3:=Vy (fun _=>hV1) r2 v h6
             have hfc:iI run' f az' mid=some (u',[]):=by
              unfold iI
              rw [r1]
              simp only [ob,q3,q1,om]
             have hbx:ru f=true→tY (u',([]:Upd))=true:=by
              intro hb
              have:=hbr hb
              simp only [mP,tY,List.all_nil,Bool.and_true,Bool.and_eq_true] at this ⊢
              exact Ee q2 this.1
             refine ⟨_,up ρ nid mid,addN V nid,addN A nid,hgo hfc hbx,?_⟩
             simp only [iJ,bT,List.append_nil]
             refine ⟨q2,?_,hold2,?_,?_,⟨?_,?_⟩,Nat.le_refl _,Nat.le_refl _,fun q=>(by cases q),rdOk hold2,?_⟩
             · rw [qw]
               exact adg k1 hn mid z true true
             · rintro c (hc | hc)
               · exact .inl hc
               · exact .inr (.inl hc)
             · rintro c (hc | hc) hv
               · exact .inl ⟨hc,(hold2 c hc).2.1⟩
               · exact absurd (.inr hc) hv
             · rintro c (hc | hc)
               · exact lt.w c hc
               · subst hc;exact hnl
             · rintro c (hc | hc) hv
               · rw [(hold2 c hc).2.1];exact lt.p c hc fun q=>hv (.inl q)
               · exact absurd (.inr hc) hv
             · intro b' hb'
               obtain ⟨c,s1,s2,s3,s4⟩:=k2 b' hb'
               obtain ⟨t1,t2,t3⟩:=hold2 c s4
               exact .inl ⟨c,by simp only [SG];rw [List.map_append];exact List.mem_append_left _ s1,by rw [t2];exact s2,fun q=>s3 (t3.1 q),t1⟩
           · obtain ⟨o',g1,g2⟩:=r3.obj b _ hg hV1
             obtain ⟨es',mu',rfl,e1,e2,e3⟩:=g2
             have hmu:=e1 rfl
             subst hmu
             obtain ⟨u',q1,q2⟩:=KG (ρ2:=up ρ nid mid) (V2:=V) (A2:=addN A nid) (b':=ρ1 b) (mid:=mid) (fun _=>.inl ⟨hV1,rfl,.inr rfl,hVn,by simp [up]⟩) r2 v h6
             have q3:oU v0'=some (ρ1 b):=by
              rcases ah9 hA1 hV1 r2 v h6 with ⟨s1,_⟩ | ⟨_,s2⟩
              · rw [hown] at s1;cases s1
              · exact s2
             have hcells:bf (bf (VW (up ρ nid mid) V (addN A nid))) es es':=e2.mono fun e e' he hee=>hee.mono fun x x' hx hxx=>hxx.isC (e3 rfl e he x hx)
             have hpl:(es'.all fun e=>e.all lS)=true:=by
              rw [List.all_eq_true]
              intro e' he'
              rw [List.all_eq_true]
              intro x' hx'
              obtain ⟨j,hj,p1⟩:=List.getElem_of_mem he'
              obtain ⟨e,p2,p3⟩:=e2.get' (List.getElem?_eq_getElem hj)
              rw [p1] at p3
              obtain ⟨k,hk,p4⟩:=List.getElem_of_mem hx'
              obtain ⟨x,p5,p6⟩:=p3.get' (List.getElem?_eq_getElem hk)
              rw [p4] at p6
              exact Xo p6 (e3 rfl e (List.mem_of_getElem? p2) x (List.mem_of_getElem? p5))
             have hfc:iI run' f az' mid=some (u',[(mid,some (.cells z es' true))]):=by
              unfold iI
              rw [r1]
              simp only [ob,q3,g1,EC,hpl,Bool.and_self,if_true,q1,om]
             have hbx:ru f=true→tY (u',[(mid,some (.cells z es' true))])=true:=by
              intro hb
              have:=hbr hb
              simp only [mP,tY,List.all_nil,List.all_cons,SX,aam,Bool.and_true,Bool.and_eq_true] at this ⊢
              refine ⟨Ee q2 this.1,?_⟩
              rw [List.all_eq_true]
              intro e' he'
              obtain ⟨j,hj,p1⟩:=List.getElem_of_mem he'
              obtain ⟨e,p2,p3⟩:=e2.get' (List.getElem?_eq_getElem hj)
              rw [p1] at p3
              exact abp p3 (List.all_eq_true.1 this.2 e (List.mem_of_getElem? p2))
             refine ⟨_,up ρ nid mid,V,addN A nid,hgo hfc hbx,?_⟩
             simp only [iJ,bT]
             refine ⟨q2,?_,hold1,?_,?_,⟨?_,?_⟩,Nat.le_refl _,Nat.le_refl _,fun q=>(by cases q),rdOk hold1,?_⟩
             · rw [qw,iG]
               exact nV k1 hn hm ⟨es',true,rfl,fun _=>rfl,hcells,e3⟩
             · rintro c (hc | hc)
               · exact .inl hc
               · exact .inr (.inl hc)
             · rintro c (hc | hc) hv
               · exact .inl ⟨hc,(hold1 c hc).2.1⟩
               · subst hc;exact .inr (.inl (by simp [up]))
             · rintro c (hc | hc)
               · exact lt.w c hc
               · subst hc;exact hnl
             · rintro c (hc | hc) hv
               · rw [(hold1 c hc).2.1];exact lt.p c hc hv
               · subst hc;simp only [up,if_true];exact hml
             · intro b' hb'
               rw [List.map_append] at hb'
               rcases List.mem_append.1 hb' with hb' | hb'
               · obtain ⟨c,s1,s2,s3,s4⟩:=k2 b' hb'
                 obtain ⟨t1,t2,t3⟩:=hold1 c s4
                 exact .inl ⟨c,by simp only [SG];rw [List.map_append];exact List.mem_append_left _ s1,by rw [t2];exact s2,s3,t1⟩
               · simp only [List.map_cons,List.map_nil,List.mem_singleton] at hb'
                 subst hb'
                 exact .inl ⟨nid,by simp only [SG];rw [List.map_append];exact List.mem_append_right _ (by simp),by simp [up],hVn,.inr rfl⟩
         · cases hx
       · cases hx
   · rename_i hfr
     obtain ⟨r,h1,rfl⟩:=aA hc
     obtain ⟨r',ρ',V',A',r1,r2⟩:=whole h1
     refine ⟨_,ρ',V',A',?_,r2⟩
     have hfr:JA f=false:=by simpa using hfr
     have hdp':rV f=false:=by
      unfold JA at hfr
      unfold rV
      have:=of_decide_eq_false hfr
      exact decide_eq_false (by omega)
     simp only [je,eu,hi,Bool.true_or,if_true,hfr,hdp',Bool.and_false,Bool.false_eq_true,if_false,sH,r1,om,tidy]
 · rename_i hi
   have hi:C.inl f=false:=by simpa using hi
   split at hc
   · rename_i hp
     obtain ⟨r,h1,rfl⟩:=aA hc
     obtain ⟨r',ρ',V',A',r1,r2⟩:=whole h1
     refine ⟨_,ρ',V',A',?_,r2⟩
     simp only [Bool.and_eq_true,Bool.not_eq_true'] at hp
     simp only [je,eu,hi,hp.1,Ry args hp.2 args' ha,Bool.false_or,Bool.not_false,Bool.and_self,if_true,Bool.false_and,Bool.false_eq_true,if_false,sH,r1,om,tidy]
   · rename_i hp
     obtain ⟨az,h1,h2⟩:=au hc
     obtain ⟨v,h3,rfl⟩:=aA h2
     have hp':(!C.pp f&&bQ args')=false:=by
      cases hpp:C.pp f with
      | true=>rfl
      | false =>
       rw [hpp] at hp
       have h0:bQ args=false:=by simpa using hp
       rw [VT args args' az ha h1 h0];rfl
     obtain ⟨az',h4,h5⟩:=fV (fun x y hxy x' hx'=>GX H ay x y x' hxy hx') ha h1
     obtain ⟨v',h6,h7⟩:=Qe hr h5 h3
     have hreach:∀ b' ∈ args'.flatMap (reach h' ay),∃ b ∈ args.flatMap (aN h ay),b'=ρ b∧¬ V b∧A b∧∃ z es mu dt,get h b=some (.cells z es mu dt):=by
      intro b' hb'
      simp only [List.mem_flatMap] at hb' ⊢
      obtain ⟨u,hu,hb'⟩:=hb'
      obtain ⟨j,hj,q1⟩:=List.getElem_of_mem hu
      obtain ⟨x,q2,q3⟩:=ha.get' (List.getElem?_eq_getElem hj)
      rw [q1] at q3
      obtain ⟨x',_,q4⟩:=(bY h1).2 j x q2
      obtain ⟨b,q5,q6⟩:=Gq H ay x u x' q3 q4 b' hb'
      exact ⟨b,⟨x,List.mem_of_getElem? q2,q5⟩,q6⟩
     refine ⟨.data v' (marks h' args' v'),ρ,V,A,by simp only [je,eu,hi,hp',Bool.false_or,Bool.false_eq_true,if_false,h4,h6,om],?_⟩
     have hmarks:HW ρ V A (bK h (oI h args v)) (aO h' (marks h' args' v'))∧∀ b' ∈ (marks h' args' v').map (·.1),∃ b ∈ (oI h args v).map (·.1),b'=ρ b∧¬ V b∧A b:=by
      unfold marks oI
      by_cases hr2:cZ ay v=true
      · rw [if_pos hr2]
        split
        · exact uN H _ _ hreach
        · have:=uN H (args.flatMap (aN h ay)) [] (fun b hb=>by cases hb)
          exact ⟨this.1,fun b hb=>by simp at hb⟩
      · rw [if_neg hr2,if_neg (fun q=>hr2 (VU _ _ _ h7 q))]
        exact ⟨H,fun b hb=>by simp at hb⟩
     refine ⟨h7.mono fun _ q=>q.elim,hmarks.1,Keeps.refl ρ V A,fun b hb=>.inl hb,fun b hb _=>.inl ⟨hb,rfl⟩,lt,Nat.le_refl _,Nat.le_refl _,fun q=>(by cases q),fun b' hb'=>?_,fun b hb=>.inl (hmarks.2 b hb)⟩
     obtain ⟨b,q1,q2,q3,q4,_⟩:=hreach b' hb'
     exact ⟨b,q1,q2,q3,q4⟩
theorem Zf (he:EW ρ V A e e') {xs:List Opd} (hx:xs.all okO=true):bf (VW ρ V A) (xs.map fun x=>x.ev e) ((xs.map erO).map fun x=>x.ev e'):=by
 rw [List.map_map]
 simp only [List.all_eq_true] at hx
 refine ⟨by simp,fun j x x' h1 h2=>?_⟩
 rw [List.getElem?_map] at h1 h2
 cases h3:xs[j]? with
 | none=>rw [h3] at h1;cases h1
 | some c=>rw [h3] at h1 h2;cases h1;cases h2;exact he.opd (hx c (List.mem_of_getElem? h3))
theorem ako (he:EW ρ V A e e') {op:COp} (ho:gB op=true) {r:AV × dP} (hs:stepW op e h n=some r):∀ b' ∈ readsOf e' (fK op),∃ b ∈ readsOf e op,b'=ρ b∧¬ V b∧A b:=by
 have one:∀ {x:Opd},okO x=true→x.ev e≠.undef→∀ b' ∈ dU ((erO x).ev e'),∃ b ∈ dU (x.ev e),b'=ρ b∧¬ V b∧A b:=by
  intro x hx hun b' hb'
  have hv:=he.opd hx
  cases hxe:x.ev e with
  | ptr b i o=>rw [hxe] at hv;obtain ⟨q,h1,h2⟩:=hv.iT;rw [q] at hb';simp [dU] at hb' ⊢;exact ⟨hb',h2,h1⟩
  | map b=>rw [hxe] at hv;obtain ⟨q,h1,h2⟩:=hv.xK;rw [q] at hb';simp [dU] at hb' ⊢;exact ⟨hb',h2,h1⟩
  | sl b z i len cap ex =>
   rw [hxe] at hv
   rcases hv.jD with ⟨h1,h2,ex',q,_⟩ | ⟨_,_,_,_,_,q⟩
   · rw [q] at hb';simp [dU] at hb' ⊢;exact ⟨hb',h2,h1⟩
   · rcases q with q | q <;> rw [q] at hb' <;> simp [dU] at hb'
  | undef=>exact absurd hxe hun
  | ro z es ex =>
   rw [hxe] at hv
   rcases hv.lH with ⟨_,q⟩ | ⟨_,_,q,_⟩ <;> rw [q] at hb' <;> simp [dU] at hb'
  | _=>rw [hxe] at hv;cases hnm:(erO x).ev e' <;> rw [hnm] at hv hb' <;> first | (cases hv;done) | (simp [dU] at hb';done)
 have two:∀ {x y:Opd},okO x=true→okO y=true→x.ev e≠.undef→y.ev e≠.undef→∀ b' ∈ dU ((erO x).ev e')++dU ((erO y).ev e'),∃ b ∈ dU (x.ev e)++dU (y.ev e),b'=ρ b∧¬ V b∧A b:=by
  intro x y hx hy hux huy b' hb'
  rcases List.mem_append.1 hb' with q | q
  · obtain ⟨b,q1,q2⟩:=one hx hux b' q;exact ⟨b,List.mem_append.2 (.inl q1),q2⟩
  · obtain ⟨b,q1,q2⟩:=one hy huy b' q;exact ⟨b,List.mem_append.2 (.inr q1),q2⟩
 have nil:∀ b' ∈ ([]:List Nat),∃ b ∈ readsOf e op,b'=ρ b∧¬ V b∧A b:=fun b' hb'=>by cases hb'
 cases op with
 | load k ag a=>exact one ho (fun q=>by simp [stepW,ZR,ovW,om,zn,q] at hs)
 | gu k x lo hi =>
  simp only [gB,Bool.and_eq_true] at ho
  exact one ho.1 (fun q=>by simp [stepW,Ed,AO,q] at hs)
 | store k a x =>
  simp only [gB,Bool.and_eq_true] at ho
  exact one ho.1 (fun q=>by simp [stepW,Kw,uw,q] at hs)
 | next x=>exact one ho (fun q=>by simp [stepW,VF,q] at hs)
 | len kd x=>exact one ho (fun q=>by simp [stepW,aiL,qH,ovW,om,q] at hs)
 | look kd z ok m k =>
  simp only [gB,Bool.and_eq_true] at ho
  exact one ho.2.1 (fun q=>by simp [stepW,Vf,q] at hs)
 | upd kd m k v =>
  simp only [gB,Bool.and_eq_true] at ho
  exact one ho.1 (fun q=>by simp [stepW,afy,q] at hs)
 | app z bytes zeros s x =>
  simp only [gB,Bool.and_eq_true] at ho
  have hux:x.ev e≠.undef:=fun q=>by simp [stepW,Oz,q,iZ,ob] at hs
  refine two ho.2.1 ho.2.2 (fun q=>?_) hux
  simp only [stepW,Oz,q] at hs
  split at hs
  · split at hs
    · obtain ⟨_,_,hs⟩:=au hs
      split at hs
      · simp [jT] at hs
      · cases hs
    · cases hs
  · obtain ⟨_,_,hs⟩:=au hs
    simp [jT] at hs
 | cpy z d s =>
  simp only [gB,Bool.and_eq_true] at ho
  refine two ho.1 ho.2 (fun q=>?_) (fun q=>by simp [stepW,XP,q,iZ,ob] at hs)
  simp only [stepW,XP,q] at hs
  obtain ⟨_,_,hs⟩:=au hs
  simp [o9] at hs
 | clr z d =>
  simp only [gB,Bool.and_eq_true] at ho
  exact one ho.2 (fun q=>by simp [stepW,aeL,BP,q] at hs)
 | _=>exact nil
theorem Ja (he:EW ρ V A e e') {g:Option (Nat × Bool)} {b:Bool} (hw:wants e g=some b):wants e' g=some b:=by
 cases g with
 | none=>exact hw
 | some p =>
  obtain ⟨s,w⟩:=p
  simp only [wants] at hw ⊢
  cases hg:get e s with
  | none=>rw [hg] at hw;cases hw
  | some v =>
   obtain ⟨v',h1,h2⟩:=he s v hg
   rw [hg] at hw
   rw [h1]
   cases v with
   | bool b=>rw [h2.fB];exact hw
   | tup vs =>
    cases vs with
    | nil =>
     obtain ⟨vs',rfl,hr⟩:=h2.sS
     rw [hr.dV];exact hw
    | cons a r=>cases hw
   | _=>cases hw
theorem abf (hr:uO run run') (he:EW ρ V A e e') (H:HW ρ V A h h') (lt:Lts ρ V A n m) {nid mid:Nat} (hn:¬ A nid) (hnl:nid < n) (hm:∀ b,A b→¬ V b→ρ b≠mid) (hml:mid < m)
 {o:aK} (ho:gB o.op=true) {d:kC} (hd:gy C run o nid e h n=some d):∃ d' ρ' V' A',jk (eu C) run' (dY o) mid e' h' m=some d'∧PE ρ V A nid n mid m d d' ρ' V' A':=by
 unfold gy at hd
 cases hw:wants e o.guard with
 | none=>rw [hw] at hd;cases hd
 | some b =>
  rw [hw] at hd
  have hw':=Ja he hw
  cases b with
  | false =>
   simp only [Option.some.injEq] at hd
   subst hd
   refine ⟨⟨.tup [],h',m,false,[],[]⟩,ρ,V,A,by simp only [jk,dY,hw'],VW.lg .nil,H,Keeps.refl ρ V A,fun b hb=>.inl hb,fun b hb _=>.inl ⟨hb,rfl⟩,lt,Nat.le_refl _,Nat.le_refl _,fun q=>(by cases q),fun b hb=>(by cases hb),fun b hb=>(by cases hb)⟩
  | true =>
   simp only at hd
   have goal:∃ d' ρ' V' A',iY (eu C) run' (fK o.op) mid e' h' m=some d'∧PE ρ V A nid n mid m d d' ρ' V' A':=by
    have callCase:∀ (f:Nat) (args args':List AV),bf (VW ρ V A) args args'→callOf e' (fK o.op)=some (some (f,args'))→callOf e o.op=some (some (f,args)) →
     ∃ d' ρ' V' A',iY (eu C) run' (fK o.op) mid e' h' m=some d'∧PE ρ V A nid n mid m d d' ρ' V' A':=by
     intro f args args' ha hc' hc
     simp only [jB,hc] at hd
     obtain ⟨c,h1,rfl⟩:=aA hd
     obtain ⟨c',ρ',V',A',h2,h3⟩:=aaJ hr H lt hn hnl hm hml ha h1
     exact ⟨_,ρ',V',A',by simp only [iY,hc',h2,om],h3⟩
    by_cases hcall:callOf e o.op=some none
    · have hcall':callOf e' (fK o.op)=some none:=by
       cases hop:o.op <;> rw [hop] at hcall <;> simp only [callOf,fK] at hcall ⊢
       · cases hcall
       · split at hcall <;> cases hcall
      simp only [jB,hcall] at hd
      obtain ⟨r,h1,rfl⟩:=aA hd
      obtain ⟨r',h2,h3⟩:=Zy he H hn hm ho h1
      have hu:=pG (ρ:=ρ) (V:=V) (m:=mid) hn
      have hVn:¬ V nid:=fun q=>hn (H.sub nid q)
      refine ⟨_,up ρ nid mid,V,addN A nid,by simp only [iY,hcall',h2,om];rfl,h3.1,h3.2.1,hu,?_,?_,⟨?_,?_⟩,Nat.le_refl _,Nat.le_refl _,fun q=>(by cases q),?_,?_⟩
      · rintro b (hb | rfl)
        · exact .inl hb
        · exact .inr (.inl rfl)
      · rintro b (hb | rfl) hv
        · exact .inl ⟨hb,(hu b hb).2.1⟩
        · exact .inr (.inl (by simp [up]))
      · rintro b (hb | rfl)
        · exact lt.w b hb
        · exact hnl
      · rintro b (hb | rfl) hv
        · rw [(hu b hb).2.1];exact lt.p b hb hv
        · simp only [up,if_true];exact hml
      · intro b' hb'
        obtain ⟨b,q1,q2,q3,q4⟩:=ako he ho h1 b' hb'
        exact ⟨b,q1,by rw [(hu b q4).2.1];exact q2,q3,.inl q4⟩
      · intro b' hb'
        exact .inl (h3.2.2 b' hb')
    · cases hop:o.op with
      | call f args =>
       rw [hop] at ho
       have:=callCase f _ _ (Zf he ho) (by rw [hop];rfl) (by rw [hop];rfl)
       rwa [hop] at this
      | dS g args =>
       rw [hop] at ho
       simp only [gB,Bool.and_eq_true] at ho
       have hg:=he.opd ho.1
       cases hge:g.ev e with
       | fn f caps =>
        rw [hge] at hg
        obtain ⟨caps',q,hrel⟩:=hg.yK
        have:=callCase f _ _ ((Zf he ho.2).append hrel) (by rw [hop];simp only [fK,callOf,q]) (by rw [hop];simp only [callOf,hge])
        rwa [hop] at this
       | _ =>
        exfalso
        rw [hop] at hd
        simp only [jB,callOf,hge] at hd
        cases hd
      | _=>exact absurd (by rw [hop];rfl) hcall
   obtain ⟨d',ρ',V',A',h1,h2⟩:=goal
   exact ⟨d',ρ',V',A',by simp only [jk,dY,hw'];exact h1,h2⟩
end
end Go.Pw
end
section
set_option linter.unusedSimpArgs false
set_option linter.unusedVariables false
namespace Go.Pw
open Go Go.Pav
def Srt (e:Env):Prop:=e.Pairwise fun a b=>b.1 < a.1
theorem Srt.put {e:Env} (h:Srt e) (k:Nat) (v:AV):Srt (uh e k v):=by
 have mem:∀ (e:Env) x,x ∈ uh e k v→x=(k,v)∨x ∈ e:=by
  intro e
  induction e with
  | nil=>intro x hx;simp [uh] at hx;exact .inl hx
  | cons y e ih =>
   intro x hx
   obtain ⟨j,u⟩:=y
   simp only [uh] at hx
   split at hx
   · rcases List.mem_cons.1 hx with q | q
     · exact .inl q
     · exact .inr q
   · split at hx
     · rcases List.mem_cons.1 hx with q | q
       · exact .inl q
       · exact .inr (List.mem_cons_of_mem _ q)
     · rcases List.mem_cons.1 hx with q | q
       · exact .inr (q ▸ List.mem_cons_self)
       · rcases ih x q with q | q
         · exact .inl q
         · exact .inr (List.mem_cons_of_mem _ q)
 induction e with
 | nil=>exact List.pairwise_singleton _ _
 | cons y e ih =>
  obtain ⟨j,u⟩:=y
  have h1:∀ x ∈ e,x.1 < j:=fun x hx=>(List.pairwise_cons.1 h).1 x hx
  have h2:Srt e:=(List.pairwise_cons.1 h).2
  simp only [uh]
  split
  · rename_i hk
    refine List.pairwise_cons.2 ⟨fun x hx=>?_,h⟩
    rcases List.mem_cons.1 hx with rfl | q
    · exact hk
    · have:=h1 x q;simp only;omega
  · rename_i hk
    split
    · rename_i hj;subst hj;exact List.pairwise_cons.2 ⟨h1,h2⟩
    · rename_i hj
      refine List.pairwise_cons.2 ⟨fun x hx=>?_,ih h2⟩
      rcases mem e x hx with rfl | q
      · simp only;omega
      · exact h1 x q
theorem Srt.cu {e:Env} (h:Srt e) (d:Option Nat) (v:AV):Srt (dN e d v):=by
 cases d with
 | none=>exact h
 | some d=>exact h.put d v
theorem Vh:∀ (l:List AV) (k:Nat) (acc:Env),HY k l acc=(dX k l).reverse++acc:=by
 intro l
 induction l with
 | nil=>intro k acc;rfl
 | cons v l ih=>intro k acc;simp [HY,dX,ih]
theorem Pg:∀ (l:List AV) (k:Nat),(dX k l).Pairwise (fun a b=>a.1 < b.1)∧∀ x ∈ dX k l,k≤x.1:=by
 intro l
 induction l with
 | nil=>intro k;exact ⟨List.Pairwise.nil,fun x hx=>by simp [dX] at hx⟩
 | cons v l ih =>
  intro k
  obtain ⟨h1,h2⟩:=ih (k+1)
  refine ⟨List.pairwise_cons.2 ⟨fun x hx=>by have:=h2 x hx;simp only;omega,h1⟩,fun x hx=>?_⟩
  rcases List.mem_cons.1 hx with rfl | q
  · exact Nat.le_refl _
  · have:=h2 x q;omega
theorem aex (l:List AV) (k:Nat):Srt (HY k l []):=by
 rw [Vh,List.append_nil]
 exact List.pairwise_reverse.2 (Pg l k).1
theorem Srt.get {e:Env} (h:Srt e) {k:Nat} {v:AV} (hm:(k,v) ∈ e):Pav.get e k=some v:=by
 induction e with
 | nil=>cases hm
 | cons y e ih =>
  obtain ⟨j,u⟩:=y
  have h1:∀ x ∈ e,x.1 < j:=fun x hx=>(List.pairwise_cons.1 h).1 x hx
  simp only [Pav.get]
  rcases List.mem_cons.1 hm with q | q
  · cases q;simp
  · have:=h1 _ q
    simp only at this
    rw [if_neg (by omega)]
    exact ih (List.pairwise_cons.1 h).2 q
theorem Ro {k a:Nat}:∀ {l:List Nat},a ∈ rO k l→a ∈ l:=by
 intro l
 induction l with
 | nil=>intro h;exact h
 | cons b l ih =>
  intro h
  simp only [rO] at h
  split at h
  · exact List.mem_cons_of_mem _ (ih h)
  · exact h
theorem IV:∀ (e:Env) (live:List Nat),(oD live e).Sublist e∧∀ x ∈ oD live e,x.1 ∈ live:=by
 intro e
 induction e with
 | nil=>intro live;simp [Jh]
 | cons y e ih =>
  obtain ⟨j,u⟩:=y
  intro live
  simp only [Gz]
  have hsub:∀ a ∈ rO j live,a ∈ live:=fun a ha=>Ro ha
  cases hd:rO j live with
  | nil=>simp [Vj]
  | cons a l =>
   rw [hd] at hsub
   simp only [Vj]
   split
   · rename_i ha
     obtain ⟨h1,h2⟩:=ih l
     refine ⟨h1.cons_cons _,fun x hx=>?_⟩
     rcases List.mem_cons.1 hx with rfl | q
     · simp only;subst ha;exact hsub _ (by simp)
     · exact hsub _ (List.mem_cons_of_mem _ (h2 x q))
   · obtain ⟨h1,h2⟩:=ih (a::l)
     exact ⟨h1.cons _,fun x hx=>hsub _ (h2 x hx)⟩
structure Sim (ρ:Nat→Nat) (V A:Nat→Prop) (s:WSt) (s':St):Prop where
 srt:Srt s.env
 env:EW ρ V A s.env s'.env
 heap:HW ρ V A s.heap s'.heap
 lt:Lts ρ V A s.next s'.next
def Old (base:Nat) (ρ:Nat→Nat) (V A:Nat→Prop) (ρ':Nat→Nat) (V' A':Nat→Prop):Prop:=∀ b,b < base→(A b→A' b∧ρ' b=ρ b∧(V' b↔V b))∧(A' b→A b)
theorem Old.refl (base:Nat) (ρ:Nat→Nat) (V A:Nat→Prop):Old base ρ V A ρ V A:=fun _ _=>⟨fun h=>⟨h,rfl,Iff.rfl⟩,id⟩
theorem Old.trans {base:Nat} {ρ ρ1 ρ2:Nat→Nat} {V A V1 A1 V2 A2:Nat→Prop} (h:Old base ρ V A ρ1 V1 A1) (k:Old base ρ1 V1 A1 ρ2 V2 A2):Old base ρ V A ρ2 V2 A2:=fun b hb =>
 ⟨fun ha=>by
  obtain ⟨h1,h2,h3⟩:=(h b hb).1 ha
  obtain ⟨k1,k2,k3⟩:=(k b hb).1 h1
  exact ⟨k1,k2.trans h2,k3.trans h3⟩,fun ha=>(h b hb).2 ((k b hb).2 ha)⟩
section
variable {ρ:Nat→Nat} {V A:Nat→Prop} {n m:Nat} {h:aJ} {h':Heap} {e e':Env}
theorem YD {base:Nat} {h:aJ}:∀ (n:Nat) (w acc:List Nat),acc.Nodup→(∀ x ∈ acc,base≤x)→(close base h n w acc).Nodup∧∀ x ∈ close base h n w acc,base≤x:=by
 intro n
 induction n with
 | zero=>intro w acc h1 h2;exact ⟨h1,h2⟩
 | succ n ih =>
  intro w acc h1 h2
  cases w with
  | nil=>exact ⟨h1,h2⟩
  | cons b w =>
   simp only [close]
   split
   · exact ih w acc h1 h2
   · rename_i hb
     split
     · exact ih w acc h1 h2
     · rename_i hc
       refine ih _ _ ?_ ?_
       · have hc:b ∉ acc:=by simpa using hc
         rw [List.nodup_append]
         exact ⟨h1,by simp,fun x hx y hy=>by simp at hy;subst hy;rintro rfl;exact hc hx⟩
       · intro x hx
         rcases List.mem_append.1 hx with q | q
         · exact h2 x q
         · simp at q;subst q;omega
def pre (base:Nat) (L:List Nat) (b:Nat):Nat:=if b < base then b else L.getD (b - base) 0
theorem RF:∀ {L:List Nat} {n b c:Nat},place n L b=some c→n≤c∧L[c - n]?=some b:=by
 intro L
 induction L with
 | nil=>intro n b c h;simp [place] at h
 | cons a L ih =>
  intro n b c h
  simp only [place] at h
  split at h
  · rename_i hb;cases h;subst hb;simp
  · obtain ⟨h1,h2⟩:=ih h
    refine ⟨by omega,?_⟩
    have:c - n=(c - (n+1))+1:=by omega
    rw [this];simpa using h2
theorem aaq:∀ {L:List Nat} {n i b:Nat},L.Nodup→L[i]?=some b→place n L b=some (n+i):=by
 intro L
 induction L with
 | nil=>intro n i b _ h;simp at h
 | cons a L ih =>
  intro n i b hd h
  cases i with
  | zero=>simp at h;subst h;simp [place]
  | succ i =>
   simp only [List.getElem?_cons_succ] at h
   simp only [List.nodup_cons] at hd
   simp only [place]
   rw [if_neg]
   · rw [ih hd.2 h];congr 1;omega
   · rintro rfl;exact hd.1 (List.mem_of_getElem? h)
theorem sN {base:Nat} {L:List Nat} {b c:Nat} (h:gU base L b=some c):pre base L c=b∧(c < base↔b < base)∧(c < base→c=b)∧(c < base∨c < base+L.length):=by
 unfold gU at h
 split at h
 · rename_i hb;cases h;exact ⟨by simp [pre,hb],Iff.rfl,fun _=>rfl,.inl hb⟩
 · rename_i hb
   obtain ⟨h1,h2⟩:=RF h
   have hlt:=(List.getElem?_eq_some_iff.1 h2).1
   refine ⟨?_,⟨fun q=>by omega,fun q=>absurd q hb⟩,fun q=>by omega,.inr (by omega)⟩
   unfold pre
   rw [if_neg (by omega),List.getD_eq_getElem?_getD,h2];rfl
theorem Y4 {ρ':Nat→Nat} {V' A':Nat→Prop} {π:Nat→Option Nat} (hπ:∀ b c,A b→π b=some c→A' c∧ρ' c=ρ b∧(V' c↔V b)) (v:AV) :
 ∀ (u v':AV),VW ρ V A v u→ren π v=some v'→VW ρ' V' A' v' u:=by
 refine AV.rec (motive_1:=fun v=>∀ (u v':AV),VW ρ V A v u→ren π v=some v'→VW ρ' V' A' v' u) (motive_2:=fun _=>True)
  (motive_3:=fun l=>∀ (l' r:List AV),bf (VW ρ V A) l l'→lM π l=some r→bf (VW ρ' V' A') r l') ?_ ?_ ?_ ?_ ?_ ?_ ?_ ?_ ?_ ?_ ?_ ?_ ?_ ?_ ?_ ?_ ?_ ?_ ?_ ?_ v
 · intro u v' _ h;simp only [ren,Option.some.injEq] at h;subst h;exact .undef _
 · intro b u v' hu h;simp only [ren,Option.some.injEq] at h;subst h;rw [hu.fB];exact .bool _
 · intro b c u v' hu h;simp only [ren,Option.some.injEq] at h;subst h;rw [hu.dK];exact .int _ _
 · intro b u v' hu h;simp only [ren,Option.some.injEq] at h;subst h;rw [hu.iw];exact .str _
 · intro u v' hu h;simp only [ren,Option.some.injEq] at h;subst h;exact hu.isC rfl
 · intro u v' hu h;simp only [ren,Option.some.injEq] at h;subst h;exact hu.isC rfl
 · intro u v' hu h;simp only [ren,Option.some.injEq] at h;subst h;exact hu.isC rfl
 · intro u v' hu h;simp only [ren,Option.some.injEq] at h;subst h;exact hu.isC rfl
 · intro z es ex _ u v' hu h;simp only [ren,Option.some.injEq] at h;subst h;exact hu.isC rfl
 · intro z _ u v' hu h;simp only [ren,Option.some.injEq] at h;subst h;exact hu.isC rfl
 · intro b i o u v' hu h
   obtain ⟨rfl,hA,hV⟩:=hu.iT
   simp only [ren] at h
   obtain ⟨c,h1,rfl⟩:=aA h
   obtain ⟨q1,q2,q3⟩:=hπ b c hA h1
   rw [← q2]
   exact .ptr c i o q1 (fun q=>hV (q3.1 q))
 · intro b z i len cap ex u v' hu h
   simp only [ren] at h
   obtain ⟨c,h1,rfl⟩:=aA h
   rcases hu.jD with ⟨hA,hV,ex',rfl,hx⟩ | ⟨hA,hV,rfl,rfl,rfl,hv⟩
   · obtain ⟨q1,q2,q3⟩:=hπ b c hA h1
     rw [← q2]
     exact .sl c z i len cap ex ex' q1 (fun q=>hV (q3.1 q)) hx
   · obtain ⟨q1,q2,q3⟩:=hπ b c hA h1
     exact .slv c z ex u q1 (q3.2 hV) hv
 · intro b u v' hu h
   obtain ⟨rfl,hA,hV⟩:=hu.xK
   simp only [ren] at h
   obtain ⟨c,h1,rfl⟩:=aA h
   obtain ⟨q1,q2,q3⟩:=hπ b c hA h1
   rw [← q2]
   exact .map c q1 (fun q=>hV (q3.1 q))
 · intro f cs ih u v' hu h
   obtain ⟨cs',rfl,hr⟩:=hu.yK
   simp only [ren] at h
   obtain ⟨r,h1,rfl⟩:=aA h
   exact VW.kY (ih cs' r hr h1)
 · intro cs ih u v' hu h
   obtain ⟨cs',rfl,hr⟩:=hu.mg
   simp only [ren] at h
   obtain ⟨r,h1,rfl⟩:=aA h
   exact VW.I9 (ih cs' r hr h1)
 · intro cs ih u v' hu h
   obtain ⟨cs',rfl,hr⟩:=hu.sS
   simp only [ren] at h
   obtain ⟨r,h1,rfl⟩:=aA h
   exact VW.lg (ih cs' r hr h1)
 · trivial
 · intros;trivial
 · intro l' r hr h
   simp only [lM,Option.some.injEq] at h;subst h
   rw [hr.dV];exact .nil
 · intro v l ih1 ih2 l' r hr h
   obtain ⟨u,t,rfl,h1,h2⟩:=hr.dw
   simp only [lM] at h
   obtain ⟨v',h3,h⟩:=au h
   obtain ⟨r',h4,rfl⟩:=aA h
   exact .cons (ih1 u v' h1 h3) (ih2 t r' h2 h4)
theorem adH {ρ':Nat→Nat} {V' A':Nat→Prop} {π:Nat→Option Nat} (hπ:∀ b c,A b→π b=some c→A' c∧ρ' c=ρ b∧(V' c↔V b)):∀ (l l' r:List AV),bf (VW ρ V A) l l'→lM π l=some r→bf (VW ρ' V' A') r l':=by
 intro l
 induction l with
 | nil=>intro l' r hr h;simp only [lM,Option.some.injEq] at h;subst h;rw [hr.dV];exact .nil
 | cons v l ih =>
  intro l' r hr h
  obtain ⟨u,t,rfl,h1,h2⟩:=hr.dw
  simp only [lM] at h
  obtain ⟨v',h3,h⟩:=au h
  obtain ⟨r',h4,rfl⟩:=aA h
  exact .cons (Y4 hπ v u v' h1 h3) (ih t r' h2 h4)
theorem V5 {ρ':Nat→Nat} {V' A':Nat→Prop} {π:Nat→Option Nat} (_hπ:∀ b c,A b→π b=some c→A' c∧ρ' c=ρ b∧(V' c↔V b)):∀ (e:Env) (r:Env),jU π e=some r→∀ k v',get r k=some v'→∃ v,get e k=some v∧ren π v=some v':=by
 intro e
 induction e with
 | nil=>intro r h k v' hk;simp only [jU,Option.some.injEq] at h;subst h;simp [Pav.get] at hk
 | cons x e ih =>
  obtain ⟨j,v⟩:=x
  intro r h k v' hk
  simp only [jU] at h
  obtain ⟨w,h1,h⟩:=au h
  obtain ⟨r',h2,rfl⟩:=aA h
  simp only [Pav.get] at hk ⊢
  split at hk
  · rename_i hj;rw [if_pos hj];cases hk;exact ⟨v,rfl,h1⟩
  · rename_i hj;rw [if_neg hj];exact ih r' h2 k v' hk
theorem Qc {π:Nat→Option Nat}:∀ (e r:Env),jU π e=some r→r.map (·.1)=e.map (·.1):=by
 intro e
 induction e with
 | nil=>intro r h;simp only [jU,Option.some.injEq] at h;subst h;rfl
 | cons x e ih =>
  obtain ⟨j,v⟩:=x
  intro r h
  simp only [jU] at h
  obtain ⟨w,h1,h⟩:=au h
  obtain ⟨r',h2,rfl⟩:=aA h
  simp only [List.map_cons,ih r' h2]
theorem Srt.keys {e r:Env} (h:Srt e) (hk:r.map (·.1)=e.map (·.1)):Srt r:=by
 have h1:(e.map (·.1)).Pairwise (fun a b=>b < a):=List.pairwise_map.2 h
 rw [← hk] at h1
 exact List.pairwise_map.1 h1
theorem Rk {base:Nat} {π:Nat→Option Nat}:∀ (h r:aJ),jG base π h=some r→∀ k o',get r k=some o'→k < base∧∃ o,get h k=some o∧gX π o=some o':=by
 intro h
 induction h with
 | nil=>intro r h k v' hk;simp only [jG,Option.some.injEq] at h;subst h;simp [Pav.get] at hk
 | cons x h ih =>
  obtain ⟨j,v⟩:=x
  intro r h k o' hk
  simp only [jG] at h
  split at h
  · rename_i hj
    obtain ⟨w,h1,h⟩:=au h
    obtain ⟨r',h2,rfl⟩:=aA h
    simp only [Pav.get] at hk ⊢
    split at hk
    · rename_i hjk;rw [if_pos hjk];cases hk;exact ⟨hjk ▸ hj,v,rfl,h1⟩
    · rename_i hjk;rw [if_neg hjk];exact ih r' h2 k o' hk
  · rename_i hj
    obtain ⟨q1,o,q2,q3⟩:=ih r h k o' hk
    refine ⟨q1,o,?_,q3⟩
    simp only [Pav.get]
    rw [if_neg (by omega)];exact q2
theorem TW {π:Nat→Option Nat} {h:aJ}:∀ (L:List Nat) (n:Nat) (r:aJ),lJ π h n L=some r→∀ k o',get r k=some o'→∃ i b o,k=n+i∧L[i]?=some b∧get h b=some o∧gX π o=some o':=by
 intro L
 induction L with
 | nil=>intro n r h k v' hk;simp only [lJ,Option.some.injEq] at h;subst h;simp [Pav.get] at hk
 | cons b L ih =>
  intro n r h k o' hk
  simp only [lJ] at h
  split at h
  · rename_i o ho
    obtain ⟨w,h1,h⟩:=au h
    obtain ⟨r',h2,rfl⟩:=aA h
    simp only [Pav.get] at hk
    split at hk
    · rename_i hjk;cases hk;exact ⟨0,b,o,by omega,by simp,ho,h1⟩
    · obtain ⟨i,b',o2,q1,q2,q3,q4⟩:=ih (n+1) r' h2 k o' hk
      exact ⟨i+1,b',o2,by omega,by simpa using q2,q3,q4⟩
  · obtain ⟨i,b',o2,q1,q2,q3,q4⟩:=ih (n+1) r h k o' hk
    exact ⟨i+1,b',o2,by omega,by simpa using q2,q3,q4⟩
theorem get_append {α:Type}:∀ (l r:List (Nat × α)) (k:Nat),get (l++r) k=match get l k with | some x=>some x | none=>get r k:=by
 intro l
 induction l with
 | nil=>intro r k;rfl
 | cons x l ih =>
  intro r k
  obtain ⟨j,v⟩:=x
  simp only [List.cons_append,Pav.get]
  split
  · rfl
  · exact ih r k
theorem Za {ρ':Nat→Nat} {V' A':Nat→Prop} {π:Nat→Option Nat} (hπ:∀ b c,A b→π b=some c→A' c∧ρ' c=ρ b∧(V' c↔V b)):∀ (es es' r:List (List AV)),bf (bf (VW ρ V A)) es es'→bn (lM π) es=some r→bf (bf (VW ρ' V' A')) r es':=by
 intro es
 induction es with
 | nil=>intro l' r hr h;simp only [bn,Option.some.injEq] at h;subst h;rw [hr.dV];exact .nil
 | cons v l ih =>
  intro l' r hr h
  obtain ⟨u,t,rfl,h1,h2⟩:=hr.dw
  simp only [bn] at h
  obtain ⟨v',h3,h⟩:=au h
  obtain ⟨r',h4,rfl⟩:=aA h
  exact .cons (adH hπ v u v' h1 h3) (ih t r' h2 h4)
theorem X6 {ρ':Nat→Nat} {V' A':Nat→Prop} {π:Nat→Option Nat} (hπ:∀ b c,A b→π b=some c→A' c∧ρ' c=ρ b∧(V' c↔V b)) {o o2:gZ} {o':jg} (ho:OW ρ V A o o') (hr:gX π o=some o2):OW ρ' V' A' o2 o':=by
 cases o with
 | cells z es mu dt =>
  obtain ⟨es',mu',rfl,h2,h3,h4⟩:=ho
  simp only [gX] at hr
  split at hr
  · rename_i hd
    cases hr
    exact ⟨es',mu',rfl,h2,h3.mono fun e e' he hee=>hee.mono fun x x' hx hxx=>hxx.isC (h4 hd e he x hx),h4⟩
  · rename_i hd
    obtain ⟨es2,h5,rfl⟩:=aA hr
    exact ⟨es',mu',rfl,h2,Za hπ es es' es2 h3 h5,fun q=>absurd q hd⟩
 | map es =>
  simp only [gX,Option.some.injEq] at hr;subst hr
  obtain ⟨es',rfl,h2⟩:=ho
  exact ⟨es',rfl,h2.mono fun x y _ hxy=>⟨hxy.1,hxy.2.data⟩⟩
 | iter s p =>
  simp only [gX,Option.some.injEq] at hr;subst hr
  exact ho
theorem Nc {base:Nat} {s s2:WSt} {s':St} (S:Sim ρ V A s s') {L:List Nat} (hL:L.Nodup) (hLb:∀ x ∈ L,base≤x) (hr:renumber base s L=some s2) :
 ∃ ρ' V' A',Sim ρ' V' A' s2 s'∧base≤s2.next∧Old base ρ V A ρ' V' A'∧(∀ b,A' b→¬ V' b→∃ c,A c∧¬ V c∧ρ' b=ρ c∧(base≤b→base≤c)):=by
 unfold renumber at hr
 obtain ⟨e,h1,hr⟩:=au hr
 obtain ⟨h1',h2,hr⟩:=au hr
 obtain ⟨h2',h3,rfl⟩:=aA hr
 let ρ':=fun c=>ρ (pre base L c)
 let A':=fun c=>∃ b,A b∧gU base L b=some c
 let V':=fun c=>V (pre base L c)∧A' c
 have hπ:∀ b c,A b→gU base L b=some c→A' c∧ρ' c=ρ b∧(V' c↔V b):=by
  intro b c hb hc
  have:=(sN hc).1
  exact ⟨⟨b,hb,hc⟩,by show ρ (pre base L c)=ρ b;rw [this],by show V (pre base L c)∧A' c↔V b;rw [this];exact ⟨fun q=>q.1,fun q=>⟨q,b,hb,hc⟩⟩⟩
 have hgetH:∀ c o2,get (h1'++h2') c=some o2→∃ b o,gU base L b=some c∧get s.heap b=some o∧gX (gU base L) o=some o2:=by
  intro c o2 hc
  rw [get_append] at hc
  split at hc
  · rename_i x hx
    cases hc
    obtain ⟨q1,o,q2,q3⟩:=Rk _ _ h2 c o2 hx
    exact ⟨c,o,by simp [gU,q1],q2,q3⟩
  · obtain ⟨i,b,o,rfl,q2,q3,q4⟩:=TW _ _ _ h3 c o2 hc
    refine ⟨b,o,?_,q3,q4⟩
    unfold gU
    rw [if_neg (by have:=hLb b (List.mem_of_getElem? q2);omega)]
    exact aaq hL q2
 refine ⟨ρ',V',A',⟨S.srt.keys (Qc _ _ h1),?_,?_,?_⟩,Nat.le_add_right _ _,?_,?_⟩
 · intro k v' hk
   obtain ⟨v,q1,q2⟩:=V5 (ρ':=ρ') (V':=V') (A':=A') hπ _ _ h1 k v' hk
   obtain ⟨u,q3,q4⟩:=S.env k v q1
   exact ⟨u,q3,Y4 hπ v u v' q4 q2⟩
 · refine ⟨fun c o hc=>?_,fun c o hc hv=>?_,fun c o hc hv=>?_,?_,?_⟩
   · obtain ⟨b,o1,q1,q2,q3⟩:=hgetH c o hc
     exact ⟨b,S.heap.dom b o1 q2,q1⟩
   · obtain ⟨b,o1,q1,q2,q3⟩:=hgetH c o hc
     have hvb:V b:=((hπ b c (S.heap.dom b o1 q2) q1).2.2).1 hv
     obtain ⟨z,mu,dt,rfl⟩:=S.heap.qM b o1 q2 hvb
     simp only [gX,bn,om] at q3
     split at q3 <;> cases q3 <;> exact ⟨_,_,_,rfl⟩
   · obtain ⟨b,o1,q1,q2,q3⟩:=hgetH c o hc
     obtain ⟨p1,p2,p3⟩:=hπ b c (S.heap.dom b o1 q2) q1
     obtain ⟨o',q4,q5⟩:=S.heap.obj b o1 q2 (fun q=>hv (p3.2 q))
     exact ⟨o',by rw [p2];exact q4,X6 hπ q5 q3⟩
   · exact fun c hc=>hc.2
   · rintro c d ⟨b,hb,hbc⟩ ⟨a,ha,had⟩ vc vd hcd
     obtain ⟨_,p2,p3⟩:=hπ b c hb hbc
     obtain ⟨_,r2,r3⟩:=hπ a d ha had
     rw [p2,r2] at hcd
     have:=S.heap.inj b a hb ha (fun q=>vc (p3.2 q)) (fun q=>vd (r3.2 q)) hcd
     subst this
     rw [hbc] at had;cases had;rfl
 · refine ⟨?_,?_⟩
   · rintro c ⟨b,hb,hbc⟩
     rcases (sN hbc).2.2.2 with q | q
     · exact Nat.lt_of_lt_of_le q (Nat.le_add_right _ _)
     · exact q
   · rintro c ⟨b,hb,hbc⟩ hv
     obtain ⟨_,p2,p3⟩:=hπ b c hb hbc
     rw [p2]
     exact S.lt.p b hb (fun q=>hv (p3.2 q))
 · intro b hb
   have hnb:gU base L b=some b:=by simp [gU,hb]
   refine ⟨fun ha=>hπ b b ha hnb,?_⟩
   rintro ⟨c,hc,hcb⟩
   have:=(sN hcb).2.2.1 hb
   rw [this];exact hc
 · rintro c ⟨b,hb,hbc⟩ hv
   obtain ⟨_,p2,p3⟩:=hπ b c hb hbc
   exact ⟨b,hb,fun q=>hv (p3.2 q),p2,fun q=>by have:=(sN hbc).2.1;omega⟩
theorem abz {base:Nat}:∀ (g:List (Nat × Nat)) (s:WSt) (s':St) (ρ:Nat→Nat) (V A:Nat→Prop),Sim ρ V A s s'→base≤s.next →
 ∃ V' A',Sim ρ V' A' (kG g s) s'∧base≤(kG g s).next∧Old base ρ V A ρ V' A'∧∀ b,A' b→¬ V' b→A b∧¬ V b:=by
 intro g
 induction g with
 | nil=>intro s s' ρ V A S hb;exact ⟨V,A,S,hb,Old.refl base ρ V A,fun b h1 h2=>⟨h1,h2⟩⟩
 | cons x g ih =>
  intro s s' ρ V A S hb
  obtain ⟨k,z⟩:=x
  simp only [kG]
  split
  · rename_i v hk
    have key:∃ V' A',Sim ρ V' A' (Bc s k z v) s'∧base≤(Bc s k z v).next∧Old base ρ V A ρ V' A'∧∀ b,A' b→¬ V' b→A b∧¬ V b:=by
     unfold Bc
     split
     · rename_i z'
       split
       · rename_i hz
         subst hz
         obtain ⟨v',h1,h2⟩:=S.env k _ hk
         have hn:¬ A s.next:=fun q=>Nat.lt_irrefl _ (S.lt.w _ q)
         have hu:∀ b,A b→addN A s.next b∧ρ b=ρ b∧((V b∨b=s.next)↔V b):=fun b hb=>⟨.inl hb,rfl,⟨fun q=>q.elim id fun e=>absurd (e ▸ hb) hn,.inl⟩⟩
         have hv':v'=.aZ∨v'=.ro z' [] true:=by
          rcases h2.lH with ⟨_,rfl⟩ | ⟨es',ex',rfl,hx,hr,_⟩
          · exact .inl rfl
          · rw [hr.dV,hx rfl];exact .inr rfl
         refine ⟨fun b=>V b∨b=s.next,addN A s.next,⟨S.srt.put _ _,?_,?_,?_⟩,by simp only;omega,?_,?_⟩
         · intro j u hj
           simp only at hj
           rw [O1] at hj
           split at hj
           · rename_i hkj
             cases hj;subst hkj
             exact ⟨v',h1,.slv _ _ _ _ (.inr rfl) (.inr rfl) hv'⟩
           · exact (S.env.mono hu) j u hj
         · have H:=S.heap
           refine ⟨fun b o hb=>?_,fun b o hb hv=>?_,fun b o hb hv=>?_,?_,?_⟩
           · rw [get_put] at hb
             split at hb
             · rename_i q;exact .inr q.symm
             · exact .inl (H.dom b o hb)
           · rw [get_put] at hb
             split at hb
             · cases hb;exact ⟨_,_,_,rfl⟩
             · rename_i q
               rcases hv with hv | hv
               · exact H.qM b o hb hv
               · exact absurd hv.symm q
           · rw [get_put] at hb
             split at hb
             · rename_i q;exact absurd (.inr q.symm) hv
             · obtain ⟨o',q1,q2⟩:=H.obj b o hb (fun q=>hv (.inl q))
               exact ⟨o',q1,q2.mono hu⟩
           · rintro b (hb | hb)
             · exact .inl (H.sub b hb)
             · exact .inr hb
           · rintro b c (hb | hb) (hc | hc) vb vc hbc
             · exact H.inj b c hb hc (fun q=>vb (.inl q)) (fun q=>vc (.inl q)) hbc
             · exact absurd (.inr hc) vc
             · exact absurd (.inr hb) vb
             · exact absurd (.inr hb) vb
         · refine ⟨?_,?_⟩
           · rintro b (hb | rfl)
             · exact Nat.lt_succ_of_lt (S.lt.w b hb)
             · exact Nat.lt_succ_self _
           · rintro b (hb | rfl) hv
             · exact S.lt.p b hb (fun q=>hv (.inl q))
             · exact absurd (.inr rfl) hv
         · intro b hbb
           exact ⟨hu b,fun q=>q.elim id fun e=>by omega⟩
         · rintro b (hb | rfl) hv
           · exact ⟨hb,fun q=>hv (.inl q)⟩
           · exact absurd (.inr rfl) hv
       · exact ⟨V,A,S,hb,Old.refl base ρ V A,fun b h1 h2=>⟨h1,h2⟩⟩
     · exact ⟨V,A,S,hb,Old.refl base ρ V A,fun b h1 h2=>⟨h1,h2⟩⟩
    obtain ⟨V1,A1,S1,b1,o1,n1⟩:=key
    obtain ⟨V2,A2,S2,b2,o2,n2⟩:=ih _ s' ρ V1 A1 S1 b1
    exact ⟨V2,A2,S2,b2,o1.trans o2,fun b q1 q2=>by obtain ⟨q3,q4⟩:=n2 b q1 q2;exact n1 b q3 q4⟩
  · exact ih s s' ρ V A S hb
theorem Hq (k:Nat):∀ l:List Nat,(bitsOf l).testBit k=l.contains k:=by
 intro l
 induction l with
 | nil=>simp [bitsOf]
 | cons a l ih =>
  simp only [bitsOf,Nat.testBit_or,ih,Nat.testBit_two_pow,List.contains_cons]
  congr 1
  by_cases h:a=k
  · subst h;simp
  · have:(k == a)=false:=by simpa using Ne.symm h
    rw [this];simpa using h
theorem Xa {base:Nat} {a:Ann} {s s2:WSt} {s':St} (S:Sim ρ V A s s') (hb:base≤s.next) (hc:canon base a s=some s2) {s1:St} (hs1:s1=s'∨s1=iE (qF a) s') :
 ∃ ρ' V' A',Sim ρ' V' A' s2 s1∧base≤s2.next∧Old base ρ V A ρ' V' A'∧∀ b,A' b→¬ V' b→∃ c,A c∧¬ V c∧ρ' b=ρ c∧(base≤b→base≤c):=by
 cases hcn:a.cn with
 | false =>
  have e1:qF a=0:=by simp only [qF,hcn]
  simp only [canon,hcn,Option.some.injEq] at hc
  subst hc
  have e2:s1=s':=by
   rcases hs1 with h | h
   · exact h
   · rw [h,e1];rfl
  subst e2
  exact ⟨ρ,V,A,S,hb,Old.refl base ρ V A,fun b h1 h2=>⟨b,h1,h2,rfl,id⟩⟩
 | true =>
 have S0:Sim ρ V A ⟨oD a.live s.env,s.heap,s.next⟩ s1:=by
  have ek:∀ k v,get (oD a.live s.env) k=some v→get s.env k=some v∧a.live.contains k=true:=by
   intro k v hk
   obtain ⟨q1,q2⟩:=IV s.env a.live
   have hm:=get_mem hk
   exact ⟨S.srt.get (q1.subset hm),by simpa using q2 _ hm⟩
  have ks:Srt (oD a.live s.env):=S.srt.sublist (IV s.env a.live).1
  rcases hs1 with rfl | rfl
  · exact ⟨ks,fun k v hk=>S.env k v (ek k v hk).1,S.heap,S.lt⟩
  · refine ⟨ks,fun k v hk=>?_,S.heap,S.lt⟩
    obtain ⟨h1,h2⟩:=ek k v hk
    obtain ⟨v',h3,h4⟩:=S.env k v h1
    refine ⟨v',?_,h4⟩
    simp only [iE,qF,hcn]
    split
    · exact h3
    · rw [Qq,Hq,h2,if_pos rfl];exact h3
 obtain ⟨V1,A1,S1,b1,o1,n1⟩:=abz (base:=base) a.grow _ s1 ρ V A S0 hb
 simp only [canon,hcn] at hc
 cases hnr:Uy a.grow with
 | true =>
  rw [hnr] at hc
  simp only [Option.some.injEq] at hc
  subst hc
  exact ⟨ρ,V1,A1,S1,b1,o1,fun b h1 h2=>by
   obtain ⟨c4,c5⟩:=n1 b h1 h2
   exact ⟨b,c4,c5,rfl,id⟩⟩
 | false =>
 rw [hnr] at hc
 simp only [Ui] at hc
 obtain ⟨q1,q2⟩:=YD (base:=base) (h:=(kG a.grow ⟨oD a.live s.env,s.heap,s.next⟩).heap) 1000 (D9 (kG a.grow ⟨oD a.live s.env,s.heap,s.next⟩).env++sF base (kG a.grow ⟨oD a.live s.env,s.heap,s.next⟩).heap) [] (by simp) (fun x hx=>by cases hx)
 obtain ⟨ρ',V',A',S2,b2,o2,n2⟩:=Nc S1 q1 q2 hc
 exact ⟨ρ',V',A',S2,b2,o1.trans o2,fun b h1 h2=>by
  obtain ⟨c,c1,c2,c3⟩:=n2 b h1 h2
  obtain ⟨c4,c5⟩:=n1 c c1 c2
  exact ⟨c,c4,c5,c3⟩⟩
end
end Go.Pw
end
section
set_option linter.unusedSimpArgs false
set_option linter.unusedVariables false
namespace Go.Pw
open Go Go.Pav
variable {ρ:Nat→Nat} {V A:Nat→Prop}
theorem SS {a b:List AV} (hl:a.length=b.length) (hr:∀ (j:Nat) (x x':AV),a[j]?=some x→b[j]?=some x'→VW ρ V A x x') (h:markRow a=true):markRow b=true:=by
 unfold markRow at h
 split at h
 · match b,hl with
   | [y],_ =>
    have:=hr 0 _ y rfl rfl
    cases this;rfl
 · cases h
theorem aaB {x u:AV} (h:VW ρ V A x u) (hx:AQ x=true):AQ u=true:=by
 cases h with
 | aZ=>rfl
 | iU=>rfl
 | ro z es es' ex ex' hc hl hxx he hr =>
  simp only [AQ,Bool.and_eq_true,decide_eq_true_eq,List.all_eq_true] at hx ⊢
  refine ⟨hx.1,fun e' he'=>?_⟩
  obtain ⟨i,hi,rfl⟩:=List.mem_iff_getElem.1 he'
  have hi2:i < es.length:=by omega
  exact SS (he i _ _ (List.getElem?_eq_getElem hi2) (List.getElem?_eq_getElem hi)) (fun j x x' h1 h2=>hr i _ _ j x x' (List.getElem?_eq_getElem hi2) (List.getElem?_eq_getElem hi) h1 h2) (hx.2 _ (List.getElem_mem hi2))
 | _=>simp [AQ] at hx
theorem WT {a b:List AV} {k:Int} (hl:a.length=b.length) (hr:∀ (j:Nat) (x x':AV),a[j]?=some x→b[j]?=some x'→VW ρ V A x x') (h:yG a=some k):yG b=some k:=by
 unfold yG at h
 split at h
 · match b,hl with
   | [y0,y1,y2,y3,y4,y5],_ =>
    have h0:=hr 0 _ y0 rfl rfl
    have h1:=hr 1 _ y1 rfl rfl
    have h2:=hr 2 _ y2 rfl rfl
    have h3:=hr 3 _ y3 rfl rfl
    have h4:=hr 4 _ y4 rfl rfl
    have h5:=hr 5 _ y5 rfl rfl
    cases h0;cases h1;cases h2;cases h4;cases h5
    split at h
    · rename_i hm
      simp only [yG,aaB h3 hm,if_true]
      exact h
    · cases h
 · cases h
theorem U2:∀ {es es':List (List AV)} {l:List Int},es.length=es'.length→(∀ (i:Nat) (e e':List AV),es[i]?=some e→es'[i]?=some e'→e.length=e'.length) →
 (∀ (i:Nat) (e e':List AV) (j:Nat) (x x':AV),es[i]?=some e→es'[i]?=some e'→e[j]?=some x→e'[j]?=some x'→VW ρ V A x x')→bn yG es=some l→bn yG es'=some l
 | [],[],_,_,_,_,h=>h
 | a::es,b::es',l,hl,he,hr,h=>by
  simp only [bn] at h ⊢
  obtain ⟨k,h1,h⟩:=au h
  obtain ⟨r,h2,h⟩:=aA h
  rw [WT (he 0 a b rfl rfl) (fun j x x'=>hr 0 a b j x x' rfl rfl) h1,ob,U2 (by simpa using hl) (fun i e e' h1 h2=>he (i+1) e e' (by simpa using h1) (by simpa using h2)) (fun i e e' j x x' h1 h2=>hr (i+1) e e' j x x' (by simpa using h1) (by simpa using h2)) h2,om,h]
 | [],_::_,_,hl,_,_,_=>by simp at hl
 | _::_,[],_,hl,_,_,_=>by simp at hl
theorem GI {x u:AV} {l:List Int} (h:VW ρ V A x u) (hx:oZ x=some l):oZ u=some l:=by
 cases h with
 | agg cs cs' hl hr =>
  unfold oZ at hx
  split at hx
  · rename_i e;cases e
    match cs',hl with
    | [y],_ =>
     have:=hr 0 _ y rfl rfl
     cases this;exact hx
  · rename_i z es ex e;cases e
    match cs',hl with
    | [y],_ =>
     have:=hr 0 _ y rfl rfl
     split at hx
     · rename_i hz
       cases this with
       | iU=>simpa [oZ,bn] using hx
       | ro z es es' ex ex' hc hl2 hxx he2 hr2 =>
        simp only [oZ]
        rw [if_pos ⟨hz.1,by omega⟩]
        exact U2 hl2 he2 hr2 hx
     · cases hx
  · cases hx
 | _=>simp [oZ] at hx
theorem MG {a b:List AV} (hl:a.length=b.length) (hr:∀ (j:Nat) (x x':AV),a[j]?=some x→b[j]?=some x'→VW ρ V A x x') {v:AV} (h:nR a=some v):nR b=some v∧VW ρ V A v v:=by
 unfold nR at h
 split at h
 · match b,hl with
   | [y0,y1,y2],_ =>
    have h0:=hr 0 _ y0 rfl rfl
    have h1:=hr 1 _ y1 rfl rfl
    have h2:=hr 2 _ y2 rfl rfl
    obtain ⟨kb,q1,h⟩:=au h
    obtain ⟨kn,q2,h⟩:=aA h
    subst h
    cases h2 with
    | agg cs cs' hl2 hr2 =>
     match cs',hl2 with
     | [z0,z1],_ =>
      have g0:=hr2 0 _ z0 rfl rfl
      have g1:=hr2 1 _ z1 rfl rfl
      cases g0;cases g1
      refine ⟨by simp only [nR,GI h0 q1,GI h1 q2,ob,om],.agg _ _ rfl fun j x x' e1 e2=>?_⟩
      match j with
      | 0=>cases e1;cases e2;exact .int _ _
      | 1=>cases e1;cases e2;exact .int _ _
      | j+2=>simp at e1
 · cases h
theorem nG:∀ (n i:Nat) (e:Env),(dJ n i e).length=n
 | 0,_,_=>rfl
 | n+1,i,e=>by simp only [dJ,List.length_cons,nG n]
theorem zH:∀ (n i j:Nat) (e:Env),j < n→(dJ n i e)[j]?=some ((get e (i+j)).getD .undef)
 | 0,_,_,_,h=>by omega
 | n+1,i,0,e,_=>rfl
 | n+1,i,j+1,e,h=>by
  simp only [dJ,List.getElem?_cons_succ]
  rw [zH n (i+1) j e (by omega)]
  congr 3;omega
theorem ady {e e':Env} (he:EW ρ V A e e') {k:Nat} {v:AV} (h:uU k (dJ (ug k) 0 e)=some v):uU k (dJ (ug k) 0 e')=some v∧VW ρ V A v v:=by
 unfold uU at h ⊢
 split at h
 · rename_i hk
   rw [if_pos hk]
   refine MG (by rw [nG,nG]) (fun j x x' h1 h2=>?_) h
   have hj:j < ug k:=by have:=(List.getElem?_eq_some_iff.1 h1).1;rwa [nG] at this
   rw [zH _ _ _ _ hj] at h1 h2
   cases h1;cases h2
   cases hg:get e (0+j) with
   | none=>exact .undef _
   | some y =>
    obtain ⟨u,q1,q2⟩:=he _ _ hg
    rw [q1];exact q2
 · cases h
end Go.Pw
end
section
set_option linter.unusedSimpArgs false
set_option linter.unusedVariables false
namespace Go.Pw
open Go Go.Pav
def Hi (base m0:Nat) (ρ:Nat→Nat) (V A:Nat→Prop):Prop:=∀ b,A b→¬ V b→base≤b→m0≤ρ b
structure Res (base m0:Nat) (ρ:Nat→Nat) (V A:Nat→Prop) (s1:WSt) (s1':St) (ρ':Nat→Nat) (V' A':Nat→Prop):Prop where
 sim:Sim ρ' V' A' s1 s1'
 iQ:base≤s1.next
 old:Old base ρ V A ρ' V' A'
 hi:Hi base m0 ρ' V' A'
section
variable {C:aG} {run:vg} {run':Run} {base m0:Nat}
theorem Res.canon {ρ:Nat→Nat} {V A:Nat→Prop} {s1 s2:WSt} {s1' s2':St} {ρ':Nat→Nat} {V' A':Nat→Prop} (R:Res base m0 ρ V A s1 s1' ρ' V' A') {a:Ann} (hc:canon base a s1=some s2)
 (hs:s2'=s1'∨s2'=iE (qF a) s1'):∃ ρ' V' A',Res base m0 ρ V A s2 s2' ρ' V' A':=by
 obtain ⟨ρ2,V2,A2,S2,b2,o2,n2⟩:=Xa R.sim R.iQ hc hs
 refine ⟨ρ2,V2,A2,S2,b2,R.old.trans o2,fun b h1 h2 h3=>?_⟩
 obtain ⟨c,c1,c2,c3,c4⟩:=n2 b h1 h2
 rw [c3]
 exact R.hi c c1 c2 (c4 h3)
theorem Res.frz {ρ:Nat→Nat} {V A:Nat→Prop} {k:Nat} {s1 s2:WSt} {s1':St} {ρ':Nat→Nat} {V' A':Nat→Prop} (R:Res base m0 ρ V A s1 s1' ρ' V' A') (hc:GY k s1=some s2) :
 ∃ s2',EX k s1'=some s2'∧s2'.next=s1'.next∧Res base m0 ρ V A s2 s2' ρ' V' A':=by
 obtain ⟨v,hv,hc⟩:=au hc
 obtain ⟨x,hx,rfl⟩:=aA hc
 obtain ⟨u,hu,hr⟩:=R.sim.env k v hv
 obtain ⟨y,hy,hd⟩:=GX R.sim.heap _ _ _ _ hr hx
 have hm:=uN R.sim.heap (aN s1.heap ay v) (reach s1'.heap ay u) (fun b' hb'=>Gq R.sim.heap _ _ _ _ hr hx b' hb')
 refine ⟨⟨cu s1'.env (some k) y,aO s1'.heap (aT s1'.heap (reach s1'.heap ay u)),s1'.next⟩,by simp only [EX,hu,ob,hy,om],rfl,⟨?_,R.iQ,R.old,R.hi⟩⟩
 exact ⟨R.sim.srt.cu (some k) x,R.sim.env.cu (d:=some k) (hd.mono fun _ q=>q.elim),hm.1,R.sim.lt⟩
theorem Res.SB {ρ:Nat→Nat} {V A:Nat→Prop} {ρ':Nat→Nat} {V' A':Nat→Prop}:∀ (l:List Nat) {s1 s2:WSt} {s1':St},Res base m0 ρ V A s1 s1' ρ' V' A'→lQ l s1=some s2 →
 ∃ s2',kK l s1'=some s2'∧s2'.next=s1'.next∧Res base m0 ρ V A s2 s2' ρ' V' A'
 | [],s1,s2,s1',R,h=>by simp only [lQ,Option.some.injEq] at h;subst h;exact ⟨s1',rfl,rfl,R⟩
 | k::l,s1,s2,s1',R,h=>by
  simp only [lQ] at h
  obtain ⟨s3,h1,h2⟩:=au h
  obtain ⟨s3',h3,e3,R3⟩:=R.frz h1
  obtain ⟨s2',h4,e4,R4⟩:=Res.SB l R3 h2
  exact ⟨s2',by simp only [kK,h3,ob];exact h4,e4.trans e3,R4⟩
theorem Keeps.old {ρ:Nat→Nat} {V A:Nat→Prop} {ρ':Nat→Nat} {V' A':Nat→Prop} (k:Keeps ρ V A ρ' V' A') (hn:∀ b,b < base→A' b→A b):Old base ρ V A ρ' V' A':=fun b hb=>⟨k b,hn b hb⟩
theorem N7 (hr:uO run run'):∀ (l:List aK) (s s1:WSt),(l.all fun o=>gB o.op)=true→fE C run l s=some s1→∀ (s':St) (ρ:Nat→Nat) (V A:Nat→Prop),Sim ρ V A s s'→base≤s.next→Hi base m0 ρ V A→m0≤s'.next →
 ∃ s1' ρ' V' A',jL (eu C) run' (l.map dY) s'=some s1'∧Res base m0 ρ V A s1 s1' ρ' V' A'∧m0≤s1'.next:=by
 intro l
 induction l with
 | nil =>
  intro s s1 _ he s' ρ V A S hb hi hm
  simp only [fE,Option.some.injEq] at he;subst he
  exact ⟨s',ρ,V,A,rfl,⟨S,hb,Old.refl base ρ V A,hi⟩,hm⟩
 | cons o l ih =>
  intro s s1 hok he s' ρ V A S hb hi hm
  simp only [List.all_cons,Bool.and_eq_true] at hok
  simp only [fE] at he
  obtain ⟨d,h1,he⟩:=au he
  have lt':Lts ρ V A (s.next+1) (s'.next+1):=⟨fun b hb=>Nat.lt_succ_of_lt (S.lt.w b hb),fun b hb hv=>Nat.lt_succ_of_lt (S.lt.p b hb hv)⟩
  obtain ⟨d',ρ1,V1,A1,h2,O⟩:=abf hr S.env S.heap lt' (nid:=s.next) (mid:=s'.next) (fun q=>Nat.lt_irrefl _ (S.lt.w _ q)) (Nat.lt_succ_self _) (fun b hb hv=>Nat.ne_of_lt (S.lt.p b hb hv)) (Nat.lt_succ_self _) hok.1 h1
  have S1:Sim ρ1 V1 A1 ⟨dN s.env o.dst d.v,d.h,d.n⟩ ⟨cu s'.env o.dst d'.v,d'.h,d'.n⟩:=⟨S.srt.cu _ _,(S.env.mono O.keeps).cu O.v,O.h,O.lt⟩
  have hi1:Hi base m0 ρ1 V1 A1:=by
   intro b q1 q2 q3
   rcases O.acV b q1 q2 with ⟨q4,q5⟩ | q4 | q4
   · rw [q5];exact hi b q4 (fun q=>q2 ((O.keeps b q4).2.2.2 q)) q3
   · omega
   · omega
  have hb1:base≤d.n:=by have:=O.next;omega
  have hm1:m0≤d'.n:=by have:=O.VG;omega
  obtain ⟨s1',ρ2,V2,A2,h3,R,h4⟩:=ih ⟨dN s.env o.dst d.v,d.h,d.n⟩ s1 hok.2 he _ ρ1 V1 A1 S1 hb1 hi1 hm1
  have o1:Old base ρ V A ρ1 V1 A1:=Keeps.old O.keeps fun b hbb hA=>by
   rcases O.new b hA with q | q | q
   · exact q
   · omega
   · omega
  refine ⟨s1',ρ2,V2,A2,?_,⟨R.sim,R.iQ,o1.trans R.old,R.hi⟩,h4⟩
  simp only [List.map_cons,jL]
  have:(dY o).dst=o.dst:=rfl
  rw [h2]
  simp only [ob,this]
  exact h3
def lV (ρ:Nat→Nat) (V A:Nat→Prop) (m1 m2:Nat) (d:kC) (d':Did):Prop :=
 (d'.bar=true→d.bar=true∧d.wr=[])∧(∀ b ∈ d'.rd,∃ c ∈ d.rd,b=ρ c∧¬ V c∧A c)∧(∀ b ∈ d'.wr,(∃ c ∈ SG d,b=ρ c∧¬ V c∧A c)∨∃ k w,d.bar=true∧d.wr=k::w∧m1≤b∧b < m2∧∀ c,A c→¬ V c→ρ c=b→k≤c)
theorem lV.mono {ρ ρ':Nat→Nat} {V A V' A':Nat→Prop} {m1 m2 m2' mid:Nat} {d:kC} {d':Did} (h:lV ρ V A m1 m2 d d') (k:Keeps ρ V A ρ' V' A') (hm:m2≤m2') (hmid:mid < m1)
 (hnew:∀ b,A' b→¬ V' b→(A b∧ρ' b=ρ b)∨ρ' b=mid∨m2≤ρ' b):lV ρ' V' A' m1 m2' d d':=by
 refine ⟨h.1,fun b hb=>?_,fun b hb=>?_⟩
 · obtain ⟨c,h1,h2,h3,h4⟩:=h.2.1 b hb
   obtain ⟨k1,k2,k3⟩:=k c h4
   exact ⟨c,h1,by rw [k2];exact h2,fun q=>h3 (k3.1 q),k1⟩
 · rcases h.2.2 b hb with ⟨c,h1,h2,h3,h4⟩ | ⟨j,w,h1,h2,h3,h4,h5⟩
   · obtain ⟨k1,k2,k3⟩:=k c h4
     exact .inl ⟨c,h1,by rw [k2];exact h2,fun q=>h3 (k3.1 q),k1⟩
   · refine .inr ⟨j,w,h1,h2,h3,by omega,fun c hA hV hc=>?_⟩
     rcases hnew c hA hV with ⟨q1,q2⟩ | q | q
     · exact h5 c q1 (fun q=>hV ((k c q1).2.2.2 q)) (by rw [← q2];exact hc)
     · omega
     · omega
theorem AL {ρ:Nat→Nat} {V A:Nat→Prop} (inj:∀ b c,A b→A c→¬ V b→¬ V c→ρ b=ρ c→b=c) {a b:List Nat} {a' b':List Nat}
 (ha:∀ x ∈ a',∃ c ∈ a,x=ρ c∧¬ V c∧A c) (hb:∀ x ∈ b',∃ c ∈ b,x=ρ c∧¬ V c∧A c) (h:meets a' b'=true):meets a b=true:=by
 simp only [meets,List.any_eq_true,decide_eq_true_eq] at h ⊢
 obtain ⟨x,hx,y,hy,rfl⟩:=h
 obtain ⟨c,h1,h2,h3,h4⟩:=ha x hx
 obtain ⟨d,h5,h6,h7,h8⟩:=hb x hy
 have:=inj c d h4 h8 h3 h7 (h2.symm.trans h6)
 subst this
 exact ⟨c,h1,c,h5,rfl⟩
theorem abC {ρ:Nat→Nat} {V A:Nat→Prop} (inj:∀ b c,A b→A c→¬ V b→¬ V c→ρ b=ρ c→b=c) {m1 m2:Nat} {a b:kC} {a' b':Did} (ha:lV ρ V A m1 m2 a a') (hb:lV ρ V A m1 m2 b b') (h:Uk a b=false):clash a' b'=false:=by
 have nt:∀ {x y:Bool},(x=true→y=true)→y=false→x=false:=by
  intro x y q1 q2;cases x <;> simp_all
 have plain:∀ {d:kC} {d':Did},lV ρ V A m1 m2 d d'→d.bar=false→d'.bar=false∧∀ b ∈ d'.wr,∃ c ∈ d.wr,b=ρ c∧¬ V c∧A c:=by
  intro d d' hd hq
  refine ⟨?_,fun b hb=>?_⟩
  · cases q:d'.bar with
    | false=>rfl
    | true=>rw [(hd.1 q).1] at hq;cases hq
  · rcases hd.2.2 b hb with ⟨c,q1,q2⟩ | ⟨_,_,q,_⟩
    · unfold SG at q1
      rw [hq] at q1
      exact ⟨c,q1,q2⟩
    · rw [hq] at q;cases q
 have deep:∀ {d e:kC} {d' e':Did},lV ρ V A m1 m2 d d'→lV ρ V A m1 m2 e e'→d.bar=true→e.bar=false→Um d.rd d.wr e.rd e.wr=false →
  d'.bar=false∧e'.bar=false∧meets d'.wr e'.wr=false∧meets d'.wr e'.rd=false∧meets d'.rd e'.wr=false:=by
  intro d e d' e' hd he hdb heb hh
  unfold Um at hh
  cases hw:d.wr with
  | nil=>rw [hw] at hh;cases hh
  | cons k w =>
   rw [hw] at hh
   simp only [Bool.or_eq_false_iff] at hh
   obtain ⟨g1,g2,g3,g4⟩:=hh
   obtain ⟨p1,p2⟩:=plain he heb
   have g1':∀ c ∈ e.rd++e.wr,¬ k≤c:=by
    intro c hc q
    have:=List.any_eq_false.1 g1 c hc
    simp [q] at this
   have key:∀ (l l':List Nat),(∀ x ∈ l',∃ c ∈ l,x=ρ c∧¬ V c∧A c)→(∀ c ∈ l,¬ k≤c)→meets w l=false→meets d'.wr l'=false:=by
    intro l l' h1 h2 h3
    cases q:meets d'.wr l' with
    | false=>rfl
    | true =>
     exfalso
     simp only [meets,List.any_eq_true,decide_eq_true_eq] at q
     obtain ⟨x,hx,y,hy,rfl⟩:=q
     obtain ⟨c,c1,c2,c3,c4⟩:=h1 x hy
     rcases hd.2.2 x hx with ⟨c',q1,q2,q3,q4⟩ | ⟨k',w',q1,q2,q3,q4,q5⟩
     · unfold SG at q1
       rw [hdb,hw] at q1
       simp only [List.tail_cons] at q1
       have:=inj c c' c4 q4 c3 q3 (c2.symm.trans q2)
       subst this
       have:meets w l=true:=by
        simp only [meets,List.any_eq_true,decide_eq_true_eq]
        exact ⟨c,q1,c,c1,rfl⟩
       rw [h3] at this;cases this
     · rw [hw] at q2
       cases q2
       exact h2 c c1 (q5 c c4 c3 c2.symm)
   refine ⟨?_,p1,key _ _ p2 (fun c hc=>g1' c (by simp [hc])) g2,key _ _ he.2.1 (fun c hc=>g1' c (by simp [hc])) g3,?_⟩
   · cases q:d'.bar with
     | false=>rfl
     | true=>rw [(hd.1 q).2] at hw;cases hw
   · cases q:meets d'.rd e'.wr with
     | false=>rfl
     | true=>rw [AL inj hd.2.1 p2 q] at g4;cases g4
 have msym:∀ a b:List Nat,meets a b=meets b a:=by
  intro a b
  cases q:meets a b with
  | true =>
   symm
   simp only [meets,List.any_eq_true,decide_eq_true_eq] at q ⊢
   obtain ⟨x,h1,y,h2,h3⟩:=q
   exact ⟨y,h2,x,h1,h3.symm⟩
  | false =>
   symm
   cases p:meets b a with
   | false=>rfl
   | true =>
    exfalso
    simp only [meets,List.any_eq_true,decide_eq_true_eq] at p
    obtain ⟨x,h1,y,h2,h3⟩:=p
    have:meets a b=true:=by
     simp only [meets,List.any_eq_true,decide_eq_true_eq]
     exact ⟨y,h2,x,h1,h3.symm⟩
    rw [q] at this;cases this
 have qt:∀ {d:kC} {d':Did},lV ρ V A m1 m2 d d'→Bq d=true→quiet d'=true:=by
  intro d d' hd hq
  simp only [Bq,Bool.and_eq_true,Bool.not_eq_true',List.isEmpty_iff] at hq
  simp only [quiet,Bool.and_eq_true,Bool.not_eq_true',List.isEmpty_iff]
  refine ⟨(plain hd hq.1).1,?_,?_⟩
  · cases hw:d'.wr with
    | nil=>rfl
    | cons b r =>
     obtain ⟨c,h1,_⟩:=(plain hd hq.1).2 b (by rw [hw];exact List.mem_cons_self)
     rw [hq.2.1] at h1;cases h1
  · cases hw:d'.rd with
    | nil=>rfl
    | cons b r =>
     obtain ⟨c,h1,_⟩:=hd.2.1 b (by rw [hw];exact List.mem_cons_self)
     rw [hq.2.2] at h1;cases h1
 unfold Uk at h
 unfold clash
 cases qa:Bq a with
 | true=>rw [qt ha qa];simp
 | false =>
  cases qb:Bq b with
  | true=>rw [qt hb qb];simp
  | false =>
   rw [qa,qb] at h
   simp only [Bool.or_self,Bool.not_false,Bool.true_and] at h
   cases ab:a.bar with
   | true =>
    rw [ab,if_pos rfl,Bool.or_eq_false_iff] at h
    obtain ⟨d1,d2,d3,d4,d5⟩:=deep ha hb ab h.1 h.2
    rw [d1,d2,d3,d4,d5];simp
   | false =>
   cases bb:b.bar with
   | true =>
    rw [ab,bb,if_neg (by simp),if_pos rfl] at h
    obtain ⟨d1,d2,d3,d4,d5⟩:=deep hb ha bb ab h
    rw [d1,d2,msym,d3,msym a'.wr,d5,msym a'.rd,d4];simp
   | false =>
   rw [ab,bb,if_neg (by simp),if_neg (by simp)] at h
   simp only [Bool.or_eq_false_iff] at h
   obtain ⟨h3,h4,h5⟩:=h
   obtain ⟨h1,ha2⟩:=plain ha ab
   obtain ⟨h2,hb2⟩:=plain hb bb
   have e:(a'.bar||(b'.bar||(meets a'.wr b'.wr||(meets a'.wr b'.rd||meets a'.rd b'.wr))))=false:=by
    simp only [Bool.or_eq_false_iff]
    exact ⟨h1,h2,nt (AL inj ha2 hb2) h3,nt (AL inj ha2 hb.2.1) h4,nt (AL inj ha.2.1 hb2) h5⟩
   rw [e,Bool.and_false]
theorem Yk (hr:uO run run'):∀ (l:List aK) (nid:Nat) (s s1:WSt) (ds ds1:List kC),(l.all fun o=>gB o.op)=true→fA C run l nid s ds=some (s1,ds1) →
 ∀ (mid:Nat) (s':St) (ds':List Did) (ρ:Nat→Nat) (V A:Nat→Prop),Sim ρ V A s s'→base≤nid→nid+l.length≤s.next→(∀ b,A b→b < nid∨nid+l.length≤b)→Hi base m0 ρ V A→m0≤mid→mid+l.length≤s'.next →
  (∀ b,A b→¬ V b→ρ b < mid∨mid+l.length≤ρ b)→∀ R:Nat,mid+l.length≤R→R≤s'.next→bf (lV ρ V A R s'.next) ds ds' →
 ∃ s1' ds1' ρ' V' A',oz (eu C) run' (l.map dY) mid s' ds'=some (s1',ds1')∧Res base m0 ρ V A s1 s1' ρ' V' A'∧m0≤s1'.next∧bf (lV ρ' V' A' R s1'.next) ds1 ds1':=by
 intro l
 induction l with
 | nil =>
  intro nid s s1 ds ds1 _ he mid s' ds' ρ V A S hb hnl _ hi hm hml _ R hR1 hR2 hds
  simp only [fA,Option.some.injEq,Prod.mk.injEq] at he
  obtain ⟨rfl,rfl⟩:=he
  simp only [List.length_nil] at hnl hml
  exact ⟨s',ds',ρ,V,A,rfl,⟨S,by omega,Old.refl base ρ V A,hi⟩,by omega,hds⟩
 | cons o l ih =>
  intro nid s s1 ds ds1 hok he mid s' ds' ρ V A S hb hnl hgap hi hm hml hgap' R hR1 hR2 hds
  simp only [List.all_cons,Bool.and_eq_true] at hok
  simp only [List.length_cons] at hnl hml hgap hgap' hR1
  simp only [fA] at he
  obtain ⟨d,h1,he⟩:=au he
  have hn:¬ A nid:=fun q=>by rcases hgap nid q with q | q <;> omega
  obtain ⟨d',ρ1,V1,A1,h2,O⟩:=abf hr S.env S.heap S.lt (nid:=nid) (mid:=mid) hn (by omega) (fun b hbb hv=>by rcases hgap' b hbb hv with q | q <;> omega) (by omega) hok.1 h1
  have S1:Sim ρ1 V1 A1 ⟨dN s.env o.dst d.v,d.h,d.n⟩ ⟨cu s'.env o.dst d'.v,d'.h,d'.n⟩:=⟨S.srt.cu _ _,(S.env.mono O.keeps).cu O.v,O.h,O.lt⟩
  have hi1:Hi base m0 ρ1 V1 A1:=by
   intro b q1 q2 q3
   rcases O.acV b q1 q2 with ⟨q4,q5⟩ | q4 | q4
   · rw [q5];exact hi b q4 (fun q=>q2 ((O.keeps b q4).2.2.2 q)) q3
   · omega
   · omega
  have hds1:bf (lV ρ1 V1 A1 R d'.n) (ds++[d]) (ds'++[d']):=(hds.mono fun x y _ hxy=>hxy.mono O.keeps O.VG (by omega) O.acV).append (.cons ⟨O.bar,O.rd,fun b hb=>by
   rcases O.wr b hb with q | ⟨k,w,q1,q2,q3,q4,q5⟩
   · exact .inl q
   · exact .inr ⟨k,w,q1,q2,by omega,q4,q5⟩⟩ .nil)
  obtain ⟨s1',ds1',ρ2,V2,A2,h3,R,h4,h5⟩:=ih (nid+1) ⟨dN s.env o.dst d.v,d.h,d.n⟩ s1 (ds++[d]) ds1 hok.2 he (mid+1) _ (ds'++[d']) ρ1 V1 A1 S1 (by omega) (by have:=O.next;simp only;omega)
   (fun b hbb=>by
    rcases O.new b hbb with q | q | q
    · rcases hgap b q with q | q <;> omega
    · omega
    · omega) hi1 (by omega) (by have:=O.VG;simp only;omega)
   (fun b hbb hv=>by
    rcases O.acV b hbb hv with ⟨q,q5⟩ | q | q
    · rw [q5];rcases hgap' b q (fun q6=>hv ((O.keeps b q).2.2.2 q6)) with q | q <;> omega
    · omega
    · omega) R (by omega) (by have:=O.VG;simp only;omega) hds1
  have o1:Old base ρ V A ρ1 V1 A1:=Keeps.old O.keeps fun b hbb hA=>by
   rcases O.new b hA with q | q | q
   · exact q
   · omega
   · omega
  refine ⟨s1',ds1',ρ2,V2,A2,?_,⟨R.sim,R.iQ,o1.trans R.old,R.hi⟩,h4,h5⟩
  simp only [List.map_cons,oz]
  have:(dY o).dst=o.dst:=rfl
  rw [h2]
  simp only [ob,this]
  exact h3
theorem Y0 {ρ:Nat→Nat} {V A:Nat→Prop} (inj:∀ b c,A b→A c→¬ V b→¬ V c→ρ b=ρ c→b=c) {m1 m2:Nat} {ds:List kC} {ds':List Did} (h:bf (lV ρ V A m1 m2) ds ds') {p:Nat × Nat} (ha:Gx ds p=true):apart ds' p=true:=by
 unfold Gx at ha
 split at ha
 · rename_i a b h1 h2
   obtain ⟨a',h3,h4⟩:=h.get h1
   obtain ⟨b',h5,h6⟩:=h.get h2
   unfold apart
   rw [h3,h5]
   simp only [Bool.not_eq_true'] at ha ⊢
   exact abC inj h4 h6 ha
 · cases ha
def DT (C:aG) (k:Nat):Prop :=
 ∀ (base:Nat) (c:aC) (s:WSt) (ex:Ex) (s1:WSt),okC c=true→evW C k base c s=some (ex,s1)→∀ (m0:Nat) (s':St) (ρ:Nat→Nat) (V A:Nat→Prop),Sim ρ V A s s'→base≤s.next→Hi base m0 ρ V A→m0≤s'.next →
  ∃ s1' ρ' V' A',evC (eu C) k (erC c) s'=some (ex,s1')∧Res base m0 ρ V A s1 s1' ρ' V' A'∧m0≤s1'.next
theorem Jo:∀ l:List AV,(erL l).length=l.length
 | []=>rfl
 | _::r=>by simp only [erL,List.length_cons,Jo r]
theorem ab7 {j:Nat} {s:WSt} {s':St} {ρ:Nat→Nat} {V A:Nat→Prop} (S:Sim ρ V A s s') (hb:base≤s.next) (hi:Hi base m0 ρ V A) (hm:m0≤s'.next) {z b:Nat} {xe:Bool} {zz:List AV} {u:AV} (hu:get s'.env 0=some u) (hr:VW ρ V A (.ro z [] xe) u) (hl:zz.length=z) :
 ∃ s1' ρ' V' A',evC (eu C) (j+8+1) (adL zz b) s'=some (.ret,s1') ∧
  Res base m0 ρ V A ⟨[(2,.sl s.next z 0 0 0 true)],put s.heap s.next (.cells z [] true true),s.next+1⟩ s1' ρ' V' A'∧m0≤s1'.next:=by
 have hn:¬ A s.next:=fun q=>Nat.lt_irrefl _ (S.lt.w _ q)
 obtain ⟨e0,h0,m⟩:=s'
 simp only at hu hm
 have hmo:∀ b,A b→addN A s.next b∧ρ b=ρ b∧((V b∨b=s.next)↔V b):=fun b q=>⟨.inl q,rfl,⟨fun h=>h.elim id fun e=>absurd (e ▸ q) hn,.inl⟩⟩
 cases hr with
 | iU =>
  refine ⟨⟨put (put (put (put e0 2 .aZ) 3 .aZ) 4 (.bool true)) 2 .aZ,h0,m+4⟩,ρ,fun b=>V b∨b=s.next,addN A s.next,?_,⟨⟨by simp [Srt],?_,⟨?_,?_,?_,?_,?_⟩,⟨?_,?_⟩⟩,Nat.le_succ_of_le hb,?_,?_⟩,Nat.le_trans hm (Nat.le_add_right _ _)⟩
  · simp [adL,evC,jL,jk,wants,iY,callOf,aH,sMv,FV,iy,Si,Opd.ev,ob,om,get_put,cu,hu,iO,kK,iE,bV,su,aO]
  · intro k v hk
    simp only [Pav.get] at hk
    split at hk
    · rename_i e;subst e;cases hk
      exact ⟨.aZ,by simp [get_put],.slv _ _ _ _ (.inr rfl) (.inr rfl) (.inl rfl)⟩
    · cases hk
  · intro b o hbo
    rw [get_put] at hbo
    split at hbo
    · rename_i e;exact .inr e.symm
    · exact .inl (S.heap.dom b o hbo)
  · intro b o hbo hv
    rw [get_put] at hbo
    split at hbo
    · cases hbo;exact ⟨z,true,true,rfl⟩
    · rename_i e
      exact S.heap.qM b o hbo (hv.resolve_right fun q=>e q.symm)
  · intro b o hbo hv
    rw [get_put] at hbo
    split at hbo
    · rename_i e;exact absurd (.inr e.symm) hv
    · obtain ⟨o',h1,h2⟩:=S.heap.obj b o hbo (fun q=>hv (.inl q))
      exact ⟨o',h1,h2.mono hmo⟩
  · rintro b (q | q)
    · exact .inl (S.heap.sub b q)
    · exact .inr q
  · rintro b c hb hc vb vc
    exact S.heap.inj b c (hb.resolve_right fun q=>vb (.inr q)) (hc.resolve_right fun q=>vc (.inr q)) (fun q=>vb (.inl q)) (fun q=>vc (.inl q))
  · rintro b (q | q)
    · exact Nat.lt_succ_of_lt (S.lt.w b q)
    · subst q;exact Nat.lt_succ_self _
  · intro b q v
    have:=S.lt.p b (q.resolve_right fun e=>v (.inr e)) (fun e=>v (.inl e))
    simp only at this ⊢;omega
  · intro b hbb
    have hne:b≠s.next:=by omega
    exact ⟨fun q=>hmo b q,fun q=>q.resolve_right hne⟩
  · intro b q v hbb
    exact hi b (q.resolve_right fun e=>v (.inr e)) (fun e=>v (.inl e)) hbb
 | ro _ _ es' _ ex' hc hl2 hx he hr =>
  have:es'=[]:=List.length_eq_zero_iff.1 hl2.symm
  subst this
  have hne:∀ b,A b→¬ V b→ρ b≠m+3:=fun b q v e=>by have:=S.lt.p b q v;simp only at this;omega
  refine ⟨⟨put (put (put (put (put (put (put e0 2 .aZ) 3 (.ro z [] ex')) 4 (.bool false)) 5 (.sl (m+3) z 0 0 0 true)) 6 (.ro z [] ex')) 7 (.sl (m+3) z 0 0 0 true)) 2 (.sl (m+3) z 0 0 0 true),put h0 (m+3) (.cells z [] true),m+7⟩,up ρ s.next (m+3),V,addN A s.next,?_,
   ⟨⟨by simp [Srt],?_,nV S.heap hn hne ⟨[],true,rfl,fun h=>h,.nil,fun _ e he=>by cases he⟩,⟨?_,?_⟩⟩,Nat.le_succ_of_le hb,?_,?_⟩,Nat.le_trans hm (Nat.le_add_right _ _)⟩
  · simp [adL,evC,jL,jk,wants,iY,callOf,aH,sMv,FV,iy,Si,Af,kX,QO,elems,jW,tV,Opd.ev,ob,om,get_put,cu,hu,hl,iO,kK,iE,bV,su,aO]
  · intro k v hk
    simp only [Pav.get] at hk
    split at hk
    · rename_i e;subst e;cases hk
      refine ⟨.sl (m+3) z 0 0 0 true,by simp [get_put],?_⟩
      have:up ρ s.next (m+3) s.next=m+3:=by simp [up]
      have key:=VW.sl (ρ:=up ρ s.next (m+3)) (V:=V) (A:=addN A s.next) s.next z 0 0 0 true true (.inr rfl) (fun q=>hn (S.heap.sub _ q)) (fun h=>h)
      rw [this] at key
      exact key
    · cases hk
  · rintro b (q | q)
    · exact Nat.lt_succ_of_lt (S.lt.w b q)
    · subst q;exact Nat.lt_succ_self _
  · intro b q v
    unfold up
    split
    · simp
    · rename_i e
      have:=S.lt.p b (q.resolve_right e) v
      simp only at this ⊢;omega
  · intro b hbb
    have hne2:b≠s.next:=by omega
    exact ⟨fun q=>pG hn b q,fun q=>q.resolve_right hne2⟩
  · intro b q v hbb
    unfold up
    split
    · omega
    · rename_i e
      exact hi b (q.resolve_right e) v hbb
theorem XK (ap:aK) (post:List aK):uP (dY ap) (post.map dY)=uP ap post:=by
 have e:∀ o:aK,(dY o).op.RZ=o.op.RZ:=fun o=>by
  obtain ⟨d,g,op⟩:=o
  cases op <;> rfl
 unfold uP
 rw [List.getLast?_map]
 cases post.getLast? with
 | none=>simp only [Option.map_none,e]
 | some o=>simp only [Option.map_some,e]
theorem ae9 {ρ:Nat→Nat} {V A:Nat→Prop} {x x':AV} (h:VW ρ V A x x') (hf:flat x=true):flat x'=true:=by
 cases h <;> first | rfl | (simp [flat] at hf)
theorem Zb {ρ:Nat→Nat} {V A:Nat→Prop} {x x':AV} (h:VW ρ V A x x') (hp:uJ x=true):x'=x:=by
 cases h <;> first | rfl | (simp [uJ] at hp)
theorem Xk {ρ ρ':Nat→Nat} {V A V' A':Nat→Prop} {e e':Env} (h:EW ρ V A e e') (k:Nat):VW ρ' V' A' (rQ e k) (rQ e' k):=by
 unfold rQ
 cases hg:get e k with
 | none=>exact .undef _
 | some v =>
  obtain ⟨v',hg',hv⟩:=h k v hg
  simp only [hg']
  by_cases hp:uJ v=true
  · have e1:=Zb hv hp
    subst e1
    rw [if_pos hp]
    cases v' <;> first | (simp [uJ] at hp;done) | constructor
  · rw [if_neg hp];exact .undef _
theorem IZ {ρ ρ':Nat→Nat} {V A V' A':Nat→Prop} {e2 e2':Env} (h:EW ρ V A e2 e2'):∀ (L:List Nat) {e e':Env},EW ρ' V' A' e e'→EW ρ' V' A' (pR e2 L e) (yw e2' L e')
 | [],_,_,he=>he
 | k::r,_,_,he=>IZ h r (he.put (Xk h k))
theorem FH (e2:Env):∀ (L:List Nat) {e:Env},Srt e→Srt (pR e2 L e)
 | [],_,h=>h
 | k::r,_,h=>FH e2 r (h.put k _)
theorem adX {ρ:Nat→Nat} {V A:Nat→Prop} {h:aJ} {h':Heap} {e e':Env} (he:EW ρ V A e e') (H:HW ρ V A h h') {o:aK} (hok:gB o.op=true) {v:AV} (hs:pW o e h=some v) :
 ∃ v',yt (dY o) e' h'=some v'∧VW ρ V A v v':=by
 unfold pW at hs
 split at hs
 case h_2=>cases hs
 rename_i hw
 have hw':wants e' (dY o).guard=some true:=Ja he hw
 unfold yt
 rw [hw']
 simp only
 obtain ⟨d,g,op⟩:=o
 simp only [dY] at *
 cases op <;> simp only [JM] at hs <;> try (cases hs;done)
 rename_i z bytes zeros s x
 split at hs
 · cases hs
 rename_i hz
 obtain ⟨⟨xs,d⟩,h1,h2⟩:=au hs
 simp only [gB,Bool.and_eq_true] at hok
 obtain ⟨xs',q1,q2,q3⟩:=FB H (he.opd hok.2.2) h1
 have hl:(erL z).length=z.length:=Jo z
 simp only at h2
 split at h2
 case isFalse=>cases h2
 rename_i hd
 simp only [fK,uz,if_neg hz,hl,q1,ob]
 have hv:=he.opd hok.2.1
 unfold Ky at h2
 split at h2
 case h_2=>cases h2
 rename_i b z' i len cap ex heq
 split at h2
 case h_2=>cases h2
 rename_i zb es mu dt hg
 split at h2
 case isFalse=>cases h2
 rename_i hc
 obtain ⟨rfl,rfl,rfl,rfl,rfl,rfl,hne,hbb,hfl⟩:=hc
 cases h2
 rw [heq] at hv
 generalize hsv:(erO s).ev e'=sv at hv ⊢
 generalize hn:es.length=n at hv
 cases hv with
 | slv _ _ _ _ hA hV hv =>
  obtain ⟨z0,mu0,dt0,e0⟩:=H.qM b _ hg hV
  cases e0
  simp at hne
 | sl _ _ _ _ _ _ ex' hA hV hx =>
  obtain ⟨o',ho',es',mu',rfl,r1,r2,r3⟩:=H.obj b _ hg hV
  have hR:bf (bf (VW ρ V A)) (es++xs) (es'++xs'):=r2.append q2
  have hC:∀ e ∈ es++xs,∀ x ∈ e,isC x=true:=by
   intro e he x hx
   rcases List.mem_append.1 he with q | q
   · exact r3 rfl e q x hx
   · exact q3 hd e q x hx
  have hfl':(es'++xs').all (fun e=>e.all flat)=true:=by
   rw [List.all_eq_true]
   intro e' he'
   rw [List.all_eq_true]
   intro x' hx'
   obtain ⟨i,hi⟩:=List.mem_iff_getElem?.1 he'
   obtain ⟨j,hj⟩:=List.mem_iff_getElem?.1 hx'
   obtain ⟨e,p1,p2⟩:=hR.get' hi
   obtain ⟨x,p3,p4⟩:=p2.get' hj
   exact ae9 p4 (List.all_eq_true.1 (List.all_eq_true.1 hfl _ (List.mem_of_getElem? p1)) _ (List.mem_of_getElem? p3))
  refine ⟨.ro z.length (es'++xs') false,?_,?_⟩
  · simp only [QZ,ho']
    rw [if_pos ⟨trivial,trivial,trivial,r1 rfl,r2.1.symm.trans hn,by rw [← r2.1,← q2.1];exact hbb,hfl'⟩]
  · exact .ro _ _ _ _ _ hC hR.1 (fun q=>q) (fun i e e' h3 h4=>(hR.2 i e e' h3 h4).1) (fun i e e' j x x' h3 h4 h5 h6 =>
     ((hR.2 i e e' h3 h4).2 j x x' h5 h6).isC (hC _ (List.mem_of_getElem? h3) _ (List.mem_of_getElem? h5)))
theorem ac8 (hr:uO run run') {pre:List aK} {ap:aK} {post:List aK} {s s2:WSt} (hok:okC (.iso pre ap post ⟨false,[],[]⟩)=true) (he:oJ C run pre ap post s=some s2) {s':St} {ρ:Nat→Nat} {V A:Nat→Prop}
 (S:Sim ρ V A s s') (hb:base≤s.next) (hi:Hi base m0 ρ V A) (hm:m0≤s'.next) :
 ∃ s2' ρ' V' A',uK (eu C) run' (pre.map dY) (dY ap) (post.map dY) s'=some s2'∧Res base m0 ρ V A s2 s2' ρ' V' A'∧m0≤s2'.next:=by
 simp only [okC,Bool.and_eq_true] at hok
 unfold oJ at he
 split at he
 case isFalse=>cases he
 rename_i hlast
 obtain ⟨s1,h1,he⟩:=au he
 obtain ⟨v,h2,he⟩:=au he
 obtain ⟨t,h3,he⟩:=aA he
 obtain ⟨s1',ρ1,V1,A1,g1,R,g2⟩:=N7 hr pre s s1 hok.1 h1 s' ρ V A S hb hi hm
 obtain ⟨v',g3,g4⟩:=adX R.sim.env R.sim.heap hok.2.1 h2
 have S1:Sim ρ1 V1 A1 ⟨dN s1.env ap.dst v,[],s1.next⟩ ⟨cu s1'.env ap.dst v',[],s1'.next⟩ :=
  ⟨R.sim.srt.cu _ _,R.sim.env.cu g4,⟨fun b o hb=>by simp [Pav.get] at hb,fun b o hb=>by simp [Pav.get] at hb,fun b o hb=>by simp [Pav.get] at hb,R.sim.heap.sub,R.sim.heap.inj⟩,R.sim.lt⟩
 obtain ⟨t',ρ2,V2,A2,g5,R2,g6⟩:=N7 (base:=s1.next) (m0:=s1'.next) hr post _ t hok.2.2 h3 _ ρ1 V1 A1 S1 (Nat.le_refl _) (fun b q _ q3=>absurd (R.sim.lt.w b q) (by omega)) (Nat.le_refl _)
 subst he
 have hd:((dY ap::post.map dY).filterMap (·.dst))=(ap::post).filterMap (·.dst):=by
  rw [← List.map_cons,List.filterMap_map]
  rfl
 refine ⟨⟨yw t'.env ((dY ap::post.map dY).filterMap (·.dst)) s1'.env,s1'.heap,t'.next⟩,ρ1,V1,A1,?_,⟨⟨FH _ _ R.sim.srt,?_,R.sim.heap,?_⟩,Nat.le_trans R.iQ R2.iQ,R.old,R.hi⟩,Nat.le_trans g2 g6⟩
 · unfold uK
   rw [XK,if_pos hlast]
   simp only [g1,ob,g3,om,show (dY ap).dst=ap.dst from rfl,g5]
 · rw [hd]
   exact IZ R2.sim.env _ R.sim.env
 · exact ⟨fun b q=>Nat.lt_of_lt_of_le (R.sim.lt.w b q) R2.iQ,fun b q q2=>Nat.lt_of_lt_of_le (R.sim.lt.p b q q2) g6⟩
theorem Yn {k:Nat} (ih:DT C k) (hr:uO (eU C (evW C k)) (runWith (eu C) (evC (eu C) k))):DT C (k+1):=by
 intro base c s ex s1 hok he m0 s' ρ V A S hb hi hm
 cases c with
 | skip=>simp only [evW,Option.some.injEq,Prod.mk.injEq] at he;obtain ⟨rfl,rfl⟩:=he;exact ⟨s',ρ,V,A,rfl,⟨S,hb,Old.refl base ρ V A,hi⟩,hm⟩
 | exit id=>simp only [evW,Option.some.injEq,Prod.mk.injEq] at he;obtain ⟨rfl,rfl⟩:=he;exact ⟨s',ρ,V,A,rfl,⟨S,hb,Old.refl base ρ V A,hi⟩,hm⟩
 | ret=>simp only [evW,Option.some.injEq,Prod.mk.injEq] at he;obtain ⟨rfl,rfl⟩:=he;exact ⟨s',ρ,V,A,rfl,⟨S,hb,Old.refl base ρ V A,hi⟩,hm⟩
 | fail=>simp [evW] at he
 | Aq k0 =>
  simp only [evW] at he
  obtain ⟨v,h1,he⟩:=aA he
  simp only [Prod.mk.injEq] at he
  obtain ⟨rfl,rfl⟩:=he
  obtain ⟨h2,hv⟩:=ady S.env h1
  exact ⟨⟨put s'.env 9 v,s'.heap,s'.next⟩,ρ,V,A,by simp only [erC,evC,h2,om],⟨⟨S.srt.put _ _,S.env.put hv,S.heap,S.lt⟩,hb,Old.refl base ρ V A,hi⟩,hm⟩
 | cln zz z b =>
  simp only [evW] at he
  split at he
  · rename_i z' hz
    split at he
    · rename_i hc
      obtain ⟨rfl,hzz,hk⟩:=hc
      simp only [Option.some.injEq,Prod.mk.injEq] at he
      obtain ⟨rfl,rfl⟩:=he
      obtain ⟨x,hx,hx2⟩:=Option.bind_eq_some_iff.1 hz
      obtain ⟨j,rfl⟩:∃ j,k=j+8:=⟨k - 8,by omega⟩
      obtain ⟨u,hu,hr⟩:=S.env 0 x hx
      obtain ⟨xe,hxe⟩:∃ e,x=.ro z' [] e:=by
       unfold jZ at hx2
       split at hx2
       · cases hx2;exact ⟨_,rfl⟩
       · cases hx2
      subst hxe
      have hl:(erL zz).length=z':=by rw [Jo];exact hzz
      exact ab7 S hb hi hm hu hr hl
    · cases he
  · obtain ⟨s1',ρ1,V1,A1,h3,R,h4⟩:=ih base (QJ zz z b) s ex s1 (by simpa [okC,QJ,gB,okO,okV,okL] using hok) he m0 s' ρ V A S hb hi hm
    exact ⟨s1',ρ1,V1,A1,oM k (k+1) (Nat.le_succ k) _ _ _ h3,R,h4⟩
 | ops l a =>
  simp only [evW] at he
  obtain ⟨s2,h1,he⟩:=au he
  obtain ⟨s3,h2,he⟩:=aA he
  cases he
  obtain ⟨s1',ρ1,V1,A1,h3,R,h4⟩:=N7 hr l s s2 hok h1 s' ρ V A S hb hi hm
  obtain ⟨s2b,h2b,h2⟩:=au h2
  obtain ⟨s2b',h5,e5,R5⟩:=R.SB _ h2b
  obtain ⟨ρ2,V2,A2,R2⟩:=R5.canon h2 (.inr rfl)
  exact ⟨_,ρ2,V2,A2,by simp only [erC,evC,h3,ob,iO,h5,om],R2,by rw [← e5] at h4;exact h4⟩
 | iso pre ap post a =>
  simp only [evW] at he
  obtain ⟨s2,h1,he⟩:=au he
  obtain ⟨s3,h2,he⟩:=aA he
  cases he
  obtain ⟨s1',ρ1,V1,A1,h3,R,h4⟩:=ac8 hr hok h1 S hb hi hm
  obtain ⟨s2b,h2b,h2⟩:=au h2
  obtain ⟨s2b',h5,e5,R5⟩:=R.SB _ h2b
  obtain ⟨ρ2,V2,A2,R2⟩:=R5.canon h2 (.inr rfl)
  exact ⟨_,ρ2,V2,A2,by simp only [erC,evC,h3,ob,iO,h5,om],R2,by rw [← e5] at h4;exact h4⟩
 | draw l un a =>
  simp only [evW] at he
  obtain ⟨⟨s2,ds⟩,h1,he⟩:=au he
  unfold uT at he
  split at he
  · rename_i hap
    obtain ⟨s3,h2,he⟩:=aA he
    cases he
    have S0:Sim ρ V A ⟨s.env,s.heap,s.next+l.length⟩ ⟨s'.env,s'.heap,s'.next+l.length⟩:=⟨S.srt,S.env,S.heap,fun b q=>Nat.lt_of_lt_of_le (S.lt.w b q) (Nat.le_add_right _ _),fun b q v=>Nat.lt_of_lt_of_le (S.lt.p b q v) (Nat.le_add_right _ _)⟩
    obtain ⟨s1',ds1',ρ1,V1,A1,h3,R,h4,h5⟩:=Yk hr l s.next _ s2 [] ds hok h1 s'.next _ [] ρ V A S0 hb (Nat.le_refl _) (fun b q=>.inl (S.lt.w b q)) hi hm (Nat.le_refl _) (fun b q v=>.inl (S.lt.p b q v)) (s'.next+l.length) (Nat.le_refl _) (Nat.le_refl _) .nil
    obtain ⟨s2b,h2b,h2⟩:=au h2
    obtain ⟨s2b',h6,e6,R6⟩:=R.SB _ h2b
    obtain ⟨ρ2,V2,A2,R2⟩:=R6.canon h2 (.inr rfl)
    refine ⟨_,ρ2,V2,A2,?_,R2,by rw [← e6] at h4;exact h4⟩
    simp only [erC,evC,List.length_map]
    rw [h3]
    simp only [ob,AX,iO,h6,om]
    rw [if_pos]
    simp only [List.all_eq_true] at hap ⊢
    exact fun p hp=>Y0 R.sim.heap.inj h5 (hap p hp)
  · cases he
 | seq a b =>
  simp only [okC,Bool.and_eq_true] at hok
  simp only [evW] at he
  obtain ⟨⟨e1,s2⟩,h1,he⟩:=au he
  obtain ⟨s1',ρ1,V1,A1,h3,R,h4⟩:=ih base a s e1 s2 hok.1 h1 m0 s' ρ V A S hb hi hm
  cases e1 with
  | norm =>
   simp only [eF] at he
   obtain ⟨s2',ρ2,V2,A2,h5,R2,h6⟩:=ih base b s2 ex s1 hok.2 he m0 s1' ρ1 V1 A1 R.sim R.iQ R.hi h4
   exact ⟨s2',ρ2,V2,A2,by simp only [erC,evC,h3,ob,bV,h5],⟨R2.sim,R2.iQ,R.old.trans R2.old,R2.hi⟩,h6⟩
  | exit id=>simp only [eF,Option.some.injEq,Prod.mk.injEq] at he;obtain ⟨rfl,rfl⟩:=he;exact ⟨s1',ρ1,V1,A1,by simp only [erC,evC,h3,ob,bV],R,h4⟩
  | ret=>simp only [eF,Option.some.injEq,Prod.mk.injEq] at he;obtain ⟨rfl,rfl⟩:=he;exact ⟨s1',ρ1,V1,A1,by simp only [erC,evC,h3,ob,bV],R,h4⟩
 | cond c a b =>
  simp only [okC,Bool.and_eq_true] at hok
  simp only [evW] at he
  have hc:=S.env.opd hok.1
  unfold vC at he
  split at he
  · rename_i t ht
    rw [ht] at hc
    cases t with
    | true =>
     simp only [if_true] at he
     obtain ⟨s1',ρ1,V1,A1,h3,R,h4⟩:=ih base a s ex s1 hok.2.1 he m0 s' ρ V A S hb hi hm
     exact ⟨s1',ρ1,V1,A1,by simp only [erC,evC,hc.fB,su,if_true];exact h3,R,h4⟩
    | false =>
     simp only [Bool.false_eq_true,if_false] at he
     obtain ⟨s1',ρ1,V1,A1,h3,R,h4⟩:=ih base b s ex s1 hok.2.2 he m0 s' ρ V A S hb hi hm
     exact ⟨s1',ρ1,V1,A1,by simp only [erC,evC,hc.fB,su,Bool.false_eq_true,if_false];exact h3,R,h4⟩
  · cases he
 | block id b a =>
  simp only [okC] at hok
  simp only [evW] at he
  obtain ⟨⟨e1,s2⟩,h1,he⟩:=au he
  obtain ⟨s1',ρ1,V1,A1,h3,R,h4⟩:=ih base b s e1 s2 hok h1 m0 s' ρ V A S hb hi hm
  cases e1 with
  | norm =>
   simp only [kM] at he
   obtain ⟨s3,h5,he⟩:=aA he
   cases he
   obtain ⟨ρ2,V2,A2,R2⟩:=R.canon h5 (.inl rfl)
   exact ⟨s1',ρ2,V2,A2,by simp only [erC,evC,h3,om,cO],R2,h4⟩
  | exit i =>
   simp only [kM] at he
   split at he
   · rename_i hid
     obtain ⟨s3,h5,he⟩:=aA he
     cases he
     obtain ⟨ρ2,V2,A2,R2⟩:=R.canon h5 (.inl rfl)
     exact ⟨s1',ρ2,V2,A2,by simp only [erC,evC,h3,om,cO,if_pos hid],R2,h4⟩
   · rename_i hid
     simp only [Option.some.injEq,Prod.mk.injEq] at he;obtain ⟨rfl,rfl⟩:=he
     exact ⟨s1',ρ1,V1,A1,by simp only [erC,evC,h3,om,cO,if_neg hid],R,h4⟩
  | ret =>
   simp only [kM,Option.some.injEq,Prod.mk.injEq] at he;obtain ⟨rfl,rfl⟩:=he
   exact ⟨s1',ρ1,V1,A1,by simp only [erC,evC,h3,om,cO],R,h4⟩
 | loop a b =>
  have hok':okC b=true:=hok
  simp only [evW] at he
  obtain ⟨s0,h0,he⟩:=au he
  obtain ⟨⟨e1,s2⟩,h1,he⟩:=au he
  obtain ⟨ρ0,V0,A0,R0⟩:=(⟨S,hb,Old.refl base ρ V A,hi⟩:Res base m0 ρ V A s s' ρ V A).canon h0 (s2':=iE (qF a) s') (.inr rfl)
  obtain ⟨s1',ρ1,V1,A1,h3,R,h4⟩:=ih base b s0 e1 s2 hok' h1 m0 _ ρ0 V0 A0 R0.sim R0.iQ R0.hi hm
  have R':Res base m0 ρ V A s2 s1' ρ1 V1 A1:=⟨R.sim,R.iQ,R0.old.trans R.old,R.hi⟩
  cases e1 with
  | norm =>
   simp only [eF] at he
   obtain ⟨s2',ρ2,V2,A2,h5,R2,h6⟩:=ih base (.loop a b) s2 ex s1 hok he m0 s1' ρ1 V1 A1 R.sim R.iQ R.hi h4
   exact ⟨s2',ρ2,V2,A2,by simp only [erC,evC,h3,ob,bV];exact h5,⟨R2.sim,R2.iQ,R'.old.trans R2.old,R2.hi⟩,h6⟩
  | exit id=>simp only [eF,Option.some.injEq,Prod.mk.injEq] at he;obtain ⟨rfl,rfl⟩:=he;exact ⟨s1',ρ1,V1,A1,by simp only [erC,evC,h3,ob,bV],R',h4⟩
  | ret=>simp only [eF,Option.some.injEq,Prod.mk.injEq] at he;obtain ⟨rfl,rfl⟩:=he;exact ⟨s1',ρ1,V1,A1,by simp only [erC,evC,h3,ob,bV],R',h4⟩
theorem Gh {ρ:Nat→Nat} {V A:Nat→Prop} {e:Env} {e':Env} {h:aJ} {h':Heap} (he:EW ρ V A e e') (H:HW ρ V A h h') {rs:List uj} {v:AV} (hv:Hu e h rs=some v):∃ v',Pav.results e' h' rs=some v'∧VW ρ V A v v':=by
 obtain ⟨vs,h1,rfl⟩:=aA hv
 have one:∀ r x,BQ e h r=some x→∃ x',CZ e' h' r=some x'∧VW ρ V A x x':=by
  intro r x hx
  cases r with
  | tmp t=>exact he t x hx
  | cell t k ag =>
   simp only [BQ] at hx
   split at hx
   · rename_i b i o hg
     obtain ⟨p,h2,h3⟩:=he t _ hg
     obtain ⟨rfl,hA,hV⟩:=h3.iT
     unfold xC at hx
     split at hx
     · rename_i z es mu dt hgb
       obtain ⟨cs,h4,h5⟩:=au hx
       obtain ⟨o',g1,es',mu',rfl,_,ge,_⟩:=H.obj b _ hgb hV
       obtain ⟨cs',h6,h7⟩:=ge.get h4
       obtain ⟨v',h8,h9⟩:=uo (h7.drop o) h5
       exact ⟨v',by simp only [CZ,h2,g1,loadAt,h6,ob];exact h8,h9⟩
     · cases hx
   · cases hx
 have lst:∀ (rs:List uj) (vs:List AV),bn (BQ e h) rs=some vs→∃ vs',bn (CZ e' h') rs=some vs'∧bf (VW ρ V A) vs vs':=by
  intro rs
  induction rs with
  | nil=>intro vs hq;simp only [bn,Option.some.injEq] at hq;subst hq;exact ⟨[],rfl,.nil⟩
  | cons r rs ih =>
   intro vs hq
   simp only [bn] at hq ⊢
   obtain ⟨x,h2,hq⟩:=au hq
   obtain ⟨xs,h3,rfl⟩:=aA hq
   obtain ⟨x',h4,h5⟩:=one r x h2
   obtain ⟨xs',h6,h7⟩:=ih xs h3
   exact ⟨x'::xs',by rw [h4,h6];rfl,.cons h5 h7⟩
 obtain ⟨vs',h2,h3⟩:=lst rs vs h1
 refine ⟨CG vs',by simp only [Pav.results,h2,om],?_⟩
 cases vs with
 | nil=>rw [h3.dV];exact VW.lg .nil
 | cons a r =>
  obtain ⟨b,t,rfl,h4,h5⟩:=h3.dw
  cases r with
  | nil=>rw [h5.dV];exact h4
  | cons a2 r2 =>
   obtain ⟨b2,t2,rfl,h6,h7⟩:=h5.dw
   exact VW.lg (.cons h4 (.cons h6 h7))
theorem Tt:∀ (l:List AV) (k j:Nat),get (dX k l) j=if j < k then none else l[j - k]?:=by
 intro l
 induction l with
 | nil=>intro k j;simp [dX,Pav.get]
 | cons a l ih =>
  intro k j
  simp only [dX,Pav.get]
  by_cases h1:k=j
  · subst h1;simp
  · rw [if_neg h1,ih]
    by_cases h2:j < k
    · rw [if_pos (by omega),if_pos h2]
    · rw [if_neg (by omega),if_neg h2]
      have:j - k=(j - (k+1))+1:=by omega
      rw [this];simp
theorem SI:∀ (t:qW) (g:Nat),(BH t).get g=(t.get g).map aV:=by
 intro t
 induction t with
 | leaf=>intro g;rfl
 | node l k f r ihl ihr =>
  intro g
  simp only [BH,Tree.get,qW.get]
  split
  · rfl
  · split
    · exact ihl g
    · exact ihr g
theorem RY:∀ (t:qW) (g:Nat) (f:WFn),tH t=true→t.get g=some f→okC f.body=true:=by
 intro t
 induction t with
 | leaf=>intro g f _ h;simp [qW.get] at h
 | node l k f r ihl ihr =>
  intro g f' hok h
  simp only [tH,Bool.and_eq_true] at hok
  simp only [qW.get] at h
  split at h
  · cases h;exact hok.2.1
  · split at h
    · exact ihl g f' hok.1 h
    · exact ihr g f' hok.2.2 h
theorem UL (hok:tH C.fns=true) {k:Nat} (hc:DT C k):uO (eU C (evW C k)) (runWith (eu C) (evC (eu C) k)):=by
 intro f args h n v h1 n1 hrun ρ V A args' h' m ha H lt
 unfold eU at hrun
 obtain ⟨fn,hf,hrun⟩:=au hrun
 split at hrun
 · rename_i hl
   obtain ⟨⟨ex,s1⟩,h2,h3⟩:=au hrun
   have S:Sim ρ V A ⟨HY 0 args [],h,n⟩ ⟨dX 0 args',h',m⟩:=by
    refine ⟨aex args 0,fun j x hj=>?_,H,lt⟩
    have hj2:get (dX 0 args) j=some x:=by
     have hm:=get_mem hj
     rw [Vh,List.append_nil] at hm
     have hm2:=List.mem_reverse.1 hm
     have key:∀ (l:List AV) (k:Nat),(j,x) ∈ dX k l→get (dX k l) j=some x:=by
      intro l
      induction l with
      | nil=>intro k hq;simp [dX] at hq
      | cons v l ih =>
       intro k hq
       simp only [dX,Pav.get]
       rcases List.mem_cons.1 hq with q | q
       · cases q;simp
       · have:=(Pg l (k+1)).2 _ q
         simp only at this
         rw [if_neg (by omega)]
         exact ih (k+1) q
     exact key args 0 hm2
    simp only [Tt,Nat.not_lt_zero,if_false,Nat.sub_zero] at hj2 ⊢
    exact ha.get hj2
   obtain ⟨s1',ρ1,V1,A1,h4,R,h5⟩:=hc n fn.body _ ex s1 (RY _ _ _ hok hf) h2 m ⟨dX 0 args',h',m⟩ ρ V A S (Nat.le_refl _) (fun b hb _ hn=>absurd (lt.w b hb) (by omega)) (Nat.le_refl _)
   have fin:∃ v',Pav.results s1'.env s1'.heap fn.res=some v'∧VW ρ1 V1 A1 v v'∧s1.heap=h1∧s1.next=n1∧∀ i,ex≠.exit i:=by
    unfold yF at h3
    cases ex with
    | exit i=>cases h3
    | norm =>
     obtain ⟨w,q1,q2⟩:=aA h3
     cases q2
     obtain ⟨v',q3,q4⟩:=Gh R.sim.env R.sim.heap q1
     exact ⟨v',q3,q4,rfl,rfl,fun i e=>by cases e⟩
    | ret =>
     obtain ⟨w,q1,q2⟩:=aA h3
     cases q2
     obtain ⟨v',q3,q4⟩:=Gh R.sim.env R.sim.heap q1
     exact ⟨v',q3,q4,rfl,rfl,fun i e=>by cases e⟩
   obtain ⟨v',h6,h7,rfl,rfl,h8⟩:=fin
   refine ⟨v',s1'.heap,s1'.next,ρ1,V1,A1,?_,h7,R.sim.heap,R.sim.lt,fun b hb=>(R.old b (lt.w b hb)).1 hb,fun b hb=>?_,fun b hb hv=>?_,R.iQ,h5⟩
   · unfold runWith
     have:(eu C).fns.get f=some (aV fn):=by
      show (BH C.fns).get f=_
      rw [SI,hf];rfl
     rw [this]
     have hnp:args'.length=(aV fn).np:=by rw [← ha.1];exact hl
     simp only [ob]
     rw [if_pos hnp,show (aV fn).body=erC fn.body from rfl,h4]
     cases ex with
     | exit i=>exact absurd rfl (h8 i)
     | norm=>simp only [Qn,show (aV fn).res=fn.res from rfl,h6,om]
     | ret=>simp only [Qn,show (aV fn).res=fn.res from rfl,h6,om]
   · rcases Nat.lt_or_ge b n with q | q
     · exact .inl ((R.old b q).2 hb)
     · exact .inr q
   · rcases Nat.lt_or_ge b n with q | q
     · have:=(R.old b q).2 hb
       exact .inl ⟨this,((R.old b q).1 this).2.1⟩
     · exact .inr (R.hi b hb hv q)
 · cases hrun
theorem aeh (hok:tH C.fns=true):∀ k,DT C k:=by
 intro k
 induction k with
 | zero=>intro base c s ex s1 _ he;simp [evW] at he
 | succ k ih=>exact Yn ih (UL hok ih)
theorem aag (hok:tH C.fns=true) {k f:Nat} {args args':List AV} {v:AV} (ha:bf (VD id fun _=>False) args args') (hc:YR C k f args=some v):∃ v',af2 (eu C) k f args'=some v'∧VD id (fun _=>False) v v' :=
 Qe (UL hok (aeh hok k)) ha hc
end
end Go.Pw
end
section
set_option linter.unusedSimpArgs false
set_option linter.unusedVariables false
namespace Go.Pw
open Go Go.Pav
def qE (r r':vg):Prop:=∀ f args h n x,r f args h n=some x→r' f args h n=some x
section
variable {C:aG} {r r':vg}
theorem Lj (hr:qE r r') {f:Nat} {args:List AV} {h:aJ} {nid n:Nat} {c:xO} (hc:jm C r f args h nid n=some c):jm C r' f args h nid n=some c:=by
 unfold jm at hc ⊢
 split
 · rename_i hi
   rw [if_pos hi] at hc
   split
   · rename_i hf
     rw [if_pos hf] at hc
     refine bI hc (fun x hx=>hx) fun az has=>?_
     by_cases hdp:rV f=true
     · rw [if_pos hdp] at has ⊢
       exact bI has (fun x hx=>hr _ _ _ _ _ hx) fun x hx=>hx
     · rw [if_neg hdp] at has ⊢
       exact bI has (fun v hv=>bI hv (fun x hx=>hr _ _ _ _ _ hx) fun x hx=>hx) fun x hx=>hx
   · rename_i hf
     rw [if_neg hf] at hc
     exact jR hc fun x hx=>hr _ _ _ _ _ hx
 · rename_i hi
   rw [if_neg hi] at hc
   split
   · rename_i hp;rw [if_pos hp] at hc;exact jR hc fun x hx=>hr _ _ _ _ _ hx
   · rename_i hp
     rw [if_neg hp] at hc
     exact bI hc (fun x hx=>hx) fun az has=>jR has fun v hv=>bI hv (fun x hx=>hr _ _ _ _ _ hx) fun x hx=>hx
theorem OB (hr:qE r r') {op:COp} {nid:Nat} {e:Env} {h:aJ} {n:Nat} {d:kC} (hd:jB C r op nid e h n=some d):jB C r' op nid e h n=some d:=by
 unfold jB at hd ⊢
 split
 · rename_i hc;rw [hc] at hd;cases hd
 · rename_i hc;rw [hc] at hd;exact jR hd fun c hc=>Lj hr hc
 · rename_i hc;rw [hc] at hd;exact hd
theorem sZ (hr:qE r r') {o:aK} {nid:Nat} {e:Env} {h:aJ} {n:Nat} {d:kC} (hd:gy C r o nid e h n=some d):gy C r' o nid e h n=some d:=by
 unfold gy at hd ⊢
 split
 · rename_i hc;rw [hc] at hd;cases hd
 · rename_i hc;rw [hc] at hd;exact hd
 · rename_i hc;rw [hc] at hd;exact OB hr hd
theorem jd (hr:qE r r'):∀ (l:List aK) (s s':WSt),fE C r l s=some s'→fE C r' l s=some s':=by
 intro l
 induction l with
 | nil=>intro s s' h;exact h
 | cons o l ih=>intro s s' h;exact bI h (fun d hd=>sZ hr hd) fun d hd=>ih _ _ hd
theorem sV (hr:qE r r'):∀ (l:List aK) (nid:Nat) (s:WSt) (ds:List kC) (x:WSt × List kC),fA C r l nid s ds=some x→fA C r' l nid s ds=some x:=by
 intro l
 induction l with
 | nil=>intro nid s ds x h;exact h
 | cons o l ih=>intro nid s ds x h;exact bI h (fun d hd=>sZ hr hd) fun d hd=>ih _ _ _ _ hd
theorem qC {ev ev':WEv} (he:∀ b c s x,ev b c s=some x→ev' b c s=some x):qE (eU C ev) (eU C ev'):=by
 intro f args h n x hx
 refine bI hx (fun a ha=>ha) fun fn hfn=>?_
 split
 · rename_i hl
   rw [if_pos hl] at hfn
   exact bI hfn (fun a ha=>he _ _ _ _ ha) fun a ha=>ha
 · rename_i hl
   rw [if_neg hl] at hfn;cases hfn
theorem pq {b b':WSt→Option (Ex × WSt)} (h:∀ s x,b s=some x→b' s=some x) {r:Ex × WSt} {x:Ex × WSt} (hx:eF b r=some x):eF b' r=some x:=by
 unfold eF at hx ⊢
 split
 · rename_i hr;rw [hr] at hx;exact h _ _ hx
 · split at hx
   · rename_i h1 _ h2;exact absurd h2 h1
   · exact hx
theorem Dp (hr:qE r r') {pre:List aK} {ap:aK} {post:List aK} {s s':WSt} (h:oJ C r pre ap post s=some s'):oJ C r' pre ap post s=some s':=by
 unfold oJ at h ⊢
 split
 · rename_i hl
   rw [if_pos hl] at h
   exact bI h (fun s1 h1=>jd hr _ _ _ h1) fun s1 h1=>bI h1 (fun v hv=>hv) fun v hv=>jR hv fun s2 h2=>jd hr _ _ _ h2
 · rename_i hl
   rw [if_neg hl] at h
   cases h
theorem nU:∀ (n m:Nat),n≤m→∀ (base:Nat) (c:aC) (s:WSt) (x:Ex × WSt),evW C n base c s=some x→evW C m base c s=some x:=by
 intro n
 induction n with
 | zero=>intro m _ base c s x h;simp only [evW] at h;cases h
 | succ n ih =>
  intro m hm base c s x h
  obtain ⟨m,rfl⟩:∃ k,m=k+1:=⟨m - 1,by omega⟩
  have ih':=ih m (by omega)
  have hr:qE (eU C (evW C n)) (eU C (evW C m)):=qC ih'
  cases c with
  | skip=>exact h
  | exit id=>exact h
  | ret=>exact h
  | fail=>exact h
  | Aq k=>exact h
  | cln zz z b =>
   simp only [evW] at h ⊢
   split
   · rename_i z' hz
     rw [hz] at h
     simp only at h
     split at h
     · rename_i hc;rw [if_pos ⟨hc.1,hc.2.1,by omega⟩];exact h
     · cases h
   · rename_i hz
     rw [hz] at h
     exact ih' _ _ _ _ h
  | ops l a=>simp only [evW] at h ⊢;exact bI h (fun s' hs=>jd hr l s s' hs) fun x hx=>hx
  | iso pre ap post a=>simp only [evW] at h ⊢;exact bI h (fun s' hs=>Dp hr hs) fun x hx=>hx
  | draw l un a=>simp only [evW] at h ⊢;exact bI h (fun x hx=>sV hr l _ _ _ x hx) fun x hx=>hx
  | seq a b=>simp only [evW] at h ⊢;exact bI h (fun x hx=>ih' _ _ _ _ hx) fun x hx=>pq (fun s x hx=>ih' _ _ _ _ hx) hx
  | cond c a b =>
   simp only [evW] at h ⊢
   unfold vC at h ⊢
   split
   · rename_i t hv
     rw [hv] at h
     cases t with
     | true=>exact ih' _ _ _ _ h
     | false=>exact ih' _ _ _ _ h
   · split at h
     · rename_i h1 _ t hv;exact absurd hv (h1 t)
     · cases h
  | block id b a=>simp only [evW] at h ⊢;exact bI h (fun x hx=>ih' _ _ _ _ hx) fun x hx=>hx
  | loop a b=>simp only [evW] at h ⊢;exact bI h (fun x hx=>hx) fun s hs=>bI hs (fun x hx=>ih' _ _ _ _ hx) fun x hx=>pq (fun s x hx=>ih' _ _ _ _ hx) hx
theorem nS {n m:Nat} (h:n≤m):qE (Hr C n) (Hr C m):=qC (nU n m h)
end
section
variable (C:aG)
noncomputable def CdW:WEv:=fun base c s=>lim fun n=>evW C n base c s
noncomputable def RnW:vg:=eU C (CdW C)
noncomputable def FnW (f:Nat) (args:List AV):Option AV:=jo (RnW C) f args
end
section
variable {C:aG} {base:Nat}
theorem ai2 (base:Nat) (c:aC) (s:WSt):aeO fun n=>evW C n base c s:=fun n m h a ha=>nU n m h base c s a ha
theorem kT {c:aC} {s:WSt} {x:Ex × WSt}:CdW C base c s=some x↔∃ n,evW C n base c s=some x:=aej (ai2 base c s)
theorem uZ {n:Nat} {c:aC} {s:WSt} {x:Ex × WSt} (h:evW C n base c s=some x):CdW C base c s=some x:=kT.2 ⟨n,h⟩
theorem wK (n:Nat):qE (Hr C n) (RnW C):=qC fun _ _ _ _ h=>uZ h
theorem wC {f:Nat} {args:List AV} {h:aJ} {n:Nat} {x:AV × aJ × Nat} (hx:RnW C f args h n=some x):∃ k,Hr C k f args h n=some x:=by
 unfold RnW eU at hx
 obtain ⟨fn,hf,hx⟩:=au hx
 split at hx
 · rename_i hl
   obtain ⟨y,hc,hx⟩:=au hx
   obtain ⟨k,hk⟩:=kT.1 hc
   refine ⟨k,?_⟩
   unfold Hr eU
   rw [hf]
   simp only [ob,if_pos hl,hk]
   exact hx
 · cases hx
theorem KT {f:Nat} {args:List AV} {h:aJ} {nid n:Nat} {c:xO} (hc:jm C (RnW C) f args h nid n=some c):∃ k,jm C (Hr C k) f args h nid n=some c:=by
 unfold jm at hc ⊢
 split
 · rename_i hi
   rw [if_pos hi] at hc
   split
   · rename_i hf
     rw [if_pos hf] at hc
     obtain ⟨az,h1,hc⟩:=au hc
     by_cases hdp:rV f=true
     · rw [if_pos hdp] at hc
       obtain ⟨r,h3,hc⟩:=au hc
       obtain ⟨k,hk⟩:=wC h3
       refine ⟨k,?_⟩
       rw [h1]
       simp only [ob,if_pos hdp,hk]
       exact hc
     rw [if_neg hdp] at hc
     obtain ⟨x,h2,hend⟩:=au hc
     obtain ⟨r,h3,h4⟩:=au h2
     obtain ⟨k,hk⟩:=wC h3
     refine ⟨k,?_⟩
     rw [h1]
     simp only [ob,if_neg hdp]
     unfold iW
     simp only [ob,hk]
     rw [h4]
     exact hend
   · rename_i hf
     rw [if_neg hf] at hc
     obtain ⟨r,h1,rfl⟩:=aA hc
     obtain ⟨k,hk⟩:=wC h1
     exact ⟨k,by rw [hk];rfl⟩
 · rename_i hi
   rw [if_neg hi] at hc
   split
   · rename_i hp
     rw [if_pos hp] at hc
     obtain ⟨r,h1,rfl⟩:=aA hc
     obtain ⟨k,hk⟩:=wC h1
     exact ⟨k,by rw [hk];rfl⟩
   · rename_i hp
     rw [if_neg hp] at hc
     obtain ⟨az,h1,hc⟩:=au hc
     obtain ⟨v,h2,rfl⟩:=aA hc
     obtain ⟨r,h3,h4⟩:=au h2
     obtain ⟨k,hk⟩:=wC h3
     exact ⟨k,by rw [h1];simp only [ob,jo,hk,h4];rfl⟩
theorem FD {o:aK} {nid:Nat} {e:Env} {h:aJ} {n:Nat} {d:kC} (hd:gy C (RnW C) o nid e h n=some d):∃ k,gy C (Hr C k) o nid e h n=some d:=by
 unfold gy at hd ⊢
 split
 · rename_i hc;rw [hc] at hd;cases hd
 · rename_i hc;rw [hc] at hd;exact ⟨0,hd⟩
 · rename_i hc
   rw [hc] at hd
   simp only at hd
   unfold jB at hd ⊢
   split
   · rename_i hc;rw [hc] at hd;cases hd
   · rename_i hc
     rw [hc] at hd
     simp only at hd
     obtain ⟨r,h1,rfl⟩:=aA hd
     obtain ⟨k,hk⟩:=KT h1
     exact ⟨k,by rw [hk];rfl⟩
   · rename_i hc;rw [hc] at hd;exact ⟨0,hd⟩
theorem uD:∀ (l:List aK) (s s':WSt),fE C (RnW C) l s=some s'→∃ k,fE C (Hr C k) l s=some s':=by
 intro l
 induction l with
 | nil=>intro s s' h;exact ⟨0,h⟩
 | cons o l ih =>
  intro s s' h
  simp only [fE] at h ⊢
  obtain ⟨d,hd,h⟩:=au h
  obtain ⟨k1,h1⟩:=FD hd
  obtain ⟨k2,h2⟩:=ih _ _ h
  refine ⟨max k1 k2,?_⟩
  rw [sZ (nS (Nat.le_max_left k1 k2)) h1]
  exact jd (nS (Nat.le_max_right k1 k2)) _ _ _ h2
theorem N8:∀ (l:List aK) (nid:Nat) (s:WSt) (ds:List kC) (x:WSt × List kC),fA C (RnW C) l nid s ds=some x→∃ k,fA C (Hr C k) l nid s ds=some x:=by
 intro l
 induction l with
 | nil=>intro nid s ds x h;exact ⟨0,h⟩
 | cons o l ih =>
  intro nid s ds x h
  simp only [fA] at h ⊢
  obtain ⟨d,hd,h⟩:=au h
  obtain ⟨k1,h1⟩:=FD hd
  obtain ⟨k2,h2⟩:=ih _ _ _ _ h
  refine ⟨max k1 k2,?_⟩
  rw [sZ (nS (Nat.le_max_left k1 k2)) h1]
  exact sV (nS (Nat.le_max_right k1 k2)) _ _ _ _ _ h2
theorem ae0 (s:WSt):CdW C base .skip s=some (.norm,s):=uZ (n:=1) rfl
theorem adz (id:Nat) (s:WSt):CdW C base (.exit id) s=some (.exit id,s):=uZ (n:=1) rfl
theorem ae1 (k:Nat) (s:WSt):CdW C base (.Aq k) s=om (uU k (dJ (ug k) 0 s.env)) fun v=>(.ret,⟨uh s.env 9 v,s.heap,s.next⟩):=by
 cases h:om (uU k (dJ (ug k) 0 s.env)) fun v=>((.ret,⟨uh s.env 9 v,s.heap,s.next⟩):Ex × WSt) with
 | some x=>exact uZ (n:=1) h
 | none =>
  cases h2:CdW C base (.Aq k) s with
  | none=>rfl
  | some x =>
   obtain ⟨n,hn⟩:=kT.1 h2
   cases n with
   | zero=>simp only [evW] at hn;cases hn
   | succ n=>simp only [evW] at hn;rw [h] at hn;cases hn
theorem ah7 (s:WSt):CdW C base .ret s=some (.ret,s):=uZ (n:=1) rfl
theorem qc {c:aC} {s:WSt} {x:Ex × WSt}:CdW C base c s=some x↔∃ n,evW C (n+1) base c s=some x:=by
 rw [kT]
 constructor
 · rintro ⟨n,h⟩;exact ⟨n,nU n (n+1) (Nat.le_succ n) base c s x h⟩
 · rintro ⟨n,h⟩;exact ⟨_,h⟩
theorem rW {b:aC} {r x:Ex × WSt}:eF (CdW C base b) r=some x↔∃ n,eF (evW C n base b) r=some x:=by
 obtain ⟨ex,s⟩:=r
 cases ex with
 | norm=>simp only [eF];exact kT
 | exit id=>simp [eF]
 | ret=>simp [eF]
theorem ahW (a b:aC) (s:WSt):CdW C base (.seq a b) s=ob (CdW C base a s) (eF (CdW C base b)):=by
 refine oV fun x=>?_
 rw [qc,lN]
 simp only [evW,lN]
 constructor
 · rintro ⟨n,r,h1,h2⟩;exact ⟨r,uZ h1,rW.2 ⟨n,h2⟩⟩
 · rintro ⟨r,h1,h2⟩
   obtain ⟨n,h1⟩:=kT.1 h1
   obtain ⟨m,h2⟩:=rW.1 h2
   exact ⟨max n m,r,nU _ _ (Nat.le_max_left n m) _ _ _ _ h1,pq (fun s x hx=>nU _ _ (Nat.le_max_right n m) _ _ _ _ hx) h2⟩
theorem ac3 (a:Ann) (b:aC) (s:WSt):CdW C base (.loop a b) s=ob (canon base a s) fun s=>ob (CdW C base b s) (eF (CdW C base (.loop a b))):=by
 refine oV fun x=>?_
 rw [qc,lN]
 simp only [evW,lN]
 constructor
 · rintro ⟨n,s0,h0,r,h1,h2⟩;exact ⟨s0,h0,r,uZ h1,rW.2 ⟨n,h2⟩⟩
 · rintro ⟨s0,h0,r,h1,h2⟩
   obtain ⟨n,h1⟩:=kT.1 h1
   obtain ⟨m,h2⟩:=rW.1 h2
   exact ⟨max n m,s0,h0,r,nU _ _ (Nat.le_max_left n m) _ _ _ _ h1,pq (fun s x hx=>nU _ _ (Nat.le_max_right n m) _ _ _ _ hx) h2⟩
theorem YM (id:Nat) (b:aC) (a:Ann) (s:WSt):CdW C base (.block id b a) s=ob (CdW C base b s) (kM base id a):=by
 refine oV fun x=>?_
 rw [qc,lN]
 simp only [evW,lN]
 constructor
 · rintro ⟨n,r,h1,h2⟩;exact ⟨r,uZ h1,h2⟩
 · rintro ⟨r,h1,h2⟩
   obtain ⟨n,h1⟩:=kT.1 h1
   exact ⟨n,r,h1,h2⟩
theorem aez (c:Opd) (a b:aC) (s:WSt):CdW C base (.cond c a b) s=vC (CdW C base a) (CdW C base b) (c.ev s.env) s:=by
 refine oV fun x=>?_
 rw [qc]
 simp only [evW]
 unfold vC
 split
 · rename_i t _
   cases t with
   | true=>exact kT.symm
   | false=>exact kT.symm
 · simp
theorem aia (l:List aK) (a:Ann) (s:WSt):CdW C base (.ops l a) s=ob (fE C (RnW C) l s) fun s=>om (jV base a s) fun s=>(.norm,s):=by
 refine oV fun x=>?_
 rw [qc,lN]
 simp only [evW,lN]
 constructor
 · rintro ⟨n,r,h1,h2⟩;exact ⟨r,jd (wK n) _ _ _ h1,h2⟩
 · rintro ⟨r,h1,h2⟩
   obtain ⟨n,h1⟩:=uD _ _ _ h1
   exact ⟨n,r,h1,h2⟩
theorem PG {pre:List aK} {ap:aK} {post:List aK} {s s':WSt} (h:oJ C (RnW C) pre ap post s=some s'):∃ k,oJ C (Hr C k) pre ap post s=some s':=by
 unfold oJ at h ⊢
 split
 · rename_i hl
   rw [if_pos hl] at h
   obtain ⟨s1,h1,h⟩:=au h
   obtain ⟨v,h2,h⟩:=au h
   obtain ⟨s2,h3,h⟩:=aA h
   obtain ⟨k1,q1⟩:=uD _ _ _ h1
   obtain ⟨k2,q2⟩:=uD _ _ _ h3
   refine ⟨max k1 k2,?_⟩
   rw [jd (nS (Nat.le_max_left k1 k2)) _ _ _ q1]
   simp only [ob,h2,jd (nS (Nat.le_max_right k1 k2)) _ _ _ q2,om,h]
 · rename_i hl
   rw [if_neg hl] at h
   cases h
theorem agx (pre:List aK) (ap:aK) (post:List aK) (a:Ann) (s:WSt):CdW C base (.iso pre ap post a) s=ob (oJ C (RnW C) pre ap post s) fun s=>om (jV base a s) fun s=>(.norm,s):=by
 refine oV fun x=>?_
 rw [qc,lN]
 simp only [evW,lN]
 constructor
 · rintro ⟨n,r,h1,h2⟩;exact ⟨r,Dp (wK n) h1,h2⟩
 · rintro ⟨r,h1,h2⟩
   obtain ⟨n,h1⟩:=PG h1
   exact ⟨n,r,h1,h2⟩
theorem acD (l:List aK) (un:List (Nat × Nat)) (a:Ann) (s:WSt):CdW C base (.draw l un a) s=ob (fA C (RnW C) l s.next ⟨s.env,s.heap,s.next+l.length⟩ []) (uT base un a):=by
 refine oV fun x=>?_
 rw [qc,lN]
 simp only [evW,lN]
 constructor
 · rintro ⟨n,r,h1,h2⟩;exact ⟨r,sV (wK n) _ _ _ _ _ h1,h2⟩
 · rintro ⟨r,h1,h2⟩
   obtain ⟨n,h1⟩:=N8 _ _ _ _ _ h1
   exact ⟨n,r,h1,h2⟩
theorem abX (zz:List AV) (z b:Nat) (s:WSt):CdW C base (.cln zz z b) s=match (Pav.get s.env 0).bind jZ with
 | some z'=>if z'=z∧zz.length=z then some (.ret,⟨[(2,.sl s.next z 0 0 0 true)],Pav.put s.heap s.next (.cells z [] true true),s.next+1⟩) else none
 | none=>CdW C base (QJ zz z b) s:=by
 refine oV fun x=>?_
 rw [qc]
 simp only [evW]
 cases hq:(Pav.get s.env 0).bind jZ with
 | some z' =>
  simp only
  by_cases hc:z'=z∧zz.length=z
  · rw [if_pos hc]
    constructor
    · rintro ⟨n,h⟩
      split at h
      · exact h
      · cases h
    · intro h;exact ⟨8,by rw [if_pos ⟨hc.1,hc.2,by omega⟩];exact h⟩
  · rw [if_neg hc]
    constructor
    · rintro ⟨n,h⟩
      rw [if_neg (fun w=>hc ⟨w.1,w.2.1⟩)] at h
      exact h
    · intro h;cases h
 | none=>exact kT.symm
theorem Pn {f:Nat} {args:List AV} {v:AV}:FnW C f args=some v↔∃ n,YR C n f args=some v:=by
 unfold FnW YR jo
 simp only [lN]
 constructor
 · rintro ⟨r,h1,h2⟩
   obtain ⟨k,h1⟩:=wC h1
   exact ⟨k,r,h1,h2⟩
 · rintro ⟨k,r,h1,h2⟩;exact ⟨r,wK k _ _ _ _ _ h1,h2⟩
end
end Go.Pw
end
section
set_option linter.unusedSimpArgs false
set_option linter.unusedVariables false
namespace Go.Pw
open Go Go.Pav
inductive Frame where
 | sq (b:aC)
 | bk (id:Nat) (a:Ann)
 | lp (a:Ann) (b:aC)
def qR:Env→Nat→AV→Env
 | [],_,_=>[]
 | (k,v)::r,g,x=>if k=g then (k,x)::r else (k,v)::qR r g x
section
variable {β:Type}
noncomputable def RK (C:aG) (base:Nat):List Frame→Ex × WSt→Option (Ex × WSt)
 | [],r=>some r
 | .sq b::k,r=>ob (eF (CdW C base b) r) (RK C base k)
 | .bk id a::k,r=>ob (kM base id a r) (RK C base k)
 | .lp a b::k,r=>ob (eF (CdW C base (.loop a b)) r) (RK C base k)
noncomputable def CK (C:aG) (base:Nat) (fin:Ex × WSt→Option β) (k:List Frame) (c:aC) (s:WSt):Option β:=ob (CdW C base c s) fun r=>ob (RK C base k r) fin
noncomputable def NK (C:aG) (base:Nat) (fin:Ex × WSt→Option β) (k:List Frame) (ex:Ex) (s:WSt):Option β:=ob (RK C base k (ex,s)) fin
noncomputable def AK (C:aG) (base:Nat) (fin:Ex × WSt→Option β) (k:List Frame) (s:Option WSt):Option β:=ob s fun s=>NK C base fin k .norm s
noncomputable def LK (C:aG) (base:Nat) (fin:Ex × WSt→Option β) (k:List Frame) (b:aC) (s:Option WSt):Option β:=ob s fun s=>CK C base fin k b s
noncomputable def OK (C:aG) (base:Nat) (fin:Ex × WSt→Option β) (k:List Frame) (a:Ann) (l:List aK) (s:WSt):Option β :=
 ob (fE C (RnW C) l s) fun s=>AK C base fin k (jV base a s)
noncomputable def SK (C:aG) (base:Nat) (fin:Ex × WSt→Option β) (k:List Frame) (a:Ann) (l:List aK) (d:Option Nat) (e:Env) (h:aJ) (n:Nat) (x:Option (AV × dP)):Option β :=
 ob x fun x=>OK C base fin k a l ⟨dN e d x.1,bK h x.2,n⟩
noncomputable def PI (C:aG) (base:Nat) (fin:Ex × WSt→Option β) (k:List Frame) (a b:aC) (s:WSt) (v:AV):Option β :=
 match v with
 | .bool t=>if t=true then CK C base fin k a s else CK C base fin k b s
 | _=>none
noncomputable def GK (C:aG) (base:Nat) (fin:Ex × WSt→Option β) (k:List Frame) (a:Ann) (l:List aK) (d:Option Nat) (op:COp) (g:Nat) (w:Bool) (e:Env) (h:aJ) (n:Nat) (v:Option AV):Option β :=
 match v with
 | some (.bool b)=>if b=w then OK C base fin k a (⟨d,none,op⟩::l) ⟨qR e g (.bool w),h,n⟩ else OK C base fin k a l ⟨dN (qR e g (.bool (!w))) d (.tup []),h,n+1⟩
 | some (.tup [])=>OK C base fin k a l ⟨dN e d (.tup []),h,n+1⟩
 | _=>none
noncomputable def VK (C:aG) (base:Nat) (fin:Ex × WSt→Option β) (k:List Frame) (a:Ann) (l:List aK) (d:Option Nat) (e:Env) (h:aJ) (n:Nat) (args:List AV) (v:Option AV):Option β :=
 ob v fun v=>OK C base fin k a l ⟨dN e d v,bK h (oI h args v),n⟩
noncomputable def WK (C:aG) (base:Nat) (fin:Ex × WSt→Option β) (k:List Frame) (a:Ann) (l:List aK) (d:Option Nat) (e:Env) (r:Option (AV × aJ × Nat)):Option β :=
 ob r fun r=>OK C base fin k a l ⟨dN e d r.1,r.2.1,r.2.2⟩
noncomputable def PK (C:aG) (base:Nat) (fin:Ex × WSt→Option β) (k:List Frame) (a:Ann) (l:List aK) (d:Option Nat) (e:Env) (h:aJ) (n:Nat) (f:Nat) (args:List AV) (az:Option (List AV)):Option β :=
 ob az fun az=>VK C base fin k a l d e h n args (FnW C f az)
noncomputable def BSK (C:aG) (base:Nat) (fin:Ex × WSt→Option β) (k:List Frame) (a:Ann) (l:List aK) (d:Option Nat) (e:Env) (h:aJ) (n:Nat) (v:AV) (u:dP) (ok:Bool):Option β :=
 if ok=true then OK C base fin k a l ⟨dN e d v,bK h u,n⟩ else none
noncomputable def FSK (C:aG) (base:Nat) (fin:Ex × WSt→Option β) (k:List Frame) (a:Ann) (l:List aK) (d:Option Nat) (e:Env) (h:aJ) (n:Nat) (br:Bool) (args:List AV) (x:Option (AV × dP)):Option β :=
 ob x fun x=>if br=true then BSK C base fin k a l d e h n x.1 x.2 (mP x) else OK C base fin k a l ⟨dN e d x.1,bK h (aY h (args.flatMap (aN h ay))++x.2),n⟩
def over (n:Nat) (h1 h:aJ):aJ:=bK h (DF n h1)
noncomputable def HBK (C:aG) (base:Nat) (fin:Ex × WSt→Option β) (k:List Frame) (a:Ann) (l:List aK) (d:Option Nat) (e:Env) (h:aJ) (n:Nat) (v:AV) (h1:aJ) (n1:Nat) (ok:Bool):Option β :=
 if ok=true then OK C base fin k a l ⟨dN e d v,over n (h1.filter fun x=>(aN h1 ay v).contains x.1) h,n1⟩ else none
noncomputable def HK (C:aG) (base:Nat) (fin:Ex × WSt→Option β) (k:List Frame) (a:Ann) (l:List aK) (d:Option Nat) (e:Env) (h:aJ) (n:Nat) (db:Bool) (args:List AV) (r:Option (AV × aJ × Nat)):Option β :=
 ob r fun r=>if db=true then HBK C base fin k a l d e h n r.1 r.2.1 r.2.2 (oq r.2.1 r.1 (aN r.2.1 ay r.1)) else OK C base fin k a l ⟨dN e d r.1,over n r.2.1 (bK h (aY h (args.flatMap (aN h ay)))),r.2.2⟩
noncomputable def TK (C:aG) (base:Nat) (fin:Ex × WSt→Option β) (k:List Frame) (a:Ann) (l:List aK) (d:Option Nat) (e:Env) (h:aJ) (n:Nat) (f:Nat) (args az:List AV) (dp:Bool):Option β :=
 if dp=true then HK C base fin k a l d e h n (yL f) args (RnW C f az [] n) else FSK C base fin k a l d e h n (ru f) args (iW (RnW C) f az (n - 1))
noncomputable def FPK (C:aG) (base:Nat) (fin:Ex × WSt→Option β) (k:List Frame) (a:Ann) (l:List aK) (d:Option Nat) (e:Env) (h:aJ) (n:Nat) (f:Nat) (args:List AV) (az:Option (List AV)):Option β :=
 ob az fun az=>TK C base fin k a l d e h n f args az (rV f)
noncomputable def IK (C:aG) (base:Nat) (fin:Ex × WSt→Option β) (k:List Frame) (a:Ann) (l:List aK) (d:Option Nat) (e:Env) (h:aJ) (n:Nat) (f:Nat) (args:List AV) (fr:Bool):Option β :=
 if fr=true then FPK C base fin k a l d e h n f args (bn (bM h ay) args) else WK C base fin k a l d e (RnW C f args h n)
noncomputable def FK (C:aG) (base:Nat) (fin:Ex × WSt→Option β) (k:List Frame) (a:Ann) (l:List aK) (d:Option Nat) (e:Env) (h:aJ) (n:Nat) (f:Nat) (args:List AV) (inl ptr:Bool):Option β :=
 if inl=true then IK C base fin k a l d e h n f args (JA f) else if ptr=true then WK C base fin k a l d e (RnW C f args h n) else PK C base fin k a l d e h n f args (bn (bM h ay) args)
noncomputable def QK (C:aG) (base:Nat) (fin:Ex × WSt→Option β) (k:List Frame) (a:Ann) (l:List aK) (d:Option Nat) (e:Env) (h:aJ) (n:Nat) (args:List AV) (g:AV):Option β :=
 match g with
 | .fn f caps=>FK C base fin k a l d e h n f (args++caps) (C.inl f) (!C.pp f&&bQ (args++caps))
 | _=>none
abbrev RW:=Bool × List Nat × List Nat
def Xt (d:kC):RW:=(d.bar,d.rd,d.wr)
def Ud (d:RW):Bool:=!d.1&&(d.2.2.isEmpty&&d.2.1.isEmpty)
def ZV (a b:RW):Bool:=!(Ud a||Ud b)&&(if a.1=true then b.1||Um a.2.1 a.2.2 b.2.1 b.2.2 else if b.1=true then Um b.2.1 b.2.2 a.2.1 a.2.2 else (meets a.2.2 b.2.2||(meets a.2.2 b.2.1||meets a.2.1 b.2.2)))
def BN (ds:List RW) (p:Nat × Nat):Bool :=
 match ds[p.1]?,ds[p.2]? with
 | some a,some b=>!ZV a b
 | _,_=>false
noncomputable def EK (C:aG) (base:Nat) (fin:Ex × WSt→Option β) (k:List Frame) (a:Ann) (s:WSt) (ok:Bool):Option β :=
 if ok=true then AK C base fin k (jV base a s) else none
noncomputable def DK (C:aG) (base:Nat) (fin:Ex × WSt→Option β) (k:List Frame) (a:Ann) (un:List (Nat × Nat)) (l:List aK) (nid:Nat) (s:WSt) (ds:List RW):Option β :=
 ob (fA C (RnW C) l nid s []) fun r=>EK C base fin k a r.1 (un.all (BN (ds++r.2.map Xt)))
noncomputable def DSK (C:aG) (base:Nat) (fin:Ex × WSt→Option β) (k:List Frame) (a:Ann) (un:List (Nat × Nat)) (l:List aK) (nid:Nat) (d:Option Nat) (e:Env) (h:aJ) (n:Nat) (ds:List RW) (rd:List Nat) (x:Option (AV × dP)):Option β :=
 ob x fun x=>DK C base fin k a un l nid ⟨dN e d x.1,bK h x.2,n⟩ (ds++[(false,rd,x.2.map (·.1))])
noncomputable def DGK (C:aG) (base:Nat) (fin:Ex × WSt→Option β) (k:List Frame) (a:Ann) (un:List (Nat × Nat)) (l:List aK) (nid:Nat) (d:Option Nat) (op:COp) (g:Nat) (w:Bool) (e:Env) (h:aJ) (n:Nat) (ds:List RW) (v:Option AV):Option β :=
 match v with
 | some (.bool b)=>if b=w then DK C base fin k a un (⟨d,none,op⟩::l) nid ⟨qR e g (.bool w),h,n⟩ ds else DK C base fin k a un l (nid+1) ⟨dN (qR e g (.bool (!w))) d (.tup []),h,n⟩ (ds++[(false,[],[])])
 | some (.tup [])=>DK C base fin k a un l (nid+1) ⟨dN e d (.tup []),h,n⟩ (ds++[(false,[],[])])
 | _=>none
noncomputable def DVK (C:aG) (base:Nat) (fin:Ex × WSt→Option β) (k:List Frame) (a:Ann) (un:List (Nat × Nat)) (l:List aK) (nid:Nat) (d:Option Nat) (e:Env) (h:aJ) (n:Nat) (ds:List RW) (args:List AV) (v:Option AV):Option β :=
 ob v fun v=>DK C base fin k a un l nid ⟨dN e d v,bK h (oI h args v),n⟩ (ds++[(false,args.flatMap (aN h ay),(oI h args v).map (·.1))])
noncomputable def DWK (C:aG) (base:Nat) (fin:Ex × WSt→Option β) (k:List Frame) (a:Ann) (un:List (Nat × Nat)) (l:List aK) (nid:Nat) (d:Option Nat) (e:Env) (ds:List RW) (r:Option (AV × aJ × Nat)):Option β :=
 ob r fun r=>DK C base fin k a un l nid ⟨dN e d r.1,r.2.1,r.2.2⟩ (ds++[(true,[],[])])
noncomputable def DPK (C:aG) (base:Nat) (fin:Ex × WSt→Option β) (k:List Frame) (a:Ann) (un:List (Nat × Nat)) (l:List aK) (nid:Nat) (d:Option Nat) (e:Env) (h:aJ) (n:Nat) (ds:List RW) (f:Nat) (args:List AV) (az:Option (List AV)):Option β :=
 ob az fun az=>DVK C base fin k a un l nid d e h n ds args (FnW C f az)
noncomputable def afk (C:aG) (base:Nat) (fin:Ex × WSt→Option β) (k:List Frame) (a:Ann) (un:List (Nat × Nat)) (l:List aK) (nid:Nat) (d:Option Nat) (e:Env) (h:aJ) (n:Nat) (ds:List RW) (args:List AV) (v:AV) (u:dP) (ok:Bool):Option β :=
 if ok=true then DK C base fin k a un l nid ⟨dN e d v,bK h u,n⟩ (ds++[(false,args.flatMap (aN h ay),u.map (·.1))]) else none
noncomputable def abj (C:aG) (base:Nat) (fin:Ex × WSt→Option β) (k:List Frame) (a:Ann) (un:List (Nat × Nat)) (l:List aK) (nid:Nat) (d:Option Nat) (e:Env) (h:aJ) (n:Nat) (ds:List RW) (br:Bool) (args:List AV) (x:Option (AV × dP)):Option β :=
 ob x fun x=>if br=true then afk C base fin k a un l nid d e h n ds args x.1 x.2 (mP x) else DK C base fin k a un l nid ⟨dN e d x.1,bK h (aY h (args.flatMap (aN h ay))++x.2),n⟩ (ds++[(false,args.flatMap (aN h ay),(aY h (args.flatMap (aN h ay))++x.2).map (·.1))])
noncomputable def adO (C:aG) (base:Nat) (fin:Ex × WSt→Option β) (k:List Frame) (a:Ann) (un:List (Nat × Nat)) (l:List aK) (nid:Nat) (d:Option Nat) (e:Env) (h:aJ) (n:Nat) (ds:List RW) (args:List AV) (v:AV) (h1:aJ) (n1:Nat) (ok:Bool):Option β :=
 if ok=true then DK C base fin k a un l nid ⟨dN e d v,over n (h1.filter fun x=>(aN h1 ay v).contains x.1) h,n1⟩ (ds++[(true,args.flatMap (aN h ay),[n])]) else none
noncomputable def DHK (C:aG) (base:Nat) (fin:Ex × WSt→Option β) (k:List Frame) (a:Ann) (un:List (Nat × Nat)) (l:List aK) (nid:Nat) (d:Option Nat) (e:Env) (h:aJ) (n:Nat) (ds:List RW) (db:Bool) (args:List AV) (r:Option (AV × aJ × Nat)):Option β :=
 ob r fun r=>if db=true then adO C base fin k a un l nid d e h n ds args r.1 r.2.1 r.2.2 (oq r.2.1 r.1 (aN r.2.1 ay r.1)) else DK C base fin k a un l nid ⟨dN e d r.1,over n r.2.1 (bK h (aY h (args.flatMap (aN h ay)))),r.2.2⟩ (ds++[(true,args.flatMap (aN h ay),n::(aY h (args.flatMap (aN h ay))).map (·.1))])
noncomputable def DTK (C:aG) (base:Nat) (fin:Ex × WSt→Option β) (k:List Frame) (a:Ann) (un:List (Nat × Nat)) (l:List aK) (nid:Nat) (d:Option Nat) (e:Env) (h:aJ) (n:Nat) (ds:List RW) (f:Nat) (args az:List AV) (dp:Bool):Option β :=
 if dp=true then DHK C base fin k a un l nid d e h n ds (yL f) args (RnW C f az [] n) else abj C base fin k a un l nid d e h n ds (ru f) args (iW (RnW C) f az (nid - 1))
noncomputable def adu (C:aG) (base:Nat) (fin:Ex × WSt→Option β) (k:List Frame) (a:Ann) (un:List (Nat × Nat)) (l:List aK) (nid:Nat) (d:Option Nat) (e:Env) (h:aJ) (n:Nat) (ds:List RW) (f:Nat) (args:List AV) (az:Option (List AV)):Option β :=
 ob az fun az=>DTK C base fin k a un l nid d e h n ds f args az (rV f)
noncomputable def DIK (C:aG) (base:Nat) (fin:Ex × WSt→Option β) (k:List Frame) (a:Ann) (un:List (Nat × Nat)) (l:List aK) (nid:Nat) (d:Option Nat) (e:Env) (h:aJ) (n:Nat) (ds:List RW) (f:Nat) (args:List AV) (fr:Bool):Option β :=
 if fr=true then adu C base fin k a un l nid d e h n ds f args (bn (bM h ay) args) else DWK C base fin k a un l nid d e ds (RnW C f args h n)
noncomputable def DFK (C:aG) (base:Nat) (fin:Ex × WSt→Option β) (k:List Frame) (a:Ann) (un:List (Nat × Nat)) (l:List aK) (nid:Nat) (d:Option Nat) (e:Env) (h:aJ) (n:Nat) (ds:List RW) (f:Nat) (args:List AV) (inl ptr:Bool):Option β :=
 if inl=true then DIK C base fin k a un l nid d e h n ds f args (JA f) else if ptr=true then DWK C base fin k a un l nid d e ds (RnW C f args h n) else DPK C base fin k a un l nid d e h n ds f args (bn (bM h ay) args)
noncomputable def DQK (C:aG) (base:Nat) (fin:Ex × WSt→Option β) (k:List Frame) (a:Ann) (un:List (Nat × Nat)) (l:List aK) (nid:Nat) (d:Option Nat) (e:Env) (h:aJ) (n:Nat) (ds:List RW) (args:List AV) (g:AV):Option β :=
 match g with
 | .fn f caps=>DFK C base fin k a un l nid d e h n ds f (args++caps) (C.inl f) (!C.pp f&&bQ (args++caps))
 | _=>none
def aP (res:List uj) (r:Ex × WSt):Option AV:=ob (yF res r) fun r=>bM r.2.1 ay r.1
end
section
variable {β:Type} {C:aG} {base:Nat} {fin:Ex × WSt→Option β} {k:List Frame}
theorem iH {α γ δ:Type} (x:Option α) (f:α→Option γ) (g:γ→Option δ):ob (ob x f) g=ob x fun a=>ob (f a) g:=by cases x <;> rfl
theorem IL {α γ δ:Type} (x:Option α) (f:α→γ) (g:γ→Option δ):ob (om x f) g=ob x fun a=>g (f a):=by cases x <;> rfl
theorem agG (a b:aC) (s:WSt):CK C base fin k (.seq a b) s=CK C base fin (.sq b::k) a s:=by
 unfold CK;rw [ahW];simp only [RK,iH]
theorem aew (s:WSt):CK C base fin k .skip s=NK C base fin k .norm s:=by unfold CK NK;rw [ae0];rfl
theorem afx (i:Nat) (s:WSt):CK C base fin k (.exit i) s=NK C base fin k (.exit i) s:=by unfold CK NK;rw [adz];rfl
theorem aeM (n:Nat) (s:WSt):CK C base fin k (.Aq n) s=ob (uU n (dJ (ug n) 0 s.env)) fun v=>NK C base fin k .ret ⟨uh s.env 9 v,s.heap,s.next⟩:=by
 unfold CK NK
 rw [ae1]
 cases uU n (dJ (ug n) 0 s.env) <;> rfl
theorem ahU (s:WSt):CK C base fin k .ret s=NK C base fin k .ret s:=by unfold CK NK;rw [ah7];rfl
theorem aep (c:Opd) (a b:aC) (s:WSt):CK C base fin k (.cond c a b) s=PI C base fin k a b s (c.ev s.env):=by
 unfold CK PI;rw [aez];unfold vC
 cases c.ev s.env <;> try rfl
 rename_i t;cases t <;> rfl
theorem aax (id:Nat) (b:aC) (a:Ann) (s:WSt):CK C base fin k (.block id b a) s=CK C base fin (.bk id a::k) b s:=by
 unfold CK;rw [YM];simp only [RK,iH]
theorem bC {L:aC} {a:Ann} {b:aC} {s:WSt} (hL:L=.loop a b):CK C base fin k L s=LK C base fin (.sq L::k) b (canon base a s):=by
 subst hL;unfold CK LK CK;rw [ac3];simp only [RK,iH]
theorem aj {c c':aC} {s:WSt} (hc:c=c'):CK C base fin k c s=CK C base fin k c' s:=by rw [hc]
theorem ahp (l:List aK) (a:Ann) (s:WSt):CK C base fin k (.ops l a) s=OK C base fin k a l s:=by
 unfold CK OK AK NK;rw [aia];simp only [iH,IL]
noncomputable def IZK (C:aG) (base:Nat) (fin:Ex × WSt→Option β) (k:List Frame) (a:Ann) (ap:aK) (post:List aK) (e:Env) (h:aJ) (n:Nat) (v:Option AV):Option β :=
 ob v fun v=>OK C base (fun r=>AK C base fin k (jV base a ⟨pR r.2.env ((ap::post).filterMap (·.dst)) e,h,r.2.next⟩)) [] ⟨false,[],[]⟩ post ⟨dN e ap.dst v,[],n⟩
noncomputable def IYK (C:aG) (base:Nat) (fin:Ex × WSt→Option β) (k:List Frame) (a:Ann) (ap:aK) (post:List aK) (r:Ex × WSt):Option β :=
 IZK C base fin k a ap post r.2.env r.2.heap r.2.next (pW ap r.2.env r.2.heap)
theorem ZJ {γ:Type} (f:Ex × WSt→Option γ) (l:List aK) (s:WSt):OK C base f [] ⟨false,[],[]⟩ l s=ob (fE C (RnW C) l s) fun s=>f (.norm,s):=rfl
theorem ac5 {pre:List aK} {ap:aK} {post:List aK} {a:Ann} {s:WSt} (hl:uP ap post=true):CK C base fin k (.iso pre ap post a) s=OK C base (IYK C base fin k a ap post) [] ⟨false,[],[]⟩ pre s:=by
 unfold CK
 rw [agx,ZJ]
 simp only [oJ,if_pos hl,IYK,IZK,ZJ,iH]
 cases fE C (RnW C) pre s with
 | none=>rfl
 | some s1 =>
  simp only [ob]
  cases pW ap s1.env s1.heap with
  | none=>rfl
  | some v =>
   simp only
   cases fE C (RnW C) post ⟨dN s1.env ap.dst v,[],s1.next⟩ with
   | none=>rfl
   | some s2 =>
    simp only [om,ob,AK,NK]
    cases jV base a ⟨pR s2.env ((ap::post).filterMap (·.dst)) s1.env,s1.heap,s2.next⟩ <;> rfl
theorem ai0 {ap:aK} {post:List aK} {a:Ann} (ex:Ex) (e:Env) (h:aJ) (n:Nat):IYK C base fin k a ap post (ex,⟨e,h,n⟩)=IZK C base fin k a ap post e h n (pW ap e h):=rfl
theorem abO {ap:aK} {post:List aK} {a:Ann} (e:Env) (h:aJ) (n:Nat) (v:AV):IZK C base fin k a ap post e h n (some v) =
 OK C base (fun r=>AK C base fin k (jV base a ⟨pR r.2.env ((ap::post).filterMap (·.dst)) e,h,r.2.next⟩)) [] ⟨false,[],[]⟩ post ⟨dN e ap.dst v,[],n⟩:=rfl
theorem adb (l:List aK) (un:List (Nat × Nat)) (a:Ann) (e:Env) (h:aJ) (n:Nat):CK C base fin k (.draw l un a) ⟨e,h,n⟩=DK C base fin k a un l n ⟨e,h,n+l.length⟩ []:=by
 unfold CK DK EK AK NK;rw [acD];simp only [iH]
 have:∀ r:WSt × List kC,(ob (uT base un a r) fun r=>ob (RK C base k r) fin)=(if (un.all (BN ([]++r.2.map Xt)))=true then ob (jV base a r.1) fun s=>ob (RK C base k (.norm,s)) fin else none):=by
  rintro ⟨s,ds⟩
  have e1:un.all (Gx ds)=un.all (BN ([]++ds.map Xt)):=by
   congr 1
   funext p
   simp only [Gx,BN,List.nil_append,List.getElem?_map]
   cases ds[p.1]? <;> cases ds[p.2]? <;> rfl
  simp only [uT,e1]
  split
  · simp only [IL]
  · rfl
 simp only [this]
theorem aaN {zz:List AV} {z b:Nat} {s:WSt} {xe:Bool} (h:Pav.get s.env 0=some (.ro z [] xe)) (hz:zz.length=z) :
 CK C base fin k (.cln zz z b) s=NK C base fin k .ret ⟨[(2,.sl s.next z 0 0 0 true)],Pav.put s.heap s.next (.cells z [] true true),s.next+1⟩:=by
 unfold CK NK;rw [abX,h];simp only [Option.bind,jZ,hz,and_self,if_true,ob]
theorem U6 {zz:List AV} {z b:Nat} {s:WSt} (h:(Pav.get s.env 0).bind jZ=none):CK C base fin k (.cln zz z b) s=CK C base fin k (QJ zz z b) s:=by
 unfold CK;rw [abX,h]
theorem agY (ex:Ex) (s:WSt):NK C base fin [] ex s=fin (ex,s):=rfl
theorem ajG (b:aC) (s:WSt):NK C base fin (.sq b::k) .norm s=CK C base fin k b s:=by unfold NK CK;simp only [RK,eF,iH]
theorem Rq (b:aC) (i:Nat) (s:WSt):NK C base fin (.sq b::k) (.exit i) s=NK C base fin k (.exit i) s:=by unfold NK;simp only [RK,eF,ob]
theorem X5 (b:aC) (s:WSt):NK C base fin (.sq b::k) .ret s=NK C base fin k .ret s:=by unfold NK;simp only [RK,eF,ob]
theorem Uj (a:Ann) (b:aC) (i:Nat) (s:WSt):NK C base fin (.lp a b::k) (.exit i) s=NK C base fin k (.exit i) s:=by unfold NK;simp only [RK,eF,ob]
theorem Wh (a:Ann) (b:aC) (s:WSt):NK C base fin (.lp a b::k) .ret s=NK C base fin k .ret s:=by unfold NK;simp only [RK,eF,ob]
theorem ajW (id:Nat) (a:Ann) (s:WSt):NK C base fin (.bk id a::k) .norm s=AK C base fin k (canon base a s):=by unfold NK AK NK;simp only [RK,kM,iH,IL]
theorem RP (id:Nat) (a:Ann) (i:Nat) (s:WSt):NK C base fin (.bk id a::k) (.exit i) s=if i=id then AK C base fin k (canon base a s) else NK C base fin k (.exit i) s:=by
 unfold NK AK NK;simp only [RK,kM]
 split
 · simp only [iH,IL]
 · rfl
theorem WH (id:Nat) (a:Ann) (s:WSt):NK C base fin (.bk id a::k) .ret s=NK C base fin k .ret s:=by unfold NK;simp only [RK,kM,ob]
theorem afo (s:WSt):AK C base fin k (some s)=NK C base fin k .norm s:=rfl
theorem ac1 (b:aC) (s:WSt):LK C base fin k b (some s)=CK C base fin k b s:=rfl
theorem SQ (a b:aC) (s:WSt):PI C base fin k a b s (.bool true)=CK C base fin k a s:=rfl
theorem Qh (a b:aC) (s:WSt):PI C base fin k a b s (.bool false)=CK C base fin k b s:=rfl
theorem QW (a b:aC) (s:WSt) (t:Bool):PI C base fin k a b s (.bool t)=if t=true then CK C base fin k a s else CK C base fin k b s:=rfl
variable {a:Ann} {l:List aK} {d:Option Nat} {e:Env} {h:aJ} {n:Nat}
theorem aio (s:WSt):OK C base fin k a [] s=AK C base fin k (jV base a s):=rfl
theorem bG {op:COp} (hc:callOf e op=some none):OK C base fin k a (⟨d,none,op⟩::l) ⟨e,h,n⟩=SK C base fin k a l d e h (n+1) (stepW op e h n):=by
 unfold OK SK OK
 simp only [fE,gy,wants,jB,hc]
 cases stepW op e h n <;> rfl
theorem aeQ (v:AV) (u:dP):SK C base fin k a l d e h n (some (v,u))=OK C base fin k a l ⟨dN e d v,bK h u,n⟩:=rfl
theorem xq:∀ {e:Env} {g:Nat} {v:AV},get e g=some v→qR e g v=e:=by
 intro e
 induction e with
 | nil=>intro g v h;rfl
 | cons x e ih =>
  intro g v hg
  obtain ⟨j,u⟩:=x
  simp only [Pav.get] at hg
  simp only [qR]
  split at hg
  · rename_i hj;cases hg;rw [if_pos hj]
  · rename_i hj;rw [if_neg hj,ih hg]
theorem adf {op:COp} {g:Nat} {w b:Bool}:GK C base fin k a l d op g w e h n (some (.bool b))=if b=w then OK C base fin k a (⟨d,none,op⟩::l) ⟨qR e g (.bool w),h,n⟩ else OK C base fin k a l ⟨dN (qR e g (.bool (!w))) d (.tup []),h,n+1⟩:=rfl
theorem JH {op:COp} {g:Nat}:GK C base fin k a l d op g true e h n (some (.bool true))=OK C base fin k a (⟨d,none,op⟩::l) ⟨qR e g (.bool true),h,n⟩:=rfl
theorem Gp {op:COp} {g:Nat}:GK C base fin k a l d op g false e h n (some (.bool false))=OK C base fin k a (⟨d,none,op⟩::l) ⟨qR e g (.bool false),h,n⟩:=rfl
theorem Ih {op:COp} {g:Nat}:GK C base fin k a l d op g true e h n (some (.bool false))=OK C base fin k a l ⟨dN (qR e g (.bool false)) d (.tup []),h,n+1⟩:=rfl
theorem Ij {op:COp} {g:Nat}:GK C base fin k a l d op g false e h n (some (.bool true))=OK C base fin k a l ⟨dN (qR e g (.bool true)) d (.tup []),h,n+1⟩:=rfl
theorem ah8 {op:COp} {g:Nat} {w:Bool}:GK C base fin k a l d op g w e h n (some (.tup []))=OK C base fin k a l ⟨dN e d (.tup []),h,n+1⟩:=rfl
theorem abV {op:COp} {g:Nat} {w:Bool}:OK C base fin k a (⟨d,some (g,w),op⟩::l) ⟨e,h,n⟩=GK C base fin k a l d op g w e h n (get e g):=by
 unfold OK GK
 simp only [fE,gy,wants]
 cases hg:get e g with
 | none=>rfl
 | some v =>
  cases v with
  | bool b =>
   simp only
   by_cases hw:b=w
   · subst hw
     rw [xq hg,if_pos rfl]
     simp only [OK,fE,gy,wants,beq_self_eq_true]
   · have e1:(b == w)=false:=by simpa using hw
     have e2:(!w)=b:=by cases b <;> cases w <;> simp_all
     rw [if_neg hw,e2,xq hg]
     simp only [e1,ob,OK]
  | tup vs =>
   cases vs with
   | nil=>rfl
   | cons _ _=>rfl
  | _=>rfl
theorem afh {args:List AV} (v:AV):VK C base fin k a l d e h n args (some v)=OK C base fin k a l ⟨dN e d v,bK h (oI h args v),n⟩:=rfl
theorem afn (r:AV × aJ × Nat):WK C base fin k a l d e (some r)=OK C base fin k a l ⟨dN e d r.1,r.2.1,r.2.2⟩:=rfl
theorem aeT {f:Nat} {args:List AV} (az:List AV):PK C base fin k a l d e h n f args (some az)=VK C base fin k a l d e h n args (FnW C f az):=rfl
theorem aem {f:Nat} {args:List AV}:FK C base fin k a l d e h n f args false false=PK C base fin k a l d e h n f args (bn (bM h ay) args):=rfl
theorem ahy {f:Nat} {args:List AV} {p:Bool}:FK C base fin k a l d e h n f args true p=IK C base fin k a l d e h n f args (JA f):=rfl
theorem ZA {f:Nat} {args:List AV}:IK C base fin k a l d e h n f args false=WK C base fin k a l d e (RnW C f args h n):=rfl
theorem acK {f:Nat} {args:List AV}:IK C base fin k a l d e h n f args true=FPK C base fin k a l d e h n f args (bn (bM h ay) args):=rfl
theorem Y8 {f:Nat} {args:List AV} (az:List AV):FPK C base fin k a l d e h (n+1) f args (some az)=TK C base fin k a l d e h (n+1) f args az (rV f):=rfl
theorem abg {f:Nat} {args az:List AV}:TK C base fin k a l d e h (n+1) f args az false=FSK C base fin k a l d e h (n+1) (ru f) args (iW (RnW C) f az n):=rfl
theorem acI {f:Nat} {args az:List AV}:TK C base fin k a l d e h n f args az true=HK C base fin k a l d e h n (yL f) args (RnW C f az [] n):=rfl
theorem Y1 (v:AV) (h1:aJ) (n1:Nat):HBK C base fin k a l d e h n v h1 n1 true=OK C base fin k a l ⟨dN e d v,over n (h1.filter fun x=>(aN h1 ay v).contains x.1) h,n1⟩:=rfl
theorem acC {args:List AV} (r:AV × aJ × Nat):HK C base fin k a l d e h n true args (some r)=HBK C base fin k a l d e h n r.1 r.2.1 r.2.2 (oq r.2.1 r.1 (aN r.2.1 ay r.1)):=rfl
theorem adK {args:List AV} (r:AV × aJ × Nat):HK C base fin k a l d e h n false args (some r)=OK C base fin k a l ⟨dN e d r.1,over n r.2.1 (bK h (aY h (args.flatMap (aN h ay)))),r.2.2⟩:=rfl
theorem ZB (v:AV) (u:dP):BSK C base fin k a l d e h n v u true=OK C base fin k a l ⟨dN e d v,bK h u,n⟩:=rfl
theorem aaC {args:List AV} (v:AV) (u:dP):FSK C base fin k a l d e h n true args (some (v,u))=BSK C base fin k a l d e h n v u (mP (v,u)):=rfl
theorem YP {args:List AV} (v:AV) (u:dP):FSK C base fin k a l d e h n false args (some (v,u))=OK C base fin k a l ⟨dN e d v,bK h (aY h (args.flatMap (aN h ay))++u),n⟩:=rfl
theorem ahk {f:Nat} {args:List AV}:FK C base fin k a l d e h n f args false true=WK C base fin k a l d e (RnW C f args h n):=rfl
theorem aku {f:Nat} {args caps:List AV}:QK C base fin k a l d e h n args (.fn f caps)=FK C base fin k a l d e h n f (args++caps) (C.inl f) (!C.pp f&&bQ (args++caps)):=rfl
theorem af8 {f:Nat} {args:List AV}:(ob (om (jm C (RnW C) f args h (n - 1) n) (iJ h n args)) fun r=>OK C base fin k a l ⟨dN e d r.v,r.h,r.n⟩)=FK C base fin k a l d e h n f args (C.inl f) (!C.pp f&&bQ args):=by
 unfold FK jm IK FPK TK HK FSK WK PK VK FnW
 split
 · split
   · cases bn (bM h ay) args with
     | none=>rfl
     | some az =>
      simp only [ob]
      by_cases hdp:rV f=true
      · simp only [if_pos hdp]
        cases RnW C f az [] n with
        | none=>rfl
        | some r =>
         simp only [wS,Nq]
         by_cases hdb:yL f=true
         · simp only [if_pos hdb]
           unfold HBK
           by_cases hk:oq r.2.1 r.1 (aN r.2.1 ay r.1)=true
           · simp only [if_pos hk];rfl
           · simp only [if_neg hk];rfl
         · simp only [if_neg hdb];rfl
      simp only [if_neg hdp]
      cases iW (RnW C) f az (n - 1) with
      | none=>rfl
      | some x =>
       dsimp only [ob]
       unfold xP wU BSK
       cases ru f
       · rfl
       · cases mP x <;> rfl
   · cases RnW C f args h n <;> rfl
 · split
   · cases RnW C f args h n <;> rfl
   · cases bn (bM h ay) args with
     | none=>rfl
     | some az =>
      simp only [ob]
      cases jo (RnW C) f az <;> rfl
theorem acG {f:Nat} {xs:List Opd}:OK C base fin k a (⟨d,none,.call f xs⟩::l) ⟨e,h,n⟩=FK C base fin k a l d e h (n+1) f (xs.map fun x=>x.ev e) (C.inl f) (!C.pp f&&bQ (xs.map fun x=>x.ev e)):=by
 rw [← af8]
 unfold OK
 simp only [fE,gy,wants,jB,callOf,iH,Nat.add_sub_cancel]
theorem Z7 {g:Opd} {xs:List Opd}:OK C base fin k a (⟨d,none,.dS g xs⟩::l) ⟨e,h,n⟩=QK C base fin k a l d e h (n+1) (xs.map fun x=>x.ev e) (g.ev e):=by
 unfold QK
 cases hg:g.ev e with
 | fn f caps =>
  simp only
  rw [← af8]
  unfold OK
  simp only [fE,gy,wants,jB,callOf,hg,iH,Nat.add_sub_cancel]
 | _ =>
  unfold OK
  simp only [fE,gy,wants,jB,callOf,hg]
  rfl
variable {un:List (Nat × Nat)} {nid:Nat} {ds:List RW}
theorem Qu {r:vg}:∀ (l:List aK) (nid:Nat) (s:WSt) (ds:List kC),fA C r l nid s ds=om (fA C r l nid s []) fun x=>(x.1,ds++x.2):=by
 intro l
 induction l with
 | nil=>intro nid s ds;simp [fA,om]
 | cons o l ih =>
  intro nid s ds
  simp only [fA]
  cases gy C r o nid s.env s.heap s.next with
  | none=>rfl
  | some d =>
   simp only [ob]
   rw [ih,ih _ _ ([]++[d])]
   cases fA C r l (nid+1) _ [] <;> simp [om]
theorem ahX (s:WSt):DK C base fin k a un [] nid s ds=EK C base fin k a s (un.all (BN ds)):=by
 unfold DK;simp only [fA,ob,List.map_nil,List.append_nil]
theorem adr (s:WSt):EK C base fin k a s true=AK C base fin k (jV base a s):=rfl
theorem l7 {o:aK} {s:WSt}:DK C base fin k a un (o::l) nid s ds=ob (gy C (RnW C) o nid s.env s.heap s.next) fun x=>DK C base fin k a un l (nid+1) ⟨dN s.env o.dst x.v,x.h,x.n⟩ (ds++[Xt x]):=by
 unfold DK
 simp only [fA,iH]
 congr 1
 funext x
 rw [Qu]
 simp only [IL,List.nil_append,List.map_append,List.map_cons,List.map_nil,List.append_assoc]
theorem bH {op:COp} (hc:callOf e op=some none):DK C base fin k a un (⟨d,none,op⟩::l) nid ⟨e,h,n⟩ ds=DSK C base fin k a un l (nid+1) d e h n ds (readsOf e op) (stepW op e h nid):=by
 rw [l7]
 unfold DSK
 simp only [gy,wants,jB,hc,IL]
 rfl
theorem abd {rd:List Nat} (v:AV) (u:dP):DSK C base fin k a un l nid d e h n ds rd (some (v,u))=DK C base fin k a un l nid ⟨dN e d v,bK h u,n⟩ (ds++[(false,rd,u.map (·.1))]):=rfl
theorem aaF {op:COp} {g:Nat} {w b:Bool}:DGK C base fin k a un l nid d op g w e h n ds (some (.bool b))=if b=w then DK C base fin k a un (⟨d,none,op⟩::l) nid ⟨qR e g (.bool w),h,n⟩ ds else DK C base fin k a un l (nid+1) ⟨dN (qR e g (.bool (!w))) d (.tup []),h,n⟩ (ds++[(false,[],[])]):=rfl
theorem H9 {op:COp} {g:Nat}:DGK C base fin k a un l nid d op g true e h n ds (some (.bool true))=DK C base fin k a un (⟨d,none,op⟩::l) nid ⟨qR e g (.bool true),h,n⟩ ds:=rfl
theorem DC {op:COp} {g:Nat}:DGK C base fin k a un l nid d op g false e h n ds (some (.bool false))=DK C base fin k a un (⟨d,none,op⟩::l) nid ⟨qR e g (.bool false),h,n⟩ ds:=rfl
theorem F9 {op:COp} {g:Nat}:DGK C base fin k a un l nid d op g true e h n ds (some (.bool false))=DK C base fin k a un l (nid+1) ⟨dN (qR e g (.bool false)) d (.tup []),h,n⟩ (ds++[(false,[],[])]):=rfl
theorem Gu {op:COp} {g:Nat}:DGK C base fin k a un l nid d op g false e h n ds (some (.bool true))=DK C base fin k a un l (nid+1) ⟨dN (qR e g (.bool true)) d (.tup []),h,n⟩ (ds++[(false,[],[])]):=rfl
theorem afd {op:COp} {g:Nat} {w:Bool}:DGK C base fin k a un l nid d op g w e h n ds (some (.tup []))=DK C base fin k a un l (nid+1) ⟨dN e d (.tup []),h,n⟩ (ds++[(false,[],[])]):=rfl
theorem Z4 {op:COp} {g:Nat} {w:Bool}:DK C base fin k a un (⟨d,some (g,w),op⟩::l) nid ⟨e,h,n⟩ ds=DGK C base fin k a un l nid d op g w e h n ds (get e g):=by
 unfold DGK
 cases hg:get e g with
 | none=>rw [l7];simp only [gy,wants,hg];rfl
 | some v =>
  cases v with
  | bool b =>
   simp only
   by_cases hw:b=w
   · subst hw
     rw [xq hg,if_pos rfl,l7,l7]
     simp only [gy,wants,hg,beq_self_eq_true]
   · have e1:(b == w)=false:=by simpa using hw
     have e2:(!w)=b:=by cases b <;> cases w <;> simp_all
     rw [if_neg hw,e2,xq hg,l7]
     simp only [gy,wants,hg,e1,ob,Xt]
  | tup vs =>
   cases vs with
   | nil=>rw [l7];simp only [gy,wants,hg];rfl
   | cons _ _=>rw [l7];simp only [gy,wants,hg];rfl
  | _=>rw [l7];simp only [gy,wants,hg];rfl
theorem aa5 {args:List AV} (v:AV):DVK C base fin k a un l nid d e h n ds args (some v)=DK C base fin k a un l nid ⟨dN e d v,bK h (oI h args v),n⟩ (ds++[(false,args.flatMap (aN h ay),(oI h args v).map (·.1))]):=rfl
theorem Zz (r:AV × aJ × Nat):DWK C base fin k a un l nid d e ds (some r)=DK C base fin k a un l nid ⟨dN e d r.1,r.2.1,r.2.2⟩ (ds++[(true,[],[])]):=rfl
theorem Zl {f:Nat} {args:List AV} (az:List AV):DPK C base fin k a un l nid d e h n ds f args (some az)=DVK C base fin k a un l nid d e h n ds args (FnW C f az):=rfl
theorem abn {f:Nat} {args:List AV}:DFK C base fin k a un l nid d e h n ds f args false false=DPK C base fin k a un l nid d e h n ds f args (bn (bM h ay) args):=rfl
theorem afp {f:Nat} {args:List AV} {p:Bool}:DFK C base fin k a un l nid d e h n ds f args true p=DIK C base fin k a un l nid d e h n ds f args (JA f):=rfl
theorem XM {f:Nat} {args:List AV}:DIK C base fin k a un l nid d e h n ds f args false=DWK C base fin k a un l nid d e ds (RnW C f args h n):=rfl
theorem aa1 {f:Nat} {args:List AV}:DIK C base fin k a un l nid d e h n ds f args true=adu C base fin k a un l nid d e h n ds f args (bn (bM h ay) args):=rfl
theorem XQ {f:Nat} {args:List AV} (az:List AV):adu C base fin k a un l nid d e h n ds f args (some az)=DTK C base fin k a un l nid d e h n ds f args az (rV f):=rfl
theorem WE {f:Nat} {args az:List AV}:DTK C base fin k a un l nid d e h n ds f args az false=abj C base fin k a un l nid d e h n ds (ru f) args (iW (RnW C) f az (nid - 1)):=rfl
theorem abw {f:Nat} {args az:List AV}:DTK C base fin k a un l nid d e h n ds f args az true=DHK C base fin k a un l nid d e h n ds (yL f) args (RnW C f az [] n):=rfl
theorem Xj {args:List AV} (v:AV) (h1:aJ) (n1:Nat):adO C base fin k a un l nid d e h n ds args v h1 n1 true=DK C base fin k a un l nid ⟨dN e d v,over n (h1.filter fun x=>(aN h1 ay v).contains x.1) h,n1⟩ (ds++[(true,args.flatMap (aN h ay),[n])]):=rfl
theorem abI {args:List AV} (r:AV × aJ × Nat):DHK C base fin k a un l nid d e h n ds true args (some r)=adO C base fin k a un l nid d e h n ds args r.1 r.2.1 r.2.2 (oq r.2.1 r.1 (aN r.2.1 ay r.1)):=rfl
theorem ab2 {args:List AV} (r:AV × aJ × Nat):DHK C base fin k a un l nid d e h n ds false args (some r)=DK C base fin k a un l nid ⟨dN e d r.1,over n r.2.1 (bK h (aY h (args.flatMap (aN h ay)))),r.2.2⟩ (ds++[(true,args.flatMap (aN h ay),n::(aY h (args.flatMap (aN h ay))).map (·.1))]):=rfl
theorem WJ {args:List AV} (v:AV) (u:dP):afk C base fin k a un l nid d e h n ds args v u true=DK C base fin k a un l nid ⟨dN e d v,bK h u,n⟩ (ds++[(false,args.flatMap (aN h ay),u.map (·.1))]):=rfl
theorem Wn {args:List AV} (v:AV) (u:dP):abj C base fin k a un l nid d e h n ds true args (some (v,u))=afk C base fin k a un l nid d e h n ds args v u (mP (v,u)):=rfl
theorem WX {args:List AV} (v:AV) (u:dP):abj C base fin k a un l nid d e h n ds false args (some (v,u))=DK C base fin k a un l nid ⟨dN e d v,bK h (aY h (args.flatMap (aN h ay))++u),n⟩ (ds++[(false,args.flatMap (aN h ay),(aY h (args.flatMap (aN h ay))++u).map (·.1))]):=rfl
theorem acu {f:Nat} {args:List AV}:DFK C base fin k a un l nid d e h n ds f args false true=DWK C base fin k a un l nid d e ds (RnW C f args h n):=rfl
theorem aif {f:Nat} {args caps:List AV}:DQK C base fin k a un l nid d e h n ds args (.fn f caps)=DFK C base fin k a un l nid d e h n ds f (args++caps) (C.inl f) (!C.pp f&&bQ (args++caps)):=rfl
theorem Yu {f:Nat} {args:List AV}:(ob (om (jm C (RnW C) f args h (nid - 1) n) (iJ h n args)) fun r=>DK C base fin k a un l nid ⟨dN e d r.v,r.h,r.n⟩ (ds++[Xt r]))=DFK C base fin k a un l nid d e h n ds f args (C.inl f) (!C.pp f&&bQ args):=by
 unfold DFK jm DIK adu DTK DHK abj DWK DPK DVK FnW
 split
 · split
   · cases bn (bM h ay) args with
     | none=>rfl
     | some az =>
      simp only [ob]
      by_cases hdp:rV f=true
      · simp only [if_pos hdp]
        cases RnW C f az [] n with
        | none=>rfl
        | some r =>
         simp only [wS,Nq]
         by_cases hdb:yL f=true
         · simp only [if_pos hdb]
           unfold adO
           by_cases hk:oq r.2.1 r.1 (aN r.2.1 ay r.1)=true
           · simp only [if_pos hk];rfl
           · simp only [if_neg hk];rfl
         · simp only [if_neg hdb];rfl
      simp only [if_neg hdp]
      cases iW (RnW C) f az (nid - 1) with
      | none=>rfl
      | some x =>
       dsimp only [ob]
       unfold xP wU afk
       cases ru f
       · rfl
       · cases mP x <;> rfl
   · cases RnW C f args h n <;> rfl
 · split
   · cases RnW C f args h n <;> rfl
   · cases bn (bM h ay) args with
     | none=>rfl
     | some az =>
      simp only [ob]
      cases jo (RnW C) f az <;> rfl
theorem ae2 {f:Nat} {xs:List Opd}:DK C base fin k a un (⟨d,none,.call f xs⟩::l) nid ⟨e,h,n⟩ ds=DFK C base fin k a un l (nid+1) d e h n ds f (xs.map fun x=>x.ev e) (C.inl f) (!C.pp f&&bQ (xs.map fun x=>x.ev e)):=by
 rw [← Yu,l7]
 simp only [gy,wants,jB,callOf,Nat.add_sub_cancel]
theorem Y3 {g:Opd} {xs:List Opd}:DK C base fin k a un (⟨d,none,.dS g xs⟩::l) nid ⟨e,h,n⟩ ds=DQK C base fin k a un l (nid+1) d e h n ds (xs.map fun x=>x.ev e) (g.ev e):=by
 unfold DQK
 rw [l7]
 cases hg:g.ev e with
 | fn f caps =>
  simp only
  rw [← Yu]
  simp only [gy,wants,jB,callOf,hg,Nat.add_sub_cancel]
 | _ =>
  simp only [gy,wants,jB,callOf,hg]
  rfl
theorem aF {f:Nat} {fn:WFn} (hf:C.fns.get f=some fn) {args:List AV} (hl:args.length=fn.np):FnW C f args=CK C 0 (aP fn.res) [] fn.body ⟨HY 0 args [],[],0⟩:=by
 unfold FnW jo RnW eU CK aP
 rw [hf]
 simp only [ob,if_pos hl,RK]
 cases CdW C 0 fn.body ⟨HY 0 args [],[],0⟩ with
 | none=>rfl
 | some r=>rfl
theorem aaY {f:Nat} {fn:WFn} (hf:C.fns.get f=some fn) {args:List AV} (hl:args.length=fn.np) (h:aJ) (n:Nat):RnW C f args h n=CK C n (yF fn.res) [] fn.body ⟨HY 0 args [],h,n⟩:=by
 unfold RnW eU CK
 rw [hf]
 simp only [ob,if_pos hl,RK]
end
end Go.Pw
end
section
set_option linter.unusedSimpArgs false
set_option linter.unusedVariables false
namespace Go.Pw
open Go Go.Pav
attribute [simp] aeM uU nR ug dJ agG aew afx ahU aep aax ahp adb agY ajG Rq X5 Uj Wh ajW RP WH afo ac1
 aio aeQ ah8 abV afh afn aeT aem ahy ahk aku acG Z7 ahX adr abd afd Z4 aa5 Zz Zl abn afp acu aif ae2 Y3 ZA acK Y8 YP aaC ZB Wn WJ ru mP SX gY mV XM aa1 XQ WX JA rV abg acI adK acC Y1 WE abw ab2 abI Xj yL oq jC bZ pU
attribute [simp high] SQ Qh JH Gp Ih Ij H9 DC F9 Gu
attribute [simp low] QW adf aaF
section
variable {β:Type} {C:aG} {base:Nat} {fin:Ex × WSt→Option β} {k:List Frame} {a:Ann} {l:List aK} {d:Option Nat} {e:Env} {h:aJ} {n:Nat} {un:List (Nat × Nat)} {nid:Nat} {ds:List RW}
@[simp] theorem apY {x:Opd}:OK C base fin k a (⟨d,none,.mv x⟩::l) ⟨e,h,n⟩=OK C base fin k a l ⟨dN e d (x.ev e),h,n+1⟩:=by rw [bG rfl];rfl
@[simp] theorem ak7 {c x y:Opd}:OK C base fin k a (⟨d,none,.pick c x y⟩::l) ⟨e,h,n⟩=SK C base fin k a l d e h (n+1) (stepW (.pick c x y) e h n):=bG rfl
@[simp] theorem ajy {z:List AV}:OK C base fin k a (⟨d,none,.alloc z⟩::l) ⟨e,h,n⟩=SK C base fin k a l d e h (n+1) (stepW (.alloc z) e h n):=bG rfl
@[simp] theorem aoz {x:Opd}:OK C base fin k a (⟨d,none,.box x⟩::l) ⟨e,h,n⟩=SK C base fin k a l d e h (n+1) (stepW (.box x) e h n):=bG rfl
@[simp] theorem ajM {z:List AV} {ps:List (Nat × Nat × Opd)}:OK C base fin k a (⟨d,none,.build z ps⟩::l) ⟨e,h,n⟩=SK C base fin k a l d e h (n+1) (stepW (.build z ps) e h n):=bG rfl
@[simp] theorem ajb {z:List AV} {m:Nat} {ps:List (Nat × Opd)}:OK C base fin k a (⟨d,none,.aU z m ps⟩::l) ⟨e,h,n⟩=SK C base fin k a l d e h (n+1) (stepW (.aU z m ps) e h n):=bG rfl
@[simp] theorem amI {m:Nat} {ag:Bool} {x:Opd}:OK C base fin k a (⟨d,none,.load m ag x⟩::l) ⟨e,h,n⟩=SK C base fin k a l d e h (n+1) (stepW (.load m ag x) e h n):=bG rfl
@[simp] theorem akt {m:Nat} {x y:Opd}:OK C base fin k a (⟨d,none,.store m x y⟩::l) ⟨e,h,n⟩=SK C base fin k a l d e h (n+1) (stepW (.store m x y) e h n):=bG rfl
@[simp] theorem ajj {x:Opd}:OK C base fin k a (⟨d,none,.jE x⟩::l) ⟨e,h,n⟩=SK C base fin k a l d e h (n+1) (stepW (.jE x) e h n):=bG rfl
@[simp] theorem amL {op:BinOp} {x y:Opd}:OK C base fin k a (⟨d,none,.bin op x y⟩::l) ⟨e,h,n⟩=SK C base fin k a l d e h (n+1) (stepW (.bin op x y) e h n):=bG rfl
@[simp] theorem aoV {kd:Nat} {ks:List Nat} {ne:Bool} {x y:Opd}:OK C base fin k a (⟨d,none,.eqv kd ks ne x y⟩::l) ⟨e,h,n⟩=SK C base fin k a l d e h (n+1) (stepW (.eqv kd ks ne x y) e h n):=bG rfl
@[simp] theorem ap1 {op:UnOp} {x:Opd}:OK C base fin k a (⟨d,none,.un op x⟩::l) ⟨e,h,n⟩=SK C base fin k a l d e h (n+1) (stepW (.un op x) e h n):=bG rfl
@[simp] theorem apB {kk:IntKind} {x:Opd}:OK C base fin k a (⟨d,none,.cvt kk x⟩::l) ⟨e,h,n⟩=SK C base fin k a l d e h (n+1) (stepW (.cvt kk x) e h n):=bG rfl
@[simp] theorem ano {x:Opd}:OK C base fin k a (⟨d,none,.cvs x⟩::l) ⟨e,h,n⟩=SK C base fin k a l d e h (n+1) (stepW (.cvs x) e h n):=bG rfl
@[simp] theorem apA {x:Opd}:OK C base fin k a (⟨d,none,.cvb x⟩::l) ⟨e,h,n⟩=SK C base fin k a l d e h (n+1) (stepW (.cvb x) e h n):=bG rfl
@[simp] theorem alA {f:Nat} {xs:List Opd}:OK C base fin k a (⟨d,none,.kY f xs⟩::l) ⟨e,h,n⟩=SK C base fin k a l d e h (n+1) (stepW (.kY f xs) e h n):=bG rfl
@[simp] theorem akn:OK C base fin k a (⟨d,none,.mG⟩::l) ⟨e,h,n⟩=SK C base fin k a l d e h (n+1) (stepW .mG e h n):=bG rfl
@[simp] theorem amG {z:List AV} {b:Nat} {x y:Opd}:OK C base fin k a (⟨d,none,.qo z b x y⟩::l) ⟨e,h,n⟩=SK C base fin k a l d e h (n+1) (stepW (.qo z b x y) e h n):=bG rfl
@[simp] theorem ok_slice {z:Nat} {x:Opd} {lo hi mx:Option Opd}:OK C base fin k a (⟨d,none,.slice z x lo hi mx⟩::l) ⟨e,h,n⟩=SK C base fin k a l d e h (n+1) (stepW (.slice z x lo hi mx) e h n):=bG rfl
@[simp] theorem ajg {z:Nat} {x:Opd} {lo hi:Option Opd}:OK C base fin k a (⟨d,none,.gu z x lo hi⟩::l) ⟨e,h,n⟩=SK C base fin k a l d e h (n+1) (stepW (.gu z x lo hi) e h n):=bG rfl
@[simp] theorem anD {o:Nat} {x:Opd}:OK C base fin k a (⟨d,none,.fld o x⟩::l) ⟨e,h,n⟩=SK C base fin k a l d e h (n+1) (stepW (.fld o x) e h n):=bG rfl
@[simp] theorem amo {o m:Nat} {ag:Bool} {x:Opd}:OK C base fin k a (⟨d,none,.yD o m ag x⟩::l) ⟨e,h,n⟩=SK C base fin k a l d e h (n+1) (stepW (.yD o m ag x) e h n):=bG rfl
@[simp] theorem amq {z:Nat} {x y:Opd}:OK C base fin k a (⟨d,none,.idxs z x y⟩::l) ⟨e,h,n⟩=SK C base fin k a l d e h (n+1) (stepW (.idxs z x y) e h n):=bG rfl
@[simp] theorem ak1 {m z:Nat} {x y:Opd}:OK C base fin k a (⟨d,none,.kD m z x y⟩::l) ⟨e,h,n⟩=SK C base fin k a l d e h (n+1) (stepW (.kD m z x y) e h n):=bG rfl
@[simp] theorem ai5 {x y:Opd}:OK C base fin k a (⟨d,none,.dW x y⟩::l) ⟨e,h,n⟩=SK C base fin k a l d e h (n+1) (stepW (.dW x y) e h n):=bG rfl
@[simp] theorem amu {m z:Nat} {ag:Bool} {x y:Opd}:OK C base fin k a (⟨d,none,.xR m z ag x y⟩::l) ⟨e,h,n⟩=SK C base fin k a l d e h (n+1) (stepW (.xR m z ag x y) e h n):=bG rfl
@[simp] theorem amm {kd:Nat} {z:AV} {ok:Bool} {x y:Opd}:OK C base fin k a (⟨d,none,.look kd z ok x y⟩::l) ⟨e,h,n⟩=SK C base fin k a l d e h (n+1) (stepW (.look kd z ok x y) e h n):=bG rfl
@[simp] theorem aoI {kd:Nat} {x y z:Opd}:OK C base fin k a (⟨d,none,.upd kd x y z⟩::l) ⟨e,h,n⟩=SK C base fin k a l d e h (n+1) (stepW (.upd kd x y z) e h n):=bG rfl
@[simp] theorem aj7 {x:Opd}:OK C base fin k a (⟨d,none,.range x⟩::l) ⟨e,h,n⟩=SK C base fin k a l d e h (n+1) (stepW (.range x) e h n):=bG rfl
@[simp] theorem alJ {x:Opd}:OK C base fin k a (⟨d,none,.next x⟩::l) ⟨e,h,n⟩=SK C base fin k a l d e h (n+1) (stepW (.next x) e h n):=bG rfl
@[simp] theorem anl {i:Nat} {x:Opd}:OK C base fin k a (⟨d,none,.ext i x⟩::l) ⟨e,h,n⟩=SK C base fin k a l d e h (n+1) (stepW (.ext i x) e h n):=bG rfl
@[simp] theorem anW {kd:Nat} {x:Opd}:OK C base fin k a (⟨d,none,.len kd x⟩::l) ⟨e,h,n⟩=SK C base fin k a l d e h (n+1) (stepW (.len kd x) e h n):=bG rfl
@[simp] theorem amX {x:Opd}:OK C base fin k a (⟨d,none,.cap x⟩::l) ⟨e,h,n⟩=SK C base fin k a l d e h (n+1) (stepW (.cap x) e h n):=bG rfl
@[simp] theorem aoj {z:List AV} {b:Nat} {zs:Bool} {x y:Opd}:OK C base fin k a (⟨d,none,.app z b zs x y⟩::l) ⟨e,h,n⟩=SK C base fin k a l d e h (n+1) (stepW (.app z b zs x y) e h n):=bG rfl
@[simp] theorem aor {z:Nat} {x y:Opd}:OK C base fin k a (⟨d,none,.cpy z x y⟩::l) ⟨e,h,n⟩=SK C base fin k a l d e h (n+1) (stepW (.cpy z x y) e h n):=bG rfl
@[simp] theorem aop {z:List AV} {x:Opd}:OK C base fin k a (⟨d,none,.clr z x⟩::l) ⟨e,h,n⟩=SK C base fin k a l d e h (n+1) (stepW (.clr z x) e h n):=bG rfl
@[simp] theorem ap5 {x y:Opd}:OK C base fin k a (⟨d,none,.mx x y⟩::l) ⟨e,h,n⟩=SK C base fin k a l d e h (n+1) (stepW (.mx x y) e h n):=bG rfl
@[simp] theorem apZ {x y:Opd}:OK C base fin k a (⟨d,none,.mn x y⟩::l) ⟨e,h,n⟩=SK C base fin k a l d e h (n+1) (stepW (.mn x y) e h n):=bG rfl
@[simp] theorem ap0 {x:Opd}:DK C base fin k a un (⟨d,none,.mv x⟩::l) nid ⟨e,h,n⟩ ds=DSK C base fin k a un l (nid+1) d e h n ds (readsOf e (.mv x)) (stepW (.mv x) e h nid):=bH rfl
@[simp] theorem alM {c x y:Opd}:DK C base fin k a un (⟨d,none,.pick c x y⟩::l) nid ⟨e,h,n⟩ ds=DSK C base fin k a un l (nid+1) d e h n ds (readsOf e (.pick c x y)) (stepW (.pick c x y) e h nid):=bH rfl
@[simp] theorem ake {z:List AV}:DK C base fin k a un (⟨d,none,.alloc z⟩::l) nid ⟨e,h,n⟩ ds=DSK C base fin k a un l (nid+1) d e h n ds (readsOf e (.alloc z)) (stepW (.alloc z) e h nid):=bH rfl
@[simp] theorem an3 {x:Opd}:DK C base fin k a un (⟨d,none,.box x⟩::l) nid ⟨e,h,n⟩ ds=DSK C base fin k a un l (nid+1) d e h n ds (readsOf e (.box x)) (stepW (.box x) e h nid):=bH rfl
@[simp] theorem akG {z:List AV} {ps:List (Nat × Nat × Opd)}:DK C base fin k a un (⟨d,none,.build z ps⟩::l) nid ⟨e,h,n⟩ ds=DSK C base fin k a un l (nid+1) d e h n ds (readsOf e (.build z ps)) (stepW (.build z ps) e h nid):=bH rfl
@[simp] theorem ajf {z:List AV} {m:Nat} {ps:List (Nat × Opd)}:DK C base fin k a un (⟨d,none,.aU z m ps⟩::l) nid ⟨e,h,n⟩ ds=DSK C base fin k a un l (nid+1) d e h n ds (readsOf e (.aU z m ps)) (stepW (.aU z m ps) e h nid):=bH rfl
@[simp] theorem al1 {m:Nat} {ag:Bool} {x:Opd}:DK C base fin k a un (⟨d,none,.load m ag x⟩::l) nid ⟨e,h,n⟩ ds=DSK C base fin k a un l (nid+1) d e h n ds (readsOf e (.load m ag x)) (stepW (.load m ag x) e h nid):=bH rfl
@[simp] theorem ajZ {m:Nat} {x y:Opd}:DK C base fin k a un (⟨d,none,.store m x y⟩::l) nid ⟨e,h,n⟩ ds=DSK C base fin k a un l (nid+1) d e h n ds (readsOf e (.store m x y)) (stepW (.store m x y) e h nid):=bH rfl
@[simp] theorem ajm {x:Opd}:DK C base fin k a un (⟨d,none,.jE x⟩::l) nid ⟨e,h,n⟩ ds=DSK C base fin k a un l (nid+1) d e h n ds (readsOf e (.jE x)) (stepW (.jE x) e h nid):=bH rfl
@[simp] theorem amM {op:BinOp} {x y:Opd}:DK C base fin k a un (⟨d,none,.bin op x y⟩::l) nid ⟨e,h,n⟩ ds=DSK C base fin k a un l (nid+1) d e h n ds (readsOf e (.bin op x y)) (stepW (.bin op x y) e h nid):=bH rfl
@[simp] theorem apG {kd:Nat} {ks:List Nat} {ne:Bool} {x y:Opd}:DK C base fin k a un (⟨d,none,.eqv kd ks ne x y⟩::l) nid ⟨e,h,n⟩ ds=DSK C base fin k a un l (nid+1) d e h n ds (readsOf e (.eqv kd ks ne x y)) (stepW (.eqv kd ks ne x y) e h nid):=bH rfl
@[simp] theorem ap7 {op:UnOp} {x:Opd}:DK C base fin k a un (⟨d,none,.un op x⟩::l) nid ⟨e,h,n⟩ ds=DSK C base fin k a un l (nid+1) d e h n ds (readsOf e (.un op x)) (stepW (.un op x) e h nid):=bH rfl
@[simp] theorem aoD {kk:IntKind} {x:Opd}:DK C base fin k a un (⟨d,none,.cvt kk x⟩::l) nid ⟨e,h,n⟩ ds=DSK C base fin k a un l (nid+1) d e h n ds (readsOf e (.cvt kk x)) (stepW (.cvt kk x) e h nid):=bH rfl
@[simp] theorem ana {x:Opd}:DK C base fin k a un (⟨d,none,.cvs x⟩::l) nid ⟨e,h,n⟩ ds=DSK C base fin k a un l (nid+1) d e h n ds (readsOf e (.cvs x)) (stepW (.cvs x) e h nid):=bH rfl
@[simp] theorem apC {x:Opd}:DK C base fin k a un (⟨d,none,.cvb x⟩::l) nid ⟨e,h,n⟩ ds=DSK C base fin k a un l (nid+1) d e h n ds (readsOf e (.cvb x)) (stepW (.cvb x) e h nid):=bH rfl
@[simp] theorem amb {f:Nat} {xs:List Opd}:DK C base fin k a un (⟨d,none,.kY f xs⟩::l) nid ⟨e,h,n⟩ ds=DSK C base fin k a un l (nid+1) d e h n ds (readsOf e (.kY f xs)) (stepW (.kY f xs) e h nid):=bH rfl
@[simp] theorem akL:DK C base fin k a un (⟨d,none,.mG⟩::l) nid ⟨e,h,n⟩ ds=DSK C base fin k a un l (nid+1) d e h n ds (readsOf e (.mG)) (stepW (.mG) e h nid):=bH rfl
@[simp] theorem alP {z:List AV} {b:Nat} {x y:Opd}:DK C base fin k a un (⟨d,none,.qo z b x y⟩::l) nid ⟨e,h,n⟩ ds=DSK C base fin k a un l (nid+1) d e h n ds (readsOf e (.qo z b x y)) (stepW (.qo z b x y) e h nid):=bH rfl
@[simp] theorem ajN {z:Nat} {x:Opd} {lo hi mx:Option Opd}:DK C base fin k a un (⟨d,none,.slice z x lo hi mx⟩::l) nid ⟨e,h,n⟩ ds=DSK C base fin k a un l (nid+1) d e h n ds (readsOf e (.slice z x lo hi mx)) (stepW (.slice z x lo hi mx) e h nid):=bH rfl
@[simp] theorem aji {z:Nat} {x:Opd} {lo hi:Option Opd}:DK C base fin k a un (⟨d,none,.gu z x lo hi⟩::l) nid ⟨e,h,n⟩ ds=DSK C base fin k a un l (nid+1) d e h n ds (readsOf e (.gu z x lo hi)) (stepW (.gu z x lo hi) e h nid):=bH rfl
@[simp] theorem anp {o:Nat} {x:Opd}:DK C base fin k a un (⟨d,none,.fld o x⟩::l) nid ⟨e,h,n⟩ ds=DSK C base fin k a un l (nid+1) d e h n ds (readsOf e (.fld o x)) (stepW (.fld o x) e h nid):=bH rfl
@[simp] theorem ams {o m:Nat} {ag:Bool} {x:Opd}:DK C base fin k a un (⟨d,none,.yD o m ag x⟩::l) nid ⟨e,h,n⟩ ds=DSK C base fin k a un l (nid+1) d e h n ds (readsOf e (.yD o m ag x)) (stepW (.yD o m ag x) e h nid):=bH rfl
@[simp] theorem alR {z:Nat} {x y:Opd}:DK C base fin k a un (⟨d,none,.idxs z x y⟩::l) nid ⟨e,h,n⟩ ds=DSK C base fin k a un l (nid+1) d e h n ds (readsOf e (.idxs z x y)) (stepW (.idxs z x y) e h nid):=bH rfl
@[simp] theorem ak4 {m z:Nat} {x y:Opd}:DK C base fin k a un (⟨d,none,.kD m z x y⟩::l) nid ⟨e,h,n⟩ ds=DSK C base fin k a un l (nid+1) d e h n ds (readsOf e (.kD m z x y)) (stepW (.kD m z x y) e h nid):=bH rfl
@[simp] theorem ajr {x y:Opd}:DK C base fin k a un (⟨d,none,.dW x y⟩::l) nid ⟨e,h,n⟩ ds=DSK C base fin k a un l (nid+1) d e h n ds (readsOf e (.dW x y)) (stepW (.dW x y) e h nid):=bH rfl
@[simp] theorem alK {m z:Nat} {ag:Bool} {x y:Opd}:DK C base fin k a un (⟨d,none,.xR m z ag x y⟩::l) nid ⟨e,h,n⟩ ds=DSK C base fin k a un l (nid+1) d e h n ds (readsOf e (.xR m z ag x y)) (stepW (.xR m z ag x y) e h nid):=bH rfl
@[simp] theorem alV {kd:Nat} {z:AV} {ok:Bool} {x y:Opd}:DK C base fin k a un (⟨d,none,.look kd z ok x y⟩::l) nid ⟨e,h,n⟩ ds=DSK C base fin k a un l (nid+1) d e h n ds (readsOf e (.look kd z ok x y)) (stepW (.look kd z ok x y) e h nid):=bH rfl
@[simp] theorem aoB {kd:Nat} {x y z:Opd}:DK C base fin k a un (⟨d,none,.upd kd x y z⟩::l) nid ⟨e,h,n⟩ ds=DSK C base fin k a un l (nid+1) d e h n ds (readsOf e (.upd kd x y z)) (stepW (.upd kd x y z) e h nid):=bH rfl
@[simp] theorem ajY {x:Opd}:DK C base fin k a un (⟨d,none,.range x⟩::l) nid ⟨e,h,n⟩ ds=DSK C base fin k a un l (nid+1) d e h n ds (readsOf e (.range x)) (stepW (.range x) e h nid):=bH rfl
@[simp] theorem aml {x:Opd}:DK C base fin k a un (⟨d,none,.next x⟩::l) nid ⟨e,h,n⟩ ds=DSK C base fin k a un l (nid+1) d e h n ds (readsOf e (.next x)) (stepW (.next x) e h nid):=bH rfl
@[simp] theorem apt {i:Nat} {x:Opd}:DK C base fin k a un (⟨d,none,.ext i x⟩::l) nid ⟨e,h,n⟩ ds=DSK C base fin k a un l (nid+1) d e h n ds (readsOf e (.ext i x)) (stepW (.ext i x) e h nid):=bH rfl
@[simp] theorem apE {kd:Nat} {x:Opd}:DK C base fin k a un (⟨d,none,.len kd x⟩::l) nid ⟨e,h,n⟩ ds=DSK C base fin k a un l (nid+1) d e h n ds (readsOf e (.len kd x)) (stepW (.len kd x) e h nid):=bH rfl
@[simp] theorem ane {x:Opd}:DK C base fin k a un (⟨d,none,.cap x⟩::l) nid ⟨e,h,n⟩ ds=DSK C base fin k a un l (nid+1) d e h n ds (readsOf e (.cap x)) (stepW (.cap x) e h nid):=bH rfl
@[simp] theorem anb {z:List AV} {b:Nat} {zs:Bool} {x y:Opd}:DK C base fin k a un (⟨d,none,.app z b zs x y⟩::l) nid ⟨e,h,n⟩ ds=DSK C base fin k a un l (nid+1) d e h n ds (readsOf e (.app z b zs x y)) (stepW (.app z b zs x y) e h nid):=bH rfl
@[simp] theorem apc {z:Nat} {x y:Opd}:DK C base fin k a un (⟨d,none,.cpy z x y⟩::l) nid ⟨e,h,n⟩ ds=DSK C base fin k a un l (nid+1) d e h n ds (readsOf e (.cpy z x y)) (stepW (.cpy z x y) e h nid):=bH rfl
@[simp] theorem aok {z:List AV} {x:Opd}:DK C base fin k a un (⟨d,none,.clr z x⟩::l) nid ⟨e,h,n⟩ ds=DSK C base fin k a un l (nid+1) d e h n ds (readsOf e (.clr z x)) (stepW (.clr z x) e h nid):=bH rfl
@[simp] theorem ap8 {x y:Opd}:DK C base fin k a un (⟨d,none,.mx x y⟩::l) nid ⟨e,h,n⟩ ds=DSK C base fin k a un l (nid+1) d e h n ds (readsOf e (.mx x y)) (stepW (.mx x y) e h nid):=bH rfl
@[simp] theorem ap3 {x y:Opd}:DK C base fin k a un (⟨d,none,.mn x y⟩::l) nid ⟨e,h,n⟩ ds=DSK C base fin k a un l (nid+1) d e h n ds (readsOf e (.mn x y)) (stepW (.mn x y) e h nid):=bH rfl
end
@[simp] theorem nat?_cast (n:Nat):nat? (n:Int)=some n:=rfl
@[simp] theorem nat?_zero:nat? 0=some 0:=rfl
@[simp] theorem nat?_one:nat? 1=some 1:=rfl
@[simp] theorem nat?_lit (n:Nat):nat? (no_index (OfNat.ofNat n):Int)=some n:=rfl
@[simp] theorem nat?_add (n m:Nat):nat? ((n:Int)+(m:Int))=some (n+m):=rfl
@[simp] theorem nat?_add_lit (n m:Nat):nat? ((n:Int)+(no_index (OfNat.ofNat m):Int))=some (n+m):=rfl
theorem aI {x:Int} (h1:-9223372036854775808≤x) (h2:x < 9223372036854775808):IntKind.i64.wrap x=x:=by
 show (if (true&&decide (x % 18446744073709551616 ≥ 9223372036854775808))=true then x % 18446744073709551616 - 18446744073709551616 else x % 18446744073709551616)=x
 simp only [Bool.true_and,decide_eq_true_eq]
 split <;> omega
theorem sG {x:Int} (h1:0≤x) (h2:x < 18446744073709551616):IntKind.u64.wrap x=x:=by
 show (if (false&&decide (x % 18446744073709551616 ≥ 9223372036854775808))=true then x % 18446744073709551616 - 18446744073709551616 else x % 18446744073709551616)=x
 simp only [Bool.false_and,Bool.false_eq_true,if_false]
 omega
theorem wU8 {x:Int} (h1:0≤x) (h2:x < 256):IntKind.u8.wrap x=x:=by
 show (if (false&&decide (x % 256 ≥ 128))=true then x % 256 - 256 else x % 256)=x
 simp only [Bool.false_and,Bool.false_eq_true,if_false]
 omega
theorem fits {n c:Nat} (h:n * c≤35184372088832):(n * c≤35184372088832)=True:=eq_true h
@[simp ↓] theorem aqa {α β:Type} (a:α) (f:α→Option β):ob (some a) f=f a:=rfl
@[simp] theorem ai7 (e:Env) (h:aJ) (t:Nat):BQ e h (.tmp t)=Pav.get e t:=rfl
def cellOf (h:aJ) (n:Nat) (ag:Bool):Option AV→Option AV
 | some (.ptr b i o)=>xC n ag o i (Pav.get h b)
 | _=>none
@[simp] theorem ahh (e:Env) (h:aJ) (t n:Nat) (ag:Bool):BQ e h (.cell t n ag)=cellOf h n ag (Pav.get e t):=rfl
attribute [simp] cellOf
@[simp] theorem aqd (s:Nat) (e:Env):(Opd.t s).ev e=(Pav.get e s).getD .undef:=rfl
@[simp] theorem aqg (v:AV) (e:Env):(Opd.c v).ev e=v:=rfl
@[simp ↓] theorem ap9 {α β:Type} (f:α→Option β):ob none f=none:=rfl
@[simp ↓] theorem aqi {α β:Type} (a:α) (f:α→β):om (some a) f=some (f a):=rfl
@[simp ↓] theorem aqe {α β:Type} (f:α→β):om none f=none:=rfl
@[simp] theorem aqh {β:Type} (x:Option β):og true x=x:=rfl
@[simp] theorem aqc {β:Type} (x:Option β):og false x=none:=rfl
@[simp] theorem aqf (v:AV):ov (some v)=some (v,[]):=rfl
@[simp] theorem ap2 (v:AV):ovW (some v)=some (v,[]):=rfl
@[simp] theorem akT (x:AV × Upd):plainW (some x)=some (x.1,[]):=rfl
def aak {α:Type}:Option α→Option (List α)→Option (List α)
 | some a,some l=>some (a::l)
 | _,_=>none
@[simp] theorem amy {α:Type} (a:α) (l:List α):aak (some a) (some l)=some (a::l):=rfl
@[simp] theorem akH {α β:Type} (f:α→Option β):bn f []=some []:=rfl
@[simp] theorem ai9 {α β:Type} (f:α→Option β) (a:α) (r:List α):bn f (a::r)=aak (f a) (bn f r):=by
 simp only [bn];cases f a <;> cases bn f r <;> rfl
def agh (k:Nat):Option AV→Option Env→Option Env
 | some v,some r=>some ((k,v)::r)
 | _,_=>none
@[simp] theorem alO (k:Nat) (v:AV) (r:Env):agh k (some v) (some r)=some ((k,v)::r):=rfl
@[simp] theorem ahS (π:Nat→Option Nat):jU π []=some []:=rfl
@[simp] theorem agn (π:Nat→Option Nat) (k:Nat) (v:AV) (r:Env):jU π ((k,v)::r)=agh k (ren π v) (jU π r):=by
 simp only [jU];cases ren π v <;> cases jU π r <;> rfl
def akb (i o:Nat):Option Nat→Option AV
 | some b=>some (.ptr b i o)
 | none=>none
def slO (z i l c:Nat) (ex:Bool):Option Nat→Option AV
 | some b=>some (.sl b z i l c ex)
 | none=>none
def akd:Option Nat→Option AV
 | some b=>some (.map b)
 | none=>none
def fnO (f:Nat):Option (List AV)→Option AV
 | some cs=>some (.fn f cs)
 | none=>none
def aiJ:Option (List AV)→Option AV
 | some cs=>some (.agg cs)
 | none=>none
def ahE:Option (List AV)→Option AV
 | some cs=>some (.tup cs)
 | none=>none
@[simp] theorem anV (i o b:Nat):akb i o (some b)=some (.ptr b i o):=rfl
@[simp] theorem ap4 (z i l c:Nat) (ex:Bool) (b:Nat):slO z i l c ex (some b)=some (.sl b z i l c ex):=rfl
@[simp] theorem aph (b:Nat):akd (some b)=some (.map b):=rfl
@[simp] theorem ap6 (f:Nat) (cs:List AV):fnO f (some cs)=some (.fn f cs):=rfl
@[simp] theorem apo (cs:List AV):aiJ (some cs)=some (.agg cs):=rfl
@[simp] theorem ao6 (cs:List AV):ahE (some cs)=some (.tup cs):=rfl
section
variable (π:Nat→Option Nat)
@[simp] theorem ali (b i o:Nat):ren π (.ptr b i o)=akb i o (π b):=by simp only [ren];cases π b <;> rfl
@[simp] theorem apu (b z i l c:Nat) (ex:Bool):ren π (.sl b z i l c ex)=slO z i l c ex (π b):=by simp only [ren];cases π b <;> rfl
@[simp] theorem amF (b:Nat):ren π (.map b)=akd (π b):=by simp only [ren];cases π b <;> rfl
@[simp] theorem anH (f:Nat) (cs:List AV):ren π (.fn f cs)=fnO f (lM π cs):=by simp only [ren];cases lM π cs <;> rfl
@[simp] theorem alv (cs:List AV):ren π (.agg cs)=aiJ (lM π cs):=by simp only [ren];cases lM π cs <;> rfl
@[simp] theorem amw (cs:List AV):ren π (.tup cs)=ahE (lM π cs):=by simp only [ren];cases lM π cs <;> rfl
@[simp] theorem aja:ren π .undef=some .undef:=rfl
@[simp] theorem ajx (b:Bool):ren π (.bool b)=some (.bool b):=rfl
@[simp] theorem al8 (k:IntKind) (n:Int):ren π (.int k n)=some (.int k n):=rfl
@[simp] theorem akY (s:List UInt8):ren π (.str s)=some (.str s):=rfl
@[simp] theorem akR:ren π .dH=some .dH:=rfl
@[simp] theorem ajF:ren π .aZ=some .aZ:=rfl
@[simp] theorem akC:ren π .dA=some .dA:=rfl
@[simp] theorem akA:ren π .dG=some .dG:=rfl
@[simp] theorem apT (z:Nat) (es:List (List AV)) (ex:Bool):ren π (.ro z es ex)=some (.ro z es ex):=rfl
@[simp] theorem amA (cs:List AV):ren π (.rop cs)=some (.rop cs):=rfl
@[simp] theorem aju:lM π []=some []:=rfl
@[simp] theorem ajc (v:AV) (r:List AV):lM π (v::r)=aak (ren π v) (lM π r):=by simp only [lM];cases ren π v <;> cases lM π r <;> rfl
def abv (z:Nat) (mu dt:Bool):Option (List (List AV))→Option gZ
 | some es=>some (.cells z es mu dt)
 | none=>none
@[simp] theorem akv (z:Nat) (mu dt:Bool) (es:List (List AV)):abv z mu dt (some es)=some (.cells z es mu dt):=rfl
@[simp] theorem ajh (z:Nat) (es:List (List AV)) (mu:Bool):gX π (.cells z es mu true)=some (.cells z es mu true):=rfl
@[simp] theorem ai4 (z:Nat) (es:List (List AV)) (mu:Bool):gX π (.cells z es mu false)=abv z mu false (bn (lM π) es):=by simp only [gX];cases bn (lM π) es <;> rfl
@[simp] theorem ain (es:List (AV × AV)):gX π (.map es)=some (.map es):=rfl
@[simp] theorem afK (s:List UInt8) (p:Nat):gX π (.iter s p)=some (.iter s p):=rfl
def U9 (k:Nat):Option gZ→Option aJ→Option aJ
 | some v,some r=>some ((k,v)::r)
 | _,_=>none
@[simp] theorem alF (k:Nat) (v:gZ) (r:aJ):U9 k (some v) (some r)=some ((k,v)::r):=rfl
@[simp] theorem ag6 (base:Nat):jG base π []=some []:=rfl
@[simp] theorem ags (base b:Nat) (o:gZ) (r:aJ):jG base π ((b,o)::r)=if b < base then U9 b (gX π o) (jG base π r) else jG base π r:=by
 simp only [jG]
 split
 · cases gX π o <;> cases jG base π r <;> rfl
 · rfl
def newH (n:Nat) (π:Nat→Option Nat) (r:Option aJ):Option gZ→Option aJ
 | some o=>U9 n (gX π o) r
 | none=>r
@[simp] theorem aov (n:Nat) (r:Option aJ) (o:gZ):newH n π r (some o)=U9 n (gX π o) r:=rfl
@[simp] theorem anQ (n:Nat) (r:Option aJ):newH n π r none=r:=rfl
@[simp] theorem aiD (h:aJ) (n:Nat):lJ π h n []=some []:=rfl
@[simp] theorem agj (h:aJ) (n b:Nat) (r:List Nat):lJ π h n (b::r)=newH n π (lJ π h (n+1) r) (Pav.get h b):=by
 simp only [lJ,newH]
 cases Pav.get h b with
 | none=>rfl
 | some o=>simp only;cases gX π o <;> cases lJ π h (n+1) r <;> rfl
end
def akI (n:Nat):Option Env→Option aJ→Option aJ→Option WSt
 | some e,some h1,some h2=>some ⟨e,h1++h2,n⟩
 | _,_,_=>none
@[simp] theorem apj (n:Nat) (e:Env) (h1 h2:aJ):akI n (some e) (some h1) (some h2)=some ⟨e,h1++h2,n⟩:=rfl
@[simp] theorem agk (base:Nat) (s:WSt) (L:List Nat):renumber base s L=akI (base+L.length) (jU (gU base L) s.env) (jG base (gU base L) s.heap) (lJ (gU base L) s.heap base L):=by
 simp only [renumber]
 cases jU (gU base L) s.env <;> cases jG base (gU base L) s.heap <;> cases lJ (gU base L) s.heap base L <;> rfl
def ajQ (h:aJ) (nid zl bytes:Nat) (s:AV):Option (List (List AV) × Bool)→Option (AV × dP)
 | some (xs,d)=>jT h nid zl bytes s xs d
 | none=>none
@[simp] theorem an8 (h:aJ) (nid zl bytes:Nat) (s:AV) (xs:List (List AV)) (d:Bool):ajQ h nid zl bytes s (some (xs,d))=jT h nid zl bytes s xs d:=rfl
@[simp] theorem aoi (z:List AV) (bytes:Nat) (s x:Opd) (e:Env) (h:aJ) (n:Nat):Oz z bytes false s x e h n=ajQ h n z.length bytes (s.ev e) (iZ h z.length (x.ev e)):=by
 simp only [Oz,Bool.false_eq_true,if_false];cases iZ h z.length (x.ev e) <;> rfl
def YB (h:aJ) (nid:Nat) (z:List AV) (bytes:Nat) (s:AV):AV→Option (AV × dP)
 | .int _ n=>ob (nat? n) fun n=>if n * (bytes+1)≤bP then jT h nid z.length bytes s (List.replicate n z) (z.all isC) else none
 | _=>none
@[simp] theorem ao1 (z:List AV) (bytes:Nat) (s x:Opd) (e:Env) (h:aJ) (n:Nat):Oz z bytes true s x e h n=YB h n z bytes (s.ev e) (x.ev e):=by
 simp only [Oz,if_true];cases x.ev e <;> rfl
def ajs (h:aJ) (z:Nat) (d:AV):Option (List (List AV) × Bool)→Option (AV × dP)
 | some (xs,b)=>o9 h z xs b d
 | none=>none
@[simp] theorem amT (h:aJ) (z:Nat) (d:AV) (xs:List (List AV)) (b:Bool):ajs h z d (some (xs,b))=o9 h z xs b d:=rfl
@[simp] theorem amj (z:Nat) (d s:Opd) (e:Env) (h:aJ) (n:Nat):XP z d s e h n=ajs h z (d.ev e) (iZ h z (s.ev e)):=by
 simp only [XP];cases iZ h z (s.ev e) <;> rfl
attribute [simp] YB
@[simp] theorem aot {α β γ:Type} (x:Option α) (g:α→β) (f:β→Option γ):ob (Option.map g x) f=ob x fun a=>f (g a):=by cases x <;> rfl
section
variable (h:aJ) (nid zl bytes:Nat) (xs:List (List AV)) (d:Bool)
@[simp] theorem agr:jT h nid zl bytes .aZ xs d=if xs.isEmpty=true then some (.aZ,[]) else lZ nid zl xs.length bytes xs d:=by cases xs <;> rfl
@[simp] theorem ai3 (z:Nat) (es:List (List AV)) (ex:Bool):jT h nid zl bytes (.ro z es ex) xs d =
 if z=zl then (if xs.isEmpty=true then some (.ro z es ex,[]) else if ex=true then lZ nid zl (es.length+xs.length) bytes (es++xs) d else none) else none:=by cases xs <;> rfl
@[simp] theorem aje (b z i len cap:Nat) (ex:Bool):jT h nid zl bytes (.sl b z i len cap ex) xs d =
 if z=zl then (if xs.isEmpty=true then some (.sl b z i len cap ex,[]) else Kt (Pav.get h b) nid zl bytes b i len cap ex xs d (len+xs.length)) else none:=by cases xs <;> rfl
end
def aiQ (h:aJ) (n z i len cap:Nat) (ex:Bool):Option gZ→Option AV
 | some (.cells _ es _ true)=>og (decide (((es.drop i).take len).length=len)) (some (.ro z ((es.drop i).take len) (ex&&decide (cap=len))))
 | some (.cells _ es _ false)=>ob (bn (bn (bM h n)) ((es.drop i).take len)) fun es'=>og (decide (es'.length=len)&&es'.all fun e=>e.all isC) (some (.ro z es' (ex&&decide (cap=len))))
 | _=>none
def aii (h:aJ) (n i o:Nat):Option gZ→Option AV
 | some (.cells _ es _ true)=>ob es[i]? fun cs=>some (.rop (cs.drop o))
 | some (.cells _ es _ false)=>ob es[i]? fun cs=>ob (bn (bM h n) (cs.drop o)) fun cs'=>some (.rop cs')
 | _=>none
def TL (h:aJ) (n i o:Nat):Option gZ→List Nat
 | some (.cells _ es _ false)=>((es[i]?.getD []).drop o).flatMap (aN h n)
 | _=>[]
def Un (h:aJ) (n i len:Nat):Option gZ→List Nat
 | some (.cells _ es _ false)=>((es.drop i).take len).flatMap fun e=>e.flatMap (aN h n)
 | _=>[]
section
variable (h:aJ) (n:Nat)
@[simp] theorem ai8 (b:Bool):bM h (n+1) (.bool b)=some (.bool b):=rfl
@[simp] theorem ajR (k:IntKind) (x:Int):bM h (n+1) (.int k x)=some (.int k x):=rfl
@[simp] theorem ajO (s:List UInt8):bM h (n+1) (.str s)=some (.str s):=rfl
@[simp] theorem ajq:bM h (n+1) .dH=some .dH:=rfl
@[simp] theorem ajp:bM h (n+1) .aZ=some .aZ:=rfl
@[simp] theorem ai6:bM h (n+1) .dA=some .dA:=rfl
@[simp] theorem ajd:bM h (n+1) .dG=some .dG:=rfl
@[simp] theorem alp (z:Nat) (es:List (List AV)) (ex:Bool):bM h (n+1) (.ro z es ex)=some (.ro z es ex):=rfl
@[simp] theorem ajJ (cs:List AV):bM h (n+1) (.rop cs)=some (.rop cs):=rfl
@[simp] theorem al9 (f:Nat) (cs:List AV):bM h (n+1) (.fn f cs)=fnO f (bn (bM h n) cs):=by simp only [bM];cases bn (bM h n) cs <;> rfl
@[simp] theorem akp (cs:List AV):bM h (n+1) (.agg cs)=aiJ (bn (bM h n) cs):=by simp only [bM];cases bn (bM h n) cs <;> rfl
@[simp] theorem aj3 (cs:List AV):bM h (n+1) (.tup cs)=ahE (bn (bM h n) cs):=by simp only [bM];cases bn (bM h n) cs <;> rfl
@[simp] theorem alc (b z i len cap:Nat) (ex:Bool):bM h (n+2) (.sl b z i len cap ex)=aiQ h (n+1) z i len cap ex (Pav.get h b):=by
 simp only [bM,aiQ]
 split
 · rename_i hg
   rw [hg]
   rename_i dt
   cases dt <;> rfl
 · rename_i hg
   split
   · rename_i h1;exact absurd h1 (hg _ _ _ _)
   · rename_i h1;exact absurd h1 (hg _ _ _ _)
   · rfl
@[simp] theorem akM (b i o:Nat):bM h (n+2) (.ptr b i o)=aii h (n+1) i o (Pav.get h b):=by
 simp only [bM,aii]
 split
 · rename_i hg
   rw [hg]
   rename_i es _ dt
   cases dt
   · simp only [Bool.false_eq_true,if_false]
     cases es[i]? with
     | none=>rfl
     | some cs=>simp only [ob];cases bn (bM h (n+1)) (cs.drop o) <;> rfl
   · rfl
 · rename_i hg
   split
   · rename_i h1;exact absurd h1 (hg _ _ _ _)
   · rename_i h1;exact absurd h1 (hg _ _ _ _)
   · rfl
@[simp] theorem aiR (b i o:Nat):aN h (n+1) (.ptr b i o)=b::TL h n i o (Pav.get h b):=by
 simp only [aN,TL]
 congr 1
 split
 · rename_i hg
   rw [hg]
   rename_i dt
   cases dt <;> rfl
 · rename_i hg
   split
   · rename_i h1;exact absurd h1 (hg _ _ _ _)
   · rfl
@[simp] theorem af5 (b:Bool):aN h (n+1) (.bool b)=[]:=rfl
@[simp] theorem aiA (k:IntKind) (x:Int):aN h (n+1) (.int k x)=[]:=rfl
@[simp] theorem ahr (s:List UInt8):aN h (n+1) (.str s)=[]:=rfl
@[simp] theorem afW:aN h (n+1) .dH=[]:=rfl
@[simp] theorem agq:aN h (n+1) .aZ=[]:=rfl
@[simp] theorem afT:aN h (n+1) .dA=[]:=rfl
@[simp] theorem afO:aN h (n+1) .dG=[]:=rfl
@[simp] theorem ajl (z:Nat) (es:List (List AV)) (ex:Bool):aN h (n+1) (.ro z es ex)=[]:=rfl
@[simp] theorem ag9 (cs:List AV):aN h (n+1) (.rop cs)=[]:=rfl
@[simp] theorem ajo (f:Nat) (cs:List AV):aN h (n+1) (.fn f cs)=cs.flatMap (aN h n):=rfl
@[simp] theorem ah1 (cs:List AV):aN h (n+1) (.agg cs)=cs.flatMap (aN h n):=rfl
@[simp] theorem ahj (cs:List AV):aN h (n+1) (.tup cs)=cs.flatMap (aN h n):=rfl
@[simp] theorem ajk (b z i len cap:Nat) (ex:Bool):aN h (n+1) (.sl b z i len cap ex)=b::Un h n i len (Pav.get h b):=by
 simp only [aN,Un]
 congr 1
 split
 · rename_i hg
   rw [hg]
   rename_i dt
   cases dt <;> rfl
 · rename_i hg
   split
   · rename_i h1;exact absurd h1 (hg _ _ _ _)
   · rfl
@[simp] theorem afz (b:Bool):cZ (n+1) (.bool b)=false:=rfl
@[simp] theorem afR (k:IntKind) (x:Int):cZ (n+1) (.int k x)=false:=rfl
@[simp] theorem afG (s:List UInt8):cZ (n+1) (.str s)=false:=rfl
@[simp] theorem aeH:cZ (n+1) .dH=false:=rfl
@[simp] theorem aen:cZ (n+1) .aZ=false:=rfl
@[simp] theorem adv:cZ (n+1) .dA=false:=rfl
@[simp] theorem adS:cZ (n+1) .dG=false:=rfl
@[simp] theorem ahe (z:Nat) (es:List (List AV)) (ex:Bool):cZ (n+1) (.ro z es ex)=true:=rfl
@[simp] theorem agp (cs:List AV):cZ (n+1) (.rop cs)=true:=rfl
@[simp] theorem aiO (f:Nat) (cs:List AV):cZ (n+1) (.fn f cs)=cs.any (cZ n):=rfl
@[simp] theorem agc (cs:List AV):cZ (n+1) (.agg cs)=cs.any (cZ n):=rfl
@[simp] theorem afQ (cs:List AV):cZ (n+1) (.tup cs)=cs.any (cZ n):=rfl
end
def imax (a b:Int):Int:=if b > a then b else a
def qV (a b:Int):Int:=if b < a then b else a
theorem NW {a b:Int} (h:b≤a):imax a b=a:=by unfold imax;rw [if_neg (by omega)]
theorem Zm {a b:Int} (h:a≤b):imax a b=b:=by unfold imax;split <;> omega
def mxV:AV→AV→Option (AV × Upd)
 | .int k a,.int k' b=>if k=k' then some (.int k (imax a b),[]) else none
 | _,_=>none
def mnV:AV→AV→Option (AV × Upd)
 | .int k a,.int k' b=>if k=k' then some (.int k (qV a b),[]) else none
 | _,_=>none
@[simp] theorem aoE (x y:Opd) (e:Env) (h:Heap) (n:Nat):sMx x y e h n=mxV (x.ev e) (y.ev e):=rfl
@[simp] theorem an1 (x y:Opd) (e:Env) (h:Heap) (n:Nat):sMn x y e h n=mnV (x.ev e) (y.ev e):=rfl
attribute [simp] mxV mnV
@[simp] theorem ahH (base:Nat) (cn:Bool) (lv:List Nat) (s:WSt):jV base ⟨cn,lv,[]⟩ s=canon base ⟨cn,lv,[]⟩ s:=rfl
@[simp] theorem afP (base:Nat) (cn:Bool) (lv:List Nat) (p:Nat × Nat) (r:List (Nat × Nat)) (s:WSt):jV base ⟨cn,lv,p::r⟩ s=ob (lQ (Dv (p::r)) s) (canon base ⟨cn,lv,p::r⟩):=rfl
attribute [simp] Dv lQ GY
attribute [simp] List.getElem?_cons_zero aiQ Un aii TL
attribute [simp] stepW SE ahI QV KQ kX ZR zn xC pY Kw uw Gf splice Sr Yx Vf N9 found afy TR RJ VF BF aiL qH Ls iZ lZ Kt
 Me o9 aeL BP Rx sMv Dk BM pX l9 ZK yg Ci Bz y8 qN FV iy eqFn I7 Iw IG iD Bv Vr jY iK sUn P8 OO Ox Qi Qo zU Cc gJ Ed AO FX jM gG mD jJ um bound oev
 JE Dq C9 rU CV rD o8 Df QE sCap xX AV.cells AV.cell isC isD Pav.get Pav.put dN qR bK Eo del readsOf dU canon Uy Ui kG Bc Jh Gz Vj rO gU place close
 D9 sF refs CJ KU aY oI bU bQ Hu CG yF aP HY ay uh bP lI lT BN ZV Ud meets Um
def rep {α:Type} (n:Nat) (a:α):List α:=List.replicate n a
section
variable {α β:Type} (n:Nat) (a:α)
@[simp] theorem ahw:(rep n a).length=n:=List.length_replicate
@[simp] theorem alN (f:α→β):List.map f (rep n a)=rep n (f a):=List.map_replicate
@[simp] theorem alE (p:α→Bool):(rep (n+1) a).all p=p a:=by
 unfold rep;rw [List.all_replicate];simp
@[simp] theorem af6 {i:Nat} (h:i < (rep n a).length):(rep n a)[i]=a:=by
 unfold rep;exact List.getElem_replicate _
@[simp] theorem ab6:List.take n (rep n a)=rep n a:=List.take_of_length_le (by simp)
@[simp] theorem akO (n:Nat):(rep (n+1) a).isEmpty=false:=rfl
end
end Go.Pw
end
section
set_option linter.unusedSimpArgs false
set_option linter.unusedVariables false
namespace Go.Pw
open Go Go.Pav
inductive ZO where
 | p (d:Option (Option Nat)) (g:Option (Nat × Bool)) (x:COp)
def zt:List Nat→List Opd
 | []=>[]
 | a::r=>.t a::zt r
namespace Z
def y (s:Nat):ZO→ZO
 | .p d _ x=>.p d (some (s,true)) x
def z (s:Nat):ZO→ZO
 | .p d _ x=>.p d (some (s,false)) x
def d (k:Nat):ZO→ZO
 | .p _ g x=>.p (some (some k)) g x
def n:ZO→ZO
 | .p _ g x=>.p (some none) g x
def m (a:Nat):ZO:=.p none none (.mv (.t a))
def i (k:Int):ZO:=.p none none (.mv (.c (.int .i64 k)))
def l (k a:Nat):ZO:=.p none none (.load k false (.t a))
def h (k a:Nat):ZO:=.p none none (.load k true (.t a))
def f (o a:Nat):ZO:=.p none none (.fld o (.t a))
def po (a b:Nat):ZO:=.p none none (.pick (.t a) (.c (.bool true)) (.t b))
def pa (a b:Nat):ZO:=.p none none (.pick (.t a) (.t b) (.c (.bool false)))
def ln (k a:Nat):ZO:=.p none none (.len k (.t a))
def ix (k a b:Nat):ZO:=.p none none (.idxs k (.t a) (.t b))
def ex (k a:Nat):ZO:=.p none none (.ext k (.t a))
def nk (a:Nat):ZO:=.p none none (.jE (.t a))
def bx (a:Nat):ZO:=.p none none (.box (.t a))
def nt (a:Nat):ZO:=.p none none (.un .not (.t a))
def st (k a b:Nat):ZO:=.p none none (.store k (.t a) (.t b))
def E (x:COp):ZO:=.p none none x
def tt:ZO:=.p none none (.mv (.c (.bool true)))
def ff:ZO:=.p none none (.mv (.c (.bool false)))
def ca (g:Nat) (q:List Nat):ZO:=.p none none (.call g (zt q))
def eq (a b:Nat):ZO:=.p none none (.bin .eql (.t a) (.t b))
def eqi (a:Nat) (k:Int):ZO:=.p none none (.bin .eql (.t a) (.c (.int .i64 k)))
def ne (a b:Nat):ZO:=.p none none (.bin .neq (.t a) (.t b))
def nei (a:Nat) (k:Int):ZO:=.p none none (.bin .neq (.t a) (.c (.int .i64 k)))
def lt (a b:Nat):ZO:=.p none none (.bin .lss (.t a) (.t b))
def lti (a:Nat) (k:Int):ZO:=.p none none (.bin .lss (.t a) (.c (.int .i64 k)))
def le (a b:Nat):ZO:=.p none none (.bin .leq (.t a) (.t b))
def lei (a:Nat) (k:Int):ZO:=.p none none (.bin .leq (.t a) (.c (.int .i64 k)))
def gt (a b:Nat):ZO:=.p none none (.bin .gtr (.t a) (.t b))
def gti (a:Nat) (k:Int):ZO:=.p none none (.bin .gtr (.t a) (.c (.int .i64 k)))
def ge (a b:Nat):ZO:=.p none none (.bin .geq (.t a) (.t b))
def gei (a:Nat) (k:Int):ZO:=.p none none (.bin .geq (.t a) (.c (.int .i64 k)))
def ad (a b:Nat):ZO:=.p none none (.bin .add (.t a) (.t b))
def adi (a:Nat) (k:Int):ZO:=.p none none (.bin .add (.t a) (.c (.int .i64 k)))
def sb (a b:Nat):ZO:=.p none none (.bin .sub (.t a) (.t b))
def sbi (a:Nat) (k:Int):ZO:=.p none none (.bin .sub (.t a) (.c (.int .i64 k)))
end Z
def zo:Nat→List ZO→List aK
 | _,[]=>[]
 | k,.p none g x::r=>⟨some k,g,x⟩::zo (k+1) r
 | k,.p (some j) g x::r=>⟨j,g,x⟩::zo k r
inductive ZC where
 | O (k:Nat) (l:List ZO)
 | Q (k:Nat) (l:List ZO) (s:List Nat)
 | R (k:Nat) (l:List ZO) (a:Ann)
 | U (k:Nat) (l:List ZO) (u:List (Nat × Nat)) (s:List Nat)
 | V (k:Nat) (l:List ZO) (u:List (Nat × Nat)) (a:Ann)
 | s (a b:ZC)
 | r (a:ZC)
 | c (t:Nat) (a:ZC)
 | cc (t:Nat) (a b:ZC)
 | cd (x:Opd) (a b:ZC)
 | B (j:Nat) (a:ZC)
 | bk (j:Nat) (a:ZC) (x:Ann)
 | lp (x:Ann) (a:ZC)
 | ee (j:Nat)
 | w (x:aC)
instance:Coe aC ZC:=⟨.w⟩
def zc:ZC→aC
 | .O k l=>.ops (zo k l) ⟨false,[],[]⟩
 | .Q k l s=>.ops (zo k l) ⟨true,s,[]⟩
 | .R k l a=>.ops (zo k l) a
 | .U k l u s=>.draw (zo k l) u ⟨true,s,[]⟩
 | .V k l u a=>.draw (zo k l) u a
 | .s a b=>.seq (zc a) (zc b)
 | .r a=>.seq (zc a) .ret
 | .c t a=>.cond (.t t) (zc a) .skip
 | .cc t a b=>.cond (.t t) (zc a) (zc b)
 | .cd x a b=>.cond x (zc a) (zc b)
 | .B j a=>.block j (zc a) ⟨false,[],[]⟩
 | .bk j a x=>.block j (zc a) x
 | .lp x a=>.loop x (zc a)
 | .ee j=>.exit j
 | .w x=>x
abbrev T (a:Nat):Opd:=.t a
abbrev N (n:Int):Opd:=.c (.int .i64 n)
abbrev zd (x:ZC) {y:aC} (_h:zc x=y:=by dsimp only [zc,zo,zt,T,N,Z.y,Z.z,Z.d,Z.n,Z.m,Z.i,Z.l,Z.h,Z.f,Z.po,Z.pa,Z.ln,Z.ix,Z.ex,Z.nk,Z.bx,Z.nt,Z.st,Z.E,Z.tt,Z.ff,Z.ca,Z.eq,Z.eqi,Z.ne,Z.nei,Z.lt,Z.lti,Z.le,Z.lei,Z.gt,Z.gti,Z.ge,Z.gei,Z.ad,Z.adi,Z.sb,Z.sbi]):aC:=y
abbrev ZL (L B:aC) (a:Ann):Prop:=∀ {β:Type} {C:aG} {b:Nat} {f:Ex × WSt→Option β} {k:List Pw.Frame} {s:WSt},CK C b f k L s=LK C b f (.sq L::k) B (canon b a s)
end Go.Pw
end
