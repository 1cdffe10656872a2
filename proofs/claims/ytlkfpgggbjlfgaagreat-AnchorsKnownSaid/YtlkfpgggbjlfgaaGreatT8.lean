/- Part of the theory that the claims of this work use: PwOrc, PwRun, K07. No conditions of its own. -/
import Derived.Test.YtlkfpgggbjlfgaaGreatT7
set_option linter.unusedVariables false
set_option linter.unusedSimpArgs false
set_option maxRecDepth 10000
section
namespace Go.Pw
open Go Go.Pav
abbrev Orc:=Nat→List AV→Option AV
def CP (orc:Orc) (run:rD):rD:=fun f args h n =>
 match h,n with
 | [],0=>(match orc f args with
  | some v=>some (v,[],0)
  | none=>run f args [] 0)
 | h,n=>run f args h n
structure Bh (C:aI) (orc:Orc):Prop where
 inl:∀ f vs v,orc f vs=some v→C.inl f=false
 ptr:∀ f vs v,orc f vs=some v→bP vs=false
 val:∀ f vs v,orc f vs=some v→FnW C f vs=some v
 frz:∀ f vs v,orc f vs=some v→bJ [] au v=some v
section
variable (C:aI) (orc:Orc)
def evO:Nat→WEv
 | 0,_,_,_=>none
 | n+1,base,c,s =>
  match c with
  | .skip=>some (.norm,s)
  | .ops l a=>ob (gB C (CP orc (dQ C (evO n))) l s) fun s=>om (oN base a s) fun s=>(.norm,s)
  | .draw l un a=>ob (dZ C (CP orc (dQ C (evO n))) l s.next ⟨s.env,s.heap,s.next+l.length⟩ []) (rC base un a)
  | .seq a b=>ob (evO n base a s) (dY (evO n base b))
  | .cond c a b=>qj (evO n base a) (evO n base b) (c.ev s.env) s
  | .block id b a=>ob (evO n base b s) (jo base id a)
  | .loop a b=>ob (canon base a s) fun s=>ob (evO n base b s) (dY (evO n base (.loop a b)))
  | .exit id=>some (.exit id,s)
  | .ret=>some (.ret,s)
  | .fail=>none
  | .vG k=>om (o7 k (dF (oM k) 0 s.env)) fun v=>(.ret,⟨uQ s.env 9 v,s.heap,s.next⟩)
  | .cln zz z b=>match (Pav.get s.env 0).bind rE with
   | some z'=>if z'=z∧zz.length=z∧8≤n then some (.ret,⟨[(2,.sl s.next z 0 0 0 true)],Pav.put s.heap s.next (.cells z [] true true),s.next+1⟩) else none
   | none=>evO n base (abK zz z b) s
end
section
variable {C:aI} {orc:Orc} {r r':rD}
def CW (C:aI) (r r':rD):Prop:=∀ f args h nid n c,gW C r f args h nid n=some c→gW C r' f args h nid n=some c
theorem Yq (hr:CW C r r') {op:COp} {nid:Nat} {e:Env} {h:aJ} {n:Nat} {d:jy} (hd:iM C r op nid e h n=some d):iM C r' op nid e h n=some d:=by
 unfold iM at hd ⊢
 split
 · rename_i hc;rw [hc] at hd;cases hd
 · rename_i hc;rw [hc] at hd;exact kX hd fun c hc=>hr _ _ _ _ _ _ hc
 · rename_i hc;rw [hc] at hd;exact hd
theorem Ov (hr:CW C r r') {o:aX} {nid:Nat} {e:Env} {h:aJ} {n:Nat} {d:jy} (hd:fH C r o nid e h n=some d):fH C r' o nid e h n=some d:=by
 unfold fH at hd ⊢
 split
 · rename_i hc;rw [hc] at hd;cases hd
 · rename_i hc;rw [hc] at hd;exact hd
 · rename_i hc;rw [hc] at hd;exact Yq hr hd
theorem Xc (hr:CW C r r'):∀ (l:List aX) (s s':WSt),gB C r l s=some s'→gB C r' l s=some s':=by
 intro l
 induction l with
 | nil=>intro s s' h;exact h
 | cons o l ih=>intro s s' h;exact bG h (fun d hd=>Ov hr hd) fun d hd=>ih _ _ hd
theorem Ry (hr:CW C r r'):∀ (l:List aX) (nid:Nat) (s:WSt) (ds:List jy) (x:WSt × List jy),dZ C r l nid s ds=some x→dZ C r' l nid s ds=some x:=by
 intro l
 induction l with
 | nil=>intro nid s ds x h;exact h
 | cons o l ih=>intro nid s ds x h;exact bG h (fun d hd=>Ov hr hd) fun d hd=>ih _ _ _ _ hd
theorem ny {f:Nat} {args:List AV} {h:aJ} {n:Nat} {x:AV × aJ × Nat} (hx:CP orc r f args h n=some x):r f args h n=some x∨(∃ v,orc f args=some v∧h=[]∧n=0∧x=(v,[],0)):=by
 unfold CP at hx
 split at hx
 · split at hx
   · rename_i v hv
     exact .inr ⟨v,hv,rfl,rfl,(Option.some.inj hx).symm⟩
   · exact .inl hx
 · exact .inl hx
theorem aiB (ok:Bh C orc) (hr:qO r (RnW C)):CW C (CP orc r) (RnW C):=by
 intro f args h nid n c hc
 unfold gW at hc ⊢
 split
 · rename_i hi
   rw [if_pos hi] at hc
   split
   · rename_i hf
     rw [if_pos hf] at hc
     obtain ⟨az,h1,hc⟩:=ak hc
     by_cases hdp:rW f=true
     · rw [if_pos hdp] at hc
       obtain ⟨x,h3,hc⟩:=ak hc
       rw [h1]
       rcases ny h3 with h3 | ⟨v,hv,_⟩
       · simp only [ob,if_pos hdp]
         rw [hr _ _ _ _ _ h3];exact hc
       · rw [ok.inl _ _ _ hv] at hi;cases hi
     rw [if_neg hdp] at hc
     obtain ⟨x,h2,hend⟩:=ak hc
     obtain ⟨y,h3,h4⟩:=ak h2
     rw [h1]
     rcases ny h3 with h3 | ⟨v,hv,_⟩
     · simp only [ob,if_neg hdp]
       unfold iH
       rw [hr _ _ _ _ _ h3]
       simp only [ob]
       rw [h4];exact hend
     · rw [ok.inl _ _ _ hv] at hi;cases hi
   · rename_i hf
     rw [if_neg hf] at hc
     obtain ⟨x,h1,rfl⟩:=aC hc
     rcases ny h1 with h1 | ⟨v,hv,_⟩
     · rw [hr _ _ _ _ _ h1];rfl
     · rw [ok.inl _ _ _ hv] at hi;cases hi
 · rename_i hi
   rw [if_neg hi] at hc
   split
   · rename_i hp
     rw [if_pos hp] at hc
     obtain ⟨x,h1,rfl⟩:=aC hc
     rcases ny h1 with h1 | ⟨v,hv,_⟩
     · rw [hr _ _ _ _ _ h1];rfl
     · rw [ok.ptr _ _ _ hv] at hp;simp at hp
   · rename_i hp
     rw [if_neg hp] at hc
     obtain ⟨vs,h1,hc⟩:=ak hc
     obtain ⟨v,h2,rfl⟩:=aC hc
     rw [h1]
     have h3:fU (RnW C) f vs=some v:=by
      obtain ⟨x,h4,h5⟩:=ak h2
      rcases ny h4 with h4 | ⟨w,hw,_,_,rfl⟩
      · unfold fU;rw [hr _ _ _ _ _ h4];exact h5
      · simp only at h5
        rw [ok.frz _ _ _ hw] at h5
        rw [← h5]
        exact ok.val _ _ _ hw
     simp only [ob,h3]
     rfl
theorem Kw (ok:Bh C orc):∀ (n:Nat) (base:Nat) (c:aB) (s:WSt) (x:Ex × WSt),evO C orc n base c s=some x→CdW C base c s=some x:=by
 intro n
 induction n with
 | zero=>intro base c s x h;simp only [evO] at h;cases h
 | succ n ih =>
  intro base c s x h
  have hr:CW C (CP orc (dQ C (evO C orc n))) (RnW C):=aiB ok (mO ih)
  cases c with
  | skip=>rw [U8];exact h
  | exit id=>rw [Vg];exact h
  | ret=>rw [aaJ];exact h
  | fail=>simp only [evO] at h;cases h
  | vG k=>rw [Ut];exact h
  | cln zz z b =>
   rw [ai1]
   simp only [evO] at h
   split
   · rename_i z' hz
     rw [hz] at h
     simp only at h
     split at h
     · rename_i hc;rw [if_pos ⟨hc.1,hc.2.1⟩];exact h
     · cases h
   · rename_i hz
     rw [hz] at h
     exact ih _ _ _ _ h
  | ops l a=>rw [aan];simp only [evO] at h;exact bG h (fun s' hs=>Xc hr l s s' hs) fun x hx=>hx
  | draw l un a=>rw [Ve];simp only [evO] at h;exact bG h (fun x hx=>Ry hr l _ _ _ x hx) fun x hx=>hx
  | seq a b=>rw [qM];simp only [evO] at h;exact bG h (fun x hx=>ih _ _ _ _ hx) fun x hx=>kE (fun s x hx=>ih _ _ _ _ hx) hx
  | cond c a b =>
   rw [UN]
   simp only [evO] at h
   unfold qj at h ⊢
   split
   · rename_i t hv
     rw [hv] at h
     cases t with
     | true=>exact ih _ _ _ _ h
     | false=>exact ih _ _ _ _ h
   · split at h
     · rename_i h1 _ t hv;exact absurd hv (h1 t)
     · cases h
  | block id b a=>rw [Gx];simp only [evO] at h;exact bG h (fun x hx=>ih _ _ _ _ hx) fun x hx=>hx
  | loop a b=>rw [FD];simp only [evO] at h;exact bG h (fun x hx=>hx) fun s hs=>bG hs (fun x hx=>ih _ _ _ _ hx) fun x hx=>kE (fun s x hx=>ih _ _ _ _ hx) hx
end
end Go.Pw
end
section
namespace Go.Pw
open Go Go.Pav
def sqA:aB→aB
 | .seq a _=>a
 | c=>c
def sqB:aB→aB
 | .seq _ b=>b
 | c=>c
def norm? (r:Ex × WSt):Option WSt:=match r.1 with
 | .norm=>some r.2
 | _=>none
theorem BZ {r:Ex × WSt} {s:WSt} (h:norm? r=some s):r=(.norm,s):=by
 obtain ⟨e,t⟩:=r
 cases e <;> simp only [norm?] at h <;> cases h
 rfl
def out? (r:Ex × WSt):Option (Ex × WSt):=match r.1 with
 | .norm=>none
 | _=>some r
theorem Y2 {r x:Ex × WSt} (h:out? r=some x):r=x∧r.1≠.norm:=by
 obtain ⟨e,t⟩:=r
 cases e <;> simp only [out?] at h <;> cases h <;> exact ⟨rfl,by simp⟩
def ER (p:Nat→List AV→Bool):Orc:=fun f vs=>bif p f vs then some (.bool true) else none
theorem Rw {C:aI} {p:Nat→List AV→Bool} (h:∀ f vs,p f vs=true→C.inl f=false∧bP vs=false∧FnW C f vs=some (.bool true)):Bh C (ER p):=by
 have k:∀ f vs v,ER p f vs=some v→p f vs=true∧v=.bool true:=by
  intro f vs v hv
  unfold ER at hv
  cases c:p f vs
  · rw [c] at hv;cases hv
  · rw [c] at hv;cases hv;exact ⟨rfl,rfl⟩
 exact ⟨fun f vs v hv=>(h f vs (k f vs v hv).1).1,fun f vs v hv=>(h f vs (k f vs v hv).1).2.1,
  fun f vs v hv=>by rw [(k f vs v hv).2];exact (h f vs (k f vs v hv).1).2.2,fun f vs v hv=>by rw [(k f vs v hv).2];rfl⟩
section
variable (C:aI) (orc:Orc) (N base:Nat)
def IB:List aB→WSt→Option WSt
 | [],s=>some s
 | c::r,s=>ob (evO C orc N base c s) fun x=>ob (norm? x) (IB r)
def ag0 (a:Ann) (b:aB) (s:WSt):Option WSt:=ob (evO C orc N base b s) fun r=>ob (norm? r) fun s=>canon base a s
def eG (a:Ann) (b:aB):Nat→WSt→Option WSt
 | 0,s=>some s
 | n+1,s=>ob (ag0 C orc N base a b s) (eG a b n)
def akP (b:aB) (s:WSt):Option (Ex × WSt):=ob (evO C orc N base b s) out?
def vT (id:Nat) (al:Ann) (b:aB) (s:WSt):Option WSt:=ob (akP C orc N base b s) fun r=>ob (jo base id al r) norm?
end
section
variable {C:aI} {orc:Orc} {N base:Nat}
theorem afT (ok:Bh C orc):∀ (cs:List aB) (s s':WSt) (c:aB),IB C orc N base cs s=some s'→CdW C base (cs.foldr .seq c) s=CdW C base c s':=by
 intro cs
 induction cs with
 | nil=>intro s s' c h;cases h;rfl
 | cons a r ih =>
  intro s s' c h
  simp only [IB] at h
  obtain ⟨x,h1,h⟩:=ak h
  obtain ⟨t,h2,h⟩:=ak h
  obtain rfl:=BZ h2
  rw [List.foldr_cons,qM,Kw ok _ _ _ _ _ h1]
  exact ih t s' c h
theorem Wq (a:Ann) (b:aB):∀ (m n:Nat) (s t u:WSt),eG C orc N base a b m s=some t→eG C orc N base a b n t=some u→eG C orc N base a b (m+n) s=some u:=by
 intro m
 induction m with
 | zero=>intro n s t u h1 h2;cases h1;rw [Nat.zero_add];exact h2
 | succ m ih =>
  intro n s t u h1 h2
  rw [Nat.succ_add]
  simp only [eG] at h1 ⊢
  obtain ⟨x,h3,h4⟩:=ak h1
  rw [h3]
  exact ih n x t u h4 h2
theorem afb (ok:Bh C orc) (a:Ann) (b:aB):∀ (n:Nat) (s t:WSt) (r:Ex × WSt),eG C orc N base a b n s=some t→akP C orc N base b t=some r→∀ s0,canon base a s0=some s→CdW C base (.loop a b) s0=some r:=by
 intro n
 induction n with
 | zero =>
  intro s t r h1 h2 s0 hc
  cases h1
  obtain ⟨x,h3,h4⟩:=ak h2
  obtain ⟨rfl,h5⟩:=Y2 h4
  rw [FD,hc]
  simp only [ob]
  rw [Kw ok _ _ _ _ _ h3]
  obtain ⟨e,w⟩:=x
  cases e with
  | norm=>exact absurd rfl h5
  | exit id=>rfl
  | ret=>rfl
 | succ n ih =>
  intro s t r h1 h2 s0 hc
  simp only [eG,ag0] at h1
  obtain ⟨y,h3,h6⟩:=ak h1
  obtain ⟨x,h4,h5⟩:=ak h3
  obtain ⟨w,h7,h8⟩:=ak h5
  obtain rfl:=BZ h7
  rw [FD,hc]
  simp only [ob]
  rw [Kw ok _ _ _ _ _ h4]
  exact ih y t r h6 h2 w h8
theorem aa4 (ok:Bh C orc) (a:Ann) (b:aB) (id:Nat) (al:Ann) {n:Nat} {s0 s t u:WSt} (hc:canon base a s0=some s) (h1:eG C orc N base a b n s=some t) (h2:vT C orc N base id al b t=some u) (c:aB) :
 CdW C base (.seq (.block id (.loop a b) al) c) s0=CdW C base c u:=by
 obtain ⟨r,h3,h4⟩:=ak h2
 obtain ⟨x,h5,h6⟩:=ak h4
 obtain rfl:=BZ h6
 rw [qM,Gx,afb ok a b n s t r h1 h3 s0 hc]
 simp only [ob]
 rw [h5]
 rfl
theorem acO (a b c:aB) (s:WSt):CdW C base (.seq (.seq a b) c) s=CdW C base (.seq a (.seq b c)) s:=by
 rw [qM,qM,qM]
 cases CdW C base a s with
 | none=>rfl
 | some x =>
  obtain ⟨e,t⟩:=x
  cases e with
  | norm=>simp only [ob,dY];rw [qM];rfl
  | exit id=>rfl
  | ret=>rfl
theorem alx {f:Nat} {w:WFn} (hf:C.fns.get f=some w) (hn:w.np=0) {r:Ex × WSt} (hb:CdW C 0 w.body ⟨[],[],0⟩=some r) {v:AV} (hv:(ob (kS w.res r) fun r=>bJ r.2.1 au r.1)=some v):FnW C f []=some v:=by
 unfold FnW fU RnW dQ
 rw [hf]
 simp only [ob]
 rw [if_pos (show ([]:List AV).length=w.np from hn.symm)]
 have ha:(⟨Gt 0 [] [],[],0⟩:WSt)=⟨[],[],0⟩:=rfl
 rw [ha,hb]
 exact hv
theorem aiN (b d c:aB):∀ (cs:List aB) (s:WSt),CdW C base (cs.foldr .seq (.seq (.seq b d) c)) s=CdW C base ((cs++[b]).foldr .seq (.seq d c)) s:=by
 intro cs
 induction cs with
 | nil=>intro s;exact acO b d c s
 | cons a r ih =>
  intro s
  rw [List.cons_append,List.foldr_cons,List.foldr_cons,qM,qM,funext ih]
theorem JF (ok:Bh C orc) (cs:List aB) (b:aB) (a:Ann) (lb:aB) (id:Nat) (al:Ann) {n:Nat} {s0 s t u:WSt}
 (h0:(ob (IB C orc N base (cs++[b]) s0) (canon base a))=some s) (h1:eG C orc N base a lb n s=some t) (h2:vT C orc N base id al lb t=some u) (c:aB) :
 CdW C base (cs.foldr .seq (.seq (.seq b (.block id (.loop a lb) al)) c)) s0=CdW C base c u:=by
 obtain ⟨s1,h3,h4⟩:=ak h0
 rw [aiN,afT ok _ _ _ _ h3]
 exact aa4 ok a lb id al h4 h1 h2 c
theorem uU (a:Ann) (b:aB) (k:Nat) (st:Nat→WSt):∀ m,(∀ i,i < m→eG C orc N base a b k (st (i * k))=some (st (i * k+k)))→eG C orc N base a b (m * k) (st 0)=some (st (m * k)):=by
 intro m
 induction m with
 | zero=>intro _;rw [Nat.zero_mul];rfl
 | succ m ih =>
  intro h
  rw [Nat.succ_mul]
  exact Wq a b _ _ _ _ _ (ih fun i hi=>h i (by omega)) (h m (by omega))
end
end Go.Pw
end
section
namespace Go.D
open Go Go.Pav Go.Pw P
variable {C:aI}
def q4K:List (List AV)→Bool
 | []=>true
 | [.int .u8 a,.int .u8 b,.int .u8 c,.int .u8 d]::r=>(decide (0≤a)&&decide (a≤255))&&((decide (0≤b)&&decide (b≤255))&&((decide (0≤c)&&decide (c≤255))&&((decide (0≤d)&&decide (d≤255))&&q4K r)))
 | _=>false
theorem ajd:∀ l,q4K l=true→∃ xs:List Q4,l=xs.map eQ∧∀ x ∈ xs,QIn x:=by
 intro l
 induction l with
 | nil=>intro _;exact ⟨[],rfl,by simp⟩
 | cons a r ih =>
  intro h
  unfold q4K at h
  split at h
  · rename_i heq;cases heq
  · rename_i heq
    cases heq
    simp only [Bool.and_eq_true,decide_eq_true_eq] at h
    obtain ⟨h1,h2,h3,h4,h5⟩:=h
    obtain ⟨xs,rfl,hx⟩:=ih h5
    refine ⟨⟨_,_,_,_⟩::xs,rfl,?_⟩
    intro x hxm
    rcases List.mem_cons.1 hxm with rfl | hxm
    · exact ⟨h1,h2,h3,h4⟩
    · exact hx x hxm
  · cases h
def q5K:List (List AV)→Bool
 | []=>true
 | [.int .u8 a,.int .u8 b,.int .u8 c,.int .u8 d,.int .u8 e]::r=>(decide (0≤a)&&decide (a≤255))&&((decide (0≤b)&&decide (b≤255))&&((decide (0≤c)&&decide (c≤255))&&((decide (0≤d)&&decide (d≤255))&&((decide (0≤e)&&decide (e≤255))&&q5K r))))
 | _=>false
theorem aiL:∀ l,q5K l=true→∃ xs:List Q5,l=xs.map eQ5∧∀ x ∈ xs,Oj x:=by
 intro l
 induction l with
 | nil=>intro _;exact ⟨[],rfl,by simp⟩
 | cons a r ih =>
  intro h
  unfold q5K at h
  split at h
  · rename_i heq;cases heq
  · rename_i heq
    cases heq
    simp only [Bool.and_eq_true,decide_eq_true_eq] at h
    obtain ⟨h1,h2,h3,h4,h6,h5⟩:=h
    obtain ⟨xs,rfl,hx⟩:=ih h5
    refine ⟨⟨_,_,_,_,_⟩::xs,rfl,?_⟩
    intro x hxm
    rcases List.mem_cons.1 hxm with rfl | hxm
    · exact ⟨h1,h2,h3,h4,h6⟩
    · exact hx x hxm
  · cases h
def u8K:List (List AV)→Bool
 | []=>true
 | [.int .u8 a]::r=>(decide (0≤a)&&decide (a≤255))&&u8K r
 | _=>false
theorem ajH:∀ l,u8K l=true→∃ xs:List Int,l=xs.map eU8∧∀ x ∈ xs,0≤x∧x≤255:=by
 intro l
 induction l with
 | nil=>intro _;exact ⟨[],rfl,by simp⟩
 | cons a r ih =>
  intro h
  unfold u8K at h
  split at h
  · rename_i heq;cases heq
  · rename_i heq
    cases heq
    simp only [Bool.and_eq_true,decide_eq_true_eq] at h
    obtain ⟨h1,h5⟩:=h
    obtain ⟨xs,rfl,hx⟩:=ih h5
    refine ⟨_::xs,rfl,?_⟩
    intro x hxm
    rcases List.mem_cons.1 hxm with rfl | hxm
    · exact h1
    · exact hx x hxm
  · cases h
def pA (f:Nat) (vs:List AV):Bool :=
 match vs with
 | []=>Nat.beq f 164
 | [.agg [.ro 4 q _,.ro 1 z _,.int .u8 r],.agg [.int .u8 a,.int .u16 b],.agg [.ro 5 y _]] =>
  Nat.beq f 163&&(q4K q&&(u8K z&&(q5K y&&((decide (z.length≤100)&&decide (y.length≤100))&&((decide (0≤r)&&decide (r≤255))&&((decide (0≤a)&&decide (a≤255))&&(decide (0≤b)&&decide (b≤65535))))))))
 | _=>false
abbrev orA:Orc:=ER pA
theorem ama (H:Vq C) (hone:∀ q:Q4,QIn q→∃ i:It,FnW C 422 [.agg (eQ q)]=some (eIt i)∧Good i) (hlives:FnW C 164 []=some (.bool true)):Bh C orA:=by
 refine Rw fun f vs h=>?_
 unfold pA at h
 split at h
 · obtain rfl:=Nat.eq_of_beq_eq_true h
   exact ⟨by rw [H.inl];decide,rfl,hlives⟩
 · simp only [Bool.and_eq_true,decide_eq_true_eq] at h
   obtain ⟨h0,h1,h2,h3,⟨h4,h5⟩,h6,h7,h8⟩:=h
   obtain rfl:=Nat.eq_of_beq_eq_true h0
   obtain ⟨q,rfl,hq⟩:=ajd _ h1
   obtain ⟨z,rfl,hz⟩:=ajH _ h2
   obtain ⟨y,rfl,hy⟩:=aiL _ h3
   rw [List.length_map] at h4 h5
   exact ⟨by rw [H.inl];decide,rfl,aaF H hone hlives q _ hq z _ hz (by omega) _ h6 _ _ h7 h8 y _ hy (by omega)⟩
 · cases h
def stA (i:Nat):WSt:=⟨[(22,.int .i64 i),(21,.int .i64 7),(20,.sl 0 1 0 7 7 true)],[(0,.cells 1 [[.int .i64 9223372036854775807],[.int .i64 9223372036854775806],[.int .i64 1],[.int .i64 0],[.int .i64 (-1)],[.int .i64 (-9223372036854775807)],[.int .i64 (-9223372036854775808)]] true true)],1⟩
def enK (k s:Int):List AV:=[.int .u64 k,.int .u8 0,.str [],.ro 1 [] true,.int .i64 s,.bool false]
def stB (i:Nat):WSt:=⟨[(13,.int .i64 i),(12,.ptr 0 0 0)],[(0,.cells 1 [[.ro 6 [enK 1 10,enK 2 20,enK 3 5,enK 4 30] false]] true true)],1⟩
def stC (i:Nat):WSt:=⟨[(17,.int .i64 i)],[],0⟩
def st0:WSt:=⟨[],[],0⟩
def aA4:Ann:=⟨true,[22,21,20],[]⟩
def aA1:Ann:=⟨true,[13,12],[]⟩
def aA0:Ann:=⟨true,[17],[]⟩
def aAe:Ann:=⟨true,[],[]⟩
def csA:List aB:=[sqA w90.body]
def csB:List aB:=[sqA oI,sqA (sqB oI),sqA (sqB (sqB oI)),sqA (sqB (sqB (sqB oI))),sqA (sqB (sqB (sqB (sqB oI)))),sqA (sqB (sqB (sqB (sqB (sqB oI)))))]
def afc:aB:=sqA (sqA (sqB w90.body))
def agb:aB:=sqA (sqA (sqB (sqB (sqB (sqB (sqB (sqB oI)))))))
def adA:aB:=sqA (sqA GL)
theorem shA:w90.body=csA.foldr .seq (.seq (.seq afc (.block 0 (.loop aA4 jL) aAe)) oI):=rfl
theorem shB:oI=csB.foldr .seq (.seq (.seq agb (.block 4 (.loop aA1 lU) aAe)) GL):=rfl
theorem shC:GL=([]:List aB).foldr .seq (.seq (.seq adA (.block 10 (.loop aA0 jk) aAe)) G7):=rfl
structure alj (C:aI) (N:Nat):Prop where
 a0:(ob (IB C orA N 0 (csA++[afc]) st0) (canon 0 aA4))=some (stA 0)
 aL:∀ i,i < 7→eG C orA N 0 aA4 jL 1 (stA (i * 1))=some (stA (i * 1+1))
 aE:vT C orA N 0 0 aAe jL (stA 7)=some st0
 b0:(ob (IB C orA N 0 (csB++[agb]) st0) (canon 0 aA1))=some (stB 0)
 bL:∀ i,i < 4→eG C orA N 0 aA1 lU 1 (stB (i * 1))=some (stB (i * 1+1))
 bE:vT C orA N 0 4 aAe lU (stB 4)=some st0
 c0:(ob (IB C orA N 0 ([]++[adA]) st0) (canon 0 aA0))=some (stC 0)
 cL:∀ i,i < 8→eG C orA N 0 aA0 jk 20 (stC (i * 20))=some (stC (i * 20+20))
 cE:vT C orA N 0 10 aAe jk (stC 160)=some st0
 f:(ob (evO C orA N 0 G7 st0) fun r=>ob (kS w90.res r) fun r=>bJ r.2.1 au r.1)=some (.bool true)
theorem XE (ok:Bh C orA) (hf:C.fns.get 90=some w90) {N:Nat} (R:alj C N):FnW C 90 []=some (.bool true):=by
 obtain ⟨r,h1,h2⟩:=ak R.f
 have hb:CdW C 0 w90.body ⟨[],[],0⟩=some r:=by
  rw [shA,show (⟨[],[],0⟩:WSt)=st0 from rfl,
   JF ok csA afc aA4 jL 0 aAe R.a0 (uU aA4 jL 1 stA 7 R.aL) R.aE oI,shB,
   JF ok csB agb aA1 lU 4 aAe R.b0 (uU aA1 lU 1 stB 4 R.bL) R.bE GL,shC,
   JF ok [] adA aA0 jk 10 aAe R.c0 (uU aA0 jk 20 stC 8 R.cL) R.cE G7]
  exact Kw ok _ _ _ _ _ h1
 exact alx hf rfl hb h2
end Go.D
end
