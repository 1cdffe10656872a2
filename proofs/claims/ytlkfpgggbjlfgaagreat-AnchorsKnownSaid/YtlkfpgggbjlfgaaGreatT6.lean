/- Part of the theory that the claims of this work use: D05, D06, D07, D08, D09, D10, D11, D12, D13, D14, D15, D16, D17, D18, D19, D20, D21, D22, D23, V600, D24, D25, D26, D27, D28, D29, D32, D34, D35, D36, GTy, V27, E01, E02. No conditions of its own. -/
import Derived.Test.YtlkfpgggbjlfgaaGreatT5
set_option linter.unusedVariables false
set_option linter.unusedSimpArgs false
set_option maxHeartbeats 4000000
set_option maxRecDepth 10000
section
namespace Go.D
open Go Go.Pav Go.Pw P
attribute [-simp] List.getElem_cons_drop
variable {C:aI}
structure PZ (C:aI):Prop extends OY C where
 aal:C.fns.get 563=some xZ
 aj6:C.fns.get 520=some Xu
 ahU:C.fns.get 442=some aaS
 aiA:C.fns.get 441=some Zk
abbrev hp1 (n:Nd):aJ:=[(0,.cells 6 [n.c] true true)]
theorem Zn (n:Nd) (i:Nat) (hi:i < n.ch.length) (hl:n.ch.length≤16) (R:AV)
 (hout:wK C ⟨[(5,.int .i64 (i+1:Nat)),(1,.ptr 0 0 0)],hp1 n,1⟩=some R):∀ j k,j+k=i →
 EC C ⟨[(6,.int .i64 k),(5,.int .i64 i),(1,.ptr 0 0 0)],hp1 n,1⟩=some (if decide (n.ch[i].y≠[])&&(((n.ch.map Nd.y).take i).drop k).contains n.ch[i].y then .bool false else R):=by
 intro j
 induction j with
 | zero =>
  intro k hk
  have h1:((n.ch.map Nd.y).take i).drop k=[]:=List.drop_eq_nil_of_le (by simp;omega)
  have h3:¬ k < i:=by omega
  simp only [wK] at hout
  simp only [EC];rw [aj AZ.eq_1]
  simp at hout
  simp (disch:=omega) [aj JJ.eq_1,h1,h3,aG,hout]
 | succ j ih =>
  intro k hk
  have h1:k < i:=by omega
  have h2:k < n.ch.length:=by omega
  have hlt:k < ((n.ch.map Nd.y).take i).length:=by simp;omega
  have:=ih (k+1) (by omega)
  rw [drop_cons hlt]
  have hy:((n.ch.map Nd.y).take i)[k]=n.ch[k].y:=by simp
  rw [hy]
  generalize (((n.ch.map Nd.y).take i).drop (k+1))=Q at *
  simp only [EC] at this ⊢;rw [aj AZ.eq_1]
  simp at this
  by_cases c1:n.ch[i].y=[]
  · simp [c1] at this
    simp (disch:=omega) [h1,h2,hi,aG,c1,this]
  · by_cases c2:n.ch[i].y=n.ch[k].y
    · have c3:¬ n.ch[k].y=[]:=by rw [← c2];exact c1
      simp (disch:=omega) [h1,h2,hi,aG,c1,c2,c3]
    · simp [c1] at this
      simp (disch:=omega) [h1,h2,hi,aG,c1,c2,this]
theorem Xe (n:Nd) (hl:n.ch.length≤16):∀ j i,j+i=n.ch.length →
 wK C ⟨[(5,.int .i64 i),(1,.ptr 0 0 0)],hp1 n,1⟩=some (.bool (iI ((n.ch.map Nd.y).take i) ((n.ch.map Nd.y).drop i))):=by
 intro j
 induction j with
 | zero =>
  intro i hi
  simp only [wK];rw [aj yM.eq_1]
  have h1:(n.ch.map Nd.y).drop i=[]:=List.drop_eq_nil_of_le (by simp;omega)
  have h3:¬ i < n.ch.length:=by omega
  simp [aj Ec.eq_1,h1,h3,iI,-List.map_drop]
 | succ j ih =>
  intro i hi
  have h1:i < n.ch.length:=by omega
  have h2:i < (n.ch.map Nd.y).length:=by simp;omega
  have hin:=Zn n i h1 hl _ (ih (i+1) (by omega)) i 0 (by simp)
  have hy:(n.ch.map Nd.y)[i]=n.ch[i].y:=by simp
  rw [List.take_succ_eq_append_getElem h2,List.drop_zero,hy] at hin
  rw [drop_cons h2,iI,hy]
  generalize (n.ch.map Nd.y).take i=P at *
  generalize (n.ch.map Nd.y).drop (i+1)=Q at *
  simp only [wK,EC] at hin ⊢;rw [aj yM.eq_1]
  simp at hin
  by_cases c1:n.ch[i].y=[]
  · simp [c1] at hin
    simp (disch:=omega) [h1,hin,c1]
  · by_cases c2:n.ch[i].y ∈ P
    · simp [c1,c2] at hin
      simp (disch:=omega) [h1,hin,c1,c2]
    · simp [c1,c2] at hin
      simp (disch:=omega) [h1,hin,c1,c2]
theorem ZN (n:Nd) (i:Nat) (hi:i < n.a.length) (hl:n.a.length≤8) (R:AV)
 (hout:oC C ⟨[(3,.int .i64 (i+1:Nat)),(1,.ptr 0 0 0)],hp1 n,1⟩=some R):∀ j k,j+k=i →
 ql C ⟨[(4,.int .i64 k),(3,.int .i64 i),(1,.ptr 0 0 0)],hp1 n,1⟩=some (if ((n.a.take i).drop k).all (fun b=>decide (b.1 < n.a[i].1))=true then R else .bool false):=by
 intro j
 induction j with
 | zero =>
  intro k hk
  have h1:(n.a.take i).drop k=[]:=List.drop_eq_nil_of_le (by simp;omega)
  have h3:¬ k < i:=by omega
  simp only [oC] at hout
  simp only [ql];rw [aj sH.eq_1]
  simp at hout
  simp (disch:=omega) [aj LC.eq_1,h1,h3,aG,hout]
 | succ j ih =>
  intro k hk
  have h1:k < i:=by omega
  have h2:k < n.a.length:=by omega
  have hlt:k < (n.a.take i).length:=by simp;omega
  have:=ih (k+1) (by omega)
  rw [drop_cons hlt]
  have hy:(n.a.take i)[k]=n.a[k]:=by simp
  rw [hy]
  generalize ((n.a.take i).drop (k+1))=Q at *
  simp only [ql] at this ⊢;rw [aj sH.eq_1]
  simp at this
  by_cases c1:n.a[k].1 < n.a[i].1
  · rw [List.all_cons,decide_eq_true c1,Bool.true_and]
    simp (disch:=omega) [h1,h2,hi,aG,blt_eq,c1,this]
  · rw [List.all_cons,decide_eq_false c1,Bool.false_and]
    have c2:n.a[i].1≤n.a[k].1:=List.not_lt.1 c1
    simp (disch:=omega) [h1,h2,hi,aG,blt_eq,c1,c2]
theorem Yk (n:Nd) (i:Nat) (hi:i < n.a.length) (hl:n.a.length≤8):∀ j k,j+k=i→((n.a.take i).drop k).all (fun b=>decide (b.1 < n.a[i].1))=false →
 ql C ⟨[(4,.int .i64 k),(3,.int .i64 i),(1,.ptr 0 0 0)],hp1 n,1⟩=some (.bool false):=by
 intro j
 induction j with
 | zero =>
  intro k hk hf
  have h1:(n.a.take i).drop k=[]:=List.drop_eq_nil_of_le (by simp;omega)
  rw [h1] at hf
  simp at hf
 | succ j ih =>
  intro k hk hf
  have h1:k < i:=by omega
  have h2:k < n.a.length:=by omega
  have hlt:k < (n.a.take i).length:=by simp;omega
  rw [drop_cons hlt] at hf
  have hy:(n.a.take i)[k]=n.a[k]:=by simp
  rw [hy,List.all_cons] at hf
  by_cases c1:n.a[k].1 < n.a[i].1
  · rw [decide_eq_true c1,Bool.true_and] at hf
    have:=ih (k+1) (by omega) hf
    simp only [ql] at this ⊢;rw [aj sH.eq_1]
    simp at this
    simp (disch:=omega) [h1,h2,hi,aG,blt_eq,c1,this]
  · have c2:n.a[i].1≤n.a[k].1:=List.not_lt.1 c1
    simp only [ql];rw [aj sH.eq_1]
    simp (disch:=omega) [h1,h2,hi,aG,blt_eq,c1,c2]
theorem Wn (H:PZ C) (n:Nd) (hl:n.a.length≤8) (hl2:n.ch.length≤16):∀ j i,j+i=n.a.length→(∀ (p q:Nat) (hp:p < n.a.length) (hq:q < n.a.length),p < q→q < i→n.a[p].1 < n.a[q].1) →
 oC C ⟨[(3,.int .i64 i),(1,.ptr 0 0 0)],hp1 n,1⟩=some (.bool (atOk (if i=0 then none else (n.a[i - 1]?).map Prod.fst) (n.a.drop i)&&iI [] (n.ch.map Nd.y))):=by
 intro j
 induction j with
 | zero =>
  intro i hi hs
  have hk:=Xe (C:=C) n hl2 n.ch.length 0 (by simp)
  simp only [List.take_zero,List.drop_zero] at hk
  generalize iI [] (n.ch.map Nd.y)=K at *
  simp only [wK] at hk
  simp at hk
  simp only [oC];rw [aj uJ.eq_1]
  have h1:n.a.drop i=[]:=List.drop_eq_nil_of_le (by omega)
  have h3:¬ i < n.a.length:=by omega
  simp [aj EP.eq_1,h1,h3,atOk,hk]
 | succ j ih =>
  intro i hi hs
  have h1:i < n.a.length:=by omega
  have hb:=oZ H.topR n.a[i].1
  have hc:=zA H.topR n.a[i].2
  rw [drop_cons h1,atOk]
  generalize hK:iI [] (n.ch.map Nd.y)=K at *
  cases q1:isName n.a[i].1
  · rw [q1] at hb
    simp only [oC];rw [aj uJ.eq_1]
    simp (disch:=omega) [h1,aG,hb,H.inl,ay,H.pp,ppB]
  · cases q2:isText n.a[i].2
    · rw [q1] at hb;rw [q2] at hc
      simp only [oC];rw [aj uJ.eq_1]
      simp (disch:=omega) [h1,aG,hb,hc,H.inl,ay,H.pp,ppB]
    · rw [q1] at hb;rw [q2] at hc
      have key:(n.a.take i).all (fun b=>decide (b.1 < n.a[i].1))=after (if i=0 then none else (n.a[i - 1]?).map Prod.fst) n.a[i].1:=by
       cases i with
       | zero=>simp [after]
       | succ i =>
        have h4:i < n.a.length:=by omega
        rw [if_neg (by omega),show i+1 - 1=i from rfl,List.getElem?_eq_getElem h4]
        simp only [Option.map_some,after]
        by_cases q3:n.a[i].1 < n.a[i+1].1
        · rw [decide_eq_true q3,List.all_eq_true]
          intro b hb
          obtain ⟨p,hp,rfl⟩:=List.getElem_of_mem hb
          simp at hp
          rw [List.getElem_take]
          apply decide_eq_true
          by_cases e:p=i
          · subst e;exact q3
          · exact List.lt_trans (hs p i (by omega) h4 (by omega) (by omega)) q3
        · rw [decide_eq_false q3,List.all_eq_false]
          exact ⟨n.a[i],List.mem_take_iff_getElem.2 ⟨i,by omega,rfl⟩,by simp [q3]⟩
      have step:∀ R,ql C ⟨[(4,.int .i64 (0:Nat)),(3,.int .i64 i),(1,.ptr 0 0 0)],hp1 n,1⟩=some R→oC C ⟨[(3,.int .i64 i),(1,.ptr 0 0 0)],hp1 n,1⟩=some R:=by
       intro R hR
       simp only [oC,ql] at hR ⊢;rw [aj uJ.eq_1]
       simp at hR
       simp (disch:=omega) [h1,aG,hb,hc,H.inl,ay,H.pp,ppB,hR]
      by_cases q3:(n.a.take i).all (fun b=>decide (b.1 < n.a[i].1))=true
      · have:=ih (i+1) (by omega) (fun p q hp hq h5 h6=>by
         by_cases e:q=i
         · subst e
           have:=List.all_eq_true.1 q3 n.a[p] (List.mem_take_iff_getElem.2 ⟨p,by omega,rfl⟩)
           simpa using this
         · exact hs p q hp hq h5 (by omega))
        rw [if_neg (by omega),show i+1 - 1=i from rfl,List.getElem?_eq_getElem h1] at this
        have hin:=ZN n i h1 hl _ this i 0 (by simp)
        rw [List.drop_zero,if_pos q3] at hin
        rw [step _ hin,← key,q3]
        simp
      · have q4:(n.a.take i).all (fun b=>decide (b.1 < n.a[i].1))=false:=Bool.eq_false_iff.2 q3
        rw [← key,q4]
        simp only [Bool.and_false,Bool.false_and]
        exact step _ (Yk n i h1 hl i 0 (by simp) (by rw [List.drop_zero];exact q4))
theorem aiu (H:PZ C) (n:Nd):FnW C 563 [.agg n.c]=some (.bool (alone n)):=by
 rw [aF H.aal rfl]
 unfold alone
 have ht:=oZ H.topR n.t
 have hy:=oZ H.topR n.y
 have hx:=zA H.topR n.x
 by_cases k2:n.k=2
 · rw [if_pos k2]
   generalize isText n.x=X at *
   cases X
   · simp [xZ,k2,hx,H.inl,ay,H.pp,ppB]
   · by_cases c1:n.t=[] <;> by_cases c2:n.y=[] <;> by_cases c3:n.a=[] <;> by_cases c4:n.ch=[] <;> simp [xZ,k2,hx,H.inl,ay,H.pp,ppB,c1,c2,c3,c4]
 · rw [if_neg k2]
   by_cases k1:n.k=1
   · cases q1:isName n.t
     · rw [q1] at ht;simp [xZ,k1,ht,H.inl,ay,H.pp,ppB]
     · rw [q1] at ht
       have rest:(n.y=[]∨n.y≠[]∧isName n.y=true)→FnW C 563 [.agg n.c]=some (.bool (decide (n.x=[])&&decide (n.a.length≤8)&&decide (n.ch.length≤16)&&atOk none n.a&&iI [] (n.ch.map Nd.y))):=by
        intro hyy
        rw [aF H.aal rfl]
        by_cases c3:n.x=[]
        · by_cases c4:n.a.length≤8
          · by_cases c5:n.ch.length≤16
            · have c6:¬ 8 < (n.a.length:Int):=by omega
              have c7:¬ 16 < (n.ch.length:Int):=by omega
              have hl:=Wn H n c4 c5 n.a.length 0 (by simp) (by omega)
              simp only [oC,if_true,List.drop_zero] at hl
              generalize atOk none n.a=A at *
              generalize iI [] (n.ch.map Nd.y)=K at *
              simp at hl
              rcases hyy with c2 | ⟨c2,q2⟩
              · simp [xZ,k1,ht,H.inl,ay,H.pp,ppB,eq_true c2,eq_true c3,c4,c5,c6,c7,hl]
              · rw [q2] at hy
                simp [xZ,k1,ht,hy,H.inl,ay,H.pp,ppB,c2,eq_true c3,c4,c5,c6,c7,hl]
            · have c6:¬ 8 < (n.a.length:Int):=by omega
              have c7:16 < (n.ch.length:Int):=by omega
              rcases hyy with c2 | ⟨c2,q2⟩
              · simp [xZ,k1,ht,H.inl,ay,H.pp,ppB,eq_true c2,eq_true c3,c4,c5,c6,c7]
              · rw [q2] at hy
                simp [xZ,k1,ht,hy,H.inl,ay,H.pp,ppB,c2,eq_true c3,c4,c5,c6,c7]
          · have c6:8 < (n.a.length:Int):=by omega
            rcases hyy with c2 | ⟨c2,q2⟩
            · simp [xZ,k1,ht,H.inl,ay,H.pp,ppB,eq_true c2,eq_true c3,c4,c6]
            · rw [q2] at hy
              simp [xZ,k1,ht,hy,H.inl,ay,H.pp,ppB,c2,eq_true c3,c4,c6]
        · rcases hyy with c2 | ⟨c2,q2⟩
          · simp [xZ,k1,ht,H.inl,ay,H.pp,ppB,eq_true c2,c3]
          · rw [q2] at hy
            simp [xZ,k1,ht,hy,H.inl,ay,H.pp,ppB,c2,c3]
       rw [aF H.aal rfl] at rest
       by_cases c2:n.y=[]
       · rw [rest (.inl c2)];simp [k1,c2]
       · cases q2:isName n.y
         · rw [q2] at hy;simp [xZ,k1,ht,hy,H.inl,ay,H.pp,ppB,c2]
         · rw [rest (.inr ⟨c2,q2⟩)];simp [k1]
   · simp [xZ,k1,k2,H.inl,ay,H.pp,ppB]
mutual
/-- The specification's count, with so many levels. -/
def rc:Nd→Nat→Nat
 | _,0=>1000
 | ⟨k,t,y,a,ae,x,ch,ce⟩,lv+1=>if alone ⟨k,t,y,a,ae,x,ch,ce⟩=true then rcs ch lv 1 else 1000
def rcs:List Nd→Nat→Nat→Nat
 | [],_,c=>c
 | m::r,lv,c=>if c≤64 then rcs r lv (c+rc m lv) else c
end
theorem akM (n:Nd):rc n 0=1000:=by cases n;rw [rc]
theorem ajh (n:Nd) (lv:Nat):rc n (lv+1)=if alone n=true then rcs n.ch lv 1 else 1000:=by cases n;rw [rc]
theorem RF:∀ (l:List Nd) (lv c:Nat),c≤rcs l lv c
 | [],lv,c=>by rw [rcs];exact Nat.le_refl _
 | m::r,lv,c=>by
  rw [rcs]
  split
  · have:=RF r lv (c+rc m lv);omega
  · exact Nat.le_refl _
theorem akR (n:Nd) (lv:Nat):1≤rc n lv:=by
 cases lv with
 | zero=>rw [akM];omega
 | succ lv =>
  rw [ajh]
  split
  · exact RF _ _ _
  · omega
mutual
theorem ag2:∀ (n:Nd) (lv:Nat),rc n lv≤1000+64 * lv
 | ⟨k,t,y,a,ae,x,ch,ce⟩,0=>by rw [rc];omega
 | ⟨k,t,y,a,ae,x,ch,ce⟩,lv+1=>by
  rw [rc]
  split
  · have:=abE ch lv 1 (by omega);omega
  · omega
theorem abE:∀ (l:List Nd) (lv c:Nat),c≤1064+64 * lv→rcs l lv c≤1064+64 * lv
 | [],lv,c,h=>by rw [rcs];exact h
 | m::r,lv,c,h=>by
  rw [rcs]
  split
  · have h2:=ag2 m lv
    exact abE r lv _ (by omega)
  · exact h
end
mutual
theorem ag4:∀ (n:Nd) (lv L c d:Nat),lv+L=7→c≤64→((wk n L (c,d)).1=true→(wk n L (c,d)).2.1=c+rc n lv∧c+rc n lv≤64)∧((wk n L (c,d)).1=false→64 < c+rc n lv)
 | ⟨k,t,y,a,ae,x,ch,ce⟩,lv,L,c,d,h1,h2=>by
  have hge:=akR ⟨k,t,y,a,ae,x,ch,ce⟩ lv
  rw [wk]
  by_cases q:6 < L∨64 < c+1∨alone ⟨k,t,y,a,ae,x,ch,ce⟩=false
  · rw [if_pos q]
    refine ⟨fun r=>by simp at r,fun _=>?_⟩
    rcases q with q | q | q
    · have:lv=0:=by omega
      subst this
      rw [rc];omega
    · omega
    · cases lv with
      | zero=>rw [rc];omega
      | succ lv=>rw [rc,if_neg (by simp [q])];omega
  · rw [if_neg q]
    cases lv with
    | zero=>omega
    | succ lv =>
     rw [rc,if_pos (by simpa using fun r=>q (.inr (.inr r)))]
     exact Zf ch lv (L+1) c 1 (max d L) (by omega) (by omega)
theorem Zf:∀ (l:List Nd) (lv L g c d:Nat),lv+L=7→g+c≤64→((wks l L (g+c,d)).1=true→(wks l L (g+c,d)).2.1=g+rcs l lv c∧g+rcs l lv c≤64)∧((wks l L (g+c,d)).1=false→64 < g+rcs l lv c)
 | [],lv,L,g,c,d,h1,h2=>by
  rw [wks,rcs];exact ⟨fun _=>⟨rfl,h2⟩,fun r=>by simp at r⟩
 | m::r,lv,L,g,c,d,h1,h2=>by
  have hm:=ag4 m lv L (g+c) d h1 h2
  have hr:rcs (m::r) lv c=rcs r lv (c+rc m lv):=by rw [rcs,if_pos (by omega)]
  rw [wks,hr]
  generalize wk m L (g+c,d)=R at *
  obtain ⟨b,c',d'⟩:=R
  cases b with
  | true =>
   obtain ⟨e1,e2⟩:=hm.1 rfl
   rw [if_pos rfl]
   simp only at e1
   rw [e1,Nat.add_assoc]
   exact Zf r lv L g (c+rc m lv) d' h1 (by omega)
  | false =>
   have e:=hm.2 rfl
   rw [if_neg (by simp)]
   refine ⟨fun q=>by simp at q,fun _=>?_⟩
   have:=RF r lv (c+rc m lv)
   omega
end
theorem ZT (n:Nd):cnt n=if 64 < rc n 6 then 0 else rc n 6:=by
 have h:=ag4 n 6 1 0 0 rfl (by omega)
 unfold cnt
 generalize wk n 1 (0,0)=R at *
 obtain ⟨b,c,d⟩:=R
 cases b with
 | true =>
  obtain ⟨e1,e2⟩:=h.1 rfl
  simp only at e1
  rw [if_pos rfl,if_neg (by omega)];simp only;omega
 | false =>
  have e:=h.2 rfl
  rw [if_neg (by simp),if_pos (by omega)]
theorem PU (H:PZ C) (n:Nd) (lv:Nat) (hlv:lv≤5) (hl:n.ch.length≤16) (ih:∀ m ∈ n.ch,FnW C 520 [.agg m.c,.int .i64 lv]=some (.int .i64 (rc m lv))):∀ j i,j+i=n.ch.length→∀ c,c≤1064+64 * lv →
 zq C ⟨[(6,.int .i64 i),(5,.int .i64 c),(2,.ptr 0 0 0),(1,.int .i64 (lv+1:Nat))],hp1 n,1⟩=some (.int .i64 (rcs (n.ch.drop i) lv c)):=by
 intro j
 induction j with
 | zero =>
  intro i hi c hc
  simp only [zq];rw [aj xC.eq_1]
  have h1:n.ch.drop i=[]:=List.drop_eq_nil_of_le (by omega)
  have h3:¬ i < n.ch.length:=by omega
  rw [h1,rcs]
  simp [aj Ey.eq_1,h3]
 | succ j ihj =>
  intro i hi c hc
  have h1:i < n.ch.length:=by omega
  have hm:=ih _ (List.getElem_mem h1)
  have hle:=ag2 n.ch[i] lv
  rw [drop_cons h1,rcs]
  by_cases c1:c≤64
  · have:=ihj (i+1) (by omega) (c+rc n.ch[i] lv) (by omega)
    rw [if_pos c1]
    have c2:(c:Int)≤64:=by omega
    simp only [zq] at this ⊢;rw [aj xC.eq_1]
    simp at this
    simp (disch:=omega) [h1,c1,c2,aG,hm,H.inl,ay,H.pp,ppB,this]
  · rw [if_neg c1]
    have c2:¬ (c:Int)≤64:=by omega
    simp only [zq];rw [aj xC.eq_1]
    simp (disch:=omega) [aj Ey.eq_1,h1,c1,c2]
theorem OA (H:PZ C) (n:Nd) (ih:∀ m ∈ n.ch,∀ lv:Nat,lv≤6→FnW C 520 [.agg m.c,.int .i64 lv]=some (.int .i64 (rc m lv))) (lv:Nat) (hlv:lv≤6):FnW C 520 [.agg n.c,.int .i64 lv]=some (.int .i64 (rc n lv)):=by
 have ho:=aiu H n
 rw [aF H.aj6 rfl]
 cases lv with
 | zero=>rw [akM];simp [Xu]
 | succ lv =>
  rw [ajh]
  have c1:¬ (lv:Int)+1 < 1:=by omega
  cases ha:alone n with
  | false=>rw [ha] at ho;simp [Xu,c1,ho,H.inl,ay,H.pp,ppB]
  | true =>
   rw [ha] at ho
   have hl:n.ch.length≤16:=by
    unfold alone at ha
    split at ha
    · simp at ha;rw [ha.2];simp
    · simp at ha;omega
   have hr:=PU H n lv (by omega) hl (fun m hm=>ih m hm lv (by omega)) n.ch.length 0 (by simp) 1 (by omega)
   rw [List.drop_zero] at hr
   simp only [zq] at hr
   simp at hr
   simp [Xu,c1,ho,H.inl,ay,H.pp,ppB,hr]
theorem Jg (H:PZ C) (n:Nd) (lv:Nat) (hlv:lv≤6):FnW C 520 [.agg n.c,.int .i64 lv]=some (.int .i64 (rc n lv)) :=
 OA H n (fun m hm lv hlv=>Jg H m lv hlv) lv hlv
termination_by SizeOf.sizeOf n
decreasing_by
 have:=List.sizeOf_lt_of_mem hm
 have:=xq n
 omega
theorem IX (H:PZ C) (n:Nd):FnW C 442 [.agg n.c]=some (.int .i64 (cnt n)):=by
 have h:=Jg H n 6 (by omega)
 rw [aF H.ahU rfl,ZT]
 generalize rc n 6=R at *
 simp at h
 by_cases c:64 < R
 · have c1:64 < (R:Int):=by omega
   simp [aaS,H.inl,ay,H.pp,ppB,h,c,c1]
 · have c1:¬ 64 < (R:Int):=by omega
   simp [aaS,H.inl,ay,H.pp,ppB,h,c,c1]
theorem Xb (H:PZ C) (n:Nd):FnW C 441 [.agg n.c]=some (.int .i64 (if cnt n=0 then 14 else 0)):=by
 have h:=IX H n
 rw [aF H.aiA rfl]
 by_cases c:cnt n=0
 · simp [Zk,H.inl,ay,H.pp,ppB,h,c]
 · simp [Zk,H.inl,ay,H.pp,ppB,h,c]
end Go.D
end
section
namespace Go.D
open Go Go.Pav Go.Pw P
attribute [-simp] List.getElem_cons_drop
variable {C:aI}
structure Sl where
 n:Bs
 f:Int
 v:Bs
@[simp] def eSl (s:Sl):List AV:=[.str s.n,.int .u8 s.f,.str s.v]
structure Pt where
 k:Int
 t:Bs
 y:Bs
 s:List Sl
 se:Bool
 x:Bs
 ch:List Pt
 ce:Bool
mutual
def Pt.c:Pt→List AV
 | ⟨k,t,y,s,se,x,ch,ce⟩=>[.int .u8 k,.str t,.str y,.ro 3 (s.map eSl) se,.str x,.ro 6 (Pt.cs ch) ce]
def Pt.cs:List Pt→List (List AV)
 | []=>[]
 | n::r=>n.c::Pt.cs r
end
theorem Pt.QA:∀ l:List Pt,Pt.cs l=l.map Pt.c
 | []=>rfl
 | n::r=>by rw [Pt.cs,Pt.QA r];rfl
theorem Pt.fD (n:Pt):n.c=[.int .u8 n.k,.str n.t,.str n.y,.ro 3 (n.s.map eSl) n.se,.str n.x,.ro 6 (n.ch.map Pt.c) n.ce]:=by
 cases n;rw [Pt.c,Pt.QA]
@[simp] theorem Pt.akW (n:Pt):n.c.length=6:=by rw [Pt.fD];rfl
@[simp] theorem Pt.aiZ (n:Pt):n.c.take 6=n.c:=List.take_of_length_le (by simp)
@[simp] theorem Pt.c0 (n:Pt):n.c[0]?=some (.int .u8 n.k):=by rw [Pt.fD];rfl
@[simp] theorem Pt.c1 (n:Pt):n.c[1]?=some (.str n.t):=by rw [Pt.fD];rfl
@[simp] theorem Pt.c2 (n:Pt):n.c[2]?=some (.str n.y):=by rw [Pt.fD];rfl
@[simp] theorem Pt.c3 (n:Pt):n.c[3]?=some (.ro 3 (n.s.map eSl) n.se):=by rw [Pt.fD];rfl
@[simp] theorem Pt.c4 (n:Pt):n.c[4]?=some (.str n.x):=by rw [Pt.fD];rfl
@[simp] theorem Pt.c5 (n:Pt):n.c[5]?=some (.ro 6 (n.ch.map Pt.c) n.ce):=by rw [Pt.fD];rfl
@[simp] theorem Pt.g0 (n:Pt) (h:0 < n.c.length):n.c[0]=.int .u8 n.k:=Option.some.inj ((List.getElem?_eq_getElem h).symm.trans n.c0)
@[simp] theorem Pt.g1 (n:Pt) (h:1 < n.c.length):n.c[1]=.str n.t:=Option.some.inj ((List.getElem?_eq_getElem h).symm.trans n.c1)
@[simp] theorem Pt.g2 (n:Pt) (h:2 < n.c.length):n.c[2]=.str n.y:=Option.some.inj ((List.getElem?_eq_getElem h).symm.trans n.c2)
@[simp] theorem Pt.g3 (n:Pt) (h:3 < n.c.length):n.c[3]=.ro 3 (n.s.map eSl) n.se:=Option.some.inj ((List.getElem?_eq_getElem h).symm.trans n.c3)
@[simp] theorem Pt.g4 (n:Pt) (h:4 < n.c.length):n.c[4]=.str n.x:=Option.some.inj ((List.getElem?_eq_getElem h).symm.trans n.c4)
@[simp] theorem Pt.g5 (n:Pt) (h:5 < n.c.length):n.c[5]=.ro 6 (n.ch.map Pt.c) n.ce:=Option.some.inj ((List.getElem?_eq_getElem h).symm.trans n.c5)
@[simp] theorem Pt.hd (n:Pt):n.c.head?=some (.int .u8 n.k):=by rw [Pt.fD];rfl
@[simp] theorem Pt.alI (n:Pt):bP n.c=false:=by rw [Pt.fD];rfl
@[simp] theorem Pt.alW (n:Pt) (h:aJ) (k:Nat):bg (bJ h (k+1)) n.c=some n.c:=by rw [Pt.fD];rfl
@[simp] theorem Pt.adg (n:Pt) (h:aJ) (k:Nat):n.c.flatMap (aK h (k+1))=[]:=by rw [Pt.fD];rfl
@[simp] theorem Pt.alP (n:Pt) (π:Nat→Option Nat):lK π n.c=some n.c:=by rw [Pt.fD];rfl
@[simp] theorem Pt.aif (n:Pt):CX n.c=[]:=by rw [Pt.fD];rfl
@[simp] theorem Pt.akN (n:Pt):n.c.all isC=true:=by rw [Pt.fD];rfl
@[simp] theorem Pt.ahL (n:Pt):n.c.all AV.cell=true:=by rw [Pt.fD];rfl
theorem Pt.xq (n:Pt):SizeOf.sizeOf n.ch < SizeOf.sizeOf n:=by cases n;simp;omega
def lC:Option Bs→List Sl→Bool
 | _,[]=>true
 | p,s::r=>isName s.n&&decide (s.f≤3)&&isText s.v&&(decide (s.f≤0)||decide (s.v=[]))&&after p s.n&&lC (some s.n) r
def pO (p:Pt):Bool :=
 if p.k=1 then (decide (p.y=[])||isName p.y)&&decide (p.ch.length≤16)&&isName p.t&&(decide (p.s.length≤8)&&lC none p.s)&&decide (p.x=[])
 else if p.k=5 then isName p.t&&(decide (p.s.length≤8)&&lC none p.s)&&decide (p.y=[])&&decide (p.x=[])&&decide (p.ch=[])
 else if p.k=2 then isText p.x&&decide (p.t=[])&&decide (p.y=[])&&decide (p.s=[])&&decide (p.ch=[])
 else decide (p.k=3∨p.k=4)&&decide (p.t=[])&&decide (p.y=[])&&decide (p.x=[])&&decide (p.s=[])&&decide (p.ch=[])
structure DL (C:aI):Prop extends OY C where
 aiW:C.fns.get 581=some aeb
 akb:C.fns.get 579=some aeL
 aiG:C.fns.get 585=some acH
 ail:C.fns.get 549=some iW
 ahT:C.fns.get 502=some ZB
 ajx:C.fns.get 503=some afS
 akk:C.fns.get 548=some Rz
 ah0:C.fns.get 404=some aeg
 f231:C.fns.get 231=some acP
theorem O6 (n:Nd) (h:n.ch=[]):cnt n=if alone n=true then 1 else 0:=by
 rw [ZT,ajh,h,rcs]
 cases alone n <;> simp
theorem wL (H:DL C) (s:Bs):FnW C 581 [.str s]=some (.bool (isName s)):=by
 have h:FnW C 439 [.agg [.int .u8 1,.str s,.str [],.ro 2 [] true,.str [],.ro 6 [] true]]=_:=OZ H.toOY ⟨1,s,[],[],true,[],[],true⟩
 rw [O6 _ rfl] at h
 have e:alone ⟨1,s,[],[],true,[],[],true⟩=isName s:=by unfold alone;simp [atOk,iI]
 rw [e] at h
 rw [aF H.aiW rfl]
 cases q:isName s <;> rw [q] at h <;> simp at h <;> simp [aeb,H.inl,ay,H.pp,ppB,h]
theorem CO (H:DL C) (s:Bs):FnW C 579 [.str s]=some (.bool (isText s)):=by
 have h:FnW C 439 [.agg [.int .u8 2,.str [],.str [],.ro 2 [] true,.str s,.ro 6 [] true]]=_:=OZ H.toOY ⟨2,[],[],[],true,s,[],true⟩
 rw [O6 _ rfl] at h
 have e:alone ⟨2,[],[],[],true,s,[],true⟩=isText s:=by unfold alone;simp
 rw [e] at h
 rw [aF H.akb rfl]
 cases q:isText s <;> rw [q] at h <;> simp at h <;> simp [aeL,H.inl,ay,H.pp,ppB,h]
theorem Tn (H:DL C) (l:List Sl) (e:Bool) (hl:l.length≤1000000):∀ n i,n+i=l.length →
 EJ C ⟨[(10,.int .i64 i),(9,.int .i64 l.length),(8,.ro 3 (l.map eSl) e),(0,.ro 3 (l.map eSl) e)],[],0⟩ =
  some (.bool (lC (if i=0 then none else (l[i - 1]?).map Sl.n) (l.drop i))):=by
 intro n
 induction n with
 | zero =>
  intro i hi
  simp only [EJ];rw [aj AU.eq_1]
  have h1:l.drop i=[]:=List.drop_eq_nil_of_le (by omega)
  have h3:¬ i < l.length:=by omega
  simp [aj Kz.eq_1,h1,h3,lC]
 | succ n ih =>
  intro i hi
  have h1:i < l.length:=by omega
  have hb:=wL H l[i].n
  have hc:=CO H l[i].v
  have:=ih (i+1) (by omega)
  rw [if_neg (by omega),show i+1 - 1=i from rfl,List.getElem?_eq_getElem h1] at this
  rw [drop_cons h1,lC]
  simp only [EJ] at this ⊢;rw [aj AU.eq_1]
  simp only [Option.map_some] at this
  generalize lC (some l[i].n) (l.drop (i+1))=R at *
  cases q1:isName l[i].n
  · rw [q1] at hb
    simp (disch:=omega) [h1,aG,hb,H.inl,ay,H.pp,ppB]
  · rw [q1] at hb
    by_cases f3:l[i].f≤3
    · have f3':¬ 3 < l[i].f:=by omega
      cases q2:isText l[i].v
      · rw [q2] at hc
        simp (disch:=omega) [h1,aG,hb,hc,H.inl,ay,H.pp,ppB,f3,f3']
      · rw [q2] at hc
        by_cases f0:0 < l[i].f∧¬ l[i].v=[]
        · have f1:¬ l[i].f≤0:=by omega
          simp (disch:=omega) [h1,aG,hb,hc,H.inl,ay,H.pp,ppB,f3,f3',f0.1,f0.2,f1]
        · have key:(0 < l[i].f∧l[i].v=[])∨¬ 0 < l[i].f:=by
           by_cases a:0 < l[i].f
           · exact .inl ⟨a,Classical.byContradiction fun b=>f0 ⟨a,b⟩⟩
           · exact .inr a
          cases i with
          | zero =>
           simp at this
           rcases key with ⟨a,b⟩ | a
           · have b':=eq_true b
             simp (disch:=omega) [h1,aG,hb,hc,H.inl,ay,H.pp,ppB,f3,f3',a,b',this,after]
           · have a':l[0].f≤0:=by omega
             simp (disch:=omega) [h1,aG,hb,hc,H.inl,ay,H.pp,ppB,f3,f3',a,a',this,after]
          | succ i =>
           have h4:i < l.length:=by omega
           have h5:(i:Int)+1 < l.length:=by omega
           simp at this
           by_cases q3:l[i].n < l[i+1].n
           · have q4:¬ l[i+1].n≤l[i].n:=List.not_le.2 q3
             rcases key with ⟨a,b⟩ | a
             · have b':=eq_true b
               simp (disch:=omega) [h1,h4,h5,aG,hb,hc,H.inl,ay,H.pp,ppB,f3,f3',a,b',this,after,BX,q3,q4]
             · have a':l[i+1].f≤0:=by omega
               simp (disch:=omega) [h1,h4,h5,aG,hb,hc,H.inl,ay,H.pp,ppB,f3,f3',a,a',this,after,BX,q3,q4]
           · have q4:l[i+1].n≤l[i].n:=List.not_lt.1 q3
             rcases key with ⟨a,b⟩ | a
             · have b':=eq_true b
               simp (disch:=omega) [h1,h4,h5,aG,hb,hc,H.inl,ay,H.pp,ppB,f3,f3',a,b',this,after,BX,q3,q4]
             · have a':l[i+1].f≤0:=by omega
               simp (disch:=omega) [h1,h4,h5,aG,hb,hc,H.inl,ay,H.pp,ppB,f3,f3',a,a',this,after,BX,q3,q4]
    · have f3':3 < l[i].f:=by omega
      simp (disch:=omega) [h1,aG,hb,H.inl,ay,H.pp,ppB,f3,f3']
theorem Zy (H:DL C) (l:List Sl) (e:Bool):FnW C 585 [.ro 3 (l.map eSl) e]=some (.bool (decide (l.length≤8)&&lC none l)):=by
 rw [aF H.aiG rfl]
 by_cases c:l.length≤8
 · have c1:¬ 8 < (l.length:Int):=by omega
   have h:=Tn H l e (by omega) l.length 0 (by simp)
   rw [List.drop_zero,if_pos rfl] at h
   generalize lC none l=R at *
   simp only [EJ] at h
   simp at h
   simp [acH,c,c1,h]
 · have c1:8 < (l.length:Int):=by omega
   simp [acH,c,c1]
end Go.D
end
section
namespace Go.D
open Go Go.Pav Go.Pw P
attribute [-simp] List.getElem_cons_drop
variable {C:aI}
theorem X5 (H:DL C) (p:Pt):FnW C 549 [.rop p.c]=some (.bool (pO p)):=by
 obtain ⟨k,t,y,s,se,x,ch,ce⟩:=p
 rw [aF H.ail rfl,Pt.fD]
 simp only []
 unfold pO
 simp only []
 have ht:=wL H t
 have hy:=wL H y
 have hx:=CO H x
 have hs:=Zy H s se
 generalize isName t=T at *
 generalize isText x=X at *
 generalize (decide (s.length≤8)&&lC none s)=S at *
 by_cases k1:k=1
 · rw [if_pos k1]
   by_cases c2:y=[]
   · subst c2
     by_cases c5:ch.length≤16
     · have c7:¬ 16 < (ch.length:Int):=by omega
       cases T
       · simp [iW,k1,ht,hs,H.inl,ay,H.pp,ppB,c5,c7]
       · cases S
         · simp [iW,k1,ht,hs,H.inl,ay,H.pp,ppB,c5,c7]
         · by_cases c3:x=[] <;> simp [iW,k1,ht,hs,H.inl,ay,H.pp,ppB,c3,c5,c7]
     · have c7:16 < (ch.length:Int):=by omega
       simp [iW,k1,ht,hs,H.inl,ay,H.pp,ppB,c5,c7]
   · cases q2:isName y
     · rw [q2] at hy;simp [iW,k1,hy,H.inl,ay,H.pp,ppB,c2]
     · rw [q2] at hy
       by_cases c5:ch.length≤16
       · have c7:¬ 16 < (ch.length:Int):=by omega
         cases T
         · simp [iW,k1,ht,hy,hs,H.inl,ay,H.pp,ppB,c2,c5,c7]
         · cases S
           · simp [iW,k1,ht,hy,hs,H.inl,ay,H.pp,ppB,c2,c5,c7]
           · by_cases c3:x=[] <;> simp [iW,k1,ht,hy,hs,H.inl,ay,H.pp,ppB,c2,c3,c5,c7]
       · have c7:16 < (ch.length:Int):=by omega
         simp [iW,k1,ht,hy,hs,H.inl,ay,H.pp,ppB,c2,c5,c7]
 · rw [if_neg k1]
   by_cases k5:k=5
   · rw [if_pos k5]
     cases T
     · simp [iW,k5,ht,hs,H.inl,ay,H.pp,ppB]
     · cases S
       · simp [iW,k5,ht,hs,H.inl,ay,H.pp,ppB]
       · by_cases c2:y=[]
         · by_cases c3:x=[]
           · by_cases c4:ch=[]
             · simp [iW,k5,ht,hs,H.inl,ay,H.pp,ppB,c2,c3,c4]
             · simp [iW,k5,ht,hs,H.inl,ay,H.pp,ppB,c2,c3,c4]
           · simp [iW,k5,ht,hs,H.inl,ay,H.pp,ppB,c2,c3]
         · simp [iW,k5,ht,hs,H.inl,ay,H.pp,ppB,c2]
   · rw [if_neg k5]
     by_cases k2:k=2
     · rw [if_pos k2]
       cases X
       · simp [iW,k2,hx,H.inl,ay,H.pp,ppB]
       · by_cases c1:t=[]
         · by_cases c2:y=[]
           · by_cases c3:s=[]
             · by_cases c4:ch=[]
               · simp [iW,k2,hx,H.inl,ay,H.pp,ppB,c1,c2,c3,c4]
               · simp [iW,k2,hx,H.inl,ay,H.pp,ppB,c1,c2,c3,c4]
             · simp [iW,k2,hx,H.inl,ay,H.pp,ppB,c1,c2,c3]
           · simp [iW,k2,hx,H.inl,ay,H.pp,ppB,c1,c2]
         · simp [iW,k2,hx,H.inl,ay,H.pp,ppB,c1]
     · rw [if_neg k2]
       by_cases k34:k=3∨k=4
       · rcases k34 with k3 | k4
         · by_cases c1:t=[]
           · by_cases c2:y=[]
             · by_cases c0:x=[]
               · by_cases c3:s=[]
                 · by_cases c4:ch=[]
                   · simp [iW,k3,H.inl,ay,H.pp,ppB,c1,c2,c0,c3,c4]
                   · simp [iW,k3,H.inl,ay,H.pp,ppB,c1,c2,c0,c3,c4]
                 · simp [iW,k3,H.inl,ay,H.pp,ppB,c1,c2,c0,c3]
               · simp [iW,k3,H.inl,ay,H.pp,ppB,c1,c2,c0]
             · simp [iW,k3,H.inl,ay,H.pp,ppB,c1,c2]
           · simp [iW,k3,H.inl,ay,H.pp,ppB,c1]
         · by_cases c1:t=[]
           · by_cases c2:y=[]
             · by_cases c0:x=[]
               · by_cases c3:s=[]
                 · by_cases c4:ch=[]
                   · simp [iW,k4,H.inl,ay,H.pp,ppB,c1,c2,c0,c3,c4]
                   · simp [iW,k4,H.inl,ay,H.pp,ppB,c1,c2,c0,c3,c4]
                 · simp [iW,k4,H.inl,ay,H.pp,ppB,c1,c2,c0,c3]
               · simp [iW,k4,H.inl,ay,H.pp,ppB,c1,c2,c0]
             · simp [iW,k4,H.inl,ay,H.pp,ppB,c1,c2]
           · simp [iW,k4,H.inl,ay,H.pp,ppB,c1]
       · have k3:¬ k=3:=fun q=>k34 (.inl q)
         have k4:¬ k=4:=fun q=>k34 (.inr q)
         simp [iW,k1,k2,k3,k4,k5,H.inl,ay,H.pp,ppB]
mutual
/-- The walk below a part: whether it ends well, how many parts. -/
def tk:Pt→Nat→Nat→Bool × Nat
 | ⟨k,t,y,s,se,x,ch,ce⟩,lv,c=>if 6 < lv∨64 < c+1∨pO ⟨k,t,y,s,se,x,ch,ce⟩=false then (false,c+1) else tks ch (lv+1) (c+1)
def tks:List Pt→Nat→Nat→Bool × Nat
 | [],_,c=>(true,c)
 | m::r,lv,c=>if (tk m lv c).1=true then tks r lv (tk m lv c).2 else (false,(tk m lv c).2)
end
theorem ahw (p:Pt) (lv c:Nat):tk p lv c=if 6 < lv∨64 < c+1∨pO p=false then (false,c+1) else tks p.ch (lv+1) (c+1):=by cases p;rw [tk]
mutual
theorem agX:∀ (p:Pt) (lv c:Nat),lv≤7→c≤64→(tk p lv c).1=true→(tk p lv c).2≤64
 | ⟨k,t,y,s,se,x,ch,ce⟩,lv,c,h1,h2=>by
  rw [tk]
  split
  · exact fun q=>by simp at q
  · rename_i h
    exact Y3 ch (lv+1) (c+1) (by omega) (by omega)
theorem Y3:∀ (l:List Pt) (lv c:Nat),lv≤7→c≤64→(tks l lv c).1=true→(tks l lv c).2≤64
 | [],lv,c,h1,h2=>by rw [tks];exact fun _=>h2
 | m::r,lv,c,h1,h2=>by
  have h4:=agX m lv c h1 h2
  rw [tks]
  split
  · rename_i h
    exact Y3 r lv _ h1 (h4 h)
  · exact fun q=>by simp at q
end
abbrev hpT (c:Nat):aJ:=[(0,.cells 1 [[.fn 503 []]] true true),(7,.cells 1 [[.int .i64 c]] true true),(9,.cells 1 [[.fn 548 [.ptr 7 0 0,.ptr 0 0 0,.ptr 9 0 0]]] true false)]
def UY (C:aI) (p:Pt):Prop:=∀ (lv c n:Nat),10≤n→c≤64→lv≤7 →
 ∃ n',RnW C 548 [.rop p.c,.int .i64 lv,.ptr 7 0 0,.ptr 0 0 0,.ptr 9 0 0] (hpT c) n=some (.bool (tk p lv c).1,hpT (tk p lv c).2,n')
theorem TY (H:DL C) (p:Pt) (lv n:Nat) (hn:10≤n) (hlv:lv≤6) (hl:p.ch.length≤16) (ih:∀ m ∈ p.ch,UY C m):∀ j i,j+i=p.ch.length→∀ c,c≤64 →
 ∃ n',CK C n (kS [.tmp 7]) [.sq La,.bk 0 ⟨true,[],[]⟩,.sq LX] wQ ⟨[(30,.int .i64 i),(29,.int .i64 p.ch.length),(4,.ptr 9 0 0),(1,.int .i64 lv),(0,.rop p.c)],hpT c,n⟩ =
  some (.bool (tks (p.ch.drop i) (lv+1) c).1,hpT (tks (p.ch.drop i) (lv+1) c).2,n'):=by
 have n0:0 < n:=by omega
 have n1:7 < n:=by omega
 have n2:9 < n:=by omega
 intro j
 induction j with
 | zero =>
  intro i hi c hc
  have h1:p.ch.drop i=[]:=List.drop_eq_nil_of_le (by omega)
  have h3:¬ i < p.ch.length:=by omega
  rw [h1,tks,aj wQ.eq_1]
  refine ⟨?_,?_⟩
  rotate_left
  · simp (disch:=omega) [aj LX.eq_1,n0,n1,n2,h3]
    rfl
 | succ j ihj =>
  intro i hi c hc
  have h1:i < p.ch.length:=by omega
  obtain ⟨n',hw⟩:=ih _ (List.getElem_mem h1) (lv+1) c (n+1+1+1+11) (by omega) hc (by omega)
  have hb:=agX p.ch[i] (lv+1) c (by omega) hc
  rw [drop_cons h1,tks]
  generalize hR:tk p.ch[i] (lv+1) c=R at *
  obtain ⟨r,c'⟩:=R
  cases r with
  | true =>
   obtain ⟨n2',hw2⟩:=ihj (i+1) (by omega) c' (hb rfl)
   refine ⟨n2',?_⟩
   rw [if_pos rfl]
   rw [aj wQ.eq_1]
   simp at hw hw2
   simp (disch:=omega) [aG,H.inl,ay,H.pp,ppB,n0,n1,n2,h1,hw,hw2]
  | false =>
   rw [if_neg (by simp)]
   rw [aj wQ.eq_1]
   simp at hw
   refine ⟨?_,?_⟩
   rotate_left
   · simp (disch:=omega) [aG,H.inl,ay,H.pp,ppB,n0,n1,n2,h1,hw]
     rfl
theorem Aa {p:Pt} (h:pO p=true):p.ch.length≤16:=by
 unfold pO at h
 split at h
 · simp at h;omega
 · split at h
   · simp at h;rw [h.2];simp
   · split at h
     · simp at h;rw [h.2];simp
     · simp at h;rw [h.2];simp
theorem Uh (H:DL C) (p:Pt) (ih:∀ m ∈ p.ch,UY C m):UY C p:=by
 intro lv c n hn hc hlv
 rw [um (args:=[.rop p.c,.int .i64 lv,.ptr 7 0 0,.ptr 0 0 0,.ptr 9 0 0]) H.akk rfl (hpT c) n,ahw]
 have ha:=X5 H p
 have hu:FnW C 503 [.rop p.c]=some (.tup []):=by rw [aF H.ajx rfl];simp [afS]
 have n0:0 < n:=by omega
 have n1:7 < n:=by omega
 have n2:9 < n:=by omega
 by_cases b1:6 < lv
 · rw [if_pos (.inl b1)]
   refine ⟨?_,?_⟩
   rotate_left
   · simp (disch:=omega) [Rz,aG,H.inl,ay,H.pp,ppB,b1,n0,n1,n2]
     rfl
 · by_cases b2:64 < c+1
   · rw [if_pos (.inr (.inl b2))]
     have b2':64 < (c:Int)+1:=by omega
     refine ⟨?_,?_⟩
     rotate_left
     · simp (disch:=omega) [Rz,aG,H.inl,ay,H.pp,ppB,b1,b2',n0,n1,n2]
       rfl
   · have b2':¬ 64 < (c:Int)+1:=by omega
     cases b3:pO p with
     | false =>
      rw [if_pos (.inr (.inr rfl))]
      rw [b3] at ha
      refine ⟨?_,?_⟩
      rotate_left
      · simp (disch:=omega) [Rz,aG,H.inl,ay,H.pp,ppB,b1,b2',ha,n0,n1,n2]
        rfl
     | true =>
      rw [if_neg (by simp;omega)]
      have hl:=Aa b3
      rw [b3] at ha
      obtain ⟨n',hw⟩:=TY H p lv n hn (by omega) hl ih p.ch.length 0 (by simp) (c+1) (by omega)
      refine ⟨n',?_⟩
      rw [List.drop_zero] at hw
      generalize tks p.ch (lv+1) (c+1)=R at *
      simp only [hpT] at hw ⊢
      simp at hw
      simp (disch:=omega) [Rz,aG,H.inl,ay,H.pp,ppB,b1,b2',ha,hu,n0,n1,n2,hw]
theorem Y0 (H:DL C) (p:Pt):UY C p :=
 Uh H p (fun m hm=>Y0 H m)
termination_by SizeOf.sizeOf p
decreasing_by
 have:=List.sizeOf_lt_of_mem hm
 have:=p.xq
 omega
def pV (p:Pt):Nat:=if p.k=1∧(tk p 1 0).1=true then (tk p 1 0).2 else 0
theorem Y1 (H:DL C) (p:Pt):FnW C 502 [.rop p.c,.fn 503 []]=some (.int .i64 (pV p)):=by
 rw [aF H.ahT rfl]
 obtain ⟨n',h⟩:=Y0 H p 1 0 15 (by omega) (by omega) (by omega)
 unfold pV
 generalize tk p 1 0=R at *
 obtain ⟨r,c⟩:=R
 simp only [hpT] at h
 simp at h
 by_cases k1:p.k=1
 · cases r <;> simp [ZB,H.inl,ay,H.pp,ppB,k1,h]
 · simp [ZB,H.inl,ay,H.pp,ppB,k1]
theorem XL (H:DL C) (p:Pt):FnW C 404 [.agg p.c]=some (.int .i64 (pV p)):=by
 have h:=Y1 H p
 rw [aF H.ah0 rfl]
 simp [aeg,H.inl,ay,H.pp,ppB,h]
theorem IY (H:DL C) (p:Pt):FnW C 231 [.agg p.c]=some (.int .i64 (if pV p=0 then 14 else 0)):=by
 have h:=XL H p
 rw [aF H.f231 rfl]
 by_cases c:pV p=0
 · simp [acP,H.inl,ay,H.pp,ppB,h,c]
 · simp [acP,H.inl,ay,H.pp,ppB,h,c]
end Go.D
end
section
namespace Go.D
open Go Go.Pav Go.Pw P
attribute [-simp] List.getElem_cons_drop
variable {C:aI}
structure J9 (C:aI):Prop extends DL C where
 ajB:C.fns.get 594=some Y4
 aaZ:C.fns.get 586=some lZ
 ajX:C.fns.get 550=some Xw
 ajp:C.fns.get 505=some Wp
 ajT:C.fns.get 408=some abf
theorem PI (H:J9 C) (l:List Sl) (e:Bool) (hl:l.length≤1000000) (hf:∀ s ∈ l,0≤s.f):∀ n i,n+i=l.length →
 EY C ⟨[(3,.int .i64 i),(0,.ro 3 (l.map eSl) e)],[],0⟩ =
  some (.bool (lC (if i=0 then none else (l[i - 1]?).map Sl.n) (l.drop i))):=by
 intro n
 induction n with
 | zero =>
  intro i hi
  simp only [EY];rw [aj zf.eq_1]
  have h1:l.drop i=[]:=List.drop_eq_nil_of_le (by omega)
  have h3:¬ i < l.length:=by omega
  simp [aj NC.eq_1,h1,h3,lC]
 | succ n ih =>
  intro i hi
  have h1:i < l.length:=by omega
  have hb:=oZ H.topR l[i].n
  have hc:=zA H.topR l[i].v
  have h0:=hf _ (List.getElem_mem h1)
  have:=ih (i+1) (by omega)
  rw [if_neg (by omega),show i+1 - 1=i from rfl,List.getElem?_eq_getElem h1] at this
  rw [drop_cons h1,lC]
  simp only [EY] at this ⊢;rw [aj zf.eq_1]
  simp only [Option.map_some] at this
  generalize lC (some l[i].n) (l.drop (i+1))=R at *
  cases q1:isName l[i].n
  · rw [q1] at hb
    simp (disch:=omega) [h1,aG,hb,H.inl,ay,H.pp,ppB]
  · rw [q1] at hb
    by_cases f3:l[i].f≤3
    · have f3':¬ 3 < l[i].f:=by omega
      cases q2:isText l[i].v
      · rw [q2] at hc
        simp (disch:=omega) [h1,aG,hb,hc,H.inl,ay,H.pp,ppB,f3,f3']
      · rw [q2] at hc
        by_cases f0:¬ l[i].f=0∧¬ l[i].v=[]
        · have f1:¬ l[i].f≤0:=by have:=f0.1;omega
          simp (disch:=omega) [h1,aG,hb,hc,H.inl,ay,H.pp,ppB,f3,f3',f0.1,f0.2,f1]
        · have key:(¬ l[i].f=0∧l[i].v=[])∨l[i].f=0:=by
           by_cases a:l[i].f=0
           · exact .inr a
           · exact .inl ⟨a,Classical.byContradiction fun b=>f0 ⟨a,b⟩⟩
          cases i with
          | zero =>
           simp at this
           rcases key with ⟨a,b⟩ | a
           · have b':=eq_true b
             simp (disch:=omega) [h1,aG,hb,hc,H.inl,ay,H.pp,ppB,f3,f3',a,b',this,after]
           · have a':l[0].f≤0:=by omega
             simp (disch:=omega) [h1,aG,hb,hc,H.inl,ay,H.pp,ppB,f3,f3',eq_true a,a',this,after]
          | succ i =>
           have h4:i < l.length:=by omega
           have h5:(i:Int)+1 < l.length:=by omega
           simp at this
           by_cases q3:l[i].n < l[i+1].n
           · have q4:¬ l[i+1].n≤l[i].n:=List.not_le.2 q3
             rcases key with ⟨a,b⟩ | a
             · have b':=eq_true b
               simp (disch:=omega) [h1,h4,h5,aG,hb,hc,H.inl,ay,H.pp,ppB,f3,f3',a,b',this,after,blt_eq,q3,q4]
             · have a':l[i+1].f≤0:=by omega
               simp (disch:=omega) [h1,h4,h5,aG,hb,hc,H.inl,ay,H.pp,ppB,f3,f3',eq_true a,a',this,after,blt_eq,q3,q4]
           · have q4:l[i+1].n≤l[i].n:=List.not_lt.1 q3
             rcases key with ⟨a,b⟩ | a
             · have b':=eq_true b
               simp (disch:=omega) [h1,h4,h5,aG,hb,hc,H.inl,ay,H.pp,ppB,f3,f3',a,b',this,after,blt_eq,q3,q4]
             · have a':l[i+1].f≤0:=by omega
               simp (disch:=omega) [h1,h4,h5,aG,hb,hc,H.inl,ay,H.pp,ppB,f3,f3',eq_true a,a',this,after,blt_eq,q3,q4]
    · have f3':3 < l[i].f:=by omega
      simp (disch:=omega) [h1,aG,hb,H.inl,ay,H.pp,ppB,f3,f3']
theorem XI (H:J9 C) (l:List Sl) (e:Bool) (hf:∀ s ∈ l,0≤s.f):FnW C 594 [.ro 3 (l.map eSl) e]=some (.bool (decide (l.length≤8)&&lC none l)):=by
 rw [aF H.ajB rfl]
 by_cases c:l.length≤8
 · have c1:¬ 8 < (l.length:Int):=by omega
   have h:=PI H l e (by omega) hf l.length 0 (by simp)
   rw [List.drop_zero,if_pos rfl] at h
   generalize lC none l=R at *
   simp only [EY] at h
   simp at h
   simp [Y4,c,c1,h]
 · have c1:8 < (l.length:Int):=by omega
   simp [Y4,c,c1]
structure Fits (p:Pt):Prop where
 f:∀ s ∈ p.s,0≤s.f
 s:p.s.length≤9223372036854775807
 c:p.ch.length≤9223372036854775807
theorem aqA {α β:Type} (a:List α) (b:List β) [Decidable (a=[])] [Decidable (b=[])]:((a.length:Int)+(b.length:Int) == 0)=(decide (a=[])&&decide (b=[])):=by
 cases a <;> cases b <;> simp <;> omega
theorem amk {α β:Type} (a:List α) (b:List β) (ha:a.length≤9223372036854775807) (hb:b.length≤9223372036854775807) [Decidable (a=[])] [Decidable (b=[])]:(IntKind.i64.wrap ((a.length:Int)+(b.length:Int)) == 0)=(decide (a=[])&&decide (b=[])):=by
 have h:(IntKind.i64.wrap ((a.length:Int)+(b.length:Int)) == 0)=((a.length:Int)+(b.length:Int) == 0):=by
  rw [Bool.eq_iff_iff]
  show ((if (true&&decide (((a.length:Int)+b.length) % 18446744073709551616 ≥ 9223372036854775808))=true then ((a.length:Int)+b.length) % 18446744073709551616 - 18446744073709551616 else ((a.length:Int)+b.length) % 18446744073709551616) == 0)=true↔_
  simp only [Bool.true_and,decide_eq_true_eq,beq_iff_eq]
  split <;> omega
 rw [h,aqA]
theorem afX (H:J9 C) (p:Pt) (hp:Fits p):FnW C 586 [.agg p.c]=some (.bool (pO p)):=by
 rw [aF H.aaZ rfl]
 unfold pO
 have ht:=oZ H.topR p.t
 have hy:=oZ H.topR p.y
 have hx:=zA H.topR p.x
 have hs:=XI H p.s p.se hp.f
 have hl1:=hp.s
 have hl2:=hp.c
 have hz:(IntKind.i64.wrap ((p.s.length:Int)+(p.ch.length:Int)) == 0)=(decide (p.s=[])&&decide (p.ch=[])):=amk _ _ hl1 hl2
 generalize isName p.t=T at *
 generalize isText p.x=X at *
 generalize (decide (p.s.length≤8)&&lC none p.s)=S at *
 by_cases k1:p.k=1
 · rw [if_pos k1]
   cases T
   · simp [lZ,k1,ht,H.inl,ay,H.pp,ppB]
   · by_cases c2:p.y=[]
     · have c2':=eq_true c2
       cases S
       · simp [lZ,k1,ht,hs,H.inl,ay,H.pp,ppB,c2']
       · by_cases c3:p.x=[]
         · have c3':=eq_true c3
           by_cases c5:p.ch.length≤16
           · have c7:(p.ch.length:Int)≤16:=by omega
             simp [lZ,k1,ht,hs,H.inl,ay,H.pp,ppB,c2',c3',c5,c7]
           · have c7:¬ (p.ch.length:Int)≤16:=by omega
             simp [lZ,k1,ht,hs,H.inl,ay,H.pp,ppB,c2',c3',c5,c7]
         · simp [lZ,k1,ht,hs,H.inl,ay,H.pp,ppB,c2',c3]
     · cases q2:isName p.y
       · rw [q2] at hy;simp [lZ,k1,ht,hy,H.inl,ay,H.pp,ppB,c2]
       · rw [q2] at hy
         cases S
         · simp [lZ,k1,ht,hy,hs,H.inl,ay,H.pp,ppB,c2]
         · by_cases c3:p.x=[]
           · have c3':=eq_true c3
             by_cases c5:p.ch.length≤16
             · have c7:(p.ch.length:Int)≤16:=by omega
               simp [lZ,k1,ht,hy,hs,H.inl,ay,H.pp,ppB,c2,c3',c5,c7]
             · have c7:¬ (p.ch.length:Int)≤16:=by omega
               simp [lZ,k1,ht,hy,hs,H.inl,ay,H.pp,ppB,c2,c3',c5,c7]
           · simp [lZ,k1,ht,hy,hs,H.inl,ay,H.pp,ppB,c2,c3]
 · rw [if_neg k1]
   by_cases k5:p.k=5
   · rw [if_pos k5]
     cases T
     · simp [lZ,k5,ht,hs,H.inl,ay,H.pp,ppB]
     · cases S
       · simp [lZ,k5,ht,hs,H.inl,ay,H.pp,ppB]
       · by_cases c2:p.y=[]
         · by_cases c3:p.x=[]
           · by_cases c4:p.ch=[] <;> simp [lZ,k5,ht,hs,H.inl,ay,H.pp,ppB,eq_true c2,eq_true c3,c4]
           · simp [lZ,k5,ht,hs,H.inl,ay,H.pp,ppB,eq_true c2,c3]
         · simp [lZ,k5,ht,hs,H.inl,ay,H.pp,ppB,c2]
   · rw [if_neg k5]
     by_cases k2:p.k=2
     · rw [if_pos k2]
       cases X
       · simp [lZ,k2,hx,H.inl,ay,H.pp,ppB]
       · by_cases c1:p.t=[]
         · by_cases c2:p.y=[]
           · simp (disch:=omega) [lZ,k2,hx,H.inl,ay,H.pp,ppB,eq_true c1,eq_true c2,hz]
           · simp [lZ,k2,hx,H.inl,ay,H.pp,ppB,eq_true c1,c2]
         · simp [lZ,k2,hx,H.inl,ay,H.pp,ppB,c1]
     · rw [if_neg k2]
       by_cases k34:p.k=3∨p.k=4
       · have rest:FnW C 586 [.agg p.c]=some (.bool (decide (p.t=[])&&decide (p.y=[])&&decide (p.x=[])&&decide (p.s=[])&&decide (p.ch=[]))):=by
          rw [aF H.aaZ rfl]
          by_cases c0:p.x=[]
          · by_cases c1:p.t=[]
            · by_cases c2:p.y=[]
              · rcases k34 with k3 | k3 <;> simp (disch:=omega) [lZ,k3,H.inl,ay,H.pp,ppB,eq_true c0,eq_true c1,eq_true c2,hz]
              · rcases k34 with k3 | k3 <;> simp [lZ,k3,H.inl,ay,H.pp,ppB,eq_true c0,eq_true c1,c2]
            · rcases k34 with k3 | k3 <;> simp [lZ,k3,H.inl,ay,H.pp,ppB,eq_true c0,c1]
          · rcases k34 with k3 | k3 <;> simp [lZ,k3,H.inl,ay,H.pp,ppB,c0]
         rw [aF H.aaZ rfl] at rest
         rw [rest]
         simp [k34]
       · have k3:¬ p.k=3:=fun q=>k34 (.inl q)
         have k4:¬ p.k=4:=fun q=>k34 (.inr q)
         simp [lZ,k1,k2,k3,k4,k5,H.inl,ay,H.pp,ppB]
inductive iD:Pt→Prop
 | mk (p:Pt) (h:Fits p) (hm:∀ m ∈ p.ch,iD m):iD p
mutual
/-- The specification's count, with so many levels. -/
def trc:Pt→Nat→Nat
 | _,0=>1000
 | ⟨k,t,y,s,se,x,ch,ce⟩,lv+1=>if pO ⟨k,t,y,s,se,x,ch,ce⟩=true then sG ch lv 1 else 1000
def sG:List Pt→Nat→Nat→Nat
 | [],_,c=>c
 | m::r,lv,c=>if c≤64 then sG r lv (c+trc m lv) else c
end
theorem aha (n:Pt):trc n 0=1000:=by cases n;rw [trc]
theorem ahp (n:Pt) (lv:Nat):trc n (lv+1)=if pO n=true then sG n.ch lv 1 else 1000:=by cases n;rw [trc]
theorem Nh:∀ (l:List Pt) (lv c:Nat),c≤sG l lv c
 | [],lv,c=>by rw [sG];exact Nat.le_refl _
 | m::r,lv,c=>by
  rw [sG]
  split
  · have:=Nh r lv (c+trc m lv);omega
  · exact Nat.le_refl _
theorem aji (n:Pt) (lv:Nat):1≤trc n lv:=by
 cases lv with
 | zero=>rw [aha];omega
 | succ lv =>
  rw [ahp]
  split
  · exact Nh _ _ _
  · omega
mutual
theorem YJ:∀ (n:Pt) (lv:Nat),trc n lv≤1000+64 * lv
 | ⟨k,t,y,s,se,x,ch,ce⟩,0=>by rw [trc];omega
 | ⟨k,t,y,s,se,x,ch,ce⟩,lv+1=>by
  rw [trc]
  split
  · have:=U5 ch lv 1 (by omega);omega
  · omega
theorem U5:∀ (l:List Pt) (lv c:Nat),c≤1064+64 * lv→sG l lv c≤1064+64 * lv
 | [],lv,c,h=>by rw [sG];exact h
 | m::r,lv,c,h=>by
  rw [sG]
  split
  · have h2:=YJ m lv
    exact U5 r lv _ (by omega)
  · exact h
end
mutual
theorem ahg:∀ (n:Pt) (lv L c:Nat),lv+L=7→c≤64→((tk n L c).1=true→(tk n L c).2=c+trc n lv∧c+trc n lv≤64)∧((tk n L c).1=false→64 < c+trc n lv)
 | ⟨k,t,y,s,se,x,ch,ce⟩,lv,L,c,h1,h2=>by
  have hge:=aji ⟨k,t,y,s,se,x,ch,ce⟩ lv
  rw [tk]
  by_cases q:6 < L∨64 < c+1∨pO ⟨k,t,y,s,se,x,ch,ce⟩=false
  · rw [if_pos q]
    refine ⟨fun r=>by simp at r,fun _=>?_⟩
    rcases q with q | q | q
    · have:lv=0:=by omega
      subst this
      rw [trc];omega
    · omega
    · cases lv with
      | zero=>rw [trc];omega
      | succ lv=>rw [trc,if_neg (by simp [q])];omega
  · rw [if_neg q]
    cases lv with
    | zero=>omega
    | succ lv =>
     rw [trc,if_pos (by simpa using fun r=>q (.inr (.inr r)))]
     exact aa1 ch lv (L+1) c 1 (by omega) (by omega)
theorem aa1:∀ (l:List Pt) (lv L g c:Nat),lv+L=7→g+c≤64→((tks l L (g+c)).1=true→(tks l L (g+c)).2=g+sG l lv c∧g+sG l lv c≤64)∧((tks l L (g+c)).1=false→64 < g+sG l lv c)
 | [],lv,L,g,c,h1,h2=>by
  rw [tks,sG];exact ⟨fun _=>⟨rfl,h2⟩,fun r=>by simp at r⟩
 | m::r,lv,L,g,c,h1,h2=>by
  have hm:=ahg m lv L (g+c) h1 h2
  have hr:sG (m::r) lv c=sG r lv (c+trc m lv):=by rw [sG,if_pos (by omega)]
  rw [tks,hr]
  generalize tk m L (g+c)=R at *
  obtain ⟨b,c'⟩:=R
  cases b with
  | true =>
   obtain ⟨e1,e2⟩:=hm.1 rfl
   rw [if_pos rfl]
   simp only at e1
   rw [e1,Nat.add_assoc]
   exact aa1 r lv L g (c+trc m lv) h1 (by omega)
  | false =>
   have e:=hm.2 rfl
   rw [if_neg (by simp)]
   refine ⟨fun q=>by simp at q,fun _=>?_⟩
   have:=Nh r lv (c+trc m lv)
   omega
end
theorem aeE (p:Pt):pV p=if p.k≠1∨64 < trc p 6 then 0 else trc p 6:=by
 have h:=ahg p 6 1 0 rfl (by omega)
 unfold pV
 generalize tk p 1 0=R at *
 obtain ⟨b,c⟩:=R
 by_cases k1:p.k=1
 · cases b with
   | true =>
    obtain ⟨e1,e2⟩:=h.1 rfl
    simp only at e1
    rw [if_pos ⟨k1,rfl⟩,if_neg (by intro q;rcases q with q | q;exact q k1;omega)];simp only;omega
   | false =>
    have e:=h.2 rfl
    rw [if_neg (by simp),if_pos (.inr (by omega))]
 · rw [if_neg (fun q=>k1 q.1),if_pos (.inl k1)]
abbrev hpP (p:Pt):aJ:=[(0,.cells 6 [p.c] true true)]
theorem Ll (H:J9 C) (n:Pt) (lv:Nat) (hlv:lv≤5) (hl:n.ch.length≤16) (ih:∀ m ∈ n.ch,FnW C 550 [.agg m.c,.int .i64 lv]=some (.int .i64 (trc m lv))):∀ j i,j+i=n.ch.length→∀ c,c≤1064+64 * lv →
 zK C ⟨[(6,.int .i64 i),(5,.int .i64 c),(2,.ptr 0 0 0),(1,.int .i64 (lv+1:Nat))],hpP n,1⟩=some (.int .i64 (sG (n.ch.drop i) lv c)):=by
 intro j
 induction j with
 | zero =>
  intro i hi c hc
  simp only [zK];rw [aj wo.eq_1]
  have h1:n.ch.drop i=[]:=List.drop_eq_nil_of_le (by omega)
  have h3:¬ i < n.ch.length:=by omega
  rw [h1,sG]
  simp [aj Ed.eq_1,h3]
 | succ j ihj =>
  intro i hi c hc
  have h1:i < n.ch.length:=by omega
  have hm:=ih _ (List.getElem_mem h1)
  have hle:=YJ n.ch[i] lv
  rw [drop_cons h1,sG]
  by_cases c1:c≤64
  · have:=ihj (i+1) (by omega) (c+trc n.ch[i] lv) (by omega)
    rw [if_pos c1]
    have c2:(c:Int)≤64:=by omega
    simp only [zK] at this ⊢;rw [aj wo.eq_1]
    simp at this
    simp (disch:=omega) [h1,c1,c2,aG,hm,H.inl,ay,H.pp,ppB,this]
  · rw [if_neg c1]
    have c2:¬ (c:Int)≤64:=by omega
    simp only [zK];rw [aj wo.eq_1]
    simp (disch:=omega) [aj Ed.eq_1,h1,c1,c2]
theorem Nb (H:J9 C) (n:Pt) (hf:Fits n) (ih:∀ m ∈ n.ch,∀ lv:Nat,lv≤6→FnW C 550 [.agg m.c,.int .i64 lv]=some (.int .i64 (trc m lv))) (lv:Nat) (hlv:lv≤6):FnW C 550 [.agg n.c,.int .i64 lv]=some (.int .i64 (trc n lv)):=by
 have ho:=afX H n hf
 rw [aF H.ajX rfl]
 cases lv with
 | zero=>rw [aha];simp [Xw]
 | succ lv =>
  rw [ahp]
  have c1:¬ (lv:Int)+1 < 1:=by omega
  cases ha:pO n with
  | false=>rw [ha] at ho;simp [Xw,c1,ho,H.inl,ay,H.pp,ppB]
  | true =>
   rw [ha] at ho
   have hr:=Ll H n lv (by omega) (Aa ha) (fun m hm=>ih m hm lv (by omega)) n.ch.length 0 (by simp) 1 (by omega)
   rw [List.drop_zero] at hr
   simp only [zK] at hr
   simp at hr
   simp [Xw,c1,ho,H.inl,ay,H.pp,ppB,hr]
theorem TU (H:J9 C) (p:Pt) (hf:iD p):∀ lv:Nat,lv≤6→FnW C 550 [.agg p.c,.int .i64 lv]=some (.int .i64 (trc p lv)):=by
 induction hf with
 | mk p h hm ih=>exact fun lv hlv=>Nb H p h (fun m hm lv hlv=>ih m hm lv hlv) lv hlv
theorem QO (H:J9 C) (p:Pt) (hf:iD p):FnW C 505 [.agg p.c]=some (.int .i64 (pV p)):=by
 have h:=TU H p hf 6 (by omega)
 rw [aF H.ajp rfl,aeE]
 generalize trc p 6=R at *
 simp at h
 by_cases k1:p.k=1
 · by_cases c:64 < R
   · have c1:64 < (R:Int):=by omega
     simp [Wp,H.inl,ay,H.pp,ppB,h,c,c1,k1]
   · have c1:¬ 64 < (R:Int):=by omega
     simp [Wp,H.inl,ay,H.pp,ppB,h,c,c1,k1]
 · simp [Wp,H.inl,ay,H.pp,ppB,h,k1]
theorem Sr (H:J9 C) (p:Pt) (hf:iD p):FnW C 408 [.agg p.c]=some (.int .i64 (if pV p=0 then 14 else 0)):=by
 have h:=QO H p hf
 rw [aF H.ajT rfl]
 by_cases c:pV p=0
 · simp [abf,H.inl,ay,H.pp,ppB,h,c]
 · simp [abf,H.inl,ay,H.pp,ppB,h,c]
end Go.D
end
section
namespace Go.D
open Go Go.Pav Go.Pw P
attribute [-simp] List.getElem_cons_drop
variable {C:aI}
structure Y5 (C:aI):Prop extends J9 C,OX C where
 ai3:C.fns.get 546=some Ti
 aju:C.fns.get 580=some afk
 aiX:C.fns.get 512=some Ro
def oL (i:It):Bool:=decide (i.k≠0)&&isText i.x&&(decide (i.m.length≤8)&&i.m.all isName)
theorem adU (H:Y5 C):VZ C 580 isName where
 ok s:=by
  have:=wL H.toDL s
  rw [aF H.aju rfl]
  simp [afk,H.inl,ay,H.pp,ppB,this]
 ne:=by rfl
 ni:=by rfl
theorem ZU (H:Y5 C) (i:It):FnW C 546 [eIt i]=some (.int .i64 (if oL i=true then 0 else 6)):=by
 have hx:=CO H.toDL i.x
 rw [aF H.ai3 rfl]
 unfold oL
 generalize isText i.x=X at *
 by_cases c1:i.k=0
 · simp [Ti,eq_true c1]
 · cases X
   · simp [Ti,c1,hx,H.inl,ay,H.pp,ppB]
   · by_cases c2:i.m.length≤8
     · have c3:¬ 8 < (i.m.length:Int):=by omega
       have hm:=zH H.toOX (adU H) i.m i.e (by omega)
       generalize i.m.all isName=M at *
       cases M <;> simp at hm <;> simp [Ti,c1,hx,c2,c3,hm,H.inl,ay,H.pp,ppB]
     · have c3:8 < (i.m.length:Int):=by omega
       simp [Ti,c1,hx,c2,c3,H.inl,ay,H.pp,ppB]
theorem Rh (H:Y5 C) (k t:Int) (x:Bs) (m:List Bs) (e:Bool) (hl:m.length≤8):∀ n i,n+i=m.length →
 FB C ⟨[(3,.int .i64 i),(1,.ptr 0 0 0)],[(0,.cells 4 [[.int .u64 k,.int .u8 t,.str x,.ro 1 (m.map eS) e]] true true)],1⟩ =
  some (.int .i64 (if (m.drop i).all isName=true then 0 else 6)):=by
 intro n
 induction n with
 | zero =>
  intro i hi
  simp only [FB];rw [aj zu.eq_1]
  have h1:m.drop i=[]:=List.drop_eq_nil_of_le (by omega)
  have h3:¬ i < m.length:=by omega
  simp [aj Na.eq_1,h1,h3]
 | succ n ih =>
  intro i hi
  have h1:i < m.length:=by omega
  have:=ih (i+1) (by omega)
  have hb:=oZ H.topR m[i]
  rw [drop_cons h1]
  generalize hX:(m.drop (i+1)).all isName=X at *
  rw [List.all_cons,hX]
  simp only [FB] at this ⊢;rw [aj zu.eq_1]
  cases hn:isName m[i]
  · rw [hn] at hb
    simp (disch:=omega) [h1,aG,hb,H.inl,ay,H.pp,ppB]
  · rw [hn] at hb
    simp at this
    simp (disch:=omega) [h1,aG,hb,H.inl,ay,H.pp,ppB,this]
theorem aah (H:Y5 C) (i:It):FnW C 512 [eIt i]=some (.int .i64 (if oL i=true then 0 else 6)):=by
 have hx:=zA H.topR i.x
 rw [aF H.aiX rfl]
 unfold oL
 generalize isText i.x=X at *
 by_cases c1:i.k=0
 · simp [Ro,eq_true c1]
 · cases X
   · simp [Ro,c1,hx,H.inl,ay,H.pp,ppB]
   · by_cases c2:i.m.length≤8
     · have c3:¬ 8 < (i.m.length:Int):=by omega
       have hm:=Rh H i.k i.t i.x i.m i.e c2 i.m.length 0 (by simp)
       rw [List.drop_zero] at hm
       generalize i.m.all isName=M at *
       simp only [FB] at hm
       simp at hm
       simp [Ro,c1,hx,c2,c3,hm,H.inl,ay,H.pp,ppB]
     · have c3:8 < (i.m.length:Int):=by omega
       simp [Ro,c1,hx,c2,c3,H.inl,ay,H.pp,ppB]
def dec (n:Nat):Bs:=if h:n < 10 then [UInt8.ofNat (48+n)] else dec (n / 10)++[UInt8.ofNat (48+n % 10)]
termination_by n
theorem Vr:∀ (k n:Nat),n < 10 ^ (k+1)→(dec n).length≤k+1
 | 0,n,h=>by unfold dec;rw [dif_pos (by simpa using h)];simp
 | k+1,n,h=>by
  unfold dec
  split
  · simp
  · have:=Vr k (n / 10) (by rw [Nat.pow_succ] at h;omega)
    simp;omega
structure abb (C:aI):Prop extends Y5 C where
 aia:C.fns.get 584=some afN
 ad4:C.fns.get 558=some acI
theorem Vh (n:Nat) (h:n < 10):dec n=[UInt8.ofNat (48+n)]:=by unfold dec;rw [dif_pos h]
theorem U6 (H:abb C) (n:Nat) (h:n < 10):FnW C 558 [.int .u64 n]=some (.str (dec n)):=by
 rw [aF H.ad4 rfl,Vh n h]
 obtain rfl | rfl | rfl | rfl | rfl | rfl | rfl | rfl | rfl | rfl:n=0∨n=1∨n=2∨n=3∨n=4∨n=5∨n=6∨n=7∨n=8∨n=9:=by omega
 all_goals (simp (disch:=omega) [acI,nS];try rfl)
theorem Wv (H:abb C) (n:Nat) (h:n < 18446744073709551616) (ih:∀ m < n,FnW C 558 [.int .u64 m]=some (.str (dec m))):FnW C 558 [.int .u64 n]=some (.str (dec n)):=by
 by_cases c:n < 10
 · exact U6 H n c
 · have h1:=ih (n / 10) (by omega)
   have h2:=U6 H (n % 10) (by omega)
   have hl:=Vr 19 (n / 10) (by omega)
   rw [Vh _ (by omega)] at h2
   rw [aF H.ad4 rfl]
   rw [dec,dif_neg c]
   have e1:(n:Int).tdiv 10=((n / 10:Nat):Int):=by rw [Int.tdiv_eq_ediv_of_nonneg (by omega)];omega
   have e2:(n:Int).tmod 10=((n % 10:Nat):Int):=by rw [Int.tmod_eq_emod_of_nonneg (by omega)];omega
   have c2:¬ (n:Int) < 10:=by omega
   have hm:(dec (n / 10)).length+1≤maxStr:=by unfold maxStr;omega
   have b1:n / 10≤n:=by omega
   have b2:n % 10≤n:=by omega
   generalize dec (n / 10)=D at *
   generalize UInt8.ofNat (48+n % 10)=dg at *
   generalize n / 10=q at *
   generalize n % 10=r at *
   simp (disch:=omega) [acI,nS,c2,e1,e2,h1,h2,hm,H.inl,ay,H.pp,ppB]
theorem MJ (H:abb C) (n:Nat):n < 18446744073709551616→FnW C 558 [.int .u64 n]=some (.str (dec n)):=by
 induction n using Nat.strongRecOn with
 | ind n ih=>exact fun h=>Wv H n h (fun m hm=>ih m hm (by omega))
theorem bytesOf_map:∀ l:List UInt8,bytesOf (l.map fun b=>[AV.int .u8 b.toNat])=some l
 | []=>rfl
 | b::r=>by
  rw [List.map_cons,bytesOf,bytesOf_map r]
  simp
theorem abq (r:Nat) (h:r < 10):([48,49,50,51,52,53,54,55,56,57]:List UInt8)[r]'(by simpa using h)=UInt8.ofNat (48+r):=by
 obtain rfl | rfl | rfl | rfl | rfl | rfl | rfl | rfl | rfl | rfl:r=0∨r=1∨r=2∨r=3∨r=4∨r=5∨r=6∨r=7∨r=8∨r=9:=by omega
 all_goals rfl
theorem abt:∀ (i n:Nat) (acc:List UInt8),acc.length+i=19→n < 10 ^ (i+1)→n < 18446744073709551616 →
 EI C ⟨[(4,.int .i64 (i+1:Nat)),(3,.ptr 0 0 0),(0,.int .u64 n)],[(0,.cells 20 [List.replicate i (AV.int .u8 0)++AV.int .u8 0::acc.map fun b=>AV.int .u8 b.toNat] true true)],1⟩=some (.str (dec n++acc)):=by
 intro i
 induction i with
 | zero =>
  intro n acc ha hn hb
  have e1:(n:Int).tdiv 10=0:=by rw [Int.tdiv_eq_ediv_of_nonneg (by omega)];omega
  have e2:(n:Int).tmod 10=n:=by rw [Int.tmod_eq_emod_of_nonneg (by omega)];omega
  have hr:n < 10:=by simpa using hn
  have hd:=abq n hr
  have h19:19≤acc.length:=by omega
  rw [Vh n hr]
  generalize UInt8.ofNat (48+n)=dg at *
  have hm:bytesOf ([AV.int .u8 dg.toNat]::List.map ((fun x=>[x]) ∘ fun b:UInt8=>AV.int .u8 b.toNat) acc)=some (dg::acc):=bytesOf_map (dg::acc)
  simp only [EI];rw [aj yQ.eq_1]
  simp (disch:=(first | omega | (simp;done) | (simp;omega))) [aG,nS,e1,e2,hr,hd,h19,hm,List.take_of_length_le,Qb]
 | succ i ih =>
  intro n acc ha hn hb
  have e1:(n:Int).tdiv 10=((n / 10:Nat):Int):=by rw [Int.tdiv_eq_ediv_of_nonneg (by omega)];omega
  have e2:(n:Int).tmod 10=((n % 10:Nat):Int):=by rw [Int.tmod_eq_emod_of_nonneg (by omega)];omega
  have hr:n % 10 < 10:=by omega
  have hq:n / 10 < 10 ^ (i+1):=by rw [Nat.pow_succ] at hn;omega
  have hqb:n / 10≤n:=by omega
  have h18:acc.length+i=18:=by omega
  have hi:i+1 < 20:=by omega
  have h20:20≤i+1+(acc.length+1):=by omega
  have hi19:i≤19:=by omega
  have hd:=abq (n % 10) hr
  have ih':=fun dg=>ih (n / 10) (dg::acc) (by simp;omega) hq (by omega)
  have hdec:dec n=(if n / 10=0 then [] else dec (n / 10))++[UInt8.ofNat (48+n % 10)]:=by
   by_cases c:n < 10
   · have:n / 10=0:=by omega
     have h2:n % 10=n:=by omega
     rw [Vh n c,this,h2];simp
   · rw [dec,dif_neg c,if_neg (by omega)]
  rw [hdec]
  have t1:∀ (z:AV) (L:List AV),List.take (i+1) (List.replicate (i+1) z++L)=List.replicate (i+1) z:=fun z L=>List.take_left' (by simp)
  have t2:∀ (z y:AV) (L:List AV),List.drop (i+1+1) (List.replicate (i+1) z++y::L)=L:=fun z y L=>by
   rw [List.append_cons];exact List.drop_left' (by simp)
  have t3:∀ (z:AV) (X:List AV),List.replicate i z++z::X=List.replicate (i+1) z++X:=fun z X=>by rw [List.replicate_succ'];simp
  generalize dec (n / 10)=D at *
  generalize UInt8.ofNat (48+n % 10)=dg at *
  have hm:bytesOf ([AV.int .u8 dg.toNat]::List.map ((fun x=>[x]) ∘ fun b:UInt8=>AV.int .u8 b.toNat) acc)=some (dg::acc):=bytesOf_map (dg::acc)
  have ih2:=ih' dg
  rw [t3] at ih2
  generalize n / 10=q at *
  generalize n % 10=r at *
  simp only [EI] at ih2 ⊢;rw [aj yQ.eq_1]
  simp at ih2
  by_cases c:q=0
  · simp (disch:=(first | omega | (simp;done) | (simp;omega))) [aG,nS,e1,e2,hr,hd,hi,h20,hi19,hm,t1,t2,c,List.take_of_length_le,Qb]
  · simp (disch:=(first | omega | (simp;done) | (simp;omega))) [aG,nS,e1,e2,hr,hd,hi,t1,t2,c,ih2]
theorem Kq (H:abb C) (n:Nat) (h:n < 18446744073709551616):FnW C 584 [.int .u64 n]=some (.str (dec n)):=by
 have hl:=abt (C:=C) 19 n [] rfl (by omega) h
 have e:List.replicate 19 (AV.int .u8 0)++AV.int .u8 0::List.map (fun b:UInt8=>AV.int .u8 b.toNat) []=rep 20 (AV.int .u8 0):=rfl
 rw [e] at hl
 simp only [EI] at hl
 simp at hl
 rw [aF H.aia rfl]
 simp [afN,hl]
def bC (x:It) (s:Sl):Bs × Bs:=(s.n,if s.f=1 then x.x else if s.f=2 then dec x.k.toNat else if s.f=3 then dec x.m.length else s.v)
structure abv (C:aI):Prop extends abb C where
 aii:C.fns.get 559=some adX
 aiR:C.fns.get 592=some Ze
theorem OT (H:abv C) (x:It) (hk:0≤x.k∧x.k < 18446744073709551616) (hm:x.m.length≤1000000) (l:List Sl) (e:Bool) (hl:l.length≤8):∀ n i,n+i=l.length→∀ G:List (Bs × Bs),G.length=i →
 Em C ⟨[(6,.int .i64 i),(5,.sl 0 2 0 G.length G.length false),(3,.ptr 1 0 0),(0,.ro 3 (l.map eSl) e)],[(0,.cells 2 (G.map eA) true true),(1,.cells 4 [[.int .u64 x.k,.int .u8 x.t,.str x.x,.ro 1 (x.m.map eS) x.e]] true true)],2⟩ =
  some (.ro 2 ((G++(l.drop i).map (bC x)).map eA) false):=by
 intro n
 induction n with
 | zero =>
  intro i hi G hG
  have h1:l.drop i=[]:=List.drop_eq_nil_of_le (by omega)
  have h3:¬ i < l.length:=by omega
  simp only [Em];rw [aj Ap.eq_1]
  cases G with
  | nil=>simp [aj Fj.eq_1,h1,h3]
  | cons g G=>simp (disch:=(first | omega | (simp;done) | (simp;omega))) [aj Fj.eq_1,h1,h3,List.take_of_length_le]
 | succ n ih =>
  intro i hi G hG
  have h1:i < l.length:=by omega
  obtain ⟨k,hk2⟩:∃ k:Nat,x.k=k:=⟨x.k.toNat,by omega⟩
  have d1:=MJ H.toabb k (by omega)
  have d2:=MJ H.toabb x.m.length (by omega)
  have ih':=ih (i+1) (by omega) (G++[bC x l[i]]) (by simp [hG])
  have hfit:(G.length+1) * 33≤35184372088832:=by omega
  rw [drop_cons h1]
  simp only [Em] at ih' ⊢;rw [aj Ap.eq_1]
  simp at ih'
  unfold bC at ih' ⊢
  rw [hk2] at ih' ⊢
  by_cases f1:l[i].f=1
  · simp [f1] at ih'
    simp (disch:=omega) [h1,f1,aG,hfit,ih',H.inl,ay,H.pp,ppB]
  · by_cases f2:l[i].f=2
    · simp [f2] at ih'
      simp (disch:=omega) [h1,f2,aG,hfit,d1,ih',H.inl,ay,H.pp,ppB]
    · by_cases f3:l[i].f=3
      · simp [f3] at ih'
        simp (disch:=omega) [h1,f3,aG,nS,hfit,d2,ih',H.inl,ay,H.pp,ppB]
      · simp [f1,f2,f3] at ih'
        simp (disch:=omega) [h1,f1,f2,f3,aG,hfit,ih',H.inl,ay,H.pp,ppB]
theorem jC (H:abv C) (x:It) (hk:0≤x.k∧x.k < 18446744073709551616) (hm:x.m.length≤1000000) (l:List Sl) (e:Bool) (hl:l.length≤8) :
 FnW C 559 [.ro 3 (l.map eSl) e,eIt x]=some (.ro 2 ((l.map (bC x)).map eA) false):=by
 have h:=OT H x hk hm l e hl l.length 0 (by simp) [] rfl
 simp only [Em] at h
 simp at h
 rw [aF H.aii rfl]
 simp [adX,h]
theorem Pz (H:abv C) (x:It) (hk:0≤x.k∧x.k < 18446744073709551616) (hm:x.m.length≤1000000) (l:List Sl) (e:Bool) (hl:l.length≤8) (hf:∀ s ∈ l,0≤s.f∧s.f≤3):∀ n i,n+i=l.length→∀ G:List (Bs × Bs),G.length=i →
 Fz C ⟨[(13,.int .i64 i),(12,.int .i64 l.length),(11,.ro 3 (l.map eSl) e),(5,.sl 0 2 0 l.length l.length true),(2,.ptr 1 0 0)],[(0,.cells 2 (G.map eA++List.replicate n [.str [],.str []]) true true),(1,.cells 4 [[.int .u64 x.k,.int .u8 x.t,.str x.x,.ro 1 (x.m.map eS) x.e]] true true)],2⟩ =
  some (.ro 2 ((G++(l.drop i).map (bC x)).map eA) true):=by
 intro n
 induction n with
 | zero =>
  intro i hi G hG
  have h1:l.drop i=[]:=List.drop_eq_nil_of_le (by omega)
  have h3:¬ i < l.length:=by omega
  have h5:G.length=l.length:=by omega
  have h6:List.take l.length (List.map eA G)=List.map eA G:=List.take_of_length_le (by simp [h5])
  simp only [Fz];rw [aj wu.eq_1]
  simp [aj Fq.eq_1,h1,h3,h5,h6]
 | succ n ih =>
  intro i hi G hG
  have h1:i < l.length:=by omega
  obtain ⟨k,hk2⟩:∃ k:Nat,x.k=k:=⟨x.k.toNat,by omega⟩
  have d1:=Kq H.toabb k (by omega)
  have d2:=Kq H.toabb x.m.length (by omega)
  have ih':=ih (i+1) (by omega) (G++[bC x l[i]]) (by simp [hG])
  have h0:=hf _ (List.getElem_mem h1)
  rw [drop_cons h1]
  simp only [Fz] at ih' ⊢;rw [aj wu.eq_1]
  simp at ih'
  unfold bC at ih' ⊢
  rw [hk2] at ih' ⊢
  have f0123:l[i].f=0∨l[i].f=1∨l[i].f=2∨l[i].f=3:=by omega
  rcases f0123 with f | f | f | f
  all_goals
   simp [f] at ih'
   simp (disch:=omega) [h1,f,aG,nS,d1,d2,Bg,Am,H.inl,ay,H.pp,ppB,ih']
theorem WC (H:abv C) (x:It) (hk:0≤x.k∧x.k < 18446744073709551616) (hm:x.m.length≤1000000) (l:List Sl) (e:Bool) (hl:l.length≤8) (hf:∀ s ∈ l,0≤s.f∧s.f≤3) :
 FnW C 592 [eIt x,.ro 3 (l.map eSl) e]=some (.ro 2 ((l.map (bC x)).map eA) true):=by
 rw [aF H.aiR rfl]
 by_cases hne:l=[]
 · subst hne
   simp (disch:=omega) [Ze,aj wu.eq_1,aj Fq.eq_1]
 · have h:=Pz H x hk hm l e hl hf l.length 0 (by simp) [] rfl
   simp only [Fz] at h
   simp at h
   simp (disch:=omega) [Ze,fits,hne,h]
structure aeX (C:aI):Prop extends abv C where
 ah6:C.fns.get 582=some aeh
 ai9:C.fns.get 583=some agA
 ajj:C.fns.get 593=some adb
def bQ (s:Bs):Nd:=⟨2,[],[],[],true,s,[],true⟩
theorem xE (H:aeX C) (s:Bs):FnW C 583 [.str s]=some (.agg (bQ s).c):=by
 rw [aF H.ai9 rfl,Nd.fD]
 simp [agA,bQ]
theorem ad7 (H:aeX C) (l:List Nd) (e:Bool):FnW C 593 [.ro 6 (l.map Nd.c) e]=some (.ro 6 (l.map Nd.c) true):=by
 have h:List.take l.length (List.map Nd.c l)=List.map Nd.c l:=List.take_of_length_le (by simp)
 rw [aF H.ajj rfl]
 simp [adb,h]
def yh (x:It) (p:Pt) (key:Bs) (ch:List Nd):Nd:=⟨1,p.t,key,p.s.map (bC x),true,[],ch,true⟩
theorem Gu (H:aeX C) (x:It) (hk:0≤x.k∧x.k < 18446744073709551616) (hm:x.m.length≤1000000) (p:Pt) (hl:p.s.length≤8) (hf:∀ s ∈ p.s,0≤s.f∧s.f≤3) (key:Bs) (ch:List Nd) (e:Bool) :
 FnW C 582 [eIt x,.agg p.c,.str key,.ro 6 (ch.map Nd.c) e]=some (.agg (yh x p key ch).c):=by
 have h1:=WC H.toabv x hk hm p.s p.se hl hf
 have h2:=ad7 H ch e
 rw [aF H.ah6 rfl,Nd.fD]
 simp only [yh]
 simp [aeh,h1,h2,H.inl,ay,H.pp,ppB]
end Go.D
end
section
namespace Go.D
open Go Go.Pav Go.Pw P
mutual
/-- A tree without what is known of its memory. -/
def Nd.z:Nd→Nd
 | ⟨k,t,y,a,ae,x,ch,ce⟩=>⟨k,t,y,a,true,x,Nd.zs ch,true⟩
def Nd.zs:List Nd→List Nd
 | []=>[]
 | n::r=>n.z::Nd.zs r
end
theorem Nd.ag5:∀ l:List Nd,Nd.zs l=l.map Nd.z
 | []=>rfl
 | n::r=>by rw [Nd.zs,Nd.ag5 r];rfl
theorem Nd.ads (n:Nd):n.z=⟨n.k,n.t,n.y,n.a,true,n.x,n.ch.map Nd.z,true⟩:=by cases n;rw [Nd.z,Nd.ag5]
theorem Nd.z_y (n:Nd):n.z.y=n.y:=by rw [Nd.ads]
theorem ae7 (n:Nd):alone n.z=alone n:=by
 have h:(n.ch.map Nd.z).map Nd.y=n.ch.map Nd.y:=by rw [List.map_map];exact List.map_congr_left fun m _=>m.z_y
 rw [Nd.ads]
 unfold alone
 simp only [h,List.length_map,List.map_eq_nil_iff]
mutual
theorem al2:∀ (n:Nd) (lv:Nat) (s:Nat × Nat),wk n.z lv s=wk n lv s
 | ⟨k,t,y,a,ae,x,ch,ce⟩,lv,(c,d)=>by
  have h:=ae7 ⟨k,t,y,a,ae,x,ch,ce⟩
  rw [ZF,ZF,h]
  have e:(Nd.z ⟨k,t,y,a,ae,x,ch,ce⟩).ch=Nd.zs ch:=by rw [Nd.z]
  rw [e,aho ch (lv+1) (c+1,max d lv)]
theorem aho:∀ (l:List Nd) (lv:Nat) (s:Nat × Nat),wks (Nd.zs l) lv s=wks l lv s
 | [],lv,s=>by rw [Nd.zs]
 | m::r,lv,s=>by
  rw [Nd.zs,wks,wks,al2 m lv s]
  split
  · exact aho r lv _
  · rfl
end
theorem ahx (n:Nd):cnt n.z=cnt n:=by unfold cnt;rw [al2]
end Go.D
end
section
namespace Go.D
open Go Go.Pav Go.Pw P
inductive Okp:Pt→Prop
 | mk (p:Pt) (h:pO p=true) (hf:Fits p) (hm:∀ m ∈ p.ch,Okp m):Okp p
mutual
theorem abk:∀ (p:Pt),iD p→∀ (lv c:Nat),(tk p lv c).1=true→Okp p
 | ⟨k,t,y,s,se,x,ch,ce⟩,hf,lv,c,h=>by
  rw [ahw] at h
  split at h
  · cases h
  · rename_i q
    cases hf with
    | mk _ h1 hm =>
     exact .mk _ (by simpa using fun e=>q (.inr (.inr e))) h1 (UK ch hm _ _ h)
theorem UK:∀ (l:List Pt),(∀ m ∈ l,iD m)→∀ (lv c:Nat),(tks l lv c).1=true→∀ m ∈ l,Okp m
 | [],_,_,_,_=>by simp
 | m::r,hf,lv,c,h=>by
  rw [tks] at h
  split at h
  · rename_i q
    intro a ha
    have h0:=abk m (hf m (by simp)) lv c q
    have h2:=UK r (fun b hb=>hf b (by simp [hb])) lv _ h
    rcases List.mem_cons.1 ha with e | ha
    · exact e ▸ h0
    · exact h2 a ha
  · cases h
end
theorem OB {p:Pt} (hf:iD p) (h:pV p≠0):Okp p:=by
 unfold pV at h
 split at h
 · rename_i q;exact abk p hf 1 0 q.2
 · exact absurd rfl h
theorem YT {p:Pt} (h:pV p≠0):p.k=1:=by
 unfold pV at h
 split at h
 · rename_i q;exact q.1
 · exact absurd rfl h
theorem Nj:∀ (l:List Sl) (p:Option Bs),lC p l=true→∀ s ∈ l,s.f≤3
 | [],_,_=>by simp
 | s::r,p,h=>by
  rw [lC] at h
  simp at h
  intro a ha
  rcases List.mem_cons.1 ha with rfl | ha
  · exact h.1.1.1.1.2
  · exact Nj r _ h.2 a ha
theorem Q8 {p:Pt} (h:pO p=true):p.s.length≤8∧∀ s ∈ p.s,s.f≤3:=by
 unfold pO at h
 split at h
 · simp at h;exact ⟨h.1.2.1,Nj _ _ h.1.2.2⟩
 · split at h
   · simp at h;exact ⟨h.1.1.1.2.1,Nj _ _ h.1.1.1.2.2⟩
   · split at h
     · simp at h;rw [h.1.2];simp
     · simp at h;rw [h.1.2];simp
theorem Ub {p:Pt} (h:pO p=true):p.k=1∨p.k=2∨p.k=3∨p.k=4∨p.k=5:=by
 unfold pO at h
 split at h
 · exact .inl ‹_›
 · split at h
   · exact .inr (.inr (.inr (.inr ‹_›)))
   · split at h
     · exact .inr (.inl ‹_›)
     · simp at h
       rcases h.1.1.1.1.1 with q | q
       · exact .inr (.inr (.inl q))
       · exact .inr (.inr (.inr (.inl q)))
mutual
/-- What a part makes. -/
def mk (x:It):Pt→List Nd
 | ⟨k,t,y,s,se,tx,ch,ce⟩ =>
  if k=1 then [⟨1,t,y,s.map (bC x),true,[],mks x ch,true⟩]
  else if k=2 then [bQ tx] else if k=3 then [bQ x.x] else if k=4 then [bQ (dec x.k.toNat)]
  else if k=5 then x.m.map fun m=>⟨1,t,m,s.map (bC x),true,[],[bQ m],true⟩ else []
def mks (x:It):List Pt→List Nd
 | []=>[]
 | p::r=>mk x p++mks x r
end
theorem mk_eq (x:It) (p:Pt):mk x p=if p.k=1 then [yh x p p.y (mks x p.ch)]
 else if p.k=2 then [bQ p.x] else if p.k=3 then [bQ x.x] else if p.k=4 then [bQ (dec x.k.toNat)]
 else if p.k=5 then x.m.map fun m=>yh x p m [bQ m] else []:=by cases p;rw [mk];rfl
mutual
/-- What the specification's part makes. -/
def md (x:It):Pt→List Nd
 | ⟨k,t,y,s,se,tx,ch,ce⟩ =>
  if k=2 then [bQ tx] else if k=3 then [bQ x.x] else if k=4 then [bQ (dec x.k.toNat)]
  else if k=5 then x.m.map fun m=>⟨1,t,m,s.map (bC x),false,[],[bQ m],true⟩
  else [⟨1,t,y,s.map (bC x),false,[],mds x ch,(mds x ch).isEmpty⟩]
def mds (x:It):List Pt→List Nd
 | []=>[]
 | p::r=>md x p++mds x r
end
def jd (x:It) (p:Pt) (key:Bs) (ch:List Nd) (e:Bool):Nd:=⟨1,p.t,key,p.s.map (bC x),false,[],ch,e⟩
theorem Yz (x:It) (p:Pt):md x p=if p.k=2 then [bQ p.x] else if p.k=3 then [bQ x.x] else if p.k=4 then [bQ (dec x.k.toNat)]
 else if p.k=5 then x.m.map fun m=>jd x p m [bQ m] true else [jd x p p.y (mds x p.ch) (mds x p.ch).isEmpty]:=by cases p;rw [md];rfl
mutual
theorem ahA (x:It):∀ (p:Pt),Okp p→(mk x p).map Nd.z=(md x p).map Nd.z
 | ⟨k,t,y,s,se,tx,ch,ce⟩,h=>by
  have hk:=Ub (by cases h;assumption:pO ⟨k,t,y,s,se,tx,ch,ce⟩=true)
  have hm:∀ m ∈ ch,Okp m:=by cases h;assumption
  have ih:=VO x ch hm
  rw [mk,md]
  simp only at hk
  rcases hk with rfl | rfl | rfl | rfl | rfl
  · simp [Nd.ads,ih]
  · simp
  · simp
  · simp
  · simp [Nd.ads]
theorem VO (x:It):∀ (l:List Pt),(∀ m ∈ l,Okp m)→(mks x l).map Nd.z=(mds x l).map Nd.z
 | [],_=>by rw [mks,mds]
 | p::r,h=>by
  rw [mks,mds,List.map_append,List.map_append,ahA x p (h p (by simp)),VO x r fun m hm=>h m (by simp [hm])]
end
theorem acu (x:It) (hx:x.m.length≤8) (p:Pt):(md x p).length≤8:=by
 rw [Yz];split <;> (try split) <;> (try split) <;> (try split) <;> (try split) <;> simp <;> omega
def zN:Nd:=⟨0,[],[],[],true,[],[],true⟩
def mkN (x:It) (p:Pt):Nd:=(mk x p).headD zN
def mdN (x:It) (p:Pt):Nd:=(md x p).headD zN
theorem ak4 (x:It) (p:Pt) (h:Okp p):(mkN x p).z=(mdN x p).z:=by
 have:=ahA x p h
 unfold mkN mdN
 cases h1:mk x p <;> cases h2:md x p <;> rw [h1,h2] at this <;> simp at this ⊢
 exact this.1
def gK (p:Pt) (x:It) (most:Int):Int :=
 if most < 1∨64 < most then 1 else if pV p=0 then 14 else if oL x=false then 6 else if cnt (mkN x p)=0∨most < cnt (mkN x p) then 14 else 0
def Qa (p:Pt) (x:It) (most:Int):Nd:=if gK p x most=0 then mkN x p else zN
def aje (p:Pt) (x:It) (most:Int):Nd:=if gK p x most=0 then mdN x p else zN
end Go.D
end
section
namespace Go.D
open Go Go.Pav Go.Pw P
attribute [-simp] List.getElem_cons_drop
variable {C:aI}
structure qR (C:aI):Prop extends aeX C,PZ C where
 ahY:C.fns.get 547=some afG
 ahH:C.fns.get 513=some Ph
 air:C.fns.get 501=some Ij
 ajc:C.fns.get 425=some Ip
@[simp] theorem Nd.ak7 (n:Nd) (k:Nat):n.c.any (dn (k+1))=true:=by rw [Nd.fD];rfl
@[simp] theorem Nd.akF (n:Nd) (k:Nat):(∃ x,x ∈ n.c∧dn (k+1) x=true)=True:=by
 refine eq_true ⟨.ro 2 (n.a.map eA) n.ae,?_,rfl⟩
 rw [Nd.fD];simp
theorem afJ (H:qR C) (x:It) (hk:0≤x.k∧x.k < 18446744073709551616) (hm:x.m.length≤8) (l:List Pt) (e:Bool) (hl:l.length≤16) (p:Pt) (hp:pO p=true∧Fits p) (hk5:p.k=5) (i:Nat) (hi:i < l.length)
 (hnext:∀ G:List Nd,G.length≤8 * (i+1)→jT C ⟨[(12,.int .i64 ((i:Int)+1)),(11,.int .i64 l.length),(10,.ro 6 (l.map Pt.c) e),(5,.sl 0 6 0 G.length G.length false),(2,.ptr 1 0 0)],[(0,.cells 6 (G.map Nd.c) true true),(1,.cells 4 [[.int .u64 x.k,.int .u8 x.t,.str x.x,.ro 1 (x.m.map eS) x.e]] true true)],2⟩ =
  some (.ro 6 ((G++mks x (l.drop (i+1))).map Nd.c) false)):∀ n k,n+k=x.m.length→∀ G:List Nd,G.length≤8 * i+k →
 EX C ⟨[(65,.int .i64 k),(64,.int .i64 x.m.length),(63,.ro 1 (x.m.map eS) x.e),(12,.int .i64 i),(11,.int .i64 l.length),(10,.ro 6 (l.map Pt.c) e),(7,.ptr 0 0 0),(5,.sl 1 6 0 G.length G.length false),(2,.ptr 2 0 0)],[(0,.cells 6 [p.c] true true),(1,.cells 6 (G.map Nd.c) true true),(2,.cells 4 [[.int .u64 x.k,.int .u8 x.t,.str x.x,.ro 1 (x.m.map eS) x.e]] true true)],3⟩ =
  some (.ro 6 ((G++(x.m.drop k).map (fun m=>yh x p m [bQ m])++mks x (l.drop (i+1))).map Nd.c) false):=by
 intro n
 induction n with
 | zero =>
  intro k hk2 G hG
  have h1:x.m.drop k=[]:=List.drop_eq_nil_of_le (by omega)
  have h3:¬ k < x.m.length:=by omega
  have:=hnext G (by omega)
  simp only [jT] at this
  simp at this
  simp only [EX];rw [aj yT.eq_1]
  simp (disch:=omega) [aj qF.eq_1,h1,h3,aG,this]
 | succ n ih =>
  intro k hk2 G hG
  have h1:k < x.m.length:=by omega
  have hs:=Q8 hp.1
  have he:=Gu H.toaeX x hk (by omega) p hs.1 (fun s q=>⟨hp.2.f s q,hs.2 s q⟩) x.m[k] [bQ x.m[k]] true
  have hw:=xE H.toaeX x.m[k]
  have:=ih (k+1) (by omega) (G++[yh x p x.m[k] [bQ x.m[k]]]) (by simp;omega)
  have hfit:(G.length+1) * 105≤35184372088832:=by omega
  rw [drop_cons h1]
  simp only [EX] at this ⊢;rw [aj yT.eq_1]
  simp at this
  simp at he
  simp (disch:=omega) [h1,aG,hfit,hw,he,H.inl,ay,H.pp,ppB,this]
theorem Yv (H:qR C) (x:It) (hk:0≤x.k∧x.k < 18446744073709551616) (hm:x.m.length≤8) (l:List Pt) (e:Bool) (hl:l.length≤16) (ho:∀ p ∈ l,Okp p)
 (ih:∀ p ∈ l,FnW C 547 [eIt x,.ro 6 (p.ch.map Pt.c) p.ce]=some (.ro 6 ((mks x p.ch).map Nd.c) false)):∀ n i,n+i=l.length→∀ G:List Nd,G.length≤8 * i →
 jT C ⟨[(12,.int .i64 i),(11,.int .i64 l.length),(10,.ro 6 (l.map Pt.c) e),(5,.sl 0 6 0 G.length G.length false),(2,.ptr 1 0 0)],[(0,.cells 6 (G.map Nd.c) true true),(1,.cells 4 [[.int .u64 x.k,.int .u8 x.t,.str x.x,.ro 1 (x.m.map eS) x.e]] true true)],2⟩ =
  some (.ro 6 ((G++mks x (l.drop i)).map Nd.c) false):=by
 intro n
 induction n with
 | zero =>
  intro i hi G hG
  have h1:l.drop i=[]:=List.drop_eq_nil_of_le (by omega)
  have h3:¬ i < l.length:=by omega
  simp only [jT];rw [aj oq.eq_1]
  cases G with
  | nil=>simp [aj Ar.eq_1,h1,h3,mks]
  | cons g G=>simp (disch:=(first | omega | (simp;done) | (simp;omega))) [aj Ar.eq_1,h1,h3,mks,List.take_of_length_le]
 | succ n ihn =>
  intro i hi G hG
  have h1:i < l.length:=by omega
  have hp:=ho _ (List.getElem_mem h1)
  have hpo:pO l[i]=true:=by cases hp;assumption
  have hpf:Fits l[i]:=by cases hp;assumption
  have hs:=Q8 hpo
  have hnext:∀ G:List Nd,G.length≤8 * (i+1)→jT C ⟨[(12,.int .i64 ((i:Int)+1)),(11,.int .i64 l.length),(10,.ro 6 (l.map Pt.c) e),(5,.sl 0 6 0 G.length G.length false),(2,.ptr 1 0 0)],[(0,.cells 6 (G.map Nd.c) true true),(1,.cells 4 [[.int .u64 x.k,.int .u8 x.t,.str x.x,.ro 1 (x.m.map eS) x.e]] true true)],2⟩ =
   some (.ro 6 ((G++mks x (l.drop (i+1))).map Nd.c) false):=fun G q=>by
    have:=ihn (i+1) (by omega) G q
    simpa using this
  have hfit:(G.length+1) * 105≤35184372088832:=by omega
  rw [drop_cons h1,mks]
  have step:∀ N:Nd,jT C ⟨[(12,.int .i64 ((i:Int)+1)),(11,.int .i64 l.length),(10,.ro 6 (l.map Pt.c) e),(5,.sl 0 6 0 (G.length+1) (G.length+1) false),(2,.ptr 1 0 0)],[(0,.cells 6 (G.map Nd.c++[N.c]) true true),(1,.cells 4 [[.int .u64 x.k,.int .u8 x.t,.str x.x,.ro 1 (x.m.map eS) x.e]] true true)],2⟩ =
   some (.ro 6 ((G++([N]++mks x (l.drop (i+1)))).map Nd.c) false):=fun N=>by
    have:=hnext (G++[N]) (by simp;omega)
    simpa using this
  rcases Ub hpo with k1 | k1 | k1 | k1 | k1
  · have he:=Gu H.toaeX x hk (by omega) l[i] hs.1 (fun s q=>⟨hpf.f s q,hs.2 s q⟩) l[i].y (mks x l[i].ch) false
    have hr:=ih _ (List.getElem_mem h1)
    have:=step (yh x l[i] l[i].y (mks x l[i].ch))
    have hq:mk x l[i]=[yh x l[i] l[i].y (mks x l[i].ch)]:=by rw [mk_eq,if_pos k1]
    rw [hq]
    simp only [jT] at this ⊢;rw [aj oq.eq_1]
    simp at this
    simp (disch:=omega) [aj qF.eq_1,h1,k1,aG,hfit,he,hr,H.inl,ay,H.pp,ppB,this]
  · have hw:=xE H.toaeX l[i].x
    have:=step (bQ l[i].x)
    have hq:mk x l[i]=[bQ l[i].x]:=by rw [mk_eq,if_neg (by omega),if_pos k1]
    rw [hq]
    simp only [jT] at this ⊢;rw [aj oq.eq_1]
    simp at this
    simp (disch:=omega) [aj qF.eq_1,h1,k1,aG,hfit,hw,H.inl,ay,H.pp,ppB,this]
  · have hw:=xE H.toaeX x.x
    have:=step (bQ x.x)
    have hq:mk x l[i]=[bQ x.x]:=by rw [mk_eq,if_neg (by omega),if_neg (by omega),if_pos k1]
    rw [hq]
    simp only [jT] at this ⊢;rw [aj oq.eq_1]
    simp at this
    simp (disch:=omega) [aj qF.eq_1,h1,k1,aG,hfit,hw,H.inl,ay,H.pp,ppB,this]
  · obtain ⟨k,hk2⟩:∃ k:Nat,x.k=k:=⟨x.k.toNat,by omega⟩
    have hd:=Kq H.toabb k (by omega)
    have hw:=xE H.toaeX (dec x.k.toNat)
    have:=step (bQ (dec x.k.toNat))
    have hq:mk x l[i]=[bQ (dec x.k.toNat)]:=by rw [mk_eq,if_neg (by omega),if_neg (by omega),if_neg (by omega),if_pos k1]
    rw [hq]
    rw [hk2] at this hw ⊢
    simp only [jT] at this ⊢;rw [aj oq.eq_1]
    simp at this hw
    simp (disch:=omega) [aj qF.eq_1,h1,k1,aG,hfit,hd,hw,H.inl,ay,H.pp,ppB,this]
  · have:=afJ H x hk hm l e hl l[i] ⟨hpo,hpf⟩ k1 i h1 hnext x.m.length 0 (by simp) G (by omega)
    have hq:mk x l[i]=x.m.map fun m=>yh x l[i] m [bQ m]:=by rw [mk_eq,if_neg (by omega),if_neg (by omega),if_neg (by omega),if_neg (by omega),if_pos k1]
    rw [hq,← List.append_assoc]
    rw [List.drop_zero] at this
    generalize G++List.map (fun m=>yh x l[i] m [bQ m]) x.m++mks x (l.drop (i+1))=R at *
    simp only [jT]
    simp only [EX] at this
    rw [aj oq.eq_1]
    simp at this
    simp (disch:=omega) [aj qF.eq_1,h1,k1,aG,H.inl,ay,H.pp,ppB,this]
theorem Jw (H:qR C) (x:It) (hk:0≤x.k∧x.k < 18446744073709551616) (hm:x.m.length≤8) (l:List Pt) (e:Bool) (hl:l.length≤16) (ho:∀ p ∈ l,Okp p)
 (ih:∀ p ∈ l,FnW C 547 [eIt x,.ro 6 (p.ch.map Pt.c) p.ce]=some (.ro 6 ((mks x p.ch).map Nd.c) false)):FnW C 547 [eIt x,.ro 6 (l.map Pt.c) e]=some (.ro 6 ((mks x l).map Nd.c) false):=by
 have h:=Yv H x hk hm l e hl ho ih l.length 0 (by simp) [] (by simp)
 simp only [jT] at h
 simp at h
 rw [aF H.ahY rfl]
 simp [afG,h]
theorem OO (H:qR C) (x:It) (hk:0≤x.k∧x.k < 18446744073709551616) (hm:x.m.length≤8) (p:Pt) (hp:Okp p):FnW C 547 [eIt x,.ro 6 (p.ch.map Pt.c) p.ce]=some (.ro 6 ((mks x p.ch).map Nd.c) false):=by
 have ho:∀ m ∈ p.ch,Okp m:=by cases hp;assumption
 have hl:p.ch.length≤16:=Aa (by cases hp;assumption)
 exact Jw H x hk hm p.ch p.ce hl ho fun m q=>OO H x hk hm m (ho m q)
termination_by SizeOf.sizeOf p
decreasing_by
 have:=List.sizeOf_lt_of_mem q
 have:=Pt.xq p
 omega
theorem afa (H:qR C) (x:It) (hk:0≤x.k∧x.k < 18446744073709551616) (hm:x.m.length≤8) (l:List Pt) (e:Bool) (hl:l.length≤16) (ho:∀ p ∈ l,Okp p) :
 FnW C 547 [eIt x,.ro 6 (l.map Pt.c) e]=some (.ro 6 ((mks x l).map Nd.c) false) :=
 Jw H x hk hm l e hl ho fun m q=>OO H x hk hm m (ho m q)
theorem dK (x:It) (p:Pt) (m:Bs):(jd x p m [bQ m] true).c=[.int .u8 1,.str p.t,.str m,.ro 2 ((p.s.map (bC x)).map eA) false,.str [],.ro 6 [[.int .u8 2,.str [],.str [],.ro 2 [] true,.str m,.ro 6 [] true]] true]:=by
 rw [Nd.fD];simp only [jd,List.map_cons,List.map_nil];rw [Nd.fD];simp [bQ]
theorem afM (H:qR C) (x:It) (hk:0≤x.k∧x.k < 18446744073709551616) (hl8:x.m.length≤8) (p:Pt) (hl:p.s.length≤8) (m1 m2 m3 m4 m5 m6 m7 m8:Bs) (r:List Bs) (hm:x.m=[m1,m2,m3,m4,m5,m6,m7,m8]++r) :
 dw C ⟨[(6,.int .i64 8),(5,.sl 0 6 0 8 8 false),(3,.ptr 9 0 0),(2,.ptr 10 0 0)],[(0,.cells 6 [[.int .u8 1,.str p.t,.str m1,.ro 2 ((p.s.map (bC x)).map eA) false,.str [],.sl 1 6 0 1 1 true],[.int .u8 1,.str p.t,.str m2,.ro 2 ((p.s.map (bC x)).map eA) false,.str [],.sl 2 6 0 1 1 true],[.int .u8 1,.str p.t,.str m3,.ro 2 ((p.s.map (bC x)).map eA) false,.str [],.sl 3 6 0 1 1 true],[.int .u8 1,.str p.t,.str m4,.ro 2 ((p.s.map (bC x)).map eA) false,.str [],.sl 4 6 0 1 1 true],[.int .u8 1,.str p.t,.str m5,.ro 2 ((p.s.map (bC x)).map eA) false,.str [],.sl 5 6 0 1 1 true],[.int .u8 1,.str p.t,.str m6,.ro 2 ((p.s.map (bC x)).map eA) false,.str [],.sl 6 6 0 1 1 true],[.int .u8 1,.str p.t,.str m7,.ro 2 ((p.s.map (bC x)).map eA) false,.str [],.sl 7 6 0 1 1 true],[.int .u8 1,.str p.t,.str m8,.ro 2 ((p.s.map (bC x)).map eA) false,.str [],.sl 8 6 0 1 1 true]] true false),(1,.cells 6 [[.int .u8 2,.str [],.str [],.ro 2 [] true,.str m1,.ro 6 [] true]] true true),(2,.cells 6 [[.int .u8 2,.str [],.str [],.ro 2 [] true,.str m2,.ro 6 [] true]] true true),(3,.cells 6 [[.int .u8 2,.str [],.str [],.ro 2 [] true,.str m3,.ro 6 [] true]] true true),(4,.cells 6 [[.int .u8 2,.str [],.str [],.ro 2 [] true,.str m4,.ro 6 [] true]] true true),(5,.cells 6 [[.int .u8 2,.str [],.str [],.ro 2 [] true,.str m5,.ro 6 [] true]] true true),(6,.cells 6 [[.int .u8 2,.str [],.str [],.ro 2 [] true,.str m6,.ro 6 [] true]] true true),(7,.cells 6 [[.int .u8 2,.str [],.str [],.ro 2 [] true,.str m7,.ro 6 [] true]] true true),(8,.cells 6 [[.int .u8 2,.str [],.str [],.ro 2 [] true,.str m8,.ro 6 [] true]] true true),(9,.cells 4 [[.int .u64 x.k,.int .u8 x.t,.str x.x,.ro 1 (x.m.map eS) x.e]] true true),(10,.cells 6 [p.c] true true)],11⟩ =
  some (.ro 6 (([m1,m2,m3,m4,m5,m6,m7,m8]++r).map fun m=>(jd x p m [bQ m] true).c) false):=by
 simp only [dw];rw [aj jU.eq_1]
 have hxl:x.m.length=8+r.length:=by rw [hm];simp;omega
 cases r with
 | nil =>
  simp at hxl
  simp [aj kY.eq_1,hxl,dK]
 | cons m9 r=>simp at hxl;omega
theorem adO (H:qR C) (x:It) (hk:0≤x.k∧x.k < 18446744073709551616) (hl8:x.m.length≤8) (p:Pt) (hl:p.s.length≤8) (m1 m2 m3 m4 m5 m6 m7:Bs) (r:List Bs) (hm:x.m=[m1,m2,m3,m4,m5,m6,m7]++r) :
 dw C ⟨[(6,.int .i64 7),(5,.sl 0 6 0 7 7 false),(3,.ptr 8 0 0),(2,.ptr 9 0 0)],[(0,.cells 6 [[.int .u8 1,.str p.t,.str m1,.ro 2 ((p.s.map (bC x)).map eA) false,.str [],.sl 1 6 0 1 1 true],[.int .u8 1,.str p.t,.str m2,.ro 2 ((p.s.map (bC x)).map eA) false,.str [],.sl 2 6 0 1 1 true],[.int .u8 1,.str p.t,.str m3,.ro 2 ((p.s.map (bC x)).map eA) false,.str [],.sl 3 6 0 1 1 true],[.int .u8 1,.str p.t,.str m4,.ro 2 ((p.s.map (bC x)).map eA) false,.str [],.sl 4 6 0 1 1 true],[.int .u8 1,.str p.t,.str m5,.ro 2 ((p.s.map (bC x)).map eA) false,.str [],.sl 5 6 0 1 1 true],[.int .u8 1,.str p.t,.str m6,.ro 2 ((p.s.map (bC x)).map eA) false,.str [],.sl 6 6 0 1 1 true],[.int .u8 1,.str p.t,.str m7,.ro 2 ((p.s.map (bC x)).map eA) false,.str [],.sl 7 6 0 1 1 true]] true false),(1,.cells 6 [[.int .u8 2,.str [],.str [],.ro 2 [] true,.str m1,.ro 6 [] true]] true true),(2,.cells 6 [[.int .u8 2,.str [],.str [],.ro 2 [] true,.str m2,.ro 6 [] true]] true true),(3,.cells 6 [[.int .u8 2,.str [],.str [],.ro 2 [] true,.str m3,.ro 6 [] true]] true true),(4,.cells 6 [[.int .u8 2,.str [],.str [],.ro 2 [] true,.str m4,.ro 6 [] true]] true true),(5,.cells 6 [[.int .u8 2,.str [],.str [],.ro 2 [] true,.str m5,.ro 6 [] true]] true true),(6,.cells 6 [[.int .u8 2,.str [],.str [],.ro 2 [] true,.str m6,.ro 6 [] true]] true true),(7,.cells 6 [[.int .u8 2,.str [],.str [],.ro 2 [] true,.str m7,.ro 6 [] true]] true true),(8,.cells 4 [[.int .u64 x.k,.int .u8 x.t,.str x.x,.ro 1 (x.m.map eS) x.e]] true true),(9,.cells 6 [p.c] true true)],10⟩ =
  some (.ro 6 (([m1,m2,m3,m4,m5,m6,m7]++r).map fun m=>(jd x p m [bQ m] true).c) false):=by
 simp only [dw];rw [aj jU.eq_1]
 have hxl:x.m.length=7+r.length:=by rw [hm];simp;omega
 cases r with
 | nil =>
  simp at hxl
  simp [aj kY.eq_1,hxl,dK]
 | cons m8 r =>
  have h1:7 < x.m.length:=by rw [hxl];simp
  have hg:x.m[7]=m8:=by
   have q:x.m[7]?=some m8:=by rw [hm];simp
   rw [List.getElem?_eq_getElem h1] at q
   exact Option.some.inj q
  have ha:=jC H.toabv x hk (by omega) p.s p.se hl
  have this:=afM H x hk hl8 p hl m1 m2 m3 m4 m5 m6 m7 m8 r (by rw [hm];simp)
  simp only [dw] at this
  simp [dK] at this
  have h2:(7:Int) < x.m.length:=by omega
  simp (disch:=omega) [h1,h2,hg,aG,dK,ha,H.inl,ay,H.pp,ppB,this]
theorem ad1 (H:qR C) (x:It) (hk:0≤x.k∧x.k < 18446744073709551616) (hl8:x.m.length≤8) (p:Pt) (hl:p.s.length≤8) (m1 m2 m3 m4 m5 m6:Bs) (r:List Bs) (hm:x.m=[m1,m2,m3,m4,m5,m6]++r) :
 dw C ⟨[(6,.int .i64 6),(5,.sl 0 6 0 6 6 false),(3,.ptr 7 0 0),(2,.ptr 8 0 0)],[(0,.cells 6 [[.int .u8 1,.str p.t,.str m1,.ro 2 ((p.s.map (bC x)).map eA) false,.str [],.sl 1 6 0 1 1 true],[.int .u8 1,.str p.t,.str m2,.ro 2 ((p.s.map (bC x)).map eA) false,.str [],.sl 2 6 0 1 1 true],[.int .u8 1,.str p.t,.str m3,.ro 2 ((p.s.map (bC x)).map eA) false,.str [],.sl 3 6 0 1 1 true],[.int .u8 1,.str p.t,.str m4,.ro 2 ((p.s.map (bC x)).map eA) false,.str [],.sl 4 6 0 1 1 true],[.int .u8 1,.str p.t,.str m5,.ro 2 ((p.s.map (bC x)).map eA) false,.str [],.sl 5 6 0 1 1 true],[.int .u8 1,.str p.t,.str m6,.ro 2 ((p.s.map (bC x)).map eA) false,.str [],.sl 6 6 0 1 1 true]] true false),(1,.cells 6 [[.int .u8 2,.str [],.str [],.ro 2 [] true,.str m1,.ro 6 [] true]] true true),(2,.cells 6 [[.int .u8 2,.str [],.str [],.ro 2 [] true,.str m2,.ro 6 [] true]] true true),(3,.cells 6 [[.int .u8 2,.str [],.str [],.ro 2 [] true,.str m3,.ro 6 [] true]] true true),(4,.cells 6 [[.int .u8 2,.str [],.str [],.ro 2 [] true,.str m4,.ro 6 [] true]] true true),(5,.cells 6 [[.int .u8 2,.str [],.str [],.ro 2 [] true,.str m5,.ro 6 [] true]] true true),(6,.cells 6 [[.int .u8 2,.str [],.str [],.ro 2 [] true,.str m6,.ro 6 [] true]] true true),(7,.cells 4 [[.int .u64 x.k,.int .u8 x.t,.str x.x,.ro 1 (x.m.map eS) x.e]] true true),(8,.cells 6 [p.c] true true)],9⟩ =
  some (.ro 6 (([m1,m2,m3,m4,m5,m6]++r).map fun m=>(jd x p m [bQ m] true).c) false):=by
 simp only [dw];rw [aj jU.eq_1]
 have hxl:x.m.length=6+r.length:=by rw [hm];simp;omega
 cases r with
 | nil =>
  simp at hxl
  simp [aj kY.eq_1,hxl,dK]
 | cons m7 r =>
  have h1:6 < x.m.length:=by rw [hxl];simp
  have hg:x.m[6]=m7:=by
   have q:x.m[6]?=some m7:=by rw [hm];simp
   rw [List.getElem?_eq_getElem h1] at q
   exact Option.some.inj q
  have ha:=jC H.toabv x hk (by omega) p.s p.se hl
  have this:=adO H x hk hl8 p hl m1 m2 m3 m4 m5 m6 m7 r (by rw [hm];simp)
  simp only [dw] at this
  simp [dK] at this
  have h2:(6:Int) < x.m.length:=by omega
  simp (disch:=omega) [h1,h2,hg,aG,dK,ha,H.inl,ay,H.pp,ppB,this]
theorem ae9 (H:qR C) (x:It) (hk:0≤x.k∧x.k < 18446744073709551616) (hl8:x.m.length≤8) (p:Pt) (hl:p.s.length≤8) (m1 m2 m3 m4 m5:Bs) (r:List Bs) (hm:x.m=[m1,m2,m3,m4,m5]++r) :
 dw C ⟨[(6,.int .i64 5),(5,.sl 0 6 0 5 5 false),(3,.ptr 6 0 0),(2,.ptr 7 0 0)],[(0,.cells 6 [[.int .u8 1,.str p.t,.str m1,.ro 2 ((p.s.map (bC x)).map eA) false,.str [],.sl 1 6 0 1 1 true],[.int .u8 1,.str p.t,.str m2,.ro 2 ((p.s.map (bC x)).map eA) false,.str [],.sl 2 6 0 1 1 true],[.int .u8 1,.str p.t,.str m3,.ro 2 ((p.s.map (bC x)).map eA) false,.str [],.sl 3 6 0 1 1 true],[.int .u8 1,.str p.t,.str m4,.ro 2 ((p.s.map (bC x)).map eA) false,.str [],.sl 4 6 0 1 1 true],[.int .u8 1,.str p.t,.str m5,.ro 2 ((p.s.map (bC x)).map eA) false,.str [],.sl 5 6 0 1 1 true]] true false),(1,.cells 6 [[.int .u8 2,.str [],.str [],.ro 2 [] true,.str m1,.ro 6 [] true]] true true),(2,.cells 6 [[.int .u8 2,.str [],.str [],.ro 2 [] true,.str m2,.ro 6 [] true]] true true),(3,.cells 6 [[.int .u8 2,.str [],.str [],.ro 2 [] true,.str m3,.ro 6 [] true]] true true),(4,.cells 6 [[.int .u8 2,.str [],.str [],.ro 2 [] true,.str m4,.ro 6 [] true]] true true),(5,.cells 6 [[.int .u8 2,.str [],.str [],.ro 2 [] true,.str m5,.ro 6 [] true]] true true),(6,.cells 4 [[.int .u64 x.k,.int .u8 x.t,.str x.x,.ro 1 (x.m.map eS) x.e]] true true),(7,.cells 6 [p.c] true true)],8⟩ =
  some (.ro 6 (([m1,m2,m3,m4,m5]++r).map fun m=>(jd x p m [bQ m] true).c) false):=by
 simp only [dw];rw [aj jU.eq_1]
 have hxl:x.m.length=5+r.length:=by rw [hm];simp;omega
 cases r with
 | nil =>
  simp at hxl
  simp [aj kY.eq_1,hxl,dK]
 | cons m6 r =>
  have h1:5 < x.m.length:=by rw [hxl];simp
  have hg:x.m[5]=m6:=by
   have q:x.m[5]?=some m6:=by rw [hm];simp
   rw [List.getElem?_eq_getElem h1] at q
   exact Option.some.inj q
  have ha:=jC H.toabv x hk (by omega) p.s p.se hl
  have this:=ad1 H x hk hl8 p hl m1 m2 m3 m4 m5 m6 r (by rw [hm];simp)
  simp only [dw] at this
  simp [dK] at this
  have h2:(5:Int) < x.m.length:=by omega
  simp (disch:=omega) [h1,h2,hg,aG,dK,ha,H.inl,ay,H.pp,ppB,this]
theorem afw (H:qR C) (x:It) (hk:0≤x.k∧x.k < 18446744073709551616) (hl8:x.m.length≤8) (p:Pt) (hl:p.s.length≤8) (m1 m2 m3 m4:Bs) (r:List Bs) (hm:x.m=[m1,m2,m3,m4]++r) :
 dw C ⟨[(6,.int .i64 4),(5,.sl 0 6 0 4 4 false),(3,.ptr 5 0 0),(2,.ptr 6 0 0)],[(0,.cells 6 [[.int .u8 1,.str p.t,.str m1,.ro 2 ((p.s.map (bC x)).map eA) false,.str [],.sl 1 6 0 1 1 true],[.int .u8 1,.str p.t,.str m2,.ro 2 ((p.s.map (bC x)).map eA) false,.str [],.sl 2 6 0 1 1 true],[.int .u8 1,.str p.t,.str m3,.ro 2 ((p.s.map (bC x)).map eA) false,.str [],.sl 3 6 0 1 1 true],[.int .u8 1,.str p.t,.str m4,.ro 2 ((p.s.map (bC x)).map eA) false,.str [],.sl 4 6 0 1 1 true]] true false),(1,.cells 6 [[.int .u8 2,.str [],.str [],.ro 2 [] true,.str m1,.ro 6 [] true]] true true),(2,.cells 6 [[.int .u8 2,.str [],.str [],.ro 2 [] true,.str m2,.ro 6 [] true]] true true),(3,.cells 6 [[.int .u8 2,.str [],.str [],.ro 2 [] true,.str m3,.ro 6 [] true]] true true),(4,.cells 6 [[.int .u8 2,.str [],.str [],.ro 2 [] true,.str m4,.ro 6 [] true]] true true),(5,.cells 4 [[.int .u64 x.k,.int .u8 x.t,.str x.x,.ro 1 (x.m.map eS) x.e]] true true),(6,.cells 6 [p.c] true true)],7⟩ =
  some (.ro 6 (([m1,m2,m3,m4]++r).map fun m=>(jd x p m [bQ m] true).c) false):=by
 simp only [dw];rw [aj jU.eq_1]
 have hxl:x.m.length=4+r.length:=by rw [hm];simp;omega
 cases r with
 | nil =>
  simp at hxl
  simp [aj kY.eq_1,hxl,dK]
 | cons m5 r =>
  have h1:4 < x.m.length:=by rw [hxl];simp
  have hg:x.m[4]=m5:=by
   have q:x.m[4]?=some m5:=by rw [hm];simp
   rw [List.getElem?_eq_getElem h1] at q
   exact Option.some.inj q
  have ha:=jC H.toabv x hk (by omega) p.s p.se hl
  have this:=ae9 H x hk hl8 p hl m1 m2 m3 m4 m5 r (by rw [hm];simp)
  simp only [dw] at this
  simp [dK] at this
  have h2:(4:Int) < x.m.length:=by omega
  simp (disch:=omega) [h1,h2,hg,aG,dK,ha,H.inl,ay,H.pp,ppB,this]
theorem afu (H:qR C) (x:It) (hk:0≤x.k∧x.k < 18446744073709551616) (hl8:x.m.length≤8) (p:Pt) (hl:p.s.length≤8) (m1 m2 m3:Bs) (r:List Bs) (hm:x.m=[m1,m2,m3]++r) :
 dw C ⟨[(6,.int .i64 3),(5,.sl 0 6 0 3 3 false),(3,.ptr 4 0 0),(2,.ptr 5 0 0)],[(0,.cells 6 [[.int .u8 1,.str p.t,.str m1,.ro 2 ((p.s.map (bC x)).map eA) false,.str [],.sl 1 6 0 1 1 true],[.int .u8 1,.str p.t,.str m2,.ro 2 ((p.s.map (bC x)).map eA) false,.str [],.sl 2 6 0 1 1 true],[.int .u8 1,.str p.t,.str m3,.ro 2 ((p.s.map (bC x)).map eA) false,.str [],.sl 3 6 0 1 1 true]] true false),(1,.cells 6 [[.int .u8 2,.str [],.str [],.ro 2 [] true,.str m1,.ro 6 [] true]] true true),(2,.cells 6 [[.int .u8 2,.str [],.str [],.ro 2 [] true,.str m2,.ro 6 [] true]] true true),(3,.cells 6 [[.int .u8 2,.str [],.str [],.ro 2 [] true,.str m3,.ro 6 [] true]] true true),(4,.cells 4 [[.int .u64 x.k,.int .u8 x.t,.str x.x,.ro 1 (x.m.map eS) x.e]] true true),(5,.cells 6 [p.c] true true)],6⟩ =
  some (.ro 6 (([m1,m2,m3]++r).map fun m=>(jd x p m [bQ m] true).c) false):=by
 simp only [dw];rw [aj jU.eq_1]
 have hxl:x.m.length=3+r.length:=by rw [hm];simp;omega
 cases r with
 | nil =>
  simp at hxl
  simp [aj kY.eq_1,hxl,dK]
 | cons m4 r =>
  have h1:3 < x.m.length:=by rw [hxl];simp
  have hg:x.m[3]=m4:=by
   have q:x.m[3]?=some m4:=by rw [hm];simp
   rw [List.getElem?_eq_getElem h1] at q
   exact Option.some.inj q
  have ha:=jC H.toabv x hk (by omega) p.s p.se hl
  have this:=afw H x hk hl8 p hl m1 m2 m3 m4 r (by rw [hm];simp)
  simp only [dw] at this
  simp [dK] at this
  have h2:(3:Int) < x.m.length:=by omega
  simp (disch:=omega) [h1,h2,hg,aG,dK,ha,H.inl,ay,H.pp,ppB,this]
theorem adM (H:qR C) (x:It) (hk:0≤x.k∧x.k < 18446744073709551616) (hl8:x.m.length≤8) (p:Pt) (hl:p.s.length≤8) (m1 m2:Bs) (r:List Bs) (hm:x.m=[m1,m2]++r) :
 dw C ⟨[(6,.int .i64 2),(5,.sl 0 6 0 2 2 false),(3,.ptr 3 0 0),(2,.ptr 4 0 0)],[(0,.cells 6 [[.int .u8 1,.str p.t,.str m1,.ro 2 ((p.s.map (bC x)).map eA) false,.str [],.sl 1 6 0 1 1 true],[.int .u8 1,.str p.t,.str m2,.ro 2 ((p.s.map (bC x)).map eA) false,.str [],.sl 2 6 0 1 1 true]] true false),(1,.cells 6 [[.int .u8 2,.str [],.str [],.ro 2 [] true,.str m1,.ro 6 [] true]] true true),(2,.cells 6 [[.int .u8 2,.str [],.str [],.ro 2 [] true,.str m2,.ro 6 [] true]] true true),(3,.cells 4 [[.int .u64 x.k,.int .u8 x.t,.str x.x,.ro 1 (x.m.map eS) x.e]] true true),(4,.cells 6 [p.c] true true)],5⟩ =
  some (.ro 6 (([m1,m2]++r).map fun m=>(jd x p m [bQ m] true).c) false):=by
 simp only [dw];rw [aj jU.eq_1]
 have hxl:x.m.length=2+r.length:=by rw [hm];simp;omega
 cases r with
 | nil =>
  simp at hxl
  simp [aj kY.eq_1,hxl,dK]
 | cons m3 r =>
  have h1:2 < x.m.length:=by rw [hxl];simp
  have hg:x.m[2]=m3:=by
   have q:x.m[2]?=some m3:=by rw [hm];simp
   rw [List.getElem?_eq_getElem h1] at q
   exact Option.some.inj q
  have ha:=jC H.toabv x hk (by omega) p.s p.se hl
  have this:=afu H x hk hl8 p hl m1 m2 m3 r (by rw [hm];simp)
  simp only [dw] at this
  simp [dK] at this
  have h2:(2:Int) < x.m.length:=by omega
  simp (disch:=omega) [h1,h2,hg,aG,dK,ha,H.inl,ay,H.pp,ppB,this]
theorem afU (H:qR C) (x:It) (hk:0≤x.k∧x.k < 18446744073709551616) (hl8:x.m.length≤8) (p:Pt) (hl:p.s.length≤8) (m1:Bs) (r:List Bs) (hm:x.m=[m1]++r) :
 dw C ⟨[(6,.int .i64 1),(5,.sl 0 6 0 1 1 false),(3,.ptr 2 0 0),(2,.ptr 3 0 0)],[(0,.cells 6 [[.int .u8 1,.str p.t,.str m1,.ro 2 ((p.s.map (bC x)).map eA) false,.str [],.sl 1 6 0 1 1 true]] true false),(1,.cells 6 [[.int .u8 2,.str [],.str [],.ro 2 [] true,.str m1,.ro 6 [] true]] true true),(2,.cells 4 [[.int .u64 x.k,.int .u8 x.t,.str x.x,.ro 1 (x.m.map eS) x.e]] true true),(3,.cells 6 [p.c] true true)],4⟩ =
  some (.ro 6 (([m1]++r).map fun m=>(jd x p m [bQ m] true).c) false):=by
 simp only [dw];rw [aj jU.eq_1]
 have hxl:x.m.length=1+r.length:=by rw [hm];simp;omega
 cases r with
 | nil =>
  simp at hxl
  simp [aj kY.eq_1,hxl,dK]
 | cons m2 r =>
  have h1:1 < x.m.length:=by rw [hxl];simp
  have hg:x.m[1]=m2:=by
   have q:x.m[1]?=some m2:=by rw [hm];simp
   rw [List.getElem?_eq_getElem h1] at q
   exact Option.some.inj q
  have ha:=jC H.toabv x hk (by omega) p.s p.se hl
  have this:=adM H x hk hl8 p hl m1 m2 r (by rw [hm];simp)
  simp only [dw] at this
  simp [dK] at this
  have h2:(1:Int) < x.m.length:=by omega
  simp (disch:=omega) [h1,h2,hg,aG,dK,ha,H.inl,ay,H.pp,ppB,this]
theorem aef (H:qR C) (x:It) (hk:0≤x.k∧x.k < 18446744073709551616) (hl8:x.m.length≤8) (p:Pt) (hl:p.s.length≤8) (r:List Bs) (hm:x.m=r) :
 dw C ⟨[(6,.int .i64 0),(5,.sl 0 6 0 0 0 false),(3,.ptr 1 0 0),(2,.ptr 2 0 0)],[(0,.cells 6 [] true true),(1,.cells 4 [[.int .u64 x.k,.int .u8 x.t,.str x.x,.ro 1 (x.m.map eS) x.e]] true true),(2,.cells 6 [p.c] true true)],3⟩ =
  some (.ro 6 (r.map fun m=>(jd x p m [bQ m] true).c) false):=by
 simp only [dw];rw [aj jU.eq_1]
 have hxl:x.m.length=0+r.length:=by rw [hm];simp
 cases r with
 | nil =>
  simp at hxl
  simp [aj kY.eq_1,hxl,dK]
 | cons m1 r =>
  have h1:0 < x.m.length:=by rw [hxl];simp
  have hg:x.m[0]=m1:=by
   have q:x.m[0]?=some m1:=by rw [hm];simp
   rw [List.getElem?_eq_getElem h1] at q
   exact Option.some.inj q
  have ha:=jC H.toabv x hk (by omega) p.s p.se hl
  have this:=afU H x hk hl8 p hl  m1 r (by rw [hm];simp)
  simp only [dw] at this
  simp [dK] at this
  have h2:(0:Int) < x.m.length:=by omega
  simp (disch:=omega) [h1,h2,hg,aG,dK,ha,H.inl,ay,H.pp,ppB,this]
def mdF (p:Pt):Bool:=decide (p.k≠5)
theorem ac3 (H:qR C) (x:It) (hk:0≤x.k∧x.k < 18446744073709551616) (hm:x.m.length≤8) (p:Pt) (hl:p.ch.length≤16)
 (ih:∀ m ∈ p.ch,FnW C 513 [.agg m.c,eIt x]=some (.ro 6 ((md x m).map Nd.c) (mdF m))):∀ n i,n+i=p.ch.length→∀ G:List Nd,G.length≤8 * i →
 nU C ⟨[(8,.int .i64 i),(7,.ptr 0 0 0),(3,.ptr 2 0 0),(2,.ptr 3 0 0)],[(0,.cells 6 [[.int .u8 1,.str p.t,.str p.y,.ro 2 ((p.s.map (bC x)).map eA) false,.str [],.sl 1 6 0 G.length G.length false]] true false),(1,.cells 6 (G.map Nd.c) true true),(2,.cells 4 [[.int .u64 x.k,.int .u8 x.t,.str x.x,.ro 1 (x.m.map eS) x.e]] true true),(3,.cells 6 [p.c] true true)],4⟩ =
  some (.ro 6 [(jd x p p.y (G++mds x (p.ch.drop i)) false).c] true):=by
 intro n
 induction n with
 | zero =>
  intro i hi G hG
  have h1:p.ch.drop i=[]:=List.drop_eq_nil_of_le (by omega)
  have h3:¬ i < p.ch.length:=by omega
  have h4:List.take G.length (List.map Nd.c G)=List.map Nd.c G:=List.take_of_length_le (by simp)
  have hw:(jd x p p.y G false).c=[.int .u8 1,.str p.t,.str p.y,.ro 2 ((p.s.map (bC x)).map eA) false,.str [],.ro 6 (G.map Nd.c) false]:=by rw [Nd.fD];rfl
  rw [h1,mds,List.append_nil,hw]
  simp only [nU];rw [aj oD.eq_1]
  simp (disch:=omega) [aj Eh.eq_1,h3,h4]
 | succ n ihn =>
  intro i hi G hG
  have h1:i < p.ch.length:=by omega
  have hr:=ih _ (List.getElem_mem h1)
  have hlen:=acu x hm p.ch[i]
  have:=ihn (i+1) (by omega) (G++md x p.ch[i]) (by simp;omega)
  have hfit:(G.length+(md x p.ch[i]).length) * 105≤35184372088832:=by omega
  rw [drop_cons h1,mds,← List.append_assoc]
  generalize (jd x p p.y (G++md x p.ch[i]++mds x (List.drop (i+1) p.ch)) false).c=R at *
  by_cases hE:md x p.ch[i]=[]
  · simp only [nU] at this ⊢;rw [aj oD.eq_1]
    simp [hE] at this
    simp (disch:=omega) [h1,aG,hr,hE,H.inl,ay,H.pp,ppB,this]
  · simp only [nU] at this ⊢;rw [aj oD.eq_1]
    simp at this
    simp (disch:=omega) [h1,aG,hr,hE,isE hE,hfit,H.inl,ay,H.pp,ppB,this]
theorem aaN (H:qR C) (x:It) (hk:0≤x.k∧x.k < 18446744073709551616) (hm:x.m.length≤8) (p:Pt) (hl:p.ch.length≤16)
 (ih:∀ m ∈ p.ch,FnW C 513 [.agg m.c,eIt x]=some (.ro 6 ((md x m).map Nd.c) (mdF m))):∀ n i,n+i=p.ch.length →
 nU C ⟨[(8,.int .i64 i),(7,.ptr 0 0 0),(3,.ptr 1 0 0),(2,.ptr 2 0 0)],[(0,.cells 6 [[.int .u8 1,.str p.t,.str p.y,.ro 2 ((p.s.map (bC x)).map eA) false,.str [],.ro 6 [] true]] true true),(1,.cells 4 [[.int .u64 x.k,.int .u8 x.t,.str x.x,.ro 1 (x.m.map eS) x.e]] true true),(2,.cells 6 [p.c] true true)],3⟩ =
  some (.ro 6 [(jd x p p.y (mds x (p.ch.drop i)) (mds x (p.ch.drop i)).isEmpty).c] true):=by
 intro n
 induction n with
 | zero =>
  intro i hi
  have h1:p.ch.drop i=[]:=List.drop_eq_nil_of_le (by omega)
  have h3:¬ i < p.ch.length:=by omega
  have hw:(jd x p p.y [] true).c=[.int .u8 1,.str p.t,.str p.y,.ro 2 ((p.s.map (bC x)).map eA) false,.str [],.ro 6 [] true]:=by rw [Nd.fD];rfl
  rw [h1,mds,List.isEmpty_nil,hw]
  simp only [nU];rw [aj oD.eq_1]
  simp (disch:=omega) [aj Eh.eq_1,h3]
 | succ n ihn =>
  intro i hi
  have h1:i < p.ch.length:=by omega
  have hr:=ih _ (List.getElem_mem h1)
  have hlen:=acu x hm p.ch[i]
  have hfit:((md x p.ch[i]).length) * 105≤35184372088832:=by omega
  rw [drop_cons h1,mds]
  by_cases hE:md x p.ch[i]=[]
  · have:=ihn (i+1) (by omega)
    rw [hE,List.nil_append]
    generalize (jd x p p.y (mds x (List.drop (i+1) p.ch)) (mds x (List.drop (i+1) p.ch)).isEmpty).c=R at *
    simp only [nU] at this ⊢;rw [aj oD.eq_1]
    simp at this
    simp (disch:=omega) [h1,aG,hr,hE,H.inl,ay,H.pp,ppB,this]
  · have:=ac3 H x hk hm p hl ih n (i+1) (by omega) (md x p.ch[i]) (by omega)
    have he:(md x p.ch[i]++mds x (List.drop (i+1) p.ch)).isEmpty=false:=isE (by simp [hE])
    rw [he]
    generalize (jd x p p.y (md x p.ch[i]++mds x (List.drop (i+1) p.ch)) false).c=R at *
    simp only [nU] at this ⊢;rw [aj oD.eq_1]
    simp at this
    simp (disch:=omega) [h1,aG,hr,hE,isE hE,hfit,H.inl,ay,H.pp,ppB,this]
theorem Xj (H:qR C) (x:It) (hk:0≤x.k∧x.k < 18446744073709551616) (hm:x.m.length≤8) (p:Pt) (hp:pO p=true)
 (ih:∀ m ∈ p.ch,FnW C 513 [.agg m.c,eIt x]=some (.ro 6 ((md x m).map Nd.c) (mdF m))):FnW C 513 [.agg p.c,eIt x]=some (.ro 6 ((md x p).map Nd.c) (mdF p)):=by
 have hl:=Aa hp
 have hs:=Q8 hp
 rw [aF H.ahH rfl,Yz]
 unfold mdF
 have hw:∀ s:Bs,(bQ s).c=[.int .u8 2,.str [],.str [],.ro 2 [] true,.str s,.ro 6 [] true]:=fun s=>by rw [Nd.fD];rfl
 rcases Ub hp with k1 | k1 | k1 | k1 | k1
 · have h:=aaN H x hk hm p hl ih p.ch.length 0 (by simp)
   have ha:=jC H.toabv x hk (by omega) p.s p.se hs.1
   rw [if_neg (by omega),if_neg (by omega),if_neg (by omega),if_neg (by omega)]
   rw [List.drop_zero] at h
   simp only [List.map_cons,List.map_nil]
   generalize (jd x p p.y (mds x p.ch) (mds x p.ch).isEmpty).c=R at *
   simp only [nU] at h
   simp at h
   simp [Ph,aj N7.eq_1,k1,ha,H.inl,ay,H.pp,ppB,h]
 · simp [Ph,k1,hw]
 · simp [Ph,k1,hw]
 · obtain ⟨k,hk2⟩:∃ k:Nat,x.k=k:=⟨x.k.toNat,by omega⟩
   have hd:=MJ H.toabb k (by omega)
   simp [Ph,k1,hw,hk2,hd,H.inl,ay,H.pp,ppB]
 · have h:=aef H x hk hm p hs.1 x.m rfl
   rw [if_neg (by omega),if_neg (by omega),if_neg (by omega),if_pos k1,List.map_map]
   have hq:(Nd.c ∘ fun m=>jd x p m [bQ m] true)=fun m=>(jd x p m [bQ m] true).c:=rfl
   rw [hq]
   generalize List.map (fun m=>(jd x p m [bQ m] true).c) x.m=R at *
   simp only [dw] at h
   simp [Ph,k1,h]
theorem U9 (H:qR C) (x:It) (hk:0≤x.k∧x.k < 18446744073709551616) (hm:x.m.length≤8) (p:Pt) (hp:Okp p):FnW C 513 [.agg p.c,eIt x]=some (.ro 6 ((md x p).map Nd.c) (mdF p)):=by
 have ho:∀ m ∈ p.ch,Okp m:=by cases hp;assumption
 exact Xj H x hk hm p (by cases hp;assumption) fun m q=>U9 H x hk hm m (ho m q)
termination_by SizeOf.sizeOf p
decreasing_by
 have:=List.sizeOf_lt_of_mem q
 have:=Pt.xq p
 omega
theorem Vf {x:It} (h:oL x=true):x.m.length≤8:=by
 unfold oL at h
 simp at h
 exact h.2.1
theorem Yr (H:qR C) (p:Pt) (hf:iD p) (x:It) (hk:0≤x.k∧x.k < 18446744073709551616) (most:Int) :
 FnW C 501 [.agg p.c,eIt x,.int .i64 most]=some (.tup [.agg (Qa p x most).c,.int .i64 (gK p x most)]):=by
 have hz:zN.c=[.int .u8 0,.str [],.str [],.ro 2 [] true,.str [],.ro 6 [] true]:=by rw [Nd.fD];rfl
 have hc:=IY H.toDL p
 have hi:=ZU H.toY5 x
 rw [aF H.air rfl]
 unfold Qa gK
 by_cases c1:most < 1
 · simp [Ij,c1,hz]
 · by_cases c2:64 < most
   · simp [Ij,c1,c2,hz]
   · by_cases c3:pV p=0
     · rw [c3] at hc
       simp at hc
       simp [Ij,c1,c2,c3,hc,hz,H.inl,ay,H.pp,ppB]
     · rw [if_neg c3] at hc
       cases c4:oL x
       · rw [c4] at hi
         simp at hi
         simp [Ij,c1,c2,c3,hc,hi,hz,H.inl,ay,H.pp,ppB]
       · rw [c4] at hi
         simp at hi
         have hk1:=YT c3
         have hmk:=afa H x hk (Vf c4) [p] true (by simp) (by simpa using OB hf c3)
         have hq:mks x [p]=[mkN x p]:=by unfold mkN;rw [mks,mks,mk_eq,if_pos hk1];rfl
         rw [hq] at hmk
         have hn:=Qw H.toOY (mkN x p)
         generalize hN:mkN x p=N at *
         generalize cnt N=K at *
         simp at hmk
         by_cases c5:K=0
         · subst c5
           simp [Ij,c1,c2,c3,hc,hi,hz,hmk,hn,H.inl,ay,H.pp,ppB]
         · by_cases c6:most < K
           · simp [Ij,c1,c2,c3,hc,hi,hz,hmk,hn,c5,c6,H.inl,ay,H.pp,ppB]
           · simp [Ij,c1,c2,c3,hc,hi,hz,hmk,hn,c5,c6,H.inl,ay,H.pp,ppB]
theorem RG (H:qR C) (p:Pt) (hf:iD p) (x:It) (hk:0≤x.k∧x.k < 18446744073709551616) (most:Int) :
 FnW C 425 [.agg p.c,eIt x,.int .i64 most]=some (.tup [.agg (aje p x most).c,.int .i64 (gK p x most)]):=by
 have hz:zN.c=[.int .u8 0,.str [],.str [],.ro 2 [] true,.str [],.ro 6 [] true]:=by rw [Nd.fD];rfl
 have hc:=Sr H.toJ9 p hf
 have hi:=aah H.toY5 x
 rw [aF H.ajc rfl]
 unfold aje gK
 by_cases c1:most < 1
 · simp [Ip,c1,hz]
 · by_cases c2:64 < most
   · simp [Ip,c1,c2,hz]
   · by_cases c3:pV p=0
     · rw [c3] at hc
       simp at hc
       simp [Ip,c1,c2,c3,hc,hz,H.inl,ay,H.pp,ppB]
     · rw [if_neg c3] at hc
       cases c4:oL x
       · rw [c4] at hi
         simp at hi
         simp [Ip,c1,c2,c3,hc,hi,hz,H.inl,ay,H.pp,ppB]
       · rw [c4] at hi
         simp at hi
         have hk1:=YT c3
         have ho:=OB hf c3
         have hmk:=U9 H x hk (Vf c4) p ho
         have hq:md x p=[mdN x p]:=by unfold mdN;rw [Yz,if_neg (by omega),if_neg (by omega),if_neg (by omega),if_neg (by omega)];rfl
         rw [hq] at hmk
         have hn:=IX H.toPZ (mdN x p)
         have hn2:=Xb H.toPZ (mdN x p)
         have hcz:cnt (mkN x p)=cnt (mdN x p):=by rw [← ahx,ak4 x p ho,ahx]
         rw [hcz]
         generalize hN:mdN x p=N at *
         generalize cnt N=K at *
         simp at hmk
         by_cases c5:K=0
         · subst c5
           simp at hn2
           simp [Ip,c1,c2,c3,hc,hi,hz,hmk,hn,hn2,H.inl,ay,H.pp,ppB]
         · simp [c5] at hn2
           by_cases c6:most < K
           · simp [Ip,c1,c2,c3,hc,hi,hz,hmk,hn,hn2,c5,c6,H.inl,ay,H.pp,ppB]
           · simp [Ip,c1,c2,c3,hc,hi,hz,hmk,hn,hn2,c5,c6,H.inl,ay,H.pp,ppB]
end Go.D
end
section
namespace Go.D
open Go Go.Pav Go.Pw P
structure Kd where
 p:Pt
 b:Int
 st:Bool
 pl:Int
structure En where
 i:It
 s:Int
 kn:Bool
@[simp] def eKd (k:Kd):List AV:=[.int .u8 k.p.k,.str k.p.t,.str k.p.y,.ro 3 (k.p.s.map eSl) k.p.se,.str k.p.x,.ro 6 (k.p.ch.map Pt.c) k.p.ce,.int .i64 k.b,.bool k.st,.int .i64 k.pl]
@[simp] def cIt (i:It):List AV:=[.int .u64 i.k,.int .u8 i.t,.str i.x,.ro 1 (i.m.map eS) i.e]
@[simp] def eEn (e:En):List AV:=[.int .u64 e.i.k,.int .u8 e.i.t,.str e.i.x,.ro 1 (e.i.m.map eS) e.i.e,.int .i64 e.s,.bool e.kn]
abbrev aR (ks:List Kd) (ke:Bool) (cap:Int):AV:=.agg [.ro 9 (ks.map eKd) ke,.int .i64 cap]
abbrev aL (l:List En) (e:Bool):AV:=.agg [.ro 6 (l.map eEn) e]
abbrev aE (e:En):AV:=.agg (eEn e)
structure jv (i:It):Prop where
 k:0≤i.k∧i.k < 18446744073709551616
 t:0≤i.t∧i.t≤255
 m:i.m.length≤1000000
structure eF (e:En):Prop where
 i:jv e.i
 s:-9223372036854775808≤e.s∧e.s≤9223372036854775807
structure kM (ks:List Kd):Prop where
 n:ks.length≤1000000
 f:∀ k ∈ ks,iD k.p
def hOk (n:Int):Bool:=decide (1≤n)&&decide (n≤2305843009213693952)
def LD (k:Kd):Bool:=hOk k.b&&decide (pV k.p≠0)
def qQ (ks:List Kd) (cap:Int):Bool:=decide (1≤ks.length)&&decide (ks.length≤8)&&decide (1≤cap)&&decide (cap≤64)&&ks.all LD
def zP:Pt:=⟨0,[],[],[],true,[],[],true⟩
def dG (ks:List Kd) (t:Int):Kd:=(ks[t.toNat]?).getD ⟨zP,0,false,0⟩
def itE (ks:List Kd) (cap:Int) (x:It) (seen:Bool):Int :=
 if fF ks.length x=false then 6 else if seen=true then 8 else if gK (dG ks x.t).p x cap=0 then 0 else 14
def enE (ks:List Kd) (cap:Int) (e:En) (seen:Bool):Int :=
 if itE ks cap e.i seen≠0 then itE ks cap e.i seen else if hOk e.s=true∧(e.kn=true∨e.s=(dG ks e.i.t).b) then 0 else 12
def chk (ks:List Kd) (cap:Int):List Int→List En→Int
 | _,[]=>0
 | seen,e::r=>if enE ks cap e (seen.contains e.i.k)≠0 then enE ks cap e (seen.contains e.i.k) else chk ks cap (seen++[e.i.k]) r
def pJ:Int→List En→Int
 | sum,[]=>sum
 | sum,e::r=>if 4611686018427387904 - sum < imax e.s 0 then 4611686018427387905 else pJ (sum+imax e.s 0) r
def tot (l:List En):Int:=pJ 0 l
def ovE (l:List En):Int:=if 4611686018427387904 < tot l then 13 else 0
def ckE (ks:List Kd) (cap:Int) (l:List En):Int :=
 if qQ ks cap=false then 7 else if 1024 < l.length then 3 else if chk ks cap [] l≠0 then chk ks cap [] l else ovE l
def fnd (k:Int):List En→Option Nat
 | []=>none
 | e::r=>if e.i.k=k then some 0 else (fnd k r).map (·+1)
def It.own (i:It):It:={ i with e:=true }
def En.own (e:En):En:={ e with i:=e.i.own }
def fre (ks:List Kd) (x:It):En:=⟨x,(dG ks x.t).b,false⟩
def spl {α:Type} (l:List α) (at_ count:Nat) (x:List α):List α:=l.take at_++x++l.drop (at_+count)
end Go.D
end
section
end
section
namespace Go.D
open Go Go.Pav Go.Pw P
attribute [-simp] List.getElem_cons_drop
variable {C:aI}
structure kC (C:aI):Prop extends pR C where
 f225:C.fns.get 225=some adl
 f111:C.fns.get 111=some aeC
 f227:C.fns.get 227=some adt
 ahK:C.fns.get 403=some agn
 aeu:C.fns.get 402=some ab7
 f224:C.fns.get 224=some adx
 akl:C.fns.get 460=some ZX
 aki:C.fns.get 459=some agh
 f340:C.fns.get 340=some ac4
 f226:C.fns.get 226=some abH
 f221:C.fns.get 221=some agv
 ahG:C.fns.get 400=some abd
 f219:C.fns.get 219=some aaE
 aj2:C.fns.get 504=some afe
 ajA:C.fns.get 407=some agt
 f239:C.fns.get 239=some aeW
 aiV:C.fns.get 406=some aeO
 f240:C.fns.get 240=some agK
 ajR:C.fns.get 410=some acM
 akn:C.fns.get 423=some adY
theorem Ja (H:kC C) (n:Int):FnW C 225 [.int .i64 n]=some (.bool (hOk n)):=by
 rw [aF H.f225 rfl]
 unfold hOk
 by_cases c1:1≤n <;> by_cases c2:n≤2305843009213693952 <;> simp [adl,c1,c2]
theorem VE (s:Int) (h1:-9223372036854775808≤s) (h2:s≤9223372036854775807):0≤imax s 0∧imax s 0≤9223372036854775807:=by
 unfold imax;split <;> omega
theorem acp (H:kC C) (l:List En) (e:Bool) (hl:l.length≤1000000) (hs:∀ x ∈ l,-9223372036854775808≤x.s∧x.s≤9223372036854775807):∀ n i,n+i=l.length→∀ sum:Int,0≤sum→sum≤4611686018427387904 →
 Bl C ⟨[(10,.int .i64 i),(9,.int .i64 l.length),(8,.ro 6 (l.map eEn) e),(3,.int .i64 sum)],[],0⟩=some (.int .i64 (pJ sum (l.drop i))):=by
 intro n
 induction n with
 | zero =>
  intro i hi sum s1 s2
  simp only [Bl];rw [aj wS.eq_1]
  have h1:l.drop i=[]:=List.drop_eq_nil_of_le (by omega)
  have h3:¬ i < l.length:=by omega
  simp [aj Lr.eq_1,h1,h3,pJ]
 | succ n ih =>
  intro i hi sum s1 s2
  have h1:i < l.length:=by omega
  have hb:=VE l[i].s (hs _ (List.getElem_mem h1)).1 (hs _ (List.getElem_mem h1)).2
  rw [drop_cons h1,pJ]
  generalize hM:imax l[i].s 0=M at *
  by_cases c:4611686018427387904 - sum < M
  · rw [if_pos c]
    simp only [Bl];rw [aj wS.eq_1]
    simp (disch:=omega) [h1,aG,hM,c]
  · rw [if_neg c]
    have:=ih (i+1) (by omega) (sum+M) (by omega) (by omega)
    simp only [Bl] at this ⊢;rw [aj wS.eq_1]
    simp at this
    simp (disch:=omega) [h1,aG,hM,c,this]
theorem yP (H:kC C) (l:List En) (e:Bool) (hl:l.length≤1000000) (hs:∀ x ∈ l,-9223372036854775808≤x.s∧x.s≤9223372036854775807):FnW C 111 [aL l e]=some (.int .i64 (tot l)):=by
 have h:=acp H l e hl hs l.length 0 (by simp) 0 (by omega) (by omega)
 simp only [Bl] at h
 simp at h
 rw [aF H.f111 rfl]
 unfold tot
 simp [aeC,h]
theorem ajM (H:kC C) (l:List En) (e:Bool) (hl:l.length≤1000000) (hs:∀ x ∈ l,eF x):FnW C 111 [aL l e]=some (.int .i64 (tot l)):=yP H l e hl fun x hx=>(hs x hx).s
theorem rU (H:kC C) (l:List En) (e:Bool) (hl:l.length≤1000000) (hs:∀ x ∈ l,eF x):FnW C 227 [aL l e]=some (.int .i64 (ovE l)):=by
 have h:=ajM H l e hl hs
 rw [aF H.f227 rfl]
 unfold ovE
 by_cases c:4611686018427387904 < tot l <;> simp [adt,h,H.inl,ay,H.pp,ppB,c]
theorem X0 (H:kC C) (l:List En) (e:Bool) (hl:l.length≤1000000) (hs:∀ x ∈ l,-9223372036854775808≤x.s∧x.s≤9223372036854775807):∀ n i,n+i=l.length→∀ sum:Int,0≤sum→sum≤4611686018427387904 →
 xw C ⟨[(4,.int .i64 i),(3,.int .u64 sum),(0,.ro 6 (l.map eEn) e)],[],0⟩=some (.int .i64 (pJ sum (l.drop i))):=by
 intro n
 induction n with
 | zero =>
  intro i hi sum s1 s2
  simp only [xw];rw [aj sW.eq_1]
  have h1:l.drop i=[]:=List.drop_eq_nil_of_le (by omega)
  have h3:¬ i < l.length:=by omega
  simp (disch:=omega) [aj MR.eq_1,h1,h3,pJ,aG]
 | succ n ih =>
  intro i hi sum s1 s2
  have h1:i < l.length:=by omega
  have hx:=hs _ (List.getElem_mem h1)
  have hb:=VE l[i].s hx.1 hx.2
  rw [drop_cons h1,pJ]
  by_cases p:0 < l[i].s
  · rw [Lj (by omega:(0:Int)≤l[i].s)] at *
    by_cases c:4611686018427387904 - sum < l[i].s
    · rw [if_pos c]
      have c':4611686018427387904 < sum+l[i].s:=by omega
      simp only [xw];rw [aj sW.eq_1]
      simp (disch:=omega) [h1,aG,nS,p,c']
    · rw [if_neg c]
      have c':¬ 4611686018427387904 < sum+l[i].s:=by omega
      have:=ih (i+1) (by omega) (sum+l[i].s) (by omega) (by omega)
      simp only [xw] at this ⊢;rw [aj sW.eq_1]
      simp at this
      simp (disch:=omega) [h1,aG,nS,p,c',this]
  · rw [abW (by omega:l[i].s≤(0:Int)),if_neg (by omega),Int.add_zero]
    have c':¬ 4611686018427387904 < sum:=by omega
    have:=ih (i+1) (by omega) sum (by omega) (by omega)
    simp only [xw] at this ⊢;rw [aj sW.eq_1]
    simp at this
    simp (disch:=omega) [h1,aG,nS,p,c',this]
theorem acA (H:kC C) (l:List En) (e:Bool) (hl:l.length≤1000000) (hs:∀ x ∈ l,-9223372036854775808≤x.s∧x.s≤9223372036854775807):FnW C 504 [.ro 6 (l.map eEn) e]=some (.int .i64 (tot l)):=by
 have h:=X0 H l e hl hs l.length 0 (by simp) 0 (by omega) (by omega)
 simp only [xw] at h
 simp at h
 rw [aF H.aj2 rfl]
 unfold tot
 simp [afe,h]
theorem afY (H:kC C) (l:List En) (e:Bool) (hl:l.length≤1000000) (hs:∀ x ∈ l,eF x):FnW C 504 [.ro 6 (l.map eEn) e]=some (.int .i64 (tot l)):=acA H l e hl fun x hx=>(hs x hx).s
theorem Qx (H:kC C) (l:List En) (e:Bool) (hl:l.length≤1000000) (hs:∀ x ∈ l,eF x):FnW C 407 [.ro 6 (l.map eEn) e]=some (.int .i64 (ovE l)):=by
 have h:=afY H l e hl hs
 rw [aF H.ajA rfl]
 unfold ovE
 by_cases c:4611686018427387904 < tot l <;> simp [agt,h,H.inl,ay,H.pp,ppB,c]
def fZ (k:Int):Nat→List En→Int
 | _,[]=>-1
 | i,e::r=>if e.i.k=k then i else fZ k (i+1) r
def DJ (k:Int):Nat→List It→Int
 | _,[]=>-1
 | i,x::r=>if x.k=k then i else DJ k (i+1) r
theorem abC (H:kC C) (x:En) (k:Int):FnW C 403 [aE x,.rop [.int .u64 k]]=some (.bool (decide (x.i.k=k))):=by
 rw [aF H.ahK rfl]
 by_cases c:x.i.k=k <;> simp [agn,c]
theorem Qv (H:kC C) (l:List En) (e:Bool) (k:Int) (hl:l.length≤1000000):∀ n i,n+i=l.length →
 mW C ⟨[(8,.int .i64 i),(7,.int .i64 l.length),(1,.fn 403 [.rop [.int .u64 k]]),(0,.ro 6 (l.map eEn) e)],[],0⟩=some (.int .i64 (fZ k i (l.drop i))):=by
 intro n
 induction n with
 | zero =>
  intro i hi
  simp only [mW];rw [aj nX.eq_1]
  have h1:l.drop i=[]:=List.drop_eq_nil_of_le (by omega)
  have h3:¬ i < l.length:=by omega
  simp (disch:=omega) [aj Ez.eq_1,h1,h3,fZ]
 | succ n ih =>
  intro i hi
  have h1:i < l.length:=by omega
  have hf:=abC H l[i] k
  have:=ih (i+1) (by omega)
  rw [drop_cons h1,fZ]
  simp only [aE,eEn] at hf
  by_cases c:l[i].i.k=k
  · rw [if_pos c]
    simp [c] at hf
    simp only [mW];rw [aj nX.eq_1]
    simp (disch:=omega) [h1,aG,hf,H.inl,ay,H.pp,ppB,c]
  · rw [if_neg c]
    simp [c] at hf
    simp only [mW] at this ⊢;rw [aj nX.eq_1]
    simp at this
    simp (disch:=omega) [h1,aG,hf,H.inl,ay,H.pp,ppB,c,this]
theorem X9 (H:kC C) (l:List En) (e:Bool) (k:Int) (hl:l.length≤1000000):FnW C 402 [.ro 6 (l.map eEn) e,.fn 403 [.rop [.int .u64 k]]]=some (.int .i64 (fZ k 0 l)):=by
 have h:=Qv H l e k hl l.length 0 (by simp)
 simp only [mW] at h
 simp at h
 rw [aF H.aeu rfl]
 simp [ab7,h]
theorem find_ok (H:kC C) (l:List En) (e:Bool) (k:Int) (hl:l.length≤1000000):FnW C 224 [aL l e,.int .u64 k]=some (.tup [.int .i64 (imax (fZ k 0 l) 0),.bool (decide (0≤fZ k 0 l))]):=by
 have h:=X9 H l e k hl
 rw [aF H.f224 rfl]
 simp [adx,h,H.inl,ay,H.pp,ppB]
theorem Tz (H:kC C) (l:List En) (e:Bool) (k:Int) (hl:l.length≤1000000):∀ n i,n+i=l.length →
 zF C ⟨[(5,.int .i64 i),(1,.int .u64 k),(0,.ro 6 (l.map eEn) e)],[],0⟩=some (.int .i64 (fZ k i (l.drop i))):=by
 intro n
 induction n with
 | zero =>
  intro i hi
  simp only [zF];rw [aj xO.eq_1]
  have h1:l.drop i=[]:=List.drop_eq_nil_of_le (by omega)
  have h3:¬ i < l.length:=by omega
  simp (disch:=omega) [aj Lu.eq_1,h1,h3,fZ]
 | succ n ih =>
  intro i hi
  have h1:i < l.length:=by omega
  have:=ih (i+1) (by omega)
  rw [drop_cons h1,fZ]
  by_cases c:l[i].i.k=k
  · rw [if_pos c]
    simp only [zF];rw [aj xO.eq_1]
    simp (disch:=omega) [h1,aG,c]
  · rw [if_neg c]
    simp only [zF] at this ⊢;rw [aj xO.eq_1]
    simp at this
    simp (disch:=omega) [h1,aG,c,this]
theorem OM (H:kC C) (l:List En) (e:Bool) (k:Int) (hl:l.length≤1000000):FnW C 239 [.ro 6 (l.map eEn) e,.int .u64 k]=some (.int .i64 (fZ k 0 l)):=by
 have h:=Tz H l e k hl l.length 0 (by simp)
 simp only [zF] at h
 simp at h
 rw [aF H.f239 rfl]
 simp [aeW,h]
theorem SL (H:kC C) (l:List It) (e:Bool) (k:Int) (hl:l.length≤1000000):∀ n i,n+i=l.length →
 zY C ⟨[(5,.int .i64 i),(1,.int .u64 k),(0,.ro 4 (l.map cIt) e)],[],0⟩=some (.int .i64 (DJ k i (l.drop i))):=by
 intro n
 induction n with
 | zero =>
  intro i hi
  simp only [zY];rw [aj xJ.eq_1]
  have h1:l.drop i=[]:=List.drop_eq_nil_of_le (by omega)
  have h3:¬ i < l.length:=by omega
  simp (disch:=omega) [aj KO.eq_1,h1,h3,DJ]
 | succ n ih =>
  intro i hi
  have h1:i < l.length:=by omega
  have:=ih (i+1) (by omega)
  rw [drop_cons h1,DJ]
  by_cases c:l[i].k=k
  · rw [if_pos c]
    simp only [zY];rw [aj xJ.eq_1]
    simp (disch:=omega) [h1,aG,c]
  · rw [if_neg c]
    simp only [zY] at this ⊢;rw [aj xJ.eq_1]
    simp at this
    simp (disch:=omega) [h1,aG,c,this]
theorem O8 (H:kC C) (l:List It) (e:Bool) (k:Int) (hl:l.length≤1000000):FnW C 423 [.ro 4 (l.map cIt) e,.int .u64 k]=some (.int .i64 (DJ k 0 l)):=by
 have h:=SL H l e k hl l.length 0 (by simp)
 simp only [zY] at h
 simp at h
 rw [aF H.akn rfl]
 simp [adY,h]
theorem acX (H:kC C) (b:Bool):FnW C 406 [.bool b]=some (.int .i64 (if b=true then 1 else 0)):=by
 rw [aF H.aiV rfl]
 cases b <;> simp [aeO]
def inR (a c n:Int):Bool:=decide (0≤a)&&decide (a≤n)&&decide (0≤c)&&decide (c≤n - a)
theorem rJ (H:kC C) (a c n:Int) (hn:0≤n∧n≤1000000):FnW C 219 [.int .i64 a,.int .i64 c,.int .i64 n]=some (.bool (inR a c n)):=by
 rw [aF H.f219 rfl]
 unfold inR
 by_cases c1:0≤a <;> by_cases c2:a≤n <;> by_cases c3:0≤c <;> by_cases c4:c≤n - a <;> first
  | (simp (disch:=omega) [aaE,c1,c2,c3,c4,aG];done)
  | (simp (disch:=omega) [aaE,c1,c2,c3,c4,aG];omega)
theorem xk (H:kC C) (a c n:Int) (hn:0≤n∧n≤1000000):FnW C 410 [.int .i64 a,.int .i64 c,.int .i64 n]=some (.int .i64 (if inR a c n=true then 1 else 0)):=by
 have ht:=acX H true
 have hf:=acX H false
 rw [aF H.ajR rfl]
 unfold inR
 by_cases c1:0≤a <;> by_cases c2:a≤n <;> by_cases c3:0≤c <;> by_cases c4:c≤n - a <;> first
  | (simp (disch:=omega) [acM,c1,c2,c3,c4,aG,ht,hf,H.inl,ay,H.pp,ppB];done)
  | (simp (disch:=omega) [acM,c1,c2,c3,c4,aG,ht,hf,H.inl,ay,H.pp,ppB];omega)
end Go.D
end
section
namespace Go.D
open Go Go.Pav Go.Pw P
attribute [-simp] List.getElem_cons_drop
variable {C:aI}
theorem Wy (H:kC C) (m:List Bs) (e:Bool) (hl:m.length≤1000000):FnW C 460 [.ro 1 (m.map eS) e]=some (.ro 1 (m.map eS) true):=by
 rw [aF H.akl rfl]
 by_cases h:m=[]
 · subst h;simp [ZX]
 · have h2:m.length * 17≤35184372088832:=by omega
   have hT:List.take m.length (List.map eS m)=List.map eS m:=List.take_of_length_le (by simp)
   simp (disch:=omega) [ZX,h,h2,isE,hT]
theorem abz (H:kC C) (x:It) (e:Bool) (hl:x.m.length≤1000000):FnW C 340 [.ro 4 [cIt x] e]=some (.ro 4 [cIt x.own] true):=by
 have hg:=fun a h n=>um (args:=[a]) H.aki rfl h n
 have he:=Wy H x.m x.e hl
 rw [aF H.f340 rfl]
 simp (disch:=omega) [ac4,aj Nk.eq_1,aj Vd.eq_1,hg,agh,he,H.inl,ay,H.pp,ppB,It.own,aG]
theorem aaR (H:kC C) (l:List En) (e:Bool) (hl:l.length≤1000000) (hm:∀ x ∈ l,x.i.m.length≤1000000):∀ n i,n+i=l.length→∀ G:List En,G.length=i →
 ES C ⟨[(15,.int .i64 i),(14,.int .i64 l.length),(13,.ro 6 (l.map eEn) e),(3,.sl 0 6 0 l.length l.length true),(2,.ptr 1 0 0)],[(0,.cells 6 (G.map eEn++List.replicate n [.int .u64 0,.int .u8 0,.str [],.ro 1 [] true,.int .i64 0,.bool false]) true true),(1,.cells 1 [[.ro 6 [] true]] true true)],2⟩ =
  some (aL (G++(l.drop i).map En.own) true):=by
 intro n
 induction n with
 | zero =>
  intro i hi G hG
  have h1:l.drop i=[]:=List.drop_eq_nil_of_le (by omega)
  have h3:¬ i < l.length:=by omega
  have h6:List.take l.length (List.map eEn G)=List.map eEn G:=List.take_of_length_le (by simp;omega)
  have h7:G.length=l.length:=by omega
  simp only [ES];rw [aj Aw.eq_1]
  simp [aj NT.eq_1,h1,h3,h6,h7]
 | succ n ih =>
  intro i hi G hG
  have h1:i < l.length:=by omega
  have hc:=abz H l[i].i true (hm _ (List.getElem_mem h1))
  have:=ih (i+1) (by omega) (G++[l[i].own]) (by simp [hG])
  rw [drop_cons h1]
  simp only [ES] at this ⊢;rw [aj Aw.eq_1]
  simp [It.own] at hc
  simp [En.own,It.own] at this
  simp (disch:=omega) [h1,aG,hc,Bg,Am,hG,H.inl,ay,H.pp,ppB,En.own,It.own,this]
theorem G9 (H:kC C) (l:List En) (e:Bool) (hl:l.length≤1000000) (hm:∀ x ∈ l,x.i.m.length≤1000000):FnW C 226 [.ro 6 (l.map eEn) e]=some (aL (l.map En.own) true):=by
 rw [aF H.f226 rfl]
 by_cases hne:l=[]
 · subst hne;simp [abH]
 · have h:=aaR H l e hl hm l.length 0 (by simp) [] rfl
   have h2:l.length * 73≤35184372088832:=by omega
   simp only [ES] at h
   simp at h
   simp (disch:=omega) [abH,hne,h2,h]
section
variable {β:Type} {base:Nat} {fin:Ex × WSt→Option β} {K:List Pw.Frame} {a:Ann} {l:List aX} {d:Option Nat} {e:Env} {n:Nat}
theorem agz {z bytes N nid:Nat} {zz:List AV} {xs:List (List AV)} {ex:Bool} (h:xs.length≤N) :
 SK C base fin K a l d e [(0,.cells z (List.replicate N zz) true true)] n (jc [(0,.cells z (List.replicate N zz) true true)] nid z bytes (.sl 0 z 0 0 N ex) xs true) =
  OK C base fin K a l ⟨dX e d (.sl 0 z 0 xs.length N ex),[(0,.cells z (xs++List.replicate (N - xs.length) zz) true true)],n⟩:=by
 by_cases c:xs=[]
 · subst c;simp [AL]
 · simp [isE c,h,AL]
theorem aaW {z bytes N nid k m:Nat} {zz:List AV} {A xs:List (List AV)} {ex:Bool} (hA:A.length=k) (hm:k+m=N) (h:xs.length≤m) :
 SK C base fin K a l d e [(0,.cells z (A++List.replicate m zz) true true)] n (jc [(0,.cells z (A++List.replicate m zz) true true)] nid z bytes (.sl 0 z 0 k N ex) xs true) =
  OK C base fin K a l ⟨dX e d (.sl 0 z 0 (k+xs.length) N ex),[(0,.cells z (A++(xs++List.replicate (m - xs.length) zz)) true true)],n⟩:=by
 have h1:k+xs.length≤N:=by omega
 have h2:List.take k A=A:=List.take_of_length_le (by omega)
 have h3:List.drop (k+xs.length) A=[]:=List.drop_eq_nil_of_le (by omega)
 by_cases c:xs=[]
 · subst c;simp [AL]
 · simp (disch:=omega) [isE c,hA,hm,h1,h2,h3,AL,List.take_append,List.drop_append]
theorem ac1 {z bytes N nid k m:Nat} {zz:List AV} {A B xs:List (List AV)} {ex:Bool} (hA:A.length+B.length=k) (hm:k+m=N) (h:xs.length≤m) :
 SK C base fin K a l d e [(0,.cells z (A++(B++List.replicate m zz)) true true)] n (jc [(0,.cells z (A++(B++List.replicate m zz)) true true)] nid z bytes (.sl 0 z 0 k N ex) xs true) =
  OK C base fin K a l ⟨dX e d (.sl 0 z 0 (k+xs.length) N ex),[(0,.cells z (A++(B++(xs++List.replicate (m - xs.length) zz))) true true)],n⟩:=by
 have:=aaW (C:=C) (base:=base) (fin:=fin) (K:=K) (a:=a) (l:=l) (d:=d) (e:=e) (n:=n) (z:=z) (bytes:=bytes) (N:=N) (nid:=nid) (k:=k) (m:=m) (zz:=zz) (A:=A++B) (xs:=xs) (ex:=ex) (by simpa using hA) hm h
 simpa only [List.append_assoc] using this
end
theorem uo {α:Type} (l x:List α) (a c:Nat) (h:a+c≤l.length):(spl l a c x).length=l.length - c+x.length:=by
 unfold spl;simp;omega
theorem qY (H:kC C) (l x:List En) (e e2:Bool) (a c:Nat) (hl:l.length≤1000000) (hx:x.length≤1000000) (hac:a+c≤l.length) :
 FnW C 221 [.ro 6 (l.map eEn) e,.int .i64 a,.int .i64 c,.ro 6 (x.map eEn) e2]=some (.ro 6 ((spl l a c x).map eEn) true):=by
 rw [aF H.f221 rfl]
 obtain ⟨N,hN,hN2⟩:∃ N:Nat,(l.length:Int) - c+x.length=N∧N=l.length - c+x.length:=⟨_,by omega,rfl⟩
 have h1:(c:Int)≤l.length:=by omega
 have h2:N * 73≤35184372088832:=by omega
 have hA:min a l.length=a:=by omega
 have h3:a≤N:=by omega
 have h4:a+x.length≤N:=by omega
 have h5:a+x.length+(l.length - (a+c))=N:=by omega
 have h6:a≤l.length:=by omega
 have hT:List.take l.length (List.map eEn l)=List.map eEn l:=List.take_of_length_le (by simp)
 have h9:a+(x.length+(l.length - (a+c)))=N:=by omega
 have h7:N - a - x.length=l.length - (a+c):=by omega
 have h8:List.take N (List.map eEn (spl l a c x))=List.map eEn (spl l a c x):=List.take_of_length_le (by simp [spl];omega)
 simp only [spl] at h8 ⊢
 simp at h8
 simp (disch:=first | omega | (simp;done) | (simp;omega)) [agv,aG,h1,hN,h2,hA,h3,h4,h5,h6,hac,-WA,agz,aaW,ac1,hT,h7,h8,h9]
end Go.D
end
section
namespace Go.D
open Go Go.Pav Go.Pw P
attribute [-simp] List.getElem_cons_drop
variable {C:aI}
structure Aq (C:aI):Prop extends qR C,kC C where
 ajl:C.fns.get 399=some ac0
 f230:C.fns.get 230=some Xx
 ahM:C.fns.get 405=some agm
 f232:C.fns.get 232=some Zj
 f115:C.fns.get 115=some KY
 f271:C.fns.get 271=some RU
 f223:C.fns.get 223=some Yl
 aj0:C.fns.get 532=some ae1
theorem rF {ks:List Kd} {t:Nat} (h:t < ks.length):dG ks t=ks[t]:=by
 unfold dG;simp [h]
theorem nD {n:Int} {x:It} (h:fF n x=true):x.t < n:=by
 unfold fF at h;simp at h;exact h.1.1.2
theorem sV (H:Aq C) (ks:List Kd) (ke:Bool) (cap:Int) (x:It) (hx:jv x) (ht:x.t < ks.length) (hr:kM ks) :
 FnW C 399 [aR ks ke cap,eIt x]=some (.tup [.agg (Qa (dG ks x.t).p x cap).c,.int .i64 (gK (dG ks x.t).p x cap)]):=by
 obtain ⟨t,hT⟩:∃ t:Nat,x.t=t:=⟨x.t.toNat,by have:=hx.t;omega⟩
 have h1:t < ks.length:=by omega
 have h:=Yr H.toqR ks[t].p (hr.f _ (List.getElem_mem h1)) x hx.k cap
 rw [hT,rF h1]
 rw [aF H.ajl rfl]
 generalize (Qa ks[t].p x cap)=N at *
 generalize gK ks[t].p x cap=E at *
 rw [Pt.fD] at h
 simp only [eIt,hT] at h
 simp (disch:=omega) [ac0,hT,h1,h,H.inl,ay,H.pp,ppB]
theorem ah9 (H:Aq C) (k:Kd):FnW C 230 [.agg (eKd k)]=some (.bool (!LD k)):=by
 have h1:=Ja H.tokC k.b
 have h2:=IY H.toDL k.p
 rw [Pt.fD] at h2
 rw [aF H.f230 rfl]
 unfold LD
 generalize hOk k.b=X at *
 cases X
 · simp [Xx,h1,H.inl,ay,H.pp,ppB]
 · by_cases c:pV k.p=0
   · simp [c] at h2
     simp [Xx,h1,h2,c,H.inl,ay,H.pp,ppB]
   · simp [c] at h2
     simp [Xx,h1,h2,c,H.inl,ay,H.pp,ppB]
theorem O5 (H:Aq C) (ks:List Kd) (e:Bool) (hl:ks.length≤1000000):∀ n i,n+i=ks.length →
 ∃ v:Int,yR C ⟨[(8,.int .i64 i),(7,.int .i64 ks.length),(1,.fn 230 []),(0,.ro 9 (ks.map eKd) e)],[],0⟩=some (.int .i64 v)∧decide (v < 0)=(ks.drop i).all LD:=by
 intro n
 induction n with
 | zero =>
  intro i hi
  simp only [yR];rw [aj wG.eq_1]
  have h1:ks.drop i=[]:=List.drop_eq_nil_of_le (by omega)
  have h3:¬ i < ks.length:=by omega
  exact ⟨-1,by simp (disch:=omega) [aj MQ.eq_1,h1,h3],by simp [h1]⟩
 | succ n ih =>
  intro i hi
  have h1:i < ks.length:=by omega
  have hb:=ah9 H ks[i]
  simp only [eKd] at hb
  rw [drop_cons h1]
  cases c:LD ks[i]
  · refine ⟨i,?_,by simp [c]⟩
    rw [c] at hb
    simp only [yR];rw [aj wG.eq_1]
    simp (disch:=omega) [h1,hb,H.inl,ay,H.pp,ppB]
  · obtain ⟨v,hv,hq⟩:=ih (i+1) (by omega)
    refine ⟨v,?_,by simp [hq,c]⟩
    rw [c] at hb
    simp only [yR] at hv ⊢;rw [aj wG.eq_1]
    simp at hv
    simp (disch:=omega) [h1,aG,hb,H.inl,ay,H.pp,ppB,hv]
theorem Nc (H:Aq C) (ks:List Kd) (e:Bool) (hl:ks.length≤1000000):FnW C 232 [.ro 9 (ks.map eKd) e,.fn 230 []]=some (.bool (!ks.all LD)):=by
 obtain ⟨v,h,q⟩:=O5 H ks e hl ks.length 0 (by simp)
 simp only [yR] at h
 simp at h
 have h2:FnW C 405 [.ro 9 (ks.map eKd) e,.fn 230 []]=some (.int .i64 v):=by
  rw [aF H.ahM rfl]
  simp [agm,h]
 rw [aF H.f232 rfl]
 rw [List.drop_zero] at q
 rw [← q]
 by_cases c:v < 0
 · have c':¬ 0≤v:=by omega
   simp [Zj,H.inl,ay,H.pp,ppB,h2,c,c']
 · have c':0≤v:=by omega
   simp [Zj,H.inl,ay,H.pp,ppB,h2,c,c']
theorem abN (H:Aq C) (ks:List Kd) (ke:Bool) (cap:Int) (hr:kM ks):FnW C 115 [aR ks ke cap]=some (.int .i64 (if qQ ks cap=true then 0 else 7)):=by
 have h:=Nc H ks ke hr.n
 have hl:=hr.n
 rw [aF H.f115 rfl]
 unfold qQ
 by_cases c1:1≤ks.length
 · have c1':¬ ((ks.length:Int) < 1):=by omega
   by_cases c2:ks.length≤8
   · have c2':¬ (8 < (ks.length:Int)):=by omega
     by_cases c3:1≤cap
     · have c3':¬ cap < 1:=by omega
       by_cases c4:cap≤64
       · have c4':¬ 64 < cap:=by omega
         cases c5:ks.all LD
         · rw [c5] at h
           simp [KY,c1,c1',c2,c2',c3,c3',c4,c4',h,H.inl,ay,H.pp,ppB]
         · rw [c5] at h
           simp [KY,c1,c1',c2,c2',c3,c3',c4,c4',h,H.inl,ay,H.pp,ppB]
       · have c4':64 < cap:=by omega
         simp [KY,c1,c1',c2,c2',c3,c3',c4,c4']
     · have c3':cap < 1:=by omega
       simp [KY,c1,c1',c2,c2',c3,c3']
   · have c2':(8 < (ks.length:Int)):=by omega
     simp [KY,c1,c1',c2,c2']
 · have c1':((ks.length:Int) < 1):=by omega
   simp [KY,c1,c1']
theorem yU (H:Aq C) (ks:List Kd) (ke:Bool) (cap:Int) (x:It) (hx:jv x) (hr:kM ks) (seen:Bool) :
 FnW C 271 [aR ks ke cap,eIt x,.int .i64 (if seen=true then 1 else 0)]=some (.int .i64 (itE ks cap x seen)):=by
 have hc:=Xk H.toOX x ks.length hx.t hx.m
 rw [aF H.f271 rfl]
 unfold itE
 cases c1:fF ks.length x
 · rw [c1] at hc
   simp at hc
   simp [RU,hc,H.inl,ay,H.pp,ppB]
 · rw [c1] at hc
   cases seen
   · have ht:=nD c1
     obtain ⟨t,hT⟩:∃ t:Nat,x.t=t:=⟨x.t.toNat,by have:=hx.t;omega⟩
     have h1:t < ks.length:=by omega
     have h:=RG H.toqR ks[t].p (hr.f _ (List.getElem_mem h1)) x hx.k cap
     rw [hT,rF h1]
     have hE:0≤gK ks[t].p x cap:=by unfold gK;repeat (first | omega | split)
     generalize (aje ks[t].p x cap)=N at *
     generalize gK ks[t].p x cap=E at *
     rw [Pt.fD] at h
     simp only [eIt,hT] at h hc
     by_cases c:E=0
     · subst c
       simp at hc
       simp (disch:=omega) [RU,hc,hT,h1,h,H.inl,ay,H.pp,ppB]
     · have c':0 < E:=by omega
       simp at hc
       simp (disch:=omega) [RU,hc,hT,h1,h,c,c',H.inl,ay,H.pp,ppB]
   · simp at hc
     simp [RU,hc,H.inl,ay,H.pp,ppB]
def pW (s:List Int):List (AV × AV):=s.map fun k=>(.int .u64 k,.bool true)
theorem GR:pW []=[]:=rfl
theorem Ak (k:Int):∀ s:List Int,lW (pW s) (.int .u64 k)=some (if s.contains k=true then some (.bool true) else none)
 | []=>rfl
 | a::r=>by
  have ih:=Ak k r
  unfold pW at ih ⊢
  rw [List.map_cons,lW]
  simp only [iE,if_true,ob]
  by_cases c:k=a
  · subst c;simp
  · simp [c,ih]
theorem vg (k:Int):∀ s:List Int,s.contains k=false→jX (pW s) (.int .u64 k) (.bool true)=some (pW (s++[k]))
 | [],_=>rfl
 | a::r,h=>by
  simp at h
  have ih:=vg k r (by simpa using h.2)
  unfold pW at ih ⊢
  rw [List.map_cons,jX]
  simp only [iE,if_true,ob]
  simp [h.1,ih,om]
theorem OC (k:Int):∀ (l:List En) (i:Nat),decide (0≤fZ k i l)=(l.map fun e=>e.i.k).contains k
 | [],_=>rfl
 | e::r,i=>by
  rw [fZ]
  by_cases c:e.i.k=k
  · rw [if_pos c];simp [c]
  · have c':¬ k=e.i.k:=fun q=>c q.symm
    rw [if_neg c,OC k r (i+1)]
    simp [c']
theorem Om (k:Int):∀ (l:List It) (i:Nat),decide (0≤DJ k i l)=(l.map fun e=>e.k).contains k
 | [],_=>rfl
 | e::r,i=>by
  rw [DJ]
  by_cases c:e.k=k
  · rw [if_pos c];simp [c]
  · have c':¬ k=e.k:=fun q=>c q.symm
    rw [if_neg c,Om k r (i+1)]
    simp [c']
abbrev bF (l:List En):List Int:=l.map fun e=>e.i.k
theorem S9 (H:Aq C) (ks:List Kd) (ke:Bool) (cap:Int) (hr:kM ks) (l:List En) (e:Bool) (hl:l.length≤1000000) (hs:∀ x ∈ l,eF x):∀ n i,n+i=l.length→∀ seen:List Int,
 mg C ⟨[(25,.int .i64 i),(24,.int .i64 l.length),(23,.ro 6 (l.map eEn) e),(6,.map 0),(3,.ptr 1 0 0),(2,.ptr 2 0 0)],[(0,.map (pW seen)),(1,.cells 1 [[.ro 6 (l.map eEn) e]] true true),(2,.cells 2 [[.ro 9 (ks.map eKd) ke,.int .i64 cap]] true true)],3⟩ =
  some (.int .i64 (if chk ks cap seen (l.drop i)≠0 then chk ks cap seen (l.drop i) else ovE l)):=by
 intro n
 induction n with
 | zero =>
  intro i hi seen
  have ht:=rU H.tokC l e hl hs
  simp only [mg];rw [aj lq.eq_1]
  have h1:l.drop i=[]:=List.drop_eq_nil_of_le (by omega)
  have h3:¬ i < l.length:=by omega
  simp (disch:=omega) [aj Nr.eq_1,h1,h3,chk,ht,H.inl,ay,H.pp,ppB]
 | succ n ih =>
  intro i hi seen
  have h1:i < l.length:=by omega
  have hx:=hs _ (List.getElem_mem h1)
  have hc:=wZ H.toOX l[i].i ks.length hx.i.t
  have hg:=Ak l[i].i.k seen
  rw [drop_cons h1,chk]
  cases c1:fF ks.length l[i].i
  · have hE:enE ks cap l[i] (seen.contains l[i].i.k)=6:=by unfold enE itE;simp [c1]
    rw [hE]
    rw [c1] at hc
    simp at hc
    simp only [mg];rw [aj lq.eq_1]
    simp (disch:=omega) [h1,hc,H.inl,ay,H.pp,ppB]
  · rw [c1] at hc
    simp at hc
    cases c2:seen.contains l[i].i.k
    · have ht:=nD c1
      obtain ⟨t,hT⟩:∃ t:Nat,l[i].i.t=t:=⟨l[i].i.t.toNat,by have:=hx.i.t;omega⟩
      have h2:t < ks.length:=by omega
      have hp:=vg l[i].i.k seen c2
      have hre:=sV H ks ke cap l[i].i hx.i ht hr
      have hh:=Ja H.tokC l[i].s
      have this:=ih (i+1) (by omega) (seen++[l[i].i.k])
      rw [c2] at hg
      simp only [aR,eIt] at hre
      have hk:=rF h2
      have hE:enE ks cap l[i] false=if gK ks[t].p l[i].i cap=0 then (if hOk l[i].s=true∧(l[i].kn=true∨l[i].s=ks[t].b) then 0 else 12) else 14:=by
       unfold enE itE
       rw [c1,hT,hk]
       by_cases q:gK ks[t].p l[i].i cap=0 <;> simp [q]
      simp only [eIt,hT,hk] at hc hre
      generalize Qa ks[t].p l[i].i cap=N at *
      generalize gK ks[t].p l[i].i cap=E at *
      by_cases c3:E=0
      · subst c3
        cases c4:hOk l[i].s
        · rw [c4] at hh
          have hE':enE ks cap l[i] false=12:=by rw [hE];simp [c4]
          rw [hE']
          simp only [mg];rw [aj lq.eq_1]
          simp (disch:=omega) [h1,h2,hT,hc,hg,hp,hre,hh,H.inl,ay,H.pp,ppB]
        · rw [c4] at hh
          cases c5:l[i].kn
          · by_cases c6:l[i].s=ks[t].b
            · have hE':enE ks cap l[i] false=0:=by rw [hE,if_pos rfl,if_pos ⟨c4,.inr c6⟩]
              rw [hE']
              simp only [mg] at this ⊢;rw [aj lq.eq_1]
              generalize chk ks cap (seen++[l[i].i.k]) (List.drop (i+1) l)=Z at *
              simp at this
              simp (disch:=omega) [h1,h2,hT,hc,hg,hp,hre,hh,c5,eq_true c6,aG,H.inl,ay,H.pp,ppB,this]
            · have hE':enE ks cap l[i] false=12:=by rw [hE];simp [c5,c6]
              rw [hE']
              simp only [mg];rw [aj lq.eq_1]
              simp (disch:=omega) [h1,h2,hT,hc,hg,hp,hre,hh,c5,c6,H.inl,ay,H.pp,ppB]
          · have hE':enE ks cap l[i] false=0:=by rw [hE];simp [c4,c5]
            rw [hE']
            simp only [mg] at this ⊢;rw [aj lq.eq_1]
            generalize chk ks cap (seen++[l[i].i.k]) (List.drop (i+1) l)=Z at *
            simp at this
            simp (disch:=omega) [h1,h2,hT,hc,hg,hp,hre,hh,c5,aG,H.inl,ay,H.pp,ppB,this]
      · have hE':enE ks cap l[i] false=14:=by rw [hE];simp [c3]
        rw [hE']
        simp only [mg];rw [aj lq.eq_1]
        simp (disch:=omega) [h1,h2,hT,hc,hg,hp,hre,c3,H.inl,ay,H.pp,ppB]
    · have hE:enE ks cap l[i] true=8:=by unfold enE itE;simp [c1]
      rw [hE]
      rw [c2] at hg
      simp only [mg];rw [aj lq.eq_1]
      simp (disch:=omega) [h1,hc,hg,H.inl,ay,H.pp,ppB]
theorem lQ (H:Aq C) (ks:List Kd) (ke:Bool) (cap:Int) (hr:kM ks) (l:List En) (e:Bool) (hl:l.length≤1000000) (hs:∀ x ∈ l,eF x) :
 FnW C 223 [aR ks ke cap,aL l e]=some (.int .i64 (ckE ks cap l)):=by
 have hv:=abN H ks ke cap hr
 have h:=S9 H ks ke cap hr l e hl hs l.length 0 (by simp) []
 rw [List.drop_zero,GR] at h
 rw [aF H.f223 rfl]
 unfold ckE
 generalize (if chk ks cap [] l≠0 then chk ks cap [] l else ovE l)=R at *
 simp only [mg] at h
 simp at h
 cases c1:qQ ks cap
 · rw [c1] at hv
   simp at hv
   simp [Yl,hv,H.inl,ay,H.pp,ppB]
 · rw [c1] at hv
   simp at hv
   by_cases c2:1024 < l.length
   · have c2':1024 < (l.length:Int):=by omega
     simp [Yl,hv,c2,c2',H.inl,ay,H.pp,ppB]
   · have c2':¬ 1024 < (l.length:Int):=by omega
     simp [Yl,hv,c2,c2',h,H.inl,ay,H.pp,ppB]
def dB (ks:List Kd) (cap:Int):List Int→List It→Int
 | _,[]=>0
 | seen,x::r=>if itE ks cap x (seen.contains x.k)≠0 then itE ks cap x (seen.contains x.k) else dB ks cap (seen++[x.k]) r
theorem Iz (H:Aq C) (ks:List Kd) (ke:Bool) (cap:Int) (hr:kM ks) (l:List En) (e:Bool) (hl:l.length≤1000000) (x:List It) (e2:Bool) (hxl:x.length≤1000000) (hs:∀ i ∈ x,jv i):∀ n i,n+i=x.length →
 nR C ⟨[(7,.int .i64 i),(3,.ptr 0 0 0),(2,.ro 4 (x.map cIt) e2),(1,.ro 6 (l.map eEn) e)],[(0,.cells 2 [[.ro 9 (ks.map eKd) ke,.int .i64 cap]] true true)],1⟩ =
  some (.int .i64 (dB ks cap (bF l++(x.take i).map It.k) (x.drop i))):=by
 intro n
 induction n with
 | zero =>
  intro i hi
  simp only [nR];rw [aj mD.eq_1]
  have h1:x.drop i=[]:=List.drop_eq_nil_of_le (by omega)
  have h3:¬ i < x.length:=by omega
  simp (disch:=omega) [aj J7.eq_1,h1,h3,dB]
 | succ n ih =>
  intro i hi
  have h1:i < x.length:=by omega
  have h1':i≤x.length:=by omega
  have hx:=hs _ (List.getElem_mem h1)
  have hf1:=OM H.tokC l e x[i].k hl
  have hf:=fun e=>O8 H.tokC (x.take i) e x[i].k (by rw [List.length_take];omega)
  have hb:=fun b=>acX H.tokC b
  have hii:=fun b=>yU H ks ke cap x[i] hx hr b
  have this:=ih (i+1) (by omega)
  rw [show (x.take (i+1)).map It.k=(x.take i).map It.k++[x[i].k] by rw [List.take_succ_eq_append_getElem h1,List.map_append];rfl,← List.append_assoc] at this
  have hC:(bF l++(x.take i).map It.k).contains x[i].k=(decide (0≤fZ x[i].k 0 l)||decide (0≤DJ x[i].k 0 (x.take i))):=by
   rw [OC,Om];simp
  rw [drop_cons h1,dB,hC]
  generalize fZ x[i].k 0 l=F at *
  generalize DJ x[i].k 0 (x.take i)=F2 at *
  have hE0:∀ b,0≤itE ks cap x[i] b:=by intro b;unfold itE;repeat (first | omega | split)
  simp only [List.map_take] at hf
  simp only [aR,eIt] at hii
  have b1:=hb true
  have b0:=hb false
  have i1:=hii true
  have i0:=hii false
  have e1:=hE0 true
  have e0:=hE0 false
  simp only [if_true,Bool.false_eq_true,if_false] at b1 b0 i1 i0
  generalize hE1:itE ks cap x[i] true=E1 at *
  generalize hE2:itE ks cap x[i] false=E0 at *
  by_cases c1:0≤F
  · rw [decide_eq_true c1,Bool.true_or,hE1]
    by_cases c3:E1=0
    · subst c3
      simp only [nR] at this ⊢;rw [aj mD.eq_1]
      generalize dB ks cap (bF l++(x.take i).map It.k++[x[i].k]) (List.drop (i+1) x)=Z at *
      simp at this
      simp (disch:=omega) [h1,h1',hf1,hf,b1,i1,c1,aG,H.inl,ay,H.pp,ppB,this]
    · have c3':0 < E1:=by omega
      simp only [nR];rw [aj mD.eq_1]
      simp (disch:=omega) [h1,h1',hf1,hf,b1,i1,c1,c3,c3',H.inl,ay,H.pp,ppB]
  · by_cases c2:0≤F2
    · rw [decide_eq_false c1,decide_eq_true c2,Bool.false_or,hE1]
      by_cases c3:E1=0
      · subst c3
        simp only [nR] at this ⊢;rw [aj mD.eq_1]
        generalize dB ks cap (bF l++(x.take i).map It.k++[x[i].k]) (List.drop (i+1) x)=Z at *
        simp at this
        simp (disch:=omega) [h1,h1',hf1,hf,b1,i1,c1,c2,aG,H.inl,ay,H.pp,ppB,this]
      · have c3':0 < E1:=by omega
        simp only [nR];rw [aj mD.eq_1]
        simp (disch:=omega) [h1,h1',hf1,hf,b1,i1,c1,c2,c3,c3',H.inl,ay,H.pp,ppB]
    · rw [decide_eq_false c1,decide_eq_false c2,Bool.false_or,hE2]
      by_cases c3:E0=0
      · subst c3
        simp only [nR] at this ⊢;rw [aj mD.eq_1]
        generalize dB ks cap (bF l++(x.take i).map It.k++[x[i].k]) (List.drop (i+1) x)=Z at *
        simp at this
        simp (disch:=omega) [h1,h1',hf1,hf,b0,i0,c1,c2,aG,H.inl,ay,H.pp,ppB,this]
      · have c3':0 < E0:=by omega
        simp only [nR];rw [aj mD.eq_1]
        simp (disch:=omega) [h1,h1',hf1,hf,b0,i0,c1,c2,c3,c3',H.inl,ay,H.pp,ppB]
theorem Qu (H:Aq C) (ks:List Kd) (ke:Bool) (cap:Int) (hr:kM ks) (l:List En) (e:Bool) (hl:l.length≤1000000) (x:List It) (e2:Bool) (hxl:x.length≤1000000) (hs:∀ i ∈ x,jv i) :
 FnW C 532 [aR ks ke cap,.ro 6 (l.map eEn) e,.ro 4 (x.map cIt) e2]=some (.int .i64 (dB ks cap (bF l) x)):=by
 have h:=Iz H ks ke cap hr l e hl x e2 hxl hs x.length 0 (by simp)
 rw [List.drop_zero,List.take_zero,List.map_nil,List.append_nil] at h
 generalize dB ks cap (bF l) x=R at *
 simp only [nR] at h
 simp at h
 rw [aF H.aj0 rfl]
 simp [ae1,h]
structure DU (C:aI):Prop extends Aq C where
 f216:C.fns.get 216=some qU
 f222:C.fns.get 222=some aeK
 ajw:C.fns.get 409=some aen
 f228:C.fns.get 228=some YD
 f229:C.fns.get 229=some adf
 f110:C.fns.get 110=some afo
 f237:C.fns.get 237=some ab2
 f114:C.fns.get 114=some ac6
theorem xA (H:Aq C) (ks:List Kd) (ke:Bool) (cap:Int) (x:It) (hx:jv x) (ht:x.t < ks.length) :
 FnW C 240 [aR ks ke cap,eIt x]=some (aE (fre ks x)):=by
 obtain ⟨t,hT⟩:∃ t:Nat,x.t=t:=⟨x.t.toNat,by have:=hx.t;omega⟩
 have h1:t < ks.length:=by omega
 rw [aF H.f240 rfl]
 unfold fre
 rw [hT,rF h1]
 simp (disch:=omega) [agK,hT,h1]
theorem Sz (H:Aq C) (ks:List Kd) (ke:Bool) (cap:Int) (x:List It) (e:Bool) (hxl:x.length≤1000000) (hx:∀ i ∈ x,jv i∧i.t < ks.length):∀ n i,n+i=x.length→∀ G:List En,G.length=i →
 E8 C ⟨[(13,.int .i64 i),(12,.int .i64 x.length),(11,.ro 4 (x.map cIt) e),(5,.sl 0 6 0 x.length x.length true),(2,.ptr 1 0 0)],[(0,.cells 6 (G.map eEn++List.replicate n [.int .u64 0,.int .u8 0,.str [],.ro 1 [] true,.int .i64 0,.bool false]) true true),(1,.cells 2 [[.ro 9 (ks.map eKd) ke,.int .i64 cap]] true true)],2⟩ =
  some (.ro 6 ((G++(x.drop i).map (fre ks)).map eEn) true):=by
 intro n
 induction n with
 | zero =>
  intro i hi G hG
  have h1:x.drop i=[]:=List.drop_eq_nil_of_le (by omega)
  have h3:¬ i < x.length:=by omega
  have h6:List.take x.length (List.map eEn G)=List.map eEn G:=List.take_of_length_le (by simp;omega)
  have h7:G.length=x.length:=by omega
  simp only [E8];rw [aj wI.eq_1]
  simp [aj Ew.eq_1,h1,h3,h6,h7]
 | succ n ih =>
  intro i hi G hG
  have h1:i < x.length:=by omega
  have hxi:=hx _ (List.getElem_mem h1)
  obtain ⟨t,hT⟩:∃ t:Nat,x[i].t=t:=⟨x[i].t.toNat,by have:=hxi.1.t;omega⟩
  have h2:t < ks.length:=by have:=hxi.2;omega
  have:=ih (i+1) (by omega) (G++[fre ks x[i]]) (by simp [hG])
  rw [drop_cons h1]
  simp only [E8] at this ⊢;rw [aj wI.eq_1]
  simp [fre,hT,rF h2] at this
  simp (disch:=omega) [h1,h2,hT,aG,Bg,Am,hG,fre,rF h2,this]
theorem oK (H:Aq C) (ks:List Kd) (ke:Bool) (cap:Int) (x:List It) (e:Bool) (hxl:x.length≤1000000) (hx:∀ i ∈ x,jv i∧i.t < ks.length) :
 FnW C 400 [aR ks ke cap,.ro 4 (x.map cIt) e]=some (.ro 6 ((x.map (fre ks)).map eEn) true):=by
 rw [aF H.ahG rfl]
 by_cases hne:x=[]
 · subst hne
   simp (disch:=omega) [abd,aj wI.eq_1,aj Ew.eq_1]
 · have h:=Sz H ks ke cap x e hxl hx x.length 0 (by simp) [] rfl
   have h2:x.length * 73≤35184372088832:=by omega
   simp only [E8] at h
   simp at h
   simp (disch:=omega) [abd,hne,h2,h]
theorem ZQ (H:DU C) (X:AV) (hX:∃ es ex,X=.ro 6 es ex) (l:List En) (e:Bool) (a c:Nat) (hl:l.length≤1000000) (hac:a+c≤l.length) :
 FnW C 222 [X,.rop [.ro 6 (l.map eEn) e],.rop [.int .i64 a],.rop [.int .i64 c]]=some (.ro 6 ((spl l a c []).map eEn) true):=by
 obtain ⟨es,ex,rfl⟩:=hX
 have h:=qY H.tokC l [] e true a c hl (by simp) hac
 simp only [List.map_nil] at h
 rw [aF H.f222 rfl]
 generalize spl l a c []=R at *
 simp [aeK,h,H.inl,ay,H.pp,ppB]
theorem aaH (H:DU C) (x:List En) (ex:Bool) (y:List It) (ye:Bool) (hxl:x.length≤1000000) (hxy:y.length=x.length) (l:List En) (e:Bool) (a:Nat) (hl:l.length≤1000000) (hac:a+x.length≤l.length) :
 FnW C 229 [.ro 6 (x.map eEn) ex,.rop [.ro 6 (l.map eEn) e],.rop [.int .i64 a],.rop [.ro 4 (y.map cIt) ye]]=some (.ro 6 ((spl l a x.length x).map eEn) true):=by
 have h:=qY H.tokC l x e ex a x.length hl hxl hac
 rw [aF H.f229 rfl]
 generalize spl l a x.length x=R at *
 simp [adf,hxy,h,H.inl,ay,H.pp,ppB]
theorem aa5 (H:DU C) (X:AV) (hX:∃ es ex,X=.ro 6 es ex) (l:List En) (e:Bool) (a c t:Nat) (hl:l.length≤1000000) (hac:a+c≤l.length) (ht:t≤l.length - c) :
 FnW C 409 [X,.rop [.ro 6 (l.map eEn) e],.rop [.int .i64 a],.rop [.int .i64 c],.rop [.int .i64 t]]=some (.ro 6 ((spl (spl l a c []) t 0 ((l.take (a+c)).drop a)).map eEn) true):=by
 obtain ⟨es,ex,rfl⟩:=hX
 have h:=qY H.tokC l [] e true a c hl (by simp) hac
 have hlen:=uo l [] a c hac
 simp only [List.map_nil] at h
 have h2:=fun e2=>qY H.tokC (spl l a c []) ((l.take (a+c)).drop a) true e2 t 0 (by rw [hlen];simp;omega) (by simp;omega) (by rw [hlen];simp;omega)
 have h3:a≤l.length:=by omega
 have h5:a≤a+c:=by omega
 simp only [List.map_drop,List.map_take,show ((0:Nat):Int)=0 from rfl] at h2
 rw [aF H.ajw rfl]
 generalize spl (spl l a c []) t 0 ((l.take (a+c)).drop a)=R2 at *
 generalize spl l a c []=R at *
 simp (disch:=omega) [aen,aG,h,h2,h3,hac,h5,H.inl,ay,H.pp,ppB]
theorem XP (H:DU C) (i:Nat) (x:It) (l:List En) (e:Bool) (a j:Nat) (hj:j=a+i) (hl:l.length≤1000000) (hi:j < l.length) :
 FnW C 228 [.int .i64 i,eIt x,.rop [.ro 6 (l.map eEn) e],.rop [.int .i64 a]]=some (.int .i64 (if l[j].i.k=x.k then 0 else 9)):=by
 rw [aF H.f228 rfl]
 have hj2:(a:Int)+(i:Int)=j:=by omega
 by_cases c:l[j].i.k=x.k
 · simp (disch:=omega) [YD,aG,hj2,hi,c]
 · simp (disch:=omega) [YD,aG,hj2,hi,c]
def cu (e:Int):AV:=.tup [aL [] true,.int .i64 e]
def iy (out:List En):AV:=if ovE (out.map En.own)≠0 then cu (ovE (out.map En.own)) else .tup [aL (out.map En.own) true,.int .i64 0]
theorem Wh (H:DU C) (ks:List Kd) (ke:Bool) (cap:Int) (hr:kM ks) (l:List En) (e:Bool) (hl:l.length≤1000000) (hs:∀ x ∈ l,eF x) (ins:Bool) (a c:Int) (hin:ins=true→inR a c l.length=true) :
 FnW C 216 [aR ks ke cap,aL l e,.agg [.bool ins,.int .i64 0,.ro 4 [] true,.bK,.fn 222 [.rop [.ro 6 (l.map eEn) e],.rop [.int .i64 a],.rop [.int .i64 c]]]] =
  some (if ckE ks cap l≠0 then cu (ckE ks cap l) else if ins=false then cu 4 else iy (spl l a.toNat c.toNat [])):=by
 have hc:=lQ H.toAq ks ke cap hr l e hl hs
 rw [aF H.f216 rfl]
 unfold cu
 by_cases c1:ckE ks cap l=0
 · rw [if_neg (by simpa using c1)]
   rw [c1] at hc
   cases ins
   · simp [qU,hc,H.inl,ay,H.pp,ppB]
   · rw [if_neg (by simp)]
     have hq:=hin rfl
     unfold inR at hq
     simp at hq
     obtain ⟨a',rfl⟩:∃ a':Nat,a=a':=⟨a.toNat,by omega⟩
     obtain ⟨c',rfl⟩:∃ c':Nat,c=c':=⟨c.toNat,by omega⟩
     have hac:a'+c'≤l.length:=by omega
     have hf:=oK H.toAq ks ke cap [] true (by simp) (by simp)
     have hm:=ZQ H (.ro 6 [] true) ⟨_,_,rfl⟩ l e a' c' hl hac
     have hm2:∀ x ∈ spl l a' c' [],eF x:=fun x q=>by
      simp only [spl,List.append_nil,List.mem_append] at q
      rcases q with q | q
      · exact hs x (List.mem_of_mem_take q)
      · exact hs x (List.mem_of_mem_drop q)
     have hlen:=uo l [] a' c' hac
     simp only [Int.toNat_natCast]
     have hlen2:(spl l a' c' []).length≤1000000:=by rw [hlen];simp;omega
     generalize spl l a' c' []=R at *
     have ho:=G9 H.tokC R true hlen2 (fun x q=>(hm2 x q).i.m)
     have ht:=rU H.tokC (R.map En.own) true (by simpa using hlen2) (fun x q=>by
      obtain ⟨y,hy,rfl⟩:=List.mem_map.1 q
      exact ⟨⟨(hm2 y hy).i.k,(hm2 y hy).i.t,(hm2 y hy).i.m⟩,(hm2 y hy).s⟩)
     unfold iy cu
     generalize R.map En.own=R' at *
     simp only [List.map_nil] at hf
     by_cases c2:ovE R'=0
     · rw [c2] at ht
       simp [qU,aj dJ.eq_1,aj jg.eq_1,hc,hf,hm,ho,ht,c2,H.inl,ay,H.pp,ppB]
     · simp [qU,aj dJ.eq_1,aj jg.eq_1,hc,hf,hm,ho,ht,c2,H.inl,ay,H.pp,ppB]
 · rw [if_pos c1]
   simp [qU,hc,c1,H.inl,ay,H.pp,ppB]
structure ae5 (C:aI):Prop extends DU C where
 f241:C.fns.get 241=some YB
 f242:C.fns.get 242=some WM
def rmF {α:Type} (a c:Nat):Nat→List α→List α
 | _,[]=>[]
 | i,e::r=>if i < a∨a+c≤i then e::rmF a c (i+1) r else rmF a c (i+1) r
theorem abj {α:Type} (a c:Nat):∀ (l:List α) (i:Nat),rmF a c i l=l.take (a - i)++l.drop (a+c - i)
 | [],i=>by simp [rmF]
 | e::r,i=>by
  rw [rmF,abj a c r (i+1)]
  by_cases h1:i < a
  · rw [if_pos (.inl h1),show a - i=(a - (i+1))+1 by omega,show a+c - i=(a+c - (i+1))+1 by omega]
    rfl
  · by_cases h2:a+c≤i
    · rw [if_pos (.inr h2),show a - i=0 by omega,show a - (i+1)=0 by omega,show a+c - i=0 by omega,show a+c - (i+1)=0 by omega]
      simp
    · rw [if_neg (by omega),show a - i=0 by omega,show a - (i+1)=0 by omega,show a+c - i=(a+c - (i+1))+1 by omega]
      simp
theorem ada {α:Type} (a c:Nat) (l:List α):rmF a c 0 l=spl l a c []:=by
 rw [abj];unfold spl;simp
theorem NZ (H:kC C) (l:List En) (e:Bool) (hl:l.length≤1000000) (a c:Nat) (hac:a+c≤l.length):∀ n i,n+i=l.length→∀ G:List En,G.length≤i →
 wC C ⟨[(9,.int .i64 i),(8,.sl 0 6 0 G.length G.length false),(2,.int .i64 c),(1,.int .i64 a),(0,.ro 6 (l.map eEn) e)],[(0,.cells 6 (G.map eEn) true true)],1⟩ =
  some (.tup [.ro 6 ((G++rmF a c i (l.drop i)).map eEn) false,.int .i64 0]):=by
 intro n
 induction n with
 | zero =>
  intro i hi G hG
  have h1:l.drop i=[]:=List.drop_eq_nil_of_le (by omega)
  have h3:¬ i < l.length:=by omega
  simp only [wC];rw [aj sQ.eq_1]
  cases G with
  | nil=>simp [aj EN.eq_1,h1,h3,rmF]
  | cons g G=>simp (disch:=(first | omega | (simp;done) | (simp;omega))) [aj EN.eq_1,h1,h3,rmF,List.take_of_length_le]
 | succ n ih =>
  intro i hi G hG
  have h1:i < l.length:=by omega
  have hfit:(G.length+1) * 73≤35184372088832:=by omega
  rw [drop_cons h1,rmF]
  have w1:(a:Int)+(c:Int)=((a+c:Nat):Int):=by omega
  by_cases c1:i < a
  · have this:=ih (i+1) (by omega) (G++[l[i]]) (by simp;omega)
    rw [if_pos (.inl c1)]
    simp only [wC] at this ⊢;rw [aj sQ.eq_1]
    simp at this
    simp (disch:=omega) [h1,c1,hfit,aG,this]
  · by_cases c2:a+c≤i
    · have this:=ih (i+1) (by omega) (G++[l[i]]) (by simp;omega)
      have c2':(a:Int)+(c:Int)≤i:=by omega
      rw [if_pos (.inr c2)]
      simp only [wC] at this ⊢;rw [aj sQ.eq_1]
      simp at this
      simp (disch:=omega) [h1,c1,c2',hfit,aG,this]
    · have this:=ih (i+1) (by omega) G (by omega)
      have c2':¬ (a:Int)+(c:Int)≤i:=by omega
      rw [if_neg (by omega)]
      simp only [wC] at this ⊢;rw [aj sQ.eq_1]
      simp at this
      simp (disch:=omega) [h1,c1,c2',hfit,aG,this]
theorem FY (H:ae5 C) (l:List En) (e:Bool) (hl:l.length≤1000000) (a c:Int) :
 FnW C 241 [.ro 6 (l.map eEn) e,.int .i64 a,.int .i64 c]=some (if inR a c l.length=true then .tup [.ro 6 ((spl l a.toNat c.toNat []).map eEn) false,.int .i64 0] else .tup [.ro 6 [] true,.int .i64 4]):=by
 have hw:=xk H.tokC a c l.length (by omega)
 rw [aF H.f241 rfl]
 cases c1:inR a c l.length
 · rw [c1] at hw
   simp at hw
   simp [YB,hw,H.inl,ay,H.pp,ppB]
 · have hq:=c1
   unfold inR at hq
   simp at hq
   rw [c1] at hw
   simp at hw
   obtain ⟨a',rfl⟩:∃ a':Nat,a=a':=⟨a.toNat,by omega⟩
   obtain ⟨c',rfl⟩:∃ c':Nat,c=c':=⟨c.toNat,by omega⟩
   have h:=NZ H.tokC l e hl a' c' (by omega) l.length 0 (by simp) [] (by simp)
   rw [List.drop_zero,List.nil_append,ada] at h
   simp only [Int.toNat_natCast]
   generalize spl l a' c' []=R at *
   simp only [wC] at h
   simp at h
   simp [YB,hw,h,H.inl,ay,H.pp,ppB]
structure vI (C:aI):Prop extends ae5 C where
 ajn:C.fns.get 422=some GH
 f270:C.fns.get 270=some aga
 f126:C.fns.get 126=some adJ
 f130:C.fns.get 130=some ac7
structure Good (i:It):Prop where
 k:1≤i.k∧i.k≤60
 t:0≤i.t∧i.t≤2
 x:isText i.x=true
 l:i.m.length≤8
 m:i.m.all isName=true
def Uc (k t:Int) (x:Bs) (o:Option AV):Prop:=∃ (m:List Bs) (e:Bool),o=some (eIt ⟨k,t,x,m,e⟩)∧m.length≤8∧m.all isName=true
theorem nV (H:vI C) (k t a b c d:Int) (hd:0≤d∧d≤255) (x:Bs) (G:List Bs) (hG:G≠[]) (hl:G.length≤3) (hm:G.all isName=true) :
 Uc k t x (bZ C ⟨[(4,.int .i64 3),(3,.ptr 0 0 0),(2,.ptr 2 0 0),(1,.ptr 3 0 0)],[(0,.cells 4 [[.int .u64 k,.int .u8 t,.str x,.sl 1 1 0 G.length G.length false]] true false),(1,.cells 1 (G.map eS) true true),(2,.cells 4 [[.int .u64 0,.int .u8 0,.str [],.ro 1 [] true]] true true),(3,.cells 4 [[.int .u8 a,.int .u8 b,.int .u8 c,.int .u8 d]] true true)],4⟩):=by
 have hfit:(G.length+1) * 17≤35184372088832:=by omega
 have hfit2:(G.length+2) * 17≤35184372088832:=by omega
 have h4:List.take G.length (List.map eS G)=List.map eS G:=List.take_of_length_le (by simp)
 by_cases c1:240≤d
 · refine ⟨G++[[97],[97]],false,?_,by simp;omega,by simp only [List.all_append,hm];decide⟩
   have h5:List.take (G.length+2) (List.map eS G++[[.str [97]],[.str [97]]])=List.map eS G++[[.str [97]],[.str [97]]]:=List.take_of_length_le (by simp)
   simp only [bZ];rw [aj jW.eq_1]
   simp (disch:=omega) [aj wz.eq_1,c1,h4,h5,hfit2]
 · refine ⟨G,false,?_,by omega,hm⟩
   simp only [bZ];rw [aj jW.eq_1]
   simp (disch:=omega) [aj wz.eq_1,c1,h4]
theorem G8 (H:vI C) (k t a b c d:Int) (hd:0≤d∧d≤255) (x:Bs) :
 Uc k t x (bZ C ⟨[(4,.int .i64 3),(3,.ptr 0 0 0),(2,.ptr 1 0 0),(1,.ptr 2 0 0)],[(0,.cells 4 [[.int .u64 k,.int .u8 t,.str x,.ro 1 [] true]] true true),(1,.cells 4 [[.int .u64 0,.int .u8 0,.str [],.ro 1 [] true]] true true),(2,.cells 4 [[.int .u8 a,.int .u8 b,.int .u8 c,.int .u8 d]] true true)],3⟩):=by
 by_cases c1:240≤d
 · refine ⟨[[97],[97]],false,?_,by simp,by decide⟩
   simp only [bZ];rw [aj jW.eq_1]
   simp (disch:=omega) [aj wz.eq_1,c1]
 · refine ⟨[],true,?_,by simp,rfl⟩
   simp only [bZ];rw [aj jW.eq_1]
   simp (disch:=omega) [aj wz.eq_1,c1]
theorem oh (H:vI C) (k t a b c d:Int) (hd:0≤d∧d≤255) (x:Bs) (G:List Bs) (hG:G≠[]) (hl:G.length≤2) (hm:G.all isName=true) :
 Uc k t x (bZ C ⟨[(4,.int .i64 2),(3,.ptr 0 0 0),(2,.ptr 2 0 0),(1,.ptr 3 0 0)],[(0,.cells 4 [[.int .u64 k,.int .u8 t,.str x,.sl 1 1 0 G.length G.length false]] true false),(1,.cells 1 (G.map eS) true true),(2,.cells 4 [[.int .u64 0,.int .u8 0,.str [],.ro 1 [] true]] true true),(3,.cells 4 [[.int .u8 a,.int .u8 b,.int .u8 c,.int .u8 d]] true true)],4⟩):=by
 have hfit:(G.length+1) * 17≤35184372088832:=by omega
 have hfit2:(G.length+2) * 17≤35184372088832:=by omega
 have h4:List.take G.length (List.map eS G)=List.map eS G:=List.take_of_length_le (by simp)
 have h6:d.tdiv 8=d / 8:=Int.tdiv_eq_ediv_of_nonneg (by omega)
 have h5:(2+d / 8).tmod 3=(2+d / 8) % 3:=Int.tmod_eq_emod_of_nonneg (by omega)
 have hJ:(2+d / 8) % 3=0∨(2+d / 8) % 3=1∨(2+d / 8) % 3=2:=by omega
 simp only [bZ];rw [aj jW.eq_1]
 rcases hJ with hj | hj | hj
 · simp (disch:=omega) [aG,wU8,h5,h6,hj,h4,hfit]
   split
   · have h:=nV H k t a b c d hd x (G++[[97]]) (by simp) (by simp;omega) (by simp only [List.all_append,hm];decide)
     simp only [bZ] at h
     simpa using h
   · exact nV H k t a b c d hd x G hG (by omega) hm
 · simp (disch:=omega) [aG,wU8,h5,h6,hj,h4,hfit]
   split
   · have h:=nV H k t a b c d hd x (G++[[98,50]]) (by simp) (by simp;omega) (by simp only [List.all_append,hm];decide)
     simp only [bZ] at h
     simpa using h
   · exact nV H k t a b c d hd x G hG (by omega) hm
 · simp (disch:=omega) [aG,wU8,h5,h6,hj,h4,hfit]
   split
   · have h:=nV H k t a b c d hd x (G++[[107,101,121]]) (by simp) (by simp;omega) (by simp only [List.all_append,hm];decide)
     simp only [bZ] at h
     simpa using h
   · exact nV H k t a b c d hd x G hG (by omega) hm
theorem Gv (H:vI C) (k t a b c d:Int) (hd:0≤d∧d≤255) (x:Bs) :
 Uc k t x (bZ C ⟨[(4,.int .i64 2),(3,.ptr 0 0 0),(2,.ptr 1 0 0),(1,.ptr 2 0 0)],[(0,.cells 4 [[.int .u64 k,.int .u8 t,.str x,.ro 1 [] true]] true true),(1,.cells 4 [[.int .u64 0,.int .u8 0,.str [],.ro 1 [] true]] true true),(2,.cells 4 [[.int .u8 a,.int .u8 b,.int .u8 c,.int .u8 d]] true true)],3⟩):=by
 have h6:d.tdiv 8=d / 8:=Int.tdiv_eq_ediv_of_nonneg (by omega)
 have h5:(2+d / 8).tmod 3=(2+d / 8) % 3:=Int.tmod_eq_emod_of_nonneg (by omega)
 have hJ:(2+d / 8) % 3=0∨(2+d / 8) % 3=1∨(2+d / 8) % 3=2:=by omega
 simp only [bZ];rw [aj jW.eq_1]
 rcases hJ with hj | hj | hj
 · simp (disch:=omega) [aG,wU8,h5,h6,hj]
   split
   · exact nV H k t a b c d hd x [[97]] (by simp) (by simp) (by decide)
   · exact G8 H k t a b c d hd x
 · simp (disch:=omega) [aG,wU8,h5,h6,hj]
   split
   · exact nV H k t a b c d hd x [[98,50]] (by simp) (by simp) (by decide)
   · exact G8 H k t a b c d hd x
 · simp (disch:=omega) [aG,wU8,h5,h6,hj]
   split
   · exact nV H k t a b c d hd x [[107,101,121]] (by simp) (by simp) (by decide)
   · exact G8 H k t a b c d hd x
theorem N8 (H:vI C) (k t a b c d:Int) (hd:0≤d∧d≤255) (x:Bs) (G:List Bs) (hG:G≠[]) (hl:G.length≤1) (hm:G.all isName=true) :
 Uc k t x (bZ C ⟨[(4,.int .i64 1),(3,.ptr 0 0 0),(2,.ptr 2 0 0),(1,.ptr 3 0 0)],[(0,.cells 4 [[.int .u64 k,.int .u8 t,.str x,.sl 1 1 0 G.length G.length false]] true false),(1,.cells 1 (G.map eS) true true),(2,.cells 4 [[.int .u64 0,.int .u8 0,.str [],.ro 1 [] true]] true true),(3,.cells 4 [[.int .u8 a,.int .u8 b,.int .u8 c,.int .u8 d]] true true)],4⟩):=by
 have hfit:(G.length+1) * 17≤35184372088832:=by omega
 have hfit2:(G.length+2) * 17≤35184372088832:=by omega
 have h4:List.take G.length (List.map eS G)=List.map eS G:=List.take_of_length_le (by simp)
 have h6:d.tdiv 8=d / 8:=Int.tdiv_eq_ediv_of_nonneg (by omega)
 have h5:(1+d / 8).tmod 3=(1+d / 8) % 3:=Int.tmod_eq_emod_of_nonneg (by omega)
 have hJ:(1+d / 8) % 3=0∨(1+d / 8) % 3=1∨(1+d / 8) % 3=2:=by omega
 simp only [bZ];rw [aj jW.eq_1]
 rcases hJ with hj | hj | hj
 · simp (disch:=omega) [aG,wU8,h5,h6,hj,h4,hfit]
   split
   · have h:=oh H k t a b c d hd x (G++[[97]]) (by simp) (by simp;omega) (by simp only [List.all_append,hm];decide)
     simp only [bZ] at h
     simpa using h
   · exact oh H k t a b c d hd x G hG (by omega) hm
 · simp (disch:=omega) [aG,wU8,h5,h6,hj,h4,hfit]
   split
   · have h:=oh H k t a b c d hd x (G++[[98,50]]) (by simp) (by simp;omega) (by simp only [List.all_append,hm];decide)
     simp only [bZ] at h
     simpa using h
   · exact oh H k t a b c d hd x G hG (by omega) hm
 · simp (disch:=omega) [aG,wU8,h5,h6,hj,h4,hfit]
   split
   · have h:=oh H k t a b c d hd x (G++[[107,101,121]]) (by simp) (by simp;omega) (by simp only [List.all_append,hm];decide)
     simp only [bZ] at h
     simpa using h
   · exact oh H k t a b c d hd x G hG (by omega) hm
theorem FM (H:vI C) (k t a b c d:Int) (hd:0≤d∧d≤255) (x:Bs) :
 Uc k t x (bZ C ⟨[(4,.int .i64 1),(3,.ptr 0 0 0),(2,.ptr 1 0 0),(1,.ptr 2 0 0)],[(0,.cells 4 [[.int .u64 k,.int .u8 t,.str x,.ro 1 [] true]] true true),(1,.cells 4 [[.int .u64 0,.int .u8 0,.str [],.ro 1 [] true]] true true),(2,.cells 4 [[.int .u8 a,.int .u8 b,.int .u8 c,.int .u8 d]] true true)],3⟩):=by
 have h6:d.tdiv 8=d / 8:=Int.tdiv_eq_ediv_of_nonneg (by omega)
 have h5:(1+d / 8).tmod 3=(1+d / 8) % 3:=Int.tmod_eq_emod_of_nonneg (by omega)
 have hJ:(1+d / 8) % 3=0∨(1+d / 8) % 3=1∨(1+d / 8) % 3=2:=by omega
 simp only [bZ];rw [aj jW.eq_1]
 rcases hJ with hj | hj | hj
 · simp (disch:=omega) [aG,wU8,h5,h6,hj]
   split
   · exact oh H k t a b c d hd x [[97]] (by simp) (by simp) (by decide)
   · exact Gv H k t a b c d hd x
 · simp (disch:=omega) [aG,wU8,h5,h6,hj]
   split
   · exact oh H k t a b c d hd x [[98,50]] (by simp) (by simp) (by decide)
   · exact Gv H k t a b c d hd x
 · simp (disch:=omega) [aG,wU8,h5,h6,hj]
   split
   · exact oh H k t a b c d hd x [[107,101,121]] (by simp) (by simp) (by decide)
   · exact Gv H k t a b c d hd x
theorem aa6 (H:vI C) (k t a b c d:Int) (hd:0≤d∧d≤255) (x:Bs) :
 Uc k t x (bZ C ⟨[(4,.int .i64 0),(3,.ptr 0 0 0),(2,.ptr 1 0 0),(1,.ptr 2 0 0)],[(0,.cells 4 [[.int .u64 k,.int .u8 t,.str x,.ro 1 [] true]] true true),(1,.cells 4 [[.int .u64 0,.int .u8 0,.str [],.ro 1 [] true]] true true),(2,.cells 4 [[.int .u8 a,.int .u8 b,.int .u8 c,.int .u8 d]] true true)],3⟩):=by
 have h6:d.tdiv 8=d / 8:=Int.tdiv_eq_ediv_of_nonneg (by omega)
 have h5:(0+d / 8).tmod 3=(0+d / 8) % 3:=Int.tmod_eq_emod_of_nonneg (by omega)
 have hJ:(0+d / 8) % 3=0∨(0+d / 8) % 3=1∨(0+d / 8) % 3=2:=by omega
 simp only [bZ];rw [aj jW.eq_1]
 simp only [Int.zero_add] at h5 hJ
 rcases hJ with hj | hj | hj
 · simp (disch:=omega) [aG,wU8,h5,h6,hj]
   split
   · exact N8 H k t a b c d hd x [[97]] (by simp) (by simp) (by decide)
   · exact FM H k t a b c d hd x
 · simp (disch:=omega) [aG,wU8,h5,h6,hj]
   split
   · exact N8 H k t a b c d hd x [[98,50]] (by simp) (by simp) (by decide)
   · exact FM H k t a b c d hd x
 · simp (disch:=omega) [aG,wU8,h5,h6,hj]
   split
   · exact N8 H k t a b c d hd x [[107,101,121]] (by simp) (by simp) (by decide)
   · exact FM H k t a b c d hd x
structure Q4 where
 (a b c d:Int)
@[simp] def eQ (q:Q4):List AV:=[.int .u8 q.a,.int .u8 q.b,.int .u8 q.c,.int .u8 q.d]
structure QIn (q:Q4):Prop where
 a:0≤q.a∧q.a≤255
 b:0≤q.b∧q.b≤255
 c:0≤q.c∧q.c≤255
 d:0≤q.d∧q.d≤255
theorem rO (H:vI C) (q:Q4) (hq:QIn q):∃ i:It,FnW C 422 [.agg (eQ q)]=some (eIt i)∧Good i:=by
 obtain ⟨a,b,c,d⟩:=q
 obtain ⟨ha,hb,hc,hd⟩:=hq
 simp only at ha hb hc hd
 have h1:a.tmod 60=a % 60:=Int.tmod_eq_emod_of_nonneg (by omega)
 have h2:b.tmod 3=b % 3:=Int.tmod_eq_emod_of_nonneg (by omega)
 have h3:c.tmod 8=c % 8:=Int.tmod_eq_emod_of_nonneg (by omega)
 have hx:∀ x:Bs,isText x=true→∃ i:It,bZ C ⟨[(4,.int .i64 0),(3,.ptr 0 0 0),(2,.ptr 1 0 0),(1,.ptr 2 0 0)],[(0,.cells 4 [[.int .u64 (1+a % 60),.int .u8 (b % 3),.str x,.ro 1 [] true]] true true),(1,.cells 4 [[.int .u64 0,.int .u8 0,.str [],.ro 1 [] true]] true true),(2,.cells 4 [[.int .u8 a,.int .u8 b,.int .u8 c,.int .u8 d]] true true)],3⟩=some (eIt i)∧Good i:=by
  intro x hx
  obtain ⟨m,e,h,r1,r2⟩:=aa6 H (1+a % 60) (b % 3) a b c d hd x
  exact ⟨_,h,⟨by simp only;omega,by simp only;omega,hx,r1,r2⟩⟩
 rw [aF H.ajn rfl]
 have hJ:c % 8=0∨c % 8=1∨c % 8=2∨c % 8=3∨c % 8=4∨c % 8=5∨c % 8=6∨c % 8=7:=by omega
 rcases hJ with hj | hj | hj | hj | hj | hj | hj | hj
 · obtain ⟨i,h,g⟩:=hx [] (by decide)
   refine ⟨i,?_,g⟩
   simp only [bZ] at h
   simp (disch:=omega) [GH,h1,h2,h3,hj,aG,wU8,nS,h]
 · obtain ⟨i,h,g⟩:=hx [97] (by decide)
   refine ⟨i,?_,g⟩
   simp only [bZ] at h
   simp (disch:=omega) [GH,h1,h2,h3,hj,aG,wU8,nS,h]
 · obtain ⟨i,h,g⟩:=hx [114,111,119] (by decide)
   refine ⟨i,?_,g⟩
   simp only [bZ] at h
   simp (disch:=omega) [GH,h1,h2,h3,hj,aG,wU8,nS,h]
 · obtain ⟨i,h,g⟩:=hx [116,119,111,32,119,111,114,100,115] (by decide)
   refine ⟨i,?_,g⟩
   simp only [bZ] at h
   simp (disch:=omega) [GH,h1,h2,h3,hj,aG,wU8,nS,h]
 · obtain ⟨i,h,g⟩:=hx [32,32] (by decide)
   refine ⟨i,?_,g⟩
   simp only [bZ] at h
   simp (disch:=omega) [GH,h1,h2,h3,hj,aG,wU8,nS,h]
 · obtain ⟨i,h,g⟩:=hx [126,33,45,44] (by decide)
   refine ⟨i,?_,g⟩
   simp only [bZ] at h
   simp (disch:=omega) [GH,h1,h2,h3,hj,aG,wU8,nS,h]
 · obtain ⟨i,h,g⟩:=hx [97,32,108,111,110,103,101,114,32,116,101,120,116,32,111,102,32,116,104,105,115,32,107,105,110,100] (by decide)
   refine ⟨i,?_,g⟩
   simp only [bZ] at h
   simp (disch:=omega) [GH,h1,h2,h3,hj,aG,wU8,nS,h]
 · obtain ⟨i,h,g⟩:=hx [57] (by decide)
   refine ⟨i,?_,g⟩
   simp only [bZ] at h
   simp (disch:=omega) [GH,h1,h2,h3,hj,aG,wU8,nS,h]
theorem Good.it {i:It} (h:Good i):jv i:=⟨by have:=h.k;omega,by have:=h.t;omega,by have:=h.l;omega⟩
theorem Good.ok {i:It} (h:Good i):fF 3 i=true:=by
 have h1:=h.k;have h2:=h.t;have h3:=h.x;have h4:=h.l;have h5:=h.m
 unfold fF
 simp only [Bool.and_eq_true,decide_eq_true_eq]
 exact ⟨⟨⟨by omega,by omega⟩,h3⟩,h4,h5⟩
theorem Va {k:Int}:∀ (l:List It) (i:Nat),DJ k i l < 0→∀ x ∈ l,x.k≠k
 | [],_,_=>by simp
 | e::r,i,h=>by
  rw [DJ] at h
  split at h
  · omega
  · rename_i c
    intro x hx
    rcases List.mem_cons.1 hx with rfl | hx
    · exact c
    · exact Va r (i+1) h x hx
theorem QG (H:vI C) (hone:∀ q:Q4,QIn q→∃ i:It,FnW C 422 [.agg (eQ q)]=some (eIt i)∧Good i) (l:List Q4) (e:Bool) (hq:∀ q ∈ l,QIn q):∀ n i,n+i=min l.length 12→∀ G:List It,G.length≤i→(∀ x ∈ G,Good x)→(G.map It.k).Nodup →
 ∃ R:List It,zn C ⟨[(4,.int .i64 i),(3,.sl 0 4 0 G.length G.length false),(1,.ptr 1 0 0)],[(0,.cells 4 (G.map cIt) true true),(1,.cells 1 [[.ro 4 (l.map eQ) e]] true true)],2⟩=some (.ro 4 (R.map cIt) false) ∧
  R.length≤12∧(∀ x ∈ R,Good x)∧(R.map It.k).Nodup:=by
 intro n
 induction n with
 | zero =>
  intro i hi G hG hg hn
  refine ⟨G,?_,by omega,hg,hn⟩
  simp only [zn];rw [aj xg.eq_1]
  have h6:List.take G.length (List.map cIt G)=List.map cIt G:=List.take_of_length_le (by simp)
  by_cases h3:i < l.length
  · have h4:¬ (i:Int) < 12:=by omega
    simp [aj E5.eq_1,h3,h4,h6]
  · simp [aj E5.eq_1,h3,h6]
 | succ n ih =>
  intro i hi G hG hg hn
  have h1:i < l.length:=by omega
  have h2:(i:Int) < 12:=by omega
  obtain ⟨x,hx,gx⟩:=hone l[i] (hq _ (List.getElem_mem h1))
  have hf:=O8 H.tokC G false x.k (by omega)
  have h6:List.take G.length (List.map cIt G)=List.map cIt G:=List.take_of_length_le (by simp)
  have hfit:(G.length+1) * 57≤35184372088832:=by omega
  simp only [eQ] at hx
  by_cases c:DJ x.k 0 G < 0
  · have hno:=Va G 0 c
    obtain ⟨R,this,r1,r2,r3⟩:=ih (i+1) (by omega) (G++[x]) (by simp;omega) (by
     intro y hy
     rcases List.mem_append.1 hy with q | q
     · exact hg y q
     · simp at q;rw [q];exact gx) (by
     rw [List.map_append,List.nodup_append]
     refine ⟨hn,by simp,?_⟩
     intro a ha b hb
     simp at hb
     obtain ⟨y,hy,rfl⟩:=List.mem_map.1 ha
     rw [hb];exact hno y hy)
    refine ⟨R,?_,r1,r2,r3⟩
    simp only [zn] at this ⊢;rw [aj xg.eq_1]
    simp at this
    simp (disch:=omega) [h1,h2,hx,hf,h6,c,hfit,aG,H.inl,ay,H.pp,ppB,this]
  · obtain ⟨R,this,r1,r2,r3⟩:=ih (i+1) (by omega) G (by omega) hg hn
    refine ⟨R,?_,r1,r2,r3⟩
    simp only [zn] at this ⊢;rw [aj xg.eq_1]
    simp at this
    simp (disch:=omega) [h1,h2,hx,hf,h6,c,aG,H.inl,ay,H.pp,ppB,this]
theorem ZI (H:vI C) (hone:∀ q:Q4,QIn q→∃ i:It,FnW C 422 [.agg (eQ q)]=some (eIt i)∧Good i) (l:List Q4) (e:Bool) (hq:∀ q ∈ l,QIn q) :
 ∃ R:List It,FnW C 270 [.agg [.ro 4 (l.map eQ) e]]=some (.ro 4 (R.map cIt) false)∧R.length≤12∧(∀ x ∈ R,Good x)∧(R.map It.k).Nodup:=by
 obtain ⟨R,h,r⟩:=QG H hone l e hq (min l.length 12) 0 (by simp) [] (by simp) (by simp) (by simp)
 refine ⟨R,?_,r⟩
 simp only [zn] at h
 simp at h
 rw [aF H.f270 rfl]
 simp [aga,h]
def yx (k:Int) (t:Bs):Pt:=⟨k,[],[],[],true,t,[],true⟩
def Dq:Pt:=⟨1,[114,111,119],[],[⟨[110],3,[]⟩,⟨[116,101,120,116],1,[]⟩],true,[],[yx 3 []],true⟩
def vJ:Pt:=⟨1,[104,101,97,100],[104],[⟨[105,100],2,[]⟩],true,[],[yx 2 [35],yx 4 []],true⟩
def vP:Pt:=⟨1,[114,111,119],[],[],true,[],[⟨1,[98],[98,50],[],true,[],[yx 3 []],true⟩,⟨5,[116,97,103],[],[⟨[111,102],2,[]⟩],true,[],[],true⟩],true⟩
def eP (n:Int):List Kd:=[⟨Dq,10+n % 7,false,n % 4⟩,⟨vJ,6+n % 3,true,n / 4 % 3⟩,⟨vP,20,decide (n % 16=15),n / 8 % 3⟩]
theorem aa9 (H:vI C) (n:Int) (hn:0≤n∧n≤255):FnW C 126 [.int .u8 n]=some (.ro 9 ((eP n).map eKd) true):=by
 rw [aF H.f126 rfl]
 have h1:n.tmod 7=n % 7:=Int.tmod_eq_emod_of_nonneg (by omega)
 have h2:n.tmod 4=n % 4:=Int.tmod_eq_emod_of_nonneg (by omega)
 have h3:n.tmod 3=n % 3:=Int.tmod_eq_emod_of_nonneg (by omega)
 have h4:n.tdiv 4=n / 4:=Int.tdiv_eq_ediv_of_nonneg (by omega)
 have h5:n.tdiv 8=n / 8:=Int.tdiv_eq_ediv_of_nonneg (by omega)
 have h6:(n / 4).tmod 3=n / 4 % 3:=Int.tmod_eq_emod_of_nonneg (by omega)
 have h7:(n / 8).tmod 3=n / 8 % 3:=Int.tmod_eq_emod_of_nonneg (by omega)
 have h8:n.tmod 16=n % 16:=Int.tmod_eq_emod_of_nonneg (by omega)
 simp (disch:=omega) [adJ,eP,Dq,vJ,vP,yx,h1,h2,h3,h4,h5,h6,h7,h8,aG,wU8,Pt.fD]
 rfl
theorem BQ (k:Int) (t:Bs):iD (yx k t):=.mk _ ⟨by simp [yx],by simp [yx],by simp [yx]⟩ (by simp [yx])
theorem YR:iD Dq:=.mk _ ⟨by simp [Dq],by simp [Dq],by simp [Dq]⟩ (by simp only [Dq,List.mem_cons,List.not_mem_nil,or_false];rintro m rfl;exact BQ _ _)
theorem XM:iD vJ:=.mk _ ⟨by simp [vJ],by simp [vJ],by simp [vJ]⟩ (by simp only [vJ,List.mem_cons,List.not_mem_nil,or_false];rintro m (rfl | rfl) <;> exact BQ _ _)
theorem XA:iD vP:=.mk _ ⟨by simp [vP],by simp [vP],by simp [vP]⟩ (by
 simp only [vP,List.mem_cons,List.not_mem_nil,or_false]
 rintro m (rfl | rfl)
 · exact .mk _ ⟨by simp,by simp,by simp⟩ (by simp only [List.mem_cons,List.not_mem_nil,or_false];rintro m rfl;exact BQ _ _)
 · exact .mk _ ⟨by simp,by simp,by simp⟩ (by simp))
theorem alJ (n:Int):kM (eP n):=⟨by simp [eP],by
 simp only [eP,List.mem_cons,List.not_mem_nil,or_false]
 rintro k (rfl | rfl | rfl)
 · exact YR
 · exact XM
 · exact XA⟩
theorem ajk:pV Dq≠0:=by decide +kernel
theorem adV:pV vJ≠0:=by decide +kernel
theorem agy:pV vP≠0:=by decide +kernel
theorem alp (n:Int) (hn:0≤n∧n≤255):qQ (eP n) 12=true:=by
 have e1:(1:Int)≤10+n % 7∧10+n % 7≤2305843009213693952:=by omega
 have e2:(1:Int)≤6+n % 3∧6+n % 3≤2305843009213693952:=by omega
 simp [qQ,LD,hOk,eP,ajk,adV,agy,e1,e2]
theorem U1 (n:Int) (hn:0≤n∧n≤255) (t:Int) (ht:0≤t∧t≤2):1≤(dG (eP n) t).b∧(dG (eP n) t).b≤30:=by
 have:t=0∨t=1∨t=2:=by omega
 rcases this with rfl | rfl | rfl <;> simp [dG,eP] <;> omega
structure ng (ks:List Kd) (e:En):Prop where
 i:Good e.i
 ok:itE ks 12 e.i false=0
 s:1≤e.s∧e.s≤40
 b:e.kn=true∨e.s=(dG ks e.i.t).b
structure Wx (ks:List Kd):Prop where
 r:kM ks
 l:ks.length=3
 b:∀ t:Int,0≤t→t≤2→1≤(dG ks t).b∧(dG ks t).b≤30
theorem agY (n:Int) (hn:0≤n∧n≤255):Wx (eP n):=⟨alJ n,rfl,fun t h1 h2=>U1 n hn t ⟨h1,h2⟩⟩
theorem ajQ (H:vI C) (ks:List Kd) (hks:Wx ks) (l:List It) (le:Bool) (hl:l.length≤12) (hg:∀ x ∈ l,Good x) (q:List Q4) (qe:Bool) (z:List Int) (ze:Bool) (hz:∀ s ∈ z,0≤s∧s≤255) (hzl:z.length < 9223372036854775808) (r:Int):∀ n i,n+i=l.length →
 ∀ G:List En,G≠[]→G.length≤i→(∀ x ∈ G,ng ks x)→(bF G++(l.drop i).map It.k).Nodup →
 ∃ (R:List En) (f:Bool),iF C ⟨[(7,.int .i64 i),(6,.ptr 0 0 0),(5,.ro 4 (l.map cIt) le),(4,.ptr 2 0 0),(3,.ptr 3 0 0),(2,.ptr 4 0 0),(1,.ptr 5 0 0)],[(0,.cells 1 [[.sl 1 6 0 G.length G.length false]] true false),(1,.cells 6 (G.map eEn) true true),(2,.cells 2 [[.ro 9 (ks.map eKd) true,.int .i64 12]] true true),(3,.cells 1 [[.ro 6 [] true]] true true),(4,.cells 2 [[.ro 9 [] true,.int .i64 0]] true true),(5,.cells 3 [[.ro 4 (q.map eQ) qe,.ro 1 (z.map eU8) ze,.int .u8 r]] true true)],6⟩=some (.tup [aR ks true 12,aL R f])∧R.length≤12∧(∀ e ∈ R,ng ks e)∧(bF R).Nodup:=by
 intro n
 induction n with
 | zero =>
  intro i hi G hne hG hge hn
  have h1:l.drop i=[]:=List.drop_eq_nil_of_le (by omega)
  have h3:¬ i < l.length:=by omega
  have h6:List.take G.length (List.map eEn G)=List.map eEn G:=List.take_of_length_le (by simp)
  refine ⟨G,false,?_,by omega,hge,by rw [h1] at hn;simpa using hn⟩
  simp only [iF];rw [aj jD.eq_1]
  simp [aj Ea.eq_1,h3,h6]
 | succ n ih =>
  intro i hi G hne hG hge hn
  have h1:i < l.length:=by omega
  have gx:=hg _ (List.getElem_mem h1)
  have hii:=yU H.toAq ks true 12 l[i] gx.it hks.r false
  have hfr:=xA H.toAq ks true 12 l[i] gx.it (by have:=gx.t;have:=hks.l;omega)
  have hbase:=hks.b l[i].t gx.t.1 gx.t.2
  rw [drop_cons h1,List.map_cons] at hn
  have hfit:(G.length+1) * 73≤35184372088832:=by omega
  simp only [aR,eIt,Bool.false_eq_true,if_false] at hii
  simp only [aR,eIt,aE,eEn,fre] at hfr
  have hE0:0≤itE ks 12 l[i] false:=by unfold itE;repeat (first | omega | split)
  by_cases c1:itE ks 12 l[i] false=0
  · have step:∀ e:En,e.i=l[i]→ng ks e→∃ (R:List En) (f:Bool),iF C ⟨[(7,.int .i64 ((i:Int)+1)),(6,.ptr 0 0 0),(5,.ro 4 (l.map cIt) le),(4,.ptr 2 0 0),(3,.ptr 3 0 0),(2,.ptr 4 0 0),(1,.ptr 5 0 0)],[(0,.cells 1 [[.sl 1 6 0 (G.length+1) (G.length+1) false]] true false),(1,.cells 6 (G.map eEn++[eEn e]) true true),(2,.cells 2 [[.ro 9 (ks.map eKd) true,.int .i64 12]] true true),(3,.cells 1 [[.ro 6 [] true]] true true),(4,.cells 2 [[.ro 9 [] true,.int .i64 0]] true true),(5,.cells 3 [[.ro 4 (q.map eQ) qe,.ro 1 (z.map eU8) ze,.int .u8 r]] true true)],6⟩=some (.tup [aR ks true 12,aL R f])∧R.length≤12∧(∀ e ∈ R,ng ks e)∧(bF R).Nodup:=by
     intro e he hge2
     have:=ih (i+1) (by omega) (G++[e]) (by simp) (by simp;omega) (by
      intro y hy
      rcases List.mem_append.1 hy with q | q
      · exact hge y q
      · simp at q;rw [q];exact hge2) (by simpa [bF,he] using hn)
     simpa using this
    by_cases c2:G.length < z.length
    · by_cases c3:(0:Int) < z[G.length]
      · have hzz:=hz _ (List.getElem_mem c2)
        have hm:z[G.length].tmod 40=z[G.length] % 40:=Int.tmod_eq_emod_of_nonneg hzz.1
        have hm1:(0:Int)≤z[G.length] % 40:=Int.emod_nonneg _ (by omega)
        have hm2:z[G.length] % 40 < 40:=Int.emod_lt_of_pos _ (by omega)
        obtain ⟨R,f,this,hR⟩:=step ⟨l[i],1+z[G.length] % 40,true⟩ rfl ⟨gx,c1,by simp only;omega,.inl rfl⟩
        refine ⟨R,f,?_,hR⟩
        rw [c1] at hii
        generalize z[G.length] % 40=M at *
        simp only [iF] at this ⊢;rw [aj jD.eq_1]
        simp at this
        simp (disch:=omega) [h1,c2,c3,hm,hii,hfr,hfit,aG,wU8,H.inl,ay,H.pp,ppB,this]
      · obtain ⟨R,f,this,hR⟩:=step (fre ks l[i]) rfl ⟨gx,c1,by unfold fre;simp only;omega,.inr rfl⟩
        refine ⟨R,f,?_,hR⟩
        rw [c1] at hii
        simp only [fre] at this
        simp only [iF] at this ⊢;rw [aj jD.eq_1]
        simp at this
        simp (disch:=omega) [h1,c2,c3,hii,hfr,hfit,aG,wU8,H.inl,ay,H.pp,ppB,this]
    · obtain ⟨R,f,this,hR⟩:=step (fre ks l[i]) rfl ⟨gx,c1,by unfold fre;simp only;omega,.inr rfl⟩
      refine ⟨R,f,?_,hR⟩
      rw [c1] at hii
      simp only [fre] at this
      simp only [iF] at this ⊢;rw [aj jD.eq_1]
      simp at this
      simp (disch:=omega) [h1,c2,hii,hfr,hfit,aG,wU8,H.inl,ay,H.pp,ppB,this]
  · have c1':0 < itE ks 12 l[i] false:=by omega
    obtain ⟨R,f,this,hR⟩:=ih (i+1) (by omega) G hne (by omega) hge (by
     refine List.Nodup.sublist ?_ hn;exact List.Sublist.append (List.Sublist.refl _) (List.sublist_cons_self _ _))
    refine ⟨R,f,?_,hR⟩
    generalize itE ks 12 l[i] false=E at *
    simp only [iF] at this ⊢;rw [aj jD.eq_1]
    simp at this
    simp (disch:=omega) [h1,c1',hii,aG,H.inl,ay,H.pp,ppB,this]
theorem agx (H:vI C) (ks:List Kd) (hks:Wx ks) (l:List It) (le:Bool) (hl:l.length≤12) (hg:∀ x ∈ l,Good x) (q:List Q4) (qe:Bool) (z:List Int) (ze:Bool) (hz:∀ s ∈ z,0≤s∧s≤255) (hzl:z.length < 9223372036854775808) (r:Int):∀ n i,n+i=l.length →
 (bF []++(l.drop i).map It.k).Nodup →
 ∃ (R:List En) (f:Bool),iF C ⟨[(7,.int .i64 i),(6,.ptr 0 0 0),(5,.ro 4 (l.map cIt) le),(4,.ptr 1 0 0),(3,.ptr 2 0 0),(2,.ptr 3 0 0),(1,.ptr 4 0 0)],[(0,.cells 1 [[.ro 6 [] true]] true true),(1,.cells 2 [[.ro 9 (ks.map eKd) true,.int .i64 12]] true true),(2,.cells 1 [[.ro 6 [] true]] true true),(3,.cells 2 [[.ro 9 [] true,.int .i64 0]] true true),(4,.cells 3 [[.ro 4 (q.map eQ) qe,.ro 1 (z.map eU8) ze,.int .u8 r]] true true)],5⟩=some (.tup [aR ks true 12,aL R f])∧R.length≤12∧(∀ e ∈ R,ng ks e)∧(bF R).Nodup:=by
 intro n
 induction n with
 | zero =>
  intro i hi  hn
  have h1:l.drop i=[]:=List.drop_eq_nil_of_le (by omega)
  have h3:¬ i < l.length:=by omega
  refine ⟨[],true,?_,by simp,by simp,by simp⟩
  simp only [iF];rw [aj jD.eq_1]
  simp [aj Ea.eq_1,h3]
 | succ n ih =>
  intro i hi  hn
  have h1:i < l.length:=by omega
  have gx:=hg _ (List.getElem_mem h1)
  have hii:=yU H.toAq ks true 12 l[i] gx.it hks.r false
  have hfr:=xA H.toAq ks true 12 l[i] gx.it (by have:=gx.t;have:=hks.l;omega)
  have hbase:=hks.b l[i].t gx.t.1 gx.t.2
  rw [drop_cons h1,List.map_cons] at hn
  simp only [aR,eIt,Bool.false_eq_true,if_false] at hii
  simp only [aR,eIt,aE,eEn,fre] at hfr
  have hE0:0≤itE ks 12 l[i] false:=by unfold itE;repeat (first | omega | split)
  by_cases c1:itE ks 12 l[i] false=0
  · have step:∀ e:En,e.i=l[i]→ng ks e→∃ (R:List En) (f:Bool),iF C ⟨[(7,.int .i64 ((i:Int)+1)),(6,.ptr 0 0 0),(5,.ro 4 (l.map cIt) le),(4,.ptr 2 0 0),(3,.ptr 3 0 0),(2,.ptr 4 0 0),(1,.ptr 5 0 0)],[(0,.cells 1 [[.sl 1 6 0 1 1 false]] true false),(1,.cells 6 [eEn e] true true),(2,.cells 2 [[.ro 9 (ks.map eKd) true,.int .i64 12]] true true),(3,.cells 1 [[.ro 6 [] true]] true true),(4,.cells 2 [[.ro 9 [] true,.int .i64 0]] true true),(5,.cells 3 [[.ro 4 (q.map eQ) qe,.ro 1 (z.map eU8) ze,.int .u8 r]] true true)],6⟩=some (.tup [aR ks true 12,aL R f])∧R.length≤12∧(∀ e ∈ R,ng ks e)∧(bF R).Nodup:=by
     intro e he hge2
     have:=ajQ H ks hks l le hl hg q qe z ze hz hzl r n (i+1) (by omega) [e] (by simp) (by simp) (by simpa using hge2) (by simpa [bF,he] using hn)
     simpa using this
    by_cases c2:0 < z.length
    · by_cases c3:(0:Int) < z[0]
      · have hzz:=hz _ (List.getElem_mem c2)
        have hm:z[0].tmod 40=z[0] % 40:=Int.tmod_eq_emod_of_nonneg hzz.1
        have hm1:(0:Int)≤z[0] % 40:=Int.emod_nonneg _ (by omega)
        have hm2:z[0] % 40 < 40:=Int.emod_lt_of_pos _ (by omega)
        obtain ⟨R,f,this,hR⟩:=step ⟨l[i],1+z[0] % 40,true⟩ rfl ⟨gx,c1,by simp only;omega,.inl rfl⟩
        refine ⟨R,f,?_,hR⟩
        rw [c1] at hii
        generalize z[0] % 40=M at *
        simp only [iF] at this ⊢;rw [aj jD.eq_1]
        simp at this
        simp (disch:=omega) [h1,c2,c3,hm,hii,hfr,aG,wU8,H.inl,ay,H.pp,ppB,this]
      · obtain ⟨R,f,this,hR⟩:=step (fre ks l[i]) rfl ⟨gx,c1,by unfold fre;simp only;omega,.inr rfl⟩
        refine ⟨R,f,?_,hR⟩
        rw [c1] at hii
        simp only [fre] at this
        simp only [iF] at this ⊢;rw [aj jD.eq_1]
        simp at this
        simp (disch:=omega) [h1,c2,c3,hii,hfr,aG,wU8,H.inl,ay,H.pp,ppB,this]
    · obtain ⟨R,f,this,hR⟩:=step (fre ks l[i]) rfl ⟨gx,c1,by unfold fre;simp only;omega,.inr rfl⟩
      refine ⟨R,f,?_,hR⟩
      rw [c1] at hii
      simp only [fre] at this
      simp only [iF] at this ⊢;rw [aj jD.eq_1]
      simp at this
      simp (disch:=omega) [h1,c2,hii,hfr,aG,wU8,H.inl,ay,H.pp,ppB,this]
  · have c1':0 < itE ks 12 l[i] false:=by omega
    obtain ⟨R,f,this,hR⟩:=ih (i+1) (by omega) (by
     simp only [bF,List.map_nil,List.nil_append] at hn ⊢;exact (List.nodup_cons.1 hn).2)
    refine ⟨R,f,?_,hR⟩
    generalize itE ks 12 l[i] false=E at *
    simp only [iF] at this ⊢;rw [aj jD.eq_1]
    simp at this
    simp (disch:=omega) [h1,c1',hii,aG,H.inl,ay,H.pp,ppB,this]
theorem ahX (H:vI C) (hone:∀ q:Q4,QIn q→∃ i:It,FnW C 422 [.agg (eQ q)]=some (eIt i)∧Good i) (q:List Q4) (qe:Bool) (hq:∀ x ∈ q,QIn x) (z:List Int) (ze:Bool) (hz:∀ s ∈ z,0≤s∧s≤255) (hzl:z.length < 9223372036854775808) (r:Int) (hr:0≤r∧r≤255) :
 ∃ (R:List En) (f:Bool),FnW C 130 [.agg [.ro 4 (q.map eQ) qe,.ro 1 (z.map eU8) ze,.int .u8 r]]=some (.tup [aR (eP r) true 12,aL R f])∧R.length≤12∧(∀ e ∈ R,ng (eP r) e)∧(bF R).Nodup:=by
 obtain ⟨I,hI,l1,l2,l3⟩:=ZI H hone q qe hq
 have hk:=aa9 H r hr
 obtain ⟨R,f,h,hR⟩:=agx H (eP r) (agY r hr) I false l1 l2 q qe z ze hz hzl r I.length 0 (by simp) (by simpa [bF] using l3)
 refine ⟨R,f,?_,hR⟩
 rw [aF H.f130 rfl]
 generalize eP r=ks at *
 simp only [iF] at h
 simp at h
 simp [ac7,hI,hk,h,H.inl,ay,H.pp,ppB]
mutual
theorem Uj (i:It):∀ p:Pt,mk i.own p=mk i p
 | ⟨k,t,y,s,se,tx,ch,ce⟩=>by rw [mk,mk,UL i ch];rfl
theorem UL (i:It):∀ l:List Pt,mks i.own l=mks i l
 | []=>rfl
 | p::r=>by rw [mks,mks,Uj i p,UL i r]
end
theorem PV (ks:List Kd) (hb:∀ t:Int,0≤t→t≤2→1≤(dG ks t).b∧(dG ks t).b≤30):∀ (l:List En) (s:List Int),(∀ e ∈ l,ng ks e)→(s++bF l).Nodup→chk ks 12 s l=0
 | [],_,_,_=>rfl
 | e::r,s,hg,hn=>by
  have h1:=hg e (by simp)
  have h2:s.contains e.i.k=false:=by
   simp only [bF,List.map_cons] at hn
   have:=(List.nodup_append.1 hn).2.2
   simp only [List.contains_eq_mem,decide_eq_false_iff_not]
   intro q
   exact this _ q _ (by simp) rfl
  have h3:enE ks 12 e false=0:=by
   unfold enE
   rw [h1.ok]
   have hh:hOk e.s=true:=by unfold hOk;have:=h1.s;simp;omega
   simp [hh,h1.b]
  rw [chk,h2,h3]
  simp only [ne_eq,not_true_eq_false,if_false]
  refine PV ks hb r _ (fun x hx=>hg x (by simp [hx])) ?_
  simpa [bF] using hn
theorem Og (ks:List Kd):∀ (l:List En) (s:Int),(∀ e ∈ l,ng ks e)→0≤s→s+40 * l.length≤4611686018427387904→pJ s l≤s+40 * l.length
 | [],s,_,_,_=>by simp [pJ]
 | e::r,s,hg,h0,h=>by
  have h1:=(hg e (by simp)).s
  have h2:imax e.s 0=e.s:=Lj (by omega)
  simp only [List.length_cons] at h ⊢
  rw [pJ,h2,if_neg (by omega)]
  have:=Og ks r (s+e.s) (fun x hx=>hg x (by simp [hx])) (by omega) (by omega)
  omega
theorem adu (r:Int) (hr:0≤r∧r≤255) (l:List En) (hl:l.length≤1024) (hg:∀ e ∈ l,ng (eP r) e) (hn:(bF l).Nodup):ckE (eP r) 12 l=0:=by
 have h1:=PV (eP r) (fun t a b=>U1 r hr t ⟨a,b⟩) l [] hg (by simpa using hn)
 have h2:=Og (eP r) l 0 hg (by omega) (by omega)
 have h3:ovE l=0:=by unfold ovE tot;rw [if_neg (by omega)]
 unfold ckE
 rw [alp r hr,h1,if_neg (by simp),if_neg (by omega),if_neg (by simp),h3]
theorem ng.en {ks:List Kd} {e:En} (h:ng ks e):eF e:=⟨h.i.it,by have:=h.s;omega⟩
theorem ng.ow {ks:List Kd} {e:En} (h:ng ks e):ng ks e.own:=by
 refine ⟨⟨h.i.k,h.i.t,h.i.x,h.i.l,h.i.m⟩,?_,h.s,h.b⟩
 have h1:=h.ok
 have e1:∀ i:It,fF ks.length i.own=fF ks.length i:=fun i=>rfl
 have e2:∀ (i:It) (p:Pt),gK p i.own 12=gK p i 12:=by
  intro i p
  have:mkN i.own p=mkN i p:=by
   have m1:∀ p,Go.D.mk i.own p=Go.D.mk i p:=by
    intro p
    exact (Uj i p)
   unfold mkN;rw [m1]
  unfold gK;rw [this];rfl
 unfold itE at h1 ⊢
 simp only [En.own,e1,e2]
 exact h1
end Go.D
end
section
end
section
namespace Go.D
open Go Go.Pav Go.Pw P
def sm:List En→Int
 | []=>0
 | e::r=>e.s+sm r
def top (l:List En) (i:Nat):Int:=sm (l.take i)
theorem Jd (l:List En):top l 0=0:=rfl
theorem abG:∀ (a b:List En),sm (a++b)=sm a+sm b
 | [],b=>by simp [sm]
 | e::r,b=>by simp only [List.cons_append,sm];rw [abG r b];omega
theorem Bq {l:List En} {i:Nat} (h:i < l.length):top l (i+1)=top l i+l[i].s:=by
 unfold top
 rw [List.take_add_one,List.getElem?_eq_getElem h,abG]
 simp [sm]
theorem AQ (l:List En):top l l.length=sm l:=by unfold top;rw [List.take_length]
theorem aip {l:List En} {i:Nat} (h:l.length≤i):top l i=sm l:=by unfold top;rw [List.take_of_length_le h]
def szE (l:List En):Int:=if 1024 < l.length then 3 else if l.any (fun e=>!hOk e.s) then 12 else ovE l
structure Szd (l:List En):Prop where
 n:l.length≤1024
 s:∀ x ∈ l,1≤x.s∧x.s≤2305843009213693952
 t:sm l≤4611686018427387904
theorem Z5:∀ (l:List En),(∀ x ∈ l,1≤x.s)→0≤sm l
 | [],_=>by simp [sm]
 | e::r,h=>by
  have h1:=h e (by simp)
  have h2:=Z5 r fun x hx=>h x (by simp [hx])
  rw [sm];omega
theorem MO:∀ (l:List En) (s:Int),(∀ x ∈ l,1≤x.s)→s≤4611686018427387904 →
 (s+sm l≤4611686018427387904∧pJ s l=s+sm l)∨(4611686018427387904 < s+sm l∧pJ s l=4611686018427387905)
 | [],s,_,h=>by left;simp [sm,pJ,h]
 | e::r,s,hs,h=>by
  have h1:=hs e (by simp)
  have h2:=Z5 r fun x hx=>hs x (by simp [hx])
  have h3:imax e.s 0=e.s:=Lj (by omega)
  rw [pJ,sm,h3]
  by_cases c:4611686018427387904 - s < e.s
  · right;rw [if_pos c];omega
  · rw [if_neg c]
    have:=MO r (s+e.s) (fun x hx=>hs x (by simp [hx])) (by omega)
    rw [← Int.add_assoc];exact this
theorem Uy (n:Int):hOk n=true↔1≤n∧n≤2305843009213693952:=by unfold hOk;simp
theorem aaD {l:List En} (h:szE l=0):Szd l:=by
 unfold szE at h
 by_cases c1:1024 < l.length
 · rw [if_pos c1] at h;omega
 · rw [if_neg c1] at h
   by_cases c2:l.any (fun e=>!hOk e.s)=true
   · rw [if_pos c2] at h;omega
   · rw [if_neg c2] at h
     have hs:∀ x ∈ l,1≤x.s∧x.s≤2305843009213693952:=by
      intro x hx
      rw [← Uy]
      simp only [List.any_eq_true,not_exists,not_and] at c2
      simpa using c2 x hx
     refine ⟨by omega,hs,?_⟩
     rcases MO l 0 (fun x hx=>(hs x hx).1) (by omega) with q | q
     · omega
     · unfold ovE tot at h
       rw [q.2] at h
       simp at h
theorem Szd.tot {l:List En} (h:Szd l):tot l=sm l:=by
 unfold Go.D.tot
 have h2:=h.t
 rcases MO l 0 (fun x hx=>(h.s x hx).1) (by omega) with q | q
 · omega
 · omega
theorem Ny {l:List En} (h:Szd l):szE l=0:=by
 have h1:=h.n
 have h2:=h.t
 have h3:ovE l=0:=by unfold ovE;rw [h.tot,if_neg (by omega)]
 unfold szE
 rw [if_neg (by omega),h3,if_neg]
 intro c
 obtain ⟨x,hx,c⟩:=List.any_eq_true.1 c
 have:=(Uy x.s).2 (h.s x hx)
 rw [this] at c
 cases c
theorem Szd.nn {l:List En} (h:Szd l):0≤sm l:=Z5 l fun x hx=>(h.s x hx).1
theorem Szd.lt {l:List En} (h:Szd l) {i:Nat} (hi:i < l.length):top l i+1≤top l (i+1):=by
 rw [Bq hi]
 have:=(h.s _ (List.getElem_mem hi)).1
 omega
theorem Szd.mono {l:List En} (h:Szd l) {i:Nat}:∀ {j:Nat},i≤j→j≤l.length→top l i+((j:Int) - i)≤top l j:=by
 intro j hij
 induction j with
 | zero =>
  intro _;have:i=0:=by omega
  subst this;simp
 | succ j ih =>
  intro hj
  by_cases c:i=j+1
  · subst c;omega
  · have h1:=ih (by omega) (by omega)
    have h2:=h.lt (i:=j) (by omega)
    omega
theorem Szd.rng {l:List En} (h:Szd l) (i:Nat):0≤top l i∧top l i≤sm l:=by
 by_cases c:i≤l.length
 · have h1:=h.mono (i:=0) (j:=i) (by omega) c
   have h2:=h.mono (i:=i) (j:=l.length) c (by omega)
   rw [Jd] at h1
   rw [AQ] at h2
   omega
 · rw [aip (by omega)];have:=h.nn;omega
theorem Szd.small {l:List En} (h:Szd l) (i:Nat):-9223372036854775808≤top l i∧top l i≤4611686018427387904:=by
 have:=h.rng i
 have:=h.t
 omega
def aed (l:List En) (x:Int):Nat→Nat→Int
 | 0,_=>-1
 | n+1,i=>if top l i≤x∧x < top l (i+1) then i else aed l x n (i+1)
def rowA (l:List En) (x:Int):Int:=aed l x l.length 0
theorem Szd.agF {l:List En} (h:Szd l) {x:Int} {p:Nat} (hp:p < l.length) (h1:top l p≤x) (h2:x < top l (p+1)):∀ n i,n+i=l.length→i≤p→aed l x n i=p:=by
 intro n
 induction n with
 | zero=>intro i hi hip;omega
 | succ n ih =>
  intro i hi hip
  rw [aed]
  by_cases c:i=p
  · subst c;rw [if_pos ⟨h1,h2⟩]
  · have:=h.mono (i:=i+1) (j:=p) (by omega) (by omega)
    rw [if_neg (by omega)]
    exact ih (i+1) (by omega) (by omega)
theorem Szd.Uo {l:List En} (h:Szd l) {x:Int} {p:Nat} (hp:p < l.length) (h1:top l p≤x) (h2:x < top l (p+1)):rowA l x=p:=h.agF hp h1 h2 _ _ (by simp) (by omega)
theorem Szd.row {l:List En} (h:Szd l) {x:Int} (h0:0≤x) (h1:x < sm l):∃ p,p < l.length∧top l p≤x∧x < top l (p+1):=by
 have key:∀ n,n≤l.length→top l n≤x∨∃ p,p < n∧top l p≤x∧x < top l (p+1):=by
  intro n
  induction n with
  | zero=>intro _;left;rw [Jd];exact h0
  | succ n ih =>
   intro hn
   rcases ih (by omega) with q | ⟨p,q1,q2⟩
   · by_cases c:top l (n+1)≤x
     · exact .inl c
     · exact .inr ⟨n,by omega,q,by omega⟩
   · exact .inr ⟨p,by omega,q2⟩
 rcases key l.length (by omega) with q | ⟨p,q⟩
 · rw [AQ] at q;omega
 · exact ⟨p,q⟩
def iP (l:List En) (v:Int):Int:=if sm l < v then 0 else sm l - v
structure Vp (l:List En) (o v:Int):Prop extends Szd l where
 v0:1≤v∧v≤2147483648
 s0:0≤o∧o≤iP l v
theorem Vp.ends {l:List En} {s v:Int} (h:Vp l s v) (hl:0 < l.length):∃ p q:Nat,p < l.length∧q < l.length∧p≤q∧(top l p≤s∧s < top l (p+1))∧(top l q≤ru (s+v) (sm l) - 1∧ru (s+v) (sm l) - 1 < top l (q+1)):=by
 have h1:=h.v0
 have h2:=h.s0
 have h3:1≤sm l:=by
  have:=h.mono (i:=0) (j:=l.length) (by omega) (by omega)
  rw [Jd,AQ] at this;omega
 have h4:s < sm l:=by unfold iP at h2;split at h2 <;> omega
 have h5:s+1≤ru (s+v) (sm l)∧ru (s+v) (sm l)≤sm l:=by unfold ru;split <;> omega
 obtain ⟨p,p1,p2,p3⟩:=h.row h2.1 h4
 obtain ⟨q,q1,q2,q3⟩:=h.row (x:=ru (s+v) (sm l) - 1) (by omega) (by omega)
 refine ⟨p,q,p1,q1,?_,⟨p2,p3⟩,q2,q3⟩
 by_cases c:p≤q
 · exact c
 · have:=h.mono (i:=q+1) (j:=p) (by omega) (by omega)
   omega
theorem Vp.seen {l:List En} {s v:Int} (h:Vp l s v) {p q:Nat} (hp:p < l.length) (hq:q < l.length) (h1:top l p≤s∧s < top l (p+1)) (h2:top l q≤ru (s+v) (sm l) - 1∧ru (s+v) (sm l) - 1 < top l (q+1)) {i:Nat} (hi:i < l.length) :
 (top l i < s+v∧s < top l (i+1))↔(p≤i∧i≤q):=by
 have e1:ru (s+v) (sm l)≤s+v:=by unfold ru;split <;> omega
 have hm:=h.rng (i+1)
 have hlt:=h.lt hi
 constructor
 · rintro ⟨a,b⟩
   constructor
   · by_cases c:p≤i
     · exact c
     · have:=h.mono (i:=i+1) (j:=p) (by omega) (by omega);omega
   · by_cases c:i≤q
     · exact c
     · have:=h.mono (i:=q+1) (j:=i) (by omega) (by omega)
       have e2:s+v≤top l i:=by
        unfold ru at h2;split at h2 <;> omega
       omega
 · rintro ⟨a,b⟩
   have m1:=h.mono (i:=i) (j:=q) b (by omega)
   have m2:=h.mono (i:=p+1) (j:=i+1) (by omega) (by omega)
   omega
end Go.D
end
section
namespace Go.D
open Go Go.Pav Go.Pw P
attribute [-simp] List.getElem_cons_drop
variable {C:aI}
structure o8 (C:aI):Prop extends kC C where
 f122:C.fns.get 122=some Yi
 f249:C.fns.get 249=some ae2
 f250:C.fns.get 250=some XD
 f246:C.fns.get 246=some acJ
 f247:C.fns.get 247=some adR
 al9:C.fns.get 411=some adk
 ak1:C.fns.get 412=some afK
 f120:C.fns.get 120=some Ud
 f253:C.fns.get 253=some afA
 f327:C.fns.get 327=some acy
def SzB (l:List En):Prop:=∀ x ∈ l,-9223372036854775808≤x.s∧x.s≤9223372036854775807
def szF:Nat→List En→Int
 | _,[]=>-1
 | i,e::r=>if hOk e.s=true then szF (i+1) r else i
theorem Vu:∀ (l:List En) (i:Nat),decide (0≤szF i l)=l.any (fun e=>!hOk e.s)
 | [],i=>by simp [szF]
 | e::r,i=>by
  rw [szF,List.any_cons]
  cases c:hOk e.s
  · simp
  · simp [Vu r (i+1)]
theorem abD (H:o8 C) (x:En):FnW C 250 [aE x]=some (.bool (!hOk x.s)):=by
 rw [aF H.f250 rfl]
 unfold hOk
 by_cases c1:1≤x.s
 · have c1':¬ x.s < 1:=by omega
   by_cases c2:x.s≤2305843009213693952
   · have c2':¬ 2305843009213693952 < x.s:=by omega
     simp [XD,c1,c1',c2,c2']
   · have c2':2305843009213693952 < x.s:=by omega
     simp [XD,c1,c1',c2,c2']
 · have c1':x.s < 1:=by omega
   simp [XD,c1,c1']
theorem SX (H:o8 C) (l:List En) (e:Bool) (hl:l.length≤1000000):∀ n i,n+i=l.length →
 mW C ⟨[(8,.int .i64 i),(7,.int .i64 l.length),(1,.fn 250 []),(0,.ro 6 (l.map eEn) e)],[],0⟩=some (.int .i64 (szF i (l.drop i))):=by
 intro n
 induction n with
 | zero =>
  intro i hi
  simp only [mW];rw [aj nX.eq_1]
  have h1:l.drop i=[]:=List.drop_eq_nil_of_le (by omega)
  have h3:¬ i < l.length:=by omega
  simp (disch:=omega) [aj Ez.eq_1,h1,h3,szF]
 | succ n ih =>
  intro i hi
  have h1:i < l.length:=by omega
  have hf:=abD H l[i]
  have:=ih (i+1) (by omega)
  rw [drop_cons h1,szF]
  simp only [aE,eEn] at hf
  cases c:hOk l[i].s
  · rw [if_neg (by simp)]
    simp [c] at hf
    simp only [mW];rw [aj nX.eq_1]
    simp (disch:=omega) [h1,aG,hf,H.inl,ay,H.pp,ppB]
  · rw [if_pos rfl]
    simp [c] at hf
    simp only [mW] at this ⊢;rw [aj nX.eq_1]
    simp at this
    simp (disch:=omega) [h1,aG,hf,H.inl,ay,H.pp,ppB,this]
theorem abQ (H:o8 C) (l:List En) (e:Bool) (hl:l.length≤1000000):FnW C 249 [.ro 6 (l.map eEn) e,.fn 250 []]=some (.bool (l.any fun e=>!hOk e.s)):=by
 have h:=SX H l e hl l.length 0 (by simp)
 have key:FnW C 402 [.ro 6 (l.map eEn) e,.fn 250 []]=some (.int .i64 (szF 0 l)):=by
  simp only [mW] at h
  simp at h
  rw [aF H.aeu rfl]
  simp [ab7,h]
 have h2:=Vu l 0
 rw [aF H.f249 rfl,← h2]
 simp [ae2,key,H.inl,ay,H.pp,ppB]
theorem Bf (H:o8 C) (l:List En) (e:Bool) (hl:l.length≤1000000) (hs:SzB l):FnW C 122 [aL l e]=some (.int .i64 (szE l)):=by
 have h1:=abQ H l e hl
 have h2:=yP H.tokC l e hl hs
 rw [aF H.f122 rfl]
 unfold szE ovE
 generalize tot l=T at *
 by_cases c1:1024 < l.length
 · simp [Yi,c1]
 · cases c2:l.any fun e=>!hOk e.s
   · rw [c2] at h1
     by_cases c3:4611686018427387904 < T <;> simp [Yi,c1,h1,h2,c3,H.inl,ay,H.pp,ppB]
   · rw [c2] at h1
     simp [Yi,c1,h1,h2,H.inl,ay,H.pp,ppB]
def tps (l:List En):List Int:=(List.range (l.length+1)).map (top l)
theorem nZ (l:List En):(tps l).length=l.length+1:=by simp [tps]
theorem Ei (l:List En) {i:Nat} (h:i < (tps l).length):(tps l)[i]=top l i:=by simp [tps]
theorem WH (H:o8 C) (l:List En) (e:Bool) (hz:Szd l):∀ n i,n+i=l.length→∀ G:List Int,G=(List.range (i+1)).map (top l)→G.length=i+1 →
 Es C ⟨[(20,.int .i64 i),(19,.int .i64 l.length),(5,.sl 0 1 0 (l.length+1) (l.length+1) true),(1,.ptr 1 0 0)],[(0,.cells 1 (G.map eI++List.replicate n [.int .i64 0]) true true),(1,.cells 1 [[.ro 6 (l.map eEn) e]] true true)],2⟩ =
  some (.tup [.ro 1 ((tps l).map eI) true,.int .i64 0]):=by
 intro n
 induction n with
 | zero =>
  intro i hi G hG hGl
  have h3:¬ i < l.length:=by omega
  have h6:List.take (l.length+1) (List.map eI G)=List.map eI G:=List.take_of_length_le (by simp;omega)
  have h7:G.length=l.length+1:=by omega
  have h8:tps l=G:=by rw [hG];unfold tps;rw [show i=l.length by omega]
  rw [h8]
  simp only [Es];rw [aj Ad.eq_1]
  simp [aj LH.eq_1,h3,h6,h7]
 | succ n ih =>
  intro i hi G hG hGl
  have hn:=hz.n
  have h1:i < l.length:=by omega
  have hr:=hz.small i
  have hr2:=hz.small (i+1)
  have this:=ih (i+1) (by omega) (G++[top l (i+1)]) (by rw [List.range_succ,List.map_append,← hG];rfl) (by simp [hGl])
  have hg:(G.map eI++List.replicate (n+1) [AV.int .i64 0])[i]?=some (eI (top l i)):=by
   rw [List.getElem?_append_left (by simp;omega),List.getElem?_map,hG]
   simp
  have h1b:i < l.length+1:=by omega
  rw [Bq h1] at hr2 this
  simp only [Es] at this ⊢;rw [aj Ad.eq_1]
  simp at this
  simp (disch:=omega) [h1,h1b,aG,hg,Bg,Am,hGl,this]
end Go.D
end
