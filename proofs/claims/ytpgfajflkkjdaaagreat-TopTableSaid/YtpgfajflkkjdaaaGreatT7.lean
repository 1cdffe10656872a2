/- Part of the theory that the claims of this work use: O09, O10, O11, O12, O13, S02, O14, O15, O16, O17. No conditions of its own. -/
import Derived.Test.YtpgfajflkkjdaaaGreatT6
set_option linter.unusedVariables false
set_option linter.unusedSimpArgs false
set_option maxHeartbeats 4000000
set_option maxRecDepth 10000
section
namespace Go.O
open Go Go.Pav Go.Pw P Go.D
attribute [-simp] List.getElem_cons_drop
attribute [-simp] splice fillC AV.cells AV.cell AV.isAg isC
variable {C:WProg}
abbrev mS (κ:Nat) (a b:List (Nat × Nat)) (f g:Bool) (p i k:Nat) (o:AV) (hp:WHeap) (nx:Nat):WSt:=⟨[(12,.int .i64 k),(11,.int .i64 i),(10,.int .i64 p),(9,o),(2,.fn κ []),(1,.ro 2 (b.map eS) g),(0,.ro 2 (a.map eS) f)],hp,nx⟩
section
variable (κ:Nat) (a b:List (Nat × Nat)) (f g:Bool) (p i k:Nat) (X:List (Nat × Nat)) (o:AV) (hp:WHeap) (nx:Nat)
theorem k0_k2 (hS:Sh o hp nx X):w477_K0 C (mS κ a b f g p i k o hp nx)=w477_K2 C (mS κ a b f g p i k o hp nx):=by
 simp only [w477_K0,w477_K2,mS]
 rcases hS with ⟨rfl,rfl,rfl,rfl⟩ | ⟨Y,l,rfl,rfl,rfl,rfl⟩
 · rw [ck_unf w477_B0.eq_1]
   simp
 · rw [ck_unf w477_B0.eq_1]
   simp
theorem k2_step (hi:i < a.length) (hc:a[i].2≤p) (hl:a.length≤4096) (hS:Sh o hp nx X):w477_K2 C (mS κ a b f g p i k o hp nx)=w477_K2 C (mS κ a b f g p (i+1) k o hp nx):=by
 obtain ⟨R,hR⟩:∃ R,w477_K2 C (mS κ a b f g p (i+1) k o hp nx)=R:=⟨_,rfl⟩
 rw [hR]
 simp only [w477_K2,mS] at hR ⊢
 rcases hS with ⟨rfl,rfl,rfl,rfl⟩ | ⟨Y,l,rfl,rfl,rfl,rfl⟩
 · rw [ck_unf w477_B2.eq_1]
   simp at hR
   simp (disch:=omega) [hi,hc,hR,wI64]
 · rw [ck_unf w477_B2.eq_1]
   simp at hR
   simp (disch:=omega) [hi,hc,hR,wI64]
theorem k2_end (hc:∀ hi:i < a.length,¬ a[i].2≤p) (hS:Sh o hp nx X):w477_K2 C (mS κ a b f g p i k o hp nx)=w477_K1 C (mS κ a b f g p i k o hp nx):=by
 obtain ⟨R,hR⟩:∃ R,w477_K1 C (mS κ a b f g p i k o hp nx)=R:=⟨_,rfl⟩
 rw [hR]
 simp only [w477_K1,w477_K2,mS] at hR ⊢
 rcases hS with ⟨rfl,rfl,rfl,rfl⟩ | ⟨Y,l,rfl,rfl,rfl,rfl⟩
 · rw [ck_unf w477_B2.eq_1]
   by_cases hi:i < a.length
   · have:=hc hi
     simp (disch:=omega) [hi,this,hR,ck_unf w477_c2.eq_1,wI64]
   · simp (disch:=omega) [hi,hR,ck_unf w477_c2.eq_1,wI64]
 · rw [ck_unf w477_B2.eq_1]
   by_cases hi:i < a.length
   · have:=hc hi
     simp (disch:=omega) [hi,this,hR,ck_unf w477_c2.eq_1,wI64]
   · simp (disch:=omega) [hi,hR,ck_unf w477_c2.eq_1,wI64]
theorem k1_step (hi:k < b.length) (hc:b[k].2≤p) (hl:b.length≤4096) (hS:Sh o hp nx X):w477_K1 C (mS κ a b f g p i k o hp nx)=w477_K1 C (mS κ a b f g p i (k+1) o hp nx):=by
 obtain ⟨R,hR⟩:∃ R,w477_K1 C (mS κ a b f g p i (k+1) o hp nx)=R:=⟨_,rfl⟩
 rw [hR]
 simp only [w477_K1,mS] at hR ⊢
 rcases hS with ⟨rfl,rfl,rfl,rfl⟩ | ⟨Y,l,rfl,rfl,rfl,rfl⟩
 · rw [ck_unf w477_B1.eq_1]
   simp at hR
   simp (disch:=omega) [hi,hc,hR,wI64]
 · rw [ck_unf w477_B1.eq_1]
   simp at hR
   simp (disch:=omega) [hi,hc,hR,wI64]
theorem k1_exit (H:HasM C) (hi:i=a.length) (hk:k=b.length) (hX:X.length≤4096) (hS:Sh o hp nx X):w477_K1 C (mS κ a b f g p i k o hp nx)=some (.tup [.ro 2 (X.map eS) true,.int .i64 0]):=by
 have hd:=fun f=>done_ok H.toHasC X f hX
 subst hi hk
 simp only [w477_K1,mS]
 rcases hS with ⟨rfl,rfl,rfl,rfl⟩ | ⟨Y,l,rfl,rfl,rfl,rfl⟩
 · rw [ck_unf w477_B1.eq_1]
   simp at hd
   simp (disch:=omega) [ck_unf w477_c1.eq_1,ck_unf w477_c0.eq_1,hd,wI64,H.inl,inlB,H.pp,ppB]
 · rw [ck_unf w477_B1.eq_1]
   simp at hd
   simp (disch:=omega) [ck_unf w477_c1.eq_1,ck_unf w477_c0.eq_1,take_all,hd,wI64,H.inl,inlB,H.pp,ppB]
end
theorem k2_pos (κ:Nat) (a b:List (Nat × Nat)) (f g:Bool) (p k:Nat) (X:List (Nat × Nat)) (o:AV) (hp:WHeap) (nx:Nat) (hl:a.length≤4096) (hS:Sh o hp nx X):∀ n i,n+i=pos p a→w477_K2 C (mS κ a b f g p i k o hp nx)=w477_K1 C (mS κ a b f g p (pos p a) k o hp nx):=by
 intro n
 induction n with
 | zero =>
  intro i hi
  obtain rfl:i=pos p a:=by omega
  exact k2_end κ a b f g p _ k X o hp nx (fun hi=>by have:=pos_at hi;omega) hS
 | succ n ih =>
  intro i hi
  have hle:=pos_le p a
  rw [k2_step κ a b f g p i k X o hp nx (by omega) (pos_lt (by omega) (by omega)) hl hS]
  exact ih (i+1) (by omega)
theorem k1_pos (κ:Nat) (a b:List (Nat × Nat)) (f g:Bool) (p i:Nat) (X:List (Nat × Nat)) (o:AV) (hp:WHeap) (nx:Nat) (hl:b.length≤4096) (hS:Sh o hp nx X):∀ n k,n+k=pos p b→w477_K1 C (mS κ a b f g p i k o hp nx)=w477_K1 C (mS κ a b f g p i (pos p b) o hp nx):=by
 intro n
 induction n with
 | zero=>intro k hk;rw [show k=pos p b by omega]
 | succ n ih =>
  intro k hk
  have hle:=pos_le p b
  rw [k1_step κ a b f g p i k X o hp nx (by omega) (pos_lt (by omega) (by omega)) hl hS]
  exact ih (k+1) (by omega)
theorem nx_some {lo p:Nat} {L:List (Nat × Nat)} (hv:SV lo L) (h:pos p L < L.length):∃ (x:Bool) (e:Nat),decide ((L[pos p L]'h).1≤p)=x∧(if (L[pos p L]'h).1≤p then (L[pos p L]'h).2 else (L[pos p L]'h).1)=e∧p < e∧e≤(L[pos p L]'h).2∧∀ j,p≤j→j < e→L.any (inB j)=x:=by
 have h1:=pos_at h
 have h2:=(hv.ge _ (List.getElem_mem h)).2
 by_cases c:(L[pos p L]'h).1≤p
 · refine ⟨true,_,decide_eq_true c,if_pos c,h1,Nat.le_refl _,fun j hj1 hj2=>?_⟩
   exact (inS_any L j).2 (nxt_in h c j hj1 hj2)
 · refine ⟨false,_,decide_eq_false c,if_neg c,by omega,by omega,fun j hj1 hj2=>?_⟩
   have:=nxt_out hv h (by omega) j hj1 hj2
   rw [← inS_any] at this
   simpa using this
theorem nx_none {p:Nat} {L:List (Nat × Nat)} (h:L.length≤pos p L) (j:Nat) (hj:p≤j):L.any (inB j)=false:=by
 have:=nxt_none h j hj
 rw [← inS_any] at this
 simpa using this
theorem sh_ex (X:List (Nat × Nat)):∃ o hp nx,Sh o hp nx X∧∀ o' hp' nx',Sh o' hp' nx' X→o'=o∧hp'=hp∧nx'=nx:=by
 rcases List.eq_nil_or_concat X with rfl | ⟨Y,l,rfl⟩
 · refine ⟨_,_,_,Sh.nil,?_⟩
   rintro o' hp' nx' (⟨_,h1,h2,h3⟩ | ⟨Y,l,h,_⟩)
   · exact ⟨h1,h2,h3⟩
   · simp at h
 · rw [List.concat_eq_append]
   refine ⟨_,_,_,Sh.snoc Y l,?_⟩
   rintro o' hp' nx' (⟨h,_⟩ | ⟨Y',l',h,h1,h2,h3⟩)
   · simp at h
   · obtain ⟨rfl,h4⟩:=List.append_inj' h rfl
     obtain rfl:l=l':=by simpa using h4
     exact ⟨h1,h2,h3⟩
theorem merge_loop (H:HasM C) (κ:Nat) (hκ:κ=478∨κ=479) (K:Bool→Bool→Bool) (hK:∀ x y,FnW C κ [.bool x,.bool y]=some (.bool (K x y))) (hK0:K false false=false) (a b:List (Nat × Nat)) (f g:Bool) (B:Nat) (hB:B≤4096) (ha:SV 0 a) (hb:SV 0 b) (hal:a.length≤4096) (hbl:b.length≤4096) (haB:∀ s ∈ a,s.2≤B) (hbB:∀ s ∈ b,s.2≤B) :
 ∀ m p i k X o hp nx,B - p≤m→p≤B→i≤pos p a→k≤pos p b→RI (fun j=>K (a.any (inB j)) (b.any (inB j))=true) B X p→Sh o hp nx X →
 ∃ R,w477_K0 C (mS κ a b f g p i k o hp nx)=some (.tup [.ro 2 (R.map eS) true,.int .i64 0])∧SV 0 R∧(∀ s ∈ R,s.2≤B)∧∀ j,inS R j↔K (a.any (inB j)) (b.any (inB j))=true:=by
 intro m
 induction m with
 | zero =>
  intro p i k X o hp nx hm hpB hi hk hR hS
  have hlen:=hR.v.len hR.bd
  rw [k0_k2 κ a b f g p i k X o hp nx hS,k2_pos κ a b f g p k X o hp nx hal hS (pos p a - i) i (by omega),k1_pos κ a b f g p _ X o hp nx hbl hS (pos p b - k) k (by omega)]
  have e1:a.length≤pos p a:=by
   rcases Nat.lt_or_ge (pos p a) a.length with q | q
   · have:=pos_at q;have:=haB _ (List.getElem_mem q);omega
   · exact q
  have e2:b.length≤pos p b:=by
   rcases Nat.lt_or_ge (pos p b) b.length with q | q
   · have:=pos_at q;have:=hbB _ (List.getElem_mem q);omega
   · exact q
  have l1:=pos_le p a
  have l2:=pos_le p b
  exact ⟨X,k1_exit κ a b f g p _ _ X o hp nx H (by omega) (by omega) (by omega) hS,hR.v,hR.bd,hR.done fun j hj=>by rw [nx_none e1 j hj,nx_none e2 j hj,hK0];simp⟩
 | succ m ih =>
  intro p i k X o hp nx hm hpB hi hk hR hS
  have hlen:=hR.v.len hR.bd
  rw [k0_k2 κ a b f g p i k X o hp nx hS,k2_pos κ a b f g p k X o hp nx hal hS (pos p a - i) i (by omega),k1_pos κ a b f g p _ X o hp nx hbl hS (pos p b - k) k (by omega)]
  have l1:=pos_le p a
  have l2:=pos_le p b
  have go:∀ (v:Bool) (e:Nat),p < e→e≤B→(∀ j,p≤j→j < e→K (a.any (inB j)) (b.any (inB j))=v)→∃ R,(∀ o hp nx,Sh o hp nx (if v=true then addF X p e else X)→w477_K0 C (mS κ a b f g e (pos p a) (pos p b) o hp nx)=some (.tup [.ro 2 (R.map eS) true,.int .i64 0]))∧SV 0 R∧(∀ s ∈ R,s.2≤B)∧∀ j,inS R j↔K (a.any (inB j)) (b.any (inB j))=true:=by
   intro v e he heB hv
   have hR':RI (fun j=>K (a.any (inB j)) (b.any (inB j))=true) B (if v=true then addF X p e else X) e:=by
    cases v
    · exact hR.skip he fun j j1 j2=>by rw [hv j j1 j2];simp
    · exact hR.keep he heB fun j j1 j2=>hv j j1 j2
   obtain ⟨o',hp',nx',s1,s2⟩:=sh_ex (if v=true then addF X p e else X)
   obtain ⟨R,r1,r2⟩:=ih e (pos p a) (pos p b) _ o' hp' nx' (by omega) (by omega) (pos_mono (by omega) a) (pos_mono (by omega) b) hR' s1
   exact ⟨R,fun o hp nx h=>by obtain ⟨rfl,rfl,rfl⟩:=s2 _ _ _ h;exact r1,r2⟩
  by_cases c1:pos p a < a.length
  · obtain ⟨x,e,x1,x2,x3,x4,x5⟩:=nx_some ha c1
    have hav:=pos_at c1
    have haM:=haB _ (List.getElem_mem c1)
    by_cases c2:pos p b < b.length
    · obtain ⟨y,u,y1,y2,y3,y4,y5⟩:=nx_some hb c2
      have hbv:=pos_at c2
      have hbM:=hbB _ (List.getElem_mem c2)
      by_cases c3:e≤u
      · obtain ⟨R,r1,r2⟩:=go (K x y) e x3 (by omega) fun j j1 j2=>by rw [x5 j j1 j2,y5 j j1 (by omega)]
        exact ⟨R,mD H κ hκ K hK a b f g p _ _ c1 x x1 e x2 (by omega) x3 c2 y y1 u y2 (by omega) y3 c3 hav hbv (by omega) X (by omega) hR.t o hp nx hS _ r1,r2⟩
      · obtain ⟨R,r1,r2⟩:=go (K x y) u y3 (by omega) fun j j1 j2=>by rw [x5 j j1 (by omega),y5 j j1 j2]
        exact ⟨R,mE H κ hκ K hK a b f g p _ _ c1 x x1 e x2 (by omega) x3 c2 y y1 u y2 (by omega) y3 (by omega) hav hbv (by omega) X (by omega) hR.t o hp nx hS _ r1,r2⟩
    · obtain ⟨R,r1,r2⟩:=go (K x false) e x3 (by omega) fun j j1 j2=>by rw [x5 j j1 j2,nx_none (by omega) j j1]
      exact ⟨R,mA H κ hκ K hK a b f g p _ _ c1 x x1 e x2 (by omega) x3 (by omega) hav (by omega) X (by omega) hR.t o hp nx hS _ r1,r2⟩
  · by_cases c2:pos p b < b.length
    · obtain ⟨y,u,y1,y2,y3,y4,y5⟩:=nx_some hb c2
      have hbv:=pos_at c2
      have hbM:=hbB _ (List.getElem_mem c2)
      obtain ⟨R,r1,r2⟩:=go (K false y) u y3 (by omega) fun j j1 j2=>by rw [y5 j j1 j2,nx_none (by omega) j j1]
      exact ⟨R,mB H κ hκ K hK a b f g p _ _ (by omega) c2 y y1 u y2 (by omega) y3 hbv (by omega) X (by omega) hR.t o hp nx hS _ r1,r2⟩
    · exact ⟨X,k1_exit κ a b f g p _ _ X o hp nx H (by omega) (by omega) (by omega) hS,hR.v,hR.bd,hR.done fun j hj=>by rw [nx_none (by omega) j hj,nx_none (by omega) j hj,hK0];simp⟩
theorem merged_ok (H:HasM C) (κ:Nat) (hκ:κ=478∨κ=479) (K:Bool→Bool→Bool) (hK:∀ x y,FnW C κ [.bool x,.bool y]=some (.bool (K x y))) (hK0:K false false=false) (a b:List (Nat × Nat)) (f g:Bool) (B:Nat) (hB:B≤4096) (ha:SV 0 a) (hb:SV 0 b) (haB:∀ s ∈ a,s.2≤B) (hbB:∀ s ∈ b,s.2≤B) :
 ∃ R,FnW C 477 [.ro 2 (a.map eS) f,.ro 2 (b.map eS) g,.fn κ []]=some (.tup [.ro 2 (R.map eS) true,.int .i64 0])∧SV 0 R∧(∀ s ∈ R,s.2≤B)∧∀ j,inS R j↔K (a.any (inB j)) (b.any (inB j))=true:=by
 have hal:=ha.len haB
 have hbl:=hb.len hbB
 obtain ⟨R,r1,r2⟩:=merge_loop H κ hκ K hK hK0 a b f g B hB ha hb (by omega) (by omega) haB hbB B 0 0 0 [] _ _ _ (by omega) (by omega) (by omega) (by omega) (RI.start _ B) Sh.nil
 refine ⟨R,?_,r2⟩
 have h2:=both_ok H.toHasC a b f g (by omega) (fun s hs=>by have:=haB s hs;omega) ha (by omega) (fun s hs=>by have:=hbB s hs;omega) hb
 rw [fnW_eq H.f477 rfl]
 simp only [w477_K0,mS] at r1
 simp at r1
 simp (disch:=omega) [w477,h2,r1,wI64,H.inl,inlB,H.pp,ppB]
theorem union_ok (H:HasM C) (a b:List (Nat × Nat)) (f g:Bool) (B:Nat) (hB:B≤4096) (ha:SV 0 a) (hb:SV 0 b) (haB:∀ s ∈ a,s.2≤B) (hbB:∀ s ∈ b,s.2≤B) :
 ∃ R,FnW C 371 [.ro 2 (a.map eS) f,.ro 2 (b.map eS) g]=some (.tup [.ro 2 (R.map eS) true,.int .i64 0])∧SV 0 R∧(∀ s ∈ R,s.2≤B)∧∀ j,inS R j↔inS a j∨inS b j:=by
 obtain ⟨R,r1,r2,r3,r4⟩:=merged_ok H 479 (.inr rfl) (fun x y=>x||y) (fun x y=>keep_ok H x y) rfl a b f g B hB ha hb haB hbB
 refine ⟨R,?_,r2,r3,fun j=>by rw [r4,Bool.or_eq_true,inS_any,inS_any]⟩
 rw [fnW_eq H.f371 rfl]
 simp (disch:=omega) [w371,r1,wI64,H.inl,inlB,H.pp,ppB]
theorem without_ok (H:HasM C) (a b:List (Nat × Nat)) (f g:Bool) (B:Nat) (hB:B≤4096) (ha:SV 0 a) (hb:SV 0 b) (haB:∀ s ∈ a,s.2≤B) (hbB:∀ s ∈ b,s.2≤B) :
 ∃ R,FnW C 370 [.ro 2 (a.map eS) f,.ro 2 (b.map eS) g]=some (.tup [.ro 2 (R.map eS) true,.int .i64 0])∧SV 0 R∧(∀ s ∈ R,s.2≤B)∧∀ j,inS R j↔inS a j∧¬ inS b j:=by
 obtain ⟨R,r1,r2,r3,r4⟩:=merged_ok H 478 (.inl rfl) (fun x y=>x&&!y) (fun x y=>keep2_ok H x y) rfl a b f g B hB ha hb haB hbB
 refine ⟨R,?_,r2,r3,fun j=>by rw [r4,Bool.and_eq_true,inS_any,← inS_any b];simp⟩
 rw [fnW_eq H.f370 rfl]
 simp (disch:=omega) [w370,r1,wI64,H.inl,inlB,H.pp,ppB]
end Go.O
end
section
namespace Go.O
open Go Go.Pav Go.Pw P Go.D
attribute [-simp] List.getElem_cons_drop
attribute [-simp] splice fillC AV.cells AV.cell AV.isAg isC
variable {C:WProg}
structure HasN (C:WProg):Prop extends HasM C where
 f473:C.fns.get 473=some w473
 f365:C.fns.get 365=some w365
theorem ranged_ok (H:HasN C) (L:List (Nat × Nat)) (f:Bool) (hl:L.length≤4096) (hm:∀ s ∈ L,s.2≤1073741824) (hv:SV 0 L) (p n:Nat) (hp:p≤1073741824) (hn:n≤1073741824):FnW C 473 [.ro 2 (L.map eS) f,.int .i64 p,.int .i64 n]=some (.int .i64 0):=by
 have h:=check_ok H.toHasC L f hl hm hv
 have c1:¬ (p:Int) < 0:=by omega
 have c2:¬ (n:Int) < 0:=by omega
 have c3:¬ 1073741824 < (p:Int):=by omega
 have c4:¬ 1073741824 < (n:Int):=by omega
 rw [fnW_eq H.f473 rfl]
 simp (disch:=omega) [w473,h,c1,c2,c3,c4,wI64,H.inl,inlB,H.pp,ppB]
theorem ins_loop (H:HasN C) (L:List (Nat × Nat)) (f:Bool) (hl:L.length≤4096) (p:Nat) (hp:p≤4096) (hm:∀ s ∈ L,s.2≤p) (hv:SV 0 L):∀ n i,n+i=L.length→∀ o hp nx,Sh o hp nx (L.take i) →
 w365_K0 C ⟨[(46,.int .i64 i),(45,.int .i64 L.length),(44,.ro 2 (L.map eS) f),(10,o),(2,.int .i64 1),(1,.int .i64 p)],hp,nx⟩=some (.tup [.ro 2 (L.map eS) true,.int .i64 0]):=by
 have q:=fun a b c h n=>rnW_eq (args:=[a,b,c]) H.f2391 rfl h n
 have hd:=fun f=>done_ok H.toHasC L f hl
 intro n
 induction n with
 | zero =>
  intro i hi o hp nx hS
  have h3:¬ i < L.length:=by omega
  rw [List.take_of_length_le (by omega)] at hS
  simp only [w365_K0]
  rcases hS with ⟨rfl,rfl,rfl,rfl⟩ | ⟨Y,l,rfl,rfl,rfl,rfl⟩
  · rw [ck_unf w365_B0.eq_1]
    simp at hd
    simp (disch:=omega) [ck_unf w365_c0.eq_1,hd,wI64,H.inl,inlB,H.pp,ppB]
  · rw [ck_unf w365_B0.eq_1]
    simp at hd h3
    have h3':¬ (i:Int) < Y.length+1:=by omega
    simp (disch:=omega) [ck_unf w365_c0.eq_1,take_all,hd,h3,h3',wI64,H.inl,inlB,H.pp,ppB]
 | succ n ih =>
  intro i hi o hp nx hS
  have h1:i < L.length:=by omega
  have hs:=hm L[i] (List.getElem_mem h1)
  have e1:=(hv.ge _ (List.getElem_mem h1)).2
  have ht:L.take (i+1)=L.take i++[L[i]]:=List.take_succ_eq_append_getElem h1
  have c1:¬ (L[i].2≤L[i].1):=by omega
  have c2:L[i].2≤p:=hs
  simp only [w365_K0] at ih ⊢
  generalize hX:L.take i=X at *
  have hXL:X.length≤4096:=by rw [← hX,List.length_take];omega
  have hgap:∀ s ∈ X,s.2 < L[i].1:=by
   have:SV 0 (X++L.drop i):=by rw [← hX,List.take_append_drop];exact hv
   have h4:=this.app.2.2
   rw [List.drop_eq_getElem_cons h1] at h4
   exact fun s hs=>h4 s hs _ (by simp)
  rcases hS with ⟨rfl,rfl,rfl,rfl⟩ | ⟨Y,l,rfl,rfl,rfl,rfl⟩
  · have this:=ih (i+1) (by omega) _ _ _ (by rw [ht];exact Sh.snoc [] L[i])
    rw [ck_unf w365_B0.eq_1]
    (try simp [eS] at this)
    simp (disch:=omega) [h1,c1,c2,q,w391,imin_l,imin_r,imax_l,imax_r,set_last,get_last,gq_last,take_all,this,eS,wI64,H.inl,inlB,H.pp,ppB]
  · have hg:=hgap l (by simp)
    have hc:¬ (L[i].1≤l.2):=by omega
    simp at hXL
    have hmk:(Y.length+1+1) * 17≤35184372088832:=by omega
    have this:=ih (i+1) (by omega) _ _ _ (by rw [ht];exact Sh.snoc (Y++[l]) L[i])
    rw [ck_unf w365_B0.eq_1]
    (try simp [eS] at this)
    simp (disch:=omega) [h1,c1,c2,hc,hmk,q,w391,imin_l,imin_r,imax_l,imax_r,set_last,get_last,gq_last,take_all,this,eS,wI64,H.inl,inlB,H.pp,ppB]
theorem sins_ok (H:HasN C) (L:List (Nat × Nat)) (f:Bool) (hl:L.length≤4096) (p:Nat) (hp:p≤4096) (hm:∀ s ∈ L,s.2≤p) (hv:SV 0 L):FnW C 365 [.ro 2 (L.map eS) f,.int .i64 p,.int .i64 1]=some (.tup [.ro 2 (L.map eS) true,.int .i64 0]):=by
 have h:=ranged_ok H L f hl (fun s hs=>by have:=hm s hs;omega) hv p 1 (by omega) (by omega)
 have h2:=ins_loop H L f hl p hp hm hv L.length 0 (by omega) _ _ _ Sh.nil
 simp only [w365_K0] at h2
 rw [fnW_eq H.f365 rfl]
 simp at h h2
 rcases List.eq_nil_or_concat L with rfl | ⟨Y,l,rfl⟩
 · simp at h h2
   simp (disch:=omega) [w365,h,h2,wI64,H.inl,inlB,H.pp,ppB]
 · have hll:=hm l (by simp)
   have c1:¬ ((p:Int) < l.2):=by omega
   have c2:¬ (p < l.2):=by omega
   rw [List.concat_eq_append] at h h2 hl ⊢
   simp at h h2 hl
   simp (disch:=omega) [w365,h,h2,c1,c2,get_last,gq_last,wI64,H.inl,inlB,H.pp,ppB]
end Go.O
end
section
namespace Go.O
open Go Go.Pav Go.Pw P Go.D
attribute [-simp] List.getElem_cons_drop
attribute [-simp] splice fillC AV.cells AV.cell AV.isAg isC
variable {C:WProg}
structure HasX (C:WProg):Prop extends HasP C,HasN C where
 f98:C.fns.get 98=some w98
 f193:C.fns.get 193=some w193
 f195:C.fns.get 195=some w195
 f196:C.fns.get 196=some w196
 f188:C.fns.get 188=some w188
 f187:C.fns.get 187=some w187
 f101:C.fns.get 101=some w101
 f104:C.fns.get 104=some w104
 f105:C.fns.get 105=some w105
abbrev eX (t:Tr) (K:List (Nat × Nat)) (f:Bool):AV:=.agg [t.c,.ro 2 (K.map eS) f]
theorem xlen_ok (H:HasX C) (t:Tr) (K:List (Nat × Nat)) (f:Bool):FnW C 98 [eX t K f]=some (.int .i64 t.cnt):=by
 have h:=rlen_ok H.toHasP t
 rw [fnW_eq H.f98 rfl]
 simp (disch:=omega) [w98,h,wI64,H.inl,inlB,H.pp,ppB]
theorem wrong_ok (H:HasX C) (s:Int) (h0:1≤s) (h1:s≤2305843009213693952):FnW C 193 [.int .i64 s]=some (.bool false):=by
 have c1:¬ s < 1:=by omega
 have c2:¬ 2305843009213693952 < s:=by omega
 rw [fnW_eq H.f193 rfl]
 simp (disch:=omega) [w193,c1,c2,wI64,H.inl,inlB,H.pp,ppB]
theorem with_ok (H:HasX C) (t:Tr) (K:List (Nat × Nat)) (f:Bool):FnW C 195 [.agg [t.c],.ro 2 (K.map eS) f,.int .i64 0]=some (.tup [eX t K f,.int .i64 0]):=by
 rw [fnW_eq H.f195 rfl]
 simp (disch:=omega) [w195,wI64,H.inl,inlB,H.pp,ppB]
theorem marked_ok (H:HasX C) (K:List (Nat × Nat)) (f:Bool) (B:Nat) (hB:B≤4096) (hv:SV 0 K) (hK:∀ s ∈ K,s.2≤B) (p:Nat) (hp:p < B) (b:Bool) :
 ∃ R,FnW C 196 [.ro 2 (K.map eS) f,.int .i64 p,.int .i64 (p+1:Nat),.bool b]=some (.ro 2 (R.map eS) true)∧SV 0 R∧(∀ s ∈ R,s.2≤B)∧∀ j,inS R j↔if b=true then inS K j∨j=p else inS K j∧j≠p:=by
 have hv1:SV 0 [(p,p+1)]:=⟨Nat.zero_le _,by simp,trivial⟩
 have hb1:∀ s ∈ [(p,p+1)],s.2≤B:=by intro s hs;simp at hs;subst hs;exact hp
 have hj:∀ j,inS [(p,p+1)] j↔j=p:=fun j=>by rw [inS_one];omega
 have hne:¬ (p=p+1):=by omega
 have hne':¬ ((p:Int)=p+1):=by omega
 cases b
 · obtain ⟨R,r1,r2,r3,r4⟩:=without_ok H.toHasM K [(p,p+1)] f true B hB hv hv1 hK hb1
   refine ⟨R,?_,r2,r3,fun j=>by rw [r4,hj];simp⟩
   simp [eS] at r1
   rw [fnW_eq H.f196 rfl]
   simp (disch:=omega) [w196,r1,hne,hne',wI64,H.toHasP.inl,inlB,H.toHasP.pp,ppB]
 · obtain ⟨R,r1,r2,r3,r4⟩:=union_ok H.toHasM K [(p,p+1)] f true B hB hv hv1 hK hb1
   refine ⟨R,?_,r2,r3,fun j=>by rw [r4,hj];simp⟩
   simp [eS] at r1
   rw [fnW_eq H.f196 rfl]
   simp (disch:=omega) [w196,r1,hne,hne',wI64,H.toHasP.inl,inlB,H.toHasP.pp,ppB]
theorem xins_ok (H:HasX C) (t:Tr) (K:List (Nat × Nat)) (f:Bool) (s:Int) (h0:1≤s) (h1:s≤2305843009213693952) (h:LB (t.toL++[s])) (hn:t.cnt+1≤1024) (hv:SV 0 K) (hK:∀ x ∈ K,x.2≤t.cnt) (e b:Bool) :
 ∃ t' R,FnW C 188 [eX t K f,.int .i64 t.cnt,.ro 1 [[.int .i64 s]] e,.bool b]=some (.tup [eX t' R true,.int .i64 0])∧t'.toL=t.toL++[s]∧SV 0 R∧(∀ x ∈ R,x.2≤t.cnt+1)∧∀ j,inS R j↔inS K j∨(b=true∧j=t.cnt):=by
 have hl:=xlen_ok H t K f
 have hw:=wrong_ok H s h0 h1
 have hf:=fun e=>fchk1_ok H.toHasP s (by omega) h1 e
 obtain ⟨v,q1,q2⟩:=rins_ok H.toHasP t s h h1 (by omega) e
 have hKl:=hv.len hK
 have hs:=sins_ok H.toHasN K f (by omega) t.cnt (by omega) hK hv
 obtain ⟨R,r1,r2,r3,r4⟩:=marked_ok H K true (t.cnt+1) (by omega) hv (fun x hx=>by have:=hK x hx;omega) t.cnt (by omega) b
 have hm:=with_ok H v R true
 refine ⟨v,R,?_,q2,r2,r3,fun j=>?_⟩
 · have c1:¬ (t.cnt:Int) < 0:=by omega
   have c2:¬ (1024 - (t.cnt:Int) < 1):=by omega
   rw [fnW_eq H.f188 rfl]
   simp at r1
   simp (disch:=omega) [w188,ck_unf w188_B0.eq_1,ck_unf w188_c0.eq_1,hl,hw,hf,q1,hs,r1,hm,c1,c2,wI64,H.toHasP.inl,inlB,H.toHasP.pp,ppB]
 · rw [r4]
   cases b
   · simp
     intro hj he
     subst he
     obtain ⟨x,hx,hx2⟩:=hj
     have:=hK x hx
     omega
   · simp
theorem xset_ok (H:HasX C) (t:Tr) (K:List (Nat × Nat)) (f:Bool) (k:Nat) (hk:k < t.cnt) (z:Int) (h0:1≤z) (h1:z≤2305843009213693952) (h:LB t.toL) (h':LB (t.toL.set k z)) (hn:t.cnt≤1024) (hv:SV 0 K) (hK:∀ x ∈ K,x.2≤t.cnt) :
 ∃ t' R,FnW C 101 [eX t K f,.int .i64 k,.int .i64 z,.bool true]=some (.tup [eX t' R true,.int .i64 0])∧t'.toL=t.toL.set k z∧SV 0 R∧(∀ x ∈ R,x.2≤t.cnt)∧∀ j,inS R j↔inS K j∨j=k:=by
 have hl:=xlen_ok H t K f
 have hw:=wrong_ok H z h0 h1
 obtain ⟨v,q1,q2⟩:=rset_ok H.toHasP t k hk z (by omega) h1 h h'
 obtain ⟨R,r1,r2,r3,r4⟩:=marked_ok H K f t.cnt (by omega) hv hK k hk true
 have hm:=with_ok H v R true
 refine ⟨v,R,?_,q2,r2,r3,fun j=>by rw [r4];simp⟩
 have c1:¬ (k:Int) < 0:=by omega
 have c2:(0:Int)≤k:=by omega
 rw [fnW_eq H.f101 rfl]
 simp at r1
 simp (disch:=omega) [w101,hl,hw,q1,r1,hm,c1,c2,hk,wI64,H.toHasP.inl,inlB,H.toHasP.pp,ppB]
theorem xsize_ok (H:HasX C) (t:Tr) (K:List (Nat × Nat)) (f:Bool) (k:Nat) (hk:k < t.cnt) (hn:t.cnt≤1024):∃ s:Int,FnW C 104 [eX t K f,.int .i64 k]=some (.tup [.int .i64 s,.int .i64 0])∧t.toL[k]?=some s:=by
 obtain ⟨s,p1,p2⟩:=rat_ok H.toHasP t k hk (by omega)
 refine ⟨s,?_,p2⟩
 rw [fnW_eq H.f104 rfl]
 simp (disch:=omega) [w104,p1,wI64,H.toHasP.inl,inlB,H.toHasP.pp,ppB]
theorem xknown_ok (H:HasX C) (t:Tr) (K:List (Nat × Nat)) (f:Bool) (k:Nat) (hk:k < t.cnt) (hn:t.cnt≤1024) (hv:SV 0 K) (hK:∀ x ∈ K,x.2≤t.cnt):FnW C 105 [eX t K f,.int .i64 k]=some (.tup [.bool (K.any (inB k)),.int .i64 0]):=by
 have hl:=xlen_ok H t K f
 have hKl:=hv.len hK
 have hh:=has_ok H.toHasC K f (by omega) (fun s hs=>by have:=hK s hs;omega) hv k
 have c1:¬ (k:Int) < 0:=by omega
 have c2:¬ (t.cnt:Int)≤k:=by omega
 rw [fnW_eq H.f105 rfl]
 simp (disch:=omega) [w105,hl,hh,c1,c2,hk,wI64,H.toHasP.inl,inlB,H.toHasP.pp,ppB]
end Go.O
end
section
namespace Go.O
open Go Go.Pav Go.Pw P Go.D
attribute [-simp] List.getElem_cons_drop
attribute [-simp] splice fillC AV.cells AV.cell AV.isAg isC
variable {C:WProg}
structure HasY (C:WProg):Prop extends HasX C where
 f95:C.fns.get 95=some w95
 f94:C.fns.get 94=some w94
 f96:C.fns.get 96=some w96
 f189:C.fns.get 189=some w189
 f103:C.fns.get 103=some w103
abbrev e8 (b:Nat):List AV:=[.int .u8 b]
abbrev eR (r:Nat × Bool):List AV:=[.int .i64 r.1,.bool r.2]
def row1 (b:Nat):Nat × Bool:=(1+b % 16,decide (127 < b))
def rowsF (L:List Nat):List (Nat × Bool):=(L.take 60).map row1
def great (g:Bool):List (Nat × Bool)→List (Nat × Bool)
 | []=>[]
 | r::t=>(if g=true then 2305843009213693952 else r.1,r.2)::t
theorem rows_loop (H:HasY C) (L:List Nat) (f g:Bool) (hL:∀ b ∈ L,b < 256):∀ n i,n+i=(L.take 60).length →
 w95_K0 C ⟨[(4,.int .i64 i),(3,.sl 0 2 0 i i false),(1,.ptr 1 0 0)],[(0,.cells 2 (((rowsF L).take i).map eR) true true),(1,.cells 2 [[.ro 1 (L.map e8) f,.bool g]] true true)],2⟩=some (.ro 2 ((great g (rowsF L)).map eR) false):=by
 intro n
 induction n with
 | zero =>
  intro i hi
  have hlen:(rowsF L).length=i:=by simp [rowsF] at hi ⊢;omega
  rw [List.take_of_length_le (by omega)]
  have h3:¬ ((i:Int) < L.length∧(i:Int) < 60):=by simp at hi;omega
  have h4:¬ (i < L.length∧i < 60):=by simp at hi;omega
  simp only [w95_K0]
  have hi2:i≤60:=by simp at hi;omega
  have hc:∀ v:AV,(if i < L.length then (if i < 60 then .bool true else v) else v)=v:=by
   intro v
   split
   · split
     · exact absurd ⟨by assumption,by assumption⟩ h4
     · rfl
   · rfl
  generalize rowsF L=X at *
  rw [ck_unf w95_B0.eq_1]
  by_cases c1:i < L.length
  · have c2:¬ i < 60:=by omega
    cases X with
    | nil=>simp at hlen;omega
    | cons r t =>
     simp at hlen
     obtain rfl:i=t.length+1:=hlen.symm
     have hlt:(0:Int) < (t.length:Int)+1:=by omega
     have hT:List.take t.length (List.map eR t)=List.map eR t:=List.take_of_length_le (by simp)
     have c1':((t.length:Int)+1 < L.length):=by omega
     have c2':¬ ((t.length:Int)+1 < 60):=by omega
     cases g
     · simp (disch:=omega) [c1,c2,c1',c2',ck_unf w95_c0.eq_1,hlt,great,hT,eR,wI64,H.toHasP.inl,inlB,H.toHasP.pp,ppB]
     · simp (disch:=omega) [c1,c2,c1',c2',ck_unf w95_c0.eq_1,hlt,great,hT,eR,wI64,H.toHasP.inl,inlB,H.toHasP.pp,ppB]
  · cases X with
    | nil =>
     simp at hlen
     subst hlen
     cases g
     · simp (disch:=omega) [c1,ck_unf w95_c0.eq_1,great,wI64,H.toHasP.inl,inlB,H.toHasP.pp,ppB]
     · simp (disch:=omega) [c1,ck_unf w95_c0.eq_1,great,wI64,H.toHasP.inl,inlB,H.toHasP.pp,ppB]
    | cons r t =>
     simp at hlen
     obtain rfl:i=t.length+1:=hlen.symm
     have hlt:(0:Int) < (t.length:Int)+1:=by omega
     have hT:List.take t.length (List.map eR t)=List.map eR t:=List.take_of_length_le (by simp)
     have c1':¬ ((t.length:Int)+1 < L.length):=by omega
     cases g
     · simp (disch:=omega) [c1,c1',hT,ck_unf w95_c0.eq_1,hlt,great,eR,wI64,H.toHasP.inl,inlB,H.toHasP.pp,ppB]
     · simp (disch:=omega) [c1,c1',hT,ck_unf w95_c0.eq_1,hlt,great,eR,wI64,H.toHasP.inl,inlB,H.toHasP.pp,ppB]
 | succ n ih =>
  intro i hi
  have h0:i < L.length∧i < 60:=by simp at hi;omega
  have h1:i < L.length:=h0.1
  have h2:i < 60:=h0.2
  have hb:=hL L[i] (List.getElem_mem h1)
  have hr:((L[i]:Nat):Int).tmod 16=((L[i] % 16:Nat):Int):=by rw [Int.tmod_eq_emod_of_nonneg (by omega)];rfl
  have ht:(rowsF L).take (i+1)=(rowsF L).take i++[row1 L[i]]:=by
   have hl:i < (rowsF L).length:=by simp [rowsF];omega
   rw [List.take_succ_eq_append_getElem hl]
   congr 2
   simp [rowsF]
  have hlen:((rowsF L).take i).length=i:=by simp [rowsF];omega
  have this:=ih (i+1) (by omega)
  rw [ht] at this
  have hmin:min i (rowsF L).length=i:=by simp at hlen;omega
  have hmk:(i+1) * 17≤35184372088832:=by omega
  simp only [w95_K0] at this ⊢;rw [ck_unf w95_B0.eq_1]
  simp [row1,eR] at this
  simp (disch:=omega) [h1,h2,hr,hlen,hmin,hmk,this,wI64,H.toHasP.inl,inlB,H.toHasP.pp,ppB]
theorem rows_ok (H:HasY C) (L:List Nat) (f g:Bool) (hL:∀ b ∈ L,b < 256):FnW C 95 [.agg [.ro 1 (L.map e8) f,.bool g]]=some (.ro 2 ((great g (rowsF L)).map eR) false):=by
 have h:=rows_loop H L f g hL (L.take 60).length 0 rfl
 simp only [w95_K0] at h
 rw [fnW_eq H.f95 rfl]
 simp at h
 simp (disch:=omega) [w95,h,wI64,H.toHasP.inl,inlB,H.toHasP.pp,ppB]
abbrev szs (l:List (Nat × Bool)):List Int:=l.map fun r=>(r.1:Int)
structure Rws (l:List (Nat × Bool)):Prop where
 ln:l.length≤60
 lb:LB (szs l)
 sz:∀ r ∈ l,1≤r.1∧r.1≤2305843009213693952
 su:(szs l).sum≤2305843009213695000
structure Ix (l:List (Nat × Bool)) (i:Nat) (t:Tr) (K:List (Nat × Nat)):Prop where
 tl:t.toL=(szs l).take i
 v:SV 0 K
 b:∀ s ∈ K,s.2≤i
 m:∀ j,inS K j↔j < i∧∃ r,l[j]?=some r∧r.2=true
theorem of_loop (H:HasY C) (l:List (Nat × Bool)) (fl:Bool) (hl:Rws l):∀ n i,n+i=l.length→∀ t K,Ix l i t K→∃ t' K',Ix l l.length t' K' ∧
 w94_K0 C ⟨[(5,.int .i64 i),(4,.ptr 0 0 0),(3,.ro 2 (l.map eR) fl),(2,.ptr 1 0 0)],[(0,.cells 2 [[t.c,.ro 2 (K.map eS) true]] true true),(1,.cells 2 [[.nilp,.ro 2 [] true]] true true)],2⟩=some (eX t' K' true):=by
 intro n
 induction n with
 | zero =>
  intro i hi t K hI
  obtain rfl:i=l.length:=by omega
  refine ⟨t,K,hI,?_⟩
  simp only [w94_K0];rw [ck_unf w94_B0.eq_1]
  simp (disch:=omega) [ck_unf w94_c0.eq_1,wI64,H.toHasP.inl,inlB,H.toHasP.pp,ppB]
 | succ n ih =>
  intro i hi t K hI
  have h1:i < l.length:=by omega
  have hln:=hl.ln
  have hc:t.cnt=i:=by rw [t.cnt_eq,hI.tl];simp;omega
  have hs:=hl.sz l[i] (List.getElem_mem h1)
  have htk:(szs l).take i++[(l[i].1:Int)]=(szs l).take (i+1):=by
   rw [List.take_succ_eq_append_getElem (by simpa using h1)]
   simp
  obtain ⟨t',R,q1,q2,q3,q4,q5⟩:=xins_ok H.toHasX t K true l[i].1 (by omega) (by omega) (by rw [hI.tl,htk];exact LB.left (B:=(szs l).drop (i+1)) (by rw [List.take_append_drop];exact hl.lb)) (by omega) hI.v (by rw [hc];exact hI.b) true l[i].2
  rw [hc] at q1 q4 q5
  have hI':Ix l (i+1) t' R:=by
   refine ⟨by rw [q2,hI.tl,htk],q3,q4,fun j=>?_⟩
   rw [q5,hI.m]
   constructor
   · rintro (⟨a,b⟩ | ⟨a,rfl⟩)
     · exact ⟨by omega,b⟩
     · exact ⟨by omega,_,List.getElem?_eq_getElem h1,a⟩
   · rintro ⟨a,r,b,c⟩
     by_cases d:j < i
     · exact .inl ⟨d,r,b,c⟩
     · obtain rfl:j=i:=by omega
       rw [List.getElem?_eq_getElem h1] at b
       cases b
       exact .inr ⟨c,rfl⟩
  obtain ⟨t2,K2,r1,r2⟩:=ih (i+1) (by omega) t' R hI'
  refine ⟨t2,K2,r1,?_⟩
  simp only [w94_K0] at r2 ⊢;rw [ck_unf w94_B0.eq_1]
  simp at r2 q1
  simp (disch:=omega) [h1,q1,r2,wI64,H.toHasP.inl,inlB,H.toHasP.pp,ppB]
theorem new_ok (H:HasY C):FnW C 187 []=some (eX .nil [] true):=by
 rw [fnW_eq H.f187 rfl]
 simp (disch:=omega) [w187,wI64,H.toHasP.inl,inlB,H.toHasP.pp,ppB]
theorem xof_ok (H:HasY C) (L:List Nat) (f g:Bool) (hL:∀ b ∈ L,b < 256) (hl:Rws (great g (rowsF L))):∃ t K,Ix (great g (rowsF L)) (great g (rowsF L)).length t K∧FnW C 94 [.agg [.ro 1 (L.map e8) f,.bool g]]=some (eX t K true):=by
 have h:=rows_ok H L f g hL
 have hn:=new_ok H
 obtain ⟨t,K,r1,r2⟩:=of_loop H (great g (rowsF L)) false hl _ 0 rfl .nil [] ⟨rfl,trivial,fun s hs=>absurd hs (by simp),fun j=>by simp [inS_nil]⟩
 refine ⟨t,K,r1,?_⟩
 simp only [w94_K0] at r2
 rw [fnW_eq H.f94 rfl]
 simp at r2 hn h
 simp (disch:=omega) [w94,h,hn,r2,wI64,H.toHasP.inl,inlB,H.toHasP.pp,ppB]
theorem sum_le:∀ (l:List (Nat × Bool)) (b:Nat),(∀ r ∈ l,r.1≤b)→(szs l).sum≤(l.length * b:Nat)
 | [],b,_=>by simp
 | r::t,b,h=>by
  have h1:=h r (by simp)
  have h2:=sum_le t b (fun r hr=>h r (List.mem_cons_of_mem _ hr))
  rw [szs,List.map_cons,List.sum_cons,List.length_cons,Nat.succ_mul]
  change (r.1:Int)+(szs t).sum≤_
  omega
theorem rws_ok (L:List Nat) (g:Bool):Rws (great g (rowsF L)):=by
 have hlen:(great g (rowsF L)).length≤60:=by
  have h0:(rowsF L).length≤60:=by simp [rowsF];omega
  cases h:rowsF L with
  | nil=>simp [great]
  | cons r t=>rw [h] at h0;simpa [great] using h0
 have hr:∀ r ∈ rowsF L,1≤r.1∧r.1≤16:=by
  intro r hr
  simp only [rowsF,List.mem_map] at hr
  obtain ⟨b,_,rfl⟩:=hr
  simp only [row1]
  omega
 have h0:(rowsF L).length≤60:=by simp [rowsF];omega
 cases h:rowsF L with
 | nil=>exact ⟨by simp [great],⟨by simp [great,szs],by simp [great,szs],by simp [great,szs]⟩,by simp [great],by simp [great,szs]⟩
 | cons r t =>
  rw [h] at hr h0
  have h1:=hr r (by simp)
  have h2:∀ x ∈ t,1≤x.1∧x.1≤16:=fun x hx=>hr x (List.mem_cons_of_mem _ hx)
  have h3:=sum_le t 16 (fun x hx=>(h2 x hx).2)
  simp at h0
  refine ⟨by simpa [great] using h0,⟨?_,?_,by simp [great,szs];omega⟩,?_,?_⟩
  · intro x hx
    simp [great,szs] at hx
    rcases hx with rfl | ⟨a,_,_,rfl⟩
    · split <;> omega
    · omega
  · rw [great,szs,List.map_cons,List.sum_cons]
    change _+(szs t).sum≤_
    dsimp only
    split <;> omega
  · intro x hx
    simp only [great,List.mem_cons] at hx
    rcases hx with rfl | hx
    · dsimp only;split <;> omega
    · have:=h2 x hx;omega
  · rw [great,szs,List.map_cons,List.sum_cons]
    change _+(szs t).sum≤_
    dsimp only
    split <;> omega
end Go.O
end
section
namespace Go.O
open Go Go.Pav Go.Pw P Go.D
attribute [-simp] List.getElem_cons_drop
attribute [-simp] splice fillC AV.cells AV.cell AV.isAg isC
variable {C:WProg}
abbrev eH (x:Nat × Nat):List AV:=[.int .u64 x.1,.int .i64 x.2]
structure Tb (M:List (Nat × Nat)):Prop where
 ln:M.length≤100
 k:∀ x ∈ M,1≤x.1∧x.1≤40
 s:∀ x ∈ M,1≤x.2∧x.2≤40
 nd:(M.map Prod.fst).Nodup
theorem at_loop (H:HasY C) (M:List (Nat × Nat)) (f:Bool) (hM:M.length≤100) (k:Nat):∀ n i,n+i=M.length→∃ r:Int,
 w189_K0 C ⟨[(5,.int .i64 i),(1,.int .u64 k),(0,.ro 2 (M.map eH) f)],[],0⟩=some (.int .i64 r)∧(r < 0↔∀ x ∈ M.drop i,x.1≠k):=by
 intro n
 induction n with
 | zero =>
  intro i hi
  have h3:¬ i < M.length:=by omega
  refine ⟨-1,?_,by rw [List.drop_eq_nil_of_le (by omega)];simp⟩
  simp only [w189_K0];rw [ck_unf w189_B0.eq_1]
  simp (disch:=omega) [ck_unf w189_c0.eq_1,h3]
 | succ n ih =>
  intro i hi
  have h1:i < M.length:=by omega
  rw [List.drop_eq_getElem_cons h1]
  by_cases c:M[i].1=k
  · refine ⟨i,?_,?_⟩
    · simp only [w189_K0];rw [ck_unf w189_B0.eq_1]
      simp (disch:=omega) [h1,c,wI64,H.toHasP.inl,inlB,H.toHasP.pp,ppB]
    · constructor
      · omega
      · intro q
        exact absurd c (q _ (by simp))
  · obtain ⟨r,q1,q2⟩:=ih (i+1) (by omega)
    refine ⟨r,?_,?_⟩
    · simp only [w189_K0] at q1 ⊢;rw [ck_unf w189_B0.eq_1]
      simp at q1
      simp (disch:=omega) [h1,c,q1,wI64,H.toHasP.inl,inlB,H.toHasP.pp,ppB]
    · rw [q2]
      simp [c]
theorem tat_ok (H:HasY C) (M:List (Nat × Nat)) (f:Bool) (hM:M.length≤100) (k:Nat):∃ r:Int,FnW C 189 [.ro 2 (M.map eH) f,.int .u64 k]=some (.int .i64 r)∧(r < 0↔∀ x ∈ M,x.1≠k):=by
 obtain ⟨r,q1,q2⟩:=at_loop H M f hM k _ 0 rfl
 refine ⟨r,?_,by rw [q2,List.drop_zero]⟩
 rw [fnW_eq H.f189 rfl]
 simp only [w189_K0] at q1
 simp at q1
 simp (disch:=omega) [w189,q1,wI64,H.toHasP.inl,inlB,H.toHasP.pp,ppB]
theorem find_loop (H:HasY C) (M:List (Nat × Nat)) (f:Bool) (hM:M.length≤100) (k:Nat):∀ n i,n+i=M.length →
 w103_K0 C ⟨[(10,.int .i64 i),(9,.int .i64 M.length),(8,.ro 2 (M.map eH) f),(1,.int .u64 k)],[],0⟩=some (match (M.drop i).find? (fun x=>x.1 == k) with | some x=>.tup [.int .i64 x.2,.bool true] | none=>.tup [.int .i64 0,.bool false]):=by
 intro n
 induction n with
 | zero =>
  intro i hi
  have h3:¬ i < M.length:=by omega
  rw [List.drop_eq_nil_of_le (by omega)]
  simp only [w103_K0];rw [ck_unf w103_B0.eq_1]
  simp (disch:=omega) [ck_unf w103_c0.eq_1,h3]
 | succ n ih =>
  intro i hi
  have h1:i < M.length:=by omega
  have this:=ih (i+1) (by omega)
  rw [List.drop_eq_getElem_cons h1,List.find?_cons]
  simp only [w103_K0] at this ⊢;rw [ck_unf w103_B0.eq_1]
  by_cases c:M[i].1=k
  · have c2:(M[i].1 == k)=true:=by simpa using c
    rw [c2]
    simp (disch:=omega) [h1,c,wI64,H.toHasP.inl,inlB,H.toHasP.pp,ppB]
  · have c2:(M[i].1 == k)=false:=by simpa using c
    rw [c2]
    simp at this
    simp (disch:=omega) [h1,c,this,wI64,H.toHasP.inl,inlB,H.toHasP.pp,ppB]
theorem tfind_ok (H:HasY C) (M:List (Nat × Nat)) (f:Bool) (hM:M.length≤100) (k:Nat):FnW C 103 [.ro 2 (M.map eH) f,.int .u64 k]=some (match M.find? (fun x=>x.1 == k) with | some x=>.tup [.int .i64 x.2,.bool true] | none=>.tup [.int .i64 0,.bool false]):=by
 have h:=find_loop H M f hM k _ 0 rfl
 rw [List.drop_zero] at h
 rw [fnW_eq H.f103 rfl]
 simp only [w103_K0] at h
 simp at h
 simp (disch:=omega) [w103,h,wI64,H.toHasP.inl,inlB,H.toHasP.pp,ppB]
abbrev e88 (x:Nat × Nat):List AV:=[.int .u8 x.1,.int .u8 x.2]
theorem tof_loop (H:HasY C) (L:List (Nat × Nat)) (f:Bool) (hL:∀ x ∈ L,x.1 < 256∧x.2 < 256):∀ n i,n+i=(L.take 100).length→∀ M:List (Nat × Nat),Tb M→M.length≤i→∃ M',Tb M' ∧
 w96_K0 C ⟨[(4,.int .i64 i),(3,.sl 0 2 0 M.length M.length false),(1,.ptr 1 0 0)],[(0,.cells 2 (M.map eH) true true),(1,.cells 1 [[.ro 2 (L.map e88) f]] true true)],2⟩=some (.ro 2 (M'.map eH) false):=by
 intro n
 induction n with
 | zero =>
  intro i hi M hM hl
  refine ⟨M,hM,?_⟩
  have h4:¬ (i < L.length∧i < 100):=by simp at hi;omega
  have hT:List.take M.length (List.map eH M)=List.map eH M:=List.take_of_length_le (by simp)
  have hi2:i≤100:=by simp at hi;omega
  simp only [w96_K0];rw [ck_unf w96_B0.eq_1]
  by_cases c1:i < L.length
  · have c2:¬ i < 100:=by omega
    have c2':¬ (i:Int) < 100:=by omega
    simp (disch:=omega) [c1,c2,c2',hT,ck_unf w96_c0.eq_1,wI64,H.toHasP.inl,inlB,H.toHasP.pp,ppB]
  · simp (disch:=omega) [c1,hT,ck_unf w96_c0.eq_1,wI64,H.toHasP.inl,inlB,H.toHasP.pp,ppB]
 | succ n ih =>
  intro i hi M hM hl
  have h0:i < L.length∧i < 100:=by simp at hi;omega
  have h1:i < L.length:=h0.1
  have h2:i < 100:=h0.2
  have h2':(i:Int) < 100:=by omega
  have hb:=hL L[i] (List.getElem_mem h1)
  have hr1:((L[i].1:Nat):Int).tmod 40=((L[i].1 % 40:Nat):Int):=by rw [Int.tmod_eq_emod_of_nonneg (by omega)];rfl
  have hr2:((L[i].2:Nat):Int).tmod 40=((L[i].2 % 40:Nat):Int):=by rw [Int.tmod_eq_emod_of_nonneg (by omega)];rfl
  have hT:List.take M.length (List.map eH M)=List.map eH M:=List.take_of_length_le (by simp)
  obtain ⟨r,q1,q2⟩:=tat_ok H M false (by have:=hM.ln;omega) (1+L[i].1 % 40)
  by_cases c:r < 0
  · have hM':Tb (M++[(1+L[i].1 % 40,1+L[i].2 % 40)]):=by
     refine ⟨by simp;omega,?_,?_,?_⟩
     · intro x hx
       rcases List.mem_append.1 hx with hx | hx
       · exact hM.k x hx
       · simp at hx;subst hx;dsimp only;omega
     · intro x hx
       rcases List.mem_append.1 hx with hx | hx
       · exact hM.s x hx
       · simp at hx;subst hx;dsimp only;omega
     · rw [List.map_append,List.nodup_append]
       refine ⟨hM.nd,by simp,fun a ha b hb=>?_⟩
       simp at hb
       obtain ⟨x,hx,rfl⟩:=List.mem_map.1 ha
       have:=q2.1 c x hx
       omega
    obtain ⟨M',r1,r2⟩:=ih (i+1) (by omega) _ hM' (by simp;omega)
    refine ⟨M',r1,?_⟩
    have hmk:(M.length+1) * 17≤35184372088832:=by omega
    simp only [w96_K0] at r2 ⊢;rw [ck_unf w96_B0.eq_1]
    simp [eH] at r2
    simp at q1
    simp (disch:=omega) [h1,h2,h2',hr1,hr2,hT,hmk,q1,c,r2,wI64,wU64,wU8,H.toHasP.inl,inlB,H.toHasP.pp,ppB]
  · obtain ⟨M',r1,r2⟩:=ih (i+1) (by omega) M hM (by omega)
    refine ⟨M',r1,?_⟩
    simp only [w96_K0] at r2 ⊢;rw [ck_unf w96_B0.eq_1]
    simp at r2 q1
    simp (disch:=omega) [h1,h2,h2',hr1,hr2,hT,q1,c,r2,wI64,wU64,wU8,H.toHasP.inl,inlB,H.toHasP.pp,ppB]
theorem tof_ok (H:HasY C) (L:List (Nat × Nat)) (f:Bool) (hL:∀ x ∈ L,x.1 < 256∧x.2 < 256):∃ M,Tb M∧FnW C 96 [.agg [.ro 2 (L.map e88) f]]=some (.ro 2 (M.map eH) false):=by
 obtain ⟨M,r1,r2⟩:=tof_loop H L f hL _ 0 rfl [] ⟨by simp,by simp,by simp,by simp⟩ (by simp)
 refine ⟨M,r1,?_⟩
 rw [fnW_eq H.f96 rfl]
 simp only [w96_K0] at r2
 simp at r2
 simp (disch:=omega) [w96,r2,wI64,H.toHasP.inl,inlB,H.toHasP.pp,ppB]
end Go.O
end
section
namespace Go.D
set_option maxHeartbeats 1000000
def KAt (S:List (Option Int)) (k:Int) (p d:Nat):Prop:=(∀ e < d,∃ k',S[(p+e) % S.length]?=some (some k')∧k'≠k)∧S[(p+d) % S.length]?=some (some k)
def KFr (S:List (Option Int)) (k:Int) (p d:Nat):Prop:=(∀ e < d,∃ k',S[(p+e) % S.length]?=some (some k')∧k'≠k)∧S[(p+d) % S.length]?=some none
structure KIn (st:Int→Nat) (S:List (Option Int)) (K:List Int):Prop where
 nd:K.Nodup
 mem:∀ k,some k ∈ S↔k ∈ K
 at_:∀ k ∈ K,∃ d < S.length,KAt S k (st k) d
 cn:S.count none+K.length=S.length
theorem kfr_ex {S:List (Option Int)} {k:Int} (hk:some k ∉ S) (hr:none ∈ S) (p:Nat):∃ d < S.length,KFr S k p d:=by
 obtain ⟨j,hj,hjn⟩:=List.mem_iff_getElem.1 hr
 have hex:∃ d,S[(p+d) % S.length]?=some none∧d < S.length:=by
  refine ⟨(j+S.length - p % S.length) % S.length,?_,Nat.mod_lt _ (by omega)⟩
  have h1:(p+(j+S.length - p % S.length) % S.length) % S.length=j:=by
   have hp:p % S.length < S.length:=Nat.mod_lt _ (by omega)
   rw [Nat.add_mod,Nat.mod_mod,← Nat.add_mod,Nat.add_mod p,← Nat.add_mod]
   have e:p+(j+S.length - p % S.length)=j+S.length * (p / S.length+1):=by
    have:=Nat.div_add_mod p S.length
    rw [Nat.mul_add,Nat.mul_one]
    omega
   rw [e,Nat.add_mul_mod_self_left,Nat.mod_eq_of_lt hj]
  rw [h1,List.getElem?_eq_getElem hj,hjn]
 have hmin:∀ n,(∃ d,d≤n∧S[(p+d) % S.length]?=some none∧d < S.length)→∃ d < S.length,KFr S k p d:=by
  intro n
  induction n with
  | zero =>
   rintro ⟨d,h0,h1,h2⟩
   obtain rfl:d=0:=by omega
   exact ⟨0,h2,fun e he=>by omega,h1⟩
  | succ n ih =>
   rintro ⟨d,h0,h1,h2⟩
   by_cases h:∃ d',d'≤n∧S[(p+d') % S.length]?=some none∧d' < S.length
   · exact ih h
   · refine ⟨d,h2,fun e he=>?_,h1⟩
     have hlt:(p+e) % S.length < S.length:=Nat.mod_lt _ (by omega)
     cases hv:S[(p+e) % S.length] with
     | none=>exact absurd ⟨e,by omega,by rw [List.getElem?_eq_getElem hlt,hv],by omega⟩ h
     | some k' =>
      refine ⟨k',by rw [List.getElem?_eq_getElem hlt,hv],fun hkk=>hk ?_⟩
      subst hkk
      rw [← hv]
      exact List.getElem_mem hlt
 obtain ⟨d,h1,h2⟩:=hex
 exact hmin d ⟨d,Nat.le_refl _,h1,h2⟩
theorem kin_put {st:Int→Nat} {S:List (Option Int)} {K:List Int} {k:Int} {d:Nat} (h:KIn st S K) (hk:k ∉ K) (hd:d < S.length) (hf:KFr S k (st k) d) :
 KIn st (S.set ((st k+d) % S.length) (some k)) (K++[k]):=by
 have hlen:(S.set ((st k+d) % S.length) (some k)).length=S.length:=List.length_set ..
 have hlt:(st k+d) % S.length < S.length:=Nat.mod_lt _ (by omega)
 have hold:∀ (i:Nat) (k':Int),S[i]?=some (some k')→(S.set ((st k+d) % S.length) (some k))[i]?=some (some k'):=by
  intro i k' hi
  rw [List.getElem?_set]
  split
  · rename_i q
    rw [← q,hf.2] at hi
    simp at hi
  · exact hi
 have hnew:(S.set ((st k+d) % S.length) (some k))[(st k+d) % S.length]?=some (some k):=by
  rw [List.getElem?_set_self hlt]
 have hcn:(S.set ((st k+d) % S.length) (some k)).count none+(K++[k]).length=(S.set ((st k+d) % S.length) (some k)).length:=by
  have h1:=h.cn
  have h2:S[(st k+d) % S.length]=none:=by
   have:=hf.2
   rw [List.getElem?_eq_getElem hlt] at this
   simpa using this
  have h3:0 < S.count none:=List.count_pos_iff.2 (by rw [← h2];exact List.getElem_mem hlt)
  rw [hlen,List.count_set hlt,h2,List.length_append]
  simp
  omega
 refine ⟨?_,?_,?_,hcn⟩
 · rw [List.nodup_append]
   refine ⟨h.nd,by simp,fun a ha b hb=>?_⟩
   simp only [List.mem_singleton] at hb
   subst hb
   intro hab
   subst hab
   exact hk ha
 · intro k'
   rw [List.mem_append,List.mem_singleton]
   constructor
   · intro hm
     rcases List.mem_or_eq_of_mem_set hm with q | q
     · exact .inl ((h.mem k').1 q)
     · simp only [Option.some.injEq] at q
       exact .inr q
   · rintro (q | rfl)
     · obtain ⟨i,hi⟩:=List.mem_iff_getElem?.1 ((h.mem k').2 q)
       exact List.mem_of_getElem? (hold i k' hi)
     · exact List.mem_of_getElem? hnew
 · intro k' hk'
   rw [hlen]
   rcases List.mem_append.1 hk' with q | q
   · obtain ⟨d',h1,h2,h3⟩:=h.at_ k' q
     refine ⟨d',h1,fun e he=>?_,?_⟩
     · obtain ⟨k2,h4,h5⟩:=h2 e he
       rw [hlen]
       exact ⟨k2,hold _ _ h4,h5⟩
     · rw [hlen]
       exact hold _ _ h3
   · simp only [List.mem_singleton] at q
     subst q
     refine ⟨d,hd,fun e he=>?_,?_⟩
     · obtain ⟨k2,h4,h5⟩:=hf.1 e he
       rw [hlen]
       exact ⟨k2,hold _ _ h4,h5⟩
     · rw [hlen]
       exact hnew
theorem KIn.room {st:Int→Nat} {S:List (Option Int)} {K:List Int} (h:KIn st S K) (hl:K.length < S.length):none ∈ S:=List.count_pos_iff.1 (by have:=h.cn;omega)
theorem kin_nil (st:Int→Nat) (n:Nat):KIn st (List.replicate n none) []:=by
 refine ⟨List.nodup_nil,fun k=>by simp [List.mem_replicate],by simp,by simp⟩
def kys:List (Option Int)→List Int
 | []=>[]
 | some k::r=>k::kys r
 | none::r=>kys r
end Go.D
end
section
namespace Go.O
open Go Go.Pav Go.Pw P Go.D
attribute [-simp] List.getElem_cons_drop
variable {C:WProg}
structure HasKm (C:WProg):Prop extends HasY C where
 f367:C.fns.get 367=some w367
 f1191:C.fns.get 1191=some w191
 f1102:C.fns.get 1102=some w102
 f1100:C.fns.get 1100=some w1100
 f99:C.fns.get 99=some P.w99
 f192:C.fns.get 192=some P.w192
theorem wU64r (x:Int):0≤IntKind.u64.wrap x∧IntKind.u64.wrap x < 18446744073709551616:=by
 show 0≤(if (false&&decide (x % 18446744073709551616 ≥ 9223372036854775808))=true then x % 18446744073709551616 - 18446744073709551616 else x % 18446744073709551616)∧(if (false&&decide (x % 18446744073709551616 ≥ 9223372036854775808))=true then x % 18446744073709551616 - 18446744073709551616 else x % 18446744073709551616) < 18446744073709551616
 simp only [Bool.false_and,Bool.false_eq_true,if_false]
 omega
theorem mix_ex (H:HasKm C) (k:Int):∃ h:Int,FnW C 367 [.int .u64 k]=some (.int .u64 h)∧0≤h∧h < 18446744073709551616:=by
 rw [fnW_eq H.f367 rfl]
 simp (disch:=omega) [w367,H.inl,inlB,H.pp,ppB]
 exact wU64r _
noncomputable def mixK (C:WProg) (k:Int):Nat:=match FnW C 367 [.int .u64 k] with
 | some (.int _ h)=>h.toNat
 | _=>0
theorem mix_ok (H:HasKm C) (k:Int):FnW C 367 [.int .u64 k]=some (.int .u64 (mixK C k))∧(mixK C k:Int) < 18446744073709551616:=by
 obtain ⟨h,h1,h2,h3⟩:=mix_ex H k
 have e:mixK C k=h.toNat:=by unfold mixK;rw [h1]
 rw [e,h1]
 refine ⟨?_,by omega⟩
 rw [show ((h.toNat:Nat):Int)=h by omega]
def eSo (V:Int→Int):Option Int→List AV
 | none=>[.int .u8 0,.int .u64 0,.int .i64 0]
 | some k=>[.int .u8 1,.int .u64 k,.int .i64 (V k)]
@[simp] theorem eSo_n (V:Int→Int):eSo V none=[.int .u8 0,.int .u64 0,.int .i64 0]:=rfl
@[simp] theorem eSo_s (V:Int→Int) (k:Int):eSo V (some k)=[.int .u8 1,.int .u64 k,.int .i64 (V k)]:=rfl
abbrev aM (V:Int→Int) (S:List (Option Int)) (f:Bool) (c:Int):AV:=.rop [.ro 3 (S.map (eSo V)) f,.int .i64 c,.int .i64 0]
theorem kat_next {S:List (Option Int)} {k:Int} {q d:Nat} (h:KAt S k q (d+1)):KAt S k ((q+1) % S.length) d:=by
 refine ⟨fun e he=>?_,?_⟩
 · have:=h.1 (e+1) (by omega)
   rwa [show q+(e+1)=q+1+e by omega,← Nat.mod_add_mod] at this
 · have:=h.2
   rwa [show q+(d+1)=q+1+d by omega,← Nat.mod_add_mod] at this
theorem kfr_next {S:List (Option Int)} {k:Int} {q d:Nat} (h:KFr S k q (d+1)):KFr S k ((q+1) % S.length) d:=by
 refine ⟨fun e he=>?_,?_⟩
 · have:=h.1 (e+1) (by omega)
   rwa [show q+(e+1)=q+1+e by omega,← Nat.mod_add_mod] at this
 · have:=h.2
   rwa [show q+(d+1)=q+1+d by omega,← Nat.mod_add_mod] at this
theorem look_loop (H:HasKm C) (V:Int→Int) (S:List (Option Int)) (f:Bool) (c:Int) (hS:S.length≤1000000) (k:Int):∀ d q r,q < S.length→r=(q+d) % S.length→∀ b:Bool,(b=true→KAt S k q d)→(b=false→KFr S k q d) →
 w191_K0 C ⟨[(6,.int .i64 (-1)),(4,.int .i64 q),(1,.int .u64 k),(0,aM V S f c)],[],0⟩=some (.tup [.int .i64 r,.bool b]):=by
 intro d
 induction d with
 | zero =>
  intro q r hlt hr b hb1 hb2
  rw [Nat.add_zero,Nat.mod_eq_of_lt hlt] at hr
  subst hr
  simp only [w191_K0];rw [ck_unf w191_B0.eq_1]
  cases b
  · have h2:=(hb2 rfl).2
    rw [Nat.add_zero,Nat.mod_eq_of_lt hlt,List.getElem?_eq_getElem hlt] at h2
    simp only [Option.some.injEq] at h2
    simp (disch:=omega) [h2,hlt,aM,wI64,H.inl,inlB,H.pp,ppB]
  · have h2:=(hb1 rfl).2
    rw [Nat.add_zero,Nat.mod_eq_of_lt hlt,List.getElem?_eq_getElem hlt] at h2
    simp only [Option.some.injEq] at h2
    simp (disch:=omega) [h2,hlt,aM,wI64,H.inl,inlB,H.pp,ppB]
 | succ d ih =>
  intro q r hlt hr b hb1 hb2
  have h0:0 < S.length:=by omega
  have hq2:(q+1) % S.length < S.length:=Nat.mod_lt _ h0
  have hr2:r=((q+1) % S.length+d) % S.length:=by rw [hr,Nat.mod_add_mod];congr 1;omega
  have this:=ih ((q+1) % S.length) r hq2 hr2 b (fun h=>kat_next (hb1 h)) (fun h=>kfr_next (hb2 h))
  have hk:∃ k',S[q]=some k'∧k'≠k:=by
   have:∃ k',S[(q+0) % S.length]?=some (some k')∧k'≠k:=by
    cases b
    · exact (hb2 rfl).1 0 (by omega)
    · exact (hb1 rfl).1 0 (by omega)
   rw [Nat.add_zero,Nat.mod_eq_of_lt hlt,List.getElem?_eq_getElem hlt] at this
   simpa using this
  obtain ⟨k',h1,h2⟩:=hk
  have hrem:((q:Int)+1).tmod S.length=(((q+1) % S.length:Nat):Int):=by
   rw [Int.tmod_eq_emod_of_nonneg (by omega)];push_cast;rfl
  have hne:¬ ((S.length:Int)=0):=by omega
  have hSn:¬ S=[]:=by intro h;rw [h] at hlt;simp at hlt
  generalize (q+1) % S.length=q2 at *
  simp only [w191_K0] at this ⊢;rw [ck_unf w191_B0.eq_1]
  simp only [aM] at this
  simp (disch:=omega) [h1,h2,hlt,hrem,hne,hSn,aM,wI64,H.inl,inlB,H.pp,ppB,this]
theorem kat_mod {S:List (Option Int)} {k:Int} {p d:Nat} (h:KAt S k p d):KAt S k (p % S.length) d:=by
 refine ⟨fun e he=>?_,?_⟩
 · have:=h.1 e he
   rwa [← Nat.mod_add_mod] at this
 · have:=h.2
   rwa [← Nat.mod_add_mod] at this
theorem kfr_mod {S:List (Option Int)} {k:Int} {p d:Nat} (h:KFr S k p d):KFr S k (p % S.length) d:=by
 refine ⟨fun e he=>?_,?_⟩
 · have:=h.1 e he
   rwa [← Nat.mod_add_mod] at this
 · have:=h.2
   rwa [← Nat.mod_add_mod] at this
theorem look_ok (H:HasKm C) (V:Int→Int) (S:List (Option Int)) (f:Bool) (c:Int) (hS:S.length≤1000000) (h0:0 < S.length) (k:Int) (d:Nat) (b:Bool) (hb1:b=true→KAt S k (mixK C k) d) (hb2:b=false→KFr S k (mixK C k) d) :
 FnW C 1191 [aM V S f c,.int .u64 k]=some (.tup [.int .i64 ((mixK C k+d) % S.length:Nat),.bool b]):=by
 have hlt:mixK C k % S.length < S.length:=Nat.mod_lt _ h0
 have h:=look_loop H V S f c hS k d (mixK C k % S.length) ((mixK C k+d) % S.length) hlt (by rw [Nat.mod_add_mod]) b (fun h=>kat_mod (hb1 h)) (fun h=>kfr_mod (hb2 h))
 obtain ⟨hm,hmb⟩:=mix_ok H k
 have hrem:(mixK C k:Int).tmod S.length=((mixK C k % S.length:Nat):Int):=by
  rw [Int.tmod_eq_emod_of_nonneg (by omega)];push_cast;rfl
 have hne:¬ ((S.length:Int)=0):=by omega
 have hSn:¬ S=[]:=by intro h;rw [h] at h0;simp at h0
 rw [fnW_eq H.f1191 rfl]
 generalize (mixK C k+d) % S.length=r at *
 generalize mixK C k % S.length=q at *
 generalize mixK C k=M at *
 simp only [w191_K0,aM] at h
 simp (disch:=omega) [w191,hm,hrem,hne,hSn,h,aM,wI64,wU64,H.inl,inlB,H.pp,ppB]
theorem mlen_ok (H:HasKm C) (V:Int→Int) (S:List (Option Int)) (f:Bool) (c:Int):FnW C 1102 [aM V S f c]=some (.int .i64 c):=by
 rw [fnW_eq H.f1102 rfl]
 simp (disch:=omega) [w102,aM,wI64,H.inl,inlB,H.pp,ppB]
structure KMap (C:WProg) (S:List (Option Int)) (K:List Int):Prop where
 k:KIn (mixK C) S K
 l:S.length≤100000
 r:K=[]∧S=[]∨K.length < S.length
theorem get_ok (H:HasKm C) (V:Int→Int) (S:List (Option Int)) (K:List Int) (f:Bool) (h:KMap C S K) (k:Int):FnW C 1100 [aM V S f K.length,.int .u64 k]=some (.tup [.int .i64 (if k ∈ K then V k else 0),.bool (decide (k ∈ K))]):=by
 have hl:=mlen_ok H V S f K.length
 have hS:=h.l
 rw [fnW_eq H.f1100 rfl]
 by_cases c0:K=[]
 · subst c0
   simp only [aM] at hl
   simp at hl
   simp (disch:=omega) [w1100,hl,aM,wI64,H.inl,inlB,H.pp,ppB]
 · have hKl:0 < K.length:=List.length_pos_iff.2 c0
   have hlt:K.length < S.length:=by
    rcases h.r with ⟨q,_⟩ | q
    · exact absurd q c0
    · exact q
   by_cases ck:k ∈ K
   · obtain ⟨d,hd,hat⟩:=h.k.at_ k ck
     have hlk:=look_ok H V S f K.length (by omega) (by omega) k d true (fun _=>hat) (by simp)
     have hpos:=hat.2
     have hr:(mixK C k+d) % S.length < S.length:=Nat.mod_lt _ (by omega)
     rw [List.getElem?_eq_getElem hr] at hpos
     simp only [Option.some.injEq] at hpos
     rw [decide_eq_true ck,if_pos ck]
     generalize (mixK C k+d) % S.length=r at *
     simp only [aM] at hl hlk
     simp (disch:=omega) [w1100,hl,hlk,c0,hr,hpos,aM,wI64,H.inl,inlB,H.pp,ppB]
   · obtain ⟨d,hd,hfr⟩:=kfr_ex (fun q=>ck ((h.k.mem k).1 q)) (h.k.room hlt) (mixK C k)
     have hlk:=look_ok H V S f K.length (by omega) (by omega) k d false (by simp) (fun _=>hfr)
     rw [decide_eq_false ck,if_neg ck]
     generalize (mixK C k+d) % S.length=r at *
     simp only [aM] at hl hlk
     simp (disch:=omega) [w1100,hl,hlk,c0,aM,wI64,H.inl,inlB,H.pp,ppB]
theorem put_room (H:HasKm C) (V:Int→Int) (S:List (Option Int)) (K:List Int) (h:KMap C S K) (k:Int) (h0:¬ k=0) (hk:k ∉ K) (hK:K.length < 4096) (hr:4 * (K.length+1)≤3 * S.length) (X:List AV) :
 ∃ (S':List (Option Int)) (m:Nat),KMap C S' (K++[k])∧S'.length=S.length∧RnW C 99 [.ptr 0 0 0,.int .u64 k,.int .i64 (V k)] [(0,.cells 3 [[.sl 1 3 0 S.length S.length true,.int .i64 K.length,.int .i64 0]] true false),(1,.cells 3 (S.map (eSo V)) true true),(2,.cells 2 [X] true true)] 16 =
  some (.int .i64 0,[(0,.cells 3 [[.sl 1 3 0 S.length S.length true,.int .i64 (K.length+1:Nat),.int .i64 0]] true false),(1,.cells 3 (S'.map (eSo V)) true true),(2,.cells 2 [X] true true)],m):=by
 have hS:=h.l
 have hlt:K.length < S.length:=by omega
 obtain ⟨d,hd,hfr⟩:=kfr_ex (fun q=>hk ((h.k.mem k).1 q)) (h.k.room hlt) (mixK C k)
 have hlk:=fun f c=>look_ok H V S f c (by omega) (by omega) k d false (by simp) (fun _=>hfr)
 have hput:=kin_put h.k hk hd hfr
 have hpos:=hfr.2
 have hrr:(mixK C k+d) % S.length < S.length:=Nat.mod_lt _ (by omega)
 rw [List.getElem?_eq_getElem hrr] at hpos
 simp only [Option.some.injEq] at hpos
 generalize (mixK C k+d) % S.length=r at *
 have hT:List.take S.length (List.map (eSo V) S)=List.map (eSo V) S:=List.take_of_length_le (by simp)
 refine ⟨S.set r (some k),?_⟩
 have hKM:KMap C (S.set r (some k)) (K++[k]):=⟨hput,by simpa using h.l,.inr (by simp;omega)⟩
 have hne:¬ ((K.length:Int)=4096):=by omega
 have hw:¬ (3 * (S.length:Int) < 4 * ((K.length:Int)+1)):=by omega
 have hSn:0 < S.length:=by omega
 have hrun:∃ m,RnW C 99 [.ptr 0 0 0,.int .u64 k,.int .i64 (V k)] [(0,.cells 3 [[.sl 1 3 0 S.length S.length true,.int .i64 K.length,.int .i64 0]] true false),(1,.cells 3 (S.map (eSo V)) true true),(2,.cells 2 [X] true true)] 16 =
  some (.int .i64 0,[(0,.cells 3 [[.sl 1 3 0 S.length S.length true,.int .i64 (K.length+1:Nat),.int .i64 0]] true false),(1,.cells 3 ((S.set r (some k)).map (eSo V)) true true),(2,.cells 2 [X] true true)],m):=by
  rw [rnW_eq H.f99 rfl]
  simp only [aM] at hlk
  simp at hlk
  simp (disch:=omega) [P.w99,hT,hlk,h0,hne,hw,hSn,hrr,hpos,wI64,H.inl,inlB,H.pp,ppB]
 obtain ⟨m,hrun⟩:=hrun
 exact ⟨m,hKM,by simp,hrun⟩
def wsz:Nat→Nat→Nat→Nat
 | 0,s,_=>s
 | f+1,s,n=>if s < 2 * n then wsz f (s * 2) n else s
theorem wsz_le:∀ (f s n:Nat),s≤4096 * 4→n≤4096→wsz f s n≤4096 * 4
 | 0,s,n,h,_=>h
 | f+1,s,n,h,hn=>by
  rw [wsz]
  split
  · exact wsz_le f (s * 2) n (by omega) hn
  · exact h
theorem wsz_ge:∀ (f s n:Nat),0 < s→2 * n≤s * 2 ^ f→2 * n≤wsz f s n
 | 0,s,n,h0,h=>by simpa [wsz] using h
 | f+1,s,n,h0,h=>by
  rw [wsz]
  split
  · exact wsz_ge f (s * 2) n (by omega) (by rw [Nat.pow_succ,Nat.mul_comm _ 2] at h;rw [Nat.mul_assoc];exact h)
  · omega
theorem size_loop (H:HasKm C) (V:Int→Int) (need:Nat) (hn:need≤4096) (S:List (Option Int)) (c:Int) (X:List AV):∀ f s,s≤4096 * 4→2 * need≤s * 2 ^ f→∀ R,
 (CK C 41 (fnEndW []) [] P.w192_c0 ⟨[(4,.int .i64 (wsz f s need)),(0,.ptr 0 0 0)],[(0,.cells 3 [[.sl 1 3 0 S.length S.length true,.int .i64 c,.int .i64 0]] true false),(1,.cells 3 (S.map (eSo V)) true true),(2,.cells 2 [X] true true)],41⟩=R) →
 CK C 41 (fnEndW []) [.sq P.w192_L1,.bk 0 ⟨true,[4,0],[]⟩,.sq P.w192_c0] P.w192_B1 ⟨[(4,.int .i64 s),(1,.int .i64 need),(0,.ptr 0 0 0)],[(0,.cells 3 [[.sl 1 3 0 S.length S.length true,.int .i64 c,.int .i64 0]] true false),(1,.cells 3 (S.map (eSo V)) true true),(2,.cells 2 [X] true true)],41⟩=R:=by
 intro f
 induction f with
 | zero =>
  intro s hs hp R hR
  rw [wsz] at hR
  have h1:¬ ((s:Int) < 2 * need):=by omega
  rw [ck_unf P.w192_B1.eq_1]
  simp (disch:=omega) [h1,hR,wI64,H.inl,inlB,H.pp,ppB]
 | succ f ih =>
  intro s hs hp R hR
  rw [ck_unf P.w192_B1.eq_1]
  by_cases h1:s < 2 * need
  · have h1':(s:Int) < 2 * need:=by omega
    have:=ih (s * 2) (by omega) (by rw [Nat.pow_succ,Nat.mul_comm _ 2] at hp;rw [Nat.mul_assoc];exact hp) R (by rw [wsz,if_pos h1] at hR;exact hR)
    simp at this
    simp (disch:=omega) [h1',this,wI64,H.inl,inlB,H.pp,ppB]
  · have h1':¬ ((s:Int) < 2 * need):=by omega
    rw [wsz,if_neg h1] at hR
    simp (disch:=omega) [h1',hR,wI64,H.inl,inlB,H.pp,ppB]
theorem kys_app:∀ a b:List (Option Int),kys (a++b)=kys a++kys b
 | [],b=>rfl
 | some k::r,b=>by rw [List.cons_append,kys,kys,kys_app r b];rfl
 | none::r,b=>by rw [List.cons_append,kys,kys,kys_app r b]
theorem rehash_loop (H:HasKm C) (V:Int→Int) (S:List (Option Int)) (hS:S.length≤100000) (hnd:(kys S).Nodup) (M:Nat) (hM:M≤100000) (hroom:(kys S).length < M) (c:Int) (X:List AV):∀ n i,n+i=S.length→∀ S2:List (Option Int),S2.length=M→KIn (mixK C) S2 (kys (S.take i)) →
 ∃ (S3:List (Option Int)) (m:Nat),S3.length=M∧KIn (mixK C) S3 (kys S) ∧
 CK C 41 (fnEndW []) [.sq P.w192_L0,.bk 2 ⟨true,[],[]⟩] P.w192_B0 ⟨[(30,.int .i64 i),(29,.int .i64 S.length),(28,.sl 1 3 0 S.length S.length true),(0,.ptr 0 0 0)],
  [(0,.cells 3 [[.sl 41 3 0 M M true,.int .i64 c,.int .i64 0]] true false),(1,.cells 3 (S.map (eSo V)) true true),(2,.cells 2 [X] true true),(41,.cells 3 (S2.map (eSo V)) true true)],42⟩ =
  some (.tup [],[(0,.cells 3 [[.sl 41 3 0 M M true,.int .i64 c,.int .i64 0]] true false),(1,.cells 3 (S.map (eSo V)) true true),(2,.cells 2 [X] true true),(41,.cells 3 (S3.map (eSo V)) true true)],m):=by
 intro n
 induction n with
 | zero =>
  intro i hi S2 hl hK
  have hT:S.take i=S:=List.take_of_length_le (by omega)
  have h3:¬ i < S.length:=by omega
  rw [hT] at hK
  have hrun:∃ m,CK C 41 (fnEndW []) [.sq P.w192_L0,.bk 2 ⟨true,[],[]⟩] P.w192_B0 ⟨[(30,.int .i64 i),(29,.int .i64 S.length),(28,.sl 1 3 0 S.length S.length true),(0,.ptr 0 0 0)],
   [(0,.cells 3 [[.sl 41 3 0 M M true,.int .i64 c,.int .i64 0]] true false),(1,.cells 3 (S.map (eSo V)) true true),(2,.cells 2 [X] true true),(41,.cells 3 (S2.map (eSo V)) true true)],42⟩ =
   some (.tup [],[(0,.cells 3 [[.sl 41 3 0 M M true,.int .i64 c,.int .i64 0]] true false),(1,.cells 3 (S.map (eSo V)) true true),(2,.cells 2 [X] true true),(41,.cells 3 (S2.map (eSo V)) true true)],m):=by
   rw [ck_unf P.w192_B0.eq_1]
   simp (disch:=omega) [h3,wI64,H.inl,inlB,H.pp,ppB]
  obtain ⟨m,hrun⟩:=hrun
  exact ⟨S2,m,hl,hK,hrun⟩
 | succ n ih =>
  intro i hi S2 hl hK
  have p1:i < S.length:=by omega
  have hft:S.take (i+1)=S.take i++[S[i]]:=List.take_succ_eq_append_getElem p1
  have conv:∀ (x y:Option (AV × WHeap × Nat)),x=y→(∃ (S3:List (Option Int)) (m:Nat),S3.length=M∧KIn (mixK C) S3 (kys S)∧y=some (.tup [],[(0,.cells 3 [[.sl 41 3 0 M M true,.int .i64 c,.int .i64 0]] true false),(1,.cells 3 (S.map (eSo V)) true true),(2,.cells 2 [X] true true),(41,.cells 3 (S3.map (eSo V)) true true)],m)) →
   ∃ (S3:List (Option Int)) (m:Nat),S3.length=M∧KIn (mixK C) S3 (kys S)∧x=some (.tup [],[(0,.cells 3 [[.sl 41 3 0 M M true,.int .i64 c,.int .i64 0]] true false),(1,.cells 3 (S.map (eSo V)) true true),(2,.cells 2 [X] true true),(41,.cells 3 (S3.map (eSo V)) true true)],m):=by
   intro x y h;subst h;exact id
  cases hv:S[i] with
  | none =>
   have this:=ih (i+1) (by omega) S2 hl (by rw [hft,kys_app,hv];simpa [kys] using hK)
   refine conv _ _ ?_ this
   rw [ck_unf P.w192_B0.eq_1]
   simp (disch:=omega) [p1,hv,wI64,H.inl,inlB,H.pp,ppB]
  | some k =>
   have hsp:kys S=kys (S.take i)++(k::kys (S.drop (i+1))):=by
    have:S=S.take i++(S[i]::S.drop (i+1)):=by rw [← List.drop_eq_getElem_cons p1,List.take_append_drop]
    rw [hv] at this
    calc kys S=kys (S.take i++(some k::S.drop (i+1))):=by rw [← this]
     _=_:=by rw [kys_app];rfl
   have hk:k ∉ kys (S.take i):=by
    rw [hsp,List.nodup_append] at hnd
    intro q
    exact hnd.2.2 k q k (by simp) rfl
   have hle:(kys (S.take i)).length < M:=by
    have:=congrArg List.length hsp
    simp at this
    omega
   obtain ⟨d,hd,hfr⟩:=kfr_ex (fun q=>hk ((hK.mem k).1 q)) (hK.room (by omega)) (mixK C k)
   have hlk:=fun f=>look_ok H V S2 f c (by omega) (by omega) k d false (by simp) (fun _=>hfr)
   have hput:=kin_put hK hk hd hfr
   have hrr:(mixK C k+d) % S2.length < S2.length:=Nat.mod_lt _ (by omega)
   have hpos:=hfr.2
   rw [List.getElem?_eq_getElem hrr] at hpos
   simp only [Option.some.injEq] at hpos
   generalize (mixK C k+d) % S2.length=r at *
   have this:=ih (i+1) (by omega) (S2.set r (some k)) (by simpa using hl) (by rw [hft,kys_app,hv];exact hput)
   refine conv _ _ ?_ this
   have hT:List.take M (List.map (eSo V) S2)=List.map (eSo V) S2:=List.take_of_length_le (by simp;omega)
   have hr2:r < M:=by omega
   rw [ck_unf P.w192_B0.eq_1]
   simp only [aM] at hlk
   simp at hlk
   simp (disch:=omega) [p1,hv,hT,hl,hlk,hr2,hpos,wI64,H.inl,inlB,H.pp,ppB]
theorem widen_ok (H:HasKm C) (V:Int→Int) (S:List (Option Int)) (hS:S.length≤100000) (hnd:(kys S).Nodup) (need:Nat) (hn:need≤4096) (hk:(kys S).length < need) (c:Int) (X:List AV) :
 ∃ (S3:List (Option Int)) (m:Nat),S3.length=wsz 20 8 need∧KIn (mixK C) S3 (kys S) ∧
  RnW C 192 [.ptr 0 0 0,.int .i64 need] [(0,.cells 3 [[.sl 1 3 0 S.length S.length true,.int .i64 c,.int .i64 0]] true false),(1,.cells 3 (S.map (eSo V)) true true),(2,.cells 2 [X] true true)] 41 =
   some (.tup [],[(0,.cells 3 [[.sl 41 3 0 (wsz 20 8 need) (wsz 20 8 need) true,.int .i64 c,.int .i64 0]] true false),(1,.cells 3 (S.map (eSo V)) true true),(2,.cells 2 [X] true true),(41,.cells 3 (S3.map (eSo V)) true true)],m):=by
 have hw1:=wsz_le 20 8 need (by omega) hn
 have hw2:=wsz_ge 20 8 need (by omega) (by omega)
 obtain ⟨S3,m,h1,h2,h3⟩:=rehash_loop H V S hS hnd (wsz 20 8 need) (by omega) (by omega) c X S.length 0 rfl (List.replicate (wsz 20 8 need) none) (by simp) (kin_nil _ _)
 have hc0:CK C 41 (fnEndW []) [] P.w192_c0 ⟨[(4,.int .i64 (wsz 20 8 need)),(0,.ptr 0 0 0)],[(0,.cells 3 [[.sl 1 3 0 S.length S.length true,.int .i64 c,.int .i64 0]] true false),(1,.cells 3 (S.map (eSo V)) true true),(2,.cells 2 [X] true true)],41⟩ =
  some (.tup [],[(0,.cells 3 [[.sl 41 3 0 (wsz 20 8 need) (wsz 20 8 need) true,.int .i64 c,.int .i64 0]] true false),(1,.cells 3 (S.map (eSo V)) true true),(2,.cells 2 [X] true true),(41,.cells 3 (S3.map (eSo V)) true true)],m):=by
  have hmk:wsz 20 8 need * 25≤35184372088832:=by omega
  generalize wsz 20 8 need=M at *
  rw [ck_unf P.w192_c0.eq_1]
  simp at h3
  simp (disch:=omega) [hmk,h3,wI64,H.inl,inlB,H.pp,ppB]
 have hs:=size_loop H V need hn S c X 20 8 (by omega) (by omega) _ hc0
 refine ⟨S3,m,h1,h2,?_⟩
 rw [rnW_eq H.f192 rfl]
 simp at hs
 simp (disch:=omega) [P.w192,hs,wI64,H.inl,inlB,H.pp,ppB]
theorem kys_mem:∀ (S:List (Option Int)) (k:Int),k ∈ kys S↔some k ∈ S
 | [],k=>by simp [kys]
 | some a::r,k=>by rw [kys,List.mem_cons,List.mem_cons,kys_mem r k];simp
 | none::r,k=>by rw [kys,List.mem_cons,kys_mem r k];simp
theorem kys_cnt:∀ (S:List (Option Int)),S.count none+(kys S).length=S.length
 | []=>rfl
 | some a::r=>by
  have:=kys_cnt r
  rw [kys,List.count_cons,List.length_cons,List.length_cons]
  simp
  omega
 | none::r=>by
  have:=kys_cnt r
  rw [kys,List.count_cons,List.length_cons]
  simp
  omega
theorem kin_kys {st:Int→Nat} {S S3:List (Option Int)} {K:List Int} (h:KIn st S K) (h3:KIn st S3 (kys S)):KIn st S3 K:=by
 have e:∀ k,k ∈ kys S↔k ∈ K:=fun k=>(kys_mem S k).trans (h.mem k)
 have hl:(kys S).length=K.length:=by have:=h.cn;have:=kys_cnt S;omega
 exact ⟨h.nd,fun k=>(h3.mem k).trans (e k),fun k hk=>h3.at_ k ((e k).2 hk),by have:=h3.cn;omega⟩
theorem nd_of_len:∀ (K L:List Int),K.Nodup→(∀ k ∈ K,k ∈ L)→L.length=K.length→L.Nodup
 | [],L,_,_,h=>by rw [List.eq_nil_of_length_eq_zero h];exact List.nodup_nil
 | a::K,L,hn,hs,hl=>by
  have ha:=hs a (by simp)
  have hp:L.Perm (a::L.erase a):=List.perm_cons_erase ha
  rw [List.nodup_cons] at hn
  have hlen:(L.erase a).length=K.length:=by have:=hp.length_eq;simp at this hl;omega
  have hn2:=nd_of_len K (L.erase a) hn.2 (fun k hk=>by
   have hne:k≠a:=fun q=>hn.1 (q ▸ hk)
   exact (List.mem_erase_of_ne hne).2 (hs k (List.mem_cons_of_mem _ hk))) hlen
  refine hp.nodup_iff.2 (List.nodup_cons.2 ⟨fun q=>?_,hn2⟩)
  have h3:∀ k ∈ a::K,k ∈ L.erase a:=fun k hk=>by
   rcases List.mem_cons.1 hk with rfl | hk
   · exact q
   · have hne:k≠a:=fun q=>hn.1 (q ▸ hk)
     exact (List.mem_erase_of_ne hne).2 (hs k (List.mem_cons_of_mem _ hk))
  have h4:(a::K).length≤(L.erase a).length:=by
   have hsub:∀ (A B:List Int),A.Nodup→(∀ k ∈ A,k ∈ B)→A.length≤B.length:=by
    intro A
    induction A with
    | nil=>intro B _ _;simp
    | cons x A ih =>
     intro B hA hB
     rw [List.nodup_cons] at hA
     have hx:=hB x (by simp)
     have:=ih (B.erase x) hA.2 (fun k hk=>by
      have hne:k≠x:=fun q=>hA.1 (q ▸ hk)
      exact (List.mem_erase_of_ne hne).2 (hB k (List.mem_cons_of_mem _ hk)))
     have h5:=(List.perm_cons_erase hx).length_eq
     simp at h5 ⊢
     omega
   exact hsub _ _ (List.nodup_cons.2 hn) h3
  simp at h4
  omega
theorem kin_nd {st:Int→Nat} {S:List (Option Int)} {K:List Int} (h:KIn st S K):(kys S).Nodup :=
 nd_of_len K (kys S) h.nd (fun k hk=>(kys_mem S k).2 ((h.mem k).2 hk)) (by have:=h.cn;have:=kys_cnt S;omega)
theorem kin_kl {st:Int→Nat} {S:List (Option Int)} {K:List Int} (h:KIn st S K):(kys S).length=K.length:=by have:=h.cn;have:=kys_cnt S;omega
theorem put_wide (H:HasKm C) (V:Int→Int) (S:List (Option Int)) (K:List Int) (h:KMap C S K) (k:Int) (h0:¬ k=0) (hk:k ∉ K) (hK:K.length < 4096) (hlt:K.length < S.length) (hr:3 * S.length < 4 * (K.length+1)) (X:List AV) :
 ∃ (S':List (Option Int)) (m:Nat),KMap C S' (K++[k])∧RnW C 99 [.ptr 0 0 0,.int .u64 k,.int .i64 (V k)] [(0,.cells 3 [[.sl 1 3 0 S.length S.length true,.int .i64 K.length,.int .i64 0]] true false),(1,.cells 3 (S.map (eSo V)) true true),(2,.cells 2 [X] true true)] 16 =
  some (.int .i64 0,[(0,.cells 3 [[.sl 16 3 0 S'.length S'.length true,.int .i64 (K.length+1:Nat),.int .i64 0]] true false),(1,.cells 3 (S.map (eSo V)) true true),(2,.cells 2 [X] true true),(16,.cells 3 (S'.map (eSo V)) true true)],m):=by
 have hS:=h.l
 obtain ⟨d,hd,hfr⟩:=kfr_ex (fun q=>hk ((h.k.mem k).1 q)) (h.k.room hlt) (mixK C k)
 have hlk:=fun f c=>look_ok H V S f c (by omega) (by omega) k d false (by simp) (fun _=>hfr)
 have hSk:=kin_kl h.k
 obtain ⟨S3,m3,w1,w2,w3⟩:=widen_ok H V S (by omega) (kin_nd h.k) (K.length+1) (by omega) (by omega) K.length X
 have w2:=kin_kys h.k w2
 have hw1:=wsz_le 20 8 (K.length+1) (by omega) (by omega)
 have hw2:=wsz_ge 20 8 (K.length+1) (by omega) (by omega)
 rw [← w1] at w3 hw1 hw2
 obtain ⟨d3,hd3,hfr3⟩:=kfr_ex (fun q=>hk ((w2.mem k).1 q)) (w2.room (by omega)) (mixK C k)
 have hlk3:=fun f c=>look_ok H V S3 f c (by omega) (by omega) k d3 false (by simp) (fun _=>hfr3)
 have hput:=kin_put w2 hk hd3 hfr3
 have hpos:=hfr3.2
 have hrr:(mixK C k+d3) % S3.length < S3.length:=Nat.mod_lt _ (by omega)
 rw [List.getElem?_eq_getElem hrr] at hpos
 simp only [Option.some.injEq] at hpos
 generalize (mixK C k+d3) % S3.length=r3 at *
 have hKM:KMap C (S3.set r3 (some k)) (K++[k]):=⟨hput,by simp;omega,.inr (by simp;omega)⟩
 have hT3:List.take S3.length (List.map (eSo V) S3)=List.map (eSo V) S3:=List.take_of_length_le (by simp)
 refine ⟨S3.set r3 (some k),?_⟩
 have hrun:∃ m,RnW C 99 [.ptr 0 0 0,.int .u64 k,.int .i64 (V k)] [(0,.cells 3 [[.sl 1 3 0 S.length S.length true,.int .i64 K.length,.int .i64 0]] true false),(1,.cells 3 (S.map (eSo V)) true true),(2,.cells 2 [X] true true)] 16 =
  some (.int .i64 0,[(0,.cells 3 [[.sl 16 3 0 S3.length S3.length true,.int .i64 (K.length+1:Nat),.int .i64 0]] true false),(1,.cells 3 (S.map (eSo V)) true true),(2,.cells 2 [X] true true),(16,.cells 3 ((S3.set r3 (some k)).map (eSo V)) true true)],m):=by
  generalize (mixK C k+d) % S.length=r at *
  have hT:List.take S.length (List.map (eSo V) S)=List.map (eSo V) S:=List.take_of_length_le (by simp)
  have hne:¬ ((K.length:Int)=4096):=by omega
  have hw:(3 * (S.length:Int) < 4 * ((K.length:Int)+1)):=by omega
  have hSn:0 < S.length:=by omega
  rw [rnW_eq H.f99 rfl]
  simp only [aM] at hlk hlk3
  simp at hlk hlk3 w3
  simp (disch:=omega) [P.w99,hT,hT3,hlk,hlk3,w3,hrr,hpos,h0,hne,hw,hSn,wI64,H.inl,inlB,H.pp,ppB]
 obtain ⟨m,hrun⟩:=hrun
 exact ⟨m,hKM,by simpa using hrun⟩
abbrev k0:WObj:=.cells 3 [[.ro 3 [] true,.int .i64 0,.int .i64 0]] true true
theorem widen_first (H:HasKm C) (V:Int→Int) (X:List AV) :
 ∃ m,RnW C 192 [.ptr 0 0 0,.int .i64 1] [(0,k0),(1,.cells 2 [X] true true)] 40 =
  some (.tup [],[(0,.cells 3 [[.sl 40 3 0 8 8 true,.int .i64 0,.int .i64 0]] true false),(1,.cells 2 [X] true true),(40,.cells 3 ((List.replicate 8 none).map (eSo V)) true true)],m):=by
 rw [rnW_eq H.f192 rfl]
 simp (disch:=omega) [P.w192,ck_unf P.w192_B1.eq_1,ck_unf P.w192_c0.eq_1,ck_unf P.w192_B0.eq_1,wI64,H.inl,inlB,H.pp,ppB]
theorem put_first (H:HasKm C) (V:Int→Int) (k:Int) (h0:¬ k=0) (X:List AV) :
 ∃ (S':List (Option Int)) (m:Nat),KMap C S' [k]∧S'≠[]∧RnW C 99 [.ptr 0 0 0,.int .u64 k,.int .i64 (V k)] [(0,k0),(1,.cells 2 [X] true true)] 15 =
  some (.int .i64 0,[(0,.cells 3 [[.sl 15 3 0 S'.length S'.length true,.int .i64 1,.int .i64 0]] true false),(1,.cells 2 [X] true true),(15,.cells 3 (S'.map (eSo V)) true true)],m):=by
 obtain ⟨m3,w3⟩:=widen_first H V X
 have hk0:KIn (mixK C) (List.replicate 8 none) []:=kin_nil _ _
 obtain ⟨d3,hd3,hfr3⟩:=kfr_ex (k:=k) (fun q=>by simpa using (hk0.mem k).1 q) (hk0.room (by simp)) (mixK C k)
 have hlk3:=fun f c=>look_ok H V (List.replicate 8 none) f c (by simp) (by simp) k d3 false (by simp) (fun _=>hfr3)
 have hput:=kin_put hk0 (by simp) hd3 hfr3
 have hpos:=hfr3.2
 have hrr:(mixK C k+d3) % (List.replicate 8 (none:Option Int)).length < (List.replicate 8 (none:Option Int)).length:=Nat.mod_lt _ (by simp)
 rw [List.getElem?_eq_getElem hrr] at hpos
 simp only [Option.some.injEq] at hpos
 have hlen:(List.replicate 8 (none:Option Int)).length=8:=List.length_replicate
 generalize hS3:List.replicate 8 (none:Option Int)=S3 at *
 generalize (mixK C k+d3) % S3.length=r3 at *
 rw [hlen] at hrr
 have hT3:List.take 8 (List.map (eSo V) S3)=List.map (eSo V) S3:=List.take_of_length_le (by simp [hlen])
 refine ⟨S3.set r3 (some k),?_⟩
 have hrun:∃ m,RnW C 99 [.ptr 0 0 0,.int .u64 k,.int .i64 (V k)] [(0,k0),(1,.cells 2 [X] true true)] 15 =
  some (.int .i64 0,[(0,.cells 3 [[.sl 15 3 0 8 8 true,.int .i64 1,.int .i64 0]] true false),(1,.cells 2 [X] true true),(15,.cells 3 ((S3.set r3 (some k)).map (eSo V)) true true)],m):=by
  rw [rnW_eq H.f99 rfl]
  simp only [aM] at hlk3
  simp at hlk3 w3
  simp (disch:=omega) [P.w99,hT3,hlk3,w3,hrr,hpos,hlen,h0,wI64,H.inl,inlB,H.pp,ppB]
 obtain ⟨m,hrun⟩:=hrun
 refine ⟨m,⟨by simpa using hput,by simp [hlen],.inr (by simp [hlen])⟩,?_,by simpa [hlen] using hrun⟩
 intro q
 have:=congrArg List.length q
 simp [hlen] at this
end Go.O
end
section
namespace Go.O
open Go Go.Pav Go.Pw
def fnd (k0:Nat) (T:List (Nat × Nat)) (i:Nat):Option (Nat × Nat):=T.find? fun x=>x.1 == k0+i+1
def szAt (l:List (Nat × Bool)) (k0:Nat) (T:List (Nat × Nat)) (i:Nat):Int:=match fnd k0 T i with
 | some x=>x.2
 | none=>((l[i]?.getD (0,false)).1:Nat)
def szL (l:List (Nat × Bool)) (k0:Nat) (T:List (Nat × Nat)):List Int:=(List.range l.length).map (szAt l k0 T)
def knB (l:List (Nat × Bool)) (k0:Nat) (T:List (Nat × Nat)) (i:Nat):Bool:=(l[i]?.getD (0,false)).2||(fnd k0 T i).isSome
structure Jx (l:List (Nat × Bool)) (k0:Nat) (T:List (Nat × Nat)) (t:Tr) (K:List (Nat × Nat)):Prop where
 tl:t.toL=szL l k0 T
 v:SV 0 K
 b:∀ s ∈ K,s.2≤l.length
 m:∀ j,inS K j↔j < l.length∧knB l k0 T j=true
theorem fnd_nil (k0 i:Nat):fnd k0 [] i=none:=rfl
theorem szL_nil (l:List (Nat × Bool)) (k0:Nat):szL l k0 []=szs l:=by
 apply List.ext_getElem
 · simp [szL]
 · intro i h1 h2
   simp [szL] at h1
   simp [szL,szAt,fnd_nil,h1]
theorem Ix.jx {l:List (Nat × Bool)} {k0:Nat} {t:Tr} {K:List (Nat × Nat)} (h:Ix l l.length t K):Jx l k0 [] t K:=by
 refine ⟨by rw [h.tl,szL_nil,List.take_of_length_le (by simp)],h.v,h.b,fun j=>?_⟩
 rw [h.m]
 constructor
 · rintro ⟨a,r,b,c⟩
   exact ⟨a,by simp [knB,b,c]⟩
 · rintro ⟨a,b⟩
   refine ⟨a,l[j],List.getElem?_eq_getElem a,?_⟩
   simpa [knB,fnd_nil,List.getElem?_eq_getElem a] using b
theorem fnd_snoc (k0:Nat) (T:List (Nat × Nat)) (x:Nat × Nat) (i:Nat):fnd k0 (T++[x]) i=(fnd k0 T i).or (if x.1=k0+i+1 then some x else none):=by
 unfold fnd
 rw [List.find?_append]
 congr 1
 by_cases c:x.1=k0+i+1
 · simp [c]
 · simp [c]
theorem Jx.skip {l:List (Nat × Bool)} {k0:Nat} {T:List (Nat × Nat)} {t:Tr} {K:List (Nat × Nat)} (h:Jx l k0 T t K) (x:Nat × Nat) (hx:∀ i,i < l.length→x.1≠k0+i+1):Jx l k0 (T++[x]) t K:=by
 have hf:∀ i,i < l.length→fnd k0 (T++[x]) i=fnd k0 T i:=fun i hi=>by rw [fnd_snoc,if_neg (hx i hi),Option.or_none]
 refine ⟨?_,h.v,h.b,fun j=>?_⟩
 · rw [h.tl]
   apply List.ext_getElem
   · simp [szL]
   · intro i h1 h2
     simp [szL] at h1
     simp [szL,szAt,hf i h1]
 · rw [h.m]
   constructor
   · rintro ⟨a,b⟩;exact ⟨a,by rw [knB,hf j a];exact b⟩
   · rintro ⟨a,b⟩;exact ⟨a,by rw [knB,hf j a] at b;exact b⟩
theorem szL_set (l:List (Nat × Bool)) (k0:Nat) (T:List (Nat × Nat)) (x:Nat × Nat) (k:Nat) (hk:k < l.length) (hx:x.1=k0+k+1) (hn:x.1 ∉ T.map Prod.fst):szL l k0 (T++[x])=(szL l k0 T).set k x.2:=by
 apply List.ext_getElem
 · simp [szL]
 · intro i h1 h2
   simp [szL] at h1
   rw [List.getElem_set]
   simp only [szL,List.getElem_map,List.getElem_range,szAt,fnd_snoc]
   by_cases c:k=i
   · subst c
     have hf:fnd k0 T k=none:=by
      unfold fnd
      rw [List.find?_eq_none]
      intro y hy hyx
      refine hn (List.mem_map.2 ⟨y,hy,?_⟩)
      simp at hyx
      omega
     rw [if_pos rfl,hf,if_pos hx]
     rfl
   · rw [if_neg c,if_neg (by omega),Option.or_none]
theorem Jx.set {l:List (Nat × Bool)} {k0:Nat} {T:List (Nat × Nat)} {t:Tr} {K:List (Nat × Nat)} (h:Jx l k0 T t K) (x:Nat × Nat) (k:Nat) (hk:k < l.length) (hx:x.1=k0+k+1) (hn:x.1 ∉ T.map Prod.fst) {t':Tr} {K':List (Nat × Nat)}
 (h1:t'.toL=t.toL.set k x.2) (h2:SV 0 K') (h3:∀ s ∈ K',s.2≤l.length) (h4:∀ j,inS K' j↔inS K j∨j=k):Jx l k0 (T++[x]) t' K':=by
 refine ⟨by rw [h1,h.tl,szL_set l k0 T x k hk hx hn],h2,h3,fun j=>?_⟩
 rw [h4,h.m]
 have hf:fnd k0 T k=none:=by
  unfold fnd
  rw [List.find?_eq_none]
  intro y hy hyx
  refine hn (List.mem_map.2 ⟨y,hy,?_⟩)
  simp at hyx
  omega
 unfold knB
 rw [fnd_snoc]
 by_cases c:j=k
 · subst c
   rw [hf,if_pos hx]
   simp [hk]
 · rw [if_neg (by omega),Option.or_none]
   simp [c]
theorem sum_map_le {α:Type} (f g:α→Int):∀ L:List α,(∀ x ∈ L,f x≤g x)→(L.map f).sum≤(L.map g).sum
 | [],_=>by simp
 | a::r,h=>by
  have h1:=h a (by simp)
  have h2:=sum_map_le f g r (fun x hx=>h x (List.mem_cons_of_mem _ hx))
  rw [List.map_cons,List.map_cons,List.sum_cons,List.sum_cons]
  omega
theorem sum_add {α:Type} (f:α→Int) (c:Int):∀ L:List α,(L.map fun x=>f x+c).sum=(L.map f).sum+L.length * c
 | []=>by simp
 | a::r=>by
  have h2:=sum_add f c r
  rw [List.map_cons,List.map_cons,List.sum_cons,List.sum_cons,h2,List.length_cons]
  push_cast
  rw [Int.add_mul]
  omega
theorem fnd_mem {k0:Nat} {T:List (Nat × Nat)} {i:Nat} {x:Nat × Nat} (h:fnd k0 T i=some x):x ∈ T∧x.1=k0+i+1:=by
 unfold fnd at h
 exact ⟨List.mem_of_find?_eq_some h,by simpa using List.find?_some h⟩
theorem szL_lb {l:List (Nat × Bool)} (hl:Rws l) (k0:Nat) (T:List (Nat × Nat)) (hT:∀ x ∈ T,1≤x.2∧x.2≤40):LB (szL l k0 T):=by
 have e:szs l=(List.range l.length).map fun i=>(((l[i]?.getD (0,false)).1:Nat):Int):=by rw [← szL_nil l 0];rfl
 refine ⟨?_,?_,?_⟩
 · intro z hz
   obtain ⟨i,hi,rfl⟩:=List.mem_map.1 hz
   unfold szAt
   split <;> omega
 · have h1:=sum_map_le (szAt l k0 T) (fun i=>(((l[i]?.getD (0,false)).1:Nat):Int)+40) (List.range l.length) (fun i hi=>by
    unfold szAt
    split
    · rename_i x hx
      have:=hT x (fnd_mem hx).1
      omega
    · omega)
   rw [sum_add,← e,List.length_range] at h1
   have h2:=hl.su
   have h3:=hl.ln
   rw [szL]
   omega
 · have:=hl.ln
   simp [szL]
   omega
end Go.O
end
section
namespace Go.O
open Go Go.Pav Go.Pw P Go.D
attribute [-simp] List.getElem_cons_drop
attribute [-simp] splice fillC AV.cells AV.cell AV.isAg isC
variable {C:WProg}
structure HasLw (C:WProg):Prop extends HasKm C where
 f84:C.fns.get 84=some w84
 f2016:C.fns.get 2016=some w97
def ks (k0 i:Nat):List Int:=(List.range i).map fun j=>(k0:Int)+(j:Nat)+1
theorem ks_len (k0 i:Nat):(ks k0 i).length=i:=by simp [ks]
theorem ks_succ (k0 i:Nat):ks k0 (i+1)=ks k0 i++[(k0:Int)+i+1]:=by simp [ks,List.range_succ]
theorem ks_mem (k0 i:Nat) (k:Int):k ∈ ks k0 i↔∃ j,j < i∧k=k0+(j:Nat)+1:=by
 simp only [ks,List.mem_map,List.mem_range]
 constructor
 · rintro ⟨j,h1,rfl⟩;exact ⟨j,h1,rfl⟩
 · rintro ⟨j,h1,rfl⟩;exact ⟨j,h1,rfl⟩
def vl (k0:Nat) (k:Int):Int:=k - k0 - 1
theorem vl_at (k0 i:Nat):vl k0 ((k0:Int)+i+1)=i:=by unfold vl;omega
section
variable (M:List (Nat × Nat)) (l:List (Nat × Bool)) (k0:Nat) (t:Tr) (K:List (Nat × Nat))
abbrev lH (n:Nat) (S:List (Option Int)):WHeap:=[(0,.cells 3 [[.sl 1 3 0 S.length S.length true,.int .i64 n,.int .i64 0]] true false),(1,.cells 3 (S.map (eSo (vl k0))) true true),(2,.cells 2 [[t.c,.ro 2 (K.map eS) true]] true true)]
abbrev lS2 (i:Nat) (S:List (Option Int)):WSt:=⟨[(11,.int .i64 i),(10,.ptr 0 0 0),(9,.ro 2 (M.map eH) false),(8,.ro 2 (l.map eR) false),(7,.ptr 2 0 0),(2,.int .u8 k0)],lH k0 t K i S,3⟩
theorem put_step (H:HasLw C) (hk0:k0 < 256) (i:Nat) (hi:i < t.cnt) (hc:t.cnt≤60) (h1:1≤i) (S:List (Option Int)) (hS:KMap C S (ks k0 i)) (hne:S≠[]):∃ S',KMap C S' (ks k0 (i+1))∧S'≠[]∧w84_K2 C (lS2 M l k0 t K i S)=w84_K2 C (lS2 M l k0 t K (i+1) S'):=by
 have hl:=xlen_ok H.toHasX t K true
 have hlen:=ks_len k0 i
 have hnk:(k0:Int)+i+1 ∉ ks k0 i:=by
  rw [ks_mem]
  rintro ⟨j,h2,h3⟩
  omega
 have hlt:(ks k0 i).length < S.length:=by
  rcases hS.r with ⟨_,q⟩ | q
  · exact absurd q hne
  · exact q
 have hV:=vl_at k0 i
 by_cases hr:4 * ((ks k0 i).length+1)≤3 * S.length
 · obtain ⟨S',m,q1,q2,q3⟩:=put_room H.toHasKm (vl k0) S (ks k0 i) hS (k0+i+1) (by omega) hnk (by omega) hr [t.c,.ro 2 (K.map eS) true]
   refine ⟨S',by rw [ks_succ];exact q1,by intro q;rw [q] at q2;exact hne (List.length_eq_zero_iff.1 q2.symm),?_⟩
   obtain ⟨R,hR⟩:∃ R,w84_K2 C (lS2 M l k0 t K (i+1) S')=R:=⟨_,rfl⟩
   rw [hR]
   simp only [w84_K2,lS2,lH] at hR ⊢
   rw [ck_unf w84_B2.eq_1]
   rw [hV] at q3
   rw [hlen] at q3
   rw [q2] at hR
   simp at hR q3 hl
   simp (disch:=omega) [hl,hi,q3,hR,q2,wI64,wU64,wU8,H.toHasP.inl,inlB,H.toHasP.pp,ppB]
 · obtain ⟨S',m,q1,q3⟩:=put_wide H.toHasKm (vl k0) S (ks k0 i) hS (k0+i+1) (by omega) hnk (by omega) hlt (by omega) [t.c,.ro 2 (K.map eS) true]
   refine ⟨S',by rw [ks_succ];exact q1,?_,?_⟩
   · intro q
     rcases q1.r with ⟨q,_⟩ | q4
     · simp at q
     · rw [q] at q4;simp at q4
   obtain ⟨R,hR⟩:∃ R,w84_K2 C (lS2 M l k0 t K (i+1) S')=R:=⟨_,rfl⟩
   rw [hR]
   simp only [w84_K2,lS2,lH] at hR ⊢
   rw [ck_unf w84_B2.eq_1]
   rw [hV] at q3
   rw [hlen] at q3
   simp at hR q3 hl
   simp (disch:=omega) [hl,hi,q3,hR,wI64,wU64,wU8,H.toHasP.inl,inlB,H.toHasP.pp,ppB]
theorem put_start (H:HasLw C) (hk0:k0 < 256) (hi:0 < t.cnt) (hc:t.cnt≤60):∃ S',KMap C S' (ks k0 1)∧S'≠[] ∧
 w84_K2 C ⟨[(11,.int .i64 0),(10,.ptr 0 0 0),(9,.ro 2 (M.map eH) false),(8,.ro 2 (l.map eR) false),(7,.ptr 1 0 0),(2,.int .u8 k0)],[(0,O.k0),(1,.cells 2 [[t.c,.ro 2 (K.map eS) true]] true true)],2⟩=w84_K2 C (lS2 M l k0 t K 1 S'):=by
 have hl:=xlen_ok H.toHasX t K true
 obtain ⟨S',m,q1,q2,q3⟩:=put_first H.toHasKm (vl k0) (k0+1) (by omega) [t.c,.ro 2 (K.map eS) true]
 have hV:vl k0 ((k0:Int)+1)=0:=by unfold vl;omega
 refine ⟨S',by simpa [ks] using q1,q2,?_⟩
 obtain ⟨R,hR⟩:∃ R,w84_K2 C (lS2 M l k0 t K 1 S')=R:=⟨_,rfl⟩
 rw [hR]
 simp only [w84_K2,lS2,lH] at hR ⊢
 rw [ck_unf w84_B2.eq_1]
 rw [hV] at q3
 simp [O.k0] at hR q3 hl
 simp (disch:=omega) [hl,hi,q3,hR,O.k0,wI64,wU64,wU8,H.toHasP.inl,inlB,H.toHasP.pp,ppB]
abbrev lS1 (n:Nat) (j q:Nat) (S:List (Option Int)):WSt:=⟨[(13,.int .i64 j),(12,.int .i64 q),(10,.ptr 0 0 0),(9,.ro 2 (M.map eH) false),(8,.ro 2 (l.map eR) false),(7,.ptr 2 0 0),(2,.int .u8 k0)],lH k0 t K n S,3⟩
theorem put_end (H:HasLw C) (S:List (Option Int)):w84_K2 C (lS2 M l k0 t K t.cnt S)=w84_K1 C (lS1 M l k0 t K t.cnt 0 0 S):=by
 have hl:=xlen_ok H.toHasX t K true
 obtain ⟨R,hR⟩:∃ R,w84_K1 C (lS1 M l k0 t K t.cnt 0 0 S)=R:=⟨_,rfl⟩
 rw [hR]
 simp only [w84_K2,w84_K1,lS2,lS1,lH] at hR ⊢
 rw [ck_unf w84_B2.eq_1]
 simp at hR hl
 simp (disch:=omega) [hl,hR,ck_unf w84_c2.eq_1,wI64,wU64,wU8,H.toHasP.inl,inlB,H.toHasP.pp,ppB]
theorem put_loop (H:HasLw C) (hk0:k0 < 256) (hc:t.cnt≤60):∀ n i,n+i=t.cnt→1≤i→∀ S,KMap C S (ks k0 i)→S≠[]→∃ S',KMap C S' (ks k0 t.cnt)∧S'≠[]∧w84_K2 C (lS2 M l k0 t K i S)=w84_K1 C (lS1 M l k0 t K t.cnt 0 0 S'):=by
 intro n
 induction n with
 | zero =>
  intro i hi h1 S hS hne
  obtain rfl:i=t.cnt:=by omega
  exact ⟨S,hS,hne,put_end M l k0 t K H S⟩
 | succ n ih =>
  intro i hi h1 S hS hne
  obtain ⟨S1,a1,a2,a3⟩:=put_step M l k0 t K H hk0 i (by omega) hc h1 S hS hne
  obtain ⟨S2,b1,b2,b3⟩:=ih (i+1) (by omega) (by omega) S1 a1 a2
  exact ⟨S2,b1,b2,a3.trans b3⟩
end
theorem tab_step (H:HasLw C) (M:List (Nat × Nat)) (hM:Tb M) (l:List (Nat × Bool)) (hl:Rws l) (k0:Nat) (hk0:k0 < 256) (S:List (Option Int)) (hS:KMap C S (ks k0 l.length)) (hne:S≠[]) (j q:Nat) (hj:j < M.length) (hq:q≤j) (t:Tr) (K:List (Nat × Nat)) (hJ:Jx l k0 (M.take j) t K) :
 ∃ t' K' q',Jx l k0 (M.take (j+1)) t' K'∧q'≤j+1∧w84_K1 C (lS1 M l k0 t K l.length j q S)=w84_K1 C (lS1 M l k0 t' K' l.length (j+1) q' S):=by
 have hcnt:t.cnt=l.length:=by rw [t.cnt_eq,hJ.tl];simp [szL]
 have htk:M.take (j+1)=M.take j++[M[j]]:=List.take_succ_eq_append_getElem hj
 have hx:=hM.k _ (List.getElem_mem hj)
 have hs:=hM.s _ (List.getElem_mem hj)
 have hMl:=hM.ln
 have hll:=hl.ln
 have hg:=get_ok H.toHasKm (vl k0) S (ks k0 l.length) true hS (M[j].1:Nat)
 rw [ks_len] at hg
 have hT:List.take S.length (List.map (eSo (vl k0)) S)=List.map (eSo (vl k0)) S:=List.take_of_length_le (by simp)
 by_cases c:((M[j].1:Nat):Int) ∈ ks k0 l.length
 · obtain ⟨i,hi,he⟩:=(ks_mem _ _ _).1 c
   have hV:vl k0 (M[j].1:Nat)=i:=by rw [he];exact vl_at k0 i
   rw [if_pos c,hV,decide_eq_true c] at hg
   have hx1:M[j].1=k0+i+1:=by omega
   have hn:M[j].1 ∉ (M.take j).map Prod.fst:=by
    have hnd:=hM.nd
    have e:M=M.take j++M[j]::M.drop (j+1):=by rw [← List.drop_eq_getElem_cons hj,List.take_append_drop]
    rw [e,List.map_append,List.nodup_append] at hnd
    intro h
    exact hnd.2.2 _ h _ (by simp) rfl
   have hlb:=szL_lb hl k0 (M.take j) (fun x hx=>hM.s x (List.mem_of_mem_take hx))
   have hlb':=szL_lb hl k0 (M.take (j+1)) (fun x hx=>hM.s x (List.mem_of_mem_take hx))
   rw [htk,szL_set l k0 _ _ i hi hx1 hn,← hJ.tl] at hlb'
   rw [← hJ.tl] at hlb
   obtain ⟨t',R,r1,r2,r3,r4,r5⟩:=xset_ok H.toHasX t K true i (by omega) M[j].2 (by omega) (by omega) hlb hlb' (by omega) hJ.v (by rw [hcnt];exact hJ.b)
   rw [hcnt] at r4
   refine ⟨t',R,q+1,by rw [htk];exact hJ.set M[j] i hi hx1 hn r2 r3 r4 r5,by omega,?_⟩
   obtain ⟨Q,hQ⟩:∃ Q,w84_K1 C (lS1 M l k0 t' R l.length (j+1) (q+1) S)=Q:=⟨_,rfl⟩
   rw [hQ]
   simp only [w84_K1,lS1,lH] at hQ ⊢
   rw [ck_unf w84_B1.eq_1]
   simp only [aM] at hg
   simp at hQ hg r1
   simp (disch:=omega) [hj,hT,hg,r1,hQ,wI64,wU64,wU8,H.toHasP.inl,inlB,H.toHasP.pp,ppB]
 · rw [if_neg c,decide_eq_false c] at hg
   refine ⟨t,K,q,by rw [htk];exact hJ.skip M[j] (fun i hi he=>c ((ks_mem _ _ _).2 ⟨i,hi,by omega⟩)),by omega,?_⟩
   obtain ⟨Q,hQ⟩:∃ Q,w84_K1 C (lS1 M l k0 t K l.length (j+1) q S)=Q:=⟨_,rfl⟩
   rw [hQ]
   simp only [w84_K1,lS1,lH] at hQ ⊢
   rw [ck_unf w84_B1.eq_1]
   simp only [aM] at hg
   simp at hQ hg
   simp (disch:=omega) [hj,hT,hg,hQ,wI64,wU64,wU8,H.toHasP.inl,inlB,H.toHasP.pp,ppB]
end Go.O
end
section
namespace Go.O
open Go Go.Pav Go.Pw P Go.D
attribute [-simp] List.getElem_cons_drop
attribute [-simp] splice fillC AV.cells AV.cell AV.isAg isC
variable {C:WProg}
abbrev lS0 (M:List (Nat × Nat)) (l:List (Nat × Bool)) (k0:Nat) (t:Tr) (K:List (Nat × Nat)) (i:Nat):WSt:=⟨[(18,.int .i64 i),(9,.ro 2 (M.map eH) false),(8,.ro 2 (l.map eR) false),(7,.ptr 0 0 0),(2,.int .u8 k0)],[(0,.cells 2 [[t.c,.ro 2 (K.map eS) true]] true true)],1⟩
theorem any_eq {K:List (Nat × Nat)} {i:Nat} {b:Bool} (h:inS K i↔b=true):K.any (inB i)=b:=by
 rw [← inS_any] at h
 cases b
 · simpa using h
 · simpa using h
theorem chk_loop (H:HasLw C) (hlive:FnW C 106 []=some (.bool true)) (M:List (Nat × Nat)) (hM:Tb M) (l:List (Nat × Bool)) (hl:Rws l) (k0:Nat) (hk0:k0 < 256) (t:Tr) (K:List (Nat × Nat)) (hJ:Jx l k0 M t K):∀ n i,n+i=l.length→w84_K0 C (lS0 M l k0 t K i)=some (.bool true):=by
 have hcnt:t.cnt=l.length:=by rw [t.cnt_eq,hJ.tl];simp [szL]
 have hll:=hl.ln
 intro n
 induction n with
 | zero =>
  intro i hi
  have h3:¬ i < l.length:=by omega
  simp only [w84_K0,lS0];rw [ck_unf w84_B0.eq_1]
  simp (disch:=omega) [h3,hlive,ck_unf w84_c0.eq_1,wI64,H.toHasP.inl,inlB,H.toHasP.pp,ppB]
 | succ n ih =>
  intro i hi
  have h1:i < l.length:=by omega
  have this:=ih (i+1) (by omega)
  have hf:=tfind_ok H.toHasY M false hM.ln (k0+i+1)
  obtain ⟨s,p1,p2⟩:=xsize_ok H.toHasX t K true i (by omega) (by omega)
  have p3:s=szAt l k0 M i:=by
   rw [hJ.tl,szL,List.getElem?_map,List.getElem?_range h1] at p2
   simpa using p2.symm
  have hk:=xknown_ok H.toHasX t K true i (by omega) (by omega) hJ.v (by rw [hcnt];exact hJ.b)
  have hkn:K.any (inB i)=knB l k0 M i:=any_eq (by rw [hJ.m];exact ⟨fun q=>q.2,fun q=>⟨h1,q⟩⟩)
  rw [hkn] at hk
  rw [p3] at p1
  change FnW C 103 _=some (match fnd k0 M i with | some x=>_ | none=>_) at hf
  unfold knB at hk
  unfold szAt at p1
  rw [List.getElem?_eq_getElem h1] at hk p1
  simp only [w84_K0,lS0] at this ⊢
  rw [ck_unf w84_B0.eq_1]
  cases e:fnd k0 M i with
  | some x =>
   rw [e] at hf hk p1
   simp at hf hk p1 this
   simp (disch:=omega) [h1,hf,hk,p1,this,wI64,wU64,wU8,H.toHasP.inl,inlB,H.toHasP.pp,ppB]
  | none =>
   rw [e] at hf hk p1
   simp at hf hk p1 this
   simp (disch:=omega) [h1,hf,hk,p1,this,wI64,wU64,wU8,H.toHasP.inl,inlB,H.toHasP.pp,ppB]
theorem tab_loop (H:HasLw C) (hlive:FnW C 106 []=some (.bool true)) (M:List (Nat × Nat)) (hM:Tb M) (l:List (Nat × Bool)) (hl:Rws l) (k0:Nat) (hk0:k0 < 256) (S:List (Option Int)) (hS:KMap C S (ks k0 l.length)) (hne:S≠[]):∀ n j,n+j=M.length→∀ q t K,q≤j→Jx l k0 (M.take j) t K→w84_K1 C (lS1 M l k0 t K l.length j q S)=some (.bool true):=by
 intro n
 induction n with
 | zero =>
  intro j hj q t K hq hJ
  rw [List.take_of_length_le (by omega)] at hJ
  have hcnt:t.cnt=l.length:=by rw [t.cnt_eq,hJ.tl];simp [szL]
  have hxl:=xlen_ok H.toHasX t K true
  have hml:=mlen_ok H.toHasKm (vl k0) S true l.length
  have hc:=chk_loop H hlive M hM l hl k0 hk0 t K hJ l.length 0 rfl
  have hT:List.take S.length (List.map (eSo (vl k0)) S)=List.map (eSo (vl k0)) S:=List.take_of_length_le (by simp)
  have h3:¬ j < M.length:=by omega
  have h4:¬ M.length < q:=by omega
  rw [hcnt] at hxl
  simp only [w84_K1,lS1,lH]
  simp only [w84_K0,lS0] at hc
  rw [ck_unf w84_B1.eq_1]
  simp only [aM] at hml
  simp at hxl hml hc
  simp (disch:=omega) [h3,h4,ck_unf w84_c1.eq_1,hT,hxl,hml,hc,wI64,wU64,wU8,H.toHasP.inl,inlB,H.toHasP.pp,ppB]
 | succ n ih =>
  intro j hj q t K hq hJ
  obtain ⟨t',K',q',a1,a2,a3⟩:=tab_step H M hM l hl k0 hk0 S hS hne j q (by omega) hq t K hJ
  rw [a3]
  exact ih (j+1) (by omega) q' t' K' a2 a1
theorem tab_loop0 (H:HasLw C) (hlive:FnW C 106 []=some (.bool true)) (M:List (Nat × Nat)) (hM:Tb M) (k0:Nat) (hk0:k0 < 256) (t:Tr) (K:List (Nat × Nat)) (hJ:Jx [] k0 M t K):∀ n j,n+j=M.length →
 w84_K1 C ⟨[(13,.int .i64 j),(12,.int .i64 0),(10,.ptr 0 0 0),(9,.ro 2 (M.map eH) false),(8,.ro 2 [] false),(7,.ptr 1 0 0),(2,.int .u8 k0)],[(0,O.k0),(1,.cells 2 [[t.c,.ro 2 (K.map eS) true]] true true)],2⟩=some (.bool true):=by
 have hMl:=hM.ln
 intro n
 induction n with
 | zero =>
  intro j hj
  have hcnt:t.cnt=0:=by rw [t.cnt_eq,hJ.tl];simp [szL]
  have hxl:=xlen_ok H.toHasX t K true
  have hml:=mlen_ok H.toHasKm (vl k0) [] true 0
  have hc:=chk_loop H hlive M hM [] ⟨by simp,⟨by simp [szs],by simp [szs],by simp [szs]⟩,by simp,by simp [szs]⟩ k0 hk0 t K hJ 0 0 rfl
  have h3:¬ j < M.length:=by omega
  rw [hcnt] at hxl
  simp only [w84_K1]
  simp only [w84_K0,lS0] at hc
  rw [ck_unf w84_B1.eq_1]
  simp only [aM] at hml
  simp at hxl hml hc
  simp (disch:=omega) [h3,ck_unf w84_c1.eq_1,hxl,hml,hc,O.k0,wI64,wU64,wU8,H.toHasP.inl,inlB,H.toHasP.pp,ppB]
 | succ n ih =>
  intro j hj
  have h1:j < M.length:=by omega
  have h:KMap C [] []:=⟨kin_nil (mixK C) 0,by simp,.inl ⟨rfl,rfl⟩⟩
  have hg:=get_ok H.toHasKm (vl k0) [] [] true h (M[j].1:Nat)
  have this:=ih (j+1) (by omega)
  simp only [w84_K1] at this ⊢
  rw [ck_unf w84_B1.eq_1]
  simp only [aM] at hg
  simp [O.k0] at hg this
  simp (disch:=omega) [h1,hg,this,O.k0,wI64,wU64,wU8,H.toHasP.inl,inlB,H.toHasP.pp,ppB]
theorem toptable_ok (H:HasLw C) (hlive:FnW C 106 []=some (.bool true)) (L:List Nat) (f g fy:Bool) (hL:∀ b ∈ L,b < 256) (L2:List (Nat × Nat)) (hL2:∀ x ∈ L2,x.1 < 256∧x.2 < 256) (k0:Nat) (hk0:k0 < 256) :
 FnW C 84 [.agg [.ro 1 (L.map e8) f,.bool g],.agg [.ro 2 (L2.map e88) fy],.int .u8 k0]=some (.bool true):=by
 have hl:=rws_ok L g
 have a2:=rows_ok H.toHasY L f g hL
 obtain ⟨t,K,hI,a1⟩:=xof_ok H.toHasY L f g hL hl
 obtain ⟨M,hM,a3⟩:=tof_ok H.toHasY L2 fy hL2
 generalize great g (rowsF L)=l at *
 have hcnt:t.cnt=l.length:=by rw [t.cnt_eq,hI.tl];simp
 have hll:=hl.ln
 have q:=fun h n=>rnW_eq (args:=[]) H.f2016 rfl h n
 have hJ:=hI.jx (k0:=k0)
 have hfin:w84_K2 C ⟨[(11,.int .i64 0),(10,.ptr 0 0 0),(9,.ro 2 (M.map eH) false),(8,.ro 2 (l.map eR) false),(7,.ptr 1 0 0),(2,.int .u8 k0)],[(0,O.k0),(1,.cells 2 [[t.c,.ro 2 (K.map eS) true]] true true)],2⟩=some (.bool true):=by
  by_cases c:0 < t.cnt
  · obtain ⟨S,b1,b2,b3⟩:=put_start M l k0 t K H hk0 c (by omega)
    obtain ⟨S',c1,c2,c3⟩:=put_loop M l k0 t K H hk0 (by omega) (t.cnt - 1) 1 (by omega) (by omega) S b1 b2
    rw [b3,c3,hcnt]
    rw [hcnt] at c1
    exact tab_loop H hlive M hM l hl k0 hk0 S' c1 c2 _ 0 rfl 0 t K (by omega) hJ
  · obtain rfl:l=[]:=List.eq_nil_of_length_eq_zero (by omega)
    have hxl:=xlen_ok H.toHasX t K true
    have ht0:t.cnt=0:=by omega
    have hJ':Jx [] k0 M t K:=by
     refine ⟨by rw [hJ.tl];rfl,hJ.v,hJ.b,fun j=>?_⟩
     rw [hJ.m];simp
    have h2:=tab_loop0 H hlive M hM k0 hk0 t K hJ' _ 0 rfl
    rw [ht0] at hxl
    simp only [w84_K1,O.k0] at h2
    simp only [w84_K2]
    rw [ck_unf w84_B2.eq_1]
    simp at hxl h2
    simp (disch:=omega) [hxl,h2,ck_unf w84_c2.eq_1,O.k0,wI64,wU64,wU8,H.toHasP.inl,inlB,H.toHasP.pp,ppB]
 simp only [w84_K2,O.k0] at hfin
 rw [fnW_eq H.f84 rfl]
 (try simp at a1)
 (try simp at a2)
 (try simp at a3)
 (try simp at hfin)
 simp (disch:=omega) [w84,a1,a2,a3,q,w97,hfin,wI64,H.toHasP.inl,inlB,H.toHasP.pp,ppB]
end Go.O
end
