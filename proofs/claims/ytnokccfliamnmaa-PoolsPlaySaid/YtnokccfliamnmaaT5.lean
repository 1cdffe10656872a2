/- Part of the theory that the claims of this work use: C21b, C21c, C21d, C21e, C21f, C21g, C21h, C21i, C21k, C21l, PwNest, C21o, C21p, C21q, C21m, C21n, C21j, C21r, C21s, PwGlue. No conditions of its own. -/
import Derived.Test.YtnokccfliamnmaaT4
import Derived.ChangeSame
import Derived.ChangeArms
import Derived.ReadAgain
import Derived.Handed
import Derived.JoinedOf
import Derived.RowKit
section
set_option linter.unusedSimpArgs false
set_option linter.unusedVariables false
namespace Go.C21
open Go Go.Pav Go.Pw P21
set_option maxRecDepth 10000
set_option maxHeartbeats 4000000
attribute [-simp] List.getElem_cons_drop
variable {C:WProg} (H:Has C)
include H
def withR (rs:List (List Int × Bool)) (k:Nat) (row:List Int) (i:Nat):List (List Int × Bool):=match rs with
 | []=>[]
 | r::rs=>(if i=k then row else r.1,true)::withR rs k row (i+1)
theorem with_loop (bs:List Int) (rs:List (List Int × Bool)) (f:Bool) (k:Nat) (row:List Int) (g:Bool) (h2:rs.length≤1000) (hr:∀ r ∈ rs,r.1.length≤1000000) (hg:row.length≤1000000):∀ n i,n+i=rs.length→∀ (acc:List (List Int × Bool)),acc.length=i →
 w25_K0 C ⟨[(21,.int .i64 i),(20,.int .i64 rs.length),(19,.ro 1 (rs.map eR) f),(7,.ptr 0 0 0),(6,.ptr 2 0 0),(2,L1 row g),(1,.int .i64 k)],
  [(0,.cells 2 [[L1 bs true,.sl 1 1 0 rs.length rs.length true]] true false),(1,.cells 1 (acc.map eR++List.replicate n [AV.ro 1 [] true]) true true),(2,.cells 2 [[.ro 1 [] true,.ro 1 [] true]] true true)],3⟩ =
  some (eP bs true (acc++withR (rs.drop i) k row i) true):=by
 intro n
 induction n with
 | zero =>
  intro i hi acc ha
  simp only [w25_K0];rw [ck_unf w25_B0.eq_1]
  have h3:¬ i < rs.length:=by omega
  have h4:rs.drop i=[]:=List.drop_eq_nil_of_le (by omega)
  have h5:acc.length=rs.length:=by omega
  have h6:List.take rs.length (List.map eR acc)=List.map eR acc:=List.take_of_length_le (by simp [h5])
  simp [ck_unf w25_c0.eq_1,h3,h4,withR,h5,h6]
 | succ n ih =>
  intro i hi acc ha
  have h3:i < rs.length:=by omega
  have hri:=hr _ (List.getElem_mem h3)
  rw [drop_cons h3]
  by_cases hk:i=k
  · subst hk
    have:=ih (i+1) (by omega) (acc++[(row,true)]) (by simp [ha])
    simp only [w25_K0] at this ⊢;rw [ck_unf w25_B0.eq_1]
    simp at this
    simp (disch:=omega) [copied_ok H,H.inl,wI64,h3,fill_get,fill_set,withR,this]
  · have:=ih (i+1) (by omega) (acc++[(rs[i].1,true)]) (by simp [ha])
    simp only [w25_K0] at this ⊢;rw [ck_unf w25_B0.eq_1]
    simp at this
    simp (disch:=omega) [copied_ok H,H.inl,wI64,h3,hk,fill_get,fill_set,withR,this]
theorem with_ok (bs:List Int) (e:Bool) (rs:List (List Int × Bool)) (f:Bool) (k:Nat) (row:List Int) (g:Bool) (h1:bs.length≤1000) (h2:rs.length≤1000) (hr:∀ r ∈ rs,r.1.length≤1000000) (hg:row.length≤1000000) :
 FnW C 25 [eP bs e rs f,.int .i64 k,L1 row g]=some (eP bs true (withR rs k row 0) true):=by
 have:=with_loop H bs rs f k row g h2 hr hg rs.length 0 (by simp) [] rfl
 rw [fnW_eq H.f25 rfl]
 simp only [w25_K0] at this
 simp at this
 simp (disch:=omega) [w25,H.inl,copied_ok H,fits,this]
theorem new_ok (bs:List Int) (e:Bool) :
 FnW C 5 [L1 bs e]=some (.tup (if chk bs (bs.map fun _=>([],true))=0 then [eP bs true (bs.map fun _=>([],true)) true,.int .i64 0] else [zP,.int .i64 1])):=by
 rw [fnW_eq H.f5 rfl]
 obtain ⟨rs,hrs⟩:∃ rs:List (List Int × Bool),bs.map (fun _=>(([]:List Int),true))=rs:=⟨_,rfl⟩
 have h3:List.replicate bs.length [AV.ro 1 [] true]=rs.map eR:=by
  rw [← hrs,List.map_map]
  exact (List.map_const' ..).symm
 have h7:rs.length=bs.length:=by rw [← hrs];simp
 have h8:List.take bs.length (List.map eR rs)=List.map eR rs:=List.take_of_length_le (by simp [h7])
 rw [hrs]
 by_cases h1:bs.length≤8
 · have h2:=check_ok H bs true rs true
   have h4:¬ 8 < bs.length:=by omega
   by_cases h5:chk bs rs=0
   · simp (disch:=omega) [w5,H.inl,copied_ok H,fits,h1,h4,h3,h2,h5,h7,h8]
   · have h6:chk bs rs=1:=by
      unfold chk at h5 ⊢
      unfold b01 at h5 ⊢
      split
      · rename_i q;rw [q] at h5;exact absurd rfl h5
      · rfl
     simp (disch:=omega) [w5,H.inl,copied_ok H,fits,h1,h4,h3,h2,h6,h7,h8]
 · have h2:8 < bs.length:=by omega
   have h5:chk bs rs=1:=by simp [chk,h1]
   simp (disch:=omega) [w5,H.inl,copied_ok H,fits,h1,h2,h5]
omit H in
theorem of_rows {bs:List Int} {rs:List (List Int × Bool)} (c:chk bs rs=0):bs.length≤8∧rs.length=bs.length∧(∀ r ∈ rs,r.1.length≤65536)∧∀ (i:Nat) (h1:i < bs.length) (h2:i < rs.length),0≤bs[i]∧bs[i]≤65536∧(rs[i].1.length:Int)≤bs[i]:=by
 have hb:∀ b,b01 b=0→b=true:=by intro b;cases b <;> simp
 have:=hb _ c
 simp only [Bool.and_eq_true,decide_eq_true_eq] at this
 obtain ⟨h1,h2,h3,h4⟩:=this
 have h5:∀ (i:Nat) (h1:i < bs.length) (h2:i < rs.length),0≤bs[i]∧bs[i]≤65536∧(rs[i].1.length:Int)≤bs[i]:=by
  intro i q1 q2
  have:=List.all_eq_true.1 h4 (bs[i],rs[i]) (by
   have q3:(bs.zip rs)[i]'(by simp;omega)=(bs[i],rs[i]):=List.getElem_zip
   exact q3 ▸ List.getElem_mem _)
  simpa [okP] using this
 refine ⟨h2,h3,fun r hr=>?_,h5⟩
 obtain ⟨i,hi,rfl⟩:=List.getElem_of_mem hr
 have:=h5 i (by omega) hi
 omega
theorem push_ok (bs:List Int) (e:Bool) (rs:List (List Int × Bool)) (f:Bool) (k x:Int) :
 FnW C 10 [eP bs e rs f,.int .i64 k,.int .i64 x]=some (.tup (if ofE bs rs k=0 then (if ((rs[k.toNat]?.getD ([],true)).1.length:Int)=bs[k.toNat]?.getD 0 then [eP bs true (withR rs k.toNat (rs[k.toNat]?.getD ([],true)).1 0) true,.bool true,.int .i64 0]
  else [eP bs true (withR rs k.toNat ((rs[k.toNat]?.getD ([],true)).1++[x]) 0) true,.bool false,.int .i64 0]) else [zP,.bool false,.int .i64 (ofE bs rs k)])):=by
 have h:=of_ok H bs e rs f k
 rw [fnW_eq H.f10 rfl]
 by_cases c:ofE bs rs k=0
 · obtain ⟨h1,h2,h3,h4,h5⟩:=of_zero c
   obtain ⟨h6,_,h7,h8⟩:=of_rows h1
   obtain ⟨k,rfl⟩:∃ n:Nat,k=n:=⟨k.toNat,by omega⟩
   simp only [Int.toNat_natCast] at h3 h5 ⊢
   have hrk:=h7 _ (List.getElem_mem h3)
   have hw:∀ row g,row.length≤1000000→FnW C 25 [eP bs e rs f,.int .i64 k,L1 row g]=some (eP bs true (withR rs k row 0) true) :=
    fun row g hg=>with_ok H bs e rs f k row g (by omega) (by omega) (fun r hr=>by have:=h7 r hr;omega) hg
   by_cases c2:(rs[k].1.length:Int)=bs[k]
   · simp (disch:=(first | omega | (simp;omega))) [w10,H.inl,h,c,h3,h5,hw,c2]
   · have hw2:=hw (rs[k].1++[x]) false (by simp;omega)
     simp [L1] at hw2
     simp (disch:=(first | omega | (simp;done) | (simp;omega))) [w10,H.inl,h,c,h3,h5,hw2,c2,clip_ok H,fits,List.take_of_length_le]
 · simp [w10,H.inl,h,c]
theorem pop_ok (bs:List Int) (e:Bool) (rs:List (List Int × Bool)) (f:Bool) (k:Int) :
 FnW C 11 [eP bs e rs f,.int .i64 k]=some (.tup (if ofE bs rs k=0 then (if (rs[k.toNat]?.getD ([],true)).1.length=0 then [eP bs true (withR rs k.toNat [] 0) true,.int .i64 0,.bool false,.int .i64 0]
  else [eP bs true (withR rs k.toNat ((rs[k.toNat]?.getD ([],true)).1.take ((rs[k.toNat]?.getD ([],true)).1.length - 1)) 0) true,.int .i64 ((rs[k.toNat]?.getD ([],true)).1[(rs[k.toNat]?.getD ([],true)).1.length - 1]?.getD 0),.bool true,.int .i64 0]) else [zP,.int .i64 0,.bool false,.int .i64 (ofE bs rs k)])):=by
 have h:=of_ok H bs e rs f k
 rw [fnW_eq H.f11 rfl]
 by_cases c:ofE bs rs k=0
 · obtain ⟨h1,h2,h3,h4,h5⟩:=of_zero c
   obtain ⟨h6,_,h7,h8⟩:=of_rows h1
   obtain ⟨k,rfl⟩:∃ n:Nat,k=n:=⟨k.toNat,by omega⟩
   simp only [Int.toNat_natCast] at h3 h5 ⊢
   have hrk:=h7 _ (List.getElem_mem h3)
   have hw:∀ row g,row.length≤1000000→FnW C 25 [eP bs e rs f,.int .i64 k,L1 row g]=some (eP bs true (withR rs k row 0) true) :=
    fun row g hg=>with_ok H bs e rs f k row g (by omega) (by omega) (fun r hr=>by have:=h7 r hr;omega) hg
   by_cases hn:rs[k].1.length=0
   · have hl:rs[k].1=[]:=List.length_eq_zero_iff.1 hn
     have:=hw [] (rs[k].2) (by simp)
     simp [L1] at this
     simp (disch:=(first | omega | (simp;done) | (simp;omega))) [w11,H.inl,h,c,h3,h5,hl,wI64,this]
   · obtain ⟨n,hn2⟩:∃ n,rs[k].1.length=n+1:=⟨rs[k].1.length - 1,by omega⟩
     have h9:n < rs[k].1.length:=by omega
     have hwn:IntKind.i64.wrap (n:Int)=n:=wI64 (by omega) (by omega)
     have hlt:¬ (n:Int) < 0:=by omega
     have:=hw (rs[k].1.take n) false (by simp;omega)
     simp [L1] at this
     simp (disch:=(first | omega | (simp;done) | (simp;omega))) [w11,H.inl,h,c,h3,h5,hn2,hwn,h9,this,hlt]
 · simp [w11,H.inl,h,c]
end Go.C21
end
section
set_option linter.unusedSimpArgs false
set_option linter.unusedVariables false
namespace Go.C21
open Go Go.Pav Go.Pw P21
set_option maxRecDepth 10000
set_option maxHeartbeats 4000000
attribute [-simp] List.getElem_cons_drop
variable {C:WProg} (H:Has C)
include H
omit H in
def fl (r:List Int × Bool):List Int × Bool:=(r.1,true)
omit H in
theorem withR_at:∀ (rs:List (List Int × Bool)) (k:Nat) (row:List Int) (i:Nat),k < i→withR rs k row i=rs.map fl:=by
 intro rs
 induction rs with
 | nil=>intros;rfl
 | cons r rs ih=>intro k row i h;simp [withR,fl,ih k row (i+1) (by omega),show ¬ i=k by omega]
omit H in
theorem withR_mid:∀ (pre:List (List Int × Bool)) (r:List Int × Bool) (post:List (List Int × Bool)) (row:List Int) (i:Nat),withR (pre++r::post) (i+pre.length) row i=pre.map fl++(row,true)::post.map fl:=by
 intro pre
 induction pre with
 | nil=>intro r post row i;simp [withR,withR_at post i row (i+1) (by omega)]
 | cons a pre ih =>
  intro r post row i
  have:=ih r post row (i+1)
  simp only [List.cons_append,withR,List.map_cons,List.length_cons]
  rw [if_neg (by omega),show i+(pre.length+1)=i+1+pre.length by omega,this];rfl
omit H in
def tr (to:Nat) (r:List Int × Bool):List Int × Bool:=(r.1.drop (r.1.length - to),true)
omit H in
def gone (to:Nat) (rs:List (List Int × Bool)):List Int:=rs.flatMap fun r=>r.1.take (r.1.length - to)
theorem trim_loop (bs:List Int) (rs:List (List Int × Bool)) (f:Bool) (to:Nat) (ht:(to:Int) < 9223372036854775808) (hb:bs.length≤8) (h2:rs.length≤8) (hr:∀ r ∈ rs,r.1.length≤65536):∀ n i,n+i=rs.length→∀ (e2 f2:Bool) (pre rest:List (List Int × Bool)) (G:List Int),
 pre.length=i→rest.map (·.1)=(rs.drop i).map (·.1)→(∀ r ∈ pre,r.1.length≤65536)→G.length≤65536 * i →
 w12_K0 C ⟨[(24,.int .i64 i),(23,.int .i64 rs.length),(22,.ro 1 (rs.map eR) f),(5,.sl 0 1 0 G.length G.length false),(4,.ptr 1 0 0),(1,.int .i64 to)],
  [(0,.cells 1 (G.map eI) true true),(1,.cells 2 [[L1 bs e2,.ro 1 ((pre++rest).map eR) f2]] true true)],2⟩ =
  some (.tup [if n=0 then eP bs e2 pre f2 else eP bs true (pre.map fl++(rs.drop i).map (tr to)) true,L1 (G++gone to (rs.drop i)) true,.int .i64 0]):=by
 intro n
 induction n with
 | zero =>
  intro i hi e2 f2 pre rest G hp hrest hpre hG
  simp only [w12_K0];rw [ck_unf w12_B0.eq_1]
  have h3:¬ i < rs.length:=by omega
  have h4:rs.drop i=[]:=List.drop_eq_nil_of_le (by omega)
  have h5:rest=[]:=by rw [h4] at hrest;simpa using hrest
  have h6:=clip_ok H G false
  simp only [L1] at h6
  simp (disch:=(first | omega | (simp;done) | (simp;omega))) [ck_unf w12_c0.eq_1,h3,h4,h5,gone,H.inl,List.take_of_length_le,h6]
 | succ n ih =>
  intro i hi e2 f2 pre rest G hp hrest hpre hG
  have h3:i < rs.length:=by omega
  have hri:=hr _ (List.getElem_mem h3)
  rw [drop_cons h3] at hrest ⊢
  cases rest with
  | nil=>simp at hrest
  | cons r rest =>
   simp only [List.map_cons,List.cons.injEq] at hrest
   obtain ⟨hr1,hrest⟩:=hrest
   have hcur:∀ q ∈ pre++r::rest,q.1.length≤1000000:=by
    intro q hq
    rcases List.mem_append.1 hq with h | h
    · have:=hpre q h;omega
    · have hm:q.1 ∈ (rs.drop i).map (·.1):=by
       rw [drop_cons h3,List.map_cons,← hr1,← hrest]
       exact List.mem_map_of_mem (f:=(·.1)) h
      obtain ⟨q2,hq2,e⟩:=List.mem_map.1 hm
      have:=hr q2 (List.mem_of_mem_drop hq2)
      rw [← e];omega
   have hlen:(pre++r::rest).length=rs.length:=by
    have:=congrArg List.length hrest
    simp at this
    simp;omega
   have hw:∀ row g,row.length≤1000000→FnW C 25 [eP bs e2 (pre++r::rest) f2,.int .i64 i,L1 row g]=some (eP bs true (pre.map fl++(row,true)::rest.map fl) true):=by
    intro row g hg
    have:=with_ok H bs e2 (pre++r::rest) f2 i row g (by omega) (by omega) hcur hg
    rw [this,← hp]
    have:=withR_mid pre r rest row 0
    rw [Nat.zero_add] at this
    rw [this]
   obtain ⟨row,hrow⟩:∃ row,rs[i].1=row:=⟨_,rfl⟩
   rw [hrow] at hri
   have hih:=fun G' (hG':G'.length≤65536 * (i+1))=>ih (i+1) (by omega) true true (pre.map fl++[(row.drop (row.length - to),true)]) (rest.map fl) G' (by simp [hp]) (by
    rw [← hrest,List.map_map];rfl) (by
    intro q hq
    rcases List.mem_append.1 hq with h | h
    · obtain ⟨q2,h2,rfl⟩:=List.mem_map.1 h
      exact hpre q2 h2
    · simp at h;subst h;simp;omega) hG'
   simp only [w12_K0] at hih ⊢
   have hfl:fl ∘ fl=fl:=rfl
   have htr:tr to rs[i]=(row.drop (row.length - to),true):=by unfold tr;rw [hrow]
   have hgo:gone to (rs[i]::rs.drop (i+1))=row.take (row.length - to)++gone to (rs.drop (i+1)):=by
    unfold gone;rw [List.flatMap_cons,hrow]
   have hfin:(if n=0 then eP bs true (pre.map fl++[(row.drop (row.length - to),true)]) true
    else eP bs true ((pre.map fl++[(row.drop (row.length - to),true)]).map fl++(rs.drop (i+1)).map (tr to)) true) =
    eP bs true (pre.map fl++tr to rs[i]::(rs.drop (i+1)).map (tr to)) true:=by
    rw [htr]
    split
    · rename_i hn
      have hd:rs.drop (i+1)=[]:=List.drop_eq_nil_of_le (by omega)
      rw [hd];simp
    · simp [hfl,fl]
   rw [hgo,if_neg (by omega),List.map_cons,← hfin,← List.append_assoc]
   clear hfin
   generalize (if n=0 then eP bs true (pre.map fl++[(row.drop (row.length - to),true)]) true
    else eP bs true ((pre.map fl++[(row.drop (row.length - to),true)]).map fl++(rs.drop (i+1)).map (tr to)) true)=R at hih ⊢
   by_cases hm:row.length≤to
   · have h8:row.length - to=0:=by omega
     have hw2:=hw row rs[i].2 (by omega)
     have hih2:=hih G (by omega)
     rw [h8] at hih2
     rw [h8]
     have h9:IntKind.i64.wrap ((row.length:Int) - to)=(row.length:Int) - to:=wI64 (by omega) (by omega)
     have h10:imax ((row.length:Int) - to) 0=0:=imax_r (by omega)
     rw [ck_unf w12_B0.eq_1]
     simp [L1,eP] at hih2 hw2
     simp (disch:=(first | omega | (simp;done) | (simp;omega))) [h3,hrow,h9,h10,H.inl,hw2,List.take_of_length_le,hih2,wI64]
   · obtain ⟨m,hm2⟩:∃ m,row.length - to=m+1:=⟨row.length - to - 1,by omega⟩
     have h9:IntKind.i64.wrap ((row.length:Int) - to)=((m+1:Nat):Int):=by rw [wI64 (by omega) (by omega)];omega
     have h10:imax ((m+1:Nat):Int) 0=((m+1:Nat):Int):=imax_l (by omega)
     cases row with
     | nil=>simp at hm
     | cons a row =>
      rw [hm2] at hih ⊢
      have hmr:m≤row.length:=by simp at hm2;omega
      have hih2:=hih (G++(a::row).take (m+1)) (by simp at hri ⊢;omega)
      have hw2:=hw ((a::row).drop (m+1)) rs[i].2 (by simp at hri ⊢;omega)
      rw [ck_unf w12_B0.eq_1]
      simp [L1,eP,Nat.min_eq_left hmr] at hih2 hw2 h9 h10
      simp (disch:=(first | omega | (simp;done) | (simp;omega))) [h3,hrow,h9,h10,H.inl,hw2,List.take_of_length_le,hih2,wI64,fits,hmr]
end Go.C21
end
section
set_option linter.unusedSimpArgs false
set_option linter.unusedVariables false
namespace Go.C21
open Go Go.Pav Go.Pw P21
set_option maxRecDepth 10000
set_option maxHeartbeats 4000000
attribute [-simp] List.getElem_cons_drop
variable {C:WProg} (H:Has C)
include H
theorem trim_ok (bs:List Int) (e:Bool) (rs:List (List Int × Bool)) (f:Bool) (to:Int) (ht:to < 9223372036854775808) :
 FnW C 12 [eP bs e rs f,.int .i64 to]=some (.tup (if chk bs rs=0 then (if to < 0 then [zP,.ro 1 [] true,.int .i64 4] else [eP bs true (rs.map (tr to.toNat)) true,L1 (gone to.toNat rs) true,.int .i64 0]) else [zP,.ro 1 [] true,.int .i64 (chk bs rs)])):=by
 have h:=check_ok H bs e rs f
 rw [fnW_eq H.f12 rfl]
 by_cases c:chk bs rs=0
 · by_cases c1:to < 0
   · simp [w12,H.inl,h,c,c1]
   · obtain ⟨h6,h5,h7,h8⟩:=of_rows c
     obtain ⟨to,rfl⟩:∃ n:Nat,to=n:=⟨to.toNat,by omega⟩
     have h1:rs.length≠0:=by
      intro q
      have:bs.length=0:=by omega
      unfold chk at c
      simp [this] at c
     have:=trim_loop H bs rs f to ht h6 (by omega) h7 rs.length 0 (by simp) e f [] rs [] rfl rfl (by simp) (by simp)
     simp only [w12_K0] at this
     simp [h1] at this
     simp [w12,H.inl,h,c,c1,this]
 · simp [w12,H.inl,h,c]
omit H in
def cat (rs:List (List Int × Bool)):List Int:=rs.flatMap (·.1)
omit H in
theorem sum_loop (rs:List (List Int × Bool)) (f:Bool) (hr:∀ r ∈ rs,r.1.length≤65536) (h2:rs.length≤8):∀ n i,n+i=rs.length→∀ s:Nat,s+(cat (rs.drop i)).length=(cat rs).length→(cat rs).length≤1000000 →
 w28_K1 C ⟨[(11,.int .i64 i),(10,.int .i64 rs.length),(9,.ro 1 (rs.map eR) f),(3,.int .i64 s),(0,.ro 1 (rs.map eR) f)],[],0⟩ =
 CK C 0 (pureFin [.tmp 2]) [] w28_c1 ⟨[(3,.int .i64 (cat rs).length),(0,.ro 1 (rs.map eR) f)],[],0⟩:=by
 intro n
 induction n with
 | zero =>
  intro i hi s hs ht
  simp only [w28_K1];rw [ck_unf w28_B1.eq_1]
  have h3:¬ i < rs.length:=by omega
  have h4:rs.drop i=[]:=List.drop_eq_nil_of_le (by omega)
  have h5:s=(cat rs).length:=by rw [h4] at hs;simpa [cat] using hs
  simp [h3,h5]
 | succ n ih =>
  intro i hi s hs ht
  have h3:i < rs.length:=by omega
  have hri:=hr _ (List.getElem_mem h3)
  have h4:(cat (rs.drop i)).length=rs[i].1.length+(cat (rs.drop (i+1))).length:=by
   rw [drop_cons h3];simp [cat]
  have:=ih (i+1) (by omega) (s+rs[i].1.length) (by omega) ht
  simp only [w28_K1] at this ⊢;rw [ck_unf w28_B1.eq_1]
  simp at this
  have h5:IntKind.i64.wrap ((s:Int)+rs[i].1.length)=(s:Int)+rs[i].1.length:=wI64 (by omega) (by omega)
  have h6:¬ (s:Int)+rs[i].1.length < 0:=by omega
  simp (disch:=omega) [h3,h5,h6,wI64,this]
end Go.C21
end
section
set_option linter.unusedSimpArgs false
set_option linter.unusedVariables false
namespace Go.C21
open Go Go.Pav Go.Pw P21
set_option maxRecDepth 10000
set_option maxHeartbeats 4000000
attribute [-simp] List.getElem_cons_drop
variable {C:WProg} (H:Has C)
include H
omit H in
theorem cat_loop (rs:List (List Int × Bool)) (f:Bool) (h2:rs.length≤8):∀ n i,n+i=rs.length→∀ (acc:List Int) (k:Nat),k=(cat (rs.drop i)).length→0 < acc.length+k →
 w28_K0 C ⟨[(27,.int .i64 i),(26,.int .i64 rs.length),(25,.ro 1 (rs.map eR) f),(6,.sl 0 1 0 acc.length (acc.length+k) false)],
  [(0,.cells 1 (acc.map eI++List.replicate k [.int .i64 0]) true true)],1⟩=some (L1 (acc++cat (rs.drop i)) false):=by
 intro n
 induction n with
 | zero =>
  intro i hi acc k hk hpos
  simp only [w28_K0];rw [ck_unf w28_B0.eq_1]
  have h3:¬ i < rs.length:=by omega
  have h4:rs.drop i=[]:=List.drop_eq_nil_of_le (by omega)
  have h5:k=0:=by rw [h4] at hk;simpa [cat] using hk
  subst h5
  simp (disch:=(first | omega | (simp <;> omega))) [ck_unf w28_c0.eq_1,h3,h4,cat,List.take_of_length_le]
 | succ n ih =>
  intro i hi acc k hk hpos
  have h3:i < rs.length:=by omega
  obtain ⟨row,hrow⟩:∃ row,rs[i].1=row:=⟨_,rfl⟩
  have h4:cat (rs.drop i)=row++cat (rs.drop (i+1)):=by
   rw [drop_cons h3,← hrow];rfl
  rw [h4] at hk ⊢
  simp only [List.length_append] at hk
  obtain ⟨k',hk'⟩:∃ k',(cat (rs.drop (i+1))).length=k':=⟨_,rfl⟩
  rw [hk'] at hk
  have:=ih (i+1) (by omega) (acc++row) k' hk'.symm (by simp;omega)
  simp only [w28_K0] at this ⊢;rw [ck_unf w28_B0.eq_1]
  subst hk
  cases row with
  | nil =>
   simp [L1] at this
   simp (disch:=omega) [h3,hrow,wI64,this]
  | cons a row =>
   have h5:acc.length+(row.length+1)+k'=acc.length+(row.length+1+k'):=by omega
   have h6:acc.length+(row.length+1)≤acc.length+(row.length+1+k'):=by omega
   have h7:row.length+1+k' - (row.length+1)=k':=by omega
   simp [L1,h5] at this
   have h8:List.take acc.length (List.map eI acc++List.replicate (row.length+1+k') [AV.int IntKind.i64 0])=List.map eI acc:=by
    rw [List.take_append_of_le_length (by simp),List.take_of_length_le (by simp)]
   have h9:List.drop (acc.length+(row.length+1)) (List.map eI acc++List.replicate (row.length+1+k') [AV.int IntKind.i64 0])=List.replicate k' [AV.int IntKind.i64 0]:=by
    rw [List.drop_append,List.drop_eq_nil_of_le (by simp),List.drop_replicate]
    simp
   simp (disch:=omega) [h3,hrow,wI64,h6,h8,h9,this]
omit H in
theorem cat0_loop (rs:List (List Int × Bool)) (f:Bool) (h2:rs.length≤8) (h0:cat rs=[]):∀ n i,n+i=rs.length →
 w28_K0 C ⟨[(27,.int .i64 i),(26,.int .i64 rs.length),(25,.ro 1 (rs.map eR) f),(6,.ro 1 [] true)],[],0⟩=some (.ro 1 [] true):=by
 intro n
 induction n with
 | zero =>
  intro i hi
  simp only [w28_K0];rw [ck_unf w28_B0.eq_1]
  have h3:¬ i < rs.length:=by omega
  simp [ck_unf w28_c0.eq_1,h3]
 | succ n ih =>
  intro i hi
  have h3:i < rs.length:=by omega
  have hrow:rs[i].1=[]:=List.flatMap_eq_nil_iff.1 h0 _ (List.getElem_mem h3)
  have:=ih (i+1) (by omega)
  simp only [w28_K0] at this ⊢;rw [ck_unf w28_B0.eq_1]
  simp at this
  simp (disch:=omega) [h3,hrow,wI64,this]
theorem all_ok (bs:List Int) (e:Bool) (rs:List (List Int × Bool)) (f:Bool) :
 FnW C 16 [eP bs e rs f]=some (.tup (if chk bs rs=0 then [L1 (cat rs) true,.int .i64 0] else [.ro 1 [] true,.int .i64 (chk bs rs)])):=by
 have h:=check_ok H bs e rs f
 rw [fnW_eq H.f16 rfl]
 by_cases c:chk bs rs=0
 · obtain ⟨h6,h5,h7,h8⟩:=of_rows c
   have h9:(cat rs).length≤65536 * rs.length:=by
    have:∀ l:List (List Int × Bool),(∀ r ∈ l,r.1.length≤65536)→(cat l).length≤65536 * l.length:=by
     intro l
     induction l with
     | nil=>intro _;simp [cat]
     | cons a l ih =>
      intro hl
      have h1:=ih (fun r hr=>hl r (List.mem_cons_of_mem _ hr))
      have h2:=hl a List.mem_cons_self
      have h3:cat (a::l)=a.1++cat l:=rfl
      rw [h3,List.length_append,List.length_cons];omega
    exact this rs h7
   have h10:FnW C 28 [.ro 1 (rs.map eR) f]=some (L1 (cat rs) (decide ((cat rs).length=0))):=by
    have hs:=sum_loop (C:=C) rs f h7 (by omega) rs.length 0 (by simp) 0 (by simp) (by omega)
    simp only [w28_K1] at hs
    simp at hs
    have hg:=fun a b h n=>rnW_eq (args:=[a,b]) H.f35 rfl h n
    rw [fnW_eq H.f28 rfl]
    by_cases hz:(cat rs).length=0
    · have hl:=cat0_loop (C:=C) rs f (by omega) (List.length_eq_zero_iff.1 hz) rs.length 0 (by simp)
      have hne:cat rs=[]:=List.length_eq_zero_iff.1 hz
      simp only [w28_K0] at hl
      rw [hz] at hs
      simp at hl hs
      simp [w28,hs]
      rw [ck_unf w28_c1.eq_1]
      simp (disch:=omega) [H.inl,hg,w35,wI64,fits,hl,hne]
    · obtain ⟨m,hm⟩:∃ m,(cat rs).length=m+1:=⟨(cat rs).length - 1,by omega⟩
      have hl:=cat_loop (C:=C) rs f (by omega) rs.length 0 (by simp) [] (cat rs).length (by simp) (by simp;omega)
      simp only [w28_K0] at hl
      simp at hl
      have hne:cat rs≠[]:=fun q=>hz (by rw [q];rfl)
      rw [hm] at hs hl
      simp [List.replicate_succ] at hl
      simp at hs
      simp [w28,hs]
      rw [ck_unf w28_c1.eq_1]
      have hlt:¬ (m:Int)+1 < 0:=by omega
      have hgt:(0:Int) < (m:Int)+1:=by omega
      simp (disch:=omega) [H.inl,hg,w35,wI64,fits,hl,List.replicate_succ,hne,hlt,hgt]
   simp [w16,H.inl,h,c,h10,clip_ok H]
 · simp [w16,H.inl,h,c]
end Go.C21
end
section
set_option linter.unusedSimpArgs false
set_option linter.unusedVariables false
namespace Go.C21
open Go Go.Pav Go.Pw P21
set_option maxRecDepth 10000
set_option maxHeartbeats 4000000
attribute [-simp] List.getElem_cons_drop
variable {C:WProg} (H:Has C)
include H
end Go.C21
end
section
set_option linter.unusedSimpArgs false
set_option linter.unusedVariables false
namespace Go.C21
open Go Go.Pav Go.Pw P21
set_option maxRecDepth 10000
set_option maxHeartbeats 4000000
attribute [-simp] List.getElem_cons_drop
variable {C:WProg} (H:Has C)
include H
end Go.C21
end
section
set_option linter.unusedSimpArgs false
set_option linter.unusedVariables false
namespace Go.C21
open Go Go.Pav Go.Pw P21
set_option maxRecDepth 10000
set_option maxHeartbeats 4000000
attribute [-simp] List.getElem_cons_drop
variable {C:WProg} (H:Has C)
include H
end Go.C21
end
section
set_option linter.unusedSimpArgs false
set_option linter.unusedVariables false
namespace Go.C21
open Go Go.Pav Go.Pw P21
set_option maxRecDepth 10000
set_option maxHeartbeats 4000000
attribute [-simp] List.getElem_cons_drop
variable {C:WProg} (H:Has C)
include H
@[simp] def eO (r:Int × Int × Int):List AV:=[.int .u8 r.1,.int .u8 r.2.1,.int .u8 r.2.2]
def bnd (bs:List Int):List Int:=2::(bs.take 3).map fun x=>x % 4
omit H in
theorem bounds_ok (h6:C.fns.get 6=some w6) (bs:List Int) (e:Bool) (cs:List (Int × Int × Int)) (f:Bool) (hb:∀ x ∈ bs,0≤x∧x≤255) :
 ∃ ex,FnW C 6 [.agg [.ro 1 (bs.map eU8) e,.ro 3 (cs.map eO) f]]=some (L1 (bnd bs) ex):=by
 rw [fnW_eq h6 rfl]
 match bs,hb with
 | [],_ =>
  simp [w6,ck_unf w6_B0.eq_1,ck_unf w6_c0.eq_1,bnd]
 | [a],hb =>
  have h1:=hb a (by simp)
  simp (disch:=omega) [w6,ck_unf w6_B0.eq_1,ck_unf w6_c0.eq_1,bnd,wI64,Int.tmod_eq_emod_of_nonneg]
 | [a,b],hb =>
  have h1:=hb a (by simp)
  have h2:=hb b (by simp)
  simp (disch:=omega) [w6,ck_unf w6_B0.eq_1,ck_unf w6_c0.eq_1,bnd,wI64,Int.tmod_eq_emod_of_nonneg]
 | a::b::c::r,hb =>
  have h1:=hb a (by simp)
  have h2:=hb b (by simp)
  have h3:=hb c (by simp)
  have h4:(0:Int) < (r.length:Int)+1+1+1:=by omega
  have h5:(1:Int) < (r.length:Int)+1+1+1:=by omega
  have h6:(2:Int) < (r.length:Int)+1+1+1:=by omega
  simp (disch:=omega) [w6,ck_unf w6_B0.eq_1,ck_unf w6_c0.eq_1,bnd,wI64,Int.tmod_eq_emod_of_nonneg,h4,h5,h6]
end Go.C21
end
section
set_option linter.unusedSimpArgs false
set_option linter.unusedVariables false
namespace Go.C21
open Go Go.Pav Go.Pw P21
theorem withR_skip:∀ (rs:List (List Int × Bool)) (k i:Nat) (row:List Int),k < i→(withR rs k row i).map (·.1)=rs.map (·.1)
 | [],_,_,_,_=>rfl
 | r::rs,k,i,row,h=>by
  have h1:¬ i=k:=by omega
  simp [withR,h1,withR_skip rs k (i+1) row (by omega)]
theorem withR_fst:∀ (rs:List (List Int × Bool)) (k i:Nat) (row:List Int),(withR rs (i+k) row i).map (·.1)=(rs.map (·.1)).set k row
 | [],_,_,_=>by simp [withR]
 | r::rs,0,i,row=>by
  simp [withR,withR_skip rs i (i+1) row (by omega)]
 | r::rs,k+1,i,row=>by
  have h1:¬ i=i+(k+1):=by omega
  have:=withR_fst rs k (i+1) row
  rw [show i+1+k=i+(k+1) by omega] at this
  simp [withR,this]
theorem cat_eq (rs:List (List Int × Bool)):cat rs=(rs.map (·.1)).flatten:=by simp [cat,List.flatMap]
end Go.C21
end
section
set_option linter.unusedSimpArgs false
set_option linter.unusedVariables false
namespace Go.C21
open Go Go.Pav Go.Pw P21
def Okp (bs:List Int) (L:List (List Int)):Prop:=1≤bs.length∧bs.length≤8∧L.length=bs.length∧∀ (i:Nat) (b:Int) (l:List Int),bs[i]?=some b→L[i]?=some l→0≤b∧b≤65536∧(l.length:Int)≤b
theorem okp_chk {bs:List Int} {rs:List (List Int × Bool)}:chk bs rs=0↔Okp bs (rs.map (·.1)):=by
 unfold chk Okp
 have hb:∀ b:Bool,b01 b=0↔b=true:=by intro b;cases b <;> simp
 rw [hb]
 simp only [Bool.and_eq_true,decide_eq_true_eq,allOk,List.all_eq_true,List.length_map]
 refine and_congr_right fun _=>and_congr_right fun _=>and_congr_right fun hl=>?_
 constructor
 · intro h i b l h1 h2
   simp only [List.getElem?_map,Option.map_eq_some_iff] at h2
   obtain ⟨r,h2,rfl⟩:=h2
   have:=h (b,r) (List.mem_of_getElem? (i:=i) (by simp [List.getElem?_zip_eq_some,h1,h2]))
   simpa [okP] using this
 · rintro h ⟨b,r⟩ hx
   obtain ⟨i,hi⟩:=List.getElem?_of_mem hx
   rw [List.getElem?_zip_eq_some] at hi
   have:=h i b r.1 hi.1 (by simp [hi.2])
   simpa [okP] using this
theorem Okp.set {bs:List Int} {L:List (List Int)} (h:Okp bs L) {k:Nat} {row:List Int} (hr:∀ b,bs[k]?=some b→(row.length:Int)≤b):Okp bs (L.set k row):=by
 obtain ⟨h1,h2,h3,h4⟩:=h
 refine ⟨h1,h2,by simpa using h3,fun i b l e1 e2=>?_⟩
 rw [List.getElem?_set] at e2
 split at e2
 · rename_i hk
   subst hk
   split at e2
   · cases e2
     have hlt:k < L.length:=by assumption
     have:=h4 k b L[k] e1 (List.getElem?_eq_getElem hlt)
     exact ⟨this.1,this.2.1,hr b e1⟩
   · cases e2
 · exact h4 i b l e1 e2
theorem Okp.map {bs:List Int} {L:List (List Int)} (h:Okp bs L) {g:List Int→List Int} (hg:∀ l,(g l).length≤l.length):Okp bs (L.map g):=by
 obtain ⟨h1,h2,h3,h4⟩:=h
 refine ⟨h1,h2,by simpa using h3,fun i b l e1 e2=>?_⟩
 simp only [List.getElem?_map,Option.map_eq_some_iff] at e2
 obtain ⟨l',e2,rfl⟩:=e2
 have:=h4 i b l' e1 e2
 have:=hg l'
 exact ⟨by omega,by omega,by omega⟩
end Go.C21
end
section
set_option linter.unusedSimpArgs false
set_option linter.unusedVariables false
namespace Go.Pw
open Go Go.Pav
theorem getPut {α:Type} (l:List (Nat × α)) (k:Nat) (x:α) (j:Nat):Pav.get (Pav.put l k x) j=if k=j then some x else Pav.get l j:=get_put l k x j
theorem getPut_self {α:Type} (l:List (Nat × α)) (k:Nat) (x:α):Pav.get (Pav.put l k x) k=some x:=by rw [getPut,if_pos rfl]
theorem getPut_ne {α:Type} {l:List (Nat × α)} {k:Nat} {x:α} {j:Nat} (h:k≠j):Pav.get (Pav.put l k x) j=Pav.get l j:=by rw [getPut,if_neg h]
theorem putPut {α:Type} (l:List (Nat × α)) (k:Nat) (x y:α):Pav.put (Pav.put l k x) k y=Pav.put l k y:=by
 induction l with
 | nil=>simp [Pav.put]
 | cons a r ih =>
  obtain ⟨j,v⟩:=a
  simp only [Pav.put]
  by_cases h1:j=k
  · simp [h1,Pav.put]
  · by_cases h2:k≤j
    · simp [h1,h2,Pav.put]
    · simp [h1,h2,Pav.put,ih]
theorem getDel {α:Type} (l:List (Nat × α)) (k:Nat) (j:Nat):Pav.get (Pav.del l k) j=if k=j then none else Pav.get l j:=get_del l k j
theorem getDel_ne {α:Type} {l:List (Nat × α)} {k:Nat} {j:Nat} (h:k≠j):Pav.get (Pav.del l k) j=Pav.get l j:=by rw [getDel,if_neg h]
theorem fillGet {β:Type} {cs:List β} {n i:Nat} {z:β} (h:cs.length=i):(cs++List.replicate (n+1) z)[i]?=some z:=by
 rw [List.getElem?_append_right (by omega)];simp [h]
theorem fillSet {β:Type} {cs:List β} {n i:Nat} {z v:β} (h:cs.length=i):(cs++List.replicate (n+1) z).set i v=cs++v::List.replicate n z:=by
 rw [List.set_append,if_neg (by omega)];simp [h,List.replicate_succ]
theorem ltF {a b:Nat} (h:a < b):(a=b)=False:=eq_false (by omega)
theorem gtF {a b:Nat} (h:b < a):(a=b)=False:=eq_false (by omega)
theorem neF {a b:Nat} (h:a≠b):(a=b)=False:=eq_false h
structure Rw where
 i:Nat
 len:Nat
 cap:Nat
 es:List (List AV)
abbrev Rw.of (es:List (List AV)):Rw:=⟨0,es.length,es.length,es⟩
def Rw.c (w:Rw):List (List AV):=(w.es.drop w.i).take w.len
def Rw.v (z b:Nat) (w:Rw):AV:=match w.es with
 | []=>.ro z [] true
 | _::_=>if w.cap=0 then .ro z [] false else .sl b z w.i w.len w.cap false
theorem Rw.v_sl (z b:Nat) {w:Rw} (h:w.es≠[]) (hc:w.cap≠0):w.v z b=.sl b z w.i w.len w.cap false:=by
 unfold Rw.v
 cases he:w.es with
 | nil=>exact absurd he h
 | cons a r=>simp only;rw [if_neg hc]
theorem Rw.v_out (z b:Nat) {w:Rw} (h:w.es≠[]) (hc:w.cap=0):w.v z b=.ro z [] false:=by
 unfold Rw.v
 cases he:w.es with
 | nil=>exact absurd he h
 | cons a r=>simp only;rw [if_pos hc]
def Rw.d (z:Nat) (w:Rw):AV:=match w.es with
 | []=>.ro z [] true
 | _::_=>.ro z w.c false
structure Rw.Ok (w:Rw):Prop where
 le:w.i+w.len≤w.es.length
 c0:w.cap=0→w.len=0
theorem Rw.of_ok (es:List (List AV)):(Rw.of es).Ok:=⟨by simp,fun h=>h⟩
structure Nst (z:Nat) (h:WHeap) (lo hi:Nat) (id:Nat→Nat) (cs:List (List AV)) (W:List Rw):Prop where
 len:cs.length=W.length
 bd:∀ i,i < W.length→lo≤id i∧id i < hi
 inj:∀ i j,i < W.length→j < W.length→id i=id j→i=j
 cell:∀ (i:Nat) (w:Rw),W[i]?=some w→cs[i]?=some [w.v z (id i)]
 blk:∀ (i:Nat) (w:Rw),W[i]?=some w→w.es≠[]→Pav.get h (id i)=some (.cells z w.es true true)
 ok:∀ w,w ∈ W→w.Ok
section
variable {z:Nat} {h h':WHeap} {lo hi hi':Nat} {id:Nat→Nat} {cs:List (List AV)} {W:List Rw}
theorem Nst.nil:Nst z h lo hi id [] []:=⟨rfl,fun i h=>by simp at h,fun i j h=>by simp at h,fun i w h=>by simp at h,fun i w h=>by simp at h,fun w h=>by simp at h⟩
theorem Nst.mono (R:Nst z h lo hi id cs W) (hh:hi≤hi') (hg:∀ j,lo≤j→j < hi→Pav.get h' j=Pav.get h j):Nst z h' lo hi' id cs W where
 len:=R.len
 bd i hi:=⟨(R.bd i hi).1,Nat.lt_of_lt_of_le (R.bd i hi).2 hh⟩
 inj:=R.inj
 cell:=R.cell
 blk i w hw hn:=by
  have hl:i < W.length:=(List.getElem?_eq_some_iff.1 hw).1
  rw [hg _ (R.bd i hl).1 (R.bd i hl).2]
  exact R.blk i w hw hn
 ok:=R.ok
theorem Nst.snoc (R:Nst z h lo hi id cs W) (b:Nat) (hb:hi≤b) (hb2:lo≤b) (hh:b < hi') (w:Rw) (hw:w.Ok)
 (hg:∀ j,lo≤j→j < hi→Pav.get h' j=Pav.get h j) (hn:w.es≠[]→Pav.get h' b=some (.cells z w.es true true)) :
 Nst z h' lo hi' (fun i=>if i=W.length then b else id i) (cs++[[w.v z b]]) (W++[w]):=by
 have hid:∀ i,i < W.length→(if i=W.length then b else id i)=id i:=fun i hi=>if_neg (by omega)
 have hlt:∀ i,i < (W++[w]).length→i=W.length∨i < W.length:=by intro i hi;simp at hi;omega
 refine ⟨by simp [R.len],?_,?_,?_,?_,?_⟩
 · intro i hi
   rcases hlt i hi with q | q
   · rw [if_pos q];exact ⟨hb2,hh⟩
   · rw [hid i q];exact ⟨(R.bd i q).1,by have:=(R.bd i q).2;omega⟩
 · intro i j hi hj he
   rcases hlt i hi with q | q <;> rcases hlt j hj with q' | q'
   · omega
   · rw [if_pos q,hid j q'] at he;have:=(R.bd j q').2;omega
   · rw [if_pos q',hid i q] at he;have:=(R.bd i q).2;omega
   · rw [hid i q,hid j q'] at he;exact R.inj i j q q' he
 · intro i x hx
   have hi:i < (W++[w]).length:=(List.getElem?_eq_some_iff.1 hx).1
   rcases hlt i hi with q | q
   · subst q
     rw [if_pos rfl]
     simp at hx;subst hx
     rw [← R.len];simp
   · rw [hid i q]
     rw [List.getElem?_append_left q] at hx
     rw [List.getElem?_append_left (by rw [R.len];exact q)]
     exact R.cell i x hx
 · intro i x hx hne
   have hi:i < (W++[w]).length:=(List.getElem?_eq_some_iff.1 hx).1
   rcases hlt i hi with q | q
   · subst q
     rw [if_pos rfl]
     simp at hx;subst hx
     exact hn hne
   · rw [hid i q,hg _ (R.bd i q).1 (R.bd i q).2]
     rw [List.getElem?_append_left q] at hx
     exact R.blk i x hx hne
 · intro x hx
   rcases List.mem_append.1 hx with q | q
   · exact R.ok x q
   · simp at q;subst q;exact hw
theorem Nst.set (R:Nst z h lo hi id cs W) (k:Nat) (hk:k < W.length) (b:Nat) (hb:b=id k∨hi≤b) (hb2:lo≤b) (hh:b < hi') (hhi:hi≤hi') (w:Rw) (hw:w.Ok)
 (hg:∀ j,j < W.length→j≠k→Pav.get h' (id j)=Pav.get h (id j)) (hn:w.es≠[]→Pav.get h' b=some (.cells z w.es true true)) :
 Nst z h' lo hi' (fun i=>if i=k then b else id i) (cs.set k [w.v z b]) (W.set k w):=by
 refine ⟨by simp [R.len],?_,?_,?_,?_,?_⟩
 · intro i hi
   rw [List.length_set] at hi
   by_cases q:i=k
   · rw [if_pos q];exact ⟨hb2,hh⟩
   · rw [if_neg q];exact ⟨(R.bd i hi).1,by have:=(R.bd i hi).2;omega⟩
 · intro i j hi hj he
   rw [List.length_set] at hi hj
   have hne:∀ j,j < W.length→j≠k→b≠id j:=by
    intro j hj q e
    rcases hb with q2 | q2
    · exact q (R.inj j k hj hk (by rw [← e,q2]))
    · have:=(R.bd j hj).2;omega
   by_cases q:i=k <;> by_cases q':j=k
   · omega
   · rw [if_pos q,if_neg q'] at he;exact absurd he (hne j hj q')
   · rw [if_neg q,if_pos q'] at he;exact absurd he.symm (hne i hi q)
   · rw [if_neg q,if_neg q'] at he;exact R.inj i j hi hj he
 · intro i x hx
   by_cases q:i=k
   · subst q
     rw [List.getElem?_set_self hk] at hx
     cases hx
     rw [if_pos rfl,List.getElem?_set_self (by rw [R.len];exact hk)]
   · rw [if_neg q]
     rw [List.getElem?_set_ne (by omega)] at hx ⊢
     exact R.cell i x hx
 · intro i x hx hne
   by_cases q:i=k
   · subst q
     rw [List.getElem?_set_self hk] at hx
     cases hx
     rw [if_pos rfl]
     exact hn hne
   · rw [if_neg q]
     rw [List.getElem?_set_ne (by omega)] at hx
     have hi:i < W.length:=(List.getElem?_eq_some_iff.1 hx).1
     rw [hg i hi q]
     exact R.blk i x hx hne
 · intro x hx
   rcases List.mem_or_eq_of_mem_set hx with q | q
   · exact R.ok x q
   · subst q;exact hw
theorem Nst.frzOne (R:Nst z h lo hi id cs W) (n:Nat) {i:Nat} {w:Rw} (hw:W[i]?=some w):mapO (frzW h (n+2)) [w.v z (id i)]=some [w.d z]:=by
 have hb:=R.blk i w hw
 have hok:=(R.ok w (List.mem_of_getElem? hw)).le
 have hc0:=(R.ok w (List.mem_of_getElem? hw)).c0
 unfold Rw.v Rw.d
 cases he:w.es with
 | nil=>simp [mapO,ob,om]
 | cons a r =>
  simp only
  have:=hb (by simp [he])
  by_cases hcap:w.cap=0
  · rw [if_pos hcap]
    have hl0:=hc0 hcap
    simp [mapO,ob,om,Rw.c,hl0]
  rw [if_neg hcap]
  simp only [mapO,frzW_sl,this,frzS]
  have hl:((w.es.drop w.i).take w.len).length=w.len:=by rw [List.length_take,List.length_drop];omega
  simp [hl,og,ob,Rw.c]
theorem Nst.frz (R:Nst z h lo hi id cs W) (n:Nat):mapO (mapO (frzW h (n+2))) cs=some (W.map fun w=>[w.d z]):=by
 have key:∀ (cs:List (List AV)) (W:List Rw) (id:Nat→Nat),cs.length=W.length→(∀ (i:Nat) (w:Rw),W[i]?=some w→∃ c,cs[i]?=some c∧mapO (frzW h (n+2)) c=some [w.d z])→mapO (mapO (frzW h (n+2))) cs=some (W.map fun w=>[w.d z]):=by
  intro cs
  induction cs with
  | nil=>intro W id hl _;cases W with
   | nil=>rfl
   | cons _ _=>simp at hl
  | cons c cs ih =>
   intro W id hl hc
   cases W with
   | nil=>simp at hl
   | cons w W =>
    obtain ⟨c',h1,h2⟩:=hc 0 w rfl
    simp at h1;subst h1
    have:=ih W (fun i=>id (i+1)) (by simpa using hl) (fun i w hw=>by simpa using hc (i+1) w (by simpa using hw))
    simp only [mapO,h2,this,ob,om,List.map_cons]
 exact key cs W id R.len fun i w hw=>⟨_,R.cell i w hw,R.frzOne n hw⟩
theorem Nst.flat (R:Nst z h lo hi id cs W) (h0:∀ w ∈ W,w.es=[]):cs=W.map fun w=>[w.d z]:=by
 apply List.ext_getElem?
 intro i
 rw [List.getElem?_map]
 cases hw:W[i]? with
 | none =>
  rw [List.getElem?_eq_none_iff] at hw
  rw [List.getElem?_eq_none_iff.2 (by rw [R.len];exact hw)];rfl
 | some w =>
  rw [R.cell i w hw]
  have:=h0 w (List.mem_of_getElem? hw)
  simp [Rw.v,Rw.d,this]
theorem Rw.d_isC (z:Nat) (w:Rw):isC (w.d z)=true:=by unfold Rw.d;split <;> rfl
theorem Nst.frzS (R:Nst z h lo hi id cs W) (n:Nat) {mu dt ex:Bool} (hd:dt=true→∀ w ∈ W,w.es=[]) :
 Pw.frzS h (n+2) 1 0 W.length W.length ex (some (.cells 1 cs mu dt))=some (.ro 1 (W.map fun w=>[w.d z]) ex):=by
 have hl:=R.len
 cases dt with
 | true =>
  have:=R.flat (hd rfl)
  simp only [Pw.frzS,List.drop_zero]
  rw [List.take_of_length_le (by omega),this]
  simp [og]
 | false =>
  simp only [Pw.frzS,List.drop_zero]
  rw [List.take_of_length_le (by omega),R.frz n]
  have:((W.map fun w=>[w.d z]).all fun e=>e.all isC)=true:=by
   rw [List.all_eq_true]
   intro x hx
   obtain ⟨w,_,rfl⟩:=List.mem_map.1 hx
   simp only [List.all_cons,List.all_nil,Rw.d_isC,Bool.and_self]
  simp only [ob,List.length_map,decide_true,this,Bool.and_self,og,Bool.and_true]
theorem ex3 {x:Option (AV × WHeap × Nat)} {P:AV→WHeap→Nat→Prop} {v:AV} {h:WHeap} {n:Nat} (h1:x=some (v,h,n)) (h2:P v h n):∃ v h n,x=some (v,h,n)∧P v h n:=⟨v,h,n,h1,h2⟩
end
end Go.Pw
end
section
set_option linter.unusedSimpArgs false
set_option linter.unusedVariables false
namespace Go.C21
open Go Go.Pav Go.Pw P21
set_option maxRecDepth 10000
set_option maxHeartbeats 400000
set_option linter.unusedSimpArgs false
set_option linter.unusedVariables false
attribute [-simp] List.getElem_cons_drop
structure HasP (C:WProg):Prop extends Has C where
 f7:C.fns.get 2007=some w7
 f27:C.fns.get 2027=some w2027
abbrev rwI (r:List Int × Bool):Rw:=Rw.of (r.1.map eI)
variable {C:WProg} (H:HasP C)
include H
omit H in
def NewP (bs:List Int) (h:WHeap) (n:Nat) (v:AV) (h':WHeap) (n':Nat):Prop:=∃ b1 b2,v=.agg [.sl b1 1 0 bs.length bs.length false,.sl b2 1 0 bs.length bs.length true] ∧
 Pav.get h' b1=some (.cells 1 (bs.map eI) true true)∧Pav.get h' b2=some (.cells 1 (List.replicate bs.length [.ro 1 [] true]) true true)∧n≤b1∧b1 < n'∧n≤b2∧b2 < n'∧b1≠b2∧n≤n'∧∀ j,j < n→Pav.get h' j=Pav.get h j
theorem new_h (bs:List Int) (e:Bool) (h:WHeap) (n:Nat) (hb:bs≠[]) (hl:bs.length≤1000):∃ v h' n',RnW C 2007 [L1 bs e] h n=some (v,h',n')∧NewP bs h n v h' n':=by
 apply ex3
 · rw [rnW_eq H.f7 rfl]
   simp (disch:=omega) [w7,hb,fits,getPut_self,getPut_ne]
   exact ⟨rfl,rfl,rfl⟩
 · refine ⟨_,_,rfl,?_⟩
   simp (disch:=omega) [getPut_self,getPut_ne]
   refine ⟨by omega,by omega,by omega,fun j hj=>?_⟩
   simp (disch:=omega) [getPut_ne]
omit H in
def CpP (bs:List Int) (rs:List (List Int × Bool)) (b1 b2 lo next rr:Nat) (h:WHeap) (v:AV) (h':WHeap) (n':Nat):Prop :=
 v=.agg [.sl b1 1 0 bs.length bs.length false,.sl b2 1 0 rs.length rs.length true]∧∃ id cs dt,Nst 1 h' lo n' id cs (rs.map rwI)∧(dt=true→∀ w ∈ rs.map rwI,w.es=[]) ∧
  Pav.get h' b2=some (.cells 1 cs true dt)∧Pav.get h' b1=some (.cells 1 (bs.map eI) true true)∧next≤n'∧∀ j,j < lo→j≠b2→j≠rr→Pav.get h' j=Pav.get h j
omit H in
theorem cp_loop (base:Nat) (bs:List Int) (e:Bool) (rs:List (List Int × Bool)) (f:Bool) (q rr bx b1 b2 lo:Nat) (hrs:rs.length≤8) (hr:∀ r ∈ rs,r.1.length≤65536)
 (d:q < lo∧rr < lo∧bx < lo∧b1 < lo∧b2 < lo∧q≠rr∧q≠bx∧q≠b1∧q≠b2∧rr≠bx∧rr≠b1∧rr≠b2∧bx≠b1∧bx≠b2∧b1≠b2):∀ m i,m+i=rs.length→∀ (h:WHeap) (next:Nat) (id:Nat→Nat) (cs:List (List AV)) (dt:Bool),lo≤next →
 Nst 1 h lo next id cs ((rs.take i).map rwI)→(dt=true→∀ w ∈ (rs.take i).map rwI,w.es=[]) →
 Pav.get h b2=some (.cells 1 (cs++List.replicate m [.ro 1 [] true]) true dt)→Pav.get h b1=some (.cells 1 (bs.map eI) true true) →
 Pav.get h q=some (.cells 2 [[.sl b1 1 0 bs.length bs.length false,.sl b2 1 0 rs.length rs.length true]] true false) →
 Pav.get h bx=some (.cells 2 [[L1 bs e,.ro 1 (rs.map eR) f]] true true)→Pav.get h rr=some (.cells 2 [[.ro 1 [] true,.ro 1 [] true]] true true) →
 ∃ v h' n',CK C base (fnEndW [.cell 2 2 true]) [.sq w2027_L0,.bk 0 ⟨true,[3,2],[(9999,65537)]⟩,.sq w2027_c0] w2027_B0 ⟨[(4,.int .i64 i),(3,.ptr q 0 0),(2,.ptr rr 0 0),(1,.ptr bx 0 0)],h,next⟩ =
  some (v,h',n')∧CpP bs rs b1 b2 lo next rr h v h' n':=by
 intro m
 induction m with
 | zero =>
  intro i hi h next id cs dt hn R hdt g2 g1 gq gb gr
  rw [ck_unf w2027_B0.eq_1]
  have h3:¬ i < rs.length:=by omega
  rw [List.take_of_length_le (by omega)] at R hdt
  simp at g2
  apply ex3
  · simp (disch:=omega) [gb,h3,ck_unf w2027_c0.eq_1,gq,gr,getPut_self,getPut_ne]
    exact ⟨rfl,rfl,rfl⟩
  · refine ⟨rfl,id,cs,dt,R.mono (by omega) (fun j hj hj2=>getPut_ne (by omega)),hdt,?_,?_,by omega,?_⟩
    · rw [getPut_ne (by omega)];exact g2
    · rw [getPut_ne (by omega)];exact g1
    · intro j hj h1 h2;exact getPut_ne (Ne.symm h2)
 | succ m ih =>
  intro i hi h next id cs dt hn R hdt g2 g1 gq gb gr
  rw [ck_unf w2027_B0.eq_1]
  have h3:i < rs.length:=by omega
  have hcl:cs.length=i:=by rw [R.len];simp;omega
  have hri:=hr _ (List.getElem_mem h3)
  have htk:rs.take (i+1)=rs.take i++[rs[i]]:=by rw [List.take_succ_eq_append_getElem h3]
  by_cases c:rs[i].1=[]
  · have hv:(rwI rs[i]).v 1 next=.ro 1 [] true:=by simp [Rw.v,c]
    have R':=R.snoc next (Nat.le_refl _) hn (show next < next+19 by omega) (rwI rs[i]) (Rw.of_ok _) (h':=put h b2 (.cells 1 (cs++[.ro 1 [] true]::List.replicate m [.ro 1 [] true]) true dt)) (fun j hj hj2=>getPut_ne (by omega)) (fun q=>by simp [c] at q)
    rw [hv,show (List.map rwI (List.take i rs)++[rwI rs[i]])=(rs.take (i+1)).map rwI by rw [htk,List.map_append];rfl] at R'
    have:=ih (i+1) (by omega) _ (next+19) _ _ dt (by omega) R' (fun q w hw=>by
     rw [htk,List.map_append] at hw
     rcases List.mem_append.1 hw with q2 | q2
     · exact hdt q w q2
     · simp at q2;subst q2;simp [c]) (by rw [getPut_self,List.append_assoc];rfl) (by rw [getPut_ne (by omega)];exact g1) (by rw [getPut_ne (by omega)];exact gq) (by rw [getPut_ne (by omega)];exact gb) (by rw [getPut_ne (by omega)];exact gr)
    obtain ⟨v,h',n',e1,e2,id',cs',dt',e3,e4,e5,e6,e7,e8⟩:=this
    refine ⟨v,h',n',?_,e2,id',cs',dt',e3,e4,e5,e6,by omega,fun j hj h1 h2=>by rw [e8 j hj h1 h2,getPut_ne (Ne.symm h1)]⟩
    simp (disch:=omega) [gb,h3,ck_unf w2027_c0.eq_1,gq,gr,getPut_self,getPut_ne,g2,c,wI64,hcl,fits,fillGet hcl,fillSet hcl]
    simpa using e1
  · have hv:(rwI rs[i]).v 1 (next+13)=.sl (next+13) 1 0 rs[i].1.length rs[i].1.length false:=by
     rw [Rw.v_sl 1 _ (by simpa using c) (by simpa using c)];simp
    have R':=R.snoc (next+13) (by omega) (by omega) (show next+13 < next+19 by omega) (rwI rs[i]) (Rw.of_ok _) (h':=put (put h (next+13) (.cells 1 (rs[i].1.map eI) true true)) b2 (.cells 1 (cs++[.sl (next+13) 1 0 rs[i].1.length rs[i].1.length false]::List.replicate m [.ro 1 [] true]) true false))
     (fun j hj hj2=>by rw [getPut_ne (by omega),getPut_ne (by omega)]) (fun q=>by rw [getPut_ne (by omega),getPut_self])
    rw [hv,show (List.map rwI (List.take i rs)++[rwI rs[i]])=(rs.take (i+1)).map rwI by rw [htk,List.map_append];rfl] at R'
    have:=ih (i+1) (by omega) _ (next+19) _ _ false (by omega) R' (fun q=>by cases q) (by rw [getPut_self,List.append_assoc];rfl) (by rw [getPut_ne (by omega),getPut_ne (by omega)];exact g1) (by rw [getPut_ne (by omega),getPut_ne (by omega)];exact gq) (by rw [getPut_ne (by omega),getPut_ne (by omega)];exact gb) (by rw [getPut_ne (by omega),getPut_ne (by omega)];exact gr)
    obtain ⟨v,h',n',e1,e2,id',cs',dt',e3,e4,e5,e6,e7,e8⟩:=this
    refine ⟨v,h',n',?_,e2,id',cs',dt',e3,e4,e5,e6,by omega,fun j hj h1 h2=>by rw [e8 j hj h1 h2,getPut_ne (Ne.symm h1),getPut_ne (by omega)]⟩
    simp (disch:=omega) [gb,h3,ck_unf w2027_c0.eq_1,gq,gr,getPut_self,getPut_ne,g2,c,wI64,hcl,fits,fillGet hcl,fillSet hcl,ltF,gtF,neF]
    simpa using e1
def CopyP (bs:List Int) (rs:List (List Int × Bool)) (h:WHeap) (n:Nat) (v:AV) (h':WHeap) (n':Nat):Prop:=∃ b1 b2 lo id cs dt,v=.agg [.sl b1 1 0 bs.length bs.length false,.sl b2 1 0 rs.length rs.length true] ∧
 Nst 1 h' lo n' id cs (rs.map rwI)∧(dt=true→∀ w ∈ rs.map rwI,w.es=[])∧Pav.get h' b2=some (.cells 1 cs true dt)∧Pav.get h' b1=some (.cells 1 (bs.map eI) true true) ∧
 n≤b1∧b1 < lo∧n≤b2∧b2 < lo∧b1≠b2∧lo≤n'∧∀ j,j < n→Pav.get h' j=Pav.get h j
theorem cp_h (bs:List Int) (e:Bool) (rs:List (List Int × Bool)) (f:Bool) (h:WHeap) (n:Nat) (hb:bs≠[]) (hbl:bs.length=rs.length) (hrs:rs.length≤8) (hr:∀ r ∈ rs,r.1.length≤65536) :
 ∃ v h' n',RnW C 2027 [eP bs e rs f] h n=some (v,h',n')∧CopyP bs rs h n v h' n':=by
 obtain ⟨v,h1,n1,e1,b1,b2,rfl,g1,g2,l1,l2,l3,l4,l5,l6,l7⟩:=new_h H bs e (put (put h n (.cells 2 [[L1 bs e,.ro 1 (rs.map eR) f]] true true)) (n+1) (.cells 2 [[.ro 1 [] true,.ro 1 [] true]] true true)) (n+5) hb (by omega)
 have e1:RnW C 2007 [L1 bs e] (put (put h n (WObj.cells 2 [[L1 bs e,AV.ro 1 (List.map eR rs) f]] true true)) (n+1) (WObj.cells 2 [[AV.ro 1 [] true,AV.ro 1 [] true]] true true)) (n+1+1+1+1+1)=_:=e1
 obtain ⟨v,h',n',e2,e3,id',cs',dt',e4,e5,e6,e7,e8,e9⟩:=cp_loop (C:=C) n bs e rs f n1 (n+1) n b1 b2 (n1+3) hrs hr ⟨by omega,by omega,by omega,by omega,by omega,by omega,by omega,by omega,by omega,by omega,by omega,by omega,by omega,by omega,by omega⟩ rs.length 0 (by simp)
  (put h1 n1 (.cells 2 [[.sl b1 1 0 bs.length bs.length false,.sl b2 1 0 rs.length rs.length true]] true false)) (n1+3) (fun _=>0) [] true (Nat.le_refl _) (by simpa using Nst.nil) (by simp)
  (by rw [getPut_ne (by omega),g2,hbl];rfl) (by rw [getPut_ne (by omega),g1]) (by rw [getPut_self])
  (by rw [getPut_ne (by omega),l7 _ (by omega),getPut_ne (by omega),getPut_self]) (by rw [getPut_ne (by omega),l7 _ (by omega),getPut_self])
 refine ⟨v,h',n',?_,b1,b2,n1+3,id',cs',dt',e3,e4,e5,e6,e7,by omega,by omega,by omega,by omega,l5,by omega,fun j hj=>?_⟩
 · rw [rnW_eq H.f27 rfl]
   simp (disch:=omega) [w2027,H.inl,fits,getPut_self,getPut_ne,e1,hbl,putPut]
   simp only [hbl] at e2
   exact e2
 · rw [e9 j (by omega) (by omega) (by omega),getPut_ne (by omega),l7 _ (by omega),getPut_ne (by omega),getPut_ne (by omega)]
end Go.C21
end
section
set_option linter.unusedSimpArgs false
set_option linter.unusedVariables false
namespace Go.C21
open Go Go.Pav Go.Pw P21
set_option maxRecDepth 10000
set_option maxHeartbeats 400000
set_option linter.unusedSimpArgs false
set_option linter.unusedVariables false
attribute [-simp] List.getElem_cons_drop
structure HasQ (C:WProg):Prop extends HasP C where
 f22:C.fns.get 22=some w22
 f23:C.fns.get 23=some w23
 f13:C.fns.get 13=some w13
def fr (r:List Int × Bool):List Int × Bool:=(r.1,r.1.isEmpty)
theorem rwI_d (r:List Int × Bool):[(rwI r).d 1]=eR (fr r):=by
 obtain ⟨l,e⟩:=r
 cases l with
 | nil=>rfl
 | cons a l =>
  have:List.take l.length (List.map eI l)=List.map eI l:=List.take_of_length_le (by simp)
  simp [Rw.d,Rw.c,fr,this]
theorem frz_pools {h:WHeap} {lo hi:Nat} {id:Nat→Nat} {cs:List (List AV)} {W:List Rw} (R:Nst 1 h lo hi id cs W) (bs:List Int) (rs:List (List Int × Bool)) {dt:Bool} (m:Nat) (hm:m=W.length) (hd:dt=true→∀ w ∈ W,w.es=[]) (hW:(W.map fun w=>[w.d 1])=rs.map eR) :
 aggO (consO (frzS h 13 1 0 bs.length bs.length false (some (.cells 1 (List.map eI bs) true true))) (consO (frzS h 13 1 0 m m true (some (.cells 1 cs true dt))) (some [])))=some (eP bs false rs true):=by
 subst hm
 rw [R.frzS 11 hd,hW]
 have:List.take bs.length (List.map eI bs)=List.map eI bs:=List.take_of_length_le (by simp)
 simp [frzS,this,og,consO,aggO]
theorem tup_of {x:Option AV} {v:AV} (h:x=some v) (r:List AV):tupO (consO x (some r))=some (.tup (v::r)):=by rw [h];rfl
theorem rwI_ds (rs:List (List Int × Bool)):((rs.map rwI).map fun w=>[w.d 1])=(rs.map fr).map eR:=by
 rw [List.map_map,List.map_map]
 exact List.map_congr_left fun r _=>rwI_d r
variable {C:WProg} (H:HasQ C)
include H
theorem rpush_ok (bs:List Int) (e:Bool) (rs:List (List Int × Bool)) (f:Bool) (k:Nat) (x:Int) (hb:bs≠[]) (hbl:bs.length=rs.length) (hrs:rs.length≤8) (hr:∀ r ∈ rs,r.1.length≤65536) (hk:k < rs.length) :
 FnW C 22 [eP bs e rs f,.int .i64 k,.int .i64 x]=some (.tup (if bs[k]'(by omega)≤(rs[k].1.length:Int) then [eP bs false (rs.map fr) true,.bool true] else [eP bs false ((rs.set k (rs[k].1++[x],true)).map fr) true,.bool false])):=by
 obtain ⟨v,h',n',e1,b1,b2,lo,id,cs,dt,rfl,R,e3,e4,e5,l1,l2,l3,l4,l5,l6,l7⟩:=cp_h H.toHasP bs e rs f [(0,.cells 2 [[L1 bs e,.ro 1 (rs.map eR) f]] true true),(1,.cells 2 [[.ro 1 [] true,.ro 1 [] true]] true true)] 5 hb hbl hrs hr
 rw [fnW_eq H.f22 rfl]
 have g0:=l7 0 (by omega)
 have g1:=l7 1 (by omega)
 simp at g0 g1
 have hkb:k < bs.length:=by omega
 have hcl:cs.length=rs.length:=by rw [R.len];simp
 have hc:=R.cell k (rwI rs[k]) (by simp [hk])
 have hkc:k < cs.length:=by omega
 rw [List.getElem?_eq_getElem hkc] at hc
 replace hc:=Option.some.inj hc
 by_cases c0:rs[k].1=[]
 · have hv:(rwI rs[k]).v 1 (id k)=.ro 1 [] true:=by simp [Rw.v,c0]
   rw [hv] at hc
   by_cases c:bs[k]≤0
   · have R1:=R.mono (h':=put (put h' n' (.cells 2 [[.sl b1 1 0 bs.length bs.length false,.sl b2 1 0 rs.length rs.length true]] true false)) 1 (.cells 2 [[.sl b1 1 0 bs.length bs.length false,.sl b2 1 0 rs.length rs.length true]] true false)) (Nat.le_refl n') (fun j hj hj2=>by rw [getPut_ne (by omega),getPut_ne (by omega)])
     have hF:=frz_pools R1 bs (rs.map fr) rs.length (by simp) e3 (rwI_ds rs)
     simp (disch:=omega) [w22,H.inl,e1,getPut_self,getPut_ne,e4,e5,g0,g1,hk,hkb,hkc,hc,c,putPut,c0,hF,-frzS]
   · have R1:=R.set k (by simpa using hk) (n'+24) (.inr (by omega)) (by omega) (show n'+24 < n'+99 by omega) (by omega) (rwI (rs[k].1++[x],true)) (Rw.of_ok _)
      (h':=put (put (put (put (put h' n' (.cells 2 [[.sl b1 1 0 bs.length bs.length false,.sl b2 1 0 rs.length rs.length true]] true false)) (n'+23) (.cells 1 [[.int .i64 x]] true true)) (n'+24) (.cells 1 [[.int .i64 x]] true true)) b2 (.cells 1 (cs.set k [.sl (n'+24) 1 0 1 1 false]) true false)) 1 (.cells 2 [[.sl b1 1 0 bs.length bs.length false,.sl b2 1 0 rs.length rs.length true]] true false))
      (fun j hj hjk=>by
       have:=R.bd j hj
       rw [getPut_ne (by omega),getPut_ne (by omega),getPut_ne (by omega),getPut_ne (by omega),getPut_ne (by omega)])
      (fun _=>by rw [getPut_ne (by omega),getPut_ne (by omega),getPut_self];simp [c0])
     have hF:=frz_pools (dt:=false) R1 bs ((rs.set k (rs[k].1++[x],true)).map fr) rs.length (by simp) (fun q=>by cases q) (by rw [← List.map_set];exact rwI_ds _)
     simp [Rw.v,c0,-frzS] at hF
     have hF:=tup_of hF [AV.bool false]
     simp (disch:=omega) [w22,H.inl,e1,getPut_self,getPut_ne,e4,e5,g0,g1,hk,hkb,hkc,hc,c,putPut,c0,ltF,gtF,-frzS]
     exact hF
 · have hv:(rwI rs[k]).v 1 (id k)=.sl (id k) 1 0 rs[k].1.length rs[k].1.length false:=by
    rw [Rw.v_sl 1 _ (by simpa using c0) (by simpa using c0)];simp
   have hg:=R.blk k (rwI rs[k]) (by simp [hk]) (by simpa using c0)
   rw [hv] at hc
   have hbd:=R.bd k (by simpa using hk)
   have hrk:=hr _ (List.getElem_mem hk)
   have hft:(rs[k].1.length+1) * 9≤35184372088832:=by omega
   by_cases c:bs[k]≤(rs[k].1.length:Int)
   · have R1:=R.mono (h':=put (put h' n' (.cells 2 [[.sl b1 1 0 bs.length bs.length false,.sl b2 1 0 rs.length rs.length true]] true false)) 1 (.cells 2 [[.sl b1 1 0 bs.length bs.length false,.sl b2 1 0 rs.length rs.length true]] true false)) (Nat.le_refl n') (fun j hj hj2=>by rw [getPut_ne (by omega),getPut_ne (by omega)])
     have hF:=frz_pools R1 bs (rs.map fr) rs.length (by simp) e3 (rwI_ds rs)
     simp (disch:=omega) [w22,H.inl,e1,getPut_self,getPut_ne,e4,e5,g0,g1,hk,hkb,hkc,hc,hg,c,putPut,hF,-frzS]
   · have R1:=R.set k (by simpa using hk) (n'+24) (.inr (by omega)) (by omega) (show n'+24 < n'+99 by omega) (by omega) (rwI (rs[k].1++[x],true)) (Rw.of_ok _)
      (h':=put (put (put (del (put (put h' n' (.cells 2 [[.sl b1 1 0 bs.length bs.length false,.sl b2 1 0 rs.length rs.length true]] true false)) (n'+23) (.cells 1 [[.int .i64 x]] true true)) (id k)) (n'+24) (.cells 1 (rs[k].1.map eI++[[.int .i64 x]]) true true)) b2 (.cells 1 (cs.set k [.sl (n'+24) 1 0 (rs[k].1.length+1) (rs[k].1.length+1) false]) true false)) 1 (.cells 2 [[.sl b1 1 0 bs.length bs.length false,.sl b2 1 0 rs.length rs.length true]] true false))
      (fun j hj hjk=>by
       have h1:=R.bd j hj
       have h2:id k≠id j:=fun q=>hjk (R.inj j k hj (by simpa using hk) q.symm)
       rw [getPut_ne (by omega),getPut_ne (by omega),getPut_ne (by omega),getDel_ne h2,getPut_ne (by omega),getPut_ne (by omega)])
      (fun _=>by rw [getPut_ne (by omega),getPut_ne (by omega),getPut_self];simp)
     have hF:=frz_pools (dt:=false) R1 bs ((rs.set k (rs[k].1++[x],true)).map fr) rs.length (by simp) (fun q=>by cases q) (by rw [← List.map_set];exact rwI_ds _)
     have hv2:(rwI (rs[k].1++[x],true)).v 1 (n'+24)=.sl (n'+24) 1 0 (rs[k].1.length+1) (rs[k].1.length+1) false:=by
      rw [Rw.v_sl 1 _ (by simp) (by simp)];simp
     rw [hv2] at hF
     have hF:=tup_of hF [AV.bool false]
     simp (disch:=omega) [w22,H.inl,e1,getPut_self,getPut_ne,getDel_ne,e4,e5,g0,g1,hk,hkb,hkc,hc,hg,c,putPut,hft,ltF,gtF,-frzS]
     simp [-frzS] at hF
     exact hF
theorem rpop_ok (bs:List Int) (e:Bool) (rs:List (List Int × Bool)) (f:Bool) (k:Nat) (hb:bs≠[]) (hbl:bs.length=rs.length) (hrs:rs.length≤8) (hr:∀ r ∈ rs,r.1.length≤65536) (hk:k < rs.length) :
 FnW C 23 [eP bs e rs f,.int .i64 k]=some (.tup (if rs[k].1.length=0 then [eP bs false (rs.map fr) true,.int .i64 0,.bool false] else
  [eP bs false ((rs.map fr).set k (rs[k].1.take (rs[k].1.length - 1),false)) true,.int .i64 (rs[k].1[rs[k].1.length - 1]?.getD 0),.bool true])):=by
 obtain ⟨v,h',n',e1,b1,b2,lo,id,cs,dt,rfl,R,e3,e4,e5,l1,l2,l3,l4,l5,l6,l7⟩:=cp_h H.toHasP bs e rs f [(0,.cells 2 [[L1 bs e,.ro 1 (rs.map eR) f]] true true),(1,.cells 2 [[.ro 1 [] true,.ro 1 [] true]] true true)] 6 hb hbl hrs hr
 rw [fnW_eq H.f23 rfl]
 have g0:=l7 0 (by omega)
 have g1:=l7 1 (by omega)
 simp at g0 g1
 have hcl:cs.length=rs.length:=by rw [R.len];simp
 have hc:=R.cell k (rwI rs[k]) (by simp [hk])
 have hkc:k < cs.length:=by omega
 rw [List.getElem?_eq_getElem hkc] at hc
 replace hc:=Option.some.inj hc
 by_cases c0:rs[k].1=[]
 · have hv:(rwI rs[k]).v 1 (id k)=.ro 1 [] true:=by simp [Rw.v,c0]
   rw [hv] at hc
   have R1:=R.mono (h':=put (put h' n' (.cells 2 [[.sl b1 1 0 bs.length bs.length false,.sl b2 1 0 rs.length rs.length true]] true false)) 1 (.cells 2 [[.sl b1 1 0 bs.length bs.length false,.sl b2 1 0 rs.length rs.length true]] true false)) (Nat.le_refl n') (fun j hj hj2=>by rw [getPut_ne (by omega),getPut_ne (by omega)])
   have hF:=frz_pools R1 bs (rs.map fr) rs.length (by simp) e3 (rwI_ds rs)
   simp (disch:=omega) [w23,H.inl,e1,getPut_self,getPut_ne,e4,e5,g0,g1,hk,hkc,hc,putPut,c0,hF,-frzS]
 · have hv:(rwI rs[k]).v 1 (id k)=.sl (id k) 1 0 rs[k].1.length rs[k].1.length false:=by
    rw [Rw.v_sl 1 _ (by simpa using c0) (by simpa using c0)];simp
   have hg:=R.blk k (rwI rs[k]) (by simp [hk]) (by simpa using c0)
   rw [hv] at hc
   have hbd:=R.bd k (by simpa using hk)
   have hrk:=hr _ (List.getElem_mem hk)
   obtain ⟨m,hm⟩:∃ m,rs[k].1.length=m+1:=⟨rs[k].1.length - 1,by have:=List.length_pos_iff.2 c0;omega⟩
   have hwm:IntKind.i64.wrap (m:Int)=m:=wI64 (by omega) (by omega)
   have hml:m < rs[k].1.length:=by omega
   have R1:=R.set k (by simpa using hk) (id k) (.inl rfl) (by omega) (show id k < n'+99 by omega) (by omega) ⟨0,m,m+1,rs[k].1.map eI⟩ ⟨by simp;omega,fun h=>by simp at h⟩
    (h':=put (put (put h' n' (.cells 2 [[.sl b1 1 0 bs.length bs.length false,.sl b2 1 0 rs.length rs.length true]] true false)) b2 (.cells 1 (cs.set k [.sl (id k) 1 0 m (m+1) false]) true false)) 1 (.cells 2 [[.sl b1 1 0 bs.length bs.length false,.sl b2 1 0 rs.length rs.length true]] true false))
    (fun j hj hjk=>by
     have h1:=R.bd j hj
     rw [getPut_ne (by omega),getPut_ne (by omega),getPut_ne (by omega)])
    (fun _=>by rw [getPut_ne (by omega),getPut_ne (by omega),getPut_ne (by omega),hg])
   obtain ⟨a0,r0,hcs⟩:∃ a r,rs[k].1.map eI=a::r:=by
    cases hq:rs[k].1 with
    | nil=>exact absurd hq c0
    | cons a l=>exact ⟨_,_,rfl⟩
   have hne:¬ ((m:Int)+1=0):=by omega
   have hF:=frz_pools (dt:=false) R1 bs ((rs.map fr).set k (rs[k].1.take m,false)) rs.length (by simp) (fun q=>by cases q) (by
    rw [List.map_set,rwI_ds,List.map_set]
    congr 1
    unfold Rw.d Rw.c
    simp only [hcs]
    simp only [List.drop_zero,← hcs]
    simp)
   have hv2:Rw.v 1 (if k=k then id k else id k) ⟨0,m,m+1,rs[k].1.map eI⟩=.sl (id k) 1 0 m (m+1) false:=by
    rw [if_pos rfl,Rw.v_sl 1 _ (by simpa using c0) (by simp)]
   simp only [if_true] at hv2
   rw [hv2] at hF
   have hF:=tup_of hF [.int .i64 (rs[k].1[m]'(by omega)),AV.bool true]
   simp (disch:=omega) [w23,H.inl,e1,getPut_self,getPut_ne,getDel_ne,e4,e5,g0,g1,hk,hkc,hc,hg,putPut,ltF,gtF,hm,hwm,hml,hne,-frzS]
   exact hF
end Go.C21
end
section
set_option linter.unusedSimpArgs false
set_option linter.unusedVariables false
namespace Go.C21
open Go Go.Pav Go.Pw P21
set_option maxRecDepth 10000
set_option maxHeartbeats 400000
set_option linter.unusedSimpArgs false
set_option linter.unusedVariables false
attribute [-simp] List.getElem_cons_drop
structure TrI (bs:List Int) (b1 b2 q lo r:Nat) (h:WHeap) (next:Nat) (cs:List (List AV)) (W:List Rw) (gb:Nat) (G:List Int) (id:Nat→Nat) (dt:Bool):Prop where
 R:Nst 1 h lo next id cs W
 wl:W.length=r
 hd:dt=true→∀ w ∈ W,w.es=[]
 g2:Pav.get h b2=some (.cells 1 cs true dt)
 g1:Pav.get h b1=some (.cells 1 (bs.map eI) true true)
 gq:Pav.get h q=some (.cells 2 [[.sl b1 1 0 bs.length bs.length false,.sl b2 1 0 r r true]] true false)
 gr:Pav.get h 1=some (.cells 2 [[.ro 1 [] true,.ro 1 [] true]] true true)
 gg:Pav.get h gb=some (.cells 1 (G.map eI) true true)
 gl:lo≤gb∧gb < next
 gn:∀ j,j < W.length→id j≠gb
 lt:1 < lo∧b1 < lo∧b2 < lo∧b1≠b2∧b1≠q∧b2≠q∧1 < b1∧1 < b2∧1 < q
 ln:lo≤next∧q < next∧gb≠q
 qn:∀ j,j < W.length→id j≠q
theorem set_same {α:Type} {l:List α} {i:Nat} {a:α} (h:l[i]?=some a):l.set i a=l:=by
 obtain ⟨h1,rfl⟩:=List.getElem?_eq_some_iff.1 h
 exact List.set_getElem_self h1
theorem TrI.later {bs:List Int} {b1 b2 q lo r:Nat} {h:WHeap} {next next':Nat} {cs:List (List AV)} {W:List Rw} {gb:Nat} {G:List Int} {id:Nat→Nat} {dt:Bool} (T:TrI bs b1 b2 q lo r h next cs W gb G id dt) (hn:next≤next'):TrI bs b1 b2 q lo r h next' cs W gb G id dt :=
 ⟨T.R.mono hn (fun _ _ _=>rfl),T.wl,T.hd,T.g2,T.g1,T.gq,T.gr,T.gg,⟨T.gl.1,by have:=T.gl.2;omega⟩,T.gn,T.lt,by have:=T.ln;omega,T.qn⟩
variable {C:WProg}
theorem trim_in (bs:List Int) (b1 b2 q lo r:Nat) (i to:Nat) (es:List Int) (ht:to≤3) (hes:es.length≤65536) (hne:es≠[]):∀ d j,(es.length - j=to+d∨(d=0∧es.length - j≤to))→j≤es.length→∀ (h:WHeap) (next:Nat) (cs:List (List AV)) (W:List Rw) (gb:Nat) (G:List Int) (id:Nat→Nat) (dt:Bool),
 TrI bs b1 b2 q lo r h next cs W gb G id dt→W[i]?=some ⟨j,es.length - j,es.length - j,es.map eI⟩→G.length≤1000000 - d →
 ∃ h' next' cs' gb' id',CK C 0 (pureFin [.cell 4 2 true,.tmp 5]) [.sq w13_L1,.bk 2 ⟨true,[8,7,6,4,1],[(9999,65537)]⟩,.bk 1 ⟨true,[8,7,6,4,1],[(9999,65537)]⟩,.sq w13_c1,.sq w13_L0,.bk 0 ⟨true,[7,6,4],[(9999,65537)]⟩,.sq w13_c0] w13_B1
  ⟨[(8,.int .i64 i),(7,.sl gb 1 0 G.length G.length false),(6,.ptr q 0 0),(4,.ptr 1 0 0),(1,.int .i64 to)],h,next⟩ =
  CK C 0 (pureFin [.cell 4 2 true,.tmp 5]) [.sq w13_L0,.bk 0 ⟨true,[7,6,4],[(9999,65537)]⟩,.sq w13_c0] w13_c1
   ⟨[(8,.int .i64 i),(7,.sl gb' 1 0 (G++(es.drop j).take d).length (G++(es.drop j).take d).length false),(6,.ptr q 0 0),(4,.ptr 1 0 0),(1,.int .i64 to)],h',next'⟩ ∧
  TrI bs b1 b2 q lo r h' next' cs' (W.set i ⟨j+d,es.length - (j+d),es.length - (j+d),es.map eI⟩) gb' (G++(es.drop j).take d) id' dt:=by
 intro d
 induction d with
 | zero =>
  intro j hj hjl h next cs W gb G id dt T hw hG
  have hi:i < W.length:=(List.getElem?_eq_some_iff.1 hw).1
  have hc:=T.R.cell i _ hw
  have hi2:i < cs.length:=by rw [T.R.len];exact hi
  rw [List.getElem?_eq_getElem hi2] at hc
  replace hc:=Option.some.inj hc
  have hir:i < r:=by rw [← T.wl];exact hi
  refine ⟨h,next+8,cs,gb,id,?_,by
   simp only [List.take_zero,List.append_nil,Nat.add_zero]
   rw [set_same hw];exact T.later (by omega)⟩
  rw [ck_unf w13_B1.eq_1]
  by_cases h0:es.length - j=0
  · rw [Rw.v_out 1 _ (by simpa using hne) h0] at hc
    have hto:¬ to < 0:=by omega
    simp (disch:=omega) [T.gq,T.g2,hi2,hir,hc,hto]
  · rw [Rw.v_sl 1 _ (by simpa using hne) h0] at hc
    have hto:¬ (to:Int) < ((es.length - j:Nat):Int):=by omega
    simp (disch:=omega) [T.gq,T.g2,hi2,hir,hc,hto]
 | succ d ih =>
  intro j hj hjl h next cs W gb G id dt T hw hG
  replace hj:es.length - j=to+(d+1):=by rcases hj with q | ⟨q,_⟩ <;> omega
  have hi:i < W.length:=(List.getElem?_eq_some_iff.1 hw).1
  have hc:=T.R.cell i _ hw
  have hi2:i < cs.length:=by rw [T.R.len];exact hi
  rw [List.getElem?_eq_getElem hi2] at hc
  replace hc:=Option.some.inj hc
  rw [Rw.v_sl 1 _ (by simpa using hne) (by show es.length - j≠0;omega)] at hc
  have hb:=T.R.blk i _ hw (by simpa using hne)
  have hbd:=T.R.bd i hi
  have hgn:=T.gn i hi
  have hir:i < r:=by rw [← T.wl];exact hi
  have hto:(to:Int) < ((es.length - j:Nat):Int):=by omega
  have hj2:j < es.length:=by omega
  have hj3:0 < es.length - j:=by omega
  have hj4:1≤es.length - j:=by omega
  have hgl:=T.gl
  have hlt:=T.lt
  have hft:(G.length+1) * 9≤35184372088832:=by omega
  have hwn:=T.ln
  simp only at hb hc
  have hdf:dt=false:=by
   cases dt with
   | false=>rfl
   | true=>exact absurd (T.hd rfl _ (List.mem_of_getElem? hw)) (by simpa using hne)
  subst hdf
  have hes1:es.length - (j+1)=es.length - j - 1:=by omega
  have hdrop:(es.drop j).take (d+1)=es[j]::(es.drop (j+1)).take d:=by rw [List.drop_eq_getElem_cons hj2];rfl
  have key:∀ (nv:AV),nv=Rw.v 1 (id i) ⟨j+1,es.length - (j+1),es.length - (j+1),es.map eI⟩ →
   TrI bs b1 b2 q lo r (put (put (del (put h (next+16) (.cells 1 [[.int .i64 es[j]]] true true)) gb) (next+17) (.cells 1 (G.map eI++[[.int .i64 es[j]]]) true true)) b2 (.cells 1 (cs.set i [nv]) true false)) (next+30) (cs.set i [nv])
    (W.set i ⟨j+1,es.length - (j+1),es.length - (j+1),es.map eI⟩) (next+17) (G++[es[j]]) (fun k=>if k=i then id i else id k) false:=by
   rintro nv rfl
   have gne:∀ k,k < W.length→gb≠id k:=fun k hk q=>T.gn k hk q.symm
   refine ⟨T.R.set i hi (id i) (.inl rfl) hbd.1 (by omega) (by omega) _ ⟨by simp;omega,fun h=>h⟩ ?_ ?_,by simp [T.wl],by simp,by rw [getPut_self],?_,?_,?_,?_,⟨by omega,by omega⟩,?_,T.lt,by omega,?_⟩
   · intro k hk hki
     have h1:=T.R.bd k hk
     rw [getPut_ne (by omega),getPut_ne (by omega),getDel_ne (gne k hk),getPut_ne (by omega)]
   · intro _
     rw [getPut_ne (by omega),getPut_ne (by omega),getDel_ne (gne i hi),getPut_ne (by omega)]
     exact hb
   · rw [getPut_ne (by omega),getPut_ne (by omega),getDel_ne (by omega),getPut_ne (by omega)];exact T.g1
   · rw [getPut_ne (by omega),getPut_ne (by omega),getDel_ne (by omega),getPut_ne (by omega)];exact T.gq
   · rw [getPut_ne (by omega),getPut_ne (by omega),getDel_ne (by omega),getPut_ne (by omega)];exact T.gr
   · rw [getPut_ne (by omega),getPut_self];simp
   · intro k hk
     rw [List.length_set] at hk
     have h1:=T.R.bd k hk
     have h2:=hbd
     split <;> omega
   · intro k hk
     rw [List.length_set] at hk
     have h1:=T.qn k hk
     have h2:=T.qn i hi
     split <;> assumption
  obtain ⟨nv,hnv⟩:∃ nv,nv=Rw.v 1 (id i) ⟨j+1,es.length - (j+1),es.length - (j+1),es.map eI⟩:=⟨_,rfl⟩
  obtain ⟨h',next',cs',gb',id',e1,e2⟩:=ih (j+1) (.inl (by omega)) (by omega) _ _ _ _ _ _ _ _ (key nv hnv) (by rw [List.getElem?_set_self hi]) (by simp;omega)
  refine ⟨h',next',cs',gb',id',?_,?_⟩
  · rw [ck_unf w13_B1.eq_1]
    rw [hdrop]
    rw [show G++es[j]::(es.drop (j+1)).take d=(G++[es[j]])++(es.drop (j+1)).take d by simp]
    rw [← e1]
    by_cases h1:es.length - j=1
    · rw [Rw.v_out 1 _ (by simpa using hne) (by show es.length - (j+1)=0;omega)] at hnv
      subst hnv
      have hj5:¬ 1 < es.length - j:=by omega
      simp (disch:=omega) [T.gq,T.g2,T.gg,hi2,hir,hc,hto,hb,hj2,hj3,hj4,hj5,getPut_self,getPut_ne,getDel_ne,hft,ltF,gtF,neF]
    · rw [Rw.v_sl 1 _ (by simpa using hne) (by show es.length - (j+1)≠0;omega)] at hnv
      simp only at hnv
      subst hnv
      have hj5:1 < es.length - j:=by omega
      simp (disch:=omega) [T.gq,T.g2,T.gg,hi2,hir,hc,hto,hb,hj2,hj3,hj4,hj5,getPut_self,getPut_ne,getDel_ne,hft,ltF,gtF,neF,hes1]
  · rw [hdrop,show G++es[j]::(es.drop (j+1)).take d=(G++[es[j]])++(es.drop (j+1)).take d by simp]
    rw [List.set_set,show j+1+d=j+(d+1) by omega] at e2
    exact e2
def tw (to:Nat) (r:List Int × Bool):Rw:=⟨r.1.length - to,r.1.length - (r.1.length - to),r.1.length - (r.1.length - to),r.1.map eI⟩
def trd (to:Nat) (r:List Int × Bool):List Int × Bool:=(r.1.drop (r.1.length - to),r.1.isEmpty)
def trg (to:Nat) (rs:List (List Int × Bool)):List Int:=rs.flatMap fun r=>r.1.take (r.1.length - to)
theorem tw_d (to:Nat) (r:List Int × Bool):[(tw to r).d 1]=eR (trd to r):=by
 obtain ⟨l,e⟩:=r
 cases l with
 | nil=>simp [tw,trd,Rw.d]
 | cons a l =>
  have h:List.take ((a::l).length - ((a::l).length - to)) (List.drop ((a::l).length - to) (List.map eI (a::l)))=List.drop ((a::l).length - to) (List.map eI (a::l)) :=
   List.take_of_length_le (by simp)
  simp only [Rw.d,tw,Rw.c,List.map_cons] at h ⊢
  rw [h]
  rw [← List.map_cons (f:=eI),← List.map_drop]
  simp [trd]
theorem trim_out (bs:List Int) (b1 b2 q lo:Nat) (to:Nat) (rs:List (List Int × Bool)) (ht:to≤3) (hrs:rs.length≤8) (hr:∀ r ∈ rs,r.1.length≤65536):∀ m i,m+i=rs.length→∀ (h:WHeap) (next:Nat) (cs:List (List AV)) (gb:Nat) (id:Nat→Nat) (dt:Bool),
 TrI bs b1 b2 q lo rs.length h next cs ((rs.take i).map (tw to)++(rs.drop i).map rwI) gb (trg to (rs.take i)) id dt→(trg to (rs.take i)).length≤65536 * i →
 CK C 0 (pureFin [.cell 4 2 true,.tmp 5]) [.sq w13_L0,.bk 0 ⟨true,[7,6,4],[(9999,65537)]⟩,.sq w13_c0] w13_B0
  ⟨[(8,.int .i64 i),(7,.sl gb 1 0 (trg to (rs.take i)).length (trg to (rs.take i)).length false),(6,.ptr q 0 0),(4,.ptr 1 0 0),(1,.int .i64 to)],h,next⟩ =
  some (.tup [eP bs false (rs.map (trd to)) true,L1 (trg to rs) false]):=by
 intro m
 induction m with
 | zero =>
  intro i hi h next cs gb id dt T hG
  have h3:¬ i < rs.length:=by omega
  rw [List.take_of_length_le (by omega)] at T hG ⊢
  rw [List.drop_of_length_le (by omega),List.map_nil,List.append_nil] at T
  have hlt:=T.lt
  have hgl:=T.gl
  have R1:=T.R.mono (h':=put h 1 (.cells 2 [[.sl b1 1 0 bs.length bs.length false,.sl b2 1 0 rs.length rs.length true]] true false)) (Nat.le_refl next) (fun j hj hj2=>by rw [getPut_ne (by omega)])
  have hF:=frz_pools R1 bs (rs.map (trd to)) rs.length (by simp) T.hd (by
   rw [List.map_map,List.map_map]
   exact List.map_congr_left fun r _=>tw_d to r)
  have hg2:frzS (put h 1 (.cells 2 [[.sl b1 1 0 bs.length bs.length false,.sl b2 1 0 rs.length rs.length true]] true false)) 14 1 0 (trg to rs).length (trg to rs).length false (some (.cells 1 ((trg to rs).map eI) true true))=some (L1 (trg to rs) false):=by
   have:List.take (trg to rs).length (List.map eI (trg to rs))=List.map eI (trg to rs):=List.take_of_length_le (by simp)
   simp [frzS,og,this]
  rw [ck_unf w13_B0.eq_1]
  simp (disch:=omega) [T.gq,T.g2,T.g1,T.gr,T.gg,h3,ck_unf w13_c0.eq_1,getPut_self,getPut_ne,-frzS,hF,hg2]
 | succ m ih =>
  intro i hi h next cs gb id dt T hG
  have h3:i < rs.length:=by omega
  have hri:=hr _ (List.getElem_mem h3)
  have htk:rs.take (i+1)=rs.take i++[rs[i]]:=by rw [List.take_succ_eq_append_getElem h3]
  have hWi:((rs.take i).map (tw to)++(rs.drop i).map rwI)[i]?=some (rwI rs[i]):=by
   rw [List.getElem?_append_right (by simp;omega),List.drop_eq_getElem_cons h3]
   have:i - (List.map (tw to) (List.take i rs)).length=0:=by simp;omega
   rw [this];rfl
  have hWs:((rs.take i).map (tw to)++(rs.drop i).map rwI).set i (tw to rs[i])=(rs.take (i+1)).map (tw to)++(rs.drop (i+1)).map rwI:=by
   rw [List.set_append_right _ _ (by simp;omega),List.drop_eq_getElem_cons h3,htk]
   have:i - (List.map (tw to) (List.take i rs)).length=0:=by simp;omega
   rw [this,List.map_append,List.map_cons,List.set_cons_zero,List.append_assoc]
   rfl
  have hgt:trg to (rs.take (i+1))=trg to (rs.take i)++rs[i].1.take (rs[i].1.length - to):=by
   rw [htk];unfold trg;rw [List.flatMap_append,List.flatMap_cons,List.flatMap_nil,List.append_nil]
  have hgl2:(trg to (rs.take (i+1))).length≤65536 * (i+1):=by rw [hgt];simp;omega
  have T0:=T.later (next':=next+5) (by omega)
  rw [ck_unf w13_B0.eq_1]
  by_cases c0:rs[i].1=[]
  · have hc:=T.R.cell i _ hWi
    have hi2:i < cs.length:=by rw [T.R.len,T.wl];exact h3
    rw [List.getElem?_eq_getElem hi2] at hc
    replace hc:=Option.some.inj hc
    have hv:(rwI rs[i]).v 1 (id i)=.ro 1 [] true:=by simp [Rw.v,c0]
    rw [hv] at hc
    have htw:rwI rs[i]=tw to rs[i]:=by simp [tw,c0]
    have hto:¬ to < 0:=by omega
    have e2:TrI bs b1 b2 q lo rs.length h (next+16) cs ((rs.take (i+1)).map (tw to)++(rs.drop (i+1)).map rwI) gb (trg to (rs.take (i+1))) id dt:=by
     rw [← hWs,← htw,set_same hWi,hgt,c0,List.take_nil,List.append_nil]
     exact T.later (by omega)
    have e3:=ih (i+1) (by omega) h (next+16) cs gb id dt e2 hgl2
    rw [hgt,c0,List.take_nil,List.append_nil] at e3
    simp (disch:=omega) [T.gq,h3]
    rw [ck_unf w13_B1.eq_1]
    simp (disch:=omega) [T.gq,T.g2,hi2,h3,hc,hto]
    rw [ck_unf w13_c1.eq_1]
    simp (disch:=omega) [wI64]
    simpa using e3
  · obtain ⟨h',next',cs',gb',id',e1,e2⟩:=trim_in (C:=C) bs b1 b2 q lo rs.length i to rs[i].1 ht hri c0 (rs[i].1.length - to) 0 (by omega) (Nat.zero_le _) h (next+5) cs _ gb (trg to (rs.take i)) id dt T0
     (by rw [hWi];simp [rwI]) (by omega)
    simp only [List.drop_zero,← hgt,Nat.zero_add] at e1 e2
    rw [show (⟨rs[i].1.length - to,rs[i].1.length - (rs[i].1.length - to),rs[i].1.length - (rs[i].1.length - to),rs[i].1.map eI⟩:Rw)=tw to rs[i] from rfl,hWs] at e2
    have e3:=ih (i+1) (by omega) h' (next'+3) cs' gb' id' dt (e2.later (by omega)) hgl2
    simp (disch:=omega) [T.gq,h3]
    refine e1.trans ?_
    rw [ck_unf w13_c1.eq_1]
    simp (disch:=omega) [wI64]
    simpa using e3
variable (H:HasQ C)
include H
theorem rtrim_ok (bs:List Int) (e:Bool) (rs:List (List Int × Bool)) (f:Bool) (to:Nat) (ht:to≤3) (hb:bs≠[]) (hbl:bs.length=rs.length) (hrs:rs.length≤8) (hr:∀ r ∈ rs,r.1.length≤65536) :
 FnW C 13 [eP bs e rs f,.int .i64 to]=some (.tup [eP bs false (rs.map (trd to)) true,L1 (trg to rs) false]):=by
 obtain ⟨v,h',n',e1,b1,b2,lo,id,cs,dt,rfl,R,e3,e4,e5,l1,l2,l3,l4,l5,l6,l7⟩:=cp_h H.toHasP bs e rs f [(0,.cells 2 [[L1 bs e,.ro 1 (rs.map eR) f]] true true),(1,.cells 2 [[.ro 1 [] true,.ro 1 [] true]] true true)] 5 hb hbl hrs hr
 rw [fnW_eq H.f13 rfl]
 have g1:=l7 1 (by omega)
 simp at g1
 simp (disch:=omega) [w13,H.inl,e1,getPut_self,getPut_ne,e4,e5,g1,putPut]
 have T:TrI bs b1 b2 n' lo rs.length (put (put h' n' (.cells 2 [[.sl b1 1 0 bs.length bs.length false,.sl b2 1 0 rs.length rs.length true]] true false)) (n'+3) (.cells 1 [] true true)) (n'+5) cs (rs.map rwI) (n'+3) [] id dt :=
  ⟨R.mono (by omega) (fun j hj hj2=>by rw [getPut_ne (by omega),getPut_ne (by omega)]),by simp,e3,by rw [getPut_ne (by omega),getPut_ne (by omega)];exact e4,by rw [getPut_ne (by omega),getPut_ne (by omega)];exact e5,
   by rw [getPut_ne (by omega),getPut_self],by rw [getPut_ne (by omega),getPut_ne (by omega)];exact g1,by rw [getPut_self];rfl,by omega,fun j hj=>by have:=R.bd j hj;omega,by omega,by omega,fun j hj=>by have:=R.bd j hj;omega⟩
 exact trim_out bs b1 b2 n' lo to rs ht hrs hr rs.length 0 (by simp) _ (n'+5) cs (n'+3) id dt (by simpa [trg] using T) (by simp [trg])
end Go.C21
end
section
set_option linter.unusedSimpArgs false
set_option linter.unusedVariables false
namespace Go.C21
open Go Go.Pav Go.Pw P21
set_option maxRecDepth 10000
set_option maxHeartbeats 4000000
attribute [-simp] List.getElem_cons_drop
variable {C:WProg} (H:Has C)
include H
end Go.C21
end
section
set_option linter.unusedSimpArgs false
set_option linter.unusedVariables false
namespace Go.C21
open Go Go.Pav Go.Pw P21
set_option maxRecDepth 10000
set_option maxHeartbeats 4000000
attribute [-simp] List.getElem_cons_drop
variable {C:WProg} (H:Has C)
include H
omit H in
theorem chk_withR {B:List Int} {rs:List (List Int × Bool)} {k:Nat} {row:List Int} (hc:chk B rs=0) (hr:∀ b,B[k]?=some b→(row.length:Int)≤b):chk B (withR rs k row 0)=0:=by
 have h1:=withR_fst rs k 0 row
 rw [Nat.zero_add] at h1
 rw [okp_chk,h1]
 exact (okp_chk.1 hc).set hr
end Go.C21
end
section
set_option linter.unusedSimpArgs false
set_option linter.unusedVariables false
namespace Go.C21
open Go Go.Pav Go.Pw P21
set_option maxRecDepth 10000
set_option maxHeartbeats 4000000
attribute [-simp] List.getElem_cons_drop
variable {C:WProg} (H:Has C)
include H
omit H in
theorem bnd_ok (bs:List Int):chk (bnd bs) ((bnd bs).map fun _=>([],true))=0:=by
 rw [okp_chk]
 refine ⟨by simp [bnd],by simp [bnd];omega,by simp,fun i b l e1 e2=>?_⟩
 simp only [List.map_map,List.getElem?_map,Option.map_eq_some_iff] at e2
 obtain ⟨_,_,rfl⟩:=e2
 have hm:b ∈ bnd bs:=List.mem_of_getElem? e1
 simp only [bnd,List.mem_cons,List.mem_map] at hm
 rcases hm with rfl | ⟨x,_,rfl⟩
 · simp
 · have h1:=Int.emod_nonneg x (show (4:Int)≠0 by decide)
   have h2:=Int.emod_lt_of_pos x (show (0:Int) < 4 by decide)
   exact ⟨h1,by omega,by simpa using h1⟩
end Go.C21
end
section
set_option linter.unusedSimpArgs false
set_option linter.unusedVariables false
namespace Go.C21
open Go Go.Pav Go.Pw P21
set_option maxRecDepth 10000
set_option maxHeartbeats 400000
set_option linter.unusedSimpArgs false
set_option linter.unusedVariables false
attribute [-simp] List.getElem_cons_drop
structure HasR (C:WProg):Prop extends HasQ C where
 f1:C.fns.get 1=some w1
 f6:C.fns.get 6=some w6
 g7:C.fns.get 7=some w7
 f8:C.fns.get 8=some w8
 f9:C.fns.get 9=some w9
 f17:C.fns.get 17=some w17
variable {C:WProg} (H:HasR C)
include H
theorem rnew_d (bs:List Int) (e:Bool) (hb:bs≠[]) (hl:bs.length≤1000):FnW C 7 [L1 bs e]=some (eP bs false (bs.map fun _=>([],true)) true):=by
 have h3:List.replicate bs.length [AV.ro 1 [] true]=(bs.map fun _=>(([]:List Int),true)).map eR:=by
  rw [List.map_map];exact (List.map_const' ..).symm
 obtain ⟨rs,hrs⟩:∃ rs:List (List Int × Bool),bs.map (fun _=>(([]:List Int),true))=rs:=⟨_,rfl⟩
 rw [hrs] at h3 ⊢
 have h7:rs.length=bs.length:=by rw [← hrs];simp
 have h8:List.take bs.length (List.map eR rs)=List.map eR rs:=List.take_of_length_le (by simp [h7])
 have h9:List.take bs.length (List.map eI bs)=List.map eI bs:=List.take_of_length_le (by simp)
 rw [fnW_eq H.g7 rfl]
 simp (disch:=omega) [w7,hb,fits,h3,h7,h8,h9]
omit H in
theorem rall_loop (bs:List Int) (e:Bool) (rs:List (List Int × Bool)) (f:Bool) (hrs:rs.length≤8) (hr:∀ r ∈ rs,r.1.length≤65536):∀ n i,n+i=rs.length→∀ G:List Int,G.length≤65536 * i →
 w17_K0 C ⟨[(4,.int .i64 i),(3,.sl 0 1 0 G.length G.length false),(1,.ptr 1 0 0)],[(0,.cells 1 (G.map eI) true true),(1,.cells 2 [[L1 bs e,.ro 1 (rs.map eR) f]] true true)],2⟩=some (L1 (G++cat (rs.drop i)) false):=by
 intro n
 induction n with
 | zero =>
  intro i hi G hG
  simp only [w17_K0];rw [ck_unf w17_B0.eq_1]
  have h3:¬ i < rs.length:=by omega
  have h4:rs.drop i=[]:=List.drop_eq_nil_of_le (by omega)
  have h9:List.take G.length (List.map eI G)=List.map eI G:=List.take_of_length_le (by simp)
  simp [ck_unf w17_c0.eq_1,h3,h4,cat,h9]
 | succ n ih =>
  intro i hi G hG
  have h3:i < rs.length:=by omega
  have hri:=hr _ (List.getElem_mem h3)
  have hc:cat (rs.drop i)=rs[i].1++cat (rs.drop (i+1)):=by rw [drop_cons h3];rfl
  rw [hc,← List.append_assoc]
  by_cases c:rs[i].1=[]
  · have:=ih (i+1) (by omega) G (by omega)
    simp only [w17_K0] at this ⊢;rw [ck_unf w17_B0.eq_1]
    simp at this
    simp (disch:=omega) [h3,wI64,c,this]
  · have:=ih (i+1) (by omega) (G++rs[i].1) (by simp;omega)
    have hft:(G.length+rs[i].1.length) * 9≤35184372088832:=by omega
    have hpos:¬ G.length+rs[i].1.length≤G.length:=by have:=List.length_pos_iff.2 c;omega
    simp only [w17_K0] at this ⊢;rw [ck_unf w17_B0.eq_1]
    simp at this
    simp (disch:=omega) [h3,wI64,c,hft,hpos,this]
theorem rall_ok (bs:List Int) (e:Bool) (rs:List (List Int × Bool)) (f:Bool) (hrs:rs.length≤8) (hr:∀ r ∈ rs,r.1.length≤65536):FnW C 17 [eP bs e rs f]=some (L1 (cat rs) false):=by
 have:=rall_loop (C:=C) bs e rs f hrs hr rs.length 0 (by simp) [] (by simp)
 rw [fnW_eq H.f17 rfl]
 simp only [w17_K0] at this
 simp at this
 simp [w17,this]
theorem same_loop (bs:List Int) (e e2:Bool) (rs rs2:List (List Int × Bool)) (f:Bool) (h:rs2.map (·.1)=rs.map (·.1)) (ht:∀ r ∈ rs,r.2=true) (hrs:rs.length≤8) (hr:∀ r ∈ rs,r.1.length≤65536):∀ n i,n+i=rs.length →
 w8_K0 C ⟨[(5,.int .i64 i),(3,.ptr 0 0 0),(2,.ptr 1 0 0)],[(0,.cells 2 [[L1 bs e2,.ro 1 (rs2.map eR) f]] true true),(1,.cells 2 [[L1 bs e,.ro 1 (rs.map eR) true]] true true)],2⟩=some (.int .i64 1):=by
 have hl:rs2.length=rs.length:=by have:=congrArg List.length h;simpa using this
 intro n
 induction n with
 | zero =>
  intro i hi
  simp only [w8_K0];rw [ck_unf w8_B0.eq_1]
  have h3:¬ i < rs.length:=by omega
  simp [ck_unf w8_c0.eq_1,h3]
 | succ n ih =>
  intro i hi
  have h3:i < rs.length:=by omega
  have h4:i < rs2.length:=by omega
  have hri:=hr _ (List.getElem_mem h3)
  have hti:=ht _ (List.getElem_mem h3)
  have heq:rs2[i].1=rs[i].1:=by
   have:=congrArg (fun l=>l[i]?) h
   simpa [h3,h4] using this
  have hin:=ints_ok H.toHas rs[i].1 rs[i].1 rs2[i].2 (by omega)
  rw [if_pos rfl] at hin
  have:=ih (i+1) (by omega)
  simp only [w8_K0] at this ⊢;rw [ck_unf w8_B0.eq_1]
  simp at this hin
  simp (disch:=omega) [h3,h4,H.inl,wI64,hti,heq,hin,this]
theorem same_ok (bs:List Int) (e2:Bool) (rs rs2:List (List Int × Bool)) (f:Bool) (h:rs2.map (·.1)=rs.map (·.1)) (ht:∀ r ∈ rs,r.2=true) (hbs:bs.length≤8) (hrs:rs.length≤8) (hr:∀ r ∈ rs,r.1.length≤65536) :
 FnW C 8 [eP bs true rs true,eP bs e2 rs2 f]=some (.int .i64 1):=by
 have hl:rs2.length=rs.length:=by have:=congrArg List.length h;simpa using this
 have:=same_loop H bs true e2 rs rs2 f h ht hrs hr rs.length 0 (by simp)
 have hin:=ints_ok H.toHas bs bs e2 (by omega)
 rw [if_pos rfl] at hin
 rw [fnW_eq H.f8 rfl]
 simp only [w8_K0] at this
 simp at this hin
 simp [w8,H.inl,hin,hl,this]
end Go.C21
end
section
set_option linter.unusedSimpArgs false
set_option linter.unusedVariables false
namespace Go.C21
open Go Go.Pav Go.Pw P21
set_option maxRecDepth 10000
set_option maxHeartbeats 1000000
set_option linter.unusedSimpArgs false
set_option linter.unusedVariables false
attribute [-simp] List.getElem_cons_drop
theorem withR_flag:∀ (rs:List (List Int × Bool)) (k i:Nat) (row:List Int),∀ r ∈ withR rs k row i,r.2=true
 | [],_,_,_=>by simp [withR]
 | r::rs,k,i,row=>by
  intro x hx
  simp only [withR,List.mem_cons] at hx
  rcases hx with rfl | hx
  · rfl
  · exact withR_flag rs k (i+1) row x hx
theorem fst_fr (rs:List (List Int × Bool)):(rs.map fr).map (·.1)=rs.map (·.1):=by rw [List.map_map];rfl
theorem cat_fst {a b:List (List Int × Bool)} (h:a.map (·.1)=b.map (·.1)):cat a=cat b:=by rw [cat_eq,cat_eq,h]
theorem trg_fst {a b:List (List Int × Bool)} (t:Nat) (h:a.map (·.1)=b.map (·.1)):trg t a=gone t b:=by
 have key:∀ l:List (List Int × Bool),l.flatMap (fun r=>r.1.take (r.1.length - t))=(l.map (·.1)).flatMap fun x=>x.take (x.length - t):=by
  intro l;rw [List.flatMap_map]
 unfold trg gone
 rw [key,key,h]
theorem trd_fst {a b:List (List Int × Bool)} (t:Nat) (h:a.map (·.1)=b.map (·.1)):(a.map (trd t)).map (·.1)=(b.map (tr t)).map (·.1):=by
 have k1:(a.map (trd t)).map (·.1)=(a.map (·.1)).map fun x=>x.drop (x.length - t):=by rw [List.map_map,List.map_map];rfl
 have k2:(b.map (tr t)).map (·.1)=(b.map (·.1)).map fun x=>x.drop (x.length - t):=by rw [List.map_map,List.map_map];rfl
 rw [k1,k2,h]
variable {C:WProg} (H:HasR C)
include H
theorem call_push (B:List Int) (rs rs2:List (List Int × Bool)) (o:Int × Int × Int) (b:Bool) (k:Nat) (hB:B≠[]) (h0:0≤o.1) (h1:o.1 % 8 < 4) (hk:o.2.1 % (B.length:Int)=k) (h2:0≤o.2.1) (h3:o.2.1≤255) (h4:0≤o.2.2∧o.2.2≤255)
 (hr:FnW C 22 [eP B false rs true,.int .i64 k,.int .i64 o.2.2]=some (.tup [eP B false rs2 true,.bool b])) :
 FnW C 9 [eP B false rs true,.agg (eO o)]=some (.tup [eP B false rs2 true,.int .i64 0,.bool b]):=by
 rw [fnW_eq H.f9 rfl]
 simp (disch:=omega) [w9,H.inl,hB,Int.tmod_eq_emod_of_nonneg,wI64,hk,h1,hr]
theorem call_pop (B:List Int) (rs rs2:List (List Int × Bool)) (o:Int × Int × Int) (x:Int) (b:Bool) (k:Nat) (hB:B≠[]) (h0:0≤o.1) (h1:¬ o.1 % 8 < 4) (h1':o.1 % 8 < 7) (hk:o.2.1 % (B.length:Int)=k) (h2:0≤o.2.1) (h3:o.2.1≤255)
 (hr:FnW C 23 [eP B false rs true,.int .i64 k]=some (.tup [eP B false rs2 true,.int .i64 x,.bool b])) :
 FnW C 9 [eP B false rs true,.agg (eO o)]=some (.tup [eP B false rs2 true,.int .i64 x,.bool b]):=by
 rw [fnW_eq H.f9 rfl]
 simp (disch:=omega) [w9,H.inl,hB,Int.tmod_eq_emod_of_nonneg,wI64,hk,h1,h1',hr]
theorem call_trim (B:List Int) (rs rs2:List (List Int × Bool)) (o:Int × Int × Int) (G:List Int) (t k:Nat) (hB:B≠[]) (h0:0≤o.1) (h1:¬ o.1 % 8 < 4) (h1':¬ o.1 % 8 < 7) (hk:o.2.1 % (B.length:Int)=k) (h2:0≤o.2.1) (h3:o.2.1≤255) (h4:0≤o.2.2) (h5:o.2.2 % 4=t)
 (hr:FnW C 13 [eP B false rs true,.int .i64 t]=some (.tup [eP B false rs2 true,L1 G false])) :
 FnW C 9 [eP B false rs true,.agg (eO o)]=some (.tup [eP B false rs2 true,.int .i64 0,.bool false]):=by
 rw [fnW_eq H.f9 rfl]
 simp (disch:=omega) [w9,H.inl,hB,Int.tmod_eq_emod_of_nonneg,wI64,hk,h1,h1',h5,hr]
theorem play_loop (hlives:FnW C 18 []=some (.bool true)) (bs:List Int) (e:Bool) (cs:List (Int × Int × Int)) (f:Bool)
 (hcs:∀ o ∈ cs,(0≤o.1∧o.1≤255)∧(0≤o.2.1∧o.2.1≤255)∧(0≤o.2.2∧o.2.2≤255)) (B:List Int) (hB:B=bnd bs):∀ n i,n+i=min cs.length 30→∀ (rs rs2:List (List Int × Bool)),chk B rs=0→rs2.map (·.1)=rs.map (·.1)→(∀ r ∈ rs,r.2=true) →
 w1_K0 C ⟨[(6,.int .i64 i),(5,.ptr 0 0 0),(3,.ptr 1 0 0),(1,.ptr 2 0 0)],
  [(0,.cells 2 [[L1 B false,.ro 1 (rs2.map eR) true]] true true),(1,.cells 2 [[L1 B true,.ro 1 (rs.map eR) true]] true true),(2,.cells 2 [[.ro 1 (bs.map eU8) e,.ro 3 (cs.map eO) f]] true true)],3⟩=some (.bool true):=by
 intro n
 induction n with
 | zero =>
  intro i hi rs rs2 hc hf hfl
  simp only [w1_K0];rw [ck_unf w1_B0.eq_1]
  by_cases c:i < cs.length
  · have c2:¬ (i:Int) < 30:=by omega
    simp [c,c2,ck_unf w1_c0.eq_1,H.inl,hlives]
  · simp [c,ck_unf w1_c0.eq_1,H.inl,hlives]
 | succ n ih =>
  intro i hi rs rs2 hc hf hfl
  have c1:i < cs.length:=by omega
  have c2:(i:Int) < 30:=by omega
  have ho:=hcs _ (List.getElem_mem c1)
  have hB1:0 < B.length:=by rw [hB];simp [bnd]
  have hB2:B.length≤4:=by rw [hB];simp [bnd];omega
  have hB3:B≠[]:=by intro h;rw [h] at hB1;simp at hB1
  have hB4:¬ (B.length:Int)=0:=by omega
  obtain ⟨k,hk⟩:∃ k:Nat,cs[i].2.1 % (B.length:Int)=k:=⟨(cs[i].2.1 % (B.length:Int)).toNat,by have:=Int.emod_nonneg cs[i].2.1 hB4;omega⟩
  have hkB:k < B.length:=by have:=Int.emod_lt_of_pos cs[i].2.1 (show (0:Int) < B.length by omega);omega
  have hok:=okp_chk.1 hc
  have hrl:rs.length=B.length:=by have:=hok.2.2.1;simpa using this
  have hrl2:rs2.length=rs.length:=by have:=congrArg List.length hf;simpa using this
  have hkr:k < rs.length:=by omega
  have hkr2:k < rs2.length:=by omega
  have heq:rs2[k].1=rs[k].1:=by
   have:=congrArg (fun l=>l[k]?) hf
   simpa [hkr,hkr2] using this
  obtain ⟨_,_,hr7,hr8⟩:=of_rows hc
  have hr72:∀ r ∈ rs2,r.1.length≤65536:=by
   intro r hr
   have:r.1 ∈ rs2.map (·.1):=List.mem_map.2 ⟨r,hr,rfl⟩
   rw [hf] at this
   obtain ⟨r',h1,h2⟩:=List.mem_map.1 this
   rw [← h2];exact hr7 r' h1
  have hof:ofE B rs k=0:=by
   have q1:¬ (k:Int) < 0:=by omega
   have q2:¬ (B.length:Int)≤k:=by omega
   simp [ofE,hc,q1,q2]
  have hlen:=hok.2.2.2 k B[k] rs[k].1 (List.getElem?_eq_getElem hkB) (by simp [List.getElem?_eq_getElem hkr])
  have old_:=same_ok H B false rs rs2 true hf hfl (by omega) (by omega) hr7
  have tail_:∀ (R R2:List (List Int × Bool)),chk B R=0→R2.map (·.1)=R.map (·.1)→(∀ r ∈ R,r.2=true)→∃ hkR:k < R2.length,FnW C 8 [eP B true R true,eP B false R2 true]=some (.int .i64 1) ∧
   FnW C 15 [eP B true R true,.int .i64 k]=some (.tup [.int .i64 (R2[k]'hkR).1.length,.int .i64 0])∧FnW C 16 [eP B true R true]=some (.tup [L1 (cat R2) true,.int .i64 0])∧FnW C 17 [eP B false R2 true]=some (L1 (cat R2) false) ∧
   FnW C 14 [L1 (cat R2) true,L1 (cat R2) false]=some (.int .i64 1):=by
   intro R R2 hc' hf' hfl'
   obtain ⟨_,q2,q7,_⟩:=of_rows hc'
   have q3:R2.length=R.length:=by have:=congrArg List.length hf';simpa using this
   have q4:k < R.length:=by omega
   have q72:∀ r ∈ R2,r.1.length≤65536:=by
    intro r hr
    have:r.1 ∈ R2.map (·.1):=List.mem_map.2 ⟨r,hr,rfl⟩
    rw [hf'] at this
    obtain ⟨r',h1,h2⟩:=List.mem_map.1 this
    rw [← h2];exact q7 r' h1
   have q5:(R2[k]'(by omega)).1=R[k].1:=by
    have:=congrArg (fun l=>l[k]?) hf'
    simpa [q4,show k < R2.length by omega] using this
   have hof':ofE B R k=0:=by
    have q1:¬ (k:Int) < 0:=by omega
    have q2:¬ (B.length:Int)≤k:=by omega
    simp [ofE,hc',q1,q2]
   have l1:=len_ok H.toHas B true R true k
   rw [if_pos hof'] at l1
   simp only [Int.toNat_natCast,List.getElem?_eq_getElem q4,Option.getD_some] at l1
   have a1:=all_ok H.toHas B true R true
   rw [if_pos hc'] at a1
   have hcat:(cat R2).length≤1000000:=by
    have:∀ l:List (List Int × Bool),(∀ r ∈ l,r.1.length≤65536)→(cat l).length≤65536 * l.length:=by
     intro l
     induction l with
     | nil=>intro _;simp [cat]
     | cons a l ih =>
      intro h
      have h1:=h a (by simp)
      have h2:=ih fun r hr=>h r (by simp [hr])
      simp only [cat,List.flatMap_cons,List.length_append,List.length_cons] at h2 ⊢
      omega
    have:=this R2 q72
    omega
   have i1:=ints_ok H.toHas (cat R2) (cat R2) false hcat
   rw [if_pos rfl] at i1
   refine ⟨by omega,same_ok H B false R R2 true hf' hfl' (by omega) (by omega) q7,by rw [q5];exact l1,by rw [cat_fst hf'];exact a1,rall_ok H B false R2 true (by omega) q72,i1⟩
  by_cases k1:cs[i].1 % 8 < 4
  · have push_:=push_ok H.toHas B true rs true k cs[i].2.2
    rw [if_pos hof] at push_
    simp only [Int.toNat_natCast,List.getElem?_eq_getElem hkr,List.getElem?_eq_getElem hkB,Option.getD_some] at push_
    have rpush_:=rpush_ok H.toHasQ B false rs2 true k cs[i].2.2 hB3 (by omega) (by omega) hr72 hkr2
    rw [heq] at rpush_
    by_cases k2:(rs[k].1.length:Int)=B[k]
    · rw [if_pos k2] at push_
      rw [if_pos (by omega)] at rpush_
      have call_:=call_push H B rs2 _ cs[i] true k hB3 ho.1.1 k1 hk ho.2.1.1 ho.2.1.2 ho.2.2 rpush_
      have hc1:chk B (withR rs k rs[k].1 0)=0:=chk_withR hc fun b e=>by rw [List.getElem?_eq_getElem hkB] at e;cases e;exact hlen.2.2
      have hf1:(rs2.map fr).map (·.1)=(withR rs k rs[k].1 0).map (·.1):=by
       have h1:=withR_fst rs k 0 rs[k].1
       rw [Nat.zero_add] at h1
       rw [fst_fr,h1,hf]
       exact (set_same (by simp [hkr])).symm
      have hfl1:∀ r ∈ withR rs k rs[k].1 0,r.2=true:=withR_flag rs k 0 _
      obtain ⟨hkR,t1,t2,t3,t4,t5⟩:=tail_ _ _ hc1 hf1 hfl1
      have:=ih (i+1) (by omega) _ _ hc1 hf1 hfl1
      generalize rs2.map fr=R2 at *
      generalize withR rs k rs[k].1 0=R at *
      simp only [w1_K0] at this ⊢;rw [ck_unf w1_B0.eq_1]
      simp at this push_ call_ t1 t2 t3 t4 t5 old_
      simp (disch:=omega) [c1,c2,wI64,H.inl,hB3,Int.tmod_eq_emod_of_nonneg,hk,k1,call_,push_,old_,t1,t2,t3,t4,t5,hkR,this]
    · rw [if_neg k2] at push_
      rw [if_neg (by omega)] at rpush_
      have call_:=call_push H B rs2 _ cs[i] false k hB3 ho.1.1 k1 hk ho.2.1.1 ho.2.1.2 ho.2.2 rpush_
      have hc1:chk B (withR rs k (rs[k].1++[cs[i].2.2]) 0)=0:=chk_withR hc fun b e=>by rw [List.getElem?_eq_getElem hkB] at e;cases e;have:=hlen.2.2;simp;omega
      have hf1:((rs2.set k (rs[k].1++[cs[i].2.2],true)).map fr).map (·.1)=(withR rs k (rs[k].1++[cs[i].2.2]) 0).map (·.1):=by
       have h1:=withR_fst rs k 0 (rs[k].1++[cs[i].2.2])
       rw [Nat.zero_add] at h1
       rw [fst_fr,h1,List.map_set,hf]
      have hfl1:∀ r ∈ withR rs k (rs[k].1++[cs[i].2.2]) 0,r.2=true:=withR_flag rs k 0 _
      obtain ⟨hkR,t1,t2,t3,t4,t5⟩:=tail_ _ _ hc1 hf1 hfl1
      have:=ih (i+1) (by omega) _ _ hc1 hf1 hfl1
      generalize (rs2.set k (rs[k].1++[cs[i].2.2],true)).map fr=R2 at *
      generalize withR rs k (rs[k].1++[cs[i].2.2]) 0=R at *
      simp only [w1_K0] at this ⊢;rw [ck_unf w1_B0.eq_1]
      simp at this push_ call_ t1 t2 t3 t4 t5 old_
      simp (disch:=omega) [c1,c2,wI64,H.inl,hB3,Int.tmod_eq_emod_of_nonneg,hk,k1,call_,push_,old_,t1,t2,t3,t4,t5,hkR,this]
  · by_cases k3:cs[i].1 % 8 < 7
    · have pop_:=pop_ok H.toHas B true rs true k
      rw [if_pos hof] at pop_
      simp only [Int.toNat_natCast,List.getElem?_eq_getElem hkr,Option.getD_some] at pop_
      have rpop_:=rpop_ok H.toHasQ B false rs2 true k hB3 (by omega) (by omega) hr72 hkr2
      rw [heq] at rpop_
      by_cases k4:rs[k].1.length=0
      · rw [if_pos k4] at pop_ rpop_
        have call_:=call_pop H B rs2 _ cs[i] 0 false k hB3 ho.1.1 k1 k3 hk ho.2.1.1 ho.2.1.2 rpop_
        have hc1:chk B (withR rs k [] 0)=0:=chk_withR hc fun b e=>by rw [List.getElem?_eq_getElem hkB] at e;cases e;have:=hlen.2.2;simp;omega
        have hf1:(rs2.map fr).map (·.1)=(withR rs k [] 0).map (·.1):=by
         have h1:=withR_fst rs k 0 []
         rw [Nat.zero_add] at h1
         rw [fst_fr,h1,hf]
         have:rs[k].1=[]:=List.length_eq_zero_iff.1 k4
         exact (set_same (by simp [hkr,this])).symm
        have hfl1:∀ r ∈ withR rs k [] 0,r.2=true:=withR_flag rs k 0 _
        obtain ⟨hkR,t1,t2,t3,t4,t5⟩:=tail_ _ _ hc1 hf1 hfl1
        have:=ih (i+1) (by omega) _ _ hc1 hf1 hfl1
        generalize rs2.map fr=R2 at *
        generalize withR rs k [] 0=R at *
        simp only [w1_K0] at this ⊢;rw [ck_unf w1_B0.eq_1]
        simp at this pop_ call_ t1 t2 t3 t4 t5 old_
        simp (disch:=omega) [c1,c2,wI64,H.inl,hB3,Int.tmod_eq_emod_of_nonneg,hk,k1,k3,call_,pop_,old_,t1,t2,t3,t4,t5,hkR,this]
      · rw [if_neg k4] at pop_ rpop_
        generalize rs[k].1[rs[k].1.length - 1]?.getD 0=z at pop_ rpop_
        have call_:=call_pop H B rs2 _ cs[i] z true k hB3 ho.1.1 k1 k3 hk ho.2.1.1 ho.2.1.2 rpop_
        have hc1:chk B (withR rs k (rs[k].1.take (rs[k].1.length - 1)) 0)=0:=chk_withR hc fun b e=>by rw [List.getElem?_eq_getElem hkB] at e;cases e;have:=hlen.2.2;simp;omega
        have hf1:((rs2.map fr).set k (rs[k].1.take (rs[k].1.length - 1),false)).map (·.1)=(withR rs k (rs[k].1.take (rs[k].1.length - 1)) 0).map (·.1):=by
         have h1:=withR_fst rs k 0 (rs[k].1.take (rs[k].1.length - 1))
         rw [Nat.zero_add] at h1
         rw [List.map_set,fst_fr,h1,hf]
        have hfl1:∀ r ∈ withR rs k (rs[k].1.take (rs[k].1.length - 1)) 0,r.2=true:=withR_flag rs k 0 _
        obtain ⟨hkR,t1,t2,t3,t4,t5⟩:=tail_ _ _ hc1 hf1 hfl1
        have:=ih (i+1) (by omega) _ _ hc1 hf1 hfl1
        generalize (rs2.map fr).set k (rs[k].1.take (rs[k].1.length - 1),false)=R2 at *
        generalize withR rs k (rs[k].1.take (rs[k].1.length - 1)) 0=R at *
        simp only [w1_K0] at this ⊢;rw [ck_unf w1_B0.eq_1]
        simp at this pop_ call_ t1 t2 t3 t4 t5 old_
        simp (disch:=omega) [c1,c2,wI64,H.inl,hB3,Int.tmod_eq_emod_of_nonneg,hk,k1,k3,call_,pop_,old_,t1,t2,t3,t4,t5,hkR,this]
    · obtain ⟨t,ht⟩:∃ t:Nat,cs[i].2.2 % 4=t:=⟨(cs[i].2.2 % 4).toNat,by omega⟩
      have trim_:=trim_ok H.toHas B true rs true t (by omega)
      have q1:¬ (t:Int) < 0:=by omega
      rw [if_pos hc,if_neg q1] at trim_
      simp only [Int.toNat_natCast] at trim_
      have rtrim_:=rtrim_ok H.toHasQ B false rs2 true t (by omega) hB3 (by omega) (by omega) hr72
      have hG:=trg_fst t hf
      rw [hG] at rtrim_
      have call_:=call_trim H B rs2 _ cs[i] _ t k hB3 ho.1.1 k1 k3 hk ho.2.1.1 ho.2.1.2 ho.2.2.1 ht rtrim_
      have hc1:chk B (rs.map (tr t))=0:=by
       rw [okp_chk,List.map_map]
       have:=hok.map (g:=fun l=>l.drop (l.length - t)) (fun l=>by simp)
       simpa [List.map_map,Function.comp_def,tr] using this
      have hf1:=trd_fst t hf
      have hfl1:∀ r ∈ rs.map (tr t),r.2=true:=by
       intro r hr
       obtain ⟨r',_,rfl⟩:=List.mem_map.1 hr
       rfl
      have hgl:(gone t rs).length≤1000000:=by
       have:∀ l:List (List Int × Bool),(∀ r ∈ l,r.1.length≤65536)→(gone t l).length≤65536 * l.length:=by
        intro l
        induction l with
        | nil=>intro _;simp [gone]
        | cons a l ih =>
         intro h
         have h1:=h a (by simp)
         have h2:=ih fun r hr=>h r (by simp [hr])
         simp only [gone,List.flatMap_cons,List.length_append,List.length_cons,List.length_take] at h2 ⊢
         omega
       have:=this rs hr7
       omega
      have in_:=ints_ok H.toHas (gone t rs) (gone t rs) false hgl
      rw [if_pos rfl] at in_
      obtain ⟨hkR,t1,t2,t3,t4,t5⟩:=tail_ _ _ hc1 hf1 hfl1
      have:=ih (i+1) (by omega) _ _ hc1 hf1 hfl1
      generalize rs2.map (trd t)=R2 at *
      generalize rs.map (tr t)=R at *
      generalize gone t rs=Z at *
      simp only [w1_K0] at this ⊢;rw [ck_unf w1_B0.eq_1]
      simp at this trim_ rtrim_ call_ in_ t1 t2 t3 t4 t5 old_
      simp (disch:=omega) [c1,c2,wI64,H.inl,hB3,Int.tmod_eq_emod_of_nonneg,hk,ht,k1,k3,call_,trim_,rtrim_,in_,old_,t1,t2,t3,t4,t5,hkR,this]
theorem play_ok (hlives:FnW C 18 []=some (.bool true)) (bs:List Int) (e:Bool) (cs:List (Int × Int × Int)) (f:Bool) (hb:∀ x ∈ bs,0≤x∧x≤255)
 (hcs:∀ o ∈ cs,(0≤o.1∧o.1≤255)∧(0≤o.2.1∧o.2.1≤255)∧(0≤o.2.2∧o.2.2≤255)) :
 FnW C 1 [.agg [.ro 1 (bs.map eU8) e,.ro 3 (cs.map eO) f]]=some (.bool true):=by
 obtain ⟨ex,hbd⟩:=bounds_ok H.f6 bs e cs f hb
 have hc:=bnd_ok bs
 have hl:(bnd bs)≠[]:=by simp [bnd]
 have hl2:(bnd bs).length≤4:=by simp [bnd];omega
 obtain ⟨B,hB⟩:∃ B,B=bnd bs:=⟨_,rfl⟩
 rw [← hB] at hbd hc hl hl2
 have hn:=new_ok H.toHas B ex
 have hr:=rnew_d H B ex hl (by omega)
 have hs:=same_ok H B false (B.map fun _=>([],true)) (B.map fun _=>([],true)) true rfl (by intro r hr;obtain ⟨_,_,rfl⟩:=List.mem_map.1 hr;rfl) (by omega) (by simp;omega) (by intro r hr;obtain ⟨_,_,rfl⟩:=List.mem_map.1 hr;simp)
 have:=play_loop H hlives bs e cs f hcs B hB (min cs.length 30) 0 rfl (B.map fun _=>([],true)) (B.map fun _=>([],true)) hc rfl (by intro r hr;obtain ⟨_,_,rfl⟩:=List.mem_map.1 hr;rfl)
 rw [if_pos hc] at hn
 generalize (B.map fun _=>(([]:List Int),true))=rs0 at *
 simp only [w1_K0] at this
 simp at this hn hr hs
 rw [fnW_eq H.f1 rfl]
 simp (disch:=omega) [w1,H.inl,hbd,hn,hr,hs,hl,this]
end Go.C21
end
section
set_option linter.unusedSimpArgs false
set_option linter.unusedVariables false
namespace Go.Pw
open Go Go.Pav
inductive CT where
 | bool
 | int (k:IntKind)
 | str
 | slice (ts:List CT)
inductive Ty:CT→AV→Prop
 | bool (b:Bool):Ty .bool (.bool b)
 | int (k:IntKind) (n:Int) (h1:k.min≤n) (h2:n≤k.max):Ty (.int k) (.int k n)
 | str (s:List UInt8) (h:s.length < 2 ^ 63):Ty .str (.str s)
 | slice (ts:List CT) (es:List (List AV)) (ex:Bool) (hn:es.length < 2 ^ 63) (hw:∀ (i:Nat) (e:List AV),es[i]?=some e→e.length=ts.length)
  (h:∀ (i:Nat) (e:List AV) (j:Nat) (ct:CT) (x:AV),es[i]?=some e→ts[j]?=some ct→e[j]?=some x→Ty ct x):Ty (.slice ts) (.ro ts.length es ex)
theorem Ty.isC {ct:CT} {a:AV} (h:Ty ct a):Pw.isC a=true:=by cases h <;> rfl
def fieldsT (F:TypeId→Option (List CT)) (P:Program):List Field→Nat→Option (List CT)
 | [],_=>some []
 | f::r,off=>(F f.type).bind fun ts=>if f.offset=off∧ts.length=P.cellsOf f.type then (fieldsT F P r (off+ts.length)).map (ts++·) else none
def flatT (P:Program):Nat→TypeId→Option (List CT)
 | 0,_=>none
 | n+1,t=>match P.underlying t with
  | some .bool=>some [.bool]
  | some (.int k)=>some [.int k]
  | some .string=>some [.str]
  | some (.slice e)=>(flatT P n e).bind fun ts=>if ts.length=P.cellsOf e∧0 < ts.length then some [.slice ts] else none
  | some (.struct fs)=>(fieldsT (flatT P n) P fs.toList 0).bind fun ts=>if ts.length=P.cellsOf t then some ts else none
  | some (.array m e)=>(flatT P n e).bind fun ts=>if ts.length=P.cellsOf e∧m * ts.length=P.cellsOf t then some (List.replicate m ts).flatten else none
  | _=>none
theorem flatten_rep {α:Type} (ts:List α):∀ (m j:Nat),j < m * ts.length→(List.replicate m ts).flatten[j]?=ts[j % ts.length]?
 | 0,j,h=>by simp at h
 | m+1,j,h=>by
  rw [List.replicate_succ,List.flatten_cons]
  rcases Nat.lt_or_ge j ts.length with hl | hl
  · rw [List.getElem?_append_left hl,Nat.mod_eq_of_lt hl]
  · rw [List.getElem?_append_right hl,flatten_rep ts m (j - ts.length) (by rw [Nat.add_mul] at h;omega),Nat.mod_eq_sub_mod hl]
theorem trod_array {H:Type} {enc:TypeId × Value→H} {P:Program} {w:World} {base:Nat} {spare:Nat→Bool} {held:Bool} {fuel:Nat} {t:TypeId} {cs:List Value} {x:DataW H × List MemPlace} {m:Nat} {e:TypeId}
 (ht:P.underlying t=some (.array m e)) (h:DataW.trod enc P w base spare held fuel t cs=some x) :
 ∃ (xs:List (DataW H × List MemPlace)) (n:Nat),fuel=n+1∧cs.length=P.cellsOf t∧xs.length=m ∧
  ∀ i,i < m→DataW.trod enc P w base spare held n e ((cs.drop (i * P.cellsOf e)).take (P.cellsOf e))=xs[i]?:=by
 cases fuel with
 | zero=>simp [DataW.trod] at h
 | succ n =>
  unfold DataW.trod at h
  rw [ht] at h
  split at h <;> simp_all
  obtain ⟨hl,xs,hp,hd⟩:=h
  exact ⟨xs,by simpa using mapM_some_length hp,fun i hi=>mapM_some_get hp i i (List.getElem?_range hi)⟩
def CellOk (ψ:Nat→FuncId) (W:World) (ct:CT) (v:Value):Prop :=
 ∃ a a',Ty ct a∧VD id (fun _=>False) a a'∧a'.cell=true∧VR ψ W (fun c=>c < W.heap.size) (fun _=>(0,0)) (fun _=>False) a' v
section
variable {H:Type} {enc:TypeId × Value→H} {P:Program} {W:World} {ψ:Nat→FuncId}
theorem fields_open {F:TypeId→Option (List CT)} {n:Nat} {cs:List Value}
 (hF:∀ t cs x ts,F t=some ts→DataW.trod enc P W 0 (fun _=>true) true n t cs=some x→cs.length=ts.length∧∀ (j:Nat) (ct:CT),ts[j]?=some ct→∃ v,cs[j]?=some v∧CellOk ψ W ct v) :
 ∀ (fs:List Field) (off:Nat) (ts:List CT),fieldsT F P fs off=some ts→(∀ f ∈ fs,∃ x,DataW.trod enc P W 0 (fun _=>true) true n f.type ((cs.drop f.offset).take (P.cellsOf f.type))=some x) →
  ∀ (j:Nat) (ct:CT),ts[j]?=some ct→∃ v,cs[off+j]?=some v∧CellOk ψ W ct v:=by
 intro fs
 induction fs with
 | nil=>intro off ts h _ j ct hj;simp only [fieldsT,Option.some.injEq] at h;subst h;simp at hj
 | cons f r ih =>
  intro off ts h hx j ct hj
  simp only [fieldsT,Option.bind_eq_some_iff] at h
  obtain ⟨t1,h1,h⟩:=h
  split at h
  · rename_i hc
    simp only [Option.map_eq_some_iff] at h
    obtain ⟨t2,h2,rfl⟩:=h
    rcases Nat.lt_or_ge j t1.length with hl | hl
    · rw [List.getElem?_append_left hl] at hj
      obtain ⟨x,q⟩:=hx f (by simp)
      obtain ⟨v,q1,q2⟩:=(hF _ _ _ _ h1 q).2 j ct hj
      refine ⟨v,?_,q2⟩
      rw [List.getElem?_take] at q1
      split at q1
      · rw [List.getElem?_drop] at q1;rw [← hc.1];exact q1
      · cases q1
    · rw [List.getElem?_append_right hl] at hj
      obtain ⟨v,q1,q2⟩:=ih _ _ h2 (fun f hf=>hx f (by simp [hf])) _ ct hj
      exact ⟨v,by rw [← q1];congr 1;omega,q2⟩
  · cases h
theorem cells_open:∀ (n k:Nat) (t:TypeId) (cs:List Value) (x:DataW H × List MemPlace) (ts:List CT),flatT P k t=some ts→DataW.trod enc P W 0 (fun _=>true) true n t cs=some x →
 cs.length=ts.length∧∀ (j:Nat) (ct:CT),ts[j]?=some ct→∃ v,cs[j]?=some v∧CellOk ψ W ct v:=by
 intro n
 induction n with
 | zero=>intro k t cs x ts _ h;simp [DataW.trod] at h
 | succ n ih =>
  intro k t cs x ts hf h
  cases k with
  | zero=>simp [flatT] at hf
  | succ k =>
   have one:∀ {v:Value} {ct:CT},cs=[v]→ts=[ct]→CellOk ψ W ct v→cs.length=ts.length∧∀ (j:Nat) (ct:CT),ts[j]?=some ct→∃ v,cs[j]?=some v∧CellOk ψ W ct v:=by
    intro v ct h1 h2 h3
    subst h1;subst h2
    refine ⟨rfl,fun j ct' hj=>?_⟩
    cases j with
    | zero=>simp only [List.getElem?_cons_zero,Option.some.injEq] at hj;subst hj;exact ⟨v,rfl,h3⟩
    | succ j=>simp at hj
   unfold flatT at hf
   split at hf
   · rename_i ht
     cases hf
     obtain ⟨b,e,_⟩:=DataW.trod_bool ht h
     exact one e rfl ⟨_,_,.bool b,.bool b,rfl,.bool b⟩
   · rename_i k' ht
     cases hf
     obtain ⟨m,e,_,hw⟩:=DataW.trod_int ht h
     simp only [Lit.wf,Bool.and_eq_true,decide_eq_true_eq] at hw
     exact one e rfl ⟨_,_,.int k' m hw.1 hw.2,.int k' m,rfl,.int k' m⟩
   · rename_i ht
     cases hf
     obtain ⟨s,e,_,hw⟩:=DataW.trod_string ht h
     refine one e rfl ⟨.str s.data.toList,_,.str _ ?_,.str _,rfl,?_⟩
     · simp only [maxLen] at hw
       have:s.data.toList.length=s.size:=rfl
       omega
     · have:=VR.str (ψ:=ψ) (w:=W) (S:=fun c=>c < W.heap.size) (m:=fun _=>(0,0)) (A:=fun _=>False) s.data.toList
       exact this
   · rename_i el ht
     simp only [Option.bind_eq_some_iff] at hf
     obtain ⟨us,hu,hf⟩:=hf
     split at hf
     · rename_i hz
       obtain ⟨hz,hz0⟩:=hz
       cases hf
       rcases DataW.trod_slice ht h with ⟨e,_⟩ | ⟨a,len,cap,elems,rest,n',hn,e,_,_,hl,hm,hlen,hel,hsp,_⟩
       · exact one e rfl ⟨.ro us.length [] true,.nils,.slice us [] true (by simp) (by simp) (by simp),.ronil _ _,rfl,.nils⟩
       · cases hn
         refine one e rfl ?_
         have row:∀ i,i < cap→∃ vs y,W.cells? 0 (a.add (i * us.length)) us.length=some vs∧DataW.trod enc P W 0 (fun _=>true) true n el vs=some y:=by
          intro i hi
          rcases Nat.lt_or_ge i len with hil | hil
          · have:=hel i hil
            rw [List.getElem?_eq_getElem (by omega),Option.bind_eq_some_iff,← hz] at this
            obtain ⟨vs,q1,q2⟩:=this
            exact ⟨vs,_,q1,q2⟩
          · obtain ⟨q0,q⟩:=hsp rfl
            have:=q (i - len) (by omega)
            rw [List.getElem?_eq_getElem (by omega),Option.bind_eq_some_iff,← hz,show len+(i - len)=i by omega] at this
            obtain ⟨vs,q1,q2⟩:=this
            exact ⟨vs,_,q1,q2⟩
         rcases Nat.eq_zero_or_pos cap with hc0 | hc0
         · subst hc0
           obtain rfl:len=0:=by omega
           exact ⟨.ro us.length [] true,.ro us.length [] true,.slice us [] true (by simp) (by simp) (by simp),.ro _ [] [] true true (by simp) rfl id (by simp) (by simp),rfl,.roe _ _ _ 0 (fun _=>rfl)⟩
         · obtain ⟨b,off,spot⟩:=a
           have hfirst:∃ v,W.cell? ⟨b,off,spot⟩=some v:=by
            obtain ⟨vs,_,q1,_⟩:=row 0 hc0
            obtain ⟨_,q2,q3⟩:=World.cells?_some q1
            have:=q3 0 hz0
            rw [List.getElem?_eq_getElem (by omega)] at this
            exact ⟨_,by simpa [Addr.add] using this⟩
           obtain ⟨v0,hv0⟩:=hfirst
           obtain rfl:spot=none:=World.cell?_spot hv0
           have hS:b < W.heap.size:=by
            unfold World.cell? at hv0
            split at hv0
            · rename_i hb;exact (Array.getElem?_eq_some_iff.1 hb).1
            · cases hv0
           have key:∀ p:Nat × Nat,∃ q:Value × AV × AV,p.1 < len→∀ ct,us[p.2]?=some ct→W.cell? ⟨b,off+p.1 * us.length+p.2,none⟩=some q.1∧Ty ct q.2.1∧VD id (fun _=>False) q.2.1 q.2.2∧q.2.2.cell=true ∧
            VR ψ W (fun c=>c < W.heap.size) (fun _=>(0,0)) (fun _=>False) q.2.2 q.1:=by
            intro ⟨i,j⟩
            by_cases hi:i < len
            · cases hj:us[j]? with
              | none=>exact ⟨default,fun _ ct q=>by cases q⟩
              | some ct =>
               obtain ⟨vs,y,q1,q2⟩:=row i (by omega)
               obtain ⟨v,q3,c1,c2,q4,q5,q6,q7⟩:=(ih _ _ _ _ _ hu q2).2 j ct hj
               refine ⟨(v,c1,c2),fun _ ct' q=>?_⟩
               cases q
               refine ⟨?_,q4,q5,q6,q7⟩
               obtain ⟨_,r1,r2⟩:=World.cells?_some q1
               have hjl:j < us.length:=(List.getElem?_eq_some_iff.1 hj).1
               have:=r2 j hjl
               rw [q3] at this
               rw [← this]
               congr 1
               simp only [Addr.add]
               split <;> split <;> simp_all <;> omega
            · exact ⟨default,fun q=>absurd q hi⟩
           obtain ⟨F,hF⟩:=Classical.axiomOfChoice key
           let es:List (List AV):=(List.range len).map fun i=>(List.range us.length).map fun j=>(F (i,j)).2.1
           let es':List (List AV):=(List.range len).map fun i=>(List.range us.length).map fun j=>(F (i,j)).2.2
           have g1:∀ (i:Nat) (e:List AV),es[i]?=some e→i < len∧e=(List.range us.length).map fun j=>(F (i,j)).2.1:=by
            intro i e he
            simp only [es,List.getElem?_map,Option.map_eq_some_iff] at he
            obtain ⟨i',q1,q2⟩:=he
            have:=List.getElem?_eq_some_iff.1 q1
            obtain ⟨q3,q4⟩:=this
            simp at q3 q4
            subst q4
            exact ⟨q3,q2.symm⟩
           have g1':∀ (i:Nat) (e:List AV),es'[i]?=some e→i < len∧e=(List.range us.length).map fun j=>(F (i,j)).2.2:=by
            intro i e he
            simp only [es',List.getElem?_map,Option.map_eq_some_iff] at he
            obtain ⟨i',q1,q2⟩:=he
            have:=List.getElem?_eq_some_iff.1 q1
            obtain ⟨q3,q4⟩:=this
            simp at q3 q4
            subst q4
            exact ⟨q3,q2.symm⟩
           have g2:∀ (G:Nat→AV) (j:Nat) (x:AV),((List.range us.length).map G)[j]?=some x→∃ ct,us[j]?=some ct∧x=G j:=by
            intro G j x hx
            simp only [List.getElem?_map,Option.map_eq_some_iff] at hx
            obtain ⟨j',q1,q2⟩:=hx
            obtain ⟨q3,q4⟩:=List.getElem?_eq_some_iff.1 q1
            simp at q3 q4
            subst q4
            exact ⟨us[j],List.getElem?_eq_getElem q3,q2.symm⟩
           have l1:es.length=len:=by simp [es]
           have l2:es'.length=len:=by simp [es']
           refine ⟨.ro us.length es (decide (cap=len)),.ro us.length es' (decide (cap=len)),.slice us es _ ?_ ?_ ?_,.ro _ es es' _ _ ?_ (by rw [l1,l2]) id ?_ ?_,rfl,?_⟩
           · rw [l1];simp only [maxLen] at hm;omega
           · intro i e he;rw [(g1 i e he).2];simp
           · intro i e j ct y he hct hy
             obtain ⟨q1,rfl⟩:=g1 i e he
             obtain ⟨ct',q2,rfl⟩:=g2 _ j y hy
             rw [hct] at q2
             cases q2
             exact (hF (i,j) q1 ct hct).2.1
           · intro e he y hy
             obtain ⟨i,he⟩:=List.getElem?_of_mem he
             obtain ⟨j,hy⟩:=List.getElem?_of_mem hy
             obtain ⟨q1,rfl⟩:=g1 i e he
             obtain ⟨ct',q2,rfl⟩:=g2 _ j y hy
             exact (hF (i,j) q1 ct' q2).2.1.isC
           · intro i e e' he he'
             rw [(g1 i e he).2,(g1' i e' he').2];simp
           · intro i e e' j y y' he he' hy hy'
             obtain ⟨q1,rfl⟩:=g1 i e he
             obtain ⟨_,rfl⟩:=g1' i e' he'
             obtain ⟨ct',q2,rfl⟩:=g2 _ j y hy
             obtain ⟨_,_,rfl⟩:=g2 _ j y' hy'
             exact (hF (i,j) q1 ct' q2).2.2.1
           · have:=VR.ro (ψ:=ψ) (w:=W) (S:=fun c=>c < W.heap.size) (m:=fun _=>(0,0)) (A:=fun _=>False) us.length es' (decide (cap=len)) b off cap (fun i j=>(F (i,j)).1) hS
              (fun i e he=>by rw [(g1' i e he).2];simp) (by rw [l2];exact hl) (fun q=>by rw [l2];simpa using q)
              (fun i e j y he hy=>by
               obtain ⟨q1,rfl⟩:=g1' i e he
               obtain ⟨ct',q2,rfl⟩:=g2 _ j y hy
               have:=hF (i,j) q1 ct' q2
               exact ⟨this.2.2.2.1,this.1⟩)
              (fun i e j y he hy=>by
               obtain ⟨q1,rfl⟩:=g1' i e he
               obtain ⟨ct',q2,rfl⟩:=g2 _ j y hy
               exact (hF (i,j) q1 ct' q2).2.2.2.2)
             rw [l2] at this
             exact this
     · cases hf
   · rename_i fs ht
     simp only [Option.bind_eq_some_iff] at hf
     obtain ⟨us,hu,hf⟩:=hf
     split at hf
     · rename_i hz
       cases hf
       obtain ⟨xs,n',hn,_,hcl,hxl,hx⟩:=DataW.trod_struct ht h
       cases hn
       refine ⟨by rw [hcl,hz],fun j ct hj=>?_⟩
       have:=fields_open (cs:=cs) (F:=flatT P k) (n:=n) (fun t cs x ts h1 h2=>ih k t cs x ts h1 h2) fs.toList 0 _ hu (fun f hf=>by
        obtain ⟨i,hi⟩:=List.getElem?_of_mem hf
        have hi':fs[i]?=some f:=by simpa using hi
        have hlt:i < fs.size:=(Array.getElem?_eq_some_iff.1 hi').1
        have:=hx i f hi'
        rw [List.getElem?_eq_getElem (by omega)] at this
        exact ⟨_,this⟩) j ct hj
       simpa using this
     · cases hf
   · rename_i m' e ht
     simp only [Option.bind_eq_some_iff] at hf
     obtain ⟨us,hu,hf⟩:=hf
     split at hf
     · rename_i hz
       obtain ⟨hz1,hz2⟩:=hz
       cases hf
       obtain ⟨xs,n',hn,hcl,hxl,hx⟩:=trod_array ht h
       cases hn
       have hlen:(List.replicate m' us).flatten.length=m' * us.length:=by simp
       refine ⟨by rw [hcl,hlen,hz2],fun j ct hj=>?_⟩
       have hjl:j < m' * us.length:=by rw [← hlen];exact (List.getElem?_eq_some_iff.1 hj).1
       have hk:0 < us.length:=by
        rcases Nat.eq_zero_or_pos us.length with q | q
        · rw [q,Nat.mul_zero] at hjl;omega
        · exact q
       rw [flatten_rep us m' j hjl] at hj
       have hq:j / us.length < m':=Nat.div_lt_of_lt_mul (by rw [Nat.mul_comm];exact hjl)
       have hxq:=hx (j / us.length) hq
       rw [List.getElem?_eq_getElem (by omega)] at hxq
       obtain ⟨v,q1,q2⟩:=(ih k e _ _ us hu hxq).2 (j % us.length) ct hj
       refine ⟨v,?_,q2⟩
       rw [List.getElem?_take] at q1
       split at q1
       · rw [List.getElem?_drop,← hz1] at q1
         rw [← q1];congr 1
         exact (Nat.div_add_mod' j us.length).symm
       · cases q1
     · cases hf
   · cases hf
inductive AT where
 | c (ct:CT)
 | g (ts:List CT)
def AT.has:AT→AV→Prop
 | .c ct,a=>Ty ct a
 | .g ts,a=>∃ es,a=.agg es∧es.length=ts.length∧∀ (j:Nat) (ct:CT) (x:AV),ts[j]?=some ct→es[j]?=some x→Ty ct x
def argT (P:Program) (t:TypeId):Option AT :=
 match P.underlying t with
 | some (.struct _)=>(flatT P 20 t).map .g
 | some (.array _ _)=>(flatT P 20 t).map .g
 | some .bool | some (.int _) | some .string | some (.slice _)=>match flatT P 20 t with | some [ct]=>some (.c ct) | _=>none
 | _=>none
theorem cells_plain {t:TypeId} {base:Nat} {v:Value} (hu:P.underlying t=some .bool∨(∃ k,P.underlying t=some (.int k))∨P.underlying t=some .string∨∃ e,P.underlying t=some (.slice e)) (h:Value.okWide P W .any base t v) :
 v.cells=#[v]:=by
 cases v <;> try rfl
 rcases hu with hu | ⟨k,hu⟩ | hu | ⟨e,hu⟩ <;> simp [Value.okWide,hu,Cell.okWide,Cell.ok] at h
theorem arg_open {t:TypeId} {at_:AT} (ha:argT P t=some at_) {base:Nat} {v:Value} (hv:Value.okWide P W .any base t v) {d:DataW H} {p:List MemPlace} (h:DataW.Trod enc P W 0 (fun _=>true) true t v d p) :
 ∃ a a',at_.has a∧VD id (fun _=>False) a a'∧VR ψ W (fun c=>c < W.heap.size) (fun _=>(0,0)) (fun _=>False) a' v:=by
 obtain ⟨fuel,h⟩:=h
 have plain:(P.underlying t=some .bool∨(∃ k,P.underlying t=some (.int k))∨P.underlying t=some .string∨∃ e,P.underlying t=some (.slice e)) →
  (match flatT P 20 t with | some [ct]=>some (AT.c ct) | _=>none)=some at_→∃ a a',at_.has a∧VD id (fun _=>False) a a'∧VR ψ W (fun c=>c < W.heap.size) (fun _=>(0,0)) (fun _=>False) a' v:=by
  intro hu he
  split at he
  · rename_i ct hf
    cases he
    rw [cells_plain hu hv] at h
    obtain ⟨_,q⟩:=cells_open (ψ:=ψ) _ _ _ _ _ _ hf h
    obtain ⟨v',q1,a,a',q2,q3,_,q4⟩:=q 0 ct rfl
    simp only [List.getElem?_cons_zero,Option.some.injEq] at q1
    subst q1
    exact ⟨a,a',q2,q3,q4⟩
  · cases he
 have whole:(∃ cs,v=.agg cs)→(flatT P 20 t).map AT.g=some at_→∃ a a',at_.has a∧VD id (fun _=>False) a a'∧VR ψ W (fun c=>c < W.heap.size) (fun _=>(0,0)) (fun _=>False) a' v:=by
  rintro ⟨cs,rfl⟩ ha
  simp only [Option.map_eq_some_iff] at ha
  obtain ⟨ts,hf,rfl⟩:=ha
  obtain ⟨hl,q⟩:=cells_open (ψ:=ψ) _ _ _ _ _ _ hf h
  simp only [Value.cells] at hl q
  have key:∀ j:Nat,∃ x:AV × AV,∀ ct,ts[j]?=some ct→Ty ct x.1∧VD id (fun _=>False) x.1 x.2∧x.2.cell=true∧∃ v,cs.toList[j]?=some v∧VR ψ W (fun c=>c < W.heap.size) (fun _=>(0,0)) (fun _=>False) x.2 v:=by
   intro j
   cases hj:ts[j]? with
   | none=>exact ⟨default,fun _ q=>by cases q⟩
   | some ct =>
    obtain ⟨v,q1,a,a',q2,q3,q4,q5⟩:=q j ct hj
    exact ⟨(a,a'),fun ct' e=>by cases e;exact ⟨q2,q3,q4,v,q1,q5⟩⟩
  obtain ⟨F,hF⟩:=Classical.axiomOfChoice key
  have g2:∀ (G:Nat→AV) (j:Nat) (x:AV),((List.range ts.length).map G)[j]?=some x→∃ ct,ts[j]?=some ct∧x=G j:=by
   intro G j x hx
   simp only [List.getElem?_map,Option.map_eq_some_iff] at hx
   obtain ⟨j',q1,q2⟩:=hx
   obtain ⟨q3,q4⟩:=List.getElem?_eq_some_iff.1 q1
   simp at q3 q4
   subst q4
   exact ⟨ts[j],List.getElem?_eq_getElem q3,q2.symm⟩
  refine ⟨.agg ((List.range ts.length).map fun j=>(F j).1),.agg ((List.range ts.length).map fun j=>(F j).2),⟨_,rfl,by simp,?_⟩,.agg _ _ (by simp) ?_,.agg _ _ ?_ ?_ ?_⟩
  · intro j ct x hct hx
    obtain ⟨ct',q1,rfl⟩:=g2 _ j x hx
    exact (hF j ct hct).1
  · intro j x x' hx hx'
    obtain ⟨ct,q1,rfl⟩:=g2 _ j x hx
    obtain ⟨_,_,rfl⟩:=g2 _ j x' hx'
    exact (hF j ct q1).2.1
  · simp only [List.length_map,List.length_range]
    rw [← hl];simp
  · intro j x hx
    obtain ⟨ct,q1,rfl⟩:=g2 _ j x hx
    exact (hF j ct q1).2.2.1
  · intro j x hx
    obtain ⟨ct,q1,rfl⟩:=g2 _ j x hx
    obtain ⟨v,q2,q3⟩:=(hF j ct q1).2.2.2
    have e:cs[j]?=some v:=by simpa using q2
    rw [Array.getD_eq_getD_getElem?,e]
    exact q3
 unfold argT at ha
 split at ha
 · rename_i fs ht
   simp only [Value.okWide,ht] at hv
   obtain ⟨cs,hv,_,_⟩:=hv
   exact whole ⟨cs,hv⟩ ha
 · rename_i m e ht
   simp only [Value.okWide,ht] at hv
   obtain ⟨cs,hv,_,_⟩:=hv
   exact whole ⟨cs,hv⟩ ha
 · rename_i ht;exact plain (.inl ht) ha
 · rename_i k ht;exact plain (.inr (.inl ⟨k,ht⟩)) ha
 · rename_i ht;exact plain (.inr (.inr (.inl ht))) ha
 · rename_i e ht;exact plain (.inr (.inr (.inr ⟨e,ht⟩))) ha
 · cases ha
def TyAll:List AT→List AV→Prop
 | [],[]=>True
 | a::r,x::s=>a.has x∧TyAll r s
 | _,_=>False
theorem args_open {base:Nat}:∀ {ts:List TypeId} {ats:List AT} {vs:List Value} {ds:List (DataW H)} {p:List MemPlace},ts.map (argT P)=ats.map some →
 (∀ (j:Nat) (t:TypeId) (v:Value),ts[j]?=some t→vs[j]?=some v→Value.okWide P W .any base t v)→DataW.TrodAll enc P W 0 (fun _=>true) true ts vs ds p →
 ∃ us us',TyAll ats us∧Rel2 (VD id fun _=>False) us us'∧us'.length=vs.length∧∀ (j:Nat) (x:AV) (v:Value),us'[j]?=some x→vs[j]?=some v→VR ψ W (fun c=>c < W.heap.size) (fun _=>(0,0)) (fun _=>False) x v
 | [],[],vs,ds,p,_,_,h=>by
  obtain ⟨rfl,_,_⟩:=ChangeShapes.trodAll_nil h
  exact ⟨[],[],trivial,⟨rfl,by simp⟩,rfl,by simp⟩
 | t::ts,at_::ats,_,_,_,hm,hv,h=>by
  obtain ⟨v,vs1,d,ds1,p1,q1,rfl,rfl,rfl,h1,h2⟩:=ChangeShapes.trodAll_cons h
  simp only [List.map_cons,List.cons.injEq] at hm
  obtain ⟨a,a',r1,r2,r3⟩:=arg_open (ψ:=ψ) hm.1 (hv 0 t v rfl rfl) h1
  obtain ⟨us,us',s1,s2,s3,s4⟩:=args_open hm.2 (fun j t v e1 e2=>hv (j+1) t v e1 e2) h2
  refine ⟨a::us,a'::us',⟨r1,s1⟩,⟨by simp [s2.1],fun j x x' e1 e2=>?_⟩,by simp [s3],fun j x v' e1 e2=>?_⟩
  · cases j with
    | zero=>cases e1;cases e2;exact r2
    | succ j=>exact s2.2 j x x' e1 e2
  · cases j with
    | zero=>cases e1;cases e2;exact r3
    | succ j=>exact s4 j x v' e1 e2
 | [],_::_,_,_,_,hm,_,_=>by simp at hm
 | _::_,[],_,_,_,hm,_,_=>by simp at hm
theorem law_calls {Φ:Nat→FuncId→Option Nat} {D:WProg} (hL:Linked P Φ ψ (erProg D)) (hok:okTree D.fns=true) {f:Nat} {ts:List TypeId} {ats:List AT} (hts:ts.map (argT P)=ats.map some)
 (core:∀ us,TyAll ats us→FnW D f us=some (.bool true)) {base:Nat} {args:Array Value} {ds:List (DataW H)} {p:List MemPlace}
 (hv:∀ (j:Nat) (t:TypeId) (v:Value),ts[j]?=some t→args[j]?=some v→Value.okWide P W .any base t v) (hA:DataW.TrodAll enc P W 0 (fun _=>true) true ts args.toList ds p) :
 Calls P (ψ f) args W fun e W'=>e=.returned (.bool true)∧(∀ c,c < W.heap.size→W'.heap[c]?=W.heap[c]?)∧W.heap.size≤W'.heap.size∧W'.os=W.os∧W'.output=W.output:=by
 obtain ⟨us,us',h1,h2,h3,h4⟩:=args_open (ψ:=ψ) hts (fun j t v e1 e2=>hv j t v e1 (by simpa using e2)) hA
 obtain ⟨n,hc⟩:=fnW_call.1 (core us h1)
 obtain ⟨v',hc',hvd⟩:=callW_ok hok h2 hc
 rw [hvd.bool_inv] at hc'
 refine (callF_ok hL hc' (w:=W) (S:=fun c=>c < W.heap.size) (m:=fun _=>(0,0)) (cargs:=args) (fun _ h=>h) (by rw [h3];simp) fun j x hx=>?_).mono ?_
 · have hj:j < args.size:=by have:=(List.getElem?_eq_some_iff.1 hx).1;rw [h3] at this;simpa using this
   rw [Array.getD_eq_getD_getElem?,Array.getElem?_eq_getElem hj]
   exact h4 j x _ hx (by simp [hj])
 · rintro e W' ⟨cv,S',m',rfl,hr,q1,q2,q3,q4⟩
   rw [hr.inv_bool]
   exact ⟨rfl,q1,q2,q3,q4⟩
theorem trodAll_old {W':World} (hh:∀ c,c < W.heap.size→W'.heap[c]?=W.heap[c]?) {base:Nat} {sp:Nat→Bool} {held:Bool}:∀ {ts:List TypeId} {vs:List Value} {ds:List (DataW H)} {ps:List MemPlace},
 DataW.TrodAll enc P W base sp held ts vs ds ps→(∀ p ∈ ps,p.block < W.heap.size)→DataW.TrodAll enc P W' base sp held ts vs ds ps
 | [],[],[],_,h,_=>h
 | _::_,_::_,_::_,_,⟨p,q,⟨n,h1⟩,h2,e⟩,hs=>⟨p,q,⟨n,DataW.trod_carry n _ _ _ h1 fun x hx=>by
  have hlt:=hs x (by rw [e];exact List.mem_append_left _ hx)
  cases x with
  | cell b off=>simp only [World.sameAt,World.cell?];rw [hh b hlt]
  | map b=>exact hh b hlt⟩,trodAll_old hh h2 (fun x hx=>hs x (by rw [e];exact List.mem_append_right _ hx)),e⟩
theorem keptBut_old {W':World} (hh:∀ c,c < W.heap.size→W'.heap[c]?=W.heap[c]?) (ho:W'.os=W.os) (hp:W'.output=W.output) (may:MemPlace→Prop):W.keptBut W' may:=by
 have h:=World.keptBut_refl W may
 refine ⟨ho,hp,fun i hi=>?_⟩
 have:=h.2.2 i hi
 rw [hh i hi]
 exact this
theorem law_post {f:Func} {s:ChangeSpec} {fresh handsOn again:Bool} {W':World} {args:Array Value} {ds gs:List (DataW H)} {before:List MemPlace} {tb:TypeId}
 (kids:Kids P (· < P.types.size)) (full:∀ t e,t < P.types.size→P.underlying t=some (.slice e)→0 < P.cellsOf e)
 (hvars0:s.vars=[]) (hW:DataW.Whole enc P f.params.toList s.vars false W args.toList ds gs before) (hfn:s.fn H (ds++gs)={ results:=[.lit (.bool true)],args:=ds })
 (hps:∀ t ∈ f.params.toList,t < P.types.size) (hr:f.resultTypes=#[tb]) (htb:P.underlying tb=some .bool)
 (hh:∀ c,c < W.heap.size→W'.heap[c]?=W.heap[c]?) (_hsz:W.heap.size≤W'.heap.size) (ho:W'.os=W.os) (hp:W'.output=W.output) :
 s.post enc P f false fresh handsOn again W args (.bool true) W':=by
 have hlt:∀ p ∈ before,p.block < W.heap.size:=hW.lt
 have hW':=hW
 obtain ⟨p,q,hA,hV,rfl,hz,_⟩:=hW
 rw [hvars0] at hV
 obtain ⟨rfl,rfl⟩:=ChangeShapes.trodVars_none hV
 simp only [List.append_nil] at hlt hz hW' hfn
 have hargs:∀ sp:Nat→Bool,(∀ x ∈ p,sp x.block=true)→DataW.TrodAll enc P W' 0 sp true f.params.toList args.toList ds p:=fun sp hsp =>
  trodAll_old hh (DataW.TrodAll.respare kids full hps hA hsp) hlt
 have hvars:∀ sp:Nat→Bool,DataW.TrodVars enc P W' sp s.vars [] []:=fun sp=>by rw [hvars0];rfl
 have hres:∀ (b:Nat) (sp:Nat→Bool) (hd:Bool),DataW.TrodAll enc P W' b sp hd f.resultTypes.toList ((Value.bool true).resultList f.resultTypes.size) [.lit (.bool true)] []:=fun b sp hd=>by
  rw [hr];exact ChangeShapes.trodAll_mk1 (RowKit.shut_bool htb true)
 have hok:∀ (j:Nat) (t:TypeId) (r:Value),f.resultTypes[j]?=some t→((Value.bool true).resultList f.resultTypes.size)[j]?=some r→Value.okWide P W' .any 0 t r :=
  RowKit.ok_one hr rfl (by simp [Value.okWide,htb,Cell.okWide,Cell.ok])
 have hold:∀ x ∈ p,(fun b=>decide (b < W.heap.size)) x.block=true:=fun x hx=>by simpa using hlt x hx
 refine ⟨ds,[],p,[],p,[],hW',?_,?_,?_,keptBut_old hh ho hp _,fun _=>⟨hok,[.lit (.bool true)]++ds,[],([]++p)++[],⟨[]++p,[],?_,hvars _,rfl,?_,fun h=>by cases h⟩,?_⟩⟩
 · rw [List.append_nil,hfn];exact hres _ _ _
 · rw [List.append_nil,hfn];exact hargs _ hold
 · rw [List.append_nil,hfn];exact hvars _
 · exact ChangeShapes.trodAll_append (hargs _ fun _ _=>rfl) (hres _ _ _)
 · intro b off hb
   simp only [List.nil_append,List.append_nil] at hb
   have:=hz b off hb
   unfold World.frozen? at this ⊢
   rw [hh b (hlt _ hb)]
   exact this
 · intro x hx _
   simpa using hx
theorem trodAll_len {base:Nat} {sp:Nat→Bool} {held:Bool}:∀ {ts:List TypeId} {vs:List Value} {ds:List (DataW H)} {ps:List MemPlace},DataW.TrodAll enc P W base sp held ts vs ds ps→ds.length=ts.length
 | [],[],[],_,_=>rfl
 | _::_,_::_,_::_,_,⟨_,_,_,h2,_⟩=>by simp [trodAll_len h2]
def isTrue:Option AV→Bool
 | some (.bool true)=>true
 | _=>false
theorem isTrue_eq {o:Option AV} (h:isTrue o=true):o=some (.bool true):=by
 unfold isTrue at h
 split at h
 · rfl
 · cases h
end
end Go.Pw
end
