/- Part of the theory that the claims of this work use: M01, M04, M05, M06, M07, M08, M09, M12, M13, M17. No conditions of its own. -/
import Derived.Test.YtmpenhhlkcehpaaGreatT7
set_option linter.unusedVariables false
set_option linter.unusedSimpArgs false
set_option maxHeartbeats 4000000
set_option maxRecDepth 10000
section
namespace Go.Rm
open Go Go.Pav Go.Pw P
attribute [-simp] List.getElem_cons_drop
abbrev eM (old:Int) (f:List Int) (e:Bool):AV:=.agg [.int .i64 old,L1 f e]
structure Has (C:WProg):Prop extends D.HasS C where
 f52:C.fns.get 52=some w52
 f56:C.fns.get 56=some w56
 f62:C.fns.get 62=some w62
 f65:C.fns.get 65=some w65
 f66:C.fns.get 66=some w66
 f67:C.fns.get 67=some w67
 f1073:C.fns.get 1073=some w73
 f74:C.fns.get 74=some w74
 f77:C.fns.get 77=some w77
 f78:C.fns.get 78=some w78
 f79:C.fns.get 79=some w79
 f80:C.fns.get 80=some w80
 f81:C.fns.get 81=some w81
 f82:C.fns.get 82=some w82
 f83:C.fns.get 83=some w83
variable {C:WProg} (H:Has C)
include H
omit H in
def chkF (old:Int) (pre:List Int):List Int→Int
 | []=>0
 | k::r=>if k < -1∨old≤k then 4 else if 0≤k∧k ∈ pre then 8 else chkF old (pre++[k]) r
omit H in
def chk (old:Int) (f:List Int):Int:=if old < 0 then 1 else if 4096 < old∨4096 < (f.length:Int) then 3 else chkF old [] f
theorem check_loop (old:Int) (f:List Int) (e:Bool) (h0:0≤old) (h1:old≤4096) (h2:f.length≤4096):∀ n i,n+i=f.length→∀ seen:List Bool,seen.length=4096 →
 (∀ v:Nat,v < 4096→seen[v]?=some (decide ((v:Int) ∈ f.take i))) →
 w56_K0 C ⟨[(23,.int .i64 i),(22,.int .i64 f.length),(21,L1 f e),(3,.ptr 0 0 0),(1,.ptr 1 0 0)],[(0,.cells 4096 [seen.map AV.bool] true true),(1,.cells 2 [[.int .i64 old,L1 f e]] true true)],2⟩ =
  some (.int .i64 (chkF old (f.take i) (f.drop i))):=by
 have _h:=H
 intro n
 induction n with
 | zero =>
  intro i hi seen hl hs
  simp only [w56_K0];rw [ck_unf w56_B0.eq_1]
  have h3:¬ i < f.length:=by omega
  have h4:f.drop i=[]:=List.drop_eq_nil_of_le (by omega)
  simp [ck_unf w56_c0.eq_1,h3,h4,chkF]
 | succ n ih =>
  intro i hi seen hl hs
  have h3:i < f.length:=by omega
  have ih':=ih (i+1) (by omega)
  simp only [w56_K0] at ih' ⊢;rw [ck_unf w56_B0.eq_1]
  rw [drop_cons h3]
  by_cases c1:f[i] < -1
  · have c2:¬ -1≤f[i]:=by omega
    simp (disch:=omega) [h3,wI64,chkF,c1,c2]
  · have c2:-1≤f[i]:=by omega
    by_cases c3:old≤f[i]
    · simp (disch:=omega) [h3,wI64,chkF,c1,c2,c3]
    · by_cases c4:0≤f[i]
      · obtain ⟨k,hk⟩:∃ k:Nat,f[i]=k:=⟨f[i].toNat,by omega⟩
        have hk2:k < 4096:=by omega
        have hk3:k < seen.length:=by omega
        have hk4:k+1≤seen.length:=by omega
        have hsk:=hs k hk2
        have hft:f.take (i+1)=f.take i++[(k:Int)]:=by rw [List.take_succ_eq_append_getElem h3,hk]
        have:=ih' (seen.set k true) (by simpa using hl) (fun v hv=>by
         rw [hft,List.getElem?_set]
         by_cases q:k=v
         · subst q;simp [hk3]
         · have q2:¬ (v:Int)=(k:Int):=by omega
           rw [if_neg q,hs v hv];simp [q2])
        rw [hft] at this
        rw [hk] at c1 c2 c3 c4 ⊢
        by_cases c5:(k:Int) ∈ f.take i
        · rw [List.getElem?_eq_getElem hk3] at hsk
          simp (disch:=omega) [h3,wI64,chkF,c1,c2,c3,c4,c5,hk,hk2,hk3] at hsk ⊢
          simp (disch:=omega) [hsk]
        · rw [List.getElem?_eq_getElem hk3] at hsk
          simp at this
          simp (disch:=omega) [h3,wI64,chkF,c1,c2,c3,c4,c5,hk,hk2,hk3] at hsk ⊢
          simp (disch:=omega) [hsk,arr_set,wI64,hk4,this]
      · have hft:f.take (i+1)=f.take i++[f[i]]:=List.take_succ_eq_append_getElem h3
        have:=ih' seen hl (fun v hv=>by
         have q2:¬ (v:Int)=f[i]:=by omega
         rw [hft,hs v hv];simp only [List.mem_append,List.mem_singleton,q2,or_false])
        rw [hft] at this
        simp at this
        simp (disch:=omega) [h3,wI64,chkF,c1,c2,c3,c4,this]
theorem check_ok (old:Int) (f:List Int) (e:Bool):FnW C 56 [eM old f e]=some (.int .i64 (chk old f)):=by
 rw [fnW_eq H.f56 rfl]
 unfold chk
 by_cases c1:old < 0
 · simp [w56,c1]
 · by_cases c2:4096 < old
   · simp [w56,c1,c2]
   · by_cases c3:4096 < (f.length:Int)
     · simp [w56,c1,c2,c3]
     · have:=check_loop H old f e (by omega) (by omega) (by omega) f.length 0 (by simp) (rep 4096 false) (by simp) (fun v hv=>by rw [rep_get _ _ hv];simp)
       simp only [w56_K0] at this
       simp at this
       simp [w56,c1,c2,c3,this]
omit H in
structure Dat (caps:List AV):Prop where
 frz:∀ h,mapO (frzW h 16) caps=some caps
 reach:∀ h,caps.flatMap (reachW h 16)=[]
 ptr:hasPtrL caps=false
 refs:refsL caps=[]
 ren:∀ π,renL π caps=some caps
theorem made_loop (old:Int) (now:Nat) (g:Nat) (caps:List AV) (G:Nat→Int) (hd:Dat caps) (hg:D.ppB g=false) (hg2:D.inlB g=false) (hx:now≤4096) (hG:∀ i:Nat,i < now→FnW C g (.int .i64 i::caps)=some (.int .i64 (G i))):∀ n i,n+i=now→∀ acc:List Int,acc.length=i →
 w73_K0 C ⟨[(20,.int .i64 i),(19,.int .i64 now),(8,.ptr 0 0 0),(6,.ptr 2 0 0),(2,.fn g caps)],
  [(0,.cells 2 [[.int .i64 old,.sl 1 1 0 now now true]] true false),(1,.cells 1 (acc.map eI++List.replicate n [AV.int .i64 0]) true true),(2,.cells 2 [[.int .i64 0,.ro 1 [] true]] true true)],3⟩ =
  some (.tup [eM old (acc++(List.range' i n).map G) true,.int .i64 0]):=by
 intro n
 induction n with
 | zero =>
  intro i hi acc ha
  simp only [w73_K0];rw [ck_unf w73_B0.eq_1]
  have h3:¬ i < now:=by omega
  have h5:acc.length=now:=by omega
  have h6:List.take now (List.map eI acc)=List.map eI acc:=List.take_of_length_le (by simp [h5])
  simp [ck_unf w73_c0.eq_1,h3,h5,h6]
 | succ n ih =>
  intro i hi acc ha
  have h3:i < now:=by omega
  have:=ih (i+1) (by omega) (acc++[G i]) (by simp [ha])
  simp only [w73_K0] at this ⊢;rw [ck_unf w73_B0.eq_1]
  simp at this
  simp (disch:=omega) [h3,wI64,hd.frz,hd.reach,hd.ptr,hd.refs,hd.ren,hG,H.inl,H.pp,hg,hg2,List.range'_succ,fill_get,fill_set]
  exact this
theorem made_ok (old now:Int) (g:Nat) (caps:List AV) (G:Nat→Int) (hd:Dat caps) (hg:D.ppB g=false) (hg2:D.inlB g=false) (hn:0≤now) (hx:now≤4096) (hG:∀ i:Nat,(i:Int) < now→FnW C g (.int .i64 i::caps)=some (.int .i64 (G i))) :
 FnW C 1073 [.int .i64 old,.int .i64 now,.fn g caps]=some (.tup [eM old ((List.range now.toNat).map G) true,.int .i64 0]):=by
 obtain ⟨now,rfl⟩:∃ k:Nat,now=k:=⟨now.toNat,by omega⟩
 rw [fnW_eq H.f1073 rfl]
 cases now with
 | zero=>simp [w73,ck_unf w73_B0.eq_1,ck_unf w73_c0.eq_1,hd.refs,hd.ren]
 | succ now =>
  have:=made_loop H old (now+1) g caps G hd hg hg2 (by omega) (fun i hi=>hG i (by omega)) (now+1) 0 rfl [] rfl
  simp only [w73_K0] at this
  simp at this
  have h1:(0:Int) < (now:Int)+1:=by omega
  have h2:List.range' 0 (now+1)=List.range (now+1):=List.range_eq_range'.symm
  rw [h2] at this
  simp (disch:=omega) [w73,h1,fits,hd.refs,hd.ren,this]
abbrev zM:AV:=.agg [.int .i64 0,.ro 1 [] true]
omit H in
theorem dat0:Dat []:=⟨fun h=>rfl,fun h=>rfl,rfl,rfl,fun π=>rfl⟩
omit H in
theorem dat2 (a b:List AV):Dat [.rop a,.rop b]:=⟨fun h=>rfl,fun h=>rfl,rfl,rfl,fun π=>rfl⟩
omit H in
theorem dat4 (a b c d:List AV):Dat [.rop a,.rop b,.rop c,.rop d]:=⟨fun h=>rfl,fun h=>rfl,rfl,rfl,fun π=>rfl⟩
omit H in
def wrongB (n:Int):Bool:=decide (n < 0∨4096 < n)
theorem wrong_ok (n:Int):FnW C 77 [.int .i64 n]=some (.bool (wrongB n)):=by
 rw [fnW_eq H.f77 rfl]
 unfold wrongB
 by_cases c:n < 0 <;> simp [w77,c]
omit H in
def outB (n at_ many:Int):Bool:=decide (at_ < 0∨many < 0∨n < at_∨n - at_ < many)
theorem outside_ok (n a m:Int) (h:0≤n) (h2:n≤4096):FnW C 78 [.int .i64 n,.int .i64 a,.int .i64 m]=some (.bool (outB n a m)):=by
 rw [fnW_eq H.f78 rfl]
 unfold outB
 by_cases c:a < 0
 · simp [w78,c]
 · by_cases c1:m < 0
   · simp [w78,c,c1]
   · by_cases c2:n < a
     · simp [w78,c,c1,c2]
     · simp (disch:=omega) [w78,c,c1,c2,wI64]
omit H in
def gIns (a m i:Int):Int:=if i < a then i else if i < a+m then -1 else i - m
omit H in
def gRem (a m i:Int):Int:=if i < a then i else i+m
omit H in
def gMov (a m t i:Int):Int:=if i < t then gRem a m i else if i < t+m then a+i - t else gRem a m (i - m)
omit H in
def mapR (G:Int→Int) (n:Int):List Int:=(List.range n.toNat).map fun i:Nat=>G i
theorem k81 (i:Int):FnW C 81 [.int .i64 i]=some (.int .i64 i):=by
 rw [fnW_eq H.f81 rfl];simp [w81]
theorem k82 (a m i:Int) (ha:0≤a∧a≤4096) (hm:0≤m∧m≤4096) (hi:0≤i∧i≤4096):FnW C 82 [.int .i64 i,.rop [.int .i64 a],.rop [.int .i64 m]]=some (.int .i64 (gIns a m i)):=by
 rw [fnW_eq H.f82 rfl]
 unfold gIns
 by_cases c:i < a
 · simp [w82,c]
 · by_cases c1:i < a+m
   · simp (disch:=omega) [w82,c,c1,wI64]
   · simp (disch:=omega) [w82,c,c1,wI64]
theorem k83 (a m i:Int) (ha:0≤a∧a≤4096) (hm:0≤m∧m≤4096) (hi:0≤i∧i≤4096):FnW C 83 [.int .i64 i,.rop [.int .i64 a],.rop [.int .i64 m]]=some (.int .i64 (gRem a m i)):=by
 rw [fnW_eq H.f83 rfl]
 unfold gRem
 by_cases c:i < a
 · simp [w83,c]
 · simp (disch:=omega) [w83,c,wI64]
theorem k79 (a m i:Int) (ha:0≤a∧a≤4096) (hm:0≤m∧m≤4096) (hi:-4096≤i∧i≤4096):FnW C 79 [.int .i64 i,.rop [.int .i64 a],.rop [.int .i64 m]]=some (.int .i64 (gRem a m i)):=by
 rw [fnW_eq H.f79 rfl]
 unfold gRem
 by_cases c:i < a
 · simp [w79,c]
 · simp (disch:=omega) [w79,c,wI64]
theorem k80 (a m t i:Int) (ha:0≤a∧a≤4096) (hm:0≤m∧m≤4096) (ht:0≤t∧t≤4096) (hi:0≤i∧i≤4096) :
 FnW C 80 [.int .i64 i,.rop [.int .i64 t],.rop [.fn 79 [.rop [.int .i64 a],.rop [.int .i64 m]]],.rop [.int .i64 m],.rop [.int .i64 a]]=some (.int .i64 (gMov a m t i)):=by
 rw [fnW_eq H.f80 rfl]
 unfold gMov
 have h1:=k79 H a m i ha hm (by omega)
 have h2:=k79 H a m (i - m) ha hm (by omega)
 by_cases c:i < t
 · simp [w80,c,h1,H.inl,D.inlB,H.pp,D.ppB]
 · by_cases c1:i < t+m
   · simp (disch:=omega) [w80,c,c1,wI64]
   · simp (disch:=omega) [w80,c,c1,wI64,h2,H.inl,D.inlB,H.pp,D.ppB]
theorem k74 (b:Int) (bf:List Int) (be:Bool) (a:Int) (af:List Int) (ae:Bool) (i:Nat) (hi:i < bf.length) (hb:bf[i] < af.length) :
 FnW C 74 [.int .i64 i,.rop [.int .i64 b,L1 bf be],.rop [.int .i64 a,L1 af ae]]=some (.int .i64 (if 0≤bf[i] then af[bf[i].toNat]?.getD 0 else -1)):=by
 rw [fnW_eq H.f74 rfl]
 by_cases c:0≤bf[i]
 · obtain ⟨k,hk⟩:∃ k:Nat,bf[i]=k:=⟨bf[i].toNat,by omega⟩
   have h2:k < af.length:=by omega
   simp [w74,hi,hk,c,h2]
 · simp [w74,hi,c]
theorem same_ok (n:Int):FnW C 65 [.int .i64 n]=some (.tup (if n < 0∨4096 < n then [zM,.int .i64 4] else [eM n (mapR id n) true,.int .i64 0])):=by
 rw [fnW_eq H.f65 rfl]
 have hw:=wrong_ok H n
 unfold wrongB at hw
 by_cases c:n < 0∨4096 < n
 · simp [w65,c,hw,H.inl,D.inlB,H.pp,D.ppB]
 · have:=made_ok H n n 81 [] (fun i=>i) dat0 (by rfl) (by rfl) (by omega) (by omega) (fun i hi=>k81 H i)
   simp [w65,c,hw,H.inl,D.inlB,H.pp,D.ppB,this,mapR]
theorem removed_ok (n a m:Int):FnW C 67 [.int .i64 n,.int .i64 a,.int .i64 m]=some (.tup (if n < 0∨4096 < n∨outB n a m=true then [zM,.int .i64 4] else [eM n (mapR (gRem a m) (n - m)) true,.int .i64 0])):=by
 rw [fnW_eq H.f67 rfl]
 have hw:=wrong_ok H n
 by_cases c:wrongB n=true
 · have c2:n < 0∨4096 < n:=by simpa [wrongB] using c
   rw [if_pos (by rcases c2 with h | h;exact .inl h;exact .inr (.inl h))]
   simp [w67,c,hw,H.inl,D.inlB,H.pp,D.ppB]
 · have c':wrongB n=false:=by simpa using c
   have c2:¬ n < 0:=by intro q;exact c (by simp [wrongB,q])
   have c3:¬ 4096 < n:=by intro q;exact c (by simp [wrongB,q])
   have ho:=outside_ok H n a m (by omega) (by omega)
   by_cases d:outB n a m=true
   · simp [w67,c',hw,H.inl,D.inlB,H.pp,D.ppB,c2,c3,ho,d]
   · have d':outB n a m=false:=by simpa using d
     have d2:¬ a < 0∧¬ m < 0∧¬ n < a∧¬ n - a < m:=by simpa [outB] using d'
     have:=made_ok H n (n - m) 83 [.rop [.int .i64 a],.rop [.int .i64 m]] (fun i=>gRem a m i) (dat2 _ _) (by rfl) (by rfl) (by omega) (by omega) (fun i hi=>k83 H a m i (by omega) (by omega) (by omega))
     simp (disch:=omega) [w67,c',hw,H.inl,D.inlB,H.pp,D.ppB,c2,c3,ho,d',wI64,this,mapR]
theorem inserted_ok (n a m:Int) (hm0:m < 9223372036854775808):FnW C 66 [.int .i64 n,.int .i64 a,.int .i64 m]=some (.tup (if n < 0∨4096 < n∨a < 0∨n < a∨m < 0 then [zM,.int .i64 4] else if 4096 - n < m then [zM,.int .i64 3] else [eM n (mapR (gIns a m) (n+m)) true,.int .i64 0])):=by
 rw [fnW_eq H.f66 rfl]
 have hw:=wrong_ok H n
 by_cases c:wrongB n=true
 · have c2:n < 0∨4096 < n:=by simpa [wrongB] using c
   rw [if_pos (by rcases c2 with h | h;exact .inl h;exact .inr (.inl h))]
   simp [w66,c,hw,H.inl,D.inlB,H.pp,D.ppB]
 · have c':wrongB n=false:=by simpa using c
   have c2:¬ n < 0:=by intro q;exact c (by simp [wrongB,q])
   have c3:¬ 4096 < n:=by intro q;exact c (by simp [wrongB,q])
   by_cases d1:a < 0
   · simp [w66,c',hw,H.inl,D.inlB,H.pp,D.ppB,c2,c3,d1]
   · by_cases d2:n < a
     · simp [w66,c',hw,H.inl,D.inlB,H.pp,D.ppB,c2,c3,d1,d2]
     · by_cases d3:m < 0
       · simp [w66,c',hw,H.inl,D.inlB,H.pp,D.ppB,c2,c3,d1,d2,d3]
       · by_cases d4:4096 - n < m
         · simp (disch:=omega) [w66,c',hw,H.inl,D.inlB,H.pp,D.ppB,c2,c3,d1,d2,d3,d4,wI64]
         · have:=made_ok H n (n+m) 82 [.rop [.int .i64 a],.rop [.int .i64 m]] (fun i=>gIns a m i) (dat2 _ _) (by rfl) (by rfl) (by omega) (by omega) (fun i hi=>k82 H a m i (by omega) (by omega) (by omega))
           simp (disch:=omega) [w66,c',hw,H.inl,D.inlB,H.pp,D.ppB,c2,c3,d1,d2,d3,d4,wI64,this,mapR]
theorem moved_ok (n a m t:Int):FnW C 62 [.int .i64 n,.int .i64 a,.int .i64 m,.int .i64 t]=some (.tup (if n < 0∨4096 < n∨outB n a m=true∨t < 0∨n - m < t then [zM,.int .i64 4] else [eM n (mapR (gMov a m t) n) true,.int .i64 0])):=by
 rw [fnW_eq H.f62 rfl]
 have hw:=wrong_ok H n
 by_cases c:wrongB n=true
 · have c2:n < 0∨4096 < n:=by simpa [wrongB] using c
   rw [if_pos (by rcases c2 with h | h;exact .inl h;exact .inr (.inl h))]
   simp [w62,c,hw,H.inl,D.inlB,H.pp,D.ppB]
 · have c':wrongB n=false:=by simpa using c
   have c2:¬ n < 0:=by intro q;exact c (by simp [wrongB,q])
   have c3:¬ 4096 < n:=by intro q;exact c (by simp [wrongB,q])
   have ho:=outside_ok H n a m (by omega) (by omega)
   by_cases d:outB n a m=true
   · simp [w62,c',hw,H.inl,D.inlB,H.pp,D.ppB,c2,c3,ho,d]
   · have d':outB n a m=false:=by simpa using d
     have d2:¬ a < 0∧¬ m < 0∧¬ n < a∧¬ n - a < m:=by simpa [outB] using d'
     by_cases e1:t < 0
     · simp (disch:=omega) [w62,c',hw,H.inl,D.inlB,H.pp,D.ppB,c2,c3,ho,d',wI64,e1]
     · by_cases e2:n - m < t
       · simp (disch:=omega) [w62,c',hw,H.inl,D.inlB,H.pp,D.ppB,c2,c3,ho,d',wI64,e1,e2]
       · have:=made_ok H n n 80 [.rop [.int .i64 t],.rop [.fn 79 [.rop [.int .i64 a],.rop [.int .i64 m]]],.rop [.int .i64 m],.rop [.int .i64 a]] (fun i=>gMov a m t i) (dat4 _ _ _ _) (by rfl) (by rfl) (by omega) (by omega) (fun i hi=>k80 H a m t i (by omega) (by omega) (by omega) (by omega))
         simp (disch:=omega) [w62,c',hw,H.inl,D.inlB,H.pp,D.ppB,c2,c3,ho,d',wI64,e1,e2,this,mapR]
omit H in
theorem chkF_zero {old:Int}:∀ {f pre:List Int},chkF old pre f=0→(∀ k ∈ f,-1≤k∧k < old)∧∀ (i j:Nat) (k:Int),f[i]?=some k→f[j]?=some k→0≤k→i=j∧¬ k ∈ pre
 | [],_,_=>⟨by simp,by simp⟩
 | a::f,pre,h=>by
  unfold chkF at h
  split at h
  · simp at h
  · rename_i c1
    split at h
    · simp at h
    · rename_i c2
      obtain ⟨h1,h2⟩:=chkF_zero h
      refine ⟨fun k hk=>?_,fun i j k e1 e2 hk=>?_⟩
      · rcases List.mem_cons.1 hk with rfl | hk
        · omega
        · exact h1 k hk
      · match i,j,e1,e2 with
        | 0,0,e1,e2 =>
         simp at e1;subst e1
         exact ⟨rfl,fun q=>c2 ⟨hk,q⟩⟩
        | 0,j+1,e1,e2 =>
         simp at e1;subst e1
         have:=(h2 j j a (by simpa using e2) (by simpa using e2) hk).2
         simp at this
        | i+1,0,e1,e2 =>
         simp at e2;subst e2
         have:=(h2 i i a (by simpa using e1) (by simpa using e1) hk).2
         simp at this
        | i+1,j+1,e1,e2 =>
         have:=h2 i j k (by simpa using e1) (by simpa using e2) hk
         exact ⟨by omega,fun q=>this.2 (by simp [q])⟩
omit H in
structure Okm (old:Int) (f:List Int):Prop where
 old0:0≤old
 old1:old≤4096
 len:f.length≤4096
 rng:∀ k ∈ f,-1≤k∧k < old
 uniq:∀ (i j:Nat) (k:Int),f[i]?=some k→f[j]?=some k→0≤k→i=j
omit H in
theorem chk_zero {old:Int} {f:List Int} (h:chk old f=0):Okm old f:=by
 unfold chk at h
 split at h
 · simp at h
 · split at h
   · simp at h
   · obtain ⟨h1,h2⟩:=chkF_zero h
     exact ⟨by omega,by omega,by omega,h1,fun i j k a b c=>(h2 i j k a b c).1⟩
def cmp (af bf:List Int):List Int:=bf.map fun k=>if 0≤k then af[k.toNat]?.getD 0 else -1
omit H in
theorem range_get (l:List Int) (G:Int→Int) (d:Int):(List.range l.length).map (fun i=>G (l[i]?.getD d))=l.map G:=by
 refine List.ext_getElem? fun j=>?_
 by_cases hj:j < l.length
 · simp [hj]
 · simp [hj]
theorem compose_ok (a:Int) (af:List Int) (ae:Bool) (b:Int) (bf:List Int) (be:Bool):FnW C 52 [eM a af ae,eM b bf be]=some (.tup (if chk a af≠0 then [zM,.int .i64 (chk a af)] else if chk b bf≠0 then [zM,.int .i64 (chk b bf)] else
 if b≠af.length then [zM,.int .i64 16] else [eM a (cmp af bf) true,.int .i64 0])):=by
 rw [fnW_eq H.f52 rfl]
 have h1:=check_ok H a af ae
 have h2:=check_ok H b bf be
 by_cases c1:chk a af=0
 · by_cases c2:chk b bf=0
   · by_cases c3:b=af.length
     · subst c3
       have ka:=chk_zero c1
       have kb:=chk_zero c2
       have h3:=kb.len
       have:=made_ok H a bf.length 74 [.rop [.int .i64 af.length,L1 bf be],.rop [.int .i64 a,L1 af ae]] (fun i=>if 0≤bf[i]?.getD 0 then af[(bf[i]?.getD 0).toNat]?.getD 0 else -1) (dat2 _ _) (by rfl) (by rfl) (by omega) (by omega) (fun i hi=>by
        have hi':i < bf.length:=by omega
        have:=kb.rng _ (List.getElem_mem hi')
        have:=k74 H af.length bf be a af ae i hi' (by omega)
        rw [this,List.getElem?_eq_getElem hi'];rfl)
       rw [Int.toNat_natCast,range_get bf (fun k=>if 0≤k then af[k.toNat]?.getD 0 else -1) 0] at this
       simp [w52,H.inl,D.inlB,H.pp,D.ppB,h1,h2,c1,c2,this,cmp]
     · simp [w52,H.inl,D.inlB,H.pp,D.ppB,h1,h2,c1,c2,c3]
   · simp [w52,H.inl,D.inlB,H.pp,D.ppB,h1,h2,c1,c2]
 · simp [w52,H.inl,D.inlB,H.pp,D.ppB,h1,h2,c1]
end Go.Rm
end
section
namespace Go.D
open Go Go.Pav Go.Pw P
attribute [-simp] List.getElem_cons_drop
variable {C:WProg}
structure HasOn (C:WProg):Prop extends Rm.Has C where
 f525:C.fns.get 525=some w525
 f564:C.fns.get 564=some w564
 f565:C.fns.get 565=some w565
def insC (a m:Int):AV:=.fn 565 [.rop [.int .i64 a],.rop [.int .i64 m]]
theorem insf_ok (H:HasOn C) (a m:Int):FnW C 564 [.int .i64 a,.int .i64 m]=some (insC a m):=by
 rw [fnW_eq H.f564 rfl]
 simp [w564,insC]
theorem insC_ok (H:HasOn C) (a m i:Int) (h:-1000000000000≤a∧a≤1000000000000) (h2:-1000000000000≤m∧m≤1000000000000):FnW C 565 [.int .i64 i,.rop [.int .i64 a],.rop [.int .i64 m]]=some (.bool (decide (a≤i)&&decide (i < a+m))):=by
 rw [fnW_eq H.f565 rfl]
 by_cases c:a≤i
 · simp (disch:=omega) [w565,c,wI64]
 · simp (disch:=omega) [w565,c,wI64]
theorem mapR_idx (N:Nat):Rm.mapR id N=idx N:=by
 unfold Rm.mapR idx
 simp
theorem mapR_get (G:Int→Int) (n:Int) (j:Nat):(Rm.mapR G n)[j]?=if (j:Int) < n then some (G j) else none:=by
 unfold Rm.mapR
 rw [List.getElem?_map]
 by_cases h:(j:Int) < n
 · rw [if_pos h,List.getElem?_range (by omega)];rfl
 · rw [if_neg h,List.getElem?_eq_none (by simp;omega)];rfl
theorem idx_get (N j:Nat):(idx N)[j]?=if j < N then some (j:Int) else none:=by
 unfold idx
 rw [List.getElem?_map]
 by_cases h:j < N
 · rw [if_pos h,List.getElem?_range h];rfl
 · rw [if_neg h,List.getElem?_eq_none (by simp;omega)];rfl
theorem spl_get {α:Type} (l:List α) (a c:Nat) (x:List α) (h:a≤l.length) (j:Nat):(spl l a c x)[j]?=if j < a then l[j]? else if j < a+x.length then x[j - a]? else l[j - x.length+c]?:=by
 unfold spl
 rw [List.append_assoc,List.getElem?_append,List.length_take,Nat.min_eq_left h]
 by_cases h1:j < a
 · rw [if_pos h1,if_pos h1,List.getElem?_take,if_pos h1]
 · rw [if_neg h1,if_neg h1,List.getElem?_append]
   by_cases h2:j < a+x.length
   · rw [if_pos h2,if_pos (by omega)]
   · rw [if_neg h2,if_neg (by omega),List.getElem?_drop]
     congr 1
     omega
theorem ins_idx (n a m:Nat) (h:a≤n):Rm.mapR (Rm.gIns a m) ((n:Int)+m)=spl (idx n) a 0 (List.replicate m (-1)):=by
 refine List.ext_getElem? fun j=>?_
 rw [mapR_get,spl_get _ _ _ _ (by rw [idx_len];exact h),idx_get,idx_get,List.length_replicate,List.getElem?_replicate]
 unfold Rm.gIns
 by_cases h1:j < a
 · rw [if_pos (by omega),if_pos (by omega),if_pos h1,if_pos (by omega)]
 · rw [if_neg h1]
   by_cases h2:j < a+m
   · rw [if_pos (by omega),if_neg (by omega),if_pos (by omega),if_pos h2,if_pos (by omega)]
   · rw [if_neg h2]
     by_cases h3:j < n+m
     · rw [if_pos (by omega),if_neg (by omega),if_neg (by omega),if_pos (by omega)]
       congr 1;omega
     · rw [if_neg (by omega),if_neg (by omega)]
theorem rem_idx (n a m:Nat) (h:a+m≤n):Rm.mapR (Rm.gRem a m) ((n:Int) - m)=spl (idx n) a m []:=by
 refine List.ext_getElem? fun j=>?_
 rw [mapR_get,spl_get _ _ _ _ (by rw [idx_len];omega),idx_get,idx_get,List.length_nil]
 unfold Rm.gRem
 by_cases h1:j < a
 · rw [if_pos (by omega),if_pos (by omega),if_pos h1,if_pos (by omega)]
 · have h2:¬ j < a+0:=by omega
   rw [if_neg h1,if_neg h2]
   by_cases h3:j+m < n
   · rw [if_pos (by omega),if_neg (by omega),if_pos (by omega)]
     congr 1
   · rw [if_neg (by omega),if_neg (by omega)]
theorem rem_len (n a m:Nat) (h:a+m≤n):(spl (idx n) a m []).length=n - m:=by
 unfold spl
 simp only [List.append_nil,List.length_append,List.length_take,List.length_drop,idx_len]
 omega
theorem mov_idx (n a m t:Nat) (h:a+m≤n) (ht:t+m≤n):Rm.mapR (Rm.gMov a m t) n=spl (spl (idx n) a m []) t 0 (((idx n).take (a+m)).drop a):=by
 refine List.ext_getElem? fun j=>?_
 have hl:(((idx n).take (a+m)).drop a).length=m:=by
  simp only [List.length_drop,List.length_take,idx_len]
  omega
 rw [mapR_get,spl_get _ _ _ _ (by rw [rem_len n a m h];omega),hl,← rem_idx n a m h,mapR_get,mapR_get,List.getElem?_drop,List.getElem?_take,idx_get]
 unfold Rm.gMov
 by_cases h1:j < t
 · rw [if_pos (by omega),if_pos (by omega),if_pos h1,if_pos (by omega)]
 · rw [if_neg h1]
   by_cases h2:j < t+m
   · rw [if_pos (by omega),if_neg (by omega),if_pos (by omega),if_pos h2,if_pos (by omega),if_pos (by omega)]
     congr 1;omega
   · rw [if_neg h2]
     by_cases h3:j < n
     · rw [if_pos (by omega),if_neg (by omega),if_neg (by omega),if_pos (by omega)]
       congr 2;omega
     · rw [if_neg (by omega),if_neg (by omega)]
theorem onen_ok (H:HasOn C) (l:List En) (n:Nt) (h:Ins l n) (hl:l.length≤1024) (hx:n.x.length≤10000):FnW C 525 [.agg (eNt n),.int .i64 l.length]=some (.tup [Rm.eM l.length (oneF n l.length) true,insC (insA n) (insM n)]):=by
 have hp:=fun a m=>insf_ok H a m
 have hs:=Rm.same_ok H.toHas l.length
 have hr:=fun a m=>Rm.removed_ok H.toHas l.length a m
 have hi:=fun n a m h=>Rm.inserted_ok H.toHas n a m h
 have hm:=fun a m t=>Rm.moved_ok H.toHas l.length a m t
 obtain ⟨k,a,c,t,x,e⟩:=n
 have hk:=h.k
 simp only at hk hx
 have hsame:(if (l.length:Int) < 0∨4096 < (l.length:Int) then [Rm.zM,AV.int .i64 4] else [Rm.eM l.length (Rm.mapR id l.length) true,.int .i64 0])=[Rm.eM l.length (idx l.length) true,.int .i64 0]:=by
  rw [if_neg (by omega),mapR_idx]
 rw [hsame] at hs
 have h5:k=1∨k=2∨k=3∨k=4∨k=5:=by omega
 rw [fnW_eq H.f525 rfl]
 unfold insA insM oneF insC
 unfold insC at hp
 rcases h5 with rfl | rfl | rfl | rfl | rfl
 · have h1:=h.a (by simp)
   have h2:=h.s (by rfl)
   simp only at h1 h2
   have hi1:=hi l.length a x.length (by omega)
   have e1:=ins_idx l.length a.toNat x.length (by omega)
   rw [Int.toNat_of_nonneg h1.1] at e1
   rw [if_neg (by omega),if_neg (by omega),e1] at hi1
   simp (disch:=omega) [w525,hi1,hp,wI64,H.inl,inlB,H.pp,ppB]
 · have h1:=h.a (by simp)
   have h2:=h.c (.inl rfl)
   simp only at h1 h2
   have hr1:=hr a c
   have e1:=rem_idx l.length a.toNat c.toNat (by omega)
   rw [Int.toNat_of_nonneg h1.1,Int.toNat_of_nonneg h2.1] at e1
   have e2:Rm.outB l.length a c=false:=by unfold Rm.outB;simp;omega
   rw [e2,if_neg (by simp;omega),e1] at hr1
   simp (disch:=omega) [w525,hr1,hp,wI64,H.inl,inlB,H.pp,ppB]
 · have h1:=h.a (by simp)
   have h2:=h.c (.inr rfl)
   have h3:=h.t rfl
   simp only at h1 h2 h3
   have hm1:=hm a c t
   have e1:=mov_idx l.length a.toNat c.toNat t.toNat (by omega) (by omega)
   rw [Int.toNat_of_nonneg h1.1,Int.toNat_of_nonneg h2.1,Int.toNat_of_nonneg h3.1] at e1
   have e2:Rm.outB l.length a c=false:=by unfold Rm.outB;simp;omega
   rw [e2,if_neg (by simp;omega),e1] at hm1
   simp (disch:=omega) [w525,hm1,hp,wI64,H.inl,inlB,H.pp,ppB]
 · have h1:=h.a (by simp)
   have h2:=h.x rfl
   simp only at h1 h2
   simp (disch:=omega) [w525,hs,hp,wI64,H.inl,inlB,H.pp,ppB]
 · have h2:=h.r rfl
   simp only at h2
   have hr1:=hr 0 l.length
   have e2:Rm.outB l.length 0 l.length=false:=by unfold Rm.outB;simp
   rw [e2,if_neg (by simp;omega),Int.sub_self] at hr1
   have hi1:=hi 0 0 x.length (by omega)
   have e1:=ins_idx 0 0 x.length (by omega)
   simp only [Int.natCast_zero,Int.zero_add] at e1
   have e3:spl (idx 0) 0 0 (List.replicate x.length (-1))=List.replicate x.length (-1):=by simp [spl,idx]
   rw [if_neg (by omega),if_neg (by omega),Int.zero_add,e1,e3] at hi1
   have e4:Rm.mapR (Rm.gRem 0 l.length) 0=[]:=rfl
   rw [e4] at hr1
   have hc:=Rm.compose_ok H.toHas l.length [] true 0 (List.replicate x.length (-1)) true
   have k1:Rm.chk l.length []=0:=by unfold Rm.chk;rw [if_neg (by omega),if_neg (by simp;omega)];rfl
   have k2:Rm.chk 0 (List.replicate x.length (-1))=0:=by
    unfold Rm.chk
    rw [if_neg (by omega),if_neg (by simp;omega)]
    have:∀ (m:Nat) (pre:List Int),Rm.chkF 0 pre (List.replicate m (-1))=0:=by
     intro m
     induction m with
     | zero=>intro pre;rfl
     | succ m ih=>intro pre;rw [List.replicate_succ,Rm.chkF,if_neg (by omega),if_neg (by omega)];exact ih _
    exact this _ _
   have e5:Rm.cmp [] (List.replicate x.length (-1))=List.replicate x.length (-1):=by simp [Rm.cmp]
   rw [k1,k2,if_neg (by simp),if_neg (by simp),if_neg (by simp),e5] at hc
   simp [Rm.eM,L1] at hc
   simp (disch:=omega) [w525,hr1,hi1,hc,hp,wI64,H.inl,inlB,H.pp,ppB]
end Go.D
end
section
namespace Go.D
open Go Go.Pav Go.Pw P
attribute [-simp] List.getElem_cons_drop
variable {C:WProg}
def nni (l:List Int):List Int:=l.filter fun k=>decide (0≤k)
def Vdm (old:Int) (f:List Int):Prop:=(∀ k ∈ f,-1≤k∧k < old)∧(nni f).Nodup
theorem chkF_vdm {old:Int}:∀ (f pre:List Int),(∀ k ∈ f,-1≤k∧k < old)→(nni pre++nni f).Nodup→Rm.chkF old pre f=0
 | [],_,_,_=>rfl
 | k::r,pre,h1,h2=>by
  have hk:=h1 k (by simp)
  unfold Rm.chkF
  rw [if_neg (by omega)]
  by_cases c:0≤k
  · have e:nni (k::r)=k::nni r:=by simp [nni,c]
    rw [e] at h2
    rw [if_neg]
    · refine chkF_vdm r _ (fun x hx=>h1 x (by simp [hx])) ?_
      have e2:nni (pre++[k])=nni pre++[k]:=by simp [nni,c]
      rw [e2,List.append_assoc];exact h2
    · rintro ⟨_,hm⟩
      rw [List.nodup_append] at h2
      exact h2.2.2 k (by simp [nni,c,hm]) k (by simp) rfl
  · rw [if_neg (by omega)]
    have e:nni (k::r)=nni r:=by simp [nni,c]
    rw [e] at h2
    refine chkF_vdm r _ (fun x hx=>h1 x (by simp [hx])) ?_
    have e2:nni (pre++[k])=nni pre:=by simp [nni,c]
    rw [e2];exact h2
theorem chk_vdm {old:Int} {f:List Int} (h:Vdm old f) (h0:0≤old) (h1:old≤4096) (h2:f.length≤4096):Rm.chk old f=0:=by
 unfold Rm.chk
 rw [if_neg (by omega),if_neg (by omega)]
 exact chkF_vdm f [] h.1 (by simpa [nni] using h.2)
theorem vdm_sub {old:Int} {f g:List Int} (h:Vdm old f) (hs:g.Sublist f):Vdm old g:=⟨fun k hk=>h.1 k (hs.subset hk),h.2.sublist (hs.filter _)⟩
theorem vdm_perm {old:Int} {f g:List Int} (h:Vdm old f) (hs:g.Perm f):Vdm old g:=⟨fun k hk=>h.1 k (hs.subset hk),(hs.filter _).nodup_iff.2 h.2⟩
theorem vdm_neg {old:Int} (m:Nat) (h:0≤old):Vdm old (List.replicate m (-1)):=by
 refine ⟨fun k hk=>?_,?_⟩
 · have:=List.eq_of_mem_replicate hk;omega
 · have:nni (List.replicate m (-1))=[]:=by unfold nni;rw [List.filter_replicate];simp
   rw [this];exact List.nodup_nil
theorem vdm_ins {old:Int} {f:List Int} (h:Vdm old f) (a m:Nat) (ho:0≤old):Vdm old (spl f a 0 (List.replicate m (-1))):=by
 refine vdm_perm (f:=List.replicate m (-1)++f) ⟨fun k hk=>?_,?_⟩ (spl_perm _ _ _)
 · rcases List.mem_append.1 hk with hk | hk
   · have:=List.eq_of_mem_replicate hk;omega
   · exact h.1 k hk
 · have:nni (List.replicate m (-1)++f)=nni f:=by unfold nni;rw [List.filter_append,List.filter_replicate];simp
   rw [this];exact h.2
theorem vdm_idx (n:Nat):Vdm n (idx n):=by
 refine ⟨fun k hk=>?_,?_⟩
 · unfold idx at hk
   obtain ⟨i,hi,rfl⟩:=List.mem_map.1 hk
   have:=List.mem_range.1 hi
   omega
 · unfold nni
   refine List.Pairwise.filter _ ?_
   unfold idx
   exact List.Pairwise.map _ (fun a b h e=>h (Int.ofNat.inj e)) List.nodup_range
theorem one_vdm {l:List En} {n:Nt} (h:Ins l n):Vdm l.length (oneF n l.length):=by
 have hi:=vdm_idx l.length
 unfold oneF
 split
 · exact vdm_ins hi _ _ (by omega)
 · split
   · exact vdm_sub hi (spl_sub _ _ _)
   · split
     · exact vdm_perm hi (mov_perm _ _ _ _)
     · split
       · exact hi
       · exact vdm_neg _ (by omega)
theorem fol_vdm {old:Int} {l:List En} {T:List Tg} {n:Nt} (h:Ins l n) (hT:T.length=l.length) (ho:0≤old) (hv:Vdm old (T.map (·.f))):Vdm old ((folT T n).map (·.f)):=by
 have htin:(tin n.x).map (·.f)=List.replicate n.x.length (-1):=by unfold tin;rw [List.map_map];exact List.map_const' ..
 unfold folT
 split
 · rw [spl_map,htin];exact vdm_ins hv _ _ ho
 · split
   · rw [spl_map];exact vdm_sub hv (spl_sub _ _ _)
   · split
     · rw [spl_map,spl_map]
       simp only [List.map_drop,List.map_take,List.map_nil]
       exact vdm_perm hv (mov_perm _ _ _ _)
     · split
       · rename_i k4
         have h1:=h.x k4
         have h2:=h.a (by omega)
         rw [spl_map,tch_f _ _ (by rw [List.length_drop];omega),spl_self]
         · exact hv
         · rw [List.map_drop]
       · rw [htin];exact vdm_neg _ ho
theorem one_len {l:List En} {T:List Tg} {n:Nt} (h:Ins l n) (hT:T.length=l.length):(oneF n l.length).length=(folT T n).length:=by
 have:=congrArg List.length (one_f h hT)
 rw [hT] at this
 simpa [cm] using this
theorem cm_cmp (A F:List Int):Rm.cmp A F=cm A F:=rfl
structure HasNe (C:WProg):Prop extends HasOn C,HasL C where
 f360:C.fns.get 360=some w360
 f469:C.fns.get 469=some w469
theorem mid_get {α:Type} {P Q:List α} {i:Nat} {c:α} (h:P.length=i):(P++c::Q)[i]?=some c:=by
 rw [List.getElem?_append_right (by omega),h,Nat.sub_self];rfl
theorem mid_set {α:Type} {P Q:List α} {i:Nat} {c v:α} (h:P.length=i):(P++c::Q).set i v=P++v::Q:=by
 rw [List.set_append,if_neg (by omega),h,Nat.sub_self];rfl
theorem copy_loop (H:HasL C) (x:List It) (hl:x.length≤1000000) (hm:∀ y ∈ x,y.m.length≤1000000):∀ n i,n+i=x.length→∀ G:List It,G.length=i →
 w340_K0 C ⟨[(9,.int .i64 i),(8,.int .i64 x.length),(3,.sl 0 4 0 x.length x.length true)],[(0,.cells 4 (G.map cIt++(x.drop i).map cIt) true true)],1⟩=some (.ro 4 ((G++(x.drop i).map It.own).map cIt) true):=by
 intro n
 induction n with
 | zero =>
  intro i hi G hG
  have h1:x.drop i=[]:=List.drop_eq_nil_of_le (by omega)
  have h3:¬ i < x.length:=by omega
  have h7:G.length=x.length:=by omega
  have h6:List.take x.length (List.map cIt G)=List.map cIt G:=List.take_of_length_le (by simp;omega)
  simp only [w340_K0];rw [ck_unf w340_B0.eq_1]
  simp [ck_unf w340_c0.eq_1,h1,h3,h6,h7]
 | succ n ih =>
  intro i hi G hG
  have h1:i < x.length:=by omega
  have he:=exactS_ok H x[i].m x[i].e (hm _ (List.getElem_mem h1))
  have:=ih (i+1) (by omega) (G++[x[i].own]) (by simp [hG])
  rw [drop_cons h1]
  simp only [w340_K0] at this ⊢;rw [ck_unf w340_B0.eq_1]
  simp [It.own] at this
  have hg:(List.map cIt G).length=i:=by simpa using hG
  simp (disch:=omega) [h1,wI64,he,mid_get hg,mid_set hg,H.inl,inlB,H.pp,ppB,It.own,this]
theorem copy_ok (H:HasL C) (x:List It) (e:Bool) (hl:x.length≤1000000) (hm:∀ y ∈ x,y.m.length≤1000000):FnW C 340 [.ro 4 (x.map cIt) e]=some (.ro 4 ((x.map It.own).map cIt) true):=by
 have hg:=fun a h n=>rnW_eq (args:=[a]) H.f459 rfl h n
 rw [fnW_eq H.f340 rfl]
 by_cases hne:x=[]
 · subst hne
   simp [w340,ck_unf w340_B0.eq_1,ck_unf w340_c0.eq_1,hg,w459,H.inl,inlB,H.pp,ppB]
 · have h:=copy_loop H x hl hm x.length 0 (by simp) [] rfl
   have h2:x.length * 57≤35184372088832:=by omega
   have hT:List.take x.length (List.map cIt x)=List.map cIt x:=List.take_of_length_le (by simp)
   have hD:List.drop x.length (List.map cIt x)=[]:=List.drop_eq_nil_of_le (by simp)
   simp only [w340_K0] at h
   simp at h
   simp (disch:=omega) [w340,hne,h2,isE,hT,hD,hg,w459,h,H.inl,inlB,H.pp,ppB]
theorem exactB_ok (H:HasNe C) (m:List Bool) (e:Bool) (hl:m.length≤1000000):FnW C 469 [.ro 1 (m.map eB) e]=some (.ro 1 (m.map eB) true):=by
 rw [fnW_eq H.f469 rfl]
 by_cases h:m=[]
 · subst h;simp [w469]
 · have h2:m.length * 2≤35184372088832:=by omega
   have hT:List.take m.length (List.map eB m)=List.map eB m:=List.take_of_length_le (by simp)
   simp (disch:=omega) [w469,h,h2,isE,hT]
end Go.D
end
section
namespace Go.D
open Go Go.Pav Go.Pw P
attribute [-simp] List.getElem_cons_drop
variable {C:WProg}
def pickI:List Bool→List En→List It
 | b::fr,e::L=>if b=true then e.i::pickI fr L else pickI fr L
 | _,_=>[]
@[simp] def eNet (old:Int) (F:List Int) (fe:Bool) (fr:List Bool) (fre:Bool) (x:List It) (xe:Bool):List AV:=[.int .i64 old,.ro 1 (F.map eI) fe,.ro 1 (fr.map eB) fre,.ro 4 (x.map cIt) xe]
theorem net_loop (H:HasNe C) (old:Int) (F:List Int) (fe:Bool) (fr:List Bool) (fre:Bool) (L:List En) (le:Bool) (hl:fr.length≤100000) (hL:fr.length≤L.length) (hm:∀ e ∈ L,e.i.m.length≤1000000) :
 ∀ n i,n+i=fr.length→∀ G:List It,G.length≤i→(∀ y ∈ G,y.m.length≤1000000) →
 w360_K0 C ⟨[(12,.int .i64 i),(11,.int .i64 fr.length),(10,.ro 1 (fr.map eB) fre),(7,.sl 0 4 0 G.length G.length false),(6,.ptr 1 0 0),(3,.ptr 2 0 0),(2,.ro 6 (L.map eEn) le),(1,.ro 1 (fr.map eB) fre)],
  [(0,.cells 4 (G.map cIt) true true),(1,.cells 4 [[.int .i64 0,.ro 1 [] true,.ro 1 [] true,.ro 4 [] true]] true true),(2,.cells 2 [[.int .i64 old,.ro 1 (F.map eI) fe]] true true)],3⟩ =
  some (.agg (eNet old F fe fr true ((G++pickI (fr.drop i) (L.drop i)).map It.own) true)):=by
 intro n
 induction n with
 | zero =>
  intro i hi G hG hg
  have h1:fr.drop i=[]:=List.drop_eq_nil_of_le (by omega)
  have h3:¬ i < fr.length:=by omega
  have hb:=exactB_ok H fr fre (by omega)
  have hc:=copy_ok H.toHasL G false (by omega) hg
  have hT:List.take G.length (List.map cIt G)=List.map cIt G:=List.take_of_length_le (by simp)
  simp only [w360_K0];rw [ck_unf w360_B0.eq_1]
  by_cases hne:G=[]
  · subst hne
    simp at hc
    simp (disch:=omega) [ck_unf w360_c0.eq_1,h1,h3,hb,hc,pickI,H.inl,inlB,H.pp,ppB]
  · simp (disch:=omega) [ck_unf w360_c0.eq_1,h1,h3,hb,hc,hT,pickI,H.inl,inlB,H.pp,ppB]
 | succ n ih =>
  intro i hi G hG hg
  have h1:i < fr.length:=by omega
  have h2:i < L.length:=by omega
  rw [drop_cons h1,drop_cons h2,pickI]
  simp only [w360_K0];rw [ck_unf w360_B0.eq_1]
  by_cases hb:fr[i]=true
  · have:=ih (i+1) (by omega) (G++[L[i].i]) (by simp;omega) (by
     intro y hy
     rcases List.mem_append.1 hy with hy | hy
     · exact hg y hy
     · simp only [List.mem_singleton] at hy;subst hy;exact hm _ (List.getElem_mem h2))
    have hcap:(G.length+1) * 57≤35184372088832:=by omega
    simp only [w360_K0] at this
    simp at this
    simp (disch:=omega) [h1,h2,hb,hcap,wI64,this,H.inl,inlB,H.pp,ppB]
  · have:=ih (i+1) (by omega) G (by omega) hg
    simp only [w360_K0] at this
    simp at this
    simp (disch:=omega) [h1,h2,hb,wI64,this,H.inl,inlB,H.pp,ppB]
theorem net_ok (H:HasNe C) (old:Int) (F:List Int) (fe:Bool) (fr:List Bool) (fre:Bool) (L:List En) (le:Bool) (hl:fr.length≤100000) (hL:fr.length≤L.length) (hm:∀ e ∈ L,e.i.m.length≤1000000) :
 FnW C 360 [Rm.eM old F fe,.ro 1 (fr.map eB) fre,.ro 6 (L.map eEn) le]=some (.agg (eNet old F fe fr true ((pickI fr L).map It.own) true)):=by
 have h:=net_loop H old F fe fr fre L le hl hL hm fr.length 0 (by simp) [] (by simp) (by simp)
 rw [fnW_eq H.f360 rfl]
 simp only [w360_K0] at h
 simp at h
 simp (disch:=omega) [w360,h,H.inl,inlB,H.pp,ppB]
end Go.D
end
section
namespace Go.D
open Go Go.Pav Go.Pw P
attribute [-simp] List.getElem_cons_drop
variable {C:WProg}
structure HasOf (C:WProg):Prop extends HasNe C,HasAl C where
 f454:C.fns.get 454=some w454
abbrev ofSt (x:List Nt) (xe:Bool) (j:Nat) (fr:List Bool) (old:Int) (F:List Int) (A:List En) (at_:Int):WSt :=
 ⟨[(46,.int .i64 j),(45,.int .i64 x.length),(44,.ro 5 (x.map eNt) xe),(12,.sl 0 1 0 fr.length fr.length true),(10,.ptr 1 0 0),(9,.ptr 2 0 0),(7,.int .i64 at_),(6,.ptr 3 0 0)],
  [(0,.cells 1 (fr.map eB) true true),(1,.cells 2 [[.int .i64 old,.ro 1 (F.map eI) true]] true true),(2,.cells 1 [[.ro 6 (A.map eEn) true]] true true),(3,.cells 4 [[.int .i64 0,.ro 1 [] true,.ro 1 [] true,.ro 4 [] true]] true true)],4⟩
theorem of_in (H:HasOf C) (x:List Nt) (xe:Bool) (hxl:x.length≤1000) (j:Nat) (hj:j < x.length) (fr:List Bool) (hfr:fr.length≤2000) (old:Int) (F:List Int) (A:List En) (at_:Int) (m:Int) (X:List Int) (hX:X.length≤4000) (hr:∀ k ∈ X,-1≤k∧k < fr.length)
 (a c:Int) (ha:0≤a∧a≤100000) (hc:0≤c∧c≤100000) (F2:List Int) (hcomp:FnW C 52 [Rm.eM old F true,Rm.eM m X true]=some (.tup [Rm.eM old F2 true,.int .i64 0])) (R:AV)
 (hnext:w454_K0 C (ofSt x xe (j+1) (nw fr a c 0 X) old F2 A at_)=some R):∀ n i,n+i=X.length→∀ G:List Bool,G++nw fr a c i (X.drop i)=nw fr a c 0 X→G.length=i →
 w454_K1 C ⟨[(64,.int .i64 i),(63,.int .i64 X.length),(62,.ro 1 (X.map eI) true),(46,.int .i64 j),(45,.int .i64 x.length),(44,.ro 5 (x.map eNt) xe),(17,.sl 0 1 0 X.length X.length true),(16,insC a c),(15,.ptr 1 0 0),(12,.sl 2 1 0 fr.length fr.length true),(10,.ptr 3 0 0),(9,.ptr 4 0 0),(7,.int .i64 at_),(6,.ptr 5 0 0)],
  [(0,.cells 1 (G.map eB++List.replicate n [.bool false]) true true),(1,.cells 2 [[.int .i64 m,.ro 1 (X.map eI) true]] true true),(2,.cells 1 (fr.map eB) true true),(3,.cells 2 [[.int .i64 old,.ro 1 (F.map eI) true]] true true),(4,.cells 1 [[.ro 6 (A.map eEn) true]] true true),(5,.cells 4 [[.int .i64 0,.ro 1 [] true,.ro 1 [] true,.ro 4 [] true]] true true)],6⟩=some R:=by
 intro n
 induction n with
 | zero =>
  intro i hi G hG hg
  have h1:X.drop i=[]:=List.drop_eq_nil_of_le (by omega)
  have h3:i=X.length:=by omega
  rw [h1,nw,List.append_nil] at hG
  have hL:(nw fr a c 0 X).length=X.length:=nw_len ..
  simp only [w454_K0,ofSt] at hnext
  rw [hL] at hnext
  simp only [w454_K1];rw [ck_unf w454_B1.eq_1]
  subst hG
  simp at hnext
  simp (disch:=omega) [ck_unf w454_c2.eq_1,ck_unf w454_c1.eq_1,h3,hcomp,insC,hnext,wI64,H.inl,inlB,H.pp,ppB]
 | succ n ih =>
  intro i hi G hG hg
  have h1:i < X.length:=by omega
  have hk:=hr X[i] (List.getElem_mem h1)
  rw [drop_cons h1,nw] at hG
  have hco:=insC_ok H.toHasNe.toHasOn a c i (by omega) (by omega)
  simp only [w454_K1];rw [ck_unf w454_B1.eq_1]
  by_cases hneg:X[i] < 0
  · have hd:decide (X[i] < 0)=true:=by simpa using hneg
    rw [hd,Bool.true_or,Bool.true_or] at hG
    have:=ih (i+1) (by omega) (G++[true]) (by rw [List.append_assoc];exact hG) (by simp [hg])
    simp only [w454_K1] at this
    simp [insC] at this
    simp (disch:=omega) [h1,hneg,wI64,insC,fill_get,fill_set,hg,this,H.inl,inlB,H.pp,ppB]
  · have hd:decide (X[i] < 0)=false:=by simpa using hneg
    obtain ⟨q,hq⟩:∃ q:Nat,X[i]=q:=⟨X[i].toNat,by omega⟩
    have hql:q < fr.length:=by omega
    have hqe:fr[X[i].toNat]?.getD false=fr[q]:=by rw [hq,Int.toNat_natCast,List.getElem?_eq_getElem hql];rfl
    rw [hd,Bool.false_or,hqe] at hG
    by_cases hf:fr[q]=true
    · rw [hf,Bool.true_or] at hG
      have:=ih (i+1) (by omega) (G++[true]) (by rw [List.append_assoc];exact hG) (by simp [hg])
      simp only [w454_K1] at this
      simp [insC] at this
      simp (disch:=omega) [h1,hq,hql,hf,wI64,insC,fill_get,fill_set,hg,this,H.inl,inlB,H.pp,ppB]
    · have hf':fr[q]=false:=by simpa using hf
      rw [hf',Bool.false_or] at hG
      generalize hb:(decide (a≤(i:Int))&&decide ((i:Int) < a+c))=b at hG hco
      have:=ih (i+1) (by omega) (G++[b]) (by rw [List.append_assoc];exact hG) (by simp [hg])
      simp only [w454_K1] at this
      simp [insC] at this
      simp (disch:=omega) [h1,hq,hql,hf',wI64,insC,hco,fill_get,fill_set,hg,this,H.inl,inlB,H.pp,ppB]
def netT (old:Int) (T:List Tg):List AV:=eNet old (T.map (·.f)) true (T.map (·.b)) true (((T.filter (·.b)).map (·.i)).map It.own) true
theorem pick_tags:∀ (T:List Tg) (L:List En),T.map (·.i)=L.map (·.i)→pickI (T.map (·.b)) L=(T.filter (·.b)).map (·.i)
 | [],[],_=>rfl
 | [],_::_,h=>by simp at h
 | _::_,[],h=>by simp at h
 | t::T,e::L,h=>by
  simp only [List.map_cons,List.cons.injEq] at h
  rw [List.map_cons,pickI,pick_tags T L h.2,List.filter_cons]
  cases t.b
  · rfl
  · simp [h.1]
theorem pick_own:∀ (fr:List Bool) (L:List En),(pickI fr (L.map En.own)).map It.own=(pickI fr L).map It.own
 | [],_=>rfl
 | _::_,[]=>rfl
 | b::fr,e::L=>by
  rw [List.map_cons,pickI,pickI]
  cases b
  · exact pick_own fr L
  · simp only [if_true,List.map_cons,pick_own fr L];rfl
theorem insA_rng {l:List En} {n:Nt} (h:Ins l n) (hl:l.length≤1024):0≤insA n∧insA n≤100000:=by
 unfold insA
 split
 · rename_i q
   have:=h.a (by omega)
   omega
 · omega
theorem insM_rng {n:Nt} (h:n.x.length≤10000):0≤insM n∧insM n≤100000:=by
 unfold insM
 split <;> omega
theorem of_loop (H:HasOf C) (ks:List Kd) (cap:Int) (x:List Nt) (xe:Bool) (hx:∀ n ∈ x,NtIn ks n) (hxl:x.length≤1000) (old:Nat) (hold:old≤1024) (A:List En) (hA:∀ e ∈ A,EnIn e):∀ n j,n+j=x.length→∀ (l:List En) (T:List Tg),
 ckE ks cap l=0→allE ks cap l (x.drop j)=0→T.map (·.i)=l.map (·.i)→Vdm old (T.map (·.f))→(allL ks l (x.drop j)).map En.own=A →
 w454_K0 C (ofSt x xe j (T.map (·.b)) old (T.map (·.f)) A x.length)=some (.tup [.agg (netT old (allT T (x.drop j))),.int .i64 x.length,.int .i64 0]):=by
 intro n
 induction n with
 | zero =>
  intro j hj l T hc hE hT hv hAl
  have h1:x.drop j=[]:=List.drop_eq_nil_of_le (by omega)
  have h2:j=x.length:=by omega
  subst h2
  rw [h1,allL] at hAl
  rw [h1,allT]
  have hll:=ck_len hc
  have hTl:T.length=l.length:=by simpa using congrArg List.length hT
  have hAlen:A.length=l.length:=by rw [← hAl,List.length_map]
  have hn:=net_ok H.toHasNe old (T.map (·.f)) true (T.map (·.b)) true A true (by rw [List.length_map];omega) (by rw [List.length_map];omega) (fun e he=>(hA e he).i.m)
  have hp:(pickI (T.map (·.b)) A).map It.own=((T.filter (·.b)).map (·.i)).map It.own:=by
   rw [← hAl,pick_own,pick_tags _ _ hT]
  rw [hp] at hn
  have hT2:List.take T.length (List.map eB (T.map (·.b)))=List.map eB (T.map (·.b)):=List.take_of_length_le (by simp)
  simp only [w454_K0,ofSt,List.length_map];rw [ck_unf w454_B0.eq_1]
  unfold netT
  simp only [Rm.eM,L1,List.map_map] at hn hT2 ⊢
  simp (disch:=omega) [ck_unf w454_c0.eq_1,hn,hT2,wI64,H.inl,inlB,H.pp,ppB]
 | succ n ih =>
  intro j hj l T hc hE hT hv hAl
  have hlt:j < x.length:=by omega
  have hd:x.drop j=x[j]::x.drop (j+1):=List.drop_eq_getElem_cons hlt
  have hn:=hx x[j] (List.getElem_mem hlt)
  have hll:=ck_len hc
  have hTl:T.length=l.length:=by simpa using congrArg List.length hT
  rw [hd] at hE hAl ⊢
  rw [allE] at hE
  rw [allL] at hAl
  rw [allT]
  split at hE
  · rename_i q;exact absurd hE q
  rename_i q
  have hap:apE ks cap l x[j]=0:=by simpa using q
  have hins:=ins_of hap
  have hone:=onen_ok H.toHasNe.toHasOn l x[j] hins hll hn.l
  have hc2:=ap_ck hn hc hap
  have hll2:=ck_len hc2
  have hfl:=fol_len (ks:=ks) (T:=T) hins hT
  have hol:=one_len hins hTl
  have hvd1:=one_vdm hins
  have hvd2:=fol_vdm hins hTl (by omega) hv
  have hf1:=one_f hins hTl
  have hb1:=one_b hins hTl
  rw [hTl] at hf1 hb1
  have hcomp:=Rm.compose_ok H.toHasNe.toHasOn.toHas old (T.map (·.f)) true l.length (oneF x[j] l.length) true
  rw [chk_vdm hv (by omega) (by omega) (by rw [List.length_map];omega),chk_vdm hvd1 (by omega) (by omega) (by omega),if_neg (by simp),if_neg (by simp),if_neg (by rw [List.length_map,hTl];simp),cm_cmp,hf1] at hcomp
  have hnext:=ih (j+1) (by omega) (apL ks l x[j]) (folT T x[j]) hc2 hE (fol_i hins hT) hvd2 hAl
  rw [← hb1] at hnext
  have hin:=of_in H x xe hxl j hlt (T.map (·.b)) (by rw [List.length_map];omega) old (T.map (·.f)) A x.length l.length (oneF x[j] l.length) (by omega) (fun k hk=>by rw [List.length_map,hTl];exact hvd1.1 k hk)
   (insA x[j]) (insM x[j]) (insA_rng hins hll) (insM_rng hn.l) ((folT T x[j]).map (·.f)) hcomp _ hnext (oneF x[j] l.length).length 0 rfl [] (by simp) rfl
  have hmk:(oneF x[j] l.length).length * 2≤35184372088832:=by omega
  simp only [w454_K0,ofSt,List.length_map];rw [ck_unf w454_B0.eq_1]
  simp only [w454_K1,List.length_map,hTl] at hin
  rw [hTl]
  unfold insC at hin hone
  simp only [eNt] at hone
  simp at hin
  simp (disch:=omega) [hlt,hone,hmk,wI64,H.inl,inlB,H.pp,ppB]
  exact hin
def tag0 (l:List En):List Tg:=l.zipIdx.map fun p=>⟨p.2,false,p.1.i⟩
theorem tag0_i (l:List En):(tag0 l).map (·.i)=l.map (·.i):=by
 unfold tag0
 rw [List.map_map]
 have:∀ (l:List En) (k:Nat),(l.zipIdx k).map ((fun t:Tg=>t.i) ∘ fun p:En × Nat=>⟨p.2,false,p.1.i⟩)=l.map (·.i):=by
  intro l
  induction l with
  | nil=>intro k;rfl
  | cons a r ih=>intro k;simp only [List.zipIdx_cons,List.map_cons,ih];rfl
 exact this l 0
theorem tag0_b (l:List En):(tag0 l).map (·.b)=List.replicate l.length false:=by
 unfold tag0
 rw [List.map_map]
 refine List.eq_replicate_iff.2 ⟨by simp,fun b hb=>?_⟩
 obtain ⟨p,_,rfl⟩:=List.mem_map.1 hb
 rfl
theorem tag0_f (l:List En):(tag0 l).map (·.f)=idx l.length:=by
 unfold tag0 idx
 refine List.ext_getElem? fun j=>?_
 rw [List.map_map,List.getElem?_map,List.getElem?_map,List.getElem?_zipIdx]
 by_cases h:j < l.length
 · rw [List.getElem?_eq_getElem h,List.getElem?_range h]
   simp
 · rw [List.getElem?_eq_none (by omega),List.getElem?_eq_none (by simp;omega)]
   rfl
def ofA (ks:List Kd) (cap:Int) (l:List En) (x:List Nt):AV :=
 if ckE ks cap l≠0 then .tup [.agg (eNet 0 [] true [] true [] true),.int .i64 0,.int .i64 (ckE ks cap l)] else if 32 < (x.length:Int) then .tup [.agg (eNet 0 [] true [] true [] true),.int .i64 0,.int .i64 3]
 else if allE ks cap l x≠0 then .tup [.agg (eNet 0 [] true [] true [] true),.int .i64 (allN ks cap l x),.int .i64 (allE ks cap l x)] else .tup [.agg (netT l.length (allT (tag0 l) x)),.int .i64 x.length,.int .i64 0]
theorem of_ok (H:HasOf C) (ks:List Kd) (ke:Bool) (cap:Int) (hr:RuIn ks) (l:List En) (e:Bool) (hl:l.length≤10000) (hs:∀ e ∈ l,EnIn e) (x:List Nt) (xe:Bool) (hx:∀ n ∈ x,NtIn ks n) (hxl:x.length≤1000) :
 FnW C 454 [aR ks ke cap,aL l e,.ro 5 (x.map eNt) xe]=some (ofA ks cap l x):=by
 have hall:=nall_ok H.toHasAl ks ke cap hr l e hl hs x xe hx hxl
 unfold nallA allA at hall
 rw [fnW_eq H.f454 rfl]
 unfold ofA
 have bad:∀ (a E:Int),E≠0→FnW C 171 [aR ks ke cap,aL l e,.ro 5 (x.map eNt) xe]=some (.tup [.agg [.ro 6 [] true],.int .i64 a,.int .i64 E]) →
  CK C 0 (pureFin w454.res) [] w454.body ⟨argW 0 [aR ks ke cap,aL l e,.ro 5 (x.map eNt) xe] [],[],0⟩=some (.tup [.agg (eNet 0 [] true [] true [] true),.int .i64 a,.int .i64 E]):=by
  intro a E hE h
  simp (disch:=omega) [w454,h,hE,wI64,H.inl,inlB,H.pp,ppB]
 by_cases hc:ckE ks cap l=0
 · rw [if_neg (by simp [hc])] at hall ⊢
   by_cases h32:32 < (x.length:Int)
   · rw [if_pos h32] at hall ⊢
     exact bad _ _ (by simp) hall
   · rw [if_neg h32] at hall ⊢
     by_cases hE:allE ks cap l x=0
     · rw [if_neg (by simp [hE])] at hall ⊢
       have hll:=ck_len hc
       have hrs:=Rm.same_ok H.toHasNe.toHasOn.toHas l.length
       rw [if_neg (by omega),mapR_idx] at hrs
       have hloop:=of_loop H ks cap x xe hx hxl l.length hll ((allL ks l x).map En.own) (fun e he=>by
        obtain ⟨e',he',rfl⟩:=List.mem_map.1 he
        exact (all_in x l hx hs hE e' he').ow) x.length 0 rfl l (tag0 l) hc (by rw [List.drop_zero];exact hE) (tag0_i l) (by rw [tag0_f];exact vdm_idx _) (by rw [List.drop_zero])
       rw [tag0_f,tag0_b,List.drop_zero] at hloop
       have hmk:l.length * 2≤35184372088832:=by omega
       simp only [w454_K0,ofSt,List.length_replicate,Int.natCast_zero,List.map_replicate] at hloop
       simp [Rm.eM,L1] at hrs
       simp at hall
       simp at hloop
       simp (disch:=omega) [w454,hall,hrs,hmk,hloop,wI64,H.inl,inlB,H.pp,ppB]
     · rw [if_pos hE] at hall ⊢
       rw [Nat.zero_add] at hall
       exact bad _ _ hE hall
 · rw [if_pos hc] at hall ⊢
   exact bad _ _ hc hall
end Go.D
end
section
namespace Go.D
open Go Go.Pav Go.Pw P
attribute [-simp] List.getElem_cons_drop
variable {C:WProg}
def sameX:List It→List It→Bool
 | [],[]=>true
 | a::r,b::s=>sameIt a b&&sameX r s
 | _,_=>false
theorem sameX_refl:∀ l:List It,sameX l l=true
 | []=>rfl
 | a::r=>by rw [sameX,sameX_refl r];simp [sameIt]
theorem sameX_len:∀ l m:List It,sameX l m=true→l.length=m.length
 | [],[],_=>rfl
 | [],_::_,h=>by simp [sameX] at h
 | _::_,[],h=>by simp [sameX] at h
 | _::r,_::s,h=>by
  simp only [sameX,Bool.and_eq_true] at h
  simp [sameX_len r s h.2]
structure HasSx (C:WProg):Prop extends HasL C where
 f357:C.fns.get 357=some w357
theorem sall_loop (H:HasSx C) (x y:List It) (xe ye:Bool) (hl:x.length=y.length) (h1:x.length≤1000000) (hx:∀ i ∈ x,i.m.length≤1000000) (hy:∀ i ∈ y,i.m.length≤1000000):∀ n i,n+i=x.length →
 w357_K0 C ⟨[(5,.int .i64 i),(1,.ro 4 (y.map cIt) ye),(0,.ro 4 (x.map cIt) xe)],[],0⟩=some (.int .i64 (if sameX (x.drop i) (y.drop i)=true then 1 else 0)):=by
 intro n
 induction n with
 | zero =>
  intro i hi
  have q1:x.drop i=[]:=List.drop_eq_nil_of_le (by omega)
  have q2:y.drop i=[]:=List.drop_eq_nil_of_le (by omega)
  have h3:¬ i < x.length:=by omega
  simp only [w357_K0];rw [ck_unf w357_B0.eq_1]
  simp [ck_unf w357_c0.eq_1,q1,q2,h3,sameX]
 | succ n ih =>
  intro i hi
  have p1:i < x.length:=by omega
  have p2:i < y.length:=by omega
  have h:=rsame1_ok H.toHasL x[i] y[i] (by have:=hx _ (List.getElem_mem p1);omega) (by have:=hy _ (List.getElem_mem p2);omega)
  have:=ih (i+1) (by omega)
  rw [drop_cons p1,drop_cons p2,sameX]
  simp only [w357_K0] at this ⊢;rw [ck_unf w357_B0.eq_1]
  simp at this
  generalize sameIt x[i] y[i]=b at *
  cases b
  · simp (disch:=omega) [p1,p2,h,wI64,H.inl,inlB,H.pp,ppB]
  · simp (disch:=omega) [p1,p2,h,wI64,H.inl,inlB,H.pp,ppB,this]
theorem sall_ok (H:HasSx C) (x y:List It) (xe ye:Bool) (h1:x.length≤1000000) (h2:y.length≤1000000) (hx:∀ i ∈ x,i.m.length≤1000000) (hy:∀ i ∈ y,i.m.length≤1000000) :
 FnW C 357 [.ro 4 (x.map cIt) xe,.ro 4 (y.map cIt) ye]=some (.int .i64 (if sameX x y=true then 1 else 0)):=by
 rw [fnW_eq H.f357 rfl]
 by_cases hl:x.length=y.length
 · have:=sall_loop H x y xe ye hl h1 hx hy x.length 0 rfl
   simp only [w357_K0] at this
   simp at this
   simp (disch:=omega) [w357,hl,this,wI64,H.inl,inlB,H.pp,ppB]
 · have:sameX x y=false:=by
    cases h:sameX x y with
    | false=>rfl
    | true=>exact absurd (sameX_len x y h) hl
   rw [this]
   simp (disch:=omega) [w357,hl,wI64,H.inl,inlB,H.pp,ppB]
structure Nn where
 o:Int
 f:List Int
 fe:Bool
 b:List Bool
 be:Bool
 x:List It
 xe:Bool
@[simp] def eNn (n:Nn):List AV:=eNet n.o n.f n.fe n.b n.be n.x n.xe
def sameN (a b:Nn):Bool:=decide (a.o=b.o)&&decide (a.f=b.f)&&decide (a.b=b.b)&&sameX a.x b.x
structure NnIn (n:Nn):Prop where
 f:n.f.length≤1000000
 b:n.b.length≤1000000
 x:n.x.length≤1000000
 m:∀ i ∈ n.x,i.m.length≤1000000
structure HasSn (C:WProg):Prop extends HasSx C where
 f182:C.fns.get 182=some w182
theorem sn_loop2 (H:HasSn C) (a b:Nn) (ha:NnIn a) (hb:NnIn b) (hl:a.b.length=b.b.length):∀ n i,n+i=a.b.length →
 w182_K0 C ⟨[(6,.int .i64 i),(3,.ptr 0 0 0),(2,.ptr 1 0 0)],[(0,.cells 4 [eNn b] true true),(1,.cells 4 [eNn a] true true)],2⟩=some (.int .i64 (if a.b.drop i=b.b.drop i∧sameX a.x b.x=true then 1 else 0)):=by
 intro n
 induction n with
 | zero =>
  intro i hi
  have q1:a.b.drop i=[]:=List.drop_eq_nil_of_le (by omega)
  have q2:b.b.drop i=[]:=List.drop_eq_nil_of_le (by omega)
  have h3:¬ i < a.b.length:=by omega
  have h:=sall_ok H.toHasSx a.x b.x a.xe b.xe ha.x hb.x ha.m hb.m
  simp only [w182_K0];rw [ck_unf w182_B0.eq_1]
  generalize sameX a.x b.x=c at *
  simp [ck_unf w182_c0.eq_1,q1,q2,h3,h,H.inl,inlB,H.pp,ppB]
 | succ n ih =>
  intro i hi
  have p1:i < a.b.length:=by omega
  have hq:=ha.b
  have p2:i < b.b.length:=by omega
  have:=ih (i+1) (by omega)
  rw [drop_cons p1,drop_cons p2]
  simp only [w182_K0] at this ⊢;rw [ck_unf w182_B0.eq_1]
  simp at this
  by_cases c:a.b[i]=b.b[i]
  · simp (disch:=omega) [p1,p2,c,wI64,H.inl,inlB,H.pp,ppB,this]
  · simp (disch:=omega) [p1,p2,c,wI64,H.inl,inlB,H.pp,ppB]
theorem sn_loop1 (H:HasSn C) (a b:Nn) (ha:NnIn a) (hb:NnIn b) (hl:a.b.length=b.b.length) (hf:a.f.length=b.f.length):∀ n i,n+i=a.f.length →
 w182_K1 C ⟨[(5,.int .i64 i),(3,.ptr 0 0 0),(2,.ptr 1 0 0)],[(0,.cells 4 [eNn b] true true),(1,.cells 4 [eNn a] true true)],2⟩=some (.int .i64 (if a.f.drop i=b.f.drop i∧a.b=b.b∧sameX a.x b.x=true then 1 else 0)):=by
 intro n
 induction n with
 | zero =>
  intro i hi
  have q1:a.f.drop i=[]:=List.drop_eq_nil_of_le (by omega)
  have q2:b.f.drop i=[]:=List.drop_eq_nil_of_le (by omega)
  have h3:¬ i < a.f.length:=by omega
  have h:=sn_loop2 H a b ha hb hl a.b.length 0 rfl
  simp only [w182_K0,List.drop_zero] at h
  simp at h
  simp only [w182_K1];rw [ck_unf w182_B1.eq_1]
  simp [ck_unf w182_c1.eq_1,q1,q2,h3,h,H.inl,inlB,H.pp,ppB]
 | succ n ih =>
  intro i hi
  have p1:i < a.f.length:=by omega
  have hq:=ha.f
  have p2:i < b.f.length:=by omega
  have:=ih (i+1) (by omega)
  rw [drop_cons p1,drop_cons p2]
  simp only [w182_K1] at this ⊢;rw [ck_unf w182_B1.eq_1]
  simp at this
  by_cases c:a.f[i]=b.f[i]
  · simp (disch:=omega) [p1,p2,c,wI64,H.inl,inlB,H.pp,ppB,this]
  · simp (disch:=omega) [p1,p2,c,wI64,H.inl,inlB,H.pp,ppB]
theorem sn_ok (H:HasSn C) (a b:Nn) (ha:NnIn a) (hb:NnIn b):FnW C 182 [.agg (eNn a),.agg (eNn b)]=some (.int .i64 (if sameN a b=true then 1 else 0)):=by
 rw [fnW_eq H.f182 rfl]
 have e:sameN a b=decide (a.o=b.o∧a.f=b.f∧a.b=b.b∧sameX a.x b.x=true):=by
  unfold sameN
  cases sameX a.x b.x <;> simp [Bool.decide_and,Bool.and_assoc]
 rw [e]
 by_cases c1:a.o=b.o
 · by_cases c2:a.f.length=b.f.length
   · by_cases c3:a.b.length=b.b.length
     · have h:=sn_loop1 H a b ha hb c3 c2 a.f.length 0 rfl
       simp only [w182_K1,List.drop_zero] at h
       simp at h
       simp (disch:=omega) [w182,eq_true c1,eq_true c2,eq_true c3,h,wI64,H.inl,inlB,H.pp,ppB]
     · have n1:¬ a.b=b.b:=fun q=>c3 (by rw [q])
       simp (disch:=omega) [w182,eq_true c1,eq_true c2,c3,n1,wI64,H.inl,inlB,H.pp,ppB]
   · have n1:¬ a.f=b.f:=fun q=>c2 (by rw [q])
     simp (disch:=omega) [w182,eq_true c1,c2,n1,wI64,H.inl,inlB,H.pp,ppB]
 · simp (disch:=omega) [w182,c1,wI64,H.inl,inlB,H.pp,ppB]
end Go.D
end
section
namespace Go.D
open Go Go.Pav Go.Pw P
attribute [-simp] List.getElem_cons_drop
variable {C:WProg}
def fitB:List Bool→List Int→Bool
 | b::r,k::s=>(b||decide (0≤k))&&fitB r s
 | _,_=>true
def cntB:List Bool→Nat
 | []=>0
 | b::r=>if b=true then cntB r+1 else cntB r
def chkN (n:Nn):Int:=if Rm.chk n.o n.f≠0 then Rm.chk n.o n.f else if n.b.length≠n.f.length then 1 else if fitB n.b n.f=false then 1 else if cntB n.b≠n.x.length then 1 else 0
structure HasCn (C:WProg):Prop extends Rm.Has C where
 f180:C.fns.get 180=some w180
theorem bcheck_loop (H:HasCn C) (a:Nn) (ha:NnIn a) (hl:a.b.length=a.f.length):∀ n i,n+i=a.b.length→∀ c:Nat,c≤i →
 w180_K0 C ⟨[(24,.int .i64 i),(23,.int .i64 a.b.length),(22,.ro 1 (a.b.map eB) a.be),(4,.int .i64 c),(1,.ptr 0 0 0)],[(0,.cells 4 [eNn a] true true)],1⟩ =
  some (.int .i64 (if fitB (a.b.drop i) (a.f.drop i)=false then 1 else if c+cntB (a.b.drop i)≠a.x.length then 1 else 0)):=by
 intro n
 have hq:=ha.b
 induction n with
 | zero =>
  intro i hi c hc
  have q1:a.b.drop i=[]:=List.drop_eq_nil_of_le (by omega)
  have h3:¬ i < a.b.length:=by omega
  simp only [w180_K0];rw [ck_unf w180_B0.eq_1]
  by_cases h:c=a.x.length
  · simp [ck_unf w180_c0.eq_1,q1,h3,fitB,cntB,eq_true h,H.inl,inlB,H.pp,ppB]
  · simp [ck_unf w180_c0.eq_1,q1,h3,fitB,cntB,h,H.inl,inlB,H.pp,ppB]
 | succ n ih =>
  intro i hi c hc
  have p1:i < a.b.length:=by omega
  have p2:i < a.f.length:=by omega
  rw [drop_cons p1,drop_cons p2,fitB,cntB]
  simp only [w180_K0];rw [ck_unf w180_B0.eq_1]
  by_cases hb:a.b[i]=true
  · have:=ih (i+1) (by omega) (c+1) (by omega)
    have e:c+(cntB (a.b.drop (i+1))+1)=c+1+cntB (a.b.drop (i+1)):=by omega
    rw [hb,Bool.true_or,Bool.true_and,if_pos rfl,e]
    simp only [w180_K0] at this
    simp at this
    simp (disch:=omega) [p1,p2,hb,wI64,H.inl,inlB,H.pp,ppB,this]
  · have hb':a.b[i]=false:=by simpa using hb
    rw [hb',Bool.false_or,if_neg Bool.false_ne_true]
    by_cases hk:a.f[i] < 0
    · have hd:decide (0≤a.f[i])=false:=by simpa using hk
      rw [hd,Bool.false_and,if_pos rfl]
      simp (disch:=omega) [p1,p2,hb',hk,wI64,H.inl,inlB,H.pp,ppB]
    · have hd:decide (0≤a.f[i])=true:=by simpa using hk
      rw [hd,Bool.true_and]
      have:=ih (i+1) (by omega) c (by omega)
      simp only [w180_K0] at this
      simp at this
      simp (disch:=omega) [p1,p2,hb',hk,wI64,H.inl,inlB,H.pp,ppB,this]
theorem bcheck_ok (H:HasCn C) (a:Nn) (ha:NnIn a):FnW C 180 [.agg (eNn a)]=some (.int .i64 (chkN a)):=by
 have hc:=Rm.check_ok H.toHas a.o a.f a.fe
 rw [fnW_eq H.f180 rfl]
 unfold chkN
 simp only [Rm.eM,L1] at hc
 by_cases c1:Rm.chk a.o a.f=0
 · rw [if_neg (by simp [c1])]
   rw [c1] at hc
   by_cases c2:a.b.length=a.f.length
   · rw [if_neg (by simp [c2])]
     have h:=bcheck_loop H a ha c2 a.b.length 0 rfl 0 (by omega)
     simp only [w180_K0,List.drop_zero,Nat.zero_add] at h
     simp at h
     simp (disch:=omega) [w180,hc,eq_true c2,h,wI64,H.inl,inlB,H.pp,ppB]
   · rw [if_pos c2]
     simp (disch:=omega) [w180,hc,c2,wI64,H.inl,inlB,H.pp,ppB]
 · rw [if_pos c1]
   generalize Rm.chk a.o a.f=E at *
   simp (disch:=omega) [w180,hc,c1,wI64,H.inl,inlB,H.pp,ppB]
end Go.D
end
section
namespace Go.D
open Go Go.Pav Go.Pw P
attribute [-simp] List.getElem_cons_drop
variable {C:WProg}
def zE:En:=⟨⟨0,0,[],[],true⟩,0,false⟩
def entE:List Bool→List It→List En
 | [],_=>[]
 | true::r,y::s=>⟨y,0,false⟩::entE r s
 | true::r,[]=>zE::entE r []
 | false::r,x=>zE::entE r x
theorem entE_len:∀ (b:List Bool) (x:List It),(entE b x).length=b.length
 | [],_=>by simp [entE]
 | true::r,y::s=>by simp [entE,entE_len r]
 | true::r,[]=>by simp [entE,entE_len r]
 | false::r,x=>by simp [entE,entE_len r]
theorem entE_mem:∀ (b:List Bool) (x:List It),∀ e ∈ entE b x,e=zE∨∃ y ∈ x,e.i=y
 | [],_,e,h=>by simp [entE] at h
 | true::r,y::s,e,h=>by
  rw [entE] at h
  rcases List.mem_cons.1 h with rfl | h
  · exact .inr ⟨y,by simp,rfl⟩
  · rcases entE_mem r s e h with q | ⟨y',q1,q2⟩
    · exact .inl q
    · exact .inr ⟨y',by simp [q1],q2⟩
 | true::r,[],e,h=>by
  rw [entE] at h
  rcases List.mem_cons.1 h with rfl | h
  · exact .inl rfl
  · exact entE_mem r [] e h
 | false::r,x,e,h=>by
  rw [entE] at h
  rcases List.mem_cons.1 h with rfl | h
  · exact .inl rfl
  · exact entE_mem r x e h
structure HasTn (C:WProg):Prop extends HasCn C,HasNe C where
 f3005:C.fns.get 3005=some w359
 f184:C.fns.get 184=some w184
theorem ent_loop9 (H:HasTn C) (a:Nn) (ha:NnIn a):∀ n i,n+i=a.b.length→∀ (c:Nat) (G:List En),G.length=i→c+cntB (a.b.drop i)=a.x.length →
 ∃ m,CK C 0 (fnEndW [.tmp 2]) [.sq w359_L0,.bk 0 ⟨true,[3],[]⟩,.sq w359_c0] w359_B0
  ⟨[(14,.int .i64 i),(13,.int .i64 a.b.length),(12,.ro 1 (a.b.map eB) a.be),(4,.int .i64 c),(3,.sl 0 6 0 a.b.length a.b.length true),(1,.ptr 1 0 0)],
   [(0,.cells 6 (G.map eEn++List.replicate n [.int .u64 0,.int .u8 0,.str [],.ro 1 [] true,.int .i64 0,.bool false]) true true),(1,.cells 4 [eNn a] true true)],2⟩ =
  some (.sl 0 6 0 a.b.length a.b.length true,[(0,.cells 6 ((G++entE (a.b.drop i) (a.x.drop c)).map eEn) true true)],m):=by
 have hq:=ha.b
 have hq2:=ha.x
 intro n
 induction n with
 | zero =>
  intro i hi c G hG hc
  have q1:a.b.drop i=[]:=List.drop_eq_nil_of_le (by omega)
  have h3:¬ i < a.b.length:=by omega
  refine ⟨3,?_⟩
  rw [ck_unf w359_B0.eq_1]
  rw [q1]
  simp [ck_unf w359_c0.eq_1,h3,entE,H.inl,inlB,H.pp,ppB]
 | succ n ih =>
  intro i hi c G hG hc
  have p1:i < a.b.length:=by omega
  rw [drop_cons p1,cntB] at hc
  rw [drop_cons p1]
  by_cases hb:a.b[i]=true
  · rw [if_pos hb] at hc
    have p2:c < a.x.length:=by omega
    rw [drop_cons p2,hb,entE]
    obtain ⟨m,this⟩:=ih (i+1) (by omega) (c+1) (G++[⟨a.x[c],0,false⟩]) (by simp [hG]) (by omega)
    refine ⟨m,?_⟩
    rw [ck_unf w359_B0.eq_1]
    simp at this
    simp (disch:=omega) [p1,p2,hb,fill_get,fill_set,hG,wI64,H.inl,inlB,H.pp,ppB,this]
  · rw [if_neg hb] at hc
    have hb':a.b[i]=false:=by simpa using hb
    rw [hb',entE]
    obtain ⟨m,this⟩:=ih (i+1) (by omega) c (G++[zE]) (by simp [hG]) (by omega)
    refine ⟨m,?_⟩
    rw [ck_unf w359_B0.eq_1]
    simp [zE] at this
    simp (disch:=omega) [p1,hb',zE,List.replicate_succ,wI64,H.inl,inlB,H.pp,ppB,this]
theorem ent_ok (H:HasTn C) (a:Nn) (ha:NnIn a) (hc:cntB a.b=a.x.length) (nid:Nat) :
 freshCallW (RnW C) 3005 [.agg (eNn a)] nid=some (.sl nid 6 0 a.b.length a.b.length true,[(nid,some (.cells 6 ((entE a.b a.x).map eEn) true true))]):=by
 have h2:a.b.length * 73≤35184372088832:=by have:=ha.b;omega
 obtain ⟨m,h⟩:=ent_loop9 H a ha a.b.length 0 rfl 0 [] rfl (by simpa using hc)
 rw [List.drop_zero,List.drop_zero,List.nil_append] at h
 have hr:∃ m,RnW C 3005 [.agg (eNn a)] [] 0=some (.sl 0 6 0 a.b.length a.b.length true,[(0,.cells 6 ((entE a.b a.x).map eEn) true true)],m):=by
  refine ⟨m,?_⟩
  rw [rnW_eq H.f3005 rfl]
  simp at h
  simp (disch:=omega) [w359,h2,h,wI64,H.inl,inlB,H.pp,ppB]
 obtain ⟨m,hr⟩:=hr
 unfold freshCallW
 rw [hr]
 simp [ob,ownOf,Pav.get,freshOfW,hand,om]
def thb (ab:List Bool):List Bool→List Int→List Bool
 | b::r,k::s=>(b||ab[k.toNat]?.getD false)::thb ab r s
 | _,_=>[]
def the (ab:List Bool) (B:List En):List Bool→List Int→List En→List En
 | b::r,k::s,e::x=>(if (!b&&ab[k.toNat]?.getD false)=true then B[k.toNat]?.getD zE else e)::the ab B r s x
 | _,_,_=>[]
def thN (a b:Nn):Nn:=⟨a.o,cm a.f b.f,true,thb a.b b.b b.f,true,(pickI (thb a.b b.b b.f) (the a.b (entE a.b a.x) b.b b.f (entE b.b b.x))).map It.own,true⟩
theorem fitB_get:∀ (b:List Bool) (f:List Int) (i:Nat),fitB b f=true→b[i]?=some false→∀ k,f[i]?=some k→0≤k
 | [],_,i,_,h,_,_=>by simp at h
 | _::_,[],i,_,_,k,h=>by simp at h
 | b::r,k::s,0,h,hb,k',hk=>by
  simp only [List.getElem?_cons_zero,Option.some.injEq] at hb hk
  subst hb;subst hk
  simp only [fitB,Bool.false_or,Bool.and_eq_true,decide_eq_true_eq] at h
  exact h.1
 | b::r,k::s,i+1,h,hb,k',hk=>by
  simp only [fitB,Bool.and_eq_true] at h
  exact fitB_get r s i h.2 (by simpa using hb) k' (by simpa using hk)
theorem chkN_zero {a:Nn} (h:chkN a=0):Rm.chk a.o a.f=0∧a.b.length=a.f.length∧fitB a.b a.f=true∧cntB a.b=a.x.length:=by
 unfold chkN at h
 split at h
 · rename_i q;exact absurd h q
 · rename_i q
   split at h
   · simp at h
   · rename_i q2
     split at h
     · simp at h
     · rename_i q3
       split at h
       · simp at h
       · rename_i q4
         exact ⟨by simpa using q,by simpa using q2,by simpa using q3,by simpa using q4⟩
theorem zE_m:zE.i.m.length≤1000000:=by simp [zE]
theorem ent_m {a:Nn} (ha:NnIn a):∀ e ∈ entE a.b a.x,e.i.m.length≤1000000:=by
 intro e he
 rcases entE_mem _ _ e he with rfl | ⟨y,hy,rfl⟩
 · exact zE_m
 · exact ha.m _ hy
theorem then_loop (H:HasTn C) (a b:Nn) (ha:NnIn a) (hb:NnIn b) (hab:a.b.length=a.f.length) (hbb:b.b.length=b.f.length) (hfit:fitB b.b b.f=true) (hr:∀ k ∈ b.f,k < a.b.length) (F:List Int)
 (X B:List En) (hX:X.length=b.f.length) (hB:B.length=a.b.length) (hXm:∀ e ∈ X,e.i.m.length≤1000000) (hBm:∀ e ∈ B,e.i.m.length≤1000000) (hl:b.f.length≤100000):∀ n i,n+i=b.f.length→∀ (G:List Bool) (Q:List En),G.length=i→Q.length=i→(∀ e ∈ Q,e.i.m.length≤1000000) →
 w184_K0 C ⟨[(64,.int .i64 i),(63,.int .i64 b.f.length),(62,.ro 1 (b.f.map eI) b.fe),(13,.sl 0 1 0 b.f.length b.f.length true),(12,.sl 1 6 0 b.f.length b.f.length true),(11,.sl 2 6 0 a.b.length a.b.length true),(9,.ptr 3 0 0),(4,.ptr 4 0 0),(3,.ptr 5 0 0),(2,.ptr 6 0 0)],
  [(0,.cells 1 (G.map eB++List.replicate n [.bool false]) true true),(1,.cells 6 (Q.map eEn++(X.drop i).map eEn) true true),(2,.cells 6 (B.map eEn) true true),(3,.cells 2 [[.int .i64 a.o,.ro 1 (F.map eI) true]] true true),(4,.cells 4 [[.int .i64 0,.ro 1 [] true,.ro 1 [] true,.ro 4 [] true]] true true),(5,.cells 4 [eNn b] true true),(6,.cells 4 [eNn a] true true)],7⟩ =
  some (.tup [.agg (eNet a.o F true (G++thb a.b (b.b.drop i) (b.f.drop i)) true ((pickI (G++thb a.b (b.b.drop i) (b.f.drop i)) (Q++the a.b B (b.b.drop i) (b.f.drop i) (X.drop i))).map It.own) true),.int .i64 0]):=by
 intro n
 induction n with
 | zero =>
  intro i hi G Q hG hQ hQm
  have q1:b.b.drop i=[]:=List.drop_eq_nil_of_le (by omega)
  have q2:X.drop i=[]:=List.drop_eq_nil_of_le (by omega)
  have h3:¬ i < b.f.length:=by omega
  have hlG:G.length=b.f.length:=by omega
  have hlQ:Q.length=b.f.length:=by omega
  have hn:=net_ok H.toHasNe a.o F true G true Q true (by omega) (by omega) hQm
  have hT1:List.take b.f.length (List.map eB G)=List.map eB G:=List.take_of_length_le (by simp;omega)
  have hT2:List.take b.f.length (List.map eEn Q)=List.map eEn Q:=List.take_of_length_le (by simp;omega)
  rw [q1,q2]
  simp only [Rm.eM,L1] at hn
  simp at hn
  simp only [w184_K0];rw [ck_unf w184_B0.eq_1]
  simp (disch:=omega) [ck_unf w184_c0.eq_1,h3,hn,hT1,hT2,hlG,hlQ,thb,the,wI64,H.inl,inlB,H.pp,ppB]
 | succ n ih =>
  intro i hi G Q hG hQ hQm
  have p1:i < b.b.length:=by omega
  have p2:i < b.f.length:=by omega
  have p3:i < X.length:=by omega
  have hQl:(List.map eEn Q).length=i:=by simpa using hQ
  have hGl:(List.map eB G).length=i:=by simpa using hG
  have hrs:(List.replicate (n+1) [AV.bool false]).set 0 [AV.bool true]=[AV.bool true]::List.replicate n [AV.bool false]:=rfl
  rw [drop_cons p1,drop_cons p2,drop_cons p3,thb,the]
  simp only [w184_K0];rw [ck_unf w184_B0.eq_1]
  by_cases hb1:b.b[i]=true
  · have:=ih (i+1) (by omega) (G++[true]) (Q++[X[i]]) (by simp [hG]) (by simp [hQ]) (by
     intro e he
     rcases List.mem_append.1 he with he | he
     · exact hQm e he
     · simp only [List.mem_singleton] at he;subst he;exact hXm _ (List.getElem_mem p3))
    rw [hb1]
    simp only [w184_K0] at this
    simp at this
    simp (disch:=omega) [p1,p2,hb1,fill_get,fill_set,hrs,hG,wI64,H.inl,inlB,H.pp,ppB,this]
  · have hb2:b.b[i]=false:=by simpa using hb1
    have hk0:=fitB_get b.b b.f i hfit (by rw [List.getElem?_eq_getElem p1,hb2]) b.f[i] (List.getElem?_eq_getElem p2)
    have hk1:=hr b.f[i] (List.getElem_mem p2)
    obtain ⟨q,hq⟩:∃ q:Nat,b.f[i]=q:=⟨b.f[i].toNat,by omega⟩
    have hq1:q < a.b.length:=by omega
    have hq2:q < B.length:=by omega
    have e1:a.b[b.f[i].toNat]?.getD false=a.b[q]:=by rw [hq,Int.toNat_natCast,List.getElem?_eq_getElem hq1];rfl
    have e2:B[b.f[i].toNat]?.getD zE=B[q]:=by rw [hq,Int.toNat_natCast,List.getElem?_eq_getElem hq2];rfl
    rw [e1,e2,hb2]
    by_cases ha1:a.b[q]=true
    · have:=ih (i+1) (by omega) (G++[true]) (Q++[B[q]]) (by simp [hG]) (by simp [hQ]) (by
       intro e he
       rcases List.mem_append.1 he with he | he
       · exact hQm e he
       · simp only [List.mem_singleton] at he;subst he;exact hBm _ (List.getElem_mem hq2))
      simp only [w184_K0] at this
      simp at this
      simp (disch:=omega) [p1,p2,p3,hb2,hq,hq1,hq2,hB,ha1,fill_get,fill_set,hrs,mid_set hQl,mid_set hGl,mid_get hQl,hG,wI64,H.inl,inlB,H.pp,ppB,this]
    · have ha2:a.b[q]=false:=by simpa using ha1
      have:=ih (i+1) (by omega) (G++[false]) (Q++[X[i]]) (by simp [hG]) (by simp [hQ]) (by
       intro e he
       rcases List.mem_append.1 he with he | he
       · exact hQm e he
       · simp only [List.mem_singleton] at he;subst he;exact hXm _ (List.getElem_mem p3))
      simp only [w184_K0] at this
      simp at this
      simp (disch:=omega) [p1,p2,hb2,hq,hq1,ha2,List.replicate_succ,mid_get hGl,mid_set hGl,hG,wI64,H.inl,inlB,H.pp,ppB,this]
def errN (e:Int):AV:=.tup [.agg (eNet 0 [] true [] true [] true),.int .i64 e]
theorem then_ok (H:HasTn C) (a b:Nn) (ha:NnIn a) (hb:NnIn b) (hl:b.f.length≤100000) :
 FnW C 184 [.agg (eNn a),.agg (eNn b)]=some (if chkN a≠0 then errN (chkN a) else if chkN b≠0 then errN (chkN b) else if b.o≠a.f.length then errN 1 else .tup [.agg (eNn (thN a b)),.int .i64 0]):=by
 have k1:=bcheck_ok H.toHasCn a ha
 have k2:=bcheck_ok H.toHasCn b hb
 have hc:=Rm.compose_ok H.toHasCn.toHas a.o a.f a.fe b.o b.f b.fe
 rw [fnW_eq H.f184 rfl]
 simp only [eNn,eNet] at k1 k2
 unfold errN
 by_cases ca:chkN a=0
 · rw [if_neg (by simp [ca])]
   rw [ca] at k1
   by_cases cb:chkN b=0
   · rw [if_neg (by simp [cb])]
     rw [cb] at k2
     by_cases co:b.o=a.f.length
     · rw [if_neg (by simp [co])]
       obtain ⟨a1,a2,a3,a4⟩:=chkN_zero ca
       obtain ⟨b1,b2,b3,b4⟩:=chkN_zero cb
       have hr:=(Rm.chk_zero b1).rng
       rw [a1,b1,if_neg (by simp),if_neg (by simp),if_neg (by simp [co]),cm_cmp] at hc
       have e1:=fun nid=>ent_ok H a ha a4 nid
       have e2:=fun nid=>ent_ok H b hb b4 nid
       have h:=then_loop H a b ha hb a2 b2 b3 (fun k hk=>by have:=hr k hk;omega) (cm a.f b.f) (entE b.b b.x) (entE a.b a.x) (by rw [entE_len,b2]) (by rw [entE_len]) (ent_m hb) (ent_m ha) hl b.f.length 0 rfl [] [] rfl rfl (by simp)
       rw [List.drop_zero,List.drop_zero,List.drop_zero,List.nil_append,List.nil_append] at h
       have hmk:b.f.length * 2≤35184372088832:=by omega
       simp only [eNn,eNet,b2] at e1 e2
       simp only [Rm.eM,L1] at hc
       simp only [w184_K0] at h
       unfold thN
       simp at h hc
       simp (disch:=omega) [w184,ck_unf w184_B1.eq_1,ck_unf w184_c1.eq_1,k1,k2,eq_true co,hc,e1,e2,b2,hmk,h,wI64,H.inl,inlB,H.pp,ppB]
     · rw [if_pos co]
       simp (disch:=omega) [w184,ck_unf w184_B1.eq_1,ck_unf w184_c1.eq_1,k1,k2,co,wI64,H.inl,inlB,H.pp,ppB]
   · rw [if_pos cb]
     generalize chkN b=E at *
     simp (disch:=omega) [w184,ck_unf w184_B1.eq_1,k1,k2,cb,wI64,H.inl,inlB,H.pp,ppB]
 · rw [if_pos ca]
   generalize chkN a=E at *
   simp (disch:=omega) [w184,ck_unf w184_B1.eq_1,k1,ca,wI64,H.inl,inlB,H.pp,ppB]
end Go.D
end
section
namespace Go.D
open Go Go.Pav Go.Pw P
def cmpT (U:List Tg) (t:Tg):Tg:=if 0≤t.f then (match U[t.f.toNat]? with
 | some u=>⟨u.f,t.b||u.b,if t.b=true then t.i else u.i⟩
 | none=>t) else t
def compT (U T:List Tg):List Tg:=T.map (cmpT U)
theorem comp_tin (U:List Tg) (x:List It):compT U (tin x)=tin x:=by
 unfold compT tin
 rw [List.map_map]
 refine List.map_congr_left fun y _=>?_
 unfold cmpT
 simp
theorem comp_tch (U:List Tg):∀ (T:List Tg) (x:List It),compT U (tch T x)=tch (compT U T) x
 | _,[]=>by cases ‹List Tg› <;> rfl
 | [],_::_=>rfl
 | t::r,y::s=>by
  have ih:=comp_tch U r s
  unfold compT at ih ⊢
  rw [tch,List.map_cons,List.map_cons,tch,ih]
  congr 1
  unfold cmpT
  simp only
  by_cases h:0≤t.f
  · rw [if_pos h,if_pos h]
    cases U[t.f.toNat]? with
    | none=>rfl
    | some u=>simp
  · rw [if_neg h,if_neg h]
theorem comp_spl (U T:List Tg) (a c:Nat) (X:List Tg):compT U (spl T a c X)=spl (compT U T) a c (compT U X):=spl_map _ _ _ _ _
theorem fol_comp (U T:List Tg) (n:Nt):folT (compT U T) n=compT U (folT T n):=by
 unfold folT
 split
 · rw [comp_spl,comp_tin]
 · split
   · rw [comp_spl];rfl
   · split
     · rw [comp_spl,comp_spl]
       unfold compT
       simp only [List.map_drop,List.map_take,List.map_nil]
     · split
       · rw [comp_spl,comp_tch]
         unfold compT
         simp only [List.map_drop]
       · rw [comp_tin]
theorem all_comp (U:List Tg):∀ (x:List Nt) (T:List Tg),allT (compT U T) x=compT U (allT T x)
 | [],_=>rfl
 | n::r,T=>by rw [allT,allT,fol_comp,all_comp U r]
theorem comp_tag0 (U:List Tg) (M:List En) (h:U.length=M.length):compT U (tag0 M)=U:=by
 unfold compT tag0
 refine List.ext_getElem? fun j=>?_
 rw [List.map_map,List.getElem?_map,List.getElem?_zipIdx]
 by_cases hj:j < M.length
 · rw [List.getElem?_eq_getElem hj,List.getElem?_eq_getElem (by omega)]
   simp only [Option.map_some,Nat.zero_add,Function.comp,cmpT]
   have hj2:j < U.length:=by omega
   rw [if_pos (by omega),Int.toNat_natCast,List.getElem?_eq_getElem hj2]
   simp
 · rw [List.getElem?_eq_none (by omega),List.getElem?_eq_none (by omega)]
   rfl
theorem allT_app:∀ (x y:List Nt) (T:List Tg),allT T (x++y)=allT (allT T x) y
 | [],_,_=>rfl
 | n::r,y,T=>by rw [List.cons_append,allT,allT,allT_app r y]
theorem allE_app (ks:List Kd) (cap:Int):∀ (x y:List Nt) (l:List En),allE ks cap l (x++y)=if allE ks cap l x≠0 then allE ks cap l x else allE ks cap (allL ks l x) y
 | [],y,l=>by simp [allE,allL]
 | n::r,y,l=>by
  rw [List.cons_append,allE,allE,allL,allE_app ks cap r y]
  by_cases h:apE ks cap l n=0
  · have q:¬ (apE ks cap l n≠0):=by simp [h]
    simp only [if_neg q]
  · simp only [if_pos h]
def FitT (T:List Tg):Prop:=∀ t ∈ T,t.f < 0→t.b=true
theorem tch_true:∀ (T:List Tg) (x:List It),∀ t ∈ tch T x,t.b=true
 | _,[],t,h=>by cases ‹List Tg› <;> simp [tch] at h
 | [],_::_,t,h=>by simp [tch] at h
 | u::r,y::s,t,h=>by
  rw [tch] at h
  rcases List.mem_cons.1 h with rfl | h
  · rfl
  · exact tch_true r s t h
theorem tin_true (x:List It):∀ t ∈ tin x,t.b=true:=by
 intro t h
 obtain ⟨y,_,rfl⟩:=List.mem_map.1 h
 rfl
theorem fol_fit {T:List Tg} (h:FitT T) (n:Nt):FitT (folT T n):=by
 intro t ht hf
 unfold folT at ht
 split at ht
 · rcases spl_mem ht with q | q
   · exact h t q hf
   · exact tin_true _ t q
 · split at ht
   · exact h t ((spl_sub _ _ _).subset ht) hf
   · split at ht
     · exact h t ((mov_perm _ _ _ _).mem_iff.1 ht) hf
     · split at ht
       · rcases spl_mem ht with q | q
         · exact h t q hf
         · exact tch_true _ _ t q
       · exact tin_true _ t ht
theorem all_fit:∀ (x:List Nt) (T:List Tg),FitT T→FitT (allT T x)
 | [],_,h=>h
 | n::r,T,h=>all_fit r _ (fol_fit h n)
theorem tag0_fit (l:List En):FitT (tag0 l):=by
 intro t ht hf
 obtain ⟨p,_,rfl⟩:=List.mem_map.1 ht
 simp only at hf
 omega
theorem all_vdm {ks:List Kd} {cap:Int} {old:Int} (ho:0≤old):∀ (x:List Nt) (l:List En) (T:List Tg),allE ks cap l x=0→T.map (·.i)=l.map (·.i)→Vdm old (T.map (·.f))→Vdm old ((allT T x).map (·.f))
 | [],_,_,_,_,h=>h
 | n::r,l,T,hE,hT,h=>by
  rw [allE] at hE
  split at hE
  · rename_i q;exact absurd hE q
  · rename_i q
    have hi:=ins_of (n:=n) (by simpa using q)
    rw [allT]
    exact all_vdm ho r _ _ hE (fol_i hi hT) (fol_vdm hi (by simpa using congrArg List.length hT) ho h)
def netN (old:Int) (T:List Tg):Nn:=⟨old,T.map (·.f),true,T.map (·.b),true,((T.filter (·.b)).map (·.i)).map It.own,true⟩
theorem cntB_tags:∀ T:List Tg,cntB (T.map (·.b))=(T.filter (·.b)).length
 | []=>rfl
 | t::r=>by
  rw [List.map_cons,cntB,cntB_tags r,List.filter_cons]
  cases t.b <;> simp
theorem fitB_tags:∀ T:List Tg,FitT T→fitB (T.map (·.b)) (T.map (·.f))=true
 | [],_=>rfl
 | t::r,h=>by
  rw [List.map_cons,List.map_cons,fitB,fitB_tags r fun u hu=>h u (List.mem_cons_of_mem _ hu),Bool.and_true]
  by_cases q:t.f < 0
  · rw [h t (List.mem_cons_self ..) q];rfl
  · rw [decide_eq_true (by omega:0≤t.f),Bool.or_true]
theorem chk_netN {old:Nat} {T:List Tg} (hf:FitT T) (hv:Vdm old (T.map (·.f))) (ho:old≤4096) (hl:T.length≤4096):chkN (netN old T)=0:=by
 unfold chkN netN
 simp only
 rw [chk_vdm hv (by omega) (by omega) (by rw [List.length_map];omega),if_neg (by simp),List.length_map,List.length_map,if_neg (by simp),fitB_tags T hf,if_neg (by simp),cntB_tags,List.length_map,List.length_map,if_neg (by simp)]
theorem netN_in {old:Int} {T:List Tg} (hl:T.length≤4096) (hm:∀ t ∈ T,t.i.m.length≤1000000):NnIn (netN old T):=by
 unfold netN
 have:=List.length_filter_le (·.b) T
 refine ⟨by simp;omega,by simp;omega,by simp;omega,?_⟩
 intro y hy
 simp only [List.map_map] at hy
 obtain ⟨t,ht,rfl⟩:=List.mem_map.1 hy
 exact hm t (List.mem_filter.1 ht).1
theorem ent_tags:∀ T:List Tg,entE (T.map (·.b)) (((T.filter (·.b)).map (·.i)).map It.own)=T.map fun t=>if t.b=true then ⟨t.i.own,0,false⟩ else zE
 | []=>rfl
 | t::r=>by
  rw [List.map_cons,List.filter_cons,List.map_cons]
  cases h:t.b
  · simp only [Bool.false_eq_true,if_false]
    rw [entE,ent_tags r]
  · simp only [if_true,List.map_cons]
    rw [entE,ent_tags r]
theorem th_tags (U:List Tg):∀ (T:List Tg),FitT T→(∀ t ∈ T,-1≤t.f∧t.f < U.length) →
 cm (U.map (·.f)) (T.map (·.f))=(compT U T).map (·.f)∧thb (U.map (·.b)) (T.map (·.b)) (T.map (·.f))=(compT U T).map (·.b) ∧
 (pickI ((compT U T).map (·.b)) (the (U.map (·.b)) (U.map fun t=>if t.b=true then ⟨t.i.own,0,false⟩ else zE) (T.map (·.b)) (T.map (·.f)) (T.map fun t=>if t.b=true then ⟨t.i.own,0,false⟩ else zE))).map It.own =
  (((compT U T).filter (·.b)).map (·.i)).map It.own
 | [],_,_=>⟨rfl,rfl,rfl⟩
 | t::r,hf,hr=>by
  obtain ⟨i1,i2,i3⟩:=th_tags U r (fun u hu=>hf u (List.mem_cons_of_mem _ hu)) (fun u hu=>hr u (List.mem_cons_of_mem _ hu))
  obtain ⟨r1,r2⟩:=hr t (List.mem_cons_self ..)
  have ft:=hf t (List.mem_cons_self ..)
  unfold compT at i1 i2 i3 ⊢
  unfold cm at i1 ⊢
  simp only [List.map_cons,thb,the,pickI,List.filter_cons]
  by_cases h0:0≤t.f
  · have hq:t.f.toNat < U.length:=by omega
    have hc:cmpT U t=⟨U[t.f.toNat].f,t.b||U[t.f.toNat].b,if t.b=true then t.i else U[t.f.toNat].i⟩:=by
     unfold cmpT;rw [if_pos h0,List.getElem?_eq_getElem hq]
    rw [hc,i1,i2]
    simp only [List.getElem?_map,List.getElem?_eq_getElem hq,Option.map_some,Option.getD_some,if_pos h0]
    refine ⟨by trivial,by trivial,?_⟩
    cases hb:t.b
    · cases hu:U[t.f.toNat].b
      · simp only [Bool.or_self,Bool.false_eq_true,if_false]
        exact i3
      · simp only [Bool.false_or,if_true,Bool.not_false,Bool.and_self,List.map_cons,Bool.false_eq_true,if_false]
        rw [i3]
        rfl
    · simp only [Bool.true_or,if_true,Bool.not_true,Bool.false_and,Bool.false_eq_true,if_false,List.map_cons]
      rw [i3]
      rfl
  · have hb:=ft (by omega)
    have hm:t.f=-1:=by omega
    have hc:cmpT U t=t:=by unfold cmpT;rw [if_neg h0]
    rw [hc,i1,i2,if_neg h0,hb,hm]
    refine ⟨by trivial,by trivial,?_⟩
    simp only [Bool.true_or,if_true,Bool.not_true,Bool.false_and,Bool.false_eq_true,if_false,List.map_cons,hb]
    rw [i3]
    rfl
theorem thN_tags (old old2:Int) (U T:List Tg) (hf:FitT T) (hr:∀ t ∈ T,-1≤t.f∧t.f < U.length):thN (netN old U) (netN old2 T)=netN old (compT U T):=by
 obtain ⟨h1,h2,h3⟩:=th_tags U T hf hr
 unfold thN netN
 simp only [ent_tags,h1,h2,h3]
end Go.D
end
section
namespace Go.D
open Go Go.Pav Go.Pw P
attribute [-simp] List.getElem_cons_drop
variable {C:WProg}
structure HasTl (C:WProg):Prop extends HasOf C,HasSn C,HasTn C,HasBo C where
 f625:C.fns.get 625=some w625
 f620:C.fns.get 620=some w620
abbrev nC (o:Int) (A1 A2 A3:List (List AV)) (b:Bool):AV:=.agg [.int .i64 o,.ro 1 A1 b,.ro 1 A2 b,.ro 4 A3 b]
section walk
variable (H:HasTl C) (hlives:FnW C 166 []=some (.bool true)) (q:List (List AV)) (qe:Bool) (zz:List (List AV)) (ze:Bool) (r:Int) (y:List (List AV)) (ye:Bool) (ks:List Kd) (R:List En) (f:Bool) (x:List Nt) (n:Int) (k:Nat)
 (hlof:FnW C 130 [.agg [.ro 4 q qe,.ro 1 zz ze,.int .u8 r]]=some (.tup [aR ks true 12,aL R f])) (hbof:FnW C 326 [.agg [.ro 5 y ye],aR ks true 12,aL R f]=some (.ro 5 (x.map eNt) false))
 (hx:x.length≤6) (hn:0≤n∧n≤255) (hk:n.tmod ((x.length:Int)+1)=k) (hkl:k≤x.length)
 (o1 t1 e:Int) (A1 A2 A3:List (List AV)) (b1:Bool) (hW:FnW C 454 [aR ks true 12,aL R f,.ro 5 (x.map eNt) false]=some (.tup [nC o1 A1 A2 A3 b1,.int .i64 t1,.int .i64 e]))
 (o2 t2 g:Int) (B1 B2 B3:List (List AV)) (b2:Bool) (hA:∀ fl,FnW C 454 [aR ks true 12,aL R f,.ro 5 ((x.take k).map eNt) fl]=some (.tup [nC o2 B1 B2 B3 b2,.int .i64 t2,.int .i64 g]))
 (L:List (List AV)) (lf:Bool) (t3:Int) (hM:∀ fl,FnW C 171 [aR ks true 12,aL R f,.ro 5 ((x.take k).map eNt) fl]=some (.tup [.agg [.ro 6 L lf],.int .i64 t3,.int .i64 g]))
include H hlives hlof hbof hx hn hk hkl hW hA hM
theorem thw_bad (hg:g≠0) (he:e=g):FnW C 620 [.agg [.ro 4 q qe,.ro 1 zz ze,.int .u8 r],.agg [.ro 5 y ye],.int .u8 n]=some (.bool true):=by
 subst he
 have n1:¬ ((x.length:Int)+1=0):=by omega
 have hT0:List.take x.length (List.map eNt x)=List.map eNt x:=List.take_of_length_le (by simp)
 rw [fnW_eq H.f620 rfl]
 simp only [aR,aL] at hlof hbof hW hA hM
 simp at hA hM
 simp (disch:=omega) [w620,hlof,hbof,hk,hkl,n1,hT0,hW,hA,hM,hg,hlives,wI64,H.inl,inlB,H.pp,ppB]
theorem thw_bad2 (hg:g=0) (he:e≠0) (o4 t4:Int) (C1 C2 C3:List (List AV)) (b4:Bool) (hB:∀ fl,FnW C 454 [aR ks true 12,.agg [.ro 6 L lf],.ro 5 ((x.drop k).map eNt) fl]=some (.tup [nC o4 C1 C2 C3 b4,.int .i64 t4,.int .i64 e])) :
 FnW C 620 [.agg [.ro 4 q qe,.ro 1 zz ze,.int .u8 r],.agg [.ro 5 y ye],.int .u8 n]=some (.bool true):=by
 subst hg
 have n1:¬ ((x.length:Int)+1=0):=by omega
 have hT0:List.take x.length (List.map eNt x)=List.map eNt x:=List.take_of_length_le (by simp)
 rw [fnW_eq H.f620 rfl]
 simp only [aR,aL] at hlof hbof hW hA hM hB
 simp at hA hM hB
 simp (disch:=omega) [w620,hlof,hbof,hk,hkl,n1,hT0,hW,hA,hM,hB,he,hlives,wI64,H.inl,inlB,H.pp,ppB]
theorem thw_good (hg:g=0) (he:e=0) (hb1:b1=true) (o4 t4:Int) (C1 C2 C3:List (List AV)) (b4:Bool) (hB:∀ fl,FnW C 454 [aR ks true 12,.agg [.ro 6 L lf],.ro 5 ((x.drop k).map eNt) fl]=some (.tup [nC o4 C1 C2 C3 b4,.int .i64 t4,.int .i64 e]))
 (hT:FnW C 184 [nC o2 B1 B2 B3 b2,nC o4 C1 C2 C3 b4]=some (.tup [nC o1 A1 A2 A3 true,.int .i64 0])) (hS:FnW C 182 [nC o1 A1 A2 A3 true,nC o1 A1 A2 A3 true]=some (.int .i64 1)) :
 FnW C 620 [.agg [.ro 4 q qe,.ro 1 zz ze,.int .u8 r],.agg [.ro 5 y ye],.int .u8 n]=some (.bool true):=by
 subst hg;subst he;subst hb1
 have n1:¬ ((x.length:Int)+1=0):=by omega
 have hT0:List.take x.length (List.map eNt x)=List.map eNt x:=List.take_of_length_le (by simp)
 have hX:FnW C 625 [nC o1 A1 A2 A3 true]=some (.int .i64 1):=by
  rw [fnW_eq H.f625 rfl]
  simp (disch:=omega) [w625,wI64,H.inl,inlB,H.pp,ppB]
 rw [fnW_eq H.f620 rfl]
 simp only [aR,aL] at hlof hbof hW hA hM hB
 simp at hA hM hB
 simp (disch:=omega) [w620,hlof,hbof,hk,hkl,n1,hT0,hW,hA,hM,hB,hT,hS,hX,hlives,wI64,H.inl,inlB,H.pp,ppB]
end walk
theorem thlaw_ok (H:HasTl C) (hone:∀ q:Q4,QIn q→∃ i:It,FnW C 422 [.agg (eQ q)]=some (eIt i)∧Good i) (hlives:FnW C 166 []=some (.bool true))
 (q:List Q4) (qe:Bool) (hq:∀ x ∈ q,QIn x) (z:List Int) (ze:Bool) (hz:∀ s ∈ z,0≤s∧s≤255) (hzl:z.length < 9223372036854775808) (r:Int) (hr:0≤r∧r≤255)
 (y:List Q5) (ye:Bool) (hy:∀ x ∈ y,Q5In x) (hyl:y.length < 9223372036854775808) (n:Int) (hn:0≤n∧n≤255) :
 FnW C 620 [.agg [.ro 4 (q.map eQ) qe,.ro 1 (z.map eU8) ze,.int .u8 r],.agg [.ro 5 (y.map eQ5) ye],.int .u8 n]=some (.bool true):=by
 obtain ⟨R,f,hof,hl,hg,hnd⟩:=lof_ok H.toHasBo.toHasO5.toHasG hone q qe hq z ze hz hzl r hr
 have hck:=ck_good r hr R (by omega) hg hnd
 have hin:∀ x ∈ R,EnIn x:=fun x hx=>(hg x hx).en
 have hks:=ks_in r hr
 obtain ⟨x,hb,hx,hxl⟩:=bof_ok H.toHasBo (kindsOf r) hks y ye hy hyl R f hin hck
 generalize kindsOf r=ks at *
 have hru:=hks.r
 have hkk:n.tmod ((x.length:Int)+1)=((n.toNat % (x.length+1):Nat):Int):=by
  rw [Int.tmod_eq_emod_of_nonneg hn.1]
  obtain ⟨v,rfl⟩:∃ v:Nat,n=v:=⟨n.toNat,by omega⟩
  simp
 have hkl:n.toNat % (x.length+1)≤x.length:=by have:=Nat.mod_lt n.toNat (show 0 < x.length+1 by omega);omega
 generalize n.toNat % (x.length+1)=k at *
 have hx1:∀ m ∈ x.take k,NtIn ks m:=fun m hm=>hx m (List.mem_of_mem_take hm)
 have hx2:∀ m ∈ x.drop k,NtIn ks m:=fun m hm=>hx m (List.mem_of_mem_drop hm)
 have l1:(x.take k).length≤6:=by rw [List.length_take];omega
 have l2:(x.drop k).length≤6:=by rw [List.length_drop];omega
 have hW:=of_ok H.toHasOf ks true 12 hru R f (by omega) hin x false hx (by omega)
 have hA:=fun fl=>of_ok H.toHasOf ks true 12 hru R f (by omega) hin (x.take k) fl hx1 (by omega)
 have hM:=fun fl=>nall_ok H.toHasOf.toHasAl ks true 12 hru R f (by omega) hin (x.take k) fl hx1 (by omega)
 have hsplit:allE ks 12 R x=if allE ks 12 R (x.take k)≠0 then allE ks 12 R (x.take k) else allE ks 12 (allL ks R (x.take k)) (x.drop k):=by
  rw [← allE_app,List.take_append_drop]
 unfold ofA at hW hA
 unfold nallA allA at hM
 rw [if_neg (by simp [hck]),if_neg (by omega)] at hW
 simp only [if_neg (show ¬ (ckE ks 12 R≠0) by simp [hck]),if_neg (show ¬ (32 < ((x.take k).length:Int)) by omega)] at hA hM
 by_cases h1:allE ks 12 R (x.take k)=0
 · have q1:¬ (allE ks 12 R (x.take k)≠0):=by simp [h1]
   rw [if_neg q1] at hsplit
   simp only [if_neg q1] at hA hM
   have hM2:=all_in (x.take k) R hx1 hin h1
   have hcM:=all_ck (x.take k) R hx1 hck h1
   have hMl:=ck_len hcM
   have hB:=fun fl=>of_ok H.toHasOf ks true 12 hru ((allL ks R (x.take k)).map En.own) true (by rw [List.length_map];omega) (fun e he=>by
    obtain ⟨e',he',rfl⟩:=List.mem_map.1 he
    exact (hM2 e' he').ow) (x.drop k) fl hx2 (by omega)
   obtain ⟨oe,_,_⟩:=allE_own ks 12 (x.drop k) ((allL ks R (x.take k)).map En.own) (allL ks R (x.take k)) (own_two _)
   unfold ofA at hB
   simp only [if_neg (show ¬ (ckE ks 12 ((allL ks R (x.take k)).map En.own)≠0) by simp [(ck_own ks 12 _).2 hcM]),if_neg (show ¬ (32 < ((x.drop k).length:Int)) by omega),oe] at hB
   by_cases h2:allE ks 12 (allL ks R (x.take k)) (x.drop k)=0
   · have q2:¬ (allE ks 12 (allL ks R (x.take k)) (x.drop k)≠0):=by simp [h2]
     simp only [if_neg q2] at hB
     rw [hsplit,if_neg q2] at hW
     have hTi:=all_i (x.take k) R (tag0 R) h1 (tag0_i R)
     have hTl:(allT (tag0 R) (x.take k)).length=(allL ks R (x.take k)).length:=by simpa using congrArg List.length hTi
     have hMo:((allL ks R (x.take k)).map En.own).length=(allL ks R (x.take k)).length:=List.length_map ..
     have hEM:allE ks 12 ((allL ks R (x.take k)).map En.own) (x.drop k)=0:=by rw [oe,h2]
     have v1:=all_vdm (old:=R.length) (by omega) (x.take k) R (tag0 R) h1 (tag0_i R) (by rw [tag0_f];exact vdm_idx _)
     have v2:=all_vdm (old:=((allL ks R (x.take k)).map En.own).length) (by omega) (x.drop k) ((allL ks R (x.take k)).map En.own) (tag0 ((allL ks R (x.take k)).map En.own)) hEM (tag0_i _) (by rw [tag0_f];exact vdm_idx _)
     have hT2i:=all_i (x.drop k) ((allL ks R (x.take k)).map En.own) (tag0 ((allL ks R (x.take k)).map En.own)) hEM (tag0_i _)
     have hcM2:=all_ck (x.drop k) ((allL ks R (x.take k)).map En.own) hx2 ((ck_own ks 12 _).2 hcM) hEM
     have hT2l:(allT (tag0 ((allL ks R (x.take k)).map En.own)) (x.drop k)).length≤1024:=by
      have h:=congrArg List.length hT2i
      have:=ck_len hcM2
      simp only [List.length_map] at h
      omega
     have f1:=all_fit (x.take k) (tag0 R) (tag0_fit R)
     have f2:=all_fit (x.drop k) (tag0 ((allL ks R (x.take k)).map En.own)) (tag0_fit _)
     have hcomp:compT (allT (tag0 R) (x.take k)) (allT (tag0 ((allL ks R (x.take k)).map En.own)) (x.drop k))=allT (tag0 R) x:=by
      rw [← all_comp,comp_tag0 _ _ (by rw [hTl,hMo]),← allT_app,List.take_append_drop]
     have mem:∀ (L:List En) (T:List Tg),T.map (·.i)=L.map (·.i)→(∀ e ∈ L,EnIn e)→∀ t ∈ T,t.i.m.length≤1000000:=by
      intro L T hT hL t ht
      have:t.i ∈ L.map (·.i):=by rw [← hT];exact List.mem_map.2 ⟨t,ht,rfl⟩
      obtain ⟨e,he,hei⟩:=List.mem_map.1 this
      rw [← hei];exact (hL e he).i.m
     have n1:NnIn (netN R.length (allT (tag0 R) (x.take k))):=netN_in (by omega) (mem _ _ hTi hM2)
     have n2:NnIn (netN ((allL ks R (x.take k)).map En.own).length (allT (tag0 ((allL ks R (x.take k)).map En.own)) (x.drop k))):=netN_in (by omega) (mem _ _ hT2i (all_in (x.drop k) _ hx2 (fun e he=>by
      obtain ⟨e',he',rfl⟩:=List.mem_map.1 he
      exact (hM2 e' he').ow) hEM))
     have hth:=then_ok H.toHasTn _ _ n1 n2 (by unfold netN;simp only [List.length_map];omega)
     have c1:=chk_netN (old:=R.length) f1 v1 (by omega) (by omega)
     have c2:=chk_netN (old:=((allL ks R (x.take k)).map En.own).length) f2 v2 (by omega) (by omega)
     have c3:(netN ((allL ks R (x.take k)).map En.own).length (allT (tag0 ((allL ks R (x.take k)).map En.own)) (x.drop k))).o=(netN R.length (allT (tag0 R) (x.take k))).f.length:=by
      unfold netN;simp only [List.length_map];omega
     rw [c1,c2,if_neg (by simp),if_neg (by simp),if_neg (fun h=>h c3),thN_tags _ _ _ _ f2 (fun t ht=>by
      have:=v2.1 t.f (List.mem_map.2 ⟨t,ht,rfl⟩)
      omega),hcomp] at hth
     have hEx:allE ks 12 R x=0:=by rw [hsplit,h2]
     have hTx:=all_i x R (tag0 R) hEx (tag0_i R)
     have hcx:=ck_len (all_ck x R hx hck hEx)
     have hTxl:(allT (tag0 R) x).length≤1024:=by
      have h:=congrArg List.length hTx
      simp only [List.length_map] at h
      omega
     have n3:NnIn (netN R.length (allT (tag0 R) x)):=netN_in (by omega) (mem _ _ hTx (all_in x R hx hin hEx))
     have hS:=sn_ok H.toHasSn _ _ n3 n3
     have e3:sameN (netN R.length (allT (tag0 R) x)) (netN R.length (allT (tag0 R) x))=true:=by
      unfold sameN
      rw [sameX_refl];simp
     rw [e3,if_pos rfl] at hS
     exact thw_good H hlives (q.map eQ) qe (z.map eU8) ze r (y.map eQ5) ye ks R f x n k hof hb hxl hn hkk hkl _ _ _ _ _ _ _ hW _ _ _ _ _ _ _ hA _ _ _ hM rfl rfl rfl _ _ _ _ _ _ hB hth hS
   · simp only [if_pos h2] at hB
     rw [hsplit,if_pos h2] at hW
     exact thw_bad2 H hlives (q.map eQ) qe (z.map eU8) ze r (y.map eQ5) ye ks R f x n k hof hb hxl hn hkk hkl _ _ _ _ _ _ _ hW _ _ _ _ _ _ _ hA _ _ _ hM rfl h2 _ _ _ _ _ _ hB
 · rw [if_pos h1] at hsplit
   simp only [if_pos h1] at hA hM
   rw [hsplit,if_pos h1] at hW
   exact thw_bad H hlives (q.map eQ) qe (z.map eU8) ze r (y.map eQ5) ye ks R f x n k hof hb hxl hn hkk hkl _ _ _ _ _ _ _ hW _ _ _ _ _ _ _ hA _ _ _ hM h1 rfl
end Go.D
end
