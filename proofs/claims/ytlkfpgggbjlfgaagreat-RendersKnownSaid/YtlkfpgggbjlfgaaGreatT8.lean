/- Part of the theory that the claims of this work use: E30, E31. No conditions of its own. -/
import Derived.Test.YtlkfpgggbjlfgaaGreatT7
set_option linter.unusedVariables false
set_option linter.unusedSimpArgs false
set_option maxHeartbeats 4000000
set_option maxRecDepth 10000
section
namespace Go.D
open Go Go.Pav Go.Pw P
attribute [-simp] List.getElem_cons_drop
variable {C:aG}
theorem ajE {x:Int} (h1:0≤x) (h2:x < 65536):IntKind.u16.wrap x=x:=by
 show (if (false&&decide (x % 65536 ≥ 32768))=true then x % 65536 - 65536 else x % 65536)=x
 simp only [Bool.false_and,Bool.false_eq_true,if_false]
 omega
theorem ajz (H:uy C) (hone:∀ q:Q4,QIn q→∃ i:It,FnW C 422 [.agg (eQ q)]=some (eIt i)∧Good i) (hlives:FnW C 128 []=some (.bool true)):∀ n i:Nat,n+i=60 →
 MH C ⟨[(14,.int .i64 i),(13,.ptr 0 0 0)],[(0,.cells 3 [[.sl 1 4 0 6 6 true,.sl 2 1 0 6 6 true,.int .u8 0]] true false),(1,.cells 4 (knQ.map eQ) true true),(2,.cells 1 (knZ.map eU8) true true)],3⟩=some (.bool true):=by
 intro n
 induction n with
 | zero =>
  intro i hi
  have h3:¬ (i:Int) < 60:=by omega
  have h:=akj H hlives
  simp only [MH];rw [aj E8.eq_1]
  simp (disch:=omega) [h3,h]
 | succ n ih =>
  intro i hi
  have h1:(i:Int) < 60:=by omega
  have this:=ih (i+1) (by omega)
  have s1:=af0 H hone hlives 24 i (by omega) (by omega)
  have s2:=af0 H hone hlives (i * 4) i (by omega) (by omega)
  simp only [MH] at this ⊢;rw [aj E8.eq_1]
  simp at this s1 s2
  simp (disch:=omega) [h1,s1,s2,aI,wU8,ajE,H.inl,aB,H.pp,ppB,this]
  done
theorem akV (H:uy C) (hone:∀ q:Q4,QIn q→∃ i:It,FnW C 422 [.agg (eQ q)]=some (eIt i)∧Good i) (hlives:FnW C 128 []=some (.bool true)):CK C 0 (aP [.tmp 0]) [] JX ⟨[],[],0⟩=some (.bool true):=by
 have k:=ajz H hone hlives 60 0 (by omega)
 simp only [MH] at k
 try simp at k
 rw [aj JX.eq_1]
 simp (disch:=omega) [k,aI,H.inl,aB,H.pp,ppB]
abbrev two:List En:=[zE 2305843009213693952,zE 2305843009213693952]
theorem ZM:SzB two:=by
 intro x hx
 simp only [List.mem_cons,List.not_mem_nil,or_false] at hx
 rcases hx with rfl | rfl <;> simp
theorem ajB (H:uy C) (hone:∀ q:Q4,QIn q→∃ i:It,FnW C 422 [.agg (eQ q)]=some (eIt i)∧Good i) (hlives:FnW C 128 []=some (.bool true)):∀ (n:Nat) (v:Int),v+n=3→-1≤v →
 L8 C ⟨[(12,.int .i64 v),(11,.sl 0 6 0 2 2 true)],[(0,.cells 6 (two.map eEn) true true)],1⟩=some (.bool true):=by
 intro n
 induction n with
 | zero =>
  intro v hv hv1
  have h3:¬ v < 3:=by omega
  have h:=akV H hone hlives
  simp only [L8];rw [aj Fz.eq_1]
  simp (disch:=omega) [h3,h]
 | succ n ih =>
  intro v hv hv1
  have h1:v < 3:=by omega
  have this:=ih (v+1) (by omega) (by omega)
  have s1:=PY H.toaaU hlives two true (by simp) ZM (4611686018427387904 - v) (4611686018427387903+v - 1) v (by omega) (by omega) (by omega)
  have s2:=PY H.toaaU hlives [] true (by simp) (fun x hx=>by cases hx) v v (2147483648+v) (by omega) (by omega) (by omega)
  simp only [aL] at s1 s2
  simp only [L8] at this ⊢;rw [aj Fz.eq_1]
  simp at this s1 s2
  simp (disch:=omega) [h1,s1,s2,aI,H.inl,aB,H.pp,ppB,this]
  done
abbrev kr1:List AV:=[.int .u64 0,.int .u8 0,.str [],.ro 1 [] true,.int .i64 1,.bool false]
theorem acr (l:List En) (h0:l.length=1024) (e:Env) (h:aJ) (e66:Pav.get e 66=some (.bool false)) (e68:Pav.get e 68=some (.sl 1 6 0 l.length l.length false)) (e70:Pav.get e 70=some (.sl 46 6 0 1 1 true))
 (g1:Pav.get h 1=some (.cells 6 (l.map eEn) true true)) (g2:Pav.get h 46=some (.cells 6 [kr1] true true)) :
 pW ⟨some 71,some (66,false),.app [.int .u64 0,.int .u8 0,.str [],.ro 1 [] true,.int .i64 0,.bool false] 72 false (.t 68) (.t 70)⟩ e h =
  some (.ro 6 (l.map eEn++[kr1]) false):=by
 have hall:((l.map eEn++[kr1]).all fun e=>e.all flat)=true:=by
  rw [List.all_eq_true]
  intro e he
  rcases List.mem_append.1 he with q | q
  · obtain ⟨x,_,rfl⟩:=List.mem_map.1 q;rfl
  · rw [List.mem_singleton.1 q];rfl
 have hne:(l.map eEn).isEmpty=false:=by
  cases l with
  | nil=>simp at h0
  | cons a r=>rfl
 have hlen:(l.map eEn).length=l.length:=List.length_map ..
 generalize hX:l.map eEn=X at *
 have c1:(X.length+1) * (72+1)≤bP:=by rw [hlen,h0];decide
 simp only [pW,wants,e66,JM,Opd.ev,e68,e70,Option.getD_some,List.length_cons,List.length_nil,Nat.zero_add,Nat.reduceAdd,Bool.false_eq_true,if_false,iZ,g2,if_true,Nat.le_refl,List.drop_zero,List.take_succ_cons,List.take_zero,ob,Ky,g1]
 rw [if_pos ⟨trivial,trivial,trivial,trivial,hlen,trivial,hne,c1,hall⟩]
 rfl
theorem aoC (d:Nat) (g:Option (Nat × Bool)) (op:COp) (l:List aK):List.filterMap (fun x:aK=>x.dst) (⟨some d,g,op⟩::l)=d::List.filterMap (fun x:aK=>x.dst) l:=rfl
theorem aoL:List.filterMap (fun x:aK=>x.dst) []=[]:=rfl
theorem ajU (H:uy C) (hone:∀ q:Q4,QIn q→∃ i:It,FnW C 422 [.agg (eQ q)]=some (eIt i)∧Good i) (hlives:FnW C 128 []=some (.bool true)) (l:List En) (K:KlS C l) :
 CK C 0 (aP [.tmp 0]) [] Nh ⟨[(1,.ptr 0 0 0)],[(0,.cells 1 [[.sl 1 6 0 l.length l.length false]] true false),(1,.cells 6 (l.map eEn) true true)],2⟩=some (.bool true):=by
 obtain ⟨h0,hg,ha,hv,hw,hm,hs⟩:=K
 have k:=ajB H hone hlives 4 (-1) (by omega) (by omega)
 simp only [L8] at k
 try simp at k
 have t1:=yY H.tofU two true (by simp) ZM (n:=0) (by decide +kernel)
 have t2:=yY H.tofU (two++[zE 1]) false (by simp) (by intro x hx;simp only [two,List.cons_append,List.nil_append,List.mem_cons,List.not_mem_nil,or_false] at hx;rcases hx with rfl | rfl | rfl <;> simp) (n:=13) (by decide +kernel)
 have t3:=yY H.tofU [zE 2305843009213693953] true (by simp) (by intro x hx;simp only [List.mem_cons,List.not_mem_nil,or_false] at hx;subst hx;simp) (n:=12) (by decide +kernel)
 have t4:=yY H.tofU [zE 0] true (by simp) (by intro x hx;simp only [List.mem_cons,List.not_mem_nil,or_false] at hx;subst hx;simp) (n:=12) (by decide +kernel)
 have hset:(l.map eEn).set 5 [.int .u64 0,.int .u8 0,.str [],.ro 1 [] true,.int .i64 4503599627370497,.bool false]=(l.set 5 (zE 4503599627370497)).map eEn:=by rw [List.map_set];rfl
 have hget:(l.map eEn)[5]?=some [.int .u64 0,.int .u8 0,.str [],.ro 1 [] true,.int .i64 4503599627370496,.bool false]:=by rw [List.getElem?_map,hg];rfl
 have htk:List.take l.length (l.map eEn)=l.map eEn:=List.take_of_length_le (by simp)
 have htk2:List.take l.length ((l.set 5 (zE 4503599627370497)).map eEn)=(l.set 5 (zE 4503599627370497)).map eEn:=List.take_of_length_le (by simp)
 have hne:¬ l=[]:=by intro q;rw [q] at h0;simp at h0
 have h5:5 < l.length:=by omega
 have hfit:(l.length+1) * 73≤35184372088832:=by omega
 have hl5:l[5]=e0:=by rw [List.getElem?_eq_getElem h5] at hg;exact Option.some.inj hg
 simp only [aL] at ha hv hw hm hs t1 t2 t3 t4
 simp at hm t1 t2 t3 t4
 have hXl:((l.set 5 (zE 4503599627370497)).map eEn).length=l.length:=by simp
 generalize hX:(l.set 5 (zE 4503599627370497)).map eEn=X at *
 rw [aj Nh.eq_1]
 simp (disch:=omega) [ha,hv,hw,hm,hs,t1,t2,t3,t4,hset,hget,htk,htk2,hne,h5,hl5,hfit,k,aI,H.inl,aB,H.pp,ppB]
 rw [ac5 rfl]
 simp (disch:=omega) [ai0,ha,hv,hw,hm,hs,t1,t2,t3,t4,hset,hget,htk,htk2,hne,h5,hl5,hfit,k,aI,H.inl,aB,H.pp,ppB]
 rw [acr l h0 _ _ rfl rfl rfl rfl rfl,abO]
 simp (disch:=omega) [hXl,aoC,aoL,pR,rQ,uJ,ha,hv,hw,hm,hs,t1,t2,t3,t4,hset,hget,htk,htk2,hne,h5,hl5,hfit,k,aI,H.inl,aB,H.pp,ppB]
 done
theorem ajv (H:uy C) (hone:∀ q:Q4,QIn q→∃ i:It,FnW C 422 [.agg (eQ q)]=some (eIt i)∧Good i) (hlives:FnW C 128 []=some (.bool true)):∀ n i:Nat,n+i=1024→1≤i →
 BI C ⟨[(2,.int .i64 i),(1,.ptr 0 0 0)],[(0,.cells 1 [[.sl 1 6 0 i i false]] true false),(1,.cells 6 (List.replicate i (eEn e0)) true true)],2⟩=some (.bool true):=by
 intro n
 induction n with
 | zero =>
  intro i hi h1
  obtain rfl:i=1024:=by omega
  have k:=ajU H hone hlives kl (ajT H.tofU)
  rw [nZ] at k
  unfold kl at k
  rw [List.map_replicate] at k
  generalize hX:List.replicate 1024 (eEn e0)=X at *
  simp only [BI];rw [aj BG.eq_1]
  simp (disch:=omega) [k]
 | succ n ih =>
  intro i hi h1
  have h3:i < 1024:=by omega
  have this:=ih (i+1) (by omega) (by omega)
  have hr:List.replicate (i+1) (eEn e0)=List.replicate i (eEn e0)++[eEn e0]:=List.replicate_succ'
  have hl:(List.replicate i (eEn e0)).length=i:=List.length_replicate
  rw [hr] at this
  generalize hX:List.replicate i (eEn e0)=X at *
  have h4:¬ i+1≤i:=by omega
  have h5:(i+1) * 73≤35184372088832:=by omega
  have h6:i≠0:=by omega
  simp only [BI] at this ⊢;rw [aj BG.eq_1]
  simp at this
  simp (disch:=omega) [h3,h4,h5,h6,hl,aI,H.inl,aB,H.pp,ppB,this]
theorem aiG (H:uy C) (hone:∀ q:Q4,QIn q→∃ i:It,FnW C 422 [.agg (eQ q)]=some (eIt i)∧Good i) (hlives:FnW C 128 []=some (.bool true)) :
 BI C ⟨[(2,.int .i64 0),(1,.ptr 0 0 0)],[(0,.cells 1 [[.ro 6 [] true]] true true)],1⟩=some (.bool true):=by
 have this:=ajv H hone hlives 1023 1 (by omega) (by omega)
 simp only [BI] at this ⊢;rw [aj BG.eq_1]
 simp at this
 simp (disch:=omega) [aI,H.inl,aB,H.pp,ppB,this]
theorem Yr (H:uy C) (hone:∀ q:Q4,QIn q→∃ i:It,FnW C 422 [.agg (eQ q)]=some (eIt i)∧Good i) (hlives:FnW C 128 []=some (.bool true)):FnW C 86 []=some (.bool true):=by
 have k:=aiG H hone hlives
 simp only [BI] at k
 try simp at k
 rw [aF H.f86 rfl]
 simp (disch:=omega) [w86,k,aI,H.inl,aB,H.pp,ppB]
end Go.D
end
