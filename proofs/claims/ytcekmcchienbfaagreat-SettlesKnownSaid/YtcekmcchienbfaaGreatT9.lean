/- Part of the theory that the claims of this work use: S33. No conditions of its own. -/
import Derived.Test.YtcekmcchienbfaaGreatT8
set_option linter.unusedVariables false
set_option linter.unusedSimpArgs false
set_option maxHeartbeats 4000000
set_option maxRecDepth 10000
section
namespace Go.D
open Go Go.Pav Go.Pw P
attribute [-simp] List.getElem_cons_drop
variable {C:aG}
theorem aea {x:Option (List En × Int × Nat)} {o:Int} {n len:Nat} {t:Int} {ks:List (Nat × Bool)} (h:okR x o n len t ks=true):∃ L,x=some (L,o,n)∧L.length=len∧tot L=t∧∀ p ∈ ks,∃ h:p.1 < L.length,L[p.1].kn=p.2:=by
 unfold okR at h
 split at h
 · rename_i L o' n'
   simp only [Bool.and_eq_true,decide_eq_true_eq,List.all_eq_true] at h
   obtain ⟨rfl,rfl,h1,h2,h3⟩:=h
   refine ⟨L,rfl,h1,h2,fun p hp=>?_⟩
   have:=h3 p hp
   split at this
   · rename_i e he
     obtain ⟨hi,rfl⟩:=List.getElem?_eq_some_iff.1 he
     exact ⟨hi,by simpa using this⟩
   · cases this
 · cases h
theorem Nw (x:Int):0≤IntKind.u8.wrap x∧IntKind.u8.wrap x≤255:=by
 have h:IntKind.u8.wrap x=x % 256:=by
  show (if (false&&decide (x % 256 ≥ 128))=true then x % 256 - 256 else x % 256)=x % 256
  simp only [Bool.false_and,Bool.false_eq_true,if_false]
 rw [h]
 have:=Int.emod_nonneg x (show (256:Int)≠0 by omega)
 have:=Int.emod_lt_of_pos x (show (0:Int) < 256 by omega)
 omega
theorem agY (x:Int):0≤IntKind.u16.wrap x∧IntKind.u16.wrap x≤65535:=by
 have h:IntKind.u16.wrap x=x % 65536:=by
  show (if (false&&decide (x % 65536 ≥ 32768))=true then x % 65536 - 65536 else x % 65536)=x % 65536
  simp only [Bool.false_and,Bool.false_eq_true,if_false]
 rw [h]
 have:=Int.emod_nonneg x (show (65536:Int)≠0 by omega)
 have:=Int.emod_lt_of_pos x (show (0:Int) < 65536 by omega)
 omega
theorem anK {l:List En} {k d:Int} (h1:1≤k) (h2:0≤d∧d≤1000) (h3:0≤fJ k 0 l):nN l k d:=⟨by omega,by omega,fun q=>by omega,fun _=>h3⟩
section
variable (H:aao C)
include H
theorem ahy (l:List En) (e:Bool) (hck:ckE ksK 1 l=0) (hen:∀ x ∈ l,qC x) (v ov k d:Int) (hv:1≤v∧v≤2147483648) (ho:0≤ov∧ov≤16) (T:List Ht) (te:Bool) (hT:(Gm 1 T).2=0) (ha:nN l k d) :
 FnW C 174 [.agg (fC v ov),.agg [.ro 6 (l.map eEn) e],.agg [.int .u64 k,.int .i64 d],.ro 2 (T.map eHt) te]=some (stR ((stF ksK T v ov k d 1025 l 0).map fun x=>(x.1.map En.own,x.2))):=by
 have hG:=ab5 hck hen
 have hn:=hG.n
 obtain ⟨t1,t2⟩:=Xg hT
 have hI:SIn ksK 1 v ov l k d T:=⟨amL,hG,t1,by omega,hv,ho,ha⟩
 have htab:=abl H.toSQ.toHl.toZ5.toWS T te (by omega) 1
 have hval:I9 ksK 1 v ov 1=0:=by
  have:=hG.ru
  unfold I9
  rw [this,if_neg (by simp),if_neg (by omega)]
 have hc:=Ju H.toSQ.toHl.toZ5.toJk.toQL.toahE ksK true 1 v ov 1 amL l e (by omega) hG.e k d ha.k0 (T.map eHt) te (Gm 1 T).1 (Gm 1 T).2 htab
 rw [J6 hval hck hT ha] at hc
 have:=BN ksK true 1 v ov 1 k d T te H.toSQ.toHl.toZ5.toJk.toQL l e hI hc
 rw [LC] at this
 exact this
theorem Oc (l:List En) (e:Bool) (hck:ckE ksK 1 l=0) (hen:∀ x ∈ l,qC x) (v ov k d:Int) (hv:1≤v∧v≤2147483648) (ho:0≤ov∧ov≤16) (T:List Ht) (te:Bool) (hT:(Gm 1 T).2=0) (ha:nN l k d) {o:Int} {n len:Nat} {t:Int} {kl:List (Nat × Bool)}
 (h:okR (stF ksK T v ov k d 1025 l 0) o n len t kl=true) :
 ∃ L:List En,FnW C 174 [.agg (fC v ov),.agg [.ro 6 (l.map eEn) e],.agg [.int .u64 k,.int .i64 d],.ro 2 (T.map eHt) te]=some (.tup [.agg [.ro 6 (L.map eEn) true,.int .i64 o,.int .i64 n],.int .i64 0])∧L.length=len ∧
  FnW C 111 [.agg [.ro 6 (L.map eEn) true]]=some (.int .i64 t)∧∀ p ∈ kl,∃ h:p.1 < L.length,L[p.1].kn=p.2:=by
 have h1:=ahy H l e hck hen v ov k d hv ho T te hT ha
 obtain ⟨L,hx,h2,h3,h4⟩:=aea h
 have hg:=Tt (Xg hT).1 1025 l 0 _ (ab5 hck hen) hx
 simp only at hg
 have hn:=hg.n
 rw [hx] at h1
 refine ⟨L.map En.own,h1,by simpa using h2,?_,fun p hp=>?_⟩
 · have:=nH H.toSQ.toHl.toZ5.toJk.toQL.toyc.tojf.tokU (L.map En.own) true (by simp;omega) hg.own.szd.b
   rw [L6,h3] at this
   exact this
 · obtain ⟨q,hq⟩:=h4 p hp
   exact ⟨by simpa using q,by simp only [List.getElem_map];exact hq⟩
theorem agy (hlives:FnW C 178 []=some (.bool true)) (hone:∀ q:Q4,QIn q→∃ i:It,FnW C 422 [.agg (eQ q)]=some (eIt i)∧Good i) :
 ∀ n i:Nat,n+i=100→uo C ⟨[(12,.int .i64 i)],[],0⟩=some (.bool true):=by
 intro n
 induction n with
 | zero =>
  intro i hi
  have h3:¬ ((i:Int) < 100):=by omega
  have h1:=Dn H.toSQ.toHl.toZ5.toJk.toQL.toahE.toDk 0 1 (by omega)
  have e1:anE 0 1=1:=by decide
  rw [e1] at h1
  have h2:=aiO H.toSQ.toHl.toZ5.toJk.toQL.toQJ.toadU.touJ.toDy.toWq [] true 0 (by simp)
  simp only [aA] at h1
  simp at h2
  simp only [uo];rw [aj Gl.eq_1]
  simp (disch:=omega) [aj VO.eq_1,h1,h2,h3,hlives,aB,H.inl,ak,H.pp,ppB]
 | succ n ih =>
  intro i hi
  have h2:(i:Int) < 100:=by omega
  have this:=ih (i+1) (by omega)
  have w1:=Nw ((i:Int).tmod 3)
  have w2:=Nw ((i:Int).tmod 40)
  have w3:=agY i
  have w4:=Nw ((i:Int) * 7)
  have w5:=Nw ((i:Int).tmod 9)
  have w6:0≤(i:Int) / 8∧(i:Int) / 8≤255:=by omega
  have w7:0≤(i:Int) / 9∧(i:Int) / 9≤255:=by omega
  have hP:=abT H.toSQ hone hlives [⟨1,1,1,0⟩,⟨2,0,2,1⟩,⟨3,2,3,2⟩,⟨4,1,4,3⟩,⟨5,0,5,0⟩,⟨6,1,6,0⟩] true (by
   intro x hx
   simp only [List.mem_cons,List.not_mem_nil,or_false] at hx
   rcases hx with rfl | rfl | rfl | rfl | rfl | rfl <;> exact ⟨by simp,by simp,by simp,by simp⟩) [IntKind.u8.wrap ((i:Int).tmod 3),0,i,0,0,(i:Int) / 9] true (by
   intro x hx
   simp only [List.mem_cons,List.not_mem_nil,or_false] at hx
   rcases hx with rfl | rfl | rfl | rfl | rfl | rfl
   · exact w1
   · omega
   · omega
   · omega
   · omega
   · exact w7) (by simp) i (by omega) (IntKind.u8.wrap ((i:Int).tmod 40)) (IntKind.u16.wrap i) ((i:Int) / 8) w2 w3 w6 [⟨1,i⟩,⟨2,0⟩,⟨3,40⟩,⟨4,IntKind.u8.wrap ((i:Int) * 7)⟩] true (by
   intro x hx
   simp only [List.mem_cons,List.not_mem_nil,or_false] at hx
   rcases hx with rfl | rfl | rfl | rfl
   · exact ⟨by simp,by simp only;omega⟩
   · exact ⟨by simp,by simp⟩
   · exact ⟨by simp,by simp⟩
   · exact ⟨by simp,w4⟩) i (IntKind.u8.wrap ((i:Int).tmod 9)) (by omega) w5
  simp only [List.map_cons,List.map_nil,eQ,eU8,eP2] at hP
  simp only [uo] at this ⊢;rw [aj Gl.eq_1]
  simp at this
  simp (disch:=omega) [h2,this,hP,aB,jZ,wU8,H.inl,ak,H.pp,ppB]
abbrev rC (L:List En) (o:Int) (n:Nat):List AV:=[.ro 6 (L.map eEn) true,.int .i64 o,.int .i64 n]
theorem ami (hplay:uo C ⟨[(12,.int .i64 (0:Nat))],[],0⟩=some (.bool true)) (L0:List En) (o0:Int) (n0:Nat) :
 CK C 0 (aN [.tmp 0]) [] KC ⟨[(6,.ptr 0 0 0),(3,.ptr 1 0 0),(1,.ptr 3 0 0)],[(0,.cells 3 [rC L0 o0 n0] true true),(1,.cells 1 [[.sl 2 6 0 300 300 false]] true false),(2,.cells 6 ((lK 300).map eEn) true true),(3,.cells 5 [fC 5 0] true true)],4⟩=some (.bool true):=by
 obtain ⟨L,h1,h2,h3,h4⟩:=Oc H (lK 300) false aek (abf (by omega)) 1000 16 150 0 (by omega) (by omega) tG true (by decide) (anK (by omega) (by omega) (by decide +kernel)) aro
 obtain ⟨a1,b1⟩:=h4 (132,false) (by simp)
 obtain ⟨a2,b2⟩:=h4 (133,true) (by simp)
 obtain ⟨a3,b3⟩:=h4 (264,true) (by simp)
 obtain ⟨a4,b4⟩:=h4 (265,false) (by simp)
 have hl:=Vt 300
 have hTK:List.take 300 ((lK 300).map eEn)=(lK 300).map eEn:=List.take_of_length_le (by simp [hl])
 have eT:tG.map eHt=[[.int .u64 151,.int .i64 1099511627776]]:=rfl
 rw [eT] at h1
 clear h4
 generalize lK 300=l3 at *
 generalize ksK.map eKd=kz at *
 simp only at a1 a2 a3 a4 b1 b2 b3 b4
 rw [aj KC.eq_1]
 simp only [uo] at hplay
 simp at hplay
 simp (disch:=omega) [h1,hl,hTK,a1,a2,a3,a4,b1,b2,b3,b4,hplay,aB,H.inl,ak,H.pp,ppB]
theorem ajI (hplay:uo C ⟨[(12,.int .i64 (0:Nat))],[],0⟩=some (.bool true)) (L0:List En) (o0:Int) (n0:Nat):∀ n i:Nat,n+i=300→1≤i →
 CV C ⟨[(11,.int .i64 i),(6,.ptr 0 0 0),(3,.ptr 1 0 0),(1,.ptr 3 0 0)],[(0,.cells 3 [rC L0 o0 n0] true true),(1,.cells 1 [[.sl 2 6 0 i i false]] true false),(2,.cells 6 ((lK i).map eEn) true true),(3,.cells 5 [fC 5 0] true true)],4⟩=some (.bool true):=by
 have hend:=ami H hplay L0 o0 n0
 intro n
 induction n with
 | zero =>
  intro i hi h1
  obtain rfl:i=300:=by omega
  generalize lK 300=l3 at *
  generalize ksK.map eKd=kz at *
  simp only [CV];rw [aj BR.eq_1]
  try simp at hend
  simp (disch:=omega) [hend,aB,H.inl,ak,H.pp,ppB]
 | succ n ih =>
  intro i hi h1
  have h2:(i:Int) < 300:=by omega
  have hl:=Vt i
  have hfit:(i+1) * 73≤35184372088832:=by omega
  have this:=ih (i+1) (by omega) (by omega)
  rw [← this,afN]
  have hTK:List.take i ((lK i).map eEn)=(lK i).map eEn:=List.take_of_length_le (by simp [hl])
  clear this ih hend
  generalize lK i=l3 at *
  generalize ksK.map eKd=kz at *
  simp only [CV];rw [aj BR.eq_1]
  simp (disch:=omega) [h2,hl,hfit,hTK,enK,aB,jZ,H.inl,ak,H.pp,ppB]
theorem agc (hplay:uo C ⟨[(12,.int .i64 (0:Nat))],[],0⟩=some (.bool true)) (L0:List En) (o0:Int) (n0:Nat) :
 CV C ⟨[(11,.int .i64 0),(6,.ptr 0 0 0),(3,.ptr 1 0 0),(1,.ptr 2 0 0)],[(0,.cells 3 [rC L0 o0 n0] true true),(1,.cells 1 [[.ro 6 [] true]] true false),(2,.cells 5 [fC 5 0] true true)],3⟩=some (.bool true):=by
 have h:=ajI H hplay L0 o0 n0 299 1 (by omega) (by omega)
 have e1:(lK 1).map eEn=[eEn (enK 0)]:=rfl
 rw [e1] at h
 generalize ksK.map eKd=kz at *
 simp only [CV] at h ⊢;rw [aj BR.eq_1]
 simp [enK] at h
 simp (disch:=omega) [h,aB,jZ,H.inl,ak,H.pp,ppB]
theorem amb (hplay:uo C ⟨[(12,.int .i64 (0:Nat))],[],0⟩=some (.bool true)) :
 CK C 0 (aN [.tmp 0]) [] Vl ⟨[(4,.sl 0 2 0 12 12 false),(3,.ptr 1 0 0),(1,.ptr 3 0 0)],[(0,.cells 2 ((tK 12).map eHt) true true),(1,.cells 1 [[.sl 2 6 0 12 12 false]] true false),(2,.cells 6 ((lK 12).map eEn) true true),(3,.cells 5 [fC 10 0] true true)],4⟩=some (.bool true):=by
 obtain ⟨L1,h1,h2,h3,h4⟩:=Oc H (lK 12) false ac9 (abf (by omega)) 10 0 1 0 (by omega) (by omega) (tK 12) false (by decide +kernel) (anK (by omega) (by omega) (by decide +kernel)) aqU
 obtain ⟨a1,b1⟩:=h4 (9,true) (by simp)
 obtain ⟨a2,b2⟩:=h4 (10,false) (by simp)
 obtain ⟨L2,g1,g2,g3,g4⟩:=Oc H (lK 12) false ac9 (abf (by omega)) 10 0 12 9 (by omega) (by omega) (tK 12) false (by decide +kernel) (anK (by omega) (by omega) (by decide +kernel)) asv
 obtain ⟨a3,b3⟩:=g4 (1,false) (by simp)
 obtain ⟨a4,b4⟩:=g4 (2,true) (by simp)
 have k1:=ahy H (lK 4) false ahN (abf (by omega)) 30 0 1 0 (by omega) (by omega) tB true (by decide +kernel) (anK (by omega) (by omega) (by decide +kernel))
 have hn:stF ksK tB 30 0 1 0 1025 (lK 4) 0=none:=Option.isNone_iff_eq_none.1 asV
 rw [hn] at k1
 obtain ⟨L4,q1,q2,q3,_⟩:=Oc H (lK 4) false ahN (abf (by omega)) 5 0 1 0 (by omega) (by omega) tB true (by decide +kernel) (anK (by omega) (by omega) (by decide +kernel)) ar7
 have hf:=WL H 30
 have hz:=agc H hplay L4 0 1
 have hl:=Vt 12
 have ht:=akK 12
 have hTK:List.take 12 ((lK 12).map eEn)=(lK 12).map eEn:=List.take_of_length_le (by simp [hl])
 have hTT:List.take 12 ((tK 12).map eHt)=(tK 12).map eHt:=List.take_of_length_le (by simp [ht])
 have eT:tB.map eHt=[[.int .u64 1,.int .i64 2305843009213693952],[.int .u64 2,.int .i64 2305843009213693952],[.int .u64 3,.int .i64 2305843009213693952]]:=rfl
 rw [eT] at k1 q1
 clear h4 g4 hn
 generalize lK 12=l12 at *
 generalize lK 4=l4 at *
 generalize tK 12=t12 at *
 generalize ksK.map eKd=kz at *
 simp only at a1 a2 a3 a4 b1 b2 b3 b4
 simp only [Option.map_none,stR] at k1
 rw [aj Vl.eq_1]
 simp only [CV,rC,fC] at hz
 simp at hz
 simp (disch:=omega) [h1,h3,g1,g3,k1,q1,q3,hf,hl,ht,hTK,hTT,a1,a2,a3,a4,b1,b2,b3,b4,hz,aB,H.inl,ak,H.pp,ppB]
theorem ab9 (hlives:FnW C 178 []=some (.bool true)) (hone:∀ q:Q4,QIn q→∃ i:It,FnW C 422 [.agg (eQ q)]=some (eIt i)∧Good i):FnW C 92 []=some (.bool true):=by
 have h:=amb H (agy H hlives hone 100 0 (by omega))
 have e1:lK 12=[enK 0,enK 1,enK 2,enK 3,enK 4,enK 5,enK 6,enK 7,enK 8,enK 9,enK 10,enK 11]:=rfl
 have e2:tK 12=[htK 0,htK 1,htK 2,htK 3,htK 4,htK 5,htK 6,htK 7,htK 8,htK 9,htK 10,htK 11]:=rfl
 rw [e1,e2] at h
 have hf:=WL H 10
 generalize (lK 4).map eEn=l4 at *
 rw [aH H.f92 rfl]
 simp [enK,htK,eHt] at h
 simp (disch:=omega) [w92,aj U2.eq_1,hf,h,aB,jZ,H.inl,ak,H.pp,ppB]
end
end Go.D
end
