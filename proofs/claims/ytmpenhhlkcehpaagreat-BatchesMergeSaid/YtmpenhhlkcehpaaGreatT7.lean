/- Part of the theory that the claims of this work use: E02, E03, E04, E06, E08, G01, N01, N02, N03, D30, D31, D38, N04, N05, N06, N07, N08, N09, D41, D42, D33, N10, N11, N12, M02, M03, M01, M04, M05, M06. No conditions of its own. -/
import Derived.Test.YtmpenhhlkcehpaaGreatT6
set_option linter.unusedVariables false
set_option linter.unusedSimpArgs false
set_option maxHeartbeats 4000000
set_option maxRecDepth 10000
section
namespace Go.D
open Go Go.Pav Go.Pw P
attribute [-simp] List.getElem_cons_drop
variable {C:WProg}
def bdBad (v least over:Int):Prop:=v < 1∨2147483648 < v∨least < 1∨2305843009213693952 < least∨over < 0∨16 < over
instance (v least over:Int):Decidable (bdBad v least over):=by unfold bdBad;infer_instance
end Go.D
end
section
namespace Go.Proofs.YtmpenhhlkcehpaaGreat
open Go.ChangeShapes Go.WideShapes Go.ChangeAt Go.RowKit Go.Pav Go.Pw P Go.D
theorem has_:HasG prog:={ f561:=rfl,f517:=rfl,f557:=rfl,f556:=rfl,f511:=rfl,f510:=rfl,f560:=rfl,f545:=rfl,f578:=rfl,f543:=rfl,f495:=rfl,f516:=rfl,f500:=rfl,inl:=rfl,pp:=rfl,f434:=rfl,f519:=rfl,f518:=rfl,f562:=rfl,f433:=rfl,f282:=rfl,f140:=rfl,f439:=rfl,f581:=rfl,f579:=rfl,f585:=rfl,f549:=rfl,f502:=rfl,f503:=rfl,f548:=rfl,f404:=rfl,f231:=rfl,f594:=rfl,f586:=rfl,f550:=rfl,f505:=rfl,f408:=rfl,f398:=rfl,f424:=rfl,f494:=rfl,f496:=rfl,f497:=rfl,f498:=rfl,f499:=rfl,f544:=rfl,f546:=rfl,f580:=rfl,f512:=rfl,f584:=rfl,f558:=rfl,f559:=rfl,f592:=rfl,f582:=rfl,f583:=rfl,f593:=rfl,f563:=rfl,f520:=rfl,f442:=rfl,f441:=rfl,f547:=rfl,f513:=rfl,f501:=rfl,f425:=rfl,f225:=rfl,f111:=rfl,f227:=rfl,f460:=rfl,f459:=rfl,f340:=rfl,f226:=rfl,f221:=rfl,f400:=rfl,f219:=rfl,f504:=rfl,f407:=rfl,f239:=rfl,f406:=rfl,f240:=rfl,f410:=rfl,f172:=rfl,f112:=rfl,f423:=rfl,f399:=rfl,f230:=rfl,f405:=rfl,f232:=rfl,f115:=rfl,f271:=rfl,f223:=rfl,f532:=rfl,f216:=rfl,f222:=rfl,f409:=rfl,f228:=rfl,f229:=rfl,f110:=rfl,f237:=rfl,f114:=rfl,f241:=rfl,f242:=rfl,f422:=rfl,f270:=rfl,f126:=rfl,f130:=rfl }
theorem ty_four {a:AV} (h:Ty (.slice [.int .u8,.int .u8,.int .u8,.int .u8]) a):∃ (xs:List Q4) (e:Bool),a=.ro 4 (xs.map eQ) e∧∀ s ∈ xs,QIn s:=by
 obtain ⟨es,e,rfl,_,hx⟩:=ty_slice h
 obtain ⟨xs,rfl,hr⟩:=ty_map2 (g:=eQ) (R:=QIn) (fun l q=>by
  obtain ⟨q1,q2⟩:=q
  match l,q1 with
  | [u,v,w,x],_ =>
   obtain ⟨n1,rfl,h1⟩:=ty_u8 (q2 0 _ u rfl rfl)
   obtain ⟨n2,rfl,h2⟩:=ty_u8 (q2 1 _ v rfl rfl)
   obtain ⟨n3,rfl,h3⟩:=ty_u8 (q2 2 _ w rfl rfl)
   obtain ⟨n4,rfl,h4⟩:=ty_u8 (q2 3 _ x rfl rfl)
   exact ⟨⟨n1,n2,n3,n4⟩,rfl,h1,h2,h3,h4⟩) es hx
 exact ⟨xs,e,rfl,hr⟩
theorem ty_bytes2 {a:AV} (h:Ty (.slice [.int .u8]) a):∃ (xs:List Int) (e:Bool),a=.ro 1 (xs.map eU8) e∧(∀ x ∈ xs,0≤x∧x≤255)∧xs.length < 9223372036854775808:=by
 obtain ⟨es,e,rfl,hl,hx⟩:=ty_slice h
 obtain ⟨xs,rfl,hr⟩:=ty_map2 (g:=eU8) (R:=fun x:Int=>0≤x∧x≤255) (fun l q=>by
  obtain ⟨q1,q2⟩:=q
  match l,q1 with
  | [v],_ =>
   obtain ⟨n,rfl,h1⟩:=ty_u8 (q2 0 _ v rfl rfl)
   exact ⟨n,rfl,h1⟩) es hx
 exact ⟨xs,e,rfl,hr,by simpa using hl⟩
end Go.Proofs.YtmpenhhlkcehpaaGreat
end
section
namespace Go.D
open Go Go.Pav Go.Pw P
attribute [-simp] List.getElem_cons_drop
variable {C:WProg}
structure Nt where
 k:Int
 a:Int
 c:Int
 t:Int
 x:List It
 e:Bool
@[simp] def eNt (n:Nt):List AV:=[.int .u8 n.k,.int .i64 n.a,.int .i64 n.c,.int .i64 n.t,.ro 4 (n.x.map cIt) n.e]
def ntE (n:Nt):Int :=
 if n.k < 1∨5 < n.k then 1
 else if n.k=1∨n.k=4 then (if n.c≠0 then 5 else if n.t≠0 then 5 else 0)
 else if n.k=2 then (if n.t≠0 then 5 else if n.x.length≠0 then 5 else 0)
 else if n.k=3 then (if n.x.length≠0 then 5 else 0)
 else (if n.a≠0 then 5 else if n.c≠0 then 5 else if n.t≠0 then 5 else 0)
structure HasNo (C:WProg):Prop extends HasS C where
 f336:C.fns.get 336=some w336
 f457:C.fns.get 457=some w457
 f333:C.fns.get 333=some w333
 f455:C.fns.get 455=some w455
def kdN (s:Bs) (a b c d:Bool) (f:AV):List AV:=[.str s,.bool a,.bool b,.bool c,.bool d,f]
def kdsN:List AV:=kdN [] false false false false .nilf++(kdN [105,110,115,101,114,116] true false false true (.fn 526 [])++(kdN [114,101,109,111,118,101] true true false false (.fn 527 [])++(kdN [109,111,118,101] true true true false (.fn 528 [])++(kdN [99,104,97,110,103,101] true false false true (.fn 529 [])++kdN [114,101,115,101,116] false false false true (.fn 530 [])))))
theorem kindsN_ok (H:HasNo C):FnW C 457 []=some (.agg kdsN):=by
 rw [fnW_eq H.f457 rfl]
 simp [w457,kdsN,kdN]
theorem ncheck_ok (H:HasNo C) (n:Nt):FnW C 336 [.agg (eNt n)]=some (.int .i64 (ntE n)):=by
 have hk:=kindsN_ok H
 simp only [kdsN,kdN,List.cons_append,List.nil_append] at hk
 obtain ⟨k,a,c,t,x,e⟩:=n
 rw [fnW_eq H.f336 rfl]
 unfold ntE
 simp only
 by_cases h1:k < 1
 · rw [if_pos (.inl h1)]
   simp (disch:=omega) [w336,h1,wI64,H.inl,inlB,H.pp,ppB]
 · by_cases h2:5 < k
   · rw [if_pos (.inr h2)]
     simp (disch:=omega) [w336,h1,h2,wI64,H.inl,inlB,H.pp,ppB]
   · rw [if_neg (by omega)]
     have h:k=1∨k=2∨k=3∨k=4∨k=5:=by omega
     rcases h with rfl | rfl | rfl | rfl | rfl
     · by_cases hc:c=0 <;> by_cases ht:t=0 <;> simp (disch:=omega) [w336,hk,hc,ht,wI64,H.inl,inlB,H.pp,ppB]
     · by_cases ht:t=0 <;> by_cases hx:x.length=0 <;> simp (disch:=omega) [w336,hk,ht,hx,wI64,H.inl,inlB,H.pp,ppB]
     · by_cases hx:x.length=0 <;> simp (disch:=omega) [w336,hk,hx,wI64,H.inl,inlB,H.pp,ppB]
     · by_cases hc:c=0 <;> by_cases ht:t=0 <;> simp (disch:=omega) [w336,hk,hc,ht,wI64,H.inl,inlB,H.pp,ppB]
     · by_cases ha:a=0 <;> by_cases hc:c=0 <;> by_cases ht:t=0 <;> simp (disch:=omega) [w336,hk,ha,hc,ht,wI64,H.inl,inlB,H.pp,ppB]
def usN (k:Int):List AV:=if k=1∨k=4 then [.int .i64 1,.int .i64 0,.int .i64 0,.int .i64 1] else if k=2 then [.int .i64 1,.int .i64 1,.int .i64 0,.int .i64 0] else if k=3 then [.int .i64 1,.int .i64 1,.int .i64 1,.int .i64 0] else [.int .i64 0,.int .i64 0,.int .i64 0,.int .i64 1]
theorem uses_ok (H:HasNo C) (k:Int) (h:k=1∨k=2∨k=3∨k=4∨k=5):FnW C 455 [.int .u8 k]=some (.agg (usN k)):=by
 rw [fnW_eq H.f455 rfl]
 rcases h with rfl | rfl | rfl | rfl | rfl <;> simp [w455,usN]
theorem rncheck_ok (H:HasNo C) (n:Nt) (hx:n.x.length≤1000000):FnW C 333 [.agg (eNt n)]=some (.int .i64 (ntE n)):=by
 obtain ⟨k,a,c,t,x,e⟩:=n
 simp only at hx
 rw [fnW_eq H.f333 rfl]
 unfold ntE
 simp only
 by_cases h1:k < 1
 · rw [if_pos (.inl h1)]
   simp (disch:=omega) [w333,h1,wI64,H.inl,inlB,H.pp,ppB]
 · by_cases h2:5 < k
   · rw [if_pos (.inr h2)]
     simp (disch:=omega) [w333,h1,h2,wI64,H.inl,inlB,H.pp,ppB]
   · rw [if_neg (by omega)]
     have h:k=1∨k=2∨k=3∨k=4∨k=5:=by omega
     have hu:=uses_ok H k h
     rcases h with rfl | rfl | rfl | rfl | rfl
     · simp only [usN] at hu
       by_cases hc:c=0 <;> by_cases ht:t=0 <;> simp (disch:=omega) [w333,ck_unf w333_B0.eq_1,ck_unf w333_c0.eq_1,hu,hc,ht,wI64,H.inl,inlB,H.pp,ppB]
     · simp [usN] at hu
       by_cases ht:t=0 <;> by_cases hx:x.length=0 <;> simp (disch:=omega) [w333,ck_unf w333_B0.eq_1,ck_unf w333_c0.eq_1,hu,ht,hx,wI64,H.inl,inlB,H.pp,ppB]
     · simp [usN] at hu
       by_cases hx:x.length=0 <;> simp (disch:=omega) [w333,ck_unf w333_B0.eq_1,ck_unf w333_c0.eq_1,hu,hx,wI64,H.inl,inlB,H.pp,ppB]
     · simp [usN] at hu
       by_cases hc:c=0 <;> by_cases ht:t=0 <;> simp (disch:=omega) [w333,ck_unf w333_B0.eq_1,ck_unf w333_c0.eq_1,hu,hc,ht,wI64,H.inl,inlB,H.pp,ppB]
     · simp [usN] at hu
       by_cases ha:a=0 <;> by_cases hc:c=0 <;> by_cases ht:t=0 <;> simp (disch:=omega) [w333,ck_unf w333_B0.eq_1,ck_unf w333_c0.eq_1,hu,ha,hc,ht,wI64,H.inl,inlB,H.pp,ppB]
structure HasNa (C:WProg):Prop extends HasNo C where
 f343:C.fns.get 343=some w343
 f342:C.fns.get 342=some w342
 f526:C.fns.get 526=some w526
 f527:C.fns.get 527=some w527
 f528:C.fns.get 528=some w528
 f529:C.fns.get 529=some w529
 f530:C.fns.get 530=some w530
def ntF (n:Nt):Nat:=if n.k=1 then 109 else if n.k=2 then 110 else if n.k=3 then 237 else if n.k=4 then 114 else 108
def ntA (n:Nt):List AV:=if n.k=1 then [.int .i64 n.a,.ro 4 (n.x.map cIt) n.e] else if n.k=2 then [.int .i64 n.a,.int .i64 n.c] else if n.k=3 then [.int .i64 n.a,.int .i64 n.c,.int .i64 n.t] else if n.k=4 then [.int .i64 n.a,.ro 4 (n.x.map cIt) n.e] else [.ro 4 (n.x.map cIt) n.e]
theorem napply_bad2 (H:HasNa C) (ks:List Kd) (ke:Bool) (cap:Int) (l:List En) (e:Bool) (n:Nt) (hc:FnW C 223 [aR ks ke cap,aL l e]=some (.int .i64 0)) (hE:ntE n≠0) :
 FnW C 343 [aR ks ke cap,aL l e,.agg (eNt n)]=some (.tup [.agg [.ro 6 [] true],.int .i64 (ntE n)]):=by
 have h:=ncheck_ok H.toHasNo n
 generalize ntE n=E at *
 rw [fnW_eq H.f343 rfl]
 simp only [eNt] at h
 simp (disch:=omega) [w343,hc,h,hE,wI64,H.inl,inlB,H.pp,ppB]
theorem napply_ok (H:HasNa C) (ks:List Kd) (ke:Bool) (cap:Int) (l:List En) (e:Bool) (n:Nt) (hc:FnW C 223 [aR ks ke cap,aL l e]=some (.int .i64 0)) (hE:ntE n=0)
 (L:List (List AV)) (f:Bool) (E:Int) (hf:FnW C (ntF n) (aR ks ke cap::aL l e::ntA n)=some (.tup [.agg [.ro 6 L f],.int .i64 E])) :
 FnW C 343 [aR ks ke cap,aL l e,.agg (eNt n)]=some (.tup [.agg [.ro 6 L f],.int .i64 E]):=by
 have h:=ncheck_ok H.toHasNo n
 have hk:=kindsN_ok H.toHasNo
 have hr:1≤n.k∧n.k≤5:=by
  unfold ntE at hE
  split at hE
  · cases hE
  · omega
 rw [hE] at h
 simp only [kdsN,kdN,List.cons_append,List.nil_append] at hk
 obtain ⟨k,a,c,t,x,xe⟩:=n
 simp only at hr
 simp only [eNt] at h
 have h5:k=1∨k=2∨k=3∨k=4∨k=5:=by omega
 rcases h5 with rfl | rfl | rfl | rfl | rfl
 · simp [ntF,ntA] at hf
   have h2:FnW C 526 [aR ks ke cap,aL l e,.agg (eNt ⟨1,a,c,t,x,xe⟩)]=some (.tup [.agg [.ro 6 L f],.int .i64 E]):=by
    rw [fnW_eq H.f526 rfl]
    simp (disch:=omega) [w526,hf,wI64,H.inl,inlB,H.pp,ppB]
   simp only [eNt] at h2
   rw [fnW_eq H.f343 rfl]
   simp (disch:=omega) [w343,hc,h,hk,h2,wI64,H.inl,inlB,H.pp,ppB]
 · simp [ntF,ntA] at hf
   have h2:FnW C 527 [aR ks ke cap,aL l e,.agg (eNt ⟨2,a,c,t,x,xe⟩)]=some (.tup [.agg [.ro 6 L f],.int .i64 E]):=by
    rw [fnW_eq H.f527 rfl]
    simp (disch:=omega) [w527,hf,wI64,H.inl,inlB,H.pp,ppB]
   simp only [eNt] at h2
   rw [fnW_eq H.f343 rfl]
   simp (disch:=omega) [w343,hc,h,hk,h2,wI64,H.inl,inlB,H.pp,ppB]
 · simp [ntF,ntA] at hf
   have h2:FnW C 528 [aR ks ke cap,aL l e,.agg (eNt ⟨3,a,c,t,x,xe⟩)]=some (.tup [.agg [.ro 6 L f],.int .i64 E]):=by
    rw [fnW_eq H.f528 rfl]
    simp (disch:=omega) [w528,hf,wI64,H.inl,inlB,H.pp,ppB]
   simp only [eNt] at h2
   rw [fnW_eq H.f343 rfl]
   simp (disch:=omega) [w343,hc,h,hk,h2,wI64,H.inl,inlB,H.pp,ppB]
 · simp [ntF,ntA] at hf
   have h2:FnW C 529 [aR ks ke cap,aL l e,.agg (eNt ⟨4,a,c,t,x,xe⟩)]=some (.tup [.agg [.ro 6 L f],.int .i64 E]):=by
    rw [fnW_eq H.f529 rfl]
    simp (disch:=omega) [w529,hf,wI64,H.inl,inlB,H.pp,ppB]
   simp only [eNt] at h2
   rw [fnW_eq H.f343 rfl]
   simp (disch:=omega) [w343,hc,h,hk,h2,wI64,H.inl,inlB,H.pp,ppB]
 · simp [ntF,ntA] at hf
   have h2:FnW C 530 [aR ks ke cap,aL l e,.agg (eNt ⟨5,a,c,t,x,xe⟩)]=some (.tup [.agg [.ro 6 L f],.int .i64 E]):=by
    rw [fnW_eq H.f530 rfl]
    simp (disch:=omega) [w530,hf,wI64,H.inl,inlB,H.pp,ppB]
   simp only [eNt] at h2
   rw [fnW_eq H.f343 rfl]
   simp (disch:=omega) [w343,hc,h,hk,h2,wI64,H.inl,inlB,H.pp,ppB]
def rtF (n:Nt):Nat:=if n.k=1 then 461 else if n.k=2 then 241 else if n.k=3 then 242 else if n.k=4 then 462 else 463
def rtA (R L:AV) (n:Nt):List AV:=if n.k=1 then [R,L,.int .i64 n.a,.ro 4 (n.x.map cIt) n.e] else if n.k=2 then [L,.int .i64 n.a,.int .i64 n.c] else if n.k=3 then [L,.int .i64 n.a,.int .i64 n.c,.int .i64 n.t] else if n.k=4 then [R,L,.int .i64 n.a,.ro 4 (n.x.map cIt) n.e] else [R,.ro 4 (n.x.map cIt) n.e]
theorem ntE_pos (n:Nt) (h:ntE n≠0):0 < ntE n:=by
 unfold ntE at h ⊢
 repeat' split
 all_goals first | omega | simp_all
theorem rnapply_bad (H:HasNa C) (ks:List Kd) (ke:Bool) (cap:Int) (l:List En) (e:Bool) (n:Nt) (hx:n.x.length≤1000000) (hE:ntE n≠0) :
 FnW C 342 [aR ks ke cap,.ro 6 (l.map eEn) e,.agg (eNt n)]=some (.tup [.ro 6 [] true,.int .i64 (ntE n)]):=by
 have h:=rncheck_ok H.toHasNo n hx
 have hp:=ntE_pos n hE
 generalize ntE n=E at *
 rw [fnW_eq H.f342 rfl]
 simp only [eNt] at h
 simp (disch:=omega) [w342,h,hp,hE,wI64,H.inl,inlB,H.pp,ppB]
theorem rnapply_ok (H:HasNa C) (ks:List Kd) (ke:Bool) (cap:Int) (l:List En) (e:Bool) (n:Nt) (hx:n.x.length≤1000000) (hE:ntE n=0)
 (L:List (List AV)) (f:Bool) (E:Int) (hf:FnW C (rtF n) (rtA (aR ks ke cap) (.ro 6 (l.map eEn) e) n)=some (.tup [.ro 6 L f,.int .i64 E])) :
 FnW C 342 [aR ks ke cap,.ro 6 (l.map eEn) e,.agg (eNt n)]=some (.tup [.ro 6 L f,.int .i64 E]):=by
 have h:=rncheck_ok H.toHasNo n hx
 have hr:1≤n.k∧n.k≤5:=by
  unfold ntE at hE
  split at hE
  · cases hE
  · omega
 rw [hE] at h
 obtain ⟨k,a,c,t,x,xe⟩:=n
 simp only at hr
 simp only [eNt] at h
 have h5:k=1∨k=2∨k=3∨k=4∨k=5:=by omega
 rcases h5 with rfl | rfl | rfl | rfl | rfl <;> simp [rtF,rtA] at hf <;> rw [fnW_eq H.f342 rfl] <;>
  simp (disch:=omega) [w342,h,hf,wI64,H.inl,inlB,H.pp,ppB]
theorem spl_in {α:Type} {Q:α→Prop} {l x:List α} (a c:Nat) (hl:∀ y ∈ l,Q y) (hx:∀ y ∈ x,Q y):∀ y ∈ spl l a c x,Q y:=fun y q=>by
 simp only [spl,List.mem_append] at q
 rcases q with (q | q) | q
 · exact hl y (List.mem_of_mem_take q)
 · exact hx y q
 · exact hl y (List.mem_of_mem_drop q)
theorem EnIn.ow {e:En} (h:EnIn e):EnIn e.own:=⟨⟨h.i.k,h.i.t,h.i.m⟩,h.s⟩
theorem do_move (H:HasO C) (ks:List Kd) (ke:Bool) (cap:Int) (hr:RuIn ks) (l:List En) (e:Bool) (hl:l.length≤1000000) (hs:∀ x ∈ l,EnIn x) (ins:Bool) (a c t:Int) (hin:ins=true→inR a c l.length=true∧inR t 0 (l.length - c)=true) :
 FnW C 216 [aR ks ke cap,aL l e,.agg [.bool ins,.int .i64 0,.ro 4 [] true,.nilf,.fn 409 [.rop [.ro 6 (l.map eEn) e],.rop [.int .i64 a],.rop [.int .i64 c],.rop [.int .i64 t]]]] =
  some (if ckE ks cap l≠0 then errL (ckE ks cap l) else if ins=false then errL 4 else outL (spl (spl l a.toNat c.toNat []) t.toNat 0 ((l.take (a.toNat+c.toNat)).drop a.toNat))):=by
 have hc:=lcheck_ok H.toHasK ks ke cap hr l e hl hs
 rw [fnW_eq H.f216 rfl]
 unfold errL
 by_cases c1:ckE ks cap l=0
 · rw [if_neg (by simpa using c1)]
   rw [c1] at hc
   cases ins
   · simp [w216,hc,H.inl,inlB,H.pp,ppB]
   · rw [if_neg (by simp)]
     have hq:=hin rfl
     unfold inR at hq
     simp at hq
     obtain ⟨a',rfl⟩:∃ a':Nat,a=a':=⟨a.toNat,by omega⟩
     obtain ⟨c',rfl⟩:∃ c':Nat,c=c':=⟨c.toNat,by omega⟩
     obtain ⟨t',rfl⟩:∃ t':Nat,t=t':=⟨t.toNat,by omega⟩
     have hac:a'+c'≤l.length:=by omega
     have ht':t'≤l.length - c':=by omega
     have hf:=fresh_ok H.toHasK ks ke cap [] true (by simp) (by simp)
     have hm:=mk409_ok H (.ro 6 [] true) ⟨_,_,rfl⟩ l e a' c' t' hl hac ht'
     simp only [Int.toNat_natCast]
     have hm2:∀ x ∈ spl (spl l a' c' []) t' 0 ((l.take (a'+c')).drop a'),EnIn x :=
      spl_in _ _ (spl_in _ _ hs (by simp)) fun y q=>hs y (List.mem_of_mem_take (List.mem_of_mem_drop q))
     have hlen:=spl_len l [] a' c' hac
     have hlen2:(spl (spl l a' c' []) t' 0 ((l.take (a'+c')).drop a')).length≤1000000:=by
      rw [spl_len _ _ _ _ (by rw [hlen];simp;omega),hlen];simp;omega
     generalize spl (spl l a' c' []) t' 0 ((l.take (a'+c')).drop a')=R at *
     have ho:=own_ok H.toHasL R true hlen2 (fun x q=>(hm2 x q).i.m)
     have ht:=total_ok H.toHasL (R.map En.own) true (by simpa using hlen2) (fun x q=>by
      obtain ⟨y,hy,rfl⟩:=List.mem_map.1 q
      exact (hm2 y hy).ow)
     unfold outL errL
     generalize R.map En.own=R' at *
     simp only [List.map_nil] at hf
     by_cases c2:ovE R'=0
     · rw [c2] at ht
       simp [w216,ck_unf w216_B0.eq_1,ck_unf w216_c0.eq_1,hc,hf,hm,ho,ht,c2,H.inl,inlB,H.pp,ppB]
     · simp [w216,ck_unf w216_B0.eq_1,ck_unf w216_c0.eq_1,hc,hf,hm,ho,ht,c2,H.inl,inlB,H.pp,ppB]
 · rw [if_pos c1]
   simp [w216,hc,c1,H.inl,inlB,H.pp,ppB]
theorem remove_ok (H:HasO C) (ks:List Kd) (ke:Bool) (cap:Int) (hr:RuIn ks) (l:List En) (e:Bool) (hl:l.length≤1000000) (hs:∀ x ∈ l,EnIn x) (a c:Int) :
 FnW C 110 [aR ks ke cap,aL l e,.int .i64 a,.int .i64 c] =
  some (if ckE ks cap l≠0 then errL (ckE ks cap l) else if inR a c l.length=false then errL 4 else outL (spl l a.toNat c.toNat [])):=by
 have h:=do_remove H ks ke cap hr l e hl hs (inR a c l.length) a c id
 have hw:=within_ok H.toHasL a c l.length (by omega)
 rw [fnW_eq H.f110 rfl]
 generalize inR a c l.length=ins at *
 have hR:∃ R n,(if ckE ks cap l≠0 then errL (ckE ks cap l) else if ins=false then errL 4 else outL (spl l a.toNat c.toNat []))=.tup [.agg [.ro 6 R true],.int .i64 n]:=by
  unfold outL errL;split
  · exact ⟨_,_,rfl⟩
  · split
    · exact ⟨_,_,rfl⟩
    · split <;> exact ⟨_,_,rfl⟩
 obtain ⟨R,n,hR⟩:=hR
 rw [hR] at h ⊢
 simp [w110,hw,h,H.inl,inlB,H.pp,ppB]
theorem move_ok (H:HasO C) (ks:List Kd) (ke:Bool) (cap:Int) (hr:RuIn ks) (l:List En) (e:Bool) (hl:l.length≤1000000) (hs:∀ x ∈ l,EnIn x) (a c t:Int) :
 FnW C 237 [aR ks ke cap,aL l e,.int .i64 a,.int .i64 c,.int .i64 t] =
  some (if ckE ks cap l≠0 then errL (ckE ks cap l) else if (inR a c l.length&&inR t 0 (l.length - c))=false then errL 4 else outL (spl (spl l a.toNat c.toNat []) t.toNat 0 ((l.take (a.toNat+c.toNat)).drop a.toNat))):=by
 have h:=do_move H ks ke cap hr l e hl hs (inR a c l.length&&inR t 0 (l.length - c)) a c t (by simp)
 have hw:=within_ok H.toHasL a c l.length (by omega)
 rw [fnW_eq H.f237 rfl]
 have hR:∀ ins,∃ R n,(if ckE ks cap l≠0 then errL (ckE ks cap l) else if ins=false then errL 4 else outL (spl (spl l a.toNat c.toNat []) t.toNat 0 ((l.take (a.toNat+c.toNat)).drop a.toNat)))=.tup [.agg [.ro 6 R true],.int .i64 n]:=by
  intro ins
  unfold outL errL;split
  · exact ⟨_,_,rfl⟩
  · split
    · exact ⟨_,_,rfl⟩
    · split <;> exact ⟨_,_,rfl⟩
 obtain ⟨R,n,hR⟩:=hR (inR a c l.length&&inR t 0 (l.length - c))
 rw [hR] at h ⊢
 cases c1:inR a c l.length
 · rw [c1] at hw h
   simp at h
   simp (disch:=omega) [w237,wI64,hw,h,H.inl,inlB,H.pp,ppB]
 · have hq:=c1
   unfold inR at hq
   simp at hq
   have hw2:=within_ok H.toHasL t 0 (l.length - c) (by omega)
   rw [c1] at hw h
   rw [Bool.true_and] at h
   generalize inR t 0 (l.length - c)=ins at *
   simp (disch:=omega) [w237,wI64,hw,hw2,h,H.inl,inlB,H.pp,ppB]
def keyAt (l:List En) (j:Nat):Int:=((l[j]?).map fun e=>e.i.k).getD 0
def chgE (ks:List Kd) (cap:Int) (l:List En):Nat→List It→Int
 | _,[]=>0
 | j,x::r=>if itOk ks.length x=false then 6 else if keyAt l j≠x.k then 9 else if rndE (kdAt ks x.t).p x cap≠0 then rndE (kdAt ks x.t).p x cap else chgE ks cap l (j+1) r
theorem dochg_loop (H:HasO C) (ks:List Kd) (ke:Bool) (cap:Int) (hr:RuIn ks) (l:List En) (e:Bool) (hl:l.length≤1000000) (hs:∀ x ∈ l,EnIn x) (a:Nat) (x:List It) (xe:Bool) (hx:∀ y ∈ x,ItIn y) (hxl:a+x.length≤l.length)
 (hb:∀ y ∈ x,itOk ks.length y=true→-9223372036854775808≤(kdAt ks y.t).b∧(kdAt ks y.t).b≤9223372036854775807):∀ n i,n+i=x.length→(∀ y ∈ x.take i,itOk ks.length y=true) →
 w216_K0 C ⟨[(34,.int .i64 i),(33,.int .i64 x.length),(32,.ro 4 (x.map cIt) xe),(6,.ptr 0 0 0),(5,.ptr 1 0 0),(3,.ptr 2 0 0)],[(0,.cells 1 [[.ro 6 [] true]] true true),
  (1,.cells 5 [[.bool true,.int .i64 0,.ro 4 (x.map cIt) xe,.fn 228 [.rop [.ro 6 (l.map eEn) e],.rop [.int .i64 a]],.fn 229 [.rop [.ro 6 (l.map eEn) e],.rop [.int .i64 a],.rop [.ro 4 (x.map cIt) xe]]]] true false),(2,.cells 2 [[.ro 9 (ks.map eKd) ke,.int .i64 cap]] true true)],3⟩ =
  some (if chgE ks cap l (a+i) (x.drop i)≠0 then errL (chgE ks cap l (a+i) (x.drop i)) else outL (spl l a x.length (x.map (fre ks)))):=by
 intro n
 induction n with
 | zero =>
  intro i hi hok
  have h1:x.drop i=[]:=List.drop_eq_nil_of_le (by omega)
  have h3:¬ i < x.length:=by omega
  rw [List.take_of_length_le (by omega)] at hok
  have hf:=fresh_ok H.toHasK ks ke cap x xe (by omega) (fun y q=>⟨hx y q,itOk_t (hok y q)⟩)
  have hm:=mk229_ok H (x.map (fre ks)) true x xe (by simp;omega) (by simp) l e a hl (by simpa using hxl)
  have hm2:∀ y ∈ spl l a x.length (x.map (fre ks)),EnIn y:=spl_in _ _ hs fun y q=>by
   obtain ⟨z,hz,rfl⟩:=List.mem_map.1 q
   exact ⟨hx z hz,hb z hz (hok z hz)⟩
  have hlen:=spl_len l (x.map (fre ks)) a x.length hxl
  simp only [List.length_map] at hm hlen
  have hlen2:(spl l a x.length (x.map (fre ks))).length≤1000000:=by rw [hlen];omega
  rw [h1,chgE,if_neg (by simp)]
  generalize spl l a x.length (x.map (fre ks))=R at *
  have ho:=own_ok H.toHasL R true hlen2 (fun x q=>(hm2 x q).i.m)
  have ht:=total_ok H.toHasL (R.map En.own) true (by simpa using hlen2) (fun x q=>by
   obtain ⟨y,hy,rfl⟩:=List.mem_map.1 q
   exact (hm2 y hy).ow)
  unfold outL errL
  generalize R.map En.own=R' at *
  generalize x.map (fre ks)=X at *
  simp only [w216_K0];rw [ck_unf w216_B0.eq_1]
  by_cases c2:ovE R'=0
  · rw [c2] at ht
    simp [ck_unf w216_c0.eq_1,h3,hf,hm,ho,ht,c2,H.inl,inlB,H.pp,ppB]
  · simp [ck_unf w216_c0.eq_1,h3,hf,hm,ho,ht,c2,H.inl,inlB,H.pp,ppB]
 | succ n ih =>
  intro i hi hok
  have h1:i < x.length:=by omega
  have hxi:=hx _ (List.getElem_mem h1)
  have hai:a+i < l.length:=by omega
  have hc:=icheck_ok H.toHasI x[i] ks.length hxi.t
  have hk:=key228_ok H i x[i] l e a (a+i) rfl hl hai
  have hkA:keyAt l (a+i)=l[a+i].i.k:=by unfold keyAt;simp [hai]
  rw [drop_cons h1]
  have hch:chgE ks cap l (a+i) (x[i]::x.drop (i+1))=if itOk ks.length x[i]=false then 6 else if l[a+i].i.k≠x[i].k then 9 else if rndE (kdAt ks x[i].t).p x[i] cap≠0 then rndE (kdAt ks x[i].t).p x[i] cap else chgE ks cap l (a+i+1) (x.drop (i+1)):=by
   rw [chgE,hkA]
  generalize hO:outL (spl l a x.length (x.map (fre ks)))=O at *
  unfold errL
  cases c1:itOk ks.length x[i]
  · rw [c1] at hc
    simp at hc
    rw [hch,c1]
    simp only [w216_K0];rw [ck_unf w216_B0.eq_1]
    simp (disch:=omega) [h1,hc,H.inl,inlB,H.pp,ppB]
  · rw [c1] at hc
    simp at hc
    by_cases c2:l[a+i].i.k=x[i].k
    · rw [if_pos c2] at hk
      have ht:=itOk_t c1
      have hre:=rrender_ok H.toHasK ks ke cap x[i] hxi ht hr
      simp only [aR,eIt] at hre hc hk
      have this:=ih (i+1) (by omega) (fun y q=>by
       rw [List.take_succ_eq_append_getElem h1] at q
       rcases List.mem_append.1 q with q | q
       · exact hok y q
       · simp at q;rw [q];exact c1)
      rw [← Nat.add_assoc] at this
      unfold errL at this
      generalize rndN (kdAt ks x[i].t).p x[i] cap=N at *
      generalize rndE (kdAt ks x[i].t).p x[i] cap=E at *
      by_cases c3:E=0
      · subst c3
        have hV:chgE ks cap l (a+i) (x[i]::x.drop (i+1))=chgE ks cap l (a+i+1) (x.drop (i+1)):=by
         rw [hch,if_neg (by simp [c1]),if_neg (by simpa using c2),if_neg (by simp)]
        rw [hV]
        generalize (if chgE ks cap l (a+i+1) (List.drop (i+1) x)≠0 then AV.tup [aL [] true,.int .i64 (chgE ks cap l (a+i+1) (List.drop (i+1) x))] else O)=Z at *
        simp only [w216_K0] at this ⊢;rw [ck_unf w216_B0.eq_1]
        simp at this
        simp (disch:=omega) [h1,hc,hk,hre,wI64,H.inl,inlB,H.pp,ppB,this]
      · have hV:chgE ks cap l (a+i) (x[i]::x.drop (i+1))=E:=by
         rw [hch,if_neg (by simp [c1]),if_neg (by simpa using c2),if_pos c3]
        rw [hV,if_pos c3]
        simp only [w216_K0];rw [ck_unf w216_B0.eq_1]
        simp (disch:=omega) [h1,hc,hk,hre,c3,H.inl,inlB,H.pp,ppB]
    · rw [if_neg c2] at hk
      simp only [eIt] at hc hk
      have hV:chgE ks cap l (a+i) (x[i]::x.drop (i+1))=9:=by
       rw [hch,if_neg (by simp [c1]),if_pos c2]
      rw [hV,if_pos (by simp)]
      simp only [w216_K0];rw [ck_unf w216_B0.eq_1]
      simp (disch:=omega) [h1,hc,hk,H.inl,inlB,H.pp,ppB]
theorem change_ok (H:HasO C) (ks:List Kd) (ke:Bool) (cap:Int) (hr:RuIn ks) (l:List En) (e:Bool) (hl:l.length≤1000000) (hs:∀ x ∈ l,EnIn x) (a:Int) (x:List It) (xe:Bool) (hxl:x.length≤1000000) (hx:∀ y ∈ x,ItIn y)
 (hb:∀ y ∈ x,itOk ks.length y=true→-9223372036854775808≤(kdAt ks y.t).b∧(kdAt ks y.t).b≤9223372036854775807) :
 FnW C 114 [aR ks ke cap,aL l e,.int .i64 a,.ro 4 (x.map cIt) xe] =
  some (if ckE ks cap l≠0 then errL (ckE ks cap l) else if inR a x.length l.length=false then errL 4 else
   if chgE ks cap l a.toNat x≠0 then errL (chgE ks cap l a.toNat x) else outL (spl l a.toNat x.length (x.map (fre ks)))):=by
 have hc:=lcheck_ok H.toHasK ks ke cap hr l e hl hs
 have hw:=within_ok H.toHasL a x.length l.length (by omega)
 have key:∀ ins,ins=inR a x.length l.length→FnW C 216 [aR ks ke cap,aL l e,.agg [.bool ins,.int .i64 0,.ro 4 (x.map cIt) xe,.fn 228 [.rop [.ro 6 (l.map eEn) e],.rop [.int .i64 a]],.fn 229 [.rop [.ro 6 (l.map eEn) e],.rop [.int .i64 a],.rop [.ro 4 (x.map cIt) xe]]]] =
  some (if ckE ks cap l≠0 then errL (ckE ks cap l) else if ins=false then errL 4 else
   if chgE ks cap l a.toNat x≠0 then errL (chgE ks cap l a.toNat x) else outL (spl l a.toNat x.length (x.map (fre ks)))):=by
  intro ins hins
  rw [fnW_eq H.f216 rfl]
  by_cases c1:ckE ks cap l=0
  · rw [if_neg (by simpa using c1)]
    rw [c1] at hc
    cases ins
    · unfold errL
      simp [w216,hc,H.inl,inlB,H.pp,ppB]
    · rw [if_neg (by simp)]
      have hq:=hins.symm
      unfold inR at hq
      simp at hq
      obtain ⟨a',rfl⟩:∃ a':Nat,a=a':=⟨a.toNat,by omega⟩
      have h:=dochg_loop H ks ke cap hr l e hl hs a' x xe hx (by omega) hb x.length 0 (by simp) (by simp)
      rw [Nat.add_zero,List.drop_zero] at h
      simp only [Int.toNat_natCast]
      generalize (if chgE ks cap l a' x≠0 then errL (chgE ks cap l a' x) else outL (spl l a' x.length (x.map (fre ks))))=Z at *
      simp only [w216_K0] at h
      simp at h
      simp [w216,hc,h,H.inl,inlB,H.pp,ppB]
  · rw [if_pos c1]
    unfold errL
    simp [w216,hc,c1,H.inl,inlB,H.pp,ppB]
 have h:=key _ rfl
 rw [fnW_eq H.f114 rfl]
 generalize inR a x.length l.length=ins at *
 have hR:∃ R n,(if ckE ks cap l≠0 then errL (ckE ks cap l) else if ins=false then errL 4 else
  if chgE ks cap l a.toNat x≠0 then errL (chgE ks cap l a.toNat x) else outL (spl l a.toNat x.length (x.map (fre ks))))=.tup [.agg [.ro 6 R true],.int .i64 n]:=by
  unfold outL errL
  repeat (first | exact ⟨_,_,rfl⟩ | split)
 obtain ⟨R,n,hR⟩:=hR
 rw [hR] at h ⊢
 simp [w114,hw,h,H.inl,inlB,H.pp,ppB]
structure HasU2 (C:WProg):Prop extends HasO C where
 f217:C.fns.get 217=some w217
 f401:C.fns.get 401=some w401
 f220:C.fns.get 220=some w220
 f218:C.fns.get 218=some w218
 f109:C.fns.get 109=some w109
 f108:C.fns.get 108=some w108
theorem ckE_ru {ks:List Kd} {cap:Int} {l:List En} (h:ckE ks cap l=0):ruOk ks cap=true:=by
 unfold ckE at h
 cases c:ruOk ks cap
 · rw [if_pos c] at h;cases h
 · rfl
theorem itOk_2 {n:Int} {x:It} (h:itOk n x=true):itOk2 x=true:=by
 unfold itOk at h;unfold itOk2;simp at h ⊢;exact ⟨⟨h.1.1.1,h.1.2⟩,h.2⟩
theorem rnd14 {ks:List Kd} {cap:Int} (h:ruOk ks cap=true) {x:It} (hx:itOk ks.length x=true) (ht:0≤x.t):rndE (kdAt ks x.t).p x cap=0∨rndE (kdAt ks x.t).p x cap=14:=by
 have h2:=itOk_2 hx
 have h3:=itOk_t hx
 unfold ruOk at h
 simp only [Bool.and_eq_true,decide_eq_true_eq] at h
 unfold rndE
 rw [if_neg (by omega)]
 split
 · exact .inr rfl
 · rw [if_neg (by simp [h2])]
   split
   · exact .inr rfl
   · exact .inl rfl
@[simp] theorem oldRefs_zero:∀ h:WHeap,oldRefs 0 h=[]
 | []=>rfl
 | (b,o)::r=>by rw [oldRefs,if_neg (by omega),oldRefs_zero r]
@[simp] theorem renOld_zero (π:Nat→Option Nat):∀ h:WHeap,renOld 0 π h=some []
 | []=>rfl
 | (b,o)::r=>by rw [renOld,if_neg (by omega),renOld_zero π r]
def DoR (v:AV) (o:Option (AV × WHeap × Nat)):Prop:=∃ h' n',o=some (v,h',n')∧Pav.get h' 0=some (.cells 1 [[.ro 6 [] true]] true true)
def addK (s:List Int) (k:Int):List Int:=if s.contains k=true then s else s++[k]
def seenK (s:List Int):List En→List Int
 | []=>s
 | e::r=>seenK (addK s e.i.k) r
theorem addK_has (s:List Int) (k j:Int):(addK s k).contains j=(s++[k]).contains j:=by
 unfold addK
 split
 · rename_i h
   simp only [List.contains_eq_mem,decide_eq_true_eq] at h
   by_cases c:j=k
   · subst c;simp [h]
   · simp [c]
 · rfl
theorem seenK_has:∀ (l:List En) (s:List Int) (j:Int),(seenK s l).contains j=(s++keysE l).contains j
 | [],s,j=>by rw [seenK];simp [keysE]
 | e::r,s,j=>by
  rw [seenK,seenK_has r]
  have:=addK_has s e.i.k j
  simp only [List.contains_eq_mem,List.mem_append,List.mem_cons,List.not_mem_nil,or_false,decide_eq_decide,keysE,List.map_cons] at this ⊢
  rw [this,or_assoc]
theorem kmap_add (k:Int):∀ s:List Int,mapPut (kmap s) (.int .u64 k) (.bool true)=some (kmap (addK s k)):=by
 intro s
 unfold addK
 cases c:s.contains k
 · rw [if_neg (by simp)];exact kmap_put k s c
 · rw [if_pos rfl]
   induction s with
   | nil=>simp at c
   | cons a r ih =>
    unfold kmap at ih ⊢
    rw [List.map_cons,mapPut]
    simp only [eqCell,if_true,ob]
    by_cases d:k=a
    · subst d;simp
    · have:r.contains k=true:=by simpa [d] using c
      simp [d,ih this,om]
theorem incE_congr (ks:List Kd) (cap:Int):∀ (x:List It) (s t:List Int),(∀ j,s.contains j=t.contains j)→incE ks cap s x=incE ks cap t x
 | [],s,t,_=>rfl
 | x::r,s,t,h=>by
  rw [incE,incE,h,incE_congr ks cap r (s++[x.k]) (t++[x.k]) (fun j=>by
   have:=h j
   simp only [List.contains_eq_mem,List.mem_append,decide_eq_decide] at this ⊢
   rw [this])]
theorem unseen_loop_ins (H:HasU2 C) (l:List En) (e:Bool) (hl:l.length≤1000000):∀ n i,n+i=l.length→∀ s:List Int,
 CK C 25 (fnEndW [.tmp 2]) [.sq w217_L0,.bk 0 ⟨true,[3],[]⟩,.sq w217_c0] w217_B0 ⟨[(9,.int .i64 i),(8,.int .i64 l.length),(7,.ro 6 (l.map eEn) e),(3,.ptr 25 0 0)],[(0,.cells 1 [[.ro 6 [] true]] true true),(25,.cells 1 [[.map 26]] true false),(26,.map (kmap s))],27⟩ =
  some (.fn 401 [.ptr 25 0 0],[(0,.cells 1 [[.ro 6 [] true]] true true),(25,.cells 1 [[.map 26]] true false),(26,.map (kmap (seenK s (l.drop i))))],29):=by
 intro n
 induction n with
 | zero =>
  intro i hi s
  have h1:l.drop i=[]:=List.drop_eq_nil_of_le (by omega)
  have h3:¬ i < l.length:=by omega
  rw [ck_unf w217_B0.eq_1]
  simp (disch:=omega) [ck_unf w217_c0.eq_1,h1,h3,seenK]
 | succ n ih =>
  intro i hi s
  have h1:i < l.length:=by omega
  have hp:=kmap_add l[i].i.k s
  have this:=ih (i+1) (by omega) (addK s l[i].i.k)
  rw [drop_cons h1,seenK]
  rw [ck_unf w217_B0.eq_1]
  simp at this
  simp (disch:=omega) [h1,wI64,hp,this]
theorem unseen_ins (H:HasU2 C) (l:List En) (e:Bool) (hl:l.length≤1000000) :
 RnW C 217 [.ro 6 (l.map eEn) e] [(0,.cells 1 [[.ro 6 [] true]] true true)] 25=some (.fn 401 [.ptr 25 0 0],[(0,.cells 1 [[.ro 6 [] true]] true true),(25,.cells 1 [[.map 26]] true false),(26,.map (kmap (seenK [] l)))],29):=by
 have h:=unseen_loop_ins H l e hl l.length 0 (by simp) []
 rw [List.drop_zero,kmap_nil] at h
 rw [rnW_eq (args:=[.ro 6 (l.map eEn) e]) H.f217 rfl [(0,.cells 1 [[.ro 6 [] true]] true true)] 25]
 simp at h
 simp [w217,h]
theorem doins_loop (H:HasU2 C) (ks:List Kd) (ke:Bool) (cap:Int) (hr:RuIn ks) (hru:ruOk ks cap=true) (l:List En) (e:Bool) (hl:l.length≤1000000) (hs:∀ x ∈ l,EnIn x) (a:Nat) (ha:a≤l.length) (x:List It) (xe:Bool) (hx:∀ y ∈ x,ItIn y) (hxl:x.length≤1000000) (ins:Bool) (cnt:Int)
 (hb:∀ y ∈ x,itOk ks.length y=true→-9223372036854775808≤(kdAt ks y.t).b∧(kdAt ks y.t).b≤9223372036854775807) (hsum:l.length+x.length≤1000000):∀ n i,n+i=x.length→(∀ y ∈ x.take i,itOk ks.length y=true)→∀ s:List Int,
 DoR (if incE ks cap s (x.drop i)≠0 then errL (incE ks cap s (x.drop i)) else outL (spl l a 0 (x.map (fre ks)))) (CK C 29 (fnEndW [.cell 6 1 true,.tmp 7]) [.sq w216_L0,.bk 1 ⟨true,[6,5,3],[]⟩,.sq w216_c0] w216_B0 ⟨[(34,.int .i64 i),(33,.int .i64 x.length),(32,.ro 4 (x.map cIt) xe),(6,.ptr 29 0 0),(5,.ptr 30 0 0),(3,.ptr 31 0 0)],[(0,.cells 1 [[.ro 6 [] true]] true true),(25,.cells 1 [[.map 26]] true false),(26,.map (kmap s)),(29,.cells 1 [[.ro 6 [] true]] true true),
  (30,.cells 5 [[.bool ins,.int .i64 cnt,.ro 4 (x.map cIt) xe,.fn 401 [.ptr 25 0 0],.fn 220 [.rop [.ro 6 (l.map eEn) e],.rop [.int .i64 a]]]] true false),(31,.cells 2 [[.ro 9 (ks.map eKd) ke,.int .i64 cap]] true true)],32⟩):=by
 intro n
 induction n with
 | zero =>
  intro i hi hok s
  have h1:x.drop i=[]:=List.drop_eq_nil_of_le (by omega)
  have h3:¬ i < x.length:=by omega
  rw [List.take_of_length_le (by omega)] at hok
  have hf:=fresh_ok H.toHasK ks ke cap x xe (by omega) (fun y q=>⟨hx y q,itOk_t (hok y q)⟩)
  have hm:FnW C 220 [.ro 6 ((x.map (fre ks)).map eEn) true,.rop [.ro 6 (l.map eEn) e],.rop [.int .i64 a]]=some (.ro 6 ((spl l a 0 (x.map (fre ks))).map eEn) true):=by
   have h:=splice_ok H.toHasL l (x.map (fre ks)) e true a 0 hl (by simpa using hxl) (by omega)
   rw [fnW_eq H.f220 rfl]
   generalize spl l a 0 (x.map (fre ks))=R at *
   generalize x.map (fre ks)=X at *
   simp at h
   simp [w220,h,H.inl,inlB,H.pp,ppB]
  have hm2:∀ y ∈ spl l a 0 (x.map (fre ks)),EnIn y:=spl_in _ _ hs fun y q=>by
   obtain ⟨z,hz,rfl⟩:=List.mem_map.1 q
   exact ⟨hx z hz,hb z hz (hok z hz)⟩
  have hlen2:(spl l a 0 (x.map (fre ks))).length≤1000000:=by rw [spl_len _ _ _ _ (by omega)];simp;omega
  rw [h1,incE,if_neg (by simp)]
  generalize spl l a 0 (x.map (fre ks))=R at *
  have ho:=own_ok H.toHasL R true hlen2 (fun x q=>(hm2 x q).i.m)
  have ht:=total_ok H.toHasL (R.map En.own) true (by simpa using hlen2) (fun x q=>by
   obtain ⟨y,hy,rfl⟩:=List.mem_map.1 q
   exact (hm2 y hy).ow)
  unfold outL errL
  generalize R.map En.own=R' at *
  generalize x.map (fre ks)=X at *
  by_cases c2:ovE R'=0
  · rw [c2] at ht
    rw [ck_unf w216_B0.eq_1]
    simp [ck_unf w216_c0.eq_1,h3,hf,hm,ho,ht,c2,H.inl,inlB,H.pp,ppB]
    exact ⟨_,_,rfl,rfl⟩
  · rw [ck_unf w216_B0.eq_1]
    simp [ck_unf w216_c0.eq_1,h3,hf,hm,ho,ht,c2,H.inl,inlB,H.pp,ppB]
    exact ⟨_,_,rfl,rfl⟩
 | succ n ih =>
  intro i hi hok s
  have h1:i < x.length:=by omega
  have hxi:=hx _ (List.getElem_mem h1)
  have hc:=icheck_ok H.toHasI x[i] ks.length hxi.t
  have hg:=fun a b c h n=>rnW_eq (args:=[a,b,c]) H.f401 rfl h n
  have hkg:=kmap_get x[i].k s
  rw [drop_cons h1,incE]
  generalize hO:outL (spl l a 0 (x.map (fre ks)))=O at *
  unfold errL
  cases c1:itOk ks.length x[i]
  · have hE:itE ks cap x[i] (s.contains x[i].k)=6:=by unfold itE;simp [c1]
    rw [hE,if_pos (by simp),if_pos (by simp)]
    rw [c1] at hc
    simp at hc
    rw [ck_unf w216_B0.eq_1]
    simp (disch:=omega) [h1,hc,H.inl,inlB,H.pp,ppB]
    exact ⟨_,_,rfl,rfl⟩
  · rw [c1] at hc
    simp at hc
    cases c2:s.contains x[i].k
    · have ht:=itOk_t c1
      have hre:=rrender_ok H.toHasK ks ke cap x[i] hxi ht hr
      have h14:=rnd14 hru c1 hxi.t.1
      have hp:=kmap_put x[i].k s c2
      rw [c2] at hkg
      simp only [aR,eIt] at hre hc
      have this:=ih (i+1) (by omega) (fun y q=>by
       rw [List.take_succ_eq_append_getElem h1] at q
       rcases List.mem_append.1 q with q | q
       · exact hok y q
       · simp at q;rw [q];exact c1) (s++[x[i].k])
      unfold errL at this
      have hE:itE ks cap x[i] false=if rndE (kdAt ks x[i].t).p x[i] cap=0 then 0 else 14:=by unfold itE;simp [c1]
      generalize rndN (kdAt ks x[i].t).p x[i] cap=N at *
      generalize rndE (kdAt ks x[i].t).p x[i] cap=E at *
      by_cases c3:E=0
      · subst c3
        have hV:itE ks cap x[i] false=0:=by rw [hE];simp
        rw [hV]
        simp only [ne_eq,not_true_eq_false,if_false]
        generalize (if incE ks cap (s++[x[i].k]) (List.drop (i+1) x)≠0 then AV.tup [aL [] true,.int .i64 (incE ks cap (s++[x[i].k]) (List.drop (i+1) x))] else O)=Z at *
        rw [ck_unf w216_B0.eq_1]
        simp at this
        simp (disch:=omega) [h1,hc,hg,w401,hkg,hp,hre,wI64,H.inl,inlB,H.pp,ppB]
        exact this
      · have c4:E=14:=by rcases h14 with q | q;exact absurd q c3;exact q
        subst c4
        have hV:itE ks cap x[i] false=14:=by rw [hE];simp
        rw [hV,if_pos (by simp),if_pos (by simp)]
        rw [ck_unf w216_B0.eq_1]
        simp (disch:=omega) [h1,hc,hg,w401,hkg,hp,hre,H.inl,inlB,H.pp,ppB]
        exact ⟨_,_,rfl,rfl⟩
    · have hE:itE ks cap x[i] true=8:=by unfold itE;simp [c1]
      rw [hE,if_pos (by simp),if_pos (by simp)]
      rw [c2] at hkg
      simp only [eIt] at hc
      rw [ck_unf w216_B0.eq_1]
      simp (disch:=omega) [h1,hc,hg,w401,hkg,H.inl,inlB,H.pp,ppB]
      exact ⟨_,_,rfl,rfl⟩
theorem unseen_loop_res (H:HasU2 C) (l:List En) (e:Bool) (hl:l.length≤1000000):∀ n i,n+i=l.length→∀ s:List Int,
 CK C 13 (fnEndW [.tmp 2]) [.sq w217_L0,.bk 0 ⟨true,[3],[]⟩,.sq w217_c0] w217_B0 ⟨[(9,.int .i64 i),(8,.int .i64 l.length),(7,.ro 6 (l.map eEn) e),(3,.ptr 13 0 0)],[(0,.cells 1 [[.ro 6 [] true]] true true),(13,.cells 1 [[.map 14]] true false),(14,.map (kmap s))],15⟩ =
  some (.fn 401 [.ptr 13 0 0],[(0,.cells 1 [[.ro 6 [] true]] true true),(13,.cells 1 [[.map 14]] true false),(14,.map (kmap (seenK s (l.drop i))))],17):=by
 intro n
 induction n with
 | zero =>
  intro i hi s
  have h1:l.drop i=[]:=List.drop_eq_nil_of_le (by omega)
  have h3:¬ i < l.length:=by omega
  rw [ck_unf w217_B0.eq_1]
  simp (disch:=omega) [ck_unf w217_c0.eq_1,h1,h3,seenK]
 | succ n ih =>
  intro i hi s
  have h1:i < l.length:=by omega
  have hp:=kmap_add l[i].i.k s
  have this:=ih (i+1) (by omega) (addK s l[i].i.k)
  rw [drop_cons h1,seenK]
  rw [ck_unf w217_B0.eq_1]
  simp at this
  simp (disch:=omega) [h1,wI64,hp,this]
theorem unseen_res (H:HasU2 C) (l:List En) (e:Bool) (hl:l.length≤1000000) :
 RnW C 217 [.ro 6 (l.map eEn) e] [(0,.cells 1 [[.ro 6 [] true]] true true)] 13=some (.fn 401 [.ptr 13 0 0],[(0,.cells 1 [[.ro 6 [] true]] true true),(13,.cells 1 [[.map 14]] true false),(14,.map (kmap (seenK [] l)))],17):=by
 have h:=unseen_loop_res H l e hl l.length 0 (by simp) []
 rw [List.drop_zero,kmap_nil] at h
 rw [rnW_eq (args:=[.ro 6 (l.map eEn) e]) H.f217 rfl [(0,.cells 1 [[.ro 6 [] true]] true true)] 13]
 simp at h
 simp [w217,h]
theorem dores_loop (H:HasU2 C) (ks:List Kd) (ke:Bool) (cap:Int) (hr:RuIn ks) (hru:ruOk ks cap=true)  (x:List It) (xe:Bool) (hx:∀ y ∈ x,ItIn y) (hxl:x.length≤1000000) (ins:Bool) (cnt:Int)
 (hb:∀ y ∈ x,itOk ks.length y=true→-9223372036854775808≤(kdAt ks y.t).b∧(kdAt ks y.t).b≤9223372036854775807) :∀ n i,n+i=x.length→(∀ y ∈ x.take i,itOk ks.length y=true)→∀ s:List Int,
 DoR (if incE ks cap s (x.drop i)≠0 then errL (incE ks cap s (x.drop i)) else outL (x.map (fre ks))) (CK C 17 (fnEndW [.cell 6 1 true,.tmp 7]) [.sq w216_L0,.bk 1 ⟨true,[6,5,3],[]⟩,.sq w216_c0] w216_B0 ⟨[(34,.int .i64 i),(33,.int .i64 x.length),(32,.ro 4 (x.map cIt) xe),(6,.ptr 17 0 0),(5,.ptr 18 0 0),(3,.ptr 19 0 0)],[(0,.cells 1 [[.ro 6 [] true]] true true),(13,.cells 1 [[.map 14]] true false),(14,.map (kmap s)),(17,.cells 1 [[.ro 6 [] true]] true true),
  (18,.cells 5 [[.bool ins,.int .i64 cnt,.ro 4 (x.map cIt) xe,.fn 401 [.ptr 13 0 0],.fn 218 []]] true false),(19,.cells 2 [[.ro 9 (ks.map eKd) ke,.int .i64 cap]] true true)],20⟩):=by
 intro n
 induction n with
 | zero =>
  intro i hi hok s
  have h1:x.drop i=[]:=List.drop_eq_nil_of_le (by omega)
  have h3:¬ i < x.length:=by omega
  rw [List.take_of_length_le (by omega)] at hok
  have hf:=fresh_ok H.toHasK ks ke cap x xe (by omega) (fun y q=>⟨hx y q,itOk_t (hok y q)⟩)
  have hm:FnW C 218 [.ro 6 ((x.map (fre ks)).map eEn) true]=some (.ro 6 ((x.map (fre ks)).map eEn) true):=by
   rw [fnW_eq H.f218 rfl]
   generalize x.map (fre ks)=X at *
   simp [w218]
  have hm2:∀ y ∈ x.map (fre ks),EnIn y:=fun y q=>by
   obtain ⟨z,hz,rfl⟩:=List.mem_map.1 q
   exact ⟨hx z hz,hb z hz (hok z hz)⟩
  have hlen2:(x.map (fre ks)).length≤1000000:=by simpa using hxl
  rw [h1,incE,if_neg (by simp)]
  generalize x.map (fre ks)=R at *
  have ho:=own_ok H.toHasL R true hlen2 (fun x q=>(hm2 x q).i.m)
  have ht:=total_ok H.toHasL (R.map En.own) true (by simpa using hlen2) (fun x q=>by
   obtain ⟨y,hy,rfl⟩:=List.mem_map.1 q
   exact (hm2 y hy).ow)
  unfold outL errL
  generalize R.map En.own=R' at *
  by_cases c2:ovE R'=0
  · rw [c2] at ht
    rw [ck_unf w216_B0.eq_1]
    simp [ck_unf w216_c0.eq_1,h3,hf,hm,ho,ht,c2,H.inl,inlB,H.pp,ppB]
    exact ⟨_,_,rfl,rfl⟩
  · rw [ck_unf w216_B0.eq_1]
    simp [ck_unf w216_c0.eq_1,h3,hf,hm,ho,ht,c2,H.inl,inlB,H.pp,ppB]
    exact ⟨_,_,rfl,rfl⟩
 | succ n ih =>
  intro i hi hok s
  have h1:i < x.length:=by omega
  have hxi:=hx _ (List.getElem_mem h1)
  have hc:=icheck_ok H.toHasI x[i] ks.length hxi.t
  have hg:=fun a b c h n=>rnW_eq (args:=[a,b,c]) H.f401 rfl h n
  have hkg:=kmap_get x[i].k s
  rw [drop_cons h1,incE]
  generalize hO:outL (x.map (fre ks))=O at *
  unfold errL
  cases c1:itOk ks.length x[i]
  · have hE:itE ks cap x[i] (s.contains x[i].k)=6:=by unfold itE;simp [c1]
    rw [hE,if_pos (by simp),if_pos (by simp)]
    rw [c1] at hc
    simp at hc
    rw [ck_unf w216_B0.eq_1]
    simp (disch:=omega) [h1,hc,H.inl,inlB,H.pp,ppB]
    exact ⟨_,_,rfl,rfl⟩
  · rw [c1] at hc
    simp at hc
    cases c2:s.contains x[i].k
    · have ht:=itOk_t c1
      have hre:=rrender_ok H.toHasK ks ke cap x[i] hxi ht hr
      have h14:=rnd14 hru c1 hxi.t.1
      have hp:=kmap_put x[i].k s c2
      rw [c2] at hkg
      simp only [aR,eIt] at hre hc
      have this:=ih (i+1) (by omega) (fun y q=>by
       rw [List.take_succ_eq_append_getElem h1] at q
       rcases List.mem_append.1 q with q | q
       · exact hok y q
       · simp at q;rw [q];exact c1) (s++[x[i].k])
      unfold errL at this
      have hE:itE ks cap x[i] false=if rndE (kdAt ks x[i].t).p x[i] cap=0 then 0 else 14:=by unfold itE;simp [c1]
      generalize rndN (kdAt ks x[i].t).p x[i] cap=N at *
      generalize rndE (kdAt ks x[i].t).p x[i] cap=E at *
      by_cases c3:E=0
      · subst c3
        have hV:itE ks cap x[i] false=0:=by rw [hE];simp
        rw [hV]
        simp only [ne_eq,not_true_eq_false,if_false]
        generalize (if incE ks cap (s++[x[i].k]) (List.drop (i+1) x)≠0 then AV.tup [aL [] true,.int .i64 (incE ks cap (s++[x[i].k]) (List.drop (i+1) x))] else O)=Z at *
        rw [ck_unf w216_B0.eq_1]
        simp at this
        simp (disch:=omega) [h1,hc,hg,w401,hkg,hp,hre,wI64,H.inl,inlB,H.pp,ppB]
        exact this
      · have c4:E=14:=by rcases h14 with q | q;exact absurd q c3;exact q
        subst c4
        have hV:itE ks cap x[i] false=14:=by rw [hE];simp
        rw [hV,if_pos (by simp),if_pos (by simp)]
        rw [ck_unf w216_B0.eq_1]
        simp (disch:=omega) [h1,hc,hg,w401,hkg,hp,hre,H.inl,inlB,H.pp,ppB]
        exact ⟨_,_,rfl,rfl⟩
    · have hE:itE ks cap x[i] true=8:=by unfold itE;simp [c1]
      rw [hE,if_pos (by simp),if_pos (by simp)]
      rw [c2] at hkg
      simp only [eIt] at hc
      rw [ck_unf w216_B0.eq_1]
      simp (disch:=omega) [h1,hc,hg,w401,hkg,H.inl,inlB,H.pp,ppB]
      exact ⟨_,_,rfl,rfl⟩
theorem do_ins (H:HasU2 C) (ks:List Kd) (ke:Bool) (cap:Int) (hr:RuIn ks) (l:List En) (e:Bool) (hl:l.length≤1000000) (hs:∀ x ∈ l,EnIn x) (a:Int) (x:List It) (xe:Bool) (hx:∀ y ∈ x,ItIn y) (hxl:x.length≤1000000) (ins:Bool) (cnt:Int)
 (hb:∀ y ∈ x,itOk ks.length y=true→-9223372036854775808≤(kdAt ks y.t).b∧(kdAt ks y.t).b≤9223372036854775807) (hsum:l.length+x.length≤1000000) (hin:ins=true→0≤a∧a≤l.length) :
 DoR (if ckE ks cap l≠0 then errL (ckE ks cap l) else if ins=false then errL 4 else if 1024 < cnt then errL 3 else if incE ks cap (keysE l) x≠0 then errL (incE ks cap (keysE l) x) else outL (spl l a.toNat 0 (x.map (fre ks)))) (RnW C 216 [aR ks ke cap,aL l e,.agg [.bool ins,.int .i64 cnt,.ro 4 (x.map cIt) xe,.fn 401 [.ptr 25 0 0],.fn 220 [.rop [.ro 6 (l.map eEn) e],.rop [.int .i64 a]]]] [(0,.cells 1 [[.ro 6 [] true]] true true),(25,.cells 1 [[.map 26]] true false),(26,.map (kmap (seenK [] l)))] 29):=by
 have hc:=lcheck_ok H.toHasK ks ke cap hr l e hl hs
 rw [rnW_eq (args:=[aR ks ke cap,aL l e,.agg [.bool ins,.int .i64 cnt,.ro 4 (x.map cIt) xe,.fn 401 [.ptr 25 0 0],.fn 220 [.rop [.ro 6 (l.map eEn) e],.rop [.int .i64 a]]]]) H.f216 rfl [(0,.cells 1 [[.ro 6 [] true]] true true),(25,.cells 1 [[.map 26]] true false),(26,.map (kmap (seenK [] l)))] 29]
 by_cases c1:ckE ks cap l=0
 · have hru:=ckE_ru c1
   rw [c1] at hc
   rw [if_neg (by simpa using c1)]
   cases ins
   · rw [if_pos rfl]
     unfold errL
     simp [w216,hc,H.inl,inlB,H.pp,ppB]
     exact ⟨_,_,rfl,rfl⟩
   · rw [if_neg (by simp)]
     obtain ⟨ha1,ha2⟩:=hin rfl
     obtain ⟨a',rfl⟩:∃ a':Nat,a=a':=⟨a.toNat,by omega⟩
     by_cases c2:1024 < cnt
     · rw [if_pos c2]
       unfold errL
       simp [w216,hc,c2,H.inl,inlB,H.pp,ppB]
       exact ⟨_,_,rfl,rfl⟩
     · rw [if_neg c2]
       have h:=doins_loop H ks ke cap hr hru l e hl hs a' (by omega) x xe hx hxl true cnt hb hsum x.length 0 (by simp) (by simp) (seenK [] l)
       rw [List.drop_zero] at h
       rw [incE_congr ks cap x (seenK [] l) (keysE l) (fun j=>by rw [seenK_has];simp)] at h
       simp only [Int.toNat_natCast]
       generalize (if incE ks cap (keysE l) x≠0 then errL (incE ks cap (keysE l) x) else outL (spl l a' 0 (x.map (fre ks))))=Z at *
       simp at h
       simp [w216,hc,c2,H.inl,inlB,H.pp,ppB]
       exact h
 · rw [if_pos c1]
   unfold errL
   simp [w216,hc,c1,H.inl,inlB,H.pp,ppB]
   exact ⟨_,_,rfl,rfl⟩
theorem do_res (H:HasU2 C) (ks:List Kd) (ke:Bool) (cap:Int) (hr:RuIn ks) (l:List En) (e:Bool) (hl:l.length≤1000000) (hs:∀ x ∈ l,EnIn x)  (x:List It) (xe:Bool) (hx:∀ y ∈ x,ItIn y) (hxl:x.length≤1000000)  (cnt:Int)
 (hb:∀ y ∈ x,itOk ks.length y=true→-9223372036854775808≤(kdAt ks y.t).b∧(kdAt ks y.t).b≤9223372036854775807)  :
 DoR (if ckE ks cap l≠0 then errL (ckE ks cap l) else if 1024 < cnt then errL 3 else if incE ks cap [] x≠0 then errL (incE ks cap [] x) else outL (x.map (fre ks))) (RnW C 216 [aR ks ke cap,aL l e,.agg [.bool true,.int .i64 cnt,.ro 4 (x.map cIt) xe,.fn 401 [.ptr 13 0 0],.fn 218 []]] [(0,.cells 1 [[.ro 6 [] true]] true true),(13,.cells 1 [[.map 14]] true false),(14,.map (kmap (seenK [] [])))] 17):=by
 have hc:=lcheck_ok H.toHasK ks ke cap hr l e hl hs
 rw [rnW_eq (args:=[aR ks ke cap,aL l e,.agg [.bool true,.int .i64 cnt,.ro 4 (x.map cIt) xe,.fn 401 [.ptr 13 0 0],.fn 218 []]]) H.f216 rfl [(0,.cells 1 [[.ro 6 [] true]] true true),(13,.cells 1 [[.map 14]] true false),(14,.map (kmap (seenK [] [])))] 17]
 by_cases c1:ckE ks cap l=0
 · have hru:=ckE_ru c1
   rw [c1] at hc
   rw [if_neg (by simpa using c1)]
   by_cases c2:1024 < cnt
   · rw [if_pos c2]
     unfold errL
     simp [w216,hc,c2,H.inl,inlB,H.pp,ppB]
     exact ⟨_,_,rfl,rfl⟩
   · rw [if_neg c2]
     have h:=dores_loop H ks ke cap hr hru x xe hx hxl true cnt hb x.length 0 (by simp) (by simp) (seenK [] [])
     rw [List.drop_zero] at h
     simp only [seenK] at h ⊢
     simp [w216,hc,c2,H.inl,inlB,H.pp,ppB]
     by_cases c3:incE ks cap [] x=0
     · simp [c3] at h ⊢
       exact h
     · simp [c3] at h ⊢
       exact h
 · rw [if_pos c1]
   unfold errL
   simp [w216,hc,c1,H.inl,inlB,H.pp,ppB]
   exact ⟨_,_,rfl,rfl⟩
@[simp] theorem getp (h:WHeap) (n:Nat) (o:WObj) (k:Nat):Pav.get (Pav.put h n o) k=if n=k then some o else Pav.get h k:=get_put h n o k
theorem insert_ok (H:HasU2 C) (ks:List Kd) (ke:Bool) (cap:Int) (hr:RuIn ks) (l:List En) (e:Bool) (hl:l.length≤1000000) (hs:∀ x ∈ l,EnIn x) (a:Int) (x:List It) (xe:Bool) (hx:∀ y ∈ x,ItIn y) (hxl:x.length≤1000000)
 (hb:∀ y ∈ x,itOk ks.length y=true→-9223372036854775808≤(kdAt ks y.t).b∧(kdAt ks y.t).b≤9223372036854775807) (hsum:l.length+x.length≤1000000) :
 FnW C 109 [aR ks ke cap,aL l e,.int .i64 a,.ro 4 (x.map cIt) xe] =
  some (if ckE ks cap l≠0 then errL (ckE ks cap l) else if inR a 0 l.length=false then errL 4 else if 1024 < (l.length:Int)+x.length then errL 3 else if incE ks cap (keysE l) x≠0 then errL (incE ks cap (keysE l) x) else outL (spl l a.toNat 0 (x.map (fre ks)))):=by
 have hw:=within_ok H.toHasL a 0 l.length (by omega)
 have hu:=unseen_ins H l e hl
 obtain ⟨h',n',hd,hB⟩:=do_ins H ks ke cap hr l e hl hs a x xe hx hxl (inR a 0 l.length) ((l.length:Int)+x.length) hb hsum (fun q=>by unfold inR at q;simp at q;omega)
 have hR:∃ R n,(if ckE ks cap l≠0 then errL (ckE ks cap l) else if inR a 0 l.length=false then errL 4 else if 1024 < (l.length:Int)+x.length then errL 3 else if incE ks cap (keysE l) x≠0 then errL (incE ks cap (keysE l) x) else outL (spl l a.toNat 0 (x.map (fre ks))))=.tup [.agg [.ro 6 R true],.int .i64 n]:=by
  unfold outL errL
  repeat (first | exact ⟨_,_,rfl⟩ | split)
 obtain ⟨R,n,hR⟩:=hR
 rw [hR] at hd ⊢
 rw [fnW_eq H.f109 rfl]
 generalize inR a 0 l.length=ins at *
 try simp at hd
 simp (disch:=omega) [w109,wI64,hw,hu,hd,hB,H.inl,inlB,H.pp,ppB]
theorem reset_ok (H:HasU2 C) (ks:List Kd) (ke:Bool) (cap:Int) (hr:RuIn ks) (l:List En) (e:Bool) (hl:l.length≤1000000) (hs:∀ x ∈ l,EnIn x) (x:List It) (xe:Bool) (hx:∀ y ∈ x,ItIn y) (hxl:x.length≤1000000)
 (hb:∀ y ∈ x,itOk ks.length y=true→-9223372036854775808≤(kdAt ks y.t).b∧(kdAt ks y.t).b≤9223372036854775807) :
 FnW C 108 [aR ks ke cap,aL l e,.ro 4 (x.map cIt) xe] =
  some (if ckE ks cap l≠0 then errL (ckE ks cap l) else if 1024 < (x.length:Int) then errL 3 else if incE ks cap [] x≠0 then errL (incE ks cap [] x) else outL (x.map (fre ks))):=by
 have hu:=unseen_res H [] true (by simp)
 obtain ⟨h',n',hd,hB⟩:=do_res H ks ke cap hr l e hl hs x xe hx hxl (x.length:Int) hb
 have hR:∃ R n,(if ckE ks cap l≠0 then errL (ckE ks cap l) else if 1024 < (x.length:Int) then errL 3 else if incE ks cap [] x≠0 then errL (incE ks cap [] x) else outL (x.map (fre ks)))=.tup [.agg [.ro 6 R true],.int .i64 n]:=by
  unfold outL errL
  repeat (first | exact ⟨_,_,rfl⟩ | split)
 obtain ⟨R,n,hR⟩:=hR
 rw [hR] at hd ⊢
 rw [fnW_eq H.f108 rfl]
 simp at hd hu
 simp (disch:=omega) [w108,wI64,hu,hd,hB,H.inl,inlB,H.pp,ppB]
def apL (ks:List Kd) (l:List En) (n:Nt):List En :=
 if n.k=1 then spl l n.a.toNat 0 (n.x.map (fre ks))
 else if n.k=2 then spl l n.a.toNat n.c.toNat []
 else if n.k=3 then spl (spl l n.a.toNat n.c.toNat []) n.t.toNat 0 ((l.take (n.a.toNat+n.c.toNat)).drop n.a.toNat)
 else if n.k=4 then spl l n.a.toNat n.x.length (n.x.map (fre ks))
 else n.x.map (fre ks)
def apF (ks:List Kd) (cap:Int) (l:List En) (n:Nt):Int :=
 if n.k=1 then (if inR n.a 0 l.length=false then 4 else if 1024 < (l.length:Int)+n.x.length then 3 else incE ks cap (keysE l) n.x)
 else if n.k=2 then (if inR n.a n.c l.length=false then 4 else 0)
 else if n.k=3 then (if (inR n.a n.c l.length&&inR n.t 0 (l.length - n.c))=false then 4 else 0)
 else if n.k=4 then (if inR n.a n.x.length l.length=false then 4 else chgE ks cap l n.a.toNat n.x)
 else (if 1024 < (n.x.length:Int) then 3 else incE ks cap [] n.x)
def apE (ks:List Kd) (cap:Int) (l:List En) (n:Nt):Int :=
 if ntE n≠0 then ntE n else if apF ks cap l n≠0 then apF ks cap l n else ovE (apL ks l n)
structure NtIn (ks:List Kd) (n:Nt):Prop where
 x:∀ y ∈ n.x,ItIn y
 l:n.x.length≤10000
 b:∀ y ∈ n.x,itOk ks.length y=true→-9223372036854775808≤(kdAt ks y.t).b∧(kdAt ks y.t).b≤9223372036854775807
structure HasNb (C:WProg):Prop extends HasNa C,HasU2 C
theorem totG_own2:∀ (l:List En) (s:Int),totG s (l.map En.own)=totG s l
 | [],_=>rfl
 | e::r,s=>by
  have h:(En.own e).s=e.s:=rfl
  simp only [List.map_cons,totG,h,totG_own2 r]
theorem ovE_own2 (l:List En):ovE (l.map En.own)=ovE l:=by unfold ovE tot;rw [totG_own2]
theorem outL_eq (X:List En):outL X=if ovE X≠0 then errL (ovE X) else .tup [aL (X.map En.own) true,.int .i64 0]:=by
 unfold outL
 rw [ovE_own2]
theorem nest_eq (F:Int) (X:List En):(if F≠0 then errL F else outL X)=if (if F≠0 then F else ovE X)≠0 then errL (if F≠0 then F else ovE X) else .tup [aL (X.map En.own) true,.int .i64 0]:=by
 rw [outL_eq]
 by_cases h:F=0
 · rw [if_neg (by simp [h]),if_neg (c:=F≠0) (by simp [h])]
 · rw [if_pos h,if_pos (c:=F≠0) h,if_pos h]
theorem napply_eq (H:HasNb C) (ks:List Kd) (ke:Bool) (cap:Int) (hr:RuIn ks) (l:List En) (e:Bool) (hl:l.length≤10000) (hs:∀ x ∈ l,EnIn x) (hc:ckE ks cap l=0) (n:Nt) (hn:NtIn ks n) :
 FnW C 343 [aR ks ke cap,aL l e,.agg (eNt n)]=some (if apE ks cap l n≠0 then errL (apE ks cap l n) else .tup [aL ((apL ks l n).map En.own) true,.int .i64 0]):=by
 have h0:FnW C 223 [aR ks ke cap,aL l e]=some (.int .i64 0):=by
  rw [lcheck_ok H.toHasU2.toHasO.toHasK ks ke cap hr l e (by omega) hs,hc]
 by_cases hE:ntE n=0
 · have key:FnW C (ntF n) (aR ks ke cap::aL l e::ntA n)=some (if apE ks cap l n≠0 then errL (apE ks cap l n) else .tup [aL ((apL ks l n).map En.own) true,.int .i64 0]):=by
    have hr5:1≤n.k∧n.k≤5:=by
     unfold ntE at hE
     split at hE
     · cases hE
     · omega
    have hl2:=hn.l
    have hA:apE ks cap l n=if apF ks cap l n≠0 then apF ks cap l n else ovE (apL ks l n):=by unfold apE;rw [if_neg (by rw [hE];simp)]
    rw [hA,← nest_eq]
    obtain ⟨k,a,c,t,x,xe⟩:=n
    simp only at hr5 hl2
    have hx:=hn.x
    have hb:=hn.b
    simp only at hx hb
    have h5:k=1∨k=2∨k=3∨k=4∨k=5:=by omega
    rcases h5 with rfl | rfl | rfl | rfl | rfl
    · have h:=insert_ok H.toHasU2 ks ke cap hr l e (by omega) hs a x xe hx (by omega) hb (by omega)
      rw [hc,if_neg (by simp)] at h
      have h1:ntF ⟨1,a,c,t,x,xe⟩=109:=rfl
      have h2:ntA ⟨1,a,c,t,x,xe⟩=[.int .i64 a,.ro 4 (x.map cIt) xe]:=rfl
      have h3:apL ks l ⟨1,a,c,t,x,xe⟩=spl l a.toNat 0 (x.map (fre ks)):=rfl
      have h4:apF ks cap l ⟨1,a,c,t,x,xe⟩=if inR a 0 l.length=false then 4 else if 1024 < (l.length:Int)+x.length then 3 else incE ks cap (keysE l) x:=rfl
      rw [h1,h2,h3,h4,h]
      by_cases c1:inR a 0 l.length=false
      · rw [if_pos c1,if_pos c1];rfl
      · rw [if_neg c1,if_neg c1]
        by_cases c2:1024 < (l.length:Int)+x.length
        · rw [if_pos c2,if_pos c2];rfl
        · rw [if_neg c2,if_neg c2]
    · have h:=remove_ok H.toHasU2.toHasO ks ke cap hr l e (by omega) hs a c
      rw [hc,if_neg (by simp)] at h
      have h1:ntF ⟨2,a,c,t,x,xe⟩=110:=rfl
      have h2:ntA ⟨2,a,c,t,x,xe⟩=[.int .i64 a,.int .i64 c]:=rfl
      have h3:apL ks l ⟨2,a,c,t,x,xe⟩=spl l a.toNat c.toNat []:=rfl
      have h4:apF ks cap l ⟨2,a,c,t,x,xe⟩=if inR a c l.length=false then 4 else 0:=rfl
      rw [h1,h2,h3,h4,h]
      by_cases c1:inR a c l.length=false
      · rw [if_pos c1,if_pos c1];rfl
      · rw [if_neg c1,if_neg c1];rfl
    · have h:=move_ok H.toHasU2.toHasO ks ke cap hr l e (by omega) hs a c t
      rw [hc,if_neg (by simp)] at h
      have h1:ntF ⟨3,a,c,t,x,xe⟩=237:=rfl
      have h2:ntA ⟨3,a,c,t,x,xe⟩=[.int .i64 a,.int .i64 c,.int .i64 t]:=rfl
      have h3:apL ks l ⟨3,a,c,t,x,xe⟩=spl (spl l a.toNat c.toNat []) t.toNat 0 ((l.take (a.toNat+c.toNat)).drop a.toNat):=rfl
      have h4:apF ks cap l ⟨3,a,c,t,x,xe⟩=if (inR a c l.length&&inR t 0 (l.length - c))=false then 4 else 0:=rfl
      rw [h1,h2,h3,h4,h]
      by_cases c1:(inR a c l.length&&inR t 0 (l.length - c))=false
      · rw [if_pos c1,if_pos c1];rfl
      · rw [if_neg c1,if_neg c1];rfl
    · have h:=change_ok H.toHasU2.toHasO ks ke cap hr l e (by omega) hs a x xe (by omega) hx hb
      rw [hc,if_neg (by simp)] at h
      have h1:ntF ⟨4,a,c,t,x,xe⟩=114:=rfl
      have h2:ntA ⟨4,a,c,t,x,xe⟩=[.int .i64 a,.ro 4 (x.map cIt) xe]:=rfl
      have h3:apL ks l ⟨4,a,c,t,x,xe⟩=spl l a.toNat x.length (x.map (fre ks)):=rfl
      have h4:apF ks cap l ⟨4,a,c,t,x,xe⟩=if inR a x.length l.length=false then 4 else chgE ks cap l a.toNat x:=rfl
      rw [h1,h2,h3,h4,h]
      by_cases c1:inR a x.length l.length=false
      · rw [if_pos c1,if_pos c1];rfl
      · rw [if_neg c1,if_neg c1]
    · have h:=reset_ok H.toHasU2 ks ke cap hr l e (by omega) hs x xe hx (by omega) hb
      rw [hc,if_neg (by simp)] at h
      have h1:ntF ⟨5,a,c,t,x,xe⟩=108:=rfl
      have h2:ntA ⟨5,a,c,t,x,xe⟩=[.ro 4 (x.map cIt) xe]:=rfl
      have h3:apL ks l ⟨5,a,c,t,x,xe⟩=x.map (fre ks):=rfl
      have h4:apF ks cap l ⟨5,a,c,t,x,xe⟩=if 1024 < (x.length:Int) then 3 else incE ks cap [] x:=rfl
      rw [h1,h2,h3,h4,h]
      by_cases c1:1024 < (x.length:Int)
      · rw [if_pos c1,if_pos c1];rfl
      · rw [if_neg c1,if_neg c1]
   generalize apE ks cap l n=E at *
   by_cases hE2:E=0
   · subst hE2
     simp only [ne_eq,not_true_eq_false,if_false] at key ⊢
     exact napply_ok H.toHasNa ks ke cap l e n h0 hE _ _ _ key
   · rw [if_pos hE2] at key ⊢
     exact napply_ok H.toHasNa ks ke cap l e n h0 hE _ _ _ key
 · have hA:apE ks cap l n=ntE n:=by unfold apE;rw [if_pos hE]
   rw [hA,if_pos hE]
   exact napply_bad2 H.toHasNa ks ke cap l e n h0 hE
end Go.D
end
section
namespace Go.D
open Go Go.Pav Go.Pw P
theorem en_false {ks:List Kd} {cap:Int} {e:En} {b:Bool} (h:enE ks cap e b=0):b=false:=by
 cases b with
 | false=>rfl
 | true =>
  have h1:itE ks cap e.i true≠0:=by
   unfold itE
   split
   · simp
   · rw [if_pos rfl];simp
  unfold enE at h
  rw [if_pos h1] at h
  exact absurd h h1
theorem chk_iff (ks:List Kd) (cap:Int):∀ (l:List En) (seen:List Int),chk ks cap seen l=0↔(∀ e ∈ l,enE ks cap e false=0∧e.i.k ∉ seen)∧(keysE l).Nodup:=by
 intro l
 induction l with
 | nil=>intro seen;simp [chk,keysE]
 | cons a r ih =>
  intro seen
  rw [chk]
  constructor
  · intro h
    split at h
    · rename_i hc;exact absurd h hc
    · rename_i hc
      have hc:enE ks cap a (seen.contains a.i.k)=0:=by simpa using hc
      have hf:=en_false hc
      rw [hf] at hc
      have hns:a.i.k ∉ seen:=by simpa using hf
      obtain ⟨q1,q2⟩:=(ih _).1 h
      refine ⟨?_,?_⟩
      · intro e he
        rcases List.mem_cons.1 he with rfl | he
        · exact ⟨hc,hns⟩
        · obtain ⟨p1,p2⟩:=q1 e he
          exact ⟨p1,fun hm=>p2 (by simp [hm])⟩
      · simp only [keysE,List.map_cons,List.nodup_cons] at q2 ⊢
        refine ⟨?_,q2⟩
        intro hm
        obtain ⟨e,he,hk⟩:=List.mem_map.1 hm
        exact (q1 e he).2 (by simp [hk])
  · rintro ⟨q1,q2⟩
    obtain ⟨p1,p2⟩:=q1 a (List.mem_cons_self ..)
    have hf:seen.contains a.i.k=false:=by simpa using p2
    rw [hf,if_neg (by simp [p1])]
    rw [ih]
    simp only [keysE,List.map_cons,List.nodup_cons] at q2 ⊢
    refine ⟨?_,q2.2⟩
    intro e he
    refine ⟨(q1 e (List.mem_cons_of_mem _ he)).1,?_⟩
    intro hm
    rcases List.mem_append.1 hm with hm | hm
    · exact (q1 e (List.mem_cons_of_mem _ he)).2 hm
    · simp only [List.mem_singleton] at hm
      exact q2.1 (List.mem_map.2 ⟨e,he,hm⟩)
theorem ck_iff (ks:List Kd) (cap:Int) (l:List En):ckE ks cap l=0↔ruOk ks cap=true∧l.length≤1024∧(∀ e ∈ l,enE ks cap e false=0)∧(keysE l).Nodup∧ovE l=0:=by
 have hi:=chk_iff ks cap l []
 unfold ckE
 constructor
 · intro h
   split at h
   · cases h
   · rename_i h1
     split at h
     · cases h
     · rename_i h2
       split at h
       · rename_i h3;exact absurd h h3
       · rename_i h3
         have h3:chk ks cap [] l=0:=by simpa using h3
         obtain ⟨q1,q2⟩:=hi.1 h3
         exact ⟨by simpa using h1,by omega,fun e he=>(q1 e he).1,q2,h⟩
 · rintro ⟨h1,h2,h3,h4,h5⟩
   have h6:chk ks cap [] l=0:=hi.2 ⟨fun e he=>⟨h3 e he,by simp⟩,h4⟩
   rw [if_neg (by simp [h1]),if_neg (by omega),if_neg (by simp [h6]),h5]
theorem it_false {ks:List Kd} {cap:Int} {x:It} {b:Bool} (h:itE ks cap x b=0):b=false:=by
 cases b with
 | false=>rfl
 | true =>
  unfold itE at h
  split at h
  · simp at h
  · rw [if_pos rfl] at h;simp at h
theorem inc_iff (ks:List Kd) (cap:Int):∀ (x:List It) (seen:List Int),incE ks cap seen x=0↔(∀ y ∈ x,itE ks cap y false=0∧y.k ∉ seen)∧(x.map fun y=>y.k).Nodup:=by
 intro x
 induction x with
 | nil=>intro seen;simp [incE]
 | cons a r ih =>
  intro seen
  rw [incE]
  constructor
  · intro h
    split at h
    · rename_i hc;exact absurd h hc
    · rename_i hc
      have hc:itE ks cap a (seen.contains a.k)=0:=by simpa using hc
      have hf:=it_false hc
      rw [hf] at hc
      have hns:a.k ∉ seen:=by simpa using hf
      obtain ⟨q1,q2⟩:=(ih _).1 h
      refine ⟨?_,?_⟩
      · intro e he
        rcases List.mem_cons.1 he with rfl | he
        · exact ⟨hc,hns⟩
        · obtain ⟨p1,p2⟩:=q1 e he
          exact ⟨p1,fun hm=>p2 (by simp [hm])⟩
      · simp only [List.map_cons,List.nodup_cons]
        refine ⟨?_,q2⟩
        intro hm
        obtain ⟨e,he,hk⟩:=List.mem_map.1 hm
        exact (q1 e he).2 (by simp [hk])
  · rintro ⟨q1,q2⟩
    obtain ⟨p1,p2⟩:=q1 a (List.mem_cons_self ..)
    have hf:seen.contains a.k=false:=by simpa using p2
    rw [hf,if_neg (by simp [p1])]
    rw [ih]
    simp only [List.map_cons,List.nodup_cons] at q2
    refine ⟨?_,q2.2⟩
    intro e he
    refine ⟨(q1 e (List.mem_cons_of_mem _ he)).1,?_⟩
    intro hm
    rcases List.mem_append.1 hm with hm | hm
    · exact (q1 e (List.mem_cons_of_mem _ he)).2 hm
    · simp only [List.mem_singleton] at hm
      exact q2.1 (List.mem_map.2 ⟨e,he,hm⟩)
theorem spl_map {α β:Type} (f:α→β) (l:List α) (a c:Nat) (x:List α):(spl l a c x).map f=spl (l.map f) a c (x.map f):=by
 unfold spl
 simp only [List.map_append,List.map_take,List.map_drop]
theorem fre_ok {ks:List Kd} {cap:Int} (hr:ruOk ks cap=true) {y:It} (hy:ItIn y) (h:itE ks cap y false=0):enE ks cap (fre ks y) false=0:=by
 have hb:hOk (kdAt ks y.t).b=true:=by
  have ht:y.t < ks.length:=by
   unfold itE at h
   split at h
   · simp at h
   · rename_i h1
     unfold itOk at h1
     simp only [Bool.not_eq_false,Bool.and_eq_true,decide_eq_true_eq] at h1
     exact h1.1.1.2
  have ht0:=hy.t.1
  have hlt:y.t.toNat < ks.length:=by omega
  unfold ruOk at hr
  simp only [Bool.and_eq_true,List.all_eq_true] at hr
  have:=hr.2 ks[y.t.toNat] (List.getElem_mem hlt)
  unfold kdOk at this
  unfold kdAt
  rw [List.getElem?_eq_getElem hlt]
  simp only [Bool.and_eq_true] at this
  exact this.1
 unfold enE fre
 simp only
 rw [if_neg (by simp [h]),if_pos (by exact ⟨hb,by simp⟩)]
theorem ck_perm {ks:List Kd} {cap:Int} {l m:List En} (hp:m.Perm l) (hc:ckE ks cap l=0) (ho:ovE m=0):ckE ks cap m=0:=by
 obtain ⟨h1,h2,h3,h4,_⟩:=(ck_iff ks cap l).1 hc
 exact (ck_iff ks cap m).2 ⟨h1,by rw [hp.length_eq];exact h2,fun e he=>h3 e (hp.mem_iff.1 he),(hp.map _).nodup_iff.2 h4,ho⟩
theorem ck_sub {ks:List Kd} {cap:Int} {l m:List En} (hp:m.Sublist l) (hc:ckE ks cap l=0) (ho:ovE m=0):ckE ks cap m=0:=by
 obtain ⟨h1,h2,h3,h4,_⟩:=(ck_iff ks cap l).1 hc
 exact (ck_iff ks cap m).2 ⟨h1,Nat.le_trans hp.length_le h2,fun e he=>h3 e (hp.subset he),(hp.map _).nodup h4,ho⟩
theorem spl_sub {α:Type} (l:List α) (a c:Nat):(spl l a c []).Sublist l:=by
 unfold spl
 rw [List.append_nil]
 have h:(l.take a++l.drop (a+c)).Sublist (l.take a++l.drop a):=by
  refine (List.Sublist.refl _).append ?_
  rw [← List.drop_drop]
  exact List.drop_sublist _ _
 rwa [List.take_append_drop] at h
theorem spl_perm {α:Type} (l:List α) (a:Nat) (x:List α):(spl l a 0 x).Perm (x++l):=by
 unfold spl
 rw [Nat.add_zero]
 have h1:(l.take a++x++l.drop a).Perm (x++l.take a++l.drop a):=(List.perm_append_comm).append_right _
 rwa [List.append_assoc x,List.take_append_drop] at h1
theorem mov_perm {α:Type} (l:List α) (a c t:Nat):(spl (spl l a c []) t 0 ((l.take (a+c)).drop a)).Perm l:=by
 refine (spl_perm _ _ _).trans ?_
 unfold spl
 rw [List.append_nil]
 have h1:((l.take (a+c)).drop a++(l.take a++l.drop (a+c))).Perm (l.take a++(l.take (a+c)).drop a++l.drop (a+c)):=by
  rw [← List.append_assoc]
  exact (List.perm_append_comm).append_right _
 refine h1.trans ?_
 have h2:l.take a=(l.take (a+c)).take a:=by rw [List.take_take,Nat.min_eq_left (by omega)]
 rw [h2,List.take_append_drop,List.take_append_drop]
theorem ck_ins {ks:List Kd} {cap:Int} {l:List En} (hc:ckE ks cap l=0) (a:Nat) {x:List It} (hx:∀ y ∈ x,ItIn y) (hl:(l.length:Int)+x.length≤1024) (hi:incE ks cap (keysE l) x=0) (ho:ovE (spl l a 0 (x.map (fre ks)))=0) :
 ckE ks cap (spl l a 0 (x.map (fre ks)))=0:=by
 obtain ⟨h1,h2,h3,h4,_⟩:=(ck_iff ks cap l).1 hc
 obtain ⟨q1,q2⟩:=(inc_iff ks cap x _).1 hi
 have hp:=spl_perm l a (x.map (fre ks))
 refine (ck_iff _ _ _).2 ⟨h1,?_,?_,?_,ho⟩
 · rw [hp.length_eq];simp;omega
 · intro e he
   rcases List.mem_append.1 (hp.mem_iff.1 he) with he | he
   · obtain ⟨y,hy,rfl⟩:=List.mem_map.1 he
     exact fre_ok h1 (hx y hy) (q1 y hy).1
   · exact h3 e he
 · refine (hp.map _).nodup_iff.2 ?_
   rw [List.map_append,List.nodup_append]
   have hk:(x.map (fre ks)).map (fun e=>e.i.k)=x.map fun y=>y.k:=by
    rw [List.map_map];rfl
   refine ⟨by rw [hk];exact q2,h4,?_⟩
   rw [hk]
   intro u hu v hv huv
   subst huv
   obtain ⟨y,hy,rfl⟩:=List.mem_map.1 hu
   exact (q1 y hy).2 hv
theorem ck_res {ks:List Kd} {cap:Int} (hr:ruOk ks cap=true) {x:List It} (hx:∀ y ∈ x,ItIn y) (hl:(x.length:Int)≤1024) (hi:incE ks cap [] x=0) (ho:ovE (x.map (fre ks))=0):ckE ks cap (x.map (fre ks))=0:=by
 obtain ⟨q1,q2⟩:=(inc_iff ks cap x _).1 hi
 refine (ck_iff _ _ _).2 ⟨hr,by simp;omega,?_,?_,ho⟩
 · intro e he
   obtain ⟨y,hy,rfl⟩:=List.mem_map.1 he
   exact fre_ok hr (hx y hy) (q1 y hy).1
 · have hk:keysE (x.map (fre ks))=x.map fun y=>y.k:=by unfold keysE;rw [List.map_map];rfl
   rw [hk];exact q2
theorem chg_ok (ks:List Kd) (cap:Int) (l:List En):∀ (x:List It) (j:Nat),j+x.length≤l.length→chgE ks cap l j x=0→(∀ y ∈ x,itE ks cap y false=0)∧(x.map fun y=>y.k)=((keysE l).drop j).take x.length:=by
 intro x
 induction x with
 | nil=>intro j _ _;simp
 | cons a r ih =>
  intro j hj h
  rw [chgE] at h
  simp only [List.length_cons] at hj
  split at h
  · simp at h
  · rename_i h1
    split at h
    · simp at h
    · rename_i h2
      split at h
      · rename_i h3;exact absurd h h3
      · rename_i h3
        obtain ⟨q1,q2⟩:=ih (j+1) (by omega) h
        have h2:keyAt l j=a.k:=by simpa using h2
        have h3:rndE (kdAt ks a.t).p a cap=0:=by simpa using h3
        refine ⟨?_,?_⟩
        · intro y hy
          rcases List.mem_cons.1 hy with rfl | hy
          · unfold itE
            rw [if_neg h1,if_neg (by simp),if_pos h3]
          · exact q1 y hy
        · have hlt:j < (keysE l).length:=by unfold keysE;simp;omega
          rw [List.drop_eq_getElem_cons hlt,List.length_cons,List.take_succ_cons,List.map_cons,q2]
          congr 1
          rw [← h2]
          unfold keyAt keysE
          rw [List.getElem?_eq_getElem (by omega)]
          simp
theorem ck_chg {ks:List Kd} {cap:Int} {l:List En} (hc:ckE ks cap l=0) (a:Nat) {x:List It} (hx:∀ y ∈ x,ItIn y) (hl:a+x.length≤l.length) (hi:chgE ks cap l a x=0) (ho:ovE (spl l a x.length (x.map (fre ks)))=0) :
 ckE ks cap (spl l a x.length (x.map (fre ks)))=0:=by
 obtain ⟨h1,h2,h3,h4,_⟩:=(ck_iff ks cap l).1 hc
 obtain ⟨q1,q2⟩:=chg_ok ks cap l x a hl hi
 refine (ck_iff _ _ _).2 ⟨h1,?_,?_,?_,ho⟩
 · unfold spl;simp;omega
 · intro e he
   unfold spl at he
   rcases List.mem_append.1 he with he | he
   · rcases List.mem_append.1 he with he | he
     · exact h3 e (List.mem_of_mem_take he)
     · obtain ⟨y,hy,rfl⟩:=List.mem_map.1 he
       exact fre_ok h1 (hx y hy) (q1 y hy)
   · exact h3 e (List.mem_of_mem_drop he)
 · have hk:keysE (spl l a x.length (x.map (fre ks)))=keysE l:=by
    have hm:(x.map (fre ks)).map (fun e=>e.i.k)=x.map fun y=>y.k:=by rw [List.map_map];rfl
    unfold keysE at q2 ⊢
    rw [spl_map,hm,q2]
    unfold spl
    rw [← List.drop_drop,List.append_assoc,List.take_append_drop,List.take_append_drop]
   rw [hk];exact h4
theorem inR_nat {a c n:Int} (h:inR a c n=true):0≤a∧0≤c∧a+c≤n:=by
 unfold inR at h
 simp only [Bool.and_eq_true,decide_eq_true_eq] at h
 omega
theorem ap_ck {ks:List Kd} {cap:Int} {l:List En} {n:Nt} (hn:NtIn ks n) (hc:ckE ks cap l=0) (h:apE ks cap l n=0):ckE ks cap (apL ks l n)=0:=by
 unfold apE at h
 split at h
 · rename_i h1;exact absurd h h1
 · rename_i hE
   split at h
   · rename_i h1;exact absurd h h1
   · rename_i hF
     have hF:apF ks cap l n=0:=by simpa using hF
     have hx:=hn.x
     unfold apF at hF
     unfold apL at h ⊢
     split at hF
     · rename_i hk
       rw [if_pos hk] at h ⊢
       split at hF
       · simp at hF
       · split at hF
         · simp at hF
         · exact ck_ins hc _ hx (by omega) hF h
     · rename_i hk
       rw [if_neg hk] at h ⊢
       split at hF
       · rename_i hk;rw [if_pos hk] at h ⊢;exact ck_sub (spl_sub _ _ _) hc h
       · rename_i hk
         rw [if_neg hk] at h ⊢
         split at hF
         · rename_i hk;rw [if_pos hk] at h ⊢;exact ck_perm (mov_perm _ _ _ _) hc h
         · rename_i hk
           rw [if_neg hk] at h ⊢
           split at hF
           · rename_i hk
             rw [if_pos hk] at h ⊢
             split at hF
             · simp at hF
             · rename_i hi
               have:=inR_nat (by simpa using hi)
               exact ck_chg hc _ hx (by omega) hF h
           · rename_i hk
             rw [if_neg hk] at h ⊢
             split at hF
             · simp at hF
             · exact ck_res (ckE_ru hc) hx (by omega) hF h
end Go.D
end
section
namespace Go.D
open Go Go.Pav Go.Pw P
attribute [-simp] List.getElem_cons_drop
variable {C:WProg}
def insF {α:Type} (a:Nat) (X:List α):Nat→List α→List α
 | i,[]=>if i=a then X else []
 | i,e::r=>(if i=a then X else [])++e::insF a X (i+1) r
theorem insF_no {α:Type} (a:Nat) (X:List α):∀ (l:List α) (i:Nat),a < i→insF a X i l=l
 | [],i,h=>by rw [insF,if_neg (by omega)]
 | e::r,i,h=>by rw [insF,if_neg (by omega),insF_no a X r (i+1) (by omega)];rfl
theorem insF_eq {α:Type} (a:Nat) (X:List α):∀ (l:List α) (i:Nat),i≤a→a≤i+l.length→insF a X i l=l.take (a - i)++X++l.drop (a - i)
 | [], i, h, h2 => by simp at h2; obtain rfl : i = a := by omega
                      simp [insF]
 | e::r,i,h,h2=>by
  rw [insF]
  by_cases c:i=a
  · rw [if_pos c,insF_no a X r (i+1) (by omega),show a - i=0 by omega];simp
  · simp at h2
    rw [if_neg c,insF_eq a X r (i+1) (by omega) (by omega),show a - i=(a - (i+1))+1 by omega];simp
theorem insF_spl {α:Type} (a:Nat) (X:List α) (l:List α) (h:a≤l.length):insF a X 0 l=spl l a 0 X:=by
 rw [insF_eq a X l 0 (by omega) (by omega)];unfold spl;simp
structure HasRi (C:WProg):Prop extends HasNb C where
 f461:C.fns.get 461=some w461
 f463:C.fns.get 463=some w463
theorem rins_in (H:HasRi C) (ks:List Kd) (ke:Bool) (cap:Int) (l:List En) (le:Bool) (x:List It) (xe:Bool) (hxl:x.length≤1024) (hx:∀ y ∈ x,ItIn y)
 (hf:∀ y ∈ x,FnW C 240 [aR ks ke cap,eIt y]=some (aE (fre ks y))) (a i:Int) (R:Option AV):∀ n j,n+j=x.length→∀ G:List En,G.length+n≤3000 →
 (CK C 0 (pureFin [.tmp 8,.tmp 9]) [.bk 1 ⟨true,[11,10,4,3,2,1],[]⟩,.sq w461_c1,.sq w461_L0,.bk 0 ⟨true,[10],[]⟩,.sq w461_c0] w461_c2
  ⟨[(11,.int .i64 i),(10,.sl 0 6 0 (G.length+n) (G.length+n) false),(4,.ptr 1 0 0),(3,.ro 4 (x.map cIt) xe),(2,.int .i64 a),(1,.ro 6 (l.map eEn) le)],[(0,.cells 6 ((G++(x.drop j).map (fre ks)).map eEn) true true),(1,.cells 2 [[.ro 9 (ks.map eKd) ke,.int .i64 cap]] true true)],2⟩=R) →
 w461_K1 C ⟨[(12,.int .i64 j),(11,.int .i64 i),(10,.sl 0 6 0 G.length G.length false),(4,.ptr 1 0 0),(3,.ro 4 (x.map cIt) xe),(2,.int .i64 a),(1,.ro 6 (l.map eEn) le)],[(0,.cells 6 (G.map eEn) true true),(1,.cells 2 [[.ro 9 (ks.map eKd) ke,.int .i64 cap]] true true)],2⟩=R:=by
 intro n
 induction n with
 | zero =>
  intro j hj G hG hR
  have h1:x.drop j=[]:=List.drop_eq_nil_of_le (by omega)
  have h3:¬ j < x.length:=by omega
  rw [h1] at hR
  simp only [w461_K1];rw [ck_unf w461_B1.eq_1]
  simp at hR
  simp (disch:=omega) [h3,hR]
 | succ n ih =>
  intro j hj G hG hR
  have h1:j < x.length:=by omega
  have hfit:(G.length+1) * 73≤35184372088832:=by omega
  have hj2:=hf x[j] (List.getElem_mem h1)
  rw [drop_cons h1] at hR
  have this:=ih (j+1) (by omega) (G++[fre ks x[j]]) (by simp;omega) (by
   have e1:(G++[fre ks x[j]]).length+n=G.length+(n+1):=by simp;omega
   rw [e1,List.append_assoc]
   exact hR)
  simp only [w461_K1] at this ⊢;rw [ck_unf w461_B1.eq_1]
  try simp [fre] at this
  try simp only [aE,eEn,eIt,fre] at hj2
  simp (disch:=omega) [h1,hj2,hfit,wI64,H.inl,inlB,H.pp,ppB,this]
def rfO (o:List En):AV:=if ovE o≠0 then .tup [.ro 6 [] true,.int .i64 13] else .tup [.ro 6 (o.map eEn) false,.int .i64 0]
def rest (a:Nat) (X l:List En) (i:Nat):List En:=if i≤l.length then insF a X i (l.drop i) else []
theorem rins_end (H:HasRi C) (o:List En) (hs:∀ x ∈ o,EnIn x) (hl:o.length≤3000) (h:WHeap) :
 CK C 0 (pureFin [.tmp 8,.tmp 9]) [] w461_c0 ⟨[(10,.sl 0 6 0 o.length o.length false)],[(0,.cells 6 (o.map eEn) true true)],1⟩=some (rfO o):=by
 have hv:=rover_ok H.toHasU2.toHasO.toHasK.toHasL o false (by omega) hs
 have h13:ovE o=0∨ovE o=13:=by unfold ovE;split <;> simp
 unfold rfO
 rcases h13 with h0 | h0
 · rw [h0] at hv
   rw [h0,if_neg (by simp)]
   cases o with
   | nil=>simp at hv;simp [ck_unf w461_c0.eq_1,hv,H.inl,inlB,H.pp,ppB]
   | cons g G=>simp at hv;simp (disch:=(first | omega | (simp;done) | (simp;omega))) [ck_unf w461_c0.eq_1,hv,List.take_of_length_le,H.inl,inlB,H.pp,ppB]
 · rw [h0] at hv
   rw [h0,if_pos (by simp)]
   cases o with
   | nil=>simp at hv;simp [ck_unf w461_c0.eq_1,hv,H.inl,inlB,H.pp,ppB]
   | cons g G=>simp at hv;simp (disch:=(first | omega | (simp;done) | (simp;omega))) [ck_unf w461_c0.eq_1,hv,List.take_of_length_le,H.inl,inlB,H.pp,ppB]
theorem rins_loop (H:HasRi C) (ks:List Kd) (ke:Bool) (cap:Int) (l:List En) (le:Bool) (hll:l.length≤1024) (x:List It) (xe:Bool) (hxl:x.length≤1024) (hx:∀ y ∈ x,ItIn y)
 (hf:∀ y ∈ x,FnW C 240 [aR ks ke cap,eIt y]=some (aE (fre ks y))) (a:Nat):∀ n i,n+i=l.length+1→∀ G:List En,G.length+n+(if i≤a then x.length else 0)≤2900 →
 (∀ e ∈ G++rest a (x.map (fre ks)) l i,EnIn e) →
 w461_K0 C ⟨[(11,.int .i64 i),(10,.sl 0 6 0 G.length G.length false),(4,.ptr 1 0 0),(3,.ro 4 (x.map cIt) xe),(2,.int .i64 a),(1,.ro 6 (l.map eEn) le)],[(0,.cells 6 (G.map eEn) true true),(1,.cells 2 [[.ro 9 (ks.map eKd) ke,.int .i64 cap]] true true)],2⟩ =
  some (rfO (G++rest a (x.map (fre ks)) l i)):=by
 intro n
 induction n with
 | zero =>
  intro i hi G hG hs
  have h3:¬ i≤l.length:=by omega
  have hr:rest a (x.map (fre ks)) l i=[]:=by unfold rest;rw [if_neg h3]
  rw [hr,List.append_nil] at hs ⊢
  have he:=rins_end H G hs (by omega) []
  simp only [w461_K0];rw [ck_unf w461_B0.eq_1]
  simp (disch:=omega) [h3,he]
 | succ n ih =>
  intro i hi G hG hs
  have h1:i≤l.length:=by omega
  have tail:∀ G':List En,G'.length+(n+1)+(if i+1≤a then x.length else 0)≤2900→(∀ e ∈ G'++((l.drop i).take 1++rest a (x.map (fre ks)) l (i+1)),EnIn e) →
   CK C 0 (pureFin [.tmp 8,.tmp 9]) [.bk 1 ⟨true,[11,10,4,3,2,1],[]⟩,.sq w461_c1,.sq w461_L0,.bk 0 ⟨true,[10],[]⟩,.sq w461_c0] w461_c2
    ⟨[(11,.int .i64 i),(10,.sl 0 6 0 G'.length G'.length false),(4,.ptr 1 0 0),(3,.ro 4 (x.map cIt) xe),(2,.int .i64 a),(1,.ro 6 (l.map eEn) le)],[(0,.cells 6 (G'.map eEn) true true),(1,.cells 2 [[.ro 9 (ks.map eKd) ke,.int .i64 cap]] true true)],2⟩ =
   some (rfO (G'++((l.drop i).take 1++rest a (x.map (fre ks)) l (i+1)))):=by
   intro G' hG' hs'
   have hfit:(G'.length+1) * 73≤35184372088832:=by omega
   by_cases c:i < l.length
   · have hd:(l.drop i).take 1=[l[i]]:=by rw [drop_cons c];rfl
     rw [hd] at hs' ⊢
     have this:=ih (i+1) (by omega) (G'++[l[i]]) (by simp;omega) (by rw [List.append_assoc];exact hs')
     rw [List.append_assoc] at this
     generalize rfO (G'++([l[i]]++rest a (x.map (fre ks)) l (i+1)))=Q at *
     simp only [w461_K0] at this
     rw [ck_unf w461_c2.eq_1]
     simp at this
     simp (disch:=omega) [ck_unf w461_c1.eq_1,c,hfit,wI64,this]
   · have hd:(l.drop i).take 1=[]:=by rw [List.drop_eq_nil_of_le (by omega)];rfl
     rw [hd,List.nil_append] at hs' ⊢
     have this:=ih (i+1) (by omega) G' (by omega) hs'
     generalize rfO (G'++rest a (x.map (fre ks)) l (i+1))=Q at *
     simp only [w461_K0] at this
     rw [ck_unf w461_c2.eq_1]
     simp at this
     simp (disch:=omega) [ck_unf w461_c1.eq_1,c,hfit,wI64,this]
  have hrest:rest a (x.map (fre ks)) l i=(if i=a then x.map (fre ks) else [])++((l.drop i).take 1++rest a (x.map (fre ks)) l (i+1)):=by
   unfold rest
   rw [if_pos h1]
   by_cases c:i < l.length
   · have c2:i+1≤l.length:=by omega
     rw [if_pos c2,drop_cons c,insF];rfl
   · have c2:¬ i+1≤l.length:=by omega
     rw [if_neg c2,List.drop_eq_nil_of_le (by omega),insF];simp
  rw [hrest] at hs ⊢
  by_cases c:i=a
  · subst c
    rw [if_pos rfl] at hs ⊢
    rw [if_pos (Nat.le_refl _)] at hG
    have ht:=tail (G++x.map (fre ks)) (by rw [if_neg (by omega)];simp;omega) (by rw [List.append_assoc];exact hs)
    rw [List.append_assoc] at ht
    generalize rfO (G++(x.map (fre ks)++((l.drop i).take 1++rest i (x.map (fre ks)) l (i+1))))=Q at *
    have this:=rins_in H ks ke cap l le x xe hxl hx hf i i (some Q) x.length 0 (by simp) G (by omega) (by
     rw [List.drop_zero]
     have e1:(G++x.map (fre ks)).length=G.length+x.length:=by simp
     rw [← e1]
     exact ht)
    simp only [w461_K1] at this
    simp only [w461_K0];rw [ck_unf w461_B0.eq_1]
    simp at this
    simp (disch:=omega) [h1,wI64,this]
  · rw [if_neg c,List.nil_append] at hs ⊢
    have c':¬ (i:Int)=a:=by omega
    have hfit:(G.length+1) * 73≤35184372088832:=by split at hG <;> omega
    by_cases d:i < l.length
    · have hd:(l.drop i).take 1=[l[i]]:=by rw [drop_cons d];rfl
      rw [hd] at hs ⊢
      have this:=ih (i+1) (by omega) (G++[l[i]]) (by simp;split <;> split at hG <;> omega) (by rw [List.append_assoc];exact hs)
      rw [List.append_assoc] at this
      generalize rfO (G++([l[i]]++rest a (x.map (fre ks)) l (i+1)))=Q at *
      simp only [w461_K0] at this ⊢;rw [ck_unf w461_B0.eq_1]
      simp at this
      simp (disch:=omega) [ck_unf w461_c2.eq_1,ck_unf w461_c1.eq_1,h1,c,c',d,hfit,wI64,this]
    · have hd:(l.drop i).take 1=[]:=by rw [List.drop_eq_nil_of_le (by omega)];rfl
      rw [hd,List.nil_append] at hs ⊢
      have this:=ih (i+1) (by omega) G (by split <;> split at hG <;> omega) hs
      generalize rfO (G++rest a (x.map (fre ks)) l (i+1))=Q at *
      simp only [w461_K0] at this ⊢;rw [ck_unf w461_B0.eq_1]
      simp at this
      simp (disch:=omega) [ck_unf w461_c2.eq_1,ck_unf w461_c1.eq_1,h1,c,c',d,hfit,wI64,this]
theorem inR0 (a:Int) (n:Int):inR a 0 n=false↔a < 0∨n < a:=by
 unfold inR
 by_cases h1:0≤a <;> by_cases h2:a≤n <;> simp [h1,h2] <;> omega
theorem inc_nn (ks:List Kd) (cap:Int):∀ (x:List It) (seen:List Int),0≤incE ks cap seen x
 | [],_=>by simp [incE]
 | a::r,seen=>by
  rw [incE]
  have h:0≤itE ks cap a (seen.contains a.k):=by
   unfold itE
   split
   · simp
   · split
     · simp
     · split <;> simp
  split
  · exact h
  · exact inc_nn ks cap r _
theorem rins_ok (H:HasRi C) (ks:List Kd) (ke:Bool) (cap:Int) (l:List En) (le:Bool) (hll:l.length≤1024) (hs:∀ e ∈ l,EnIn e) (a:Int) (x:List It) (xe:Bool) (hx:∀ y ∈ x,ItIn y) (hxl:x.length≤10000)
 (hi:FnW C 532 [aR ks ke cap,.ro 6 (l.map eEn) le,.ro 4 (x.map cIt) xe]=some (.int .i64 (incE ks cap (keysE l) x)))
 (hf:incE ks cap (keysE l) x=0→∀ y ∈ x,FnW C 240 [aR ks ke cap,eIt y]=some (aE (fre ks y)))
 (hfe:incE ks cap (keysE l) x=0→∀ y ∈ x,EnIn (fre ks y)) :
 FnW C 461 [aR ks ke cap,.ro 6 (l.map eEn) le,.int .i64 a,.ro 4 (x.map cIt) xe] =
  some (if inR a 0 l.length=false then .tup [.ro 6 [] true,.int .i64 4] else if 1024 < (l.length:Int)+x.length then .tup [.ro 6 [] true,.int .i64 3] else if incE ks cap (keysE l) x≠0 then .tup [.ro 6 [] true,.int .i64 (incE ks cap (keysE l) x)] else rfO (spl l a.toNat 0 (x.map (fre ks)))):=by
 rw [fnW_eq H.f461 rfl]
 by_cases c1:a < 0
 · rw [if_pos ((inR0 _ _).2 (.inl c1))]
   simp (disch:=omega) [w461,c1,wI64,H.inl,inlB,H.pp,ppB]
 · by_cases c2:(l.length:Int) < a
   · rw [if_pos ((inR0 _ _).2 (.inr c2))]
     simp (disch:=omega) [w461,c1,c2,wI64,H.inl,inlB,H.pp,ppB]
   · rw [if_neg (fun h=>by have:=(inR0 _ _).1 h;omega)]
     by_cases c3:1024 < (l.length:Int)+x.length
     · rw [if_pos c3]
       simp (disch:=omega) [w461,c1,c2,c3,wI64,H.inl,inlB,H.pp,ppB]
     · rw [if_neg c3]
       have hnn:=inc_nn ks cap x (keysE l)
       by_cases c4:incE ks cap (keysE l) x=0
       · rw [if_neg (by simp [c4])]
         rw [c4] at hi
         obtain ⟨b,rfl⟩:∃ b:Nat,a=b:=⟨a.toNat,by omega⟩
         have h:=rins_loop H ks ke cap l le hll x xe (by omega) hx (hf c4) b (l.length+1) 0 (by simp) [] (by simp;omega) (by
          intro e he
          rw [List.nil_append] at he
          unfold rest at he
          rw [if_pos (by omega),List.drop_zero,insF_spl _ _ _ (by omega)] at he
          rcases List.mem_append.1 ((spl_perm _ _ _).mem_iff.1 he) with he | he
          · obtain ⟨y,hy,rfl⟩:=List.mem_map.1 he
            exact hfe c4 y hy
          · exact hs e he)
         unfold rest at h
         rw [List.nil_append,if_pos (by omega),List.drop_zero,insF_spl _ _ _ (by omega)] at h
         rw [Int.toNat_natCast]
         generalize rfO (spl l b 0 (x.map (fre ks)))=Q at *
         simp only [w461_K0] at h
         simp at h
         simp (disch:=omega) [w461,c1,c2,c3,hi,wI64,H.inl,inlB,H.pp,ppB,h]
       · rw [if_pos c4]
         have c5:0 < incE ks cap (keysE l) x:=by omega
         generalize incE ks cap (keysE l) x=E at *
         simp (disch:=omega) [w461,c1,c2,c3,hi,c4,c5,wI64,H.inl,inlB,H.pp,ppB]
theorem itE_t {ks:List Kd} {cap:Int} {y:It} (h:itE ks cap y false=0):y.t < ks.length:=by
 unfold itE at h
 split at h
 · simp at h
 · rename_i h1
   unfold itOk at h1
   simp only [Bool.not_eq_false,Bool.and_eq_true,decide_eq_true_eq] at h1
   exact h1.1.1.2
theorem itE_ok {ks:List Kd} {cap:Int} {y:It} (h:itE ks cap y false=0):itOk ks.length y=true:=by
 unfold itE at h
 split at h
 · simp at h
 · rename_i h1;simpa using h1
theorem rins_ok2 (H:HasRi C) (ks:List Kd) (ke:Bool) (cap:Int) (hr:RuIn ks) (l:List En) (le:Bool) (hll:l.length≤1024) (hs:∀ e ∈ l,EnIn e) (n:Nt) (hn:NtIn ks n) :
 FnW C 461 [aR ks ke cap,.ro 6 (l.map eEn) le,.int .i64 n.a,.ro 4 (n.x.map cIt) n.e] =
  some (if inR n.a 0 l.length=false then .tup [.ro 6 [] true,.int .i64 4] else if 1024 < (l.length:Int)+n.x.length then .tup [.ro 6 [] true,.int .i64 3] else if incE ks cap (keysE l) n.x≠0 then .tup [.ro 6 [] true,.int .i64 (incE ks cap (keysE l) n.x)] else rfO (spl l n.a.toNat 0 (n.x.map (fre ks)))):=by
 have hl2:=hn.l
 refine rins_ok H ks ke cap l le hll hs n.a n.x n.e hn.x hn.l (incoming_ok H.toHasU2.toHasO.toHasK ks ke cap hr l le (by omega) n.x n.e (by omega) hn.x) (fun hz y hy=>?_) (fun hz y hy=>?_)
 · have hi:=((inc_iff ks cap n.x _).1 hz).1 y hy
   exact rfresh_ok H.toHasU2.toHasO.toHasK ks ke cap y (hn.x y hy) (itE_t hi.1)
 · have hi:=((inc_iff ks cap n.x _).1 hz).1 y hy
   exact ⟨hn.x y hy,hn.b y hy (itE_ok hi.1)⟩
theorem rres_ok (H:HasRi C) (ks:List Kd) (ke:Bool) (cap:Int) (hr:RuIn ks) (n:Nt) (hn:NtIn ks n) :
 FnW C 463 [aR ks ke cap,.ro 4 (n.x.map cIt) n.e] =
  some (if 1024 < (n.x.length:Int) then .tup [.ro 6 [] true,.int .i64 3] else if incE ks cap [] n.x≠0 then .tup [.ro 6 [] true,.int .i64 (incE ks cap [] n.x)] else rfO (n.x.map (fre ks))):=by
 have h:=rins_ok2 H ks ke cap hr [] true (by simp) (by simp) { n with a:=0 } ⟨hn.x,hn.l,hn.b⟩
 have e1:inR 0 0 (([]:List En).length:Int)=true:=by decide
 have e2:keysE ([]:List En)=[]:=rfl
 have e3:∀ X:List En,spl [] (0:Int).toNat 0 X=X:=by intro X;simp [spl]
 simp only [e1,e2,e3,List.map_nil,List.length_nil,Int.natCast_zero,Int.zero_add] at h
 rw [if_neg (by decide)] at h
 have hQ:∃ L f E,(if 1024 < (n.x.length:Int) then AV.tup [.ro 6 [] true,.int .i64 3] else if incE ks cap [] n.x≠0 then .tup [.ro 6 [] true,.int .i64 (incE ks cap [] n.x)] else rfO (n.x.map (fre ks)))=.tup [.ro 6 L f,.int .i64 E]:=by
  unfold rfO
  repeat' split
  all_goals exact ⟨_,_,_,rfl⟩
 obtain ⟨L,f,E,hQ⟩:=hQ
 rw [hQ] at h ⊢
 rw [fnW_eq H.f463 rfl]
 simp (disch:=omega) [w463,h,wI64,H.inl,inlB,H.pp,ppB]
structure HasF (C:WProg):Prop extends HasG C
theorem itOk_2b {n:Int} {x:It} (h:itOk n x=true):itOk2 x=true:=by
 unfold itOk at h;unfold itOk2;simp at h ⊢;exact ⟨⟨h.1.1.1,h.1.2⟩,h.2⟩
theorem rnd14b {ks:List Kd} {cap:Int} (h:ruOk ks cap=true) {x:It} (hx:itOk ks.length x=true) (ht:0≤x.t):rndE (kdAt ks x.t).p x cap=0∨rndE (kdAt ks x.t).p x cap=14:=by
 have h2:=itOk_2b hx
 have h3:=itOk_t hx
 unfold ruOk at h
 simp only [Bool.and_eq_true,decide_eq_true_eq] at h
 unfold rndE
 rw [if_neg (by omega)]
 split
 · exact .inr rfl
 · rw [if_neg (by simp [h2])]
   split
   · exact .inr rfl
   · exact .inl rfl
structure HasC (C:WProg):Prop extends HasF C where
 f462:C.fns.get 462=some w462
def refR (o:List En):AV:=if ovE o≠0 then .tup [.ro 6 [] true,.int .i64 (ovE o)] else .tup [.ro 6 (o.map eEn) false,.int .i64 0]
theorem spl_step {α:Type} (G:List α) (j n:Nat) (y:α) (ys:List α) (h:j < G.length):spl G j (n+1) (y::ys)=spl (G.set j y) (j+1) n ys:=by
 unfold spl
 have h1:(G.set j y).take (j+1)=G.take j++[y]:=by
  rw [List.take_add_one,List.take_set_of_le (by omega),List.getElem?_set_self h];rfl
 have h2:(G.set j y).drop (j+1+n)=G.drop (j+(n+1)):=by
  rw [List.drop_set_of_lt (by omega)];congr 1;omega
 rw [h1,h2];simp
theorem spl_none {α:Type} (G:List α) (j:Nat):spl G j 0 []=G:=by unfold spl;simp
theorem rchg_put (H:HasC C) (ks:List Kd) (ke:Bool) (cap:Int) (hr:RuIn ks) (hok:ruOk ks cap=true) (l:List En) (e:Bool) (hl:l.length≤10000) (hs:∀ x ∈ l,EnIn x) (a:Nat) (x:List It) (xe:Bool) (hx:∀ y ∈ x,ItIn y) (hxl:a+x.length≤l.length)
 (hb:∀ y ∈ x,itOk ks.length y=true→-9223372036854775808≤(kdAt ks y.t).b∧(kdAt ks y.t).b≤9223372036854775807):∀ n i,n+i=x.length→∀ G:List En,G.length=l.length→(∀ y ∈ G,EnIn y) →
 w462_K0 C ⟨[(12,.int .i64 i),(10,.sl 0 6 0 l.length l.length false),(4,.ptr 1 0 0),(3,.ro 4 (x.map cIt) xe),(2,.int .i64 a),(1,.ro 6 (l.map eEn) e)],[(0,.cells 6 (G.map eEn) true true),(1,.cells 2 [[.ro 9 (ks.map eKd) ke,.int .i64 cap]] true true)],2⟩ =
  some (if chgE ks cap l (a+i) (x.drop i)≠0 then .tup [.ro 6 [] true,.int .i64 (chgE ks cap l (a+i) (x.drop i))] else refR (spl G (a+i) n ((x.drop i).map (fre ks)))):=by
 intro n
 induction n with
 | zero =>
  intro i hi G hG hGi
  have h1:x.drop i=[]:=List.drop_eq_nil_of_le (by omega)
  have h3:¬ i < x.length:=by omega
  have h6:List.take l.length (List.map eEn G)=List.map eEn G:=List.take_of_length_le (by simp;omega)
  have ho:=rover_ok H.toHasL G false (by omega) hGi
  rw [h1,chgE,if_neg (by simp),List.map_nil,spl_none]
  simp only [w462_K0];rw [ck_unf w462_B0.eq_1]
  unfold refR
  have hov:ovE G=0∨ovE G=13:=by unfold ovE;split <;> simp
  rcases hov with c | c
  · rw [c] at ho ⊢
    simp (disch:=omega) [ck_unf w462_c0.eq_1,h3,h6,ho,hG,H.inl,inlB,H.pp,ppB]
  · rw [c] at ho ⊢
    simp (disch:=omega) [ck_unf w462_c0.eq_1,h3,h6,ho,hG,H.inl,inlB,H.pp,ppB]
 | succ n ih =>
  intro i hi G hG hGi
  have h1:i < x.length:=by omega
  obtain ⟨j,hj⟩:∃ j,j=a+i:=⟨_,rfl⟩
  have hj1:j < l.length:=by omega
  have hj2:j < G.length:=by omega
  have hji:(a:Int)+i=j:=by omega
  have hxi:=hx _ (List.getElem_mem h1)
  have hii:=ritem_ok H.toHasK ks ke cap x[i] hxi hr false
  have hki:keyAt l j=l[j].i.k:=by unfold keyAt;rw [List.getElem?_eq_getElem hj1];rfl
  rw [← hj,drop_cons h1]
  simp only [aR,eIt,Bool.false_eq_true,if_false] at hii
  have hch:chgE ks cap l j (x[i]::x.drop (i+1))=if itOk ks.length x[i]=false then 6 else if l[j].i.k≠x[i].k then 9 else if rndE (kdAt ks x[i].t).p x[i] cap≠0 then rndE (kdAt ks x[i].t).p x[i] cap else chgE ks cap l (j+1) (x.drop (i+1)):=by
   rw [chgE,hki]
  by_cases c1:itOk ks.length x[i]=true
  · have hfr:=rfresh_ok H.toHasK ks ke cap x[i] hxi (itOk_t c1)
    have hrd:=rnd14b hok c1 hxi.t.1
    have hE:itE ks cap x[i] false=if rndE (kdAt ks x[i].t).p x[i] cap=0 then 0 else 14:=by unfold itE;simp [c1]
    rw [hE] at hii
    simp only [c1,Bool.true_eq_false,if_false] at hch
    by_cases c2:l[j].i.k=x[i].k
    · simp only [c2,ne_eq,not_true_eq_false,if_false] at hch
      rcases hrd with c3 | c3
      · rw [c3] at hii
        simp only [c3,not_true_eq_false,if_false] at hch
        rw [hch,List.map_cons,spl_step G j n _ _ hj2]
        have hbb:=hb _ (List.getElem_mem h1) c1
        have this:=ih (i+1) (by omega) (G.set j (fre ks x[i])) (by simpa using hG) (by
         intro y hy
         rcases List.mem_or_eq_of_mem_set hy with q | q
         · exact hGi y q
         · rw [q];exact ⟨hxi,hbb⟩)
        rw [show a+(i+1)=j+1 by omega] at this
        simp only [aR,eIt,aE,eEn,fre] at hfr
        generalize (if chgE ks cap l (j+1) (x.drop (i+1))≠0 then AV.tup [.ro 6 [] true,.int .i64 (chgE ks cap l (j+1) (x.drop (i+1)))] else refR (spl (G.set j (fre ks x[i])) (j+1) n ((x.drop (i+1)).map (fre ks))))=Z at *
        simp only [w462_K0] at this ⊢;rw [ck_unf w462_B0.eq_1]
        simp [List.map_set,fre] at this
        simp (disch:=omega) [h1,hji,hj1,hj2,hG,c2,hii,hfr,wI64,wU64,H.inl,inlB,H.pp,ppB,this]
      · rw [c3] at hii
        have hV:chgE ks cap l j (x[i]::x.drop (i+1))=14:=by rw [hch,c3];simp
        rw [hV,if_pos (by simp)]
        simp only [w462_K0];rw [ck_unf w462_B0.eq_1]
        simp (disch:=omega) [h1,hji,hj1,c2,hii,wI64,wU64,H.inl,inlB,H.pp,ppB]
    · have hV:chgE ks cap l j (x[i]::x.drop (i+1))=9:=by rw [hch,if_pos c2]
      rw [hV,if_pos (by simp)]
      have hE6:(if rndE (kdAt ks x[i].t).p x[i] cap=0 then (0:Int) else 14)≠6:=by split <;> simp
      generalize (if rndE (kdAt ks x[i].t).p x[i] cap=0 then (0:Int) else 14)=E0 at hii hE6
      simp only [w462_K0];rw [ck_unf w462_B0.eq_1]
      simp (disch:=omega) [h1,hji,hj1,c2,hii,hE6,wI64,wU64,H.inl,inlB,H.pp,ppB]
  · have c1':itOk ks.length x[i]=false:=by simpa using c1
    have hV:chgE ks cap l j (x[i]::x.drop (i+1))=6:=by rw [hch,if_pos c1']
    have hE:itE ks cap x[i] false=6:=by unfold itE;simp [c1']
    rw [hE] at hii
    rw [hV,if_pos (by simp)]
    simp only [w462_K0];rw [ck_unf w462_B0.eq_1]
    simp (disch:=omega) [h1,hii,wI64,wU64,H.inl,inlB,H.pp,ppB]
theorem rchg_copy (H:HasC C) (ks:List Kd) (ke:Bool) (cap:Int) (hr:RuIn ks) (hok:ruOk ks cap=true) (l:List En) (e:Bool) (hl:l.length≤10000) (hs:∀ x ∈ l,EnIn x) (a:Nat) (x:List It) (xe:Bool) (hx:∀ y ∈ x,ItIn y) (hxl:a+x.length≤l.length)
 (hb:∀ y ∈ x,itOk ks.length y=true→-9223372036854775808≤(kdAt ks y.t).b∧(kdAt ks y.t).b≤9223372036854775807):∀ n i,n+i=l.length→∀ G:List En,G=l.take i→G.length=i →
 w462_K1 C ⟨[(11,.int .i64 i),(10,.sl 0 6 0 G.length G.length false),(4,.ptr 1 0 0),(3,.ro 4 (x.map cIt) xe),(2,.int .i64 a),(1,.ro 6 (l.map eEn) e)],[(0,.cells 6 (G.map eEn) true true),(1,.cells 2 [[.ro 9 (ks.map eKd) ke,.int .i64 cap]] true true)],2⟩ =
  some (if chgE ks cap l a x≠0 then .tup [.ro 6 [] true,.int .i64 (chgE ks cap l a x)] else refR (spl l a x.length (x.map (fre ks)))):=by
 have h0:=rchg_put H ks ke cap hr hok l e hl hs a x xe hx hxl hb x.length 0 (by simp) l rfl hs
 rw [List.drop_zero,Nat.add_zero] at h0
 generalize (if chgE ks cap l a x≠0 then AV.tup [.ro 6 [] true,.int .i64 (chgE ks cap l a x)] else refR (spl l a x.length (x.map (fre ks))))=Z at *
 intro n
 induction n with
 | zero =>
  intro i hi G hG hGl
  have hic:i=l.length:=by omega
  subst hic
  rw [List.take_length] at hG
  subst hG
  have h3:¬ G.length < G.length:=by omega
  simp only [w462_K0] at h0
  simp at h0
  simp only [w462_K1];rw [ck_unf w462_B1.eq_1]
  simp (disch:=omega) [ck_unf w462_c1.eq_1,h3,h0,H.inl,inlB,H.pp,ppB]
 | succ n ih =>
  intro i hi G hG hGl
  have h1:i < l.length:=by omega
  have hfit:(G.length+1) * 73≤35184372088832:=by omega
  have:=ih (i+1) (by omega) (G++[l[i]]) (by rw [List.take_add_one,List.getElem?_eq_getElem h1,hG];rfl) (by simp;omega)
  simp only [w462_K1] at this ⊢;rw [ck_unf w462_B1.eq_1]
  simp at this
  simp (disch:=omega) [h1,hfit,wI64,H.inl,inlB,H.pp,ppB,this]
theorem rchange_ok (H:HasC C) (ks:List Kd) (ke:Bool) (cap:Int) (hr:RuIn ks) (hok:ruOk ks cap=true) (l:List En) (e:Bool) (hl:l.length≤10000) (hs:∀ x ∈ l,EnIn x) (a:Int) (x:List It) (xe:Bool) (hx:∀ y ∈ x,ItIn y) (hxl:x.length≤10000)
 (hb:∀ y ∈ x,itOk ks.length y=true→-9223372036854775808≤(kdAt ks y.t).b∧(kdAt ks y.t).b≤9223372036854775807) :
 FnW C 462 [aR ks ke cap,.ro 6 (l.map eEn) e,.int .i64 a,.ro 4 (x.map cIt) xe] =
  some (if inR a x.length l.length=false then .tup [.ro 6 [] true,.int .i64 4] else if chgE ks cap l a.toNat x≠0 then .tup [.ro 6 [] true,.int .i64 (chgE ks cap l a.toNat x)] else refR (spl l a.toNat x.length (x.map (fre ks)))):=by
 have hi:=inside_ok H.toHasL a x.length l.length (by omega)
 rw [fnW_eq H.f462 rfl]
 cases c:inR a x.length l.length
 · rw [c] at hi
   simp at hi
   rw [if_pos rfl]
   simp (disch:=omega) [w462,hi,H.inl,inlB,H.pp,ppB]
 · rw [c] at hi
   simp at hi
   rw [if_neg (by simp)]
   unfold inR at c
   simp at c
   obtain ⟨a',rfl⟩:∃ a':Nat,a=a':=⟨a.toNat,by omega⟩
   have h:=rchg_copy H ks ke cap hr hok l e hl hs a' x xe hx (by omega) hb l.length 0 (by simp) [] (by simp) rfl
   simp only [Int.toNat_natCast]
   generalize (if chgE ks cap l a' x≠0 then AV.tup [.ro 6 [] true,.int .i64 (chgE ks cap l a' x)] else refR (spl l a' x.length (x.map (fre ks))))=Z at *
   simp only [w462_K1] at h
   simp at h
   simp (disch:=omega) [w462,hi,h,H.inl,inlB,H.pp,ppB]
def setE:List En→Nat→Int→List En
 | [],_,_=>[]
 | e::r,0,s=>⟨e.i,s,true⟩::r
 | e::r,j+1,s=>e::setE r j s
def mvR {α:Type} (R M:List α) (t i:Nat):List α:=if i≤t then (R.take t).drop i++M++R.drop t else R.drop i
theorem mvR_spl {α:Type} (R M:List α) (t:Nat):mvR R M t 0=spl R t 0 M:=by unfold mvR spl;simp
theorem mvR_at {α:Type} (R M:List α) (t:Nat):mvR R M t t=M++R.drop t:=by
 unfold mvR;rw [if_pos (Nat.le_refl _),List.drop_eq_nil_of_le (by rw [List.length_take];omega)];simp
theorem mvR_gt {α:Type} (R M:List α) (t i:Nat) (h:t < i):mvR R M t i=R.drop i:=by unfold mvR;rw [if_neg (by omega)]
theorem mvR_step {α:Type} (R M:List α) (t i:Nat) (hi:i < R.length) (ht:i≠t) (htl:t≤R.length):mvR R M t i=R[i]::mvR R M t (i+1):=by
 by_cases c:i < t
 · unfold mvR
   rw [if_pos (by omega),if_pos (by omega)]
   have h:i < (R.take t).length:=by rw [List.length_take];omega
   rw [drop_cons h];simp
 · rw [mvR_gt _ _ _ _ (by omega),mvR_gt _ _ _ _ (by omega),drop_cons hi]
theorem rmove_tail (H:HasL C) (l:List En) (e:Bool) (a c t:Nat) (R:List En) (re:Bool) (hR:R.length≤1000000) (i:Nat) (hi:i≤R.length) (G:List En) (B:Nat) (hB:G.length+1≤B) (hBB:B≤300000000) (k:Int) (hk:i≠t∨c≤k)
 (Z:AV) (Y:List En→AV) (hY:∀ G:List En,G.length≤B→w242_K0 C ⟨[(13,.int .i64 ((i:Int)+1)),(12,.sl 0 6 0 G.length G.length false),(10,.ro 6 (R.map eEn) re),(3,.int .i64 t),(2,.int .i64 c),(1,.int .i64 a),(0,.ro 6 (l.map eEn) e)],[(0,.cells 6 (G.map eEn) true true)],1⟩=some (Y G))
 (hZ:Z=if i < R.length then Y (G++[R[i]?.getD ⟨⟨0,0,[],[],true⟩,0,false⟩]) else Y G) :
 w242_K1 C ⟨[(14,.int .i64 k),(13,.int .i64 i),(12,.sl 0 6 0 G.length G.length false),(10,.ro 6 (R.map eEn) re),(3,.int .i64 t),(2,.int .i64 c),(1,.int .i64 a),(0,.ro 6 (l.map eEn) e)],[(0,.cells 6 (G.map eEn) true true)],1⟩=some Z:=by
 have hfit:(G.length+1) * 73≤35184372088832:=by omega
 by_cases h1:i < R.length
 · have this:=hY (G++[R[i]]) (by simp;omega)
   have hz:Z=Y (G++[R[i]]):=by rw [hZ,if_pos h1];simp [h1]
   rw [hz]
   generalize Y (G++[R[i]])=Q at *
   simp only [w242_K0] at this
   simp only [w242_K1];rw [ck_unf w242_B1.eq_1]
   simp at this
   by_cases c1:i=t
   · have c2:¬ k < (c:Int):=by rcases hk with q | q;exact absurd c1 q;omega
     simp (disch:=omega) [ck_unf w242_c1.eq_1,ck_unf w242_c2.eq_1,eq_true c1,c2,h1,hfit,wI64,this]
   · simp (disch:=omega) [ck_unf w242_c1.eq_1,ck_unf w242_c2.eq_1,c1,h1,hfit,wI64,this]
 · have this:=hY G (by omega)
   have hz:Z=Y G:=by rw [hZ,if_neg h1]
   rw [hz]
   generalize Y G=Q at *
   simp only [w242_K0] at this
   simp only [w242_K1];rw [ck_unf w242_B1.eq_1]
   try simp at this
   by_cases c1:i=t
   · have c2:¬ k < (c:Int):=by rcases hk with q | q;exact absurd c1 q;omega
     simp (disch:=omega) [ck_unf w242_c1.eq_1,ck_unf w242_c2.eq_1,eq_true c1,c2,h1,wI64,this]
   · simp (disch:=omega) [ck_unf w242_c1.eq_1,ck_unf w242_c2.eq_1,c1,h1,wI64,this]
theorem rmove_in (H:HasL C) (l:List En) (e:Bool) (hl:l.length≤1000000) (a c t:Nat) (hac:a+c≤l.length) (R:List En) (re:Bool) (hR:R.length≤1000000) (ht:t≤R.length) (B:Nat) (hBB:B≤300000000)
 (Y:List En→AV) (hY:∀ G:List En,G.length≤B→w242_K0 C ⟨[(13,.int .i64 ((t:Int)+1)),(12,.sl 0 6 0 G.length G.length false),(10,.ro 6 (R.map eEn) re),(3,.int .i64 t),(2,.int .i64 c),(1,.int .i64 a),(0,.ro 6 (l.map eEn) e)],[(0,.cells 6 (G.map eEn) true true)],1⟩=some (Y G)) :
 ∀ n k,n+k=c→∀ G:List En,G.length+n+1≤B →
 w242_K1 C ⟨[(14,.int .i64 k),(13,.int .i64 t),(12,.sl 0 6 0 G.length G.length false),(10,.ro 6 (R.map eEn) re),(3,.int .i64 t),(2,.int .i64 c),(1,.int .i64 a),(0,.ro 6 (l.map eEn) e)],[(0,.cells 6 (G.map eEn) true true)],1⟩ =
  some (if t < R.length then Y (G++((l.take (a+c)).drop a).drop k++[R[t]?.getD ⟨⟨0,0,[],[],true⟩,0,false⟩]) else Y (G++((l.take (a+c)).drop a).drop k)):=by
 intro n
 induction n with
 | zero =>
  intro k hk G hG
  have h1:((l.take (a+c)).drop a).drop k=[]:=List.drop_eq_nil_of_le (by simp;omega)
  refine rmove_tail H l e a c t R re hR t ht G B (by omega) hBB k (.inr (by omega)) _ Y hY ?_
  rw [h1,List.append_nil]
 | succ n ih =>
  intro k hk G hG
  obtain ⟨j,hj⟩:∃ j:Nat,j=a+k:=⟨_,rfl⟩
  have h1:j < l.length:=by omega
  have h2:k < c:=by omega
  have hfit:(G.length+1) * 73≤35184372088832:=by omega
  have hd:((l.take (a+c)).drop a).drop k=l[j]::((l.take (a+c)).drop a).drop (k+1):=by
   rw [drop_cons (show k < ((l.take (a+c)).drop a).length by simp;omega)]
   subst hj
   simp
  have this:=ih (k+1) (by omega) (G++[l[j]]) (by simp;omega)
  rw [hd]
  have hA:∀ X:List En,G++l[j]::X=G++[l[j]]++X:=fun X=>by simp
  rw [hA]
  generalize (if t < R.length then Y (G++[l[j]]++((l.take (a+c)).drop a).drop (k+1)++[R[t]?.getD ⟨⟨0,0,[],[],true⟩,0,false⟩]) else Y (G++[l[j]]++((l.take (a+c)).drop a).drop (k+1)))=Q at *
  have hj2:(a:Int)+(k:Int)=j:=by omega
  simp only [w242_K1] at this ⊢;rw [ck_unf w242_B1.eq_1]
  simp at this
  simp (disch:=omega) [h1,h2,hj2,hfit,wI64,this]
theorem rmove_loop (H:HasL C) (l:List En) (e:Bool) (hl:l.length≤10000) (a c t:Nat) (hac:a+c≤l.length) (R:List En) (re:Bool) (hR:R.length≤10000) (ht:t≤R.length):∀ n i,n+i=R.length+1→∀ G:List En,G.length≤20000 * (i+1) →
 w242_K0 C ⟨[(13,.int .i64 i),(12,.sl 0 6 0 G.length G.length false),(10,.ro 6 (R.map eEn) re),(3,.int .i64 t),(2,.int .i64 c),(1,.int .i64 a),(0,.ro 6 (l.map eEn) e)],[(0,.cells 6 (G.map eEn) true true)],1⟩ =
  some (.tup [.ro 6 ((G++mvR R ((l.take (a+c)).drop a) t i).map eEn) false,.int .i64 0]):=by
 intro n
 induction n with
 | zero =>
  intro i hi G hG
  have h3:¬ i≤R.length:=by omega
  rw [mvR_gt _ _ _ _ (by omega),List.drop_eq_nil_of_le (by omega),List.append_nil]
  simp only [w242_K0];rw [ck_unf w242_B0.eq_1]
  cases G with
  | nil=>simp [ck_unf w242_c0.eq_1,h3]
  | cons g G=>simp (disch:=(first | omega | (simp;done) | (simp;omega))) [ck_unf w242_c0.eq_1,h3,List.take_of_length_le]
 | succ n ih =>
  intro i hi G hG
  have h1:i≤R.length:=by omega
  have hY:∀ G':List En,G'.length≤20000 * (i+2)→w242_K0 C ⟨[(13,.int .i64 ((i:Int)+1)),(12,.sl 0 6 0 G'.length G'.length false),(10,.ro 6 (R.map eEn) re),(3,.int .i64 t),(2,.int .i64 c),(1,.int .i64 a),(0,.ro 6 (l.map eEn) e)],[(0,.cells 6 (G'.map eEn) true true)],1⟩ =
   some ((fun G'=>AV.tup [.ro 6 ((G'++mvR R ((l.take (a+c)).drop a) t (i+1)).map eEn) false,.int .i64 0]) G'):=fun G' q=>by
   have:=ih (i+1) (by omega) G' (by omega)
   simpa using this
  have key:∀ Z,w242_K1 C ⟨[(14,.int .i64 0),(13,.int .i64 i),(12,.sl 0 6 0 G.length G.length false),(10,.ro 6 (R.map eEn) re),(3,.int .i64 t),(2,.int .i64 c),(1,.int .i64 a),(0,.ro 6 (l.map eEn) e)],[(0,.cells 6 (G.map eEn) true true)],1⟩=some Z →
   w242_K0 C ⟨[(13,.int .i64 i),(12,.sl 0 6 0 G.length G.length false),(10,.ro 6 (R.map eEn) re),(3,.int .i64 t),(2,.int .i64 c),(1,.int .i64 a),(0,.ro 6 (l.map eEn) e)],[(0,.cells 6 (G.map eEn) true true)],1⟩=some Z:=fun Z this=>by
   simp only [w242_K1] at this
   simp only [w242_K0];rw [ck_unf w242_B0.eq_1]
   simp (disch:=omega) [h1,wI64,this]
  refine key _ ?_
  by_cases c1:i=t
  · subst c1
    have:=rmove_in H l e (by omega) a c i hac R re (by omega) ht (20000 * (i+2)) (by omega) _ hY c 0 (by simp) G (by omega)
    rw [List.drop_zero] at this
    refine this.trans ?_
    rw [mvR_at]
    by_cases h2:i < R.length
    · rw [if_pos h2,mvR_gt _ _ _ _ (by omega),drop_cons h2];simp [h2]
    · rw [if_neg h2,mvR_gt _ _ _ _ (by omega),List.drop_eq_nil_of_le (show R.length≤i+1 by omega),List.drop_eq_nil_of_le (show R.length≤i by omega)];simp
  · refine rmove_tail H l e a c t R re (by omega) i h1 G (20000 * (i+2)) (by omega) (by omega) 0 (.inl c1) _ _ hY ?_
    by_cases h2:i < R.length
    · rw [if_pos h2,mvR_step _ _ _ _ h2 c1 ht];simp [h2]
    · rw [if_neg h2,mvR_gt _ _ _ _ (by omega),mvR_gt _ _ _ _ (by omega),List.drop_eq_nil_of_le (show R.length≤i+1 by omega),List.drop_eq_nil_of_le (show R.length≤i by omega)]
theorem rmove_ok (H:HasQ C) (l:List En) (e:Bool) (hl:l.length≤10000) (a c t:Int) :
 FnW C 242 [.ro 6 (l.map eEn) e,.int .i64 a,.int .i64 c,.int .i64 t]=some (if (inR a c l.length&&inR t 0 (l.length - c))=true then .tup [.ro 6 ((spl (spl l a.toNat c.toNat []) t.toNat 0 ((l.take (a.toNat+c.toNat)).drop a.toNat)).map eEn) false,.int .i64 0] else .tup [.ro 6 [] true,.int .i64 4]):=by
 have hw:=inside_ok H.toHasL a c l.length (by omega)
 have hrm:=rremove_ok H l e (by omega) a c
 rw [fnW_eq H.f242 rfl]
 cases c1:inR a c l.length
 · rw [c1] at hw
   simp at hw
   simp [w242,hw,H.inl,inlB,H.pp,ppB]
 · have hq:=c1
   unfold inR at hq
   simp at hq
   rw [c1] at hw hrm
   simp at hw
   have hw2:=inside_ok H.toHasL t 0 (l.length - c) (by omega)
   cases c2:inR t 0 (l.length - c)
   · rw [c2] at hw2
     simp at hw2
     simp (disch:=omega) [w242,wI64,hw,hw2,H.inl,inlB,H.pp,ppB]
   · have hq2:=c2
     unfold inR at hq2
     simp at hq2
     rw [c2] at hw2
     simp at hw2
     obtain ⟨a',rfl⟩:∃ a':Nat,a=a':=⟨a.toNat,by omega⟩
     obtain ⟨c',rfl⟩:∃ c':Nat,c=c':=⟨c.toNat,by omega⟩
     obtain ⟨t',rfl⟩:∃ t':Nat,t=t':=⟨t.toNat,by omega⟩
     have hlen:=spl_len l [] a' c' (by omega)
     simp only [Int.toNat_natCast] at hrm ⊢
     simp at hlen
     have h:=rmove_loop H.toHasL l e hl a' c' t' (by omega) (spl l a' c' []) false (by omega) (by omega) ((spl l a' c' []).length+1) 0 (by simp) [] (by simp)
     rw [List.nil_append,mvR_spl] at h
     generalize spl (spl l a' c' []) t' 0 ((l.take (a'+c')).drop a')=F at *
     generalize spl l a' c' []=R at *
     simp only [w242_K0] at h
     simp at h hrm
     simp (disch:=omega) [w242,wI64,hw,hw2,hrm,h,H.inl,inlB,H.pp,ppB]
structure HasNc (C:WProg):Prop extends HasRi C,HasC C,HasQ C
theorem ov_two (o:List En):ovE o=0∨ovE o=13:=by unfold ovE;split <;> simp
theorem rfO_ref (o:List En):rfO o=refR o:=by
 unfold rfO refR
 rcases ov_two o with h | h <;> simp [h]
def smx:List En→Int
 | []=>0
 | e::r=>imax e.s 0+smx r
theorem imax_nn (a:Int):0≤imax a 0:=by unfold imax;split <;> omega
theorem smx_nn:∀ l:List En,0≤smx l
 | []=>Int.le_refl _
 | e::r=>by have h1:=smx_nn r;have h2:=imax_nn e.s;rw [smx];omega
theorem totG_smx:∀ (l:List En) (s:Int),s≤4611686018427387904→(4611686018427387904 < totG s l↔4611686018427387904 < s+smx l)
 | [],s,_=>by rw [totG,smx,Int.add_zero]
 | e::r,s,h=>by
  rw [totG,smx]
  have h1:=smx_nn r
  have h2:=imax_nn e.s
  split
  · constructor <;> intro <;> omega
  · rw [totG_smx r _ (by omega),Int.add_assoc]
theorem ov_smx (l:List En):ovE l=0↔smx l≤4611686018427387904:=by
 unfold ovE tot
 have h:=totG_smx l 0 (by omega)
 rw [Int.zero_add] at h
 by_cases c:4611686018427387904 < totG 0 l
 · rw [if_pos c]
   have:=h.1 c
   constructor
   · intro h;simp at h
   · intro h;omega
 · rw [if_neg c]
   constructor
   · intro _
     exact Int.not_lt.1 fun h'=>c (h.2 h')
   · intro _;rfl
theorem smx_sub {l m:List En} (h:m.Sublist l):smx m≤smx l:=by
 induction h with
 | slnil=>exact Int.le_refl _
 | cons a _ ih=>have:=imax_nn a.s;rw [smx];omega
 | cons_cons a _ ih=>rw [smx,smx];omega
theorem smx_perm {l m:List En} (h:m.Perm l):smx m=smx l:=by
 induction h with
 | nil=>rfl
 | cons a _ ih=>rw [smx,smx,ih]
 | swap a b l=>simp only [smx];omega
 | trans _ _ h1 h2=>rw [h1,h2]
def rfE (E:Int):AV:=.tup [.ro 6 [] true,.int .i64 E]
theorem nestR (F:Int) (X:List En):(if F≠0 then rfE F else rfO X)=if (if F≠0 then F else ovE X)≠0 then rfE (if F≠0 then F else ovE X) else .tup [.ro 6 (X.map eEn) false,.int .i64 0]:=by
 by_cases h:F=0
 · rw [if_neg (by simp [h]),if_neg (c:=F≠0) (by simp [h])]
   unfold rfO
   rcases ov_two X with h | h <;> rw [h] <;> rfl
 · rw [if_pos h,if_pos (c:=F≠0) h,if_pos h]
theorem rnapply_eq (H:HasNc C) (ks:List Kd) (ke:Bool) (cap:Int) (hr:RuIn ks) (l:List En) (e:Bool) (hs:∀ x ∈ l,EnIn x) (hc:ckE ks cap l=0) (n:Nt) (hn:NtIn ks n) :
 FnW C 342 [aR ks ke cap,.ro 6 (l.map eEn) e,.agg (eNt n)]=some (if apE ks cap l n≠0 then rfE (apE ks cap l n) else .tup [.ro 6 ((apL ks l n).map eEn) false,.int .i64 0]):=by
 obtain ⟨hru,hll,_,_,hov⟩:=(ck_iff ks cap l).1 hc
 have hl2:=hn.l
 by_cases hE:ntE n=0
 · have key:FnW C (rtF n) (rtA (aR ks ke cap) (.ro 6 (l.map eEn) e) n)=some (if apE ks cap l n≠0 then rfE (apE ks cap l n) else .tup [.ro 6 ((apL ks l n).map eEn) false,.int .i64 0]):=by
    have hr5:1≤n.k∧n.k≤5:=by
     unfold ntE at hE
     split at hE
     · cases hE
     · omega
    have hA:apE ks cap l n=if apF ks cap l n≠0 then apF ks cap l n else ovE (apL ks l n):=by unfold apE;rw [if_neg (by rw [hE];simp)]
    rw [hA,← nestR]
    have hins:=rins_ok2 H.toHasRi ks ke cap hr l e hll hs n hn
    have hres:=rres_ok H.toHasRi ks ke cap hr n hn
    obtain ⟨k,a,c,t,x,xe⟩:=n
    simp only at hr5 hl2 hins hres
    have h5:k=1∨k=2∨k=3∨k=4∨k=5:=by omega
    rcases h5 with rfl | rfl | rfl | rfl | rfl
    · have h3:apL ks l ⟨1,a,c,t,x,xe⟩=spl l a.toNat 0 (x.map (fre ks)):=rfl
      have h4:apF ks cap l ⟨1,a,c,t,x,xe⟩=if inR a 0 l.length=false then 4 else if 1024 < (l.length:Int)+x.length then 3 else incE ks cap (keysE l) x:=rfl
      refine hins.trans ?_
      rw [h3,h4]
      by_cases c1:inR a 0 l.length=false
      · rw [if_pos c1,if_pos c1];rfl
      · rw [if_neg c1,if_neg c1]
        by_cases c2:1024 < (l.length:Int)+x.length
        · rw [if_pos c2,if_pos c2];rfl
        · rw [if_neg c2,if_neg c2];rfl
    · have h3:apL ks l ⟨2,a,c,t,x,xe⟩=spl l a.toNat c.toNat []:=rfl
      have h4:apF ks cap l ⟨2,a,c,t,x,xe⟩=if inR a c l.length=false then 4 else 0:=rfl
      refine (rremove_ok H.toHasQ l e (by omega) a c).trans ?_
      rw [h3,h4]
      by_cases c1:inR a c l.length=false
      · rw [if_neg (by simp [c1]),if_pos c1];rfl
      · have c1':inR a c l.length=true:=by simpa using c1
        have ho:ovE (spl l a.toNat c.toNat [])=0:=(ov_smx _).2 (Int.le_trans (smx_sub (spl_sub _ _ _)) ((ov_smx _).1 hov))
        rw [if_pos c1',if_neg c1,if_neg (by simp)]
        unfold rfO
        rw [ho,if_neg (by simp)]
    · have h3:apL ks l ⟨3,a,c,t,x,xe⟩=spl (spl l a.toNat c.toNat []) t.toNat 0 ((l.take (a.toNat+c.toNat)).drop a.toNat):=rfl
      have h4:apF ks cap l ⟨3,a,c,t,x,xe⟩=if (inR a c l.length&&inR t 0 (l.length - c))=false then 4 else 0:=rfl
      refine (rmove_ok H.toHasQ l e (by omega) a c t).trans ?_
      rw [h3,h4]
      by_cases c1:(inR a c l.length&&inR t 0 (l.length - c))=false
      · rw [if_neg (by simp [c1]),if_pos c1];rfl
      · have c1':(inR a c l.length&&inR t 0 (l.length - c))=true:=by simpa using c1
        have ho:ovE (spl (spl l a.toNat c.toNat []) t.toNat 0 ((l.take (a.toNat+c.toNat)).drop a.toNat))=0:=(ov_smx _).2 (by rw [smx_perm (mov_perm _ _ _ _)];exact (ov_smx _).1 hov)
        rw [if_pos c1',if_neg c1,if_neg (by simp)]
        unfold rfO
        rw [ho,if_neg (by simp)]
    · have h3:apL ks l ⟨4,a,c,t,x,xe⟩=spl l a.toNat x.length (x.map (fre ks)):=rfl
      have h4:apF ks cap l ⟨4,a,c,t,x,xe⟩=if inR a x.length l.length=false then 4 else chgE ks cap l a.toNat x:=rfl
      refine (rchange_ok H.toHasC ks ke cap hr hru l e (by omega) hs a x xe hn.x hn.l hn.b).trans ?_
      rw [h3,h4,rfO_ref]
      by_cases c1:inR a x.length l.length=false
      · rw [if_pos c1,if_pos c1];rfl
      · rw [if_neg c1,if_neg c1];rfl
    · have h3:apL ks l ⟨5,a,c,t,x,xe⟩=x.map (fre ks):=rfl
      have h4:apF ks cap l ⟨5,a,c,t,x,xe⟩=if 1024 < (x.length:Int) then 3 else incE ks cap [] x:=rfl
      refine hres.trans ?_
      rw [h3,h4]
      by_cases c1:1024 < (x.length:Int)
      · rw [if_pos c1,if_pos c1];rfl
      · rw [if_neg c1,if_neg c1];rfl
   generalize apE ks cap l n=E at *
   by_cases hE2:E=0
   · subst hE2
     simp only [ne_eq,not_true_eq_false,if_false] at key ⊢
     exact rnapply_ok H.toHasNa ks ke cap l e n (by omega) hE _ _ _ key
   · rw [if_pos hE2] at key ⊢
     exact rnapply_ok H.toHasNa ks ke cap l e n (by omega) hE _ _ _ key
 · have hA:apE ks cap l n=ntE n:=by unfold apE;rw [if_pos hE]
   rw [hA,if_pos hE]
   exact rnapply_bad H.toHasNa ks ke cap l e n (by omega) hE
end Go.D
end
section
namespace Go.D
open Go Go.Pav Go.Pw P
theorem own_two (l:List En):(l.map En.own).map En.own=l.map En.own:=by rw [List.map_map];rfl
theorem keys_own3 (l:List En):keysE (l.map En.own)=keysE l:=by unfold keysE;rw [List.map_map];rfl
theorem keyAt_own (l:List En) (j:Nat):keyAt (l.map En.own) j=keyAt l j:=by
 unfold keyAt
 rw [List.getElem?_map]
 cases l[j]? <;> rfl
theorem chgE_own (ks:List Kd) (cap:Int) (l:List En):∀ (x:List It) (j:Nat),chgE ks cap (l.map En.own) j x=chgE ks cap l j x
 | [],_=>rfl
 | a::r,j=>by rw [chgE,chgE,keyAt_own,chgE_own ks cap l r]
theorem apF_own (ks:List Kd) (cap:Int) (l:List En) (n:Nt):apF ks cap (l.map En.own) n=apF ks cap l n:=by
 unfold apF
 rw [List.length_map,keys_own3,chgE_own]
theorem apL_own (ks:List Kd) (l:List En) (n:Nt):(apL ks (l.map En.own) n).map En.own=(apL ks l n).map En.own:=by
 unfold apL
 split
 · rw [spl_map,spl_map,own_two]
 · split
   · rw [spl_map,spl_map,own_two]
   · split
     · rw [spl_map,spl_map,spl_map,spl_map,own_two]
       simp only [List.map_drop,List.map_take,own_two]
     · split
       · rw [spl_map,spl_map,own_two]
       · rfl
theorem apE_own (ks:List Kd) (cap:Int) (l:List En) (n:Nt):apE ks cap (l.map En.own) n=apE ks cap l n:=by
 unfold apE
 rw [apF_own,← ovE_own2 (apL ks (l.map En.own) n),apL_own,ovE_own2]
theorem enE_own (ks:List Kd) (cap:Int) (e:En) (b:Bool):enE ks cap e.own b=enE ks cap e b:=by
 have h:itE ks cap e.own.i b=itE ks cap e.i b:=by
  unfold itE
  have h1:itOk ks.length e.own.i=itOk ks.length e.i:=rfl
  have h2:rndE (kdAt ks e.own.i.t).p e.own.i cap=rndE (kdAt ks e.i.t).p e.i cap:=by
   unfold rndE
   have h3:itOk2 e.own.i=itOk2 e.i:=rfl
   have h4:mkN e.own.i (kdAt ks e.i.t).p=mkN e.i (kdAt ks e.i.t).p:=by unfold mkN;rw [show e.own.i=e.i.own from rfl,mk_own]
   have h5:e.own.i.t=e.i.t:=rfl
   rw [h5,h3,h4]
  rw [h1,h2]
 unfold enE
 rw [h]
 rfl
theorem ck_own (ks:List Kd) (cap:Int) (l:List En):ckE ks cap (l.map En.own)=0↔ckE ks cap l=0:=by
 rw [ck_iff,ck_iff,List.length_map,keys_own3,ovE_own2]
 constructor
 · rintro ⟨h1,h2,h3,h4⟩
   exact ⟨h1,h2,fun e he=>by rw [← enE_own];exact h3 _ (List.mem_map.2 ⟨e,he,rfl⟩),h4⟩
 · rintro ⟨h1,h2,h3,h4⟩
   refine ⟨h1,h2,fun e he=>?_,h4⟩
   obtain ⟨e',he',rfl⟩:=List.mem_map.1 he
   rw [enE_own];exact h3 _ he'
theorem spl_mem {α:Type} {l x:List α} {a c:Nat} {e:α} (h:e ∈ spl l a c x):e ∈ l∨e ∈ x:=by
 unfold spl at h
 rcases List.mem_append.1 h with h | h
 · rcases List.mem_append.1 h with h | h
   · exact .inl (List.mem_of_mem_take h)
   · exact .inr h
 · exact .inl (List.mem_of_mem_drop h)
theorem fre_in {ks:List Kd} {n:Nt} (hn:NtIn ks n) (h:∀ y ∈ n.x,itOk ks.length y=true):∀ e ∈ n.x.map (fre ks),EnIn e:=by
 intro e he
 obtain ⟨y,hy,rfl⟩:=List.mem_map.1 he
 exact ⟨hn.x y hy,hn.b y hy (h y hy)⟩
theorem ap_in {ks:List Kd} {cap:Int} {l:List En} {n:Nt} (hn:NtIn ks n) (hs:∀ e ∈ l,EnIn e) (h:apE ks cap l n=0):∀ e ∈ apL ks l n,EnIn e:=by
 unfold apE at h
 split at h
 · rename_i h1;exact absurd h h1
 · split at h
   · rename_i h1;exact absurd h h1
   · rename_i hF
     have hF:apF ks cap l n=0:=by simpa using hF
     unfold apF at hF
     unfold apL
     intro e he
     split at hF
     · rename_i hk
       rw [if_pos hk] at he
       split at hF
       · simp at hF
       · split at hF
         · simp at hF
         · rcases spl_mem he with he | he
           · exact hs e he
           · exact fre_in hn (fun y hy=>itE_ok (((inc_iff ks cap n.x _).1 hF).1 y hy).1) e he
     · rename_i hk
       rw [if_neg hk] at he
       split at hF
       · rename_i hk;rw [if_pos hk] at he;exact hs e ((spl_sub _ _ _).subset he)
       · rename_i hk
         rw [if_neg hk] at he
         split at hF
         · rename_i hk;rw [if_pos hk] at he;exact hs e ((mov_perm _ _ _ _).mem_iff.1 he)
         · rename_i hk
           rw [if_neg hk] at he
           split at hF
           · rename_i hk
             rw [if_pos hk] at he
             split at hF
             · simp at hF
             · rename_i hi
               have:=inR_nat (by simpa using hi)
               rcases spl_mem he with he | he
               · exact hs e he
               · exact fre_in hn (fun y hy=>itE_ok ((chg_ok ks cap l n.x _ (by omega) hF).1 y hy)) e he
           · rename_i hk
             rw [if_neg hk] at he
             split at hF
             · simp at hF
             · exact fre_in hn (fun y hy=>itE_ok (((inc_iff ks cap n.x _).1 hF).1 y hy).1) e he
structure Tg where
 f:Int
 b:Bool
 i:It
structure Ins (l:List En) (n:Nt):Prop where
 k:1≤n.k∧n.k≤5
 a:n.k≤4→0≤n.a∧n.a≤l.length
 c:n.k=2∨n.k=3→0≤n.c∧n.a+n.c≤l.length
 t:n.k=3→0≤n.t∧n.t≤l.length - n.c
 x:n.k=4→n.a+n.x.length≤l.length
 s:n.k=1→(l.length:Int)+n.x.length≤1024
 r:n.k=5→(n.x.length:Int)≤1024
theorem ins_of {ks:List Kd} {cap:Int} {l:List En} {n:Nt} (h:apE ks cap l n=0):Ins l n:=by
 unfold apE at h
 split at h
 · rename_i h1;exact absurd h h1
 · rename_i hE
   have hE:ntE n=0:=by simpa using hE
   have hk:1≤n.k∧n.k≤5:=by
    unfold ntE at hE
    split at hE
    · cases hE
    · omega
   split at h
   · rename_i h1;exact absurd h h1
   · rename_i hF
     have hF:apF ks cap l n=0:=by simpa using hF
     unfold apF at hF
     split at hF
     · rename_i k1
       split at hF
       · simp at hF
       · rename_i hi
         have:=inR_nat (by simpa using hi)
         split at hF
         · simp at hF
         · exact ⟨hk,fun _=>by omega,fun _=>by omega,fun _=>by omega,fun _=>by omega,fun _=>by omega,fun _=>by omega⟩
     · rename_i k1
       split at hF
       · rename_i k2
         split at hF
         · simp at hF
         · rename_i hi
           have:=inR_nat (by simpa using hi)
           exact ⟨hk,fun _=>by omega,fun _=>by omega,fun _=>by omega,fun _=>by omega,fun _=>by omega,fun _=>by omega⟩
       · rename_i k2
         split at hF
         · rename_i k3
           split at hF
           · simp at hF
           · rename_i hi
             have hi:inR n.a n.c l.length=true∧inR n.t 0 (l.length - n.c)=true:=by simpa using hi
             have h1:=inR_nat hi.1
             have h2:=inR_nat hi.2
             exact ⟨hk,fun _=>by omega,fun _=>by omega,fun _=>by omega,fun _=>by omega,fun _=>by omega,fun _=>by omega⟩
         · rename_i k3
           split at hF
           · rename_i k4
             split at hF
             · simp at hF
             · rename_i hi
               have:=inR_nat (by simpa using hi)
               exact ⟨hk,fun _=>by omega,fun _=>by omega,fun _=>by omega,fun _=>by omega,fun _=>by omega,fun _=>by omega⟩
           · rename_i k4
             split at hF
             · simp at hF
             · exact ⟨hk,fun _=>by omega,fun _=>by omega,fun _=>by omega,fun _=>by omega,fun _=>by omega,fun _=>by omega⟩
def allL (ks:List Kd):List En→List Nt→List En
 | l,[]=>l
 | l,n::r=>allL ks (apL ks l n) r
def allE (ks:List Kd) (cap:Int):List En→List Nt→Int
 | _,[]=>0
 | l,n::r=>if apE ks cap l n≠0 then apE ks cap l n else allE ks cap (apL ks l n) r
def allN (ks:List Kd) (cap:Int):List En→List Nt→Nat
 | _,[]=>0
 | l,n::r=>if apE ks cap l n≠0 then 0 else allN ks cap (apL ks l n) r+1
theorem all_ck {ks:List Kd} {cap:Int}:∀ (x:List Nt) (l:List En),(∀ n ∈ x,NtIn ks n)→ckE ks cap l=0→allE ks cap l x=0→ckE ks cap (allL ks l x)=0
 | [],_,_,hc,_=>hc
 | n::r,l,hx,hc,h=>by
  rw [allE] at h
  split at h
  · rename_i h1;exact absurd h h1
  · rename_i h1
    rw [allL]
    exact all_ck r _ (fun m hm=>hx m (List.mem_cons_of_mem _ hm)) (ap_ck (hx n (List.mem_cons_self ..)) hc (by simpa using h1)) h
theorem all_in {ks:List Kd} {cap:Int}:∀ (x:List Nt) (l:List En),(∀ n ∈ x,NtIn ks n)→(∀ e ∈ l,EnIn e)→allE ks cap l x=0→∀ e ∈ allL ks l x,EnIn e
 | [],_,_,hs,_=>hs
 | n::r,l,hx,hs,h=>by
  rw [allE] at h
  split at h
  · rename_i h1;exact absurd h h1
  · rename_i h1
    rw [allL]
    exact all_in r _ (fun m hm=>hx m (List.mem_cons_of_mem _ hm)) (ap_in (hx n (List.mem_cons_self ..)) hs (by simpa using h1)) h
theorem allE_own (ks:List Kd) (cap:Int):∀ (x:List Nt) (l m:List En),l.map En.own=m.map En.own→allE ks cap l x=allE ks cap m x∧allN ks cap l x=allN ks cap m x∧(allL ks l x).map En.own=(allL ks m x).map En.own
 | [],_,_,h=>⟨rfl,rfl,h⟩
 | n::r,l,m,h=>by
  have h1:apE ks cap l n=apE ks cap m n:=by rw [← apE_own,h,apE_own]
  have h2:(apL ks l n).map En.own=(apL ks m n).map En.own:=by rw [← apL_own,h,apL_own]
  obtain ⟨q1,q2,q3⟩:=allE_own ks cap r _ _ h2
  rw [allE,allE,allN,allN,h1,q1,q2]
  exact ⟨rfl,rfl,q3⟩
end Go.D
end
section
namespace Go.Rm
open Go Go.Pav Go.Pw P
attribute [-simp] List.getElem_cons_drop
abbrev eM (old:Int) (f:List Int) (e:Bool):AV:=.agg [.int .i64 old,L1 f e]
structure Has (C:WProg):Prop extends D.HasS C where
 f56:C.fns.get 56=some w56
 f1073:C.fns.get 1073=some w73
variable {C:WProg} (H:Has C)
include H
omit H in
def chkF (old:Int) (pre:List Int):List Int→Int
 | []=>0
 | k::r=>if k < -1∨old≤k then 4 else if 0≤k∧k ∈ pre then 8 else chkF old (pre++[k]) r
omit H in
def chk (old:Int) (f:List Int):Int:=if old < 0 then 1 else if 4096 < old∨4096 < (f.length:Int) then 3 else chkF old [] f
theorem check_loop (old:Int) (f:List Int) (e:Bool) (h0:0≤old) (h1:old≤4096) (h2:f.length≤4096):∀ n i,n+i=f.length→∀ seen:List Bool,seen.length=4096 →
 (∀ v:Nat,v < 4096→seen[v]?=some (decide ((v:Int) ∈ f.take i))) →
 w56_K0 C ⟨[(23,.int .i64 i),(22,.int .i64 f.length),(21,L1 f e),(3,.ptr 0 0 0),(1,.ptr 1 0 0)],[(0,.cells 4096 [seen.map AV.bool] true true),(1,.cells 2 [[.int .i64 old,L1 f e]] true true)],2⟩ =
  some (.int .i64 (chkF old (f.take i) (f.drop i))):=by
 have _h:=H
 intro n
 induction n with
 | zero =>
  intro i hi seen hl hs
  simp only [w56_K0];rw [ck_unf w56_B0.eq_1]
  have h3:¬ i < f.length:=by omega
  have h4:f.drop i=[]:=List.drop_eq_nil_of_le (by omega)
  simp [ck_unf w56_c0.eq_1,h3,h4,chkF]
 | succ n ih =>
  intro i hi seen hl hs
  have h3:i < f.length:=by omega
  have ih':=ih (i+1) (by omega)
  simp only [w56_K0] at ih' ⊢;rw [ck_unf w56_B0.eq_1]
  rw [drop_cons h3]
  by_cases c1:f[i] < -1
  · have c2:¬ -1≤f[i]:=by omega
    simp (disch:=omega) [h3,wI64,chkF,c1,c2]
  · have c2:-1≤f[i]:=by omega
    by_cases c3:old≤f[i]
    · simp (disch:=omega) [h3,wI64,chkF,c1,c2,c3]
    · by_cases c4:0≤f[i]
      · obtain ⟨k,hk⟩:∃ k:Nat,f[i]=k:=⟨f[i].toNat,by omega⟩
        have hk2:k < 4096:=by omega
        have hk3:k < seen.length:=by omega
        have hk4:k+1≤seen.length:=by omega
        have hsk:=hs k hk2
        have hft:f.take (i+1)=f.take i++[(k:Int)]:=by rw [List.take_succ_eq_append_getElem h3,hk]
        have:=ih' (seen.set k true) (by simpa using hl) (fun v hv=>by
         rw [hft,List.getElem?_set]
         by_cases q:k=v
         · subst q;simp [hk3]
         · have q2:¬ (v:Int)=(k:Int):=by omega
           rw [if_neg q,hs v hv];simp [q2])
        rw [hft] at this
        rw [hk] at c1 c2 c3 c4 ⊢
        by_cases c5:(k:Int) ∈ f.take i
        · rw [List.getElem?_eq_getElem hk3] at hsk
          simp (disch:=omega) [h3,wI64,chkF,c1,c2,c3,c4,c5,hk,hk2,hk3] at hsk ⊢
          simp (disch:=omega) [hsk]
        · rw [List.getElem?_eq_getElem hk3] at hsk
          simp at this
          simp (disch:=omega) [h3,wI64,chkF,c1,c2,c3,c4,c5,hk,hk2,hk3] at hsk ⊢
          simp (disch:=omega) [hsk,arr_set,wI64,hk4,this]
      · have hft:f.take (i+1)=f.take i++[f[i]]:=List.take_succ_eq_append_getElem h3
        have:=ih' seen hl (fun v hv=>by
         have q2:¬ (v:Int)=f[i]:=by omega
         rw [hft,hs v hv];simp only [List.mem_append,List.mem_singleton,q2,or_false])
        rw [hft] at this
        simp at this
        simp (disch:=omega) [h3,wI64,chkF,c1,c2,c3,c4,this]
theorem check_ok (old:Int) (f:List Int) (e:Bool):FnW C 56 [eM old f e]=some (.int .i64 (chk old f)):=by
 rw [fnW_eq H.f56 rfl]
 unfold chk
 by_cases c1:old < 0
 · simp [w56,c1]
 · by_cases c2:4096 < old
   · simp [w56,c1,c2]
   · by_cases c3:4096 < (f.length:Int)
     · simp [w56,c1,c2,c3]
     · have:=check_loop H old f e (by omega) (by omega) (by omega) f.length 0 (by simp) (rep 4096 false) (by simp) (fun v hv=>by rw [rep_get _ _ hv];simp)
       simp only [w56_K0] at this
       simp at this
       simp [w56,c1,c2,c3,this]
omit H in
structure Dat (caps:List AV):Prop where
 frz:∀ h,mapO (frzW h 16) caps=some caps
 reach:∀ h,caps.flatMap (reachW h 16)=[]
 ptr:hasPtrL caps=false
 refs:refsL caps=[]
 ren:∀ π,renL π caps=some caps
theorem made_loop (old:Int) (now:Nat) (g:Nat) (caps:List AV) (G:Nat→Int) (hd:Dat caps) (hg:D.ppB g=false) (hg2:D.inlB g=false) (hx:now≤4096) (hG:∀ i:Nat,i < now→FnW C g (.int .i64 i::caps)=some (.int .i64 (G i))):∀ n i,n+i=now→∀ acc:List Int,acc.length=i →
 w73_K0 C ⟨[(20,.int .i64 i),(19,.int .i64 now),(8,.ptr 0 0 0),(6,.ptr 2 0 0),(2,.fn g caps)],
  [(0,.cells 2 [[.int .i64 old,.sl 1 1 0 now now true]] true false),(1,.cells 1 (acc.map eI++List.replicate n [AV.int .i64 0]) true true),(2,.cells 2 [[.int .i64 0,.ro 1 [] true]] true true)],3⟩ =
  some (.tup [eM old (acc++(List.range' i n).map G) true,.int .i64 0]):=by
 intro n
 induction n with
 | zero =>
  intro i hi acc ha
  simp only [w73_K0];rw [ck_unf w73_B0.eq_1]
  have h3:¬ i < now:=by omega
  have h5:acc.length=now:=by omega
  have h6:List.take now (List.map eI acc)=List.map eI acc:=List.take_of_length_le (by simp [h5])
  simp [ck_unf w73_c0.eq_1,h3,h5,h6]
 | succ n ih =>
  intro i hi acc ha
  have h3:i < now:=by omega
  have:=ih (i+1) (by omega) (acc++[G i]) (by simp [ha])
  simp only [w73_K0] at this ⊢;rw [ck_unf w73_B0.eq_1]
  simp at this
  simp (disch:=omega) [h3,wI64,hd.frz,hd.reach,hd.ptr,hd.refs,hd.ren,hG,H.inl,H.pp,hg,hg2,List.range'_succ,fill_get,fill_set]
  exact this
theorem made_ok (old now:Int) (g:Nat) (caps:List AV) (G:Nat→Int) (hd:Dat caps) (hg:D.ppB g=false) (hg2:D.inlB g=false) (hn:0≤now) (hx:now≤4096) (hG:∀ i:Nat,(i:Int) < now→FnW C g (.int .i64 i::caps)=some (.int .i64 (G i))) :
 FnW C 1073 [.int .i64 old,.int .i64 now,.fn g caps]=some (.tup [eM old ((List.range now.toNat).map G) true,.int .i64 0]):=by
 obtain ⟨now,rfl⟩:∃ k:Nat,now=k:=⟨now.toNat,by omega⟩
 rw [fnW_eq H.f1073 rfl]
 cases now with
 | zero=>simp [w73,ck_unf w73_B0.eq_1,ck_unf w73_c0.eq_1,hd.refs,hd.ren]
 | succ now =>
  have:=made_loop H old (now+1) g caps G hd hg hg2 (by omega) (fun i hi=>hG i (by omega)) (now+1) 0 rfl [] rfl
  simp only [w73_K0] at this
  simp at this
  have h1:(0:Int) < (now:Int)+1:=by omega
  have h2:List.range' 0 (now+1)=List.range (now+1):=List.range_eq_range'.symm
  rw [h2] at this
  simp (disch:=omega) [w73,h1,fits,hd.refs,hd.ren,this]
end Go.Rm
end
section
namespace Go.D
open Go Go.Pav Go.Pw P
attribute [-simp] List.getElem_cons_drop
variable {C:WProg}
structure HasOn (C:WProg):Prop extends Rm.Has C
structure HasNe (C:WProg):Prop extends HasOn C,HasL C
theorem mid_get {α:Type} {P Q:List α} {i:Nat} {c:α} (h:P.length=i):(P++c::Q)[i]?=some c:=by
 rw [List.getElem?_append_right (by omega),h,Nat.sub_self];rfl
theorem mid_set {α:Type} {P Q:List α} {i:Nat} {c v:α} (h:P.length=i):(P++c::Q).set i v=P++v::Q:=by
 rw [List.set_append,if_neg (by omega),h,Nat.sub_self];rfl
theorem copy_loop (H:HasL C) (x:List It) (hl:x.length≤1000000) (hm:∀ y ∈ x,y.m.length≤1000000):∀ n i,n+i=x.length→∀ G:List It,G.length=i →
 w340_K0 C ⟨[(9,.int .i64 i),(8,.int .i64 x.length),(3,.sl 0 4 0 x.length x.length true)],[(0,.cells 4 (G.map cIt++(x.drop i).map cIt) true true)],1⟩=some (.ro 4 ((G++(x.drop i).map It.own).map cIt) true):=by
 intro n
 induction n with
 | zero =>
  intro i hi G hG
  have h1:x.drop i=[]:=List.drop_eq_nil_of_le (by omega)
  have h3:¬ i < x.length:=by omega
  have h7:G.length=x.length:=by omega
  have h6:List.take x.length (List.map cIt G)=List.map cIt G:=List.take_of_length_le (by simp;omega)
  simp only [w340_K0];rw [ck_unf w340_B0.eq_1]
  simp [ck_unf w340_c0.eq_1,h1,h3,h6,h7]
 | succ n ih =>
  intro i hi G hG
  have h1:i < x.length:=by omega
  have he:=exactS_ok H x[i].m x[i].e (hm _ (List.getElem_mem h1))
  have:=ih (i+1) (by omega) (G++[x[i].own]) (by simp [hG])
  rw [drop_cons h1]
  simp only [w340_K0] at this ⊢;rw [ck_unf w340_B0.eq_1]
  simp [It.own] at this
  have hg:(List.map cIt G).length=i:=by simpa using hG
  simp (disch:=omega) [h1,wI64,he,mid_get hg,mid_set hg,H.inl,inlB,H.pp,ppB,It.own,this]
theorem copy_ok (H:HasL C) (x:List It) (e:Bool) (hl:x.length≤1000000) (hm:∀ y ∈ x,y.m.length≤1000000):FnW C 340 [.ro 4 (x.map cIt) e]=some (.ro 4 ((x.map It.own).map cIt) true):=by
 have hg:=fun a h n=>rnW_eq (args:=[a]) H.f459 rfl h n
 rw [fnW_eq H.f340 rfl]
 by_cases hne:x=[]
 · subst hne
   simp [w340,ck_unf w340_B0.eq_1,ck_unf w340_c0.eq_1,hg,w459,H.inl,inlB,H.pp,ppB]
 · have h:=copy_loop H x hl hm x.length 0 (by simp) [] rfl
   have h2:x.length * 57≤35184372088832:=by omega
   have hT:List.take x.length (List.map cIt x)=List.map cIt x:=List.take_of_length_le (by simp)
   have hD:List.drop x.length (List.map cIt x)=[]:=List.drop_eq_nil_of_le (by simp)
   simp only [w340_K0] at h
   simp at h
   simp (disch:=omega) [w340,hne,h2,isE,hT,hD,hg,w459,h,H.inl,inlB,H.pp,ppB]
@[simp] def eNet (old:Int) (F:List Int) (fe:Bool) (fr:List Bool) (fre:Bool) (x:List It) (xe:Bool):List AV:=[.int .i64 old,.ro 1 (F.map eI) fe,.ro 1 (fr.map eB) fre,.ro 4 (x.map cIt) xe]
end Go.D
end
