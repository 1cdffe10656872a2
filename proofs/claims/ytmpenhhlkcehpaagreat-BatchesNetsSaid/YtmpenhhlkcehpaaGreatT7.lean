/- Part of the theory that the claims of this work use: E02, E03, E04, E06, E08, G01, N01, N02, N03, D30, D31, D38, N04, N05, N06, N07, N08, N09, D41, D42, D33, N10, N11, N12, M02, M03, M01, M04, M05, M06. No conditions of its own. -/
import Derived.Test.YtmpenhhlkcehpaaGreatT6
section
set_option linter.unusedSimpArgs false
set_option linter.unusedVariables false
namespace Go.D
open Go Go.Pav Go.Pw P
set_option maxRecDepth 10000
set_option maxHeartbeats 4000000
set_option linter.unusedSimpArgs false
set_option linter.unusedVariables false
attribute [-simp] List.getElem_cons_drop
variable {C:WProg}
end Go.D
end
section
set_option linter.unusedSimpArgs false
set_option linter.unusedVariables false
namespace Go.D
open Go Go.Pav Go.Pw P
set_option maxRecDepth 10000
set_option maxHeartbeats 4000000
set_option linter.unusedSimpArgs false
set_option linter.unusedVariables false
attribute [-simp] List.getElem_cons_drop
variable {C:WProg}
end Go.D
end
section
set_option linter.unusedSimpArgs false
set_option linter.unusedVariables false
namespace Go.D
open Go Go.Pav Go.Pw P
set_option maxRecDepth 10000
set_option maxHeartbeats 4000000
set_option linter.unusedSimpArgs false
set_option linter.unusedVariables false
attribute [-simp] List.getElem_cons_drop
variable {C:WProg}
end Go.D
end
section
set_option linter.unusedSimpArgs false
set_option linter.unusedVariables false
namespace Go.D
open Go Go.Pav Go.Pw P
set_option maxRecDepth 10000
set_option maxHeartbeats 4000000
set_option linter.unusedSimpArgs false
set_option linter.unusedVariables false
attribute [-simp] List.getElem_cons_drop
variable {C:WProg}
def bdBad (v least over:Int):Prop:=v < 1∨2147483648 < v∨least < 1∨2305843009213693952 < least∨over < 0∨16 < over
instance (v least over:Int):Decidable (bdBad v least over):=by unfold bdBad;infer_instance
end Go.D
end
section
set_option linter.unusedSimpArgs false
set_option linter.unusedVariables false
namespace Go.D
open Go Go.Pav Go.Pw P
set_option maxRecDepth 10000
set_option maxHeartbeats 4000000
set_option linter.unusedSimpArgs false
set_option linter.unusedVariables false
attribute [-simp] List.getElem_cons_drop
variable {C:WProg}
end Go.D
end
section
set_option linter.unusedSimpArgs false
set_option linter.unusedVariables false
namespace Go.Proofs.YtmpenhhlkcehpaaGreat
open Go.ChangeShapes Go.WideShapes Go.ChangeAt Go.RowKit Go.Pav Go.Pw P Go.D
theorem has_:HasG prog:={ f561:=rfl,f517:=rfl,f557:=rfl,f556:=rfl,f511:=rfl,f510:=rfl,f560:=rfl,f545:=rfl,f578:=rfl,f543:=rfl,f495:=rfl,f516:=rfl,f500:=rfl,inl:=rfl,pp:=rfl,f434:=rfl,f519:=rfl,f518:=rfl,f562:=rfl,f433:=rfl,f282:=rfl,f140:=rfl,f439:=rfl,f581:=rfl,f579:=rfl,f585:=rfl,f549:=rfl,f502:=rfl,f503:=rfl,f548:=rfl,f404:=rfl,f231:=rfl,f594:=rfl,f586:=rfl,f550:=rfl,f505:=rfl,f408:=rfl,f398:=rfl,f424:=rfl,f494:=rfl,f496:=rfl,f497:=rfl,f498:=rfl,f499:=rfl,f544:=rfl,f546:=rfl,f580:=rfl,f512:=rfl,f584:=rfl,f558:=rfl,f559:=rfl,f592:=rfl,f582:=rfl,f583:=rfl,f593:=rfl,f563:=rfl,f520:=rfl,f442:=rfl,f441:=rfl,f547:=rfl,f513:=rfl,f501:=rfl,f425:=rfl,f225:=rfl,f111:=rfl,f227:=rfl,f460:=rfl,f459:=rfl,f340:=rfl,f504:=rfl,f407:=rfl,f239:=rfl,f406:=rfl,f240:=rfl,f172:=rfl,f112:=rfl,f423:=rfl,f399:=rfl,f230:=rfl,f405:=rfl,f232:=rfl,f115:=rfl,f236:=rfl,f271:=rfl,f223:=rfl,f235:=rfl,f422:=rfl,f270:=rfl,f126:=rfl,f130:=rfl }
theorem ty_four {a:AV} (h:Ty (.slice [.int .u8,.int .u8,.int .u8,.int .u8]) a):∃ (xs:List Q4) (e:Bool),a=.ro 4 (xs.map eQ) e∧∀ s ∈ xs,QIn s:=by
 obtain ⟨es,e,rfl,_,hx⟩:=ty_slice h
 obtain ⟨xs,rfl,hr⟩:=ty_map2 (g:=eQ) (R:=QIn) (fun l q=>by
  obtain ⟨q1,q2⟩:=q
  match l,q1 with
  | [u,v,w,x],_ =>
   obtain ⟨n1,rfl,h1⟩:=ty_u8 (q2 0 _ u rfl rfl)
   obtain ⟨n2,rfl,h2⟩:=ty_u8 (q2 1 _ v rfl rfl)
   obtain ⟨n3,rfl,h3⟩:=ty_u8 (q2 2 _ w rfl rfl)
   obtain ⟨n4,rfl,h4⟩:=ty_u8 (q2 3 _ x rfl rfl)
   exact ⟨⟨n1,n2,n3,n4⟩,rfl,h1,h2,h3,h4⟩) es hx
 exact ⟨xs,e,rfl,hr⟩
theorem ty_bytes2 {a:AV} (h:Ty (.slice [.int .u8]) a):∃ (xs:List Int) (e:Bool),a=.ro 1 (xs.map eU8) e∧(∀ x ∈ xs,0≤x∧x≤255)∧xs.length < 9223372036854775808:=by
 obtain ⟨es,e,rfl,hl,hx⟩:=ty_slice h
 obtain ⟨xs,rfl,hr⟩:=ty_map2 (g:=eU8) (R:=fun x:Int=>0≤x∧x≤255) (fun l q=>by
  obtain ⟨q1,q2⟩:=q
  match l,q1 with
  | [v],_ =>
   obtain ⟨n,rfl,h1⟩:=ty_u8 (q2 0 _ v rfl rfl)
   exact ⟨n,rfl,h1⟩) es hx
 exact ⟨xs,e,rfl,hr,by simpa using hl⟩
end Go.Proofs.YtmpenhhlkcehpaaGreat
end
section
set_option linter.unusedSimpArgs false
set_option linter.unusedVariables false
namespace Go.D
open Go Go.Pav Go.Pw P
set_option maxRecDepth 10000
set_option maxHeartbeats 4000000
set_option linter.unusedSimpArgs false
set_option linter.unusedVariables false
attribute [-simp] List.getElem_cons_drop
variable {C:WProg}
structure Nt where
 k:Int
 a:Int
 c:Int
 t:Int
 x:List It
 e:Bool
@[simp] def eNt (n:Nt):List AV:=[.int .u8 n.k,.int .i64 n.a,.int .i64 n.c,.int .i64 n.t,.ro 4 (n.x.map cIt) n.e]
end Go.D
end
section
set_option linter.unusedSimpArgs false
set_option linter.unusedVariables false
namespace Go.D
open Go Go.Pav Go.Pw P
set_option maxRecDepth 10000
set_option maxHeartbeats 4000000
set_option linter.unusedSimpArgs false
set_option linter.unusedVariables false
attribute [-simp] List.getElem_cons_drop
variable {C:WProg}
end Go.D
end
section
set_option linter.unusedSimpArgs false
set_option linter.unusedVariables false
namespace Go.D
open Go Go.Pav Go.Pw P
set_option maxRecDepth 10000
set_option maxHeartbeats 4000000
set_option linter.unusedSimpArgs false
set_option linter.unusedVariables false
attribute [-simp] List.getElem_cons_drop
variable {C:WProg}
end Go.D
end
section
set_option linter.unusedSimpArgs false
set_option linter.unusedVariables false
namespace Go.D
open Go Go.Pav Go.Pw P
set_option maxRecDepth 10000
set_option maxHeartbeats 4000000
set_option linter.unusedSimpArgs false
set_option linter.unusedVariables false
attribute [-simp] List.getElem_cons_drop
variable {C:WProg}
theorem EnIn.ow {e:En} (h:EnIn e):EnIn e.own:=⟨⟨h.i.k,h.i.t,h.i.m⟩,h.s⟩
end Go.D
end
section
set_option linter.unusedSimpArgs false
set_option linter.unusedVariables false
namespace Go.D
open Go Go.Pav Go.Pw P
set_option maxRecDepth 10000
set_option maxHeartbeats 4000000
set_option linter.unusedSimpArgs false
set_option linter.unusedVariables false
attribute [-simp] List.getElem_cons_drop
variable {C:WProg}
@[simp] theorem oldRefs_zero:∀ h:WHeap,oldRefs 0 h=[]
 | []=>rfl
 | (b,o)::r=>by rw [oldRefs,if_neg (by omega),oldRefs_zero r]
@[simp] theorem renOld_zero (π:Nat→Option Nat):∀ h:WHeap,renOld 0 π h=some []
 | []=>rfl
 | (b,o)::r=>by rw [renOld,if_neg (by omega),renOld_zero π r]
end Go.D
end
section
set_option linter.unusedSimpArgs false
set_option linter.unusedVariables false
namespace Go.D
open Go Go.Pav Go.Pw P
set_option maxRecDepth 10000
set_option maxHeartbeats 4000000
set_option linter.unusedSimpArgs false
set_option linter.unusedVariables false
attribute [-simp] List.getElem_cons_drop
variable {C:WProg}
@[simp] theorem getp (h:WHeap) (n:Nat) (o:WObj) (k:Nat):Pav.get (Pav.put h n o) k=if n=k then some o else Pav.get h k:=get_put h n o k
end Go.D
end
section
set_option linter.unusedSimpArgs false
set_option linter.unusedVariables false
namespace Go.D
open Go Go.Pav Go.Pw P
set_option maxRecDepth 10000
set_option maxHeartbeats 4000000
set_option linter.unusedSimpArgs false
set_option linter.unusedVariables false
attribute [-simp] List.getElem_cons_drop
variable {C:WProg}
theorem totG_own2:∀ (l:List En) (s:Int),totG s (l.map En.own)=totG s l
 | [],_=>rfl
 | e::r,s=>by
  have h:(En.own e).s=e.s:=rfl
  simp only [List.map_cons,totG,h,totG_own2 r]
theorem ovE_own2 (l:List En):ovE (l.map En.own)=ovE l:=by unfold ovE tot;rw [totG_own2]
end Go.D
end
section
set_option linter.unusedSimpArgs false
set_option linter.unusedVariables false
namespace Go.D
open Go Go.Pav Go.Pw P
set_option maxRecDepth 10000
set_option maxHeartbeats 4000000
set_option linter.unusedSimpArgs false
set_option linter.unusedVariables false
end Go.D
end
section
set_option linter.unusedSimpArgs false
set_option linter.unusedVariables false
namespace Go.D
open Go Go.Pav Go.Pw P
set_option maxRecDepth 10000
set_option maxHeartbeats 4000000
set_option linter.unusedSimpArgs false
set_option linter.unusedVariables false
end Go.D
end
section
set_option linter.unusedSimpArgs false
set_option linter.unusedVariables false
namespace Go.D
open Go Go.Pav Go.Pw P
set_option maxRecDepth 10000
set_option maxHeartbeats 4000000
set_option linter.unusedSimpArgs false
set_option linter.unusedVariables false
end Go.D
end
section
set_option linter.unusedSimpArgs false
set_option linter.unusedVariables false
namespace Go.D
open Go Go.Pav Go.Pw P
set_option maxRecDepth 10000
set_option maxHeartbeats 4000000
set_option linter.unusedSimpArgs false
set_option linter.unusedVariables false
attribute [-simp] List.getElem_cons_drop
variable {C:WProg}
def insF {α:Type} (a:Nat) (X:List α):Nat→List α→List α
 | i,[]=>if i=a then X else []
 | i,e::r=>(if i=a then X else [])++e::insF a X (i+1) r
def rest (a:Nat) (X l:List En) (i:Nat):List En:=if i≤l.length then insF a X i (l.drop i) else []
end Go.D
end
section
set_option linter.unusedSimpArgs false
set_option linter.unusedVariables false
namespace Go.D
open Go Go.Pav Go.Pw P
set_option maxRecDepth 10000
set_option maxHeartbeats 4000000
set_option linter.unusedSimpArgs false
set_option linter.unusedVariables false
attribute [-simp] List.getElem_cons_drop
variable {C:WProg}
end Go.D
end
section
set_option linter.unusedSimpArgs false
set_option linter.unusedVariables false
namespace Go.D
open Go Go.Pav Go.Pw P
set_option maxRecDepth 10000
set_option maxHeartbeats 4000000
set_option linter.unusedSimpArgs false
set_option linter.unusedVariables false
attribute [-simp] List.getElem_cons_drop
variable {C:WProg}
end Go.D
end
section
set_option linter.unusedSimpArgs false
set_option linter.unusedVariables false
namespace Go.D
open Go Go.Pav Go.Pw P
set_option maxRecDepth 10000
set_option maxHeartbeats 4000000
set_option linter.unusedSimpArgs false
set_option linter.unusedVariables false
attribute [-simp] List.getElem_cons_drop
variable {C:WProg}
def setE:List En→Nat→Int→List En
 | [],_,_=>[]
 | e::r,0,s=>⟨e.i,s,true⟩::r
 | e::r,j+1,s=>e::setE r j s
end Go.D
end
section
set_option linter.unusedSimpArgs false
set_option linter.unusedVariables false
namespace Go.D
open Go Go.Pav Go.Pw P
set_option maxRecDepth 10000
set_option maxHeartbeats 4000000
set_option linter.unusedSimpArgs false
set_option linter.unusedVariables false
attribute [-simp] List.getElem_cons_drop
variable {C:WProg}
end Go.D
end
section
set_option linter.unusedSimpArgs false
set_option linter.unusedVariables false
namespace Go.D
open Go Go.Pav Go.Pw P
set_option maxRecDepth 10000
set_option maxHeartbeats 4000000
set_option linter.unusedSimpArgs false
set_option linter.unusedVariables false
attribute [-simp] List.getElem_cons_drop
variable {C:WProg}
end Go.D
end
section
set_option linter.unusedSimpArgs false
set_option linter.unusedVariables false
namespace Go.D
open Go Go.Pav Go.Pw P
set_option maxRecDepth 10000
set_option maxHeartbeats 4000000
set_option linter.unusedSimpArgs false
set_option linter.unusedVariables false
theorem enE_own (ks:List Kd) (cap:Int) (e:En) (b:Bool):enE ks cap e.own b=enE ks cap e b:=by
 have h:itE ks cap e.own.i b=itE ks cap e.i b:=by
  unfold itE
  have h1:itOk ks.length e.own.i=itOk ks.length e.i:=rfl
  have h2:rndE (kdAt ks e.own.i.t).p e.own.i cap=rndE (kdAt ks e.i.t).p e.i cap:=by
   unfold rndE
   have h3:itOk2 e.own.i=itOk2 e.i:=rfl
   have h4:mkN e.own.i (kdAt ks e.i.t).p=mkN e.i (kdAt ks e.i.t).p:=by unfold mkN;rw [show e.own.i=e.i.own from rfl,mk_own]
   have h5:e.own.i.t=e.i.t:=rfl
   rw [h5,h3,h4]
  rw [h1,h2]
 unfold enE
 rw [h]
 rfl
end Go.D
end
section
set_option linter.unusedSimpArgs false
set_option linter.unusedVariables false
namespace Go.D
open Go Go.Pav Go.Pw P
set_option maxRecDepth 10000
set_option maxHeartbeats 4000000
set_option linter.unusedSimpArgs false
set_option linter.unusedVariables false
end Go.D
end
section
set_option linter.unusedSimpArgs false
set_option linter.unusedVariables false
namespace Go.D
open Go Go.Pav Go.Pw P
set_option maxRecDepth 10000
set_option maxHeartbeats 4000000
set_option linter.unusedSimpArgs false
set_option linter.unusedVariables false
structure Tg where
 f:Int
 b:Bool
 i:It
end Go.D
end
section
set_option linter.unusedSimpArgs false
set_option linter.unusedVariables false
namespace Go.D
open Go Go.Pav Go.Pw P
set_option maxRecDepth 10000
set_option maxHeartbeats 4000000
set_option linter.unusedSimpArgs false
set_option linter.unusedVariables false
def cm (A F:List Int):List Int:=F.map fun k=>if 0≤k then A[k.toNat]?.getD 0 else -1
end Go.D
end
section
set_option linter.unusedSimpArgs false
set_option linter.unusedVariables false
namespace Go.Rm
open Go Go.Pav Go.Pw P
set_option maxRecDepth 10000
set_option maxHeartbeats 4000000
set_option linter.unusedSimpArgs false
set_option linter.unusedVariables false
attribute [-simp] List.getElem_cons_drop
abbrev eM (old:Int) (f:List Int) (e:Bool):AV:=.agg [.int .i64 old,L1 f e]
structure Has (C:WProg):Prop extends D.HasS C where
 f52:C.fns.get 52=some w52
 f56:C.fns.get 56=some w56
 f1073:C.fns.get 1073=some w73
 f74:C.fns.get 74=some w74
variable {C:WProg} (H:Has C)
include H
omit H in
def chkF (old:Int) (pre:List Int):List Int→Int
 | []=>0
 | k::r=>if k < -1∨old≤k then 4 else if 0≤k∧k ∈ pre then 8 else chkF old (pre++[k]) r
omit H in
def chk (old:Int) (f:List Int):Int:=if old < 0 then 1 else if 4096 < old∨4096 < (f.length:Int) then 3 else chkF old [] f
theorem check_loop (old:Int) (f:List Int) (e:Bool) (h0:0≤old) (h1:old≤4096) (h2:f.length≤4096):∀ n i,n+i=f.length→∀ seen:List Bool,seen.length=4096 →
 (∀ v:Nat,v < 4096→seen[v]?=some (decide ((v:Int) ∈ f.take i))) →
 w56_K0 C ⟨[(23,.int .i64 i),(22,.int .i64 f.length),(21,L1 f e),(3,.ptr 0 0 0),(1,.ptr 1 0 0)],[(0,.cells 4096 [seen.map AV.bool] true true),(1,.cells 2 [[.int .i64 old,L1 f e]] true true)],2⟩ =
  some (.int .i64 (chkF old (f.take i) (f.drop i))):=by
 have _h:=H
 intro n
 induction n with
 | zero =>
  intro i hi seen hl hs
  simp only [w56_K0];rw [ck_unf w56_B0.eq_1]
  have h3:¬ i < f.length:=by omega
  have h4:f.drop i=[]:=List.drop_eq_nil_of_le (by omega)
  simp [ck_unf w56_c0.eq_1,h3,h4,chkF]
 | succ n ih =>
  intro i hi seen hl hs
  have h3:i < f.length:=by omega
  have ih':=ih (i+1) (by omega)
  simp only [w56_K0] at ih' ⊢;rw [ck_unf w56_B0.eq_1]
  rw [drop_cons h3]
  by_cases c1:f[i] < -1
  · have c2:¬ -1≤f[i]:=by omega
    simp (disch:=omega) [h3,wI64,chkF,c1,c2]
  · have c2:-1≤f[i]:=by omega
    by_cases c3:old≤f[i]
    · simp (disch:=omega) [h3,wI64,chkF,c1,c2,c3]
    · by_cases c4:0≤f[i]
      · obtain ⟨k,hk⟩:∃ k:Nat,f[i]=k:=⟨f[i].toNat,by omega⟩
        have hk2:k < 4096:=by omega
        have hk3:k < seen.length:=by omega
        have hk4:k+1≤seen.length:=by omega
        have hsk:=hs k hk2
        have hft:f.take (i+1)=f.take i++[(k:Int)]:=by rw [List.take_succ_eq_append_getElem h3,hk]
        have:=ih' (seen.set k true) (by simpa using hl) (fun v hv=>by
         rw [hft,List.getElem?_set]
         by_cases q:k=v
         · subst q;simp [hk3]
         · have q2:¬ (v:Int)=(k:Int):=by omega
           rw [if_neg q,hs v hv];simp [q2])
        rw [hft] at this
        rw [hk] at c1 c2 c3 c4 ⊢
        by_cases c5:(k:Int) ∈ f.take i
        · rw [List.getElem?_eq_getElem hk3] at hsk
          simp (disch:=omega) [h3,wI64,chkF,c1,c2,c3,c4,c5,hk,hk2,hk3] at hsk ⊢
          simp (disch:=omega) [hsk]
        · rw [List.getElem?_eq_getElem hk3] at hsk
          simp at this
          simp (disch:=omega) [h3,wI64,chkF,c1,c2,c3,c4,c5,hk,hk2,hk3] at hsk ⊢
          simp (disch:=omega) [hsk,arr_set,wI64,hk4,this]
      · have hft:f.take (i+1)=f.take i++[f[i]]:=List.take_succ_eq_append_getElem h3
        have:=ih' seen hl (fun v hv=>by
         have q2:¬ (v:Int)=f[i]:=by omega
         rw [hft,hs v hv];simp only [List.mem_append,List.mem_singleton,q2,or_false])
        rw [hft] at this
        simp at this
        simp (disch:=omega) [h3,wI64,chkF,c1,c2,c3,c4,this]
theorem check_ok (old:Int) (f:List Int) (e:Bool):FnW C 56 [eM old f e]=some (.int .i64 (chk old f)):=by
 rw [fnW_eq H.f56 rfl]
 unfold chk
 by_cases c1:old < 0
 · simp [w56,c1]
 · by_cases c2:4096 < old
   · simp [w56,c1,c2]
   · by_cases c3:4096 < (f.length:Int)
     · simp [w56,c1,c2,c3]
     · have:=check_loop H old f e (by omega) (by omega) (by omega) f.length 0 (by simp) (rep 4096 false) (by simp) (fun v hv=>by rw [rep_get _ _ hv];simp)
       simp only [w56_K0] at this
       simp at this
       simp [w56,c1,c2,c3,this]
omit H in
structure Dat (caps:List AV):Prop where
 frz:∀ h,mapO (frzW h 16) caps=some caps
 reach:∀ h,caps.flatMap (reachW h 16)=[]
 ptr:hasPtrL caps=false
 refs:refsL caps=[]
 ren:∀ π,renL π caps=some caps
theorem made_loop (old:Int) (now:Nat) (g:Nat) (caps:List AV) (G:Nat→Int) (hd:Dat caps) (hg:D.ppB g=false) (hg2:D.inlB g=false) (hx:now≤4096) (hG:∀ i:Nat,i < now→FnW C g (.int .i64 i::caps)=some (.int .i64 (G i))):∀ n i,n+i=now→∀ acc:List Int,acc.length=i →
 w73_K0 C ⟨[(20,.int .i64 i),(19,.int .i64 now),(8,.ptr 0 0 0),(6,.ptr 2 0 0),(2,.fn g caps)],
  [(0,.cells 2 [[.int .i64 old,.sl 1 1 0 now now true]] true false),(1,.cells 1 (acc.map eI++List.replicate n [AV.int .i64 0]) true true),(2,.cells 2 [[.int .i64 0,.ro 1 [] true]] true true)],3⟩ =
  some (.tup [eM old (acc++(List.range' i n).map G) true,.int .i64 0]):=by
 intro n
 induction n with
 | zero =>
  intro i hi acc ha
  simp only [w73_K0];rw [ck_unf w73_B0.eq_1]
  have h3:¬ i < now:=by omega
  have h5:acc.length=now:=by omega
  have h6:List.take now (List.map eI acc)=List.map eI acc:=List.take_of_length_le (by simp [h5])
  simp [ck_unf w73_c0.eq_1,h3,h5,h6]
 | succ n ih =>
  intro i hi acc ha
  have h3:i < now:=by omega
  have:=ih (i+1) (by omega) (acc++[G i]) (by simp [ha])
  simp only [w73_K0] at this ⊢;rw [ck_unf w73_B0.eq_1]
  simp at this
  simp (disch:=omega) [h3,wI64,hd.frz,hd.reach,hd.ptr,hd.refs,hd.ren,hG,H.inl,H.pp,hg,hg2,List.range'_succ,fill_get,fill_set]
  exact this
theorem made_ok (old now:Int) (g:Nat) (caps:List AV) (G:Nat→Int) (hd:Dat caps) (hg:D.ppB g=false) (hg2:D.inlB g=false) (hn:0≤now) (hx:now≤4096) (hG:∀ i:Nat,(i:Int) < now→FnW C g (.int .i64 i::caps)=some (.int .i64 (G i))) :
 FnW C 1073 [.int .i64 old,.int .i64 now,.fn g caps]=some (.tup [eM old ((List.range now.toNat).map G) true,.int .i64 0]):=by
 obtain ⟨now,rfl⟩:∃ k:Nat,now=k:=⟨now.toNat,by omega⟩
 rw [fnW_eq H.f1073 rfl]
 cases now with
 | zero=>simp [w73,ck_unf w73_B0.eq_1,ck_unf w73_c0.eq_1,hd.refs,hd.ren]
 | succ now =>
  have:=made_loop H old (now+1) g caps G hd hg hg2 (by omega) (fun i hi=>hG i (by omega)) (now+1) 0 rfl [] rfl
  simp only [w73_K0] at this
  simp at this
  have h1:(0:Int) < (now:Int)+1:=by omega
  have h2:List.range' 0 (now+1)=List.range (now+1):=List.range_eq_range'.symm
  rw [h2] at this
  simp (disch:=omega) [w73,h1,fits,hd.refs,hd.ren,this]
abbrev zM:AV:=.agg [.int .i64 0,.ro 1 [] true]
omit H in
theorem dat2 (a b:List AV):Dat [.rop a,.rop b]:=⟨fun h=>rfl,fun h=>rfl,rfl,rfl,fun π=>rfl⟩
theorem k74 (b:Int) (bf:List Int) (be:Bool) (a:Int) (af:List Int) (ae:Bool) (i:Nat) (hi:i < bf.length) (hb:bf[i] < af.length) :
 FnW C 74 [.int .i64 i,.rop [.int .i64 b,L1 bf be],.rop [.int .i64 a,L1 af ae]]=some (.int .i64 (if 0≤bf[i] then af[bf[i].toNat]?.getD 0 else -1)):=by
 rw [fnW_eq H.f74 rfl]
 by_cases c:0≤bf[i]
 · obtain ⟨k,hk⟩:∃ k:Nat,bf[i]=k:=⟨bf[i].toNat,by omega⟩
   have h2:k < af.length:=by omega
   simp [w74,hi,hk,c,h2]
 · simp [w74,hi,c]
omit H in
theorem chkF_zero {old:Int}:∀ {f pre:List Int},chkF old pre f=0→(∀ k ∈ f,-1≤k∧k < old)∧∀ (i j:Nat) (k:Int),f[i]?=some k→f[j]?=some k→0≤k→i=j∧¬ k ∈ pre
 | [],_,_=>⟨by simp,by simp⟩
 | a::f,pre,h=>by
  unfold chkF at h
  split at h
  · simp at h
  · rename_i c1
    split at h
    · simp at h
    · rename_i c2
      obtain ⟨h1,h2⟩:=chkF_zero h
      refine ⟨fun k hk=>?_,fun i j k e1 e2 hk=>?_⟩
      · rcases List.mem_cons.1 hk with rfl | hk
        · omega
        · exact h1 k hk
      · match i,j,e1,e2 with
        | 0,0,e1,e2 =>
         simp at e1;subst e1
         exact ⟨rfl,fun q=>c2 ⟨hk,q⟩⟩
        | 0,j+1,e1,e2 =>
         simp at e1;subst e1
         have:=(h2 j j a (by simpa using e2) (by simpa using e2) hk).2
         simp at this
        | i+1,0,e1,e2 =>
         simp at e2;subst e2
         have:=(h2 i i a (by simpa using e1) (by simpa using e1) hk).2
         simp at this
        | i+1,j+1,e1,e2 =>
         have:=h2 i j k (by simpa using e1) (by simpa using e2) hk
         exact ⟨by omega,fun q=>this.2 (by simp [q])⟩
omit H in
structure Okm (old:Int) (f:List Int):Prop where
 old0:0≤old
 old1:old≤4096
 len:f.length≤4096
 rng:∀ k ∈ f,-1≤k∧k < old
 uniq:∀ (i j:Nat) (k:Int),f[i]?=some k→f[j]?=some k→0≤k→i=j
omit H in
theorem chk_zero {old:Int} {f:List Int} (h:chk old f=0):Okm old f:=by
 unfold chk at h
 split at h
 · simp at h
 · split at h
   · simp at h
   · obtain ⟨h1,h2⟩:=chkF_zero h
     exact ⟨by omega,by omega,by omega,h1,fun i j k a b c=>(h2 i j k a b c).1⟩
def cmp (af bf:List Int):List Int:=bf.map fun k=>if 0≤k then af[k.toNat]?.getD 0 else -1
omit H in
theorem range_get (l:List Int) (G:Int→Int) (d:Int):(List.range l.length).map (fun i=>G (l[i]?.getD d))=l.map G:=by
 refine List.ext_getElem? fun j=>?_
 by_cases hj:j < l.length
 · simp [hj]
 · simp [hj]
theorem compose_ok (a:Int) (af:List Int) (ae:Bool) (b:Int) (bf:List Int) (be:Bool):FnW C 52 [eM a af ae,eM b bf be]=some (.tup (if chk a af≠0 then [zM,.int .i64 (chk a af)] else if chk b bf≠0 then [zM,.int .i64 (chk b bf)] else
 if b≠af.length then [zM,.int .i64 16] else [eM a (cmp af bf) true,.int .i64 0])):=by
 rw [fnW_eq H.f52 rfl]
 have h1:=check_ok H a af ae
 have h2:=check_ok H b bf be
 by_cases c1:chk a af=0
 · by_cases c2:chk b bf=0
   · by_cases c3:b=af.length
     · subst c3
       have ka:=chk_zero c1
       have kb:=chk_zero c2
       have h3:=kb.len
       have:=made_ok H a bf.length 74 [.rop [.int .i64 af.length,L1 bf be],.rop [.int .i64 a,L1 af ae]] (fun i=>if 0≤bf[i]?.getD 0 then af[(bf[i]?.getD 0).toNat]?.getD 0 else -1) (dat2 _ _) (by rfl) (by rfl) (by omega) (by omega) (fun i hi=>by
        have hi':i < bf.length:=by omega
        have:=kb.rng _ (List.getElem_mem hi')
        have:=k74 H af.length bf be a af ae i hi' (by omega)
        rw [this,List.getElem?_eq_getElem hi'];rfl)
       rw [Int.toNat_natCast,range_get bf (fun k=>if 0≤k then af[k.toNat]?.getD 0 else -1) 0] at this
       simp [w52,H.inl,D.inlB,H.pp,D.ppB,h1,h2,c1,c2,this,cmp]
     · simp [w52,H.inl,D.inlB,H.pp,D.ppB,h1,h2,c1,c2,c3]
   · simp [w52,H.inl,D.inlB,H.pp,D.ppB,h1,h2,c1,c2]
 · simp [w52,H.inl,D.inlB,H.pp,D.ppB,h1,h2,c1]
end Go.Rm
end
section
set_option linter.unusedSimpArgs false
set_option linter.unusedVariables false
namespace Go.D
open Go Go.Pav Go.Pw P
set_option maxRecDepth 10000
set_option maxHeartbeats 4000000
set_option linter.unusedSimpArgs false
set_option linter.unusedVariables false
attribute [-simp] List.getElem_cons_drop
variable {C:WProg}
structure HasOn (C:WProg):Prop extends Rm.Has C
end Go.D
end
section
set_option linter.unusedSimpArgs false
set_option linter.unusedVariables false
namespace Go.D
open Go Go.Pav Go.Pw P
set_option maxRecDepth 10000
set_option maxHeartbeats 4000000
set_option linter.unusedSimpArgs false
set_option linter.unusedVariables false
attribute [-simp] List.getElem_cons_drop
variable {C:WProg}
theorem cm_cmp (A F:List Int):Rm.cmp A F=cm A F:=rfl
structure HasNe (C:WProg):Prop extends HasOn C,HasL C where
 f360:C.fns.get 360=some w360
 f469:C.fns.get 469=some w469
theorem mid_get {α:Type} {P Q:List α} {i:Nat} {c:α} (h:P.length=i):(P++c::Q)[i]?=some c:=by
 rw [List.getElem?_append_right (by omega),h,Nat.sub_self];rfl
theorem mid_set {α:Type} {P Q:List α} {i:Nat} {c v:α} (h:P.length=i):(P++c::Q).set i v=P++v::Q:=by
 rw [List.set_append,if_neg (by omega),h,Nat.sub_self];rfl
theorem copy_loop (H:HasL C) (x:List It) (hl:x.length≤1000000) (hm:∀ y ∈ x,y.m.length≤1000000):∀ n i,n+i=x.length→∀ G:List It,G.length=i →
 w340_K0 C ⟨[(9,.int .i64 i),(8,.int .i64 x.length),(3,.sl 0 4 0 x.length x.length true)],[(0,.cells 4 (G.map cIt++(x.drop i).map cIt) true true)],1⟩=some (.ro 4 ((G++(x.drop i).map It.own).map cIt) true):=by
 intro n
 induction n with
 | zero =>
  intro i hi G hG
  have h1:x.drop i=[]:=List.drop_eq_nil_of_le (by omega)
  have h3:¬ i < x.length:=by omega
  have h7:G.length=x.length:=by omega
  have h6:List.take x.length (List.map cIt G)=List.map cIt G:=List.take_of_length_le (by simp;omega)
  simp only [w340_K0];rw [ck_unf w340_B0.eq_1]
  simp [ck_unf w340_c0.eq_1,h1,h3,h6,h7]
 | succ n ih =>
  intro i hi G hG
  have h1:i < x.length:=by omega
  have he:=exactS_ok H x[i].m x[i].e (hm _ (List.getElem_mem h1))
  have:=ih (i+1) (by omega) (G++[x[i].own]) (by simp [hG])
  rw [drop_cons h1]
  simp only [w340_K0] at this ⊢;rw [ck_unf w340_B0.eq_1]
  simp [It.own] at this
  have hg:(List.map cIt G).length=i:=by simpa using hG
  simp (disch:=omega) [h1,wI64,he,mid_get hg,mid_set hg,H.inl,inlB,H.pp,ppB,It.own,this]
theorem copy_ok (H:HasL C) (x:List It) (e:Bool) (hl:x.length≤1000000) (hm:∀ y ∈ x,y.m.length≤1000000):FnW C 340 [.ro 4 (x.map cIt) e]=some (.ro 4 ((x.map It.own).map cIt) true):=by
 have hg:=fun a h n=>rnW_eq (args:=[a]) H.f459 rfl h n
 rw [fnW_eq H.f340 rfl]
 by_cases hne:x=[]
 · subst hne
   simp [w340,ck_unf w340_B0.eq_1,ck_unf w340_c0.eq_1,hg,w459,H.inl,inlB,H.pp,ppB]
 · have h:=copy_loop H x hl hm x.length 0 (by simp) [] rfl
   have h2:x.length * 57≤35184372088832:=by omega
   have hT:List.take x.length (List.map cIt x)=List.map cIt x:=List.take_of_length_le (by simp)
   have hD:List.drop x.length (List.map cIt x)=[]:=List.drop_eq_nil_of_le (by simp)
   simp only [w340_K0] at h
   simp at h
   simp (disch:=omega) [w340,hne,h2,isE,hT,hD,hg,w459,h,H.inl,inlB,H.pp,ppB]
theorem exactB_ok (H:HasNe C) (m:List Bool) (e:Bool) (hl:m.length≤1000000):FnW C 469 [.ro 1 (m.map eB) e]=some (.ro 1 (m.map eB) true):=by
 rw [fnW_eq H.f469 rfl]
 by_cases h:m=[]
 · subst h;simp [w469]
 · have h2:m.length * 2≤35184372088832:=by omega
   have hT:List.take m.length (List.map eB m)=List.map eB m:=List.take_of_length_le (by simp)
   simp (disch:=omega) [w469,h,h2,isE,hT]
end Go.D
end
section
set_option linter.unusedSimpArgs false
set_option linter.unusedVariables false
namespace Go.D
open Go Go.Pav Go.Pw P
set_option maxRecDepth 10000
set_option maxHeartbeats 4000000
set_option linter.unusedSimpArgs false
set_option linter.unusedVariables false
attribute [-simp] List.getElem_cons_drop
variable {C:WProg}
def pickI:List Bool→List En→List It
 | b::fr,e::L=>if b=true then e.i::pickI fr L else pickI fr L
 | _,_=>[]
@[simp] def eNet (old:Int) (F:List Int) (fe:Bool) (fr:List Bool) (fre:Bool) (x:List It) (xe:Bool):List AV:=[.int .i64 old,.ro 1 (F.map eI) fe,.ro 1 (fr.map eB) fre,.ro 4 (x.map cIt) xe]
theorem pick_len:∀ (fr:List Bool) (L:List En),(pickI fr L).length≤fr.length
 | [],_=>by simp [pickI]
 | _::_,[]=>by simp [pickI]
 | b::fr,e::L=>by
  have:=pick_len fr L
  rw [pickI]
  split <;> simp <;> omega
theorem pick_mem:∀ (fr:List Bool) (L:List En),∀ y ∈ pickI fr L,∃ e ∈ L,e.i=y
 | [],_,y,h=>by simp [pickI] at h
 | _::_,[],y,h=>by simp [pickI] at h
 | b::fr,e::L,y,h=>by
  rw [pickI] at h
  split at h
  · rcases List.mem_cons.1 h with rfl | h
    · exact ⟨e,by simp,rfl⟩
    · obtain ⟨e',h1,h2⟩:=pick_mem fr L y h;exact ⟨e',by simp [h1],h2⟩
  · obtain ⟨e',h1,h2⟩:=pick_mem fr L y h;exact ⟨e',by simp [h1],h2⟩
theorem net_loop (H:HasNe C) (old:Int) (F:List Int) (fe:Bool) (fr:List Bool) (fre:Bool) (L:List En) (le:Bool) (hl:fr.length≤100000) (hL:fr.length≤L.length) (hm:∀ e ∈ L,e.i.m.length≤1000000) :
 ∀ n i,n+i=fr.length→∀ G:List It,G.length≤i→(∀ y ∈ G,y.m.length≤1000000) →
 w360_K0 C ⟨[(12,.int .i64 i),(11,.int .i64 fr.length),(10,.ro 1 (fr.map eB) fre),(7,.sl 0 4 0 G.length G.length false),(6,.ptr 1 0 0),(3,.ptr 2 0 0),(2,.ro 6 (L.map eEn) le),(1,.ro 1 (fr.map eB) fre)],
  [(0,.cells 4 (G.map cIt) true true),(1,.cells 4 [[.int .i64 0,.ro 1 [] true,.ro 1 [] true,.ro 4 [] true]] true true),(2,.cells 2 [[.int .i64 old,.ro 1 (F.map eI) fe]] true true)],3⟩ =
  some (.agg (eNet old F fe fr true ((G++pickI (fr.drop i) (L.drop i)).map It.own) true)):=by
 intro n
 induction n with
 | zero =>
  intro i hi G hG hg
  have h1:fr.drop i=[]:=List.drop_eq_nil_of_le (by omega)
  have h3:¬ i < fr.length:=by omega
  have hb:=exactB_ok H fr fre (by omega)
  have hc:=copy_ok H.toHasL G false (by omega) hg
  have hT:List.take G.length (List.map cIt G)=List.map cIt G:=List.take_of_length_le (by simp)
  simp only [w360_K0];rw [ck_unf w360_B0.eq_1]
  by_cases hne:G=[]
  · subst hne
    simp at hc
    simp (disch:=omega) [ck_unf w360_c0.eq_1,h1,h3,hb,hc,pickI,H.inl,inlB,H.pp,ppB]
  · simp (disch:=omega) [ck_unf w360_c0.eq_1,h1,h3,hb,hc,hT,pickI,H.inl,inlB,H.pp,ppB]
 | succ n ih =>
  intro i hi G hG hg
  have h1:i < fr.length:=by omega
  have h2:i < L.length:=by omega
  rw [drop_cons h1,drop_cons h2,pickI]
  simp only [w360_K0];rw [ck_unf w360_B0.eq_1]
  by_cases hb:fr[i]=true
  · have:=ih (i+1) (by omega) (G++[L[i].i]) (by simp;omega) (by
     intro y hy
     rcases List.mem_append.1 hy with hy | hy
     · exact hg y hy
     · simp only [List.mem_singleton] at hy;subst hy;exact hm _ (List.getElem_mem h2))
    have hcap:(G.length+1) * 57≤35184372088832:=by omega
    simp only [w360_K0] at this
    simp at this
    simp (disch:=omega) [h1,h2,hb,hcap,wI64,this,H.inl,inlB,H.pp,ppB]
  · have:=ih (i+1) (by omega) G (by omega) hg
    simp only [w360_K0] at this
    simp at this
    simp (disch:=omega) [h1,h2,hb,wI64,this,H.inl,inlB,H.pp,ppB]
theorem net_ok (H:HasNe C) (old:Int) (F:List Int) (fe:Bool) (fr:List Bool) (fre:Bool) (L:List En) (le:Bool) (hl:fr.length≤100000) (hL:fr.length≤L.length) (hm:∀ e ∈ L,e.i.m.length≤1000000) :
 FnW C 360 [Rm.eM old F fe,.ro 1 (fr.map eB) fre,.ro 6 (L.map eEn) le]=some (.agg (eNet old F fe fr true ((pickI fr L).map It.own) true)):=by
 have h:=net_loop H old F fe fr fre L le hl hL hm fr.length 0 (by simp) [] (by simp) (by simp)
 rw [fnW_eq H.f360 rfl]
 simp only [w360_K0] at h
 simp at h
 simp (disch:=omega) [w360,h,H.inl,inlB,H.pp,ppB]
end Go.D
end
