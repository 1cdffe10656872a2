/- Part of the theory that the claims of this work use: PwCk, PwSimp, PwZip. No conditions of its own. -/
import Derived.Test.YtggfejahifmgoaaGreatDoorT4
set_option linter.unusedVariables false
set_option linter.unusedSimpArgs false
section
namespace Go.Pw
open Go Go.Pav
inductive Frame where
 | sq (b:WCode)
 | bk (id:Nat) (a:Ann)
 | lp (a:Ann) (b:WCode)
def setE:Env->Nat->AV->Env
 | [],_,_=>[]
 | (k,v)::r,g,x=>if k=g then (k,x)::r else (k,v)::setE r g x
section
variable {β:Type}
noncomputable def RK (C:WProg) (base:Nat):List Frame->Ex × WSt->Option (Ex × WSt)
 | [],r=>some r
 | .sq b::k,r=>ob (evSeqW (CdW C base b) r) (RK C base k)
 | .bk id a::k,r=>ob (evBlockW base id a r) (RK C base k)
 | .lp a b::k,r=>ob (evSeqW (CdW C base (.loop a b)) r) (RK C base k)
noncomputable def CK (C:WProg) (base:Nat) (fin:Ex × WSt->Option β) (k:List Frame) (c:WCode) (s:WSt):Option β:=ob (CdW C base c s) λr=>ob (RK C base k r) fin
noncomputable def NK (C:WProg) (base:Nat) (fin:Ex × WSt->Option β) (k:List Frame) (ex:Ex) (s:WSt):Option β:=ob (RK C base k (ex,s)) fin
noncomputable def AK (C:WProg) (base:Nat) (fin:Ex × WSt->Option β) (k:List Frame) (s:Option WSt):Option β:=ob s λs=>NK C base fin k .norm s
noncomputable def LK (C:WProg) (base:Nat) (fin:Ex × WSt->Option β) (k:List Frame) (b:WCode) (s:Option WSt):Option β:=ob s λs=>CK C base fin k b s
noncomputable def OK (C:WProg) (base:Nat) (fin:Ex × WSt->Option β) (k:List Frame) (a:Ann) (l:List COper) (s:WSt):Option β :=ob (evOpsW C (RnW C) l s) λs=>AK C base fin k (canonF base a s)
noncomputable def SK (C:WProg) (base:Nat) (fin:Ex × WSt->Option β) (k:List Frame) (a:Ann) (l:List COper) (d:Option Nat) (e:Env) (h:WHeap) (n:Nat) (x:Option (AV × WUpd)):Option β :=ob x λx=>OK C base fin k a l ⟨setD e d x.1,applyW h x.2,n⟩
noncomputable def condK (C:WProg) (base:Nat) (fin:Ex × WSt->Option β) (k:List Frame) (a b:WCode) (s:WSt) (v:AV):Option β :=
 match v with
 | .bool t=>if t=true then CK C base fin k a s else CK C base fin k b s
 | _=>none
noncomputable def GK (C:WProg) (base:Nat) (fin:Ex × WSt->Option β) (k:List Frame) (a:Ann) (l:List COper) (d:Option Nat) (op:COp) (g:Nat) (w:Bool) (e:Env) (h:WHeap) (n:Nat) (v:Option AV):Option β :=
 match v with
 | some (.bool b)=>if b=w then OK C base fin k a (⟨d,none,op⟩::l) ⟨setE e g (.bool w),h,n⟩ else OK C base fin k a l ⟨setD (setE e g (.bool (!w))) d (.tup []),h,n+1⟩
 | some (.tup [])=>OK C base fin k a l ⟨setD e d (.tup []),h,n+1⟩
 | _=>none
noncomputable def VK (C:WProg) (base:Nat) (fin:Ex × WSt->Option β) (k:List Frame) (a:Ann) (l:List COper) (d:Option Nat) (e:Env) (h:WHeap) (n:Nat) (args:List AV) (v:Option AV):Option β :=ob v λv=>OK C base fin k a l ⟨setD e d v,applyW h (marksW h args v),n⟩
noncomputable def WK (C:WProg) (base:Nat) (fin:Ex × WSt->Option β) (k:List Frame) (a:Ann) (l:List COper) (d:Option Nat) (e:Env) (r:Option (AV × WHeap × Nat)):Option β :=ob r λr=>OK C base fin k a l ⟨setD e d r.1,r.2.1,r.2.2⟩
noncomputable def PK (C:WProg) (base:Nat) (fin:Ex × WSt->Option β) (k:List Frame) (a:Ann) (l:List COper) (d:Option Nat) (e:Env) (h:WHeap) (n:Nat) (f:Nat) (args:List AV) (az:Option (List AV)):Option β :=ob az λaz=>VK C base fin k a l d e h n args (FnW C f az)
noncomputable def BSK (C:WProg) (base:Nat) (fin:Ex × WSt->Option β) (k:List Frame) (a:Ann) (l:List COper) (d:Option Nat) (e:Env) (h:WHeap) (n:Nat) (v:AV) (u:WUpd) (ok:Bool):Option β :=if ok=true then OK C base fin k a l ⟨setD e d v,applyW h u,n⟩ else none
noncomputable def FSK (C:WProg) (base:Nat) (fin:Ex × WSt->Option β) (k:List Frame) (a:Ann) (l:List COper) (d:Option Nat) (e:Env) (h:WHeap) (n:Nat) (br:Bool) (args:List AV) (x:Option (AV × WUpd)):Option β :=ob x λx=>if br=true then BSK C base fin k a l d e h n x.1 x.2 (bareXW x) else OK C base fin k a l ⟨setD e d x.1,applyW h (markFrozenW h (args.flatMap (reachW h frzDepth))++x.2),n⟩
def over (n:Nat) (h1 h:WHeap):WHeap:=applyW h (upsW n h1)
noncomputable def HBK (C:WProg) (base:Nat) (fin:Ex × WSt->Option β) (k:List Frame) (a:Ann) (l:List COper) (d:Option Nat) (e:Env) (h:WHeap) (n:Nat) (v:AV) (h1:WHeap) (n1:Nat) (ok:Bool):Option β :=if ok=true then OK C base fin k a l ⟨setD e d v,over n (h1.filter λx=>(reachW h1 frzDepth v).contains x.1) h,n1⟩ else none
noncomputable def HK (C:WProg) (base:Nat) (fin:Ex × WSt->Option β) (k:List Frame) (a:Ann) (l:List COper) (d:Option Nat) (e:Env) (h:WHeap) (n:Nat) (db:Bool) (args:List AV) (r:Option (AV × WHeap × Nat)):Option β :=ob r λr=>if db=true then HBK C base fin k a l d e h n r.1 r.2.1 r.2.2 (keptXW r.2.1 r.1 (reachW r.2.1 frzDepth r.1)) else OK C base fin k a l ⟨setD e d r.1,over n r.2.1 (applyW h (markFrozenW h (args.flatMap (reachW h frzDepth)))),r.2.2⟩
noncomputable def TK (C:WProg) (base:Nat) (fin:Ex × WSt->Option β) (k:List Frame) (a:Ann) (l:List COper) (d:Option Nat) (e:Env) (h:WHeap) (n:Nat) (f:Nat) (args az:List AV) (dp:Bool):Option β :=if dp=true then HK C base fin k a l d e h n (isDb f) args (RnW C f az [] n) else FSK C base fin k a l d e h n (isBr f) args (freshCallW (RnW C) f az (n - 1))
noncomputable def FPK (C:WProg) (base:Nat) (fin:Ex × WSt->Option β) (k:List Frame) (a:Ann) (l:List COper) (d:Option Nat) (e:Env) (h:WHeap) (n:Nat) (f:Nat) (args:List AV) (az:Option (List AV)):Option β :=ob az λaz=>TK C base fin k a l d e h n f args az (isDp f)
noncomputable def IK (C:WProg) (base:Nat) (fin:Ex × WSt->Option β) (k:List Frame) (a:Ann) (l:List COper) (d:Option Nat) (e:Env) (h:WHeap) (n:Nat) (f:Nat) (args:List AV) (fr:Bool):Option β :=if fr=true then FPK C base fin k a l d e h n f args (mapO (frzW h frzDepth) args) else WK C base fin k a l d e (RnW C f args h n)
noncomputable def FK (C:WProg) (base:Nat) (fin:Ex × WSt->Option β) (k:List Frame) (a:Ann) (l:List COper) (d:Option Nat) (e:Env) (h:WHeap) (n:Nat) (f:Nat) (args:List AV) (inl ptr:Bool):Option β :=if inl=true then IK C base fin k a l d e h n f args (isFr f) else if ptr=true then WK C base fin k a l d e (RnW C f args h n) else PK C base fin k a l d e h n f args (mapO (frzW h frzDepth) args)
noncomputable def QK (C:WProg) (base:Nat) (fin:Ex × WSt->Option β) (k:List Frame) (a:Ann) (l:List COper) (d:Option Nat) (e:Env) (h:WHeap) (n:Nat) (args:List AV) (g:AV):Option β :=
 match g with
 | .fn f caps=>FK C base fin k a l d e h n f (args++caps) (C.inl f) (!C.pp f&&hasPtrL (args++caps))
 | _=>none
abbrev RW:=Bool × List Nat × List Nat
def rwOf (d:WDid):RW:=(d.bar,d.rd,d.wr)
def quietR (d:RW):Bool:=!d.1&&(d.2.2.isEmpty&&d.2.1.isEmpty)
def clashR (a b:RW):Bool:=!(quietR a||quietR b)&&(if a.1=true then b.1||hitL a.2.1 a.2.2 b.2.1 b.2.2 else if b.1=true then hitL b.2.1 b.2.2 a.2.1 a.2.2 else (meets a.2.2 b.2.2||(meets a.2.2 b.2.1||meets a.2.1 b.2.2)))
def apartR (ds:List RW) (p:Nat × Nat):Bool :=
 match ds[p.1]?,ds[p.2]? with
 | some a,some b=>!clashR a b
 | _,_=>false
noncomputable def EK (C:WProg) (base:Nat) (fin:Ex × WSt->Option β) (k:List Frame) (a:Ann) (s:WSt) (ok:Bool):Option β :=if ok=true then AK C base fin k (canonF base a s) else none
noncomputable def DK (C:WProg) (base:Nat) (fin:Ex × WSt->Option β) (k:List Frame) (a:Ann) (un:List (Nat × Nat)) (l:List COper) (nid:Nat) (s:WSt) (ds:List RW):Option β :=ob (evDrawW C (RnW C) l nid s []) λr=>EK C base fin k a r.1 (un.all (apartR (ds++r.2.map rwOf)))
noncomputable def DSK (C:WProg) (base:Nat) (fin:Ex × WSt->Option β) (k:List Frame) (a:Ann) (un:List (Nat × Nat)) (l:List COper) (nid:Nat) (d:Option Nat) (e:Env) (h:WHeap) (n:Nat) (ds:List RW) (rd:List Nat) (x:Option (AV × WUpd)):Option β :=ob x λx=>DK C base fin k a un l nid ⟨setD e d x.1,applyW h x.2,n⟩ (ds++[(false,rd,x.2.map (·.1))])
noncomputable def DGK (C:WProg) (base:Nat) (fin:Ex × WSt->Option β) (k:List Frame) (a:Ann) (un:List (Nat × Nat)) (l:List COper) (nid:Nat) (d:Option Nat) (op:COp) (g:Nat) (w:Bool) (e:Env) (h:WHeap) (n:Nat) (ds:List RW) (v:Option AV):Option β :=
 match v with
 | some (.bool b)=>if b=w then DK C base fin k a un (⟨d,none,op⟩::l) nid ⟨setE e g (.bool w),h,n⟩ ds else DK C base fin k a un l (nid+1) ⟨setD (setE e g (.bool (!w))) d (.tup []),h,n⟩ (ds++[(false,[],[])])
 | some (.tup [])=>DK C base fin k a un l (nid+1) ⟨setD e d (.tup []),h,n⟩ (ds++[(false,[],[])])
 | _=>none
noncomputable def DVK (C:WProg) (base:Nat) (fin:Ex × WSt->Option β) (k:List Frame) (a:Ann) (un:List (Nat × Nat)) (l:List COper) (nid:Nat) (d:Option Nat) (e:Env) (h:WHeap) (n:Nat) (ds:List RW) (args:List AV) (v:Option AV):Option β :=ob v λv=>DK C base fin k a un l nid ⟨setD e d v,applyW h (marksW h args v),n⟩ (ds++[(false,args.flatMap (reachW h frzDepth),(marksW h args v).map (·.1))])
noncomputable def DWK (C:WProg) (base:Nat) (fin:Ex × WSt->Option β) (k:List Frame) (a:Ann) (un:List (Nat × Nat)) (l:List COper) (nid:Nat) (d:Option Nat) (e:Env) (ds:List RW) (r:Option (AV × WHeap × Nat)):Option β :=ob r λr=>DK C base fin k a un l nid ⟨setD e d r.1,r.2.1,r.2.2⟩ (ds++[(true,[],[])])
noncomputable def DPK (C:WProg) (base:Nat) (fin:Ex × WSt->Option β) (k:List Frame) (a:Ann) (un:List (Nat × Nat)) (l:List COper) (nid:Nat) (d:Option Nat) (e:Env) (h:WHeap) (n:Nat) (ds:List RW) (f:Nat) (args:List AV) (az:Option (List AV)):Option β :=ob az λaz=>DVK C base fin k a un l nid d e h n ds args (FnW C f az)
noncomputable def DBSK (C:WProg) (base:Nat) (fin:Ex × WSt->Option β) (k:List Frame) (a:Ann) (un:List (Nat × Nat)) (l:List COper) (nid:Nat) (d:Option Nat) (e:Env) (h:WHeap) (n:Nat) (ds:List RW) (args:List AV) (v:AV) (u:WUpd) (ok:Bool):Option β :=if ok=true then DK C base fin k a un l nid ⟨setD e d v,applyW h u,n⟩ (ds++[(false,args.flatMap (reachW h frzDepth),u.map (·.1))]) else none
noncomputable def DFSK (C:WProg) (base:Nat) (fin:Ex × WSt->Option β) (k:List Frame) (a:Ann) (un:List (Nat × Nat)) (l:List COper) (nid:Nat) (d:Option Nat) (e:Env) (h:WHeap) (n:Nat) (ds:List RW) (br:Bool) (args:List AV) (x:Option (AV × WUpd)):Option β :=ob x λx=>if br=true then DBSK C base fin k a un l nid d e h n ds args x.1 x.2 (bareXW x) else DK C base fin k a un l nid ⟨setD e d x.1,applyW h (markFrozenW h (args.flatMap (reachW h frzDepth))++x.2),n⟩ (ds++[(false,args.flatMap (reachW h frzDepth),(markFrozenW h (args.flatMap (reachW h frzDepth))++x.2).map (·.1))])
noncomputable def DHBK (C:WProg) (base:Nat) (fin:Ex × WSt->Option β) (k:List Frame) (a:Ann) (un:List (Nat × Nat)) (l:List COper) (nid:Nat) (d:Option Nat) (e:Env) (h:WHeap) (n:Nat) (ds:List RW) (args:List AV) (v:AV) (h1:WHeap) (n1:Nat) (ok:Bool):Option β :=if ok=true then DK C base fin k a un l nid ⟨setD e d v,over n (h1.filter λx=>(reachW h1 frzDepth v).contains x.1) h,n1⟩ (ds++[(true,args.flatMap (reachW h frzDepth),[n])]) else none
noncomputable def DHK (C:WProg) (base:Nat) (fin:Ex × WSt->Option β) (k:List Frame) (a:Ann) (un:List (Nat × Nat)) (l:List COper) (nid:Nat) (d:Option Nat) (e:Env) (h:WHeap) (n:Nat) (ds:List RW) (db:Bool) (args:List AV) (r:Option (AV × WHeap × Nat)):Option β :=ob r λr=>if db=true then DHBK C base fin k a un l nid d e h n ds args r.1 r.2.1 r.2.2 (keptXW r.2.1 r.1 (reachW r.2.1 frzDepth r.1)) else DK C base fin k a un l nid ⟨setD e d r.1,over n r.2.1 (applyW h (markFrozenW h (args.flatMap (reachW h frzDepth)))),r.2.2⟩ (ds++[(true,args.flatMap (reachW h frzDepth),n::(markFrozenW h (args.flatMap (reachW h frzDepth))).map (·.1))])
noncomputable def DTK (C:WProg) (base:Nat) (fin:Ex × WSt->Option β) (k:List Frame) (a:Ann) (un:List (Nat × Nat)) (l:List COper) (nid:Nat) (d:Option Nat) (e:Env) (h:WHeap) (n:Nat) (ds:List RW) (f:Nat) (args az:List AV) (dp:Bool):Option β :=if dp=true then DHK C base fin k a un l nid d e h n ds (isDb f) args (RnW C f az [] n) else DFSK C base fin k a un l nid d e h n ds (isBr f) args (freshCallW (RnW C) f az (nid - 1))
noncomputable def DFPK (C:WProg) (base:Nat) (fin:Ex × WSt->Option β) (k:List Frame) (a:Ann) (un:List (Nat × Nat)) (l:List COper) (nid:Nat) (d:Option Nat) (e:Env) (h:WHeap) (n:Nat) (ds:List RW) (f:Nat) (args:List AV) (az:Option (List AV)):Option β :=ob az λaz=>DTK C base fin k a un l nid d e h n ds f args az (isDp f)
noncomputable def DIK (C:WProg) (base:Nat) (fin:Ex × WSt->Option β) (k:List Frame) (a:Ann) (un:List (Nat × Nat)) (l:List COper) (nid:Nat) (d:Option Nat) (e:Env) (h:WHeap) (n:Nat) (ds:List RW) (f:Nat) (args:List AV) (fr:Bool):Option β :=if fr=true then DFPK C base fin k a un l nid d e h n ds f args (mapO (frzW h frzDepth) args) else DWK C base fin k a un l nid d e ds (RnW C f args h n)
noncomputable def DFK (C:WProg) (base:Nat) (fin:Ex × WSt->Option β) (k:List Frame) (a:Ann) (un:List (Nat × Nat)) (l:List COper) (nid:Nat) (d:Option Nat) (e:Env) (h:WHeap) (n:Nat) (ds:List RW) (f:Nat) (args:List AV) (inl ptr:Bool):Option β :=if inl=true then DIK C base fin k a un l nid d e h n ds f args (isFr f) else if ptr=true then DWK C base fin k a un l nid d e ds (RnW C f args h n) else DPK C base fin k a un l nid d e h n ds f args (mapO (frzW h frzDepth) args)
noncomputable def DQK (C:WProg) (base:Nat) (fin:Ex × WSt->Option β) (k:List Frame) (a:Ann) (un:List (Nat × Nat)) (l:List COper) (nid:Nat) (d:Option Nat) (e:Env) (h:WHeap) (n:Nat) (ds:List RW) (args:List AV) (g:AV):Option β :=
 match g with
 | .fn f caps=>DFK C base fin k a un l nid d e h n ds f (args++caps) (C.inl f) (!C.pp f&&hasPtrL (args++caps))
 | _=>none
def pureFin (res:List CRes) (r:Ex × WSt):Option AV:=ob (fnEndW res r) λr=>frzW r.2.1 frzDepth r.1
end
section
variable {β:Type} {C:WProg} {base:Nat} {fin:Ex × WSt->Option β} {k:List Frame}
theorem ob_assoc {α γ δ:Type} (x:Option α) (f:α->Option γ) (g:γ->Option δ):ob (ob x f) g=ob x λa=>ob (f a) g:=by cases x <;> rfl
theorem ob_om {α γ δ:Type} (x:Option α) (f:α->γ) (g:γ->Option δ):ob (om x f) g=ob x λa=>g (f a):=by cases x <;> rfl
theorem ck_seq (a b:WCode) (s:WSt):CK C base fin k (.seq a b) s=CK C base fin (.sq b::k) a s:=by unfold CK;rw [cw_seq];simp only [RK,ob_assoc]
theorem ck_skip (s:WSt):CK C base fin k .skip s=NK C base fin k .norm s:=by unfold CK NK;rw [cw_skip];rfl
theorem ck_exit (i:Nat) (s:WSt):CK C base fin k (.exit i) s=NK C base fin k (.exit i) s:=by unfold CK NK;rw [cw_exit];rfl
theorem ck_prim (n:Nat) (s:WSt):CK C base fin k (.prim n) s=ob (primF n (primArgs (primN n) 0 s.env)) λv=>NK C base fin k .ret ⟨putE s.env 9 v,s.heap,s.next⟩:=by unfold CK NK;rw [cw_prim];cases primF n (primArgs (primN n) 0 s.env) <;> rfl
theorem ck_ret (s:WSt):CK C base fin k .ret s=NK C base fin k .ret s:=by unfold CK NK;rw [cw_ret];rfl
theorem ck_cond (c:Opd) (a b:WCode) (s:WSt):CK C base fin k (.cond c a b) s=condK C base fin k a b s (c.ev s.env):=by
 unfold CK condK;rw [cw_cond];unfold evCondW;cases c.ev s.env <;> try rfl
 rename_i t;cases t <;> rfl
theorem ck_block (id:Nat) (b:WCode) (a:Ann) (s:WSt):CK C base fin k (.block id b a) s=CK C base fin (.bk id a::k) b s:=by unfold CK;rw [cw_block];simp only [RK,ob_assoc]
theorem ck_lp {L:WCode} {a:Ann} {b:WCode} {s:WSt} (hL:L=.loop a b):CK C base fin k L s=LK C base fin (.sq L::k) b (canon base a s):=by subst hL;unfold CK LK CK;rw [cw_loop];simp only [RK,ob_assoc]
theorem ck_unf {c c':WCode} {s:WSt} (hc:c=c'):CK C base fin k c s=CK C base fin k c' s:=by rw [hc]
theorem ck_ops (l:List COper) (a:Ann) (s:WSt):CK C base fin k (.ops l a) s=OK C base fin k a l s:=by unfold CK OK AK NK;rw [cw_ops];simp only [ob_assoc,ob_om]
theorem ck_draw (l:List COper) (un:List (Nat × Nat)) (a:Ann) (e:Env) (h:WHeap) (n:Nat):CK C base fin k (.draw l un a) ⟨e,h,n⟩=DK C base fin k a un l n ⟨e,h,n+l.length⟩ []:=by
 unfold CK DK EK AK NK;rw [cw_draw];simp only [ob_assoc];have:∀ r:WSt × List WDid,(ob (drawEndW base un a r) λr=>ob (RK C base k r) fin)=(if (un.all (apartR ([]++r.2.map rwOf)))=true then ob (canonF base a r.1) λs=>ob (RK C base k (.norm,s)) fin else none):=by
  rintro ⟨s,ds⟩;have e1:un.all (apartW ds)=un.all (apartR ([]++ds.map rwOf)):=by congr 1;funext p;simp only [apartW,apartR,List.nil_append,List.getElem?_map];cases ds[p.1]? <;> cases ds[p.2]? <;> rfl
  simp only [drawEndW,e1];split
  ·simp only [ob_om]
  ·rfl
 simp only [this]
theorem kK {zz:List AV} {z b:Nat} {s:WSt} {xe:Bool} (h:Pav.get s.env 0=some (.ro z [] xe)) (hz:zz.length=z) :
 CK C base fin k (.cln zz z b) s=NK C base fin k .ret ⟨[(2,.sl s.next z 0 0 0 true)],Pav.put s.heap s.next (.cells z [] true true),s.next+1⟩:=by
 unfold CK NK;rw [cw_cln,h];simp only [Option.bind,isEmptyRo,hz,and_self,if_true,ob]
theorem jc {zz:List AV} {z b:Nat} {s:WSt} (h:(Pav.get s.env 0).bind isEmptyRo=none):CK C base fin k (.cln zz z b) s=CK C base fin k (clnC zz z b) s:=by unfold CK;rw [cw_cln,h]
theorem nk_nil (ex:Ex) (s:WSt):NK C base fin [] ex s=fin (ex,s):=rfl
theorem nk_sq (b:WCode) (s:WSt):NK C base fin (.sq b::k) .norm s=CK C base fin k b s:=by unfold NK CK;simp only [RK,evSeqW,ob_assoc]
theorem nk_sq_exit (b:WCode) (i:Nat) (s:WSt):NK C base fin (.sq b::k) (.exit i) s=NK C base fin k (.exit i) s:=by unfold NK;simp only [RK,evSeqW,ob]
theorem nk_sq_ret (b:WCode) (s:WSt):NK C base fin (.sq b::k) .ret s=NK C base fin k .ret s:=by unfold NK;simp only [RK,evSeqW,ob]
theorem nk_lp_exit (a:Ann) (b:WCode) (i:Nat) (s:WSt):NK C base fin (.lp a b::k) (.exit i) s=NK C base fin k (.exit i) s:=by unfold NK;simp only [RK,evSeqW,ob]
theorem nk_lp_ret (a:Ann) (b:WCode) (s:WSt):NK C base fin (.lp a b::k) .ret s=NK C base fin k .ret s:=by unfold NK;simp only [RK,evSeqW,ob]
theorem nk_bk (id:Nat) (a:Ann) (s:WSt):NK C base fin (.bk id a::k) .norm s=AK C base fin k (canon base a s):=by unfold NK AK NK;simp only [RK,evBlockW,ob_assoc,ob_om]
theorem nk_bk_exit (id:Nat) (a:Ann) (i:Nat) (s:WSt):NK C base fin (.bk id a::k) (.exit i) s=if i=id then AK C base fin k (canon base a s) else NK C base fin k (.exit i) s:=by
 unfold NK AK NK;simp only [RK,evBlockW];split
 ·simp only [ob_assoc,ob_om]
 ·rfl
theorem nk_bk_ret (id:Nat) (a:Ann) (s:WSt):NK C base fin (.bk id a::k) .ret s=NK C base fin k .ret s:=by unfold NK;simp only [RK,evBlockW,ob]
theorem ak_some (s:WSt):AK C base fin k (some s)=NK C base fin k .norm s:=rfl
theorem lk_some (b:WCode) (s:WSt):LK C base fin k b (some s)=CK C base fin k b s:=rfl
theorem condK_true (a b:WCode) (s:WSt):condK C base fin k a b s (.bool true)=CK C base fin k a s:=rfl
theorem condK_false (a b:WCode) (s:WSt):condK C base fin k a b s (.bool false)=CK C base fin k b s:=rfl
theorem condK_bool (a b:WCode) (s:WSt) (t:Bool):condK C base fin k a b s (.bool t)=if t=true then CK C base fin k a s else CK C base fin k b s:=rfl
variable {a:Ann} {l:List COper} {d:Option Nat} {e:Env} {h:WHeap} {n:Nat}
theorem ok_nil (s:WSt):OK C base fin k a [] s=AK C base fin k (canonF base a s):=rfl
theorem ok_step {op:COp} (hc:callOf e op=some none):OK C base fin k a (⟨d,none,op⟩::l) ⟨e,h,n⟩=SK C base fin k a l d e h (n+1) (stepW op e h n):=by unfold OK SK OK;simp only [evOpsW,evOpW,wants,evActW,hc];cases stepW op e h n <;> rfl
theorem sk_some (v:AV) (u:WUpd):SK C base fin k a l d e h n (some (v,u))=OK C base fin k a l ⟨setD e d v,applyW h u,n⟩:=rfl
theorem setE_same:∀ {e:Env} {g:Nat} {v:AV},get e g=some v->setE e g v=e:=by
 intro e;induction e with
 | nil=>intro g v h;rfl
 | cons x e ih =>
  intro g v hg;obtain ⟨j,u⟩:=x;simp only [Pav.get] at hg;simp only [setE];split at hg
  ·rename_i hj;cases hg;rw [if_pos hj]
  ·rename_i hj;rw [if_neg hj,ih hg]
theorem gk_bool {op:COp} {g:Nat} {w b:Bool}:GK C base fin k a l d op g w e h n (some (.bool b))=if b=w then OK C base fin k a (⟨d,none,op⟩::l) ⟨setE e g (.bool w),h,n⟩ else OK C base fin k a l ⟨setD (setE e g (.bool (!w))) d (.tup []),h,n+1⟩:=rfl
theorem gk_true_true {op:COp} {g:Nat}:GK C base fin k a l d op g true e h n (some (.bool true))=OK C base fin k a (⟨d,none,op⟩::l) ⟨setE e g (.bool true),h,n⟩:=rfl
theorem gk_false_false {op:COp} {g:Nat}:GK C base fin k a l d op g false e h n (some (.bool false))=OK C base fin k a (⟨d,none,op⟩::l) ⟨setE e g (.bool false),h,n⟩:=rfl
theorem gk_true_false {op:COp} {g:Nat}:GK C base fin k a l d op g true e h n (some (.bool false))=OK C base fin k a l ⟨setD (setE e g (.bool false)) d (.tup []),h,n+1⟩:=rfl
theorem gk_false_true {op:COp} {g:Nat}:GK C base fin k a l d op g false e h n (some (.bool true))=OK C base fin k a l ⟨setD (setE e g (.bool true)) d (.tup []),h,n+1⟩:=rfl
theorem gk_tup {op:COp} {g:Nat} {w:Bool}:GK C base fin k a l d op g w e h n (some (.tup []))=OK C base fin k a l ⟨setD e d (.tup []),h,n+1⟩:=rfl
theorem ok_guard {op:COp} {g:Nat} {w:Bool}:OK C base fin k a (⟨d,some (g,w),op⟩::l) ⟨e,h,n⟩=GK C base fin k a l d op g w e h n (get e g):=by
 unfold OK GK;simp only [evOpsW,evOpW,wants];cases hg:get e g with
 | none=>rfl
 | some v =>
  cases v with
  | bool b =>
   simp only;by_cases hw:b=w
   ·subst hw;rw [setE_same hg,if_pos rfl];simp only [OK,evOpsW,evOpW,wants,beq_self_eq_true]
   ·have e1:(b == w)=false:=by simpa using hw
    have e2:(!w)=b:=by cases b <;> cases w <;> simp_all
    rw [if_neg hw,e2,setE_same hg];simp only [e1,ob,OK]
  | tup vs =>
   cases vs with
   | nil=>rfl
   | cons _ _=>rfl
  | _=>rfl
theorem vk_some {args:List AV} (v:AV):VK C base fin k a l d e h n args (some v)=OK C base fin k a l ⟨setD e d v,applyW h (marksW h args v),n⟩:=rfl
theorem wk_some (r:AV × WHeap × Nat):WK C base fin k a l d e (some r)=OK C base fin k a l ⟨setD e d r.1,r.2.1,r.2.2⟩:=rfl
theorem pk_some {f:Nat} {args:List AV} (az:List AV):PK C base fin k a l d e h n f args (some az)=VK C base fin k a l d e h n args (FnW C f az):=rfl
theorem fk_pure {f:Nat} {args:List AV}:FK C base fin k a l d e h n f args false false=PK C base fin k a l d e h n f args (mapO (frzW h frzDepth) args):=rfl
theorem fk_inl {f:Nat} {args:List AV} {p:Bool}:FK C base fin k a l d e h n f args true p=IK C base fin k a l d e h n f args (isFr f):=rfl
theorem ik_false {f:Nat} {args:List AV}:IK C base fin k a l d e h n f args false=WK C base fin k a l d e (RnW C f args h n):=rfl
theorem ik_true {f:Nat} {args:List AV}:IK C base fin k a l d e h n f args true=FPK C base fin k a l d e h n f args (mapO (frzW h frzDepth) args):=rfl
theorem fpk_some {f:Nat} {args:List AV} (az:List AV):FPK C base fin k a l d e h (n+1) f args (some az)=TK C base fin k a l d e h (n+1) f args az (isDp f):=rfl
theorem tk_false {f:Nat} {args az:List AV}:TK C base fin k a l d e h (n+1) f args az false=FSK C base fin k a l d e h (n+1) (isBr f) args (freshCallW (RnW C) f az n):=rfl
theorem tk_true {f:Nat} {args az:List AV}:TK C base fin k a l d e h n f args az true=HK C base fin k a l d e h n (isDb f) args (RnW C f az [] n):=rfl
theorem hbk_true (v:AV) (h1:WHeap) (n1:Nat):HBK C base fin k a l d e h n v h1 n1 true=OK C base fin k a l ⟨setD e d v,over n (h1.filter λx=>(reachW h1 frzDepth v).contains x.1) h,n1⟩:=rfl
theorem hk_bare {args:List AV} (r:AV × WHeap × Nat):HK C base fin k a l d e h n true args (some r)=HBK C base fin k a l d e h n r.1 r.2.1 r.2.2 (keptXW r.2.1 r.1 (reachW r.2.1 frzDepth r.1)):=rfl
theorem hk_some {args:List AV} (r:AV × WHeap × Nat):HK C base fin k a l d e h n false args (some r)=OK C base fin k a l ⟨setD e d r.1,over n r.2.1 (applyW h (markFrozenW h (args.flatMap (reachW h frzDepth)))),r.2.2⟩:=rfl
theorem bsk_true (v:AV) (u:WUpd):BSK C base fin k a l d e h n v u true=OK C base fin k a l ⟨setD e d v,applyW h u,n⟩:=rfl
theorem fsk_bare {args:List AV} (v:AV) (u:WUpd):FSK C base fin k a l d e h n true args (some (v,u))=BSK C base fin k a l d e h n v u (bareXW (v,u)):=rfl
theorem fsk_some {args:List AV} (v:AV) (u:WUpd):FSK C base fin k a l d e h n false args (some (v,u))=OK C base fin k a l ⟨setD e d v,applyW h (markFrozenW h (args.flatMap (reachW h frzDepth))++u),n⟩:=rfl
theorem fk_ptr {f:Nat} {args:List AV}:FK C base fin k a l d e h n f args false true=WK C base fin k a l d e (RnW C f args h n):=rfl
theorem qk_fn {f:Nat} {args caps:List AV}:QK C base fin k a l d e h n args (.fn f caps)=FK C base fin k a l d e h n f (args++caps) (C.inl f) (!C.pp f&&hasPtrL (args++caps)):=rfl
theorem fk_eq {f:Nat} {args:List AV}:(ob (om (evCallW C (RnW C) f args h (n - 1) n) (doneCallW h n args)) λr=>OK C base fin k a l ⟨setD e d r.v,r.h,r.n⟩)=FK C base fin k a l d e h n f args (C.inl f) (!C.pp f&&hasPtrL args):=by
 unfold FK evCallW IK FPK TK HK FSK WK PK VK FnW;split
 ·split
  ·cases mapO (frzW h frzDepth) args with
   | none=>rfl
   | some az =>
    simp only [ob];by_cases hdp:isDp f=true
    ·simp only [if_pos hdp];cases RnW C f az [] n with
     | none=>rfl
     | some r =>
      simp only [deepKeepW,deepUW];by_cases hdb:isDb f=true
      ·simp only [if_pos hdb];unfold HBK;by_cases hk:keptXW r.2.1 r.1 (reachW r.2.1 frzDepth r.1)=true
       ·simp only [if_pos hk];rfl
       ·simp only [if_neg hk];rfl
      ·simp only [if_neg hdb];rfl
    simp only [if_neg hdp];cases freshCallW (RnW C) f az (n - 1) with
    | none=>rfl
    | some x =>
     dsimp only [ob];unfold freshEndW freshUW BSK;cases isBr f
     ·rfl
     ·cases bareXW x <;> rfl
  ·cases RnW C f args h n <;> rfl
 ·split
  ·cases RnW C f args h n <;> rfl
  ·cases mapO (frzW h frzDepth) args with
   | none=>rfl
   | some az =>simp only [ob];cases pureCallW (RnW C) f az <;> rfl
theorem ok_call {f:Nat} {xs:List Opd}:OK C base fin k a (⟨d,none,.call f xs⟩::l) ⟨e,h,n⟩=FK C base fin k a l d e h (n+1) f (xs.map λx=>x.ev e) (C.inl f) (!C.pp f&&hasPtrL (xs.map λx=>x.ev e)):=by rw [<- fk_eq];unfold OK;simp only [evOpsW,evOpW,wants,evActW,callOf,ob_assoc,Nat.add_sub_cancel]
theorem ok_callv {g:Opd} {xs:List Opd}:OK C base fin k a (⟨d,none,.callv g xs⟩::l) ⟨e,h,n⟩=QK C base fin k a l d e h (n+1) (xs.map λx=>x.ev e) (g.ev e):=by
 unfold QK;cases hg:g.ev e with
 | fn f caps =>simp only;rw [<- fk_eq];unfold OK;simp only [evOpsW,evOpW,wants,evActW,callOf,hg,ob_assoc,Nat.add_sub_cancel]
 | _ =>unfold OK;simp only [evOpsW,evOpW,wants,evActW,callOf,hg];rfl
variable {un:List (Nat × Nat)} {nid:Nat} {ds:List RW}
theorem evDrawW_acc {r:WRun}:∀ (l:List COper) (nid:Nat) (s:WSt) (ds:List WDid),evDrawW C r l nid s ds=om (evDrawW C r l nid s []) λx=>(x.1,ds++x.2):=by
 intro l;induction l with
 | nil=>intro nid s ds;simp [evDrawW,om]
 | cons o l ih =>
  intro nid s ds;simp only [evDrawW];cases evOpW C r o nid s.env s.heap s.next with
  | none=>rfl
  | some d =>simp only [ob];rw [ih,ih _ _ ([]++[d])];cases evDrawW C r l (nid+1) _ [] <;> simp [om]
theorem dk_nil (s:WSt):DK C base fin k a un [] nid s ds=EK C base fin k a s (un.all (apartR ds)):=by unfold DK;simp only [evDrawW,ob,List.map_nil,List.append_nil]
theorem ek_true (s:WSt):EK C base fin k a s true=AK C base fin k (canonF base a s):=rfl
theorem dk_cons {o:COper} {s:WSt}:DK C base fin k a un (o::l) nid s ds=ob (evOpW C (RnW C) o nid s.env s.heap s.next) λx=>DK C base fin k a un l (nid+1) ⟨setD s.env o.dst x.v,x.h,x.n⟩ (ds++[rwOf x]):=by unfold DK;simp only [evDrawW,ob_assoc];congr 1;funext x;rw [evDrawW_acc];simp only [ob_om,List.nil_append,List.map_append,List.map_cons,List.map_nil,List.append_assoc]
theorem dk_step {op:COp} (hc:callOf e op=some none):DK C base fin k a un (⟨d,none,op⟩::l) nid ⟨e,h,n⟩ ds=DSK C base fin k a un l (nid+1) d e h n ds (readsOf e op) (stepW op e h nid):=by rw [dk_cons];unfold DSK;simp only [evOpW,wants,evActW,hc,ob_om];rfl
theorem dsk_some {rd:List Nat} (v:AV) (u:WUpd):DSK C base fin k a un l nid d e h n ds rd (some (v,u))=DK C base fin k a un l nid ⟨setD e d v,applyW h u,n⟩ (ds++[(false,rd,u.map (·.1))]):=rfl
theorem dgk_bool {op:COp} {g:Nat} {w b:Bool}:DGK C base fin k a un l nid d op g w e h n ds (some (.bool b))=if b=w then DK C base fin k a un (⟨d,none,op⟩::l) nid ⟨setE e g (.bool w),h,n⟩ ds else DK C base fin k a un l (nid+1) ⟨setD (setE e g (.bool (!w))) d (.tup []),h,n⟩ (ds++[(false,[],[])]):=rfl
theorem dgk_true_true {op:COp} {g:Nat}:DGK C base fin k a un l nid d op g true e h n ds (some (.bool true))=DK C base fin k a un (⟨d,none,op⟩::l) nid ⟨setE e g (.bool true),h,n⟩ ds:=rfl
theorem dgk_false_false {op:COp} {g:Nat}:DGK C base fin k a un l nid d op g false e h n ds (some (.bool false))=DK C base fin k a un (⟨d,none,op⟩::l) nid ⟨setE e g (.bool false),h,n⟩ ds:=rfl
theorem dgk_true_false {op:COp} {g:Nat}:DGK C base fin k a un l nid d op g true e h n ds (some (.bool false))=DK C base fin k a un l (nid+1) ⟨setD (setE e g (.bool false)) d (.tup []),h,n⟩ (ds++[(false,[],[])]):=rfl
theorem dgk_false_true {op:COp} {g:Nat}:DGK C base fin k a un l nid d op g false e h n ds (some (.bool true))=DK C base fin k a un l (nid+1) ⟨setD (setE e g (.bool true)) d (.tup []),h,n⟩ (ds++[(false,[],[])]):=rfl
theorem dgk_tup {op:COp} {g:Nat} {w:Bool}:DGK C base fin k a un l nid d op g w e h n ds (some (.tup []))=DK C base fin k a un l (nid+1) ⟨setD e d (.tup []),h,n⟩ (ds++[(false,[],[])]):=rfl
theorem dk_guard {op:COp} {g:Nat} {w:Bool}:DK C base fin k a un (⟨d,some (g,w),op⟩::l) nid ⟨e,h,n⟩ ds=DGK C base fin k a un l nid d op g w e h n ds (get e g):=by
 unfold DGK;cases hg:get e g with
 | none=>rw [dk_cons];simp only [evOpW,wants,hg];rfl
 | some v =>
  cases v with
  | bool b =>
   simp only;by_cases hw:b=w
   ·subst hw;rw [setE_same hg,if_pos rfl,dk_cons,dk_cons];simp only [evOpW,wants,hg,beq_self_eq_true]
   ·have e1:(b == w)=false:=by simpa using hw
    have e2:(!w)=b:=by cases b <;> cases w <;> simp_all
    rw [if_neg hw,e2,setE_same hg,dk_cons];simp only [evOpW,wants,hg,e1,ob,rwOf]
  | tup vs =>
   cases vs with
   | nil=>rw [dk_cons];simp only [evOpW,wants,hg];rfl
   | cons _ _=>rw [dk_cons];simp only [evOpW,wants,hg];rfl
  | _=>rw [dk_cons];simp only [evOpW,wants,hg];rfl
theorem dvk_some {args:List AV} (v:AV):DVK C base fin k a un l nid d e h n ds args (some v)=DK C base fin k a un l nid ⟨setD e d v,applyW h (marksW h args v),n⟩ (ds++[(false,args.flatMap (reachW h frzDepth),(marksW h args v).map (·.1))]):=rfl
theorem dwk_some (r:AV × WHeap × Nat):DWK C base fin k a un l nid d e ds (some r)=DK C base fin k a un l nid ⟨setD e d r.1,r.2.1,r.2.2⟩ (ds++[(true,[],[])]):=rfl
theorem dpk_some {f:Nat} {args:List AV} (az:List AV):DPK C base fin k a un l nid d e h n ds f args (some az)=DVK C base fin k a un l nid d e h n ds args (FnW C f az):=rfl
theorem dfk_pure {f:Nat} {args:List AV}:DFK C base fin k a un l nid d e h n ds f args false false=DPK C base fin k a un l nid d e h n ds f args (mapO (frzW h frzDepth) args):=rfl
theorem dfk_inl {f:Nat} {args:List AV} {p:Bool}:DFK C base fin k a un l nid d e h n ds f args true p=DIK C base fin k a un l nid d e h n ds f args (isFr f):=rfl
theorem dik_false {f:Nat} {args:List AV}:DIK C base fin k a un l nid d e h n ds f args false=DWK C base fin k a un l nid d e ds (RnW C f args h n):=rfl
theorem dik_true {f:Nat} {args:List AV}:DIK C base fin k a un l nid d e h n ds f args true=DFPK C base fin k a un l nid d e h n ds f args (mapO (frzW h frzDepth) args):=rfl
theorem dfpk_some {f:Nat} {args:List AV} (az:List AV):DFPK C base fin k a un l nid d e h n ds f args (some az)=DTK C base fin k a un l nid d e h n ds f args az (isDp f):=rfl
theorem dtk_false {f:Nat} {args az:List AV}:DTK C base fin k a un l nid d e h n ds f args az false=DFSK C base fin k a un l nid d e h n ds (isBr f) args (freshCallW (RnW C) f az (nid - 1)):=rfl
theorem dtk_true {f:Nat} {args az:List AV}:DTK C base fin k a un l nid d e h n ds f args az true=DHK C base fin k a un l nid d e h n ds (isDb f) args (RnW C f az [] n):=rfl
theorem dhbk_true {args:List AV} (v:AV) (h1:WHeap) (n1:Nat):DHBK C base fin k a un l nid d e h n ds args v h1 n1 true=DK C base fin k a un l nid ⟨setD e d v,over n (h1.filter λx=>(reachW h1 frzDepth v).contains x.1) h,n1⟩ (ds++[(true,args.flatMap (reachW h frzDepth),[n])]):=rfl
theorem dhk_bare {args:List AV} (r:AV × WHeap × Nat):DHK C base fin k a un l nid d e h n ds true args (some r)=DHBK C base fin k a un l nid d e h n ds args r.1 r.2.1 r.2.2 (keptXW r.2.1 r.1 (reachW r.2.1 frzDepth r.1)):=rfl
theorem dhk_some {args:List AV} (r:AV × WHeap × Nat):DHK C base fin k a un l nid d e h n ds false args (some r)=DK C base fin k a un l nid ⟨setD e d r.1,over n r.2.1 (applyW h (markFrozenW h (args.flatMap (reachW h frzDepth)))),r.2.2⟩ (ds++[(true,args.flatMap (reachW h frzDepth),n::(markFrozenW h (args.flatMap (reachW h frzDepth))).map (·.1))]):=rfl
theorem dbsk_true {args:List AV} (v:AV) (u:WUpd):DBSK C base fin k a un l nid d e h n ds args v u true=DK C base fin k a un l nid ⟨setD e d v,applyW h u,n⟩ (ds++[(false,args.flatMap (reachW h frzDepth),u.map (·.1))]):=rfl
theorem dfsk_bare {args:List AV} (v:AV) (u:WUpd):DFSK C base fin k a un l nid d e h n ds true args (some (v,u))=DBSK C base fin k a un l nid d e h n ds args v u (bareXW (v,u)):=rfl
theorem dfsk_some {args:List AV} (v:AV) (u:WUpd):DFSK C base fin k a un l nid d e h n ds false args (some (v,u))=DK C base fin k a un l nid ⟨setD e d v,applyW h (markFrozenW h (args.flatMap (reachW h frzDepth))++u),n⟩ (ds++[(false,args.flatMap (reachW h frzDepth),(markFrozenW h (args.flatMap (reachW h frzDepth))++u).map (·.1))]):=rfl
theorem dfk_ptr {f:Nat} {args:List AV}:DFK C base fin k a un l nid d e h n ds f args false true=DWK C base fin k a un l nid d e ds (RnW C f args h n):=rfl
theorem dqk_fn {f:Nat} {args caps:List AV}:DQK C base fin k a un l nid d e h n ds args (.fn f caps)=DFK C base fin k a un l nid d e h n ds f (args++caps) (C.inl f) (!C.pp f&&hasPtrL (args++caps)):=rfl
theorem dfk_eq {f:Nat} {args:List AV}:(ob (om (evCallW C (RnW C) f args h (nid - 1) n) (doneCallW h n args)) λr=>DK C base fin k a un l nid ⟨setD e d r.v,r.h,r.n⟩ (ds++[rwOf r]))=DFK C base fin k a un l nid d e h n ds f args (C.inl f) (!C.pp f&&hasPtrL args):=by
 unfold DFK evCallW DIK DFPK DTK DHK DFSK DWK DPK DVK FnW;split
 ·split
  ·cases mapO (frzW h frzDepth) args with
   | none=>rfl
   | some az =>
    simp only [ob];by_cases hdp:isDp f=true
    ·simp only [if_pos hdp];cases RnW C f az [] n with
     | none=>rfl
     | some r =>
      simp only [deepKeepW,deepUW];by_cases hdb:isDb f=true
      ·simp only [if_pos hdb];unfold DHBK;by_cases hk:keptXW r.2.1 r.1 (reachW r.2.1 frzDepth r.1)=true
       ·simp only [if_pos hk];rfl
       ·simp only [if_neg hk];rfl
      ·simp only [if_neg hdb];rfl
    simp only [if_neg hdp];cases freshCallW (RnW C) f az (nid - 1) with
    | none=>rfl
    | some x =>
     dsimp only [ob];unfold freshEndW freshUW DBSK;cases isBr f
     ·rfl
     ·cases bareXW x <;> rfl
  ·cases RnW C f args h n <;> rfl
 ·split
  ·cases RnW C f args h n <;> rfl
  ·cases mapO (frzW h frzDepth) args with
   | none=>rfl
   | some az =>simp only [ob];cases pureCallW (RnW C) f az <;> rfl
theorem dk_call {f:Nat} {xs:List Opd}:DK C base fin k a un (⟨d,none,.call f xs⟩::l) nid ⟨e,h,n⟩ ds=DFK C base fin k a un l (nid+1) d e h n ds f (xs.map λx=>x.ev e) (C.inl f) (!C.pp f&&hasPtrL (xs.map λx=>x.ev e)):=by rw [<- dfk_eq,dk_cons];simp only [evOpW,wants,evActW,callOf,Nat.add_sub_cancel]
theorem dk_callv {g:Opd} {xs:List Opd}:DK C base fin k a un (⟨d,none,.callv g xs⟩::l) nid ⟨e,h,n⟩ ds=DQK C base fin k a un l (nid+1) d e h n ds (xs.map λx=>x.ev e) (g.ev e):=by
 unfold DQK;rw [dk_cons];cases hg:g.ev e with
 | fn f caps =>simp only;rw [<- dfk_eq];simp only [evOpW,wants,evActW,callOf,hg,Nat.add_sub_cancel]
 | _ =>simp only [evOpW,wants,evActW,callOf,hg];rfl
theorem fnW_eq {f:Nat} {fn:WFn} (hf:C.fns.get f=some fn) {args:List AV} (hl:args.length=fn.np):FnW C f args=CK C 0 (pureFin fn.res) [] fn.body ⟨argW 0 args [],[],0⟩:=by
 unfold FnW pureCallW RnW runWithW CK pureFin;rw [hf];simp only [ob,if_pos hl,RK];cases CdW C 0 fn.body ⟨argW 0 args [],[],0⟩ with
 | none=>rfl
 | some r=>rfl
theorem aP {f:Nat} {fn:WFn} (hf:C.fns.get f=some fn) {args:List AV} (hl:args.length=fn.np) (h:WHeap) (n:Nat):RnW C f args h n=CK C n (fnEndW fn.res) [] fn.body ⟨argW 0 args [],h,n⟩:=by unfold RnW runWithW CK;rw [hf];simp only [ob,if_pos hl,RK]
end
end Go.Pw
end
section
namespace Go.Pw
open Go Go.Pav
attribute [simp] ck_prim primF primAfter primN primArgs ck_seq ck_skip ck_exit ck_ret ck_cond ck_block ck_ops ck_draw nk_nil nk_sq nk_sq_exit nk_sq_ret nk_lp_exit nk_lp_ret nk_bk nk_bk_exit nk_bk_ret ak_some lk_some
 ok_nil sk_some gk_tup ok_guard vk_some wk_some pk_some fk_pure fk_inl fk_ptr qk_fn ok_call ok_callv dk_nil ek_true dsk_some dgk_tup dk_guard dvk_some dwk_some dpk_some dfk_pure dfk_inl dfk_ptr dqk_fn dk_call dk_callv ik_false ik_true fpk_some fsk_some fsk_bare bsk_true dfsk_bare dbsk_true isBr bareXW bareOW bareV bareL dik_false dik_true dfpk_some dfsk_some isFr isDp tk_false tk_true hk_some hk_bare hbk_true dtk_false dtk_true dhk_some dhk_bare dhbk_true isDb keptXW keptOW keptV keptL
attribute [simp high] condK_true condK_false gk_true_true gk_false_false gk_true_false gk_false_true dgk_true_true dgk_false_false dgk_true_false dgk_false_true
attribute [simp low] condK_bool gk_bool dgk_bool
section
variable {β:Type} {C:WProg} {base:Nat} {fin:Ex × WSt->Option β} {k:List Frame} {a:Ann} {l:List COper} {d:Option Nat} {e:Env} {h:WHeap} {n:Nat} {un:List (Nat × Nat)} {nid:Nat} {ds:List RW}
@[simp] theorem ok_mv {x:Opd}:OK C base fin k a (⟨d,none,.mv x⟩::l) ⟨e,h,n⟩=OK C base fin k a l ⟨setD e d (x.ev e),h,n+1⟩:=by rw [ok_step rfl];rfl
@[simp] theorem ok_pick {c x y:Opd}:OK C base fin k a (⟨d,none,.pick c x y⟩::l) ⟨e,h,n⟩=SK C base fin k a l d e h (n+1) (stepW (.pick c x y) e h n):=ok_step rfl
@[simp] theorem ok_alloc {z:List AV}:OK C base fin k a (⟨d,none,.alloc z⟩::l) ⟨e,h,n⟩=SK C base fin k a l d e h (n+1) (stepW (.alloc z) e h n):=ok_step rfl
@[simp] theorem ok_box {x:Opd}:OK C base fin k a (⟨d,none,.box x⟩::l) ⟨e,h,n⟩=SK C base fin k a l d e h (n+1) (stepW (.box x) e h n):=ok_step rfl
@[simp] theorem ok_build {z:List AV} {ps:List (Nat × Nat × Opd)}:OK C base fin k a (⟨d,none,.build z ps⟩::l) ⟨e,h,n⟩=SK C base fin k a l d e h (n+1) (stepW (.build z ps) e h n):=ok_step rfl
@[simp] theorem ok_buildS {z:List AV} {m:Nat} {ps:List (Nat × Opd)}:OK C base fin k a (⟨d,none,.buildS z m ps⟩::l) ⟨e,h,n⟩=SK C base fin k a l d e h (n+1) (stepW (.buildS z m ps) e h n):=ok_step rfl
@[simp] theorem ok_load {m:Nat} {ag:Bool} {x:Opd}:OK C base fin k a (⟨d,none,.load m ag x⟩::l) ⟨e,h,n⟩=SK C base fin k a l d e h (n+1) (stepW (.load m ag x) e h n):=ok_step rfl
@[simp] theorem ok_store {m:Nat} {x y:Opd}:OK C base fin k a (⟨d,none,.store m x y⟩::l) ⟨e,h,n⟩=SK C base fin k a l d e h (n+1) (stepW (.store m x y) e h n):=ok_step rfl
@[simp] theorem ok_nilchk {x:Opd}:OK C base fin k a (⟨d,none,.nilchk x⟩::l) ⟨e,h,n⟩=SK C base fin k a l d e h (n+1) (stepW (.nilchk x) e h n):=ok_step rfl
@[simp] theorem ok_bin {op:BinOp} {x y:Opd}:OK C base fin k a (⟨d,none,.bin op x y⟩::l) ⟨e,h,n⟩=SK C base fin k a l d e h (n+1) (stepW (.bin op x y) e h n):=ok_step rfl
@[simp] theorem ok_eqv {kd:Nat} {ks:List Nat} {ne:Bool} {x y:Opd}:OK C base fin k a (⟨d,none,.eqv kd ks ne x y⟩::l) ⟨e,h,n⟩=SK C base fin k a l d e h (n+1) (stepW (.eqv kd ks ne x y) e h n):=ok_step rfl
@[simp] theorem ok_un {op:UnOp} {x:Opd}:OK C base fin k a (⟨d,none,.un op x⟩::l) ⟨e,h,n⟩=SK C base fin k a l d e h (n+1) (stepW (.un op x) e h n):=ok_step rfl
@[simp] theorem ok_cvt {kk:IntKind} {x:Opd}:OK C base fin k a (⟨d,none,.cvt kk x⟩::l) ⟨e,h,n⟩=SK C base fin k a l d e h (n+1) (stepW (.cvt kk x) e h n):=ok_step rfl
@[simp] theorem ok_cvs {x:Opd}:OK C base fin k a (⟨d,none,.cvs x⟩::l) ⟨e,h,n⟩=SK C base fin k a l d e h (n+1) (stepW (.cvs x) e h n):=ok_step rfl
@[simp] theorem ok_cvb {x:Opd}:OK C base fin k a (⟨d,none,.cvb x⟩::l) ⟨e,h,n⟩=SK C base fin k a l d e h (n+1) (stepW (.cvb x) e h n):=ok_step rfl
@[simp] theorem ok_mkfn {f:Nat} {xs:List Opd}:OK C base fin k a (⟨d,none,.mkfn f xs⟩::l) ⟨e,h,n⟩=SK C base fin k a l d e h (n+1) (stepW (.mkfn f xs) e h n):=ok_step rfl
@[simp] theorem ok_mkmap:OK C base fin k a (⟨d,none,.mkmap⟩::l) ⟨e,h,n⟩=SK C base fin k a l d e h (n+1) (stepW .mkmap e h n):=ok_step rfl
@[simp] theorem ok_mksl {z:List AV} {b:Nat} {x y:Opd}:OK C base fin k a (⟨d,none,.mksl z b x y⟩::l) ⟨e,h,n⟩=SK C base fin k a l d e h (n+1) (stepW (.mksl z b x y) e h n):=ok_step rfl
@[simp] theorem ok_slice {z:Nat} {x:Opd} {lo hi mx:Option Opd}:OK C base fin k a (⟨d,none,.slice z x lo hi mx⟩::l) ⟨e,h,n⟩=SK C base fin k a l d e h (n+1) (stepW (.slice z x lo hi mx) e h n):=ok_step rfl
@[simp] theorem ok_sliceA {z:Nat} {x:Opd} {lo hi:Option Opd}:OK C base fin k a (⟨d,none,.sliceA z x lo hi⟩::l) ⟨e,h,n⟩=SK C base fin k a l d e h (n+1) (stepW (.sliceA z x lo hi) e h n):=ok_step rfl
@[simp] theorem ok_fld {o:Nat} {x:Opd}:OK C base fin k a (⟨d,none,.fld o x⟩::l) ⟨e,h,n⟩=SK C base fin k a l d e h (n+1) (stepW (.fld o x) e h n):=ok_step rfl
@[simp] theorem ok_fldv {o m:Nat} {ag:Bool} {x:Opd}:OK C base fin k a (⟨d,none,.fldv o m ag x⟩::l) ⟨e,h,n⟩=SK C base fin k a l d e h (n+1) (stepW (.fldv o m ag x) e h n):=ok_step rfl
@[simp] theorem ok_idxs {z:Nat} {x y:Opd}:OK C base fin k a (⟨d,none,.idxs z x y⟩::l) ⟨e,h,n⟩=SK C base fin k a l d e h (n+1) (stepW (.idxs z x y) e h n):=ok_step rfl
@[simp] theorem ok_idxa {m z:Nat} {x y:Opd}:OK C base fin k a (⟨d,none,.idxa m z x y⟩::l) ⟨e,h,n⟩=SK C base fin k a l d e h (n+1) (stepW (.idxa m z x y) e h n):=ok_step rfl
@[simp] theorem ok_idxstr {x y:Opd}:OK C base fin k a (⟨d,none,.idxstr x y⟩::l) ⟨e,h,n⟩=SK C base fin k a l d e h (n+1) (stepW (.idxstr x y) e h n):=ok_step rfl
@[simp] theorem ok_idxv {m z:Nat} {ag:Bool} {x y:Opd}:OK C base fin k a (⟨d,none,.idxv m z ag x y⟩::l) ⟨e,h,n⟩=SK C base fin k a l d e h (n+1) (stepW (.idxv m z ag x y) e h n):=ok_step rfl
@[simp] theorem ok_look {kd:Nat} {z:AV} {ok:Bool} {x y:Opd}:OK C base fin k a (⟨d,none,.look kd z ok x y⟩::l) ⟨e,h,n⟩=SK C base fin k a l d e h (n+1) (stepW (.look kd z ok x y) e h n):=ok_step rfl
@[simp] theorem ok_upd {kd:Nat} {x y z:Opd}:OK C base fin k a (⟨d,none,.upd kd x y z⟩::l) ⟨e,h,n⟩=SK C base fin k a l d e h (n+1) (stepW (.upd kd x y z) e h n):=ok_step rfl
@[simp] theorem ok_range {x:Opd}:OK C base fin k a (⟨d,none,.range x⟩::l) ⟨e,h,n⟩=SK C base fin k a l d e h (n+1) (stepW (.range x) e h n):=ok_step rfl
@[simp] theorem ok_next {x:Opd}:OK C base fin k a (⟨d,none,.next x⟩::l) ⟨e,h,n⟩=SK C base fin k a l d e h (n+1) (stepW (.next x) e h n):=ok_step rfl
@[simp] theorem ok_ext {i:Nat} {x:Opd}:OK C base fin k a (⟨d,none,.ext i x⟩::l) ⟨e,h,n⟩=SK C base fin k a l d e h (n+1) (stepW (.ext i x) e h n):=ok_step rfl
@[simp] theorem ok_len {kd:Nat} {x:Opd}:OK C base fin k a (⟨d,none,.len kd x⟩::l) ⟨e,h,n⟩=SK C base fin k a l d e h (n+1) (stepW (.len kd x) e h n):=ok_step rfl
@[simp] theorem ok_cap {x:Opd}:OK C base fin k a (⟨d,none,.cap x⟩::l) ⟨e,h,n⟩=SK C base fin k a l d e h (n+1) (stepW (.cap x) e h n):=ok_step rfl
@[simp] theorem ok_app {z:List AV} {b:Nat} {zs:Bool} {x y:Opd}:OK C base fin k a (⟨d,none,.app z b zs x y⟩::l) ⟨e,h,n⟩=SK C base fin k a l d e h (n+1) (stepW (.app z b zs x y) e h n):=ok_step rfl
@[simp] theorem ok_cpy {z:Nat} {x y:Opd}:OK C base fin k a (⟨d,none,.cpy z x y⟩::l) ⟨e,h,n⟩=SK C base fin k a l d e h (n+1) (stepW (.cpy z x y) e h n):=ok_step rfl
@[simp] theorem ok_clr {z:List AV} {x:Opd}:OK C base fin k a (⟨d,none,.clr z x⟩::l) ⟨e,h,n⟩=SK C base fin k a l d e h (n+1) (stepW (.clr z x) e h n):=ok_step rfl
@[simp] theorem ok_mx {x y:Opd}:OK C base fin k a (⟨d,none,.mx x y⟩::l) ⟨e,h,n⟩=SK C base fin k a l d e h (n+1) (stepW (.mx x y) e h n):=ok_step rfl
@[simp] theorem ok_mn {x y:Opd}:OK C base fin k a (⟨d,none,.mn x y⟩::l) ⟨e,h,n⟩=SK C base fin k a l d e h (n+1) (stepW (.mn x y) e h n):=ok_step rfl
@[simp] theorem dk_mv {x:Opd}:DK C base fin k a un (⟨d,none,.mv x⟩::l) nid ⟨e,h,n⟩ ds=DSK C base fin k a un l (nid+1) d e h n ds (readsOf e (.mv x)) (stepW (.mv x) e h nid):=dk_step rfl
@[simp] theorem dk_pick {c x y:Opd}:DK C base fin k a un (⟨d,none,.pick c x y⟩::l) nid ⟨e,h,n⟩ ds=DSK C base fin k a un l (nid+1) d e h n ds (readsOf e (.pick c x y)) (stepW (.pick c x y) e h nid):=dk_step rfl
@[simp] theorem dk_alloc {z:List AV}:DK C base fin k a un (⟨d,none,.alloc z⟩::l) nid ⟨e,h,n⟩ ds=DSK C base fin k a un l (nid+1) d e h n ds (readsOf e (.alloc z)) (stepW (.alloc z) e h nid):=dk_step rfl
@[simp] theorem dk_box {x:Opd}:DK C base fin k a un (⟨d,none,.box x⟩::l) nid ⟨e,h,n⟩ ds=DSK C base fin k a un l (nid+1) d e h n ds (readsOf e (.box x)) (stepW (.box x) e h nid):=dk_step rfl
@[simp] theorem dk_build {z:List AV} {ps:List (Nat × Nat × Opd)}:DK C base fin k a un (⟨d,none,.build z ps⟩::l) nid ⟨e,h,n⟩ ds=DSK C base fin k a un l (nid+1) d e h n ds (readsOf e (.build z ps)) (stepW (.build z ps) e h nid):=dk_step rfl
@[simp] theorem dk_buildS {z:List AV} {m:Nat} {ps:List (Nat × Opd)}:DK C base fin k a un (⟨d,none,.buildS z m ps⟩::l) nid ⟨e,h,n⟩ ds=DSK C base fin k a un l (nid+1) d e h n ds (readsOf e (.buildS z m ps)) (stepW (.buildS z m ps) e h nid):=dk_step rfl
@[simp] theorem dk_load {m:Nat} {ag:Bool} {x:Opd}:DK C base fin k a un (⟨d,none,.load m ag x⟩::l) nid ⟨e,h,n⟩ ds=DSK C base fin k a un l (nid+1) d e h n ds (readsOf e (.load m ag x)) (stepW (.load m ag x) e h nid):=dk_step rfl
@[simp] theorem dk_store {m:Nat} {x y:Opd}:DK C base fin k a un (⟨d,none,.store m x y⟩::l) nid ⟨e,h,n⟩ ds=DSK C base fin k a un l (nid+1) d e h n ds (readsOf e (.store m x y)) (stepW (.store m x y) e h nid):=dk_step rfl
@[simp] theorem dk_nilchk {x:Opd}:DK C base fin k a un (⟨d,none,.nilchk x⟩::l) nid ⟨e,h,n⟩ ds=DSK C base fin k a un l (nid+1) d e h n ds (readsOf e (.nilchk x)) (stepW (.nilchk x) e h nid):=dk_step rfl
@[simp] theorem dk_bin {op:BinOp} {x y:Opd}:DK C base fin k a un (⟨d,none,.bin op x y⟩::l) nid ⟨e,h,n⟩ ds=DSK C base fin k a un l (nid+1) d e h n ds (readsOf e (.bin op x y)) (stepW (.bin op x y) e h nid):=dk_step rfl
@[simp] theorem dk_eqv {kd:Nat} {ks:List Nat} {ne:Bool} {x y:Opd}:DK C base fin k a un (⟨d,none,.eqv kd ks ne x y⟩::l) nid ⟨e,h,n⟩ ds=DSK C base fin k a un l (nid+1) d e h n ds (readsOf e (.eqv kd ks ne x y)) (stepW (.eqv kd ks ne x y) e h nid):=dk_step rfl
@[simp] theorem dk_un {op:UnOp} {x:Opd}:DK C base fin k a un (⟨d,none,.un op x⟩::l) nid ⟨e,h,n⟩ ds=DSK C base fin k a un l (nid+1) d e h n ds (readsOf e (.un op x)) (stepW (.un op x) e h nid):=dk_step rfl
@[simp] theorem dk_cvt {kk:IntKind} {x:Opd}:DK C base fin k a un (⟨d,none,.cvt kk x⟩::l) nid ⟨e,h,n⟩ ds=DSK C base fin k a un l (nid+1) d e h n ds (readsOf e (.cvt kk x)) (stepW (.cvt kk x) e h nid):=dk_step rfl
@[simp] theorem dk_cvs {x:Opd}:DK C base fin k a un (⟨d,none,.cvs x⟩::l) nid ⟨e,h,n⟩ ds=DSK C base fin k a un l (nid+1) d e h n ds (readsOf e (.cvs x)) (stepW (.cvs x) e h nid):=dk_step rfl
@[simp] theorem dk_cvb {x:Opd}:DK C base fin k a un (⟨d,none,.cvb x⟩::l) nid ⟨e,h,n⟩ ds=DSK C base fin k a un l (nid+1) d e h n ds (readsOf e (.cvb x)) (stepW (.cvb x) e h nid):=dk_step rfl
@[simp] theorem dk_mkfn {f:Nat} {xs:List Opd}:DK C base fin k a un (⟨d,none,.mkfn f xs⟩::l) nid ⟨e,h,n⟩ ds=DSK C base fin k a un l (nid+1) d e h n ds (readsOf e (.mkfn f xs)) (stepW (.mkfn f xs) e h nid):=dk_step rfl
@[simp] theorem dk_mkmap:DK C base fin k a un (⟨d,none,.mkmap⟩::l) nid ⟨e,h,n⟩ ds=DSK C base fin k a un l (nid+1) d e h n ds (readsOf e (.mkmap)) (stepW (.mkmap) e h nid):=dk_step rfl
@[simp] theorem dk_mksl {z:List AV} {b:Nat} {x y:Opd}:DK C base fin k a un (⟨d,none,.mksl z b x y⟩::l) nid ⟨e,h,n⟩ ds=DSK C base fin k a un l (nid+1) d e h n ds (readsOf e (.mksl z b x y)) (stepW (.mksl z b x y) e h nid):=dk_step rfl
@[simp] theorem dk_slice {z:Nat} {x:Opd} {lo hi mx:Option Opd}:DK C base fin k a un (⟨d,none,.slice z x lo hi mx⟩::l) nid ⟨e,h,n⟩ ds=DSK C base fin k a un l (nid+1) d e h n ds (readsOf e (.slice z x lo hi mx)) (stepW (.slice z x lo hi mx) e h nid):=dk_step rfl
@[simp] theorem dk_sliceA {z:Nat} {x:Opd} {lo hi:Option Opd}:DK C base fin k a un (⟨d,none,.sliceA z x lo hi⟩::l) nid ⟨e,h,n⟩ ds=DSK C base fin k a un l (nid+1) d e h n ds (readsOf e (.sliceA z x lo hi)) (stepW (.sliceA z x lo hi) e h nid):=dk_step rfl
@[simp] theorem dk_fld {o:Nat} {x:Opd}:DK C base fin k a un (⟨d,none,.fld o x⟩::l) nid ⟨e,h,n⟩ ds=DSK C base fin k a un l (nid+1) d e h n ds (readsOf e (.fld o x)) (stepW (.fld o x) e h nid):=dk_step rfl
@[simp] theorem dk_fldv {o m:Nat} {ag:Bool} {x:Opd}:DK C base fin k a un (⟨d,none,.fldv o m ag x⟩::l) nid ⟨e,h,n⟩ ds=DSK C base fin k a un l (nid+1) d e h n ds (readsOf e (.fldv o m ag x)) (stepW (.fldv o m ag x) e h nid):=dk_step rfl
@[simp] theorem dk_idxs {z:Nat} {x y:Opd}:DK C base fin k a un (⟨d,none,.idxs z x y⟩::l) nid ⟨e,h,n⟩ ds=DSK C base fin k a un l (nid+1) d e h n ds (readsOf e (.idxs z x y)) (stepW (.idxs z x y) e h nid):=dk_step rfl
@[simp] theorem dk_idxa {m z:Nat} {x y:Opd}:DK C base fin k a un (⟨d,none,.idxa m z x y⟩::l) nid ⟨e,h,n⟩ ds=DSK C base fin k a un l (nid+1) d e h n ds (readsOf e (.idxa m z x y)) (stepW (.idxa m z x y) e h nid):=dk_step rfl
@[simp] theorem dk_idxstr {x y:Opd}:DK C base fin k a un (⟨d,none,.idxstr x y⟩::l) nid ⟨e,h,n⟩ ds=DSK C base fin k a un l (nid+1) d e h n ds (readsOf e (.idxstr x y)) (stepW (.idxstr x y) e h nid):=dk_step rfl
@[simp] theorem dk_idxv {m z:Nat} {ag:Bool} {x y:Opd}:DK C base fin k a un (⟨d,none,.idxv m z ag x y⟩::l) nid ⟨e,h,n⟩ ds=DSK C base fin k a un l (nid+1) d e h n ds (readsOf e (.idxv m z ag x y)) (stepW (.idxv m z ag x y) e h nid):=dk_step rfl
@[simp] theorem dk_look {kd:Nat} {z:AV} {ok:Bool} {x y:Opd}:DK C base fin k a un (⟨d,none,.look kd z ok x y⟩::l) nid ⟨e,h,n⟩ ds=DSK C base fin k a un l (nid+1) d e h n ds (readsOf e (.look kd z ok x y)) (stepW (.look kd z ok x y) e h nid):=dk_step rfl
@[simp] theorem dk_upd {kd:Nat} {x y z:Opd}:DK C base fin k a un (⟨d,none,.upd kd x y z⟩::l) nid ⟨e,h,n⟩ ds=DSK C base fin k a un l (nid+1) d e h n ds (readsOf e (.upd kd x y z)) (stepW (.upd kd x y z) e h nid):=dk_step rfl
@[simp] theorem dk_range {x:Opd}:DK C base fin k a un (⟨d,none,.range x⟩::l) nid ⟨e,h,n⟩ ds=DSK C base fin k a un l (nid+1) d e h n ds (readsOf e (.range x)) (stepW (.range x) e h nid):=dk_step rfl
@[simp] theorem dk_next {x:Opd}:DK C base fin k a un (⟨d,none,.next x⟩::l) nid ⟨e,h,n⟩ ds=DSK C base fin k a un l (nid+1) d e h n ds (readsOf e (.next x)) (stepW (.next x) e h nid):=dk_step rfl
@[simp] theorem dk_ext {i:Nat} {x:Opd}:DK C base fin k a un (⟨d,none,.ext i x⟩::l) nid ⟨e,h,n⟩ ds=DSK C base fin k a un l (nid+1) d e h n ds (readsOf e (.ext i x)) (stepW (.ext i x) e h nid):=dk_step rfl
@[simp] theorem dk_len {kd:Nat} {x:Opd}:DK C base fin k a un (⟨d,none,.len kd x⟩::l) nid ⟨e,h,n⟩ ds=DSK C base fin k a un l (nid+1) d e h n ds (readsOf e (.len kd x)) (stepW (.len kd x) e h nid):=dk_step rfl
@[simp] theorem dk_cap {x:Opd}:DK C base fin k a un (⟨d,none,.cap x⟩::l) nid ⟨e,h,n⟩ ds=DSK C base fin k a un l (nid+1) d e h n ds (readsOf e (.cap x)) (stepW (.cap x) e h nid):=dk_step rfl
@[simp] theorem dk_app {z:List AV} {b:Nat} {zs:Bool} {x y:Opd}:DK C base fin k a un (⟨d,none,.app z b zs x y⟩::l) nid ⟨e,h,n⟩ ds=DSK C base fin k a un l (nid+1) d e h n ds (readsOf e (.app z b zs x y)) (stepW (.app z b zs x y) e h nid):=dk_step rfl
@[simp] theorem dk_cpy {z:Nat} {x y:Opd}:DK C base fin k a un (⟨d,none,.cpy z x y⟩::l) nid ⟨e,h,n⟩ ds=DSK C base fin k a un l (nid+1) d e h n ds (readsOf e (.cpy z x y)) (stepW (.cpy z x y) e h nid):=dk_step rfl
@[simp] theorem dk_clr {z:List AV} {x:Opd}:DK C base fin k a un (⟨d,none,.clr z x⟩::l) nid ⟨e,h,n⟩ ds=DSK C base fin k a un l (nid+1) d e h n ds (readsOf e (.clr z x)) (stepW (.clr z x) e h nid):=dk_step rfl
@[simp] theorem dk_mx {x y:Opd}:DK C base fin k a un (⟨d,none,.mx x y⟩::l) nid ⟨e,h,n⟩ ds=DSK C base fin k a un l (nid+1) d e h n ds (readsOf e (.mx x y)) (stepW (.mx x y) e h nid):=dk_step rfl
@[simp] theorem dk_mn {x y:Opd}:DK C base fin k a un (⟨d,none,.mn x y⟩::l) nid ⟨e,h,n⟩ ds=DSK C base fin k a un l (nid+1) d e h n ds (readsOf e (.mn x y)) (stepW (.mn x y) e h nid):=dk_step rfl
end
@[simp] theorem nat?_cast (n:Nat):nat? (n:Int)=some n:=rfl
@[simp] theorem nat?_zero:nat? 0=some 0:=rfl
@[simp] theorem nat?_one:nat? 1=some 1:=rfl
@[simp] theorem nat?_lit (n:Nat):nat? (no_index (OfNat.ofNat n):Int)=some n:=rfl
@[simp] theorem nat?_add (n m:Nat):nat? ((n:Int)+(m:Int))=some (n+m):=rfl
@[simp] theorem nat?_add_lit (n m:Nat):nat? ((n:Int)+(no_index (OfNat.ofNat m):Int))=some (n+m):=rfl
theorem aj {x:Int} (h1:-9223372036854775808<=x) (h2:x < 9223372036854775808):IntKind.i64.wrap x=x:=by show (if (true&&decide (x % 18446744073709551616 ≥ 9223372036854775808))=true then x % 18446744073709551616 - 18446744073709551616 else x % 18446744073709551616)=x;simp only [Bool.true_and,decide_eq_true_eq];split <;> omega
theorem gU {x:Int} (h1:0<=x) (h2:x < 18446744073709551616):IntKind.u64.wrap x=x:=by show (if (false&&decide (x % 18446744073709551616 ≥ 9223372036854775808))=true then x % 18446744073709551616 - 18446744073709551616 else x % 18446744073709551616)=x;simp only [Bool.false_and,Bool.false_eq_true,if_false];omega
theorem fits {n c:Nat} (h:n * c<=35184372088832):(n * c<=35184372088832)=True:=eq_true h
@[simp ↓] theorem ob_s {α β:Type} (a:α) (f:α->Option β):ob (some a) f=f a:=rfl
@[simp] theorem resOf_tmp (e:Env) (h:WHeap) (t:Nat):resOfW e h (.tmp t)=Pav.get e t:=rfl
def cellOf (h:WHeap) (n:Nat) (ag:Bool):Option AV->Option AV
 | some (.ptr b i o)=>wLoadAt n ag o i (Pav.get h b)
 | _=>none
@[simp] theorem resOf_cell (e:Env) (h:WHeap) (t n:Nat) (ag:Bool):resOfW e h (.cell t n ag)=cellOf h n ag (Pav.get e t):=rfl
attribute [simp] cellOf
@[simp] theorem ev_t (s:Nat) (e:Env):(Opd.t s).ev e=(Pav.get e s).getD .undef:=rfl
@[simp] theorem ev_c (v:AV) (e:Env):(Opd.c v).ev e=v:=rfl
@[simp ↓] theorem ob_n {α β:Type} (f:α->Option β):ob none f=none:=rfl
@[simp ↓] theorem om_s {α β:Type} (a:α) (f:α->β):om (some a) f=some (f a):=rfl
@[simp ↓] theorem om_n {α β:Type} (f:α->β):om none f=none:=rfl
@[simp] theorem og_t {β:Type} (x:Option β):og true x=x:=rfl
@[simp] theorem og_f {β:Type} (x:Option β):og false x=none:=rfl
@[simp] theorem ov_s (v:AV):ov (some v)=some (v,[]):=rfl
@[simp] theorem ovW_s (v:AV):ovW (some v)=some (v,[]):=rfl
@[simp] theorem plainW_s (x:AV × Upd):plainW (some x)=some (x.1,[]):=rfl
def consO {α:Type}:Option α->Option (List α)->Option (List α)
 | some a,some l=>some (a::l)
 | _,_=>none
@[simp] theorem consO_s {α:Type} (a:α) (l:List α):consO (some a) (some l)=some (a::l):=rfl
@[simp] theorem mapO_nil {α β:Type} (f:α->Option β):mapO f []=some []:=rfl
@[simp] theorem mapO_cons {α β:Type} (f:α->Option β) (a:α) (r:List α):mapO f (a::r)=consO (f a) (mapO f r):=by simp only [mapO];cases f a <;> cases mapO f r <;> rfl
def consE (k:Nat):Option AV->Option Env->Option Env
 | some v,some r=>some ((k,v)::r)
 | _,_=>none
@[simp] theorem consE_s (k:Nat) (v:AV) (r:Env):consE k (some v) (some r)=some ((k,v)::r):=rfl
@[simp] theorem renEnv_nil (π:Nat->Option Nat):renEnv π []=some []:=rfl
@[simp] theorem renEnv_cons (π:Nat->Option Nat) (k:Nat) (v:AV) (r:Env):renEnv π ((k,v)::r)=consE k (ren π v) (renEnv π r):=by simp only [renEnv];cases ren π v <;> cases renEnv π r <;> rfl
def ptrO (i o:Nat):Option Nat->Option AV
 | some b=>some (.ptr b i o)
 | none=>none
def slO (z i l c:Nat) (ex:Bool):Option Nat->Option AV
 | some b=>some (.sl b z i l c ex)
 | none=>none
def mapV:Option Nat->Option AV
 | some b=>some (.map b)
 | none=>none
def fnO (f:Nat):Option (List AV)->Option AV
 | some cs=>some (.fn f cs)
 | none=>none
def aggO:Option (List AV)->Option AV
 | some cs=>some (.agg cs)
 | none=>none
def tupO:Option (List AV)->Option AV
 | some cs=>some (.tup cs)
 | none=>none
@[simp] theorem ptrO_s (i o b:Nat):ptrO i o (some b)=some (.ptr b i o):=rfl
@[simp] theorem slO_s (z i l c:Nat) (ex:Bool) (b:Nat):slO z i l c ex (some b)=some (.sl b z i l c ex):=rfl
@[simp] theorem mapV_s (b:Nat):mapV (some b)=some (.map b):=rfl
@[simp] theorem fnO_s (f:Nat) (cs:List AV):fnO f (some cs)=some (.fn f cs):=rfl
@[simp] theorem aggO_s (cs:List AV):aggO (some cs)=some (.agg cs):=rfl
@[simp] theorem tupO_s (cs:List AV):tupO (some cs)=some (.tup cs):=rfl
section
variable (π:Nat->Option Nat)
@[simp] theorem ren_ptr (b i o:Nat):ren π (.ptr b i o)=ptrO i o (π b):=by simp only [ren];cases π b <;> rfl
@[simp] theorem ren_sl (b z i l c:Nat) (ex:Bool):ren π (.sl b z i l c ex)=slO z i l c ex (π b):=by simp only [ren];cases π b <;> rfl
@[simp] theorem ren_map (b:Nat):ren π (.map b)=mapV (π b):=by simp only [ren];cases π b <;> rfl
@[simp] theorem ren_fn (f:Nat) (cs:List AV):ren π (.fn f cs)=fnO f (renL π cs):=by simp only [ren];cases renL π cs <;> rfl
@[simp] theorem ren_agg (cs:List AV):ren π (.agg cs)=aggO (renL π cs):=by simp only [ren];cases renL π cs <;> rfl
@[simp] theorem ren_tup (cs:List AV):ren π (.tup cs)=tupO (renL π cs):=by simp only [ren];cases renL π cs <;> rfl
@[simp] theorem ren_undef:ren π .undef=some .undef:=rfl
@[simp] theorem ren_bool (b:Bool):ren π (.bool b)=some (.bool b):=rfl
@[simp] theorem ren_int (k:IntKind) (n:Int):ren π (.int k n)=some (.int k n):=rfl
@[simp] theorem ren_str (s:List UInt8):ren π (.str s)=some (.str s):=rfl
@[simp] theorem ren_nilp:ren π .nilp=some .nilp:=rfl
@[simp] theorem ren_nils:ren π .nils=some .nils:=rfl
@[simp] theorem ren_nilm:ren π .nilm=some .nilm:=rfl
@[simp] theorem ren_nilf:ren π .nilf=some .nilf:=rfl
@[simp] theorem ren_ro (z:Nat) (es:List (List AV)) (ex:Bool):ren π (.ro z es ex)=some (.ro z es ex):=rfl
@[simp] theorem ren_rop (cs:List AV):ren π (.rop cs)=some (.rop cs):=rfl
@[simp] theorem renL_nil:renL π []=some []:=rfl
@[simp] theorem renL_cons (v:AV) (r:List AV):renL π (v::r)=consO (ren π v) (renL π r):=by simp only [renL];cases ren π v <;> cases renL π r <;> rfl
def cellsO (z:Nat) (mu dt:Bool):Option (List (List AV))->Option WObj
 | some es=>some (.cells z es mu dt)
 | none=>none
@[simp] theorem cellsO_s (z:Nat) (mu dt:Bool) (es:List (List AV)):cellsO z mu dt (some es)=some (.cells z es mu dt):=rfl
@[simp] theorem renObj_dt (z:Nat) (es:List (List AV)) (mu:Bool):renObj π (.cells z es mu true)=some (.cells z es mu true):=rfl
@[simp] theorem renObj_nd (z:Nat) (es:List (List AV)) (mu:Bool):renObj π (.cells z es mu false)=cellsO z mu false (mapO (renL π) es):=by simp only [renObj];cases mapO (renL π) es <;> rfl
@[simp] theorem renObj_map (es:List (AV × AV)):renObj π (.map es)=some (.map es):=rfl
@[simp] theorem renObj_iter (s:List UInt8) (p:Nat):renObj π (.iter s p)=some (.iter s p):=rfl
def consH (k:Nat):Option WObj->Option WHeap->Option WHeap
 | some v,some r=>some ((k,v)::r)
 | _,_=>none
@[simp] theorem consH_s (k:Nat) (v:WObj) (r:WHeap):consH k (some v) (some r)=some ((k,v)::r):=rfl
@[simp] theorem renOld_nil (base:Nat):renOld base π []=some []:=rfl
@[simp] theorem renOld_cons (base b:Nat) (o:WObj) (r:WHeap):renOld base π ((b,o)::r)=if b < base then consH b (renObj π o) (renOld base π r) else renOld base π r:=by
 simp only [renOld];split
 ·cases renObj π o <;> cases renOld base π r <;> rfl
 ·rfl
def newH (n:Nat) (π:Nat->Option Nat) (r:Option WHeap):Option WObj->Option WHeap
 | some o=>consH n (renObj π o) r
 | none=>r
@[simp] theorem newH_s (n:Nat) (r:Option WHeap) (o:WObj):newH n π r (some o)=consH n (renObj π o) r:=rfl
@[simp] theorem newH_n (n:Nat) (r:Option WHeap):newH n π r none=r:=rfl
@[simp] theorem renNew_nil (h:WHeap) (n:Nat):renNew π h n []=some []:=rfl
@[simp] theorem renNew_cons (h:WHeap) (n b:Nat) (r:List Nat):renNew π h n (b::r)=newH n π (renNew π h (n+1) r) (Pav.get h b):=by
 simp only [renNew,newH];cases Pav.get h b with
 | none=>rfl
 | some o=>simp only;cases renObj π o <;> cases renNew π h (n+1) r <;> rfl
end
def num3 (n:Nat):Option Env->Option WHeap->Option WHeap->Option WSt
 | some e,some h1,some h2=>some ⟨e,h1++h2,n⟩
 | _,_,_=>none
@[simp] theorem num3_s (n:Nat) (e:Env) (h1 h2:WHeap):num3 n (some e) (some h1) (some h2)=some ⟨e,h1++h2,n⟩:=rfl
@[simp] theorem renumber_eq (base:Nat) (s:WSt) (L:List Nat):renumber base s L=num3 (base+L.length) (renEnv (newNum base L) s.env) (renOld base (newNum base L) s.heap) (renNew (newNum base L) s.heap base L):=by simp only [renumber];cases renEnv (newNum base L) s.env <;> cases renOld base (newNum base L) s.heap <;> cases renNew (newNum base L) s.heap base L <;> rfl
def appK (h:WHeap) (nid zl bytes:Nat) (s:AV):Option (List (List AV) × Bool)->Option (AV × WUpd)
 | some (xs,d)=>wEvApp h nid zl bytes s xs d
 | none=>none
@[simp] theorem appK_s (h:WHeap) (nid zl bytes:Nat) (s:AV) (xs:List (List AV)) (d:Bool):appK h nid zl bytes s (some (xs,d))=wEvApp h nid zl bytes s xs d:=rfl
@[simp] theorem wApp_f (z:List AV) (bytes:Nat) (s x:Opd) (e:Env) (h:WHeap) (n:Nat) (hb:bytes < 1125899906842624):wApp z bytes false s x e h n=appK h n z.length bytes (s.ev e) (wElems h z.length (x.ev e)):=by simp only [wApp,Bool.false_eq_true,if_false,if_pos hb];cases wElems h z.length (x.ev e) <;> rfl
def zerosK (h:WHeap) (nid:Nat) (z:List AV) (bytes:Nat) (s:AV):AV->Option (AV × WUpd)
 | .int _ n=>ob (nat? n) λn=>if n * (bytes+1)<=maxBytes then wEvApp h nid z.length bytes s (List.replicate n z) (z.all isC) else none
 | _=>none
@[simp] theorem wApp_t (z:List AV) (bytes:Nat) (s x:Opd) (e:Env) (h:WHeap) (n:Nat):wApp z bytes true s x e h n=zerosK h n z bytes (s.ev e) (x.ev e):=by simp only [wApp,if_true];cases x.ev e <;> rfl
def cpyK (h:WHeap) (z:Nat) (d:AV):Option (List (List AV) × Bool)->Option (AV × WUpd)
 | some (xs,b)=>wCopyIn h z xs b d
 | none=>none
@[simp] theorem cpyK_s (h:WHeap) (z:Nat) (d:AV) (xs:List (List AV)) (b:Bool):cpyK h z d (some (xs,b))=wCopyIn h z xs b d:=rfl
@[simp] theorem wCpy_eq (z:Nat) (d s:Opd) (e:Env) (h:WHeap) (n:Nat):wCpy z d s e h n=cpyK h z (d.ev e) (wElems h z (s.ev e)):=by simp only [wCpy];cases wElems h z (s.ev e) <;> rfl
attribute [simp] zerosK
@[simp] theorem ob_map {α β γ:Type} (x:Option α) (g:α->β) (f:β->Option γ):ob (Option.map g x) f=ob x λa=>f (g a):=by cases x <;> rfl
section
variable (h:WHeap) (nid zl bytes:Nat) (xs:List (List AV)) (d:Bool)
@[simp] theorem wEvApp_nils:wEvApp h nid zl bytes .nils xs d=if xs.isEmpty=true then some (.nils,[]) else wNewRow nid zl xs.length bytes xs d:=by cases xs <;> rfl
@[simp] theorem wEvApp_ro (z:Nat) (es:List (List AV)) (ex:Bool):wEvApp h nid zl bytes (.ro z es ex) xs d =
 if z=zl then (if xs.isEmpty=true then some (.ro z es ex,[]) else if ex=true then wNewRow nid zl (es.length+xs.length) bytes (es++xs) d else none) else none:=by cases xs <;> rfl
@[simp] theorem wEvApp_sl (b z i len cap:Nat) (ex:Bool):wEvApp h nid zl bytes (.sl b z i len cap ex) xs d =
 if z=zl then (if xs.isEmpty=true then some (.sl b z i len cap ex,[]) else wAppSl (Pav.get h b) nid zl bytes b i len cap ex xs d (len+xs.length)) else none:=by cases xs <;> rfl
end
def frzS (h:WHeap) (n z i len cap:Nat) (ex:Bool):Option WObj->Option AV
 | some (.cells _ es _ true)=>og (decide (((es.drop i).take len).length=len)) (some (.ro z ((es.drop i).take len) (ex&&decide (cap=len))))
 | some (.cells _ es _ false)=>ob (mapO (mapO (frzW h n)) ((es.drop i).take len)) λes'=>og (decide (es'.length=len)&&es'.all λe=>e.all isC) (some (.ro z es' (ex&&decide (cap=len))))
 | _=>none
def frzP (h:WHeap) (n i o:Nat):Option WObj->Option AV
 | some (.cells _ es _ true)=>ob es[i]? λcs=>some (.rop (cs.drop o))
 | some (.cells _ es _ false)=>ob es[i]? λcs=>ob (mapO (frzW h n) (cs.drop o)) λcs'=>some (.rop cs')
 | _=>none
def reachP (h:WHeap) (n i o:Nat):Option WObj->List Nat
 | some (.cells _ es _ false)=>((es[i]?.getD []).drop o).flatMap (reachW h n)
 | _=>[]
def reachS (h:WHeap) (n i len:Nat):Option WObj->List Nat
 | some (.cells _ es _ false)=>((es.drop i).take len).flatMap λe=>e.flatMap (reachW h n)
 | _=>[]
section
variable (h:WHeap) (n:Nat)
@[simp] theorem frzW_bool (b:Bool):frzW h (n+1) (.bool b)=some (.bool b):=rfl
@[simp] theorem frzW_int (k:IntKind) (x:Int):frzW h (n+1) (.int k x)=some (.int k x):=rfl
@[simp] theorem frzW_str (s:List UInt8):frzW h (n+1) (.str s)=some (.str s):=rfl
@[simp] theorem frzW_nilp:frzW h (n+1) .nilp=some .nilp:=rfl
@[simp] theorem frzW_nils:frzW h (n+1) .nils=some .nils:=rfl
@[simp] theorem frzW_nilm:frzW h (n+1) .nilm=some .nilm:=rfl
@[simp] theorem frzW_nilf:frzW h (n+1) .nilf=some .nilf:=rfl
@[simp] theorem frzW_ro (z:Nat) (es:List (List AV)) (ex:Bool):frzW h (n+1) (.ro z es ex)=some (.ro z es ex):=rfl
@[simp] theorem frzW_rop (cs:List AV):frzW h (n+1) (.rop cs)=some (.rop cs):=rfl
@[simp] theorem frzW_fn (f:Nat) (cs:List AV):frzW h (n+1) (.fn f cs)=fnO f (mapO (frzW h n) cs):=by simp only [frzW];cases mapO (frzW h n) cs <;> rfl
@[simp] theorem frzW_agg (cs:List AV):frzW h (n+1) (.agg cs)=aggO (mapO (frzW h n) cs):=by simp only [frzW];cases mapO (frzW h n) cs <;> rfl
@[simp] theorem frzW_tup (cs:List AV):frzW h (n+1) (.tup cs)=tupO (mapO (frzW h n) cs):=by simp only [frzW];cases mapO (frzW h n) cs <;> rfl
@[simp] theorem frzW_sl (b z i len cap:Nat) (ex:Bool):frzW h (n+2) (.sl b z i len cap ex)=frzS h (n+1) z i len cap ex (Pav.get h b):=by
 simp only [frzW,frzS];split
 ·rename_i hg;rw [hg];rename_i dt;cases dt <;> rfl
 ·rename_i hg;split
  ·rename_i h1;exact absurd h1 (hg _ _ _ _)
  ·rename_i h1;exact absurd h1 (hg _ _ _ _)
  ·rfl
@[simp] theorem frzW_ptr (b i o:Nat):frzW h (n+2) (.ptr b i o)=frzP h (n+1) i o (Pav.get h b):=by
 simp only [frzW,frzP];split
 ·rename_i hg;rw [hg];rename_i es _ dt;cases dt
  ·simp only [Bool.false_eq_true,if_false];cases es[i]? with
   | none=>rfl
   | some cs=>simp only [ob];cases mapO (frzW h (n+1)) (cs.drop o) <;> rfl
  ·rfl
 ·rename_i hg;split
  ·rename_i h1;exact absurd h1 (hg _ _ _ _)
  ·rename_i h1;exact absurd h1 (hg _ _ _ _)
  ·rfl
@[simp] theorem reachW_ptr (b i o:Nat):reachW h (n+1) (.ptr b i o)=b::reachP h n i o (Pav.get h b):=by
 simp only [reachW,reachP];congr 1;split
 ·rename_i hg;rw [hg];rename_i dt;cases dt <;> rfl
 ·rename_i hg;split
  ·rename_i h1;exact absurd h1 (hg _ _ _ _)
  ·rfl
@[simp] theorem reachW_bool (b:Bool):reachW h (n+1) (.bool b)=[]:=rfl
@[simp] theorem reachW_int (k:IntKind) (x:Int):reachW h (n+1) (.int k x)=[]:=rfl
@[simp] theorem reachW_str (s:List UInt8):reachW h (n+1) (.str s)=[]:=rfl
@[simp] theorem reachW_nilp:reachW h (n+1) .nilp=[]:=rfl
@[simp] theorem reachW_nils:reachW h (n+1) .nils=[]:=rfl
@[simp] theorem reachW_nilm:reachW h (n+1) .nilm=[]:=rfl
@[simp] theorem reachW_nilf:reachW h (n+1) .nilf=[]:=rfl
@[simp] theorem reachW_ro (z:Nat) (es:List (List AV)) (ex:Bool):reachW h (n+1) (.ro z es ex)=[]:=rfl
@[simp] theorem reachW_rop (cs:List AV):reachW h (n+1) (.rop cs)=[]:=rfl
@[simp] theorem reachW_fn (f:Nat) (cs:List AV):reachW h (n+1) (.fn f cs)=cs.flatMap (reachW h n):=rfl
@[simp] theorem reachW_agg (cs:List AV):reachW h (n+1) (.agg cs)=cs.flatMap (reachW h n):=rfl
@[simp] theorem reachW_tup (cs:List AV):reachW h (n+1) (.tup cs)=cs.flatMap (reachW h n):=rfl
@[simp] theorem reachW_sl (b z i len cap:Nat) (ex:Bool):reachW h (n+1) (.sl b z i len cap ex)=b::reachS h n i len (Pav.get h b):=by
 simp only [reachW,reachS];congr 1;split
 ·rename_i hg;rw [hg];rename_i dt;cases dt <;> rfl
 ·rename_i hg;split
  ·rename_i h1;exact absurd h1 (hg _ _ _ _)
  ·rfl
@[simp] theorem hasRefW_bool (b:Bool):hasRefW (n+1) (.bool b)=false:=rfl
@[simp] theorem hasRefW_int (k:IntKind) (x:Int):hasRefW (n+1) (.int k x)=false:=rfl
@[simp] theorem hasRefW_str (s:List UInt8):hasRefW (n+1) (.str s)=false:=rfl
@[simp] theorem hasRefW_nilp:hasRefW (n+1) .nilp=false:=rfl
@[simp] theorem hasRefW_nils:hasRefW (n+1) .nils=false:=rfl
@[simp] theorem hasRefW_nilm:hasRefW (n+1) .nilm=false:=rfl
@[simp] theorem hasRefW_nilf:hasRefW (n+1) .nilf=false:=rfl
@[simp] theorem hasRefW_ro (z:Nat) (es:List (List AV)) (ex:Bool):hasRefW (n+1) (.ro z es ex)=true:=rfl
@[simp] theorem hasRefW_rop (cs:List AV):hasRefW (n+1) (.rop cs)=true:=rfl
@[simp] theorem hasRefW_fn (f:Nat) (cs:List AV):hasRefW (n+1) (.fn f cs)=cs.any (hasRefW n):=rfl
@[simp] theorem hasRefW_agg (cs:List AV):hasRefW (n+1) (.agg cs)=cs.any (hasRefW n):=rfl
@[simp] theorem hasRefW_tup (cs:List AV):hasRefW (n+1) (.tup cs)=cs.any (hasRefW n):=rfl
end
def imax (a b:Int):Int:=if b > a then b else a
def imin (a b:Int):Int:=if b < a then b else a
theorem rX {a b:Int} (h:b<=a):imax a b=a:=by unfold imax;rw [if_neg Qq]
theorem sO {a b:Int} (h:a<=b):imax a b=b:=by unfold imax;split <;> omega
def mxV:AV->AV->Option (AV × Upd)
 | .int k a,.int k' b=>if k=k' then some (.int k (imax a b),[]) else none
 | _,_=>none
def mnV:AV->AV->Option (AV × Upd)
 | .int k a,.int k' b=>if k=k' then some (.int k (imin a b),[]) else none
 | _,_=>none
@[simp] theorem sMx_eq (x y:Opd) (e:Env) (h:Heap) (n:Nat):sMx x y e h n=mxV (x.ev e) (y.ev e):=rfl
@[simp] theorem sMn_eq (x y:Opd) (e:Env) (h:Heap) (n:Nat):sMn x y e h n=mnV (x.ev e) (y.ev e):=rfl
attribute [simp] mxV mnV
@[simp] theorem canonF_nil (base:Nat) (cn:Bool) (lv:List Nat) (s:WSt):canonF base ⟨cn,lv,[]⟩ s=canon base ⟨cn,lv,[]⟩ s:=rfl
@[simp] theorem canonF_cons (base:Nat) (cn:Bool) (lv:List Nat) (p:Nat × Nat) (r:List (Nat × Nat)) (s:WSt):canonF base ⟨cn,lv,p::r⟩ s=ob (frzSlotsW (frzOf (p::r)) s) (canon base ⟨cn,lv,p::r⟩):=rfl
attribute [simp] frzOf frzSlotsW frzSlotW
attribute [simp] List.getElem?_cons_zero frzS reachS frzP reachP
attribute [simp] stepW wAlloc wBox boxedW wBuildS fillS wLoad wLoadOf wLoadAt loadC wStore wStoreOf wStoreAt splice wMkmap wMksl wLook wLookIn found wUpd wUpdIn wRange wNext wNextIter wLen wEvLen wLenMap wElems wNewRow wAppSl
 wCopyTo wCopyIn wClr wClrIn wClrTo sMv sPick sBuild fillC sNilchk sBin evBin binInt binStr isShift shiftInt sEqv eqVals eqFn eqIf AV.isAg eqPtr eqMap eqAgg eqCells eqBool wEqSl keyOk eqCell sUn evUn sCvt sCvs sCvb evCvb sMkfn sSlice evSlice wSliceA wSliceOf wSliceAt sliceArr sliceRo sliceSl sliceNil sliceStr bound oev
 sFld sFldv sIdxs idxsAt sIdxa idxaAt sIdxstr sIdxv sExt sCap evCap AV.cells AV.cell isC isD Pav.get Pav.put setD setE applyW updOneW del readsOf ptrId canon noRen canonG growAll growOne keepL_nil keepL_cons keepN dropLt newNum place close
 envRefs oldRefs refs refsL objRefs markFrozenW marksW hasPtr hasPtrL resultsW tupled fnEndW pureFin argW frzDepth putE maxBytes mapGet mapPut apartR clashR quietR meets hitL
def rep {α:Type} (n:Nat) (a:α):List α:=List.replicate n a
section
variable {α β:Type} (n:Nat) (a:α)
@[simp] theorem rep_length:(rep n a).length=n:=List.length_replicate
@[simp] theorem rep_map (f:α->β):List.map f (rep n a)=rep n (f a):=List.map_replicate
@[simp] theorem rep_all (p:α->Bool):(rep (n+1) a).all p=p a:=by unfold rep;rw [List.all_replicate];simp
@[simp] theorem rep_getElem {i:Nat} (h:i < (rep n a).length):(rep n a)[i]=a:=by unfold rep;exact List.getElem_replicate _
@[simp] theorem rep_take_self:List.take n (rep n a)=rep n a:=List.take_of_length_le Qw
@[simp] theorem rep_cons (n:Nat):(rep (n+1) a).isEmpty=false:=rfl
end
end Go.Pw
end
section
namespace Go.Pw
open Go Go.Pav
inductive ZO where
 | p (d:Option (Option Nat)) (g:Option (Nat × Bool)) (x:COp)
def zt:List Nat->List Opd
 | []=>[]
 | a::r=>.t a::zt r
namespace Z
def y (s:Nat):ZO->ZO
 | .p d _ x=>.p d (some (s,true)) x
def z (s:Nat):ZO->ZO
 | .p d _ x=>.p d (some (s,false)) x
def d (k:Nat):ZO->ZO
 | .p _ g x=>.p (some (some k)) g x
def n:ZO->ZO
 | .p _ g x=>.p (some none) g x
def m (a:Nat):ZO:=.p none none (.mv (.t a))
def i (k:Int):ZO:=.p none none (.mv (.c (.int .i64 k)))
def l (k a:Nat):ZO:=.p none none (.load k false (.t a))
def h (k a:Nat):ZO:=.p none none (.load k true (.t a))
def f (o a:Nat):ZO:=.p none none (.fld o (.t a))
def po (a b:Nat):ZO:=.p none none (.pick (.t a) (.c (.bool true)) (.t b))
def pa (a b:Nat):ZO:=.p none none (.pick (.t a) (.t b) (.c (.bool false)))
def ln (k a:Nat):ZO:=.p none none (.len k (.t a))
def ix (k a b:Nat):ZO:=.p none none (.idxs k (.t a) (.t b))
def ex (k a:Nat):ZO:=.p none none (.ext k (.t a))
def nk (a:Nat):ZO:=.p none none (.nilchk (.t a))
def bx (a:Nat):ZO:=.p none none (.box (.t a))
def nt (a:Nat):ZO:=.p none none (.un .not (.t a))
def st (k a b:Nat):ZO:=.p none none (.store k (.t a) (.t b))
def E (x:COp):ZO:=.p none none x
def tt:ZO:=.p none none (.mv (.c (.bool true)))
def ff:ZO:=.p none none (.mv (.c (.bool false)))
def ca (g:Nat) (q:List Nat):ZO:=.p none none (.call g (zt q))
def eq (a b:Nat):ZO:=.p none none (.bin .eql (.t a) (.t b))
def eqi (a:Nat) (k:Int):ZO:=.p none none (.bin .eql (.t a) (.c (.int .i64 k)))
def ne (a b:Nat):ZO:=.p none none (.bin .neq (.t a) (.t b))
def nei (a:Nat) (k:Int):ZO:=.p none none (.bin .neq (.t a) (.c (.int .i64 k)))
def lt (a b:Nat):ZO:=.p none none (.bin .lss (.t a) (.t b))
def lti (a:Nat) (k:Int):ZO:=.p none none (.bin .lss (.t a) (.c (.int .i64 k)))
def le (a b:Nat):ZO:=.p none none (.bin .leq (.t a) (.t b))
def lei (a:Nat) (k:Int):ZO:=.p none none (.bin .leq (.t a) (.c (.int .i64 k)))
def gt (a b:Nat):ZO:=.p none none (.bin .gtr (.t a) (.t b))
def gti (a:Nat) (k:Int):ZO:=.p none none (.bin .gtr (.t a) (.c (.int .i64 k)))
def ge (a b:Nat):ZO:=.p none none (.bin .geq (.t a) (.t b))
def gei (a:Nat) (k:Int):ZO:=.p none none (.bin .geq (.t a) (.c (.int .i64 k)))
def ad (a b:Nat):ZO:=.p none none (.bin .add (.t a) (.t b))
def adi (a:Nat) (k:Int):ZO:=.p none none (.bin .add (.t a) (.c (.int .i64 k)))
def sb (a b:Nat):ZO:=.p none none (.bin .sub (.t a) (.t b))
def sbi (a:Nat) (k:Int):ZO:=.p none none (.bin .sub (.t a) (.c (.int .i64 k)))
end Z
def zo:Nat->List ZO->List COper
 | _,[]=>[]
 | k,.p none g x::r=>⟨some k,g,x⟩::zo (k+1) r
 | k,.p (some j) g x::r=>⟨j,g,x⟩::zo k r
inductive ZC where
 | O (k:Nat) (l:List ZO)
 | Q (k:Nat) (l:List ZO) (s:List Nat)
 | R (k:Nat) (l:List ZO) (a:Ann)
 | U (k:Nat) (l:List ZO) (u:List (Nat × Nat)) (s:List Nat)
 | V (k:Nat) (l:List ZO) (u:List (Nat × Nat)) (a:Ann)
 | s (a b:ZC)
 | r (a:ZC)
 | c (t:Nat) (a:ZC)
 | cc (t:Nat) (a b:ZC)
 | cd (x:Opd) (a b:ZC)
 | B (j:Nat) (a:ZC)
 | bk (j:Nat) (a:ZC) (x:Ann)
 | lp (x:Ann) (a:ZC)
 | ee (j:Nat)
 | w (x:WCode)
instance:Coe WCode ZC:=⟨.w⟩
def zc:ZC->WCode
 | .O k l=>.ops (zo k l) ⟨false,[],[]⟩
 | .Q k l s=>.ops (zo k l) ⟨true,s,[]⟩
 | .R k l a=>.ops (zo k l) a
 | .U k l u s=>.draw (zo k l) u ⟨true,s,[]⟩
 | .V k l u a=>.draw (zo k l) u a
 | .s a b=>.seq (zc a) (zc b)
 | .r a=>.seq (zc a) .ret
 | .c t a=>.cond (.t t) (zc a) .skip
 | .cc t a b=>.cond (.t t) (zc a) (zc b)
 | .cd x a b=>.cond x (zc a) (zc b)
 | .B j a=>.block j (zc a) ⟨false,[],[]⟩
 | .bk j a x=>.block j (zc a) x
 | .lp x a=>.loop x (zc a)
 | .ee j=>.exit j
 | .w x=>x
abbrev T (a:Nat):Opd:=.t a
abbrev N (n:Int):Opd:=.c (.int .i64 n)
abbrev zd (x:ZC) {y:WCode} (_h:zc x=y:=by dsimp only [zc,zo,zt,T,N,Z.y,Z.z,Z.d,Z.n,Z.m,Z.i,Z.l,Z.h,Z.f,Z.po,Z.pa,Z.ln,Z.ix,Z.ex,Z.nk,Z.bx,Z.nt,Z.st,Z.E,Z.tt,Z.ff,Z.ca,Z.eq,Z.eqi,Z.ne,Z.nei,Z.lt,Z.lti,Z.le,Z.lei,Z.gt,Z.gti,Z.ge,Z.gei,Z.ad,Z.adi,Z.sb,Z.sbi]):WCode:=y
abbrev ZL (L B:WCode) (a:Ann):Prop:=∀ {β:Type} {C:WProg} {b:Nat} {f:Ex × WSt->Option β} {k:List Pw.Frame} {s:WSt},CK C b f k L s=LK C b f (.sq L::k) B (canon b a s)
end Go.Pw
end
