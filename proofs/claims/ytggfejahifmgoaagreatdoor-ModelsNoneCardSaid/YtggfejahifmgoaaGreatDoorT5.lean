/- Part of the theory that the claims of this work use: PwCk, PwSimp, PwZip, PwP, PwLib, D01. No conditions of its own. -/
import Derived.Test.YtggfejahifmgoaaGreatDoorT4
import Derived.Laws.RangeAny
set_option linter.unusedVariables false
set_option linter.unusedSimpArgs false
set_option maxHeartbeats 4000000
set_option maxRecDepth 10000
section
namespace Go.Pw
open Go Go.Pav
inductive Frame where
 | sq (b:WCode)
 | bk (id:Nat) (a:Ann)
 | lp (a:Ann) (b:WCode)
def setE:Env→Nat→AV→Env
 | [],_,_=>[]
 | (k,v)::r,g,x=>if k=g then (k,x)::r else (k,v)::setE r g x
section
variable {β:Type}
noncomputable def RK (C:WProg) (base:Nat):List Frame→Ex × WSt→Option (Ex × WSt)
 | [],r=>some r
 | .sq b::k,r=>ob (evSeqW (CdW C base b) r) (RK C base k)
 | .bk id a::k,r=>ob (evBlockW base id a r) (RK C base k)
 | .lp a b::k,r=>ob (evSeqW (CdW C base (.loop a b)) r) (RK C base k)
noncomputable def CK (C:WProg) (base:Nat) (fin:Ex × WSt→Option β) (k:List Frame) (c:WCode) (s:WSt):Option β:=ob (CdW C base c s) fun r=>ob (RK C base k r) fin
noncomputable def NK (C:WProg) (base:Nat) (fin:Ex × WSt→Option β) (k:List Frame) (ex:Ex) (s:WSt):Option β:=ob (RK C base k (ex,s)) fin
noncomputable def AK (C:WProg) (base:Nat) (fin:Ex × WSt→Option β) (k:List Frame) (s:Option WSt):Option β:=ob s fun s=>NK C base fin k .norm s
noncomputable def LK (C:WProg) (base:Nat) (fin:Ex × WSt→Option β) (k:List Frame) (b:WCode) (s:Option WSt):Option β:=ob s fun s=>CK C base fin k b s
noncomputable def OK (C:WProg) (base:Nat) (fin:Ex × WSt→Option β) (k:List Frame) (a:Ann) (l:List COper) (s:WSt):Option β :=
 ob (evOpsW C (RnW C) l s) fun s=>AK C base fin k (canonF base a s)
noncomputable def SK (C:WProg) (base:Nat) (fin:Ex × WSt→Option β) (k:List Frame) (a:Ann) (l:List COper) (d:Option Nat) (e:Env) (h:WHeap) (n:Nat) (x:Option (AV × WUpd)):Option β :=
 ob x fun x=>OK C base fin k a l ⟨setD e d x.1,applyW h x.2,n⟩
noncomputable def condK (C:WProg) (base:Nat) (fin:Ex × WSt→Option β) (k:List Frame) (a b:WCode) (s:WSt) (v:AV):Option β :=
 match v with
 | .bool t=>if t=true then CK C base fin k a s else CK C base fin k b s
 | _=>none
noncomputable def GK (C:WProg) (base:Nat) (fin:Ex × WSt→Option β) (k:List Frame) (a:Ann) (l:List COper) (d:Option Nat) (op:COp) (g:Nat) (w:Bool) (e:Env) (h:WHeap) (n:Nat) (v:Option AV):Option β :=
 match v with
 | some (.bool b)=>if b=w then OK C base fin k a (⟨d,none,op⟩::l) ⟨setE e g (.bool w),h,n⟩ else OK C base fin k a l ⟨setD (setE e g (.bool (!w))) d (.tup []),h,n+1⟩
 | some (.tup [])=>OK C base fin k a l ⟨setD e d (.tup []),h,n+1⟩
 | _=>none
noncomputable def VK (C:WProg) (base:Nat) (fin:Ex × WSt→Option β) (k:List Frame) (a:Ann) (l:List COper) (d:Option Nat) (e:Env) (h:WHeap) (n:Nat) (args:List AV) (v:Option AV):Option β :=
 ob v fun v=>OK C base fin k a l ⟨setD e d v,applyW h (marksW h args v),n⟩
noncomputable def WK (C:WProg) (base:Nat) (fin:Ex × WSt→Option β) (k:List Frame) (a:Ann) (l:List COper) (d:Option Nat) (e:Env) (r:Option (AV × WHeap × Nat)):Option β :=
 ob r fun r=>OK C base fin k a l ⟨setD e d r.1,r.2.1,r.2.2⟩
noncomputable def PK (C:WProg) (base:Nat) (fin:Ex × WSt→Option β) (k:List Frame) (a:Ann) (l:List COper) (d:Option Nat) (e:Env) (h:WHeap) (n:Nat) (f:Nat) (args:List AV) (az:Option (List AV)):Option β :=
 ob az fun az=>VK C base fin k a l d e h n args (FnW C f az)
noncomputable def BSK (C:WProg) (base:Nat) (fin:Ex × WSt→Option β) (k:List Frame) (a:Ann) (l:List COper) (d:Option Nat) (e:Env) (h:WHeap) (n:Nat) (v:AV) (u:WUpd) (ok:Bool):Option β :=
 if ok=true then OK C base fin k a l ⟨setD e d v,applyW h u,n⟩ else none
noncomputable def FSK (C:WProg) (base:Nat) (fin:Ex × WSt→Option β) (k:List Frame) (a:Ann) (l:List COper) (d:Option Nat) (e:Env) (h:WHeap) (n:Nat) (br:Bool) (args:List AV) (x:Option (AV × WUpd)):Option β :=
 ob x fun x=>if br=true then BSK C base fin k a l d e h n x.1 x.2 (bareXW x) else OK C base fin k a l ⟨setD e d x.1,applyW h (markFrozenW h (args.flatMap (reachW h frzDepth))++x.2),n⟩
def over (n:Nat) (h1 h:WHeap):WHeap:=applyW h (upsW n h1)
noncomputable def HBK (C:WProg) (base:Nat) (fin:Ex × WSt→Option β) (k:List Frame) (a:Ann) (l:List COper) (d:Option Nat) (e:Env) (h:WHeap) (n:Nat) (v:AV) (h1:WHeap) (n1:Nat) (ok:Bool):Option β :=
 if ok=true then OK C base fin k a l ⟨setD e d v,over n (h1.filter fun x=>(reachW h1 frzDepth v).contains x.1) h,n1⟩ else none
noncomputable def HK (C:WProg) (base:Nat) (fin:Ex × WSt→Option β) (k:List Frame) (a:Ann) (l:List COper) (d:Option Nat) (e:Env) (h:WHeap) (n:Nat) (db:Bool) (args:List AV) (r:Option (AV × WHeap × Nat)):Option β :=
 ob r fun r=>if db=true then HBK C base fin k a l d e h n r.1 r.2.1 r.2.2 (keptXW r.2.1 r.1 (reachW r.2.1 frzDepth r.1)) else OK C base fin k a l ⟨setD e d r.1,over n r.2.1 (applyW h (markFrozenW h (args.flatMap (reachW h frzDepth)))),r.2.2⟩
noncomputable def TK (C:WProg) (base:Nat) (fin:Ex × WSt→Option β) (k:List Frame) (a:Ann) (l:List COper) (d:Option Nat) (e:Env) (h:WHeap) (n:Nat) (f:Nat) (args az:List AV) (dp:Bool):Option β :=
 if dp=true then HK C base fin k a l d e h n (isDb f) args (RnW C f az [] n) else FSK C base fin k a l d e h n (isBr f) args (freshCallW (RnW C) f az (n - 1))
noncomputable def FPK (C:WProg) (base:Nat) (fin:Ex × WSt→Option β) (k:List Frame) (a:Ann) (l:List COper) (d:Option Nat) (e:Env) (h:WHeap) (n:Nat) (f:Nat) (args:List AV) (az:Option (List AV)):Option β :=
 ob az fun az=>TK C base fin k a l d e h n f args az (isDp f)
noncomputable def IK (C:WProg) (base:Nat) (fin:Ex × WSt→Option β) (k:List Frame) (a:Ann) (l:List COper) (d:Option Nat) (e:Env) (h:WHeap) (n:Nat) (f:Nat) (args:List AV) (fr:Bool):Option β :=
 if fr=true then FPK C base fin k a l d e h n f args (mapO (frzW h frzDepth) args) else WK C base fin k a l d e (RnW C f args h n)
noncomputable def FK (C:WProg) (base:Nat) (fin:Ex × WSt→Option β) (k:List Frame) (a:Ann) (l:List COper) (d:Option Nat) (e:Env) (h:WHeap) (n:Nat) (f:Nat) (args:List AV) (inl ptr:Bool):Option β :=
 if inl=true then IK C base fin k a l d e h n f args (isFr f) else if ptr=true then WK C base fin k a l d e (RnW C f args h n) else PK C base fin k a l d e h n f args (mapO (frzW h frzDepth) args)
noncomputable def QK (C:WProg) (base:Nat) (fin:Ex × WSt→Option β) (k:List Frame) (a:Ann) (l:List COper) (d:Option Nat) (e:Env) (h:WHeap) (n:Nat) (args:List AV) (g:AV):Option β :=
 match g with
 | .fn f caps=>FK C base fin k a l d e h n f (args++caps) (C.inl f) (!C.pp f&&hasPtrL (args++caps))
 | _=>none
abbrev RW:=Bool × List Nat × List Nat
def rwOf (d:WDid):RW:=(d.bar,d.rd,d.wr)
def quietR (d:RW):Bool:=!d.1&&(d.2.2.isEmpty&&d.2.1.isEmpty)
def clashR (a b:RW):Bool:=!(quietR a||quietR b)&&(if a.1=true then b.1||hitL a.2.1 a.2.2 b.2.1 b.2.2 else if b.1=true then hitL b.2.1 b.2.2 a.2.1 a.2.2 else (meets a.2.2 b.2.2||(meets a.2.2 b.2.1||meets a.2.1 b.2.2)))
def apartR (ds:List RW) (p:Nat × Nat):Bool :=
 match ds[p.1]?,ds[p.2]? with
 | some a,some b=>!clashR a b
 | _,_=>false
noncomputable def EK (C:WProg) (base:Nat) (fin:Ex × WSt→Option β) (k:List Frame) (a:Ann) (s:WSt) (ok:Bool):Option β :=
 if ok=true then AK C base fin k (canonF base a s) else none
noncomputable def DK (C:WProg) (base:Nat) (fin:Ex × WSt→Option β) (k:List Frame) (a:Ann) (un:List (Nat × Nat)) (l:List COper) (nid:Nat) (s:WSt) (ds:List RW):Option β :=
 ob (evDrawW C (RnW C) l nid s []) fun r=>EK C base fin k a r.1 (un.all (apartR (ds++r.2.map rwOf)))
noncomputable def DSK (C:WProg) (base:Nat) (fin:Ex × WSt→Option β) (k:List Frame) (a:Ann) (un:List (Nat × Nat)) (l:List COper) (nid:Nat) (d:Option Nat) (e:Env) (h:WHeap) (n:Nat) (ds:List RW) (rd:List Nat) (x:Option (AV × WUpd)):Option β :=
 ob x fun x=>DK C base fin k a un l nid ⟨setD e d x.1,applyW h x.2,n⟩ (ds++[(false,rd,x.2.map (·.1))])
noncomputable def DGK (C:WProg) (base:Nat) (fin:Ex × WSt→Option β) (k:List Frame) (a:Ann) (un:List (Nat × Nat)) (l:List COper) (nid:Nat) (d:Option Nat) (op:COp) (g:Nat) (w:Bool) (e:Env) (h:WHeap) (n:Nat) (ds:List RW) (v:Option AV):Option β :=
 match v with
 | some (.bool b)=>if b=w then DK C base fin k a un (⟨d,none,op⟩::l) nid ⟨setE e g (.bool w),h,n⟩ ds else DK C base fin k a un l (nid+1) ⟨setD (setE e g (.bool (!w))) d (.tup []),h,n⟩ (ds++[(false,[],[])])
 | some (.tup [])=>DK C base fin k a un l (nid+1) ⟨setD e d (.tup []),h,n⟩ (ds++[(false,[],[])])
 | _=>none
noncomputable def DVK (C:WProg) (base:Nat) (fin:Ex × WSt→Option β) (k:List Frame) (a:Ann) (un:List (Nat × Nat)) (l:List COper) (nid:Nat) (d:Option Nat) (e:Env) (h:WHeap) (n:Nat) (ds:List RW) (args:List AV) (v:Option AV):Option β :=
 ob v fun v=>DK C base fin k a un l nid ⟨setD e d v,applyW h (marksW h args v),n⟩ (ds++[(false,args.flatMap (reachW h frzDepth),(marksW h args v).map (·.1))])
noncomputable def DWK (C:WProg) (base:Nat) (fin:Ex × WSt→Option β) (k:List Frame) (a:Ann) (un:List (Nat × Nat)) (l:List COper) (nid:Nat) (d:Option Nat) (e:Env) (ds:List RW) (r:Option (AV × WHeap × Nat)):Option β :=
 ob r fun r=>DK C base fin k a un l nid ⟨setD e d r.1,r.2.1,r.2.2⟩ (ds++[(true,[],[])])
noncomputable def DPK (C:WProg) (base:Nat) (fin:Ex × WSt→Option β) (k:List Frame) (a:Ann) (un:List (Nat × Nat)) (l:List COper) (nid:Nat) (d:Option Nat) (e:Env) (h:WHeap) (n:Nat) (ds:List RW) (f:Nat) (args:List AV) (az:Option (List AV)):Option β :=
 ob az fun az=>DVK C base fin k a un l nid d e h n ds args (FnW C f az)
noncomputable def DBSK (C:WProg) (base:Nat) (fin:Ex × WSt→Option β) (k:List Frame) (a:Ann) (un:List (Nat × Nat)) (l:List COper) (nid:Nat) (d:Option Nat) (e:Env) (h:WHeap) (n:Nat) (ds:List RW) (args:List AV) (v:AV) (u:WUpd) (ok:Bool):Option β :=
 if ok=true then DK C base fin k a un l nid ⟨setD e d v,applyW h u,n⟩ (ds++[(false,args.flatMap (reachW h frzDepth),u.map (·.1))]) else none
noncomputable def DFSK (C:WProg) (base:Nat) (fin:Ex × WSt→Option β) (k:List Frame) (a:Ann) (un:List (Nat × Nat)) (l:List COper) (nid:Nat) (d:Option Nat) (e:Env) (h:WHeap) (n:Nat) (ds:List RW) (br:Bool) (args:List AV) (x:Option (AV × WUpd)):Option β :=
 ob x fun x=>if br=true then DBSK C base fin k a un l nid d e h n ds args x.1 x.2 (bareXW x) else DK C base fin k a un l nid ⟨setD e d x.1,applyW h (markFrozenW h (args.flatMap (reachW h frzDepth))++x.2),n⟩ (ds++[(false,args.flatMap (reachW h frzDepth),(markFrozenW h (args.flatMap (reachW h frzDepth))++x.2).map (·.1))])
noncomputable def DHBK (C:WProg) (base:Nat) (fin:Ex × WSt→Option β) (k:List Frame) (a:Ann) (un:List (Nat × Nat)) (l:List COper) (nid:Nat) (d:Option Nat) (e:Env) (h:WHeap) (n:Nat) (ds:List RW) (args:List AV) (v:AV) (h1:WHeap) (n1:Nat) (ok:Bool):Option β :=
 if ok=true then DK C base fin k a un l nid ⟨setD e d v,over n (h1.filter fun x=>(reachW h1 frzDepth v).contains x.1) h,n1⟩ (ds++[(true,args.flatMap (reachW h frzDepth),[n])]) else none
noncomputable def DHK (C:WProg) (base:Nat) (fin:Ex × WSt→Option β) (k:List Frame) (a:Ann) (un:List (Nat × Nat)) (l:List COper) (nid:Nat) (d:Option Nat) (e:Env) (h:WHeap) (n:Nat) (ds:List RW) (db:Bool) (args:List AV) (r:Option (AV × WHeap × Nat)):Option β :=
 ob r fun r=>if db=true then DHBK C base fin k a un l nid d e h n ds args r.1 r.2.1 r.2.2 (keptXW r.2.1 r.1 (reachW r.2.1 frzDepth r.1)) else DK C base fin k a un l nid ⟨setD e d r.1,over n r.2.1 (applyW h (markFrozenW h (args.flatMap (reachW h frzDepth)))),r.2.2⟩ (ds++[(true,args.flatMap (reachW h frzDepth),n::(markFrozenW h (args.flatMap (reachW h frzDepth))).map (·.1))])
noncomputable def DTK (C:WProg) (base:Nat) (fin:Ex × WSt→Option β) (k:List Frame) (a:Ann) (un:List (Nat × Nat)) (l:List COper) (nid:Nat) (d:Option Nat) (e:Env) (h:WHeap) (n:Nat) (ds:List RW) (f:Nat) (args az:List AV) (dp:Bool):Option β :=
 if dp=true then DHK C base fin k a un l nid d e h n ds (isDb f) args (RnW C f az [] n) else DFSK C base fin k a un l nid d e h n ds (isBr f) args (freshCallW (RnW C) f az (nid - 1))
noncomputable def DFPK (C:WProg) (base:Nat) (fin:Ex × WSt→Option β) (k:List Frame) (a:Ann) (un:List (Nat × Nat)) (l:List COper) (nid:Nat) (d:Option Nat) (e:Env) (h:WHeap) (n:Nat) (ds:List RW) (f:Nat) (args:List AV) (az:Option (List AV)):Option β :=
 ob az fun az=>DTK C base fin k a un l nid d e h n ds f args az (isDp f)
noncomputable def DIK (C:WProg) (base:Nat) (fin:Ex × WSt→Option β) (k:List Frame) (a:Ann) (un:List (Nat × Nat)) (l:List COper) (nid:Nat) (d:Option Nat) (e:Env) (h:WHeap) (n:Nat) (ds:List RW) (f:Nat) (args:List AV) (fr:Bool):Option β :=
 if fr=true then DFPK C base fin k a un l nid d e h n ds f args (mapO (frzW h frzDepth) args) else DWK C base fin k a un l nid d e ds (RnW C f args h n)
noncomputable def DFK (C:WProg) (base:Nat) (fin:Ex × WSt→Option β) (k:List Frame) (a:Ann) (un:List (Nat × Nat)) (l:List COper) (nid:Nat) (d:Option Nat) (e:Env) (h:WHeap) (n:Nat) (ds:List RW) (f:Nat) (args:List AV) (inl ptr:Bool):Option β :=
 if inl=true then DIK C base fin k a un l nid d e h n ds f args (isFr f) else if ptr=true then DWK C base fin k a un l nid d e ds (RnW C f args h n) else DPK C base fin k a un l nid d e h n ds f args (mapO (frzW h frzDepth) args)
noncomputable def DQK (C:WProg) (base:Nat) (fin:Ex × WSt→Option β) (k:List Frame) (a:Ann) (un:List (Nat × Nat)) (l:List COper) (nid:Nat) (d:Option Nat) (e:Env) (h:WHeap) (n:Nat) (ds:List RW) (args:List AV) (g:AV):Option β :=
 match g with
 | .fn f caps=>DFK C base fin k a un l nid d e h n ds f (args++caps) (C.inl f) (!C.pp f&&hasPtrL (args++caps))
 | _=>none
def pureFin (res:List CRes) (r:Ex × WSt):Option AV:=ob (fnEndW res r) fun r=>frzW r.2.1 frzDepth r.1
end
section
variable {β:Type} {C:WProg} {base:Nat} {fin:Ex × WSt→Option β} {k:List Frame}
theorem ob_assoc {α γ δ:Type} (x:Option α) (f:α→Option γ) (g:γ→Option δ):ob (ob x f) g=ob x fun a=>ob (f a) g:=by cases x <;> rfl
theorem ob_om {α γ δ:Type} (x:Option α) (f:α→γ) (g:γ→Option δ):ob (om x f) g=ob x fun a=>g (f a):=by cases x <;> rfl
theorem ck_seq (a b:WCode) (s:WSt):CK C base fin k (.seq a b) s=CK C base fin (.sq b::k) a s:=by
 unfold CK;rw [cw_seq];simp only [RK,ob_assoc]
theorem ck_skip (s:WSt):CK C base fin k .skip s=NK C base fin k .norm s:=by unfold CK NK;rw [cw_skip];rfl
theorem ck_exit (i:Nat) (s:WSt):CK C base fin k (.exit i) s=NK C base fin k (.exit i) s:=by unfold CK NK;rw [cw_exit];rfl
theorem ck_prim (n:Nat) (s:WSt):CK C base fin k (.prim n) s=ob (primF n (primArgs (primN n) 0 s.env)) fun v=>NK C base fin k .ret ⟨putE s.env 9 v,s.heap,s.next⟩:=by
 unfold CK NK
 rw [cw_prim]
 cases primF n (primArgs (primN n) 0 s.env) <;> rfl
theorem ck_ret (s:WSt):CK C base fin k .ret s=NK C base fin k .ret s:=by unfold CK NK;rw [cw_ret];rfl
theorem ck_cond (c:Opd) (a b:WCode) (s:WSt):CK C base fin k (.cond c a b) s=condK C base fin k a b s (c.ev s.env):=by
 unfold CK condK;rw [cw_cond];unfold evCondW
 cases c.ev s.env <;> try rfl
 rename_i t;cases t <;> rfl
theorem ck_block (id:Nat) (b:WCode) (a:Ann) (s:WSt):CK C base fin k (.block id b a) s=CK C base fin (.bk id a::k) b s:=by
 unfold CK;rw [cw_block];simp only [RK,ob_assoc]
theorem ck_lp {L:WCode} {a:Ann} {b:WCode} {s:WSt} (hL:L=.loop a b):CK C base fin k L s=LK C base fin (.sq L::k) b (canon base a s):=by
 subst hL;unfold CK LK CK;rw [cw_loop];simp only [RK,ob_assoc]
theorem ck_unf {c c':WCode} {s:WSt} (hc:c=c'):CK C base fin k c s=CK C base fin k c' s:=by rw [hc]
theorem ck_ops (l:List COper) (a:Ann) (s:WSt):CK C base fin k (.ops l a) s=OK C base fin k a l s:=by
 unfold CK OK AK NK;rw [cw_ops];simp only [ob_assoc,ob_om]
theorem ck_draw (l:List COper) (un:List (Nat × Nat)) (a:Ann) (e:Env) (h:WHeap) (n:Nat):CK C base fin k (.draw l un a) ⟨e,h,n⟩=DK C base fin k a un l n ⟨e,h,n+l.length⟩ []:=by
 unfold CK DK EK AK NK;rw [cw_draw];simp only [ob_assoc]
 have:∀ r:WSt × List WDid,(ob (drawEndW base un a r) fun r=>ob (RK C base k r) fin)=(if (un.all (apartR ([]++r.2.map rwOf)))=true then ob (canonF base a r.1) fun s=>ob (RK C base k (.norm,s)) fin else none):=by
  rintro ⟨s,ds⟩
  have e1:un.all (apartW ds)=un.all (apartR ([]++ds.map rwOf)):=by
   congr 1
   funext p
   simp only [apartW,apartR,List.nil_append,List.getElem?_map]
   cases ds[p.1]? <;> cases ds[p.2]? <;> rfl
  simp only [drawEndW,e1]
  split
  · simp only [ob_om]
  · rfl
 simp only [this]
theorem nk_nil (ex:Ex) (s:WSt):NK C base fin [] ex s=fin (ex,s):=rfl
theorem nk_sq (b:WCode) (s:WSt):NK C base fin (.sq b::k) .norm s=CK C base fin k b s:=by unfold NK CK;simp only [RK,evSeqW,ob_assoc]
theorem nk_sq_exit (b:WCode) (i:Nat) (s:WSt):NK C base fin (.sq b::k) (.exit i) s=NK C base fin k (.exit i) s:=by unfold NK;simp only [RK,evSeqW,ob]
theorem nk_sq_ret (b:WCode) (s:WSt):NK C base fin (.sq b::k) .ret s=NK C base fin k .ret s:=by unfold NK;simp only [RK,evSeqW,ob]
theorem nk_lp_exit (a:Ann) (b:WCode) (i:Nat) (s:WSt):NK C base fin (.lp a b::k) (.exit i) s=NK C base fin k (.exit i) s:=by unfold NK;simp only [RK,evSeqW,ob]
theorem nk_lp_ret (a:Ann) (b:WCode) (s:WSt):NK C base fin (.lp a b::k) .ret s=NK C base fin k .ret s:=by unfold NK;simp only [RK,evSeqW,ob]
theorem nk_bk (id:Nat) (a:Ann) (s:WSt):NK C base fin (.bk id a::k) .norm s=AK C base fin k (canon base a s):=by unfold NK AK NK;simp only [RK,evBlockW,ob_assoc,ob_om]
theorem nk_bk_exit (id:Nat) (a:Ann) (i:Nat) (s:WSt):NK C base fin (.bk id a::k) (.exit i) s=if i=id then AK C base fin k (canon base a s) else NK C base fin k (.exit i) s:=by
 unfold NK AK NK;simp only [RK,evBlockW]
 split
 · simp only [ob_assoc,ob_om]
 · rfl
theorem nk_bk_ret (id:Nat) (a:Ann) (s:WSt):NK C base fin (.bk id a::k) .ret s=NK C base fin k .ret s:=by unfold NK;simp only [RK,evBlockW,ob]
theorem ak_some (s:WSt):AK C base fin k (some s)=NK C base fin k .norm s:=rfl
theorem lk_some (b:WCode) (s:WSt):LK C base fin k b (some s)=CK C base fin k b s:=rfl
theorem condK_true (a b:WCode) (s:WSt):condK C base fin k a b s (.bool true)=CK C base fin k a s:=rfl
theorem condK_false (a b:WCode) (s:WSt):condK C base fin k a b s (.bool false)=CK C base fin k b s:=rfl
theorem condK_bool (a b:WCode) (s:WSt) (t:Bool):condK C base fin k a b s (.bool t)=if t=true then CK C base fin k a s else CK C base fin k b s:=rfl
variable {a:Ann} {l:List COper} {d:Option Nat} {e:Env} {h:WHeap} {n:Nat}
theorem ok_nil (s:WSt):OK C base fin k a [] s=AK C base fin k (canonF base a s):=rfl
theorem ok_step {op:COp} (hc:callOf e op=some none):OK C base fin k a (⟨d,none,op⟩::l) ⟨e,h,n⟩=SK C base fin k a l d e h (n+1) (stepW op e h n):=by
 unfold OK SK OK
 simp only [evOpsW,evOpW,wants,evActW,hc]
 cases stepW op e h n <;> rfl
theorem sk_some (v:AV) (u:WUpd):SK C base fin k a l d e h n (some (v,u))=OK C base fin k a l ⟨setD e d v,applyW h u,n⟩:=rfl
theorem setE_same:∀ {e:Env} {g:Nat} {v:AV},get e g=some v→setE e g v=e:=by
 intro e
 induction e with
 | nil=>intro g v h;rfl
 | cons x e ih =>
  intro g v hg
  obtain ⟨j,u⟩:=x
  simp only [Pav.get] at hg
  simp only [setE]
  split at hg
  · rename_i hj;cases hg;rw [if_pos hj]
  · rename_i hj;rw [if_neg hj,ih hg]
theorem gk_bool {op:COp} {g:Nat} {w b:Bool}:GK C base fin k a l d op g w e h n (some (.bool b))=if b=w then OK C base fin k a (⟨d,none,op⟩::l) ⟨setE e g (.bool w),h,n⟩ else OK C base fin k a l ⟨setD (setE e g (.bool (!w))) d (.tup []),h,n+1⟩:=rfl
theorem gk_true_true {op:COp} {g:Nat}:GK C base fin k a l d op g true e h n (some (.bool true))=OK C base fin k a (⟨d,none,op⟩::l) ⟨setE e g (.bool true),h,n⟩:=rfl
theorem gk_false_false {op:COp} {g:Nat}:GK C base fin k a l d op g false e h n (some (.bool false))=OK C base fin k a (⟨d,none,op⟩::l) ⟨setE e g (.bool false),h,n⟩:=rfl
theorem gk_true_false {op:COp} {g:Nat}:GK C base fin k a l d op g true e h n (some (.bool false))=OK C base fin k a l ⟨setD (setE e g (.bool false)) d (.tup []),h,n+1⟩:=rfl
theorem gk_false_true {op:COp} {g:Nat}:GK C base fin k a l d op g false e h n (some (.bool true))=OK C base fin k a l ⟨setD (setE e g (.bool true)) d (.tup []),h,n+1⟩:=rfl
theorem gk_tup {op:COp} {g:Nat} {w:Bool}:GK C base fin k a l d op g w e h n (some (.tup []))=OK C base fin k a l ⟨setD e d (.tup []),h,n+1⟩:=rfl
theorem ok_guard {op:COp} {g:Nat} {w:Bool}:OK C base fin k a (⟨d,some (g,w),op⟩::l) ⟨e,h,n⟩=GK C base fin k a l d op g w e h n (get e g):=by
 unfold OK GK
 simp only [evOpsW,evOpW,wants]
 cases hg:get e g with
 | none=>rfl
 | some v =>
  cases v with
  | bool b =>
   simp only
   by_cases hw:b=w
   · subst hw
     rw [setE_same hg,if_pos rfl]
     simp only [OK,evOpsW,evOpW,wants,beq_self_eq_true]
   · have e1:(b == w)=false:=by simpa using hw
     have e2:(!w)=b:=by cases b <;> cases w <;> simp_all
     rw [if_neg hw,e2,setE_same hg]
     simp only [e1,ob,OK]
  | tup vs =>
   cases vs with
   | nil=>rfl
   | cons _ _=>rfl
  | _=>rfl
theorem vk_some {args:List AV} (v:AV):VK C base fin k a l d e h n args (some v)=OK C base fin k a l ⟨setD e d v,applyW h (marksW h args v),n⟩:=rfl
theorem wk_some (r:AV × WHeap × Nat):WK C base fin k a l d e (some r)=OK C base fin k a l ⟨setD e d r.1,r.2.1,r.2.2⟩:=rfl
theorem pk_some {f:Nat} {args:List AV} (az:List AV):PK C base fin k a l d e h n f args (some az)=VK C base fin k a l d e h n args (FnW C f az):=rfl
theorem fk_pure {f:Nat} {args:List AV}:FK C base fin k a l d e h n f args false false=PK C base fin k a l d e h n f args (mapO (frzW h frzDepth) args):=rfl
theorem fk_inl {f:Nat} {args:List AV} {p:Bool}:FK C base fin k a l d e h n f args true p=IK C base fin k a l d e h n f args (isFr f):=rfl
theorem ik_false {f:Nat} {args:List AV}:IK C base fin k a l d e h n f args false=WK C base fin k a l d e (RnW C f args h n):=rfl
theorem ik_true {f:Nat} {args:List AV}:IK C base fin k a l d e h n f args true=FPK C base fin k a l d e h n f args (mapO (frzW h frzDepth) args):=rfl
theorem fpk_some {f:Nat} {args:List AV} (az:List AV):FPK C base fin k a l d e h (n+1) f args (some az)=TK C base fin k a l d e h (n+1) f args az (isDp f):=rfl
theorem tk_false {f:Nat} {args az:List AV}:TK C base fin k a l d e h (n+1) f args az false=FSK C base fin k a l d e h (n+1) (isBr f) args (freshCallW (RnW C) f az n):=rfl
theorem tk_true {f:Nat} {args az:List AV}:TK C base fin k a l d e h n f args az true=HK C base fin k a l d e h n (isDb f) args (RnW C f az [] n):=rfl
theorem hbk_true (v:AV) (h1:WHeap) (n1:Nat):HBK C base fin k a l d e h n v h1 n1 true=OK C base fin k a l ⟨setD e d v,over n (h1.filter fun x=>(reachW h1 frzDepth v).contains x.1) h,n1⟩:=rfl
theorem hk_bare {args:List AV} (r:AV × WHeap × Nat):HK C base fin k a l d e h n true args (some r)=HBK C base fin k a l d e h n r.1 r.2.1 r.2.2 (keptXW r.2.1 r.1 (reachW r.2.1 frzDepth r.1)):=rfl
theorem hk_some {args:List AV} (r:AV × WHeap × Nat):HK C base fin k a l d e h n false args (some r)=OK C base fin k a l ⟨setD e d r.1,over n r.2.1 (applyW h (markFrozenW h (args.flatMap (reachW h frzDepth)))),r.2.2⟩:=rfl
theorem bsk_true (v:AV) (u:WUpd):BSK C base fin k a l d e h n v u true=OK C base fin k a l ⟨setD e d v,applyW h u,n⟩:=rfl
theorem fsk_bare {args:List AV} (v:AV) (u:WUpd):FSK C base fin k a l d e h n true args (some (v,u))=BSK C base fin k a l d e h n v u (bareXW (v,u)):=rfl
theorem fsk_some {args:List AV} (v:AV) (u:WUpd):FSK C base fin k a l d e h n false args (some (v,u))=OK C base fin k a l ⟨setD e d v,applyW h (markFrozenW h (args.flatMap (reachW h frzDepth))++u),n⟩:=rfl
theorem fk_ptr {f:Nat} {args:List AV}:FK C base fin k a l d e h n f args false true=WK C base fin k a l d e (RnW C f args h n):=rfl
theorem qk_fn {f:Nat} {args caps:List AV}:QK C base fin k a l d e h n args (.fn f caps)=FK C base fin k a l d e h n f (args++caps) (C.inl f) (!C.pp f&&hasPtrL (args++caps)):=rfl
theorem fk_eq {f:Nat} {args:List AV}:(ob (om (evCallW C (RnW C) f args h (n - 1) n) (doneCallW h n args)) fun r=>OK C base fin k a l ⟨setD e d r.v,r.h,r.n⟩)=FK C base fin k a l d e h n f args (C.inl f) (!C.pp f&&hasPtrL args):=by
 unfold FK evCallW IK FPK TK HK FSK WK PK VK FnW
 split
 · split
   · cases mapO (frzW h frzDepth) args with
     | none=>rfl
     | some az =>
      simp only [ob]
      by_cases hdp:isDp f=true
      · simp only [if_pos hdp]
        cases RnW C f az [] n with
        | none=>rfl
        | some r =>
         simp only [deepKeepW,deepUW]
         by_cases hdb:isDb f=true
         · simp only [if_pos hdb]
           unfold HBK
           by_cases hk:keptXW r.2.1 r.1 (reachW r.2.1 frzDepth r.1)=true
           · simp only [if_pos hk];rfl
           · simp only [if_neg hk];rfl
         · simp only [if_neg hdb];rfl
      simp only [if_neg hdp]
      cases freshCallW (RnW C) f az (n - 1) with
      | none=>rfl
      | some x =>
       dsimp only [ob]
       unfold freshEndW freshUW BSK
       cases isBr f
       · rfl
       · cases bareXW x <;> rfl
   · cases RnW C f args h n <;> rfl
 · split
   · cases RnW C f args h n <;> rfl
   · cases mapO (frzW h frzDepth) args with
     | none=>rfl
     | some az =>
      simp only [ob]
      cases pureCallW (RnW C) f az <;> rfl
theorem ok_call {f:Nat} {xs:List Opd}:OK C base fin k a (⟨d,none,.call f xs⟩::l) ⟨e,h,n⟩=FK C base fin k a l d e h (n+1) f (xs.map fun x=>x.ev e) (C.inl f) (!C.pp f&&hasPtrL (xs.map fun x=>x.ev e)):=by
 rw [← fk_eq]
 unfold OK
 simp only [evOpsW,evOpW,wants,evActW,callOf,ob_assoc,Nat.add_sub_cancel]
theorem ok_callv {g:Opd} {xs:List Opd}:OK C base fin k a (⟨d,none,.callv g xs⟩::l) ⟨e,h,n⟩=QK C base fin k a l d e h (n+1) (xs.map fun x=>x.ev e) (g.ev e):=by
 unfold QK
 cases hg:g.ev e with
 | fn f caps =>
  simp only
  rw [← fk_eq]
  unfold OK
  simp only [evOpsW,evOpW,wants,evActW,callOf,hg,ob_assoc,Nat.add_sub_cancel]
 | _ =>
  unfold OK
  simp only [evOpsW,evOpW,wants,evActW,callOf,hg]
  rfl
variable {un:List (Nat × Nat)} {nid:Nat} {ds:List RW}
theorem evDrawW_acc {r:WRun}:∀ (l:List COper) (nid:Nat) (s:WSt) (ds:List WDid),evDrawW C r l nid s ds=om (evDrawW C r l nid s []) fun x=>(x.1,ds++x.2):=by
 intro l
 induction l with
 | nil=>intro nid s ds;simp [evDrawW,om]
 | cons o l ih =>
  intro nid s ds
  simp only [evDrawW]
  cases evOpW C r o nid s.env s.heap s.next with
  | none=>rfl
  | some d =>
   simp only [ob]
   rw [ih,ih _ _ ([]++[d])]
   cases evDrawW C r l (nid+1) _ [] <;> simp [om]
theorem dk_nil (s:WSt):DK C base fin k a un [] nid s ds=EK C base fin k a s (un.all (apartR ds)):=by
 unfold DK;simp only [evDrawW,ob,List.map_nil,List.append_nil]
theorem ek_true (s:WSt):EK C base fin k a s true=AK C base fin k (canonF base a s):=rfl
theorem dk_cons {o:COper} {s:WSt}:DK C base fin k a un (o::l) nid s ds=ob (evOpW C (RnW C) o nid s.env s.heap s.next) fun x=>DK C base fin k a un l (nid+1) ⟨setD s.env o.dst x.v,x.h,x.n⟩ (ds++[rwOf x]):=by
 unfold DK
 simp only [evDrawW,ob_assoc]
 congr 1
 funext x
 rw [evDrawW_acc]
 simp only [ob_om,List.nil_append,List.map_append,List.map_cons,List.map_nil,List.append_assoc]
theorem dk_step {op:COp} (hc:callOf e op=some none):DK C base fin k a un (⟨d,none,op⟩::l) nid ⟨e,h,n⟩ ds=DSK C base fin k a un l (nid+1) d e h n ds (readsOf e op) (stepW op e h nid):=by
 rw [dk_cons]
 unfold DSK
 simp only [evOpW,wants,evActW,hc,ob_om]
 rfl
theorem dsk_some {rd:List Nat} (v:AV) (u:WUpd):DSK C base fin k a un l nid d e h n ds rd (some (v,u))=DK C base fin k a un l nid ⟨setD e d v,applyW h u,n⟩ (ds++[(false,rd,u.map (·.1))]):=rfl
theorem dgk_bool {op:COp} {g:Nat} {w b:Bool}:DGK C base fin k a un l nid d op g w e h n ds (some (.bool b))=if b=w then DK C base fin k a un (⟨d,none,op⟩::l) nid ⟨setE e g (.bool w),h,n⟩ ds else DK C base fin k a un l (nid+1) ⟨setD (setE e g (.bool (!w))) d (.tup []),h,n⟩ (ds++[(false,[],[])]):=rfl
theorem dgk_true_true {op:COp} {g:Nat}:DGK C base fin k a un l nid d op g true e h n ds (some (.bool true))=DK C base fin k a un (⟨d,none,op⟩::l) nid ⟨setE e g (.bool true),h,n⟩ ds:=rfl
theorem dgk_false_false {op:COp} {g:Nat}:DGK C base fin k a un l nid d op g false e h n ds (some (.bool false))=DK C base fin k a un (⟨d,none,op⟩::l) nid ⟨setE e g (.bool false),h,n⟩ ds:=rfl
theorem dgk_true_false {op:COp} {g:Nat}:DGK C base fin k a un l nid d op g true e h n ds (some (.bool false))=DK C base fin k a un l (nid+1) ⟨setD (setE e g (.bool false)) d (.tup []),h,n⟩ (ds++[(false,[],[])]):=rfl
theorem dgk_false_true {op:COp} {g:Nat}:DGK C base fin k a un l nid d op g false e h n ds (some (.bool true))=DK C base fin k a un l (nid+1) ⟨setD (setE e g (.bool true)) d (.tup []),h,n⟩ (ds++[(false,[],[])]):=rfl
theorem dgk_tup {op:COp} {g:Nat} {w:Bool}:DGK C base fin k a un l nid d op g w e h n ds (some (.tup []))=DK C base fin k a un l (nid+1) ⟨setD e d (.tup []),h,n⟩ (ds++[(false,[],[])]):=rfl
theorem dk_guard {op:COp} {g:Nat} {w:Bool}:DK C base fin k a un (⟨d,some (g,w),op⟩::l) nid ⟨e,h,n⟩ ds=DGK C base fin k a un l nid d op g w e h n ds (get e g):=by
 unfold DGK
 cases hg:get e g with
 | none=>rw [dk_cons];simp only [evOpW,wants,hg];rfl
 | some v =>
  cases v with
  | bool b =>
   simp only
   by_cases hw:b=w
   · subst hw
     rw [setE_same hg,if_pos rfl,dk_cons,dk_cons]
     simp only [evOpW,wants,hg,beq_self_eq_true]
   · have e1:(b == w)=false:=by simpa using hw
     have e2:(!w)=b:=by cases b <;> cases w <;> simp_all
     rw [if_neg hw,e2,setE_same hg,dk_cons]
     simp only [evOpW,wants,hg,e1,ob,rwOf]
  | tup vs =>
   cases vs with
   | nil=>rw [dk_cons];simp only [evOpW,wants,hg];rfl
   | cons _ _=>rw [dk_cons];simp only [evOpW,wants,hg];rfl
  | _=>rw [dk_cons];simp only [evOpW,wants,hg];rfl
theorem dvk_some {args:List AV} (v:AV):DVK C base fin k a un l nid d e h n ds args (some v)=DK C base fin k a un l nid ⟨setD e d v,applyW h (marksW h args v),n⟩ (ds++[(false,args.flatMap (reachW h frzDepth),(marksW h args v).map (·.1))]):=rfl
theorem dwk_some (r:AV × WHeap × Nat):DWK C base fin k a un l nid d e ds (some r)=DK C base fin k a un l nid ⟨setD e d r.1,r.2.1,r.2.2⟩ (ds++[(true,[],[])]):=rfl
theorem dpk_some {f:Nat} {args:List AV} (az:List AV):DPK C base fin k a un l nid d e h n ds f args (some az)=DVK C base fin k a un l nid d e h n ds args (FnW C f az):=rfl
theorem dfk_pure {f:Nat} {args:List AV}:DFK C base fin k a un l nid d e h n ds f args false false=DPK C base fin k a un l nid d e h n ds f args (mapO (frzW h frzDepth) args):=rfl
theorem dfk_inl {f:Nat} {args:List AV} {p:Bool}:DFK C base fin k a un l nid d e h n ds f args true p=DIK C base fin k a un l nid d e h n ds f args (isFr f):=rfl
theorem dik_false {f:Nat} {args:List AV}:DIK C base fin k a un l nid d e h n ds f args false=DWK C base fin k a un l nid d e ds (RnW C f args h n):=rfl
theorem dik_true {f:Nat} {args:List AV}:DIK C base fin k a un l nid d e h n ds f args true=DFPK C base fin k a un l nid d e h n ds f args (mapO (frzW h frzDepth) args):=rfl
theorem dfpk_some {f:Nat} {args:List AV} (az:List AV):DFPK C base fin k a un l nid d e h n ds f args (some az)=DTK C base fin k a un l nid d e h n ds f args az (isDp f):=rfl
theorem dtk_false {f:Nat} {args az:List AV}:DTK C base fin k a un l nid d e h n ds f args az false=DFSK C base fin k a un l nid d e h n ds (isBr f) args (freshCallW (RnW C) f az (nid - 1)):=rfl
theorem dtk_true {f:Nat} {args az:List AV}:DTK C base fin k a un l nid d e h n ds f args az true=DHK C base fin k a un l nid d e h n ds (isDb f) args (RnW C f az [] n):=rfl
theorem dhbk_true {args:List AV} (v:AV) (h1:WHeap) (n1:Nat):DHBK C base fin k a un l nid d e h n ds args v h1 n1 true=DK C base fin k a un l nid ⟨setD e d v,over n (h1.filter fun x=>(reachW h1 frzDepth v).contains x.1) h,n1⟩ (ds++[(true,args.flatMap (reachW h frzDepth),[n])]):=rfl
theorem dhk_bare {args:List AV} (r:AV × WHeap × Nat):DHK C base fin k a un l nid d e h n ds true args (some r)=DHBK C base fin k a un l nid d e h n ds args r.1 r.2.1 r.2.2 (keptXW r.2.1 r.1 (reachW r.2.1 frzDepth r.1)):=rfl
theorem dhk_some {args:List AV} (r:AV × WHeap × Nat):DHK C base fin k a un l nid d e h n ds false args (some r)=DK C base fin k a un l nid ⟨setD e d r.1,over n r.2.1 (applyW h (markFrozenW h (args.flatMap (reachW h frzDepth)))),r.2.2⟩ (ds++[(true,args.flatMap (reachW h frzDepth),n::(markFrozenW h (args.flatMap (reachW h frzDepth))).map (·.1))]):=rfl
theorem dbsk_true {args:List AV} (v:AV) (u:WUpd):DBSK C base fin k a un l nid d e h n ds args v u true=DK C base fin k a un l nid ⟨setD e d v,applyW h u,n⟩ (ds++[(false,args.flatMap (reachW h frzDepth),u.map (·.1))]):=rfl
theorem dfsk_bare {args:List AV} (v:AV) (u:WUpd):DFSK C base fin k a un l nid d e h n ds true args (some (v,u))=DBSK C base fin k a un l nid d e h n ds args v u (bareXW (v,u)):=rfl
theorem dfsk_some {args:List AV} (v:AV) (u:WUpd):DFSK C base fin k a un l nid d e h n ds false args (some (v,u))=DK C base fin k a un l nid ⟨setD e d v,applyW h (markFrozenW h (args.flatMap (reachW h frzDepth))++u),n⟩ (ds++[(false,args.flatMap (reachW h frzDepth),(markFrozenW h (args.flatMap (reachW h frzDepth))++u).map (·.1))]):=rfl
theorem dfk_ptr {f:Nat} {args:List AV}:DFK C base fin k a un l nid d e h n ds f args false true=DWK C base fin k a un l nid d e ds (RnW C f args h n):=rfl
theorem dqk_fn {f:Nat} {args caps:List AV}:DQK C base fin k a un l nid d e h n ds args (.fn f caps)=DFK C base fin k a un l nid d e h n ds f (args++caps) (C.inl f) (!C.pp f&&hasPtrL (args++caps)):=rfl
theorem dfk_eq {f:Nat} {args:List AV}:(ob (om (evCallW C (RnW C) f args h (nid - 1) n) (doneCallW h n args)) fun r=>DK C base fin k a un l nid ⟨setD e d r.v,r.h,r.n⟩ (ds++[rwOf r]))=DFK C base fin k a un l nid d e h n ds f args (C.inl f) (!C.pp f&&hasPtrL args):=by
 unfold DFK evCallW DIK DFPK DTK DHK DFSK DWK DPK DVK FnW
 split
 · split
   · cases mapO (frzW h frzDepth) args with
     | none=>rfl
     | some az =>
      simp only [ob]
      by_cases hdp:isDp f=true
      · simp only [if_pos hdp]
        cases RnW C f az [] n with
        | none=>rfl
        | some r =>
         simp only [deepKeepW,deepUW]
         by_cases hdb:isDb f=true
         · simp only [if_pos hdb]
           unfold DHBK
           by_cases hk:keptXW r.2.1 r.1 (reachW r.2.1 frzDepth r.1)=true
           · simp only [if_pos hk];rfl
           · simp only [if_neg hk];rfl
         · simp only [if_neg hdb];rfl
      simp only [if_neg hdp]
      cases freshCallW (RnW C) f az (nid - 1) with
      | none=>rfl
      | some x =>
       dsimp only [ob]
       unfold freshEndW freshUW DBSK
       cases isBr f
       · rfl
       · cases bareXW x <;> rfl
   · cases RnW C f args h n <;> rfl
 · split
   · cases RnW C f args h n <;> rfl
   · cases mapO (frzW h frzDepth) args with
     | none=>rfl
     | some az =>
      simp only [ob]
      cases pureCallW (RnW C) f az <;> rfl
theorem dk_call {f:Nat} {xs:List Opd}:DK C base fin k a un (⟨d,none,.call f xs⟩::l) nid ⟨e,h,n⟩ ds=DFK C base fin k a un l (nid+1) d e h n ds f (xs.map fun x=>x.ev e) (C.inl f) (!C.pp f&&hasPtrL (xs.map fun x=>x.ev e)):=by
 rw [← dfk_eq,dk_cons]
 simp only [evOpW,wants,evActW,callOf,Nat.add_sub_cancel]
theorem dk_callv {g:Opd} {xs:List Opd}:DK C base fin k a un (⟨d,none,.callv g xs⟩::l) nid ⟨e,h,n⟩ ds=DQK C base fin k a un l (nid+1) d e h n ds (xs.map fun x=>x.ev e) (g.ev e):=by
 unfold DQK
 rw [dk_cons]
 cases hg:g.ev e with
 | fn f caps =>
  simp only
  rw [← dfk_eq]
  simp only [evOpW,wants,evActW,callOf,hg,Nat.add_sub_cancel]
 | _ =>
  simp only [evOpW,wants,evActW,callOf,hg]
  rfl
theorem fnW_eq {f:Nat} {fn:WFn} (hf:C.fns.get f=some fn) {args:List AV} (hl:args.length=fn.np):FnW C f args=CK C 0 (pureFin fn.res) [] fn.body ⟨argW 0 args [],[],0⟩:=by
 unfold FnW pureCallW RnW runWithW CK pureFin
 rw [hf]
 simp only [ob,if_pos hl,RK]
 cases CdW C 0 fn.body ⟨argW 0 args [],[],0⟩ with
 | none=>rfl
 | some r=>rfl
end
end Go.Pw
end
section
namespace Go.Pw
open Go Go.Pav
attribute [simp] ck_prim primF primAfter primN primArgs ck_seq ck_skip ck_exit ck_ret ck_cond ck_block ck_ops ck_draw nk_nil nk_sq nk_sq_exit nk_sq_ret nk_lp_exit nk_lp_ret nk_bk nk_bk_exit nk_bk_ret ak_some lk_some
 ok_nil sk_some gk_tup ok_guard vk_some wk_some pk_some fk_pure fk_inl fk_ptr qk_fn ok_call ok_callv dk_nil ek_true dsk_some dgk_tup dk_guard dvk_some dwk_some dpk_some dfk_pure dfk_inl dfk_ptr dqk_fn dk_call dk_callv ik_false ik_true fpk_some fsk_some fsk_bare bsk_true dfsk_bare dbsk_true isBr bareXW bareOW bareV bareL dik_false dik_true dfpk_some dfsk_some isFr isDp tk_false tk_true hk_some hk_bare hbk_true dtk_false dtk_true dhk_some dhk_bare dhbk_true isDb keptXW keptOW keptV keptL
attribute [simp high] condK_true condK_false gk_true_true gk_false_false gk_true_false gk_false_true dgk_true_true dgk_false_false dgk_true_false dgk_false_true
attribute [simp low] condK_bool gk_bool dgk_bool
section
variable {β:Type} {C:WProg} {base:Nat} {fin:Ex × WSt→Option β} {k:List Frame} {a:Ann} {l:List COper} {d:Option Nat} {e:Env} {h:WHeap} {n:Nat} {un:List (Nat × Nat)} {nid:Nat} {ds:List RW}
@[simp] theorem ok_mv {x:Opd}:OK C base fin k a (⟨d,none,.mv x⟩::l) ⟨e,h,n⟩=OK C base fin k a l ⟨setD e d (x.ev e),h,n+1⟩:=by rw [ok_step rfl];rfl
@[simp] theorem ok_pick {c x y:Opd}:OK C base fin k a (⟨d,none,.pick c x y⟩::l) ⟨e,h,n⟩=SK C base fin k a l d e h (n+1) (stepW (.pick c x y) e h n):=ok_step rfl
@[simp] theorem ok_alloc {z:List AV}:OK C base fin k a (⟨d,none,.alloc z⟩::l) ⟨e,h,n⟩=SK C base fin k a l d e h (n+1) (stepW (.alloc z) e h n):=ok_step rfl
@[simp] theorem ok_box {x:Opd}:OK C base fin k a (⟨d,none,.box x⟩::l) ⟨e,h,n⟩=SK C base fin k a l d e h (n+1) (stepW (.box x) e h n):=ok_step rfl
@[simp] theorem ok_build {z:List AV} {ps:List (Nat × Nat × Opd)}:OK C base fin k a (⟨d,none,.build z ps⟩::l) ⟨e,h,n⟩=SK C base fin k a l d e h (n+1) (stepW (.build z ps) e h n):=ok_step rfl
@[simp] theorem ok_buildS {z:List AV} {m:Nat} {ps:List (Nat × Opd)}:OK C base fin k a (⟨d,none,.buildS z m ps⟩::l) ⟨e,h,n⟩=SK C base fin k a l d e h (n+1) (stepW (.buildS z m ps) e h n):=ok_step rfl
@[simp] theorem ok_load {m:Nat} {ag:Bool} {x:Opd}:OK C base fin k a (⟨d,none,.load m ag x⟩::l) ⟨e,h,n⟩=SK C base fin k a l d e h (n+1) (stepW (.load m ag x) e h n):=ok_step rfl
@[simp] theorem ok_store {m:Nat} {x y:Opd}:OK C base fin k a (⟨d,none,.store m x y⟩::l) ⟨e,h,n⟩=SK C base fin k a l d e h (n+1) (stepW (.store m x y) e h n):=ok_step rfl
@[simp] theorem ok_nilchk {x:Opd}:OK C base fin k a (⟨d,none,.nilchk x⟩::l) ⟨e,h,n⟩=SK C base fin k a l d e h (n+1) (stepW (.nilchk x) e h n):=ok_step rfl
@[simp] theorem ok_bin {op:BinOp} {x y:Opd}:OK C base fin k a (⟨d,none,.bin op x y⟩::l) ⟨e,h,n⟩=SK C base fin k a l d e h (n+1) (stepW (.bin op x y) e h n):=ok_step rfl
@[simp] theorem ok_eqv {kd:Nat} {ks:List Nat} {ne:Bool} {x y:Opd}:OK C base fin k a (⟨d,none,.eqv kd ks ne x y⟩::l) ⟨e,h,n⟩=SK C base fin k a l d e h (n+1) (stepW (.eqv kd ks ne x y) e h n):=ok_step rfl
@[simp] theorem ok_un {op:UnOp} {x:Opd}:OK C base fin k a (⟨d,none,.un op x⟩::l) ⟨e,h,n⟩=SK C base fin k a l d e h (n+1) (stepW (.un op x) e h n):=ok_step rfl
@[simp] theorem ok_cvt {kk:IntKind} {x:Opd}:OK C base fin k a (⟨d,none,.cvt kk x⟩::l) ⟨e,h,n⟩=SK C base fin k a l d e h (n+1) (stepW (.cvt kk x) e h n):=ok_step rfl
@[simp] theorem ok_cvs {x:Opd}:OK C base fin k a (⟨d,none,.cvs x⟩::l) ⟨e,h,n⟩=SK C base fin k a l d e h (n+1) (stepW (.cvs x) e h n):=ok_step rfl
@[simp] theorem ok_cvb {x:Opd}:OK C base fin k a (⟨d,none,.cvb x⟩::l) ⟨e,h,n⟩=SK C base fin k a l d e h (n+1) (stepW (.cvb x) e h n):=ok_step rfl
@[simp] theorem ok_mkfn {f:Nat} {xs:List Opd}:OK C base fin k a (⟨d,none,.mkfn f xs⟩::l) ⟨e,h,n⟩=SK C base fin k a l d e h (n+1) (stepW (.mkfn f xs) e h n):=ok_step rfl
@[simp] theorem ok_mkmap:OK C base fin k a (⟨d,none,.mkmap⟩::l) ⟨e,h,n⟩=SK C base fin k a l d e h (n+1) (stepW .mkmap e h n):=ok_step rfl
@[simp] theorem ok_mksl {z:List AV} {b:Nat} {x y:Opd}:OK C base fin k a (⟨d,none,.mksl z b x y⟩::l) ⟨e,h,n⟩=SK C base fin k a l d e h (n+1) (stepW (.mksl z b x y) e h n):=ok_step rfl
@[simp] theorem ok_slice {z:Nat} {x:Opd} {lo hi mx:Option Opd}:OK C base fin k a (⟨d,none,.slice z x lo hi mx⟩::l) ⟨e,h,n⟩=SK C base fin k a l d e h (n+1) (stepW (.slice z x lo hi mx) e h n):=ok_step rfl
@[simp] theorem ok_sliceA {z:Nat} {x:Opd} {lo hi:Option Opd}:OK C base fin k a (⟨d,none,.sliceA z x lo hi⟩::l) ⟨e,h,n⟩=SK C base fin k a l d e h (n+1) (stepW (.sliceA z x lo hi) e h n):=ok_step rfl
@[simp] theorem ok_fld {o:Nat} {x:Opd}:OK C base fin k a (⟨d,none,.fld o x⟩::l) ⟨e,h,n⟩=SK C base fin k a l d e h (n+1) (stepW (.fld o x) e h n):=ok_step rfl
@[simp] theorem ok_fldv {o m:Nat} {ag:Bool} {x:Opd}:OK C base fin k a (⟨d,none,.fldv o m ag x⟩::l) ⟨e,h,n⟩=SK C base fin k a l d e h (n+1) (stepW (.fldv o m ag x) e h n):=ok_step rfl
@[simp] theorem ok_idxs {z:Nat} {x y:Opd}:OK C base fin k a (⟨d,none,.idxs z x y⟩::l) ⟨e,h,n⟩=SK C base fin k a l d e h (n+1) (stepW (.idxs z x y) e h n):=ok_step rfl
@[simp] theorem ok_idxa {m z:Nat} {x y:Opd}:OK C base fin k a (⟨d,none,.idxa m z x y⟩::l) ⟨e,h,n⟩=SK C base fin k a l d e h (n+1) (stepW (.idxa m z x y) e h n):=ok_step rfl
@[simp] theorem ok_idxstr {x y:Opd}:OK C base fin k a (⟨d,none,.idxstr x y⟩::l) ⟨e,h,n⟩=SK C base fin k a l d e h (n+1) (stepW (.idxstr x y) e h n):=ok_step rfl
@[simp] theorem ok_idxv {m z:Nat} {ag:Bool} {x y:Opd}:OK C base fin k a (⟨d,none,.idxv m z ag x y⟩::l) ⟨e,h,n⟩=SK C base fin k a l d e h (n+1) (stepW (.idxv m z ag x y) e h n):=ok_step rfl
@[simp] theorem ok_look {kd:Nat} {z:AV} {ok:Bool} {x y:Opd}:OK C base fin k a (⟨d,none,.look kd z ok x y⟩::l) ⟨e,h,n⟩=SK C base fin k a l d e h (n+1) (stepW (.look kd z ok x y) e h n):=ok_step rfl
@[simp] theorem ok_upd {kd:Nat} {x y z:Opd}:OK C base fin k a (⟨d,none,.upd kd x y z⟩::l) ⟨e,h,n⟩=SK C base fin k a l d e h (n+1) (stepW (.upd kd x y z) e h n):=ok_step rfl
@[simp] theorem ok_range {x:Opd}:OK C base fin k a (⟨d,none,.range x⟩::l) ⟨e,h,n⟩=SK C base fin k a l d e h (n+1) (stepW (.range x) e h n):=ok_step rfl
@[simp] theorem ok_next {x:Opd}:OK C base fin k a (⟨d,none,.next x⟩::l) ⟨e,h,n⟩=SK C base fin k a l d e h (n+1) (stepW (.next x) e h n):=ok_step rfl
@[simp] theorem ok_ext {i:Nat} {x:Opd}:OK C base fin k a (⟨d,none,.ext i x⟩::l) ⟨e,h,n⟩=SK C base fin k a l d e h (n+1) (stepW (.ext i x) e h n):=ok_step rfl
@[simp] theorem ok_len {kd:Nat} {x:Opd}:OK C base fin k a (⟨d,none,.len kd x⟩::l) ⟨e,h,n⟩=SK C base fin k a l d e h (n+1) (stepW (.len kd x) e h n):=ok_step rfl
@[simp] theorem ok_cap {x:Opd}:OK C base fin k a (⟨d,none,.cap x⟩::l) ⟨e,h,n⟩=SK C base fin k a l d e h (n+1) (stepW (.cap x) e h n):=ok_step rfl
@[simp] theorem ok_app {z:List AV} {b:Nat} {zs:Bool} {x y:Opd}:OK C base fin k a (⟨d,none,.app z b zs x y⟩::l) ⟨e,h,n⟩=SK C base fin k a l d e h (n+1) (stepW (.app z b zs x y) e h n):=ok_step rfl
@[simp] theorem ok_cpy {z:Nat} {x y:Opd}:OK C base fin k a (⟨d,none,.cpy z x y⟩::l) ⟨e,h,n⟩=SK C base fin k a l d e h (n+1) (stepW (.cpy z x y) e h n):=ok_step rfl
@[simp] theorem ok_clr {z:List AV} {x:Opd}:OK C base fin k a (⟨d,none,.clr z x⟩::l) ⟨e,h,n⟩=SK C base fin k a l d e h (n+1) (stepW (.clr z x) e h n):=ok_step rfl
@[simp] theorem ok_mx {x y:Opd}:OK C base fin k a (⟨d,none,.mx x y⟩::l) ⟨e,h,n⟩=SK C base fin k a l d e h (n+1) (stepW (.mx x y) e h n):=ok_step rfl
@[simp] theorem ok_mn {x y:Opd}:OK C base fin k a (⟨d,none,.mn x y⟩::l) ⟨e,h,n⟩=SK C base fin k a l d e h (n+1) (stepW (.mn x y) e h n):=ok_step rfl
@[simp] theorem dk_mv {x:Opd}:DK C base fin k a un (⟨d,none,.mv x⟩::l) nid ⟨e,h,n⟩ ds=DSK C base fin k a un l (nid+1) d e h n ds (readsOf e (.mv x)) (stepW (.mv x) e h nid):=dk_step rfl
@[simp] theorem dk_pick {c x y:Opd}:DK C base fin k a un (⟨d,none,.pick c x y⟩::l) nid ⟨e,h,n⟩ ds=DSK C base fin k a un l (nid+1) d e h n ds (readsOf e (.pick c x y)) (stepW (.pick c x y) e h nid):=dk_step rfl
@[simp] theorem dk_alloc {z:List AV}:DK C base fin k a un (⟨d,none,.alloc z⟩::l) nid ⟨e,h,n⟩ ds=DSK C base fin k a un l (nid+1) d e h n ds (readsOf e (.alloc z)) (stepW (.alloc z) e h nid):=dk_step rfl
@[simp] theorem dk_box {x:Opd}:DK C base fin k a un (⟨d,none,.box x⟩::l) nid ⟨e,h,n⟩ ds=DSK C base fin k a un l (nid+1) d e h n ds (readsOf e (.box x)) (stepW (.box x) e h nid):=dk_step rfl
@[simp] theorem dk_build {z:List AV} {ps:List (Nat × Nat × Opd)}:DK C base fin k a un (⟨d,none,.build z ps⟩::l) nid ⟨e,h,n⟩ ds=DSK C base fin k a un l (nid+1) d e h n ds (readsOf e (.build z ps)) (stepW (.build z ps) e h nid):=dk_step rfl
@[simp] theorem dk_buildS {z:List AV} {m:Nat} {ps:List (Nat × Opd)}:DK C base fin k a un (⟨d,none,.buildS z m ps⟩::l) nid ⟨e,h,n⟩ ds=DSK C base fin k a un l (nid+1) d e h n ds (readsOf e (.buildS z m ps)) (stepW (.buildS z m ps) e h nid):=dk_step rfl
@[simp] theorem dk_load {m:Nat} {ag:Bool} {x:Opd}:DK C base fin k a un (⟨d,none,.load m ag x⟩::l) nid ⟨e,h,n⟩ ds=DSK C base fin k a un l (nid+1) d e h n ds (readsOf e (.load m ag x)) (stepW (.load m ag x) e h nid):=dk_step rfl
@[simp] theorem dk_store {m:Nat} {x y:Opd}:DK C base fin k a un (⟨d,none,.store m x y⟩::l) nid ⟨e,h,n⟩ ds=DSK C base fin k a un l (nid+1) d e h n ds (readsOf e (.store m x y)) (stepW (.store m x y) e h nid):=dk_step rfl
@[simp] theorem dk_nilchk {x:Opd}:DK C base fin k a un (⟨d,none,.nilchk x⟩::l) nid ⟨e,h,n⟩ ds=DSK C base fin k a un l (nid+1) d e h n ds (readsOf e (.nilchk x)) (stepW (.nilchk x) e h nid):=dk_step rfl
@[simp] theorem dk_bin {op:BinOp} {x y:Opd}:DK C base fin k a un (⟨d,none,.bin op x y⟩::l) nid ⟨e,h,n⟩ ds=DSK C base fin k a un l (nid+1) d e h n ds (readsOf e (.bin op x y)) (stepW (.bin op x y) e h nid):=dk_step rfl
@[simp] theorem dk_eqv {kd:Nat} {ks:List Nat} {ne:Bool} {x y:Opd}:DK C base fin k a un (⟨d,none,.eqv kd ks ne x y⟩::l) nid ⟨e,h,n⟩ ds=DSK C base fin k a un l (nid+1) d e h n ds (readsOf e (.eqv kd ks ne x y)) (stepW (.eqv kd ks ne x y) e h nid):=dk_step rfl
@[simp] theorem dk_un {op:UnOp} {x:Opd}:DK C base fin k a un (⟨d,none,.un op x⟩::l) nid ⟨e,h,n⟩ ds=DSK C base fin k a un l (nid+1) d e h n ds (readsOf e (.un op x)) (stepW (.un op x) e h nid):=dk_step rfl
@[simp] theorem dk_cvt {kk:IntKind} {x:Opd}:DK C base fin k a un (⟨d,none,.cvt kk x⟩::l) nid ⟨e,h,n⟩ ds=DSK C base fin k a un l (nid+1) d e h n ds (readsOf e (.cvt kk x)) (stepW (.cvt kk x) e h nid):=dk_step rfl
@[simp] theorem dk_cvs {x:Opd}:DK C base fin k a un (⟨d,none,.cvs x⟩::l) nid ⟨e,h,n⟩ ds=DSK C base fin k a un l (nid+1) d e h n ds (readsOf e (.cvs x)) (stepW (.cvs x) e h nid):=dk_step rfl
@[simp] theorem dk_cvb {x:Opd}:DK C base fin k a un (⟨d,none,.cvb x⟩::l) nid ⟨e,h,n⟩ ds=DSK C base fin k a un l (nid+1) d e h n ds (readsOf e (.cvb x)) (stepW (.cvb x) e h nid):=dk_step rfl
@[simp] theorem dk_mkfn {f:Nat} {xs:List Opd}:DK C base fin k a un (⟨d,none,.mkfn f xs⟩::l) nid ⟨e,h,n⟩ ds=DSK C base fin k a un l (nid+1) d e h n ds (readsOf e (.mkfn f xs)) (stepW (.mkfn f xs) e h nid):=dk_step rfl
@[simp] theorem dk_mkmap:DK C base fin k a un (⟨d,none,.mkmap⟩::l) nid ⟨e,h,n⟩ ds=DSK C base fin k a un l (nid+1) d e h n ds (readsOf e (.mkmap)) (stepW (.mkmap) e h nid):=dk_step rfl
@[simp] theorem dk_mksl {z:List AV} {b:Nat} {x y:Opd}:DK C base fin k a un (⟨d,none,.mksl z b x y⟩::l) nid ⟨e,h,n⟩ ds=DSK C base fin k a un l (nid+1) d e h n ds (readsOf e (.mksl z b x y)) (stepW (.mksl z b x y) e h nid):=dk_step rfl
@[simp] theorem dk_slice {z:Nat} {x:Opd} {lo hi mx:Option Opd}:DK C base fin k a un (⟨d,none,.slice z x lo hi mx⟩::l) nid ⟨e,h,n⟩ ds=DSK C base fin k a un l (nid+1) d e h n ds (readsOf e (.slice z x lo hi mx)) (stepW (.slice z x lo hi mx) e h nid):=dk_step rfl
@[simp] theorem dk_sliceA {z:Nat} {x:Opd} {lo hi:Option Opd}:DK C base fin k a un (⟨d,none,.sliceA z x lo hi⟩::l) nid ⟨e,h,n⟩ ds=DSK C base fin k a un l (nid+1) d e h n ds (readsOf e (.sliceA z x lo hi)) (stepW (.sliceA z x lo hi) e h nid):=dk_step rfl
@[simp] theorem dk_fld {o:Nat} {x:Opd}:DK C base fin k a un (⟨d,none,.fld o x⟩::l) nid ⟨e,h,n⟩ ds=DSK C base fin k a un l (nid+1) d e h n ds (readsOf e (.fld o x)) (stepW (.fld o x) e h nid):=dk_step rfl
@[simp] theorem dk_fldv {o m:Nat} {ag:Bool} {x:Opd}:DK C base fin k a un (⟨d,none,.fldv o m ag x⟩::l) nid ⟨e,h,n⟩ ds=DSK C base fin k a un l (nid+1) d e h n ds (readsOf e (.fldv o m ag x)) (stepW (.fldv o m ag x) e h nid):=dk_step rfl
@[simp] theorem dk_idxs {z:Nat} {x y:Opd}:DK C base fin k a un (⟨d,none,.idxs z x y⟩::l) nid ⟨e,h,n⟩ ds=DSK C base fin k a un l (nid+1) d e h n ds (readsOf e (.idxs z x y)) (stepW (.idxs z x y) e h nid):=dk_step rfl
@[simp] theorem dk_idxa {m z:Nat} {x y:Opd}:DK C base fin k a un (⟨d,none,.idxa m z x y⟩::l) nid ⟨e,h,n⟩ ds=DSK C base fin k a un l (nid+1) d e h n ds (readsOf e (.idxa m z x y)) (stepW (.idxa m z x y) e h nid):=dk_step rfl
@[simp] theorem dk_idxstr {x y:Opd}:DK C base fin k a un (⟨d,none,.idxstr x y⟩::l) nid ⟨e,h,n⟩ ds=DSK C base fin k a un l (nid+1) d e h n ds (readsOf e (.idxstr x y)) (stepW (.idxstr x y) e h nid):=dk_step rfl
@[simp] theorem dk_idxv {m z:Nat} {ag:Bool} {x y:Opd}:DK C base fin k a un (⟨d,none,.idxv m z ag x y⟩::l) nid ⟨e,h,n⟩ ds=DSK C base fin k a un l (nid+1) d e h n ds (readsOf e (.idxv m z ag x y)) (stepW (.idxv m z ag x y) e h nid):=dk_step rfl
@[simp] theorem dk_look {kd:Nat} {z:AV} {ok:Bool} {x y:Opd}:DK C base fin k a un (⟨d,none,.look kd z ok x y⟩::l) nid ⟨e,h,n⟩ ds=DSK C base fin k a un l (nid+1) d e h n ds (readsOf e (.look kd z ok x y)) (stepW (.look kd z ok x y) e h nid):=dk_step rfl
@[simp] theorem dk_upd {kd:Nat} {x y z:Opd}:DK C base fin k a un (⟨d,none,.upd kd x y z⟩::l) nid ⟨e,h,n⟩ ds=DSK C base fin k a un l (nid+1) d e h n ds (readsOf e (.upd kd x y z)) (stepW (.upd kd x y z) e h nid):=dk_step rfl
@[simp] theorem dk_range {x:Opd}:DK C base fin k a un (⟨d,none,.range x⟩::l) nid ⟨e,h,n⟩ ds=DSK C base fin k a un l (nid+1) d e h n ds (readsOf e (.range x)) (stepW (.range x) e h nid):=dk_step rfl
@[simp] theorem dk_next {x:Opd}:DK C base fin k a un (⟨d,none,.next x⟩::l) nid ⟨e,h,n⟩ ds=DSK C base fin k a un l (nid+1) d e h n ds (readsOf e (.next x)) (stepW (.next x) e h nid):=dk_step rfl
@[simp] theorem dk_ext {i:Nat} {x:Opd}:DK C base fin k a un (⟨d,none,.ext i x⟩::l) nid ⟨e,h,n⟩ ds=DSK C base fin k a un l (nid+1) d e h n ds (readsOf e (.ext i x)) (stepW (.ext i x) e h nid):=dk_step rfl
@[simp] theorem dk_len {kd:Nat} {x:Opd}:DK C base fin k a un (⟨d,none,.len kd x⟩::l) nid ⟨e,h,n⟩ ds=DSK C base fin k a un l (nid+1) d e h n ds (readsOf e (.len kd x)) (stepW (.len kd x) e h nid):=dk_step rfl
@[simp] theorem dk_cap {x:Opd}:DK C base fin k a un (⟨d,none,.cap x⟩::l) nid ⟨e,h,n⟩ ds=DSK C base fin k a un l (nid+1) d e h n ds (readsOf e (.cap x)) (stepW (.cap x) e h nid):=dk_step rfl
@[simp] theorem dk_app {z:List AV} {b:Nat} {zs:Bool} {x y:Opd}:DK C base fin k a un (⟨d,none,.app z b zs x y⟩::l) nid ⟨e,h,n⟩ ds=DSK C base fin k a un l (nid+1) d e h n ds (readsOf e (.app z b zs x y)) (stepW (.app z b zs x y) e h nid):=dk_step rfl
@[simp] theorem dk_cpy {z:Nat} {x y:Opd}:DK C base fin k a un (⟨d,none,.cpy z x y⟩::l) nid ⟨e,h,n⟩ ds=DSK C base fin k a un l (nid+1) d e h n ds (readsOf e (.cpy z x y)) (stepW (.cpy z x y) e h nid):=dk_step rfl
@[simp] theorem dk_clr {z:List AV} {x:Opd}:DK C base fin k a un (⟨d,none,.clr z x⟩::l) nid ⟨e,h,n⟩ ds=DSK C base fin k a un l (nid+1) d e h n ds (readsOf e (.clr z x)) (stepW (.clr z x) e h nid):=dk_step rfl
@[simp] theorem dk_mx {x y:Opd}:DK C base fin k a un (⟨d,none,.mx x y⟩::l) nid ⟨e,h,n⟩ ds=DSK C base fin k a un l (nid+1) d e h n ds (readsOf e (.mx x y)) (stepW (.mx x y) e h nid):=dk_step rfl
@[simp] theorem dk_mn {x y:Opd}:DK C base fin k a un (⟨d,none,.mn x y⟩::l) nid ⟨e,h,n⟩ ds=DSK C base fin k a un l (nid+1) d e h n ds (readsOf e (.mn x y)) (stepW (.mn x y) e h nid):=dk_step rfl
end
@[simp] theorem nat?_cast (n:Nat):nat? (n:Int)=some n:=rfl
@[simp] theorem nat?_zero:nat? 0=some 0:=rfl
@[simp] theorem nat?_one:nat? 1=some 1:=rfl
@[simp] theorem nat?_lit (n:Nat):nat? (no_index (OfNat.ofNat n):Int)=some n:=rfl
@[simp] theorem nat?_add (n m:Nat):nat? ((n:Int)+(m:Int))=some (n+m):=rfl
@[simp] theorem nat?_add_lit (n m:Nat):nat? ((n:Int)+(no_index (OfNat.ofNat m):Int))=some (n+m):=rfl
@[simp ↓] theorem ob_s {α β:Type} (a:α) (f:α→Option β):ob (some a) f=f a:=rfl
@[simp] theorem resOf_tmp (e:Env) (h:WHeap) (t:Nat):resOfW e h (.tmp t)=Pav.get e t:=rfl
def cellOf (h:WHeap) (n:Nat) (ag:Bool):Option AV→Option AV
 | some (.ptr b i o)=>wLoadAt n ag o i (Pav.get h b)
 | _=>none
@[simp] theorem resOf_cell (e:Env) (h:WHeap) (t n:Nat) (ag:Bool):resOfW e h (.cell t n ag)=cellOf h n ag (Pav.get e t):=rfl
attribute [simp] cellOf
@[simp] theorem ev_t (s:Nat) (e:Env):(Opd.t s).ev e=(Pav.get e s).getD .undef:=rfl
@[simp] theorem ev_c (v:AV) (e:Env):(Opd.c v).ev e=v:=rfl
@[simp ↓] theorem ob_n {α β:Type} (f:α→Option β):ob none f=none:=rfl
@[simp ↓] theorem om_s {α β:Type} (a:α) (f:α→β):om (some a) f=some (f a):=rfl
@[simp ↓] theorem om_n {α β:Type} (f:α→β):om none f=none:=rfl
@[simp] theorem og_t {β:Type} (x:Option β):og true x=x:=rfl
@[simp] theorem og_f {β:Type} (x:Option β):og false x=none:=rfl
@[simp] theorem ov_s (v:AV):ov (some v)=some (v,[]):=rfl
@[simp] theorem ovW_s (v:AV):ovW (some v)=some (v,[]):=rfl
@[simp] theorem plainW_s (x:AV × Upd):plainW (some x)=some (x.1,[]):=rfl
def consO {α:Type}:Option α→Option (List α)→Option (List α)
 | some a,some l=>some (a::l)
 | _,_=>none
@[simp] theorem consO_s {α:Type} (a:α) (l:List α):consO (some a) (some l)=some (a::l):=rfl
@[simp] theorem mapO_nil {α β:Type} (f:α→Option β):mapO f []=some []:=rfl
@[simp] theorem mapO_cons {α β:Type} (f:α→Option β) (a:α) (r:List α):mapO f (a::r)=consO (f a) (mapO f r):=by
 simp only [mapO];cases f a <;> cases mapO f r <;> rfl
def consE (k:Nat):Option AV→Option Env→Option Env
 | some v,some r=>some ((k,v)::r)
 | _,_=>none
@[simp] theorem consE_s (k:Nat) (v:AV) (r:Env):consE k (some v) (some r)=some ((k,v)::r):=rfl
@[simp] theorem renEnv_nil (π:Nat→Option Nat):renEnv π []=some []:=rfl
@[simp] theorem renEnv_cons (π:Nat→Option Nat) (k:Nat) (v:AV) (r:Env):renEnv π ((k,v)::r)=consE k (ren π v) (renEnv π r):=by
 simp only [renEnv];cases ren π v <;> cases renEnv π r <;> rfl
def ptrO (i o:Nat):Option Nat→Option AV
 | some b=>some (.ptr b i o)
 | none=>none
def slO (z i l c:Nat) (ex:Bool):Option Nat→Option AV
 | some b=>some (.sl b z i l c ex)
 | none=>none
def mapV:Option Nat→Option AV
 | some b=>some (.map b)
 | none=>none
def fnO (f:Nat):Option (List AV)→Option AV
 | some cs=>some (.fn f cs)
 | none=>none
def aggO:Option (List AV)→Option AV
 | some cs=>some (.agg cs)
 | none=>none
def tupO:Option (List AV)→Option AV
 | some cs=>some (.tup cs)
 | none=>none
@[simp] theorem ptrO_s (i o b:Nat):ptrO i o (some b)=some (.ptr b i o):=rfl
@[simp] theorem slO_s (z i l c:Nat) (ex:Bool) (b:Nat):slO z i l c ex (some b)=some (.sl b z i l c ex):=rfl
@[simp] theorem mapV_s (b:Nat):mapV (some b)=some (.map b):=rfl
@[simp] theorem fnO_s (f:Nat) (cs:List AV):fnO f (some cs)=some (.fn f cs):=rfl
@[simp] theorem aggO_s (cs:List AV):aggO (some cs)=some (.agg cs):=rfl
@[simp] theorem tupO_s (cs:List AV):tupO (some cs)=some (.tup cs):=rfl
section
variable (π:Nat→Option Nat)
@[simp] theorem ren_ptr (b i o:Nat):ren π (.ptr b i o)=ptrO i o (π b):=by simp only [ren];cases π b <;> rfl
@[simp] theorem ren_sl (b z i l c:Nat) (ex:Bool):ren π (.sl b z i l c ex)=slO z i l c ex (π b):=by simp only [ren];cases π b <;> rfl
@[simp] theorem ren_map (b:Nat):ren π (.map b)=mapV (π b):=by simp only [ren];cases π b <;> rfl
@[simp] theorem ren_fn (f:Nat) (cs:List AV):ren π (.fn f cs)=fnO f (renL π cs):=by simp only [ren];cases renL π cs <;> rfl
@[simp] theorem ren_agg (cs:List AV):ren π (.agg cs)=aggO (renL π cs):=by simp only [ren];cases renL π cs <;> rfl
@[simp] theorem ren_tup (cs:List AV):ren π (.tup cs)=tupO (renL π cs):=by simp only [ren];cases renL π cs <;> rfl
@[simp] theorem ren_undef:ren π .undef=some .undef:=rfl
@[simp] theorem ren_bool (b:Bool):ren π (.bool b)=some (.bool b):=rfl
@[simp] theorem ren_int (k:IntKind) (n:Int):ren π (.int k n)=some (.int k n):=rfl
@[simp] theorem ren_str (s:List UInt8):ren π (.str s)=some (.str s):=rfl
@[simp] theorem ren_nilp:ren π .nilp=some .nilp:=rfl
@[simp] theorem ren_nils:ren π .nils=some .nils:=rfl
@[simp] theorem ren_nilm:ren π .nilm=some .nilm:=rfl
@[simp] theorem ren_nilf:ren π .nilf=some .nilf:=rfl
@[simp] theorem ren_ro (z:Nat) (es:List (List AV)) (ex:Bool):ren π (.ro z es ex)=some (.ro z es ex):=rfl
@[simp] theorem ren_rop (cs:List AV):ren π (.rop cs)=some (.rop cs):=rfl
@[simp] theorem renL_nil:renL π []=some []:=rfl
@[simp] theorem renL_cons (v:AV) (r:List AV):renL π (v::r)=consO (ren π v) (renL π r):=by simp only [renL];cases ren π v <;> cases renL π r <;> rfl
def cellsO (z:Nat) (mu dt:Bool):Option (List (List AV))→Option WObj
 | some es=>some (.cells z es mu dt)
 | none=>none
@[simp] theorem cellsO_s (z:Nat) (mu dt:Bool) (es:List (List AV)):cellsO z mu dt (some es)=some (.cells z es mu dt):=rfl
@[simp] theorem renObj_dt (z:Nat) (es:List (List AV)) (mu:Bool):renObj π (.cells z es mu true)=some (.cells z es mu true):=rfl
@[simp] theorem renObj_nd (z:Nat) (es:List (List AV)) (mu:Bool):renObj π (.cells z es mu false)=cellsO z mu false (mapO (renL π) es):=by simp only [renObj];cases mapO (renL π) es <;> rfl
@[simp] theorem renObj_map (es:List (AV × AV)):renObj π (.map es)=some (.map es):=rfl
@[simp] theorem renObj_iter (s:List UInt8) (p:Nat):renObj π (.iter s p)=some (.iter s p):=rfl
def consH (k:Nat):Option WObj→Option WHeap→Option WHeap
 | some v,some r=>some ((k,v)::r)
 | _,_=>none
@[simp] theorem consH_s (k:Nat) (v:WObj) (r:WHeap):consH k (some v) (some r)=some ((k,v)::r):=rfl
@[simp] theorem renOld_nil (base:Nat):renOld base π []=some []:=rfl
@[simp] theorem renOld_cons (base b:Nat) (o:WObj) (r:WHeap):renOld base π ((b,o)::r)=if b < base then consH b (renObj π o) (renOld base π r) else renOld base π r:=by
 simp only [renOld]
 split
 · cases renObj π o <;> cases renOld base π r <;> rfl
 · rfl
def newH (n:Nat) (π:Nat→Option Nat) (r:Option WHeap):Option WObj→Option WHeap
 | some o=>consH n (renObj π o) r
 | none=>r
@[simp] theorem newH_s (n:Nat) (r:Option WHeap) (o:WObj):newH n π r (some o)=consH n (renObj π o) r:=rfl
@[simp] theorem newH_n (n:Nat) (r:Option WHeap):newH n π r none=r:=rfl
@[simp] theorem renNew_nil (h:WHeap) (n:Nat):renNew π h n []=some []:=rfl
@[simp] theorem renNew_cons (h:WHeap) (n b:Nat) (r:List Nat):renNew π h n (b::r)=newH n π (renNew π h (n+1) r) (Pav.get h b):=by
 simp only [renNew,newH]
 cases Pav.get h b with
 | none=>rfl
 | some o=>simp only;cases renObj π o <;> cases renNew π h (n+1) r <;> rfl
end
def num3 (n:Nat):Option Env→Option WHeap→Option WHeap→Option WSt
 | some e,some h1,some h2=>some ⟨e,h1++h2,n⟩
 | _,_,_=>none
@[simp] theorem num3_s (n:Nat) (e:Env) (h1 h2:WHeap):num3 n (some e) (some h1) (some h2)=some ⟨e,h1++h2,n⟩:=rfl
@[simp] theorem renumber_eq (base:Nat) (s:WSt) (L:List Nat):renumber base s L=num3 (base+L.length) (renEnv (newNum base L) s.env) (renOld base (newNum base L) s.heap) (renNew (newNum base L) s.heap base L):=by
 simp only [renumber]
 cases renEnv (newNum base L) s.env <;> cases renOld base (newNum base L) s.heap <;> cases renNew (newNum base L) s.heap base L <;> rfl
def appK (h:WHeap) (nid zl bytes:Nat) (s:AV):Option (List (List AV) × Bool)→Option (AV × WUpd)
 | some (xs,d)=>wEvApp h nid zl bytes s xs d
 | none=>none
@[simp] theorem appK_s (h:WHeap) (nid zl bytes:Nat) (s:AV) (xs:List (List AV)) (d:Bool):appK h nid zl bytes s (some (xs,d))=wEvApp h nid zl bytes s xs d:=rfl
@[simp] theorem wApp_f (z:List AV) (bytes:Nat) (s x:Opd) (e:Env) (h:WHeap) (n:Nat) (hb:bytes < 1125899906842624):wApp z bytes false s x e h n=appK h n z.length bytes (s.ev e) (wElems h z.length (x.ev e)):=by
 simp only [wApp,Bool.false_eq_true,if_false,if_pos hb];cases wElems h z.length (x.ev e) <;> rfl
def zerosK (h:WHeap) (nid:Nat) (z:List AV) (bytes:Nat) (s:AV):AV→Option (AV × WUpd)
 | .int _ n=>ob (nat? n) fun n=>if n * (bytes+1)≤maxBytes then wEvApp h nid z.length bytes s (List.replicate n z) (z.all isC) else none
 | _=>none
@[simp] theorem wApp_t (z:List AV) (bytes:Nat) (s x:Opd) (e:Env) (h:WHeap) (n:Nat):wApp z bytes true s x e h n=zerosK h n z bytes (s.ev e) (x.ev e):=by
 simp only [wApp,if_true];cases x.ev e <;> rfl
def cpyK (h:WHeap) (z:Nat) (d:AV):Option (List (List AV) × Bool)→Option (AV × WUpd)
 | some (xs,b)=>wCopyIn h z xs b d
 | none=>none
@[simp] theorem cpyK_s (h:WHeap) (z:Nat) (d:AV) (xs:List (List AV)) (b:Bool):cpyK h z d (some (xs,b))=wCopyIn h z xs b d:=rfl
@[simp] theorem wCpy_eq (z:Nat) (d s:Opd) (e:Env) (h:WHeap) (n:Nat):wCpy z d s e h n=cpyK h z (d.ev e) (wElems h z (s.ev e)):=by
 simp only [wCpy];cases wElems h z (s.ev e) <;> rfl
attribute [simp] zerosK
@[simp] theorem ob_map {α β γ:Type} (x:Option α) (g:α→β) (f:β→Option γ):ob (Option.map g x) f=ob x fun a=>f (g a):=by cases x <;> rfl
section
variable (h:WHeap) (nid zl bytes:Nat) (xs:List (List AV)) (d:Bool)
@[simp] theorem wEvApp_nils:wEvApp h nid zl bytes .nils xs d=if xs.isEmpty=true then some (.nils,[]) else wNewRow nid zl xs.length bytes xs d:=by cases xs <;> rfl
@[simp] theorem wEvApp_ro (z:Nat) (es:List (List AV)) (ex:Bool):wEvApp h nid zl bytes (.ro z es ex) xs d =
 if z=zl then (if xs.isEmpty=true then some (.ro z es ex,[]) else if ex=true then wNewRow nid zl (es.length+xs.length) bytes (es++xs) d else none) else none:=by cases xs <;> rfl
@[simp] theorem wEvApp_sl (b z i len cap:Nat) (ex:Bool):wEvApp h nid zl bytes (.sl b z i len cap ex) xs d =
 if z=zl then (if xs.isEmpty=true then some (.sl b z i len cap ex,[]) else wAppSl (Pav.get h b) nid zl bytes b i len cap ex xs d (len+xs.length)) else none:=by cases xs <;> rfl
end
def frzS (h:WHeap) (n z i len cap:Nat) (ex:Bool):Option WObj→Option AV
 | some (.cells _ es _ true)=>og (decide (((es.drop i).take len).length=len)) (some (.ro z ((es.drop i).take len) (ex&&decide (cap=len))))
 | some (.cells _ es _ false)=>ob (mapO (mapO (frzW h n)) ((es.drop i).take len)) fun es'=>og (decide (es'.length=len)&&es'.all fun e=>e.all isC) (some (.ro z es' (ex&&decide (cap=len))))
 | _=>none
def frzP (h:WHeap) (n i o:Nat):Option WObj→Option AV
 | some (.cells _ es _ true)=>ob es[i]? fun cs=>some (.rop (cs.drop o))
 | some (.cells _ es _ false)=>ob es[i]? fun cs=>ob (mapO (frzW h n) (cs.drop o)) fun cs'=>some (.rop cs')
 | _=>none
def reachP (h:WHeap) (n i o:Nat):Option WObj→List Nat
 | some (.cells _ es _ false)=>((es[i]?.getD []).drop o).flatMap (reachW h n)
 | _=>[]
def reachS (h:WHeap) (n i len:Nat):Option WObj→List Nat
 | some (.cells _ es _ false)=>((es.drop i).take len).flatMap fun e=>e.flatMap (reachW h n)
 | _=>[]
section
variable (h:WHeap) (n:Nat)
@[simp] theorem frzW_bool (b:Bool):frzW h (n+1) (.bool b)=some (.bool b):=rfl
@[simp] theorem frzW_int (k:IntKind) (x:Int):frzW h (n+1) (.int k x)=some (.int k x):=rfl
@[simp] theorem frzW_str (s:List UInt8):frzW h (n+1) (.str s)=some (.str s):=rfl
@[simp] theorem frzW_nilp:frzW h (n+1) .nilp=some .nilp:=rfl
@[simp] theorem frzW_nils:frzW h (n+1) .nils=some .nils:=rfl
@[simp] theorem frzW_nilm:frzW h (n+1) .nilm=some .nilm:=rfl
@[simp] theorem frzW_nilf:frzW h (n+1) .nilf=some .nilf:=rfl
@[simp] theorem frzW_ro (z:Nat) (es:List (List AV)) (ex:Bool):frzW h (n+1) (.ro z es ex)=some (.ro z es ex):=rfl
@[simp] theorem frzW_rop (cs:List AV):frzW h (n+1) (.rop cs)=some (.rop cs):=rfl
@[simp] theorem frzW_fn (f:Nat) (cs:List AV):frzW h (n+1) (.fn f cs)=fnO f (mapO (frzW h n) cs):=by simp only [frzW];cases mapO (frzW h n) cs <;> rfl
@[simp] theorem frzW_agg (cs:List AV):frzW h (n+1) (.agg cs)=aggO (mapO (frzW h n) cs):=by simp only [frzW];cases mapO (frzW h n) cs <;> rfl
@[simp] theorem frzW_tup (cs:List AV):frzW h (n+1) (.tup cs)=tupO (mapO (frzW h n) cs):=by simp only [frzW];cases mapO (frzW h n) cs <;> rfl
@[simp] theorem frzW_sl (b z i len cap:Nat) (ex:Bool):frzW h (n+2) (.sl b z i len cap ex)=frzS h (n+1) z i len cap ex (Pav.get h b):=by
 simp only [frzW,frzS]
 split
 · rename_i hg
   rw [hg]
   rename_i dt
   cases dt <;> rfl
 · rename_i hg
   split
   · rename_i h1;exact absurd h1 (hg _ _ _ _)
   · rename_i h1;exact absurd h1 (hg _ _ _ _)
   · rfl
@[simp] theorem frzW_ptr (b i o:Nat):frzW h (n+2) (.ptr b i o)=frzP h (n+1) i o (Pav.get h b):=by
 simp only [frzW,frzP]
 split
 · rename_i hg
   rw [hg]
   rename_i es _ dt
   cases dt
   · simp only [Bool.false_eq_true,if_false]
     cases es[i]? with
     | none=>rfl
     | some cs=>simp only [ob];cases mapO (frzW h (n+1)) (cs.drop o) <;> rfl
   · rfl
 · rename_i hg
   split
   · rename_i h1;exact absurd h1 (hg _ _ _ _)
   · rename_i h1;exact absurd h1 (hg _ _ _ _)
   · rfl
@[simp] theorem reachW_ptr (b i o:Nat):reachW h (n+1) (.ptr b i o)=b::reachP h n i o (Pav.get h b):=by
 simp only [reachW,reachP]
 congr 1
 split
 · rename_i hg
   rw [hg]
   rename_i dt
   cases dt <;> rfl
 · rename_i hg
   split
   · rename_i h1;exact absurd h1 (hg _ _ _ _)
   · rfl
@[simp] theorem reachW_bool (b:Bool):reachW h (n+1) (.bool b)=[]:=rfl
@[simp] theorem reachW_int (k:IntKind) (x:Int):reachW h (n+1) (.int k x)=[]:=rfl
@[simp] theorem reachW_str (s:List UInt8):reachW h (n+1) (.str s)=[]:=rfl
@[simp] theorem reachW_nilp:reachW h (n+1) .nilp=[]:=rfl
@[simp] theorem reachW_nils:reachW h (n+1) .nils=[]:=rfl
@[simp] theorem reachW_nilm:reachW h (n+1) .nilm=[]:=rfl
@[simp] theorem reachW_nilf:reachW h (n+1) .nilf=[]:=rfl
@[simp] theorem reachW_ro (z:Nat) (es:List (List AV)) (ex:Bool):reachW h (n+1) (.ro z es ex)=[]:=rfl
@[simp] theorem reachW_rop (cs:List AV):reachW h (n+1) (.rop cs)=[]:=rfl
@[simp] theorem reachW_fn (f:Nat) (cs:List AV):reachW h (n+1) (.fn f cs)=cs.flatMap (reachW h n):=rfl
@[simp] theorem reachW_agg (cs:List AV):reachW h (n+1) (.agg cs)=cs.flatMap (reachW h n):=rfl
@[simp] theorem reachW_tup (cs:List AV):reachW h (n+1) (.tup cs)=cs.flatMap (reachW h n):=rfl
@[simp] theorem reachW_sl (b z i len cap:Nat) (ex:Bool):reachW h (n+1) (.sl b z i len cap ex)=b::reachS h n i len (Pav.get h b):=by
 simp only [reachW,reachS]
 congr 1
 split
 · rename_i hg
   rw [hg]
   rename_i dt
   cases dt <;> rfl
 · rename_i hg
   split
   · rename_i h1;exact absurd h1 (hg _ _ _ _)
   · rfl
@[simp] theorem hasRefW_bool (b:Bool):hasRefW (n+1) (.bool b)=false:=rfl
@[simp] theorem hasRefW_int (k:IntKind) (x:Int):hasRefW (n+1) (.int k x)=false:=rfl
@[simp] theorem hasRefW_str (s:List UInt8):hasRefW (n+1) (.str s)=false:=rfl
@[simp] theorem hasRefW_nilp:hasRefW (n+1) .nilp=false:=rfl
@[simp] theorem hasRefW_nils:hasRefW (n+1) .nils=false:=rfl
@[simp] theorem hasRefW_nilm:hasRefW (n+1) .nilm=false:=rfl
@[simp] theorem hasRefW_nilf:hasRefW (n+1) .nilf=false:=rfl
@[simp] theorem hasRefW_ro (z:Nat) (es:List (List AV)) (ex:Bool):hasRefW (n+1) (.ro z es ex)=true:=rfl
@[simp] theorem hasRefW_rop (cs:List AV):hasRefW (n+1) (.rop cs)=true:=rfl
@[simp] theorem hasRefW_fn (f:Nat) (cs:List AV):hasRefW (n+1) (.fn f cs)=cs.any (hasRefW n):=rfl
@[simp] theorem hasRefW_agg (cs:List AV):hasRefW (n+1) (.agg cs)=cs.any (hasRefW n):=rfl
@[simp] theorem hasRefW_tup (cs:List AV):hasRefW (n+1) (.tup cs)=cs.any (hasRefW n):=rfl
end
def imax (a b:Int):Int:=if b > a then b else a
def imin (a b:Int):Int:=if b < a then b else a
def mxV:AV→AV→Option (AV × Upd)
 | .int k a,.int k' b=>if k=k' then some (.int k (imax a b),[]) else none
 | _,_=>none
def mnV:AV→AV→Option (AV × Upd)
 | .int k a,.int k' b=>if k=k' then some (.int k (imin a b),[]) else none
 | _,_=>none
@[simp] theorem sMx_eq (x y:Opd) (e:Env) (h:Heap) (n:Nat):sMx x y e h n=mxV (x.ev e) (y.ev e):=rfl
@[simp] theorem sMn_eq (x y:Opd) (e:Env) (h:Heap) (n:Nat):sMn x y e h n=mnV (x.ev e) (y.ev e):=rfl
attribute [simp] mxV mnV
@[simp] theorem canonF_nil (base:Nat) (cn:Bool) (lv:List Nat) (s:WSt):canonF base ⟨cn,lv,[]⟩ s=canon base ⟨cn,lv,[]⟩ s:=rfl
@[simp] theorem canonF_cons (base:Nat) (cn:Bool) (lv:List Nat) (p:Nat × Nat) (r:List (Nat × Nat)) (s:WSt):canonF base ⟨cn,lv,p::r⟩ s=ob (frzSlotsW (frzOf (p::r)) s) (canon base ⟨cn,lv,p::r⟩):=rfl
attribute [simp] frzOf frzSlotsW frzSlotW
attribute [simp] List.getElem?_cons_zero frzS reachS frzP reachP
attribute [simp] stepW wAlloc wBox boxedW wBuildS fillS wLoad wLoadOf wLoadAt loadC wStore wStoreOf wStoreAt splice wMkmap wMksl wLook wLookIn found wUpd wUpdIn wRange wNext wNextIter wLen wEvLen wLenMap wElems wNewRow wAppSl
 wCopyTo wCopyIn wClr wClrIn wClrTo sMv sPick sBuild fillC sNilchk sBin evBin binInt binStr isShift shiftInt sEqv eqVals eqFn eqIf AV.isAg eqPtr eqMap eqAgg eqCells eqBool wEqSl keyOk eqCell sUn evUn sCvt sCvs sCvb evCvb sMkfn sSlice evSlice wSliceA wSliceOf wSliceAt sliceArr sliceRo sliceSl sliceNil sliceStr bound oev
 sFld sFldv sIdxs idxsAt sIdxa idxaAt sIdxstr sIdxv sExt sCap evCap AV.cells AV.cell isC isD Pav.get Pav.put setD setE applyW updOneW del readsOf ptrId canon noRen canonG growAll growOne keepL_nil keepL_cons keepN dropLt newNum place close
 envRefs oldRefs refs refsL objRefs markFrozenW marksW hasPtr hasPtrL resultsW tupled fnEndW pureFin argW frzDepth putE maxBytes mapGet mapPut apartR clashR quietR meets hitL
def rep {α:Type} (n:Nat) (a:α):List α:=List.replicate n a
section
variable {α β:Type} (n:Nat) (a:α)
@[simp] theorem rep_length:(rep n a).length=n:=List.length_replicate
@[simp] theorem rep_map (f:α→β):List.map f (rep n a)=rep n (f a):=List.map_replicate
@[simp] theorem rep_all (p:α→Bool):(rep (n+1) a).all p=p a:=by
 unfold rep;rw [List.all_replicate];simp
@[simp] theorem rep_getElem {i:Nat} (h:i < (rep n a).length):(rep n a)[i]=a:=by
 unfold rep;exact List.getElem_replicate _
@[simp] theorem rep_take_self:List.take n (rep n a)=rep n a:=List.take_of_length_le (by simp)
@[simp] theorem rep_cons (n:Nat):(rep (n+1) a).isEmpty=false:=rfl
end
end Go.Pw
end
section
namespace Go.Pw
open Go Go.Pav
inductive ZO where
 | p (d:Option (Option Nat)) (g:Option (Nat × Bool)) (x:COp)
def zt:List Nat→List Opd
 | []=>[]
 | a::r=>.t a::zt r
namespace Z
def y (s:Nat):ZO→ZO
 | .p d _ x=>.p d (some (s,true)) x
def z (s:Nat):ZO→ZO
 | .p d _ x=>.p d (some (s,false)) x
def d (k:Nat):ZO→ZO
 | .p _ g x=>.p (some (some k)) g x
def n:ZO→ZO
 | .p _ g x=>.p (some none) g x
def m (a:Nat):ZO:=.p none none (.mv (.t a))
def i (k:Int):ZO:=.p none none (.mv (.c (.int .i64 k)))
def l (k a:Nat):ZO:=.p none none (.load k false (.t a))
def h (k a:Nat):ZO:=.p none none (.load k true (.t a))
def f (o a:Nat):ZO:=.p none none (.fld o (.t a))
def po (a b:Nat):ZO:=.p none none (.pick (.t a) (.c (.bool true)) (.t b))
def pa (a b:Nat):ZO:=.p none none (.pick (.t a) (.t b) (.c (.bool false)))
def ln (k a:Nat):ZO:=.p none none (.len k (.t a))
def ix (k a b:Nat):ZO:=.p none none (.idxs k (.t a) (.t b))
def ex (k a:Nat):ZO:=.p none none (.ext k (.t a))
def nk (a:Nat):ZO:=.p none none (.nilchk (.t a))
def bx (a:Nat):ZO:=.p none none (.box (.t a))
def nt (a:Nat):ZO:=.p none none (.un .not (.t a))
def st (k a b:Nat):ZO:=.p none none (.store k (.t a) (.t b))
def E (x:COp):ZO:=.p none none x
def tt:ZO:=.p none none (.mv (.c (.bool true)))
def ff:ZO:=.p none none (.mv (.c (.bool false)))
def ca (g:Nat) (q:List Nat):ZO:=.p none none (.call g (zt q))
def eq (a b:Nat):ZO:=.p none none (.bin .eql (.t a) (.t b))
def eqi (a:Nat) (k:Int):ZO:=.p none none (.bin .eql (.t a) (.c (.int .i64 k)))
def ne (a b:Nat):ZO:=.p none none (.bin .neq (.t a) (.t b))
def nei (a:Nat) (k:Int):ZO:=.p none none (.bin .neq (.t a) (.c (.int .i64 k)))
def lt (a b:Nat):ZO:=.p none none (.bin .lss (.t a) (.t b))
def lti (a:Nat) (k:Int):ZO:=.p none none (.bin .lss (.t a) (.c (.int .i64 k)))
def le (a b:Nat):ZO:=.p none none (.bin .leq (.t a) (.t b))
def lei (a:Nat) (k:Int):ZO:=.p none none (.bin .leq (.t a) (.c (.int .i64 k)))
def gt (a b:Nat):ZO:=.p none none (.bin .gtr (.t a) (.t b))
def gti (a:Nat) (k:Int):ZO:=.p none none (.bin .gtr (.t a) (.c (.int .i64 k)))
def ge (a b:Nat):ZO:=.p none none (.bin .geq (.t a) (.t b))
def gei (a:Nat) (k:Int):ZO:=.p none none (.bin .geq (.t a) (.c (.int .i64 k)))
def ad (a b:Nat):ZO:=.p none none (.bin .add (.t a) (.t b))
def adi (a:Nat) (k:Int):ZO:=.p none none (.bin .add (.t a) (.c (.int .i64 k)))
def sb (a b:Nat):ZO:=.p none none (.bin .sub (.t a) (.t b))
def sbi (a:Nat) (k:Int):ZO:=.p none none (.bin .sub (.t a) (.c (.int .i64 k)))
end Z
def zo:Nat→List ZO→List COper
 | _,[]=>[]
 | k,.p none g x::r=>⟨some k,g,x⟩::zo (k+1) r
 | k,.p (some j) g x::r=>⟨j,g,x⟩::zo k r
inductive ZC where
 | O (k:Nat) (l:List ZO)
 | Q (k:Nat) (l:List ZO) (s:List Nat)
 | R (k:Nat) (l:List ZO) (a:Ann)
 | U (k:Nat) (l:List ZO) (u:List (Nat × Nat)) (s:List Nat)
 | V (k:Nat) (l:List ZO) (u:List (Nat × Nat)) (a:Ann)
 | s (a b:ZC)
 | r (a:ZC)
 | c (t:Nat) (a:ZC)
 | cc (t:Nat) (a b:ZC)
 | cd (x:Opd) (a b:ZC)
 | B (j:Nat) (a:ZC)
 | bk (j:Nat) (a:ZC) (x:Ann)
 | lp (x:Ann) (a:ZC)
 | ee (j:Nat)
 | w (x:WCode)
instance:Coe WCode ZC:=⟨.w⟩
def zc:ZC→WCode
 | .O k l=>.ops (zo k l) ⟨false,[],[]⟩
 | .Q k l s=>.ops (zo k l) ⟨true,s,[]⟩
 | .R k l a=>.ops (zo k l) a
 | .U k l u s=>.draw (zo k l) u ⟨true,s,[]⟩
 | .V k l u a=>.draw (zo k l) u a
 | .s a b=>.seq (zc a) (zc b)
 | .r a=>.seq (zc a) .ret
 | .c t a=>.cond (.t t) (zc a) .skip
 | .cc t a b=>.cond (.t t) (zc a) (zc b)
 | .cd x a b=>.cond x (zc a) (zc b)
 | .B j a=>.block j (zc a) ⟨false,[],[]⟩
 | .bk j a x=>.block j (zc a) x
 | .lp x a=>.loop x (zc a)
 | .ee j=>.exit j
 | .w x=>x
abbrev T (a:Nat):Opd:=.t a
abbrev N (n:Int):Opd:=.c (.int .i64 n)
abbrev zd (x:ZC) {y:WCode} (_h:zc x=y:=by dsimp only [zc,zo,zt,T,N,Z.y,Z.z,Z.d,Z.n,Z.m,Z.i,Z.l,Z.h,Z.f,Z.po,Z.pa,Z.ln,Z.ix,Z.ex,Z.nk,Z.bx,Z.nt,Z.st,Z.E,Z.tt,Z.ff,Z.ca,Z.eq,Z.eqi,Z.ne,Z.nei,Z.lt,Z.lti,Z.le,Z.lei,Z.gt,Z.gti,Z.ge,Z.gei,Z.ad,Z.adi,Z.sb,Z.sbi]):WCode:=y
abbrev ZL (L B:WCode) (a:Ann):Prop:=∀ {β:Type} {C:WProg} {b:Nat} {f:Ex × WSt→Option β} {k:List Pw.Frame} {s:WSt},CK C b f k L s=LK C b f (.sq L::k) B (canon b a s)
end Go.Pw
end
section
set_option maxRecDepth 100000
namespace P
open Go Go.Pav Go.Pw Go.Pw.Z Go.Pw.ZC
def w0:WFn:=⟨0,[],zd (O 0 [E .fail])⟩
def w632:WFn:=⟨1,[.tmp 2],zd (s (O 1 [bx 0,ff]) (s (s (O 6 [f 3 1,l 1 6,ln 1 7,gti 8 40]) (c 9 (r (O 10 [ca 634 [],d 2 (m 10)])))) (s (O 3 [E (.alloc [.bool false,.int .i64 0,.int .i64 0,.int .i64 0,.ro 9 [] true,.int .i64 0,.int .i64 0,.int .u8 0,.ro 6 [] true,.int .i64 0,.int .i64 0,.ro 8 [] true,.ro 1 [] true,.int .i64 0,.int .i64 0,.int .i64 0,.int .i64 0,.int .i64 0])]) (s (O 12 [h 18 3,h 5 1,ca 642 [12,13],d 11 (m 14),ex 0 11,ex 1 11,d 4 (E (.alloc [.bool false,.int .i64 0,.int .i64 0,.int .i64 0,.ro 9 [] true,.int .i64 0,.int .i64 0,.int .u8 0,.ro 6 [] true,.int .i64 0,.int .i64 0,.ro 8 [] true,.ro 1 [] true,.int .i64 0,.int .i64 0,.int .i64 0,.int .i64 0,.int .i64 0])),n (st 18 4 15),d 5 (m 16)]) (s (s (Q 17 [m 5,nei 17 2,m 18,z 19 (h 18 4),z 19 (ca 638 [20]),z 19 (nei 21 0),po 19 22,m 23,z 24 (h 18 4),z 24 (ca 643 [25]),z 24 (nei 26 0),po 24 27,m 28,z 29 (h 18 4),z 29 (ca 644 [30]),z 29 (nei 31 0),po 29 32,m 33,z 34 (h 18 4),z 34 (ca 645 [35]),z 34 (E (.build [.int .i64 0,.int .i64 0,.int .i64 0,.int .i64 0] [])),z 34 (E (.eqv 4 [0,0,0,0] true (T 36) (T 37))),po 34 38,m 39,z 40 (h 18 4),z 40 (ca 646 [41]),z 40 (E (.fldv 0 1 false (T 42))),z 40 (ln 1 43),z 40 (nei 44 0),po 40 45,m 46,z 47 (h 18 4),z 47 (ca 647 [48]),z 47 (ln 1 49),z 47 (nei 50 0),po 47 51] [52,4]) (c 52 (r (Q 2 [ff] [2])))) (r (O 53 [h 18 4,ca 648 [53],E (.build [.int .i64 0,.ro 9 [] true,.bool false,.int .u64 0,.int .i64 0,.int .i64 0,.int .u8 0,.str [],.str [],.ro 2 [] true,.str [],.ro 6 [] true] []),ca 127 [54,55],eqi 56 1,m 57,y 58 (h 18 4),y 58 (ca 649 [59]),y 58 (E (.build [.ro 8 [] true,.ro 1 [] true] [])),y 58 (ca 286 [60,61]),y 58 (eqi 62 1),pa 58 63,m 64,y 65 (h 18 4),y 65 (ca 639 [66]),y 65 (E (.fldv 3 1 false (T 67))),y 65 (ln 1 68),y 65 (eqi 69 0),pa 65 70,m 71,y 72 (ca 634 []),pa 72 73,d 2 (m 74)])))))))⟩
def w634_c0:WCode:=zd (r (O 0 [tt]))
def w634_B0:WCode:=zd (s (s (O 71 [m 8,m 4,ln 1 72,lt 71 73]) (cc 74 (w .skip) (ee 0))) (s (B 1 (s (V 78 [h 18 1,m 4,m 8,ix 5 79 80,h 5 81,ca 642 [78,82],d 77 (m 83),ex 0 77,ex 1 77,n (st 18 1 84),d 2 (m 85)] [] ⟨false,[],[]⟩) (s (U 86 [m 2,m 5,m 8,ix 1 87 88,l 1 89,ne 86 90,m 91,z 92 (h 18 1),z 92 (E (.buildS [.int .i64 0] 9 [(0,N 0),(1,N 30),(2,N 20),(3,N 0),(4,N 0),(5,N 0),(6,N 0),(7,N 0),(8,N 0)])),z 92 (m 8),z 92 (ix 1 94 95),z 92 (l 1 96),z 92 (m 6),z 92 (m 8),z 92 (ix 1 98 99),z 92 (l 1 100),z 92 (E (.buildS [.int .i64 0] 9 [(0,N 1),(1,N 1),(2,N 0),(3,N 0),(4,N 0),(5,N 0),(6,N 0),(7,N 0),(8,N 0)])),z 92 (m 8),z 92 (ix 1 102 103),z 92 (l 1 104),z 92 (m 7),z 92 (m 8),z 92 (ix 4 106 107),z 92 (h 4 108),z 92 (ca 651 [93,97,101,105,109]),z 92 (eqi 110 0),po 92 111] [(7,8),(8,15),(7,16),(8,16),(11,16),(15,16),(8,19),(8,23),(16,23)] [112,8,7,6,5,4,1]) (c 112 (r (O 0 [ff])))))) (O 75 [m 8,adi 75 1,d 8 (m 76)])))
def w634_L0:WCode:=.loop ⟨true,[8,7,6,5,4,1],[]⟩ w634_B0
def w634:WFn:=⟨0,[.tmp 0],zd (s (O 0 [ff]) (s (O 10 [ca 650 [],ca 636 [10],d 9 (m 11),ex 0 9,ex 1 9,d 1 (E (.alloc [.bool false,.int .i64 0,.int .i64 0,.int .i64 0,.ro 9 [] true,.int .i64 0,.int .i64 0,.int .u8 0,.ro 6 [] true,.int .i64 0,.int .i64 0,.ro 8 [] true,.ro 1 [] true,.int .i64 0,.int .i64 0,.int .i64 0,.int .i64 0,.int .i64 0])),n (st 18 1 12),d 2 (m 13)]) (s (s (O 14 [m 2,nei 14 0,m 15,z 16 (h 18 1),z 16 (E (.build [.int .i64 0,.int .i64 0,.int .i64 0,.int .i64 0] [(3,1,N 1)])),z 16 (E (.call 651 [T 17,N 0,.c (.ro 1 [] true),N 0,T 18])),z 16 (eqi 19 0),po 16 20]) (c 21 (r (O 0 [ff])))) (s (O 22 [E (.build [.int .u8 0,.int .i64 0,.int .i64 0,.int .i64 0,.ro 4 [] true] [(0,1,.c (.int .u8 2)),(2,1,N 1)]),E (.buildS [.int .u8 0,.int .i64 0,.int .i64 0,.int .i64 0,.ro 4 [] true] 1 [(0,T 22)]),d 3 (m 23)]) (s (Q 24 [E (.buildS [.int .u64 0] 4 [(0,.c (.int .u64 1)),(1,.c (.int .u64 2)),(2,.c (.int .u64 3)),(3,.c (.int .u64 4))]),ca 652 [24],E (.build [.int .u8 0,.int .i64 0,.int .i64 0,.int .i64 0,.ro 4 [] true] [(0,1,.c (.int .u8 1)),(4,1,T 25)]),E (.buildS [.int .u8 0,.int .i64 0,.int .i64 0,.int .i64 0,.ro 4 [] true] 1 [(0,T 26)]),E (.build [.int .u64 0,.int .i64 0] [(0,1,.c (.int .u64 2)),(1,1,N 25)]),E (.buildS [.int .u64 0,.int .i64 0] 1 [(0,T 28)]),E (.build [.int .u8 0,.int .i64 0,.int .u64 0,.ro 5 [] true,.ro 2 [] true] [(0,1,.c (.int .u8 5)),(3,1,T 27),(4,1,T 29)]),E (.build [.int .u64 0,.int .i64 0] [(0,1,.c (.int .u64 3)),(1,1,N 5)]),E (.buildS [.int .u64 0,.int .i64 0] 1 [(0,T 31)]),E (.build [.int .u8 0,.int .i64 0,.int .u64 0,.ro 5 [] true,.ro 2 [] true] [(0,1,.c (.int .u8 1)),(1,1,N 30),(4,1,T 32)]),m 3,E (.build [.int .u8 0,.int .i64 0,.int .u64 0,.ro 5 [] true,.ro 2 [] true] [(0,1,.c (.int .u8 5)),(3,1,T 34)]),m 3,E (.build [.int .u8 0,.int .i64 0,.int .u64 0,.ro 5 [] true,.ro 2 [] true] [(0,1,.c (.int .u8 5)),(3,1,T 36)]),E (.build [.int .u8 0,.int .i64 0,.int .u64 0,.ro 5 [] true,.ro 2 [] true] [(0,1,.c (.int .u8 3)),(2,1,.c (.int .u64 9))]),E (.build [.int .u8 0,.int .i64 0,.int .u64 0,.ro 5 [] true,.ro 2 [] true] [(0,1,.c (.int .u8 4))]),E (.buildS [.int .u64 0] 1 [(0,.c (.int .u64 3))]),ca 652 [40],E (.build [.int .u8 0,.int .i64 0,.int .i64 0,.int .i64 0,.ro 4 [] true] [(0,1,.c (.int .u8 1)),(4,1,T 41)]),E (.buildS [.int .u8 0,.int .i64 0,.int .i64 0,.int .i64 0,.ro 4 [] true] 1 [(0,T 42)]),E (.build [.int .u8 0,.int .i64 0,.int .u64 0,.ro 5 [] true,.ro 2 [] true] [(0,1,.c (.int .u8 5)),(3,1,T 43)]),E (.build [.int .u8 0,.int .i64 0,.int .u64 0,.ro 5 [] true,.ro 2 [] true] [(0,1,.c (.int .u8 7))]),E (.build [.int .u64 0,.int .i64 0] [(0,1,.c (.int .u64 4)),(1,1,N 1)]),E (.buildS [.int .u64 0,.int .i64 0] 1 [(0,T 46)]),E (.build [.int .u8 0,.int .i64 0,.int .u64 0,.ro 5 [] true,.ro 2 [] true] [(0,1,.c (.int .u8 6)),(4,1,T 47)]),E (.buildS [.int .u8 0,.int .i64 0,.int .u64 0,.ro 5 [] true,.ro 2 [] true] 9 [(0,T 30),(1,T 33),(2,T 35),(3,T 37),(4,T 38),(5,T 39),(6,T 44),(7,T 45),(8,T 48)]),d 4 (m 49)] [4,1]) (s (O 50 [E (.buildS [.int .i64 0] 9 [(0,N 0),(1,N 0),(2,N 0),(3,N 0),(4,N 11),(5,N 4),(6,N 8),(7,N 0),(8,N 0)]),d 5 (m 50)]) (s (O 51 [E (.buildS [.int .u64 0] 2 [(0,.c (.int .u64 1)),(1,.c (.int .u64 2))]),E (.buildS [.int .u64 0] 3 [(0,.c (.int .u64 2)),(1,.c (.int .u64 3)),(2,.c (.int .u64 4))]),E (.buildS [.int .u64 0] 3 [(0,.c (.int .u64 2)),(1,.c (.int .u64 3)),(2,.c (.int .u64 4))]),E (.buildS [.int .u64 0] 2 [(0,.c (.int .u64 3)),(1,.c (.int .u64 4))]),E (.buildS [.int .u64 0] 2 [(0,.c (.int .u64 3)),(1,.c (.int .u64 4))]),E (.buildS [.int .u64 0] 2 [(0,.c (.int .u64 3)),(1,.c (.int .u64 4))]),E (.buildS [.int .u64 0] 2 [(0,.c (.int .u64 3)),(1,.c (.int .u64 4))]),E (.buildS [.int .u64 0] 2 [(0,.c (.int .u64 3)),(1,.c (.int .u64 4))]),E (.buildS [.int .u64 0] 2 [(0,.c (.int .u64 3)),(1,.c (.int .u64 4))]),E (.buildS [.ro 1 [] true] 9 [(0,T 51),(1,T 52),(2,T 53),(3,T 54),(4,T 55),(5,T 56),(6,T 57),(7,T 58),(8,T 59)]),d 6 (m 60)]) (s (Q 61 [E (.build [.int .i64 0,.int .i64 0,.int .i64 0,.int .i64 0] [(1,1,N 2),(3,1,N 3)]),E (.build [.int .i64 0,.int .i64 0,.int .i64 0,.int .i64 0] [(0,1,N 1),(1,1,N 1),(3,1,N 4)]),E (.build [.int .i64 0,.int .i64 0,.int .i64 0,.int .i64 0] [(3,1,N 4)]),E (.build [.int .i64 0,.int .i64 0,.int .i64 0,.int .i64 0] [(3,1,N 4)]),E (.build [.int .i64 0,.int .i64 0,.int .i64 0,.int .i64 0] [(3,1,N 4)]),E (.build [.int .i64 0,.int .i64 0,.int .i64 0,.int .i64 0] [(3,1,N 4)]),E (.build [.int .i64 0,.int .i64 0,.int .i64 0,.int .i64 0] [(3,1,N 4)]),E (.build [.int .i64 0,.int .i64 0,.int .i64 0,.int .i64 0] [(2,1,N 1),(3,1,N 3)]),E (.build [.int .i64 0,.int .i64 0,.int .i64 0,.int .i64 0] [(3,1,N 3)]),E (.buildS [.int .i64 0,.int .i64 0,.int .i64 0,.int .i64 0] 9 [(0,T 61),(1,T 62),(2,T 63),(3,T 64),(4,T 65),(5,T 66),(6,T 67),(7,T 68),(8,T 69)]),d 7 (m 70)] [7,6,5,4,1]) (s (s (O 8 [i 0]) (bk 0 w634_L0 ⟨true,[],[]⟩)) w634_c0)))))))))⟩
@[simp] theorem w634_E0:ZL w634_L0 w634_B0 ⟨true,[8,7,6,5,4,1],[]⟩:=ck_lp rfl
def w636:WFn:=⟨1,[.cell 2 18 true,.tmp 3],zd (s (O 1 [bx 0,E (.alloc [.bool false,.int .i64 0,.int .i64 0,.int .i64 0,.ro 9 [] true,.int .i64 0,.int .i64 0,.int .u8 0,.ro 6 [] true,.int .i64 0,.int .i64 0,.ro 8 [] true,.ro 1 [] true,.int .i64 0,.int .i64 0,.int .i64 0,.int .i64 0,.int .i64 0]),i 0]) (s (s (Q 7 [h 7 1,ca 637 [7],d 4 (m 8)] [4,2,1]) (s (O 9 [m 4,nei 9 0]) (c 10 (r (O 11 [E (.build [.bool false,.int .i64 0,.int .i64 0,.int .i64 0,.ro 9 [] true,.int .i64 0,.int .i64 0,.int .u8 0,.ro 6 [] true,.int .i64 0,.int .i64 0,.ro 8 [] true,.ro 1 [] true,.int .i64 0,.int .i64 0,.int .i64 0,.int .i64 0,.int .i64 0] []),m 4,n (st 18 2 11),d 3 (m 12)]))))) (s (O 14 [h 7 1,ca 138 [14],d 13 (m 15),ex 0 13,ex 1 13,d 5 (E (.alloc [.ro 8 [] true,.ro 1 [] true])),n (st 2 5 16),d 6 (m 17)]) (r (V 18 [h 7 1,ca 653 [18],f 0 1,l 1 20,h 2 5,E (.build [.int .i64 0,.int .i64 0,.int .i64 0,.int .i64 0] [(3,1,N 1)]),E (.build [.bool false,.int .i64 0,.int .i64 0,.int .i64 0,.ro 9 [] true,.int .i64 0,.int .i64 0,.int .u8 0,.ro 6 [] true,.int .i64 0,.int .i64 0,.ro 8 [] true,.ro 1 [] true,.int .i64 0,.int .i64 0,.int .i64 0,.int .i64 0,.int .i64 0] [(0,1,.c (.bool true)),(1,7,T 19),(9,1,T 21),(11,2,T 22),(14,4,T 23)]),n (st 18 2 24),d 3 (i 0)] [(1,3),(1,4)] ⟨false,[],[]⟩)))))⟩
def w637:WFn:=⟨1,[.tmp 2],zd (s (O 1 [bx 0,i 0]) (s (O 4 [E (.mkfn 654 [T 1]),d 3 (m 4)]) (s (B 0 (s (Q 6 [f 0 1,l 1 6,lti 7 1,m 8,z 9 (f 0 1),z 9 (l 1 10),z 9 (gti 11 2147483648),po 9 12,m 13,z 14 (f 1 1),z 14 (l 1 15),z 14 (lti 16 0),po 14 17,m 18,z 19 (f 1 1),z 19 (l 1 20),z 19 (gti 21 16),po 19 22,m 23,z 24 (f 2 1),z 24 (l 1 25),z 24 (lti 26 1),po 24 27,m 28,z 29 (f 2 1),z 29 (l 1 30),z 29 (gti 31 2305843009213693952),po 29 32,m 33,z 34 (f 6 1),z 34 (l 1 35),z 34 (E (.bin .gtr (T 36) (.c (.int .u8 6)))),po 34 37,d 5 (m 38)] [5,3,1]) (cc 5 (r (O 2 [i 7])) (s (O 40 [h 7 1,ca 277 [40],nei 41 0,m 42,z 43 (f 3 1),z 43 (l 1 44),z 43 (m 3),z 43 (ca 232 [45,46]),po 43 47,d 39 (m 48)]) (c 39 (r (O 2 [i 7]))))))) (r (O 2 [i 0])))))⟩
def w638:WFn:=⟨1,[.tmp 2],zd (s (O 1 [bx 0,i 0]) (r (O 3 [f 9 1,l 1 3,d 2 (m 4)])))⟩
def w639:WFn:=⟨1,[.cell 2 7 true],zd (s (O 1 [bx 0,E (.alloc [.int .i64 0,.int .i64 0,.int .i64 0,.ro 9 [] true,.int .i64 0,.int .i64 0,.int .u8 0])]) (r (O 3 [f 1 1,h 7 3,ca 653 [4],n (st 7 2 5)])))⟩
def w642:WFn:=⟨2,[.cell 4 18 true,.tmp 5],zd (s (O 2 [bx 0,bx 1,E (.alloc [.bool false,.int .i64 0,.int .i64 0,.int .i64 0,.ro 9 [] true,.int .i64 0,.int .i64 0,.int .u8 0,.ro 6 [] true,.int .i64 0,.int .i64 0,.ro 8 [] true,.ro 1 [] true,.int .i64 0,.int .i64 0,.int .i64 0,.int .i64 0,.int .i64 0]),i 0]) (s (s (O 8 [f 0 2,l 1 8,nt 9]) (c 10 (r (Q 11 [h 18 2,n (st 18 4 11),d 5 (i 2)] [5,4])))) (s (O 12 [h 18 2,h 5 3,E (.build [.bool false,.int .i64 0,.int .i64 0,.int .i64 0,.ro 9 [] true,.int .i64 0,.int .i64 0,.int .u8 0,.ro 6 [] true,.int .i64 0,.int .i64 0,.ro 8 [] true,.ro 1 [] true,.int .i64 0,.int .i64 0,.int .i64 0,.int .i64 0,.int .i64 0,.int .u8 0,.int .i64 0,.int .u64 0,.ro 5 [] true,.ro 2 [] true,.int .u64 0,.int .i64 0,.int .i64 0] [(0,18,T 12),(18,5,T 13)]),bx 14,d 6 (m 15)]) (s (O 7 [E (.alloc [.int .i64 0])]) (s (s (O 16 [m 6,ca 658 [16],E (.mkfn 1000116 [T 7]),ca 657 [17,18]]) (c 19 (r (V 20 [h 18 2,f 0 7,l 1 21,n (st 18 4 20),d 5 (m 22)] [(2,3)] ⟨false,[],[]⟩)))) (r (O 23 [m 6,nk 23,f 0 24,h 18 25,n (st 18 4 26),d 5 (i 0)])))))))⟩
def w643:WFn:=⟨1,[.tmp 2],zd (s (O 1 [bx 0,i 0]) (r (O 3 [f 10 1,l 1 3,d 2 (m 4)])))⟩
def w644:WFn:=⟨1,[.tmp 2],zd (s (O 1 [bx 0,i 0]) (r (O 3 [f 13 1,l 1 3,d 2 (m 4)])))⟩
def w645:WFn:=⟨1,[.cell 2 4 true],zd (s (O 1 [bx 0,E (.alloc [.int .i64 0,.int .i64 0,.int .i64 0,.int .i64 0])]) (r (O 3 [f 14 1,h 4 3,n (st 4 2 4)])))⟩
def w646:WFn:=⟨1,[.cell 2 1 true],zd (s (O 1 [bx 0,E (.alloc [.ro 6 [] true])]) (s (s (O 5 [f 0 1,l 1 5,nt 6]) (c 7 (r (O 8 [E (.build [.ro 6 [] true] []),n (st 1 2 8)])))) (s (V 10 [h 18 1,ca 659 [10],f 8 1,h 1 12,E (.call 110 [T 11,T 13,N 0,N 0]),d 9 (m 14),ex 0 9,ex 1 9,d 3 (E (.alloc [.ro 6 [] true])),n (st 1 3 15),d 4 (m 16)] [(1,3),(0,8),(1,8),(3,8),(4,8)] ⟨false,[],[]⟩) (r (O 17 [h 1 3,n (st 1 2 17)])))))⟩
def w647:WFn:=⟨1,[.tmp 2],zd (s (Q 1 [bx 0,E (.mv (.c (.ro 1 [] true)))] [1]) (s (s (O 5 [f 0 1,l 1 5,nt 6]) (c 7 (r (O 2 [E (.mv (.c (.ro 1 [] true)))])))) (s (V 9 [h 18 1,ca 659 [9],f 8 1,h 1 11,f 10 1,l 1 13,f 9 1,l 1 15,f 1 1,f 1 17,l 1 18,ca 134 [10,12,14,16,19],d 8 (m 20),ex 0 8,ex 1 8,d 3 (m 21),d 4 (m 22)] [(1,3),(1,5),(1,7),(1,10)] ⟨false,[],[]⟩) (r (O 23 [m 3,d 2 (m 23)])))))⟩
def w127_c0:WCode:=zd (r (O 46 [f 3 2,h 9 46,f 3 3,h 9 48,ca 260 [47,49],d 4 (m 50)]))
def w127_B0:WCode:=zd (s (s (Q 27 [m 5,f 1 2,l 1 28,ln 1 29,lt 27 30] [31,5,3,2]) (cc 31 (w .skip) (ee 0))) (s (B 1 (s (V 34 [f 1 2,l 1 34,m 5,ix 9 35 36,h 9 37,f 1 3,l 1 39,m 5,ix 9 40 41,h 9 42,ca 260 [38,43],eqi 44 0] [] ⟨false,[],[]⟩) (c 45 (r (O 4 [i 0]))))) (O 32 [m 5,adi 32 1,d 5 (m 33)])))
def w127_L0:WCode:=.loop ⟨true,[5,3,2],[]⟩ w127_B0
def w127:WFn:=⟨2,[.tmp 4],zd (s (Q 2 [bx 0,bx 1,i 0] [3,2]) (s (s (O 6 [f 0 2,l 1 6,f 0 3,l 1 8,ne 7 9,m 10,z 11 (f 2 2),z 11 (l 1 12),z 11 (f 2 3),z 11 (l 1 14),z 11 (E (.eqv 5 [] true (T 13) (T 15))),po 11 16,m 17,z 18 (f 1 2),z 18 (l 1 19),z 18 (ln 1 20),z 18 (f 1 3),z 18 (l 1 22),z 18 (ln 1 23),z 18 (ne 21 24),po 18 25]) (c 26 (r (O 4 [i 0])))) (s (s (O 5 [i 0]) (bk 0 w127_L0 ⟨true,[3,2],[]⟩)) w127_c0)))⟩
@[simp] theorem w127_E0:ZL w127_L0 w127_B0 ⟨true,[5,3,2],[]⟩:=ck_lp rfl
def w648:WFn:=⟨1,[.cell 2 12 true],zd (s (Q 1 [bx 0,E (.alloc [.int .i64 0,.ro 9 [] true,.bool false,.int .u64 0,.int .i64 0,.int .i64 0,.int .u8 0,.str [],.str [],.ro 2 [] true,.str [],.ro 6 [] true])] [2,1]) (s (s (O 5 [f 0 1,l 1 5,nt 6]) (c 7 (r (O 8 [E (.build [.int .i64 0,.ro 9 [] true,.bool false,.int .u64 0,.int .i64 0,.int .i64 0,.int .u8 0,.str [],.str [],.ro 2 [] true,.str [],.ro 6 [] true] []),n (st 12 2 8)])))) (s (V 10 [h 18 1,ca 659 [10],f 8 1,h 1 12,f 10 1,l 1 14,f 9 1,l 1 16,ca 125 [11,13,15,17],d 9 (m 18),ex 0 9,ex 1 9,d 3 (E (.alloc [.int .i64 0,.ro 9 [] true,.bool false,.int .u64 0,.int .i64 0,.int .i64 0,.int .u8 0,.str [],.str [],.ro 2 [] true,.str [],.ro 6 [] true])),n (st 12 3 19),d 4 (m 20)] [(1,3),(1,5),(1,7),(0,12),(1,12),(3,12),(5,12),(7,12),(8,12)] ⟨false,[],[]⟩) (r (O 21 [h 12 3,n (st 12 2 21)])))))⟩
def w286_c0:WCode:=zd (r (O 4 [i 1]))
def w286_B0:WCode:=zd (s (s (O 21 [m 5,f 1 2,l 1 22,ln 1 23,lt 21 24]) (cc 25 (w .skip) (ee 0))) (s (B 1 (s (V 28 [f 1 2,l 1 28,m 5,ix 1 29 30,l 1 31,f 1 3,l 1 33,m 5,ix 1 34 35,l 1 36,ca 437 [32,37],eqi 38 0] [] ⟨false,[],[]⟩) (c 39 (r (O 4 [i 0]))))) (O 26 [m 5,adi 26 1,d 5 (m 27)])))
def w286_L0:WCode:=.loop ⟨true,[5,3,2],[]⟩ w286_B0
def w286:WFn:=⟨2,[.tmp 4],zd (s (O 2 [bx 0,bx 1,i 0]) (s (s (O 6 [f 0 2,l 1 6,f 0 3,l 1 8,ca 437 [7,9],eqi 10 0,m 11,z 12 (f 1 2),z 12 (l 1 13),z 12 (ln 1 14),z 12 (f 1 3),z 12 (l 1 16),z 12 (ln 1 17),z 12 (ne 15 18),po 12 19]) (c 20 (r (Q 4 [i 0] [4])))) (s (s (O 5 [i 0]) (bk 0 w286_L0 ⟨true,[],[]⟩)) w286_c0)))⟩
@[simp] theorem w286_E0:ZL w286_L0 w286_B0 ⟨true,[5,3,2],[]⟩:=ck_lp rfl
def w649:WFn:=⟨1,[.cell 2 2 true],zd (s (O 1 [bx 0,E (.alloc [.ro 8 [] true,.ro 1 [] true])]) (s (s (O 6 [f 0 1,l 1 6,nt 7]) (c 8 (r (O 9 [E (.build [.ro 8 [] true,.ro 1 [] true] []),n (st 2 2 9)])))) (s (O 11 [f 1 1,h 7 11,f 11 1,h 2 13,E (.call 290 [T 12,T 14,N 16]),d 10 (m 15),ex 0 10,ex 1 10,ex 2 10,d 3 (E (.alloc [.ro 8 [] true,.ro 1 [] true])),n (st 2 3 16),d 4 (m 17),d 5 (m 18)]) (r (O 19 [h 2 3,n (st 2 2 19)])))))⟩
def w650:WFn:=⟨0,[.cell 0 7 true],zd (s (O 0 [E (.alloc [.int .i64 0,.int .i64 0,.int .i64 0,.ro 9 [] true,.int .i64 0,.int .i64 0,.int .u8 0])]) (r (O 1 [E (.build [.int .u8 0,.str [],.str [],.ro 3 [] true,.str [],.ro 6 [] true] [(0,1,.c (.int .u8 1)),(1,1,.c (.str [114,111,119]))]),E (.build [.int .u8 0,.str [],.str [],.ro 3 [] true,.str [],.ro 6 [] true,.int .i64 0,.bool false,.int .i64 0] [(0,6,T 1),(6,1,N 10),(8,1,N 1)]),E (.buildS [.int .u8 0,.str [],.str [],.ro 3 [] true,.str [],.ro 6 [] true,.int .i64 0,.bool false,.int .i64 0] 1 [(0,T 2)]),E (.build [.int .i64 0,.int .i64 0,.int .i64 0,.ro 9 [] true,.int .i64 0,.int .i64 0,.int .u8 0] [(0,1,N 20),(2,1,N 1),(3,1,T 3),(4,1,N 1),(5,1,N 100)]),n (st 7 0 4)])))⟩
def w651_c0:WCode:=zd (r (O 10 [i 1]))
def w651_B0:WCode:=zd (s (s (O 47 [m 12,m 2,ln 1 48,lt 47 49]) (cc 50 (w .skip) (ee 0))) (s (B 1 (s (V 53 [m 11,m 12,ix 8 53 54,f 0 55,l 1 56,m 2,m 12,ix 1 58 59,l 1 60,ne 57 61] [] ⟨false,[],[]⟩) (c 62 (r (O 10 [i 0]))))) (O 51 [m 12,adi 51 1,d 12 (m 52)])))
def w651_L0:WCode:=.loop ⟨true,[12,11,2],[]⟩ w651_B0
def w651:WFn:=⟨5,[.tmp 10],zd (s (O 9 [d 5 (bx 0),bx 4,i 0]) (s (O 13 [h 18 5,ca 649 [13],E (.fldv 0 1 false (T 14)),d 11 (m 15)]) (s (s (U 16 [h 18 5,ca 643 [16],m 1,ne 17 18,m 19,z 20 (h 18 5),z 20 (ca 644 [21]),z 20 (m 3),z 20 (ne 22 23),po 20 24,m 25,z 26 (h 18 5),z 26 (ca 645 [27]),z 26 (h 4 9),z 26 (E (.eqv 4 [0,0,0,0] true (T 28) (T 29))),po 26 30,m 31,z 32 (m 11),z 32 (ln 1 33),z 32 (m 2),z 32 (ln 1 35),z 32 (ne 34 36),po 32 37,m 38,z 39 (h 18 5),z 39 (ca 647 [40]),z 39 (ln 1 41),z 39 (m 2),z 39 (ln 1 43),z 39 (ne 42 44),po 39 45] [(12,13),(25,28)] [46,11,2]) (c 46 (r (O 10 [i 0])))) (s (s (O 12 [i 0]) (bk 0 w651_L0 ⟨true,[],[]⟩)) w651_c0))))⟩
@[simp] theorem w651_E0:ZL w651_L0 w651_B0 ⟨true,[12,11,2],[]⟩:=ck_lp rfl
def w652_c0:WCode:=zd (r (O 19 [m 3,d 2 (m 19)]))
def w652_B0:WCode:=zd (s (s (O 5 [m 4,m 0,ln 1 6,lt 5 7]) (cc 8 (w .skip) (ee 0))) (s (B 1 (O 11 [m 3,m 0,m 4,ix 1 12 13,l 1 14,E (.build [.int .u64 0,.int .u8 0,.str [],.ro 1 [] true] [(0,1,T 15)]),E (.buildS [.int .u64 0,.int .u8 0,.str [],.ro 1 [] true] 1 [(0,T 16)]),E (.app [.int .u64 0,.int .u8 0,.str [],.ro 1 [] true] 56 false (T 11) (T 17)),d 3 (m 18)])) (O 9 [m 4,adi 9 1,d 4 (m 10)])))
def w652_L0:WCode:=.loop ⟨true,[4,3,0],[]⟩ w652_B0
def w652:WFn:=⟨1,[.tmp 2],zd (s (O 2 [E (.mv (.c (.ro 4 [] true)))]) (s (R 3 [E (.mv (.c (.ro 4 [] true)))] ⟨true,[3,0],[(3,4)]⟩) (s (s (O 4 [i 0]) (bk 0 w652_L0 ⟨true,[3],[]⟩)) w652_c0)))⟩
@[simp] theorem w652_E0:ZL w652_L0 w652_B0 ⟨true,[4,3,0],[]⟩:=ck_lp rfl
def w138:WFn:=⟨1,[.cell 2 2 true,.tmp 3],zd (s (O 1 [bx 0,E (.alloc [.ro 8 [] true,.ro 1 [] true]),i 0]) (s (s (O 5 [h 7 1,ca 277 [5],d 4 (m 6)]) (s (O 7 [m 4,nei 7 0]) (c 8 (r (O 9 [E (.build [.ro 8 [] true,.ro 1 [] true] []),m 4,n (st 2 2 9),d 3 (m 10)]))))) (r (O 11 [f 3 1,l 1 11,ln 1 12,E (.mksl [.ro 8 [] true] 24 (T 13) (T 13)),E (.build [.ro 8 [] true,.ro 1 [] true] [(1,1,T 14)]),n (st 2 2 15),d 3 (i 0)]))))⟩
def w653_c0:WCode:=zd (r (O 28 [h 7 1,n (st 7 2 28)]))
def w653_B0:WCode:=zd (s (O 13 [lt 12 11]) (s (cc 13 (w .skip) (ee 0)) (s (B 1 (s (O 14 [m 12,d 3 (m 14)]) (V 15 [f 3 1,l 1 15,m 3,f 3 1,l 1 18,m 3,ix 9 19 20,f 0 21,h 6 22,ca 662 [23],ix 9 16 17,f 0 25,n (st 6 26 24)] [(1,9)] ⟨false,[],[]⟩))) (O 27 [adi 12 1,d 12 (m 27)]))))
def w653_L0:WCode:=.loop ⟨true,[12,11,2,1],[]⟩ w653_B0
def w653:WFn:=⟨1,[.cell 2 7 true],zd (s (O 1 [bx 0,E (.alloc [.int .i64 0,.int .i64 0,.int .i64 0,.ro 9 [] true,.int .i64 0,.int .i64 0,.int .u8 0])]) (s (O 4 [f 3 1,l 1 4,ca 3661 [5],ca 2660 [6],f 3 1,n (st 1 8 7)]) (s (s (Q 9 [f 3 1,l 1 9,ln 1 10,i 0] [12,11,2,1]) (bk 0 w653_L0 ⟨true,[2,1],[]⟩)) w653_c0)))⟩
@[simp] theorem w653_E0:ZL w653_L0 w653_B0 ⟨true,[12,11,2,1],[]⟩:=ck_lp rfl
def w654:WFn:=⟨2,[.tmp 3],zd (s (O 2 [bx 0,ff]) (r (O 4 [f 6 2,l 1 4,f 2 1,l 1 6,lt 5 7,d 3 (m 8)])))⟩
def w277:WFn:=⟨1,[.tmp 2],zd (s (Q 1 [bx 0,i 0] [1]) (s (O 3 [E (.mv (.c (.fn 427 [])))]) (s (s (O 4 [h 7 1,ca 279 [4],ca 115 [5],nei 6 0,m 7,z 8 (f 5 1),z 8 (l 1 9),z 8 (lti 10 1),po 8 11,m 12,z 13 (f 5 1),z 13 (l 1 14),z 13 (gti 15 65536),po 13 16,m 17,z 18 (f 3 1),z 18 (l 1 19),z 18 (m 3),z 18 (ca 232 [20,21]),po 18 22]) (c 23 (r (O 2 [i 7])))) (r (O 2 [i 0])))))⟩
def w232:WFn:=⟨2,[.tmp 4],zd (s (O 4 [ff]) (r (O 5 [m 0,m 1,ca 405 [5,6],gei 7 0,d 4 (m 8)])))⟩
def w657:WFn:=asW 1000111 1000116
def w658_c0:WCode:=zd (r (O 2 [E (.mv (.c (.fn 1000000 [])))]))
def w658_B0:WCode:=zd (s (O 56 [lt 55 54]) (s (cc 56 (w .skip) (ee 0)) (s (B 1 (s (O 57 [ix 1 53 55,l 1 57,d 7 (m 58)]) (s (O 59 [m 7,m 0,E (.callv (T 59) [T 60]),d 8 (m 61)]) (s (O 62 [m 8,E (.eqv 6 [] true (T 62) (.c (.fn 1000000 [])))]) (c 63 (r (O 64 [m 8,d 2 (m 64)]))))))) (O 65 [adi 55 1,d 55 (m 65)]))))
def w658_L0:WCode:=.loop ⟨true,[55,54,53,0],[]⟩ w658_B0
def w658:WFn:=⟨1,[.tmp 2],zd (s (O 2 [E (.mv (.c (.fn 1000000 [])))]) (s (s (V 9 [m 0,nk 9,f 0 10,f 1 11,h 7 12,m 0,nk 14,f 18 15,h 5 16,ca 664 [13,17],d 3 (m 18)] [] ⟨false,[],[]⟩) (s (O 19 [m 3,nei 19 0]) (c 20 (r (O 21 [m 3,ca 665 [21],d 2 (m 22)]))))) (s (U 24 [m 0,nk 24,f 0 25,f 8 26,h 1 27,m 0,nk 29,f 0 30,f 10 31,l 1 32,ca 160 [28,33],d 23 (m 34),ex 0 23,ex 1 23,d 4 (E (.alloc [.int .u64 0,.int .i64 0])),n (st 2 4 35),d 5 (m 36)] [(4,14),(9,14),(10,14)] [5,4,0]) (s (s (O 37 [m 5,nei 37 0]) (c 38 (r (O 39 [m 5,ca 665 [39],d 2 (m 40)])))) (s (O 41 [m 0,h 2 4,nk 41,f 23 43,n (st 2 44 42)]) (s (s (U 45 [ca 666 [],m 0,nk 46,f 18 47,f 0 48,l 1 49,E (.idxv 8 4 true (T 45) (T 50)),E (.fldv 3 1 false (T 51)),E (.buildS [.nilf] 3 [(0,T 52),(1,.c (.fn 667 [])),(2,.c (.fn 668 []))]),ln 1 53,i 0] [(0,5)] [55,54,53,0]) (bk 0 w658_L0 ⟨true,[],[]⟩)) w658_c0))))))⟩
@[simp] theorem w658_E0:ZL w658_L0 w658_B0 ⟨true,[55,54,53,0],[]⟩:=ck_lp rfl
def w110:WFn:=⟨4,[.cell 8 1 true,.tmp 9],zd (s (R 4 [bx 0,bx 1,bx 2,bx 3,E (.alloc [.ro 6 [] true]),i 0] ⟨true,[8,7,6,5,4],[(4,65536),(5,65536),(6,65536),(7,65536)]⟩) (r (V 10 [h 2 4,h 1 5,l 1 6,l 1 7,f 0 5,l 1 14,ln 1 15,ca 219 [12,13,16],E (.mkfn 222 [T 5,T 6,T 7]),E (.build [.bool false,.int .i64 0,.ro 4 [] true,.nilf,.nilf] [(0,1,T 17),(4,1,T 18)]),ca 216 [10,11,19],ex 0 20,ex 1 20,n (st 1 8 21),d 9 (m 22)] [(0,7),(1,7)] ⟨false,[],[]⟩)))⟩
def w3002:WFn:=⟨4,[.cell 8 1 true,.tmp 9],zd (s (R 4 [bx 0,bx 1,bx 2,bx 3,E (.alloc [.ro 6 [] true]),i 0] ⟨true,[8,7,6,5,4],[(4,65536),(5,65536),(6,65536),(7,65536)]⟩) (r (V 10 [h 2 4,h 1 5,l 1 6,l 1 7,f 0 5,l 1 14,ln 1 15,ca 219 [12,13,16],E (.mkfn 222 [T 5,T 6,T 7]),E (.build [.bool false,.int .i64 0,.ro 4 [] true,.nilf,.nilf] [(0,1,T 17),(4,1,T 18)]),ca 3003 [10,11,19],ex 0 20,ex 1 20,n (st 1 8 21),d 9 (m 22)] [(0,7),(1,7)] ⟨false,[],[]⟩)))⟩
def w659:WFn:=⟨1,[.cell 2 2 true],zd (s (O 1 [bx 0,E (.alloc [.ro 9 [] true,.int .i64 0])]) (r (O 3 [f 1 1,f 3 3,l 1 4,f 1 1,f 4 6,l 1 7,E (.build [.ro 9 [] true,.int .i64 0] [(0,1,T 5),(1,1,T 8)]),n (st 2 2 9)])))⟩
def w134_c0:WCode:=zd (r (O 70 [m 15,m 15,ln 1 71,m 15,ln 1 73,E (.slice 1 (T 70) none (some (T 72)) (some (T 74))),ca 274 [75],d 10 (m 76),d 11 (i 0)]))
def w134_B0:WCode:=zd (s (s (O 60 [m 17,f 1 13,l 1 61,lt 60 62]) (cc 63 (w .skip) (ee 0))) (s (B 1 (O 66 [m 15,m 17,E (.buildS [.int .i64 0] 1 [(0,T 67)]),E (.app [.int .i64 0] 8 false (T 66) (T 68)),d 15 (m 69)])) (O 64 [m 17,adi 64 1,d 17 (m 65)])))
def w134_L0:WCode:=.loop ⟨true,[17,15,13],[]⟩ w134_B0
def w134:WFn:=⟨5,[.tmp 10,.tmp 11],zd (s (O 10 [d 5 (bx 0),d 6 (bx 1),E (.mv (.c (.ro 1 [] true))),i 0]) (s (s (Q 18 [h 2 5,h 1 6,ca 223 [18,19],d 12 (m 20)] [12,6,5,4,3,2]) (s (O 21 [m 12,nei 21 0]) (c 22 (r (O 10 [d 23 (m 12),E (.mv (.c (.ro 1 [] true))),m 23]))))) (s (O 25 [h 1 6,m 2,m 3,m 4,ca 132 [25,26,27,28],d 24 (m 29),ex 0 24,ex 1 24,d 13 (E (.alloc [.int .i64 0,.int .i64 0])),n (st 2 13 30),d 14 (m 31)]) (s (s (O 32 [m 14,nei 32 0]) (c 33 (r (O 10 [d 34 (m 14),E (.mv (.c (.ro 1 [] true))),m 34])))) (s (Q 35 [f 1 13,l 1 35,f 0 13,l 1 37,sb 36 38,adi 39 1,E (.mksl [.int .i64 0] 8 (N 0) (T 40)),d 15 (m 41)] [15,13,6,5,2]) (s (s (O 42 [h 2 5,h 1 6,m 2,ca 273 [42,43,44],d 16 (m 45)]) (s (O 46 [m 16,gei 46 0,m 47,y 48 (m 16),y 48 (f 0 13),y 48 (l 1 50),y 48 (lt 49 51),pa 48 52]) (c 53 (O 54 [m 15,m 16,E (.buildS [.int .i64 0] 1 [(0,T 55)]),E (.app [.int .i64 0] 8 false (T 54) (T 56)),d 15 (m 57)])))) (s (s (Q 58 [f 0 13,l 1 58,d 17 (m 59)] [17,15,13]) (bk 0 w134_L0 ⟨true,[15],[]⟩)) w134_c0)))))))⟩
@[simp] theorem w134_E0:ZL w134_L0 w134_B0 ⟨true,[17,15,13],[]⟩:=ck_lp rfl
def w2004_c0:WCode:=zd (r (O 70 [m 15,m 15,ln 1 71,m 15,ln 1 73,E (.slice 1 (T 70) none (some (T 72)) (some (T 74))),ca 2005 [75],d 10 (m 76),d 11 (i 0)]))
def w2004_B0:WCode:=zd (s (s (O 60 [m 17,f 1 13,l 1 61,lt 60 62]) (cc 63 (w .skip) (ee 0))) (s (B 1 (O 66 [m 15,m 17,E (.buildS [.int .i64 0] 1 [(0,T 67)]),E (.app [.int .i64 0] 8 false (T 66) (T 68)),d 15 (m 69)])) (O 64 [m 17,adi 64 1,d 17 (m 65)])))
def w2004_L0:WCode:=.loop ⟨true,[17,15,13],[]⟩ w2004_B0
def w2004:WFn:=⟨5,[.tmp 10,.tmp 11],zd (s (O 10 [d 5 (bx 0),d 6 (bx 1),E (.mv (.c (.ro 1 [] true))),i 0]) (s (s (Q 18 [h 2 5,h 1 6,ca 223 [18,19],d 12 (m 20)] [12,6,5,4,3,2]) (s (O 21 [m 12,nei 21 0]) (c 22 (r (O 10 [d 23 (m 12),E (.mv (.c (.ro 1 [] true))),m 23]))))) (s (O 25 [h 1 6,m 2,m 3,m 4,ca 132 [25,26,27,28],d 24 (m 29),ex 0 24,ex 1 24,d 13 (E (.alloc [.int .i64 0,.int .i64 0])),n (st 2 13 30),d 14 (m 31)]) (s (s (O 32 [m 14,nei 32 0]) (c 33 (r (O 10 [d 34 (m 14),E (.mv (.c (.ro 1 [] true))),m 34])))) (s (Q 35 [f 1 13,l 1 35,f 0 13,l 1 37,sb 36 38,adi 39 1,E (.mksl [.int .i64 0] 8 (N 0) (T 40)),d 15 (m 41)] [15,13,6,5,2]) (s (s (O 42 [h 2 5,h 1 6,m 2,ca 273 [42,43,44],d 16 (m 45)]) (s (O 46 [m 16,gei 46 0,m 47,y 48 (m 16),y 48 (f 0 13),y 48 (l 1 50),y 48 (lt 49 51),pa 48 52]) (c 53 (O 54 [m 15,m 16,E (.buildS [.int .i64 0] 1 [(0,T 55)]),E (.app [.int .i64 0] 8 false (T 54) (T 56)),d 15 (m 57)])))) (s (s (Q 58 [f 0 13,l 1 58,d 17 (m 59)] [17,15,13]) (bk 0 w2004_L0 ⟨true,[15],[]⟩)) w2004_c0)))))))⟩
@[simp] theorem w2004_E0:ZL w2004_L0 w2004_B0 ⟨true,[17,15,13],[]⟩:=ck_lp rfl
def w260:WFn:=⟨2,[.tmp 4],zd (s (O 2 [bx 0,bx 1,i 0]) (s (s (Q 5 [f 0 2,l 1 5,f 0 3,l 1 7,ne 6 8,m 9,z 10 (f 1 2),z 10 (l 1 11),z 10 (f 1 3),z 10 (l 1 13),z 10 (ne 12 14),po 10 15,m 16,z 17 (f 2 2),z 17 (l 1 18),z 17 (f 2 3),z 17 (l 1 20),z 17 (ne 19 21),po 17 22] [23,3,2]) (c 23 (r (O 4 [i 0])))) (r (O 24 [f 3 2,h 6 24,f 3 3,h 6 26,ca 415 [25,27],d 4 (m 28)]))))⟩
def w125_c0:WCode:=zd (s (O 90 [f 1 14,l 1 90,ca 265 [91],ca 264 [92],f 1 14,n (st 1 94 93)]) (r (O 95 [h 12 14,n (st 12 8 95),d 9 (i 0)])))
def w125_B0:WCode:=zd (s (O 69 [lt 68 67]) (s (cc 69 (w .skip) (ee 0)) (s (B 1 (s (O 70 [m 68,ix 9 66 68,h 9 71,d 18 (E (.alloc [.int .u64 0,.int .i64 0,.int .i64 0,.int .u8 0,.str [],.str [],.ro 2 [] true,.str [],.ro 6 [] true])),d 17 (m 70),n (st 9 18 72)]) (s (O 73 [m 11,m 17,ad 73 74,m 15,ne 75 76]) (c 77 (s (Q 78 [f 1 18,l 1 78,m 2,sb 79 80,f 1 18,n (st 1 82 81)] [68,67,66,18,15,14,11,8,2]) (O 83 [f 1 14,l 1 83,h 9 18,E (.buildS [.int .u64 0,.int .i64 0,.int .i64 0,.int .u8 0,.str [],.str [],.ro 2 [] true,.str [],.ro 6 [] true] 1 [(0,T 85)]),E (.app [.int .u64 0,.int .i64 0,.int .i64 0,.int .u8 0,.str [],.str [],.ro 2 [] true,.str [],.ro 6 [] true] 128 false (T 84) (T 86)),f 1 14,n (st 1 88 87)])))))) (O 89 [adi 68 1,d 68 (m 89)]))))
def w125_L0:WCode:=.loop ⟨true,[68,67,66,15,14,11,8,2],[]⟩ w125_B0
def w125:WFn:=⟨4,[.cell 8 12 true,.tmp 9],zd (s (O 8 [d 4 (bx 0),d 5 (bx 1),E (.alloc [.int .i64 0,.ro 9 [] true,.bool false,.int .u64 0,.int .i64 0,.int .i64 0,.int .u8 0,.str [],.str [],.ro 2 [] true,.str [],.ro 6 [] true]),i 0]) (s (s (O 19 [h 2 4,h 1 5,ca 223 [19,20],d 10 (m 21)]) (s (O 22 [m 10,nei 22 0]) (c 23 (r (O 24 [E (.build [.int .i64 0,.ro 9 [] true,.bool false,.int .u64 0,.int .i64 0,.int .i64 0,.int .u8 0,.str [],.str [],.ro 2 [] true,.str [],.ro 6 [] true] []),m 10,n (st 12 8 24),d 9 (m 25)]))))) (s (Q 27 [h 1 5,m 2,m 3,ca 121 [27,28,29],d 26 (m 30),ex 0 26,ex 1 26,ex 2 26,d 11 (m 31),d 12 (m 32),d 13 (m 33)] [13,12,11,8,5,4,2]) (s (s (O 34 [m 13,nei 34 0]) (c 35 (r (O 36 [E (.build [.int .i64 0,.ro 9 [] true,.bool false,.int .u64 0,.int .i64 0,.int .i64 0,.int .u8 0,.str [],.str [],.ro 2 [] true,.str [],.ro 6 [] true] []),m 13,n (st 12 8 36),d 9 (m 37)])))) (s (O 38 [m 2,E (.build [.int .i64 0,.ro 9 [] true,.bool false,.int .u64 0,.int .i64 0,.int .i64 0,.int .u8 0,.str [],.str [],.ro 2 [] true,.str [],.ro 6 [] true] [(0,1,T 38)]),d 14 (E (.alloc [.int .i64 0,.ro 9 [] true,.bool false,.int .u64 0,.int .i64 0,.int .i64 0,.int .u8 0,.str [],.str [],.ro 2 [] true,.str [],.ro 6 [] true])),n (st 12 14 39)]) (s (O 41 [h 2 4,h 1 5,m 2,ca 262 [41,42,43],d 40 (m 44),ex 0 40,ex 1 40,d 15 (m 45),d 16 (m 46)]) (s (s (O 47 [m 15,gei 47 0]) (c 48 (s (O 49 [f 2 14,n (E (.store 1 (T 49) (.c (.bool true))))]) (s (Q 50 [h 2 4,h 1 5,m 15,m 15,adi 53 1,ca 263 [50,51,52,54],E (.idxs 9 (T 55) (N 0)),h 9 56,f 3 14,n (st 9 58 57)] [16,15,14,12,11,8,5,4,2]) (O 59 [m 16,f 3 14,f 1 60,n (st 1 61 59)]))))) (s (s (O 62 [h 2 4,h 1 5,m 11,m 12,ca 263 [62,63,64,65],ln 1 66,i 0]) (bk 0 w125_L0 ⟨true,[14,8],[]⟩)) w125_c0))))))))⟩
@[simp] theorem w125_E0:ZL w125_L0 w125_B0 ⟨true,[68,67,66,15,14,11,8,2],[]⟩:=ck_lp rfl
def w437_c0:WCode:=zd (r (O 4 [i 1]))
def w437_B0:WCode:=zd (s (s (O 11 [m 5,m 0,ln 1 12,lt 11 13]) (cc 14 (w .skip) (ee 0))) (s (B 1 (s (U 17 [m 0,m 5,ix 8 17 18,f 0 19,l 1 20,m 1,m 5,ix 8 22 23,f 0 24,l 1 25,ne 21 26,m 27,z 28 (m 0),z 28 (m 5),z 28 (ix 8 29 30),z 28 (f 1 31),z 28 (l 1 32),z 28 (m 1),z 28 (m 5),z 28 (ix 8 34 35),z 28 (f 1 36),z 28 (l 1 37),z 28 (ne 33 38),po 28 39,m 40,z 41 (m 0),z 41 (m 5),z 41 (ix 8 42 43),z 41 (f 2 44),z 41 (h 6 45),z 41 (m 1),z 41 (m 5),z 41 (ix 8 47 48),z 41 (f 2 49),z 41 (h 6 50),z 41 (ca 415 [46,51]),z 41 (eqi 52 0),po 41 53] [] [54,5,1,0]) (c 54 (r (O 4 [i 0]))))) (O 15 [m 5,adi 15 1,d 5 (m 16)])))
def w437_L0:WCode:=.loop ⟨true,[5,1,0],[]⟩ w437_B0
def w437:WFn:=⟨2,[.tmp 4],zd (s (O 4 [i 0]) (s (s (O 6 [m 0,ln 1 6,m 1,ln 1 8,ne 7 9]) (c 10 (r (O 4 [i 0])))) (s (s (O 5 [i 0]) (bk 0 w437_L0 ⟨true,[],[]⟩)) w437_c0)))⟩
@[simp] theorem w437_E0:ZL w437_L0 w437_B0 ⟨true,[5,1,0],[]⟩:=ck_lp rfl
def w290_c0:WCode:=zd (r (O 56 [h 2 10,m 11,n (st 2 6 56),d 7 (m 57),d 8 (i 0)]))
def w290_B0:WCode:=zd (s (O 35 [lt 34 33]) (s (cc 35 (w .skip) (ee 0)) (s (B 1 (s (O 36 [m 34,ix 1 32 34,l 1 37,d 12 (m 36),d 13 (m 38)]) (s (Q 39 [m 13,ln 1 39,m 2,sb 40 41,E (.mx (N 0) (T 42)),d 14 (m 43)] [34,33,32,14,13,12,11,10,6,2]) (s (V 44 [f 1 10,l 1 44,m 12,m 13,m 14,E (.slice 8 (T 47) (some (T 48)) none none),ca 432 [49],ix 1 45 46,n (st 1 51 50)] [(1,6)] ⟨false,[],[]⟩) (O 52 [m 11,m 14,ad 52 53,d 11 (m 54)]))))) (O 55 [adi 34 1,d 34 (m 55)]))))
def w290_L0:WCode:=.loop ⟨true,[34,33,32,11,10,6,2],[]⟩ w290_B0
def w290:WFn:=⟨3,[.cell 6 2 true,.tmp 7,.tmp 8],zd (s (O 6 [d 3 (bx 0),d 4 (bx 1),E (.alloc [.ro 8 [] true,.ro 1 [] true]),i 0,i 0]) (s (s (O 15 [h 7 3,h 2 4,ca 278 [15,16],d 9 (m 17)]) (s (O 18 [m 9,nei 18 0]) (c 19 (r (O 20 [E (.build [.ro 8 [] true,.ro 1 [] true] []),m 9,n (st 2 6 20),d 7 (i 0),d 8 (m 21)]))))) (s (s (Q 22 [m 2,lti 22 0,m 23,z 24 (m 2),z 24 (gti 25 16),po 24 26] [27,6,4,2]) (c 27 (r (O 7 [d 28 (E (.build [.ro 8 [] true,.ro 1 [] true] [])),n (st 2 6 28),i 0,i 4])))) (s (O 29 [h 2 4,ca 3008 [29],d 10 (E (.alloc [.ro 8 [] true,.ro 1 [] true])),n (st 2 10 30),d 11 (i 0)]) (s (s (O 31 [f 1 10,l 1 31,ln 1 32,i 0]) (bk 0 w290_L0 ⟨true,[11,10,6],[]⟩)) w290_c0)))))⟩
@[simp] theorem w290_E0:ZL w290_L0 w290_B0 ⟨true,[34,33,32,11,10,6,2],[]⟩:=ck_lp rfl
def w660:WFn:=⟨1,[.tmp 2],zd (s (O 2 [E (.mv (.c (.ro 9 [] true)))]) (r (O 3 [m 0,m 0,ln 1 4,m 0,ln 1 6,E (.slice 9 (T 3) none (some (T 5)) (some (T 7))),d 2 (m 8)])))⟩
def w661:WFn:=⟨1,[.tmp 2],zd (w (.cln [.int .u8 0,.str [],.str [],.ro 3 [] true,.str [],.ro 6 [] true,.int .i64 0,.bool false,.int .i64 0] 9 128))⟩
def w662_c0:WCode:=zd (r (O 31 [h 6 1,n (st 6 2 31)]))
def w662_B0:WCode:=zd (s (O 18 [lt 17 16]) (s (cc 18 (w .skip) (ee 0)) (s (B 1 (s (O 19 [m 17,d 3 (m 19)]) (V 20 [f 5 1,l 1 20,m 3,f 5 1,l 1 23,m 3,ix 6 24 25,h 6 26,ca 662 [27],ix 6 21 22,n (st 6 29 28)] [(1,8)] ⟨false,[],[]⟩))) (O 30 [adi 17 1,d 17 (m 30)]))))
def w662_L0:WCode:=.loop ⟨true,[17,16,2,1],[]⟩ w662_B0
def w662:WFn:=⟨1,[.cell 2 6 true],zd (s (O 1 [bx 0,E (.alloc [.int .u8 0,.str [],.str [],.ro 3 [] true,.str [],.ro 6 [] true])]) (s (O 4 [f 3 1,l 1 4,ca 670 [5],ca 669 [6],f 3 1,n (st 1 8 7)]) (s (Q 9 [f 5 1,l 1 9,ca 3672 [10],ca 2671 [11],f 5 1,n (st 1 13 12)] [2,1]) (s (s (O 14 [f 5 1,l 1 14,ln 1 15,i 0]) (bk 0 w662_L0 ⟨true,[2,1],[]⟩)) w662_c0))))⟩
@[simp] theorem w662_E0:ZL w662_L0 w662_B0 ⟨true,[17,16,2,1],[]⟩:=ck_lp rfl
def w427:WFn:=⟨1,[.tmp 2],zd (s (O 1 [bx 0,ff]) (r (O 3 [f 8 1,l 1 3,lti 4 0,m 5,z 6 (f 8 1),z 6 (l 1 7),z 6 (gti 8 16),po 6 9,d 2 (m 10)])))⟩
def w115:WFn:=⟨1,[.tmp 2],zd (s (O 1 [bx 0,i 0]) (s (O 3 [E (.mv (.c (.fn 230 [])))]) (s (s (Q 4 [f 0 1,l 1 4,ln 1 5,lti 6 1,m 7,z 8 (f 0 1),z 8 (l 1 9),z 8 (ln 1 10),z 8 (gti 11 8),po 8 12,m 13,z 14 (f 1 1),z 14 (l 1 15),z 14 (lti 16 1),po 14 17,m 18,z 19 (f 1 1),z 19 (l 1 20),z 19 (gti 21 64),po 19 22,m 23,z 24 (f 0 1),z 24 (l 1 25),z 24 (m 3),z 24 (ca 232 [26,27]),po 24 28] [29]) (c 29 (r (O 2 [i 7])))) (r (O 2 [i 0])))))⟩
def w279:WFn:=⟨1,[.cell 2 2 true],zd (s (O 1 [bx 0,E (.alloc [.ro 9 [] true,.int .i64 0])]) (r (O 3 [f 3 1,l 1 3,f 4 1,l 1 5,E (.build [.ro 9 [] true,.int .i64 0] [(0,1,T 4),(1,1,T 6)]),n (st 2 2 7)])))⟩
def w405_c0:WCode:=zd (r (O 4 [i (-1)]))
def w405_B0:WCode:=zd (s (O 9 [lt 8 7]) (s (cc 9 (w .skip) (ee 0)) (s (B 1 (s (O 10 [m 8,d 5 (m 10)]) (s (O 11 [m 1,m 0,m 5,ix 9 12 13,h 9 14,E (.callv (T 11) [T 15])]) (c 16 (r (O 17 [m 5,d 4 (m 17)])))))) (O 18 [adi 8 1,d 8 (m 18)]))))
def w405_L0:WCode:=.loop ⟨true,[8,7,1,0],[]⟩ w405_B0
def w405:WFn:=⟨2,[.tmp 4],zd (s (O 4 [i 0]) (s (s (O 6 [m 0,ln 1 6,i 0]) (bk 0 w405_L0 ⟨true,[],[]⟩)) w405_c0))⟩
@[simp] theorem w405_E0:ZL w405_L0 w405_B0 ⟨true,[8,7,1,0],[]⟩:=ck_lp rfl
def w664:WFn:=⟨2,[.tmp 4],zd (s (Q 2 [bx 0,bx 1,i 0] [3,2]) (s (s (O 9 [h 7 2,ca 637 [9],d 5 (m 10)]) (s (O 11 [m 5,nei 11 0]) (c 12 (r (O 13 [m 5,d 4 (m 13)]))))) (s (s (O 14 [f 0 3,l 1 14,E (.bin .lss (T 15) (.c (.int .u8 1))),m 16,z 17 (f 0 3),z 17 (l 1 18),z 17 (E (.bin .gtr (T 19) (.c (.int .u8 7)))),po 17 20]) (c 21 (r (O 4 [i 1])))) (s (V 22 [ca 666 [],f 0 3,l 1 23,E (.idxv 8 4 true (T 22) (T 24)),d 6 (E (.alloc [.bool false,.bool false,.bool false,.nilf])),n (st 4 6 25)] [(0,2),(0,4),(2,4)] ⟨false,[],[]⟩) (s (s (Q 26 [f 0 6,l 1 26,nt 27,m 28,y 29 (f 1 3),y 29 (l 1 30),y 29 (nei 31 0),pa 29 32,m 33,z 34 (f 1 6),z 34 (l 1 35),z 34 (nt 36),z 34 (m 37),y 38 (f 2 3),y 38 (l 1 39),y 38 (E (.bin .neq (T 40) (.c (.int .u64 0)))),z 34 (pa 38 41),po 34 42,m 43,z 44 (f 2 6),z 44 (l 1 45),z 44 (nt 46),z 44 (m 47),y 48 (f 3 3),y 48 (l 1 49),y 48 (ln 1 50),y 48 (gti 51 0),z 44 (pa 48 52),po 44 53] [54,3,2]) (c 54 (r (O 4 [i 5])))) (s (s (O 55 [f 3 3,l 1 55,ln 1 56,gti 57 32]) (c 58 (r (O 4 [i 3])))) (s (s (O 60 [f 4 3,l 1 60,f 2 2,l 1 62,ca 201 [61,63],d 59 (m 64),ex 0 59,ex 1 59,d 7 (m 65),d 8 (m 66)]) (s (O 67 [m 8,nei 67 0]) (c 68 (r (O 69 [m 8,d 4 (m 69)]))))) (s (s (Q 70 [f 0 3,l 1 70,E (.bin .eql (T 71) (.c (.int .u8 4))),m 72,y 73 (f 1 3),y 73 (l 1 74),y 73 (lti 75 1),y 73 (m 76),z 77 (f 1 3),z 77 (l 1 78),z 77 (gti 79 2147483648),y 73 (po 77 80),pa 73 81,m 82,z 83 (f 0 3),z 83 (l 1 84),z 83 (E (.bin .eql (T 85) (.c (.int .u8 7)))),z 83 (m 86),y 87 (f 1 3),y 87 (l 1 88),y 87 (lti 89 0),y 87 (m 90),z 91 (f 1 3),z 91 (l 1 92),z 91 (gti 93 16),y 87 (po 91 94),z 83 (pa 87 95),po 83 96] [97]) (c 97 (r (O 4 [i 4])))) (r (O 4 [i 0]))))))))))⟩
def w665:WFn:=⟨1,[.tmp 2],zd (s (O 2 [E (.mv (.c (.fn 1000000 [])))]) (s (s (O 3 [m 0,nei 3 0]) (c 4 (r (O 5 [m 0,E (.build [.int .i64 0] [(0,1,T 5)]),E (.mkfn 1000111 [T 6]),d 2 (m 7)])))) (r (O 2 [E (.mv (.c (.fn 1000000 [])))]))))⟩
def w160:WFn:=⟨2,[.cell 4 2 true,.tmp 5],zd (s (O 4 [d 2 (bx 0),E (.alloc [.int .u64 0,.int .i64 0]),i 0]) (s (O 10 [h 1 2,ca 246 [10],d 9 (m 11),ex 0 9,ex 1 9,d 6 (m 12),d 7 (m 13)]) (s (s (O 14 [m 7,nei 14 0]) (c 15 (r (Q 16 [E (.build [.int .u64 0,.int .i64 0] []),m 7,n (st 2 4 16),d 5 (m 17)] [5,4])))) (s (s (O 18 [m 1,lti 18 0,m 19,z 20 (m 1),z 20 (h 1 2),z 20 (ca 111 [22]),z 20 (sbi 23 1),z 20 (E (.mx (N 0) (T 24))),z 20 (gt 21 25),po 20 26]) (c 27 (r (O 28 [E (.build [.int .u64 0,.int .i64 0] []),n (st 2 4 28),d 5 (i 4)])))) (s (s (O 29 [f 0 2,l 1 29,ln 1 30,eqi 31 0]) (c 32 (r (O 33 [E (.build [.int .u64 0,.int .i64 0] []),n (st 2 4 33),d 5 (i 0)])))) (s (Q 35 [h 1 2,m 1,ca 120 [35,36],d 34 (m 37),ex 0 34,ex 1 34,d 8 (m 38),d 7 (m 39)] [8,7,6,4,2,1]) (r (V 40 [f 0 2,l 1 40,m 8,ix 6 41 42,f 0 43,f 0 44,l 1 45,m 1,m 6,m 8,ix 1 48 49,l 1 50,sb 47 51,E (.build [.int .u64 0,.int .i64 0] [(0,1,T 46),(1,1,T 52)]),m 7,n (st 2 4 53),d 5 (m 54)] [] ⟨false,[],[]⟩))))))))⟩
def w666:WFn:=⟨0,[.cell 0 32 true],zd (s (O 0 [E (.alloc [.bool false,.bool false,.bool false,.nilf,.bool false,.bool false,.bool false,.nilf,.bool false,.bool false,.bool false,.nilf,.bool false,.bool false,.bool false,.nilf,.bool false,.bool false,.bool false,.nilf,.bool false,.bool false,.bool false,.nilf,.bool false,.bool false,.bool false,.nilf,.bool false,.bool false,.bool false,.nilf])]) (r (O 1 [E (.build [.bool false,.bool false,.bool false,.nilf] [(0,1,.c (.bool true)),(3,1,.c (.fn 673 []))]),E (.build [.bool false,.bool false,.bool false,.nilf] [(0,1,.c (.bool true)),(3,1,.c (.fn 674 []))]),E (.build [.bool false,.bool false,.bool false,.nilf] [(1,1,.c (.bool true)),(3,1,.c (.fn 675 []))]),E (.build [.bool false,.bool false,.bool false,.nilf] [(0,1,.c (.bool true)),(3,1,.c (.fn 676 []))]),E (.build [.bool false,.bool false,.bool false,.nilf] [(2,1,.c (.bool true)),(3,1,.c (.fn 677 []))]),E (.build [.bool false,.bool false,.bool false,.nilf] [(3,1,.c (.fn 678 []))]),E (.build [.bool false,.bool false,.bool false,.nilf] [(0,1,.c (.bool true)),(3,1,.c (.fn 679 []))]),E (.build [.bool false,.bool false,.bool false,.nilf,.bool false,.bool false,.bool false,.nilf,.bool false,.bool false,.bool false,.nilf,.bool false,.bool false,.bool false,.nilf,.bool false,.bool false,.bool false,.nilf,.bool false,.bool false,.bool false,.nilf,.bool false,.bool false,.bool false,.nilf,.bool false,.bool false,.bool false,.nilf] [(4,4,T 1),(8,4,T 2),(12,4,T 3),(16,4,T 4),(20,4,T 5),(24,4,T 6),(28,4,T 7)]),n (st 32 0 8)])))⟩
def w667:WFn:=⟨1,[.tmp 2],zd (s (O 2 [E (.mv (.c (.fn 1000000 [])))]) (s (U 6 [m 0,nk 6,f 0 7,h 18 8,ca 659 [9],m 0,nk 11,f 0 12,f 9 13,l 1 14,m 0,nk 16,f 0 17,f 1 18,f 1 19,l 1 20,m 0,nk 22,f 0 23,f 1 24,f 2 25,l 1 26,E (.build [.ro 9 [] true,.int .i64 0,.int .i64 0,.int .i64 0,.int .i64 0] [(0,2,T 10),(2,1,T 15),(3,1,T 21),(4,1,T 27)]),d 3 (E (.alloc [.ro 9 [] true,.int .i64 0,.int .i64 0,.int .i64 0,.int .i64 0])),n (st 5 3 28)] [(4,9),(4,15),(4,21),(3,23),(4,23),(9,23),(15,23),(21,23)] [3,0]) (s (V 30 [h 5 3,m 0,nk 31,f 0 32,f 8 33,h 1 34,m 0,nk 36,f 23 37,h 2 38,m 0,nk 40,f 18 41,f 4 42,l 1 43,ca 174 [30,35,39,44],d 29 (m 45),ex 0 29,ex 1 29,d 4 (E (.alloc [.ro 6 [] true,.int .i64 0,.int .i64 0])),n (st 3 4 46),d 5 (m 47)] [(0,19),(5,19),(9,19),(14,19),(15,19)] ⟨false,[],[]⟩) (s (U 48 [m 0,m 0,m 0,f 0 4,h 1 51,f 1 4,l 1 53,f 2 4,l 1 55,nk 48,f 0 57,f 8 58,n (st 1 59 52),nk 49,f 0 60,f 10 61,n (st 1 62 54),nk 50,f 0 63,f 13 64,n (st 1 65 56)] [(6,12),(8,12),(8,16)] [5]) (r (O 66 [m 5,ca 665 [66],d 2 (m 67)]))))))⟩
def w668:WFn:=⟨1,[.tmp 2],zd (s (O 2 [E (.mv (.c (.fn 1000000 [])))]) (s (U 7 [m 0,nk 7,f 0 8,f 1 9,h 7 10,m 0,nk 12,f 0 13,f 11 14,h 2 15,m 0,nk 17,f 0 18,f 8 19,h 1 20,m 0,nk 22,f 0 23,h 18 24,ca 647 [25],ca 139 [11,16,21,26],d 6 (m 27),ex 0 6,ex 1 6,ex 2 6,d 3 (E (.alloc [.ro 8 [] true,.ro 1 [] true])),d 4 (E (.alloc [.int .i64 0,.int .i64 0,.int .i64 0,.int .i64 0])),n (st 2 3 28),n (st 4 4 29),d 5 (m 30)] [(4,19),(9,19),(14,19),(4,25),(9,25),(14,25),(18,25),(19,25),(20,25),(4,26),(9,26),(14,26),(18,26),(19,26),(20,26),(25,26)] [5,4,3,0]) (s (U 31 [f 2 4,l 1 31,m 0,nk 33,f 25 34,l 1 35,ad 32 36,f 2 4,n (st 1 38 37)] [] [5,4,3,0]) (s (V 39 [m 0,m 0,h 2 3,h 4 4,nk 39,f 0 43,f 11 44,n (st 2 45 41),nk 40,f 0 46,f 14 47,n (st 4 48 42)] [(3,7)] ⟨false,[],[]⟩) (r (O 49 [m 5,ca 665 [49],d 2 (m 50)]))))))⟩
def w216_c0:WCode:=zd (s (V 64 [f 4 5,l 1 64,h 2 3,f 2 5,l 1 67,ca 400 [66,68],E (.callv (T 65) [T 69]),ca 226 [70],d 12 (E (.alloc [.ro 6 [] true])),n (st 1 12 71)] [(1,5),(1,8),(2,8),(4,8),(5,8),(6,8),(7,8)] ⟨false,[],[]⟩) (s (s (O 72 [h 1 12,ca 227 [72],d 13 (m 73)]) (s (O 74 [m 13,nei 74 0]) (c 75 (r (O 76 [E (.build [.ro 6 [] true] []),m 13,n (st 1 6 76),d 7 (m 77)]))))) (r (O 78 [h 1 12,n (st 1 6 78),d 7 (i 0)]))))
def w216_B0:WCode:=zd (s (O 35 [lt 34 33]) (s (cc 35 (w .skip) (ee 1)) (s (B 2 (s (O 36 [m 34,ix 4 32 34,h 4 37,d 10 (E (.alloc [.int .u64 0,.int .u8 0,.str [],.ro 1 [] true])),d 9 (m 36),n (st 4 10 38)]) (s (Q 39 [h 4 10,f 0 3,l 1 40,ln 1 41,ca 398 [39,42],d 11 (m 43)] [34,33,32,11,10,9,6,5,3]) (s (s (O 44 [m 11,eqi 44 0]) (c 45 (O 46 [f 3 5,l 1 46,m 9,h 4 10,E (.callv (T 47) [T 48,T 49]),d 11 (m 50)]))) (s (s (O 51 [m 11,eqi 51 0]) (c 52 (O 54 [h 2 3,h 4 10,ca 399 [54,55],d 53 (m 56),ex 0 53,ex 1 53,d 11 (m 58)]))) (s (O 59 [m 11,nei 59 0]) (c 60 (r (O 61 [E (.build [.ro 6 [] true] []),m 11,n (st 1 6 61),d 7 (m 62)]))))))))) (Q 63 [adi 34 1,d 34 (m 63)] [34,33,32,6,5,3]))))
def w216_L0:WCode:=.loop ⟨true,[34,33,32,6,5,3],[]⟩ w216_B0
def w216:WFn:=⟨3,[.cell 6 1 true,.tmp 7],zd (s (O 3 [bx 0,bx 1,bx 2,E (.alloc [.ro 6 [] true]),i 0]) (s (s (O 14 [h 2 3,h 1 4,ca 223 [14,15],d 8 (m 16)]) (s (O 17 [m 8,nei 17 0]) (c 18 (r (O 19 [E (.build [.ro 6 [] true] []),m 8,n (st 1 6 19),d 7 (m 20)]))))) (s (B 0 (s (Q 22 [f 0 5,l 1 22,nt 23,d 21 (m 24)] [21,6,5,3]) (cc 21 (r (O 25 [E (.build [.ro 6 [] true] []),n (st 1 6 25),d 7 (i 4)])) (s (O 27 [f 1 5,l 1 27,gti 28 1024,d 26 (m 29)]) (c 26 (r (O 30 [E (.build [.ro 6 [] true] []),n (st 1 6 30),d 7 (i 3)]))))))) (s (s (O 31 [f 2 5,l 1 31,ln 1 32,i 0]) (bk 1 w216_L0 ⟨true,[6,5,3],[]⟩)) w216_c0))))⟩
@[simp] theorem w216_E0:ZL w216_L0 w216_B0 ⟨true,[34,33,32,6,5,3],[]⟩:=ck_lp rfl
def w3003_c0:WCode:=zd (s (V 64 [f 4 5,l 1 64,h 2 3,f 2 5,l 1 67,ca 400 [66,68],E (.callv (T 65) [T 69]),ca 3004 [70],d 12 (E (.alloc [.ro 6 [] true])),n (st 1 12 71)] [(1,5),(1,8),(2,8),(4,8),(5,8),(6,8),(7,8)] ⟨false,[],[]⟩) (s (s (O 72 [h 1 12,ca 227 [72],d 13 (m 73)]) (s (O 74 [m 13,nei 74 0]) (c 75 (r (O 76 [E (.build [.ro 6 [] true] []),m 13,n (st 1 6 76),d 7 (m 77)]))))) (r (O 78 [h 1 12,n (st 1 6 78),d 7 (i 0)]))))
def w3003_B0:WCode:=zd (s (O 35 [lt 34 33]) (s (cc 35 (w .skip) (ee 1)) (s (B 2 (s (O 36 [m 34,ix 4 32 34,h 4 37,d 10 (E (.alloc [.int .u64 0,.int .u8 0,.str [],.ro 1 [] true])),d 9 (m 36),n (st 4 10 38)]) (s (Q 39 [h 4 10,f 0 3,l 1 40,ln 1 41,ca 398 [39,42],d 11 (m 43)] [34,33,32,11,10,9,6,5,3]) (s (s (O 44 [m 11,eqi 44 0]) (c 45 (O 46 [f 3 5,l 1 46,m 9,h 4 10,E (.callv (T 47) [T 48,T 49]),d 11 (m 50)]))) (s (s (O 51 [m 11,eqi 51 0]) (c 52 (O 54 [h 2 3,h 4 10,ca 399 [54,55],d 53 (m 56),ex 0 53,ex 1 53,d 11 (m 58)]))) (s (O 59 [m 11,nei 59 0]) (c 60 (r (O 61 [E (.build [.ro 6 [] true] []),m 11,n (st 1 6 61),d 7 (m 62)]))))))))) (Q 63 [adi 34 1,d 34 (m 63)] [34,33,32,6,5,3]))))
def w3003_L0:WCode:=.loop ⟨true,[34,33,32,6,5,3],[]⟩ w3003_B0
def w3003:WFn:=⟨3,[.cell 6 1 true,.tmp 7],zd (s (O 3 [bx 0,bx 1,bx 2,E (.alloc [.ro 6 [] true]),i 0]) (s (s (O 14 [h 2 3,h 1 4,ca 223 [14,15],d 8 (m 16)]) (s (O 17 [m 8,nei 17 0]) (c 18 (r (O 19 [E (.build [.ro 6 [] true] []),m 8,n (st 1 6 19),d 7 (m 20)]))))) (s (B 0 (s (Q 22 [f 0 5,l 1 22,nt 23,d 21 (m 24)] [21,6,5,3]) (cc 21 (r (O 25 [E (.build [.ro 6 [] true] []),n (st 1 6 25),d 7 (i 4)])) (s (O 27 [f 1 5,l 1 27,gti 28 1024,d 26 (m 29)]) (c 26 (r (O 30 [E (.build [.ro 6 [] true] []),n (st 1 6 30),d 7 (i 3)]))))))) (s (s (O 31 [f 2 5,l 1 31,ln 1 32,i 0]) (bk 1 w3003_L0 ⟨true,[6,5,3],[]⟩)) w3003_c0))))⟩
@[simp] theorem w3003_E0:ZL w3003_L0 w3003_B0 ⟨true,[34,33,32,6,5,3],[]⟩:=ck_lp rfl
def w219:WFn:=⟨3,[.tmp 6],zd (s (O 6 [ff]) (r (O 7 [m 0,gei 7 0,m 8,y 9 (m 0),y 9 (m 2),y 9 (le 10 11),pa 9 12,m 13,y 14 (m 1),y 14 (gei 15 0),pa 14 16,m 17,y 18 (m 1),y 18 (m 2),y 18 (m 0),y 18 (sb 20 21),y 18 (le 19 22),pa 18 23,d 6 (m 24)])))⟩
def w222:WFn:=⟨4,[.tmp 5],zd (s (O 5 [E (.mv (.c (.ro 6 [] true)))]) (r (O 6 [f 0 1,l 1 6,l 1 2,l 1 3,E (.call 221 [T 7,T 8,T 9,.c (.ro 6 [] true)]),d 5 (m 10)])))⟩
def w221:WFn:=⟨4,[.tmp 8],zd (s (O 8 [E (.mv (.c (.ro 6 [] true)))]) (s (Q 10 [m 0,ln 1 10,m 2,sb 11 12,m 3,ln 1 14,ad 13 15,E (.mksl [.int .u64 0,.int .u8 0,.str [],.ro 1 [] true,.int .i64 0,.bool false] 72 (N 0) (T 16)),d 9 (m 17)] [9,3,2,1,0]) (s (O 18 [m 9,m 0,m 1,E (.slice 6 (T 19) none (some (T 20)) none),E (.app [.int .u64 0,.int .u8 0,.str [],.ro 1 [] true,.int .i64 0,.bool false] 72 false (T 18) (T 21)),d 9 (m 22)]) (s (O 23 [m 9,m 3,E (.app [.int .u64 0,.int .u8 0,.str [],.ro 1 [] true,.int .i64 0,.bool false] 72 false (T 23) (T 24)),d 9 (m 25)]) (r (O 26 [m 9,m 0,m 1,m 2,ad 28 29,E (.slice 6 (T 27) (some (T 30)) none none),E (.app [.int .u64 0,.int .u8 0,.str [],.ro 1 [] true,.int .i64 0,.bool false] 72 false (T 26) (T 31)),d 8 (m 32)]))))))⟩
def w223_c0:WCode:=zd (r (O 79 [h 1 3,ca 227 [79],d 4 (m 80)]))
def w223_B0:WCode:=zd (s (O 26 [lt 25 24]) (s (cc 26 (w .skip) (ee 0)) (s (B 1 (s (O 27 [ix 6 23 25,h 6 27,d 8 (E (.alloc [.int .u64 0,.int .u8 0,.str [],.ro 1 [] true,.int .i64 0,.bool false])),n (st 6 8 28)]) (s (s (O 29 [f 0 8,h 4 29,f 0 2,l 1 31,ln 1 32,ca 398 [30,33],d 9 (m 34)]) (s (O 35 [m 9,nei 35 0]) (c 36 (r (O 37 [m 9,d 4 (m 37)]))))) (s (s (Q 38 [m 6,f 0 8,f 0 39,l 1 40,E (.look 0 (.bool false) false (T 38) (T 41))] [42,25,24,23,8,6,3,2]) (c 42 (r (O 4 [i 8])))) (s (O 43 [m 6,f 0 8,f 0 44,l 1 45,n (E (.upd 0 (T 43) (T 46) (.c (.bool true))))]) (s (s (O 48 [h 2 2,f 0 8,h 4 49,ca 399 [48,50],d 47 (m 51),ex 0 47,ex 1 47,d 10 (E (.alloc [.int .u8 0,.str [],.str [],.ro 2 [] true,.str [],.ro 6 [] true])),n (st 6 10 52),d 11 (m 53)]) (s (O 54 [m 11,nei 54 0]) (c 55 (r (O 4 [i 14]))))) (s (U 56 [f 4 8,l 1 56,ca 225 [57],nt 58,m 59,z 60 (f 5 8),z 60 (l 1 61),z 60 (nt 62),z 60 (m 63),y 64 (f 4 8),y 64 (l 1 65),y 64 (f 0 2),y 64 (l 1 67),y 64 (f 0 8),y 64 (f 1 69),y 64 (l 1 70),y 64 (ix 9 68 71),y 64 (f 6 72),y 64 (l 1 73),y 64 (ne 66 74),z 60 (pa 64 75),po 60 76] [] [77,25,24,23,6,3,2]) (c 77 (r (O 4 [i 12])))))))))) (O 78 [adi 25 1,d 25 (m 78)]))))
def w223_L0:WCode:=.loop ⟨true,[25,24,23,6,3,2],[]⟩ w223_B0
def w223:WFn:=⟨2,[.tmp 4],zd (s (O 2 [bx 0,bx 1,i 0]) (s (s (O 12 [h 2 2,ca 115 [12],d 5 (m 13)]) (s (O 14 [m 5,nei 14 0]) (c 15 (r (O 16 [m 5,d 4 (m 16)]))))) (s (s (Q 17 [f 0 3,l 1 17,ln 1 18,gti 19 1024] [20,3,2]) (c 20 (r (O 4 [i 3])))) (s (O 21 [E .mkmap,d 6 (m 21)]) (s (s (O 22 [f 0 3,l 1 22,ln 1 23,i 0]) (bk 0 w223_L0 ⟨true,[3],[]⟩)) w223_c0)))))⟩
@[simp] theorem w223_E0:ZL w223_L0 w223_B0 ⟨true,[25,24,23,6,3,2],[]⟩:=ck_lp rfl
def w132:WFn:=⟨4,[.cell 8 2 true,.tmp 9],zd (s (O 8 [d 4 (bx 0),E (.alloc [.int .i64 0,.int .i64 0]),i 0]) (s (Q 15 [h 1 4,m 1,m 2,ca 121 [15,16,17],d 14 (m 18),ex 0 14,ex 1 14,ex 2 14,d 10 (m 19),d 11 (m 20),d 12 (m 21)] [12,11,10,8,4,3]) (s (B 0 (s (O 23 [m 12,nei 23 0,d 22 (m 24)]) (cc 22 (r (O 25 [E (.build [.int .i64 0,.int .i64 0] []),m 12,n (st 2 8 25),d 9 (m 26)])) (s (O 28 [m 3,lti 28 0,m 29,z 30 (m 3),z 30 (gti 31 16),po 30 32,d 27 (m 33)]) (c 27 (r (O 34 [E (.build [.int .i64 0,.int .i64 0] []),n (st 2 8 34),d 9 (i 1)]))))))) (s (Q 35 [m 10,m 11,E (.build [.int .i64 0,.int .i64 0] [(0,1,T 35),(1,1,T 36)]),d 13 (E (.alloc [.int .i64 0,.int .i64 0])),n (st 2 13 37)] [13,11,10,8,4,3]) (s (s (O 38 [h 2 13,E (.build [.int .i64 0,.int .i64 0] []),E (.eqv 4 [0,0] false (T 38) (T 39))]) (c 40 (r (O 41 [h 2 13,n (st 2 8 41),d 9 (i 0)])))) (r (O 42 [m 10,m 3,sb 42 43,E (.mx (N 0) (T 44)),f 0 4,l 1 46,ln 1 47,m 11,m 3,ad 49 50,E (.mn (T 48) (T 51)),E (.build [.int .i64 0,.int .i64 0] [(0,1,T 45),(1,1,T 52)]),n (st 2 8 53),d 9 (i 0)])))))))⟩
def w273_c0:WCode:=zd (r (O 41 [m 9,d 6 (m 41)]))
def w273_B0:WCode:=zd (s (O 21 [lt 20 19]) (s (cc 21 (w .skip) (ee 0)) (s (B 1 (s (Q 22 [m 20,ix 6 18 20,h 6 23,d 11 (E (.alloc [.int .u64 0,.int .u8 0,.str [],.ro 1 [] true,.int .i64 0,.bool false])),d 10 (m 22),n (st 6 11 24)] [20,19,18,11,10,9,7,3,2]) (s (s (O 25 [m 7,m 10,ix 1 25 26,l 1 27,m 2,gt 28 29]) (c 30 (ee 0))) (s (O 31 [f 0 3,l 1 31,f 0 11,f 1 33,l 1 34,ix 9 32 35,f 7 36,l 1 37]) (c 38 (O 39 [m 10,d 9 (m 39)])))))) (O 40 [adi 20 1,d 20 (m 40)]))))
def w273_L0:WCode:=.loop ⟨true,[20,19,18,9,7,3,2],[]⟩ w273_B0
def w273:WFn:=⟨3,[.tmp 6],zd (s (O 3 [bx 0,bx 1,d 6 (i 0)]) (s (O 13 [h 1 4,ca 246 [13],d 12 (m 14),ex 0 12,ex 1 12,d 7 (m 15),d 8 (m 16)]) (s (O 9 [i (-1)]) (s (s (O 17 [f 0 4,l 1 17,ln 1 18,i 0]) (bk 0 w273_L0 ⟨true,[9],[]⟩)) w273_c0))))⟩
@[simp] theorem w273_E0:ZL w273_L0 w273_B0 ⟨true,[20,19,18,9,7,3,2],[]⟩:=ck_lp rfl
def w274:WFn:=⟨1,[.tmp 2],zd (s (O 2 [E (.mv (.c (.ro 1 [] true)))]) (s (s (O 4 [m 0,ln 1 4,eqi 5 0]) (c 6 (r (O 2 [E (.mv (.c (.ro 1 [] true)))])))) (s (O 7 [m 0,ln 1 7,E (.mksl [.int .i64 0] 8 (T 8) (T 8)),d 3 (m 9)]) (s (O 10 [m 3,m 0,E (.cpy 1 (T 10) (T 11))]) (r (O 13 [m 3,d 2 (m 13)]))))))⟩
def w415_c0:WCode:=zd (r (O 4 [i 1]))
def w415_B0:WCode:=zd (s (s (O 69 [m 6,f 5 2,l 1 70,ln 1 71,lt 69 72]) (cc 73 (w .skip) (ee 2))) (s (B 3 (s (V 76 [f 5 2,l 1 76,m 6,ix 6 77 78,h 6 79,f 5 3,l 1 81,m 6,ix 6 82 83,h 6 84,ca 415 [80,85],eqi 86 0] [] ⟨false,[],[]⟩) (c 87 (r (O 4 [i 0]))))) (O 74 [m 6,adi 74 1,d 6 (m 75)])))
def w415_L0:WCode:=.loop ⟨true,[6,3,2],[]⟩ w415_B0
def w415_c1:WCode:=zd (s (s (O 6 [i 0]) (bk 2 w415_L0 ⟨true,[],[]⟩)) w415_c0)
def w415_B1:WCode:=zd (s (s (O 51 [m 5,f 3 2,l 1 52,ln 1 53,lt 51 54]) (cc 55 (w .skip) (ee 0))) (s (B 1 (s (V 58 [f 3 2,l 1 58,m 5,ix 2 59 60,h 2 61,f 3 3,l 1 63,m 5,ix 2 64 65,h 2 66,E (.eqv 4 [1,1] true (T 62) (T 67))] [] ⟨false,[],[]⟩) (c 68 (r (O 4 [i 0]))))) (Q 56 [m 5,adi 56 1,d 5 (m 57)] [5,3,2])))
def w415_L1:WCode:=.loop ⟨true,[5,3,2],[]⟩ w415_B1
def w415:WFn:=⟨2,[.tmp 4],zd (s (O 2 [bx 0,bx 1,i 0]) (s (s (Q 7 [f 0 2,l 1 7,f 0 3,l 1 9,ne 8 10,m 11,z 12 (f 1 2),z 12 (l 1 13),z 12 (f 1 3),z 12 (l 1 15),z 12 (ne 14 16),po 12 17,m 18,z 19 (f 2 2),z 19 (l 1 20),z 19 (f 2 3),z 19 (l 1 22),z 19 (ne 21 23),po 19 24,m 25,z 26 (f 4 2),z 26 (l 1 27),z 26 (f 4 3),z 26 (l 1 29),z 26 (ne 28 30),po 26 31,m 32,z 33 (f 3 2),z 33 (l 1 34),z 33 (ln 1 35),z 33 (f 3 3),z 33 (l 1 37),z 33 (ln 1 38),z 33 (ne 36 39),po 33 40,m 41,z 42 (f 5 2),z 42 (l 1 43),z 42 (ln 1 44),z 42 (f 5 3),z 42 (l 1 46),z 42 (ln 1 47),z 42 (ne 45 48),po 42 49] [50,3,2]) (c 50 (r (O 4 [i 0])))) (s (s (O 5 [i 0]) (bk 0 w415_L1 ⟨true,[3,2],[]⟩)) w415_c1)))⟩
@[simp] theorem w415_E0:ZL w415_L0 w415_B0 ⟨true,[6,3,2],[]⟩:=ck_lp rfl
@[simp] theorem w415_E1:ZL w415_L1 w415_B1 ⟨true,[5,3,2],[]⟩:=ck_lp rfl
def w121:WFn:=⟨3,[.tmp 6,.tmp 7,.tmp 8],zd (s (Q 6 [d 3 (bx 0),i 0,i 0,i 0] [3,2,1]) (s (s (O 13 [h 1 3,m 1,m 2,ca 248 [13,14,15],d 9 (m 16)]) (s (O 17 [m 9,nei 17 0]) (c 18 (r (O 6 [d 19 (m 9),i 0,i 0,m 19]))))) (s (O 21 [h 1 3,ca 246 [21],d 20 (m 22),ex 0 20,ex 1 20,d 10 (m 23),d 11 (m 24)]) (s (s (O 25 [m 10,ln 1 25,eqi 26 1]) (c 27 (r (Q 6 [i 0,i 0,i 0] [8,7,6])))) (s (O 28 [m 1,m 2,ad 28 29,m 10,m 10,ln 1 32,sbi 33 1,ix 1 31 34,l 1 35,E (.mn (T 30) (T 36)),d 12 (m 37)]) (r (O 38 [m 10,m 1,ca 247 [38,39],m 10,m 12,sbi 42 1,ca 247 [41,43],adi 44 1,d 6 (m 40),d 7 (m 45),d 8 (i 0)])))))))⟩
def w262_c0:WCode:=zd (r (O 58 [m 6,m 7,d 6 (m 58),d 7 (m 59)]))
def w262_B0:WCode:=zd (s (O 21 [lt 20 19]) (s (cc 21 (w .skip) (ee 0)) (s (B 1 (s (O 22 [m 20,ix 6 18 20,h 6 23,d 11 (E (.alloc [.int .u64 0,.int .u8 0,.str [],.ro 1 [] true,.int .i64 0,.bool false])),d 10 (m 22),n (st 6 11 24)]) (s (s (O 25 [f 0 3,l 1 25,f 0 11,f 1 27,l 1 28,ix 9 26 29,f 7 30,l 1 31,nt 32]) (c 33 (ee 1))) (s (s (O 34 [m 8,m 10,ix 1 34 35,l 1 36,m 2,gt 37 38]) (c 39 (s (s (Q 40 [m 6,gei 40 0] [41,10,8,7,6,4,2]) (c 41 (V 42 [m 8,m 10,ix 1 42 43,l 1 44,m 2,sb 45 46,f 0 4,l 1 48,m 6,ix 6 49 50,f 4 51,l 1 52,sb 47 53,E (.mn (N 0) (T 54)),d 7 (m 55)] [] ⟨false,[],[]⟩))) (ee 0)))) (O 56 [m 10,d 6 (m 56)]))))) (O 57 [adi 20 1,d 20 (m 57)]))))
def w262_L0:WCode:=.loop ⟨true,[20,19,18,8,7,6,4,3,2],[]⟩ w262_B0
def w262:WFn:=⟨3,[.tmp 6,.tmp 7],zd (s (O 6 [d 3 (bx 0),d 4 (bx 1),i 0,i 0]) (s (O 13 [h 1 4,ca 246 [13],d 12 (m 14),ex 0 12,ex 1 12,d 8 (m 15),d 9 (m 16)]) (s (O 6 [i (-1)]) (s (s (Q 17 [f 0 4,l 1 17,ln 1 18,i 0] [20,19,18,8,7,6,4,3,2]) (bk 0 w262_L0 ⟨true,[7,6],[]⟩)) w262_c0))))⟩
@[simp] theorem w262_E0:ZL w262_L0 w262_B0 ⟨true,[20,19,18,8,7,6,4,3,2],[]⟩:=ck_lp rfl
def w263_c0:WCode:=zd (r (O 67 [m 11,d 8 (m 67)]))
def w263_B0:WCode:=zd (s (O 32 [lt 31 30]) (s (cc 32 (w .skip) (ee 0)) (s (B 1 (s (O 33 [m 31,d 12 (m 33)]) (s (O 34 [f 0 5,l 1 34,m 2,m 12,ad 36 37,ix 6 35 38,h 6 39,d 13 (E (.alloc [.int .u64 0,.int .u8 0,.str [],.ro 1 [] true,.int .i64 0,.bool false])),n (st 6 13 40)]) (s (Q 42 [h 2 4,h 6 13,E (.buildS [.int .u64 0,.int .u8 0,.str [],.ro 1 [] true,.int .i64 0,.bool false] 1 [(0,T 43)]),E (.build [.ro 6 [] true] [(0,1,T 44)]),E (.call 238 [T 42,T 45,N 0]),d 41 (m 46),ex 0 41,ex 1 41,d 14 (E (.alloc [.int .u8 0,.str [],.str [],.ro 2 [] true,.str [],.ro 6 [] true])),n (st 6 14 47),d 15 (m 48)] [31,30,14,13,12,11,9,5,4,2]) (V 49 [m 11,m 12,f 0 13,f 0 51,l 1 52,m 9,m 2,m 12,ad 55 56,ix 1 54 57,l 1 58,f 4 13,l 1 60,h 6 14,ca 418 [62],E (.build [.int .u64 0,.int .i64 0,.int .i64 0,.int .u8 0,.str [],.str [],.ro 2 [] true,.str [],.ro 6 [] true] [(0,1,T 53),(1,1,T 59),(2,1,T 61),(3,6,T 63)]),ix 9 49 50,n (st 9 65 64)] [(4,14),(10,14),(12,14)] ⟨false,[],[]⟩))))) (O 66 [adi 31 1,d 31 (m 66)]))))
def w263_L0:WCode:=.loop ⟨true,[31,30,11,9,5,4,2],[]⟩ w263_B0
def w263:WFn:=⟨4,[.tmp 8],zd (s (O 4 [bx 0,bx 1,d 8 (E (.mv (.c (.ro 9 [] true))))]) (s (s (O 16 [m 2,m 3,eq 16 17]) (c 18 (r (O 8 [E (.mv (.c (.ro 9 [] true)))])))) (s (Q 20 [h 1 5,ca 246 [20],d 19 (m 21),ex 0 19,ex 1 19,d 9 (m 22),d 10 (m 23)] [9,5,4,3,2]) (s (O 24 [m 3,m 2,sb 24 25,E (.mksl [.int .u64 0,.int .i64 0,.int .i64 0,.int .u8 0,.str [],.str [],.ro 2 [] true,.str [],.ro 6 [] true] 128 (T 26) (T 26)),d 11 (m 27)]) (s (s (O 28 [m 3,m 2,sb 28 29,i 0]) (bk 0 w263_L0 ⟨true,[11],[]⟩)) w263_c0)))))⟩
@[simp] theorem w263_E0:ZL w263_L0 w263_B0 ⟨true,[31,30,11,9,5,4,2],[]⟩:=ck_lp rfl
def w264:WFn:=⟨1,[.tmp 2],zd (s (O 2 [E (.mv (.c (.ro 9 [] true)))]) (r (O 3 [m 0,m 0,ln 1 4,m 0,ln 1 6,E (.slice 9 (T 3) none (some (T 5)) (some (T 7))),d 2 (m 8)])))⟩
def w265:WFn:=⟨1,[.tmp 2],zd (w (.cln [.int .u64 0,.int .i64 0,.int .i64 0,.int .u8 0,.str [],.str [],.ro 2 [] true,.str [],.ro 6 [] true] 9 128))⟩
def w278_c0:WCode:=zd (r (O 4 [i 0]))
def w278_B0:WCode:=zd (s (O 55 [lt 54 53]) (s (cc 55 (w .skip) (ee 2)) (s (B 3 (s (Q 56 [m 54,ix 1 52 54,l 1 57,d 9 (E (.alloc [.int .i64 0])),n (st 1 9 56),d 10 (m 58)] [54,53,52,10,9,2]) (s (O 59 [m 10,ln 1 59,f 3 2,l 1 61,l 1 9,ix 9 62 63,f 8 64,l 1 65,gt 60 66,m 67,z 68 (m 10),z 68 (E (.mkfn 430 [T 9,T 2])),z 68 (ca 429 [69,70]),po 68 71]) (c 72 (r (O 4 [i 10])))))) (O 73 [adi 54 1,d 54 (m 73)]))))
def w278_L0:WCode:=.loop ⟨true,[54,53,52,2],[]⟩ w278_B0
def w278_c1:WCode:=zd (s (s (O 51 [f 1 3,l 1 51,ln 1 52,i 0]) (bk 2 w278_L0 ⟨true,[],[]⟩)) w278_c0)
def w278_B1:WCode:=zd (s (O 34 [lt 33 32]) (s (cc 34 (w .skip) (ee 0)) (s (B 1 (s (Q 35 [ix 8 31 33,h 8 35,d 8 (E (.alloc [.int .u64 0,.int .u8 0,.int .u8 0,.str [],.str [],.ro 2 [] true,.str [],.ro 6 [] true])),n (st 8 8 36)] [33,32,31,8,6,3,2]) (s (s (O 37 [h 7 2,h 8 8,ca 428 [37,38],nt 39,m 40,z 41 (m 6),z 41 (f 0 8),z 41 (l 1 43),z 41 (E (.look 0 (.bool false) false (T 42) (T 44))),po 41 45]) (c 46 (r (O 4 [i 10])))) (O 47 [m 6,f 0 8,l 1 48,n (E (.upd 0 (T 47) (T 49) (.c (.bool true))))])))) (O 50 [adi 33 1,d 33 (m 50)]))))
def w278_L1:WCode:=.loop ⟨true,[33,32,31,6,3,2],[]⟩ w278_B1
def w278:WFn:=⟨2,[.tmp 4],zd (s (O 2 [bx 0,bx 1,i 0]) (s (s (O 11 [h 7 2,ca 277 [11],d 5 (m 12)]) (s (Q 13 [m 5,nei 13 0] [14,5,3,2]) (c 14 (r (O 15 [m 5,d 4 (m 15)]))))) (s (s (O 16 [f 0 3,l 1 16,ln 1 17,gti 18 1024,m 19,z 20 (f 1 3),z 20 (l 1 21),z 20 (ln 1 22),z 20 (f 3 2),z 20 (l 1 24),z 20 (ln 1 25),z 20 (ne 23 26),po 20 27]) (c 28 (r (O 4 [i 10])))) (s (O 29 [E .mkmap,d 6 (m 29)]) (s (s (O 30 [f 0 3,l 1 30,ln 1 31,i 0]) (bk 0 w278_L1 ⟨true,[3,2],[]⟩)) w278_c1)))))⟩
@[simp] theorem w278_E0:ZL w278_L0 w278_B0 ⟨true,[54,53,52,2],[]⟩:=ck_lp rfl
@[simp] theorem w278_E1:ZL w278_L1 w278_B1 ⟨true,[33,32,31,6,3,2],[]⟩:=ck_lp rfl
def w281_c0:WCode:=zd (r (O 29 [h 2 3,n (st 2 2 29)]))
def w281_B0:WCode:=zd (s (O 18 [lt 17 16]) (s (cc 18 (w .skip) (ee 0)) (s (B 1 (s (O 19 [m 17,ix 1 15 17,l 1 20,d 4 (m 19),d 5 (m 21)]) (V 22 [f 1 3,l 1 22,m 4,m 5,ca 432 [25],ix 1 23 24,n (st 1 27 26)] [(1,4)] ⟨false,[],[]⟩))) (O 28 [adi 17 1,d 17 (m 28)]))))
def w281_L0:WCode:=.loop ⟨true,[17,16,15,3,2],[]⟩ w281_B0
def w281:WFn:=⟨1,[.cell 2 2 true],zd (s (O 1 [bx 0,E (.alloc [.ro 8 [] true,.ro 1 [] true])]) (s (U 6 [f 0 1,l 1 6,ca 432 [7],f 1 1,l 1 9,ln 1 10,E (.mksl [.ro 8 [] true] 24 (T 11) (T 11)),E (.build [.ro 8 [] true,.ro 1 [] true] [(0,1,T 8),(1,1,T 12)]),d 3 (E (.alloc [.ro 8 [] true,.ro 1 [] true])),n (st 2 3 13)] [(2,4),(2,5),(1,6),(2,6),(1,8),(2,8),(4,8),(5,8),(6,8)] [3,2,1]) (s (s (O 14 [f 1 1,l 1 14,ln 1 15,i 0]) (bk 0 w281_L0 ⟨true,[3,2],[]⟩)) w281_c0)))⟩
@[simp] theorem w281_E0:ZL w281_L0 w281_B0 ⟨true,[17,16,15,3,2],[]⟩:=ck_lp rfl
def w432_c0:WCode:=zd (r (O 28 [m 3,d 2 (m 28)]))
def w432_B0:WCode:=zd (s (O 15 [lt 14 13]) (s (cc 15 (w .skip) (ee 0)) (s (B 1 (s (O 16 [m 14,ix 8 12 14,h 8 17,d 5 (E (.alloc [.int .u64 0,.int .u8 0,.int .u8 0,.str [],.str [],.ro 2 [] true,.str [],.ro 6 [] true])),d 4 (m 16),n (st 8 5 18)]) (s (O 19 [f 2 5,h 6 19,ca 515 [20],f 2 5,n (st 6 22 21)]) (O 23 [m 3,m 4,h 8 5,ix 8 23 24,n (st 8 26 25)])))) (O 27 [adi 14 1,d 14 (m 27)]))))
def w432_L0:WCode:=.loop ⟨true,[14,13,12,3],[]⟩ w432_B0
def w432:WFn:=⟨1,[.tmp 2],zd (s (O 2 [E (.mv (.c (.ro 8 [] true)))]) (s (s (O 6 [m 0,ln 1 6,eqi 7 0]) (c 8 (r (O 2 [E (.mv (.c (.ro 8 [] true)))])))) (s (O 9 [m 0,ln 1 9,E (.mksl [.int .u64 0,.int .u8 0,.int .u8 0,.str [],.str [],.ro 2 [] true,.str [],.ro 6 [] true] 120 (T 10) (T 10)),d 3 (m 11)]) (s (s (Q 12 [m 0,ln 1 12,i 0] [14,13,12,3]) (bk 0 w432_L0 ⟨true,[3],[]⟩)) w432_c0))))⟩
@[simp] theorem w432_E0:ZL w432_L0 w432_B0 ⟨true,[14,13,12,3],[]⟩:=ck_lp rfl
def w669:WFn:=⟨1,[.tmp 2],zd (s (O 2 [E (.mv (.c (.ro 3 [] true)))]) (r (O 3 [m 0,m 0,ln 1 4,m 0,ln 1 6,E (.slice 3 (T 3) none (some (T 5)) (some (T 7))),d 2 (m 8)])))⟩
def w670:WFn:=⟨1,[.tmp 2],zd (w (.cln [.str [],.int .u8 0,.str []] 3 40))⟩
def w671:WFn:=⟨1,[.tmp 2],zd (s (O 2 [E (.mv (.c (.ro 6 [] true)))]) (r (O 3 [m 0,m 0,ln 1 4,m 0,ln 1 6,E (.slice 6 (T 3) none (some (T 5)) (some (T 7))),d 2 (m 8)])))⟩
def w672:WFn:=⟨1,[.tmp 2],zd (w (.cln [.int .u8 0,.str [],.str [],.ro 3 [] true,.str [],.ro 6 [] true] 6 104))⟩
def w230:WFn:=⟨1,[.tmp 2],zd (s (O 1 [bx 0,ff]) (r (O 3 [f 6 1,l 1 3,ca 225 [4],nt 5,m 6,z 7 (f 0 1),z 7 (h 6 8),z 7 (ca 231 [9]),z 7 (nei 10 0),po 7 11,d 2 (m 12)])))⟩
def w225:WFn:=⟨1,[.tmp 2],zd (s (O 2 [ff]) (r (O 3 [m 0,gei 3 1,m 4,y 5 (m 0),y 5 (lei 6 2305843009213693952),pa 5 7,d 2 (m 8)])))⟩
def w231:WFn:=⟨1,[.tmp 2],zd (s (O 1 [bx 0,i 0]) (s (s (O 3 [h 6 1,ca 404 [3],eqi 4 0]) (c 5 (r (O 2 [i 14])))) (r (O 2 [i 0]))))⟩
def w201_c0:WCode:=zd (r (O 4 [i 0,i 0]))
def w201_B0:WCode:=zd (s (O 25 [lt 24 23]) (s (cc 25 (w .skip) (ee 1)) (s (B 2 (s (O 26 [m 24,ix 2 22 24,h 2 27,d 8 (E (.alloc [.int .u64 0,.int .i64 0])),d 7 (m 26),n (st 2 8 28)]) (s (O 29 [h 2 8,m 1,m 6,ca 379 [29,30,31],d 9 (m 32)]) (s (O 33 [m 9,nei 33 0]) (c 34 (r (O 35 [m 7,m 9,d 4 (m 35),d 5 (m 36)]))))))) (O 37 [adi 24 1,d 24 (m 37)]))))
def w201_L0:WCode:=.loop ⟨true,[24,23,22,6,1],[]⟩ w201_B0
def w201:WFn:=⟨2,[.tmp 4,.tmp 5],zd (s (O 4 [i 0,i 0]) (s (B 0 (s (O 11 [m 1,lti 11 1,m 12,z 13 (m 1),z 13 (gti 14 2305843009213693952),po 13 15,d 10 (m 16)]) (cc 10 (r (O 4 [i 0,i 1])) (s (O 18 [m 0,ln 1 18,gti 19 256,d 17 (m 20)]) (c 17 (r (O 4 [i 0,i 3]))))))) (s (O 21 [ca 2016 [],d 6 (m 21)]) (s (s (Q 22 [m 0,ln 1 22,i 0] [24,23,22,6,1]) (bk 1 w201_L0 ⟨true,[],[]⟩)) w201_c0))))⟩
@[simp] theorem w201_E0:ZL w201_L0 w201_B0 ⟨true,[24,23,22,6,1],[]⟩:=ck_lp rfl
def w246_c0:WCode:=zd (r (O 2 [d 39 (m 5),m 39,i 0]))
def w246_B0:WCode:=zd (s (Q 21 [lt 20 19] [21,20,19,5,1]) (s (cc 21 (w .skip) (ee 0)) (s (B 1 (s (O 22 [m 20,d 6 (m 22)]) (V 23 [m 5,m 6,adi 24 1,m 5,m 6,ix 1 26 27,l 1 28,f 0 1,l 1 30,m 6,ix 6 31 32,f 4 33,l 1 34,ad 29 35,ix 1 23 25,n (st 1 37 36)] [] ⟨false,[],[]⟩))) (O 38 [adi 20 1,d 20 (m 38)]))))
def w246_L0:WCode:=.loop ⟨true,[20,19,5,1],[]⟩ w246_B0
def w246:WFn:=⟨1,[.tmp 2,.tmp 3],zd (s (O 1 [bx 0,E (.mv (.c (.ro 1 [] true))),i 0]) (s (s (O 7 [h 1 1,ca 122 [7],d 4 (m 8)]) (s (O 9 [m 4,nei 9 0]) (c 10 (r (O 2 [d 11 (m 4),E (.mv (.c (.ro 1 [] true))),m 11]))))) (s (O 12 [f 0 1,l 1 12,ln 1 13,adi 14 1,E (.mksl [.int .i64 0] 8 (T 15) (T 15)),d 5 (m 16)]) (s (s (O 17 [f 0 1,l 1 17,ln 1 18,i 0]) (bk 0 w246_L0 ⟨true,[5],[]⟩)) w246_c0))))⟩
@[simp] theorem w246_E0:ZL w246_L0 w246_B0 ⟨true,[20,19,5,1],[]⟩:=ck_lp rfl
def w111_c0:WCode:=zd (r (O 25 [m 3,d 2 (m 25)]))
def w111_B0:WCode:=zd (s (O 11 [lt 10 9]) (s (cc 11 (w .skip) (ee 0)) (s (B 1 (s (O 12 [ix 6 8 10,h 6 12,d 5 (E (.alloc [.int .u64 0,.int .u8 0,.str [],.ro 1 [] true,.int .i64 0,.bool false])),n (st 6 5 13)]) (s (O 14 [f 4 5,l 1 14,E (.mx (T 15) (N 0)),d 6 (m 16)]) (s (s (O 17 [m 6,m 3,E (.bin .sub (N 4611686018427387904) (T 18)),gt 17 19]) (c 20 (r (O 2 [i 4611686018427387905])))) (O 21 [m 3,m 6,ad 21 22,d 3 (m 23)]))))) (O 24 [adi 10 1,d 10 (m 24)]))))
def w111_L0:WCode:=.loop ⟨true,[10,9,8,3],[]⟩ w111_B0
def w111:WFn:=⟨1,[.tmp 2],zd (s (O 1 [bx 0,i 0]) (s (O 3 [i 0]) (s (s (Q 7 [f 0 1,l 1 7,ln 1 8,i 0] [10,9,8,3]) (bk 0 w111_L0 ⟨true,[3],[]⟩)) w111_c0)))⟩
@[simp] theorem w111_E0:ZL w111_L0 w111_B0 ⟨true,[10,9,8,3],[]⟩:=ck_lp rfl
def w120:WFn:=⟨2,[.tmp 4,.tmp 5],zd (s (O 4 [d 2 (bx 0),i 0,i 0]) (s (O 9 [h 1 2,ca 246 [9],d 8 (m 10),ex 0 8,ex 1 8,d 6 (m 11),d 7 (m 12)]) (s (s (Q 13 [m 7,nei 13 0] [14,7,6,1]) (c 14 (r (O 4 [d 15 (m 7),i 0,m 15])))) (s (s (O 16 [m 1,lti 16 0,m 17,z 18 (m 1),z 18 (m 6),z 18 (m 6),z 18 (ln 1 21),z 18 (sbi 22 1),z 18 (ix 1 20 23),z 18 (l 1 24),z 18 (ge 19 25),po 18 26]) (c 27 (r (O 4 [i 0,i 4])))) (r (O 28 [m 6,m 1,ca 247 [28,29],d 4 (m 30),d 5 (i 0)]))))))⟩
def w673:WFn:=⟨1,[.tmp 2],zd (s (O 2 [E (.mv (.c (.fn 1000000 [])))]) (r (O 3 [m 0,m 0,nk 4,f 18 5,f 1 6,l 1 7,ca 680 [3,8],d 2 (m 9)])))⟩
def w674:WFn:=⟨1,[.tmp 2],zd (s (O 2 [E (.mv (.c (.fn 1000000 [])))]) (r (V 3 [m 0,m 0,nk 4,f 0 5,f 10 6,l 1 7,m 0,nk 9,f 18 10,f 1 11,l 1 12,ca 315 [8,13],ca 680 [3,14],d 2 (m 15)] [] ⟨false,[],[]⟩)))⟩
def w675:WFn:=⟨1,[.tmp 2],zd (s (O 2 [E (.mv (.c (.fn 1000000 [])))]) (s (s (U 6 [m 0,nk 6,f 0 7,f 8 8,h 1 9,m 0,nk 11,f 18 12,f 2 13,l 1 14,ca 224 [10,15],d 5 (m 16),ex 0 5,ex 1 5,d 3 (m 17),d 4 (m 18)] [] [4,0]) (s (O 19 [m 4,nt 19]) (c 20 (r (O 21 [E (.call 665 [N 11]),d 2 (m 21)]))))) (s (O 22 [m 0,m 0,nk 23,f 18 24,f 2 25,l 1 26,E (.build [.int .u64 0,.int .i64 0] [(0,1,T 27)]),nk 22,f 23 29,n (st 2 30 28)]) (r (O 2 [E (.mv (.c (.fn 1000000 [])))])))))⟩
def w676:WFn:=⟨1,[.tmp 2],zd (s (O 2 [E (.mv (.c (.fn 1000000 [])))]) (s (O 3 [m 0,m 0,nk 4,f 18 5,f 1 6,l 1 7,nk 3,f 0 9,f 9 10,n (st 1 11 8)]) (r (O 2 [E (.mv (.c (.fn 1000000 [])))]))))⟩
def w677:WFn:=⟨1,[.tmp 2],zd (s (O 2 [E (.mv (.c (.fn 1000000 [])))]) (s (U 7 [m 0,nk 7,f 0 8,h 18 9,ca 659 [10],m 0,nk 12,f 0 13,f 8 14,h 1 15,m 0,nk 17,f 18 18,f 3 19,l 1 20,ca 171 [11,16,21],d 6 (m 22),ex 0 6,ex 1 6,ex 2 6,d 3 (E (.alloc [.ro 6 [] true])),n (st 1 3 23),d 4 (m 24),d 5 (m 25)] [(4,9),(4,14),(3,20),(4,20),(9,20),(14,20),(15,20)] [5,3,0]) (s (s (O 26 [m 5,nei 26 0]) (c 27 (r (Q 28 [m 5,ca 665 [28],d 2 (m 29)] [2])))) (s (V 30 [m 0,m 0,nk 31,f 0 32,f 8 33,h 1 34,h 1 3,m 0,nk 37,f 23 38,h 2 39,ca 324 [35,36,40],nk 30,f 23 42,n (st 2 43 41)] [] ⟨false,[],[]⟩) (s (O 44 [m 0,h 1 3,nk 44,f 0 46,f 8 47,n (st 1 48 45)]) (r (O 2 [E (.mv (.c (.fn 1000000 [])))])))))))⟩
def w678_c0:WCode:=zd (r (O 2 [E (.mv (.c (.fn 1000000 [])))]))
def w678_B0:WCode:=zd (s (O 14 [lt 13 12]) (s (cc 14 (w .skip) (ee 0)) (s (B 1 (s (O 15 [ix 2 11 13,h 2 15,d 4 (E (.alloc [.int .u64 0,.int .i64 0])),n (st 2 4 16)]) (s (U 18 [m 0,nk 18,f 0 19,h 18 20,ca 659 [21],m 0,nk 23,f 0 24,f 8 25,h 1 26,f 0 4,l 1 28,f 1 4,l 1 30,ca 113 [22,27,29,31],d 17 (m 32),ex 0 17,ex 1 17,d 5 (E (.alloc [.ro 6 [] true])),n (st 1 5 33),d 6 (m 34)] [(4,9),(4,11),(4,13),(3,18),(4,18),(9,18),(11,18),(13,18),(14,18)] [13,12,11,6,5,0]) (s (s (O 35 [m 6,nei 35 0]) (c 36 (r (O 37 [m 6,ca 665 [37],d 2 (m 38)])))) (O 39 [m 0,h 1 5,nk 39,f 0 41,f 8 42,n (st 1 43 40)]))))) (O 44 [adi 13 1,d 13 (m 44)]))))
def w678_L0:WCode:=.loop ⟨true,[13,12,11,0],[]⟩ w678_B0
def w678:WFn:=⟨1,[.tmp 2],zd (s (O 2 [E (.mv (.c (.fn 1000000 [])))]) (s (s (O 7 [m 0,nk 7,f 18 8,f 4 9,l 1 10,ln 1 11,i 0]) (bk 0 w678_L0 ⟨true,[],[]⟩)) w678_c0))⟩
@[simp] theorem w678_E0:ZL w678_L0 w678_B0 ⟨true,[13,12,11,0],[]⟩:=ck_lp rfl
def w679:WFn:=⟨1,[.tmp 2],zd (s (O 2 [E (.mv (.c (.fn 1000000 [])))]) (s (U 7 [m 0,nk 7,f 0 8,f 1 9,h 7 10,m 0,nk 12,f 0 13,f 11 14,h 2 15,m 0,nk 17,f 18 18,f 1 19,l 1 20,ca 290 [11,16,21],d 6 (m 22),ex 0 6,ex 1 6,ex 2 6,d 3 (E (.alloc [.ro 8 [] true,.ro 1 [] true])),n (st 2 3 23),d 4 (m 24),d 5 (m 25)] [(4,20),(9,20),(14,20),(15,20)] [5,4,3,0]) (s (O 26 [m 0,m 0,h 2 3,m 4,nk 26,f 0 30,f 11 31,n (st 2 32 28),nk 27,f 25 33,n (st 1 34 29)]) (r (O 35 [m 5,ca 665 [35],d 2 (m 36)])))))⟩
def w174_B0:WCode:=zd (B 1000000 (s (s (Q 28 [h 5 4,f 0 11,h 1 29,h 2 6,m 3,ca 2019 [28,30,31,32],d 27 (m 33),ex 0 27,ex 1 27,ex 2 27,f 1 11,n (st 1 37 34),d 12 (m 35),d 13 (m 36)] [13,12,11,8,6,4,3]) (s (s (O 38 [m 13,nei 38 0]) (c 39 (r (O 40 [E (.build [.ro 6 [] true,.int .i64 0,.int .i64 0] []),m 13,n (st 3 8 40),d 9 (m 41)])))) (s (s (O 42 [m 12,gti 42 0]) (c 43 (s (O 44 [f 2 11,l 1 44,adi 45 1,f 2 11,n (st 1 47 46)]) (ee 1000000)))) (r (O 48 [h 3 11,n (st 3 8 48),d 9 (i 0)]))))) (ee 1000001)))
def w174_L0:WCode:=.loop ⟨true,[11,8,6,4,3],[]⟩ w174_B0
def w174:WFn:=⟨4,[.cell 8 3 true,.tmp 9],zd (s (Q 4 [bx 0,bx 1,bx 2,d 8 (E (.alloc [.ro 6 [] true,.int .i64 0,.int .i64 0])),d 9 (i 0)] [8,6,5,4,3]) (s (s (O 14 [h 5 4,h 1 5,h 2 6,m 3,ca 344 [14,15,16,17],d 10 (m 18)]) (s (O 19 [m 10,nei 19 0]) (c 20 (r (O 21 [E (.build [.ro 6 [] true,.int .i64 0,.int .i64 0] []),m 10,n (st 3 8 21),d 9 (m 22)]))))) (s (O 23 [h 5 4,h 1 5,ca 3001 [23,24],E (.build [.ro 6 [] true,.int .i64 0,.int .i64 0] [(0,1,T 25)]),d 11 (E (.alloc [.ro 6 [] true,.int .i64 0,.int .i64 0])),n (st 3 11 26)]) (s (O 12 [i 0]) (s (O 13 [i 0]) (bk 1000001 w174_L0 ⟨true,[9,8],[]⟩))))))⟩
@[simp] theorem w174_E0:ZL w174_L0 w174_B0 ⟨true,[11,8,6,4,3],[]⟩:=ck_lp rfl
def w139_c0:WCode:=zd (s (Q 67 [h 7 4,h 2 5,h 1 6,m 3,ca 280 [67,68,69,70],d 66 (m 71),ex 0 66,ex 1 66,d 15 (E (.alloc [.ro 8 [] true,.ro 1 [] true])),d 16 (E (.alloc [.int .i64 0,.int .i64 0,.int .i64 0,.int .i64 0])),n (st 2 15 72),n (st 4 16 73)] [16,15,9,8,4]) (s (s (O 74 [f 3 16,l 1 74,f 5 4,l 1 76,gt 75 77]) (c 78 (r (O 79 [E (.build [.ro 8 [] true,.ro 1 [] true] []),E (.build [.int .i64 0,.int .i64 0,.int .i64 0,.int .i64 0] []),n (st 2 8 79),n (st 4 9 80),d 10 (i 15)])))) (r (V 81 [h 2 15,ca 281 [81],h 4 16,n (st 2 8 82),n (st 4 9 83),d 10 (i 0)] [(1,2),(2,3)] ⟨false,[],[]⟩))))
def w139_B0:WCode:=zd (s (O 37 [lt 36 35]) (s (cc 37 (w .skip) (ee 0)) (s (B 1 (s (O 38 [m 36,ix 1 34 36,l 1 39,d 13 (m 38),d 14 (m 40)]) (s (Q 41 [m 14,lti 41 0,m 42,z 43 (m 14),z 43 (f 0 6),z 43 (l 1 45),z 43 (ln 1 46),z 43 (ge 44 47),po 43 48,m 49,z 50 (m 13),z 50 (gti 51 0),z 50 (m 52),y 53 (m 14),y 53 (m 3),y 53 (m 13),y 53 (sbi 56 1),y 53 (ix 1 55 57),y 53 (l 1 58),y 53 (le 54 59),z 50 (pa 53 60),po 50 61] [62,36,35,34,9,8,6,5,4,3]) (c 62 (r (O 63 [E (.build [.ro 8 [] true,.ro 1 [] true] []),E (.build [.int .i64 0,.int .i64 0,.int .i64 0,.int .i64 0] []),n (st 2 8 63),n (st 4 9 64),d 10 (i 1)])))))) (O 65 [adi 36 1,d 36 (m 65)]))))
def w139_L0:WCode:=.loop ⟨true,[36,35,34,9,8,6,5,4,3],[]⟩ w139_B0
def w139:WFn:=⟨4,[.cell 8 2 true,.cell 9 4 true,.tmp 10],zd (s (O 8 [d 4 (bx 0),d 5 (bx 1),d 6 (bx 2),E (.alloc [.ro 8 [] true,.ro 1 [] true]),E (.alloc [.int .i64 0,.int .i64 0,.int .i64 0,.int .i64 0]),i 0]) (s (s (O 17 [h 7 4,h 2 5,ca 278 [17,18],d 11 (m 19)]) (s (O 20 [m 11,nei 20 0]) (c 21 (r (Q 22 [E (.build [.ro 8 [] true,.ro 1 [] true] []),E (.build [.int .i64 0,.int .i64 0,.int .i64 0,.int .i64 0] []),m 11,n (st 2 8 22),n (st 4 9 23),d 10 (m 24)] [10,9,8]))))) (s (s (V 25 [h 7 4,ca 279 [25],h 1 6,ca 223 [26,27],d 12 (m 28)] [(1,2)] ⟨false,[],[]⟩) (s (O 29 [m 12,nei 29 0]) (c 30 (r (O 31 [E (.build [.ro 8 [] true,.ro 1 [] true] []),E (.build [.int .i64 0,.int .i64 0,.int .i64 0,.int .i64 0] []),m 12,n (st 2 8 31),n (st 4 9 32),d 10 (m 33)]))))) (s (s (O 34 [m 3,ln 1 34,i 0]) (bk 0 w139_L0 ⟨true,[9,8,6,5,4,3],[]⟩)) w139_c0))))⟩
@[simp] theorem w139_E0:ZL w139_L0 w139_B0 ⟨true,[36,35,34,9,8,6,5,4,3],[]⟩:=ck_lp rfl
def w398:WFn:=⟨2,[.tmp 4],zd (s (O 4 [d 2 (bx 0),i 0]) (s (O 7 [E (.mkfn 494 [T 2]),d 5 (m 7)]) (s (Q 8 [E (.mkfn 497 [T 2]),d 6 (m 8)] [6,5,2,1]) (s (s (O 9 [f 0 2,l 1 9,E (.bin .eql (T 10) (.c (.int .u64 0))),m 11,z 12 (f 1 2),z 12 (l 1 13),z 12 (E (.cvt .i64 (T 14))),z 12 (m 1),z 12 (ge 15 16),po 12 17,m 18,z 19 (m 5),z 19 (E (.callv (T 20) [])),z 19 (nt 21),po 19 22,m 23,z 24 (m 6),z 24 (E (.callv (T 25) [])),z 24 (nt 26),po 24 27]) (c 28 (r (O 4 [i 6])))) (r (O 4 [i 0]))))))⟩
def w399:WFn:=⟨2,[.cell 4 6 true,.tmp 5],zd (s (O 2 [bx 0,bx 1,E (.alloc [.int .u8 0,.str [],.str [],.ro 2 [] true,.str [],.ro 6 [] true]),i 0]) (r (V 6 [f 0 2,l 1 6,f 1 3,l 1 8,ix 9 7 9,f 0 10,h 6 11,h 4 3,f 1 2,l 1 14,ca 501 [12,13,15],ex 0 16,ex 1 16,n (st 6 4 17),d 5 (m 18)] [] ⟨false,[],[]⟩)))⟩
def w226_c0:WCode:=zd (r (O 32 [m 3,E (.build [.ro 6 [] true] [(0,1,T 32)]),n (st 1 2 33)]))
def w226_B0:WCode:=zd (s (O 16 [lt 15 14]) (s (cc 16 (w .skip) (ee 0)) (s (B 1 (s (Q 17 [m 15,ix 6 13 15,h 6 18,d 5 (E (.alloc [.int .u64 0,.int .u8 0,.str [],.ro 1 [] true,.int .i64 0,.bool false])),d 4 (m 17),n (st 6 5 19)] [15,14,13,5,4,3,2]) (s (O 20 [f 0 5,h 4 20,E (.buildS [.int .u64 0,.int .u8 0,.str [],.ro 1 [] true] 1 [(0,T 21)]),ca 340 [22],E (.idxs 4 (T 23) (N 0)),h 4 24,f 0 5,n (st 4 26 25)]) (O 27 [m 3,m 4,h 6 5,ix 6 27 28,n (st 6 30 29)])))) (O 31 [adi 15 1,d 15 (m 31)]))))
def w226_L0:WCode:=.loop ⟨true,[15,14,13,3,2],[]⟩ w226_B0
def w226:WFn:=⟨1,[.cell 2 1 true],zd (s (O 2 [E (.alloc [.ro 6 [] true])]) (s (s (O 6 [m 0,ln 1 6,eqi 7 0]) (c 8 (r (O 9 [E (.build [.ro 6 [] true] []),n (st 1 2 9)])))) (s (O 10 [m 0,ln 1 10,E (.mksl [.int .u64 0,.int .u8 0,.str [],.ro 1 [] true,.int .i64 0,.bool false] 72 (T 11) (T 11)),d 3 (m 12)]) (s (s (O 13 [m 0,ln 1 13,i 0]) (bk 0 w226_L0 ⟨true,[3,2],[]⟩)) w226_c0))))⟩
@[simp] theorem w226_E0:ZL w226_L0 w226_B0 ⟨true,[15,14,13,3,2],[]⟩:=ck_lp rfl
def w400_c0:WCode:=zd (r (O 31 [m 5,d 4 (m 31)]))
def w400_B0:WCode:=zd (s (Q 14 [lt 13 12] [14,13,12,11,5,2]) (s (cc 14 (w .skip) (ee 0)) (s (B 1 (s (O 15 [m 13,ix 4 11 13,h 4 16,d 7 (E (.alloc [.int .u64 0,.int .u8 0,.str [],.ro 1 [] true])),d 6 (m 15),n (st 4 7 17)]) (V 18 [m 5,m 6,h 4 7,f 0 2,l 1 21,f 1 7,l 1 23,ix 9 22 24,f 6 25,l 1 26,E (.build [.int .u64 0,.int .u8 0,.str [],.ro 1 [] true,.int .i64 0,.bool false] [(0,4,T 20),(4,1,T 27)]),ix 6 18 19,n (st 6 29 28)] [] ⟨false,[],[]⟩))) (O 30 [adi 13 1,d 13 (m 30)]))))
def w400_L0:WCode:=.loop ⟨true,[13,12,11,5,2],[]⟩ w400_B0
def w400:WFn:=⟨2,[.tmp 4],zd (s (O 4 [d 2 (bx 0),E (.mv (.c (.ro 6 [] true)))]) (s (O 8 [m 1,ln 1 8,E (.mksl [.int .u64 0,.int .u8 0,.str [],.ro 1 [] true,.int .i64 0,.bool false] 72 (T 9) (T 9)),d 5 (m 10)]) (s (s (O 11 [m 1,ln 1 11,i 0]) (bk 0 w400_L0 ⟨true,[5],[]⟩)) w400_c0)))⟩
@[simp] theorem w400_E0:ZL w400_L0 w400_B0 ⟨true,[13,12,11,5,2],[]⟩:=ck_lp rfl
def w227:WFn:=⟨1,[.tmp 2],zd (s (O 1 [bx 0,i 0]) (s (s (O 3 [h 1 1,ca 111 [3],gti 4 4611686018427387904]) (c 5 (r (O 2 [i 13])))) (r (O 2 [i 0]))))⟩
def w248:WFn:=⟨3,[.tmp 6],zd (s (O 6 [d 3 (bx 0),i 0]) (s (s (O 8 [h 1 3,ca 122 [8],d 7 (m 9)]) (s (O 10 [m 7,nei 10 0]) (c 11 (r (Q 12 [m 7,d 6 (m 12)] [6]))))) (s (B 0 (s (O 14 [m 2,lti 14 1,m 15,z 16 (m 2),z 16 (gti 17 2147483648),po 16 18,d 13 (m 19)]) (cc 13 (r (O 6 [i 1])) (s (O 21 [m 1,lti 21 0,m 22,z 23 (m 1),z 23 (h 1 3),z 23 (ca 111 [25]),z 23 (m 2),z 23 (sb 26 27),z 23 (E (.mx (N 0) (T 28))),z 23 (gt 24 29),po 23 30,d 20 (m 31)]) (c 20 (r (O 6 [i 4]))))))) (r (O 6 [i 0])))))⟩
def w247:WFn:=⟨2,[.tmp 4],zd (s (O 2 [bx 0,bx 1,i 0]) (r (O 5 [l 1 2,ln 1 5,sbi 6 1,E (.mkfn 412 [T 2,T 3]),ca 411 [7,8],d 4 (m 9)])))⟩
def w238:WFn:=⟨3,[.cell 6 6 true,.tmp 7],zd (s (O 6 [d 3 (bx 0),d 4 (bx 1),E (.alloc [.int .u8 0,.str [],.str [],.ro 2 [] true,.str [],.ro 6 [] true]),i 0]) (s (s (O 9 [h 2 3,h 1 4,ca 223 [9,10],d 8 (m 11)]) (s (O 12 [m 8,nei 12 0]) (c 13 (r (O 14 [E (.build [.int .u8 0,.str [],.str [],.ro 2 [] true,.str [],.ro 6 [] true] []),m 8,n (st 6 6 14),d 7 (m 15)]))))) (s (s (Q 16 [m 2,lti 16 0,m 17,z 18 (m 2),z 18 (f 0 4),z 18 (l 1 20),z 18 (ln 1 21),z 18 (ge 19 22),po 18 23] [24,6,4,3,2]) (c 24 (r (O 25 [E (.build [.int .u8 0,.str [],.str [],.ro 2 [] true,.str [],.ro 6 [] true] []),n (st 6 6 25),d 7 (i 4)])))) (r (V 26 [h 2 3,f 0 4,l 1 27,m 2,ix 6 28 29,f 0 30,h 4 31,ca 399 [26,32],ex 0 33,ex 1 33,n (st 6 6 34),d 7 (m 35)] [] ⟨false,[],[]⟩)))))⟩
def w418:WFn:=⟨1,[.cell 2 6 true],zd (s (O 1 [bx 0,E (.alloc [.int .u8 0,.str [],.str [],.ro 2 [] true,.str [],.ro 6 [] true])]) (s (s (O 3 [h 6 1,ca 439 [3],nei 4 0]) (c 5 (r (O 6 [E (.build [.int .u8 0,.str [],.str [],.ro 2 [] true,.str [],.ro 6 [] true] []),n (st 6 2 6)])))) (r (O 7 [h 6 1,E (.call 507 [T 7,.c (.bool false)]),n (st 6 2 8)]))))⟩
def w428:WFn:=⟨2,[.tmp 4],zd (s (O 2 [bx 0,bx 1,ff]) (s (s (U 6 [f 0 3,l 1 6,E (.bin .eql (T 7) (.c (.int .u64 0))),m 8,z 9 (f 1 3),z 9 (l 1 10),z 9 (E (.cvt .i64 (T 11))),z 9 (f 3 2),z 9 (l 1 13),z 9 (ln 1 14),z 9 (ge 12 15),po 9 16,m 17,z 18 (f 2 3),z 18 (h 6 19),z 18 (ca 439 [20]),z 18 (nei 21 0),po 18 22,m 23,z 24 (f 2 3),z 24 (h 6 25),z 24 (ca 140 [26]),z 24 (f 4 2),z 24 (l 1 28),z 24 (gt 27 29),po 24 30] [(21,23)] [31,3,2]) (c 31 (r (O 4 [ff])))) (s (Q 32 [f 3 2,l 1 32,f 1 3,l 1 34,ix 9 33 35,f 0 36,h 6 37,d 5 (E (.alloc [.int .u8 0,.str [],.str [],.ro 3 [] true,.str [],.ro 6 [] true])),n (st 6 5 38)] [5,3]) (r (O 39 [f 2 3,f 0 39,l 1 40,f 0 5,l 1 42,eq 41 43,m 44,y 45 (f 2 3),y 45 (f 1 46),y 45 (l 1 47),y 45 (f 1 5),y 45 (l 1 49),y 45 (eq 48 50),pa 45 51,d 4 (m 52)])))))⟩
def w429:WFn:=⟨2,[.tmp 4],zd (s (O 4 [ff]) (r (O 5 [m 0,m 1,ca 514 [5,6],gei 7 0,d 4 (m 8)])))⟩
def w430:WFn:=⟨3,[.tmp 4],zd (s (O 3 [bx 0,ff]) (r (O 5 [f 1 3,l 1 5,E (.cvt .i64 (T 6)),l 1 1,ne 7 8,m 9,z 10 (h 7 2),z 10 (h 8 3),z 10 (ca 428 [11,12]),z 10 (nt 13),po 10 14,d 4 (m 15)])))⟩
def w515:WFn:=⟨1,[.cell 2 6 true],zd (s (O 1 [bx 0,E (.alloc [.int .u8 0,.str [],.str [],.ro 2 [] true,.str [],.ro 6 [] true])]) (s (s (O 3 [h 6 1,ca 439 [3],nei 4 0]) (c 5 (r (O 6 [E (.build [.int .u8 0,.str [],.str [],.ro 2 [] true,.str [],.ro 6 [] true] []),n (st 6 2 6)])))) (r (O 7 [h 6 1,E (.call 507 [T 7,.c (.bool true)]),n (st 6 2 8)]))))⟩
def w404:WFn:=⟨1,[.tmp 2],zd (s (O 1 [bx 0,i 0]) (r (O 3 [E (.call 502 [T 1,.c (.fn 503 [])]),d 2 (m 3)])))⟩
def w97:WFn:=⟨0,[.tmp 0],zd (s (O 0 [E (.mv (.c .nilp))]) (r (O 1 [E (.build [.ro 3 [] true,.int .i64 0,.int .i64 0] []),bx 1,d 0 (m 2)])))⟩
def w379:WFn:=⟨3,[.tmp 6],zd (s (O 6 [d 3 (bx 0),i 0]) (s (O 10 [m 2,f 0 3,l 1 11,ca 1100 [10,12],d 9 (m 13),ex 0 9,ex 1 9,d 7 (m 14),d 8 (m 15)]) (s (B 0 (s (Q 17 [f 0 3,l 1 17,E (.bin .eql (T 18) (.c (.int .u64 0))),d 16 (m 19)] [16,8,3,2,1]) (cc 16 (r (O 6 [i 9])) (s (O 21 [f 1 3,l 1 21,m 1,lt 22 23,m 24,z 25 (f 1 3),z 25 (l 1 26),z 25 (gti 27 2305843009213693952),po 25 28,d 20 (m 29)]) (cc 20 (r (O 6 [i 12])) (s (O 31 [m 8,d 30 (m 31)]) (c 30 (r (O 6 [i 8]))))))))) (r (O 32 [m 2,f 0 3,l 1 33,E (.call 99 [T 32,T 34,N 0]),d 6 (m 35)])))))⟩
def w122:WFn:=⟨1,[.tmp 2],zd (s (O 1 [bx 0,i 0]) (s (s (O 3 [f 0 1,l 1 3,ln 1 4,gti 5 1024]) (c 6 (r (O 2 [i 3])))) (s (s (O 7 [f 0 1,l 1 7,E (.call 249 [T 8,.c (.fn 250 [])])]) (c 9 (r (O 2 [i 12])))) (s (s (O 10 [h 1 1,ca 111 [10],gti 11 4611686018427387904]) (c 12 (r (O 2 [i 13])))) (r (O 2 [i 0]))))))⟩
def w680:WFn:=⟨2,[.tmp 4],zd (s (O 4 [E (.mv (.c (.fn 1000000 [])))]) (s (U 7 [m 0,nk 7,f 0 8,f 8 9,h 1 10,m 0,nk 12,f 0 13,f 9 14,l 1 15,m 1,ca 313 [11,16,17],d 6 (m 18),ex 0 6,ex 1 6,d 1 (m 19),d 5 (m 20)] [] [5,1,0]) (s (s (O 21 [m 5,eqi 21 0]) (c 22 (O 24 [m 0,m 0,nk 25,f 0 26,f 8 27,h 1 28,m 1,ca 160 [29,30],d 23 (m 31),ex 0 23,ex 1 23,nk 24,f 23 34,n (st 2 35 32),d 5 (m 33)]))) (r (O 36 [m 5,ca 665 [36],d 4 (m 37)])))))⟩
def w315:WFn:=⟨2,[.tmp 4],zd (s (O 4 [i 0]) (s (B 0 (s (Q 6 [m 1,gti 6 0,m 7,y 8 (m 0),y 8 (m 1),y 8 (E (.bin .sub (N 9223372036854775807) (T 10))),y 8 (gt 9 11),pa 8 12,d 5 (m 13)] [5,1,0]) (cc 5 (r (O 4 [i 9223372036854775807])) (s (O 15 [m 1,lti 15 0,m 16,y 17 (m 0),y 17 (m 1),y 17 (E (.bin .sub (N (-9223372036854775808)) (T 19))),y 17 (lt 18 20),pa 17 21,d 14 (m 22)]) (c 14 (r (O 4 [i (-9223372036854775808)]))))))) (r (O 23 [m 0,m 1,ad 23 24,d 4 (m 25)]))))⟩
def w224:WFn:=⟨2,[.tmp 4,.tmp 5],zd (s (O 2 [bx 0,bx 1,i 0,ff]) (s (O 6 [f 0 2,l 1 6,E (.mkfn 403 [T 3]),ca 402 [7,8],d 4 (m 9)]) (r (O 10 [m 4,E (.mx (T 10) (N 0)),m 4,gei 12 0,d 4 (m 11),d 5 (m 13)]))))⟩
def w171_c0:WCode:=zd (r (O 49 [h 1 6,m 2,ln 1 50,m 8,n (st 1 6 49),d 7 (m 51),d 8 (m 52)]))
def w171_B0:WCode:=zd (s (O 32 [lt 31 30]) (s (cc 32 (w .skip) (ee 0)) (s (B 1 (s (O 33 [m 31,ix 5 29 31,h 5 34,d 11 (E (.alloc [.int .u8 0,.int .i64 0,.int .i64 0,.int .i64 0,.ro 4 [] true])),d 10 (m 33),n (st 5 11 35)]) (s (Q 37 [h 2 3,h 1 6,h 5 11,ca 343 [37,38,39],d 36 (m 40),ex 0 36,ex 1 36,n (st 1 6 41),d 8 (m 42)] [31,30,29,10,8,6,3,2]) (s (O 43 [m 8,nei 43 0]) (c 44 (r (O 45 [E (.build [.ro 6 [] true] []),m 10,m 8,n (st 1 6 45),d 7 (m 46),d 8 (m 47)]))))))) (O 48 [adi 31 1,d 31 (m 48)]))))
def w171_L0:WCode:=.loop ⟨true,[31,30,29,8,6,3,2],[]⟩ w171_B0
def w171:WFn:=⟨3,[.cell 6 1 true,.tmp 7,.tmp 8],zd (s (O 6 [d 3 (bx 0),d 4 (bx 1),E (.alloc [.ro 6 [] true]),i 0,i 0]) (s (s (O 12 [h 2 3,h 1 4,ca 223 [12,13],d 9 (m 14)]) (s (O 15 [m 9,nei 15 0]) (c 16 (r (O 17 [E (.build [.ro 6 [] true] []),m 9,n (st 1 6 17),d 7 (i 0),d 8 (m 18)]))))) (s (s (Q 19 [m 2,ln 1 19,gti 20 32] [21,6,4,3,2]) (c 21 (r (O 7 [d 22 (E (.build [.ro 6 [] true] [])),n (st 1 6 22),i 0,i 3])))) (s (O 24 [h 2 3,h 1 4,E (.call 110 [T 24,T 25,N 0,N 0]),d 23 (m 26),ex 0 23,ex 1 23,n (st 1 6 27),d 8 (m 28)]) (s (s (O 29 [m 2,ln 1 29,i 0]) (bk 0 w171_L0 ⟨true,[8,6,2],[]⟩)) w171_c0)))))⟩
@[simp] theorem w171_E0:ZL w171_L0 w171_B0 ⟨true,[31,30,29,8,6,3,2],[]⟩:=ck_lp rfl
def w324:WFn:=primW 0
def w113:WFn:=⟨4,[.cell 8 1 true,.tmp 9],zd (s (O 8 [d 4 (bx 0),d 5 (bx 1),E (.alloc [.ro 6 [] true]),i 0]) (s (s (O 15 [h 2 4,h 1 5,ca 223 [15,16],d 10 (m 17)]) (s (O 18 [m 10,nei 18 0]) (c 19 (r (O 20 [E (.build [.ro 6 [] true] []),m 10,n (st 1 8 20),d 9 (m 21)]))))) (s (Q 23 [h 1 5,m 2,ca 224 [23,24],d 22 (m 25),ex 0 22,ex 1 22,d 11 (m 26),d 12 (m 27)] [12,11,8,5,3]) (s (B 0 (s (O 29 [m 12,nt 29,d 28 (m 30)]) (cc 28 (r (O 31 [E (.build [.ro 6 [] true] []),n (st 1 8 31),d 9 (i 11)])) (s (O 33 [m 3,ca 225 [33],nt 34,d 32 (m 35)]) (c 32 (r (O 36 [E (.build [.ro 6 [] true] []),n (st 1 8 36),d 9 (i 12)]))))))) (s (O 37 [f 0 5,l 1 37,ca 2001 [38],d 13 (E (.alloc [.ro 6 [] true])),n (st 1 13 39)]) (s (U 40 [f 0 13,l 1 40,m 11,f 0 13,l 1 43,m 11,m 3,ix 6 41 42,f 4 47,n (st 1 48 46),ix 6 44 45,f 5 49,n (E (.store 1 (T 50) (.c (.bool true))))] [(4,9)] [13,8]) (s (s (O 51 [h 1 13,ca 227 [51],d 14 (m 52)]) (s (O 53 [m 14,nei 53 0]) (c 54 (r (O 55 [E (.build [.ro 6 [] true] []),m 14,n (st 1 8 55),d 9 (m 56)]))))) (r (O 57 [h 1 13,n (st 1 8 57),d 9 (i 0)])))))))))⟩
def w344:WFn:=⟨4,[.tmp 8],zd (s (O 4 [bx 0,bx 1,bx 2,d 8 (i 0)]) (s (s (O 16 [h 5 4,ca 464 [16],d 9 (m 17)]) (s (O 18 [m 9,nei 18 0]) (c 19 (r (Q 20 [m 9,d 8 (m 20)] [8]))))) (s (s (O 21 [f 0 4,h 2 21,h 1 5,ca 223 [22,23],d 10 (m 24)]) (s (O 25 [m 10,nei 25 0]) (c 26 (r (O 27 [m 10,d 8 (m 27)]))))) (s (s (O 29 [m 3,f 4 4,l 1 30,ca 201 [29,31],d 28 (m 32),ex 0 28,ex 1 28,d 11 (m 33),d 12 (m 34)]) (s (O 35 [m 12,nei 35 0]) (c 36 (r (O 37 [m 12,d 8 (m 37)]))))) (s (s (Q 38 [h 2 6,ca 318 [38],d 13 (m 39)] [13,6,5]) (s (O 40 [m 13,nei 40 0]) (c 41 (r (O 42 [m 13,d 8 (m 42)]))))) (s (s (O 44 [h 1 5,f 0 6,l 1 45,ca 224 [44,46],d 43 (m 47),ex 0 43,ex 1 43,d 14 (m 48),d 15 (m 49)]) (s (O 50 [f 0 6,l 1 50,E (.bin .neq (T 51) (.c (.int .u64 0))),m 52,y 53 (m 15),y 53 (nt 54),pa 53 55]) (c 56 (r (O 8 [i 11]))))) (r (O 8 [i 0]))))))))⟩
def w3001:WFn:=⟨2,[.cell 4 1 true],zd (s (O 2 [bx 0,bx 1,E (.alloc [.ro 6 [] true])]) (s (O 8 [f 0 2,h 2 8,h 1 3,E (.call 3002 [T 9,T 10,N 0,N 0]),d 7 (m 11),ex 0 7,ex 1 7,d 5 (E (.alloc [.ro 6 [] true])),n (st 1 5 12),d 6 (m 13)]) (r (O 14 [h 1 5,n (st 1 4 14)]))))⟩
def w2019_c0:WCode:=zd (r (O 68 [m 8,m 11,ln 1 69,d 8 (m 68),d 9 (m 70),d 10 (i 0)]))
def w2019_B0:WCode:=zd (s (O 44 [lt 43 42]) (s (cc 44 (w .skip) (ee 0)) (s (B 1 (s (O 45 [ix 1 41 43,l 1 45,d 13 (m 46)]) (s (O 47 [f 0 5,l 1 47,m 13,ix 6 48 49,d 14 (m 50)]) (s (U 51 [m 14,m 14,h 5 4,m 14,nk 54,f 0 55,h 4 56,m 3,ca 351 [53,57,58],nk 51,f 4 60,n (st 1 61 59),nk 52,f 5 62,n (E (.store 1 (T 63) (.c (.bool true))))] [] [43,42,41,11,8,5,4,3]) (s (O 64 [h 1 5,ca 111 [64],gti 65 4611686018427387904]) (c 66 (r (O 8 [i 0,i 0,i 13])))))))) (O 67 [adi 43 1,d 43 (m 67)]))))
def w2019_L0:WCode:=.loop ⟨true,[43,42,41,11,8,5,4,3],[]⟩ w2019_B0
def w2019:WFn:=⟨4,[.tmp 8,.tmp 9,.tmp 10],zd (s (O 8 [d 4 (bx 0),d 5 (bx 1),d 6 (bx 2),i 0,i 0,i 0]) (s (O 16 [h 1 5,f 2 4,l 1 17,h 2 6,ca 161 [16,18,19],d 15 (m 20),ex 0 15,ex 1 15,d 8 (m 21),d 10 (m 22)]) (s (s (O 23 [m 10,nei 23 0]) (c 24 (r (O 8 [d 25 (m 10),i 0,i 0,m 25])))) (s (Q 27 [f 0 4,h 2 27,h 1 5,m 8,f 2 4,l 1 31,f 3 4,l 1 33,ca 4001 [28,29,30,32,34],d 26 (m 35),ex 0 26,ex 1 26,d 11 (m 36),d 10 (m 37)] [11,10,8,5,4,3]) (s (s (O 38 [m 10,nei 38 0]) (c 39 (r (O 8 [d 40 (m 10),i 0,i 0,m 40])))) (s (s (O 41 [m 11,ln 1 41,i 0]) (bk 0 w2019_L0 ⟨true,[11,8],[]⟩)) w2019_c0))))))⟩
@[simp] theorem w2019_E0:ZL w2019_L0 w2019_B0 ⟨true,[43,42,41,11,8,5,4,3],[]⟩:=ck_lp rfl
def w280_c0:WCode:=zd (s (O 199 [h 2 8,ca 289 [199],f 3 9,n (st 1 201 200)]) (r (V 202 [h 2 8,h 4 9,n (st 2 8 202),n (st 4 9 203)] [(1,2)] ⟨false,[],[]⟩)))
def w280_B0:WCode:=zd (s (O 128 [lt 127 126]) (s (cc 128 (w .skip) (ee 7)) (s (B 8 (s (O 129 [ix 1 125 127,l 1 129,d 23 (m 130)]) (s (O 131 [f 0 6,l 1 131,m 23,ix 6 132 133,f 0 134,h 4 135,d 24 (E (.alloc [.int .u64 0,.int .u8 0,.str [],.ro 1 [] true])),n (st 4 24 136)]) (s (U 138 [h 7 4,ca 279 [138],f 0 6,l 1 140,m 23,m 23,adi 143 1,m 23,adi 145 1,E (.slice 6 (T 141) (some (T 142)) (some (T 144)) (some (T 146))),E (.build [.ro 6 [] true] [(0,1,T 147)]),E (.call 238 [T 139,T 148,N 0]),d 137 (m 149),ex 0 137,ex 1 137,d 25 (E (.alloc [.int .u8 0,.str [],.str [],.ro 2 [] true,.str [],.ro 6 [] true])),n (st 6 25 150),d 26 (m 151)] [(1,3),(0,15),(1,15),(3,15),(11,15)] [127,126,125,25,24,16,9,8,6,4]) (s (O 152 [f 0 8,l 1 152,f 0 24,l 1 154,f 1 24,l 1 156,h 6 25,E (.build [.int .u64 0,.int .u8 0,.int .u8 0,.str [],.str [],.ro 2 [] true,.str [],.ro 6 [] true] [(0,1,T 155),(1,1,T 157),(2,6,T 158)]),E (.buildS [.int .u64 0,.int .u8 0,.int .u8 0,.str [],.str [],.ro 2 [] true,.str [],.ro 6 [] true] 1 [(0,T 159)]),E (.app [.int .u64 0,.int .u8 0,.int .u8 0,.str [],.str [],.ro 2 [] true,.str [],.ro 6 [] true] 120 false (T 153) (T 160)),f 0 8,n (st 1 162 161)]) (s (Q 163 [f 1 8,l 1 163,f 1 24,l 1 165,ix 1 164 166,d 27 (m 167)] [127,126,125,27,24,16,9,8,6,4]) (s (O 168 [m 27,nk 168,l 1 169,ln 1 170,d 28 (m 171)]) (B 9 (s (O 177 [m 16,f 0 24,l 1 178,E (.look 0 (.bool false) false (T 177) (T 179)),d 176 (m 180)]) (cc 176 (w .skip) (s (O 182 [m 28,gti 182 0,d 181 (m 183)]) (cc 181 (s (Q 184 [m 27,m 27,nk 185,l 1 186,m 28,sbi 188 1,m 28,sbi 190 1,E (.slice 8 (T 187) none (some (T 189)) (some (T 191))),nk 184,n (st 1 193 192)] [127,126,125,16,9,8,6,4]) (O 194 [f 0 9,l 1 194,adi 195 1,f 0 9,n (st 1 197 196)])) (O 172 [f 1 9,l 1 172,adi 173 1,f 1 9,n (st 1 175 174)]))))))))))))) (O 198 [adi 127 1,d 127 (m 198)]))))
def w280_L0:WCode:=.loop ⟨true,[127,126,125,16,9,8,6,4],[]⟩ w280_B0
def w280_c1:WCode:=zd (s (s (O 125 [m 3,ln 1 125,i 0]) (bk 7 w280_L0 ⟨true,[9,8],[]⟩)) w280_c0)
def w280_B1:WCode:=zd (s (O 73 [lt 72 71]) (s (cc 73 (w .skip) (ee 4)) (s (B 5 (s (O 74 [ix 8 70 72,h 8 74,d 18 (E (.alloc [.int .u64 0,.int .u8 0,.int .u8 0,.str [],.str [],.ro 2 [] true,.str [],.ro 6 [] true])),n (st 8 18 75)]) (s (O 76 [f 1 8,l 1 76,f 1 18,l 1 78,ix 1 77 79,d 19 (m 80)]) (s (O 82 [m 10,f 0 18,l 1 83,E (.look 0 (.int .u8 0) true (T 82) (T 84)),d 81 (m 85),ex 0 81,ex 1 81,d 20 (m 86),d 21 (m 87)]) (B 6 (s (Q 93 [m 21,m 93,y 94 (m 20),y 94 (f 1 18),y 94 (l 1 96),y 94 (eq 95 97),pa 94 98,d 92 (m 99)] [92,72,71,70,19,18,16,10,9,8,6,4,3]) (cc 92 (O 100 [m 16,f 0 18,l 1 101,n (E (.upd 0 (T 100) (T 102) (.c (.bool true))))]) (s (V 104 [m 19,nk 104,l 1 105,ln 1 106,f 3 4,l 1 108,f 1 18,l 1 110,ix 9 109 111,f 8 112,l 1 113,lt 107 114,d 103 (m 115)] [] ⟨false,[],[]⟩) (cc 103 (U 116 [m 19,m 19,nk 117,l 1 118,h 8 18,E (.buildS [.int .u64 0,.int .u8 0,.int .u8 0,.str [],.str [],.ro 2 [] true,.str [],.ro 6 [] true] 1 [(0,T 120)]),E (.app [.int .u64 0,.int .u8 0,.int .u8 0,.str [],.str [],.ro 2 [] true,.str [],.ro 6 [] true] 120 false (T 119) (T 121)),nk 116,n (st 1 123 122)] [(3,5)] [72,71,70,16,10,9,8,6,4,3]) (O 88 [f 2 9,l 1 88,adi 89 1,f 2 9,n (st 1 91 90)])))))))))) (O 124 [adi 72 1,d 72 (m 124)]))))
def w280_L1:WCode:=.loop ⟨true,[72,71,70,16,10,9,8,6,4,3],[]⟩ w280_B1
def w280_c2:WCode:=zd (s (O 68 [E .mkmap,d 16 (m 68)]) (s (s (Q 69 [f 0 5,l 1 69,ln 1 70,i 0] [72,71,70,16,10,9,8,6,4,3]) (bk 4 w280_L1 ⟨true,[16,9,8,6,4,3],[]⟩)) w280_c1))
def w280_B2:WCode:=zd (s (O 57 [lt 56 55]) (s (cc 57 (w .skip) (ee 2)) (s (B 3 (s (O 58 [m 56,ix 1 54 56,l 1 59,d 14 (m 58),d 15 (m 60)]) (V 61 [f 1 8,l 1 61,m 14,m 15,ca 3009 [64],ix 1 62 63,n (st 1 66 65)] [(1,4)] ⟨false,[],[]⟩))) (O 67 [adi 56 1,d 56 (m 67)]))))
def w280_L2:WCode:=.loop ⟨true,[56,55,54,10,9,8,6,5,4,3],[]⟩ w280_B2
def w280_c3:WCode:=zd (s (Q 48 [f 1 5,l 1 48,ln 1 49,E (.mksl [.ro 8 [] true] 24 (T 50) (T 50)),f 1 8,n (st 1 52 51)] [10,9,8,6,5,4,3]) (s (s (O 53 [f 1 5,l 1 53,ln 1 54,i 0]) (bk 2 w280_L2 ⟨true,[10,9,8,6,5,4,3],[]⟩)) w280_c2))
def w280_B3:WCode:=zd (s (O 33 [lt 32 31]) (s (cc 33 (w .skip) (ee 0)) (s (B 1 (s (O 34 [ix 1 30 32,l 1 34,d 12 (m 35)]) (s (O 36 [f 0 6,l 1 36,m 12,ix 6 37 38,f 0 39,h 4 40,d 13 (E (.alloc [.int .u64 0,.int .u8 0,.str [],.ro 1 [] true])),n (st 4 13 41)]) (O 42 [m 10,f 0 13,l 1 43,f 1 13,l 1 45,n (E (.upd 0 (T 42) (T 44) (T 46)))])))) (O 47 [adi 32 1,d 32 (m 47)]))))
def w280_L3:WCode:=.loop ⟨true,[32,31,30,10,9,8,6,5,4,3],[]⟩ w280_B3
def w280:WFn:=⟨4,[.cell 8 2 true,.cell 9 4 true],zd (s (O 4 [bx 0,bx 1,bx 2,d 8 (E (.alloc [.ro 8 [] true,.ro 1 [] true])),d 9 (E (.alloc [.int .i64 0,.int .i64 0,.int .i64 0,.int .i64 0]))]) (s (Q 29 [E .mkmap,d 10 (m 29)] [10,9,8,6,5,4,3]) (s (s (O 30 [m 3,ln 1 30,i 0]) (bk 0 w280_L3 ⟨true,[10,9,8,6,5,4,3],[]⟩)) w280_c3)))⟩
@[simp] theorem w280_E0:ZL w280_L0 w280_B0 ⟨true,[127,126,125,16,9,8,6,4],[]⟩:=ck_lp rfl
@[simp] theorem w280_E1:ZL w280_L1 w280_B1 ⟨true,[72,71,70,16,10,9,8,6,4,3],[]⟩:=ck_lp rfl
@[simp] theorem w280_E2:ZL w280_L2 w280_B2 ⟨true,[56,55,54,10,9,8,6,5,4,3],[]⟩:=ck_lp rfl
@[simp] theorem w280_E3:ZL w280_L3 w280_B3 ⟨true,[32,31,30,10,9,8,6,5,4,3],[]⟩:=ck_lp rfl
def w494:WFn:=⟨1,[.tmp 1],zd (s (O 1 [ff]) (r (O 2 [f 2 0,l 1 2,ln 0 3,lei 4 64,m 5,y 6 (f 2 0),y 6 (l 1 7),y 6 (E (.call 495 [T 8,.c (.fn 496 [])])),y 6 (nt 9),pa 6 10,d 1 (m 11)])))⟩
def w495:WFn:=⟨2,[.tmp 4],zd (s (O 4 [ff]) (r (O 5 [m 0,m 1,ca 543 [5,6],gei 7 0,d 4 (m 8)])))⟩
def w496:WFn:=⟨1,[.tmp 2],zd (s (O 2 [ff]) (r (O 3 [m 0,E (.bin .lss (T 3) (.c (.int .i32 32))),m 4,z 5 (m 0),z 5 (E (.bin .gtr (T 6) (.c (.int .i32 126)))),po 5 7,d 2 (m 8)])))⟩
def w497:WFn:=⟨1,[.tmp 1],zd (s (O 1 [ff]) (r (O 2 [f 3 0,l 1 2,ln 1 3,lei 4 8,m 5,y 6 (f 3 0),y 6 (l 1 7),y 6 (E (.call 498 [T 8,.c (.fn 499 [])])),y 6 (nt 9),pa 6 10,d 1 (m 11)])))⟩
def w498:WFn:=⟨2,[.tmp 4],zd (s (O 4 [ff]) (r (O 5 [m 0,m 1,ca 544 [5,6],gei 7 0,d 4 (m 8)])))⟩
def w499:WFn:=⟨1,[.tmp 2],zd (s (O 2 [ff]) (r (O 3 [m 0,ca 500 [3],nt 4,d 2 (m 5)])))⟩
def w500:WFn:=⟨1,[.tmp 2],zd (s (O 2 [ff]) (s (O 3 [E (.mv (.c (.fn 545 [])))]) (r (O 4 [m 0,E (.bin .neq (T 4) (.c (.str []))),m 5,y 6 (m 0),y 6 (ln 0 7),y 6 (lei 8 16),pa 6 9,m 10,y 11 (m 0),y 11 (m 3),y 11 (ca 495 [12,13]),y 11 (nt 14),pa 11 15,d 2 (m 16)]))))⟩
def w501:WFn:=⟨3,[.cell 6 6 true,.tmp 7],zd (s (O 6 [d 3 (bx 0),d 4 (bx 1),E (.alloc [.int .u8 0,.str [],.str [],.ro 2 [] true,.str [],.ro 6 [] true]),i 0]) (s (s (Q 12 [m 2,lti 12 1,m 13,z 14 (m 2),z 14 (gti 15 64),po 14 16] [17,6,4,3,2]) (c 17 (r (O 18 [E (.build [.int .u8 0,.str [],.str [],.ro 2 [] true,.str [],.ro 6 [] true] []),n (st 6 6 18),d 7 (i 1)])))) (s (s (O 19 [h 6 3,ca 231 [19],d 8 (m 20)]) (s (O 21 [m 8,nei 21 0]) (c 22 (r (O 23 [E (.build [.int .u8 0,.str [],.str [],.ro 2 [] true,.str [],.ro 6 [] true] []),m 8,n (st 6 6 23),d 7 (m 24)]))))) (s (s (O 25 [h 4 4,ca 546 [25],d 9 (m 26)]) (s (O 27 [m 9,nei 27 0]) (c 28 (r (O 29 [E (.build [.int .u8 0,.str [],.str [],.ro 2 [] true,.str [],.ro 6 [] true] []),m 9,n (st 6 6 29),d 7 (m 30)]))))) (s (Q 31 [h 4 4,E (.build [.int .u64 0,.int .u8 0,.str [],.ro 1 [] true] [(0,4,T 31)]),h 6 3,E (.buildS [.int .u8 0,.str [],.str [],.ro 3 [] true,.str [],.ro 6 [] true] 1 [(0,T 33)]),ca 547 [32,34],E (.idxs 6 (T 35) (N 0)),h 6 36,d 10 (E (.alloc [.int .u8 0,.str [],.str [],.ro 2 [] true,.str [],.ro 6 [] true])),n (st 6 10 37)] [10,6,2]) (s (s (O 38 [h 6 10,ca 140 [38],d 11 (m 39)]) (s (O 40 [m 11,eqi 40 0,m 41,z 42 (m 11),z 42 (m 2),z 42 (gt 43 44),po 42 45]) (c 46 (r (O 47 [E (.build [.int .u8 0,.str [],.str [],.ro 2 [] true,.str [],.ro 6 [] true] []),n (st 6 6 47),d 7 (i 14)]))))) (r (O 48 [h 6 10,n (st 6 6 48),d 7 (i 0)]))))))))⟩
def w340_c0:WCode:=zd (r (O 23 [m 3,d 2 (m 23)]))
def w340_B0:WCode:=zd (s (O 10 [lt 9 8]) (s (cc 10 (w .skip) (ee 0)) (s (B 1 (s (O 11 [m 9,d 4 (m 11)]) (O 12 [m 3,m 4,m 3,m 4,ix 4 14 15,f 3 16,l 1 17,ca 460 [18],ix 4 12 13,f 3 20,n (st 1 21 19)]))) (O 22 [adi 9 1,d 9 (m 22)]))))
def w340_L0:WCode:=.loop ⟨true,[9,8,3],[]⟩ w340_B0
def w340:WFn:=⟨1,[.tmp 2],zd (s (O 2 [E (.mv (.c (.ro 4 [] true)))]) (s (Q 5 [m 0,ca 459 [5],d 3 (m 6)] [3]) (s (s (O 7 [m 3,ln 1 7,i 0]) (bk 0 w340_L0 ⟨true,[3],[]⟩)) w340_c0)))⟩
@[simp] theorem w340_E0:ZL w340_L0 w340_B0 ⟨true,[9,8,3],[]⟩:=ck_lp rfl
def w411_c0:WCode:=zd (r (O 25 [m 5,d 4 (m 25)]))
def w411_B0:WCode:=zd (s (s (O 9 [m 5,m 6,lt 9 10]) (cc 11 (w .skip) (ee 0))) (B 1 (s (O 12 [m 5,m 6,ad 12 13,E (.cvt .u64 (T 14)),E (.bin .shr (T 15) (.c (.int .u64 1))),E (.cvt .i64 (T 16)),d 7 (m 17)]) (s (O 18 [m 1,m 7,E (.callv (T 18) [T 19]),nt 20]) (cc 21 (O 22 [m 7,adi 22 1,d 5 (m 23)]) (O 24 [m 7,d 6 (m 24)]))))))
def w411_L0:WCode:=.loop ⟨true,[6,5,1],[]⟩ w411_B0
def w411:WFn:=⟨2,[.tmp 4],zd (s (O 4 [i 0]) (s (Q 5 [d 8 (m 0),i 0,m 8] [6,5,1]) (s (bk 0 w411_L0 ⟨true,[5],[]⟩) w411_c0)))⟩
@[simp] theorem w411_E0:ZL w411_L0 w411_B0 ⟨true,[6,5,1],[]⟩:=ck_lp rfl
def w412:WFn:=⟨3,[.tmp 4],zd (s (O 4 [ff]) (r (V 5 [l 1 1,m 0,adi 6 1,ix 1 5 7,l 1 8,l 1 2,gt 9 10,d 4 (m 11)] [] ⟨false,[],[]⟩)))⟩
def w439:WFn:=⟨1,[.tmp 2],zd (s (O 1 [bx 0,i 0]) (s (s (O 3 [h 6 1,ca 140 [3],eqi 4 0]) (c 5 (r (O 2 [i 14])))) (r (O 2 [i 0]))))⟩
def w507_c0:WCode:=zd (s (O 35 [m 5,f 5 2,n (st 1 36 35)]) (r (O 37 [h 6 2,n (st 6 4 37)])))
def w507_B0:WCode:=zd (s (O 24 [lt 23 22]) (s (cc 24 (w .skip) (ee 0)) (s (B 1 (s (O 25 [m 23,ix 6 21 23,h 6 26,d 7 (E (.alloc [.int .u8 0,.str [],.str [],.ro 2 [] true,.str [],.ro 6 [] true])),d 6 (m 25),n (st 6 7 27)]) (O 28 [m 5,m 6,h 6 7,m 1,ca 507 [30,31],ix 6 28 29,n (st 6 33 32)]))) (O 34 [adi 23 1,d 23 (m 34)]))))
def w507_L0:WCode:=.loop ⟨true,[23,22,21,5,4,2,1],[]⟩ w507_B0
def w507:WFn:=⟨2,[.cell 4 6 true],zd (s (O 4 [d 2 (bx 0),E (.alloc [.int .u8 0,.str [],.str [],.ro 2 [] true,.str [],.ro 6 [] true])]) (s (s (O 8 [m 1,nt 8]) (c 9 (O 10 [f 2 2,n (E (.store 1 (T 10) (.c (.str []))))]))) (s (O 11 [f 3 2,l 1 11,ca 554 [12],ca 553 [13],f 3 2,n (st 1 15 14)]) (s (O 16 [f 5 2,l 1 16,ln 1 17,E (.mksl [.int .u8 0,.str [],.str [],.ro 2 [] true,.str [],.ro 6 [] true] 104 (T 18) (T 18)),d 5 (m 19)]) (s (s (Q 20 [f 5 2,l 1 20,ln 1 21,i 0] [23,22,21,5,4,2,1]) (bk 0 w507_L0 ⟨true,[5,4,2],[]⟩)) w507_c0)))))⟩
@[simp] theorem w507_E0:ZL w507_L0 w507_B0 ⟨true,[23,22,21,5,4,2,1],[]⟩:=ck_lp rfl
def w140:WFn:=⟨1,[.tmp 2],zd (s (O 1 [bx 0,i 0]) (s (O 6 [h 6 1,ca 282 [6],d 5 (m 7),ex 0 5,ex 1 5,d 3 (m 8),d 4 (m 9)]) (r (O 10 [m 3,d 2 (m 10)]))))⟩
def w514_c0:WCode:=zd (r (O 4 [i (-1)]))
def w514_B0:WCode:=zd (s (O 9 [lt 8 7]) (s (cc 9 (w .skip) (ee 0)) (s (B 1 (s (O 10 [m 8,d 5 (m 10)]) (s (O 11 [m 1,m 0,m 5,ix 8 12 13,h 8 14,E (.callv (T 11) [T 15])]) (c 16 (r (O 17 [m 5,d 4 (m 17)])))))) (O 18 [adi 8 1,d 8 (m 18)]))))
def w514_L0:WCode:=.loop ⟨true,[8,7,1,0],[]⟩ w514_B0
def w514:WFn:=⟨2,[.tmp 4],zd (s (O 4 [i 0]) (s (s (O 6 [m 0,ln 1 6,i 0]) (bk 0 w514_L0 ⟨true,[],[]⟩)) w514_c0))⟩
@[simp] theorem w514_E0:ZL w514_L0 w514_B0 ⟨true,[8,7,1,0],[]⟩:=ck_lp rfl
def w502:WFn:=⟨2,[.tmp 4],zd (s (O 3 [bx 1,i 0]) (s (s (O 7 [m 0,nk 7,f 0 8,l 1 9,E (.bin .neq (T 10) (.c (.int .u8 1)))]) (c 11 (r (O 4 [i 0])))) (s (O 5 [E (.alloc [.int .i64 0]),n (E (.store 1 (T 5) (N 0)))]) (s (O 6 [E (.alloc [.nilf])]) (s (O 12 [E (.mkfn 548 [T 5,T 3,T 6]),n (st 1 6 12)]) (s (s (O 13 [l 1 6,m 0,E (.callv (T 13) [T 14,N 1]),nt 15]) (c 16 (r (O 4 [i 0])))) (r (O 17 [l 1 5,d 4 (m 17)]))))))))⟩
def w503:WFn:=⟨1,[],zd (w .skip)⟩
def w1100:WFn:=⟨2,[.tmp 4,.tmp 5],zd (s (O 4 [i 0,ff]) (s (s (O 7 [m 0,ca 1102 [7],eqi 8 0]) (c 9 (r (Q 4 [i 0,ff] [5,4])))) (s (O 11 [m 0,m 1,ca 1191 [11,12],d 10 (m 13),ex 0 10,ex 1 10,d 6 (m 14),d 5 (m 15)]) (s (s (O 16 [m 5,nt 16]) (c 17 (r (O 4 [i 0,ff])))) (r (O 18 [m 0,nk 18,f 0 19,l 1 20,m 6,ix 3 21 22,f 2 23,l 1 24,d 4 (m 25),d 5 tt]))))))⟩
def w99:WFn:=⟨3,[.tmp 6],zd (s (O 6 [i 0]) (s (B 0 (s (O 12 [m 0,E (.eqv 2 [] false (T 12) (.c .nilp)),d 11 (m 13)]) (cc 11 (r (O 6 [i 2])) (s (O 15 [m 1,E (.bin .eql (T 15) (.c (.int .u64 0))),d 14 (m 16)]) (c 14 (r (O 6 [i 9]))))))) (s (s (Q 17 [m 0,nk 17,f 0 18,l 1 19,ln 1 20,gti 21 0] [22,2,1,0]) (c 22 (s (O 24 [m 0,m 1,ca 1191 [24,25],d 23 (m 26),ex 0 23,ex 1 23,d 7 (m 27),d 8 (m 28)]) (s (O 29 [m 8]) (c 29 (s (O 30 [m 0,nk 30,f 0 31,l 1 32,m 7,m 2,ix 3 33 34,f 2 36,n (st 1 37 35)]) (r (O 6 [i 0])))))))) (s (s (Q 38 [m 0,nk 38,f 1 39,l 1 40,eqi 41 4096] [42,2,1,0]) (c 42 (r (O 6 [i 3])))) (s (s (V 43 [m 0,nk 43,f 1 44,l 1 45,m 0,nk 47,f 2 48,l 1 49,ad 46 50,adi 51 1,E (.bin .mul (N 4) (T 52)),m 0,nk 54,f 0 55,l 1 56,ln 1 57,E (.bin .mul (N 3) (T 58)),gt 53 59] [] ⟨false,[],[]⟩) (c 60 (Q 61 [m 0,m 0,nk 62,f 1 63,l 1 64,adi 65 1,ca 192 [61,66]] [2,1,0]))) (s (O 69 [m 0,m 1,ca 1191 [69,70],d 68 (m 71),ex 0 68,ex 1 68,d 9 (m 72),d 10 (m 73)]) (s (s (O 74 [m 0,nk 74,f 0 75,l 1 76,m 9,ix 3 77 78,f 0 79,l 1 80,E (.bin .eql (T 81) (.c (.int .u8 2)))]) (c 82 (Q 83 [m 0,nk 83,f 2 84,l 1 85,sbi 86 1,nk 83,f 2 88,n (st 1 89 87)] [9,2,1,0]))) (s (O 90 [m 0,nk 90,f 0 91,l 1 92,m 9,m 1,m 2,E (.build [.int .u8 0,.int .u64 0,.int .i64 0] [(0,1,.c (.int .u8 1)),(1,1,T 95),(2,1,T 96)]),ix 3 93 94,n (st 3 98 97)]) (s (O 99 [m 0,nk 99,f 1 100,l 1 101,adi 102 1,nk 99,f 1 104,n (st 1 105 103)]) (r (O 6 [i 0])))))))))))⟩
def w249:WFn:=⟨2,[.tmp 4],zd (s (O 4 [ff]) (r (O 5 [m 0,m 1,ca 402 [5,6],gei 7 0,d 4 (m 8)])))⟩
def w250:WFn:=⟨1,[.tmp 2],zd (s (O 1 [bx 0,ff]) (r (O 3 [f 4 1,l 1 3,lti 4 1,m 5,z 6 (f 4 1),z 6 (l 1 7),z 6 (gti 8 2305843009213693952),po 6 9,d 2 (m 10)])))⟩
def w313:WFn:=⟨3,[.tmp 6,.tmp 7],zd (s (O 6 [d 3 (bx 0),i 0,i 0]) (s (s (O 9 [h 1 3,m 1,ca 322 [9,10],d 8 (m 11)]) (s (O 12 [m 8,nei 12 0]) (c 13 (r (O 6 [d 14 (m 8),i 0,m 14]))))) (r (O 15 [m 2,h 1 3,ca 111 [16],m 1,sb 17 18,E (.mn (T 15) (T 19)),E (.mx (N 0) (T 20)),d 6 (m 21),d 7 (i 0)]))))⟩
def w402_c0:WCode:=zd (r (O 4 [i (-1)]))
def w402_B0:WCode:=zd (s (O 9 [lt 8 7]) (s (cc 9 (w .skip) (ee 0)) (s (B 1 (s (O 10 [m 8,d 5 (m 10)]) (s (O 11 [m 1,m 0,m 5,ix 6 12 13,h 6 14,E (.callv (T 11) [T 15])]) (c 16 (r (O 17 [m 5,d 4 (m 17)])))))) (O 18 [adi 8 1,d 8 (m 18)]))))
def w402_L0:WCode:=.loop ⟨true,[8,7,1,0],[]⟩ w402_B0
def w402:WFn:=⟨2,[.tmp 4],zd (s (O 4 [i 0]) (s (s (O 6 [m 0,ln 1 6,i 0]) (bk 0 w402_L0 ⟨true,[],[]⟩)) w402_c0))⟩
@[simp] theorem w402_E0:ZL w402_L0 w402_B0 ⟨true,[8,7,1,0],[]⟩:=ck_lp rfl
def w403:WFn:=⟨2,[.tmp 3],zd (s (O 2 [bx 0,ff]) (r (O 4 [f 0 2,f 0 4,l 1 5,l 1 1,eq 6 7,d 3 (m 8)])))⟩
def w343:WFn:=⟨3,[.cell 6 1 true,.tmp 7],zd (s (O 3 [bx 0,bx 1,bx 2,E (.alloc [.ro 6 [] true]),i 0]) (s (s (O 10 [h 2 3,h 1 4,ca 223 [10,11],d 8 (m 12)]) (s (O 13 [m 8,nei 13 0]) (c 14 (r (Q 15 [E (.build [.ro 6 [] true] []),m 8,n (st 1 6 15),d 7 (m 16)] [7,6]))))) (s (s (O 17 [h 5 5,ca 336 [17],d 9 (m 18)]) (s (O 19 [m 9,nei 19 0]) (c 20 (r (O 21 [E (.build [.ro 6 [] true] []),m 9,n (st 1 6 21),d 7 (m 22)]))))) (r (V 23 [ca 457 [],f 0 5,l 1 24,E (.idxv 6 6 true (T 23) (T 25)),E (.fldv 5 1 false (T 26)),h 2 3,h 1 4,h 5 5,E (.callv (T 27) [T 28,T 29,T 30]),ex 0 31,ex 1 31,n (st 1 6 32),d 7 (m 33)] [(0,2),(0,5),(0,6),(0,7)] ⟨false,[],[]⟩)))))⟩
def w464:WFn:=⟨1,[.tmp 2],zd (s (O 1 [bx 0,i 0]) (s (B 0 (s (O 4 [f 0 1,h 2 4,ca 115 [5],nei 6 0,d 3 (m 7)]) (cc 3 (r (O 2 [i 7])) (s (Q 9 [f 2 1,l 1 9,lti 10 1,m 11,z 12 (f 2 1),z 12 (l 1 13),z 12 (gti 14 2147483648),po 12 15,m 16,z 17 (f 3 1),z 17 (l 1 18),z 17 (lti 19 0),po 17 20,m 21,z 22 (f 3 1),z 22 (l 1 23),z 22 (gti 24 16),po 22 25,m 26,z 27 (f 4 1),z 27 (l 1 28),z 27 (lti 29 1),po 27 30,m 31,z 32 (f 4 1),z 32 (l 1 33),z 32 (gti 34 2305843009213693952),po 32 35,d 8 (m 36)] [8]) (c 8 (r (O 2 [i 1]))))))) (r (O 2 [i 0]))))⟩
def w318:WFn:=⟨1,[.tmp 2],zd (s (O 1 [bx 0,i 0]) (s (s (O 3 [f 1 1,l 1 3,lti 4 0,m 5,z 6 (f 1 1),z 6 (l 1 7),z 6 (gti 8 2305843009213693952),po 6 9,m 10,z 11 (f 0 1),z 11 (l 1 12),z 11 (E (.bin .eql (T 13) (.c (.int .u64 0)))),z 11 (m 14),y 15 (f 1 1),y 15 (l 1 16),y 15 (gti 17 0),z 11 (pa 15 18),po 11 19]) (c 20 (r (O 2 [i 1])))) (r (O 2 [i 0]))))⟩
def w161:WFn:=⟨3,[.tmp 6,.tmp 7],zd (s (Q 5 [d 3 (bx 0),bx 2,i 0,i 0] [5,3,1]) (s (s (O 12 [h 1 3,m 1,ca 322 [12,13],d 8 (m 14)]) (s (O 15 [m 8,nei 15 0]) (c 16 (r (O 6 [d 17 (m 8),i 0,m 17]))))) (s (s (O 18 [h 2 5,ca 318 [18],d 9 (m 19)]) (s (O 20 [m 9,nei 20 0]) (c 21 (r (O 6 [d 22 (m 9),i 0,m 22]))))) (s (s (O 23 [f 0 5,l 1 23,E (.bin .eql (T 24) (.c (.int .u64 0)))]) (c 25 (r (O 6 [i 0,i 0])))) (s (Q 27 [h 1 3,f 0 5,l 1 28,ca 323 [27,29],d 26 (m 30),ex 0 26,ex 1 26,d 10 (m 31),d 11 (m 32)] [11,10,5,3,1]) (s (s (O 33 [m 11,nt 33]) (c 34 (r (O 6 [i 0,i 11])))) (r (O 35 [h 1 3,m 1,m 10,f 1 5,l 1 38,ad 37 39,ca 313 [35,36,40],ex 0 41,ex 1 41,d 6 (m 42),d 7 (m 43)]))))))))⟩
def w4001:WFn:=⟨5,[.tmp 10,.tmp 11],zd (s (R 10 [d 5 (bx 0),d 6 (bx 1),E (.mv (.c (.ro 1 [] true))),i 0] ⟨true,[6,5,4,3,2],[(5,65536),(6,65536)]⟩) (s (O 15 [h 2 5,h 1 6,m 2,m 3,m 4,ca 2004 [15,16,17,18,19],d 14 (m 20),ex 0 14,ex 1 14,d 12 (m 21),d 13 (m 22)]) (s (s (O 23 [m 13,nei 23 0]) (c 24 (r (O 10 [d 25 (m 13),E (.mv (.c (.ro 1 [] true))),m 25])))) (r (O 26 [m 12,E (.mkfn 276 [T 6]),ca 2006 [26,27],ca 4002 [28],d 10 (m 29),d 11 (i 0)])))))⟩
def w351:WFn:=⟨3,[.tmp 6],zd (s (O 3 [bx 0,bx 1,d 6 (i 0)]) (s (s (O 8 [m 2,E (.mkfn 467 [T 4]),ca 466 [8,9],d 7 (m 10)]) (s (O 11 [m 7,gei 11 0]) (c 12 (r (Q 13 [m 2,m 7,ix 2 13 14,f 1 15,l 1 16,d 6 (m 17)] [6]))))) (s (s (O 18 [f 1 4,l 1 18,E (.cvt .i64 (T 19)),f 0 3,f 0 21,l 1 22,ln 1 23,lt 20 24]) (c 25 (r (O 26 [f 0 3,f 0 26,l 1 27,f 1 4,l 1 29,ix 9 28 30,f 6 31,l 1 32,d 6 (m 33)])))) (r (O 6 [i 0])))))⟩
def w431:WFn:=⟨1,[.tmp 2],zd (w (.cln [.int .u64 0,.int .u8 0,.int .u8 0,.str [],.str [],.ro 2 [] true,.str [],.ro 6 [] true] 8 120))⟩
def w289:WFn:=⟨1,[.tmp 2],zd (s (O 1 [bx 0,i 0]) (s (O 3 [E (.alloc [.int .i64 0]),E (.alloc [.bool false]),n (E (.store 1 (T 3) (N 1))),n (E (.store 1 (T 4) (.c (.bool true))))]) (s (O 5 [E (.alloc [.nilf])]) (s (O 6 [E (.mkfn 438 [T 4,T 3,T 5]),n (st 1 5 6)]) (s (O 7 [l 1 5,f 0 1,l 1 8,E (.buildS [.ro 8 [] true] 1 [(0,T 9)]),E (.callv (T 7) [T 10])]) (s (O 12 [l 1 5,f 1 1,l 1 13,E (.callv (T 12) [T 14])]) (s (s (O 16 [l 1 4,nt 16]) (c 17 (r (O 2 [i 0])))) (r (O 18 [l 1 3,d 2 (m 18)])))))))))⟩
def w543:WFn:=⟨2,[.tmp 4],zd (s (O 4 [i 0]) (r (O 5 [m 0,m 1,E (.call 578 [T 5,T 6,.c (.bool true)]),d 4 (m 7)])))⟩
def w544_c0:WCode:=zd (r (O 4 [i (-1)]))
def w544_B0:WCode:=zd (s (O 9 [lt 8 7]) (s (cc 9 (w .skip) (ee 0)) (s (B 1 (s (O 10 [m 8,d 5 (m 10)]) (s (O 11 [m 1,m 0,m 5,ix 1 12 13,l 1 14,E (.callv (T 11) [T 15])]) (c 16 (r (O 17 [m 5,d 4 (m 17)])))))) (O 18 [adi 8 1,d 8 (m 18)]))))
def w544_L0:WCode:=.loop ⟨true,[8,7,1,0],[]⟩ w544_B0
def w544:WFn:=⟨2,[.tmp 4],zd (s (O 4 [i 0]) (s (s (O 6 [m 0,ln 1 6,i 0]) (bk 0 w544_L0 ⟨true,[],[]⟩)) w544_c0))⟩
@[simp] theorem w544_E0:ZL w544_L0 w544_B0 ⟨true,[8,7,1,0],[]⟩:=ck_lp rfl
def w545:WFn:=⟨1,[.tmp 2],zd (s (O 2 [ff]) (r (O 3 [m 0,E (.bin .lss (T 3) (.c (.int .i32 97))),m 4,z 5 (m 0),z 5 (E (.bin .gtr (T 6) (.c (.int .i32 122)))),po 5 7,m 8,y 9 (m 0),y 9 (E (.bin .lss (T 10) (.c (.int .i32 48)))),y 9 (m 11),z 12 (m 0),z 12 (E (.bin .gtr (T 13) (.c (.int .i32 57)))),y 9 (po 12 14),pa 9 15,d 2 (m 16)])))⟩
def w546:WFn:=⟨1,[.tmp 2],zd (s (Q 1 [bx 0,i 0] [1]) (s (s (O 3 [f 0 1,l 1 3,E (.bin .eql (T 4) (.c (.int .u64 0))),m 5,z 6 (f 2 1),z 6 (l 1 7),z 6 (ca 579 [8]),z 6 (nt 9),po 6 10,m 11,z 12 (f 3 1),z 12 (l 1 13),z 12 (ln 1 14),z 12 (gti 15 8),po 12 16,m 17,z 18 (f 3 1),z 18 (l 1 19),z 18 (E (.call 498 [T 20,.c (.fn 580 [])])),po 18 21]) (c 22 (r (O 2 [i 6])))) (r (O 2 [i 0]))))⟩
def w547_c0:WCode:=zd (r (O 81 [m 5,d 4 (m 81)]))
def w547_c1:WCode:=zd (O 80 [adi 12 1,d 12 (m 80)])
def w547_B1:WCode:=zd (s (O 66 [lt 65 64]) (s (cc 66 (w .skip) (ee 3)) (s (B 4 (s (O 67 [ix 1 63 65,l 1 67,d 9 (m 68)]) (U 69 [m 5,h 4 2,h 6 7,m 9,m 9,ca 583 [73],E (.buildS [.int .u8 0,.str [],.str [],.ro 2 [] true,.str [],.ro 6 [] true] 1 [(0,T 74)]),ca 582 [70,71,72,75],E (.buildS [.int .u8 0,.str [],.str [],.ro 2 [] true,.str [],.ro 6 [] true] 1 [(0,T 76)]),E (.app [.int .u8 0,.str [],.str [],.ro 2 [] true,.str [],.ro 6 [] true] 104 false (T 69) (T 77)),d 5 (m 78)] [(1,5),(2,5),(1,6),(2,6)] [65,64,63,12,11,10,7,5,2]))) (O 79 [adi 65 1,d 65 (m 79)]))))
def w547_L1:WCode:=.loop ⟨true,[65,64,63,12,11,10,7,5,2],[]⟩ w547_B1
def w547_B0:WCode:=zd (s (O 13 [lt 12 11]) (s (cc 13 (w .skip) (ee 0)) (s (bk 1 (s (Q 14 [ix 6 10 12,h 6 14,d 7 (E (.alloc [.int .u8 0,.str [],.str [],.ro 3 [] true,.str [],.ro 6 [] true])),n (st 6 7 15)] [12,11,10,7,5,2]) (s (O 16 [f 0 7,l 1 16]) (bk 2 (s (O 19 [E (.bin .eql (T 17) (.c (.int .u8 1))),d 18 (m 19)]) (cc 18 (V 20 [m 5,h 4 2,h 6 7,f 2 7,l 1 23,h 4 2,f 5 7,l 1 26,ca 547 [25,27],ca 582 [21,22,24,28],E (.buildS [.int .u8 0,.str [],.str [],.ro 2 [] true,.str [],.ro 6 [] true] 1 [(0,T 29)]),E (.app [.int .u8 0,.str [],.str [],.ro 2 [] true,.str [],.ro 6 [] true] 104 false (T 20) (T 30)),d 5 (m 31)] [(1,8),(2,8),(4,8)] ⟨false,[],[]⟩) (s (O 33 [E (.bin .eql (T 17) (.c (.int .u8 2))),d 32 (m 33)]) (cc 32 (Q 34 [m 5,f 4 7,l 1 35,ca 583 [36],E (.buildS [.int .u8 0,.str [],.str [],.ro 2 [] true,.str [],.ro 6 [] true] 1 [(0,T 37)]),E (.app [.int .u8 0,.str [],.str [],.ro 2 [] true,.str [],.ro 6 [] true] 104 false (T 34) (T 38)),d 5 (m 39)] [12,11,10,5,2]) (s (O 41 [E (.bin .eql (T 17) (.c (.int .u8 3))),d 40 (m 41)]) (cc 40 (O 42 [m 5,f 0 2,f 2 43,l 1 44,ca 583 [45],E (.buildS [.int .u8 0,.str [],.str [],.ro 2 [] true,.str [],.ro 6 [] true] 1 [(0,T 46)]),E (.app [.int .u8 0,.str [],.str [],.ro 2 [] true,.str [],.ro 6 [] true] 104 false (T 42) (T 47)),d 5 (m 48)]) (s (O 50 [E (.bin .eql (T 17) (.c (.int .u8 4))),d 49 (m 50)]) (cc 49 (O 51 [m 5,f 0 2,f 0 52,l 1 53,ca 584 [54],ca 583 [55],E (.buildS [.int .u8 0,.str [],.str [],.ro 2 [] true,.str [],.ro 6 [] true] 1 [(0,T 56)]),E (.app [.int .u8 0,.str [],.str [],.ro 2 [] true,.str [],.ro 6 [] true] 104 false (T 51) (T 57)),d 5 (m 58)]) (s (O 60 [E (.bin .eql (T 17) (.c (.int .u8 5))),d 59 (m 60)]) (c 59 (s (O 61 [f 0 2,f 3 61,l 1 62,ln 1 63,i 0]) (bk 3 w547_L1 ⟨true,[12,11,10,5,2],[]⟩)))))))))))) ⟨true,[12,11,10,5,2],[]⟩))) ⟨true,[12,11,10,5,2],[]⟩) w547_c1)))
def w547_L0:WCode:=.loop ⟨true,[12,11,10,5,2],[]⟩ w547_B0
def w547:WFn:=⟨2,[.tmp 4],zd (s (O 4 [d 2 (bx 0),E (.mv (.c (.ro 6 [] true)))]) (s (R 5 [E (.mv (.c (.ro 6 [] true)))] ⟨true,[5,2,1],[(5,6)]⟩) (s (s (O 10 [m 1,ln 1 10,i 0]) (bk 0 w547_L0 ⟨true,[5],[]⟩)) w547_c0)))⟩
@[simp] theorem w547_E1:ZL w547_L1 w547_B1 ⟨true,[65,64,63,12,11,10,7,5,2],[]⟩:=ck_lp rfl
@[simp] theorem w547_E0:ZL w547_L0 w547_B0 ⟨true,[12,11,10,5,2],[]⟩:=ck_lp rfl
def w459:WFn:=⟨1,[.tmp 2],zd (s (O 2 [E (.mv (.c (.ro 4 [] true)))]) (s (s (O 4 [m 0,ln 1 4,eqi 5 0]) (c 6 (r (O 2 [E (.mv (.c (.ro 4 [] true)))])))) (s (O 7 [m 0,ln 1 7,E (.mksl [.int .u64 0,.int .u8 0,.str [],.ro 1 [] true] 56 (T 8) (T 8)),d 3 (m 9)]) (s (O 10 [m 3,m 0,E (.cpy 4 (T 10) (T 11))]) (r (O 13 [m 3,d 2 (m 13)]))))))⟩
def w460:WFn:=⟨1,[.tmp 2],zd (s (O 2 [E (.mv (.c (.ro 1 [] true)))]) (s (s (O 4 [m 0,ln 1 4,eqi 5 0]) (c 6 (r (O 2 [E (.mv (.c (.ro 1 [] true)))])))) (s (O 7 [m 0,ln 1 7,E (.mksl [.str []] 16 (T 8) (T 8)),d 3 (m 9)]) (s (O 10 [m 3,m 0,E (.cpy 1 (T 10) (T 11))]) (r (O 13 [m 3,d 2 (m 13)]))))))⟩
def w553:WFn:=⟨1,[.tmp 2],zd (s (O 2 [E (.mv (.c (.ro 2 [] true)))]) (r (O 3 [m 0,m 0,ln 1 4,m 0,ln 1 6,E (.slice 2 (T 3) none (some (T 5)) (some (T 7))),d 2 (m 8)])))⟩
def w554:WFn:=⟨1,[.tmp 2],zd (w (.cln [.str [],.str []] 2 32))⟩
def w282:WFn:=⟨1,[.cell 2 1 false,.cell 3 1 false],zd (s (O 1 [bx 0,E (.alloc [.int .i64 0]),E (.alloc [.int .i64 0])]) (s (O 4 [E (.alloc [.nilf])]) (s (O 5 [E (.mkfn 433 [T 2,T 3,T 4]),n (st 1 4 5)]) (s (s (O 6 [l 1 4,E (.callv (T 6) [T 1,N 1]),nt 7]) (c 8 (r (O 0 [n (E (.store 1 (T 2) (N 0))),n (E (.store 1 (T 3) (N 0)))])))) (r (V 9 [l 1 2,l 1 3,n (st 1 2 9),n (st 1 3 10)] [(1,2)] ⟨false,[],[]⟩))))))⟩
def w548_c0:WCode:=zd (r (O 7 [tt]))
def w548_B0:WCode:=zd (s (O 31 [lt 30 29]) (s (cc 31 (w .skip) (ee 0)) (s (B 1 (s (O 32 [m 30,d 8 (m 32)]) (s (V 33 [l 1 4,m 0,nk 34,f 5 35,l 1 36,m 8,ix 6 37 38,m 1,adi 40 1,E (.callv (T 33) [T 39,T 41]),nt 42] [] ⟨false,[],[]⟩) (c 43 (r (O 7 [ff])))))) (O 44 [adi 30 1,d 30 (m 44)]))))
def w548_L0:WCode:=.loop ⟨true,[30,29,4,1,0],[]⟩ w548_B0
def w548:WFn:=⟨5,[.tmp 7],zd (s (O 7 [ff]) (s (O 9 [l 1 2,adi 9 1,n (st 1 2 10)]) (s (s (O 11 [m 1,gti 11 6,m 12,z 13 (l 1 2),z 13 (gti 14 64),po 13 15,m 16,z 17 (m 0),z 17 (ca 549 [18]),z 17 (nt 19),po 17 20]) (c 21 (r (O 7 [ff])))) (s (O 22 [l 1 3,m 0,E (.callv (T 22) [T 23])]) (s (s (Q 25 [m 0,nk 25,f 5 26,l 1 27,ln 1 28,i 0] [30,29,4,1,0]) (bk 0 w548_L0 ⟨true,[],[]⟩)) w548_c0)))))⟩
@[simp] theorem w548_E0:ZL w548_L0 w548_B0 ⟨true,[30,29,4,1,0],[]⟩:=ck_lp rfl
def w549:WFn:=⟨1,[.tmp 2],zd (s (O 2 [ff]) (s (O 4 [m 0,nk 4,h 6 5,d 3 (E (.alloc [.int .u8 0,.str [],.str [],.ro 3 [] true,.str [],.ro 6 [] true])),n (st 6 3 6)]) (s (s (O 7 [m 0,nk 7,f 0 8,l 1 9]) (B 0 (s (B 5 (s (B 4 (s (B 3 (s (B 2 (s (B 1 (s (s (s (O 12 [E (.bin .eql (T 10) (.c (.int .u8 1))),d 11 (m 12)]) (c 11 (ee 1))) (s (s (O 14 [E (.bin .eql (T 10) (.c (.int .u8 5))),d 13 (m 14)]) (c 13 (ee 2))) (s (s (O 16 [E (.bin .eql (T 10) (.c (.int .u8 2))),d 15 (m 16)]) (c 15 (ee 3))) (s (s (O 18 [E (.bin .eql (T 10) (.c (.int .u8 3))),d 17 (m 18)]) (cc 17 (w .skip) (O 19 [E (.bin .eql (T 10) (.c (.int .u8 4))),d 17 (m 19)]))) (c 17 (ee 4)))))) (ee 5))) (s (s (Q 20 [m 0,nk 20,f 2 21,l 1 22,E (.bin .neq (T 23) (.c (.str []))),m 24,y 25 (m 0),y 25 (nk 26),y 25 (f 2 27),y 25 (l 1 28),y 25 (ca 581 [29]),y 25 (nt 30),pa 25 31,m 32,z 33 (m 0),z 33 (nk 34),z 33 (f 5 35),z 33 (l 1 36),z 33 (ln 1 37),z 33 (gti 38 16),po 33 39] [40,3,0]) (c 40 (r (O 2 [ff])))) (O 41 [f 2 3,n (E (.store 1 (T 41) (.c (.str [])))),f 5 3,n (E (.store 1 (T 42) (.c (.ro 6 [] true))))])))) (s (s (s (Q 43 [m 0,nk 43,f 1 44,l 1 45,ca 581 [46],nt 47,m 48,z 49 (m 0),z 49 (nk 50),z 49 (f 3 51),z 49 (l 1 52),z 49 (ca 585 [53]),z 49 (nt 54),po 49 55] [56,3]) (c 56 (r (O 2 [ff])))) (O 57 [f 1 3,n (E (.store 1 (T 57) (.c (.str [])))),f 3 3,n (E (.store 1 (T 58) (.c (.ro 3 [] true))))])) (ee 0)))) (s (s (s (O 59 [m 0,nk 59,f 4 60,l 1 61,ca 579 [62],nt 63]) (c 64 (r (O 2 [ff])))) (O 65 [f 4 3,n (E (.store 1 (T 65) (.c (.str []))))])) (ee 0)))) (ee 0))) (s (r (O 2 [ff])) (ee 0))))) (r (Q 66 [f 1 3,l 1 66,E (.bin .eql (T 67) (.c (.str []))),m 68,y 69 (f 2 3),y 69 (l 1 70),y 69 (E (.bin .eql (T 71) (.c (.str [])))),pa 69 72,m 73,y 74 (f 4 3),y 74 (l 1 75),y 74 (E (.bin .eql (T 76) (.c (.str [])))),pa 74 77,m 78,y 79 (f 3 3),y 79 (l 1 80),y 79 (ln 1 81),y 79 (eqi 82 0),pa 79 83,m 84,y 85 (f 5 3),y 85 (l 1 86),y 85 (ln 1 87),y 85 (eqi 88 0),pa 85 89,d 2 (m 90)] [2])))))⟩
def w102:WFn:=⟨1,[.tmp 2],zd (s (O 2 [i 0]) (s (s (O 3 [m 0,E (.eqv 2 [] false (T 3) (.c .nilp))]) (c 4 (r (O 2 [i 0])))) (r (O 5 [m 0,nk 5,f 1 6,l 1 7,d 2 (m 8)]))))⟩
def w191_B0:WCode:=zd (B 1000000 (s (s (s (Q 18 [m 0,nk 18,f 0 19,l 1 20,m 4,ix 3 21 22,h 3 23,d 7 (E (.alloc [.int .u8 0,.int .u64 0,.int .i64 0])),n (st 3 7 24)] [7,6,4,1,0]) (B 0 (s (O 26 [f 0 7,l 1 26,E (.bin .eql (T 27) (.c (.int .u8 1))),m 28,y 29 (f 1 7),y 29 (l 1 30),y 29 (m 1),y 29 (eq 31 32),pa 29 33,d 25 (m 34)]) (cc 25 (r (O 4 [d 35 (m 4),m 35,tt])) (s (O 37 [f 0 7,l 1 37,E (.bin .eql (T 38) (.c (.int .u8 0))),m 39,y 40 (m 6),y 40 (gei 41 0),pa 40 42,d 36 (m 43)]) (cc 36 (r (O 4 [d 44 (m 6),m 44,ff])) (s (O 46 [f 0 7,l 1 46,E (.bin .eql (T 47) (.c (.int .u8 0))),d 45 (m 48)]) (cc 45 (r (O 4 [d 49 (m 4),m 49,ff])) (s (Q 51 [f 0 7,l 1 51,E (.bin .eql (T 52) (.c (.int .u8 2))),m 53,y 54 (m 6),y 54 (lti 55 0),pa 54 56,d 50 (m 57)] [50,6,4,1,0]) (c 50 (O 58 [m 4,d 6 (m 58)]))))))))))) (s (O 59 [m 4,adi 59 1,m 0,nk 61,f 0 62,l 1 63,ln 1 64,E (.bin .rem (T 60) (T 65)),d 4 (m 66)]) (ee 1000000))) (ee 1000001)))
def w191_L0:WCode:=.loop ⟨true,[6,4,1,0],[]⟩ w191_B0
def w191:WFn:=⟨2,[.tmp 4,.tmp 5],zd (s (O 4 [i 0,ff]) (s (O 6 [i (-1)]) (s (V 8 [m 1,ca 367 [8],m 0,nk 10,f 0 11,l 1 12,ln 1 13,E (.cvt .u64 (T 14)),E (.bin .rem (T 9) (T 15)),E (.cvt .i64 (T 16)),d 4 (m 17)] [(1,5),(1,6)] ⟨false,[],[]⟩) (bk 1000001 w191_L0 ⟨true,[5,4],[]⟩))))⟩
@[simp] theorem w191_E0:ZL w191_L0 w191_B0 ⟨true,[6,4,1,0],[]⟩:=ck_lp rfl
def w192_B0:WCode:=zd (s (O 31 [lt 30 29]) (s (cc 31 (w .skip) (ee 2)) (s (B 3 (s (Q 32 [ix 3 28 30,h 3 32,d 7 (E (.alloc [.int .u8 0,.int .u64 0,.int .i64 0])),n (st 3 7 33)] [30,29,28,7,0]) (s (O 34 [f 0 7,l 1 34,E (.bin .eql (T 35) (.c (.int .u8 1)))]) (c 36 (s (O 38 [m 0,f 1 7,l 1 39,ca 1191 [38,40],d 37 (m 41),ex 0 37,ex 1 37,d 8 (m 42),d 9 (m 43)]) (V 44 [m 0,nk 44,f 0 45,l 1 46,m 8,h 3 7,ix 3 47 48,n (st 3 50 49)] [] ⟨false,[],[]⟩)))))) (O 51 [adi 30 1,d 30 (m 51)]))))
def w192_L0:WCode:=.loop ⟨true,[30,29,28,0],[]⟩ w192_B0
def w192_c0:WCode:=zd (s (O 16 [m 0,nk 16,f 0 17,l 1 18,d 5 (m 19)]) (s (O 20 [m 0,m 4,E (.mksl [.int .u8 0,.int .u64 0,.int .i64 0] 24 (T 21) (T 21)),nk 20,f 0 23,n (st 1 24 22)]) (s (O 25 [m 0,nk 25,f 2 26,n (E (.store 1 (T 27) (N 0)))]) (s (O 28 [m 5,ln 1 28,i 0]) (bk 2 w192_L0 ⟨true,[],[]⟩)))))
def w192_B1:WCode:=zd (s (s (Q 10 [m 4,m 1,E (.bin .mul (N 2) (T 11)),lt 10 12] [13,4,1,0]) (cc 13 (w .skip) (ee 0))) (B 1 (O 14 [m 4,E (.bin .mul (T 14) (N 2)),d 4 (m 15)])))
def w192_L1:WCode:=.loop ⟨true,[4,1,0],[]⟩ w192_B1
def w192:WFn:=⟨2,[],zd (s (O 4 [i 8]) (s (bk 0 w192_L1 ⟨true,[4,0],[]⟩) w192_c0))⟩
@[simp] theorem w192_E0:ZL w192_L0 w192_B0 ⟨true,[30,29,28,0],[]⟩:=ck_lp rfl
@[simp] theorem w192_E1:ZL w192_L1 w192_B1 ⟨true,[4,1,0],[]⟩:=ck_lp rfl
def w322:WFn:=⟨2,[.tmp 4],zd (s (O 4 [d 2 (bx 0),i 0]) (s (s (O 6 [h 1 2,ca 122 [6],d 5 (m 7)]) (s (O 8 [m 5,nei 8 0]) (c 9 (r (O 10 [m 5,d 4 (m 10)]))))) (s (s (O 11 [m 1,lti 11 1,m 12,z 13 (m 1),z 13 (gti 14 2147483648),po 13 15]) (c 16 (r (O 4 [i 1])))) (r (O 4 [i 0])))))⟩
def w336:WFn:=⟨1,[.tmp 2],zd (s (O 1 [bx 0,i 0]) (s (s (O 4 [f 0 1,l 1 4,E (.bin .lss (T 5) (.c (.int .u8 1))),m 6,z 7 (f 0 1),z 7 (l 1 8),z 7 (E (.bin .gtr (T 9) (.c (.int .u8 5)))),po 7 10]) (c 11 (r (O 2 [i 1])))) (s (V 12 [ca 457 [],f 0 1,l 1 13,E (.idxv 6 6 true (T 12) (T 14)),d 3 (E (.alloc [.str [],.bool false,.bool false,.bool false,.bool false,.nilf])),n (st 6 3 15)] [(0,2),(0,4),(2,4)] ⟨false,[],[]⟩) (s (s (Q 16 [f 1 3,l 1 16,nt 17,m 18,y 19 (f 1 1),y 19 (l 1 20),y 19 (nei 21 0),pa 19 22,m 23,z 24 (f 2 3),z 24 (l 1 25),z 24 (nt 26),z 24 (m 27),y 28 (f 2 1),y 28 (l 1 29),y 28 (nei 30 0),z 24 (pa 28 31),po 24 32,m 33,z 34 (f 3 3),z 34 (l 1 35),z 34 (nt 36),z 34 (m 37),y 38 (f 3 1),y 38 (l 1 39),y 38 (nei 40 0),z 34 (pa 38 41),po 34 42,m 43,z 44 (f 4 3),z 44 (l 1 45),z 44 (nt 46),z 44 (m 47),y 48 (f 4 1),y 48 (l 1 49),y 48 (ln 1 50),y 48 (gti 51 0),z 44 (pa 48 52),po 44 53] [54]) (c 54 (r (O 2 [i 5])))) (r (O 2 [i 0]))))))⟩
def w457:WFn:=⟨0,[.cell 0 36 true],zd (s (O 0 [E (.alloc [.str [],.bool false,.bool false,.bool false,.bool false,.nilf,.str [],.bool false,.bool false,.bool false,.bool false,.nilf,.str [],.bool false,.bool false,.bool false,.bool false,.nilf,.str [],.bool false,.bool false,.bool false,.bool false,.nilf,.str [],.bool false,.bool false,.bool false,.bool false,.nilf,.str [],.bool false,.bool false,.bool false,.bool false,.nilf])]) (r (O 1 [E (.build [.str [],.bool false,.bool false,.bool false,.bool false,.nilf] [(0,1,.c (.str [105,110,115,101,114,116])),(1,1,.c (.bool true)),(2,1,.c (.bool false)),(3,1,.c (.bool false)),(4,1,.c (.bool true)),(5,1,.c (.fn 526 []))]),E (.build [.str [],.bool false,.bool false,.bool false,.bool false,.nilf] [(0,1,.c (.str [114,101,109,111,118,101])),(1,1,.c (.bool true)),(2,1,.c (.bool true)),(3,1,.c (.bool false)),(4,1,.c (.bool false)),(5,1,.c (.fn 527 []))]),E (.build [.str [],.bool false,.bool false,.bool false,.bool false,.nilf] [(0,1,.c (.str [109,111,118,101])),(1,1,.c (.bool true)),(2,1,.c (.bool true)),(3,1,.c (.bool true)),(4,1,.c (.bool false)),(5,1,.c (.fn 528 []))]),E (.build [.str [],.bool false,.bool false,.bool false,.bool false,.nilf] [(0,1,.c (.str [99,104,97,110,103,101])),(1,1,.c (.bool true)),(2,1,.c (.bool false)),(3,1,.c (.bool false)),(4,1,.c (.bool true)),(5,1,.c (.fn 529 []))]),E (.build [.str [],.bool false,.bool false,.bool false,.bool false,.nilf] [(0,1,.c (.str [114,101,115,101,116])),(1,1,.c (.bool false)),(2,1,.c (.bool false)),(3,1,.c (.bool false)),(4,1,.c (.bool true)),(5,1,.c (.fn 530 []))]),E (.build [.str [],.bool false,.bool false,.bool false,.bool false,.nilf,.str [],.bool false,.bool false,.bool false,.bool false,.nilf,.str [],.bool false,.bool false,.bool false,.bool false,.nilf,.str [],.bool false,.bool false,.bool false,.bool false,.nilf,.str [],.bool false,.bool false,.bool false,.bool false,.nilf,.str [],.bool false,.bool false,.bool false,.bool false,.nilf] [(6,6,T 1),(12,6,T 2),(18,6,T 3),(24,6,T 4),(30,6,T 5)]),n (st 36 0 6)])))⟩
def w323:WFn:=⟨2,[.tmp 4,.tmp 5],zd (s (Q 4 [d 2 (bx 0),i 0,ff] [2,1]) (s (O 11 [h 1 2,m 1,ca 224 [11,12],d 10 (m 13),ex 0 10,ex 1 10,d 6 (m 14),d 7 (m 15)]) (s (O 17 [h 1 2,ca 246 [17],d 16 (m 18),ex 0 16,ex 1 16,d 8 (m 19),d 9 (m 20)]) (r (O 21 [m 8,m 6,ix 1 21 22,l 1 23,m 7,d 4 (m 24),d 5 (m 25)])))))⟩
def w275_c0:WCode:=zd (s (O 36 [m 0,m 5,E (.slice 1 (T 36) (some (T 37)) none none),n (E (.clr [.int .i64 0] (T 38)))]) (r (O 39 [m 0,m 5,E (.slice 1 (T 39) none (some (T 40)) none),d 4 (m 41)])))
def w275_B0:WCode:=zd (s (s (O 16 [m 6,m 0,ln 1 17,lt 16 18]) (cc 19 (w .skip) (ee 0))) (s (B 1 (s (Q 22 [m 0,m 6,ix 1 22 23,l 1 24,d 7 (m 25)] [7,6,5,1,0]) (s (O 26 [m 1,m 7,E (.callv (T 26) [T 27]),nt 28]) (c 29 (s (O 30 [m 0,m 5,m 7,ix 1 30 31,n (st 1 33 32)]) (O 34 [m 5,adi 34 1,d 5 (m 35)])))))) (O 20 [m 6,adi 20 1,d 6 (m 21)])))
def w275_L0:WCode:=.loop ⟨true,[6,5,1,0],[]⟩ w275_B0
def w275:WFn:=⟨2,[.tmp 4],zd (s (O 4 [E (.mv (.c (.ro 1 [] true)))]) (s (O 8 [m 0,m 1,ca 426 [8,9],d 5 (m 10)]) (s (s (O 11 [m 5,eqi 11 (-1)]) (c 12 (r (O 13 [m 0,d 4 (m 13)])))) (s (s (O 14 [m 5,adi 14 1,d 6 (m 15)]) (bk 0 w275_L0 ⟨true,[5,0],[]⟩)) w275_c0))))⟩
@[simp] theorem w275_E0:ZL w275_L0 w275_B0 ⟨true,[6,5,1,0],[]⟩:=ck_lp rfl
def w276:WFn:=⟨2,[.tmp 3],zd (s (O 3 [ff]) (r (O 4 [f 0 1,l 1 4,m 0,ix 6 5 6,f 5 7,l 1 8,d 3 (m 9)])))⟩
def w466_c0:WCode:=zd (r (O 4 [i (-1)]))
def w466_B0:WCode:=zd (s (O 9 [lt 8 7]) (s (cc 9 (w .skip) (ee 0)) (s (B 1 (s (O 10 [m 8,d 5 (m 10)]) (s (O 11 [m 1,m 0,m 5,ix 2 12 13,h 2 14,E (.callv (T 11) [T 15])]) (c 16 (r (O 17 [m 5,d 4 (m 17)])))))) (O 18 [adi 8 1,d 8 (m 18)]))))
def w466_L0:WCode:=.loop ⟨true,[8,7,1,0],[]⟩ w466_B0
def w466:WFn:=⟨2,[.tmp 4],zd (s (O 4 [i 0]) (s (s (O 6 [m 0,ln 1 6,i 0]) (bk 0 w466_L0 ⟨true,[],[]⟩)) w466_c0))⟩
@[simp] theorem w466_E0:ZL w466_L0 w466_B0 ⟨true,[8,7,1,0],[]⟩:=ck_lp rfl
def w467:WFn:=⟨2,[.tmp 3],zd (s (O 2 [bx 0,ff]) (r (O 4 [f 0 2,l 1 4,f 0 1,l 1 6,eq 5 7,d 3 (m 8)])))⟩
def w438_c0:WCode:=zd (V 31 [l 1 3,m 0,E (.slice 1 (T 32) (some (N 1)) none none),E (.callv (T 31) [T 33])] [] ⟨false,[],[]⟩)
def w438_B0:WCode:=zd (s (O 15 [lt 14 13]) (s (cc 15 (w .skip) (ee 0)) (s (B 1 (s (Q 16 [ix 8 12 14,h 8 16,d 6 (E (.alloc [.int .u64 0,.int .u8 0,.int .u8 0,.str [],.str [],.ro 2 [] true,.str [],.ro 6 [] true])),n (st 8 6 17)] [14,13,12,6,3,2,1,0]) (s (O 18 [l 1 1,m 18,y 19 (f 2 6),y 19 (h 6 20),y 19 (ca 439 [21]),y 19 (eqi 22 0),pa 19 23,n (st 1 1 24)]) (V 25 [l 1 2,f 2 6,h 6 26,ca 140 [27],ad 25 28,n (st 1 2 29)] [(0,3)] ⟨false,[],[]⟩)))) (O 30 [adi 14 1,d 14 (m 30)]))))
def w438_L0:WCode:=.loop ⟨true,[14,13,12,3,2,1,0],[]⟩ w438_B0
def w438:WFn:=⟨4,[],zd (s (s (O 7 [m 0,ln 1 7,eqi 8 0]) (c 9 (w .ret))) (s (s (O 10 [m 0,E (.idxs 1 (T 10) (N 0)),l 1 11,ln 1 12,i 0]) (bk 0 w438_L0 ⟨true,[3,0],[]⟩)) w438_c0))⟩
@[simp] theorem w438_E0:ZL w438_L0 w438_B0 ⟨true,[14,13,12,3,2,1,0],[]⟩:=ck_lp rfl
def w578_c0:WCode:=zd (r (O 6 [i (-1)]))
def w578_B0:WCode:=zd (s (O 11 [E (.next (T 10)),ex 0 11]) (s (cc 12 (w .skip) (ee 0)) (B 1 (s (O 13 [ex 1 11,ex 2 11,d 7 (m 13),d 8 (m 14)]) (s (O 15 [m 1,m 8,E (.callv (T 15) [T 16]),m 2,E (.eqv 5 [] false (T 17) (T 18))]) (c 19 (r (O 20 [m 7,d 6 (m 20)]))))))))
def w578_L0:WCode:=.loop ⟨true,[10,2,1],[]⟩ w578_B0
def w578:WFn:=⟨3,[.tmp 6],zd (s (O 6 [i 0]) (s (s (O 9 [m 0,E (.range (T 9))]) (bk 0 w578_L0 ⟨true,[],[]⟩)) w578_c0))⟩
@[simp] theorem w578_E0:ZL w578_L0 w578_B0 ⟨true,[10,2,1],[]⟩:=ck_lp rfl
noncomputable abbrev w578_K0 (C:WProg) (s:WSt):Option AV:=CK C 0 (pureFin [.tmp 6]) [.sq w578_L0,.bk 0 ⟨true,[],[]⟩,.sq w578_c0] w578_B0 s
def w579:WFn:=⟨1,[.tmp 2],zd (s (O 2 [ff]) (r (O 3 [m 0,E (.build [.int .u8 0,.str [],.str [],.ro 2 [] true,.str [],.ro 6 [] true] [(0,1,.c (.int .u8 2)),(4,1,T 3)]),ca 439 [4],eqi 5 0,d 2 (m 6)])))⟩
def w580:WFn:=⟨1,[.tmp 2],zd (s (O 2 [ff]) (r (O 3 [m 0,ca 581 [3],nt 4,d 2 (m 5)])))⟩
def w581:WFn:=⟨1,[.tmp 2],zd (s (O 2 [ff]) (r (O 3 [m 0,E (.build [.int .u8 0,.str [],.str [],.ro 2 [] true,.str [],.ro 6 [] true] [(0,1,.c (.int .u8 1)),(1,1,T 3)]),ca 439 [4],eqi 5 0,d 2 (m 6)])))⟩
def w582:WFn:=⟨4,[.cell 8 6 true],zd (s (O 4 [bx 0,bx 1,d 8 (E (.alloc [.int .u8 0,.str [],.str [],.ro 2 [] true,.str [],.ro 6 [] true]))]) (r (V 9 [f 1 5,l 1 9,m 2,h 4 4,f 3 5,l 1 13,ca 592 [12,14],m 3,ca 593 [16],E (.build [.int .u8 0,.str [],.str [],.ro 2 [] true,.str [],.ro 6 [] true] [(0,1,.c (.int .u8 1)),(1,1,T 10),(2,1,T 11),(3,1,T 15),(5,1,T 17)]),n (st 6 8 18)] [(1,6),(1,8)] ⟨false,[],[]⟩)))⟩
def w583:WFn:=⟨1,[.cell 2 6 true],zd (s (O 2 [E (.alloc [.int .u8 0,.str [],.str [],.ro 2 [] true,.str [],.ro 6 [] true])]) (r (O 3 [m 0,E (.build [.int .u8 0,.str [],.str [],.ro 2 [] true,.str [],.ro 6 [] true] [(0,1,.c (.int .u8 2)),(4,1,T 3)]),n (st 6 2 4)])))⟩
def w584_B0:WCode:=zd (B 1 (s (O 5 [m 4,sbi 5 1,d 4 (m 6)]) (s (O 7 [m 4,m 0,E (.bin .rem (T 8) (.c (.int .u64 10))),E (.idxstr (.c (.str [48,49,50,51,52,53,54,55,56,57])) (T 9)),E (.idxa 20 1 (T 3) (T 7)),n (st 1 11 10)]) (s (O 12 [m 0,E (.bin .quo (T 12) (.c (.int .u64 10))),d 0 (m 13)]) (s (O 14 [m 0,E (.bin .eql (T 14) (.c (.int .u64 0)))]) (c 15 (r (O 16 [m 4,E (.sliceA 20 (T 3) (some (T 16)) none),E (.cvb (T 17)),d 2 (m 18)]))))))))
def w584_L0:WCode:=.loop ⟨true,[4,3,0],[]⟩ w584_B0
def w584:WFn:=⟨1,[.tmp 2],zd (s (O 2 [E (.mv (.c (.str [])))]) (s (O 3 [E (.alloc (rep 20 (.int .u8 0)))]) (s (O 4 [i 20]) (bk 0 w584_L0 ⟨true,[2],[]⟩))))⟩
@[simp] theorem w584_E0:ZL w584_L0 w584_B0 ⟨true,[4,3,0],[]⟩:=ck_lp rfl
def w433_c0:WCode:=zd (r (O 7 [tt]))
def w433_B0:WCode:=zd (s (O 31 [lt 30 29]) (s (cc 31 (w .skip) (ee 0)) (s (B 1 (s (O 32 [m 30,d 8 (m 32)]) (s (V 33 [l 1 4,m 0,nk 34,f 5 35,l 1 36,m 8,ix 6 37 38,m 1,adi 40 1,E (.callv (T 33) [T 39,T 41]),nt 42] [] ⟨false,[],[]⟩) (c 43 (r (O 7 [ff])))))) (O 44 [adi 30 1,d 30 (m 44)]))))
def w433_L0:WCode:=.loop ⟨true,[30,29,4,1,0],[]⟩ w433_B0
def w433:WFn:=⟨5,[.tmp 7],zd (s (O 7 [ff]) (s (O 9 [l 1 2,adi 9 1,n (st 1 2 10)]) (s (O 11 [l 1 3,m 1,E (.mx (T 11) (T 12)),n (st 1 3 13)]) (s (s (O 14 [m 1,gti 14 6,m 15,z 16 (l 1 2),z 16 (gti 17 64),po 16 18,m 19,z 20 (m 0),z 20 (ca 434 [21]),z 20 (nt 22),po 20 23]) (c 24 (r (O 7 [ff])))) (s (s (Q 25 [m 0,nk 25,f 5 26,l 1 27,ln 1 28,i 0] [30,29,4,1,0]) (bk 0 w433_L0 ⟨true,[],[]⟩)) w433_c0)))))⟩
@[simp] theorem w433_E0:ZL w433_L0 w433_B0 ⟨true,[30,29,4,1,0],[]⟩:=ck_lp rfl
def w434_c0:WCode:=zd (r (O 2 [tt]))
def w434_B0:WCode:=zd (s (Q 143 [lt 142 141] [143,142,141,140,0]) (s (cc 143 (w .skip) (ee 2)) (s (B 3 (s (O 144 [m 142,ix 6 140 142,h 6 145,d 6 (E (.alloc [.int .u8 0,.str [],.str [],.ro 2 [] true,.str [],.ro 6 [] true])),d 5 (m 144),n (st 6 6 146)]) (s (O 147 [f 2 6,l 1 147,E (.bin .neq (T 148) (.c (.str []))),m 149,y 150 (m 0),y 150 (nk 151),y 150 (f 5 152),y 150 (l 1 153),y 150 (m 5),y 150 (E (.slice 6 (T 154) none (some (T 155)) none)),y 150 (E (.mkfn 519 [T 6])),y 150 (ca 518 [156,157]),pa 150 158]) (c 159 (r (O 2 [ff])))))) (O 160 [adi 142 1,d 142 (m 160)]))))
def w434_L0:WCode:=.loop ⟨true,[142,141,140,0],[]⟩ w434_B0
def w434_c1:WCode:=zd (s (s (O 137 [m 0,nk 137,f 5 138,l 1 139,ln 1 140,i 0]) (bk 2 w434_L0 ⟨true,[],[]⟩)) w434_c0)
def w434_B1:WCode:=zd (s (O 104 [lt 103 102]) (s (cc 104 (w .skip) (ee 0)) (s (B 1 (s (O 105 [m 103,ix 2 101 103,h 2 106,d 4 (E (.alloc [.str [],.str []])),d 3 (m 105),n (st 2 4 107)]) (s (U 108 [f 0 4,l 1 108,ca 517 [109],nt 110,m 111,z 112 (f 1 4),z 112 (l 1 113),z 112 (ca 516 [114]),z 112 (nt 115),po 112 116,m 117,z 118 (m 3),z 118 (gti 119 0),z 118 (m 120),y 121 (f 0 4),y 121 (l 1 122),y 121 (m 0),y 121 (nk 124),y 121 (f 3 125),y 121 (l 1 126),y 121 (m 3),y 121 (sbi 128 1),y 121 (ix 2 127 129),y 121 (f 0 130),y 121 (l 1 131),y 121 (le 123 132),z 118 (pa 121 133),po 118 134] [] [135,103,102,101,0]) (c 135 (r (O 2 [ff])))))) (O 136 [adi 103 1,d 103 (m 136)]))))
def w434_L1:WCode:=.loop ⟨true,[103,102,101,0],[]⟩ w434_B1
def w434:WFn:=⟨1,[.tmp 2],zd (s (O 2 [ff]) (s (s (O 7 [m 0,nk 7,f 0 8,l 1 9,E (.bin .eql (T 10) (.c (.int .u8 2)))]) (c 11 (r (Q 12 [m 0,nk 12,f 4 13,l 1 14,ca 516 [15],m 16,y 17 (m 0),y 17 (nk 18),y 17 (f 1 19),y 17 (l 1 20),y 17 (E (.bin .eql (T 21) (.c (.str [])))),pa 17 22,m 23,y 24 (m 0),y 24 (nk 25),y 24 (f 2 26),y 24 (l 1 27),y 24 (E (.bin .eql (T 28) (.c (.str [])))),pa 24 29,m 30,y 31 (m 0),y 31 (nk 32),y 31 (f 3 33),y 31 (l 1 34),y 31 (ln 1 35),y 31 (eqi 36 0),pa 31 37,m 38,y 39 (m 0),y 39 (nk 40),y 39 (f 5 41),y 39 (l 1 42),y 39 (ln 1 43),y 39 (eqi 44 0),pa 39 45,d 2 (m 46)] [2])))) (s (s (Q 47 [m 0,nk 47,f 0 48,l 1 49,E (.bin .neq (T 50) (.c (.int .u8 1))),m 51,z 52 (m 0),z 52 (nk 53),z 52 (f 1 54),z 52 (l 1 55),z 52 (ca 517 [56]),z 52 (nt 57),po 52 58,m 59,z 60 (m 0),z 60 (nk 61),z 60 (f 2 62),z 60 (l 1 63),z 60 (E (.bin .neq (T 64) (.c (.str [])))),z 60 (m 65),y 66 (m 0),y 66 (nk 67),y 66 (f 2 68),y 66 (l 1 69),y 66 (ca 517 [70]),y 66 (nt 71),z 60 (pa 66 72),po 60 73,m 74,z 75 (m 0),z 75 (nk 76),z 75 (f 4 77),z 75 (l 1 78),z 75 (E (.bin .neq (T 79) (.c (.str [])))),po 75 80,m 81,z 82 (m 0),z 82 (nk 83),z 82 (f 3 84),z 82 (l 1 85),z 82 (ln 1 86),z 82 (gti 87 8),po 82 88,m 89,z 90 (m 0),z 90 (nk 91),z 90 (f 5 92),z 90 (l 1 93),z 90 (ln 1 94),z 90 (gti 95 16),po 90 96] [97,0]) (c 97 (r (O 2 [ff])))) (s (s (O 98 [m 0,nk 98,f 3 99,l 1 100,ln 1 101,i 0]) (bk 0 w434_L1 ⟨true,[0],[]⟩)) w434_c1))))⟩
@[simp] theorem w434_E0:ZL w434_L0 w434_B0 ⟨true,[142,141,140,0],[]⟩:=ck_lp rfl
@[simp] theorem w434_E1:ZL w434_L1 w434_B1 ⟨true,[103,102,101,0],[]⟩:=ck_lp rfl
def w585_c0:WCode:=zd (r (O 2 [tt]))
def w585_B0:WCode:=zd (s (O 11 [lt 10 9]) (s (cc 11 (w .skip) (ee 0)) (s (B 1 (s (O 12 [m 10,ix 3 8 10,h 3 13,d 4 (E (.alloc [.str [],.int .u8 0,.str []])),d 3 (m 12),n (st 3 4 14)]) (s (U 15 [f 0 4,l 1 15,ca 581 [16],nt 17,m 18,z 19 (f 1 4),z 19 (l 1 20),z 19 (E (.bin .gtr (T 21) (.c (.int .u8 3)))),po 19 22,m 23,z 24 (f 2 4),z 24 (l 1 25),z 24 (ca 579 [26]),z 24 (nt 27),po 24 28,m 29,z 30 (f 1 4),z 30 (l 1 31),z 30 (E (.bin .gtr (T 32) (.c (.int .u8 0)))),z 30 (m 33),y 34 (f 2 4),y 34 (l 1 35),y 34 (E (.bin .neq (T 36) (.c (.str [])))),z 30 (pa 34 37),po 30 38,m 39,z 40 (m 3),z 40 (gti 41 0),z 40 (m 42),y 43 (f 0 4),y 43 (l 1 44),y 43 (m 0),y 43 (m 3),y 43 (sbi 47 1),y 43 (ix 3 46 48),y 43 (f 0 49),y 43 (l 1 50),y 43 (le 45 51),z 40 (pa 43 52),po 40 53] [] [54,10,9,8,0]) (c 54 (r (O 2 [ff])))))) (O 55 [adi 10 1,d 10 (m 55)]))))
def w585_L0:WCode:=.loop ⟨true,[10,9,8,0],[]⟩ w585_B0
def w585:WFn:=⟨1,[.tmp 2],zd (s (O 2 [ff]) (s (s (O 5 [m 0,ln 1 5,gti 6 8]) (c 7 (r (O 2 [ff])))) (s (s (O 8 [m 0,ln 1 8,i 0]) (bk 0 w585_L0 ⟨true,[],[]⟩)) w585_c0)))⟩
@[simp] theorem w585_E0:ZL w585_L0 w585_B0 ⟨true,[10,9,8,0],[]⟩:=ck_lp rfl
def w367:WFn:=⟨1,[.tmp 2],zd (s (O 2 [E (.mv (.c (.int .u64 0)))]) (s (O 3 [m 0,m 0,E (.bin .shr (T 4) (.c (.int .u64 30))),E (.bin .xor (T 3) (T 5)),E (.bin .mul (T 6) (.c (.int .u64 13787848793156543929))),d 0 (m 7)]) (s (O 8 [m 0,m 0,E (.bin .shr (T 9) (.c (.int .u64 27))),E (.bin .xor (T 8) (T 10)),E (.bin .mul (T 11) (.c (.int .u64 10723151780598845931))),d 0 (m 12)]) (r (O 13 [m 0,m 0,E (.bin .shr (T 14) (.c (.int .u64 31))),E (.bin .xor (T 13) (T 15)),d 2 (m 16)])))))⟩
def w526:WFn:=⟨3,[.cell 6 1 true,.tmp 7],zd (s (O 3 [bx 0,bx 1,bx 2,E (.alloc [.ro 6 [] true]),i 0]) (r (O 8 [h 2 3,h 1 4,f 1 5,l 1 10,f 4 5,l 1 12,ca 109 [8,9,11,13],ex 0 14,ex 1 14,n (st 1 6 15),d 7 (m 16)])))⟩
def w109:WFn:=⟨4,[.cell 8 1 true,.tmp 9],zd (s (R 4 [bx 0,bx 1,bx 2,d 8 (E (.alloc [.ro 6 [] true])),d 9 (i 0)] ⟨true,[8,6,5,4,3],[(4,65536),(5,65536),(6,65536)]⟩) (r (U 10 [h 2 4,h 1 5,l 1 6,f 0 5,l 1 13,ln 1 14,E (.call 219 [T 12,N 0,T 15]),f 0 5,l 1 17,ln 1 18,m 3,ln 1 20,ad 19 21,m 3,f 0 5,l 1 24,ca 217 [25],E (.mkfn 220 [T 5,T 6]),E (.build [.bool false,.int .i64 0,.ro 4 [] true,.nilf,.nilf] [(0,1,T 16),(1,1,T 22),(2,1,T 23),(3,1,T 26),(4,1,T 27)]),ca 216 [10,11,28],ex 0 29,ex 1 29,n (st 1 8 30),d 9 (m 31)] [(0,6),(1,6),(6,8),(6,9),(6,11),(6,15),(0,16),(1,16),(8,16),(9,16),(11,16)] [9,8])))⟩
def w527:WFn:=⟨3,[.cell 6 1 true,.tmp 7],zd (s (O 3 [bx 0,bx 1,bx 2,E (.alloc [.ro 6 [] true]),i 0]) (r (O 8 [h 2 3,h 1 4,f 1 5,l 1 10,f 2 5,l 1 12,ca 110 [8,9,11,13],ex 0 14,ex 1 14,n (st 1 6 15),d 7 (m 16)])))⟩
def w528:WFn:=⟨3,[.cell 6 1 true,.tmp 7],zd (s (O 3 [bx 0,bx 1,bx 2,E (.alloc [.ro 6 [] true]),i 0]) (r (O 8 [h 2 3,h 1 4,f 1 5,l 1 10,f 2 5,l 1 12,f 3 5,l 1 14,ca 237 [8,9,11,13,15],ex 0 16,ex 1 16,n (st 1 6 17),d 7 (m 18)])))⟩
def w237:WFn:=⟨5,[.cell 10 1 true,.tmp 11],zd (s (R 5 [bx 0,bx 1,bx 2,bx 3,bx 4,E (.alloc [.ro 6 [] true]),i 0] ⟨true,[10,9,8,7,6,5],[(5,65536),(6,65536),(7,65536),(8,65536),(9,65536)]⟩) (s (Q 13 [l 1 7,l 1 8,f 0 6,l 1 15,ln 1 16,ca 219 [13,14,17],d 12 (m 18)] [12,10,9,8,7,6,5]) (r (V 19 [h 2 5,h 1 6,m 12,m 21,y 22 (l 1 9),y 22 (f 0 6),y 22 (l 1 24),y 22 (ln 1 25),y 22 (l 1 8),y 22 (sb 26 27),y 22 (E (.call 219 [T 23,N 0,T 28])),pa 22 29,E (.mkfn 409 [T 6,T 7,T 8,T 9]),E (.build [.bool false,.int .i64 0,.ro 4 [] true,.nilf,.nilf] [(0,1,T 30),(4,1,T 31)]),ca 216 [19,20,32],ex 0 33,ex 1 33,n (st 1 10 34),d 11 (m 35)] [(0,10),(1,10)] ⟨false,[],[]⟩))))⟩
def w529:WFn:=⟨3,[.cell 6 1 true,.tmp 7],zd (s (O 3 [bx 0,bx 1,bx 2,E (.alloc [.ro 6 [] true]),i 0]) (r (O 8 [h 2 3,h 1 4,f 1 5,l 1 10,f 4 5,l 1 12,ca 114 [8,9,11,13],ex 0 14,ex 1 14,n (st 1 6 15),d 7 (m 16)])))⟩
def w114:WFn:=⟨4,[.cell 8 1 true,.tmp 9],zd (s (R 4 [bx 0,bx 1,bx 2,bx 3,E (.alloc [.ro 6 [] true]),i 0] ⟨true,[8,7,6,5,4],[(4,65536),(5,65536),(6,65536),(7,65536)]⟩) (s (O 11 [E (.mkfn 228 [T 5,T 6]),d 10 (m 11)]) (r (V 12 [h 2 4,h 1 5,l 1 6,l 1 7,ln 1 15,f 0 5,l 1 17,ln 1 18,ca 219 [14,16,19],l 1 7,m 10,E (.mkfn 229 [T 5,T 6,T 7]),E (.build [.bool false,.int .i64 0,.ro 4 [] true,.nilf,.nilf] [(0,1,T 20),(1,1,N 0),(2,1,T 21),(3,1,T 22),(4,1,T 23)]),ca 216 [12,13,24],ex 0 25,ex 1 25,n (st 1 8 26),d 9 (m 27)] [(0,8),(1,8),(8,9)] ⟨false,[],[]⟩))))⟩
def w530:WFn:=⟨3,[.cell 6 1 true,.tmp 7],zd (s (O 3 [bx 0,bx 1,bx 2,E (.alloc [.ro 6 [] true]),i 0]) (r (O 8 [h 2 3,h 1 4,f 4 5,l 1 10,ca 108 [8,9,11],ex 0 12,ex 1 12,n (st 1 6 13),d 7 (m 14)])))⟩
def w108:WFn:=⟨3,[.cell 6 1 true,.tmp 7],zd (s (R 6 [d 3 (bx 0),d 4 (bx 1),E (.alloc [.ro 6 [] true]),i 0] ⟨true,[6,4,3,2],[(3,65536),(4,65536)]⟩) (r (V 8 [h 2 3,h 1 4,m 2,ln 1 10,m 2,E (.call 217 [.c (.ro 6 [] true)]),E (.build [.bool false,.int .i64 0,.ro 4 [] true,.nilf,.nilf] [(0,1,.c (.bool true)),(1,1,T 11),(2,1,T 12),(3,1,T 13),(4,1,.c (.fn 218 []))]),ca 216 [8,9,14],ex 0 15,ex 1 15,n (st 1 6 16),d 7 (m 17)] [(0,5),(1,5),(3,5)] ⟨false,[],[]⟩)))⟩
def w426_c0:WCode:=zd (r (O 4 [i (-1)]))
def w426_B0:WCode:=zd (s (O 9 [lt 8 7]) (s (cc 9 (w .skip) (ee 0)) (s (B 1 (s (O 10 [m 8,d 5 (m 10)]) (s (O 11 [m 1,m 0,m 5,ix 1 12 13,l 1 14,E (.callv (T 11) [T 15])]) (c 16 (r (O 17 [m 5,d 4 (m 17)])))))) (O 18 [adi 8 1,d 8 (m 18)]))))
def w426_L0:WCode:=.loop ⟨true,[8,7,1,0],[]⟩ w426_B0
def w426:WFn:=⟨2,[.tmp 4],zd (s (O 4 [i 0]) (s (s (O 6 [m 0,ln 1 6,i 0]) (bk 0 w426_L0 ⟨true,[],[]⟩)) w426_c0))⟩
@[simp] theorem w426_E0:ZL w426_L0 w426_B0 ⟨true,[8,7,1,0],[]⟩:=ck_lp rfl
def w592_c0:WCode:=zd (r (O 44 [m 5,d 4 (m 44)]))
def w592_B0:WCode:=zd (s (O 14 [lt 13 12]) (s (cc 14 (w .skip) (ee 0)) (s (B 1 (s (O 15 [m 13,ix 3 11 13,h 3 16,d 7 (E (.alloc [.str [],.int .u8 0,.str []])),d 6 (m 15),n (st 3 7 17)]) (U 18 [m 5,m 6,f 0 7,l 1 20,f 2 7,l 1 22,f 0 2,f 2 24,l 1 25,f 0 2,f 0 27,l 1 28,ca 584 [29],f 0 2,f 3 31,l 1 32,ln 1 33,E (.cvt .u64 (T 34)),ca 584 [35],E (.build [.str [],.str [],.str [],.str []] [(0,1,T 23),(1,1,T 26),(2,1,T 30),(3,1,T 36)]),f 1 7,l 1 38,E (.idxv 4 1 false (T 37) (T 39)),E (.build [.str [],.str []] [(0,1,T 21),(1,1,T 40)]),ix 2 18 19,n (st 2 42 41)] [(3,12),(5,12),(8,12),(12,15),(12,16),(3,18),(5,18),(8,18),(12,21),(18,21)] [13,12,11,5,2]))) (O 43 [adi 13 1,d 13 (m 43)]))))
def w592_L0:WCode:=.loop ⟨true,[13,12,11,5,2],[]⟩ w592_B0
def w592:WFn:=⟨2,[.tmp 4],zd (s (O 4 [d 2 (bx 0),E (.mv (.c (.ro 2 [] true)))]) (s (O 8 [m 1,ln 1 8,E (.mksl [.str [],.str []] 32 (T 9) (T 9)),d 5 (m 10)]) (s (s (O 11 [m 1,ln 1 11,i 0]) (bk 0 w592_L0 ⟨true,[5],[]⟩)) w592_c0)))⟩
@[simp] theorem w592_E0:ZL w592_L0 w592_B0 ⟨true,[13,12,11,5,2],[]⟩:=ck_lp rfl
def w593:WFn:=⟨1,[.tmp 2],zd (s (O 2 [E (.mv (.c (.ro 6 [] true)))]) (r (O 3 [m 0,m 0,ln 1 4,m 0,ln 1 6,E (.slice 6 (T 3) none (some (T 5)) (some (T 7))),d 2 (m 8)])))⟩
def w516:WFn:=⟨1,[.tmp 2],zd (s (O 2 [ff]) (r (O 3 [m 0,ln 0 3,lei 4 64,m 5,y 6 (m 0),y 6 (E (.call 543 [T 7,.c (.fn 560 [])])),y 6 (lti 8 0),pa 6 9,d 2 (m 10)])))⟩
def w517_c0:WCode:=zd (r (O 2 [tt]))
def w517_B0:WCode:=zd (s (O 15 [lt 14 13]) (s (cc 15 (w .skip) (ee 0)) (s (B 1 (s (O 16 [m 14,d 3 (m 16)]) (s (O 17 [m 0,m 3,E (.idxstr (T 17) (T 18)),ca 561 [19],nt 20]) (c 21 (r (O 2 [ff])))))) (O 22 [adi 14 1,d 14 (m 22)]))))
def w517_L0:WCode:=.loop ⟨true,[14,13,0],[]⟩ w517_B0
def w517:WFn:=⟨1,[.tmp 2],zd (s (O 2 [ff]) (s (s (Q 4 [m 0,ln 0 4,lti 5 1,m 6,z 7 (m 0),z 7 (ln 0 8),z 7 (gti 9 16),po 7 10] [11,0]) (c 11 (r (O 2 [ff])))) (s (s (O 12 [m 0,ln 0 12,i 0]) (bk 0 w517_L0 ⟨true,[],[]⟩)) w517_c0)))⟩
@[simp] theorem w517_E0:ZL w517_L0 w517_B0 ⟨true,[14,13,0],[]⟩:=ck_lp rfl
def w518:WFn:=⟨2,[.tmp 4],zd (s (O 4 [ff]) (r (O 5 [m 0,m 1,ca 562 [5,6],gei 7 0,d 4 (m 8)])))⟩
def w519:WFn:=⟨2,[.tmp 3],zd (s (O 2 [bx 0,ff]) (r (O 4 [f 2 2,l 1 4,f 2 1,l 1 6,eq 5 7,d 3 (m 8)])))⟩
def w217_c0:WCode:=zd (r (O 18 [E (.mkfn 401 [T 3]),d 2 (m 18)]))
def w217_B0:WCode:=zd (s (O 10 [lt 9 8]) (s (cc 10 (w .skip) (ee 0)) (s (B 1 (s (O 11 [ix 6 7 9,h 6 11,d 5 (E (.alloc [.int .u64 0,.int .u8 0,.str [],.ro 1 [] true,.int .i64 0,.bool false])),n (st 6 5 12)]) (O 13 [l 1 3,f 0 5,f 0 14,l 1 15,n (E (.upd 0 (T 13) (T 16) (.c (.bool true))))]))) (O 17 [adi 9 1,d 9 (m 17)]))))
def w217_L0:WCode:=.loop ⟨true,[9,8,7,3],[]⟩ w217_B0
def w217:WFn:=⟨1,[.tmp 2],zd (s (O 2 [E (.mv (.c .nilf))]) (s (O 6 [E .mkmap,d 3 (E (.alloc [.nilm])),n (st 1 3 6)]) (s (s (O 7 [m 0,ln 1 7,i 0]) (bk 0 w217_L0 ⟨true,[3],[]⟩)) w217_c0)))⟩
@[simp] theorem w217_E0:ZL w217_L0 w217_B0 ⟨true,[9,8,7,3],[]⟩:=ck_lp rfl
def w220:WFn:=⟨3,[.tmp 4],zd (s (O 4 [E (.mv (.c (.ro 6 [] true)))]) (r (O 5 [f 0 1,l 1 5,l 1 2,m 0,E (.call 221 [T 6,T 7,N 0,T 8]),d 4 (m 9)])))⟩
def w409:WFn:=⟨5,[.tmp 6],zd (s (O 6 [E (.mv (.c (.ro 6 [] true)))]) (r (V 7 [f 0 1,l 1 7,l 1 2,l 1 3,E (.call 221 [T 8,T 9,T 10,.c (.ro 6 [] true)]),l 1 4,f 0 1,l 1 13,l 1 2,l 1 2,l 1 3,ad 16 17,E (.slice 6 (T 14) (some (T 15)) (some (T 18)) none),E (.call 221 [T 11,T 12,N 0,T 19]),d 6 (m 20)] [(4,5),(4,7),(4,8),(4,9),(4,10)] ⟨false,[],[]⟩)))⟩
def w228:WFn:=⟨4,[.tmp 6],zd (s (O 5 [bx 1,i 0]) (s (s (V 7 [f 0 2,l 1 7,l 1 3,m 0,ad 9 10,ix 6 8 11,f 0 12,f 0 13,l 1 14,f 0 5,l 1 16,ne 15 17] [] ⟨false,[],[]⟩) (c 18 (r (O 6 [i 9])))) (r (O 6 [i 0]))))⟩
def w229:WFn:=⟨4,[.tmp 5],zd (s (O 5 [E (.mv (.c (.ro 6 [] true)))]) (r (O 6 [f 0 1,l 1 6,l 1 2,l 1 3,ln 1 9,m 0,ca 221 [7,8,10,11],d 5 (m 12)])))⟩
def w218:WFn:=⟨1,[.tmp 2],zd (s (O 2 [E (.mv (.c (.ro 6 [] true)))]) (r (O 3 [m 0,d 2 (m 3)])))⟩
def w560:WFn:=⟨1,[.tmp 2],zd (s (O 2 [ff]) (r (O 3 [m 0,E (.bin .lss (T 3) (.c (.int .i32 32))),m 4,z 5 (m 0),z 5 (E (.bin .gtr (T 6) (.c (.int .i32 126)))),po 5 7,d 2 (m 8)])))⟩
def w561:WFn:=⟨1,[.tmp 2],zd (s (O 2 [ff]) (r (O 3 [m 0,E (.bin .geq (T 3) (.c (.int .u8 97))),m 4,y 5 (m 0),y 5 (E (.bin .leq (T 6) (.c (.int .u8 122)))),pa 5 7,m 8,z 9 (m 0),z 9 (E (.bin .geq (T 10) (.c (.int .u8 48)))),z 9 (m 11),y 12 (m 0),y 12 (E (.bin .leq (T 13) (.c (.int .u8 57)))),z 9 (pa 12 14),po 9 15,d 2 (m 16)])))⟩
def w562_c0:WCode:=zd (r (O 4 [i (-1)]))
def w562_B0:WCode:=zd (s (O 9 [lt 8 7]) (s (cc 9 (w .skip) (ee 0)) (s (B 1 (s (O 10 [m 8,d 5 (m 10)]) (s (O 11 [m 1,m 0,m 5,ix 6 12 13,h 6 14,E (.callv (T 11) [T 15])]) (c 16 (r (O 17 [m 5,d 4 (m 17)])))))) (O 18 [adi 8 1,d 8 (m 18)]))))
def w562_L0:WCode:=.loop ⟨true,[8,7,1,0],[]⟩ w562_B0
def w562:WFn:=⟨2,[.tmp 4],zd (s (O 4 [i 0]) (s (s (O 6 [m 0,ln 1 6,i 0]) (bk 0 w562_L0 ⟨true,[],[]⟩)) w562_c0))⟩
@[simp] theorem w562_E0:ZL w562_L0 w562_B0 ⟨true,[8,7,1,0],[]⟩:=ck_lp rfl
def w401:WFn:=⟨3,[.tmp 5],zd (s (O 4 [bx 1,i 0]) (s (s (O 6 [l 1 2,f 0 4,l 1 7,E (.look 0 (.bool false) false (T 6) (T 8))]) (c 9 (r (O 5 [i 8])))) (s (O 10 [l 1 2,f 0 4,l 1 11,n (E (.upd 0 (T 10) (T 12) (.c (.bool true))))]) (r (O 5 [i 0])))))⟩
def tree:WTree:=(.node (.node (.node (.node (.node (.node (.node (.node .leaf 0 w0 .leaf) 99 w99 (.node .leaf 108 w108 .leaf)) 109 w109 (.node (.node .leaf 110 w110 .leaf) 111 w111 .leaf)) 113 w113 (.node (.node (.node .leaf 114 w114 .leaf) 115 w115 (.node .leaf 120 w120 .leaf)) 121 w121 (.node (.node .leaf 122 w122 .leaf) 125 w125 .leaf))) 127 w127 (.node (.node (.node (.node .leaf 132 w132 .leaf) 134 w134 (.node .leaf 138 w138 .leaf)) 139 w139 (.node (.node .leaf 140 w140 .leaf) 160 w160 .leaf)) 161 w161 (.node (.node (.node .leaf 171 w171 .leaf) 174 w174 .leaf) 192 w192 (.node (.node .leaf 201 w201 .leaf) 216 w216 .leaf)))) 217 w217 (.node (.node (.node (.node (.node .leaf 218 w218 .leaf) 219 w219 (.node .leaf 220 w220 .leaf)) 221 w221 (.node (.node .leaf 222 w222 .leaf) 223 w223 .leaf)) 224 w224 (.node (.node (.node .leaf 225 w225 .leaf) 226 w226 (.node .leaf 227 w227 .leaf)) 228 w228 (.node (.node .leaf 229 w229 .leaf) 230 w230 .leaf))) 231 w231 (.node (.node (.node (.node .leaf 232 w232 .leaf) 237 w237 (.node .leaf 238 w238 .leaf)) 246 w246 (.node (.node .leaf 247 w247 .leaf) 248 w248 .leaf)) 249 w249 (.node (.node (.node .leaf 250 w250 .leaf) 260 w260 .leaf) 262 w262 (.node (.node .leaf 263 w263 .leaf) 264 w264 .leaf))))) 265 w265 (.node (.node (.node (.node (.node (.node .leaf 273 w273 .leaf) 274 w274 (.node .leaf 276 w276 .leaf)) 277 w277 (.node (.node .leaf 278 w278 .leaf) 279 w279 .leaf)) 280 w280 (.node (.node (.node .leaf 281 w281 .leaf) 282 w282 (.node .leaf 286 w286 .leaf)) 289 w289 (.node (.node .leaf 290 w290 .leaf) 313 w313 .leaf))) 315 w315 (.node (.node (.node (.node .leaf 318 w318 .leaf) 322 w322 (.node .leaf 323 w323 .leaf)) 324 w324 (.node (.node .leaf 336 w336 .leaf) 340 w340 .leaf)) 343 w343 (.node (.node (.node .leaf 344 w344 .leaf) 351 w351 .leaf) 367 w367 (.node (.node .leaf 379 w379 .leaf) 398 w398 .leaf)))) 399 w399 (.node (.node (.node (.node (.node .leaf 400 w400 .leaf) 401 w401 (.node .leaf 402 w402 .leaf)) 403 w403 (.node (.node .leaf 404 w404 .leaf) 405 w405 .leaf)) 409 w409 (.node (.node (.node .leaf 411 w411 .leaf) 412 w412 .leaf) 415 w415 (.node (.node .leaf 418 w418 .leaf) 426 w426 .leaf))) 427 w427 (.node (.node (.node (.node .leaf 428 w428 .leaf) 429 w429 (.node .leaf 430 w430 .leaf)) 432 w432 (.node (.node .leaf 433 w433 .leaf) 434 w434 .leaf)) 437 w437 (.node (.node (.node .leaf 438 w438 .leaf) 439 w439 .leaf) 457 w457 (.node (.node .leaf 459 w459 .leaf) 460 w460 .leaf)))))) 464 w464 (.node (.node (.node (.node (.node (.node (.node .leaf 466 w466 .leaf) 467 w467 (.node .leaf 494 w494 .leaf)) 495 w495 (.node (.node .leaf 496 w496 .leaf) 497 w497 .leaf)) 498 w498 (.node (.node (.node .leaf 499 w499 .leaf) 500 w500 (.node .leaf 501 w501 .leaf)) 502 w502 (.node (.node .leaf 503 w503 .leaf) 507 w507 .leaf))) 514 w514 (.node (.node (.node (.node .leaf 515 w515 .leaf) 516 w516 (.node .leaf 517 w517 .leaf)) 518 w518 (.node (.node .leaf 519 w519 .leaf) 526 w526 .leaf)) 527 w527 (.node (.node (.node .leaf 528 w528 .leaf) 529 w529 .leaf) 530 w530 (.node (.node .leaf 543 w543 .leaf) 544 w544 .leaf)))) 545 w545 (.node (.node (.node (.node (.node .leaf 546 w546 .leaf) 547 w547 (.node .leaf 548 w548 .leaf)) 549 w549 (.node (.node .leaf 553 w553 .leaf) 554 w554 .leaf)) 560 w560 (.node (.node (.node .leaf 561 w561 .leaf) 562 w562 .leaf) 578 w578 (.node (.node .leaf 579 w579 .leaf) 580 w580 .leaf))) 581 w581 (.node (.node (.node (.node .leaf 582 w582 .leaf) 583 w583 (.node .leaf 584 w584 .leaf)) 585 w585 (.node (.node .leaf 592 w592 .leaf) 593 w593 .leaf)) 632 w632 (.node (.node (.node .leaf 634 w634 .leaf) 636 w636 .leaf) 637 w637 (.node (.node .leaf 638 w638 .leaf) 639 w639 .leaf))))) 642 w642 (.node (.node (.node (.node (.node (.node .leaf 643 w643 .leaf) 644 w644 (.node .leaf 645 w645 .leaf)) 646 w646 (.node (.node .leaf 647 w647 .leaf) 648 w648 .leaf)) 649 w649 (.node (.node (.node .leaf 650 w650 .leaf) 651 w651 (.node .leaf 652 w652 .leaf)) 653 w653 (.node (.node .leaf 654 w654 .leaf) 657 w657 .leaf))) 658 w658 (.node (.node (.node (.node .leaf 659 w659 .leaf) 662 w662 (.node .leaf 664 w664 .leaf)) 665 w665 (.node (.node .leaf 666 w666 .leaf) 667 w667 .leaf)) 668 w668 (.node (.node (.node .leaf 669 w669 .leaf) 670 w670 .leaf) 673 w673 (.node (.node .leaf 674 w674 .leaf) 675 w675 .leaf)))) 676 w676 (.node (.node (.node (.node (.node .leaf 677 w677 .leaf) 678 w678 (.node .leaf 679 w679 .leaf)) 680 w680 (.node (.node .leaf 1100 w1100 .leaf) 1102 w102 .leaf)) 1191 w191 (.node (.node (.node .leaf 2001 w226 .leaf) 2004 w2004 .leaf) 2005 w274 (.node (.node .leaf 2006 w275 .leaf) 2016 w97 .leaf))) 2019 w2019 (.node (.node (.node (.node .leaf 2660 w660 .leaf) 2671 w671 (.node .leaf 3001 w3001 .leaf)) 3002 w3002 (.node (.node .leaf 3003 w3003 .leaf) 3004 w226 .leaf)) 3008 w281 (.node (.node (.node .leaf 3009 w431 .leaf) 3661 w661 .leaf) 3672 w672 (.node (.node .leaf 4001 w4001 .leaf) 4002 w274 .leaf)))))))
def ids:List (Nat × Nat):=[(0,2),(99,178),(108,249),(109,242),(110,40),(111,105),(113,148),(114,247),(115,53),(120,106),(121,78),(122,142),(125,44),(127,20),(132,74),(134,42),(138,28),(139,115),(140,166),(160,65),(161,188),(171,146),(174,114),(192,213),(201,103),(216,69),(217,258),(218,263),(219,70),(220,259),(221,72),(222,71),(223,73),(224,145),(225,92),(226,118),(227,120),(228,261),(229,262),(230,91),(231,93),(232,32),(237,245),(238,123),(246,104),(247,122),(248,121),(249,179),(250,180),(260,43),(262,79),(263,80),(264,81),(265,82),(273,75),(274,76),(276,220),(277,31),(278,83),(279,54),(280,152),(281,84),(282,202),(286,22),(289,192),(290,46),(313,181),(315,144),(318,187),(322,214),(323,218),(324,147),(336,215),(340,161),(343,184),(344,149),(351,190),(367,240),(379,141),(398,116),(399,117),(400,119),(401,267),(402,182),(403,183),(404,130),(405,55),(409,260),(411,162),(412,163),(415,77),(418,124),(426,250),(427,52),(428,125),(429,126),(430,127),(432,85),(433,231),(434,232),(437,45),(438,223),(439,164),(457,216),(459,198),(460,199),(464,186),(466,221),(467,222),(494,153),(495,154),(496,155),(497,156),(498,157),(499,158),(500,159),(501,160),(502,169),(503,170),(507,165),(514,167),(515,128),(516,253),(517,254),(518,255),(519,256),(526,241),(527,243),(528,244),(529,246),(530,248),(543,193),(544,194),(545,195),(546,196),(547,197),(548,204),(549,205),(553,200),(554,201),(560,264),(561,265),(562,266),(578,224),(579,225),(580,226),(581,227),(582,228),(583,229),(584,230),(585,236),(592,251),(593,252),(632,4),(634,6),(636,8),(637,9),(638,10),(639,11),(642,14),(643,15),(644,16),(645,17),(646,18),(647,19),(648,21),(649,23),(650,24),(651,25),(652,26),(653,29),(654,30),(657,38),(658,39),(659,41),(662,51),(664,63),(665,64),(666,66),(667,67),(668,68),(669,87),(670,88),(673,107),(674,108),(675,109),(676,110),(677,111),(678,112),(679,113),(680,143),(2001,118),(2016,140),(2004,42),(2005,76),(2006,219),(4002,76),(4001,189),(3004,118),(3003,69),(3002,40),(3001,150),(2019,151),(1102,211),(1191,212),(1100,177),(3661,50),(2660,49),(3672,90),(2671,89),(3008,84),(3009,191)]
def alts:List (Nat × Nat × Nat):=[(113,118,2001),(201,140,2016),(2004,76,2005),(4001,76,4002),(4001,42,2004),(4001,219,2006),(2019,189,4001),(3003,118,3004),(3002,69,3003),(3001,40,3002),(174,150,3001),(174,151,2019),(1100,211,1102),(1100,212,1191),(379,177,1100),(99,212,1191),(192,212,1191),(653,50,3661),(653,49,2660),(662,90,3672),(662,89,2671),(290,84,3008),(280,191,3009)]
end P
end
section
namespace Go.Pw
open Go Go.Pav
@[simp] def eI (x:Int):List AV:=[.int .i64 x]
@[simp] def eU8 (x:Int):List AV:=[.int .u8 x]
@[simp] def eU64 (x:Int):List AV:=[.int .u64 x]
@[simp] def eS (x:List UInt8):List AV:=[.str x]
@[simp] def eB (x:Bool):List AV:=[.bool x]
attribute [simp] Int.natCast_inj
attribute [-simp] List.getElem_cons_drop
section
variable (a n:Nat)
@[simp] theorem lit_lt_cast:((no_index (OfNat.ofNat a):Int) < (n:Int))=((no_index (OfNat.ofNat a):Nat) < n):=propext (Int.ofNat_lt (n:=(OfNat.ofNat a:Nat)) (m:=n))
@[simp] theorem cast_lt_lit:((n:Int) < (no_index (OfNat.ofNat a):Int))=(n < (no_index (OfNat.ofNat a):Nat)):=propext (Int.ofNat_lt (m:=(OfNat.ofNat a:Nat)) (n:=n))
@[simp] theorem lit_le_cast:((no_index (OfNat.ofNat a):Int)≤(n:Int))=((no_index (OfNat.ofNat a):Nat)≤n):=propext (Int.ofNat_le (m:=(OfNat.ofNat a:Nat)) (n:=n))
@[simp] theorem cast_le_lit:((n:Int)≤(no_index (OfNat.ofNat a):Int))=(n≤(no_index (OfNat.ofNat a):Nat)):=propext (Int.ofNat_le (n:=(OfNat.ofNat a:Nat)) (m:=n))
end
@[simp] theorem app_le (a b:Nat):(a+(b+1)≤a)=False:=eq_false (by omega)
theorem drop_cons {α:Type} {l:List α} {i:Nat} (h:i < l.length):l.drop i=l[i]::l.drop (i+1):=List.drop_eq_getElem_cons h
theorem mapO_self {α:Type} {g:α→Option α}:∀ {l:List α},(∀ x ∈ l,g x=some x)→mapO g l=some l
 | [],_=>rfl
 | a::l,h=>by simp only [mapO,h a List.mem_cons_self,ob,mapO_self fun x hx=>h x (List.mem_cons_of_mem _ hx),om]
@[simp] theorem frz_ints (h:WHeap) (n:Nat) (k:IntKind) (l:List Int):mapO (frzW h (n+1)) (List.map (AV.int k) l)=some (List.map (AV.int k) l) :=
 mapO_self fun x hx=>by obtain ⟨y,_,rfl⟩:=List.mem_map.1 hx;rfl
@[simp] theorem all_isC_int (k:IntKind) (l:List Int):l.all (isC ∘ AV.int k)=true:=by simp [isC]
@[simp] theorem all_isC_bool (l:List Bool):l.all (isC ∘ AV.bool)=true:=by simp [isC]
attribute [simp] isLeaf
@[simp] theorem comp_eI:((fun x:AV=>[x]) ∘ AV.int .i64)=eI:=rfl
@[simp] theorem add_le_self' (a b:Nat):(a+b≤a)=(b=0):=propext (by omega)
end Go.Pw
end
section
namespace Go.D
open Go Go.Pav Go.Pw P
attribute [-simp] List.getElem_cons_drop
variable {C:WProg}
def ppB (f:Nat):Bool:=f == 502||f == 494||f == 497||f == 434||f == 518||f == 549||f == 402||f == 411||f == 446||f == 466||f == 429||f == 514||f == 374||f == 480||(decide (1000≤f)&&decide (f < 2000))
def inlB (f:Nat):Bool:=f == 217||f == 459||decide (2000≤f)
structure HasS (C:WProg):Prop where
 f578:C.fns.get 578=some w578
 f543:C.fns.get 543=some w543
 inl:C.inl=inlB
 pp:C.pp=ppB
structure Pred (C:WProg) (g:Nat) (Q:UInt8→Bool):Prop where
 asc:∀ b:UInt8,b.toNat < 128→FnW C g [.int .i32 b.toNat]=some (.bool (!Q b))
 high:∀ r:Nat,128≤r→FnW C g [.int .i32 r]=some (.bool true)
 qh:∀ b:UInt8,128≤b.toNat→Q b=false
 ne:ppB g=false
 ni:inlB g=false
theorem dec_ascii (s:List UInt8) (pos:Nat) (h:pos < s.length) (ha:s[pos].toNat < 128):Utf8.decode ⟨⟨s⟩⟩ pos=(s[pos].toNat,1):=decode_ascii ⟨⟨s⟩⟩ pos h ha
theorem dec_high (s:List UInt8) (pos:Nat) (h:pos < s.length) (ha:128≤s[pos].toNat):128≤(Utf8.decode ⟨⟨s⟩⟩ pos).1∧1≤(Utf8.decode ⟨⟨s⟩⟩ pos).2:=decode_high ⟨⟨s⟩⟩ pos h ha
theorem index_loop (H:HasS C) {g:Nat} {Q:UInt8→Bool} (G:Pred C g Q) (s:List UInt8):∀ n pos,n+pos=s.length →
 ∃ v:Int,w578_K0 C ⟨[(10,.ptr 0 0 0),(2,.bool true),(1,.fn g [])],[(0,.iter s pos)],1⟩=some (.int .i64 v)∧decide (v < 0)=(s.drop pos).all Q:=by
 intro n
 induction n with
 | zero =>
  intro pos hp
  simp only [w578_K0];rw [ck_unf w578_B0.eq_1]
  have h1:s.drop pos=[]:=List.drop_eq_nil_of_le (by omega)
  have h3:¬ pos < s.length:=by omega
  exact ⟨-1,by simp [ck_unf w578_c0.eq_1,h3],by simp [h1]⟩
 | succ n ih =>
  intro pos hp
  have h1:pos < s.length:=by omega
  have hN:=G.ne;have hI:=G.ni
  rw [drop_cons h1]
  by_cases ha:s[pos].toNat < 128
  · have hd:=dec_ascii s pos h1 ha
    have hb:=G.asc s[pos] ha
    by_cases c:Q s[pos]=true
    · obtain ⟨v,hv,hq⟩:=ih (pos+1) (by omega)
      refine ⟨v,?_,by simp [hq,c]⟩
      simp only [w578_K0] at hv ⊢;rw [ck_unf w578_B0.eq_1]
      simp (disch:=omega) [h1,hd,hb,c,H.inl,hI,H.pp,hN,hv]
    · refine ⟨pos,?_,by simp [c]⟩
      simp only [w578_K0];rw [ck_unf w578_B0.eq_1]
      simp (disch:=omega) [h1,hd,hb,c,H.inl,hI,H.pp,hN]
  · have hd:=dec_high s pos h1 (by omega)
    have hb:=G.high (Utf8.decode ⟨⟨s⟩⟩ pos).1 hd.1
    have hq:=G.qh s[pos] (by omega)
    refine ⟨pos,?_,by simp [hq]⟩
    simp only [w578_K0];rw [ck_unf w578_B0.eq_1]
    obtain ⟨D,hD⟩:∃ D,Utf8.decode ⟨⟨s⟩⟩ pos=D:=⟨_,rfl⟩
    rw [hD] at hb
    simp (disch:=omega) [h1,hD,hb,H.inl,hI,H.pp,hN]
theorem index_ok (H:HasS C) {g:Nat} {Q:UInt8→Bool} (G:Pred C g Q) (s:List UInt8) :
 ∃ v:Int,FnW C 543 [.str s,.fn g []]=some (.int .i64 v)∧decide (v < 0)=s.all Q:=by
 obtain ⟨v,h,q⟩:=index_loop H G s s.length 0 (by simp)
 refine ⟨v,?_,q⟩
 have h2:FnW C 578 [.str s,.fn g [],.bool true]=some (.int .i64 v):=by
  rw [fnW_eq H.f578 rfl]
  simp only [w578_K0] at h
  simp [w578,h]
 rw [fnW_eq H.f543 rfl]
 simp [w543,H.inl,inlB,H.pp,ppB,h2]
end Go.D
end
