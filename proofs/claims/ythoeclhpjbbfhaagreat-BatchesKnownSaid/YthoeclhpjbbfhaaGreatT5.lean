/- Part of the theory that the claims of this work use: PwFas2, PwRunQ, PwTab, PwCk, PwSimp, PwZip. No conditions of its own. -/
import Derived.Test.YthoeclhpjbbfhaaGreatT4
set_option linter.unusedVariables false
set_option linter.unusedSimpArgs false
section
namespace Go.Pw
open Go Go.Pav
theorem obF_om {α β:Type} (x:Option α) (f:α→β):(obF x fun a=>some (f a))=om x f:=by cases x <;> rfl
theorem obs_om {α β:Type} (x:Option α) (f:α→β):(ob x fun a=>some (f a))=om x f:=by cases x <;> rfl
noncomputable def dropLtF (k:Nat) (live:List Nat):List Nat:=List.rec (motive:=fun _=>List Nat) [] (fun b l ih=>Bool.rec (motive:=fun _=>List Nat) (b::l) ih (Nat.ble (Nat.succ k) b)) live
theorem dropLtF_eq (k:Nat) (live:List Nat):dropLtF k live=dropLt k live:=by
 induction live with
 | nil=>rfl
 | cons b l ih =>
  show Bool.rec (motive:=fun _=>List Nat) (b::l) (dropLtF k l) (Nat.ble (k+1) b)=if k < b then dropLt k l else b::l
  rw [ih,ble_dec]
  by_cases h:k < b
  · rw [if_pos h,decide_eq_true (show k+1≤b from h)]
  · rw [if_neg h,decide_eq_false (show ¬ k+1≤b by omega)]
noncomputable def keepF (e:Env) (live:List Nat):Env:=List.rec (motive:=fun _=>List Nat→Env) (fun _=>[]) (fun a _ ih live=>List.rec (motive:=fun _=>Env) [] (fun b l _=>Bool.rec (motive:=fun _=>Env) (ih (b::l)) (a::ih l) (Nat.beq b a.1)) (dropLtF a.1 live)) e live
theorem keepF_eq (e:Env):∀ live,keepF e live=keepE e live:=by
 induction e with
 | nil=>intro live;rfl
 | cons a r ih =>
  intro live
  obtain ⟨k,v⟩:=a
  show List.rec (motive:=fun _=>Env) [] (fun b l _=>Bool.rec (motive:=fun _=>Env) (keepF r (b::l)) ((k,v)::keepF r l) (Nat.beq b k)) (dropLtF k live)=_
  rw [dropLtF_eq]
  simp only [keepE]
  cases dropLt k live with
  | nil=>rfl
  | cons b l =>
   show Bool.rec (motive:=fun _=>Env) (keepF r (b::l)) ((k,v)::keepF r l) (Nat.beq b k)=if b=k then (k,v)::keepE r l else keepE r (b::l)
   rw [ih,ih,beq_dec]
   by_cases h:b=k
   · rw [if_pos h,decide_eq_true h]
   · rw [if_neg h,decide_eq_false h]
noncomputable def refsF (v:AV):List Nat:=@AV.rec (fun _=>List Nat) (fun _=>PUnit) (fun _=>PUnit) ([]) (fun _=>[]) (fun _ _=>[]) (fun _=>[]) ([]) ([]) ([]) ([]) (fun _ _ _ _=>[]) (fun _ _=>[]) (fun b _ _=>[b]) (fun b _ _ _ _ _=>[b]) (fun b=>[b]) (fun _ cs _=>Bool.rec (motive:=fun _=>List Nat) (refsL cs) [] (allF leafB cs)) (fun cs _=>Bool.rec (motive:=fun _=>List Nat) (refsL cs) [] (allF leafB cs)) (fun cs _=>Bool.rec (motive:=fun _=>List Nat) (refsL cs) [] (allF leafB cs)) ⟨⟩ (fun _ _ _ _=>⟨⟩) ⟨⟩ (fun _ _ _ _=>⟨⟩) v
theorem refsLB (cs:List AV):Bool.rec (motive:=fun _=>List Nat) (refsL cs) [] (allF leafB cs)=refsL cs:=by
 cases c:allF leafB cs
 · rfl
 · exact (leaves_ok c).1.symm
theorem refsF_eq (v:AV):refsF v=refs v:=by
 cases v with
 | fn f cs=>show Bool.rec (motive:=fun _=>List Nat) (refsL cs) [] (allF leafB cs)=_;rw [refsLB];simp [refs]
 | agg cs=>show Bool.rec (motive:=fun _=>List Nat) (refsL cs) [] (allF leafB cs)=_;rw [refsLB];simp [refs]
 | tup cs=>show Bool.rec (motive:=fun _=>List Nat) (refsL cs) [] (allF leafB cs)=_;rw [refsLB];simp [refs]
 | _=>simp [refs,refsF]
noncomputable def rowRefsF (l:List AV):List Nat:=List.rec (motive:=fun _=>List Nat) [] (fun v _ ih=>appF (refsF v) ih) l
theorem rowRefsF_eq (l:List AV):rowRefsF l=refsL l:=by
 induction l with
 | nil=>rfl
 | cons a r ih=>show appF (refsF a) (rowRefsF r)=_;rw [appF_eq,refsF_eq,ih];rfl
noncomputable def flatF (es:List (List AV)):List Nat:=List.rec (motive:=fun _=>List Nat) [] (fun r _ ih=>appF (rowRefsF r) ih) es
theorem flatF_eq (es:List (List AV)):flatF es=es.flatMap refsL:=by
 induction es with
 | nil=>rfl
 | cons a r ih=>show appF (rowRefsF a) (flatF r)=_;rw [appF_eq,rowRefsF_eq,ih];rfl
noncomputable def objRefsF (o:WObj):List Nat:=WObj.rec (motive:=fun _=>List Nat) (fun _ es _ dt=>Bool.rec (motive:=fun _=>List Nat) (flatF es) [] dt) (fun _=>[]) (fun _ _=>[]) o
theorem objRefsF_eq (o:WObj):objRefsF o=objRefs (some o):=by
 cases o with
 | cells z es mu dt=>cases dt with
  | true=>rfl
  | false=>exact flatF_eq es
 | map es=>rfl
 | iter s p=>rfl
noncomputable def envRefsF (e:Env):List Nat:=List.rec (motive:=fun _=>List Nat) [] (fun a _ ih=>appF (refsF a.2) ih) e
theorem envRefsF_eq (e:Env):envRefsF e=envRefs e:=by
 induction e with
 | nil=>rfl
 | cons a r ih=>show appF (refsF a.2) (envRefsF r)=_;rw [appF_eq,refsF_eq,ih];rfl
noncomputable def oldRefsF (base:Nat) (h:WHeap):List Nat:=List.rec (motive:=fun _=>List Nat) [] (fun a _ ih=>Bool.rec (motive:=fun _=>List Nat) ih (appF (objRefsF a.2) ih) (Nat.ble (Nat.succ a.1) base)) h
theorem oldRefsF_eq (base:Nat) (h:WHeap):oldRefsF base h=oldRefs base h:=by
 induction h with
 | nil=>rfl
 | cons a r ih =>
  obtain ⟨b,o⟩:=a
  show Bool.rec (motive:=fun _=>List Nat) (oldRefsF base r) (appF (objRefsF o) (oldRefsF base r)) (Nat.ble (b+1) base)=if b < base then objRefs (some o)++oldRefs base r else oldRefs base r
  rw [ih,appF_eq,objRefsF_eq,ble_dec]
  by_cases h:b < base
  · rw [if_pos h,decide_eq_true (show b+1≤base from h)]
  · rw [if_neg h,decide_eq_false (show ¬ b+1≤base by omega)]
noncomputable def memF (l:List Nat) (b:Nat):Bool:=List.rec (motive:=fun _=>Bool) false (fun a _ ih=>Bool.rec (motive:=fun _=>Bool) ih true (Nat.beq b a)) l
theorem memF_eq (l:List Nat) (b:Nat):memF l b=l.contains b:=by
 induction l with
 | nil=>rfl
 | cons a r ih =>
  show Bool.rec (motive:=fun _=>Bool) (memF r b) true (Nat.beq b a)=_
  rw [ih,beq_dec,List.contains_cons]
  by_cases h:b=a
  · simp [h]
  · simp [h]
noncomputable def closeF (base:Nat) (h:WHeap) (n:Nat) (w acc:List Nat):List Nat:=Nat.rec (motive:=fun _=>List Nat→List Nat→List Nat) (fun _ acc=>acc)
 (fun _ ih w acc=>List.rec (motive:=fun _=>List Nat) acc (fun b w' _=>Bool.rec (motive:=fun _=>List Nat) (Bool.rec (motive:=fun _=>List Nat) (ih (appF (Option.rec (motive:=fun _=>List Nat) [] (fun o=>objRefsF o) (getF h b)) w') (appF acc [b])) (ih w' acc) (memF acc b)) (ih w' acc) (Nat.ble (Nat.succ b) base)) w) n w acc
theorem closeF_eq (base:Nat) (h:WHeap):∀ n w acc,closeF base h n w acc=close base h n w acc:=by
 intro n
 induction n with
 | zero=>intro w acc;rfl
 | succ n ih =>
  intro w acc
  cases w with
  | nil=>rfl
  | cons b w' =>
   show Bool.rec (motive:=fun _=>List Nat) (Bool.rec (motive:=fun _=>List Nat) (closeF base h n (appF (Option.rec (motive:=fun _=>List Nat) [] (fun o=>objRefsF o) (getF h b)) w') (appF acc [b])) (closeF base h n w' acc) (memF acc b)) (closeF base h n w' acc) (Nat.ble (b+1) base)=if b < base then close base h n w' acc else if acc.contains b then close base h n w' acc else close base h n (objRefs (Pav.get h b)++w') (acc++[b])
   have e:Option.rec (motive:=fun _=>List Nat) [] (fun o=>objRefsF o) (getF h b)=objRefs (Pav.get h b):=by
    rw [getF_eq]
    cases Pav.get h b with
    | none=>rfl
    | some o=>exact objRefsF_eq o
   rw [e,ih,ih,appF_eq,appF_eq,memF_eq,ble_dec]
   by_cases h1:b < base
   · rw [if_pos h1,decide_eq_true (show b+1≤base from h1)]
   · rw [if_neg h1,decide_eq_false (show ¬ b+1≤base by omega)]
     cases acc.contains b <;> rfl
noncomputable def placeF (L:List Nat) (n b:Nat):Option Nat:=List.rec (motive:=fun _=>Nat→Option Nat) (fun _=>none) (fun a _ ih n=>Bool.rec (motive:=fun _=>Option Nat) (ih (Nat.succ n)) (some n) (Nat.beq a b)) L n
theorem placeF_eq (L:List Nat) (b:Nat):∀ n,placeF L n b=place n L b:=by
 induction L with
 | nil=>intro n;rfl
 | cons a r ih =>
  intro n
  show Bool.rec (motive:=fun _=>Option Nat) (placeF r (n+1) b) (some n) (Nat.beq a b)=if a=b then some n else place (n+1) r b
  rw [ih,beq_dec]
  by_cases h:a=b
  · rw [if_pos h,decide_eq_true h]
  · rw [if_neg h,decide_eq_false h]
noncomputable def numF (base:Nat) (L:List Nat) (b:Nat):Option Nat:=Bool.rec (motive:=fun _=>Option Nat) (placeF L base b) (some b) (Nat.ble (Nat.succ b) base)
theorem numF_eq (base:Nat) (L:List Nat):numF base L=newNum base L:=by
 funext b
 unfold numF newNum
 rw [placeF_eq,ble_dec]
 by_cases h:b < base
 · rw [if_pos h,decide_eq_true (show b+1≤base from h)]
 · rw [if_neg h,decide_eq_false (show ¬ b+1≤base by omega)]
noncomputable def renF (π:Nat→Option Nat) (v:AV):Option AV:=@AV.rec (fun _=>(Nat→Option Nat)→Option AV) (fun _=>PUnit) (fun _=>PUnit) (fun _=>some .undef) (fun b0=>fun _=>some (.bool b0)) (fun k0 a0=>fun _=>some (.int k0 a0)) (fun s0=>fun _=>some (.str s0)) (fun _=>some (.nilp)) (fun _=>some (.nils)) (fun _=>some (.nilm)) (fun _=>some (.nilf)) (fun z0 es0 ex0 _=>fun _=>some (.ro z0 es0 ex0)) (fun cs0 _=>fun _=>some (.rop cs0)) (fun b i o=>fun π=>obF (π b) fun b=>some (.ptr b i o)) (fun b z i l c ex=>fun π=>obF (π b) fun b=>some (.sl b z i l c ex)) (fun b=>fun π=>obF (π b) fun b=>some (.map b)) (fun f cs _=>fun π=>Bool.rec (motive:=fun _=>Option AV) (ren π (.fn f cs)) (some (.fn f cs)) (allF leafB cs)) (fun cs _=>fun π=>Bool.rec (motive:=fun _=>Option AV) (ren π (.agg cs)) (some (.agg cs)) (allF leafB cs)) (fun cs _=>fun π=>Bool.rec (motive:=fun _=>Option AV) (ren π (.tup cs)) (some (.tup cs)) (allF leafB cs)) ⟨⟩ (fun _ _ _ _=>⟨⟩) ⟨⟩ (fun _ _ _ _=>⟨⟩) v π
theorem renF_eq (π:Nat→Option Nat) (v:AV):renF π v=ren π v:=by
 cases v with
 | ptr b i o=>show (obF (π b) fun b=>some (AV.ptr b i o))=_;rw [obF_om];simp [ren]
 | sl b z i l c ex=>show (obF (π b) fun b=>some (AV.sl b z i l c ex))=_;rw [obF_om];simp [ren]
 | map b=>show (obF (π b) fun b=>some (AV.map b))=_;rw [obF_om];simp [ren]
 | fn f cs =>
  show Bool.rec (motive:=fun _=>Option AV) (ren π (.fn f cs)) (some (.fn f cs)) (allF leafB cs)=_
  cases c:allF leafB cs
  · rfl
  · simp [ren,(leaves_ok c).2.1 π,om]
 | agg cs =>
  show Bool.rec (motive:=fun _=>Option AV) (ren π (.agg cs)) (some (.agg cs)) (allF leafB cs)=_
  cases c:allF leafB cs
  · rfl
  · simp [ren,(leaves_ok c).2.1 π,om]
 | tup cs =>
  show Bool.rec (motive:=fun _=>Option AV) (ren π (.tup cs)) (some (.tup cs)) (allF leafB cs)=_
  cases c:allF leafB cs
  · rfl
  · simp [ren,(leaves_ok c).2.1 π,om]
 | _=>simp [ren,renF]
theorem renLF_eq (π:Nat→Option Nat) (l:List AV):mapOF (renF π) l=renL π l:=by
 rw [mapOF_eq]
 induction l with
 | nil=>rfl
 | cons a r ih=>simp only [mapO,renL,renF_eq];rw [ih]
noncomputable def renEF (π:Nat→Option Nat) (e:Env):Option Env:=List.rec (motive:=fun _=>Option Env) (some []) (fun a _ ih=>obF (renF π a.2) fun v=>obF ih fun r=>some ((a.1,v)::r)) e
theorem renEF_eq (π:Nat→Option Nat) (e:Env):renEF π e=renEnv π e:=by
 induction e with
 | nil=>rfl
 | cons a r ih =>
  obtain ⟨k,v⟩:=a
  show (obF (renF π v) fun v=>obF (renEF π r) fun r=>some ((k,v)::r))=ob (ren π v) fun v=>om (renEnv π r) fun r=>(k,v)::r
  simp only [obF_eq,obs_om,renF_eq,ih]
noncomputable def renOF (π:Nat→Option Nat) (o:WObj):Option WObj:=WObj.rec (motive:=fun _=>Option WObj) (fun z es mu dt=>Bool.rec (motive:=fun _=>Option WObj) (obF (mapOF (mapOF (renF π)) es) fun es=>some (.cells z es mu dt)) (some (.cells z es mu dt)) dt) (fun es=>some (.map es)) (fun s p=>some (.iter s p)) o
theorem renOF_eq (π:Nat→Option Nat) (o:WObj):renOF π o=renObj π o:=by
 cases o with
 | cells z es mu dt=>cases dt with
  | true=>rfl
  | false =>
   show (obF (mapOF (mapOF (renF π)) es) fun es=>some (WObj.cells z es mu false))=om (mapO (renL π) es) fun es=>WObj.cells z es mu false
   rw [obF_om,mapOF_eq,show mapOF (renF π)=renL π from funext (renLF_eq π)]
 | map es=>rfl
 | iter s p=>rfl
noncomputable def renOldF (base:Nat) (π:Nat→Option Nat) (h:WHeap):Option WHeap:=List.rec (motive:=fun _=>Option WHeap) (some []) (fun a _ ih=>Bool.rec (motive:=fun _=>Option WHeap) ih (obF (renOF π a.2) fun o=>obF ih fun r=>some ((a.1,o)::r)) (Nat.ble (Nat.succ a.1) base)) h
theorem renOldF_eq (base:Nat) (π:Nat→Option Nat) (h:WHeap):renOldF base π h=renOld base π h:=by
 induction h with
 | nil=>rfl
 | cons a r ih =>
  obtain ⟨b,o⟩:=a
  show Bool.rec (motive:=fun _=>Option WHeap) (renOldF base π r) (obF (renOF π o) fun o=>obF (renOldF base π r) fun r=>some ((b,o)::r)) (Nat.ble (b+1) base)=if b < base then ob (renObj π o) fun o=>om (renOld base π r) fun r=>(b,o)::r else renOld base π r
  simp only [obF_eq,obs_om,renOF_eq,ih,ble_dec]
  by_cases h:b < base
  · rw [if_pos h,decide_eq_true (show b+1≤base from h)]
  · rw [if_neg h,decide_eq_false (show ¬ b+1≤base by omega)]
noncomputable def renNewF (π:Nat→Option Nat) (h:WHeap) (n:Nat) (L:List Nat):Option WHeap:=List.rec (motive:=fun _=>Nat→Option WHeap) (fun _=>some []) (fun b _ ih n=>Option.rec (motive:=fun _=>Option WHeap) (ih (Nat.succ n)) (fun o=>obF (renOF π o) fun o=>obF (ih (Nat.succ n)) fun r=>some ((n,o)::r)) (getF h b)) L n
theorem renNewF_eq (π:Nat→Option Nat) (h:WHeap) (L:List Nat):∀ n,renNewF π h n L=renNew π h n L:=by
 induction L with
 | nil=>intro n;rfl
 | cons b r ih =>
  intro n
  show Option.rec (motive:=fun _=>Option WHeap) (renNewF π h (n+1) r) (fun o=>obF (renOF π o) fun o=>obF (renNewF π h (n+1) r) fun r=>some ((n,o)::r)) (getF h b)=_
  rw [getF_eq]
  simp only [renNew]
  cases Pav.get h b with
  | none=>exact ih (n+1)
  | some o =>
   show (obF (renOF π o) fun o=>obF (renNewF π h (n+1) r) fun r=>some ((n,o)::r))=_
   simp only [obF_eq,obs_om,renOF_eq,ih]
noncomputable def renumF (base:Nat) (s:WSt) (L:List Nat):Option WSt :=
 obF (renEF (numF base L) s.env) fun e=>obF (renOldF base (numF base L) s.heap) fun h1=>obF (renNewF (numF base L) s.heap base L) fun h2=>some ⟨e,appF h1 h2,Nat.add base (lenF L)⟩
theorem renumF_eq (base:Nat) (s:WSt) (L:List Nat):renumF base s L=renumber base s L:=by
 unfold renumF renumber
 simp only [obF_eq,obs_om,renEF_eq,renOldF_eq,renNewF_eq,numF_eq,appF_eq,lenF_eq]
 rfl
noncomputable def canonGF (base:Nat) (s:WSt):Option WSt:=renumF base s (closeF base s.heap 1000 (appF (envRefsF s.env) (oldRefsF base s.heap)) [])
theorem canonGF_eq (base:Nat) (s:WSt):canonGF base s=canonG base s:=by
 unfold canonGF canonG
 rw [renumF_eq,closeF_eq,appF_eq,envRefsF_eq,oldRefsF_eq]
noncomputable def canonH (base:Nat) (a:Ann) (s:WSt):Option WSt:=List.rec (motive:=fun _=>Option WSt) (Bool.rec (motive:=fun _=>Option WSt) (some s) (canonGF base ⟨keepF s.env a.live,s.heap,s.next⟩) a.cn) (fun _ _ _=>canon base a s) a.grow
theorem canonH_eq (base:Nat) (a:Ann) (s:WSt):canonH base a s=canon base a s:=by
 obtain ⟨cn,live,grow⟩:=a
 cases grow with
 | cons g r=>rfl
 | nil =>
  cases cn with
  | false=>rfl
  | true =>
   show canonGF base ⟨keepF s.env live,s.heap,s.next⟩=_
   rw [canonGF_eq,keepF_eq];rfl
noncomputable def canonQ (base:Nat) (a:Ann) (s:WSt):Option WSt:=List.rec (motive:=fun _=>Option WSt) (Bool.rec (motive:=fun _=>Option WSt) (some s) (canonGF base ⟨keepF s.env a.live,s.heap,s.next⟩) a.cn) (fun _ _ _=>canonF base a s) a.grow
theorem canonQ_eq (base:Nat) (a:Ann) (s:WSt):canonQ base a s=canonF base a s:=by
 obtain ⟨cn,live,grow⟩:=a
 cases grow with
 | cons g r=>rfl
 | nil =>
  show _=canon base ⟨cn,live,[]⟩ s
  exact canonH_eq base ⟨cn,live,[]⟩ s
noncomputable def treeF (t:WTree) (f:Nat):Option WFn:=WTree.rec (motive:=fun _=>Nat→Option WFn) (fun _=>none) (fun _ k w _ il ir f=>Bool.rec (motive:=fun _=>Option WFn) (Bool.rec (motive:=fun _=>Option WFn) (ir f) (il f) (Nat.ble f k)) (some w) (Nat.beq f k)) t f
theorem treeF_eq (t:WTree):∀ f,treeF t f=t.get f:=by
 induction t with
 | leaf=>intro f;rfl
 | node l k w r il ir =>
  intro f
  show Bool.rec (motive:=fun _=>Option WFn) (Bool.rec (motive:=fun _=>Option WFn) (treeF r f) (treeF l f) (Nat.ble f k)) (some w) (Nat.beq f k)=if f=k then some w else if f≤k then l.get f else r.get f
  rw [il,ir,beq_dec,ble_dec]
  by_cases h1:f=k
  · rw [if_pos h1,decide_eq_true h1]
  · rw [if_neg h1,decide_eq_false h1]
    by_cases h2:f≤k
    · rw [if_pos h2,decide_eq_true h2]
    · rw [if_neg h2,decide_eq_false h2]
noncomputable def drawR (l:List COper):WProg→WRun→Nat→Env→WHeap→Nat→Option WSt:=List.rec (motive:=fun _=>WProg→WRun→Nat→Env→WHeap→Nat→Option WSt) (fun _ _ _ e h n=>some ⟨e,h,n⟩)
 (fun o _ ih C run nid e h n=>guardF e o.guard (ih C run (Nat.succ nid) (setF e o.dst (.tup [])) h n) (doF o.op C run nid e h n fun v h' n'=>ih C run (Nat.succ nid) (setF e o.dst v) h' n')) l
theorem drawR_eq (C:WProg) (run:WRun) (l:List COper):∀ nid e h n ds,(ob (drawR l C run nid e h n) fun s=>some s)=om (evDrawW C run l nid ⟨e,h,n⟩ ds) (·.1):=by
 induction l with
 | nil=>intro nid e h n ds;rfl
 | cons o r ih =>
  intro nid e h n ds
  have e1:drawR (o::r) C run nid e h n=guardF e o.guard (drawR r C run (nid+1) (setF e o.dst (.tup [])) h n) (doF o.op C run nid e h n fun v h' n'=>drawR r C run (nid+1) (setF e o.dst v) h' n'):=rfl
  rw [e1]
  simp only [guardF_eq,doF_eq,setF_eq,evDrawW,evOpW]
  have idb:∀ x:Option WSt,(ob x fun s=>some s)=x:=fun x=>by cases x <;> rfl
  simp only [idb] at ih ⊢
  cases wants e o.guard with
  | none=>rfl
  | some b=>cases b with
   | false=>simp only [ob];exact ih _ _ _ _ _
   | true =>
    simp only []
    cases evActW C run o.op nid e h n with
    | none=>rfl
    | some d=>simp only [ob];exact ih _ _ _ _ _
noncomputable def tupD (v:AV) (f:List AV→Option WDid) (d:Nat→List AV→Option WDid):Option WDid:=@AV.rec (fun _=>(List AV→Option WDid)→(Nat→List AV→Option WDid)→Option WDid) (fun _=>PUnit) (fun _=>PUnit) (fun _ _=>none) (fun _=>fun _ _=>none) (fun _ _=>fun _ _=>none) (fun _=>fun _ _=>none) (fun _ _=>none) (fun _ _=>none) (fun _ _=>none) (fun _ _=>none) (fun _ _ _ _=>fun _ _=>none) (fun _ _=>fun _ _=>none) (fun _ _ _=>fun _ _=>none) (fun _ _ _ _ _ _=>fun _ _=>none) (fun _=>fun _ _=>none) (fun g vs _=>fun _ d=>d g vs) (fun _ _=>fun _ _=>none) (fun cs _=>fun f _=>f cs) ⟨⟩ (fun _ _ _ _=>⟨⟩) ⟨⟩ (fun _ _ _ _=>⟨⟩) v f d
noncomputable def marksF (h:WHeap) (args:List AV) (v:AV):WUpd:=Bool.rec (motive:=fun _=>WUpd) (marksW h args v) [] (num1B v)
theorem marksF_eq (h:WHeap) (args:List AV) (v:AV):marksF h args v=marksW h args v:=by
 unfold marksF
 cases c:num1B v
 · rfl
 · unfold marksW;rw [show hasRefW frzDepth v=false from num1_ok c 14];rfl
noncomputable def dataD (run:WRun) (f:Nat) (args:List AV) (h:WHeap) (n:Nat):Option WDid:=obF (mapOF (frzF h) args) fun az=>obF (pureF run f az) fun v=>some ⟨v,markF h args v,n,false,reachF h args,(marksF h args v).map (·.1)⟩
noncomputable def callD (C:WProg) (run:WRun) (f:Nat) (args:List AV) (h:WHeap) (nid n:Nat):Option WDid :=
 Bool.rec (motive:=fun _=>Option WDid)
  (Bool.rec (motive:=fun _=>Option WDid) (dataD run f args h n) (Bool.rec (motive:=fun _=>Option WDid) (obF (run f args h n) fun r=>some ⟨r.1,r.2.1,r.2.2,true,[],[]⟩) (dataD run f args h n) (C.pp f)) (ptrLF args))
  (om (evCallW C run f args h nid n) (doneCallW h n args)) (C.inl f)
theorem callD_eq (C:WProg) (run:WRun) (f:Nat) (args:List AV) (h:WHeap) (nid n:Nat):callD C run f args h nid n=om (evCallW C run f args h nid n) (doneCallW h n args):=by
 have hd:dataD run f args h n=om (ob (mapO (frzW h frzDepth) args) fun az=>om (pureCallW run f az) fun v=>WCalled.data v (marksW h args v)) (doneCallW h n args):=by
  unfold dataD
  rw [obF_eq,mapOF_eq,show frzF h=frzW h frzDepth from funext (frzF_eq h)]
  cases mapO (frzW h frzDepth) args with
  | none=>rfl
  | some az =>
   simp only [ob,obF_eq,pureF_eq]
   cases pureCallW run f az with
   | none=>rfl
   | some v=>simp only [om,doneCallW];rw [markF_eq,reachF_eq,marksF_eq]
 have hw:(obF (run f args h n) fun r=>some (⟨r.1,r.2.1,r.2.2,true,[],[]⟩:WDid))=om (om (run f args h n) fun r=>WCalled.whole r.1 r.2.1 r.2.2) (doneCallW h n args):=by
  cases run f args h n <;> rfl
 unfold callD
 rw [hd,hw,ptrLF_eq]
 cases ci:C.inl f
 · have e:evCallW C run f args h nid n=if (!C.pp f&&hasPtrL args)=true then om (run f args h n) fun r=>.whole r.1 r.2.1 r.2.2 else ob (mapO (frzW h frzDepth) args) fun az=>om (pureCallW run f az) fun v=>.data v (marksW h args v):=by
    unfold evCallW;rw [ci];rfl
   rw [e]
   cases hasPtrL args <;> cases C.pp f <;> rfl
 · rfl
noncomputable def actF (op:COp):WProg→WRun→Nat→Env→WHeap→Nat→Option WDid:=COp.rec (motive:=fun _=>WProg→WRun→Nat→Env→WHeap→Nat→Option WDid)
 (fun x=>fun _ _ _ e h n=>some ⟨opF x e,h,n,false,[],[]⟩)
 (fun c a b=>fun C run nid e h n=>evActW C run (.pick c a b) nid e h n)
 (fun z=>fun C run nid e h n=>evActW C run (.alloc z) nid e h n)
 (fun x=>fun C run nid e h n=>evActW C run (.box x) nid e h n)
 (fun z ps=>fun _ _ _ e h n=>obF (fillF e z ps) fun cs=>some ⟨.agg cs,h,n,false,[],[]⟩)
 (fun z l ps=>fun C run nid e h n=>evActW C run (.buildS z l ps) nid e h n)
 (fun m ag a=>fun _ _ _ e h n=>obF (loadF m ag h (opF a e)) fun v=>some ⟨v,h,n,false,ptrId (opF a e),[]⟩)
 (fun m a x=>fun C run nid e h n=>evActW C run (.store m a x) nid e h n)
 (fun x=>fun C run nid e h n=>evActW C run (.nilchk x) nid e h n)
 (fun op x y=>fun _ _ _ e h n=>obF (binF op (opF x e) (opF y e)) fun v=>some ⟨v,h,n,false,[],[]⟩)
 (fun kd ks ne x y=>fun C run nid e h n=>evActW C run (.eqv kd ks ne x y) nid e h n)
 (fun op x=>fun C run nid e h n=>evActW C run (.un op x) nid e h n)
 (fun kd x=>fun C run nid e h n=>evActW C run (.cvt kd x) nid e h n)
 (fun x=>fun C run nid e h n=>evActW C run (.cvs x) nid e h n)
 (fun x=>fun C run nid e h n=>evActW C run (.cvb x) nid e h n)
 (fun f cs=>fun C run nid e h n=>evActW C run (.mkfn f cs) nid e h n)
 (fun C run nid e h n=>evActW C run (.mkmap) nid e h n)
 (fun z b l c=>fun C run nid e h n=>evActW C run (.mksl z b l c) nid e h n)
 (fun z x lo hi mx=>fun C run nid e h n=>evActW C run (.slice z x lo hi mx) nid e h n)
 (fun m x lo hi=>fun C run nid e h n=>evActW C run (.sliceA m x lo hi) nid e h n)
 (fun off x=>fun C run nid e h n=>evActW C run (.fld off x) nid e h n)
 (fun off m ag x=>fun C run nid e h n=>evActW C run (.fldv off m ag x) nid e h n)
 (fun z x i=>fun C run nid e h n=>evActW C run (.idxs z x i) nid e h n)
 (fun l z x i=>fun C run nid e h n=>evActW C run (.idxa l z x i) nid e h n)
 (fun x i=>fun C run nid e h n=>evActW C run (.idxstr x i) nid e h n)
 (fun l z ag x i=>fun C run nid e h n=>evActW C run (.idxv l z ag x i) nid e h n)
 (fun kd z ok m x=>fun C run nid e h n=>evActW C run (.look kd z ok m x) nid e h n)
 (fun kd m x v=>fun C run nid e h n=>evActW C run (.upd kd m x v) nid e h n)
 (fun x=>fun C run nid e h n=>evActW C run (.range x) nid e h n)
 (fun x=>fun C run nid e h n=>evActW C run (.next x) nid e h n)
 (fun i x=>fun _ _ _ e h n=>tupD (opF x e) (fun vs=>obF (nthF vs i) fun v=>some (⟨v,h,n,false,[],[]⟩:WDid)) fun g vs=>if 1000000 < g∧i=g then ob vs.head? (fun v=>some (⟨v,h,n,false,[],[]⟩:WDid)) else none)
 (fun f as0=>fun C run nid e h n=>callD C run f (mapF (fun x=>opF x e) as0) h nid n)
 (fun g as0=>fun C run nid e h n=>evActW C run (.callv g as0) nid e h n)
 (fun kd x=>fun C run nid e h n=>evActW C run (.len kd x) nid e h n)
 (fun x=>fun C run nid e h n=>evActW C run (.cap x) nid e h n)
 (fun z b zs s x=>fun C run nid e h n=>evActW C run (.app z b zs s x) nid e h n)
 (fun z d s=>fun C run nid e h n=>evActW C run (.cpy z d s) nid e h n)
 (fun z d=>fun C run nid e h n=>evActW C run (.clr z d) nid e h n)
 (fun x y=>fun C run nid e h n=>evActW C run (.mx x y) nid e h n)
 (fun x y=>fun C run nid e h n=>evActW C run (.mn x y) nid e h n)
 (fun C run nid e h n=>evActW C run (.fail) nid e h n)
 op
theorem actF_eq (op:COp) (C:WProg) (run:WRun) (nid:Nat) (e:Env) (h:WHeap) (n:Nat):actF op C run nid e h n=evActW C run op nid e h n:=by
 cases op with
 | mv x=>show some (⟨opF x e,h,n,false,[],[]⟩:WDid)=_;rw [opF_eq];rfl
 | build z ps =>
  show (obF (fillF e z ps) fun cs=>some (⟨.agg cs,h,n,false,[],[]⟩:WDid))=_
  simp only [obF_eq,fillF_eq,evActW,callOf,stepW,sBuild,plainW]
  cases fillC e z ps <;> rfl
 | bin op x y =>
  show (obF (binF op (opF x e) (opF y e)) fun v=>some (⟨v,h,n,false,[],[]⟩:WDid))=_
  simp only [obF_eq,binF_eq,opF_eq,evActW,callOf,stepW,sBin,ov,plainW]
  cases evBin op (x.ev e) (y.ev e) <;> rfl
 | load m ag a =>
  show (obF (loadF m ag h (opF a e)) fun v=>some (⟨v,h,n,false,ptrId (opF a e),[]⟩:WDid))=_
  simp only [obF_eq,loadF_eq,opF_eq,evActW,callOf,stepW,wLoad,ovW]
  cases wLoadOf m ag h (a.ev e) <;> rfl
 | ext i x =>
  show (tupD (opF x e) (fun vs=>obF (nthF vs i) fun v=>some (⟨v,h,n,false,[],[]⟩:WDid)) fun g vs=>if 1000000 < g∧i=g then ob vs.head? (fun v=>some (⟨v,h,n,false,[],[]⟩:WDid)) else none)=_
  simp only [opF_eq,obF_eq,nthF_eq,evActW,callOf,stepW,sExt,plainW]
  cases x.ev e with
  | tup vs=>show (ob vs[i]? fun v=>some (⟨v,h,n,false,[],[]⟩:WDid))=_;simp only [ov];cases vs[i]? <;> rfl
  | fn g vs =>
   show (if 1000000 < g∧i=g then ob vs.head? (fun v=>some (⟨v,h,n,false,[],[]⟩:WDid)) else none)=_
   simp only
   split
   · cases vs.head? <;> rfl
   · rfl
  | _=>rfl
 | call f as0 =>
  show callD C run f (mapF (fun x=>opF x e) as0) h nid n=_
  rw [callD_eq,mapF_eq,show (fun x=>opF x e)=(fun x=>x.ev e) from funext fun x=>opF_eq x e];rfl
 | _=>rfl
noncomputable def wantD (v:AV) (w:Bool) (skip go:Option (WSt × List WDid)):Option (WSt × List WDid):=@AV.rec (fun _=>Bool→Option (WSt × List WDid)→Option (WSt × List WDid)→Option (WSt × List WDid)) (fun _=>PUnit) (fun _=>PUnit) (fun _ _ _=>none) (fun b=>fun w skip go=>Bool.rec (motive:=fun _=>Option (WSt × List WDid)) (Bool.rec (motive:=fun _=>Option (WSt × List WDid)) go skip w) (Bool.rec (motive:=fun _=>Option (WSt × List WDid)) skip go w) b) (fun _ _=>fun _ _ _=>none) (fun _=>fun _ _ _=>none) (fun _ _ _=>none) (fun _ _ _=>none) (fun _ _ _=>none) (fun _ _ _=>none) (fun _ _ _ _=>fun _ _ _=>none) (fun _ _=>fun _ _ _=>none) (fun _ _ _=>fun _ _ _=>none) (fun _ _ _ _ _ _=>fun _ _ _=>none) (fun _=>fun _ _ _=>none) (fun _ _ _=>fun _ _ _=>none) (fun _ _=>fun _ _ _=>none) (fun cs _=>fun _ skip _=>List.rec (motive:=fun _=>Option (WSt × List WDid)) skip (fun _ _ _=>none) cs) ⟨⟩ (fun _ _ _ _=>⟨⟩) ⟨⟩ (fun _ _ _ _=>⟨⟩) v w skip go
noncomputable def guardD (e:Env) (g:Option (Nat × Bool)) (skip go:Option (WSt × List WDid)):Option (WSt × List WDid):=Option.rec (motive:=fun _=>Option (WSt × List WDid)) go (fun g=>Option.rec (motive:=fun _=>Option (WSt × List WDid)) none (fun v=>wantD v g.2 skip go) (getF e g.1)) g
theorem guardD_eq (e:Env) (g:Option (Nat × Bool)) (skip go:Option (WSt × List WDid)):guardD e g skip go=match wants e g with
 | none=>none
 | some false=>skip
 | some true=>go:=by
 cases g with
 | none=>rfl
 | some g =>
  obtain ⟨s,w⟩:=g
  show Option.rec (motive:=fun _=>Option (WSt × List WDid)) none (fun v=>wantD v w skip go) (getF e s)=_
  rw [getF_eq]
  simp only [wants]
  generalize Pav.get e s=q
  cases q with
  | none=>rfl
  | some v=>cases v with
   | bool b=>cases b <;> cases w <;> rfl
   | tup cs=>cases cs <;> rfl
   | _=>rfl
noncomputable def drawD (l:List COper):WProg→WRun→Nat→Env→WHeap→Nat→List WDid→Option (WSt × List WDid):=List.rec (motive:=fun _=>WProg→WRun→Nat→Env→WHeap→Nat→List WDid→Option (WSt × List WDid)) (fun _ _ _ e h n ds=>some (⟨e,h,n⟩,ds))
 (fun o _ ih C run nid e h n ds=>guardD e o.guard (ih C run (Nat.succ nid) (setF e o.dst (.tup [])) h n (appF ds [⟨.tup [],h,n,false,[],[]⟩])) (obF (actF o.op C run nid e h n) fun d=>ih C run (Nat.succ nid) (setF e o.dst d.v) d.h d.n (appF ds [d]))) l
theorem drawD_eq (C:WProg) (run:WRun) (l:List COper):∀ nid e h n ds,drawD l C run nid e h n ds=evDrawW C run l nid ⟨e,h,n⟩ ds:=by
 induction l with
 | nil=>intro nid e h n ds;rfl
 | cons o r ih =>
  intro nid e h n ds
  have e1:drawD (o::r) C run nid e h n ds=guardD e o.guard (drawD r C run (nid+1) (setF e o.dst (.tup [])) h n (appF ds [⟨.tup [],h,n,false,[],[]⟩])) (obF (actF o.op C run nid e h n) fun d=>drawD r C run (nid+1) (setF e o.dst d.v) d.h d.n (appF ds [d])):=rfl
  rw [e1]
  simp only [guardD_eq,actF_eq,obF_eq,appF_eq,ih,setF_eq,evDrawW,evOpW]
  cases wants e o.guard with
  | none=>rfl
  | some b=>cases b <;> rfl
noncomputable def nilB {α:Type} (l:List α):Bool:=List.rec (motive:=fun _=>Bool) true (fun _ _ _=>false) l
theorem nilB_eq {α:Type} (l:List α):nilB l=l.isEmpty:=by cases l <;> rfl
noncomputable def quietF (d:WDid):Bool:=Bool.rec (motive:=fun _=>Bool) (Bool.rec (motive:=fun _=>Bool) false (nilB d.rd) (nilB d.wr)) false d.bar
theorem quietF_eq (d:WDid):quietF d=quietW d:=by
 unfold quietF quietW
 rw [nilB_eq,nilB_eq]
 cases d.bar <;> cases d.wr.isEmpty <;> rfl
noncomputable def apartF (ds:List WDid) (p:Nat × Nat):Bool:=Option.rec (motive:=fun _=>Bool) false (fun a=>Option.rec (motive:=fun _=>Bool) false (fun b=>Bool.rec (motive:=fun _=>Bool) (Bool.rec (motive:=fun _=>Bool) (!clashW a b) true (quietF b)) true (quietF a)) (nthF ds p.2)) (nthF ds p.1)
theorem apartF_eq (ds:List WDid) (p:Nat × Nat):apartF ds p=apartW ds p:=by
 unfold apartF apartW
 rw [nthF_eq,nthF_eq]
 cases ds[p.1]? with
 | none=>rfl
 | some a=>cases ds[p.2]? with
  | none=>rfl
  | some b =>
   show Bool.rec (motive:=fun _=>Bool) (Bool.rec (motive:=fun _=>Bool) (!clashW a b) true (quietF b)) true (quietF a)=!clashW a b
   rw [quietF_eq,quietF_eq]
   cases h1:quietW a
   · cases h2:quietW b
     · rfl
     · unfold clashW;rw [h1,h2];rfl
   · unfold clashW;rw [h1];rfl
noncomputable def drawQ (C:WProg) (run:WRun) (l:List COper) (un:List (Nat × Nat)) (a:Ann) (base:Nat) (s:WSt):Option (Ex × WSt):=List.rec (motive:=fun _=>Option (Ex × WSt))
 (obF (drawR l C run s.next s.env s.heap (Nat.add s.next (lenF l))) fun s=>obF (canonQ base a s) fun s=>some (.norm,s))
 (fun _ _ _=>obF (drawD l C run s.next s.env s.heap (Nat.add s.next (lenF l)) []) fun r=>Bool.rec (motive:=fun _=>Option (Ex × WSt)) none (obF (canonQ base a r.1) fun s=>some (.norm,s)) (allF (apartF r.2) un)) un
theorem drawQ_eq (C:WProg) (run:WRun) (l:List COper) (un:List (Nat × Nat)) (a:Ann) (base:Nat) (s:WSt):drawQ C run l un a base s=ob (evDrawW C run l s.next ⟨s.env,s.heap,s.next+l.length⟩ []) (drawEndW base un a):=by
 cases un with
 | nil =>
  show (obF (drawR l C run s.next s.env s.heap (Nat.add s.next (lenF l))) fun s=>obF (canonQ base a s) fun s=>some (Ex.norm,s))=_
  have k:=drawR_eq C run l s.next s.env s.heap (s.next+l.length) []
  have idb:∀ x:Option WSt,(ob x fun s=>some s)=x:=fun x=>by cases x <;> rfl
  rw [idb] at k
  rw [lenF_eq,show Nat.add s.next l.length=s.next+l.length from rfl,k,obF_eq]
  simp only [obF_om,canonQ_eq]
  cases evDrawW C run l s.next ⟨s.env,s.heap,s.next+l.length⟩ [] <;> rfl
 | cons p r =>
  show (obF (drawD l C run s.next s.env s.heap (Nat.add s.next (lenF l)) []) fun x=>Bool.rec (motive:=fun _=>Option (Ex × WSt)) none (obF (canonQ base a x.1) fun s=>some (Ex.norm,s)) (allF (apartF x.2) (p::r)))=_
  simp only [obF_eq,obs_om,canonQ_eq,drawD_eq,allF_eq,lenF_eq]
  rw [show Nat.add s.next l.length=s.next+l.length from rfl]
  cases evDrawW C run l s.next ⟨s.env,s.heap,s.next+l.length⟩ [] with
  | none=>rfl
  | some x =>
   simp only [ob,drawEndW,show apartF x.2=apartW x.2 from funext (apartF_eq x.2)]
   cases (p::r).all (apartW x.2) <;> rfl
noncomputable def condF (v:AV) (a b:Option (Ex × WSt)):Option (Ex × WSt):=@AV.rec (fun _=>Option (Ex × WSt)→Option (Ex × WSt)→Option (Ex × WSt)) (fun _=>PUnit) (fun _=>PUnit) (fun _ _=>none) (fun b=>fun x y=>Bool.rec (motive:=fun _=>Option (Ex × WSt)) y x b) (fun _ _=>fun _ _=>none) (fun _=>fun _ _=>none) (fun _ _=>none) (fun _ _=>none) (fun _ _=>none) (fun _ _=>none) (fun _ _ _ _=>fun _ _=>none) (fun _ _=>fun _ _=>none) (fun _ _ _=>fun _ _=>none) (fun _ _ _ _ _ _=>fun _ _=>none) (fun _=>fun _ _=>none) (fun _ _ _=>fun _ _=>none) (fun _ _=>fun _ _=>none) (fun _ _=>fun _ _=>none) ⟨⟩ (fun _ _ _ _=>⟨⟩) ⟨⟩ (fun _ _ _ _=>⟨⟩) v a b
theorem condF_eq (v:AV) (f g:WSt→Option (Ex × WSt)) (s:WSt):condF v (f s) (g s)=evCondW f g v s:=by
 cases v with
 | bool b=>cases b <;> rfl
 | _=>rfl
noncomputable def seqF (r:Ex × WSt) (f:WSt→Option (Ex × WSt)):Option (Ex × WSt):=Ex.rec (motive:=fun _=>Option (Ex × WSt)) (f r.2) (fun _=>some r) (some r) r.1
theorem seqF_eq (r:Ex × WSt) (f:WSt→Option (Ex × WSt)):seqF r f=evSeqW f r:=by
 obtain ⟨x,s⟩:=r
 cases x <;> rfl
noncomputable def blockF (base id:Nat) (a:Ann) (r:Ex × WSt):Option (Ex × WSt):=Ex.rec (motive:=fun _=>Option (Ex × WSt)) (obF (canonH base a r.2) fun s=>some (.norm,s)) (fun i=>Bool.rec (motive:=fun _=>Option (Ex × WSt)) (some r) (obF (canonH base a r.2) fun s=>some (.norm,s)) (Nat.beq i id)) (some r) r.1
theorem blockF_eq (base id:Nat) (a:Ann) (r:Ex × WSt):blockF base id a r=evBlockW base id a r:=by
 obtain ⟨x,s⟩:=r
 cases x with
 | norm=>show (obF (canonH base a s) fun s=>some (Ex.norm,s))=_;rw [obF_om,canonH_eq];rfl
 | ret=>rfl
 | exit i =>
  show Bool.rec (motive:=fun _=>Option (Ex × WSt)) (some (.exit i,s)) (obF (canonH base a s) fun s=>some (Ex.norm,s)) (Nat.beq i id)=if i=id then om (canon base a s) fun s=>(.norm,s) else some (.exit i,s)
  rw [obF_om,canonH_eq,beq_dec]
  by_cases h:i=id
  · rw [if_pos h,decide_eq_true h]
  · rw [if_neg h,decide_eq_false h]
def cl1 (z:Nat):List COper:=[⟨some 2,none,.mv (.c (.ro z [] true))⟩]
def cl2:List COper:=[⟨some 3,none,.mv (.t 0)⟩,⟨some 4,none,.eqv 0 [] false (.t 3) (.c .nils)⟩]
def cl3 (zz:List AV) (b:Nat):List COper:=[⟨some 5,none,.buildS zz 0 []⟩,⟨some 6,none,.mv (.t 0)⟩,⟨some 7,none,.app zz (b % 1125899906842624) false (.t 5) (.t 6)⟩,⟨some 2,none,.mv (.t 7)⟩]
noncomputable def clnF (C:WProg) (run:WRun) (zz:List AV) (z b:Nat) (s:WSt):Option (Ex × WSt) :=
 Option.rec (motive:=fun _=>Option (Ex × WSt))
  (obF (opsF C run (cl1 z) s.env s.heap s.next) fun s=>obF (opsF C run cl2 s.env s.heap s.next) fun s=>condF (opF (.t 4) s.env) none (obF (opsF C run (cl3 zz b) s.env s.heap s.next) fun s=>some (.ret,s)))
  (fun z'=>Bool.rec (motive:=fun _=>Option (Ex × WSt)) none (some (.ret,⟨[(2,.sl s.next z 0 0 0 true)],Pav.put s.heap s.next (.cells z [] true true),s.next+1⟩)) (andF (Nat.beq z' z) (Nat.beq (lenF zz) z))) ((Pav.get s.env 0).bind isEmptyRo)
noncomputable def codeR (c:WCode):WProg→WRun→Nat→Nat→WSt→Option (Ex × WSt):=WCode.rec (motive:=fun _=>WProg→WRun→Nat→Nat→WSt→Option (Ex × WSt))
 (fun _ _ _ _ s=>some (.norm,s))
 (fun l a C run _ base s=>obF (opsR l C run s.env s.heap s.next) fun s=>obF (canonQ base a s) fun s=>some (.norm,s))
 (fun l un a C run _ base s=>drawQ C run l un a base s)
 (fun _ _ ia ib C run N base s=>obF (ia C run N base s) fun r=>seqF r (ib C run N base))
 (fun c _ _ ia ib C run N base s=>condF (opF c s.env) (ia C run N base s) (ib C run N base s))
 (fun id _ a ib C run N base s=>obF (ib C run N base s) (blockF base id a))
 (fun a _ ib C run N base s=>Nat.rec (motive:=fun _=>WSt→Option (Ex × WSt)) (fun _=>none) (fun _ ih s=>obF (canonH base a s) fun s=>obF (ib C run N base s) fun r=>seqF r ih) N s)
 (fun id _ _ _ _ s=>some (.exit id,s))
 (fun _ _ _ _ s=>some (.ret,s))
 (fun _ _ _ _ _=>none)
 (fun zz z b C run _ _ s=>clnF C run zz z b s)
 (fun pre ap post a C run _ base s=>Bool.rec (motive:=fun _=>Option (Ex × WSt)) none (obF (opsR pre C run s.env s.heap s.next) fun s1=>obF (evSnapW ap s1.env s1.heap) fun v=>obF (opsR post C run (setD s1.env ap.dst v) [] s1.next) fun s2 =>
  obF (canonQ base a ⟨isoEnvW s2.env ((ap::post).filterMap (·.dst)) s1.env,s1.heap,s2.next⟩) fun s=>some (.norm,s)) (lastOk ap post))
 (fun k _ _ _ _ s=>obF (primF k (primArgs (primN k) 0 s.env)) fun v=>some (.ret,⟨putF s.env 9 v,s.heap,s.next⟩))
 c
section
variable (C:WProg) (run:WRun) (N:Nat)
noncomputable def codeF (c:WCode) (base:Nat) (s:WSt):Option (Ex × WSt):=codeR c C run N base s
end
theorem obF_some {α β:Type} {x:Option α} {f:α→Option β} {b:β} (h:obF x f=some b):∃ a,x=some a∧f a=some b:=by
 rw [obF_eq] at h;exact ob_some h
section
variable {C:WProg} {run:WRun} {N:Nat}
theorem ops_cd (hr:RunLeC C run (RnW C)) {l:List COper} {s s':WSt} (h:opsF C run l s.env s.heap s.next=some s'):evOpsW C (RnW C) l s=some s':=by
 rw [opsF_eq] at h
 exact evOpsW_mc hr l s s' h
theorem cln_cd (hr:RunLeC C run (RnW C)) {base:Nat} {zz:List AV} {z b:Nat} {s:WSt} {x:Ex × WSt} (h:clnF C run zz z b s=some x):CdW C base (.cln zz z b) s=some x:=by
 rw [cw_cln]
 unfold clnF at h
 cases hq:(Pav.get s.env 0).bind isEmptyRo with
 | some z' =>
  rw [hq] at h
  simp only [andF_eq,beq_dec,lenF_eq] at h ⊢
  by_cases c1:z'=z
  · by_cases c2:zz.length=z
    · rw [if_pos ⟨c1,c2⟩];simp only [c1,c2,decide_true,Bool.and_self] at h;exact h
    · simp [c1,c2] at h
  · simp [c1] at h
 | none =>
  rw [hq] at h
  obtain ⟨s1,h1,h⟩:=obF_some h
  obtain ⟨s2,h2,h⟩:=obF_some h
  simp only
  have q1:=ops_cd hr h1
  have q2:=ops_cd hr h2
  unfold cl1 at q1
  unfold cl2 at q2
  unfold clnC
  rw [cw_seq,cw_ops,q1]
  simp only [ob,om,canonF,canon,frzOf,frzSlotsW,evSeqW]
  rw [cw_seq,cw_seq,cw_ops,q2]
  simp only [ob,om,canonF,canon,frzOf,frzSlotsW,evSeqW]
  rw [cw_cond]
  have e:=opF_eq (.t 4) s2.env
  rw [e] at h
  cases hv:Opd.ev (.t 4) s2.env with
  | bool t =>
   rw [hv] at h
   cases t with
   | true=>exact absurd (show (none:Option (Ex × WSt))=some x from h) (by simp)
   | false =>
    obtain ⟨s3,h3,h⟩:=obF_some (show (obF (opsF C run (cl3 zz b) s2.env s2.heap s2.next) fun s=>some (Ex.ret,s))=some x from h)
    simp only [evCondW,Bool.false_eq_true,if_false]
    rw [cw_skip]
    simp only []
    have q3:=ops_cd hr h3
    unfold cl3 at q3
    rw [cw_seq,cw_ops,q3]
    simp only [ob,om,canonF,canon,frzOf,frzSlotsW,evSeqW]
    rw [cw_ret];exact h
  | _=>rw [hv] at h;exact absurd (show (none:Option (Ex × WSt))=some x from h) (by simp)
theorem codeF_cd (hr:RunLeC C run (RnW C)):∀ (c:WCode) (base:Nat) (s:WSt) (x:Ex × WSt),codeF C run N c base s=some x→CdW C base c s=some x:=by
 intro c
 induction c with
 | skip=>intro base s x h;rw [cw_skip];exact h
 | exit id=>intro base s x h;rw [cw_exit];exact h
 | ret=>intro base s x h;rw [cw_ret];exact h
 | fail=>intro base s x h;exact absurd (show (none:Option (Ex × WSt))=some x from h) (by simp)
 | prim k =>
  intro base s x h
  rw [cw_prim]
  obtain ⟨v,h1,h2⟩:=obF_some (show (obF (primF k (primArgs (primN k) 0 s.env)) fun v=>some (Ex.ret,(⟨putF s.env 9 v,s.heap,s.next⟩:WSt)))=some x from h)
  rw [h1]
  rw [putF_eq] at h2
  exact h2
 | cln zz z b=>intro base s x h;exact cln_cd hr h
 | iso pre ap post a =>
  intro base s x h
  rw [cw_iso]
  replace h:Bool.rec (motive:=fun _=>Option (Ex × WSt)) none (obF (opsF C run pre s.env s.heap s.next) fun s1=>obF (evSnapW ap s1.env s1.heap) fun v=>obF (opsF C run post (setD s1.env ap.dst v) [] s1.next) fun s2 =>
   obF (canonQ base a ⟨isoEnvW s2.env ((ap::post).filterMap (·.dst)) s1.env,s1.heap,s2.next⟩) fun s=>some (Ex.norm,s)) (lastOk ap post)=some x:=h
  cases hl:lastOk ap post
  · rw [hl] at h;cases h
  · rw [hl] at h
    obtain ⟨s1,h1,h⟩:=obF_some h
    obtain ⟨v,h2,h⟩:=obF_some h
    obtain ⟨s2,h3,h⟩:=obF_some h
    obtain ⟨s3,h4,h⟩:=obF_some h
    rw [canonQ_eq] at h4
    unfold evIsoW
    rw [if_pos hl,ops_cd hr h1]
    simp only [ob,h2]
    rw [ops_cd (s:=⟨setD s1.env ap.dst v,[],s1.next⟩) hr h3]
    simp only [om]
    rw [h4];exact h
 | ops l a =>
  intro base s x h
  rw [cw_ops]
  obtain ⟨s1,h1,h⟩:=obF_some (show (obF (opsF C run l s.env s.heap s.next) fun s=>obF (canonQ base a s) fun s=>some (Ex.norm,s))=some x from h)
  obtain ⟨s2,h2,h⟩:=obF_some h
  rw [canonQ_eq] at h2
  rw [ops_cd hr h1]
  simp only [ob]
  rw [h2];exact h
 | draw l un a =>
  intro base s x h
  rw [cw_draw]
  have h0:drawQ C run l un a base s=some x:=h
  rw [drawQ_eq] at h0
  obtain ⟨y,h1,h⟩:=ob_some h0
  rw [evDrawW_mc hr l _ _ _ y h1]
  exact h
 | seq a b ia ib =>
  intro base s x h
  rw [cw_seq]
  obtain ⟨r,h1,h⟩:=obF_some (show (obF (codeF C run N a base s) fun r=>seqF r (codeF C run N b base))=some x from h)
  rw [ia base s r h1]
  rw [seqF_eq] at h
  exact evSeqW_mono (fun s x hx=>ib base s x hx) h
 | cond c a b ia ib =>
  intro base s x h
  rw [cw_cond]
  have h:=(show condF (opF c s.env) (codeF C run N a base s) (codeF C run N b base s)=some x from h)
  rw [condF_eq,opF_eq] at h
  unfold evCondW at h ⊢
  split
  · rename_i t hv
    rw [hv] at h
    cases t with
    | true=>exact ia _ _ _ h
    | false=>exact ib _ _ _ h
  · split at h
    · rename_i h1 _ t hv;exact absurd hv (h1 t)
    · cases h
 | block id b a ib =>
  intro base s x h
  rw [cw_block]
  obtain ⟨r,h1,h⟩:=obF_some (show obF (codeF C run N b base s) (blockF base id a)=some x from h)
  rw [ib base s r h1]
  rw [blockF_eq] at h
  exact h
 | loop a b ib =>
  intro base s x h
  have k:∀ (M:Nat) (s:WSt) (x:Ex × WSt),Nat.rec (motive:=fun _=>WSt→Option (Ex × WSt)) (fun _=>none) (fun _ ih s=>obF (canonH base a s) fun s=>obF (codeF C run N b base s) fun r=>seqF r ih) M s=some x→CdW C base (.loop a b) s=some x:=by
   intro M
   induction M with
   | zero=>intro s x h;exact absurd (show (none:Option (Ex × WSt))=some x from h) (by simp)
   | succ M ih =>
    intro s x h
    obtain ⟨s1,h1,h⟩:=obF_some h
    obtain ⟨r,h2,h⟩:=obF_some h
    rw [canonH_eq] at h1
    rw [cw_loop,h1]
    simp only [ob]
    rw [ib base s1 r h2]
    rw [seqF_eq] at h
    exact evSeqW_mono (fun s x hx=>ih s x hx) h
  exact k N s x h
end
noncomputable def orcF (orc:Orc) (run:WRun):WRun:=fun f args h n=>List.rec (motive:=fun _=>Option (AV × WHeap × Nat)) (Nat.rec (motive:=fun _=>Option (AV × WHeap × Nat)) (Option.rec (motive:=fun _=>Option (AV × WHeap × Nat)) (run f args [] 0) (fun v=>some (v,[],0)) (orc f args)) (fun _ _=>run f args h n) n) (fun _ _ _=>run f args h n) h
theorem orcF_eq (orc:Orc) (run:WRun):orcF orc run=orcRun orc run:=by
 funext f args h n
 cases h with
 | nil=>cases n with
  | zero =>
   show Option.rec (motive:=fun _=>Option (AV × WHeap × Nat)) (run f args [] 0) (fun v=>some (v,[],0)) (orc f args)=_
   unfold orcRun
   cases orc f args <;> rfl
  | succ n=>rfl
 | cons a r=>rfl
noncomputable def argF (args:List AV):Env:=List.rec (motive:=fun _=>Nat→Env→Env) (fun _ acc=>acc) (fun v _ ih k acc=>ih (Nat.succ k) ((k,v)::acc)) args 0 []
theorem argF_eq (args:List AV):argF args=argW 0 args []:=by
 have k:∀ (l:List AV) (k:Nat) (acc:Env),List.rec (motive:=fun _=>Nat→Env→Env) (fun _ acc=>acc) (fun v _ ih k acc=>ih (Nat.succ k) ((k,v)::acc)) l k acc=argW k l acc:=by
  intro l
  induction l with
  | nil=>intro k acc;rfl
  | cons v r ih=>intro k acc;exact ih (k+1) ((k,v)::acc)
 exact k args 0 []
noncomputable def cellPF (n:Nat) (ag:Bool) (h:WHeap) (v:AV):Option AV:=@AV.rec (fun _=>Nat→Bool→WHeap→Option AV) (fun _=>PUnit) (fun _=>PUnit) (fun _ _ _=>none) (fun _=>fun _ _ _=>none) (fun _ _=>fun _ _ _=>none) (fun _=>fun _ _ _=>none) (fun _ _ _=>none) (fun _ _ _=>none) (fun _ _ _=>none) (fun _ _ _=>none) (fun _ _ _ _=>fun _ _ _=>none) (fun _ _=>fun _ _ _=>none) (fun b i o=>fun n ag h=>objF (getF h b) fun _ es _ _=>obF (nthF es i) fun cs=>loadCF n ag (dropF o cs)) (fun _ _ _ _ _ _=>fun _ _ _=>none) (fun _=>fun _ _ _=>none) (fun _ _ _=>fun _ _ _=>none) (fun _ _=>fun _ _ _=>none) (fun _ _=>fun _ _ _=>none) ⟨⟩ (fun _ _ _ _=>⟨⟩) ⟨⟩ (fun _ _ _ _=>⟨⟩) v n ag h
noncomputable def resF (e:Env) (h:WHeap) (r:CRes):Option AV:=CRes.rec (motive:=fun _=>Env→WHeap→Option AV) (fun t e _=>getF e t) (fun t n ag e h=>Option.rec (motive:=fun _=>Option AV) none (fun v=>cellPF n ag h v) (getF e t)) r e h
theorem resF_eq (e:Env) (h:WHeap) (r:CRes):resF e h r=resOfW e h r:=by
 cases r with
 | tmp t=>exact getF_eq e t
 | cell t n ag =>
  show Option.rec (motive:=fun _=>Option AV) none (fun v=>cellPF n ag h v) (getF e t)=_
  rw [getF_eq]
  simp only [resOfW]
  generalize Pav.get e t=q
  cases q with
  | none=>rfl
  | some v=>cases v with
   | ptr b i o=>exact loadF_eq n ag h (.ptr b i o)
   | _=>rfl
noncomputable def tupF (l:List AV):AV:=List.rec (motive:=fun _=>AV) (.tup []) (fun a r _=>List.rec (motive:=fun _=>AV) a (fun _ _ _=>.tup (a::r)) r) l
theorem tupF_eq (l:List AV):tupF l=tupled l:=by
 cases l with
 | nil=>rfl
 | cons a r=>cases r <;> rfl
noncomputable def endF (res:List CRes) (r:Ex × WSt):Option (AV × WHeap × Nat):=Ex.rec (motive:=fun _=>Option (AV × WHeap × Nat)) (obF (mapOF (resF r.2.env r.2.heap) res) fun vs=>some (tupF vs,r.2.heap,r.2.next)) (fun _=>none) (obF (mapOF (resF r.2.env r.2.heap) res) fun vs=>some (tupF vs,r.2.heap,r.2.next)) r.1
theorem endF_eq (res:List CRes) (r:Ex × WSt):endF res r=fnEndW res r:=by
 have k:(obF (mapOF (resF r.2.env r.2.heap) res) fun vs=>some (tupF vs,r.2.heap,r.2.next))=om (resultsW r.2.env r.2.heap res) fun v=>(v,r.2.heap,r.2.next):=by
  rw [mapOF_eq,show resF r.2.env r.2.heap=resOfW r.2.env r.2.heap from funext (resF_eq _ _)]
  unfold resultsW
  cases mapO (resOfW r.2.env r.2.heap) res with
  | none=>rfl
  | some vs=>show some (tupF vs,r.2.heap,r.2.next)=_;rw [tupF_eq];rfl
 obtain ⟨x,s⟩:=r
 cases x with
 | norm=>exact k
 | ret=>exact k
 | exit i=>rfl
noncomputable def runF (C:WProg) (orc:Orc) (N d:Nat):WRun:=Nat.rec (motive:=fun _=>WRun) (fun _ _ _ _=>none)
 (fun _ ih f args h n=>obF (treeF C.fns f) fun w=>Bool.rec (motive:=fun _=>Option (AV × WHeap × Nat)) none (obF (codeR w.body C (orcF orc ih) N n ⟨argF args,h,n⟩) fun r=>endF w.res r) (Nat.beq (lenF args) w.np)) d
theorem runF_le {C:WProg} {orc:Orc} (ok:OrcOk C orc) (N:Nat):∀ d,RunLeW (runF C orc N d) (RnW C):=by
 intro d
 induction d with
 | zero=>intro f args h n x hx;exact absurd (show (none:Option (AV × WHeap × Nat))=some x from hx) (by simp)
 | succ d ih =>
  intro f args h n x hx
  have hr:RunLeC C (orcF orc (runF C orc N d)) (RnW C):=by rw [orcF_eq];exact orc_le ok ih
  obtain ⟨w,h1,hx⟩:=obF_some (show (obF (treeF C.fns f) fun w=>Bool.rec (motive:=fun _=>Option (AV × WHeap × Nat)) none (obF (codeF C (orcF orc (runF C orc N d)) N w.body n ⟨argF args,h,n⟩) fun r=>endF w.res r) (Nat.beq (lenF args) w.np))=some x from hx)
  rw [treeF_eq] at h1
  rw [lenF_eq,beq_dec] at hx
  unfold RnW runWithW
  rw [h1]
  simp only [ob]
  by_cases c:args.length=w.np
  · rw [if_pos c]
    rw [decide_eq_true c] at hx
    obtain ⟨r,h2,h3⟩:=obF_some (show (obF (codeF C (orcF orc (runF C orc N d)) N w.body n ⟨argF args,h,n⟩) fun r=>endF w.res r)=some x from hx)
    rw [argF_eq] at h2
    rw [codeF_cd hr _ _ _ _ h2]
    rw [endF_eq] at h3
    exact h3
  · rw [decide_eq_false c] at hx
    exact absurd (show (none:Option (AV × WHeap × Nat))=some x from hx) (by simp)
noncomputable def runQ (C:WProg) (orc:Orc) (N d:Nat):WRun:=orcF orc (runF C orc N d)
theorem runQ_le {C:WProg} {orc:Orc} (ok:OrcOk C orc) (N d:Nat):RunLeC C (runQ C orc N d) (RnW C):=by
 unfold runQ;rw [orcF_eq];exact orc_le ok (runF_le ok N d)
noncomputable def callQ (C:WProg) (orc:Orc) (N d f:Nat) (args:List AV):Option AV:=pureF (runF C orc N d) f args
theorem callQ_ok {C:WProg} {orc:Orc} (ok:OrcOk C orc) {N d f:Nat} {args:List AV} {v:AV} (h:callQ C orc N d f args=some v):FnW C f args=some v:=by
 unfold callQ at h
 rw [pureF_eq] at h
 obtain ⟨x,h1,h2⟩:=ob_some h
 unfold FnW pureCallW
 rw [runF_le ok N d _ _ _ _ _ h1]
 exact h2
theorem no_ok (C:WProg):OrcOk C (fun _ _=>none):=⟨fun _ _ _ h=>(by cases h),fun _ _ _ h=>(by cases h),fun _ _ _ h=>(by cases h),fun _ _ _ h=>(by cases h)⟩
end Go.Pw
end
section
namespace Go.Pw
open Go Go.Pav
theorem codeQ_cd {C:WProg} {orc:Orc} (ok:OrcOk C orc) {N d base:Nat} {c:WCode} {s:WSt} {x:Ex × WSt} (h:codeR c C (runQ C orc N d) N base s=some x):CdW C base c s=some x :=
 codeF_cd (runQ_le ok N d) c base s x h
section
variable (C:WProg) (orc:Orc) (N d base:Nat)
noncomputable def seqQ:List WCode→WSt→Option WSt
 | [],s=>some s
 | c::r,s=>ob (codeR c C (runQ C orc N d) N base s) fun x=>ob (norm? x) (seqQ r)
noncomputable def stepQ (a:Ann) (b:WCode) (s:WSt):Option WSt:=ob (codeR b C (runQ C orc N d) N base s) fun r=>ob (norm? r) fun s=>canon base a s
noncomputable def iterQ (a:Ann) (b:WCode):Nat→WSt→Option WSt
 | 0,s=>some s
 | n+1,s=>ob (stepQ C orc N d base a b s) (iterQ a b n)
noncomputable def endQ (b:WCode) (s:WSt):Option (Ex × WSt):=ob (codeR b C (runQ C orc N d) N base s) out?
noncomputable def leaveQ (id:Nat) (al:Ann) (b:WCode) (s:WSt):Option WSt:=ob (endQ C orc N d base b s) fun r=>ob (evBlockW base id al r) norm?
end
section
variable {C:WProg} {orc:Orc} {N d base:Nat}
theorem seqQ_cd (ok:OrcOk C orc):∀ (cs:List WCode) (s s':WSt) (c:WCode),seqQ C orc N d base cs s=some s'→CdW C base (cs.foldr .seq c) s=CdW C base c s':=by
 intro cs
 induction cs with
 | nil=>intro s s' c h;cases h;rfl
 | cons a r ih =>
  intro s s' c h
  simp only [seqQ] at h
  obtain ⟨x,h1,h⟩:=ob_some h
  obtain ⟨t,h2,h⟩:=ob_some h
  obtain rfl:=norm_some h2
  rw [List.foldr_cons,cw_seq,codeQ_cd ok h1]
  exact ih t s' c h
theorem loop_cdQ (ok:OrcOk C orc) (a:Ann) (b:WCode):∀ (n:Nat) (s t:WSt) (r:Ex × WSt),iterQ C orc N d base a b n s=some t→endQ C orc N d base b t=some r→∀ s0,canon base a s0=some s→CdW C base (.loop a b) s0=some r:=by
 intro n
 induction n with
 | zero =>
  intro s t r h1 h2 s0 hc
  cases h1
  obtain ⟨x,h3,h4⟩:=ob_some h2
  obtain ⟨rfl,h5⟩:=out_some h4
  rw [cw_loop,hc]
  simp only [ob]
  rw [codeQ_cd ok h3]
  obtain ⟨e,w⟩:=x
  cases e with
  | norm=>exact absurd rfl h5
  | exit id=>rfl
  | ret=>rfl
 | succ n ih =>
  intro s t r h1 h2 s0 hc
  simp only [iterQ,stepQ] at h1
  obtain ⟨y,h3,h6⟩:=ob_some h1
  obtain ⟨x,h4,h5⟩:=ob_some h3
  obtain ⟨w,h7,h8⟩:=ob_some h5
  obtain rfl:=norm_some h7
  rw [cw_loop,hc]
  simp only [ob]
  rw [codeQ_cd ok h4]
  exact ih y t r h6 h2 w h8
theorem block_cdQ (ok:OrcOk C orc) (a:Ann) (b:WCode) (id:Nat) (al:Ann) {n:Nat} {s0 s t u:WSt} (hc:canon base a s0=some s) (h1:iterQ C orc N d base a b n s=some t) (h2:leaveQ C orc N d base id al b t=some u) (c:WCode) :
 CdW C base (.seq (.block id (.loop a b) al) c) s0=CdW C base c u:=by
 obtain ⟨r,h3,h4⟩:=ob_some h2
 obtain ⟨x,h5,h6⟩:=ob_some h4
 obtain rfl:=norm_some h6
 rw [cw_seq,cw_block,loop_cdQ ok a b n s t r h1 h3 s0 hc]
 simp only [ob]
 rw [h5]
 rfl
theorem head_cdQ (ok:OrcOk C orc) (cs:List WCode) (b:WCode) (a:Ann) (lb:WCode) (id:Nat) (al:Ann) {n:Nat} {s0 s t u:WSt}
 (h0:(ob (seqQ C orc N d base (cs++[b]) s0) (canon base a))=some s) (h1:iterQ C orc N d base a lb n s=some t) (h2:leaveQ C orc N d base id al lb t=some u) (c:WCode) :
 CdW C base (cs.foldr .seq (.seq (.seq b (.block id (.loop a lb) al)) c)) s0=CdW C base c u:=by
 obtain ⟨s1,h3,h4⟩:=ob_some h0
 rw [pre_cd,seqQ_cd ok _ _ _ _ h3]
 exact block_cdQ ok a lb id al h4 h1 h2 c
end
end Go.Pw
end
section
namespace Go.Pw
open Go Go.Pav
noncomputable def eqB (a b:Bool):Bool:=Bool.rec (motive:=fun _=>Bool) (Bool.rec (motive:=fun _=>Bool) true false b) b a
theorem eqB_ok {a b:Bool} (h:eqB a b=true):a=b:=by cases a <;> cases b <;> first | rfl | exact Bool.noConfusion (show false=true from h)
theorem andF_ok {a b:Bool} (h:andF a b=true):a=true∧b=true:=by cases a <;> cases b <;> first | exact ⟨rfl,rfl⟩ | exact Bool.noConfusion (show false=true from h)
noncomputable def eqS (a:List UInt8):List UInt8→Bool:=List.rec (motive:=fun _=>List UInt8→Bool) (fun b=>nilB b) (fun x _ ih b=>List.rec (motive:=fun _=>Bool) false (fun y r _=>andF (Nat.beq x.toNat y.toNat) (ih r)) b) a
theorem nilB_ok {α:Type} {l:List α} (h:nilB l=true):l=[]:=by cases l with | nil=>rfl | cons a r=>exact Bool.noConfusion (show false=true from h)
theorem eqS_ok:∀ (a b:List UInt8),eqS a b=true→a=b
 | [],b,h=>(nilB_ok h).symm
 | _::_,[],h=>Bool.noConfusion (show false=true from h)
 | x::a,y::b,h=>by
  obtain ⟨h1,h2⟩:=andF_ok (show andF (Nat.beq x.toNat y.toNat) (eqS a b)=true from h)
  rw [eqS_ok a b h2,UInt8.toNat_inj.1 (Nat.eq_of_beq_eq_true h1)]
noncomputable def onA (y:AV) (b:Bool→Bool) (i:IntKind→Int→Bool) (s:List UInt8→Bool) (r:Nat→List (List AV)→Bool→Bool) (g:List AV→Bool):Bool :=
 @AV.rec (fun _=>Bool) (fun _=>PUnit) (fun _=>PUnit) false b i s false false false false (fun z es ex _=>r z es ex) (fun _ _=>false) (fun _ _ _=>false) (fun _ _ _ _ _ _=>false) (fun _=>false) (fun _ _ _=>false) (fun cs _=>g cs) (fun _ _=>false) ⟨⟩ (fun _ _ _ _=>⟨⟩) ⟨⟩ (fun _ _ _ _=>⟨⟩) y
noncomputable def onT (y:AV) (g:List AV→Bool):Bool :=
 @AV.rec (fun _=>Bool) (fun _=>PUnit) (fun _=>PUnit) false (fun _=>false) (fun _ _=>false) (fun _=>false) false false false false (fun _ _ _ _=>false) (fun _ _=>false) (fun _ _ _=>false) (fun _ _ _ _ _ _=>false) (fun _=>false) (fun _ _ _=>false) (fun _ _=>false) (fun cs _=>g cs) ⟨⟩ (fun _ _ _ _=>⟨⟩) ⟨⟩ (fun _ _ _ _=>⟨⟩) y
noncomputable def fB (_:Bool):Bool:=false
noncomputable def fI (_:IntKind) (_:Int):Bool:=false
noncomputable def fS (_:List UInt8):Bool:=false
noncomputable def fR (_:Nat) (_:List (List AV)) (_:Bool):Bool:=false
noncomputable def fG (_:List AV):Bool:=false
noncomputable def eqA (a:AV):AV→Bool:=@AV.rec (fun _=>AV→Bool) (fun _=>List (List AV)→Bool) (fun _=>List AV→Bool)
 (fun _=>false) (fun b y=>onA y (eqB b) fI fS fR fG) (fun k n y=>onA y fB (fun k' n'=>andF (eqZ n n') (Nat.beq (kindN k) (kindN k'))) fS fR fG) (fun s y=>onA y fB fI (eqS s) fR fG)
 (fun _=>false) (fun _=>false) (fun _=>false) (fun _=>false)
 (fun z _ ex ih y=>onA y fB fI fS (fun z' es' ex'=>andF (Nat.beq z z') (andF (eqB ex ex') (ih es'))) fG)
 (fun _ _ _=>false) (fun _ _ _ _=>false) (fun _ _ _ _ _ _ _=>false) (fun _ _=>false) (fun _ _ _ _=>false) (fun _ ih y=>onA y fB fI fS fR ih) (fun _ ih y=>onT y ih)
 (fun l=>nilB l) (fun _ _ iha ihr l=>List.rec (motive:=fun _=>Bool) false (fun a' r' _=>andF (ihr r') (iha a')) l)
 (fun l=>nilB l) (fun _ _ iha ihr l=>List.rec (motive:=fun _=>Bool) false (fun a' r' _=>andF (ihr r') (iha a')) l) a
noncomputable def eqAL (l:List AV):List AV→Bool:=List.rec (motive:=fun _=>List AV→Bool) (fun l=>nilB l) (fun a _ ih l=>List.rec (motive:=fun _=>Bool) false (fun a' r' _=>andF (ih r') (eqA a a')) l) l
theorem kindN_inj {k k':IntKind} (h:kindN k=kindN k'):k=k':=by cases k <;> cases k' <;> first | rfl | exact absurd h (by decide)
theorem eqA_ok:∀ a b:AV,eqA a b=true→a=b:=by
 intro a
 refine @AV.rec (fun a=>∀ b,eqA a b=true→a=b)
  (fun l=>∀ l',(@AV.rec_1 (fun _=>AV→Bool) (fun _=>List (List AV)→Bool) (fun _=>List AV→Bool)
   (fun _=>false) (fun b y=>onA y (eqB b) fI fS fR fG) (fun k n y=>onA y fB (fun k' n'=>andF (eqZ n n') (Nat.beq (kindN k) (kindN k'))) fS fR fG) (fun s y=>onA y fB fI (eqS s) fR fG)
   (fun _=>false) (fun _=>false) (fun _=>false) (fun _=>false)
   (fun z _ ex ih y=>onA y fB fI fS (fun z' es' ex'=>andF (Nat.beq z z') (andF (eqB ex ex') (ih es'))) fG)
   (fun _ _ _=>false) (fun _ _ _ _=>false) (fun _ _ _ _ _ _ _=>false) (fun _ _=>false) (fun _ _ _ _=>false) (fun _ ih y=>onA y fB fI fS fR ih) (fun _ ih y=>onT y ih)
   (fun l=>nilB l) (fun _ _ iha ihr l=>List.rec (motive:=fun _=>Bool) false (fun a' r' _=>andF (ihr r') (iha a')) l)
   (fun l=>nilB l) (fun _ _ iha ihr l=>List.rec (motive:=fun _=>Bool) false (fun a' r' _=>andF (ihr r') (iha a')) l) l) l'=true→l=l')
  (fun l=>∀ l',(@AV.rec_2 (fun _=>AV→Bool) (fun _=>List (List AV)→Bool) (fun _=>List AV→Bool)
   (fun _=>false) (fun b y=>onA y (eqB b) fI fS fR fG) (fun k n y=>onA y fB (fun k' n'=>andF (eqZ n n') (Nat.beq (kindN k) (kindN k'))) fS fR fG) (fun s y=>onA y fB fI (eqS s) fR fG)
   (fun _=>false) (fun _=>false) (fun _=>false) (fun _=>false)
   (fun z _ ex ih y=>onA y fB fI fS (fun z' es' ex'=>andF (Nat.beq z z') (andF (eqB ex ex') (ih es'))) fG)
   (fun _ _ _=>false) (fun _ _ _ _=>false) (fun _ _ _ _ _ _ _=>false) (fun _ _=>false) (fun _ _ _ _=>false) (fun _ ih y=>onA y fB fI fS fR ih) (fun _ ih y=>onT y ih)
   (fun l=>nilB l) (fun _ _ iha ihr l=>List.rec (motive:=fun _=>Bool) false (fun a' r' _=>andF (ihr r') (iha a')) l)
   (fun l=>nilB l) (fun _ _ iha ihr l=>List.rec (motive:=fun _=>Bool) false (fun a' r' _=>andF (ihr r') (iha a')) l) l) l'=true→l=l')
  ?_ ?_ ?_ ?_ ?_ ?_ ?_ ?_ ?_ ?_ ?_ ?_ ?_ ?_ ?_ ?_ ?_ ?_ ?_ ?_ a
 · intro b h;exact Bool.noConfusion (show false=true from h)
 · intro x b h
   cases b with
   | bool y=>rw [eqB_ok (show eqB x y=true from h)]
   | _=>exact Bool.noConfusion (show false=true from h)
 · intro k n b h
   cases b with
   | int k' n' =>
    obtain ⟨h1,h2⟩:=andF_ok (show andF (eqZ n n') (Nat.beq (kindN k) (kindN k'))=true from h)
    rw [eqZ_eq] at h1
    rw [kindN_inj (Nat.eq_of_beq_eq_true h2),eq_of_beq h1]
   | _=>exact Bool.noConfusion (show false=true from h)
 · intro s b h
   cases b with
   | str t=>rw [eqS_ok s t h]
   | _=>exact Bool.noConfusion (show false=true from h)
 · intro b h;exact Bool.noConfusion (show false=true from h)
 · intro b h;exact Bool.noConfusion (show false=true from h)
 · intro b h;exact Bool.noConfusion (show false=true from h)
 · intro b h;exact Bool.noConfusion (show false=true from h)
 · intro z es ex ih b h
   cases b with
   | ro z' es' ex' =>
    obtain ⟨h1,h2⟩:=andF_ok (a:=Nat.beq z z') h
    obtain ⟨h3,h4⟩:=andF_ok (a:=eqB ex ex') h2
    rw [Nat.eq_of_beq_eq_true h1,eqB_ok h3,ih es' h4]
   | _=>exact Bool.noConfusion (show false=true from h)
 · intro cs ih b h;exact Bool.noConfusion (show false=true from h)
 · intro x i o b h;exact Bool.noConfusion (show false=true from h)
 · intro x z i l c ex b h;exact Bool.noConfusion (show false=true from h)
 · intro x b h;exact Bool.noConfusion (show false=true from h)
 · intro f cs ih b h;exact Bool.noConfusion (show false=true from h)
 · intro cs ih b h
   cases b with
   | agg cs'=>rw [ih cs' h]
   | _=>exact Bool.noConfusion (show false=true from h)
 · intro cs ih b h
   cases b with
   | tup cs'=>rw [ih cs' h]
   | _=>exact Bool.noConfusion (show false=true from h)
 · intro l h;exact (nilB_ok h).symm
 · intro x r ih1 ih2 l h
   cases l with
   | nil=>exact Bool.noConfusion (show false=true from h)
   | cons y s =>
    obtain ⟨h1,h2⟩:=andF_ok h
    rw [ih1 y h2,ih2 s h1]
 · intro l h;exact (nilB_ok h).symm
 · intro x r ih1 ih2 l h
   cases l with
   | nil=>exact Bool.noConfusion (show false=true from h)
   | cons y s =>
    obtain ⟨h1,h2⟩:=andF_ok h
    rw [ih1 y h2,ih2 s h1]
theorem eqAL_ok:∀ l l':List AV,eqAL l l'=true→l=l'
 | [],l',h=>(nilB_ok h).symm
 | _::_,[],h=>Bool.noConfusion (show false=true from h)
 | a::l,b::l',h=>by
  obtain ⟨h1,h2⟩:=andF_ok (show andF (eqAL l l') (eqA a b)=true from h)
  rw [eqAL_ok l l' h1,eqA_ok a b h2]
noncomputable def anyF {α:Type} (p:α→Bool) (l:List α):Bool:=List.rec (motive:=fun _=>Bool) false (fun a _ ih=>Bool.rec (motive:=fun _=>Bool) ih true (p a)) l
theorem anyF_ok {α:Type} {p:α→Bool}:∀ {l:List α},anyF p l=true→∃ a ∈ l,p a=true
 | [],h=>Bool.noConfusion (show false=true from h)
 | a::r,h=>by
  cases c:p a with
  | true=>exact ⟨a,by simp,c⟩
  | false =>
   have h:Bool.rec (motive:=fun _=>Bool) (anyF p r) true (p a)=true:=h
   rw [c] at h
   obtain ⟨x,hx,hp⟩:=anyF_ok h
   exact ⟨x,by simp [hx],hp⟩
noncomputable def natV (v:AV):Nat:=@AV.rec (fun _=>Nat) (fun _=>PUnit) (fun _=>PUnit) 0 (fun b=>Bool.rec (motive:=fun _=>Nat) 0 1 b) (fun _ n=>Int.rec (motive:=fun _=>Nat) (fun n=>n) (fun _=>0) n) (fun s=>lenF s) 0 0 0 0 (fun _ es _ _=>List.rec (motive:=fun _=>Nat) 0 (fun r _ ih=>List.rec (motive:=fun _=>Nat) ih (fun v _ _=>@AV.rec (fun _=>Nat) (fun _=>PUnit) (fun _=>PUnit) 0 (fun _=>0) (fun _ _=>0) (fun s=>Nat.add (Nat.mul ih 4) (lenF s)) 0 0 0 0 (fun _ _ _ _=>0) (fun _ _=>0) (fun _ _ _=>0) (fun _ _ _ _ _ _=>0) (fun _=>0) (fun _ _ _=>0) (fun _ _=>0) (fun _ _=>0) ⟨⟩ (fun _ _ _ _=>⟨⟩) ⟨⟩ (fun _ _ _ _=>⟨⟩) v) r) es) (fun _ _=>0) (fun _ _ _=>0) (fun _ _ _ _ _ _=>0) (fun _=>0) (fun _ _ _=>0) (fun _ _=>0) (fun _ _=>0) ⟨⟩ (fun _ _ _ _=>⟨⟩) ⟨⟩ (fun _ _ _ _=>⟨⟩) v
noncomputable def codeV (it:AV):Nat:=@AV.rec (fun _=>Nat) (fun _=>PUnit) (fun _=>PUnit) 0 (fun _=>0) (fun _ _=>0) (fun _=>0) 0 0 0 0 (fun _ _ _ _=>0) (fun _ _=>0) (fun _ _ _=>0) (fun _ _ _ _ _ _=>0) (fun _=>0) (fun _ _ _=>0) (fun cs _=>List.rec (motive:=fun _=>Nat) 0 (fun v _ ih=>Nat.add (Nat.mul ih 256) (natV v)) cs) (fun _ _=>0) ⟨⟩ (fun _ _ _ _=>⟨⟩) ⟨⟩ (fun _ _ _ _=>⟨⟩) it
noncomputable def hitT (tab:List (Nat × AV)) (it:AV):Bool:=anyF (fun g=>andF (Nat.beq g.1 (codeV it)) (eqA g.2 it)) tab
def InT (tab:List (Nat × AV)) (it:AV):Prop:=∃ g ∈ tab,g.2=it
theorem hitT_ok {tab:List (Nat × AV)} {it:AV} (h:hitT tab it=true):InT tab it:=by
 obtain ⟨g,hg,h1⟩:=anyF_ok h
 exact ⟨g,hg,eqA_ok _ _ (andF_ok h1).2⟩
theorem allT_ok {tab:List (Nat × AV)} {p:AV→Bool} (h:(tab.all fun g=>p g.2)=true):∀ it,InT tab it→p it=true:=by
 rintro _ ⟨g,hg,rfl⟩
 exact List.all_eq_true.1 h g hg
structure Tb where
 T:AV
 n:Int
 ok:List (Nat × AV)
 bad:List (Nat × AV)
noncomputable def hit3 (T it n:AV) (t:AV) (m:Int) (tab:List (Nat × AV)):Bool:=andF (hitT tab it) (andF (eqA (.int .i64 m) n) (eqA t T))
theorem hit3_ok {T it n t:AV} {m:Int} {tab:List (Nat × AV)} (h:hit3 T it n t m tab=true):InT tab it∧n=.int .i64 m∧T=t:=by
 obtain ⟨h1,h2⟩:=andF_ok h
 obtain ⟨h3,h4⟩:=andF_ok h2
 exact ⟨hitT_ok h1,(eqA_ok _ _ h3).symm,(eqA_ok _ _ h4).symm⟩
structure NdP where
 s1:List UInt8
 s2:List UInt8
 A:List (List AV)
 a:Bool
 s3:List UInt8
 B:List (List AV)
 b:Bool
def ndV (p:NdP):AV:=.tup [.agg [.int .u8 1,.str p.s1,.str p.s2,.ro 2 p.A p.a,.str p.s3,.ro 6 p.B p.b],.int .i64 0]
def ndP:Option AV→NdP
 | some (.tup [.agg [.int _ _,.str s1,.str s2,.ro _ A a,.str s3,.ro _ B b],.int _ _])=>⟨s1,s2,A,a,s3,B,b⟩
 | _=>⟨[],[],[],true,[],[],true⟩
def isN:Option AV→Bool
 | some (.tup [.agg [.int .u8 1,.str _,.str _,.ro 2 _ _,.str _,.ro 6 _ _],.int .i64 0])=>true
 | _=>false
theorem isN_ok {o:Option AV} (h:isN o=true):o=some (ndV (ndP o)):=by
 unfold isN at h
 split at h
 · rfl
 · cases h
def zV:AV:=.tup [.agg [.int .u8 0,.str [],.str [],.ro 2 [] true,.str [],.ro 6 [] true],.int .i64 14]
def isZ:Option AV→Bool
 | some (.tup [.agg [.int .u8 0,.str [],.str [],.ro 2 [] true,.str [],.ro 6 [] true],.int .i64 14])=>true
 | _=>false
theorem isZ_ok {o:Option AV} (h:isZ o=true):o=some zV:=by
 unfold isZ at h
 split at h
 · rfl
 · cases h
def is0:Option AV→Bool
 | some (.int .i64 0)=>true
 | _=>false
theorem is0_ok {o:Option AV} (h:is0 o=true):o=some (.int .i64 0):=by
 unfold is0 at h
 split at h
 · rfl
 · cases h
noncomputable def a1F (ags:List AV) (f:AV→Option AV):Option AV:=List.rec (motive:=fun _=>Option AV) none (fun a r _=>List.rec (motive:=fun _=>Option AV) (f a) (fun _ _ _=>none) r) ags
noncomputable def a2F (ags:List AV) (f:AV→AV→Option AV):Option AV:=List.rec (motive:=fun _=>Option AV) none (fun a r _=>a1F r (f a)) ags
noncomputable def a3F (ags:List AV) (f:AV→AV→AV→Option AV):Option AV:=List.rec (motive:=fun _=>Option AV) none (fun a r _=>a2F r (f a)) ags
theorem a1F_ok {ags:List AV} {f:AV→Option AV} {v:AV} (h:a1F ags f=some v):∃ a,ags=[a]∧f a=some v:=by
 cases ags with
 | nil=>cases (show none=some v from h)
 | cons a r=>cases r with
  | nil=>exact ⟨a,rfl,h⟩
  | cons b s=>cases (show none=some v from h)
theorem a2F_ok {ags:List AV} {f:AV→AV→Option AV} {v:AV} (h:a2F ags f=some v):∃ a b,ags=[a,b]∧f a b=some v:=by
 cases ags with
 | nil=>cases (show none=some v from h)
 | cons a r=>obtain ⟨b,rfl,hb⟩:=a1F_ok (show a1F r (f a)=some v from h);exact ⟨a,b,rfl,hb⟩
theorem a3F_ok {ags:List AV} {f:AV→AV→AV→Option AV} {v:AV} (h:a3F ags f=some v):∃ a b c,ags=[a,b,c]∧f a b c=some v:=by
 cases ags with
 | nil=>cases (show none=some v from h)
 | cons a r=>obtain ⟨b,c,rfl,hb⟩:=a2F_ok (show a2F r (f a)=some v from h);exact ⟨a,b,c,rfl,hb⟩
noncomputable def ifF (c:Bool) (a b:Option AV):Option AV:=Bool.rec (motive:=fun _=>Option AV) b a c
theorem ifF_ok {c:Bool} {a b:Option AV} {v:AV} (h:ifF c a b=some v):c=true∧a=some v∨b=some v:=by
 cases c with
 | true=>exact .inl ⟨rfl,h⟩
 | false=>exact .inr h
structure Tab where
 one:List (Nat × AV)
 three:List (Nat × Tb)
 two:List (Nat × Int × List (Nat × AV))
noncomputable def nd3 (C:WProg) (f:Nat) (T it n:AV):AV:=ndV (ndP (FnW C f [T,it,n]))
noncomputable def three1 (C:WProg) (f:Nat) (T it n:AV) (b:Tb) (k:Option AV):Option AV:=ifF (hit3 T it n b.T b.n b.ok) (some (nd3 C f T it n)) (ifF (hit3 T it n b.T b.n b.bad) (some zV) k)
noncomputable def threeO (C:WProg) (f:Nat) (T it n:AV) (l:List (Nat × Tb)):Option AV:=List.rec (motive:=fun _=>Option AV) none (fun b _ ih=>Bool.rec (motive:=fun _=>Option AV) ih (three1 C f T it n b.2 ih) (Nat.beq b.1 f)) l
noncomputable def oneO (f:Nat) (T:AV) (l:List (Nat × AV)):Option AV:=List.rec (motive:=fun _=>Option AV) none (fun b _ ih=>Bool.rec (motive:=fun _=>Option AV) ih (ifF (eqA b.2 T) (some (.int .i64 0)) ih) (Nat.beq b.1 f)) l
noncomputable def twoO (f:Nat) (it n:AV) (l:List (Nat × Int × List (Nat × AV))):Option AV:=List.rec (motive:=fun _=>Option AV) none (fun b _ ih=>Bool.rec (motive:=fun _=>Option AV) ih (ifF (andF (hitT b.2.2 it) (eqA (.int .i64 b.2.1) n)) (some (.int .i64 0)) ih) (Nat.beq b.1 f)) l
noncomputable def orcT (C:WProg) (t:Tab):Orc:=fun f ags =>
 Bool.rec (motive:=fun _=>Option AV) (Bool.rec (motive:=fun _=>Option AV) (Bool.rec (motive:=fun _=>Option AV) none (a2F ags fun it n=>twoO f it n t.two) (anyF (fun b=>Nat.beq b.1 f) t.two)) (a1F ags fun T=>oneO f T t.one) (anyF (fun b=>Nat.beq b.1 f) t.one)) (a3F ags fun T it n=>threeO C f T it n t.three) (anyF (fun b=>Nat.beq b.1 f) t.three)
structure TabOk (C:WProg) (t:Tab):Prop where
 one:∀ b ∈ t.one,C.inl b.1=false∧hasPtr b.2=false∧FnW C b.1 [b.2]=some (.int .i64 0)
 ok:∀ b ∈ t.three,∀ it,InT b.2.ok it→isN (FnW C b.1 [b.2.T,it,.int .i64 b.2.n])=true
 bad:∀ b ∈ t.three,∀ it,InT b.2.bad it→FnW C b.1 [b.2.T,it,.int .i64 b.2.n]=some zV
 three:∀ b ∈ t.three,C.inl b.1=false∧hasPtr b.2.T=false∧∀ it,InT b.2.ok it∨InT b.2.bad it→hasPtr it=false
 two:∀ b ∈ t.two,C.inl b.1=false∧∀ it,InT b.2.2 it→hasPtr it=false∧FnW C b.1 [it,.int .i64 b.2.1]=some (.int .i64 0)
def GoodO (C:WProg) (f:Nat) (vs:List AV) (v:AV):Prop:=C.inl f=false∧hasPtrL vs=false∧FnW C f vs=some v∧frzW [] frzDepth v=some v
theorem frz_nd (p:NdP):frzW [] frzDepth (ndV p)=some (ndV p):=rfl
theorem oneO_ok {C:WProg} {f:Nat} {T v:AV}:∀ l:List (Nat × AV),(∀ b ∈ l,C.inl b.1=false∧hasPtr b.2=false∧FnW C b.1 [b.2]=some (.int .i64 0))→oneO f T l=some v→GoodO C f [T] v
 | [],_,h=>by cases (show none=some v from h)
 | b::r,hl,h=>by
  have h:Bool.rec (motive:=fun _=>Option AV) (oneO f T r) (ifF (eqA b.2 T) (some (.int .i64 0)) (oneO f T r)) (Nat.beq b.1 f)=some v:=h
  cases c:Nat.beq b.1 f with
  | false=>rw [c] at h;exact oneO_ok r (fun b hb=>hl b (by simp [hb])) h
  | true =>
   rw [c] at h
   rcases ifF_ok h with ⟨h1,h2⟩ | h
   · cases h2
     obtain ⟨a1,a2,a3⟩:=hl b (by simp)
     rw [eqA_ok _ _ h1,Nat.eq_of_beq_eq_true c] at *
     exact ⟨a1,by simp [hasPtrL,a2],a3,rfl⟩
   · exact oneO_ok r (fun b hb=>hl b (by simp [hb])) h
theorem twoO_ok {C:WProg} {f:Nat} {it n v:AV}:∀ l:List (Nat × Int × List (Nat × AV)),(∀ b ∈ l,C.inl b.1=false∧∀ it,InT b.2.2 it→hasPtr it=false∧FnW C b.1 [it,.int .i64 b.2.1]=some (.int .i64 0))→twoO f it n l=some v→GoodO C f [it,n] v
 | [],_,h=>by cases (show none=some v from h)
 | b::r,hl,h=>by
  have h:Bool.rec (motive:=fun _=>Option AV) (twoO f it n r) (ifF (andF (hitT b.2.2 it) (eqA (.int .i64 b.2.1) n)) (some (.int .i64 0)) (twoO f it n r)) (Nat.beq b.1 f)=some v:=h
  cases c:Nat.beq b.1 f with
  | false=>rw [c] at h;exact twoO_ok r (fun b hb=>hl b (by simp [hb])) h
  | true =>
   rw [c] at h
   rcases ifF_ok h with ⟨h1,h2⟩ | h
   · cases h2
     obtain ⟨q1,q2⟩:=andF_ok h1
     obtain ⟨a1,a2⟩:=hl b (by simp)
     obtain ⟨a3,a4⟩:=a2 it (hitT_ok q1)
     rw [Nat.eq_of_beq_eq_true c] at a1 a4
     rw [← eqA_ok _ _ q2]
     exact ⟨a1,by simp [hasPtrL,hasPtr,a3],a4,rfl⟩
   · exact twoO_ok r (fun b hb=>hl b (by simp [hb])) h
theorem threeO_ok {C:WProg} {f:Nat} {T it n v:AV}:∀ l:List (Nat × Tb),
 (∀ b ∈ l,∀ it,InT b.2.ok it→isN (FnW C b.1 [b.2.T,it,.int .i64 b.2.n])=true)→(∀ b ∈ l,∀ it,InT b.2.bad it→FnW C b.1 [b.2.T,it,.int .i64 b.2.n]=some zV) →
 (∀ b ∈ l,C.inl b.1=false∧hasPtr b.2.T=false∧∀ it,InT b.2.ok it∨InT b.2.bad it→hasPtr it=false)→threeO C f T it n l=some v→GoodO C f [T,it,n] v
 | [],_,_,_,h=>by cases (show none=some v from h)
 | b::r,k1,k2,k3,h=>by
  have h:Bool.rec (motive:=fun _=>Option AV) (threeO C f T it n r) (three1 C f T it n b.2 (threeO C f T it n r)) (Nat.beq b.1 f)=some v:=h
  have rc:=fun h=>threeO_ok (C:=C) (f:=f) (T:=T) (it:=it) (n:=n) (v:=v) r (fun b hb=>k1 b (by simp [hb])) (fun b hb=>k2 b (by simp [hb])) (fun b hb=>k3 b (by simp [hb])) h
  cases c:Nat.beq b.1 f with
  | false=>rw [c] at h;exact rc h
  | true =>
   rw [c] at h
   have e:=Nat.eq_of_beq_eq_true c
   obtain ⟨a1,a2,a3⟩:=k3 b (by simp)
   rcases ifF_ok (show ifF _ _ _=some v from h) with ⟨h1,h2⟩ | h
   · obtain ⟨q1,rfl,rfl⟩:=hit3_ok h1
     have hn:=isN_ok (k1 b (by simp) it q1)
     cases h2
     rw [e] at a1 hn
     exact ⟨a1,by simp [hasPtrL,hasPtr,a2,a3 it (.inl q1)],hn,frz_nd _⟩
   · rcases ifF_ok h with ⟨h1,h2⟩ | h
     · obtain ⟨q1,rfl,rfl⟩:=hit3_ok h1
       have hn:=k2 b (by simp) it q1
       cases h2
       rw [e] at a1 hn
       exact ⟨a1,by simp [hasPtrL,hasPtr,a2,a3 it (.inr q1)],hn,rfl⟩
     · exact rc h
theorem orcOf {C:WProg} {orc:Orc} (h:∀ f vs v,orc f vs=some v→GoodO C f vs v):OrcOk C orc:=⟨fun f vs v k=>(h f vs v k).1,fun f vs v k=>(h f vs v k).2.1,fun f vs v k=>(h f vs v k).2.2.1,fun f vs v k=>(h f vs v k).2.2.2⟩
theorem orcT_ok {C:WProg} {t:Tab} (k:TabOk C t):OrcOk C (orcT C t):=by
 refine orcOf fun f vs v h=>?_
 unfold orcT at h
 cases c1:anyF (fun b=>Nat.beq b.1 f) t.three with
 | true =>
  rw [c1] at h
  obtain ⟨T,it,n,rfl,h⟩:=a3F_ok (show a3F vs (fun T it n=>threeO C f T it n t.three)=some v from h)
  exact threeO_ok _ k.ok k.bad k.three h
 | false =>
  rw [c1] at h
  cases c2:anyF (fun b=>Nat.beq b.1 f) t.one with
  | true =>
   rw [c2] at h
   obtain ⟨T,rfl,h⟩:=a1F_ok (show a1F vs (fun T=>oneO f T t.one)=some v from h)
   exact oneO_ok _ k.one h
  | false =>
   rw [c2] at h
   cases c3:anyF (fun b=>Nat.beq b.1 f) t.two with
   | true =>
    rw [c3] at h
    obtain ⟨it,n,rfl,h⟩:=a2F_ok (show a2F vs (fun it n=>twoO f it n t.two)=some v from h)
    exact twoO_ok _ k.two h
   | false=>rw [c3] at h;cases (show none=some v from h)
noncomputable def dat2 (v:AV):Bool:=@AV.rec (fun _=>Bool) (fun _=>PUnit) (fun _=>PUnit) false (fun _=>true) (fun _ _=>true) (fun _=>true) true true true true (fun _ _ _ _=>true) (fun _ _=>true) (fun _ _ _=>false) (fun _ _ _ _ _ _=>false) (fun _=>false) (fun _ _ _=>false) (fun cs _=>allF dataB cs) (fun cs _=>allF dataB cs) ⟨⟩ (fun _ _ _ _=>⟨⟩) ⟨⟩ (fun _ _ _ _=>⟨⟩) v
theorem dataL_ok {cs:List AV} (h:allF dataB cs=true):(∀ hp n,mapO (frzW hp (n+2)) cs=some cs)∧hasPtrL cs=false:=by
 rw [allF_eq] at h
 induction cs with
 | nil=>exact ⟨fun hp n=>by simp [mapO],by simp [hasPtrL]⟩
 | cons a r ih =>
  rw [List.all_cons,Bool.and_eq_true] at h
  obtain ⟨a1,a2,a3,a4,a5⟩:=data_ok h.1
  obtain ⟨b3,b4⟩:=ih h.2
  exact ⟨fun hp n=>by simp only [mapO,a3,b3,ob,om],by simp [hasPtrL,a4,b4]⟩
theorem dat2_frz {v:AV} (h:dat2 v=true):frzW [] frzDepth v=some v:=by
 cases v with
 | agg cs=>show om (mapO (frzW [] 15) cs) (fun cs=>AV.agg cs)=_;rw [(dataL_ok (show allF dataB cs=true from h)).1];rfl
 | tup cs=>show om (mapO (frzW [] 15) cs) (fun cs=>AV.tup cs)=_;rw [(dataL_ok (show allF dataB cs=true from h)).1];rfl
 | _=>first | rfl | exact Bool.noConfusion (show false=true from h)
noncomputable def keepV (o:Option AV) (k:Option AV):Option AV:=Option.rec (motive:=fun _=>Option AV) k (fun v=>ifF (dat2 v) (some v) k) o
noncomputable def extO (C:WProg) (N d:Nat) (orc:Orc) (f:Nat) (ags:List AV):Orc:=fun g vs=>Bool.rec (motive:=fun _=>Option AV) (orc g vs) (ifF (andF (eqAL ags vs) (allF dataB ags)) (keepV (callQ C orc N d f ags) (orc g vs)) (orc g vs)) (Nat.beq g f)
theorem extO_ok {C:WProg} {N d:Nat} {orc:Orc} (ok:OrcOk C orc) {f:Nat} (hf:C.inl f=false) (ags:List AV):OrcOk C (extO C N d orc f ags):=by
 refine orcOf fun g vs v h=>?_
 have old:orc g vs=some v→GoodO C g vs v:=fun h=>⟨ok.inl _ _ _ h,ok.ptr _ _ _ h,ok.val _ _ _ h,ok.frz _ _ _ h⟩
 unfold extO at h
 cases c:Nat.beq g f with
 | false=>rw [c] at h;exact old h
 | true =>
  rw [c] at h
  rcases ifF_ok (show ifF _ _ _=some v from h) with ⟨h1,h2⟩ | h
  · obtain ⟨q1,q2⟩:=andF_ok h1
    cases e:callQ C orc N d f ags with
    | none=>rw [e] at h2;exact old h2
    | some w =>
     rw [e] at h2
     rcases ifF_ok (show ifF (dat2 w) (some w) (orc g vs)=some v from h2) with ⟨h3,h4⟩ | h
     · cases h4
       rw [Nat.eq_of_beq_eq_true c,← eqAL_ok _ _ q1]
       exact ⟨hf,(dataL_ok q2).2,callQ_ok ok e,dat2_frz h3⟩
     · exact old h
  · exact old h
noncomputable def cmpT (v:AV):List AV:=@AV.rec (fun _=>List AV) (fun _=>PUnit) (fun _=>PUnit) [] (fun _=>[]) (fun _ _=>[]) (fun _=>[]) [] [] [] [] (fun _ es _ _=>mapF (fun e=>.agg e) es) (fun _ _=>[]) (fun _ _ _=>[]) (fun _ _ _ _ _ _=>[]) (fun _=>[]) (fun _ _ _=>[]) (fun cs _=>cs) (fun cs _=>cs) ⟨⟩ (fun _ _ _ _=>⟨⟩) ⟨⟩ (fun _ _ _ _=>⟨⟩) v
noncomputable def cmpN (v:AV) (j:Nat):AV:=Option.rec (motive:=fun _=>AV) .undef (fun x=>x) (nthF (cmpT v) j)
noncomputable def resV (o:Option AV):AV:=Option.rec (motive:=fun _=>AV) .undef (fun x=>x) o
noncomputable def kV (C:WProg) (N d:Nat) (orc:Orc) (f:Nat) (ags:List AV):AV:=resV (callQ C orc N d f ags)
noncomputable def facO (orc:Orc) (l:List (Nat × List AV × AV)):Orc:=fun f ags=>List.rec (motive:=fun _=>Option AV) (orc f ags) (fun b _ ih=>Bool.rec (motive:=fun _=>Option AV) ih (ifF (eqAL b.2.1 ags) (some b.2.2) ih) (Nat.beq b.1 f)) l
theorem facO_ok {C:WProg} {orc:Orc} (ok:OrcOk C orc):∀ {l:List (Nat × List AV × AV)},(∀ b ∈ l,GoodO C b.1 b.2.1 b.2.2)→OrcOk C (facO orc l):=by
 intro l hl
 refine orcOf fun f vs v h=>?_
 induction l with
 | nil=>exact ⟨ok.inl _ _ _ h,ok.ptr _ _ _ h,ok.val _ _ _ h,ok.frz _ _ _ h⟩
 | cons b r ih =>
  have h:Bool.rec (motive:=fun _=>Option AV) (facO orc r f vs) (ifF (eqAL b.2.1 vs) (some b.2.2) (facO orc r f vs)) (Nat.beq b.1 f)=some v:=h
  cases c:Nat.beq b.1 f with
  | false=>rw [c] at h;exact ih (fun b hb=>hl b (by simp [hb])) h
  | true =>
   rw [c] at h
   rcases ifF_ok h with ⟨h1,h2⟩ | h
   · cases h2
     have k:=hl b (by simp)
     rw [eqAL_ok _ _ h1,Nat.eq_of_beq_eq_true c] at k
     exact k
   · exact ih (fun b hb=>hl b (by simp [hb])) h
noncomputable def facB (C:WProg) (N d:Nat) (orc:Orc) (b:Nat × List AV × AV):Bool:=andF (allF dataB b.2.1) (andF (dat2 b.2.2) (Option.rec (motive:=fun _=>Bool) false (fun w=>eqA b.2.2 w) (callQ C orc N d b.1 b.2.1)))
theorem facB_ok {C:WProg} {N d:Nat} {orc:Orc} (ok:OrcOk C orc) {b:Nat × List AV × AV} (hi:C.inl b.1=false) (h:facB C N d orc b=true):GoodO C b.1 b.2.1 b.2.2:=by
 obtain ⟨h1,h2⟩:=andF_ok h
 obtain ⟨h3,h4⟩:=andF_ok h2
 cases e:callQ C orc N d b.1 b.2.1 with
 | none=>rw [e] at h4;exact Bool.noConfusion (show false=true from h4)
 | some w =>
  rw [e] at h4
  rw [eqA_ok _ _ (show eqA b.2.2 w=true from h4)] at h3 ⊢
  exact ⟨hi,(dataL_ok h1).2,callQ_ok ok e,dat2_frz h3⟩
theorem isN_call {C:WProg} {N d:Nat} {orc:Orc} (ok:OrcOk C orc) {f:Nat} {ags:List AV} {p:Option AV→Bool} (hp:p none=false) (h:p (callQ C orc N d f ags)=true):p (FnW C f ags)=true:=by
 cases e:callQ C orc N d f ags with
 | none=>rw [e,hp] at h;cases h
 | some w=>rw [e] at h;rw [callQ_ok ok e];exact h
section
variable (C:WProg) (base:Nat)
def StepTo (a:Ann) (b:WCode) (s s':WSt):Prop:=∃ t,CdW C base b s=some (.norm,t)∧canon base a t=some s'
def LeaveTo (id:Nat) (al:Ann) (b:WCode) (s u:WSt):Prop:=∃ r,CdW C base b s=some r∧r.1≠.norm∧evBlockW base id al r=some (.norm,u)
end
section
variable {C:WProg} {orc:Orc} {N d base:Nat}
theorem stepQ_to (ok:OrcOk C orc) {a:Ann} {b:WCode} {s s':WSt} (h:stepQ C orc N d base a b s=some s'):StepTo C base a b s s':=by
 obtain ⟨x,h1,h2⟩:=ob_some h
 obtain ⟨t,h3,h4⟩:=ob_some h2
 obtain rfl:=norm_some h3
 exact ⟨t,codeQ_cd ok h1,h4⟩
theorem leaveQ_to (ok:OrcOk C orc) {id:Nat} {al:Ann} {b:WCode} {s u:WSt} (h:leaveQ C orc N d base id al b s=some u):LeaveTo C base id al b s u:=by
 obtain ⟨r,h1,h2⟩:=ob_some h
 obtain ⟨x,h3,h4⟩:=ob_some h1
 obtain ⟨w,h5,h6⟩:=ob_some h2
 obtain ⟨rfl,h7⟩:=out_some h4
 obtain rfl:=norm_some h6
 exact ⟨x,codeQ_cd ok h3,h7,h5⟩
theorem loopX (a:Ann) (b:WCode) (st:Nat→WSt) {r:Ex × WSt} (hr:r.1≠.norm):∀ n k,(∀ i,i < n→StepTo C base a b (st (k+i)) (st (k+i+1)))→CdW C base b (st (k+n))=some r→∀ s0,canon base a s0=some (st k)→CdW C base (.loop a b) s0=some r:=by
 intro n
 induction n with
 | zero =>
  intro k _ h s0 hc
  rw [cw_loop,hc]
  simp only [ob]
  rw [show CdW C base b (st k)=some r from h]
  obtain ⟨e,w⟩:=r
  cases e with
  | norm=>exact absurd rfl hr
  | exit id=>rfl
  | ret=>rfl
 | succ n ih =>
  intro k hs h s0 hc
  obtain ⟨t,h1,h2⟩:=hs 0 (by omega)
  rw [cw_loop,hc]
  simp only [ob]
  rw [show CdW C base b (st k)=some (.norm,t) from h1]
  refine ih (k+1) (fun i hi=>?_) ?_ t h2
  · have:=hs (i+1) (by omega)
    rw [show k+(i+1)=k+1+i from by omega] at this
    exact this
  · rw [show k+1+n=k+(n+1) from by omega];exact h
theorem headX (ok:OrcOk C orc) (cs:List WCode) (b:WCode) (a:Ann) (lb:WCode) (id:Nat) (al:Ann) (st:Nat→WSt) (n:Nat) {s0 u:WSt}
 (h0:(ob (seqQ C orc N d base (cs++[b]) s0) (canon base a))=some (st 0)) (h1:∀ i,i < n→StepTo C base a lb (st i) (st (i+1))) (h2:LeaveTo C base id al lb (st n) u) (c:WCode) :
 CdW C base (cs.foldr .seq (.seq (.seq b (.block id (.loop a lb) al)) c)) s0=CdW C base c u:=by
 obtain ⟨s1,h3,h4⟩:=ob_some h0
 obtain ⟨r,h5,h6,h7⟩:=h2
 rw [pre_cd,seqQ_cd ok _ _ _ _ h3,cw_seq,cw_block,loopX a lb st h6 n 0 (fun i hi=>by rw [Nat.zero_add];exact h1 i hi) (by rw [Nat.zero_add];exact h5) s1 h4]
 simp only [ob]
 rw [h7]
 rfl
end
end Go.Pw
end
section
namespace Go.Pw
open Go Go.Pav
inductive Frame where
 | sq (b:WCode)
 | bk (id:Nat) (a:Ann)
 | lp (a:Ann) (b:WCode)
def setE:Env→Nat→AV→Env
 | [],_,_=>[]
 | (k,v)::r,g,x=>if k=g then (k,x)::r else (k,v)::setE r g x
section
variable {β:Type}
noncomputable def RK (C:WProg) (base:Nat):List Frame→Ex × WSt→Option (Ex × WSt)
 | [],r=>some r
 | .sq b::k,r=>ob (evSeqW (CdW C base b) r) (RK C base k)
 | .bk id a::k,r=>ob (evBlockW base id a r) (RK C base k)
 | .lp a b::k,r=>ob (evSeqW (CdW C base (.loop a b)) r) (RK C base k)
noncomputable def CK (C:WProg) (base:Nat) (fin:Ex × WSt→Option β) (k:List Frame) (c:WCode) (s:WSt):Option β:=ob (CdW C base c s) fun r=>ob (RK C base k r) fin
noncomputable def NK (C:WProg) (base:Nat) (fin:Ex × WSt→Option β) (k:List Frame) (ex:Ex) (s:WSt):Option β:=ob (RK C base k (ex,s)) fin
noncomputable def AK (C:WProg) (base:Nat) (fin:Ex × WSt→Option β) (k:List Frame) (s:Option WSt):Option β:=ob s fun s=>NK C base fin k .norm s
noncomputable def LK (C:WProg) (base:Nat) (fin:Ex × WSt→Option β) (k:List Frame) (b:WCode) (s:Option WSt):Option β:=ob s fun s=>CK C base fin k b s
noncomputable def OK (C:WProg) (base:Nat) (fin:Ex × WSt→Option β) (k:List Frame) (a:Ann) (l:List COper) (s:WSt):Option β :=
 ob (evOpsW C (RnW C) l s) fun s=>AK C base fin k (canonF base a s)
noncomputable def SK (C:WProg) (base:Nat) (fin:Ex × WSt→Option β) (k:List Frame) (a:Ann) (l:List COper) (d:Option Nat) (e:Env) (h:WHeap) (n:Nat) (x:Option (AV × WUpd)):Option β :=
 ob x fun x=>OK C base fin k a l ⟨setD e d x.1,applyW h x.2,n⟩
noncomputable def condK (C:WProg) (base:Nat) (fin:Ex × WSt→Option β) (k:List Frame) (a b:WCode) (s:WSt) (v:AV):Option β :=
 match v with
 | .bool t=>if t=true then CK C base fin k a s else CK C base fin k b s
 | _=>none
noncomputable def GK (C:WProg) (base:Nat) (fin:Ex × WSt→Option β) (k:List Frame) (a:Ann) (l:List COper) (d:Option Nat) (op:COp) (g:Nat) (w:Bool) (e:Env) (h:WHeap) (n:Nat) (v:Option AV):Option β :=
 match v with
 | some (.bool b)=>if b=w then OK C base fin k a (⟨d,none,op⟩::l) ⟨setE e g (.bool w),h,n⟩ else OK C base fin k a l ⟨setD (setE e g (.bool (!w))) d (.tup []),h,n+1⟩
 | some (.tup [])=>OK C base fin k a l ⟨setD e d (.tup []),h,n+1⟩
 | _=>none
noncomputable def VK (C:WProg) (base:Nat) (fin:Ex × WSt→Option β) (k:List Frame) (a:Ann) (l:List COper) (d:Option Nat) (e:Env) (h:WHeap) (n:Nat) (args:List AV) (v:Option AV):Option β :=
 ob v fun v=>OK C base fin k a l ⟨setD e d v,applyW h (marksW h args v),n⟩
noncomputable def WK (C:WProg) (base:Nat) (fin:Ex × WSt→Option β) (k:List Frame) (a:Ann) (l:List COper) (d:Option Nat) (e:Env) (r:Option (AV × WHeap × Nat)):Option β :=
 ob r fun r=>OK C base fin k a l ⟨setD e d r.1,r.2.1,r.2.2⟩
noncomputable def PK (C:WProg) (base:Nat) (fin:Ex × WSt→Option β) (k:List Frame) (a:Ann) (l:List COper) (d:Option Nat) (e:Env) (h:WHeap) (n:Nat) (f:Nat) (args:List AV) (az:Option (List AV)):Option β :=
 ob az fun az=>VK C base fin k a l d e h n args (FnW C f az)
noncomputable def BSK (C:WProg) (base:Nat) (fin:Ex × WSt→Option β) (k:List Frame) (a:Ann) (l:List COper) (d:Option Nat) (e:Env) (h:WHeap) (n:Nat) (v:AV) (u:WUpd) (ok:Bool):Option β :=
 if ok=true then OK C base fin k a l ⟨setD e d v,applyW h u,n⟩ else none
noncomputable def FSK (C:WProg) (base:Nat) (fin:Ex × WSt→Option β) (k:List Frame) (a:Ann) (l:List COper) (d:Option Nat) (e:Env) (h:WHeap) (n:Nat) (br:Bool) (args:List AV) (x:Option (AV × WUpd)):Option β :=
 ob x fun x=>if br=true then BSK C base fin k a l d e h n x.1 x.2 (bareXW x) else OK C base fin k a l ⟨setD e d x.1,applyW h (markFrozenW h (args.flatMap (reachW h frzDepth))++x.2),n⟩
def over (n:Nat) (h1 h:WHeap):WHeap:=applyW h (upsW n h1)
noncomputable def HBK (C:WProg) (base:Nat) (fin:Ex × WSt→Option β) (k:List Frame) (a:Ann) (l:List COper) (d:Option Nat) (e:Env) (h:WHeap) (n:Nat) (v:AV) (h1:WHeap) (n1:Nat) (ok:Bool):Option β :=
 if ok=true then OK C base fin k a l ⟨setD e d v,over n (h1.filter fun x=>(reachW h1 frzDepth v).contains x.1) h,n1⟩ else none
noncomputable def HK (C:WProg) (base:Nat) (fin:Ex × WSt→Option β) (k:List Frame) (a:Ann) (l:List COper) (d:Option Nat) (e:Env) (h:WHeap) (n:Nat) (db:Bool) (args:List AV) (r:Option (AV × WHeap × Nat)):Option β :=
 ob r fun r=>if db=true then HBK C base fin k a l d e h n r.1 r.2.1 r.2.2 (keptXW r.2.1 r.1 (reachW r.2.1 frzDepth r.1)) else OK C base fin k a l ⟨setD e d r.1,over n r.2.1 (applyW h (markFrozenW h (args.flatMap (reachW h frzDepth)))),r.2.2⟩
noncomputable def TK (C:WProg) (base:Nat) (fin:Ex × WSt→Option β) (k:List Frame) (a:Ann) (l:List COper) (d:Option Nat) (e:Env) (h:WHeap) (n:Nat) (f:Nat) (args az:List AV) (dp:Bool):Option β :=
 if dp=true then HK C base fin k a l d e h n (isDb f) args (RnW C f az [] n) else FSK C base fin k a l d e h n (isBr f) args (freshCallW (RnW C) f az (n - 1))
noncomputable def FPK (C:WProg) (base:Nat) (fin:Ex × WSt→Option β) (k:List Frame) (a:Ann) (l:List COper) (d:Option Nat) (e:Env) (h:WHeap) (n:Nat) (f:Nat) (args:List AV) (az:Option (List AV)):Option β :=
 ob az fun az=>TK C base fin k a l d e h n f args az (isDp f)
noncomputable def IK (C:WProg) (base:Nat) (fin:Ex × WSt→Option β) (k:List Frame) (a:Ann) (l:List COper) (d:Option Nat) (e:Env) (h:WHeap) (n:Nat) (f:Nat) (args:List AV) (fr:Bool):Option β :=
 if fr=true then FPK C base fin k a l d e h n f args (mapO (frzW h frzDepth) args) else WK C base fin k a l d e (RnW C f args h n)
noncomputable def FK (C:WProg) (base:Nat) (fin:Ex × WSt→Option β) (k:List Frame) (a:Ann) (l:List COper) (d:Option Nat) (e:Env) (h:WHeap) (n:Nat) (f:Nat) (args:List AV) (inl ptr:Bool):Option β :=
 if inl=true then IK C base fin k a l d e h n f args (isFr f) else if ptr=true then WK C base fin k a l d e (RnW C f args h n) else PK C base fin k a l d e h n f args (mapO (frzW h frzDepth) args)
noncomputable def QK (C:WProg) (base:Nat) (fin:Ex × WSt→Option β) (k:List Frame) (a:Ann) (l:List COper) (d:Option Nat) (e:Env) (h:WHeap) (n:Nat) (args:List AV) (g:AV):Option β :=
 match g with
 | .fn f caps=>FK C base fin k a l d e h n f (args++caps) (C.inl f) (!C.pp f&&hasPtrL (args++caps))
 | _=>none
abbrev RW:=Bool × List Nat × List Nat
def rwOf (d:WDid):RW:=(d.bar,d.rd,d.wr)
def quietR (d:RW):Bool:=!d.1&&(d.2.2.isEmpty&&d.2.1.isEmpty)
def clashR (a b:RW):Bool:=!(quietR a||quietR b)&&(if a.1=true then b.1||hitL a.2.1 a.2.2 b.2.1 b.2.2 else if b.1=true then hitL b.2.1 b.2.2 a.2.1 a.2.2 else (meets a.2.2 b.2.2||(meets a.2.2 b.2.1||meets a.2.1 b.2.2)))
def apartR (ds:List RW) (p:Nat × Nat):Bool :=
 match ds[p.1]?,ds[p.2]? with
 | some a,some b=>!clashR a b
 | _,_=>false
noncomputable def EK (C:WProg) (base:Nat) (fin:Ex × WSt→Option β) (k:List Frame) (a:Ann) (s:WSt) (ok:Bool):Option β :=
 if ok=true then AK C base fin k (canonF base a s) else none
noncomputable def DK (C:WProg) (base:Nat) (fin:Ex × WSt→Option β) (k:List Frame) (a:Ann) (un:List (Nat × Nat)) (l:List COper) (nid:Nat) (s:WSt) (ds:List RW):Option β :=
 ob (evDrawW C (RnW C) l nid s []) fun r=>EK C base fin k a r.1 (un.all (apartR (ds++r.2.map rwOf)))
noncomputable def DSK (C:WProg) (base:Nat) (fin:Ex × WSt→Option β) (k:List Frame) (a:Ann) (un:List (Nat × Nat)) (l:List COper) (nid:Nat) (d:Option Nat) (e:Env) (h:WHeap) (n:Nat) (ds:List RW) (rd:List Nat) (x:Option (AV × WUpd)):Option β :=
 ob x fun x=>DK C base fin k a un l nid ⟨setD e d x.1,applyW h x.2,n⟩ (ds++[(false,rd,x.2.map (·.1))])
noncomputable def DGK (C:WProg) (base:Nat) (fin:Ex × WSt→Option β) (k:List Frame) (a:Ann) (un:List (Nat × Nat)) (l:List COper) (nid:Nat) (d:Option Nat) (op:COp) (g:Nat) (w:Bool) (e:Env) (h:WHeap) (n:Nat) (ds:List RW) (v:Option AV):Option β :=
 match v with
 | some (.bool b)=>if b=w then DK C base fin k a un (⟨d,none,op⟩::l) nid ⟨setE e g (.bool w),h,n⟩ ds else DK C base fin k a un l (nid+1) ⟨setD (setE e g (.bool (!w))) d (.tup []),h,n⟩ (ds++[(false,[],[])])
 | some (.tup [])=>DK C base fin k a un l (nid+1) ⟨setD e d (.tup []),h,n⟩ (ds++[(false,[],[])])
 | _=>none
noncomputable def DVK (C:WProg) (base:Nat) (fin:Ex × WSt→Option β) (k:List Frame) (a:Ann) (un:List (Nat × Nat)) (l:List COper) (nid:Nat) (d:Option Nat) (e:Env) (h:WHeap) (n:Nat) (ds:List RW) (args:List AV) (v:Option AV):Option β :=
 ob v fun v=>DK C base fin k a un l nid ⟨setD e d v,applyW h (marksW h args v),n⟩ (ds++[(false,args.flatMap (reachW h frzDepth),(marksW h args v).map (·.1))])
noncomputable def DWK (C:WProg) (base:Nat) (fin:Ex × WSt→Option β) (k:List Frame) (a:Ann) (un:List (Nat × Nat)) (l:List COper) (nid:Nat) (d:Option Nat) (e:Env) (ds:List RW) (r:Option (AV × WHeap × Nat)):Option β :=
 ob r fun r=>DK C base fin k a un l nid ⟨setD e d r.1,r.2.1,r.2.2⟩ (ds++[(true,[],[])])
noncomputable def DPK (C:WProg) (base:Nat) (fin:Ex × WSt→Option β) (k:List Frame) (a:Ann) (un:List (Nat × Nat)) (l:List COper) (nid:Nat) (d:Option Nat) (e:Env) (h:WHeap) (n:Nat) (ds:List RW) (f:Nat) (args:List AV) (az:Option (List AV)):Option β :=
 ob az fun az=>DVK C base fin k a un l nid d e h n ds args (FnW C f az)
noncomputable def DBSK (C:WProg) (base:Nat) (fin:Ex × WSt→Option β) (k:List Frame) (a:Ann) (un:List (Nat × Nat)) (l:List COper) (nid:Nat) (d:Option Nat) (e:Env) (h:WHeap) (n:Nat) (ds:List RW) (args:List AV) (v:AV) (u:WUpd) (ok:Bool):Option β :=
 if ok=true then DK C base fin k a un l nid ⟨setD e d v,applyW h u,n⟩ (ds++[(false,args.flatMap (reachW h frzDepth),u.map (·.1))]) else none
noncomputable def DFSK (C:WProg) (base:Nat) (fin:Ex × WSt→Option β) (k:List Frame) (a:Ann) (un:List (Nat × Nat)) (l:List COper) (nid:Nat) (d:Option Nat) (e:Env) (h:WHeap) (n:Nat) (ds:List RW) (br:Bool) (args:List AV) (x:Option (AV × WUpd)):Option β :=
 ob x fun x=>if br=true then DBSK C base fin k a un l nid d e h n ds args x.1 x.2 (bareXW x) else DK C base fin k a un l nid ⟨setD e d x.1,applyW h (markFrozenW h (args.flatMap (reachW h frzDepth))++x.2),n⟩ (ds++[(false,args.flatMap (reachW h frzDepth),(markFrozenW h (args.flatMap (reachW h frzDepth))++x.2).map (·.1))])
noncomputable def DHBK (C:WProg) (base:Nat) (fin:Ex × WSt→Option β) (k:List Frame) (a:Ann) (un:List (Nat × Nat)) (l:List COper) (nid:Nat) (d:Option Nat) (e:Env) (h:WHeap) (n:Nat) (ds:List RW) (args:List AV) (v:AV) (h1:WHeap) (n1:Nat) (ok:Bool):Option β :=
 if ok=true then DK C base fin k a un l nid ⟨setD e d v,over n (h1.filter fun x=>(reachW h1 frzDepth v).contains x.1) h,n1⟩ (ds++[(true,args.flatMap (reachW h frzDepth),[n])]) else none
noncomputable def DHK (C:WProg) (base:Nat) (fin:Ex × WSt→Option β) (k:List Frame) (a:Ann) (un:List (Nat × Nat)) (l:List COper) (nid:Nat) (d:Option Nat) (e:Env) (h:WHeap) (n:Nat) (ds:List RW) (db:Bool) (args:List AV) (r:Option (AV × WHeap × Nat)):Option β :=
 ob r fun r=>if db=true then DHBK C base fin k a un l nid d e h n ds args r.1 r.2.1 r.2.2 (keptXW r.2.1 r.1 (reachW r.2.1 frzDepth r.1)) else DK C base fin k a un l nid ⟨setD e d r.1,over n r.2.1 (applyW h (markFrozenW h (args.flatMap (reachW h frzDepth)))),r.2.2⟩ (ds++[(true,args.flatMap (reachW h frzDepth),n::(markFrozenW h (args.flatMap (reachW h frzDepth))).map (·.1))])
noncomputable def DTK (C:WProg) (base:Nat) (fin:Ex × WSt→Option β) (k:List Frame) (a:Ann) (un:List (Nat × Nat)) (l:List COper) (nid:Nat) (d:Option Nat) (e:Env) (h:WHeap) (n:Nat) (ds:List RW) (f:Nat) (args az:List AV) (dp:Bool):Option β :=
 if dp=true then DHK C base fin k a un l nid d e h n ds (isDb f) args (RnW C f az [] n) else DFSK C base fin k a un l nid d e h n ds (isBr f) args (freshCallW (RnW C) f az (nid - 1))
noncomputable def DFPK (C:WProg) (base:Nat) (fin:Ex × WSt→Option β) (k:List Frame) (a:Ann) (un:List (Nat × Nat)) (l:List COper) (nid:Nat) (d:Option Nat) (e:Env) (h:WHeap) (n:Nat) (ds:List RW) (f:Nat) (args:List AV) (az:Option (List AV)):Option β :=
 ob az fun az=>DTK C base fin k a un l nid d e h n ds f args az (isDp f)
noncomputable def DIK (C:WProg) (base:Nat) (fin:Ex × WSt→Option β) (k:List Frame) (a:Ann) (un:List (Nat × Nat)) (l:List COper) (nid:Nat) (d:Option Nat) (e:Env) (h:WHeap) (n:Nat) (ds:List RW) (f:Nat) (args:List AV) (fr:Bool):Option β :=
 if fr=true then DFPK C base fin k a un l nid d e h n ds f args (mapO (frzW h frzDepth) args) else DWK C base fin k a un l nid d e ds (RnW C f args h n)
noncomputable def DFK (C:WProg) (base:Nat) (fin:Ex × WSt→Option β) (k:List Frame) (a:Ann) (un:List (Nat × Nat)) (l:List COper) (nid:Nat) (d:Option Nat) (e:Env) (h:WHeap) (n:Nat) (ds:List RW) (f:Nat) (args:List AV) (inl ptr:Bool):Option β :=
 if inl=true then DIK C base fin k a un l nid d e h n ds f args (isFr f) else if ptr=true then DWK C base fin k a un l nid d e ds (RnW C f args h n) else DPK C base fin k a un l nid d e h n ds f args (mapO (frzW h frzDepth) args)
noncomputable def DQK (C:WProg) (base:Nat) (fin:Ex × WSt→Option β) (k:List Frame) (a:Ann) (un:List (Nat × Nat)) (l:List COper) (nid:Nat) (d:Option Nat) (e:Env) (h:WHeap) (n:Nat) (ds:List RW) (args:List AV) (g:AV):Option β :=
 match g with
 | .fn f caps=>DFK C base fin k a un l nid d e h n ds f (args++caps) (C.inl f) (!C.pp f&&hasPtrL (args++caps))
 | _=>none
def pureFin (res:List CRes) (r:Ex × WSt):Option AV:=ob (fnEndW res r) fun r=>frzW r.2.1 frzDepth r.1
end
section
variable {β:Type} {C:WProg} {base:Nat} {fin:Ex × WSt→Option β} {k:List Frame}
theorem ob_assoc {α γ δ:Type} (x:Option α) (f:α→Option γ) (g:γ→Option δ):ob (ob x f) g=ob x fun a=>ob (f a) g:=by cases x <;> rfl
theorem ob_om {α γ δ:Type} (x:Option α) (f:α→γ) (g:γ→Option δ):ob (om x f) g=ob x fun a=>g (f a):=by cases x <;> rfl
theorem ck_seq (a b:WCode) (s:WSt):CK C base fin k (.seq a b) s=CK C base fin (.sq b::k) a s:=by
 unfold CK;rw [cw_seq];simp only [RK,ob_assoc]
theorem ck_skip (s:WSt):CK C base fin k .skip s=NK C base fin k .norm s:=by unfold CK NK;rw [cw_skip];rfl
theorem ck_exit (i:Nat) (s:WSt):CK C base fin k (.exit i) s=NK C base fin k (.exit i) s:=by unfold CK NK;rw [cw_exit];rfl
theorem ck_prim (n:Nat) (s:WSt):CK C base fin k (.prim n) s=ob (primF n (primArgs (primN n) 0 s.env)) fun v=>NK C base fin k .ret ⟨putE s.env 9 v,s.heap,s.next⟩:=by
 unfold CK NK
 rw [cw_prim]
 cases primF n (primArgs (primN n) 0 s.env) <;> rfl
theorem ck_ret (s:WSt):CK C base fin k .ret s=NK C base fin k .ret s:=by unfold CK NK;rw [cw_ret];rfl
theorem ck_cond (c:Opd) (a b:WCode) (s:WSt):CK C base fin k (.cond c a b) s=condK C base fin k a b s (c.ev s.env):=by
 unfold CK condK;rw [cw_cond];unfold evCondW
 cases c.ev s.env <;> try rfl
 rename_i t;cases t <;> rfl
theorem ck_block (id:Nat) (b:WCode) (a:Ann) (s:WSt):CK C base fin k (.block id b a) s=CK C base fin (.bk id a::k) b s:=by
 unfold CK;rw [cw_block];simp only [RK,ob_assoc]
theorem ck_lp {L:WCode} {a:Ann} {b:WCode} {s:WSt} (hL:L=.loop a b):CK C base fin k L s=LK C base fin (.sq L::k) b (canon base a s):=by
 subst hL;unfold CK LK CK;rw [cw_loop];simp only [RK,ob_assoc]
theorem ck_unf {c c':WCode} {s:WSt} (hc:c=c'):CK C base fin k c s=CK C base fin k c' s:=by rw [hc]
theorem ck_ops (l:List COper) (a:Ann) (s:WSt):CK C base fin k (.ops l a) s=OK C base fin k a l s:=by
 unfold CK OK AK NK;rw [cw_ops];simp only [ob_assoc,ob_om]
theorem ck_draw (l:List COper) (un:List (Nat × Nat)) (a:Ann) (e:Env) (h:WHeap) (n:Nat):CK C base fin k (.draw l un a) ⟨e,h,n⟩=DK C base fin k a un l n ⟨e,h,n+l.length⟩ []:=by
 unfold CK DK EK AK NK;rw [cw_draw];simp only [ob_assoc]
 have:∀ r:WSt × List WDid,(ob (drawEndW base un a r) fun r=>ob (RK C base k r) fin)=(if (un.all (apartR ([]++r.2.map rwOf)))=true then ob (canonF base a r.1) fun s=>ob (RK C base k (.norm,s)) fin else none):=by
  rintro ⟨s,ds⟩
  have e1:un.all (apartW ds)=un.all (apartR ([]++ds.map rwOf)):=by
   congr 1
   funext p
   simp only [apartW,apartR,List.nil_append,List.getElem?_map]
   cases ds[p.1]? <;> cases ds[p.2]? <;> rfl
  simp only [drawEndW,e1]
  split
  · simp only [ob_om]
  · rfl
 simp only [this]
theorem nk_nil (ex:Ex) (s:WSt):NK C base fin [] ex s=fin (ex,s):=rfl
theorem nk_sq (b:WCode) (s:WSt):NK C base fin (.sq b::k) .norm s=CK C base fin k b s:=by unfold NK CK;simp only [RK,evSeqW,ob_assoc]
theorem nk_sq_exit (b:WCode) (i:Nat) (s:WSt):NK C base fin (.sq b::k) (.exit i) s=NK C base fin k (.exit i) s:=by unfold NK;simp only [RK,evSeqW,ob]
theorem nk_sq_ret (b:WCode) (s:WSt):NK C base fin (.sq b::k) .ret s=NK C base fin k .ret s:=by unfold NK;simp only [RK,evSeqW,ob]
theorem nk_lp_exit (a:Ann) (b:WCode) (i:Nat) (s:WSt):NK C base fin (.lp a b::k) (.exit i) s=NK C base fin k (.exit i) s:=by unfold NK;simp only [RK,evSeqW,ob]
theorem nk_lp_ret (a:Ann) (b:WCode) (s:WSt):NK C base fin (.lp a b::k) .ret s=NK C base fin k .ret s:=by unfold NK;simp only [RK,evSeqW,ob]
theorem nk_bk (id:Nat) (a:Ann) (s:WSt):NK C base fin (.bk id a::k) .norm s=AK C base fin k (canon base a s):=by unfold NK AK NK;simp only [RK,evBlockW,ob_assoc,ob_om]
theorem nk_bk_exit (id:Nat) (a:Ann) (i:Nat) (s:WSt):NK C base fin (.bk id a::k) (.exit i) s=if i=id then AK C base fin k (canon base a s) else NK C base fin k (.exit i) s:=by
 unfold NK AK NK;simp only [RK,evBlockW]
 split
 · simp only [ob_assoc,ob_om]
 · rfl
theorem nk_bk_ret (id:Nat) (a:Ann) (s:WSt):NK C base fin (.bk id a::k) .ret s=NK C base fin k .ret s:=by unfold NK;simp only [RK,evBlockW,ob]
theorem ak_some (s:WSt):AK C base fin k (some s)=NK C base fin k .norm s:=rfl
theorem lk_some (b:WCode) (s:WSt):LK C base fin k b (some s)=CK C base fin k b s:=rfl
theorem condK_true (a b:WCode) (s:WSt):condK C base fin k a b s (.bool true)=CK C base fin k a s:=rfl
theorem condK_false (a b:WCode) (s:WSt):condK C base fin k a b s (.bool false)=CK C base fin k b s:=rfl
theorem condK_bool (a b:WCode) (s:WSt) (t:Bool):condK C base fin k a b s (.bool t)=if t=true then CK C base fin k a s else CK C base fin k b s:=rfl
variable {a:Ann} {l:List COper} {d:Option Nat} {e:Env} {h:WHeap} {n:Nat}
theorem ok_nil (s:WSt):OK C base fin k a [] s=AK C base fin k (canonF base a s):=rfl
theorem ok_step {op:COp} (hc:callOf e op=some none):OK C base fin k a (⟨d,none,op⟩::l) ⟨e,h,n⟩=SK C base fin k a l d e h (n+1) (stepW op e h n):=by
 unfold OK SK OK
 simp only [evOpsW,evOpW,wants,evActW,hc]
 cases stepW op e h n <;> rfl
theorem sk_some (v:AV) (u:WUpd):SK C base fin k a l d e h n (some (v,u))=OK C base fin k a l ⟨setD e d v,applyW h u,n⟩:=rfl
theorem setE_same:∀ {e:Env} {g:Nat} {v:AV},get e g=some v→setE e g v=e:=by
 intro e
 induction e with
 | nil=>intro g v h;rfl
 | cons x e ih =>
  intro g v hg
  obtain ⟨j,u⟩:=x
  simp only [Pav.get] at hg
  simp only [setE]
  split at hg
  · rename_i hj;cases hg;rw [if_pos hj]
  · rename_i hj;rw [if_neg hj,ih hg]
theorem gk_bool {op:COp} {g:Nat} {w b:Bool}:GK C base fin k a l d op g w e h n (some (.bool b))=if b=w then OK C base fin k a (⟨d,none,op⟩::l) ⟨setE e g (.bool w),h,n⟩ else OK C base fin k a l ⟨setD (setE e g (.bool (!w))) d (.tup []),h,n+1⟩:=rfl
theorem gk_true_true {op:COp} {g:Nat}:GK C base fin k a l d op g true e h n (some (.bool true))=OK C base fin k a (⟨d,none,op⟩::l) ⟨setE e g (.bool true),h,n⟩:=rfl
theorem gk_false_false {op:COp} {g:Nat}:GK C base fin k a l d op g false e h n (some (.bool false))=OK C base fin k a (⟨d,none,op⟩::l) ⟨setE e g (.bool false),h,n⟩:=rfl
theorem gk_true_false {op:COp} {g:Nat}:GK C base fin k a l d op g true e h n (some (.bool false))=OK C base fin k a l ⟨setD (setE e g (.bool false)) d (.tup []),h,n+1⟩:=rfl
theorem gk_false_true {op:COp} {g:Nat}:GK C base fin k a l d op g false e h n (some (.bool true))=OK C base fin k a l ⟨setD (setE e g (.bool true)) d (.tup []),h,n+1⟩:=rfl
theorem gk_tup {op:COp} {g:Nat} {w:Bool}:GK C base fin k a l d op g w e h n (some (.tup []))=OK C base fin k a l ⟨setD e d (.tup []),h,n+1⟩:=rfl
theorem ok_guard {op:COp} {g:Nat} {w:Bool}:OK C base fin k a (⟨d,some (g,w),op⟩::l) ⟨e,h,n⟩=GK C base fin k a l d op g w e h n (get e g):=by
 unfold OK GK
 simp only [evOpsW,evOpW,wants]
 cases hg:get e g with
 | none=>rfl
 | some v =>
  cases v with
  | bool b =>
   simp only
   by_cases hw:b=w
   · subst hw
     rw [setE_same hg,if_pos rfl]
     simp only [OK,evOpsW,evOpW,wants,beq_self_eq_true]
   · have e1:(b == w)=false:=by simpa using hw
     have e2:(!w)=b:=by cases b <;> cases w <;> simp_all
     rw [if_neg hw,e2,setE_same hg]
     simp only [e1,ob,OK]
  | tup vs =>
   cases vs with
   | nil=>rfl
   | cons _ _=>rfl
  | _=>rfl
theorem vk_some {args:List AV} (v:AV):VK C base fin k a l d e h n args (some v)=OK C base fin k a l ⟨setD e d v,applyW h (marksW h args v),n⟩:=rfl
theorem wk_some (r:AV × WHeap × Nat):WK C base fin k a l d e (some r)=OK C base fin k a l ⟨setD e d r.1,r.2.1,r.2.2⟩:=rfl
theorem pk_some {f:Nat} {args:List AV} (az:List AV):PK C base fin k a l d e h n f args (some az)=VK C base fin k a l d e h n args (FnW C f az):=rfl
theorem fk_pure {f:Nat} {args:List AV}:FK C base fin k a l d e h n f args false false=PK C base fin k a l d e h n f args (mapO (frzW h frzDepth) args):=rfl
theorem fk_inl {f:Nat} {args:List AV} {p:Bool}:FK C base fin k a l d e h n f args true p=IK C base fin k a l d e h n f args (isFr f):=rfl
theorem ik_false {f:Nat} {args:List AV}:IK C base fin k a l d e h n f args false=WK C base fin k a l d e (RnW C f args h n):=rfl
theorem ik_true {f:Nat} {args:List AV}:IK C base fin k a l d e h n f args true=FPK C base fin k a l d e h n f args (mapO (frzW h frzDepth) args):=rfl
theorem fpk_some {f:Nat} {args:List AV} (az:List AV):FPK C base fin k a l d e h (n+1) f args (some az)=TK C base fin k a l d e h (n+1) f args az (isDp f):=rfl
theorem tk_false {f:Nat} {args az:List AV}:TK C base fin k a l d e h (n+1) f args az false=FSK C base fin k a l d e h (n+1) (isBr f) args (freshCallW (RnW C) f az n):=rfl
theorem tk_true {f:Nat} {args az:List AV}:TK C base fin k a l d e h n f args az true=HK C base fin k a l d e h n (isDb f) args (RnW C f az [] n):=rfl
theorem hbk_true (v:AV) (h1:WHeap) (n1:Nat):HBK C base fin k a l d e h n v h1 n1 true=OK C base fin k a l ⟨setD e d v,over n (h1.filter fun x=>(reachW h1 frzDepth v).contains x.1) h,n1⟩:=rfl
theorem hk_bare {args:List AV} (r:AV × WHeap × Nat):HK C base fin k a l d e h n true args (some r)=HBK C base fin k a l d e h n r.1 r.2.1 r.2.2 (keptXW r.2.1 r.1 (reachW r.2.1 frzDepth r.1)):=rfl
theorem hk_some {args:List AV} (r:AV × WHeap × Nat):HK C base fin k a l d e h n false args (some r)=OK C base fin k a l ⟨setD e d r.1,over n r.2.1 (applyW h (markFrozenW h (args.flatMap (reachW h frzDepth)))),r.2.2⟩:=rfl
theorem bsk_true (v:AV) (u:WUpd):BSK C base fin k a l d e h n v u true=OK C base fin k a l ⟨setD e d v,applyW h u,n⟩:=rfl
theorem fsk_bare {args:List AV} (v:AV) (u:WUpd):FSK C base fin k a l d e h n true args (some (v,u))=BSK C base fin k a l d e h n v u (bareXW (v,u)):=rfl
theorem fsk_some {args:List AV} (v:AV) (u:WUpd):FSK C base fin k a l d e h n false args (some (v,u))=OK C base fin k a l ⟨setD e d v,applyW h (markFrozenW h (args.flatMap (reachW h frzDepth))++u),n⟩:=rfl
theorem fk_ptr {f:Nat} {args:List AV}:FK C base fin k a l d e h n f args false true=WK C base fin k a l d e (RnW C f args h n):=rfl
theorem qk_fn {f:Nat} {args caps:List AV}:QK C base fin k a l d e h n args (.fn f caps)=FK C base fin k a l d e h n f (args++caps) (C.inl f) (!C.pp f&&hasPtrL (args++caps)):=rfl
theorem fk_eq {f:Nat} {args:List AV}:(ob (om (evCallW C (RnW C) f args h (n - 1) n) (doneCallW h n args)) fun r=>OK C base fin k a l ⟨setD e d r.v,r.h,r.n⟩)=FK C base fin k a l d e h n f args (C.inl f) (!C.pp f&&hasPtrL args):=by
 unfold FK evCallW IK FPK TK HK FSK WK PK VK FnW
 split
 · split
   · cases mapO (frzW h frzDepth) args with
     | none=>rfl
     | some az =>
      simp only [ob]
      by_cases hdp:isDp f=true
      · simp only [if_pos hdp]
        cases RnW C f az [] n with
        | none=>rfl
        | some r =>
         simp only [deepKeepW,deepUW]
         by_cases hdb:isDb f=true
         · simp only [if_pos hdb]
           unfold HBK
           by_cases hk:keptXW r.2.1 r.1 (reachW r.2.1 frzDepth r.1)=true
           · simp only [if_pos hk];rfl
           · simp only [if_neg hk];rfl
         · simp only [if_neg hdb];rfl
      simp only [if_neg hdp]
      cases freshCallW (RnW C) f az (n - 1) with
      | none=>rfl
      | some x =>
       dsimp only [ob]
       unfold freshEndW freshUW BSK
       cases isBr f
       · rfl
       · cases bareXW x <;> rfl
   · cases RnW C f args h n <;> rfl
 · split
   · cases RnW C f args h n <;> rfl
   · cases mapO (frzW h frzDepth) args with
     | none=>rfl
     | some az =>
      simp only [ob]
      cases pureCallW (RnW C) f az <;> rfl
theorem ok_call {f:Nat} {xs:List Opd}:OK C base fin k a (⟨d,none,.call f xs⟩::l) ⟨e,h,n⟩=FK C base fin k a l d e h (n+1) f (xs.map fun x=>x.ev e) (C.inl f) (!C.pp f&&hasPtrL (xs.map fun x=>x.ev e)):=by
 rw [← fk_eq]
 unfold OK
 simp only [evOpsW,evOpW,wants,evActW,callOf,ob_assoc,Nat.add_sub_cancel]
theorem ok_callv {g:Opd} {xs:List Opd}:OK C base fin k a (⟨d,none,.callv g xs⟩::l) ⟨e,h,n⟩=QK C base fin k a l d e h (n+1) (xs.map fun x=>x.ev e) (g.ev e):=by
 unfold QK
 cases hg:g.ev e with
 | fn f caps =>
  simp only
  rw [← fk_eq]
  unfold OK
  simp only [evOpsW,evOpW,wants,evActW,callOf,hg,ob_assoc,Nat.add_sub_cancel]
 | _ =>
  unfold OK
  simp only [evOpsW,evOpW,wants,evActW,callOf,hg]
  rfl
variable {un:List (Nat × Nat)} {nid:Nat} {ds:List RW}
theorem evDrawW_acc {r:WRun}:∀ (l:List COper) (nid:Nat) (s:WSt) (ds:List WDid),evDrawW C r l nid s ds=om (evDrawW C r l nid s []) fun x=>(x.1,ds++x.2):=by
 intro l
 induction l with
 | nil=>intro nid s ds;simp [evDrawW,om]
 | cons o l ih =>
  intro nid s ds
  simp only [evDrawW]
  cases evOpW C r o nid s.env s.heap s.next with
  | none=>rfl
  | some d =>
   simp only [ob]
   rw [ih,ih _ _ ([]++[d])]
   cases evDrawW C r l (nid+1) _ [] <;> simp [om]
theorem dk_nil (s:WSt):DK C base fin k a un [] nid s ds=EK C base fin k a s (un.all (apartR ds)):=by
 unfold DK;simp only [evDrawW,ob,List.map_nil,List.append_nil]
theorem ek_true (s:WSt):EK C base fin k a s true=AK C base fin k (canonF base a s):=rfl
theorem dk_cons {o:COper} {s:WSt}:DK C base fin k a un (o::l) nid s ds=ob (evOpW C (RnW C) o nid s.env s.heap s.next) fun x=>DK C base fin k a un l (nid+1) ⟨setD s.env o.dst x.v,x.h,x.n⟩ (ds++[rwOf x]):=by
 unfold DK
 simp only [evDrawW,ob_assoc]
 congr 1
 funext x
 rw [evDrawW_acc]
 simp only [ob_om,List.nil_append,List.map_append,List.map_cons,List.map_nil,List.append_assoc]
theorem dk_step {op:COp} (hc:callOf e op=some none):DK C base fin k a un (⟨d,none,op⟩::l) nid ⟨e,h,n⟩ ds=DSK C base fin k a un l (nid+1) d e h n ds (readsOf e op) (stepW op e h nid):=by
 rw [dk_cons]
 unfold DSK
 simp only [evOpW,wants,evActW,hc,ob_om]
 rfl
theorem dsk_some {rd:List Nat} (v:AV) (u:WUpd):DSK C base fin k a un l nid d e h n ds rd (some (v,u))=DK C base fin k a un l nid ⟨setD e d v,applyW h u,n⟩ (ds++[(false,rd,u.map (·.1))]):=rfl
theorem dgk_bool {op:COp} {g:Nat} {w b:Bool}:DGK C base fin k a un l nid d op g w e h n ds (some (.bool b))=if b=w then DK C base fin k a un (⟨d,none,op⟩::l) nid ⟨setE e g (.bool w),h,n⟩ ds else DK C base fin k a un l (nid+1) ⟨setD (setE e g (.bool (!w))) d (.tup []),h,n⟩ (ds++[(false,[],[])]):=rfl
theorem dgk_true_true {op:COp} {g:Nat}:DGK C base fin k a un l nid d op g true e h n ds (some (.bool true))=DK C base fin k a un (⟨d,none,op⟩::l) nid ⟨setE e g (.bool true),h,n⟩ ds:=rfl
theorem dgk_false_false {op:COp} {g:Nat}:DGK C base fin k a un l nid d op g false e h n ds (some (.bool false))=DK C base fin k a un (⟨d,none,op⟩::l) nid ⟨setE e g (.bool false),h,n⟩ ds:=rfl
theorem dgk_true_false {op:COp} {g:Nat}:DGK C base fin k a un l nid d op g true e h n ds (some (.bool false))=DK C base fin k a un l (nid+1) ⟨setD (setE e g (.bool false)) d (.tup []),h,n⟩ (ds++[(false,[],[])]):=rfl
theorem dgk_false_true {op:COp} {g:Nat}:DGK C base fin k a un l nid d op g false e h n ds (some (.bool true))=DK C base fin k a un l (nid+1) ⟨setD (setE e g (.bool true)) d (.tup []),h,n⟩ (ds++[(false,[],[])]):=rfl
theorem dgk_tup {op:COp} {g:Nat} {w:Bool}:DGK C base fin k a un l nid d op g w e h n ds (some (.tup []))=DK C base fin k a un l (nid+1) ⟨setD e d (.tup []),h,n⟩ (ds++[(false,[],[])]):=rfl
theorem dk_guard {op:COp} {g:Nat} {w:Bool}:DK C base fin k a un (⟨d,some (g,w),op⟩::l) nid ⟨e,h,n⟩ ds=DGK C base fin k a un l nid d op g w e h n ds (get e g):=by
 unfold DGK
 cases hg:get e g with
 | none=>rw [dk_cons];simp only [evOpW,wants,hg];rfl
 | some v =>
  cases v with
  | bool b =>
   simp only
   by_cases hw:b=w
   · subst hw
     rw [setE_same hg,if_pos rfl,dk_cons,dk_cons]
     simp only [evOpW,wants,hg,beq_self_eq_true]
   · have e1:(b == w)=false:=by simpa using hw
     have e2:(!w)=b:=by cases b <;> cases w <;> simp_all
     rw [if_neg hw,e2,setE_same hg,dk_cons]
     simp only [evOpW,wants,hg,e1,ob,rwOf]
  | tup vs =>
   cases vs with
   | nil=>rw [dk_cons];simp only [evOpW,wants,hg];rfl
   | cons _ _=>rw [dk_cons];simp only [evOpW,wants,hg];rfl
  | _=>rw [dk_cons];simp only [evOpW,wants,hg];rfl
theorem dvk_some {args:List AV} (v:AV):DVK C base fin k a un l nid d e h n ds args (some v)=DK C base fin k a un l nid ⟨setD e d v,applyW h (marksW h args v),n⟩ (ds++[(false,args.flatMap (reachW h frzDepth),(marksW h args v).map (·.1))]):=rfl
theorem dwk_some (r:AV × WHeap × Nat):DWK C base fin k a un l nid d e ds (some r)=DK C base fin k a un l nid ⟨setD e d r.1,r.2.1,r.2.2⟩ (ds++[(true,[],[])]):=rfl
theorem dpk_some {f:Nat} {args:List AV} (az:List AV):DPK C base fin k a un l nid d e h n ds f args (some az)=DVK C base fin k a un l nid d e h n ds args (FnW C f az):=rfl
theorem dfk_pure {f:Nat} {args:List AV}:DFK C base fin k a un l nid d e h n ds f args false false=DPK C base fin k a un l nid d e h n ds f args (mapO (frzW h frzDepth) args):=rfl
theorem dfk_inl {f:Nat} {args:List AV} {p:Bool}:DFK C base fin k a un l nid d e h n ds f args true p=DIK C base fin k a un l nid d e h n ds f args (isFr f):=rfl
theorem dik_false {f:Nat} {args:List AV}:DIK C base fin k a un l nid d e h n ds f args false=DWK C base fin k a un l nid d e ds (RnW C f args h n):=rfl
theorem dik_true {f:Nat} {args:List AV}:DIK C base fin k a un l nid d e h n ds f args true=DFPK C base fin k a un l nid d e h n ds f args (mapO (frzW h frzDepth) args):=rfl
theorem dfpk_some {f:Nat} {args:List AV} (az:List AV):DFPK C base fin k a un l nid d e h n ds f args (some az)=DTK C base fin k a un l nid d e h n ds f args az (isDp f):=rfl
theorem dtk_false {f:Nat} {args az:List AV}:DTK C base fin k a un l nid d e h n ds f args az false=DFSK C base fin k a un l nid d e h n ds (isBr f) args (freshCallW (RnW C) f az (nid - 1)):=rfl
theorem dtk_true {f:Nat} {args az:List AV}:DTK C base fin k a un l nid d e h n ds f args az true=DHK C base fin k a un l nid d e h n ds (isDb f) args (RnW C f az [] n):=rfl
theorem dhbk_true {args:List AV} (v:AV) (h1:WHeap) (n1:Nat):DHBK C base fin k a un l nid d e h n ds args v h1 n1 true=DK C base fin k a un l nid ⟨setD e d v,over n (h1.filter fun x=>(reachW h1 frzDepth v).contains x.1) h,n1⟩ (ds++[(true,args.flatMap (reachW h frzDepth),[n])]):=rfl
theorem dhk_bare {args:List AV} (r:AV × WHeap × Nat):DHK C base fin k a un l nid d e h n ds true args (some r)=DHBK C base fin k a un l nid d e h n ds args r.1 r.2.1 r.2.2 (keptXW r.2.1 r.1 (reachW r.2.1 frzDepth r.1)):=rfl
theorem dhk_some {args:List AV} (r:AV × WHeap × Nat):DHK C base fin k a un l nid d e h n ds false args (some r)=DK C base fin k a un l nid ⟨setD e d r.1,over n r.2.1 (applyW h (markFrozenW h (args.flatMap (reachW h frzDepth)))),r.2.2⟩ (ds++[(true,args.flatMap (reachW h frzDepth),n::(markFrozenW h (args.flatMap (reachW h frzDepth))).map (·.1))]):=rfl
theorem dbsk_true {args:List AV} (v:AV) (u:WUpd):DBSK C base fin k a un l nid d e h n ds args v u true=DK C base fin k a un l nid ⟨setD e d v,applyW h u,n⟩ (ds++[(false,args.flatMap (reachW h frzDepth),u.map (·.1))]):=rfl
theorem dfsk_bare {args:List AV} (v:AV) (u:WUpd):DFSK C base fin k a un l nid d e h n ds true args (some (v,u))=DBSK C base fin k a un l nid d e h n ds args v u (bareXW (v,u)):=rfl
theorem dfsk_some {args:List AV} (v:AV) (u:WUpd):DFSK C base fin k a un l nid d e h n ds false args (some (v,u))=DK C base fin k a un l nid ⟨setD e d v,applyW h (markFrozenW h (args.flatMap (reachW h frzDepth))++u),n⟩ (ds++[(false,args.flatMap (reachW h frzDepth),(markFrozenW h (args.flatMap (reachW h frzDepth))++u).map (·.1))]):=rfl
theorem dfk_ptr {f:Nat} {args:List AV}:DFK C base fin k a un l nid d e h n ds f args false true=DWK C base fin k a un l nid d e ds (RnW C f args h n):=rfl
theorem dqk_fn {f:Nat} {args caps:List AV}:DQK C base fin k a un l nid d e h n ds args (.fn f caps)=DFK C base fin k a un l nid d e h n ds f (args++caps) (C.inl f) (!C.pp f&&hasPtrL (args++caps)):=rfl
theorem dfk_eq {f:Nat} {args:List AV}:(ob (om (evCallW C (RnW C) f args h (nid - 1) n) (doneCallW h n args)) fun r=>DK C base fin k a un l nid ⟨setD e d r.v,r.h,r.n⟩ (ds++[rwOf r]))=DFK C base fin k a un l nid d e h n ds f args (C.inl f) (!C.pp f&&hasPtrL args):=by
 unfold DFK evCallW DIK DFPK DTK DHK DFSK DWK DPK DVK FnW
 split
 · split
   · cases mapO (frzW h frzDepth) args with
     | none=>rfl
     | some az =>
      simp only [ob]
      by_cases hdp:isDp f=true
      · simp only [if_pos hdp]
        cases RnW C f az [] n with
        | none=>rfl
        | some r =>
         simp only [deepKeepW,deepUW]
         by_cases hdb:isDb f=true
         · simp only [if_pos hdb]
           unfold DHBK
           by_cases hk:keptXW r.2.1 r.1 (reachW r.2.1 frzDepth r.1)=true
           · simp only [if_pos hk];rfl
           · simp only [if_neg hk];rfl
         · simp only [if_neg hdb];rfl
      simp only [if_neg hdp]
      cases freshCallW (RnW C) f az (nid - 1) with
      | none=>rfl
      | some x =>
       dsimp only [ob]
       unfold freshEndW freshUW DBSK
       cases isBr f
       · rfl
       · cases bareXW x <;> rfl
   · cases RnW C f args h n <;> rfl
 · split
   · cases RnW C f args h n <;> rfl
   · cases mapO (frzW h frzDepth) args with
     | none=>rfl
     | some az =>
      simp only [ob]
      cases pureCallW (RnW C) f az <;> rfl
theorem dk_call {f:Nat} {xs:List Opd}:DK C base fin k a un (⟨d,none,.call f xs⟩::l) nid ⟨e,h,n⟩ ds=DFK C base fin k a un l (nid+1) d e h n ds f (xs.map fun x=>x.ev e) (C.inl f) (!C.pp f&&hasPtrL (xs.map fun x=>x.ev e)):=by
 rw [← dfk_eq,dk_cons]
 simp only [evOpW,wants,evActW,callOf,Nat.add_sub_cancel]
theorem dk_callv {g:Opd} {xs:List Opd}:DK C base fin k a un (⟨d,none,.callv g xs⟩::l) nid ⟨e,h,n⟩ ds=DQK C base fin k a un l (nid+1) d e h n ds (xs.map fun x=>x.ev e) (g.ev e):=by
 unfold DQK
 rw [dk_cons]
 cases hg:g.ev e with
 | fn f caps =>
  simp only
  rw [← dfk_eq]
  simp only [evOpW,wants,evActW,callOf,hg,Nat.add_sub_cancel]
 | _ =>
  simp only [evOpW,wants,evActW,callOf,hg]
  rfl
theorem fnW_eq {f:Nat} {fn:WFn} (hf:C.fns.get f=some fn) {args:List AV} (hl:args.length=fn.np):FnW C f args=CK C 0 (pureFin fn.res) [] fn.body ⟨argW 0 args [],[],0⟩:=by
 unfold FnW pureCallW RnW runWithW CK pureFin
 rw [hf]
 simp only [ob,if_pos hl,RK]
 cases CdW C 0 fn.body ⟨argW 0 args [],[],0⟩ with
 | none=>rfl
 | some r=>rfl
end
end Go.Pw
end
section
namespace Go.Pw
open Go Go.Pav
attribute [simp] ck_prim primF primAfter primN primArgs ck_seq ck_skip ck_exit ck_ret ck_cond ck_block ck_ops ck_draw nk_nil nk_sq nk_sq_exit nk_sq_ret nk_lp_exit nk_lp_ret nk_bk nk_bk_exit nk_bk_ret ak_some lk_some
 ok_nil sk_some gk_tup ok_guard vk_some wk_some pk_some fk_pure fk_inl fk_ptr qk_fn ok_call ok_callv dk_nil ek_true dsk_some dgk_tup dk_guard dvk_some dwk_some dpk_some dfk_pure dfk_inl dfk_ptr dqk_fn dk_call dk_callv ik_false ik_true fpk_some fsk_some fsk_bare bsk_true dfsk_bare dbsk_true isBr bareXW bareOW bareV bareL dik_false dik_true dfpk_some dfsk_some isFr isDp tk_false tk_true hk_some hk_bare hbk_true dtk_false dtk_true dhk_some dhk_bare dhbk_true isDb keptXW keptOW keptV keptL
attribute [simp high] condK_true condK_false gk_true_true gk_false_false gk_true_false gk_false_true dgk_true_true dgk_false_false dgk_true_false dgk_false_true
attribute [simp low] condK_bool gk_bool dgk_bool
section
variable {β:Type} {C:WProg} {base:Nat} {fin:Ex × WSt→Option β} {k:List Frame} {a:Ann} {l:List COper} {d:Option Nat} {e:Env} {h:WHeap} {n:Nat} {un:List (Nat × Nat)} {nid:Nat} {ds:List RW}
@[simp] theorem ok_mv {x:Opd}:OK C base fin k a (⟨d,none,.mv x⟩::l) ⟨e,h,n⟩=OK C base fin k a l ⟨setD e d (x.ev e),h,n+1⟩:=by rw [ok_step rfl];rfl
@[simp] theorem ok_pick {c x y:Opd}:OK C base fin k a (⟨d,none,.pick c x y⟩::l) ⟨e,h,n⟩=SK C base fin k a l d e h (n+1) (stepW (.pick c x y) e h n):=ok_step rfl
@[simp] theorem ok_alloc {z:List AV}:OK C base fin k a (⟨d,none,.alloc z⟩::l) ⟨e,h,n⟩=SK C base fin k a l d e h (n+1) (stepW (.alloc z) e h n):=ok_step rfl
@[simp] theorem ok_box {x:Opd}:OK C base fin k a (⟨d,none,.box x⟩::l) ⟨e,h,n⟩=SK C base fin k a l d e h (n+1) (stepW (.box x) e h n):=ok_step rfl
@[simp] theorem ok_build {z:List AV} {ps:List (Nat × Nat × Opd)}:OK C base fin k a (⟨d,none,.build z ps⟩::l) ⟨e,h,n⟩=SK C base fin k a l d e h (n+1) (stepW (.build z ps) e h n):=ok_step rfl
@[simp] theorem ok_buildS {z:List AV} {m:Nat} {ps:List (Nat × Opd)}:OK C base fin k a (⟨d,none,.buildS z m ps⟩::l) ⟨e,h,n⟩=SK C base fin k a l d e h (n+1) (stepW (.buildS z m ps) e h n):=ok_step rfl
@[simp] theorem ok_load {m:Nat} {ag:Bool} {x:Opd}:OK C base fin k a (⟨d,none,.load m ag x⟩::l) ⟨e,h,n⟩=SK C base fin k a l d e h (n+1) (stepW (.load m ag x) e h n):=ok_step rfl
@[simp] theorem ok_store {m:Nat} {x y:Opd}:OK C base fin k a (⟨d,none,.store m x y⟩::l) ⟨e,h,n⟩=SK C base fin k a l d e h (n+1) (stepW (.store m x y) e h n):=ok_step rfl
@[simp] theorem ok_nilchk {x:Opd}:OK C base fin k a (⟨d,none,.nilchk x⟩::l) ⟨e,h,n⟩=SK C base fin k a l d e h (n+1) (stepW (.nilchk x) e h n):=ok_step rfl
@[simp] theorem ok_bin {op:BinOp} {x y:Opd}:OK C base fin k a (⟨d,none,.bin op x y⟩::l) ⟨e,h,n⟩=SK C base fin k a l d e h (n+1) (stepW (.bin op x y) e h n):=ok_step rfl
@[simp] theorem ok_eqv {kd:Nat} {ks:List Nat} {ne:Bool} {x y:Opd}:OK C base fin k a (⟨d,none,.eqv kd ks ne x y⟩::l) ⟨e,h,n⟩=SK C base fin k a l d e h (n+1) (stepW (.eqv kd ks ne x y) e h n):=ok_step rfl
@[simp] theorem ok_un {op:UnOp} {x:Opd}:OK C base fin k a (⟨d,none,.un op x⟩::l) ⟨e,h,n⟩=SK C base fin k a l d e h (n+1) (stepW (.un op x) e h n):=ok_step rfl
@[simp] theorem ok_cvt {kk:IntKind} {x:Opd}:OK C base fin k a (⟨d,none,.cvt kk x⟩::l) ⟨e,h,n⟩=SK C base fin k a l d e h (n+1) (stepW (.cvt kk x) e h n):=ok_step rfl
@[simp] theorem ok_cvs {x:Opd}:OK C base fin k a (⟨d,none,.cvs x⟩::l) ⟨e,h,n⟩=SK C base fin k a l d e h (n+1) (stepW (.cvs x) e h n):=ok_step rfl
@[simp] theorem ok_cvb {x:Opd}:OK C base fin k a (⟨d,none,.cvb x⟩::l) ⟨e,h,n⟩=SK C base fin k a l d e h (n+1) (stepW (.cvb x) e h n):=ok_step rfl
@[simp] theorem ok_mkfn {f:Nat} {xs:List Opd}:OK C base fin k a (⟨d,none,.mkfn f xs⟩::l) ⟨e,h,n⟩=SK C base fin k a l d e h (n+1) (stepW (.mkfn f xs) e h n):=ok_step rfl
@[simp] theorem ok_mkmap:OK C base fin k a (⟨d,none,.mkmap⟩::l) ⟨e,h,n⟩=SK C base fin k a l d e h (n+1) (stepW .mkmap e h n):=ok_step rfl
@[simp] theorem ok_mksl {z:List AV} {b:Nat} {x y:Opd}:OK C base fin k a (⟨d,none,.mksl z b x y⟩::l) ⟨e,h,n⟩=SK C base fin k a l d e h (n+1) (stepW (.mksl z b x y) e h n):=ok_step rfl
@[simp] theorem ok_slice {z:Nat} {x:Opd} {lo hi mx:Option Opd}:OK C base fin k a (⟨d,none,.slice z x lo hi mx⟩::l) ⟨e,h,n⟩=SK C base fin k a l d e h (n+1) (stepW (.slice z x lo hi mx) e h n):=ok_step rfl
@[simp] theorem ok_sliceA {z:Nat} {x:Opd} {lo hi:Option Opd}:OK C base fin k a (⟨d,none,.sliceA z x lo hi⟩::l) ⟨e,h,n⟩=SK C base fin k a l d e h (n+1) (stepW (.sliceA z x lo hi) e h n):=ok_step rfl
@[simp] theorem ok_fld {o:Nat} {x:Opd}:OK C base fin k a (⟨d,none,.fld o x⟩::l) ⟨e,h,n⟩=SK C base fin k a l d e h (n+1) (stepW (.fld o x) e h n):=ok_step rfl
@[simp] theorem ok_fldv {o m:Nat} {ag:Bool} {x:Opd}:OK C base fin k a (⟨d,none,.fldv o m ag x⟩::l) ⟨e,h,n⟩=SK C base fin k a l d e h (n+1) (stepW (.fldv o m ag x) e h n):=ok_step rfl
@[simp] theorem ok_idxs {z:Nat} {x y:Opd}:OK C base fin k a (⟨d,none,.idxs z x y⟩::l) ⟨e,h,n⟩=SK C base fin k a l d e h (n+1) (stepW (.idxs z x y) e h n):=ok_step rfl
@[simp] theorem ok_idxa {m z:Nat} {x y:Opd}:OK C base fin k a (⟨d,none,.idxa m z x y⟩::l) ⟨e,h,n⟩=SK C base fin k a l d e h (n+1) (stepW (.idxa m z x y) e h n):=ok_step rfl
@[simp] theorem ok_idxstr {x y:Opd}:OK C base fin k a (⟨d,none,.idxstr x y⟩::l) ⟨e,h,n⟩=SK C base fin k a l d e h (n+1) (stepW (.idxstr x y) e h n):=ok_step rfl
@[simp] theorem ok_idxv {m z:Nat} {ag:Bool} {x y:Opd}:OK C base fin k a (⟨d,none,.idxv m z ag x y⟩::l) ⟨e,h,n⟩=SK C base fin k a l d e h (n+1) (stepW (.idxv m z ag x y) e h n):=ok_step rfl
@[simp] theorem ok_look {kd:Nat} {z:AV} {ok:Bool} {x y:Opd}:OK C base fin k a (⟨d,none,.look kd z ok x y⟩::l) ⟨e,h,n⟩=SK C base fin k a l d e h (n+1) (stepW (.look kd z ok x y) e h n):=ok_step rfl
@[simp] theorem ok_upd {kd:Nat} {x y z:Opd}:OK C base fin k a (⟨d,none,.upd kd x y z⟩::l) ⟨e,h,n⟩=SK C base fin k a l d e h (n+1) (stepW (.upd kd x y z) e h n):=ok_step rfl
@[simp] theorem ok_range {x:Opd}:OK C base fin k a (⟨d,none,.range x⟩::l) ⟨e,h,n⟩=SK C base fin k a l d e h (n+1) (stepW (.range x) e h n):=ok_step rfl
@[simp] theorem ok_next {x:Opd}:OK C base fin k a (⟨d,none,.next x⟩::l) ⟨e,h,n⟩=SK C base fin k a l d e h (n+1) (stepW (.next x) e h n):=ok_step rfl
@[simp] theorem ok_ext {i:Nat} {x:Opd}:OK C base fin k a (⟨d,none,.ext i x⟩::l) ⟨e,h,n⟩=SK C base fin k a l d e h (n+1) (stepW (.ext i x) e h n):=ok_step rfl
@[simp] theorem ok_len {kd:Nat} {x:Opd}:OK C base fin k a (⟨d,none,.len kd x⟩::l) ⟨e,h,n⟩=SK C base fin k a l d e h (n+1) (stepW (.len kd x) e h n):=ok_step rfl
@[simp] theorem ok_cap {x:Opd}:OK C base fin k a (⟨d,none,.cap x⟩::l) ⟨e,h,n⟩=SK C base fin k a l d e h (n+1) (stepW (.cap x) e h n):=ok_step rfl
@[simp] theorem ok_app {z:List AV} {b:Nat} {zs:Bool} {x y:Opd}:OK C base fin k a (⟨d,none,.app z b zs x y⟩::l) ⟨e,h,n⟩=SK C base fin k a l d e h (n+1) (stepW (.app z b zs x y) e h n):=ok_step rfl
@[simp] theorem ok_cpy {z:Nat} {x y:Opd}:OK C base fin k a (⟨d,none,.cpy z x y⟩::l) ⟨e,h,n⟩=SK C base fin k a l d e h (n+1) (stepW (.cpy z x y) e h n):=ok_step rfl
@[simp] theorem ok_clr {z:List AV} {x:Opd}:OK C base fin k a (⟨d,none,.clr z x⟩::l) ⟨e,h,n⟩=SK C base fin k a l d e h (n+1) (stepW (.clr z x) e h n):=ok_step rfl
@[simp] theorem ok_mx {x y:Opd}:OK C base fin k a (⟨d,none,.mx x y⟩::l) ⟨e,h,n⟩=SK C base fin k a l d e h (n+1) (stepW (.mx x y) e h n):=ok_step rfl
@[simp] theorem ok_mn {x y:Opd}:OK C base fin k a (⟨d,none,.mn x y⟩::l) ⟨e,h,n⟩=SK C base fin k a l d e h (n+1) (stepW (.mn x y) e h n):=ok_step rfl
@[simp] theorem dk_mv {x:Opd}:DK C base fin k a un (⟨d,none,.mv x⟩::l) nid ⟨e,h,n⟩ ds=DSK C base fin k a un l (nid+1) d e h n ds (readsOf e (.mv x)) (stepW (.mv x) e h nid):=dk_step rfl
@[simp] theorem dk_pick {c x y:Opd}:DK C base fin k a un (⟨d,none,.pick c x y⟩::l) nid ⟨e,h,n⟩ ds=DSK C base fin k a un l (nid+1) d e h n ds (readsOf e (.pick c x y)) (stepW (.pick c x y) e h nid):=dk_step rfl
@[simp] theorem dk_alloc {z:List AV}:DK C base fin k a un (⟨d,none,.alloc z⟩::l) nid ⟨e,h,n⟩ ds=DSK C base fin k a un l (nid+1) d e h n ds (readsOf e (.alloc z)) (stepW (.alloc z) e h nid):=dk_step rfl
@[simp] theorem dk_box {x:Opd}:DK C base fin k a un (⟨d,none,.box x⟩::l) nid ⟨e,h,n⟩ ds=DSK C base fin k a un l (nid+1) d e h n ds (readsOf e (.box x)) (stepW (.box x) e h nid):=dk_step rfl
@[simp] theorem dk_build {z:List AV} {ps:List (Nat × Nat × Opd)}:DK C base fin k a un (⟨d,none,.build z ps⟩::l) nid ⟨e,h,n⟩ ds=DSK C base fin k a un l (nid+1) d e h n ds (readsOf e (.build z ps)) (stepW (.build z ps) e h nid):=dk_step rfl
@[simp] theorem dk_buildS {z:List AV} {m:Nat} {ps:List (Nat × Opd)}:DK C base fin k a un (⟨d,none,.buildS z m ps⟩::l) nid ⟨e,h,n⟩ ds=DSK C base fin k a un l (nid+1) d e h n ds (readsOf e (.buildS z m ps)) (stepW (.buildS z m ps) e h nid):=dk_step rfl
@[simp] theorem dk_load {m:Nat} {ag:Bool} {x:Opd}:DK C base fin k a un (⟨d,none,.load m ag x⟩::l) nid ⟨e,h,n⟩ ds=DSK C base fin k a un l (nid+1) d e h n ds (readsOf e (.load m ag x)) (stepW (.load m ag x) e h nid):=dk_step rfl
@[simp] theorem dk_store {m:Nat} {x y:Opd}:DK C base fin k a un (⟨d,none,.store m x y⟩::l) nid ⟨e,h,n⟩ ds=DSK C base fin k a un l (nid+1) d e h n ds (readsOf e (.store m x y)) (stepW (.store m x y) e h nid):=dk_step rfl
@[simp] theorem dk_nilchk {x:Opd}:DK C base fin k a un (⟨d,none,.nilchk x⟩::l) nid ⟨e,h,n⟩ ds=DSK C base fin k a un l (nid+1) d e h n ds (readsOf e (.nilchk x)) (stepW (.nilchk x) e h nid):=dk_step rfl
@[simp] theorem dk_bin {op:BinOp} {x y:Opd}:DK C base fin k a un (⟨d,none,.bin op x y⟩::l) nid ⟨e,h,n⟩ ds=DSK C base fin k a un l (nid+1) d e h n ds (readsOf e (.bin op x y)) (stepW (.bin op x y) e h nid):=dk_step rfl
@[simp] theorem dk_eqv {kd:Nat} {ks:List Nat} {ne:Bool} {x y:Opd}:DK C base fin k a un (⟨d,none,.eqv kd ks ne x y⟩::l) nid ⟨e,h,n⟩ ds=DSK C base fin k a un l (nid+1) d e h n ds (readsOf e (.eqv kd ks ne x y)) (stepW (.eqv kd ks ne x y) e h nid):=dk_step rfl
@[simp] theorem dk_un {op:UnOp} {x:Opd}:DK C base fin k a un (⟨d,none,.un op x⟩::l) nid ⟨e,h,n⟩ ds=DSK C base fin k a un l (nid+1) d e h n ds (readsOf e (.un op x)) (stepW (.un op x) e h nid):=dk_step rfl
@[simp] theorem dk_cvt {kk:IntKind} {x:Opd}:DK C base fin k a un (⟨d,none,.cvt kk x⟩::l) nid ⟨e,h,n⟩ ds=DSK C base fin k a un l (nid+1) d e h n ds (readsOf e (.cvt kk x)) (stepW (.cvt kk x) e h nid):=dk_step rfl
@[simp] theorem dk_cvs {x:Opd}:DK C base fin k a un (⟨d,none,.cvs x⟩::l) nid ⟨e,h,n⟩ ds=DSK C base fin k a un l (nid+1) d e h n ds (readsOf e (.cvs x)) (stepW (.cvs x) e h nid):=dk_step rfl
@[simp] theorem dk_cvb {x:Opd}:DK C base fin k a un (⟨d,none,.cvb x⟩::l) nid ⟨e,h,n⟩ ds=DSK C base fin k a un l (nid+1) d e h n ds (readsOf e (.cvb x)) (stepW (.cvb x) e h nid):=dk_step rfl
@[simp] theorem dk_mkfn {f:Nat} {xs:List Opd}:DK C base fin k a un (⟨d,none,.mkfn f xs⟩::l) nid ⟨e,h,n⟩ ds=DSK C base fin k a un l (nid+1) d e h n ds (readsOf e (.mkfn f xs)) (stepW (.mkfn f xs) e h nid):=dk_step rfl
@[simp] theorem dk_mkmap:DK C base fin k a un (⟨d,none,.mkmap⟩::l) nid ⟨e,h,n⟩ ds=DSK C base fin k a un l (nid+1) d e h n ds (readsOf e (.mkmap)) (stepW (.mkmap) e h nid):=dk_step rfl
@[simp] theorem dk_mksl {z:List AV} {b:Nat} {x y:Opd}:DK C base fin k a un (⟨d,none,.mksl z b x y⟩::l) nid ⟨e,h,n⟩ ds=DSK C base fin k a un l (nid+1) d e h n ds (readsOf e (.mksl z b x y)) (stepW (.mksl z b x y) e h nid):=dk_step rfl
@[simp] theorem dk_slice {z:Nat} {x:Opd} {lo hi mx:Option Opd}:DK C base fin k a un (⟨d,none,.slice z x lo hi mx⟩::l) nid ⟨e,h,n⟩ ds=DSK C base fin k a un l (nid+1) d e h n ds (readsOf e (.slice z x lo hi mx)) (stepW (.slice z x lo hi mx) e h nid):=dk_step rfl
@[simp] theorem dk_sliceA {z:Nat} {x:Opd} {lo hi:Option Opd}:DK C base fin k a un (⟨d,none,.sliceA z x lo hi⟩::l) nid ⟨e,h,n⟩ ds=DSK C base fin k a un l (nid+1) d e h n ds (readsOf e (.sliceA z x lo hi)) (stepW (.sliceA z x lo hi) e h nid):=dk_step rfl
@[simp] theorem dk_fld {o:Nat} {x:Opd}:DK C base fin k a un (⟨d,none,.fld o x⟩::l) nid ⟨e,h,n⟩ ds=DSK C base fin k a un l (nid+1) d e h n ds (readsOf e (.fld o x)) (stepW (.fld o x) e h nid):=dk_step rfl
@[simp] theorem dk_fldv {o m:Nat} {ag:Bool} {x:Opd}:DK C base fin k a un (⟨d,none,.fldv o m ag x⟩::l) nid ⟨e,h,n⟩ ds=DSK C base fin k a un l (nid+1) d e h n ds (readsOf e (.fldv o m ag x)) (stepW (.fldv o m ag x) e h nid):=dk_step rfl
@[simp] theorem dk_idxs {z:Nat} {x y:Opd}:DK C base fin k a un (⟨d,none,.idxs z x y⟩::l) nid ⟨e,h,n⟩ ds=DSK C base fin k a un l (nid+1) d e h n ds (readsOf e (.idxs z x y)) (stepW (.idxs z x y) e h nid):=dk_step rfl
@[simp] theorem dk_idxa {m z:Nat} {x y:Opd}:DK C base fin k a un (⟨d,none,.idxa m z x y⟩::l) nid ⟨e,h,n⟩ ds=DSK C base fin k a un l (nid+1) d e h n ds (readsOf e (.idxa m z x y)) (stepW (.idxa m z x y) e h nid):=dk_step rfl
@[simp] theorem dk_idxstr {x y:Opd}:DK C base fin k a un (⟨d,none,.idxstr x y⟩::l) nid ⟨e,h,n⟩ ds=DSK C base fin k a un l (nid+1) d e h n ds (readsOf e (.idxstr x y)) (stepW (.idxstr x y) e h nid):=dk_step rfl
@[simp] theorem dk_idxv {m z:Nat} {ag:Bool} {x y:Opd}:DK C base fin k a un (⟨d,none,.idxv m z ag x y⟩::l) nid ⟨e,h,n⟩ ds=DSK C base fin k a un l (nid+1) d e h n ds (readsOf e (.idxv m z ag x y)) (stepW (.idxv m z ag x y) e h nid):=dk_step rfl
@[simp] theorem dk_look {kd:Nat} {z:AV} {ok:Bool} {x y:Opd}:DK C base fin k a un (⟨d,none,.look kd z ok x y⟩::l) nid ⟨e,h,n⟩ ds=DSK C base fin k a un l (nid+1) d e h n ds (readsOf e (.look kd z ok x y)) (stepW (.look kd z ok x y) e h nid):=dk_step rfl
@[simp] theorem dk_upd {kd:Nat} {x y z:Opd}:DK C base fin k a un (⟨d,none,.upd kd x y z⟩::l) nid ⟨e,h,n⟩ ds=DSK C base fin k a un l (nid+1) d e h n ds (readsOf e (.upd kd x y z)) (stepW (.upd kd x y z) e h nid):=dk_step rfl
@[simp] theorem dk_range {x:Opd}:DK C base fin k a un (⟨d,none,.range x⟩::l) nid ⟨e,h,n⟩ ds=DSK C base fin k a un l (nid+1) d e h n ds (readsOf e (.range x)) (stepW (.range x) e h nid):=dk_step rfl
@[simp] theorem dk_next {x:Opd}:DK C base fin k a un (⟨d,none,.next x⟩::l) nid ⟨e,h,n⟩ ds=DSK C base fin k a un l (nid+1) d e h n ds (readsOf e (.next x)) (stepW (.next x) e h nid):=dk_step rfl
@[simp] theorem dk_ext {i:Nat} {x:Opd}:DK C base fin k a un (⟨d,none,.ext i x⟩::l) nid ⟨e,h,n⟩ ds=DSK C base fin k a un l (nid+1) d e h n ds (readsOf e (.ext i x)) (stepW (.ext i x) e h nid):=dk_step rfl
@[simp] theorem dk_len {kd:Nat} {x:Opd}:DK C base fin k a un (⟨d,none,.len kd x⟩::l) nid ⟨e,h,n⟩ ds=DSK C base fin k a un l (nid+1) d e h n ds (readsOf e (.len kd x)) (stepW (.len kd x) e h nid):=dk_step rfl
@[simp] theorem dk_cap {x:Opd}:DK C base fin k a un (⟨d,none,.cap x⟩::l) nid ⟨e,h,n⟩ ds=DSK C base fin k a un l (nid+1) d e h n ds (readsOf e (.cap x)) (stepW (.cap x) e h nid):=dk_step rfl
@[simp] theorem dk_app {z:List AV} {b:Nat} {zs:Bool} {x y:Opd}:DK C base fin k a un (⟨d,none,.app z b zs x y⟩::l) nid ⟨e,h,n⟩ ds=DSK C base fin k a un l (nid+1) d e h n ds (readsOf e (.app z b zs x y)) (stepW (.app z b zs x y) e h nid):=dk_step rfl
@[simp] theorem dk_cpy {z:Nat} {x y:Opd}:DK C base fin k a un (⟨d,none,.cpy z x y⟩::l) nid ⟨e,h,n⟩ ds=DSK C base fin k a un l (nid+1) d e h n ds (readsOf e (.cpy z x y)) (stepW (.cpy z x y) e h nid):=dk_step rfl
@[simp] theorem dk_clr {z:List AV} {x:Opd}:DK C base fin k a un (⟨d,none,.clr z x⟩::l) nid ⟨e,h,n⟩ ds=DSK C base fin k a un l (nid+1) d e h n ds (readsOf e (.clr z x)) (stepW (.clr z x) e h nid):=dk_step rfl
@[simp] theorem dk_mx {x y:Opd}:DK C base fin k a un (⟨d,none,.mx x y⟩::l) nid ⟨e,h,n⟩ ds=DSK C base fin k a un l (nid+1) d e h n ds (readsOf e (.mx x y)) (stepW (.mx x y) e h nid):=dk_step rfl
@[simp] theorem dk_mn {x y:Opd}:DK C base fin k a un (⟨d,none,.mn x y⟩::l) nid ⟨e,h,n⟩ ds=DSK C base fin k a un l (nid+1) d e h n ds (readsOf e (.mn x y)) (stepW (.mn x y) e h nid):=dk_step rfl
end
@[simp] theorem nat?_cast (n:Nat):nat? (n:Int)=some n:=rfl
@[simp] theorem nat?_zero:nat? 0=some 0:=rfl
@[simp] theorem nat?_one:nat? 1=some 1:=rfl
@[simp] theorem nat?_lit (n:Nat):nat? (no_index (OfNat.ofNat n):Int)=some n:=rfl
@[simp] theorem nat?_add (n m:Nat):nat? ((n:Int)+(m:Int))=some (n+m):=rfl
@[simp] theorem nat?_add_lit (n m:Nat):nat? ((n:Int)+(no_index (OfNat.ofNat m):Int))=some (n+m):=rfl
theorem wI64 {x:Int} (h1:-9223372036854775808≤x) (h2:x < 9223372036854775808):IntKind.i64.wrap x=x:=by
 show (if (true&&decide (x % 18446744073709551616 ≥ 9223372036854775808))=true then x % 18446744073709551616 - 18446744073709551616 else x % 18446744073709551616)=x
 simp only [Bool.true_and,decide_eq_true_eq]
 split <;> omega
@[simp ↓] theorem ob_s {α β:Type} (a:α) (f:α→Option β):ob (some a) f=f a:=rfl
@[simp] theorem resOf_tmp (e:Env) (h:WHeap) (t:Nat):resOfW e h (.tmp t)=Pav.get e t:=rfl
def cellOf (h:WHeap) (n:Nat) (ag:Bool):Option AV→Option AV
 | some (.ptr b i o)=>wLoadAt n ag o i (Pav.get h b)
 | _=>none
@[simp] theorem resOf_cell (e:Env) (h:WHeap) (t n:Nat) (ag:Bool):resOfW e h (.cell t n ag)=cellOf h n ag (Pav.get e t):=rfl
attribute [simp] cellOf
@[simp] theorem ev_t (s:Nat) (e:Env):(Opd.t s).ev e=(Pav.get e s).getD .undef:=rfl
@[simp] theorem ev_c (v:AV) (e:Env):(Opd.c v).ev e=v:=rfl
@[simp ↓] theorem ob_n {α β:Type} (f:α→Option β):ob none f=none:=rfl
@[simp ↓] theorem om_s {α β:Type} (a:α) (f:α→β):om (some a) f=some (f a):=rfl
@[simp ↓] theorem om_n {α β:Type} (f:α→β):om none f=none:=rfl
@[simp] theorem og_t {β:Type} (x:Option β):og true x=x:=rfl
@[simp] theorem og_f {β:Type} (x:Option β):og false x=none:=rfl
@[simp] theorem ov_s (v:AV):ov (some v)=some (v,[]):=rfl
@[simp] theorem ovW_s (v:AV):ovW (some v)=some (v,[]):=rfl
@[simp] theorem plainW_s (x:AV × Upd):plainW (some x)=some (x.1,[]):=rfl
def consO {α:Type}:Option α→Option (List α)→Option (List α)
 | some a,some l=>some (a::l)
 | _,_=>none
@[simp] theorem consO_s {α:Type} (a:α) (l:List α):consO (some a) (some l)=some (a::l):=rfl
@[simp] theorem mapO_nil {α β:Type} (f:α→Option β):mapO f []=some []:=rfl
@[simp] theorem mapO_cons {α β:Type} (f:α→Option β) (a:α) (r:List α):mapO f (a::r)=consO (f a) (mapO f r):=by
 simp only [mapO];cases f a <;> cases mapO f r <;> rfl
def consE (k:Nat):Option AV→Option Env→Option Env
 | some v,some r=>some ((k,v)::r)
 | _,_=>none
@[simp] theorem consE_s (k:Nat) (v:AV) (r:Env):consE k (some v) (some r)=some ((k,v)::r):=rfl
@[simp] theorem renEnv_nil (π:Nat→Option Nat):renEnv π []=some []:=rfl
@[simp] theorem renEnv_cons (π:Nat→Option Nat) (k:Nat) (v:AV) (r:Env):renEnv π ((k,v)::r)=consE k (ren π v) (renEnv π r):=by
 simp only [renEnv];cases ren π v <;> cases renEnv π r <;> rfl
def ptrO (i o:Nat):Option Nat→Option AV
 | some b=>some (.ptr b i o)
 | none=>none
def slO (z i l c:Nat) (ex:Bool):Option Nat→Option AV
 | some b=>some (.sl b z i l c ex)
 | none=>none
def mapV:Option Nat→Option AV
 | some b=>some (.map b)
 | none=>none
def fnO (f:Nat):Option (List AV)→Option AV
 | some cs=>some (.fn f cs)
 | none=>none
def aggO:Option (List AV)→Option AV
 | some cs=>some (.agg cs)
 | none=>none
def tupO:Option (List AV)→Option AV
 | some cs=>some (.tup cs)
 | none=>none
@[simp] theorem ptrO_s (i o b:Nat):ptrO i o (some b)=some (.ptr b i o):=rfl
@[simp] theorem slO_s (z i l c:Nat) (ex:Bool) (b:Nat):slO z i l c ex (some b)=some (.sl b z i l c ex):=rfl
@[simp] theorem mapV_s (b:Nat):mapV (some b)=some (.map b):=rfl
@[simp] theorem fnO_s (f:Nat) (cs:List AV):fnO f (some cs)=some (.fn f cs):=rfl
@[simp] theorem aggO_s (cs:List AV):aggO (some cs)=some (.agg cs):=rfl
@[simp] theorem tupO_s (cs:List AV):tupO (some cs)=some (.tup cs):=rfl
section
variable (π:Nat→Option Nat)
@[simp] theorem ren_ptr (b i o:Nat):ren π (.ptr b i o)=ptrO i o (π b):=by simp only [ren];cases π b <;> rfl
@[simp] theorem ren_sl (b z i l c:Nat) (ex:Bool):ren π (.sl b z i l c ex)=slO z i l c ex (π b):=by simp only [ren];cases π b <;> rfl
@[simp] theorem ren_map (b:Nat):ren π (.map b)=mapV (π b):=by simp only [ren];cases π b <;> rfl
@[simp] theorem ren_fn (f:Nat) (cs:List AV):ren π (.fn f cs)=fnO f (renL π cs):=by simp only [ren];cases renL π cs <;> rfl
@[simp] theorem ren_agg (cs:List AV):ren π (.agg cs)=aggO (renL π cs):=by simp only [ren];cases renL π cs <;> rfl
@[simp] theorem ren_tup (cs:List AV):ren π (.tup cs)=tupO (renL π cs):=by simp only [ren];cases renL π cs <;> rfl
@[simp] theorem ren_undef:ren π .undef=some .undef:=rfl
@[simp] theorem ren_bool (b:Bool):ren π (.bool b)=some (.bool b):=rfl
@[simp] theorem ren_int (k:IntKind) (n:Int):ren π (.int k n)=some (.int k n):=rfl
@[simp] theorem ren_str (s:List UInt8):ren π (.str s)=some (.str s):=rfl
@[simp] theorem ren_nilp:ren π .nilp=some .nilp:=rfl
@[simp] theorem ren_nils:ren π .nils=some .nils:=rfl
@[simp] theorem ren_nilm:ren π .nilm=some .nilm:=rfl
@[simp] theorem ren_nilf:ren π .nilf=some .nilf:=rfl
@[simp] theorem ren_ro (z:Nat) (es:List (List AV)) (ex:Bool):ren π (.ro z es ex)=some (.ro z es ex):=rfl
@[simp] theorem ren_rop (cs:List AV):ren π (.rop cs)=some (.rop cs):=rfl
@[simp] theorem renL_nil:renL π []=some []:=rfl
@[simp] theorem renL_cons (v:AV) (r:List AV):renL π (v::r)=consO (ren π v) (renL π r):=by simp only [renL];cases ren π v <;> cases renL π r <;> rfl
def cellsO (z:Nat) (mu dt:Bool):Option (List (List AV))→Option WObj
 | some es=>some (.cells z es mu dt)
 | none=>none
@[simp] theorem cellsO_s (z:Nat) (mu dt:Bool) (es:List (List AV)):cellsO z mu dt (some es)=some (.cells z es mu dt):=rfl
@[simp] theorem renObj_dt (z:Nat) (es:List (List AV)) (mu:Bool):renObj π (.cells z es mu true)=some (.cells z es mu true):=rfl
@[simp] theorem renObj_nd (z:Nat) (es:List (List AV)) (mu:Bool):renObj π (.cells z es mu false)=cellsO z mu false (mapO (renL π) es):=by simp only [renObj];cases mapO (renL π) es <;> rfl
@[simp] theorem renObj_map (es:List (AV × AV)):renObj π (.map es)=some (.map es):=rfl
@[simp] theorem renObj_iter (s:List UInt8) (p:Nat):renObj π (.iter s p)=some (.iter s p):=rfl
def consH (k:Nat):Option WObj→Option WHeap→Option WHeap
 | some v,some r=>some ((k,v)::r)
 | _,_=>none
@[simp] theorem consH_s (k:Nat) (v:WObj) (r:WHeap):consH k (some v) (some r)=some ((k,v)::r):=rfl
@[simp] theorem renOld_nil (base:Nat):renOld base π []=some []:=rfl
@[simp] theorem renOld_cons (base b:Nat) (o:WObj) (r:WHeap):renOld base π ((b,o)::r)=if b < base then consH b (renObj π o) (renOld base π r) else renOld base π r:=by
 simp only [renOld]
 split
 · cases renObj π o <;> cases renOld base π r <;> rfl
 · rfl
def newH (n:Nat) (π:Nat→Option Nat) (r:Option WHeap):Option WObj→Option WHeap
 | some o=>consH n (renObj π o) r
 | none=>r
@[simp] theorem newH_s (n:Nat) (r:Option WHeap) (o:WObj):newH n π r (some o)=consH n (renObj π o) r:=rfl
@[simp] theorem newH_n (n:Nat) (r:Option WHeap):newH n π r none=r:=rfl
@[simp] theorem renNew_nil (h:WHeap) (n:Nat):renNew π h n []=some []:=rfl
@[simp] theorem renNew_cons (h:WHeap) (n b:Nat) (r:List Nat):renNew π h n (b::r)=newH n π (renNew π h (n+1) r) (Pav.get h b):=by
 simp only [renNew,newH]
 cases Pav.get h b with
 | none=>rfl
 | some o=>simp only;cases renObj π o <;> cases renNew π h (n+1) r <;> rfl
end
def num3 (n:Nat):Option Env→Option WHeap→Option WHeap→Option WSt
 | some e,some h1,some h2=>some ⟨e,h1++h2,n⟩
 | _,_,_=>none
@[simp] theorem num3_s (n:Nat) (e:Env) (h1 h2:WHeap):num3 n (some e) (some h1) (some h2)=some ⟨e,h1++h2,n⟩:=rfl
@[simp] theorem renumber_eq (base:Nat) (s:WSt) (L:List Nat):renumber base s L=num3 (base+L.length) (renEnv (newNum base L) s.env) (renOld base (newNum base L) s.heap) (renNew (newNum base L) s.heap base L):=by
 simp only [renumber]
 cases renEnv (newNum base L) s.env <;> cases renOld base (newNum base L) s.heap <;> cases renNew (newNum base L) s.heap base L <;> rfl
def appK (h:WHeap) (nid zl bytes:Nat) (s:AV):Option (List (List AV) × Bool)→Option (AV × WUpd)
 | some (xs,d)=>wEvApp h nid zl bytes s xs d
 | none=>none
@[simp] theorem appK_s (h:WHeap) (nid zl bytes:Nat) (s:AV) (xs:List (List AV)) (d:Bool):appK h nid zl bytes s (some (xs,d))=wEvApp h nid zl bytes s xs d:=rfl
@[simp] theorem wApp_f (z:List AV) (bytes:Nat) (s x:Opd) (e:Env) (h:WHeap) (n:Nat) (hb:bytes < 1125899906842624):wApp z bytes false s x e h n=appK h n z.length bytes (s.ev e) (wElems h z.length (x.ev e)):=by
 simp only [wApp,Bool.false_eq_true,if_false,if_pos hb];cases wElems h z.length (x.ev e) <;> rfl
def zerosK (h:WHeap) (nid:Nat) (z:List AV) (bytes:Nat) (s:AV):AV→Option (AV × WUpd)
 | .int _ n=>ob (nat? n) fun n=>if n * (bytes+1)≤maxBytes then wEvApp h nid z.length bytes s (List.replicate n z) (z.all isC) else none
 | _=>none
@[simp] theorem wApp_t (z:List AV) (bytes:Nat) (s x:Opd) (e:Env) (h:WHeap) (n:Nat):wApp z bytes true s x e h n=zerosK h n z bytes (s.ev e) (x.ev e):=by
 simp only [wApp,if_true];cases x.ev e <;> rfl
def cpyK (h:WHeap) (z:Nat) (d:AV):Option (List (List AV) × Bool)→Option (AV × WUpd)
 | some (xs,b)=>wCopyIn h z xs b d
 | none=>none
@[simp] theorem cpyK_s (h:WHeap) (z:Nat) (d:AV) (xs:List (List AV)) (b:Bool):cpyK h z d (some (xs,b))=wCopyIn h z xs b d:=rfl
@[simp] theorem wCpy_eq (z:Nat) (d s:Opd) (e:Env) (h:WHeap) (n:Nat):wCpy z d s e h n=cpyK h z (d.ev e) (wElems h z (s.ev e)):=by
 simp only [wCpy];cases wElems h z (s.ev e) <;> rfl
attribute [simp] zerosK
@[simp] theorem ob_map {α β γ:Type} (x:Option α) (g:α→β) (f:β→Option γ):ob (Option.map g x) f=ob x fun a=>f (g a):=by cases x <;> rfl
section
variable (h:WHeap) (nid zl bytes:Nat) (xs:List (List AV)) (d:Bool)
@[simp] theorem wEvApp_nils:wEvApp h nid zl bytes .nils xs d=if xs.isEmpty=true then some (.nils,[]) else wNewRow nid zl xs.length bytes xs d:=by cases xs <;> rfl
@[simp] theorem wEvApp_ro (z:Nat) (es:List (List AV)) (ex:Bool):wEvApp h nid zl bytes (.ro z es ex) xs d =
 if z=zl then (if xs.isEmpty=true then some (.ro z es ex,[]) else if ex=true then wNewRow nid zl (es.length+xs.length) bytes (es++xs) d else none) else none:=by cases xs <;> rfl
@[simp] theorem wEvApp_sl (b z i len cap:Nat) (ex:Bool):wEvApp h nid zl bytes (.sl b z i len cap ex) xs d =
 if z=zl then (if xs.isEmpty=true then some (.sl b z i len cap ex,[]) else wAppSl (Pav.get h b) nid zl bytes b i len cap ex xs d (len+xs.length)) else none:=by cases xs <;> rfl
end
def frzS (h:WHeap) (n z i len cap:Nat) (ex:Bool):Option WObj→Option AV
 | some (.cells _ es _ true)=>og (decide (((es.drop i).take len).length=len)) (some (.ro z ((es.drop i).take len) (ex&&decide (cap=len))))
 | some (.cells _ es _ false)=>ob (mapO (mapO (frzW h n)) ((es.drop i).take len)) fun es'=>og (decide (es'.length=len)&&es'.all fun e=>e.all isC) (some (.ro z es' (ex&&decide (cap=len))))
 | _=>none
def frzP (h:WHeap) (n i o:Nat):Option WObj→Option AV
 | some (.cells _ es _ true)=>ob es[i]? fun cs=>some (.rop (cs.drop o))
 | some (.cells _ es _ false)=>ob es[i]? fun cs=>ob (mapO (frzW h n) (cs.drop o)) fun cs'=>some (.rop cs')
 | _=>none
def reachP (h:WHeap) (n i o:Nat):Option WObj→List Nat
 | some (.cells _ es _ false)=>((es[i]?.getD []).drop o).flatMap (reachW h n)
 | _=>[]
def reachS (h:WHeap) (n i len:Nat):Option WObj→List Nat
 | some (.cells _ es _ false)=>((es.drop i).take len).flatMap fun e=>e.flatMap (reachW h n)
 | _=>[]
section
variable (h:WHeap) (n:Nat)
@[simp] theorem frzW_bool (b:Bool):frzW h (n+1) (.bool b)=some (.bool b):=rfl
@[simp] theorem frzW_int (k:IntKind) (x:Int):frzW h (n+1) (.int k x)=some (.int k x):=rfl
@[simp] theorem frzW_str (s:List UInt8):frzW h (n+1) (.str s)=some (.str s):=rfl
@[simp] theorem frzW_nilp:frzW h (n+1) .nilp=some .nilp:=rfl
@[simp] theorem frzW_nils:frzW h (n+1) .nils=some .nils:=rfl
@[simp] theorem frzW_nilm:frzW h (n+1) .nilm=some .nilm:=rfl
@[simp] theorem frzW_nilf:frzW h (n+1) .nilf=some .nilf:=rfl
@[simp] theorem frzW_ro (z:Nat) (es:List (List AV)) (ex:Bool):frzW h (n+1) (.ro z es ex)=some (.ro z es ex):=rfl
@[simp] theorem frzW_rop (cs:List AV):frzW h (n+1) (.rop cs)=some (.rop cs):=rfl
@[simp] theorem frzW_fn (f:Nat) (cs:List AV):frzW h (n+1) (.fn f cs)=fnO f (mapO (frzW h n) cs):=by simp only [frzW];cases mapO (frzW h n) cs <;> rfl
@[simp] theorem frzW_agg (cs:List AV):frzW h (n+1) (.agg cs)=aggO (mapO (frzW h n) cs):=by simp only [frzW];cases mapO (frzW h n) cs <;> rfl
@[simp] theorem frzW_tup (cs:List AV):frzW h (n+1) (.tup cs)=tupO (mapO (frzW h n) cs):=by simp only [frzW];cases mapO (frzW h n) cs <;> rfl
@[simp] theorem frzW_sl (b z i len cap:Nat) (ex:Bool):frzW h (n+2) (.sl b z i len cap ex)=frzS h (n+1) z i len cap ex (Pav.get h b):=by
 simp only [frzW,frzS]
 split
 · rename_i hg
   rw [hg]
   rename_i dt
   cases dt <;> rfl
 · rename_i hg
   split
   · rename_i h1;exact absurd h1 (hg _ _ _ _)
   · rename_i h1;exact absurd h1 (hg _ _ _ _)
   · rfl
@[simp] theorem frzW_ptr (b i o:Nat):frzW h (n+2) (.ptr b i o)=frzP h (n+1) i o (Pav.get h b):=by
 simp only [frzW,frzP]
 split
 · rename_i hg
   rw [hg]
   rename_i es _ dt
   cases dt
   · simp only [Bool.false_eq_true,if_false]
     cases es[i]? with
     | none=>rfl
     | some cs=>simp only [ob];cases mapO (frzW h (n+1)) (cs.drop o) <;> rfl
   · rfl
 · rename_i hg
   split
   · rename_i h1;exact absurd h1 (hg _ _ _ _)
   · rename_i h1;exact absurd h1 (hg _ _ _ _)
   · rfl
@[simp] theorem reachW_ptr (b i o:Nat):reachW h (n+1) (.ptr b i o)=b::reachP h n i o (Pav.get h b):=by
 simp only [reachW,reachP]
 congr 1
 split
 · rename_i hg
   rw [hg]
   rename_i dt
   cases dt <;> rfl
 · rename_i hg
   split
   · rename_i h1;exact absurd h1 (hg _ _ _ _)
   · rfl
@[simp] theorem reachW_bool (b:Bool):reachW h (n+1) (.bool b)=[]:=rfl
@[simp] theorem reachW_int (k:IntKind) (x:Int):reachW h (n+1) (.int k x)=[]:=rfl
@[simp] theorem reachW_str (s:List UInt8):reachW h (n+1) (.str s)=[]:=rfl
@[simp] theorem reachW_nilp:reachW h (n+1) .nilp=[]:=rfl
@[simp] theorem reachW_nils:reachW h (n+1) .nils=[]:=rfl
@[simp] theorem reachW_nilm:reachW h (n+1) .nilm=[]:=rfl
@[simp] theorem reachW_nilf:reachW h (n+1) .nilf=[]:=rfl
@[simp] theorem reachW_ro (z:Nat) (es:List (List AV)) (ex:Bool):reachW h (n+1) (.ro z es ex)=[]:=rfl
@[simp] theorem reachW_rop (cs:List AV):reachW h (n+1) (.rop cs)=[]:=rfl
@[simp] theorem reachW_fn (f:Nat) (cs:List AV):reachW h (n+1) (.fn f cs)=cs.flatMap (reachW h n):=rfl
@[simp] theorem reachW_agg (cs:List AV):reachW h (n+1) (.agg cs)=cs.flatMap (reachW h n):=rfl
@[simp] theorem reachW_tup (cs:List AV):reachW h (n+1) (.tup cs)=cs.flatMap (reachW h n):=rfl
@[simp] theorem reachW_sl (b z i len cap:Nat) (ex:Bool):reachW h (n+1) (.sl b z i len cap ex)=b::reachS h n i len (Pav.get h b):=by
 simp only [reachW,reachS]
 congr 1
 split
 · rename_i hg
   rw [hg]
   rename_i dt
   cases dt <;> rfl
 · rename_i hg
   split
   · rename_i h1;exact absurd h1 (hg _ _ _ _)
   · rfl
@[simp] theorem hasRefW_bool (b:Bool):hasRefW (n+1) (.bool b)=false:=rfl
@[simp] theorem hasRefW_int (k:IntKind) (x:Int):hasRefW (n+1) (.int k x)=false:=rfl
@[simp] theorem hasRefW_str (s:List UInt8):hasRefW (n+1) (.str s)=false:=rfl
@[simp] theorem hasRefW_nilp:hasRefW (n+1) .nilp=false:=rfl
@[simp] theorem hasRefW_nils:hasRefW (n+1) .nils=false:=rfl
@[simp] theorem hasRefW_nilm:hasRefW (n+1) .nilm=false:=rfl
@[simp] theorem hasRefW_nilf:hasRefW (n+1) .nilf=false:=rfl
@[simp] theorem hasRefW_ro (z:Nat) (es:List (List AV)) (ex:Bool):hasRefW (n+1) (.ro z es ex)=true:=rfl
@[simp] theorem hasRefW_rop (cs:List AV):hasRefW (n+1) (.rop cs)=true:=rfl
@[simp] theorem hasRefW_fn (f:Nat) (cs:List AV):hasRefW (n+1) (.fn f cs)=cs.any (hasRefW n):=rfl
@[simp] theorem hasRefW_agg (cs:List AV):hasRefW (n+1) (.agg cs)=cs.any (hasRefW n):=rfl
@[simp] theorem hasRefW_tup (cs:List AV):hasRefW (n+1) (.tup cs)=cs.any (hasRefW n):=rfl
end
def imax (a b:Int):Int:=if b > a then b else a
def imin (a b:Int):Int:=if b < a then b else a
def mxV:AV→AV→Option (AV × Upd)
 | .int k a,.int k' b=>if k=k' then some (.int k (imax a b),[]) else none
 | _,_=>none
def mnV:AV→AV→Option (AV × Upd)
 | .int k a,.int k' b=>if k=k' then some (.int k (imin a b),[]) else none
 | _,_=>none
@[simp] theorem sMx_eq (x y:Opd) (e:Env) (h:Heap) (n:Nat):sMx x y e h n=mxV (x.ev e) (y.ev e):=rfl
@[simp] theorem sMn_eq (x y:Opd) (e:Env) (h:Heap) (n:Nat):sMn x y e h n=mnV (x.ev e) (y.ev e):=rfl
attribute [simp] mxV mnV
@[simp] theorem canonF_nil (base:Nat) (cn:Bool) (lv:List Nat) (s:WSt):canonF base ⟨cn,lv,[]⟩ s=canon base ⟨cn,lv,[]⟩ s:=rfl
@[simp] theorem canonF_cons (base:Nat) (cn:Bool) (lv:List Nat) (p:Nat × Nat) (r:List (Nat × Nat)) (s:WSt):canonF base ⟨cn,lv,p::r⟩ s=ob (frzSlotsW (frzOf (p::r)) s) (canon base ⟨cn,lv,p::r⟩):=rfl
attribute [simp] frzOf frzSlotsW frzSlotW
attribute [simp] List.getElem?_cons_zero frzS reachS frzP reachP
attribute [simp] stepW wAlloc wBox boxedW wBuildS fillS wLoad wLoadOf wLoadAt loadC wStore wStoreOf wStoreAt splice wMkmap wMksl wLook wLookIn found wUpd wUpdIn wRange wNext wNextIter wLen wEvLen wLenMap wElems wNewRow wAppSl
 wCopyTo wCopyIn wClr wClrIn wClrTo sMv sPick sBuild fillC sNilchk sBin evBin binInt binStr isShift shiftInt sEqv eqVals eqFn eqIf AV.isAg eqPtr eqMap eqAgg eqCells eqBool wEqSl keyOk eqCell sUn evUn sCvt sCvs sCvb evCvb sMkfn sSlice evSlice wSliceA wSliceOf wSliceAt sliceArr sliceRo sliceSl sliceNil sliceStr bound oev
 sFld sFldv sIdxs idxsAt sIdxa idxaAt sIdxstr sIdxv sExt sCap evCap AV.cells AV.cell isC isD Pav.get Pav.put setD setE applyW updOneW del readsOf ptrId canon noRen canonG growAll growOne keepL_nil keepL_cons keepN dropLt newNum place close
 envRefs oldRefs refs refsL objRefs markFrozenW marksW hasPtr hasPtrL resultsW tupled fnEndW pureFin argW frzDepth putE maxBytes mapGet mapPut apartR clashR quietR meets hitL
def rep {α:Type} (n:Nat) (a:α):List α:=List.replicate n a
section
variable {α β:Type} (n:Nat) (a:α)
@[simp] theorem rep_length:(rep n a).length=n:=List.length_replicate
@[simp] theorem rep_map (f:α→β):List.map f (rep n a)=rep n (f a):=List.map_replicate
@[simp] theorem rep_all (p:α→Bool):(rep (n+1) a).all p=p a:=by
 unfold rep;rw [List.all_replicate];simp
theorem rep_get {i:Nat} (h:i < n):(rep n a)[i]?=some a:=by
 unfold rep;rw [List.getElem?_replicate,if_pos h]
@[simp] theorem rep_getElem {i:Nat} (h:i < (rep n a).length):(rep n a)[i]=a:=by
 unfold rep;exact List.getElem_replicate _
@[simp] theorem rep_take_self:List.take n (rep n a)=rep n a:=List.take_of_length_le (by simp)
@[simp] theorem rep_cons (n:Nat):(rep (n+1) a).isEmpty=false:=rfl
end
end Go.Pw
end
section
namespace Go.Pw
open Go Go.Pav
inductive ZO where
 | p (d:Option (Option Nat)) (g:Option (Nat × Bool)) (x:COp)
def zt:List Nat→List Opd
 | []=>[]
 | a::r=>.t a::zt r
namespace Z
def y (s:Nat):ZO→ZO
 | .p d _ x=>.p d (some (s,true)) x
def z (s:Nat):ZO→ZO
 | .p d _ x=>.p d (some (s,false)) x
def d (k:Nat):ZO→ZO
 | .p _ g x=>.p (some (some k)) g x
def n:ZO→ZO
 | .p _ g x=>.p (some none) g x
def m (a:Nat):ZO:=.p none none (.mv (.t a))
def i (k:Int):ZO:=.p none none (.mv (.c (.int .i64 k)))
def l (k a:Nat):ZO:=.p none none (.load k false (.t a))
def h (k a:Nat):ZO:=.p none none (.load k true (.t a))
def f (o a:Nat):ZO:=.p none none (.fld o (.t a))
def po (a b:Nat):ZO:=.p none none (.pick (.t a) (.c (.bool true)) (.t b))
def pa (a b:Nat):ZO:=.p none none (.pick (.t a) (.t b) (.c (.bool false)))
def ln (k a:Nat):ZO:=.p none none (.len k (.t a))
def ix (k a b:Nat):ZO:=.p none none (.idxs k (.t a) (.t b))
def ex (k a:Nat):ZO:=.p none none (.ext k (.t a))
def nk (a:Nat):ZO:=.p none none (.nilchk (.t a))
def bx (a:Nat):ZO:=.p none none (.box (.t a))
def nt (a:Nat):ZO:=.p none none (.un .not (.t a))
def st (k a b:Nat):ZO:=.p none none (.store k (.t a) (.t b))
def E (x:COp):ZO:=.p none none x
def tt:ZO:=.p none none (.mv (.c (.bool true)))
def ff:ZO:=.p none none (.mv (.c (.bool false)))
def ca (g:Nat) (q:List Nat):ZO:=.p none none (.call g (zt q))
def eq (a b:Nat):ZO:=.p none none (.bin .eql (.t a) (.t b))
def eqi (a:Nat) (k:Int):ZO:=.p none none (.bin .eql (.t a) (.c (.int .i64 k)))
def ne (a b:Nat):ZO:=.p none none (.bin .neq (.t a) (.t b))
def nei (a:Nat) (k:Int):ZO:=.p none none (.bin .neq (.t a) (.c (.int .i64 k)))
def lt (a b:Nat):ZO:=.p none none (.bin .lss (.t a) (.t b))
def lti (a:Nat) (k:Int):ZO:=.p none none (.bin .lss (.t a) (.c (.int .i64 k)))
def le (a b:Nat):ZO:=.p none none (.bin .leq (.t a) (.t b))
def lei (a:Nat) (k:Int):ZO:=.p none none (.bin .leq (.t a) (.c (.int .i64 k)))
def gt (a b:Nat):ZO:=.p none none (.bin .gtr (.t a) (.t b))
def gti (a:Nat) (k:Int):ZO:=.p none none (.bin .gtr (.t a) (.c (.int .i64 k)))
def ge (a b:Nat):ZO:=.p none none (.bin .geq (.t a) (.t b))
def gei (a:Nat) (k:Int):ZO:=.p none none (.bin .geq (.t a) (.c (.int .i64 k)))
def ad (a b:Nat):ZO:=.p none none (.bin .add (.t a) (.t b))
def adi (a:Nat) (k:Int):ZO:=.p none none (.bin .add (.t a) (.c (.int .i64 k)))
def sb (a b:Nat):ZO:=.p none none (.bin .sub (.t a) (.t b))
def sbi (a:Nat) (k:Int):ZO:=.p none none (.bin .sub (.t a) (.c (.int .i64 k)))
end Z
def zo:Nat→List ZO→List COper
 | _,[]=>[]
 | k,.p none g x::r=>⟨some k,g,x⟩::zo (k+1) r
 | k,.p (some j) g x::r=>⟨j,g,x⟩::zo k r
inductive ZC where
 | O (k:Nat) (l:List ZO)
 | Q (k:Nat) (l:List ZO) (s:List Nat)
 | R (k:Nat) (l:List ZO) (a:Ann)
 | U (k:Nat) (l:List ZO) (u:List (Nat × Nat)) (s:List Nat)
 | V (k:Nat) (l:List ZO) (u:List (Nat × Nat)) (a:Ann)
 | s (a b:ZC)
 | r (a:ZC)
 | c (t:Nat) (a:ZC)
 | cc (t:Nat) (a b:ZC)
 | cd (x:Opd) (a b:ZC)
 | B (j:Nat) (a:ZC)
 | bk (j:Nat) (a:ZC) (x:Ann)
 | lp (x:Ann) (a:ZC)
 | ee (j:Nat)
 | w (x:WCode)
instance:Coe WCode ZC:=⟨.w⟩
def zc:ZC→WCode
 | .O k l=>.ops (zo k l) ⟨false,[],[]⟩
 | .Q k l s=>.ops (zo k l) ⟨true,s,[]⟩
 | .R k l a=>.ops (zo k l) a
 | .U k l u s=>.draw (zo k l) u ⟨true,s,[]⟩
 | .V k l u a=>.draw (zo k l) u a
 | .s a b=>.seq (zc a) (zc b)
 | .r a=>.seq (zc a) .ret
 | .c t a=>.cond (.t t) (zc a) .skip
 | .cc t a b=>.cond (.t t) (zc a) (zc b)
 | .cd x a b=>.cond x (zc a) (zc b)
 | .B j a=>.block j (zc a) ⟨false,[],[]⟩
 | .bk j a x=>.block j (zc a) x
 | .lp x a=>.loop x (zc a)
 | .ee j=>.exit j
 | .w x=>x
abbrev T (a:Nat):Opd:=.t a
abbrev N (n:Int):Opd:=.c (.int .i64 n)
abbrev zd (x:ZC) {y:WCode} (_h:zc x=y:=by dsimp only [zc,zo,zt,T,N,Z.y,Z.z,Z.d,Z.n,Z.m,Z.i,Z.l,Z.h,Z.f,Z.po,Z.pa,Z.ln,Z.ix,Z.ex,Z.nk,Z.bx,Z.nt,Z.st,Z.E,Z.tt,Z.ff,Z.ca,Z.eq,Z.eqi,Z.ne,Z.nei,Z.lt,Z.lti,Z.le,Z.lei,Z.gt,Z.gti,Z.ge,Z.gei,Z.ad,Z.adi,Z.sb,Z.sbi]):WCode:=y
abbrev ZL (L B:WCode) (a:Ann):Prop:=∀ {β:Type} {C:WProg} {b:Nat} {f:Ex × WSt→Option β} {k:List Pw.Frame} {s:WSt},CK C b f k L s=LK C b f (.sq L::k) B (canon b a s)
end Go.Pw
end
