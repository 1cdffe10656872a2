/- Part of the theory that the claims of this work use: PwDefs, PwRel, PwOps, PwOps2, PwOps3, PwOps4, PwCall, PwFresh, PwBare, PwSim. No conditions of its own. -/
import Derived.Test.YtpgfajflkkjdaaaGreatT3
section
set_option linter.unusedSimpArgs false
set_option linter.unusedVariables false
namespace Go.Pw
open Go Go.Pav
inductive WObj where
 | cells (z:Nat) (es:List (List AV)) (mu dt:Bool)
 | map (es:List (AV × AV))
 | iter (s:List UInt8) (pos:Nat)
 deriving Inhabited
abbrev WHeap:=List (Nat × WObj)
abbrev WUpd:=List (Nat × Option WObj)
def isC:AV→Bool
 | .bool _=>true
 | .int _ _=>true
 | .str _=>true
 | .nilp=>true
 | .nils=>true
 | .nilm=>true
 | .nilf=>true
 | .ro _ _ _=>true
 | .rop _=>true
 | .fn _ []=>true
 | _=>false
def isD:AV→Bool
 | .agg cs=>cs.all isC
 | v=>isC v
mutual
def refs:AV→List Nat
 | .ptr b _ _=>[b]
 | .sl b _ _ _ _ _=>[b]
 | .map b=>[b]
 | .fn _ cs=>refsL cs
 | .agg cs=>refsL cs
 | .tup cs=>refsL cs
 | _=>[]
def refsL:List AV→List Nat
 | []=>[]
 | v::r=>refs v++refsL r
end
mutual
def ren (π:Nat→Option Nat):AV→Option AV
 | .ptr b i o=>om (π b) fun b=>.ptr b i o
 | .sl b z i l c ex=>om (π b) fun b=>.sl b z i l c ex
 | .map b=>om (π b) fun b=>.map b
 | .fn f cs=>om (renL π cs) fun cs=>.fn f cs
 | .agg cs=>om (renL π cs) fun cs=>.agg cs
 | .tup cs=>om (renL π cs) fun cs=>.tup cs
 | v=>some v
def renL (π:Nat→Option Nat):List AV→Option (List AV)
 | []=>some []
 | v::r=>ob (ren π v) fun v=>om (renL π r) fun r=>v::r
end
def objRefs:Option WObj→List Nat
 | some (.cells _ es _ dt)=>if dt then [] else es.flatMap refsL
 | _=>[]
def renObj (π:Nat→Option Nat):WObj→Option WObj
 | .cells z es mu dt=>if dt then some (.cells z es mu dt) else om (mapO (renL π) es) fun es=>.cells z es mu dt
 | .map es=>some (.map es)
 | .iter s p=>some (.iter s p)
def envRefs:Env→List Nat
 | []=>[]
 | (_,v)::r=>refs v++envRefs r
def oldRefs (base:Nat):WHeap→List Nat
 | []=>[]
 | (b,o)::r=>if b < base then objRefs (some o)++oldRefs base r else oldRefs base r
def close (base:Nat) (h:WHeap):Nat→List Nat→List Nat→List Nat
 | 0,_,acc=>acc
 | _+1,[],acc=>acc
 | n+1,b::w,acc=>if b < base then close base h n w acc else if acc.contains b then close base h n w acc else close base h n (objRefs (Pav.get h b)++w) (acc++[b])
def place (n:Nat):List Nat→Nat→Option Nat
 | [],_=>none
 | a::r,b=>if a=b then some n else place (n+1) r b
def newNum (base:Nat) (L:List Nat) (b:Nat):Option Nat:=if b < base then some b else place base L b
def renEnv (π:Nat→Option Nat):Env→Option Env
 | []=>some []
 | (k,v)::r=>ob (ren π v) fun v=>om (renEnv π r) fun r=>(k,v)::r
def renOld (base:Nat) (π:Nat→Option Nat):WHeap→Option WHeap
 | []=>some []
 | (b,o)::r=>if b < base then ob (renObj π o) fun o=>om (renOld base π r) fun r=>(b,o)::r else renOld base π r
def renNew (π:Nat→Option Nat) (h:WHeap) (n:Nat):List Nat→Option WHeap
 | []=>some []
 | b::r=>match Pav.get h b with
  | some o=>ob (renObj π o) fun o=>om (renNew π h (n+1) r) fun r=>(n,o)::r
  | none=>renNew π h (n+1) r
structure WSt where
 env:Env
 heap:WHeap
 next:Nat
 deriving Inhabited
structure Ann where
 cn:Bool
 live:List Nat
 grow:List (Nat × Nat)
 deriving Inhabited
def putE:Env→Nat→AV→Env
 | [],n,x=>[(n,x)]
 | (k,v)::r,n,x=>if k < n then (n,x)::(k,v)::r else if k=n then (n,x)::r else (k,v)::putE r n x
def setD (e:Env) (d:Option Nat) (v:AV):Env :=
 match d with
 | some d=>putE e d v
 | none=>e
def argW:Nat→List AV→Env→Env
 | _,[],acc=>acc
 | k,v::r,acc=>argW (k+1) r ((k,v)::acc)
def dropLt (k:Nat):List Nat→List Nat
 | []=>[]
 | a::l=>if k < a then dropLt k l else a::l
def keepE:Env→List Nat→Env
 | [],_=>[]
 | (k,v)::r,live=>match dropLt k live with
  | []=>[]
  | a::l=>if a=k then (k,v)::keepE r l else keepE r (a::l)
def keepL (live:List Nat) (e:Env):Env:=keepE e live
def keepN (k:Nat) (v:AV) (r:Env):List Nat→Env
 | []=>[]
 | a::l=>if a=k then (k,v)::keepL l r else keepL (a::l) r
theorem keepL_nil (live:List Nat):keepL live []=[]:=rfl
theorem keepL_cons (live:List Nat) (k:Nat) (v:AV) (r:Env):keepL live ((k,v)::r)=keepN k v r (dropLt k live):=by
 simp only [keepL,keepE]
 cases dropLt k live <;> rfl
def growOne (s:WSt) (k z:Nat):AV→WSt
 | .ro z' [] true=>if z'=z then ⟨putE s.env k (.sl s.next z 0 0 0 false),put s.heap s.next (.cells z [] true true),s.next+1⟩ else s
 | _=>s
def growAll:List (Nat × Nat)→WSt→WSt
 | [],s=>s
 | (k,z)::r,s=>match Pav.get s.env k with
  | some v=>growAll r (growOne s k z v)
  | none=>growAll r s
def renumber (base:Nat) (s:WSt) (L:List Nat):Option WSt :=
 ob (renEnv (newNum base L) s.env) fun e=>ob (renOld base (newNum base L) s.heap) fun h1=>om (renNew (newNum base L) s.heap base L) fun h2=>⟨e,h1++h2,base+L.length⟩
def canonG (base:Nat) (s:WSt):Option WSt:=renumber base s (close base s.heap 1000 (envRefs s.env++oldRefs base s.heap) [])
def bitsOf:List Nat→Nat
 | []=>0
 | k::r=>2 ^ k ||| bitsOf r
def noRen:List (Nat × Nat)→Bool
 | []=>false
 | (_,z)::r=>if z=65537 then true else noRen r
def canon (base:Nat) (a:Ann) (s:WSt):Option WSt :=
 match a.cn with
 | true=>match noRen a.grow with
  | true=>some (growAll a.grow ⟨keepL a.live s.env,s.heap,s.next⟩)
  | false=>canonG base (growAll a.grow ⟨keepL a.live s.env,s.heap,s.next⟩)
 | false=>some s
def maskOf (a:Ann):Nat:=match a.cn with
 | true=>bitsOf a.live
 | false=>0
def frzOf:List (Nat × Nat)→List Nat
 | []=>[]
 | (k,z)::r=>if z=65536 then k::frzOf r else frzOf r
def updOneW (h:WHeap) (b:Nat):Option WObj→WHeap
 | some o=>put h b o
 | none=>del h b
def applyW:WHeap→WUpd→WHeap
 | h,[]=>h
 | h,(b,o)::r=>applyW (updOneW h b o) r
abbrev WStep:=Env→WHeap→Nat→Option (AV × WUpd)
def ovW (x:Option AV):Option (AV × WUpd):=om x fun v=>(v,[])
def wAlloc (z:List AV):WStep:=fun _ _ nid=>some (.ptr nid 0 0,[(nid,some (.cells z.length [z] true (z.all isC)))])
def boxedW (cs:List AV) (nid:Nat):Option (AV × WUpd):=if cs.all AV.cell=true then some (.ptr nid 0 0,[(nid,some (.cells cs.length [cs] true (cs.all isC)))]) else none
def wBox (x:Opd):WStep:=fun e _ nid=>boxedW (x.ev e).cells nid
def wBuildS (z:List AV) (len:Nat) (ps:List (Nat × Opd)):WStep:=fun e _ nid =>
 om (fillS e z.length (List.replicate len z) ps) fun es=>(.sl nid z.length 0 len len true,[(nid,some (.cells z.length es true (es.all fun c=>c.all isC)))])
def wLoadAt (n:Nat) (ag:Bool) (o i:Nat):Option WObj→Option AV
 | some (.cells _ es _ _)=>ob es[i]? fun cs=>loadC n ag (cs.drop o)
 | _=>none
def wLoadOf (n:Nat) (ag:Bool) (h:WHeap):AV→Option AV
 | .rop cs=>loadC n ag cs
 | .ptr b i o=>wLoadAt n ag o i (Pav.get h b)
 | _=>none
def wLoad (n:Nat) (ag:Bool) (a:Opd):WStep:=fun e h _=>ovW (wLoadOf n ag h (a.ev e))
def wStoreAt (n b i o:Nat) (v:List AV):Option WObj→Option (AV × WUpd)
 | some (.cells z es mu dt)=>if mu then ob es[i]? fun cs=>if o+n≤cs.length then some (.tup [],[(b,some (.cells z (es.set i (splice cs o v)) true (dt&&v.all isC)))]) else none else none
 | _=>none
def wStoreOf (n:Nat) (h:WHeap) (v:List AV):AV→Option (AV × WUpd)
 | .ptr b i o=>wStoreAt n b i o v (Pav.get h b)
 | _=>none
def wStore (n:Nat) (a x:Opd):WStep:=fun e h _ =>
 if (x.ev e).cells.length=n∧(x.ev e).cells.all AV.cell=true then wStoreOf n h (x.ev e).cells (a.ev e) else none
def wMkmap:WStep:=fun _ _ nid=>some (.map nid,[(nid,some (.map []))])
def wMksl (z:List AV) (bytes:Nat) (l c:Opd):WStep:=fun e _ nid=>match l.ev e,c.ev e with
 | .int _ l,.int _ c=>ob (nat? l) fun l=>ob (nat? c) fun c =>
  if l≤c∧c * (bytes+1)≤maxBytes then some (.sl nid z.length 0 l c true,[(nid,some (.cells z.length (List.replicate c z) true (z.all isC)))]) else none
 | _,_=>none
def wLookIn (z:AV) (ok:Bool) (k:AV):Option WObj→Option AV
 | some (.map es)=>om (mapGet es k) (found z ok)
 | _=>none
def wLook (kd:Nat) (z:AV) (ok:Bool) (m k:Opd):WStep:=fun e h _=>if keyOk kd (k.ev e)=true then (match m.ev e with
 | .nilm=>some (found z ok none,[])
 | .map b=>ovW (wLookIn z ok (k.ev e) (Pav.get h b))
 | _=>none) else none
def wUpdIn (b:Nat) (k v:AV):Option WObj→Option (AV × WUpd)
 | some (.map es)=>om (mapPut es k v) fun es'=>(.tup [],[(b,some (.map es'))])
 | _=>none
def wUpd (kd:Nat) (m k v:Opd):WStep:=fun e h _=>if keyOk kd (k.ev e)=true∧isD (v.ev e)=true then (match m.ev e with
 | .map b=>wUpdIn b (k.ev e) (v.ev e) (Pav.get h b)
 | _=>none) else none
def wRange (x:Opd):WStep:=fun e _ nid=>match x.ev e with
 | .str s=>some (.ptr nid 0 0,[(nid,some (.iter s 0))])
 | _=>none
def wNextIter (b:Nat):Option WObj→Option (AV × WUpd)
 | some (.iter s pos)=>if pos < s.length then
  some (.tup [.bool true,.int .i64 pos,.int .i32 (Utf8.decode ⟨⟨s⟩⟩ pos).1],[(b,some (.iter s (pos+(Utf8.decode ⟨⟨s⟩⟩ pos).2)))])
  else some (.tup [.bool false],[])
 | _=>none
def wNext (x:Opd):WStep:=fun e h _=>match x.ev e with
 | .ptr b 0 0=>wNextIter b (Pav.get h b)
 | _=>none
def wLenMap:Option WObj→Option AV
 | some (.map es)=>some (.int .i64 es.length)
 | _=>none
def wEvLen (kd:Nat) (h:WHeap):AV→Option AV
 | .str s=>if kd=0 then some (.int .i64 s.length) else none
 | .nils=>if kd=1 then some (.int .i64 0) else none
 | .ro _ es _=>if kd=1 then some (.int .i64 es.length) else none
 | .sl _ _ _ len _ _=>if kd=1 then some (.int .i64 len) else none
 | .nilm=>if kd=2 then some (.int .i64 0) else none
 | .map b=>if kd=2 then wLenMap (Pav.get h b) else none
 | _=>none
def wLen (kd:Nat) (x:Opd):WStep:=fun e h _=>ovW (wEvLen kd h (x.ev e))
def wElems (h:WHeap) (z:Nat):AV→Option (List (List AV) × Bool)
 | .nils=>some ([],true)
 | .ro z' es _=>if z'=z then some (es,true) else none
 | .sl b z' i len _ _=>if z'=z then (match Pav.get h b with
  | some (.cells _ es _ dt)=>if i+len≤es.length then some ((es.drop i).take len,dt) else none
  | _=>none) else none
 | .str s=>if z=1 then some (s.map fun c=>[.int .u8 c.toNat],true) else none
 | _=>none
def wNewRow (nid zl n bytes:Nat) (xs:List (List AV)) (dt:Bool):Option (AV × WUpd) :=
 if n * (bytes+1)≤maxBytes then some (.sl nid zl 0 n n false,[(nid,some (.cells zl xs true dt))]) else none
def wAppSl (o:Option WObj) (nid zl bytes:Nat) (b i len cap:Nat) (ex:Bool) (xs:List (List AV)) (d:Bool) (n:Nat):Option (AV × WUpd) :=
 match o with
 | some (.cells zb es mu dt) =>
  if zb=zl then
   if n≤cap then
    if mu=true∧i+n≤es.length then some (.sl b zl i n cap ex,[(b,some (.cells zl (es.take (i+len)++(xs++es.drop (i+n))) true (dt&&d)))]) else none
   else if ex then
    if i+len≤es.length then wNewRow nid zl n bytes ((es.drop i).take len++xs) (dt&&d) else none
   else if mu=true∧i=0∧es.length=len∧n * (bytes+1)≤maxBytes then
    some (.sl nid zl 0 n n false,[(b,none),(nid,some (.cells zl (es++xs) true (dt&&d)))])
   else none
  else none
 | _=>none
def wEvApp (h:WHeap) (nid zl bytes:Nat) (s:AV) (xs:List (List AV)) (d:Bool):Option (AV × WUpd) :=
 match s with
 | .nils=>match xs with
  | []=>some (.nils,[])
  | _=>wNewRow nid zl xs.length bytes xs d
 | .ro z' es ex=>if z'=zl then (match xs with
  | []=>some (s,[])
  | _=>if ex then wNewRow nid zl (es.length+xs.length) bytes (es++xs) d else none) else none
 | .sl b z' i len cap ex=>if z'=zl then (match xs with
  | []=>some (s,[])
  | _=>wAppSl (Pav.get h b) nid zl bytes b i len cap ex xs d (len+xs.length)) else none
 | _=>none
def snapOfW (h:WHeap) (z bytes:Nat) (xs:List (List AV)):AV→Option AV
 | .sl b z' i len _ _=>match Pav.get h b with
  | some (.cells zb es mu dt)=>if z'=z∧zb=z∧i=0∧mu=true∧es.length=len∧dt=true∧es.isEmpty=false∧(es.length+xs.length) * (bytes+1)≤maxBytes∧(es++xs).all (fun e=>e.all flat)=true then some (.ro z (es++xs) false) else none
  | _=>none
 | _=>none
def frzMark (h:WHeap):AV→Option WUpd
 | .sl b _ _ _ _ _=>match Pav.get h b with
  | some (.cells z es _ dt)=>some [(b,some (.cells z es false dt))]
  | _=>none
 | _=>none
def wFrzApp (h:WHeap) (zl bytes:Nat) (xs:List (List AV)) (d:Bool) (s:AV):Option (AV × WUpd) :=
 if d=true then ob (snapOfW h zl bytes xs s) fun v=>om (frzMark h s) fun u=>(v,u) else none
def wApp (z:List AV) (bytes:Nat) (zeros:Bool) (s x:Opd):WStep:=fun e h nid =>
 if zeros then (match x.ev e with
  | .int _ n=>ob (nat? n) fun n=>if n * (bytes+1)≤maxBytes then wEvApp h nid z.length bytes (s.ev e) (List.replicate n z) (z.all isC) else none
  | _=>none)
 else if bytes < frzBytes then ob (wElems h z.length (x.ev e)) fun xs=>wEvApp h nid z.length bytes (s.ev e) xs.1 xs.2
 else ob (wElems h z.length (x.ev e)) fun xs=>wFrzApp h z.length (bytes - frzBytes) xs.1 xs.2 (s.ev e)
def wCopyTo (z b i len:Nat) (xs:List (List AV)) (d:Bool) (n:Nat):Option WObj→Option (AV × WUpd)
 | some (.cells zb es mu dt)=>if mu=true∧zb=z∧i+len≤es.length then
  some (.int .i64 n,[(b,some (.cells z (es.take i++(xs.take n++es.drop (i+n))) true (dt&&d)))]) else none
 | _=>none
def wCopyIn (h:WHeap) (z:Nat) (xs:List (List AV)) (d:Bool):AV→Option (AV × WUpd)
 | .nils=>some (.int .i64 0,[])
 | .ro _ [] _=>some (.int .i64 0,[])
 | .sl b z' i len _ _=>if z'=z then
  if min xs.length len=0 then some (.int .i64 0,[]) else wCopyTo z b i len xs d (min xs.length len) (Pav.get h b)
  else none
 | _=>none
def wCpy (z:Nat) (d s:Opd):WStep:=fun e h _=>ob (wElems h z (s.ev e)) fun xs=>wCopyIn h z xs.1 xs.2 (d.ev e)
def wClrTo (z:List AV) (b i len:Nat):Option WObj→Option (AV × WUpd)
 | some (.cells zb es mu dt)=>if mu=true∧zb=z.length∧i+len≤es.length then
  some (.tup [],[(b,some (.cells z.length (es.take i++(List.replicate len z++es.drop (i+len))) true (dt&&z.all isC)))]) else none
 | _=>none
def wClrIn (h:WHeap) (z:List AV):AV→Option (AV × WUpd)
 | .nils=>some (.tup [],[])
 | .ro _ [] _=>some (.tup [],[])
 | .sl b z' i len _ _=>if z'=z.length then
  if len=0 then some (.tup [],[]) else wClrTo z b i len (Pav.get h b)
  else none
 | _=>none
def wClr (z:List AV) (d:Opd):WStep:=fun e h _=>wClrIn h z (d.ev e)
def wSliceAt (n b i o:Nat) (lo hi:Option AV):Option WObj→Option (AV × WUpd)
 | some (.cells z es _ dt)=>ob es[i]? fun cs=>om (sliceArr n (cs.drop o) lo hi) fun r=>(r,[(b,some (.cells z es false dt))])
 | _=>none
def wSliceOf (h:WHeap) (n:Nat) (lo hi:Option AV):AV→Option (AV × WUpd)
 | .rop cs=>om (sliceArr n cs lo hi) fun r=>(r,[])
 | .ptr b i o=>wSliceAt n b i o lo hi (Pav.get h b)
 | _=>none
def wSliceA (n:Nat) (x:Opd) (lo hi:Option Opd):WStep:=fun e h _=>wSliceOf h n (oev e lo) (oev e hi) (x.ev e)
def wEqSl:AV→AV→Option Bool
 | .nils,.nils=>some true
 | .nils,.ro _ (_::_) _=>some false
 | .ro _ (_::_) _,.nils=>some false
 | _,_=>none
def plainW (x:Option (AV × Upd)):Option (AV × WUpd):=om x fun x=>(x.1,[])
def stepW (op:COp):WStep :=
 match op with
 | .mv x=>fun e _ _=>plainW (sMv x e [] 0)
 | .pick c a b=>fun e _ _=>plainW (sPick c a b e [] 0)
 | .alloc z=>wAlloc z
 | .box x=>wBox x
 | .build z ps=>fun e _ _=>plainW (sBuild z ps e [] 0)
 | .buildS z len ps=>wBuildS z len ps
 | .load n ag a=>wLoad n ag a
 | .store n a x=>wStore n a x
 | .nilchk x=>fun e _ _=>plainW (sNilchk x e [] 0)
 | .bin op x y=>fun e _ _=>plainW (sBin op x y e [] 0)
 | .eqv kd ks ne x y=>fun e _ _=>if kd=0 then om (wEqSl (x.ev e) (y.ev e)) (fun b=>(.bool (b != ne),[])) else plainW (sEqv kd ks ne x y e [] 0)
 | .un op x=>fun e _ _=>plainW (sUn op x e [] 0)
 | .cvt k x=>fun e _ _=>plainW (sCvt k x e [] 0)
 | .cvs x=>fun e _ _=>plainW (sCvs x e [] 0)
 | .cvb x=>fun e _ _=>plainW (sCvb x e [] 0)
 | .mkfn f caps=>fun e _ _=>plainW (sMkfn f caps e [] 0)
 | .mkmap=>wMkmap
 | .mksl z bytes l c=>wMksl z bytes l c
 | .slice z x lo hi mx=>fun e _ _=>plainW (sSlice z x lo hi mx e [] 0)
 | .sliceA n x lo hi=>wSliceA n x lo hi
 | .fld off x=>fun e _ _=>plainW (sFld off x e [] 0)
 | .fldv off n ag x=>fun e _ _=>plainW (sFldv off n ag x e [] 0)
 | .idxs z x i=>fun e _ _=>plainW (sIdxs z x i e [] 0)
 | .idxa len z x i=>fun e _ _=>plainW (sIdxa len z x i e [] 0)
 | .idxstr x i=>fun e _ _=>plainW (sIdxstr x i e [] 0)
 | .idxv len z ag x i=>fun e _ _=>plainW (sIdxv len z ag x i e [] 0)
 | .look kd z ok m k=>wLook kd z ok m k
 | .upd kd m k v=>wUpd kd m k v
 | .range x=>wRange x
 | .next x=>wNext x
 | .ext i x=>fun e _ _=>plainW (sExt i x e [] 0)
 | .len kd x=>wLen kd x
 | .cap x=>fun e _ _=>plainW (sCap x e [] 0)
 | .app z bytes zeros s x=>wApp z bytes zeros s x
 | .cpy z d s=>wCpy z d s
 | .clr z d=>wClr z d
 | .mx x y=>fun e _ _=>plainW (sMx x y e [] 0)
 | .mn x y=>fun e _ _=>plainW (sMn x y e [] 0)
 | .call _ _=>fun _ _ _=>none
 | .callv _ _=>fun _ _ _=>none
 | .fail=>fun _ _ _=>none
def frzW (h:WHeap):Nat→AV→Option AV
 | 0,_=>none
 | n+1,v=>match v with
  | .undef=>none
  | .ptr b i o=>match Pav.get h b with
   | some (.cells _ es _ dt)=>ob es[i]? fun cs=>if dt then (if n=0 then none else some (.rop (cs.drop o))) else om (mapO (frzW h n) (cs.drop o)) fun cs'=>.rop cs'
   | _=>none
  | .map _=>none
  | .sl b z i len cap ex=>match Pav.get h b with
   | some (.cells _ es _ dt) =>
    if dt then (if n=0 then none else og (decide (((es.drop i).take len).length=len)) (some (.ro z ((es.drop i).take len) (ex&&decide (cap=len)))))
    else ob (mapO (mapO (frzW h n)) ((es.drop i).take len)) fun es' =>
     og (decide (es'.length=len)&&es'.all fun e=>e.all isC) (some (.ro z es' (ex&&decide (cap=len))))
   | _=>none
  | .fn f caps=>om (mapO (frzW h n) caps) fun cs=>.fn f cs
  | .agg cs=>om (mapO (frzW h n) cs) fun cs=>.agg cs
  | .tup vs=>om (mapO (frzW h n) vs) fun vs=>.tup vs
  | .bool b=>some (.bool b)
  | .int k x=>some (.int k x)
  | .str s=>some (.str s)
  | .nilp=>some .nilp
  | .nils=>some .nils
  | .nilm=>some .nilm
  | .nilf=>some .nilf
  | .ro z es ex=>some (.ro z es ex)
  | .rop cs=>some (.rop cs)
def reachW (h:WHeap):Nat→AV→List Nat
 | 0,_=>[]
 | n+1,v=>match v with
  | .ptr b i o=>b::(match Pav.get h b with
   | some (.cells _ es _ dt)=>if dt then [] else ((es[i]?.getD []).drop o).flatMap (reachW h n)
   | _=>[])
  | .sl b _ i len _ _=>b::(match Pav.get h b with
   | some (.cells _ es _ dt)=>if dt then [] else ((es.drop i).take len).flatMap fun e=>e.flatMap (reachW h n)
   | _=>[])
  | .fn _ caps=>caps.flatMap (reachW h n)
  | .agg cs=>cs.flatMap (reachW h n)
  | .tup vs=>vs.flatMap (reachW h n)
  | _=>[]
def markFrozenW (h:WHeap):List Nat→WUpd
 | []=>[]
 | b::r=>match Pav.get h b with
  | some (.cells z es _ dt)=>(b,some (.cells z es false dt))::markFrozenW h r
  | _=>markFrozenW h r
def frzSlotW (k:Nat) (s:WSt):Option WSt :=
 ob (Pav.get s.env k) fun v=>om (frzW s.heap frzDepth v) fun v'=>⟨setD s.env (some k) v',applyW s.heap (markFrozenW s.heap (reachW s.heap frzDepth v)),s.next⟩
def frzSlotsW:List Nat→WSt→Option WSt
 | [],s=>some s
 | k::r,s=>ob (frzSlotW k s) (frzSlotsW r)
def canonF (base:Nat) (a:Ann) (s:WSt):Option WSt:=ob (frzSlotsW (frzOf a.grow) s) (canon base a)
abbrev WRun:=Nat→List AV→WHeap→Nat→Option (AV × WHeap × Nat)
def pureCallW (run:WRun) (f:Nat) (args:List AV):Option AV :=
 ob (run f args [] 0) fun r=>frzW r.2.1 frzDepth r.1
def hasRefW:Nat→AV→Bool
 | 0,_=>true
 | n+1,v=>match v with
  | .undef=>true
  | .ro _ _ _=>true
  | .rop _=>true
  | .fn _ caps=>caps.any (hasRefW n)
  | .agg cs=>cs.any (hasRefW n)
  | .tup vs=>vs.any (hasRefW n)
  | _=>false
def marksW (h:WHeap) (args:List AV) (v:AV):WUpd :=
 if hasRefW frzDepth v then markFrozenW h (args.flatMap (reachW h frzDepth)) else []
inductive WCalled where
 | data (v:AV) (u:WUpd)
 | whole (v:AV) (h:WHeap) (n:Nat)
 | deep (v:AV) (mk u:WUpd) (n:Nat)
inductive WCode where
 | skip
 | ops (l:List COper) (a:Ann)
 | draw (l:List COper) (un:List (Nat × Nat)) (a:Ann)
 | seq (a b:WCode)
 | cond (c:Opd) (a b:WCode)
 | block (id:Nat) (b:WCode) (a:Ann)
 | loop (a:Ann) (b:WCode)
 | exit (id:Nat)
 | ret
 | fail
 /-- slices.Clone: whether an empty slice is nil is not known, and its copy is empty in either case -/
 | cln (zz:List AV) (z b:Nat)
 | iso (pre:List COper) (ap:COper) (post:List COper) (a:Ann)
 | prim (k:Nat)
 deriving Inhabited
def clnC (zz:List AV) (z b:Nat):WCode :=
 .seq (.ops [⟨some 2,none,.mv (.c (.ro z [] true))⟩] ⟨false,[],[]⟩)
  (.seq (.seq (.ops [⟨some 3,none,.mv (.t 0)⟩,⟨some 4,none,.eqv 0 [] false (.t 3) (.c .nils)⟩] ⟨false,[],[]⟩)
   (.cond (.t 4) (.seq (.ops [⟨some 2,none,.mv (.c (.ro z [] true))⟩] ⟨false,[],[]⟩) .ret) .skip))
  (.seq (.ops [⟨some 5,none,.buildS zz 0 []⟩,⟨some 6,none,.mv (.t 0)⟩,⟨some 7,none,.app zz (b % 1125899906842624) false (.t 5) (.t 6)⟩,⟨some 2,none,.mv (.t 7)⟩] ⟨false,[],[]⟩) .ret))
def clnE (zz:List AV) (b:Nat):CCode :=
 .seq (.ops [⟨some 2,none,.mv (.c .nils)⟩] (0,[]))
  (.seq (.seq (.ops [⟨some 3,none,.mv (.t 0)⟩,⟨some 4,none,.eqv 0 [] false (.t 3) (.c .nils)⟩] (0,[]))
   (.cond (.t 4) (.seq (.ops [⟨some 2,none,.mv (.c .nils)⟩] (0,[])) .ret) .skip))
  (.seq (.ops [⟨some 5,none,.buildS zz 0 []⟩,⟨some 6,none,.mv (.t 0)⟩,⟨some 7,none,.app zz (b % 1125899906842624) false (.t 5) (.t 6)⟩,⟨some 2,none,.mv (.t 7)⟩] (0,[])) .ret))
def isEmptyRo:AV→Option Nat
 | .ro z [] _=>some z
 | _=>none
structure WFn where
 np:Nat
 res:List CRes
 body:WCode
 deriving Inhabited
inductive WTree where
 | leaf
 | node (l:WTree) (k:Nat) (f:WFn) (r:WTree)
 deriving Inhabited
def WTree.get:WTree→Nat→Option WFn
 | .leaf,_=>none
 | .node l k f r,n=>if n=k then some f else if n≤k then l.get n else r.get n
structure WProg where
 fns:WTree
 inl:Nat→Bool
 pp:Nat→Bool
def freshOfW (nid:Nat) (v:AV) (b:Nat):Option WObj→Option (AV × WUpd)
 | some (.cells z es mu dt)=>if (mu&&dt)=true then om (hand b nid v) fun v=>(v,[(nid,some (.cells z es true true))]) else none
 | _=>none
def freshCallW (run:WRun) (f:Nat) (args:List AV) (nid:Nat):Option (AV × WUpd) :=
 ob (run f args [] 0) fun r=>match ownOf r.1 with
  | none=>om (hand r.2.2 0 r.1) fun v=>(v,[])
  | some b=>freshOfW nid r.1 b (Pav.get r.2.1 b)
def bareOW:Option WObj→Bool
 | some (.cells _ es _ _)=>es.all bareL
 | _=>false
def bareXW (x:AV × WUpd):Bool:=bareV x.1&&x.2.all fun y=>bareOW y.2
def freshUW (f:Nat) (u:WUpd):WUpd:=if isBr f=true then [] else u
def freshEndW (f:Nat) (u:WUpd) (x:AV × WUpd):Option WCalled :=
 if (isBr f&&!bareXW x)=true then none else some (.data x.1 (freshUW f u++x.2))
def upsW (n:Nat) (h:WHeap):WUpd:=((h.filter fun x=>decide (n≤x.1)).map fun x=>(x.1,some x.2)).reverse
def keptOW (L:List Nat):Option WObj→Bool
 | some (.cells _ es mu _)=>mu&&es.all (keptL L)
 | _=>false
def keptXW (h:WHeap) (v:AV) (L:List Nat):Bool:=keptV L v&&L.all fun b=>keptOW L (Pav.get h b)
def deepUW (f:Nat) (u:WUpd):WUpd:=if isDb f=true then [] else u
def deepKeepW (f:Nat) (h:WHeap) (v:AV):Option WHeap :=
 if isDb f=true then (if keptXW h v (reachW h frzDepth v)=true then some (h.filter fun x=>(reachW h frzDepth v).contains x.1) else none) else some h
def evCallW (C:WProg) (run:WRun) (f:Nat) (args:List AV) (h:WHeap) (nid n:Nat):Option WCalled :=
 if C.inl f then (if isFr f then ob (mapO (frzW h frzDepth) args) fun az=>if isDp f then ob (run f az [] n) fun r=>om (deepKeepW f r.2.1 r.1) fun hk=>.deep r.1 (deepUW f (markFrozenW h (args.flatMap (reachW h frzDepth)))) (upsW n hk) r.2.2 else ob (freshCallW run f az nid) (freshEndW f (markFrozenW h (args.flatMap (reachW h frzDepth))))
  else om (run f args h n) fun r=>.whole r.1 r.2.1 r.2.2)
 else if (!C.pp f&&hasPtrL args)=true then om (run f args h n) fun r=>.whole r.1 r.2.1 r.2.2
 else ob (mapO (frzW h frzDepth) args) fun az=>om (pureCallW run f az) fun v=>.data v (marksW h args v)
structure WDid where
 v:AV
 h:WHeap
 n:Nat
 bar:Bool
 rd:List Nat
 wr:List Nat
def doneCallW (h:WHeap) (n:Nat) (args:List AV):WCalled→WDid
 | .data v u=>⟨v,applyW h u,n,false,args.flatMap (reachW h frzDepth),u.map (·.1)⟩
 | .whole v h' n'=>⟨v,h',n',true,[],[]⟩
 | .deep v mk u n'=>⟨v,applyW (applyW h mk) u,n',true,args.flatMap (reachW h frzDepth),n::mk.map (·.1)⟩
def evActW (C:WProg) (run:WRun) (op:COp) (nid:Nat) (e:Env) (h:WHeap) (n:Nat):Option WDid :=
 match callOf e op with
 | none=>none
 | some (some (f,args))=>om (evCallW C run f args h nid n) (doneCallW h n args)
 | some none=>om (stepW op e h nid) fun x=>⟨x.1,applyW h x.2,n,false,readsOf e op,x.2.map (·.1)⟩
def evOpW (C:WProg) (run:WRun) (o:COper) (nid:Nat) (e:Env) (h:WHeap) (n:Nat):Option WDid :=
 match wants e o.guard with
 | none=>none
 | some false=>some ⟨.tup [],h,n,false,[],[]⟩
 | some true=>evActW C run o.op nid e h n
def evOpsW (C:WProg) (run:WRun):List COper→WSt→Option WSt
 | [],s=>some s
 | o::r,s=>ob (evOpW C run o s.next s.env s.heap (s.next+1)) fun d=>evOpsW C run r ⟨setD s.env o.dst d.v,d.h,d.n⟩
def quietW (d:WDid):Bool:=!d.bar&&(d.wr.isEmpty&&d.rd.isEmpty)
def hitL (rd wr rd' wr':List Nat):Bool :=
 match wr with
 | []=>true
 | k::w=>(rd'++wr').any (fun c=>decide (k≤c))||(meets w wr'||(meets w rd'||meets rd wr'))
def clashW (a b:WDid):Bool:=!(quietW a||quietW b)&&(if a.bar=true then b.bar||hitL a.rd a.wr b.rd b.wr else if b.bar=true then hitL b.rd b.wr a.rd a.wr else (meets a.wr b.wr||(meets a.wr b.rd||meets a.rd b.wr)))
def evDrawW (C:WProg) (run:WRun):List COper→Nat→WSt→List WDid→Option (WSt × List WDid)
 | [],_,s,ds=>some (s,ds)
 | o::r,nid,s,ds=>ob (evOpW C run o nid s.env s.heap s.next) fun d=>evDrawW C run r (nid+1) ⟨setD s.env o.dst d.v,d.h,d.n⟩ (ds++[d])
def apartW (ds:List WDid) (p:Nat × Nat):Bool :=
 match ds[p.1]?,ds[p.2]? with
 | some a,some b=>!clashW a b
 | _,_=>false
def resOfW (e:Env) (h:WHeap):CRes→Option AV
 | .tmp t=>Pav.get e t
 | .cell t n ag=>match Pav.get e t with
  | some (.ptr b i o)=>wLoadAt n ag o i (Pav.get h b)
  | _=>none
def resultsW (e:Env) (h:WHeap) (rs:List CRes):Option AV:=om (mapO (resOfW e h) rs) tupled
def fnEndW (res:List CRes) (r:Ex × WSt):Option (AV × WHeap × Nat) :=
 match r.1 with
 | .exit _=>none
 | _=>om (resultsW r.2.env r.2.heap res) fun v=>(v,r.2.heap,r.2.next)
abbrev WEv:=Nat→WCode→WSt→Option (Ex × WSt)
def runWithW (C:WProg) (ev:WEv):WRun:=fun f args h n =>
 ob (C.fns.get f) fun fn=>if args.length=fn.np then ob (ev n fn.body ⟨argW 0 args [],h,n⟩) (fnEndW fn.res) else none
def evSeqW (b:WSt→Option (Ex × WSt)) (r:Ex × WSt):Option (Ex × WSt) :=
 match r.1 with
 | .norm=>b r.2
 | _=>some r
def evBlockW (base id:Nat) (a:Ann) (r:Ex × WSt):Option (Ex × WSt) :=
 match r.1 with
 | .norm=>om (canon base a r.2) fun s=>(.norm,s)
 | .exit i=>if i=id then om (canon base a r.2) fun s=>(.norm,s) else some r
 | .ret=>some r
def evCondW (a b:WSt→Option (Ex × WSt)) (v:AV) (s:WSt):Option (Ex × WSt) :=
 match v with
 | .bool t=>if t then a s else b s
 | _=>none
def drawEndW (base:Nat) (un:List (Nat × Nat)) (a:Ann) (r:WSt × List WDid):Option (Ex × WSt) :=
 if un.all (apartW r.2)=true then om (canonF base a r.1) fun s=>(.norm,s) else none
def snapOpW (e:Env) (h:WHeap):COp→Option AV
 | .app z bytes zeros s x=>if zeros=true∨frzBytes≤bytes then none else ob (wElems h z.length (x.ev e)) fun xs=>if xs.2=true then snapOfW h z.length bytes xs.1 (s.ev e) else none
 | _=>none
def evSnapW (o:COper) (e:Env) (h:WHeap):Option AV :=
 match wants e o.guard with
 | some true=>snapOpW e h o.op
 | _=>none
def isoEnvW (e2:Env):List Nat→Env→Env
 | [],e=>e
 | k::r,e=>isoEnvW e2 r (putE e k (isoVal e2 k))
def evIsoW (C:WProg) (run:WRun) (pre:List COper) (ap:COper) (post:List COper) (s:WSt):Option WSt :=
 if lastOk ap post=true then
  ob (evOpsW C run pre s) fun s1=>ob (evSnapW ap s1.env s1.heap) fun v=>om (evOpsW C run post ⟨setD s1.env ap.dst v,[],s1.next⟩) fun s2 =>
   ⟨isoEnvW s2.env ((ap::post).filterMap (·.dst)) s1.env,s1.heap,s2.next⟩
 else none
def evW (C:WProg):Nat→WEv
 | 0,_,_,_=>none
 | n+1,base,c,s =>
  match c with
  | .skip=>some (.norm,s)
  | .ops l a=>ob (evOpsW C (runWithW C (evW C n)) l s) fun s=>om (canonF base a s) fun s=>(.norm,s)
  | .draw l un a=>ob (evDrawW C (runWithW C (evW C n)) l s.next ⟨s.env,s.heap,s.next+l.length⟩ []) (drawEndW base un a)
  | .seq a b=>ob (evW C n base a s) (evSeqW (evW C n base b))
  | .cond c a b=>evCondW (evW C n base a) (evW C n base b) (c.ev s.env) s
  | .block id b a=>ob (evW C n base b s) (evBlockW base id a)
  | .loop a b=>ob (canon base a s) fun s=>ob (evW C n base b s) (evSeqW (evW C n base (.loop a b)))
  | .exit id=>some (.exit id,s)
  | .ret=>some (.ret,s)
  | .fail=>none
  | .prim k=>om (primF k (primArgs (primN k) 0 s.env)) fun v=>(.ret,⟨putE s.env 9 v,s.heap,s.next⟩)
  | .iso pre ap post a=>ob (evIsoW C (runWithW C (evW C n)) pre ap post s) fun s=>om (canonF base a s) fun s=>(.norm,s)
  | .cln zz z b=>match (Pav.get s.env 0).bind isEmptyRo with
   | some z'=>if z'=z∧zz.length=z∧8≤n then some (.ret,⟨[(2,.sl s.next z 0 0 0 true)],Pav.put s.heap s.next (.cells z [] true true),s.next+1⟩) else none
   | none=>evW C n base (clnC zz z b) s
def runW (C:WProg) (n:Nat):WRun:=runWithW C (evW C n)
def callW (C:WProg) (n:Nat) (f:Nat) (args:List AV):Option AV:=pureCallW (runW C n) f args
mutual
def er:AV→AV
 | .ro z es ex=>(match es,ex with
  | [],true=>.nils
  | es,ex=>.ro z es ex)
 | .agg cs=>.agg (erL cs)
 | .fn f cs=>.fn f (erL cs)
 | .tup cs=>.tup (erL cs)
 | v=>v
def erL:List AV→List AV
 | []=>[]
 | v::r=>er v::erL r
end
def erO:Opd→Opd
 | .t s=>.t s
 | .c v=>.c (er v)
def erOp:COp→COp
 | .mv x=>.mv (erO x)
 | .pick c a b=>.pick (erO c) (erO a) (erO b)
 | .alloc z=>.alloc (erL z)
 | .box x=>.box (erO x)
 | .build z ps=>.build (erL z) (ps.map fun p=>(p.1,p.2.1,erO p.2.2))
 | .buildS z len ps=>.buildS (erL z) len (ps.map fun p=>(p.1,erO p.2))
 | .load n ag a=>.load n ag (erO a)
 | .store n a x=>.store n (erO a) (erO x)
 | .nilchk x=>.nilchk (erO x)
 | .bin op x y=>.bin op (erO x) (erO y)
 | .eqv kd ks ne x y=>.eqv kd ks ne (erO x) (erO y)
 | .un op x=>.un op (erO x)
 | .cvt k x=>.cvt k (erO x)
 | .cvs x=>.cvs (erO x)
 | .cvb x=>.cvb (erO x)
 | .mkfn f caps=>.mkfn f (caps.map erO)
 | .mkmap=>.mkmap
 | .mksl z bytes l c=>.mksl (erL z) bytes (erO l) (erO c)
 | .slice z x lo hi mx=>.slice z (erO x) (lo.map erO) (hi.map erO) (mx.map erO)
 | .sliceA n x lo hi=>.sliceA n (erO x) (lo.map erO) (hi.map erO)
 | .fld off x=>.fld off (erO x)
 | .fldv off n ag x=>.fldv off n ag (erO x)
 | .idxs z x i=>.idxs z (erO x) (erO i)
 | .idxa len z x i=>.idxa len z (erO x) (erO i)
 | .idxstr x i=>.idxstr (erO x) (erO i)
 | .idxv len z ag x i=>.idxv len z ag (erO x) (erO i)
 | .look kd z ok m k=>.look kd (er z) ok (erO m) (erO k)
 | .upd kd m k v=>.upd kd (erO m) (erO k) (erO v)
 | .range x=>.range (erO x)
 | .next x=>.next (erO x)
 | .ext i x=>.ext i (erO x)
 | .call f args=>.call f (args.map erO)
 | .callv g args=>.callv (erO g) (args.map erO)
 | .len kd x=>.len kd (erO x)
 | .cap x=>.cap (erO x)
 | .app z bytes zeros s x=>.app (erL z) bytes zeros (erO s) (erO x)
 | .cpy z d s=>.cpy z (erO d) (erO s)
 | .clr z d=>.clr (erL z) (erO d)
 | .mx x y=>.mx (erO x) (erO y)
 | .mn x y=>.mn (erO x) (erO y)
 | .fail=>.fail
def erOper (o:COper):COper:=⟨o.dst,o.guard,erOp o.op⟩
def erC:WCode→CCode
 | .skip=>.skip
 | .ops l a=>.ops (l.map erOper) (maskOf a,frzOf a.grow)
 | .draw l un a=>.draw (l.map erOper) un (maskOf a,frzOf a.grow)
 | .seq a b=>.seq (erC a) (erC b)
 | .cond c a b=>.cond (erO c) (erC a) (erC b)
 | .block id b _=>.block id (erC b)
 | .loop a b=>.loop (maskOf a) (erC b)
 | .exit id=>.exit id
 | .ret=>.ret
 | .fail=>.fail
 | .cln zz _ b=>clnE (erL zz) b
 | .prim k=>.prim k
 | .iso pre ap post a=>.iso (pre.map erOper) (erOper ap) (post.map erOper) (maskOf a,frzOf a.grow)
def primW (k:Nat):WFn:=⟨primN k,[.tmp 9],.prim k⟩
def erFn (f:WFn):CFn:=⟨f.np,f.res,erC f.body⟩
def erTree:WTree→Tree
 | .leaf=>.leaf
 | .node l k f r=>.node (erTree l) k (erFn f) (erTree r)
def erProg (C:WProg):Prog:=⟨erTree C.fns,C.inl,C.pp⟩
mutual
/-- A constant that has its like. -/
def okV:AV→Bool
 | .ptr _ _ _=>false
 | .sl _ _ _ _ _ _=>false
 | .map _=>false
 | .rop _=>false
 | .undef=>false
 | .ro _ es _=>es.isEmpty
 | .fn _ cs=>okL cs
 | .agg cs=>okL cs
 | .tup cs=>okL cs
 | _=>true
def okL:List AV→Bool
 | []=>true
 | v::r=>okV v&&okL r
end
def okO:Opd→Bool
 | .t _=>true
 | .c v=>okV v
def okOp:COp→Bool
 | .mv x | .box x | .load _ _ x | .nilchk x | .un _ x | .cvt _ x | .cvs x | .cvb x | .fld _ x | .fldv _ _ _ x | .range x | .next x | .ext _ x | .len _ x | .cap x=>okO x
 | .pick c a b | .upd _ c a b=>okO c&&(okO a&&okO b)
 | .alloc z=>okL z
 | .build z ps=>okL z&&ps.all fun p=>okO p.2.2
 | .buildS z _ ps=>okL z&&ps.all fun p=>okO p.2
 | .store _ a x | .bin _ a x | .eqv _ _ _ a x | .idxs _ a x | .idxa _ _ a x | .idxstr a x | .idxv _ _ _ a x | .cpy _ a x | .mx a x | .mn a x=>okO a&&okO x
 | .mkfn _ caps=>caps.all okO
 | .mksl z _ l c=>okL z&&(okO l&&okO c)
 | .sliceA _ x lo hi=>okO x&&((lo.map okO).getD true&&(hi.map okO).getD true)
 | .slice _ x lo hi mx=>okO x&&((lo.map okO).getD true&&((hi.map okO).getD true&&(mx.map okO).getD true))
 | .look _ z _ m k=>okV z&&(okO m&&okO k)
 | .call _ args=>args.all okO
 | .callv g args=>okO g&&args.all okO
 | .app z _ _ s x=>okL z&&(okO s&&okO x)
 | .clr z d=>okL z&&okO d
 | .mkmap | .fail=>true
def okC:WCode→Bool
 | .ops l _=>l.all fun o=>okOp o.op
 | .draw l _ _=>l.all fun o=>okOp o.op
 | .seq a b=>okC a&&okC b
 | .cond c a b=>okO c&&(okC a&&okC b)
 | .block _ b _=>okC b
 | .loop _ b=>okC b
 | .cln zz _ _=>okL zz
 | .iso pre ap post _=>(pre.all fun o=>okOp o.op)&&(okOp ap.op&&post.all fun o=>okOp o.op)
 | _=>true
def okTree:WTree→Bool
 | .leaf=>true
 | .node l _ f r=>okTree l&&(okC f.body&&okTree r)
end Go.Pw
end
section
set_option linter.unusedSimpArgs false
set_option linter.unusedVariables false
namespace Go.Pw
open Go Go.Pav
def Rel2 {α β:Type} (R:α→β→Prop) (l:List α) (l':List β):Prop:=l.length=l'.length∧∀ (j:Nat) (x:α) (x':β),l[j]?=some x→l'[j]?=some x'→R x x'
namespace Rel2
variable {α β:Type} {R R':α→β→Prop} {l m:List α} {l' m':List β}
theorem nil:Rel2 R [] []:=⟨rfl,fun j x x' h=>by simp at h⟩
theorem cons {a:α} {b:β} (h:R a b) (t:Rel2 R l l'):Rel2 R (a::l) (b::l'):=by
 refine ⟨by simp [t.1],fun j x x' h1 h2=>?_⟩
 cases j with
 | zero=>simp at h1 h2;subst h1;subst h2;exact h
 | succ j=>exact t.2 j x x' (by simpa using h1) (by simpa using h2)
theorem uncons {a:α} {b:β} (t:Rel2 R (a::l) (b::l')):R a b∧Rel2 R l l':=by
 refine ⟨t.2 0 a b (by simp) (by simp),by simpa using t.1,fun j x x' h1 h2=>t.2 (j+1) x x' (by simpa using h1) (by simpa using h2)⟩
theorem inv_nil (t:Rel2 R [] l'):l'=[]:=List.length_eq_zero_iff.1 t.1.symm
theorem inv_cons {a:α} (t:Rel2 R (a::l) l'):∃ b r,l'=b::r∧R a b∧Rel2 R l r:=by
 cases l' with
 | nil=>simp [Rel2] at t
 | cons b r=>exact ⟨b,r,rfl,t.uncons.1,t.uncons.2⟩
theorem mono (h:Rel2 R l l') (hr:∀ x x',x ∈ l→R x x'→R' x x'):Rel2 R' l l':=⟨h.1,fun j x x' h1 h2=>hr _ _ (List.mem_of_getElem? h1) (h.2 j x x' h1 h2)⟩
theorem get (h:Rel2 R l l') {j:Nat} {x:α} (hj:l[j]?=some x):∃ x',l'[j]?=some x'∧R x x':=by
 have hlt:j < l'.length:=by rw [← h.1];exact (List.getElem?_eq_some_iff.1 hj).1
 exact ⟨l'[j],List.getElem?_eq_getElem hlt,h.2 j x _ hj (List.getElem?_eq_getElem hlt)⟩
theorem get' (h:Rel2 R l l') {j:Nat} {x':β} (hj:l'[j]?=some x'):∃ x,l[j]?=some x∧R x x':=by
 have hlt:j < l.length:=by rw [h.1];exact (List.getElem?_eq_some_iff.1 hj).1
 exact ⟨l[j],List.getElem?_eq_getElem hlt,h.2 j _ x' (List.getElem?_eq_getElem hlt) hj⟩
theorem take (h:Rel2 R l l') (n:Nat):Rel2 R (l.take n) (l'.take n):=by
 refine ⟨by simp [h.1],fun j x x' h1 h2=>?_⟩
 rw [List.getElem?_take] at h1 h2
 split at h1
 · rename_i hj;rw [if_pos hj] at h2;exact h.2 j x x' h1 h2
 · cases h1
theorem drop (h:Rel2 R l l') (n:Nat):Rel2 R (l.drop n) (l'.drop n):=by
 refine ⟨by simp [h.1],fun j x x' h1 h2=>?_⟩
 rw [List.getElem?_drop] at h1 h2
 exact h.2 _ x x' h1 h2
theorem append (h:Rel2 R l l') (k:Rel2 R m m'):Rel2 R (l++m) (l'++m'):=by
 refine ⟨by simp [h.1,k.1],fun j x x' h1 h2=>?_⟩
 rw [List.getElem?_append] at h1 h2
 split at h1
 · rename_i hj;rw [if_pos (by rw [← h.1];exact hj)] at h2;exact h.2 j x x' h1 h2
 · rename_i hj;rw [if_neg (by rw [← h.1];exact hj),← h.1] at h2;exact k.2 _ x x' h1 h2
theorem set (h:Rel2 R l l') {n:Nat} {a:α} {b:β} (hab:R a b):Rel2 R (l.set n a) (l'.set n b):=by
 refine ⟨by simp [h.1],fun j x x' h1 h2=>?_⟩
 rw [List.getElem?_set] at h1 h2
 split at h1
 · rename_i hj
   rw [if_pos hj] at h2
   split at h1
   · cases h1
     split at h2
     · cases h2;exact hab
     · cases h2
   · cases h1
 · rename_i hj;rw [if_neg hj] at h2;exact h.2 j x x' h1 h2
theorem replicate {a:α} {b:β} (hab:R a b) (n:Nat):Rel2 R (List.replicate n a) (List.replicate n b):=by
 refine ⟨by simp,fun j x x' h1 h2=>?_⟩
 rw [List.getElem?_replicate] at h1 h2
 split at h1
 · rename_i hj;rw [if_pos hj] at h2;cases h1;cases h2;exact hab
 · cases h1
theorem map {γ δ:Type} {T:γ→δ→Prop} {f:α→γ} {g:β→δ} (h:Rel2 R l l') (hf:∀ x x',R x x'→T (f x) (g x')):Rel2 T (l.map f) (l'.map g):=by
 refine ⟨by simp [h.1],fun j x x' h1 h2=>?_⟩
 rw [List.getElem?_map] at h1 h2
 cases h3:l[j]? with
 | none=>rw [h3] at h1;cases h1
 | some a =>
  cases h4:l'[j]? with
  | none=>rw [h4] at h2;cases h2
  | some b=>rw [h3] at h1;rw [h4] at h2;cases h1;cases h2;exact hf _ _ (h.2 j a b h3 h4)
end Rel2
inductive VW (ρ:Nat→Nat) (V:Nat→Prop):(Nat→Prop)→AV→AV→Prop
 | undef {A:Nat→Prop} (v:AV):VW ρ V A .undef v
 | bool {A:Nat→Prop} (b:Bool):VW ρ V A (.bool b) (.bool b)
 | int {A:Nat→Prop} (k:IntKind) (n:Int):VW ρ V A (.int k n) (.int k n)
 | str {A:Nat→Prop} (s:List UInt8):VW ρ V A (.str s) (.str s)
 | nilp {A:Nat→Prop}:VW ρ V A .nilp .nilp
 | nils {A:Nat→Prop}:VW ρ V A .nils .nils
 | nilm {A:Nat→Prop}:VW ρ V A .nilm .nilm
 | nilf {A:Nat→Prop}:VW ρ V A .nilf .nilf
 | ronil {A:Nat→Prop} (z:Nat) (ex:Bool):VW ρ V A (.ro z [] ex) .nils
 | ro {A:Nat→Prop} (z:Nat) (es es':List (List AV)) (ex ex':Bool) (hc:∀ e ∈ es,∀ x ∈ e,isC x=true) (hl:es.length=es'.length) (hx:ex=true→ex'=true)
  (he:∀ (i:Nat) (e e':List AV),es[i]?=some e→es'[i]?=some e'→e.length=e'.length)
  (hr:∀ (i:Nat) (e e':List AV) (j:Nat) (x x':AV),es[i]?=some e→es'[i]?=some e'→e[j]?=some x→e'[j]?=some x'→VW ρ V (fun _=>False) x x') :
  VW ρ V A (.ro z es ex) (.ro z es' ex')
 | rop {A:Nat→Prop} (cs cs':List AV) (hl:cs.length=cs'.length) (hr:∀ (j:Nat) (x x':AV),cs[j]?=some x→cs'[j]?=some x'→VW ρ V (fun _=>False) x x') :
  VW ρ V A (.rop cs) (.rop cs')
 | ptr {A:Nat→Prop} (b i o:Nat) (hA:A b) (hV:¬ V b):VW ρ V A (.ptr b i o) (.ptr (ρ b) i o)
 | sl {A:Nat→Prop} (b z i len cap:Nat) (ex ex':Bool) (hA:A b) (hV:¬ V b) (hx:ex=true→ex'=true):VW ρ V A (.sl b z i len cap ex) (.sl (ρ b) z i len cap ex')
 | slv {A:Nat→Prop} (b z:Nat) (ex:Bool) (v:AV) (hA:A b) (hV:V b) (hv:v=.nils∨v=.ro z [] true):VW ρ V A (.sl b z 0 0 0 ex) v
 | map {A:Nat→Prop} (b:Nat) (hA:A b) (hV:¬ V b):VW ρ V A (.map b) (.map (ρ b))
 | fn {A:Nat→Prop} (f:Nat) (cs cs':List AV) (hl:cs.length=cs'.length) (hr:∀ (j:Nat) (x x':AV),cs[j]?=some x→cs'[j]?=some x'→VW ρ V A x x'):VW ρ V A (.fn f cs) (.fn f cs')
 | agg {A:Nat→Prop} (cs cs':List AV) (hl:cs.length=cs'.length) (hr:∀ (j:Nat) (x x':AV),cs[j]?=some x→cs'[j]?=some x'→VW ρ V A x x'):VW ρ V A (.agg cs) (.agg cs')
 | tup {A:Nat→Prop} (cs cs':List AV) (hl:cs.length=cs'.length) (hr:∀ (j:Nat) (x x':AV),cs[j]?=some x→cs'[j]?=some x'→VW ρ V A x x'):VW ρ V A (.tup cs) (.tup cs')
abbrev VD (ρ:Nat→Nat) (V:Nat→Prop):AV→AV→Prop:=VW ρ V (fun _=>False)
section
variable {ρ ρ':Nat→Nat} {V V' A A':Nat→Prop}
theorem VW.mono {v u:AV} (h:VW ρ V A v u):∀ {A':Nat→Prop},(∀ b,A b→A' b∧ρ' b=ρ b∧(V' b↔V b))→VW ρ' V' A' v u:=by
 induction h with
 | undef v=>intro A' _;exact .undef v
 | bool b=>intro A' _;exact .bool b
 | int k n=>intro A' _;exact .int k n
 | str s=>intro A' _;exact .str s
 | nilp=>intro A' _;exact .nilp
 | nils=>intro A' _;exact .nils
 | nilm=>intro A' _;exact .nilm
 | nilf=>intro A' _;exact .nilf
 | ronil z ex=>intro A' _;exact .ronil z ex
 | ro z es es' ex ex' hc hl hx he _ ih=>intro A' _;exact .ro z es es' ex ex' hc hl hx he fun i e e' j x x' h1 h2 h3 h4=>ih i e e' j x x' h1 h2 h3 h4 fun _ h=>h.elim
 | rop cs cs' hl _ ih=>intro A' _;exact .rop cs cs' hl fun j x x' h1 h2=>ih j x x' h1 h2 fun _ h=>h.elim
 | ptr b i o hA hV=>intro A' h;obtain ⟨h1,h2,h3⟩:=h b hA;rw [← h2];exact .ptr b i o h1 (fun q=>hV (h3.1 q))
 | sl b z i len cap ex ex' hA hV hx=>intro A' h;obtain ⟨h1,h2,h3⟩:=h b hA;rw [← h2];exact .sl b z i len cap ex ex' h1 (fun q=>hV (h3.1 q)) hx
 | slv b z ex v hA hV hv=>intro A' h;obtain ⟨h1,h2,h3⟩:=h b hA;exact .slv b z ex v h1 (h3.2 hV) hv
 | map b hA hV=>intro A' h;obtain ⟨h1,h2,h3⟩:=h b hA;rw [← h2];exact .map b h1 (fun q=>hV (h3.1 q))
 | fn f cs cs' hl _ ih=>intro A' h;exact .fn f cs cs' hl fun j x x' h1 h2=>ih j x x' h1 h2 h
 | agg cs cs' hl _ ih=>intro A' h;exact .agg cs cs' hl fun j x x' h1 h2=>ih j x x' h1 h2 h
 | tup cs cs' hl _ ih=>intro A' h;exact .tup cs cs' hl fun j x x' h1 h2=>ih j x x' h1 h2 h
theorem VW.data {v u:AV} (h:VD ρ V v u):VW ρ' V' A' v u:=h.mono fun _ q=>q.elim
theorem VW.int_inv {k:IntKind} {n:Int} {u:AV} (h:VW ρ V A (.int k n) u):u=.int k n:=by cases h;rfl
theorem VW.bool_inv {b:Bool} {u:AV} (h:VW ρ V A (.bool b) u):u=.bool b:=by cases h;rfl
theorem VW.str_inv {s:List UInt8} {u:AV} (h:VW ρ V A (.str s) u):u=.str s:=by cases h;rfl
theorem VW.agg_inv {cs:List AV} {u:AV} (h:VW ρ V A (.agg cs) u):∃ cs',u=.agg cs'∧Rel2 (VW ρ V A) cs cs':=by
 cases h with | agg _ cs' hl hr=>exact ⟨cs',rfl,hl,hr⟩
theorem VW.tup_inv {cs:List AV} {u:AV} (h:VW ρ V A (.tup cs) u):∃ cs',u=.tup cs'∧Rel2 (VW ρ V A) cs cs':=by
 cases h with | tup _ cs' hl hr=>exact ⟨cs',rfl,hl,hr⟩
theorem VW.fn_inv {f:Nat} {cs:List AV} {u:AV} (h:VW ρ V A (.fn f cs) u):∃ cs',u=.fn f cs'∧Rel2 (VW ρ V A) cs cs':=by
 cases h with | fn _ _ cs' hl hr=>exact ⟨cs',rfl,hl,hr⟩
theorem VW.rop_inv {cs:List AV} {u:AV} (h:VW ρ V A (.rop cs) u):∃ cs',u=.rop cs'∧Rel2 (VD ρ V) cs cs':=by
 cases h with | rop _ cs' hl hr=>exact ⟨cs',rfl,⟨hl,hr⟩⟩
theorem VW.ptr_inv {b i o:Nat} {u:AV} (h:VW ρ V A (.ptr b i o) u):u=.ptr (ρ b) i o∧A b∧¬ V b:=by
 cases h with | ptr _ _ _ hA hV=>exact ⟨rfl,hA,hV⟩
theorem VW.map_inv {b:Nat} {u:AV} (h:VW ρ V A (.map b) u):u=.map (ρ b)∧A b∧¬ V b:=by
 cases h with | map _ hA hV=>exact ⟨rfl,hA,hV⟩
theorem VW.ro_inv {z:Nat} {es:List (List AV)} {ex:Bool} {u:AV} (h:VW ρ V A (.ro z es ex) u) :
 (es=[]∧u=.nils)∨∃ es' ex',u=.ro z es' ex'∧(ex=true→ex'=true)∧Rel2 (Rel2 (VD ρ V)) es es'∧∀ e ∈ es,∀ x ∈ e,isC x=true:=by
 cases h with
 | ronil=>exact .inl ⟨rfl,rfl⟩
 | ro _ _ es' _ ex' hc hl hx he hr=>exact .inr ⟨es',ex',rfl,hx,⟨hl,fun i e e' h1 h2=>⟨he i e e' h1 h2,fun j x x' h3 h4=>hr i e e' j x x' h1 h2 h3 h4⟩⟩,hc⟩
theorem VW.sl_inv {b z i len cap:Nat} {ex:Bool} {u:AV} (h:VW ρ V A (.sl b z i len cap ex) u) :
 (A b∧¬ V b∧∃ ex',u=.sl (ρ b) z i len cap ex'∧(ex=true→ex'=true))∨(A b∧V b∧i=0∧len=0∧cap=0∧(u=.nils∨u=.ro z [] true)):=by
 cases h with
 | sl _ _ _ _ _ _ ex' hA hV hx=>exact .inl ⟨hA,hV,ex',rfl,hx⟩
 | slv _ _ _ _ hA hV hv=>exact .inr ⟨hA,hV,rfl,rfl,rfl,hv⟩
theorem VW.mkro {z:Nat} {es es':List (List AV)} {ex ex':Bool} (h:Rel2 (Rel2 (VD ρ V)) es es') (hc:∀ e ∈ es,∀ x ∈ e,Pw.isC x=true) (hx:ex=true→ex'=true):VW ρ V A (.ro z es ex) (.ro z es' ex') :=
 .ro z es es' ex ex' hc h.1 hx (fun i e e' h1 h2=>(h.2 i e e' h1 h2).1) fun i e e' j x x' h1 h2 h3 h4=>(h.2 i e e' h1 h2).2 j x x' h3 h4
theorem VW.mkrop {cs cs':List AV} (h:Rel2 (VD ρ V) cs cs'):VW ρ V A (.rop cs) (.rop cs'):=.rop cs cs' h.1 h.2
theorem VW.mkagg {cs cs':List AV} (h:Rel2 (VW ρ V A) cs cs'):VW ρ V A (.agg cs) (.agg cs'):=.agg cs cs' h.1 h.2
theorem VW.mktup {cs cs':List AV} (h:Rel2 (VW ρ V A) cs cs'):VW ρ V A (.tup cs) (.tup cs'):=.tup cs cs' h.1 h.2
theorem VW.mkfn {f:Nat} {cs cs':List AV} (h:Rel2 (VW ρ V A) cs cs'):VW ρ V A (.fn f cs) (.fn f cs'):=.fn f cs cs' h.1 h.2
theorem VW.isC {v u:AV} (h:VW ρ V A v u) (hc:isC v=true):VW ρ' V' A' v u:=by
 cases h with
 | fn f cs cs' hl hr =>
  cases cs with
  | nil=>exact .fn f [] cs' hl fun j x x' h1=>by simp at h1
  | cons a r=>simp [Pw.isC] at hc
 | undef=>simp [Pw.isC] at hc
 | ptr=>simp [Pw.isC] at hc
 | sl=>simp [Pw.isC] at hc
 | slv=>simp [Pw.isC] at hc
 | map=>simp [Pw.isC] at hc
 | agg=>simp [Pw.isC] at hc
 | tup=>simp [Pw.isC] at hc
 | bool b=>exact .bool b
 | int k n=>exact .int k n
 | str s=>exact .str s
 | nilp=>exact .nilp
 | nils=>exact .nils
 | nilm=>exact .nilm
 | nilf=>exact .nilf
 | ronil z ex=>exact .ronil z ex
 | ro z es es' ex ex' hc2 hl hx he hr=>exact .ro z es es' ex ex' hc2 hl hx he fun i e e' j x x' h1 h2 h3 h4=>(hr i e e' j x x' h1 h2 h3 h4).data
 | rop cs cs' hl hr=>exact .rop cs cs' hl fun j x x' h1 h2=>(hr j x x' h1 h2).data
theorem VW.isD {v u:AV} (h:VW ρ V A v u) (hc:isD v=true):VW ρ' V' A' v u:=by
 cases h with
 | agg cs cs' hl hr =>
  simp only [Pw.isD,List.all_eq_true] at hc
  exact .agg cs cs' hl fun j x x' h1 h2=>(hr j x x' h1 h2).isC (hc x (List.mem_of_getElem? h1))
 | undef _=>exact .undef _
 | fn f cs cs' hl hr=>exact (VW.fn f cs cs' hl hr:VW ρ V A _ _).isC hc
 | ptr=>simp [Pw.isD,Pw.isC] at hc
 | sl=>simp [Pw.isD,Pw.isC] at hc
 | slv=>simp [Pw.isD,Pw.isC] at hc
 | map=>simp [Pw.isD,Pw.isC] at hc
 | tup=>simp [Pw.isD,Pw.isC] at hc
 | bool b=>exact .bool b
 | int k n=>exact .int k n
 | str s=>exact .str s
 | nilp=>exact .nilp
 | nils=>exact .nils
 | nilm=>exact .nilm
 | nilf=>exact .nilf
 | ronil z ex=>exact .ronil z ex
 | ro z es es' ex ex' hc2 hl hx he hr=>exact .ro z es es' ex ex' hc2 hl hx he fun i e e' j x x' h1 h2 h3 h4=>(hr i e e' j x x' h1 h2 h3 h4).data
 | rop cs cs' hl hr=>exact .rop cs cs' hl fun j x x' h1 h2=>(hr j x x' h1 h2).data
theorem VW.cell {v u:AV} (h:VW ρ V A v u) (hc:v.cell=true):u.cell=true:=by
 cases h with
 | slv b z ex w hA hV hv=>rcases hv with e | e <;> subst e <;> rfl
 | undef=>simp [AV.cell] at hc
 | agg=>simp [AV.cell] at hc
 | tup=>simp [AV.cell] at hc
 | _=>rfl
theorem cell_cells {v:AV} (hc:v.cell=true):v.cells=[v]:=by
 cases v <;> simp_all [AV.cell,AV.cells]
theorem VW.cells {v u:AV} (h:VW ρ V A v u) (hc:v.cells.all AV.cell=true):Rel2 (VW ρ V A) v.cells u.cells∧u.cells.all AV.cell=true:=by
 have one:∀ {v u:AV},VW ρ V A v u→v.cell=true→Rel2 (VW ρ V A) v.cells u.cells∧u.cells.all AV.cell=true:=by
  intro v u h hc
  rw [cell_cells hc,cell_cells (h.cell hc)]
  exact ⟨.cons h .nil,by simp [h.cell hc]⟩
 cases hv:v with
 | agg cs =>
  subst hv
  obtain ⟨cs',rfl,hr⟩:=h.agg_inv
  refine ⟨hr,?_⟩
  simp only [AV.cells,List.all_eq_true] at hc ⊢
  intro x' hx'
  obtain ⟨j,hj,e⟩:=List.getElem_of_mem hx'
  obtain ⟨x,h1,h2⟩:=hr.get' (List.getElem?_eq_getElem hj)
  rw [e] at h2
  exact h2.cell (hc x (List.mem_of_getElem? h1))
 | undef=>subst hv;simp [AV.cells,AV.cell] at hc
 | tup cs=>subst hv;simp [AV.cells,AV.cell] at hc
 | _=>subst hv;exact one h rfl
end
def OW (ρ:Nat→Nat) (V A:Nat→Prop):WObj→AObj→Prop
 | .cells z es mu dt,o=>∃ es' mu',o=.cells z es' mu'∧(mu=true→mu'=true)∧Rel2 (Rel2 (VW ρ V A)) es es'∧(dt=true→∀ e ∈ es,∀ x ∈ e,isC x=true)
 | .map es,o=>∃ es',o=.map es'∧Rel2 (fun (x y:AV × AV)=>x.1=y.1∧VD ρ V x.2 y.2) es es'
 | .iter s p,o=>o=.iter s p
def EW (ρ:Nat→Nat) (V A:Nat→Prop) (e:Env) (e':Env):Prop:=∀ k v,get e k=some v→∃ v',get e' k=some v'∧VW ρ V A v v'
structure HW (ρ:Nat→Nat) (V A:Nat→Prop) (h:WHeap) (h':Heap):Prop where
 dom:∀ b o,get h b=some o→A b
 virt:∀ b o,get h b=some o→V b→∃ z mu dt,o=.cells z [] mu dt
 obj:∀ b o,get h b=some o→¬ V b→∃ o',get h' (ρ b)=some o'∧OW ρ V A o o'
 sub:∀ b,V b→A b
 inj:∀ b c,A b→A c→¬ V b→¬ V c→ρ b=ρ c→b=c
section
variable {ρ ρ':Nat→Nat} {V V' A A':Nat→Prop}
theorem OW.mono {o:WObj} {o':AObj} (h:OW ρ V A o o') (hm:∀ b,A b→A' b∧ρ' b=ρ b∧(V' b↔V b)):OW ρ' V' A' o o':=by
 cases o with
 | cells z es mu dt =>
  obtain ⟨es',mu',h1,h2,h3,h4⟩:=h
  exact ⟨es',mu',h1,h2,h3.mono fun e e' _ he=>he.mono fun x x' _ hx=>hx.mono hm,h4⟩
 | map es =>
  obtain ⟨es',h1,h2⟩:=h
  exact ⟨es',h1,h2.mono fun x x' _ hx=>⟨hx.1,hx.2.data⟩⟩
 | iter s p=>exact h
theorem EW.mono {e e':Env} (h:EW ρ V A e e') (hm:∀ b,A b→A' b∧ρ' b=ρ b∧(V' b↔V b)):EW ρ' V' A' e e':=by
 intro k v hk
 obtain ⟨v',h1,h2⟩:=h k v hk
 exact ⟨v',h1,h2.mono hm⟩
theorem get_putE (l:Env) (n:Nat) (x:AV) (k:Nat):get (putE l n x) k=if n=k then some x else get l k:=by
 induction l with
 | nil=>simp [putE,Pav.get]
 | cons a r ih =>
  obtain ⟨j,v⟩:=a
  simp only [putE]
  by_cases h1:j < n
  · simp only [h1,if_true,Pav.get]
  · rw [if_neg h1]
    by_cases h2:j=n
    · subst h2
      simp only [if_true,Pav.get]
      by_cases h3:j=k <;> simp [h3]
    · simp only [h2,if_false,Pav.get,ih]
      by_cases h3:j=k
      · subst h3;simp [Ne.symm h2]
      · simp [h3]
theorem EW.put {e e':Env} (h:EW ρ V A e e') {d:Nat} {v v':AV} (hv:VW ρ V A v v'):EW ρ V A (putE e d v) (put e' d v'):=by
 intro k u hk
 rw [get_putE] at hk
 rw [get_put]
 split at hk
 · rename_i hd;cases hk;exact ⟨v',by rw [if_pos hd],hv⟩
 · rename_i hd;rw [if_neg hd];exact h k u hk
theorem EW.setDst {e e':Env} (h:EW ρ V A e e') {d:Option Nat} {v v':AV} (hv:VW ρ V A v v'):EW ρ V A (setD e d v) (setDst e' d v'):=by
 cases d with
 | none=>exact h
 | some d=>exact h.put hv
theorem okV_vw (v:AV):okV v=true→VW ρ V A v (er v):=by
 refine AV.rec (motive_1:=fun v=>okV v=true→VW ρ V A v (er v)) (motive_2:=fun _=>True) (motive_3:=fun l=>okL l=true→Rel2 (VW ρ V A) l (erL l))
  ?_ ?_ ?_ ?_ ?_ ?_ ?_ ?_ ?_ ?_ ?_ ?_ ?_ ?_ ?_ ?_ ?_ ?_ ?_ ?_ v
 · intro h;simp [okV] at h
 · intro b _;exact .bool b
 · intro k n _;exact .int k n
 · intro s _;exact .str s
 · intro _;exact .nilp
 · intro _;exact .nils
 · intro _;exact .nilm
 · intro _;exact .nilf
 · intro z es ex _ h
   simp only [okV,List.isEmpty_iff] at h
   subst h
   cases ex with
   | true=>exact .ronil z true
   | false=>exact VW.mkro .nil (fun _ h=>by cases h) id
 · intro cs _ h;simp [okV] at h
 · intro b i o h;simp [okV] at h
 · intro b z i len cap ex h;simp [okV] at h
 · intro b h;simp [okV] at h
 · intro f cs ih h;exact VW.mkfn (ih h)
 · intro cs ih h;exact VW.mkagg (ih h)
 · intro cs ih h;exact VW.mktup (ih h)
 · trivial
 · intros;trivial
 · intro _;exact .nil
 · intro v r ih1 ih2 h
   simp only [okL,Bool.and_eq_true] at h
   exact .cons (ih1 h.1) (ih2 h.2)
theorem okL_vw:∀ l:List AV,okL l=true→Rel2 (VW ρ V A) l (erL l):=by
 intro l
 induction l with
 | nil=>intro _;exact .nil
 | cons v r ih =>
  intro h
  simp only [okL,Bool.and_eq_true] at h
  exact .cons (okV_vw v h.1) (ih h.2)
theorem EW.opd {e e':Env} (h:EW ρ V A e e') {x:Opd} (hx:okO x=true):VW ρ V A (x.ev e) ((erO x).ev e'):=by
 cases x with
 | t s =>
  simp only [Opd.ev,erO]
  cases hg:get e s with
  | none=>exact .undef _
  | some v =>
   obtain ⟨v',h1,h2⟩:=h s v hg
   rw [h1];exact h2
 | c v=>exact okV_vw v hx
end
end Go.Pw
end
section
set_option linter.unusedSimpArgs false
set_option linter.unusedVariables false
namespace Go.Pw
open Go Go.Pav
def up (ρ:Nat→Nat) (n m:Nat):Nat→Nat:=fun b=>if b=n then m else ρ b
def addN (A:Nat→Prop) (n:Nat):Nat→Prop:=fun b=>A b∨b=n
def Ok2 (ρ:Nat→Nat) (V A:Nat→Prop) (n m:Nat) (h:WHeap) (h':Heap) (r:AV × WUpd) (r':AV × Upd):Prop :=
 VW (up ρ n m) V (addN A n) r.1 r'.1∧HW (up ρ n m) V (addN A n) (applyW h r.2) (applyUpd h' r'.2)∧∀ b ∈ r'.2.map (·.1),∃ c ∈ r.2.map (·.1),b=up ρ n m c∧¬ V c∧addN A n c
section
variable {ρ:Nat→Nat} {V A:Nat→Prop} {n m:Nat} {h:WHeap} {h':Heap} {e e':Env}
theorem up_mono (hn:¬ A n):∀ b,A b→addN A n b∧up ρ n m b=ρ b∧(V b↔V b):=by
 intro b hb
 refine ⟨.inl hb,?_,Iff.rfl⟩
 unfold up
 rw [if_neg]
 rintro rfl;exact hn hb
theorem HW.up (H:HW ρ V A h h') (hn:¬ A n) (hm:∀ b,A b→¬ V b→ρ b≠m):HW (up ρ n m) V (addN A n) h h':=by
 have hu:=up_mono (ρ:=ρ) (V:=V) (m:=m) hn
 refine ⟨fun b o hb=>.inl (H.dom b o hb),H.virt,fun b o hb hv=>?_,fun b hb=>.inl (H.sub b hb),?_⟩
 · obtain ⟨o',h1,h2⟩:=H.obj b o hb hv
   rw [(hu b (H.dom b o hb)).2.1]
   exact ⟨o',h1,h2.mono hu⟩
 · rintro b c (hb | rfl) (hc | rfl) vb vc hbc
   · rw [(hu b hb).2.1,(hu c hc).2.1] at hbc
     exact H.inj b c hb hc vb vc hbc
   · rw [(hu b hb).2.1] at hbc
     simp only [Pw.up,if_true] at hbc
     exact absurd hbc (hm b hb vb)
   · rw [(hu c hc).2.1] at hbc
     simp only [Pw.up,if_true] at hbc
     exact absurd hbc.symm (hm c hc vc)
   · rfl
theorem plain_ok (H:HW ρ V A h h') (hn:¬ A n) (hm:∀ b,A b→¬ V b→ρ b≠m) {v v':AV} (hv:VW ρ V A v v'):Ok2 ρ V A n m h h' (v,[]) (v',[]) :=
 ⟨hv.mono (up_mono hn),H.up hn hm,fun b hb=>by simp at hb⟩
theorem new_ok (H:HW ρ V A h h') (hn:¬ A n) (hm:∀ b,A b→¬ V b→ρ b≠m) {o:WObj} {o':AObj} (ho:OW (Pw.up ρ n m) V (addN A n) o o'):HW (Pw.up ρ n m) V (addN A n) (put h n o) (put h' m o'):=by
 have K:=H.up hn hm
 have hVn:¬ V n:=fun q=>hn (H.sub n q)
 have un:Pw.up ρ n m n=m:=by simp [Pw.up]
 refine ⟨fun b x hb=>?_,fun b x hb hv=>?_,fun b x hb hv=>?_,K.sub,K.inj⟩
 · rw [get_put] at hb
   split at hb
   · rename_i q;exact .inr q.symm
   · exact K.dom b x hb
 · rw [get_put] at hb
   split at hb
   · rename_i q;subst q;exact absurd hv hVn
   · exact K.virt b x hb hv
 · rw [get_put] at hb
   split at hb
   · rename_i q;cases hb;subst q
     refine ⟨o',?_,ho⟩
     rw [get_put,un,if_pos rfl]
   · rename_i q
     obtain ⟨x',h1,h2⟩:=K.obj b x hb hv
     refine ⟨x',?_,h2⟩
     rw [get_put,if_neg];exact h1
     exact fun q2=>q (K.inj n b (.inr rfl) (K.dom b x hb) hVn hv (un.trans q2))
theorem write_ok {ρ:Nat→Nat} {V A:Nat→Prop} {h:WHeap} {h':Heap} (H:HW ρ V A h h') {b:Nat} (hA:A b) (hV:¬ V b) {o:WObj} {o':AObj} (ho:OW ρ V A o o'):HW ρ V A (put h b o) (put h' (ρ b) o'):=by
 refine ⟨fun c x hc=>?_,fun c x hc hv=>?_,fun c x hc hv=>?_,H.sub,H.inj⟩
 · rw [get_put] at hc
   split at hc
   · rename_i q;subst q;exact hA
   · exact H.dom c x hc
 · rw [get_put] at hc
   split at hc
   · rename_i q;subst q;exact absurd hv hV
   · exact H.virt c x hc hv
 · rw [get_put] at hc
   split at hc
   · rename_i q;subst q;cases hc
     exact ⟨o',by rw [get_put,if_pos rfl],ho⟩
   · rename_i q
     obtain ⟨x',h1,h2⟩:=H.obj c x hc hv
     refine ⟨x',?_,h2⟩
     rw [get_put,if_neg];exact h1
     exact fun q2=>q (H.inj b c hA (H.dom c x hc) hV hv q2)
theorem del_ok {ρ:Nat→Nat} {V A:Nat→Prop} {h:WHeap} {h':Heap} (H:HW ρ V A h h') {b:Nat} (hA:A b) (hV:¬ V b):HW ρ V A (del h b) (del h' (ρ b)):=by
 refine ⟨fun c x hc=>?_,fun c x hc hv=>?_,fun c x hc hv=>?_,H.sub,H.inj⟩
 · rw [get_del] at hc
   split at hc
   · cases hc
   · exact H.dom c x hc
 · rw [get_del] at hc
   split at hc
   · cases hc
   · exact H.virt c x hc hv
 · rw [get_del] at hc
   split at hc
   · cases hc
   · rename_i q
     obtain ⟨x',h1,h2⟩:=H.obj c x hc hv
     refine ⟨x',?_,h2⟩
     rw [get_del,if_neg];exact h1
     exact fun q2=>q (H.inj b c hA (H.dom c x hc) hV hv q2)
theorem drop_ok {ρ:Nat→Nat} {V A:Nat→Prop} {h:WHeap} {h':Heap} (H:HW ρ V A h h') {b:Nat}:HW ρ V A (del h b) h':=by
 refine ⟨fun c x hc=>?_,fun c x hc hv=>?_,fun c x hc hv=>?_,H.sub,H.inj⟩
 all_goals
  rw [get_del] at hc
  split at hc
  · cases hc
  first
   | exact H.dom c x hc
   | exact H.virt c x hc hv
   | exact H.obj c x hc hv
end
section
variable {ρ:Nat→Nat} {V A:Nat→Prop}
theorem loadC_vw {cs cs':List AV} (hr:Rel2 (VW ρ V A) cs cs') {n:Nat} {ag:Bool} {v:AV} (hv:loadC n ag cs=some v):∃ v',loadC n ag cs'=some v'∧VW ρ V A v v':=by
 unfold loadC at hv ⊢
 split at hv
 · rename_i hag
   rw [if_pos hag]
   split at hv
   · rename_i hn
     cases hv
     rw [← hr.1,if_pos hn]
     exact ⟨_,rfl,VW.mkagg (hr.take n)⟩
   · cases hv
 · rename_i hag
   rw [if_neg hag]
   cases cs with
   | nil=>simp at hv
   | cons a r =>
    obtain ⟨b,r',rfl,h1,_⟩:=hr.inv_cons
    simp at hv;subst hv
    exact ⟨b,by simp,h1⟩
theorem splice_vw {cs cs' v v':List AV} (hr:Rel2 (VW ρ V A) cs cs') (hv:Rel2 (VW ρ V A) v v') (off:Nat):Rel2 (VW ρ V A) (splice cs off v) (splice cs' off v'):=by
 unfold splice
 rw [hv.1]
 exact (hr.take off).append (hv.append (hr.drop _))
theorem fillC_vw {e e':Env} (he:EW ρ V A e e'):∀ (ps:List (Nat × Nat × Opd)) (cs cs' r:List AV),(ps.all fun p=>okO p.2.2)=true→Rel2 (VW ρ V A) cs cs'→fillC e cs ps=some r →
 ∃ r',fillC e' cs' (ps.map fun p=>(p.1,p.2.1,erO p.2.2))=some r'∧Rel2 (VW ρ V A) r r':=by
 intro ps
 induction ps with
 | nil=>intro cs cs' r _ hr h;simp only [fillC,Option.some.injEq] at h;subst h;exact ⟨cs',rfl,hr⟩
 | cons p ps ih =>
  intro cs cs' r hok hr h
  obtain ⟨off,n,x⟩:=p
  simp only [List.all_cons,Bool.and_eq_true] at hok
  simp only [fillC] at h
  split at h
  · rename_i hc
    obtain ⟨h1,h2⟩:=(he.opd hok.1).cells hc.2.2
    obtain ⟨r',h3,h4⟩:=ih _ _ r hok.2 (splice_vw hr h1 off) h
    refine ⟨r',?_,h4⟩
    simp only [List.map_cons,fillC]
    rw [if_pos ⟨by rw [← h1.1];exact hc.1,by rw [← hr.1];exact hc.2.1,h2⟩]
    exact h3
  · cases h
theorem fillS_vw {e e':Env} (he:EW ρ V A e e') (z:Nat):∀ (ps:List (Nat × Opd)) (es es' r:List (List AV)),(ps.all fun p=>okO p.2)=true→Rel2 (Rel2 (VW ρ V A)) es es'→fillS e z es ps=some r →
 ∃ r',fillS e' z es' (ps.map fun p=>(p.1,erO p.2))=some r'∧Rel2 (Rel2 (VW ρ V A)) r r':=by
 intro ps
 induction ps with
 | nil=>intro cs cs' r _ hr h;simp only [fillS,Option.some.injEq] at h;subst h;exact ⟨cs',rfl,hr⟩
 | cons p ps ih =>
  intro cs cs' r hok hr h
  obtain ⟨i,x⟩:=p
  simp only [List.all_cons,Bool.and_eq_true] at hok
  simp only [fillS] at h
  split at h
  · rename_i hc
    obtain ⟨h1,h2⟩:=(he.opd hok.1).cells hc.2.2
    obtain ⟨r',h3,h4⟩:=ih _ _ r hok.2 (hr.set h1) h
    refine ⟨r',?_,h4⟩
    simp only [List.map_cons,fillS]
    rw [if_pos ⟨by rw [← h1.1];exact hc.1,by rw [← hr.1];exact hc.2.1,h2⟩]
    exact h3
  · cases h
theorem evBin_vw {op:BinOp} {x y x' y' v:AV} (hx:VW ρ V A x x') (hy:VW ρ V A y y') (h:evBin op x y=some v):evBin op x' y'=some v∧VW ρ V A v v:=by
 have binInt_leaf:∀ {op k a b v},binInt op k a b=some v→VW ρ V A v v:=by
  intro op k a b v h
  unfold binInt at h
  split at h <;> first | (cases h;done) | (cases h;constructor) | (split at h <;> first | (cases h;done) | (cases h;constructor))
 have shift_leaf:∀ {op k a b v},shiftInt op k a b=some v→VW ρ V A v v:=by
  intro op k a b v h
  unfold shiftInt at h
  split at h <;> first | (cases h;done) | (cases h;constructor)
 have binStr_leaf:∀ {op a b v},binStr op a b=some v→VW ρ V A v v:=by
  intro op a b v h
  unfold binStr at h
  split at h <;> first | (cases h;done) | (cases h;constructor) | (split at h <;> first | (cases h;done) | (cases h;constructor))
 cases x with
 | int k a =>
  cases y with
  | int k' b =>
   rw [hx.int_inv,hy.int_inv]
   refine ⟨h,?_⟩
   simp only [evBin] at h
   split at h
   · obtain ⟨q,_,h2⟩:=ob_some h;exact shift_leaf h2
   · split at h
     · exact binInt_leaf h
     · cases h
  | _=>simp [evBin] at h
 | str a =>
  cases y with
  | str b =>
   rw [hx.str_inv,hy.str_inv]
   exact ⟨h,binStr_leaf h⟩
  | _=>simp [evBin] at h
 | _=>simp [evBin] at h
theorem eqCell_vw {x y x' y':AV} {b:Bool} (hx:VW ρ V A x x') (hy:VW ρ V A y y') (h:eqCell x y=some b):eqCell x' y'=some b:=by
 cases x with
 | int k a =>
  cases y with
  | int k' b=>rw [hx.int_inv,hy.int_inv];exact h
  | _=>simp [eqCell] at h
 | str a =>
  cases y with
  | str b=>rw [hx.str_inv,hy.str_inv];exact h
  | _=>simp [eqCell] at h
 | bool a =>
  cases y with
  | bool b=>rw [hx.bool_inv,hy.bool_inv];exact h
  | _=>simp [eqCell] at h
 | _=>simp [eqCell] at h
theorem keyOk_vw {kd:Nat} {x x':AV} (hx:VW ρ V A x x') (h:keyOk kd x=true):x'=x:=by
 cases x with
 | int k a=>exact hx.int_inv
 | str a=>exact hx.str_inv
 | bool a=>exact hx.bool_inv
 | _=>simp [keyOk] at h
theorem eqCells_vw:∀ (ks:List Nat) {x y x' y':List AV} {b:Bool},Rel2 (VW ρ V A) x x'→Rel2 (VW ρ V A) y y'→eqCells ks x y=some b→eqCells ks x' y'=some b:=by
 intro ks
 induction ks with
 | nil =>
  intro x y x' y' b hx hy h
  cases x with
  | nil=>cases y with
   | nil=>rw [hx.inv_nil,hy.inv_nil];exact h
   | cons=>simp [eqCells] at h
  | cons=>simp [eqCells] at h
 | cons k ks ih =>
  intro x y x' y' b hx hy h
  cases x with
  | nil=>simp [eqCells] at h
  | cons a r =>
   cases y with
   | nil=>simp [eqCells] at h
   | cons c t =>
    obtain ⟨a',r',rfl,h1,h2⟩:=hx.inv_cons
    obtain ⟨c',t',rfl,h3,h4⟩:=hy.inv_cons
    simp only [eqCells] at h ⊢
    split at h
    · rename_i hk
      obtain ⟨p,h5,h6⟩:=ob_some h
      obtain ⟨q,h7,h8⟩:=om_some h6
      rw [keyOk_vw h1 hk,if_pos hk]
      have:=eqCell_vw h1 h3 h5
      rw [keyOk_vw h1 hk] at this
      rw [this]
      simp only [ob]
      rw [ih h2 h4 h7]
      simp only [om,h8]
    · cases h
theorem eqVals_vw {kd:Nat} {ks:List Nat} {x y x' y':AV} {b:Bool} (hx:VW ρ V A x x') (hy:VW ρ V A y y') (hk:kd≠0) (h:eqVals kd ks x y=some b):eqVals kd ks x' y'=some b:=by
 unfold eqVals at h ⊢
 rw [if_neg hk] at h ⊢
 split at h
 · rename_i hk
   rw [if_pos hk]
   cases hx <;> cases hy <;> simp_all [eqFn]
 · rename_i hk
   rw [if_neg hk]
   split at h
   · rename_i hk
     rw [if_pos hk]
     cases hx <;> cases hy <;> simp_all [eqPtr]
   · rename_i hk
     rw [if_neg hk]
     split at h
     · rename_i hk
       rw [if_pos hk]
       cases hx <;> cases hy <;> simp_all [eqMap]
     · rename_i hk
       rw [if_neg hk]
       split at h
       · rename_i hk
         rw [if_pos hk]
         unfold eqAgg at h
         split at h
         · obtain ⟨c,rfl,h1⟩:=hx.agg_inv
           obtain ⟨d,rfl,h2⟩:=hy.agg_inv
           exact eqCells_vw ks h1 h2 h
         · cases h
       · rename_i hk
         rw [if_neg hk]
         split at h
         · rename_i hk
           rw [if_pos hk]
           unfold eqIf at h
           split at h
           · obtain ⟨c,rfl,h1⟩:=hx.fn_inv
             obtain ⟨d,rfl,h2⟩:=hy.fn_inv
             rw [h2.inv_nil]
             exact h
           · cases h
         · rename_i hk
           rw [if_neg hk]
           unfold eqBool at h
           split at h
           · rw [hx.bool_inv,hy.bool_inv];exact h
           · cases h
theorem wEqSl_vw {x y x' y':AV} {b:Bool} (hx:VW ρ V A x x') (hy:VW ρ V A y y') (h:wEqSl x y=some b):eqSl x' y'=some b:=by
 unfold wEqSl at h
 split at h
 · cases hx;cases hy;exact h
 · cases hx;rcases hy.ro_inv with ⟨q,_⟩ | ⟨es',ex',rfl,_⟩
   · cases q
   · exact h
 · cases hy;rcases hx.ro_inv with ⟨q,_⟩ | ⟨es',ex',rfl,_⟩
   · cases q
   · exact h
 · cases h
end
end Go.Pw
end
section
set_option linter.unusedSimpArgs false
set_option linter.unusedVariables false
namespace Go.Pw
open Go Go.Pav
section
variable {ρ:Nat→Nat} {V A:Nat→Prop} {n m:Nat} {h:WHeap} {h':Heap} {e e':Env}
theorem evUn_vw {op:UnOp} {x x' v:AV} (hx:VW ρ V A x x') (h:evUn op x=some v):evUn op x'=some v∧VW ρ V A v v:=by
 cases x with
 | int k a =>
  rw [hx.int_inv]
  refine ⟨h,?_⟩
  cases op <;> simp only [evUn] at h <;> first | (cases h;done) | (cases h;constructor)
 | bool b =>
  rw [hx.bool_inv]
  refine ⟨h,?_⟩
  cases op <;> simp only [evUn] at h <;> first | (cases h;done) | (cases h;constructor)
 | _=>simp [evUn] at h
theorem bound_vw {o:Option AV} {o':Option AV} {d k:Nat} (ho:∀ v,o=some v→∃ v',o'=some v'∧VW ρ V A v v') (hn:o=none→o'=none) (h:bound o d=some k):bound o' d=some k:=by
 cases o with
 | none=>rw [hn rfl];exact h
 | some v =>
  obtain ⟨v',rfl,hv⟩:=ho v rfl
  cases v with
  | int k n=>rw [hv.int_inv];exact h
  | _=>simp [bound] at h
def OVW (ρ:Nat→Nat) (V A:Nat→Prop):Option AV→Option AV→Prop
 | none,none=>True
 | some v,some v'=>VW ρ V A v v'
 | _,_=>False
theorem OVW.bound {o o':Option AV} (ho:OVW ρ V A o o') {d k:Nat} (h:Pav.bound o d=some k):Pav.bound o' d=some k:=by
 cases o with
 | none=>cases o' with
  | none=>exact h
  | some v'=>exact ho.elim
 | some v=>cases o' with
  | none=>exact ho.elim
  | some v'=>exact bound_vw (ρ:=ρ) (V:=V) (A:=A) (o:=some v) (fun u hu=>by cases hu;exact ⟨v',rfl,ho⟩) (fun q=>by cases q) h
theorem sliceRo_vw {z:Nat} {es es':List (List AV)} {ex ex':Bool} {lo hi mx lo' hi' mx':Option AV} {v:AV} (hr:Rel2 (Rel2 (VD ρ V)) es es') (hd:∀ e ∈ es,∀ x ∈ e,isC x=true) (hx:ex=true→ex'=true)
 (hlo:OVW ρ V A lo lo') (hhi:OVW ρ V A hi hi') (hmx:OVW ρ V A mx mx') (h:sliceRo z es ex lo hi mx=some v):∃ v',sliceRo z es' ex' lo' hi' mx'=some v'∧VW ρ V A v v':=by
 cases mx with
 | none =>
  cases mx' with
  | some _=>exact hmx.elim
  | none =>
   simp only [sliceRo] at h ⊢
   obtain ⟨hh,h1,h⟩:=ob_some h
   obtain ⟨ll,h2,h⟩:=ob_some h
   rw [← hr.1,hhi.bound h1]
   simp only [ob]
   rw [hlo.bound h2]
   simp only
   split at h
   · rename_i hc
     rw [if_pos hc]
     cases h
     refine ⟨_,rfl,VW.mkro ((hr.take hh).drop ll) (fun e he=>hd e (List.mem_of_mem_take (List.mem_of_mem_drop he))) ?_⟩
     simp only [Bool.and_eq_true,decide_eq_true_eq]
     rintro ⟨q1,q2⟩
     exact ⟨hx q1,q2⟩
   · cases h
 | some mv =>
  cases mx' with
  | none=>exact hmx.elim
  | some mv' =>
   simp only [sliceRo] at h ⊢
   obtain ⟨mm,h1,g1⟩:=ob_some h
   clear h
   obtain ⟨hv,hhv,g2⟩:=ob_some g1
   clear g1
   subst hhv
   obtain ⟨hh,h2,g3⟩:=ob_some g2
   clear g2
   obtain ⟨ll,h3,h⟩:=ob_some g3
   clear g3
   cases hi' with
   | none=>exact hhi.elim
   | some hv' =>
    rw [OVW.bound (ρ:=ρ) (V:=V) (A:=A) (o:=some mv) (o':=some mv') hmx h1]
    simp only [ob]
    rw [OVW.bound (ρ:=ρ) (V:=V) (A:=A) (o:=some hv) (o':=some hv') hhi h2]
    simp only
    rw [hlo.bound h3]
    simp only [← hr.1]
    split at h
    · rename_i hc
      rw [if_pos hc]
      cases h
      exact ⟨_,rfl,VW.mkro ((hr.take hh).drop ll) (fun e he=>hd e (List.mem_of_mem_take (List.mem_of_mem_drop he))) id⟩
    · cases h
theorem sliceNil_of {z:Nat} {ex:Bool} {lo hi mx lo' hi' mx':Option AV} {v:AV}
 (hlo:OVW ρ V A lo lo') (hhi:OVW ρ V A hi hi') (hmx:OVW ρ V A mx mx') (h:sliceRo z [] ex lo hi mx=some v):∃ v',sliceNil lo' hi' mx'=some v'∧VW ρ V A v v':=by
 cases mx with
 | none =>
  cases mx' with
  | some _=>exact hmx.elim
  | none =>
   simp only [sliceRo,List.length_nil] at h
   obtain ⟨hh,h1,h⟩:=ob_some h
   obtain ⟨ll,h2,h⟩:=ob_some h
   split at h
   · rename_i hc
     cases h
     obtain ⟨c1,c2⟩:=hc
     refine ⟨.nils,?_,?_⟩
     · simp only [sliceNil]
       rw [show Pav.bound none 0=some 0 from rfl]
       simp only [ob]
       rw [hhi.bound h1]
       simp only
       rw [hlo.bound h2]
       simp only
       rw [if_pos]
       exact ⟨by omega,by omega,by trivial,by simp⟩
     · simp only [List.take_nil,List.drop_nil];exact .ronil _ _
   · cases h
 | some mv =>
  cases mx' with
  | none=>exact hmx.elim
  | some mv' =>
   simp only [sliceRo,List.length_nil] at h
   obtain ⟨mm,h1,g1⟩:=ob_some h
   clear h
   obtain ⟨hv,hhv,g2⟩:=ob_some g1
   clear g1
   subst hhv
   obtain ⟨hh,h2,g3⟩:=ob_some g2
   clear g2
   obtain ⟨ll,h3,h⟩:=ob_some g3
   clear g3
   cases hi' with
   | none=>exact hhi.elim
   | some hv' =>
    split at h
    · rename_i hc
      cases h
      obtain ⟨c1,c2,c3⟩:=hc
      refine ⟨.nils,?_,?_⟩
      · simp only [sliceNil]
        rw [OVW.bound (ρ:=ρ) (V:=V) (A:=A) (o:=some mv) (o':=some mv') hmx h1]
        simp only [ob]
        rw [OVW.bound (ρ:=ρ) (V:=V) (A:=A) (o:=some hv) (o':=some hv') hhi h2]
        simp only
        rw [hlo.bound h3]
        simp only
        rw [if_pos]
        exact ⟨by omega,by omega,by omega,by simp⟩
      · simp only [List.take_nil,List.drop_nil];exact .ronil _ _
    · cases h
theorem sliceSl_vw {b z i len cap:Nat} {ex ex':Bool} {lo hi mx lo' hi' mx':Option AV} {v:AV} (hA:A b) (hV:¬ V b) (hx:ex=true→ex'=true)
 (hlo:OVW ρ V A lo lo') (hhi:OVW ρ V A hi hi') (hmx:OVW ρ V A mx mx') (h:sliceSl b z i len cap ex lo hi mx=some v):∃ v',sliceSl (ρ b) z i len cap ex' lo' hi' mx'=some v'∧VW ρ V A v v':=by
 cases mx with
 | none =>
  cases mx' with
  | some _=>exact hmx.elim
  | none =>
   simp only [sliceSl] at h ⊢
   obtain ⟨hh,h1,h⟩:=ob_some h
   obtain ⟨ll,h2,h⟩:=ob_some h
   rw [hhi.bound h1]
   simp only [ob]
   rw [hlo.bound h2]
   simp only
   split at h
   · rename_i hc
     rw [if_pos hc]
     split at h
     · rename_i hc2;rw [if_pos hc2];cases h;exact ⟨_,rfl,.sl _ _ _ _ _ _ _ hA hV hx⟩
     · rename_i hc2
       rw [if_neg hc2]
       split at h
       · rename_i hl
         cases h
         rw [if_pos hl]
         exact ⟨_,rfl,.sl _ _ _ _ _ _ _ hA hV hx⟩
       · rename_i hl
         cases h
         rw [if_neg hl]
         exact ⟨_,rfl,.ro _ _ _ _ _ (by simp) rfl hx (by simp) (by simp)⟩
   · cases h
 | some mv =>
  cases mx' with
  | none=>exact hmx.elim
  | some mv' =>
   simp only [sliceSl] at h ⊢
   obtain ⟨mm,h1,g1⟩:=ob_some h
   clear h
   obtain ⟨hv,hhv,g2⟩:=ob_some g1
   clear g1
   subst hhv
   obtain ⟨hh,h2,g3⟩:=ob_some g2
   clear g2
   obtain ⟨ll,h3,h⟩:=ob_some g3
   clear g3
   cases hi' with
   | none=>exact hhi.elim
   | some hv' =>
    rw [OVW.bound (ρ:=ρ) (V:=V) (A:=A) (o:=some mv) (o':=some mv') hmx h1]
    simp only [ob]
    rw [OVW.bound (ρ:=ρ) (V:=V) (A:=A) (o:=some hv) (o':=some hv') hhi h2]
    simp only
    rw [hlo.bound h3]
    simp only
    split at h
    · rename_i hc
      rw [if_pos hc]
      split at h
      · rename_i hc2;rw [if_pos hc2];cases h;exact ⟨_,rfl,.sl _ _ _ _ _ _ _ hA hV id⟩
      · rename_i hc2;rw [if_neg hc2];cases h;exact ⟨_,rfl,.sl _ _ _ _ _ _ _ hA hV id⟩
    · cases h
theorem sliceSl_virt {b z:Nat} {ex:Bool} {lo hi mx lo' hi' mx':Option AV} {v:AV} (hA:A b) (hV:V b)
 (hlo:OVW ρ V A lo lo') (hhi:OVW ρ V A hi hi') (hmx:OVW ρ V A mx mx') (h:sliceSl b z 0 0 0 ex lo hi mx=some v) :
 ((∃ v',sliceNil lo' hi' mx'=some v'∧VW ρ V A v v')∧∃ v',sliceRo z [] true lo' hi' mx'=some v'∧VW ρ V A v v'):=by
 cases mx with
 | none =>
  cases mx' with
  | some _=>exact hmx.elim
  | none =>
   simp only [sliceSl] at h
   obtain ⟨hh,h1,h⟩:=ob_some h
   obtain ⟨ll,h2,h⟩:=ob_some h
   split at h
   · rename_i hc
     obtain ⟨c1,c2,_⟩:=hc
     have hv:∃ ex2,v=.sl b z 0 0 0 ex2:=by
      have e1:ll=0:=by omega
      have e2:hh=0:=by omega
      subst e1;subst e2
      simp only [Nat.lt_irrefl,if_false,if_true] at h
      cases h;exact ⟨_,rfl⟩
     obtain ⟨ex2,rfl⟩:=hv
     refine ⟨⟨.nils,?_,.slv _ _ _ _ hA hV (.inl rfl)⟩,⟨.ro z [] true,?_,.slv _ _ _ _ hA hV (.inr rfl)⟩⟩
     · simp only [sliceNil]
       rw [show Pav.bound none 0=some 0 from rfl]
       simp only [ob]
       rw [hhi.bound h1]
       simp only
       rw [hlo.bound h2]
       simp only
       rw [if_pos]
       exact ⟨by omega,by omega,by trivial,by simp⟩
     · simp only [sliceRo,List.length_nil]
       rw [hhi.bound h1]
       simp only [ob]
       rw [hlo.bound h2]
       simp only
       rw [if_pos ⟨c1,by omega⟩]
       have e2:hh=0:=by omega
       subst e2
       simp
   · cases h
 | some mv =>
  cases mx' with
  | none=>exact hmx.elim
  | some mv' =>
   simp only [sliceSl] at h
   obtain ⟨mm,h1,g1⟩:=ob_some h
   clear h
   obtain ⟨hv,hhv,g2⟩:=ob_some g1
   clear g1
   subst hhv
   obtain ⟨hh,h2,g3⟩:=ob_some g2
   clear g2
   obtain ⟨ll,h3,h⟩:=ob_some g3
   clear g3
   cases hi' with
   | none=>exact hhi.elim
   | some hv' =>
    split at h
    · rename_i hc
      obtain ⟨c1,c2,c3⟩:=hc
      have hv:v=.sl b z 0 0 0 true:=by
       rw [if_neg (by omega)] at h
       cases h;rfl
      subst hv
      refine ⟨⟨.nils,?_,.slv _ _ _ _ hA hV (.inl rfl)⟩,⟨.ro z [] true,?_,.slv _ _ _ _ hA hV (.inr rfl)⟩⟩
      · simp only [sliceNil]
        rw [OVW.bound (ρ:=ρ) (V:=V) (A:=A) (o:=some mv) (o':=some mv') hmx h1]
        simp only [ob]
        rw [OVW.bound (ρ:=ρ) (V:=V) (A:=A) (o:=some hv) (o':=some hv') hhi h2]
        simp only
        rw [hlo.bound h3]
        simp only
        rw [if_pos]
        exact ⟨by omega,by omega,by omega,by simp⟩
      · simp only [sliceRo,List.length_nil]
        rw [OVW.bound (ρ:=ρ) (V:=V) (A:=A) (o:=some mv) (o':=some mv') hmx h1]
        simp only [ob]
        rw [OVW.bound (ρ:=ρ) (V:=V) (A:=A) (o:=some hv) (o':=some hv') hhi h2]
        simp only
        rw [hlo.bound h3]
        simp only
        rw [if_pos ⟨c1,c2,by omega⟩]
        have e2:mm=hh:=by omega
        simp [e2]
    · cases h
theorem leaf_eq {x x':AV} (hl:isLeaf x=true) (h:VW ρ V A x x'):x'=x:=by
 cases h <;> first | rfl | (simp [isLeaf] at hl)
theorem sliceArr_vw {k:Nat} {cs cs':List AV} {lo hi lo' hi':Option AV} {v:AV} (hr:Rel2 (VW ρ V A) cs cs')
 (hlo:OVW ρ V A lo lo') (hhi:OVW ρ V A hi hi') (h:sliceArr k cs lo hi=some v):∃ v',sliceArr k cs' lo' hi'=some v'∧VW ρ V A v v':=by
 unfold sliceArr at h ⊢
 split at h
 case isFalse=>cases h
 rename_i hc
 obtain ⟨c1,c2⟩:=hc
 have e:cs'.take k=cs.take k:=by
  have hk:=hr.take k
  refine List.ext_getElem? fun j=>?_
  cases hj:(cs.take k)[j]? with
  | none =>
   rw [List.getElem?_eq_none_iff] at hj ⊢
   rw [← hk.1];exact hj
  | some x =>
   obtain ⟨x',h1,h2⟩:=hk.get hj
   rw [h1,leaf_eq (List.all_eq_true.1 c2 x (List.mem_of_getElem? hj)) h2]
 rw [e,if_pos ⟨by rw [← hr.1];exact c1,c2⟩]
 refine sliceRo_vw (es:=(cs.take k).map fun x=>[x]) ⟨rfl,fun j x x' h1 h2=>?_⟩ (fun e he x hx=>?_) id hlo hhi (mx:=none) (mx':=none) trivial h
 · rw [h1] at h2;cases h2
   rw [List.getElem?_map] at h1
   cases hj:(cs.take k)[j]? with
   | none=>rw [hj] at h1;cases h1
   | some y =>
    rw [hj] at h1;cases h1
    refine .cons ?_ .nil
    have:=List.all_eq_true.1 c2 y (List.mem_of_getElem? hj)
    cases y <;> simp [isLeaf] at this <;> constructor
 · simp only [List.mem_map] at he
   obtain ⟨y,hy,rfl⟩:=he
   simp only [List.mem_cons,List.not_mem_nil,or_false] at hx
   subst hx
   have:=List.all_eq_true.1 c2 x hy
   cases x <;> simp [isLeaf] at this <;> rfl
theorem evSlice_vw {k:Nat} {x x':AV} {lo hi mx lo' hi' mx':Option AV} {v:AV} (hx:VW ρ V A x x')
 (hlo:OVW ρ V A lo lo') (hhi:OVW ρ V A hi hi') (hmx:OVW ρ V A mx mx') (h:evSlice k x lo hi mx=some v):∃ v',evSlice k x' lo' hi' mx'=some v'∧VW ρ V A v v':=by
 cases x with
 | str s =>
  rw [hx.str_inv]
  simp only [evSlice] at h ⊢
  split at h
  · rename_i hk
    rw [if_pos hk]
    cases mx with
    | some _=>simp [sliceStr] at h
    | none =>
     cases mx' with
     | some _=>exact hmx.elim
     | none =>
      simp only [sliceStr] at h ⊢
      obtain ⟨hh,h1,h⟩:=ob_some h
      obtain ⟨ll,h2,h⟩:=ob_some h
      rw [hhi.bound h1]
      simp only [ob]
      rw [hlo.bound h2]
      simp only
      split at h
      · rename_i hc;rw [if_pos hc];cases h;exact ⟨_,rfl,.str _⟩
      · cases h
  · cases h
 | nils =>
  cases hx
  simp only [evSlice] at h ⊢
  split at h
  · cases h
  · rename_i hk
    rw [if_neg hk]
    simp only [sliceNil] at h ⊢
    obtain ⟨mm,h1,h⟩:=ob_some h
    obtain ⟨hh,h2,h⟩:=ob_some h
    obtain ⟨ll,h3,h⟩:=ob_some h
    rw [hmx.bound h1]
    simp only [ob]
    rw [hhi.bound h2]
    simp only
    rw [hlo.bound h3]
    simp only
    have e1:mx.isSome=mx'.isSome:=by cases mx <;> cases mx' <;> simp_all [OVW]
    have e2:hi.isNone=hi'.isNone:=by cases hi <;> cases hi' <;> simp_all [OVW]
    rw [e1,e2] at h
    split at h
    · rename_i hc;rw [if_pos hc];cases h;exact ⟨_,rfl,.nils⟩
    · cases h
 | ro z es ex =>
  simp only [evSlice] at h
  split at h
  · rename_i hk
    rcases hx.ro_inv with ⟨rfl,rfl⟩ | ⟨es',ex',rfl,h2,h3,h4⟩
    · simp only [evSlice,if_neg hk.1]
      exact sliceNil_of hlo hhi hmx h
    · simp only [evSlice,if_pos hk]
      exact sliceRo_vw h3 h4 h2 hlo hhi hmx h
  · cases h
 | sl b z i len cap ex =>
  simp only [evSlice] at h
  split at h
  · rename_i hk
    rcases hx.sl_inv with ⟨hA,hV,ex',rfl,h2⟩ | ⟨hA,hV,rfl,rfl,rfl,h2⟩
    · simp only [evSlice,if_pos hk]
      exact sliceSl_vw hA hV h2 hlo hhi hmx h
    · obtain ⟨q1,q2⟩:=sliceSl_virt hA hV hlo hhi hmx h
      rcases h2 with rfl | rfl
      · simp only [evSlice,if_neg hk.1];exact q1
      · simp only [evSlice,if_pos hk];exact q2
  · cases h
 | _=>simp [evSlice] at h
end
end Go.Pw
end
section
set_option linter.unusedSimpArgs false
set_option linter.unusedVariables false
namespace Go.Pw
open Go Go.Pav
section
variable {ρ:Nat→Nat} {V A:Nat→Prop} {n m:Nat} {h:WHeap} {h':Heap} {e e':Env}
theorem elems_vw (H:HW ρ V A h h') {z:Nat} {x x':AV} (hx:VW ρ V A x x') {xs:List (List AV)} {d:Bool} (he:wElems h z x=some (xs,d)) :
 ∃ xs',elems h' z x'=some xs'∧Rel2 (Rel2 (VW ρ V A)) xs xs'∧(d=true→∀ e ∈ xs,∀ x ∈ e,isC x=true):=by
 cases x with
 | nils=>cases hx;simp only [wElems,Option.some.injEq,Prod.mk.injEq] at he;obtain ⟨rfl,rfl⟩:=he;exact ⟨[],rfl,.nil,fun _ e he=>by cases he⟩
 | str s =>
  rw [hx.str_inv]
  simp only [wElems] at he
  split at he
  · rename_i hz
    simp only [Option.some.injEq,Prod.mk.injEq] at he
    obtain ⟨rfl,rfl⟩:=he
    refine ⟨s.map fun c=>[.int .u8 c.toNat],by simp only [elems,if_pos hz],?_,?_⟩
    · exact (Rel2.map (R:=Eq) (T:=Rel2 (VW ρ V A)) (l:=s) (l':=s) ⟨rfl,fun j x x' h1 h2=>by rw [h1] at h2;cases h2;rfl⟩ fun x x' hxx=>by subst hxx;exact .cons (.int _ _) .nil)
    · intro _ e he x hx
      simp only [List.mem_map] at he
      obtain ⟨c,_,rfl⟩:=he
      simp at hx;subst hx
      rfl
  · cases he
 | ro z' es ex =>
  simp only [wElems] at he
  split at he
  · rename_i hz
    simp only [Option.some.injEq,Prod.mk.injEq] at he
    obtain ⟨rfl,rfl⟩:=he
    rcases hx.ro_inv with ⟨rfl,rfl⟩ | ⟨es',ex',rfl,_,hr,hc⟩
    · exact ⟨[],rfl,.nil,fun _ e he=>by cases he⟩
    · exact ⟨es',by simp only [elems,if_pos hz],hr.mono fun e e' _ h=>h.mono fun x x' _ h=>h.data,fun _=>hc⟩
  · cases he
 | sl b z' i len cap ex =>
  simp only [wElems] at he
  split at he
  · rename_i hz
    split at he
    · rename_i zb es mu dt hg
      split at he
      · rename_i hl
        simp only [Option.some.injEq,Prod.mk.injEq] at he
        obtain ⟨rfl,rfl⟩:=he
        rcases hx.sl_inv with ⟨hA,hV,ex',rfl,_⟩ | ⟨hA,hV,rfl,rfl,rfl,hv⟩
        · obtain ⟨o',h1,es',mu',rfl,_,hr,hd⟩:=H.obj b _ hg hV
          refine ⟨(es'.drop i).take len,?_,(hr.drop i).take len,fun q e he x hx=>hd q e (List.mem_of_mem_drop (List.mem_of_mem_take he)) x hx⟩
          simp only [elems,if_pos hz,h1,← hr.1,if_pos hl]
        · obtain ⟨z2,mu2,dt2,q⟩:=H.virt b _ hg hV
          cases q
          refine ⟨[],?_,by simp only [List.drop_nil,List.take_nil];exact .nil,fun _ e he=>by simp at he⟩
          rcases hv with rfl | rfl
          · rfl
          · simp only [elems,if_pos hz]
      · cases he
    · cases he
  · cases he
 | _=>simp [wElems] at he
theorem newRow_vw (H:HW ρ V A h h') (hn:¬ A n) (hm:∀ b,A b→¬ V b→ρ b≠m) {zl k bytes:Nat} {xs xs':List (List AV)} {d:Bool} {r:AV × WUpd}
 (hr:Rel2 (Rel2 (VW ρ V A)) xs xs') (hd:d=true→∀ e ∈ xs,∀ x ∈ e,isC x=true) (he:wNewRow n zl k bytes xs d=some r) :
 ∃ r',Pav.newRow m zl k bytes xs'=some r'∧Ok2 ρ V A n m h h' r r':=by
 unfold wNewRow at he
 split at he
 · rename_i hb
   cases he
   have hVn:¬ V n:=fun q=>hn (H.sub n q)
   have un:up ρ n m n=m:=by simp [up]
   refine ⟨_,by simp only [Pav.newRow,if_pos hb];rfl,?_,?_,?_⟩
   · have:=VW.sl (ρ:=up ρ n m) (V:=V) (A:=addN A n) n zl 0 k k false false (.inr rfl) hVn id
     rw [un] at this;exact this
   · exact new_ok H hn hm ⟨xs',true,rfl,fun _=>rfl,hr.mono fun e e' _ h=>h.mono fun x x' _ h=>h.mono (up_mono hn),hd⟩
   · intro b hb
     simp at hb;subst hb
     exact ⟨n,by simp,un.symm,hVn,.inr rfl⟩
 · cases he
theorem evApp_vw (H:HW ρ V A h h') (hn:¬ A n) (hm:∀ b,A b→¬ V b→ρ b≠m) {zl bytes:Nat} {s s':AV} {xs xs':List (List AV)} {d:Bool} {r:AV × WUpd} (hs:VW ρ V A s s')
 (hr:Rel2 (Rel2 (VW ρ V A)) xs xs') (hd:d=true→∀ e ∈ xs,∀ x ∈ e,isC x=true) (he:wEvApp h n zl bytes s xs d=some r) :
 ∃ r',evApp h' m zl bytes s' xs'=some r'∧Ok2 ρ V A n m h h' r r':=by
 cases s with
 | nils =>
  cases hs
  simp only [wEvApp] at he
  cases xs with
  | nil=>simp only [Option.some.injEq] at he;subst he;rw [hr.inv_nil];exact ⟨_,rfl,plain_ok H hn hm .nils⟩
  | cons a t =>
   obtain ⟨a',t',rfl,h1,h2⟩:=hr.inv_cons
   simp only at he
   obtain ⟨r',h3,h4⟩:=newRow_vw H hn hm hr hd he
   exact ⟨r',by simp only [evApp,← hr.1];exact h3,h4⟩
 | ro z es ex =>
  simp only [wEvApp] at he
  split at he
  · rename_i hz
    rcases hs.ro_inv with ⟨rfl,rfl⟩ | ⟨es',ex',rfl,hx,hes,hc⟩
    · cases xs with
      | nil=>simp only [Option.some.injEq] at he;subst he;rw [hr.inv_nil];exact ⟨_,rfl,plain_ok H hn hm hs⟩
      | cons a t =>
       obtain ⟨a',t',rfl,h1,h2⟩:=hr.inv_cons
       simp only at he
       split at he
       · simp only [List.length_nil,Nat.zero_add,List.nil_append] at he
         obtain ⟨r',h3,h4⟩:=newRow_vw H hn hm hr hd he
         exact ⟨r',by simp only [evApp,← hr.1];exact h3,h4⟩
       · cases he
    · cases xs with
      | nil=>simp only [Option.some.injEq] at he;subst he;rw [hr.inv_nil];exact ⟨_,by simp only [evApp,if_pos hz],plain_ok H hn hm hs⟩
      | cons a t =>
       obtain ⟨a',t',rfl,h1,h2⟩:=hr.inv_cons
       simp only at he
       split at he
       · rename_i hex
         obtain ⟨r',h3,h4⟩:=newRow_vw H hn hm (xs':=es'++a'::t') ((hes.mono fun e e' _ h=>h.mono fun x x' _ h=>h.data).append hr) (fun q e he x hx=>by
          rcases List.mem_append.1 he with q1 | q1
          · exact hc e q1 x hx
          · exact hd q e q1 x hx) he
         refine ⟨r',?_,h4⟩
         simp only [evApp,if_pos hz,hx hex,if_true]
         rw [← hes.1,← hr.1]
         exact h3
       · cases he
  · cases he
 | sl b z i len cap ex =>
  simp only [wEvApp] at he
  split at he
  · rename_i hz
    subst hz
    cases xs with
    | nil =>
     simp only [Option.some.injEq] at he;subst he;rw [hr.inv_nil]
     rcases hs.sl_inv with ⟨hA,hV,ex',rfl,_⟩ | ⟨hA,hV,rfl,rfl,rfl,hv⟩
     · exact ⟨_,by simp only [evApp,if_true],plain_ok H hn hm hs⟩
     · rcases hv with rfl | rfl
       · exact ⟨_,rfl,plain_ok H hn hm hs⟩
       · exact ⟨_,by simp only [evApp,if_true],plain_ok H hn hm hs⟩
    | cons a t =>
     obtain ⟨a',t',rfl,h1,h2⟩:=hr.inv_cons
     simp only at he
     unfold wAppSl at he
     split at he
     · rename_i zb es mu dt hg
       split at he
       · rename_i hzb
         rcases hs.sl_inv with ⟨hA,hV,ex',rfl,hx⟩ | ⟨hA,hV,rfl,rfl,rfl,hv⟩
         · obtain ⟨o',g1,es',mu',rfl,gm,ge,gd⟩:=H.obj b _ hg hV
           have hu:=up_mono (ρ:=ρ) (V:=V) (m:=m) hn
           have dd:(dt&&d)=true→(∀ e ∈ es,∀ x ∈ e,isC x=true)∧∀ e ∈ a::t,∀ x ∈ e,isC x=true:=by
            intro q
            simp only [Bool.and_eq_true] at q
            exact ⟨gd q.1,hd q.2⟩
           simp only [evApp,if_true,g1,appSl,if_pos hzb]
           have hlen:(a'::t').length=(a::t).length:=hr.1.symm
           rw [hlen]
           split at he
           · rename_i hcap
             rw [if_pos hcap]
             split at he
             · rename_i hc
               cases he
               have e1:mu'=true∧i+(len+(a::t).length)≤es'.length:=⟨gm hc.1,by rw [← ge.1];exact hc.2⟩
               rw [if_pos e1]
               refine ⟨_,rfl,?_,?_,?_⟩
               · have:=VW.sl (ρ:=up ρ n m) (V:=V) (A:=addN A n) b z i (len+(a::t).length) cap ex ex' (.inl hA) hV hx
                 rw [(hu b hA).2.1] at this;exact this
               · refine HW.up (write_ok H hA hV ?_) hn hm
                 refine ⟨_,true,rfl,fun _=>rfl,(ge.take _).append (hr.append (ge.drop _)),fun q e he x hx=>?_⟩
                 obtain ⟨q1,q2⟩:=dd q
                 rcases List.mem_append.1 he with q3 | q3
                 · exact q1 e (List.mem_of_mem_take q3) x hx
                 · rcases List.mem_append.1 q3 with q3 | q3
                   · exact q2 e q3 x hx
                   · exact q1 e (List.mem_of_mem_drop q3) x hx
               · intro c hc
                 simp at hc;subst hc
                 exact ⟨b,by simp,((hu b hA).2.1).symm,hV,.inl hA⟩
             · cases he
           · rename_i hcap
             rw [if_neg hcap]
             split at he
             · rename_i hex
               subst hex
               rw [hx rfl]
               simp only [if_true]
               split at he
               · rename_i hl
                 rw [if_pos (by rw [← ge.1];exact hl)]
                 exact newRow_vw H hn hm (((ge.drop _).take _).append hr) (fun q e he x hx=>by
                  obtain ⟨q1,q2⟩:=dd q
                  rcases List.mem_append.1 he with q3 | q3
                  · exact q1 e (List.mem_of_mem_drop (List.mem_of_mem_take q3)) x hx
                  · exact q2 e q3 x hx) he
               · cases he
             · rename_i hex
               have hex:ex=false:=by simpa using hex
               subst hex
               split at he
               · rename_i hc
                 cases he
                 obtain ⟨c1,c2,c3,c4⟩:=hc
                 subst c2
                 have hVn:¬ V n:=fun q=>hn (H.sub n q)
                 have un:up ρ n m n=m:=by simp [up]
                 have vw:VW (up ρ n m) V (addN A n) (.sl n z 0 (len+(a::t).length) (len+(a::t).length) false) (.sl m z 0 (len+(a::t).length) (len+(a::t).length) false):=by
                  have:=VW.sl (ρ:=up ρ n m) (V:=V) (A:=addN A n) n z 0 (len+(a::t).length) (len+(a::t).length) false false (.inr rfl) hVn id
                  rw [un] at this;exact this
                 have ow:∀ {mu2},OW (up ρ n m) V (addN A n) (.cells z (es++a::t) true (dt&&d)) (.cells z (es'++a'::t') mu2)↔mu2=true:=by
                  intro mu2
                  constructor
                  · rintro ⟨_,_,q,q2,_⟩;cases q;exact q2 rfl
                  · rintro rfl
                    refine ⟨_,true,rfl,fun _=>rfl,(ge.append hr).mono fun e e' _ h=>h.mono fun x x' _ h=>h.mono hu,fun q e he x hx=>?_⟩
                    obtain ⟨q1,q2⟩:=dd q
                    rcases List.mem_append.1 he with q3 | q3
                    · exact q1 e q3 x hx
                    · exact q2 e q3 x hx
                 have wr:∀ c,c=ρ b∨c=m→∃ c2 ∈ [(b,(none:Option WObj)),(n,some (.cells z (es++a::t) true (dt&&d)))].map (·.1),c=up ρ n m c2∧¬ V c2∧addN A n c2:=by
                  rintro c (rfl | rfl)
                  · exact ⟨b,by simp,((hu b hA).2.1).symm,hV,.inl hA⟩
                  · exact ⟨n,by simp,un.symm,hVn,.inr rfl⟩
                 cases ex' with
                 | false =>
                  simp only [Bool.false_eq_true,if_false]
                  rw [if_pos ⟨gm c1,by trivial,by rw [← ge.1];exact c3,c4⟩]
                  refine ⟨_,rfl,vw,?_,fun c hc=>wr c (by simpa using hc)⟩
                  exact new_ok (del_ok H hA hV) hn hm (ow.2 rfl)
                 | true =>
                  simp only [if_true]
                  rw [if_pos (by rw [← ge.1,c3];simp)]
                  have e3:(es'.drop 0).take len=es':=by rw [List.drop_zero,List.take_of_length_le (by rw [← ge.1];omega)]
                  rw [e3]
                  refine ⟨_,by simp only [Pav.newRow,if_pos c4];rfl,vw,?_,fun c hc=>wr c (.inr (by simpa using hc))⟩
                  exact new_ok (drop_ok H) hn hm (ow.2 rfl)
               · cases he
         · obtain ⟨z2,mu2,dt2,q⟩:=H.virt b _ hg hV
           cases q
           have hnr:∃ d2,(d2=true→d=true)∧((wNewRow n zb (a::t).length bytes (a::t) d2=some r)∨(∃ (q4:(a::t).length * (bytes+1)≤maxBytes),r=(.sl n zb 0 (a::t).length (a::t).length false,[(b,none),(n,some (.cells zb (a::t) true d2))]))):=by
            refine ⟨dt&&d,fun q=>by simp only [Bool.and_eq_true] at q;exact q.2,?_⟩
            subst hzb
            rw [if_neg (by simp)] at he
            split at he
            · split at he
              · left
                simpa using he
              · cases he
            · split at he
              · rename_i hc
                right
                simp only [Nat.zero_add] at hc he
                exact ⟨hc.2.2.2,by simpa using he.symm⟩
              · cases he
           obtain ⟨d2,hd2,hh⟩:=hnr
           have hd3:d2=true→∀ e ∈ a::t,∀ x ∈ e,isC x=true:=fun q=>hd (hd2 q)
           have goal:∃ r',Pav.newRow m z (a'::t').length bytes (a'::t')=some r'∧Ok2 ρ V A n m h h' r r':=by
            subst hzb
            rcases hh with hh | ⟨q4,rfl⟩
            · obtain ⟨r',h3,h4⟩:=newRow_vw H hn hm hr hd3 hh
              exact ⟨r',by rw [← hr.1];exact h3,h4⟩
            · obtain ⟨r',h3,h4⟩:=newRow_vw (h:=del h b) (zl:=zb) (k:=(a::t).length) (bytes:=bytes) (r:=(.sl n zb 0 (a::t).length (a::t).length false,[(n,some (WObj.cells zb (a::t) true d2))])) (drop_ok H) hn hm hr hd3 (by simp only [wNewRow,if_pos q4])
              refine ⟨r',by rw [← hr.1];exact h3,h4.1,h4.2.1,fun c hc=>?_⟩
              obtain ⟨c2,q5,q6⟩:=h4.2.2 c hc
              exact ⟨c2,by simp at q5 ⊢;exact .inr q5,q6⟩
           obtain ⟨r',g1,g2⟩:=goal
           rcases hv with rfl | rfl
           · exact ⟨r',by simp only [evApp];exact g1,g2⟩
           · exact ⟨r',by simp only [evApp,if_true,List.length_nil,Nat.zero_add,List.nil_append];exact g1,g2⟩
       · cases he
     · cases he
  · cases he
 | _=>simp [wEvApp] at he
end
end Go.Pw
end
section
set_option linter.unusedSimpArgs false
set_option linter.unusedVariables false
namespace Go.Pw
open Go Go.Pav
section
variable {ρ:Nat→Nat} {V A:Nat→Prop} {n m:Nat} {h:WHeap} {h':Heap} {e e':Env}
theorem ov_of {x:Option AV} {a:AV} (hx:x=some a):ov x=some (a,[]):=by rw [hx];rfl
theorem plainW_some {x:Option (AV × Upd)} {r:AV × WUpd} (h:plainW x=some r):∃ v u,x=some (v,u)∧r=(v,[]):=by
 obtain ⟨⟨v,u⟩,h1,h2⟩:=om_some h
 exact ⟨v,u,h1,h2.symm⟩
theorem ovW_some {x:Option AV} {r:AV × WUpd} (h:ovW x=some r):∃ v,x=some v∧r=(v,[]):=by
 obtain ⟨v,h1,h2⟩:=om_some h
 exact ⟨v,h1,h2.symm⟩
theorem ov_some' {x:Option AV} {v:AV} {u:Upd} (h:ov x=some (v,u)):x=some v:=by
 obtain ⟨w,h1,h2⟩:=om_some h
 cases h2;exact h1
theorem oev_vw (he:EW ρ V A e e') {o:Option Opd} (ho:(o.map okO).getD true=true):OVW ρ V A (oev e o) (oev e' (o.map erO)):=by
 cases o with
 | none=>trivial
 | some x=>exact he.opd (by simpa using ho)
theorem mapGet_vw:∀ {es es':List (AV × AV)} {k:AV} {r:Option AV},Rel2 (fun (x y:AV × AV)=>x.1=y.1∧VD ρ V x.2 y.2) es es'→mapGet es k=some r→∃ r',mapGet es' k=some r'∧OVW ρ V A r r':=by
 intro es
 induction es with
 | nil=>intro es' k r hr h;rw [hr.inv_nil];simp only [mapGet,Option.some.injEq] at h;subst h;exact ⟨none,rfl,trivial⟩
 | cons x es ih =>
  intro es' k r hr h
  obtain ⟨y,t,rfl,h1,h2⟩:=hr.inv_cons
  obtain ⟨a,v⟩:=x
  obtain ⟨a',v'⟩:=y
  obtain ⟨rfl,hv⟩:=h1
  simp only [mapGet] at h ⊢
  obtain ⟨c,h3,h⟩:=ob_some h
  rw [h3]
  simp only [ob]
  split at h
  · rename_i hc;rw [if_pos hc];cases h;exact ⟨some v',rfl,hv.data⟩
  · rename_i hc;rw [if_neg hc];exact ih h2 h
theorem mapPut_vw:∀ {es es' r:List (AV × AV)} {k v v':AV},Rel2 (fun (x y:AV × AV)=>x.1=y.1∧VD ρ V x.2 y.2) es es'→VD ρ V v v'→mapPut es k v=some r →
 ∃ r',mapPut es' k v'=some r'∧Rel2 (fun (x y:AV × AV)=>x.1=y.1∧VD ρ V x.2 y.2) r r':=by
 intro es
 induction es with
 | nil=>intro es' r k v v' hr hv h;rw [hr.inv_nil];simp only [mapPut,Option.some.injEq] at h;subst h;exact ⟨_,rfl,.cons ⟨rfl,hv⟩ .nil⟩
 | cons x es ih =>
  intro es' r k v v' hr hv h
  obtain ⟨y,t,rfl,h1,h2⟩:=hr.inv_cons
  obtain ⟨a,w⟩:=x
  obtain ⟨a',w'⟩:=y
  obtain ⟨rfl,hw⟩:=h1
  simp only [mapPut] at h ⊢
  obtain ⟨c,h3,h⟩:=ob_some h
  rw [h3]
  simp only [ob]
  split at h
  · rename_i hc;rw [if_pos hc];cases h;exact ⟨_,rfl,.cons ⟨rfl,hv⟩ h2⟩
  · rename_i hc
    rw [if_neg hc]
    obtain ⟨r1,h4,rfl⟩:=om_some h
    obtain ⟨r2,h5,h6⟩:=ih h2 hv h4
    rw [h5]
    exact ⟨_,rfl,.cons ⟨rfl,hw⟩ h6⟩
theorem found_vw {z z':AV} {r r':Option AV} (hz:VW ρ V A z z') (hr:OVW ρ V A r r') (ok:Bool):VW ρ V A (found z ok r) (found z' ok r'):=by
 have:VW ρ V A (r.getD z) (r'.getD z')∧r.isSome=r'.isSome:=by
  cases r <;> cases r' <;> simp_all [OVW]
 unfold found
 split
 · rw [this.2];exact VW.mktup (.cons this.1 (.cons (.bool _) .nil))
 · exact this.1
theorem flat_vw {ρ:Nat→Nat} {V A:Nat→Prop} {x x':AV} (h:VW ρ V A x x') (hf:flat x=true):flat x'=true:=by
 cases h <;> first | rfl | (simp [flat] at hf)
theorem snapOf_vw {ρ:Nat→Nat} {V A:Nat→Prop} {h:WHeap} {h':Heap} (H:HW ρ V A h h') {zl bytes:Nat} {s sv:AV} {xs xs':List (List AV)} {v:AV} (hv:VW ρ V A s sv) (q2:Rel2 (Rel2 (VW ρ V A)) xs xs') (q3:∀ e ∈ xs,∀ x ∈ e,isC x=true)
 (h2:snapOfW h zl bytes xs s=some v):∃ b len cap ex ex' es es',s=.sl b zl 0 len cap ex∧sv=.sl (ρ b) zl 0 len cap ex'∧Pav.get h b=some (.cells zl es true true)∧Pav.get h' (ρ b)=some (.cells zl es' true)∧¬ V b∧A b ∧
  Rel2 (Rel2 (VW ρ V A)) es es'∧(∀ e ∈ es,∀ x ∈ e,isC x=true)∧es.length=len∧es'.length=len∧(es'.length+xs'.length) * (bytes+1)≤maxBytes∧(es'++xs').all (fun e=>e.all flat)=true∧v=.ro zl (es++xs) false∧VW ρ V A v (.ro zl (es'++xs') false):=by
 unfold snapOfW at h2
 split at h2
 case h_2=>cases h2
 rename_i b z' i len cap ex
 split at h2
 case h_2=>cases h2
 rename_i zb es mu dt hg
 split at h2
 case isFalse=>cases h2
 rename_i hc
 obtain ⟨rfl,rfl,rfl,rfl,rfl,rfl,hne,hbb,hfl⟩:=hc
 cases h2
 generalize hn:es.length=n at hv
 cases hv with
 | slv _ _ _ _ hA hV hv =>
  obtain ⟨z0,mu0,dt0,e0⟩:=H.virt b _ hg hV
  cases e0
  simp at hne
 | sl _ _ _ _ _ _ ex' hA hV hx =>
  obtain ⟨o',ho',es',mu',rfl,r1,r2,r3⟩:=H.obj b _ hg hV
  cases r1 rfl
  have hR:Rel2 (Rel2 (VW ρ V A)) (es++xs) (es'++xs'):=r2.append q2
  have hC:∀ e ∈ es++xs,∀ x ∈ e,isC x=true:=by
   intro e he x hx
   rcases List.mem_append.1 he with q | q
   · exact r3 rfl e q x hx
   · exact q3 e q x hx
  have hfl':(es'++xs').all (fun e=>e.all flat)=true:=by
   rw [List.all_eq_true]
   intro e' he'
   rw [List.all_eq_true]
   intro x' hx'
   obtain ⟨i,hi⟩:=List.mem_iff_getElem?.1 he'
   obtain ⟨j,hj⟩:=List.mem_iff_getElem?.1 hx'
   obtain ⟨e,p1,p2⟩:=hR.get' hi
   obtain ⟨x,p3,p4⟩:=p2.get' hj
   exact flat_vw p4 (List.all_eq_true.1 (List.all_eq_true.1 hfl _ (List.mem_of_getElem? p1)) _ (List.mem_of_getElem? p3))
  refine ⟨b,n,cap,ex,ex',es,es',rfl,rfl,hg,ho',hV,hA,r2,r3 rfl,hn,r2.1.symm.trans hn,by rw [← r2.1,← q2.1];exact hbb,hfl',rfl,?_⟩
  exact .ro _ _ _ _ _ hC hR.1 (fun q=>q) (fun i e e' h3 h4=>(hR.2 i e e' h3 h4).1) (fun i e e' j x x' h3 h4 h5 h6 =>
   ((hR.2 i e e' h3 h4).2 j x x' h5 h6).isC (hC _ (List.mem_of_getElem? h3) _ (List.mem_of_getElem? h5)))
theorem frzApp_vw {ρ:Nat→Nat} {V A:Nat→Prop} {n m:Nat} {h:WHeap} {h':Heap} (H:HW ρ V A h h') (hn:¬ A n) (hm:∀ b,A b→¬ V b→ρ b≠m) {zl bytes:Nat} {s sv:AV} {xs xs':List (List AV)} {d:Bool} {r:AV × WUpd} (hv:VW ρ V A s sv)
 (q2:Rel2 (Rel2 (VW ρ V A)) xs xs') (q3:d=true→∀ e ∈ xs,∀ x ∈ e,isC x=true) (he:wFrzApp h zl bytes xs d s=some r):∃ r',frzApp h' zl bytes xs' sv=some r'∧Ok2 ρ V A n m h h' r r':=by
 unfold wFrzApp at he
 split at he
 case isFalse=>cases he
 rename_i hd
 obtain ⟨v,h1,h2⟩:=ob_some he
 obtain ⟨u,h3,rfl⟩:=om_some h2
 obtain ⟨b,len,cap,ex,ex',es,es',rfl,rfl,hg,ho',hV,hA,hR,hD,hlen,hlen',hbb,hfl,rfl,hvw⟩:=snapOf_vw H hv q2 (q3 hd) h1
 simp only [frzMark,hg,Option.some.injEq] at h3
 subst h3
 refine ⟨_,by simp only [frzApp,ho'];rw [if_pos ⟨trivial,trivial,trivial,trivial,hlen',hbb,hfl⟩],?_,?_,fun c hc=>(by simp at hc;subst hc;exact ⟨b,by simp,((up_mono (V:=V) hn b hA).2.1).symm,hV,.inl hA⟩)⟩
 · exact hvw.mono (up_mono hn)
 · exact HW.up (write_ok H hA hV ⟨es',false,rfl,fun q=>(by cases q),hR,fun _=>hD⟩) hn hm
theorem stepW_ok (he:EW ρ V A e e') (H:HW ρ V A h h') (hn:¬ A n) (hm:∀ b,A b→¬ V b→ρ b≠m) {op:COp} (ho:okOp op=true) {r:AV × WUpd} (hs:stepW op e h n=some r) :
 ∃ r',stepOp (erOp op) e' h' m=some r'∧Ok2 ρ V A n m h h' r r':=by
 have hVn:¬ V n:=fun q=>hn (H.sub n q)
 have un:up ρ n m n=m:=by simp [up]
 have hu:=up_mono (ρ:=ρ) (V:=V) (m:=m) hn
 have wrn:∀ {o:WObj} {o':AObj} {v:AV} {v':AV},∀ b ∈ ((v',[(m,some o')]):AV × Upd).2.map (·.1),∃ c ∈ ((v,[(n,some o)]):AV × WUpd).2.map (·.1),b=up ρ n m c∧¬ V c∧addN A n c:=by
  intro o o' v v' b hb
  simp at hb;subst hb
  exact ⟨n,by simp,un.symm,hVn,.inr rfl⟩
 have wro:∀ {b:Nat} {o:WObj} {o':AObj} {v:AV} {v':AV},A b→¬ V b→∀ c ∈ ((v',[(ρ b,some o')]):AV × Upd).2.map (·.1),∃ c2 ∈ ((v,[(b,some o)]):AV × WUpd).2.map (·.1),c=up ρ n m c2∧¬ V c2∧addN A n c2:=by
  intro b o o' v v' hA hV c hc
  simp at hc;subst hc
  exact ⟨b,by simp,((hu b hA).2.1).symm,hV,.inl hA⟩
 have zok:∀ {z:List AV},okL z=true→Rel2 (VW (up ρ n m) V (addN A n)) z (erL z):=fun q=>okL_vw _ q
 have allC:∀ {z:List AV},(z.all isC)=true→∀ x ∈ z,isC x=true:=fun q x hx=>List.all_eq_true.1 q x hx
 cases op with
 | mv x =>
  obtain ⟨v,u,h1,rfl⟩:=plainW_some hs
  simp only [sMv,Option.some.injEq,Prod.mk.injEq] at h1
  obtain ⟨rfl,rfl⟩:=h1
  exact ⟨_,rfl,plain_ok H hn hm (he.opd ho)⟩
 | pick c a b =>
  simp only [okOp,Bool.and_eq_true] at ho
  obtain ⟨v,u,h1,rfl⟩:=plainW_some hs
  simp only [sPick] at h1
  split at h1
  · rename_i t hc
    simp only [Option.some.injEq,Prod.mk.injEq] at h1
    obtain ⟨rfl,rfl⟩:=h1
    have hc':=he.opd ho.1
    rw [hc] at hc'
    refine ⟨_,by simp only [stepOp,erOp,sPick,hc'.bool_inv];rfl,plain_ok H hn hm ?_⟩
    cases t with
    | true=>exact he.opd ho.2.1
    | false=>exact he.opd ho.2.2
  · cases h1
 | alloc z =>
  simp only [stepW,wAlloc,Option.some.injEq] at hs
  subst hs
  have hz:=okL_vw (ρ:=up ρ n m) (V:=V) (A:=addN A n) z ho
  refine ⟨_,rfl,?_,?_,wrn⟩
  · have:=VW.ptr (ρ:=up ρ n m) (V:=V) (A:=addN A n) n 0 0 (.inr rfl) hVn
    rw [un] at this;exact this
  · refine new_ok H hn hm ?_
    simp only [← hz.1]
    exact ⟨_,true,rfl,fun _=>rfl,.cons hz .nil,fun q e he x hx=>by simp at he;subst he;exact allC q x hx⟩
 | box x =>
  simp only [stepW,wBox,boxedW] at hs
  split at hs
  · rename_i hc
    cases hs
    obtain ⟨h1,h2⟩:=(he.opd ho).cells hc
    refine ⟨_,by simp only [stepOp,erOp,sBox,boxed,if_pos h2];rfl,?_,?_,wrn⟩
    · have:=VW.ptr (ρ:=up ρ n m) (V:=V) (A:=addN A n) n 0 0 (.inr rfl) hVn
      rw [un] at this;exact this
    · refine new_ok H hn hm ?_
      simp only [← h1.1]
      exact ⟨_,true,rfl,fun _=>rfl,.cons (h1.mono fun x x' _ h=>h.mono hu) .nil,fun q e he x hx=>by simp at he;subst he;exact allC q x hx⟩
  · cases hs
 | build z ps =>
  simp only [okOp,Bool.and_eq_true] at ho
  obtain ⟨v,u,h1,rfl⟩:=plainW_some hs
  obtain ⟨cs,h2,h3⟩:=om_some h1
  cases h3
  obtain ⟨r',h4,h5⟩:=fillC_vw he ps z _ cs ho.2 (okL_vw z ho.1) h2
  exact ⟨_,by simp only [stepOp,erOp,sBuild,h4];rfl,plain_ok H hn hm (VW.mkagg h5)⟩
 | buildS z len ps =>
  simp only [okOp,Bool.and_eq_true] at ho
  simp only [stepW,wBuildS] at hs
  obtain ⟨es,h1,rfl⟩:=om_some hs
  have hz:=okL_vw (ρ:=ρ) (V:=V) (A:=A) z ho.1
  obtain ⟨es',h4,h5⟩:=fillS_vw he z.length ps (List.replicate len z) (List.replicate len (erL z)) es ho.2 (.replicate hz len) h1
  refine ⟨_,by simp only [stepOp,erOp,sBuildS,← hz.1,h4];rfl,?_,?_,wrn⟩
  · have:=VW.sl (ρ:=up ρ n m) (V:=V) (A:=addN A n) n z.length 0 len len true true (.inr rfl) hVn id
    rw [un] at this;exact this
  · refine new_ok H hn hm ?_
    exact ⟨_,true,rfl,fun _=>rfl,h5.mono fun e e' _ h=>h.mono fun x x' _ h=>h.mono hu,fun q e he x hx=>by
     simp only [List.all_eq_true] at q
     exact q e he x hx⟩
 | load k ag a =>
  obtain ⟨v,h1,rfl⟩:=ovW_some hs
  have ha:=he.opd (x:=a) ho
  have key:∃ v',loadOf k ag h' ((erO a).ev e')=some v'∧VW ρ V A v v':=by
   cases hx:a.ev e with
   | rop cs =>
    rw [hx] at ha h1
    obtain ⟨cs',q,hr⟩:=ha.rop_inv
    rw [q]
    obtain ⟨v',h2,h3⟩:=loadC_vw hr h1
    exact ⟨v',h2,h3.data⟩
   | ptr b i o =>
    rw [hx] at ha h1
    obtain ⟨q,hA,hV⟩:=ha.ptr_inv
    rw [q]
    simp only [wLoadOf] at h1
    unfold wLoadAt at h1
    split at h1
    · rename_i z es mu dt hg
      obtain ⟨cs,h2,h3⟩:=ob_some h1
      obtain ⟨o',g1,es',mu',rfl,_,ge,_⟩:=H.obj b _ hg hV
      obtain ⟨cs',h4,h5⟩:=ge.get h2
      obtain ⟨v',h6,h7⟩:=loadC_vw (h5.drop o) h3
      exact ⟨v',by simp only [loadOf,g1,loadAt,h4,ob];exact h6,h7⟩
    · cases h1
   | _=>rw [hx] at h1;simp [wLoadOf] at h1
  obtain ⟨v',h2,h3⟩:=key
  exact ⟨_,ov_of h2,plain_ok H hn hm h3⟩
 | store k a x =>
  simp only [okOp,Bool.and_eq_true] at ho
  simp only [stepW,wStore] at hs
  split at hs
  · rename_i hc
    obtain ⟨c1,c2⟩:=(he.opd ho.2).cells hc.2
    have ha:=he.opd ho.1
    cases hx:a.ev e with
    | ptr b i o =>
     rw [hx] at ha hs
     obtain ⟨q,hA,hV⟩:=ha.ptr_inv
     simp only [wStoreOf] at hs
     unfold wStoreAt at hs
     split at hs
     · rename_i z es mu dt hg
       split at hs
       · rename_i hmu
         obtain ⟨cs,h2,h3⟩:=ob_some hs
         split at h3
         · rename_i hl
           cases h3
           obtain ⟨o',g1,es',mu',rfl,gm,ge,gd⟩:=H.obj b _ hg hV
           obtain ⟨cs',h4,h5⟩:=ge.get h2
           refine ⟨_,by simp only [stepOp,erOp,sStore,← c1.1];rw [if_pos ⟨hc.1,c2⟩,q];simp only [storeOf,g1,storeAt,gm hmu,if_true,h4,ob,← h5.1];rw [if_pos hl],?_,?_,wro hA hV⟩
           · exact VW.mktup .nil
           · refine HW.up (write_ok H hA hV ?_) hn hm
             refine ⟨_,true,rfl,fun _=>rfl,ge.set (splice_vw h5 c1 o),fun q e he x hx=>?_⟩
             simp only [Bool.and_eq_true,List.all_eq_true] at q
             rcases List.mem_or_eq_of_mem_set he with q2 | rfl
             · exact gd q.1 e q2 x hx
             · unfold splice at hx
               simp only [List.mem_append] at hx
               rcases hx with q3 | q3 | q3
               · exact gd q.1 cs (List.mem_of_getElem? h2) x (List.mem_of_mem_take q3)
               · exact q.2 x q3
               · exact gd q.1 cs (List.mem_of_getElem? h2) x (List.mem_of_mem_drop q3)
         · cases h3
       · cases hs
     · cases hs
    | _=>rw [hx] at hs;simp [wStoreOf] at hs
  · cases hs
 | nilchk x =>
  obtain ⟨v,u,h1,rfl⟩:=plainW_some hs
  have hx:=he.opd (x:=x) ho
  simp only [sNilchk] at h1
  split at h1
  · rename_i b i o hc
    cases h1
    rw [hc] at hx
    exact ⟨_,by simp only [stepOp,erOp,sNilchk,hx.ptr_inv.1],plain_ok H hn hm (hx.ptr_inv.1 ▸ hx)⟩
  · rename_i cs hc
    cases h1
    rw [hc] at hx
    obtain ⟨cs',q,_⟩:=hx.rop_inv
    exact ⟨_,by simp only [stepOp,erOp,sNilchk,q],plain_ok H hn hm (q ▸ hx)⟩
  · rename_i f cs hc
    split at h1
    · rename_i hlt
      cases h1
      rw [hc] at hx
      obtain ⟨cs',q,_⟩:=hx.fn_inv
      exact ⟨_,by simp only [stepOp,erOp,sNilchk,q,if_pos hlt],plain_ok H hn hm (q ▸ hx)⟩
    · cases h1
  · cases h1
 | bin op x y =>
  simp only [okOp,Bool.and_eq_true] at ho
  obtain ⟨v,u,h1,rfl⟩:=plainW_some hs
  obtain ⟨h2,h3⟩:=evBin_vw (he.opd ho.1) (he.opd ho.2) (ov_some' h1)
  exact ⟨_,ov_of h2,plain_ok H hn hm h3⟩
 | eqv kd ks ne x y =>
  simp only [okOp,Bool.and_eq_true] at ho
  simp only [stepW] at hs
  split at hs
  · rename_i hk
    subst hk
    obtain ⟨b,h1,rfl⟩:=om_some hs
    refine ⟨_,by simp only [stepOp,erOp,sEqv,eqVals,if_true,wEqSl_vw (he.opd ho.1) (he.opd ho.2) h1];rfl,plain_ok H hn hm (.bool _)⟩
  · rename_i hk
    obtain ⟨v,u,h1,rfl⟩:=plainW_some hs
    obtain ⟨b,h2,h3⟩:=om_some h1
    cases h3
    exact ⟨_,by simp only [stepOp,erOp,sEqv,eqVals_vw (he.opd ho.1) (he.opd ho.2) hk h2];rfl,plain_ok H hn hm (.bool _)⟩
 | un op x =>
  obtain ⟨v,u,h1,rfl⟩:=plainW_some hs
  obtain ⟨h2,h3⟩:=evUn_vw (he.opd (x:=x) ho) (ov_some' h1)
  exact ⟨_,ov_of h2,plain_ok H hn hm h3⟩
 | cvt k x =>
  obtain ⟨v,u,h1,rfl⟩:=plainW_some hs
  have hx:=he.opd (x:=x) ho
  simp only [sCvt] at h1
  split at h1
  · rename_i k' q hc
    cases h1
    rw [hc] at hx
    exact ⟨_,by simp only [stepOp,erOp,sCvt,hx.int_inv],plain_ok H hn hm (.int _ _)⟩
  · cases h1
 | cvs x =>
  obtain ⟨v,u,h1,rfl⟩:=plainW_some hs
  have hx:=he.opd (x:=x) ho
  simp only [sCvs] at h1
  split at h1
  · rename_i q hc
    cases h1
    rw [hc] at hx
    exact ⟨_,by simp only [stepOp,erOp,sCvs,hx.str_inv],plain_ok H hn hm (.str _)⟩
  · cases h1
 | cvb x =>
  obtain ⟨v,u,h1,rfl⟩:=plainW_some hs
  have hx:=he.opd (x:=x) ho
  simp only [sCvb] at h1
  have h1:=ov_some' h1
  cases hxv:x.ev e <;> rw [hxv] at h1 hx <;> simp only [evCvb] at h1 <;> try (cases h1;done)
  · cases h1
    have q:(erO x).ev e'=.nils:=by
     generalize (erO x).ev e'=u at hx
     cases hx;rfl
    exact ⟨_,ov_of (by rw [q];rfl),plain_ok H hn hm (.str _)⟩
  · rename_i z es ex
    split at h1
    · rename_i hz
      subst hz
      obtain ⟨s,hb,rfl⟩:=om_some h1
      rcases hx.ro_inv with ⟨q2,q1⟩ | ⟨es',ex',q1,q3,q2,q4⟩
      · subst q2
        simp only [bytesOf,Option.some.injEq] at hb
        subst hb
        exact ⟨_,ov_of (by rw [q1];rfl),plain_ok H hn hm (.str _)⟩
      · have hb':bytesOf es'=some s:=by
         have key:∀ (es es':List (List AV)) (s:List UInt8),Rel2 (Rel2 (VD ρ V)) es es'→bytesOf es=some s→bytesOf es'=some s:=by
          intro es
          induction es with
          | nil=>intro es' s hr hb;rw [hr.inv_nil];exact hb
          | cons c r ih =>
           intro es' s hr hb
           obtain ⟨c',t,rfl,h2,h3⟩:=hr.inv_cons
           simp only [bytesOf] at hb
           split at hb
           · obtain ⟨s',h4,rfl⟩:=om_some hb
             obtain ⟨a,b,rfl,h5,h6⟩:=h2.inv_cons
             rw [h6.inv_nil,h5.int_inv]
             simp only [bytesOf,ih t s' h3 h4,om]
           · cases hb
         exact key es es' s q2 hb
        exact ⟨_,ov_of (by rw [q1];simp only [evCvb,if_true,hb',om]),plain_ok H hn hm (.str _)⟩
    · cases h1
 | mkfn f caps =>
  obtain ⟨v,u,h1,rfl⟩:=plainW_some hs
  simp only [sMkfn] at h1
  split at h1
  · rename_i hc
    cases h1
    simp only [okOp,List.all_eq_true] at ho hc
    have rel:Rel2 (VW ρ V A) (caps.map fun x=>x.ev e) ((caps.map erO).map fun x=>x.ev e'):=by
     rw [List.map_map]
     refine ⟨by simp,fun j x x' h1 h2=>?_⟩
     rw [List.getElem?_map] at h1 h2
     cases h3:caps[j]? with
     | none=>rw [h3] at h1;cases h1
     | some c=>rw [h3] at h1 h2;cases h1;cases h2;exact he.opd (ho c (List.mem_of_getElem? h3))
    have c2:((caps.map erO).all fun x=>(x.ev e').cell||(decide (1000000 < f)&&(x.ev e').isAg))=true:=by
     simp only [List.all_map,List.all_eq_true]
     intro c hcc
     have hx:=he.opd (ho c hcc)
     have hcc':=hc c hcc
     rw [Bool.or_eq_true,Bool.and_eq_true] at hcc'
     rcases hcc' with q | q
     · simp only [Function.comp,hx.cell q,Bool.true_or]
     · have q2:=q.2
       unfold AV.isAg at q2
       split at q2
       · rename_i hcc
         rw [hcc] at hx
         obtain ⟨d,e1,_⟩:=hx.agg_inv
         simp only [Function.comp,e1,AV.isAg,q.1,Bool.and_self,Bool.or_true]
       · cases q2
    exact ⟨_,by simp only [stepOp,erOp,sMkfn,if_pos c2],plain_ok H hn hm (VW.mkfn rel)⟩
  · cases h1
 | mkmap =>
  simp only [stepW,wMkmap,Option.some.injEq] at hs
  subst hs
  refine ⟨_,rfl,?_,new_ok H hn hm ⟨[],rfl,.nil⟩,wrn⟩
  have:=VW.map (ρ:=up ρ n m) (V:=V) (A:=addN A n) n (.inr rfl) hVn
  rw [un] at this;exact this
 | mksl z bytes l c =>
  simp only [okOp,Bool.and_eq_true] at ho
  simp only [stepW,wMksl] at hs
  have hl:=he.opd ho.2.1
  have hc:=he.opd ho.2.2
  split at hs
  · rename_i k1 l1 k2 c1 e1 e2
    rw [e1] at hl
    rw [e2] at hc
    obtain ⟨l2,h1,h⟩:=ob_some hs
    obtain ⟨c2,h2,h⟩:=ob_some h
    split at h
    · rename_i hb
      cases h
      have hz:=okL_vw (ρ:=up ρ n m) (V:=V) (A:=addN A n) z ho.1
      refine ⟨_,by simp only [stepOp,erOp,sMksl,hl.int_inv,hc.int_inv,h1,h2,ob,if_pos hb];rfl,?_,?_,wrn⟩
      · have:=VW.sl (ρ:=up ρ n m) (V:=V) (A:=addN A n) n z.length 0 l2 c2 true true (.inr rfl) hVn id
        rw [un] at this
        simp only [← hz.1];exact this
      · refine new_ok H hn hm ?_
        simp only [← hz.1]
        exact ⟨_,true,rfl,fun _=>rfl,.replicate hz _,fun q e he x hx=>by
         rw [List.eq_of_mem_replicate he] at hx
         exact allC q x hx⟩
    · cases h
  · cases hs
 | sliceA n' x lo hi =>
  simp only [okOp,Bool.and_eq_true] at ho
  have hx:=he.opd (x:=x) ho.1
  simp only [stepW,wSliceA] at hs
  cases hxv:x.ev e <;> rw [hxv] at hs hx <;> simp only [wSliceOf] at hs <;> try (cases hs;done)
  · rename_i cs
    obtain ⟨r,hr,q⟩:=om_some hs
    cases q
    obtain ⟨cs',q,hc⟩:=hx.rop_inv
    obtain ⟨v',h2,h3⟩:=sliceArr_vw (hc.mono fun _ _ _ hx=>hx.mono fun _ q=>q.elim) (oev_vw he ho.2.1) (oev_vw he ho.2.2) hr
    exact ⟨_,by simp only [stepOp,erOp,sSliceA,q,evSliceA,h2,om],plain_ok H hn hm h3⟩
  · rename_i b i o
    unfold wSliceAt at hs
    split at hs
    case h_2=>cases hs
    rename_i z es mu dt hg
    obtain ⟨cs,hcs,hs⟩:=ob_some hs
    obtain ⟨r,hr,q⟩:=om_some hs
    cases q
    obtain ⟨q,hA,hV⟩:=hx.ptr_inv
    obtain ⟨o',g1,es',mu',rfl,gm,ge,gd⟩:=H.obj b _ hg hV
    obtain ⟨cs',h4,h5⟩:=ge.get hcs
    obtain ⟨v',h2,h3⟩:=sliceArr_vw (h5.drop o) (oev_vw he ho.2.1) (oev_vw he ho.2.2) hr
    refine ⟨_,by simp only [stepOp,erOp,sSliceA,q,evSliceA,g1,sliceAt,h4,ob,h2,om];rfl,?_,?_,wro hA hV⟩
    · exact h3.mono fun c hc=>⟨(hu c hc).1,(hu c hc).2.1,(hu c hc).2.2⟩
    · refine HW.up (write_ok H hA hV ?_) hn hm
      exact ⟨_,false,rfl,id,ge,gd⟩
 | slice z x lo hi mx =>
  simp only [okOp,Bool.and_eq_true] at ho
  obtain ⟨v,u,h1,rfl⟩:=plainW_some hs
  obtain ⟨v',h2,h3⟩:=evSlice_vw (he.opd ho.1) (oev_vw he ho.2.1) (oev_vw he ho.2.2.1) (oev_vw he ho.2.2.2) (ov_some' h1)
  exact ⟨_,ov_of h2,plain_ok H hn hm h3⟩
 | fld off x =>
  obtain ⟨v,u,h1,rfl⟩:=plainW_some hs
  have hx:=he.opd (x:=x) ho
  simp only [sFld] at h1
  split at h1
  · rename_i cs hc
    cases h1
    rw [hc] at hx
    obtain ⟨cs',q,hr⟩:=hx.rop_inv
    exact ⟨_,by simp only [stepOp,erOp,sFld,q],plain_ok H hn hm (VW.mkrop (hr.drop off))⟩
  · rename_i b i o hc
    cases h1
    rw [hc] at hx
    obtain ⟨q,hA,hV⟩:=hx.ptr_inv
    exact ⟨_,by simp only [stepOp,erOp,sFld,q],plain_ok H hn hm (.ptr _ _ _ hA hV)⟩
  · cases h1
 | fldv off k ag x =>
  obtain ⟨v,u,h1,rfl⟩:=plainW_some hs
  have hx:=he.opd (x:=x) ho
  simp only [sFldv] at h1
  split at h1
  · rename_i cs hc
    rw [hc] at hx
    obtain ⟨cs',q,hr⟩:=hx.agg_inv
    obtain ⟨v',h2,h3⟩:=loadC_vw (hr.drop off) (ov_some' h1)
    exact ⟨_,by simp only [stepOp,erOp,sFldv,q];exact ov_of h2,plain_ok H hn hm h3⟩
  · cases h1
 | idxs z x i =>
  simp only [okOp,Bool.and_eq_true] at ho
  obtain ⟨v,u,h1,rfl⟩:=plainW_some hs
  have hx:=he.opd ho.1
  have hi:=he.opd ho.2
  simp only [sIdxs] at h1
  split at h1
  · rename_i k q hc
    rw [hc] at hi
    obtain ⟨j,h2,h3⟩:=ob_some h1
    simp only [stepOp,erOp,sIdxs,hi.int_inv,h2,ob]
    cases hxe:x.ev e with
    | ro z' es ex =>
     rw [hxe] at hx h3
     simp only [idxsAt] at h3
     split at h3
     · rename_i hz
       obtain ⟨cs,h4,h5⟩:=ob_some h3
       cases h5
       rcases hx.ro_inv with ⟨rfl,_⟩ | ⟨es',ex',q,_,hr,hd⟩
       · simp at h4
       · obtain ⟨cs',h6,h7⟩:=hr.get h4
         exact ⟨_,by simp only [q,idxsAt,if_pos hz,h6,ob],plain_ok H hn hm (VW.mkrop h7)⟩
     · cases h3
    | sl b z' j2 len cap ex =>
     rw [hxe] at hx h3
     simp only [idxsAt] at h3
     split at h3
     · rename_i hz
       cases h3
       rcases hx.sl_inv with ⟨hA,hV,ex',q,_⟩ | ⟨_,_,_,rfl,_,_⟩
       · exact ⟨_,by simp only [q,idxsAt,if_pos hz],plain_ok H hn hm (.ptr _ _ _ hA hV)⟩
       · omega
     · cases h3
    | _=>rw [hxe] at h3;simp [idxsAt] at h3
  · cases h1
 | idxa len z x i =>
  simp only [okOp,Bool.and_eq_true] at ho
  obtain ⟨v,u,h1,rfl⟩:=plainW_some hs
  have hx:=he.opd ho.1
  have hi:=he.opd ho.2
  simp only [sIdxa] at h1
  split at h1
  · rename_i k q hc
    rw [hc] at hi
    obtain ⟨j,h2,h3⟩:=ob_some h1
    split at h3
    · rename_i hj
      simp only [stepOp,erOp,sIdxa,hi.int_inv,h2,ob,if_pos hj]
      cases hxe:x.ev e with
      | rop cs =>
       rw [hxe] at hx h3
       simp only [idxaAt,Option.some.injEq,Prod.mk.injEq] at h3
       obtain ⟨rfl,_⟩:=h3
       obtain ⟨cs',q,hr⟩:=hx.rop_inv
       exact ⟨_,by simp only [q,idxaAt],plain_ok H hn hm (VW.mkrop (hr.drop _))⟩
      | ptr b j2 o =>
       rw [hxe] at hx h3
       simp only [idxaAt,Option.some.injEq,Prod.mk.injEq] at h3
       obtain ⟨rfl,_⟩:=h3
       obtain ⟨q,hA,hV⟩:=hx.ptr_inv
       exact ⟨_,by simp only [q,idxaAt],plain_ok H hn hm (.ptr _ _ _ hA hV)⟩
      | _=>rw [hxe] at h3;simp [idxaAt] at h3
    · cases h3
  · cases h1
 | idxstr x i =>
  simp only [okOp,Bool.and_eq_true] at ho
  obtain ⟨v,u,h1,rfl⟩:=plainW_some hs
  have hx:=he.opd ho.1
  have hi:=he.opd ho.2
  simp only [sIdxstr] at h1
  split at h1
  · rename_i s k q hc1 hc2
    rw [hc1] at hx
    rw [hc2] at hi
    obtain ⟨j,h2,h3⟩:=ob_some h1
    obtain ⟨c,h4,h5⟩:=ob_some h3
    cases h5
    exact ⟨_,by simp only [stepOp,erOp,sIdxstr,hx.str_inv,hi.int_inv,h2,ob,h4],plain_ok H hn hm (.int _ _)⟩
  · cases h1
 | idxv len z ag x i =>
  simp only [okOp,Bool.and_eq_true] at ho
  obtain ⟨v,u,h1,rfl⟩:=plainW_some hs
  have hx:=he.opd ho.1
  have hi:=he.opd ho.2
  simp only [sIdxv] at h1
  split at h1
  · rename_i cs k q hc1 hc2
    rw [hc1] at hx
    rw [hc2] at hi
    obtain ⟨j,h2,h3⟩:=ob_some h1
    split at h3
    · rename_i hj
      obtain ⟨cs',q,hr⟩:=hx.agg_inv
      obtain ⟨v',h4,h5⟩:=loadC_vw (hr.drop _) (ov_some' h3)
      exact ⟨_,by simp only [stepOp,erOp,sIdxv,q,hi.int_inv,h2,ob,if_pos hj];exact ov_of h4,plain_ok H hn hm h5⟩
    · cases h3
  · cases h1
 | look kd z ok mp k =>
  simp only [okOp,Bool.and_eq_true] at ho
  simp only [stepW,wLook] at hs
  split at hs
  · rename_i hk
    have hmp:=he.opd ho.2.1
    have hkk:=keyOk_vw (he.opd ho.2.2) hk
    have hz:=okV_vw (ρ:=ρ) (V:=V) (A:=A) z ho.1
    split at hs
    · rename_i hc
      cases hs
      rw [hc] at hmp
      cases hnm:(erO mp).ev e' <;> rw [hnm] at hmp <;> cases hmp
      exact ⟨_,by simp only [stepOp,erOp,sLook,hkk,if_pos hk,hnm],plain_ok H hn hm (found_vw hz (r:=none) (r':=none) trivial ok)⟩
    · rename_i b hc
      rw [hc] at hmp
      obtain ⟨q,hA,hV⟩:=hmp.map_inv
      obtain ⟨v,h1,rfl⟩:=ovW_some hs
      unfold wLookIn at h1
      split at h1
      · rename_i es hg
        obtain ⟨r,h2,rfl⟩:=om_some h1
        obtain ⟨o',g1,es',rfl,hr⟩:=H.obj b _ hg hV
        obtain ⟨r',h3,h4⟩:=mapGet_vw (A:=A) hr h2
        refine ⟨_,by simp only [stepOp,erOp,sLook,hkk,if_pos hk,q,g1,lookIn,h3,om,ov],plain_ok H hn hm (found_vw hz h4 ok)⟩
      · cases h1
    · cases hs
  · cases hs
 | upd kd mp k v =>
  simp only [okOp,Bool.and_eq_true] at ho
  simp only [stepW,wUpd] at hs
  split at hs
  · rename_i hk
    have hmp:=he.opd ho.1
    have hkk:=keyOk_vw (he.opd ho.2.1) hk.1
    have hv:=(he.opd ho.2.2).isD (ρ':=ρ) (V':=V) (A':=fun _=>False) hk.2
    split at hs
    · rename_i b hc
      rw [hc] at hmp
      obtain ⟨q,hA,hV⟩:=hmp.map_inv
      unfold wUpdIn at hs
      split at hs
      · rename_i es hg
        obtain ⟨r,h2,rfl⟩:=om_some hs
        obtain ⟨o',g1,es',rfl,hr⟩:=H.obj b _ hg hV
        obtain ⟨r',h3,h4⟩:=mapPut_vw hr hv h2
        refine ⟨_,by simp only [stepOp,erOp,sUpd,hkk,if_pos hk.1,q,g1,updIn,h3,om];rfl,VW.mktup .nil,?_,wro hA hV⟩
        exact HW.up (write_ok H hA hV ⟨_,rfl,h4⟩) hn hm
      · cases hs
    · cases hs
  · cases hs
 | range x =>
  simp only [stepW,wRange] at hs
  have hx:=he.opd (x:=x) ho
  split at hs
  · rename_i s hc
    cases hs
    rw [hc] at hx
    refine ⟨(.ptr m 0 0,[(m,some (.iter s 0))]),by simp only [stepOp,erOp,sRange,hx.str_inv],?_,new_ok H hn hm (show OW _ _ _ (.iter s 0) (.iter s 0) from rfl),wrn⟩
    have:=VW.ptr (ρ:=up ρ n m) (V:=V) (A:=addN A n) n 0 0 (.inr rfl) hVn
    rw [un] at this;exact this
  · cases hs
 | next x =>
  simp only [stepW,wNext] at hs
  have hx:=he.opd (x:=x) ho
  split at hs
  · rename_i b hc
    rw [hc] at hx
    obtain ⟨q,hA,hV⟩:=hx.ptr_inv
    unfold wNextIter at hs
    split at hs
    · rename_i s pos hg
      obtain ⟨o',g1,rfl⟩:=H.obj b _ hg hV
      split at hs
      · rename_i hp
        cases hs
        refine ⟨_,by simp only [stepOp,erOp,sNext,q,g1,nextIter,if_pos hp];rfl,VW.mktup (.cons (.bool _) (.cons (.int _ _) (.cons (.int _ _) .nil))),?_,wro hA hV⟩
        exact HW.up (write_ok H hA hV rfl) hn hm
      · rename_i hp
        cases hs
        exact ⟨_,by simp only [stepOp,erOp,sNext,q,g1,nextIter,if_neg hp],plain_ok H hn hm (VW.mktup (.cons (.bool _) .nil))⟩
    · cases hs
  · cases hs
 | ext i x =>
  obtain ⟨v,u,h1,rfl⟩:=plainW_some hs
  have hx:=he.opd (x:=x) ho
  simp only [sExt] at h1
  split at h1
  · rename_i vs hc
    rw [hc] at hx
    obtain ⟨vs',q,hr⟩:=hx.tup_inv
    obtain ⟨v',h2,h3⟩:=hr.get (ov_some' h1)
    exact ⟨_,by simp only [stepOp,erOp,sExt,q];exact ov_of h2,plain_ok H hn hm h3⟩
  · rename_i f vs hc
    split at h1
    · rename_i hlt
      rw [hc] at hx
      obtain ⟨vs',q,hr⟩:=hx.fn_inv
      have h1':=ov_some' h1
      cases vs with
      | nil=>cases h1'
      | cons y vs =>
       obtain ⟨z,r,rfl,h3,_⟩:=hr.inv_cons
       cases h1'
       exact ⟨_,by simp only [stepOp,erOp,sExt,q,if_pos hlt];exact ov_of rfl,plain_ok H hn hm h3⟩
    · cases h1
  · cases h1
 | len kd x =>
  obtain ⟨v,h1,rfl⟩:=ovW_some hs
  have hx:=he.opd (x:=x) ho
  have key:evLen kd h' ((erO x).ev e')=some v∧VW ρ V A v v:=by
   cases hxe:x.ev e with
   | str s=>rw [hxe] at hx h1;rw [hx.str_inv];simp only [wEvLen] at h1;split at h1 <;> cases h1;exact ⟨by simp only [evLen];rw [if_pos];assumption,.int _ _⟩
   | nils =>
    rw [hxe] at hx h1
    cases hnm:(erO x).ev e' <;> rw [hnm] at hx <;> cases hx
    simp only [wEvLen] at h1;split at h1 <;> cases h1;exact ⟨by simp only [evLen];rw [if_pos];assumption,.int _ _⟩
   | nilm =>
    rw [hxe] at hx h1
    cases hnm:(erO x).ev e' <;> rw [hnm] at hx <;> cases hx
    simp only [wEvLen] at h1;split at h1 <;> cases h1;exact ⟨by simp only [evLen];rw [if_pos];assumption,.int _ _⟩
   | ro z es ex =>
    rw [hxe] at hx h1
    simp only [wEvLen] at h1;split at h1 <;> cases h1
    rcases hx.ro_inv with ⟨rfl,q⟩ | ⟨es',ex',q,_,hr,_⟩
    · rw [q];exact ⟨by simp only [evLen];rw [if_pos];rfl;assumption,.int _ _⟩
    · rw [q];exact ⟨by simp only [evLen,← hr.1];rw [if_pos];assumption,.int _ _⟩
   | sl b z i len cap ex =>
    rw [hxe] at hx h1
    simp only [wEvLen] at h1;split at h1 <;> cases h1
    rcases hx.sl_inv with ⟨_,_,ex',q,_⟩ | ⟨_,_,_,rfl,_,q⟩
    · rw [q];exact ⟨by simp only [evLen];rw [if_pos];assumption,.int _ _⟩
    · rcases q with q | q
      · rw [q];exact ⟨by simp only [evLen];rw [if_pos];rfl;assumption,.int _ _⟩
      · rw [q];exact ⟨by simp only [evLen,List.length_nil];rw [if_pos];assumption,.int _ _⟩
   | map b =>
    rw [hxe] at hx h1
    obtain ⟨q,hA,hV⟩:=hx.map_inv
    simp only [wEvLen] at h1;split at h1
    · rename_i hk
      unfold wLenMap at h1
      split at h1
      · rename_i es hg
        cases h1
        obtain ⟨o',g1,es',rfl,hr⟩:=H.obj b _ hg hV
        exact ⟨by simp only [q,evLen,if_pos hk,g1,lenMap,hr.1],.int _ _⟩
      · cases h1
    · cases h1
   | _=>rw [hxe] at h1;simp [wEvLen] at h1
  exact ⟨_,ov_of key.1,plain_ok H hn hm key.2⟩
 | cap x =>
  obtain ⟨v,u,h1,rfl⟩:=plainW_some hs
  have hx:=he.opd (x:=x) ho
  have h1:=ov_some' h1
  have key:evCap ((erO x).ev e')=some v∧VW ρ V A v v:=by
   cases hxe:x.ev e with
   | nils =>
    rw [hxe] at hx h1
    cases hnm:(erO x).ev e' <;> rw [hnm] at hx <;> cases hx
    simp only [evCap] at h1;cases h1;exact ⟨rfl,.int _ _⟩
   | ro z es ex =>
    rw [hxe] at hx h1
    simp only [evCap] at h1;split at h1 <;> cases h1
    rename_i hex
    rcases hx.ro_inv with ⟨rfl,q⟩ | ⟨es',ex',q,hxx,hr,_⟩
    · rw [q];exact ⟨rfl,.int _ _⟩
    · rw [q];exact ⟨by simp only [evCap,hxx hex,if_true,← hr.1],.int _ _⟩
   | sl b z i len cap ex =>
    rw [hxe] at hx h1
    simp only [evCap] at h1;split at h1 <;> cases h1
    rename_i hex
    rcases hx.sl_inv with ⟨_,_,ex',q,hxx⟩ | ⟨_,_,_,_,rfl,q⟩
    · rw [q];exact ⟨by simp only [evCap,hxx hex,if_true],.int _ _⟩
    · rcases q with q | q
      · rw [q];exact ⟨rfl,.int _ _⟩
      · rw [q];exact ⟨rfl,.int _ _⟩
   | _=>rw [hxe] at h1;simp [evCap] at h1
  exact ⟨_,ov_of key.1,plain_ok H hn hm key.2⟩
 | app z bytes zeros s x =>
  simp only [okOp,Bool.and_eq_true] at ho
  simp only [stepW,wApp] at hs
  have hz:=okL_vw (ρ:=ρ) (V:=V) (A:=A) z ho.1
  have hss:=he.opd ho.2.1
  have hx:=he.opd ho.2.2
  split at hs
  · rename_i hzz
    split at hs
    · rename_i k q hc
      rw [hc] at hx
      obtain ⟨j,h1,h2⟩:=ob_some hs
      split at h2
      · rename_i hb
        obtain ⟨r',h3,h4⟩:=evApp_vw H hn hm hss (Rel2.replicate hz j) (fun q e he x hx=>by
         rw [List.eq_of_mem_replicate he] at hx
         exact allC q x hx) h2
        exact ⟨r',by simp only [stepOp,erOp,sApp,if_pos hzz,hx.int_inv,h1,ob,if_pos hb,← hz.1];exact h3,h4⟩
      · cases h2
    · cases hs
  · rename_i hzz
    split at hs
    · rename_i hbf
      obtain ⟨⟨xs,d⟩,h1,h2⟩:=ob_some hs
      obtain ⟨xs',h3,h4,h5⟩:=elems_vw H hx h1
      obtain ⟨r',h6,h7⟩:=evApp_vw H hn hm hss h4 h5 h2
      exact ⟨r',by simp only [stepOp,erOp,sApp,if_neg hzz,if_pos hbf,← hz.1,h3,ob];exact h6,h7⟩
    · rename_i hbf
      obtain ⟨⟨xs,d⟩,h1,h2⟩:=ob_some hs
      obtain ⟨xs',h3,h4,h5⟩:=elems_vw H hx h1
      obtain ⟨r',h6,h7⟩:=frzApp_vw H hn hm hss h4 h5 h2
      exact ⟨r',by simp only [stepOp,erOp,sApp,if_neg hzz,if_neg hbf,← hz.1,h3,ob];exact h6,h7⟩
 | cpy z d s =>
  simp only [okOp,Bool.and_eq_true] at ho
  simp only [stepW,wCpy] at hs
  have hd:=he.opd ho.1
  have hss:=he.opd ho.2
  obtain ⟨⟨xs,dd⟩,h1,h2⟩:=ob_some hs
  obtain ⟨xs',h3,h4,h5⟩:=elems_vw H hss h1
  simp only [stepOp,erOp,sCpy,h3,ob]
  cases hde:d.ev e with
  | nils =>
   rw [hde] at hd h2
   cases hnm:(erO d).ev e' <;> rw [hnm] at hd <;> cases hd
   simp only [wCopyIn,Option.some.injEq] at h2;subst h2
   exact ⟨_,rfl,plain_ok H hn hm (.int _ _)⟩
  | ro zr er xr =>
   rw [hde] at hd h2
   cases er with
   | cons _ _=>simp [wCopyIn] at h2
   | nil =>
    simp only [wCopyIn,Option.some.injEq] at h2;subst h2
    generalize (erO d).ev e'=u at hd
    cases hd with
    | ronil=>exact ⟨_,rfl,plain_ok H hn hm (.int _ _)⟩
    | ro _ _ es' _ _ _ hl =>
     obtain rfl:es'=[]:=List.length_eq_zero_iff.1 hl.symm
     exact ⟨_,rfl,plain_ok H hn hm (.int _ _)⟩
  | sl b z' i len cap ex =>
   rw [hde] at hd h2
   simp only [wCopyIn] at h2
   split at h2
   · rename_i hzz
     subst hzz
     split at h2
     · rename_i hmin
       cases h2
       rcases hd.sl_inv with ⟨_,_,ex',q,_⟩ | ⟨hA,hV,rfl,rfl,rfl,q⟩
       · exact ⟨_,by simp only [q,copyIn,if_true,← h4.1,if_pos hmin],plain_ok H hn hm (.int _ _)⟩
       · rcases q with q | q
         · exact ⟨_,by simp only [q,copyIn],plain_ok H hn hm (.int _ _)⟩
         · exact ⟨_,by simp only [q,copyIn],plain_ok H hn hm (.int _ _)⟩
     · rename_i hmin
       rcases hd.sl_inv with ⟨hA,hV,ex',q,_⟩ | ⟨_,_,_,rfl,_,_⟩
       · unfold wCopyTo at h2
         split at h2
         · rename_i zb es mu dt hg
           split at h2
           · rename_i hc
             cases h2
             obtain ⟨o',g1,es',mu',rfl,gm,ge,gd⟩:=H.obj b _ hg hV
             refine ⟨_,by simp only [q,copyIn,if_true,← h4.1,if_neg hmin,g1,copyTo];rw [if_pos ⟨gm hc.1,hc.2.1,by rw [← ge.1];exact hc.2.2⟩],?_,?_,wro hA hV⟩
             · exact .int _ _
             · refine HW.up (write_ok H hA hV ?_) hn hm
               refine ⟨_,true,rfl,fun _=>rfl,(ge.take _).append ((h4.take _).append (ge.drop _)),fun q e he x hx=>?_⟩
               simp only [Bool.and_eq_true] at q
               rcases List.mem_append.1 he with q3 | q3
               · exact gd q.1 e (List.mem_of_mem_take q3) x hx
               · rcases List.mem_append.1 q3 with q3 | q3
                 · exact h5 q.2 e (List.mem_of_mem_take q3) x hx
                 · exact gd q.1 e (List.mem_of_mem_drop q3) x hx
           · cases h2
         · cases h2
       · simp at hmin
   · cases h2
  | _=>rw [hde] at h2;simp [wCopyIn] at h2
 | clr z d =>
  simp only [okOp,Bool.and_eq_true] at ho
  simp only [stepW,wClr] at hs
  have hz:=okL_vw (ρ:=ρ) (V:=V) (A:=A) z ho.1
  have hd:=he.opd ho.2
  simp only [stepOp,erOp,sClr]
  cases hde:d.ev e with
  | nils =>
   rw [hde] at hd hs
   cases hnm:(erO d).ev e' <;> rw [hnm] at hd <;> cases hd
   simp only [wClrIn,Option.some.injEq] at hs;subst hs
   exact ⟨_,rfl,plain_ok H hn hm (.mktup ⟨rfl,by simp⟩)⟩
  | ro zr er xr =>
   rw [hde] at hd hs
   cases er with
   | cons _ _=>simp [wClrIn] at hs
   | nil =>
    simp only [wClrIn,Option.some.injEq] at hs;subst hs
    generalize (erO d).ev e'=u at hd
    cases hd with
    | ronil=>exact ⟨_,rfl,plain_ok H hn hm (.mktup ⟨rfl,by simp⟩)⟩
    | ro _ _ es' _ _ _ hl =>
     obtain rfl:es'=[]:=List.length_eq_zero_iff.1 hl.symm
     exact ⟨_,rfl,plain_ok H hn hm (.mktup ⟨rfl,by simp⟩)⟩
  | sl b z' i len cap ex =>
   rw [hde] at hd hs
   simp only [wClrIn] at hs
   split at hs
   · rename_i hzz
     split at hs
     · rename_i h0
       cases hs
       rcases hd.sl_inv with ⟨_,_,ex',q,_⟩ | ⟨hA,hV,rfl,rfl,rfl,q⟩
       · exact ⟨_,by simp only [q,clrIn,← hz.1,if_pos hzz,if_pos h0],plain_ok H hn hm (.mktup ⟨rfl,by simp⟩)⟩
       · rcases q with q | q
         · exact ⟨_,by simp only [q,clrIn],plain_ok H hn hm (.mktup ⟨rfl,by simp⟩)⟩
         · exact ⟨_,by simp only [q,clrIn],plain_ok H hn hm (.mktup ⟨rfl,by simp⟩)⟩
     · rename_i h0
       rcases hd.sl_inv with ⟨hA,hV,ex',q,_⟩ | ⟨_,_,_,rfl,_,_⟩
       · unfold wClrTo at hs
         split at hs
         · rename_i zb es mu dt hg
           split at hs
           · rename_i hc
             cases hs
             obtain ⟨o',g1,es',mu',rfl,gm,ge,gd⟩:=H.obj b _ hg hV
             refine ⟨_,by simp only [q,clrIn,← hz.1,if_pos hzz,if_neg h0,g1,clrTo];rw [if_pos ⟨gm hc.1,hc.2.1,by rw [← ge.1];exact hc.2.2⟩],?_,?_,wro hA hV⟩
             · exact .mktup ⟨rfl,by simp⟩
             · refine HW.up (write_ok H hA hV ?_) hn hm
               refine ⟨_,true,rfl,fun _=>rfl,(ge.take _).append ((Rel2.replicate hz len).append (ge.drop _)),fun q e he x hx=>?_⟩
               simp only [Bool.and_eq_true] at q
               rcases List.mem_append.1 he with q3 | q3
               · exact gd q.1 e (List.mem_of_mem_take q3) x hx
               · rcases List.mem_append.1 q3 with q3 | q3
                 · rw [List.eq_of_mem_replicate q3] at hx
                   exact allC q.2 x hx
                 · exact gd q.1 e (List.mem_of_mem_drop q3) x hx
           · cases hs
         · cases hs
       · simp at h0
   · cases hs
  | _=>rw [hde] at hs;simp [wClrIn] at hs
 | mx x y =>
  simp only [okOp,Bool.and_eq_true] at ho
  obtain ⟨v,u,h1,rfl⟩:=plainW_some hs
  have hx:=he.opd ho.1
  have hy:=he.opd ho.2
  simp only [sMx] at h1
  split at h1
  · rename_i k a k' b hc1 hc2
    rw [hc1] at hx
    rw [hc2] at hy
    split at h1
    · rename_i hk;cases h1;exact ⟨_,by simp only [stepOp,erOp,sMx,hx.int_inv,hy.int_inv,if_pos hk],plain_ok H hn hm (.int _ _)⟩
    · cases h1
  · cases h1
 | mn x y =>
  simp only [okOp,Bool.and_eq_true] at ho
  obtain ⟨v,u,h1,rfl⟩:=plainW_some hs
  have hx:=he.opd ho.1
  have hy:=he.opd ho.2
  simp only [sMn] at h1
  split at h1
  · rename_i k a k' b hc1 hc2
    rw [hc1] at hx
    rw [hc2] at hy
    split at h1
    · rename_i hk;cases h1;exact ⟨_,by simp only [stepOp,erOp,sMn,hx.int_inv,hy.int_inv,if_pos hk],plain_ok H hn hm (.int _ _)⟩
    · cases h1
  · cases h1
 | call f args=>simp [stepW] at hs
 | callv g args=>simp [stepW] at hs
 | fail=>simp [stepW] at hs
end
end Go.Pw
end
section
set_option linter.unusedSimpArgs false
set_option linter.unusedVariables false
namespace Go.Pw
open Go Go.Pav
section
variable {ρ:Nat→Nat} {V A:Nat→Prop} {h:WHeap} {h':Heap}
theorem mapO_of_rel {α β:Type} {R:α→β→Prop} {f:α→Option α} {g:β→Option β} {T:α→β→Prop} (hf:∀ x y,R x y→∀ x',f x=some x'→∃ y',g y=some y'∧T x' y') :
 ∀ {l:List α} {l':List β} {r:List α},Rel2 R l l'→mapO f l=some r→∃ r',mapO g l'=some r'∧Rel2 T r r':=by
 intro l
 induction l with
 | nil=>intro l' r hr h;rw [hr.inv_nil];simp only [mapO,Option.some.injEq] at h;subst h;exact ⟨[],rfl,.nil⟩
 | cons a l ih =>
  intro l' r hr h
  obtain ⟨b,t,rfl,h1,h2⟩:=hr.inv_cons
  simp only [mapO] at h ⊢
  obtain ⟨x',h3,h⟩:=ob_some h
  obtain ⟨xs',h4,rfl⟩:=om_some h
  obtain ⟨y',h5,h6⟩:=hf _ _ h1 _ h3
  obtain ⟨ys',h7,h8⟩:=ih h2 h4
  exact ⟨y'::ys',by rw [h5,h7];rfl,.cons h6 h8⟩
theorem frz_isC {x u:AV} (hx:VW ρ V A x u) (hc:isC x=true) (n:Nat):frz h' (n+1) u=some u:=by
 cases hx with
 | fn f cs cs' hl hr =>
  cases cs with
  | nil =>
   have:cs'=[]:=List.length_eq_zero_iff.1 (by simpa using hl.symm)
   subst this;rfl
  | cons a r=>simp [isC] at hc
 | undef=>simp [isC] at hc
 | ptr=>simp [isC] at hc
 | sl=>simp [isC] at hc
 | slv=>simp [isC] at hc
 | map=>simp [isC] at hc
 | agg=>simp [isC] at hc
 | tup=>simp [isC] at hc
 | _=>rfl
theorem mapO_id {α:Type} {f:α→Option α}:∀ {l:List α},(∀ x ∈ l,f x=some x)→mapO f l=some l:=by
 intro l
 induction l with
 | nil=>intro _;rfl
 | cons a l ih =>
  intro h
  simp only [mapO,h a List.mem_cons_self,ob,ih (fun x hx=>h x (List.mem_cons_of_mem _ hx)),om]
theorem frz_vw (H:HW ρ V A h h'):∀ (n:Nat) (v u v':AV),VW ρ V A v u→frzW h n v=some v'→∃ u',frz h' n u=some u'∧VD ρ V v' u':=by
 intro n
 induction n with
 | zero=>intro v u v' _ hf;simp [frzW] at hf
 | succ n ih =>
  intro v u v' hv hf
  cases v with
  | undef=>simp [frzW] at hf
  | bool b=>simp only [frzW] at hf;cases hf;rw [hv.bool_inv];exact ⟨_,rfl,.bool b⟩
  | int k x=>simp only [frzW] at hf;cases hf;rw [hv.int_inv];exact ⟨_,rfl,.int k x⟩
  | str s=>simp only [frzW] at hf;cases hf;rw [hv.str_inv];exact ⟨_,rfl,.str s⟩
  | nilp=>simp only [frzW] at hf;cases hf;cases hv;exact ⟨_,rfl,.nilp⟩
  | nils=>simp only [frzW] at hf;cases hf;cases hv;exact ⟨_,rfl,.nils⟩
  | nilm=>simp only [frzW] at hf;cases hf;cases hv;exact ⟨_,rfl,.nilm⟩
  | nilf=>simp only [frzW] at hf;cases hf;cases hv;exact ⟨_,rfl,.nilf⟩
  | ro z es ex =>
   simp only [frzW] at hf;cases hf
   have hd:VW ρ V (fun _=>False) (.ro z es ex) u:=hv.isC rfl
   rcases hv.ro_inv with ⟨rfl,rfl⟩ | ⟨es',ex',rfl,_,_,_⟩
   · exact ⟨_,rfl,hd⟩
   · exact ⟨_,rfl,hd⟩
  | rop cs =>
   simp only [frzW] at hf;cases hf
   have hd:VW ρ V (fun _=>False) (.rop cs) u:=hv.isC rfl
   obtain ⟨cs',rfl,_⟩:=hv.rop_inv
   exact ⟨_,rfl,hd⟩
  | ptr b i o =>
   simp only [frzW] at hf
   split at hf
   · rename_i zb es mu dt hg
     obtain ⟨rfl,hA,hV⟩:=hv.ptr_inv
     obtain ⟨o',g1,es',mu',rfl,_,ge,gd⟩:=H.obj b _ hg hV
     obtain ⟨cs,hcs,hf⟩:=ob_some hf
     obtain ⟨cs',hcs',hce⟩:=ge.get hcs
     simp only [frz,g1,hcs',Pav.ob]
     split at hf
     · rename_i hdt
       split at hf
       · cases hf
       · rename_i hn0
         cases hf
         obtain ⟨k,rfl⟩:∃ k,n=k+1:=⟨n - 1,by omega⟩
         have hsub:∀ x ∈ cs.drop o,isC x=true:=fun x hx=>gd hdt cs (List.mem_of_getElem? hcs) x (List.mem_of_mem_drop hx)
         have grel:=hce.drop o
         have hid:mapO (frz h' (k+1)) (cs'.drop o)=some (cs'.drop o):=by
          refine mapO_id fun x' hx'=>?_
          obtain ⟨c,hc,q4⟩:=List.getElem_of_mem hx'
          obtain ⟨x,q5,q6⟩:=grel.get' (List.getElem?_eq_getElem hc)
          rw [q4] at q6
          exact frz_isC q6 (hsub x (List.mem_of_getElem? q5)) k
         refine ⟨_,by rw [hid];rfl,?_⟩
         exact VW.mkrop (grel.mono fun x x' hx hxx=>hxx.isC (hsub x hx))
     · obtain ⟨cs2,h1,rfl⟩:=om_some hf
       obtain ⟨r',h2,h3⟩:=mapO_of_rel (fun a b hab a' ha'=>ih a b a' hab ha') (hce.drop o) h1
       exact ⟨_,by rw [h2];rfl,VW.mkrop h3⟩
   · cases hf
  | map b=>simp [frzW] at hf
  | sl b z i len cap ex =>
   simp only [frzW] at hf
   split at hf
   · rename_i zb es mu dt hg
     rcases hv.sl_inv with ⟨hA,hV,ex',rfl,hx⟩ | ⟨hA,hV,rfl,rfl,rfl,hu⟩
     · obtain ⟨o',g1,es',mu',rfl,_,ge,gd⟩:=H.obj b _ hg hV
       simp only [frz,g1]
       split at hf
       · rename_i hdt
         split at hf
         · cases hf
         · rename_i hn0
           obtain ⟨hlen,hf⟩:=og_some hf
           cases hf
           simp only [decide_eq_true_eq] at hlen
           obtain ⟨k,rfl⟩:∃ k,n=k+1:=⟨n - 1,by omega⟩
           have hsub:∀ e ∈ (es.drop i).take len,∀ x ∈ e,isC x=true:=fun e he x hx=>gd hdt e (List.mem_of_mem_drop (List.mem_of_mem_take he)) x hx
           have grel:=(ge.drop i).take len
           have hid:mapO (mapO (frz h' (k+1))) ((es'.drop i).take len)=some ((es'.drop i).take len):=by
            refine mapO_id fun e' he'=>mapO_id fun x' hx'=>?_
            obtain ⟨a,ha,q1⟩:=List.getElem_of_mem he'
            obtain ⟨e,q2,q3⟩:=grel.get' (List.getElem?_eq_getElem ha)
            rw [q1] at q3
            obtain ⟨c,hc,q4⟩:=List.getElem_of_mem hx'
            obtain ⟨x,q5,q6⟩:=q3.get' (List.getElem?_eq_getElem hc)
            rw [q4] at q6
            exact frz_isC q6 (hsub e (List.mem_of_getElem? q2) x (List.mem_of_getElem? q5)) k
           refine ⟨_,by rw [hid];simp only [ob,og,← grel.1,hlen,decide_true];rfl,?_⟩
           refine VW.mkro (grel.mono fun e e' he hee=>hee.mono fun x x' hx hxx=>hxx.isC (hsub e he x hx)) hsub ?_
           simp only [Bool.and_eq_true]
           exact fun q=>⟨hx q.1,q.2⟩
       · obtain ⟨es2,h1,hf⟩:=ob_some hf
         obtain ⟨hlen,hf⟩:=og_some hf
         cases hf
         simp only [Bool.and_eq_true,decide_eq_true_eq,List.all_eq_true] at hlen
         obtain ⟨r',h2,h3⟩:=mapO_of_rel (R:=Rel2 (VW ρ V A)) (g:=mapO (frz h' n)) (T:=Rel2 (VD ρ V)) (fun x y hxy x' hx'=>mapO_of_rel (fun a b hab a' ha'=>ih a b a' hab ha') hxy hx') ((ge.drop i).take len) h1
         refine ⟨_,by rw [h2];simp only [ob,og,← h3.1,hlen.1,decide_true];rfl,?_⟩
         refine VW.mkro h3 hlen.2 ?_
         simp only [Bool.and_eq_true]
         exact fun q=>⟨hx q.1,q.2⟩
     · obtain ⟨z2,mu2,dt2,q⟩:=H.virt b _ hg hV
       cases q
       have hv':∃ ex2,v'=.ro z [] ex2:=by
        split at hf
        · split at hf
          · cases hf
          · obtain ⟨_,hf⟩:=og_some hf
            cases hf;exact ⟨_,rfl⟩
        · obtain ⟨es2,h1,hf⟩:=ob_some hf
          simp only [List.drop_nil,List.take_nil,mapO,Option.some.injEq] at h1
          subst h1
          obtain ⟨_,hf⟩:=og_some hf
          cases hf;exact ⟨_,rfl⟩
       obtain ⟨ex2,rfl⟩:=hv'
       rcases hu with rfl | rfl
       · exact ⟨_,rfl,.ronil _ _⟩
       · exact ⟨_,rfl,VW.mkro .nil (fun _ h=>by cases h) (fun _=>rfl)⟩
   · cases hf
  | fn f caps =>
   obtain ⟨cs',rfl,hr⟩:=hv.fn_inv
   simp only [frzW] at hf
   obtain ⟨cs,h1,rfl⟩:=om_some hf
   obtain ⟨r',h2,h3⟩:=mapO_of_rel (fun a b hab a' ha'=>ih a b a' hab ha') hr h1
   exact ⟨_,by simp only [frz,h2];rfl,VW.mkfn h3⟩
  | agg caps =>
   obtain ⟨cs',rfl,hr⟩:=hv.agg_inv
   simp only [frzW] at hf
   obtain ⟨cs,h1,rfl⟩:=om_some hf
   obtain ⟨r',h2,h3⟩:=mapO_of_rel (fun a b hab a' ha'=>ih a b a' hab ha') hr h1
   exact ⟨_,by simp only [frz,h2];rfl,VW.mkagg h3⟩
  | tup caps =>
   obtain ⟨cs',rfl,hr⟩:=hv.tup_inv
   simp only [frzW] at hf
   obtain ⟨cs,h1,rfl⟩:=om_some hf
   obtain ⟨r',h2,h3⟩:=mapO_of_rel (fun a b hab a' ha'=>ih a b a' hab ha') hr h1
   exact ⟨_,by simp only [frz,h2];rfl,VW.mktup h3⟩
theorem reach_isC {x u:AV} (hx:VW ρ V A x u) (hc:isC x=true):∀ n,reach h' n u=[]:=by
 intro n
 cases n with
 | zero=>rfl
 | succ n =>
  cases hx with
  | fn f cs cs' hl hr =>
   cases cs with
   | nil =>
    have:cs'=[]:=List.length_eq_zero_iff.1 (by simpa using hl.symm)
    subst this;rfl
   | cons a r=>simp [isC] at hc
  | undef=>simp [isC] at hc
  | ptr=>simp [isC] at hc
  | sl=>simp [isC] at hc
  | slv=>simp [isC] at hc
  | map=>simp [isC] at hc
  | agg=>simp [isC] at hc
  | tup=>simp [isC] at hc
  | _=>rfl
theorem reach_vw (H:HW ρ V A h h'):∀ (n:Nat) (v u v':AV),VW ρ V A v u→frzW h n v=some v'→∀ b' ∈ reach h' n u,∃ b ∈ reachW h n v,b'=ρ b∧¬ V b∧A b∧∃ z es mu dt,get h b=some (.cells z es mu dt):=by
 intro n
 induction n with
 | zero=>intro v u v' _ _ b hb;simp [reach] at hb
 | succ n ih =>
  have lst:∀ {l l' r:List AV},Rel2 (VW ρ V A) l l'→mapO (frzW h n) l=some r→∀ b' ∈ l'.flatMap (reach h' n),∃ b ∈ l.flatMap (reachW h n),b'=ρ b∧¬ V b∧A b∧∃ z es mu dt,get h b=some (.cells z es mu dt):=by
   intro l l' r hr hm b' hb'
   simp only [List.mem_flatMap] at hb' ⊢
   obtain ⟨u,hu,hb'⟩:=hb'
   obtain ⟨j,hj,q1⟩:=List.getElem_of_mem hu
   obtain ⟨v,q2,q3⟩:=hr.get' (List.getElem?_eq_getElem hj)
   rw [q1] at q3
   obtain ⟨v',_,q4⟩:=(mapO_some hm).2 j v q2
   obtain ⟨b,q5,q6⟩:=ih v u v' q3 q4 b' hb'
   exact ⟨b,⟨v,List.mem_of_getElem? q2,q5⟩,q6⟩
  intro v u v' hv hf b' hb'
  cases v with
  | undef=>simp [frzW] at hf
  | bool b=>rw [hv.bool_inv] at hb';simp [reach] at hb'
  | int k x=>rw [hv.int_inv] at hb';simp [reach] at hb'
  | str s=>rw [hv.str_inv] at hb';simp [reach] at hb'
  | nilp=>cases hv;simp [reach] at hb'
  | nils=>cases hv;simp [reach] at hb'
  | nilm=>cases hv;simp [reach] at hb'
  | nilf=>cases hv;simp [reach] at hb'
  | ro z es ex=>rw [reach_isC hv rfl] at hb';cases hb'
  | rop cs=>rw [reach_isC hv rfl] at hb';cases hb'
  | ptr b i o =>
   simp only [frzW] at hf
   split at hf
   · rename_i zb es mu dt hg
     obtain ⟨rfl,hA,hV⟩:=hv.ptr_inv
     obtain ⟨o',g1,es',mu',rfl,_,ge,gd⟩:=H.obj b _ hg hV
     obtain ⟨cs,hcs,hf⟩:=ob_some hf
     obtain ⟨cs',hcs',hce⟩:=ge.get hcs
     simp only [reach,g1,hcs',Option.getD_some,List.mem_cons] at hb'
     rcases hb' with rfl | hb'
     · exact ⟨b,by simp [reachW],rfl,hV,hA,_,_,_,_,hg⟩
     · split at hf
       · rename_i hdt
         exfalso
         simp only [List.mem_flatMap] at hb'
         obtain ⟨x',hx',hb'⟩:=hb'
         obtain ⟨c,hc,q4⟩:=List.getElem_of_mem hx'
         obtain ⟨x,q5,q6⟩:=(hce.drop o).get' (List.getElem?_eq_getElem hc)
         rw [q4] at q6
         have:=gd hdt cs (List.mem_of_getElem? hcs) x (List.mem_of_mem_drop (List.mem_of_getElem? q5))
         rw [reach_isC q6 this] at hb'
         cases hb'
       · rename_i hdt
         obtain ⟨cs2,h1,rfl⟩:=om_some hf
         obtain ⟨b2,q5,q6⟩:=lst (hce.drop o) h1 b' hb'
         refine ⟨b2,?_,q6⟩
         simp only [reachW,hg,hcs,Option.getD_some,List.mem_cons]
         right
         rw [if_neg hdt]
         exact q5
   · cases hf
  | map b=>simp [frzW] at hf
  | sl b z i len cap ex =>
   simp only [frzW] at hf
   split at hf
   · rename_i zb es mu dt hg
     rcases hv.sl_inv with ⟨hA,hV,ex',rfl,hx⟩ | ⟨hA,hV,rfl,rfl,rfl,hu⟩
     · obtain ⟨o',g1,es',mu',rfl,_,ge,gd⟩:=H.obj b _ hg hV
       simp only [reach,g1,List.mem_cons] at hb'
       rcases hb' with rfl | hb'
       · exact ⟨b,by simp [reachW],rfl,hV,hA,_,_,_,_,hg⟩
       · split at hf
         · rename_i hdt
           exfalso
           simp only [List.mem_flatMap] at hb'
           obtain ⟨e',he',x',hx',hb'⟩:=hb'
           obtain ⟨a,ha,q1⟩:=List.getElem_of_mem he'
           obtain ⟨e,q2,q3⟩:=((ge.drop i).take len).get' (List.getElem?_eq_getElem ha)
           rw [q1] at q3
           obtain ⟨c,hc,q4⟩:=List.getElem_of_mem hx'
           obtain ⟨x,q5,q6⟩:=q3.get' (List.getElem?_eq_getElem hc)
           rw [q4] at q6
           have:=gd hdt e (List.mem_of_mem_drop (List.mem_of_mem_take (List.mem_of_getElem? q2))) x (List.mem_of_getElem? q5)
           rw [reach_isC q6 this] at hb'
           cases hb'
         · rename_i hdt
           obtain ⟨es2,h1,hf⟩:=ob_some hf
           simp only [List.mem_flatMap] at hb'
           obtain ⟨e',he',x',hx',hb'⟩:=hb'
           obtain ⟨a,ha,q1⟩:=List.getElem_of_mem he'
           obtain ⟨e,q2,q3⟩:=((ge.drop i).take len).get' (List.getElem?_eq_getElem ha)
           rw [q1] at q3
           obtain ⟨e2,_,q4⟩:=(mapO_some h1).2 a e q2
           obtain ⟨b2,q5,q6⟩:=lst q3 q4 b' (by simp only [List.mem_flatMap];exact ⟨x',hx',hb'⟩)
           refine ⟨b2,?_,q6⟩
           simp only [reachW,hg,List.mem_cons]
           right
           rw [if_neg hdt]
           simp only [List.mem_flatMap] at q5 ⊢
           exact ⟨e,List.mem_of_getElem? q2,q5⟩
     · rcases hu with rfl | rfl <;> simp [reach] at hb'
   · cases hf
  | fn f caps =>
   obtain ⟨cs',rfl,hr⟩:=hv.fn_inv
   simp only [frzW] at hf
   obtain ⟨cs,h1,rfl⟩:=om_some hf
   simp only [reach] at hb'
   obtain ⟨b,q⟩:=lst hr h1 b' hb'
   exact ⟨b,by simpa only [reachW] using q⟩
  | agg caps =>
   obtain ⟨cs',rfl,hr⟩:=hv.agg_inv
   simp only [frzW] at hf
   obtain ⟨cs,h1,rfl⟩:=om_some hf
   simp only [reach] at hb'
   obtain ⟨b,q⟩:=lst hr h1 b' hb'
   exact ⟨b,by simpa only [reachW] using q⟩
  | tup caps =>
   obtain ⟨cs',rfl,hr⟩:=hv.tup_inv
   simp only [frzW] at hf
   obtain ⟨cs,h1,rfl⟩:=om_some hf
   simp only [reach] at hb'
   obtain ⟨b,q⟩:=lst hr h1 b' hb'
   exact ⟨b,by simpa only [reachW] using q⟩
theorem hasRef_vw:∀ (n:Nat) (v u:AV),VD ρ V v u→hasRef n u=true→hasRefW n v=true:=by
 intro n
 induction n with
 | zero=>intro v u _ _;rfl
 | succ n ih =>
  have lst:∀ {l l':List AV},Rel2 (VD ρ V) l l'→l'.any (hasRef n)=true→l.any (hasRefW n)=true:=by
   intro l l' hr h
   simp only [List.any_eq_true] at h ⊢
   obtain ⟨u,hu,h⟩:=h
   obtain ⟨j,hj,q1⟩:=List.getElem_of_mem hu
   obtain ⟨v,q2,q3⟩:=hr.get' (List.getElem?_eq_getElem hj)
   rw [q1] at q3
   exact ⟨v,List.mem_of_getElem? q2,ih v u q3 h⟩
  intro v u hv h
  cases hv with
  | undef u=>rfl
  | fn f cs cs' hl hr=>simp only [hasRef] at h;simp only [hasRefW];exact lst ⟨hl,hr⟩ h
  | agg cs cs' hl hr=>simp only [hasRef] at h;simp only [hasRefW];exact lst ⟨hl,hr⟩ h
  | tup cs cs' hl hr=>simp only [hasRef] at h;simp only [hasRefW];exact lst ⟨hl,hr⟩ h
  | ro=>rfl
  | rop=>rfl
  | ronil=>rfl
  | ptr _ _ _ hA=>exact hA.elim
  | sl _ _ _ _ _ _ _ hA=>exact hA.elim
  | slv _ _ _ _ hA=>exact hA.elim
  | map _ hA=>exact hA.elim
  | _=>simp [hasRef] at h
theorem marks_ok (H:HW ρ V A h h'):∀ (L:List Nat) (L':List Nat),(∀ b' ∈ L',∃ b ∈ L,b'=ρ b∧¬ V b∧A b∧∃ z es mu dt,get h b=some (.cells z es mu dt)) →
 HW ρ V A (applyW h (markFrozenW h L)) (applyUpd h' (markFrozen h' L'))∧∀ b' ∈ (markFrozen h' L').map (·.1),∃ b ∈ (markFrozenW h L).map (·.1),b'=ρ b∧¬ V b∧A b:=by
 have getW:∀ (h0:WHeap) (L:List Nat) (g:WHeap),∀ c,get (applyW g (markFrozenW h0 L)) c=if c ∈ L then (match get h0 c with | some (.cells z es _ dt)=>some (.cells z es false dt) | _=>get g c) else get g c:=by
  intro h0 L
  induction L with
  | nil=>intro g c;simp [markFrozenW,applyW]
  | cons b L ih =>
   intro g c
   simp only [markFrozenW]
   split
   · rename_i z es mu dt hg
     simp only [applyW,updOneW,ih,get_put,List.mem_cons]
     by_cases e:c=b
     · subst e
       simp only [hg,if_true,true_or]
       split <;> rfl
     · simp only [e,false_or,if_neg (Ne.symm e)]
   · rename_i hg
     rw [ih]
     simp only [List.mem_cons]
     by_cases e:c=b
     · subst e
       simp only [true_or,if_true]
       have:(match get h0 c with | some (.cells z es _ dt)=>some (WObj.cells z es false dt) | _=>get g c)=get g c:=by
        split
        · rename_i z es mu dt hg2;exact absurd hg2 (hg z es mu dt)
        · rfl
       first
        | (rw [this];split <;> rfl)
        | (split <;> rfl)
     · simp only [e,false_or]
 have getP:∀ (h0:Heap) (L:List Nat) (g:Heap),∀ c,get (applyUpd g (markFrozen h0 L)) c=if c ∈ L then (match get h0 c with | some (.cells z es _)=>some (.cells z es false) | _=>get g c) else get g c:=by
  intro h0 L
  induction L with
  | nil=>intro g c;simp [markFrozen,applyUpd]
  | cons b L ih =>
   intro g c
   simp only [markFrozen]
   split
   · rename_i z es mu hg
     simp only [applyUpd,updOne,ih,get_put,List.mem_cons]
     by_cases e:c=b
     · subst e
       simp only [hg,if_true,true_or]
       split <;> rfl
     · simp only [e,false_or,if_neg (Ne.symm e)]
   · rename_i hg
     rw [ih]
     simp only [List.mem_cons]
     by_cases e:c=b
     · subst e
       simp only [true_or,if_true]
       have:(match get h0 c with | some (.cells z es _)=>some (AObj.cells z es false) | _=>get g c)=get g c:=by
        split
        · rename_i z es mu hg2;exact absurd hg2 (hg z es mu)
        · rfl
       first
        | (rw [this];split <;> rfl)
        | (split <;> rfl)
     · simp only [e,false_or]
 have memW:∀ (h0:WHeap) (L:List Nat) (b:Nat),b ∈ L→(∃ z es mu dt,get h0 b=some (.cells z es mu dt))→b ∈ (markFrozenW h0 L).map (·.1):=by
  intro h0 L b
  induction L with
  | nil=>intro hb;cases hb
  | cons a L ih =>
   intro hb hg
   simp only [markFrozenW]
   rcases List.mem_cons.1 hb with rfl | hb
   · obtain ⟨z,es,mu,dt,hg⟩:=hg
     rw [hg];simp
   · have:=ih hb hg
     split
     · simp only [List.map_cons,List.mem_cons];exact .inr this
     · exact this
 intro L L' hL
 refine ⟨⟨fun c o hc=>?_,fun c o hc hv=>?_,fun c o hc hv=>?_,H.sub,H.inj⟩,fun b' hb'=>?_⟩
 · rw [getW] at hc
   split at hc
   · split at hc
     · rename_i hg;exact H.dom c _ hg
     · exact H.dom c o hc
   · exact H.dom c o hc
 · rw [getW] at hc
   split at hc
   · split at hc
     · rename_i hg
       obtain ⟨z,mu,dt,q⟩:=H.virt c _ hg hv
       cases q;cases hc
       exact ⟨_,_,_,rfl⟩
     · exact H.virt c o hc hv
   · exact H.virt c o hc hv
 · have hA:A c:=by
    rw [getW] at hc
    split at hc
    · split at hc
      · rename_i hg;exact H.dom c _ hg
      · exact H.dom c o hc
    · exact H.dom c o hc
   have inv:ρ c ∈ L'→c ∈ L:=by
    intro q
    obtain ⟨b,q1,q2,q3,q4,_⟩:=hL _ q
    rw [H.inj c b hA q4 hv q3 q2];exact q1
   rw [getW] at hc
   by_cases hcL:c ∈ L
   · rw [if_pos hcL] at hc
     split at hc
     · rename_i z es mu dt hg
       cases hc
       obtain ⟨o',g1,es',mu',rfl,gm,ge,gd⟩:=H.obj c _ hg hv
       rw [getP]
       split
       · rw [g1];exact ⟨_,rfl,es',false,rfl,id,ge,gd⟩
       · exact ⟨_,g1,es',mu',rfl,(fun q=>by cases q),ge,gd⟩
     · rename_i hng
       obtain ⟨o',g1,g2⟩:=H.obj c o hc hv
       refine ⟨o',?_,g2⟩
       rw [getP]
       split
       · rw [g1]
         cases o with
         | cells z es mu dt=>exact absurd hc (hng z es mu dt)
         | map es=>obtain ⟨es',rfl,_⟩:=g2;rfl
         | iter s p=>cases g2;rfl
       · exact g1
   · rw [if_neg hcL] at hc
     obtain ⟨o',g1,g2⟩:=H.obj c o hc hv
     exact ⟨o',by rw [getP,if_neg (fun q=>hcL (inv q))];exact g1,g2⟩
 · have key:∀ (h0:Heap) (L:List Nat) (b:Nat),b ∈ (markFrozen h0 L).map (·.1)→b ∈ L∧∃ z es mu,get h0 b=some (.cells z es mu):=by
    intro h0 L b
    induction L with
    | nil=>intro hb;simp [markFrozen] at hb
    | cons a L ih =>
     intro hb
     simp only [markFrozen] at hb
     split at hb
     · rename_i z es mu hg
       simp only [List.map_cons,List.mem_cons] at hb
       rcases hb with rfl | hb
       · exact ⟨by simp,_,_,_,hg⟩
       · exact ⟨List.mem_cons_of_mem _ (ih hb).1,(ih hb).2⟩
     · exact ⟨List.mem_cons_of_mem _ (ih hb).1,(ih hb).2⟩
   obtain ⟨q1,z,es,mu,q2⟩:=key h' L' b' hb'
   obtain ⟨b,q3,rfl,q5,q6,q7⟩:=hL b' q1
   exact ⟨b,memW h L b q3 q7,rfl,q5,q6⟩
end
end Go.Pw
end
section
set_option linter.unusedSimpArgs false
set_option linter.unusedVariables false
namespace Go.Pw
open Go Go.Pav
section
variable {ρ ρ2:Nat→Nat} {V A V2 A2:Nat→Prop} {b nid b' mid:Nat}
theorem handL_of {R:AV→AV→Prop}:∀ (l l':List AV),l.length=l'.length→(∀ (j:Nat) (x x':AV),l[j]?=some x→l'[j]?=some x'→∀ y,hand b nid x=some y→∃ y',hand b' mid x'=some y'∧R y y') →
 ∀ r,handL b nid l=some r→∃ r',handL b' mid l'=some r'∧Rel2 R r r':=by
 intro l
 induction l with
 | nil =>
  intro l' hl _ r hr
  simp only [handL,Option.some.injEq] at hr
  subst hr
  have:l'=[]:=List.length_eq_zero_iff.1 hl.symm
  subst this
  exact ⟨[],rfl,.nil⟩
 | cons a l ih =>
  intro l' hl hh r hr
  cases l' with
  | nil=>simp at hl
  | cons a' l' =>
   simp only [handL] at hr
   obtain ⟨y,h1,hr⟩:=ob_some hr
   obtain ⟨ys,h2,rfl⟩:=om_some hr
   obtain ⟨y',h3,h4⟩:=hh 0 a a' (by simp) (by simp) y h1
   obtain ⟨ys',h5,h6⟩:=ih l' (by simpa using hl) (fun j x x' p q=>hh (j+1) x x' (by simpa using p) (by simpa using q)) ys h2
   exact ⟨y'::ys',by simp only [handL,h3,h5,ob,om],.cons h4 h6⟩
theorem hand_vw (hb:A b→(¬ V b∧b'=ρ b∧A2 nid∧¬ V2 nid∧ρ2 nid=mid)∨(V b∧A2 nid∧V2 nid)) {v u:AV} (hv:VW ρ V A v u):∀ v',hand b nid v=some v'→∃ u',hand b' mid u=some u'∧VW ρ2 V2 A2 v' u':=by
 have data:∀ {A:Nat→Prop} {x y:AV},isC x=true→VW ρ V A x y→VW ρ2 V2 A2 x y:=fun hx h=>h.isC hx
 induction hv with
 | undef v=>intro v' h;simp [hand] at h
 | bool t=>intro v' h;simp only [hand] at h;cases h;exact ⟨_,rfl,.bool t⟩
 | int k n=>intro v' h;simp only [hand] at h;cases h;exact ⟨_,rfl,.int k n⟩
 | str s=>intro v' h;simp only [hand] at h;cases h;exact ⟨_,rfl,.str s⟩
 | nilp=>intro v' h;simp only [hand] at h;cases h;exact ⟨_,rfl,.nilp⟩
 | nils=>intro v' h;simp only [hand] at h;cases h;exact ⟨_,rfl,.nils⟩
 | nilm=>intro v' h;simp only [hand] at h;cases h;exact ⟨_,rfl,.nilm⟩
 | nilf=>intro v' h;simp only [hand] at h;cases h;exact ⟨_,rfl,.nilf⟩
 | ronil z ex=>intro v' h;simp only [hand] at h;cases h;exact ⟨_,rfl,.ronil z ex⟩
 | ro z es es' ex ex' hc hl hx he hr _=>intro v' h;simp only [hand] at h;cases h;exact ⟨_,rfl,data rfl (VW.ro (A:=A) z es es' ex ex' hc hl hx he hr)⟩
 | rop cs cs' hl hr _=>intro v' h;simp only [hand] at h;cases h;exact ⟨_,rfl,data rfl (VW.rop (A:=A) cs cs' hl hr)⟩
 | ptr c i o hA hV =>
  intro v' h
  simp only [hand] at h
  split at h
  · rename_i e
    cases h
    subst e
    rcases hb hA with ⟨q1,q2,q3,q4,q5⟩ | ⟨q1,_⟩
    · refine ⟨.ptr mid i o,by simp only [hand,q2,if_true],?_⟩
      rw [← q5];exact .ptr nid i o q3 q4
    · exact absurd q1 hV
  · cases h
 | sl c z i len cap ex ex' hA hV hx =>
  intro v' h
  simp only [hand] at h
  split at h
  · rename_i e
    cases h
    subst e
    rcases hb hA with ⟨q1,q2,q3,q4,q5⟩ | ⟨q1,_⟩
    · refine ⟨.sl mid z i len cap ex',by simp only [hand,q2,if_true],?_⟩
      rw [← q5];exact .sl nid z i len cap ex ex' q3 q4 hx
    · exact absurd q1 hV
  · cases h
 | slv c z ex v hA hV hv =>
  intro v' h
  simp only [hand] at h
  split at h
  · rename_i e
    cases h
    subst e
    rcases hb hA with ⟨q1,_⟩ | ⟨_,q2,q3⟩
    · exact absurd hV q1
    · refine ⟨v,?_,.slv nid z ex v q2 q3 hv⟩
      rcases hv with rfl | rfl <;> rfl
  · cases h
 | map c hA hV=>intro v' h;simp [hand] at h
 | fn f cs cs' hl hr ih =>
  intro v' h
  simp only [hand] at h
  obtain ⟨r,h1,rfl⟩:=om_some h
  obtain ⟨r',h2,h3⟩:=handL_of cs cs' hl (fun j x x' p q y hy=>ih j x x' p q hb y hy) r h1
  exact ⟨.fn f r',by simp only [hand,h2,om],.mkfn h3⟩
 | agg cs cs' hl hr ih =>
  intro v' h
  simp only [hand] at h
  obtain ⟨r,h1,rfl⟩:=om_some h
  obtain ⟨r',h2,h3⟩:=handL_of cs cs' hl (fun j x x' p q y hy=>ih j x x' p q hb y hy) r h1
  exact ⟨.agg r',by simp only [hand,h2,om],.mkagg h3⟩
 | tup cs cs' hl hr ih =>
  intro v' h
  simp only [hand] at h
  obtain ⟨r,h1,rfl⟩:=om_some h
  obtain ⟨r',h2,h3⟩:=handL_of cs cs' hl (fun j x x' p q y hy=>ih j x x' p q hb y hy) r h1
  exact ⟨.tup r',by simp only [hand,h2,om],.mktup h3⟩
theorem own_vw (hA:A b) (hV:¬ V b) {v u:AV} (hv:VW ρ V A v u):∀ v',hand b nid v=some v'→(ownOf v=none∧ownOf u=none)∨(ownOf v=some b∧ownOf u=some (ρ b)):=by
 have lst:∀ (l l':List AV),l.length=l'.length→(∀ (j:Nat) (x x':AV),l[j]?=some x→l'[j]?=some x'→∀ y,hand b nid x=some y→(ownOf x=none∧ownOf x'=none)∨(ownOf x=some b∧ownOf x'=some (ρ b))) →
  ∀ r,handL b nid l=some r→(ownOfL l=none∧ownOfL l'=none)∨(ownOfL l=some b∧ownOfL l'=some (ρ b)):=by
  intro l
  induction l with
  | nil =>
   intro l' hl _ r hr
   have:l'=[]:=List.length_eq_zero_iff.1 hl.symm
   subst this
   exact .inl ⟨rfl,rfl⟩
  | cons a l ih =>
   intro l' hl hh r hr
   cases l' with
   | nil=>simp at hl
   | cons a' l' =>
    simp only [handL] at hr
    obtain ⟨y,h1,hr⟩:=ob_some hr
    obtain ⟨ys,h2,rfl⟩:=om_some hr
    rcases hh 0 a a' (by simp) (by simp) y h1 with ⟨q1,q2⟩ | ⟨q1,q2⟩
    · rcases ih l' (by simpa using hl) (fun j x x' p q=>hh (j+1) x x' (by simpa using p) (by simpa using q)) ys h2 with ⟨q3,q4⟩ | ⟨q3,q4⟩
      · exact .inl ⟨by simp only [ownOfL,q1,q3],by simp only [ownOfL,q2,q4]⟩
      · exact .inr ⟨by simp only [ownOfL,q1,q3],by simp only [ownOfL,q2,q4]⟩
    · exact .inr ⟨by simp only [ownOfL,q1],by simp only [ownOfL,q2]⟩
 induction hv with
 | undef v=>intro v' h;simp [hand] at h
 | bool t=>intro v' h;exact .inl ⟨rfl,rfl⟩
 | int k n=>intro v' h;exact .inl ⟨rfl,rfl⟩
 | str s=>intro v' h;exact .inl ⟨rfl,rfl⟩
 | nilp=>intro v' h;exact .inl ⟨rfl,rfl⟩
 | nils=>intro v' h;exact .inl ⟨rfl,rfl⟩
 | nilm=>intro v' h;exact .inl ⟨rfl,rfl⟩
 | nilf=>intro v' h;exact .inl ⟨rfl,rfl⟩
 | ronil z ex=>intro v' h;exact .inl ⟨rfl,rfl⟩
 | ro z es es' ex ex' hc hl hx he hr _=>intro v' h;exact .inl ⟨rfl,rfl⟩
 | rop cs cs' hl hr _=>intro v' h;exact .inl ⟨rfl,rfl⟩
 | ptr c i o hA' hV' =>
  intro v' h
  simp only [hand] at h
  split at h
  · rename_i e;subst e;exact .inr ⟨rfl,rfl⟩
  · cases h
 | sl c z i len cap ex ex' hA' hV' hx =>
  intro v' h
  simp only [hand] at h
  split at h
  · rename_i e;subst e;exact .inr ⟨rfl,rfl⟩
  · cases h
 | slv c z ex v hA' hV' hv =>
  intro v' h
  simp only [hand] at h
  split at h
  · rename_i e;subst e;exact absurd hV' hV
  · cases h
 | map c hA' hV'=>intro v' h;simp [hand] at h
 | fn f cs cs' hl hr ih=>intro v' h;simp only [hand] at h;obtain ⟨r,h1,rfl⟩:=om_some h;exact lst cs cs' hl (fun j x x' p q y hy=>ih j x x' p q hA y hy) r h1
 | agg cs cs' hl hr ih=>intro v' h;simp only [hand] at h;obtain ⟨r,h1,rfl⟩:=om_some h;exact lst cs cs' hl (fun j x x' p q y hy=>ih j x x' p q hA y hy) r h1
 | tup cs cs' hl hr ih=>intro v' h;simp only [hand] at h;obtain ⟨r,h1,rfl⟩:=om_some h;exact lst cs cs' hl (fun j x x' p q y hy=>ih j x x' p q hA y hy) r h1
theorem none_vw (hb:A b→V b) {v u:AV} (hv:VW ρ V A v u):∀ v',hand b nid v=some v'→ownOf u=none:=by
 have lst:∀ (l l':List AV),l.length=l'.length→(∀ (j:Nat) (x x':AV),l[j]?=some x→l'[j]?=some x'→∀ y,hand b nid x=some y→ownOf x'=none) →
  ∀ r,handL b nid l=some r→ownOfL l'=none:=by
  intro l
  induction l with
  | nil =>
   intro l' hl _ r hr
   have:l'=[]:=List.length_eq_zero_iff.1 hl.symm
   subst this
   rfl
  | cons a l ih =>
   intro l' hl hh r hr
   cases l' with
   | nil=>simp at hl
   | cons a' l' =>
    simp only [handL] at hr
    obtain ⟨y,h1,hr⟩:=ob_some hr
    obtain ⟨ys,h2,rfl⟩:=om_some hr
    have q1:=hh 0 a a' (by simp) (by simp) y h1
    have q2:=ih l' (by simpa using hl) (fun j x x' p q=>hh (j+1) x x' (by simpa using p) (by simpa using q)) ys h2
    simp only [ownOfL,q1,q2]
 induction hv with
 | undef v=>intro v' h;simp [hand] at h
 | bool t=>intro v' h;rfl
 | int k n=>intro v' h;rfl
 | str s=>intro v' h;rfl
 | nilp=>intro v' h;rfl
 | nils=>intro v' h;rfl
 | nilm=>intro v' h;rfl
 | nilf=>intro v' h;rfl
 | ronil z ex=>intro v' h;rfl
 | ro z es es' ex ex' hc hl hx he hr _=>intro v' h;rfl
 | rop cs cs' hl hr _=>intro v' h;rfl
 | ptr c i o hA' hV' =>
  intro v' h
  simp only [hand] at h
  split at h
  · rename_i e;subst e;exact absurd (hb hA') hV'
  · cases h
 | sl c z i len cap ex ex' hA' hV' hx =>
  intro v' h
  simp only [hand] at h
  split at h
  · rename_i e;subst e;exact absurd (hb hA') hV'
  · cases h
 | slv c z ex v hA' hV' hv=>intro v' h;rcases hv with rfl | rfl <;> rfl
 | map c hA' hV'=>intro v' h;simp [hand] at h
 | fn f cs cs' hl hr ih=>intro v' h;simp only [hand] at h;obtain ⟨r,h1,rfl⟩:=om_some h;exact lst cs cs' hl (fun j x x' p q y hy=>ih j x x' p q hb y hy) r h1
 | agg cs cs' hl hr ih=>intro v' h;simp only [hand] at h;obtain ⟨r,h1,rfl⟩:=om_some h;exact lst cs cs' hl (fun j x x' p q y hy=>ih j x x' p q hb y hy) r h1
 | tup cs cs' hl hr ih=>intro v' h;simp only [hand] at h;obtain ⟨r,h1,rfl⟩:=om_some h;exact lst cs cs' hl (fun j x x' p q y hy=>ih j x x' p q hb y hy) r h1
theorem bareL_of {R:AV→AV→Prop}:∀ {l l':List AV},Rel2 R l l'→(∀ x x',R x x'→bareV x=true→bareV x'=true)→bareL l=true→bareL l'=true:=by
 intro l
 induction l with
 | nil=>intro l' h _ _;have:=h.inv_nil;subst this;rfl
 | cons a l ih =>
  intro l' h hf hb
  obtain ⟨b,r,rfl,h1,h2⟩:=h.inv_cons
  simp only [bareL,Bool.and_eq_true] at hb ⊢
  exact ⟨hf _ _ h1 hb.1,ih h2 hf hb.2⟩
theorem bare_vw {v u:AV} (hv:VW ρ V A v u):bareV v=true→bareV u=true:=by
 have lst:∀ (l l':List AV),l.length=l'.length→(∀ (j:Nat) (x x':AV),l[j]?=some x→l'[j]?=some x'→bareV x=true→bareV x'=true)→bareL l=true→bareL l'=true:=fun l l' h1 h2 h3 =>
  bareL_of (R:=fun x x'=>bareV x=true→bareV x'=true) ⟨h1,h2⟩ (fun x x' h=>h) h3
 induction hv with
 | undef v=>intro h;simp [bareV] at h
 | ronil z ex=>intro h;rfl
 | ro z es es' ex ex' hc hl hx he hr _ =>
  intro h
  simp only [bareV,Bool.and_eq_true,List.isEmpty_iff] at h ⊢
  obtain ⟨rfl,rfl⟩:=h
  exact ⟨List.length_eq_zero_iff.1 hl.symm,hx rfl⟩
 | rop=>intro h;simp [bareV] at h
 | slv c z ex v hA hV hv=>intro h;rcases hv with rfl | rfl <;> rfl
 | fn f cs cs' hl hr ih=>intro h;simp only [bareV] at h ⊢;exact lst cs cs' hl (fun j x x' p q=>ih j x x' p q) h
 | agg cs cs' hl hr ih=>intro h;simp only [bareV] at h ⊢;exact lst cs cs' hl (fun j x x' p q=>ih j x x' p q) h
 | tup cs cs' hl hr ih=>intro h;simp only [bareV] at h ⊢;exact lst cs cs' hl (fun j x x' p q=>ih j x x' p q) h
 | _=>intro h;rfl
theorem bareL_vw {l l':List AV} (h:Rel2 (VW ρ V A) l l'):bareL l=true→bareL l'=true:=bareL_of h fun _ _ h=>bare_vw h
theorem plain_isC {x u:AV} (h:VW ρ V A x u) (hc:isC x=true):plainC u=true:=by
 cases h with
 | undef=>simp [Pw.isC] at hc
 | ptr=>simp [Pw.isC] at hc
 | sl=>simp [Pw.isC] at hc
 | slv=>simp [Pw.isC] at hc
 | map=>simp [Pw.isC] at hc
 | agg=>simp [Pw.isC] at hc
 | tup=>simp [Pw.isC] at hc
 | fn f cs cs' hl hr =>
  cases cs with
  | nil =>
   have:cs'=[]:=List.length_eq_zero_iff.1 hl.symm
   subst this
   rfl
  | cons a r=>simp [Pw.isC] at hc
 | _=>rfl
end
end Go.Pw
end
section
set_option linter.unusedSimpArgs false
set_option linter.unusedVariables false
namespace Go.Pw
open Go Go.Pav
section
variable {ρ:Nat→Nat} {V A:Nat→Prop} {h:WHeap} {h':Heap}
theorem kept_vw {L L':List Nat} (hLL:∀ b ∈ L,¬ V b→ρ b ∈ L') {v u:AV} (hv:VW ρ V A v u) (hk:keptV L v=true):keptV L' u=true:=by
 have lst:∀ {l l':List AV},l.length=l'.length→keptL L l=true→(∀ (j:Nat) (x x':AV),l[j]?=some x→l'[j]?=some x'→keptV L x=true→keptV L' x'=true)→keptL L' l'=true:=by
  intro l
  induction l with
  | nil=>intro l' hl _ _;cases l' with
   | nil=>rfl
   | cons _ _=>simp at hl
  | cons a r ih =>
   intro l' hl hk hr
   cases l' with
   | nil=>simp at hl
   | cons a' r' =>
    simp only [keptL,Bool.and_eq_true] at hk ⊢
    exact ⟨hr 0 a a' rfl rfl hk.1,ih (by simpa using hl) hk.2 fun j x x' h1 h2=>hr (j+1) x x' (by simpa using h1) (by simpa using h2)⟩
 induction hv with
 | undef v=>simp [keptV] at hk
 | ronil z ex=>rfl
 | ro z es es' ex ex' hc hl hx he hr _ =>
  simp only [keptV,Bool.and_eq_true,List.isEmpty_iff] at hk ⊢
  obtain ⟨rfl,rfl⟩:=hk
  exact ⟨List.length_eq_zero_iff.1 (by simpa using hl.symm),hx rfl⟩
 | rop=>simp [keptV] at hk
 | ptr b i o hA hV=>simp only [keptV,List.contains_iff_mem] at hk ⊢;exact hLL b hk hV
 | sl b z i len cap ex ex' hA hV hx=>simp only [keptV,List.contains_iff_mem] at hk ⊢;exact hLL b hk hV
 | slv b z ex v hA hV hv=>rcases hv with rfl | rfl <;> rfl
 | map=>simp [keptV] at hk
 | fn f cs cs' hl hr ih=>simp only [keptV] at hk ⊢;exact lst hl hk fun j x x' h1 h2 h3=>ih j x x' h1 h2 h3
 | agg cs cs' hl hr ih=>simp only [keptV] at hk ⊢;exact lst hl hk fun j x x' h1 h2 h3=>ih j x x' h1 h2 h3
 | tup cs cs' hl hr ih=>simp only [keptV] at hk ⊢;exact lst hl hk fun j x x' h1 h2 h3=>ih j x x' h1 h2 h3
 | _=>rfl
theorem keep_vw {L:List Nat} {v u:AV} (hv:VW ρ V A v u) (hk:keptV L v=true):VW ρ (fun b=>V b∧b ∈ L) (fun b=>A b∧b ∈ L) v u:=by
 induction hv with
 | undef v=>simp [keptV] at hk
 | bool b=>exact .bool b
 | int k n=>exact .int k n
 | str s=>exact .str s
 | nilp=>exact .nilp
 | nils=>exact .nils
 | nilm=>exact .nilm
 | nilf=>exact .nilf
 | ronil z ex=>exact .ronil z ex
 | ro z es es' ex ex' hc hl hx he hr _ =>
  simp only [keptV,Bool.and_eq_true,List.isEmpty_iff] at hk
  obtain ⟨rfl,rfl⟩:=hk
  refine .ro z [] es' true ex' (by simp) hl hx (by simp) (by simp)
 | rop=>simp [keptV] at hk
 | ptr b i o hA hV=>simp only [keptV,List.contains_iff_mem] at hk;exact .ptr b i o ⟨hA,hk⟩ fun q=>hV q.1
 | sl b z i len cap ex ex' hA hV hx=>simp only [keptV,List.contains_iff_mem] at hk;exact .sl b z i len cap ex ex' ⟨hA,hk⟩ (fun q=>hV q.1) hx
 | slv b z ex v hA hV hv=>simp only [keptV,List.contains_iff_mem] at hk;exact .slv b z ex v ⟨hA,hk⟩ ⟨hV,hk⟩ hv
 | map=>simp [keptV] at hk
 | fn f cs cs' hl hr ih=>exact .fn f cs cs' hl fun j x x' h1 h2=>ih j x x' h1 h2 (keptL_get (by simpa only [keptV] using hk) x (List.mem_of_getElem? h1))
 | agg cs cs' hl hr ih=>exact .agg cs cs' hl fun j x x' h1 h2=>ih j x x' h1 h2 (keptL_get (by simpa only [keptV] using hk) x (List.mem_of_getElem? h1))
 | tup cs cs' hl hr ih=>exact .tup cs cs' hl fun j x x' h1 h2=>ih j x x' h1 h2 (keptL_get (by simpa only [keptV] using hk) x (List.mem_of_getElem? h1))
theorem lst_get {l l':List AV} {u:AV} (hl:l.length=l'.length) (hu:u ∈ l'):∃ (j:Nat) (v:AV),l[j]?=some v∧l'[j]?=some u:=by
 obtain ⟨j,hj,e⟩:=List.getElem_of_mem hu
 exact ⟨j,l[j]'(by omega),List.getElem?_eq_getElem (by omega),by rw [List.getElem?_eq_getElem hj,e]⟩
theorem lst_get' {l l':List AV} {v:AV} (hl:l.length=l'.length) (hu:v ∈ l):∃ (j:Nat) (u:AV),l[j]?=some v∧l'[j]?=some u:=by
 obtain ⟨j,hj,e⟩:=List.getElem_of_mem hu
 exact ⟨j,l'[j]'(by omega),by rw [List.getElem?_eq_getElem hj,e],List.getElem?_eq_getElem (by omega)⟩
theorem reach_kept (H:HW ρ V A h h') {L:List Nat} (hL:∀ b ∈ L,keptOW L (Pav.get h b)=true):∀ (n:Nat) (v u:AV),VW ρ V A v u→keptV L v=true→∀ b' ∈ reach h' n u,∃ b ∈ L,b'=ρ b∧¬ V b∧A b:=by
 intro n
 induction n with
 | zero=>intro v u _ _ b hb;simp [reach] at hb
 | succ n ih =>
  intro v u hv hk b' hb'
  have obj:∀ b,b ∈ L→¬ V b→∃ z es es' mu',Pav.get h' (ρ b)=some (.cells z es' mu')∧Rel2 (Rel2 (VW ρ V A)) es es'∧∀ e ∈ es,keptL L e=true:=by
   intro b hb hV
   have h1:=hL b hb
   cases hg:Pav.get h b with
   | none=>rw [hg] at h1;simp [keptOW] at h1
   | some o =>
    rw [hg] at h1
    obtain ⟨o',g1,g2⟩:=H.obj b o hg hV
    cases o with
    | cells z es mu dt =>
     obtain ⟨es',mu',rfl,_,g3,_⟩:=g2
     simp only [keptOW,Bool.and_eq_true,List.all_eq_true] at h1
     exact ⟨z,es,es',mu',g1,g3,h1.2⟩
    | map es=>simp [keptOW] at h1
    | iter s p=>simp [keptOW] at h1
  have cell:∀ {e e':List AV},Rel2 (VW ρ V A) e e'→keptL L e=true→∀ x' ∈ e',b' ∈ reach h' n x'→∃ b ∈ L,b'=ρ b∧¬ V b∧A b:=by
   intro e e' hr hk x' hx' hb
   obtain ⟨j,hj,q⟩:=List.getElem_of_mem hx'
   obtain ⟨x,q2,q3⟩:=hr.get' (List.getElem?_eq_getElem hj)
   rw [q] at q3
   exact ih x x' q3 (keptL_get hk x (List.mem_of_getElem? q2)) b' hb
  cases hv with
  | ptr b i o hA hV =>
   simp only [keptV,List.contains_iff_mem] at hk
   obtain ⟨z,es,es',mu',g1,g2,g3⟩:=obj b hk hV
   simp only [reach,g1,List.mem_cons] at hb'
   rcases hb' with rfl | hb'
   · exact ⟨b,hk,rfl,hV,hA⟩
   · simp only [List.mem_flatMap] at hb'
     obtain ⟨x',hx',hb'⟩:=hb'
     have hx2:=List.mem_of_mem_drop hx'
     cases he:es'[i]? with
     | none=>rw [he] at hx2;simp at hx2
     | some e' =>
      rw [he] at hx2
      obtain ⟨e,q1,q2⟩:=g2.get' he
      exact cell q2 (g3 e (List.mem_of_getElem? q1)) x' hx2 hb'
  | sl b z i len cap ex ex' hA hV hx =>
   simp only [keptV,List.contains_iff_mem] at hk
   obtain ⟨z,es,es',mu',g1,g2,g3⟩:=obj b hk hV
   simp only [reach,g1,List.mem_cons] at hb'
   rcases hb' with rfl | hb'
   · exact ⟨b,hk,rfl,hV,hA⟩
   · simp only [List.mem_flatMap] at hb'
     obtain ⟨e',he',x',hx',hb'⟩:=hb'
     have he2:=List.mem_of_mem_drop (List.mem_of_mem_take he')
     obtain ⟨j,hj,q⟩:=List.getElem_of_mem he2
     obtain ⟨e,q1,q2⟩:=g2.get' (List.getElem?_eq_getElem hj)
     rw [q] at q2
     exact cell q2 (g3 e (List.mem_of_getElem? q1)) x' hx' hb'
  | slv b z ex v hA hV hv=>rcases hv with rfl | rfl <;> simp [reach] at hb'
  | map=>simp [keptV] at hk
  | rop=>simp [keptV] at hk
  | undef=>simp [keptV] at hk
  | fn f cs cs' hl hr =>
   simp only [keptV] at hk
   simp only [reach,List.mem_flatMap] at hb'
   obtain ⟨x',hx',hb'⟩:=hb'
   obtain ⟨j,x,q1,q2⟩:=lst_get hl hx'
   exact ih x x' (hr j x x' q1 q2) (keptL_get hk x (List.mem_of_getElem? q1)) b' hb'
  | agg cs cs' hl hr =>
   simp only [keptV] at hk
   simp only [reach,List.mem_flatMap] at hb'
   obtain ⟨x',hx',hb'⟩:=hb'
   obtain ⟨j,x,q1,q2⟩:=lst_get hl hx'
   exact ih x x' (hr j x x' q1 q2) (keptL_get hk x (List.mem_of_getElem? q1)) b' hb'
  | tup cs cs' hl hr =>
   simp only [keptV] at hk
   simp only [reach,List.mem_flatMap] at hb'
   obtain ⟨x',hx',hb'⟩:=hb'
   obtain ⟨j,x,q1,q2⟩:=lst_get hl hx'
   exact ih x x' (hr j x x' q1 q2) (keptL_get hk x (List.mem_of_getElem? q1)) b' hb'
  | _=>simp [reach] at hb'
theorem reachW_vw (H:HW ρ V A h h'):∀ (n:Nat) (v u:AV),VW ρ V A v u→∀ b ∈ reachW h n v,¬ V b→ρ b ∈ reach h' n u:=by
 intro n
 induction n with
 | zero=>intro v u _ b hb;simp [reachW] at hb
 | succ n ih =>
  intro v u hv b hb hVb
  cases hv with
  | ptr c i o hA hV =>
   simp only [reachW,List.mem_cons] at hb
   simp only [reach,List.mem_cons]
   rcases hb with rfl | hb
   · exact .inl rfl
   · refine .inr ?_
     split at hb
     · rename_i zb es mu dt hg
       obtain ⟨o',g1,es',mu',rfl,_,ge,gd⟩:=H.obj c _ hg hV
       split at hb
       · cases hb
       · simp only [g1]
         simp only [List.mem_flatMap] at hb ⊢
         obtain ⟨x,hx,hb⟩:=hb
         cases he:es[i]? with
         | none=>rw [he] at hx;simp at hx
         | some e =>
          rw [he] at hx
          obtain ⟨e',q1,q2⟩:=ge.get he
          rw [q1]
          simp only [Option.getD_some] at hx ⊢
          obtain ⟨j,hj,q⟩:=List.getElem_of_mem hx
          obtain ⟨x',q3,q4⟩:=(q2.drop o).get (List.getElem?_eq_getElem hj)
          rw [q] at q4
          exact ⟨x',List.mem_of_getElem? q3,ih x x' q4 b hb hVb⟩
     · cases hb
  | sl c z i len cap ex ex' hA hV hx =>
   simp only [reachW,List.mem_cons] at hb
   simp only [reach,List.mem_cons]
   rcases hb with rfl | hb
   · exact .inl rfl
   · refine .inr ?_
     split at hb
     · rename_i zb es mu dt hg
       obtain ⟨o',g1,es',mu',rfl,_,ge,gd⟩:=H.obj c _ hg hV
       split at hb
       · cases hb
       · simp only [g1]
         simp only [List.mem_flatMap] at hb ⊢
         obtain ⟨e,he,x,hx,hb⟩:=hb
         obtain ⟨k,hk,qk⟩:=List.getElem_of_mem he
         obtain ⟨e',q1,q2⟩:=((ge.drop i).take len).get (List.getElem?_eq_getElem hk)
         rw [qk] at q2
         obtain ⟨j,hj,q⟩:=List.getElem_of_mem hx
         obtain ⟨x',q3,q4⟩:=q2.get (List.getElem?_eq_getElem hj)
         rw [q] at q4
         exact ⟨e',List.mem_of_getElem? q1,x',List.mem_of_getElem? q3,ih x x' q4 b hb hVb⟩
     · cases hb
  | slv c z ex v hA hV hv =>
   simp only [reachW,List.mem_cons] at hb
   rcases hb with rfl | hb
   · exact absurd hV hVb
   · split at hb
     · split at hb
       · cases hb
       · simp at hb
     · cases hb
  | fn f cs cs' hl hr =>
   simp only [reachW,reach,List.mem_flatMap] at hb ⊢
   obtain ⟨x,hx,hb⟩:=hb
   obtain ⟨j,x',q1,q2⟩:=lst_get' hl hx
   exact ⟨x',List.mem_of_getElem? q2,ih x x' (hr j x x' q1 q2) b hb hVb⟩
  | agg cs cs' hl hr =>
   simp only [reachW,reach,List.mem_flatMap] at hb ⊢
   obtain ⟨x,hx,hb⟩:=hb
   obtain ⟨j,x',q1,q2⟩:=lst_get' hl hx
   exact ⟨x',List.mem_of_getElem? q2,ih x x' (hr j x x' q1 q2) b hb hVb⟩
  | tup cs cs' hl hr =>
   simp only [reachW,reach,List.mem_flatMap] at hb ⊢
   obtain ⟨x,hx,hb⟩:=hb
   obtain ⟨j,x',q1,q2⟩:=lst_get' hl hx
   exact ⟨x',List.mem_of_getElem? q2,ih x x' (hr j x x' q1 q2) b hb hVb⟩
  | undef=>simp [reachW] at hb
  | _=>simp [reachW] at hb
theorem keptO_vw (H:HW ρ V A h h') {L L':List Nat} (hLL:∀ b ∈ L,¬ V b→ρ b ∈ L') {b:Nat} (hV:¬ V b) (hk:keptOW L (Pav.get h b)=true):keptO L' (Pav.get h' (ρ b))=true:=by
 cases hg:Pav.get h b with
 | none=>rw [hg] at hk;simp [keptOW] at hk
 | some o =>
  rw [hg] at hk
  obtain ⟨o',g1,g2⟩:=H.obj b o hg hV
  rw [g1]
  cases o with
  | cells z es mu dt =>
   obtain ⟨es',mu',rfl,hmu,g3,_⟩:=g2
   simp only [keptOW,keptO,Bool.and_eq_true,List.all_eq_true] at hk ⊢
   refine ⟨hmu hk.1,fun e' he'=>?_⟩
   obtain ⟨j,hj,q⟩:=List.getElem_of_mem he'
   obtain ⟨e,q1,q2⟩:=g3.get' (List.getElem?_eq_getElem hj)
   rw [q] at q2
   have hke:=hk.2 e (List.mem_of_getElem? q1)
   have h1:=kept_vw (v:=.tup e) (u:=.tup e') hLL (VW.mktup q2) (by simpa only [keptV] using hke)
   simpa only [keptV] using h1
  | map es=>simp [keptOW] at hk
  | iter s p=>simp [keptOW] at hk
theorem kept_sim (H:HW ρ V A h h') (n:Nat) {v u:AV} (hv:VW ρ V A v u) (hk:keptXW h v (reachW h n v)=true):keptX h' u (reach h' n u)=true:=by
 simp only [keptXW,keptX,Bool.and_eq_true,List.all_eq_true] at hk ⊢
 obtain ⟨k1,k2⟩:=hk
 have hLL:=fun b hb hV=>reachW_vw H n v u hv b hb hV
 refine ⟨kept_vw hLL hv k1,fun b' hb'=>?_⟩
 obtain ⟨b,q1,rfl,q3,_⟩:=reach_kept H k2 n v u hv k1 b' hb'
 exact keptO_vw H hLL q3 (k2 b q1)
theorem HW.keep (H:HW ρ V A h h') {L L':List Nat} (hL:∀ b ∈ L,keptOW L (Pav.get h b)=true) (hLL:∀ b ∈ L,¬ V b→ρ b ∈ L') :
 HW ρ (fun b=>V b∧b ∈ L) (fun b=>A b∧b ∈ L) (h.filter fun x=>L.contains x.1) (h'.filter fun x=>L'.contains x.1):=by
 have key:∀ b o,Pav.get (h.filter fun x=>L.contains x.1) b=some o→Pav.get h b=some o∧b ∈ L:=by
  intro b o hb
  rw [get_filter] at hb
  by_cases q:b ∈ L
  · rw [if_pos (by simpa using q)] at hb;exact ⟨hb,q⟩
  · rw [if_neg (by simpa using q)] at hb;cases hb
 refine ⟨fun b o hb=>?_,fun b o hb hv=>?_,fun b o hb hv=>?_,fun b hb=>⟨H.sub b hb.1,hb.2⟩,fun b c hb hc hb' hc' he=>?_⟩
 · exact ⟨H.dom b o (key b o hb).1,(key b o hb).2⟩
 · exact H.virt b o (key b o hb).1 hv.1
 · obtain ⟨q1,q2⟩:=key b o hb
   have hV:¬ V b:=fun q=>hv ⟨q,q2⟩
   obtain ⟨o',g1,g2⟩:=H.obj b o q1 hV
   have hk:=hL b q2
   rw [q1] at hk
   refine ⟨o',by rw [get_filter,if_pos (by simpa using hLL b q2 hV)];exact g1,?_⟩
   cases o with
   | cells z es mu dt =>
    obtain ⟨es',mu',rfl,hmu,g3,g4⟩:=g2
    simp only [keptOW,Bool.and_eq_true,List.all_eq_true] at hk
    exact ⟨es',mu',rfl,hmu,⟨g3.1,fun j e e' h1 h2=>⟨(g3.2 j e e' h1 h2).1,fun k x x' h3 h4=>keep_vw ((g3.2 j e e' h1 h2).2 k x x' h3 h4) (keptL_get (hk.2 e (List.mem_of_getElem? h1)) x (List.mem_of_getElem? h3))⟩⟩,g4⟩
   | map es=>simp [keptOW] at hk
   | iter s p=>simp [keptOW] at hk
 · exact H.inj b c hb.1 hc.1 (fun q=>hb' ⟨q,hb.2⟩) (fun q=>hc' ⟨q,hc.2⟩) he
end
end Go.Pw
end
section
set_option linter.unusedSimpArgs false
set_option linter.unusedVariables false
namespace Go.Pw
open Go Go.Pav
def Keeps (ρ:Nat→Nat) (V A:Nat→Prop) (ρ':Nat→Nat) (V' A':Nat→Prop):Prop:=∀ b,A b→A' b∧ρ' b=ρ b∧(V' b↔V b)
theorem Keeps.refl (ρ:Nat→Nat) (V A:Nat→Prop):Keeps ρ V A ρ V A:=fun _ h=>⟨h,rfl,Iff.rfl⟩
theorem Keeps.trans {ρ ρ1 ρ2:Nat→Nat} {V A V1 A1 V2 A2:Nat→Prop} (h:Keeps ρ V A ρ1 V1 A1) (k:Keeps ρ1 V1 A1 ρ2 V2 A2):Keeps ρ V A ρ2 V2 A2:=fun b hb=>by
 obtain ⟨h1,h2,h3⟩:=h b hb
 obtain ⟨k1,k2,k3⟩:=k b h1
 exact ⟨k1,k2.trans h2,k3.trans h3⟩
structure Lts (ρ:Nat→Nat) (V A:Nat→Prop) (n m:Nat):Prop where
 w:∀ b,A b→b < n
 p:∀ b,A b→¬ V b→ρ b < m
def RunSim (run:WRun) (run':Run):Prop :=
 ∀ (f:Nat) (args:List AV) (h:WHeap) (n:Nat) (v:AV) (h1:WHeap) (n1:Nat),run f args h n=some (v,h1,n1) →
  ∀ (ρ:Nat→Nat) (V A:Nat→Prop) (args':List AV) (h':Heap) (m:Nat),Rel2 (VW ρ V A) args args'→HW ρ V A h h'→Lts ρ V A n m →
   ∃ v' h1' m1 ρ' V' A',run' f args' h' m=some (v',h1',m1)∧VW ρ' V' A' v v'∧HW ρ' V' A' h1 h1'∧Lts ρ' V' A' n1 m1∧Keeps ρ V A ρ' V' A' ∧
    (∀ b,A' b→A b∨n≤b)∧(∀ b,A' b→¬ V' b→(A b∧ρ' b=ρ b)∨m≤ρ' b)∧n≤n1∧m≤m1
def wrOf (d:WDid):List Nat:=match d.bar with | true=>d.wr.tail | false=>d.wr
structure OpSim (ρ:Nat→Nat) (V A:Nat→Prop) (nid n mid m:Nat) (d:WDid) (d':Did) (ρ':Nat→Nat) (V' A':Nat→Prop):Prop where
 v:VW ρ' V' A' d.v d'.v
 h:HW ρ' V' A' d.h d'.h
 keeps:Keeps ρ V A ρ' V' A'
 new:∀ b,A' b→A b∨b=nid∨n≤b
 newp:∀ b,A' b→¬ V' b→(A b∧ρ' b=ρ b)∨ρ' b=mid∨m≤ρ' b
 lt:Lts ρ' V' A' d.n d'.n
 next:n≤d.n
 nextp:m≤d'.n
 bar:d'.bar=true→d.bar=true∧d.wr=[]
 rd:∀ b ∈ d'.rd,∃ c ∈ d.rd,b=ρ' c∧¬ V' c∧A' c
 wr:∀ b ∈ d'.wr,(∃ c ∈ wrOf d,b=ρ' c∧¬ V' c∧A' c)∨∃ k w,d.bar=true∧d.wr=k::w∧m≤b∧b < d'.n∧∀ c,A' c→¬ V' c→ρ' c=b→k≤c
section
variable {ρ:Nat→Nat} {V A:Nat→Prop} {n m:Nat} {h:WHeap} {h':Heap} {e e':Env} {C:WProg} {run:WRun} {run':Run}
theorem hasPtr_vw:∀ (v:AV),hasPtr v=true→∀ (u:AV),VW ρ V A v u→hasPtr u=true:=by
 intro v
 refine AV.rec (motive_1:=fun v=>hasPtr v=true→∀ (u:AV),VW ρ V A v u→hasPtr u=true) (motive_2:=fun _=>True)
  (motive_3:=fun l=>hasPtrL l=true→∀ l',Rel2 (VW ρ V A) l l'→hasPtrL l'=true) ?_ ?_ ?_ ?_ ?_ ?_ ?_ ?_ ?_ ?_ ?_ ?_ ?_ ?_ ?_ ?_ ?_ ?_ ?_ ?_ v
 · intro hp;simp [hasPtr] at hp
 · intro b hp;simp [hasPtr] at hp
 · intro b c hp;simp [hasPtr] at hp
 · intro b hp;simp [hasPtr] at hp
 · intro hp;simp [hasPtr] at hp
 · intro hp;simp [hasPtr] at hp
 · intro hp;simp [hasPtr] at hp
 · intro hp;simp [hasPtr] at hp
 · intro z es ex _ hp;simp [hasPtr] at hp
 · intro z _ hp;simp [hasPtr] at hp
 · intro b i o _ u hu
   rw [hu.ptr_inv.1];rfl
 · intro b z i len cap ex hp;simp [hasPtr] at hp
 · intro b _ u hu
   rw [hu.map_inv.1];rfl
 · intro f cs ih hp u hu
   obtain ⟨cs',rfl,hr⟩:=hu.fn_inv
   simp only [hasPtr];exact ih (by simpa only [hasPtr] using hp) cs' hr
 · intro cs ih hp u hu
   obtain ⟨cs',rfl,hr⟩:=hu.agg_inv
   simp only [hasPtr];exact ih (by simpa only [hasPtr] using hp) cs' hr
 · intro cs ih hp u hu
   obtain ⟨cs',rfl,hr⟩:=hu.tup_inv
   simp only [hasPtr];exact ih (by simpa only [hasPtr] using hp) cs' hr
 · trivial
 · intros;trivial
 · intro hp;simp [hasPtrL] at hp
 · intro v l ih1 ih2 hp l' hr
   obtain ⟨u,t,rfl,h1,h2⟩:=hr.inv_cons
   simp only [hasPtrL,Bool.or_eq_true] at hp ⊢
   rcases hp with hp | hp
   · exact .inl (ih1 hp u h1)
   · exact .inr (ih2 hp t h2)
theorem hasPtrL_vw:∀ (l:List AV),hasPtrL l=true→∀ l',Rel2 (VW ρ V A) l l'→hasPtrL l'=true:=by
 intro l
 induction l with
 | nil=>intro hp;simp [hasPtrL] at hp
 | cons v l ih =>
  intro hp l' hr
  obtain ⟨u,t,rfl,h1,h2⟩:=hr.inv_cons
  simp only [hasPtrL,Bool.or_eq_true] at hp ⊢
  rcases hp with hp | hp
  · exact .inl (hasPtr_vw v hp u h1)
  · exact .inr (ih hp t h2)
theorem noPtr_vw:∀ (n:Nat) (v u v':AV),VW ρ V A v u→frzW h n v=some v'→hasPtr v=false→hasPtr u=false:=by
 intro n
 induction n with
 | zero=>intro v u v' _ hf;simp [frzW] at hf
 | succ n ih =>
  have lst:∀ (l l' r:List AV),Rel2 (VW ρ V A) l l'→mapO (frzW h n) l=some r→hasPtrL l=false→hasPtrL l'=false:=by
   intro l
   induction l with
   | nil=>intro l' r hr _ _;rw [hr.inv_nil];rfl
   | cons a l ihl =>
    intro l' r hr hm hp
    obtain ⟨b,t,rfl,h1,h2⟩:=hr.inv_cons
    simp only [mapO] at hm
    obtain ⟨x,h3,hm⟩:=ob_some hm
    obtain ⟨xs,h4,rfl⟩:=om_some hm
    simp only [hasPtrL,Bool.or_eq_false_iff] at hp ⊢
    exact ⟨ih a b x h1 h3 hp.1,ihl t xs h2 h4 hp.2⟩
  intro v u v' hv hf hp
  cases v with
  | undef=>simp [frzW] at hf
  | bool b=>rw [hv.bool_inv];simp [hasPtr]
  | int k x=>rw [hv.int_inv];simp [hasPtr]
  | str s=>rw [hv.str_inv];simp [hasPtr]
  | nilp=>cases hv;simp [hasPtr]
  | nils=>cases hv;simp [hasPtr]
  | nilm=>cases hv;simp [hasPtr]
  | nilf=>cases hv;simp [hasPtr]
  | ro z es ex=>rcases hv.ro_inv with ⟨rfl,rfl⟩ | ⟨es',ex',rfl,_,_,_⟩ <;> simp [hasPtr]
  | rop cs=>obtain ⟨cs',rfl,_⟩:=hv.rop_inv;simp [hasPtr]
  | ptr b i o=>simp [hasPtr] at hp
  | map b=>simp [hasPtr] at hp
  | sl b z i len cap ex =>
   rcases hv.sl_inv with ⟨_,_,ex',rfl,_⟩ | ⟨_,_,rfl,rfl,rfl,hu⟩
   · simp [hasPtr]
   · rcases hu with rfl | rfl <;> simp [hasPtr]
  | fn f cs =>
   obtain ⟨cs',rfl,hr⟩:=hv.fn_inv
   simp only [frzW] at hf
   obtain ⟨r,h1,rfl⟩:=om_some hf
   simp only [hasPtr] at hp ⊢
   exact lst cs cs' r hr h1 hp
  | agg cs =>
   obtain ⟨cs',rfl,hr⟩:=hv.agg_inv
   simp only [frzW] at hf
   obtain ⟨r,h1,rfl⟩:=om_some hf
   simp only [hasPtr] at hp ⊢
   exact lst cs cs' r hr h1 hp
  | tup cs =>
   obtain ⟨cs',rfl,hr⟩:=hv.tup_inv
   simp only [frzW] at hf
   obtain ⟨r,h1,rfl⟩:=om_some hf
   simp only [hasPtr] at hp ⊢
   exact lst cs cs' r hr h1 hp
theorem noPtrL_vw {n:Nat}:∀ (l l' r:List AV),Rel2 (VW ρ V A) l l'→mapO (frzW h n) l=some r→hasPtrL l=false→hasPtrL l'=false:=by
 intro l
 induction l with
 | nil=>intro l' r hr _ _;rw [hr.inv_nil];rfl
 | cons a l ihl =>
  intro l' r hr hm hp
  obtain ⟨b,t,rfl,h1,h2⟩:=hr.inv_cons
  simp only [mapO] at hm
  obtain ⟨x,h3,hm⟩:=ob_some hm
  obtain ⟨xs,h4,rfl⟩:=om_some hm
  simp only [hasPtrL,Bool.or_eq_false_iff] at hp ⊢
  exact ⟨noPtr_vw n a b x h1 h3 hp.1,ihl t xs h2 h4 hp.2⟩
theorem pure_sim (hr:RunSim run run') {f:Nat} {az az':List AV} {v:AV} (ha:Rel2 (VD ρ V) az az') (hp:pureCallW run f az=some v):∃ v',pureCall run' f az'=some v'∧VD ρ V v v':=by
 obtain ⟨⟨v0,h0,n0⟩,h1,h2⟩:=ob_some hp
 obtain ⟨v',h1',m1,ρ',V',A',r1,r2,r3,_⟩:=hr f az [] 0 v0 h0 n0 h1 ρ (fun _=>False) (fun _=>False) az' [] 0 (ha.mono fun x x' _ hx=>hx.data)
  ⟨fun b o hb=>by simp [Pav.get] at hb,fun b o hb=>by simp [Pav.get] at hb,fun b o hb=>by simp [Pav.get] at hb,fun b hb=>hb.elim,fun b c hb=>hb.elim⟩ ⟨fun b hb=>hb.elim,fun b hb=>hb.elim⟩
 obtain ⟨u',r4,r5⟩:=frz_vw r3 _ _ _ _ r2 h2
 exact ⟨u',by unfold pureCall;rw [r1];exact r4,r5.data⟩
theorem applyW_append:∀ (u v:WUpd) (h:WHeap),applyW h (u++v)=applyW (applyW h u) v:=by
 intro u
 induction u with
 | nil=>intro v h;rfl
 | cons x u ih=>intro v h;obtain ⟨b,o⟩:=x;simp only [List.cons_append,applyW];exact ih v _
theorem virt_ok (H:HW ρ V A h h') {nid:Nat} (hn:¬ A nid) (mid z:Nat) (mu dt:Bool):HW (up ρ nid mid) (addN V nid) (addN A nid) (put h nid (.cells z [] mu dt)) h':=by
 have hold:∀ b,A b→addN A nid b∧up ρ nid mid b=ρ b∧(addN V nid b↔V b):=by
  intro b hb
  have hne:b≠nid:=fun e=>hn (e ▸ hb)
  refine ⟨.inl hb,by simp [up,hne],⟨fun q=>?_,fun q=>.inl q⟩⟩
  rcases q with q | q
  · exact q
  · exact absurd q hne
 constructor
 · intro b o hb
   rw [get_put] at hb
   split at hb
   · rename_i e;exact .inr e.symm
   · exact .inl (H.dom b o hb)
 · intro b o hb hv
   rw [get_put] at hb
   split at hb
   · cases hb;exact ⟨z,mu,dt,rfl⟩
   · rename_i e
     rcases hv with q | q
     · exact H.virt b o hb q
     · exact absurd q.symm e
 · intro b o hb hv
   rw [get_put] at hb
   split at hb
   · rename_i e;exact absurd (.inr e.symm) hv
   · have hA:=H.dom b o hb
     obtain ⟨_,q2,q3⟩:=hold b hA
     obtain ⟨o',r1,r2⟩:=H.obj b o hb fun q=>hv (.inl q)
     refine ⟨o',by rw [q2];exact r1,r2.mono hold⟩
 · rintro b (q | q)
   · exact .inl (H.sub b q)
   · exact .inr q
 · rintro b c (hb | hb) (hc | hc) h1 h2 he
   · obtain ⟨_,p2,_⟩:=hold b hb
     obtain ⟨_,q2,_⟩:=hold c hc
     rw [p2,q2] at he
     exact H.inj b c hb hc (fun q=>h1 (.inl q)) (fun q=>h2 (.inl q)) he
   · exact absurd (.inr hc) h2
   · exact absurd (.inr hb) h1
   · exact hb.trans hc.symm
theorem get_upsW (n b:Nat):∀ (h1 h:WHeap),get (applyW h (upsW n h1)) b=if n≤b then (match get h1 b with | some o=>some o | none=>get h b) else get h b:=by
 intro h1
 induction h1 with
 | nil=>intro h;simp [upsW,applyW,Pav.get]
 | cons x r ih =>
  intro h
  obtain ⟨c,o⟩:=x
  by_cases hc:n≤c
  · have e:upsW n ((c,o)::r)=upsW n r++[(c,some o)]:=by simp [upsW,hc]
    rw [e,applyW_append]
    simp only [applyW,updOneW,get_put,Pav.get]
    by_cases q:c=b
    · subst q;simp [hc]
    · simp only [if_neg q];exact ih h
  · have e:upsW n ((c,o)::r)=upsW n r:=by simp [upsW,hc]
    rw [e,ih h]
    simp only [Pav.get]
    by_cases q:c=b
    · subst q;simp [hc]
    · simp only [if_neg q]
theorem HW.union {ρ1:Nat→Nat} {V1 A1:Nat→Prop} {h1:WHeap} {h1':Heap} (H:HW ρ V A h h') (H1:HW ρ1 V1 A1 h1 h1') (hA:∀ b,A b→b < n) (hA1:∀ b,A1 b→n≤b) (hp:∀ b,A b→¬ V b→ρ b < m) {m1:Nat} (hp1:∀ b,A1 b→¬ V1 b→m≤ρ1 b∧ρ1 b < m1) :
 Keeps ρ V A (fun b=>if n≤b then ρ1 b else ρ b) (fun b=>V b∨V1 b) (fun b=>A b∨A1 b)∧Keeps ρ1 V1 A1 (fun b=>if n≤b then ρ1 b else ρ b) (fun b=>V b∨V1 b) (fun b=>A b∨A1 b) ∧
 HW (fun b=>if n≤b then ρ1 b else ρ b) (fun b=>V b∨V1 b) (fun b=>A b∨A1 b) (applyW h (upsW n h1)) (applyUpd h' (ups m m1 h1')):=by
 have k:Keeps ρ V A (fun b=>if n≤b then ρ1 b else ρ b) (fun b=>V b∨V1 b) (fun b=>A b∨A1 b):=fun b hb=>by
  have:=hA b hb
  exact ⟨.inl hb,if_neg (by omega),⟨fun q=>q.elim id fun q=>by have:=hA1 b (H1.sub b q);omega,.inl⟩⟩
 have k1:Keeps ρ1 V1 A1 (fun b=>if n≤b then ρ1 b else ρ b) (fun b=>V b∨V1 b) (fun b=>A b∨A1 b):=fun b hb=>by
  have:=hA1 b hb
  exact ⟨.inr hb,if_pos this,⟨fun q=>q.elim (fun q=>by have:=hA b (H.sub b q);omega) id,.inr⟩⟩
 have key:∀ b o,get (applyW h (upsW n h1)) b=some o→(get h1 b=some o∧n≤b)∨(get h b=some o∧¬ n≤b):=by
  intro b o hb
  rw [get_upsW] at hb
  by_cases q:n≤b
  · rw [if_pos q] at hb
    cases hq:get h1 b with
    | some o1=>rw [hq] at hb;cases hb;exact .inl ⟨rfl,q⟩
    | none=>rw [hq] at hb;exact .inr ⟨hb,by have:=hA b (H.dom b _ hb);omega⟩
  · rw [if_neg q] at hb;exact .inr ⟨hb,q⟩
 refine ⟨k,k1,?_,?_,?_,?_,?_⟩
 · intro b o hb
   rcases key b o hb with ⟨q,_⟩ | ⟨q,_⟩
   · exact .inr (H1.dom b o q)
   · exact .inl (H.dom b o q)
 · intro b o hb hv
   rcases key b o hb with ⟨q,q2⟩ | ⟨q,q2⟩
   · exact H1.virt b o q ((k1 b (H1.dom b o q)).2.2.1 hv)
   · exact H.virt b o q ((k b (H.dom b o q)).2.2.1 hv)
 · intro b o hb hv
   rcases key b o hb with ⟨q,q2⟩ | ⟨q,q2⟩
   · have hA':=H1.dom b o q
     have hv':¬ V1 b:=fun p=>hv (.inr p)
     obtain ⟨o',e1,e2⟩:=H1.obj b o q hv'
     refine ⟨o',?_,e2.mono k1⟩
     rw [get_ups]
     simp only [if_pos q2]
     rw [if_pos (hp1 b hA' hv'),e1]
   · have hA':=H.dom b o q
     have hv':¬ V b:=fun p=>hv (.inl p)
     obtain ⟨o',e1,e2⟩:=H.obj b o q hv'
     refine ⟨o',?_,e2.mono k⟩
     rw [get_ups]
     simp only [if_neg q2]
     rw [if_neg (by have:=hp b hA' hv';omega)]
     exact e1
 · rintro b (q | q)
   · exact .inl (H.sub b q)
   · exact .inr (H1.sub b q)
 · have f0:∀ b,A b→(if n≤b then ρ1 b else ρ b)=ρ b:=fun b hb=>(k b hb).2.1
   have f1:∀ b,A1 b→(if n≤b then ρ1 b else ρ b)=ρ1 b:=fun b hb=>(k1 b hb).2.1
   rintro b c (hb | hb) (hc | hc) g1 g2 he
   · rw [f0 b hb,f0 c hc] at he
     exact H.inj b c hb hc (fun q=>g1 (.inl q)) (fun q=>g2 (.inl q)) he
   · rw [f0 b hb,f1 c hc] at he
     have h1:=hp b hb (fun q=>g1 (.inl q))
     have h2:=(hp1 c hc (fun q=>g2 (.inr q))).1
     omega
   · rw [f1 b hb,f0 c hc] at he
     have h1:=(hp1 b hb (fun q=>g1 (.inr q))).1
     have h2:=hp c hc (fun q=>g2 (.inl q))
     omega
   · rw [f1 b hb,f1 c hc] at he
     exact H1.inj b c hb hc (fun q=>g1 (.inr q)) (fun q=>g2 (.inr q)) he
theorem call_sim (hr:RunSim run run') (H:HW ρ V A h h') (lt:Lts ρ V A n m) {nid mid:Nat} (hn:¬ A nid) (hnl:nid < n) (hm:∀ b,A b→¬ V b→ρ b≠mid) (hml:mid < m) {f:Nat} {args args':List AV} (ha:Rel2 (VW ρ V A) args args') {c:WCalled} (hc:evCallW C run f args h nid n=some c) :
 ∃ c' ρ' V' A',evCall (erProg C) run' f args' h' mid m=some c'∧OpSim ρ V A nid n mid m (doneCallW h n args c) (doneCall h' m args' c') ρ' V' A':=by
 have whole:∀ {r:AV × WHeap × Nat},run f args h n=some r→∃ r' ρ' V' A',run' f args' h' m=some r'∧OpSim ρ V A nid n mid m (doneCallW h n args (.whole r.1 r.2.1 r.2.2)) (doneCall h' m args' (.whole r'.1 r'.2.1 r'.2.2)) ρ' V' A':=by
  rintro ⟨v,h1,n1⟩ hrun
  obtain ⟨v',h1',m1,ρ',V',A',r1,r2,r3,r4,r5,r6,r7,r8,r9⟩:=hr f args h n v h1 n1 hrun ρ V A args' h' m ha H lt
  refine ⟨(v',h1',m1),ρ',V',A',r1,r2,r3,r5,fun b hb=>?_,fun b hb hv=>?_,r4,r8,r9,fun _=>⟨rfl,rfl⟩,fun b hb=>by simp [doneCall] at hb,fun b hb=>by simp [doneCall] at hb⟩
  · rcases r6 b hb with q | q
    · exact .inl q
    · exact .inr (.inr q)
  · rcases r7 b hb hv with q | q
    · exact .inl q
    · exact .inr (.inr q)
 unfold evCallW at hc
 split at hc
 · rename_i hi
   split at hc
   · rename_i hfr
     obtain ⟨az,h1,h2⟩:=ob_some hc
     have hreach:∀ b' ∈ args'.flatMap (reach h' frzDepth),∃ b ∈ args.flatMap (reachW h frzDepth),b'=ρ b∧¬ V b∧A b∧∃ z es mu dt,get h b=some (.cells z es mu dt):=by
      intro b' hb'
      simp only [List.mem_flatMap] at hb' ⊢
      obtain ⟨u,hu,hb'⟩:=hb'
      obtain ⟨j,hj,q1⟩:=List.getElem_of_mem hu
      obtain ⟨x,q2,q3⟩:=ha.get' (List.getElem?_eq_getElem hj)
      rw [q1] at q3
      obtain ⟨x',_,q4⟩:=(mapO_some h1).2 j x q2
      obtain ⟨b,q5,q6⟩:=reach_vw H frzDepth x u x' q3 q4 b' hb'
      exact ⟨b,⟨x,List.mem_of_getElem? q2,q5⟩,q6⟩
     by_cases hdp:isDp f=true
     · rw [if_pos hdp] at h2
       obtain ⟨⟨v0,h0,n0⟩,hrun,h2⟩:=ob_some h2
       obtain ⟨hk,h2k,rfl⟩:=om_some h2
       clear h2
       obtain ⟨az',h4,h5⟩:=mapO_of_rel (fun x y hxy x' hx'=>frz_vw H frzDepth x y x' hxy hx') ha h1
       obtain ⟨v0',h0',m0,ρ1,V1,A1,r1,r2,r3,r4,r5,r6,r7,r8,r9⟩:=hr f az [] n v0 h0 n0 hrun ρ (fun _=>False) (fun _=>False) az' [] m (h5.mono fun x x' _ hx=>hx.data)
        ⟨fun b o hb=>by simp [Pav.get] at hb,fun b o hb=>by simp [Pav.get] at hb,fun b o hb=>by simp [Pav.get] at hb,fun b hb=>hb.elim,fun b c hb=>hb.elim⟩ ⟨fun b hb=>hb.elim,fun b hb=>hb.elim⟩
       unfold deepKeepW at h2k
       unfold deepUW
       by_cases hdb:isDb f=true
       · rw [if_pos hdb] at h2k ⊢
         split at h2k
         case isFalse=>cases h2k
         rename_i hkW
         obtain rfl:=Option.some.inj h2k
         simp only at hkW ⊢
         have hLL:=fun b hb hV=>reachW_vw r3 frzDepth v0 v0' r2 b hb hV
         have hkx:=kept_sim r3 frzDepth r2 hkW
         simp only [keptXW,Bool.and_eq_true,List.all_eq_true] at hkW
         have r3k:=r3.keep (L':=reach h0' frzDepth v0') hkW.2 hLL
         have r2k:=keep_vw r2 hkW.1
         have hA1:∀ b,A1 b∧b ∈ reachW h0 frzDepth v0→n≤b:=fun b hb=>(r6 b hb.1).elim (fun q=>q.elim) id
         have hp1:∀ b,A1 b∧b ∈ reachW h0 frzDepth v0→¬ (V1 b∧b ∈ reachW h0 frzDepth v0)→m≤ρ1 b∧ρ1 b < m0:=fun b hb hv=>⟨(r7 b hb.1 fun q=>hv ⟨q,hb.2⟩).elim (fun q=>q.1.elim) id,r4.p b hb.1 fun q=>hv ⟨q,hb.2⟩⟩
         obtain ⟨u1,u2,u3⟩:=H.union r3k lt.w hA1 lt.p hp1
         refine ⟨.deep v0' (ups m m0 (h0'.filter fun x=>(reach h0' frzDepth v0').contains x.1)) m0,(fun b=>if n≤b then ρ1 b else ρ b),(fun b=>V b∨(V1 b∧b ∈ reachW h0 frzDepth v0)),(fun b=>A b∨(A1 b∧b ∈ reachW h0 frzDepth v0)),?_,?_⟩
         · simp only [evCall,erProg,hi,Bool.true_or,if_true,hdp,Bool.and_self,h4,ob,deepCall,r1,om,deepKeep,deepU,if_pos hdb,hkx,List.nil_append]
         · have f0:∀ b,A b→(if n≤b then ρ1 b else ρ b)=ρ b:=fun b hb=>(u1 b hb).2.1
           have f1:∀ b,A1 b∧b ∈ reachW h0 frzDepth v0→(if n≤b then ρ1 b else ρ b)=ρ1 b:=fun b hb=>(u2 b hb).2.1
           simp only [doneCallW,doneCall]
           refine ⟨r2k.mono u2,u3,u1,?_,?_,⟨?_,?_⟩,r8,r9,fun q=>(by cases q),?_,?_⟩
           · rintro b (hb | hb)
             · exact .inl hb
             · exact .inr (.inr (hA1 b hb))
           · rintro b (hb | hb) hv
             · exact .inl ⟨hb,(u1 b hb).2.1⟩
             · refine .inr (.inr ?_)
               simp only [f1 b hb]
               exact (hp1 b hb fun q=>hv (.inr q)).1
           · rintro b (hb | hb)
             · exact Nat.lt_of_lt_of_le (lt.w b hb) r8
             · exact r4.w b hb.1
           · rintro b (hb | hb) hv
             · simp only [f0 b hb]
               exact Nat.lt_of_lt_of_le (lt.p b hb fun q=>hv (.inl q)) r9
             · simp only [f1 b hb]
               exact (hp1 b hb fun q=>hv (.inr q)).2
           · intro b' hb'
             obtain ⟨b,q1,q2,q3,q4,_⟩:=hreach b' hb'
             exact ⟨b,q1,by simp only [f0 b q4];exact q2,fun q=>q3 ((u1 b q4).2.2.1 q),.inl q4⟩
           · intro b' hb'
             refine .inr ⟨n,_,rfl,rfl,?_,?_,?_⟩
             · simp only [ups,List.map_reverse,List.mem_reverse,List.mem_map,List.mem_filter,decide_eq_true_eq] at hb'
               obtain ⟨_,⟨x,⟨_,q⟩,rfl⟩,rfl⟩:=hb'
               exact q.1
             · simp only [ups,List.map_reverse,List.mem_reverse,List.mem_map,List.mem_filter,decide_eq_true_eq] at hb'
               obtain ⟨_,⟨x,⟨_,q⟩,rfl⟩,rfl⟩:=hb'
               exact q.2
             · rintro c (hc | hc) hv he
               · simp only [f0 c hc] at he
                 have h1:=lt.p c hc fun q=>hv (.inl q)
                 have h2:m≤b':=by
                  simp only [ups,List.map_reverse,List.mem_reverse,List.mem_map,List.mem_filter,decide_eq_true_eq] at hb'
                  obtain ⟨_,⟨x,⟨_,q⟩,rfl⟩,rfl⟩:=hb'
                  exact q.1
                 omega
               · exact hA1 c hc
       · rw [if_neg hdb] at h2k ⊢
         obtain rfl:=Option.some.inj h2k
         simp only at *
         obtain ⟨k1,k2⟩:=marks_ok H _ _ hreach
         have hA1:∀ b,A1 b→n≤b:=fun b hb=>(r6 b hb).elim (fun q=>q.elim) id
         have hp1:∀ b,A1 b→¬ V1 b→m≤ρ1 b∧ρ1 b < m0:=fun b hb hv=>⟨(r7 b hb hv).elim (fun q=>q.1.elim) id,r4.p b hb hv⟩
         obtain ⟨u1,u2,u3⟩:=k1.union r3 lt.w hA1 lt.p hp1
         refine ⟨.deep v0' (markFrozen h' (args'.flatMap (reach h' frzDepth))++ups m m0 h0') m0,(fun b=>if n≤b then ρ1 b else ρ b),(fun b=>V b∨V1 b),(fun b=>A b∨A1 b),?_,?_⟩
         · simp only [evCall,erProg,hi,Bool.true_or,if_true,hdp,Bool.and_self,h4,ob,deepCall,r1,om,deepKeep,deepU,if_neg hdb]
         · have f0:∀ b,A b→(if n≤b then ρ1 b else ρ b)=ρ b:=fun b hb=>(u1 b hb).2.1
           have f1:∀ b,A1 b→(if n≤b then ρ1 b else ρ b)=ρ1 b:=fun b hb=>(u2 b hb).2.1
           simp only [doneCallW,doneCall]
           refine ⟨r2.mono u2,by rw [applyUpd_append];exact u3,u1,?_,?_,⟨?_,?_⟩,r8,r9,fun q=>(by cases q),?_,?_⟩
           · rintro b (hb | hb)
             · exact .inl hb
             · exact .inr (.inr (hA1 b hb))
           · rintro b (hb | hb) hv
             · exact .inl ⟨hb,(u1 b hb).2.1⟩
             · refine .inr (.inr ?_)
               simp only [f1 b hb]
               exact (hp1 b hb fun q=>hv (.inr q)).1
           · rintro b (hb | hb)
             · exact Nat.lt_of_lt_of_le (lt.w b hb) r8
             · exact r4.w b hb
           · rintro b (hb | hb) hv
             · simp only [f0 b hb]
               exact Nat.lt_of_lt_of_le (lt.p b hb fun q=>hv (.inl q)) r9
             · simp only [f1 b hb]
               exact r4.p b hb fun q=>hv (.inr q)
           · intro b' hb'
             obtain ⟨b,q1,q2,q3,q4,_⟩:=hreach b' hb'
             exact ⟨b,q1,by simp only [f0 b q4];exact q2,fun q=>q3 ((u1 b q4).2.2.1 q),.inl q4⟩
           · intro b' hb'
             rw [List.map_append] at hb'
             rcases List.mem_append.1 hb' with hb' | hb'
             · obtain ⟨c,s1,s2,s3,s4⟩:=k2 b' hb'
               exact .inl ⟨c,s1,by simp only [f0 c s4];exact s2,fun q=>s3 ((u1 c s4).2.2.1 q),.inl s4⟩
             · refine .inr ⟨n,_,rfl,rfl,?_,?_,?_⟩
               · simp only [ups,List.map_reverse,List.mem_reverse,List.mem_map,List.mem_filter,decide_eq_true_eq] at hb'
                 obtain ⟨_,⟨x,⟨_,q⟩,rfl⟩,rfl⟩:=hb'
                 exact q.1
               · simp only [ups,List.map_reverse,List.mem_reverse,List.mem_map,List.mem_filter,decide_eq_true_eq] at hb'
                 obtain ⟨_,⟨x,⟨_,q⟩,rfl⟩,rfl⟩:=hb'
                 exact q.2
               · rintro c (hc | hc) hv he
                 · simp only [f0 c hc] at he
                   have h1:=lt.p c hc fun q=>hv (.inl q)
                   have h2:m≤b':=by
                    simp only [ups,List.map_reverse,List.mem_reverse,List.mem_map,List.mem_filter,decide_eq_true_eq] at hb'
                    obtain ⟨_,⟨x,⟨_,q⟩,rfl⟩,rfl⟩:=hb'
                    exact q.1
                   omega
                 · exact hA1 c hc
     rw [if_neg hdp] at h2
     obtain ⟨x,h3,hend⟩:=ob_some h2
     unfold freshEndW at hend
     split at hend
     · cases hend
     rename_i hbr0
     cases hend
     have hbr:isBr f=true→bareXW x=true:=by
      intro hb
      simpa [hb] using hbr0
     obtain ⟨az',h4,h5⟩:=mapO_of_rel (fun x y hxy x' hx'=>frz_vw H frzDepth x y x' hxy hx') ha h1
     obtain ⟨⟨v0,h0,n0⟩,hrun,hx⟩:=ob_some h3
     obtain ⟨v0',h0',m0,ρ1,V1,A1,r1,r2,r3,r4,_⟩:=hr f az [] 0 v0 h0 n0 hrun ρ (fun _=>False) (fun _=>False) az' [] 0 (h5.mono fun x x' _ hx=>hx.data)
      ⟨fun b o hb=>by simp [Pav.get] at hb,fun b o hb=>by simp [Pav.get] at hb,fun b o hb=>by simp [Pav.get] at hb,fun b hb=>hb.elim,fun b c hb=>hb.elim⟩ ⟨fun b hb=>hb.elim,fun b hb=>hb.elim⟩
     have hmk:HW ρ V A (applyW h (freshUW f (markFrozenW h (args.flatMap (reachW h frzDepth))))) (applyUpd h' (freshU f (markFrozen h' (args'.flatMap (reach h' frzDepth))))) ∧
      ∀ b' ∈ (freshU f (markFrozen h' (args'.flatMap (reach h' frzDepth)))).map (·.1),∃ b ∈ (freshUW f (markFrozenW h (args.flatMap (reachW h frzDepth)))).map (·.1),b'=ρ b∧¬ V b∧A b:=by
      unfold freshU freshUW
      split
      · exact ⟨H,fun b hb=>by simp at hb⟩
      · exact marks_ok H _ _ hreach
     obtain ⟨k1,k2⟩:=hmk
     have hgo:∀ {x':AV × Upd},freshCall run' f az' mid=some x'→(isBr f=true→bareX x'=true)→evCall (erProg C) run' f args' h' mid m=some (.data x'.1 (freshU f (markFrozen h' (args'.flatMap (reach h' frzDepth)))++x'.2)):=by
      intro x' hx' hb'
      have hb2:(isBr f&&!bareX x')=false:=by
       cases hq:isBr f with
       | false=>rfl
       | true=>simp [hb' hq]
      have hdp':isDp f=false:=by simpa using hdp
      simp only [evCall,erProg,hi,Bool.true_or,if_true,hfr,hdp',Bool.and_self,Bool.and_false,h4,hx',ob,freshEnd,hb2,Bool.false_eq_true,if_false]
     have rdOk:∀ {ρ':Nat→Nat} {V' A':Nat→Prop},(∀ b,A b→A' b∧ρ' b=ρ b∧(V' b↔V b))→∀ b' ∈ args'.flatMap (reach h' frzDepth),∃ c ∈ args.flatMap (reachW h frzDepth),b'=ρ' c∧¬ V' c∧A' c:=by
      intro ρ' V' A' hk b' hb'
      obtain ⟨b,q1,q2,q3,q4,_⟩:=hreach b' hb'
      obtain ⟨s1,s2,s3⟩:=hk b q4
      exact ⟨b,q1,by rw [s2];exact q2,fun q=>q3 (s3.1 q),s1⟩
     have hold2:∀ b,A b→addN A nid b∧up ρ nid mid b=ρ b∧(addN V nid b↔V b):=by
      intro b hb
      have hne:b≠nid:=fun e=>hn (e ▸ hb)
      refine ⟨.inl hb,by simp [up,hne],⟨fun q=>?_,fun q=>.inl q⟩⟩
      rcases q with q | q
      · exact q
      · exact absurd q hne
     have hold1:∀ b,A b→addN A nid b∧up ρ nid mid b=ρ b∧(V b↔V b):=up_mono hn
     have hVn:¬ V nid:=fun q=>hn (H.sub nid q)
     simp only at hx
     split at hx
     · rename_i hown
       obtain ⟨v,h6,rfl⟩:=om_some hx
       have hnA:¬ A1 n0:=fun q=>Nat.lt_irrefl _ (r4.w n0 q)
       obtain ⟨u',q1,q2⟩:=hand_vw (ρ2:=ρ) (V2:=V) (A2:=A) (b':=m0) (mid:=0) (fun q=>absurd q hnA) r2 v h6
       have q3:=none_vw (fun q=>absurd q hnA) r2 v h6
       have hfc:freshCall run' f az' mid=some (u',[]):=by
        unfold freshCall
        rw [r1]
        simp only [ob,q3,q1,om]
       have hbx:isBr f=true→bareX (u',([]:Upd))=true:=by
        intro hb
        have:=hbr hb
        simp only [bareXW,bareX,List.all_nil,Bool.and_true] at this ⊢
        exact bare_vw q2 this
       refine ⟨_,ρ,V,A,hgo hfc hbx,?_⟩
       simp only [doneCallW,doneCall,List.append_nil]
       exact ⟨q2,k1,Keeps.refl ρ V A,fun b hb=>.inl hb,fun b hb _=>.inl ⟨hb,rfl⟩,lt,Nat.le_refl _,Nat.le_refl _,fun q=>(by cases q),rdOk fun b hb=>⟨hb,rfl,Iff.rfl⟩,fun b hb=>.inl (k2 b hb)⟩
     · rename_i b hown
       unfold freshOfW at hx
       split at hx
       · rename_i z es mu dt hg
         split at hx
         · rename_i hmd
           obtain ⟨v,h6,rfl⟩:=om_some hx
           simp only [Bool.and_eq_true] at hmd
           obtain ⟨rfl,rfl⟩:=hmd
           have hA1:A1 b:=r3.dom b _ hg
           by_cases hV1:V1 b
           · obtain ⟨z',mu',dt',e⟩:=r3.virt b _ hg hV1
             cases e
             obtain ⟨u',q1,q2⟩:=hand_vw (ρ2:=up ρ nid mid) (V2:=addN V nid) (A2:=addN A nid) (b':=m0) (mid:=0) (fun _=>.inr ⟨hV1,.inr rfl,.inr rfl⟩) r2 v h6
             have q3:=none_vw (fun _=>hV1) r2 v h6
             have hfc:freshCall run' f az' mid=some (u',[]):=by
              unfold freshCall
              rw [r1]
              simp only [ob,q3,q1,om]
             have hbx:isBr f=true→bareX (u',([]:Upd))=true:=by
              intro hb
              have:=hbr hb
              simp only [bareXW,bareX,List.all_nil,Bool.and_true,Bool.and_eq_true] at this ⊢
              exact bare_vw q2 this.1
             refine ⟨_,up ρ nid mid,addN V nid,addN A nid,hgo hfc hbx,?_⟩
             simp only [doneCallW,doneCall,List.append_nil]
             refine ⟨q2,?_,hold2,?_,?_,⟨?_,?_⟩,Nat.le_refl _,Nat.le_refl _,fun q=>(by cases q),rdOk hold2,?_⟩
             · rw [applyW_append]
               exact virt_ok k1 hn mid z true true
             · rintro c (hc | hc)
               · exact .inl hc
               · exact .inr (.inl hc)
             · rintro c (hc | hc) hv
               · exact .inl ⟨hc,(hold2 c hc).2.1⟩
               · exact absurd (.inr hc) hv
             · rintro c (hc | hc)
               · exact lt.w c hc
               · subst hc;exact hnl
             · rintro c (hc | hc) hv
               · rw [(hold2 c hc).2.1];exact lt.p c hc fun q=>hv (.inl q)
               · exact absurd (.inr hc) hv
             · intro b' hb'
               obtain ⟨c,s1,s2,s3,s4⟩:=k2 b' hb'
               obtain ⟨t1,t2,t3⟩:=hold2 c s4
               exact .inl ⟨c,by simp only [wrOf];rw [List.map_append];exact List.mem_append_left _ s1,by rw [t2];exact s2,fun q=>s3 (t3.1 q),t1⟩
           · obtain ⟨o',g1,g2⟩:=r3.obj b _ hg hV1
             obtain ⟨es',mu',rfl,e1,e2,e3⟩:=g2
             have hmu:=e1 rfl
             subst hmu
             obtain ⟨u',q1,q2⟩:=hand_vw (ρ2:=up ρ nid mid) (V2:=V) (A2:=addN A nid) (b':=ρ1 b) (mid:=mid) (fun _=>.inl ⟨hV1,rfl,.inr rfl,hVn,by simp [up]⟩) r2 v h6
             have q3:ownOf v0'=some (ρ1 b):=by
              rcases own_vw hA1 hV1 r2 v h6 with ⟨s1,_⟩ | ⟨_,s2⟩
              · rw [hown] at s1;cases s1
              · exact s2
             have hcells:Rel2 (Rel2 (VW (up ρ nid mid) V (addN A nid))) es es':=e2.mono fun e e' he hee=>hee.mono fun x x' hx hxx=>hxx.isC (e3 rfl e he x hx)
             have hpl:(es'.all fun e=>e.all plainC)=true:=by
              rw [List.all_eq_true]
              intro e' he'
              rw [List.all_eq_true]
              intro x' hx'
              obtain ⟨j,hj,p1⟩:=List.getElem_of_mem he'
              obtain ⟨e,p2,p3⟩:=e2.get' (List.getElem?_eq_getElem hj)
              rw [p1] at p3
              obtain ⟨k,hk,p4⟩:=List.getElem_of_mem hx'
              obtain ⟨x,p5,p6⟩:=p3.get' (List.getElem?_eq_getElem hk)
              rw [p4] at p6
              exact plain_isC p6 (e3 rfl e (List.mem_of_getElem? p2) x (List.mem_of_getElem? p5))
             have hfc:freshCall run' f az' mid=some (u',[(mid,some (.cells z es' true))]):=by
              unfold freshCall
              rw [r1]
              simp only [ob,q3,g1,freshOf,hpl,Bool.and_self,if_true,q1,om]
             have hbx:isBr f=true→bareX (u',[(mid,some (.cells z es' true))])=true:=by
              intro hb
              have:=hbr hb
              simp only [bareXW,bareX,List.all_nil,List.all_cons,bareOW,bareO,Bool.and_true,Bool.and_eq_true] at this ⊢
              refine ⟨bare_vw q2 this.1,?_⟩
              rw [List.all_eq_true]
              intro e' he'
              obtain ⟨j,hj,p1⟩:=List.getElem_of_mem he'
              obtain ⟨e,p2,p3⟩:=e2.get' (List.getElem?_eq_getElem hj)
              rw [p1] at p3
              exact bareL_vw p3 (List.all_eq_true.1 this.2 e (List.mem_of_getElem? p2))
             refine ⟨_,up ρ nid mid,V,addN A nid,hgo hfc hbx,?_⟩
             simp only [doneCallW,doneCall]
             refine ⟨q2,?_,hold1,?_,?_,⟨?_,?_⟩,Nat.le_refl _,Nat.le_refl _,fun q=>(by cases q),rdOk hold1,?_⟩
             · rw [applyW_append,applyUpd_append]
               exact new_ok k1 hn hm ⟨es',true,rfl,fun _=>rfl,hcells,e3⟩
             · rintro c (hc | hc)
               · exact .inl hc
               · exact .inr (.inl hc)
             · rintro c (hc | hc) hv
               · exact .inl ⟨hc,(hold1 c hc).2.1⟩
               · subst hc;exact .inr (.inl (by simp [up]))
             · rintro c (hc | hc)
               · exact lt.w c hc
               · subst hc;exact hnl
             · rintro c (hc | hc) hv
               · rw [(hold1 c hc).2.1];exact lt.p c hc hv
               · subst hc;simp only [up,if_true];exact hml
             · intro b' hb'
               rw [List.map_append] at hb'
               rcases List.mem_append.1 hb' with hb' | hb'
               · obtain ⟨c,s1,s2,s3,s4⟩:=k2 b' hb'
                 obtain ⟨t1,t2,t3⟩:=hold1 c s4
                 exact .inl ⟨c,by simp only [wrOf];rw [List.map_append];exact List.mem_append_left _ s1,by rw [t2];exact s2,s3,t1⟩
               · simp only [List.map_cons,List.map_nil,List.mem_singleton] at hb'
                 subst hb'
                 exact .inl ⟨nid,by simp only [wrOf];rw [List.map_append];exact List.mem_append_right _ (by simp),by simp [up],hVn,.inr rfl⟩
         · cases hx
       · cases hx
   · rename_i hfr
     obtain ⟨r,h1,rfl⟩:=om_some hc
     obtain ⟨r',ρ',V',A',r1,r2⟩:=whole h1
     refine ⟨_,ρ',V',A',?_,r2⟩
     have hfr:isFr f=false:=by simpa using hfr
     have hdp':isDp f=false:=by
      unfold isFr at hfr
      unfold isDp
      have:=of_decide_eq_false hfr
      exact decide_eq_false (by omega)
     simp only [evCall,erProg,hi,Bool.true_or,if_true,hfr,hdp',Bool.and_false,Bool.false_eq_true,if_false,inlineCall,r1,om,tidy]
 · rename_i hi
   have hi:C.inl f=false:=by simpa using hi
   split at hc
   · rename_i hp
     obtain ⟨r,h1,rfl⟩:=om_some hc
     obtain ⟨r',ρ',V',A',r1,r2⟩:=whole h1
     refine ⟨_,ρ',V',A',?_,r2⟩
     simp only [Bool.and_eq_true,Bool.not_eq_true'] at hp
     simp only [evCall,erProg,hi,hp.1,hasPtrL_vw args hp.2 args' ha,Bool.false_or,Bool.not_false,Bool.and_self,if_true,Bool.false_and,Bool.false_eq_true,if_false,inlineCall,r1,om,tidy]
   · rename_i hp
     obtain ⟨az,h1,h2⟩:=ob_some hc
     obtain ⟨v,h3,rfl⟩:=om_some h2
     have hp':(!C.pp f&&hasPtrL args')=false:=by
      cases hpp:C.pp f with
      | true=>rfl
      | false =>
       rw [hpp] at hp
       have h0:hasPtrL args=false:=by simpa using hp
       rw [noPtrL_vw args args' az ha h1 h0];rfl
     obtain ⟨az',h4,h5⟩:=mapO_of_rel (fun x y hxy x' hx'=>frz_vw H frzDepth x y x' hxy hx') ha h1
     obtain ⟨v',h6,h7⟩:=pure_sim hr h5 h3
     have hreach:∀ b' ∈ args'.flatMap (reach h' frzDepth),∃ b ∈ args.flatMap (reachW h frzDepth),b'=ρ b∧¬ V b∧A b∧∃ z es mu dt,get h b=some (.cells z es mu dt):=by
      intro b' hb'
      simp only [List.mem_flatMap] at hb' ⊢
      obtain ⟨u,hu,hb'⟩:=hb'
      obtain ⟨j,hj,q1⟩:=List.getElem_of_mem hu
      obtain ⟨x,q2,q3⟩:=ha.get' (List.getElem?_eq_getElem hj)
      rw [q1] at q3
      obtain ⟨x',_,q4⟩:=(mapO_some h1).2 j x q2
      obtain ⟨b,q5,q6⟩:=reach_vw H frzDepth x u x' q3 q4 b' hb'
      exact ⟨b,⟨x,List.mem_of_getElem? q2,q5⟩,q6⟩
     refine ⟨.data v' (marks h' args' v'),ρ,V,A,by simp only [evCall,erProg,hi,hp',Bool.false_or,Bool.false_eq_true,if_false,h4,h6,om],?_⟩
     have hmarks:HW ρ V A (applyW h (marksW h args v)) (applyUpd h' (marks h' args' v'))∧∀ b' ∈ (marks h' args' v').map (·.1),∃ b ∈ (marksW h args v).map (·.1),b'=ρ b∧¬ V b∧A b:=by
      unfold marks marksW
      by_cases hr2:hasRefW frzDepth v=true
      · rw [if_pos hr2]
        split
        · exact marks_ok H _ _ hreach
        · have:=marks_ok H (args.flatMap (reachW h frzDepth)) [] (fun b hb=>by cases hb)
          exact ⟨this.1,fun b hb=>by simp at hb⟩
      · rw [if_neg hr2,if_neg (fun q=>hr2 (hasRef_vw _ _ _ h7 q))]
        exact ⟨H,fun b hb=>by simp at hb⟩
     refine ⟨h7.mono fun _ q=>q.elim,hmarks.1,Keeps.refl ρ V A,fun b hb=>.inl hb,fun b hb _=>.inl ⟨hb,rfl⟩,lt,Nat.le_refl _,Nat.le_refl _,fun q=>(by cases q),fun b' hb'=>?_,fun b hb=>.inl (hmarks.2 b hb)⟩
     obtain ⟨b,q1,q2,q3,q4,_⟩:=hreach b' hb'
     exact ⟨b,q1,q2,q3,q4⟩
theorem map_ev (he:EW ρ V A e e') {xs:List Opd} (hx:xs.all okO=true):Rel2 (VW ρ V A) (xs.map fun x=>x.ev e) ((xs.map erO).map fun x=>x.ev e'):=by
 rw [List.map_map]
 simp only [List.all_eq_true] at hx
 refine ⟨by simp,fun j x x' h1 h2=>?_⟩
 rw [List.getElem?_map] at h1 h2
 cases h3:xs[j]? with
 | none=>rw [h3] at h1;cases h1
 | some c=>rw [h3] at h1 h2;cases h1;cases h2;exact he.opd (hx c (List.mem_of_getElem? h3))
theorem rd_ok (he:EW ρ V A e e') {op:COp} (ho:okOp op=true) {r:AV × WUpd} (hs:stepW op e h n=some r):∀ b' ∈ readsOf e' (erOp op),∃ b ∈ readsOf e op,b'=ρ b∧¬ V b∧A b:=by
 have one:∀ {x:Opd},okO x=true→x.ev e≠.undef→∀ b' ∈ ptrId ((erO x).ev e'),∃ b ∈ ptrId (x.ev e),b'=ρ b∧¬ V b∧A b:=by
  intro x hx hun b' hb'
  have hv:=he.opd hx
  cases hxe:x.ev e with
  | ptr b i o=>rw [hxe] at hv;obtain ⟨q,h1,h2⟩:=hv.ptr_inv;rw [q] at hb';simp [ptrId] at hb' ⊢;exact ⟨hb',h2,h1⟩
  | map b=>rw [hxe] at hv;obtain ⟨q,h1,h2⟩:=hv.map_inv;rw [q] at hb';simp [ptrId] at hb' ⊢;exact ⟨hb',h2,h1⟩
  | sl b z i len cap ex =>
   rw [hxe] at hv
   rcases hv.sl_inv with ⟨h1,h2,ex',q,_⟩ | ⟨_,_,_,_,_,q⟩
   · rw [q] at hb';simp [ptrId] at hb' ⊢;exact ⟨hb',h2,h1⟩
   · rcases q with q | q <;> rw [q] at hb' <;> simp [ptrId] at hb'
  | undef=>exact absurd hxe hun
  | ro z es ex =>
   rw [hxe] at hv
   rcases hv.ro_inv with ⟨_,q⟩ | ⟨_,_,q,_⟩ <;> rw [q] at hb' <;> simp [ptrId] at hb'
  | _=>rw [hxe] at hv;cases hnm:(erO x).ev e' <;> rw [hnm] at hv hb' <;> first | (cases hv;done) | (simp [ptrId] at hb';done)
 have two:∀ {x y:Opd},okO x=true→okO y=true→x.ev e≠.undef→y.ev e≠.undef→∀ b' ∈ ptrId ((erO x).ev e')++ptrId ((erO y).ev e'),∃ b ∈ ptrId (x.ev e)++ptrId (y.ev e),b'=ρ b∧¬ V b∧A b:=by
  intro x y hx hy hux huy b' hb'
  rcases List.mem_append.1 hb' with q | q
  · obtain ⟨b,q1,q2⟩:=one hx hux b' q;exact ⟨b,List.mem_append.2 (.inl q1),q2⟩
  · obtain ⟨b,q1,q2⟩:=one hy huy b' q;exact ⟨b,List.mem_append.2 (.inr q1),q2⟩
 have nil:∀ b' ∈ ([]:List Nat),∃ b ∈ readsOf e op,b'=ρ b∧¬ V b∧A b:=fun b' hb'=>by cases hb'
 cases op with
 | load k ag a=>exact one ho (fun q=>by simp [stepW,wLoad,ovW,om,wLoadOf,q] at hs)
 | sliceA k x lo hi =>
  simp only [okOp,Bool.and_eq_true] at ho
  exact one ho.1 (fun q=>by simp [stepW,wSliceA,wSliceOf,q] at hs)
 | store k a x =>
  simp only [okOp,Bool.and_eq_true] at ho
  exact one ho.1 (fun q=>by simp [stepW,wStore,wStoreOf,q] at hs)
 | next x=>exact one ho (fun q=>by simp [stepW,wNext,q] at hs)
 | len kd x=>exact one ho (fun q=>by simp [stepW,wLen,wEvLen,ovW,om,q] at hs)
 | look kd z ok m k =>
  simp only [okOp,Bool.and_eq_true] at ho
  exact one ho.2.1 (fun q=>by simp [stepW,wLook,q] at hs)
 | upd kd m k v =>
  simp only [okOp,Bool.and_eq_true] at ho
  exact one ho.1 (fun q=>by simp [stepW,wUpd,q] at hs)
 | app z bytes zeros s x =>
  simp only [okOp,Bool.and_eq_true] at ho
  have hux:x.ev e≠.undef:=fun q=>by simp [stepW,wApp,q,wElems,ob] at hs
  refine two ho.2.1 ho.2.2 (fun q=>?_) hux
  simp only [stepW,wApp,q] at hs
  split at hs
  · split at hs
    · obtain ⟨_,_,hs⟩:=ob_some hs
      split at hs
      · simp [wEvApp] at hs
      · cases hs
    · cases hs
  · split at hs
    · obtain ⟨_,_,hs⟩:=ob_some hs
      simp [wEvApp] at hs
    · obtain ⟨_,_,hs⟩:=ob_some hs
      simp [wFrzApp,snapOfW,ob] at hs
 | cpy z d s =>
  simp only [okOp,Bool.and_eq_true] at ho
  refine two ho.1 ho.2 (fun q=>?_) (fun q=>by simp [stepW,wCpy,q,wElems,ob] at hs)
  simp only [stepW,wCpy,q] at hs
  obtain ⟨_,_,hs⟩:=ob_some hs
  simp [wCopyIn] at hs
 | clr z d =>
  simp only [okOp,Bool.and_eq_true] at ho
  exact one ho.2 (fun q=>by simp [stepW,wClr,wClrIn,q] at hs)
 | _=>exact nil
theorem wants_sim (he:EW ρ V A e e') {g:Option (Nat × Bool)} {b:Bool} (hw:wants e g=some b):wants e' g=some b:=by
 cases g with
 | none=>exact hw
 | some p =>
  obtain ⟨s,w⟩:=p
  simp only [wants] at hw ⊢
  cases hg:get e s with
  | none=>rw [hg] at hw;cases hw
  | some v =>
   obtain ⟨v',h1,h2⟩:=he s v hg
   rw [hg] at hw
   rw [h1]
   cases v with
   | bool b=>rw [h2.bool_inv];exact hw
   | tup vs =>
    cases vs with
    | nil =>
     obtain ⟨vs',rfl,hr⟩:=h2.tup_inv
     rw [hr.inv_nil];exact hw
    | cons a r=>cases hw
   | _=>cases hw
theorem op_sim (hr:RunSim run run') (he:EW ρ V A e e') (H:HW ρ V A h h') (lt:Lts ρ V A n m) {nid mid:Nat} (hn:¬ A nid) (hnl:nid < n) (hm:∀ b,A b→¬ V b→ρ b≠mid) (hml:mid < m)
 {o:COper} (ho:okOp o.op=true) {d:WDid} (hd:evOpW C run o nid e h n=some d):∃ d' ρ' V' A',evOp (erProg C) run' (erOper o) mid e' h' m=some d'∧OpSim ρ V A nid n mid m d d' ρ' V' A':=by
 unfold evOpW at hd
 cases hw:wants e o.guard with
 | none=>rw [hw] at hd;cases hd
 | some b =>
  rw [hw] at hd
  have hw':=wants_sim he hw
  cases b with
  | false =>
   simp only [Option.some.injEq] at hd
   subst hd
   refine ⟨⟨.tup [],h',m,false,[],[]⟩,ρ,V,A,by simp only [evOp,erOper,hw'],VW.mktup .nil,H,Keeps.refl ρ V A,fun b hb=>.inl hb,fun b hb _=>.inl ⟨hb,rfl⟩,lt,Nat.le_refl _,Nat.le_refl _,fun q=>(by cases q),fun b hb=>(by cases hb),fun b hb=>(by cases hb)⟩
  | true =>
   simp only at hd
   have goal:∃ d' ρ' V' A',evAct (erProg C) run' (erOp o.op) mid e' h' m=some d'∧OpSim ρ V A nid n mid m d d' ρ' V' A':=by
    have callCase:∀ (f:Nat) (args args':List AV),Rel2 (VW ρ V A) args args'→callOf e' (erOp o.op)=some (some (f,args'))→callOf e o.op=some (some (f,args)) →
     ∃ d' ρ' V' A',evAct (erProg C) run' (erOp o.op) mid e' h' m=some d'∧OpSim ρ V A nid n mid m d d' ρ' V' A':=by
     intro f args args' ha hc' hc
     simp only [evActW,hc] at hd
     obtain ⟨c,h1,rfl⟩:=om_some hd
     obtain ⟨c',ρ',V',A',h2,h3⟩:=call_sim hr H lt hn hnl hm hml ha h1
     exact ⟨_,ρ',V',A',by simp only [evAct,hc',h2,om],h3⟩
    by_cases hcall:callOf e o.op=some none
    · have hcall':callOf e' (erOp o.op)=some none:=by
       cases hop:o.op <;> rw [hop] at hcall <;> simp only [callOf,erOp] at hcall ⊢
       · cases hcall
       · split at hcall <;> cases hcall
      simp only [evActW,hcall] at hd
      obtain ⟨r,h1,rfl⟩:=om_some hd
      obtain ⟨r',h2,h3⟩:=stepW_ok he H hn hm ho h1
      have hu:=up_mono (ρ:=ρ) (V:=V) (m:=mid) hn
      have hVn:¬ V nid:=fun q=>hn (H.sub nid q)
      refine ⟨_,up ρ nid mid,V,addN A nid,by simp only [evAct,hcall',h2,om];rfl,h3.1,h3.2.1,hu,?_,?_,⟨?_,?_⟩,Nat.le_refl _,Nat.le_refl _,fun q=>(by cases q),?_,?_⟩
      · rintro b (hb | rfl)
        · exact .inl hb
        · exact .inr (.inl rfl)
      · rintro b (hb | rfl) hv
        · exact .inl ⟨hb,(hu b hb).2.1⟩
        · exact .inr (.inl (by simp [up]))
      · rintro b (hb | rfl)
        · exact lt.w b hb
        · exact hnl
      · rintro b (hb | rfl) hv
        · rw [(hu b hb).2.1];exact lt.p b hb hv
        · simp only [up,if_true];exact hml
      · intro b' hb'
        obtain ⟨b,q1,q2,q3,q4⟩:=rd_ok he ho h1 b' hb'
        exact ⟨b,q1,by rw [(hu b q4).2.1];exact q2,q3,.inl q4⟩
      · intro b' hb'
        exact .inl (h3.2.2 b' hb')
    · cases hop:o.op with
      | call f args =>
       rw [hop] at ho
       have:=callCase f _ _ (map_ev he ho) (by rw [hop];rfl) (by rw [hop];rfl)
       rwa [hop] at this
      | callv g args =>
       rw [hop] at ho
       simp only [okOp,Bool.and_eq_true] at ho
       have hg:=he.opd ho.1
       cases hge:g.ev e with
       | fn f caps =>
        rw [hge] at hg
        obtain ⟨caps',q,hrel⟩:=hg.fn_inv
        have:=callCase f _ _ ((map_ev he ho.2).append hrel) (by rw [hop];simp only [erOp,callOf,q]) (by rw [hop];simp only [callOf,hge])
        rwa [hop] at this
       | _ =>
        exfalso
        rw [hop] at hd
        simp only [evActW,callOf,hge] at hd
        cases hd
      | _=>exact absurd (by rw [hop];rfl) hcall
   obtain ⟨d',ρ',V',A',h1,h2⟩:=goal
   exact ⟨d',ρ',V',A',by simp only [evOp,erOper,hw'];exact h1,h2⟩
end
end Go.Pw
end
