/- Part of the theory that the claims of this work use: PwGlue, PwGlue2, G00, KT, M01, KM, KB. No conditions of its own. -/
import Derived.Test.YthoeclhpjbbfhaaGreatT6
import Derived.ChangeSame
import Derived.ChangeArms
import Derived.ReadAgain
import Derived.Handed
import Derived.JoinedOf
import Derived.RowKit
import Derived.Test.YthoeclhpjbbfhaaGreatRows
import Derived.ProofKit
set_option linter.unusedVariables false
set_option linter.unusedSimpArgs false
set_option maxHeartbeats 4000000
set_option maxRecDepth 10000
section
namespace Go.Pw
open Go Go.Pav
inductive CT where
 | bool
 | int (k:IntKind)
 | str
 | slice (ts:List CT)
inductive Ty:CT→AV→Prop
 | bool (b:Bool):Ty .bool (.bool b)
 | int (k:IntKind) (n:Int) (h1:k.min≤n) (h2:n≤k.max):Ty (.int k) (.int k n)
 | str (s:List UInt8) (h:s.length < 2 ^ 63):Ty .str (.str s)
 | slice (ts:List CT) (es:List (List AV)) (ex:Bool) (hn:es.length < 2 ^ 63) (hw:∀ (i:Nat) (e:List AV),es[i]?=some e→e.length=ts.length)
  (h:∀ (i:Nat) (e:List AV) (j:Nat) (ct:CT) (x:AV),es[i]?=some e→ts[j]?=some ct→e[j]?=some x→Ty ct x):Ty (.slice ts) (.ro ts.length es ex)
theorem Ty.isC {ct:CT} {a:AV} (h:Ty ct a):Pw.isC a=true:=by cases h <;> rfl
def fieldsT (F:TypeId→Option (List CT)) (P:Program):List Field→Nat→Option (List CT)
 | [],_=>some []
 | f::r,off=>(F f.type).bind fun ts=>if f.offset=off∧ts.length=P.cellsOf f.type then (fieldsT F P r (off+ts.length)).map (ts++·) else none
def flatT (P:Program):Nat→TypeId→Option (List CT)
 | 0,_=>none
 | n+1,t=>match P.underlying t with
  | some .bool=>some [.bool]
  | some (.int k)=>some [.int k]
  | some .string=>some [.str]
  | some (.slice e)=>(flatT P n e).bind fun ts=>if ts.length=P.cellsOf e∧0 < ts.length then some [.slice ts] else none
  | some (.struct fs)=>(fieldsT (flatT P n) P fs.toList 0).bind fun ts=>if ts.length=P.cellsOf t then some ts else none
  | some (.array m e)=>(flatT P n e).bind fun ts=>if ts.length=P.cellsOf e∧m * ts.length=P.cellsOf t then some (List.replicate m ts).flatten else none
  | _=>none
theorem flatten_rep {α:Type} (ts:List α):∀ (m j:Nat),j < m * ts.length→(List.replicate m ts).flatten[j]?=ts[j % ts.length]?
 | 0,j,h=>by simp at h
 | m+1,j,h=>by
  rw [List.replicate_succ,List.flatten_cons]
  rcases Nat.lt_or_ge j ts.length with hl | hl
  · rw [List.getElem?_append_left hl,Nat.mod_eq_of_lt hl]
  · rw [List.getElem?_append_right hl,flatten_rep ts m (j - ts.length) (by rw [Nat.add_mul] at h;omega),Nat.mod_eq_sub_mod hl]
theorem trod_array {H:Type} {enc:TypeId × Value→H} {P:Program} {w:World} {base:Nat} {spare:Nat→Bool} {held:Bool} {fuel:Nat} {t:TypeId} {cs:List Value} {x:DataW H × List MemPlace} {m:Nat} {e:TypeId}
 (ht:P.underlying t=some (.array m e)) (h:DataW.trod enc P w base spare held fuel t cs=some x) :
 ∃ (xs:List (DataW H × List MemPlace)) (n:Nat),fuel=n+1∧cs.length=P.cellsOf t∧xs.length=m ∧
  ∀ i,i < m→DataW.trod enc P w base spare held n e ((cs.drop (i * P.cellsOf e)).take (P.cellsOf e))=xs[i]?:=by
 cases fuel with
 | zero=>simp [DataW.trod] at h
 | succ n =>
  unfold DataW.trod at h
  rw [ht] at h
  split at h <;> simp_all
  obtain ⟨hl,xs,hp,hd⟩:=h
  exact ⟨xs,by simpa using mapM_some_length hp,fun i hi=>mapM_some_get hp i i (List.getElem?_range hi)⟩
def CellOk (ψ:Psi) (W:World) (ct:CT) (v:Value):Prop :=
 ∃ a a',Ty ct a∧VD id (fun _=>False) a a'∧a'.cell=true∧VR ψ W (fun c=>c < W.heap.size) (fun _=>(0,0)) (fun _=>False) a' v
section
variable {H:Type} {enc:TypeId × Value→H} {P:Program} {W:World} {ψ:Psi}
theorem fields_open {F:TypeId→Option (List CT)} {n:Nat} {cs:List Value}
 (hF:∀ t cs x ts,F t=some ts→DataW.trod enc P W 0 (fun _=>true) true n t cs=some x→cs.length=ts.length∧∀ (j:Nat) (ct:CT),ts[j]?=some ct→∃ v,cs[j]?=some v∧CellOk ψ W ct v) :
 ∀ (fs:List Field) (off:Nat) (ts:List CT),fieldsT F P fs off=some ts→(∀ f ∈ fs,∃ x,DataW.trod enc P W 0 (fun _=>true) true n f.type ((cs.drop f.offset).take (P.cellsOf f.type))=some x) →
  ∀ (j:Nat) (ct:CT),ts[j]?=some ct→∃ v,cs[off+j]?=some v∧CellOk ψ W ct v:=by
 intro fs
 induction fs with
 | nil=>intro off ts h _ j ct hj;simp only [fieldsT,Option.some.injEq] at h;subst h;simp at hj
 | cons f r ih =>
  intro off ts h hx j ct hj
  simp only [fieldsT,Option.bind_eq_some_iff] at h
  obtain ⟨t1,h1,h⟩:=h
  split at h
  · rename_i hc
    simp only [Option.map_eq_some_iff] at h
    obtain ⟨t2,h2,rfl⟩:=h
    rcases Nat.lt_or_ge j t1.length with hl | hl
    · rw [List.getElem?_append_left hl] at hj
      obtain ⟨x,q⟩:=hx f (by simp)
      obtain ⟨v,q1,q2⟩:=(hF _ _ _ _ h1 q).2 j ct hj
      refine ⟨v,?_,q2⟩
      rw [List.getElem?_take] at q1
      split at q1
      · rw [List.getElem?_drop] at q1;rw [← hc.1];exact q1
      · cases q1
    · rw [List.getElem?_append_right hl] at hj
      obtain ⟨v,q1,q2⟩:=ih _ _ h2 (fun f hf=>hx f (by simp [hf])) _ ct hj
      exact ⟨v,by rw [← q1];congr 1;omega,q2⟩
  · cases h
theorem cells_open:∀ (n k:Nat) (t:TypeId) (cs:List Value) (x:DataW H × List MemPlace) (ts:List CT),flatT P k t=some ts→DataW.trod enc P W 0 (fun _=>true) true n t cs=some x →
 cs.length=ts.length∧∀ (j:Nat) (ct:CT),ts[j]?=some ct→∃ v,cs[j]?=some v∧CellOk ψ W ct v:=by
 intro n
 induction n with
 | zero=>intro k t cs x ts _ h;simp [DataW.trod] at h
 | succ n ih =>
  intro k t cs x ts hf h
  cases k with
  | zero=>simp [flatT] at hf
  | succ k =>
   have one:∀ {v:Value} {ct:CT},cs=[v]→ts=[ct]→CellOk ψ W ct v→cs.length=ts.length∧∀ (j:Nat) (ct:CT),ts[j]?=some ct→∃ v,cs[j]?=some v∧CellOk ψ W ct v:=by
    intro v ct h1 h2 h3
    subst h1;subst h2
    refine ⟨rfl,fun j ct' hj=>?_⟩
    cases j with
    | zero=>simp only [List.getElem?_cons_zero,Option.some.injEq] at hj;subst hj;exact ⟨v,rfl,h3⟩
    | succ j=>simp at hj
   unfold flatT at hf
   split at hf
   · rename_i ht
     cases hf
     obtain ⟨b,e,_⟩:=DataW.trod_bool ht h
     exact one e rfl ⟨_,_,.bool b,.bool b,rfl,.bool b⟩
   · rename_i k' ht
     cases hf
     obtain ⟨m,e,_,hw⟩:=DataW.trod_int ht h
     simp only [Lit.wf,Bool.and_eq_true,decide_eq_true_eq] at hw
     exact one e rfl ⟨_,_,.int k' m hw.1 hw.2,.int k' m,rfl,.int k' m⟩
   · rename_i ht
     cases hf
     obtain ⟨s,e,_,hw⟩:=DataW.trod_string ht h
     refine one e rfl ⟨.str s.data.toList,_,.str _ ?_,.str _,rfl,?_⟩
     · simp only [maxLen] at hw
       have:s.data.toList.length=s.size:=rfl
       omega
     · have:=VR.str (ψ:=ψ) (w:=W) (S:=fun c=>c < W.heap.size) (m:=fun _=>(0,0)) (A:=fun _=>False) s.data.toList
       exact this
   · rename_i el ht
     simp only [Option.bind_eq_some_iff] at hf
     obtain ⟨us,hu,hf⟩:=hf
     split at hf
     · rename_i hz
       obtain ⟨hz,hz0⟩:=hz
       cases hf
       rcases DataW.trod_slice ht h with ⟨e,_⟩ | ⟨a,len,cap,elems,rest,n',hn,e,_,_,hl,hm,hlen,hel,hsp,_⟩
       · exact one e rfl ⟨.ro us.length [] true,.nils,.slice us [] true (by simp) (by simp) (by simp),.ronil _ _,rfl,.nils⟩
       · cases hn
         refine one e rfl ?_
         have row:∀ i,i < cap→∃ vs y,W.cells? 0 (a.add (i * us.length)) us.length=some vs∧DataW.trod enc P W 0 (fun _=>true) true n el vs=some y:=by
          intro i hi
          rcases Nat.lt_or_ge i len with hil | hil
          · have:=hel i hil
            rw [List.getElem?_eq_getElem (by omega),Option.bind_eq_some_iff,← hz] at this
            obtain ⟨vs,q1,q2⟩:=this
            exact ⟨vs,_,q1,q2⟩
          · obtain ⟨q0,q⟩:=hsp rfl
            have:=q (i - len) (by omega)
            rw [List.getElem?_eq_getElem (by omega),Option.bind_eq_some_iff,← hz,show len+(i - len)=i by omega] at this
            obtain ⟨vs,q1,q2⟩:=this
            exact ⟨vs,_,q1,q2⟩
         rcases Nat.eq_zero_or_pos cap with hc0 | hc0
         · subst hc0
           obtain rfl:len=0:=by omega
           exact ⟨.ro us.length [] true,.ro us.length [] true,.slice us [] true (by simp) (by simp) (by simp),.ro _ [] [] true true (by simp) rfl id (by simp) (by simp),rfl,.roe _ _ _ 0 (fun _=>rfl)⟩
         · obtain ⟨b,off,spot⟩:=a
           have hfirst:∃ v,W.cell? ⟨b,off,spot⟩=some v:=by
            obtain ⟨vs,_,q1,_⟩:=row 0 hc0
            obtain ⟨_,q2,q3⟩:=World.cells?_some q1
            have:=q3 0 hz0
            rw [List.getElem?_eq_getElem (by omega)] at this
            exact ⟨_,by simpa [Addr.add] using this⟩
           obtain ⟨v0,hv0⟩:=hfirst
           obtain rfl:spot=none:=World.cell?_spot hv0
           have hS:b < W.heap.size:=by
            unfold World.cell? at hv0
            split at hv0
            · rename_i hb;exact (Array.getElem?_eq_some_iff.1 hb).1
            · cases hv0
           have key:∀ p:Nat × Nat,∃ q:Value × AV × AV,p.1 < len→∀ ct,us[p.2]?=some ct→W.cell? ⟨b,off+p.1 * us.length+p.2,none⟩=some q.1∧Ty ct q.2.1∧VD id (fun _=>False) q.2.1 q.2.2∧q.2.2.cell=true ∧
            VR ψ W (fun c=>c < W.heap.size) (fun _=>(0,0)) (fun _=>False) q.2.2 q.1:=by
            intro ⟨i,j⟩
            by_cases hi:i < len
            · cases hj:us[j]? with
              | none=>exact ⟨default,fun _ ct q=>by cases q⟩
              | some ct =>
               obtain ⟨vs,y,q1,q2⟩:=row i (by omega)
               obtain ⟨v,q3,c1,c2,q4,q5,q6,q7⟩:=(ih _ _ _ _ _ hu q2).2 j ct hj
               refine ⟨(v,c1,c2),fun _ ct' q=>?_⟩
               cases q
               refine ⟨?_,q4,q5,q6,q7⟩
               obtain ⟨_,r1,r2⟩:=World.cells?_some q1
               have hjl:j < us.length:=(List.getElem?_eq_some_iff.1 hj).1
               have:=r2 j hjl
               rw [q3] at this
               rw [← this]
               congr 1
               simp only [Addr.add]
               split <;> split <;> simp_all <;> omega
            · exact ⟨default,fun q=>absurd q hi⟩
           obtain ⟨F,hF⟩:=Classical.axiomOfChoice key
           let es:List (List AV):=(List.range len).map fun i=>(List.range us.length).map fun j=>(F (i,j)).2.1
           let es':List (List AV):=(List.range len).map fun i=>(List.range us.length).map fun j=>(F (i,j)).2.2
           have g1:∀ (i:Nat) (e:List AV),es[i]?=some e→i < len∧e=(List.range us.length).map fun j=>(F (i,j)).2.1:=by
            intro i e he
            simp only [es,List.getElem?_map,Option.map_eq_some_iff] at he
            obtain ⟨i',q1,q2⟩:=he
            have:=List.getElem?_eq_some_iff.1 q1
            obtain ⟨q3,q4⟩:=this
            simp at q3 q4
            subst q4
            exact ⟨q3,q2.symm⟩
           have g1':∀ (i:Nat) (e:List AV),es'[i]?=some e→i < len∧e=(List.range us.length).map fun j=>(F (i,j)).2.2:=by
            intro i e he
            simp only [es',List.getElem?_map,Option.map_eq_some_iff] at he
            obtain ⟨i',q1,q2⟩:=he
            have:=List.getElem?_eq_some_iff.1 q1
            obtain ⟨q3,q4⟩:=this
            simp at q3 q4
            subst q4
            exact ⟨q3,q2.symm⟩
           have g2:∀ (G:Nat→AV) (j:Nat) (x:AV),((List.range us.length).map G)[j]?=some x→∃ ct,us[j]?=some ct∧x=G j:=by
            intro G j x hx
            simp only [List.getElem?_map,Option.map_eq_some_iff] at hx
            obtain ⟨j',q1,q2⟩:=hx
            obtain ⟨q3,q4⟩:=List.getElem?_eq_some_iff.1 q1
            simp at q3 q4
            subst q4
            exact ⟨us[j],List.getElem?_eq_getElem q3,q2.symm⟩
           have l1:es.length=len:=by simp [es]
           have l2:es'.length=len:=by simp [es']
           refine ⟨.ro us.length es (decide (cap=len)),.ro us.length es' (decide (cap=len)),.slice us es _ ?_ ?_ ?_,.ro _ es es' _ _ ?_ (by rw [l1,l2]) id ?_ ?_,rfl,?_⟩
           · rw [l1];simp only [maxLen] at hm;omega
           · intro i e he;rw [(g1 i e he).2];simp
           · intro i e j ct y he hct hy
             obtain ⟨q1,rfl⟩:=g1 i e he
             obtain ⟨ct',q2,rfl⟩:=g2 _ j y hy
             rw [hct] at q2
             cases q2
             exact (hF (i,j) q1 ct hct).2.1
           · intro e he y hy
             obtain ⟨i,he⟩:=List.getElem?_of_mem he
             obtain ⟨j,hy⟩:=List.getElem?_of_mem hy
             obtain ⟨q1,rfl⟩:=g1 i e he
             obtain ⟨ct',q2,rfl⟩:=g2 _ j y hy
             exact (hF (i,j) q1 ct' q2).2.1.isC
           · intro i e e' he he'
             rw [(g1 i e he).2,(g1' i e' he').2];simp
           · intro i e e' j y y' he he' hy hy'
             obtain ⟨q1,rfl⟩:=g1 i e he
             obtain ⟨_,rfl⟩:=g1' i e' he'
             obtain ⟨ct',q2,rfl⟩:=g2 _ j y hy
             obtain ⟨_,_,rfl⟩:=g2 _ j y' hy'
             exact (hF (i,j) q1 ct' q2).2.2.1
           · have:=VR.ro (ψ:=ψ) (w:=W) (S:=fun c=>c < W.heap.size) (m:=fun _=>(0,0)) (A:=fun _=>False) us.length es' (decide (cap=len)) b off cap (fun i j=>(F (i,j)).1) hS
              (fun i e he=>by rw [(g1' i e he).2];simp) (by rw [l2];exact hl) (fun q=>by rw [l2];simpa using q)
              (fun i e j y he hy=>by
               obtain ⟨q1,rfl⟩:=g1' i e he
               obtain ⟨ct',q2,rfl⟩:=g2 _ j y hy
               have:=hF (i,j) q1 ct' q2
               exact ⟨this.2.2.2.1,this.1⟩)
              (fun i e j y he hy=>by
               obtain ⟨q1,rfl⟩:=g1' i e he
               obtain ⟨ct',q2,rfl⟩:=g2 _ j y hy
               exact (hF (i,j) q1 ct' q2).2.2.2.2)
             rw [l2] at this
             exact this
     · cases hf
   · rename_i fs ht
     simp only [Option.bind_eq_some_iff] at hf
     obtain ⟨us,hu,hf⟩:=hf
     split at hf
     · rename_i hz
       cases hf
       obtain ⟨xs,n',hn,_,hcl,hxl,hx⟩:=DataW.trod_struct ht h
       cases hn
       refine ⟨by rw [hcl,hz],fun j ct hj=>?_⟩
       have:=fields_open (cs:=cs) (F:=flatT P k) (n:=n) (fun t cs x ts h1 h2=>ih k t cs x ts h1 h2) fs.toList 0 _ hu (fun f hf=>by
        obtain ⟨i,hi⟩:=List.getElem?_of_mem hf
        have hi':fs[i]?=some f:=by simpa using hi
        have hlt:i < fs.size:=(Array.getElem?_eq_some_iff.1 hi').1
        have:=hx i f hi'
        rw [List.getElem?_eq_getElem (by omega)] at this
        exact ⟨_,this⟩) j ct hj
       simpa using this
     · cases hf
   · rename_i m' e ht
     simp only [Option.bind_eq_some_iff] at hf
     obtain ⟨us,hu,hf⟩:=hf
     split at hf
     · rename_i hz
       obtain ⟨hz1,hz2⟩:=hz
       cases hf
       obtain ⟨xs,n',hn,hcl,hxl,hx⟩:=trod_array ht h
       cases hn
       have hlen:(List.replicate m' us).flatten.length=m' * us.length:=by simp
       refine ⟨by rw [hcl,hlen,hz2],fun j ct hj=>?_⟩
       have hjl:j < m' * us.length:=by rw [← hlen];exact (List.getElem?_eq_some_iff.1 hj).1
       have hk:0 < us.length:=by
        rcases Nat.eq_zero_or_pos us.length with q | q
        · rw [q,Nat.mul_zero] at hjl;omega
        · exact q
       rw [flatten_rep us m' j hjl] at hj
       have hq:j / us.length < m':=Nat.div_lt_of_lt_mul (by rw [Nat.mul_comm];exact hjl)
       have hxq:=hx (j / us.length) hq
       rw [List.getElem?_eq_getElem (by omega)] at hxq
       obtain ⟨v,q1,q2⟩:=(ih k e _ _ us hu hxq).2 (j % us.length) ct hj
       refine ⟨v,?_,q2⟩
       rw [List.getElem?_take] at q1
       split at q1
       · rw [List.getElem?_drop,← hz1] at q1
         rw [← q1];congr 1
         exact (Nat.div_add_mod' j us.length).symm
       · cases q1
     · cases hf
   · cases hf
inductive AT where
 | c (ct:CT)
 | g (ts:List CT)
def AT.has:AT→AV→Prop
 | .c ct,a=>Ty ct a
 | .g ts,a=>∃ es,a=.agg es∧es.length=ts.length∧∀ (j:Nat) (ct:CT) (x:AV),ts[j]?=some ct→es[j]?=some x→Ty ct x
def argT (P:Program) (t:TypeId):Option AT :=
 match P.underlying t with
 | some (.struct _)=>(flatT P 20 t).map .g
 | some (.array _ _)=>(flatT P 20 t).map .g
 | some .bool | some (.int _) | some .string | some (.slice _)=>match flatT P 20 t with | some [ct]=>some (.c ct) | _=>none
 | _=>none
theorem cells_plain {t:TypeId} {base:Nat} {v:Value} (hu:P.underlying t=some .bool∨(∃ k,P.underlying t=some (.int k))∨P.underlying t=some .string∨∃ e,P.underlying t=some (.slice e)) (h:Value.okWide P W .any base t v) :
 v.cells=#[v]:=by
 cases v <;> try rfl
 rcases hu with hu | ⟨k,hu⟩ | hu | ⟨e,hu⟩ <;> simp [Value.okWide,hu,Cell.okWide,Cell.ok] at h
theorem arg_open {t:TypeId} {at_:AT} (ha:argT P t=some at_) {base:Nat} {v:Value} (hv:Value.okWide P W .any base t v) {d:DataW H} {p:List MemPlace} (h:DataW.Trod enc P W 0 (fun _=>true) true t v d p) :
 ∃ a a',at_.has a∧VD id (fun _=>False) a a'∧VR ψ W (fun c=>c < W.heap.size) (fun _=>(0,0)) (fun _=>False) a' v:=by
 obtain ⟨fuel,h⟩:=h
 have plain:(P.underlying t=some .bool∨(∃ k,P.underlying t=some (.int k))∨P.underlying t=some .string∨∃ e,P.underlying t=some (.slice e)) →
  (match flatT P 20 t with | some [ct]=>some (AT.c ct) | _=>none)=some at_→∃ a a',at_.has a∧VD id (fun _=>False) a a'∧VR ψ W (fun c=>c < W.heap.size) (fun _=>(0,0)) (fun _=>False) a' v:=by
  intro hu he
  split at he
  · rename_i ct hf
    cases he
    rw [cells_plain hu hv] at h
    obtain ⟨_,q⟩:=cells_open (ψ:=ψ) _ _ _ _ _ _ hf h
    obtain ⟨v',q1,a,a',q2,q3,_,q4⟩:=q 0 ct rfl
    simp only [List.getElem?_cons_zero,Option.some.injEq] at q1
    subst q1
    exact ⟨a,a',q2,q3,q4⟩
  · cases he
 have whole:(∃ cs,v=.agg cs)→(flatT P 20 t).map AT.g=some at_→∃ a a',at_.has a∧VD id (fun _=>False) a a'∧VR ψ W (fun c=>c < W.heap.size) (fun _=>(0,0)) (fun _=>False) a' v:=by
  rintro ⟨cs,rfl⟩ ha
  simp only [Option.map_eq_some_iff] at ha
  obtain ⟨ts,hf,rfl⟩:=ha
  obtain ⟨hl,q⟩:=cells_open (ψ:=ψ) _ _ _ _ _ _ hf h
  simp only [Value.cells] at hl q
  have key:∀ j:Nat,∃ x:AV × AV,∀ ct,ts[j]?=some ct→Ty ct x.1∧VD id (fun _=>False) x.1 x.2∧x.2.cell=true∧∃ v,cs.toList[j]?=some v∧VR ψ W (fun c=>c < W.heap.size) (fun _=>(0,0)) (fun _=>False) x.2 v:=by
   intro j
   cases hj:ts[j]? with
   | none=>exact ⟨default,fun _ q=>by cases q⟩
   | some ct =>
    obtain ⟨v,q1,a,a',q2,q3,q4,q5⟩:=q j ct hj
    exact ⟨(a,a'),fun ct' e=>by cases e;exact ⟨q2,q3,q4,v,q1,q5⟩⟩
  obtain ⟨F,hF⟩:=Classical.axiomOfChoice key
  have g2:∀ (G:Nat→AV) (j:Nat) (x:AV),((List.range ts.length).map G)[j]?=some x→∃ ct,ts[j]?=some ct∧x=G j:=by
   intro G j x hx
   simp only [List.getElem?_map,Option.map_eq_some_iff] at hx
   obtain ⟨j',q1,q2⟩:=hx
   obtain ⟨q3,q4⟩:=List.getElem?_eq_some_iff.1 q1
   simp at q3 q4
   subst q4
   exact ⟨ts[j],List.getElem?_eq_getElem q3,q2.symm⟩
  refine ⟨.agg ((List.range ts.length).map fun j=>(F j).1),.agg ((List.range ts.length).map fun j=>(F j).2),⟨_,rfl,by simp,?_⟩,.agg _ _ (by simp) ?_,.agg _ _ ?_ ?_ ?_⟩
  · intro j ct x hct hx
    obtain ⟨ct',q1,rfl⟩:=g2 _ j x hx
    exact (hF j ct hct).1
  · intro j x x' hx hx'
    obtain ⟨ct,q1,rfl⟩:=g2 _ j x hx
    obtain ⟨_,_,rfl⟩:=g2 _ j x' hx'
    exact (hF j ct q1).2.1
  · simp only [List.length_map,List.length_range]
    rw [← hl];simp
  · intro j x hx
    obtain ⟨ct,q1,rfl⟩:=g2 _ j x hx
    exact (hF j ct q1).2.2.1
  · intro j x hx
    obtain ⟨ct,q1,rfl⟩:=g2 _ j x hx
    obtain ⟨v,q2,q3⟩:=(hF j ct q1).2.2.2
    have e:cs[j]?=some v:=by simpa using q2
    rw [Array.getD_eq_getD_getElem?,e]
    exact q3
 unfold argT at ha
 split at ha
 · rename_i fs ht
   simp only [Value.okWide,ht] at hv
   obtain ⟨cs,hv,_,_⟩:=hv
   exact whole ⟨cs,hv⟩ ha
 · rename_i m e ht
   simp only [Value.okWide,ht] at hv
   obtain ⟨cs,hv,_,_⟩:=hv
   exact whole ⟨cs,hv⟩ ha
 · rename_i ht;exact plain (.inl ht) ha
 · rename_i k ht;exact plain (.inr (.inl ⟨k,ht⟩)) ha
 · rename_i ht;exact plain (.inr (.inr (.inl ht))) ha
 · rename_i e ht;exact plain (.inr (.inr (.inr ⟨e,ht⟩))) ha
 · cases ha
def TyAll:List AT→List AV→Prop
 | [],[]=>True
 | a::r,x::s=>a.has x∧TyAll r s
 | _,_=>False
theorem args_open {base:Nat}:∀ {ts:List TypeId} {ats:List AT} {vs:List Value} {ds:List (DataW H)} {p:List MemPlace},ts.map (argT P)=ats.map some →
 (∀ (j:Nat) (t:TypeId) (v:Value),ts[j]?=some t→vs[j]?=some v→Value.okWide P W .any base t v)→DataW.TrodAll enc P W 0 (fun _=>true) true ts vs ds p →
 ∃ us us',TyAll ats us∧Rel2 (VD id fun _=>False) us us'∧us'.length=vs.length∧∀ (j:Nat) (x:AV) (v:Value),us'[j]?=some x→vs[j]?=some v→VR ψ W (fun c=>c < W.heap.size) (fun _=>(0,0)) (fun _=>False) x v
 | [],[],vs,ds,p,_,_,h=>by
  obtain ⟨rfl,_,_⟩:=ChangeShapes.trodAll_nil h
  exact ⟨[],[],trivial,⟨rfl,by simp⟩,rfl,by simp⟩
 | t::ts,at_::ats,_,_,_,hm,hv,h=>by
  obtain ⟨v,vs1,d,ds1,p1,q1,rfl,rfl,rfl,h1,h2⟩:=ChangeShapes.trodAll_cons h
  simp only [List.map_cons,List.cons.injEq] at hm
  obtain ⟨a,a',r1,r2,r3⟩:=arg_open (ψ:=ψ) hm.1 (hv 0 t v rfl rfl) h1
  obtain ⟨us,us',s1,s2,s3,s4⟩:=args_open hm.2 (fun j t v e1 e2=>hv (j+1) t v e1 e2) h2
  refine ⟨a::us,a'::us',⟨r1,s1⟩,⟨by simp [s2.1],fun j x x' e1 e2=>?_⟩,by simp [s3],fun j x v' e1 e2=>?_⟩
  · cases j with
    | zero=>cases e1;cases e2;exact r2
    | succ j=>exact s2.2 j x x' e1 e2
  · cases j with
    | zero=>cases e1;cases e2;exact r3
    | succ j=>exact s4 j x v' e1 e2
 | [],_::_,_,_,_,hm,_,_=>by simp at hm
 | _::_,[],_,_,_,hm,_,_=>by simp at hm
theorem law_callsL {Φ:Nat→FuncId→Option Nat} {D:WProg} (hL:Linked P Φ ψ (erProg D)) (hok:okTree D.fns=true) (hlay:∀ c o,ψ.laid c=some o→c < W.heap.size∧W.heap[c]?=some o) {f:Nat} {ts:List TypeId} {ats:List AT} (hts:ts.map (argT P)=ats.map some)
 (core:∀ us,TyAll ats us→FnW D f us=some (.bool true)) {base:Nat} {args:Array Value} {ds:List (DataW H)} {p:List MemPlace}
 (hv:∀ (j:Nat) (t:TypeId) (v:Value),ts[j]?=some t→args[j]?=some v→Value.okWide P W .any base t v) (hA:DataW.TrodAll enc P W 0 (fun _=>true) true ts args.toList ds p) :
 Calls P (ψ f) args W fun e W'=>e=.returned (.bool true)∧(∀ c,c < W.heap.size→W'.heap[c]?=W.heap[c]?)∧W.heap.size≤W'.heap.size∧W'.os=W.os∧W'.output=W.output:=by
 obtain ⟨us,us',h1,h2,h3,h4⟩:=args_open (ψ:=ψ) hts (fun j t v e1 e2=>hv j t v e1 (by simpa using e2)) hA
 obtain ⟨n,hc⟩:=fnW_call.1 (core us h1)
 obtain ⟨v',hc',hvd⟩:=callW_ok hok h2 hc
 rw [hvd.bool_inv] at hc'
 refine (callF_ok hL hc' (w:=W) (S:=fun c=>c < W.heap.size) (m:=fun _=>(0,0)) (cargs:=args) hlay (fun _ h=>h) (by rw [h3];simp) fun j x hx=>?_).mono ?_
 · have hj:j < args.size:=by have:=(List.getElem?_eq_some_iff.1 hx).1;rw [h3] at this;simpa using this
   rw [Array.getD_eq_getD_getElem?,Array.getElem?_eq_getElem hj]
   exact h4 j x _ hx (by simp [hj])
 · rintro e W' ⟨cv,S',m',rfl,hr,q1,q2,q3,q4⟩
   rw [hr.inv_bool]
   exact ⟨rfl,q1,q2,q3,q4⟩
theorem law_calls {ψf:Nat→FuncId} {Φ:Nat→FuncId→Option Nat} {D:WProg} (hL:Linked P Φ ⟨ψf,noLaid⟩ (erProg D)) (hok:okTree D.fns=true) {f:Nat} {ts:List TypeId} {ats:List AT} (hts:ts.map (argT P)=ats.map some)
 (core:∀ us,TyAll ats us→FnW D f us=some (.bool true)) {base:Nat} {args:Array Value} {ds:List (DataW H)} {p:List MemPlace}
 (hv:∀ (j:Nat) (t:TypeId) (v:Value),ts[j]?=some t→args[j]?=some v→Value.okWide P W .any base t v) (hA:DataW.TrodAll enc P W 0 (fun _=>true) true ts args.toList ds p) :
 Calls P (ψf f) args W fun e W'=>e=.returned (.bool true)∧(∀ c,c < W.heap.size→W'.heap[c]?=W.heap[c]?)∧W.heap.size≤W'.heap.size∧W'.os=W.os∧W'.output=W.output :=
 law_callsL hL hok (fun _ _ h=>by cases h) hts core hv hA
theorem trodAll_old {W':World} (hh:∀ c,c < W.heap.size→W'.heap[c]?=W.heap[c]?) {base:Nat} {sp:Nat→Bool} {held:Bool}:∀ {ts:List TypeId} {vs:List Value} {ds:List (DataW H)} {ps:List MemPlace},
 DataW.TrodAll enc P W base sp held ts vs ds ps→(∀ p ∈ ps,p.block < W.heap.size)→DataW.TrodAll enc P W' base sp held ts vs ds ps
 | [],[],[],_,h,_=>h
 | _::_,_::_,_::_,_,⟨p,q,⟨n,h1⟩,h2,e⟩,hs=>⟨p,q,⟨n,DataW.trod_carry n _ _ _ h1 fun x hx=>by
  have hlt:=hs x (by rw [e];exact List.mem_append_left _ hx)
  cases x with
  | cell b off=>simp only [World.sameAt,World.cell?];rw [hh b hlt]
  | map b=>exact hh b hlt⟩,trodAll_old hh h2 (fun x hx=>hs x (by rw [e];exact List.mem_append_right _ hx)),e⟩
theorem keptBut_old {W':World} (hh:∀ c,c < W.heap.size→W'.heap[c]?=W.heap[c]?) (ho:W'.os=W.os) (hp:W'.output=W.output) (may:MemPlace→Prop):W.keptBut W' may:=by
 have h:=World.keptBut_refl W may
 refine ⟨ho,hp,fun i hi=>?_⟩
 have:=h.2.2 i hi
 rw [hh i hi]
 exact this
theorem law_post {f:Func} {s:ChangeSpec} {fresh handsOn again:Bool} {W':World} {args:Array Value} {ds gs:List (DataW H)} {before:List MemPlace} {tb:TypeId}
 (kids:Kids P (· < P.types.size)) (full:∀ t e,t < P.types.size→P.underlying t=some (.slice e)→0 < P.cellsOf e)
 (hvars0:s.vars=[]) (hW:DataW.Whole enc P f.params.toList s.vars false W args.toList ds gs before) (hfn:s.fn H (ds++gs)={ results:=[.lit (.bool true)],args:=ds })
 (hps:∀ t ∈ f.params.toList,t < P.types.size) (hr:f.resultTypes=#[tb]) (htb:P.underlying tb=some .bool)
 (hh:∀ c,c < W.heap.size→W'.heap[c]?=W.heap[c]?) (_hsz:W.heap.size≤W'.heap.size) (ho:W'.os=W.os) (hp:W'.output=W.output) :
 s.post enc P f false fresh handsOn again W args (.bool true) W':=by
 have hlt:∀ p ∈ before,p.block < W.heap.size:=hW.lt
 have hW':=hW
 obtain ⟨p,q,hA,hV,rfl,hz,_⟩:=hW
 rw [hvars0] at hV
 obtain ⟨rfl,rfl⟩:=ChangeShapes.trodVars_none hV
 simp only [List.append_nil] at hlt hz hW' hfn
 have hargs:∀ sp:Nat→Bool,(∀ x ∈ p,sp x.block=true)→DataW.TrodAll enc P W' 0 sp true f.params.toList args.toList ds p:=fun sp hsp =>
  trodAll_old hh (DataW.TrodAll.respare kids full hps hA hsp) hlt
 have hvars:∀ sp:Nat→Bool,DataW.TrodVars enc P W' sp s.vars [] []:=fun sp=>by rw [hvars0];rfl
 have hres:∀ (b:Nat) (sp:Nat→Bool) (hd:Bool),DataW.TrodAll enc P W' b sp hd f.resultTypes.toList ((Value.bool true).resultList f.resultTypes.size) [.lit (.bool true)] []:=fun b sp hd=>by
  rw [hr];exact ChangeShapes.trodAll_mk1 (RowKit.shut_bool htb true)
 have hok:∀ (j:Nat) (t:TypeId) (r:Value),f.resultTypes[j]?=some t→((Value.bool true).resultList f.resultTypes.size)[j]?=some r→Value.okWide P W' .any 0 t r :=
  RowKit.ok_one hr rfl (by simp [Value.okWide,htb,Cell.okWide,Cell.ok])
 have hold:∀ x ∈ p,(fun b=>decide (b < W.heap.size)) x.block=true:=fun x hx=>by simpa using hlt x hx
 refine ⟨ds,[],p,[],p,[],hW',?_,?_,?_,keptBut_old hh ho hp _,fun _=>⟨hok,[.lit (.bool true)]++ds,[],([]++p)++[],⟨[]++p,[],?_,hvars _,rfl,?_,fun h=>by cases h⟩,?_⟩⟩
 · rw [List.append_nil,hfn];exact hres _ _ _
 · rw [List.append_nil,hfn];exact hargs _ hold
 · rw [List.append_nil,hfn];exact hvars _
 · exact ChangeShapes.trodAll_append (hargs _ fun _ _=>rfl) (hres _ _ _)
 · intro b off hb
   simp only [List.nil_append,List.append_nil] at hb
   have:=hz b off hb
   unfold World.frozen? at this ⊢
   rw [hh b (hlt _ hb)]
   exact this
 · intro x hx _
   simpa using hx
theorem trodAll_len {base:Nat} {sp:Nat→Bool} {held:Bool}:∀ {ts:List TypeId} {vs:List Value} {ds:List (DataW H)} {ps:List MemPlace},DataW.TrodAll enc P W base sp held ts vs ds ps→ds.length=ts.length
 | [],[],[],_,_=>rfl
 | _::_,_::_,_::_,_,⟨_,_,_,h2,_⟩=>by simp [trodAll_len h2]
end
end Go.Pw
end
section
namespace Go.Proofs.YthoeclhpjbbfhaaGreat
open Go.ChangeShapes Go.WideShapes Go.ChangeAt Go.RowKit Go.Pav Go.Pw P
theorem own_:ownKnob Tryz.prog.godebug=none:=by kernel_rfl
theorem kids_:Kids Tryz.prog (· < Tryz.prog.types.size):=kids_rows (by kernel_rfl) (by kernel_rfl)
theorem full_:∀ t e,t < Tryz.prog.types.size→Tryz.prog.underlying t=some (.slice e)→0 < Tryz.prog.cellsOf e:=slices_full_of Tryz.prog (by kernel_rfl)
end Go.Proofs.YthoeclhpjbbfhaaGreat
end
section
namespace Go.D
open Go Go.Pav Go.Pw
def itT (k t:Nat) (x:List UInt8) (m:List (List UInt8)) (e:Bool):AV:=.agg [.int .u64 (Int.ofNat k),.int .u8 (Int.ofNat t),.str x,.ro 1 (m.map fun s=>[.str s]) e]
def ptT (k:Int) (a b:List UInt8) (s:List (List AV)) (x:List UInt8) (ch:List (List AV)):List AV:=[.int .u8 k,.str a,.str b,.ro 3 s true,.str x,.ro 6 ch true]
def slT (n:List UInt8) (f:Int):List AV:=[.str n,.int .u8 f,.str []]
def rowT:List UInt8:=[114,111,119]
def T0T:AV:=.agg (ptT 1 rowT [] [slT [110] 3,slT [116,101,120,116] 1] [] [ptT 3 [] [] [] [] []])
def T1T:AV:=.agg (ptT 1 [104,101,97,100] [104] [slT [105,100] 2] [] [ptT 2 [] [] [] [35] [],ptT 4 [] [] [] [] []])
def T2T:AV:=.agg (ptT 1 rowT [] [] [] [ptT 1 [98] [98,50] [] [] [ptT 3 [] [] [] [] []],ptT 5 [116,97,103] [] [slT [111,102] 2] [] []])
def T3T:AV:=.agg (ptT 1 rowT [] [] [] [])
def x0T:List UInt8:=[116,119,111,32,119,111,114,100,115]
def x1T:List UInt8:=[126,33,45,44]
def x2T:List UInt8:=[97,32,108,111,110,103,101,114,32,116,101,120,116,32,111,102,32,116,104,105,115,32,107,105,110,100]
def x3T:List UInt8:=[97]
def x4T:List UInt8:=[114,111,119]
def x5T:List UInt8:=[32,32]
def x6T:List UInt8:=[57]
def x7T:List UInt8:=[]
def A0oT:List (Nat × AV):=[(16842754,itT 2 0 x3T [[97]] false),(16842754,itT 2 0 x3T [[97]] true),
 (151584771,itT 3 0 x0T [[97],[98,50]] false),(151584771,itT 3 0 x0T [[97],[98,50]] true),(50397187,itT 3 0 x3T [[107,101,121]] false),(50397187,itT 3 0 x3T [[107,101,121]] true),(3,itT 3 0 x7T [] true),
 (4,itT 4 0 x7T [] true),
 (50397189,itT 5 0 x3T [[107,101,121]] false),(50397189,itT 5 0 x3T [[107,101,121]] true),(16842757,itT 5 0 x3T [[97]] false),(16842757,itT 5 0 x3T [[97]] true),(33619973,itT 5 0 x3T [[98,50]] false),(33619973,itT 5 0 x3T [[98,50]] true),(5,itT 5 0 x7T [] true),
 (151584868,itT 100 0 x0T [[97],[98,50]] false),(151584868,itT 100 0 x0T [[97],[98,50]] true),(589924,itT 100 0 x0T [] true),(956563556,itT 100 0 x1T [[97],[98,50],[107,101,121]] false),(186253412,itT 100 0 x2T [[107,101,121],[98,50]] false),(186253412,itT 100 0 x2T [[107,101,121],[98,50]] true),(35258468,itT 100 0 x2T [[98,50]] false),(35258468,itT 100 0 x2T [[98,50]] true),(16842852,itT 100 0 x3T [[97]] false),(16842852,itT 100 0 x3T [[97]] true),(100728932,itT 100 0 x3T [[98,50],[97]] false),
 (18481253,itT 101 0 x2T [[97]] false),(18481253,itT 101 0 x2T [[97]] true),(50397285,itT 101 0 x3T [[107,101,121]] false),(50397285,itT 101 0 x3T [[107,101,121]] true),(218169445,itT 101 0 x3T [[97],[107,101,121]] false),
 (16973934,itT 110 0 x4T [[97]] false),(16973934,itT 110 0 x4T [[97]] true),(17367150,itT 110 0 x0T [[97]] false),(17367150,itT 110 0 x0T [[97]] true),(17039470,itT 110 0 x1T [[97]] false),(17039470,itT 110 0 x1T [[97]] true),(16908398,itT 110 0 x5T [[97]] false),(16908398,itT 110 0 x5T [[97]] true),(16842862,itT 110 0 x6T [[97]] false),(16842862,itT 110 0 x6T [[97]] true),(18481262,itT 110 0 x2T [[97]] false),(18481262,itT 110 0 x2T [[97]] true),(16842862,itT 110 0 x3T [[97]] false),(16842862,itT 110 0 x3T [[97]] true),(16777326,itT 110 0 x7T [[97]] false),(16777326,itT 110 0 x7T [[97]] true),
 (117506168,itT 120 0 x3T [[107,101,121],[97]] false),(117506168,itT 120 0 x3T [[107,101,121],[97]] true),(184615032,itT 120 0 x3T [[107,101,121],[98,50]] false),(184615032,itT 120 0 x3T [[107,101,121],[98,50]] true),(151060600,itT 120 0 x3T [[97],[98,50]] false),(16842872,itT 120 0 x3T [[97]] false),(33620088,itT 120 0 x3T [[98,50]] false),(33620088,itT 120 0 x3T [[98,50]] true),
 (117506169,itT 121 0 x3T [[107,101,121],[97]] false),(117506169,itT 121 0 x3T [[107,101,121],[97]] true),(16842873,itT 121 0 x3T [[97]] false),(16842873,itT 121 0 x3T [[97]] true)]
def A1oT:List (Nat × AV):=[(100925698,itT 2 1 x1T [[98,50],[97]] false),(258,itT 2 1 x7T [] true),
 (33751299,itT 3 1 x4T [[98,50]] false),(33751299,itT 3 1 x4T [[98,50]] true),(151585027,itT 3 1 x0T [[97],[98,50]] false),(184811779,itT 3 1 x1T [[107,101,121],[98,50]] false),
 (151585028,itT 4 1 x0T [[97],[98,50]] false),(151585028,itT 4 1 x0T [[97],[98,50]] true),
 (261,itT 5 1 x7T [] true),
 (151585124,itT 100 1 x0T [[97],[98,50]] false),(151585124,itT 100 1 x0T [[97],[98,50]] true),(590180,itT 100 1 x0T [] true),(503578980,itT 100 1 x1T [[98,50],[107,101,121],[97]] false),(52035940,itT 100 1 x2T [[107,101,121]] false),(52035940,itT 100 1 x2T [[107,101,121]] true),(219808100,itT 100 1 x2T [[97],[107,101,121]] false),(219808100,itT 100 1 x2T [[97],[107,101,121]] true),(184615268,itT 100 1 x3T [[107,101,121],[98,50]] false),(33620324,itT 100 1 x3T [[98,50]] false),
 (151585125,itT 101 1 x0T [[97],[98,50]] false),(151585125,itT 101 1 x0T [[97],[98,50]] true),(956563813,itT 101 1 x1T [[97],[98,50],[107,101,121]] false),(186253669,itT 101 1 x2T [[107,101,121],[98,50]] false),(186253669,itT 101 1 x2T [[107,101,121],[98,50]] true),(35258725,itT 101 1 x2T [[98,50]] false),(35258725,itT 101 1 x2T [[98,50]] true),(16843109,itT 101 1 x3T [[97]] false),(16843109,itT 101 1 x3T [[97]] true),(100729189,itT 101 1 x3T [[98,50],[97]] false),
 (50397542,itT 102 1 x3T [[107,101,121]] false),(50397542,itT 102 1 x3T [[107,101,121]] true),(218169702,itT 102 1 x3T [[97],[107,101,121]] false),
 (100925806,itT 110 1 x1T [[98,50],[97]] false),
 (16974191,itT 111 1 x4T [[97]] false),(16974191,itT 111 1 x4T [[97]] true),(17367407,itT 111 1 x0T [[97]] false),(17367407,itT 111 1 x0T [[97]] true),(184811887,itT 111 1 x1T [[107,101,121],[98,50]] false),(17039727,itT 111 1 x1T [[97]] false),(17039727,itT 111 1 x1T [[97]] true),(16908655,itT 111 1 x5T [[97]] false),(16908655,itT 111 1 x5T [[97]] true),(16843119,itT 111 1 x6T [[97]] false),(16843119,itT 111 1 x6T [[97]] true),(18481519,itT 111 1 x2T [[97]] false),(18481519,itT 111 1 x2T [[97]] true),(16843119,itT 111 1 x3T [[97]] false),(16843119,itT 111 1 x3T [[97]] true),(16777583,itT 111 1 x7T [[97]] false),(16777583,itT 111 1 x7T [[97]] true),
 (50397560,itT 120 1 x3T [[107,101,121]] false),(50397560,itT 120 1 x3T [[107,101,121]] true),(218169720,itT 120 1 x3T [[97],[107,101,121]] false),(218169720,itT 120 1 x3T [[97],[107,101,121]] true),(151060856,itT 120 1 x3T [[97],[98,50]] false),(151060856,itT 120 1 x3T [[97],[98,50]] true),(234946936,itT 120 1 x3T [[98,50],[107,101,121]] false),
 (184615289,itT 121 1 x3T [[107,101,121],[98,50]] false),(184615289,itT 121 1 x3T [[107,101,121],[98,50]] true),(151060857,itT 121 1 x3T [[97],[98,50]] false),(33620345,itT 121 1 x3T [[98,50]] false),(33620345,itT 121 1 x3T [[98,50]] true),
 (117506426,itT 122 1 x3T [[107,101,121],[97]] false),(117506426,itT 122 1 x3T [[107,101,121],[97]] true)]
def A2bT:List (Nat × AV):=[(151585282,itT 2 2 x0T [[97],[98,50]] false),
 (151585283,itT 3 2 x0T [[97],[98,50]] false),(184812035,itT 3 2 x1T [[107,101,121],[98,50]] false),(33620483,itT 3 2 x3T [[98,50]] false),
 (151585284,itT 4 2 x0T [[97],[98,50]] false),(184812036,itT 4 2 x1T [[107,101,121],[98,50]] false),(234947076,itT 4 2 x3T [[98,50],[107,101,121]] false),
 (151585285,itT 5 2 x0T [[97],[98,50]] false),
 (234947092,itT 20 2 x3T [[98,50],[107,101,121]] false),
 (234947108,itT 36 2 x3T [[98,50],[107,101,121]] false),
 (234947124,itT 52 2 x3T [[98,50],[107,101,121]] false),
 (654574180,itT 100 2 x1T [[107,101,121],[97],[98,50]] false),(102367844,itT 100 2 x2T [[98,50],[97]] false),
 (151585381,itT 101 2 x0T [[97],[98,50]] false),(503579237,itT 101 2 x1T [[98,50],[107,101,121],[97]] false),(184615525,itT 101 2 x3T [[107,101,121],[98,50]] false),(33620581,itT 101 2 x3T [[98,50]] false),
 (956564070,itT 102 2 x1T [[97],[98,50],[107,101,121]] false),(100729446,itT 102 2 x3T [[98,50],[97]] false),
 (100926062,itT 110 2 x1T [[98,50],[97]] false),
 (100926063,itT 111 2 x1T [[98,50],[97]] false),
 (234947192,itT 120 2 x3T [[98,50],[107,101,121]] false),
 (234947193,itT 121 2 x3T [[98,50],[107,101,121]] false),
 (151061114,itT 122 2 x3T [[97],[98,50]] false)]
def A2oT:List (Nat × AV):=[(50397698,itT 2 2 x3T [[107,101,121]] false),(50397698,itT 2 2 x3T [[107,101,121]] true),(16843266,itT 2 2 x3T [[97]] false),(16843266,itT 2 2 x3T [[97]] true),(514,itT 2 2 x7T [] true),
 (50921988,itT 4 2 x0T [[107,101,121]] false),(50921988,itT 4 2 x0T [[107,101,121]] true),(218694148,itT 4 2 x0T [[97],[107,101,121]] false),(218694148,itT 4 2 x0T [[97],[107,101,121]] true),(17367556,itT 4 2 x0T [[97]] false),(17367556,itT 4 2 x0T [[97]] true),(590340,itT 4 2 x0T [] true),
 (517,itT 5 2 x7T [] true),
 (590436,itT 100 2 x0T [] true),(18481764,itT 100 2 x2T [[97]] false),(18481764,itT 100 2 x2T [[97]] true),(50397796,itT 100 2 x3T [[107,101,121]] false),(50397796,itT 100 2 x3T [[107,101,121]] true),(218169956,itT 100 2 x3T [[97],[107,101,121]] false),
 (52036197,itT 101 2 x2T [[107,101,121]] false),(52036197,itT 101 2 x2T [[107,101,121]] true),(219808357,itT 101 2 x2T [[97],[107,101,121]] false),(219808357,itT 101 2 x2T [[97],[107,101,121]] true),
 (16843366,itT 102 2 x3T [[97]] false),(16843366,itT 102 2 x3T [[97]] true),
 (117506680,itT 120 2 x3T [[107,101,121],[97]] false),(117506680,itT 120 2 x3T [[107,101,121],[97]] true),(50397816,itT 120 2 x3T [[107,101,121]] false),(16843384,itT 120 2 x3T [[97]] false),(16843384,itT 120 2 x3T [[97]] true),
 (50397817,itT 121 2 x3T [[107,101,121]] false),(50397817,itT 121 2 x3T [[107,101,121]] true),(218169977,itT 121 2 x3T [[97],[107,101,121]] false),(218169977,itT 121 2 x3T [[97],[107,101,121]] true)]
def A3oT:List (Nat × AV):=[(1,itT 1 0 x7T [] true),
 (2,itT 2 0 x7T [] true),
 (3,itT 3 0 x7T [] true),
 (10,itT 10 0 x7T [] true),
 (11,itT 11 0 x7T [] true),
 (12,itT 12 0 x7T [] true),
 (13,itT 13 0 x7T [] true),
 (14,itT 14 0 x7T [] true),
 (15,itT 15 0 x7T [] true),
 (16,itT 16 0 x7T [] true),
 (17,itT 17 0 x7T [] true),
 (18,itT 18 0 x7T [] true),
 (19,itT 19 0 x7T [] true),
 (20,itT 20 0 x7T [] true),
 (21,itT 21 0 x7T [] true),
 (22,itT 22 0 x7T [] true),
 (23,itT 23 0 x7T [] true),
 (24,itT 24 0 x7T [] true),
 (25,itT 25 0 x7T [] true),
 (26,itT 26 0 x7T [] true),
 (27,itT 27 0 x7T [] true),
 (28,itT 28 0 x7T [] true),
 (29,itT 29 0 x7T [] true),
 (30,itT 30 0 x7T [] true),
 (31,itT 31 0 x7T [] true),
 (32,itT 32 0 x7T [] true),
 (33,itT 33 0 x7T [] true),
 (34,itT 34 0 x7T [] true),
 (35,itT 35 0 x7T [] true),
 (36,itT 36 0 x7T [] true),
 (37,itT 37 0 x7T [] true),
 (38,itT 38 0 x7T [] true),
 (39,itT 39 0 x7T [] true),
 (40,itT 40 0 x7T [] true),
 (41,itT 41 0 x7T [] true)]
def B0oT:List (Nat × AV):=[(16842754,itT 2 0 x3T [[97]] false),
 (151584771,itT 3 0 x0T [[97],[98,50]] false),(50397187,itT 3 0 x3T [[107,101,121]] false),(3,itT 3 0 x7T [] true),
 (4,itT 4 0 x7T [] true),
 (50397189,itT 5 0 x3T [[107,101,121]] false),(16842757,itT 5 0 x3T [[97]] false),(33619973,itT 5 0 x3T [[98,50]] false),(5,itT 5 0 x7T [] true),
 (503382032,itT 16 0 x3T [[98,50],[107,101,121],[97]] false),
 (503382068,itT 52 0 x3T [[98,50],[107,101,121],[97]] false),
 (151584868,itT 100 0 x0T [[97],[98,50]] false),(589924,itT 100 0 x0T [] true),(956563556,itT 100 0 x1T [[97],[98,50],[107,101,121]] false),(186253412,itT 100 0 x2T [[107,101,121],[98,50]] false),(35258468,itT 100 0 x2T [[98,50]] false),(16842852,itT 100 0 x3T [[97]] false),(100728932,itT 100 0 x3T [[98,50],[97]] false),
 (18481253,itT 101 0 x2T [[97]] false),(50397285,itT 101 0 x3T [[107,101,121]] false),(218169445,itT 101 0 x3T [[97],[107,101,121]] false),
 (16973934,itT 110 0 x4T [[97]] false),(17367150,itT 110 0 x0T [[97]] false),(17039470,itT 110 0 x1T [[97]] false),(16908398,itT 110 0 x5T [[97]] false),(16842862,itT 110 0 x6T [[97]] false),(18481262,itT 110 0 x2T [[97]] false),(16842862,itT 110 0 x3T [[97]] false),(16777326,itT 110 0 x7T [[97]] false),
 (117506168,itT 120 0 x3T [[107,101,121],[97]] false),(184615032,itT 120 0 x3T [[107,101,121],[98,50]] false),(956366968,itT 120 0 x3T [[97],[98,50],[107,101,121]] false),(151060600,itT 120 0 x3T [[97],[98,50]] false),(16842872,itT 120 0 x3T [[97]] false),(33620088,itT 120 0 x3T [[98,50]] false),
 (117506169,itT 121 0 x3T [[107,101,121],[97]] false),(16842873,itT 121 0 x3T [[97]] false)]
def B1oT:List (Nat × AV):=[(100925698,itT 2 1 x1T [[98,50],[97]] false),(258,itT 2 1 x7T [] true),
 (33751299,itT 3 1 x4T [[98,50]] false),(151585027,itT 3 1 x0T [[97],[98,50]] false),(184811779,itT 3 1 x1T [[107,101,121],[98,50]] false),
 (151585028,itT 4 1 x0T [[97],[98,50]] false),(260,itT 4 1 x7T [] true),
 (261,itT 5 1 x7T [] true),
 (956367112,itT 8 1 x3T [[97],[98,50],[107,101,121]] false),
 (956367136,itT 32 1 x3T [[97],[98,50],[107,101,121]] false),
 (151585124,itT 100 1 x0T [[97],[98,50]] false),(590180,itT 100 1 x0T [] true),(503578980,itT 100 1 x1T [[98,50],[107,101,121],[97]] false),(52035940,itT 100 1 x2T [[107,101,121]] false),(219808100,itT 100 1 x2T [[97],[107,101,121]] false),(184615268,itT 100 1 x3T [[107,101,121],[98,50]] false),(33620324,itT 100 1 x3T [[98,50]] false),
 (151585125,itT 101 1 x0T [[97],[98,50]] false),(956563813,itT 101 1 x1T [[97],[98,50],[107,101,121]] false),(186253669,itT 101 1 x2T [[107,101,121],[98,50]] false),(35258725,itT 101 1 x2T [[98,50]] false),(16843109,itT 101 1 x3T [[97]] false),(100729189,itT 101 1 x3T [[98,50],[97]] false),
 (50397542,itT 102 1 x3T [[107,101,121]] false),(218169702,itT 102 1 x3T [[97],[107,101,121]] false),
 (100925806,itT 110 1 x1T [[98,50],[97]] false),
 (16974191,itT 111 1 x4T [[97]] false),(17367407,itT 111 1 x0T [[97]] false),(184811887,itT 111 1 x1T [[107,101,121],[98,50]] false),(17039727,itT 111 1 x1T [[97]] false),(16908655,itT 111 1 x5T [[97]] false),(16843119,itT 111 1 x6T [[97]] false),(18481519,itT 111 1 x2T [[97]] false),(16843119,itT 111 1 x3T [[97]] false),(16777583,itT 111 1 x7T [[97]] false),
 (50397560,itT 120 1 x3T [[107,101,121]] false),(218169720,itT 120 1 x3T [[97],[107,101,121]] false),(151060856,itT 120 1 x3T [[97],[98,50]] false),(503382392,itT 120 1 x3T [[98,50],[107,101,121],[97]] false),(234946936,itT 120 1 x3T [[98,50],[107,101,121]] false),(33620344,itT 120 1 x3T [[98,50]] false),
 (184615289,itT 121 1 x3T [[107,101,121],[98,50]] false),(151060857,itT 121 1 x3T [[97],[98,50]] false),(33620345,itT 121 1 x3T [[98,50]] false),
 (117506426,itT 122 1 x3T [[107,101,121],[97]] false)]
def B2bT:List (Nat × AV):=[(151585282,itT 2 2 x0T [[97],[98,50]] false),
 (151585283,itT 3 2 x0T [[97],[98,50]] false),(184812035,itT 3 2 x1T [[107,101,121],[98,50]] false),(33620483,itT 3 2 x3T [[98,50]] false),
 (956891652,itT 4 2 x0T [[97],[98,50],[107,101,121]] false),(151585284,itT 4 2 x0T [[97],[98,50]] false),(235471364,itT 4 2 x0T [[98,50],[107,101,121]] false),(34144772,itT 4 2 x0T [[98,50]] false),(184812036,itT 4 2 x1T [[107,101,121],[98,50]] false),(503382532,itT 4 2 x3T [[98,50],[107,101,121],[97]] false),(234947076,itT 4 2 x3T [[98,50],[107,101,121]] false),
 (151585285,itT 5 2 x0T [[97],[98,50]] false),
 (956367380,itT 20 2 x3T [[97],[98,50],[107,101,121]] false),(234947092,itT 20 2 x3T [[98,50],[107,101,121]] false),
 (234947108,itT 36 2 x3T [[98,50],[107,101,121]] false),
 (503382568,itT 40 2 x3T [[98,50],[107,101,121],[97]] false),
 (234947124,itT 52 2 x3T [[98,50],[107,101,121]] false),
 (956498532,itT 100 2 x4T [[97],[98,50],[107,101,121]] false),(654574180,itT 100 2 x1T [[107,101,121],[97],[98,50]] false),(102367844,itT 100 2 x2T [[98,50],[97]] false),
 (151585381,itT 101 2 x0T [[97],[98,50]] false),(503579237,itT 101 2 x1T [[98,50],[107,101,121],[97]] false),(184615525,itT 101 2 x3T [[107,101,121],[98,50]] false),(33620581,itT 101 2 x3T [[98,50]] false),
 (956564070,itT 102 2 x1T [[97],[98,50],[107,101,121]] false),(100729446,itT 102 2 x3T [[98,50],[97]] false),
 (100926062,itT 110 2 x1T [[98,50],[97]] false),
 (100926063,itT 111 2 x1T [[98,50],[97]] false),
 (654377592,itT 120 2 x3T [[107,101,121],[97],[98,50]] false),(234947192,itT 120 2 x3T [[98,50],[107,101,121]] false),(100729464,itT 120 2 x3T [[98,50],[97]] false),
 (234947193,itT 121 2 x3T [[98,50],[107,101,121]] false),
 (151061114,itT 122 2 x3T [[97],[98,50]] false)]
def B2oT:List (Nat × AV):=[(50397698,itT 2 2 x3T [[107,101,121]] false),(16843266,itT 2 2 x3T [[97]] false),(514,itT 2 2 x7T [] true),
 (515,itT 3 2 x7T [] true),
 (50921988,itT 4 2 x0T [[107,101,121]] false),(218694148,itT 4 2 x0T [[97],[107,101,121]] false),(17367556,itT 4 2 x0T [[97]] false),(590340,itT 4 2 x0T [] true),
 (517,itT 5 2 x7T [] true),
 (590436,itT 100 2 x0T [] true),(18481764,itT 100 2 x2T [[97]] false),(50397796,itT 100 2 x3T [[107,101,121]] false),(218169956,itT 100 2 x3T [[97],[107,101,121]] false),
 (52036197,itT 101 2 x2T [[107,101,121]] false),(219808357,itT 101 2 x2T [[97],[107,101,121]] false),
 (16843366,itT 102 2 x3T [[97]] false),
 (117506680,itT 120 2 x3T [[107,101,121],[97]] false),(50397816,itT 120 2 x3T [[107,101,121]] false),(16843384,itT 120 2 x3T [[97]] false),
 (50397817,itT 121 2 x3T [[107,101,121]] false),(218169977,itT 121 2 x3T [[97],[107,101,121]] false)]
end Go.D
end
section
namespace Go.Rm
open Go Go.Pav Go.Pw P
attribute [-simp] List.getElem_cons_drop
abbrev eM (old:Int) (f:List Int) (e:Bool):AV:=.agg [.int .i64 old,L1 f e]
structure Has (C:WProg):Prop extends D.HasS C where
 f56:C.fns.get 56=some w56
variable {C:WProg} (H:Has C)
include H
omit H in
def chkF (old:Int) (pre:List Int):List Int→Int
 | []=>0
 | k::r=>if k < -1∨old≤k then 4 else if 0≤k∧k ∈ pre then 8 else chkF old (pre++[k]) r
omit H in
def chk (old:Int) (f:List Int):Int:=if old < 0 then 1 else if 4096 < old∨4096 < (f.length:Int) then 3 else chkF old [] f
theorem check_loop (old:Int) (f:List Int) (e:Bool) (h0:0≤old) (h1:old≤4096) (h2:f.length≤4096):∀ n i,n+i=f.length→∀ seen:List Bool,seen.length=4096 →
 (∀ v:Nat,v < 4096→seen[v]?=some (decide ((v:Int) ∈ f.take i))) →
 w56_K0 C ⟨[(23,.int .i64 i),(22,.int .i64 f.length),(21,L1 f e),(3,.ptr 0 0 0),(1,.ptr 1 0 0)],[(0,.cells 4096 [seen.map AV.bool] true true),(1,.cells 2 [[.int .i64 old,L1 f e]] true true)],2⟩ =
  some (.int .i64 (chkF old (f.take i) (f.drop i))):=by
 have _h:=H
 intro n
 induction n with
 | zero =>
  intro i hi seen hl hs
  simp only [w56_K0];rw [ck_unf w56_B0.eq_1]
  have h3:¬ i < f.length:=by omega
  have h4:f.drop i=[]:=List.drop_eq_nil_of_le (by omega)
  simp [ck_unf w56_c0.eq_1,h3,h4,chkF]
 | succ n ih =>
  intro i hi seen hl hs
  have h3:i < f.length:=by omega
  have ih':=ih (i+1) (by omega)
  simp only [w56_K0] at ih' ⊢;rw [ck_unf w56_B0.eq_1]
  rw [drop_cons h3]
  by_cases c1:f[i] < -1
  · have c2:¬ -1≤f[i]:=by omega
    simp (disch:=omega) [h3,wI64,chkF,c1,c2]
  · have c2:-1≤f[i]:=by omega
    by_cases c3:old≤f[i]
    · simp (disch:=omega) [h3,wI64,chkF,c1,c2,c3]
    · by_cases c4:0≤f[i]
      · obtain ⟨k,hk⟩:∃ k:Nat,f[i]=k:=⟨f[i].toNat,by omega⟩
        have hk2:k < 4096:=by omega
        have hk3:k < seen.length:=by omega
        have hk4:k+1≤seen.length:=by omega
        have hsk:=hs k hk2
        have hft:f.take (i+1)=f.take i++[(k:Int)]:=by rw [List.take_succ_eq_append_getElem h3,hk]
        have:=ih' (seen.set k true) (by simpa using hl) (fun v hv=>by
         rw [hft,List.getElem?_set]
         by_cases q:k=v
         · subst q;simp [hk3]
         · have q2:¬ (v:Int)=(k:Int):=by omega
           rw [if_neg q,hs v hv];simp [q2])
        rw [hft] at this
        rw [hk] at c1 c2 c3 c4 ⊢
        by_cases c5:(k:Int) ∈ f.take i
        · rw [List.getElem?_eq_getElem hk3] at hsk
          simp (disch:=omega) [h3,wI64,chkF,c1,c2,c3,c4,c5,hk,hk2,hk3] at hsk ⊢
          simp (disch:=omega) [hsk]
        · rw [List.getElem?_eq_getElem hk3] at hsk
          simp at this
          simp (disch:=omega) [h3,wI64,chkF,c1,c2,c3,c4,c5,hk,hk2,hk3] at hsk ⊢
          simp (disch:=omega) [hsk,arr_set,wI64,hk4,this]
      · have hft:f.take (i+1)=f.take i++[f[i]]:=List.take_succ_eq_append_getElem h3
        have:=ih' seen hl (fun v hv=>by
         have q2:¬ (v:Int)=f[i]:=by omega
         rw [hft,hs v hv];simp only [List.mem_append,List.mem_singleton,q2,or_false])
        rw [hft] at this
        simp at this
        simp (disch:=omega) [h3,wI64,chkF,c1,c2,c3,c4,this]
theorem check_ok (old:Int) (f:List Int) (e:Bool):FnW C 56 [eM old f e]=some (.int .i64 (chk old f)):=by
 rw [fnW_eq H.f56 rfl]
 unfold chk
 by_cases c1:old < 0
 · simp [w56,c1]
 · by_cases c2:4096 < old
   · simp [w56,c1,c2]
   · by_cases c3:4096 < (f.length:Int)
     · simp [w56,c1,c2,c3]
     · have:=check_loop H old f e (by omega) (by omega) (by omega) f.length 0 (by simp) (rep 4096 false) (by simp) (fun v hv=>by rw [rep_get _ _ hv];simp)
       simp only [w56_K0] at this
       simp at this
       simp [w56,c1,c2,c3,this]
omit H in
structure Dat (caps:List AV):Prop where
 frz:∀ h,mapO (frzW h 16) caps=some caps
 reach:∀ h,caps.flatMap (reachW h 16)=[]
 ptr:hasPtrL caps=false
 refs:refsL caps=[]
 ren:∀ π,renL π caps=some caps
omit H in
theorem dat2 (a b:List AV):Dat [.rop a,.rop b]:=⟨fun h=>rfl,fun h=>rfl,rfl,rfl,fun π=>rfl⟩
end Go.Rm
end
section
namespace Go.D
open Go Go.Pav Go.Pw P
noncomputable def rowM (r:List AV) (f:Int→Bool):Bool:=List.rec (motive:=fun _=>Bool) false (fun v q _=>andF (nilB q) (onA v fB (fun k n=>andF (Nat.beq (kindN k) (kindN .i64)) (f n)) fS fR fG)) r
theorem rowM_ok {r:List AV} {f:Int→Bool} (h:rowM r f=true):∃ n:Int,r=[.int .i64 n]∧f n=true:=by
 cases r with
 | nil=>exact Bool.noConfusion (show false=true from h)
 | cons v q =>
  obtain ⟨h1,h2⟩:=andF_ok (show andF (nilB q) (onA v fB (fun k n=>andF (Nat.beq (kindN k) (kindN .i64)) (f n)) fS fR fG)=true from h)
  obtain rfl:=nilB_ok h1
  cases v with
  | int k n =>
   obtain ⟨h3,h4⟩:=andF_ok (show andF (Nat.beq (kindN k) (kindN .i64)) (f n)=true from h2)
   obtain rfl:=kindN_inj (Nat.eq_of_beq_eq_true h3)
   exact ⟨n,rfl,h4⟩
  | _=>exact Bool.noConfusion (show false=true from h2)
noncomputable def goM (old:Nat) (rows:List (List AV)):List Nat→Bool:=List.rec (motive:=fun _=>List Nat→Bool) (fun _=>true)
 (fun r _ ih pre=>rowM r fun k=>Int.rec (motive:=fun _=>Bool) (fun n=>andF (Nat.ble (Nat.succ n) old) (Bool.rec (motive:=fun _=>Bool) (ih (n::pre)) false (memF pre n))) (fun m=>andF (Nat.beq m 0) (ih pre)) k) rows
theorem goM_ok (old:Nat):∀ (rows:List (List AV)) (pre:List Nat) (p:List Int),(∀ n:Nat,(n:Int) ∈ p→n ∈ pre)→goM old rows pre=true→∃ f:List Int,rows=f.map eI∧Rm.chkF old p f=0
 | [],pre,p,hp,h=>⟨[],rfl,rfl⟩
 | r::rows,pre,p,hp,h=>by
  obtain ⟨k,rfl,h1⟩:=rowM_ok (show rowM r (fun k=>Int.rec (motive:=fun _=>Bool) (fun n=>andF (Nat.ble (Nat.succ n) old) (Bool.rec (motive:=fun _=>Bool) (goM old rows (n::pre)) false (memF pre n))) (fun m=>andF (Nat.beq m 0) (goM old rows pre)) k)=true from h)
  cases k with
  | ofNat n =>
   obtain ⟨h2,h3⟩:=andF_ok (show andF (Nat.ble (Nat.succ n) old) (Bool.rec (motive:=fun _=>Bool) (goM old rows (n::pre)) false (memF pre n))=true from h1)
   have h2:=Nat.le_of_ble_eq_true h2
   cases c:memF pre n with
   | true=>rw [c] at h3;exact Bool.noConfusion (show false=true from h3)
   | false =>
    rw [c] at h3
    rw [memF_eq] at c
    have hn:¬ (n:Int) ∈ p:=fun q=>by have:=hp n q;simp [this] at c
    obtain ⟨f,rfl,hf⟩:=goM_ok old rows (n::pre) (p++[(n:Int)]) (fun m hm=>by
     rcases List.mem_append.1 hm with q | q
     · exact List.mem_cons_of_mem _ (hp m q)
     · simp only [List.mem_singleton] at q;simp;omega) h3
    refine ⟨(n:Int)::f,rfl,?_⟩
    rw [Rm.chkF,if_neg (by omega),if_neg (by simp [hn])]
    exact hf
  | negSucc m =>
   obtain ⟨h2,h3⟩:=andF_ok (show andF (Nat.beq m 0) (goM old rows pre)=true from h1)
   obtain rfl:=Nat.eq_of_beq_eq_true h2
   obtain ⟨f,rfl,hf⟩:=goM_ok old rows pre (p++[Int.negSucc 0]) (fun m hm=>by
    rcases List.mem_append.1 hm with q | q
    · exact hp m q
    · simp only [List.mem_singleton] at q;exact absurd q (by omega)) h3
   refine ⟨Int.negSucc 0::f,rfl,?_⟩
   rw [Rm.chkF,if_neg (by omega),if_neg (by omega)]
   exact hf
noncomputable def okM (v:AV):Bool:=onA v fB fI fS fR fun cs=>List.rec (motive:=fun _=>Bool) false (fun x q _=>List.rec (motive:=fun _=>Bool) false (fun y q' _=>andF (nilB q') (onA x fB (fun k o=>andF (Nat.beq (kindN k) (kindN .i64)) (Int.rec (motive:=fun _=>Bool) (fun o=>andF (Nat.ble o 4096) (onA y fB fI fS (fun z es _=>andF (Nat.beq z 1) (andF (Nat.ble (lenF es) 4096) (goM o es []))) fG)) (fun _=>false) o)) fS fR fG)) q) cs
theorem okM_ok {v:AV} (h:okM v=true):∃ (old:Int) (f:List Int) (e:Bool),v=Rm.eM old f e∧Rm.chk old f=0:=by
 cases v with
 | agg cs=>cases cs with
  | nil=>exact Bool.noConfusion (show false=true from h)
  | cons x q=>cases q with
   | nil=>exact Bool.noConfusion (show false=true from h)
   | cons y q' =>
    obtain ⟨h1,h2⟩:=andF_ok (show andF (nilB q') (onA x fB (fun k o=>andF (Nat.beq (kindN k) (kindN .i64)) (Int.rec (motive:=fun _=>Bool) (fun o=>andF (Nat.ble o 4096) (onA y fB fI fS (fun z es _=>andF (Nat.beq z 1) (andF (Nat.ble (lenF es) 4096) (goM o es []))) fG)) (fun _=>false) o)) fS fR fG)=true from h)
    obtain rfl:=nilB_ok h1
    cases x with
    | int k o =>
     obtain ⟨h3,h4⟩:=andF_ok (show andF (Nat.beq (kindN k) (kindN .i64)) (Int.rec (motive:=fun _=>Bool) (fun o=>andF (Nat.ble o 4096) (onA y fB fI fS (fun z es _=>andF (Nat.beq z 1) (andF (Nat.ble (lenF es) 4096) (goM o es []))) fG)) (fun _=>false) o)=true from h2)
     obtain rfl:=kindN_inj (Nat.eq_of_beq_eq_true h3)
     cases o with
     | negSucc m=>exact Bool.noConfusion (show false=true from h4)
     | ofNat o =>
      obtain ⟨h5,h6⟩:=andF_ok (show andF (Nat.ble o 4096) (onA y fB fI fS (fun z es _=>andF (Nat.beq z 1) (andF (Nat.ble (lenF es) 4096) (goM o es []))) fG)=true from h4)
      have h5:=Nat.le_of_ble_eq_true h5
      cases y with
      | ro z es e =>
       obtain ⟨h7,h8⟩:=andF_ok (show andF (Nat.beq z 1) (andF (Nat.ble (lenF es) 4096) (goM o es []))=true from h6)
       obtain ⟨h9,h10⟩:=andF_ok h8
       obtain rfl:=Nat.eq_of_beq_eq_true h7
       rw [lenF_eq] at h9
       have h9:=Nat.le_of_ble_eq_true h9
       obtain ⟨f,rfl,hf⟩:=goM_ok o es [] [] (by simp) h10
       rw [List.length_map] at h9
       refine ⟨o,f,e,rfl,?_⟩
       unfold Rm.chk
       rw [if_neg (by omega),if_neg (by omega)]
       exact hf
      | _=>exact Bool.noConfusion (show false=true from h6)
    | _=>exact Bool.noConfusion (show false=true from h2)
 | _=>exact Bool.noConfusion (show false=true from h)
noncomputable def chkO (orc:Orc):Orc:=fun f ags=>Bool.rec (motive:=fun _=>Option AV) (orc f ags) (a1F ags fun v=>ifF (okM v) (some (.int .i64 0)) (orc f ags)) (Nat.beq f 56)
theorem chkO_ok {C:WProg} {orc:Orc} (ok:OrcOk C orc) (hi:C.inl 56=false) (H:Rm.Has C):OrcOk C (chkO orc):=by
 refine orcOf fun f vs v h=>?_
 have old:orc f vs=some v→GoodO C f vs v:=fun h=>⟨ok.inl _ _ _ h,ok.ptr _ _ _ h,ok.val _ _ _ h,ok.frz _ _ _ h⟩
 unfold chkO at h
 cases c:Nat.beq f 56 with
 | false=>rw [c] at h;exact old h
 | true =>
  rw [c] at h
  obtain ⟨x,rfl,h⟩:=a1F_ok (show a1F vs (fun v=>ifF (okM v) (some (.int .i64 0)) (orc f vs))=some v from h)
  rcases ifF_ok h with ⟨h1,h2⟩ | h
  · obtain ⟨o,l,e,rfl,h3⟩:=okM_ok h1
    cases h2
    have k:=Rm.check_ok H o l e
    rw [h3] at k
    rw [Nat.eq_of_beq_eq_true c]
    exact ⟨hi,by simp [hasPtrL,hasPtr],k,rfl⟩
  · exact old h
def tabT:Tab where
 one:=[(231,T0T),(231,T1T),(231,T2T),(231,T3T),(408,T0T),(408,T1T),(408,T2T)]
 three:=[(501,⟨T0T,12,A0oT,[]⟩),(501,⟨T1T,12,A1oT,[]⟩),(501,⟨T2T,12,A2oT,A2bT⟩),(501,⟨T3T,1,A3oT,[]⟩),(425,⟨T0T,12,B0oT,[]⟩),(425,⟨T1T,12,B1oT,[]⟩),(425,⟨T2T,12,B2oT,B2bT⟩)]
 two:=[(398,3,A0oT),(398,3,A1oT),(398,3,A2oT),(398,3,A2bT),(398,1,A3oT),(424,3,B0oT),(424,3,B1oT),(424,3,B2oT),(424,3,B2bT)]
def uT (n:Nat):AV:=.int .u8 (Int.ofNat (n % 256))
def yT (i:Nat):AV:=.agg [.ro 4 [[.int .u8 1,.int .u8 0,.int .u8 1,.int .u8 1],[.int .u8 2,.int .u8 1,.int .u8 2,.int .u8 2],[.int .u8 3,.int .u8 2,.int .u8 3,uT (i % 8)],[.int .u8 4,.int .u8 0,.int .u8 0,.int .u8 0]] true,.ro 1 [[.int .u8 9],[.int .u8 0],[uT i]] true,uT i]
def r0T (i:Nat):List AV:=[uT i,uT (i / 3),uT i,uT (i * 3),uT i]
def r1T (i:Nat):List AV:=[uT (i / 2),.int .u8 1,.int .u8 2,uT i,.int .u8 3]
def r2T (i:Nat):List AV:=[uT (i * 5),uT i,uT (i * 7),.int .u8 1,uT i]
def bT (i:Nat):AV:=.agg [.ro 5 [r0T i,r1T i,r2T i] true]
def z64 (n:Nat):AV:=.int .i64 (Int.ofNat n)
noncomputable def nxtT (w r:AV):AV:=Bool.rec (motive:=fun _=>AV) r (cmpN w 0) (eqA (z64 0) (cmpN w 1))
noncomputable def oRT (C:WProg) (N d:Nat) (o0:Orc) (i:Nat):Orc :=
 let y:=yT i
 let v:=kV C N d o0 130 [y]
 let c:=cmpN v 0
 let l:=cmpN v 1
 let r:=cmpN l 0
 let o1:=extO C N d o0 130 [y]
 let n0:=kV C N d o1 452 [.agg (r0T i),r,z64 0]
 let o2:=extO C N d o1 452 [.agg (r0T i),r,z64 0]
 let w0:=kV C N d o2 342 [c,r,n0]
 let o3:=extO C N d o2 342 [c,r,n0]
 let r1:=nxtT w0 r
 let n1:=kV C N d o3 452 [.agg (r1T i),r1,z64 1]
 let o4:=extO C N d o3 452 [.agg (r1T i),r1,z64 1]
 let w1:=kV C N d o4 342 [c,r1,n1]
 let o5:=extO C N d o4 342 [c,r1,n1]
 let r2:=nxtT w1 r1
 let n2:=kV C N d o5 452 [.agg (r2T i),r2,z64 2]
 let o6:=extO C N d o5 452 [.agg (r2T i),r2,z64 2]
 let o7:=extO C N d o6 342 [c,r2,n2]
 let o8:=extO C N d o7 326 [bT i,c,l]
 let o9:=extO C N d o8 223 [c,l]
 let l0:=cmpN (kV C N d o9 110 [c,l,z64 0,z64 0]) 0
 let p0:=extO C N d o9 110 [c,l,z64 0,z64 0]
 let p1:=extO C N d p0 223 [c,l0]
 let l1:=cmpN (kV C N d p1 343 [c,l0,n0]) 0
 let p2:=extO C N d p1 343 [c,l0,n0]
 let p3:=extO C N d p2 223 [c,l1]
 let l2:=cmpN (kV C N d p3 343 [c,l1,n1]) 0
 let p4:=extO C N d p3 343 [c,l1,n1]
 let p5:=extO C N d p4 223 [c,l2]
 let l3:=cmpN (kV C N d p5 343 [c,l2,n2]) 0
 let p6:=extO C N d p5 343 [c,l2,n2]
 extO C N d p6 223 [c,l3]
def cD:AV:=.agg [.ro 9 [ptT 1 rowT [] [] [] []++[z64 10,.bool false,z64 0]] true,z64 1]
def keysD (k:Nat):List Nat:=[1,2,3]++(List.range k).map (·+10)
def enD (k:Nat):List AV:=[.int .u64 (Int.ofNat k),.int .u8 0,.str [],.ro 1 [] true,z64 10,.bool false]
def lsD (k:Nat):AV:=.agg [.ro 6 ((keysD k).map enD) true]
def nrD (k:Nat):List AV:=[.int .u8 1,z64 (3+k),z64 0,z64 0,.ro 4 [[.int .u64 (Int.ofNat (10+k)),.int .u8 0,.str [],.ro 1 [] true]] false]
def fD (k:Nat):Nat × List AV × AV:=(343,[cD,lsD k,.agg (nrD k)],.tup [lsD (k+1),z64 0])
def facD:List (Nat × List AV × AV):=(List.range 32).map fD
def xsD (k:Nat):WSt:=⟨[(10,z64 k),(9,.sl 0 5 0 k k false)],[(0,.cells 5 ((List.range k).map nrD) true true)],1⟩
def xeD:WSt:=⟨[(9,.sl 0 5 0 32 32 false)],[(0,.cells 5 ((List.range 32).map nrD) true true)],1⟩
def zD:WSt:=⟨[],[],0⟩
def iD (i:Nat):WSt:=⟨[(1,z64 i)],[],0⟩
def a2D:Ann:=⟨true,[1],[]⟩
def e2D:Ann:=⟨true,[],[]⟩
def a1D:Ann:=⟨true,[10,9],[]⟩
def e1D:Ann:=⟨true,[9],[]⟩
def a0D:Ann:=⟨true,[22],[]⟩
def e0D:Ann:=⟨true,[],[]⟩
def cs2D:List WCode:=[sqA w621.body,sqA (sqB w621.body)]
def h2D:WCode:=sqA (sqA (sqB (sqB w621.body)))
def cs1D:List WCode:=[sqA w621_c2]
def h1D:WCode:=sqA (sqA (sqB w621_c2))
def cs0D:List WCode:=[sqA w621_c1,sqA (sqB w621_c1),sqA (sqB (sqB w621_c1))]
def ct0D:List WCode:=[sqA (sqB (sqB (sqB w621_c1))),sqA (sqB (sqB (sqB (sqB w621_c1)))),sqA (sqB (sqB (sqB (sqB (sqB w621_c1)))))]
def h0D:WCode:=sqA (sqA (sqB (sqB (sqB (sqB (sqB (sqB w621_c1)))))))
theorem shD2:w621.body=cs2D.foldr .seq (.seq (.seq h2D (.block 0 (.loop a2D w621_B2) e2D)) w621_c2):=rfl
theorem shD1:w621_c2=cs1D.foldr .seq (.seq (.seq h1D (.block 6 (.loop a1D w621_B1) e1D)) w621_c1):=rfl
theorem shD0:w621_c1=cs0D.foldr .seq (ct0D.foldr .seq (.seq (.seq h0D (.block 8 (.loop a0D w621_B0) e0D)) w621_c0)):=rfl
def sT (i:Nat):WSt:=⟨[(22,z64 i)],[],0⟩
def itD (k:Nat):List AV:=[.int .u64 (Int.ofNat (10+k)),.int .u8 0,.str [],.ro 1 [] true]
def sMD:WSt:=⟨[(17,z64 0),(16,.sl 0 5 0 1 1 true),(15,z64 0),(14,z64 32),(13,.ptr 2 0 0),(9,.sl 6 5 0 32 32 false)],
 [(
  0,.cells 5 [[.int .u8 1,z64 3,z64 0,z64 0,.sl 1 4 0 32 32 true]] true false),(1,.cells 4 ((List.range 32).map itD) true true),(2,.cells 4 [[z64 3,.sl 3 1 0 35 35 true,.sl 4 1 0 35 35 true,.sl 5 4 0 32 32 true]] true false),
  (3,.cells 1 ([[z64 0],[z64 1],[z64 2]]++List.replicate 32 [.int .i64 (Int.negSucc 0)]) true true),(4,.cells 1 (List.replicate 3 [.bool false]++List.replicate 32 [.bool true]) true true),(5,.cells 4 ((List.range 32).map itD) true true),(6,.cells 5 ((List.range 32).map nrD) true true)],7⟩
def facI:List (Nat × List AV × AV):=(List.range 32).map fun k=>(66,[z64 (3+k),z64 (3+k),z64 1],.tup [.agg [z64 (3+k),.ro 1 ((List.range (3+k)).map (fun j=>[z64 j])++[[.int .i64 (Int.negSucc 0)]]) true],z64 0])
def no0:Orc:=fun _ _=>none
noncomputable def o1K (C:WProg):Orc:=orcT C ⟨tabT.one,[],[]⟩
noncomputable def oCK (C:WProg):Orc:=chkO (orcT C tabT)
noncomputable def oBK (C:WProg):Orc:=facO (oCK C) [(166,[],.bool true)]
noncomputable def oDK (C:WProg):Orc:=facO (oBK C) (facD++facI)
abbrev nodeK (C:WProg) (f:Nat) (T:AV) (n:Int) (tab:List (Nat × AV)):Prop:=(tab.all fun g=>isN (callQ C (o1K C) 300 60 f [T,g.2,.int .i64 n]))=true
abbrev zeroK (C:WProg) (f:Nat) (T:AV) (n:Int) (tab:List (Nat × AV)):Prop:=(tab.all fun g=>isZ (callQ C (o1K C) 300 60 f [T,g.2,.int .i64 n]))=true
abbrev goodK (C:WProg) (f:Nat) (n:Int) (tab:List (Nat × AV)):Prop:=(tab.all fun g=>is0 (callQ C (o1K C) 300 60 f [g.2,.int .i64 n]))=true
structure BkT (C:WProg):Prop where
 one:(tabT.one.all fun b=>is0 (callQ C no0 300 60 b.1 [b.2]))=true
 a0:nodeK C 501 T0T 12 A0oT
 a1:nodeK C 501 T1T 12 A1oT
 a2:nodeK C 501 T2T 12 A2oT
 az:zeroK C 501 T2T 12 A2bT
 a3:nodeK C 501 T3T 1 A3oT
 b0:nodeK C 425 T0T 12 B0oT
 b1:nodeK C 425 T1T 12 B1oT
 b2:nodeK C 425 T2T 12 B2oT
 bz:zeroK C 425 T2T 12 B2bT
 c0:goodK C 398 3 A0oT
 c1:goodK C 398 3 A1oT
 c2:goodK C 398 3 A2oT
 cz:goodK C 398 3 A2bT
 c3:goodK C 398 1 A3oT
 d0:goodK C 424 3 B0oT
 d1:goodK C 424 3 B1oT
 d2:goodK C 424 3 B2oT
 dz:goodK C 424 3 B2bT
theorem inlK {C:WProg} (hi:C.inl=inlB) {f:Nat} (h:inlB f=false):C.inl f=false:=by rw [hi];exact h
theorem okAll {tab:List (Nat × AV)} (p:AV→Bool) (h:(tab.all fun g=>p g.2)=true) {it:AV} (hit:InT tab it):p it=true:=allT_ok h it hit
theorem oneK {C:WProg} (hi:C.inl=inlB) (h:(tabT.one.all fun b=>is0 (callQ C no0 300 60 b.1 [b.2]))=true):∀ b ∈ tabT.one,C.inl b.1=false∧hasPtr b.2=false∧FnW C b.1 [b.2]=some (.int .i64 0):=by
 intro b hb
 have h1:(tabT.one.all fun b=>!inlB b.1&&!hasPtr b.2)=true:=by decide +kernel
 have h2:=List.all_eq_true.1 h1 b hb
 rw [Bool.and_eq_true,Bool.not_eq_true',Bool.not_eq_true'] at h2
 exact ⟨inlK hi h2.1,h2.2,is0_ok (isN_call (no_ok C) (p:=is0) rfl (List.all_eq_true.1 h b hb))⟩
theorem okO1 {C:WProg} (hi:C.inl=inlB) (h:(tabT.one.all fun b=>is0 (callQ C no0 300 60 b.1 [b.2]))=true):OrcOk C (o1K C) :=
 orcT_ok { one:=oneK hi h,ok:=fun b hb=>by simp at hb,bad:=fun b hb=>by simp at hb,three:=fun b hb=>by simp at hb,two:=fun b hb=>by simp at hb }
theorem okT {C:WProg} (hi:C.inl=inlB) (H:BkT C):OrcOk C (orcT C tabT):=by
 have o1:=okO1 hi H.one
 refine orcT_ok { one:=oneK hi H.one,ok:=?_,bad:=?_,three:=?_,two:=?_ }
 · have k:∀ {f T n tab},nodeK C f T n tab→∀ it,InT tab it→isN (FnW C f [T,it,.int .i64 n])=true:=fun h it hit=>isN_call o1 rfl (okAll (fun it=>isN (callQ C (o1K C) 300 60 _ [_,it,_])) h hit)
   intro b hb
   simp only [tabT,List.mem_cons,List.not_mem_nil,or_false] at hb
   rcases hb with rfl | rfl | rfl | rfl | rfl | rfl | rfl
   · exact k H.a0
   · exact k H.a1
   · exact k H.a2
   · exact k H.a3
   · exact k H.b0
   · exact k H.b1
   · exact k H.b2
 · have k:∀ {f T n tab},zeroK C f T n tab→∀ it,InT tab it→FnW C f [T,it,.int .i64 n]=some zV:=fun h it hit=>isZ_ok (isN_call o1 rfl (okAll (fun it=>isZ (callQ C (o1K C) 300 60 _ [_,it,_])) h hit))
   intro b hb
   simp only [tabT,List.mem_cons,List.not_mem_nil,or_false] at hb
   rcases hb with rfl | rfl | rfl | rfl | rfl | rfl | rfl
   · rintro it ⟨g,hg,_⟩;cases hg
   · rintro it ⟨g,hg,_⟩;cases hg
   · exact k H.az
   · rintro it ⟨g,hg,_⟩;cases hg
   · rintro it ⟨g,hg,_⟩;cases hg
   · rintro it ⟨g,hg,_⟩;cases hg
   · exact k H.bz
 · intro b hb
   have h1:(tabT.three.all fun b=>!inlB b.1&&(!hasPtr b.2.T&&(b.2.ok.all (fun g=>!hasPtr g.2)&&b.2.bad.all (fun g=>!hasPtr g.2))))=true:=by decide +kernel
   have h2:=List.all_eq_true.1 h1 b hb
   simp only [Bool.and_eq_true,Bool.not_eq_true'] at h2
   obtain ⟨q1,q2,q3,q4⟩:=h2
   refine ⟨inlK hi q1,q2,?_⟩
   rintro it (⟨g,hg,rfl⟩ | ⟨g,hg,rfl⟩)
   · have:=List.all_eq_true.1 q3 g hg;simpa using this
   · have:=List.all_eq_true.1 q4 g hg;simpa using this
 · intro b hb
   have h1:(tabT.two.all fun b=>!inlB b.1&&b.2.2.all (fun g=>!hasPtr g.2))=true:=by decide +kernel
   have h2:=List.all_eq_true.1 h1 b hb
   simp only [Bool.and_eq_true,Bool.not_eq_true'] at h2
   refine ⟨inlK hi h2.1,fun it hit=>⟨?_,?_⟩⟩
   · obtain ⟨g,hg,rfl⟩:=hit
     have:=List.all_eq_true.1 h2.2 g hg;simpa using this
   · have k:∀ {f n tab},goodK C f n tab→InT tab it→FnW C f [it,.int .i64 n]=some (.int .i64 0):=fun h hit=>is0_ok (isN_call o1 rfl (okAll (fun it=>is0 (callQ C (o1K C) 300 60 _ [it,_])) h hit))
     simp only [tabT,List.mem_cons,List.not_mem_nil,or_false] at hb
     rcases hb with rfl | rfl | rfl | rfl | rfl | rfl | rfl | rfl | rfl
     · exact k H.c0 hit
     · exact k H.c1 hit
     · exact k H.c2 hit
     · exact k H.cz hit
     · exact k H.c3 hit
     · exact k H.d0 hit
     · exact k H.d1 hit
     · exact k H.d2 hit
     · exact k H.dz hit
structure BkF (C:WProg):Prop where
 lives:callQ C (oCK C) 300 60 166 []=some (.bool true)
 fac:∀ k,k < 32→facB C 300 60 (oBK C) (fD k)=true
 fai:(facI.all fun b=>facB C 300 60 (oBK C) b)=true
 h2:(ob (seqQ C (oBK C) 300 60 0 (cs2D++[h2D]) zD) (canon 0 a2D))=some (iD 0)
 s2:∀ i,i < 6→stepQ C (oBK C) 300 60 0 a2D w621_B2 (iD i)=some (iD (i+1))
 l2:leaveQ C (oBK C) 300 60 0 0 e2D w621_B2 (iD 6)=some zD
 h1:(ob (seqQ C (oBK C) 300 60 0 (cs1D++[h1D]) zD) (canon 0 a1D))=some (xsD 0)
 s1:iterQ C (oBK C) 300 60 0 a1D w621_B1 32 (xsD 0)=some (xsD 32)
 l1:leaveQ C (oBK C) 300 60 0 6 e1D w621_B1 (xsD 32)=some xeD
 m0:seqQ C (oDK C) 300 60 0 cs0D xeD=some sMD
 h0:(ob (seqQ C (oBK C) 300 60 0 (ct0D++[h0D]) sMD) (canon 0 a0D))=some (sT 0)
 s0:∀ i,i < 160→stepQ C (oRT C 300 60 (oBK C) i) 300 60 0 a0D w621_B0 (sT i)=some (sT (i+1))
 l0:leaveQ C (oBK C) 300 60 0 8 e0D w621_B0 (sT 160)=some zD
 f:(ob (codeR w621_c0 C (runQ C (oBK C) 300 60) 300 0 zD) fun r=>ob (fnEndW w621.res r) fun r=>frzW r.2.1 frzDepth r.1)=some (.bool true)
theorem oRT_ok {C:WProg} (hi:C.inl=inlB) {o:Orc} (ok:OrcOk C o) (i:Nat):OrcOk C (oRT C 300 60 o i):=by
 unfold oRT
 repeat' first | exact ok | refine extO_ok ?_ (inlK hi rfl) _
theorem bklaw_ok {C:WProg} (hi:C.inl=inlB) (hf:C.fns.get 621=some w621) (M:Rm.Has C) (T:BkT C) (R:BkF C):FnW C 621 []=some (.bool true):=by
 have okC:OrcOk C (oCK C):=chkO_ok (okT hi T) (inlK hi rfl) M
 have okB:OrcOk C (oBK C):=facO_ok okC fun b hb=>by
  simp only [List.mem_cons,List.not_mem_nil,or_false] at hb
  subst hb
  exact ⟨inlK hi rfl,by simp [hasPtrL],callQ_ok okC R.lives,rfl⟩
 have okD:OrcOk C (oDK C):=facO_ok okB fun b hb=>by
  rcases List.mem_append.1 hb with hb | hb
  · obtain ⟨k,hk,rfl⟩:=List.mem_map.1 hb
    exact facB_ok okB (inlK hi rfl) (R.fac k (List.mem_range.1 hk))
  · refine facB_ok okB (inlK hi ?_) (List.all_eq_true.1 R.fai b hb)
    obtain ⟨k,_,rfl⟩:=List.mem_map.1 hb;rfl
 obtain ⟨r,h1,h2⟩:=ob_some R.f
 have hb:CdW C 0 w621.body ⟨[],[],0⟩=some r:=by
  rw [shD2,show (⟨[],[],0⟩:WSt)=zD from rfl,headX okB cs2D h2D a2D w621_B2 0 e2D iD 6 R.h2 (fun i hi=>stepQ_to okB (R.s2 i hi)) (leaveQ_to okB R.l2) w621_c2,shD1,
   head_cdQ okB cs1D h1D a1D w621_B1 6 e1D R.h1 R.s1 R.l1 w621_c1,shD0,seqQ_cd okD cs0D _ _ _ R.m0,
   headX okB ct0D h0D a0D w621_B0 8 e0D sT 160 R.h0 (fun i hj=>stepQ_to (oRT_ok hi okB i) (R.s0 i hj)) (leaveQ_to okB R.l0) w621_c0]
  exact codeQ_cd okB h1
 exact fn_cd hf rfl hb h2
end Go.D
end
