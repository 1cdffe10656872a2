/- The law PoolsPlay says true for every input; its argument reads behind the call as before. No conditions. -/
import Derived.Test.YtnokccfliamnmaaT5
import Derived.Test.YtnokccfliamnmaaRows
import Derived.ProofKit
namespace Go.Proofs.Ytnokccfliamnmaa
open Go.ChangeShapes Go.WideShapes Go.ChangeAt Go.RowKit Go.Pav Go.Pw P21
theorem own_:ownKnob Try.prog.godebug=none:=by kernel_rfl
theorem kids_:Kids Try.prog (· < Try.prog.types.size):=kids_rows (by kernel_rfl) (by kernel_rfl)
theorem full_:∀ t e,t < Try.prog.types.size→Try.prog.underlying t=some (.slice e)→0 < Try.prog.cellsOf e:=slices_full_of Try.prog (by kernel_rfl)
theorem has_:Go.C21.HasR prog:={ f5:=rfl,f10:=rfl,f11:=rfl,f12:=rfl,f14:=rfl,f15:=rfl,f16:=rfl,f20:=rfl,f21:=rfl,f24:=rfl,f25:=rfl,f26:=rfl,f28:=rfl,f35:=rfl,inl:=rfl,f7:=rfl,f27:=rfl,f22:=rfl,f23:=rfl,f13:=rfl,f1:=rfl,f6:=rfl,g7:=rfl,f8:=rfl,f9:=rfl,f17:=rfl }
theorem lives_:FnW prog 18 []=some (.bool true):=fnW_call.2 ⟨300,isTrue_eq (by kernel_rfl)⟩
theorem ty_map2 {α:Type} {g:α→List AV} {Q:List AV→Prop} {R:α→Prop} (h:∀ a,Q a→∃ x,a=g x∧R x):∀ (xs:List (List AV)),(∀ x ∈ xs,Q x)→∃ ys:List α,xs=ys.map g∧∀ y ∈ ys,R y:=by
 intro xs
 induction xs with
 | nil=>intro _;exact ⟨[],rfl,by simp⟩
 | cons a r ih =>
  intro hx
  obtain ⟨y,rfl,hy⟩:=h a (hx a (by simp))
  obtain ⟨ys,rfl,hys⟩:=ih fun x q=>hx x (by simp [q])
  exact ⟨y::ys,rfl,by simpa using ⟨hy,hys⟩⟩
theorem ty_slice {ts:List CT} {a:AV} (h:Ty (.slice ts) a):∃ (es:List (List AV)) (e:Bool),a=.ro ts.length es e∧es.length < 2 ^ 63∧∀ x ∈ es,x.length=ts.length∧∀ (j:Nat) (ct:CT) (v:AV),ts[j]?=some ct→x[j]?=some v→Ty ct v:=by
 cases h with
 | slice ts es ex hn hw h =>
  refine ⟨es,ex,rfl,hn,fun x hx=>?_⟩
  obtain ⟨i,hi⟩:=List.getElem?_of_mem hx
  exact ⟨hw i x hi,fun j ct v e1 e2=>h i x j ct v hi e1 e2⟩
theorem ty_u8 {v:AV} (h:Ty (.int .u8) v):∃ n:Int,v=.int .u8 n∧0≤n∧n≤255:=by
 cases h with
 | int k n h1 h2=>exact ⟨n,rfl,h1,h2⟩
theorem ty_bytes {a:AV} (h:Ty (.slice [.int .u8]) a):∃ (xs:List Int) (e:Bool),a=.ro 1 (xs.map eU8) e∧∀ x ∈ xs,0≤x∧x≤255:=by
 obtain ⟨es,e,rfl,_,hx⟩:=ty_slice h
 obtain ⟨xs,rfl,hr⟩:=ty_map2 (g:=eU8) (R:=fun x:Int=>0≤x∧x≤255) (fun l q=>by
  obtain ⟨q1,q2⟩:=q
  match l,q1 with
  | [v],_ =>
   obtain ⟨n,rfl,h1⟩:=ty_u8 (q2 0 _ v rfl rfl)
   exact ⟨n,rfl,h1⟩) es hx
 exact ⟨xs,e,rfl,hr⟩
theorem ty_calls {a:AV} (h:Ty (.slice [.int .u8,.int .u8,.int .u8]) a) :
 ∃ (xs:List (Int × Int × Int)) (e:Bool),a=.ro 3 (xs.map Go.C21.eO) e∧∀ o ∈ xs,(0≤o.1∧o.1≤255)∧(0≤o.2.1∧o.2.1≤255)∧(0≤o.2.2∧o.2.2≤255):=by
 obtain ⟨es,e,rfl,_,hx⟩:=ty_slice h
 obtain ⟨xs,rfl,hr⟩:=ty_map2 (g:=Go.C21.eO) (R:=fun o:Int × Int × Int=>(0≤o.1∧o.1≤255)∧(0≤o.2.1∧o.2.1≤255)∧(0≤o.2.2∧o.2.2≤255)) (fun l q=>by
  obtain ⟨q1,q2⟩:=q
  match l,q1 with
  | [u,v,w],_ =>
   obtain ⟨n1,rfl,h1⟩:=ty_u8 (q2 0 _ u rfl rfl)
   obtain ⟨n2,rfl,h2⟩:=ty_u8 (q2 1 _ v rfl rfl)
   obtain ⟨n3,rfl,h3⟩:=ty_u8 (q2 2 _ w rfl rfl)
   exact ⟨(n1,n2,n3),rfl,h1,h2,h3⟩) es hx
 exact ⟨xs,e,rfl,hr⟩
theorem core1 (vs:List AV) (h:TyAll [.g [.slice [.int .u8],.slice [.int .u8,.int .u8,.int .u8]]] vs):FnW prog 1 vs=some (.bool true):=by
 match vs,h with
 | [a],⟨⟨es,ha,hl,hes⟩,_⟩ =>
  subst ha
  match es,hl with
  | [x,y],_ =>
   obtain ⟨bs,e,rfl,hb⟩:=ty_bytes (hes 0 _ x rfl rfl)
   obtain ⟨cs,f,rfl,hc⟩:=ty_calls (hes 1 _ y rfl rfl)
   exact Go.C21.play_ok has_ lives_ bs e cs f hb hc
theorem args3:Try.f3.params.toList.map (argT Try.prog)=[AT.g [.slice [.int .u8],.slice [.int .u8,.int .u8,.int .u8]]].map some:=by kernel_rfl
set_option maxRecDepth 100000 in
theorem lifted3 (os:Os) (started:os.Started) (H:Type) (enc:TypeId × Value→H) :
 ReturnsInHanded {} Try.checked os 3 .any (Rows.poolsPlaySpec.pre6 enc Try.prog Try.f3 Rows.poolsPlayRow.domain false) (Rows.poolsPlaySpec.post enc Try.prog Try.f3 false true false false):=by
 refine returnsInHanded_of_change (C:=Try.checked) own_ started (by kernel_rfl) Try.func3
  (ChangeSpec.witness6 (enc:=enc) (C:=Try.checked) false ⟨#[],#[.agg #[.slice none 0 0,.slice none 0 0]],[]⟩ 8 (by kernel_rfl) (by kernel_rfl) (by kernel_rfl) (by kernel_rfl)) ?_
 intro W base args ds gs before hval hW hcnd _
 have hW':=hW
 obtain ⟨p,q,hA,hV,rfl,hfz,hnd⟩:=hW
 obtain ⟨rfl,rfl⟩:=trodVars_none hV
 have hlen:ds.length=1:=(trodAll_len hA).trans (by simp)
 refine (law_calls (enc:=enc) link okT (f:=1) args3 core1 (fun j t v e1 e2=>hval j t v (by simpa using e1) e2) hA).mono ?_
 rintro e W' ⟨rfl,h1,h2,h3,h4⟩
 refine ⟨_,rfl,law_post kids_ full_ rfl hW' ?_ (of_decide_eq_true (by kernel_rfl)) rfl (by kernel_rfl) h1 h2 h3 h4⟩
 match ds,hlen with
 | [d1],_=>rfl
theorem poolsPlay_holds:Rows.PoolsPlaySaid :=
 OpenClaim.holds_of_wide 3 Try.f3 rfl rfl rfl rfl rfl rfl rfl ⟨rfl,rfl,rfl,rfl,rfl⟩ rfl rfl rfl rfl rfl (by kernel_rfl) Try.func3 (by kernel_rfl)
  (of_decide_eq_true (by kernel_rfl)) (by unfold Func.isWrapper;first | (rw [if_pos (by decide +kernel)];kernel_rfl) | (rw [if_neg (by decide +kernel)];exact ⟨rfl,rfl⟩))
  (fun os started H enc _=>lifted3 os started H enc)
end Go.Proofs.Ytnokccfliamnmaa
