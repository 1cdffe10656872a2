/- Part of the theory that the claims of this work use: E32, E33, E34, E35, E36, E37, S15, S01, S04, S14, S05, S16, S18, S19, S20, S21, S22, S23, S02, S03, S06, S07, S09, S10, S11, S12, S13, S08, S17, S24, S25, S26, S27, S28, S29, S30, S31, S32. No conditions of its own. -/
import Derived.Test.YtcekmcchienbfaaGreatT7
set_option linter.unusedVariables false
set_option linter.unusedSimpArgs false
set_option maxHeartbeats 4000000
set_option maxRecDepth 10000
section
namespace Go.D
open Go Go.Pav Go.Pw P
attribute [-simp] List.getElem_cons_drop
variable {C:aG}
theorem WR {ks:List Kd} {l:List En} (hz:Szd l) {o:Int}:∀ (n i:Nat) (a:Int),n+i=l.length→hdF ks l o n i a=hrF ks l o n i a:=by
 intro n
 induction n with
 | zero=>intro i a _;rfl
 | succ n ih =>
  intro i a hi
  have hil:i < l.length:=by omega
  by_cases c:o < top l i
  · rw [hdF,if_pos c,ZQ hz (n+1) i a hi c]
  · rw [hdF,if_neg c,hrF,ih (i+1) _ (by omega)]
    congr 1
    rw [List.getElem?_eq_getElem hil,WM hil]
    simp only
    by_cases d:(iU ks l[i].i.t).st=true
    · rw [if_pos d,if_pos ⟨d,by omega⟩]
    · rw [if_neg d,if_neg (by rintro ⟨q,_⟩;exact d q)]
theorem aiX {ks:List Kd} {l:List En} (hz:Szd l) {o:Int}:hdA ks l o=hrA ks l o:=WR hz l.length 0 (-1) (by simp)
theorem agp (ks:List Kd) (l:List En) (s:Int):-1≤hrA ks l s∧hrA ks l s < l.length:=aiZ ks l s l.length 0 (-1) (by simp) (by omega)
theorem TB (H:Dy C) (l:List En) (e:Bool) (o v k:Int) (hp:Vp l o v) (hk:0≤k∧k≤16):FnW C 131 [.ro 6 (l.map eEn) e,.int .i64 o,.int .i64 v,.int .i64 k]=some (.tup [.int .i64 (wF l o v k),.int .i64 (wT l o v k),.int .i64 0]):=by
 have hn:=hp.n
 obtain ⟨K,rfl⟩:∃ K:Nat,k=K:=⟨k.toNat,by omega⟩
 have hv0:=hp.v0
 have hsb:=hp.sb2
 have h1:=Pv H.tojf l e (by omega) (fun x hx=>by have:=hp.s x hx;omega) o v (by omega) (by omega)
 rw [acg hp] at h1
 have c1:¬ (K:Int) < 0:=by omega
 have c2:¬ (16:Int) < K:=by omega
 obtain ⟨a,b,ha,hb,hab,hbl,hv,hw⟩:=hp.amD
 by_cases c:l.length=0
 · have e1:wF l o v K=0:=by
    unfold wF;rw [ha];unfold imax;split <;> omega
   have e2:wT l o v K=0:=by
    unfold wT;rw [hb];unfold jH;split <;> omega
   rw [e1,e2,aH H.f131 rfl]
   have hnil:l=[]:=List.eq_nil_of_length_eq_zero c
   subst hnil
   simp at h1
   simp (disch:=omega) [abh,aj wz.eq_1,aj Bd.eq_1,h1,c1,c2,aB,H.inl,ak,H.pp,ppB]
 · obtain ⟨w1,w2⟩:=hw (by omega)
   have key:=aiM H l e o v hp K (by omega) hv w1 hbl l.length ((l.length:Int) - 1) (by omega) (by omega)
   have e0:wdT (a - K) (min l.length (b+K)) l.length=0:=by unfold wdT;rw [if_neg (by omega)]
   have e0':wdF (a - K) (min l.length (b+K)) l.length=0:=by unfold wdF;rw [if_neg (by omega)]
   rw [e0,e0'] at key
   have e1:wF l o v K=(a - K:Nat):=by unfold wF;rw [ha];unfold imax;split <;> omega
   have e2:wT l o v K=(min l.length (b+K):Nat):=by unfold wT;rw [hb];unfold jH;split <;> omega
   rw [e1,e2,aH H.f131 rfl]
   generalize (a - K:Nat)=A at *
   generalize min l.length (b+K)=B at *
   simp only [wJ] at key
   try simp at key
   simp (disch:=omega) [abh,h1,c1,c2,aB,key,H.inl,ak,H.pp,ppB]
def raF (A B h:Int):Nat→Nat→List Int
 | 0,_=>[]
 | n+1,i=>if (A≤i∧(i:Int) < B)∨(i:Int)=h then (i:Int)::raF A B h n (i+1) else raF A B h n (i+1)
theorem vk (A B h:Int):∀ (n i:Nat) (x:Int),x ∈ raF A B h n i↔((i:Int)≤x∧x < i+n)∧((A≤x∧x < B)∨x=h):=by
 intro n
 induction n with
 | zero=>intro i x;rw [raF];simp;omega
 | succ n ih =>
  intro i x
  rw [raF]
  by_cases c:(A≤i∧(i:Int) < B)∨(i:Int)=h
  · rw [if_pos c,List.mem_cons,ih (i+1) x]
    constructor
    · rintro (rfl | q)
      · exact ⟨by omega,c⟩
      · exact ⟨by omega,q.2⟩
    · rintro ⟨q1,q2⟩
      by_cases d:x=i
      · exact .inl d
      · exact .inr ⟨by omega,q2⟩
  · rw [if_neg c,ih (i+1) x]
    constructor
    · rintro ⟨q1,q2⟩;exact ⟨by omega,q2⟩
    · rintro ⟨q1,q2⟩
      refine ⟨?_,q2⟩
      by_cases d:x=i
      · rw [d] at q2;exact absurd q2 c
      · omega
theorem adY (A B h:Int):∀ (n i:Nat) (p:Int),p < i→DY p (raF A B h n i)=true:=by
 intro n
 induction n with
 | zero=>intro i p _;rfl
 | succ n ih =>
  intro i p hp
  rw [raF]
  split
  · rw [DY,ih (i+1) i (by omega)];simp [hp]
  · exact ih (i+1) p (by omega)
theorem G6:∀ (l:List Int) (p:Int),DY p l=true→∀ x ∈ l,p < x
 | [],_,_,x,hx=>by cases hx
 | y::r,p,h,x,hx=>by
  rw [DY,Bool.and_eq_true,decide_eq_true_eq] at h
  rcases List.mem_cons.1 hx with q | q
  · rw [q];exact h.1
  · have:=G6 r y h.2 x q;omega
theorem aaU:∀ (a b:List Int) (p q:Int),DY p a=true→DY q b=true→(∀ x,x ∈ a↔x ∈ b)→a=b
 | [],[],_,_,_,_,_=>rfl
 | [],y::s,_,_,_,_,h=>by have:=(h y).2 (by simp);cases this
 | x::r,[],_,_,_,_,h=>by have:=(h x).1 (by simp);cases this
 | x::r,y::s,p,q,ha,hb,h=>by
  rw [DY,Bool.and_eq_true,decide_eq_true_eq] at ha hb
  have e:x=y:=by
   rcases List.mem_cons.1 ((h x).1 (by simp)) with e | e
   · exact e
   · rcases List.mem_cons.1 ((h y).2 (by simp)) with e2 | e2
     · exact e2.symm
     · have h1:=G6 s y hb.2 x e
       have h2:=G6 r x ha.2 y e2
       omega
  subst e
  rw [aaU r s x x ha.2 hb.2 fun z=>?_]
  constructor
  · intro hz
    rcases List.mem_cons.1 ((h z).1 (by simp [hz])) with e | e
    · have:=G6 r x ha.2 z hz;omega
    · exact e
  · intro hz
    rcases List.mem_cons.1 ((h z).2 (by simp [hz])) with e | e
    · have:=G6 s x hb.2 z hz;omega
    · exact e
theorem vG {ks:List Kd} {l:List En} {o v k:Int} (hp:Vp l o v) (hk:0≤k∧k≤16):raF (wF l o v k) (wT l o v k) (hrA ks l o) l.length 0=fG ks l o v k:=by
 refine aaU _ _ (-1) (-1) (adY _ _ _ _ _ _ (by omega)) (agn hp hk) fun x=>?_
 obtain ⟨a,b,ea,eb,hab,hbn⟩:=hp.win k hk
 rw [vk,afU hp hk,aiX hp.toSzd,ea,eb]
 have hbd:=agp ks l o
 have hlt:0≤hrA ks l o→hrA ks l o < b:=by
  intro q
  obtain ⟨a',b',ha,hb,_,hbl,_,hw⟩:=hp.amD
  obtain ⟨w1,w2,w3,_⟩:=hw (by omega)
  have h1:=ajt ks l hp.toSzd o a' ⟨w2,w3⟩ (by omega) l.length 0 (-1) (by simp) (by omega)
  rw [WR hp.toSzd l.length 0 (-1) (by simp)] at h1
  change -1≤hrA ks l o∧hrA ks l o≤a' at h1
  unfold wT at eb
  rw [hb] at eb
  unfold jH at eb
  split at eb <;> omega
 constructor
 · rintro ⟨q1,q2 | q2⟩
   · exact .inr q2
   · by_cases c:x < a
     · exact .inl ⟨by omega,by omega,q2⟩
     · exact .inr ⟨by omega,by have:=hlt (by omega);omega⟩
 · rintro (⟨q1,q2,q3⟩ | q)
   · exact ⟨by have:=hlt q1;omega,.inr q3⟩
   · exact ⟨by omega,.inl q⟩
theorem agh (H:Dy C) (ks:List Kd) (ke:Bool) (cap:Int) (l:List En) (e:Bool) (o:Int) (hz:Szd l) (ht:∀ x ∈ l,0≤x.i.t∧x.i.t < ks.length) (A B:Int):∀ n i,n+i=l.length→∀ G:List Int,G.length≤i →
 pR C ⟨[(16,.int .i64 i),(15,.sl 0 1 0 G.length G.length false),(13,.int .i64 B),(12,.int .i64 A),(5,.ptr 1 0 0),(2,.int .i64 o),(1,.ro 6 (l.map eEn) e)],[(0,.cells 1 (G.map eI) true true),(1,.cells 2 [[.ro 9 (ks.map eKd) ke,.int .i64 cap]] true true)],2⟩ =
  some (.tup [.ro 1 ((G++raF A B (hrA ks l o) n i).map eI) false,.int .i64 0]):=by
 have hn:=hz.n
 have hh:=abO H.toWC ks ke cap l e o hz ht
 intro n
 induction n with
 | zero =>
  intro i hi G hG
  have h3:¬ i < l.length:=by omega
  rw [raF,List.append_nil]
  have e2:List.take G.length (List.map eI G)=List.map eI G:=List.take_of_length_le (by simp)
  simp only [pR];rw [aj nK.eq_1]
  simp (disch:=omega) [aj OO.eq_1,h3,e2]
 | succ n ih =>
  intro i hi G hG
  have h1:i < l.length:=by omega
  have hfit:(G.length+1) * 9≤35184372088832:=by omega
  rw [raF]
  generalize hrA ks l o=h at *
  have key:∀ T:Bool,((A≤i∧(i:Int) < B)∨(i:Int)=h)=(T=true)→True:=fun _ _=>trivial
  by_cases c:(A≤i∧(i:Int) < B)∨(i:Int)=h
  · rw [if_pos c]
    have this:=ih (i+1) (by omega) (G++[(i:Int)]) (by simp;omega)
    rw [List.append_assoc] at this
    generalize raF A B h n (i+1)=S at *
    by_cases d:A≤i
    · by_cases d2:(i:Int) < B
      · simp only [pR] at this ⊢;rw [aj nK.eq_1]
        simp at this
        simp (disch:=omega) [h1,d,d2,hfit,aB,H.inl,ak,H.pp,ppB,this]
      · have d3:(i:Int)=h:=by omega
        rw [← d3] at hh
        simp only [pR] at this ⊢;rw [aj nK.eq_1]
        simp at this
        simp (disch:=omega) [h1,d,d2,hh,hfit,aB,H.inl,ak,H.pp,ppB,this]
    · have d3:(i:Int)=h:=by omega
      rw [← d3] at hh
      simp only [pR] at this ⊢;rw [aj nK.eq_1]
      simp at this
      simp (disch:=omega) [h1,d,hh,hfit,aB,H.inl,ak,H.pp,ppB,this]
  · rw [if_neg c]
    have this:=ih (i+1) (by omega) G (by omega)
    have d3:¬ (i:Int)=h:=by omega
    generalize raF A B h n (i+1)=S at *
    by_cases d:A≤i
    · have d2:¬ (i:Int) < B:=by omega
      simp only [pR] at this ⊢;rw [aj nK.eq_1]
      simp at this
      simp (disch:=omega) [h1,d,d2,d3,hh,aB,H.inl,ak,H.pp,ppB,this]
    · simp only [pR] at this ⊢;rw [aj nK.eq_1]
      simp at this
      simp (disch:=omega) [h1,d,d3,hh,aB,H.inl,ak,H.pp,ppB,this]
theorem KA (H:Dy C) (ks:List Kd) (ke:Bool) (cap:Int) (hr:lg ks) (l:List En) (e:Bool) (hin:∀ x ∈ l,qC x) (hck:ckE ks cap l=0) (ht:∀ x ∈ l,0≤x.i.t∧x.i.t < ks.length) (o v k:Int) (hp:Vp l o v) (hk:0≤k∧k≤16) :
 FnW C 133 [aR ks ke cap,.ro 6 (l.map eEn) e,.int .i64 o,.int .i64 v,.int .i64 k]=some (.tup [.ro 1 ((fG ks l o v k).map eI) false,.int .i64 0]):=by
 have hn:=hp.n
 have h1:=U3 H.touN ks ke cap hr l e (by omega) hin
 rw [hck] at h1
 have h2:=TB H l e o v k hp hk
 have key:=agh H ks ke cap l e o hp.toSzd ht (wF l o v k) (wT l o v k) l.length 0 (by simp) [] (by simp)
 rw [vG hp hk,List.nil_append] at key
 generalize fG ks l o v k=S at *
 generalize wF l o v k=A at *
 generalize wT l o v k=B at *
 rw [aH H.f133 rfl]
 simp only [pR] at key
 try simp at key
 simp (disch:=omega) [agQ,h1,h2,key,H.inl,ak,H.pp,ppB]
def kY (l:List En) (a:List Int):List Int:=a.filter fun i=>match l[i.toNat]? with | some x=>!x.kn | none=>false
theorem agi (H:Dy C) (l:List En) (e f:Bool) (a:List Int) (ha:a.length≤1000000) (hin:∀ x ∈ a,0≤x∧x < l.length):∀ n i,n+i=a.length→∀ G:List Int,G.length≤i →
 zk C ⟨[(6,.int .i64 i),(5,.sl 0 1 0 G.length G.length false),(1,.ro 1 (a.map eI) f),(0,.ro 6 (l.map eEn) e)],[(0,.cells 1 (G.map eI) true true)],1⟩=some (.ro 1 ((G++kY l (a.drop i)).map eI) false):=by
 intro n
 induction n with
 | zero =>
  intro i hi G hG
  have h3:¬ i < a.length:=by omega
  have h1:a.drop i=[]:=List.drop_eq_nil_of_le (by omega)
  have e2:List.take G.length (List.map eI G)=List.map eI G:=List.take_of_length_le (by simp)
  rw [h1]
  simp only [zk];rw [aj vK.eq_1]
  simp (disch:=omega) [aj Lr.eq_1,h3,e2,kY]
 | succ n ih =>
  intro i hi G hG
  have h1:i < a.length:=by omega
  have hx:=hin _ (List.getElem_mem h1)
  obtain ⟨t,hT⟩:∃ t:Nat,a[i]=t:=⟨a[i].toNat,by omega⟩
  have htl:t < l.length:=by omega
  have hfit:(G.length+1) * 9≤35184372088832:=by omega
  rw [drop_cons h1]
  cases c:l[t].kn
  · have hu:kY l (a[i]::a.drop (i+1))=(t:Int)::kY l (a.drop (i+1)):=by
     unfold kY
     rw [List.filter_cons,hT,show (t:Int).toNat=t from rfl,List.getElem?_eq_getElem htl]
     simp [c]
    have this:=ih (i+1) (by omega) (G++[(t:Int)]) (by simp;omega)
    rw [List.append_assoc] at this
    rw [hu]
    generalize kY l (a.drop (i+1))=S at *
    simp only [zk] at this ⊢;rw [aj vK.eq_1]
    simp at this
    simp (disch:=omega) [h1,hT,htl,c,hfit,aB,H.inl,ak,H.pp,ppB,this]
  · have hu:kY l (a[i]::a.drop (i+1))=kY l (a.drop (i+1)):=by
     unfold kY
     rw [List.filter_cons,hT,show (t:Int).toNat=t from rfl,List.getElem?_eq_getElem htl]
     simp [c]
    have this:=ih (i+1) (by omega) G (by omega)
    rw [hu]
    generalize kY l (a.drop (i+1))=S at *
    simp only [zk] at this ⊢;rw [aj vK.eq_1]
    simp at this
    simp (disch:=omega) [h1,hT,htl,c,aB,H.inl,ak,H.pp,ppB,this]
theorem SN (H:Dy C) (l:List En) (e f:Bool) (a:List Int) (ha:a.length≤1000000) (hin:∀ x ∈ a,0≤x∧x < l.length):FnW C 137 [.ro 6 (l.map eEn) e,.ro 1 (a.map eI) f]=some (.ro 1 ((kY l a).map eI) false):=by
 have k:=agi H l e f a ha hin a.length 0 (by simp) [] (by simp)
 rw [List.drop_zero,List.nil_append] at k
 generalize kY l a=S at *
 rw [aH H.f137 rfl]
 simp only [zk] at k
 try simp at k
 simp (disch:=omega) [ag4,k,aB,H.inl,ak,H.pp,ppB]
structure uJ (C:aG):Prop extends Dy C where
 f135:C.fns.get 135=some abw
 f276:C.fns.get 276=some ahh
 amr:C.fns.get 426=some afx
 ah6:C.fns.get 2004=some JK
 aaw:C.fns.get 2005=some yB
 Xt:C.fns.get 2006=some Lj
theorem akL (H:uJ C) (l:List En) (e:Bool) (t:Nat) (ht:t < l.length):FnW C 276 [.int .i64 t,.rop [.ro 6 (l.map eEn) e]]=some (.bool l[t].kn):=by
 rw [aH H.f276 rfl]
 simp (disch:=omega) [ahh,ht,H.inl,ak,H.pp,ppB]
theorem am9 (H:uJ C) (G:List Int) (r:Nat) (hN:G.length≤1026) (hne:¬ G=[]) :
 RnW C 2005 [.sl 6 1 0 G.length G.length true] [(6,.cells 1 (G.map eI++List.replicate r [.int .i64 0]) true true)] 14=some (.sl 20 1 0 G.length G.length true,[(6,.cells 1 (G.map eI++List.replicate r [.int .i64 0]) true true),(20,.cells 1 (G.map eI) true true)],27):=by
 have hf:G.length * 9≤35184372088832:=by omega
 have ht:List.take G.length (G.map eI++List.replicate r [.int .i64 0])=G.map eI:=by rw [List.take_append_of_le_length (by simp)];exact List.take_of_length_le (by simp)
 have hp:0 < G.length:=List.length_pos_iff.2 hne
 have hp2:¬ G.length=0:=by omega
 have ht2:List.take G.length (G.map eI)=G.map eI:=List.take_of_length_le (by simp)
 rw [bV (args:=[.sl 6 1 0 G.length G.length true]) H.aaw rfl]
 simp (disch:=omega) [yB,hne,hf,ht,ht2,hp,hp2,aB,H.inl,ak,H.pp,ppB]
theorem X7 (i m:Nat):qO i (m+1)=(i:Int)::qO (i+1) m:=by
 unfold qO;rw [List.range_succ_eq_map,List.map_cons,List.map_map]
 refine congr (congrArg _ (by simp)) (List.map_congr_left fun j _=>?_)
 simp only [Function.comp];omega
def AtR (x:Option (AV × aK × Nat)) (S:List Int):Prop :=
 (S=[]∧∃ h n,x=some (.tup [.ro 1 [] true,.int .i64 0],h,n)) ∨
 (S≠[]∧∃ r,x=some (.tup [.sl 20 1 0 S.length S.length true,.int .i64 0],[(6,.cells 1 (S.map eI++List.replicate r [.int .i64 0]) true true),(20,.cells 1 (S.map eI) true true)],29))
theorem Y5 (H:uJ C) (N a b:Nat) (hN:N≤1026) (hb:b≤1024):∀ (m i:Nat),i+m=b→∀ G:List Int,∀ r:Nat,G.length+r=N→m≤r →
 AtR (CK C 6 (iW [.tmp 10,.tmp 11]) [.sq Gg,.bk 0 ⟨true,[15],[]⟩,.sq zM] qF ⟨[(17,.int .i64 i),(15,.sl 6 1 0 G.length N true),(13,.ptr 7 0 0)],[(6,.cells 1 (G.map eI++List.replicate r [.int .i64 0]) true true),(7,.cells 2 [[.int .i64 a,.int .i64 b]] true true)],8⟩) (G++qO i m):=by
 intro m
 induction m with
 | zero =>
  intro i hi G r hr hm
  have h3:¬ i < b:=by omega
  have h5:G.length≤N:=by omega
  have hq:G++qO i 0=G:=by simp [qO]
  rw [hq]
  by_cases hG:G=[]
  · subst hG
    refine .inl ⟨rfl,?_⟩
    have hx:∀ Hh,∃ n,RnW C 2005 [.sl 6 1 0 0 0 true] Hh 14=some (.ro 1 [] true,Hh,n):=by
     intro Hh
     rw [bV (args:=[.sl 6 1 0 0 0 true]) H.aaw rfl]
     simp (disch:=omega) [yB,aB,H.inl,ak,H.pp,ppB]
    obtain ⟨nx,hx⟩:=hx [(6,.cells 1 (List.replicate r [.int .i64 0]) true true)]
    rw [aj qF.eq_1]
    simp (disch:=omega) [aj zM.eq_1,h3,hx,H.inl,ak,H.pp,ppB]
  · have hp:0 < G.length:=List.length_pos_iff.2 hG
    refine .inr ⟨hG,r,?_⟩
    have hx:=am9 H G r (by omega) hG
    rw [aj qF.eq_1]
    simp (disch:=omega) [aj zM.eq_1,h3,h5,hp,hx,H.inl,ak,H.pp,ppB]
 | succ m ih =>
  intro i hi G r hr hm
  obtain ⟨r,rfl⟩:∃ s,r=s+1:=⟨r - 1,by omega⟩
  have h1:i < b:=by omega
  have h5:G.length+1≤N:=by omega
  have this:=ih (i+1) (by omega) (G++[(i:Int)]) r (by simp;omega) (by omega)
  rw [X7]
  rw [show G++(i:Int)::qO (i+1) m=(G++[(i:Int)])++qO (i+1) m by simp]
  have h6:List.take G.length (List.map eI G++List.replicate (r+1) [AV.int .i64 0])=List.map eI G:=by rw [List.take_left' (by simp)]
  have h7:List.drop (G.length+1) (List.map eI G++List.replicate (r+1) [AV.int .i64 0])=List.replicate r [AV.int .i64 0]:=by
   rw [List.drop_append];simp
  generalize (G++[(i:Int)])++qO (i+1) m=S at *
  rw [aj qF.eq_1]
  simp at this
  simp (disch:=omega) [h1,h5,h6,h7,aB,H.inl,ak,H.pp,ppB,this]
theorem WO (H:uJ C) (ks:List Kd) (ke:Bool) (cap:Int) (hr:lg ks) (l:List En) (e:Bool) (hin:∀ x ∈ l,qC x) (hck:ckE ks cap l=0) (ht:∀ x ∈ l,0≤x.i.t∧x.i.t < ks.length) (o v k:Int) (hp:Vp l o v) (hk:0≤k∧k≤16) :
 AtR (RnW C 2004 [aR ks ke cap,aL l e,.int .i64 o,.int .i64 v,.int .i64 k] [] 6) (fG ks l o v k):=by
 have hn:=hp.n
 have h1:=BA H.touN ks ke cap hr l e (by omega) hin
 rw [hck] at h1
 have h2:=Zm H.toJp l e o v k hp hk
 have h3:=adP H.toJp ks ke cap l e o hp.toSzd ht
 obtain ⟨a,b,ea,eb,hab,hbn⟩:=hp.win k hk
 rw [ea,eb] at h2
 unfold fG
 rw [ea,eb]
 simp only [Int.toNat_natCast]
 obtain ⟨N,hN⟩:∃ N:Nat,N=b - a+1:=⟨_,rfl⟩
 have hN2:(b:Int) - a+1=N:=by omega
 have hN3:N * 9≤35184372088832:=by omega
 have hs:=Y5 H N a b (by omega) (by omega) (b - a) a (by omega)
 rw [bV (args:=[aR ks ke cap,aL l e,.int .i64 o,.int .i64 v,.int .i64 k]) H.ah6 rfl [] 6]
 generalize hdA ks l o=h at *
 by_cases c:0≤h∧h < (a:Int)
 · rw [if_pos c]
   have:=hs [h] (b - a) (by simp;omega) (by omega)
   have hr1:N - 1=b - a:=by omega
   have hd:List.drop 1 (List.replicate N [AV.int .i64 0])=List.replicate (b - a) [AV.int .i64 0]:=by rw [List.drop_replicate,hr1]
   have hN1:1≤N:=by omega
   generalize [h]++qO a (b - a)=R at *
   simp at this
   simp (disch:=omega) [JK,h1,h2,h3,c.1,c.2,aB,hN2,hN3,hN1,hr1,this,H.inl,ak,H.pp,ppB]
 · rw [if_neg c]
   have:=hs [] N (by simp) (by omega)
   generalize []++qO a (b - a)=R at *
   simp at this
   by_cases c1:0≤h
   · have c2:¬ h < (a:Int):=fun q=>c ⟨c1,q⟩
     simp (disch:=omega) [JK,h1,h2,h3,c1,c2,aB,hN2,hN3,this,H.inl,ak,H.pp,ppB]
   · simp (disch:=omega) [JK,h1,h2,h3,c1,aB,hN2,hN3,this,H.inl,ak,H.pp,ppB]
def knB (l:List En) (x:Int):Bool:=match l[x.toNat]? with | some e=>e.kn | none=>false
def fkF (l:List En):List Int→Nat→Int
 | [],_=>-1
 | x::r,i=>if knB l x=true then i else fkF l r (i+1)
theorem amE (H:uJ C) (l:List En) (e:Bool) (x:Int) (hx:0≤x∧x < l.length):FnW C 276 [.int .i64 x,.rop [.ro 6 (l.map eEn) e]]=some (.bool (knB l x)):=by
 obtain ⟨t,rfl⟩:∃ t:Nat,x=t:=⟨x.toNat,by omega⟩
 have ht:t < l.length:=by omega
 rw [akL H l e t ht]
 unfold knB
 rw [show (t:Int).toNat=t from rfl,List.getElem?_eq_getElem ht]
theorem aes (H:uJ C) (l:List En) (e f:Bool) (a:List Int) (ha:a.length≤2000) (hin:∀ x ∈ a,0≤x∧x < l.length):∀ n i,n+i=a.length →
 yT C ⟨[(8,.int .i64 i),(7,.int .i64 a.length),(1,.fn 276 [.rop [.ro 6 (l.map eEn) e]]),(0,.ro 1 (a.map eI) f)],[],0⟩=some (.int .i64 (fkF l (a.drop i) i)):=by
 intro n
 induction n with
 | zero =>
  intro i hi
  have h3:¬ i < a.length:=by omega
  have h1:a.drop i=[]:=List.drop_eq_nil_of_le (by omega)
  rw [h1,fkF]
  simp only [yT];rw [aj vJ.eq_1]
  simp (disch:=omega) [aj Ou.eq_1,h3]
 | succ n ih =>
  intro i hi
  have h1:i < a.length:=by omega
  have hk:=amE H l e a[i] (hin _ (List.getElem_mem h1))
  rw [drop_cons h1,fkF]
  cases c:knB l a[i]
  · rw [if_neg (by simp)]
    rw [c] at hk
    have this:=ih (i+1) (by omega)
    generalize fkF l (a.drop (i+1)) (i+1)=R at *
    simp only [yT] at this ⊢;rw [aj vJ.eq_1]
    simp at this
    simp (disch:=omega) [h1,hk,aB,H.inl,ak,H.pp,ppB,this]
  · rw [if_pos rfl]
    rw [c] at hk
    simp only [yT];rw [aj vJ.eq_1]
    simp (disch:=omega) [h1,hk,aB,H.inl,ak,H.pp,ppB]
theorem Cb (H:uJ C) (l:List En) (e f:Bool) (a:List Int) (ha:a.length≤2000) (hin:∀ x ∈ a,0≤x∧x < l.length) :
 FnW C 426 [.ro 1 (a.map eI) f,.fn 276 [.rop [.ro 6 (l.map eEn) e]]]=some (.int .i64 (fkF l a 0)):=by
 have k:=aes H l e f a ha hin a.length 0 (by simp)
 rw [List.drop_zero] at k
 generalize fkF l a 0=R at *
 rw [aH H.amr rfl]
 simp only [yT] at k
 try simp at k
 simp (disch:=omega) [afx,k,H.inl,ak,H.pp,ppB]
def nkF (l:List En) (a:List Int):List Int:=a.filter fun i=>!knB l i
theorem aac (l:List En) (a:List Int) (hin:∀ x ∈ a,0≤x∧x < l.length):nkF l a=kY l a:=by
 unfold nkF kY
 refine List.filter_congr fun x hx=>?_
 have h:=hin x hx
 obtain ⟨t,rfl⟩:∃ t:Nat,x=t:=⟨x.toNat,by omega⟩
 have ht:t < l.length:=by omega
 unfold knB
 rw [show (t:Int).toNat=t from rfl,List.getElem?_eq_getElem ht]
theorem afe (l:List En):∀ (a:List Int) (i:Nat),fkF l a i=-1→nkF l a=a:=by
 intro a
 induction a with
 | nil=>intro i _;rfl
 | cons x r ih =>
  intro i h
  rw [fkF] at h
  split at h
  · omega
  · rename_i c
    have:=ih (i+1) h
    unfold nkF at this ⊢
    rw [List.filter_cons,if_pos (by simpa using c),this]
theorem aeB (l:List En):∀ (a:List Int) (i:Nat),fkF l a i≠-1→∃ k:Nat,fkF l a i=((i+k:Nat):Int)∧∃ h:k < a.length,knB l a[k]=true∧nkF l (a.take k)=a.take k:=by
 intro a
 induction a with
 | nil=>intro i h;exact absurd rfl h
 | cons x r ih =>
  intro i h
  rw [fkF] at h ⊢
  split
  · rename_i c
    exact ⟨0,by simp,by simp,by simpa using c,by simp [nkF]⟩
  · rename_i c
    rw [if_neg c] at h
    obtain ⟨k,h1,h2,h3,h4⟩:=ih (i+1) h
    refine ⟨k+1,by rw [h1];congr 1;omega,by simpa using h2,by simpa using h3,?_⟩
    rw [List.take_succ_cons]
    unfold nkF at h4 ⊢
    rw [List.filter_cons,if_pos (by simpa using c),h4]
theorem WV (l:List En) (a:List Int) (j:Nat) (h:j < a.length):nkF l (a.take (j+1))=nkF l (a.take j)++(if knB l a[j]=true then [] else [a[j]]):=by
 unfold nkF
 rw [List.take_succ_eq_append_getElem h,List.filter_append]
 congr 1
 rw [List.filter_cons]
 cases knB l a[j] <;> simp
theorem ab7 (H:uJ C) (l:List En) (e:Bool) (a:List Int) (ha:a.length≤2000) (hin:∀ x ∈ a,0≤x∧x < l.length) (XS:List (List AV)) (n:Nat) (hn:20 < n):∀ m j,m+j=a.length→∀ (c:Nat) (B:List Int),c < j→B.length=a.length→B.take c=nkF l (a.take j)→B.drop j=a.drop j →
 ∃ Z n2,20 < n2∧CK C n (iW [.tmp 4]) [.sq Pz,.bk 0 ⟨true,[5,0],[]⟩,.sq MR] vX ⟨[(6,.int .i64 j),(5,.int .i64 c),(1,.fn 276 [.rop [.ro 6 (l.map eEn) e]]),(0,.sl 20 1 0 a.length a.length true)],[(6,.cells 1 XS true true),(20,.cells 1 (B.map eI) true true)],n⟩ =
  some (.sl 20 1 0 (nkF l a).length a.length true,[(6,.cells 1 XS true true),(20,.cells 1 ((nkF l a).map eI++Z) true true)],n2):=by
 have hn6:6 < n:=by omega
 intro m
 induction m with
 | zero =>
  intro j hj c B hc hB h1 h2
  have h3:¬ j < a.length:=by omega
  have h4:a.take j=a:=List.take_of_length_le (by omega)
  rw [h4] at h1
  have h5:(nkF l a).length=c:=by rw [← h1,List.length_take];omega
  have h6:List.take c (B.map eI)=(nkF l a).map eI:=by rw [← List.map_take,h1]
  have h7:c≤a.length:=by omega
  have hca:c < a.length:=by omega
  have hpa:0 < a.length:=by omega
  have h11:List.drop a.length (B.map eI)=[]:=List.drop_eq_nil_of_le (by simp;omega)
  have h8:¬ a.length - c=0:=by omega
  have h9:c+(a.length - c)≤B.length:=by omega
  have h10:List.drop (c+(a.length - c)) (B.map eI)=[]:=List.drop_eq_nil_of_le (by simp;omega)
  refine ⟨List.replicate (a.length - c) [.int .i64 0],n+8,by omega,?_⟩
  rw [h5,aj vX.eq_1]
  simp (disch:=omega) [aj MR.eq_1,h3,h6,h7,hca,hpa,h11,h8,h9,h10,hn,hn6,hB,H.inl,ak,H.pp,ppB]
 | succ m ih =>
  intro j hj c B hc hB h1 h2
  have hjl:j < a.length:=by omega
  have hjB:j < B.length:=by omega
  have hcB:c < B.length:=by omega
  have hca:c < a.length:=by omega
  have hv:B[j]=a[j]:=by
   have q:=congrArg (·[0]?) h2
   simp only [List.getElem?_drop,Nat.add_zero,List.getElem?_eq_getElem hjB,List.getElem?_eq_getElem hjl,Option.some.injEq] at q
   exact q
  have hk:=amE H l e a[j] (hin _ (List.getElem_mem hjl))
  have h2':B.drop (j+1)=a.drop (j+1):=by
   have:=congrArg (List.drop 1) h2
   simpa [List.drop_drop] using this
  have ht:=WV l a j hjl
  cases c1:knB l a[j]
  · rw [c1] at hk ht
    obtain ⟨Z,n2,hn2,this⟩:=ih (j+1) (by omega) (c+1) (B.set c a[j]) (by omega) (by simpa using hB) (by
     rw [ht,← h1,if_neg (by simp),List.take_succ_eq_append_getElem (by simpa using hcB)]
     rw [List.take_set_of_le (by omega)];simp) (by rw [List.drop_set_of_lt (by omega)];exact h2')
    refine ⟨Z,n2,hn2,?_⟩
    rw [aj vX.eq_1]
    simp at this
    simp (disch:=omega) [hjl,hjB,hcB,hca,hv,hk,hn,hn6,hB,aB,H.inl,ak,H.pp,ppB,this]
  · rw [c1] at hk ht
    obtain ⟨Z,n2,hn2,this⟩:=ih (j+1) (by omega) c B (by omega) hB (by rw [ht,h1];simp) h2'
    refine ⟨Z,n2,hn2,?_⟩
    rw [aj vX.eq_1]
    simp at this
    simp (disch:=omega) [hjl,hjB,hcB,hca,hv,hk,hn,hn6,hB,aB,H.inl,ak,H.pp,ppB,this]
theorem Nb (H:uJ C) (l:List En) (e:Bool) (a:List Int) (hne:a≠[]) (ha:a.length≤2000) (hin:∀ x ∈ a,0≤x∧x < l.length) (XS:List (List AV)) (n:Nat) (hn:20 < n) :
 ∃ Z n2,20 < n2∧RnW C 2006 [.sl 20 1 0 a.length a.length true,.fn 276 [.rop [.ro 6 (l.map eEn) e]]] [(6,.cells 1 XS true true),(20,.cells 1 (a.map eI) true true)] n =
  some (.sl 20 1 0 (nkF l a).length a.length true,[(6,.cells 1 XS true true),(20,.cells 1 ((nkF l a).map eI++Z) true true)],n2):=by
 have hi:=Cb H l e true a ha hin
 have hn6:6 < n:=by omega
 have htk:List.take a.length (a.map eI)=a.map eI:=List.take_of_length_le (by simp)
 rw [bV (args:=[.sl 20 1 0 a.length a.length true,.fn 276 [.rop [.ro 6 (l.map eEn) e]]]) H.Xt rfl]
 by_cases c:fkF l a 0=-1
 · rw [c] at hi
   rw [afe l a 0 c]
   refine ⟨[],n+9,by omega,?_⟩
   simp (disch:=omega) [Lj,hi,htk,H.inl,ak,H.pp,ppB]
 · obtain ⟨k,h1,h2,h3,h4⟩:=aeB l a 0 c
   rw [Nat.zero_add] at h1
   rw [h1] at hi
   have hkn:¬ (k:Int)=-1:=by omega
   obtain ⟨Z,n2,hn2,this⟩:=ab7 H l e a ha hin XS n hn (a.length - (k+1)) (k+1) (by omega) k a (by omega) rfl (by
    rw [WV l a k h2,h4,if_pos h3,List.append_nil]) rfl
   refine ⟨Z,n2,hn2,?_⟩
   simp at this
   simp (disch:=omega) [Lj,hi,htk,hkn,hn,hn6,aB,H.inl,ak,H.pp,ppB,this]
theorem Vk (H:uJ C) (ks:List Kd) (ke:Bool) (cap:Int) (hr:lg ks) (l:List En) (e:Bool) (hin:∀ x ∈ l,qC x) (hck:ckE ks cap l=0) (ht:∀ x ∈ l,0≤x.i.t∧x.i.t < ks.length) (o v k:Int) (hp:Vp l o v) (hk:0≤k∧k≤16) :
 FnW C 135 [aR ks ke cap,aL l e,.int .i64 o,.int .i64 v,.int .i64 k]=some (.tup [.ro 1 ((kY l (fG ks l o v k)).map eI) true,.int .i64 0]):=by
 have h1:=WO H ks ke cap hr l e hin hck ht o v k hp hk
 have hal:=(wH (ks:=ks) hp hk).1
 have hai:∀ x ∈ fG ks l o v k,0≤x∧x < l.length:=by
  intro x hx
  rw [← vG hp hk,vk] at hx
  omega
 rw [← aac l _ hai]
 rw [aH H.f135 rfl]
 rcases h1 with ⟨hS,h,n,h1⟩ | ⟨hS,r,h1⟩
 · rw [hS]
   have hx:=Cb H l e true [] (by simp) (by simp)
   have hd:∀ h n,∃ n2,RnW C 2006 [.ro 1 [] true,.fn 276 [.rop [.ro 6 (l.map eEn) e]]] h n=some (.ro 1 [] true,h,n2):=by
    intro h n
    rw [bV (args:=[.ro 1 [] true,.fn 276 [.rop [.ro 6 (l.map eEn) e]]]) H.Xt rfl]
    simp [fkF] at hx
    exact ⟨n+9,by simp (disch:=omega) [Lj,hx,H.inl,ak,H.pp,ppB]⟩
   have he:=PN H.toWq [] true (by simp)
   simp at he
   simp only [aL,aR] at h1
   simp [nkF]
   obtain ⟨n2,hd⟩:=hd h (n+1+1+1+1+1+1+1+1+1+1)
   simp (disch:=omega) [abw,aL,aR,h1,hd,he,H.inl,ak,H.pp,ppB]
 · obtain ⟨Z,n2,hn2,hd⟩:=Nb H l e (fG ks l o v k) hS (by omega) hai ((fG ks l o v k).map eI++List.replicate r [.int .i64 0]) 39 (by omega)
   have he:=PN H.toWq (nkF l (fG ks l o v k)) (decide ((fG ks l o v k).length=(nkF l (fG ks l o v k)).length)) (by
    have:(nkF l (fG ks l o v k)).length≤(fG ks l o v k).length:=List.length_filter_le ..
    omega)
   simp only [aL,aR] at h1
   generalize fG ks l o v k=S at *
   generalize nkF l S=K at *
   have htk:List.take K.length (K.map eI++Z)=K.map eI:=List.take_left' (by simp)
   simp (disch:=omega) [abw,aL,aR,h1,hd,htk,he,H.inl,ak,H.pp,ppB]
end Go.D
end
section
namespace Go.D
open Go Go.Pav Go.Pw P
set_option maxHeartbeats 1000000
attribute [-simp] List.getElem_cons_drop
variable {C:aG}
structure adU (C:aG):Prop extends uJ C where
 Xi:C.fns.get 4001=some JX
 abN:C.fns.get 4002=some yB
theorem Cj (K:List Int):(K.map eI).all lq=true:=by
 simp [List.all_map,List.all_eq_true,lq,gB]
def exR (nid:Nat) (K:List Int):AV × dO:=if K=[] then (.ro 1 [] true,[]) else (.sl nid 1 0 K.length K.length true,[(nid,some (.cells 1 (K.map eI) true true))])
theorem aal (H:adU C) (nid:Nat) (K:List Int) (e:Bool) (hn:K.length≤2000):bg (RnW C) 4002 [.ro 1 (K.map eI) e] nid=some (exR nid K):=by
 unfold exR
 by_cases c:K=[]
 · subst c
   have hr:∃ m,RnW C 4002 [.ro 1 [] e] [] 0=some (.ro 1 [] true,[],m):=by
    rw [bV H.abN rfl]
    simp (disch:=omega) [yB,aB,H.inl,ak,H.pp,ppB]
   obtain ⟨m,hr⟩:=hr
   unfold bg
   rw [List.map_nil,hr]
   simp [ob,gW,Pav.get,fE,hand,om]
 · rw [if_neg c]
   have h2:K.length * 9≤35184372088832:=by omega
   have hT:List.take K.length (List.map eI K)=List.map eI K:=List.take_of_length_le (by simp)
   have hp:0 < K.length:=List.length_pos_iff.2 c
   have hp2:¬ K.length=0:=by omega
   have hr:∃ b m,RnW C 4002 [.ro 1 (K.map eI) e] [] 0=some (.sl b 1 0 K.length K.length true,[(b,.cells 1 (K.map eI) true true)],m):=by
    rw [bV H.abN rfl]
    simp (disch:=omega) [yB,c,h2,hT,hp,hp2,aB,H.inl,ak,H.pp,ppB]
   obtain ⟨b,m,hr⟩:=hr
   unfold bg
   rw [hr]
   simp [ob,gW,Pav.get,fE,hand,om]
def unR (nid:Nat) (K:List Int):AV × dO:=if K=[] then (.tup [.ro 1 [] true,.int .i64 0],[]) else (.tup [.sl nid 1 0 K.length K.length true,.int .i64 0],[(nid,some (.cells 1 (K.map eI) true true))])
theorem Vr (H:adU C) (ks:List Kd) (ke:Bool) (cap:Int) (hr:lg ks) (l:List En) (e:Bool) (hin:∀ x ∈ l,qC x) (hck:ckE ks cap l=0) (ht:∀ x ∈ l,0≤x.i.t∧x.i.t < ks.length) (o v k:Int) (hp:Vp l o v) (hk:0≤k∧k≤16) (nid:Nat) :
 bg (RnW C) 4001 [aR ks ke cap,aL l e,.int .i64 o,.int .i64 v,.int .i64 k] nid=some (unR nid (kY l (fG ks l o v k))):=by
 have h1:=WO H.touJ ks ke cap hr l e hin hck ht o v k hp hk
 have hal:=(wH (ks:=ks) hp hk).1
 have hai:∀ x ∈ fG ks l o v k,0≤x∧x < l.length:=by
  intro x hx
  rw [← vG hp hk,vk] at hx
  omega
 rw [← aac l _ hai]
 rcases h1 with ⟨hS,h,n,h1⟩ | ⟨hS,r,h1⟩
 · rw [hS]
   have hx:=Cb H.touJ l e true [] (by simp) (by simp)
   have hd:∀ h n,∃ n2,RnW C 2006 [.ro 1 [] true,.fn 276 [.rop [.ro 6 (l.map eEn) e]]] h n=some (.ro 1 [] true,h,n2):=by
    intro h n
    rw [bV (args:=[.ro 1 [] true,.fn 276 [.rop [.ro 6 (l.map eEn) e]]]) H.Xt rfl]
    simp [fkF] at hx
    exact ⟨n+9,by simp (disch:=omega) [Lj,hx,H.inl,ak,H.pp,ppB]⟩
   have he:=fun nid=>aal H nid [] true (by simp)
   simp [exR] at he
   simp only [aL,aR] at h1
   obtain ⟨n2,hd⟩:=hd h (n+1+1+1+1+1+1+1+1+1+1)
   have hrun:∃ q m,RnW C 4001 [aR ks ke cap,aL l e,.int .i64 o,.int .i64 v,.int .i64 k] [] 0=some (.tup [.ro 1 [] true,.int .i64 0],q,m):=by
    rw [bV H.Xi rfl]
    simp (disch:=omega) [JX,aL,aR,h1,hd,he,H.inl,ak,H.pp,ppB]
   obtain ⟨q,m,hrun⟩:=hrun
   unfold bg
   rw [hrun]
   simp [unR,nkF,ob,gW,dV,Pav.get,fE,hand,iq,om]
 · obtain ⟨Z,n2,hn2,hd⟩:=Nb H.touJ l e (fG ks l o v k) hS (by omega) hai ((fG ks l o v k).map eI++List.replicate r [.int .i64 0]) 39 (by omega)
   have he:=fun nid=>aal H nid (nkF l (fG ks l o v k)) (decide ((fG ks l o v k).length=(nkF l (fG ks l o v k)).length)) (by
    have:(nkF l (fG ks l o v k)).length≤(fG ks l o v k).length:=List.length_filter_le ..
    omega)
   simp only [aL,aR] at h1
   generalize fG ks l o v k=S at *
   generalize nkF l S=K at *
   have htk:List.take K.length (K.map eI++Z)=K.map eI:=List.take_left' (by simp)
   by_cases c:K=[]
   · subst c
     simp [exR] at he
     simp at hd htk
     have hrun:∃ q m,RnW C 4001 [aR ks ke cap,aL l e,.int .i64 o,.int .i64 v,.int .i64 k] [] 0=some (.tup [.ro 1 [] true,.int .i64 0],q,m):=by
      rw [bV H.Xi rfl]
      simp (disch:=omega) [JX,aL,aR,h1,hd,htk,he,H.inl,ak,H.pp,ppB]
     obtain ⟨q,m,hrun⟩:=hrun
     unfold bg
     rw [hrun]
     simp [unR,ob,gW,dV,Pav.get,fE,hand,iq,om]
   · have hb:=Cj K
     have hq6:¬ 6=n2:=by omega
     have hq20:¬ 20=n2:=by omega
     have hl6:¬ n2≤6:=by omega
     have hl20:¬ n2≤20:=by omega
     simp only [exR,if_neg c] at he
     have hrun:∃ m,RnW C 4001 [aR ks ke cap,aL l e,.int .i64 o,.int .i64 v,.int .i64 k] [] 0=some (.tup [.sl n2 1 0 K.length K.length true,.int .i64 0],[(6,.cells 1 (S.map eI++List.replicate r [.int .i64 0]) true true),(20,.cells 1 (K.map eI++Z) true true),(n2,.cells 1 (K.map eI) true true)],m):=by
      rw [bV H.Xi rfl]
      simp (disch:=omega) [JX,aL,aR,h1,hd,htk,he,hb,hq6,hq20,hl6,hl20,H.inl,ak,H.pp,ppB]
     obtain ⟨m,hrun⟩:=hrun
     unfold bg
     rw [hrun]
     simp [unR,c,hq6,hq20,ob,gW,dV,Pav.get,fE,hand,iq,om]
end Go.D
end
section
namespace Go.D
open Go Go.Pav Go.Pw P
attribute [-simp] List.getElem_cons_drop
variable {C:aG}
structure Ht where
 k:Int
 s:Int
def eHt (x:Ht):List AV:=[.int .u64 x.k,.int .i64 x.s]
def Jc (k:Int):List Ht→Nat→Int
 | [],_=>-1
 | x::r,i=>if x.k=k then i else Jc k r (i+1)
def qM (ks:List Kd) (i:It) (l:List Ht):Int:=match l.find? (fun x=>decide (x.k=i.k)) with
 | some x=>x.s
 | none=>match ks[i.t.toNat]? with | some k=>k.b | none=>0
theorem ZH (k:Int):∀ (l:List Ht) (i:Nat),(l.find? (fun x=>decide (x.k=k))=none∧Jc k l i=-1)∨∃ (j:Nat) (h:j < l.length),Jc k l i=((i+j:Nat):Int)∧l.find? (fun x=>decide (x.k=k))=some l[j]:=by
 intro l
 induction l with
 | nil=>intro i;exact .inl ⟨rfl,rfl⟩
 | cons x r ih =>
  intro i
  rw [Jc,List.find?_cons]
  by_cases c:x.k=k
  · exact .inr ⟨0,by simp,by simp [c]⟩
  · simp only [c,decide_false,if_false]
    rcases ih (i+1) with ⟨h,h'⟩ | ⟨j,h1,h2,h3⟩
    · exact .inl ⟨h,h'⟩
    · exact .inr ⟨j+1,by simpa using h1,by rw [h2];congr 1;omega,by simpa using h3⟩
structure Iq (C:aG):Prop extends tH C where
 amR:C.fns.get 351=some Yz
 ang:C.fns.get 465=some aeU
 ama:C.fns.get 466=some ad9
 amy:C.fns.get 467=some acZ
theorem afK (H:Iq C) (x:Ht) (i:It):FnW C 467 [.agg (eHt x),.rop (cIt i)]=some (.bool (decide (x.k=i.k))):=by
 rw [aH H.amy rfl]
 by_cases c:x.k=i.k
 · simp (disch:=omega) [acZ,eHt,c,H.inl,ak,H.pp,ppB]
 · simp (disch:=omega) [acZ,eHt,c,H.inl,ak,H.pp,ppB]
theorem acL (H:Iq C) (l:List Ht) (e:Bool) (hl:l.length≤1000000) (it:It):∀ n i,n+i=l.length →
 zu C ⟨[(8,.int .i64 i),(7,.int .i64 l.length),(1,.fn 467 [.rop (cIt it)]),(0,.ro 2 (l.map eHt) e)],[],0⟩=some (.int .i64 (Jc it.k (l.drop i) i)):=by
 intro n
 induction n with
 | zero =>
  intro i hi
  have h3:¬ i < l.length:=by omega
  have h1:l.drop i=[]:=List.drop_eq_nil_of_le (by omega)
  rw [h1,Jc]
  simp only [zu];rw [aj wC.eq_1]
  simp (disch:=omega) [aj NQ.eq_1,h3]
 | succ n ih =>
  intro i hii
  have h1:i < l.length:=by omega
  have hk:=afK H l[i] it
  simp only [eHt,cIt] at hk
  rw [drop_cons h1,Jc]
  by_cases c:l[i].k=it.k
  · rw [if_pos c]
    rw [decide_eq_true c] at hk
    simp only [zu];rw [aj wC.eq_1]
    simp (disch:=omega) [h1,hk,eHt,ak,ppB,aB,H.inl,H.pp]
  · rw [if_neg c]
    rw [decide_eq_false c] at hk
    have this:=ih (i+1) (by omega)
    generalize Jc it.k (l.drop (i+1)) (i+1)=R at *
    simp only [zu] at this ⊢;rw [aj wC.eq_1]
    simp at this
    simp (disch:=omega) [h1,hk,eHt,ak,ppB,aB,H.inl,H.pp,this]
theorem akx (H:Iq C) (l:List Ht) (e:Bool) (hl:l.length≤1000000) (it:It) :
 FnW C 466 [.ro 2 (l.map eHt) e,.fn 467 [.rop (cIt it)]]=some (.int .i64 (Jc it.k l 0)):=by
 have k:=acL H l e hl it l.length 0 (by simp)
 rw [List.drop_zero] at k
 generalize Jc it.k l 0=R at *
 rw [aH H.ama rfl]
 simp only [zu] at k
 try simp at k
 simp (disch:=omega) [ad9,k,H.inl,ak,H.pp,ppB]
abbrev aF (ks:List Kd) (ke:Bool) (a b c d:Int):AV:=.agg [.ro 9 (ks.map eKd) ke,.int .i64 a,.int .i64 b,.int .i64 c,.int .i64 d]
theorem Ov (H:Iq C) (ks:List Kd) (ke:Bool) (a b c d:Int) (it:It) (ht:0≤it.t∧it.t≤255) (hk:ks.length≤1000) (l:List Ht) (e:Bool) (hl:l.length≤1000000) :
 FnW C 351 [aF ks ke a b c d,eIt it,.ro 2 (l.map eHt) e]=some (.int .i64 (qM ks it l)):=by
 have h1:=akx H l e hl it
 rw [aH H.amR rfl]
 obtain ⟨t,ht⟩:∃ t:Nat,it.t=t:=⟨it.t.toNat,by omega⟩
 simp only [cIt,ht] at h1
 unfold qM
 rcases ZH it.k l 0 with ⟨h2,h3⟩ | ⟨j,hj,h2,h3⟩
 · rw [h3] at h1
   rw [h2]
   rw [ht,Int.toNat_natCast]
   by_cases c:t < ks.length
   · rw [List.getElem?_eq_getElem c]
     simp (disch:=omega) [Yz,h1,ht,c,aB,H.inl,ak,H.pp,ppB]
   · rw [List.getElem?_eq_none (by omega)]
     simp (disch:=omega) [Yz,h1,ht,c,aB,H.inl,ak,H.pp,ppB]
 · rw [h2] at h1
   rw [h3]
   have h4:(0:Int)≤j:=by omega
   rw [Nat.zero_add] at h1
   simp (disch:=omega) [Yz,h1,hj,h4,ht,eHt,aB,H.inl,ak,H.pp,ppB]
theorem Va (H:Iq C) (ks:List Kd) (ke:Bool) (a b c d:Int) (it:It) (ht:0≤it.t∧it.t≤255) (hk:ks.length≤1000) (l:List Ht) (e:Bool) (hl:l.length≤1000000):∀ n i,n+i=l.length →
 yZ C ⟨[(7,.int .i64 i),(4,.ptr 0 0 0),(3,.ptr 1 0 0),(2,.ro 2 (l.map eHt) e)],[(0,.cells 4 [cIt it] true true),(1,.cells 5 [[.ro 9 (ks.map eKd) ke,.int .i64 a,.int .i64 b,.int .i64 c,.int .i64 d]] true true)],2⟩=some (.int .i64 (qM ks it (l.drop i))):=by
 intro n
 induction n with
 | zero =>
  intro i hi
  have h3:¬ i < l.length:=by omega
  have h1:l.drop i=[]:=List.drop_eq_nil_of_le (by omega)
  rw [h1,qM,List.find?_nil]
  obtain ⟨t,ht⟩:∃ t:Nat,it.t=t:=⟨it.t.toNat,by omega⟩
  rw [ht,Int.toNat_natCast]
  simp only [yZ];rw [aj wu.eq_1]
  by_cases c:t < ks.length
  · rw [List.getElem?_eq_getElem c]
    simp (disch:=omega) [aj D9.eq_1,h3,ht,c,aB]
  · rw [List.getElem?_eq_none (by omega)]
    simp (disch:=omega) [aj D9.eq_1,h3,ht,c,aB]
 | succ n ih =>
  intro i hii
  have h1:i < l.length:=by omega
  rw [drop_cons h1,qM,List.find?_cons]
  by_cases c:l[i].k=it.k
  · simp only [c,decide_true]
    simp only [yZ];rw [aj wu.eq_1]
    simp (disch:=omega) [h1,c,eHt,ak,ppB,aB,H.inl,H.pp]
  · simp only [c,decide_false]
    have this:=ih (i+1) (by omega)
    rw [qM] at this
    generalize (match (l.drop (i+1)).find? (fun x=>decide (x.k=it.k)) with
     | some x=>x.s
     | none=>match ks[it.t.toNat]? with | some k=>k.b | none=>0)=R at *
    simp only [yZ] at this ⊢;rw [aj wu.eq_1]
    simp at this
    simp (disch:=omega) [h1,c,eHt,ak,ppB,aB,H.inl,H.pp,this]
theorem aa9 (H:Iq C) (ks:List Kd) (ke:Bool) (a b c d:Int) (it:It) (ht:0≤it.t∧it.t≤255) (hk:ks.length≤1000) (l:List Ht) (e:Bool) (hl:l.length≤1000000) :
 FnW C 465 [aF ks ke a b c d,eIt it,.ro 2 (l.map eHt) e]=some (.int .i64 (qM ks it l)):=by
 have k:=Va H ks ke a b c d it ht hk l e hl l.length 0 (by simp)
 rw [List.drop_zero] at k
 generalize qM ks it l=R at *
 rw [aH H.ang rfl]
 simp only [yZ] at k
 try simp at k
 simp (disch:=omega) [aeU,k,H.inl,ak,H.pp,ppB]
end Go.D
end
section
namespace Go.D
open Go Go.Pav Go.Pw P
set_option maxHeartbeats 1000000
attribute [-simp] List.getElem_cons_drop
variable {C:aG}
structure Dk (C:aG):Prop extends uN C where
 ana:C.fns.get 464=some Gx
 f318:C.fns.get 318=some QZ
 f176:C.fns.get 176=some QC
def I9 (ks:List Kd) (cap b c d:Int):Int :=
 if yD ks cap=false then 7 else if b < 1∨2147483648 < b∨c < 0∨16 < c∨d < 1∨2305843009213693952 < d then 1 else 0
theorem aee (H:Dk C) (ks:List Kd) (ke:Bool) (cap b c d:Int) (hr:lg ks):FnW C 464 [aF ks ke cap b c d]=some (.int .i64 (I9 ks cap b c d)):=by
 have h:=Qi H.touN ks ke cap hr
 rw [aH H.ana rfl]
 unfold I9
 simp only [aR] at h
 by_cases q:yD ks cap=true
 · rw [if_neg (by simp [q])]
   simp [q] at h
   by_cases c1:b < 1
   · simp (disch:=omega) [Gx,h,c1,aB,H.inl,ak,H.pp,ppB]
   · by_cases c2:2147483648 < b
     · simp (disch:=omega) [Gx,h,c1,c2,aB,H.inl,ak,H.pp,ppB]
     · by_cases c3:c < 0
       · simp (disch:=omega) [Gx,h,c1,c2,c3,aB,H.inl,ak,H.pp,ppB]
       · by_cases c4:16 < c
         · simp (disch:=omega) [Gx,h,c1,c2,c3,c4,aB,H.inl,ak,H.pp,ppB]
         · by_cases c5:d < 1
           · simp (disch:=omega) [Gx,h,c1,c2,c3,c4,c5,aB,H.inl,ak,H.pp,ppB]
           · by_cases c6:2305843009213693952 < d
             · simp (disch:=omega) [Gx,h,c1,c2,c3,c4,c5,c6,aB,H.inl,ak,H.pp,ppB]
             · simp (disch:=omega) [Gx,h,c1,c2,c3,c4,c5,c6,aB,H.inl,ak,H.pp,ppB]
 · have q':yD ks cap=false:=by simpa using q
   rw [if_pos q']
   simp [q'] at h
   simp (disch:=omega) [Gx,h,aB,H.inl,ak,H.pp,ppB]
abbrev aA (k d:Int):AV:=.agg [.int .u64 k,.int .i64 d]
def anE (k d:Int):Int:=if d < 0∨2305843009213693952 < d∨(k=0∧0 < d) then 1 else 0
theorem Gn (H:Dk C) (k d:Int):FnW C 318 [aA k d]=some (.int .i64 (anE k d)):=by
 rw [aH H.f318 rfl]
 unfold anE
 by_cases c1:d < 0
 · simp (disch:=omega) [QZ,c1,aB,H.inl,ak,H.pp,ppB]
 · by_cases c2:2305843009213693952 < d
   · simp (disch:=omega) [QZ,c1,c2,aB,H.inl,ak,H.pp,ppB]
   · by_cases c3:k=0
     · by_cases c4:0 < d
       · simp (disch:=omega) [QZ,c1,c2,c3,c4,aB,H.inl,ak,H.pp,ppB]
       · simp (disch:=omega) [QZ,c1,c2,c3,c4,aB,H.inl,ak,H.pp,ppB]
     · simp (disch:=omega) [QZ,c1,c2,c3,aB,H.inl,ak,H.pp,ppB]
theorem Dn (H:Dk C) (k d:Int) (hk:0≤k):FnW C 176 [aA k d]=some (.int .i64 (anE k d)):=by
 rw [aH H.f176 rfl]
 unfold anE
 by_cases c3:k=0
 · subst c3
   by_cases c4:d=0
   · subst c4
     simp (disch:=omega) [QC,aB,H.inl,ak,H.pp,ppB]
   · have e:(d < 0∨2305843009213693952 < d∨((0:Int)=0∧0 < d)):=by omega
     rw [if_pos e]
     simp (disch:=omega) [QC,c4,aB,H.inl,ak,H.pp,ppB]
 · have c0:0 < k:=by omega
   by_cases c1:0≤d
   · by_cases c2:d≤2305843009213693952
     · rw [if_neg (by omega)]
       simp (disch:=omega) [QC,c0,c1,c2,c3,aB,H.inl,ak,H.pp,ppB]
     · rw [if_pos (by omega)]
       simp (disch:=omega) [QC,c0,c1,c2,c3,aB,H.inl,ak,H.pp,ppB]
   · rw [if_pos (by omega)]
     simp (disch:=omega) [QC,c0,c1,c3,aB,H.inl,ak,H.pp,ppB]
def mZ (ks:List Kd) (cap b c d:Int) (l:List En) (k t:Int) (E:Int):Int :=
 if I9 ks cap b c d≠0 then I9 ks cap b c d else if ckE ks cap l≠0 then ckE ks cap l else if E≠0 then E else if anE k t≠0 then anE k t else if 0 < k∧fJ k 0 l < 0 then 11 else 0
structure ahE (C:aG):Prop extends Dk C where
 f344:C.fns.get 344=some IX
theorem Ju (H:ahE C) (ks:List Kd) (ke:Bool) (cap b c d:Int) (hr:lg ks) (l:List En) (e:Bool) (hl:l.length≤1000000) (hs:∀ x ∈ l,qC x) (k t:Int) (hk:0≤k) (T:List (List AV)) (te:Bool) (i E:Int)
 (htab:FnW C 201 [.ro 2 T te,.int .i64 d]=some (.tup [.int .i64 i,.int .i64 E])):FnW C 344 [aF ks ke cap b c d,aL l e,aA k t,.ro 2 T te]=some (.int .i64 (mZ ks cap b c d l k t E)):=by
 have h1:=aee H.toDk ks ke cap b c d hr
 have h2:=BA H.toDk.touN ks ke cap hr l e hl hs
 have h3:=Gn H.toDk k t
 have h4:=find_ok H.toDk.touN.tokU l e k hl
 rw [aH H.f344 rfl]
 unfold mZ
 simp only [aF,aR,aL,aA] at h1 h2 h3 h4
 generalize I9 ks cap b c d=V at *
 generalize ckE ks cap l=K at *
 generalize anE k t=A at *
 generalize fJ k 0 l=F at *
 by_cases c1:V=0
 · subst c1
   by_cases c2:K=0
   · subst c2
     by_cases c3:E=0
     · subst c3
       by_cases c4:A=0
       · subst c4
         by_cases c5:k=0
         · subst c5
           simp (disch:=omega) [IX,h1,h2,h3,h4,htab,aB,H.inl,ak,H.pp,ppB]
         · have c6:0 < k:=by omega
           by_cases c7:F < 0
           · have c8:¬ 0≤F:=by omega
             simp (disch:=omega) [IX,h1,h2,h3,h4,htab,c5,c6,c7,c8,aB,H.inl,ak,H.pp,ppB]
           · have c8:0≤F:=by omega
             simp (disch:=omega) [IX,h1,h2,h3,h4,htab,c5,c6,c7,c8,aB,H.inl,ak,H.pp,ppB]
       · simp (disch:=omega) [IX,h1,h2,h3,htab,c4,aB,H.inl,ak,H.pp,ppB]
     · simp (disch:=omega) [IX,h1,h2,htab,c3,aB,H.inl,ak,H.pp,ppB]
   · simp (disch:=omega) [IX,h1,h2,c2,aB,H.inl,ak,H.pp,ppB]
 · simp (disch:=omega) [IX,h1,c1,aB,H.inl,ak,H.pp,ppB]
end Go.D
end
section
namespace Go.D
open Go Go.Pav Go.Pw P
set_option maxHeartbeats 1000000
attribute [-simp] List.getElem_cons_drop
variable {C:aG}
structure yc (C:aG):Prop extends jf C where
 f322:C.fns.get 322=some aeS
 f323:C.fns.get 323=some aeE
 f313:C.fns.get 313=some aer
 f161:C.fns.get 161=some abg
 f312:C.fns.get 312=some aeM
 f314:C.fns.get 314=some Zh
 f319:C.fns.get 319=some abQ
def clF (l:List En) (v x:Int):Int:=if dI l v < x then dI l v else if x < 0 then 0 else x
def eY (l:List En) (v k d:Int):Int:=if k=0 then 0 else clF l v (top l (fJ k 0 l).toNat+d)
theorem Szd.b {l:List En} (hz:Szd l):SzB l:=fun x hx=>by have:=hz.s x hx;omega
theorem Szd.aiT {l:List En} (hz:Szd l):0≤sm l∧sm l≤4611686018427387904:=⟨hz.nn,hz.t⟩
theorem Jt (H:yc C) (l:List En) (e:Bool) (hz:Szd l) (v:Int) (hv:1≤v∧v≤2147483648):FnW C 322 [aL l e,.int .i64 v]=some (.int .i64 0):=by
 have h1:=uw H.tojf l e (by have:=hz.n;omega) hz.b
 rw [C9 hz] at h1
 have v1:¬ v < 1:=by omega
 have v2:¬ 2147483648 < v:=by omega
 rw [aH H.f322 rfl]
 simp only [aL] at h1
 simp (disch:=omega) [aeS,aL,h1,v1,v2,aB,H.inl,ak,H.pp,ppB]
theorem acj (H:yc C) (l:List En) (e:Bool) (hz:Szd l) (v:Int) (hv:1≤v∧v≤2147483648):FnW C 312 [.ro 6 (l.map eEn) e,.int .i64 v]=some (.int .i64 0):=by
 have h1:=Jf H.tojf l e (by have:=hz.n;omega) hz.b
 rw [C9 hz] at h1
 have v1:¬ v < 1:=by omega
 have v2:¬ 2147483648 < v:=by omega
 rw [aH H.f312 rfl]
 simp (disch:=omega) [aeM,h1,v1,v2,aB,H.inl,ak,H.pp,ppB]
theorem YK (H:yc C) (l:List En) (e:Bool) (hz:Szd l) (v:Int) (hv:1≤v∧v≤2147483648) (x:Int):FnW C 313 [aL l e,.int .i64 v,.int .i64 x]=some (.tup [.int .i64 (clF l v x),.int .i64 0]):=by
 have h1:=Jt H l e hz v hv
 have h2:=nH H.tokU l e (by have:=hz.n;omega) hz.b
 rw [hz.tot] at h2
 have h3:=hz.aiT
 rw [aH H.f313 rfl]
 simp only [aL] at h1 h2
 have hcl:clF l v x=imax 0 (jH x (sm l - v)):=by
  unfold clF dI imax jH
  repeat' split
  all_goals omega
 rw [hcl]
 simp (disch:=omega) [aer,aL,h1,h2,aB,H.inl,ak,H.pp,ppB]
theorem Yl (H:yc C) (l:List En) (e:Bool) (hz:Szd l) (v:Int) (hv:1≤v∧v≤2147483648) (x:Int):FnW C 314 [.ro 6 (l.map eEn) e,.int .i64 v,.int .i64 x]=some (.int .i64 (clF l v x)):=by
 have h3:=hz.aiT
 have h1:=zi H.tojf l e hz v (by omega)
 rw [aH H.f314 rfl]
 unfold clF
 by_cases c1:dI l v < x
 · rw [if_pos c1]
   simp (disch:=omega) [Zh,h1,c1,aB,H.inl,ak,H.pp,ppB]
 · rw [if_neg c1]
   by_cases c2:x < 0
   · rw [if_pos c2]
     simp (disch:=omega) [Zh,h1,c1,c2,aB,H.inl,ak,H.pp,ppB]
   · rw [if_neg c2]
     simp (disch:=omega) [Zh,h1,c1,c2,aB,H.inl,ak,H.pp,ppB]
structure nN (l:List En) (k d:Int):Prop where
 k0:0≤k
 d0:0≤d∧d≤2305843009213693952
 z:k=0→d=0
 f:k≠0→0≤fJ k 0 l
theorem nN.e {l:List En} {k d:Int} (h:nN l k d):anE k d=0:=by
 have:=h.d0
 unfold anE
 rw [if_neg]
 rintro (q | q | ⟨q,r⟩)
 · omega
 · omega
 · have:=h.z q;omega
theorem Xh (k:Int):∀ (l:List En) (i:Nat),0≤fJ k i l→∃ j:Nat,fJ k i l=((i+j:Nat):Int)∧j < l.length:=by
 intro l
 induction l with
 | nil=>intro i h;exact absurd h (by simp [fJ])
 | cons a r ih =>
  intro i h
  rw [fJ] at h ⊢
  split
  · exact ⟨0,by simp,by simp⟩
  · rename_i c
    rw [if_neg c] at h
    obtain ⟨j,h1,h2⟩:=ih (i+1) h
    exact ⟨j+1,by rw [h1];congr 1;omega,by simpa using h2⟩
theorem V7 (H:yc C) (l:List En) (e:Bool) (hz:Szd l) (k:Int) (hf:0≤fJ k 0 l):FnW C 323 [aL l e,.int .u64 k]=some (.tup [.int .i64 (top l (fJ k 0 l).toNat),.bool true]):=by
 have h1:=find_ok H.tokU l e k (by have:=hz.n;omega)
 have h2:=wX H.tojf l e hz
 obtain ⟨j,q1,q2⟩:=Xh k l 0 hf
 rw [Nat.zero_add] at q1
 rw [q1] at h1 ⊢
 have q3:imax (j:Int) 0=j:=by unfold imax;split <;> omega
 rw [q3] at h1
 have q4:(0:Int)≤j:=by omega
 have q5:j < (tps l).length:=by rw [jh];omega
 have q6:=AZ l q5
 have hn:=jh l
 rw [aH H.f323 rfl]
 simp only [aL,decide_eq_true q4] at h1 h2
 rw [show ((j:Int)).toNat=j from rfl]
 simp (disch:=omega) [aeE,aL,h1,h2,q5,q6,aB,H.inl,ak,H.pp,ppB]
theorem Cm (H:yc C) (V:Dk C) (l:List En) (e:Bool) (hz:Szd l) (v:Int) (hv:1≤v∧v≤2147483648) (k d:Int) (ha:nN l k d):FnW C 161 [aL l e,.int .i64 v,aA k d]=some (.tup [.int .i64 (eY l v k d),.int .i64 0]):=by
 have h1:=Jt H l e hz v hv
 have h2:=Gn V k d
 rw [ha.e] at h2
 rw [aH H.f161 rfl]
 unfold eY
 simp only [aL,aA] at h1 h2
 by_cases c:k=0
 · rw [if_pos c]
   subst c
   simp (disch:=omega) [abg,aL,aA,h1,h2,aB,H.inl,ak,H.pp,ppB]
 · rw [if_neg c]
   have h3:=V7 H l e hz k (ha.f c)
   have h4:=hz.rng (fJ k 0 l).toNat
   have h6:=ha.d0
   have h7:=hz.t
   have h5:=YK H l e hz v hv (top l (fJ k 0 l).toNat+d)
   simp only [aL] at h3 h5
   simp (disch:=omega) [abg,aL,aA,h1,h2,h3,h5,c,aB,H.inl,ak,H.pp,ppB]
theorem TW (H:yc C) (V:Dk C) (l:List En) (e:Bool) (hz:Szd l) (v:Int) (hv:1≤v∧v≤2147483648) (k d:Int) (ha:nN l k d):FnW C 319 [.ro 6 (l.map eEn) e,.int .i64 v,aA k d]=some (.tup [.int .i64 (eY l v k d),.int .i64 0]):=by
 have h1:=acj H l e hz v hv
 have h2:=Dn V k d ha.k0
 rw [ha.e] at h2
 rw [aH H.f319 rfl]
 unfold eY
 simp only [aA] at h2
 by_cases c:k=0
 · rw [if_pos c]
   subst c
   simp (disch:=omega) [abQ,aA,h1,h2,aB,H.inl,ak,H.pp,ppB]
 · rw [if_neg c]
   have hf:=ha.f c
   have h3:=P7 H.tokU l e k (by have:=hz.n;omega)
   obtain ⟨j,q1,q2⟩:=Xh k l 0 hf
   rw [Nat.zero_add] at q1
   rw [q1] at h3 ⊢
   rw [show ((j:Int)).toNat=j from rfl]
   have h4:=hz.rng j
   have h6:=ha.d0
   have h7:=hz.t
   have h5:=Yl H l e hz v hv (top l j+d)
   have h8:=zQ H.tojf l e hz j (by omega)
   have q4:¬ ((j:Int) < 0):=by omega
   simp (disch:=omega) [abQ,aA,h1,h2,h3,h5,h8,c,q4,aB,H.inl,ak,H.pp,ppB]
theorem afD {l:List En} (hz:Szd l) {v:Int} (x:Int):0≤clF l v x∧clF l v x≤dI l v:=by
 have h0:0≤dI l v:=by unfold dI;split <;> omega
 unfold clF
 split
 · omega
 · split <;> omega
theorem xA {l:List En} (hz:Szd l) {v k d:Int} (hv:1≤v∧v≤2147483648):Vp l (eY l v k d) v:=by
 have h0:0≤dI l v:=by unfold dI;split <;> omega
 refine ⟨hz,hv,?_⟩
 unfold eY
 split
 · omega
 · exact afD hz _
end Go.D
end
section
namespace Go.D
open Go Go.Pav Go.Pw P
set_option maxHeartbeats 1000000
attribute [-simp] List.getElem_cons_drop
variable {C:aG}
structure alX (C:aG):Prop extends ng C
def qN (d:Int) (seen:List Int) (x:Ht):Int:=if x.k=0 then 9 else if x.s < d∨2305843009213693952 < x.s then 12 else if x.k ∈ seen then 8 else 0
def AA (d:Int):List Int→Nat→List Ht→Int × Int
 | _,_,[]=>(0,0)
 | seen,i,x::r=>if qN d seen x≠0 then ((i:Int),qN d seen x) else AA d (seen++[x.k]) (i+1) r
def Gm (d:Int) (T:List Ht):Int × Int:=if d < 1∨2305843009213693952 < d then (0,1) else if 256 < (T.length:Int) then (0,3) else AA d [] 0 T
end Go.D
end
section
namespace Go.D
open Go Go.Pav Go.Pw P
set_option maxHeartbeats 1000000
theorem Zv {ks:List Kd} {cap:Int} {e:En} {b:Bool} (h:enE ks cap e b=0):b=false:=by
 cases b with
 | false=>rfl
 | true =>
  have h1:itE ks cap e.i true≠0:=by
   unfold itE
   split
   · simp
   · rw [if_pos rfl];simp
  unfold enE at h
  rw [if_pos h1] at h
  exact absurd h h1
theorem SG (ks:List Kd) (cap:Int):∀ (l:List En) (seen:List Int),chk ks cap seen l=0↔(∀ e ∈ l,enE ks cap e false=0∧e.i.k ∉ seen)∧(l.map fun e=>e.i.k).Nodup:=by
 intro l
 induction l with
 | nil=>intro seen;simp [chk]
 | cons a r ih =>
  intro seen
  rw [chk]
  constructor
  · intro h
    split at h
    · rename_i hc;exact absurd h hc
    · rename_i hc
      have hc:enE ks cap a (seen.contains a.i.k)=0:=by simpa using hc
      have hf:=Zv hc
      rw [hf] at hc
      have hns:a.i.k ∉ seen:=by simpa using hf
      obtain ⟨q1,q2⟩:=(ih _).1 h
      refine ⟨?_,?_⟩
      · intro e he
        rcases List.mem_cons.1 he with rfl | he
        · exact ⟨hc,hns⟩
        · obtain ⟨p1,p2⟩:=q1 e he
          exact ⟨p1,fun hm=>p2 (by simp [hm])⟩
      · simp only [List.map_cons,List.nodup_cons] at q2 ⊢
        refine ⟨?_,q2⟩
        intro hm
        obtain ⟨e,he,hk⟩:=List.mem_map.1 hm
        exact (q1 e he).2 (by simp [hk])
  · rintro ⟨q1,q2⟩
    obtain ⟨p1,p2⟩:=q1 a (List.mem_cons_self ..)
    have hf:seen.contains a.i.k=false:=by simpa using p2
    rw [hf,if_neg (by simp [p1])]
    rw [ih]
    simp only [List.map_cons,List.nodup_cons] at q2 ⊢
    refine ⟨?_,q2.2⟩
    intro e he
    refine ⟨(q1 e (List.mem_cons_of_mem _ he)).1,?_⟩
    intro hm
    rcases List.mem_append.1 hm with hm | hm
    · exact (q1 e (List.mem_cons_of_mem _ he)).2 hm
    · simp only [List.mem_singleton] at hm
      exact q2.1 (List.mem_map.2 ⟨e,he,hm⟩)
structure Gd (ks:List Kd) (cap:Int) (l:List En):Prop where
 ru:yD ks cap=true
 n:l.length≤1024
 e:∀ x ∈ l,qC x
 v:∀ x ∈ l,enE ks cap x false=0
 k:(l.map fun e=>e.i.k).Nodup
 t:tot l≤4611686018427387904
theorem ab5 {ks:List Kd} {cap:Int} {l:List En} (h:ckE ks cap l=0) (he:∀ x ∈ l,qC x):Gd ks cap l:=by
 unfold ckE at h
 by_cases c1:yD ks cap=false
 · rw [if_pos c1] at h;exact absurd h (by decide)
 rw [if_neg c1] at h
 by_cases c2:1024 < l.length
 · rw [if_pos c2] at h;exact absurd h (by decide)
 rw [if_neg c2] at h
 by_cases c3:chk ks cap [] l≠0
 · rw [if_pos c3] at h;exact absurd h c3
 rw [if_neg c3] at h
 have c3:chk ks cap [] l=0:=by omega
 unfold ovE at h
 split at h
 · exact absurd h (by decide)
 rename_i c4
 obtain ⟨q1,q2⟩:=(SG ks cap l []).1 c3
 exact ⟨by simpa using c1,by omega,he,fun x hx=>(q1 x hx).1,q2,by omega⟩
section
variable {ks:List Kd} {cap:Int} {l:List En}
theorem Gd.ck (h:Gd ks cap l):ckE ks cap l=0:=by
 have hc:chk ks cap [] l=0:=(SG ks cap l []).2 ⟨fun e he=>⟨h.v e he,by simp⟩,h.k⟩
 have:=h.n
 have:=h.t
 unfold ckE ovE
 rw [h.ru,if_neg (by simp),if_neg (by omega),hc,if_neg (by simp),if_neg (by omega)]
theorem CY {x:En} (h:enE ks cap x false=0):itE ks cap x.i false=0∧hOk x.s=true:=by
 unfold enE at h
 by_cases c:itE ks cap x.i false≠0
 · rw [if_pos c] at h;exact absurd h c
 rw [if_neg c] at h
 split at h
 · rename_i q;exact ⟨by omega,q.1⟩
 · exact absurd h (by decide)
theorem ak1 {x:It} (h:itE ks cap x false=0):uI ks.length x=true:=by
 unfold itE at h
 split at h
 · exact absurd h (by decide)
 · rename_i c;simpa using c
theorem Gd.szd (h:Gd ks cap l):Szd l:=by
 refine Ho ?_
 have:=h.n
 have:=h.t
 unfold szE ovE
 rw [if_neg (by omega),if_neg,if_neg (by omega)]
 rw [Bool.not_eq_true,List.any_eq_false]
 intro x hx
 simp [(CY (h.v x hx)).2]
theorem aeV {n:Nat} {x:It} (h:uI n x=true) (hx:RQ x):0≤x.t∧x.t < n:=by
 have:=hx.t
 unfold uI at h
 simp only [Bool.and_eq_true,decide_eq_true_eq] at h
 omega
theorem Gd.ty (h:Gd ks cap l):∀ x ∈ l,0≤x.i.t∧x.i.t < ks.length:=fun x hx=>aeV (ak1 (CY (h.v x hx)).1) (h.e x hx).i
theorem Gd.k8 (h:Gd ks cap l):ks.length≤8∧∀ k ∈ ks,hOk k.b=true:=by
 have:=h.ru
 unfold yD CO at this
 simp only [Bool.and_eq_true,decide_eq_true_eq,List.all_eq_true] at this
 exact ⟨by omega,fun k hk=>(this.2 k hk).1⟩
def vlK (ks:List Kd) (T:List Ht) (e:En):En:=⟨e.i,qM ks e.i T,true⟩
def jA (ks:List Kd) (T:List Ht) (l:List En) (i:Nat):List En:=match l[i]? with | some e=>l.set i (vlK ks T e) | none=>l
def TOk (T:List Ht):Prop:=∀ x ∈ T,hOk x.s=true
theorem E5 {T:List Ht} (hT:TOk T) (hk:∀ k ∈ ks,hOk k.b=true) {x:It} (ht:0≤x.t∧x.t < ks.length):hOk (qM ks x T)=true:=by
 unfold qM
 cases hf:T.find? (fun y=>decide (y.k=x.k)) with
 | some y=>exact hT y (List.mem_of_find?_eq_some hf)
 | none =>
  have hlt:x.t.toNat < ks.length:=by omega
  simp only [List.getElem?_eq_getElem hlt]
  exact hk _ (List.getElem_mem hlt)
theorem uH (T:List Ht) (l:List En) (i:Nat):(jA ks T l i).length=l.length:=by
 unfold jA;cases l[i]? <;> simp
theorem Bf (T:List Ht) {l:List En} {i:Nat} (h:i < l.length):jA ks T l i=l.set i (vlK ks T l[i]):=by
 unfold jA;rw [List.getElem?_eq_getElem h]
theorem VT (T:List Ht) (l:List En) (i:Nat):(jA ks T l i).map En.i=l.map En.i:=by
 unfold jA
 cases h:l[i]? with
 | none=>rfl
 | some e =>
  obtain ⟨hi,rfl⟩:=List.getElem?_eq_some_iff.1 h
  simp only [List.map_set,vlK]
  refine List.ext_getElem (by simp) fun j h1 h2=>?_
  rw [List.getElem_set]
  split
  · rename_i q;subst q;simp
  · rfl
theorem oq {T:List Ht} {l:List En} {i:Nat} {x:En} (h:x ∈ jA ks T l i):x ∈ l∨∃ e ∈ l,x=vlK ks T e:=by
 unfold jA at h
 cases hl:l[i]? with
 | none=>rw [hl] at h;exact .inl h
 | some e =>
  rw [hl] at h
  rcases List.mem_or_eq_of_mem_set h with h | h
  · exact .inl h
  · exact .inr ⟨e,List.mem_of_getElem? hl,h⟩
theorem afh {a b:List En} (h:a.map En.i=b.map En.i):(a.map fun e=>e.i.k)=b.map fun e=>e.i.k:=by
 have:=congrArg (List.map It.k) h
 rw [List.map_map,List.map_map] at this
 exact this
theorem Gd.upd (h:Gd ks cap l) {T:List Ht} (hT:TOk T) (i:Nat) (ht:tot (jA ks T l i)≤4611686018427387904):Gd ks cap (jA ks T l i):=by
 have h8:=h.k8
 have hs:∀ e ∈ l,hOk (qM ks e.i T)=true:=fun e he=>E5 hT h8.2 (h.ty e he)
 refine ⟨h.ru,by rw [uH];exact h.n,fun x hx=>?_,fun x hx=>?_,by rw [afh (VT T l i)];exact h.k,ht⟩
 · rcases oq hx with hx | ⟨e,he,rfl⟩
   · exact h.e x hx
   · have:=hs e he
     rw [o7] at this
     exact ⟨(h.e e he).i,by simp only [vlK];omega⟩
 · rcases oq hx with hx | ⟨e,he,rfl⟩
   · exact h.v x hx
   · obtain ⟨q1,q2⟩:=CY (h.v e he)
     unfold enE
     simp only [vlK]
     rw [if_neg (by omega),if_pos ⟨hs e he,by simp⟩]
def rdF (ks:List Kd) (T:List Ht):List En→List Int→Option (List En)
 | l,[]=>some l
 | l,i::r=>if 4611686018427387904 < tot (jA ks T l i.toNat) then none else rdF ks T (jA ks T l i.toNat) r
theorem Ia {T:List Ht} (hT:TOk T):∀ (u:List Int) (l l':List En),Gd ks cap l→rdF ks T l u=some l'→Gd ks cap l'∧l'.map En.i=l.map En.i:=by
 intro u
 induction u with
 | nil=>intro l l' h hr;rw [rdF] at hr;cases hr;exact ⟨h,rfl⟩
 | cons i r ih =>
  intro l l' h hr
  rw [rdF] at hr
  split at hr
  · cases hr
  · rename_i c
    obtain ⟨q1,q2⟩:=ih _ _ (h.upd hT i.toNat (by omega)) hr
    exact ⟨q1,q2.trans (VT T l _)⟩
def ku (l:List En):Nat:=(l.filter fun e=>!e.kn).length
theorem QF:∀ (l:List En) (i:Nat) (h:i < l.length) (x:En),x.kn=true→ku (l.set i x)+(if l[i].kn=true then 0 else 1)=ku l:=by
 intro l
 induction l with
 | nil=>intro i h;simp at h
 | cons a r ih =>
  intro i h x hx
  cases i with
  | zero =>
   simp only [List.set_cons_zero,List.getElem_cons_zero,ku,List.filter_cons,hx]
   by_cases ha:a.kn=true
   · simp [ha]
   · simp [ha]
  | succ i =>
   have:=ih i (by simpa using h) x hx
   simp only [List.set_cons_succ,List.getElem_cons_succ,ku,List.filter_cons] at this ⊢
   by_cases ha:a.kn=true
   · simpa [ha] using this
   · simp only [ha,Bool.not_false,if_true,List.length_cons] at this ⊢;omega
theorem ab1 (T:List Ht) (l:List En) (i:Nat):ku (jA ks T l i)≤ku l:=by
 by_cases h:i < l.length
 · rw [Bf T h]
   have:=QF l i h (vlK ks T l[i]) rfl
   omega
 · unfold jA;rw [List.getElem?_eq_none (by omega)];exact Nat.le_refl _
theorem aeP (T:List Ht):∀ (u:List Int) (l l':List En),rdF ks T l u=some l'→ku l'≤ku l:=by
 intro u
 induction u with
 | nil=>intro l l' hr;rw [rdF] at hr;cases hr;exact Nat.le_refl _
 | cons i r ih =>
  intro l l' hr
  rw [rdF] at hr
  split at hr
  · cases hr
  · exact Nat.le_trans (ih _ _ hr) (ab1 T l _)
def rdU (ks:List Kd) (l:List En) (v over k d:Int):List Int:=kY l (fG ks l (eY l v k d) v over)
theorem uz {l:List En} {a:List Int} {i:Int} (h:i ∈ kY l a):i ∈ a∧∃ hi:i.toNat < l.length,l[i.toNat].kn=false:=by
 unfold kY at h
 obtain ⟨h1,h2⟩:=List.mem_filter.1 h
 refine ⟨h1,?_⟩
 cases hl:l[i.toNat]? with
 | none=>rw [hl] at h2;cases h2
 | some e =>
  rw [hl] at h2
  obtain ⟨hi,rfl⟩:=List.getElem?_eq_some_iff.1 hl
  exact ⟨hi,by simpa using h2⟩
theorem NT (T:List Ht) {a:List Int} {l l':List En} (hr:rdF ks T l (kY l a)=some l') (hu:kY l a≠[]):ku l' < ku l:=by
 cases hq:kY l a with
 | nil=>exact absurd hq hu
 | cons i r =>
  obtain ⟨_,hi,hk⟩:=uz (l:=l) (a:=a) (i:=i) (by rw [hq];simp)
  rw [hq,rdF] at hr
  split at hr
  · cases hr
  · have h1:=aeP T _ _ _ hr
    rw [Bf T hi] at h1
    have:=QF l _ hi (vlK ks T l[i.toNat]) rfl
    rw [hk] at this
    simp at this
    omega
def stF (ks:List Kd) (T:List Ht) (v over k d:Int):Nat→List En→Nat→Option (List En × Int × Nat)
 | 0,_,_=>none
 | n+1,l,r=>match rdF ks T l (rdU ks l v over k d) with
  | none=>none
  | some l'=>if rdU ks l v over k d=[] then some (l',eY l v k d,r) else stF ks T v over k d n l' (r+1)
theorem afg (k:Int):∀ (a b:List En) (i:Nat),a.map En.i=b.map En.i→fJ k i a=fJ k i b:=by
 intro a
 induction a with
 | nil=>intro b i h;cases b with | nil=>rfl | cons x y=>simp at h
 | cons x a ih =>
  intro b i h
  cases b with
  | nil=>simp at h
  | cons y b =>
   simp only [List.map_cons,List.cons.injEq] at h
   rw [fJ,fJ,h.1,ih b (i+1) h.2]
theorem nN.it {a b:List En} {k d:Int} (h:nN a k d) (hi:b.map En.i=a.map En.i):nN b k d :=
 ⟨h.k0,h.d0,h.z,fun q=>by rw [afg k b a 0 hi];exact h.f q⟩
end
end Go.D
end
section
namespace Go.D
open Go Go.Pav Go.Pw P
set_option maxHeartbeats 2000000
attribute [-simp] List.getElem_cons_drop
variable {C:aG}
structure QJ (C:aG):Prop extends adU C,Iq C where
 Hw:C.fns.get 2019=some Az
theorem mO (ks:List Kd) (T:List Ht) (L:List En) (j:Nat) (h:j < L.length):(jA ks T L j).map eEn=(L.map eEn).set j [.int .u64 L[j].i.k,.int .u8 L[j].i.t,.str L[j].i.x,.ro 1 (L[j].i.m.map eS) L[j].i.e,.int .i64 (qM ks L[j].i T),.bool true]:=by
 rw [Bf T h,List.map_set];rfl
section
variable (ks:List Kd) (ke:Bool) (cap v ov ls k d s0 r0:Int) (T:List Ht) (te:Bool)
abbrev hpA (n:Nat) (cs:List (List AV)) (q:aK):aK:=(0,.cells 3 [[.sl 1 6 0 n n true,.int .i64 s0,.int .i64 r0]] true false)::(1,.cells 6 cs true true)::(2,.cells 3 [[.ro 6 [] true,.int .i64 0,.int .i64 0]] true true)::(3,.cells 2 [[.int .u64 k,.int .i64 d]] true true)::(4,.cells 5 [[.ro 9 (ks.map eKd) ke,.int .i64 cap,.int .i64 v,.int .i64 ov,.int .i64 ls]] true true)::q
abbrev qbA (n:Nat) (K:List Int):aK:=[(11,.cells 1 (K.map eI) true true),(12,.cells 1 [[.sl 1 6 0 n n true]] true false),(13,.cells 5 [[.ro 9 (ks.map eKd) ke,.int .i64 cap,.int .i64 v,.int .i64 ov,.int .i64 ls]] true true)]
noncomputable abbrev ckA (C:aG) (o:Int) (K:List Int) (i:Int) (h:aK):Option (AV × aK × Nat):=CK C 11 (iW [.tmp 8,.tmp 9,.tmp 10]) [.sq yV,.bk 0 ⟨true,[11,8],[]⟩,.sq kV] fU ⟨[(43,.int .i64 i),(42,.int .i64 K.length),(41,.sl 11 1 0 K.length K.length true),(11,.sl 11 1 0 K.length K.length true),(8,.int .i64 o),(5,.ptr 12 0 0),(4,.ptr 13 0 0),(3,.ro 2 (T.map eHt) te)],h,14⟩
theorem apv (H:QJ C) (hr:lg ks) (hT:TOk T) (hTl:T.length≤1000000) (o:Int) (n:Nat) (K:List Int) (hK:∀ x ∈ K,0≤x∧x < n) (hkl:K.length≤2000):∀ m i,m+i=K.length→∀ L:List En,L.length=n→Gd ks cap L →
 (∀ L',rdF ks T L (K.drop i)=some L'→∃ q,ckA T te C o K i (hpA ks ke cap v ov ls k d s0 r0 n (L.map eEn) (qbA ks ke cap v ov ls n K))=some (.tup [.int .i64 o,.int .i64 K.length,.int .i64 0],hpA ks ke cap v ov ls k d s0 r0 n (L'.map eEn) [(11,.cells 1 (K.map eI) true true)],q)) ∧
 (rdF ks T L (K.drop i)=none→∃ L':List En,L'.length=n∧∃ q,ckA T te C o K i (hpA ks ke cap v ov ls k d s0 r0 n (L.map eEn) (qbA ks ke cap v ov ls n K))=some (.tup [.int .i64 0,.int .i64 0,.int .i64 13],hpA ks ke cap v ov ls k d s0 r0 n (L'.map eEn) (qbA ks ke cap v ov ls n K),q)):=by
 intro m
 induction m with
 | zero =>
  intro i hi L hL hG
  have h3:¬ i < K.length:=by omega
  have q:K.drop i=[]:=List.drop_eq_nil_of_le (by omega)
  rw [q,rdF]
  refine ⟨fun L' hL'=>?_,fun h=>by cases h⟩
  cases hL'
  simp only [ckA,hpA,qbA]
  rw [aj fU.eq_1]
  simp (disch:=omega) [aj kV.eq_1,h3,aB,H.inl,ak,H.pp,ppB]
 | succ m ih =>
  intro i hi L hL hG
  have h1:i < K.length:=by omega
  have hj:=hK _ (List.getElem_mem h1)
  obtain ⟨j,hj2⟩:∃ j:Nat,K[i]=j:=⟨K[i].toNat,by omega⟩
  rw [drop_cons h1,rdF]
  rw [hj2] at hj ⊢
  rw [show ((j:Int)).toNat=j from rfl]
  have hjn:j < n:=by omega
  have hjL:j < L.length:=by omega
  have ht:=hG.ty _ (List.getElem_mem hjL)
  have h8:=hG.k8
  have hGn:=hG.n
  have hm:=Ov H.toIq ks ke cap v ov ls L[j].i (by omega) (by omega) T te hTl
  have hUl:(jA ks T L j).length=n:=by rw [uH,hL]
  have htot:=nH H.toadU.touJ.toDy.tokU (jA ks T L j) true (by omega) (by
   intro x hx
   rcases oq hx with hx | ⟨e,he,rfl⟩
   · exact (hG.e x hx).s
   · have:=E5 hT h8.2 (hG.ty e he)
     rw [o7] at this
     simp only [vlK];omega)
  have hTK:∀ x,List.take n ((L.map eEn).set j x)=(L.map eEn).set j x:=fun x=>List.take_of_length_le (by simp [hL])
  have hSt:∀ x,((L.map eEn).set j x)[j]?=some x:=fun x=>by rw [List.getElem?_set_self (by simpa using hjL)]
  simp only [aF,eIt,aL] at hm htot
  rw [mO ks T L j hjL] at htot
  try simp at htot
  try simp at hm
  by_cases c:4611686018427387904 < tot (jA ks T L j)
  · rw [if_pos c]
    refine ⟨fun L' h=>(by cases h),fun _=>⟨jA ks T L j,hUl,?_⟩⟩
    rw [mO ks T L j hjL]
    simp only [ckA,hpA,qbA]
    rw [aj fU.eq_1]
    simp (disch:=omega) [h1,hj2,hjn,hjL,hL,hTK,hSt,hm,htot,c,aB,H.inl,ak,H.pp,ppB]
  · rw [if_neg c]
    have this:=ih (i+1) (by omega) (jA ks T L j) hUl (hG.upd hT j (by omega))
    rw [mO ks T L j hjL] at this
    have hstep:ckA T te C o K i (hpA ks ke cap v ov ls k d s0 r0 n (L.map eEn) (qbA ks ke cap v ov ls n K))=ckA T te C o K ((i+1:Nat):Int) (hpA ks ke cap v ov ls k d s0 r0 n ((L.map eEn).set j [.int .u64 L[j].i.k,.int .u8 L[j].i.t,.str L[j].i.x,.ro 1 (L[j].i.m.map eS) L[j].i.e,.int .i64 (qM ks L[j].i T),.bool true]) (qbA ks ke cap v ov ls n K)):=by
     clear this ih
     simp only [ckA,hpA,qbA]
     rw [aj fU.eq_1]
     simp (disch:=omega) [h1,hj2,hjn,hjL,hL,hTK,hSt,hm,htot,c,aB,H.inl,ak,H.pp,ppB]
    rw [hstep]
    exact this
theorem apN (H:QJ C) (HO:yc C) (V:Dk C) (hr:lg ks) (hT:TOk T) (hTl:T.length≤1000000) (hv:1≤v∧v≤2147483648) (ho:0≤ov∧ov≤16) (L:List En) (hne:L≠[]) (hG:Gd ks cap L) (ha:nN L k d) :
 (∀ L',rdF ks T L (rdU ks L v ov k d)=some L'→∃ Q q,(Q=[]∨∃ K:List Int,Q=[(11,.cells 1 (K.map eI) true true)])∧RnW C 2019 [aF ks ke cap v ov ls,.agg [.sl 1 6 0 L.length L.length true],aA k d,.ro 2 (T.map eHt) te] (hpA ks ke cap v ov ls k d s0 r0 L.length (L.map eEn) []) 11=some (.tup [.int .i64 (eY L v k d),.int .i64 (rdU ks L v ov k d).length,.int .i64 0],hpA ks ke cap v ov ls k d s0 r0 L.length (L'.map eEn) Q,q)) ∧
 (rdF ks T L (rdU ks L v ov k d)=none→∃ (L':List En) (K:List Int),L'.length=L.length∧∃ q,RnW C 2019 [aF ks ke cap v ov ls,.agg [.sl 1 6 0 L.length L.length true],aA k d,.ro 2 (T.map eHt) te] (hpA ks ke cap v ov ls k d s0 r0 L.length (L.map eEn) []) 11=some (.tup [.int .i64 0,.int .i64 0,.int .i64 13],hpA ks ke cap v ov ls k d s0 r0 L.length (L'.map eEn) (qbA ks ke cap v ov ls L.length K),q)):=by
 have hz:=hG.szd
 have hof:=Cm HO V L true hz v hv k d ha
 have hvp:=xA (k:=k) (d:=d) hz hv
 have hun:=fun nid=>Vr H.toadU ks ke cap hr L true hG.e hG.ck hG.ty (eY L v k d) v ov hvp ho nid
 have hn:=hG.n
 have hUm:∀ x ∈ rdU ks L v ov k d,0≤x∧x < L.length:=by
  intro x hx
  obtain ⟨h1,h2,_⟩:=uz hx
  rw [← vG hvp ho,vk] at h1
  omega
 have hUl:(rdU ks L v ov k d).length≤2000:=by
  have h1:=(wH (ks:=ks) hvp ho).1
  have:(rdU ks L v ov k d).length≤(fG ks L (eY L v k d) v ov).length:=List.length_filter_le ..
  omega
 have hTK:List.take L.length (L.map eEn)=L.map eEn:=List.take_of_length_le (by simp)
 change ∀ nid,_=some (unR nid (rdU ks L v ov k d)) at hun
 have hlp:=apv ks ke cap v ov ls k d s0 r0 T te H hr hT hTl (eY L v k d) L.length (rdU ks L v ov k d) hUm hUl (rdU ks L v ov k d).length 0 rfl L rfl hG
 rw [List.drop_zero] at hlp
 generalize rdU ks L v ov k d=K at *
 generalize eY L v k d=o at *
 simp only [aL,aA,aR] at hof hun
 by_cases c:K=[]
 · subst c
   rw [rdF]
   refine ⟨fun L' h=>?_,fun h=>by cases h⟩
   cases h
   refine ⟨[],?_⟩
   simp [unR] at hun
   simp only [aF,aL,aA,hpA]
   rw [bV H.Hw rfl]
   simp (disch:=omega) [Az,aj fU.eq_1,aj kV.eq_1,hTK,hof,hun,aB,H.inl,ak,H.pp,ppB]
 · have hb:=Cj K
   simp only [unR,if_neg c] at hun
   have hrun:RnW C 2019 [aF ks ke cap v ov ls,.agg [.sl 1 6 0 L.length L.length true],aA k d,.ro 2 (T.map eHt) te] (hpA ks ke cap v ov ls k d s0 r0 L.length (L.map eEn) []) 11=ckA T te C o K (0:Nat) (hpA ks ke cap v ov ls k d s0 r0 L.length (L.map eEn) (qbA ks ke cap v ov ls L.length K)):=by
    simp only [aF,aL,aA,ckA,hpA,qbA]
    rw [bV H.Hw rfl]
    simp (disch:=omega) [Az,hTK,hof,hun,hb,aB,H.inl,ak,H.pp,ppB]
   rw [hrun]
   refine ⟨fun L' h=>?_,fun h=>?_⟩
   · obtain ⟨q,hq⟩:=hlp.1 L' h
     exact ⟨[(11,.cells 1 (K.map eI) true true)],q,.inr ⟨K,rfl⟩,hq⟩
   · obtain ⟨L',hl',q,hq⟩:=hlp.2 h
     exact ⟨L',K,hl',q,hq⟩
end
section
variable (ks:List Kd) (ke:Bool) (cap v ov ls k d:Int) (T:List Ht) (te:Bool)
abbrev hpB (n:Nat) (cs:List (List AV)) (q:aK):aK:=(0,.cells 1 [[.sl 1 6 0 n n true]] true false)::(1,.cells 6 cs true true)::(2,.cells 3 [[.ro 6 [] true,.int .i64 0,.int .i64 0]] true true)::(3,.cells 2 [[.int .u64 k,.int .i64 d]] true true)::(4,.cells 5 [[.ro 9 (ks.map eKd) ke,.int .i64 cap,.int .i64 v,.int .i64 ov,.int .i64 ls]] true true)::q
abbrev qbB (n:Nat) (K:List Int):aK:=[(10,.cells 1 (K.map eI) true true),(11,.cells 1 [[.sl 1 6 0 n n true]] true false),(12,.cells 5 [[.ro 9 (ks.map eKd) ke,.int .i64 cap,.int .i64 v,.int .i64 ov,.int .i64 ls]] true true)]
noncomputable abbrev ckB (C:aG) (o:Int) (K:List Int) (i:Int) (h:aK):Option (AV × aK × Nat):=CK C 10 (iW [.tmp 8,.tmp 9,.tmp 10]) [.sq yV,.bk 0 ⟨true,[11,8],[]⟩,.sq kV] fU ⟨[(43,.int .i64 i),(42,.int .i64 K.length),(41,.sl 10 1 0 K.length K.length true),(11,.sl 10 1 0 K.length K.length true),(8,.int .i64 o),(5,.ptr 11 0 0),(4,.ptr 12 0 0),(3,.ro 2 (T.map eHt) te)],h,13⟩
theorem aqg (H:QJ C) (hr:lg ks) (hT:TOk T) (hTl:T.length≤1000000) (o:Int) (n:Nat) (K:List Int) (hK:∀ x ∈ K,0≤x∧x < n) (hkl:K.length≤2000):∀ m i,m+i=K.length→∀ L:List En,L.length=n→Gd ks cap L →
 (∀ L',rdF ks T L (K.drop i)=some L'→∃ q,ckB T te C o K i (hpB ks ke cap v ov ls k d n (L.map eEn) (qbB ks ke cap v ov ls n K))=some (.tup [.int .i64 o,.int .i64 K.length,.int .i64 0],hpB ks ke cap v ov ls k d n (L'.map eEn) [(10,.cells 1 (K.map eI) true true)],q)) ∧
 (rdF ks T L (K.drop i)=none→∃ L':List En,L'.length=n∧∃ q,ckB T te C o K i (hpB ks ke cap v ov ls k d n (L.map eEn) (qbB ks ke cap v ov ls n K))=some (.tup [.int .i64 0,.int .i64 0,.int .i64 13],hpB ks ke cap v ov ls k d n (L'.map eEn) (qbB ks ke cap v ov ls n K),q)):=by
 intro m
 induction m with
 | zero =>
  intro i hi L hL hG
  have h3:¬ i < K.length:=by omega
  have q:K.drop i=[]:=List.drop_eq_nil_of_le (by omega)
  rw [q,rdF]
  refine ⟨fun L' hL'=>?_,fun h=>by cases h⟩
  cases hL'
  simp only [ckB,hpB,qbB]
  rw [aj fU.eq_1]
  simp (disch:=omega) [aj kV.eq_1,h3,aB,H.inl,ak,H.pp,ppB]
 | succ m ih =>
  intro i hi L hL hG
  have h1:i < K.length:=by omega
  have hj:=hK _ (List.getElem_mem h1)
  obtain ⟨j,hj2⟩:∃ j:Nat,K[i]=j:=⟨K[i].toNat,by omega⟩
  rw [drop_cons h1,rdF]
  rw [hj2] at hj ⊢
  rw [show ((j:Int)).toNat=j from rfl]
  have hjn:j < n:=by omega
  have hjL:j < L.length:=by omega
  have ht:=hG.ty _ (List.getElem_mem hjL)
  have h8:=hG.k8
  have hGn:=hG.n
  have hm:=Ov H.toIq ks ke cap v ov ls L[j].i (by omega) (by omega) T te hTl
  have hUl:(jA ks T L j).length=n:=by rw [uH,hL]
  have htot:=nH H.toadU.touJ.toDy.tokU (jA ks T L j) true (by omega) (by
   intro x hx
   rcases oq hx with hx | ⟨e,he,rfl⟩
   · exact (hG.e x hx).s
   · have:=E5 hT h8.2 (hG.ty e he)
     rw [o7] at this
     simp only [vlK];omega)
  have hTK:∀ x,List.take n ((L.map eEn).set j x)=(L.map eEn).set j x:=fun x=>List.take_of_length_le (by simp [hL])
  have hSt:∀ x,((L.map eEn).set j x)[j]?=some x:=fun x=>by rw [List.getElem?_set_self (by simpa using hjL)]
  simp only [aF,eIt,aL] at hm htot
  rw [mO ks T L j hjL] at htot
  try simp at htot
  try simp at hm
  by_cases c:4611686018427387904 < tot (jA ks T L j)
  · rw [if_pos c]
    refine ⟨fun L' h=>(by cases h),fun _=>⟨jA ks T L j,hUl,?_⟩⟩
    rw [mO ks T L j hjL]
    simp only [ckB,hpB,qbB]
    rw [aj fU.eq_1]
    simp (disch:=omega) [h1,hj2,hjn,hjL,hL,hTK,hSt,hm,htot,c,aB,H.inl,ak,H.pp,ppB]
  · rw [if_neg c]
    have this:=ih (i+1) (by omega) (jA ks T L j) hUl (hG.upd hT j (by omega))
    rw [mO ks T L j hjL] at this
    have hstep:ckB T te C o K i (hpB ks ke cap v ov ls k d n (L.map eEn) (qbB ks ke cap v ov ls n K))=ckB T te C o K ((i+1:Nat):Int) (hpB ks ke cap v ov ls k d n ((L.map eEn).set j [.int .u64 L[j].i.k,.int .u8 L[j].i.t,.str L[j].i.x,.ro 1 (L[j].i.m.map eS) L[j].i.e,.int .i64 (qM ks L[j].i T),.bool true]) (qbB ks ke cap v ov ls n K)):=by
     clear this ih
     simp only [ckB,hpB,qbB]
     rw [aj fU.eq_1]
     simp (disch:=omega) [h1,hj2,hjn,hjL,hL,hTK,hSt,hm,htot,c,aB,H.inl,ak,H.pp,ppB]
    rw [hstep]
    exact this
theorem aqG (H:QJ C) (HO:yc C) (V:Dk C) (hr:lg ks) (hT:TOk T) (hTl:T.length≤1000000) (hv:1≤v∧v≤2147483648) (ho:0≤ov∧ov≤16) (L:List En) (hne:L≠[]) (hG:Gd ks cap L) (ha:nN L k d) :
 (∀ L',rdF ks T L (rdU ks L v ov k d)=some L'→∃ Q q,(Q=[]∨∃ K:List Int,Q=[(10,.cells 1 (K.map eI) true true)])∧RnW C 2019 [aF ks ke cap v ov ls,.agg [.sl 1 6 0 L.length L.length true],aA k d,.ro 2 (T.map eHt) te] (hpB ks ke cap v ov ls k d L.length (L.map eEn) []) 10=some (.tup [.int .i64 (eY L v k d),.int .i64 (rdU ks L v ov k d).length,.int .i64 0],hpB ks ke cap v ov ls k d L.length (L'.map eEn) Q,q)) ∧
 (rdF ks T L (rdU ks L v ov k d)=none→∃ (L':List En) (K:List Int),L'.length=L.length∧∃ q,RnW C 2019 [aF ks ke cap v ov ls,.agg [.sl 1 6 0 L.length L.length true],aA k d,.ro 2 (T.map eHt) te] (hpB ks ke cap v ov ls k d L.length (L.map eEn) []) 10=some (.tup [.int .i64 0,.int .i64 0,.int .i64 13],hpB ks ke cap v ov ls k d L.length (L'.map eEn) (qbB ks ke cap v ov ls L.length K),q)):=by
 have hz:=hG.szd
 have hof:=Cm HO V L true hz v hv k d ha
 have hvp:=xA (k:=k) (d:=d) hz hv
 have hun:=fun nid=>Vr H.toadU ks ke cap hr L true hG.e hG.ck hG.ty (eY L v k d) v ov hvp ho nid
 have hn:=hG.n
 have hUm:∀ x ∈ rdU ks L v ov k d,0≤x∧x < L.length:=by
  intro x hx
  obtain ⟨h1,h2,_⟩:=uz hx
  rw [← vG hvp ho,vk] at h1
  omega
 have hUl:(rdU ks L v ov k d).length≤2000:=by
  have h1:=(wH (ks:=ks) hvp ho).1
  have:(rdU ks L v ov k d).length≤(fG ks L (eY L v k d) v ov).length:=List.length_filter_le ..
  omega
 have hTK:List.take L.length (L.map eEn)=L.map eEn:=List.take_of_length_le (by simp)
 change ∀ nid,_=some (unR nid (rdU ks L v ov k d)) at hun
 have hlp:=aqg ks ke cap v ov ls k d T te H hr hT hTl (eY L v k d) L.length (rdU ks L v ov k d) hUm hUl (rdU ks L v ov k d).length 0 rfl L rfl hG
 rw [List.drop_zero] at hlp
 generalize rdU ks L v ov k d=K at *
 generalize eY L v k d=o at *
 simp only [aL,aA,aR] at hof hun
 by_cases c:K=[]
 · subst c
   rw [rdF]
   refine ⟨fun L' h=>?_,fun h=>by cases h⟩
   cases h
   refine ⟨[],?_⟩
   simp [unR] at hun
   simp only [aF,aL,aA,hpB]
   rw [bV H.Hw rfl]
   simp (disch:=omega) [Az,aj fU.eq_1,aj kV.eq_1,hTK,hof,hun,aB,H.inl,ak,H.pp,ppB]
 · have hb:=Cj K
   simp only [unR,if_neg c] at hun
   have hrun:RnW C 2019 [aF ks ke cap v ov ls,.agg [.sl 1 6 0 L.length L.length true],aA k d,.ro 2 (T.map eHt) te] (hpB ks ke cap v ov ls k d L.length (L.map eEn) []) 10=ckB T te C o K (0:Nat) (hpB ks ke cap v ov ls k d L.length (L.map eEn) (qbB ks ke cap v ov ls L.length K)):=by
    simp only [aF,aL,aA,ckB,hpB,qbB]
    rw [bV H.Hw rfl]
    simp (disch:=omega) [Az,hTK,hof,hun,hb,aB,H.inl,ak,H.pp,ppB]
   rw [hrun]
   refine ⟨fun L' h=>?_,fun h=>?_⟩
   · obtain ⟨q,hq⟩:=hlp.1 L' h
     exact ⟨[(10,.cells 1 (K.map eI) true true)],q,.inr ⟨K,rfl⟩,hq⟩
   · obtain ⟨L',hl',q,hq⟩:=hlp.2 h
     exact ⟨L',K,hl',q,hq⟩
end
end Go.D
end
section
namespace Go.D
open Go Go.Pav Go.Pw P
set_option maxHeartbeats 2000000
attribute [-simp] List.getElem_cons_drop
variable {C:aG}
structure J5 (C:aG):Prop extends ajm C where
 aaG:C.fns.get 3001=some Qu
 ac7:C.fns.get 3002=some Qa
 ZP:C.fns.get 3003=some Sr
 ach:C.fns.get 3004=some Ti
def ofR (nid:Nat) (L:List En):AV × dO:=if L=[] then (.agg [.ro 6 [] true],[]) else (.agg [.sl nid 6 0 L.length L.length true],[(nid,some (.cells 6 (L.map eEn) true true))])
def oeR (nid:Nat) (L:List En):AV × dO:=if L=[] then (.tup [.agg [.ro 6 [] true],.int .i64 0],[]) else (.tup [.agg [.sl nid 6 0 L.length L.length true],.int .i64 0],[(nid,some (.cells 6 (L.map eEn) true true))])
theorem X3 (H:J5 C) (l:List En) (e:Bool) (hl:l.length≤1000000) (hm:∀ x ∈ l,x.i.m.length≤1000000):∀ n i,n+i=l.length→∀ G:List En,G.length=i →
 ∃ q m,Pav.get q 0=some (.cells 6 ((G++(l.drop i).map En.own).map eEn) true true)∧CK C 0 (iW [.cell 2 1 true]) [.sq Pn,.bk 0 ⟨true,[3,2],[]⟩,.sq Ns] zy ⟨[(15,.int .i64 i),(14,.int .i64 l.length),(13,.ro 6 (l.map eEn) e),(3,.sl 0 6 0 l.length l.length true),(2,.ptr 1 0 0)],[(0,.cells 6 (G.map eEn++List.replicate n [.int .u64 0,.int .u8 0,.str [],.ro 1 [] true,.int .i64 0,.bool false]) true true),(1,.cells 1 [[.ro 6 [] true]] true true)],2⟩ =
  some (.agg [.sl 0 6 0 l.length l.length true],q,m):=by
 intro n
 induction n with
 | zero =>
  intro i hi G hG
  have h1:l.drop i=[]:=List.drop_eq_nil_of_le (by omega)
  have h3:¬ i < l.length:=by omega
  have h6:List.take l.length (List.map eEn G)=List.map eEn G:=List.take_of_length_le (by simp;omega)
  have h7:G.length=l.length:=by omega
  rw [aj zy.eq_1]
  simp [aj Ns.eq_1,h1,h3,h6,h7]
 | succ n ih =>
  intro i hi G hG
  have h1:i < l.length:=by omega
  have hc:=aak H.toajm.touN.tokU l[i].i true (hm _ (List.getElem_mem h1))
  obtain ⟨q,m,hq,this⟩:=ih (i+1) (by omega) (G++[l[i].own]) (by simp [hG])
  rw [drop_cons h1]
  refine ⟨q,m,by simpa using hq,?_⟩
  rw [aj zy.eq_1]
  simp [It.own] at hc
  simp [En.own,It.own] at this
  simp (disch:=omega) [h1,aB,hc,y8,AO,hG,H.inl,ak,H.pp,ppB,En.own,It.own,this]
theorem afY (H:J5 C) (l:List En) (e:Bool) (hl:l.length≤1000000) (hm:∀ x ∈ l,x.i.m.length≤1000000) (nid:Nat):bg (RnW C) 3004 [.ro 6 (l.map eEn) e] nid=some (ofR nid (l.map En.own)):=by
 by_cases hne:l=[]
 · subst hne
   have hr:∃ q m,RnW C 3004 [.ro 6 [] e] [] 0=some (.agg [.ro 6 [] true],q,m):=by
    rw [bV H.ach rfl]
    simp [Ti,H.inl,ak,H.pp,ppB]
   obtain ⟨q,m,hr⟩:=hr
   unfold bg
   rw [List.map_nil,hr]
   simp [ofR,ob,gW,dV,Pav.get,fE,hand,iq,om]
 · obtain ⟨q,m,hq,h⟩:=X3 H l e hl hm l.length 0 (by simp) [] rfl
   have h2:l.length * 73≤35184372088832:=by omega
   have hr:RnW C 3004 [.ro 6 (l.map eEn) e] [] 0=some (.agg [.sl 0 6 0 l.length l.length true],q,m):=by
    rw [bV H.ach rfl]
    simp at h
    simp (disch:=omega) [Ti,hne,h2,h]
   rw [List.nil_append,List.drop_zero] at hq
   unfold bg
   rw [hr]
   simp [ofR,hne,hq,ob,gW,dV,fE,hand,iq,om]
theorem arZ (l:List En):spl l 0 0 []=l:=by simp [spl]
theorem uj (l:List En):(l.map En.own).length=l.length:=List.length_map ..
theorem akz (H:J5 C) (ks:List Kd) (ke:Bool) (cap:Int) (hr:lg ks) (l:List En) (e:Bool) (hG:Gd ks cap l) (nid:Nat) :
 bg (RnW C) 3003 [aR ks ke cap,aL l e,.agg [.bool true,.int .i64 0,.ro 4 [] true,.dK,.fn 222 [.rop [.ro 6 (l.map eEn) e],.rop [.int .i64 0],.rop [.int .i64 0]]]] nid=some (oeR nid (l.map En.own)):=by
 have hn:=hG.n
 have hc:=BA H.toajm.touN ks ke cap hr l e (by omega) hG.e
 rw [hG.ck] at hc
 have hf:=Ig H.toajm.touN ks ke cap [] true (by simp) (by simp)
 have hm:=acn H.toajm (.ro 6 [] true) ⟨_,_,rfl⟩ l e 0 0 (by omega) (by omega)
 rw [arZ] at hm
 have ho:=fun nid=>afY H l true (by omega) (fun x q=>(hG.e x q).i.m) nid
 have ht:=Qv H.toajm.touN.tokU (l.map En.own) true (by simp;omega) (fun x q=>by
  obtain ⟨y,hy,rfl⟩:=List.mem_map.1 q
  exact ⟨⟨(hG.e y hy).i.k,(hG.e y hy).i.t,(hG.e y hy).i.m⟩,(hG.e y hy).s⟩)
 have hv:ovE (l.map En.own)=0:=by
  have h1:tot (l.map En.own)=tot l:=by
   unfold tot
   have:∀ (l:List En) (s:Int),oM s (l.map En.own)=oM s l:=by
    intro l
    induction l with
    | nil=>intro s;rfl
    | cons a r ih=>intro s;rw [List.map_cons,oM,oM,ih];rfl
   exact this l 0
  have:=hG.t
  unfold ovE
  rw [h1,if_neg (by omega)]
 rw [hv] at ht
 simp only [List.map_nil] at hf
 simp only [aL,aR] at hc hf hm ht
 by_cases hne:l=[]
 · subst hne
   simp [ofR] at ho hc hf hm ht
   have hrun:∃ q m,RnW C 3003 [aR ks ke cap,aL [] e,.agg [.bool true,.int .i64 0,.ro 4 [] true,.dK,.fn 222 [.rop [.ro 6 [] e],.rop [.int .i64 0],.rop [.int .i64 0]]]] [] 0=some (.tup [.agg [.ro 6 [] true],.int .i64 0],q,m):=by
    simp only [aL,aR]
    rw [bV H.ZP rfl]
    simp [Sr,aj AU.eq_1,aj IJ.eq_1,hc,hf,hm,ho,ht,H.inl,ak,H.pp,ppB]
   obtain ⟨q,m,hrun⟩:=hrun
   unfold bg
   rw [List.map_nil,hrun]
   simp [oeR,ob,gW,dV,Pav.get,fE,hand,iq,om]
 · have hne2:l.map En.own≠[]:=by simpa using hne
   simp only [ofR,if_neg hne2] at ho
   have hll:=uj l
   generalize l.map En.own=L at *
   have hTK:List.take l.length (L.map eEn)=L.map eEn:=List.take_of_length_le (by simp [hll])
   have hrun:∃ q b m,Pav.get q b=some (.cells 6 (L.map eEn) true true)∧RnW C 3003 [aR ks ke cap,aL l e,.agg [.bool true,.int .i64 0,.ro 4 [] true,.dK,.fn 222 [.rop [.ro 6 (l.map eEn) e],.rop [.int .i64 0],.rop [.int .i64 0]]]] [] 0=some (.tup [.agg [.sl b 6 0 L.length L.length true],.int .i64 0],q,m):=by
    simp only [aL,aR]
    rw [bV H.ZP rfl]
    simp at hm
    rw [hll] at ho ⊢
    simp [Sr,aj AU.eq_1,aj IJ.eq_1,hc,hf,hm,ho,ht,hTK,hll,hne2,H.inl,ak,H.pp,ppB]
    exact ⟨_,_,by simp,rfl,rfl⟩
   obtain ⟨q,b,m,hq,hrun⟩:=hrun
   unfold bg
   rw [hrun]
   simp [oeR,hne2,hq,ob,gW,dV,Pav.get,fE,hand,iq,om]
theorem afO (H:J5 C) (ks:List Kd) (ke:Bool) (cap:Int) (hr:lg ks) (l:List En) (e:Bool) (hG:Gd ks cap l) (nid:Nat) :
 bg (RnW C) 3002 [aR ks ke cap,aL l e,.int .i64 0,.int .i64 0] nid=some (oeR nid (l.map En.own)):=by
 have hn:=hG.n
 have h:=fun nid=>akz H ks ke cap hr l e hG nid
 have hw:=XB H.toajm.touN.tokU 0 0 l.length (by omega)
 have hin:inR 0 0 l.length=true:=by unfold inR;simp
 rw [hin] at hw
 simp only [aL,aR] at h
 by_cases hne:l=[]
 · subst hne
   simp [oeR] at h hw
   have hrun:∃ q m,RnW C 3002 [aR ks ke cap,aL [] e,.int .i64 0,.int .i64 0] [] 0=some (.tup [.agg [.ro 6 [] true],.int .i64 0],q,m):=by
    simp only [aL,aR]
    rw [bV H.ac7 rfl]
    simp [Qa,hw,h,H.inl,ak,H.pp,ppB]
   obtain ⟨q,m,hrun⟩:=hrun
   unfold bg
   rw [hrun]
   simp [oeR,ob,gW,dV,Pav.get,fE,hand,iq,om]
 · have hne2:l.map En.own≠[]:=by simpa using hne
   simp only [oeR,if_neg hne2] at h
   generalize l.map En.own=L at *
   have hrun:∃ q b m,Pav.get q b=some (.cells 6 (L.map eEn) true true)∧RnW C 3002 [aR ks ke cap,aL l e,.int .i64 0,.int .i64 0] [] 0=some (.tup [.agg [.sl b 6 0 L.length L.length true],.int .i64 0],q,m):=by
    simp only [aL,aR]
    rw [bV H.ac7 rfl]
    simp [Qa,hw,h,hne2,H.inl,ak,H.pp,ppB]
    exact ⟨_,_,by simp,rfl,rfl⟩
   obtain ⟨q,b,m,hq,hrun⟩:=hrun
   unfold bg
   rw [hrun]
   simp [oeR,hne2,hq,ob,gW,dV,Pav.get,fE,hand,iq,om]
theorem Xk (H:J5 C) (ks:List Kd) (ke:Bool) (cap v ov ls:Int) (hr:lg ks) (l:List En) (e:Bool) (hG:Gd ks cap l) (nid:Nat) :
 bg (RnW C) 3001 [aF ks ke cap v ov ls,aL l e] nid=some (ofR nid (l.map En.own)):=by
 have h:=fun nid=>afO H ks ke cap hr l e hG nid
 simp only [aL,aR] at h
 by_cases hne:l=[]
 · subst hne
   simp [oeR] at h
   have hrun:∃ q m,RnW C 3001 [aF ks ke cap v ov ls,aL [] e] [] 0=some (.agg [.ro 6 [] true],q,m):=by
    simp only [aL,aF]
    rw [bV H.aaG rfl]
    simp [Qu,h,H.inl,ak,H.pp,ppB]
   obtain ⟨q,m,hrun⟩:=hrun
   unfold bg
   rw [hrun]
   simp [ofR,ob,gW,dV,Pav.get,fE,hand,iq,om]
 · have hne2:l.map En.own≠[]:=by simpa using hne
   simp only [oeR,if_neg hne2] at h
   generalize l.map En.own=L at *
   have hrun:∃ q b m,Pav.get q b=some (.cells 6 (L.map eEn) true true)∧RnW C 3001 [aF ks ke cap v ov ls,aL l e] [] 0=some (.agg [.sl b 6 0 L.length L.length true],q,m):=by
    simp only [aL,aF]
    rw [bV H.aaG rfl]
    simp [Qu,h,hne2,H.inl,ak,H.pp,ppB]
    exact ⟨_,_,by simp,rfl,rfl⟩
   obtain ⟨q,b,m,hq,hrun⟩:=hrun
   unfold bg
   rw [hrun]
   simp [ofR,hne2,hq,ob,gW,dV,Pav.get,fE,hand,iq,om]
end Go.D
end
section
namespace Go.D
open Go Go.Pav Go.Pw P
set_option maxHeartbeats 2000000
attribute [-simp] List.getElem_cons_drop
variable {C:aG}
structure QL (C:aG):Prop extends QJ C,J5 C,yc C,ahE C where
 f174:C.fns.get 174=some acW
 anl:C.fns.get 350=some NV
def stR:Option (List En × Int × Nat)→AV
 | none=>.tup [.agg [.ro 6 [] true,.int .i64 0,.int .i64 0],.int .i64 13]
 | some x=>.tup [.agg [.ro 6 (x.1.map eEn) true,.int .i64 x.2.1,.int .i64 x.2.2],.int .i64 0]
theorem yR (ks:List Kd) (T:List Ht) (L:List En):rdF ks T L []=some L:=rfl
section
variable (ks:List Kd) (ke:Bool) (cap v ov ls k d:Int) (T:List Ht) (te:Bool)
theorem agx (H:QL C) (hr:lg ks) (hT:TOk T) (hTl:T.length≤1000000) (hv:1≤v∧v≤2147483648) (ho:0≤ov∧ov≤16):∀ (n:Nat) (L:List En) (r:Nat) (s:Int),L≠[]→ku L < n→r+n≤5000→Gd ks cap L→nN L k d →
 Bg C ⟨[(11,.ptr 0 0 0),(8,.ptr 2 0 0),(6,.ptr 3 0 0),(4,.ptr 4 0 0),(3,.ro 2 (T.map eHt) te)],[(0,.cells 3 [[.sl 1 6 0 L.length L.length true,.int .i64 s,.int .i64 r]] true false),(1,.cells 6 (L.map eEn) true true),(2,.cells 3 [[.ro 6 [] true,.int .i64 0,.int .i64 0]] true true),(3,.cells 2 [[.int .u64 k,.int .i64 d]] true true),(4,.cells 5 [[.ro 9 (ks.map eKd) ke,.int .i64 cap,.int .i64 v,.int .i64 ov,.int .i64 ls]] true true)],5⟩ =
  some (stR (stF ks T v ov k d n L r)):=by
 intro n
 induction n with
 | zero=>intro L r s _ h;exact absurd h (by omega)
 | succ n ih =>
  intro L r s hne hc hrn hG hA
  have hR:=apN ks ke cap v ov ls k d s r T te H.toQJ H.toyc H.toahE.toDk hr hT hTl hv ho L hne hG hA
  rw [stF]
  simp only [aF,aA,hpA,qbA] at hR
  cases hq:rdF ks T L (rdU ks L v ov k d) with
  | none =>
   obtain ⟨L',K,hl,q,h⟩:=hR.2 hq
   simp only [stR,Bg]
   rw [aj qZ.eq_1]
   try simp at h
   simp (disch:=omega) [h,hl,aB,H.inl,ak,H.pp,ppB]
  | some L' =>
   obtain ⟨Q,q,hQ,h⟩:=hR.1 L' hq
   obtain ⟨g1,g2⟩:=Ia hT _ _ _ hG hq
   have hl:L'.length=L.length:=by have:=congrArg List.length g2;simpa using this
   by_cases c:rdU ks L v ov k d=[]
   · rw [c,yR] at hq
     cases hq
     rw [c] at h
     simp only [if_pos c,stR,Bg]
     generalize eY L v k d=o at *
     have hTK:List.take L.length (L.map eEn)=L.map eEn:=List.take_of_length_le (by simp)
     rw [aj qZ.eq_1]
     rcases hQ with rfl | ⟨K,rfl⟩
     · try simp at h
       simp (disch:=omega) [h,hTK,aB,H.inl,ak,H.pp,ppB]
     · try simp at h
       simp (disch:=omega) [h,hTK,aB,H.inl,ak,H.pp,ppB]
   · have hlt:=NT T hq c
     have hU:(rdU ks L v ov k d).length≤1025:=by
      have hvp:=xA (k:=k) (d:=d) hG.szd hv
      have h1:=(wH (ks:=ks) hvp ho).1
      have:(rdU ks L v ov k d).length≤(fG ks L (eY L v k d) v ov).length:=List.length_filter_le ..
      have:=hG.n
      omega
     have hp:0 < (rdU ks L v ov k d).length:=List.length_pos_iff.2 c
     have hne':L'≠[]:=by intro q;rw [q] at hl;exact hne (List.length_eq_zero_iff.1 hl.symm)
     have this:=ih L' (r+1) (eY L v k d) hne' (by omega) (by omega) g1 (hA.it g2)
     simp only [if_neg c]
     rw [← this]
     generalize rdU ks L v ov k d=U at *
     generalize eY L v k d=o at *
     rw [hl]
     simp only [Bg]
     rw [aj qZ.eq_1]
     rcases hQ with rfl | ⟨K,rfl⟩
     · try simp at h
       simp (disch:=omega) [h,hp,aB,H.inl,ak,H.pp,ppB]
     · try simp at h
       simp (disch:=omega) [h,hp,aB,H.inl,ak,H.pp,ppB]
end
end Go.D
end
section
namespace Go.D
open Go Go.Pav Go.Pw P
set_option maxHeartbeats 1000000
theorem KG:∀ l:List En,sm (l.map En.own)=sm l
 | []=>rfl
 | a::r=>by rw [List.map_cons,sm,sm,KG r];rfl
theorem EN (l:List En) (i:Nat):top (l.map En.own) i=top l i:=by unfold top;rw [← List.map_take,KG]
theorem JJ:∀ (l:List En) (s:Int),oM s (l.map En.own)=oM s l
 | [],s=>rfl
 | a::r,s=>by rw [List.map_cons,oM,oM,JJ r];rfl
theorem L6 (l:List En):tot (l.map En.own)=tot l:=JJ l 0
theorem G8 (k:Int):∀ (l:List En) (i:Nat),fJ k i (l.map En.own)=fJ k i l
 | [],i=>rfl
 | a::r,i=>by rw [List.map_cons,fJ,fJ,G8 k r];rfl
theorem QS (l:List En) (x:Int):∀ n i,Qp (l.map En.own) x n i=Qp l x n i
 | 0,i=>rfl
 | n+1,i=>by rw [Qp,Qp,EN,EN,QS l x n]
theorem PD (l:List En) (x:Int):rowA (l.map En.own) x=rowA l x:=by unfold rowA;rw [List.length_map,QS]
theorem abv (l:List En) (s v:Int):DX (l.map En.own) s v=DX l s v:=by unfold DX;rw [List.length_map,PD]
theorem adl (l:List En) (s v:Int):DZ (l.map En.own) s v=DZ l s v:=by unfold DZ;rw [List.length_map,PD,KG]
theorem Wu (ks:List Kd) (l:List En) (o:Int):∀ n i a,hdF ks (l.map En.own) o n i a=hdF ks l o n i a
 | 0,i,a=>rfl
 | n+1,i,a=>by
  rw [hdF,hdF,EN,Wu ks l o n,List.getElem?_map]
  cases l[i]? <;> rfl
theorem Q8 (ks:List Kd) (l:List En) (o v k:Int):fG ks (l.map En.own) o v k=fG ks l o v k:=by
 unfold fG hdA wF wT
 rw [abv,adl,Wu,List.length_map]
theorem Za (l:List En) (v:Int):dI (l.map En.own) v=dI l v:=by unfold dI;rw [KG]
theorem oK (l:List En) (v k d:Int):eY (l.map En.own) v k d=eY l v k d:=by
 unfold eY clF
 rw [Za,EN,G8]
theorem QN (l:List En) (a:List Int):kY (l.map En.own) a=kY l a:=by
 unfold kY
 refine List.filter_congr fun x _=>?_
 rw [List.getElem?_map]
 cases l[x.toNat]? <;> rfl
theorem FN (ks:List Kd) (l:List En) (v over k d:Int):rdU ks (l.map En.own) v over k d=rdU ks l v over k d:=by
 unfold rdU;rw [oK,Q8,QN]
theorem acF (ks:List Kd) (T:List Ht) (l:List En) (i:Nat):jA ks T (l.map En.own) i=(jA ks T l i).map En.own:=by
 unfold jA
 rw [List.getElem?_map]
 cases l[i]? with
 | none=>rfl
 | some e=>simp only [Option.map_some,List.map_set];rfl
theorem Po (ks:List Kd) (T:List Ht):∀ (u:List Int) (l:List En),rdF ks T (l.map En.own) u=(rdF ks T l u).map (List.map En.own)
 | [],l=>rfl
 | i::r,l=>by
  rw [rdF,rdF,acF,L6]
  split
  · rfl
  · exact Po ks T r _
theorem LC (ks:List Kd) (T:List Ht) (v over k d:Int):∀ (n:Nat) (l:List En) (r:Nat),stF ks T v over k d n (l.map En.own) r=(stF ks T v over k d n l r).map fun x=>(x.1.map En.own,x.2)
 | 0,l,r=>rfl
 | n+1,l,r=>by
  rw [stF,stF,FN,Po,oK]
  cases rdF ks T l (rdU ks l v over k d) with
  | none=>rfl
  | some l' =>
   simp only [Option.map_some]
   split
   · rfl
   · exact LC ks T v over k d n l' (r+1)
theorem abP (ks:List Kd) (cap:Int) (e:En) (b:Bool):enE ks cap e.own b=enE ks cap e b:=by
 have h:itE ks cap e.own.i b=itE ks cap e.i b:=by
  unfold itE
  have h1:uI ks.length e.own.i=uI ks.length e.i:=rfl
  have h2:sJ (iU ks e.own.i.t).p e.own.i cap=sJ (iU ks e.i.t).p e.i cap:=by
   unfold sJ
   have h3:uG e.own.i=uG e.i:=rfl
   have h4:mkN e.own.i (iU ks e.i.t).p=mkN e.i (iU ks e.i.t).p:=by unfold mkN;rw [show e.own.i=e.i.own from rfl,aaf]
   have h5:e.own.i.t=e.i.t:=rfl
   rw [h3,h5,h4]
  rw [h1,h2]
 unfold enE
 rw [h];rfl
theorem Gd.own {ks:List Kd} {cap:Int} {l:List En} (h:Gd ks cap l):Gd ks cap (l.map En.own):=by
 refine ⟨h.ru,by rw [List.length_map];exact h.n,?_,?_,?_,by rw [L6];exact h.t⟩
 · intro x hx
   obtain ⟨y,hy,rfl⟩:=List.mem_map.1 hx
   exact ⟨⟨(h.e y hy).i.k,(h.e y hy).i.t,(h.e y hy).i.m⟩,(h.e y hy).s⟩
 · intro x hx
   obtain ⟨y,hy,rfl⟩:=List.mem_map.1 hx
   rw [abP];exact h.v y hy
 · rw [List.map_map];exact h.k
theorem nN.own {l:List En} {k d:Int} (h:nN l k d):nN (l.map En.own) k d :=
 ⟨h.k0,h.d0,h.z,fun q=>by rw [G8];exact h.f q⟩
end Go.D
end
section
namespace Go.D
open Go Go.Pav Go.Pw P
set_option maxHeartbeats 2000000
attribute [-simp] List.getElem_cons_drop
variable {C:aG}
structure SIn (ks:List Kd) (cap v ov:Int) (l:List En) (k d:Int) (T:List Ht):Prop where
 r:lg ks
 g:Gd ks cap l
 t:TOk T
 tl:T.length≤1000000
 v:1≤v∧v≤2147483648
 o:0≤ov∧ov≤16
 a:nN l k d
theorem SIn.own {ks:List Kd} {cap v ov:Int} {l:List En} {k d:Int} {T:List Ht} (h:SIn ks cap v ov l k d T):SIn ks cap v ov (l.map En.own) k d T :=
 ⟨h.r,h.g.own,h.t,h.tl,h.v,h.o,h.a.own⟩
theorem FV (l:List En):ku l≤l.length:=List.length_filter_le ..
def roR (ks:List Kd) (T:List Ht) (v ov k d:Int) (l:List En):AV:=match rdF ks T l (rdU ks l v ov k d) with
 | none=>.tup [.agg [.ro 6 [] true,.int .i64 0,.int .i64 0],.bool false,.int .i64 13]
 | some l'=>.tup [.agg [.ro 6 (l'.map eEn) true,.int .i64 (eY l v k d),.int .i64 (jH (rdU ks l v ov k d).length 1)],.bool (decide (rdU ks l v ov k d≠[])),.int .i64 0]
section
variable (ks:List Kd) (ke:Bool) (cap v ov ls k d:Int) (T:List Ht) (te:Bool)
theorem acS {k d:Int} (h:nN [] k d):k=0∧d=0:=by
 have h1:k=0:=by
  by_cases c:k=0
  · exact c
  · have:=h.f c;simp [fJ] at this
 exact ⟨h1,h.z h1⟩
theorem Oi (a:List Int):kY [] a=[]:=by
 unfold kY
 rw [List.filter_eq_nil_iff]
 intro x _
 simp
theorem emp (H:QL C) (S:SIn ks cap v ov [] 0 0 T):FnW C 161 [.agg [.ro 6 [] true],.int .i64 v,.agg [.int .u64 0,.int .i64 0]]=some (.tup [.int .i64 0,.int .i64 0]) ∧
 ∀ nid,bg (RnW C) 4001 [.agg [.ro 9 (ks.map eKd) ke,.int .i64 cap],.agg [.ro 6 [] true],.int .i64 0,.int .i64 v,.int .i64 ov] nid=some (.tup [.ro 1 [] true,.int .i64 0],[]):=by
 have hz:=S.g.szd
 have h1:=Cm H.toyc H.toahE.toDk [] true hz v S.v 0 0 S.a
 have h2:=fun nid=>Vr H.toQJ.toadU ks ke cap S.r [] true S.g.e S.g.ck S.g.ty (eY [] v 0 0) v ov (xA hz S.v) S.o nid
 refine ⟨by simpa [eY,aL,aA] using h1,fun nid=>?_⟩
 have:=h2 nid
 rw [Oi] at this
 simpa [eY,unR,aL,aR] using this
theorem BN (H:QL C) (l:List En) (e:Bool) (S:SIn ks cap v ov l k d T) (hc:FnW C 344 [aF ks ke cap v ov ls,aL l e,aA k d,.ro 2 (T.map eHt) te]=some (.int .i64 0)) :
 FnW C 174 [aF ks ke cap v ov ls,aL l e,aA k d,.ro 2 (T.map eHt) te]=some (stR (stF ks T v ov k d 1025 (l.map En.own) 0)):=by
 have ho:=fun nid=>Xk H.toJ5 ks ke cap v ov ls S.r l e S.g nid
 simp only [aF,aL,aA] at hc ho ⊢
 rw [aH H.f174 rfl]
 by_cases hne:l=[]
 · subst hne
   obtain ⟨rfl,rfl⟩:=acS S.a
   obtain ⟨h1,h2⟩:=emp ks ke cap v ov T H S
   have hres:stF ks T v ov 0 0 1025 ([].map En.own) 0=some ([],0,0):=by
    rw [List.map_nil,stF]
    have:rdU ks [] v ov 0 0=[]:=Oi _
    rw [this,yR]
    simp [eY]
   rw [hres]
   simp [ofR] at ho hc
   have hg:=fun x y z w h n=>bV (args:=[x,y,z,w]) H.Hw rfl h n
   simp (disch:=omega) [acW,aj qZ.eq_1,hc,ho,stR,hg,Az,aj fU.eq_1,aj kV.eq_1,h1,h2,aB,H.inl,ak,H.pp,ppB]
 · have hne2:l.map En.own≠[]:=by simpa using hne
   have hn:=S.g.n
   have hcu:=FV (l.map En.own)
   have hll:=uj l
   have S':=S.own
   simp only [ofR,if_neg hne2] at ho
   generalize l.map En.own=L at *
   have hlp:=agx ks ke cap v ov ls k d T te H S.r S.t S.tl S.v S.o 1025 L 0 0 hne2 (by omega) (by omega) S'.g S'.a
   simp only [Bg] at hlp
   simp at hlp
   simp (disch:=omega) [acW,hc,ho,hlp,aB,H.inl,ak,H.pp,ppB]
theorem acu (H:QL C) (l:List En) (e:Bool) (S:SIn ks cap v ov l k d T) (hc:FnW C 344 [aF ks ke cap v ov ls,aL l e,aA k d,.ro 2 (T.map eHt) te]=some (.int .i64 0)) :
 FnW C 350 [aF ks ke cap v ov ls,aL l e,aA k d,.ro 2 (T.map eHt) te]=some (roR ks T v ov k d (l.map En.own)):=by
 have ho:=fun nid=>Xk H.toJ5 ks ke cap v ov ls S.r l e S.g nid
 simp only [aF,aL,aA] at hc ho ⊢
 rw [aH H.anl rfl]
 by_cases hne:l=[]
 · subst hne
   obtain ⟨rfl,rfl⟩:=acS S.a
   obtain ⟨h1,h2⟩:=emp ks ke cap v ov T H S
   have hres:roR ks T v ov 0 0 ([].map En.own)=.tup [.agg [.ro 6 [] true,.int .i64 0,.int .i64 0],.bool false,.int .i64 0]:=by
    unfold roR
    rw [List.map_nil]
    have:rdU ks [] v ov 0 0=[]:=Oi _
    rw [this,yR]
    simp [eY,jH]
   rw [hres]
   simp [ofR] at ho hc
   have hg:=fun x y z w h n=>bV (args:=[x,y,z,w]) H.Hw rfl h n
   simp (disch:=omega) [NV,hc,ho,hg,Az,aj fU.eq_1,aj kV.eq_1,h1,h2,jH,aB,H.inl,ak,H.pp,ppB]
 · have hne2:l.map En.own≠[]:=by simpa using hne
   have hn:=S.g.n
   have hll:=uj l
   have S':=S.own
   simp only [ofR,if_neg hne2] at ho
   generalize l.map En.own=L at *
   have hR:=aqG ks ke cap v ov ls k d T te H.toQJ H.toyc H.toahE.toDk S.r S.t S.tl S.v S.o L hne2 S'.g S'.a
   have hTK:∀ L':List En,L'.length=L.length→List.take L.length (L'.map eEn)=L'.map eEn:=fun L' h=>List.take_of_length_le (by simp [h])
   unfold roR
   cases hq:rdF ks T L (rdU ks L v ov k d) with
   | none =>
    obtain ⟨L',K,hl,q,h⟩:=hR.2 hq
    simp only [aF,aA,hpB,qbB] at h
    try simp at h
    simp (disch:=omega) [NV,hc,ho,h,hl,aB,H.inl,ak,H.pp,ppB]
   | some L' =>
    obtain ⟨Q,q,hQ,h⟩:=hR.1 L' hq
    obtain ⟨g1,g2⟩:=Ia S.t _ _ _ S'.g hq
    have hl:L'.length=L.length:=by have:=congrArg List.length g2;simpa using this
    have hTL:=hTK L' hl
    have hpp:(0 < (rdU ks L v ov k d).length)↔rdU ks L v ov k d≠[]:=List.length_pos_iff
    generalize rdU ks L v ov k d=U at *
    generalize eY L v k d=o at *
    simp only [aF,aA,hpB,qbB] at h
    rcases hQ with rfl | ⟨K,rfl⟩
    · try simp at h
      by_cases c:U=[]
      · subst c
        simp at h
        simp (disch:=omega) [NV,hc,ho,h,hl,hTL,jH,aB,H.inl,ak,H.pp,ppB]
      · have hp:=hpp.2 c
        simp (disch:=omega) [NV,hc,ho,h,hl,hTL,hp,c,aB,H.inl,ak,H.pp,ppB]
    · try simp at h
      by_cases c:U=[]
      · subst c
        simp at h
        simp (disch:=omega) [NV,hc,ho,h,hl,hTL,jH,aB,H.inl,ak,H.pp,ppB]
      · have hp:=hpp.2 c
        simp (disch:=omega) [NV,hc,ho,h,hl,hTL,hp,c,aB,H.inl,ak,H.pp,ppB]
end
end Go.D
end
section
namespace Go.D
open Go Go.Pav Go.Pw P
set_option maxHeartbeats 2000000
attribute [-simp] List.getElem_cons_drop
variable {C:aG}
structure Jk (C:aG):Prop extends QL C where
 alL:C.fns.get 348=some afZ
 alH:C.fns.get 349=some aey
def rrR (ks:List Kd) (T:List Ht) (v ov k d:Int) (l:List En):AV:=match rdF ks T l (rdU ks l v ov k d) with
 | none=>.tup [.ro 6 [] true,.int .i64 0,.int .i64 0,.int .i64 13]
 | some l'=>.tup [.ro 6 (l'.map eEn) false,.int .i64 (eY l v k d),.int .i64 (rdU ks l v ov k d).length,.int .i64 0]
def rsR:Option (List En × Int × Nat)→AV
 | none=>.tup [.ro 6 [] true,.int .i64 0,.int .i64 0,.int .i64 13]
 | some x=>.tup [.ro 6 (x.1.map eEn) false,.int .i64 x.2.1,.int .i64 x.2.2,.int .i64 0]
section
variable (ks:List Kd) (ke:Bool) (cap v ov ls k d:Int) (T:List Ht) (te:Bool)
theorem ab4 (H:Jk C) (hr:lg ks) (hT:TOk T) (hTl:T.length≤1000000) (o:Int) (n:Nat) (U:List Int) (hU:∀ x ∈ U,0≤x∧x < n) (hul:U.length≤2000):∀ m i,m+i=U.length→∀ L:List En,L.length=n→Gd ks cap L →
 AB C ⟨[(19,.int .i64 i),(17,.sl 0 6 0 n n false),(16,.ro 1 (U.map eI) false),(12,.int .i64 o),(4,.ptr 1 0 0),(3,.ro 2 (T.map eHt) te)],[(0,.cells 6 (L.map eEn) true true),(1,.cells 5 [[.ro 9 (ks.map eKd) ke,.int .i64 cap,.int .i64 v,.int .i64 ov,.int .i64 ls]] true true)],2⟩ =
  some (match rdF ks T L (U.drop i) with
   | none=>.tup [.ro 6 [] true,.int .i64 0,.int .i64 0,.int .i64 13]
   | some l'=>.tup [.ro 6 (l'.map eEn) false,.int .i64 o,.int .i64 U.length,.int .i64 0]):=by
 intro m
 induction m with
 | zero =>
  intro i hi L hL hG
  have h3:¬ i < U.length:=by omega
  have q:U.drop i=[]:=List.drop_eq_nil_of_le (by omega)
  rw [q,rdF]
  have hTK:List.take n (L.map eEn)=L.map eEn:=List.take_of_length_le (by simp [hL])
  simp only [AB];rw [aj vI.eq_1]
  simp (disch:=omega) [aj J7.eq_1,h3,hL,hTK,aB,H.inl,ak,H.pp,ppB]
 | succ m ih =>
  intro i hi L hL hG
  have h1:i < U.length:=by omega
  have hj:=hU _ (List.getElem_mem h1)
  obtain ⟨j,hj2⟩:∃ j:Nat,U[i]=j:=⟨U[i].toNat,by omega⟩
  rw [drop_cons h1,rdF]
  rw [hj2] at hj ⊢
  rw [show ((j:Int)).toNat=j from rfl]
  have hjn:j < n:=by omega
  have hjL:j < L.length:=by omega
  have ht:=hG.ty _ (List.getElem_mem hjL)
  have h8:=hG.k8
  have hGn:=hG.n
  have hm:=aa9 H.toQJ.toIq ks ke cap v ov ls L[j].i (by omega) (by omega) T te hTl
  have hUl:(jA ks T L j).length=n:=by rw [uH,hL]
  have htot:=J3 H.toQJ.toadU.touJ.toDy.tokU (jA ks T L j) false (by omega) (by
   intro x hx
   rcases oq hx with hx | ⟨e,he,rfl⟩
   · exact (hG.e x hx).s
   · have:=E5 hT h8.2 (hG.ty e he)
     rw [o7] at this
     simp only [vlK];omega)
  unfold ovE at htot
  have hTK:∀ x,List.take n ((L.map eEn).set j x)=(L.map eEn).set j x:=fun x=>List.take_of_length_le (by simp [hL])
  have hSt:∀ x,((L.map eEn).set j x)[j]?=some x:=fun x=>by rw [List.getElem?_set_self (by simpa using hjL)]
  have hTK0:List.take n (L.map eEn)=L.map eEn:=List.take_of_length_le (by simp [hL])
  by_cases c:4611686018427387904 < tot (jA ks T L j)
  · rw [if_pos c] at htot ⊢
    rw [mO ks T L j hjL] at htot
    simp only [AB];rw [aj vI.eq_1]
    simp only [aF,eIt] at hm
    try simp at htot
    try simp at hm
    simp (disch:=omega) [h1,hj2,hjn,hjL,hL,hTK,hTK0,hSt,hm,htot,aB,H.inl,ak,H.pp,ppB]
  · rw [if_neg c] at htot ⊢
    have this:=ih (i+1) (by omega) (jA ks T L j) hUl (hG.upd hT j (by omega))
    rw [← this]
    rw [mO ks T L j hjL] at htot ⊢
    simp only [AB];rw [aj vI.eq_1]
    simp only [aF,eIt] at hm
    try simp at htot
    try simp at hm
    simp (disch:=omega) [h1,hj2,hjn,hjL,hL,hTK,hTK0,hSt,hm,htot,aB,H.inl,ak,H.pp,ppB]
theorem aeY {l:List En} (H:Jk C) (S:SIn ks cap v ov l k d T) (e:Bool) (o:Int) (U:List Int) (hU:∀ x ∈ U,0≤x∧x < l.length) (hul:U.length≤2000):∀ m i,m+i=l.length →
 FC C ⟨[(18,.int .i64 i),(17,.sl 0 6 0 i i false),(16,.ro 1 (U.map eI) false),(12,.int .i64 o),(4,.ptr 1 0 0),(3,.ro 2 (T.map eHt) te),(1,.ro 6 (l.map eEn) e)],[(0,.cells 6 ((l.take i).map eEn) true true),(1,.cells 5 [[.ro 9 (ks.map eKd) ke,.int .i64 cap,.int .i64 v,.int .i64 ov,.int .i64 ls]] true true)],2⟩ =
  some (match rdF ks T l U with
   | none=>.tup [.ro 6 [] true,.int .i64 0,.int .i64 0,.int .i64 13]
   | some l'=>.tup [.ro 6 (l'.map eEn) false,.int .i64 o,.int .i64 U.length,.int .i64 0]):=by
 intro m
 induction m with
 | zero =>
  intro i hi
  have hi:i=l.length:=by omega
  subst hi
  have hw:=ab4 ks ke cap v ov ls T te H S.r S.t S.tl o l.length U hU hul U.length 0 (by simp) l rfl S.g
  rw [List.drop_zero] at hw
  rw [← hw,List.take_length]
  simp only [FC,AB];rw [aj AL.eq_1]
  simp (disch:=omega) [aj Np.eq_1,aB,H.inl,ak,H.pp,ppB]
 | succ m ih =>
  intro i hi
  have h1:i < l.length:=by omega
  have hn:=S.g.n
  have hfit:(i+1) * 73≤35184372088832:=by omega
  have this:=ih (i+1) (by omega)
  have hft:l.take (i+1)=l.take i++[l[i]]:=List.take_succ_eq_append_getElem h1
  rw [hft,List.map_append] at this
  rw [← this]
  have hlen:(List.map eEn (List.take i l)).length=i:=by simp;omega
  have hmi:min i l.length=i:=by omega
  simp only [FC];rw [aj AL.eq_1]
  simp (disch:=omega) [h1,hfit,hlen,hmi,aB,H.inl,ak,H.pp,ppB]
theorem Ji {l:List En} (H:Jk C) (S:SIn ks cap v ov l k d T) (e:Bool) :
 FnW C 349 [aF ks ke cap v ov ls,.ro 6 (l.map eEn) e,aA k d,.ro 2 (T.map eHt) te]=some (rrR ks T v ov k d l):=by
 have hz:=S.g.szd
 have hn:=S.g.n
 have hvp:=xA (k:=k) (d:=d) hz S.v
 have h1:=TW H.toyc H.toahE.toDk l e hz v S.v k d S.a
 have h2:=KA H.toQJ.toadU.touJ.toDy ks ke cap S.r l e S.g.e S.g.ck S.g.ty (eY l v k d) v ov hvp S.o
 have hal:=(wH (ks:=ks) hvp S.o).1
 have hai:∀ x ∈ fG ks l (eY l v k d) v ov,0≤x∧x < l.length:=by
  intro x hx
  rw [← vG hvp S.o,vk] at hx
  omega
 have h3:=SN H.toQJ.toadU.touJ.toDy l e false (fG ks l (eY l v k d) v ov) (by omega) hai
 change FnW C 137 _=some (AV.ro 1 ((rdU ks l v ov k d).map eI) false) at h3
 have hUm:∀ x ∈ rdU ks l v ov k d,0≤x∧x < l.length:=fun x hx=>hai x (uz hx).1
 have hUl:(rdU ks l v ov k d).length≤2000:=by
  have:(rdU ks l v ov k d).length≤(fG ks l (eY l v k d) v ov).length:=List.length_filter_le ..
  omega
 have hc:=aeY ks ke cap v ov ls k d T te H S e (eY l v k d) (rdU ks l v ov k d) hUm hUl l.length 0 (by simp)
 unfold rrR
 generalize rdU ks l v ov k d=U at *
 generalize fG ks l (eY l v k d) v ov=A at *
 generalize eY l v k d=o at *
 rw [← hc]
 simp only [aF,aA,aR] at h1 h2 h3 ⊢
 rw [aH H.alH rfl]
 simp only [FC,List.take_zero,List.map_nil]
 simp (disch:=omega) [aey,h1,h2,h3,aB,H.inl,ak,H.pp,ppB]
theorem agM (H:Jk C):∀ (n:Nat) (l:List En) (e:Bool) (r:Nat),ku l < n→r+n≤5000→SIn ks cap v ov l k d T →
 y7 C ⟨[(12,.int .i64 r),(6,.ptr 0 0 0),(4,.ptr 1 0 0),(3,.ro 2 (T.map eHt) te),(1,.ro 6 (l.map eEn) e)],[(0,.cells 2 [[.int .u64 k,.int .i64 d]] true true),(1,.cells 5 [[.ro 9 (ks.map eKd) ke,.int .i64 cap,.int .i64 v,.int .i64 ov,.int .i64 ls]] true true)],2⟩ =
  some (rsR (stF ks T v ov k d n l r)):=by
 intro n
 induction n with
 | zero=>intro l e r h;exact absurd h (by omega)
 | succ n ih =>
  intro l e r hc hrn S
  have hR:=Ji ks ke cap v ov ls k d T te H S e
  rw [stF]
  unfold rrR at hR
  simp only [aF,aA] at hR
  cases hq:rdF ks T l (rdU ks l v ov k d) with
  | none =>
   rw [hq] at hR
   simp only [rsR,y7]
   rw [aj vO.eq_1]
   simp (disch:=omega) [hR,aB,H.inl,ak,H.pp,ppB]
  | some l' =>
   rw [hq] at hR
   obtain ⟨g1,g2⟩:=Ia S.t _ _ _ S.g hq
   by_cases c:rdU ks l v ov k d=[]
   · rw [c] at hR
     simp only [if_pos c,rsR,y7]
     generalize eY l v k d=o at *
     rw [aj vO.eq_1]
     simp at hR
     simp (disch:=omega) [hR,aB,H.inl,ak,H.pp,ppB]
   · have hlt:=NT T hq c
     have this:=ih l' false (r+1) (by omega) (by omega) ⟨S.r,g1,S.t,S.tl,S.v,S.o,S.a.it g2⟩
     simp only [if_neg c]
     rw [← this]
     generalize rdU ks l v ov k d=U at *
     generalize eY l v k d=o at *
     have hz:¬ U.length=0:=fun q=>c (List.length_eq_zero_iff.1 q)
     simp only [y7]
     rw [aj vO.eq_1]
     simp (disch:=omega) [hR,hz,c,aB,H.inl,ak,H.pp,ppB]
theorem Tf (H:Jk C) (l:List En) (e:Bool) (S:SIn ks cap v ov l k d T) :
 FnW C 348 [aF ks ke cap v ov ls,.ro 6 (l.map eEn) e,aA k d,.ro 2 (T.map eHt) te]=some (rsR (stF ks T v ov k d 1025 l 0)):=by
 have hn:=S.g.n
 have hcu:=FV l
 have h:=agM ks ke cap v ov ls k d T te H 1025 l e 0 (by omega) (by omega) S
 rw [aH H.alL rfl]
 simp only [y7] at h
 simp at h
 simp (disch:=omega) [afZ,h,aB,H.inl,ak,H.pp,ppB]
end
end Go.D
end
section
namespace Go.D
set_option maxHeartbeats 1000000
def KAt (S:List (Option Int)) (k:Int) (p d:Nat):Prop:=(∀ e < d,∃ k',S[(p+e) % S.length]?=some (some k')∧k'≠k)∧S[(p+d) % S.length]?=some (some k)
def KFr (S:List (Option Int)) (k:Int) (p d:Nat):Prop:=(∀ e < d,∃ k',S[(p+e) % S.length]?=some (some k')∧k'≠k)∧S[(p+d) % S.length]?=some none
structure KIn (st:Int→Nat) (S:List (Option Int)) (K:List Int):Prop where
 nd:K.Nodup
 mem:∀ k,some k ∈ S↔k ∈ K
 at_:∀ k ∈ K,∃ d < S.length,KAt S k (st k) d
 cn:S.count none+K.length=S.length
theorem CQ {S:List (Option Int)} {k:Int} (hk:some k ∉ S) (hr:none ∈ S) (p:Nat):∃ d < S.length,KFr S k p d:=by
 obtain ⟨j,hj,hjn⟩:=List.mem_iff_getElem.1 hr
 have hex:∃ d,S[(p+d) % S.length]?=some none∧d < S.length:=by
  refine ⟨(j+S.length - p % S.length) % S.length,?_,Nat.mod_lt _ (by omega)⟩
  have h1:(p+(j+S.length - p % S.length) % S.length) % S.length=j:=by
   have hp:p % S.length < S.length:=Nat.mod_lt _ (by omega)
   rw [Nat.add_mod,Nat.mod_mod,← Nat.add_mod,Nat.add_mod p,← Nat.add_mod]
   have e:p+(j+S.length - p % S.length)=j+S.length * (p / S.length+1):=by
    have:=Nat.div_add_mod p S.length
    rw [Nat.mul_add,Nat.mul_one]
    omega
   rw [e,Nat.add_mul_mod_self_left,Nat.mod_eq_of_lt hj]
  rw [h1,List.getElem?_eq_getElem hj,hjn]
 have hmin:∀ n,(∃ d,d≤n∧S[(p+d) % S.length]?=some none∧d < S.length)→∃ d < S.length,KFr S k p d:=by
  intro n
  induction n with
  | zero =>
   rintro ⟨d,h0,h1,h2⟩
   obtain rfl:d=0:=by omega
   exact ⟨0,h2,fun e he=>by omega,h1⟩
  | succ n ih =>
   rintro ⟨d,h0,h1,h2⟩
   by_cases h:∃ d',d'≤n∧S[(p+d') % S.length]?=some none∧d' < S.length
   · exact ih h
   · refine ⟨d,h2,fun e he=>?_,h1⟩
     have hlt:(p+e) % S.length < S.length:=Nat.mod_lt _ (by omega)
     cases hv:S[(p+e) % S.length] with
     | none=>exact absurd ⟨e,by omega,by rw [List.getElem?_eq_getElem hlt,hv],by omega⟩ h
     | some k' =>
      refine ⟨k',by rw [List.getElem?_eq_getElem hlt,hv],fun hkk=>hk ?_⟩
      subst hkk
      rw [← hv]
      exact List.getElem_mem hlt
 obtain ⟨d,h1,h2⟩:=hex
 exact hmin d ⟨d,Nat.le_refl _,h1,h2⟩
theorem ED {st:Int→Nat} {S:List (Option Int)} {K:List Int} {k:Int} {d:Nat} (h:KIn st S K) (hk:k ∉ K) (hd:d < S.length) (hf:KFr S k (st k) d) :
 KIn st (S.set ((st k+d) % S.length) (some k)) (K++[k]):=by
 have hlen:(S.set ((st k+d) % S.length) (some k)).length=S.length:=List.length_set ..
 have hlt:(st k+d) % S.length < S.length:=Nat.mod_lt _ (by omega)
 have hold:∀ (i:Nat) (k':Int),S[i]?=some (some k')→(S.set ((st k+d) % S.length) (some k))[i]?=some (some k'):=by
  intro i k' hi
  rw [List.getElem?_set]
  split
  · rename_i q
    rw [← q,hf.2] at hi
    simp at hi
  · exact hi
 have hnew:(S.set ((st k+d) % S.length) (some k))[(st k+d) % S.length]?=some (some k):=by
  rw [List.getElem?_set_self hlt]
 have hcn:(S.set ((st k+d) % S.length) (some k)).count none+(K++[k]).length=(S.set ((st k+d) % S.length) (some k)).length:=by
  have h1:=h.cn
  have h2:S[(st k+d) % S.length]=none:=by
   have:=hf.2
   rw [List.getElem?_eq_getElem hlt] at this
   simpa using this
  have h3:0 < S.count none:=List.count_pos_iff.2 (by rw [← h2];exact List.getElem_mem hlt)
  rw [hlen,List.count_set hlt,h2,List.length_append]
  simp
  omega
 refine ⟨?_,?_,?_,hcn⟩
 · rw [List.nodup_append]
   refine ⟨h.nd,by simp,fun a ha b hb=>?_⟩
   simp only [List.mem_singleton] at hb
   subst hb
   intro hab
   subst hab
   exact hk ha
 · intro k'
   rw [List.mem_append,List.mem_singleton]
   constructor
   · intro hm
     rcases List.mem_or_eq_of_mem_set hm with q | q
     · exact .inl ((h.mem k').1 q)
     · simp only [Option.some.injEq] at q
       exact .inr q
   · rintro (q | rfl)
     · obtain ⟨i,hi⟩:=List.mem_iff_getElem?.1 ((h.mem k').2 q)
       exact List.mem_of_getElem? (hold i k' hi)
     · exact List.mem_of_getElem? hnew
 · intro k' hk'
   rw [hlen]
   rcases List.mem_append.1 hk' with q | q
   · obtain ⟨d',h1,h2,h3⟩:=h.at_ k' q
     refine ⟨d',h1,fun e he=>?_,?_⟩
     · obtain ⟨k2,h4,h5⟩:=h2 e he
       rw [hlen]
       exact ⟨k2,hold _ _ h4,h5⟩
     · rw [hlen]
       exact hold _ _ h3
   · simp only [List.mem_singleton] at q
     subst q
     refine ⟨d,hd,fun e he=>?_,?_⟩
     · obtain ⟨k2,h4,h5⟩:=hf.1 e he
       rw [hlen]
       exact ⟨k2,hold _ _ h4,h5⟩
     · rw [hlen]
       exact hnew
theorem KIn.room {st:Int→Nat} {S:List (Option Int)} {K:List Int} (h:KIn st S K) (hl:K.length < S.length):none ∈ S:=List.count_pos_iff.1 (by have:=h.cn;omega)
theorem Fz (st:Int→Nat) (n:Nat):KIn st (List.replicate n none) []:=by
 refine ⟨List.nodup_nil,fun k=>by simp [List.mem_replicate],by simp,by simp⟩
def kys:List (Option Int)→List Int
 | []=>[]
 | some k::r=>k::kys r
 | none::r=>kys r
end Go.D
end
section
namespace Go.D
open Go Go.Pav Go.Pw P
set_option maxHeartbeats 1000000
attribute [-simp] List.getElem_cons_drop
variable {C:aG}
structure ZU (C:aG):Prop extends ng C where
 anf:C.fns.get 367=some afd
theorem amg (x:Int):0≤IntKind.u64.wrap x∧IntKind.u64.wrap x < 18446744073709551616:=by
 show 0≤(if (false&&decide (x % 18446744073709551616 ≥ 9223372036854775808))=true then x % 18446744073709551616 - 18446744073709551616 else x % 18446744073709551616)∧(if (false&&decide (x % 18446744073709551616 ≥ 9223372036854775808))=true then x % 18446744073709551616 - 18446744073709551616 else x % 18446744073709551616) < 18446744073709551616
 simp only [Bool.false_and,Bool.false_eq_true,if_false]
 omega
theorem aji (H:ZU C) (k:Int):∃ h:Int,FnW C 367 [.int .u64 k]=some (.int .u64 h)∧0≤h∧h < 18446744073709551616:=by
 rw [aH H.anf rfl]
 simp (disch:=omega) [afd,H.inl,ak,H.pp,ppB]
 exact amg _
noncomputable def gG (C:aG) (k:Int):Nat:=match FnW C 367 [.int .u64 k] with
 | some (.int _ h)=>h.toNat
 | _=>0
theorem akw (H:ZU C) (k:Int):FnW C 367 [.int .u64 k]=some (.int .u64 (gG C k))∧(gG C k:Int) < 18446744073709551616:=by
 obtain ⟨h,h1,h2,h3⟩:=aji H k
 have e:gG C k=h.toNat:=by unfold gG;rw [h1]
 rw [e,h1]
 refine ⟨?_,by omega⟩
 rw [show ((h.toNat:Nat):Int)=h by omega]
def eSo:Option Int→List AV
 | none=>[.int .u8 0,.int .u64 0,.int .i64 0]
 | some k=>[.int .u8 1,.int .u64 k,.int .i64 0]
@[simp] theorem atv:eSo none=[.int .u8 0,.int .u64 0,.int .i64 0]:=rfl
@[simp] theorem atn (k:Int):eSo (some k)=[.int .u8 1,.int .u64 k,.int .i64 0]:=rfl
end Go.D
end
section
namespace Go.D
open Go Go.Pav Go.Pw P
set_option maxHeartbeats 1000000
attribute [-simp] List.getElem_cons_drop
variable {C:aG}
structure Sv (C:aG):Prop extends ZU C where
 ain:C.fns.get 1191=some Ye
 ahP:C.fns.get 1102=some Zj
 ah8:C.fns.get 1100=some Jm
abbrev aM (S:List (Option Int)) (f:Bool) (c:Int):AV:=.rop [.ro 3 (S.map eSo) f,.int .i64 c,.int .i64 0]
theorem aby {S:List (Option Int)} {k:Int} {q d:Nat} (h:KAt S k q (d+1)):KAt S k ((q+1) % S.length) d:=by
 refine ⟨fun e he=>?_,?_⟩
 · have:=h.1 (e+1) (by omega)
   rwa [show q+(e+1)=q+1+e by omega,← Nat.mod_add_mod] at this
 · have:=h.2
   rwa [show q+(d+1)=q+1+d by omega,← Nat.mod_add_mod] at this
theorem abB {S:List (Option Int)} {k:Int} {q d:Nat} (h:KFr S k q (d+1)):KFr S k ((q+1) % S.length) d:=by
 refine ⟨fun e he=>?_,?_⟩
 · have:=h.1 (e+1) (by omega)
   rwa [show q+(e+1)=q+1+e by omega,← Nat.mod_add_mod] at this
 · have:=h.2
   rwa [show q+(d+1)=q+1+d by omega,← Nat.mod_add_mod] at this
theorem Zl (H:Sv C) (S:List (Option Int)) (f:Bool) (c:Int) (hS:S.length≤1000000) (k:Int):∀ d q r,q < S.length→r=(q+d) % S.length→∀ b:Bool,(b=true→KAt S k q d)→(b=false→KFr S k q d) →
 D8 C ⟨[(6,.int .i64 (-1)),(4,.int .i64 q),(1,.int .u64 k),(0,aM S f c)],[],0⟩=some (.tup [.int .i64 r,.bool b]):=by
 intro d
 induction d with
 | zero =>
  intro q r hlt hr b hb1 hb2
  rw [Nat.add_zero,Nat.mod_eq_of_lt hlt] at hr
  subst hr
  simp only [D8];rw [aj zS.eq_1]
  cases b
  · have h2:=(hb2 rfl).2
    rw [Nat.add_zero,Nat.mod_eq_of_lt hlt,List.getElem?_eq_getElem hlt] at h2
    simp only [Option.some.injEq] at h2
    simp (disch:=omega) [h2,hlt,aM,aB,H.inl,ak,H.pp,ppB]
  · have h2:=(hb1 rfl).2
    rw [Nat.add_zero,Nat.mod_eq_of_lt hlt,List.getElem?_eq_getElem hlt] at h2
    simp only [Option.some.injEq] at h2
    simp (disch:=omega) [h2,hlt,aM,aB,H.inl,ak,H.pp,ppB]
 | succ d ih =>
  intro q r hlt hr b hb1 hb2
  have h0:0 < S.length:=by omega
  have hq2:(q+1) % S.length < S.length:=Nat.mod_lt _ h0
  have hr2:r=((q+1) % S.length+d) % S.length:=by rw [hr,Nat.mod_add_mod];congr 1;omega
  have this:=ih ((q+1) % S.length) r hq2 hr2 b (fun h=>aby (hb1 h)) (fun h=>abB (hb2 h))
  have hk:∃ k',S[q]=some k'∧k'≠k:=by
   have:∃ k',S[(q+0) % S.length]?=some (some k')∧k'≠k:=by
    cases b
    · exact (hb2 rfl).1 0 (by omega)
    · exact (hb1 rfl).1 0 (by omega)
   rw [Nat.add_zero,Nat.mod_eq_of_lt hlt,List.getElem?_eq_getElem hlt] at this
   simpa using this
  obtain ⟨k',h1,h2⟩:=hk
  have hrem:((q:Int)+1).tmod S.length=(((q+1) % S.length:Nat):Int):=by
   rw [Int.tmod_eq_emod_of_nonneg (by omega)];push_cast;rfl
  have hne:¬ ((S.length:Int)=0):=by omega
  have hSn:¬ S=[]:=by intro h;rw [h] at hlt;simp at hlt
  generalize (q+1) % S.length=q2 at *
  simp only [D8] at this ⊢;rw [aj zS.eq_1]
  simp only [aM] at this
  simp (disch:=omega) [h1,h2,hlt,hrem,hne,hSn,aM,aB,H.inl,ak,H.pp,ppB,this]
theorem ae0 {S:List (Option Int)} {k:Int} {p d:Nat} (h:KAt S k p d):KAt S k (p % S.length) d:=by
 refine ⟨fun e he=>?_,?_⟩
 · have:=h.1 e he
   rwa [← Nat.mod_add_mod] at this
 · have:=h.2
   rwa [← Nat.mod_add_mod] at this
theorem agv {S:List (Option Int)} {k:Int} {p d:Nat} (h:KFr S k p d):KFr S k (p % S.length) d:=by
 refine ⟨fun e he=>?_,?_⟩
 · have:=h.1 e he
   rwa [← Nat.mod_add_mod] at this
 · have:=h.2
   rwa [← Nat.mod_add_mod] at this
theorem look_ok (H:Sv C) (S:List (Option Int)) (f:Bool) (c:Int) (hS:S.length≤1000000) (h0:0 < S.length) (k:Int) (d:Nat) (b:Bool) (hb1:b=true→KAt S k (gG C k) d) (hb2:b=false→KFr S k (gG C k) d) :
 FnW C 1191 [aM S f c,.int .u64 k]=some (.tup [.int .i64 ((gG C k+d) % S.length:Nat),.bool b]):=by
 have hlt:gG C k % S.length < S.length:=Nat.mod_lt _ h0
 have h:=Zl H S f c hS k d (gG C k % S.length) ((gG C k+d) % S.length) hlt (by rw [Nat.mod_add_mod]) b (fun h=>ae0 (hb1 h)) (fun h=>agv (hb2 h))
 obtain ⟨hm,hmb⟩:=akw H.toZU k
 have hrem:(gG C k:Int).tmod S.length=((gG C k % S.length:Nat):Int):=by
  rw [Int.tmod_eq_emod_of_nonneg (by omega)];push_cast;rfl
 have hne:¬ ((S.length:Int)=0):=by omega
 have hSn:¬ S=[]:=by intro h;rw [h] at h0;simp at h0
 rw [aH H.ain rfl]
 generalize (gG C k+d) % S.length=r at *
 generalize gG C k % S.length=q at *
 generalize gG C k=M at *
 simp only [D8,aM] at h
 simp (disch:=omega) [Ye,hm,hrem,hne,hSn,h,aM,aB,jZ,H.inl,ak,H.pp,ppB]
theorem af4 (H:Sv C) (S:List (Option Int)) (f:Bool) (c:Int):FnW C 1102 [aM S f c]=some (.int .i64 c):=by
 rw [aH H.ahP rfl]
 simp (disch:=omega) [Zj,aM,aB,H.inl,ak,H.pp,ppB]
structure yG (C:aG) (S:List (Option Int)) (K:List Int):Prop where
 k:KIn (gG C) S K
 l:S.length≤100000
 r:K=[]∧S=[]∨K.length < S.length
theorem NJ (H:Sv C) (S:List (Option Int)) (K:List Int) (f:Bool) (h:yG C S K) (k:Int):FnW C 1100 [aM S f K.length,.int .u64 k]=some (.tup [.int .i64 0,.bool (decide (k ∈ K))]):=by
 have hl:=af4 H S f K.length
 have hS:=h.l
 rw [aH H.ah8 rfl]
 by_cases c0:K=[]
 · subst c0
   simp only [aM] at hl
   simp at hl
   simp (disch:=omega) [Jm,hl,aM,aB,H.inl,ak,H.pp,ppB]
 · have hKl:0 < K.length:=List.length_pos_iff.2 c0
   have hlt:K.length < S.length:=by
    rcases h.r with ⟨q,_⟩ | q
    · exact absurd q c0
    · exact q
   by_cases ck:k ∈ K
   · obtain ⟨d,hd,hat⟩:=h.k.at_ k ck
     have hlk:=look_ok H S f K.length (by omega) (by omega) k d true (fun _=>hat) (by simp)
     have hpos:=hat.2
     have hr:(gG C k+d) % S.length < S.length:=Nat.mod_lt _ (by omega)
     rw [List.getElem?_eq_getElem hr] at hpos
     simp only [Option.some.injEq] at hpos
     rw [decide_eq_true ck]
     generalize (gG C k+d) % S.length=r at *
     simp only [aM] at hl hlk
     simp (disch:=omega) [Jm,hl,hlk,c0,hr,hpos,aM,aB,H.inl,ak,H.pp,ppB]
   · obtain ⟨d,hd,hfr⟩:=CQ (fun q=>ck ((h.k.mem k).1 q)) (h.k.room hlt) (gG C k)
     have hlk:=look_ok H S f K.length (by omega) (by omega) k d false (by simp) (fun _=>hfr)
     rw [decide_eq_false ck]
     generalize (gG C k+d) % S.length=r at *
     simp only [aM] at hl hlk
     simp (disch:=omega) [Jm,hl,hlk,c0,aM,aB,H.inl,ak,H.pp,ppB]
end Go.D
end
section
namespace Go.D
open Go Go.Pav Go.Pw P
set_option maxHeartbeats 1000000
attribute [-simp] List.getElem_cons_drop
variable {C:aG}
structure tu (C:aG):Prop extends Sv C where
 YP:C.fns.get 379=some P.BM
 f99:C.fns.get 99=some P.w99
 f192:C.fns.get 192=some P.adp
theorem ab2 (H:tu C) (S:List (Option Int)) (K:List Int) (h:yG C S K) (k:Int) (h0:¬ k=0) (hk:k ∉ K) (hK:K.length < 4096) (hr:4 * (K.length+1)≤3 * S.length) (X:List AV) :
 ∃ (S':List (Option Int)) (m:Nat),yG C S' (K++[k])∧S'.length=S.length∧RnW C 99 [.ptr 0 0 0,.int .u64 k,.int .i64 0] [(0,.cells 3 [[.sl 1 3 0 S.length S.length true,.int .i64 K.length,.int .i64 0]] true false),(1,.cells 3 (S.map eSo) true true),(6,.cells 2 [X] true true),(13,.cells 2 [X] true true)] 30 =
  some (.int .i64 0,[(0,.cells 3 [[.sl 1 3 0 S.length S.length true,.int .i64 (K.length+1:Nat),.int .i64 0]] true false),(1,.cells 3 (S'.map eSo) true true),(6,.cells 2 [X] true true),(13,.cells 2 [X] true true)],m):=by
 have hS:=h.l
 have hlt:K.length < S.length:=by omega
 obtain ⟨d,hd,hfr⟩:=CQ (fun q=>hk ((h.k.mem k).1 q)) (h.k.room hlt) (gG C k)
 have hlk:=fun f c=>look_ok H.toSv S f c (by omega) (by omega) k d false (by simp) (fun _=>hfr)
 have hput:=ED h.k hk hd hfr
 have hpos:=hfr.2
 have hrr:(gG C k+d) % S.length < S.length:=Nat.mod_lt _ (by omega)
 rw [List.getElem?_eq_getElem hrr] at hpos
 simp only [Option.some.injEq] at hpos
 generalize (gG C k+d) % S.length=r at *
 have hT:List.take S.length (List.map eSo S)=List.map eSo S:=List.take_of_length_le (by simp)
 refine ⟨S.set r (some k),?_⟩
 have hKM:yG C (S.set r (some k)) (K++[k]):=⟨hput,by simpa using h.l,.inr (by simp;omega)⟩
 have hne:¬ ((K.length:Int)=4096):=by omega
 have hw:¬ (3 * (S.length:Int) < 4 * ((K.length:Int)+1)):=by omega
 have hSn:0 < S.length:=by omega
 have hrun:∃ m,RnW C 99 [.ptr 0 0 0,.int .u64 k,.int .i64 0] [(0,.cells 3 [[.sl 1 3 0 S.length S.length true,.int .i64 K.length,.int .i64 0]] true false),(1,.cells 3 (S.map eSo) true true),(6,.cells 2 [X] true true),(13,.cells 2 [X] true true)] 30 =
  some (.int .i64 0,[(0,.cells 3 [[.sl 1 3 0 S.length S.length true,.int .i64 (K.length+1:Nat),.int .i64 0]] true false),(1,.cells 3 ((S.set r (some k)).map eSo) true true),(6,.cells 2 [X] true true),(13,.cells 2 [X] true true)],m):=by
  rw [bV H.f99 rfl]
  simp only [aM] at hlk
  simp at hlk
  simp (disch:=omega) [P.w99,hT,hlk,h0,hne,hw,hSn,hrr,hpos,aB,H.inl,ak,H.pp,ppB]
 obtain ⟨m,hrun⟩:=hrun
 exact ⟨m,hKM,by simp,hrun⟩
end Go.D
end
section
namespace Go.D
open Go Go.Pav Go.Pw P
set_option maxHeartbeats 1000000
attribute [-simp] List.getElem_cons_drop
variable {C:aG}
def wsz:Nat→Nat→Nat→Nat
 | 0,s,_=>s
 | f+1,s,n=>if s < 2 * n then wsz f (s * 2) n else s
theorem UR:∀ (f s n:Nat),s≤4096 * 4→n≤4096→wsz f s n≤4096 * 4
 | 0,s,n,h,_=>h
 | f+1,s,n,h,hn=>by
  rw [wsz]
  split
  · exact UR f (s * 2) n (by omega) hn
  · exact h
theorem TR:∀ (f s n:Nat),0 < s→2 * n≤s * 2 ^ f→2 * n≤wsz f s n
 | 0,s,n,h0,h=>by simpa [wsz] using h
 | f+1,s,n,h0,h=>by
  rw [wsz]
  split
  · exact TR f (s * 2) n (by omega) (by rw [Nat.pow_succ,Nat.mul_comm _ 2] at h;rw [Nat.mul_assoc];exact h)
  · omega
theorem YN (H:tu C) (need:Nat) (hn:need≤4096) (S:List (Option Int)) (c:Int) (X:List AV):∀ f s,s≤4096 * 4→2 * need≤s * 2 ^ f→∀ R,
 (CK C 55 (iW []) [] P.vT ⟨[(4,.int .i64 (wsz f s need)),(0,.ptr 0 0 0)],[(0,.cells 3 [[.sl 1 3 0 S.length S.length true,.int .i64 c,.int .i64 0]] true false),(1,.cells 3 (S.map eSo) true true),(6,.cells 2 [X] true true),(13,.cells 2 [X] true true)],55⟩=R) →
 CK C 55 (iW []) [.sq P.MN,.bk 0 ⟨true,[4,0],[]⟩,.sq P.vT] P.wW ⟨[(4,.int .i64 s),(1,.int .i64 need),(0,.ptr 0 0 0)],[(0,.cells 3 [[.sl 1 3 0 S.length S.length true,.int .i64 c,.int .i64 0]] true false),(1,.cells 3 (S.map eSo) true true),(6,.cells 2 [X] true true),(13,.cells 2 [X] true true)],55⟩=R:=by
 intro f
 induction f with
 | zero =>
  intro s hs hp R hR
  rw [wsz] at hR
  have h1:¬ ((s:Int) < 2 * need):=by omega
  rw [aj P.wW.eq_1]
  simp (disch:=omega) [h1,hR,aB,H.inl,ak,H.pp,ppB]
 | succ f ih =>
  intro s hs hp R hR
  rw [aj P.wW.eq_1]
  by_cases h1:s < 2 * need
  · have h1':(s:Int) < 2 * need:=by omega
    have:=ih (s * 2) (by omega) (by rw [Nat.pow_succ,Nat.mul_comm _ 2] at hp;rw [Nat.mul_assoc];exact hp) R (by rw [wsz,if_pos h1] at hR;exact hR)
    simp at this
    simp (disch:=omega) [h1',this,aB,H.inl,ak,H.pp,ppB]
  · have h1':¬ ((s:Int) < 2 * need):=by omega
    rw [wsz,if_neg h1] at hR
    simp (disch:=omega) [h1',hR,aB,H.inl,ak,H.pp,ppB]
end Go.D
end
section
namespace Go.D
open Go Go.Pav Go.Pw P
set_option maxHeartbeats 1000000
attribute [-simp] List.getElem_cons_drop
variable {C:aG}
theorem AX:∀ a b:List (Option Int),kys (a++b)=kys a++kys b
 | [],b=>rfl
 | some k::r,b=>by rw [List.cons_append,kys,kys,AX r b];rfl
 | none::r,b=>by rw [List.cons_append,kys,kys,AX r b]
theorem RY (H:tu C) (S:List (Option Int)) (hS:S.length≤100000) (hnd:(kys S).Nodup) (M:Nat) (hM:M≤100000) (hroom:(kys S).length < M) (c:Int) (X:List AV):∀ n i,n+i=S.length→∀ S2:List (Option Int),S2.length=M→KIn (gG C) S2 (kys (S.take i)) →
 ∃ (S3:List (Option Int)) (m:Nat),S3.length=M∧KIn (gG C) S3 (kys S) ∧
 CK C 55 (iW []) [.sq P.EO,.bk 2 ⟨true,[],[]⟩] P.pJ ⟨[(30,.int .i64 i),(29,.int .i64 S.length),(28,.sl 1 3 0 S.length S.length true),(0,.ptr 0 0 0)],
  [(0,.cells 3 [[.sl 55 3 0 M M true,.int .i64 c,.int .i64 0]] true false),(1,.cells 3 (S.map eSo) true true),(6,.cells 2 [X] true true),(13,.cells 2 [X] true true),(55,.cells 3 (S2.map eSo) true true)],56⟩ =
  some (.tup [],[(0,.cells 3 [[.sl 55 3 0 M M true,.int .i64 c,.int .i64 0]] true false),(1,.cells 3 (S.map eSo) true true),(6,.cells 2 [X] true true),(13,.cells 2 [X] true true),(55,.cells 3 (S3.map eSo) true true)],m):=by
 intro n
 induction n with
 | zero =>
  intro i hi S2 hl hK
  have hT:S.take i=S:=List.take_of_length_le (by omega)
  have h3:¬ i < S.length:=by omega
  rw [hT] at hK
  have hrun:∃ m,CK C 55 (iW []) [.sq P.EO,.bk 2 ⟨true,[],[]⟩] P.pJ ⟨[(30,.int .i64 i),(29,.int .i64 S.length),(28,.sl 1 3 0 S.length S.length true),(0,.ptr 0 0 0)],
   [(0,.cells 3 [[.sl 55 3 0 M M true,.int .i64 c,.int .i64 0]] true false),(1,.cells 3 (S.map eSo) true true),(6,.cells 2 [X] true true),(13,.cells 2 [X] true true),(55,.cells 3 (S2.map eSo) true true)],56⟩ =
   some (.tup [],[(0,.cells 3 [[.sl 55 3 0 M M true,.int .i64 c,.int .i64 0]] true false),(1,.cells 3 (S.map eSo) true true),(6,.cells 2 [X] true true),(13,.cells 2 [X] true true),(55,.cells 3 (S2.map eSo) true true)],m):=by
   rw [aj P.pJ.eq_1]
   simp (disch:=omega) [h3,aB,H.inl,ak,H.pp,ppB]
  obtain ⟨m,hrun⟩:=hrun
  exact ⟨S2,m,hl,hK,hrun⟩
 | succ n ih =>
  intro i hi S2 hl hK
  have p1:i < S.length:=by omega
  have hft:S.take (i+1)=S.take i++[S[i]]:=List.take_succ_eq_append_getElem p1
  have conv:∀ (x y:Option (AV × aK × Nat)),x=y→(∃ (S3:List (Option Int)) (m:Nat),S3.length=M∧KIn (gG C) S3 (kys S)∧y=some (.tup [],[(0,.cells 3 [[.sl 55 3 0 M M true,.int .i64 c,.int .i64 0]] true false),(1,.cells 3 (S.map eSo) true true),(6,.cells 2 [X] true true),(13,.cells 2 [X] true true),(55,.cells 3 (S3.map eSo) true true)],m)) →
   ∃ (S3:List (Option Int)) (m:Nat),S3.length=M∧KIn (gG C) S3 (kys S)∧x=some (.tup [],[(0,.cells 3 [[.sl 55 3 0 M M true,.int .i64 c,.int .i64 0]] true false),(1,.cells 3 (S.map eSo) true true),(6,.cells 2 [X] true true),(13,.cells 2 [X] true true),(55,.cells 3 (S3.map eSo) true true)],m):=by
   intro x y h;subst h;exact id
  cases hv:S[i] with
  | none =>
   have this:=ih (i+1) (by omega) S2 hl (by rw [hft,AX,hv];simpa [kys] using hK)
   refine conv _ _ ?_ this
   rw [aj P.pJ.eq_1]
   simp (disch:=omega) [p1,hv,aB,H.inl,ak,H.pp,ppB]
  | some k =>
   have hsp:kys S=kys (S.take i)++(k::kys (S.drop (i+1))):=by
    have:S=S.take i++(S[i]::S.drop (i+1)):=by rw [← List.drop_eq_getElem_cons p1,List.take_append_drop]
    rw [hv] at this
    calc kys S=kys (S.take i++(some k::S.drop (i+1))):=by rw [← this]
     _=_:=by rw [AX];rfl
   have hk:k ∉ kys (S.take i):=by
    rw [hsp,List.nodup_append] at hnd
    intro q
    exact hnd.2.2 k q k (by simp) rfl
   have hle:(kys (S.take i)).length < M:=by
    have:=congrArg List.length hsp
    simp at this
    omega
   obtain ⟨d,hd,hfr⟩:=CQ (fun q=>hk ((hK.mem k).1 q)) (hK.room (by omega)) (gG C k)
   have hlk:=fun f=>look_ok H.toSv S2 f c (by omega) (by omega) k d false (by simp) (fun _=>hfr)
   have hput:=ED hK hk hd hfr
   have hrr:(gG C k+d) % S2.length < S2.length:=Nat.mod_lt _ (by omega)
   have hpos:=hfr.2
   rw [List.getElem?_eq_getElem hrr] at hpos
   simp only [Option.some.injEq] at hpos
   generalize (gG C k+d) % S2.length=r at *
   have this:=ih (i+1) (by omega) (S2.set r (some k)) (by simpa using hl) (by rw [hft,AX,hv];exact hput)
   refine conv _ _ ?_ this
   have hT:List.take M (List.map eSo S2)=List.map eSo S2:=List.take_of_length_le (by simp;omega)
   have hr2:r < M:=by omega
   rw [aj P.pJ.eq_1]
   simp only [aM] at hlk
   simp at hlk
   simp (disch:=omega) [p1,hv,hT,hl,hlk,hr2,hpos,aB,H.inl,ak,H.pp,ppB]
end Go.D
end
section
namespace Go.D
open Go Go.Pav Go.Pw P
set_option maxHeartbeats 1000000
attribute [-simp] List.getElem_cons_drop
variable {C:aG}
theorem aaL (H:tu C) (S:List (Option Int)) (hS:S.length≤100000) (hnd:(kys S).Nodup) (need:Nat) (hn:need≤4096) (hk:(kys S).length < need) (c:Int) (X:List AV) :
 ∃ (S3:List (Option Int)) (m:Nat),S3.length=wsz 20 8 need∧KIn (gG C) S3 (kys S) ∧
  RnW C 192 [.ptr 0 0 0,.int .i64 need] [(0,.cells 3 [[.sl 1 3 0 S.length S.length true,.int .i64 c,.int .i64 0]] true false),(1,.cells 3 (S.map eSo) true true),(6,.cells 2 [X] true true),(13,.cells 2 [X] true true)] 55 =
   some (.tup [],[(0,.cells 3 [[.sl 55 3 0 (wsz 20 8 need) (wsz 20 8 need) true,.int .i64 c,.int .i64 0]] true false),(1,.cells 3 (S.map eSo) true true),(6,.cells 2 [X] true true),(13,.cells 2 [X] true true),(55,.cells 3 (S3.map eSo) true true)],m):=by
 have hw1:=UR 20 8 need (by omega) hn
 have hw2:=TR 20 8 need (by omega) (by omega)
 obtain ⟨S3,m,h1,h2,h3⟩:=RY H S hS hnd (wsz 20 8 need) (by omega) (by omega) c X S.length 0 rfl (List.replicate (wsz 20 8 need) none) (by simp) (Fz _ _)
 have hc0:CK C 55 (iW []) [] P.vT ⟨[(4,.int .i64 (wsz 20 8 need)),(0,.ptr 0 0 0)],[(0,.cells 3 [[.sl 1 3 0 S.length S.length true,.int .i64 c,.int .i64 0]] true false),(1,.cells 3 (S.map eSo) true true),(6,.cells 2 [X] true true),(13,.cells 2 [X] true true)],55⟩ =
  some (.tup [],[(0,.cells 3 [[.sl 55 3 0 (wsz 20 8 need) (wsz 20 8 need) true,.int .i64 c,.int .i64 0]] true false),(1,.cells 3 (S.map eSo) true true),(6,.cells 2 [X] true true),(13,.cells 2 [X] true true),(55,.cells 3 (S3.map eSo) true true)],m):=by
  have hmk:wsz 20 8 need * 25≤35184372088832:=by omega
  generalize wsz 20 8 need=M at *
  rw [aj P.vT.eq_1]
  simp at h3
  simp (disch:=omega) [hmk,h3,aB,H.inl,ak,H.pp,ppB]
 have hs:=YN H need hn S c X 20 8 (by omega) (by omega) _ hc0
 refine ⟨S3,m,h1,h2,?_⟩
 rw [bV H.f192 rfl]
 simp at hs
 simp (disch:=omega) [P.adp,hs,aB,H.inl,ak,H.pp,ppB]
end Go.D
end
section
namespace Go.D
open Go Go.Pav Go.Pw P
set_option maxHeartbeats 1000000
attribute [-simp] List.getElem_cons_drop
variable {C:aG}
theorem Em:∀ (S:List (Option Int)) (k:Int),k ∈ kys S↔some k ∈ S
 | [],k=>by simp [kys]
 | some a::r,k=>by rw [kys,List.mem_cons,List.mem_cons,Em r k];simp
 | none::r,k=>by rw [kys,List.mem_cons,Em r k];simp
theorem zX:∀ (S:List (Option Int)),S.count none+(kys S).length=S.length
 | []=>rfl
 | some a::r=>by
  have:=zX r
  rw [kys,List.count_cons,List.length_cons,List.length_cons]
  simp
  omega
 | none::r=>by
  have:=zX r
  rw [kys,List.count_cons,List.length_cons]
  simp
  omega
theorem afu {st:Int→Nat} {S S3:List (Option Int)} {K:List Int} (h:KIn st S K) (h3:KIn st S3 (kys S)):KIn st S3 K:=by
 have e:∀ k,k ∈ kys S↔k ∈ K:=fun k=>(Em S k).trans (h.mem k)
 have hl:(kys S).length=K.length:=by have:=h.cn;have:=zX S;omega
 exact ⟨h.nd,fun k=>(h3.mem k).trans (e k),fun k hk=>h3.at_ k ((e k).2 hk),by have:=h3.cn;omega⟩
theorem Jz:∀ (K L:List Int),K.Nodup→(∀ k ∈ K,k ∈ L)→L.length=K.length→L.Nodup
 | [],L,_,_,h=>by rw [List.eq_nil_of_length_eq_zero h];exact List.nodup_nil
 | a::K,L,hn,hs,hl=>by
  have ha:=hs a (by simp)
  have hp:L.Perm (a::L.erase a):=List.perm_cons_erase ha
  rw [List.nodup_cons] at hn
  have hlen:(L.erase a).length=K.length:=by have:=hp.length_eq;simp at this hl;omega
  have hn2:=Jz K (L.erase a) hn.2 (fun k hk=>by
   have hne:k≠a:=fun q=>hn.1 (q ▸ hk)
   exact (List.mem_erase_of_ne hne).2 (hs k (List.mem_cons_of_mem _ hk))) hlen
  refine hp.nodup_iff.2 (List.nodup_cons.2 ⟨fun q=>?_,hn2⟩)
  have h3:∀ k ∈ a::K,k ∈ L.erase a:=fun k hk=>by
   rcases List.mem_cons.1 hk with rfl | hk
   · exact q
   · have hne:k≠a:=fun q=>hn.1 (q ▸ hk)
     exact (List.mem_erase_of_ne hne).2 (hs k (List.mem_cons_of_mem _ hk))
  have h4:(a::K).length≤(L.erase a).length:=by
   have hsub:∀ (A B:List Int),A.Nodup→(∀ k ∈ A,k ∈ B)→A.length≤B.length:=by
    intro A
    induction A with
    | nil=>intro B _ _;simp
    | cons x A ih =>
     intro B hA hB
     rw [List.nodup_cons] at hA
     have hx:=hB x (by simp)
     have:=ih (B.erase x) hA.2 (fun k hk=>by
      have hne:k≠x:=fun q=>hA.1 (q ▸ hk)
      exact (List.mem_erase_of_ne hne).2 (hB k (List.mem_cons_of_mem _ hk)))
     have h5:=(List.perm_cons_erase hx).length_eq
     simp at h5 ⊢
     omega
   exact hsub _ _ (List.nodup_cons.2 hn) h3
  simp at h4
  omega
theorem ajo {st:Int→Nat} {S:List (Option Int)} {K:List Int} (h:KIn st S K):(kys S).Nodup :=
 Jz K (kys S) h.nd (fun k hk=>(Em S k).2 ((h.mem k).2 hk)) (by have:=h.cn;have:=zX S;omega)
theorem ajP {st:Int→Nat} {S:List (Option Int)} {K:List Int} (h:KIn st S K):(kys S).length=K.length:=by have:=h.cn;have:=zX S;omega
end Go.D
end
section
namespace Go.D
open Go Go.Pav Go.Pw P
set_option maxHeartbeats 1000000
attribute [-simp] List.getElem_cons_drop
variable {C:aG}
theorem abK (H:tu C) (S:List (Option Int)) (K:List Int) (h:yG C S K) (k:Int) (h0:¬ k=0) (hk:k ∉ K) (hK:K.length < 4096) (hlt:K.length < S.length) (hr:3 * S.length < 4 * (K.length+1)) (X:List AV) :
 ∃ (S':List (Option Int)) (m:Nat),yG C S' (K++[k])∧RnW C 99 [.ptr 0 0 0,.int .u64 k,.int .i64 0] [(0,.cells 3 [[.sl 1 3 0 S.length S.length true,.int .i64 K.length,.int .i64 0]] true false),(1,.cells 3 (S.map eSo) true true),(6,.cells 2 [X] true true),(13,.cells 2 [X] true true)] 30 =
  some (.int .i64 0,[(0,.cells 3 [[.sl 30 3 0 S'.length S'.length true,.int .i64 (K.length+1:Nat),.int .i64 0]] true false),(1,.cells 3 (S.map eSo) true true),(6,.cells 2 [X] true true),(13,.cells 2 [X] true true),(30,.cells 3 (S'.map eSo) true true)],m):=by
 have hS:=h.l
 obtain ⟨d,hd,hfr⟩:=CQ (fun q=>hk ((h.k.mem k).1 q)) (h.k.room hlt) (gG C k)
 have hlk:=fun f c=>look_ok H.toSv S f c (by omega) (by omega) k d false (by simp) (fun _=>hfr)
 have hSk:=ajP h.k
 obtain ⟨S3,m3,w1,w2,w3⟩:=aaL H S (by omega) (ajo h.k) (K.length+1) (by omega) (by omega) K.length X
 have w2:=afu h.k w2
 have hw1:=UR 20 8 (K.length+1) (by omega) (by omega)
 have hw2:=TR 20 8 (K.length+1) (by omega) (by omega)
 rw [← w1] at w3 hw1 hw2
 obtain ⟨d3,hd3,hfr3⟩:=CQ (fun q=>hk ((w2.mem k).1 q)) (w2.room (by omega)) (gG C k)
 have hlk3:=fun f c=>look_ok H.toSv S3 f c (by omega) (by omega) k d3 false (by simp) (fun _=>hfr3)
 have hput:=ED w2 hk hd3 hfr3
 have hpos:=hfr3.2
 have hrr:(gG C k+d3) % S3.length < S3.length:=Nat.mod_lt _ (by omega)
 rw [List.getElem?_eq_getElem hrr] at hpos
 simp only [Option.some.injEq] at hpos
 generalize (gG C k+d3) % S3.length=r3 at *
 have hKM:yG C (S3.set r3 (some k)) (K++[k]):=⟨hput,by simp;omega,.inr (by simp;omega)⟩
 have hT3:List.take S3.length (List.map eSo S3)=List.map eSo S3:=List.take_of_length_le (by simp)
 refine ⟨S3.set r3 (some k),?_⟩
 have hrun:∃ m,RnW C 99 [.ptr 0 0 0,.int .u64 k,.int .i64 0] [(0,.cells 3 [[.sl 1 3 0 S.length S.length true,.int .i64 K.length,.int .i64 0]] true false),(1,.cells 3 (S.map eSo) true true),(6,.cells 2 [X] true true),(13,.cells 2 [X] true true)] 30 =
  some (.int .i64 0,[(0,.cells 3 [[.sl 30 3 0 S3.length S3.length true,.int .i64 (K.length+1:Nat),.int .i64 0]] true false),(1,.cells 3 (S.map eSo) true true),(6,.cells 2 [X] true true),(13,.cells 2 [X] true true),(30,.cells 3 ((S3.set r3 (some k)).map eSo) true true)],m):=by
  generalize (gG C k+d) % S.length=r at *
  have hT:List.take S.length (List.map eSo S)=List.map eSo S:=List.take_of_length_le (by simp)
  have hne:¬ ((K.length:Int)=4096):=by omega
  have hw:(3 * (S.length:Int) < 4 * ((K.length:Int)+1)):=by omega
  have hSn:0 < S.length:=by omega
  rw [bV H.f99 rfl]
  simp only [aM] at hlk hlk3
  simp at hlk hlk3 w3
  simp (disch:=omega) [P.w99,hT,hT3,hlk,hlk3,w3,hrr,hpos,h0,hne,hw,hSn,aB,H.inl,ak,H.pp,ppB]
 obtain ⟨m,hrun⟩:=hrun
 exact ⟨m,hKM,by simpa using hrun⟩
end Go.D
end
section
namespace Go.D
open Go Go.Pav Go.Pw P
set_option maxHeartbeats 1000000
attribute [-simp] List.getElem_cons_drop
variable {C:aG}
abbrev kH (b:Nat) (S:List (Option Int)) (K:List Int):fZ:=.cells 3 [[.sl b 3 0 S.length S.length true,.int .i64 K.length,.int .i64 0]] true false
abbrev kS (S:List (Option Int)):fZ:=.cells 3 (S.map eSo) true true
abbrev hX (x:Ht):fZ:=.cells 2 [[.int .u64 x.k,.int .i64 x.s]] true true
theorem acU (H:tu C) (S:List (Option Int)) (K:List Int) (h:yG C S K) (x:Ht) (d:Int) (hE:¬ qN d K x=0) :
 ∃ Q m,RnW C 379 [.agg [.int .u64 x.k,.int .i64 x.s],.int .i64 d,.ptr 0 0 0] [(0,kH 1 S K),(1,kS S),(6,hX x)] 13=some (.int .i64 (qN d K x),Q,m):=by
 have hg:=fun f=>NJ H.toSv S K f h x.k
 have hT:List.take S.length (List.map eSo S)=List.map eSo S:=List.take_of_length_le (by simp)
 rw [bV H.YP rfl]
 unfold qN at hE ⊢
 simp only [aM] at hg
 by_cases h0:x.k=0
 · rw [if_pos h0]
   simp only [h0] at hg
   simp at hg
   simp (disch:=omega) [P.BM,hT,hg,h0,aB,H.inl,ak,H.pp,ppB]
 · rw [if_neg h0] at hE ⊢
   by_cases h1:x.s < d
   · rw [if_pos (.inl h1)]
     simp at hg
     simp (disch:=omega) [P.BM,hT,hg,h0,h1,aB,H.inl,ak,H.pp,ppB]
   · by_cases h2:2305843009213693952 < x.s
     · rw [if_pos (.inr h2)]
       simp at hg
       simp (disch:=omega) [P.BM,hT,hg,h0,h1,h2,aB,H.inl,ak,H.pp,ppB]
     · rw [if_neg (by omega)] at hE ⊢
       by_cases hk:x.k ∈ K
       · rw [if_pos hk]
         simp only [decide_eq_true hk] at hg
         simp at hg
         simp (disch:=omega) [P.BM,hT,hg,h0,h1,h2,aB,H.inl,ak,H.pp,ppB]
       · rw [if_neg hk] at hE
         exact absurd rfl hE
theorem Yk (H:tu C) (S:List (Option Int)) (K:List Int) (h:yG C S K) (hne:S≠[]) (hK:K.length < 4096) (x:Ht) (d:Int) (hE:qN d K x=0) :
 ∃ S',yG C S' (K++[x.k])∧S'≠[] ∧
  ((∃ m, RnW C 379 [.agg [.int .u64 x.k, .int .i64 x.s], .int .i64 d, .ptr 0 0 0] [(0, kH 1 S K), (1, kS S), (6, hX x)] 13 = some (.int .i64 0, [(0, kH 1 S' (K ++ [x.k])), (1, kS S'), (6, hX x), (13, hX x)], m)) ∨
   (∃ m,RnW C 379 [.agg [.int .u64 x.k,.int .i64 x.s],.int .i64 d,.ptr 0 0 0] [(0,kH 1 S K),(1,kS S),(6,hX x)] 13=some (.int .i64 0,[(0,kH 30 S' (K++[x.k])),(1,kS S),(6,hX x),(13,hX x),(30,kS S')],m))):=by
 have hg:=fun f=>NJ H.toSv S K f h x.k
 have hT:List.take S.length (List.map eSo S)=List.map eSo S:=List.take_of_length_le (by simp)
 have hlt:K.length < S.length:=by
  rcases h.r with ⟨_,q⟩ | q
  · exact absurd q hne
  · exact q
 unfold qN at hE
 by_cases h0:x.k=0
 · rw [if_pos h0] at hE;exact absurd hE (by decide)
 rw [if_neg h0] at hE
 by_cases h1:x.s < d∨2305843009213693952 < x.s
 · rw [if_pos h1] at hE;exact absurd hE (by decide)
 rw [if_neg h1] at hE
 by_cases hk:x.k ∈ K
 · rw [if_pos hk] at hE;exact absurd hE (by decide)
 obtain ⟨h1,h2⟩:¬ x.s < d∧¬ 2305843009213693952 < x.s:=by omega
 simp only [aM,decide_eq_false hk] at hg
 simp at hg
 by_cases hr:4 * (K.length+1)≤3 * S.length
 · obtain ⟨S',m,q1,q2,q3⟩:=ab2 H S K h x.k h0 hk hK hr [.int .u64 x.k,.int .i64 x.s]
   refine ⟨S',q1,by intro q;rw [q] at q2;exact hne (List.length_eq_zero_iff.1 q2.symm),.inl ?_⟩
   rw [bV H.YP rfl]
   simp at q3
   simp (disch:=omega) [P.BM,hT,hg,h0,h1,h2,q2,q3,aB,H.inl,ak,H.pp,ppB]
 · obtain ⟨S',m,q1,q3⟩:=abK H S K h x.k h0 hk hK hlt (by omega) [.int .u64 x.k,.int .i64 x.s]
   refine ⟨S',q1,?_,.inr ?_⟩
   · intro q
     rcases q1.r with ⟨q,_⟩ | q4
     · simp at q
     · rw [q] at q4;simp at q4
   rw [bV H.YP rfl]
   simp at q3
   simp (disch:=omega) [P.BM,hT,hg,h0,h1,h2,q3,aB,H.inl,ak,H.pp,ppB]
end Go.D
end
section
namespace Go.D
open Go Go.Pav Go.Pw P
set_option maxHeartbeats 1000000
attribute [-simp] List.getElem_cons_drop
variable {C:aG}
abbrev k0:fZ:=.cells 3 [[.ro 3 [] true,.int .i64 0,.int .i64 0]] true true
theorem PI (H:tu C) (X:List AV) :
 ∃ m,RnW C 192 [.ptr 0 0 0,.int .i64 1] [(0,k0),(5,.cells 2 [X] true true),(12,.cells 2 [X] true true)] 54 =
  some (.tup [],[(0,.cells 3 [[.sl 54 3 0 8 8 true,.int .i64 0,.int .i64 0]] true false),(5,.cells 2 [X] true true),(12,.cells 2 [X] true true),(54,.cells 3 ((List.replicate 8 none).map eSo) true true)],m):=by
 rw [bV H.f192 rfl]
 simp (disch:=omega) [P.adp,aj P.wW.eq_1,aj P.vT.eq_1,aj P.pJ.eq_1,aB,H.inl,ak,H.pp,ppB]
theorem Yg (H:tu C) (k:Int) (h0:¬ k=0) (X:List AV) :
 ∃ (S':List (Option Int)) (m:Nat),yG C S' [k]∧S'≠[]∧RnW C 99 [.ptr 0 0 0,.int .u64 k,.int .i64 0] [(0,k0),(5,.cells 2 [X] true true),(12,.cells 2 [X] true true)] 29 =
  some (.int .i64 0,[(0,.cells 3 [[.sl 29 3 0 S'.length S'.length true,.int .i64 1,.int .i64 0]] true false),(5,.cells 2 [X] true true),(12,.cells 2 [X] true true),(29,.cells 3 (S'.map eSo) true true)],m):=by
 obtain ⟨m3,w3⟩:=PI H X
 have hk0:KIn (gG C) (List.replicate 8 none) []:=Fz _ _
 obtain ⟨d3,hd3,hfr3⟩:=CQ (k:=k) (fun q=>by simpa using (hk0.mem k).1 q) (hk0.room (by simp)) (gG C k)
 have hlk3:=fun f c=>look_ok H.toSv (List.replicate 8 none) f c (by simp) (by simp) k d3 false (by simp) (fun _=>hfr3)
 have hput:=ED hk0 (by simp) hd3 hfr3
 have hpos:=hfr3.2
 have hrr:(gG C k+d3) % (List.replicate 8 (none:Option Int)).length < (List.replicate 8 (none:Option Int)).length:=Nat.mod_lt _ (by simp)
 rw [List.getElem?_eq_getElem hrr] at hpos
 simp only [Option.some.injEq] at hpos
 have hlen:(List.replicate 8 (none:Option Int)).length=8:=List.length_replicate
 generalize hS3:List.replicate 8 (none:Option Int)=S3 at *
 generalize (gG C k+d3) % S3.length=r3 at *
 rw [hlen] at hrr
 have hT3:List.take 8 (List.map eSo S3)=List.map eSo S3:=List.take_of_length_le (by simp [hlen])
 refine ⟨S3.set r3 (some k),?_⟩
 have hrun:∃ m,RnW C 99 [.ptr 0 0 0,.int .u64 k,.int .i64 0] [(0,k0),(5,.cells 2 [X] true true),(12,.cells 2 [X] true true)] 29 =
  some (.int .i64 0,[(0,.cells 3 [[.sl 29 3 0 8 8 true,.int .i64 1,.int .i64 0]] true false),(5,.cells 2 [X] true true),(12,.cells 2 [X] true true),(29,.cells 3 ((S3.set r3 (some k)).map eSo) true true)],m):=by
  rw [bV H.f99 rfl]
  simp only [aM] at hlk3
  simp at hlk3 w3
  simp (disch:=omega) [P.w99,hT3,hlk3,w3,hrr,hpos,hlen,h0,aB,H.inl,ak,H.pp,ppB]
 obtain ⟨m,hrun⟩:=hrun
 refine ⟨m,⟨by simpa using hput,by simp [hlen],.inr (by simp [hlen])⟩,?_,by simpa [hlen] using hrun⟩
 intro q
 have:=congrArg List.length q
 simp [hlen] at this
theorem XO (H:tu C) (x:Ht) (d:Int) (hE:¬ qN d [] x=0) :
 ∃ Q m,RnW C 379 [.agg [.int .u64 x.k,.int .i64 x.s],.int .i64 d,.ptr 0 0 0] [(0,k0),(5,hX x)] 12=some (.int .i64 (qN d [] x),Q,m):=by
 have h:yG C [] []:=⟨Fz (gG C) 0,by simp,.inl ⟨rfl,rfl⟩⟩
 have hg:=fun f=>NJ H.toSv [] [] f h x.k
 rw [bV H.YP rfl]
 unfold qN at hE ⊢
 simp only [aM] at hg
 by_cases h0:x.k=0
 · rw [if_pos h0]
   simp only [h0] at hg
   simp at hg
   simp (disch:=omega) [P.BM,hg,h0,aB,H.inl,ak,H.pp,ppB]
 · rw [if_neg h0] at hE ⊢
   by_cases h1:x.s < d
   · rw [if_pos (.inl h1)]
     simp at hg
     simp (disch:=omega) [P.BM,hg,h0,h1,aB,H.inl,ak,H.pp,ppB]
   · by_cases h2:2305843009213693952 < x.s
     · rw [if_pos (.inr h2)]
       simp at hg
       simp (disch:=omega) [P.BM,hg,h0,h1,h2,aB,H.inl,ak,H.pp,ppB]
     · rw [if_neg (by omega)] at hE ⊢
       simp at hE
theorem UL (H:tu C) (x:Ht) (d:Int) (hE:qN d [] x=0) :
 ∃ S',yG C S' [x.k]∧S'≠[] ∧
  ∃ m,RnW C 379 [.agg [.int .u64 x.k,.int .i64 x.s],.int .i64 d,.ptr 0 0 0] [(0,k0),(5,hX x)] 12=some (.int .i64 0,[(0,.cells 3 [[.sl 29 3 0 S'.length S'.length true,.int .i64 1,.int .i64 0]] true false),(5,hX x),(12,hX x),(29,kS S')],m):=by
 have h:yG C [] []:=⟨Fz (gG C) 0,by simp,.inl ⟨rfl,rfl⟩⟩
 have hg:=fun f=>NJ H.toSv [] [] f h x.k
 unfold qN at hE
 by_cases h0:x.k=0
 · rw [if_pos h0] at hE;exact absurd hE (by decide)
 rw [if_neg h0] at hE
 by_cases h1:x.s < d∨2305843009213693952 < x.s
 · rw [if_pos h1] at hE;exact absurd hE (by decide)
 obtain ⟨h1,h2⟩:¬ x.s < d∧¬ 2305843009213693952 < x.s:=by omega
 simp only [aM] at hg
 simp at hg
 obtain ⟨S',m,q1,q2,q3⟩:=Yg H x.k h0 [.int .u64 x.k,.int .i64 x.s]
 refine ⟨S',q1,q2,?_⟩
 rw [bV H.YP rfl]
 simp (disch:=omega) [P.BM,hg,h0,h1,h2,q3,aB,H.inl,ak,H.pp,ppB]
structure WS (C:aG):Prop extends tu C where
 f201:C.fns.get 201=some Tc
 aij:C.fns.get 2016=some w97
theorem aad (H:WS C) (T:List Ht) (te:Bool) (hT:T.length≤256) (d:Int):∀ n i,n+i=T.length→∀ S:List (Option Int),yG C S ((T.take i).map (·.k))→S≠[] →
 mg C ⟨[(24,.int .i64 i),(23,.int .i64 T.length),(22,.ro 2 (T.map eHt) te),(6,.ptr 0 0 0),(1,.int .i64 d)],[(0,kH 1 S ((T.take i).map (·.k))),(1,kS S)],2⟩ =
  some (.tup [.int .i64 (AA d ((T.take i).map (·.k)) i (T.drop i)).1,.int .i64 (AA d ((T.take i).map (·.k)) i (T.drop i)).2]):=by
 intro n
 induction n with
 | zero =>
  intro i hi S hS hne
  have h3:¬ i < T.length:=by omega
  have q:T.drop i=[]:=List.drop_eq_nil_of_le (by omega)
  rw [q]
  simp only [mg];rw [aj mJ.eq_1]
  simp [aj EH.eq_1,h3,AA]
 | succ n ih =>
  intro i hi S hS hne
  have h1:i < T.length:=by omega
  have hft:T.take (i+1)=T.take i++[T[i]]:=List.take_succ_eq_append_getElem h1
  have hkl:((T.take i).map (·.k)).length=i:=by simp;omega
  rw [drop_cons h1,AA]
  by_cases c:qN d ((T.take i).map (·.k)) T[i]=0
  · rw [if_neg (fun h=>h c)]
    obtain ⟨S',q1,q2,q3⟩:=Yk H.totu S _ hS hne (by omega) T[i] d c
    rw [show (T.take i).map (·.k)++[T[i].k]=(T.take (i+1)).map (·.k) by rw [hft,List.map_append,List.map_cons,List.map_nil]] at *
    have this:=ih (i+1) (by omega) S' q1 q2
    rw [← this]
    generalize (T.take (i+1)).map (·.k)=K2 at *
    generalize (T.take i).map (·.k)=K at *
    have hX2:eHt T[i]=[.int .u64 T[i].k,.int .i64 T[i].s]:=rfl
    rcases q3 with ⟨m,q3⟩ | ⟨m,q3⟩
    · simp only [mg];rw [aj mJ.eq_1]
      try simp at q3
      simp (disch:=omega) [h1,hX2,q3,aB,H.inl,ak,H.pp,ppB]
    · simp only [mg];rw [aj mJ.eq_1]
      try simp at q3
      simp (disch:=omega) [h1,hX2,q3,aB,H.inl,ak,H.pp,ppB]
  · rw [if_pos c]
    obtain ⟨Q,m,q3⟩:=acU H.totu S _ hS T[i] d c
    generalize qN d ((T.take i).map (·.k)) T[i]=E at *
    generalize (T.take i).map (·.k)=K at *
    have hX2:eHt T[i]=[.int .u64 T[i].k,.int .i64 T[i].s]:=rfl
    simp only [mg];rw [aj mJ.eq_1]
    try simp at q3
    simp (disch:=omega) [h1,hX2,q3,c,aB,H.inl,ak,H.pp,ppB]
theorem Zw (H:WS C) (T:List Ht) (te:Bool) (hT:T.length≤256) (d:Int) :
 mg C ⟨[(24,.int .i64 0),(23,.int .i64 T.length),(22,.ro 2 (T.map eHt) te),(6,.ptr 0 0 0),(1,.int .i64 d)],[(0,k0)],1⟩ =
  some (.tup [.int .i64 (AA d [] 0 T).1,.int .i64 (AA d [] 0 T).2]):=by
 cases T with
 | nil =>
  simp only [mg];rw [aj mJ.eq_1]
  simp [aj EH.eq_1,AA]
 | cons x r =>
  rw [AA]
  have h1:(0:Int) < ((x::r).length:Int):=by rw [List.length_cons];omega
  have hX2:eHt x=[.int .u64 x.k,.int .i64 x.s]:=rfl
  by_cases c:qN d [] x=0
  · rw [if_neg (fun h=>h c)]
    obtain ⟨S',q1,q2,m,q3⟩:=UL H.totu x d c
    have this:=aad H (x::r) te hT d r.length 1 (by simp) S' (by simpa using q1) q2
    simp only [List.take_succ_cons,List.take_zero,List.map_cons,List.map_nil,List.drop_succ_cons,List.drop_zero] at this
    simp only [List.nil_append,Nat.zero_add]
    simp only [mg] at this ⊢;rw [aj mJ.eq_1]
    try simp at q3
    simp [hX2,kH,kS] at this
    have h1:(0:Int) < (r.length:Int)+1:=by omega
    simp (disch:=omega) [h1,hX2,q3,this,aB,H.inl,ak,H.pp,ppB]
  · rw [if_pos c]
    obtain ⟨Q,m,q3⟩:=XO H.totu x d c
    generalize qN d [] x=E at *
    simp only [mg];rw [aj mJ.eq_1]
    try simp at q3
    simp (disch:=omega) [h1,hX2,q3,c,aB,H.inl,ak,H.pp,ppB]
theorem abl (H:WS C) (T:List Ht) (te:Bool) (hT:T.length≤1000000) (d:Int) :
 FnW C 201 [.ro 2 (T.map eHt) te,.int .i64 d]=some (.tup [.int .i64 (Gm d T).1,.int .i64 (Gm d T).2]):=by
 have hnew:∀ n,RnW C 2016 [] [] n=some (.ptr (n+2) 0 0,[(n+2,k0)],n+4):=by
  intro n
  rw [bV H.aij rfl]
  simp (disch:=omega) [w97,aB,H.inl,ak,H.pp,ppB]
 rw [aH H.f201 rfl]
 unfold Gm
 by_cases c1:d < 1
 · rw [if_pos (.inl c1)]
   simp (disch:=omega) [Tc,c1,aB,H.inl,ak,H.pp,ppB]
 · by_cases c2:2305843009213693952 < d
   · rw [if_pos (.inr c2)]
     simp (disch:=omega) [Tc,c1,c2,aB,H.inl,ak,H.pp,ppB]
   · rw [if_neg (by omega)]
     by_cases c3:256 < (T.length:Int)
     · rw [if_pos c3]
       simp (disch:=omega) [Tc,c1,c2,c3,aB,H.inl,ak,H.pp,ppB]
     · rw [if_neg c3]
       have h:=Zw H T te (by omega) d
       simp only [mg] at h
       try simp at h
       simp (disch:=omega) [Tc,c1,c2,c3,h,hnew,aB,H.inl,ak,H.pp,ppB]
end Go.D
end
section
namespace Go.D
open Go Go.Pav Go.Pw P
set_option maxHeartbeats 2000000
attribute [-simp] List.getElem_cons_drop
variable {C:aG}
theorem aeD (d:Int):∀ (T:List Ht) (K:List Int) (i:Nat),(AA d K i T).2=0→∀ x ∈ T,d≤x.s∧x.s≤2305843009213693952:=by
 intro T
 induction T with
 | nil=>intro K i _ x hx;cases hx
 | cons a r ih =>
  intro K i h x hx
  rw [AA] at h
  split at h
  · rename_i c;exact absurd h c
  · rename_i c
    have c:qN d K a=0:=by omega
    rcases List.mem_cons.1 hx with rfl | hx
    · unfold qN at c
      split at c
      · exact absurd c (by decide)
      · split at c
        · exact absurd c (by decide)
        · omega
    · exact ih _ _ h x hx
theorem Xg {d:Int} {T:List Ht} (h:(Gm d T).2=0):TOk T∧T.length≤256:=by
 unfold Gm at h
 split at h
 · exact absurd h (by decide)
 split at h
 · exact absurd h (by decide)
 refine ⟨fun x hx=>?_,by omega⟩
 have:=aeD d T [] 0 h x hx
 rw [o7];omega
structure Z5 (C:aG):Prop extends Jk C,WS C,alX C
section
variable (H:Z5 C) (hlives:FnW C 178 []=some (.bool true)) (ks:List Kd) (ke:Bool) (l:List En) (e:Bool) (v ls ov k d:Int) (bad:Bool) (T:List Ht) (te:Bool) (Q Z:List (List AV)) (qe ze:Bool) (r:Int)
include H hlives
end
end Go.D
end
section
namespace Go.D
open Go Go.Pav Go.Pw P
set_option maxHeartbeats 2000000
attribute [-simp] List.getElem_cons_drop
variable {C:aG}
section
variable (H:Z5 C) (hlives:FnW C 178 []=some (.bool true)) (l:List En) (e:Bool) (v ls ov k d:Int) (bad:Bool) (T:List Ht) (te:Bool) (q:List Q4) (qe:Bool) (z:List Int) (ze:Bool) (r:Int)
include H hlives
end
end Go.D
end
section
namespace Go.D
open Go Go.Pav Go.Pw P
set_option maxHeartbeats 2000000
attribute [-simp] List.getElem_cons_drop
variable {C:aG}
structure P2 where
 x:Int
 y:Int
@[simp] def eP2 (p:P2):List AV:=[.int .u8 p.x,.int .u8 p.y]
def PIn (p:P2):Prop:=(0≤p.x∧p.x≤255)∧(0≤p.y∧p.y≤255)
def htP (p:P2):Ht:=⟨1+p.x % 12,1+p.y % 50⟩
def Rk (G:List Ht) (h:Ht):List Ht:=if G.any (fun x=>decide (x.k=h.k)) then G else G++[h]
structure yE (G:List Ht):Prop where
 r:∀ x ∈ G,(1≤x.k∧x.k≤12)∧(1≤x.s∧x.s≤50)
 n:(G.map (·.k)).Nodup
theorem yE.add {G:List Ht} (h:yE G) {p:P2} (hp:PIn p):yE (Rk G (htP p)):=by
 unfold Rk
 split
 · exact h
 · rename_i c
   have hx:0≤p.x % 12∧p.x % 12 < 12:=⟨Int.emod_nonneg _ (by omega),Int.emod_lt_of_pos _ (by omega)⟩
   have hy:0≤p.y % 50∧p.y % 50 < 50:=⟨Int.emod_nonneg _ (by omega),Int.emod_lt_of_pos _ (by omega)⟩
   refine ⟨fun x hx2=>?_,?_⟩
   · rcases List.mem_append.1 hx2 with q | q
     · exact h.r x q
     · simp only [List.mem_singleton] at q
       subst q
       simp only [htP];omega
   · rw [List.map_append,List.nodup_append]
     refine ⟨h.n,by simp,?_⟩
     intro a ha b hb q
     simp only [List.map_cons,List.map_nil,List.mem_singleton] at hb
     subst hb
     subst q
     obtain ⟨y,hy1,hy2⟩:=List.mem_map.1 ha
     apply c
     rw [List.any_eq_true]
     exact ⟨y,hy1,by simpa using hy2⟩
theorem ahu:∀ (T:List Ht) (K:List Int) (i:Nat),(∀ x ∈ T,(1≤x.k∧x.k≤12)∧(1≤x.s∧x.s≤50))→(T.map (·.k)).Nodup→(∀ x ∈ T,x.k ∉ K)→AA 1 K i T=(0,0):=by
 intro T
 induction T with
 | nil=>intro K i _ _ _;rfl
 | cons a r ih =>
  intro K i h1 h2 h3
  have ha:=h1 a (by simp)
  have hk:=h3 a (by simp)
  have h0:qN 1 K a=0:=by
   unfold qN
   rw [if_neg (by omega),if_neg (by omega),if_neg hk]
  rw [AA,h0,if_neg (by simp)]
  simp only [List.map_cons,List.nodup_cons] at h2
  refine ih _ _ (fun x hx=>h1 x (by simp [hx])) h2.2 fun x hx q=>?_
  rcases List.mem_append.1 q with q | q
  · exact h3 x (by simp [hx]) q
  · simp only [List.mem_singleton] at q
    exact h2.1 (q ▸ List.mem_map.2 ⟨x,hx,rfl⟩)
theorem yE.e {T:List Ht} (h:yE T) (hl:T.length≤12):Gm 1 T=(0,0):=by
 unfold Gm
 rw [if_neg (by omega),if_neg (by omega)]
 exact ahu T [] 0 h.r h.n (fun x _=>by simp)
theorem yE.ok {T:List Ht} (h:yE T):TOk T:=fun x hx=>by have:=h.r x hx;rw [o7];omega
structure Hl (C:aG):Prop extends Z5 C,Jp C where
 al1:C.fns.get 347=some afR
 f160:C.fns.get 160=some acV
 f321:C.fns.get 321=some UA
section
variable (ks:List Kd) (ke:Bool) (cap a b w v o:Int) (tb:List P2) (te:Bool)
theorem alE (H:Hl C) (G:List Ht) (hG:G.length≤12) (h:Ht) (i:Nat) (hi12:i≤12) (R:Option AV)
 (hnext:pW C ⟨[(8,.int .i64 ((i+1:Nat):Int)),(7,.sl 0 2 0 (Rk G h).length (Rk G h).length false),(6,.ptr 1 0 0),(4,.ptr 2 0 0),(2,.ptr 3 0 0)],[(0,.cells 2 ((Rk G h).map eHt) true true),(1,.cells 5 [[.ro 9 (ks.map eKd) ke,.int .i64 cap,.int .i64 v,.int .i64 o,.int .i64 1]] true true),(2,.cells 5 [[.ro 9 [] true,.int .i64 0,.int .i64 0,.int .i64 0,.int .i64 0]] true true),(3,.cells 4 [[.int .u8 a,.int .u16 b,.int .u8 w,.ro 2 (tb.map eP2) te]] true true)],4⟩=R) :
 ∀ n j,n+j=G.length→yS C ⟨[(11,.int .i64 j),(10,.bool ((G.take j).any fun x=>decide (x.k=h.k))),(9,.ptr 0 0 0),(8,.int .i64 i),(7,.sl 1 2 0 G.length G.length false),(6,.ptr 2 0 0),(4,.ptr 3 0 0),(2,.ptr 4 0 0)],[(0,.cells 2 [eHt h] true true),(1,.cells 2 (G.map eHt) true true),(2,.cells 5 [[.ro 9 (ks.map eKd) ke,.int .i64 cap,.int .i64 v,.int .i64 o,.int .i64 1]] true true),(3,.cells 5 [[.ro 9 [] true,.int .i64 0,.int .i64 0,.int .i64 0,.int .i64 0]] true true),(4,.cells 4 [[.int .u8 a,.int .u16 b,.int .u8 w,.ro 2 (tb.map eP2) te]] true true)],5⟩=R:=by
 intro n
 induction n with
 | zero =>
  intro j hj
  have h3:¬ j < G.length:=by omega
  have hft:G.take j=G:=List.take_of_length_le (by omega)
  rw [hft]
  unfold Rk at hnext
  cases c:G.any fun x=>decide (x.k=h.k)
  · rw [c] at hnext
    simp only [pW,yS] at hnext ⊢;rw [aj wZ.eq_1]
    have hfit:(G.length+1) * 17≤35184372088832:=by omega
    have hTK:List.take G.length (G.map eHt)=G.map eHt:=List.take_of_length_le (by simp)
    simp [eHt] at hnext
    simp (disch:=omega) [aj FH.eq_1,aj FD.eq_1,h3,hfit,hTK,hnext,eHt,aB,H.inl,ak,H.pp,ppB]
  · rw [c] at hnext
    simp only [pW,yS] at hnext ⊢;rw [aj wZ.eq_1]
    simp [eHt] at hnext
    simp (disch:=omega) [aj FH.eq_1,aj FD.eq_1,h3,hnext,eHt,aB,H.inl,ak,H.pp,ppB]
 | succ n ih =>
  intro j hj
  have h1:j < G.length:=by omega
  have this:=ih (j+1) (by omega)
  have hft:G.take (j+1)=G.take j++[G[j]]:=List.take_succ_eq_append_getElem h1
  rw [hft,List.any_append] at this
  rw [← this]
  simp only [yS];rw [aj wZ.eq_1]
  cases c:(G.take j).any fun x=>decide (x.k=h.k)
  · by_cases c2:G[j].k=h.k
    · have hb:(G[j].k == h.k)=true:=by simpa using c2
      simp (disch:=omega) [h1,eq_true c2,hb,c,eHt,aB,H.inl,ak,H.pp,ppB]
    · have hb:(G[j].k == h.k)=false:=by simpa using c2
      simp (disch:=omega) [h1,c2,hb,c,eHt,aB,H.inl,ak,H.pp,ppB]
  · simp (disch:=omega) [h1,c,eHt,aB,H.inl,ak,H.pp,ppB]
theorem ajJ (H:Hl C) (hp:∀ x ∈ tb,PIn x):∀ n i,n+i=12→∀ G:List Ht,G.length≤i→yE G →
 ∃ T:List Ht,T.length≤12∧yE T∧pW C ⟨[(8,.int .i64 i),(7,.sl 0 2 0 G.length G.length false),(6,.ptr 1 0 0),(4,.ptr 2 0 0),(2,.ptr 3 0 0)],[(0,.cells 2 (G.map eHt) true true),(1,.cells 5 [[.ro 9 (ks.map eKd) ke,.int .i64 cap,.int .i64 v,.int .i64 o,.int .i64 1]] true true),(2,.cells 5 [[.ro 9 [] true,.int .i64 0,.int .i64 0,.int .i64 0,.int .i64 0]] true true),(3,.cells 4 [[.int .u8 a,.int .u16 b,.int .u8 w,.ro 2 (tb.map eP2) te]] true true)],4⟩ =
  some (.tup [aF ks ke cap v o 1,.ro 2 (T.map eHt) false]):=by
 intro n
 induction n with
 | zero =>
  intro i hi G hG hT
  have h3:¬ (i:Int) < 12:=by omega
  have hTK:List.take G.length (G.map eHt)=G.map eHt:=List.take_of_length_le (by simp)
  refine ⟨G,by omega,hT,?_⟩
  simp only [pW,aF];rw [aj vW.eq_1]
  by_cases c:i < tb.length
  · simp (disch:=omega) [aj uQ.eq_1,c,h3,hTK,aB,H.inl,ak,H.pp,ppB]
  · simp (disch:=omega) [aj uQ.eq_1,c,h3,hTK,aB,H.inl,ak,H.pp,ppB]
 | succ n ih =>
  intro i hi G hG hT
  have h2:(i:Int) < 12:=by omega
  by_cases c:i < tb.length
  · have hpi:=hp _ (List.getElem_mem c)
    have hx:0≤tb[i].x % 12∧tb[i].x % 12 < 12:=⟨Int.emod_nonneg _ (by omega),Int.emod_lt_of_pos _ (by omega)⟩
    have hy:0≤tb[i].y % 50∧tb[i].y % 50 < 50:=⟨Int.emod_nonneg _ (by omega),Int.emod_lt_of_pos _ (by omega)⟩
    have e1:tb[i].x.tmod 12=tb[i].x % 12:=Int.tmod_eq_emod_of_nonneg hpi.1.1
    have e2:tb[i].y.tmod 50=tb[i].y % 50:=Int.tmod_eq_emod_of_nonneg hpi.2.1
    have hlen:(Rk G (htP tb[i])).length≤i+1:=by
     unfold Rk;split
     · omega
     · simp;omega
    obtain ⟨T,q1,q2,q3⟩:=ih (i+1) (by omega) _ hlen (hT.add hpi)
    refine ⟨T,q1,q2,?_⟩
    have hin:=alE ks ke cap a b w v o tb te H G (by omega) (htP tb[i]) i (by omega) _ q3 G.length 0 (by simp)
    simp only [yS,htP,eHt] at hin
    simp only [pW];rw [aj vW.eq_1]
    simp [eHt] at hin
    simp (disch:=omega) [c,h2,e1,e2,hin,eHt,aB,jZ,wU8,H.inl,ak,H.pp,ppB]
  · have hTK:List.take G.length (G.map eHt)=G.map eHt:=List.take_of_length_le (by simp)
    refine ⟨G,by omega,hT,?_⟩
    simp only [pW,aF];rw [aj vW.eq_1]
    simp (disch:=omega) [aj uQ.eq_1,c,hTK,aB,H.inl,ak,H.pp,ppB]
theorem ajE (H:Hl C) (ha:0≤a∧a≤255) (hw:0≤w∧w≤255) (hp:∀ x ∈ tb,PIn x):∃ T:List Ht,T.length≤12∧yE T ∧
 FnW C 347 [.agg [.int .u8 a,.int .u16 b,.int .u8 w,.ro 2 (tb.map eP2) te],aR ks ke cap]=some (.tup [aF ks ke cap (1+a % 200) (w % 4) 1,.ro 2 (T.map eHt) false]):=by
 have hx:0≤a % 200∧a % 200 < 200:=⟨Int.emod_nonneg _ (by omega),Int.emod_lt_of_pos _ (by omega)⟩
 have hy:0≤w % 4∧w % 4 < 4:=⟨Int.emod_nonneg _ (by omega),Int.emod_lt_of_pos _ (by omega)⟩
 have e1:a.tmod 200=a % 200:=Int.tmod_eq_emod_of_nonneg ha.1
 have e2:w.tmod 4=w % 4:=Int.tmod_eq_emod_of_nonneg hw.1
 obtain ⟨T,q1,q2,q3⟩:=ajJ ks ke cap a b w (1+a % 200) (w % 4) tb te H hp 12 0 rfl [] (by simp) ⟨fun x hx=>(by cases hx),by simp⟩
 refine ⟨T,q1,q2,?_⟩
 simp only [pW,aF] at q3
 simp only [aF,aR]
 rw [aH H.al1 rfl]
 simp at q3
 simp (disch:=omega) [afR,e1,e2,q3,aB,jZ,wU8,H.inl,ak,H.pp,ppB]
end
theorem ajW (H:Hl C) (l:List En) (e:Bool) (hz:Szd l) (s:Int) (p:Nat) (hp:p < l.length) (h1:top l p≤s) (h2:s < top l (p+1)) :
 FnW C 160 [aL l e,.int .i64 s]=some (.tup [aA l[p].i.k (s - top l p),.int .i64 0]):=by
 have hn:=hz.n
 have t1:=hz.rng p
 have t2:=hz.rng (p+1)
 have t3:=hz.t
 have g1:=wX H.toZ5.toJk.toQL.toyc.tojf l e hz
 have g2:=nH H.toZ5.toJk.toQL.toyc.tojf.tokU l e (by omega) hz.b
 rw [hz.tot] at g2
 have g3:=amd H.toZ5.toJk.toQL.toyc.tojf l e (by omega) hz.b s
 unfold atR at g3
 rw [C9 hz,if_neg (by simp),if_neg (by omega),hz.pG hp h1 h2] at g3
 have q5:p < (tps l).length:=by rw [jh];omega
 have q6:=AZ l q5
 have c1:¬ s < 0:=by omega
 have c2:¬ (imax 0 (sm l - 1) < s):=by unfold imax;split <;> omega
 have c3:¬ l.length=0:=by omega
 have c4:¬ l=[]:=by intro q;rw [q] at hp;simp at hp
 simp only [aL,aA] at g1 g2 g3 ⊢
 rw [aH H.f160 rfl]
 simp (disch:=omega) [acV,g1,g2,g3,q5,q6,c1,c2,c3,c4,hp,aB,H.inl,ak,H.pp,ppB]
theorem aep (H:Hl C) (e:Bool):FnW C 160 [aL [] e,.int .i64 0]=some (.tup [aA 0 0,.int .i64 0]):=by
 have hz:Szd []:=⟨by simp,by simp,by simp [sm]⟩
 have g1:=wX H.toZ5.toJk.toQL.toyc.tojf [] e hz
 have g2:=nH H.toZ5.toJk.toQL.toyc.tojf.tokU [] e (by simp) hz.b
 rw [hz.tot] at g2
 simp [aL,sm] at g1 g2
 simp only [aL,aA]
 rw [aH H.f160 rfl]
 simp (disch:=omega) [acV,g1,g2,imax,aB,H.inl,ak,H.pp,ppB]
theorem ag5 (H:Hl C) (l:List En) (e:Bool) (hz:Szd l) (s k d:Int) (hs:0≤s∧s≤4611686018427387904) (ha:nN l k d) :
 FnW C 321 [aL l e,.int .i64 s,aA k d]=some (.bool (decide (k=0)||(decide (top l (fJ k 0 l).toNat≤s)&&decide (s - top l (fJ k 0 l).toNat=d)))):=by
 have h1:=uw H.toZ5.toJk.toQL.toyc.tojf l e (by have:=hz.n;omega) hz.b
 rw [C9 hz] at h1
 simp only [aL,aA] at h1 ⊢
 rw [aH H.f321 rfl]
 by_cases c:k=0
 · subst c
   simp (disch:=omega) [UA,h1,aB,H.inl,ak,H.pp,ppB]
 · have h3:=V7 H.toZ5.toJk.toQL.toyc l e hz k (ha.f c)
   have h4:=hz.rng (fJ k 0 l).toNat
   have h5:=hz.t
   simp only [aL] at h3
   generalize top l (fJ k 0 l).toNat=t at *
   by_cases c1:t≤s
   · by_cases c2:s - t=d
     · simp (disch:=omega) [UA,h1,h3,c,c1,eq_true c2,aB,H.inl,ak,H.pp,ppB]
     · simp (disch:=omega) [UA,h1,h3,c,c1,c2,aB,H.inl,ak,H.pp,ppB]
   · simp (disch:=omega) [UA,h1,h3,c,c1,aB,H.inl,ak,H.pp,ppB]
end Go.D
end
section
namespace Go.D
open Go Go.Pav Go.Pw P
set_option maxHeartbeats 1000000
section
variable {ks:List Kd} {T:List Ht}
def Ev1 (ks:List Kd) (T:List Ht) (a b:En):Prop:=b.i=a.i∧((b.kn=a.kn∧b.s=a.s)∨(a.kn=false∧b.kn=true∧b.s=qM ks a.i T))
def EvL (ks:List Kd) (T:List Ht):List En→List En→Prop
 | [],[]=>True
 | a::l,b::L=>Ev1 ks T a b∧EvL ks T l L
 | _,_=>False
theorem EvL.refl:∀ l:List En,EvL ks T l l
 | []=>trivial
 | a::l=>⟨⟨rfl,.inl ⟨rfl,rfl⟩⟩,EvL.refl l⟩
theorem EvL.len:∀ {l L:List En},EvL ks T l L→L.length=l.length
 | [],[],_=>rfl
 | a::l,b::L,h=>by simp [EvL.len h.2]
 | [],_::_,h=>h.elim
 | _::_,[],h=>h.elim
theorem EvL.get:∀ {l L:List En},EvL ks T l L→∀ (i:Nat) (h1:i < l.length) (h2:i < L.length),Ev1 ks T l[i] L[i]
 | a::l,b::L,h,0,_,_=>h.1
 | a::l,b::L,h,i+1,h1,h2=>EvL.get h.2 i (by simpa using h1) (by simpa using h2)
 | [],[],_,i,h1,_=>absurd h1 (by simp)
 | [],_::_,h,_,_,_=>h.elim
 | _::_,[],h,_,_,_=>h.elim
theorem EvL.it:∀ {l L:List En},EvL ks T l L→L.map En.i=l.map En.i
 | [],[],_=>rfl
 | a::l,b::L,h=>by rw [List.map_cons,List.map_cons,h.1.1,EvL.it h.2]
 | [],_::_,h=>h.elim
 | _::_,[],h=>h.elim
theorem EvL.set:∀ {l L:List En},EvL ks T l L→∀ (i:Nat) (h1:i < l.length) (h2:i < L.length),l[i].kn=false→EvL ks T l (L.set i (vlK ks T L[i]))
 | a::l,b::L,h,0,_,_,hk=>⟨⟨h.1.1,.inr ⟨hk,rfl,by simp only [vlK,List.getElem_cons_zero];rw [h.1.1]⟩⟩,h.2⟩
 | a::l,b::L,h,i+1,h1,h2,hk=>⟨h.1,EvL.set h.2 i (by simpa using h1) (by simpa using h2) hk⟩
 | [],[],_,i,h1,_,_=>absurd h1 (by simp)
 | [],_::_,h,_,_,_,_=>h.elim
 | _::_,[],h,_,_,_,_=>h.elim
def chF:List En→List En→Nat
 | a::l,b::L=>(if a.kn=b.kn then 0 else 1)+chF l L
 | _,_=>0
theorem V3:∀ {l L:List En},EvL ks T l L→ku l=ku L+chF l L
 | [],[],_=>rfl
 | a::l,b::L,h=>by
  have:=V3 h.2
  unfold ku at this ⊢
  rw [chF,List.filter_cons,List.filter_cons]
  rcases h.1.2 with ⟨q,_⟩ | ⟨q1,q2,_⟩
  · rw [q]
    by_cases c:a.kn=true
    · simp [c];omega
    · simp [c];omega
  · simp [q1,q2];omega
 | [],_::_,h=>h.elim
 | _::_,[],h=>h.elim
theorem P5:∀ (l L:List En) (i:Nat) (h1:i < l.length) (h2:i < L.length),chF (l.take (i+1)) (L.take (i+1))=chF (l.take i) (L.take i)+(if l[i].kn=L[i].kn then 0 else 1)
 | a::l,b::L,0,_,_=>by simp [chF]
 | a::l,b::L,i+1,h1,h2=>by
  have:=P5 l L i (by simpa using h1) (by simpa using h2)
  rw [List.take_succ_cons,List.take_succ_cons,chF,this,List.take_succ_cons,List.take_succ_cons,chF]
  simp only [List.getElem_cons_succ];omega
 | [],_,i,h1,_=>absurd h1 (by simp)
 | _::_,[],i,_,h2=>absurd h2 (by simp)
theorem Yw (l:List En) (i:Nat) (h:i < l.length):ku (l.take (i+1))=ku (l.take i)+(if l[i].kn=true then 0 else 1):=by
 unfold ku
 rw [List.take_succ_eq_append_getElem h,List.filter_append,List.length_append]
 congr 1
 rw [List.filter_cons]
 by_cases c:l[i].kn=true
 · simp [c]
 · simp [c]
theorem adD:∀ (u:List Int) (l L L':List En),EvL ks T l L→(∀ i ∈ u,∃ h:i.toNat < l.length,l[i.toNat].kn=false)→rdF ks T L u=some L'→EvL ks T l L'
 | [],l,L,L',h,_,hr=>by rw [rdF] at hr;cases hr;exact h
 | i::r,l,L,L',h,hu,hr=>by
  rw [rdF] at hr
  split at hr
  · cases hr
  · obtain ⟨h1,h2⟩:=hu i (by simp)
    have h3:i.toNat < L.length:=by rw [h.len];exact h1
    rw [Bf T h3] at hr
    exact adD r l _ L' (h.set _ h1 h3 h2) (fun j hj=>hu j (by simp [hj])) hr
theorem ZY {v over k d:Int}:∀ (n:Nat) (l L:List En) (r:Nat) (L':List En) (o:Int) (r':Nat),EvL ks T l L→stF ks T v over k d n L r=some (L',o,r') →
 EvL ks T l L'∧rdU ks L' v over k d=[]∧o=eY L' v k d∧r'+ku L'≤r+ku L
 | 0,l,L,r,L',o,r',_,h=>by cases h
 | n+1,l,L,r,L',o,r',he,h=>by
  rw [stF] at h
  cases hq:rdF ks T L (rdU ks L v over k d) with
  | none=>rw [hq] at h;cases h
  | some L2 =>
   rw [hq] at h
   simp only at h
   by_cases c:rdU ks L v over k d=[]
   · rw [if_pos c] at h
     rw [c,yR] at hq
     cases hq
     cases h
     exact ⟨he,c,rfl,Nat.le_refl _⟩
   · rw [if_neg c] at h
     have hlt:=NT T hq c
     have he2:=adD _ l L L2 he (fun i hi=>by
      obtain ⟨_,h1,h2⟩:=uz hi
      have h3:i.toNat < l.length:=by rw [← he.len];exact h1
      refine ⟨h3,?_⟩
      rcases (he.get _ h3 h1).2 with ⟨q,_⟩ | ⟨q,_⟩
      · rw [← q];exact h2
      · exact q) hq
     obtain ⟨a1,a2,a3,a4⟩:=ZY n l L2 (r+1) L' o r' he2 h
     exact ⟨a1,a2,a3,by omega⟩
structure Sm (ks:List Kd) (l:List En):Prop where
 n:l.length≤12
 s:∀ x ∈ l,1≤x.s∧x.s≤50
 t:∀ x ∈ l,0≤x.i.t∧x.i.t≤2
theorem Py:∀ l:List En,(∀ x ∈ l,x.s≤50)→sm l≤50 * l.length
 | [],_=>by simp [sm]
 | a::r,h=>by
  have h1:=h a (by simp)
  have h2:=Py r fun x hx=>h x (by simp [hx])
  rw [sm,List.length_cons];omega
theorem Sm.szd {l:List En} (h:Sm ks l):Szd l:=by
 have h1:=Py l fun x hx=>(h.s x hx).2
 have:=h.n
 exact ⟨by omega,fun x hx=>by have:=h.s x hx;omega,by omega⟩
theorem Sm.tot {l:List En} (h:Sm ks l):tot l≤600:=by
 rw [h.szd.tot]
 have h1:=Py l fun x hx=>(h.s x hx).2
 have:=h.n
 omega
theorem aq1 (hT:yE T) (hb:∀ t:Int,0≤t→t≤2→1≤(iU ks t).b∧(iU ks t).b≤30) (hl:ks.length=3) {x:It} (ht:0≤x.t∧x.t≤2):1≤qM ks x T∧qM ks x T≤50:=by
 unfold qM
 cases hf:T.find? (fun y=>decide (y.k=x.k)) with
 | some y=>exact (hT.r y (List.mem_of_find?_eq_some hf)).2
 | none =>
  have h1:=hb x.t ht.1 ht.2
  have hlt:x.t.toNat < ks.length:=by omega
  unfold iU at h1
  simp only [List.getElem?_eq_getElem hlt,Option.getD_some] at h1 ⊢
  omega
theorem Sm.upd {l:List En} (h:Sm ks l) (hT:yE T) (hb:∀ t:Int,0≤t→t≤2→1≤(iU ks t).b∧(iU ks t).b≤30) (hl:ks.length=3) (i:Nat):Sm ks (jA ks T l i):=by
 refine ⟨by rw [uH];exact h.n,fun x hx=>?_,fun x hx=>?_⟩
 · rcases oq hx with hx | ⟨e,he,rfl⟩
   · exact h.s x hx
   · exact aq1 hT hb hl (h.t e he)
 · rcases oq hx with hx | ⟨e,he,rfl⟩
   · exact h.t x hx
   · exact h.t e he
theorem TJ (hT:yE T) (hb:∀ t:Int,0≤t→t≤2→1≤(iU ks t).b∧(iU ks t).b≤30) (hl:ks.length=3):∀ (u:List Int) (l:List En),Sm ks l→∃ l',rdF ks T l u=some l'∧Sm ks l'
 | [],l,h=>⟨l,rfl,h⟩
 | i::r,l,h=>by
  have h1:=h.upd hT hb hl i.toNat
  have:=h1.tot
  rw [rdF,if_neg (by omega)]
  exact TJ hT hb hl r _ h1
theorem aco (hT:yE T) (hb:∀ t:Int,0≤t→t≤2→1≤(iU ks t).b∧(iU ks t).b≤30) (hl:ks.length=3) {v over k d:Int}:∀ (n:Nat) (l:List En) (r:Nat),Sm ks l→ku l < n→∃ x,stF ks T v over k d n l r=some x∧Sm ks x.1
 | 0,l,r,_,h=>absurd h (by omega)
 | n+1,l,r,h,hc=>by
  obtain ⟨l',h1,h2⟩:=TJ hT hb hl (rdU ks l v over k d) l h
  rw [stF,h1]
  simp only
  by_cases c:rdU ks l v over k d=[]
  · rw [if_pos c];exact ⟨_,rfl,h2⟩
  · rw [if_neg c]
    have:=NT T h1 c
    exact aco hT hb hl n l' (r+1) h2 (by omega)
theorem Tt {cap v over k d:Int} (hT:TOk T):∀ (n:Nat) (l:List En) (r:Nat) (x:List En × Int × Nat),Gd ks cap l→stF ks T v over k d n l r=some x→Gd ks cap x.1
 | 0,l,r,x,_,h=>by cases h
 | n+1,l,r,x,hG,h=>by
  rw [stF] at h
  cases hq:rdF ks T l (rdU ks l v over k d) with
  | none=>rw [hq] at h;cases h
  | some l' =>
   rw [hq] at h
   simp only at h
   have hg:=(Ia hT _ _ _ hG hq).1
   split at h
   · cases h;exact hg
   · exact Tt hT n l' (r+1) x hg h
theorem abU {v over k d:Int} {l:List En} (h:rdU ks l v over k d=[]) (n r:Nat):stF ks T v over k d (n+1) l r=some (l,eY l v k d,r):=by
 rw [stF,h,yR];simp
theorem J6 {cap v ov ls k d:Int} {l:List En} {E:Int} (h1:I9 ks cap v ov ls=0) (h2:ckE ks cap l=0) (h3:E=0) (ha:nN l k d):mZ ks cap v ov ls l k d E=0:=by
 have h4:=ha.e
 unfold mZ
 rw [h1,h2,h3,h4]
 simp only [ne_eq,not_true_eq_false,if_false]
 rw [if_neg]
 rintro ⟨q1,q2⟩
 have:=ha.f (by omega)
 omega
end
end Go.D
end
section
namespace Go.D
open Go Go.Pav Go.Pw P
attribute [-simp] List.getElem_cons_drop
variable {C:aG}
structure SQ (C:aG):Prop extends Hl C where
 f175:C.fns.get 175=some XG
structure PlS (C:aG) (ks:List Kd) (l:List En) (f:Bool) (v ov k d:Int) (T:List Ht) (L W N N2 L2:List En) (o M:Int) (n fd:Nat) (hb:Bool):Prop where
 Y4:FnW C 348 [aF ks true 12 v ov 1,.ro 6 (l.map eEn) f,aA k d,.ro 2 (T.map eHt) false]=some (.tup [.ro 6 (W.map eEn) false,.int .i64 o,.int .i64 n,.int .i64 0])
 Ya:FnW C 174 [aF ks true 12 v ov 1,aL l f,aA k d,.ro 2 (T.map eHt) false]=some (.tup [.agg [.ro 6 (L.map eEn) true,.int .i64 o,.int .i64 n],.int .i64 0])
 s1:FnW C 172 [.ro 6 (L.map eEn) true,.ro 6 (W.map eEn) false]=some (.int .i64 1)
 X9:∃ t:Int,FnW C 349 [aF ks true 12 v ov 1,.ro 6 (l.map eEn) f,aA k d,.ro 2 (T.map eHt) false]=some (.tup [.ro 6 (N.map eEn) false,.int .i64 t,.int .i64 fd,.int .i64 0]) ∧
  FnW C 350 [aF ks true 12 v ov 1,aL l f,aA k d,.ro 2 (T.map eHt) false]=some (.tup [.agg [.ro 6 (N2.map eEn) true,.int .i64 t,.int .i64 (jH fd 1)],.bool (decide (0 < fd)),.int .i64 0])
 s2:FnW C 172 [.ro 6 (N2.map eEn) true,.ro 6 (N.map eEn) false]=some (.int .i64 1)
 ms:∀ (i:Nat) (h:i < l.length),FnW C 351 [aF ks true 12 v ov 1,eIt l[i].i,.ro 2 (T.map eHt) false]=some (.int .i64 (qM ks l[i].i T))
 Yy:FnW C 135 [aR ks true 12,aL L true,.int .i64 o,.int .i64 v,.int .i64 ov]=some (.tup [.ro 1 [] true,.int .i64 0])
 YM:FnW C 321 [aL L true,.int .i64 o,aA k d]=some (.bool hb)
 Zu:FnW C 327 [.ro 6 (L.map eEn) true,.int .i64 v]=some (.int .i64 M)
 hd:hb=true∨o=0∨o=M
 Jg:FnW C 174 [aF ks true 12 v ov 1,aL L true,aA k d,.ro 2 (T.map eHt) false]=some (.tup [.agg [.ro 6 (L2.map eEn) true,.int .i64 o,.int .i64 0],.int .i64 0])
 s3:FnW C 172 [.ro 6 (L2.map eEn) true,.ro 6 (L.map eEn) true]=some (.int .i64 1)
 s4:FnW C 172 [.ro 6 (l.map eEn) f,.ro 6 (l.map eEn) f]=some (.int .i64 1)
 ln:l.length≤12
 ev:∃ L0,EvL ks T l L0∧L=L0.map En.own
 nu:n≤ku l
 nc:n≤chF l L
section
variable (H:SQ C) (hlives:FnW C 178 []=some (.bool true)) (ks:List Kd) (l:List En) (f:Bool) (v ov k d:Int) (T:List Ht) (L W N N2 L2:List En) (o M:Int) (n fd:Nat) (hb:Bool) (X:List AV)
include H hlives
abbrev h6 (ks:List Kd) (l:List En) (f:Bool) (v ov k d o:Int) (L:List En) (n:Nat) (X:List AV):aK:=[(0,.cells 3 [[.ro 6 (L.map eEn) true,.int .i64 o,.int .i64 n]] true true),(1,.cells 2 [[.int .u64 k,.int .i64 d]] true true),(2,.cells 5 [[.ro 9 (ks.map eKd) true,.int .i64 12,.int .i64 v,.int .i64 ov,.int .i64 1]] true true),(3,.cells 1 [[.ro 6 (l.map eEn) f]] true true),(4,.cells 2 [[.ro 9 (ks.map eKd) true,.int .i64 12]] true true),(5,.cells 3 [X] true true)]
theorem akW (q:List (List AV)) (z:List (List AV)) (qe ze:Bool) (r:Int) (hX:X=[.ro 4 q qe,.ro 1 z ze,.int .u8 r]) (hL:FnW C 130 [.agg X]=some (.tup [aR ks true 12,aL l f]))
 (S:PlS C ks l f v ov k d T L W N N2 L2 o M n fd hb) :
 CK C 0 (aN [.tmp 6]) [] FY ⟨[(30,.int .i64 (chF l L:Nat)),(29,.int .i64 (ku l:Nat)),(20,.ptr 0 0 0),(13,.ptr 1 0 0),(10,.ro 2 (T.map eHt) false),(9,.ptr 2 0 0),(8,.ptr 3 0 0),(7,.ptr 4 0 0),(3,.ptr 5 0 0)],h6 ks l f v ov k d o L n X,6⟩=some (.bool true):=by
 have Yy:=S.Yy
 have YM:=S.YM
 have Zu:=S.Zu
 have hd:=S.hd
 have Jg:=S.Jg
 have s3:=S.s3
 have s4:=S.s4
 have nu:¬ ((ku l:Int) < n):=by have:=S.nu;omega
 have nc:¬ ((chF l L:Int) < n):=by have:=S.nc;omega
 subst hX
 simp only [aF,aL,aA,aR] at Yy YM Zu Jg hL
 generalize ku l=cu at *
 generalize chF l L=cf at *
 simp only [h6]
 rw [aj FY.eq_1]
 cases hb
 · by_cases c1:o=0
   · subst c1
     simp (disch:=omega) [Yy,YM,Zu,Jg,s3,s4,nu,nc,hL,hlives,aB,H.inl,ak,H.pp,ppB]
   · have c2:o=M:=by rcases hd with q | q | q;cases q;exact absurd q c1;exact q
     subst c2
     simp (disch:=omega) [Yy,YM,Zu,Jg,s3,s4,nu,nc,hL,c1,hlives,aB,H.inl,ak,H.pp,ppB]
 · simp (disch:=omega) [Yy,YM,Zu,Jg,s3,s4,nu,nc,hL,hlives,aB,H.inl,ak,H.pp,ppB]
theorem aeW (q:List (List AV)) (z:List (List AV)) (qe ze:Bool) (r:Int) (hX:X=[.ro 4 q qe,.ro 1 z ze,.int .u8 r]) (hL:FnW C 130 [.agg X]=some (.tup [aR ks true 12,aL l f]))
 (S:PlS C ks l f v ov k d T L W N N2 L2 o M n fd hb):∀ m i,m+i=l.length →
 E8 C ⟨[(31,.int .i64 i),(30,.int .i64 (chF (l.take i) (L.take i):Nat)),(29,.int .i64 (ku (l.take i):Nat)),(20,.ptr 0 0 0),(13,.ptr 1 0 0),(10,.ro 2 (T.map eHt) false),(9,.ptr 2 0 0),(8,.ptr 3 0 0),(7,.ptr 4 0 0),(3,.ptr 5 0 0)],h6 ks l f v ov k d o L n X,6⟩=some (.bool true):=by
 obtain ⟨L0,he,hL0⟩:=S.ev
 have hll:L.length=l.length:=by rw [hL0,List.length_map];exact he.len
 have hln:=S.ln
 have hend:=akW H hlives ks l f v ov k d T L W N N2 L2 o M n fd hb X q z qe ze r hX hL S
 have hcl:∀ i,ku (l.take i)≤12:=by
  intro i
  have h1:=FV (l.take i)
  have h2:(l.take i).length≤12:=by simp;omega
  omega
 have hchl:∀ (a b:List En),chF a b≤a.length:=by
  intro a
  induction a with
  | nil=>intro b;cases b <;> simp [chF]
  | cons x a ih =>
   intro b
   cases b with
   | nil=>simp [chF]
   | cons y b=>rw [chF,List.length_cons];have:=ih b;split <;> omega
 intro m
 induction m with
 | zero =>
  intro i hi
  have h3:¬ i < l.length:=by omega
  have e1:l.take i=l:=List.take_of_length_le (by omega)
  have e2:L.take i=L:=List.take_of_length_le (by omega)
  rw [e1,e2]
  subst hX
  simp only [E8,h6] at hend ⊢;rw [aj Aa.eq_1]
  try simp at hend
  simp (disch:=omega) [h3,hend,aB,H.inl,ak,H.pp,ppB]
 | succ m ih =>
  intro i hi
  have h1:i < l.length:=by omega
  have h2:i < L.length:=by omega
  have h20:i < L0.length:=by rw [he.len];exact h1
  have this:=ih (i+1) (by omega)
  have hg:=he.get i h1 h20
  have hLi:L[i]=L0[i].own:=by simp only [hL0,List.getElem_map]
  have hkn:L[i].kn=L0[i].kn:=by rw [hLi];rfl
  have hs:L[i].s=L0[i].s:=by rw [hLi];rfl
  have ms:=S.ms i h1
  have b1:=hcl i
  have b2:=hchl (l.take i) (L.take i)
  have b3:(l.take i).length≤12:=by simp;omega
  rw [Yw l i h1,P5 l L i h1 h2] at this
  unfold Ev1 at hg
  rw [← hkn,← hs] at hg
  subst hX
  simp only [aF,eIt] at ms
  simp only [E8,h6] at this ⊢;rw [aj Aa.eq_1]
  generalize ku (l.take i)=cu at *
  generalize chF (l.take i) (L.take i)=cf at *
  rcases hg.2 with ⟨g1,g2⟩ | ⟨g1,g2,g3⟩
  · cases hk:l[i].kn
    · rw [hk] at g1
      simp [hk,g1] at this
      simp (disch:=omega) [h1,h2,hk,g1,g2,this,aB,H.inl,ak,H.pp,ppB]
    · rw [hk] at g1
      simp [hk,g1] at this
      simp (disch:=omega) [h1,h2,hk,g1,g2,this,aB,H.inl,ak,H.pp,ppB]
  · simp [g1,g2] at this
    simp (disch:=omega) [h1,h2,g1,g2,g3,ms,this,aB,H.inl,ak,H.pp,ppB]
end
end Go.D
end
section
namespace Go.D
open Go Go.Pav Go.Pw P
attribute [-simp] List.getElem_cons_drop
variable {C:aG}
section
variable (H:SQ C) (hlives:FnW C 178 []=some (.bool true)) (ks:List Kd) (l:List En) (f:Bool) (v ov k d:Int) (T:List Ht) (L W N N2 L2:List En) (o M:Int) (n fd:Nat) (hb:Bool)
include H hlives
theorem SV (q:List (List AV)) (z:List (List AV)) (qe ze:Bool) (r:Int) (hL:FnW C 130 [.agg [.ro 4 q qe,.ro 1 z ze,.int .u8 r]]=some (.tup [aR ks true 12,aL l f]))
 (a b w:Int) (tb:List P2) (te:Bool) (z0 z1:Int) (hz0:0≤z0∧z0≤255) (hz1:0≤z1∧z1≤255)
 (h347:FnW C 347 [.agg [.int .u8 a,.int .u16 b,.int .u8 w,.ro 2 (tb.map eP2) te],aR ks true 12]=some (.tup [aF ks true 12 v ov 1,.ro 2 (T.map eHt) false]))
 (s v2:Int) (h256:FnW C 256 [.agg [.int .u8 a,.int .u16 b],aL l f]=some (.tup [.int .i64 s,.int .i64 v2]))
 (k0 d0:Int) (hd0:0≤d0∧d0≤4611686018427387904) (h160:FnW C 160 [aL l f,.int .i64 s]=some (.tup [aA k0 d0,.int .i64 0]))
 (hk:k=if l.length=0 then k0 else match l[z1.toNat]? with | some x=>x.i.k | none=>k0) (hd:d=if l.length=0 then d0 else d0+z0 % 64)
 (S:PlS C ks l f v ov k d T L W N N2 L2 o M n fd hb) :
 FnW C 175 [.agg [.ro 4 q qe,.ro 1 z ze,.int .u8 r],.agg [.int .u8 a,.int .u16 b,.int .u8 w,.ro 2 (tb.map eP2) te],.agg [.int .u8 z0,.int .u8 z1]]=some (.bool true):=by
 have hlp:=aeW H hlives ks l f v ov k d T L W N N2 L2 o M n fd hb _ q z qe ze r rfl hL S l.length 0 (by simp)
 have Y4:=S.Y4
 have Ya:=S.Ya
 have s1:=S.s1
 obtain ⟨t,X9,c350⟩:=S.X9
 have s2:=S.s2
 have hln:=S.ln
 have hx:0≤z0 % 64∧z0 % 64 < 64:=⟨Int.emod_nonneg _ (by omega),Int.emod_lt_of_pos _ (by omega)⟩
 have e1:z0.tmod 64=z0 % 64:=Int.tmod_eq_emod_of_nonneg hz0.1
 obtain ⟨j,rfl⟩:∃ j:Nat,z1=j:=⟨z1.toNat,by omega⟩
 rw [show ((j:Int)).toNat=j from rfl] at hk
 simp only [aF,aL,aA,aR,E8,h6,List.take_zero] at hlp Y4 Ya X9 c350 hL h347 h256 h160
 have e2:chF [] []=0:=rfl
 have e3:ku []=0:=rfl
 rw [e2,e3] at hlp
 rw [aH H.f175 rfl]
 clear S
 have hfd:(decide (0 < fd))=decide ((0:Int) < (fd:Int)):=by simp
 rw [hfd] at c350
 try simp at hlp
 by_cases c0:l.length=0
 · rw [if_pos c0] at hk hd
   subst hk
   subst hd
   simp (disch:=omega) [XG,hL,h347,h256,h160,Y4,Ya,s1,X9,c350,s2,c0,hlp,aB,jZ,wU8,H.inl,ak,H.pp,ppB]
 · rw [if_neg c0] at hk hd
   have c0':0 < l.length:=by omega
   by_cases c1:j < l.length
   · rw [List.getElem?_eq_getElem c1] at hk
     simp only at hk
     subst hk
     subst hd
     simp (disch:=omega) [XG,hL,h347,h256,h160,Y4,Ya,s1,X9,c350,s2,c0,c0',c1,e1,hlp,aB,jZ,wU8,H.inl,ak,H.pp,ppB]
   · rw [List.getElem?_eq_none (by omega)] at hk
     simp only at hk
     subst hk
     subst hd
     simp (disch:=omega) [XG,hL,h347,h256,h160,Y4,Ya,s1,X9,c350,s2,c0,c0',c1,e1,hlp,aB,jZ,wU8,H.inl,ak,H.pp,ppB]
end
end Go.D
end
section
namespace Go.D
open Go Go.Pav Go.Pw P
set_option maxHeartbeats 1000000
variable {C:aG}
theorem PE:∀ (l:List En) (i:Nat) (x:En),x ∈ l→0≤fJ x.i.k i l
 | a::r,i,x,h=>by
  rw [fJ]
  split
  · omega
  · rename_i c
    rcases List.mem_cons.1 h with rfl | h
    · exact absurd rfl c
    · exact PE r (i+1) x h
theorem W9:∀ (l L:List En),chF l (L.map En.own)=chF l L
 | [],L=>by cases L <;> rfl
 | a::l,[]=>rfl
 | a::l,b::L=>by rw [List.map_cons,chF,chF,W9 l L];rfl
theorem aat (H:SQ C) (r:Int) (hr:0≤r∧r≤255) (R:List En) (f:Bool) (hl:R.length≤12) (hg:∀ e ∈ R,pV (aX r) e) (hG:Gd (aX r) 12 R) (v ov:Int) (hv:1≤v∧v≤200) (ho:0≤ov∧ov≤3) (T:List Ht) (hT:yE T) (hTl:T.length≤12)
 (k d:Int) (ha:nN R k d):∃ L W N N2 L2 o M n fd hb,PlS C (aX r) R f v ov k d T L W N N2 L2 o M n fd hb:=by
 have hks:=ail r hr
 have hru:=ah9 r
 have hS:Sm (aX r) R:=⟨hl,fun x hx=>by have:=(hg x hx).s;omega,fun x hx=>(hg x hx).i.t⟩
 have hI:SIn (aX r) 12 v ov R k d T:=⟨hru,hG,hT.ok,by omega,by omega,by omega,ha⟩
 have htab:=abl H.toHl.toZ5.toWS T false (by omega) 1
 have hE0:=hT.e hTl
 rw [hE0] at htab
 have hval:I9 (aX r) 12 v ov 1=0:=by
  have:=hG.ru
  unfold I9
  rw [this,if_neg (by simp),if_neg (by omega)]
 have hcs:∀ (l:List En) (e:Bool),Gd (aX r) 12 l→nN l k d→FnW C 344 [aF (aX r) true 12 v ov 1,aL l e,aA k d,.ro 2 (T.map eHt) false]=some (.int .i64 0):=by
  intro l e hGl hal
  have hn:=hGl.n
  have:=Ju H.toHl.toZ5.toJk.toQL.toahE (aX r) true 12 v ov 1 hru l e (by omega) hGl.e k d hal.k0 (T.map eHt) false 0 0 htab
  rw [J6 hval hGl.ck rfl hal] at this
  exact this
 have hcu:=FV R
 obtain ⟨⟨L0,o,n⟩,hx,hsm⟩:=aco hT hks.b hks.l (v:=v) (over:=ov) (k:=k) (d:=d) 1025 R 0 hS (by omega)
 obtain ⟨v1,v2,v3,v4⟩:=ZY 1025 R R 0 L0 o n (EvL.refl R) hx
 have hG0:=Tt hT.ok 1025 R 0 _ hG hx
 simp only at hG0 hsm
 have hA0:=ha.it v1.it
 obtain ⟨N,n1,n2⟩:=TJ hT hks.b hks.l (rdU (aX r) R v ov k d) R hS
 have hGN:=(Ia hT.ok _ _ _ hG n1).1
 have hlen0:=v1.len
 have hl0:L0.length≤12:=by omega
 have hSe:=H.toHl.toZ5.toJk.toQL
 have hHL:=hSe.toahE.toDk.touN.tokU
 have big:∀ (l:List En),Gd (aX r) 12 l→∀ x ∈ l,x.i.m.length≤9223372036854775807:=fun l h x hx=>by have:=(h.e x hx).i.m;omega
 have hsame:∀ (l:List En) (e g:Bool),Gd (aX r) 12 l→FnW C 172 [.ro 6 ((l.map En.own).map eEn) e,.ro 6 (l.map eEn) g]=some (.int .i64 1):=by
  intro l e g h
  have hn:=h.n
  have:=Jd hHL (l.map En.own) l e g (by simp;omega) (by omega) (big _ h.own) (big l h)
  rw [this,JD];simp
 have hself:FnW C 172 [.ro 6 (R.map eEn) f,.ro 6 (R.map eEn) f]=some (.int .i64 1):=by
  have:=Jd hHL R R f f (by omega) (by omega) (big R hG) (big R hG)
  rw [this,Gw];simp
 have hz0:=hG0.szd
 have hzo:=hG0.own.szd
 have hvp:=xA (k:=k) (d:=d) hzo (v:=v) (by omega)
 rw [oK,← v3] at hvp
 have h348:=Tf (aX r) true 12 v ov 1 k d T false H.toHl.toZ5.toJk R f hI
 rw [hx] at h348
 have h174:=BN (aX r) true 12 v ov 1 k d T false hSe R f hI (hcs R f hG ha)
 rw [LC,hx] at h174
 have h349:=Ji (aX r) true 12 v ov 1 k d T false H.toHl.toZ5.toJk hI f
 unfold rrR at h349
 rw [n1] at h349
 have h350:=acu (aX r) true 12 v ov 1 k d T false hSe R f hI (hcs R f hG ha)
 unfold roR at h350
 rw [FN,Po,oK,n1] at h350
 have hfd:decide (rdU (aX r) R v ov k d≠[])=decide (0 < (rdU (aX r) R v ov k d).length):=by rw [decide_eq_decide];exact List.length_pos_iff.symm
 have hI0:SIn (aX r) 12 v ov (L0.map En.own) k d T:=⟨hru,hG0.own,hT.ok,by omega,by omega,by omega,hA0.own⟩
 have h174b:=BN (aX r) true 12 v ov 1 k d T false hSe (L0.map En.own) true hI0 (hcs _ true hG0.own hA0.own)
 rw [abU (by rw [FN,FN,v2]) 1024 0,oK,oK,← v3] at h174b
 have h135:=Vk hSe.toQJ.toadU.touJ (aX r) true 12 hru (L0.map En.own) true hG0.own.e hG0.own.ck hG0.own.ty o v ov hvp (by omega)
 rw [Q8,QN,v3] at h135
 have hu0:kY L0 (fG (aX r) L0 (eY L0 v k d) v ov)=[]:=v2
 rw [hu0,← v3] at h135
 have hs0:=hvp.s0
 have hmo:dI (L0.map En.own) v≤4611686018427387904:=by have:=hzo.t;unfold dI;split <;> omega
 have h321:=ag5 H.toHl (L0.map En.own) true hzo o k d (by omega) hA0.own
 have hsm0:=hzo.aiT
 have h327:=zi hSe.toyc.tojf (L0.map En.own) true hzo v (by omega)
 refine ⟨L0.map En.own,L0,N,N.map En.own,(L0.map En.own).map En.own,o,dI (L0.map En.own) v,n,(rdU (aX r) R v ov k d).length,_,h348,h174,hsame L0 true false hG0,⟨eY R v k d,h349,?_⟩,hsame N true false hGN,fun i h=>?_,h135,h321,h327,?_,h174b,hsame _ true true hG0.own,hself,hl,⟨L0,v1,rfl⟩,by omega,?_⟩
 · rw [← hfd];exact h350
 · exact Ov hSe.toQJ.toIq (aX r) true 12 v ov 1 R[i].i (by have:=(hg _ (List.getElem_mem h)).i.t;omega) (by simp [aX]) T false (by omega)
 · have ho3:o=eY (L0.map En.own) v k d:=by rw [oK];exact v3
   rw [ho3]
   unfold eY
   by_cases c:k=0
   · right;left;rw [if_pos c]
   · rw [if_neg c]
     generalize top (L0.map En.own) (fJ k 0 (L0.map En.own)).toNat=t
     have hd0:=ha.d0
     unfold clF
     by_cases c1:dI (L0.map En.own) v < t+d
     · right;right;rw [if_pos c1]
     · rw [if_neg c1]
       by_cases c2:t+d < 0
       · right;left;rw [if_pos c2]
       · left
         rw [if_neg c2]
         have e1:t≤t+d:=by omega
         have e2:t+d - t=d:=by omega
         simp [e1,e2]
 · rw [W9]
   have:=V3 v1
   omega
theorem abT (H:SQ C) (hone:∀ q:Q4,QIn q→∃ i:It,FnW C 422 [.agg (eQ q)]=some (eIt i)∧Good i) (hlives:FnW C 178 []=some (.bool true)) (q:List Q4) (qe:Bool) (hq:∀ x ∈ q,QIn x) (z:List Int) (ze:Bool) (hz:∀ s ∈ z,0≤s∧s≤255) (hzl:z.length < 9223372036854775808) (r:Int) (hr:0≤r∧r≤255)
 (a b w:Int) (ha:0≤a∧a≤255) (hb:0≤b∧b≤65535) (hw:0≤w∧w≤255) (tb:List P2) (te:Bool) (htb:∀ x ∈ tb,PIn x) (z0 z1:Int) (hz0:0≤z0∧z0≤255) (hz1:0≤z1∧z1≤255) :
 FnW C 175 [.agg [.ro 4 (q.map eQ) qe,.ro 1 (z.map eU8) ze,.int .u8 r],.agg [.int .u8 a,.int .u16 b,.int .u8 w,.ro 2 (tb.map eP2) te],.agg [.int .u8 z0,.int .u8 z1]]=some (.bool true):=by
 obtain ⟨R,f,hof,hl,hg,hn⟩:=ai9 H.toHl.toZ5.toJk.toQL.toQJ.toIq.totH hone q qe hq z ze hz hzl r hr
 have hck:=aeZ r hr R (by omega) hg hn
 have hG:Gd (aX r) 12 R:=ab5 hck fun x hx=>(hg x hx).en
 have hzd:=hG.szd
 obtain ⟨s,v2,h256,hp⟩:=aiB H.toHl.toJp R f hzd a b ha hb
 obtain ⟨T,t1,t2,h347⟩:=ajE (aX r) true 12 a b w tb te H.toHl ha hw htb
 have hx:0≤a % 200∧a % 200 < 200:=⟨Int.emod_nonneg _ (by omega),Int.emod_lt_of_pos _ (by omega)⟩
 have hy:0≤w % 4∧w % 4 < 4:=⟨Int.emod_nonneg _ (by omega),Int.emod_lt_of_pos _ (by omega)⟩
 have hz2:0≤z0 % 64∧z0 % 64 < 64:=⟨Int.emod_nonneg _ (by omega),Int.emod_lt_of_pos _ (by omega)⟩
 have anMem:∀ (x:En) (d:Int),x ∈ R→0≤d∧d≤1000→nN R x.i.k d:=fun x d hxm hd =>
  ⟨by have:=(hg x hxm).i.k;omega,by omega,fun q=>by have:=(hg x hxm).i.k;omega,fun _=>PE R 0 x hxm⟩
 by_cases hne:R=[]
 · subst hne
   have hs:s=0:=by
    have:=hp.s0
    have h1:dI [] v2=0:=by unfold dI;have:=hp.v0;simp [sm];omega
    omega
   subst hs
   have h160:=aep H.toHl f
   obtain ⟨L,W,N,N2,L2,o,M,n,fd,hb2,S⟩:=aat H r hr [] f hl hg hG (1+a % 200) (w % 4) (by omega) (by omega) T t2 t1 0 0 ⟨by omega,by omega,fun _=>rfl,fun q=>absurd rfl q⟩
   exact SV H hlives (aX r) [] f _ _ 0 0 T L W N N2 L2 o M n fd hb2 (q.map eQ) (z.map eU8) qe ze r hof a b w tb te z0 z1 hz0 hz1 h347 0 v2 h256 0 0 (by omega) h160 (by simp) (by simp) S
 · have hpos:0 < R.length:=List.length_pos_iff.2 hne
   have hsm:0 < sm R:=by
    have h1:=hzd.lt hpos
    have h2:=hzd.rng 0
    have h3:=hzd.rng (0+1)
    rw [Jy] at h1
    omega
   have hs:0≤s∧s < sm R:=by
    have h1:=hp.s0
    have h2:=hp.v0
    have h3:dI R v2 < sm R:=by unfold dI;split <;> omega
    omega
   obtain ⟨p,p1,p2,p3⟩:=hzd.row hs.1 hs.2
   have h160:=ajW H.toHl R f hzd s p p1 p2 p3
   have hps:=(hg _ (List.getElem_mem p1)).s
   rw [Bl p1] at p3
   have hlz:¬ R.length=0:=by omega
   have hAn:nN R (match R[z1.toNat]? with | some x=>x.i.k | none=>R[p].i.k) (s - top R p+z0 % 64):=by
    cases hj:R[z1.toNat]? with
    | none=>exact anMem _ _ (List.getElem_mem p1) (by omega)
    | some x=>exact anMem x _ (List.mem_of_getElem? hj) (by omega)
   obtain ⟨L,W,N,N2,L2,o,M,n,fd,hb2,S⟩:=aat H r hr R f hl hg hG (1+a % 200) (w % 4) (by omega) (by omega) T t2 t1 _ _ hAn
   exact SV H hlives (aX r) R f _ _ _ _ T L W N N2 L2 o M n fd hb2 (q.map eQ) (z.map eU8) qe ze r hof a b w tb te z0 z1 hz0 hz1 h347 s v2 h256 R[p].i.k (s - top R p) (by omega) h160 (by rw [if_neg hlz];try rfl) (by rw [if_neg hlz]) S
end Go.D
end
section
namespace Go.D
open Go Go.Pav Go.Pw P
attribute [-simp] List.getElem_cons_drop
variable {C:aG}
structure aao (C:aG):Prop extends SQ C where
 f92:C.fns.get 92=some w92
 f173:C.fns.get 173=some ahv
def enK (i:Nat):En:=⟨⟨(i:Int)+1,0,[],[],true⟩,10,false⟩
def lK (n:Nat):List En:=(List.range n).map enK
def htK (i:Nat):Ht:=⟨(i:Int)+1,1⟩
def tK (n:Nat):List Ht:=(List.range n).map htK
theorem afN (n:Nat):lK (n+1)=lK n++[enK n]:=by unfold lK;rw [List.range_succ,List.map_append];rfl
theorem Vt (n:Nat):(lK n).length=n:=by simp [lK]
theorem akK (n:Nat):(tK n).length=n:=by simp [tK]
def aiY:Bs:=[114,111,119]
def ksK:List Kd:=[⟨⟨1,aiY,[],[],true,[],[],true⟩,10,false,0⟩]
abbrev fC (v ov:Int):List AV:=[.ro 9 (ksK.map eKd) true,.int .i64 1,.int .i64 v,.int .i64 ov,.int .i64 1]
theorem WL (H:aao C) (v:Int):FnW C 173 [.int .i64 v]=some (.tup [.agg (fC v 0),.agg [.ro 6 ((lK 4).map eEn) false]]):=by
 have e4:lK 4=[enK 0,enK 1,enK 2,enK 3]:=rfl
 rw [aH H.f173 rfl,e4]
 simp (disch:=omega) [ahv,aj LX.eq_1,aj Xj.eq_1,enK,ksK,aiY,aB,jZ,H.inl,ak,H.pp,ppB]
end Go.D
end
section
namespace Go.D
open Go Go.Pav Go.Pw P
variable {C:aG}
theorem amL:lg ksK:=⟨by simp [ksK],by
 intro k hk
 simp only [ksK,List.mem_cons,List.not_mem_nil,or_false] at hk
 subst hk
 exact .mk _ ⟨by simp,by simp,by simp [aiY]⟩ (by simp)⟩
theorem abf {n:Nat} (hn:n≤1000):∀ x ∈ lK n,qC x:=by
 intro x hx
 obtain ⟨i,hi,rfl⟩:=List.mem_map.1 hx
 rw [List.mem_range] at hi
 exact ⟨⟨by simp only [enK];omega,by simp [enK],by simp [enK]⟩,by simp [enK]⟩
theorem ac9:ckE ksK 1 (lK 12)=0:=by decide +kernel
theorem ahN:ckE ksK 1 (lK 4)=0:=by decide +kernel
theorem aek:ckE ksK 1 (lK 300)=0:=by decide +kernel
def okR (x:Option (List En × Int × Nat)) (o:Int) (n:Nat) (len:Nat) (t:Int) (ks:List (Nat × Bool)):Bool:=match x with
 | some (L,o',n')=>decide (o'=o)&&(decide (n'=n)&&(decide (L.length=len)&&(decide (tot L=t)&&ks.all fun p=>match L[p.1]? with
  | some e=>e.kn == p.2
  | none=>false)))
 | none=>false
def tB:List Ht:=[⟨1,2305843009213693952⟩,⟨2,2305843009213693952⟩,⟨3,2305843009213693952⟩]
def tG:List Ht:=[⟨151,1099511627776⟩]
theorem aqU:okR (stF ksK (tK 12) 10 0 1 0 1025 (lK 12) 0) 0 10 12 30 [(9,true),(10,false)]=true:=by decide +kernel
theorem asv:okR (stF ksK (tK 12) 10 0 12 9 1025 (lK 12) 0) 20 10 12 30 [(1,false),(2,true)]=true:=by decide +kernel
theorem asV:(stF ksK tB 30 0 1 0 1025 (lK 4) 0).isNone=true:=by decide +kernel
theorem ar7:okR (stF ksK tB 5 0 1 0 1025 (lK 4) 0) 0 1 4 2305843009213693982 []=true:=by decide +kernel
theorem aro:okR (stF ksK tG 1000 16 150 0 1025 (lK 300) 0) 1490 1 300 1099511630766 [(132,false),(133,true),(264,true),(265,false)]=true:=by decide +kernel
end Go.D
end
