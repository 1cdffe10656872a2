/- Part of the theory that the claims of this work use: E02, E03, E04, E06, E08, G01, E12, E13, E07, E09, D46, E15, E16, E10, E11, D30, D31, D38, D40, D47, D48, D49, E17, E18, E19, E31. No conditions of its own. -/
import Derived.Test.YtcekmcchienbfaaGreatT6
set_option linter.unusedVariables false
set_option linter.unusedSimpArgs false
set_option maxHeartbeats 4000000
set_option maxRecDepth 10000
section
namespace Go.D
open Go Go.Pav Go.Pw P
attribute [-simp] List.getElem_cons_drop
variable {C:aG}
structure jf (C:aG):Prop extends kU C where
 f122:C.fns.get 122=some ZJ
 f249:C.fns.get 249=some ae6
 f250:C.fns.get 250=some YA
 f246:C.fns.get 246=some abu
 f247:C.fns.get 247=some agP
 amA:C.fns.get 411=some afE
 ame:C.fns.get 412=some agA
 f120:C.fns.get 120=some Uf
 f248:C.fns.get 248=some LU
 f121:C.fns.get 121=some Zf
 f251:C.fns.get 251=some abp
 f252:C.fns.get 252=some Kr
 f253:C.fns.get 253=some agD
 f272:C.fns.get 272=some YE
 f327:C.fns.get 327=some ac0
def SzB (l:List En):Prop:=∀ x ∈ l,-9223372036854775808≤x.s∧x.s≤9223372036854775807
def szF:Nat→List En→Int
 | _,[]=>-1
 | i,e::r=>if hOk e.s=true then szF (i+1) r else i
theorem VZ:∀ (l:List En) (i:Nat),decide (0≤szF i l)=l.any (fun e=>!hOk e.s)
 | [],i=>by simp [szF]
 | e::r,i=>by
  rw [szF,List.any_cons]
  cases c:hOk e.s
  · simp
  · simp [VZ r (i+1)]
theorem ab3 (H:jf C) (x:En):FnW C 250 [aE x]=some (.bool (!hOk x.s)):=by
 rw [aH H.f250 rfl]
 unfold hOk
 by_cases c1:1≤x.s
 · have c1':¬ x.s < 1:=by omega
   by_cases c2:x.s≤2305843009213693952
   · have c2':¬ 2305843009213693952 < x.s:=by omega
     simp [YA,c1,c1',c2,c2']
   · have c2':2305843009213693952 < x.s:=by omega
     simp [YA,c1,c1',c2,c2']
 · have c1':x.s < 1:=by omega
   simp [YA,c1,c1']
theorem UH (H:jf C) (l:List En) (e:Bool) (hl:l.length≤1000000):∀ n i,n+i=l.length →
 l9 C ⟨[(8,.int .i64 i),(7,.int .i64 l.length),(1,.fn 250 []),(0,.ro 6 (l.map eEn) e)],[],0⟩=some (.int .i64 (szF i (l.drop i))):=by
 intro n
 induction n with
 | zero =>
  intro i hi
  simp only [l9];rw [aj nX.eq_1]
  have h1:l.drop i=[]:=List.drop_eq_nil_of_le (by omega)
  have h3:¬ i < l.length:=by omega
  simp (disch:=omega) [aj Fq.eq_1,h1,h3,szF]
 | succ n ih =>
  intro i hi
  have h1:i < l.length:=by omega
  have hf:=ab3 H l[i]
  have:=ih (i+1) (by omega)
  rw [drop_cons h1,szF]
  simp only [aE,eEn] at hf
  cases c:hOk l[i].s
  · rw [if_neg (by simp)]
    simp [c] at hf
    simp only [l9];rw [aj nX.eq_1]
    simp (disch:=omega) [h1,aB,hf,H.inl,ak,H.pp,ppB]
  · rw [if_pos rfl]
    simp [c] at hf
    simp only [l9] at this ⊢;rw [aj nX.eq_1]
    simp at this
    simp (disch:=omega) [h1,aB,hf,H.inl,ak,H.pp,ppB,this]
theorem aaZ (H:jf C) (l:List En) (e:Bool) (hl:l.length≤1000000):FnW C 249 [.ro 6 (l.map eEn) e,.fn 250 []]=some (.bool (l.any fun e=>!hOk e.s)):=by
 have h:=UH H l e hl l.length 0 (by simp)
 have key:FnW C 402 [.ro 6 (l.map eEn) e,.fn 250 []]=some (.int .i64 (szF 0 l)):=by
  simp only [l9] at h
  simp at h
  rw [aH H.agB rfl]
  simp [acp,h]
 have h2:=VZ l 0
 rw [aH H.f249 rfl,← h2]
 simp [ae6,key,H.inl,ak,H.pp,ppB]
theorem uw (H:jf C) (l:List En) (e:Bool) (hl:l.length≤1000000) (hs:SzB l):FnW C 122 [aL l e]=some (.int .i64 (szE l)):=by
 have h1:=aaZ H l e hl
 have h2:=nH H.tokU l e hl hs
 rw [aH H.f122 rfl]
 unfold szE ovE
 generalize tot l=T at *
 by_cases c1:1024 < l.length
 · simp [ZJ,c1]
 · cases c2:l.any fun e=>!hOk e.s
   · rw [c2] at h1
     by_cases c3:4611686018427387904 < T <;> simp [ZJ,c1,h1,h2,c3,H.inl,ak,H.pp,ppB]
   · rw [c2] at h1
     simp [ZJ,c1,h1,h2,H.inl,ak,H.pp,ppB]
theorem J3 (H:kU C) (l:List En) (e:Bool) (hl:l.length≤1000000) (hs:SzB l):FnW C 407 [.ro 6 (l.map eEn) e]=some (.int .i64 (ovE l)):=by
 have h:=Qy H l e hl hs
 rw [aH H.aeN rfl]
 unfold ovE
 by_cases c:4611686018427387904 < tot l <;> simp [aaC,h,H.inl,ak,H.pp,ppB,c]
theorem SA (H:jf C) (l:List En) (e:Bool) (hl:l.length≤1000000) (hs:SzB l):∀ n i,n+i=l.length →
 uZ C ⟨[(3,.int .i64 i),(0,.ro 6 (l.map eEn) e)],[],0⟩=some (.int .i64 (if (l.drop i).any (fun e=>!hOk e.s) then 12 else ovE l)):=by
 intro n
 induction n with
 | zero =>
  intro i hi
  have h1:l.drop i=[]:=List.drop_eq_nil_of_le (by omega)
  have h3:¬ i < l.length:=by omega
  have ht:=J3 H.tokU l e hl hs
  simp only [uZ];rw [aj qP.eq_1]
  simp (disch:=omega) [aj OJ.eq_1,h1,h3,ht,H.inl,ak,H.pp,ppB]
 | succ n ih =>
  intro i hi
  have h1:i < l.length:=by omega
  have:=ih (i+1) (by omega)
  rw [drop_cons h1,List.any_cons]
  generalize (l.drop (i+1)).any (fun e=>!hOk e.s)=X at *
  unfold hOk
  by_cases c1:1≤l[i].s
  · have c1':¬ l[i].s < 1:=by omega
    by_cases c2:l[i].s≤2305843009213693952
    · have c2':¬ 2305843009213693952 < l[i].s:=by omega
      simp only [uZ] at this ⊢;rw [aj qP.eq_1]
      simp at this
      simp (disch:=omega) [h1,aB,c1,c1',c2,c2',this]
    · have c2':2305843009213693952 < l[i].s:=by omega
      simp only [uZ];rw [aj qP.eq_1]
      simp (disch:=omega) [h1,aB,c1,c1',c2,c2']
  · have c1':l[i].s < 1:=by omega
    simp only [uZ];rw [aj qP.eq_1]
    simp (disch:=omega) [h1,aB,c1,c1']
theorem Jf (H:jf C) (l:List En) (e:Bool) (hl:l.length≤1000000) (hs:SzB l):FnW C 251 [.ro 6 (l.map eEn) e]=some (.int .i64 (szE l)):=by
 have h:=SA H l e hl hs l.length 0 (by simp)
 rw [List.drop_zero] at h
 rw [aH H.f251 rfl]
 unfold szE
 by_cases c1:1024 < l.length
 · simp [abp,c1]
 · generalize l.any (fun e=>!hOk e.s)=X at *
   simp only [uZ] at h
   simp at h
   simp [abp,c1,h]
def tps (l:List En):List Int:=(List.range (l.length+1)).map (top l)
theorem jh (l:List En):(tps l).length=l.length+1:=by simp [tps]
theorem AZ (l:List En) {i:Nat} (h:i < (tps l).length):(tps l)[i]=top l i:=by simp [tps]
theorem Yx (H:jf C) (l:List En) (e:Bool) (hz:Szd l):∀ n i,n+i=l.length→∀ G:List Int,G=(List.range (i+1)).map (top l)→G.length=i+1 →
 EF C ⟨[(20,.int .i64 i),(19,.int .i64 l.length),(5,.sl 0 1 0 (l.length+1) (l.length+1) true),(1,.ptr 1 0 0)],[(0,.cells 1 (G.map eI++List.replicate n [.int .i64 0]) true true),(1,.cells 1 [[.ro 6 (l.map eEn) e]] true true)],2⟩ =
  some (.tup [.ro 1 ((tps l).map eI) true,.int .i64 0]):=by
 intro n
 induction n with
 | zero =>
  intro i hi G hG hGl
  have h3:¬ i < l.length:=by omega
  have h6:List.take (l.length+1) (List.map eI G)=List.map eI G:=List.take_of_length_le (by simp;omega)
  have h7:G.length=l.length+1:=by omega
  have h8:tps l=G:=by rw [hG];unfold tps;rw [show i=l.length by omega]
  rw [h8]
  simp only [EF];rw [aj yN.eq_1]
  simp [aj Nq.eq_1,h3,h6,h7]
 | succ n ih =>
  intro i hi G hG hGl
  have hn:=hz.n
  have h1:i < l.length:=by omega
  have hr:=hz.small i
  have hr2:=hz.small (i+1)
  have this:=ih (i+1) (by omega) (G++[top l (i+1)]) (by rw [List.range_succ,List.map_append,← hG];rfl) (by simp [hGl])
  have hg:(G.map eI++List.replicate (n+1) [AV.int .i64 0])[i]?=some (eI (top l i)):=by
   rw [List.getElem?_append_left (by simp;omega),List.getElem?_map,hG]
   simp
  have h1b:i < l.length+1:=by omega
  rw [Bl h1] at hr2 this
  simp only [EF] at this ⊢;rw [aj yN.eq_1]
  simp at this
  simp (disch:=omega) [h1,h1b,aB,hg,y8,AO,hGl,this]
theorem wX (H:jf C) (l:List En) (e:Bool) (hz:Szd l):FnW C 246 [aL l e]=some (.tup [.ro 1 ((tps l).map eI) true,.int .i64 0]):=by
 have hn:=hz.n
 have h1:=uw H l e (by omega) (fun x hx=>by have:=hz.s x hx;omega)
 rw [C9 hz] at h1
 have h:=Yx H l e hz l.length 0 (by simp) [0] (by simp [Jy]) rfl
 have h2:(l.length+1) * 9≤35184372088832:=by omega
 have h3:(l.length:Int)+1=((l.length+1:Nat):Int):=by omega
 rw [aH H.f246 rfl]
 simp only [EF] at h
 simp at h
 simp (disch:=omega) [abu,h1,h2,aB,List.replicate_succ,h,H.inl,ak,H.pp,ppB]
theorem aa2 (H:jf C) (l:List En) (e:Bool) (hl:l.length≤1000000) (hs:SzB l) (hz:szE l≠0):FnW C 246 [aL l e]=some (.tup [.ro 1 [] true,.int .i64 (szE l)]):=by
 have h1:=uw H l e hl hs
 rw [aH H.f246 rfl]
 generalize szE l=E at *
 simp (disch:=omega) [abu,h1,hz,H.inl,ak,H.pp,ppB]
theorem abq (H:jf C) (l:List En) (x:Int) (k:Nat) (hk:k < l.length) (hn:l.length≤1024) :
 FnW C 412 [.int .i64 k,.rop [.ro 1 ((tps l).map eI) true],.rop [.int .i64 x]]=some (.bool (decide (x < top l (k+1)))):=by
 have h1:k+1 < (tps l).length:=by rw [jh];omega
 have h2:=AZ l h1
 rw [aH H.ame rfl]
 simp (disch:=omega) [agA,aB,h1,h2]
theorem PS (H:jf C) (l:List En) (x:Int) (hz:Szd l) (p:Nat) (hp:p < l.length) (hp1:top l p≤x) (hp2:x < top l (p+1)):∀ (n i j:Nat),j - i≤n→i≤p→p≤j→j≤l.length →
 vU C ⟨[(6,.int .i64 j),(5,.int .i64 i),(1,.fn 412 [.rop [.ro 1 ((tps l).map eI) true],.rop [.int .i64 x]])],[],0⟩=some (.int .i64 p):=by
 intro n
 induction n with
 | zero =>
  intro i j h1 h2 h3 h4
  have h5:i=p:=by omega
  have h6:j=p:=by omega
  subst h5
  subst h6
  simp only [vU];rw [aj rX.eq_1]
  simp (disch:=omega) [aj Ea.eq_1]
 | succ n ih =>
  intro i j h1 h2 h3 h4
  have hn:=hz.n
  by_cases c:i < j
  · obtain ⟨m,hm⟩:∃ m,m=(i+j) / 2:=⟨_,rfl⟩
    have hk:m < l.length:=by omega
    have hf:=abq H l x m hk hn
    have hw:IntKind.i64.wrap ((IntKind.u64.wrap ((i:Int)+j)).fdiv (2 ^ min 1 IntKind.u64.bits))=m:=by
     have e1:(2:Int) ^ min 1 IntKind.u64.bits=2:=by decide
     rw [jZ (by omega) (by omega),e1,Int.fdiv_eq_ediv_of_nonneg _ (by omega)]
     have e2:((i:Int)+j) / 2=m:=by omega
     rw [e2,aB (by omega) (by omega)]
    by_cases c2:x < top l (m+1)
    · have h7:p≤m:=by
       by_cases d:p≤m
       · exact d
       · have:=hz.mono (i:=m+1) (j:=p) (by omega) (by omega);omega
      have this:=ih i m (by omega) h2 h7 (by omega)
      rw [decide_eq_true c2] at hf
      simp only [vU] at this ⊢;rw [aj rX.eq_1]
      try simp at this
      simp (disch:=omega) [c,aB,hw,hf,this,H.inl,ak,H.pp,ppB]
    · have h7:m+1≤p:=by
       by_cases d:m+1≤p
       · exact d
       · have:=hz.mono (i:=p+1) (j:=m+1) (by omega) (by omega);omega
      have this:=ih (m+1) j (by omega) h7 h3 h4
      rw [decide_eq_false c2] at hf
      simp only [vU] at this ⊢;rw [aj rX.eq_1]
      try simp at this
      simp (disch:=omega) [c,aB,hw,hf,this,H.inl,ak,H.pp,ppB]
  · have h5:i=p:=by omega
    have h6:j=p:=by omega
    subst h5
    subst h6
    simp only [vU];rw [aj rX.eq_1]
    simp (disch:=omega) [aj Ea.eq_1]
theorem G5 (H:jf C) (l:List En) (x:Int) (hz:Szd l) (p:Nat) (hp:p < l.length) (hp1:top l p≤x) (hp2:x < top l (p+1)):FnW C 247 [.ro 1 ((tps l).map eI) true,.int .i64 x]=some (.int .i64 p):=by
 have hn:=hz.n
 have h:=PS H l x hz p hp hp1 hp2 l.length 0 l.length (by omega) (by omega) (by omega) (by omega)
 have key:FnW C 411 [.int .i64 l.length,.fn 412 [.rop [.ro 1 ((tps l).map eI) true],.rop [.int .i64 x]]]=some (.int .i64 p):=by
  rw [aH H.amA rfl]
  simp only [vU] at h
  simp at h
  simp [afE,h]
 have h3:((l.length:Int)+1) - 1=l.length:=by omega
 rw [aH H.f247 rfl]
 simp (disch:=omega) [agP,jh,aB,h3,key,H.inl,ak,H.pp,ppB]
theorem QT (l:List En) (h:l.length < (tps l).length):(tps l)[l.length]=sm l:=by
 rw [AZ,wL]
def atR (l:List En) (x:Int):AV:=if szE l≠0 then .tup [.int .i64 0,.int .i64 (szE l)] else if x < 0∨sm l≤x then .tup [.int .i64 0,.int .i64 4] else .tup [.int .i64 (rowA l x),.int .i64 0]
theorem amd (H:jf C) (l:List En) (e:Bool) (hl:l.length≤1000000) (hs:SzB l) (x:Int):FnW C 120 [aL l e,.int .i64 x]=some (atR l x):=by
 unfold atR
 by_cases hz0:szE l=0
 · rw [if_neg (by simpa using hz0)]
   have hz:=Ho hz0
   have hn:=hz.n
   have h1:=wX H l e hz
   have h3:((l.length:Int)+1) - 1=l.length:=by omega
   have h4:=QT l
   have h5':l.length < (tps l).length:=by rw [jh];omega
   have h5:l.length < (tps l).length:=by rw [jh];omega
   rw [aH H.f120 rfl]
   by_cases c1:x < 0
   · rw [if_pos (.inl c1)]
     simp (disch:=omega) [Uf,h1,c1,H.inl,ak,H.pp,ppB]
   · by_cases c2:sm l≤x
     · rw [if_pos (.inr c2)]
       simp (disch:=omega) [Uf,h1,c1,c2,jh,h3,h4,h5',aB,H.inl,ak,H.pp,ppB]
     · rw [if_neg (by omega)]
       obtain ⟨p,p1,p2,p3⟩:=hz.row (by omega:0≤x) (by omega)
       have h6:=G5 H l x hz p p1 p2 p3
       rw [hz.pG p1 p2 p3]
       simp (disch:=omega) [Uf,h1,c1,c2,jh,h3,h4,h5',h6,aB,H.inl,ak,H.pp,ppB]
 · rw [if_pos hz0]
   have h1:=aa2 H l e hl hs hz0
   rw [aH H.f120 rfl]
   generalize szE l=E at *
   simp (disch:=omega) [Uf,h1,hz0,H.inl,ak,H.pp,ppB]
theorem RS (H:jf C) (l:List En) (e:Bool) (hl:l.length≤1000000) (hs:SzB l) (o v:Int) (ho:-9223372036854775808≤o∧o≤9223372036854775807) (hv:-9223372036854775808≤v∧v≤9223372036854775807) :
 FnW C 248 [aL l e,.int .i64 o,.int .i64 v]=some (.int .i64 (vpE l o v)):=by
 have h1:=uw H l e hl hs
 rw [aH H.f248 rfl]
 unfold vpE
 by_cases hz0:szE l=0
 · rw [hz0] at h1 ⊢
   have hz:=Ho hz0
   have h2:=nH H.tokU l e hl hs
   have h3:=hz.nn
   have h4:=hz.t
   rw [hz.tot] at h2
   rw [if_neg (by simp)]
   by_cases c1:v < 1
   · simp (disch:=omega) [LU,h1,c1,H.inl,ak,H.pp,ppB]
   · by_cases c2:2147483648 < v
     · simp (disch:=omega) [LU,h1,c1,c2,H.inl,ak,H.pp,ppB]
     · rw [if_neg (by omega)]
       by_cases c3:o < 0
       · simp (disch:=omega) [LU,h1,c1,c2,c3,H.inl,ak,H.pp,ppB]
       · have h5:(if v < sm l then sm l - v else 0)=dI l v:=by unfold dI;split <;> split <;> omega
         by_cases c4:dI l v < o
         · simp (disch:=omega) [LU,h1,c1,c2,c3,c4,h2,h5,aB,imax,H.inl,ak,H.pp,ppB]
         · simp (disch:=omega) [LU,h1,c1,c2,c3,c4,h2,h5,aB,imax,H.inl,ak,H.pp,ppB]
 · rw [if_pos hz0]
   generalize szE l=E at *
   simp (disch:=omega) [LU,h1,hz0,H.inl,ak,H.pp,ppB]
theorem Tz (H:jf C) (l:List En) (e:Bool) (hl:l.length≤1000000) (hs:SzB l) (o v:Int) (ho:-9223372036854775808≤o∧o≤9223372036854775807) (hv:-9223372036854775808≤v∧v≤9223372036854775807) :
 FnW C 121 [aL l e,.int .i64 o,.int .i64 v]=some (if vpE l o v≠0 then .tup [.int .i64 0,.int .i64 0,.int .i64 (vpE l o v)] else .tup [.int .i64 (DX l o v),.int .i64 (DZ l o v),.int .i64 0]):=by
 have h1:=RS H l e hl hs o v ho hv
 rw [aH H.f121 rfl]
 by_cases c0:vpE l o v=0
 · rw [if_neg (by simpa using c0)]
   have hp:=amX c0
   have hn:=hp.n
   rw [c0] at h1
   have h2:=wX H l e hp.toSzd
   have h4:=QT l
   have h5':l.length < (tps l).length:=by rw [jh];omega
   have h3:((l.length:Int)+1) - 1=l.length:=by omega
   have hv0:=hp.v0
   have hs0:=hp.s0
   have ht:=hp.t
   have hnn:=hp.nn
   unfold DX DZ
   by_cases c1:l.length=0
   · simp (disch:=omega) [Zf,h1,h2,c1,jh,aB,H.inl,ak,H.pp,ppB]
   · rw [if_neg c1,if_neg c1]
     obtain ⟨p,q,p1,q1,hpq,a,b⟩:=hp.ends (by omega)
     have hm:jH (o+v) (sm l)≤sm l:=by unfold jH;split <;> omega
     have hlo:dI l v≤sm l:=by unfold dI;split <;> omega
     have h5:=G5 H l o hp.toSzd p p1 a.1 a.2
     have h6:=G5 H l _ hp.toSzd q q1 b.1 b.2
     have hq:=hp.rng q
     rw [hp.pG p1 a.1 a.2,hp.pG q1 b.1 b.2]
     have c1':¬ ((l.length:Int)+1=1):=by omega
     generalize hM:jH (o+v) (sm l)=M at *
     simp (disch:=omega) [Zf,h1,h2,c1',jh,h3,h4,h5',h5,h6,hM,aB,H.inl,ak,H.pp,ppB]
 · rw [if_pos c0]
   generalize vpE l o v=E at *
   simp (disch:=omega) [Zf,h1,c0,H.inl,ak,H.pp,ppB]
theorem YC (H:jf C) (l:List En) (e:Bool) (hz:Szd l) (j:Nat) (hj:j≤l.length):∀ n i,n+i=j →
 EY C ⟨[(6,.int .i64 i),(5,.int .i64 (top l i)),(1,.int .i64 j),(0,.ro 6 (l.map eEn) e)],[],0⟩=some (.int .i64 (top l j)):=by
 intro n
 induction n with
 | zero =>
  intro i hi
  have h1:i=j:=by omega
  subst h1
  simp only [EY];rw [aj Aw.eq_1]
  simp (disch:=omega) [aj ML.eq_1]
 | succ n ih =>
  intro i hi
  have h1:i < l.length:=by omega
  have h2:i < j:=by omega
  have hn:=hz.n
  have hr:=hz.small (i+1)
  have this:=ih (i+1) (by omega)
  rw [Bl h1] at this hr
  simp only [EY] at this ⊢;rw [aj Aw.eq_1]
  simp at this
  simp (disch:=omega) [h1,h2,aB,this]
theorem zQ (H:jf C) (l:List En) (e:Bool) (hz:Szd l) (j:Nat) (hj:j≤l.length):FnW C 253 [.ro 6 (l.map eEn) e,.int .i64 j]=some (.int .i64 (top l j)):=by
 have h:=YC H l e hz j hj j 0 (by simp)
 rw [Jy] at h
 rw [aH H.f253 rfl]
 simp only [EY] at h
 try simp at h
 simp [agD,h]
theorem adF (H:jf C) (l:List En) (e:Bool) (hz:Szd l) (j:Nat) (hj:j < l.length):FnW C 253 [.ro 6 (l.map eEn) e,.int .i64 ((j:Int)+1)]=some (.int .i64 (top l (j+1))):=zQ H l e hz (j+1) hj
theorem zi (H:jf C) (l:List En) (e:Bool) (hz:Szd l) (v:Int) (hv:-9223372036854775808≤sm l - v∧sm l - v≤9223372036854775807):FnW C 327 [.ro 6 (l.map eEn) e,.int .i64 v]=some (.int .i64 (dI l v)):=by
 have h:=zQ H l e hz l.length (Nat.le_refl _)
 rw [wL] at h
 rw [aH H.f327 rfl]
 unfold dI
 by_cases c:sm l < v
 · simp (disch:=omega) [ac0,h,c,aB,H.inl,ak,H.pp,ppB]
 · simp (disch:=omega) [ac0,h,c,aB,H.inl,ak,H.pp,ppB]
theorem Pv (H:jf C) (l:List En) (e:Bool) (hl:l.length≤1000000) (hs:SzB l) (o v:Int) (ho:-9223372036854775808≤o∧o≤9223372036854775807) (hv:-9223372036854775808≤v∧v≤9223372036854775807) :
 FnW C 252 [.ro 6 (l.map eEn) e,.int .i64 o,.int .i64 v]=some (.int .i64 (vpE l o v)):=by
 have h1:=Jf H l e hl hs
 rw [aH H.f252 rfl]
 unfold vpE
 by_cases hz0:szE l=0
 · rw [hz0] at h1 ⊢
   have hz:=Ho hz0
   have h3:=hz.nn
   have h4:=hz.t
   rw [if_neg (by simp)]
   by_cases c1:v < 1
   · simp (disch:=omega) [Kr,h1,c1,H.inl,ak,H.pp,ppB]
   · by_cases c2:2147483648 < v
     · simp (disch:=omega) [Kr,h1,c1,c2,H.inl,ak,H.pp,ppB]
     · rw [if_neg (by omega)]
       have h2:=zi H l e hz v (by omega)
       by_cases c3:o < 0
       · simp (disch:=omega) [Kr,h1,c1,c2,c3,H.inl,ak,H.pp,ppB]
       · by_cases c4:dI l v < o
         · simp (disch:=omega) [Kr,h1,c1,c2,c3,c4,h2,aB,H.inl,ak,H.pp,ppB]
         · simp (disch:=omega) [Kr,h1,c1,c2,c3,c4,h2,aB,H.inl,ak,H.pp,ppB]
 · rw [if_pos hz0]
   have hp:0 < szE l:=by
    have:0≤szE l:=by unfold szE ovE;repeat (first | omega | split)
    omega
   generalize szE l=E at *
   simp (disch:=omega) [Kr,h1,hz0,hp,H.inl,ak,H.pp,ppB]
theorem ZT (H:jf C) (l:List En) (e:Bool) (o v:Int) (hp:Vp l o v) (i:Nat) (hi:i < l.length):FnW C 272 [.ro 6 (l.map eEn) e,.int .i64 o,.int .i64 v,.int .i64 i]=some (.int .i64 (if top l i < o+v∧o < top l (i+1) then 1 else 0)):=by
 have hn:=hp.n
 have hv:=hp.v0
 have ho:=hp.s0
 have ht:=hp.t
 have hnn:=hp.nn
 have hlo:dI l v≤sm l:=by unfold dI;split <;> omega
 have q1:=zQ H l e hp.toSzd i (by omega)
 have q2:=adF H l e hp.toSzd i hi
 rw [aH H.f272 rfl]
 by_cases c1:top l i < o+v
 · by_cases c2:o < top l (i+1)
   · rw [if_pos ⟨c1,c2⟩]
     simp (disch:=omega) [YE,q1,q2,c1,c2,aB,H.inl,ak,H.pp,ppB]
   · rw [if_neg (fun q=>c2 q.2)]
     simp (disch:=omega) [YE,q1,q2,c1,c2,aB,H.inl,ak,H.pp,ppB]
 · rw [if_neg (fun q=>c1 q.1)]
   simp (disch:=omega) [YE,q1,q2,c1,aB,H.inl,ak,H.pp,ppB]
structure Wq (C:aG):Prop extends ng C where
 f274:C.fns.get 274=some yB
 f177:C.fns.get 177=some agd
def ahV (v least over:Int):Prop:=v < 1∨2147483648 < v∨least < 1∨2305843009213693952 < least∨over < 0∨16 < over
instance (v least over:Int):Decidable (ahV v least over):=by unfold ahV;infer_instance
def DY:Int→List Int→Bool
 | _,[]=>true
 | p,x::r=>decide (p < x)&&DY x r
theorem aaW (H:Wq C) (a:List Int) (e:Bool) (x:Int) (hl:a.length≤1000000):∀ n i,n+i=a.length →
 Bj C ⟨[(5,.int .i64 i),(1,.int .i64 x),(0,.ro 1 (a.map eI) e)],[],0⟩=some (.int .i64 (if x ∈ a.drop i then 1 else 0)):=by
 intro n
 induction n with
 | zero =>
  intro i hi
  have h1:a.drop i=[]:=List.drop_eq_nil_of_le (by omega)
  have h3:¬ i < a.length:=by omega
  simp only [Bj];rw [aj vN.eq_1]
  simp (disch:=omega) [aj Lh.eq_1,h1,h3]
 | succ n ih =>
  intro i hi
  have h1:i < a.length:=by omega
  have this:=ih (i+1) (by omega)
  rw [drop_cons h1]
  by_cases c:a[i]=x
  · rw [if_pos (by simp [c])]
    simp only [Bj];rw [aj vN.eq_1]
    simp (disch:=omega) [h1,c,aB]
  · have hq:(if x ∈ a[i]::a.drop (i+1) then (1:Int) else 0)=if x ∈ a.drop (i+1) then 1 else 0:=by
     have:x≠a[i]:=fun q=>c q.symm
     simp [this]
    rw [hq]
    generalize (if x ∈ a.drop (i+1) then (1:Int) else 0)=X at *
    simp only [Bj] at this ⊢;rw [aj vN.eq_1]
    simp at this
    simp (disch:=omega) [h1,c,aB,this]
theorem aiO (H:Wq C) (a:List Int) (e:Bool) (x:Int) (hl:a.length≤1000000):FnW C 177 [.ro 1 (a.map eI) e,.int .i64 x]=some (.int .i64 (if x ∈ a then 1 else 0)):=by
 have h:=aaW H a e x hl a.length 0 (by simp)
 rw [List.drop_zero] at h
 rw [aH H.f177 rfl]
 generalize (if x ∈ a then (1:Int) else 0)=X at *
 simp only [Bj] at h
 simp at h
 simp [agd,h]
theorem PN (H:Wq C) (a:List Int) (e:Bool) (hl:a.length≤1000000):FnW C 274 [.ro 1 (a.map eI) e]=some (.ro 1 (a.map eI) true):=by
 rw [aH H.f274 rfl]
 by_cases c:a=[]
 · subst c;simp [yB]
 · have h2:a.length * 9≤35184372088832:=by omega
   have hT:List.take a.length (List.map eI a)=List.map eI a:=List.take_of_length_le (by simp)
   simp (disch:=omega) [yB,c,h2,isE,hT]
structure Jp (C:aG):Prop extends jf C,Wq C,tH C where
 f132:C.fns.get 132=some adb
 f273:C.fns.get 273=some agR
 f256:C.fns.get 256=some afV
def wF (l:List En) (o v k:Int):Int:=imax 0 (DX l o v - k)
def wT (l:List En) (o v k:Int):Int:=jH l.length (DZ l o v+k)
theorem Vp.vis {l:List En} {o v:Int} (h:Vp l o v):(l.length=0∧DX l o v=0∧DZ l o v=0)∨(∃ p q:Nat,p < l.length∧q < l.length∧p≤q∧DX l o v=p∧DZ l o v=(q:Int)+1∧(top l p≤o∧o < top l (p+1)) ∧
 ∀ i,i < l.length→((top l i < o+v∧o < top l (i+1))↔(p≤i∧i≤q))):=by
 by_cases c:l.length=0
 · left;exact ⟨c,by unfold DX;rw [if_pos c],by unfold DZ;rw [if_pos c]⟩
 · right
   obtain ⟨p,q,p1,q1,hpq,a,b⟩:=h.ends (by omega)
   refine ⟨p,q,p1,q1,hpq,?_,?_,a,fun i hi=>h.seen p1 q1 a b hi⟩
   · unfold DX;rw [if_neg c,h.pG p1 a.1 a.2]
   · unfold DZ;rw [if_neg c,h.pG q1 b.1 b.2]
theorem Zm (H:Jp C) (l:List En) (e:Bool) (o v k:Int) (hp:Vp l o v) (hk:0≤k∧k≤16):FnW C 132 [aL l e,.int .i64 o,.int .i64 v,.int .i64 k]=some (.tup [.agg [.int .i64 (wF l o v k),.int .i64 (wT l o v k)],.int .i64 0]):=by
 have hn:=hp.n
 have hv:=hp.v0
 have ho:=hp.s0
 have ht:=hp.t
 have hlo:dI l v≤4611686018427387904:=by unfold dI;split <;> omega
 have h1:=Tz H.tojf l e (by omega) (fun x hx=>by have:=hp.s x hx;omega) o v (by omega) (by omega)
 rw [acg hp,if_neg (by simp)] at h1
 have c1:¬ k < 0:=by omega
 have c2:¬ 16 < k:=by omega
 rw [aH H.f132 rfl]
 unfold wF wT
 rcases hp.vis with ⟨a,b,c⟩ | ⟨p,q,p1,q1,hpq,a,b,_⟩
 · rw [b,c] at h1
   rw [b,c]
   have e1:imax 0 (0 - k)=0:=by unfold imax;split <;> omega
   have e2:jH (l.length:Int) (0+k)=0:=by unfold jH;split <;> omega
   rw [e1,e2]
   simp (disch:=omega) [adb,h1,c1,c2,H.inl,ak,H.pp,ppB]
 · rw [a,b] at h1
   rw [a,b]
   have c3:¬ (q:Int)+1=0:=by omega
   simp (disch:=omega) [adb,h1,c1,c2,c3,aB,H.inl,ak,H.pp,ppB]
def hdF (ks:List Kd) (l:List En) (o:Int):Nat→Nat→Int→Int
 | 0,_,a=>a
 | n+1,i,a=>if o < top l i then a else hdF ks l o n (i+1) (match l[i]? with | some x=>if (iU ks x.i.t).st=true then (i:Int) else a | none=>a)
def hdA (ks:List Kd) (l:List En) (o:Int):Int:=hdF ks l o l.length 0 (-1)
theorem ajt (ks:List Kd) (l:List En) (hz:Szd l) (o:Int) (p:Nat) (hp:top l p≤o∧o < top l (p+1)) (hpl:p < l.length):∀ (n i:Nat) (a:Int),n+i=l.length→-1≤a∧a≤p→-1≤hdF ks l o n i a∧hdF ks l o n i a≤p:=by
 intro n
 induction n with
 | zero=>intro i a _ h;exact h
 | succ n ih =>
  intro i a hi h
  rw [hdF]
  by_cases c:o < top l i
  · rw [if_pos c];exact h
  · rw [if_neg c]
    refine ih (i+1) _ (by omega) ?_
    have hip:i≤p:=by
     by_cases d:i≤p
     · exact d
     · have:=hz.mono (i:=p+1) (j:=i) (by omega) (by omega);omega
    split
    · split <;> omega
    · exact h
theorem Vy (H:Jp C) (ks:List Kd) (ke:Bool) (cap:Int) (l:List En) (e:Bool) (o:Int) (hz:Szd l) (ht:∀ x ∈ l,0≤x.i.t∧x.i.t < ks.length):∀ n i,n+i=l.length→∀ a:Int,
 uY C ⟨[(20,.int .i64 i),(19,.int .i64 l.length),(18,.ro 6 (l.map eEn) e),(9,.int .i64 a),(7,.ro 1 ((tps l).map eI) true),(3,.ptr 0 0 0),(2,.int .i64 o)],[(0,.cells 2 [[.ro 9 (ks.map eKd) ke,.int .i64 cap]] true true)],1⟩=some (.int .i64 (hdF ks l o n i a)):=by
 intro n
 induction n with
 | zero =>
  intro i hi a
  have h3:¬ i < l.length:=by omega
  simp only [uY];rw [aj sN.eq_1]
  simp (disch:=omega) [aj Fg.eq_1,h3,hdF]
 | succ n ih =>
  intro i hi a
  have h1:i < l.length:=by omega
  have hn:=hz.n
  have h2:i < (tps l).length:=by rw [jh];omega
  have q2:=AZ l h2
  have hx:=ht _ (List.getElem_mem h1)
  obtain ⟨t,hT⟩:∃ t:Nat,l[i].i.t=t:=⟨l[i].i.t.toNat,by omega⟩
  have h4:t < ks.length:=by omega
  rw [hdF,List.getElem?_eq_getElem h1]
  simp only [hT,kQ h4]
  by_cases c1:o < top l i
  · rw [if_pos c1]
    simp only [uY];rw [aj sN.eq_1]
    simp (disch:=omega) [aj Fg.eq_1,h1,h2,q2,c1,aB]
  · rw [if_neg c1]
    cases c2:ks[t].st
    · have this:=ih (i+1) (by omega) a
      rw [if_neg (by simp)]
      generalize hdF ks l o n (i+1) a=R at *
      simp only [uY] at this ⊢;rw [aj sN.eq_1]
      simp at this
      simp (disch:=omega) [h1,h2,q2,c1,hT,h4,c2,aB,this]
    · have this:=ih (i+1) (by omega) i
      rw [if_pos rfl]
      generalize hdF ks l o n (i+1) i=R at *
      simp only [uY] at this ⊢;rw [aj sN.eq_1]
      simp at this
      simp (disch:=omega) [h1,h2,q2,c1,hT,h4,c2,aB,this]
theorem adP (H:Jp C) (ks:List Kd) (ke:Bool) (cap:Int) (l:List En) (e:Bool) (o:Int) (hz:Szd l) (ht:∀ x ∈ l,0≤x.i.t∧x.i.t < ks.length):FnW C 273 [aR ks ke cap,aL l e,.int .i64 o]=some (.int .i64 (hdA ks l o)):=by
 have hn:=hz.n
 have h:=Vy H ks ke cap l e o hz ht l.length 0 (by simp) (-1)
 have h1:=wX H.tojf l e hz
 rw [aH H.f273 rfl]
 unfold hdA
 generalize hdF ks l o l.length 0 (-1)=R at *
 simp only [uY] at h
 try simp at h
 simp [agR,h1,h,H.inl,ak,H.pp,ppB]
def qO (a n:Nat):List Int:=(List.range n).map fun i=>((a+i:Nat):Int)
theorem abE (a n:Nat):(qO a n).length=n:=by simp [qO]
end Go.D
end
section
namespace Go.Proofs.YtcekmcchienbfaaGreat
open Go.ChangeShapes Go.WideShapes Go.ChangeAt Go.RowKit Go.Pav Go.Pw P Go.D
theorem asE:tH prog:={ ajV:=rfl,ai6:=rfl,aiV:=rfl,ajZ:=rfl,akb:=rfl,ajN:=rfl,ad1:=rfl,ahg:=rfl,akf:=rfl,ajM:=rfl,aiQ:=rfl,ai4:=rfl,aks:=rfl,inl:=rfl,pp:=rfl,akF:=rfl,ajk:=rfl,ajf:=rfl,aj2:=rfl,akc:=rfl,f282:=rfl,f140:=rfl,aiC:=rfl,akJ:=rfl,ajD:=rfl,ai1:=rfl,aiy:=rfl,ajB:=rfl,aiD:=rfl,ajR:=rfl,aj0:=rfl,f231:=rfl,aj3:=rfl,abd:=rfl,akN:=rfl,akR:=rfl,aiS:=rfl,aju:=rfl,aiu:=rfl,ajy:=rfl,agI:=rfl,aiF:=rfl,aiw:=rfl,akH:=rfl,akQ:=rfl,ajg:=rfl,aiv:=rfl,ajd:=rfl,akI:=rfl,agb:=rfl,akS:=rfl,akM:=rfl,aiU:=rfl,ajl:=rfl,ajw:=rfl,ZW:=rfl,ajL:=rfl,akv:=rfl,akd:=rfl,ajb:=rfl,ajr:=rfl,aiL:=rfl,ai8:=rfl,f225:=rfl,f111:=rfl,f227:=rfl,ake:=rfl,agB:=rfl,f224:=rfl,aki:=rfl,aiK:=rfl,f340:=rfl,f221:=rfl,ajG:=rfl,f219:=rfl,ajO:=rfl,aeN:=rfl,f239:=rfl,aky:=rfl,f240:=rfl,f172:=rfl,f112:=rfl,akq:=rfl,akP:=rfl,f230:=rfl,ajC:=rfl,f232:=rfl,f115:=rfl,f236:=rfl,f271:=rfl,f223:=rfl,f235:=rfl,f222:=rfl,aiP:=rfl,f270:=rfl,f126:=rfl,f130:=rfl }
end Go.Proofs.YtcekmcchienbfaaGreat
end
section
namespace Go.D
open Go Go.Pav Go.Pw P
attribute [-simp] List.getElem_cons_drop
variable {C:aG}
structure alN (C:aG):Prop extends ng C
structure Rw where
 k:Int
 t:Int
 s:Int
 n:Nd
@[simp] def eRw (r:Rw):List AV:=[.int .u64 r.k,.int .i64 r.t,.int .i64 r.s,.int .u8 r.n.k,.str r.n.t,.str r.n.y,.ro 2 (r.n.a.map eA) r.n.ae,.str r.n.x,.ro 6 (r.n.ch.map Nd.c) r.n.ce]
structure Sc where
 o:Int
 r:List Rw
 e:Bool
 p:Bool
 h:Rw
@[simp] def eSc (x:Sc):List AV:=[.int .i64 x.o,.ro 9 (x.r.map eRw) x.e,.bool x.p,.int .u64 x.h.k,.int .i64 x.h.t,.int .i64 x.h.s,.int .u8 x.h.n.k,.str x.h.n.t,.str x.h.n.y,.ro 2 (x.h.n.a.map eA) x.h.n.ae,.str x.h.n.x,.ro 6 (x.h.n.ch.map Nd.c) x.h.n.ce]
def fG (ks:List Kd) (l:List En) (o v k:Int):List Int :=
 (if 0≤hdA ks l o∧hdA ks l o < wF l o v k then [hdA ks l o] else [])++qO (wF l o v k).toNat ((wT l o v k).toNat - (wF l o v k).toNat)
theorem Vp.win {l:List En} {o v:Int} (h:Vp l o v) (k:Int) (hk:0≤k∧k≤16):∃ a b:Nat,wF l o v k=a∧wT l o v k=b∧a≤b∧b≤l.length:=by
 have hn:=h.n
 unfold wF wT imax jH
 rcases h.vis with ⟨a,b,c⟩ | ⟨p,q,p1,q1,hpq,a,b,_⟩
 · rw [b,c]
   exact ⟨0,0,by split <;> omega,by split <;> omega,by omega,by omega⟩
 · rw [a,b]
   refine ⟨(if (p:Int) - k > 0 then (p:Int) - k else 0).toNat,(if (q:Int)+1+k < l.length then (q:Int)+1+k else l.length).toNat,?_,?_,?_,?_⟩
   · split <;> omega
   · split <;> omega
   · split <;> split <;> omega
   · split <;> omega
theorem aax (a n:Nat) (x:Int):x ∈ qO a n↔(a:Int)≤x∧x < (a:Int)+n:=by
 unfold qO
 simp only [List.mem_map,List.mem_range]
 constructor
 · rintro ⟨i,hi,rfl⟩;omega
 · intro h;exact ⟨(x - a).toNat,by omega,by omega⟩
theorem H6:∀ (n a:Nat) (p:Int),p < a→DY p (qO a n)=true
 | 0,_,_,_=>rfl
 | n+1,a,p,h=>by
  have:qO a (n+1)=(a:Int)::qO (a+1) n:=by
   unfold qO;rw [List.range_succ_eq_map,List.map_cons,List.map_map]
   refine congr (congrArg _ (by simp)) (List.map_congr_left fun j _=>?_)
   simp only [Function.comp];omega
  rw [this,DY,decide_eq_true h,Bool.true_and]
  exact H6 n (a+1) a (by omega)
theorem agn {ks:List Kd} {l:List En} {o v k:Int} (hp:Vp l o v) (hk:0≤k∧k≤16):DY (-1) (fG ks l o v k)=true:=by
 obtain ⟨a,b,ea,eb,hab,hbn⟩:=hp.win k hk
 unfold fG
 rw [ea,eb]
 simp only [Int.toNat_natCast]
 by_cases c:0≤hdA ks l o∧hdA ks l o < (a:Int)
 · rw [if_pos c,List.singleton_append,DY,decide_eq_true (by omega),Bool.true_and]
   exact H6 _ _ _ c.2
 · rw [if_neg c,List.nil_append]
   exact H6 _ _ _ (by omega)
theorem afU {ks:List Kd} {l:List En} {o v k:Int} (hp:Vp l o v) (hk:0≤k∧k≤16) (x:Int):x ∈ fG ks l o v k↔(0≤hdA ks l o∧hdA ks l o < wF l o v k∧x=hdA ks l o)∨(wF l o v k≤x∧x < wT l o v k):=by
 obtain ⟨a,b,ea,eb,hab,hbn⟩:=hp.win k hk
 unfold fG
 rw [ea,eb,List.mem_append,aax]
 simp only [Int.toNat_natCast]
 by_cases c:0≤hdA ks l o∧hdA ks l o < (a:Int)
 · rw [if_pos c,List.mem_singleton]
   constructor
   · rintro (h | h)
     · exact .inl ⟨c.1,c.2,h⟩
     · exact .inr (by omega)
   · rintro (h | h)
     · exact .inl h.2.2
     · exact .inr (by omega)
 · rw [if_neg c]
   constructor
   · rintro (h | h)
     · cases h
     · exact .inr (by omega)
   · rintro (h | h)
     · exact absurd ⟨h.1,h.2.1⟩ c
     · exact .inr (by omega)
theorem wH {ks:List Kd} {l:List En} {o v k:Int} (hp:Vp l o v) (hk:0≤k∧k≤16):(fG ks l o v k).length≤1025∧wT l o v k - wF l o v k≤(fG ks l o v k).length∧((fG ks l o v k).length:Int)≤wT l o v k - wF l o v k+1:=by
 have hn:=hp.n
 obtain ⟨a,b,ea,eb,hab,hbn⟩:=hp.win k hk
 unfold fG
 rw [ea,eb,List.length_append,abE]
 simp only [Int.toNat_natCast]
 split <;> simp <;> omega
structure amP (C:aG):Prop extends tH C
structure am6 (C:aG):Prop extends alN C,amP C,Jp C
theorem aiB (H:Jp C) (l:List En) (e:Bool) (hz:Szd l) (a b:Int) (ha:0≤a∧a≤255) (hb:0≤b∧b≤65535):∃ o v:Int,FnW C 256 [.agg [.int .u8 a,.int .u16 b],aL l e]=some (.tup [.int .i64 o,.int .i64 v])∧Vp l o v:=by
 have hn:=hz.n
 have ht:=hz.t
 have hnn:=hz.nn
 have h1:a.tmod 200=a % 200:=Int.tmod_eq_emod_of_nonneg ha.1
 have h2:0≤a % 200∧a % 200 < 200:=⟨Int.emod_nonneg _ (by omega),Int.emod_lt_of_pos _ (by omega)⟩
 obtain ⟨v,hv⟩:∃ v,v=1+a % 200:=⟨_,rfl⟩
 have hv2:1+a % 200=v:=hv.symm
 have hm:=zi H.tojf l e hz v (by omega)
 have hm0:0≤dI l v∧dI l v≤4611686018427387904:=by unfold dI;split <;> omega
 generalize hM:dI l v=M at *
 have h3:b.tmod (M+1)=b % (M+1):=Int.tmod_eq_emod_of_nonneg hb.1
 have h4:0≤b % (M+1)∧b % (M+1) < M+1:=⟨Int.emod_nonneg _ (by omega),Int.emod_lt_of_pos _ (by omega)⟩
 have h5:¬ M+1=0:=by omega
 refine ⟨b % (M+1),v,?_,⟨hz,by omega,by rw [hM];omega⟩⟩
 rw [aH H.f256 rfl]
 simp (disch:=omega) [afV,h1,hv2,hm,h3,h5,aB,H.inl,ak,H.pp,ppB]
@[simp] theorem Lc:∀ h:aK,rJ 0 h=[]
 | []=>rfl
 | (b,o)::r=>by rw [rJ,if_neg (by omega),Lc r]
@[simp] theorem Qe (π:Nat→Option Nat):∀ h:aK,jy 0 π h=some []
 | []=>rfl
 | (b,o)::r=>by rw [jy,if_neg (by omega),Qe π r]
@[simp] theorem atF (h:aK) (n:Nat) (o:fZ) (k:Nat):Pav.get (Pav.put h n o) k=if n=k then some o else Pav.get h k:=get_put h n o k
end Go.D
end
section
namespace Go.D
open Go Go.Pav Go.Pw P
attribute [-simp] List.getElem_cons_drop
variable {C:aG}
structure amY (C:aG):Prop extends am6 C
structure LG (r:Int) (l:List En):Prop where
 hr:0≤r∧r≤255
 hl:l.length≤12
 z:Szd l
 en:∀ x ∈ l,qC x
 ck:ckE (aX r) 12 l=0
 ck1:∀ x ∈ l,ckE (aX r) 12 [x]=0
 t:∀ x ∈ l,0≤x.i.t∧x.i.t < (aX r).length
 rE:∀ x ∈ l,sJ (iU (aX r) x.i.t).p x.i 12=0
section
variable {r:Int} {l:List En} (L:LG r l)
end
end Go.D
end
section
namespace Go.D
open Go Go.Pav Go.Pw P
attribute [-simp] List.getElem_cons_drop
variable {C:aG}
structure WC (C:aG):Prop extends amY C where
 f149:C.fns.get 149=some ag3
 f304:C.fns.get 304=some afc
def stk (ks:List Kd) (l:List En) (i:Nat):Bool:=match l[i]? with | some x=>(iU ks x.i.t).st | none=>false
theorem WM {ks:List Kd} {l:List En} {i:Nat} (h:i < l.length):stk ks l i=(iU ks l[i].i.t).st:=by unfold stk;rw [List.getElem?_eq_getElem h]
def hrF (ks:List Kd) (l:List En) (s:Int):Nat→Nat→Int→Int
 | 0,_,a=>a
 | n+1,i,a=>hrF ks l s n (i+1) (if stk ks l i=true∧top l i≤s then (i:Int) else a)
def hrA (ks:List Kd) (l:List En) (s:Int):Int:=hrF ks l s l.length 0 (-1)
theorem ZQ {ks:List Kd} {l:List En} (hz:Szd l) {s:Int}:∀ (n i:Nat) (a:Int),n+i=l.length→s < top l i→hrF ks l s n i a=a:=by
 intro n
 induction n with
 | zero=>intro i a _ _;rfl
 | succ n ih =>
  intro i a hi h
  have:=hz.lt (i:=i) (by omega)
  rw [hrF,if_neg (by omega)]
  exact ih (i+1) a (by omega) (by omega)
theorem aiZ (ks:List Kd) (l:List En) (s:Int):∀ (n i:Nat) (a:Int),n+i=l.length→-1≤a∧a < i→-1≤hrF ks l s n i a∧hrF ks l s n i a < l.length:=by
 intro n
 induction n with
 | zero=>intro i a hi h;rw [hrF];omega
 | succ n ih =>
  intro i a hi h
  rw [hrF]
  refine ih (i+1) _ (by omega) ?_
  split <;> omega
theorem XE (H:WC C) (ks:List Kd) (ke:Bool) (cap:Int) (x:En) (ht:0≤x.i.t∧x.i.t < ks.length):FnW C 304 [aR ks ke cap,.agg (eEn x)]=some (.int .i64 (if (iU ks x.i.t).st=true then 1 else 0)):=by
 obtain ⟨t,hT⟩:∃ t:Nat,x.i.t=t:=⟨x.i.t.toNat,by omega⟩
 have h4:t < ks.length:=by omega
 rw [hT,kQ h4,aH H.f304 rfl]
 cases c:ks[t].st <;> simp (disch:=omega) [afc,hT,h4,c,H.inl,ak,H.pp,ppB]
theorem TQ (H:WC C) (ks:List Kd) (ke:Bool) (cap:Int) (l:List En) (e:Bool) (s:Int) (hz:Szd l) (ht:∀ x ∈ l,0≤x.i.t∧x.i.t < ks.length):∀ n i,n+i=l.length→∀ a:Int,
 wI C ⟨[(8,.int .i64 i),(7,.int .i64 a),(3,.ptr 0 0 0),(2,.int .i64 s),(1,.ro 6 (l.map eEn) e)],[(0,.cells 2 [[.ro 9 (ks.map eKd) ke,.int .i64 cap]] true true)],1⟩=some (.int .i64 (hrF ks l s n i a)):=by
 intro n
 induction n with
 | zero =>
  intro i hi a
  have h3:¬ i < l.length:=by omega
  simp only [wI];rw [aj rP.eq_1]
  simp (disch:=omega) [aj Mc.eq_1,h3,hrF]
 | succ n ih =>
  intro i hi a
  have h1:i < l.length:=by omega
  have hn:=hz.n
  have hs:=XE H ks ke cap l[i] (ht _ (List.getElem_mem h1))
  have htp:=zQ H.tojf l e hz i (by omega)
  rw [hrF,WM h1]
  simp only [aR,eEn] at hs
  cases c:(iU ks l[i].i.t).st
  · rw [if_neg (by simp)]
    have this:=ih (i+1) (by omega) a
    rw [c] at hs
    generalize hrF ks l s n (i+1) a=R at *
    simp only [wI] at this ⊢;rw [aj rP.eq_1]
    simp at this hs
    simp (disch:=omega) [h1,hs,aB,H.inl,ak,H.pp,ppB,this]
  · rw [c] at hs
    by_cases d:top l i≤s
    · rw [if_pos ⟨rfl,d⟩]
      have this:=ih (i+1) (by omega) i
      generalize hrF ks l s n (i+1) i=R at *
      simp only [wI] at this ⊢;rw [aj rP.eq_1]
      simp at this hs
      simp (disch:=omega) [h1,hs,htp,d,aB,H.inl,ak,H.pp,ppB,this]
    · rw [if_neg (by rintro ⟨_,q⟩;exact d q)]
      have this:=ih (i+1) (by omega) a
      generalize hrF ks l s n (i+1) a=R at *
      simp only [wI] at this ⊢;rw [aj rP.eq_1]
      simp at this hs
      simp (disch:=omega) [h1,hs,htp,d,aB,H.inl,ak,H.pp,ppB,this]
theorem abO (H:WC C) (ks:List Kd) (ke:Bool) (cap:Int) (l:List En) (e:Bool) (s:Int) (hz:Szd l) (ht:∀ x ∈ l,0≤x.i.t∧x.i.t < ks.length):FnW C 149 [aR ks ke cap,.ro 6 (l.map eEn) e,.int .i64 s]=some (.int .i64 (hrA ks l s)):=by
 have h:=TQ H ks ke cap l e s hz ht l.length 0 (by simp) (-1)
 rw [aH H.f149 rfl]
 unfold hrA
 generalize hrF ks l s l.length 0 (-1)=R at *
 simp only [wI] at h
 try simp at h
 simp [ag3,h,H.inl,ak,H.pp,ppB]
end Go.D
end
section
namespace Go.D
open Go Go.Pav Go.Pw P
attribute [-simp] List.getElem_cons_drop
variable {C:aG}
theorem Vp.amD {l:List En} {s v:Int} (h:Vp l s v):∃ a b:Nat,DX l s v=a∧DZ l s v=b∧a≤b∧b≤l.length∧(∀ i,i < l.length→((top l i < s+v∧s < top l (i+1))↔(a≤i∧i < b))) ∧
 (0 < l.length→a < b∧top l a≤s∧s < top l (a+1)∧(s+v≤top l b∨b=l.length)):=by
 unfold DX DZ
 by_cases c:l.length=0
 · rw [if_pos c,if_pos c]
   exact ⟨0,0,rfl,rfl,by omega,by omega,fun i hi=>by omega,fun q=>by omega⟩
 · rw [if_neg c,if_neg c]
   obtain ⟨p,q,p1,q1,hpq,a,b⟩:=h.ends (by omega)
   refine ⟨p,q+1,h.pG p1 a.1 a.2,by rw [h.pG q1 b.1 b.2];rfl,by omega,by omega,fun i hi=>?_,fun _=>⟨by omega,a.1,a.2,?_⟩⟩
   · rw [h.seen p1 q1 a b hi];omega
   · by_cases d:q+1=l.length
     · exact .inr d
     · left
       have:=h.mono (i:=q+1) (j:=l.length) (by omega) (by omega)
       rw [wL] at this
       unfold jH at b
       split at b <;> omega
section
variable {r:Int} {l:List En}
end
end Go.D
end
section
namespace Go.D
open Go Go.Pav Go.Pw P
attribute [-simp] List.getElem_cons_drop
variable {C:aG}
structure Dy (C:aG):Prop extends WC C where
 f131:C.fns.get 131=some abh
 f133:C.fns.get 133=some agQ
 f137:C.fns.get 137=some ag4
theorem Vp.sb2 {l:List En} {s v:Int} (hp:Vp l s v):0≤s∧s≤4611686018427387904:=by
 have h1:=hp.s0
 have h0:=hp.v0
 have h2:=hp.t
 have h3:=hp.nn
 unfold dI at h1;split at h1 <;> omega
def kJ (l:List En) (o v k:Int) (i:Nat):Nat→Nat→Int
 | 0,_=>0
 | n+1,j=>(if (((j:Int) - i≤k)∧((i:Int) - j≤k))∧(top l j < o+v∧o < top l (j+1)) then 1 else 0)+kJ l o v k i n (j+1)
theorem aag (l:List En) (o v k:Int) (i:Nat):∀ n j,0≤kJ l o v k i n j∧kJ l o v k i n j≤n:=by
 intro n
 induction n with
 | zero=>intro j;simp [kJ]
 | succ n ih =>
  intro j
  have:=ih (j+1)
  rw [kJ]
  split <;> omega
theorem YS (l:List En) (o v k:Int) (i:Nat):∀ n j,0 < kJ l o v k i n j↔∃ q,j≤q∧q < j+n∧(((q:Int) - i≤k)∧((i:Int) - q≤k))∧(top l q < o+v∧o < top l (q+1)):=by
 intro n
 induction n with
 | zero => intro j; constructor
           · intro h;rw [kJ] at h;omega
           · rintro ⟨q,h1,h2,_⟩;omega
 | succ n ih =>
  intro j
  have hn:=aag l o v k i n (j+1)
  rw [kJ]
  constructor
  · intro h
    by_cases c:(((j:Int) - i≤k)∧((i:Int) - j≤k))∧(top l j < o+v∧o < top l (j+1))
    · exact ⟨j,by omega,by omega,c⟩
    · rw [if_neg c] at h
      obtain ⟨q,h1,h2,h3⟩:=(ih (j+1)).1 (by omega)
      exact ⟨q,by omega,by omega,h3⟩
  · rintro ⟨q,h1,h2,h3⟩
    by_cases c:q=j
    · subst c
      rw [if_pos h3];omega
    · have:=(ih (j+1)).2 ⟨q,by omega,by omega,h3⟩
      split <;> omega
theorem abJ {l:List En} {o v:Int} (hp:Vp l o v) {a b K:Nat} (hv:∀ i,i < l.length→((top l i < o+v∧o < top l (i+1))↔(a≤i∧i < b))) (hab:a < b) (hbl:b≤l.length) {i:Nat} (hi:i < l.length) :
 0 < kJ l o v K i l.length 0↔(a - K≤i∧i < min l.length (b+K)):=by
 rw [YS]
 constructor
 · rintro ⟨q,_,h2,⟨h3,h4⟩,h5⟩
   have:=(hv q (by omega)).1 h5
   omega
 · rintro ⟨h1,h2⟩
   by_cases c:i < a
   · exact ⟨a,by omega,by omega,⟨by omega,by omega⟩,(hv a (by omega)).2 (by omega)⟩
   · by_cases d:i < b
     · exact ⟨i,by omega,by omega,⟨by omega,by omega⟩,(hv i (by omega)).2 (by omega)⟩
     · exact ⟨b - 1,by omega,by omega,⟨by omega,by omega⟩,(hv (b - 1) (by omega)).2 (by omega)⟩
theorem al6 (H:Dy C) (l:List En) (e:Bool) (o v:Int) (hp:Vp l o v) (K:Nat) (hK:K≤16) (i:Nat) (hi:i < l.length) (f t:Int) (ht:0≤t∧t≤2000) (R:AV)
 (hnext:wJ C ⟨[(13,.int .i64 ((i:Int) - 1)),(12,.int .i64 (if 0 < kJ l o v K i l.length 0 then t+1 else t)),(11,.int .i64 (if 0 < kJ l o v K i l.length 0 then i else f)),(3,.int .i64 K),(2,.int .i64 v),(1,.int .i64 o),(0,.ro 6 (l.map eEn) e)],[],0⟩=some R) :
 ∀ m j,m+j=l.length→∀ c:Int,0≤c→c≤j→c+kJ l o v K i m j=kJ l o v K i l.length 0 →
 rY C ⟨[(15,.int .i64 j),(14,.int .i64 c),(13,.int .i64 i),(12,.int .i64 t),(11,.int .i64 f),(3,.int .i64 K),(2,.int .i64 v),(1,.int .i64 o),(0,.ro 6 (l.map eEn) e)],[],0⟩=some R:=by
 have hn:=hp.n
 intro m
 induction m with
 | zero =>
  intro j hj c h0 hc he
  have h3:¬ j < l.length:=by omega
  rw [kJ,Int.add_zero] at he
  rw [← he] at hnext
  simp only [wJ] at hnext
  simp only [rY];rw [aj qc.eq_1]
  by_cases d:0 < c
  · rw [if_pos d,if_pos d] at hnext
    simp (disch:=omega) [aj FP.eq_1,aj ES.eq_1,h3,d,aB,hnext]
  · rw [if_neg d,if_neg d] at hnext
    simp (disch:=omega) [aj FP.eq_1,aj ES.eq_1,h3,d,aB,hnext]
 | succ m ih =>
  intro j hj c h0 hc he
  have h1:j < l.length:=by omega
  have hs:=ZT H.tojf l e o v hp j h1
  rw [kJ] at he
  by_cases c1:(j:Int) - i≤K
  · by_cases c2:(i:Int) - j≤K
    · by_cases c3:top l j < o+v∧o < top l (j+1)
      · rw [if_pos ⟨⟨c1,c2⟩,c3⟩] at he
        rw [if_pos c3] at hs
        have this:=ih (j+1) (by omega) (c+1) (by omega) (by omega) (by omega)
        simp only [rY] at this ⊢;rw [aj qc.eq_1]
        simp at this
        simp (disch:=omega) [h1,c1,c2,hs,aB,H.inl,ak,H.pp,ppB,this]
      · rw [if_neg (by rintro ⟨_,q⟩;exact c3 q)] at he
        rw [if_neg c3] at hs
        have this:=ih (j+1) (by omega) c (by omega) (by omega) (by omega)
        simp only [rY] at this ⊢;rw [aj qc.eq_1]
        simp at this
        simp (disch:=omega) [h1,c1,c2,hs,aB,H.inl,ak,H.pp,ppB,this]
    · rw [if_neg (by rintro ⟨⟨_,q⟩,_⟩;exact c2 q)] at he
      have this:=ih (j+1) (by omega) c (by omega) (by omega) (by omega)
      simp only [rY] at this ⊢;rw [aj qc.eq_1]
      simp at this
      simp (disch:=omega) [h1,c1,c2,aB,H.inl,ak,H.pp,ppB,this]
  · rw [if_neg (by rintro ⟨⟨q,_⟩,_⟩;exact c1 q)] at he
    have this:=ih (j+1) (by omega) c (by omega) (by omega) (by omega)
    simp only [rY] at this ⊢;rw [aj qc.eq_1]
    simp at this
    simp (disch:=omega) [h1,c1,aB,H.inl,ak,H.pp,ppB,this]
def wdT (A B n:Nat):Int:=if n < B then (B:Int) - (max A n:Nat) else 0
def wdF (A B n:Nat):Int:=if n < B then (max A n:Nat) else 0
theorem aiM (H:Dy C) (l:List En) (e:Bool) (o v:Int) (hp:Vp l o v) (K:Nat) (hK:K≤16) {a b:Nat} (hv:∀ i,i < l.length→((top l i < o+v∧o < top l (i+1))↔(a≤i∧i < b))) (hab:a < b) (hbl:b≤l.length) :
 ∀ (n:Nat) (i:Int),i+1=n→n≤l.length →
 wJ C ⟨[(13,.int .i64 i),(12,.int .i64 (wdT (a - K) (min l.length (b+K)) n)),(11,.int .i64 (wdF (a - K) (min l.length (b+K)) n)),(3,.int .i64 K),(2,.int .i64 v),(1,.int .i64 o),(0,.ro 6 (l.map eEn) e)],[],0⟩ =
  some (.tup [.int .i64 (a - K:Nat),.int .i64 (min l.length (b+K):Nat),.int .i64 0]):=by
 have hn:=hp.n
 intro n
 induction n with
 | zero =>
  intro i hi hl
  have h3:¬ 0≤i:=by omega
  have e1:wdT (a - K) (min l.length (b+K)) 0=((min l.length (b+K):Nat):Int) - (a - K:Nat):=by unfold wdT;rw [if_pos (by omega)];simp
  have e2:wdF (a - K) (min l.length (b+K)) 0=(a - K:Nat):=by unfold wdF;rw [if_pos (by omega)];simp
  rw [e1,e2]
  generalize hA:a - K=A at *
  generalize hB:min l.length (b+K)=B at *
  simp only [wJ];rw [aj wz.eq_1]
  have e3:(A:Int)+((B:Int) - A)=B:=by omega
  simp (disch:=omega) [aj Bd.eq_1,h3,aB,e3]
 | succ n ih =>
  intro i hi hl
  have ei:i=n:=by omega
  subst ei
  have h3:(0:Int)≤n:=by omega
  have hni:=abJ hp (K:=K) hv hab hbl (i:=n) (by omega)
  have this:=ih ((n:Int) - 1) (by omega) (by omega)
  have ht:0≤wdT (a - K) (min l.length (b+K)) (n+1)∧wdT (a - K) (min l.length (b+K)) (n+1)≤2000:=by unfold wdT;split <;> omega
  have e1:(if 0 < kJ l o v K n l.length 0 then wdT (a - K) (min l.length (b+K)) (n+1)+1 else wdT (a - K) (min l.length (b+K)) (n+1))=wdT (a - K) (min l.length (b+K)) n:=by
   by_cases c:0 < kJ l o v K n l.length 0
   · have:=hni.1 c
     rw [if_pos c]
     unfold wdT
     rw [if_pos this.2]
     split <;> omega
   · have:¬ _:=fun q=>c (hni.2 q)
     rw [if_neg c]
     unfold wdT
     split <;> split <;> omega
  have e2:(if 0 < kJ l o v K n l.length 0 then (n:Int) else wdF (a - K) (min l.length (b+K)) (n+1))=wdF (a - K) (min l.length (b+K)) n:=by
   by_cases c:0 < kJ l o v K n l.length 0
   · have:=hni.1 c
     rw [if_pos c]
     unfold wdF
     rw [if_pos this.2]
     omega
   · have:¬ _:=fun q=>c (hni.2 q)
     rw [if_neg c]
     unfold wdF
     split <;> split <;> omega
  have k:=al6 H l e o v hp K hK n (by omega) (wdF (a - K) (min l.length (b+K)) (n+1)) (wdT (a - K) (min l.length (b+K)) (n+1)) ht _ (by rw [e1,e2];exact this) l.length 0 (by simp) 0 (by omega) (by omega) (by omega)
  generalize wdT (a - K) (min l.length (b+K)) (n+1)=T at *
  generalize wdF (a - K) (min l.length (b+K)) (n+1)=F at *
  simp only [rY] at k
  try simp at k
  simp only [wJ];rw [aj wz.eq_1]
  simp (disch:=omega) [h3,aB,k]
end Go.D
end
