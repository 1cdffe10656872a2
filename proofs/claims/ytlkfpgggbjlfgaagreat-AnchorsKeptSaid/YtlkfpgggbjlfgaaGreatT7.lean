/- Part of the theory that the claims of this work use: E06, E08, G01, N01, N02, N03, D30, D31, D38, N04, N05, N06, N07, N08, N09, D41, D42, D33, N10, K00, K01, K02, K03, N11, N12, M02, N13, M14, M15, M16, K04, K05, K06. No conditions of its own. -/
import Derived.Test.YtlkfpgggbjlfgaaGreatT6
set_option linter.unusedVariables false
set_option linter.unusedSimpArgs false
set_option maxHeartbeats 4000000
set_option maxRecDepth 10000
section
namespace Go.D
open Go Go.Pav Go.Pw P
attribute [-simp] List.getElem_cons_drop
variable {C:aI}
def agn (v least over:Int):Prop:=v < 1∨2147483648 < v∨least < 1∨2305843009213693952 < least∨over < 0∨16 < over
instance (v least over:Int):Decidable (agn v least over):=by unfold agn;infer_instance
end Go.D
end
section
namespace Go.Proofs.YtlkfpgggbjlfgaaGreat
open Go.ChangeShapes Go.WideShapes Go.ChangeAt Go.RowKit Go.Pav Go.Pw P Go.D
theorem amS:uS prog:={ air:=rfl,ahL:=rfl,aib:=rfl,ai5:=rfl,ai1:=rfl,ain:=rfl,ac6:=rfl,afj:=rfl,ai8:=rfl,aia:=rfl,ahB:=rfl,agR:=rfl,ahM:=rfl,inl:=rfl,pp:=rfl,agO:=rfl,ahP:=rfl,ahr:=rfl,ahk:=rfl,aiE:=rfl,f282:=rfl,f140:=rfl,ahq:=rfl,ahD:=rfl,ahp:=rfl,ahh:=rfl,ag2:=rfl,aij:=rfl,ah4:=rfl,aip:=rfl,aiF:=rfl,f231:=rfl,aiW:=rfl,aay:=rfl,ajh:=rfl,aii:=rfl,aiY:=rfl,agQ:=rfl,aie:=rfl,aik:=rfl,afN:=rfl,agU:=rfl,ahT:=rfl,ah9:=rfl,aiG:=rfl,ahg:=rfl,ahw:=rfl,aiN:=rfl,ajb:=rfl,aes:=rfl,aho:=rfl,ag3:=rfl,ahU:=rfl,ag4:=rfl,agT:=rfl,abI:=rfl,ahQ:=rfl,ah8:=rfl,aiv:=rfl,ahC:=rfl,ai3:=rfl,ah1:=rfl,aji:=rfl,f225:=rfl,f111:=rfl,f227:=rfl,ah3:=rfl,adq:=rfl,f224:=rfl,aiU:=rfl,ahc:=rfl,f340:=rfl,f226:=rfl,f221:=rfl,aiH:=rfl,f219:=rfl,ahO:=rfl,ag0:=rfl,f239:=rfl,aiR:=rfl,f240:=rfl,aht:=rfl,ahb:=rfl,ag1:=rfl,f230:=rfl,aha:=rfl,f232:=rfl,f115:=rfl,f271:=rfl,f223:=rfl,agX:=rfl,f216:=rfl,f222:=rfl,ajg:=rfl,f228:=rfl,f229:=rfl,f110:=rfl,f237:=rfl,f114:=rfl,f241:=rfl,f242:=rfl,aiy:=rfl,f270:=rfl,f126:=rfl,f130:=rfl }
theorem adY {a:AV} (h:Ty (.slice [.int .u8,.int .u8,.int .u8,.int .u8]) a):∃ (xs:List Q4) (e:Bool),a=.ro 4 (xs.map eQ) e∧∀ s ∈ xs,QIn s:=by
 obtain ⟨es,e,rfl,_,hx⟩:=Gw h
 obtain ⟨xs,rfl,hr⟩:=MQ (g:=eQ) (R:=QIn) (fun l q=>by
  obtain ⟨q1,q2⟩:=q
  match l,q1 with
  | [u,v,w,x],_ =>
   obtain ⟨n1,rfl,h1⟩:=uo (q2 0 _ u rfl rfl)
   obtain ⟨n2,rfl,h2⟩:=uo (q2 1 _ v rfl rfl)
   obtain ⟨n3,rfl,h3⟩:=uo (q2 2 _ w rfl rfl)
   obtain ⟨n4,rfl,h4⟩:=uo (q2 3 _ x rfl rfl)
   exact ⟨⟨n1,n2,n3,n4⟩,rfl,h1,h2,h3,h4⟩) es hx
 exact ⟨xs,e,rfl,hr⟩
theorem Vk {a:AV} (h:Ty (.slice [.int .u8]) a):∃ (xs:List Int) (e:Bool),a=.ro 1 (xs.map eU8) e∧(∀ x ∈ xs,0≤x∧x≤255)∧xs.length < 9223372036854775808:=by
 obtain ⟨es,e,rfl,hl,hx⟩:=Gw h
 obtain ⟨xs,rfl,hr⟩:=MQ (g:=eU8) (R:=fun x:Int=>0≤x∧x≤255) (fun l q=>by
  obtain ⟨q1,q2⟩:=q
  match l,q1 with
  | [v],_ =>
   obtain ⟨n,rfl,h1⟩:=uo (q2 0 _ v rfl rfl)
   exact ⟨n,rfl,h1⟩) es hx
 exact ⟨xs,e,rfl,hr,by simpa using hl⟩
end Go.Proofs.YtlkfpgggbjlfgaaGreat
end
section
namespace Go.D
open Go Go.Pav Go.Pw P
attribute [-simp] List.getElem_cons_drop
variable {C:aI}
structure Nt where
 k:Int
 a:Int
 c:Int
 t:Int
 x:List It
 e:Bool
@[simp] def eNt (n:Nt):List AV:=[.int .u8 n.k,.int .i64 n.a,.int .i64 n.c,.int .i64 n.t,.ro 4 (n.x.map cIt) n.e]
def ntE (n:Nt):Int :=
 if n.k < 1∨5 < n.k then 1
 else if n.k=1∨n.k=4 then (if n.c≠0 then 5 else if n.t≠0 then 5 else 0)
 else if n.k=2 then (if n.t≠0 then 5 else if n.x.length≠0 then 5 else 0)
 else if n.k=3 then (if n.x.length≠0 then 5 else 0)
 else (if n.a≠0 then 5 else if n.c≠0 then 5 else if n.t≠0 then 5 else 0)
structure Ob (C:aI):Prop extends oZ C where
 f336:C.fns.get 336=some Hr
 akv:C.fns.get 457=some aeh
 f333:C.fns.get 333=some Hu
 akt:C.fns.get 455=some ae4
def kdN (s:Bs) (a b c d:Bool) (f:AV):List AV:=[.str s,.bool a,.bool b,.bool c,.bool d,f]
def aeP:List AV:=kdN [] false false false false .bI++(kdN [105,110,115,101,114,116] true false false true (.fn 526 [])++(kdN [114,101,109,111,118,101] true true false false (.fn 527 [])++(kdN [109,111,118,101] true true true false (.fn 528 [])++(kdN [99,104,97,110,103,101] true false false true (.fn 529 [])++kdN [114,101,115,101,116] false false false true (.fn 530 [])))))
theorem Jc (H:Ob C):FnW C 457 []=some (.agg aeP):=by
 rw [aF H.akv rfl]
 simp [aeh,aeP,kdN]
theorem IU (H:Ob C) (n:Nt):FnW C 336 [.agg (eNt n)]=some (.int .i64 (ntE n)):=by
 have hk:=Jc H
 simp only [aeP,kdN,List.cons_append,List.nil_append] at hk
 obtain ⟨k,a,c,t,x,e⟩:=n
 rw [aF H.f336 rfl]
 unfold ntE
 simp only
 by_cases h1:k < 1
 · rw [if_pos (.inl h1)]
   simp (disch:=omega) [Hr,h1,aG,H.inl,ay,H.pp,ppB]
 · by_cases h2:5 < k
   · rw [if_pos (.inr h2)]
     simp (disch:=omega) [Hr,h1,h2,aG,H.inl,ay,H.pp,ppB]
   · rw [if_neg (by omega)]
     have h:k=1∨k=2∨k=3∨k=4∨k=5:=by omega
     rcases h with rfl | rfl | rfl | rfl | rfl
     · by_cases hc:c=0 <;> by_cases ht:t=0 <;> simp (disch:=omega) [Hr,hk,hc,ht,aG,H.inl,ay,H.pp,ppB]
     · by_cases ht:t=0 <;> by_cases hx:x.length=0 <;> simp (disch:=omega) [Hr,hk,ht,hx,aG,H.inl,ay,H.pp,ppB]
     · by_cases hx:x.length=0 <;> simp (disch:=omega) [Hr,hk,hx,aG,H.inl,ay,H.pp,ppB]
     · by_cases hc:c=0 <;> by_cases ht:t=0 <;> simp (disch:=omega) [Hr,hk,hc,ht,aG,H.inl,ay,H.pp,ppB]
     · by_cases ha:a=0 <;> by_cases hc:c=0 <;> by_cases ht:t=0 <;> simp (disch:=omega) [Hr,hk,ha,hc,ht,aG,H.inl,ay,H.pp,ppB]
def usN (k:Int):List AV:=if k=1∨k=4 then [.int .i64 1,.int .i64 0,.int .i64 0,.int .i64 1] else if k=2 then [.int .i64 1,.int .i64 1,.int .i64 0,.int .i64 0] else if k=3 then [.int .i64 1,.int .i64 1,.int .i64 1,.int .i64 0] else [.int .i64 0,.int .i64 0,.int .i64 0,.int .i64 1]
theorem ab8 (H:Ob C) (k:Int) (h:k=1∨k=2∨k=3∨k=4∨k=5):FnW C 455 [.int .u8 k]=some (.agg (usN k)):=by
 rw [aF H.akt rfl]
 rcases h with rfl | rfl | rfl | rfl | rfl <;> simp [ae4,usN]
theorem FY (H:Ob C) (n:Nt) (hx:n.x.length≤1000000):FnW C 333 [.agg (eNt n)]=some (.int .i64 (ntE n)):=by
 obtain ⟨k,a,c,t,x,e⟩:=n
 simp only at hx
 rw [aF H.f333 rfl]
 unfold ntE
 simp only
 by_cases h1:k < 1
 · rw [if_pos (.inl h1)]
   simp (disch:=omega) [Hu,h1,aG,H.inl,ay,H.pp,ppB]
 · by_cases h2:5 < k
   · rw [if_pos (.inr h2)]
     simp (disch:=omega) [Hu,h1,h2,aG,H.inl,ay,H.pp,ppB]
   · rw [if_neg (by omega)]
     have h:k=1∨k=2∨k=3∨k=4∨k=5:=by omega
     have hu:=ab8 H k h
     rcases h with rfl | rfl | rfl | rfl | rfl
     · simp only [usN] at hu
       by_cases hc:c=0 <;> by_cases ht:t=0 <;> simp (disch:=omega) [Hu,aj rP.eq_1,aj wY.eq_1,hu,hc,ht,aG,H.inl,ay,H.pp,ppB]
     · simp [usN] at hu
       by_cases ht:t=0 <;> by_cases hx:x.length=0 <;> simp (disch:=omega) [Hu,aj rP.eq_1,aj wY.eq_1,hu,ht,hx,aG,H.inl,ay,H.pp,ppB]
     · simp [usN] at hu
       by_cases hx:x.length=0 <;> simp (disch:=omega) [Hu,aj rP.eq_1,aj wY.eq_1,hu,hx,aG,H.inl,ay,H.pp,ppB]
     · simp [usN] at hu
       by_cases hc:c=0 <;> by_cases ht:t=0 <;> simp (disch:=omega) [Hu,aj rP.eq_1,aj wY.eq_1,hu,hc,ht,aG,H.inl,ay,H.pp,ppB]
     · simp [usN] at hu
       by_cases ha:a=0 <;> by_cases hc:c=0 <;> by_cases ht:t=0 <;> simp (disch:=omega) [Hu,aj rP.eq_1,aj wY.eq_1,hu,ha,hc,ht,aG,H.inl,ay,H.pp,ppB]
structure O8 (C:aI):Prop extends Ob C where
 f343:C.fns.get 343=some JY
 f342:C.fns.get 342=some YW
 aku:C.fns.get 526=some adh
 akl:C.fns.get 527=some ad1
 ajY:C.fns.get 528=some acO
 aj9:C.fns.get 529=some afP
 akT:C.fns.get 530=some acN
def ntF (n:Nt):Nat:=if n.k=1 then 109 else if n.k=2 then 110 else if n.k=3 then 237 else if n.k=4 then 114 else 108
def ntA (n:Nt):List AV:=if n.k=1 then [.int .i64 n.a,.ro 4 (n.x.map cIt) n.e] else if n.k=2 then [.int .i64 n.a,.int .i64 n.c] else if n.k=3 then [.int .i64 n.a,.int .i64 n.c,.int .i64 n.t] else if n.k=4 then [.int .i64 n.a,.ro 4 (n.x.map cIt) n.e] else [.ro 4 (n.x.map cIt) n.e]
theorem NM (H:O8 C) (ks:List Kd) (ke:Bool) (cap:Int) (l:List En) (e:Bool) (n:Nt) (hc:FnW C 223 [aR ks ke cap,aL l e]=some (.int .i64 0)) (hE:ntE n≠0) :
 FnW C 343 [aR ks ke cap,aL l e,.agg (eNt n)]=some (.tup [.agg [.ro 6 [] true],.int .i64 (ntE n)]):=by
 have h:=IU H.toOb n
 generalize ntE n=E at *
 rw [aF H.f343 rfl]
 simp only [eNt] at h
 simp (disch:=omega) [JY,hc,h,hE,aG,H.inl,ay,H.pp,ppB]
theorem Je (H:O8 C) (ks:List Kd) (ke:Bool) (cap:Int) (l:List En) (e:Bool) (n:Nt) (hc:FnW C 223 [aR ks ke cap,aL l e]=some (.int .i64 0)) (hE:ntE n=0)
 (L:List (List AV)) (f:Bool) (E:Int) (hf:FnW C (ntF n) (aR ks ke cap::aL l e::ntA n)=some (.tup [.agg [.ro 6 L f],.int .i64 E])) :
 FnW C 343 [aR ks ke cap,aL l e,.agg (eNt n)]=some (.tup [.agg [.ro 6 L f],.int .i64 E]):=by
 have h:=IU H.toOb n
 have hk:=Jc H.toOb
 have hr:1≤n.k∧n.k≤5:=by
  unfold ntE at hE
  split at hE
  · cases hE
  · omega
 rw [hE] at h
 simp only [aeP,kdN,List.cons_append,List.nil_append] at hk
 obtain ⟨k,a,c,t,x,xe⟩:=n
 simp only at hr
 simp only [eNt] at h
 have h5:k=1∨k=2∨k=3∨k=4∨k=5:=by omega
 rcases h5 with rfl | rfl | rfl | rfl | rfl
 · simp [ntF,ntA] at hf
   have h2:FnW C 526 [aR ks ke cap,aL l e,.agg (eNt ⟨1,a,c,t,x,xe⟩)]=some (.tup [.agg [.ro 6 L f],.int .i64 E]):=by
    rw [aF H.aku rfl]
    simp (disch:=omega) [adh,hf,aG,H.inl,ay,H.pp,ppB]
   simp only [eNt] at h2
   rw [aF H.f343 rfl]
   simp (disch:=omega) [JY,hc,h,hk,h2,aG,H.inl,ay,H.pp,ppB]
 · simp [ntF,ntA] at hf
   have h2:FnW C 527 [aR ks ke cap,aL l e,.agg (eNt ⟨2,a,c,t,x,xe⟩)]=some (.tup [.agg [.ro 6 L f],.int .i64 E]):=by
    rw [aF H.akl rfl]
    simp (disch:=omega) [ad1,hf,aG,H.inl,ay,H.pp,ppB]
   simp only [eNt] at h2
   rw [aF H.f343 rfl]
   simp (disch:=omega) [JY,hc,h,hk,h2,aG,H.inl,ay,H.pp,ppB]
 · simp [ntF,ntA] at hf
   have h2:FnW C 528 [aR ks ke cap,aL l e,.agg (eNt ⟨3,a,c,t,x,xe⟩)]=some (.tup [.agg [.ro 6 L f],.int .i64 E]):=by
    rw [aF H.ajY rfl]
    simp (disch:=omega) [acO,hf,aG,H.inl,ay,H.pp,ppB]
   simp only [eNt] at h2
   rw [aF H.f343 rfl]
   simp (disch:=omega) [JY,hc,h,hk,h2,aG,H.inl,ay,H.pp,ppB]
 · simp [ntF,ntA] at hf
   have h2:FnW C 529 [aR ks ke cap,aL l e,.agg (eNt ⟨4,a,c,t,x,xe⟩)]=some (.tup [.agg [.ro 6 L f],.int .i64 E]):=by
    rw [aF H.aj9 rfl]
    simp (disch:=omega) [afP,hf,aG,H.inl,ay,H.pp,ppB]
   simp only [eNt] at h2
   rw [aF H.f343 rfl]
   simp (disch:=omega) [JY,hc,h,hk,h2,aG,H.inl,ay,H.pp,ppB]
 · simp [ntF,ntA] at hf
   have h2:FnW C 530 [aR ks ke cap,aL l e,.agg (eNt ⟨5,a,c,t,x,xe⟩)]=some (.tup [.agg [.ro 6 L f],.int .i64 E]):=by
    rw [aF H.akT rfl]
    simp (disch:=omega) [acN,hf,aG,H.inl,ay,H.pp,ppB]
   simp only [eNt] at h2
   rw [aF H.f343 rfl]
   simp (disch:=omega) [JY,hc,h,hk,h2,aG,H.inl,ay,H.pp,ppB]
def rtF (n:Nt):Nat:=if n.k=1 then 461 else if n.k=2 then 241 else if n.k=3 then 242 else if n.k=4 then 462 else 463
def rtA (R L:AV) (n:Nt):List AV:=if n.k=1 then [R,L,.int .i64 n.a,.ro 4 (n.x.map cIt) n.e] else if n.k=2 then [L,.int .i64 n.a,.int .i64 n.c] else if n.k=3 then [L,.int .i64 n.a,.int .i64 n.c,.int .i64 n.t] else if n.k=4 then [R,L,.int .i64 n.a,.ro 4 (n.x.map cIt) n.e] else [R,.ro 4 (n.x.map cIt) n.e]
theorem aeS (n:Nt) (h:ntE n≠0):0 < ntE n:=by
 unfold ntE at h ⊢
 repeat' split
 all_goals first | omega | simp_all
theorem P5 (H:O8 C) (ks:List Kd) (ke:Bool) (cap:Int) (l:List En) (e:Bool) (n:Nt) (hx:n.x.length≤1000000) (hE:ntE n≠0) :
 FnW C 342 [aR ks ke cap,.ro 6 (l.map eEn) e,.agg (eNt n)]=some (.tup [.ro 6 [] true,.int .i64 (ntE n)]):=by
 have h:=FY H.toOb n hx
 have hp:=aeS n hE
 generalize ntE n=E at *
 rw [aF H.f342 rfl]
 simp only [eNt] at h
 simp (disch:=omega) [YW,h,hp,hE,aG,H.inl,ay,H.pp,ppB]
theorem FT (H:O8 C) (ks:List Kd) (ke:Bool) (cap:Int) (l:List En) (e:Bool) (n:Nt) (hx:n.x.length≤1000000) (hE:ntE n=0)
 (L:List (List AV)) (f:Bool) (E:Int) (hf:FnW C (rtF n) (rtA (aR ks ke cap) (.ro 6 (l.map eEn) e) n)=some (.tup [.ro 6 L f,.int .i64 E])) :
 FnW C 342 [aR ks ke cap,.ro 6 (l.map eEn) e,.agg (eNt n)]=some (.tup [.ro 6 L f,.int .i64 E]):=by
 have h:=FY H.toOb n hx
 have hr:1≤n.k∧n.k≤5:=by
  unfold ntE at hE
  split at hE
  · cases hE
  · omega
 rw [hE] at h
 obtain ⟨k,a,c,t,x,xe⟩:=n
 simp only at hr
 simp only [eNt] at h
 have h5:k=1∨k=2∨k=3∨k=4∨k=5:=by omega
 rcases h5 with rfl | rfl | rfl | rfl | rfl <;> simp [rtF,rtA] at hf <;> rw [aF H.f342 rfl] <;>
  simp (disch:=omega) [YW,h,hf,aG,H.inl,ay,H.pp,ppB]
theorem Lj {α:Type} {Q:α→Prop} {l x:List α} (a c:Nat) (hl:∀ y ∈ l,Q y) (hx:∀ y ∈ x,Q y):∀ y ∈ spl l a c x,Q y:=fun y q=>by
 simp only [spl,List.mem_append] at q
 rcases q with (q | q) | q
 · exact hl y (List.mem_of_mem_take q)
 · exact hx y q
 · exact hl y (List.mem_of_mem_drop q)
theorem dX.ow {e:En} (h:dX e):dX e.own:=⟨⟨h.i.k,h.i.t,h.i.m⟩,h.s⟩
theorem afZ (H:Dt C) (ks:List Kd) (ke:Bool) (cap:Int) (hr:kG ks) (l:List En) (e:Bool) (hl:l.length≤1000000) (hs:∀ x ∈ l,dX x) (ins:Bool) (a c t:Int) (hin:ins=true→inR a c l.length=true∧inR t 0 (l.length - c)=true) :
 FnW C 216 [aR ks ke cap,aL l e,.agg [.bool ins,.int .i64 0,.ro 4 [] true,.bI,.fn 409 [.rop [.ro 6 (l.map eEn) e],.rop [.int .i64 a],.rop [.int .i64 c],.rop [.int .i64 t]]]] =
  some (if ckE ks cap l≠0 then bY (ckE ks cap l) else if ins=false then bY 4 else gZ (spl (spl l a.toNat c.toNat []) t.toNat 0 ((l.take (a.toNat+c.toNat)).drop a.toNat))):=by
 have hc:=lS H.toAd ks ke cap hr l e hl hs
 rw [aF H.f216 rfl]
 unfold bY
 by_cases c1:ckE ks cap l=0
 · rw [if_neg (by simpa using c1)]
   rw [c1] at hc
   cases ins
   · simp [qC,hc,H.inl,ay,H.pp,ppB]
   · rw [if_neg (by simp)]
     have hq:=hin rfl
     unfold inR at hq
     simp at hq
     obtain ⟨a',rfl⟩:∃ a':Nat,a=a':=⟨a.toNat,by omega⟩
     obtain ⟨c',rfl⟩:∃ c':Nat,c=c':=⟨c.toNat,by omega⟩
     obtain ⟨t',rfl⟩:∃ t':Nat,t=t':=⟨t.toNat,by omega⟩
     have hac:a'+c'≤l.length:=by omega
     have ht':t'≤l.length - c':=by omega
     have hf:=oh H.toAd ks ke cap [] true (by simp) (by simp)
     have hm:=Yl H (.ro 6 [] true) ⟨_,_,rfl⟩ l e a' c' t' hl hac ht'
     simp only [Int.toNat_natCast]
     have hm2:∀ x ∈ spl (spl l a' c' []) t' 0 ((l.take (a'+c')).drop a'),dX x :=
      Lj _ _ (Lj _ _ hs (by simp)) fun y q=>hs y (List.mem_of_mem_take (List.mem_of_mem_drop q))
     have hlen:=sG l [] a' c' hac
     have hlen2:(spl (spl l a' c' []) t' 0 ((l.take (a'+c')).drop a')).length≤1000000:=by
      rw [sG _ _ _ _ (by rw [hlen];simp;omega),hlen];simp;omega
     generalize spl (spl l a' c' []) t' 0 ((l.take (a'+c')).drop a')=R at *
     have ho:=Fg H.tojU R true hlen2 (fun x q=>(hm2 x q).i.m)
     have ht:=qV H.tojU (R.map En.own) true (by simpa using hlen2) (fun x q=>by
      obtain ⟨y,hy,rfl⟩:=List.mem_map.1 q
      exact (hm2 y hy).ow)
     unfold gZ bY
     generalize R.map En.own=R' at *
     simp only [List.map_nil] at hf
     by_cases c2:ovE R'=0
     · rw [c2] at ht
       simp [qC,aj dH.eq_1,aj jc.eq_1,hc,hf,hm,ho,ht,c2,H.inl,ay,H.pp,ppB]
     · simp [qC,aj dH.eq_1,aj jc.eq_1,hc,hf,hm,ho,ht,c2,H.inl,ay,H.pp,ppB]
 · rw [if_pos c1]
   simp [qC,hc,c1,H.inl,ay,H.pp,ppB]
theorem Il (H:Dt C) (ks:List Kd) (ke:Bool) (cap:Int) (hr:kG ks) (l:List En) (e:Bool) (hl:l.length≤1000000) (hs:∀ x ∈ l,dX x) (a c:Int) :
 FnW C 110 [aR ks ke cap,aL l e,.int .i64 a,.int .i64 c] =
  some (if ckE ks cap l≠0 then bY (ckE ks cap l) else if inR a c l.length=false then bY 4 else gZ (spl l a.toNat c.toNat [])):=by
 have h:=VZ H ks ke cap hr l e hl hs (inR a c l.length) a c id
 have hw:=qP H.tojU a c l.length (by omega)
 rw [aF H.f110 rfl]
 generalize inR a c l.length=ins at *
 have hR:∃ R n,(if ckE ks cap l≠0 then bY (ckE ks cap l) else if ins=false then bY 4 else gZ (spl l a.toNat c.toNat []))=.tup [.agg [.ro 6 R true],.int .i64 n]:=by
  unfold gZ bY;split
  · exact ⟨_,_,rfl⟩
  · split
    · exact ⟨_,_,rfl⟩
    · split <;> exact ⟨_,_,rfl⟩
 obtain ⟨R,n,hR⟩:=hR
 rw [hR] at h ⊢
 simp [acH,hw,h,H.inl,ay,H.pp,ppB]
theorem afH (H:Dt C) (ks:List Kd) (ke:Bool) (cap:Int) (hr:kG ks) (l:List En) (e:Bool) (hl:l.length≤1000000) (hs:∀ x ∈ l,dX x) (a c t:Int) :
 FnW C 237 [aR ks ke cap,aL l e,.int .i64 a,.int .i64 c,.int .i64 t] =
  some (if ckE ks cap l≠0 then bY (ckE ks cap l) else if (inR a c l.length&&inR t 0 (l.length - c))=false then bY 4 else gZ (spl (spl l a.toNat c.toNat []) t.toNat 0 ((l.take (a.toNat+c.toNat)).drop a.toNat))):=by
 have h:=afZ H ks ke cap hr l e hl hs (inR a c l.length&&inR t 0 (l.length - c)) a c t (by simp)
 have hw:=qP H.tojU a c l.length (by omega)
 rw [aF H.f237 rfl]
 have hR:∀ ins,∃ R n,(if ckE ks cap l≠0 then bY (ckE ks cap l) else if ins=false then bY 4 else gZ (spl (spl l a.toNat c.toNat []) t.toNat 0 ((l.take (a.toNat+c.toNat)).drop a.toNat)))=.tup [.agg [.ro 6 R true],.int .i64 n]:=by
  intro ins
  unfold gZ bY;split
  · exact ⟨_,_,rfl⟩
  · split
    · exact ⟨_,_,rfl⟩
    · split <;> exact ⟨_,_,rfl⟩
 obtain ⟨R,n,hR⟩:=hR (inR a c l.length&&inR t 0 (l.length - c))
 rw [hR] at h ⊢
 cases c1:inR a c l.length
 · rw [c1] at hw h
   simp at h
   simp (disch:=omega) [YV,aG,hw,h,H.inl,ay,H.pp,ppB]
 · have hq:=c1
   unfold inR at hq
   simp at hq
   have hw2:=qP H.tojU t 0 (l.length - c) (by omega)
   rw [c1] at hw h
   rw [Bool.true_and] at h
   generalize inR t 0 (l.length - c)=ins at *
   simp (disch:=omega) [YV,aG,hw,hw2,h,H.inl,ay,H.pp,ppB]
def keyAt (l:List En) (j:Nat):Int:=((l[j]?).map fun e=>e.i.k).getD 0
def fB (ks:List Kd) (cap:Int) (l:List En):Nat→List It→Int
 | _,[]=>0
 | j,x::r=>if fC ks.length x=false then 6 else if keyAt l j≠x.k then 9 else if gG (dF ks x.t).p x cap≠0 then gG (dF ks x.t).p x cap else fB ks cap l (j+1) r
theorem QZ (H:Dt C) (ks:List Kd) (ke:Bool) (cap:Int) (hr:kG ks) (l:List En) (e:Bool) (hl:l.length≤1000000) (hs:∀ x ∈ l,dX x) (a:Nat) (x:List It) (xe:Bool) (hx:∀ y ∈ x,jq y) (hxl:a+x.length≤l.length)
 (hb:∀ y ∈ x,fC ks.length y=true→-9223372036854775808≤(dF ks y.t).b∧(dF ks y.t).b≤9223372036854775807):∀ n i,n+i=x.length→(∀ y ∈ x.take i,fC ks.length y=true) →
 tK C ⟨[(34,.int .i64 i),(33,.int .i64 x.length),(32,.ro 4 (x.map cIt) xe),(6,.ptr 0 0 0),(5,.ptr 1 0 0),(3,.ptr 2 0 0)],[(0,.cells 1 [[.ro 6 [] true]] true true),
  (1,.cells 5 [[.bool true,.int .i64 0,.ro 4 (x.map cIt) xe,.fn 228 [.rop [.ro 6 (l.map eEn) e],.rop [.int .i64 a]],.fn 229 [.rop [.ro 6 (l.map eEn) e],.rop [.int .i64 a],.rop [.ro 4 (x.map cIt) xe]]]] true false),(2,.cells 2 [[.ro 9 (ks.map eKd) ke,.int .i64 cap]] true true)],3⟩ =
  some (if fB ks cap l (a+i) (x.drop i)≠0 then bY (fB ks cap l (a+i) (x.drop i)) else gZ (spl l a x.length (x.map (fre ks)))):=by
 intro n
 induction n with
 | zero =>
  intro i hi hok
  have h1:x.drop i=[]:=List.drop_eq_nil_of_le (by omega)
  have h3:¬ i < x.length:=by omega
  rw [List.take_of_length_le (by omega)] at hok
  have hf:=oh H.toAd ks ke cap x xe (by omega) (fun y q=>⟨hx y q,mY (hok y q)⟩)
  have hm:=aap H (x.map (fre ks)) true x xe (by simp;omega) (by simp) l e a hl (by simpa using hxl)
  have hm2:∀ y ∈ spl l a x.length (x.map (fre ks)),dX y:=Lj _ _ hs fun y q=>by
   obtain ⟨z,hz,rfl⟩:=List.mem_map.1 q
   exact ⟨hx z hz,hb z hz (hok z hz)⟩
  have hlen:=sG l (x.map (fre ks)) a x.length hxl
  simp only [List.length_map] at hm hlen
  have hlen2:(spl l a x.length (x.map (fre ks))).length≤1000000:=by rw [hlen];omega
  rw [h1,fB,if_neg (by simp)]
  generalize spl l a x.length (x.map (fre ks))=R at *
  have ho:=Fg H.tojU R true hlen2 (fun x q=>(hm2 x q).i.m)
  have ht:=qV H.tojU (R.map En.own) true (by simpa using hlen2) (fun x q=>by
   obtain ⟨y,hy,rfl⟩:=List.mem_map.1 q
   exact (hm2 y hy).ow)
  unfold gZ bY
  generalize R.map En.own=R' at *
  generalize x.map (fre ks)=X at *
  simp only [tK];rw [aj dH.eq_1]
  by_cases c2:ovE R'=0
  · rw [c2] at ht
    simp [aj jc.eq_1,h3,hf,hm,ho,ht,c2,H.inl,ay,H.pp,ppB]
  · simp [aj jc.eq_1,h3,hf,hm,ho,ht,c2,H.inl,ay,H.pp,ppB]
 | succ n ih =>
  intro i hi hok
  have h1:i < x.length:=by omega
  have hxi:=hx _ (List.getElem_mem h1)
  have hai:a+i < l.length:=by omega
  have hc:=xq H.toOq x[i] ks.length hxi.t
  have hk:=Wv H i x[i] l e a (a+i) rfl hl hai
  have hkA:keyAt l (a+i)=l[a+i].i.k:=by unfold keyAt;simp [hai]
  rw [drop_cons h1]
  have hch:fB ks cap l (a+i) (x[i]::x.drop (i+1))=if fC ks.length x[i]=false then 6 else if l[a+i].i.k≠x[i].k then 9 else if gG (dF ks x[i].t).p x[i] cap≠0 then gG (dF ks x[i].t).p x[i] cap else fB ks cap l (a+i+1) (x.drop (i+1)):=by
   rw [fB,hkA]
  generalize hO:gZ (spl l a x.length (x.map (fre ks)))=O at *
  unfold bY
  cases c1:fC ks.length x[i]
  · rw [c1] at hc
    simp at hc
    rw [hch,c1]
    simp only [tK];rw [aj dH.eq_1]
    simp (disch:=omega) [h1,hc,H.inl,ay,H.pp,ppB]
  · rw [c1] at hc
    simp at hc
    by_cases c2:l[a+i].i.k=x[i].k
    · rw [if_pos c2] at hk
      have ht:=mY c1
      have hre:=sW H.toAd ks ke cap x[i] hxi ht hr
      simp only [aR,eIt] at hre hc hk
      have this:=ih (i+1) (by omega) (fun y q=>by
       rw [List.take_succ_eq_append_getElem h1] at q
       rcases List.mem_append.1 q with q | q
       · exact hok y q
       · simp at q;rw [q];exact c1)
      rw [← Nat.add_assoc] at this
      unfold bY at this
      generalize PS (dF ks x[i].t).p x[i] cap=N at *
      generalize gG (dF ks x[i].t).p x[i] cap=E at *
      by_cases c3:E=0
      · subst c3
        have hV:fB ks cap l (a+i) (x[i]::x.drop (i+1))=fB ks cap l (a+i+1) (x.drop (i+1)):=by
         rw [hch,if_neg (by simp [c1]),if_neg (by simpa using c2),if_neg (by simp)]
        rw [hV]
        generalize (if fB ks cap l (a+i+1) (List.drop (i+1) x)≠0 then AV.tup [aL [] true,.int .i64 (fB ks cap l (a+i+1) (List.drop (i+1) x))] else O)=Z at *
        simp only [tK] at this ⊢;rw [aj dH.eq_1]
        simp at this
        simp (disch:=omega) [h1,hc,hk,hre,aG,H.inl,ay,H.pp,ppB,this]
      · have hV:fB ks cap l (a+i) (x[i]::x.drop (i+1))=E:=by
         rw [hch,if_neg (by simp [c1]),if_neg (by simpa using c2),if_pos c3]
        rw [hV,if_pos c3]
        simp only [tK];rw [aj dH.eq_1]
        simp (disch:=omega) [h1,hc,hk,hre,c3,H.inl,ay,H.pp,ppB]
    · rw [if_neg c2] at hk
      simp only [eIt] at hc hk
      have hV:fB ks cap l (a+i) (x[i]::x.drop (i+1))=9:=by
       rw [hch,if_neg (by simp [c1]),if_pos c2]
      rw [hV,if_pos (by simp)]
      simp only [tK];rw [aj dH.eq_1]
      simp (disch:=omega) [h1,hc,hk,H.inl,ay,H.pp,ppB]
theorem Vz (H:Dt C) (ks:List Kd) (ke:Bool) (cap:Int) (hr:kG ks) (l:List En) (e:Bool) (hl:l.length≤1000000) (hs:∀ x ∈ l,dX x) (a:Int) (x:List It) (xe:Bool) (hxl:x.length≤1000000) (hx:∀ y ∈ x,jq y)
 (hb:∀ y ∈ x,fC ks.length y=true→-9223372036854775808≤(dF ks y.t).b∧(dF ks y.t).b≤9223372036854775807) :
 FnW C 114 [aR ks ke cap,aL l e,.int .i64 a,.ro 4 (x.map cIt) xe] =
  some (if ckE ks cap l≠0 then bY (ckE ks cap l) else if inR a x.length l.length=false then bY 4 else
   if fB ks cap l a.toNat x≠0 then bY (fB ks cap l a.toNat x) else gZ (spl l a.toNat x.length (x.map (fre ks)))):=by
 have hc:=lS H.toAd ks ke cap hr l e hl hs
 have hw:=qP H.tojU a x.length l.length (by omega)
 have key:∀ ins,ins=inR a x.length l.length→FnW C 216 [aR ks ke cap,aL l e,.agg [.bool ins,.int .i64 0,.ro 4 (x.map cIt) xe,.fn 228 [.rop [.ro 6 (l.map eEn) e],.rop [.int .i64 a]],.fn 229 [.rop [.ro 6 (l.map eEn) e],.rop [.int .i64 a],.rop [.ro 4 (x.map cIt) xe]]]] =
  some (if ckE ks cap l≠0 then bY (ckE ks cap l) else if ins=false then bY 4 else
   if fB ks cap l a.toNat x≠0 then bY (fB ks cap l a.toNat x) else gZ (spl l a.toNat x.length (x.map (fre ks)))):=by
  intro ins hins
  rw [aF H.f216 rfl]
  by_cases c1:ckE ks cap l=0
  · rw [if_neg (by simpa using c1)]
    rw [c1] at hc
    cases ins
    · unfold bY
      simp [qC,hc,H.inl,ay,H.pp,ppB]
    · rw [if_neg (by simp)]
      have hq:=hins.symm
      unfold inR at hq
      simp at hq
      obtain ⟨a',rfl⟩:∃ a':Nat,a=a':=⟨a.toNat,by omega⟩
      have h:=QZ H ks ke cap hr l e hl hs a' x xe hx (by omega) hb x.length 0 (by simp) (by simp)
      rw [Nat.add_zero,List.drop_zero] at h
      simp only [Int.toNat_natCast]
      generalize (if fB ks cap l a' x≠0 then bY (fB ks cap l a' x) else gZ (spl l a' x.length (x.map (fre ks))))=Z at *
      simp only [tK] at h
      simp at h
      simp [qC,hc,h,H.inl,ay,H.pp,ppB]
  · rw [if_pos c1]
    unfold bY
    simp [qC,hc,c1,H.inl,ay,H.pp,ppB]
 have h:=key _ rfl
 rw [aF H.f114 rfl]
 generalize inR a x.length l.length=ins at *
 have hR:∃ R n,(if ckE ks cap l≠0 then bY (ckE ks cap l) else if ins=false then bY 4 else
  if fB ks cap l a.toNat x≠0 then bY (fB ks cap l a.toNat x) else gZ (spl l a.toNat x.length (x.map (fre ks))))=.tup [.agg [.ro 6 R true],.int .i64 n]:=by
  unfold gZ bY
  repeat (first | exact ⟨_,_,rfl⟩ | split)
 obtain ⟨R,n,hR⟩:=hR
 rw [hR] at h ⊢
 simp [adZ,hw,h,H.inl,ay,H.pp,ppB]
structure uJ (C:aI):Prop extends Dt C where
 f217:C.fns.get 217=some Zg
 ait:C.fns.get 401=some Lr
 f220:C.fns.get 220=some adk
 f218:C.fns.get 218=some aeB
 f109:C.fns.get 109=some afy
 f108:C.fns.get 108=some aef
theorem QD {ks:List Kd} {cap:Int} {l:List En} (h:ckE ks cap l=0):qI ks cap=true:=by
 unfold ckE at h
 cases c:qI ks cap
 · rw [if_pos c] at h;cases h
 · rfl
theorem aiI {n:Int} {x:It} (h:fC n x=true):oM x=true:=by
 unfold fC at h;unfold oM;simp at h ⊢;exact ⟨⟨h.1.1.1,h.1.2⟩,h.2⟩
theorem agu {ks:List Kd} {cap:Int} (h:qI ks cap=true) {x:It} (hx:fC ks.length x=true) (ht:0≤x.t):gG (dF ks x.t).p x cap=0∨gG (dF ks x.t).p x cap=14:=by
 have h2:=aiI hx
 have h3:=mY hx
 unfold qI at h
 simp only [Bool.and_eq_true,decide_eq_true_eq] at h
 unfold gG
 rw [if_neg (by omega)]
 split
 · exact .inr rfl
 · rw [if_neg (by simp [h2])]
   split
   · exact .inr rfl
   · exact .inl rfl
@[simp] theorem Nh:∀ h:aJ,rJ 0 h=[]
 | []=>rfl
 | (b,o)::r=>by rw [rJ,if_neg (by omega),Nh r]
@[simp] theorem OQ (π:Nat→Option Nat):∀ h:aJ,jJ 0 π h=some []
 | []=>rfl
 | (b,o)::r=>by rw [jJ,if_neg (by omega),OQ π r]
def DoR (v:AV) (o:Option (AV × aJ × Nat)):Prop:=∃ h' n',o=some (v,h',n')∧Pav.get h' 0=some (.cells 1 [[.ro 6 [] true]] true true)
def Sm (s:List Int) (k:Int):List Int:=if s.contains k=true then s else s++[k]
def kC (s:List Int):List En→List Int
 | []=>s
 | e::r=>kC (Sm s e.i.k) r
theorem X6 (s:List Int) (k j:Int):(Sm s k).contains j=(s++[k]).contains j:=by
 unfold Sm
 split
 · rename_i h
   simp only [List.contains_eq_mem,decide_eq_true_eq] at h
   by_cases c:j=k
   · subst c;simp [h]
   · simp [c]
 · rfl
theorem Iq:∀ (l:List En) (s:List Int) (j:Int),(kC s l).contains j=(s++bC l).contains j
 | [],s,j=>by rw [kC];simp [bC]
 | e::r,s,j=>by
  rw [kC,Iq r]
  have:=X6 s e.i.k j
  simp only [List.contains_eq_mem,List.mem_append,List.mem_cons,List.not_mem_nil,or_false,decide_eq_decide,bC,List.map_cons] at this ⊢
  rw [this,or_assoc]
theorem NU (k:Int):∀ s:List Int,jV (o9 s) (.int .u64 k) (.bool true)=some (o9 (Sm s k)):=by
 intro s
 unfold Sm
 cases c:s.contains k
 · rw [if_neg (by simp)];exact uT k s c
 · rw [if_pos rfl]
   induction s with
   | nil=>simp at c
   | cons a r ih =>
    unfold o9 at ih ⊢
    rw [List.map_cons,jV]
    simp only [iq,if_true,ob]
    by_cases d:k=a
    · subst d;simp
    · have:r.contains k=true:=by simpa [d] using c
      simp [d,ih this,om]
theorem Fp (ks:List Kd) (cap:Int):∀ (x:List It) (s t:List Int),(∀ j,s.contains j=t.contains j)→dB ks cap s x=dB ks cap t x
 | [],s,t,_=>rfl
 | x::r,s,t,h=>by
  rw [dB,dB,h,Fp ks cap r (s++[x.k]) (t++[x.k]) (fun j=>by
   have:=h j
   simp only [List.contains_eq_mem,List.mem_append,decide_eq_decide] at this ⊢
   rw [this])]
theorem Dv (H:uJ C) (l:List En) (e:Bool) (hl:l.length≤1000000):∀ n i,n+i=l.length→∀ s:List Int,
 CK C 25 (oK [.tmp 2]) [.sq Ep,.bk 0 ⟨true,[3],[]⟩,.sq yX] qj ⟨[(9,.int .i64 i),(8,.int .i64 l.length),(7,.ro 6 (l.map eEn) e),(3,.ptr 25 0 0)],[(0,.cells 1 [[.ro 6 [] true]] true true),(25,.cells 1 [[.map 26]] true false),(26,.map (o9 s))],27⟩ =
  some (.fn 401 [.ptr 25 0 0],[(0,.cells 1 [[.ro 6 [] true]] true true),(25,.cells 1 [[.map 26]] true false),(26,.map (o9 (kC s (l.drop i))))],29):=by
 intro n
 induction n with
 | zero =>
  intro i hi s
  have h1:l.drop i=[]:=List.drop_eq_nil_of_le (by omega)
  have h3:¬ i < l.length:=by omega
  rw [aj qj.eq_1]
  simp (disch:=omega) [aj yX.eq_1,h1,h3,kC]
 | succ n ih =>
  intro i hi s
  have h1:i < l.length:=by omega
  have hp:=NU l[i].i.k s
  have this:=ih (i+1) (by omega) (Sm s l[i].i.k)
  rw [drop_cons h1,kC]
  rw [aj qj.eq_1]
  simp at this
  simp (disch:=omega) [h1,aG,hp,this]
theorem Qz (H:uJ C) (l:List En) (e:Bool) (hl:l.length≤1000000) :
 RnW C 217 [.ro 6 (l.map eEn) e] [(0,.cells 1 [[.ro 6 [] true]] true true)] 25=some (.fn 401 [.ptr 25 0 0],[(0,.cells 1 [[.ro 6 [] true]] true true),(25,.cells 1 [[.map 26]] true false),(26,.map (o9 (kC [] l)))],29):=by
 have h:=Dv H l e hl l.length 0 (by simp) []
 rw [List.drop_zero,GR] at h
 rw [rF (args:=[.ro 6 (l.map eEn) e]) H.f217 rfl [(0,.cells 1 [[.ro 6 [] true]] true true)] 25]
 simp at h
 simp [Zg,h]
theorem RD (H:uJ C) (ks:List Kd) (ke:Bool) (cap:Int) (hr:kG ks) (hru:qI ks cap=true) (l:List En) (e:Bool) (hl:l.length≤1000000) (hs:∀ x ∈ l,dX x) (a:Nat) (ha:a≤l.length) (x:List It) (xe:Bool) (hx:∀ y ∈ x,jq y) (hxl:x.length≤1000000) (ins:Bool) (cnt:Int)
 (hb:∀ y ∈ x,fC ks.length y=true→-9223372036854775808≤(dF ks y.t).b∧(dF ks y.t).b≤9223372036854775807) (hsum:l.length+x.length≤1000000):∀ n i,n+i=x.length→(∀ y ∈ x.take i,fC ks.length y=true)→∀ s:List Int,
 DoR (if dB ks cap s (x.drop i)≠0 then bY (dB ks cap s (x.drop i)) else gZ (spl l a 0 (x.map (fre ks)))) (CK C 29 (oK [.cell 6 1 true,.tmp 7]) [.sq Ak,.bk 1 ⟨true,[6,5,3],[]⟩,.sq jc] dH ⟨[(34,.int .i64 i),(33,.int .i64 x.length),(32,.ro 4 (x.map cIt) xe),(6,.ptr 29 0 0),(5,.ptr 30 0 0),(3,.ptr 31 0 0)],[(0,.cells 1 [[.ro 6 [] true]] true true),(25,.cells 1 [[.map 26]] true false),(26,.map (o9 s)),(29,.cells 1 [[.ro 6 [] true]] true true),
  (30,.cells 5 [[.bool ins,.int .i64 cnt,.ro 4 (x.map cIt) xe,.fn 401 [.ptr 25 0 0],.fn 220 [.rop [.ro 6 (l.map eEn) e],.rop [.int .i64 a]]]] true false),(31,.cells 2 [[.ro 9 (ks.map eKd) ke,.int .i64 cap]] true true)],32⟩):=by
 intro n
 induction n with
 | zero =>
  intro i hi hok s
  have h1:x.drop i=[]:=List.drop_eq_nil_of_le (by omega)
  have h3:¬ i < x.length:=by omega
  rw [List.take_of_length_le (by omega)] at hok
  have hf:=oh H.toAd ks ke cap x xe (by omega) (fun y q=>⟨hx y q,mY (hok y q)⟩)
  have hm:FnW C 220 [.ro 6 ((x.map (fre ks)).map eEn) true,.rop [.ro 6 (l.map eEn) e],.rop [.int .i64 a]]=some (.ro 6 ((spl l a 0 (x.map (fre ks))).map eEn) true):=by
   have h:=rD H.tojU l (x.map (fre ks)) e true a 0 hl (by simpa using hxl) (by omega)
   rw [aF H.f220 rfl]
   generalize spl l a 0 (x.map (fre ks))=R at *
   generalize x.map (fre ks)=X at *
   simp at h
   simp [adk,h,H.inl,ay,H.pp,ppB]
  have hm2:∀ y ∈ spl l a 0 (x.map (fre ks)),dX y:=Lj _ _ hs fun y q=>by
   obtain ⟨z,hz,rfl⟩:=List.mem_map.1 q
   exact ⟨hx z hz,hb z hz (hok z hz)⟩
  have hlen2:(spl l a 0 (x.map (fre ks))).length≤1000000:=by rw [sG _ _ _ _ (by omega)];simp;omega
  rw [h1,dB,if_neg (by simp)]
  generalize spl l a 0 (x.map (fre ks))=R at *
  have ho:=Fg H.tojU R true hlen2 (fun x q=>(hm2 x q).i.m)
  have ht:=qV H.tojU (R.map En.own) true (by simpa using hlen2) (fun x q=>by
   obtain ⟨y,hy,rfl⟩:=List.mem_map.1 q
   exact (hm2 y hy).ow)
  unfold gZ bY
  generalize R.map En.own=R' at *
  generalize x.map (fre ks)=X at *
  by_cases c2:ovE R'=0
  · rw [c2] at ht
    rw [aj dH.eq_1]
    simp [aj jc.eq_1,h3,hf,hm,ho,ht,c2,H.inl,ay,H.pp,ppB]
    exact ⟨_,_,rfl,rfl⟩
  · rw [aj dH.eq_1]
    simp [aj jc.eq_1,h3,hf,hm,ho,ht,c2,H.inl,ay,H.pp,ppB]
    exact ⟨_,_,rfl,rfl⟩
 | succ n ih =>
  intro i hi hok s
  have h1:i < x.length:=by omega
  have hxi:=hx _ (List.getElem_mem h1)
  have hc:=xq H.toOq x[i] ks.length hxi.t
  have hg:=fun a b c h n=>rF (args:=[a,b,c]) H.ait rfl h n
  have hkg:=zB x[i].k s
  rw [drop_cons h1,dB]
  generalize hO:gZ (spl l a 0 (x.map (fre ks)))=O at *
  unfold bY
  cases c1:fC ks.length x[i]
  · have hE:itE ks cap x[i] (s.contains x[i].k)=6:=by unfold itE;simp [c1]
    rw [hE,if_pos (by simp),if_pos (by simp)]
    rw [c1] at hc
    simp at hc
    rw [aj dH.eq_1]
    simp (disch:=omega) [h1,hc,H.inl,ay,H.pp,ppB]
    exact ⟨_,_,rfl,rfl⟩
  · rw [c1] at hc
    simp at hc
    cases c2:s.contains x[i].k
    · have ht:=mY c1
      have hre:=sW H.toAd ks ke cap x[i] hxi ht hr
      have h14:=agu hru c1 hxi.t.1
      have hp:=uT x[i].k s c2
      rw [c2] at hkg
      simp only [aR,eIt] at hre hc
      have this:=ih (i+1) (by omega) (fun y q=>by
       rw [List.take_succ_eq_append_getElem h1] at q
       rcases List.mem_append.1 q with q | q
       · exact hok y q
       · simp at q;rw [q];exact c1) (s++[x[i].k])
      unfold bY at this
      have hE:itE ks cap x[i] false=if gG (dF ks x[i].t).p x[i] cap=0 then 0 else 14:=by unfold itE;simp [c1]
      generalize PS (dF ks x[i].t).p x[i] cap=N at *
      generalize gG (dF ks x[i].t).p x[i] cap=E at *
      by_cases c3:E=0
      · subst c3
        have hV:itE ks cap x[i] false=0:=by rw [hE];simp
        rw [hV]
        simp only [ne_eq,not_true_eq_false,if_false]
        generalize (if dB ks cap (s++[x[i].k]) (List.drop (i+1) x)≠0 then AV.tup [aL [] true,.int .i64 (dB ks cap (s++[x[i].k]) (List.drop (i+1) x))] else O)=Z at *
        rw [aj dH.eq_1]
        simp at this
        simp (disch:=omega) [h1,hc,hg,Lr,hkg,hp,hre,aG,H.inl,ay,H.pp,ppB]
        exact this
      · have c4:E=14:=by rcases h14 with q | q;exact absurd q c3;exact q
        subst c4
        have hV:itE ks cap x[i] false=14:=by rw [hE];simp
        rw [hV,if_pos (by simp),if_pos (by simp)]
        rw [aj dH.eq_1]
        simp (disch:=omega) [h1,hc,hg,Lr,hkg,hp,hre,H.inl,ay,H.pp,ppB]
        exact ⟨_,_,rfl,rfl⟩
    · have hE:itE ks cap x[i] true=8:=by unfold itE;simp [c1]
      rw [hE,if_pos (by simp),if_pos (by simp)]
      rw [c2] at hkg
      simp only [eIt] at hc
      rw [aj dH.eq_1]
      simp (disch:=omega) [h1,hc,hg,Lr,hkg,H.inl,ay,H.pp,ppB]
      exact ⟨_,_,rfl,rfl⟩
theorem Dq (H:uJ C) (l:List En) (e:Bool) (hl:l.length≤1000000):∀ n i,n+i=l.length→∀ s:List Int,
 CK C 13 (oK [.tmp 2]) [.sq Ep,.bk 0 ⟨true,[3],[]⟩,.sq yX] qj ⟨[(9,.int .i64 i),(8,.int .i64 l.length),(7,.ro 6 (l.map eEn) e),(3,.ptr 13 0 0)],[(0,.cells 1 [[.ro 6 [] true]] true true),(13,.cells 1 [[.map 14]] true false),(14,.map (o9 s))],15⟩ =
  some (.fn 401 [.ptr 13 0 0],[(0,.cells 1 [[.ro 6 [] true]] true true),(13,.cells 1 [[.map 14]] true false),(14,.map (o9 (kC s (l.drop i))))],17):=by
 intro n
 induction n with
 | zero =>
  intro i hi s
  have h1:l.drop i=[]:=List.drop_eq_nil_of_le (by omega)
  have h3:¬ i < l.length:=by omega
  rw [aj qj.eq_1]
  simp (disch:=omega) [aj yX.eq_1,h1,h3,kC]
 | succ n ih =>
  intro i hi s
  have h1:i < l.length:=by omega
  have hp:=NU l[i].i.k s
  have this:=ih (i+1) (by omega) (Sm s l[i].i.k)
  rw [drop_cons h1,kC]
  rw [aj qj.eq_1]
  simp at this
  simp (disch:=omega) [h1,aG,hp,this]
theorem Rz (H:uJ C) (l:List En) (e:Bool) (hl:l.length≤1000000) :
 RnW C 217 [.ro 6 (l.map eEn) e] [(0,.cells 1 [[.ro 6 [] true]] true true)] 13=some (.fn 401 [.ptr 13 0 0],[(0,.cells 1 [[.ro 6 [] true]] true true),(13,.cells 1 [[.map 14]] true false),(14,.map (o9 (kC [] l)))],17):=by
 have h:=Dq H l e hl l.length 0 (by simp) []
 rw [List.drop_zero,GR] at h
 rw [rF (args:=[.ro 6 (l.map eEn) e]) H.f217 rfl [(0,.cells 1 [[.ro 6 [] true]] true true)] 13]
 simp at h
 simp [Zg,h]
theorem SE (H:uJ C) (ks:List Kd) (ke:Bool) (cap:Int) (hr:kG ks) (hru:qI ks cap=true)  (x:List It) (xe:Bool) (hx:∀ y ∈ x,jq y) (hxl:x.length≤1000000) (ins:Bool) (cnt:Int)
 (hb:∀ y ∈ x,fC ks.length y=true→-9223372036854775808≤(dF ks y.t).b∧(dF ks y.t).b≤9223372036854775807) :∀ n i,n+i=x.length→(∀ y ∈ x.take i,fC ks.length y=true)→∀ s:List Int,
 DoR (if dB ks cap s (x.drop i)≠0 then bY (dB ks cap s (x.drop i)) else gZ (x.map (fre ks))) (CK C 17 (oK [.cell 6 1 true,.tmp 7]) [.sq Ak,.bk 1 ⟨true,[6,5,3],[]⟩,.sq jc] dH ⟨[(34,.int .i64 i),(33,.int .i64 x.length),(32,.ro 4 (x.map cIt) xe),(6,.ptr 17 0 0),(5,.ptr 18 0 0),(3,.ptr 19 0 0)],[(0,.cells 1 [[.ro 6 [] true]] true true),(13,.cells 1 [[.map 14]] true false),(14,.map (o9 s)),(17,.cells 1 [[.ro 6 [] true]] true true),
  (18,.cells 5 [[.bool ins,.int .i64 cnt,.ro 4 (x.map cIt) xe,.fn 401 [.ptr 13 0 0],.fn 218 []]] true false),(19,.cells 2 [[.ro 9 (ks.map eKd) ke,.int .i64 cap]] true true)],20⟩):=by
 intro n
 induction n with
 | zero =>
  intro i hi hok s
  have h1:x.drop i=[]:=List.drop_eq_nil_of_le (by omega)
  have h3:¬ i < x.length:=by omega
  rw [List.take_of_length_le (by omega)] at hok
  have hf:=oh H.toAd ks ke cap x xe (by omega) (fun y q=>⟨hx y q,mY (hok y q)⟩)
  have hm:FnW C 218 [.ro 6 ((x.map (fre ks)).map eEn) true]=some (.ro 6 ((x.map (fre ks)).map eEn) true):=by
   rw [aF H.f218 rfl]
   generalize x.map (fre ks)=X at *
   simp [aeB]
  have hm2:∀ y ∈ x.map (fre ks),dX y:=fun y q=>by
   obtain ⟨z,hz,rfl⟩:=List.mem_map.1 q
   exact ⟨hx z hz,hb z hz (hok z hz)⟩
  have hlen2:(x.map (fre ks)).length≤1000000:=by simpa using hxl
  rw [h1,dB,if_neg (by simp)]
  generalize x.map (fre ks)=R at *
  have ho:=Fg H.tojU R true hlen2 (fun x q=>(hm2 x q).i.m)
  have ht:=qV H.tojU (R.map En.own) true (by simpa using hlen2) (fun x q=>by
   obtain ⟨y,hy,rfl⟩:=List.mem_map.1 q
   exact (hm2 y hy).ow)
  unfold gZ bY
  generalize R.map En.own=R' at *
  by_cases c2:ovE R'=0
  · rw [c2] at ht
    rw [aj dH.eq_1]
    simp [aj jc.eq_1,h3,hf,hm,ho,ht,c2,H.inl,ay,H.pp,ppB]
    exact ⟨_,_,rfl,rfl⟩
  · rw [aj dH.eq_1]
    simp [aj jc.eq_1,h3,hf,hm,ho,ht,c2,H.inl,ay,H.pp,ppB]
    exact ⟨_,_,rfl,rfl⟩
 | succ n ih =>
  intro i hi hok s
  have h1:i < x.length:=by omega
  have hxi:=hx _ (List.getElem_mem h1)
  have hc:=xq H.toOq x[i] ks.length hxi.t
  have hg:=fun a b c h n=>rF (args:=[a,b,c]) H.ait rfl h n
  have hkg:=zB x[i].k s
  rw [drop_cons h1,dB]
  generalize hO:gZ (x.map (fre ks))=O at *
  unfold bY
  cases c1:fC ks.length x[i]
  · have hE:itE ks cap x[i] (s.contains x[i].k)=6:=by unfold itE;simp [c1]
    rw [hE,if_pos (by simp),if_pos (by simp)]
    rw [c1] at hc
    simp at hc
    rw [aj dH.eq_1]
    simp (disch:=omega) [h1,hc,H.inl,ay,H.pp,ppB]
    exact ⟨_,_,rfl,rfl⟩
  · rw [c1] at hc
    simp at hc
    cases c2:s.contains x[i].k
    · have ht:=mY c1
      have hre:=sW H.toAd ks ke cap x[i] hxi ht hr
      have h14:=agu hru c1 hxi.t.1
      have hp:=uT x[i].k s c2
      rw [c2] at hkg
      simp only [aR,eIt] at hre hc
      have this:=ih (i+1) (by omega) (fun y q=>by
       rw [List.take_succ_eq_append_getElem h1] at q
       rcases List.mem_append.1 q with q | q
       · exact hok y q
       · simp at q;rw [q];exact c1) (s++[x[i].k])
      unfold bY at this
      have hE:itE ks cap x[i] false=if gG (dF ks x[i].t).p x[i] cap=0 then 0 else 14:=by unfold itE;simp [c1]
      generalize PS (dF ks x[i].t).p x[i] cap=N at *
      generalize gG (dF ks x[i].t).p x[i] cap=E at *
      by_cases c3:E=0
      · subst c3
        have hV:itE ks cap x[i] false=0:=by rw [hE];simp
        rw [hV]
        simp only [ne_eq,not_true_eq_false,if_false]
        generalize (if dB ks cap (s++[x[i].k]) (List.drop (i+1) x)≠0 then AV.tup [aL [] true,.int .i64 (dB ks cap (s++[x[i].k]) (List.drop (i+1) x))] else O)=Z at *
        rw [aj dH.eq_1]
        simp at this
        simp (disch:=omega) [h1,hc,hg,Lr,hkg,hp,hre,aG,H.inl,ay,H.pp,ppB]
        exact this
      · have c4:E=14:=by rcases h14 with q | q;exact absurd q c3;exact q
        subst c4
        have hV:itE ks cap x[i] false=14:=by rw [hE];simp
        rw [hV,if_pos (by simp),if_pos (by simp)]
        rw [aj dH.eq_1]
        simp (disch:=omega) [h1,hc,hg,Lr,hkg,hp,hre,H.inl,ay,H.pp,ppB]
        exact ⟨_,_,rfl,rfl⟩
    · have hE:itE ks cap x[i] true=8:=by unfold itE;simp [c1]
      rw [hE,if_pos (by simp),if_pos (by simp)]
      rw [c2] at hkg
      simp only [eIt] at hc
      rw [aj dH.eq_1]
      simp (disch:=omega) [h1,hc,hg,Lr,hkg,H.inl,ay,H.pp,ppB]
      exact ⟨_,_,rfl,rfl⟩
theorem aiZ (H:uJ C) (ks:List Kd) (ke:Bool) (cap:Int) (hr:kG ks) (l:List En) (e:Bool) (hl:l.length≤1000000) (hs:∀ x ∈ l,dX x) (a:Int) (x:List It) (xe:Bool) (hx:∀ y ∈ x,jq y) (hxl:x.length≤1000000) (ins:Bool) (cnt:Int)
 (hb:∀ y ∈ x,fC ks.length y=true→-9223372036854775808≤(dF ks y.t).b∧(dF ks y.t).b≤9223372036854775807) (hsum:l.length+x.length≤1000000) (hin:ins=true→0≤a∧a≤l.length) :
 DoR (if ckE ks cap l≠0 then bY (ckE ks cap l) else if ins=false then bY 4 else if 1024 < cnt then bY 3 else if dB ks cap (bC l) x≠0 then bY (dB ks cap (bC l) x) else gZ (spl l a.toNat 0 (x.map (fre ks)))) (RnW C 216 [aR ks ke cap,aL l e,.agg [.bool ins,.int .i64 cnt,.ro 4 (x.map cIt) xe,.fn 401 [.ptr 25 0 0],.fn 220 [.rop [.ro 6 (l.map eEn) e],.rop [.int .i64 a]]]] [(0,.cells 1 [[.ro 6 [] true]] true true),(25,.cells 1 [[.map 26]] true false),(26,.map (o9 (kC [] l)))] 29):=by
 have hc:=lS H.toAd ks ke cap hr l e hl hs
 rw [rF (args:=[aR ks ke cap,aL l e,.agg [.bool ins,.int .i64 cnt,.ro 4 (x.map cIt) xe,.fn 401 [.ptr 25 0 0],.fn 220 [.rop [.ro 6 (l.map eEn) e],.rop [.int .i64 a]]]]) H.f216 rfl [(0,.cells 1 [[.ro 6 [] true]] true true),(25,.cells 1 [[.map 26]] true false),(26,.map (o9 (kC [] l)))] 29]
 by_cases c1:ckE ks cap l=0
 · have hru:=QD c1
   rw [c1] at hc
   rw [if_neg (by simpa using c1)]
   cases ins
   · rw [if_pos rfl]
     unfold bY
     simp [qC,hc,H.inl,ay,H.pp,ppB]
     exact ⟨_,_,rfl,rfl⟩
   · rw [if_neg (by simp)]
     obtain ⟨ha1,ha2⟩:=hin rfl
     obtain ⟨a',rfl⟩:∃ a':Nat,a=a':=⟨a.toNat,by omega⟩
     by_cases c2:1024 < cnt
     · rw [if_pos c2]
       unfold bY
       simp [qC,hc,c2,H.inl,ay,H.pp,ppB]
       exact ⟨_,_,rfl,rfl⟩
     · rw [if_neg c2]
       have h:=RD H ks ke cap hr hru l e hl hs a' (by omega) x xe hx hxl true cnt hb hsum x.length 0 (by simp) (by simp) (kC [] l)
       rw [List.drop_zero] at h
       rw [Fp ks cap x (kC [] l) (bC l) (fun j=>by rw [Iq];simp)] at h
       simp only [Int.toNat_natCast]
       generalize (if dB ks cap (bC l) x≠0 then bY (dB ks cap (bC l) x) else gZ (spl l a' 0 (x.map (fre ks))))=Z at *
       simp at h
       simp [qC,hc,c2,H.inl,ay,H.pp,ppB]
       exact h
 · rw [if_pos c1]
   unfold bY
   simp [qC,hc,c1,H.inl,ay,H.pp,ppB]
   exact ⟨_,_,rfl,rfl⟩
theorem ahV (H:uJ C) (ks:List Kd) (ke:Bool) (cap:Int) (hr:kG ks) (l:List En) (e:Bool) (hl:l.length≤1000000) (hs:∀ x ∈ l,dX x)  (x:List It) (xe:Bool) (hx:∀ y ∈ x,jq y) (hxl:x.length≤1000000)  (cnt:Int)
 (hb:∀ y ∈ x,fC ks.length y=true→-9223372036854775808≤(dF ks y.t).b∧(dF ks y.t).b≤9223372036854775807)  :
 DoR (if ckE ks cap l≠0 then bY (ckE ks cap l) else if 1024 < cnt then bY 3 else if dB ks cap [] x≠0 then bY (dB ks cap [] x) else gZ (x.map (fre ks))) (RnW C 216 [aR ks ke cap,aL l e,.agg [.bool true,.int .i64 cnt,.ro 4 (x.map cIt) xe,.fn 401 [.ptr 13 0 0],.fn 218 []]] [(0,.cells 1 [[.ro 6 [] true]] true true),(13,.cells 1 [[.map 14]] true false),(14,.map (o9 (kC [] [])))] 17):=by
 have hc:=lS H.toAd ks ke cap hr l e hl hs
 rw [rF (args:=[aR ks ke cap,aL l e,.agg [.bool true,.int .i64 cnt,.ro 4 (x.map cIt) xe,.fn 401 [.ptr 13 0 0],.fn 218 []]]) H.f216 rfl [(0,.cells 1 [[.ro 6 [] true]] true true),(13,.cells 1 [[.map 14]] true false),(14,.map (o9 (kC [] [])))] 17]
 by_cases c1:ckE ks cap l=0
 · have hru:=QD c1
   rw [c1] at hc
   rw [if_neg (by simpa using c1)]
   by_cases c2:1024 < cnt
   · rw [if_pos c2]
     unfold bY
     simp [qC,hc,c2,H.inl,ay,H.pp,ppB]
     exact ⟨_,_,rfl,rfl⟩
   · rw [if_neg c2]
     have h:=SE H ks ke cap hr hru x xe hx hxl true cnt hb x.length 0 (by simp) (by simp) (kC [] [])
     rw [List.drop_zero] at h
     simp only [kC] at h ⊢
     simp [qC,hc,c2,H.inl,ay,H.pp,ppB]
     by_cases c3:dB ks cap [] x=0
     · simp [c3] at h ⊢
       exact h
     · simp [c3] at h ⊢
       exact h
 · rw [if_pos c1]
   unfold bY
   simp [qC,hc,c1,H.inl,ay,H.pp,ppB]
   exact ⟨_,_,rfl,rfl⟩
@[simp] theorem aqA (h:aJ) (n:Nat) (o:ig) (k:Nat):Pav.get (Pav.put h n o) k=if n=k then some o else Pav.get h k:=get_put h n o k
theorem XI (H:uJ C) (ks:List Kd) (ke:Bool) (cap:Int) (hr:kG ks) (l:List En) (e:Bool) (hl:l.length≤1000000) (hs:∀ x ∈ l,dX x) (a:Int) (x:List It) (xe:Bool) (hx:∀ y ∈ x,jq y) (hxl:x.length≤1000000)
 (hb:∀ y ∈ x,fC ks.length y=true→-9223372036854775808≤(dF ks y.t).b∧(dF ks y.t).b≤9223372036854775807) (hsum:l.length+x.length≤1000000) :
 FnW C 109 [aR ks ke cap,aL l e,.int .i64 a,.ro 4 (x.map cIt) xe] =
  some (if ckE ks cap l≠0 then bY (ckE ks cap l) else if inR a 0 l.length=false then bY 4 else if 1024 < (l.length:Int)+x.length then bY 3 else if dB ks cap (bC l) x≠0 then bY (dB ks cap (bC l) x) else gZ (spl l a.toNat 0 (x.map (fre ks)))):=by
 have hw:=qP H.tojU a 0 l.length (by omega)
 have hu:=Qz H l e hl
 obtain ⟨h',n',hd,hB⟩:=aiZ H ks ke cap hr l e hl hs a x xe hx hxl (inR a 0 l.length) ((l.length:Int)+x.length) hb hsum (fun q=>by unfold inR at q;simp at q;omega)
 have hR:∃ R n,(if ckE ks cap l≠0 then bY (ckE ks cap l) else if inR a 0 l.length=false then bY 4 else if 1024 < (l.length:Int)+x.length then bY 3 else if dB ks cap (bC l) x≠0 then bY (dB ks cap (bC l) x) else gZ (spl l a.toNat 0 (x.map (fre ks))))=.tup [.agg [.ro 6 R true],.int .i64 n]:=by
  unfold gZ bY
  repeat (first | exact ⟨_,_,rfl⟩ | split)
 obtain ⟨R,n,hR⟩:=hR
 rw [hR] at hd ⊢
 rw [aF H.f109 rfl]
 generalize inR a 0 l.length=ins at *
 try simp at hd
 simp (disch:=omega) [afy,aG,hw,hu,hd,hB,H.inl,ay,H.pp,ppB]
theorem ZG (H:uJ C) (ks:List Kd) (ke:Bool) (cap:Int) (hr:kG ks) (l:List En) (e:Bool) (hl:l.length≤1000000) (hs:∀ x ∈ l,dX x) (x:List It) (xe:Bool) (hx:∀ y ∈ x,jq y) (hxl:x.length≤1000000)
 (hb:∀ y ∈ x,fC ks.length y=true→-9223372036854775808≤(dF ks y.t).b∧(dF ks y.t).b≤9223372036854775807) :
 FnW C 108 [aR ks ke cap,aL l e,.ro 4 (x.map cIt) xe] =
  some (if ckE ks cap l≠0 then bY (ckE ks cap l) else if 1024 < (x.length:Int) then bY 3 else if dB ks cap [] x≠0 then bY (dB ks cap [] x) else gZ (x.map (fre ks))):=by
 have hu:=Rz H [] true (by simp)
 obtain ⟨h',n',hd,hB⟩:=ahV H ks ke cap hr l e hl hs x xe hx hxl (x.length:Int) hb
 have hR:∃ R n,(if ckE ks cap l≠0 then bY (ckE ks cap l) else if 1024 < (x.length:Int) then bY 3 else if dB ks cap [] x≠0 then bY (dB ks cap [] x) else gZ (x.map (fre ks)))=.tup [.agg [.ro 6 R true],.int .i64 n]:=by
  unfold gZ bY
  repeat (first | exact ⟨_,_,rfl⟩ | split)
 obtain ⟨R,n,hR⟩:=hR
 rw [hR] at hd ⊢
 rw [aF H.f108 rfl]
 simp at hd hu
 simp (disch:=omega) [aef,aG,hu,hd,hB,H.inl,ay,H.pp,ppB]
def apL (ks:List Kd) (l:List En) (n:Nt):List En :=
 if n.k=1 then spl l n.a.toNat 0 (n.x.map (fre ks))
 else if n.k=2 then spl l n.a.toNat n.c.toNat []
 else if n.k=3 then spl (spl l n.a.toNat n.c.toNat []) n.t.toNat 0 ((l.take (n.a.toNat+n.c.toNat)).drop n.a.toNat)
 else if n.k=4 then spl l n.a.toNat n.x.length (n.x.map (fre ks))
 else n.x.map (fre ks)
def apF (ks:List Kd) (cap:Int) (l:List En) (n:Nt):Int :=
 if n.k=1 then (if inR n.a 0 l.length=false then 4 else if 1024 < (l.length:Int)+n.x.length then 3 else dB ks cap (bC l) n.x)
 else if n.k=2 then (if inR n.a n.c l.length=false then 4 else 0)
 else if n.k=3 then (if (inR n.a n.c l.length&&inR n.t 0 (l.length - n.c))=false then 4 else 0)
 else if n.k=4 then (if inR n.a n.x.length l.length=false then 4 else fB ks cap l n.a.toNat n.x)
 else (if 1024 < (n.x.length:Int) then 3 else dB ks cap [] n.x)
def apE (ks:List Kd) (cap:Int) (l:List En) (n:Nt):Int :=
 if ntE n≠0 then ntE n else if apF ks cap l n≠0 then apF ks cap l n else ovE (apL ks l n)
structure xK (ks:List Kd) (n:Nt):Prop where
 x:∀ y ∈ n.x,jq y
 l:n.x.length≤10000
 b:∀ y ∈ n.x,fC ks.length y=true→-9223372036854775808≤(dF ks y.t).b∧(dF ks y.t).b≤9223372036854775807
structure aaE (C:aI):Prop extends O8 C,uJ C
theorem IC:∀ (l:List En) (s:Int),o8 s (l.map En.own)=o8 s l
 | [],_=>rfl
 | e::r,s=>by
  have h:(En.own e).s=e.s:=rfl
  simp only [List.map_cons,o8,h,IC r]
theorem AZ (l:List En):ovE (l.map En.own)=ovE l:=by unfold ovE tot;rw [IC]
theorem TS (X:List En):gZ X=if ovE X≠0 then bY (ovE X) else .tup [aL (X.map En.own) true,.int .i64 0]:=by
 unfold gZ
 rw [AZ]
theorem acj (F:Int) (X:List En):(if F≠0 then bY F else gZ X)=if (if F≠0 then F else ovE X)≠0 then bY (if F≠0 then F else ovE X) else .tup [aL (X.map En.own) true,.int .i64 0]:=by
 rw [TS]
 by_cases h:F=0
 · rw [if_neg (by simp [h]),if_neg (c:=F≠0) (by simp [h])]
 · rw [if_pos h,if_pos (c:=F≠0) h,if_pos h]
theorem Vy (H:aaE C) (ks:List Kd) (ke:Bool) (cap:Int) (hr:kG ks) (l:List En) (e:Bool) (hl:l.length≤10000) (hs:∀ x ∈ l,dX x) (hc:ckE ks cap l=0) (n:Nt) (hn:xK ks n) :
 FnW C 343 [aR ks ke cap,aL l e,.agg (eNt n)]=some (if apE ks cap l n≠0 then bY (apE ks cap l n) else .tup [aL ((apL ks l n).map En.own) true,.int .i64 0]):=by
 have h0:FnW C 223 [aR ks ke cap,aL l e]=some (.int .i64 0):=by
  rw [lS H.touJ.toDt.toAd ks ke cap hr l e (by omega) hs,hc]
 by_cases hE:ntE n=0
 · have key:FnW C (ntF n) (aR ks ke cap::aL l e::ntA n)=some (if apE ks cap l n≠0 then bY (apE ks cap l n) else .tup [aL ((apL ks l n).map En.own) true,.int .i64 0]):=by
    have hr5:1≤n.k∧n.k≤5:=by
     unfold ntE at hE
     split at hE
     · cases hE
     · omega
    have hl2:=hn.l
    have hA:apE ks cap l n=if apF ks cap l n≠0 then apF ks cap l n else ovE (apL ks l n):=by unfold apE;rw [if_neg (by rw [hE];simp)]
    rw [hA,← acj]
    obtain ⟨k,a,c,t,x,xe⟩:=n
    simp only at hr5 hl2
    have hx:=hn.x
    have hb:=hn.b
    simp only at hx hb
    have h5:k=1∨k=2∨k=3∨k=4∨k=5:=by omega
    rcases h5 with rfl | rfl | rfl | rfl | rfl
    · have h:=XI H.touJ ks ke cap hr l e (by omega) hs a x xe hx (by omega) hb (by omega)
      rw [hc,if_neg (by simp)] at h
      have h1:ntF ⟨1,a,c,t,x,xe⟩=109:=rfl
      have h2:ntA ⟨1,a,c,t,x,xe⟩=[.int .i64 a,.ro 4 (x.map cIt) xe]:=rfl
      have h3:apL ks l ⟨1,a,c,t,x,xe⟩=spl l a.toNat 0 (x.map (fre ks)):=rfl
      have h4:apF ks cap l ⟨1,a,c,t,x,xe⟩=if inR a 0 l.length=false then 4 else if 1024 < (l.length:Int)+x.length then 3 else dB ks cap (bC l) x:=rfl
      rw [h1,h2,h3,h4,h]
      by_cases c1:inR a 0 l.length=false
      · rw [if_pos c1,if_pos c1];rfl
      · rw [if_neg c1,if_neg c1]
        by_cases c2:1024 < (l.length:Int)+x.length
        · rw [if_pos c2,if_pos c2];rfl
        · rw [if_neg c2,if_neg c2]
    · have h:=Il H.touJ.toDt ks ke cap hr l e (by omega) hs a c
      rw [hc,if_neg (by simp)] at h
      have h1:ntF ⟨2,a,c,t,x,xe⟩=110:=rfl
      have h2:ntA ⟨2,a,c,t,x,xe⟩=[.int .i64 a,.int .i64 c]:=rfl
      have h3:apL ks l ⟨2,a,c,t,x,xe⟩=spl l a.toNat c.toNat []:=rfl
      have h4:apF ks cap l ⟨2,a,c,t,x,xe⟩=if inR a c l.length=false then 4 else 0:=rfl
      rw [h1,h2,h3,h4,h]
      by_cases c1:inR a c l.length=false
      · rw [if_pos c1,if_pos c1];rfl
      · rw [if_neg c1,if_neg c1];rfl
    · have h:=afH H.touJ.toDt ks ke cap hr l e (by omega) hs a c t
      rw [hc,if_neg (by simp)] at h
      have h1:ntF ⟨3,a,c,t,x,xe⟩=237:=rfl
      have h2:ntA ⟨3,a,c,t,x,xe⟩=[.int .i64 a,.int .i64 c,.int .i64 t]:=rfl
      have h3:apL ks l ⟨3,a,c,t,x,xe⟩=spl (spl l a.toNat c.toNat []) t.toNat 0 ((l.take (a.toNat+c.toNat)).drop a.toNat):=rfl
      have h4:apF ks cap l ⟨3,a,c,t,x,xe⟩=if (inR a c l.length&&inR t 0 (l.length - c))=false then 4 else 0:=rfl
      rw [h1,h2,h3,h4,h]
      by_cases c1:(inR a c l.length&&inR t 0 (l.length - c))=false
      · rw [if_pos c1,if_pos c1];rfl
      · rw [if_neg c1,if_neg c1];rfl
    · have h:=Vz H.touJ.toDt ks ke cap hr l e (by omega) hs a x xe (by omega) hx hb
      rw [hc,if_neg (by simp)] at h
      have h1:ntF ⟨4,a,c,t,x,xe⟩=114:=rfl
      have h2:ntA ⟨4,a,c,t,x,xe⟩=[.int .i64 a,.ro 4 (x.map cIt) xe]:=rfl
      have h3:apL ks l ⟨4,a,c,t,x,xe⟩=spl l a.toNat x.length (x.map (fre ks)):=rfl
      have h4:apF ks cap l ⟨4,a,c,t,x,xe⟩=if inR a x.length l.length=false then 4 else fB ks cap l a.toNat x:=rfl
      rw [h1,h2,h3,h4,h]
      by_cases c1:inR a x.length l.length=false
      · rw [if_pos c1,if_pos c1];rfl
      · rw [if_neg c1,if_neg c1]
    · have h:=ZG H.touJ ks ke cap hr l e (by omega) hs x xe hx (by omega) hb
      rw [hc,if_neg (by simp)] at h
      have h1:ntF ⟨5,a,c,t,x,xe⟩=108:=rfl
      have h2:ntA ⟨5,a,c,t,x,xe⟩=[.ro 4 (x.map cIt) xe]:=rfl
      have h3:apL ks l ⟨5,a,c,t,x,xe⟩=x.map (fre ks):=rfl
      have h4:apF ks cap l ⟨5,a,c,t,x,xe⟩=if 1024 < (x.length:Int) then 3 else dB ks cap [] x:=rfl
      rw [h1,h2,h3,h4,h]
      by_cases c1:1024 < (x.length:Int)
      · rw [if_pos c1,if_pos c1];rfl
      · rw [if_neg c1,if_neg c1]
   generalize apE ks cap l n=E at *
   by_cases hE2:E=0
   · subst hE2
     simp only [ne_eq,not_true_eq_false,if_false] at key ⊢
     exact Je H.toO8 ks ke cap l e n h0 hE _ _ _ key
   · rw [if_pos hE2] at key ⊢
     exact Je H.toO8 ks ke cap l e n h0 hE _ _ _ key
 · have hA:apE ks cap l n=ntE n:=by unfold apE;rw [if_pos hE]
   rw [hA,if_pos hE]
   exact NM H.toO8 ks ke cap l e n h0 hE
end Go.D
end
section
namespace Go.D
open Go Go.Pav Go.Pw P
theorem ZB {ks:List Kd} {cap:Int} {e:En} {b:Bool} (h:enE ks cap e b=0):b=false:=by
 cases b with
 | false=>rfl
 | true =>
  have h1:itE ks cap e.i true≠0:=by
   unfold itE
   split
   · simp
   · rw [if_pos rfl];simp
  unfold enE at h
  rw [if_pos h1] at h
  exact absurd h h1
theorem afG (ks:List Kd) (cap:Int):∀ (l:List En) (seen:List Int),chk ks cap seen l=0↔(∀ e ∈ l,enE ks cap e false=0∧e.i.k ∉ seen)∧(bC l).Nodup:=by
 intro l
 induction l with
 | nil=>intro seen;simp [chk,bC]
 | cons a r ih =>
  intro seen
  rw [chk]
  constructor
  · intro h
    split at h
    · rename_i hc;exact absurd h hc
    · rename_i hc
      have hc:enE ks cap a (seen.contains a.i.k)=0:=by simpa using hc
      have hf:=ZB hc
      rw [hf] at hc
      have hns:a.i.k ∉ seen:=by simpa using hf
      obtain ⟨q1,q2⟩:=(ih _).1 h
      refine ⟨?_,?_⟩
      · intro e he
        rcases List.mem_cons.1 he with rfl | he
        · exact ⟨hc,hns⟩
        · obtain ⟨p1,p2⟩:=q1 e he
          exact ⟨p1,fun hm=>p2 (by simp [hm])⟩
      · simp only [bC,List.map_cons,List.nodup_cons] at q2 ⊢
        refine ⟨?_,q2⟩
        intro hm
        obtain ⟨e,he,hk⟩:=List.mem_map.1 hm
        exact (q1 e he).2 (by simp [hk])
  · rintro ⟨q1,q2⟩
    obtain ⟨p1,p2⟩:=q1 a (List.mem_cons_self ..)
    have hf:seen.contains a.i.k=false:=by simpa using p2
    rw [hf,if_neg (by simp [p1])]
    rw [ih]
    simp only [bC,List.map_cons,List.nodup_cons] at q2 ⊢
    refine ⟨?_,q2.2⟩
    intro e he
    refine ⟨(q1 e (List.mem_cons_of_mem _ he)).1,?_⟩
    intro hm
    rcases List.mem_append.1 hm with hm | hm
    · exact (q1 e (List.mem_cons_of_mem _ he)).2 hm
    · simp only [List.mem_singleton] at hm
      exact q2.1 (List.mem_map.2 ⟨e,he,hm⟩)
theorem jA (ks:List Kd) (cap:Int) (l:List En):ckE ks cap l=0↔qI ks cap=true∧l.length≤1024∧(∀ e ∈ l,enE ks cap e false=0)∧(bC l).Nodup∧ovE l=0:=by
 have hi:=afG ks cap l []
 unfold ckE
 constructor
 · intro h
   split at h
   · cases h
   · rename_i h1
     split at h
     · cases h
     · rename_i h2
       split at h
       · rename_i h3;exact absurd h h3
       · rename_i h3
         have h3:chk ks cap [] l=0:=by simpa using h3
         obtain ⟨q1,q2⟩:=hi.1 h3
         exact ⟨by simpa using h1,by omega,fun e he=>(q1 e he).1,q2,h⟩
 · rintro ⟨h1,h2,h3,h4,h5⟩
   have h6:chk ks cap [] l=0:=hi.2 ⟨fun e he=>⟨h3 e he,by simp⟩,h4⟩
   rw [if_neg (by simp [h1]),if_neg (by omega),if_neg (by simp [h6]),h5]
theorem X7 {ks:List Kd} {cap:Int} {x:It} {b:Bool} (h:itE ks cap x b=0):b=false:=by
 cases b with
 | false=>rfl
 | true =>
  unfold itE at h
  split at h
  · simp at h
  · rw [if_pos rfl] at h;simp at h
theorem wV (ks:List Kd) (cap:Int):∀ (x:List It) (seen:List Int),dB ks cap seen x=0↔(∀ y ∈ x,itE ks cap y false=0∧y.k ∉ seen)∧(x.map fun y=>y.k).Nodup:=by
 intro x
 induction x with
 | nil=>intro seen;simp [dB]
 | cons a r ih =>
  intro seen
  rw [dB]
  constructor
  · intro h
    split at h
    · rename_i hc;exact absurd h hc
    · rename_i hc
      have hc:itE ks cap a (seen.contains a.k)=0:=by simpa using hc
      have hf:=X7 hc
      rw [hf] at hc
      have hns:a.k ∉ seen:=by simpa using hf
      obtain ⟨q1,q2⟩:=(ih _).1 h
      refine ⟨?_,?_⟩
      · intro e he
        rcases List.mem_cons.1 he with rfl | he
        · exact ⟨hc,hns⟩
        · obtain ⟨p1,p2⟩:=q1 e he
          exact ⟨p1,fun hm=>p2 (by simp [hm])⟩
      · simp only [List.map_cons,List.nodup_cons]
        refine ⟨?_,q2⟩
        intro hm
        obtain ⟨e,he,hk⟩:=List.mem_map.1 hm
        exact (q1 e he).2 (by simp [hk])
  · rintro ⟨q1,q2⟩
    obtain ⟨p1,p2⟩:=q1 a (List.mem_cons_self ..)
    have hf:seen.contains a.k=false:=by simpa using p2
    rw [hf,if_neg (by simp [p1])]
    rw [ih]
    simp only [List.map_cons,List.nodup_cons] at q2
    refine ⟨?_,q2.2⟩
    intro e he
    refine ⟨(q1 e (List.mem_cons_of_mem _ he)).1,?_⟩
    intro hm
    rcases List.mem_append.1 hm with hm | hm
    · exact (q1 e (List.mem_cons_of_mem _ he)).2 hm
    · simp only [List.mem_singleton] at hm
      exact q2.1 (List.mem_map.2 ⟨e,he,hm⟩)
theorem kW {α β:Type} (f:α→β) (l:List α) (a c:Nat) (x:List α):(spl l a c x).map f=spl (l.map f) a c (x.map f):=by
 unfold spl
 simp only [List.map_append,List.map_take,List.map_drop]
theorem Sz {ks:List Kd} {cap:Int} (hr:qI ks cap=true) {y:It} (hy:jq y) (h:itE ks cap y false=0):enE ks cap (fre ks y) false=0:=by
 have hb:hOk (dF ks y.t).b=true:=by
  have ht:y.t < ks.length:=by
   unfold itE at h
   split at h
   · simp at h
   · rename_i h1
     unfold fC at h1
     simp only [Bool.not_eq_false,Bool.and_eq_true,decide_eq_true_eq] at h1
     exact h1.1.1.2
  have ht0:=hy.t.1
  have hlt:y.t.toNat < ks.length:=by omega
  unfold qI at hr
  simp only [Bool.and_eq_true,List.all_eq_true] at hr
  have:=hr.2 ks[y.t.toNat] (List.getElem_mem hlt)
  unfold JV at this
  unfold dF
  rw [List.getElem?_eq_getElem hlt]
  simp only [Bool.and_eq_true] at this
  exact this.1
 unfold enE fre
 simp only
 rw [if_neg (by simp [h]),if_pos (by exact ⟨hb,by simp⟩)]
theorem acY {ks:List Kd} {cap:Int} {l m:List En} (hp:m.Perm l) (hc:ckE ks cap l=0) (ho:ovE m=0):ckE ks cap m=0:=by
 obtain ⟨h1,h2,h3,h4,_⟩:=(jA ks cap l).1 hc
 exact (jA ks cap m).2 ⟨h1,by rw [hp.length_eq];exact h2,fun e he=>h3 e (hp.mem_iff.1 he),(hp.map _).nodup_iff.2 h4,ho⟩
theorem ahZ {ks:List Kd} {cap:Int} {l m:List En} (hp:m.Sublist l) (hc:ckE ks cap l=0) (ho:ovE m=0):ckE ks cap m=0:=by
 obtain ⟨h1,h2,h3,h4,_⟩:=(jA ks cap l).1 hc
 exact (jA ks cap m).2 ⟨h1,Nat.le_trans hp.length_le h2,fun e he=>h3 e (hp.subset he),(hp.map _).nodup h4,ho⟩
theorem Ji {α:Type} (l:List α) (a c:Nat):(spl l a c []).Sublist l:=by
 unfold spl
 rw [List.append_nil]
 have h:(l.take a++l.drop (a+c)).Sublist (l.take a++l.drop a):=by
  refine (List.Sublist.refl _).append ?_
  rw [← List.drop_drop]
  exact List.drop_sublist _ _
 rwa [List.take_append_drop] at h
theorem Gv {α:Type} (l:List α) (a:Nat) (x:List α):(spl l a 0 x).Perm (x++l):=by
 unfold spl
 rw [Nat.add_zero]
 have h1:(l.take a++x++l.drop a).Perm (x++l.take a++l.drop a):=(List.perm_append_comm).append_right _
 rwa [List.append_assoc x,List.take_append_drop] at h1
theorem Hf {α:Type} (l:List α) (a c t:Nat):(spl (spl l a c []) t 0 ((l.take (a+c)).drop a)).Perm l:=by
 refine (Gv _ _ _).trans ?_
 unfold spl
 rw [List.append_nil]
 have h1:((l.take (a+c)).drop a++(l.take a++l.drop (a+c))).Perm (l.take a++(l.take (a+c)).drop a++l.drop (a+c)):=by
  rw [← List.append_assoc]
  exact (List.perm_append_comm).append_right _
 refine h1.trans ?_
 have h2:l.take a=(l.take (a+c)).take a:=by rw [List.take_take,Nat.min_eq_left (by omega)]
 rw [h2,List.take_append_drop,List.take_append_drop]
theorem ahx {ks:List Kd} {cap:Int} {l:List En} (hc:ckE ks cap l=0) (a:Nat) {x:List It} (hx:∀ y ∈ x,jq y) (hl:(l.length:Int)+x.length≤1024) (hi:dB ks cap (bC l) x=0) (ho:ovE (spl l a 0 (x.map (fre ks)))=0) :
 ckE ks cap (spl l a 0 (x.map (fre ks)))=0:=by
 obtain ⟨h1,h2,h3,h4,_⟩:=(jA ks cap l).1 hc
 obtain ⟨q1,q2⟩:=(wV ks cap x _).1 hi
 have hp:=Gv l a (x.map (fre ks))
 refine (jA _ _ _).2 ⟨h1,?_,?_,?_,ho⟩
 · rw [hp.length_eq];simp;omega
 · intro e he
   rcases List.mem_append.1 (hp.mem_iff.1 he) with he | he
   · obtain ⟨y,hy,rfl⟩:=List.mem_map.1 he
     exact Sz h1 (hx y hy) (q1 y hy).1
   · exact h3 e he
 · refine (hp.map _).nodup_iff.2 ?_
   rw [List.map_append,List.nodup_append]
   have hk:(x.map (fre ks)).map (fun e=>e.i.k)=x.map fun y=>y.k:=by
    rw [List.map_map];rfl
   refine ⟨by rw [hk];exact q2,h4,?_⟩
   rw [hk]
   intro u hu v hv huv
   subst huv
   obtain ⟨y,hy,rfl⟩:=List.mem_map.1 hu
   exact (q1 y hy).2 hv
theorem ah5 {ks:List Kd} {cap:Int} (hr:qI ks cap=true) {x:List It} (hx:∀ y ∈ x,jq y) (hl:(x.length:Int)≤1024) (hi:dB ks cap [] x=0) (ho:ovE (x.map (fre ks))=0):ckE ks cap (x.map (fre ks))=0:=by
 obtain ⟨q1,q2⟩:=(wV ks cap x _).1 hi
 refine (jA _ _ _).2 ⟨hr,by simp;omega,?_,?_,ho⟩
 · intro e he
   obtain ⟨y,hy,rfl⟩:=List.mem_map.1 he
   exact Sz hr (hx y hy) (q1 y hy).1
 · have hk:bC (x.map (fre ks))=x.map fun y=>y.k:=by unfold bC;rw [List.map_map];rfl
   rw [hk];exact q2
theorem abb (ks:List Kd) (cap:Int) (l:List En):∀ (x:List It) (j:Nat),j+x.length≤l.length→fB ks cap l j x=0→(∀ y ∈ x,itE ks cap y false=0)∧(x.map fun y=>y.k)=((bC l).drop j).take x.length:=by
 intro x
 induction x with
 | nil=>intro j _ _;simp
 | cons a r ih =>
  intro j hj h
  rw [fB] at h
  simp only [List.length_cons] at hj
  split at h
  · simp at h
  · rename_i h1
    split at h
    · simp at h
    · rename_i h2
      split at h
      · rename_i h3;exact absurd h h3
      · rename_i h3
        obtain ⟨q1,q2⟩:=ih (j+1) (by omega) h
        have h2:keyAt l j=a.k:=by simpa using h2
        have h3:gG (dF ks a.t).p a cap=0:=by simpa using h3
        refine ⟨?_,?_⟩
        · intro y hy
          rcases List.mem_cons.1 hy with rfl | hy
          · unfold itE
            rw [if_neg h1,if_neg (by simp),if_pos h3]
          · exact q1 y hy
        · have hlt:j < (bC l).length:=by unfold bC;simp;omega
          rw [List.drop_eq_getElem_cons hlt,List.length_cons,List.take_succ_cons,List.map_cons,q2]
          congr 1
          rw [← h2]
          unfold keyAt bC
          rw [List.getElem?_eq_getElem (by omega)]
          simp
theorem ag7 {ks:List Kd} {cap:Int} {l:List En} (hc:ckE ks cap l=0) (a:Nat) {x:List It} (hx:∀ y ∈ x,jq y) (hl:a+x.length≤l.length) (hi:fB ks cap l a x=0) (ho:ovE (spl l a x.length (x.map (fre ks)))=0) :
 ckE ks cap (spl l a x.length (x.map (fre ks)))=0:=by
 obtain ⟨h1,h2,h3,h4,_⟩:=(jA ks cap l).1 hc
 obtain ⟨q1,q2⟩:=abb ks cap l x a hl hi
 refine (jA _ _ _).2 ⟨h1,?_,?_,?_,ho⟩
 · unfold spl;simp;omega
 · intro e he
   unfold spl at he
   rcases List.mem_append.1 he with he | he
   · rcases List.mem_append.1 he with he | he
     · exact h3 e (List.mem_of_mem_take he)
     · obtain ⟨y,hy,rfl⟩:=List.mem_map.1 he
       exact Sz h1 (hx y hy) (q1 y hy)
   · exact h3 e (List.mem_of_mem_drop he)
 · have hk:bC (spl l a x.length (x.map (fre ks)))=bC l:=by
    have hm:(x.map (fre ks)).map (fun e=>e.i.k)=x.map fun y=>y.k:=by rw [List.map_map];rfl
    unfold bC at q2 ⊢
    rw [kW,hm,q2]
    unfold spl
    rw [← List.drop_drop,List.append_assoc,List.take_append_drop,List.take_append_drop]
   rw [hk];exact h4
theorem UY {a c n:Int} (h:inR a c n=true):0≤a∧0≤c∧a+c≤n:=by
 unfold inR at h
 simp only [Bool.and_eq_true,decide_eq_true_eq] at h
 omega
theorem Zh {ks:List Kd} {cap:Int} {l:List En} {n:Nt} (hn:xK ks n) (hc:ckE ks cap l=0) (h:apE ks cap l n=0):ckE ks cap (apL ks l n)=0:=by
 unfold apE at h
 split at h
 · rename_i h1;exact absurd h h1
 · rename_i hE
   split at h
   · rename_i h1;exact absurd h h1
   · rename_i hF
     have hF:apF ks cap l n=0:=by simpa using hF
     have hx:=hn.x
     unfold apF at hF
     unfold apL at h ⊢
     split at hF
     · rename_i hk
       rw [if_pos hk] at h ⊢
       split at hF
       · simp at hF
       · split at hF
         · simp at hF
         · exact ahx hc _ hx (by omega) hF h
     · rename_i hk
       rw [if_neg hk] at h ⊢
       split at hF
       · rename_i hk;rw [if_pos hk] at h ⊢;exact ahZ (Ji _ _ _) hc h
       · rename_i hk
         rw [if_neg hk] at h ⊢
         split at hF
         · rename_i hk;rw [if_pos hk] at h ⊢;exact acY (Hf _ _ _ _) hc h
         · rename_i hk
           rw [if_neg hk] at h ⊢
           split at hF
           · rename_i hk
             rw [if_pos hk] at h ⊢
             split at hF
             · simp at hF
             · rename_i hi
               have:=UY (by simpa using hi)
               exact ag7 hc _ hx (by omega) hF h
           · rename_i hk
             rw [if_neg hk] at h ⊢
             split at hF
             · simp at hF
             · exact ah5 (QD hc) hx (by omega) hF h
end Go.D
end
section
namespace Go.D
open Go Go.Pav Go.Pw P
attribute [-simp] List.getElem_cons_drop
variable {C:aI}
def GH {α:Type} (a:Nat) (X:List α):Nat→List α→List α
 | i,[]=>if i=a then X else []
 | i,e::r=>(if i=a then X else [])++e::GH a X (i+1) r
theorem U4 {α:Type} (a:Nat) (X:List α):∀ (l:List α) (i:Nat),a < i→GH a X i l=l
 | [],i,h=>by rw [GH,if_neg (by omega)]
 | e::r,i,h=>by rw [GH,if_neg (by omega),U4 a X r (i+1) (by omega)];rfl
theorem U8 {α:Type} (a:Nat) (X:List α):∀ (l:List α) (i:Nat),i≤a→a≤i+l.length→GH a X i l=l.take (a - i)++X++l.drop (a - i)
 | [],i,h,h2=>by
  simp at h2;obtain rfl:i=a:=by omega
  simp [GH]
 | e::r,i,h,h2=>by
  rw [GH]
  by_cases c:i=a
  · rw [if_pos c,U4 a X r (i+1) (by omega),show a - i=0 by omega];simp
  · simp at h2
    rw [if_neg c,U8 a X r (i+1) (by omega) (by omega),show a - i=(a - (i+1))+1 by omega];simp
theorem Ou {α:Type} (a:Nat) (X:List α) (l:List α) (h:a≤l.length):GH a X 0 l=spl l a 0 X:=by
 rw [U8 a X l 0 (by omega) (by omega)];unfold spl;simp
structure Hl (C:aI):Prop extends aaE C where
 akq:C.fns.get 461=some Ol
 aki:C.fns.get 463=some afl
theorem adM (H:Hl C) (ks:List Kd) (ke:Bool) (cap:Int) (l:List En) (le:Bool) (x:List It) (xe:Bool) (hxl:x.length≤1024) (hx:∀ y ∈ x,jq y)
 (hf:∀ y ∈ x,FnW C 240 [aR ks ke cap,eIt y]=some (aE (fre ks y))) (a i:Int) (R:Option AV):∀ n j,n+j=x.length→∀ G:List En,G.length+n≤3000 →
 (CK C 0 (aP [.tmp 8,.tmp 9]) [.bk 1 ⟨true,[11,10,4,3,2,1],[]⟩,.sq pG,.sq wS,.bk 0 ⟨true,[10],[]⟩,.sq mg] pU
  ⟨[(11,.int .i64 i),(10,.sl 0 6 0 (G.length+n) (G.length+n) false),(4,.ptr 1 0 0),(3,.ro 4 (x.map cIt) xe),(2,.int .i64 a),(1,.ro 6 (l.map eEn) le)],[(0,.cells 6 ((G++(x.drop j).map (fre ks)).map eEn) true true),(1,.cells 2 [[.ro 9 (ks.map eKd) ke,.int .i64 cap]] true true)],2⟩=R) →
 DJ C ⟨[(12,.int .i64 j),(11,.int .i64 i),(10,.sl 0 6 0 G.length G.length false),(4,.ptr 1 0 0),(3,.ro 4 (x.map cIt) xe),(2,.int .i64 a),(1,.ro 6 (l.map eEn) le)],[(0,.cells 6 (G.map eEn) true true),(1,.cells 2 [[.ro 9 (ks.map eKd) ke,.int .i64 cap]] true true)],2⟩=R:=by
 intro n
 induction n with
 | zero =>
  intro j hj G hG hR
  have h1:x.drop j=[]:=List.drop_eq_nil_of_le (by omega)
  have h3:¬ j < x.length:=by omega
  rw [h1] at hR
  simp only [DJ];rw [aj yF.eq_1]
  simp at hR
  simp (disch:=omega) [h3,hR]
 | succ n ih =>
  intro j hj G hG hR
  have h1:j < x.length:=by omega
  have hfit:(G.length+1) * 73≤35184372088832:=by omega
  have hj2:=hf x[j] (List.getElem_mem h1)
  rw [drop_cons h1] at hR
  have this:=ih (j+1) (by omega) (G++[fre ks x[j]]) (by simp;omega) (by
   have e1:(G++[fre ks x[j]]).length+n=G.length+(n+1):=by simp;omega
   rw [e1,List.append_assoc]
   exact hR)
  simp only [DJ] at this ⊢;rw [aj yF.eq_1]
  try simp [fre] at this
  try simp only [aE,eEn,eIt,fre] at hj2
  simp (disch:=omega) [h1,hj2,hfit,aG,H.inl,ay,H.pp,ppB,this]
def rfO (o:List En):AV:=if ovE o≠0 then .tup [.ro 6 [] true,.int .i64 13] else .tup [.ro 6 (o.map eEn) false,.int .i64 0]
def rest (a:Nat) (X l:List En) (i:Nat):List En:=if i≤l.length then GH a X i (l.drop i) else []
theorem ZX (H:Hl C) (o:List En) (hs:∀ x ∈ o,dX x) (hl:o.length≤3000) (h:aJ) :
 CK C 0 (aP [.tmp 8,.tmp 9]) [] mg ⟨[(10,.sl 0 6 0 o.length o.length false)],[(0,.cells 6 (o.map eEn) true true)],1⟩=some (rfO o):=by
 have hv:=Ov H.touJ.toDt.toAd.tojU o false (by omega) hs
 have h13:ovE o=0∨ovE o=13:=by unfold ovE;split <;> simp
 unfold rfO
 rcases h13 with h0 | h0
 · rw [h0] at hv
   rw [h0,if_neg (by simp)]
   cases o with
   | nil=>simp at hv;simp [aj mg.eq_1,hv,H.inl,ay,H.pp,ppB]
   | cons g G=>simp at hv;simp (disch:=(first | omega | (simp;done) | (simp;omega))) [aj mg.eq_1,hv,List.take_of_length_le,H.inl,ay,H.pp,ppB]
 · rw [h0] at hv
   rw [h0,if_pos (by simp)]
   cases o with
   | nil=>simp at hv;simp [aj mg.eq_1,hv,H.inl,ay,H.pp,ppB]
   | cons g G=>simp at hv;simp (disch:=(first | omega | (simp;done) | (simp;omega))) [aj mg.eq_1,hv,List.take_of_length_le,H.inl,ay,H.pp,ppB]
theorem WU (H:Hl C) (ks:List Kd) (ke:Bool) (cap:Int) (l:List En) (le:Bool) (hll:l.length≤1024) (x:List It) (xe:Bool) (hxl:x.length≤1024) (hx:∀ y ∈ x,jq y)
 (hf:∀ y ∈ x,FnW C 240 [aR ks ke cap,eIt y]=some (aE (fre ks y))) (a:Nat):∀ n i,n+i=l.length+1→∀ G:List En,G.length+n+(if i≤a then x.length else 0)≤2900 →
 (∀ e ∈ G++rest a (x.map (fre ks)) l i,dX e) →
 qc C ⟨[(11,.int .i64 i),(10,.sl 0 6 0 G.length G.length false),(4,.ptr 1 0 0),(3,.ro 4 (x.map cIt) xe),(2,.int .i64 a),(1,.ro 6 (l.map eEn) le)],[(0,.cells 6 (G.map eEn) true true),(1,.cells 2 [[.ro 9 (ks.map eKd) ke,.int .i64 cap]] true true)],2⟩ =
  some (rfO (G++rest a (x.map (fre ks)) l i)):=by
 intro n
 induction n with
 | zero =>
  intro i hi G hG hs
  have h3:¬ i≤l.length:=by omega
  have hr:rest a (x.map (fre ks)) l i=[]:=by unfold rest;rw [if_neg h3]
  rw [hr,List.append_nil] at hs ⊢
  have he:=ZX H G hs (by omega) []
  simp only [qc];rw [aj tJ.eq_1]
  simp (disch:=omega) [h3,he]
 | succ n ih =>
  intro i hi G hG hs
  have h1:i≤l.length:=by omega
  have tail:∀ G':List En,G'.length+(n+1)+(if i+1≤a then x.length else 0)≤2900→(∀ e ∈ G'++((l.drop i).take 1++rest a (x.map (fre ks)) l (i+1)),dX e) →
   CK C 0 (aP [.tmp 8,.tmp 9]) [.bk 1 ⟨true,[11,10,4,3,2,1],[]⟩,.sq pG,.sq wS,.bk 0 ⟨true,[10],[]⟩,.sq mg] pU
    ⟨[(11,.int .i64 i),(10,.sl 0 6 0 G'.length G'.length false),(4,.ptr 1 0 0),(3,.ro 4 (x.map cIt) xe),(2,.int .i64 a),(1,.ro 6 (l.map eEn) le)],[(0,.cells 6 (G'.map eEn) true true),(1,.cells 2 [[.ro 9 (ks.map eKd) ke,.int .i64 cap]] true true)],2⟩ =
   some (rfO (G'++((l.drop i).take 1++rest a (x.map (fre ks)) l (i+1)))):=by
   intro G' hG' hs'
   have hfit:(G'.length+1) * 73≤35184372088832:=by omega
   by_cases c:i < l.length
   · have hd:(l.drop i).take 1=[l[i]]:=by rw [drop_cons c];rfl
     rw [hd] at hs' ⊢
     have this:=ih (i+1) (by omega) (G'++[l[i]]) (by simp;omega) (by rw [List.append_assoc];exact hs')
     rw [List.append_assoc] at this
     generalize rfO (G'++([l[i]]++rest a (x.map (fre ks)) l (i+1)))=Q at *
     simp only [qc] at this
     rw [aj pU.eq_1]
     simp at this
     simp (disch:=omega) [aj pG.eq_1,c,hfit,aG,this]
   · have hd:(l.drop i).take 1=[]:=by rw [List.drop_eq_nil_of_le (by omega)];rfl
     rw [hd,List.nil_append] at hs' ⊢
     have this:=ih (i+1) (by omega) G' (by omega) hs'
     generalize rfO (G'++rest a (x.map (fre ks)) l (i+1))=Q at *
     simp only [qc] at this
     rw [aj pU.eq_1]
     simp at this
     simp (disch:=omega) [aj pG.eq_1,c,hfit,aG,this]
  have hrest:rest a (x.map (fre ks)) l i=(if i=a then x.map (fre ks) else [])++((l.drop i).take 1++rest a (x.map (fre ks)) l (i+1)):=by
   unfold rest
   rw [if_pos h1]
   by_cases c:i < l.length
   · have c2:i+1≤l.length:=by omega
     rw [if_pos c2,drop_cons c,GH];rfl
   · have c2:¬ i+1≤l.length:=by omega
     rw [if_neg c2,List.drop_eq_nil_of_le (by omega),GH];simp
  rw [hrest] at hs ⊢
  by_cases c:i=a
  · subst c
    rw [if_pos rfl] at hs ⊢
    rw [if_pos (Nat.le_refl _)] at hG
    have ht:=tail (G++x.map (fre ks)) (by rw [if_neg (by omega)];simp;omega) (by rw [List.append_assoc];exact hs)
    rw [List.append_assoc] at ht
    generalize rfO (G++(x.map (fre ks)++((l.drop i).take 1++rest i (x.map (fre ks)) l (i+1))))=Q at *
    have this:=adM H ks ke cap l le x xe hxl hx hf i i (some Q) x.length 0 (by simp) G (by omega) (by
     rw [List.drop_zero]
     have e1:(G++x.map (fre ks)).length=G.length+x.length:=by simp
     rw [← e1]
     exact ht)
    simp only [DJ] at this
    simp only [qc];rw [aj tJ.eq_1]
    simp at this
    simp (disch:=omega) [h1,aG,this]
  · rw [if_neg c,List.nil_append] at hs ⊢
    have c':¬ (i:Int)=a:=by omega
    have hfit:(G.length+1) * 73≤35184372088832:=by split at hG <;> omega
    by_cases d:i < l.length
    · have hd:(l.drop i).take 1=[l[i]]:=by rw [drop_cons d];rfl
      rw [hd] at hs ⊢
      have this:=ih (i+1) (by omega) (G++[l[i]]) (by simp;split <;> split at hG <;> omega) (by rw [List.append_assoc];exact hs)
      rw [List.append_assoc] at this
      generalize rfO (G++([l[i]]++rest a (x.map (fre ks)) l (i+1)))=Q at *
      simp only [qc] at this ⊢;rw [aj tJ.eq_1]
      simp at this
      simp (disch:=omega) [aj pU.eq_1,aj pG.eq_1,h1,c,c',d,hfit,aG,this]
    · have hd:(l.drop i).take 1=[]:=by rw [List.drop_eq_nil_of_le (by omega)];rfl
      rw [hd,List.nil_append] at hs ⊢
      have this:=ih (i+1) (by omega) G (by split <;> split at hG <;> omega) hs
      generalize rfO (G++rest a (x.map (fre ks)) l (i+1))=Q at *
      simp only [qc] at this ⊢;rw [aj tJ.eq_1]
      simp at this
      simp (disch:=omega) [aj pU.eq_1,aj pG.eq_1,h1,c,c',d,hfit,aG,this]
theorem ahR (a:Int) (n:Int):inR a 0 n=false↔a < 0∨n < a:=by
 unfold inR
 by_cases h1:0≤a <;> by_cases h2:a≤n <;> simp [h1,h2] <;> omega
theorem Zo (ks:List Kd) (cap:Int):∀ (x:List It) (seen:List Int),0≤dB ks cap seen x
 | [],_=>by simp [dB]
 | a::r,seen=>by
  rw [dB]
  have h:0≤itE ks cap a (seen.contains a.k):=by
   unfold itE
   split
   · simp
   · split
     · simp
     · split <;> simp
  split
  · exact h
  · exact Zo ks cap r _
theorem aez (H:Hl C) (ks:List Kd) (ke:Bool) (cap:Int) (l:List En) (le:Bool) (hll:l.length≤1024) (hs:∀ e ∈ l,dX e) (a:Int) (x:List It) (xe:Bool) (hx:∀ y ∈ x,jq y) (hxl:x.length≤10000)
 (hi:FnW C 532 [aR ks ke cap,.ro 6 (l.map eEn) le,.ro 4 (x.map cIt) xe]=some (.int .i64 (dB ks cap (bC l) x)))
 (hf:dB ks cap (bC l) x=0→∀ y ∈ x,FnW C 240 [aR ks ke cap,eIt y]=some (aE (fre ks y)))
 (hfe:dB ks cap (bC l) x=0→∀ y ∈ x,dX (fre ks y)) :
 FnW C 461 [aR ks ke cap,.ro 6 (l.map eEn) le,.int .i64 a,.ro 4 (x.map cIt) xe] =
  some (if inR a 0 l.length=false then .tup [.ro 6 [] true,.int .i64 4] else if 1024 < (l.length:Int)+x.length then .tup [.ro 6 [] true,.int .i64 3] else if dB ks cap (bC l) x≠0 then .tup [.ro 6 [] true,.int .i64 (dB ks cap (bC l) x)] else rfO (spl l a.toNat 0 (x.map (fre ks)))):=by
 rw [aF H.akq rfl]
 by_cases c1:a < 0
 · rw [if_pos ((ahR _ _).2 (.inl c1))]
   simp (disch:=omega) [Ol,c1,aG,H.inl,ay,H.pp,ppB]
 · by_cases c2:(l.length:Int) < a
   · rw [if_pos ((ahR _ _).2 (.inr c2))]
     simp (disch:=omega) [Ol,c1,c2,aG,H.inl,ay,H.pp,ppB]
   · rw [if_neg (fun h=>by have:=(ahR _ _).1 h;omega)]
     by_cases c3:1024 < (l.length:Int)+x.length
     · rw [if_pos c3]
       simp (disch:=omega) [Ol,c1,c2,c3,aG,H.inl,ay,H.pp,ppB]
     · rw [if_neg c3]
       have hnn:=Zo ks cap x (bC l)
       by_cases c4:dB ks cap (bC l) x=0
       · rw [if_neg (by simp [c4])]
         rw [c4] at hi
         obtain ⟨b,rfl⟩:∃ b:Nat,a=b:=⟨a.toNat,by omega⟩
         have h:=WU H ks ke cap l le hll x xe (by omega) hx (hf c4) b (l.length+1) 0 (by simp) [] (by simp;omega) (by
          intro e he
          rw [List.nil_append] at he
          unfold rest at he
          rw [if_pos (by omega),List.drop_zero,Ou _ _ _ (by omega)] at he
          rcases List.mem_append.1 ((Gv _ _ _).mem_iff.1 he) with he | he
          · obtain ⟨y,hy,rfl⟩:=List.mem_map.1 he
            exact hfe c4 y hy
          · exact hs e he)
         unfold rest at h
         rw [List.nil_append,if_pos (by omega),List.drop_zero,Ou _ _ _ (by omega)] at h
         rw [Int.toNat_natCast]
         generalize rfO (spl l b 0 (x.map (fre ks)))=Q at *
         simp only [qc] at h
         simp at h
         simp (disch:=omega) [Ol,c1,c2,c3,hi,aG,H.inl,ay,H.pp,ppB,h]
       · rw [if_pos c4]
         have c5:0 < dB ks cap (bC l) x:=by omega
         generalize dB ks cap (bC l) x=E at *
         simp (disch:=omega) [Ol,c1,c2,c3,hi,c4,c5,aG,H.inl,ay,H.pp,ppB]
theorem aj2 {ks:List Kd} {cap:Int} {y:It} (h:itE ks cap y false=0):y.t < ks.length:=by
 unfold itE at h
 split at h
 · simp at h
 · rename_i h1
   unfold fC at h1
   simp only [Bool.not_eq_false,Bool.and_eq_true,decide_eq_true_eq] at h1
   exact h1.1.1.2
theorem Fq {ks:List Kd} {cap:Int} {y:It} (h:itE ks cap y false=0):fC ks.length y=true:=by
 unfold itE at h
 split at h
 · simp at h
 · rename_i h1;simpa using h1
theorem PZ (H:Hl C) (ks:List Kd) (ke:Bool) (cap:Int) (hr:kG ks) (l:List En) (le:Bool) (hll:l.length≤1024) (hs:∀ e ∈ l,dX e) (n:Nt) (hn:xK ks n) :
 FnW C 461 [aR ks ke cap,.ro 6 (l.map eEn) le,.int .i64 n.a,.ro 4 (n.x.map cIt) n.e] =
  some (if inR n.a 0 l.length=false then .tup [.ro 6 [] true,.int .i64 4] else if 1024 < (l.length:Int)+n.x.length then .tup [.ro 6 [] true,.int .i64 3] else if dB ks cap (bC l) n.x≠0 then .tup [.ro 6 [] true,.int .i64 (dB ks cap (bC l) n.x)] else rfO (spl l n.a.toNat 0 (n.x.map (fre ks)))):=by
 have hl2:=hn.l
 refine aez H ks ke cap l le hll hs n.a n.x n.e hn.x hn.l (N9 H.touJ.toDt.toAd ks ke cap hr l le (by omega) n.x n.e (by omega) hn.x) (fun hz y hy=>?_) (fun hz y hy=>?_)
 · have hi:=((wV ks cap n.x _).1 hz).1 y hy
   exact wo H.touJ.toDt.toAd ks ke cap y (hn.x y hy) (aj2 hi.1)
 · have hi:=((wV ks cap n.x _).1 hz).1 y hy
   exact ⟨hn.x y hy,hn.b y hy (Fq hi.1)⟩
theorem aej (H:Hl C) (ks:List Kd) (ke:Bool) (cap:Int) (hr:kG ks) (n:Nt) (hn:xK ks n) :
 FnW C 463 [aR ks ke cap,.ro 4 (n.x.map cIt) n.e] =
  some (if 1024 < (n.x.length:Int) then .tup [.ro 6 [] true,.int .i64 3] else if dB ks cap [] n.x≠0 then .tup [.ro 6 [] true,.int .i64 (dB ks cap [] n.x)] else rfO (n.x.map (fre ks))):=by
 have h:=PZ H ks ke cap hr [] true (by simp) (by simp) { n with a:=0 } ⟨hn.x,hn.l,hn.b⟩
 have e1:inR 0 0 (([]:List En).length:Int)=true:=by decide
 have e2:bC ([]:List En)=[]:=rfl
 have e3:∀ X:List En,spl [] (0:Int).toNat 0 X=X:=by intro X;simp [spl]
 simp only [e1,e2,e3,List.map_nil,List.length_nil,Int.natCast_zero,Int.zero_add] at h
 rw [if_neg (by decide)] at h
 have hQ:∃ L f E,(if 1024 < (n.x.length:Int) then AV.tup [.ro 6 [] true,.int .i64 3] else if dB ks cap [] n.x≠0 then .tup [.ro 6 [] true,.int .i64 (dB ks cap [] n.x)] else rfO (n.x.map (fre ks)))=.tup [.ro 6 L f,.int .i64 E]:=by
  unfold rfO
  repeat' split
  all_goals exact ⟨_,_,_,rfl⟩
 obtain ⟨L,f,E,hQ⟩:=hQ
 rw [hQ] at h ⊢
 rw [aF H.aki rfl]
 simp (disch:=omega) [afl,h,aG,H.inl,ay,H.pp,ppB]
structure aov (C:aI):Prop extends uS C
theorem aeN {n:Int} {x:It} (h:fC n x=true):oM x=true:=by
 unfold fC at h;unfold oM;simp at h ⊢;exact ⟨⟨h.1.1.1,h.1.2⟩,h.2⟩
theorem ajk {ks:List Kd} {cap:Int} (h:qI ks cap=true) {x:It} (hx:fC ks.length x=true) (ht:0≤x.t):gG (dF ks x.t).p x cap=0∨gG (dF ks x.t).p x cap=14:=by
 have h2:=aeN hx
 have h3:=mY hx
 unfold qI at h
 simp only [Bool.and_eq_true,decide_eq_true_eq] at h
 unfold gG
 rw [if_neg (by omega)]
 split
 · exact .inr rfl
 · rw [if_neg (by simp [h2])]
   split
   · exact .inr rfl
   · exact .inl rfl
structure aei (C:aI):Prop extends aov C where
 akN:C.fns.get 462=some abh
def JK (o:List En):AV:=if ovE o≠0 then .tup [.ro 6 [] true,.int .i64 (ovE o)] else .tup [.ro 6 (o.map eEn) false,.int .i64 0]
theorem abe {α:Type} (G:List α) (j n:Nat) (y:α) (ys:List α) (h:j < G.length):spl G j (n+1) (y::ys)=spl (G.set j y) (j+1) n ys:=by
 unfold spl
 have h1:(G.set j y).take (j+1)=G.take j++[y]:=by
  rw [List.take_add_one,List.take_set_of_le (by omega),List.getElem?_set_self h];rfl
 have h2:(G.set j y).drop (j+1+n)=G.drop (j+(n+1)):=by
  rw [List.drop_set_of_lt (by omega)];congr 1;omega
 rw [h1,h2];simp
theorem ZH {α:Type} (G:List α) (j:Nat):spl G j 0 []=G:=by unfold spl;simp
theorem Zx (H:aei C) (ks:List Kd) (ke:Bool) (cap:Int) (hr:kG ks) (hok:qI ks cap=true) (l:List En) (e:Bool) (hl:l.length≤10000) (hs:∀ x ∈ l,dX x) (a:Nat) (x:List It) (xe:Bool) (hx:∀ y ∈ x,jq y) (hxl:a+x.length≤l.length)
 (hb:∀ y ∈ x,fC ks.length y=true→-9223372036854775808≤(dF ks y.t).b∧(dF ks y.t).b≤9223372036854775807):∀ n i,n+i=x.length→∀ G:List En,G.length=l.length→(∀ y ∈ G,dX y) →
 sU C ⟨[(12,.int .i64 i),(10,.sl 0 6 0 l.length l.length false),(4,.ptr 1 0 0),(3,.ro 4 (x.map cIt) xe),(2,.int .i64 a),(1,.ro 6 (l.map eEn) e)],[(0,.cells 6 (G.map eEn) true true),(1,.cells 2 [[.ro 9 (ks.map eKd) ke,.int .i64 cap]] true true)],2⟩ =
  some (if fB ks cap l (a+i) (x.drop i)≠0 then .tup [.ro 6 [] true,.int .i64 (fB ks cap l (a+i) (x.drop i))] else JK (spl G (a+i) n ((x.drop i).map (fre ks)))):=by
 intro n
 induction n with
 | zero =>
  intro i hi G hG hGi
  have h1:x.drop i=[]:=List.drop_eq_nil_of_le (by omega)
  have h3:¬ i < x.length:=by omega
  have h6:List.take l.length (List.map eEn G)=List.map eEn G:=List.take_of_length_le (by simp;omega)
  have ho:=Ov H.tojU G false (by omega) hGi
  rw [h1,fB,if_neg (by simp),List.map_nil,ZH]
  simp only [sU];rw [aj pR.eq_1]
  unfold JK
  have hov:ovE G=0∨ovE G=13:=by unfold ovE;split <;> simp
  rcases hov with c | c
  · rw [c] at ho ⊢
    simp (disch:=omega) [aj DI.eq_1,h3,h6,ho,hG,H.inl,ay,H.pp,ppB]
  · rw [c] at ho ⊢
    simp (disch:=omega) [aj DI.eq_1,h3,h6,ho,hG,H.inl,ay,H.pp,ppB]
 | succ n ih =>
  intro i hi G hG hGi
  have h1:i < x.length:=by omega
  obtain ⟨j,hj⟩:∃ j,j=a+i:=⟨_,rfl⟩
  have hj1:j < l.length:=by omega
  have hj2:j < G.length:=by omega
  have hji:(a:Int)+i=j:=by omega
  have hxi:=hx _ (List.getElem_mem h1)
  have hii:=yZ H.toAd ks ke cap x[i] hxi hr false
  have hki:keyAt l j=l[j].i.k:=by unfold keyAt;rw [List.getElem?_eq_getElem hj1];rfl
  rw [← hj,drop_cons h1]
  simp only [aR,eIt,Bool.false_eq_true,if_false] at hii
  have hch:fB ks cap l j (x[i]::x.drop (i+1))=if fC ks.length x[i]=false then 6 else if l[j].i.k≠x[i].k then 9 else if gG (dF ks x[i].t).p x[i] cap≠0 then gG (dF ks x[i].t).p x[i] cap else fB ks cap l (j+1) (x.drop (i+1)):=by
   rw [fB,hki]
  by_cases c1:fC ks.length x[i]=true
  · have hfr:=wo H.toAd ks ke cap x[i] hxi (mY c1)
    have hrd:=ajk hok c1 hxi.t.1
    have hE:itE ks cap x[i] false=if gG (dF ks x[i].t).p x[i] cap=0 then 0 else 14:=by unfold itE;simp [c1]
    rw [hE] at hii
    simp only [c1,Bool.true_eq_false,if_false] at hch
    by_cases c2:l[j].i.k=x[i].k
    · simp only [c2,ne_eq,not_true_eq_false,if_false] at hch
      rcases hrd with c3 | c3
      · rw [c3] at hii
        simp only [c3,not_true_eq_false,if_false] at hch
        rw [hch,List.map_cons,abe G j n _ _ hj2]
        have hbb:=hb _ (List.getElem_mem h1) c1
        have this:=ih (i+1) (by omega) (G.set j (fre ks x[i])) (by simpa using hG) (by
         intro y hy
         rcases List.mem_or_eq_of_mem_set hy with q | q
         · exact hGi y q
         · rw [q];exact ⟨hxi,hbb⟩)
        rw [show a+(i+1)=j+1 by omega] at this
        simp only [aR,eIt,aE,eEn,fre] at hfr
        generalize (if fB ks cap l (j+1) (x.drop (i+1))≠0 then AV.tup [.ro 6 [] true,.int .i64 (fB ks cap l (j+1) (x.drop (i+1)))] else JK (spl (G.set j (fre ks x[i])) (j+1) n ((x.drop (i+1)).map (fre ks))))=Z at *
        simp only [sU] at this ⊢;rw [aj pR.eq_1]
        simp [List.map_set,fre] at this
        simp (disch:=omega) [h1,hji,hj1,hj2,hG,c2,hii,hfr,aG,nI,H.inl,ay,H.pp,ppB,this]
      · rw [c3] at hii
        have hV:fB ks cap l j (x[i]::x.drop (i+1))=14:=by rw [hch,c3];simp
        rw [hV,if_pos (by simp)]
        simp only [sU];rw [aj pR.eq_1]
        simp (disch:=omega) [h1,hji,hj1,c2,hii,aG,nI,H.inl,ay,H.pp,ppB]
    · have hV:fB ks cap l j (x[i]::x.drop (i+1))=9:=by rw [hch,if_pos c2]
      rw [hV,if_pos (by simp)]
      have hE6:(if gG (dF ks x[i].t).p x[i] cap=0 then (0:Int) else 14)≠6:=by split <;> simp
      generalize (if gG (dF ks x[i].t).p x[i] cap=0 then (0:Int) else 14)=E0 at hii hE6
      simp only [sU];rw [aj pR.eq_1]
      simp (disch:=omega) [h1,hji,hj1,c2,hii,hE6,aG,nI,H.inl,ay,H.pp,ppB]
  · have c1':fC ks.length x[i]=false:=by simpa using c1
    have hV:fB ks cap l j (x[i]::x.drop (i+1))=6:=by rw [hch,if_pos c1']
    have hE:itE ks cap x[i] false=6:=by unfold itE;simp [c1']
    rw [hE] at hii
    rw [hV,if_pos (by simp)]
    simp only [sU];rw [aj pR.eq_1]
    simp (disch:=omega) [h1,hii,aG,nI,H.inl,ay,H.pp,ppB]
theorem Xz (H:aei C) (ks:List Kd) (ke:Bool) (cap:Int) (hr:kG ks) (hok:qI ks cap=true) (l:List En) (e:Bool) (hl:l.length≤10000) (hs:∀ x ∈ l,dX x) (a:Nat) (x:List It) (xe:Bool) (hx:∀ y ∈ x,jq y) (hxl:a+x.length≤l.length)
 (hb:∀ y ∈ x,fC ks.length y=true→-9223372036854775808≤(dF ks y.t).b∧(dF ks y.t).b≤9223372036854775807):∀ n i,n+i=l.length→∀ G:List En,G=l.take i→G.length=i →
 DZ C ⟨[(11,.int .i64 i),(10,.sl 0 6 0 G.length G.length false),(4,.ptr 1 0 0),(3,.ro 4 (x.map cIt) xe),(2,.int .i64 a),(1,.ro 6 (l.map eEn) e)],[(0,.cells 6 (G.map eEn) true true),(1,.cells 2 [[.ro 9 (ks.map eKd) ke,.int .i64 cap]] true true)],2⟩ =
  some (if fB ks cap l a x≠0 then .tup [.ro 6 [] true,.int .i64 (fB ks cap l a x)] else JK (spl l a x.length (x.map (fre ks)))):=by
 have h0:=Zx H ks ke cap hr hok l e hl hs a x xe hx hxl hb x.length 0 (by simp) l rfl hs
 rw [List.drop_zero,Nat.add_zero] at h0
 generalize (if fB ks cap l a x≠0 then AV.tup [.ro 6 [] true,.int .i64 (fB ks cap l a x)] else JK (spl l a x.length (x.map (fre ks))))=Z at *
 intro n
 induction n with
 | zero =>
  intro i hi G hG hGl
  have hic:i=l.length:=by omega
  subst hic
  rw [List.take_length] at hG
  subst hG
  have h3:¬ G.length < G.length:=by omega
  simp only [sU] at h0
  simp at h0
  simp only [DZ];rw [aj yM.eq_1]
  simp (disch:=omega) [aj KA.eq_1,h3,h0,H.inl,ay,H.pp,ppB]
 | succ n ih =>
  intro i hi G hG hGl
  have h1:i < l.length:=by omega
  have hfit:(G.length+1) * 73≤35184372088832:=by omega
  have:=ih (i+1) (by omega) (G++[l[i]]) (by rw [List.take_add_one,List.getElem?_eq_getElem h1,hG];rfl) (by simp;omega)
  simp only [DZ] at this ⊢;rw [aj yM.eq_1]
  simp at this
  simp (disch:=omega) [h1,hfit,aG,H.inl,ay,H.pp,ppB,this]
theorem QW (H:aei C) (ks:List Kd) (ke:Bool) (cap:Int) (hr:kG ks) (hok:qI ks cap=true) (l:List En) (e:Bool) (hl:l.length≤10000) (hs:∀ x ∈ l,dX x) (a:Int) (x:List It) (xe:Bool) (hx:∀ y ∈ x,jq y) (hxl:x.length≤10000)
 (hb:∀ y ∈ x,fC ks.length y=true→-9223372036854775808≤(dF ks y.t).b∧(dF ks y.t).b≤9223372036854775807) :
 FnW C 462 [aR ks ke cap,.ro 6 (l.map eEn) e,.int .i64 a,.ro 4 (x.map cIt) xe] =
  some (if inR a x.length l.length=false then .tup [.ro 6 [] true,.int .i64 4] else if fB ks cap l a.toNat x≠0 then .tup [.ro 6 [] true,.int .i64 (fB ks cap l a.toNat x)] else JK (spl l a.toNat x.length (x.map (fre ks)))):=by
 have hi:=vC H.tojU a x.length l.length (by omega)
 rw [aF H.akN rfl]
 cases c:inR a x.length l.length
 · rw [c] at hi
   simp at hi
   rw [if_pos rfl]
   simp (disch:=omega) [abh,hi,H.inl,ay,H.pp,ppB]
 · rw [c] at hi
   simp at hi
   rw [if_neg (by simp)]
   unfold inR at c
   simp at c
   obtain ⟨a',rfl⟩:∃ a':Nat,a=a':=⟨a.toNat,by omega⟩
   have h:=Xz H ks ke cap hr hok l e hl hs a' x xe hx (by omega) hb l.length 0 (by simp) [] (by simp) rfl
   simp only [Int.toNat_natCast]
   generalize (if fB ks cap l a' x≠0 then AV.tup [.ro 6 [] true,.int .i64 (fB ks cap l a' x)] else JK (spl l a' x.length (x.map (fre ks))))=Z at *
   simp only [DZ] at h
   simp at h
   simp (disch:=omega) [abh,hi,h,H.inl,ay,H.pp,ppB]
def oW:List En→Nat→Int→List En
 | [],_,_=>[]
 | e::r,0,s=>⟨e.i,s,true⟩::r
 | e::r,j+1,s=>e::oW r j s
def mvR {α:Type} (R M:List α) (t i:Nat):List α:=if i≤t then (R.take t).drop i++M++R.drop t else R.drop i
theorem ady {α:Type} (R M:List α) (t:Nat):mvR R M t 0=spl R t 0 M:=by unfold mvR spl;simp
theorem ahY {α:Type} (R M:List α) (t:Nat):mvR R M t t=M++R.drop t:=by
 unfold mvR;rw [if_pos (Nat.le_refl _),List.drop_eq_nil_of_le (by rw [List.length_take];omega)];simp
theorem yu {α:Type} (R M:List α) (t i:Nat) (h:t < i):mvR R M t i=R.drop i:=by unfold mvR;rw [if_neg (by omega)]
theorem Yh {α:Type} (R M:List α) (t i:Nat) (hi:i < R.length) (ht:i≠t) (htl:t≤R.length):mvR R M t i=R[i]::mvR R M t (i+1):=by
 by_cases c:i < t
 · unfold mvR
   rw [if_pos (by omega),if_pos (by omega)]
   have h:i < (R.take t).length:=by rw [List.length_take];omega
   rw [drop_cons h];simp
 · rw [yu _ _ _ _ (by omega),yu _ _ _ _ (by omega),drop_cons hi]
theorem GN (H:jU C) (l:List En) (e:Bool) (a c t:Nat) (R:List En) (re:Bool) (hR:R.length≤1000000) (i:Nat) (hi:i≤R.length) (G:List En) (B:Nat) (hB:G.length+1≤B) (hBB:B≤300000000) (k:Int) (hk:i≠t∨c≤k)
 (Z:AV) (Y:List En→AV) (hY:∀ G:List En,G.length≤B→lY C ⟨[(13,.int .i64 ((i:Int)+1)),(12,.sl 0 6 0 G.length G.length false),(10,.ro 6 (R.map eEn) re),(3,.int .i64 t),(2,.int .i64 c),(1,.int .i64 a),(0,.ro 6 (l.map eEn) e)],[(0,.cells 6 (G.map eEn) true true)],1⟩=some (Y G))
 (hZ:Z=if i < R.length then Y (G++[R[i]?.getD ⟨⟨0,0,[],[],true⟩,0,false⟩]) else Y G) :
 tC C ⟨[(14,.int .i64 k),(13,.int .i64 i),(12,.sl 0 6 0 G.length G.length false),(10,.ro 6 (R.map eEn) re),(3,.int .i64 t),(2,.int .i64 c),(1,.int .i64 a),(0,.ro 6 (l.map eEn) e)],[(0,.cells 6 (G.map eEn) true true)],1⟩=some Z:=by
 have hfit:(G.length+1) * 73≤35184372088832:=by omega
 by_cases h1:i < R.length
 · have this:=hY (G++[R[i]]) (by simp;omega)
   have hz:Z=Y (G++[R[i]]):=by rw [hZ,if_pos h1];simp [h1]
   rw [hz]
   generalize Y (G++[R[i]])=Q at *
   simp only [lY] at this
   simp only [tC];rw [aj wR.eq_1]
   simp at this
   by_cases c1:i=t
   · have c2:¬ k < (c:Int):=by rcases hk with q | q;exact absurd c1 q;omega
     simp (disch:=omega) [aj wW.eq_1,aj vT.eq_1,eq_true c1,c2,h1,hfit,aG,this]
   · simp (disch:=omega) [aj wW.eq_1,aj vT.eq_1,c1,h1,hfit,aG,this]
 · have this:=hY G (by omega)
   have hz:Z=Y G:=by rw [hZ,if_neg h1]
   rw [hz]
   generalize Y G=Q at *
   simp only [lY] at this
   simp only [tC];rw [aj wR.eq_1]
   try simp at this
   by_cases c1:i=t
   · have c2:¬ k < (c:Int):=by rcases hk with q | q;exact absurd c1 q;omega
     simp (disch:=omega) [aj wW.eq_1,aj vT.eq_1,eq_true c1,c2,h1,aG,this]
   · simp (disch:=omega) [aj wW.eq_1,aj vT.eq_1,c1,h1,aG,this]
theorem abP (H:jU C) (l:List En) (e:Bool) (hl:l.length≤1000000) (a c t:Nat) (hac:a+c≤l.length) (R:List En) (re:Bool) (hR:R.length≤1000000) (ht:t≤R.length) (B:Nat) (hBB:B≤300000000)
 (Y:List En→AV) (hY:∀ G:List En,G.length≤B→lY C ⟨[(13,.int .i64 ((t:Int)+1)),(12,.sl 0 6 0 G.length G.length false),(10,.ro 6 (R.map eEn) re),(3,.int .i64 t),(2,.int .i64 c),(1,.int .i64 a),(0,.ro 6 (l.map eEn) e)],[(0,.cells 6 (G.map eEn) true true)],1⟩=some (Y G)) :
 ∀ n k,n+k=c→∀ G:List En,G.length+n+1≤B →
 tC C ⟨[(14,.int .i64 k),(13,.int .i64 t),(12,.sl 0 6 0 G.length G.length false),(10,.ro 6 (R.map eEn) re),(3,.int .i64 t),(2,.int .i64 c),(1,.int .i64 a),(0,.ro 6 (l.map eEn) e)],[(0,.cells 6 (G.map eEn) true true)],1⟩ =
  some (if t < R.length then Y (G++((l.take (a+c)).drop a).drop k++[R[t]?.getD ⟨⟨0,0,[],[],true⟩,0,false⟩]) else Y (G++((l.take (a+c)).drop a).drop k)):=by
 intro n
 induction n with
 | zero =>
  intro k hk G hG
  have h1:((l.take (a+c)).drop a).drop k=[]:=List.drop_eq_nil_of_le (by simp;omega)
  refine GN H l e a c t R re hR t ht G B (by omega) hBB k (.inr (by omega)) _ Y hY ?_
  rw [h1,List.append_nil]
 | succ n ih =>
  intro k hk G hG
  obtain ⟨j,hj⟩:∃ j:Nat,j=a+k:=⟨_,rfl⟩
  have h1:j < l.length:=by omega
  have h2:k < c:=by omega
  have hfit:(G.length+1) * 73≤35184372088832:=by omega
  have hd:((l.take (a+c)).drop a).drop k=l[j]::((l.take (a+c)).drop a).drop (k+1):=by
   rw [drop_cons (show k < ((l.take (a+c)).drop a).length by simp;omega)]
   subst hj
   simp
  have this:=ih (k+1) (by omega) (G++[l[j]]) (by simp;omega)
  rw [hd]
  have hA:∀ X:List En,G++l[j]::X=G++[l[j]]++X:=fun X=>by simp
  rw [hA]
  generalize (if t < R.length then Y (G++[l[j]]++((l.take (a+c)).drop a).drop (k+1)++[R[t]?.getD ⟨⟨0,0,[],[],true⟩,0,false⟩]) else Y (G++[l[j]]++((l.take (a+c)).drop a).drop (k+1)))=Q at *
  have hj2:(a:Int)+(k:Int)=j:=by omega
  simp only [tC] at this ⊢;rw [aj wR.eq_1]
  simp at this
  simp (disch:=omega) [h1,h2,hj2,hfit,aG,this]
theorem Rk (H:jU C) (l:List En) (e:Bool) (hl:l.length≤10000) (a c t:Nat) (hac:a+c≤l.length) (R:List En) (re:Bool) (hR:R.length≤10000) (ht:t≤R.length):∀ n i,n+i=R.length+1→∀ G:List En,G.length≤20000 * (i+1) →
 lY C ⟨[(13,.int .i64 i),(12,.sl 0 6 0 G.length G.length false),(10,.ro 6 (R.map eEn) re),(3,.int .i64 t),(2,.int .i64 c),(1,.int .i64 a),(0,.ro 6 (l.map eEn) e)],[(0,.cells 6 (G.map eEn) true true)],1⟩ =
  some (.tup [.ro 6 ((G++mvR R ((l.take (a+c)).drop a) t i).map eEn) false,.int .i64 0]):=by
 intro n
 induction n with
 | zero =>
  intro i hi G hG
  have h3:¬ i≤R.length:=by omega
  rw [yu _ _ _ _ (by omega),List.drop_eq_nil_of_le (by omega),List.append_nil]
  simp only [lY];rw [aj yO.eq_1]
  cases G with
  | nil=>simp [aj zD.eq_1,h3]
  | cons g G=>simp (disch:=(first | omega | (simp;done) | (simp;omega))) [aj zD.eq_1,h3,List.take_of_length_le]
 | succ n ih =>
  intro i hi G hG
  have h1:i≤R.length:=by omega
  have hY:∀ G':List En,G'.length≤20000 * (i+2)→lY C ⟨[(13,.int .i64 ((i:Int)+1)),(12,.sl 0 6 0 G'.length G'.length false),(10,.ro 6 (R.map eEn) re),(3,.int .i64 t),(2,.int .i64 c),(1,.int .i64 a),(0,.ro 6 (l.map eEn) e)],[(0,.cells 6 (G'.map eEn) true true)],1⟩ =
   some ((fun G'=>AV.tup [.ro 6 ((G'++mvR R ((l.take (a+c)).drop a) t (i+1)).map eEn) false,.int .i64 0]) G'):=fun G' q=>by
   have:=ih (i+1) (by omega) G' (by omega)
   simpa using this
  have key:∀ Z,tC C ⟨[(14,.int .i64 0),(13,.int .i64 i),(12,.sl 0 6 0 G.length G.length false),(10,.ro 6 (R.map eEn) re),(3,.int .i64 t),(2,.int .i64 c),(1,.int .i64 a),(0,.ro 6 (l.map eEn) e)],[(0,.cells 6 (G.map eEn) true true)],1⟩=some Z →
   lY C ⟨[(13,.int .i64 i),(12,.sl 0 6 0 G.length G.length false),(10,.ro 6 (R.map eEn) re),(3,.int .i64 t),(2,.int .i64 c),(1,.int .i64 a),(0,.ro 6 (l.map eEn) e)],[(0,.cells 6 (G.map eEn) true true)],1⟩=some Z:=fun Z this=>by
   simp only [tC] at this
   simp only [lY];rw [aj yO.eq_1]
   simp (disch:=omega) [h1,aG,this]
  refine key _ ?_
  by_cases c1:i=t
  · subst c1
    have:=abP H l e (by omega) a c i hac R re (by omega) ht (20000 * (i+2)) (by omega) _ hY c 0 (by simp) G (by omega)
    rw [List.drop_zero] at this
    refine this.trans ?_
    rw [ahY]
    by_cases h2:i < R.length
    · rw [if_pos h2,yu _ _ _ _ (by omega),drop_cons h2];simp [h2]
    · rw [if_neg h2,yu _ _ _ _ (by omega),List.drop_eq_nil_of_le (show R.length≤i+1 by omega),List.drop_eq_nil_of_le (show R.length≤i by omega)];simp
  · refine GN H l e a c t R re (by omega) i h1 G (20000 * (i+2)) (by omega) (by omega) 0 (.inl c1) _ _ hY ?_
    by_cases h2:i < R.length
    · rw [if_pos h2,Yh _ _ _ _ h2 c1 ht];simp [h2]
    · rw [if_neg h2,yu _ _ _ _ (by omega),yu _ _ _ _ (by omega),List.drop_eq_nil_of_le (show R.length≤i+1 by omega),List.drop_eq_nil_of_le (show R.length≤i by omega)]
theorem XW (H:afL C) (l:List En) (e:Bool) (hl:l.length≤10000) (a c t:Int) :
 FnW C 242 [.ro 6 (l.map eEn) e,.int .i64 a,.int .i64 c,.int .i64 t]=some (if (inR a c l.length&&inR t 0 (l.length - c))=true then .tup [.ro 6 ((spl (spl l a.toNat c.toNat []) t.toNat 0 ((l.take (a.toNat+c.toNat)).drop a.toNat)).map eEn) false,.int .i64 0] else .tup [.ro 6 [] true,.int .i64 4]):=by
 have hw:=vC H.tojU a c l.length (by omega)
 have hrm:=Gp H l e (by omega) a c
 rw [aF H.f242 rfl]
 cases c1:inR a c l.length
 · rw [c1] at hw
   simp at hw
   simp [VU,hw,H.inl,ay,H.pp,ppB]
 · have hq:=c1
   unfold inR at hq
   simp at hq
   rw [c1] at hw hrm
   simp at hw
   have hw2:=vC H.tojU t 0 (l.length - c) (by omega)
   cases c2:inR t 0 (l.length - c)
   · rw [c2] at hw2
     simp at hw2
     simp (disch:=omega) [VU,aG,hw,hw2,H.inl,ay,H.pp,ppB]
   · have hq2:=c2
     unfold inR at hq2
     simp at hq2
     rw [c2] at hw2
     simp at hw2
     obtain ⟨a',rfl⟩:∃ a':Nat,a=a':=⟨a.toNat,by omega⟩
     obtain ⟨c',rfl⟩:∃ c':Nat,c=c':=⟨c.toNat,by omega⟩
     obtain ⟨t',rfl⟩:∃ t':Nat,t=t':=⟨t.toNat,by omega⟩
     have hlen:=sG l [] a' c' (by omega)
     simp only [Int.toNat_natCast] at hrm ⊢
     simp at hlen
     have h:=Rk H.tojU l e hl a' c' t' (by omega) (spl l a' c' []) false (by omega) (by omega) ((spl l a' c' []).length+1) 0 (by simp) [] (by simp)
     rw [List.nil_append,ady] at h
     generalize spl (spl l a' c' []) t' 0 ((l.take (a'+c')).drop a')=F at *
     generalize spl l a' c' []=R at *
     simp only [lY] at h
     simp at h hrm
     simp (disch:=omega) [VU,aG,hw,hw2,hrm,h,H.inl,ay,H.pp,ppB]
structure ZK (C:aI):Prop extends Hl C,aei C,afL C
theorem Yt (o:List En):ovE o=0∨ovE o=13:=by unfold ovE;split <;> simp
theorem ada (o:List En):rfO o=JK o:=by
 unfold rfO JK
 rcases Yt o with h | h <;> simp [h]
def smx:List En→Int
 | []=>0
 | e::r=>imax e.s 0+smx r
theorem JQ (a:Int):0≤imax a 0:=by unfold imax;split <;> omega
theorem aa5:∀ l:List En,0≤smx l
 | []=>Int.le_refl _
 | e::r=>by have h1:=aa5 r;have h2:=JQ e.s;rw [smx];omega
theorem NY:∀ (l:List En) (s:Int),s≤4611686018427387904→(4611686018427387904 < o8 s l↔4611686018427387904 < s+smx l)
 | [],s,_=>by rw [o8,smx,Int.add_zero]
 | e::r,s,h=>by
  rw [o8,smx]
  have h1:=aa5 r
  have h2:=JQ e.s
  split
  · constructor <;> intro <;> omega
  · rw [NY r _ (by omega),Int.add_assoc]
theorem Ny (l:List En):ovE l=0↔smx l≤4611686018427387904:=by
 unfold ovE tot
 have h:=NY l 0 (by omega)
 rw [Int.zero_add] at h
 by_cases c:4611686018427387904 < o8 0 l
 · rw [if_pos c]
   have:=h.1 c
   constructor
   · intro h;simp at h
   · intro h;omega
 · rw [if_neg c]
   constructor
   · intro _
     exact Int.not_lt.1 fun h'=>c (h.2 h')
   · intro _;rfl
theorem adX {l m:List En} (h:m.Sublist l):smx m≤smx l:=by
 induction h with
 | slnil=>exact Int.le_refl _
 | cons a _ ih=>have:=JQ a.s;rw [smx];omega
 | cons_cons a _ ih=>rw [smx,smx];omega
theorem aaN {l m:List En} (h:m.Perm l):smx m=smx l:=by
 induction h with
 | nil=>rfl
 | cons a _ ih=>rw [smx,smx,ih]
 | swap a b l=>simp only [smx];omega
 | trans _ _ h1 h2=>rw [h1,h2]
def rfE (E:Int):AV:=.tup [.ro 6 [] true,.int .i64 E]
theorem ajW (F:Int) (X:List En):(if F≠0 then rfE F else rfO X)=if (if F≠0 then F else ovE X)≠0 then rfE (if F≠0 then F else ovE X) else .tup [.ro 6 (X.map eEn) false,.int .i64 0]:=by
 by_cases h:F=0
 · rw [if_neg (by simp [h]),if_neg (c:=F≠0) (by simp [h])]
   unfold rfO
   rcases Yt X with h | h <;> rw [h] <;> rfl
 · rw [if_pos h,if_pos (c:=F≠0) h,if_pos h]
theorem RN (H:ZK C) (ks:List Kd) (ke:Bool) (cap:Int) (hr:kG ks) (l:List En) (e:Bool) (hs:∀ x ∈ l,dX x) (hc:ckE ks cap l=0) (n:Nt) (hn:xK ks n) :
 FnW C 342 [aR ks ke cap,.ro 6 (l.map eEn) e,.agg (eNt n)]=some (if apE ks cap l n≠0 then rfE (apE ks cap l n) else .tup [.ro 6 ((apL ks l n).map eEn) false,.int .i64 0]):=by
 obtain ⟨hru,hll,_,_,hov⟩:=(jA ks cap l).1 hc
 have hl2:=hn.l
 by_cases hE:ntE n=0
 · have key:FnW C (rtF n) (rtA (aR ks ke cap) (.ro 6 (l.map eEn) e) n)=some (if apE ks cap l n≠0 then rfE (apE ks cap l n) else .tup [.ro 6 ((apL ks l n).map eEn) false,.int .i64 0]):=by
    have hr5:1≤n.k∧n.k≤5:=by
     unfold ntE at hE
     split at hE
     · cases hE
     · omega
    have hA:apE ks cap l n=if apF ks cap l n≠0 then apF ks cap l n else ovE (apL ks l n):=by unfold apE;rw [if_neg (by rw [hE];simp)]
    rw [hA,← ajW]
    have hins:=PZ H.toHl ks ke cap hr l e hll hs n hn
    have hres:=aej H.toHl ks ke cap hr n hn
    obtain ⟨k,a,c,t,x,xe⟩:=n
    simp only at hr5 hl2 hins hres
    have h5:k=1∨k=2∨k=3∨k=4∨k=5:=by omega
    rcases h5 with rfl | rfl | rfl | rfl | rfl
    · have h3:apL ks l ⟨1,a,c,t,x,xe⟩=spl l a.toNat 0 (x.map (fre ks)):=rfl
      have h4:apF ks cap l ⟨1,a,c,t,x,xe⟩=if inR a 0 l.length=false then 4 else if 1024 < (l.length:Int)+x.length then 3 else dB ks cap (bC l) x:=rfl
      refine hins.trans ?_
      rw [h3,h4]
      by_cases c1:inR a 0 l.length=false
      · rw [if_pos c1,if_pos c1];rfl
      · rw [if_neg c1,if_neg c1]
        by_cases c2:1024 < (l.length:Int)+x.length
        · rw [if_pos c2,if_pos c2];rfl
        · rw [if_neg c2,if_neg c2];rfl
    · have h3:apL ks l ⟨2,a,c,t,x,xe⟩=spl l a.toNat c.toNat []:=rfl
      have h4:apF ks cap l ⟨2,a,c,t,x,xe⟩=if inR a c l.length=false then 4 else 0:=rfl
      refine (Gp H.toafL l e (by omega) a c).trans ?_
      rw [h3,h4]
      by_cases c1:inR a c l.length=false
      · rw [if_neg (by simp [c1]),if_pos c1];rfl
      · have c1':inR a c l.length=true:=by simpa using c1
        have ho:ovE (spl l a.toNat c.toNat [])=0:=(Ny _).2 (Int.le_trans (adX (Ji _ _ _)) ((Ny _).1 hov))
        rw [if_pos c1',if_neg c1,if_neg (by simp)]
        unfold rfO
        rw [ho,if_neg (by simp)]
    · have h3:apL ks l ⟨3,a,c,t,x,xe⟩=spl (spl l a.toNat c.toNat []) t.toNat 0 ((l.take (a.toNat+c.toNat)).drop a.toNat):=rfl
      have h4:apF ks cap l ⟨3,a,c,t,x,xe⟩=if (inR a c l.length&&inR t 0 (l.length - c))=false then 4 else 0:=rfl
      refine (XW H.toafL l e (by omega) a c t).trans ?_
      rw [h3,h4]
      by_cases c1:(inR a c l.length&&inR t 0 (l.length - c))=false
      · rw [if_neg (by simp [c1]),if_pos c1];rfl
      · have c1':(inR a c l.length&&inR t 0 (l.length - c))=true:=by simpa using c1
        have ho:ovE (spl (spl l a.toNat c.toNat []) t.toNat 0 ((l.take (a.toNat+c.toNat)).drop a.toNat))=0:=(Ny _).2 (by rw [aaN (Hf _ _ _ _)];exact (Ny _).1 hov)
        rw [if_pos c1',if_neg c1,if_neg (by simp)]
        unfold rfO
        rw [ho,if_neg (by simp)]
    · have h3:apL ks l ⟨4,a,c,t,x,xe⟩=spl l a.toNat x.length (x.map (fre ks)):=rfl
      have h4:apF ks cap l ⟨4,a,c,t,x,xe⟩=if inR a x.length l.length=false then 4 else fB ks cap l a.toNat x:=rfl
      refine (QW H.toaei ks ke cap hr hru l e (by omega) hs a x xe hn.x hn.l hn.b).trans ?_
      rw [h3,h4,ada]
      by_cases c1:inR a x.length l.length=false
      · rw [if_pos c1,if_pos c1];rfl
      · rw [if_neg c1,if_neg c1];rfl
    · have h3:apL ks l ⟨5,a,c,t,x,xe⟩=x.map (fre ks):=rfl
      have h4:apF ks cap l ⟨5,a,c,t,x,xe⟩=if 1024 < (x.length:Int) then 3 else dB ks cap [] x:=rfl
      refine hres.trans ?_
      rw [h3,h4]
      by_cases c1:1024 < (x.length:Int)
      · rw [if_pos c1,if_pos c1];rfl
      · rw [if_neg c1,if_neg c1];rfl
   generalize apE ks cap l n=E at *
   by_cases hE2:E=0
   · subst hE2
     simp only [ne_eq,not_true_eq_false,if_false] at key ⊢
     exact FT H.toO8 ks ke cap l e n (by omega) hE _ _ _ key
   · rw [if_pos hE2] at key ⊢
     exact FT H.toO8 ks ke cap l e n (by omega) hE _ _ _ key
 · have hA:apE ks cap l n=ntE n:=by unfold apE;rw [if_pos hE]
   rw [hA,if_pos hE]
   exact P5 H.toO8 ks ke cap l e n (by omega) hE
end Go.D
end
section
namespace Go.D
open Go Go.Pav Go.Pw P
set_option maxHeartbeats 1000000
attribute [-simp] List.getElem_cons_drop
variable {C:aI}
structure xW (C:aI):Prop extends oz C where
 f318:C.fns.get 318=some Ox
 f322:C.fns.get 322=some afz
 f323:C.fns.get 323=some aeT
 f313:C.fns.get 313=some aco
 f161:C.fns.get 161=some ZT
 f160:C.fns.get 160=some abx
 f321:C.fns.get 321=some RJ
 f256:C.fns.get 256=some afe
abbrev aA (k d:Int):AV:=.agg [.int .u64 k,.int .i64 d]
def anE (k d:Int):Int:=if d < 0∨2305843009213693952 < d∨(k=0∧0 < d) then 1 else 0
theorem x9 (H:xW C) (k d:Int):FnW C 318 [aA k d]=some (.int .i64 (anE k d)):=by
 rw [aF H.f318 rfl]
 unfold anE
 by_cases c1:d < 0
 · simp (disch:=omega) [Ox,c1,aG,H.inl,ay,H.pp,ppB]
 · by_cases c2:2305843009213693952 < d
   · simp (disch:=omega) [Ox,c1,c2,aG,H.inl,ay,H.pp,ppB]
   · by_cases c3:k=0
     · by_cases c4:0 < d
       · simp (disch:=omega) [Ox,c1,c2,c3,c4,aG,H.inl,ay,H.pp,ppB]
       · simp (disch:=omega) [Ox,c1,c2,c3,c4,aG,H.inl,ay,H.pp,ppB]
     · simp (disch:=omega) [Ox,c1,c2,c3,aG,H.inl,ay,H.pp,ppB]
def clF (l:List En) (v x:Int):Int:=if iI l v < x then iI l v else if x < 0 then 0 else x
def yI (l:List En) (v k d:Int):Int:=if k=0 then 0 else clF l v (top l (fP k 0 l).toNat+d)
theorem Szd.b {l:List En} (hz:Szd l):SzB l:=fun x hx=>by have:=hz.s x hx;omega
theorem Szd.apX {l:List En} (hz:Szd l):0≤sm l∧sm l≤4611686018427387904:=⟨hz.nn,hz.t⟩
theorem Ir (H:xW C) (l:List En) (e:Bool) (hz:Szd l) (v:Int) (hv:1≤v∧v≤2147483648):FnW C 322 [aL l e,.int .i64 v]=some (.int .i64 0):=by
 have h1:=zH H.tooz l e (by have:=hz.n;omega) hz.b
 rw [KD hz] at h1
 have v1:¬ v < 1:=by omega
 have v2:¬ 2147483648 < v:=by omega
 rw [aF H.f322 rfl]
 simp only [aL] at h1
 simp (disch:=omega) [afz,aL,h1,v1,v2,aG,H.inl,ay,H.pp,ppB]
theorem WY (H:xW C) (l:List En) (e:Bool) (hz:Szd l) (v:Int) (hv:1≤v∧v≤2147483648) (x:Int):FnW C 313 [aL l e,.int .i64 v,.int .i64 x]=some (.tup [.int .i64 (clF l v x),.int .i64 0]):=by
 have h1:=Ir H l e hz v hv
 have h2:=Ap H.tojU l e (by have:=hz.n;omega) hz.b
 rw [hz.tot] at h2
 have h3:=hz.apX
 rw [aF H.f313 rfl]
 simp only [aL] at h1 h2
 have hcl:clF l v x=imax 0 (qY x (sm l - v)):=by
  unfold clF iI imax qY
  repeat' split
  all_goals omega
 rw [hcl]
 simp (disch:=omega) [aco,aL,h1,h2,aG,H.inl,ay,H.pp,ppB]
structure Py (l:List En) (k d:Int):Prop where
 k0:0≤k
 d0:0≤d∧d≤2305843009213693952
 z:k=0→d=0
 f:k≠0→0≤fP k 0 l
theorem Py.e {l:List En} {k d:Int} (h:Py l k d):anE k d=0:=by
 have:=h.d0
 unfold anE
 rw [if_neg]
 rintro (q | q | ⟨q,r⟩)
 · omega
 · omega
 · have:=h.z q;omega
theorem aem (k:Int):∀ (l:List En) (i:Nat),0≤fP k i l→∃ j:Nat,fP k i l=((i+j:Nat):Int)∧j < l.length:=by
 intro l
 induction l with
 | nil=>intro i h;exact absurd h (by simp [fP])
 | cons a r ih =>
  intro i h
  rw [fP] at h ⊢
  split
  · exact ⟨0,by simp,by simp⟩
  · rename_i c
    rw [if_neg c] at h
    obtain ⟨j,h1,h2⟩:=ih (i+1) h
    exact ⟨j+1,by rw [h1];congr 1;omega,by simpa using h2⟩
theorem Uw (H:xW C) (l:List En) (e:Bool) (hz:Szd l) (k:Int) (hf:0≤fP k 0 l):FnW C 323 [aL l e,.int .u64 k]=some (.tup [.int .i64 (top l (fP k 0 l).toNat),.bool true]):=by
 have h1:=find_ok H.tojU l e k (by have:=hz.n;omega)
 have h2:=EZ H.tooz l e hz
 obtain ⟨j,q1,q2⟩:=aem k l 0 hf
 rw [Nat.zero_add] at q1
 rw [q1] at h1 ⊢
 have q3:imax (j:Int) 0=j:=by unfold imax;split <;> omega
 rw [q3] at h1
 have q4:(0:Int)≤j:=by omega
 have q5:j < (tps l).length:=by rw [nK];omega
 have q6:=EX l q5
 have hn:=nK l
 rw [aF H.f323 rfl]
 simp only [aL,decide_eq_true q4] at h1 h2
 rw [show ((j:Int)).toNat=j from rfl]
 simp (disch:=omega) [aeT,aL,h1,h2,q5,q6,aG,H.inl,ay,H.pp,ppB]
theorem I4 (H:xW C) (l:List En) (e:Bool) (hz:Szd l) (v:Int) (hv:1≤v∧v≤2147483648) (k d:Int) (ha:Py l k d):FnW C 161 [aL l e,.int .i64 v,aA k d]=some (.tup [.int .i64 (yI l v k d),.int .i64 0]):=by
 have h1:=Ir H l e hz v hv
 have h2:=x9 H k d
 rw [ha.e] at h2
 rw [aF H.f161 rfl]
 unfold yI
 simp only [aL,aA] at h1 h2
 by_cases c:k=0
 · rw [if_pos c]
   subst c
   simp (disch:=omega) [ZT,aL,aA,h1,h2,aG,H.inl,ay,H.pp,ppB]
 · rw [if_neg c]
   have h3:=Uw H l e hz k (ha.f c)
   have h4:=hz.rng (fP k 0 l).toNat
   have h6:=ha.d0
   have h7:=hz.t
   have h5:=WY H l e hz v hv (top l (fP k 0 l).toNat+d)
   simp only [aL] at h3 h5
   simp (disch:=omega) [ZT,aL,aA,h1,h2,h3,h5,c,aG,H.inl,ay,H.pp,ppB]
theorem adb {l:List En} (hz:Szd l) {v:Int} (x:Int):0≤clF l v x∧clF l v x≤iI l v:=by
 have h0:0≤iI l v:=by unfold iI;split <;> omega
 unfold clF
 split
 · omega
 · split <;> omega
theorem agS (H:xW C) (l:List En) (e:Bool) (hz:Szd l) (s:Int) (p:Nat) (hp:p < l.length) (h1:top l p≤s) (h2:s < top l (p+1)) :
 FnW C 160 [aL l e,.int .i64 s]=some (.tup [aA l[p].i.k (s - top l p),.int .i64 0]):=by
 have hn:=hz.n
 have t1:=hz.rng p
 have t2:=hz.rng (p+1)
 have t3:=hz.t
 have g1:=EZ H.tooz l e hz
 have g2:=Ap H.tooz.tojU l e (by omega) hz.b
 rw [hz.tot] at g2
 have g3:=ako H.tooz l e (by omega) hz.b s
 unfold atR at g3
 rw [KD hz,if_neg (by simp),if_neg (by omega),hz.U2 hp h1 h2] at g3
 have q5:p < (tps l).length:=by rw [nK];omega
 have q6:=EX l q5
 have c1:¬ s < 0:=by omega
 have c2:¬ (imax 0 (sm l - 1) < s):=by unfold imax;split <;> omega
 have c3:¬ l.length=0:=by omega
 have c4:¬ l=[]:=by intro q;rw [q] at hp;simp at hp
 simp only [aL,aA] at g1 g2 g3 ⊢
 rw [aF H.f160 rfl]
 simp (disch:=omega) [abx,g1,g2,g3,q5,q6,c1,c2,c3,c4,hp,aG,H.inl,ay,H.pp,ppB]
theorem aeV (H:xW C) (e:Bool):FnW C 160 [aL [] e,.int .i64 0]=some (.tup [aA 0 0,.int .i64 0]):=by
 have hz:Szd []:=⟨by simp,by simp,by simp [sm]⟩
 have g1:=EZ H.tooz [] e hz
 have g2:=Ap H.tooz.tojU [] e (by simp) hz.b
 rw [hz.tot] at g2
 simp [aL,sm] at g1 g2
 simp only [aL,aA]
 rw [aF H.f160 rfl]
 simp (disch:=omega) [abx,g1,g2,imax,aG,H.inl,ay,H.pp,ppB]
theorem TY (H:xW C) (l:List En) (e:Bool) (hz:Szd l) (s k d:Int) (hs:0≤s∧s≤4611686018427387904) (ha:Py l k d) :
 FnW C 321 [aL l e,.int .i64 s,aA k d]=some (.bool (decide (k=0)||(decide (top l (fP k 0 l).toNat≤s)&&decide (s - top l (fP k 0 l).toNat=d)))):=by
 have h1:=zH H.tooz l e (by have:=hz.n;omega) hz.b
 rw [KD hz] at h1
 simp only [aL,aA] at h1 ⊢
 rw [aF H.f321 rfl]
 by_cases c:k=0
 · subst c
   simp (disch:=omega) [RJ,h1,aG,H.inl,ay,H.pp,ppB]
 · have h3:=Uw H l e hz k (ha.f c)
   have h4:=hz.rng (fP k 0 l).toNat
   have h5:=hz.t
   simp only [aL] at h3
   generalize top l (fP k 0 l).toNat=t at *
   by_cases c1:t≤s
   · by_cases c2:s - t=d
     · simp (disch:=omega) [RJ,h1,h3,c,c1,eq_true c2,aG,H.inl,ay,H.pp,ppB]
     · simp (disch:=omega) [RJ,h1,h3,c,c1,c2,aG,H.inl,ay,H.pp,ppB]
   · simp (disch:=omega) [RJ,h1,h3,c,c1,aG,H.inl,ay,H.pp,ppB]
theorem aaz:∀ (l:List En),(∀ x ∈ l,1≤x.s∧x.s≤40)→sm l≤40 * l.length
 | [],_=>by simp [sm]
 | e::r,h=>by
  have h1:=h e (by simp)
  have h2:=aaz r fun x hx=>h x (by simp [hx])
  rw [sm];simp only [List.length_cons];omega
theorem Xk {ks:List Kd} {l:List En} (hl:l.length≤12) (hg:∀ e ∈ l,mQ ks e):Szd l:=by
 have:=aaz l fun x hx=>(hg x hx).s
 exact ⟨by omega,fun x hx=>by have:=(hg x hx).s;omega,by omega⟩
theorem acA (H:xW C) (l:List En) (e:Bool) (hz:Szd l) (a b:Int) (ha:0≤a∧a≤255) (hb:0≤b∧b≤65535):∃ o v:Int,FnW C 256 [.agg [.int .u8 a,.int .u16 b],aL l e]=some (.tup [.int .i64 o,.int .i64 v])∧Vp l o v:=by
 have hn:=hz.n
 have ht:=hz.t
 have hnn:=hz.nn
 have h1:a.tmod 200=a % 200:=Int.tmod_eq_emod_of_nonneg ha.1
 have h2:0≤a % 200∧a % 200 < 200:=⟨Int.emod_nonneg _ (by omega),Int.emod_lt_of_pos _ (by omega)⟩
 obtain ⟨v,hv⟩:∃ v,v=1+a % 200:=⟨_,rfl⟩
 have hv2:1+a % 200=v:=hv.symm
 have hm:=NT H.tooz l e hz v (by omega)
 have hm0:0≤iI l v∧iI l v≤4611686018427387904:=by unfold iI;split <;> omega
 generalize hM:iI l v=M at *
 have h3:b.tmod (M+1)=b % (M+1):=Int.tmod_eq_emod_of_nonneg hb.1
 have h4:0≤b % (M+1)∧b % (M+1) < M+1:=⟨Int.emod_nonneg _ (by omega),Int.emod_lt_of_pos _ (by omega)⟩
 have h5:¬ M+1=0:=by omega
 refine ⟨b % (M+1),v,?_,⟨hz,by omega,by rw [hM];omega⟩⟩
 rw [aF H.f256 rfl]
 simp (disch:=omega) [afe,h1,hv2,hm,h3,h5,aG,H.inl,ay,H.pp,ppB]
theorem aiw {ks:List Kd} {cap:Int} {l:List En} (h:ckE ks cap l=0):Szd l:=by
 obtain ⟨_,h1,h2,_,h3⟩:=(jA ks cap l).1 h
 refine abw ?_
 unfold szE
 rw [if_neg (by omega),if_neg,h3]
 rw [Bool.not_eq_true,List.any_eq_false]
 intro x hx
 have q:=h2 x hx
 unfold enE at q
 split at q
 · rename_i c;exact absurd q c
 · split at q
   · rename_i c;simp [c.1]
   · exact absurd q (by decide)
theorem aaS {ks:List Kd} {cap:Int} {l:List En} (h:ckE ks cap l=0) (hin:∀ x ∈ l,dX x):∀ x ∈ l,1≤x.i.k:=by
 intro x hx
 have hk:=(hin x hx).i.k
 have q:=((jA ks cap l).1 h).2.2.1 x hx
 unfold enE at q
 split at q
 · rename_i c;exact absurd q c
 · rename_i c
   have:=Fq (show itE ks cap x.i false=0 by omega)
   unfold fC at this
   simp at this
   omega
end Go.D
end
section
namespace Go.D
open Go Go.Pav Go.Pw P
def iL (l:List En):List Int:=l.map fun e=>e.i.k
theorem Aq (k:Int):∀ (l:List En) (i:Nat),hasK (iL l) k=decide (0≤fP k i l)
 | [],i=>by simp [iL,hasK,fP]
 | e::r,i=>by
  have ih:=Aq k r (i+1)
  simp only [iL,hasK] at ih
  simp only [iL,hasK,List.map_cons,List.any_cons,fP,ih]
  by_cases h:e.i.k=k
  · simp [h]
  · simp [h]
theorem abr {l:List Int} {k:Int} (h:hasK l k=true):k ∈ l:=by
 unfold hasK at h
 obtain ⟨x,hx,e⟩:=List.any_eq_true.1 h
 rw [← of_decide_eq_true e]
 exact hx
theorem Gg {N:List En} (hk:∀ x ∈ N,1≤x.i.k):Py N (oN (iL N)) 0:=by
 cases N with
 | nil=>exact ⟨by simp [iL,oN],by omega,fun _=>rfl,fun h=>absurd (by simp [iL,oN]) h⟩
 | cons x r =>
  have:=hk x (by simp)
  exact ⟨by simp [iL,oN];omega,by omega,fun _=>rfl,fun _=>by simp [iL,oN,fP]⟩
theorem ahf {N:List En} (hk:∀ x ∈ N,1≤x.i.k) (kb:List Int) {k d:Int} (h0:0≤k) (hd:0≤d∧d≤2305843009213693952) (hz:k=0→d=0) :
 Py N (uV kb (iL N) k d).1 (uV kb (iL N) k d).2:=by
 unfold uV
 split
 · exact Gg hk
 · split
   · rename_i h1 h2
     exact ⟨h0,hd,hz,fun _=>of_decide_eq_true ((Aq k N 0).symm.trans h2)⟩
   · split
     · exact Gg hk
     · split
       · rename_i x hx
         have h3:hasK (iL N) x=true:=List.find?_some hx
         obtain ⟨e,he,rfl⟩:=List.mem_map.1 (abr h3)
         have:=hk e he
         exact ⟨by simp only;omega,by simp,fun _=>rfl,fun _=>of_decide_eq_true ((Aq _ N 0).symm.trans h3)⟩
       · exact Gg hk
theorem aaW {N:List En} (kb:List Int) {k d:Int} (h0:k≠0) (h:0≤fP k 0 N):uV kb (iL N) k d=(k,d):=by
 unfold uV
 rw [if_neg h0,if_pos (by rw [Aq k N 0];exact decide_eq_true h)]
def Xi (l:List En) (s k d:Int):Bool:=decide (k=0)||(decide (top l (fP k 0 l).toNat≤s)&&decide (s - top l (fP k 0 l).toNat=d))
theorem afb {l:List En} (hz:Szd l) (v k d:Int):0≤yI l v k d∧yI l v k d≤iI l v:=by
 unfold yI
 split
 · unfold iI
   split <;> omega
 · exact adb hz _
theorem aah {l:List En} (v k d:Int) (hd:0≤d):Xi l (yI l v k d) k d=true∨yI l v k d=0∨yI l v k d=iI l v:=by
 unfold yI Xi
 by_cases h:k=0
 · simp [h]
 · rw [if_neg h]
   unfold clF
   by_cases h1:iI l v < top l (fP k 0 l).toNat+d
   · rw [if_pos h1];exact .inr (.inr rfl)
   · rw [if_neg h1]
     by_cases h2:top l (fP k 0 l).toNat+d < 0
     · rw [if_pos h2];exact .inr (.inl rfl)
     · rw [if_neg h2]
       left
       simp [h]
       omega
theorem aaA:∀ (l:List En) (i p:Nat) (hp:p < l.length),(iL l).Nodup→fP l[p].i.k i l=((i+p:Nat):Int)
 | e::r,i,0,_,_=>by simp [fP]
 | e::r,i,p+1,hp,hn=>by
  simp only [iL,List.map_cons,List.nodup_cons] at hn
  have hp':p < r.length:=by simpa using hp
  have h1:e.i.k≠r[p].i.k:=fun q=>hn.1 (by rw [q];exact List.mem_map.2 ⟨r[p],List.getElem_mem _,rfl⟩)
  have ih:=aaA r (i+1) p hp' hn.2
  simp only [List.getElem_cons_succ,fP]
  rw [if_neg h1,ih]
  omega
theorem akF {R:List En} {s v:Int} (V:Vp R s v) (hne:R≠[]) (hn:(iL R).Nodup) (hk:∀ x ∈ R,1≤x.i.k) :
 ∃ (p:Nat) (hp:p < R.length),top R p≤s∧s < top R (p+1)∧Py R R[p].i.k (s - top R p)∧1≤R[p].i.k∧yI R v R[p].i.k (s - top R p)=s∧Xi R s R[p].i.k (s - top R p)=true:=by
 have hz:Szd R:=V.toSzd
 have h0:=V.s0
 have hv:=V.v0
 have hl:0 < R.length:=List.length_pos_iff.2 hne
 have hs:0 < sm R:=by
  have q1:top R 0+1≤top R 1:=hz.lt (i:=0) hl
  have q2:=(hz.rng 1).2
  rw [I8] at q1
  omega
 have h1:s < sm R:=by
  have:=h0.2
  unfold iI at this
  split at this <;> omega
 obtain ⟨p,hp,p1,p2⟩:=hz.row h0.1 h1
 have hf:=aaA R 0 p hp hn
 have hk1:=hk R[p] (List.getElem_mem _)
 have hsz:=(hz.s R[p] (List.getElem_mem _)).2
 have ht:=zk hp
 refine ⟨p,hp,p1,p2,⟨by omega,by omega,fun q=>by omega,fun _=>by omega⟩,hk1,?_,?_⟩
 · unfold yI clF
   rw [if_neg (by omega),hf]
   simp only [Nat.zero_add,Int.toNat_natCast]
   rw [if_neg (by omega),if_neg (by omega)]
   omega
 · unfold Xi
   rw [hf]
   simp
   omega
theorem yD (l:List En):(l.map En.own).map En.own=l.map En.own:=by rw [List.map_map];rfl
theorem IE (l:List En):bC (l.map En.own)=bC l:=by unfold bC;rw [List.map_map];rfl
theorem WR (l:List En) (j:Nat):keyAt (l.map En.own) j=keyAt l j:=by
 unfold keyAt
 rw [List.getElem?_map]
 cases l[j]? <;> rfl
theorem Og (ks:List Kd) (cap:Int) (l:List En):∀ (x:List It) (j:Nat),fB ks cap (l.map En.own) j x=fB ks cap l j x
 | [],_=>rfl
 | a::r,j=>by rw [fB,fB,WR,Og ks cap l r]
theorem ac5 (ks:List Kd) (cap:Int) (l:List En) (n:Nt):apF ks cap (l.map En.own) n=apF ks cap l n:=by
 unfold apF
 rw [List.length_map,IE,Og]
theorem UW (ks:List Kd) (l:List En) (n:Nt):(apL ks (l.map En.own) n).map En.own=(apL ks l n).map En.own:=by
 unfold apL
 split
 · rw [kW,kW,yD]
 · split
   · rw [kW,kW,yD]
   · split
     · rw [kW,kW,kW,kW,yD]
       simp only [List.map_drop,List.map_take,yD]
     · split
       · rw [kW,kW,yD]
       · rfl
theorem ad2 (ks:List Kd) (cap:Int) (l:List En) (n:Nt):apE ks cap (l.map En.own) n=apE ks cap l n:=by
 unfold apE
 rw [ac5,← AZ (apL ks (l.map En.own) n),UW,AZ]
theorem TV (ks:List Kd) (cap:Int) (e:En) (b:Bool):enE ks cap e.own b=enE ks cap e b:=by
 have h:itE ks cap e.own.i b=itE ks cap e.i b:=by
  unfold itE
  have h1:fC ks.length e.own.i=fC ks.length e.i:=rfl
  have h2:gG (dF ks e.own.i.t).p e.own.i cap=gG (dF ks e.i.t).p e.i cap:=by
   unfold gG
   have h3:oM e.own.i=oM e.i:=rfl
   have h4:mkN e.own.i (dF ks e.i.t).p=mkN e.i (dF ks e.i.t).p:=by unfold mkN;rw [show e.own.i=e.i.own from rfl,QU]
   have h5:e.own.i.t=e.i.t:=rfl
   rw [h5,h3,h4]
  rw [h1,h2]
 unfold enE
 rw [h]
 rfl
theorem X5 (ks:List Kd) (cap:Int) (l:List En):ckE ks cap (l.map En.own)=0↔ckE ks cap l=0:=by
 rw [jA,jA,List.length_map,IE,AZ]
 constructor
 · rintro ⟨h1,h2,h3,h4⟩
   exact ⟨h1,h2,fun e he=>by rw [← TV];exact h3 _ (List.mem_map.2 ⟨e,he,rfl⟩),h4⟩
 · rintro ⟨h1,h2,h3,h4⟩
   refine ⟨h1,h2,fun e he=>?_,h4⟩
   obtain ⟨e',he',rfl⟩:=List.mem_map.1 he
   rw [TV];exact h3 _ he'
theorem Ua {α:Type} {l x:List α} {a c:Nat} {e:α} (h:e ∈ spl l a c x):e ∈ l∨e ∈ x:=by
 unfold spl at h
 rcases List.mem_append.1 h with h | h
 · rcases List.mem_append.1 h with h | h
   · exact .inl (List.mem_of_mem_take h)
   · exact .inr h
 · exact .inl (List.mem_of_mem_drop h)
theorem RU {ks:List Kd} {n:Nt} (hn:xK ks n) (h:∀ y ∈ n.x,fC ks.length y=true):∀ e ∈ n.x.map (fre ks),dX e:=by
 intro e he
 obtain ⟨y,hy,rfl⟩:=List.mem_map.1 he
 exact ⟨hn.x y hy,hn.b y hy (h y hy)⟩
theorem abV {ks:List Kd} {cap:Int} {l:List En} {n:Nt} (hn:xK ks n) (hs:∀ e ∈ l,dX e) (h:apE ks cap l n=0):∀ e ∈ apL ks l n,dX e:=by
 unfold apE at h
 split at h
 · rename_i h1;exact absurd h h1
 · split at h
   · rename_i h1;exact absurd h h1
   · rename_i hF
     have hF:apF ks cap l n=0:=by simpa using hF
     unfold apF at hF
     unfold apL
     intro e he
     split at hF
     · rename_i hk
       rw [if_pos hk] at he
       split at hF
       · simp at hF
       · split at hF
         · simp at hF
         · rcases Ua he with he | he
           · exact hs e he
           · exact RU hn (fun y hy=>Fq (((wV ks cap n.x _).1 hF).1 y hy).1) e he
     · rename_i hk
       rw [if_neg hk] at he
       split at hF
       · rename_i hk;rw [if_pos hk] at he;exact hs e ((Ji _ _ _).subset he)
       · rename_i hk
         rw [if_neg hk] at he
         split at hF
         · rename_i hk;rw [if_pos hk] at he;exact hs e ((Hf _ _ _ _).mem_iff.1 he)
         · rename_i hk
           rw [if_neg hk] at he
           split at hF
           · rename_i hk
             rw [if_pos hk] at he
             split at hF
             · simp at hF
             · rename_i hi
               have:=UY (by simpa using hi)
               rcases Ua he with he | he
               · exact hs e he
               · exact RU hn (fun y hy=>Fq ((abb ks cap l n.x _ (by omega) hF).1 y hy)) e he
           · rename_i hk
             rw [if_neg hk] at he
             split at hF
             · simp at hF
             · exact RU hn (fun y hy=>Fq (((wV ks cap n.x _).1 hF).1 y hy).1) e he
def allL (ks:List Kd):List En→List Nt→List En
 | l,[]=>l
 | l,n::r=>allL ks (apL ks l n) r
def He (ks:List Kd) (cap:Int):List En→List Nt→Int
 | _,[]=>0
 | l,n::r=>if apE ks cap l n≠0 then apE ks cap l n else He ks cap (apL ks l n) r
def Xv (ks:List Kd) (cap:Int):List En→List Nt→Nat
 | _,[]=>0
 | l,n::r=>if apE ks cap l n≠0 then 0 else Xv ks cap (apL ks l n) r+1
theorem Zw {ks:List Kd} {cap:Int}:∀ (x:List Nt) (l:List En),(∀ n ∈ x,xK ks n)→ckE ks cap l=0→He ks cap l x=0→ckE ks cap (allL ks l x)=0
 | [],_,_,hc,_=>hc
 | n::r,l,hx,hc,h=>by
  rw [He] at h
  split at h
  · rename_i h1;exact absurd h h1
  · rename_i h1
    rw [allL]
    exact Zw r _ (fun m hm=>hx m (List.mem_cons_of_mem _ hm)) (Zh (hx n (List.mem_cons_self ..)) hc (by simpa using h1)) h
theorem all_in {ks:List Kd} {cap:Int}:∀ (x:List Nt) (l:List En),(∀ n ∈ x,xK ks n)→(∀ e ∈ l,dX e)→He ks cap l x=0→∀ e ∈ allL ks l x,dX e
 | [],_,_,hs,_=>hs
 | n::r,l,hx,hs,h=>by
  rw [He] at h
  split at h
  · rename_i h1;exact absurd h h1
  · rename_i h1
    rw [allL]
    exact all_in r _ (fun m hm=>hx m (List.mem_cons_of_mem _ hm)) (abV (hx n (List.mem_cons_self ..)) hs (by simpa using h1)) h
end Go.D
end
section
namespace Go.D
open Go Go.Pav Go.Pw P
attribute [-simp] List.getElem_cons_drop
variable {C:aI}
structure YC (C:aI):Prop extends aaE C,ZK C where
 f171:C.fns.get 171=some XM
def allA (ks:List Kd) (cap:Int) (l:List En) (x:List Nt) (i:Nat):AV :=
 if He ks cap l x≠0 then .tup [.agg [.ro 6 [] true],.int .i64 ((i+Xv ks cap l x:Nat):Int),.int .i64 (He ks cap l x)] else .tup [aL ((allL ks l x).map En.own) true,.int .i64 ((i+x.length:Nat):Int),.int .i64 0]
theorem Yb {ks:List Kd} {cap:Int} {l:List En} (h:ckE ks cap l=0):l.length≤1024:=((jA ks cap l).1 h).2.1
theorem XA (H:YC C) (ks:List Kd) (ke:Bool) (cap:Int) (hr:kG ks) (x:List Nt) (xe:Bool) (hx:∀ n ∈ x,xK ks n) (hxl:x.length≤1000):∀ n i,n+i=x.length→∀ (l:List En),(∀ e ∈ l,dX e)→ckE ks cap l=0 →
 zM C ⟨[(31,.int .i64 i),(30,.int .i64 x.length),(29,.ro 5 (x.map eNt) xe),(8,.int .i64 0),(6,.ptr 0 0 0),(3,.ptr 1 0 0),(2,.ro 5 (x.map eNt) xe)],
  [(0,.cells 1 [[.ro 6 ((l.map En.own).map eEn) true]] true true),(1,.cells 2 [[.ro 9 (ks.map eKd) ke,.int .i64 cap]] true true)],2⟩=some (allA ks cap l (x.drop i) i):=by
 intro n
 induction n with
 | zero =>
  intro i hi l hs hc
  simp only [zM];rw [aj AY.eq_1]
  have h1:x.drop i=[]:=List.drop_eq_nil_of_le (by omega)
  have h2:i=x.length:=by omega
  subst h2
  rw [h1]
  simp (disch:=omega) [aj MI.eq_1,aG,allA,He,allL,H.inl,ay,H.pp,ppB]
 | succ n ih =>
  intro i hi l hs hc
  have hlt:i < x.length:=by omega
  have hd:x.drop i=x[i]::x.drop (i+1):=List.drop_eq_getElem_cons hlt
  have hn:=hx x[i] (List.getElem_mem hlt)
  have hll:=Yb hc
  have hs':∀ e ∈ l.map En.own,dX e:=by
   intro e he
   obtain ⟨e',he',rfl⟩:=List.mem_map.1 he
   exact (hs e' he').ow
  have hap:=Vy H.toaaE ks ke cap hr (l.map En.own) true (by rw [List.length_map];omega) hs' ((X5 ks cap l).2 hc) x[i] hn
  rw [ad2,UW] at hap
  simp only [zM];rw [aj AY.eq_1]
  rw [hd]
  by_cases hE:apE ks cap l x[i]=0
  · rw [if_neg (by simp [hE])] at hap
    have:=ih (i+1) (by omega) (apL ks l x[i]) (abV hn hs hE) (Zh hn hc hE)
    have hA:allA ks cap l (x[i]::x.drop (i+1)) i=allA ks cap (apL ks l x[i]) (x.drop (i+1)) (i+1):=by
     have e1:i+(Xv ks cap (apL ks l x[i]) (x.drop (i+1))+1)=i+1+Xv ks cap (apL ks l x[i]) (x.drop (i+1)):=by omega
     have e2:i+((x.drop (i+1)).length+1)=i+1+(x.drop (i+1)).length:=by omega
     have q:¬ (apE ks cap l x[i]≠0):=by simp [hE]
     simp only [allA,He,Xv,allL,if_neg q,List.length_cons,e1,e2]
    rw [hA,← this]
    simp only [zM]
    simp [aL,aR] at hap
    simp (disch:=omega) [hlt,aG,hap,H.inl,ay,H.pp,ppB]
  · rw [if_pos hE] at hap
    have hA:allA ks cap l (x[i]::x.drop (i+1)) i=.tup [.agg [.ro 6 [] true],.int .i64 i,.int .i64 (apE ks cap l x[i])]:=by
     simp only [allA,He,Xv,if_pos hE,Nat.add_zero]
    rw [hA]
    generalize apE ks cap l x[i]=E at *
    simp only [bY,aL,aR] at hap
    simp [aL,aR] at hap
    simp (disch:=omega) [hlt,aG,hap,hE,H.inl,ay,H.pp,ppB]
def aae (ks:List Kd) (cap:Int) (l:List En) (x:List Nt):AV :=
 if ckE ks cap l≠0 then .tup [.agg [.ro 6 [] true],.int .i64 0,.int .i64 (ckE ks cap l)] else if 32 < (x.length:Int) then .tup [.agg [.ro 6 [] true],.int .i64 0,.int .i64 3] else allA ks cap l x 0
theorem aeW (H:YC C) (ks:List Kd) (ke:Bool) (cap:Int) (hr:kG ks) (l:List En) (e:Bool) (hl:l.length≤10000) (hs:∀ e ∈ l,dX e) (x:List Nt) (xe:Bool) (hx:∀ n ∈ x,xK ks n) (hxl:x.length≤1000) :
 FnW C 171 [aR ks ke cap,aL l e,.ro 5 (x.map eNt) xe]=some (aae ks cap l x):=by
 have hck:=lS H.toaaE.touJ.toDt.toAd ks ke cap hr l e (by omega) hs
 have hrm:=Il H.toaaE.touJ.toDt ks ke cap hr l e (by omega) hs 0 0
 have hin:inR 0 0 (l.length:Int)=true:=by unfold inR;simp
 have hsp:spl l (0:Int).toNat (0:Int).toNat []=l:=by simp [spl]
 rw [hin,hsp,if_neg (by simp:¬ (true=false))] at hrm
 rw [aF H.f171 rfl]
 unfold aae
 by_cases hc:ckE ks cap l=0
 · rw [if_neg (by simp [hc])] at hrm ⊢
   rw [hc] at hck
   have hov:ovE l=0:=((jA ks cap l).1 hc).2.2.2.2
   rw [TS,hov,if_neg (by simp)] at hrm
   by_cases h32:32 < (x.length:Int)
   · rw [if_pos h32]
     simp (disch:=omega) [XM,hck,h32,aG,H.inl,ay,H.pp,ppB]
   · rw [if_neg h32]
     have:=XA H ks ke cap hr x xe hx hxl x.length 0 rfl l hs hc
     simp only [zM] at this
     rw [List.drop_zero] at this
     simp at this
     simp (disch:=omega) [XM,hck,hrm,h32,this,aG,H.inl,ay,H.pp,ppB]
 · rw [if_pos hc]
   generalize ckE ks cap l=E at *
   simp (disch:=omega) [XM,hck,hc,aG,H.inl,ay,H.pp,ppB]
theorem LH (x:Int):0≤IntKind.u8.wrap x∧IntKind.u8.wrap x≤255:=by
 have:IntKind.u8.wrap x=x % 256:=rfl
 omega
structure Q5 where
 a:Int
 b:Int
 c:Int
 d:Int
 e:Int
@[simp] def eQ5 (q:Q5):List AV:=[.int .u8 q.a,.int .u8 q.b,.int .u8 q.c,.int .u8 q.d,.int .u8 q.e]
structure LX (q:Q5):Prop where
 a:0≤q.a∧q.a≤255
 b:0≤q.b∧q.b≤255
 c:0≤q.c∧q.c≤255
 d:0≤q.d∧q.d≤255
 e:0≤q.e∧q.e≤255
structure IY (C:aI):Prop extends uS C where
 akX:C.fns.get 452=some aeQ
def NtP (n:Nt):Prop:=(∀ y ∈ n.x,jq y)∧n.x.length≤3000
def NtO (x:Option AV):Prop:=∃ n:Nt,x=some (.agg (eNt n))∧NtP n
theorem NtO.mk {x:Option AV} (k a c t:Int) (l:List It) (e:Bool) (h:x=some (.agg [.int .u8 k,.int .i64 a,.int .i64 c,.int .i64 t,.ro 4 (l.map cIt) e])) (hl:∀ y ∈ l,jq y) (hn:l.length≤3000):NtO x :=
 ⟨⟨k,a,c,t,l,e⟩,h,hl,hn⟩
abbrev zNt:List AV:=[.int .u8 0,.int .i64 0,.int .i64 0,.int .i64 0,.ro 4 [] true]
theorem ahm (H:IY C) (l:List En) (le:Bool) (hs:∀ e ∈ l,dX e) (hl:l.length≤1024) (at_ c:Nat) (hac:at_+c≤l.length):∀ n i,n+i=c→∀ G:List It,(∀ y ∈ G,jq y)→G.length≤i+10 →
 NtO (Ed C ⟨[(16,.int .i64 i),(9,.sl 0 4 0 G.length G.length false),(8,.int .i64 c),(7,.int .i64 at_),(6,.ptr 1 0 0),(1,.ro 6 (l.map eEn) le)],[(0,.cells 4 (G.map cIt) true true),(1,.cells 5 [zNt] true true)],2⟩):=by
 intro n
 induction n with
 | zero =>
  intro i hi G hG hg
  have h3:¬ i < c:=by omega
  have hT:List.take G.length (List.map cIt G)=List.map cIt G:=List.take_of_length_le (by simp)
  refine NtO.mk 5 0 0 0 G false ?_ hG (by omega)
  simp only [Ed];rw [aj Ah.eq_1]
  simp (disch:=omega) [aj Jl.eq_1,h3,hT,aG,H.inl,ay,H.pp,ppB]
 | succ n ih =>
  intro i hi G hG hg
  have h3:i < c:=by omega
  have h4:at_+i < l.length:=by omega
  have hfit:(G.length+1) * 57≤35184372088832:=by omega
  have:=ih (i+1) (by omega) (G++[l[at_+i].i]) (by
   intro y hy
   rcases List.mem_append.1 hy with hy | hy
   · exact hG y hy
   · simp only [List.mem_singleton] at hy;subst hy;exact (hs _ (List.getElem_mem h4)).i) (by simp;omega)
  simp only [Ed] at this ⊢;rw [aj Ah.eq_1]
  simp at this
  simp (disch:=omega) [h3,h4,hfit,aG,H.inl,ay,H.pp,ppB]
  exact this
theorem aiX (H:IY C) (q:Q5) (hq:LX q) (l:List En) (le:Bool) (hs:∀ e ∈ l,dX e) (hl:l.length≤1024) (at_ c:Nat) (hac:at_+c≤l.length) :
 NtO (tZ C ⟨[(14,.int .i64 0),(13,.ptr 0 0 0),(8,.int .i64 c),(7,.int .i64 at_),(6,.ptr 1 0 0),(3,.ptr 2 0 0),(1,.ro 6 (l.map eEn) le)],
  [(0,.cells 5 [[.int .u8 4,.int .i64 at_,.int .i64 0,.int .i64 0,.ro 4 [] true]] true true),(1,.cells 5 [zNt] true true),(2,.cells 5 [eQ5 q] true true)],3⟩):=by
 obtain ⟨i0,h0,g0⟩:=qO H.touS ⟨0,IntKind.u8.wrap (q.d+0),q.e,q.e⟩ ⟨by simp,LH _,hq.e,hq.e⟩
 obtain ⟨i1,h1,g1⟩:=qO H.touS ⟨0,IntKind.u8.wrap (q.d+1),q.e,q.e⟩ ⟨by simp,LH _,hq.e,hq.e⟩
 obtain ⟨i2,h2,g2⟩:=qO H.touS ⟨0,IntKind.u8.wrap (q.d+2),q.e,q.e⟩ ⟨by simp,LH _,hq.e,hq.e⟩
 have w0:IntKind.u8.wrap 0=0:=rfl
 have w1:IntKind.u8.wrap 1=1:=rfl
 have w2:IntKind.u8.wrap 2=2:=rfl
 have m0:qY 0 3=0:=rfl
 have m1:qY 1 3=1:=rfl
 have m2:qY 2 3=2:=rfl
 have it:∀ (i:It) (j:Nat),Good i→(h:at_+j < l.length)→jq { i with k:=l[at_+j].i.k }:=fun i j g h=>⟨(hs _ (List.getElem_mem h)).i.k,g.it.t,g.it.m⟩
 simp only [eQ,eIt] at h0 h1 h2
 simp at h0
 have three:(c=3∨3 < c)→NtO (tZ C ⟨[(14,.int .i64 0),(13,.ptr 0 0 0),(8,.int .i64 c),(7,.int .i64 at_),(6,.ptr 1 0 0),(3,.ptr 2 0 0),(1,.ro 6 (l.map eEn) le)],
  [(0,.cells 5 [[.int .u8 4,.int .i64 at_,.int .i64 0,.int .i64 0,.ro 4 [] true]] true true),(1,.cells 5 [zNt] true true),(2,.cells 5 [eQ5 q] true true)],3⟩):=by
  intro hc
  have a0:at_ < l.length:=by omega
  have a1:at_+1 < l.length:=by omega
  have a2:at_+2 < l.length:=by omega
  refine NtO.mk 4 at_ 0 0 [{ i0 with k:=l[at_+0].i.k },{ i1 with k:=l[at_+1].i.k },{ i2 with k:=l[at_+2].i.k }] false ?_ (by
   intro y hy
   simp only [List.mem_cons,List.not_mem_nil,or_false] at hy
   rcases hy with rfl | rfl | rfl
   · exact it i0 0 g0 a0
   · exact it i1 1 g1 a1
   · exact it i2 2 g2 a2) (by simp)
  have hm:qY c 3=3:=by unfold qY;split <;> omega
  simp only [tZ]
  simp (disch:=omega) [aj tH.eq_1,aj vF.eq_1,hm,h0,h1,h2,w0,w1,w2,a0,a1,a2,aG,H.inl,ay,H.pp,ppB]
 have h5:c=0∨c=1∨c=2∨(c=3∨3 < c):=by omega
 rcases h5 with rfl | rfl | rfl | hc
 · refine NtO.mk 4 at_ 0 0 [] true ?_ (by simp) (by simp)
   simp only [tZ]
   simp (disch:=omega) [aj tH.eq_1,aj vF.eq_1,m0,aG,H.inl,ay,H.pp,ppB]
 · have a0:at_ < l.length:=by omega
   refine NtO.mk 4 at_ 0 0 [{ i0 with k:=l[at_+0].i.k }] false ?_ (by
    intro y hy
    simp only [List.mem_cons,List.not_mem_nil,or_false] at hy
    subst hy
    exact it i0 0 g0 a0) (by simp)
   simp only [tZ]
   simp (disch:=omega) [aj tH.eq_1,aj vF.eq_1,m1,h0,w0,a0,aG,H.inl,ay,H.pp,ppB]
 · have a0:at_ < l.length:=by omega
   have a1:at_+1 < l.length:=by omega
   refine NtO.mk 4 at_ 0 0 [{ i0 with k:=l[at_+0].i.k },{ i1 with k:=l[at_+1].i.k }] false ?_ (by
    intro y hy
    simp only [List.mem_cons,List.not_mem_nil,or_false] at hy
    rcases hy with rfl | rfl
    · exact it i0 0 g0 a0
    · exact it i1 1 g1 a1) (by simp)
   simp only [tZ]
   simp (disch:=omega) [aj tH.eq_1,aj vF.eq_1,m2,h0,h1,w0,w1,a0,a1,aG,H.inl,ay,H.pp,ppB]
 · exact three hc
theorem afM (H:IY C) (q:Q5) (hq:LX q) (l:List En) (le:Bool) (hs:∀ e ∈ l,dX e) (hl:l.length≤1024) (at_ c:Nat) (hac:at_+c≤l.length) (G:List It) (hG:∀ y ∈ G,jq y) (hg:G.length≤3) :
 NtO (CK C 0 (aP [.cell 6 5 true]) [] ED ⟨[(9,.sl 0 4 0 G.length G.length false),(8,.int .i64 c),(7,.int .i64 at_),(6,.ptr 1 0 0),(3,.ptr 2 0 0),(1,.ro 6 (l.map eEn) le)],[(0,.cells 4 (G.map cIt) true true),(1,.cells 5 [zNt] true true),(2,.cells 5 [eQ5 q] true true)],3⟩):=by
 have hT:List.take G.length (List.map cIt G)=List.map cIt G:=List.take_of_length_le (by simp)
 have hfit:(G.length+1) * 57≤35184372088832:=by omega
 have hm:q.a.tmod 16=q.a % 16:=Int.tmod_eq_emod_of_nonneg hq.a.1
 have hk1:0≤q.a % 16:=Int.emod_nonneg _ (by omega)
 have hk2:q.a % 16 < 16:=Int.emod_lt_of_pos _ (by omega)
 generalize hk:q.a % 16=k at *
 rw [aj ED.eq_1]
 by_cases c1:k < 4
 · refine NtO.mk 1 at_ 0 0 G false ?_ hG (by omega)
   simp (disch:=omega) [hm,c1,hT,wU8,aG,H.inl,ay,H.pp,ppB]
 · by_cases c2:k < 6
   · refine NtO.mk 2 at_ (qY c 3) 0 [] true ?_ (by simp) (by simp)
     simp (disch:=omega) [hm,c1,c2,wU8,aG,H.inl,ay,H.pp,ppB]
   · by_cases c3:k < 8
     · refine NtO.mk 3 at_ c (q.d.tmod ((l.length:Int) - c+1)) [] true ?_ (by simp) (by simp)
       have hnz:¬ ((l.length:Int) - c+1=0):=by omega
       have hd:=hq.d
       have hr1:0≤q.d.tmod ((l.length:Int) - c+1):=Int.tmod_nonneg _ hd.1
       have hr2:q.d.tmod ((l.length:Int) - c+1) < (l.length:Int) - c+1:=Int.tmod_lt_of_pos _ (by omega)
       simp (disch:=omega) [hm,c1,c2,c3,hnz,wU8,aG,H.inl,ay,H.pp,ppB]
     · by_cases c4:k < 10
       · have h:=aiX H q hq l le hs hl at_ c hac
         simp only [tZ] at h
         simp at h
         simp (disch:=omega) [hm,c1,c2,c3,c4,wU8,aG,H.inl,ay,H.pp,ppB]
         exact h
       · by_cases c5:k < 11
         · have h:=ahm H l le hs hl at_ c hac c 0 rfl G hG (by omega)
           simp only [Ed] at h
           simp at h
           simp (disch:=omega) [hm,c1,c2,c3,c4,c5,wU8,aG,H.inl,ay,H.pp,ppB]
           exact h
         · by_cases c6:k < 12
           · obtain ⟨i0,h0,g0⟩:=qO H.touS ⟨q.b,q.c,q.d,q.e⟩ ⟨hq.b,hq.c,hq.d,hq.e⟩
             simp only [eQ,eIt] at h0
             refine NtO.mk 1 at_ 0 0 (G++[i0]) false ?_ (by
              intro y hy
              rcases List.mem_append.1 hy with hy | hy
              · exact hG y hy
              · simp only [List.mem_singleton] at hy;subst hy;exact g0.it) (by simp;omega)
             have hT2:List.take (G.length+1) (List.map cIt G++[[.int .u64 i0.k,.int .u8 i0.t,.str i0.x,.ro 1 (i0.m.map eS) i0.e]])=List.map cIt G++[[.int .u64 i0.k,.int .u8 i0.t,.str i0.x,.ro 1 (i0.m.map eS) i0.e]]:=List.take_of_length_le (by simp)
             simp (disch:=omega) [hm,c1,c2,c3,c4,c5,c6,h0,hfit,hT2,wU8,aG,H.inl,ay,H.pp,ppB]
           · by_cases c7:k=12
             · have b1:q.b.tmod 8=q.b % 8:=Int.tmod_eq_emod_of_nonneg hq.b.1
               have b2:q.c.tmod 8=q.c % 8:=Int.tmod_eq_emod_of_nonneg hq.c.1
               have b3:q.d.tmod 4=q.d % 4:=Int.tmod_eq_emod_of_nonneg hq.d.1
               have b4:q.e.tmod 3=q.e % 3:=Int.tmod_eq_emod_of_nonneg hq.e.1
               refine NtO.mk (q.b % 8) (q.c % 8 - 2) (q.d % 4 - 1) (q.e % 3) [] true ?_ (by simp) (by simp)
               have e1:=Int.emod_nonneg q.c (show (8:Int)≠0 by omega)
               have e2:=Int.emod_lt_of_pos q.c (show (0:Int) < 8 by omega)
               have e3:=Int.emod_nonneg q.d (show (4:Int)≠0 by omega)
               have e4:=Int.emod_lt_of_pos q.d (show (0:Int) < 4 by omega)
               have e5:=Int.emod_nonneg q.e (show (3:Int)≠0 by omega)
               have e6:=Int.emod_lt_of_pos q.e (show (0:Int) < 3 by omega)
               have e7:=Int.emod_nonneg q.b (show (8:Int)≠0 by omega)
               have e8:=Int.emod_lt_of_pos q.b (show (0:Int) < 8 by omega)
               simp (disch:=omega) [hm,c1,c2,c3,c4,c5,c6,c7,b1,b2,b3,b4,wU8,aG,H.inl,ay,H.pp,ppB]
             · by_cases c8:k=13
               · refine NtO.mk 2 at_ (c+1) 0 [] true ?_ (by simp) (by simp)
                 simp (disch:=omega) [hm,c1,c2,c3,c4,c5,c6,c7,c8,wU8,aG,H.inl,ay,H.pp,ppB]
               · by_cases c9:k=14
                 · refine NtO.mk 4 at_ 0 0 (G++[⟨1,0,[],[],true⟩]) false ?_ (by
                    intro y hy
                    rcases List.mem_append.1 hy with hy | hy
                    · exact hG y hy
                    · simp only [List.mem_singleton] at hy;subst hy;exact ⟨by simp,by simp,by simp⟩) (by simp;omega)
                   have hT2:List.take (G.length+1) (List.map cIt G++[[.int .u64 1,.int .u8 0,.str [],.ro 1 [] true]])=List.map cIt G++[[.int .u64 1,.int .u8 0,.str [],.ro 1 [] true]]:=List.take_of_length_le (by simp)
                   simp (disch:=omega) [hm,c1,c2,c3,c4,c5,c6,c7,c8,c9,hfit,hT2,wU8,aG,H.inl,ay,H.pp,ppB]
                 · refine NtO.mk 1 at_ 0 0 (G++[⟨0,q.e,[],[],true⟩]) false ?_ (by
                    intro y hy
                    rcases List.mem_append.1 hy with hy | hy
                    · exact hG y hy
                    · simp only [List.mem_singleton] at hy;subst hy;exact ⟨by simp,hq.e,by simp⟩) (by simp;omega)
                   have hT2:List.take (G.length+1) (List.map cIt G++[[.int .u64 0,.int .u8 q.e,.str [],.ro 1 [] true]])=List.map cIt G++[[.int .u64 0,.int .u8 q.e,.str [],.ro 1 [] true]]:=List.take_of_length_le (by simp)
                   simp (disch:=omega) [aj Ec.eq_1,hm,c1,c2,c3,c4,c5,c6,c7,c8,c9,hfit,hT2,wU8,aG,H.inl,ay,H.pp,ppB]
theorem adH (H:IY C) (q:Q5) (hq:LX q) (l:List En) (le:Bool) (hs:∀ e ∈ l,dX e) (hl:l.length≤1024) (at_ c:Nat) (hac:at_+c≤l.length) (num:Nat) (hnum:num≤10):∀ n i:Nat,((n+i:Nat):Int)=q.c % 4→∀ G:List It,(∀ y ∈ G,jq y)→G.length≤i →
 NtO (Ew C ⟨[(10,.int .i64 i),(9,.sl 0 4 0 G.length G.length false),(8,.int .i64 c),(7,.int .i64 at_),(6,.ptr 1 0 0),(3,.ptr 2 0 0),(2,.int .i64 num),(1,.ro 6 (l.map eEn) le)],[(0,.cells 4 (G.map cIt) true true),(1,.cells 5 [zNt] true true),(2,.cells 5 [eQ5 q] true true)],3⟩):=by
 have hm:q.c.tmod 4=q.c % 4:=Int.tmod_eq_emod_of_nonneg hq.c.1
 have hm2:q.c % 4 < 4:=Int.emod_lt_of_pos _ (by omega)
 intro n
 induction n with
 | zero =>
  intro i hi G hG hg
  have hi2:q.c % 4=(i:Int):=by omega
  have h:=afM H q hq l le hs hl at_ c hac G hG (by omega)
  simp only [Ew];rw [aj yK.eq_1]
  simp at h
  simp (disch:=omega) [hm,hi2,wU8,aG,H.inl,ay,H.pp,ppB]
  exact h
 | succ n ih =>
  intro i hi G hG hg
  have h3:(i:Int) < q.c % 4:=by omega
  have hd:q.e.tdiv 2=q.e / 2:=Int.tdiv_eq_ediv_of_nonneg hq.e.1
  have he:=hq.e
  obtain ⟨i0,h0,g0⟩:=qO H.touS ⟨0,IntKind.u8.wrap (q.e+i),q.d,q.e / 2⟩ ⟨by simp,LH _,hq.d,by simp only;omega⟩
  simp only [eQ,eIt] at h0
  have hfit:(G.length+1) * 57≤35184372088832:=by omega
  have:=ih (i+1) (by omega) (G++[{ i0 with k:=100+(10 * num+i) }]) (by
   intro y hy
   rcases List.mem_append.1 hy with hy | hy
   · exact hG y hy
   · simp only [List.mem_singleton] at hy;subst hy;exact ⟨by simp only;omega,g0.it.t,g0.it.m⟩) (by simp;omega)
  simp only [Ew] at this ⊢;rw [aj yK.eq_1]
  simp at this
  simp (disch:=omega) [hm,h3,hd,h0,hfit,wU8,aG,nI,H.inl,ay,H.pp,ppB]
  exact this
theorem ae6 (H:IY C) (q:Q5) (hq:LX q) (l:List En) (le:Bool) (hs:∀ e ∈ l,dX e) (hl:l.length≤1024) (num:Nat) (hnum:num≤10) :
 NtO (FnW C 452 [.agg (eQ5 q),.ro 6 (l.map eEn) le,.int .i64 num]):=by
 have e1:q.b.tmod ((l.length:Int)+1)=((q.b.toNat % (l.length+1):Nat):Int):=by
  rw [Int.tmod_eq_emod_of_nonneg hq.b.1]
  obtain ⟨v,hv⟩:∃ v:Nat,q.b=v:=⟨q.b.toNat,by have:=hq.b.1;omega⟩
  rw [hv];simp
 have h1:q.b.toNat % (l.length+1) < l.length+1:=Nat.mod_lt _ (by omega)
 generalize q.b.toNat % (l.length+1)=at_ at *
 have e2:q.c.tmod ((l.length:Int) - at_+1)=((q.c.toNat % (l.length - at_+1):Nat):Int):=by
  rw [Int.tmod_eq_emod_of_nonneg hq.c.1]
  obtain ⟨v,hv⟩:∃ v:Nat,q.c=v:=⟨q.c.toNat,by have:=hq.c.1;omega⟩
  have hd:(l.length:Int) - at_+1=((l.length - at_+1:Nat):Int):=by omega
  rw [hv,hd];simp
 have h2:q.c.toNat % (l.length - at_+1) < l.length - at_+1:=Nat.mod_lt _ (by omega)
 generalize q.c.toNat % (l.length - at_+1)=c at *
 have h:=adH H q hq l le hs hl at_ c (by omega) num hnum (q.c % 4).toNat 0 (by have:=Int.emod_nonneg q.c (show (4:Int)≠0 by omega);omega) [] (by simp) (by simp)
 have hb:=hq.b
 have hc:=hq.c
 have n1:¬ ((l.length:Int)+1=0):=by omega
 have n2:¬ ((l.length:Int) - at_+1=0):=by omega
 rw [aF H.akX rfl]
 simp only [Ew] at h
 simp at h
 simp (disch:=omega) [aeQ,e1,e2,n1,n2,wU8,aG,H.inl,ay,H.pp,ppB]
 exact h
structure abo (C:aI):Prop extends IY C,ZK C where
 f326:C.fns.get 326=some adl
theorem NtP.inn {ks:List Kd} (hk:V6 ks) {n:Nt} (h:NtP n):xK ks n:=by
 refine ⟨h.1,by have:=h.2;omega,fun y hy ho=>?_⟩
 have ht:=mY ho
 have h2:=(h.1 y hy).t
 have:=hk.l
 have:=hk.b y.t (by omega) (by omega)
 omega
theorem Zv (H:abo C) (ks:List Kd) (hk:V6 ks) (xs:List Q5) (xe:Bool) (hx:∀ q ∈ xs,LX q) (hxl:xs.length < 9223372036854775808):∀ n i,n+i=6→∀ (l:List En) (fl:Bool) (N:List Nt),(∀ e ∈ l,dX e)→ckE ks 12 l=0→(∀ n ∈ N,xK ks n)→N.length=i →
 ∃ x:List Nt,wH C ⟨[(9,.int .i64 i),(8,.ro 6 (l.map eEn) fl),(7,.sl 0 5 0 N.length N.length false),(4,.ptr 1 0 0),(3,.ptr 2 0 0)],[(0,.cells 5 (N.map eNt) true true),(1,.cells 2 [[.ro 9 (ks.map eKd) true,.int .i64 12]] true true),(2,.cells 1 [[.ro 5 (xs.map eQ5) xe]] true true)],3⟩=some (.ro 5 (x.map eNt) false) ∧
  (∀ n ∈ x,xK ks n)∧x.length≤6:=by
 have stop:∀ (i:Nat) (l:List En) (fl:Bool) (N:List Nt),N.length=i→(xs.length≤i∨6≤i)→wH C ⟨[(9,.int .i64 i),(8,.ro 6 (l.map eEn) fl),(7,.sl 0 5 0 N.length N.length false),(4,.ptr 1 0 0),(3,.ptr 2 0 0)],[(0,.cells 5 (N.map eNt) true true),(1,.cells 2 [[.ro 9 (ks.map eKd) true,.int .i64 12]] true true),(2,.cells 1 [[.ro 5 (xs.map eQ5) xe]] true true)],3⟩=some (.ro 5 (N.map eNt) false):=by
  intro i l fl N hN hs
  have hT:List.take N.length (List.map eNt N)=List.map eNt N:=List.take_of_length_le (by simp)
  simp only [wH];rw [aj vI.eq_1]
  by_cases h1:i < xs.length
  · have h2:¬ i < 6:=by omega
    simp (disch:=omega) [aj DX.eq_1,h1,h2,hT,aG,H.inl,ay,H.pp,ppB]
  · simp (disch:=omega) [aj DX.eq_1,h1,hT,aG,H.inl,ay,H.pp,ppB]
 intro n
 induction n with
 | zero =>
  intro i hi l fl N hs hc hN hl
  exact ⟨N,stop i l fl N hl (.inr (by omega)),hN,by omega⟩
 | succ n ih =>
  intro i hi l fl N hs hc hN hl
  by_cases h1:i < xs.length
  · have h2:i < 6:=by omega
    obtain ⟨m,hm,hmp⟩:=ae6 H.toIY xs[i] (hx _ (List.getElem_mem h1)) l fl hs (Yb hc) i (by omega)
    have hin:=hmp.inn hk
    have hap:=RN H.toZK ks true 12 hk.r l fl hs hc m hin
    have hfit:(N.length+1) * 57≤35184372088832:=by omega
    have hN2:∀ n ∈ N++[m],xK ks n:=by
     intro n hn
     rcases List.mem_append.1 hn with hn | hn
     · exact hN n hn
     · simp only [List.mem_singleton] at hn;subst hn;exact hin
    simp only [eQ5] at hm
    by_cases hE:apE ks 12 l m=0
    · rw [if_neg (by simp [hE])] at hap
      obtain ⟨x,this,hxx⟩:=ih (i+1) (by omega) (apL ks l m) false (N++[m]) (abV hin hs hE) (Zh hin hc hE) hN2 (by simp [hl])
      refine ⟨x,?_,hxx⟩
      rw [← this]
      simp only [wH];rw [aj vI.eq_1]
      simp only [aR,eNt] at hap
      simp (disch:=omega) [h1,h2,hm,hap,hfit,aG,H.inl,ay,H.pp,ppB]
    · rw [if_pos hE] at hap
      obtain ⟨x,this,hxx⟩:=ih (i+1) (by omega) l fl (N++[m]) hs hc hN2 (by simp [hl])
      refine ⟨x,?_,hxx⟩
      rw [← this]
      generalize apE ks 12 l m=E at *
      simp only [wH];rw [aj vI.eq_1]
      simp only [aR,eNt,rfE] at hap
      simp (disch:=omega) [h1,h2,hm,hap,hE,hfit,aG,H.inl,ay,H.pp,ppB]
  · exact ⟨N,stop i l fl N hl (.inl (by omega)),hN,by omega⟩
theorem ajo (H:abo C) (ks:List Kd) (hk:V6 ks) (xs:List Q5) (xe:Bool) (hx:∀ q ∈ xs,LX q) (hxl:xs.length < 9223372036854775808) (l:List En) (fl:Bool) (hs:∀ e ∈ l,dX e) (hc:ckE ks 12 l=0) :
 ∃ x:List Nt,FnW C 326 [.agg [.ro 5 (xs.map eQ5) xe],aR ks true 12,aL l fl]=some (.ro 5 (x.map eNt) false)∧(∀ n ∈ x,xK ks n)∧x.length≤6:=by
 obtain ⟨x,h,hx2⟩:=Zv H ks hk xs xe hx hxl 6 0 rfl l fl [] hs hc (by simp) rfl
 refine ⟨x,?_,hx2⟩
 rw [aF H.f326 rfl]
 simp only [wH] at h
 simp at h
 simp (disch:=omega) [adl,h,aG,H.inl,ay,H.pp,ppB]
end Go.D
end
section
namespace Go.D
open Go Go.Pav Go.Pw P
set_option maxHeartbeats 1000000
variable {C:aI}
theorem aep (e:En):mZ (eEn e)=some e.i.k:=by
 have h:rE (.ro 1 (e.i.m.map eS) e.i.e)=true:=by simp [rE,markRow]
 simp only [eEn,mZ]
 rw [if_pos h]
theorem Qe:∀ l:List En,bg mZ (l.map eEn)=some (iL l)
 | []=>rfl
 | e::r=>by
  simp only [List.map_cons,bg,aep,iL]
  rw [Qe r]
  rfl
theorem abT (l:List En) (f:Bool) (hl:l.length≤1000000):jR (aL l f)=some (iL l):=by
 simp only [aL,jR]
 rw [if_pos (by simp;exact hl),Qe]
theorem Yi (h:C.fns.get 324=some abZ) (R N:List En) (f g:Bool) (hR:R.length≤1000000) (hN:N.length≤1000000) (k d:Int) :
 FnW C 324 [aL R f,aL N g,aA k d]=some (aA (uV (iL R) (iL N) k d).1 (uV (iL R) (iL N) k d).2):=by
 have h1:=abT R f hR
 have h2:=abT N g hN
 simp only [aL] at h1 h2 ⊢
 have h3:qA 0 [.agg [.ro 6 (R.map eEn) f],.agg [.ro 6 (N.map eEn) g],aA k d]=some (aA (uV (iL R) (iL N) k d).1 (uV (iL R) (iL N) k d).2):=by
  simp only [qA,if_true,ku,h1,h2]
  rfl
 rw [aF h rfl]
 simp [abZ,ags,pJ,dJ,h1,h2]
end Go.D
end
section
namespace Go.D
open Go Go.Pav Go.Pw P
set_option maxHeartbeats 1000000
attribute [-simp] List.getElem_cons_drop
variable {C:aI}
structure Yp (C:aI):Prop extends xW C,abo C,YC C where
 f163:C.fns.get 163=some Cc
 f324:C.fns.get 324=some abZ
section walk
variable (H:Yp C) (hlives:FnW C 164 []=some (.bool true)) (q:List (List AV)) (qe:Bool) (zz:List (List AV)) (ze:Bool) (r a b:Int) (y:List (List AV)) (ye:Bool) (ks:List Kd) (R:List En) (f:Bool) (x:List Nt) (o v k d:Int)
 (hlof:FnW C 130 [.agg [.ro 4 q qe,.ro 1 zz ze,.int .u8 r]]=some (.tup [aR ks true 12,aL R f])) (hbof:FnW C 326 [.agg [.ro 5 y ye],aR ks true 12,aL R f]=some (.ro 5 (x.map eNt) false))
 (hw:FnW C 256 [.agg [.int .u8 a,.int .u16 b],aL R f]=some (.tup [.int .i64 o,.int .i64 v]))
 (hA:FnW C 160 [aL R f,.int .i64 o]=some (.tup [aA k d,.int .i64 0])) (hO:FnW C 161 [aL R f,.int .i64 v,aA k d]=some (.tup [.int .i64 o,.int .i64 0]))
 (hH:FnW C 321 [aL R f,.int .i64 o,aA k d]=some (.bool true)) (hC:FnW C 318 [aA k d]=some (.int .i64 0))
include H hlives hlof hbof hw hA hO hH hC
theorem acU (n E:Int) (hE:E≠0) (hM:FnW C 171 [aR ks true 12,aL R f,.ro 5 (x.map eNt) false]=some (.tup [.agg [.ro 6 [] true],.int .i64 n,.int .i64 E])) :
 FnW C 163 [.agg [.ro 4 q qe,.ro 1 zz ze,.int .u8 r],.agg [.int .u8 a,.int .u16 b],.agg [.ro 5 y ye]]=some (.bool true):=by
 rw [aF H.f163 rfl]
 simp only [aR,aL,aA] at hlof hbof hw hA hO hH hC hM
 simp (disch:=omega) [Cc,hlof,hbof,hw,hA,hO,hH,hC,hM,hE,hlives,aG,H.inl,ay,H.pp,ppB]
theorem aao (n:Int) (N:List En) (kx ky t mo fd:Int) (hl:Bool) (hM:FnW C 171 [aR ks true 12,aL R f,.ro 5 (x.map eNt) false]=some (.tup [aL N true,.int .i64 n,.int .i64 0]))
 (h324:FnW C 324 [aL R f,aL N true,aA k d]=some (aA kx ky)) (h161:FnW C 161 [aL N true,.int .i64 v,aA kx ky]=some (.tup [.int .i64 t,.int .i64 0])) (h318:FnW C 318 [aA kx ky]=some (.int .i64 0))
 (h327:FnW C 327 [.ro 6 (N.map eEn) true,.int .i64 v]=some (.int .i64 mo)) (h0:0≤t) (h1:t≤mo) (h321:FnW C 321 [aL N true,.int .i64 t,aA kx ky]=some (.bool hl)) (hld:hl=true∨t=0∨t=mo)
 (h239:FnW C 239 [.ro 6 (N.map eEn) true,.int .u64 k]=some (.int .i64 fd)) (hR:R.length≤1024) (hs:R≠[]→0≤fd→kx=k∧ky=d) :
 FnW C 163 [.agg [.ro 4 q qe,.ro 1 zz ze,.int .u8 r],.agg [.int .u8 a,.int .u16 b],.agg [.ro 5 y ye]]=some (.bool true):=by
 have c0:¬ t < 0:=by omega
 have c1:¬ mo < t:=by omega
 rw [aF H.f163 rfl]
 simp only [aR,aL,aA] at hlof hbof hw hA hO hH hC hM h324 h161 h318 h321
 have hb:hl=true∨(hl=false∧t=0)∨(hl=false∧t≠0∧t=mo):=by
  cases hl
  · rcases hld with q | q | q
    · cases q
    · exact .inr (.inl ⟨rfl,q⟩)
    · by_cases c3:t=0
      · exact .inr (.inl ⟨rfl,c3⟩)
      · exact .inr (.inr ⟨rfl,c3,q⟩)
  · exact .inl rfl
 by_cases hne:R=[]
 · subst hne
   simp only [List.map_nil] at hlof hbof hw hA hO hH hM h324
   rcases hb with rfl | ⟨rfl,q⟩ | ⟨rfl,q,q2⟩
   · simp (disch:=omega) [Cc,hlof,hbof,hw,hA,hO,hH,hC,hM,h324,h161,h318,h327,h321,c0,c1,hlives,aG,H.inl,ay,H.pp,ppB]
   · simp (disch:=omega) [Cc,hlof,hbof,hw,hA,hO,hH,hC,hM,h324,h161,h318,h327,h321,c0,c1,eq_true q,hlives,aG,H.inl,ay,H.pp,ppB]
   · simp (disch:=omega) [Cc,hlof,hbof,hw,hA,hO,hH,hC,hM,h324,h161,h318,h327,h321,c0,c1,q,eq_true q2,hlives,aG,H.inl,ay,H.pp,ppB]
 · have hR0:0 < R.length:=List.length_pos_iff.2 hne
   by_cases hfd:0≤fd
   · obtain ⟨rfl,rfl⟩:=hs hne hfd
     rcases hb with rfl | ⟨rfl,q⟩ | ⟨rfl,q,q2⟩
     · simp (disch:=omega) [Cc,hlof,hbof,hw,hA,hO,hH,hC,hM,h324,h161,h318,h327,h321,h239,c0,c1,hne,hR0,hfd,hlives,aG,H.inl,ay,H.pp,ppB]
     · simp (disch:=omega) [Cc,hlof,hbof,hw,hA,hO,hH,hC,hM,h324,h161,h318,h327,h321,h239,c0,c1,hne,hR0,hfd,eq_true q,hlives,aG,H.inl,ay,H.pp,ppB]
     · simp (disch:=omega) [Cc,hlof,hbof,hw,hA,hO,hH,hC,hM,h324,h161,h318,h327,h321,h239,c0,c1,hne,hR0,hfd,q,eq_true q2,hlives,aG,H.inl,ay,H.pp,ppB]
   · rcases hb with rfl | ⟨rfl,q⟩ | ⟨rfl,q,q2⟩
     · simp (disch:=omega) [Cc,hlof,hbof,hw,hA,hO,hH,hC,hM,h324,h161,h318,h327,h321,h239,c0,c1,hne,hR0,hfd,hlives,aG,H.inl,ay,H.pp,ppB]
     · simp (disch:=omega) [Cc,hlof,hbof,hw,hA,hO,hH,hC,hM,h324,h161,h318,h327,h321,h239,c0,c1,hne,hR0,hfd,eq_true q,hlives,aG,H.inl,ay,H.pp,ppB]
     · simp (disch:=omega) [Cc,hlof,hbof,hw,hA,hO,hH,hC,hM,h324,h161,h318,h327,h321,h239,c0,c1,hne,hR0,hfd,q,eq_true q2,hlives,aG,H.inl,ay,H.pp,ppB]
end walk
end Go.D
end
section
namespace Go.D
open Go Go.Pav Go.Pw P
set_option maxHeartbeats 1000000
variable {C:aI}
theorem Zd (H:Yp C) (hone:∀ q:Q4,QIn q→∃ i:It,FnW C 422 [.agg (eQ q)]=some (eIt i)∧Good i) (hlives:FnW C 164 []=some (.bool true))
 (q:List Q4) (qe:Bool) (hq:∀ x ∈ q,QIn x) (z:List Int) (ze:Bool) (hz:∀ s ∈ z,0≤s∧s≤255) (hzl:z.length < 9223372036854775808) (r:Int) (hr:0≤r∧r≤255)
 (a b:Int) (ha:0≤a∧a≤255) (hb:0≤b∧b≤65535)
 (y:List Q5) (ye:Bool) (hy:∀ x ∈ y,LX x) (hyl:y.length < 9223372036854775808) :
 FnW C 163 [.agg [.ro 4 (q.map eQ) qe,.ro 1 (z.map eU8) ze,.int .u8 r],.agg [.int .u8 a,.int .u16 b],.agg [.ro 5 (y.map eQ5) ye]]=some (.bool true):=by
 obtain ⟨R,f,hof,hl,hg,hnd⟩:=aiM H.toabo.toIY.touS hone q qe hq z ze hz hzl r hr
 have hck:=aff r hr R (by omega) hg hnd
 have hin:∀ x ∈ R,dX x:=fun x hx=>(hg x hx).en
 have hks:=agm r hr
 have hzd:=Xk hl hg
 obtain ⟨x,hbo,hx,hxl⟩:=ajo H.toabo (eu r) hks y ye hy hyl R f hin hck
 obtain ⟨o,v,hw,hp⟩:=acA H.toxW R f hzd a b ha hb
 have hkR:=aaS hck hin
 generalize eu r=ks at *
 have hru:=hks.r
 have hv:=hp.v0
 have ho:=hp.s0
 have hom:iI R v≤4611686018427387904:=by
  have:=hzd.t
  unfold iI;split <;> omega
 obtain ⟨k,d,hA,hok,hoff,hhd,hk0⟩:∃ k d:Int,FnW C 160 [aL R f,.int .i64 o]=some (.tup [aA k d,.int .i64 0])∧Py R k d∧yI R v k d=o∧Xi R o k d=true∧(R≠[]→k≠0):=by
  by_cases hne:R=[]
  · subst hne
    have h0:o=0:=by
     have h:iI [] v≤0:=by
      have h0:sm []=0:=rfl
      unfold iI;rw [if_pos (by omega)];omega
     omega
    subst h0
    exact ⟨0,0,aeV H.toxW f,⟨by omega,by omega,fun _=>rfl,fun h=>absurd rfl h⟩,by unfold yI;rw [if_pos rfl],by simp [Xi],fun h=>absurd rfl h⟩
  · obtain ⟨p,hpl,p1,p2,p3,p4,p5,p6⟩:=akF hp hne (by simpa [iL,bC] using hnd) hkR
    exact ⟨_,_,agS H.toxW R f hzd o p hpl p1 p2,p3,p5,p6,fun _=>by omega⟩
 have hO:=I4 H.toxW R f hzd v hv k d hok
 rw [hoff] at hO
 have hH:=TY H.toxW R f hzd o k d ⟨ho.1,by omega⟩ hok
 rw [show (decide (k=0)||(decide (top R (fP k 0 R).toNat≤o)&&decide (o - top R (fP k 0 R).toNat=d)))=true from hhd] at hH
 have hC:=x9 H.toxW k d
 rw [hok.e] at hC
 have hM:=aeW H.toYC ks true 12 hru R f (by omega) hin x false hx (by omega)
 unfold aae allA at hM
 rw [if_neg (by simp [hck]),if_neg (by omega)] at hM
 by_cases h1:He ks 12 R x=0
 · rw [if_neg (by simp [h1])] at hM
   have hcM:=(X5 ks 12 _).2 (Zw x R hx hck h1)
   have hiM:∀ e ∈ (allL ks R x).map En.own,dX e:=fun e he=>by
    obtain ⟨e',he',rfl⟩:=List.mem_map.1 he
    exact (all_in x R hx hin h1 e' he').ow
   have hkN:=aaS hcM hiM
   have hzN:=aiw hcM
   generalize (allL ks R x).map En.own=N at *
   have hNl:=hzN.n
   have h324:=Yi H.f324 R N f true (by omega) (by omega) k d
   have an:=ahf hkN (iL R) hok.k0 hok.d0 hok.z
   have hst:R≠[]→0≤fP k 0 N→(uV (iL R) (iL N) k d).1=k∧(uV (iL R) (iL N) k d).2=d:=fun h2 h3=>by
    rw [aaW (iL R) (hk0 h2) h3];exact ⟨rfl,rfl⟩
   generalize (uV (iL R) (iL N) k d).1=kx at *
   generalize (uV (iL R) (iL N) k d).2=ky at *
   have h161:=I4 H.toxW N true hzN v hv kx ky an
   have h318:=x9 H.toxW kx ky
   rw [an.e] at h318
   have hnn:=hzN.nn
   have htt:=hzN.t
   have h327:=NT H.toxW.tooz N true hzN v (by omega)
   obtain ⟨r0,r1⟩:=afb hzN v kx ky
   have hmm:iI N v≤4611686018427387904:=by unfold iI;split <;> omega
   have h321:=TY H.toxW N true hzN (yI N v kx ky) kx ky ⟨r0,by omega⟩ an
   have hld:=aah (l:=N) v kx ky an.d0.1
   have h239:=Qi H.toxW.tooz.tojU N true k (by omega)
   exact aao H hlives (q.map eQ) qe (z.map eU8) ze r a b (y.map eQ5) ye ks R f x o v k d hof hbo hw hA hO hH hC _ N kx ky _ _ _ _ hM h324 h161 h318 h327 r0 r1 h321 hld h239 (by omega) hst
 · rw [if_pos h1] at hM
   exact acU H hlives (q.map eQ) qe (z.map eU8) ze r a b (y.map eQ5) ye ks R f x o v k d hof hbo hw hA hO hH hC _ _ h1 hM
end Go.D
end
