/- Part of the theory that the claims of this work use: D01, L24, PwGlue, PwGlue2, G00, O01, O02, O03, O04, O06, O05, O07, O08, O09, O10, O11, O12, O13, S02, O14, O15, O16, O17. No conditions of its own. -/
import Derived.Test.YtpgfajflkkjdaaaGreatT5
import Derived.Laws.RangeAny
import Derived.Test.YtpgfajflkkjdaaaGreatChecked
import Derived.KernelRfl
import Derived.ChangeSame
import Derived.ChangeArms
import Derived.ReadAgain
import Derived.Handed
import Derived.JoinedOf
import Derived.RowKit
import Derived.Test.YtpgfajflkkjdaaaGreatRows
import Derived.ProofKit
set_option linter.unusedVariables false
set_option linter.unusedSimpArgs false
set_option maxHeartbeats 4000000
set_option maxRecDepth 10000
section
namespace Go.D
open Go Go.Pav Go.Pw P
attribute [-simp] List.getElem_cons_drop
variable {C:WProg}
def ppB (f:Nat):Bool:=f == 502||f == 494||f == 497||f == 434||f == 518||f == 549||f == 402||f == 411||f == 446||f == 466||f == 429||f == 514||f == 374||f == 480||(decide (1000≤f)&&decide (f < 2000))
def inlB (f:Nat):Bool:=f == 217||f == 459||decide (2000≤f)
structure HasS (C:WProg):Prop where
 f578:C.fns.get 578=some w578
 f543:C.fns.get 543=some w543
 inl:C.inl=inlB
 pp:C.pp=ppB
structure Pred (C:WProg) (g:Nat) (Q:UInt8→Bool):Prop where
 asc:∀ b:UInt8,b.toNat < 128→FnW C g [.int .i32 b.toNat]=some (.bool (!Q b))
 high:∀ r:Nat,128≤r→FnW C g [.int .i32 r]=some (.bool true)
 qh:∀ b:UInt8,128≤b.toNat→Q b=false
 ne:ppB g=false
 ni:inlB g=false
theorem dec_ascii (s:List UInt8) (pos:Nat) (h:pos < s.length) (ha:s[pos].toNat < 128):Utf8.decode ⟨⟨s⟩⟩ pos=(s[pos].toNat,1):=decode_ascii ⟨⟨s⟩⟩ pos h ha
theorem dec_high (s:List UInt8) (pos:Nat) (h:pos < s.length) (ha:128≤s[pos].toNat):128≤(Utf8.decode ⟨⟨s⟩⟩ pos).1∧1≤(Utf8.decode ⟨⟨s⟩⟩ pos).2:=decode_high ⟨⟨s⟩⟩ pos h ha
theorem index_loop (H:HasS C) {g:Nat} {Q:UInt8→Bool} (G:Pred C g Q) (s:List UInt8):∀ n pos,n+pos=s.length →
 ∃ v:Int,w578_K0 C ⟨[(10,.ptr 0 0 0),(2,.bool true),(1,.fn g [])],[(0,.iter s pos)],1⟩=some (.int .i64 v)∧decide (v < 0)=(s.drop pos).all Q:=by
 intro n
 induction n with
 | zero =>
  intro pos hp
  simp only [w578_K0];rw [ck_unf w578_B0.eq_1]
  have h1:s.drop pos=[]:=List.drop_eq_nil_of_le (by omega)
  have h3:¬ pos < s.length:=by omega
  exact ⟨-1,by simp [ck_unf w578_c0.eq_1,h3],by simp [h1]⟩
 | succ n ih =>
  intro pos hp
  have h1:pos < s.length:=by omega
  have hN:=G.ne;have hI:=G.ni
  rw [drop_cons h1]
  by_cases ha:s[pos].toNat < 128
  · have hd:=dec_ascii s pos h1 ha
    have hb:=G.asc s[pos] ha
    by_cases c:Q s[pos]=true
    · obtain ⟨v,hv,hq⟩:=ih (pos+1) (by omega)
      refine ⟨v,?_,by simp [hq,c]⟩
      simp only [w578_K0] at hv ⊢;rw [ck_unf w578_B0.eq_1]
      simp (disch:=omega) [h1,hd,hb,c,H.inl,hI,H.pp,hN,hv]
    · refine ⟨pos,?_,by simp [c]⟩
      simp only [w578_K0];rw [ck_unf w578_B0.eq_1]
      simp (disch:=omega) [h1,hd,hb,c,H.inl,hI,H.pp,hN]
  · have hd:=dec_high s pos h1 (by omega)
    have hb:=G.high (Utf8.decode ⟨⟨s⟩⟩ pos).1 hd.1
    have hq:=G.qh s[pos] (by omega)
    refine ⟨pos,?_,by simp [hq]⟩
    simp only [w578_K0];rw [ck_unf w578_B0.eq_1]
    obtain ⟨D,hD⟩:∃ D,Utf8.decode ⟨⟨s⟩⟩ pos=D:=⟨_,rfl⟩
    rw [hD] at hb
    simp (disch:=omega) [h1,hD,hb,H.inl,hI,H.pp,hN]
theorem index_ok (H:HasS C) {g:Nat} {Q:UInt8→Bool} (G:Pred C g Q) (s:List UInt8) :
 ∃ v:Int,FnW C 543 [.str s,.fn g []]=some (.int .i64 v)∧decide (v < 0)=s.all Q:=by
 obtain ⟨v,h,q⟩:=index_loop H G s s.length 0 (by simp)
 refine ⟨v,?_,q⟩
 have h2:FnW C 578 [.str s,.fn g [],.bool true]=some (.int .i64 v):=by
  rw [fnW_eq H.f578 rfl]
  simp only [w578_K0] at h
  simp [w578,h]
 rw [fnW_eq H.f543 rfl]
 simp [w543,H.inl,inlB,H.pp,ppB,h2]
end Go.D
end
section
set_option maxRecDepth 100000
namespace P
open Go Go.Pav Go.Pw Go.Proofs
theorem l0:FnOk Tryz.prog noLaid ids alts 0 (erFn w0):=.inl ⟨Tryz.f2,Tryz.func2,by kernel_rfl⟩
theorem l62:FnOk Tryz.prog noLaid ids alts 62 (erFn w62):=.inl ⟨Tryz.f34,Tryz.func34,by kernel_rfl⟩
theorem l77:FnOk Tryz.prog noLaid ids alts 77 (erFn w77):=.inl ⟨Tryz.f69,Tryz.func69,by kernel_rfl⟩
theorem l78:FnOk Tryz.prog noLaid ids alts 78 (erFn w78):=.inl ⟨Tryz.f70,Tryz.func70,by kernel_rfl⟩
theorem l79:FnOk Tryz.prog noLaid ids alts 79 (erFn w79):=.inl ⟨Tryz.f71,Tryz.func71,by kernel_rfl⟩
theorem l80:FnOk Tryz.prog noLaid ids alts 80 (erFn w80):=.inl ⟨Tryz.f73,Tryz.func73,by kernel_rfl⟩
theorem l84:FnOk Tryz.prog noLaid ids alts 84 (erFn w84):=.inl ⟨Tryz.f3,Tryz.func3,by kernel_rfl⟩
theorem l94:FnOk Tryz.prog noLaid ids alts 94 (erFn w94):=.inl ⟨Tryz.f4,Tryz.func4,by kernel_rfl⟩
theorem l95:FnOk Tryz.prog noLaid ids alts 95 (erFn w95):=.inl ⟨Tryz.f5,Tryz.func5,by kernel_rfl⟩
theorem l96:FnOk Tryz.prog noLaid ids alts 96 (erFn w96):=.inl ⟨Tryz.f6,Tryz.func6,by kernel_rfl⟩
theorem l97:FnOk Tryz.prog noLaid ids alts 97 (erFn w97):=.inl ⟨Tryz.f7,Tryz.func7,by kernel_rfl⟩
theorem l98:FnOk Tryz.prog noLaid ids alts 98 (erFn w98):=.inl ⟨Tryz.f8,Tryz.func8,by kernel_rfl⟩
theorem l99:FnOk Tryz.prog noLaid ids alts 99 (erFn w99):=.inl ⟨Tryz.f9,Tryz.func9,by kernel_rfl⟩
theorem l101:FnOk Tryz.prog noLaid ids alts 101 (erFn w101):=.inl ⟨Tryz.f11,Tryz.func11,by kernel_rfl⟩
theorem l102:FnOk Tryz.prog noLaid ids alts 102 (erFn w102):=.inl ⟨Tryz.f12,Tryz.func12,by kernel_rfl⟩
theorem l103:FnOk Tryz.prog noLaid ids alts 103 (erFn w103):=.inl ⟨Tryz.f13,Tryz.func13,by kernel_rfl⟩
theorem l104:FnOk Tryz.prog noLaid ids alts 104 (erFn w104):=.inl ⟨Tryz.f14,Tryz.func14,by kernel_rfl⟩
theorem l105:FnOk Tryz.prog noLaid ids alts 105 (erFn w105):=.inl ⟨Tryz.f15,Tryz.func15,by kernel_rfl⟩
theorem l106:FnOk Tryz.prog noLaid ids alts 106 (erFn w106):=.inl ⟨Tryz.f16,Tryz.func16,by kernel_rfl⟩
theorem l187:FnOk Tryz.prog noLaid ids alts 187 (erFn w187):=.inl ⟨Tryz.f17,Tryz.func17,by kernel_rfl⟩
theorem l188:FnOk Tryz.prog noLaid ids alts 188 (erFn w188):=.inl ⟨Tryz.f18,Tryz.func18,by kernel_rfl⟩
theorem l189:FnOk Tryz.prog noLaid ids alts 189 (erFn w189):=.inl ⟨Tryz.f19,Tryz.func19,by kernel_rfl⟩
theorem l190:FnOk Tryz.prog noLaid ids alts 190 (erFn w190):=.inl ⟨Tryz.f20,Tryz.func20,by kernel_rfl⟩
theorem l191:FnOk Tryz.prog noLaid ids alts 191 (erFn w191):=.inl ⟨Tryz.f21,Tryz.func21,by kernel_rfl⟩
theorem l192:FnOk Tryz.prog noLaid ids alts 192 (erFn w192):=.inl ⟨Tryz.f22,Tryz.func22,by kernel_rfl⟩
theorem l193:FnOk Tryz.prog noLaid ids alts 193 (erFn w193):=.inl ⟨Tryz.f23,Tryz.func23,by kernel_rfl⟩
theorem l194:FnOk Tryz.prog noLaid ids alts 194 (erFn w194):=.inl ⟨Tryz.f24,Tryz.func24,by kernel_rfl⟩
theorem l195:FnOk Tryz.prog noLaid ids alts 195 (erFn w195):=.inl ⟨Tryz.f25,Tryz.func25,by kernel_rfl⟩
theorem l196:FnOk Tryz.prog noLaid ids alts 196 (erFn w196):=.inl ⟨Tryz.f26,Tryz.func26,by kernel_rfl⟩
theorem l197:FnOk Tryz.prog noLaid ids alts 197 (erFn w197):=.inl ⟨Tryz.f27,Tryz.func27,by kernel_rfl⟩
theorem l198:FnOk Tryz.prog noLaid ids alts 198 (erFn w198):=.inl ⟨Tryz.f28,Tryz.func28,by kernel_rfl⟩
theorem l200:FnOk Tryz.prog noLaid ids alts 200 (erFn w200):=.inl ⟨Tryz.f30,Tryz.func30,by kernel_rfl⟩
theorem l201:FnOk Tryz.prog noLaid ids alts 201 (erFn w201):=.inl ⟨Tryz.f31,Tryz.func31,by kernel_rfl⟩
theorem l203:FnOk Tryz.prog noLaid ids alts 203 (erFn w203):=.inl ⟨Tryz.f33,Tryz.func33,by kernel_rfl⟩
theorem l204:FnOk Tryz.prog noLaid ids alts 204 (erFn w204):=.inl ⟨Tryz.f35,Tryz.func35,by kernel_rfl⟩
theorem l205:FnOk Tryz.prog noLaid ids alts 205 (erFn w205):=.inl ⟨Tryz.f36,Tryz.func36,by kernel_rfl⟩
theorem l206:FnOk Tryz.prog noLaid ids alts 206 (erFn w206):=.inl ⟨Tryz.f37,Tryz.func37,by kernel_rfl⟩
theorem l207:FnOk Tryz.prog noLaid ids alts 207 (erFn w207):=.inl ⟨Tryz.f38,Tryz.func38,by kernel_rfl⟩
theorem l208:FnOk Tryz.prog noLaid ids alts 208 (erFn w208):=.inl ⟨Tryz.f39,Tryz.func39,by kernel_rfl⟩
theorem l210:FnOk Tryz.prog noLaid ids alts 210 (erFn w210):=.inl ⟨Tryz.f41,Tryz.func41,by kernel_rfl⟩
theorem l212:FnOk Tryz.prog noLaid ids alts 212 (erFn w212):=.inl ⟨Tryz.f43,Tryz.func43,by kernel_rfl⟩
theorem l213:FnOk Tryz.prog noLaid ids alts 213 (erFn w213):=.inl ⟨Tryz.f44,Tryz.func44,by kernel_rfl⟩
theorem l214:FnOk Tryz.prog noLaid ids alts 214 (erFn w214):=.inl ⟨Tryz.f45,Tryz.func45,by kernel_rfl⟩
theorem l215:FnOk Tryz.prog noLaid ids alts 215 (erFn w215):=.inl ⟨Tryz.f46,Tryz.func46,by kernel_rfl⟩
theorem l363:FnOk Tryz.prog noLaid ids alts 363 (erFn w363):=.inl ⟨Tryz.f47,Tryz.func47,by kernel_rfl⟩
theorem l364:FnOk Tryz.prog noLaid ids alts 364 (erFn w364):=.inl ⟨Tryz.f48,Tryz.func48,by kernel_rfl⟩
theorem l365:FnOk Tryz.prog noLaid ids alts 365 (erFn w365):=.inl ⟨Tryz.f49,Tryz.func49,by kernel_rfl⟩
theorem l366:FnOk Tryz.prog noLaid ids alts 366 (erFn w366):=.inl ⟨Tryz.f50,Tryz.func50,by kernel_rfl⟩
theorem l367:FnOk Tryz.prog noLaid ids alts 367 (erFn w367):=.inl ⟨Tryz.f51,Tryz.func51,by kernel_rfl⟩
theorem l368:FnOk Tryz.prog noLaid ids alts 368 (erFn w368):=.inl ⟨Tryz.f52,Tryz.func52,by kernel_rfl⟩
theorem l369:FnOk Tryz.prog noLaid ids alts 369 (erFn w369):=.inl ⟨Tryz.f53,Tryz.func53,by kernel_rfl⟩
theorem l370:FnOk Tryz.prog noLaid ids alts 370 (erFn w370):=.inl ⟨Tryz.f54,Tryz.func54,by kernel_rfl⟩
theorem l371:FnOk Tryz.prog noLaid ids alts 371 (erFn w371):=.inl ⟨Tryz.f55,Tryz.func55,by kernel_rfl⟩
theorem l372:FnOk Tryz.prog noLaid ids alts 372 (erFn w372):=.inl ⟨Tryz.f56,Tryz.func56,by kernel_rfl⟩
theorem l373:FnOk Tryz.prog noLaid ids alts 373 (erFn w373):=.inl ⟨Tryz.f57,Tryz.func57,by kernel_rfl⟩
theorem l374:FnOk Tryz.prog noLaid ids alts 374 (erFn w374):=.inl ⟨Tryz.f58,Tryz.func58,by kernel_rfl⟩
theorem l375:FnOk Tryz.prog noLaid ids alts 375 (erFn w375):=.inl ⟨Tryz.f59,Tryz.func59,by kernel_rfl⟩
theorem l376:FnOk Tryz.prog noLaid ids alts 376 (erFn w376):=.inl ⟨Tryz.f60,Tryz.func60,by kernel_rfl⟩
theorem l377:FnOk Tryz.prog noLaid ids alts 377 (erFn w377):=.inl ⟨Tryz.f61,Tryz.func61,by kernel_rfl⟩
theorem l379:FnOk Tryz.prog noLaid ids alts 379 (erFn w379):=.inl ⟨Tryz.f63,Tryz.func63,by kernel_rfl⟩
theorem l383:FnOk Tryz.prog noLaid ids alts 383 (erFn w383):=.inl ⟨Tryz.f67,Tryz.func67,by kernel_rfl⟩
theorem l384:FnOk Tryz.prog noLaid ids alts 384 (erFn w384):=.inl ⟨Tryz.f68,Tryz.func68,by kernel_rfl⟩
theorem l385:FnOk Tryz.prog noLaid ids alts 385 (erFn w385):=.inl ⟨Tryz.f74,Tryz.func74,by kernel_rfl⟩
theorem l386:FnOk Tryz.prog noLaid ids alts 386 (erFn w386):=.inl ⟨Tryz.f75,Tryz.func75,by kernel_rfl⟩
theorem l387:FnOk Tryz.prog noLaid ids alts 387 (erFn w387):=.inl ⟨Tryz.f76,Tryz.func76,by kernel_rfl⟩
theorem l388:FnOk Tryz.prog noLaid ids alts 388 (erFn w388):=.inl ⟨Tryz.f77,Tryz.func77,by kernel_rfl⟩
theorem l390:FnOk Tryz.prog noLaid ids alts 390 (erFn w390):=.inl ⟨Tryz.f79,Tryz.func79,by kernel_rfl⟩
theorem l391:FnOk Tryz.prog noLaid ids alts 391 (erFn w391):=.inl ⟨Tryz.f80,Tryz.func80,by kernel_rfl⟩
theorem l392:FnOk Tryz.prog noLaid ids alts 392 (erFn w392):=.inl ⟨Tryz.f81,Tryz.func81,by kernel_rfl⟩
theorem l395:FnOk Tryz.prog noLaid ids alts 395 (erFn w395):=.inl ⟨Tryz.f84,Tryz.func84,by kernel_rfl⟩
theorem l396:FnOk Tryz.prog noLaid ids alts 396 (erFn w396):=.inl ⟨Tryz.f85,Tryz.func85,by kernel_rfl⟩
theorem l397:FnOk Tryz.prog noLaid ids alts 397 (erFn w397):=.inl ⟨Tryz.f86,Tryz.func86,by kernel_rfl⟩
theorem l470:FnOk Tryz.prog noLaid ids alts 470 (erFn w470):=.inl ⟨Tryz.f87,Tryz.func87,by kernel_rfl⟩
theorem l471:FnOk Tryz.prog noLaid ids alts 471 (erFn w471):=.inl ⟨Tryz.f88,Tryz.func88,by kernel_rfl⟩
theorem l472:FnOk Tryz.prog noLaid ids alts 472 (erFn w472):=.inl ⟨Tryz.f89,Tryz.func89,by kernel_rfl⟩
theorem l473:FnOk Tryz.prog noLaid ids alts 473 (erFn w473):=.inl ⟨Tryz.f90,Tryz.func90,by kernel_rfl⟩
theorem l474:FnOk Tryz.prog noLaid ids alts 474 (erFn w474):=.inl ⟨Tryz.f91,Tryz.func91,by kernel_rfl⟩
theorem l475:FnOk Tryz.prog noLaid ids alts 475 (erFn w475):=.inl ⟨Tryz.f92,Tryz.func92,by kernel_rfl⟩
theorem l476:FnOk Tryz.prog noLaid ids alts 476 (erFn w476):=.inl ⟨Tryz.f93,Tryz.func93,by kernel_rfl⟩
theorem l477:FnOk Tryz.prog noLaid ids alts 477 (erFn w477):=.inl ⟨Tryz.f94,Tryz.func94,by kernel_rfl⟩
theorem l478:FnOk Tryz.prog noLaid ids alts 478 (erFn w478):=.inl ⟨Tryz.f95,Tryz.func95,by kernel_rfl⟩
theorem l479:FnOk Tryz.prog noLaid ids alts 479 (erFn w479):=.inl ⟨Tryz.f96,Tryz.func96,by kernel_rfl⟩
theorem l480:FnOk Tryz.prog noLaid ids alts 480 (erFn w480):=.inl ⟨Tryz.f97,Tryz.func97,by kernel_rfl⟩
theorem l481:FnOk Tryz.prog noLaid ids alts 481 (erFn w481):=.inl ⟨Tryz.f98,Tryz.func98,by kernel_rfl⟩
theorem l482:FnOk Tryz.prog noLaid ids alts 482 (erFn w482):=.inl ⟨Tryz.f99,Tryz.func99,by kernel_rfl⟩
theorem l485:FnOk Tryz.prog noLaid ids alts 485 (erFn w485):=.inl ⟨Tryz.f102,Tryz.func102,by kernel_rfl⟩
theorem l488:FnOk Tryz.prog noLaid ids alts 488 (erFn w488):=.inl ⟨Tryz.f105,Tryz.func105,by kernel_rfl⟩
theorem l489:FnOk Tryz.prog noLaid ids alts 489 (erFn w489):=.inl ⟨Tryz.f106,Tryz.func106,by kernel_rfl⟩
theorem l493:FnOk Tryz.prog noLaid ids alts 493 (erFn w493):=.inl ⟨Tryz.f110,Tryz.func110,by kernel_rfl⟩
theorem l533:FnOk Tryz.prog noLaid ids alts 533 (erFn w533):=.inl ⟨Tryz.f111,Tryz.func111,by kernel_rfl⟩
theorem l534:FnOk Tryz.prog noLaid ids alts 534 (erFn w534):=.inl ⟨Tryz.f112,Tryz.func112,by kernel_rfl⟩
theorem l535:FnOk Tryz.prog noLaid ids alts 535 (erFn w535):=.inl ⟨Tryz.f113,Tryz.func113,by kernel_rfl⟩
theorem l536:FnOk Tryz.prog noLaid ids alts 536 (erFn w536):=.inl ⟨Tryz.f114,Tryz.func114,by kernel_rfl⟩
theorem l537:FnOk Tryz.prog noLaid ids alts 537 (erFn w537):=.inl ⟨Tryz.f115,Tryz.func115,by kernel_rfl⟩
theorem l2016:FnOk Tryz.prog noLaid ids alts 2016 (erFn w97):=.inl ⟨Tryz.f7,Tryz.func7,by kernel_rfl⟩
theorem l1102:FnOk Tryz.prog noLaid ids alts 1102 (erFn w102):=.inl ⟨Tryz.f12,Tryz.func12,by kernel_rfl⟩
theorem l1191:FnOk Tryz.prog noLaid ids alts 1191 (erFn w191):=.inl ⟨Tryz.f21,Tryz.func21,by kernel_rfl⟩
theorem l1100:FnOk Tryz.prog noLaid ids alts 1100 (erFn w1100):=.inl ⟨Tryz.f10,Tryz.func10,by kernel_rfl⟩
theorem l2199:FnOk Tryz.prog noLaid ids alts 2199 (erFn w199):=.inl ⟨Tryz.f29,Tryz.func29,by kernel_rfl⟩
theorem l2209:FnOk Tryz.prog noLaid ids alts 2209 (erFn w209):=.inl ⟨Tryz.f40,Tryz.func40,by kernel_rfl⟩
theorem l1378:FnOk Tryz.prog noLaid ids alts 1378 (erFn w378):=.inl ⟨Tryz.f62,Tryz.func62,by kernel_rfl⟩
theorem l1073:FnOk Tryz.prog noLaid ids alts 1073 (erFn w73):=.inl ⟨Tryz.f72,Tryz.func72,by kernel_rfl⟩
theorem l2391:FnOk Tryz.prog noLaid ids alts 2391 (erFn w391):=.inl ⟨Tryz.f80,Tryz.func80,by kernel_rfl⟩
def tree0:WTree:=(.node (.node (.node (.node (.node (.node (.node .leaf 0 w0 .leaf) 62 w62 (.node .leaf 77 w77 .leaf)) 78 w78 (.node (.node .leaf 79 w79 .leaf) 80 w80 .leaf)) 84 w84 (.node (.node (.node .leaf 94 w94 .leaf) 95 w95 .leaf) 96 w96 (.node (.node .leaf 97 w97 .leaf) 98 w98 .leaf))) 99 w99 (.node (.node (.node (.node .leaf 101 w101 .leaf) 102 w102 (.node .leaf 103 w103 .leaf)) 104 w104 (.node (.node .leaf 105 w105 .leaf) 106 w106 .leaf)) 187 w187 (.node (.node (.node .leaf 188 w188 .leaf) 189 w189 .leaf) 190 w190 (.node (.node .leaf 191 w191 .leaf) 192 w192 .leaf)))) 193 w193 (.node (.node (.node (.node (.node .leaf 194 w194 .leaf) 195 w195 (.node .leaf 196 w196 .leaf)) 197 w197 (.node (.node .leaf 198 w198 .leaf) 200 w200 .leaf)) 201 w201 (.node (.node (.node .leaf 203 w203 .leaf) 204 w204 .leaf) 205 w205 (.node (.node .leaf 206 w206 .leaf) 207 w207 .leaf))) 208 w208 (.node (.node (.node (.node .leaf 210 w210 .leaf) 212 w212 (.node .leaf 213 w213 .leaf)) 214 w214 (.node (.node .leaf 215 w215 .leaf) 363 w363 .leaf)) 364 w364 (.node (.node (.node .leaf 365 w365 .leaf) 366 w366 .leaf) 367 w367 (.node (.node .leaf 368 w368 .leaf) 369 w369 .leaf))))) 370 w370 (.node (.node (.node (.node (.node (.node .leaf 371 w371 .leaf) 372 w372 (.node .leaf 373 w373 .leaf)) 374 w374 (.node (.node .leaf 375 w375 .leaf) 376 w376 .leaf)) 377 w377 (.node (.node (.node .leaf 379 w379 .leaf) 383 w383 .leaf) 384 w384 (.node (.node .leaf 385 w385 .leaf) 386 w386 .leaf))) 387 w387 (.node (.node (.node (.node .leaf 388 w388 .leaf) 390 w390 (.node .leaf 391 w391 .leaf)) 392 w392 (.node (.node .leaf 395 w395 .leaf) 396 w396 .leaf)) 397 w397 (.node (.node (.node .leaf 470 w470 .leaf) 471 w471 .leaf) 472 w472 (.node (.node .leaf 473 w473 .leaf) 474 w474 .leaf)))) 475 w475 (.node (.node (.node (.node (.node .leaf 476 w476 .leaf) 477 w477 (.node .leaf 478 w478 .leaf)) 479 w479 (.node (.node .leaf 480 w480 .leaf) 481 w481 .leaf)) 482 w482 (.node (.node (.node .leaf 485 w485 .leaf) 488 w488 .leaf) 489 w489 (.node (.node .leaf 493 w493 .leaf) 533 w533 .leaf))) 534 w534 (.node (.node (.node (.node .leaf 535 w535 .leaf) 536 w536 (.node .leaf 537 w537 .leaf)) 1073 w73 (.node (.node .leaf 1100 w1100 .leaf) 1102 w102 .leaf)) 1191 w191 (.node (.node (.node .leaf 1378 w378 .leaf) 2016 w97 .leaf) 2199 w199 (.node (.node .leaf 2209 w209 .leaf) 2391 w391 .leaf))))))
def prog0:WProg:=⟨tree0,Go.D.inlB,Go.D.ppB⟩
theorem all0:TreeAll (FnOk Tryz.prog noLaid ids alts) (erProg prog0).fns:=⟨⟨⟨⟨⟨⟨⟨trivial,l0,trivial⟩,l62,⟨trivial,l77,trivial⟩⟩,l78,⟨⟨trivial,l79,trivial⟩,l80,trivial⟩⟩,l84,⟨⟨⟨trivial,l94,trivial⟩,l95,trivial⟩,l96,⟨⟨trivial,l97,trivial⟩,l98,trivial⟩⟩⟩,l99,⟨⟨⟨⟨trivial,l101,trivial⟩,l102,⟨trivial,l103,trivial⟩⟩,l104,⟨⟨trivial,l105,trivial⟩,l106,trivial⟩⟩,l187,⟨⟨⟨trivial,l188,trivial⟩,l189,trivial⟩,l190,⟨⟨trivial,l191,trivial⟩,l192,trivial⟩⟩⟩⟩,l193,⟨⟨⟨⟨⟨trivial,l194,trivial⟩,l195,⟨trivial,l196,trivial⟩⟩,l197,⟨⟨trivial,l198,trivial⟩,l200,trivial⟩⟩,l201,⟨⟨⟨trivial,l203,trivial⟩,l204,trivial⟩,l205,⟨⟨trivial,l206,trivial⟩,l207,trivial⟩⟩⟩,l208,⟨⟨⟨⟨trivial,l210,trivial⟩,l212,⟨trivial,l213,trivial⟩⟩,l214,⟨⟨trivial,l215,trivial⟩,l363,trivial⟩⟩,l364,⟨⟨⟨trivial,l365,trivial⟩,l366,trivial⟩,l367,⟨⟨trivial,l368,trivial⟩,l369,trivial⟩⟩⟩⟩⟩,l370,⟨⟨⟨⟨⟨⟨trivial,l371,trivial⟩,l372,⟨trivial,l373,trivial⟩⟩,l374,⟨⟨trivial,l375,trivial⟩,l376,trivial⟩⟩,l377,⟨⟨⟨trivial,l379,trivial⟩,l383,trivial⟩,l384,⟨⟨trivial,l385,trivial⟩,l386,trivial⟩⟩⟩,l387,⟨⟨⟨⟨trivial,l388,trivial⟩,l390,⟨trivial,l391,trivial⟩⟩,l392,⟨⟨trivial,l395,trivial⟩,l396,trivial⟩⟩,l397,⟨⟨⟨trivial,l470,trivial⟩,l471,trivial⟩,l472,⟨⟨trivial,l473,trivial⟩,l474,trivial⟩⟩⟩⟩,l475,⟨⟨⟨⟨⟨trivial,l476,trivial⟩,l477,⟨trivial,l478,trivial⟩⟩,l479,⟨⟨trivial,l480,trivial⟩,l481,trivial⟩⟩,l482,⟨⟨⟨trivial,l485,trivial⟩,l488,trivial⟩,l489,⟨⟨trivial,l493,trivial⟩,l533,trivial⟩⟩⟩,l534,⟨⟨⟨⟨trivial,l535,trivial⟩,l536,⟨trivial,l537,trivial⟩⟩,l1073,⟨⟨trivial,l1100,trivial⟩,l1102,trivial⟩⟩,l1191,⟨⟨⟨trivial,l1378,trivial⟩,l2016,trivial⟩,l2199,⟨⟨trivial,l2209,trivial⟩,l2391,trivial⟩⟩⟩⟩⟩⟩
theorem link0:Linked Tryz.prog (phiG ids alts) ⟨psiOf ids,noLaid⟩ (erProg prog0):=linked (by kernel_rfl) (by kernel_rfl) all0 (by kernel_rfl) (by kernel_rfl)
theorem l202:FnOk Tryz.prog noLaid ids alts 202 (erFn w202):=.inr (Go.Proofs.H11.move_prim link0 (by kernel_rfl) rfl (by kernel_rfl) rfl (by kernel_rfl) rfl (by kernel_rfl) rfl (by kernel_rfl) rfl (fun c o h=>by cases h) 202 rfl).rule
theorem l211:FnOk Tryz.prog noLaid ids alts 211 (erFn w211):=.inr (Go.Proofs.H11.moves_prim link0 (by kernel_rfl) rfl (fun c o h=>by cases h) 211 rfl).rule
theorem l389:FnOk Tryz.prog noLaid ids alts 389 (erFn w389):=.inr (Go.Proofs.H11.sorted_prim link0 (by kernel_rfl) rfl rfl (fun c o h=>by cases h) 389 rfl).rule
def prog:WProg:=⟨tree,Go.D.inlB,Go.D.ppB⟩
theorem all:TreeAll (FnOk Tryz.prog noLaid ids alts) (erProg prog).fns:=⟨⟨⟨⟨⟨⟨⟨trivial,l0,trivial⟩,l62,⟨trivial,l77,trivial⟩⟩,l78,⟨⟨trivial,l79,trivial⟩,l80,trivial⟩⟩,l84,⟨⟨⟨trivial,l94,trivial⟩,l95,⟨trivial,l96,trivial⟩⟩,l97,⟨⟨trivial,l98,trivial⟩,l99,trivial⟩⟩⟩,l101,⟨⟨⟨⟨trivial,l102,trivial⟩,l103,⟨trivial,l104,trivial⟩⟩,l105,⟨⟨trivial,l106,trivial⟩,l187,trivial⟩⟩,l188,⟨⟨⟨trivial,l189,trivial⟩,l190,trivial⟩,l191,⟨⟨trivial,l192,trivial⟩,l193,trivial⟩⟩⟩⟩,l194,⟨⟨⟨⟨⟨trivial,l195,trivial⟩,l196,⟨trivial,l197,trivial⟩⟩,l198,⟨⟨trivial,l200,trivial⟩,l201,trivial⟩⟩,l202,⟨⟨⟨trivial,l203,trivial⟩,l204,⟨trivial,l205,trivial⟩⟩,l206,⟨⟨trivial,l207,trivial⟩,l208,trivial⟩⟩⟩,l210,⟨⟨⟨⟨trivial,l211,trivial⟩,l212,⟨trivial,l213,trivial⟩⟩,l214,⟨⟨trivial,l215,trivial⟩,l363,trivial⟩⟩,l364,⟨⟨⟨trivial,l365,trivial⟩,l366,trivial⟩,l367,⟨⟨trivial,l368,trivial⟩,l369,trivial⟩⟩⟩⟩⟩,l370,⟨⟨⟨⟨⟨⟨trivial,l371,trivial⟩,l372,⟨trivial,l373,trivial⟩⟩,l374,⟨⟨trivial,l375,trivial⟩,l376,trivial⟩⟩,l377,⟨⟨⟨trivial,l379,trivial⟩,l383,⟨trivial,l384,trivial⟩⟩,l385,⟨⟨trivial,l386,trivial⟩,l387,trivial⟩⟩⟩,l388,⟨⟨⟨⟨trivial,l389,trivial⟩,l390,⟨trivial,l391,trivial⟩⟩,l392,⟨⟨trivial,l395,trivial⟩,l396,trivial⟩⟩,l397,⟨⟨⟨trivial,l470,trivial⟩,l471,trivial⟩,l472,⟨⟨trivial,l473,trivial⟩,l474,trivial⟩⟩⟩⟩,l475,⟨⟨⟨⟨⟨trivial,l476,trivial⟩,l477,⟨trivial,l478,trivial⟩⟩,l479,⟨⟨trivial,l480,trivial⟩,l481,trivial⟩⟩,l482,⟨⟨⟨trivial,l485,trivial⟩,l488,trivial⟩,l489,⟨⟨trivial,l493,trivial⟩,l533,trivial⟩⟩⟩,l534,⟨⟨⟨⟨trivial,l535,trivial⟩,l536,⟨trivial,l537,trivial⟩⟩,l1073,⟨⟨trivial,l1100,trivial⟩,l1102,trivial⟩⟩,l1191,⟨⟨⟨trivial,l1378,trivial⟩,l2016,trivial⟩,l2199,⟨⟨trivial,l2209,trivial⟩,l2391,trivial⟩⟩⟩⟩⟩⟩
theorem okT:okTree prog.fns=true:=by kernel_rfl
theorem link:Linked Tryz.prog (phiG ids alts) ⟨psiOf ids,noLaid⟩ (erProg prog):=linked (by kernel_rfl) (by kernel_rfl) (all) (by kernel_rfl) (by kernel_rfl)
end P
end
section
namespace Go.Pw
open Go Go.Pav
inductive CT where
 | bool
 | int (k:IntKind)
 | str
 | slice (ts:List CT)
inductive Ty:CT→AV→Prop
 | bool (b:Bool):Ty .bool (.bool b)
 | int (k:IntKind) (n:Int) (h1:k.min≤n) (h2:n≤k.max):Ty (.int k) (.int k n)
 | str (s:List UInt8) (h:s.length < 2 ^ 63):Ty .str (.str s)
 | slice (ts:List CT) (es:List (List AV)) (ex:Bool) (hn:es.length < 2 ^ 63) (hw:∀ (i:Nat) (e:List AV),es[i]?=some e→e.length=ts.length)
  (h:∀ (i:Nat) (e:List AV) (j:Nat) (ct:CT) (x:AV),es[i]?=some e→ts[j]?=some ct→e[j]?=some x→Ty ct x):Ty (.slice ts) (.ro ts.length es ex)
theorem Ty.isC {ct:CT} {a:AV} (h:Ty ct a):Pw.isC a=true:=by cases h <;> rfl
def fieldsT (F:TypeId→Option (List CT)) (P:Program):List Field→Nat→Option (List CT)
 | [],_=>some []
 | f::r,off=>(F f.type).bind fun ts=>if f.offset=off∧ts.length=P.cellsOf f.type then (fieldsT F P r (off+ts.length)).map (ts++·) else none
def flatT (P:Program):Nat→TypeId→Option (List CT)
 | 0,_=>none
 | n+1,t=>match P.underlying t with
  | some .bool=>some [.bool]
  | some (.int k)=>some [.int k]
  | some .string=>some [.str]
  | some (.slice e)=>(flatT P n e).bind fun ts=>if ts.length=P.cellsOf e∧0 < ts.length then some [.slice ts] else none
  | some (.struct fs)=>(fieldsT (flatT P n) P fs.toList 0).bind fun ts=>if ts.length=P.cellsOf t then some ts else none
  | some (.array m e)=>(flatT P n e).bind fun ts=>if ts.length=P.cellsOf e∧m * ts.length=P.cellsOf t then some (List.replicate m ts).flatten else none
  | _=>none
theorem flatten_rep {α:Type} (ts:List α):∀ (m j:Nat),j < m * ts.length→(List.replicate m ts).flatten[j]?=ts[j % ts.length]?
 | 0,j,h=>by simp at h
 | m+1,j,h=>by
  rw [List.replicate_succ,List.flatten_cons]
  rcases Nat.lt_or_ge j ts.length with hl | hl
  · rw [List.getElem?_append_left hl,Nat.mod_eq_of_lt hl]
  · rw [List.getElem?_append_right hl,flatten_rep ts m (j - ts.length) (by rw [Nat.add_mul] at h;omega),Nat.mod_eq_sub_mod hl]
theorem trod_array {H:Type} {enc:TypeId × Value→H} {P:Program} {w:World} {base:Nat} {spare:Nat→Bool} {held:Bool} {fuel:Nat} {t:TypeId} {cs:List Value} {x:DataW H × List MemPlace} {m:Nat} {e:TypeId}
 (ht:P.underlying t=some (.array m e)) (h:DataW.trod enc P w base spare held fuel t cs=some x) :
 ∃ (xs:List (DataW H × List MemPlace)) (n:Nat),fuel=n+1∧cs.length=P.cellsOf t∧xs.length=m ∧
  ∀ i,i < m→DataW.trod enc P w base spare held n e ((cs.drop (i * P.cellsOf e)).take (P.cellsOf e))=xs[i]?:=by
 cases fuel with
 | zero=>simp [DataW.trod] at h
 | succ n =>
  unfold DataW.trod at h
  rw [ht] at h
  split at h <;> simp_all
  obtain ⟨hl,xs,hp,hd⟩:=h
  exact ⟨xs,by simpa using mapM_some_length hp,fun i hi=>mapM_some_get hp i i (List.getElem?_range hi)⟩
def CellOk (ψ:Psi) (W:World) (ct:CT) (v:Value):Prop :=
 ∃ a a',Ty ct a∧VD id (fun _=>False) a a'∧a'.cell=true∧VR ψ W (fun c=>c < W.heap.size) (fun _=>(0,0)) (fun _=>False) a' v
section
variable {H:Type} {enc:TypeId × Value→H} {P:Program} {W:World} {ψ:Psi}
theorem fields_open {F:TypeId→Option (List CT)} {n:Nat} {cs:List Value}
 (hF:∀ t cs x ts,F t=some ts→DataW.trod enc P W 0 (fun _=>true) true n t cs=some x→cs.length=ts.length∧∀ (j:Nat) (ct:CT),ts[j]?=some ct→∃ v,cs[j]?=some v∧CellOk ψ W ct v) :
 ∀ (fs:List Field) (off:Nat) (ts:List CT),fieldsT F P fs off=some ts→(∀ f ∈ fs,∃ x,DataW.trod enc P W 0 (fun _=>true) true n f.type ((cs.drop f.offset).take (P.cellsOf f.type))=some x) →
  ∀ (j:Nat) (ct:CT),ts[j]?=some ct→∃ v,cs[off+j]?=some v∧CellOk ψ W ct v:=by
 intro fs
 induction fs with
 | nil=>intro off ts h _ j ct hj;simp only [fieldsT,Option.some.injEq] at h;subst h;simp at hj
 | cons f r ih =>
  intro off ts h hx j ct hj
  simp only [fieldsT,Option.bind_eq_some_iff] at h
  obtain ⟨t1,h1,h⟩:=h
  split at h
  · rename_i hc
    simp only [Option.map_eq_some_iff] at h
    obtain ⟨t2,h2,rfl⟩:=h
    rcases Nat.lt_or_ge j t1.length with hl | hl
    · rw [List.getElem?_append_left hl] at hj
      obtain ⟨x,q⟩:=hx f (by simp)
      obtain ⟨v,q1,q2⟩:=(hF _ _ _ _ h1 q).2 j ct hj
      refine ⟨v,?_,q2⟩
      rw [List.getElem?_take] at q1
      split at q1
      · rw [List.getElem?_drop] at q1;rw [← hc.1];exact q1
      · cases q1
    · rw [List.getElem?_append_right hl] at hj
      obtain ⟨v,q1,q2⟩:=ih _ _ h2 (fun f hf=>hx f (by simp [hf])) _ ct hj
      exact ⟨v,by rw [← q1];congr 1;omega,q2⟩
  · cases h
theorem cells_open:∀ (n k:Nat) (t:TypeId) (cs:List Value) (x:DataW H × List MemPlace) (ts:List CT),flatT P k t=some ts→DataW.trod enc P W 0 (fun _=>true) true n t cs=some x →
 cs.length=ts.length∧∀ (j:Nat) (ct:CT),ts[j]?=some ct→∃ v,cs[j]?=some v∧CellOk ψ W ct v:=by
 intro n
 induction n with
 | zero=>intro k t cs x ts _ h;simp [DataW.trod] at h
 | succ n ih =>
  intro k t cs x ts hf h
  cases k with
  | zero=>simp [flatT] at hf
  | succ k =>
   have one:∀ {v:Value} {ct:CT},cs=[v]→ts=[ct]→CellOk ψ W ct v→cs.length=ts.length∧∀ (j:Nat) (ct:CT),ts[j]?=some ct→∃ v,cs[j]?=some v∧CellOk ψ W ct v:=by
    intro v ct h1 h2 h3
    subst h1;subst h2
    refine ⟨rfl,fun j ct' hj=>?_⟩
    cases j with
    | zero=>simp only [List.getElem?_cons_zero,Option.some.injEq] at hj;subst hj;exact ⟨v,rfl,h3⟩
    | succ j=>simp at hj
   unfold flatT at hf
   split at hf
   · rename_i ht
     cases hf
     obtain ⟨b,e,_⟩:=DataW.trod_bool ht h
     exact one e rfl ⟨_,_,.bool b,.bool b,rfl,.bool b⟩
   · rename_i k' ht
     cases hf
     obtain ⟨m,e,_,hw⟩:=DataW.trod_int ht h
     simp only [Lit.wf,Bool.and_eq_true,decide_eq_true_eq] at hw
     exact one e rfl ⟨_,_,.int k' m hw.1 hw.2,.int k' m,rfl,.int k' m⟩
   · rename_i ht
     cases hf
     obtain ⟨s,e,_,hw⟩:=DataW.trod_string ht h
     refine one e rfl ⟨.str s.data.toList,_,.str _ ?_,.str _,rfl,?_⟩
     · simp only [maxLen] at hw
       have:s.data.toList.length=s.size:=rfl
       omega
     · have:=VR.str (ψ:=ψ) (w:=W) (S:=fun c=>c < W.heap.size) (m:=fun _=>(0,0)) (A:=fun _=>False) s.data.toList
       exact this
   · rename_i el ht
     simp only [Option.bind_eq_some_iff] at hf
     obtain ⟨us,hu,hf⟩:=hf
     split at hf
     · rename_i hz
       obtain ⟨hz,hz0⟩:=hz
       cases hf
       rcases DataW.trod_slice ht h with ⟨e,_⟩ | ⟨a,len,cap,elems,rest,n',hn,e,_,_,hl,hm,hlen,hel,hsp,_⟩
       · exact one e rfl ⟨.ro us.length [] true,.nils,.slice us [] true (by simp) (by simp) (by simp),.ronil _ _,rfl,.nils⟩
       · cases hn
         refine one e rfl ?_
         have row:∀ i,i < cap→∃ vs y,W.cells? 0 (a.add (i * us.length)) us.length=some vs∧DataW.trod enc P W 0 (fun _=>true) true n el vs=some y:=by
          intro i hi
          rcases Nat.lt_or_ge i len with hil | hil
          · have:=hel i hil
            rw [List.getElem?_eq_getElem (by omega),Option.bind_eq_some_iff,← hz] at this
            obtain ⟨vs,q1,q2⟩:=this
            exact ⟨vs,_,q1,q2⟩
          · obtain ⟨q0,q⟩:=hsp rfl
            have:=q (i - len) (by omega)
            rw [List.getElem?_eq_getElem (by omega),Option.bind_eq_some_iff,← hz,show len+(i - len)=i by omega] at this
            obtain ⟨vs,q1,q2⟩:=this
            exact ⟨vs,_,q1,q2⟩
         rcases Nat.eq_zero_or_pos cap with hc0 | hc0
         · subst hc0
           obtain rfl:len=0:=by omega
           exact ⟨.ro us.length [] true,.ro us.length [] true,.slice us [] true (by simp) (by simp) (by simp),.ro _ [] [] true true (by simp) rfl id (by simp) (by simp),rfl,.roe _ _ _ 0 (fun _=>rfl)⟩
         · obtain ⟨b,off,spot⟩:=a
           have hfirst:∃ v,W.cell? ⟨b,off,spot⟩=some v:=by
            obtain ⟨vs,_,q1,_⟩:=row 0 hc0
            obtain ⟨_,q2,q3⟩:=World.cells?_some q1
            have:=q3 0 hz0
            rw [List.getElem?_eq_getElem (by omega)] at this
            exact ⟨_,by simpa [Addr.add] using this⟩
           obtain ⟨v0,hv0⟩:=hfirst
           obtain rfl:spot=none:=World.cell?_spot hv0
           have hS:b < W.heap.size:=by
            unfold World.cell? at hv0
            split at hv0
            · rename_i hb;exact (Array.getElem?_eq_some_iff.1 hb).1
            · cases hv0
           have key:∀ p:Nat × Nat,∃ q:Value × AV × AV,p.1 < len→∀ ct,us[p.2]?=some ct→W.cell? ⟨b,off+p.1 * us.length+p.2,none⟩=some q.1∧Ty ct q.2.1∧VD id (fun _=>False) q.2.1 q.2.2∧q.2.2.cell=true ∧
            VR ψ W (fun c=>c < W.heap.size) (fun _=>(0,0)) (fun _=>False) q.2.2 q.1:=by
            intro ⟨i,j⟩
            by_cases hi:i < len
            · cases hj:us[j]? with
              | none=>exact ⟨default,fun _ ct q=>by cases q⟩
              | some ct =>
               obtain ⟨vs,y,q1,q2⟩:=row i (by omega)
               obtain ⟨v,q3,c1,c2,q4,q5,q6,q7⟩:=(ih _ _ _ _ _ hu q2).2 j ct hj
               refine ⟨(v,c1,c2),fun _ ct' q=>?_⟩
               cases q
               refine ⟨?_,q4,q5,q6,q7⟩
               obtain ⟨_,r1,r2⟩:=World.cells?_some q1
               have hjl:j < us.length:=(List.getElem?_eq_some_iff.1 hj).1
               have:=r2 j hjl
               rw [q3] at this
               rw [← this]
               congr 1
               simp only [Addr.add]
               split <;> split <;> simp_all <;> omega
            · exact ⟨default,fun q=>absurd q hi⟩
           obtain ⟨F,hF⟩:=Classical.axiomOfChoice key
           let es:List (List AV):=(List.range len).map fun i=>(List.range us.length).map fun j=>(F (i,j)).2.1
           let es':List (List AV):=(List.range len).map fun i=>(List.range us.length).map fun j=>(F (i,j)).2.2
           have g1:∀ (i:Nat) (e:List AV),es[i]?=some e→i < len∧e=(List.range us.length).map fun j=>(F (i,j)).2.1:=by
            intro i e he
            simp only [es,List.getElem?_map,Option.map_eq_some_iff] at he
            obtain ⟨i',q1,q2⟩:=he
            have:=List.getElem?_eq_some_iff.1 q1
            obtain ⟨q3,q4⟩:=this
            simp at q3 q4
            subst q4
            exact ⟨q3,q2.symm⟩
           have g1':∀ (i:Nat) (e:List AV),es'[i]?=some e→i < len∧e=(List.range us.length).map fun j=>(F (i,j)).2.2:=by
            intro i e he
            simp only [es',List.getElem?_map,Option.map_eq_some_iff] at he
            obtain ⟨i',q1,q2⟩:=he
            have:=List.getElem?_eq_some_iff.1 q1
            obtain ⟨q3,q4⟩:=this
            simp at q3 q4
            subst q4
            exact ⟨q3,q2.symm⟩
           have g2:∀ (G:Nat→AV) (j:Nat) (x:AV),((List.range us.length).map G)[j]?=some x→∃ ct,us[j]?=some ct∧x=G j:=by
            intro G j x hx
            simp only [List.getElem?_map,Option.map_eq_some_iff] at hx
            obtain ⟨j',q1,q2⟩:=hx
            obtain ⟨q3,q4⟩:=List.getElem?_eq_some_iff.1 q1
            simp at q3 q4
            subst q4
            exact ⟨us[j],List.getElem?_eq_getElem q3,q2.symm⟩
           have l1:es.length=len:=by simp [es]
           have l2:es'.length=len:=by simp [es']
           refine ⟨.ro us.length es (decide (cap=len)),.ro us.length es' (decide (cap=len)),.slice us es _ ?_ ?_ ?_,.ro _ es es' _ _ ?_ (by rw [l1,l2]) id ?_ ?_,rfl,?_⟩
           · rw [l1];simp only [maxLen] at hm;omega
           · intro i e he;rw [(g1 i e he).2];simp
           · intro i e j ct y he hct hy
             obtain ⟨q1,rfl⟩:=g1 i e he
             obtain ⟨ct',q2,rfl⟩:=g2 _ j y hy
             rw [hct] at q2
             cases q2
             exact (hF (i,j) q1 ct hct).2.1
           · intro e he y hy
             obtain ⟨i,he⟩:=List.getElem?_of_mem he
             obtain ⟨j,hy⟩:=List.getElem?_of_mem hy
             obtain ⟨q1,rfl⟩:=g1 i e he
             obtain ⟨ct',q2,rfl⟩:=g2 _ j y hy
             exact (hF (i,j) q1 ct' q2).2.1.isC
           · intro i e e' he he'
             rw [(g1 i e he).2,(g1' i e' he').2];simp
           · intro i e e' j y y' he he' hy hy'
             obtain ⟨q1,rfl⟩:=g1 i e he
             obtain ⟨_,rfl⟩:=g1' i e' he'
             obtain ⟨ct',q2,rfl⟩:=g2 _ j y hy
             obtain ⟨_,_,rfl⟩:=g2 _ j y' hy'
             exact (hF (i,j) q1 ct' q2).2.2.1
           · have:=VR.ro (ψ:=ψ) (w:=W) (S:=fun c=>c < W.heap.size) (m:=fun _=>(0,0)) (A:=fun _=>False) us.length es' (decide (cap=len)) b off cap (fun i j=>(F (i,j)).1) hS
              (fun i e he=>by rw [(g1' i e he).2];simp) (by rw [l2];exact hl) (fun q=>by rw [l2];simpa using q)
              (fun i e j y he hy=>by
               obtain ⟨q1,rfl⟩:=g1' i e he
               obtain ⟨ct',q2,rfl⟩:=g2 _ j y hy
               have:=hF (i,j) q1 ct' q2
               exact ⟨this.2.2.2.1,this.1⟩)
              (fun i e j y he hy=>by
               obtain ⟨q1,rfl⟩:=g1' i e he
               obtain ⟨ct',q2,rfl⟩:=g2 _ j y hy
               exact (hF (i,j) q1 ct' q2).2.2.2.2)
             rw [l2] at this
             exact this
     · cases hf
   · rename_i fs ht
     simp only [Option.bind_eq_some_iff] at hf
     obtain ⟨us,hu,hf⟩:=hf
     split at hf
     · rename_i hz
       cases hf
       obtain ⟨xs,n',hn,_,hcl,hxl,hx⟩:=DataW.trod_struct ht h
       cases hn
       refine ⟨by rw [hcl,hz],fun j ct hj=>?_⟩
       have:=fields_open (cs:=cs) (F:=flatT P k) (n:=n) (fun t cs x ts h1 h2=>ih k t cs x ts h1 h2) fs.toList 0 _ hu (fun f hf=>by
        obtain ⟨i,hi⟩:=List.getElem?_of_mem hf
        have hi':fs[i]?=some f:=by simpa using hi
        have hlt:i < fs.size:=(Array.getElem?_eq_some_iff.1 hi').1
        have:=hx i f hi'
        rw [List.getElem?_eq_getElem (by omega)] at this
        exact ⟨_,this⟩) j ct hj
       simpa using this
     · cases hf
   · rename_i m' e ht
     simp only [Option.bind_eq_some_iff] at hf
     obtain ⟨us,hu,hf⟩:=hf
     split at hf
     · rename_i hz
       obtain ⟨hz1,hz2⟩:=hz
       cases hf
       obtain ⟨xs,n',hn,hcl,hxl,hx⟩:=trod_array ht h
       cases hn
       have hlen:(List.replicate m' us).flatten.length=m' * us.length:=by simp
       refine ⟨by rw [hcl,hlen,hz2],fun j ct hj=>?_⟩
       have hjl:j < m' * us.length:=by rw [← hlen];exact (List.getElem?_eq_some_iff.1 hj).1
       have hk:0 < us.length:=by
        rcases Nat.eq_zero_or_pos us.length with q | q
        · rw [q,Nat.mul_zero] at hjl;omega
        · exact q
       rw [flatten_rep us m' j hjl] at hj
       have hq:j / us.length < m':=Nat.div_lt_of_lt_mul (by rw [Nat.mul_comm];exact hjl)
       have hxq:=hx (j / us.length) hq
       rw [List.getElem?_eq_getElem (by omega)] at hxq
       obtain ⟨v,q1,q2⟩:=(ih k e _ _ us hu hxq).2 (j % us.length) ct hj
       refine ⟨v,?_,q2⟩
       rw [List.getElem?_take] at q1
       split at q1
       · rw [List.getElem?_drop,← hz1] at q1
         rw [← q1];congr 1
         exact (Nat.div_add_mod' j us.length).symm
       · cases q1
     · cases hf
   · cases hf
inductive AT where
 | c (ct:CT)
 | g (ts:List CT)
def AT.has:AT→AV→Prop
 | .c ct,a=>Ty ct a
 | .g ts,a=>∃ es,a=.agg es∧es.length=ts.length∧∀ (j:Nat) (ct:CT) (x:AV),ts[j]?=some ct→es[j]?=some x→Ty ct x
def argT (P:Program) (t:TypeId):Option AT :=
 match P.underlying t with
 | some (.struct _)=>(flatT P 20 t).map .g
 | some (.array _ _)=>(flatT P 20 t).map .g
 | some .bool | some (.int _) | some .string | some (.slice _)=>match flatT P 20 t with | some [ct]=>some (.c ct) | _=>none
 | _=>none
theorem cells_plain {t:TypeId} {base:Nat} {v:Value} (hu:P.underlying t=some .bool∨(∃ k,P.underlying t=some (.int k))∨P.underlying t=some .string∨∃ e,P.underlying t=some (.slice e)) (h:Value.okWide P W .any base t v) :
 v.cells=#[v]:=by
 cases v <;> try rfl
 rcases hu with hu | ⟨k,hu⟩ | hu | ⟨e,hu⟩ <;> simp [Value.okWide,hu,Cell.okWide,Cell.ok] at h
theorem arg_open {t:TypeId} {at_:AT} (ha:argT P t=some at_) {base:Nat} {v:Value} (hv:Value.okWide P W .any base t v) {d:DataW H} {p:List MemPlace} (h:DataW.Trod enc P W 0 (fun _=>true) true t v d p) :
 ∃ a a',at_.has a∧VD id (fun _=>False) a a'∧VR ψ W (fun c=>c < W.heap.size) (fun _=>(0,0)) (fun _=>False) a' v:=by
 obtain ⟨fuel,h⟩:=h
 have plain:(P.underlying t=some .bool∨(∃ k,P.underlying t=some (.int k))∨P.underlying t=some .string∨∃ e,P.underlying t=some (.slice e)) →
  (match flatT P 20 t with | some [ct]=>some (AT.c ct) | _=>none)=some at_→∃ a a',at_.has a∧VD id (fun _=>False) a a'∧VR ψ W (fun c=>c < W.heap.size) (fun _=>(0,0)) (fun _=>False) a' v:=by
  intro hu he
  split at he
  · rename_i ct hf
    cases he
    rw [cells_plain hu hv] at h
    obtain ⟨_,q⟩:=cells_open (ψ:=ψ) _ _ _ _ _ _ hf h
    obtain ⟨v',q1,a,a',q2,q3,_,q4⟩:=q 0 ct rfl
    simp only [List.getElem?_cons_zero,Option.some.injEq] at q1
    subst q1
    exact ⟨a,a',q2,q3,q4⟩
  · cases he
 have whole:(∃ cs,v=.agg cs)→(flatT P 20 t).map AT.g=some at_→∃ a a',at_.has a∧VD id (fun _=>False) a a'∧VR ψ W (fun c=>c < W.heap.size) (fun _=>(0,0)) (fun _=>False) a' v:=by
  rintro ⟨cs,rfl⟩ ha
  simp only [Option.map_eq_some_iff] at ha
  obtain ⟨ts,hf,rfl⟩:=ha
  obtain ⟨hl,q⟩:=cells_open (ψ:=ψ) _ _ _ _ _ _ hf h
  simp only [Value.cells] at hl q
  have key:∀ j:Nat,∃ x:AV × AV,∀ ct,ts[j]?=some ct→Ty ct x.1∧VD id (fun _=>False) x.1 x.2∧x.2.cell=true∧∃ v,cs.toList[j]?=some v∧VR ψ W (fun c=>c < W.heap.size) (fun _=>(0,0)) (fun _=>False) x.2 v:=by
   intro j
   cases hj:ts[j]? with
   | none=>exact ⟨default,fun _ q=>by cases q⟩
   | some ct =>
    obtain ⟨v,q1,a,a',q2,q3,q4,q5⟩:=q j ct hj
    exact ⟨(a,a'),fun ct' e=>by cases e;exact ⟨q2,q3,q4,v,q1,q5⟩⟩
  obtain ⟨F,hF⟩:=Classical.axiomOfChoice key
  have g2:∀ (G:Nat→AV) (j:Nat) (x:AV),((List.range ts.length).map G)[j]?=some x→∃ ct,ts[j]?=some ct∧x=G j:=by
   intro G j x hx
   simp only [List.getElem?_map,Option.map_eq_some_iff] at hx
   obtain ⟨j',q1,q2⟩:=hx
   obtain ⟨q3,q4⟩:=List.getElem?_eq_some_iff.1 q1
   simp at q3 q4
   subst q4
   exact ⟨ts[j],List.getElem?_eq_getElem q3,q2.symm⟩
  refine ⟨.agg ((List.range ts.length).map fun j=>(F j).1),.agg ((List.range ts.length).map fun j=>(F j).2),⟨_,rfl,by simp,?_⟩,.agg _ _ (by simp) ?_,.agg _ _ ?_ ?_ ?_⟩
  · intro j ct x hct hx
    obtain ⟨ct',q1,rfl⟩:=g2 _ j x hx
    exact (hF j ct hct).1
  · intro j x x' hx hx'
    obtain ⟨ct,q1,rfl⟩:=g2 _ j x hx
    obtain ⟨_,_,rfl⟩:=g2 _ j x' hx'
    exact (hF j ct q1).2.1
  · simp only [List.length_map,List.length_range]
    rw [← hl];simp
  · intro j x hx
    obtain ⟨ct,q1,rfl⟩:=g2 _ j x hx
    exact (hF j ct q1).2.2.1
  · intro j x hx
    obtain ⟨ct,q1,rfl⟩:=g2 _ j x hx
    obtain ⟨v,q2,q3⟩:=(hF j ct q1).2.2.2
    have e:cs[j]?=some v:=by simpa using q2
    rw [Array.getD_eq_getD_getElem?,e]
    exact q3
 unfold argT at ha
 split at ha
 · rename_i fs ht
   simp only [Value.okWide,ht] at hv
   obtain ⟨cs,hv,_,_⟩:=hv
   exact whole ⟨cs,hv⟩ ha
 · rename_i m e ht
   simp only [Value.okWide,ht] at hv
   obtain ⟨cs,hv,_,_⟩:=hv
   exact whole ⟨cs,hv⟩ ha
 · rename_i ht;exact plain (.inl ht) ha
 · rename_i k ht;exact plain (.inr (.inl ⟨k,ht⟩)) ha
 · rename_i ht;exact plain (.inr (.inr (.inl ht))) ha
 · rename_i e ht;exact plain (.inr (.inr (.inr ⟨e,ht⟩))) ha
 · cases ha
def TyAll:List AT→List AV→Prop
 | [],[]=>True
 | a::r,x::s=>a.has x∧TyAll r s
 | _,_=>False
theorem args_open {base:Nat}:∀ {ts:List TypeId} {ats:List AT} {vs:List Value} {ds:List (DataW H)} {p:List MemPlace},ts.map (argT P)=ats.map some →
 (∀ (j:Nat) (t:TypeId) (v:Value),ts[j]?=some t→vs[j]?=some v→Value.okWide P W .any base t v)→DataW.TrodAll enc P W 0 (fun _=>true) true ts vs ds p →
 ∃ us us',TyAll ats us∧Rel2 (VD id fun _=>False) us us'∧us'.length=vs.length∧∀ (j:Nat) (x:AV) (v:Value),us'[j]?=some x→vs[j]?=some v→VR ψ W (fun c=>c < W.heap.size) (fun _=>(0,0)) (fun _=>False) x v
 | [],[],vs,ds,p,_,_,h=>by
  obtain ⟨rfl,_,_⟩:=ChangeShapes.trodAll_nil h
  exact ⟨[],[],trivial,⟨rfl,by simp⟩,rfl,by simp⟩
 | t::ts,at_::ats,_,_,_,hm,hv,h=>by
  obtain ⟨v,vs1,d,ds1,p1,q1,rfl,rfl,rfl,h1,h2⟩:=ChangeShapes.trodAll_cons h
  simp only [List.map_cons,List.cons.injEq] at hm
  obtain ⟨a,a',r1,r2,r3⟩:=arg_open (ψ:=ψ) hm.1 (hv 0 t v rfl rfl) h1
  obtain ⟨us,us',s1,s2,s3,s4⟩:=args_open hm.2 (fun j t v e1 e2=>hv (j+1) t v e1 e2) h2
  refine ⟨a::us,a'::us',⟨r1,s1⟩,⟨by simp [s2.1],fun j x x' e1 e2=>?_⟩,by simp [s3],fun j x v' e1 e2=>?_⟩
  · cases j with
    | zero=>cases e1;cases e2;exact r2
    | succ j=>exact s2.2 j x x' e1 e2
  · cases j with
    | zero=>cases e1;cases e2;exact r3
    | succ j=>exact s4 j x v' e1 e2
 | [],_::_,_,_,_,hm,_,_=>by simp at hm
 | _::_,[],_,_,_,hm,_,_=>by simp at hm
theorem law_callsL {Φ:Nat→FuncId→Option Nat} {D:WProg} (hL:Linked P Φ ψ (erProg D)) (hok:okTree D.fns=true) (hlay:∀ c o,ψ.laid c=some o→c < W.heap.size∧W.heap[c]?=some o) {f:Nat} {ts:List TypeId} {ats:List AT} (hts:ts.map (argT P)=ats.map some)
 (core:∀ us,TyAll ats us→FnW D f us=some (.bool true)) {base:Nat} {args:Array Value} {ds:List (DataW H)} {p:List MemPlace}
 (hv:∀ (j:Nat) (t:TypeId) (v:Value),ts[j]?=some t→args[j]?=some v→Value.okWide P W .any base t v) (hA:DataW.TrodAll enc P W 0 (fun _=>true) true ts args.toList ds p) :
 Calls P (ψ f) args W fun e W'=>e=.returned (.bool true)∧(∀ c,c < W.heap.size→W'.heap[c]?=W.heap[c]?)∧W.heap.size≤W'.heap.size∧W'.os=W.os∧W'.output=W.output:=by
 obtain ⟨us,us',h1,h2,h3,h4⟩:=args_open (ψ:=ψ) hts (fun j t v e1 e2=>hv j t v e1 (by simpa using e2)) hA
 obtain ⟨n,hc⟩:=fnW_call.1 (core us h1)
 obtain ⟨v',hc',hvd⟩:=callW_ok hok h2 hc
 rw [hvd.bool_inv] at hc'
 refine (callF_ok hL hc' (w:=W) (S:=fun c=>c < W.heap.size) (m:=fun _=>(0,0)) (cargs:=args) hlay (fun _ h=>h) (by rw [h3];simp) fun j x hx=>?_).mono ?_
 · have hj:j < args.size:=by have:=(List.getElem?_eq_some_iff.1 hx).1;rw [h3] at this;simpa using this
   rw [Array.getD_eq_getD_getElem?,Array.getElem?_eq_getElem hj]
   exact h4 j x _ hx (by simp [hj])
 · rintro e W' ⟨cv,S',m',rfl,hr,q1,q2,q3,q4⟩
   rw [hr.inv_bool]
   exact ⟨rfl,q1,q2,q3,q4⟩
theorem law_calls {ψf:Nat→FuncId} {Φ:Nat→FuncId→Option Nat} {D:WProg} (hL:Linked P Φ ⟨ψf,noLaid⟩ (erProg D)) (hok:okTree D.fns=true) {f:Nat} {ts:List TypeId} {ats:List AT} (hts:ts.map (argT P)=ats.map some)
 (core:∀ us,TyAll ats us→FnW D f us=some (.bool true)) {base:Nat} {args:Array Value} {ds:List (DataW H)} {p:List MemPlace}
 (hv:∀ (j:Nat) (t:TypeId) (v:Value),ts[j]?=some t→args[j]?=some v→Value.okWide P W .any base t v) (hA:DataW.TrodAll enc P W 0 (fun _=>true) true ts args.toList ds p) :
 Calls P (ψf f) args W fun e W'=>e=.returned (.bool true)∧(∀ c,c < W.heap.size→W'.heap[c]?=W.heap[c]?)∧W.heap.size≤W'.heap.size∧W'.os=W.os∧W'.output=W.output :=
 law_callsL hL hok (fun _ _ h=>by cases h) hts core hv hA
theorem trodAll_old {W':World} (hh:∀ c,c < W.heap.size→W'.heap[c]?=W.heap[c]?) {base:Nat} {sp:Nat→Bool} {held:Bool}:∀ {ts:List TypeId} {vs:List Value} {ds:List (DataW H)} {ps:List MemPlace},
 DataW.TrodAll enc P W base sp held ts vs ds ps→(∀ p ∈ ps,p.block < W.heap.size)→DataW.TrodAll enc P W' base sp held ts vs ds ps
 | [],[],[],_,h,_=>h
 | _::_,_::_,_::_,_,⟨p,q,⟨n,h1⟩,h2,e⟩,hs=>⟨p,q,⟨n,DataW.trod_carry n _ _ _ h1 fun x hx=>by
  have hlt:=hs x (by rw [e];exact List.mem_append_left _ hx)
  cases x with
  | cell b off=>simp only [World.sameAt,World.cell?];rw [hh b hlt]
  | map b=>exact hh b hlt⟩,trodAll_old hh h2 (fun x hx=>hs x (by rw [e];exact List.mem_append_right _ hx)),e⟩
theorem keptBut_old {W':World} (hh:∀ c,c < W.heap.size→W'.heap[c]?=W.heap[c]?) (ho:W'.os=W.os) (hp:W'.output=W.output) (may:MemPlace→Prop):W.keptBut W' may:=by
 have h:=World.keptBut_refl W may
 refine ⟨ho,hp,fun i hi=>?_⟩
 have:=h.2.2 i hi
 rw [hh i hi]
 exact this
theorem law_post {f:Func} {s:ChangeSpec} {fresh handsOn again:Bool} {W':World} {args:Array Value} {ds gs:List (DataW H)} {before:List MemPlace} {tb:TypeId}
 (kids:Kids P (· < P.types.size)) (full:∀ t e,t < P.types.size→P.underlying t=some (.slice e)→0 < P.cellsOf e)
 (hvars0:s.vars=[]) (hW:DataW.Whole enc P f.params.toList s.vars false W args.toList ds gs before) (hfn:s.fn H (ds++gs)={ results:=[.lit (.bool true)],args:=ds })
 (hps:∀ t ∈ f.params.toList,t < P.types.size) (hr:f.resultTypes=#[tb]) (htb:P.underlying tb=some .bool)
 (hh:∀ c,c < W.heap.size→W'.heap[c]?=W.heap[c]?) (_hsz:W.heap.size≤W'.heap.size) (ho:W'.os=W.os) (hp:W'.output=W.output) :
 s.post enc P f false fresh handsOn again W args (.bool true) W':=by
 have hlt:∀ p ∈ before,p.block < W.heap.size:=hW.lt
 have hW':=hW
 obtain ⟨p,q,hA,hV,rfl,hz,_⟩:=hW
 rw [hvars0] at hV
 obtain ⟨rfl,rfl⟩:=ChangeShapes.trodVars_none hV
 simp only [List.append_nil] at hlt hz hW' hfn
 have hargs:∀ sp:Nat→Bool,(∀ x ∈ p,sp x.block=true)→DataW.TrodAll enc P W' 0 sp true f.params.toList args.toList ds p:=fun sp hsp =>
  trodAll_old hh (DataW.TrodAll.respare kids full hps hA hsp) hlt
 have hvars:∀ sp:Nat→Bool,DataW.TrodVars enc P W' sp s.vars [] []:=fun sp=>by rw [hvars0];rfl
 have hres:∀ (b:Nat) (sp:Nat→Bool) (hd:Bool),DataW.TrodAll enc P W' b sp hd f.resultTypes.toList ((Value.bool true).resultList f.resultTypes.size) [.lit (.bool true)] []:=fun b sp hd=>by
  rw [hr];exact ChangeShapes.trodAll_mk1 (RowKit.shut_bool htb true)
 have hok:∀ (j:Nat) (t:TypeId) (r:Value),f.resultTypes[j]?=some t→((Value.bool true).resultList f.resultTypes.size)[j]?=some r→Value.okWide P W' .any 0 t r :=
  RowKit.ok_one hr rfl (by simp [Value.okWide,htb,Cell.okWide,Cell.ok])
 have hold:∀ x ∈ p,(fun b=>decide (b < W.heap.size)) x.block=true:=fun x hx=>by simpa using hlt x hx
 refine ⟨ds,[],p,[],p,[],hW',?_,?_,?_,keptBut_old hh ho hp _,fun _=>⟨hok,[.lit (.bool true)]++ds,[],([]++p)++[],⟨[]++p,[],?_,hvars _,rfl,?_,fun h=>by cases h⟩,?_⟩⟩
 · rw [List.append_nil,hfn];exact hres _ _ _
 · rw [List.append_nil,hfn];exact hargs _ hold
 · rw [List.append_nil,hfn];exact hvars _
 · exact ChangeShapes.trodAll_append (hargs _ fun _ _=>rfl) (hres _ _ _)
 · intro b off hb
   simp only [List.nil_append,List.append_nil] at hb
   have:=hz b off hb
   unfold World.frozen? at this ⊢
   rw [hh b (hlt _ hb)]
   exact this
 · intro x hx _
   simpa using hx
theorem trodAll_len {base:Nat} {sp:Nat→Bool} {held:Bool}:∀ {ts:List TypeId} {vs:List Value} {ds:List (DataW H)} {ps:List MemPlace},DataW.TrodAll enc P W base sp held ts vs ds ps→ds.length=ts.length
 | [],[],[],_,_=>rfl
 | _::_,_::_,_::_,_,⟨_,_,_,h2,_⟩=>by simp [trodAll_len h2]
def isTrue:Option AV→Bool
 | some (.bool true)=>true
 | _=>false
theorem isTrue_eq {o:Option AV} (h:isTrue o=true):o=some (.bool true):=by
 unfold isTrue at h
 split at h
 · rfl
 · cases h
end
end Go.Pw
end
section
namespace Go.Pw
open Go Go.Pav
theorem ty_map2 {α:Type} {g:α→List AV} {Q:List AV→Prop} {R:α→Prop} (h:∀ a,Q a→∃ x,a=g x∧R x):∀ (xs:List (List AV)),(∀ x ∈ xs,Q x)→∃ ys:List α,xs=ys.map g∧∀ y ∈ ys,R y:=by
 intro xs
 induction xs with
 | nil=>intro _;exact ⟨[],rfl,by simp⟩
 | cons a r ih =>
  intro hx
  obtain ⟨y,rfl,hy⟩:=h a (hx a (by simp))
  obtain ⟨ys,rfl,hys⟩:=ih fun x q=>hx x (by simp [q])
  exact ⟨y::ys,rfl,by simpa using ⟨hy,hys⟩⟩
theorem ty_slice {ts:List CT} {a:AV} (h:Ty (.slice ts) a):∃ (es:List (List AV)) (e:Bool),a=.ro ts.length es e∧es.length < 2 ^ 63∧∀ x ∈ es,x.length=ts.length∧∀ (j:Nat) (ct:CT) (v:AV),ts[j]?=some ct→x[j]?=some v→Ty ct v:=by
 cases h with
 | slice ts es ex hn hw h =>
  refine ⟨es,ex,rfl,hn,fun x hx=>?_⟩
  obtain ⟨i,hi⟩:=List.getElem?_of_mem hx
  exact ⟨hw i x hi,fun j ct v e1 e2=>h i x j ct v hi e1 e2⟩
theorem ty_u8 {v:AV} (h:Ty (.int .u8) v):∃ n:Int,v=.int .u8 n∧0≤n∧n≤255:=by
 cases h with
 | int k n h1 h2=>exact ⟨n,rfl,h1,h2⟩
theorem ty_bool {v:AV} (h:Ty .bool v):∃ b:Bool,v=.bool b:=by
 cases h with
 | bool b=>exact ⟨b,rfl⟩
end Go.Pw
end
section
namespace Go.Proofs.YtpgfajflkkjdaaaGreat
open Go.ChangeShapes Go.WideShapes Go.ChangeAt Go.RowKit Go.Pav Go.Pw P
theorem own_:ownKnob Tryz.prog.godebug=none:=by kernel_rfl
theorem kids_:Kids Tryz.prog (· < Tryz.prog.types.size):=kids_rows (by kernel_rfl) (by kernel_rfl)
theorem full_:∀ t e,t < Tryz.prog.types.size→Tryz.prog.underlying t=some (.slice e)→0 < Tryz.prog.cellsOf e:=slices_full_of Tryz.prog (by kernel_rfl)
end Go.Proofs.YtpgfajflkkjdaaaGreat
end
section
namespace Go.O
open Go Go.Pav Go.Pw
inductive Tr where
 | nil
 | node (l r:Tr) (s:Int)
namespace Tr
def cnt:Tr→Nat
 | nil=>0
 | node l r _=>l.cnt+r.cnt+1
def sum:Tr→Int
 | nil=>0
 | node l r s=>l.sum+s+r.sum
def hgt:Tr→Nat
 | nil=>0
 | node l r _=>max l.hgt r.hgt+1
def toL:Tr→List Int
 | nil=>[]
 | node l r s=>l.toL++s::r.toL
def c:Tr→AV
 | nil=>.nilp
 | node l r s=>.rop [l.c,r.c,.int .i64 s,.int .i64 (l.cnt+r.cnt+1:Nat),.int .i64 (l.sum+s+r.sum),.int .i64 (max l.hgt r.hgt+1:Nat)]
@[simp] theorem c_nil:c nil=.nilp:=rfl
theorem cnt_eq:∀ t:Tr,t.cnt=t.toL.length
 | nil=>rfl
 | node l r s=>by rw [cnt,toL,List.length_append,List.length_cons,cnt_eq l,cnt_eq r];omega
theorem sum_eq:∀ t:Tr,t.sum=t.toL.sum
 | nil=>rfl
 | node l r s=>by rw [sum,toL,List.sum_append,List.sum_cons,sum_eq l,sum_eq r];omega
theorem hgt_le:∀ t:Tr,t.hgt≤t.cnt
 | nil=>Nat.le_refl _
 | node l r s=>by have:=hgt_le l;have:=hgt_le r;rw [hgt,cnt];omega
end Tr
structure LB (L:List Int):Prop where
 nn:∀ x ∈ L,0≤x
 sm:L.sum≤4611686018427387904
 ln:L.length≤100000
theorem sum_nn:∀ {L:List Int},(∀ x ∈ L,0≤x)→0≤L.sum
 | [],_=>Int.le_refl _
 | a::r,h=>by
  have h1:=h a (by simp)
  have h2:=sum_nn (L:=r) (fun x hx=>h x (List.mem_cons_of_mem _ hx))
  rw [List.sum_cons];omega
theorem LB.s0 {L:List Int} (h:LB L):0≤L.sum:=sum_nn h.nn
theorem LB.left {A B:List Int} (h:LB (A++B)):LB A:=by
 have h1:=sum_nn (L:=B) (fun x hx=>h.nn x (List.mem_append_right _ hx))
 have h2:=h.sm
 have h3:=h.ln
 rw [List.sum_append] at h2
 rw [List.length_append] at h3
 exact ⟨fun x hx=>h.nn x (List.mem_append_left _ hx),by omega,by omega⟩
theorem LB.right {A B:List Int} (h:LB (A++B)):LB B:=by
 have h1:=sum_nn (L:=A) (fun x hx=>h.nn x (List.mem_append_left _ hx))
 have h2:=h.sm
 have h3:=h.ln
 rw [List.sum_append] at h2
 rw [List.length_append] at h3
 exact ⟨fun x hx=>h.nn x (List.mem_append_right _ hx),by omega,by omega⟩
theorem LB.tl {a:Int} {B:List Int} (h:LB (a::B)):LB B:=LB.right (A:=[a]) h
theorem LB.hd {a:Int} {B:List Int} (h:LB (a::B)):0≤a∧a≤4611686018427387904:=by
 have h1:=(h.tl).s0
 have h2:=h.sm
 rw [List.sum_cons] at h2
 exact ⟨h.nn a (by simp),by omega⟩
theorem LB.tr {t:Tr} (h:LB t.toL):0≤t.sum∧t.sum≤4611686018427387904∧t.cnt≤100000∧t.hgt≤100000:=by
 have h1:=h.s0
 have h2:=h.sm
 have h3:=h.ln
 have h4:=t.hgt_le
 rw [← Tr.sum_eq] at h1 h2
 rw [← Tr.cnt_eq] at h3
 omega
theorem LB.nd {l r:Tr} {s:Int} (h:LB (l.toL++s::r.toL)):LB l.toL∧LB r.toL∧0≤s∧s≤4611686018427387904∧l.sum+s+r.sum≤4611686018427387904∧l.cnt+r.cnt+1≤100000:=by
 have h1:=h.left
 have h2:=h.right
 have h3:=h.sm
 have h4:=h.ln
 rw [List.sum_append,List.sum_cons,← Tr.sum_eq,← Tr.sum_eq] at h3
 rw [List.length_append,List.length_cons,← Tr.cnt_eq,← Tr.cnt_eq] at h4
 exact ⟨h1,h2.tl,h2.hd.1,h2.hd.2,by omega,by omega⟩
end Go.O
end
section
namespace Go.O
open Go Go.Pav Go.Pw P Go.D
attribute [-simp] List.getElem_cons_drop
attribute [-simp] splice fillC AV.cells AV.cell AV.isAg isC
variable {C:WProg}
@[simp] theorem spl_eq (cs:List AV) (off:Nat) (v:List AV):splice cs off v=cs.take off++(v++cs.drop (off+v.length)):=rfl
def fil1 (e:Env) (cs:List AV) (off n:Nat) (r:List (Nat × Nat × Opd)) (v:List AV):Option (List AV):=if v.length=n∧off+n≤cs.length∧v.all AV.cell=true then fillC e (splice cs off v) r else none
@[simp] theorem fil_n (e:Env) (cs:List AV):fillC e cs []=some cs:=rfl
@[simp] theorem fil_c (e:Env) (cs:List AV) (off n:Nat) (x:Opd) (r:List (Nat × Nat × Opd)):fillC e cs ((off,n,x)::r)=fil1 e cs off n r (x.ev e).cells:=rfl
@[simp] theorem fil_1 (e:Env) (cs:List AV) (off:Nat) (r:List (Nat × Nat × Opd)) (v:AV):fil1 e cs off 1 r [v]=if off+1≤cs.length∧v.cell=true then fillC e (splice cs off [v]) r else none:=by simp [fil1]
@[simp] theorem cs_int (k:IntKind) (n:Int):(AV.int k n).cells=[.int k n]:=rfl
@[simp] theorem cs_bool (b:Bool):(AV.bool b).cells=[.bool b]:=rfl
@[simp] theorem cs_nilp:AV.nilp.cells=[.nilp]:=rfl
@[simp] theorem cs_rop (l:List AV):(AV.rop l).cells=[.rop l]:=rfl
@[simp] theorem cs_ro (z:Nat) (l:List (List AV)) (e:Bool):(AV.ro z l e).cells=[.ro z l e]:=rfl
@[simp] theorem cs_agg (l:List AV):(AV.agg l).cells=l:=rfl
@[simp] theorem cs_ptr (a b d:Nat):(AV.ptr a b d).cells=[.ptr a b d]:=rfl
@[simp] theorem cs_sl (a b d g i:Nat) (e:Bool):(AV.sl a b d g i e).cells=[.sl a b d g i e]:=rfl
@[simp] theorem cl_int (k:IntKind) (n:Int):(AV.int k n).cell=true:=rfl
@[simp] theorem cl_bool (b:Bool):(AV.bool b).cell=true:=rfl
@[simp] theorem cl_nilp:AV.nilp.cell=true:=rfl
@[simp] theorem cl_rop (l:List AV):(AV.rop l).cell=true:=rfl
@[simp] theorem cl_ro (z:Nat) (l:List (List AV)) (e:Bool):(AV.ro z l e).cell=true:=rfl
@[simp] theorem cl_agg (l:List AV):(AV.agg l).cell=false:=rfl
@[simp] theorem cl_ptr (a b d:Nat):(AV.ptr a b d).cell=true:=rfl
@[simp] theorem cl_sl (a b d g i:Nat) (e:Bool):(AV.sl a b d g i e).cell=true:=rfl
@[simp] theorem cl_fn (a:Nat) (l:List AV):(AV.fn a l).cell=true:=rfl
@[simp] theorem ag_agg (l:List AV):(AV.agg l).isAg=true:=rfl
@[simp] theorem ag_rop (l:List AV):(AV.rop l).isAg=false:=rfl
@[simp] theorem ic_int (k:IntKind) (n:Int):isC (.int k n)=true:=rfl
@[simp] theorem ic_bool (b:Bool):isC (.bool b)=true:=rfl
@[simp] theorem ic_nilp:isC .nilp=true:=rfl
@[simp] theorem ic_ro (z:Nat) (l:List (List AV)) (e:Bool):isC (.ro z l e)=true:=rfl
@[simp] theorem ic_rop (l:List AV):isC (.rop l)=true:=rfl
@[simp] theorem ic_ptr (a b d:Nat):isC (.ptr a b d)=false:=rfl
@[simp] theorem ic_sl (a b d g i:Nat) (e:Bool):isC (.sl a b d g i e)=false:=rfl
@[simp] theorem ic_agg (l:List AV):isC (.agg l)=false:=rfl
@[simp] theorem ic_fn (f:Nat) (a:AV) (l:List AV):isC (.fn f (a::l))=false:=rfl
@[simp] theorem ic_fn0 (f:Nat):isC (.fn f [])=true:=rfl
structure HasR (C:WProg):Prop where
 f366:C.fns.get 366=some w366
 f386:C.fns.get 386=some w386
 f474:C.fns.get 474=some w474
 f476:C.fns.get 476=some w476
 f475:C.fns.get 475=some w475
 f533:C.fns.get 533=some w533
 f534:C.fns.get 534=some w534
 f535:C.fns.get 535=some w535
 f369:C.fns.get 369=some w369
 f368:C.fns.get 368=some w368
 f472:C.fns.get 472=some w472
 inl:C.inl=inlB
 pp:C.pp=ppB
@[simp] theorem tr_hp (t:Tr):hasPtr t.c=false:=by cases t <;> rfl
@[simp] theorem tr_isC (t:Tr):isC t.c=true:=by cases t <;> rfl
@[simp] theorem tr_frz (h:WHeap) (n:Nat) (t:Tr):frzW h (n+1) t.c=some t.c:=by cases t <;> rfl
@[simp] theorem tr_cells (t:Tr):t.c.cells=[t.c]:=by cases t <;> rfl
@[simp] theorem tr_cell (t:Tr):t.c.cell=true:=by cases t <;> rfl
@[simp] theorem tr_ag (t:Tr):t.c.isAg=false:=by cases t <;> rfl
@[simp] theorem tr_reach (h:WHeap) (n:Nat) (t:Tr):reachW h n t.c=[]:=by cases n <;> cases t <;> rfl
@[simp] theorem tr_refs (t:Tr):refs t.c=[]:=by cases t <;> simp [Tr.c,refs]
@[simp] theorem tr_ren (π:Nat→Option Nat) (t:Tr):ren π t.c=some t.c:=by cases t <;> simp [Tr.c,ren]
theorem cnt_ok (H:HasR C) (t:Tr):FnW C 366 [t.c]=some (.int .i64 t.cnt):=by
 rw [fnW_eq H.f366 rfl]
 cases t <;> simp (disch:=omega) [w366,Tr.c,Tr.cnt,H.inl,inlB,H.pp,ppB]
theorem tot_ok (H:HasR C) (t:Tr):FnW C 386 [t.c]=some (.int .i64 t.sum):=by
 rw [fnW_eq H.f386 rfl]
 cases t <;> simp (disch:=omega) [w386,Tr.c,Tr.sum,H.inl,inlB,H.pp,ppB]
theorem tall_ok (H:HasR C) (t:Tr):FnW C 474 [t.c]=some (.int .i64 t.hgt):=by
 rw [fnW_eq H.f474 rfl]
 cases t <;> simp (disch:=omega) [w474,Tr.c,Tr.hgt,H.inl,inlB,H.pp,ppB]
theorem over_ok (H:HasR C) (l r:Tr) (s:Int) (h:LB (l.toL++s::r.toL)):FnW C 476 [l.c,.int .i64 s,r.c]=some (Tr.node l r s).c:=by
 obtain ⟨h1,h2,h3,h4,h5,h6⟩:=h.nd
 have a:=h1.tr
 have b:=h2.tr
 have c1:=cnt_ok H l
 have c2:=cnt_ok H r
 have t1:=tot_ok H l
 have t2:=tot_ok H r
 have g1:=tall_ok H l
 have g2:=tall_ok H r
 rw [fnW_eq H.f476 rfl,Tr.c]
 by_cases q:l.hgt < r.hgt
 · rw [Nat.max_eq_right (by omega)]
   have q':(l.hgt:Int) < r.hgt:=by omega
   simp (disch:=omega) [w476,c1,c2,t1,t2,g1,g2,imax_l,imax_r,wI64,H.inl,inlB,H.pp,ppB]
 · rw [Nat.max_eq_left (by omega)]
   have q':¬ (l.hgt:Int) < r.hgt:=by omega
   simp (disch:=omega) [w476,c1,c2,t1,t2,g1,g2,imax_l,imax_r,wI64,H.inl,inlB,H.pp,ppB]
end Go.O
end
section
namespace Go.O
open Go Go.Pav Go.Pw P Go.D
attribute [-simp] List.getElem_cons_drop
attribute [-simp] splice fillC AV.cells AV.cell AV.isAg isC
variable {C:WProg}
theorem c_ex (l r:Tr) (s:Int):∃ i j k:Int,(Tr.node l r s).c=.rop [l.c,r.c,.int .i64 s,.int .i64 i,.int .i64 j,.int .i64 k]:=⟨_,_,_,rfl⟩
theorem LB.sub {A B D:List Int} (h:LB (A++B++D)):LB B:=h.left.right
theorem LB.cast {A B:List Int} (h:LB A) (e:A=B):LB B:=e ▸ h
theorem bal_ok (H:HasR C) (l r:Tr) (s:Int) (h:LB (l.toL++s::r.toL)):∃ t:Tr,FnW C 475 [l.c,.int .i64 s,r.c]=some t.c∧t.toL=l.toL++s::r.toL:=by
 obtain ⟨h1,h2,h3,h4,h5,h6⟩:=h.nd
 have a:=h1.tr
 have b:=h2.tr
 have g1:=tall_ok H l
 have g2:=tall_ok H r
 have q3:=fun a b c h n=>rnW_eq (args:=[a,b,c]) H.f533 rfl h n
 have q4:=fun a b c h n=>rnW_eq (args:=[a,b,c]) H.f534 rfl h n
 have q5:=fun a b c h n=>rnW_eq (args:=[a,b,c]) H.f535 rfl h n
 by_cases c1:l.hgt+1 < r.hgt
 · have c1':1 < (r.hgt:Int) - l.hgt:=by omega
   cases r with
   | nil=>simp [Tr.hgt] at c1
   | node rl rr rs =>
    have g3:=tall_ok H rl
    have g4:=tall_ok H rr
    obtain ⟨i,j,k,e1⟩:=c_ex rl rr rs
    by_cases c2:rr.hgt < rl.hgt
    · have c2':(rr.hgt:Int) < rl.hgt:=by omega
      cases rl with
      | nil=>simp [Tr.hgt] at c2
      | node x y m =>
       refine ⟨.node (.node l x s) (.node y rr rs) m,?_,by simp [Tr.toL]⟩
       have o1:=over_ok H l x s (LB.left (B:=m::y.toL++rs::rr.toL) (h.cast (by simp [Tr.toL])))
       have o2:=over_ok H y rr rs (LB.right (A:=l.toL++s::x.toL++[m]) (h.cast (by simp [Tr.toL])))
       have o3:=over_ok H (.node l x s) (.node y rr rs) m (h.cast (by simp [Tr.toL]))
       obtain ⟨i2,j2,k2,e2⟩:=c_ex x y m
       rw [fnW_eq H.f475 rfl]
       rw [e1,e2] at g2 ⊢
       rw [e2] at g3
       simp (disch:=omega) [w475,w533,w534,w535,q3,q4,q5,g1,g2,g3,g4,o1,o2,o3,c1',c2',wI64,H.inl,inlB,H.pp,ppB]
    · have c2':¬ (rr.hgt:Int) < rl.hgt:=by omega
      refine ⟨.node (.node l rl s) rr rs,?_,by simp [Tr.toL]⟩
      have o1:=over_ok H l rl s (LB.left (B:=rs::rr.toL) (h.cast (by simp [Tr.toL])))
      have o3:=over_ok H (.node l rl s) rr rs (h.cast (by simp [Tr.toL]))
      rw [fnW_eq H.f475 rfl]
      rw [e1] at g2 ⊢
      simp (disch:=omega) [w475,w533,w534,w535,q3,q4,q5,g1,g2,g3,g4,o1,o3,c1',c2',wI64,H.inl,inlB,H.pp,ppB]
 · have c1':¬ 1 < (r.hgt:Int) - l.hgt:=by omega
   by_cases c3:r.hgt+1 < l.hgt
   · have c3':(r.hgt:Int) - l.hgt < -1:=by omega
     cases l with
     | nil=>simp [Tr.hgt] at c3
     | node ll lr ls =>
      have g3:=tall_ok H ll
      have g4:=tall_ok H lr
      obtain ⟨i,j,k,e1⟩:=c_ex ll lr ls
      by_cases c2:ll.hgt < lr.hgt
      · have c2':(ll.hgt:Int) < lr.hgt:=by omega
        cases lr with
        | nil=>simp [Tr.hgt] at c2
        | node x y m =>
         refine ⟨.node (.node ll x ls) (.node y r s) m,?_,by simp [Tr.toL]⟩
         have o1:=over_ok H ll x ls (LB.left (B:=m::y.toL++s::r.toL) (h.cast (by simp [Tr.toL])))
         have o2:=over_ok H y r s (LB.right (A:=ll.toL++ls::x.toL++[m]) (h.cast (by simp [Tr.toL])))
         have o3:=over_ok H (.node ll x ls) (.node y r s) m (h.cast (by simp [Tr.toL]))
         obtain ⟨i2,j2,k2,e2⟩:=c_ex x y m
         rw [fnW_eq H.f475 rfl]
         rw [e1,e2] at g1 ⊢
         rw [e2] at g4
         simp (disch:=omega) [w475,w533,w534,w535,q3,q4,q5,g1,g2,g3,g4,o1,o2,o3,c1',c3',c2',wI64,H.inl,inlB,H.pp,ppB]
      · have c2':¬ (ll.hgt:Int) < lr.hgt:=by omega
        refine ⟨.node ll (.node lr r s) ls,?_,by simp [Tr.toL]⟩
        have o1:=over_ok H lr r s (LB.right (A:=ll.toL++[ls]) (h.cast (by simp [Tr.toL])))
        have o3:=over_ok H ll (.node lr r s) ls (h.cast (by simp [Tr.toL]))
        rw [fnW_eq H.f475 rfl]
        rw [e1] at g1 ⊢
        simp (disch:=omega) [w475,w533,w534,w535,q3,q4,q5,g1,g2,g3,g4,o1,o3,c1',c3',c2',wI64,H.inl,inlB,H.pp,ppB]
   · have c3':¬ (r.hgt:Int) - l.hgt < -1:=by omega
     refine ⟨.node l r s,?_,rfl⟩
     have o1:=over_ok H l r s h
     rw [fnW_eq H.f475 rfl]
     simp (disch:=omega) [w475,w533,w534,w535,q3,q4,q5,g1,g2,o1,c1',c3',wI64,H.inl,inlB,H.pp,ppB]
end Go.O
end
section
namespace Go.O
open Go Go.Pav Go.Pw P Go.D
attribute [-simp] List.getElem_cons_drop
attribute [-simp] splice fillC AV.cells AV.cell AV.isAg isC
variable {C:WProg}
structure HasJ (C:WProg):Prop extends HasR C where
 f372:C.fns.get 372=some w372
theorem join_ok (H:HasR C):∀ (n:Nat) (l r:Tr) (s:Int),l.cnt+r.cnt≤n→LB (l.toL++s::r.toL)→∃ t:Tr,FnW C 369 [l.c,.int .i64 s,r.c]=some t.c∧t.toL=l.toL++s::r.toL:=by
 intro n
 induction n with
 | zero =>
  intro l r s hn h
  have e1:=l.hgt_le
  have e2:=r.hgt_le
  have g1:=tall_ok H l
  have g2:=tall_ok H r
  have o:=over_ok H l r s h
  refine ⟨.node l r s,?_,rfl⟩
  have c1:¬ ((r.hgt:Int)+1 < l.hgt):=by omega
  have c2:¬ ((l.hgt:Int)+1 < r.hgt):=by omega
  rw [fnW_eq H.f369 rfl]
  simp (disch:=omega) [w369,g1,g2,o,c1,c2,wI64,H.inl,inlB,H.pp,ppB]
 | succ n ih =>
  intro l r s hn h
  obtain ⟨h1,h2,h3,h4,h5,h6⟩:=h.nd
  have a:=h1.tr
  have b:=h2.tr
  have g1:=tall_ok H l
  have g2:=tall_ok H r
  by_cases c1:r.hgt+1 < l.hgt
  · have c1':(r.hgt:Int)+1 < l.hgt:=by omega
    cases l with
    | nil=>simp [Tr.hgt] at c1
    | node ll lr ls =>
     obtain ⟨i,j,k,e1⟩:=c_ex ll lr ls
     obtain ⟨t1,q1,q2⟩:=ih lr r s (by rw [Tr.cnt] at hn;omega) (LB.right (A:=ll.toL++[ls]) (h.cast (by simp [Tr.toL])))
     obtain ⟨t2,q3,q4⟩:=bal_ok H ll t1 ls (h.cast (by simp [Tr.toL,q2]))
     refine ⟨t2,?_,by rw [q4,q2];simp [Tr.toL]⟩
     rw [fnW_eq H.f369 rfl]
     rw [e1] at g1 ⊢
     simp (disch:=omega) [w369,g1,g2,q1,q3,c1',wI64,H.inl,inlB,H.pp,ppB]
  · have c1':¬ ((r.hgt:Int)+1 < l.hgt):=by omega
    by_cases c2:l.hgt+1 < r.hgt
    · have c2':(l.hgt:Int)+1 < r.hgt:=by omega
      cases r with
      | nil=>simp [Tr.hgt] at c2
      | node rl rr rs =>
       obtain ⟨i,j,k,e1⟩:=c_ex rl rr rs
       obtain ⟨t1,q1,q2⟩:=ih l rl s (by rw [Tr.cnt] at hn;omega) (LB.left (B:=rs::rr.toL) (h.cast (by simp [Tr.toL])))
       obtain ⟨t2,q3,q4⟩:=bal_ok H t1 rr rs (h.cast (by simp [Tr.toL,q2]))
       refine ⟨t2,?_,by rw [q4,q2];simp [Tr.toL]⟩
       rw [fnW_eq H.f369 rfl]
       rw [e1] at g2 ⊢
       simp (disch:=omega) [w369,g1,g2,q1,q3,c1',c2',wI64,H.inl,inlB,H.pp,ppB]
    · have c2':¬ ((l.hgt:Int)+1 < r.hgt):=by omega
      have o:=over_ok H l r s h
      refine ⟨.node l r s,?_,rfl⟩
      rw [fnW_eq H.f369 rfl]
      simp (disch:=omega) [w369,g1,g2,o,c1',c2',wI64,H.inl,inlB,H.pp,ppB]
theorem take_mid (A B:List Int) (s:Int) (k:Nat) (h:A.length < k):(A++s::B).take k=A++s::B.take (k - A.length - 1):=by
 obtain ⟨d,rfl⟩:∃ d,k=A.length+(d+1):=⟨k - A.length - 1,by omega⟩
 rw [List.take_append,List.take_of_length_le (by omega),show A.length+(d+1) - A.length=d+1 by omega,List.take_succ_cons]
 congr
theorem drop_mid (A B:List Int) (s:Int) (k:Nat) (h:A.length < k):(A++s::B).drop k=B.drop (k - A.length - 1):=by
 obtain ⟨d,rfl⟩:∃ d,k=A.length+(d+1):=⟨k - A.length - 1,by omega⟩
 rw [List.drop_append,List.drop_of_length_le (by omega),show A.length+(d+1) - A.length=d+1 by omega,List.drop_succ_cons]
 rfl
theorem split_ok (H:HasR C):∀ (x:Tr) (k:Nat),k≤x.cnt→LB x.toL→∃ l r:Tr,FnW C 368 [x.c,.int .i64 k]=some (.tup [l.c,r.c])∧l.toL=x.toL.take k∧r.toL=x.toL.drop k:=by
 intro x
 induction x with
 | nil =>
  intro k hk h
  refine ⟨.nil,.nil,?_,by simp [Tr.toL],by simp [Tr.toL]⟩
  rw [fnW_eq H.f368 rfl]
  simp (disch:=omega) [w368,wI64,H.inl,inlB,H.pp,ppB]
 | node l r s ihl ihr =>
  intro k hk h
  obtain ⟨h1,h2,h3,h4,h5,h6⟩:=LB.nd (l:=l) (r:=r) (s:=s) h
  obtain ⟨i,j,m,e1⟩:=c_ex l r s
  have g1:=cnt_ok H l
  have hl:=l.cnt_eq
  rw [Tr.cnt] at hk
  by_cases c:l.cnt < k
  · have c':(l.cnt:Int) < k:=by omega
    obtain ⟨u,v,p1,p2,p3⟩:=ihr (k - l.cnt - 1) (by omega) h2
    have hk2:((k:Int) - l.cnt - 1)=((k - l.cnt - 1:Nat):Int):=by omega
    have e2:l.toL++s::u.toL=(l.toL++s::r.toL).take k:=by rw [take_mid _ _ _ _ (by omega),p2,hl]
    have e3:v.toL=(l.toL++s::r.toL).drop k:=by rw [drop_mid _ _ _ _ (by omega),p3,hl]
    obtain ⟨t,q1,q2⟩:=join_ok H _ l u s (Nat.le_refl _) (by rw [e2];exact LB.left (B:=(l.toL++s::r.toL).drop k) (by rw [List.take_append_drop];exact h))
    refine ⟨t,v,?_,by rw [q2,e2];rfl,by rw [e3];rfl⟩
    rw [fnW_eq H.f368 rfl,e1]
    generalize (k - l.cnt - 1)=k2 at *
    simp (disch:=omega) [w368,g1,c',hk2,p1,q1,wI64,H.inl,inlB,H.pp,ppB]
  · have c':¬ (l.cnt:Int) < k:=by omega
    obtain ⟨u,v,p1,p2,p3⟩:=ihl k (by omega) h1
    have e2:u.toL=(l.toL++s::r.toL).take k:=by rw [p2,List.take_append_of_le_length (by omega)]
    have e3:v.toL++s::r.toL=(l.toL++s::r.toL).drop k:=by rw [p3,List.drop_append_of_le_length (by omega)]
    obtain ⟨t,q1,q2⟩:=join_ok H _ v r s (Nat.le_refl _) (by rw [e3];exact LB.right (A:=(l.toL++s::r.toL).take k) (by rw [List.take_append_drop];exact h))
    refine ⟨u,t,?_,by rw [e2];rfl,by rw [q2,e3];rfl⟩
    rw [fnW_eq H.f368 rfl,e1]
    simp (disch:=omega) [w368,g1,c',p1,q1,wI64,H.inl,inlB,H.pp,ppB]
theorem put_ok (H:HasR C) (l r:Tr) (h:LB (l.toL++r.toL)):∃ t:Tr,FnW C 472 [l.c,r.c]=some t.c∧t.toL=l.toL++r.toL:=by
 cases r with
 | nil =>
  refine ⟨l,?_,by simp [Tr.toL]⟩
  rw [fnW_eq H.f472 rfl]
  simp (disch:=omega) [w472,wI64,H.inl,inlB,H.pp,ppB]
 | node rl rr rs =>
  obtain ⟨u,v,p1,p2,p3⟩:=split_ok H (.node rl rr rs) 1 (by rw [Tr.cnt];omega) h.right
  obtain ⟨a,L,hL⟩:∃ a L,(Tr.node rl rr rs).toL=a::L:=by
   rw [Tr.toL]
   cases rl.toL with
   | nil=>exact ⟨_,_,rfl⟩
   | cons x y=>exact ⟨_,_,rfl⟩
  rw [hL] at p2 p3
  simp at p2 p3
  cases u with
  | nil=>simp [Tr.toL] at p2
  | node ul ur us =>
   rw [Tr.toL] at p2
   have e0:ul.toL=[]:=by
    cases hu:ul.toL with
    | nil=>rfl
    | cons x y=>rw [hu] at p2;simp at p2
   rw [e0] at p2
   simp at p2
   obtain ⟨rfl,_⟩:=p2
   obtain ⟨t,q1,q2⟩:=join_ok H _ l v us (Nat.le_refl _) (by rw [p3,← hL];exact h)
   obtain ⟨i,j,m,e1⟩:=c_ex rl rr rs
   obtain ⟨i2,j2,m2,e2⟩:=c_ex ul ur us
   refine ⟨t,?_,by rw [q2,p3,hL]⟩
   rw [fnW_eq H.f472 rfl]
   rw [e2,e1] at p1
   rw [e1]
   simp at p1
   simp (disch:=omega) [w472,p1,q1,wI64,H.inl,inlB,H.pp,ppB]
theorem find_ok (H:HasJ C):∀ (x:Tr) (k:Nat),k < x.cnt→x.cnt≤100000→∃ (l r:Tr) (s:Int),FnW C 372 [x.c,.int .i64 k]=some (Tr.node l r s).c∧x.toL[k]?=some s:=by
 intro x
 induction x with
 | nil=>intro k hk;simp [Tr.cnt] at hk
 | node l r s ihl ihr =>
  intro k hk hb
  rw [Tr.cnt] at hk hb
  obtain ⟨i,j,m,e1⟩:=c_ex l r s
  have g1:=cnt_ok H.toHasR l
  have hl:=l.cnt_eq
  by_cases c:k < l.cnt
  · have c':(k:Int) < l.cnt:=by omega
    obtain ⟨a,b,d,p1,p2⟩:=ihl k c (by omega)
    refine ⟨a,b,d,?_,by rw [Tr.toL,List.getElem?_append_left (by omega)];exact p2⟩
    rw [fnW_eq H.f372 rfl,e1]
    simp (disch:=omega) [w372,g1,c',p1,wI64,H.inl,inlB,H.pp,ppB]
  · have c':¬ (k:Int) < l.cnt:=by omega
    by_cases d:l.cnt < k
    · have d':(l.cnt:Int) < k:=by omega
      obtain ⟨a,b,u,p1,p2⟩:=ihr (k - l.cnt - 1) (by omega) (by omega)
      have hk2:((k:Int) - l.cnt - 1)=((k - l.cnt - 1:Nat):Int):=by omega
      refine ⟨a,b,u,?_,by rw [Tr.toL,List.getElem?_append_right (by omega),← hl,show k - l.cnt=(k - l.cnt - 1)+1 by omega,List.getElem?_cons_succ];exact p2⟩
      rw [fnW_eq H.f372 rfl,e1]
      generalize (k - l.cnt - 1)=k2 at *
      simp (disch:=omega) [w372,g1,c',d',hk2,p1,wI64,H.inl,inlB,H.pp,ppB]
    · have d':¬ (l.cnt:Int) < k:=by omega
      refine ⟨l,r,s,?_,by rw [Tr.toL,List.getElem?_append_right (by omega),← hl,show k - l.cnt=0 by omega];rfl⟩
      rw [fnW_eq H.f372 rfl,e1]
      simp (disch:=omega) [w372,g1,c',d',wI64,H.inl,inlB,H.pp,ppB]
end Go.O
end
section
namespace Go.O
open Go Go.Pav Go.Pw P Go.D
attribute [-simp] List.getElem_cons_drop
attribute [-simp] splice fillC AV.cells AV.cell AV.isAg isC
variable {C:WProg}
structure HasP (C:WProg):Prop extends HasJ C where
 f190:C.fns.get 190=some w190
 f205:C.fns.get 205=some w205
 f197:C.fns.get 197=some w197
 f194:C.fns.get 194=some w194
 f363:C.fns.get 363=some w363
 f387:C.fns.get 387=some w387
 f207:C.fns.get 207=some w207
 f470:C.fns.get 470=some w470
 f471:C.fns.get 471=some w471
 f364:C.fns.get 364=some w364
theorem rlen_ok (H:HasP C) (t:Tr):FnW C 190 [.agg [t.c]]=some (.int .i64 t.cnt):=by
 have h:=cnt_ok H.toHasR t
 rw [fnW_eq H.f190 rfl]
 simp (disch:=omega) [w190,h,wI64,H.inl,inlB,H.pp,ppB]
theorem rtot_ok (H:HasP C) (t:Tr):FnW C 205 [.agg [t.c]]=some (.int .i64 t.sum):=by
 have h:=tot_ok H.toHasR t
 rw [fnW_eq H.f205 rfl]
 simp (disch:=omega) [w205,h,wI64,H.inl,inlB,H.pp,ppB]
theorem rat_ok (H:HasP C) (t:Tr) (k:Nat) (hk:k < t.cnt) (hb:t.cnt≤100000):∃ s:Int,FnW C 197 [.agg [t.c],.int .i64 k]=some (.tup [.int .i64 s,.int .i64 0])∧t.toL[k]?=some s:=by
 have h:=rlen_ok H t
 obtain ⟨l,r,s,p1,p2⟩:=find_ok H.toHasJ t k hk hb
 obtain ⟨i,j,m,e1⟩:=c_ex l r s
 rw [e1] at p1
 refine ⟨s,?_,p2⟩
 have h1:¬ (k:Int) < 0:=by omega
 have h2:¬ (t.cnt:Int)≤k:=by omega
 rw [fnW_eq H.f197 rfl]
 simp (disch:=omega) [w197,h,p1,h1,h2,wI64,H.inl,inlB,H.pp,ppB]
theorem set_eq (L:List Int) (k:Nat) (z:Int) (h:k < L.length):L.set k z=L.take k++z::(L.drop k).drop 1:=by
 rw [List.set_eq_take_append_cons_drop,if_pos h,List.drop_drop]
theorem sum_set (L:List Int) (k:Nat) (z s:Int) (h:L[k]?=some s):(L.set k z).sum=L.sum - s+z:=by
 obtain ⟨h1,h2⟩:=List.getElem?_eq_some_iff.1 h
 have e:L=L.take k++s::L.drop (k+1):=by rw [← h2,← List.drop_eq_getElem_cons h1,List.take_append_drop]
 rw [List.set_eq_take_append_cons_drop,if_pos h1]
 conv=>rhs;rw [e]
 simp [List.sum_append]
 omega
theorem rset_ok (H:HasP C) (t:Tr) (k:Nat) (hk:k < t.cnt) (z:Int) (hz:0≤z) (hz2:z≤2305843009213693952) (h:LB t.toL) (h':LB (t.toL.set k z)) :
 ∃ t':Tr,FnW C 194 [.agg [t.c],.int .i64 k,.int .i64 z]=some (.tup [.agg [t'.c],.int .i64 0])∧t'.toL=t.toL.set k z:=by
 have hb:=h.tr
 obtain ⟨s,p1,p2⟩:=rat_ok H t k hk (by omega)
 have hT:=rtot_ok H t
 have hl:k < t.toL.length:=by rw [← t.cnt_eq];exact hk
 obtain ⟨u,v,q1,q2,q3⟩:=split_ok H.toHasR t k (by omega) h
 have hv:v.cnt=t.cnt - k:=by rw [v.cnt_eq,q3,List.length_drop,← t.cnt_eq]
 obtain ⟨u2,v2,r1,r2,r3⟩:=split_ok H.toHasR v 1 (by omega) (by rw [q3];exact LB.right (A:=t.toL.take k) (by rw [List.take_append_drop];exact h))
 have e:u.toL++z::v2.toL=t.toL.set k z:=by rw [set_eq _ _ _ hl,q2,r3,q3]
 obtain ⟨w,s1,s2⟩:=join_ok H.toHasR _ u v2 z (Nat.le_refl _) (by rw [e];exact h')
 refine ⟨w,?_,by rw [s2,e]⟩
 have hs:=h'.sm
 have hss:=sum_set t.toL k z s p2
 rw [← t.sum_eq] at hss
 have hs0:=h.nn s (List.mem_of_getElem? p2)
 have hs1:s≤t.sum:=by
  have h0:=sum_nn (L:=t.toL.set k 0) (fun x hx=>by
   rcases List.mem_or_eq_of_mem_set hx with q | q
   · exact h.nn x q
   · omega)
  have:=sum_set t.toL k 0 s p2
  rw [← t.sum_eq] at this
  omega
 have c1:¬ (4611686018427387904 - (t.sum - s) < z):=by omega
 have c2:¬ z < 0:=by omega
 have c3:¬ 2305843009213693952 < z:=by omega
 simp at r1
 rw [fnW_eq H.f194 rfl]
 simp (disch:=omega) [w194,p1,hT,q1,r1,s1,c1,c2,c3,wI64,H.inl,inlB,H.pp,ppB]
theorem fchk1_ok (H:HasP C) (s:Int) (h0:0≤s) (h1:s≤2305843009213693952) (f:Bool):FnW C 363 [.ro 1 [[.int .i64 s]] f]=some (.int .i64 0):=by
 have c1:¬ s < 0:=by omega
 have c2:¬ 2305843009213693952 < s:=by omega
 have c3:¬ 4611686018427387904 < s:=by omega
 rw [fnW_eq H.f363 rfl]
 simp (disch:=omega) [w363,ck_unf w363_B0.eq_1,ck_unf w363_c0.eq_1,c1,c2,c3,wI64,H.inl,inlB,H.pp,ppB]
theorem grown0_ok (H:HasP C) (f:Bool):FnW C 387 [.ro 1 [] f]=some .nilp:=by
 rw [fnW_eq H.f387 rfl]
 simp (disch:=omega) [w387,wI64,H.inl,inlB,H.pp,ppB]
theorem grown1_ok (H:HasP C) (s:Int) (h:LB [s]) (f:Bool):FnW C 387 [.ro 1 [[.int .i64 s]] f]=some (Tr.node .nil .nil s).c:=by
 have g:=fun f=>grown0_ok H f
 have o:=over_ok H.toHasR .nil .nil s (by simpa [Tr.toL] using h)
 rw [Tr.c_nil] at o
 rw [fnW_eq H.f387 rfl]
 simp (disch:=omega) [w387,g,o,wI64,H.inl,inlB,H.pp,ppB]
theorem rof1_ok (H:HasP C) (s:Int) (h:LB [s]) (h1:s≤2305843009213693952) (f:Bool):FnW C 207 [.ro 1 [[.int .i64 s]] f]=some (.tup [.agg [(Tr.node .nil .nil s).c],.int .i64 0]):=by
 have g:=fun f=>grown1_ok H s h f
 have o:=fun f=>fchk1_ok H s h.hd.1 h1 f
 rw [fnW_eq H.f207 rfl]
 simp (disch:=omega) [w207,g,o,wI64,H.inl,inlB,H.pp,ppB]
theorem rsplit_ok (H:HasP C) (t:Tr) (h:LB t.toL):∃ l r:Tr,FnW C 470 [.agg [t.c],.int .i64 t.cnt]=some (.tup [.agg [l.c],.agg [r.c],.int .i64 0])∧l.toL=t.toL∧r.toL=[]:=by
 obtain ⟨u,v,q1,q2,q3⟩:=split_ok H.toHasR t t.cnt (Nat.le_refl _) h
 have hl:=rlen_ok H t
 refine ⟨u,v,?_,by rw [q2,t.cnt_eq,List.take_length],by rw [q3,t.cnt_eq,List.drop_length]⟩
 have h1:¬ (t.cnt:Int) < 0:=by omega
 rw [fnW_eq H.f470 rfl]
 simp (disch:=omega) [w470,hl,q1,h1,wI64,H.inl,inlB,H.pp,ppB]
theorem rjoin_ok (H:HasP C) (t u:Tr) (h:LB (t.toL++u.toL)) (hc:t.cnt+u.cnt≤4096):∃ v:Tr,FnW C 471 [.agg [t.c],.agg [u.c]]=some (.tup [.agg [v.c],.int .i64 0])∧v.toL=t.toL++u.toL:=by
 obtain ⟨v,q1,q2⟩:=put_ok H.toHasR t u h
 have l1:=rlen_ok H t
 have l2:=rlen_ok H u
 have t1:=rtot_ok H t
 have t2:=rtot_ok H u
 have s1:=h.left.tr
 have s2:=h.right.tr
 have hs:=h.sm
 rw [List.sum_append,← Tr.sum_eq,← Tr.sum_eq] at hs
 have c1:¬ (4096 < (t.cnt:Int)+u.cnt):=by omega
 have c2:¬ (4611686018427387904 - u.sum < t.sum):=by omega
 refine ⟨v,?_,q2⟩
 rw [fnW_eq H.f471 rfl]
 simp (disch:=omega) [w471,l1,l2,t1,t2,q1,c1,c2,wI64,H.inl,inlB,H.pp,ppB]
theorem rins_ok (H:HasP C) (t:Tr) (s:Int) (h:LB (t.toL++[s])) (h1:s≤2305843009213693952) (hc:t.cnt+1≤4096) (f:Bool) :
 ∃ v:Tr,FnW C 364 [.agg [t.c],.int .i64 t.cnt,.ro 1 [[.int .i64 s]] f]=some (.tup [.agg [v.c],.int .i64 0])∧v.toL=t.toL++[s]:=by
 obtain ⟨l,r,q1,q2,q3⟩:=rsplit_ok H t h.left
 have o:=fun f=>rof1_ok H s h.right h1 f
 obtain ⟨v,j1,j2⟩:=rjoin_ok H t (.node .nil .nil s) (by simpa [Tr.toL] using h) (by simp [Tr.cnt];omega)
 obtain ⟨w,p1,p2⟩:=put_ok H.toHasR l (.node .nil .nil s) (by rw [q2];simpa [Tr.toL] using h)
 obtain ⟨x,p3,p4⟩:=put_ok H.toHasR w r (by rw [p2,q2,q3];simpa [Tr.toL] using h)
 refine ⟨x,?_,by rw [p4,p2,q2,q3];simp [Tr.toL]⟩
 rw [fnW_eq H.f364 rfl]
 simp (disch:=omega) [w364,q1,o,j1,p1,p3,wI64,H.inl,inlB,H.pp,ppB]
end Go.O
end
section
namespace Go.O
open Go Go.Pav Go.Pw
def SV:Nat→List (Nat × Nat)→Prop
 | _,[]=>True
 | lo,s::r=>lo≤s.1∧s.1 < s.2∧SV (s.2+1) r
def inS (L:List (Nat × Nat)) (j:Nat):Prop:=∃ s ∈ L,s.1≤j∧j < s.2
abbrev eS (s:Nat × Nat):List AV:=[.int .i64 s.1,.int .i64 s.2]
theorem SV.mono {lo lo':Nat}:∀ {L:List (Nat × Nat)},SV lo L→lo'≤lo→SV lo' L
 | [],_,_=>trivial
 | s::r,h,hl=>⟨Nat.le_trans hl h.1,h.2.1,h.2.2⟩
theorem SV.ge {lo:Nat}:∀ {L:List (Nat × Nat)},SV lo L→∀ s ∈ L,lo≤s.1∧s.1 < s.2
 | [],_,s,hs=>absurd hs (by simp)
 | a::r,h,s,hs=>by
  rcases List.mem_cons.1 hs with rfl | hs
  · exact ⟨h.1,h.2.1⟩
  · have:=SV.ge h.2.2 s hs
    have h1:=h.1
    have h2:=h.2.1
    exact ⟨by omega,this.2⟩
theorem SV.app {lo:Nat}:∀ {A B:List (Nat × Nat)},SV lo (A++B)→SV lo A∧SV lo B∧∀ s ∈ A,∀ u ∈ B,s.2 < u.1
 | [],B,h=>⟨trivial,h,fun s hs=>absurd hs (by simp)⟩
 | a::A,B,h=>by
  obtain ⟨h1,h2,h3⟩:=h
  obtain ⟨h4,h5,h6⟩:=SV.app (A:=A) h3
  refine ⟨⟨h1,h2,h4⟩,h5.mono (by omega),fun s hs u hu=>?_⟩
  rcases List.mem_cons.1 hs with rfl | hs
  · have:=(SV.ge h5 u hu).1;omega
  · exact h6 s hs u hu
theorem SV.snoc {lo:Nat} {f t:Nat} (hf:lo≤f) (ht:f < t):∀ {L:List (Nat × Nat)},SV lo L→(∀ s ∈ L,s.2 < f)→SV lo (L++[(f,t)])
 | [],_,_=>⟨hf,ht,trivial⟩
 | a::L,h,hs=>⟨h.1,h.2.1,SV.snoc (by have:=hs a (by simp);omega) ht h.2.2 (fun s q=>hs s (List.mem_cons_of_mem _ q))⟩
theorem SV.len {B:Nat}:∀ {lo:Nat} {L:List (Nat × Nat)},SV lo L→(∀ s ∈ L,s.2≤B)→L.length≤B - lo
 | _,[],_,h=>Nat.zero_le _
 | lo,a::L,h,hs=>by
  have h1:=SV.len h.2.2 (fun s q=>hs s (List.mem_cons_of_mem _ q))
  have h2:=hs a (by simp)
  have h3:=h.1
  have h4:=h.2.1
  rw [List.length_cons]
  omega
theorem inS_nil (j:Nat):¬ inS [] j:=by rintro ⟨s,hs,_⟩;simp at hs
theorem inS_cons {s:Nat × Nat} {r:List (Nat × Nat)} {j:Nat}:inS (s::r) j↔(s.1≤j∧j < s.2)∨inS r j:=by
 constructor
 · rintro ⟨u,hu,h⟩
   rcases List.mem_cons.1 hu with rfl | hu
   · exact .inl h
   · exact .inr ⟨u,hu,h⟩
 · rintro (h | ⟨u,hu,h⟩)
   · exact ⟨s,by simp,h⟩
   · exact ⟨u,List.mem_cons_of_mem _ hu,h⟩
theorem inS_app {A B:List (Nat × Nat)} {j:Nat}:inS (A++B) j↔inS A j∨inS B j:=by
 constructor
 · rintro ⟨u,hu,h⟩
   rcases List.mem_append.1 hu with hu | hu
   · exact .inl ⟨u,hu,h⟩
   · exact .inr ⟨u,hu,h⟩
 · rintro (⟨u,hu,h⟩ | ⟨u,hu,h⟩)
   · exact ⟨u,List.mem_append_left _ hu,h⟩
   · exact ⟨u,List.mem_append_right _ hu,h⟩
theorem inS_one {f t j:Nat}:inS [(f,t)] j↔f≤j∧j < t:=by rw [inS_cons];simp [inS_nil]
def pos (p:Nat):List (Nat × Nat)→Nat
 | []=>0
 | s::r=>if s.2≤p then pos p r+1 else 0
theorem pos_le (p:Nat):∀ L,pos p L≤L.length
 | []=>Nat.le_refl _
 | s::r=>by rw [pos,List.length_cons];have:=pos_le p r;split <;> omega
theorem pos_lt {p:Nat}:∀ {L:List (Nat × Nat)} {i:Nat} (h:i < L.length),i < pos p L→L[i].2≤p
 | s::r,i,h,hi=>by
  rw [pos] at hi
  split at hi
  · cases i with
    | zero=>assumption
    | succ i=>exact pos_lt (L:=r) (by simpa using h) (by omega)
  · omega
theorem pos_at {p:Nat}:∀ {L:List (Nat × Nat)} (h:pos p L < L.length),p < (L[pos p L]'h).2
 | s::r,h=>by
  by_cases hc:s.2≤p
  · have e:pos p (s::r)=pos p r+1:=by rw [pos,if_pos hc]
    simp only [e] at h ⊢
    exact pos_at (L:=r) (by simpa using h)
  · have e:pos p (s::r)=0:=by rw [pos,if_neg hc]
    simp only [e]
    simpa using hc
theorem pos_mono {p q:Nat} (h:p≤q):∀ L,pos p L≤pos q L
 | []=>Nat.le_refl _
 | s::r=>by
  have:=pos_mono h r
  rw [pos,pos]
  split <;> split <;> omega
theorem nxt_none {p:Nat}:∀ {L:List (Nat × Nat)},L.length≤pos p L→∀ j,p≤j→¬ inS L j
 | [],_,j,_=>inS_nil j
 | s::r,h,j,hj=>by
  rw [pos,List.length_cons] at h
  split at h
  · rw [inS_cons]
    have:=nxt_none (L:=r) (by omega) j hj
    rintro (q | q)
    · omega
    · exact this q
  · omega
theorem nxt_in {p:Nat}:∀ {L:List (Nat × Nat)} (h:pos p L < L.length),(L[pos p L]'h).1≤p→∀ j,p≤j→j < (L[pos p L]'h).2→inS L j :=
 fun h h1 j h2 h3=>⟨_,List.getElem_mem h,by omega,h3⟩
theorem nxt_out {p:Nat}:∀ {lo:Nat} {L:List (Nat × Nat)},SV lo L→∀ (h:pos p L < L.length),p < (L[pos p L]'h).1→∀ j,p≤j→j < (L[pos p L]'h).1→¬ inS L j
 | lo,s::r,hv,h,h1,j,h2,h3=>by
  rw [inS_cons]
  by_cases hc:s.2≤p
  · have e:pos p (s::r)=pos p r+1:=by rw [pos,if_pos hc]
    simp only [e] at h h1 h3
    have:=nxt_out hv.2.2 (by simpa using h) (by simpa using h1) j h2 (by simpa using h3)
    rintro (q | q)
    · omega
    · exact this q
  · have e:pos p (s::r)=0:=by rw [pos,if_neg hc]
    simp only [e] at h3
    simp at h3
    rintro (q | ⟨u,hu,q⟩)
    · omega
    · have:=(SV.ge hv.2.2 u hu).1
      have:=hv.2.1
      omega
def addF (out:List (Nat × Nat)) (f t:Nat):List (Nat × Nat):=match out.getLast? with
 | some l=>if f≤l.2 then out.dropLast++[(l.1,max l.2 t)] else out++[(f,t)]
 | none=>[(f,t)]
structure RI (P:Nat→Prop) (B:Nat) (out:List (Nat × Nat)) (p:Nat):Prop where
 v:SV 0 out
 t:∀ s ∈ out,s.2≤p
 bd:∀ s ∈ out,s.2≤B
 m:∀ j,inS out j↔j < p∧P j
theorem add_in {out:List (Nat × Nat)} {f t:Nat} (hv:SV 0 out) (ht:∀ s ∈ out,s.2≤f) (hlt:f < t):SV 0 (addF out f t)∧(∀ s ∈ addF out f t,s ∈ out∨s.2=t)∧∀ j,inS (addF out f t) j↔inS out j∨(f≤j∧j < t):=by
 unfold addF
 rcases List.eq_nil_or_concat out with rfl | ⟨i,l,rfl⟩
 · refine ⟨⟨Nat.zero_le _,hlt,trivial⟩,fun s hs=>?_,fun j=>?_⟩
   · simp at hs;subst hs;exact .inr rfl
   · simp [inS_one,inS_nil]
 · rw [List.concat_eq_append] at hv ht ⊢
   rw [List.getLast?_append]
   simp only [List.getLast?_singleton,Option.some_or,List.dropLast_concat]
   have hl:=ht l (by simp)
   obtain ⟨v1,v2,v3⟩:=hv.app
   split
   · have hm:max l.2 t=t:=by omega
     have hle:l.2=f:=by omega
     rw [hm]
     refine ⟨SV.snoc (Nat.zero_le _) (by have:=v2.2.1;omega) v1 (fun s hs=>v3 s hs l (by simp)),fun s hs=>?_,fun j=>?_⟩
     · rcases List.mem_append.1 hs with q | q
       · exact .inl (List.mem_append_left _ q)
       · simp at q;subst q;exact .inr rfl
     · rw [inS_app,inS_app,inS_one,inS_cons]
       have:=v2.2.1
       simp only [inS_nil,or_false]
       constructor
       · rintro (q | q)
         · exact .inl (.inl q)
         · by_cases c:j < f
           · exact .inl (.inr (by omega))
           · exact .inr (by omega)
       · rintro ((q | q) | q)
         · exact .inl q
         · exact .inr (by omega)
         · exact .inr (by omega)
   · refine ⟨SV.snoc (Nat.zero_le _) hlt hv (fun s hs=>?_),fun s hs=>?_,fun j=>?_⟩
     · rcases List.mem_append.1 hs with q | q
       · have:=v3 s q l (by simp)
         have:=v2.2.1
         omega
       · simp at q;subst q;omega
     · rcases List.mem_append.1 hs with q | q
       · exact .inl q
       · simp at q;subst q;exact .inr rfl
     · rw [inS_app,inS_one]
theorem RI.keep {P:Nat→Prop} {B:Nat} {out:List (Nat × Nat)} {p e:Nat} (h:RI P B out p) (he:p < e) (heB:e≤B) (hin:∀ j,p≤j→j < e→P j):RI P B (addF out p e) e:=by
 obtain ⟨h1,h2,h3⟩:=add_in h.v h.t he
 refine ⟨h1,fun s hs=>?_,fun s hs=>?_,fun j=>?_⟩
 · rcases h2 s hs with q | q
   · have:=h.t s q;omega
   · omega
 · rcases h2 s hs with q | q
   · exact h.bd s q
   · omega
 · rw [h3,h.m]
   constructor
   · rintro (q | q)
     · exact ⟨by omega,q.2⟩
     · exact ⟨q.2,hin j q.1 q.2⟩
   · rintro ⟨q1,q2⟩
     by_cases c:j < p
     · exact .inl ⟨c,q2⟩
     · exact .inr ⟨by omega,q1⟩
theorem RI.skip {P:Nat→Prop} {B:Nat} {out:List (Nat × Nat)} {p e:Nat} (h:RI P B out p) (he:p < e) (hin:∀ j,p≤j→j < e→¬ P j):RI P B out e:=by
 refine ⟨h.v,fun s hs=>by have:=h.t s hs;omega,h.bd,fun j=>?_⟩
 rw [h.m]
 constructor
 · rintro ⟨q1,q2⟩;exact ⟨by omega,q2⟩
 · rintro ⟨q1,q2⟩
   by_cases c:j < p
   · exact ⟨c,q2⟩
   · exact absurd q2 (hin j (by omega) q1)
theorem RI.done {P:Nat→Prop} {B:Nat} {out:List (Nat × Nat)} {p:Nat} (h:RI P B out p) (hP:∀ j,p≤j→¬ P j):∀ j,inS out j↔P j:=by
 intro j
 rw [h.m]
 constructor
 · exact fun q=>q.2
 · intro q
   refine ⟨?_,q⟩
   by_cases c:j < p
   · exact c
   · exact absurd q (hP j (by omega))
theorem RI.start (P:Nat→Prop) (B:Nat):RI P B [] 0:=⟨trivial,fun s hs=>absurd hs (by simp),fun s hs=>absurd hs (by simp),fun j=>by simp [inS_nil]⟩
end Go.O
end
section
namespace Go.O
open Go Go.Pav Go.Pw P Go.D
attribute [-simp] List.getElem_cons_drop
attribute [-simp] splice fillC AV.cells AV.cell AV.isAg isC
variable {C:WProg}
structure HasC (C:WProg):Prop where
 f373:C.fns.get 373=some w373
 f536:C.fns.get 536=some w536
 f537:C.fns.get 537=some w537
 f489:C.fns.get 489=some w489
 f392:C.fns.get 392=some w392
 f375:C.fns.get 375=some w375
 f480:C.fns.get 480=some w480
 f374:C.fns.get 374=some w374
 f198:C.fns.get 198=some w198
 inl:C.inl=inlB
 pp:C.pp=ppB
theorem check_loop (H:HasC C) (L:List (Nat × Nat)) (f:Bool) (hl:L.length≤4096) (hm:∀ s ∈ L,s.2≤1073741824):∀ n i lo,n+i=L.length→SV lo (L.drop i) →
 w373_K0 C ⟨[(11,.int .i64 i),(10,.int .i64 L.length),(9,.ro 2 (L.map eS) f),(3,.int .i64 (lo - 1))],[],0⟩=some (.int .i64 0):=by
 intro n
 induction n with
 | zero =>
  intro i lo hi hv
  simp only [w373_K0];rw [ck_unf w373_B0.eq_1]
  have h3:¬ i < L.length:=by omega
  simp (disch:=omega) [ck_unf w373_c0.eq_1,h3]
 | succ n ih =>
  intro i lo hi hv
  have h1:i < L.length:=by omega
  rw [List.drop_eq_getElem_cons h1] at hv
  have hs:=hm L[i] (List.getElem_mem h1)
  have this:=ih (i+1) (L[i].2+1) (by omega) hv.2.2
  have e1:=hv.1
  have e2:=hv.2.1
  have c1:¬ ((L[i].2:Int)≤L[i].1):=by omega
  have c2:¬ (1073741824 < (L[i].2:Int)):=by omega
  have c3:¬ ((L[i].1:Int)≤lo - 1):=by omega
  have c4:¬ ((L[i].1:Int) < 0):=by omega
  have c5:(((L[i].2+1:Nat):Int) - 1)=L[i].2:=by omega
  simp only [w373_K0] at this ⊢;rw [ck_unf w373_B0.eq_1]
  rw [c5] at this
  simp at this
  simp (disch:=omega) [h1,c1,c2,c3,c4,this,wI64,H.inl,inlB,H.pp,ppB]
theorem check_ok (H:HasC C) (L:List (Nat × Nat)) (f:Bool) (hl:L.length≤4096) (hm:∀ s ∈ L,s.2≤1073741824) (hv:SV 0 L):FnW C 373 [.ro 2 (L.map eS) f]=some (.int .i64 0):=by
 have h:=check_loop H L f hl hm L.length 0 0 (by omega) hv
 have c1:¬ (4096 < (L.length:Int)):=by omega
 rw [fnW_eq H.f373 rfl]
 simp only [w373_K0] at h
 simp at h
 simp (disch:=omega) [w373,c1,h,wI64,H.inl,inlB,H.pp,ppB]
theorem both_ok (H:HasC C) (L M:List (Nat × Nat)) (f g:Bool) (hl:L.length≤4096) (hm:∀ s ∈ L,s.2≤1073741824) (hv:SV 0 L) (hl':M.length≤4096) (hm':∀ s ∈ M,s.2≤1073741824) (hv':SV 0 M):FnW C 536 [.ro 2 (L.map eS) f,.ro 2 (M.map eS) g]=some (.int .i64 0):=by
 have h1:=check_ok H L f hl hm hv
 have h2:=check_ok H M g hl' hm' hv'
 rw [fnW_eq H.f536 rfl]
 simp (disch:=omega) [w536,h1,h2,wI64,H.inl,inlB,H.pp,ppB]
theorem edge_ok (H:HasC C) (s:Nat × Nat) (p:Nat):FnW C 537 [.agg (eS s),.int .i64 p]=some (.int .i64 (if s.1≤p then s.2 else s.1:Nat)):=by
 rw [fnW_eq H.f537 rfl]
 by_cases c:s.1≤p
 · have c':¬ ((p:Int) < s.1):=by omega
   rw [if_pos c]
   simp (disch:=omega) [w537,c',wI64,H.inl,inlB,H.pp,ppB]
 · have c':((p:Int) < s.1):=by omega
   rw [if_neg c]
   simp (disch:=omega) [w537,c',wI64,H.inl,inlB,H.pp,ppB]
theorem sclip_ok (H:HasC C) (L:List (Nat × Nat)) (f:Bool):FnW C 489 [.ro 2 (L.map eS) f]=some (.ro 2 (L.map eS) true):=by
 have h4:List.take L.length (L.map eS)=L.map eS:=List.take_of_length_le (by simp)
 rw [fnW_eq H.f489 rfl]
 simp (disch:=omega) [w489,h4,H.inl,inlB,H.pp,ppB]
theorem done_ok (H:HasC C) (L:List (Nat × Nat)) (f:Bool) (hl:L.length≤4096):FnW C 392 [.ro 2 (L.map eS) f]=some (.tup [.ro 2 (L.map eS) true,.int .i64 0]):=by
 have h:=sclip_ok H L f
 have c1:¬ (4096 < (L.length:Int)):=by omega
 rw [fnW_eq H.f392 rfl]
 simp (disch:=omega) [w392,h,c1,wI64,H.inl,inlB,H.pp,ppB]
def inB (j:Nat) (s:Nat × Nat):Bool:=decide (s.1≤j∧j < s.2)
theorem inS_any (L:List (Nat × Nat)) (j:Nat):L.any (inB j)=true↔inS L j:=by
 simp [List.any_eq_true,inB,inS]
theorem has1_ok (H:HasC C) (s:Nat × Nat) (j:Nat):FnW C 375 [.agg (eS s),.rop [.int .i64 j]]=some (.bool (inB j s)):=by
 rw [fnW_eq H.f375 rfl]
 unfold inB
 by_cases c:s.1≤j <;> by_cases d:j < s.2 <;> simp (disch:=omega) [w375,c,d,wI64,H.inl,inlB,H.pp,ppB]
theorem idx_loop (H:HasC C) (L:List (Nat × Nat)) (f:Bool) (hl:L.length≤4096) (j:Nat):∀ n i,n+i=L.length→∃ k:Int,
 w480_K0 C ⟨[(8,.int .i64 i),(7,.int .i64 L.length),(1,.fn 375 [.rop [.int .i64 j]]),(0,.ro 2 (L.map eS) f)],[],0⟩=some (.int .i64 k)∧(0≤k↔(L.drop i).any (inB j)=true):=by
 intro n
 induction n with
 | zero =>
  intro i hi
  have h3:¬ i < L.length:=by omega
  refine ⟨-1,?_,by rw [List.drop_eq_nil_of_le (by omega)];simp⟩
  simp only [w480_K0];rw [ck_unf w480_B0.eq_1]
  simp (disch:=omega) [ck_unf w480_c0.eq_1,h3]
 | succ n ih =>
  intro i hi
  have h1:i < L.length:=by omega
  have hb:=has1_ok H L[i] j
  rw [List.drop_eq_getElem_cons h1,List.any_cons]
  cases hc:inB j L[i]
  · obtain ⟨k,q1,q2⟩:=ih (i+1) (by omega)
    refine ⟨k,?_,by rw [q2];simp⟩
    rw [hc] at hb
    simp only [w480_K0] at q1 ⊢;rw [ck_unf w480_B0.eq_1]
    simp at q1
    simp (disch:=omega) [h1,hb,q1,wI64,H.inl,inlB,H.pp,ppB]
  · refine ⟨i,?_,by simp⟩
    rw [hc] at hb
    simp only [w480_K0];rw [ck_unf w480_B0.eq_1]
    simp (disch:=omega) [h1,hb,wI64,H.inl,inlB,H.pp,ppB]
theorem has_ok (H:HasC C) (L:List (Nat × Nat)) (f:Bool) (hl:L.length≤4096) (hm:∀ s ∈ L,s.2≤1073741824) (hv:SV 0 L) (j:Nat):FnW C 198 [.ro 2 (L.map eS) f,.int .i64 j]=some (.bool (L.any (inB j))):=by
 have hc:=check_ok H L f hl hm hv
 obtain ⟨k,q1,q2⟩:=idx_loop H L f hl j L.length 0 (by omega)
 rw [List.drop_zero] at q2
 have h480:FnW C 480 [.ro 2 (L.map eS) f,.fn 375 [.rop [.int .i64 j]]]=some (.int .i64 k):=by
  rw [fnW_eq H.f480 rfl]
  simp only [w480_K0] at q1
  simp at q1
  simp (disch:=omega) [w480,q1,wI64,H.inl,inlB,H.pp,ppB]
 have h374:FnW C 374 [.ro 2 (L.map eS) f,.fn 375 [.rop [.int .i64 j]]]=some (.bool (L.any (inB j))):=by
  rw [fnW_eq H.f374 rfl]
  by_cases c:0≤k
  · rw [q2.1 c]
    simp (disch:=omega) [w374,h480,c,wI64,H.inl,inlB,H.pp,ppB]
  · have c':L.any (inB j)=false:=by
     cases e:L.any (inB j)
     · rfl
     · exact absurd (q2.2 e) c
    rw [c']
    simp (disch:=omega) [w374,h480,c,wI64,H.inl,inlB,H.pp,ppB]
 rw [fnW_eq H.f198 rfl]
 simp (disch:=omega) [w198,hc,h374,wI64,H.inl,inlB,H.pp,ppB]
end Go.O
end
section
namespace Go.O
open Go Go.Pav Go.Pw P Go.D
attribute [-simp] List.getElem_cons_drop
attribute [-simp] splice fillC AV.cells AV.cell AV.isAg isC
variable {C:WProg}
structure HasM (C:WProg):Prop extends HasC C where
 f477:C.fns.get 477=some w477
 f2391:C.fns.get 2391=some w391
 f479:C.fns.get 479=some w479
 f478:C.fns.get 478=some w478
 f370:C.fns.get 370=some w370
 f371:C.fns.get 371=some w371
theorem keep_ok (H:HasM C) (x y:Bool):FnW C 479 [.bool x,.bool y]=some (.bool (x||y)):=by
 rw [fnW_eq H.f479 rfl]
 cases x <;> cases y <;> simp (disch:=omega) [w479,wI64,H.inl,inlB,H.pp,ppB]
theorem keep2_ok (H:HasM C) (x y:Bool):FnW C 478 [.bool x,.bool y]=some (.bool (x&&!y)):=by
 rw [fnW_eq H.f478 rfl]
 cases x <;> cases y <;> simp (disch:=omega) [w478,wI64,H.inl,inlB,H.pp,ppB]
def Sh (o:AV) (hp:WHeap) (nx:Nat) (X:List (Nat × Nat)):Prop:=(X=[]∧o=.ro 2 [] true∧hp=[]∧nx=0) ∨
 ∃ Y l,X=Y++[l]∧o=.sl 0 2 0 (Y.length+1) (Y.length+1) false∧hp=[(0,.cells 2 (Y.map eS++[eS l]) true true)]∧nx=1
theorem Sh.nil:Sh (.ro 2 [] true) [] 0 []:=.inl ⟨rfl,rfl,rfl,rfl⟩
theorem Sh.snoc (Y:List (Nat × Nat)) (l:Nat × Nat):Sh (.sl 0 2 0 (Y.length+1) (Y.length+1) false) [(0,.cells 2 (Y.map eS++[eS l]) true true)] 1 (Y++[l]):=.inr ⟨Y,l,rfl,rfl,rfl,rfl⟩
theorem addF_in (Y:List (Nat × Nat)) (l:Nat × Nat) (f t:Nat) (h:f≤l.2):addF (Y++[l]) f t=Y++[(l.1,max l.2 t)]:=by simp [addF,h]
theorem addF_out (Y:List (Nat × Nat)) (l:Nat × Nat) (f t:Nat) (h:¬ f≤l.2):addF (Y++[l]) f t=(Y++[l])++[(f,t)]:=by simp [addF,h]
theorem set_last (Y:List (Nat × Nat)) (r r':List AV):(Y.map eS++[r]).set Y.length r'=Y.map eS++[r']:=by
 rw [List.set_append_right _ _ (by simp)];simp
theorem get_last (Y:List (Nat × Nat)) (r:List AV) (h:Y.length < (Y.map eS++[r]).length):(Y.map eS++[r])[Y.length]'h=r:=by
 rw [List.getElem_append_right (by simp)];simp
theorem gq_last (Y:List (Nat × Nat)) (r:List AV):(Y.map eS++[r])[Y.length]?=some r:=by
 rw [List.getElem?_append_right (by simp)];simp
theorem take_all (Y:List (Nat × Nat)) (r:List AV):(Y.map eS++[r]).take (Y.length+1)=Y.map eS++[r]:=List.take_of_length_le (by simp)
theorem mA (H:HasM C) (κ:Nat) (hκ:κ=478∨κ=479) (K:Bool→Bool→Bool) (hK:∀ x y,FnW C κ [.bool x,.bool y]=some (.bool (K x y))) (a b:List (Nat × Nat)) (f g:Bool) (p i k:Nat) (hi:i < a.length) (x:Bool) (hx:decide (a[i].1≤p)=x) (e:Nat) (he:(if a[i].1≤p then a[i].2 else a[i].1)=e) (hM:e≤1073741824) (hpe:p < e) (hk:k=b.length) (ha:p < a[i].2) (hp0:p≤1073741824) (X:List (Nat × Nat)) (hXl:X.length≤100000) (hXb:∀ s ∈ X,s.2≤p) (o:AV) (hp:WHeap) (nx:Nat) (hS:Sh o hp nx X) (R:Option AV)
 (next:∀ o hp nx,Sh o hp nx (if K x false=true then addF X p e else X)→w477_K0 C ⟨[(12,.int .i64 k),(11,.int .i64 i),(10,.int .i64 e),(9,o),(2,.fn κ []),(1,.ro 2 (b.map eS) g),(0,.ro 2 (a.map eS) f)],hp,nx⟩=R) :
 w477_K1 C ⟨[(12,.int .i64 k),(11,.int .i64 i),(10,.int .i64 p),(9,o),(2,.fn κ []),(1,.ro 2 (b.map eS) g),(0,.ro 2 (a.map eS) f)],hp,nx⟩=R:=by
 have q:=fun a b c h n=>rnW_eq (args:=[a,b,c]) H.f2391 rfl h n
 have hed:=edge_ok H.toHasC a[i] p
 rw [he] at hed
 have hin:¬ i=a.length:=by omega
 subst hk
 have hax:¬ (a[i].2≤p):=by omega
 have hpE:¬ (e≤p):=by omega
 have hz:∀ v:Bool,K x false=v→w477_K1 C ⟨[(12,.int .i64 b.length),(11,.int .i64 i),(10,.int .i64 p),(9,o),(2,.fn κ []),(1,.ro 2 (b.map eS) g),(0,.ro 2 (a.map eS) f)],hp,nx⟩=R:=by
  intro v hv
  have hcall:=hK x false
  rw [hv] at next hcall
  rcases hS with ⟨rfl,rfl,rfl,rfl⟩ | ⟨Y,l,rfl,rfl,rfl,rfl⟩
  · cases v
    · have this:=next _ _ _ Sh.nil
      simp only [w477_K0] at this
      try simp [eS] at this
      rcases hκ with rfl | rfl <;>
      (simp only [w477_K1];rw [ck_unf w477_B1.eq_1];simp (disch:=omega) [hcall,ck_unf w477_c1.eq_1,hi,hx,hed,hin,hax,hpE,q,w391,imin_l,imin_r,imax_l,imax_r,set_last,get_last,gq_last,take_all,wI64,H.inl,inlB,H.pp,ppB,this])
    · have this:=next _ _ _ (Sh.snoc [] (p,e))
      simp only [w477_K0] at this
      try simp [eS] at this
      rcases hκ with rfl | rfl <;>
      (simp only [w477_K1];rw [ck_unf w477_B1.eq_1];simp (disch:=omega) [hcall,ck_unf w477_c1.eq_1,hi,hx,hed,hin,hax,hpE,q,w391,imin_l,imin_r,imax_l,imax_r,set_last,get_last,gq_last,take_all,wI64,H.inl,inlB,H.pp,ppB,this])
  · have hl2:=hXb l (by simp)
    have hYl:Y.length+1≤100000:=by simpa using hXl
    have hmk:(Y.length+1+1) * 17≤35184372088832:=by omega
    cases v
    · have this:=next _ _ _ (Sh.snoc Y l)
      simp only [w477_K0] at this
      try simp [eS] at this
      rcases hκ with rfl | rfl <;>
      (simp only [w477_K1];rw [ck_unf w477_B1.eq_1];simp (disch:=omega) [hcall,ck_unf w477_c1.eq_1,hi,hx,hed,hin,hax,hpE,q,w391,imin_l,imin_r,imax_l,imax_r,set_last,get_last,gq_last,take_all,wI64,H.inl,inlB,H.pp,ppB,this])
    · by_cases hc:p≤l.2
      · have this:=next _ _ _ (by rw [if_pos rfl,addF_in _ _ _ _ hc];exact Sh.snoc Y (l.1,max l.2 e))
        have hmx:max l.2 e=e:=by omega
        rw [hmx] at this
        simp only [w477_K0] at this
        try simp [eS] at this
        rcases hκ with rfl | rfl <;>
        (simp only [w477_K1];rw [ck_unf w477_B1.eq_1];simp (disch:=omega) [hcall,hc,ck_unf w477_c1.eq_1,hi,hx,hed,hin,hax,hpE,q,w391,imin_l,imin_r,imax_l,imax_r,set_last,get_last,gq_last,take_all,wI64,H.inl,inlB,H.pp,ppB,this])
      · have this:=next _ _ _ (by rw [if_pos rfl,addF_out _ _ _ _ hc];exact Sh.snoc (Y++[l]) (p,e))
        simp only [w477_K0] at this
        try simp [eS] at this
        rcases hκ with rfl | rfl <;>
        (simp only [w477_K1];rw [ck_unf w477_B1.eq_1];simp (disch:=omega) [hcall,hc,hmk,eS,ck_unf w477_c1.eq_1,hi,hx,hed,hin,hax,hpE,q,w391,imin_l,imin_r,imax_l,imax_r,set_last,get_last,gq_last,take_all,wI64,H.inl,inlB,H.pp,ppB,this])
 exact hz _ rfl
theorem mB (H:HasM C) (κ:Nat) (hκ:κ=478∨κ=479) (K:Bool→Bool→Bool) (hK:∀ x y,FnW C κ [.bool x,.bool y]=some (.bool (K x y))) (a b:List (Nat × Nat)) (f g:Bool) (p i k:Nat) (hi:i=a.length) (hk:k < b.length) (y:Bool) (hy:decide (b[k].1≤p)=y) (u:Nat) (hu:(if b[k].1≤p then b[k].2 else b[k].1)=u) (hN:u≤1073741824) (hpu:p < u) (hb:p < b[k].2) (hp0:p≤1073741824) (X:List (Nat × Nat)) (hXl:X.length≤100000) (hXb:∀ s ∈ X,s.2≤p) (o:AV) (hp:WHeap) (nx:Nat) (hS:Sh o hp nx X) (R:Option AV)
 (next:∀ o hp nx,Sh o hp nx (if K false y=true then addF X p u else X)→w477_K0 C ⟨[(12,.int .i64 k),(11,.int .i64 i),(10,.int .i64 u),(9,o),(2,.fn κ []),(1,.ro 2 (b.map eS) g),(0,.ro 2 (a.map eS) f)],hp,nx⟩=R) :
 w477_K1 C ⟨[(12,.int .i64 k),(11,.int .i64 i),(10,.int .i64 p),(9,o),(2,.fn κ []),(1,.ro 2 (b.map eS) g),(0,.ro 2 (a.map eS) f)],hp,nx⟩=R:=by
 have q:=fun a b c h n=>rnW_eq (args:=[a,b,c]) H.f2391 rfl h n
 subst hi
 have heu:=edge_ok H.toHasC b[k] p
 rw [hu] at heu
 have hkn:¬ k=b.length:=by omega
 have hbx:¬ (b[k].2≤p):=by omega
 have hpE:¬ (u≤p):=by omega
 have hz:∀ v:Bool,K false y=v→w477_K1 C ⟨[(12,.int .i64 k),(11,.int .i64 a.length),(10,.int .i64 p),(9,o),(2,.fn κ []),(1,.ro 2 (b.map eS) g),(0,.ro 2 (a.map eS) f)],hp,nx⟩=R:=by
  intro v hv
  have hcall:=hK false y
  rw [hv] at next hcall
  rcases hS with ⟨rfl,rfl,rfl,rfl⟩ | ⟨Y,l,rfl,rfl,rfl,rfl⟩
  · cases v
    · have this:=next _ _ _ Sh.nil
      simp only [w477_K0] at this
      try simp [eS] at this
      rcases hκ with rfl | rfl <;>
      (simp only [w477_K1];rw [ck_unf w477_B1.eq_1];simp (disch:=omega) [hcall,ck_unf w477_c1.eq_1,hk,hy,heu,hkn,hbx,hpE,q,w391,imin_l,imin_r,imax_l,imax_r,set_last,get_last,gq_last,take_all,wI64,H.inl,inlB,H.pp,ppB,this])
    · have this:=next _ _ _ (Sh.snoc [] (p,u))
      simp only [w477_K0] at this
      try simp [eS] at this
      rcases hκ with rfl | rfl <;>
      (simp only [w477_K1];rw [ck_unf w477_B1.eq_1];simp (disch:=omega) [hcall,ck_unf w477_c1.eq_1,hk,hy,heu,hkn,hbx,hpE,q,w391,imin_l,imin_r,imax_l,imax_r,set_last,get_last,gq_last,take_all,wI64,H.inl,inlB,H.pp,ppB,this])
  · have hl2:=hXb l (by simp)
    have hYl:Y.length+1≤100000:=by simpa using hXl
    have hmk:(Y.length+1+1) * 17≤35184372088832:=by omega
    cases v
    · have this:=next _ _ _ (Sh.snoc Y l)
      simp only [w477_K0] at this
      try simp [eS] at this
      rcases hκ with rfl | rfl <;>
      (simp only [w477_K1];rw [ck_unf w477_B1.eq_1];simp (disch:=omega) [hcall,ck_unf w477_c1.eq_1,hk,hy,heu,hkn,hbx,hpE,q,w391,imin_l,imin_r,imax_l,imax_r,set_last,get_last,gq_last,take_all,wI64,H.inl,inlB,H.pp,ppB,this])
    · by_cases hc:p≤l.2
      · have this:=next _ _ _ (by rw [if_pos rfl,addF_in _ _ _ _ hc];exact Sh.snoc Y (l.1,max l.2 u))
        have hmx:max l.2 u=u:=by omega
        rw [hmx] at this
        simp only [w477_K0] at this
        try simp [eS] at this
        rcases hκ with rfl | rfl <;>
        (simp only [w477_K1];rw [ck_unf w477_B1.eq_1];simp (disch:=omega) [hcall,hc,ck_unf w477_c1.eq_1,hk,hy,heu,hkn,hbx,hpE,q,w391,imin_l,imin_r,imax_l,imax_r,set_last,get_last,gq_last,take_all,wI64,H.inl,inlB,H.pp,ppB,this])
      · have this:=next _ _ _ (by rw [if_pos rfl,addF_out _ _ _ _ hc];exact Sh.snoc (Y++[l]) (p,u))
        simp only [w477_K0] at this
        try simp [eS] at this
        rcases hκ with rfl | rfl <;>
        (simp only [w477_K1];rw [ck_unf w477_B1.eq_1];simp (disch:=omega) [hcall,hc,hmk,eS,ck_unf w477_c1.eq_1,hk,hy,heu,hkn,hbx,hpE,q,w391,imin_l,imin_r,imax_l,imax_r,set_last,get_last,gq_last,take_all,wI64,H.inl,inlB,H.pp,ppB,this])
 exact hz _ rfl
theorem mD (H:HasM C) (κ:Nat) (hκ:κ=478∨κ=479) (K:Bool→Bool→Bool) (hK:∀ x y,FnW C κ [.bool x,.bool y]=some (.bool (K x y))) (a b:List (Nat × Nat)) (f g:Bool) (p i k:Nat) (hi:i < a.length) (x:Bool) (hx:decide (a[i].1≤p)=x) (e:Nat) (he:(if a[i].1≤p then a[i].2 else a[i].1)=e) (hM:e≤1073741824) (hpe:p < e) (hk:k < b.length) (y:Bool) (hy:decide (b[k].1≤p)=y) (u:Nat) (hu:(if b[k].1≤p then b[k].2 else b[k].1)=u) (hN:u≤1073741824) (hpu:p < u) (hd:e≤u) (ha:p < a[i].2) (hb:p < b[k].2) (hp0:p≤1073741824) (X:List (Nat × Nat)) (hXl:X.length≤100000) (hXb:∀ s ∈ X,s.2≤p) (o:AV) (hp:WHeap) (nx:Nat) (hS:Sh o hp nx X) (R:Option AV)
 (next:∀ o hp nx,Sh o hp nx (if K x y=true then addF X p e else X)→w477_K0 C ⟨[(12,.int .i64 k),(11,.int .i64 i),(10,.int .i64 e),(9,o),(2,.fn κ []),(1,.ro 2 (b.map eS) g),(0,.ro 2 (a.map eS) f)],hp,nx⟩=R) :
 w477_K1 C ⟨[(12,.int .i64 k),(11,.int .i64 i),(10,.int .i64 p),(9,o),(2,.fn κ []),(1,.ro 2 (b.map eS) g),(0,.ro 2 (a.map eS) f)],hp,nx⟩=R:=by
 have q:=fun a b c h n=>rnW_eq (args:=[a,b,c]) H.f2391 rfl h n
 have hed:=edge_ok H.toHasC a[i] p
 rw [he] at hed
 have hin:¬ i=a.length:=by omega
 have heu:=edge_ok H.toHasC b[k] p
 rw [hu] at heu
 have hkn:¬ k=b.length:=by omega
 have hax:¬ (a[i].2≤p):=by omega
 have hbx:¬ (b[k].2≤p):=by omega
 have hpE:¬ (e≤p):=by omega
 have hz:∀ v:Bool,K x y=v→w477_K1 C ⟨[(12,.int .i64 k),(11,.int .i64 i),(10,.int .i64 p),(9,o),(2,.fn κ []),(1,.ro 2 (b.map eS) g),(0,.ro 2 (a.map eS) f)],hp,nx⟩=R:=by
  intro v hv
  have hcall:=hK x y
  rw [hv] at next hcall
  rcases hS with ⟨rfl,rfl,rfl,rfl⟩ | ⟨Y,l,rfl,rfl,rfl,rfl⟩
  · cases v
    · have this:=next _ _ _ Sh.nil
      simp only [w477_K0] at this
      try simp [eS] at this
      rcases hκ with rfl | rfl <;>
      (simp only [w477_K1];rw [ck_unf w477_B1.eq_1];simp (disch:=omega) [hcall,ck_unf w477_c1.eq_1,hi,hx,hed,hin,hk,hy,heu,hkn,hax,hbx,hpE,q,w391,imin_l,imin_r,imax_l,imax_r,set_last,get_last,gq_last,take_all,wI64,H.inl,inlB,H.pp,ppB,this])
    · have this:=next _ _ _ (Sh.snoc [] (p,e))
      simp only [w477_K0] at this
      try simp [eS] at this
      rcases hκ with rfl | rfl <;>
      (simp only [w477_K1];rw [ck_unf w477_B1.eq_1];simp (disch:=omega) [hcall,ck_unf w477_c1.eq_1,hi,hx,hed,hin,hk,hy,heu,hkn,hax,hbx,hpE,q,w391,imin_l,imin_r,imax_l,imax_r,set_last,get_last,gq_last,take_all,wI64,H.inl,inlB,H.pp,ppB,this])
  · have hl2:=hXb l (by simp)
    have hYl:Y.length+1≤100000:=by simpa using hXl
    have hmk:(Y.length+1+1) * 17≤35184372088832:=by omega
    cases v
    · have this:=next _ _ _ (Sh.snoc Y l)
      simp only [w477_K0] at this
      try simp [eS] at this
      rcases hκ with rfl | rfl <;>
      (simp only [w477_K1];rw [ck_unf w477_B1.eq_1];simp (disch:=omega) [hcall,ck_unf w477_c1.eq_1,hi,hx,hed,hin,hk,hy,heu,hkn,hax,hbx,hpE,q,w391,imin_l,imin_r,imax_l,imax_r,set_last,get_last,gq_last,take_all,wI64,H.inl,inlB,H.pp,ppB,this])
    · by_cases hc:p≤l.2
      · have this:=next _ _ _ (by rw [if_pos rfl,addF_in _ _ _ _ hc];exact Sh.snoc Y (l.1,max l.2 e))
        have hmx:max l.2 e=e:=by omega
        rw [hmx] at this
        simp only [w477_K0] at this
        try simp [eS] at this
        rcases hκ with rfl | rfl <;>
        (simp only [w477_K1];rw [ck_unf w477_B1.eq_1];simp (disch:=omega) [hcall,hc,ck_unf w477_c1.eq_1,hi,hx,hed,hin,hk,hy,heu,hkn,hax,hbx,hpE,q,w391,imin_l,imin_r,imax_l,imax_r,set_last,get_last,gq_last,take_all,wI64,H.inl,inlB,H.pp,ppB,this])
      · have this:=next _ _ _ (by rw [if_pos rfl,addF_out _ _ _ _ hc];exact Sh.snoc (Y++[l]) (p,e))
        simp only [w477_K0] at this
        try simp [eS] at this
        rcases hκ with rfl | rfl <;>
        (simp only [w477_K1];rw [ck_unf w477_B1.eq_1];simp (disch:=omega) [hcall,hc,hmk,eS,ck_unf w477_c1.eq_1,hi,hx,hed,hin,hk,hy,heu,hkn,hax,hbx,hpE,q,w391,imin_l,imin_r,imax_l,imax_r,set_last,get_last,gq_last,take_all,wI64,H.inl,inlB,H.pp,ppB,this])
 exact hz _ rfl
theorem mE (H:HasM C) (κ:Nat) (hκ:κ=478∨κ=479) (K:Bool→Bool→Bool) (hK:∀ x y,FnW C κ [.bool x,.bool y]=some (.bool (K x y))) (a b:List (Nat × Nat)) (f g:Bool) (p i k:Nat) (hi:i < a.length) (x:Bool) (hx:decide (a[i].1≤p)=x) (e:Nat) (he:(if a[i].1≤p then a[i].2 else a[i].1)=e) (hM:e≤1073741824) (hpe:p < e) (hk:k < b.length) (y:Bool) (hy:decide (b[k].1≤p)=y) (u:Nat) (hu:(if b[k].1≤p then b[k].2 else b[k].1)=u) (hN:u≤1073741824) (hpu:p < u) (hd:u < e) (ha:p < a[i].2) (hb:p < b[k].2) (hp0:p≤1073741824) (X:List (Nat × Nat)) (hXl:X.length≤100000) (hXb:∀ s ∈ X,s.2≤p) (o:AV) (hp:WHeap) (nx:Nat) (hS:Sh o hp nx X) (R:Option AV)
 (next:∀ o hp nx,Sh o hp nx (if K x y=true then addF X p u else X)→w477_K0 C ⟨[(12,.int .i64 k),(11,.int .i64 i),(10,.int .i64 u),(9,o),(2,.fn κ []),(1,.ro 2 (b.map eS) g),(0,.ro 2 (a.map eS) f)],hp,nx⟩=R) :
 w477_K1 C ⟨[(12,.int .i64 k),(11,.int .i64 i),(10,.int .i64 p),(9,o),(2,.fn κ []),(1,.ro 2 (b.map eS) g),(0,.ro 2 (a.map eS) f)],hp,nx⟩=R:=by
 have q:=fun a b c h n=>rnW_eq (args:=[a,b,c]) H.f2391 rfl h n
 have hed:=edge_ok H.toHasC a[i] p
 rw [he] at hed
 have hin:¬ i=a.length:=by omega
 have heu:=edge_ok H.toHasC b[k] p
 rw [hu] at heu
 have hkn:¬ k=b.length:=by omega
 have hax:¬ (a[i].2≤p):=by omega
 have hbx:¬ (b[k].2≤p):=by omega
 have hpE:¬ (u≤p):=by omega
 have hz:∀ v:Bool,K x y=v→w477_K1 C ⟨[(12,.int .i64 k),(11,.int .i64 i),(10,.int .i64 p),(9,o),(2,.fn κ []),(1,.ro 2 (b.map eS) g),(0,.ro 2 (a.map eS) f)],hp,nx⟩=R:=by
  intro v hv
  have hcall:=hK x y
  rw [hv] at next hcall
  rcases hS with ⟨rfl,rfl,rfl,rfl⟩ | ⟨Y,l,rfl,rfl,rfl,rfl⟩
  · cases v
    · have this:=next _ _ _ Sh.nil
      simp only [w477_K0] at this
      try simp [eS] at this
      rcases hκ with rfl | rfl <;>
      (simp only [w477_K1];rw [ck_unf w477_B1.eq_1];simp (disch:=omega) [hcall,ck_unf w477_c1.eq_1,hi,hx,hed,hin,hk,hy,heu,hkn,hax,hbx,hpE,q,w391,imin_l,imin_r,imax_l,imax_r,set_last,get_last,gq_last,take_all,wI64,H.inl,inlB,H.pp,ppB,this])
    · have this:=next _ _ _ (Sh.snoc [] (p,u))
      simp only [w477_K0] at this
      try simp [eS] at this
      rcases hκ with rfl | rfl <;>
      (simp only [w477_K1];rw [ck_unf w477_B1.eq_1];simp (disch:=omega) [hcall,ck_unf w477_c1.eq_1,hi,hx,hed,hin,hk,hy,heu,hkn,hax,hbx,hpE,q,w391,imin_l,imin_r,imax_l,imax_r,set_last,get_last,gq_last,take_all,wI64,H.inl,inlB,H.pp,ppB,this])
  · have hl2:=hXb l (by simp)
    have hYl:Y.length+1≤100000:=by simpa using hXl
    have hmk:(Y.length+1+1) * 17≤35184372088832:=by omega
    cases v
    · have this:=next _ _ _ (Sh.snoc Y l)
      simp only [w477_K0] at this
      try simp [eS] at this
      rcases hκ with rfl | rfl <;>
      (simp only [w477_K1];rw [ck_unf w477_B1.eq_1];simp (disch:=omega) [hcall,ck_unf w477_c1.eq_1,hi,hx,hed,hin,hk,hy,heu,hkn,hax,hbx,hpE,q,w391,imin_l,imin_r,imax_l,imax_r,set_last,get_last,gq_last,take_all,wI64,H.inl,inlB,H.pp,ppB,this])
    · by_cases hc:p≤l.2
      · have this:=next _ _ _ (by rw [if_pos rfl,addF_in _ _ _ _ hc];exact Sh.snoc Y (l.1,max l.2 u))
        have hmx:max l.2 u=u:=by omega
        rw [hmx] at this
        simp only [w477_K0] at this
        try simp [eS] at this
        rcases hκ with rfl | rfl <;>
        (simp only [w477_K1];rw [ck_unf w477_B1.eq_1];simp (disch:=omega) [hcall,hc,ck_unf w477_c1.eq_1,hi,hx,hed,hin,hk,hy,heu,hkn,hax,hbx,hpE,q,w391,imin_l,imin_r,imax_l,imax_r,set_last,get_last,gq_last,take_all,wI64,H.inl,inlB,H.pp,ppB,this])
      · have this:=next _ _ _ (by rw [if_pos rfl,addF_out _ _ _ _ hc];exact Sh.snoc (Y++[l]) (p,u))
        simp only [w477_K0] at this
        try simp [eS] at this
        rcases hκ with rfl | rfl <;>
        (simp only [w477_K1];rw [ck_unf w477_B1.eq_1];simp (disch:=omega) [hcall,hc,hmk,eS,ck_unf w477_c1.eq_1,hi,hx,hed,hin,hk,hy,heu,hkn,hax,hbx,hpE,q,w391,imin_l,imin_r,imax_l,imax_r,set_last,get_last,gq_last,take_all,wI64,H.inl,inlB,H.pp,ppB,this])
 exact hz _ rfl
end Go.O
end
section
namespace Go.O
open Go Go.Pav Go.Pw P Go.D
attribute [-simp] List.getElem_cons_drop
attribute [-simp] splice fillC AV.cells AV.cell AV.isAg isC
variable {C:WProg}
abbrev mS (κ:Nat) (a b:List (Nat × Nat)) (f g:Bool) (p i k:Nat) (o:AV) (hp:WHeap) (nx:Nat):WSt:=⟨[(12,.int .i64 k),(11,.int .i64 i),(10,.int .i64 p),(9,o),(2,.fn κ []),(1,.ro 2 (b.map eS) g),(0,.ro 2 (a.map eS) f)],hp,nx⟩
section
variable (κ:Nat) (a b:List (Nat × Nat)) (f g:Bool) (p i k:Nat) (X:List (Nat × Nat)) (o:AV) (hp:WHeap) (nx:Nat)
theorem k0_k2 (hS:Sh o hp nx X):w477_K0 C (mS κ a b f g p i k o hp nx)=w477_K2 C (mS κ a b f g p i k o hp nx):=by
 simp only [w477_K0,w477_K2,mS]
 rcases hS with ⟨rfl,rfl,rfl,rfl⟩ | ⟨Y,l,rfl,rfl,rfl,rfl⟩
 · rw [ck_unf w477_B0.eq_1]
   simp
 · rw [ck_unf w477_B0.eq_1]
   simp
theorem k2_step (hi:i < a.length) (hc:a[i].2≤p) (hl:a.length≤4096) (hS:Sh o hp nx X):w477_K2 C (mS κ a b f g p i k o hp nx)=w477_K2 C (mS κ a b f g p (i+1) k o hp nx):=by
 obtain ⟨R,hR⟩:∃ R,w477_K2 C (mS κ a b f g p (i+1) k o hp nx)=R:=⟨_,rfl⟩
 rw [hR]
 simp only [w477_K2,mS] at hR ⊢
 rcases hS with ⟨rfl,rfl,rfl,rfl⟩ | ⟨Y,l,rfl,rfl,rfl,rfl⟩
 · rw [ck_unf w477_B2.eq_1]
   simp at hR
   simp (disch:=omega) [hi,hc,hR,wI64]
 · rw [ck_unf w477_B2.eq_1]
   simp at hR
   simp (disch:=omega) [hi,hc,hR,wI64]
theorem k2_end (hc:∀ hi:i < a.length,¬ a[i].2≤p) (hS:Sh o hp nx X):w477_K2 C (mS κ a b f g p i k o hp nx)=w477_K1 C (mS κ a b f g p i k o hp nx):=by
 obtain ⟨R,hR⟩:∃ R,w477_K1 C (mS κ a b f g p i k o hp nx)=R:=⟨_,rfl⟩
 rw [hR]
 simp only [w477_K1,w477_K2,mS] at hR ⊢
 rcases hS with ⟨rfl,rfl,rfl,rfl⟩ | ⟨Y,l,rfl,rfl,rfl,rfl⟩
 · rw [ck_unf w477_B2.eq_1]
   by_cases hi:i < a.length
   · have:=hc hi
     simp (disch:=omega) [hi,this,hR,ck_unf w477_c2.eq_1,wI64]
   · simp (disch:=omega) [hi,hR,ck_unf w477_c2.eq_1,wI64]
 · rw [ck_unf w477_B2.eq_1]
   by_cases hi:i < a.length
   · have:=hc hi
     simp (disch:=omega) [hi,this,hR,ck_unf w477_c2.eq_1,wI64]
   · simp (disch:=omega) [hi,hR,ck_unf w477_c2.eq_1,wI64]
theorem k1_step (hi:k < b.length) (hc:b[k].2≤p) (hl:b.length≤4096) (hS:Sh o hp nx X):w477_K1 C (mS κ a b f g p i k o hp nx)=w477_K1 C (mS κ a b f g p i (k+1) o hp nx):=by
 obtain ⟨R,hR⟩:∃ R,w477_K1 C (mS κ a b f g p i (k+1) o hp nx)=R:=⟨_,rfl⟩
 rw [hR]
 simp only [w477_K1,mS] at hR ⊢
 rcases hS with ⟨rfl,rfl,rfl,rfl⟩ | ⟨Y,l,rfl,rfl,rfl,rfl⟩
 · rw [ck_unf w477_B1.eq_1]
   simp at hR
   simp (disch:=omega) [hi,hc,hR,wI64]
 · rw [ck_unf w477_B1.eq_1]
   simp at hR
   simp (disch:=omega) [hi,hc,hR,wI64]
theorem k1_exit (H:HasM C) (hi:i=a.length) (hk:k=b.length) (hX:X.length≤4096) (hS:Sh o hp nx X):w477_K1 C (mS κ a b f g p i k o hp nx)=some (.tup [.ro 2 (X.map eS) true,.int .i64 0]):=by
 have hd:=fun f=>done_ok H.toHasC X f hX
 subst hi hk
 simp only [w477_K1,mS]
 rcases hS with ⟨rfl,rfl,rfl,rfl⟩ | ⟨Y,l,rfl,rfl,rfl,rfl⟩
 · rw [ck_unf w477_B1.eq_1]
   simp at hd
   simp (disch:=omega) [ck_unf w477_c1.eq_1,ck_unf w477_c0.eq_1,hd,wI64,H.inl,inlB,H.pp,ppB]
 · rw [ck_unf w477_B1.eq_1]
   simp at hd
   simp (disch:=omega) [ck_unf w477_c1.eq_1,ck_unf w477_c0.eq_1,take_all,hd,wI64,H.inl,inlB,H.pp,ppB]
end
theorem k2_pos (κ:Nat) (a b:List (Nat × Nat)) (f g:Bool) (p k:Nat) (X:List (Nat × Nat)) (o:AV) (hp:WHeap) (nx:Nat) (hl:a.length≤4096) (hS:Sh o hp nx X):∀ n i,n+i=pos p a→w477_K2 C (mS κ a b f g p i k o hp nx)=w477_K1 C (mS κ a b f g p (pos p a) k o hp nx):=by
 intro n
 induction n with
 | zero =>
  intro i hi
  obtain rfl:i=pos p a:=by omega
  exact k2_end κ a b f g p _ k X o hp nx (fun hi=>by have:=pos_at hi;omega) hS
 | succ n ih =>
  intro i hi
  have hle:=pos_le p a
  rw [k2_step κ a b f g p i k X o hp nx (by omega) (pos_lt (by omega) (by omega)) hl hS]
  exact ih (i+1) (by omega)
theorem k1_pos (κ:Nat) (a b:List (Nat × Nat)) (f g:Bool) (p i:Nat) (X:List (Nat × Nat)) (o:AV) (hp:WHeap) (nx:Nat) (hl:b.length≤4096) (hS:Sh o hp nx X):∀ n k,n+k=pos p b→w477_K1 C (mS κ a b f g p i k o hp nx)=w477_K1 C (mS κ a b f g p i (pos p b) o hp nx):=by
 intro n
 induction n with
 | zero=>intro k hk;rw [show k=pos p b by omega]
 | succ n ih =>
  intro k hk
  have hle:=pos_le p b
  rw [k1_step κ a b f g p i k X o hp nx (by omega) (pos_lt (by omega) (by omega)) hl hS]
  exact ih (k+1) (by omega)
theorem nx_some {lo p:Nat} {L:List (Nat × Nat)} (hv:SV lo L) (h:pos p L < L.length):∃ (x:Bool) (e:Nat),decide ((L[pos p L]'h).1≤p)=x∧(if (L[pos p L]'h).1≤p then (L[pos p L]'h).2 else (L[pos p L]'h).1)=e∧p < e∧e≤(L[pos p L]'h).2∧∀ j,p≤j→j < e→L.any (inB j)=x:=by
 have h1:=pos_at h
 have h2:=(hv.ge _ (List.getElem_mem h)).2
 by_cases c:(L[pos p L]'h).1≤p
 · refine ⟨true,_,decide_eq_true c,if_pos c,h1,Nat.le_refl _,fun j hj1 hj2=>?_⟩
   exact (inS_any L j).2 (nxt_in h c j hj1 hj2)
 · refine ⟨false,_,decide_eq_false c,if_neg c,by omega,by omega,fun j hj1 hj2=>?_⟩
   have:=nxt_out hv h (by omega) j hj1 hj2
   rw [← inS_any] at this
   simpa using this
theorem nx_none {p:Nat} {L:List (Nat × Nat)} (h:L.length≤pos p L) (j:Nat) (hj:p≤j):L.any (inB j)=false:=by
 have:=nxt_none h j hj
 rw [← inS_any] at this
 simpa using this
theorem sh_ex (X:List (Nat × Nat)):∃ o hp nx,Sh o hp nx X∧∀ o' hp' nx',Sh o' hp' nx' X→o'=o∧hp'=hp∧nx'=nx:=by
 rcases List.eq_nil_or_concat X with rfl | ⟨Y,l,rfl⟩
 · refine ⟨_,_,_,Sh.nil,?_⟩
   rintro o' hp' nx' (⟨_,h1,h2,h3⟩ | ⟨Y,l,h,_⟩)
   · exact ⟨h1,h2,h3⟩
   · simp at h
 · rw [List.concat_eq_append]
   refine ⟨_,_,_,Sh.snoc Y l,?_⟩
   rintro o' hp' nx' (⟨h,_⟩ | ⟨Y',l',h,h1,h2,h3⟩)
   · simp at h
   · obtain ⟨rfl,h4⟩:=List.append_inj' h rfl
     obtain rfl:l=l':=by simpa using h4
     exact ⟨h1,h2,h3⟩
theorem merge_loop (H:HasM C) (κ:Nat) (hκ:κ=478∨κ=479) (K:Bool→Bool→Bool) (hK:∀ x y,FnW C κ [.bool x,.bool y]=some (.bool (K x y))) (hK0:K false false=false) (a b:List (Nat × Nat)) (f g:Bool) (B:Nat) (hB:B≤4096) (ha:SV 0 a) (hb:SV 0 b) (hal:a.length≤4096) (hbl:b.length≤4096) (haB:∀ s ∈ a,s.2≤B) (hbB:∀ s ∈ b,s.2≤B) :
 ∀ m p i k X o hp nx,B - p≤m→p≤B→i≤pos p a→k≤pos p b→RI (fun j=>K (a.any (inB j)) (b.any (inB j))=true) B X p→Sh o hp nx X →
 ∃ R,w477_K0 C (mS κ a b f g p i k o hp nx)=some (.tup [.ro 2 (R.map eS) true,.int .i64 0])∧SV 0 R∧(∀ s ∈ R,s.2≤B)∧∀ j,inS R j↔K (a.any (inB j)) (b.any (inB j))=true:=by
 intro m
 induction m with
 | zero =>
  intro p i k X o hp nx hm hpB hi hk hR hS
  have hlen:=hR.v.len hR.bd
  rw [k0_k2 κ a b f g p i k X o hp nx hS,k2_pos κ a b f g p k X o hp nx hal hS (pos p a - i) i (by omega),k1_pos κ a b f g p _ X o hp nx hbl hS (pos p b - k) k (by omega)]
  have e1:a.length≤pos p a:=by
   rcases Nat.lt_or_ge (pos p a) a.length with q | q
   · have:=pos_at q;have:=haB _ (List.getElem_mem q);omega
   · exact q
  have e2:b.length≤pos p b:=by
   rcases Nat.lt_or_ge (pos p b) b.length with q | q
   · have:=pos_at q;have:=hbB _ (List.getElem_mem q);omega
   · exact q
  have l1:=pos_le p a
  have l2:=pos_le p b
  exact ⟨X,k1_exit κ a b f g p _ _ X o hp nx H (by omega) (by omega) (by omega) hS,hR.v,hR.bd,hR.done fun j hj=>by rw [nx_none e1 j hj,nx_none e2 j hj,hK0];simp⟩
 | succ m ih =>
  intro p i k X o hp nx hm hpB hi hk hR hS
  have hlen:=hR.v.len hR.bd
  rw [k0_k2 κ a b f g p i k X o hp nx hS,k2_pos κ a b f g p k X o hp nx hal hS (pos p a - i) i (by omega),k1_pos κ a b f g p _ X o hp nx hbl hS (pos p b - k) k (by omega)]
  have l1:=pos_le p a
  have l2:=pos_le p b
  have go:∀ (v:Bool) (e:Nat),p < e→e≤B→(∀ j,p≤j→j < e→K (a.any (inB j)) (b.any (inB j))=v)→∃ R,(∀ o hp nx,Sh o hp nx (if v=true then addF X p e else X)→w477_K0 C (mS κ a b f g e (pos p a) (pos p b) o hp nx)=some (.tup [.ro 2 (R.map eS) true,.int .i64 0]))∧SV 0 R∧(∀ s ∈ R,s.2≤B)∧∀ j,inS R j↔K (a.any (inB j)) (b.any (inB j))=true:=by
   intro v e he heB hv
   have hR':RI (fun j=>K (a.any (inB j)) (b.any (inB j))=true) B (if v=true then addF X p e else X) e:=by
    cases v
    · exact hR.skip he fun j j1 j2=>by rw [hv j j1 j2];simp
    · exact hR.keep he heB fun j j1 j2=>hv j j1 j2
   obtain ⟨o',hp',nx',s1,s2⟩:=sh_ex (if v=true then addF X p e else X)
   obtain ⟨R,r1,r2⟩:=ih e (pos p a) (pos p b) _ o' hp' nx' (by omega) (by omega) (pos_mono (by omega) a) (pos_mono (by omega) b) hR' s1
   exact ⟨R,fun o hp nx h=>by obtain ⟨rfl,rfl,rfl⟩:=s2 _ _ _ h;exact r1,r2⟩
  by_cases c1:pos p a < a.length
  · obtain ⟨x,e,x1,x2,x3,x4,x5⟩:=nx_some ha c1
    have hav:=pos_at c1
    have haM:=haB _ (List.getElem_mem c1)
    by_cases c2:pos p b < b.length
    · obtain ⟨y,u,y1,y2,y3,y4,y5⟩:=nx_some hb c2
      have hbv:=pos_at c2
      have hbM:=hbB _ (List.getElem_mem c2)
      by_cases c3:e≤u
      · obtain ⟨R,r1,r2⟩:=go (K x y) e x3 (by omega) fun j j1 j2=>by rw [x5 j j1 j2,y5 j j1 (by omega)]
        exact ⟨R,mD H κ hκ K hK a b f g p _ _ c1 x x1 e x2 (by omega) x3 c2 y y1 u y2 (by omega) y3 c3 hav hbv (by omega) X (by omega) hR.t o hp nx hS _ r1,r2⟩
      · obtain ⟨R,r1,r2⟩:=go (K x y) u y3 (by omega) fun j j1 j2=>by rw [x5 j j1 (by omega),y5 j j1 j2]
        exact ⟨R,mE H κ hκ K hK a b f g p _ _ c1 x x1 e x2 (by omega) x3 c2 y y1 u y2 (by omega) y3 (by omega) hav hbv (by omega) X (by omega) hR.t o hp nx hS _ r1,r2⟩
    · obtain ⟨R,r1,r2⟩:=go (K x false) e x3 (by omega) fun j j1 j2=>by rw [x5 j j1 j2,nx_none (by omega) j j1]
      exact ⟨R,mA H κ hκ K hK a b f g p _ _ c1 x x1 e x2 (by omega) x3 (by omega) hav (by omega) X (by omega) hR.t o hp nx hS _ r1,r2⟩
  · by_cases c2:pos p b < b.length
    · obtain ⟨y,u,y1,y2,y3,y4,y5⟩:=nx_some hb c2
      have hbv:=pos_at c2
      have hbM:=hbB _ (List.getElem_mem c2)
      obtain ⟨R,r1,r2⟩:=go (K false y) u y3 (by omega) fun j j1 j2=>by rw [y5 j j1 j2,nx_none (by omega) j j1]
      exact ⟨R,mB H κ hκ K hK a b f g p _ _ (by omega) c2 y y1 u y2 (by omega) y3 hbv (by omega) X (by omega) hR.t o hp nx hS _ r1,r2⟩
    · exact ⟨X,k1_exit κ a b f g p _ _ X o hp nx H (by omega) (by omega) (by omega) hS,hR.v,hR.bd,hR.done fun j hj=>by rw [nx_none (by omega) j hj,nx_none (by omega) j hj,hK0];simp⟩
theorem merged_ok (H:HasM C) (κ:Nat) (hκ:κ=478∨κ=479) (K:Bool→Bool→Bool) (hK:∀ x y,FnW C κ [.bool x,.bool y]=some (.bool (K x y))) (hK0:K false false=false) (a b:List (Nat × Nat)) (f g:Bool) (B:Nat) (hB:B≤4096) (ha:SV 0 a) (hb:SV 0 b) (haB:∀ s ∈ a,s.2≤B) (hbB:∀ s ∈ b,s.2≤B) :
 ∃ R,FnW C 477 [.ro 2 (a.map eS) f,.ro 2 (b.map eS) g,.fn κ []]=some (.tup [.ro 2 (R.map eS) true,.int .i64 0])∧SV 0 R∧(∀ s ∈ R,s.2≤B)∧∀ j,inS R j↔K (a.any (inB j)) (b.any (inB j))=true:=by
 have hal:=ha.len haB
 have hbl:=hb.len hbB
 obtain ⟨R,r1,r2⟩:=merge_loop H κ hκ K hK hK0 a b f g B hB ha hb (by omega) (by omega) haB hbB B 0 0 0 [] _ _ _ (by omega) (by omega) (by omega) (by omega) (RI.start _ B) Sh.nil
 refine ⟨R,?_,r2⟩
 have h2:=both_ok H.toHasC a b f g (by omega) (fun s hs=>by have:=haB s hs;omega) ha (by omega) (fun s hs=>by have:=hbB s hs;omega) hb
 rw [fnW_eq H.f477 rfl]
 simp only [w477_K0,mS] at r1
 simp at r1
 simp (disch:=omega) [w477,h2,r1,wI64,H.inl,inlB,H.pp,ppB]
theorem union_ok (H:HasM C) (a b:List (Nat × Nat)) (f g:Bool) (B:Nat) (hB:B≤4096) (ha:SV 0 a) (hb:SV 0 b) (haB:∀ s ∈ a,s.2≤B) (hbB:∀ s ∈ b,s.2≤B) :
 ∃ R,FnW C 371 [.ro 2 (a.map eS) f,.ro 2 (b.map eS) g]=some (.tup [.ro 2 (R.map eS) true,.int .i64 0])∧SV 0 R∧(∀ s ∈ R,s.2≤B)∧∀ j,inS R j↔inS a j∨inS b j:=by
 obtain ⟨R,r1,r2,r3,r4⟩:=merged_ok H 479 (.inr rfl) (fun x y=>x||y) (fun x y=>keep_ok H x y) rfl a b f g B hB ha hb haB hbB
 refine ⟨R,?_,r2,r3,fun j=>by rw [r4,Bool.or_eq_true,inS_any,inS_any]⟩
 rw [fnW_eq H.f371 rfl]
 simp (disch:=omega) [w371,r1,wI64,H.inl,inlB,H.pp,ppB]
theorem without_ok (H:HasM C) (a b:List (Nat × Nat)) (f g:Bool) (B:Nat) (hB:B≤4096) (ha:SV 0 a) (hb:SV 0 b) (haB:∀ s ∈ a,s.2≤B) (hbB:∀ s ∈ b,s.2≤B) :
 ∃ R,FnW C 370 [.ro 2 (a.map eS) f,.ro 2 (b.map eS) g]=some (.tup [.ro 2 (R.map eS) true,.int .i64 0])∧SV 0 R∧(∀ s ∈ R,s.2≤B)∧∀ j,inS R j↔inS a j∧¬ inS b j:=by
 obtain ⟨R,r1,r2,r3,r4⟩:=merged_ok H 478 (.inl rfl) (fun x y=>x&&!y) (fun x y=>keep2_ok H x y) rfl a b f g B hB ha hb haB hbB
 refine ⟨R,?_,r2,r3,fun j=>by rw [r4,Bool.and_eq_true,inS_any,← inS_any b];simp⟩
 rw [fnW_eq H.f370 rfl]
 simp (disch:=omega) [w370,r1,wI64,H.inl,inlB,H.pp,ppB]
end Go.O
end
section
namespace Go.O
open Go Go.Pav Go.Pw P Go.D
attribute [-simp] List.getElem_cons_drop
attribute [-simp] splice fillC AV.cells AV.cell AV.isAg isC
variable {C:WProg}
structure HasN (C:WProg):Prop extends HasM C where
 f473:C.fns.get 473=some w473
 f365:C.fns.get 365=some w365
theorem ranged_ok (H:HasN C) (L:List (Nat × Nat)) (f:Bool) (hl:L.length≤4096) (hm:∀ s ∈ L,s.2≤1073741824) (hv:SV 0 L) (p n:Nat) (hp:p≤1073741824) (hn:n≤1073741824):FnW C 473 [.ro 2 (L.map eS) f,.int .i64 p,.int .i64 n]=some (.int .i64 0):=by
 have h:=check_ok H.toHasC L f hl hm hv
 have c1:¬ (p:Int) < 0:=by omega
 have c2:¬ (n:Int) < 0:=by omega
 have c3:¬ 1073741824 < (p:Int):=by omega
 have c4:¬ 1073741824 < (n:Int):=by omega
 rw [fnW_eq H.f473 rfl]
 simp (disch:=omega) [w473,h,c1,c2,c3,c4,wI64,H.inl,inlB,H.pp,ppB]
theorem ins_loop (H:HasN C) (L:List (Nat × Nat)) (f:Bool) (hl:L.length≤4096) (p:Nat) (hp:p≤4096) (hm:∀ s ∈ L,s.2≤p) (hv:SV 0 L):∀ n i,n+i=L.length→∀ o hp nx,Sh o hp nx (L.take i) →
 w365_K0 C ⟨[(46,.int .i64 i),(45,.int .i64 L.length),(44,.ro 2 (L.map eS) f),(10,o),(2,.int .i64 1),(1,.int .i64 p)],hp,nx⟩=some (.tup [.ro 2 (L.map eS) true,.int .i64 0]):=by
 have q:=fun a b c h n=>rnW_eq (args:=[a,b,c]) H.f2391 rfl h n
 have hd:=fun f=>done_ok H.toHasC L f hl
 intro n
 induction n with
 | zero =>
  intro i hi o hp nx hS
  have h3:¬ i < L.length:=by omega
  rw [List.take_of_length_le (by omega)] at hS
  simp only [w365_K0]
  rcases hS with ⟨rfl,rfl,rfl,rfl⟩ | ⟨Y,l,rfl,rfl,rfl,rfl⟩
  · rw [ck_unf w365_B0.eq_1]
    simp at hd
    simp (disch:=omega) [ck_unf w365_c0.eq_1,hd,wI64,H.inl,inlB,H.pp,ppB]
  · rw [ck_unf w365_B0.eq_1]
    simp at hd h3
    have h3':¬ (i:Int) < Y.length+1:=by omega
    simp (disch:=omega) [ck_unf w365_c0.eq_1,take_all,hd,h3,h3',wI64,H.inl,inlB,H.pp,ppB]
 | succ n ih =>
  intro i hi o hp nx hS
  have h1:i < L.length:=by omega
  have hs:=hm L[i] (List.getElem_mem h1)
  have e1:=(hv.ge _ (List.getElem_mem h1)).2
  have ht:L.take (i+1)=L.take i++[L[i]]:=List.take_succ_eq_append_getElem h1
  have c1:¬ (L[i].2≤L[i].1):=by omega
  have c2:L[i].2≤p:=hs
  simp only [w365_K0] at ih ⊢
  generalize hX:L.take i=X at *
  have hXL:X.length≤4096:=by rw [← hX,List.length_take];omega
  have hgap:∀ s ∈ X,s.2 < L[i].1:=by
   have:SV 0 (X++L.drop i):=by rw [← hX,List.take_append_drop];exact hv
   have h4:=this.app.2.2
   rw [List.drop_eq_getElem_cons h1] at h4
   exact fun s hs=>h4 s hs _ (by simp)
  rcases hS with ⟨rfl,rfl,rfl,rfl⟩ | ⟨Y,l,rfl,rfl,rfl,rfl⟩
  · have this:=ih (i+1) (by omega) _ _ _ (by rw [ht];exact Sh.snoc [] L[i])
    rw [ck_unf w365_B0.eq_1]
    (try simp [eS] at this)
    simp (disch:=omega) [h1,c1,c2,q,w391,imin_l,imin_r,imax_l,imax_r,set_last,get_last,gq_last,take_all,this,eS,wI64,H.inl,inlB,H.pp,ppB]
  · have hg:=hgap l (by simp)
    have hc:¬ (L[i].1≤l.2):=by omega
    simp at hXL
    have hmk:(Y.length+1+1) * 17≤35184372088832:=by omega
    have this:=ih (i+1) (by omega) _ _ _ (by rw [ht];exact Sh.snoc (Y++[l]) L[i])
    rw [ck_unf w365_B0.eq_1]
    (try simp [eS] at this)
    simp (disch:=omega) [h1,c1,c2,hc,hmk,q,w391,imin_l,imin_r,imax_l,imax_r,set_last,get_last,gq_last,take_all,this,eS,wI64,H.inl,inlB,H.pp,ppB]
theorem sins_ok (H:HasN C) (L:List (Nat × Nat)) (f:Bool) (hl:L.length≤4096) (p:Nat) (hp:p≤4096) (hm:∀ s ∈ L,s.2≤p) (hv:SV 0 L):FnW C 365 [.ro 2 (L.map eS) f,.int .i64 p,.int .i64 1]=some (.tup [.ro 2 (L.map eS) true,.int .i64 0]):=by
 have h:=ranged_ok H L f hl (fun s hs=>by have:=hm s hs;omega) hv p 1 (by omega) (by omega)
 have h2:=ins_loop H L f hl p hp hm hv L.length 0 (by omega) _ _ _ Sh.nil
 simp only [w365_K0] at h2
 rw [fnW_eq H.f365 rfl]
 simp at h h2
 rcases List.eq_nil_or_concat L with rfl | ⟨Y,l,rfl⟩
 · simp at h h2
   simp (disch:=omega) [w365,h,h2,wI64,H.inl,inlB,H.pp,ppB]
 · have hll:=hm l (by simp)
   have c1:¬ ((p:Int) < l.2):=by omega
   have c2:¬ (p < l.2):=by omega
   rw [List.concat_eq_append] at h h2 hl ⊢
   simp at h h2 hl
   simp (disch:=omega) [w365,h,h2,c1,c2,get_last,gq_last,wI64,H.inl,inlB,H.pp,ppB]
end Go.O
end
section
namespace Go.O
open Go Go.Pav Go.Pw P Go.D
attribute [-simp] List.getElem_cons_drop
attribute [-simp] splice fillC AV.cells AV.cell AV.isAg isC
variable {C:WProg}
structure HasX (C:WProg):Prop extends HasP C,HasN C where
 f98:C.fns.get 98=some w98
 f193:C.fns.get 193=some w193
 f195:C.fns.get 195=some w195
 f196:C.fns.get 196=some w196
 f188:C.fns.get 188=some w188
 f187:C.fns.get 187=some w187
 f101:C.fns.get 101=some w101
 f104:C.fns.get 104=some w104
 f105:C.fns.get 105=some w105
abbrev eX (t:Tr) (K:List (Nat × Nat)) (f:Bool):AV:=.agg [t.c,.ro 2 (K.map eS) f]
theorem xlen_ok (H:HasX C) (t:Tr) (K:List (Nat × Nat)) (f:Bool):FnW C 98 [eX t K f]=some (.int .i64 t.cnt):=by
 have h:=rlen_ok H.toHasP t
 rw [fnW_eq H.f98 rfl]
 simp (disch:=omega) [w98,h,wI64,H.inl,inlB,H.pp,ppB]
theorem wrong_ok (H:HasX C) (s:Int) (h0:1≤s) (h1:s≤2305843009213693952):FnW C 193 [.int .i64 s]=some (.bool false):=by
 have c1:¬ s < 1:=by omega
 have c2:¬ 2305843009213693952 < s:=by omega
 rw [fnW_eq H.f193 rfl]
 simp (disch:=omega) [w193,c1,c2,wI64,H.inl,inlB,H.pp,ppB]
theorem with_ok (H:HasX C) (t:Tr) (K:List (Nat × Nat)) (f:Bool):FnW C 195 [.agg [t.c],.ro 2 (K.map eS) f,.int .i64 0]=some (.tup [eX t K f,.int .i64 0]):=by
 rw [fnW_eq H.f195 rfl]
 simp (disch:=omega) [w195,wI64,H.inl,inlB,H.pp,ppB]
theorem marked_ok (H:HasX C) (K:List (Nat × Nat)) (f:Bool) (B:Nat) (hB:B≤4096) (hv:SV 0 K) (hK:∀ s ∈ K,s.2≤B) (p:Nat) (hp:p < B) (b:Bool) :
 ∃ R,FnW C 196 [.ro 2 (K.map eS) f,.int .i64 p,.int .i64 (p+1:Nat),.bool b]=some (.ro 2 (R.map eS) true)∧SV 0 R∧(∀ s ∈ R,s.2≤B)∧∀ j,inS R j↔if b=true then inS K j∨j=p else inS K j∧j≠p:=by
 have hv1:SV 0 [(p,p+1)]:=⟨Nat.zero_le _,by simp,trivial⟩
 have hb1:∀ s ∈ [(p,p+1)],s.2≤B:=by intro s hs;simp at hs;subst hs;exact hp
 have hj:∀ j,inS [(p,p+1)] j↔j=p:=fun j=>by rw [inS_one];omega
 have hne:¬ (p=p+1):=by omega
 have hne':¬ ((p:Int)=p+1):=by omega
 cases b
 · obtain ⟨R,r1,r2,r3,r4⟩:=without_ok H.toHasM K [(p,p+1)] f true B hB hv hv1 hK hb1
   refine ⟨R,?_,r2,r3,fun j=>by rw [r4,hj];simp⟩
   simp [eS] at r1
   rw [fnW_eq H.f196 rfl]
   simp (disch:=omega) [w196,r1,hne,hne',wI64,H.toHasP.inl,inlB,H.toHasP.pp,ppB]
 · obtain ⟨R,r1,r2,r3,r4⟩:=union_ok H.toHasM K [(p,p+1)] f true B hB hv hv1 hK hb1
   refine ⟨R,?_,r2,r3,fun j=>by rw [r4,hj];simp⟩
   simp [eS] at r1
   rw [fnW_eq H.f196 rfl]
   simp (disch:=omega) [w196,r1,hne,hne',wI64,H.toHasP.inl,inlB,H.toHasP.pp,ppB]
theorem xins_ok (H:HasX C) (t:Tr) (K:List (Nat × Nat)) (f:Bool) (s:Int) (h0:1≤s) (h1:s≤2305843009213693952) (h:LB (t.toL++[s])) (hn:t.cnt+1≤1024) (hv:SV 0 K) (hK:∀ x ∈ K,x.2≤t.cnt) (e b:Bool) :
 ∃ t' R,FnW C 188 [eX t K f,.int .i64 t.cnt,.ro 1 [[.int .i64 s]] e,.bool b]=some (.tup [eX t' R true,.int .i64 0])∧t'.toL=t.toL++[s]∧SV 0 R∧(∀ x ∈ R,x.2≤t.cnt+1)∧∀ j,inS R j↔inS K j∨(b=true∧j=t.cnt):=by
 have hl:=xlen_ok H t K f
 have hw:=wrong_ok H s h0 h1
 have hf:=fun e=>fchk1_ok H.toHasP s (by omega) h1 e
 obtain ⟨v,q1,q2⟩:=rins_ok H.toHasP t s h h1 (by omega) e
 have hKl:=hv.len hK
 have hs:=sins_ok H.toHasN K f (by omega) t.cnt (by omega) hK hv
 obtain ⟨R,r1,r2,r3,r4⟩:=marked_ok H K true (t.cnt+1) (by omega) hv (fun x hx=>by have:=hK x hx;omega) t.cnt (by omega) b
 have hm:=with_ok H v R true
 refine ⟨v,R,?_,q2,r2,r3,fun j=>?_⟩
 · have c1:¬ (t.cnt:Int) < 0:=by omega
   have c2:¬ (1024 - (t.cnt:Int) < 1):=by omega
   rw [fnW_eq H.f188 rfl]
   simp at r1
   simp (disch:=omega) [w188,ck_unf w188_B0.eq_1,ck_unf w188_c0.eq_1,hl,hw,hf,q1,hs,r1,hm,c1,c2,wI64,H.toHasP.inl,inlB,H.toHasP.pp,ppB]
 · rw [r4]
   cases b
   · simp
     intro hj he
     subst he
     obtain ⟨x,hx,hx2⟩:=hj
     have:=hK x hx
     omega
   · simp
theorem xset_ok (H:HasX C) (t:Tr) (K:List (Nat × Nat)) (f:Bool) (k:Nat) (hk:k < t.cnt) (z:Int) (h0:1≤z) (h1:z≤2305843009213693952) (h:LB t.toL) (h':LB (t.toL.set k z)) (hn:t.cnt≤1024) (hv:SV 0 K) (hK:∀ x ∈ K,x.2≤t.cnt) :
 ∃ t' R,FnW C 101 [eX t K f,.int .i64 k,.int .i64 z,.bool true]=some (.tup [eX t' R true,.int .i64 0])∧t'.toL=t.toL.set k z∧SV 0 R∧(∀ x ∈ R,x.2≤t.cnt)∧∀ j,inS R j↔inS K j∨j=k:=by
 have hl:=xlen_ok H t K f
 have hw:=wrong_ok H z h0 h1
 obtain ⟨v,q1,q2⟩:=rset_ok H.toHasP t k hk z (by omega) h1 h h'
 obtain ⟨R,r1,r2,r3,r4⟩:=marked_ok H K f t.cnt (by omega) hv hK k hk true
 have hm:=with_ok H v R true
 refine ⟨v,R,?_,q2,r2,r3,fun j=>by rw [r4];simp⟩
 have c1:¬ (k:Int) < 0:=by omega
 have c2:(0:Int)≤k:=by omega
 rw [fnW_eq H.f101 rfl]
 simp at r1
 simp (disch:=omega) [w101,hl,hw,q1,r1,hm,c1,c2,hk,wI64,H.toHasP.inl,inlB,H.toHasP.pp,ppB]
theorem xsize_ok (H:HasX C) (t:Tr) (K:List (Nat × Nat)) (f:Bool) (k:Nat) (hk:k < t.cnt) (hn:t.cnt≤1024):∃ s:Int,FnW C 104 [eX t K f,.int .i64 k]=some (.tup [.int .i64 s,.int .i64 0])∧t.toL[k]?=some s:=by
 obtain ⟨s,p1,p2⟩:=rat_ok H.toHasP t k hk (by omega)
 refine ⟨s,?_,p2⟩
 rw [fnW_eq H.f104 rfl]
 simp (disch:=omega) [w104,p1,wI64,H.toHasP.inl,inlB,H.toHasP.pp,ppB]
theorem xknown_ok (H:HasX C) (t:Tr) (K:List (Nat × Nat)) (f:Bool) (k:Nat) (hk:k < t.cnt) (hn:t.cnt≤1024) (hv:SV 0 K) (hK:∀ x ∈ K,x.2≤t.cnt):FnW C 105 [eX t K f,.int .i64 k]=some (.tup [.bool (K.any (inB k)),.int .i64 0]):=by
 have hl:=xlen_ok H t K f
 have hKl:=hv.len hK
 have hh:=has_ok H.toHasC K f (by omega) (fun s hs=>by have:=hK s hs;omega) hv k
 have c1:¬ (k:Int) < 0:=by omega
 have c2:¬ (t.cnt:Int)≤k:=by omega
 rw [fnW_eq H.f105 rfl]
 simp (disch:=omega) [w105,hl,hh,c1,c2,hk,wI64,H.toHasP.inl,inlB,H.toHasP.pp,ppB]
end Go.O
end
section
namespace Go.O
open Go Go.Pav Go.Pw P Go.D
attribute [-simp] List.getElem_cons_drop
attribute [-simp] splice fillC AV.cells AV.cell AV.isAg isC
variable {C:WProg}
structure HasY (C:WProg):Prop extends HasX C where
 f95:C.fns.get 95=some w95
 f94:C.fns.get 94=some w94
 f96:C.fns.get 96=some w96
 f189:C.fns.get 189=some w189
 f103:C.fns.get 103=some w103
abbrev e8 (b:Nat):List AV:=[.int .u8 b]
abbrev eR (r:Nat × Bool):List AV:=[.int .i64 r.1,.bool r.2]
def row1 (b:Nat):Nat × Bool:=(1+b % 16,decide (127 < b))
def rowsF (L:List Nat):List (Nat × Bool):=(L.take 60).map row1
def great (g:Bool):List (Nat × Bool)→List (Nat × Bool)
 | []=>[]
 | r::t=>(if g=true then 2305843009213693952 else r.1,r.2)::t
theorem rows_loop (H:HasY C) (L:List Nat) (f g:Bool) (hL:∀ b ∈ L,b < 256):∀ n i,n+i=(L.take 60).length →
 w95_K0 C ⟨[(4,.int .i64 i),(3,.sl 0 2 0 i i false),(1,.ptr 1 0 0)],[(0,.cells 2 (((rowsF L).take i).map eR) true true),(1,.cells 2 [[.ro 1 (L.map e8) f,.bool g]] true true)],2⟩=some (.ro 2 ((great g (rowsF L)).map eR) false):=by
 intro n
 induction n with
 | zero =>
  intro i hi
  have hlen:(rowsF L).length=i:=by simp [rowsF] at hi ⊢;omega
  rw [List.take_of_length_le (by omega)]
  have h3:¬ ((i:Int) < L.length∧(i:Int) < 60):=by simp at hi;omega
  have h4:¬ (i < L.length∧i < 60):=by simp at hi;omega
  simp only [w95_K0]
  have hi2:i≤60:=by simp at hi;omega
  have hc:∀ v:AV,(if i < L.length then (if i < 60 then .bool true else v) else v)=v:=by
   intro v
   split
   · split
     · exact absurd ⟨by assumption,by assumption⟩ h4
     · rfl
   · rfl
  generalize rowsF L=X at *
  rw [ck_unf w95_B0.eq_1]
  by_cases c1:i < L.length
  · have c2:¬ i < 60:=by omega
    cases X with
    | nil=>simp at hlen;omega
    | cons r t =>
     simp at hlen
     obtain rfl:i=t.length+1:=hlen.symm
     have hlt:(0:Int) < (t.length:Int)+1:=by omega
     have hT:List.take t.length (List.map eR t)=List.map eR t:=List.take_of_length_le (by simp)
     have c1':((t.length:Int)+1 < L.length):=by omega
     have c2':¬ ((t.length:Int)+1 < 60):=by omega
     cases g
     · simp (disch:=omega) [c1,c2,c1',c2',ck_unf w95_c0.eq_1,hlt,great,hT,eR,wI64,H.toHasP.inl,inlB,H.toHasP.pp,ppB]
     · simp (disch:=omega) [c1,c2,c1',c2',ck_unf w95_c0.eq_1,hlt,great,hT,eR,wI64,H.toHasP.inl,inlB,H.toHasP.pp,ppB]
  · cases X with
    | nil =>
     simp at hlen
     subst hlen
     cases g
     · simp (disch:=omega) [c1,ck_unf w95_c0.eq_1,great,wI64,H.toHasP.inl,inlB,H.toHasP.pp,ppB]
     · simp (disch:=omega) [c1,ck_unf w95_c0.eq_1,great,wI64,H.toHasP.inl,inlB,H.toHasP.pp,ppB]
    | cons r t =>
     simp at hlen
     obtain rfl:i=t.length+1:=hlen.symm
     have hlt:(0:Int) < (t.length:Int)+1:=by omega
     have hT:List.take t.length (List.map eR t)=List.map eR t:=List.take_of_length_le (by simp)
     have c1':¬ ((t.length:Int)+1 < L.length):=by omega
     cases g
     · simp (disch:=omega) [c1,c1',hT,ck_unf w95_c0.eq_1,hlt,great,eR,wI64,H.toHasP.inl,inlB,H.toHasP.pp,ppB]
     · simp (disch:=omega) [c1,c1',hT,ck_unf w95_c0.eq_1,hlt,great,eR,wI64,H.toHasP.inl,inlB,H.toHasP.pp,ppB]
 | succ n ih =>
  intro i hi
  have h0:i < L.length∧i < 60:=by simp at hi;omega
  have h1:i < L.length:=h0.1
  have h2:i < 60:=h0.2
  have hb:=hL L[i] (List.getElem_mem h1)
  have hr:((L[i]:Nat):Int).tmod 16=((L[i] % 16:Nat):Int):=by rw [Int.tmod_eq_emod_of_nonneg (by omega)];rfl
  have ht:(rowsF L).take (i+1)=(rowsF L).take i++[row1 L[i]]:=by
   have hl:i < (rowsF L).length:=by simp [rowsF];omega
   rw [List.take_succ_eq_append_getElem hl]
   congr 2
   simp [rowsF]
  have hlen:((rowsF L).take i).length=i:=by simp [rowsF];omega
  have this:=ih (i+1) (by omega)
  rw [ht] at this
  have hmin:min i (rowsF L).length=i:=by simp at hlen;omega
  have hmk:(i+1) * 17≤35184372088832:=by omega
  simp only [w95_K0] at this ⊢;rw [ck_unf w95_B0.eq_1]
  simp [row1,eR] at this
  simp (disch:=omega) [h1,h2,hr,hlen,hmin,hmk,this,wI64,H.toHasP.inl,inlB,H.toHasP.pp,ppB]
theorem rows_ok (H:HasY C) (L:List Nat) (f g:Bool) (hL:∀ b ∈ L,b < 256):FnW C 95 [.agg [.ro 1 (L.map e8) f,.bool g]]=some (.ro 2 ((great g (rowsF L)).map eR) false):=by
 have h:=rows_loop H L f g hL (L.take 60).length 0 rfl
 simp only [w95_K0] at h
 rw [fnW_eq H.f95 rfl]
 simp at h
 simp (disch:=omega) [w95,h,wI64,H.toHasP.inl,inlB,H.toHasP.pp,ppB]
abbrev szs (l:List (Nat × Bool)):List Int:=l.map fun r=>(r.1:Int)
structure Rws (l:List (Nat × Bool)):Prop where
 ln:l.length≤60
 lb:LB (szs l)
 sz:∀ r ∈ l,1≤r.1∧r.1≤2305843009213693952
 su:(szs l).sum≤2305843009213695000
structure Ix (l:List (Nat × Bool)) (i:Nat) (t:Tr) (K:List (Nat × Nat)):Prop where
 tl:t.toL=(szs l).take i
 v:SV 0 K
 b:∀ s ∈ K,s.2≤i
 m:∀ j,inS K j↔j < i∧∃ r,l[j]?=some r∧r.2=true
theorem of_loop (H:HasY C) (l:List (Nat × Bool)) (fl:Bool) (hl:Rws l):∀ n i,n+i=l.length→∀ t K,Ix l i t K→∃ t' K',Ix l l.length t' K' ∧
 w94_K0 C ⟨[(5,.int .i64 i),(4,.ptr 0 0 0),(3,.ro 2 (l.map eR) fl),(2,.ptr 1 0 0)],[(0,.cells 2 [[t.c,.ro 2 (K.map eS) true]] true true),(1,.cells 2 [[.nilp,.ro 2 [] true]] true true)],2⟩=some (eX t' K' true):=by
 intro n
 induction n with
 | zero =>
  intro i hi t K hI
  obtain rfl:i=l.length:=by omega
  refine ⟨t,K,hI,?_⟩
  simp only [w94_K0];rw [ck_unf w94_B0.eq_1]
  simp (disch:=omega) [ck_unf w94_c0.eq_1,wI64,H.toHasP.inl,inlB,H.toHasP.pp,ppB]
 | succ n ih =>
  intro i hi t K hI
  have h1:i < l.length:=by omega
  have hln:=hl.ln
  have hc:t.cnt=i:=by rw [t.cnt_eq,hI.tl];simp;omega
  have hs:=hl.sz l[i] (List.getElem_mem h1)
  have htk:(szs l).take i++[(l[i].1:Int)]=(szs l).take (i+1):=by
   rw [List.take_succ_eq_append_getElem (by simpa using h1)]
   simp
  obtain ⟨t',R,q1,q2,q3,q4,q5⟩:=xins_ok H.toHasX t K true l[i].1 (by omega) (by omega) (by rw [hI.tl,htk];exact LB.left (B:=(szs l).drop (i+1)) (by rw [List.take_append_drop];exact hl.lb)) (by omega) hI.v (by rw [hc];exact hI.b) true l[i].2
  rw [hc] at q1 q4 q5
  have hI':Ix l (i+1) t' R:=by
   refine ⟨by rw [q2,hI.tl,htk],q3,q4,fun j=>?_⟩
   rw [q5,hI.m]
   constructor
   · rintro (⟨a,b⟩ | ⟨a,rfl⟩)
     · exact ⟨by omega,b⟩
     · exact ⟨by omega,_,List.getElem?_eq_getElem h1,a⟩
   · rintro ⟨a,r,b,c⟩
     by_cases d:j < i
     · exact .inl ⟨d,r,b,c⟩
     · obtain rfl:j=i:=by omega
       rw [List.getElem?_eq_getElem h1] at b
       cases b
       exact .inr ⟨c,rfl⟩
  obtain ⟨t2,K2,r1,r2⟩:=ih (i+1) (by omega) t' R hI'
  refine ⟨t2,K2,r1,?_⟩
  simp only [w94_K0] at r2 ⊢;rw [ck_unf w94_B0.eq_1]
  simp at r2 q1
  simp (disch:=omega) [h1,q1,r2,wI64,H.toHasP.inl,inlB,H.toHasP.pp,ppB]
theorem new_ok (H:HasY C):FnW C 187 []=some (eX .nil [] true):=by
 rw [fnW_eq H.f187 rfl]
 simp (disch:=omega) [w187,wI64,H.toHasP.inl,inlB,H.toHasP.pp,ppB]
theorem xof_ok (H:HasY C) (L:List Nat) (f g:Bool) (hL:∀ b ∈ L,b < 256) (hl:Rws (great g (rowsF L))):∃ t K,Ix (great g (rowsF L)) (great g (rowsF L)).length t K∧FnW C 94 [.agg [.ro 1 (L.map e8) f,.bool g]]=some (eX t K true):=by
 have h:=rows_ok H L f g hL
 have hn:=new_ok H
 obtain ⟨t,K,r1,r2⟩:=of_loop H (great g (rowsF L)) false hl _ 0 rfl .nil [] ⟨rfl,trivial,fun s hs=>absurd hs (by simp),fun j=>by simp [inS_nil]⟩
 refine ⟨t,K,r1,?_⟩
 simp only [w94_K0] at r2
 rw [fnW_eq H.f94 rfl]
 simp at r2 hn h
 simp (disch:=omega) [w94,h,hn,r2,wI64,H.toHasP.inl,inlB,H.toHasP.pp,ppB]
theorem sum_le:∀ (l:List (Nat × Bool)) (b:Nat),(∀ r ∈ l,r.1≤b)→(szs l).sum≤(l.length * b:Nat)
 | [],b,_=>by simp
 | r::t,b,h=>by
  have h1:=h r (by simp)
  have h2:=sum_le t b (fun r hr=>h r (List.mem_cons_of_mem _ hr))
  rw [szs,List.map_cons,List.sum_cons,List.length_cons,Nat.succ_mul]
  change (r.1:Int)+(szs t).sum≤_
  omega
theorem rws_ok (L:List Nat) (g:Bool):Rws (great g (rowsF L)):=by
 have hlen:(great g (rowsF L)).length≤60:=by
  have h0:(rowsF L).length≤60:=by simp [rowsF];omega
  cases h:rowsF L with
  | nil=>simp [great]
  | cons r t=>rw [h] at h0;simpa [great] using h0
 have hr:∀ r ∈ rowsF L,1≤r.1∧r.1≤16:=by
  intro r hr
  simp only [rowsF,List.mem_map] at hr
  obtain ⟨b,_,rfl⟩:=hr
  simp only [row1]
  omega
 have h0:(rowsF L).length≤60:=by simp [rowsF];omega
 cases h:rowsF L with
 | nil=>exact ⟨by simp [great],⟨by simp [great,szs],by simp [great,szs],by simp [great,szs]⟩,by simp [great],by simp [great,szs]⟩
 | cons r t =>
  rw [h] at hr h0
  have h1:=hr r (by simp)
  have h2:∀ x ∈ t,1≤x.1∧x.1≤16:=fun x hx=>hr x (List.mem_cons_of_mem _ hx)
  have h3:=sum_le t 16 (fun x hx=>(h2 x hx).2)
  simp at h0
  refine ⟨by simpa [great] using h0,⟨?_,?_,by simp [great,szs];omega⟩,?_,?_⟩
  · intro x hx
    simp [great,szs] at hx
    rcases hx with rfl | ⟨a,_,_,rfl⟩
    · split <;> omega
    · omega
  · rw [great,szs,List.map_cons,List.sum_cons]
    change _+(szs t).sum≤_
    dsimp only
    split <;> omega
  · intro x hx
    simp only [great,List.mem_cons] at hx
    rcases hx with rfl | hx
    · dsimp only;split <;> omega
    · have:=h2 x hx;omega
  · rw [great,szs,List.map_cons,List.sum_cons]
    change _+(szs t).sum≤_
    dsimp only
    split <;> omega
end Go.O
end
section
namespace Go.O
open Go Go.Pav Go.Pw P Go.D
attribute [-simp] List.getElem_cons_drop
attribute [-simp] splice fillC AV.cells AV.cell AV.isAg isC
variable {C:WProg}
abbrev eH (x:Nat × Nat):List AV:=[.int .u64 x.1,.int .i64 x.2]
structure Tb (M:List (Nat × Nat)):Prop where
 ln:M.length≤100
 k:∀ x ∈ M,1≤x.1∧x.1≤40
 s:∀ x ∈ M,1≤x.2∧x.2≤40
 nd:(M.map Prod.fst).Nodup
theorem at_loop (H:HasY C) (M:List (Nat × Nat)) (f:Bool) (hM:M.length≤100) (k:Nat):∀ n i,n+i=M.length→∃ r:Int,
 w189_K0 C ⟨[(5,.int .i64 i),(1,.int .u64 k),(0,.ro 2 (M.map eH) f)],[],0⟩=some (.int .i64 r)∧(r < 0↔∀ x ∈ M.drop i,x.1≠k):=by
 intro n
 induction n with
 | zero =>
  intro i hi
  have h3:¬ i < M.length:=by omega
  refine ⟨-1,?_,by rw [List.drop_eq_nil_of_le (by omega)];simp⟩
  simp only [w189_K0];rw [ck_unf w189_B0.eq_1]
  simp (disch:=omega) [ck_unf w189_c0.eq_1,h3]
 | succ n ih =>
  intro i hi
  have h1:i < M.length:=by omega
  rw [List.drop_eq_getElem_cons h1]
  by_cases c:M[i].1=k
  · refine ⟨i,?_,?_⟩
    · simp only [w189_K0];rw [ck_unf w189_B0.eq_1]
      simp (disch:=omega) [h1,c,wI64,H.toHasP.inl,inlB,H.toHasP.pp,ppB]
    · constructor
      · omega
      · intro q
        exact absurd c (q _ (by simp))
  · obtain ⟨r,q1,q2⟩:=ih (i+1) (by omega)
    refine ⟨r,?_,?_⟩
    · simp only [w189_K0] at q1 ⊢;rw [ck_unf w189_B0.eq_1]
      simp at q1
      simp (disch:=omega) [h1,c,q1,wI64,H.toHasP.inl,inlB,H.toHasP.pp,ppB]
    · rw [q2]
      simp [c]
theorem tat_ok (H:HasY C) (M:List (Nat × Nat)) (f:Bool) (hM:M.length≤100) (k:Nat):∃ r:Int,FnW C 189 [.ro 2 (M.map eH) f,.int .u64 k]=some (.int .i64 r)∧(r < 0↔∀ x ∈ M,x.1≠k):=by
 obtain ⟨r,q1,q2⟩:=at_loop H M f hM k _ 0 rfl
 refine ⟨r,?_,by rw [q2,List.drop_zero]⟩
 rw [fnW_eq H.f189 rfl]
 simp only [w189_K0] at q1
 simp at q1
 simp (disch:=omega) [w189,q1,wI64,H.toHasP.inl,inlB,H.toHasP.pp,ppB]
theorem find_loop (H:HasY C) (M:List (Nat × Nat)) (f:Bool) (hM:M.length≤100) (k:Nat):∀ n i,n+i=M.length →
 w103_K0 C ⟨[(10,.int .i64 i),(9,.int .i64 M.length),(8,.ro 2 (M.map eH) f),(1,.int .u64 k)],[],0⟩=some (match (M.drop i).find? (fun x=>x.1 == k) with | some x=>.tup [.int .i64 x.2,.bool true] | none=>.tup [.int .i64 0,.bool false]):=by
 intro n
 induction n with
 | zero =>
  intro i hi
  have h3:¬ i < M.length:=by omega
  rw [List.drop_eq_nil_of_le (by omega)]
  simp only [w103_K0];rw [ck_unf w103_B0.eq_1]
  simp (disch:=omega) [ck_unf w103_c0.eq_1,h3]
 | succ n ih =>
  intro i hi
  have h1:i < M.length:=by omega
  have this:=ih (i+1) (by omega)
  rw [List.drop_eq_getElem_cons h1,List.find?_cons]
  simp only [w103_K0] at this ⊢;rw [ck_unf w103_B0.eq_1]
  by_cases c:M[i].1=k
  · have c2:(M[i].1 == k)=true:=by simpa using c
    rw [c2]
    simp (disch:=omega) [h1,c,wI64,H.toHasP.inl,inlB,H.toHasP.pp,ppB]
  · have c2:(M[i].1 == k)=false:=by simpa using c
    rw [c2]
    simp at this
    simp (disch:=omega) [h1,c,this,wI64,H.toHasP.inl,inlB,H.toHasP.pp,ppB]
theorem tfind_ok (H:HasY C) (M:List (Nat × Nat)) (f:Bool) (hM:M.length≤100) (k:Nat):FnW C 103 [.ro 2 (M.map eH) f,.int .u64 k]=some (match M.find? (fun x=>x.1 == k) with | some x=>.tup [.int .i64 x.2,.bool true] | none=>.tup [.int .i64 0,.bool false]):=by
 have h:=find_loop H M f hM k _ 0 rfl
 rw [List.drop_zero] at h
 rw [fnW_eq H.f103 rfl]
 simp only [w103_K0] at h
 simp at h
 simp (disch:=omega) [w103,h,wI64,H.toHasP.inl,inlB,H.toHasP.pp,ppB]
abbrev e88 (x:Nat × Nat):List AV:=[.int .u8 x.1,.int .u8 x.2]
theorem tof_loop (H:HasY C) (L:List (Nat × Nat)) (f:Bool) (hL:∀ x ∈ L,x.1 < 256∧x.2 < 256):∀ n i,n+i=(L.take 100).length→∀ M:List (Nat × Nat),Tb M→M.length≤i→∃ M',Tb M' ∧
 w96_K0 C ⟨[(4,.int .i64 i),(3,.sl 0 2 0 M.length M.length false),(1,.ptr 1 0 0)],[(0,.cells 2 (M.map eH) true true),(1,.cells 1 [[.ro 2 (L.map e88) f]] true true)],2⟩=some (.ro 2 (M'.map eH) false):=by
 intro n
 induction n with
 | zero =>
  intro i hi M hM hl
  refine ⟨M,hM,?_⟩
  have h4:¬ (i < L.length∧i < 100):=by simp at hi;omega
  have hT:List.take M.length (List.map eH M)=List.map eH M:=List.take_of_length_le (by simp)
  have hi2:i≤100:=by simp at hi;omega
  simp only [w96_K0];rw [ck_unf w96_B0.eq_1]
  by_cases c1:i < L.length
  · have c2:¬ i < 100:=by omega
    have c2':¬ (i:Int) < 100:=by omega
    simp (disch:=omega) [c1,c2,c2',hT,ck_unf w96_c0.eq_1,wI64,H.toHasP.inl,inlB,H.toHasP.pp,ppB]
  · simp (disch:=omega) [c1,hT,ck_unf w96_c0.eq_1,wI64,H.toHasP.inl,inlB,H.toHasP.pp,ppB]
 | succ n ih =>
  intro i hi M hM hl
  have h0:i < L.length∧i < 100:=by simp at hi;omega
  have h1:i < L.length:=h0.1
  have h2:i < 100:=h0.2
  have h2':(i:Int) < 100:=by omega
  have hb:=hL L[i] (List.getElem_mem h1)
  have hr1:((L[i].1:Nat):Int).tmod 40=((L[i].1 % 40:Nat):Int):=by rw [Int.tmod_eq_emod_of_nonneg (by omega)];rfl
  have hr2:((L[i].2:Nat):Int).tmod 40=((L[i].2 % 40:Nat):Int):=by rw [Int.tmod_eq_emod_of_nonneg (by omega)];rfl
  have hT:List.take M.length (List.map eH M)=List.map eH M:=List.take_of_length_le (by simp)
  obtain ⟨r,q1,q2⟩:=tat_ok H M false (by have:=hM.ln;omega) (1+L[i].1 % 40)
  by_cases c:r < 0
  · have hM':Tb (M++[(1+L[i].1 % 40,1+L[i].2 % 40)]):=by
     refine ⟨by simp;omega,?_,?_,?_⟩
     · intro x hx
       rcases List.mem_append.1 hx with hx | hx
       · exact hM.k x hx
       · simp at hx;subst hx;dsimp only;omega
     · intro x hx
       rcases List.mem_append.1 hx with hx | hx
       · exact hM.s x hx
       · simp at hx;subst hx;dsimp only;omega
     · rw [List.map_append,List.nodup_append]
       refine ⟨hM.nd,by simp,fun a ha b hb=>?_⟩
       simp at hb
       obtain ⟨x,hx,rfl⟩:=List.mem_map.1 ha
       have:=q2.1 c x hx
       omega
    obtain ⟨M',r1,r2⟩:=ih (i+1) (by omega) _ hM' (by simp;omega)
    refine ⟨M',r1,?_⟩
    have hmk:(M.length+1) * 17≤35184372088832:=by omega
    simp only [w96_K0] at r2 ⊢;rw [ck_unf w96_B0.eq_1]
    simp [eH] at r2
    simp at q1
    simp (disch:=omega) [h1,h2,h2',hr1,hr2,hT,hmk,q1,c,r2,wI64,wU64,wU8,H.toHasP.inl,inlB,H.toHasP.pp,ppB]
  · obtain ⟨M',r1,r2⟩:=ih (i+1) (by omega) M hM (by omega)
    refine ⟨M',r1,?_⟩
    simp only [w96_K0] at r2 ⊢;rw [ck_unf w96_B0.eq_1]
    simp at r2 q1
    simp (disch:=omega) [h1,h2,h2',hr1,hr2,hT,q1,c,r2,wI64,wU64,wU8,H.toHasP.inl,inlB,H.toHasP.pp,ppB]
theorem tof_ok (H:HasY C) (L:List (Nat × Nat)) (f:Bool) (hL:∀ x ∈ L,x.1 < 256∧x.2 < 256):∃ M,Tb M∧FnW C 96 [.agg [.ro 2 (L.map e88) f]]=some (.ro 2 (M.map eH) false):=by
 obtain ⟨M,r1,r2⟩:=tof_loop H L f hL _ 0 rfl [] ⟨by simp,by simp,by simp,by simp⟩ (by simp)
 refine ⟨M,r1,?_⟩
 rw [fnW_eq H.f96 rfl]
 simp only [w96_K0] at r2
 simp at r2
 simp (disch:=omega) [w96,r2,wI64,H.toHasP.inl,inlB,H.toHasP.pp,ppB]
end Go.O
end
section
namespace Go.D
set_option maxHeartbeats 1000000
def KAt (S:List (Option Int)) (k:Int) (p d:Nat):Prop:=(∀ e < d,∃ k',S[(p+e) % S.length]?=some (some k')∧k'≠k)∧S[(p+d) % S.length]?=some (some k)
def KFr (S:List (Option Int)) (k:Int) (p d:Nat):Prop:=(∀ e < d,∃ k',S[(p+e) % S.length]?=some (some k')∧k'≠k)∧S[(p+d) % S.length]?=some none
structure KIn (st:Int→Nat) (S:List (Option Int)) (K:List Int):Prop where
 nd:K.Nodup
 mem:∀ k,some k ∈ S↔k ∈ K
 at_:∀ k ∈ K,∃ d < S.length,KAt S k (st k) d
 cn:S.count none+K.length=S.length
theorem kfr_ex {S:List (Option Int)} {k:Int} (hk:some k ∉ S) (hr:none ∈ S) (p:Nat):∃ d < S.length,KFr S k p d:=by
 obtain ⟨j,hj,hjn⟩:=List.mem_iff_getElem.1 hr
 have hex:∃ d,S[(p+d) % S.length]?=some none∧d < S.length:=by
  refine ⟨(j+S.length - p % S.length) % S.length,?_,Nat.mod_lt _ (by omega)⟩
  have h1:(p+(j+S.length - p % S.length) % S.length) % S.length=j:=by
   have hp:p % S.length < S.length:=Nat.mod_lt _ (by omega)
   rw [Nat.add_mod,Nat.mod_mod,← Nat.add_mod,Nat.add_mod p,← Nat.add_mod]
   have e:p+(j+S.length - p % S.length)=j+S.length * (p / S.length+1):=by
    have:=Nat.div_add_mod p S.length
    rw [Nat.mul_add,Nat.mul_one]
    omega
   rw [e,Nat.add_mul_mod_self_left,Nat.mod_eq_of_lt hj]
  rw [h1,List.getElem?_eq_getElem hj,hjn]
 have hmin:∀ n,(∃ d,d≤n∧S[(p+d) % S.length]?=some none∧d < S.length)→∃ d < S.length,KFr S k p d:=by
  intro n
  induction n with
  | zero =>
   rintro ⟨d,h0,h1,h2⟩
   obtain rfl:d=0:=by omega
   exact ⟨0,h2,fun e he=>by omega,h1⟩
  | succ n ih =>
   rintro ⟨d,h0,h1,h2⟩
   by_cases h:∃ d',d'≤n∧S[(p+d') % S.length]?=some none∧d' < S.length
   · exact ih h
   · refine ⟨d,h2,fun e he=>?_,h1⟩
     have hlt:(p+e) % S.length < S.length:=Nat.mod_lt _ (by omega)
     cases hv:S[(p+e) % S.length] with
     | none=>exact absurd ⟨e,by omega,by rw [List.getElem?_eq_getElem hlt,hv],by omega⟩ h
     | some k' =>
      refine ⟨k',by rw [List.getElem?_eq_getElem hlt,hv],fun hkk=>hk ?_⟩
      subst hkk
      rw [← hv]
      exact List.getElem_mem hlt
 obtain ⟨d,h1,h2⟩:=hex
 exact hmin d ⟨d,Nat.le_refl _,h1,h2⟩
theorem kin_put {st:Int→Nat} {S:List (Option Int)} {K:List Int} {k:Int} {d:Nat} (h:KIn st S K) (hk:k ∉ K) (hd:d < S.length) (hf:KFr S k (st k) d) :
 KIn st (S.set ((st k+d) % S.length) (some k)) (K++[k]):=by
 have hlen:(S.set ((st k+d) % S.length) (some k)).length=S.length:=List.length_set ..
 have hlt:(st k+d) % S.length < S.length:=Nat.mod_lt _ (by omega)
 have hold:∀ (i:Nat) (k':Int),S[i]?=some (some k')→(S.set ((st k+d) % S.length) (some k))[i]?=some (some k'):=by
  intro i k' hi
  rw [List.getElem?_set]
  split
  · rename_i q
    rw [← q,hf.2] at hi
    simp at hi
  · exact hi
 have hnew:(S.set ((st k+d) % S.length) (some k))[(st k+d) % S.length]?=some (some k):=by
  rw [List.getElem?_set_self hlt]
 have hcn:(S.set ((st k+d) % S.length) (some k)).count none+(K++[k]).length=(S.set ((st k+d) % S.length) (some k)).length:=by
  have h1:=h.cn
  have h2:S[(st k+d) % S.length]=none:=by
   have:=hf.2
   rw [List.getElem?_eq_getElem hlt] at this
   simpa using this
  have h3:0 < S.count none:=List.count_pos_iff.2 (by rw [← h2];exact List.getElem_mem hlt)
  rw [hlen,List.count_set hlt,h2,List.length_append]
  simp
  omega
 refine ⟨?_,?_,?_,hcn⟩
 · rw [List.nodup_append]
   refine ⟨h.nd,by simp,fun a ha b hb=>?_⟩
   simp only [List.mem_singleton] at hb
   subst hb
   intro hab
   subst hab
   exact hk ha
 · intro k'
   rw [List.mem_append,List.mem_singleton]
   constructor
   · intro hm
     rcases List.mem_or_eq_of_mem_set hm with q | q
     · exact .inl ((h.mem k').1 q)
     · simp only [Option.some.injEq] at q
       exact .inr q
   · rintro (q | rfl)
     · obtain ⟨i,hi⟩:=List.mem_iff_getElem?.1 ((h.mem k').2 q)
       exact List.mem_of_getElem? (hold i k' hi)
     · exact List.mem_of_getElem? hnew
 · intro k' hk'
   rw [hlen]
   rcases List.mem_append.1 hk' with q | q
   · obtain ⟨d',h1,h2,h3⟩:=h.at_ k' q
     refine ⟨d',h1,fun e he=>?_,?_⟩
     · obtain ⟨k2,h4,h5⟩:=h2 e he
       rw [hlen]
       exact ⟨k2,hold _ _ h4,h5⟩
     · rw [hlen]
       exact hold _ _ h3
   · simp only [List.mem_singleton] at q
     subst q
     refine ⟨d,hd,fun e he=>?_,?_⟩
     · obtain ⟨k2,h4,h5⟩:=hf.1 e he
       rw [hlen]
       exact ⟨k2,hold _ _ h4,h5⟩
     · rw [hlen]
       exact hnew
theorem KIn.room {st:Int→Nat} {S:List (Option Int)} {K:List Int} (h:KIn st S K) (hl:K.length < S.length):none ∈ S:=List.count_pos_iff.1 (by have:=h.cn;omega)
theorem kin_nil (st:Int→Nat) (n:Nat):KIn st (List.replicate n none) []:=by
 refine ⟨List.nodup_nil,fun k=>by simp [List.mem_replicate],by simp,by simp⟩
def kys:List (Option Int)→List Int
 | []=>[]
 | some k::r=>k::kys r
 | none::r=>kys r
end Go.D
end
section
namespace Go.O
open Go Go.Pav Go.Pw P Go.D
attribute [-simp] List.getElem_cons_drop
variable {C:WProg}
structure HasKm (C:WProg):Prop extends HasY C where
 f367:C.fns.get 367=some w367
 f1191:C.fns.get 1191=some w191
 f1102:C.fns.get 1102=some w102
 f1100:C.fns.get 1100=some w1100
 f99:C.fns.get 99=some P.w99
 f192:C.fns.get 192=some P.w192
theorem wU64r (x:Int):0≤IntKind.u64.wrap x∧IntKind.u64.wrap x < 18446744073709551616:=by
 show 0≤(if (false&&decide (x % 18446744073709551616 ≥ 9223372036854775808))=true then x % 18446744073709551616 - 18446744073709551616 else x % 18446744073709551616)∧(if (false&&decide (x % 18446744073709551616 ≥ 9223372036854775808))=true then x % 18446744073709551616 - 18446744073709551616 else x % 18446744073709551616) < 18446744073709551616
 simp only [Bool.false_and,Bool.false_eq_true,if_false]
 omega
theorem mix_ex (H:HasKm C) (k:Int):∃ h:Int,FnW C 367 [.int .u64 k]=some (.int .u64 h)∧0≤h∧h < 18446744073709551616:=by
 rw [fnW_eq H.f367 rfl]
 simp (disch:=omega) [w367,H.inl,inlB,H.pp,ppB]
 exact wU64r _
noncomputable def mixK (C:WProg) (k:Int):Nat:=match FnW C 367 [.int .u64 k] with
 | some (.int _ h)=>h.toNat
 | _=>0
theorem mix_ok (H:HasKm C) (k:Int):FnW C 367 [.int .u64 k]=some (.int .u64 (mixK C k))∧(mixK C k:Int) < 18446744073709551616:=by
 obtain ⟨h,h1,h2,h3⟩:=mix_ex H k
 have e:mixK C k=h.toNat:=by unfold mixK;rw [h1]
 rw [e,h1]
 refine ⟨?_,by omega⟩
 rw [show ((h.toNat:Nat):Int)=h by omega]
def eSo (V:Int→Int):Option Int→List AV
 | none=>[.int .u8 0,.int .u64 0,.int .i64 0]
 | some k=>[.int .u8 1,.int .u64 k,.int .i64 (V k)]
@[simp] theorem eSo_n (V:Int→Int):eSo V none=[.int .u8 0,.int .u64 0,.int .i64 0]:=rfl
@[simp] theorem eSo_s (V:Int→Int) (k:Int):eSo V (some k)=[.int .u8 1,.int .u64 k,.int .i64 (V k)]:=rfl
abbrev aM (V:Int→Int) (S:List (Option Int)) (f:Bool) (c:Int):AV:=.rop [.ro 3 (S.map (eSo V)) f,.int .i64 c,.int .i64 0]
theorem kat_next {S:List (Option Int)} {k:Int} {q d:Nat} (h:KAt S k q (d+1)):KAt S k ((q+1) % S.length) d:=by
 refine ⟨fun e he=>?_,?_⟩
 · have:=h.1 (e+1) (by omega)
   rwa [show q+(e+1)=q+1+e by omega,← Nat.mod_add_mod] at this
 · have:=h.2
   rwa [show q+(d+1)=q+1+d by omega,← Nat.mod_add_mod] at this
theorem kfr_next {S:List (Option Int)} {k:Int} {q d:Nat} (h:KFr S k q (d+1)):KFr S k ((q+1) % S.length) d:=by
 refine ⟨fun e he=>?_,?_⟩
 · have:=h.1 (e+1) (by omega)
   rwa [show q+(e+1)=q+1+e by omega,← Nat.mod_add_mod] at this
 · have:=h.2
   rwa [show q+(d+1)=q+1+d by omega,← Nat.mod_add_mod] at this
theorem look_loop (H:HasKm C) (V:Int→Int) (S:List (Option Int)) (f:Bool) (c:Int) (hS:S.length≤1000000) (k:Int):∀ d q r,q < S.length→r=(q+d) % S.length→∀ b:Bool,(b=true→KAt S k q d)→(b=false→KFr S k q d) →
 w191_K0 C ⟨[(6,.int .i64 (-1)),(4,.int .i64 q),(1,.int .u64 k),(0,aM V S f c)],[],0⟩=some (.tup [.int .i64 r,.bool b]):=by
 intro d
 induction d with
 | zero =>
  intro q r hlt hr b hb1 hb2
  rw [Nat.add_zero,Nat.mod_eq_of_lt hlt] at hr
  subst hr
  simp only [w191_K0];rw [ck_unf w191_B0.eq_1]
  cases b
  · have h2:=(hb2 rfl).2
    rw [Nat.add_zero,Nat.mod_eq_of_lt hlt,List.getElem?_eq_getElem hlt] at h2
    simp only [Option.some.injEq] at h2
    simp (disch:=omega) [h2,hlt,aM,wI64,H.inl,inlB,H.pp,ppB]
  · have h2:=(hb1 rfl).2
    rw [Nat.add_zero,Nat.mod_eq_of_lt hlt,List.getElem?_eq_getElem hlt] at h2
    simp only [Option.some.injEq] at h2
    simp (disch:=omega) [h2,hlt,aM,wI64,H.inl,inlB,H.pp,ppB]
 | succ d ih =>
  intro q r hlt hr b hb1 hb2
  have h0:0 < S.length:=by omega
  have hq2:(q+1) % S.length < S.length:=Nat.mod_lt _ h0
  have hr2:r=((q+1) % S.length+d) % S.length:=by rw [hr,Nat.mod_add_mod];congr 1;omega
  have this:=ih ((q+1) % S.length) r hq2 hr2 b (fun h=>kat_next (hb1 h)) (fun h=>kfr_next (hb2 h))
  have hk:∃ k',S[q]=some k'∧k'≠k:=by
   have:∃ k',S[(q+0) % S.length]?=some (some k')∧k'≠k:=by
    cases b
    · exact (hb2 rfl).1 0 (by omega)
    · exact (hb1 rfl).1 0 (by omega)
   rw [Nat.add_zero,Nat.mod_eq_of_lt hlt,List.getElem?_eq_getElem hlt] at this
   simpa using this
  obtain ⟨k',h1,h2⟩:=hk
  have hrem:((q:Int)+1).tmod S.length=(((q+1) % S.length:Nat):Int):=by
   rw [Int.tmod_eq_emod_of_nonneg (by omega)];push_cast;rfl
  have hne:¬ ((S.length:Int)=0):=by omega
  have hSn:¬ S=[]:=by intro h;rw [h] at hlt;simp at hlt
  generalize (q+1) % S.length=q2 at *
  simp only [w191_K0] at this ⊢;rw [ck_unf w191_B0.eq_1]
  simp only [aM] at this
  simp (disch:=omega) [h1,h2,hlt,hrem,hne,hSn,aM,wI64,H.inl,inlB,H.pp,ppB,this]
theorem kat_mod {S:List (Option Int)} {k:Int} {p d:Nat} (h:KAt S k p d):KAt S k (p % S.length) d:=by
 refine ⟨fun e he=>?_,?_⟩
 · have:=h.1 e he
   rwa [← Nat.mod_add_mod] at this
 · have:=h.2
   rwa [← Nat.mod_add_mod] at this
theorem kfr_mod {S:List (Option Int)} {k:Int} {p d:Nat} (h:KFr S k p d):KFr S k (p % S.length) d:=by
 refine ⟨fun e he=>?_,?_⟩
 · have:=h.1 e he
   rwa [← Nat.mod_add_mod] at this
 · have:=h.2
   rwa [← Nat.mod_add_mod] at this
theorem look_ok (H:HasKm C) (V:Int→Int) (S:List (Option Int)) (f:Bool) (c:Int) (hS:S.length≤1000000) (h0:0 < S.length) (k:Int) (d:Nat) (b:Bool) (hb1:b=true→KAt S k (mixK C k) d) (hb2:b=false→KFr S k (mixK C k) d) :
 FnW C 1191 [aM V S f c,.int .u64 k]=some (.tup [.int .i64 ((mixK C k+d) % S.length:Nat),.bool b]):=by
 have hlt:mixK C k % S.length < S.length:=Nat.mod_lt _ h0
 have h:=look_loop H V S f c hS k d (mixK C k % S.length) ((mixK C k+d) % S.length) hlt (by rw [Nat.mod_add_mod]) b (fun h=>kat_mod (hb1 h)) (fun h=>kfr_mod (hb2 h))
 obtain ⟨hm,hmb⟩:=mix_ok H k
 have hrem:(mixK C k:Int).tmod S.length=((mixK C k % S.length:Nat):Int):=by
  rw [Int.tmod_eq_emod_of_nonneg (by omega)];push_cast;rfl
 have hne:¬ ((S.length:Int)=0):=by omega
 have hSn:¬ S=[]:=by intro h;rw [h] at h0;simp at h0
 rw [fnW_eq H.f1191 rfl]
 generalize (mixK C k+d) % S.length=r at *
 generalize mixK C k % S.length=q at *
 generalize mixK C k=M at *
 simp only [w191_K0,aM] at h
 simp (disch:=omega) [w191,hm,hrem,hne,hSn,h,aM,wI64,wU64,H.inl,inlB,H.pp,ppB]
theorem mlen_ok (H:HasKm C) (V:Int→Int) (S:List (Option Int)) (f:Bool) (c:Int):FnW C 1102 [aM V S f c]=some (.int .i64 c):=by
 rw [fnW_eq H.f1102 rfl]
 simp (disch:=omega) [w102,aM,wI64,H.inl,inlB,H.pp,ppB]
structure KMap (C:WProg) (S:List (Option Int)) (K:List Int):Prop where
 k:KIn (mixK C) S K
 l:S.length≤100000
 r:K=[]∧S=[]∨K.length < S.length
theorem get_ok (H:HasKm C) (V:Int→Int) (S:List (Option Int)) (K:List Int) (f:Bool) (h:KMap C S K) (k:Int):FnW C 1100 [aM V S f K.length,.int .u64 k]=some (.tup [.int .i64 (if k ∈ K then V k else 0),.bool (decide (k ∈ K))]):=by
 have hl:=mlen_ok H V S f K.length
 have hS:=h.l
 rw [fnW_eq H.f1100 rfl]
 by_cases c0:K=[]
 · subst c0
   simp only [aM] at hl
   simp at hl
   simp (disch:=omega) [w1100,hl,aM,wI64,H.inl,inlB,H.pp,ppB]
 · have hKl:0 < K.length:=List.length_pos_iff.2 c0
   have hlt:K.length < S.length:=by
    rcases h.r with ⟨q,_⟩ | q
    · exact absurd q c0
    · exact q
   by_cases ck:k ∈ K
   · obtain ⟨d,hd,hat⟩:=h.k.at_ k ck
     have hlk:=look_ok H V S f K.length (by omega) (by omega) k d true (fun _=>hat) (by simp)
     have hpos:=hat.2
     have hr:(mixK C k+d) % S.length < S.length:=Nat.mod_lt _ (by omega)
     rw [List.getElem?_eq_getElem hr] at hpos
     simp only [Option.some.injEq] at hpos
     rw [decide_eq_true ck,if_pos ck]
     generalize (mixK C k+d) % S.length=r at *
     simp only [aM] at hl hlk
     simp (disch:=omega) [w1100,hl,hlk,c0,hr,hpos,aM,wI64,H.inl,inlB,H.pp,ppB]
   · obtain ⟨d,hd,hfr⟩:=kfr_ex (fun q=>ck ((h.k.mem k).1 q)) (h.k.room hlt) (mixK C k)
     have hlk:=look_ok H V S f K.length (by omega) (by omega) k d false (by simp) (fun _=>hfr)
     rw [decide_eq_false ck,if_neg ck]
     generalize (mixK C k+d) % S.length=r at *
     simp only [aM] at hl hlk
     simp (disch:=omega) [w1100,hl,hlk,c0,aM,wI64,H.inl,inlB,H.pp,ppB]
theorem put_room (H:HasKm C) (V:Int→Int) (S:List (Option Int)) (K:List Int) (h:KMap C S K) (k:Int) (h0:¬ k=0) (hk:k ∉ K) (hK:K.length < 4096) (hr:4 * (K.length+1)≤3 * S.length) (X:List AV) :
 ∃ (S':List (Option Int)) (m:Nat),KMap C S' (K++[k])∧S'.length=S.length∧RnW C 99 [.ptr 0 0 0,.int .u64 k,.int .i64 (V k)] [(0,.cells 3 [[.sl 1 3 0 S.length S.length true,.int .i64 K.length,.int .i64 0]] true false),(1,.cells 3 (S.map (eSo V)) true true),(2,.cells 2 [X] true true)] 16 =
  some (.int .i64 0,[(0,.cells 3 [[.sl 1 3 0 S.length S.length true,.int .i64 (K.length+1:Nat),.int .i64 0]] true false),(1,.cells 3 (S'.map (eSo V)) true true),(2,.cells 2 [X] true true)],m):=by
 have hS:=h.l
 have hlt:K.length < S.length:=by omega
 obtain ⟨d,hd,hfr⟩:=kfr_ex (fun q=>hk ((h.k.mem k).1 q)) (h.k.room hlt) (mixK C k)
 have hlk:=fun f c=>look_ok H V S f c (by omega) (by omega) k d false (by simp) (fun _=>hfr)
 have hput:=kin_put h.k hk hd hfr
 have hpos:=hfr.2
 have hrr:(mixK C k+d) % S.length < S.length:=Nat.mod_lt _ (by omega)
 rw [List.getElem?_eq_getElem hrr] at hpos
 simp only [Option.some.injEq] at hpos
 generalize (mixK C k+d) % S.length=r at *
 have hT:List.take S.length (List.map (eSo V) S)=List.map (eSo V) S:=List.take_of_length_le (by simp)
 refine ⟨S.set r (some k),?_⟩
 have hKM:KMap C (S.set r (some k)) (K++[k]):=⟨hput,by simpa using h.l,.inr (by simp;omega)⟩
 have hne:¬ ((K.length:Int)=4096):=by omega
 have hw:¬ (3 * (S.length:Int) < 4 * ((K.length:Int)+1)):=by omega
 have hSn:0 < S.length:=by omega
 have hrun:∃ m,RnW C 99 [.ptr 0 0 0,.int .u64 k,.int .i64 (V k)] [(0,.cells 3 [[.sl 1 3 0 S.length S.length true,.int .i64 K.length,.int .i64 0]] true false),(1,.cells 3 (S.map (eSo V)) true true),(2,.cells 2 [X] true true)] 16 =
  some (.int .i64 0,[(0,.cells 3 [[.sl 1 3 0 S.length S.length true,.int .i64 (K.length+1:Nat),.int .i64 0]] true false),(1,.cells 3 ((S.set r (some k)).map (eSo V)) true true),(2,.cells 2 [X] true true)],m):=by
  rw [rnW_eq H.f99 rfl]
  simp only [aM] at hlk
  simp at hlk
  simp (disch:=omega) [P.w99,hT,hlk,h0,hne,hw,hSn,hrr,hpos,wI64,H.inl,inlB,H.pp,ppB]
 obtain ⟨m,hrun⟩:=hrun
 exact ⟨m,hKM,by simp,hrun⟩
def wsz:Nat→Nat→Nat→Nat
 | 0,s,_=>s
 | f+1,s,n=>if s < 2 * n then wsz f (s * 2) n else s
theorem wsz_le:∀ (f s n:Nat),s≤4096 * 4→n≤4096→wsz f s n≤4096 * 4
 | 0,s,n,h,_=>h
 | f+1,s,n,h,hn=>by
  rw [wsz]
  split
  · exact wsz_le f (s * 2) n (by omega) hn
  · exact h
theorem wsz_ge:∀ (f s n:Nat),0 < s→2 * n≤s * 2 ^ f→2 * n≤wsz f s n
 | 0,s,n,h0,h=>by simpa [wsz] using h
 | f+1,s,n,h0,h=>by
  rw [wsz]
  split
  · exact wsz_ge f (s * 2) n (by omega) (by rw [Nat.pow_succ,Nat.mul_comm _ 2] at h;rw [Nat.mul_assoc];exact h)
  · omega
theorem size_loop (H:HasKm C) (V:Int→Int) (need:Nat) (hn:need≤4096) (S:List (Option Int)) (c:Int) (X:List AV):∀ f s,s≤4096 * 4→2 * need≤s * 2 ^ f→∀ R,
 (CK C 41 (fnEndW []) [] P.w192_c0 ⟨[(4,.int .i64 (wsz f s need)),(0,.ptr 0 0 0)],[(0,.cells 3 [[.sl 1 3 0 S.length S.length true,.int .i64 c,.int .i64 0]] true false),(1,.cells 3 (S.map (eSo V)) true true),(2,.cells 2 [X] true true)],41⟩=R) →
 CK C 41 (fnEndW []) [.sq P.w192_L1,.bk 0 ⟨true,[4,0],[]⟩,.sq P.w192_c0] P.w192_B1 ⟨[(4,.int .i64 s),(1,.int .i64 need),(0,.ptr 0 0 0)],[(0,.cells 3 [[.sl 1 3 0 S.length S.length true,.int .i64 c,.int .i64 0]] true false),(1,.cells 3 (S.map (eSo V)) true true),(2,.cells 2 [X] true true)],41⟩=R:=by
 intro f
 induction f with
 | zero =>
  intro s hs hp R hR
  rw [wsz] at hR
  have h1:¬ ((s:Int) < 2 * need):=by omega
  rw [ck_unf P.w192_B1.eq_1]
  simp (disch:=omega) [h1,hR,wI64,H.inl,inlB,H.pp,ppB]
 | succ f ih =>
  intro s hs hp R hR
  rw [ck_unf P.w192_B1.eq_1]
  by_cases h1:s < 2 * need
  · have h1':(s:Int) < 2 * need:=by omega
    have:=ih (s * 2) (by omega) (by rw [Nat.pow_succ,Nat.mul_comm _ 2] at hp;rw [Nat.mul_assoc];exact hp) R (by rw [wsz,if_pos h1] at hR;exact hR)
    simp at this
    simp (disch:=omega) [h1',this,wI64,H.inl,inlB,H.pp,ppB]
  · have h1':¬ ((s:Int) < 2 * need):=by omega
    rw [wsz,if_neg h1] at hR
    simp (disch:=omega) [h1',hR,wI64,H.inl,inlB,H.pp,ppB]
theorem kys_app:∀ a b:List (Option Int),kys (a++b)=kys a++kys b
 | [],b=>rfl
 | some k::r,b=>by rw [List.cons_append,kys,kys,kys_app r b];rfl
 | none::r,b=>by rw [List.cons_append,kys,kys,kys_app r b]
theorem rehash_loop (H:HasKm C) (V:Int→Int) (S:List (Option Int)) (hS:S.length≤100000) (hnd:(kys S).Nodup) (M:Nat) (hM:M≤100000) (hroom:(kys S).length < M) (c:Int) (X:List AV):∀ n i,n+i=S.length→∀ S2:List (Option Int),S2.length=M→KIn (mixK C) S2 (kys (S.take i)) →
 ∃ (S3:List (Option Int)) (m:Nat),S3.length=M∧KIn (mixK C) S3 (kys S) ∧
 CK C 41 (fnEndW []) [.sq P.w192_L0,.bk 2 ⟨true,[],[]⟩] P.w192_B0 ⟨[(30,.int .i64 i),(29,.int .i64 S.length),(28,.sl 1 3 0 S.length S.length true),(0,.ptr 0 0 0)],
  [(0,.cells 3 [[.sl 41 3 0 M M true,.int .i64 c,.int .i64 0]] true false),(1,.cells 3 (S.map (eSo V)) true true),(2,.cells 2 [X] true true),(41,.cells 3 (S2.map (eSo V)) true true)],42⟩ =
  some (.tup [],[(0,.cells 3 [[.sl 41 3 0 M M true,.int .i64 c,.int .i64 0]] true false),(1,.cells 3 (S.map (eSo V)) true true),(2,.cells 2 [X] true true),(41,.cells 3 (S3.map (eSo V)) true true)],m):=by
 intro n
 induction n with
 | zero =>
  intro i hi S2 hl hK
  have hT:S.take i=S:=List.take_of_length_le (by omega)
  have h3:¬ i < S.length:=by omega
  rw [hT] at hK
  have hrun:∃ m,CK C 41 (fnEndW []) [.sq P.w192_L0,.bk 2 ⟨true,[],[]⟩] P.w192_B0 ⟨[(30,.int .i64 i),(29,.int .i64 S.length),(28,.sl 1 3 0 S.length S.length true),(0,.ptr 0 0 0)],
   [(0,.cells 3 [[.sl 41 3 0 M M true,.int .i64 c,.int .i64 0]] true false),(1,.cells 3 (S.map (eSo V)) true true),(2,.cells 2 [X] true true),(41,.cells 3 (S2.map (eSo V)) true true)],42⟩ =
   some (.tup [],[(0,.cells 3 [[.sl 41 3 0 M M true,.int .i64 c,.int .i64 0]] true false),(1,.cells 3 (S.map (eSo V)) true true),(2,.cells 2 [X] true true),(41,.cells 3 (S2.map (eSo V)) true true)],m):=by
   rw [ck_unf P.w192_B0.eq_1]
   simp (disch:=omega) [h3,wI64,H.inl,inlB,H.pp,ppB]
  obtain ⟨m,hrun⟩:=hrun
  exact ⟨S2,m,hl,hK,hrun⟩
 | succ n ih =>
  intro i hi S2 hl hK
  have p1:i < S.length:=by omega
  have hft:S.take (i+1)=S.take i++[S[i]]:=List.take_succ_eq_append_getElem p1
  have conv:∀ (x y:Option (AV × WHeap × Nat)),x=y→(∃ (S3:List (Option Int)) (m:Nat),S3.length=M∧KIn (mixK C) S3 (kys S)∧y=some (.tup [],[(0,.cells 3 [[.sl 41 3 0 M M true,.int .i64 c,.int .i64 0]] true false),(1,.cells 3 (S.map (eSo V)) true true),(2,.cells 2 [X] true true),(41,.cells 3 (S3.map (eSo V)) true true)],m)) →
   ∃ (S3:List (Option Int)) (m:Nat),S3.length=M∧KIn (mixK C) S3 (kys S)∧x=some (.tup [],[(0,.cells 3 [[.sl 41 3 0 M M true,.int .i64 c,.int .i64 0]] true false),(1,.cells 3 (S.map (eSo V)) true true),(2,.cells 2 [X] true true),(41,.cells 3 (S3.map (eSo V)) true true)],m):=by
   intro x y h;subst h;exact id
  cases hv:S[i] with
  | none =>
   have this:=ih (i+1) (by omega) S2 hl (by rw [hft,kys_app,hv];simpa [kys] using hK)
   refine conv _ _ ?_ this
   rw [ck_unf P.w192_B0.eq_1]
   simp (disch:=omega) [p1,hv,wI64,H.inl,inlB,H.pp,ppB]
  | some k =>
   have hsp:kys S=kys (S.take i)++(k::kys (S.drop (i+1))):=by
    have:S=S.take i++(S[i]::S.drop (i+1)):=by rw [← List.drop_eq_getElem_cons p1,List.take_append_drop]
    rw [hv] at this
    calc kys S=kys (S.take i++(some k::S.drop (i+1))):=by rw [← this]
     _=_:=by rw [kys_app];rfl
   have hk:k ∉ kys (S.take i):=by
    rw [hsp,List.nodup_append] at hnd
    intro q
    exact hnd.2.2 k q k (by simp) rfl
   have hle:(kys (S.take i)).length < M:=by
    have:=congrArg List.length hsp
    simp at this
    omega
   obtain ⟨d,hd,hfr⟩:=kfr_ex (fun q=>hk ((hK.mem k).1 q)) (hK.room (by omega)) (mixK C k)
   have hlk:=fun f=>look_ok H V S2 f c (by omega) (by omega) k d false (by simp) (fun _=>hfr)
   have hput:=kin_put hK hk hd hfr
   have hrr:(mixK C k+d) % S2.length < S2.length:=Nat.mod_lt _ (by omega)
   have hpos:=hfr.2
   rw [List.getElem?_eq_getElem hrr] at hpos
   simp only [Option.some.injEq] at hpos
   generalize (mixK C k+d) % S2.length=r at *
   have this:=ih (i+1) (by omega) (S2.set r (some k)) (by simpa using hl) (by rw [hft,kys_app,hv];exact hput)
   refine conv _ _ ?_ this
   have hT:List.take M (List.map (eSo V) S2)=List.map (eSo V) S2:=List.take_of_length_le (by simp;omega)
   have hr2:r < M:=by omega
   rw [ck_unf P.w192_B0.eq_1]
   simp only [aM] at hlk
   simp at hlk
   simp (disch:=omega) [p1,hv,hT,hl,hlk,hr2,hpos,wI64,H.inl,inlB,H.pp,ppB]
theorem widen_ok (H:HasKm C) (V:Int→Int) (S:List (Option Int)) (hS:S.length≤100000) (hnd:(kys S).Nodup) (need:Nat) (hn:need≤4096) (hk:(kys S).length < need) (c:Int) (X:List AV) :
 ∃ (S3:List (Option Int)) (m:Nat),S3.length=wsz 20 8 need∧KIn (mixK C) S3 (kys S) ∧
  RnW C 192 [.ptr 0 0 0,.int .i64 need] [(0,.cells 3 [[.sl 1 3 0 S.length S.length true,.int .i64 c,.int .i64 0]] true false),(1,.cells 3 (S.map (eSo V)) true true),(2,.cells 2 [X] true true)] 41 =
   some (.tup [],[(0,.cells 3 [[.sl 41 3 0 (wsz 20 8 need) (wsz 20 8 need) true,.int .i64 c,.int .i64 0]] true false),(1,.cells 3 (S.map (eSo V)) true true),(2,.cells 2 [X] true true),(41,.cells 3 (S3.map (eSo V)) true true)],m):=by
 have hw1:=wsz_le 20 8 need (by omega) hn
 have hw2:=wsz_ge 20 8 need (by omega) (by omega)
 obtain ⟨S3,m,h1,h2,h3⟩:=rehash_loop H V S hS hnd (wsz 20 8 need) (by omega) (by omega) c X S.length 0 rfl (List.replicate (wsz 20 8 need) none) (by simp) (kin_nil _ _)
 have hc0:CK C 41 (fnEndW []) [] P.w192_c0 ⟨[(4,.int .i64 (wsz 20 8 need)),(0,.ptr 0 0 0)],[(0,.cells 3 [[.sl 1 3 0 S.length S.length true,.int .i64 c,.int .i64 0]] true false),(1,.cells 3 (S.map (eSo V)) true true),(2,.cells 2 [X] true true)],41⟩ =
  some (.tup [],[(0,.cells 3 [[.sl 41 3 0 (wsz 20 8 need) (wsz 20 8 need) true,.int .i64 c,.int .i64 0]] true false),(1,.cells 3 (S.map (eSo V)) true true),(2,.cells 2 [X] true true),(41,.cells 3 (S3.map (eSo V)) true true)],m):=by
  have hmk:wsz 20 8 need * 25≤35184372088832:=by omega
  generalize wsz 20 8 need=M at *
  rw [ck_unf P.w192_c0.eq_1]
  simp at h3
  simp (disch:=omega) [hmk,h3,wI64,H.inl,inlB,H.pp,ppB]
 have hs:=size_loop H V need hn S c X 20 8 (by omega) (by omega) _ hc0
 refine ⟨S3,m,h1,h2,?_⟩
 rw [rnW_eq H.f192 rfl]
 simp at hs
 simp (disch:=omega) [P.w192,hs,wI64,H.inl,inlB,H.pp,ppB]
theorem kys_mem:∀ (S:List (Option Int)) (k:Int),k ∈ kys S↔some k ∈ S
 | [],k=>by simp [kys]
 | some a::r,k=>by rw [kys,List.mem_cons,List.mem_cons,kys_mem r k];simp
 | none::r,k=>by rw [kys,List.mem_cons,kys_mem r k];simp
theorem kys_cnt:∀ (S:List (Option Int)),S.count none+(kys S).length=S.length
 | []=>rfl
 | some a::r=>by
  have:=kys_cnt r
  rw [kys,List.count_cons,List.length_cons,List.length_cons]
  simp
  omega
 | none::r=>by
  have:=kys_cnt r
  rw [kys,List.count_cons,List.length_cons]
  simp
  omega
theorem kin_kys {st:Int→Nat} {S S3:List (Option Int)} {K:List Int} (h:KIn st S K) (h3:KIn st S3 (kys S)):KIn st S3 K:=by
 have e:∀ k,k ∈ kys S↔k ∈ K:=fun k=>(kys_mem S k).trans (h.mem k)
 have hl:(kys S).length=K.length:=by have:=h.cn;have:=kys_cnt S;omega
 exact ⟨h.nd,fun k=>(h3.mem k).trans (e k),fun k hk=>h3.at_ k ((e k).2 hk),by have:=h3.cn;omega⟩
theorem nd_of_len:∀ (K L:List Int),K.Nodup→(∀ k ∈ K,k ∈ L)→L.length=K.length→L.Nodup
 | [],L,_,_,h=>by rw [List.eq_nil_of_length_eq_zero h];exact List.nodup_nil
 | a::K,L,hn,hs,hl=>by
  have ha:=hs a (by simp)
  have hp:L.Perm (a::L.erase a):=List.perm_cons_erase ha
  rw [List.nodup_cons] at hn
  have hlen:(L.erase a).length=K.length:=by have:=hp.length_eq;simp at this hl;omega
  have hn2:=nd_of_len K (L.erase a) hn.2 (fun k hk=>by
   have hne:k≠a:=fun q=>hn.1 (q ▸ hk)
   exact (List.mem_erase_of_ne hne).2 (hs k (List.mem_cons_of_mem _ hk))) hlen
  refine hp.nodup_iff.2 (List.nodup_cons.2 ⟨fun q=>?_,hn2⟩)
  have h3:∀ k ∈ a::K,k ∈ L.erase a:=fun k hk=>by
   rcases List.mem_cons.1 hk with rfl | hk
   · exact q
   · have hne:k≠a:=fun q=>hn.1 (q ▸ hk)
     exact (List.mem_erase_of_ne hne).2 (hs k (List.mem_cons_of_mem _ hk))
  have h4:(a::K).length≤(L.erase a).length:=by
   have hsub:∀ (A B:List Int),A.Nodup→(∀ k ∈ A,k ∈ B)→A.length≤B.length:=by
    intro A
    induction A with
    | nil=>intro B _ _;simp
    | cons x A ih =>
     intro B hA hB
     rw [List.nodup_cons] at hA
     have hx:=hB x (by simp)
     have:=ih (B.erase x) hA.2 (fun k hk=>by
      have hne:k≠x:=fun q=>hA.1 (q ▸ hk)
      exact (List.mem_erase_of_ne hne).2 (hB k (List.mem_cons_of_mem _ hk)))
     have h5:=(List.perm_cons_erase hx).length_eq
     simp at h5 ⊢
     omega
   exact hsub _ _ (List.nodup_cons.2 hn) h3
  simp at h4
  omega
theorem kin_nd {st:Int→Nat} {S:List (Option Int)} {K:List Int} (h:KIn st S K):(kys S).Nodup :=
 nd_of_len K (kys S) h.nd (fun k hk=>(kys_mem S k).2 ((h.mem k).2 hk)) (by have:=h.cn;have:=kys_cnt S;omega)
theorem kin_kl {st:Int→Nat} {S:List (Option Int)} {K:List Int} (h:KIn st S K):(kys S).length=K.length:=by have:=h.cn;have:=kys_cnt S;omega
theorem put_wide (H:HasKm C) (V:Int→Int) (S:List (Option Int)) (K:List Int) (h:KMap C S K) (k:Int) (h0:¬ k=0) (hk:k ∉ K) (hK:K.length < 4096) (hlt:K.length < S.length) (hr:3 * S.length < 4 * (K.length+1)) (X:List AV) :
 ∃ (S':List (Option Int)) (m:Nat),KMap C S' (K++[k])∧RnW C 99 [.ptr 0 0 0,.int .u64 k,.int .i64 (V k)] [(0,.cells 3 [[.sl 1 3 0 S.length S.length true,.int .i64 K.length,.int .i64 0]] true false),(1,.cells 3 (S.map (eSo V)) true true),(2,.cells 2 [X] true true)] 16 =
  some (.int .i64 0,[(0,.cells 3 [[.sl 16 3 0 S'.length S'.length true,.int .i64 (K.length+1:Nat),.int .i64 0]] true false),(1,.cells 3 (S.map (eSo V)) true true),(2,.cells 2 [X] true true),(16,.cells 3 (S'.map (eSo V)) true true)],m):=by
 have hS:=h.l
 obtain ⟨d,hd,hfr⟩:=kfr_ex (fun q=>hk ((h.k.mem k).1 q)) (h.k.room hlt) (mixK C k)
 have hlk:=fun f c=>look_ok H V S f c (by omega) (by omega) k d false (by simp) (fun _=>hfr)
 have hSk:=kin_kl h.k
 obtain ⟨S3,m3,w1,w2,w3⟩:=widen_ok H V S (by omega) (kin_nd h.k) (K.length+1) (by omega) (by omega) K.length X
 have w2:=kin_kys h.k w2
 have hw1:=wsz_le 20 8 (K.length+1) (by omega) (by omega)
 have hw2:=wsz_ge 20 8 (K.length+1) (by omega) (by omega)
 rw [← w1] at w3 hw1 hw2
 obtain ⟨d3,hd3,hfr3⟩:=kfr_ex (fun q=>hk ((w2.mem k).1 q)) (w2.room (by omega)) (mixK C k)
 have hlk3:=fun f c=>look_ok H V S3 f c (by omega) (by omega) k d3 false (by simp) (fun _=>hfr3)
 have hput:=kin_put w2 hk hd3 hfr3
 have hpos:=hfr3.2
 have hrr:(mixK C k+d3) % S3.length < S3.length:=Nat.mod_lt _ (by omega)
 rw [List.getElem?_eq_getElem hrr] at hpos
 simp only [Option.some.injEq] at hpos
 generalize (mixK C k+d3) % S3.length=r3 at *
 have hKM:KMap C (S3.set r3 (some k)) (K++[k]):=⟨hput,by simp;omega,.inr (by simp;omega)⟩
 have hT3:List.take S3.length (List.map (eSo V) S3)=List.map (eSo V) S3:=List.take_of_length_le (by simp)
 refine ⟨S3.set r3 (some k),?_⟩
 have hrun:∃ m,RnW C 99 [.ptr 0 0 0,.int .u64 k,.int .i64 (V k)] [(0,.cells 3 [[.sl 1 3 0 S.length S.length true,.int .i64 K.length,.int .i64 0]] true false),(1,.cells 3 (S.map (eSo V)) true true),(2,.cells 2 [X] true true)] 16 =
  some (.int .i64 0,[(0,.cells 3 [[.sl 16 3 0 S3.length S3.length true,.int .i64 (K.length+1:Nat),.int .i64 0]] true false),(1,.cells 3 (S.map (eSo V)) true true),(2,.cells 2 [X] true true),(16,.cells 3 ((S3.set r3 (some k)).map (eSo V)) true true)],m):=by
  generalize (mixK C k+d) % S.length=r at *
  have hT:List.take S.length (List.map (eSo V) S)=List.map (eSo V) S:=List.take_of_length_le (by simp)
  have hne:¬ ((K.length:Int)=4096):=by omega
  have hw:(3 * (S.length:Int) < 4 * ((K.length:Int)+1)):=by omega
  have hSn:0 < S.length:=by omega
  rw [rnW_eq H.f99 rfl]
  simp only [aM] at hlk hlk3
  simp at hlk hlk3 w3
  simp (disch:=omega) [P.w99,hT,hT3,hlk,hlk3,w3,hrr,hpos,h0,hne,hw,hSn,wI64,H.inl,inlB,H.pp,ppB]
 obtain ⟨m,hrun⟩:=hrun
 exact ⟨m,hKM,by simpa using hrun⟩
abbrev k0:WObj:=.cells 3 [[.ro 3 [] true,.int .i64 0,.int .i64 0]] true true
theorem widen_first (H:HasKm C) (V:Int→Int) (X:List AV) :
 ∃ m,RnW C 192 [.ptr 0 0 0,.int .i64 1] [(0,k0),(1,.cells 2 [X] true true)] 40 =
  some (.tup [],[(0,.cells 3 [[.sl 40 3 0 8 8 true,.int .i64 0,.int .i64 0]] true false),(1,.cells 2 [X] true true),(40,.cells 3 ((List.replicate 8 none).map (eSo V)) true true)],m):=by
 rw [rnW_eq H.f192 rfl]
 simp (disch:=omega) [P.w192,ck_unf P.w192_B1.eq_1,ck_unf P.w192_c0.eq_1,ck_unf P.w192_B0.eq_1,wI64,H.inl,inlB,H.pp,ppB]
theorem put_first (H:HasKm C) (V:Int→Int) (k:Int) (h0:¬ k=0) (X:List AV) :
 ∃ (S':List (Option Int)) (m:Nat),KMap C S' [k]∧S'≠[]∧RnW C 99 [.ptr 0 0 0,.int .u64 k,.int .i64 (V k)] [(0,k0),(1,.cells 2 [X] true true)] 15 =
  some (.int .i64 0,[(0,.cells 3 [[.sl 15 3 0 S'.length S'.length true,.int .i64 1,.int .i64 0]] true false),(1,.cells 2 [X] true true),(15,.cells 3 (S'.map (eSo V)) true true)],m):=by
 obtain ⟨m3,w3⟩:=widen_first H V X
 have hk0:KIn (mixK C) (List.replicate 8 none) []:=kin_nil _ _
 obtain ⟨d3,hd3,hfr3⟩:=kfr_ex (k:=k) (fun q=>by simpa using (hk0.mem k).1 q) (hk0.room (by simp)) (mixK C k)
 have hlk3:=fun f c=>look_ok H V (List.replicate 8 none) f c (by simp) (by simp) k d3 false (by simp) (fun _=>hfr3)
 have hput:=kin_put hk0 (by simp) hd3 hfr3
 have hpos:=hfr3.2
 have hrr:(mixK C k+d3) % (List.replicate 8 (none:Option Int)).length < (List.replicate 8 (none:Option Int)).length:=Nat.mod_lt _ (by simp)
 rw [List.getElem?_eq_getElem hrr] at hpos
 simp only [Option.some.injEq] at hpos
 have hlen:(List.replicate 8 (none:Option Int)).length=8:=List.length_replicate
 generalize hS3:List.replicate 8 (none:Option Int)=S3 at *
 generalize (mixK C k+d3) % S3.length=r3 at *
 rw [hlen] at hrr
 have hT3:List.take 8 (List.map (eSo V) S3)=List.map (eSo V) S3:=List.take_of_length_le (by simp [hlen])
 refine ⟨S3.set r3 (some k),?_⟩
 have hrun:∃ m,RnW C 99 [.ptr 0 0 0,.int .u64 k,.int .i64 (V k)] [(0,k0),(1,.cells 2 [X] true true)] 15 =
  some (.int .i64 0,[(0,.cells 3 [[.sl 15 3 0 8 8 true,.int .i64 1,.int .i64 0]] true false),(1,.cells 2 [X] true true),(15,.cells 3 ((S3.set r3 (some k)).map (eSo V)) true true)],m):=by
  rw [rnW_eq H.f99 rfl]
  simp only [aM] at hlk3
  simp at hlk3 w3
  simp (disch:=omega) [P.w99,hT3,hlk3,w3,hrr,hpos,hlen,h0,wI64,H.inl,inlB,H.pp,ppB]
 obtain ⟨m,hrun⟩:=hrun
 refine ⟨m,⟨by simpa using hput,by simp [hlen],.inr (by simp [hlen])⟩,?_,by simpa [hlen] using hrun⟩
 intro q
 have:=congrArg List.length q
 simp [hlen] at this
end Go.O
end
section
namespace Go.O
open Go Go.Pav Go.Pw
def fnd (k0:Nat) (T:List (Nat × Nat)) (i:Nat):Option (Nat × Nat):=T.find? fun x=>x.1 == k0+i+1
def szAt (l:List (Nat × Bool)) (k0:Nat) (T:List (Nat × Nat)) (i:Nat):Int:=match fnd k0 T i with
 | some x=>x.2
 | none=>((l[i]?.getD (0,false)).1:Nat)
def szL (l:List (Nat × Bool)) (k0:Nat) (T:List (Nat × Nat)):List Int:=(List.range l.length).map (szAt l k0 T)
def knB (l:List (Nat × Bool)) (k0:Nat) (T:List (Nat × Nat)) (i:Nat):Bool:=(l[i]?.getD (0,false)).2||(fnd k0 T i).isSome
structure Jx (l:List (Nat × Bool)) (k0:Nat) (T:List (Nat × Nat)) (t:Tr) (K:List (Nat × Nat)):Prop where
 tl:t.toL=szL l k0 T
 v:SV 0 K
 b:∀ s ∈ K,s.2≤l.length
 m:∀ j,inS K j↔j < l.length∧knB l k0 T j=true
theorem fnd_nil (k0 i:Nat):fnd k0 [] i=none:=rfl
theorem szL_nil (l:List (Nat × Bool)) (k0:Nat):szL l k0 []=szs l:=by
 apply List.ext_getElem
 · simp [szL]
 · intro i h1 h2
   simp [szL] at h1
   simp [szL,szAt,fnd_nil,h1]
theorem Ix.jx {l:List (Nat × Bool)} {k0:Nat} {t:Tr} {K:List (Nat × Nat)} (h:Ix l l.length t K):Jx l k0 [] t K:=by
 refine ⟨by rw [h.tl,szL_nil,List.take_of_length_le (by simp)],h.v,h.b,fun j=>?_⟩
 rw [h.m]
 constructor
 · rintro ⟨a,r,b,c⟩
   exact ⟨a,by simp [knB,b,c]⟩
 · rintro ⟨a,b⟩
   refine ⟨a,l[j],List.getElem?_eq_getElem a,?_⟩
   simpa [knB,fnd_nil,List.getElem?_eq_getElem a] using b
theorem fnd_snoc (k0:Nat) (T:List (Nat × Nat)) (x:Nat × Nat) (i:Nat):fnd k0 (T++[x]) i=(fnd k0 T i).or (if x.1=k0+i+1 then some x else none):=by
 unfold fnd
 rw [List.find?_append]
 congr 1
 by_cases c:x.1=k0+i+1
 · simp [c]
 · simp [c]
theorem Jx.skip {l:List (Nat × Bool)} {k0:Nat} {T:List (Nat × Nat)} {t:Tr} {K:List (Nat × Nat)} (h:Jx l k0 T t K) (x:Nat × Nat) (hx:∀ i,i < l.length→x.1≠k0+i+1):Jx l k0 (T++[x]) t K:=by
 have hf:∀ i,i < l.length→fnd k0 (T++[x]) i=fnd k0 T i:=fun i hi=>by rw [fnd_snoc,if_neg (hx i hi),Option.or_none]
 refine ⟨?_,h.v,h.b,fun j=>?_⟩
 · rw [h.tl]
   apply List.ext_getElem
   · simp [szL]
   · intro i h1 h2
     simp [szL] at h1
     simp [szL,szAt,hf i h1]
 · rw [h.m]
   constructor
   · rintro ⟨a,b⟩;exact ⟨a,by rw [knB,hf j a];exact b⟩
   · rintro ⟨a,b⟩;exact ⟨a,by rw [knB,hf j a] at b;exact b⟩
theorem szL_set (l:List (Nat × Bool)) (k0:Nat) (T:List (Nat × Nat)) (x:Nat × Nat) (k:Nat) (hk:k < l.length) (hx:x.1=k0+k+1) (hn:x.1 ∉ T.map Prod.fst):szL l k0 (T++[x])=(szL l k0 T).set k x.2:=by
 apply List.ext_getElem
 · simp [szL]
 · intro i h1 h2
   simp [szL] at h1
   rw [List.getElem_set]
   simp only [szL,List.getElem_map,List.getElem_range,szAt,fnd_snoc]
   by_cases c:k=i
   · subst c
     have hf:fnd k0 T k=none:=by
      unfold fnd
      rw [List.find?_eq_none]
      intro y hy hyx
      refine hn (List.mem_map.2 ⟨y,hy,?_⟩)
      simp at hyx
      omega
     rw [if_pos rfl,hf,if_pos hx]
     rfl
   · rw [if_neg c,if_neg (by omega),Option.or_none]
theorem Jx.set {l:List (Nat × Bool)} {k0:Nat} {T:List (Nat × Nat)} {t:Tr} {K:List (Nat × Nat)} (h:Jx l k0 T t K) (x:Nat × Nat) (k:Nat) (hk:k < l.length) (hx:x.1=k0+k+1) (hn:x.1 ∉ T.map Prod.fst) {t':Tr} {K':List (Nat × Nat)}
 (h1:t'.toL=t.toL.set k x.2) (h2:SV 0 K') (h3:∀ s ∈ K',s.2≤l.length) (h4:∀ j,inS K' j↔inS K j∨j=k):Jx l k0 (T++[x]) t' K':=by
 refine ⟨by rw [h1,h.tl,szL_set l k0 T x k hk hx hn],h2,h3,fun j=>?_⟩
 rw [h4,h.m]
 have hf:fnd k0 T k=none:=by
  unfold fnd
  rw [List.find?_eq_none]
  intro y hy hyx
  refine hn (List.mem_map.2 ⟨y,hy,?_⟩)
  simp at hyx
  omega
 unfold knB
 rw [fnd_snoc]
 by_cases c:j=k
 · subst c
   rw [hf,if_pos hx]
   simp [hk]
 · rw [if_neg (by omega),Option.or_none]
   simp [c]
theorem sum_map_le {α:Type} (f g:α→Int):∀ L:List α,(∀ x ∈ L,f x≤g x)→(L.map f).sum≤(L.map g).sum
 | [],_=>by simp
 | a::r,h=>by
  have h1:=h a (by simp)
  have h2:=sum_map_le f g r (fun x hx=>h x (List.mem_cons_of_mem _ hx))
  rw [List.map_cons,List.map_cons,List.sum_cons,List.sum_cons]
  omega
theorem sum_add {α:Type} (f:α→Int) (c:Int):∀ L:List α,(L.map fun x=>f x+c).sum=(L.map f).sum+L.length * c
 | []=>by simp
 | a::r=>by
  have h2:=sum_add f c r
  rw [List.map_cons,List.map_cons,List.sum_cons,List.sum_cons,h2,List.length_cons]
  push_cast
  rw [Int.add_mul]
  omega
theorem fnd_mem {k0:Nat} {T:List (Nat × Nat)} {i:Nat} {x:Nat × Nat} (h:fnd k0 T i=some x):x ∈ T∧x.1=k0+i+1:=by
 unfold fnd at h
 exact ⟨List.mem_of_find?_eq_some h,by simpa using List.find?_some h⟩
theorem szL_lb {l:List (Nat × Bool)} (hl:Rws l) (k0:Nat) (T:List (Nat × Nat)) (hT:∀ x ∈ T,1≤x.2∧x.2≤40):LB (szL l k0 T):=by
 have e:szs l=(List.range l.length).map fun i=>(((l[i]?.getD (0,false)).1:Nat):Int):=by rw [← szL_nil l 0];rfl
 refine ⟨?_,?_,?_⟩
 · intro z hz
   obtain ⟨i,hi,rfl⟩:=List.mem_map.1 hz
   unfold szAt
   split <;> omega
 · have h1:=sum_map_le (szAt l k0 T) (fun i=>(((l[i]?.getD (0,false)).1:Nat):Int)+40) (List.range l.length) (fun i hi=>by
    unfold szAt
    split
    · rename_i x hx
      have:=hT x (fnd_mem hx).1
      omega
    · omega)
   rw [sum_add,← e,List.length_range] at h1
   have h2:=hl.su
   have h3:=hl.ln
   rw [szL]
   omega
 · have:=hl.ln
   simp [szL]
   omega
end Go.O
end
section
namespace Go.O
open Go Go.Pav Go.Pw P Go.D
attribute [-simp] List.getElem_cons_drop
attribute [-simp] splice fillC AV.cells AV.cell AV.isAg isC
variable {C:WProg}
structure HasLw (C:WProg):Prop extends HasKm C where
 f84:C.fns.get 84=some w84
 f2016:C.fns.get 2016=some w97
def ks (k0 i:Nat):List Int:=(List.range i).map fun j=>(k0:Int)+(j:Nat)+1
theorem ks_len (k0 i:Nat):(ks k0 i).length=i:=by simp [ks]
theorem ks_succ (k0 i:Nat):ks k0 (i+1)=ks k0 i++[(k0:Int)+i+1]:=by simp [ks,List.range_succ]
theorem ks_mem (k0 i:Nat) (k:Int):k ∈ ks k0 i↔∃ j,j < i∧k=k0+(j:Nat)+1:=by
 simp only [ks,List.mem_map,List.mem_range]
 constructor
 · rintro ⟨j,h1,rfl⟩;exact ⟨j,h1,rfl⟩
 · rintro ⟨j,h1,rfl⟩;exact ⟨j,h1,rfl⟩
def vl (k0:Nat) (k:Int):Int:=k - k0 - 1
theorem vl_at (k0 i:Nat):vl k0 ((k0:Int)+i+1)=i:=by unfold vl;omega
section
variable (M:List (Nat × Nat)) (l:List (Nat × Bool)) (k0:Nat) (t:Tr) (K:List (Nat × Nat))
abbrev lH (n:Nat) (S:List (Option Int)):WHeap:=[(0,.cells 3 [[.sl 1 3 0 S.length S.length true,.int .i64 n,.int .i64 0]] true false),(1,.cells 3 (S.map (eSo (vl k0))) true true),(2,.cells 2 [[t.c,.ro 2 (K.map eS) true]] true true)]
abbrev lS2 (i:Nat) (S:List (Option Int)):WSt:=⟨[(11,.int .i64 i),(10,.ptr 0 0 0),(9,.ro 2 (M.map eH) false),(8,.ro 2 (l.map eR) false),(7,.ptr 2 0 0),(2,.int .u8 k0)],lH k0 t K i S,3⟩
theorem put_step (H:HasLw C) (hk0:k0 < 256) (i:Nat) (hi:i < t.cnt) (hc:t.cnt≤60) (h1:1≤i) (S:List (Option Int)) (hS:KMap C S (ks k0 i)) (hne:S≠[]):∃ S',KMap C S' (ks k0 (i+1))∧S'≠[]∧w84_K2 C (lS2 M l k0 t K i S)=w84_K2 C (lS2 M l k0 t K (i+1) S'):=by
 have hl:=xlen_ok H.toHasX t K true
 have hlen:=ks_len k0 i
 have hnk:(k0:Int)+i+1 ∉ ks k0 i:=by
  rw [ks_mem]
  rintro ⟨j,h2,h3⟩
  omega
 have hlt:(ks k0 i).length < S.length:=by
  rcases hS.r with ⟨_,q⟩ | q
  · exact absurd q hne
  · exact q
 have hV:=vl_at k0 i
 by_cases hr:4 * ((ks k0 i).length+1)≤3 * S.length
 · obtain ⟨S',m,q1,q2,q3⟩:=put_room H.toHasKm (vl k0) S (ks k0 i) hS (k0+i+1) (by omega) hnk (by omega) hr [t.c,.ro 2 (K.map eS) true]
   refine ⟨S',by rw [ks_succ];exact q1,by intro q;rw [q] at q2;exact hne (List.length_eq_zero_iff.1 q2.symm),?_⟩
   obtain ⟨R,hR⟩:∃ R,w84_K2 C (lS2 M l k0 t K (i+1) S')=R:=⟨_,rfl⟩
   rw [hR]
   simp only [w84_K2,lS2,lH] at hR ⊢
   rw [ck_unf w84_B2.eq_1]
   rw [hV] at q3
   rw [hlen] at q3
   rw [q2] at hR
   simp at hR q3 hl
   simp (disch:=omega) [hl,hi,q3,hR,q2,wI64,wU64,wU8,H.toHasP.inl,inlB,H.toHasP.pp,ppB]
 · obtain ⟨S',m,q1,q3⟩:=put_wide H.toHasKm (vl k0) S (ks k0 i) hS (k0+i+1) (by omega) hnk (by omega) hlt (by omega) [t.c,.ro 2 (K.map eS) true]
   refine ⟨S',by rw [ks_succ];exact q1,?_,?_⟩
   · intro q
     rcases q1.r with ⟨q,_⟩ | q4
     · simp at q
     · rw [q] at q4;simp at q4
   obtain ⟨R,hR⟩:∃ R,w84_K2 C (lS2 M l k0 t K (i+1) S')=R:=⟨_,rfl⟩
   rw [hR]
   simp only [w84_K2,lS2,lH] at hR ⊢
   rw [ck_unf w84_B2.eq_1]
   rw [hV] at q3
   rw [hlen] at q3
   simp at hR q3 hl
   simp (disch:=omega) [hl,hi,q3,hR,wI64,wU64,wU8,H.toHasP.inl,inlB,H.toHasP.pp,ppB]
theorem put_start (H:HasLw C) (hk0:k0 < 256) (hi:0 < t.cnt) (hc:t.cnt≤60):∃ S',KMap C S' (ks k0 1)∧S'≠[] ∧
 w84_K2 C ⟨[(11,.int .i64 0),(10,.ptr 0 0 0),(9,.ro 2 (M.map eH) false),(8,.ro 2 (l.map eR) false),(7,.ptr 1 0 0),(2,.int .u8 k0)],[(0,O.k0),(1,.cells 2 [[t.c,.ro 2 (K.map eS) true]] true true)],2⟩=w84_K2 C (lS2 M l k0 t K 1 S'):=by
 have hl:=xlen_ok H.toHasX t K true
 obtain ⟨S',m,q1,q2,q3⟩:=put_first H.toHasKm (vl k0) (k0+1) (by omega) [t.c,.ro 2 (K.map eS) true]
 have hV:vl k0 ((k0:Int)+1)=0:=by unfold vl;omega
 refine ⟨S',by simpa [ks] using q1,q2,?_⟩
 obtain ⟨R,hR⟩:∃ R,w84_K2 C (lS2 M l k0 t K 1 S')=R:=⟨_,rfl⟩
 rw [hR]
 simp only [w84_K2,lS2,lH] at hR ⊢
 rw [ck_unf w84_B2.eq_1]
 rw [hV] at q3
 simp [O.k0] at hR q3 hl
 simp (disch:=omega) [hl,hi,q3,hR,O.k0,wI64,wU64,wU8,H.toHasP.inl,inlB,H.toHasP.pp,ppB]
abbrev lS1 (n:Nat) (j q:Nat) (S:List (Option Int)):WSt:=⟨[(13,.int .i64 j),(12,.int .i64 q),(10,.ptr 0 0 0),(9,.ro 2 (M.map eH) false),(8,.ro 2 (l.map eR) false),(7,.ptr 2 0 0),(2,.int .u8 k0)],lH k0 t K n S,3⟩
theorem put_end (H:HasLw C) (S:List (Option Int)):w84_K2 C (lS2 M l k0 t K t.cnt S)=w84_K1 C (lS1 M l k0 t K t.cnt 0 0 S):=by
 have hl:=xlen_ok H.toHasX t K true
 obtain ⟨R,hR⟩:∃ R,w84_K1 C (lS1 M l k0 t K t.cnt 0 0 S)=R:=⟨_,rfl⟩
 rw [hR]
 simp only [w84_K2,w84_K1,lS2,lS1,lH] at hR ⊢
 rw [ck_unf w84_B2.eq_1]
 simp at hR hl
 simp (disch:=omega) [hl,hR,ck_unf w84_c2.eq_1,wI64,wU64,wU8,H.toHasP.inl,inlB,H.toHasP.pp,ppB]
theorem put_loop (H:HasLw C) (hk0:k0 < 256) (hc:t.cnt≤60):∀ n i,n+i=t.cnt→1≤i→∀ S,KMap C S (ks k0 i)→S≠[]→∃ S',KMap C S' (ks k0 t.cnt)∧S'≠[]∧w84_K2 C (lS2 M l k0 t K i S)=w84_K1 C (lS1 M l k0 t K t.cnt 0 0 S'):=by
 intro n
 induction n with
 | zero =>
  intro i hi h1 S hS hne
  obtain rfl:i=t.cnt:=by omega
  exact ⟨S,hS,hne,put_end M l k0 t K H S⟩
 | succ n ih =>
  intro i hi h1 S hS hne
  obtain ⟨S1,a1,a2,a3⟩:=put_step M l k0 t K H hk0 i (by omega) hc h1 S hS hne
  obtain ⟨S2,b1,b2,b3⟩:=ih (i+1) (by omega) (by omega) S1 a1 a2
  exact ⟨S2,b1,b2,a3.trans b3⟩
end
theorem tab_step (H:HasLw C) (M:List (Nat × Nat)) (hM:Tb M) (l:List (Nat × Bool)) (hl:Rws l) (k0:Nat) (hk0:k0 < 256) (S:List (Option Int)) (hS:KMap C S (ks k0 l.length)) (hne:S≠[]) (j q:Nat) (hj:j < M.length) (hq:q≤j) (t:Tr) (K:List (Nat × Nat)) (hJ:Jx l k0 (M.take j) t K) :
 ∃ t' K' q',Jx l k0 (M.take (j+1)) t' K'∧q'≤j+1∧w84_K1 C (lS1 M l k0 t K l.length j q S)=w84_K1 C (lS1 M l k0 t' K' l.length (j+1) q' S):=by
 have hcnt:t.cnt=l.length:=by rw [t.cnt_eq,hJ.tl];simp [szL]
 have htk:M.take (j+1)=M.take j++[M[j]]:=List.take_succ_eq_append_getElem hj
 have hx:=hM.k _ (List.getElem_mem hj)
 have hs:=hM.s _ (List.getElem_mem hj)
 have hMl:=hM.ln
 have hll:=hl.ln
 have hg:=get_ok H.toHasKm (vl k0) S (ks k0 l.length) true hS (M[j].1:Nat)
 rw [ks_len] at hg
 have hT:List.take S.length (List.map (eSo (vl k0)) S)=List.map (eSo (vl k0)) S:=List.take_of_length_le (by simp)
 by_cases c:((M[j].1:Nat):Int) ∈ ks k0 l.length
 · obtain ⟨i,hi,he⟩:=(ks_mem _ _ _).1 c
   have hV:vl k0 (M[j].1:Nat)=i:=by rw [he];exact vl_at k0 i
   rw [if_pos c,hV,decide_eq_true c] at hg
   have hx1:M[j].1=k0+i+1:=by omega
   have hn:M[j].1 ∉ (M.take j).map Prod.fst:=by
    have hnd:=hM.nd
    have e:M=M.take j++M[j]::M.drop (j+1):=by rw [← List.drop_eq_getElem_cons hj,List.take_append_drop]
    rw [e,List.map_append,List.nodup_append] at hnd
    intro h
    exact hnd.2.2 _ h _ (by simp) rfl
   have hlb:=szL_lb hl k0 (M.take j) (fun x hx=>hM.s x (List.mem_of_mem_take hx))
   have hlb':=szL_lb hl k0 (M.take (j+1)) (fun x hx=>hM.s x (List.mem_of_mem_take hx))
   rw [htk,szL_set l k0 _ _ i hi hx1 hn,← hJ.tl] at hlb'
   rw [← hJ.tl] at hlb
   obtain ⟨t',R,r1,r2,r3,r4,r5⟩:=xset_ok H.toHasX t K true i (by omega) M[j].2 (by omega) (by omega) hlb hlb' (by omega) hJ.v (by rw [hcnt];exact hJ.b)
   rw [hcnt] at r4
   refine ⟨t',R,q+1,by rw [htk];exact hJ.set M[j] i hi hx1 hn r2 r3 r4 r5,by omega,?_⟩
   obtain ⟨Q,hQ⟩:∃ Q,w84_K1 C (lS1 M l k0 t' R l.length (j+1) (q+1) S)=Q:=⟨_,rfl⟩
   rw [hQ]
   simp only [w84_K1,lS1,lH] at hQ ⊢
   rw [ck_unf w84_B1.eq_1]
   simp only [aM] at hg
   simp at hQ hg r1
   simp (disch:=omega) [hj,hT,hg,r1,hQ,wI64,wU64,wU8,H.toHasP.inl,inlB,H.toHasP.pp,ppB]
 · rw [if_neg c,decide_eq_false c] at hg
   refine ⟨t,K,q,by rw [htk];exact hJ.skip M[j] (fun i hi he=>c ((ks_mem _ _ _).2 ⟨i,hi,by omega⟩)),by omega,?_⟩
   obtain ⟨Q,hQ⟩:∃ Q,w84_K1 C (lS1 M l k0 t K l.length (j+1) q S)=Q:=⟨_,rfl⟩
   rw [hQ]
   simp only [w84_K1,lS1,lH] at hQ ⊢
   rw [ck_unf w84_B1.eq_1]
   simp only [aM] at hg
   simp at hQ hg
   simp (disch:=omega) [hj,hT,hg,hQ,wI64,wU64,wU8,H.toHasP.inl,inlB,H.toHasP.pp,ppB]
end Go.O
end
section
namespace Go.O
open Go Go.Pav Go.Pw P Go.D
attribute [-simp] List.getElem_cons_drop
attribute [-simp] splice fillC AV.cells AV.cell AV.isAg isC
variable {C:WProg}
abbrev lS0 (M:List (Nat × Nat)) (l:List (Nat × Bool)) (k0:Nat) (t:Tr) (K:List (Nat × Nat)) (i:Nat):WSt:=⟨[(18,.int .i64 i),(9,.ro 2 (M.map eH) false),(8,.ro 2 (l.map eR) false),(7,.ptr 0 0 0),(2,.int .u8 k0)],[(0,.cells 2 [[t.c,.ro 2 (K.map eS) true]] true true)],1⟩
theorem any_eq {K:List (Nat × Nat)} {i:Nat} {b:Bool} (h:inS K i↔b=true):K.any (inB i)=b:=by
 rw [← inS_any] at h
 cases b
 · simpa using h
 · simpa using h
theorem chk_loop (H:HasLw C) (hlive:FnW C 106 []=some (.bool true)) (M:List (Nat × Nat)) (hM:Tb M) (l:List (Nat × Bool)) (hl:Rws l) (k0:Nat) (hk0:k0 < 256) (t:Tr) (K:List (Nat × Nat)) (hJ:Jx l k0 M t K):∀ n i,n+i=l.length→w84_K0 C (lS0 M l k0 t K i)=some (.bool true):=by
 have hcnt:t.cnt=l.length:=by rw [t.cnt_eq,hJ.tl];simp [szL]
 have hll:=hl.ln
 intro n
 induction n with
 | zero =>
  intro i hi
  have h3:¬ i < l.length:=by omega
  simp only [w84_K0,lS0];rw [ck_unf w84_B0.eq_1]
  simp (disch:=omega) [h3,hlive,ck_unf w84_c0.eq_1,wI64,H.toHasP.inl,inlB,H.toHasP.pp,ppB]
 | succ n ih =>
  intro i hi
  have h1:i < l.length:=by omega
  have this:=ih (i+1) (by omega)
  have hf:=tfind_ok H.toHasY M false hM.ln (k0+i+1)
  obtain ⟨s,p1,p2⟩:=xsize_ok H.toHasX t K true i (by omega) (by omega)
  have p3:s=szAt l k0 M i:=by
   rw [hJ.tl,szL,List.getElem?_map,List.getElem?_range h1] at p2
   simpa using p2.symm
  have hk:=xknown_ok H.toHasX t K true i (by omega) (by omega) hJ.v (by rw [hcnt];exact hJ.b)
  have hkn:K.any (inB i)=knB l k0 M i:=any_eq (by rw [hJ.m];exact ⟨fun q=>q.2,fun q=>⟨h1,q⟩⟩)
  rw [hkn] at hk
  rw [p3] at p1
  change FnW C 103 _=some (match fnd k0 M i with | some x=>_ | none=>_) at hf
  unfold knB at hk
  unfold szAt at p1
  rw [List.getElem?_eq_getElem h1] at hk p1
  simp only [w84_K0,lS0] at this ⊢
  rw [ck_unf w84_B0.eq_1]
  cases e:fnd k0 M i with
  | some x =>
   rw [e] at hf hk p1
   simp at hf hk p1 this
   simp (disch:=omega) [h1,hf,hk,p1,this,wI64,wU64,wU8,H.toHasP.inl,inlB,H.toHasP.pp,ppB]
  | none =>
   rw [e] at hf hk p1
   simp at hf hk p1 this
   simp (disch:=omega) [h1,hf,hk,p1,this,wI64,wU64,wU8,H.toHasP.inl,inlB,H.toHasP.pp,ppB]
theorem tab_loop (H:HasLw C) (hlive:FnW C 106 []=some (.bool true)) (M:List (Nat × Nat)) (hM:Tb M) (l:List (Nat × Bool)) (hl:Rws l) (k0:Nat) (hk0:k0 < 256) (S:List (Option Int)) (hS:KMap C S (ks k0 l.length)) (hne:S≠[]):∀ n j,n+j=M.length→∀ q t K,q≤j→Jx l k0 (M.take j) t K→w84_K1 C (lS1 M l k0 t K l.length j q S)=some (.bool true):=by
 intro n
 induction n with
 | zero =>
  intro j hj q t K hq hJ
  rw [List.take_of_length_le (by omega)] at hJ
  have hcnt:t.cnt=l.length:=by rw [t.cnt_eq,hJ.tl];simp [szL]
  have hxl:=xlen_ok H.toHasX t K true
  have hml:=mlen_ok H.toHasKm (vl k0) S true l.length
  have hc:=chk_loop H hlive M hM l hl k0 hk0 t K hJ l.length 0 rfl
  have hT:List.take S.length (List.map (eSo (vl k0)) S)=List.map (eSo (vl k0)) S:=List.take_of_length_le (by simp)
  have h3:¬ j < M.length:=by omega
  have h4:¬ M.length < q:=by omega
  rw [hcnt] at hxl
  simp only [w84_K1,lS1,lH]
  simp only [w84_K0,lS0] at hc
  rw [ck_unf w84_B1.eq_1]
  simp only [aM] at hml
  simp at hxl hml hc
  simp (disch:=omega) [h3,h4,ck_unf w84_c1.eq_1,hT,hxl,hml,hc,wI64,wU64,wU8,H.toHasP.inl,inlB,H.toHasP.pp,ppB]
 | succ n ih =>
  intro j hj q t K hq hJ
  obtain ⟨t',K',q',a1,a2,a3⟩:=tab_step H M hM l hl k0 hk0 S hS hne j q (by omega) hq t K hJ
  rw [a3]
  exact ih (j+1) (by omega) q' t' K' a2 a1
theorem tab_loop0 (H:HasLw C) (hlive:FnW C 106 []=some (.bool true)) (M:List (Nat × Nat)) (hM:Tb M) (k0:Nat) (hk0:k0 < 256) (t:Tr) (K:List (Nat × Nat)) (hJ:Jx [] k0 M t K):∀ n j,n+j=M.length →
 w84_K1 C ⟨[(13,.int .i64 j),(12,.int .i64 0),(10,.ptr 0 0 0),(9,.ro 2 (M.map eH) false),(8,.ro 2 [] false),(7,.ptr 1 0 0),(2,.int .u8 k0)],[(0,O.k0),(1,.cells 2 [[t.c,.ro 2 (K.map eS) true]] true true)],2⟩=some (.bool true):=by
 have hMl:=hM.ln
 intro n
 induction n with
 | zero =>
  intro j hj
  have hcnt:t.cnt=0:=by rw [t.cnt_eq,hJ.tl];simp [szL]
  have hxl:=xlen_ok H.toHasX t K true
  have hml:=mlen_ok H.toHasKm (vl k0) [] true 0
  have hc:=chk_loop H hlive M hM [] ⟨by simp,⟨by simp [szs],by simp [szs],by simp [szs]⟩,by simp,by simp [szs]⟩ k0 hk0 t K hJ 0 0 rfl
  have h3:¬ j < M.length:=by omega
  rw [hcnt] at hxl
  simp only [w84_K1]
  simp only [w84_K0,lS0] at hc
  rw [ck_unf w84_B1.eq_1]
  simp only [aM] at hml
  simp at hxl hml hc
  simp (disch:=omega) [h3,ck_unf w84_c1.eq_1,hxl,hml,hc,O.k0,wI64,wU64,wU8,H.toHasP.inl,inlB,H.toHasP.pp,ppB]
 | succ n ih =>
  intro j hj
  have h1:j < M.length:=by omega
  have h:KMap C [] []:=⟨kin_nil (mixK C) 0,by simp,.inl ⟨rfl,rfl⟩⟩
  have hg:=get_ok H.toHasKm (vl k0) [] [] true h (M[j].1:Nat)
  have this:=ih (j+1) (by omega)
  simp only [w84_K1] at this ⊢
  rw [ck_unf w84_B1.eq_1]
  simp only [aM] at hg
  simp [O.k0] at hg this
  simp (disch:=omega) [h1,hg,this,O.k0,wI64,wU64,wU8,H.toHasP.inl,inlB,H.toHasP.pp,ppB]
theorem toptable_ok (H:HasLw C) (hlive:FnW C 106 []=some (.bool true)) (L:List Nat) (f g fy:Bool) (hL:∀ b ∈ L,b < 256) (L2:List (Nat × Nat)) (hL2:∀ x ∈ L2,x.1 < 256∧x.2 < 256) (k0:Nat) (hk0:k0 < 256) :
 FnW C 84 [.agg [.ro 1 (L.map e8) f,.bool g],.agg [.ro 2 (L2.map e88) fy],.int .u8 k0]=some (.bool true):=by
 have hl:=rws_ok L g
 have a2:=rows_ok H.toHasY L f g hL
 obtain ⟨t,K,hI,a1⟩:=xof_ok H.toHasY L f g hL hl
 obtain ⟨M,hM,a3⟩:=tof_ok H.toHasY L2 fy hL2
 generalize great g (rowsF L)=l at *
 have hcnt:t.cnt=l.length:=by rw [t.cnt_eq,hI.tl];simp
 have hll:=hl.ln
 have q:=fun h n=>rnW_eq (args:=[]) H.f2016 rfl h n
 have hJ:=hI.jx (k0:=k0)
 have hfin:w84_K2 C ⟨[(11,.int .i64 0),(10,.ptr 0 0 0),(9,.ro 2 (M.map eH) false),(8,.ro 2 (l.map eR) false),(7,.ptr 1 0 0),(2,.int .u8 k0)],[(0,O.k0),(1,.cells 2 [[t.c,.ro 2 (K.map eS) true]] true true)],2⟩=some (.bool true):=by
  by_cases c:0 < t.cnt
  · obtain ⟨S,b1,b2,b3⟩:=put_start M l k0 t K H hk0 c (by omega)
    obtain ⟨S',c1,c2,c3⟩:=put_loop M l k0 t K H hk0 (by omega) (t.cnt - 1) 1 (by omega) (by omega) S b1 b2
    rw [b3,c3,hcnt]
    rw [hcnt] at c1
    exact tab_loop H hlive M hM l hl k0 hk0 S' c1 c2 _ 0 rfl 0 t K (by omega) hJ
  · obtain rfl:l=[]:=List.eq_nil_of_length_eq_zero (by omega)
    have hxl:=xlen_ok H.toHasX t K true
    have ht0:t.cnt=0:=by omega
    have hJ':Jx [] k0 M t K:=by
     refine ⟨by rw [hJ.tl];rfl,hJ.v,hJ.b,fun j=>?_⟩
     rw [hJ.m];simp
    have h2:=tab_loop0 H hlive M hM k0 hk0 t K hJ' _ 0 rfl
    rw [ht0] at hxl
    simp only [w84_K1,O.k0] at h2
    simp only [w84_K2]
    rw [ck_unf w84_B2.eq_1]
    simp at hxl h2
    simp (disch:=omega) [hxl,h2,ck_unf w84_c2.eq_1,O.k0,wI64,wU64,wU8,H.toHasP.inl,inlB,H.toHasP.pp,ppB]
 simp only [w84_K2,O.k0] at hfin
 rw [fnW_eq H.f84 rfl]
 (try simp at a1)
 (try simp at a2)
 (try simp at a3)
 (try simp at hfin)
 simp (disch:=omega) [w84,a1,a2,a3,q,w97,hfin,wI64,H.toHasP.inl,inlB,H.toHasP.pp,ppB]
end Go.O
end
