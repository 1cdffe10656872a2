/- Part of the theory that the claims of this work use: PavLink, L24, PwGlue, PwGlue2, G00, D02, D03, D04, D05, D06, D07, D08, D09, D10, D11, D12, D13, D14, D15, D16, D17, D18, D19, D20, D21, D22, D23, V600, D24, D25, D26, D27. No conditions of its own. -/
import Derived.Test.YtfkdbfgdncamdaaGreatT4
import Derived.Test.YtfkdbfgdncamdaaGreatChecked
import Derived.KernelRfl
import Derived.ChangeSame
import Derived.ChangeArms
import Derived.ReadAgain
import Derived.Handed
import Derived.JoinedOf
import Derived.RowKit
import Derived.Test.YtfkdbfgdncamdaaGreatRows
import Derived.ProofKit
import Derived.Sort.Walk0
set_option linter.unusedVariables false
set_option linter.unusedSimpArgs false
set_option maxHeartbeats 4000000
set_option maxRecDepth 10000
section
namespace Go.Pav
open Go
def phiOf (ids:List (Nat × Nat)) (f:FuncId):Option Nat :=
 match ids with
 | []=>none
 | (g,k)::r=>if k=f then some g else phiOf r f
def psiOf (ids:List (Nat × Nat)) (g:Nat):FuncId :=
 match get ids g with
 | some k=>k
 | none=>0
theorem phiOf_mem:∀ {ids:List (Nat × Nat)} {f:FuncId} {g:Nat},phiOf ids f=some g→(g,f) ∈ ids:=by
 intro ids
 induction ids with
 | nil=>intro f g h;simp [phiOf] at h
 | cons x r ih =>
  intro f g h
  obtain ⟨a,k⟩:=x
  simp only [phiOf] at h
  split at h
  · rename_i hk
    cases h;subst hk;exact List.mem_cons_self
  · exact List.mem_cons_of_mem _ (ih h)
theorem psi_phi {ids:List (Nat × Nat)} (hc:(ids.all fun x=>decide (psiOf ids x.1=x.2))=true):∀ f g,phiOf ids f=some g→psiOf ids g=f:=by
 intro f g h
 have:=List.all_eq_true.1 hc _ (phiOf_mem h)
 simpa using this
def TreeAll (p:Nat→CFn→Prop):Tree→Prop
 | .leaf=>True
 | .node l k f r=>TreeAll p l∧p k f∧TreeAll p r
theorem TreeAll.get {p:Nat→CFn→Prop}:∀ {t:Tree},TreeAll p t→∀ {g:Nat} {cf:CFn},t.get g=some cf→p g cf:=by
 intro t
 induction t with
 | leaf=>intro _ g cf h;simp [Tree.get] at h
 | node l k f r ihl ihr =>
  intro ⟨h1,h2,h3⟩ g cf h
  simp only [Tree.get] at h
  split at h
  · rename_i hk;cases h;subst hk;exact h2
  · split at h
    · exact ihl h1 h
    · exact ihr h3 h
def altOf:List (Nat × FuncId × Nat)→Nat→FuncId→Option Nat
 | [],_,_=>none
 | (g,f,k)::r,g',f'=>if g=g'∧f=f' then some k else altOf r g' f'
theorem altOf_mem:∀ {alts:List (Nat × FuncId × Nat)} {g:Nat} {f:FuncId} {k:Nat},altOf alts g f=some k→(g,f,k) ∈ alts:=by
 intro alts
 induction alts with
 | nil=>intro g f k h;simp [altOf] at h
 | cons x r ih =>
  intro g f k h
  obtain ⟨a,b,c⟩:=x
  simp only [altOf] at h
  split at h
  · rename_i hk
    obtain ⟨rfl,rfl⟩:=hk
    cases h;exact List.mem_cons_self
  · exact List.mem_cons_of_mem _ (ih h)
def phiG (ids:List (Nat × Nat)) (alts:List (Nat × FuncId × Nat)) (g:Nat) (f:FuncId):Option Nat :=
 match altOf alts g f with
 | some k=>some k
 | none=>phiOf ids f
def FnOk (P:Program) (ids:List (Nat × Nat)) (alts:List (Nat × FuncId × Nat)) (g:Nat) (cf:CFn):Prop:=∃ fn,P.funcs[psiOf ids g]?=some fn∧(cFn P (phiG ids alts g) fn).map stripF=some (stripF cf)
theorem linked {P:Program} {ids:List (Nat × Nat)} {alts:List (Nat × FuncId × Nat)} {C:Prog} (hc:(ids.all fun x=>decide (psiOf ids x.1=x.2))=true) (ha:(alts.all fun x=>decide (psiOf ids x.2.2=x.2.1))=true)
 (ht:TreeAll (FnOk P ids alts) C.fns) (hm:P.follows .mixedOrders=true):Linked P (phiG ids alts) (psiOf ids) C:=by
 refine ⟨fun g f k h=>?_,fun _ _ h=>ht.get h,hm⟩
 unfold phiG at h
 split at h
 · rename_i k' hk
   cases h
   simpa using List.all_eq_true.1 ha _ (altOf_mem hk)
 · exact psi_phi hc _ _ h
end Go.Pav
end
section
set_option maxRecDepth 100000
namespace P
open Go Go.Pav Go.Pw Go.Proofs
theorem l0:FnOk Tryz.prog ids alts 0 (erFn w0):=⟨Tryz.f2,Tryz.func2,by kernel_rfl⟩
theorem l111:FnOk Tryz.prog ids alts 111 (erFn w111):=⟨Tryz.f77,Tryz.func77,by kernel_rfl⟩
theorem l115:FnOk Tryz.prog ids alts 115 (erFn w115):=⟨Tryz.f101,Tryz.func101,by kernel_rfl⟩
theorem l126:FnOk Tryz.prog ids alts 126 (erFn w126):=⟨Tryz.f72,Tryz.func72,by kernel_rfl⟩
theorem l130:FnOk Tryz.prog ids alts 130 (erFn w130):=⟨Tryz.f27,Tryz.func27,by kernel_rfl⟩
theorem l138:FnOk Tryz.prog ids alts 138 (erFn w138):=⟨Tryz.f24,Tryz.func24,by kernel_rfl⟩
theorem l139:FnOk Tryz.prog ids alts 139 (erFn w139):=⟨Tryz.f13,Tryz.func13,by kernel_rfl⟩
theorem l140:FnOk Tryz.prog ids alts 140 (erFn w140):=⟨Tryz.f25,Tryz.func25,by kernel_rfl⟩
theorem l143:FnOk Tryz.prog ids alts 143 (erFn w143):=⟨Tryz.f4,Tryz.func4,by kernel_rfl⟩
theorem l145:FnOk Tryz.prog ids alts 145 (erFn w145):=⟨Tryz.f19,Tryz.func19,by kernel_rfl⟩
theorem l223:FnOk Tryz.prog ids alts 223 (erFn w223):=⟨Tryz.f48,Tryz.func48,by kernel_rfl⟩
theorem l225:FnOk Tryz.prog ids alts 225 (erFn w225):=⟨Tryz.f104,Tryz.func104,by kernel_rfl⟩
theorem l227:FnOk Tryz.prog ids alts 227 (erFn w227):=⟨Tryz.f105,Tryz.func105,by kernel_rfl⟩
theorem l230:FnOk Tryz.prog ids alts 230 (erFn w230):=⟨Tryz.f149,Tryz.func149,by kernel_rfl⟩
theorem l231:FnOk Tryz.prog ids alts 231 (erFn w231):=⟨Tryz.f150,Tryz.func150,by kernel_rfl⟩
theorem l232:FnOk Tryz.prog ids alts 232 (erFn w232):=⟨Tryz.f110,Tryz.func110,by kernel_rfl⟩
theorem l238:FnOk Tryz.prog ids alts 238 (erFn w238):=⟨Tryz.f107,Tryz.func107,by kernel_rfl⟩
theorem l240:FnOk Tryz.prog ids alts 240 (erFn w240):=⟨Tryz.f75,Tryz.func75,by kernel_rfl⟩
theorem l270:FnOk Tryz.prog ids alts 270 (erFn w270):=⟨Tryz.f73,Tryz.func73,by kernel_rfl⟩
theorem l271:FnOk Tryz.prog ids alts 271 (erFn w271):=⟨Tryz.f74,Tryz.func74,by kernel_rfl⟩
theorem l277:FnOk Tryz.prog ids alts 277 (erFn w277):=⟨Tryz.f53,Tryz.func53,by kernel_rfl⟩
theorem l278:FnOk Tryz.prog ids alts 278 (erFn w278):=⟨Tryz.f16,Tryz.func16,by kernel_rfl⟩
theorem l279:FnOk Tryz.prog ids alts 279 (erFn w279):=⟨Tryz.f49,Tryz.func49,by kernel_rfl⟩
theorem l280:FnOk Tryz.prog ids alts 280 (erFn w280):=⟨Tryz.f50,Tryz.func50,by kernel_rfl⟩
theorem l281:FnOk Tryz.prog ids alts 281 (erFn w281):=⟨Tryz.f51,Tryz.func51,by kernel_rfl⟩
theorem l282:FnOk Tryz.prog ids alts 282 (erFn w282):=⟨Tryz.f66,Tryz.func66,by kernel_rfl⟩
theorem l283:FnOk Tryz.prog ids alts 283 (erFn w283):=⟨Tryz.f10,Tryz.func10,by kernel_rfl⟩
theorem l284:FnOk Tryz.prog ids alts 284 (erFn w284):=⟨Tryz.f11,Tryz.func11,by kernel_rfl⟩
theorem l285:FnOk Tryz.prog ids alts 285 (erFn w285):=⟨Tryz.f12,Tryz.func12,by kernel_rfl⟩
theorem l286:FnOk Tryz.prog ids alts 286 (erFn w286):=⟨Tryz.f14,Tryz.func14,by kernel_rfl⟩
theorem l289:FnOk Tryz.prog ids alts 289 (erFn w289):=⟨Tryz.f18,Tryz.func18,by kernel_rfl⟩
theorem l290:FnOk Tryz.prog ids alts 290 (erFn w290):=⟨Tryz.f20,Tryz.func20,by kernel_rfl⟩
theorem l293:FnOk Tryz.prog ids alts 293 (erFn w293):=⟨Tryz.f43,Tryz.func43,by kernel_rfl⟩
theorem l296:FnOk Tryz.prog ids alts 296 (erFn w296):=⟨Tryz.f42,Tryz.func42,by kernel_rfl⟩
theorem l297:FnOk Tryz.prog ids alts 297 (erFn w297):=⟨Tryz.f23,Tryz.func23,by kernel_rfl⟩
theorem l299:FnOk Tryz.prog ids alts 299 (erFn w299):=⟨Tryz.f46,Tryz.func46,by kernel_rfl⟩
theorem l301:FnOk Tryz.prog ids alts 301 (erFn w301):=⟨Tryz.f59,Tryz.func59,by kernel_rfl⟩
theorem l302:FnOk Tryz.prog ids alts 302 (erFn w302):=⟨Tryz.f60,Tryz.func60,by kernel_rfl⟩
theorem l398:FnOk Tryz.prog ids alts 398 (erFn w398):=⟨Tryz.f102,Tryz.func102,by kernel_rfl⟩
theorem l399:FnOk Tryz.prog ids alts 399 (erFn w399):=⟨Tryz.f103,Tryz.func103,by kernel_rfl⟩
theorem l400:FnOk Tryz.prog ids alts 400 (erFn w400):=⟨Tryz.f174,Tryz.func174,by kernel_rfl⟩
theorem l404:FnOk Tryz.prog ids alts 404 (erFn w404):=⟨Tryz.f192,Tryz.func192,by kernel_rfl⟩
theorem l405:FnOk Tryz.prog ids alts 405 (erFn w405):=⟨Tryz.f159,Tryz.func159,by kernel_rfl⟩
theorem l408:FnOk Tryz.prog ids alts 408 (erFn w408):=⟨Tryz.f146,Tryz.func146,by kernel_rfl⟩
theorem l415:FnOk Tryz.prog ids alts 415 (erFn w415):=⟨Tryz.f108,Tryz.func108,by kernel_rfl⟩
theorem l417:FnOk Tryz.prog ids alts 417 (erFn w417):=⟨Tryz.f45,Tryz.func45,by kernel_rfl⟩
theorem l422:FnOk Tryz.prog ids alts 422 (erFn w422):=⟨Tryz.f124,Tryz.func124,by kernel_rfl⟩
theorem l423:FnOk Tryz.prog ids alts 423 (erFn w423):=⟨Tryz.f125,Tryz.func125,by kernel_rfl⟩
theorem l424:FnOk Tryz.prog ids alts 424 (erFn w424):=⟨Tryz.f126,Tryz.func126,by kernel_rfl⟩
theorem l425:FnOk Tryz.prog ids alts 425 (erFn w425):=⟨Tryz.f100,Tryz.func100,by kernel_rfl⟩
theorem l427:FnOk Tryz.prog ids alts 427 (erFn w427):=⟨Tryz.f109,Tryz.func109,by kernel_rfl⟩
theorem l428:FnOk Tryz.prog ids alts 428 (erFn w428):=⟨Tryz.f54,Tryz.func54,by kernel_rfl⟩
theorem l429:FnOk Tryz.prog ids alts 429 (erFn w429):=⟨Tryz.f55,Tryz.func55,by kernel_rfl⟩
theorem l430:FnOk Tryz.prog ids alts 430 (erFn w430):=⟨Tryz.f56,Tryz.func56,by kernel_rfl⟩
theorem l431:FnOk Tryz.prog ids alts 431 (erFn w431):=⟨Tryz.f106,Tryz.func106,by kernel_rfl⟩
theorem l432:FnOk Tryz.prog ids alts 432 (erFn w432):=⟨Tryz.f61,Tryz.func61,by kernel_rfl⟩
theorem l433:FnOk Tryz.prog ids alts 433 (erFn w433):=⟨Tryz.f117,Tryz.func117,by kernel_rfl⟩
theorem l434:FnOk Tryz.prog ids alts 434 (erFn w434):=⟨Tryz.f118,Tryz.func118,by kernel_rfl⟩
theorem l435:FnOk Tryz.prog ids alts 435 (erFn w435):=⟨Tryz.f44,Tryz.func44,by kernel_rfl⟩
theorem l436:FnOk Tryz.prog ids alts 436 (erFn w436):=⟨Tryz.f47,Tryz.func47,by kernel_rfl⟩
theorem l437:FnOk Tryz.prog ids alts 437 (erFn w437):=⟨Tryz.f52,Tryz.func52,by kernel_rfl⟩
theorem l438:FnOk Tryz.prog ids alts 438 (erFn w438):=⟨Tryz.f57,Tryz.func57,by kernel_rfl⟩
theorem l439:FnOk Tryz.prog ids alts 439 (erFn w439):=⟨Tryz.f58,Tryz.func58,by kernel_rfl⟩
theorem l441:FnOk Tryz.prog ids alts 441 (erFn w441):=⟨Tryz.f64,Tryz.func64,by kernel_rfl⟩
theorem l442:FnOk Tryz.prog ids alts 442 (erFn w442):=⟨Tryz.f65,Tryz.func65,by kernel_rfl⟩
theorem l494:FnOk Tryz.prog ids alts 494 (erFn w494):=⟨Tryz.f151,Tryz.func151,by kernel_rfl⟩
theorem l495:FnOk Tryz.prog ids alts 495 (erFn w495):=⟨Tryz.f152,Tryz.func152,by kernel_rfl⟩
theorem l496:FnOk Tryz.prog ids alts 496 (erFn w496):=⟨Tryz.f153,Tryz.func153,by kernel_rfl⟩
theorem l497:FnOk Tryz.prog ids alts 497 (erFn w497):=⟨Tryz.f154,Tryz.func154,by kernel_rfl⟩
theorem l498:FnOk Tryz.prog ids alts 498 (erFn w498):=⟨Tryz.f155,Tryz.func155,by kernel_rfl⟩
theorem l499:FnOk Tryz.prog ids alts 499 (erFn w499):=⟨Tryz.f156,Tryz.func156,by kernel_rfl⟩
theorem l500:FnOk Tryz.prog ids alts 500 (erFn w500):=⟨Tryz.f157,Tryz.func157,by kernel_rfl⟩
theorem l501:FnOk Tryz.prog ids alts 501 (erFn w501):=⟨Tryz.f158,Tryz.func158,by kernel_rfl⟩
theorem l502:FnOk Tryz.prog ids alts 502 (erFn w502):=⟨Tryz.f211,Tryz.func211,by kernel_rfl⟩
theorem l503:FnOk Tryz.prog ids alts 503 (erFn w503):=⟨Tryz.f212,Tryz.func212,by kernel_rfl⟩
theorem l505:FnOk Tryz.prog ids alts 505 (erFn w505):=⟨Tryz.f187,Tryz.func187,by kernel_rfl⟩
theorem l507:FnOk Tryz.prog ids alts 507 (erFn w507):=⟨Tryz.f160,Tryz.func160,by kernel_rfl⟩
theorem l510:FnOk Tryz.prog ids alts 510 (erFn w510):=⟨Tryz.f169,Tryz.func169,by kernel_rfl⟩
theorem l511:FnOk Tryz.prog ids alts 511 (erFn w511):=⟨Tryz.f170,Tryz.func170,by kernel_rfl⟩
theorem l512:FnOk Tryz.prog ids alts 512 (erFn w512):=⟨Tryz.f147,Tryz.func147,by kernel_rfl⟩
theorem l513:FnOk Tryz.prog ids alts 513 (erFn w513):=⟨Tryz.f148,Tryz.func148,by kernel_rfl⟩
theorem l514:FnOk Tryz.prog ids alts 514 (erFn w514):=⟨Tryz.f111,Tryz.func111,by kernel_rfl⟩
theorem l515:FnOk Tryz.prog ids alts 515 (erFn w515):=⟨Tryz.f112,Tryz.func112,by kernel_rfl⟩
theorem l516:FnOk Tryz.prog ids alts 516 (erFn w516):=⟨Tryz.f164,Tryz.func164,by kernel_rfl⟩
theorem l517:FnOk Tryz.prog ids alts 517 (erFn w517):=⟨Tryz.f165,Tryz.func165,by kernel_rfl⟩
theorem l518:FnOk Tryz.prog ids alts 518 (erFn w518):=⟨Tryz.f166,Tryz.func166,by kernel_rfl⟩
theorem l519:FnOk Tryz.prog ids alts 519 (erFn w519):=⟨Tryz.f167,Tryz.func167,by kernel_rfl⟩
theorem l520:FnOk Tryz.prog ids alts 520 (erFn w520):=⟨Tryz.f116,Tryz.func116,by kernel_rfl⟩
theorem l543:FnOk Tryz.prog ids alts 543 (erFn w543):=⟨Tryz.f193,Tryz.func193,by kernel_rfl⟩
theorem l544:FnOk Tryz.prog ids alts 544 (erFn w544):=⟨Tryz.f194,Tryz.func194,by kernel_rfl⟩
theorem l545:FnOk Tryz.prog ids alts 545 (erFn w545):=⟨Tryz.f195,Tryz.func195,by kernel_rfl⟩
theorem l546:FnOk Tryz.prog ids alts 546 (erFn w546):=⟨Tryz.f196,Tryz.func196,by kernel_rfl⟩
theorem l547:FnOk Tryz.prog ids alts 547 (erFn w547):=⟨Tryz.f197,Tryz.func197,by kernel_rfl⟩
theorem l548:FnOk Tryz.prog ids alts 548 (erFn w548):=⟨Tryz.f224,Tryz.func224,by kernel_rfl⟩
theorem l549:FnOk Tryz.prog ids alts 549 (erFn w549):=⟨Tryz.f225,Tryz.func225,by kernel_rfl⟩
theorem l550:FnOk Tryz.prog ids alts 550 (erFn w550):=⟨Tryz.f210,Tryz.func210,by kernel_rfl⟩
theorem l553:FnOk Tryz.prog ids alts 553 (erFn w553):=⟨Tryz.f198,Tryz.func198,by kernel_rfl⟩
theorem l554:FnOk Tryz.prog ids alts 554 (erFn w554):=⟨Tryz.f199,Tryz.func199,by kernel_rfl⟩
theorem l556:FnOk Tryz.prog ids alts 556 (erFn w556):=⟨Tryz.f188,Tryz.func188,by kernel_rfl⟩
theorem l557:FnOk Tryz.prog ids alts 557 (erFn w557):=⟨Tryz.f189,Tryz.func189,by kernel_rfl⟩
theorem l558:FnOk Tryz.prog ids alts 558 (erFn w558):=⟨Tryz.f190,Tryz.func190,by kernel_rfl⟩
theorem l559:FnOk Tryz.prog ids alts 559 (erFn w559):=⟨Tryz.f191,Tryz.func191,by kernel_rfl⟩
theorem l560:FnOk Tryz.prog ids alts 560 (erFn w560):=⟨Tryz.f200,Tryz.func200,by kernel_rfl⟩
theorem l561:FnOk Tryz.prog ids alts 561 (erFn w561):=⟨Tryz.f201,Tryz.func201,by kernel_rfl⟩
theorem l562:FnOk Tryz.prog ids alts 562 (erFn w562):=⟨Tryz.f202,Tryz.func202,by kernel_rfl⟩
theorem l563:FnOk Tryz.prog ids alts 563 (erFn w563):=⟨Tryz.f163,Tryz.func163,by kernel_rfl⟩
theorem l578:FnOk Tryz.prog ids alts 578 (erFn w578):=⟨Tryz.f213,Tryz.func213,by kernel_rfl⟩
theorem l579:FnOk Tryz.prog ids alts 579 (erFn w579):=⟨Tryz.f214,Tryz.func214,by kernel_rfl⟩
theorem l580:FnOk Tryz.prog ids alts 580 (erFn w580):=⟨Tryz.f215,Tryz.func215,by kernel_rfl⟩
theorem l581:FnOk Tryz.prog ids alts 581 (erFn w581):=⟨Tryz.f216,Tryz.func216,by kernel_rfl⟩
theorem l582:FnOk Tryz.prog ids alts 582 (erFn w582):=⟨Tryz.f217,Tryz.func217,by kernel_rfl⟩
theorem l583:FnOk Tryz.prog ids alts 583 (erFn w583):=⟨Tryz.f218,Tryz.func218,by kernel_rfl⟩
theorem l584:FnOk Tryz.prog ids alts 584 (erFn w584):=⟨Tryz.f219,Tryz.func219,by kernel_rfl⟩
theorem l585:FnOk Tryz.prog ids alts 585 (erFn w585):=⟨Tryz.f229,Tryz.func229,by kernel_rfl⟩
theorem l586:FnOk Tryz.prog ids alts 586 (erFn w586):=⟨Tryz.f223,Tryz.func223,by kernel_rfl⟩
theorem l592:FnOk Tryz.prog ids alts 592 (erFn w592):=⟨Tryz.f226,Tryz.func226,by kernel_rfl⟩
theorem l593:FnOk Tryz.prog ids alts 593 (erFn w593):=⟨Tryz.f227,Tryz.func227,by kernel_rfl⟩
theorem l594:FnOk Tryz.prog ids alts 594 (erFn w594):=⟨Tryz.f228,Tryz.func228,by kernel_rfl⟩
theorem l3008:FnOk Tryz.prog ids alts 3008 (erFn w281):=⟨Tryz.f51,Tryz.func51,by kernel_rfl⟩
theorem l3009:FnOk Tryz.prog ids alts 3009 (erFn w431):=⟨Tryz.f106,Tryz.func106,by kernel_rfl⟩
theorem l2031:FnOk Tryz.prog ids alts 2031 (erFn w293):=⟨Tryz.f43,Tryz.func43,by kernel_rfl⟩
def prog:WProg:=⟨tree,Go.D.inlB,Go.D.ppB⟩
theorem all:TreeAll (FnOk Tryz.prog ids alts) (erProg prog).fns:=⟨⟨⟨⟨⟨⟨⟨trivial,l0,trivial⟩,l111,⟨trivial,l115,trivial⟩⟩,l126,⟨⟨trivial,l130,trivial⟩,l138,⟨trivial,l139,trivial⟩⟩⟩,l140,⟨⟨⟨trivial,l143,trivial⟩,l145,⟨trivial,l223,trivial⟩⟩,l225,⟨⟨trivial,l227,trivial⟩,l230,⟨trivial,l231,trivial⟩⟩⟩⟩,l232,⟨⟨⟨⟨trivial,l238,trivial⟩,l240,⟨trivial,l270,trivial⟩⟩,l271,⟨⟨trivial,l277,trivial⟩,l278,⟨trivial,l279,trivial⟩⟩⟩,l280,⟨⟨⟨trivial,l281,trivial⟩,l282,⟨trivial,l283,trivial⟩⟩,l284,⟨⟨trivial,l285,trivial⟩,l286,trivial⟩⟩⟩⟩,l289,⟨⟨⟨⟨⟨trivial,l290,trivial⟩,l293,⟨trivial,l296,trivial⟩⟩,l297,⟨⟨trivial,l299,trivial⟩,l301,⟨trivial,l302,trivial⟩⟩⟩,l398,⟨⟨⟨trivial,l399,trivial⟩,l400,⟨trivial,l404,trivial⟩⟩,l405,⟨⟨trivial,l408,trivial⟩,l415,trivial⟩⟩⟩,l417,⟨⟨⟨⟨trivial,l422,trivial⟩,l423,⟨trivial,l424,trivial⟩⟩,l425,⟨⟨trivial,l427,trivial⟩,l428,⟨trivial,l429,trivial⟩⟩⟩,l430,⟨⟨⟨trivial,l431,trivial⟩,l432,⟨trivial,l433,trivial⟩⟩,l434,⟨⟨trivial,l435,trivial⟩,l436,trivial⟩⟩⟩⟩⟩,l437,⟨⟨⟨⟨⟨⟨trivial,l438,trivial⟩,l439,⟨trivial,l441,trivial⟩⟩,l442,⟨⟨trivial,l494,trivial⟩,l495,⟨trivial,l496,trivial⟩⟩⟩,l497,⟨⟨⟨trivial,l498,trivial⟩,l499,⟨trivial,l500,trivial⟩⟩,l501,⟨⟨trivial,l502,trivial⟩,l503,⟨trivial,l505,trivial⟩⟩⟩⟩,l507,⟨⟨⟨⟨trivial,l510,trivial⟩,l511,⟨trivial,l512,trivial⟩⟩,l513,⟨⟨trivial,l514,trivial⟩,l515,⟨trivial,l516,trivial⟩⟩⟩,l517,⟨⟨⟨trivial,l518,trivial⟩,l519,⟨trivial,l520,trivial⟩⟩,l543,⟨⟨trivial,l544,trivial⟩,l545,trivial⟩⟩⟩⟩,l546,⟨⟨⟨⟨⟨trivial,l547,trivial⟩,l548,⟨trivial,l549,trivial⟩⟩,l550,⟨⟨trivial,l553,trivial⟩,l554,⟨trivial,l556,trivial⟩⟩⟩,l557,⟨⟨⟨trivial,l558,trivial⟩,l559,⟨trivial,l560,trivial⟩⟩,l561,⟨⟨trivial,l562,trivial⟩,l563,trivial⟩⟩⟩,l578,⟨⟨⟨⟨trivial,l579,trivial⟩,l580,⟨trivial,l581,trivial⟩⟩,l582,⟨⟨trivial,l583,trivial⟩,l584,⟨trivial,l585,trivial⟩⟩⟩,l586,⟨⟨⟨trivial,l592,trivial⟩,l593,⟨trivial,l594,trivial⟩⟩,l2031,⟨⟨trivial,l3008,trivial⟩,l3009,trivial⟩⟩⟩⟩⟩⟩
theorem okT:okTree prog.fns=true:=by kernel_rfl
theorem link:Linked Tryz.prog (phiG ids alts) (psiOf ids) (erProg prog):=linked (by kernel_rfl) (by kernel_rfl) all (by kernel_rfl)
end P
end
section
namespace Go.Pw
open Go Go.Pav
inductive CT where
 | bool
 | int (k:IntKind)
 | str
 | slice (ts:List CT)
inductive Ty:CT→AV→Prop
 | bool (b:Bool):Ty .bool (.bool b)
 | int (k:IntKind) (n:Int) (h1:k.min≤n) (h2:n≤k.max):Ty (.int k) (.int k n)
 | str (s:List UInt8) (h:s.length < 2 ^ 63):Ty .str (.str s)
 | slice (ts:List CT) (es:List (List AV)) (ex:Bool) (hn:es.length < 2 ^ 63) (hw:∀ (i:Nat) (e:List AV),es[i]?=some e→e.length=ts.length)
  (h:∀ (i:Nat) (e:List AV) (j:Nat) (ct:CT) (x:AV),es[i]?=some e→ts[j]?=some ct→e[j]?=some x→Ty ct x):Ty (.slice ts) (.ro ts.length es ex)
theorem Ty.isC {ct:CT} {a:AV} (h:Ty ct a):Pw.isC a=true:=by cases h <;> rfl
def fieldsT (F:TypeId→Option (List CT)) (P:Program):List Field→Nat→Option (List CT)
 | [],_=>some []
 | f::r,off=>(F f.type).bind fun ts=>if f.offset=off∧ts.length=P.cellsOf f.type then (fieldsT F P r (off+ts.length)).map (ts++·) else none
def flatT (P:Program):Nat→TypeId→Option (List CT)
 | 0,_=>none
 | n+1,t=>match P.underlying t with
  | some .bool=>some [.bool]
  | some (.int k)=>some [.int k]
  | some .string=>some [.str]
  | some (.slice e)=>(flatT P n e).bind fun ts=>if ts.length=P.cellsOf e∧0 < ts.length then some [.slice ts] else none
  | some (.struct fs)=>(fieldsT (flatT P n) P fs.toList 0).bind fun ts=>if ts.length=P.cellsOf t then some ts else none
  | some (.array m e)=>(flatT P n e).bind fun ts=>if ts.length=P.cellsOf e∧m * ts.length=P.cellsOf t then some (List.replicate m ts).flatten else none
  | _=>none
theorem flatten_rep {α:Type} (ts:List α):∀ (m j:Nat),j < m * ts.length→(List.replicate m ts).flatten[j]?=ts[j % ts.length]?
 | 0,j,h=>by simp at h
 | m+1,j,h=>by
  rw [List.replicate_succ,List.flatten_cons]
  rcases Nat.lt_or_ge j ts.length with hl | hl
  · rw [List.getElem?_append_left hl,Nat.mod_eq_of_lt hl]
  · rw [List.getElem?_append_right hl,flatten_rep ts m (j - ts.length) (by rw [Nat.add_mul] at h;omega),Nat.mod_eq_sub_mod hl]
theorem trod_array {H:Type} {enc:TypeId × Value→H} {P:Program} {w:World} {base:Nat} {spare:Nat→Bool} {held:Bool} {fuel:Nat} {t:TypeId} {cs:List Value} {x:DataW H × List MemPlace} {m:Nat} {e:TypeId}
 (ht:P.underlying t=some (.array m e)) (h:DataW.trod enc P w base spare held fuel t cs=some x) :
 ∃ (xs:List (DataW H × List MemPlace)) (n:Nat),fuel=n+1∧cs.length=P.cellsOf t∧xs.length=m ∧
  ∀ i,i < m→DataW.trod enc P w base spare held n e ((cs.drop (i * P.cellsOf e)).take (P.cellsOf e))=xs[i]?:=by
 cases fuel with
 | zero=>simp [DataW.trod] at h
 | succ n =>
  unfold DataW.trod at h
  rw [ht] at h
  split at h <;> simp_all
  obtain ⟨hl,xs,hp,hd⟩:=h
  exact ⟨xs,by simpa using mapM_some_length hp,fun i hi=>mapM_some_get hp i i (List.getElem?_range hi)⟩
def CellOk (ψ:Nat→FuncId) (W:World) (ct:CT) (v:Value):Prop :=
 ∃ a a',Ty ct a∧VD id (fun _=>False) a a'∧a'.cell=true∧VR ψ W (fun c=>c < W.heap.size) (fun _=>(0,0)) (fun _=>False) a' v
section
variable {H:Type} {enc:TypeId × Value→H} {P:Program} {W:World} {ψ:Nat→FuncId}
theorem fields_open {F:TypeId→Option (List CT)} {n:Nat} {cs:List Value}
 (hF:∀ t cs x ts,F t=some ts→DataW.trod enc P W 0 (fun _=>true) true n t cs=some x→cs.length=ts.length∧∀ (j:Nat) (ct:CT),ts[j]?=some ct→∃ v,cs[j]?=some v∧CellOk ψ W ct v) :
 ∀ (fs:List Field) (off:Nat) (ts:List CT),fieldsT F P fs off=some ts→(∀ f ∈ fs,∃ x,DataW.trod enc P W 0 (fun _=>true) true n f.type ((cs.drop f.offset).take (P.cellsOf f.type))=some x) →
  ∀ (j:Nat) (ct:CT),ts[j]?=some ct→∃ v,cs[off+j]?=some v∧CellOk ψ W ct v:=by
 intro fs
 induction fs with
 | nil=>intro off ts h _ j ct hj;simp only [fieldsT,Option.some.injEq] at h;subst h;simp at hj
 | cons f r ih =>
  intro off ts h hx j ct hj
  simp only [fieldsT,Option.bind_eq_some_iff] at h
  obtain ⟨t1,h1,h⟩:=h
  split at h
  · rename_i hc
    simp only [Option.map_eq_some_iff] at h
    obtain ⟨t2,h2,rfl⟩:=h
    rcases Nat.lt_or_ge j t1.length with hl | hl
    · rw [List.getElem?_append_left hl] at hj
      obtain ⟨x,q⟩:=hx f (by simp)
      obtain ⟨v,q1,q2⟩:=(hF _ _ _ _ h1 q).2 j ct hj
      refine ⟨v,?_,q2⟩
      rw [List.getElem?_take] at q1
      split at q1
      · rw [List.getElem?_drop] at q1;rw [← hc.1];exact q1
      · cases q1
    · rw [List.getElem?_append_right hl] at hj
      obtain ⟨v,q1,q2⟩:=ih _ _ h2 (fun f hf=>hx f (by simp [hf])) _ ct hj
      exact ⟨v,by rw [← q1];congr 1;omega,q2⟩
  · cases h
theorem cells_open:∀ (n k:Nat) (t:TypeId) (cs:List Value) (x:DataW H × List MemPlace) (ts:List CT),flatT P k t=some ts→DataW.trod enc P W 0 (fun _=>true) true n t cs=some x →
 cs.length=ts.length∧∀ (j:Nat) (ct:CT),ts[j]?=some ct→∃ v,cs[j]?=some v∧CellOk ψ W ct v:=by
 intro n
 induction n with
 | zero=>intro k t cs x ts _ h;simp [DataW.trod] at h
 | succ n ih =>
  intro k t cs x ts hf h
  cases k with
  | zero=>simp [flatT] at hf
  | succ k =>
   have one:∀ {v:Value} {ct:CT},cs=[v]→ts=[ct]→CellOk ψ W ct v→cs.length=ts.length∧∀ (j:Nat) (ct:CT),ts[j]?=some ct→∃ v,cs[j]?=some v∧CellOk ψ W ct v:=by
    intro v ct h1 h2 h3
    subst h1;subst h2
    refine ⟨rfl,fun j ct' hj=>?_⟩
    cases j with
    | zero=>simp only [List.getElem?_cons_zero,Option.some.injEq] at hj;subst hj;exact ⟨v,rfl,h3⟩
    | succ j=>simp at hj
   unfold flatT at hf
   split at hf
   · rename_i ht
     cases hf
     obtain ⟨b,e,_⟩:=DataW.trod_bool ht h
     exact one e rfl ⟨_,_,.bool b,.bool b,rfl,.bool b⟩
   · rename_i k' ht
     cases hf
     obtain ⟨m,e,_,hw⟩:=DataW.trod_int ht h
     simp only [Lit.wf,Bool.and_eq_true,decide_eq_true_eq] at hw
     exact one e rfl ⟨_,_,.int k' m hw.1 hw.2,.int k' m,rfl,.int k' m⟩
   · rename_i ht
     cases hf
     obtain ⟨s,e,_,hw⟩:=DataW.trod_string ht h
     refine one e rfl ⟨.str s.data.toList,_,.str _ ?_,.str _,rfl,?_⟩
     · simp only [maxLen] at hw
       have:s.data.toList.length=s.size:=rfl
       omega
     · have:=VR.str (ψ:=ψ) (w:=W) (S:=fun c=>c < W.heap.size) (m:=fun _=>(0,0)) (A:=fun _=>False) s.data.toList
       exact this
   · rename_i el ht
     simp only [Option.bind_eq_some_iff] at hf
     obtain ⟨us,hu,hf⟩:=hf
     split at hf
     · rename_i hz
       obtain ⟨hz,hz0⟩:=hz
       cases hf
       rcases DataW.trod_slice ht h with ⟨e,_⟩ | ⟨a,len,cap,elems,rest,n',hn,e,_,_,hl,hm,hlen,hel,hsp,_⟩
       · exact one e rfl ⟨.ro us.length [] true,.nils,.slice us [] true (by simp) (by simp) (by simp),.ronil _ _,rfl,.nils⟩
       · cases hn
         refine one e rfl ?_
         have row:∀ i,i < cap→∃ vs y,W.cells? 0 (a.add (i * us.length)) us.length=some vs∧DataW.trod enc P W 0 (fun _=>true) true n el vs=some y:=by
          intro i hi
          rcases Nat.lt_or_ge i len with hil | hil
          · have:=hel i hil
            rw [List.getElem?_eq_getElem (by omega),Option.bind_eq_some_iff,← hz] at this
            obtain ⟨vs,q1,q2⟩:=this
            exact ⟨vs,_,q1,q2⟩
          · obtain ⟨q0,q⟩:=hsp rfl
            have:=q (i - len) (by omega)
            rw [List.getElem?_eq_getElem (by omega),Option.bind_eq_some_iff,← hz,show len+(i - len)=i by omega] at this
            obtain ⟨vs,q1,q2⟩:=this
            exact ⟨vs,_,q1,q2⟩
         rcases Nat.eq_zero_or_pos cap with hc0 | hc0
         · subst hc0
           obtain rfl:len=0:=by omega
           exact ⟨.ro us.length [] true,.ro us.length [] true,.slice us [] true (by simp) (by simp) (by simp),.ro _ [] [] true true (by simp) rfl id (by simp) (by simp),rfl,.roe _ _ _ 0 (fun _=>rfl)⟩
         · obtain ⟨b,off,spot⟩:=a
           have hfirst:∃ v,W.cell? ⟨b,off,spot⟩=some v:=by
            obtain ⟨vs,_,q1,_⟩:=row 0 hc0
            obtain ⟨_,q2,q3⟩:=World.cells?_some q1
            have:=q3 0 hz0
            rw [List.getElem?_eq_getElem (by omega)] at this
            exact ⟨_,by simpa [Addr.add] using this⟩
           obtain ⟨v0,hv0⟩:=hfirst
           obtain rfl:spot=none:=World.cell?_spot hv0
           have hS:b < W.heap.size:=by
            unfold World.cell? at hv0
            split at hv0
            · rename_i hb;exact (Array.getElem?_eq_some_iff.1 hb).1
            · cases hv0
           have key:∀ p:Nat × Nat,∃ q:Value × AV × AV,p.1 < len→∀ ct,us[p.2]?=some ct→W.cell? ⟨b,off+p.1 * us.length+p.2,none⟩=some q.1∧Ty ct q.2.1∧VD id (fun _=>False) q.2.1 q.2.2∧q.2.2.cell=true ∧
            VR ψ W (fun c=>c < W.heap.size) (fun _=>(0,0)) (fun _=>False) q.2.2 q.1:=by
            intro ⟨i,j⟩
            by_cases hi:i < len
            · cases hj:us[j]? with
              | none=>exact ⟨default,fun _ ct q=>by cases q⟩
              | some ct =>
               obtain ⟨vs,y,q1,q2⟩:=row i (by omega)
               obtain ⟨v,q3,c1,c2,q4,q5,q6,q7⟩:=(ih _ _ _ _ _ hu q2).2 j ct hj
               refine ⟨(v,c1,c2),fun _ ct' q=>?_⟩
               cases q
               refine ⟨?_,q4,q5,q6,q7⟩
               obtain ⟨_,r1,r2⟩:=World.cells?_some q1
               have hjl:j < us.length:=(List.getElem?_eq_some_iff.1 hj).1
               have:=r2 j hjl
               rw [q3] at this
               rw [← this]
               congr 1
               simp only [Addr.add]
               split <;> split <;> simp_all <;> omega
            · exact ⟨default,fun q=>absurd q hi⟩
           obtain ⟨F,hF⟩:=Classical.axiomOfChoice key
           let es:List (List AV):=(List.range len).map fun i=>(List.range us.length).map fun j=>(F (i,j)).2.1
           let es':List (List AV):=(List.range len).map fun i=>(List.range us.length).map fun j=>(F (i,j)).2.2
           have g1:∀ (i:Nat) (e:List AV),es[i]?=some e→i < len∧e=(List.range us.length).map fun j=>(F (i,j)).2.1:=by
            intro i e he
            simp only [es,List.getElem?_map,Option.map_eq_some_iff] at he
            obtain ⟨i',q1,q2⟩:=he
            have:=List.getElem?_eq_some_iff.1 q1
            obtain ⟨q3,q4⟩:=this
            simp at q3 q4
            subst q4
            exact ⟨q3,q2.symm⟩
           have g1':∀ (i:Nat) (e:List AV),es'[i]?=some e→i < len∧e=(List.range us.length).map fun j=>(F (i,j)).2.2:=by
            intro i e he
            simp only [es',List.getElem?_map,Option.map_eq_some_iff] at he
            obtain ⟨i',q1,q2⟩:=he
            have:=List.getElem?_eq_some_iff.1 q1
            obtain ⟨q3,q4⟩:=this
            simp at q3 q4
            subst q4
            exact ⟨q3,q2.symm⟩
           have g2:∀ (G:Nat→AV) (j:Nat) (x:AV),((List.range us.length).map G)[j]?=some x→∃ ct,us[j]?=some ct∧x=G j:=by
            intro G j x hx
            simp only [List.getElem?_map,Option.map_eq_some_iff] at hx
            obtain ⟨j',q1,q2⟩:=hx
            obtain ⟨q3,q4⟩:=List.getElem?_eq_some_iff.1 q1
            simp at q3 q4
            subst q4
            exact ⟨us[j],List.getElem?_eq_getElem q3,q2.symm⟩
           have l1:es.length=len:=by simp [es]
           have l2:es'.length=len:=by simp [es']
           refine ⟨.ro us.length es (decide (cap=len)),.ro us.length es' (decide (cap=len)),.slice us es _ ?_ ?_ ?_,.ro _ es es' _ _ ?_ (by rw [l1,l2]) id ?_ ?_,rfl,?_⟩
           · rw [l1];simp only [maxLen] at hm;omega
           · intro i e he;rw [(g1 i e he).2];simp
           · intro i e j ct y he hct hy
             obtain ⟨q1,rfl⟩:=g1 i e he
             obtain ⟨ct',q2,rfl⟩:=g2 _ j y hy
             rw [hct] at q2
             cases q2
             exact (hF (i,j) q1 ct hct).2.1
           · intro e he y hy
             obtain ⟨i,he⟩:=List.getElem?_of_mem he
             obtain ⟨j,hy⟩:=List.getElem?_of_mem hy
             obtain ⟨q1,rfl⟩:=g1 i e he
             obtain ⟨ct',q2,rfl⟩:=g2 _ j y hy
             exact (hF (i,j) q1 ct' q2).2.1.isC
           · intro i e e' he he'
             rw [(g1 i e he).2,(g1' i e' he').2];simp
           · intro i e e' j y y' he he' hy hy'
             obtain ⟨q1,rfl⟩:=g1 i e he
             obtain ⟨_,rfl⟩:=g1' i e' he'
             obtain ⟨ct',q2,rfl⟩:=g2 _ j y hy
             obtain ⟨_,_,rfl⟩:=g2 _ j y' hy'
             exact (hF (i,j) q1 ct' q2).2.2.1
           · have:=VR.ro (ψ:=ψ) (w:=W) (S:=fun c=>c < W.heap.size) (m:=fun _=>(0,0)) (A:=fun _=>False) us.length es' (decide (cap=len)) b off cap (fun i j=>(F (i,j)).1) hS
              (fun i e he=>by rw [(g1' i e he).2];simp) (by rw [l2];exact hl) (fun q=>by rw [l2];simpa using q)
              (fun i e j y he hy=>by
               obtain ⟨q1,rfl⟩:=g1' i e he
               obtain ⟨ct',q2,rfl⟩:=g2 _ j y hy
               have:=hF (i,j) q1 ct' q2
               exact ⟨this.2.2.2.1,this.1⟩)
              (fun i e j y he hy=>by
               obtain ⟨q1,rfl⟩:=g1' i e he
               obtain ⟨ct',q2,rfl⟩:=g2 _ j y hy
               exact (hF (i,j) q1 ct' q2).2.2.2.2)
             rw [l2] at this
             exact this
     · cases hf
   · rename_i fs ht
     simp only [Option.bind_eq_some_iff] at hf
     obtain ⟨us,hu,hf⟩:=hf
     split at hf
     · rename_i hz
       cases hf
       obtain ⟨xs,n',hn,_,hcl,hxl,hx⟩:=DataW.trod_struct ht h
       cases hn
       refine ⟨by rw [hcl,hz],fun j ct hj=>?_⟩
       have:=fields_open (cs:=cs) (F:=flatT P k) (n:=n) (fun t cs x ts h1 h2=>ih k t cs x ts h1 h2) fs.toList 0 _ hu (fun f hf=>by
        obtain ⟨i,hi⟩:=List.getElem?_of_mem hf
        have hi':fs[i]?=some f:=by simpa using hi
        have hlt:i < fs.size:=(Array.getElem?_eq_some_iff.1 hi').1
        have:=hx i f hi'
        rw [List.getElem?_eq_getElem (by omega)] at this
        exact ⟨_,this⟩) j ct hj
       simpa using this
     · cases hf
   · rename_i m' e ht
     simp only [Option.bind_eq_some_iff] at hf
     obtain ⟨us,hu,hf⟩:=hf
     split at hf
     · rename_i hz
       obtain ⟨hz1,hz2⟩:=hz
       cases hf
       obtain ⟨xs,n',hn,hcl,hxl,hx⟩:=trod_array ht h
       cases hn
       have hlen:(List.replicate m' us).flatten.length=m' * us.length:=by simp
       refine ⟨by rw [hcl,hlen,hz2],fun j ct hj=>?_⟩
       have hjl:j < m' * us.length:=by rw [← hlen];exact (List.getElem?_eq_some_iff.1 hj).1
       have hk:0 < us.length:=by
        rcases Nat.eq_zero_or_pos us.length with q | q
        · rw [q,Nat.mul_zero] at hjl;omega
        · exact q
       rw [flatten_rep us m' j hjl] at hj
       have hq:j / us.length < m':=Nat.div_lt_of_lt_mul (by rw [Nat.mul_comm];exact hjl)
       have hxq:=hx (j / us.length) hq
       rw [List.getElem?_eq_getElem (by omega)] at hxq
       obtain ⟨v,q1,q2⟩:=(ih k e _ _ us hu hxq).2 (j % us.length) ct hj
       refine ⟨v,?_,q2⟩
       rw [List.getElem?_take] at q1
       split at q1
       · rw [List.getElem?_drop,← hz1] at q1
         rw [← q1];congr 1
         exact (Nat.div_add_mod' j us.length).symm
       · cases q1
     · cases hf
   · cases hf
inductive AT where
 | c (ct:CT)
 | g (ts:List CT)
def AT.has:AT→AV→Prop
 | .c ct,a=>Ty ct a
 | .g ts,a=>∃ es,a=.agg es∧es.length=ts.length∧∀ (j:Nat) (ct:CT) (x:AV),ts[j]?=some ct→es[j]?=some x→Ty ct x
def argT (P:Program) (t:TypeId):Option AT :=
 match P.underlying t with
 | some (.struct _)=>(flatT P 20 t).map .g
 | some (.array _ _)=>(flatT P 20 t).map .g
 | some .bool | some (.int _) | some .string | some (.slice _)=>match flatT P 20 t with | some [ct]=>some (.c ct) | _=>none
 | _=>none
theorem cells_plain {t:TypeId} {base:Nat} {v:Value} (hu:P.underlying t=some .bool∨(∃ k,P.underlying t=some (.int k))∨P.underlying t=some .string∨∃ e,P.underlying t=some (.slice e)) (h:Value.okWide P W .any base t v) :
 v.cells=#[v]:=by
 cases v <;> try rfl
 rcases hu with hu | ⟨k,hu⟩ | hu | ⟨e,hu⟩ <;> simp [Value.okWide,hu,Cell.okWide,Cell.ok] at h
theorem arg_open {t:TypeId} {at_:AT} (ha:argT P t=some at_) {base:Nat} {v:Value} (hv:Value.okWide P W .any base t v) {d:DataW H} {p:List MemPlace} (h:DataW.Trod enc P W 0 (fun _=>true) true t v d p) :
 ∃ a a',at_.has a∧VD id (fun _=>False) a a'∧VR ψ W (fun c=>c < W.heap.size) (fun _=>(0,0)) (fun _=>False) a' v:=by
 obtain ⟨fuel,h⟩:=h
 have plain:(P.underlying t=some .bool∨(∃ k,P.underlying t=some (.int k))∨P.underlying t=some .string∨∃ e,P.underlying t=some (.slice e)) →
  (match flatT P 20 t with | some [ct]=>some (AT.c ct) | _=>none)=some at_→∃ a a',at_.has a∧VD id (fun _=>False) a a'∧VR ψ W (fun c=>c < W.heap.size) (fun _=>(0,0)) (fun _=>False) a' v:=by
  intro hu he
  split at he
  · rename_i ct hf
    cases he
    rw [cells_plain hu hv] at h
    obtain ⟨_,q⟩:=cells_open (ψ:=ψ) _ _ _ _ _ _ hf h
    obtain ⟨v',q1,a,a',q2,q3,_,q4⟩:=q 0 ct rfl
    simp only [List.getElem?_cons_zero,Option.some.injEq] at q1
    subst q1
    exact ⟨a,a',q2,q3,q4⟩
  · cases he
 have whole:(∃ cs,v=.agg cs)→(flatT P 20 t).map AT.g=some at_→∃ a a',at_.has a∧VD id (fun _=>False) a a'∧VR ψ W (fun c=>c < W.heap.size) (fun _=>(0,0)) (fun _=>False) a' v:=by
  rintro ⟨cs,rfl⟩ ha
  simp only [Option.map_eq_some_iff] at ha
  obtain ⟨ts,hf,rfl⟩:=ha
  obtain ⟨hl,q⟩:=cells_open (ψ:=ψ) _ _ _ _ _ _ hf h
  simp only [Value.cells] at hl q
  have key:∀ j:Nat,∃ x:AV × AV,∀ ct,ts[j]?=some ct→Ty ct x.1∧VD id (fun _=>False) x.1 x.2∧x.2.cell=true∧∃ v,cs.toList[j]?=some v∧VR ψ W (fun c=>c < W.heap.size) (fun _=>(0,0)) (fun _=>False) x.2 v:=by
   intro j
   cases hj:ts[j]? with
   | none=>exact ⟨default,fun _ q=>by cases q⟩
   | some ct =>
    obtain ⟨v,q1,a,a',q2,q3,q4,q5⟩:=q j ct hj
    exact ⟨(a,a'),fun ct' e=>by cases e;exact ⟨q2,q3,q4,v,q1,q5⟩⟩
  obtain ⟨F,hF⟩:=Classical.axiomOfChoice key
  have g2:∀ (G:Nat→AV) (j:Nat) (x:AV),((List.range ts.length).map G)[j]?=some x→∃ ct,ts[j]?=some ct∧x=G j:=by
   intro G j x hx
   simp only [List.getElem?_map,Option.map_eq_some_iff] at hx
   obtain ⟨j',q1,q2⟩:=hx
   obtain ⟨q3,q4⟩:=List.getElem?_eq_some_iff.1 q1
   simp at q3 q4
   subst q4
   exact ⟨ts[j],List.getElem?_eq_getElem q3,q2.symm⟩
  refine ⟨.agg ((List.range ts.length).map fun j=>(F j).1),.agg ((List.range ts.length).map fun j=>(F j).2),⟨_,rfl,by simp,?_⟩,.agg _ _ (by simp) ?_,.agg _ _ ?_ ?_ ?_⟩
  · intro j ct x hct hx
    obtain ⟨ct',q1,rfl⟩:=g2 _ j x hx
    exact (hF j ct hct).1
  · intro j x x' hx hx'
    obtain ⟨ct,q1,rfl⟩:=g2 _ j x hx
    obtain ⟨_,_,rfl⟩:=g2 _ j x' hx'
    exact (hF j ct q1).2.1
  · simp only [List.length_map,List.length_range]
    rw [← hl];simp
  · intro j x hx
    obtain ⟨ct,q1,rfl⟩:=g2 _ j x hx
    exact (hF j ct q1).2.2.1
  · intro j x hx
    obtain ⟨ct,q1,rfl⟩:=g2 _ j x hx
    obtain ⟨v,q2,q3⟩:=(hF j ct q1).2.2.2
    have e:cs[j]?=some v:=by simpa using q2
    rw [Array.getD_eq_getD_getElem?,e]
    exact q3
 unfold argT at ha
 split at ha
 · rename_i fs ht
   simp only [Value.okWide,ht] at hv
   obtain ⟨cs,hv,_,_⟩:=hv
   exact whole ⟨cs,hv⟩ ha
 · rename_i m e ht
   simp only [Value.okWide,ht] at hv
   obtain ⟨cs,hv,_,_⟩:=hv
   exact whole ⟨cs,hv⟩ ha
 · rename_i ht;exact plain (.inl ht) ha
 · rename_i k ht;exact plain (.inr (.inl ⟨k,ht⟩)) ha
 · rename_i ht;exact plain (.inr (.inr (.inl ht))) ha
 · rename_i e ht;exact plain (.inr (.inr (.inr ⟨e,ht⟩))) ha
 · cases ha
def TyAll:List AT→List AV→Prop
 | [],[]=>True
 | a::r,x::s=>a.has x∧TyAll r s
 | _,_=>False
theorem args_open {base:Nat}:∀ {ts:List TypeId} {ats:List AT} {vs:List Value} {ds:List (DataW H)} {p:List MemPlace},ts.map (argT P)=ats.map some →
 (∀ (j:Nat) (t:TypeId) (v:Value),ts[j]?=some t→vs[j]?=some v→Value.okWide P W .any base t v)→DataW.TrodAll enc P W 0 (fun _=>true) true ts vs ds p →
 ∃ us us',TyAll ats us∧Rel2 (VD id fun _=>False) us us'∧us'.length=vs.length∧∀ (j:Nat) (x:AV) (v:Value),us'[j]?=some x→vs[j]?=some v→VR ψ W (fun c=>c < W.heap.size) (fun _=>(0,0)) (fun _=>False) x v
 | [],[],vs,ds,p,_,_,h=>by
  obtain ⟨rfl,_,_⟩:=ChangeShapes.trodAll_nil h
  exact ⟨[],[],trivial,⟨rfl,by simp⟩,rfl,by simp⟩
 | t::ts,at_::ats,_,_,_,hm,hv,h=>by
  obtain ⟨v,vs1,d,ds1,p1,q1,rfl,rfl,rfl,h1,h2⟩:=ChangeShapes.trodAll_cons h
  simp only [List.map_cons,List.cons.injEq] at hm
  obtain ⟨a,a',r1,r2,r3⟩:=arg_open (ψ:=ψ) hm.1 (hv 0 t v rfl rfl) h1
  obtain ⟨us,us',s1,s2,s3,s4⟩:=args_open hm.2 (fun j t v e1 e2=>hv (j+1) t v e1 e2) h2
  refine ⟨a::us,a'::us',⟨r1,s1⟩,⟨by simp [s2.1],fun j x x' e1 e2=>?_⟩,by simp [s3],fun j x v' e1 e2=>?_⟩
  · cases j with
    | zero=>cases e1;cases e2;exact r2
    | succ j=>exact s2.2 j x x' e1 e2
  · cases j with
    | zero=>cases e1;cases e2;exact r3
    | succ j=>exact s4 j x v' e1 e2
 | [],_::_,_,_,_,hm,_,_=>by simp at hm
 | _::_,[],_,_,_,hm,_,_=>by simp at hm
theorem law_calls {Φ:Nat→FuncId→Option Nat} {D:WProg} (hL:Linked P Φ ψ (erProg D)) (hok:okTree D.fns=true) {f:Nat} {ts:List TypeId} {ats:List AT} (hts:ts.map (argT P)=ats.map some)
 (core:∀ us,TyAll ats us→FnW D f us=some (.bool true)) {base:Nat} {args:Array Value} {ds:List (DataW H)} {p:List MemPlace}
 (hv:∀ (j:Nat) (t:TypeId) (v:Value),ts[j]?=some t→args[j]?=some v→Value.okWide P W .any base t v) (hA:DataW.TrodAll enc P W 0 (fun _=>true) true ts args.toList ds p) :
 Calls P (ψ f) args W fun e W'=>e=.returned (.bool true)∧(∀ c,c < W.heap.size→W'.heap[c]?=W.heap[c]?)∧W.heap.size≤W'.heap.size∧W'.os=W.os∧W'.output=W.output:=by
 obtain ⟨us,us',h1,h2,h3,h4⟩:=args_open (ψ:=ψ) hts (fun j t v e1 e2=>hv j t v e1 (by simpa using e2)) hA
 obtain ⟨n,hc⟩:=fnW_call.1 (core us h1)
 obtain ⟨v',hc',hvd⟩:=callW_ok hok h2 hc
 rw [hvd.bool_inv] at hc'
 refine (callF_ok hL hc' (w:=W) (S:=fun c=>c < W.heap.size) (m:=fun _=>(0,0)) (cargs:=args) (fun _ h=>h) (by rw [h3];simp) fun j x hx=>?_).mono ?_
 · have hj:j < args.size:=by have:=(List.getElem?_eq_some_iff.1 hx).1;rw [h3] at this;simpa using this
   rw [Array.getD_eq_getD_getElem?,Array.getElem?_eq_getElem hj]
   exact h4 j x _ hx (by simp [hj])
 · rintro e W' ⟨cv,S',m',rfl,hr,q1,q2,q3,q4⟩
   rw [hr.inv_bool]
   exact ⟨rfl,q1,q2,q3,q4⟩
theorem trodAll_old {W':World} (hh:∀ c,c < W.heap.size→W'.heap[c]?=W.heap[c]?) {base:Nat} {sp:Nat→Bool} {held:Bool}:∀ {ts:List TypeId} {vs:List Value} {ds:List (DataW H)} {ps:List MemPlace},
 DataW.TrodAll enc P W base sp held ts vs ds ps→(∀ p ∈ ps,p.block < W.heap.size)→DataW.TrodAll enc P W' base sp held ts vs ds ps
 | [],[],[],_,h,_=>h
 | _::_,_::_,_::_,_,⟨p,q,⟨n,h1⟩,h2,e⟩,hs=>⟨p,q,⟨n,DataW.trod_carry n _ _ _ h1 fun x hx=>by
  have hlt:=hs x (by rw [e];exact List.mem_append_left _ hx)
  cases x with
  | cell b off=>simp only [World.sameAt,World.cell?];rw [hh b hlt]
  | map b=>exact hh b hlt⟩,trodAll_old hh h2 (fun x hx=>hs x (by rw [e];exact List.mem_append_right _ hx)),e⟩
theorem keptBut_old {W':World} (hh:∀ c,c < W.heap.size→W'.heap[c]?=W.heap[c]?) (ho:W'.os=W.os) (hp:W'.output=W.output) (may:MemPlace→Prop):W.keptBut W' may:=by
 have h:=World.keptBut_refl W may
 refine ⟨ho,hp,fun i hi=>?_⟩
 have:=h.2.2 i hi
 rw [hh i hi]
 exact this
theorem law_post {f:Func} {s:ChangeSpec} {fresh handsOn again:Bool} {W':World} {args:Array Value} {ds gs:List (DataW H)} {before:List MemPlace} {tb:TypeId}
 (kids:Kids P (· < P.types.size)) (full:∀ t e,t < P.types.size→P.underlying t=some (.slice e)→0 < P.cellsOf e)
 (hvars0:s.vars=[]) (hW:DataW.Whole enc P f.params.toList s.vars false W args.toList ds gs before) (hfn:s.fn H (ds++gs)={ results:=[.lit (.bool true)],args:=ds })
 (hps:∀ t ∈ f.params.toList,t < P.types.size) (hr:f.resultTypes=#[tb]) (htb:P.underlying tb=some .bool)
 (hh:∀ c,c < W.heap.size→W'.heap[c]?=W.heap[c]?) (_hsz:W.heap.size≤W'.heap.size) (ho:W'.os=W.os) (hp:W'.output=W.output) :
 s.post enc P f false fresh handsOn again W args (.bool true) W':=by
 have hlt:∀ p ∈ before,p.block < W.heap.size:=hW.lt
 have hW':=hW
 obtain ⟨p,q,hA,hV,rfl,hz,_⟩:=hW
 rw [hvars0] at hV
 obtain ⟨rfl,rfl⟩:=ChangeShapes.trodVars_none hV
 simp only [List.append_nil] at hlt hz hW' hfn
 have hargs:∀ sp:Nat→Bool,(∀ x ∈ p,sp x.block=true)→DataW.TrodAll enc P W' 0 sp true f.params.toList args.toList ds p:=fun sp hsp =>
  trodAll_old hh (DataW.TrodAll.respare kids full hps hA hsp) hlt
 have hvars:∀ sp:Nat→Bool,DataW.TrodVars enc P W' sp s.vars [] []:=fun sp=>by rw [hvars0];rfl
 have hres:∀ (b:Nat) (sp:Nat→Bool) (hd:Bool),DataW.TrodAll enc P W' b sp hd f.resultTypes.toList ((Value.bool true).resultList f.resultTypes.size) [.lit (.bool true)] []:=fun b sp hd=>by
  rw [hr];exact ChangeShapes.trodAll_mk1 (RowKit.shut_bool htb true)
 have hok:∀ (j:Nat) (t:TypeId) (r:Value),f.resultTypes[j]?=some t→((Value.bool true).resultList f.resultTypes.size)[j]?=some r→Value.okWide P W' .any 0 t r :=
  RowKit.ok_one hr rfl (by simp [Value.okWide,htb,Cell.okWide,Cell.ok])
 have hold:∀ x ∈ p,(fun b=>decide (b < W.heap.size)) x.block=true:=fun x hx=>by simpa using hlt x hx
 refine ⟨ds,[],p,[],p,[],hW',?_,?_,?_,keptBut_old hh ho hp _,fun _=>⟨hok,[.lit (.bool true)]++ds,[],([]++p)++[],⟨[]++p,[],?_,hvars _,rfl,?_,fun h=>by cases h⟩,?_⟩⟩
 · rw [List.append_nil,hfn];exact hres _ _ _
 · rw [List.append_nil,hfn];exact hargs _ hold
 · rw [List.append_nil,hfn];exact hvars _
 · exact ChangeShapes.trodAll_append (hargs _ fun _ _=>rfl) (hres _ _ _)
 · intro b off hb
   simp only [List.nil_append,List.append_nil] at hb
   have:=hz b off hb
   unfold World.frozen? at this ⊢
   rw [hh b (hlt _ hb)]
   exact this
 · intro x hx _
   simpa using hx
theorem trodAll_len {base:Nat} {sp:Nat→Bool} {held:Bool}:∀ {ts:List TypeId} {vs:List Value} {ds:List (DataW H)} {ps:List MemPlace},DataW.TrodAll enc P W base sp held ts vs ds ps→ds.length=ts.length
 | [],[],[],_,_=>rfl
 | _::_,_::_,_::_,_,⟨_,_,_,h2,_⟩=>by simp [trodAll_len h2]
def isTrue:Option AV→Bool
 | some (.bool true)=>true
 | _=>false
theorem isTrue_eq {o:Option AV} (h:isTrue o=true):o=some (.bool true):=by
 unfold isTrue at h
 split at h
 · rfl
 · cases h
end
end Go.Pw
end
section
namespace Go.Pw
open Go Go.Pav
theorem ty_map2 {α:Type} {g:α→List AV} {Q:List AV→Prop} {R:α→Prop} (h:∀ a,Q a→∃ x,a=g x∧R x):∀ (xs:List (List AV)),(∀ x ∈ xs,Q x)→∃ ys:List α,xs=ys.map g∧∀ y ∈ ys,R y:=by
 intro xs
 induction xs with
 | nil=>intro _;exact ⟨[],rfl,by simp⟩
 | cons a r ih =>
  intro hx
  obtain ⟨y,rfl,hy⟩:=h a (hx a (by simp))
  obtain ⟨ys,rfl,hys⟩:=ih fun x q=>hx x (by simp [q])
  exact ⟨y::ys,rfl,by simpa using ⟨hy,hys⟩⟩
theorem ty_slice {ts:List CT} {a:AV} (h:Ty (.slice ts) a):∃ (es:List (List AV)) (e:Bool),a=.ro ts.length es e∧es.length < 2 ^ 63∧∀ x ∈ es,x.length=ts.length∧∀ (j:Nat) (ct:CT) (v:AV),ts[j]?=some ct→x[j]?=some v→Ty ct v:=by
 cases h with
 | slice ts es ex hn hw h =>
  refine ⟨es,ex,rfl,hn,fun x hx=>?_⟩
  obtain ⟨i,hi⟩:=List.getElem?_of_mem hx
  exact ⟨hw i x hi,fun j ct v e1 e2=>h i x j ct v hi e1 e2⟩
theorem ty_u8 {v:AV} (h:Ty (.int .u8) v):∃ n:Int,v=.int .u8 n∧0≤n∧n≤255:=by
 cases h with
 | int k n h1 h2=>exact ⟨n,rfl,h1,h2⟩
end Go.Pw
end
section
namespace Go.Proofs.YtfkdbfgdncamdaaGreat
open Go.ChangeShapes Go.WideShapes Go.ChangeAt Go.RowKit Go.Pav Go.Pw P
theorem own_:ownKnob Tryz.prog.godebug=none:=by kernel_rfl
theorem kids_:Kids Tryz.prog (· < Tryz.prog.types.size):=kids_rows (by kernel_rfl) (by kernel_rfl)
theorem full_:∀ t e,t < Tryz.prog.types.size→Tryz.prog.underlying t=some (.slice e)→0 < Tryz.prog.cellsOf e:=slices_full_of Tryz.prog (by kernel_rfl)
end Go.Proofs.YtfkdbfgdncamdaaGreat
end
section
namespace Go.D
open Go Go.Pav Go.Pw P
attribute [-simp] List.getElem_cons_drop
variable {C:WProg}
structure It where
 (k t:Int) (x:List UInt8) (m:List (List UInt8)) (e:Bool)
abbrev eIt (i:It):AV:=.agg [.int .u64 i.k,.int .u8 i.t,.str i.x,.ro 1 (i.m.map eS) i.e]
structure HasI (C:WProg):Prop extends HasS C where
 f398:C.fns.get 398=some w398
 f424:C.fns.get 424=some w424
 f494:C.fns.get 494=some w494
 f496:C.fns.get 496=some w496
 f497:C.fns.get 497=some w497
 f498:C.fns.get 498=some w498
 f499:C.fns.get 499=some w499
 f544:C.fns.get 544=some w544
theorem name_loop (H:HasS C) (s:List UInt8) (hl:s.length≤16):∀ n i,n+i=s.length →
 w511_K0 C ⟨[(3,.int .i64 i),(0,.str s)],[],0⟩=some (.int .i64 (if (s.drop i).all inN=true then 1 else 0)):=by
 intro n
 induction n with
 | zero =>
  intro i hi
  simp only [w511_K0];rw [ck_unf w511_B0.eq_1]
  have h1:s.drop i=[]:=List.drop_eq_nil_of_le (by omega)
  have h3:¬ i < s.length:=by omega
  simp [ck_unf w511_c0.eq_1,h1,h3]
 | succ n ih =>
  intro i hi
  have h1:i < s.length:=by omega
  have:=ih (i+1) (by omega)
  simp only [w511_K0] at this ⊢;rw [ck_unf w511_B0.eq_1]
  rw [drop_cons h1]
  generalize hX:((s.drop (i+1)).all inN)=X at *
  simp at this
  rw [List.all_cons,hX]
  have key:=inN_cases s[i]
  by_cases q1:97≤s[i].toNat <;> by_cases q2:s[i].toNat≤122 <;> by_cases q3:48≤s[i].toNat <;> by_cases q4:s[i].toNat≤57 <;> first
   | (exfalso;omega)
   | (have c : inN s[i] = true := by rcases key with ⟨c, _⟩ | ⟨_, q⟩ <;> first | exact c | (exfalso; omega)
      simp (disch:=omega) [h1,wI64,c,q1,q2,q3,q4,this];done)
   | (have c : inN s[i] = false := by rcases key with ⟨_, q⟩ | ⟨c, _⟩ <;> first | exact c | (exfalso; omega)
      simp (disch:=omega) [h1,wI64,c,q1,q2,q3,q4];done)
theorem name_ok (H:HasS C) (s:List UInt8):FnW C 511 [.str s]=some (.int .i64 (if isName s=true then 1 else 0)):=by
 rw [fnW_eq H.f511 rfl]
 unfold isName
 by_cases c1:1≤s.length
 · by_cases c2:s.length≤16
   · have:=name_loop H s c2 s.length 0 (by simp)
     simp only [w511_K0] at this
     simp only [List.drop_zero] at this
     generalize hX:s.all inN=X at *
     simp at this
     have c3:¬ ((s.length:Int) < 1):=by omega
     have c4:¬ (16 < (s.length:Int)):=by omega
     simp [w511,c1,c2,c3,c4,this]
   · have c3:¬ ((s.length:Int) < 1):=by omega
     have c4:(16 < (s.length:Int)):=by omega
     simp [w511,c1,c2,c3,c4]
 · have c3:((s.length:Int) < 1):=by omega
   simp [w511,c1,c3]
theorem pred496 (H:HasI C):Pred C 496 inT where
 asc b hb:=by
  rw [fnW_eq H.f496 rfl]
  by_cases c1:32≤b.toNat <;> by_cases c2:126 < b.toNat
  · have c:inT b=false:=decide_eq_false (fun q=>by omega)
    simp [w496,c,c1,c2]
  · have c:inT b=true:=decide_eq_true ⟨c1,by omega⟩
    simp [w496,c,c1,c2]
  · omega
  · have c:inT b=false:=decide_eq_false (fun q=>c1 q.1)
    simp [w496,c,c1,c2]
 high r hr:=by
  rw [fnW_eq H.f496 rfl]
  have h1:32≤r:=by omega
  have h2:126 < r:=by omega
  simp [w496,h1,h2]
 qh b hb:=decide_eq_false (fun q=>by omega)
 ne:=by rfl
 ni:=by rfl
structure PredS (C:WProg) (g:Nat) (Q:List UInt8→Bool):Prop where
 ok:∀ s,FnW C g [.str s]=some (.bool (!Q s))
 ne:ppB g=false
 ni:inlB g=false
theorem indexS_loop (H:HasI C) {g:Nat} {Q:List UInt8→Bool} (G:PredS C g Q) (l:List (List UInt8)) (e:Bool) (hl:l.length≤1000000):∀ n i,n+i=l.length →
 ∃ v:Int,w544_K0 C ⟨[(8,.int .i64 i),(7,.int .i64 l.length),(1,.fn g []),(0,.ro 1 (l.map eS) e)],[],0⟩=some (.int .i64 v)∧decide (v < 0)=(l.drop i).all Q:=by
 intro n
 induction n with
 | zero =>
  intro i hi
  simp only [w544_K0];rw [ck_unf w544_B0.eq_1]
  have h1:l.drop i=[]:=List.drop_eq_nil_of_le (by omega)
  have h3:¬ i < l.length:=by omega
  exact ⟨-1,by simp [ck_unf w544_c0.eq_1,h3],by simp [h1]⟩
 | succ n ih =>
  intro i hi
  have h1:i < l.length:=by omega
  have hN:=G.ne;have hI:=G.ni
  have hb:=G.ok l[i]
  rw [drop_cons h1]
  by_cases c:Q l[i]=true
  · obtain ⟨v,hv,hq⟩:=ih (i+1) (by omega)
    refine ⟨v,?_,by simp [hq,c]⟩
    simp only [w544_K0] at hv ⊢;rw [ck_unf w544_B0.eq_1]
    simp at hv
    simp (disch:=omega) [h1,wI64,hb,c,H.inl,hI,H.pp,hN,hv]
  · refine ⟨i,?_,by simp [c]⟩
    simp only [w544_K0];rw [ck_unf w544_B0.eq_1]
    simp (disch:=omega) [h1,hb,c,H.inl,hI,H.pp,hN]
theorem containsS_ok (H:HasI C) {g:Nat} {Q:List UInt8→Bool} (G:PredS C g Q) (l:List (List UInt8)) (e:Bool) (hl:l.length≤1000000) :
 FnW C 498 [.ro 1 (l.map eS) e,.fn g []]=some (.bool (!l.all Q)):=by
 obtain ⟨v,h,q⟩:=indexS_loop H G l e hl l.length 0 (by simp)
 simp at q
 have h2:FnW C 544 [.ro 1 (l.map eS) e,.fn g []]=some (.int .i64 v):=by
  rw [fnW_eq H.f544 rfl]
  simp only [w544_K0] at h
  simp at h
  simp [w544,h]
 rw [fnW_eq H.f498 rfl]
 have q':decide (v < 0)=l.all Q:=by simpa using q
 rw [← q']
 by_cases c:v < 0
 · have c':¬ 0≤v:=by omega
   simp [w498,H.inl,inlB,H.pp,ppB,h2,c,c']
 · have c':0≤v:=by omega
   simp [w498,H.inl,inlB,H.pp,ppB,h2,c,c']
theorem pred499 (H:HasI C):PredS C 499 isName where
 ok s:=by
  have:=iname_ok H.toHasS s
  rw [fnW_eq H.f499 rfl]
  simp [w499,H.inl,inlB,H.pp,ppB,this]
 ne:=by rfl
 ni:=by rfl
def itOk (n:Int) (i:It):Bool:=decide (i.k≠0)&&decide (i.t < n)&&isText i.x&&(decide (i.m.length≤8)&&i.m.all isName)
theorem icheck_ok (H:HasI C) (i:It) (n:Int) (ht:0≤i.t∧i.t≤255):FnW C 398 [eIt i,.int .i64 n]=some (.int .i64 (if itOk n i=true then 0 else 6)):=by
 have h1:FnW C 494 [.rop [.int .u64 i.k,.int .u8 i.t,.str i.x,.ro 1 (i.m.map eS) i.e]]=some (.bool (isText i.x)):=by
  have:=contains_ok H.toHasS (pred496 H) i.x
  rw [fnW_eq H.f494 rfl]
  unfold isText
  by_cases c2:i.x.length≤64
  · have c4:(i.x.length:Int)≤64:=by omega
    simp [w494,c2,c4,H.inl,inlB,H.pp,ppB,this]
  · have c4:¬ ((i.x.length:Int)≤64):=by omega
    simp [w494,c2,c4]
 have h2:FnW C 497 [.rop [.int .u64 i.k,.int .u8 i.t,.str i.x,.ro 1 (i.m.map eS) i.e]]=some (.bool (decide (i.m.length≤8)&&i.m.all isName)):=by
  rw [fnW_eq H.f497 rfl]
  by_cases c2:i.m.length≤8
  · have:=containsS_ok H (pred499 H) i.m i.e (by omega)
    have c4:(i.m.length:Int)≤8:=by omega
    simp [w497,c2,c4,H.inl,inlB,H.pp,ppB,this]
  · have c4:¬ ((i.m.length:Int)≤8):=by omega
    simp [w497,c2,c4]
 rw [fnW_eq H.f398 rfl]
 unfold itOk
 generalize isText i.x=X at *
 generalize (decide (i.m.length≤8)&&i.m.all isName)=M at *
 by_cases c1:i.k=0
 · simp [w398,c1]
 · by_cases c2:n≤i.t
   · have c3:¬ i.t < n:=by omega
     simp (disch:=omega) [w398,c1,c2,c3,wI64]
   · have c3:i.t < n:=by omega
     cases X
     · simp (disch:=omega) [w398,c1,c2,c3,wI64,H.inl,inlB,H.pp,ppB,h1]
     · cases M <;> simp (disch:=omega) [w398,c1,c2,c3,wI64,H.inl,inlB,H.pp,ppB,h1,h2]
theorem rcheck_loop (H:HasI C) (k t:Int) (x:List UInt8) (m:List (List UInt8)) (e:Bool) (hl:m.length≤1000000):∀ n i,n+i=m.length→∀ ok:Bool,
 w424_K0 C ⟨[(6,.int .i64 i),(5,.int .i64 (if ok=true then 1 else 0)),(2,.ptr 0 0 0)],[(0,.cells 4 [[.int .u64 k,.int .u8 t,.str x,.ro 1 (m.map eS) e]] true true)],1⟩ =
  some (.int .i64 (if (ok&&(m.drop i).all isName)=true then 0 else 6)):=by
 intro n
 induction n with
 | zero =>
  intro i hi ok
  simp only [w424_K0];rw [ck_unf w424_B0.eq_1]
  have h1:m.drop i=[]:=List.drop_eq_nil_of_le (by omega)
  have h3:¬ i < m.length:=by omega
  cases ok <;> simp [ck_unf w424_c0.eq_1,h1,h3]
 | succ n ih =>
  intro i hi ok
  have h1:i < m.length:=by omega
  have:=ih (i+1) (by omega) (ok&&isName m[i])
  have hb:=name_ok H.toHasS m[i]
  rw [drop_cons h1]
  generalize hX:(m.drop (i+1)).all isName=X at *
  rw [List.all_cons,hX]
  simp only [w424_K0] at this ⊢;rw [ck_unf w424_B0.eq_1]
  cases ok <;> cases hn:isName m[i] <;> rw [hn] at this hb <;> simp at this hb <;> simp (disch:=omega) [h1,wI64,hb,H.inl,inlB,H.pp,ppB,this]
theorem rcheck_ok (H:HasI C) (i:It) (n:Int) (ht:0≤i.t∧i.t≤255) (hl:i.m.length≤1000000):FnW C 424 [eIt i,.int .i64 n]=some (.int .i64 (if itOk n i=true then 0 else 6)):=by
 have hw:=words_ok H.toHasS i.x
 have hA:=rcheck_loop H i.k i.t i.x i.m i.e hl i.m.length 0 (by simp)
 have h0:=hA false
 have h1:=hA true
 rw [fnW_eq H.f424 rfl]
 unfold itOk
 simp only [List.drop_zero,Bool.false_and,Bool.true_and] at h0 h1
 generalize i.m.all isName=M at *
 generalize isText i.x=X at *
 simp only [w424_K0] at h0 h1
 simp at h0 h1
 by_cases c1:i.k=0
 · simp [w424,eq_true c1,H.inl,inlB,H.pp,ppB,hw,h0]
 · by_cases c2:n≤i.t
   · have c3:¬ i.t < n:=by omega
     simp (disch:=omega) [w424,c1,c2,c3,wI64,H.inl,inlB,H.pp,ppB,hw,h0]
   · have c3:i.t < n:=by omega
     by_cases c4:i.m.length≤8
     · have c5:¬ (8 < (i.m.length:Int)):=by omega
       cases X
       · simp (disch:=omega) [w424,c1,c2,c3,c4,c5,wI64,H.inl,inlB,H.pp,ppB,hw,h0]
       · simp (disch:=omega) [w424,c1,c2,c3,c4,c5,wI64,H.inl,inlB,H.pp,ppB,hw,h1]
     · have c5:(8 < (i.m.length:Int)):=by omega
       simp (disch:=omega) [w424,c1,c2,c3,c4,c5,wI64,H.inl,inlB,H.pp,ppB,hw,h0]
abbrev Bs:=List UInt8
@[simp] def eA (a:Bs × Bs):List AV:=[.str a.1,.str a.2]
structure Nd where
 k:Int
 t:Bs
 y:Bs
 a:List (Bs × Bs)
 ae:Bool
 x:Bs
 ch:List Nd
 ce:Bool
mutual
def Nd.c:Nd→List AV
 | ⟨k,t,y,a,ae,x,ch,ce⟩=>[.int .u8 k,.str t,.str y,.ro 2 (a.map eA) ae,.str x,.ro 6 (Nd.cs ch) ce]
def Nd.cs:List Nd→List (List AV)
 | []=>[]
 | n::r=>n.c::Nd.cs r
end
theorem Nd.cs_eq:∀ l:List Nd,Nd.cs l=l.map Nd.c
 | []=>rfl
 | n::r=>by rw [Nd.cs,Nd.cs_eq r];rfl
theorem Nd.c_eq (n:Nd):n.c=[.int .u8 n.k,.str n.t,.str n.y,.ro 2 (n.a.map eA) n.ae,.str n.x,.ro 6 (n.ch.map Nd.c) n.ce]:=by
 cases n;rw [Nd.c,Nd.cs_eq]
@[simp] theorem Nd.c_len (n:Nd):n.c.length=6:=by rw [Nd.c_eq];rfl
@[simp] theorem Nd.c_take (n:Nd):n.c.take 6=n.c:=List.take_of_length_le (by simp)
@[simp] theorem Nd.c0 (n:Nd):n.c[0]?=some (.int .u8 n.k):=by rw [Nd.c_eq];rfl
@[simp] theorem Nd.c1 (n:Nd):n.c[1]?=some (.str n.t):=by rw [Nd.c_eq];rfl
@[simp] theorem Nd.c2 (n:Nd):n.c[2]?=some (.str n.y):=by rw [Nd.c_eq];rfl
@[simp] theorem Nd.c3 (n:Nd):n.c[3]?=some (.ro 2 (n.a.map eA) n.ae):=by rw [Nd.c_eq];rfl
@[simp] theorem Nd.c4 (n:Nd):n.c[4]?=some (.str n.x):=by rw [Nd.c_eq];rfl
@[simp] theorem Nd.c5 (n:Nd):n.c[5]?=some (.ro 6 (n.ch.map Nd.c) n.ce):=by rw [Nd.c_eq];rfl
@[simp] theorem Nd.g0 (n:Nd) (h:0 < n.c.length):n.c[0]=.int .u8 n.k:=Option.some.inj ((List.getElem?_eq_getElem h).symm.trans n.c0)
@[simp] theorem Nd.g1 (n:Nd) (h:1 < n.c.length):n.c[1]=.str n.t:=Option.some.inj ((List.getElem?_eq_getElem h).symm.trans n.c1)
@[simp] theorem Nd.g2 (n:Nd) (h:2 < n.c.length):n.c[2]=.str n.y:=Option.some.inj ((List.getElem?_eq_getElem h).symm.trans n.c2)
@[simp] theorem Nd.g3 (n:Nd) (h:3 < n.c.length):n.c[3]=.ro 2 (n.a.map eA) n.ae:=Option.some.inj ((List.getElem?_eq_getElem h).symm.trans n.c3)
@[simp] theorem Nd.g4 (n:Nd) (h:4 < n.c.length):n.c[4]=.str n.x:=Option.some.inj ((List.getElem?_eq_getElem h).symm.trans n.c4)
@[simp] theorem Nd.g5 (n:Nd) (h:5 < n.c.length):n.c[5]=.ro 6 (n.ch.map Nd.c) n.ce:=Option.some.inj ((List.getElem?_eq_getElem h).symm.trans n.c5)
@[simp] theorem Nd.hd (n:Nd):n.c.head?=some (.int .u8 n.k):=by rw [Nd.c_eq];rfl
@[simp] theorem Nd.c_ptr (n:Nd):hasPtrL n.c=false:=by rw [Nd.c_eq];rfl
@[simp] theorem Nd.c_frz (n:Nd) (h:WHeap) (k:Nat):mapO (frzW h (k+1)) n.c=some n.c:=by rw [Nd.c_eq];rfl
@[simp] theorem Nd.c_reach (n:Nd) (h:WHeap) (k:Nat):n.c.flatMap (reachW h (k+1))=[]:=by rw [Nd.c_eq];rfl
@[simp] theorem Nd.c_ren (n:Nd) (π:Nat→Option Nat):renL π n.c=some n.c:=by rw [Nd.c_eq];rfl
@[simp] theorem Nd.c_refs (n:Nd):refsL n.c=[]:=by rw [Nd.c_eq];rfl
@[simp] theorem Nd.c_isC (n:Nd):n.c.all isC=true:=by rw [Nd.c_eq];rfl
@[simp] theorem Nd.c_cell (n:Nd):n.c.all AV.cell=true:=by rw [Nd.c_eq];rfl
def after:Option Bs→Bs→Bool
 | none,_=>true
 | some p,a=>decide (p < a)
def atOk:Option Bs→List (Bs × Bs)→Bool
 | _,[]=>true
 | p,a::r=>isName a.1&&isText a.2&&after p a.1&&atOk (some a.1) r
def keysOk:List Bs→List Bs→Bool
 | _,[]=>true
 | p,k::r=>!(decide (k≠[])&&p.contains k)&&keysOk (p++[k]) r
def alone (n:Nd):Bool :=
 if n.k=2 then isText n.x&&decide (n.t=[])&&decide (n.y=[])&&decide (n.a=[])&&decide (n.ch=[])
 else decide (n.k=1)&&isName n.t&&(decide (n.y=[])||isName n.y)&&decide (n.x=[])&&decide (n.a.length≤8)&&decide (n.ch.length≤16)&&atOk none n.a&&keysOk [] (n.ch.map Nd.y)
structure HasN (C:WProg):Prop extends HasS C where
 f434:C.fns.get 434=some w434
 f519:C.fns.get 519=some w519
 f518:C.fns.get 518=some w518
 f562:C.fns.get 562=some w562
theorem k519 (H:HasN C) (n:Nd) (c:Nd):FnW C 519 [.agg n.c,.rop c.c]=some (.bool (decide (n.y=c.y))):=by
 rw [fnW_eq H.f519 rfl,Nd.c_eq,Nd.c_eq]
 by_cases h:n.y=c.y
 · simp [w519,h]
 · simp [w519,h]
theorem indexN_loop (H:HasN C) (c:Nd) (l:List Nd) (e:Bool) (hl:l.length≤1000000):∀ n i,n+i=l.length →
 ∃ v:Int,w562_K0 C ⟨[(8,.int .i64 i),(7,.int .i64 l.length),(1,.fn 519 [.rop c.c]),(0,.ro 6 (l.map Nd.c) e)],[],0⟩=some (.int .i64 v)∧decide (v < 0)=!((l.drop i).map Nd.y).contains c.y:=by
 intro n
 induction n with
 | zero =>
  intro i hi
  simp only [w562_K0];rw [ck_unf w562_B0.eq_1]
  have h1:l.drop i=[]:=List.drop_eq_nil_of_le (by omega)
  have h3:¬ i < l.length:=by omega
  exact ⟨-1,by simp [ck_unf w562_c0.eq_1,h3],by simp [h1]⟩
 | succ n ih =>
  intro i hi
  have h1:i < l.length:=by omega
  have hb:=k519 H l[i] c
  rw [drop_cons h1]
  by_cases q:l[i].y=c.y
  · refine ⟨i,?_,by simp [q]⟩
    simp only [w562_K0];rw [ck_unf w562_B0.eq_1]
    simp (disch:=omega) [h1,hb,q,H.inl,inlB,H.pp,ppB]
  · obtain ⟨v,hv,hq⟩:=ih (i+1) (by omega)
    refine ⟨v,?_,?_⟩
    · simp only [w562_K0] at hv ⊢;rw [ck_unf w562_B0.eq_1]
      simp at hv
      simp (disch:=omega) [h1,wI64,hb,q,H.inl,inlB,H.pp,ppB,hv]
    · have q':¬ c.y=l[i].y:=fun h=>q h.symm
      simp [hq,q']
theorem containsN_ok (H:HasN C) (c:Nd) (l:List Nd) (e:Bool) (hl:l.length≤1000000):FnW C 518 [.ro 6 (l.map Nd.c) e,.fn 519 [.rop c.c]]=some (.bool ((l.map Nd.y).contains c.y)):=by
 obtain ⟨v,h,q⟩:=indexN_loop H c l e hl l.length 0 (by simp)
 rw [List.drop_zero] at q
 have h2:FnW C 562 [.ro 6 (l.map Nd.c) e,.fn 519 [.rop c.c]]=some (.int .i64 v):=by
  rw [fnW_eq H.f562 rfl]
  simp only [w562_K0] at h
  simp at h
  simp [w562,h]
 have q':(l.map Nd.y).contains c.y=!decide (v < 0):=by rw [q];simp
 rw [fnW_eq H.f518 rfl,q']
 by_cases c:v < 0
 · have c':¬ 0≤v:=by omega
   simp [w518,H.inl,inlB,H.pp,ppB,h2,c,c']
 · have c':0≤v:=by omega
   simp [w518,H.inl,inlB,H.pp,ppB,h2,c,c']
theorem blt_eq:∀ x y:Bs,Pav.bytesLess x y=decide (x < y)
 | [],[]=>by simp [Pav.bytesLess]
 | [],_::_=>by simp [Pav.bytesLess]
 | _::_,[]=>by simp [Pav.bytesLess]
 | a::x,b::y=>by
  rw [Pav.bytesLess,blt_eq x y]
  by_cases h:a < b
  · simp [h,List.cons_lt_cons_iff]
  · by_cases q:a=b
    · simp [h,q,List.cons_lt_cons_iff]
    · simp [h,q,List.cons_lt_cons_iff]
theorem leq_eq (x y:Bs):(Pav.bytesLess x y||x == y)=!decide (y < x):=by
 rw [blt_eq]
 by_cases h:y < x
 · have h1:¬ x < y:=fun q=>List.lt_irrefl x (List.lt_trans q h)
   have h2:¬ x=y:=fun q=>by subst q;exact List.lt_irrefl x h
   simp [h,h1,h2]
 · rcases Decidable.em (x=y) with q | q
   · simp [h,q]
   · have h1:x < y:=Classical.byContradiction fun p=>q (List.le_antisymm (List.not_lt.1 h) (List.not_lt.1 p))
     simp [h,h1]
theorem keys_loop (H:HasN C) (k:Int) (t y x:Bs) (a:List (Bs × Bs)) (ae ce:Bool) (ch:List Nd) (hl:ch.length≤1000000):∀ n i,n+i=ch.length →
 w434_K0 C ⟨[(142,.int .i64 i),(141,.int .i64 ch.length),(140,.ro 6 (ch.map Nd.c) ce),(0,.rop [.int .u8 k,.str t,.str y,.ro 2 (a.map eA) ae,.str x,.ro 6 (ch.map Nd.c) ce])],[],0⟩ =
  some (.bool (keysOk ((ch.map Nd.y).take i) ((ch.map Nd.y).drop i))):=by
 intro n
 induction n with
 | zero =>
  intro i hi
  simp only [w434_K0];rw [ck_unf w434_B0.eq_1]
  have h1:(ch.map Nd.y).drop i=[]:=List.drop_eq_nil_of_le (by simp;omega)
  have h3:¬ i < ch.length:=by omega
  simp [ck_unf w434_c0.eq_1,h1,h3,keysOk,-List.map_drop]
 | succ n ih =>
  intro i hi
  have h1:i < ch.length:=by omega
  have h2:i < (ch.map Nd.y).length:=by simp;omega
  have hb:=containsN_ok H ch[i] (ch.take i) false (by simp;omega)
  have:=ih (i+1) (by omega)
  rw [List.take_succ_eq_append_getElem h2] at this
  rw [drop_cons h2,keysOk]
  have hy:(ch.map Nd.y)[i]=ch[i].y:=by simp
  rw [List.map_take,List.map_take] at hb
  rw [hy] at this ⊢
  have hne:¬ i=ch.length:=by omega
  have hle:i≤ch.length:=by omega
  simp only [w434_K0] at this ⊢;rw [ck_unf w434_B0.eq_1]
  generalize hP:(ch.map Nd.y).take i=P at *
  generalize hQ:(ch.map Nd.y).drop (i+1)=Q at *
  simp at this
  by_cases c1:ch[i].y=[]
  · rw [c1] at this
    simp (disch:=omega) [h1,wI64,c1,H.inl,inlB,H.pp,ppB,this]
  · by_cases c2:P.contains ch[i].y=true
    · rw [c2] at hb
      have c2':ch[i].y ∈ P:=by simpa using c2
      simp (disch:=omega) [h1,hne,hle,wI64,c1,c2',hb,H.inl,inlB,H.pp,ppB,this]
    · have c2':¬ ch[i].y ∈ P:=by simpa using c2
      have c3:P.contains ch[i].y=false:=by simpa using c2
      rw [c3] at hb
      simp (disch:=omega) [h1,hne,hle,wI64,c1,c2',hb,H.inl,inlB,H.pp,ppB,this]
theorem attrs_loop (H:HasN C) (k:Int) (t y x:Bs) (a:List (Bs × Bs)) (ae ce:Bool) (ch:List Nd) (hl:ch.length≤1000000) (ha:a.length≤1000000):∀ n i,n+i=a.length →
 w434_K1 C ⟨[(103,.int .i64 i),(102,.int .i64 a.length),(101,.ro 2 (a.map eA) ae),(0,.rop [.int .u8 k,.str t,.str y,.ro 2 (a.map eA) ae,.str x,.ro 6 (ch.map Nd.c) ce])],[],0⟩ =
  some (.bool (atOk (if i=0 then none else (a[i - 1]?).map Prod.fst) (a.drop i)&&keysOk [] (ch.map Nd.y))):=by
 intro n
 induction n with
 | zero =>
  intro i hi
  have hk:=keys_loop H k t y x a ae ce ch hl ch.length 0 (by simp)
  simp only [List.take_zero,List.drop_zero] at hk
  generalize keysOk [] (ch.map Nd.y)=K at *
  simp only [w434_K0] at hk
  simp at hk
  simp only [w434_K1];rw [ck_unf w434_B1.eq_1]
  have h1:a.drop i=[]:=List.drop_eq_nil_of_le (by omega)
  have h3:¬ i < a.length:=by omega
  simp [ck_unf w434_c1.eq_1,h1,h3,atOk,hk]
 | succ n ih =>
  intro i hi
  have h1:i < a.length:=by omega
  have hb:=named_ok H.toHasS a[i].1
  have hc:=text_ok H.toHasS a[i].2
  have:=ih (i+1) (by omega)
  rw [if_neg (by omega),show i+1 - 1=i from rfl,List.getElem?_eq_getElem h1] at this
  rw [drop_cons h1,atOk]
  generalize hK:keysOk [] (ch.map Nd.y)=K at *
  simp only [w434_K1] at this ⊢;rw [ck_unf w434_B1.eq_1]
  simp only [Option.map_some] at this
  generalize atOk (some a[i].1) (a.drop (i+1))=R at *
  simp at this
  cases q1:isName a[i].1
  · rw [q1] at hb
    simp (disch:=omega) [h1,wI64,hb,H.inl,inlB,H.pp,ppB]
  · cases q2:isText a[i].2
    · rw [q1] at hb;rw [q2] at hc
      simp (disch:=omega) [h1,wI64,hb,hc,H.inl,inlB,H.pp,ppB]
    · rw [q1] at hb;rw [q2] at hc
      cases i with
      | zero =>
       simp at this
       simp (disch:=omega) [h1,wI64,hb,hc,H.inl,inlB,H.pp,ppB,this,after]
      | succ i =>
       have h4:i < a.length:=by omega
       have h5:(i:Int)+1 < a.length:=by omega
       simp at this
       by_cases q3:a[i].1 < a[i+1].1
       · have q4:¬ a[i+1].1≤a[i].1:=List.not_le.2 q3
         simp (disch:=omega) [h1,h4,h5,wI64,hb,hc,H.inl,inlB,H.pp,ppB,this,leq_eq,after,q3,q4]
       · have q4:a[i+1].1≤a[i].1:=List.not_lt.1 q3
         simp (disch:=omega) [h1,h4,h5,wI64,hb,hc,H.inl,inlB,H.pp,ppB,this,leq_eq,after,q3,q4]
theorem alone_ok (H:HasN C) (n:Nd):FnW C 434 [.rop n.c]=some (.bool (alone n)):=by
 obtain ⟨k,t,y,a,ae,x,ch,ce⟩:=n
 rw [fnW_eq H.f434 rfl,Nd.c_eq]
 simp only []
 unfold alone
 simp only []
 have ht:=named_ok H.toHasS t
 have hy:=named_ok H.toHasS y
 have hx:=text_ok H.toHasS x
 by_cases k2:k=2
 · rw [if_pos k2]
   generalize isText x=X at *
   cases X
   · simp [w434,k2,hx,H.inl,inlB,H.pp,ppB]
   · by_cases c1:t=[] <;> by_cases c2:y=[] <;> by_cases c3:a=[] <;> by_cases c4:ch=[] <;> simp [w434,k2,hx,H.inl,inlB,H.pp,ppB,c1,c2,c3,c4]
 · rw [if_neg k2]
   by_cases k1:k=1
   · cases q1:isName t
     · rw [q1] at ht;simp [w434,k1,ht,H.inl,inlB,H.pp,ppB]
     · rw [q1] at ht
       by_cases c2:y=[]
       · subst c2
         by_cases c3:x=[]
         · subst c3
           by_cases c4:a.length≤8
           · by_cases c5:ch.length≤16
             · have c6:¬ 8 < (a.length:Int):=by omega
               have c7:¬ 16 < (ch.length:Int):=by omega
               have hl:=attrs_loop H 1 t [] [] a ae ce ch (by omega) (by omega) a.length 0 (by simp)
               simp only [w434_K1,if_true,List.drop_zero] at hl
               generalize atOk none a=A at *
               generalize keysOk [] (ch.map Nd.y)=K at *
               simp at hl
               simp [w434,k1,ht,H.inl,inlB,H.pp,ppB,c4,c5,c6,c7,hl]
             · have c6:¬ 8 < (a.length:Int):=by omega
               have c7:16 < (ch.length:Int):=by omega
               simp [w434,k1,ht,H.inl,inlB,H.pp,ppB,c4,c5,c6,c7]
           · have c6:8 < (a.length:Int):=by omega
             simp [w434,k1,ht,H.inl,inlB,H.pp,ppB,c4,c6]
         · simp [w434,k1,ht,H.inl,inlB,H.pp,ppB,c3]
       · cases q2:isName y
         · rw [q2] at hy;simp [w434,k1,ht,hy,H.inl,inlB,H.pp,ppB,c2]
         · rw [q2] at hy
           by_cases c3:x=[]
           · subst c3
             by_cases c4:a.length≤8
             · by_cases c5:ch.length≤16
               · have c6:¬ 8 < (a.length:Int):=by omega
                 have c7:¬ 16 < (ch.length:Int):=by omega
                 have hl:=attrs_loop H 1 t y [] a ae ce ch (by omega) (by omega) a.length 0 (by simp)
                 simp only [w434_K1,if_true,List.drop_zero] at hl
                 generalize atOk none a=A at *
                 generalize keysOk [] (ch.map Nd.y)=K at *
                 simp at hl
                 simp [w434,k1,ht,hy,H.inl,inlB,H.pp,ppB,c2,c4,c5,c6,c7,hl]
               · have c6:¬ 8 < (a.length:Int):=by omega
                 have c7:16 < (ch.length:Int):=by omega
                 simp [w434,k1,ht,hy,H.inl,inlB,H.pp,ppB,c2,c4,c5,c6,c7]
             · have c6:8 < (a.length:Int):=by omega
               simp [w434,k1,ht,hy,H.inl,inlB,H.pp,ppB,c2,c4,c6]
           · simp [w434,k1,ht,hy,H.inl,inlB,H.pp,ppB,c2,c3]
   · simp [w434,k1,k2,H.inl,inlB,H.pp,ppB]
end Go.D
end
section
namespace Go.D
open Go Go.Pav Go.Pw P
attribute [-simp] List.getElem_cons_drop
variable {C:WProg}
mutual
/-- The walk below a node: whether it ends well, how many nodes, how many levels. -/
def wk:Nd→Nat→Nat × Nat→Bool × (Nat × Nat)
 | ⟨k,t,y,a,ae,x,ch,ce⟩,lv,(c,d)=>if 6 < lv∨64 < c+1∨alone ⟨k,t,y,a,ae,x,ch,ce⟩=false then (false,(c+1,max d lv)) else wks ch (lv+1) (c+1,max d lv)
def wks:List Nd→Nat→Nat × Nat→Bool × (Nat × Nat)
 | [],_,s=>(true,s)
 | m::r,lv,s=>if (wk m lv s).1=true then wks r lv (wk m lv s).2 else (false,(wk m lv s).2)
end
theorem wk_eq (n:Nd) (lv c d:Nat):wk n lv (c,d)=if 6 < lv∨64 < c+1∨alone n=false then (false,(c+1,max d lv)) else wks n.ch (lv+1) (c+1,max d lv):=by cases n;rw [wk]
structure HasM (C:WProg):Prop extends HasN C where
 f433:C.fns.get 433=some w433
 f282:C.fns.get 282=some w282
 f140:C.fns.get 140=some w140
 f439:C.fns.get 439=some w439
abbrev hpM (root:Nd) (s:Nat × Nat):WHeap:=[(0,.cells 6 [root.c] true true),(1,.cells 1 [[.int .i64 s.1]] true true),(2,.cells 1 [[.int .i64 s.2]] true true),(3,.cells 1 [[.fn 433 [.ptr 1 0 0,.ptr 2 0 0,.ptr 3 0 0]]] true false)]
mutual
theorem wk_bd:∀ (n:Nd) (lv c d:Nat),lv≤7→c≤64→d≤7→((wk n lv (c,d)).1=true→(wk n lv (c,d)).2.1≤64)∧(wk n lv (c,d)).2.2≤7
 | ⟨k,t,y,a,ae,x,ch,ce⟩,lv,c,d,h1,h2,h3=>by
  rw [wk]
  split
  · exact ⟨fun q=>by simp at q,by simp only;omega⟩
  · rename_i h
    exact wks_bd ch (lv+1) (c+1) (max d lv) (by omega) (by omega) (by omega)
theorem wks_bd:∀ (l:List Nd) (lv c d:Nat),lv≤7→c≤64→d≤7→((wks l lv (c,d)).1=true→(wks l lv (c,d)).2.1≤64)∧(wks l lv (c,d)).2.2≤7
 | [],lv,c,d,h1,h2,h3=>by rw [wks];exact ⟨fun _=>h2,h3⟩
 | m::r,lv,c,d,h1,h2,h3=>by
  have h4:=wk_bd m lv c d h1 h2 h3
  rw [wks]
  split
  · rename_i h
    exact wks_bd r lv _ _ h1 (h4.1 h) h4.2
  · exact ⟨fun q=>by simp at q,h4.2⟩
end
def Walks (C:WProg) (root nd:Nd):Prop:=∀ (lv c d n:Nat),4≤n→c≤64→d≤7→lv≤7 →
 ∃ n',RnW C 433 [.rop nd.c,.int .i64 lv,.ptr 1 0 0,.ptr 2 0 0,.ptr 3 0 0] (hpM root (c,d)) n=some (.bool (wk nd lv (c,d)).1,hpM root (wk nd lv (c,d)).2,n')
theorem imax_cast (d lv:Nat):imax d lv=((max d lv:Nat):Int):=by
 by_cases h:lv≤d
 · rw [imax_l (by omega),Nat.max_eq_left h]
 · rw [imax_r (by omega),Nat.max_eq_right (by omega)]
theorem walk_loop (H:HasM C) (root nd:Nd) (X:AV) (hX:X=.rop nd.c∨X=.ptr 0 0 0∧root=nd) (lv n:Nat) (hn:4≤n) (hlv:lv≤6) (hl:nd.ch.length≤16) (ih:∀ m ∈ nd.ch,Walks C root m):∀ j i,j+i=nd.ch.length→∀ c d,c≤64→d≤7 →
 ∃ n',CK C n (fnEndW [.tmp 7]) [.sq w433_L0,.bk 0 ⟨true,[],[]⟩,.sq w433_c0] w433_B0 ⟨[(30,.int .i64 i),(29,.int .i64 nd.ch.length),(4,.ptr 3 0 0),(1,.int .i64 lv),(0,X)],hpM root (c,d),n⟩ =
  some (.bool (wks (nd.ch.drop i) (lv+1) (c,d)).1,hpM root (wks (nd.ch.drop i) (lv+1) (c,d)).2,n'):=by
 have n0:0 < n:=by omega
 have n1:1 < n:=by omega
 have n2:2 < n:=by omega
 have n3:3 < n:=by omega
 intro j
 induction j with
 | zero =>
  intro i hi c d hc hd
  have h1:nd.ch.drop i=[]:=List.drop_eq_nil_of_le (by omega)
  have h3:¬ i < nd.ch.length:=by omega
  rw [h1,wks,ck_unf w433_B0.eq_1]
  refine ⟨?_,?_⟩
  rotate_left
  · rcases hX with rfl | ⟨rfl,rfl⟩
    · simp (disch:=omega) [ck_unf w433_c0.eq_1,n0,n1,n2,n3,h3]
      rfl
    · simp (disch:=omega) [ck_unf w433_c0.eq_1,n0,n1,n2,n3,h3]
 | succ j ihj =>
  intro i hi c d hc hd
  have h1:i < nd.ch.length:=by omega
  obtain ⟨n',hw⟩:=ih _ (List.getElem_mem h1) (lv+1) c d (n+1+1+1+11) (by omega) hc hd (by omega)
  have hb:=wk_bd nd.ch[i] (lv+1) c d (by omega) hc hd
  rw [drop_cons h1,wks]
  generalize hR:wk nd.ch[i] (lv+1) (c,d)=R at *
  obtain ⟨r,c',d'⟩:=R
  cases r with
  | true =>
   obtain ⟨n2',hw2⟩:=ihj (i+1) (by omega) c' d' (hb.1 rfl) hb.2
   refine ⟨n2',?_⟩
   rw [if_pos rfl]
   rw [ck_unf w433_B0.eq_1]
   simp at hw hw2
   rcases hX with rfl | ⟨rfl,rfl⟩
   · simp (disch:=omega) [wI64,H.inl,inlB,H.pp,ppB,n0,n1,n2,n3,h1,hw,hw2]
   · simp (disch:=omega) [wI64,H.inl,inlB,H.pp,ppB,n0,n1,n2,n3,h1,hw,hw2]
  | false =>
   rw [if_neg (by simp)]
   rw [ck_unf w433_B0.eq_1]
   simp at hw
   refine ⟨?_,?_⟩
   rotate_left
   · rcases hX with rfl | ⟨rfl,rfl⟩
     · simp (disch:=omega) [wI64,H.inl,inlB,H.pp,ppB,n0,n1,n2,n3,h1,hw]
       rfl
     · simp (disch:=omega) [wI64,H.inl,inlB,H.pp,ppB,n0,n1,n2,n3,h1,hw]
theorem walk_step (H:HasM C) (root nd:Nd) (X:AV) (hX:X=.rop nd.c∨X=.ptr 0 0 0∧root=nd) (ih:∀ m ∈ nd.ch,Walks C root m) (lv c d n:Nat) (hn:4≤n) (hc:c≤64) (hd:d≤7) (hlv:lv≤7) :
 ∃ n',RnW C 433 [X,.int .i64 lv,.ptr 1 0 0,.ptr 2 0 0,.ptr 3 0 0] (hpM root (c,d)) n=some (.bool (wk nd lv (c,d)).1,hpM root (wk nd lv (c,d)).2,n'):=by
 rw [rnW_eq (args:=[X,.int .i64 lv,.ptr 1 0 0,.ptr 2 0 0,.ptr 3 0 0]) H.f433 rfl (hpM root (c,d)) n,wk_eq]
 have ha:=alone_ok H.toHasN nd
 have n0:0 < n:=by omega
 have n1:1 < n:=by omega
 have n2:2 < n:=by omega
 have n3:3 < n:=by omega
 by_cases b1:6 < lv
 · rw [if_pos (.inl b1)]
   refine ⟨?_,?_⟩
   rotate_left
   · rcases hX with rfl | ⟨rfl,rfl⟩
     · simp (disch:=omega) [w433,wI64,H.inl,inlB,H.pp,ppB,b1,n0,n1,n2,n3,imax_cast]
       rfl
     · simp (disch:=omega) [w433,wI64,H.inl,inlB,H.pp,ppB,b1,n0,n1,n2,n3,imax_cast]
 · by_cases b2:64 < c+1
   · rw [if_pos (.inr (.inl b2))]
     have b2':64 < (c:Int)+1:=by omega
     refine ⟨?_,?_⟩
     rotate_left
     · rcases hX with rfl | ⟨rfl,rfl⟩
       · simp (disch:=omega) [w433,wI64,H.inl,inlB,H.pp,ppB,b1,b2',n0,n1,n2,n3,imax_cast]
         rfl
       · simp (disch:=omega) [w433,wI64,H.inl,inlB,H.pp,ppB,b1,b2',n0,n1,n2,n3,imax_cast]
   · have b2':¬ 64 < (c:Int)+1:=by omega
     cases b3:alone nd with
     | false =>
      rw [if_pos (.inr (.inr rfl))]
      rw [b3] at ha
      refine ⟨?_,?_⟩
      rotate_left
      · rcases hX with rfl | ⟨rfl,rfl⟩
        · simp (disch:=omega) [w433,wI64,H.inl,inlB,H.pp,ppB,b1,b2',ha,n0,n1,n2,n3,imax_cast]
          rfl
        · simp (disch:=omega) [w433,wI64,H.inl,inlB,H.pp,ppB,b1,b2',ha,n0,n1,n2,n3,imax_cast]
     | true =>
      rw [if_neg (by simp;omega)]
      have hl:nd.ch.length≤16:=by
       unfold alone at b3
       split at b3
       · simp at b3;rw [b3.2];simp
       · simp at b3;omega
      rw [b3] at ha
      obtain ⟨n',hw⟩:=walk_loop H root nd X hX lv n hn (by omega) hl ih nd.ch.length 0 (by simp) (c+1) (max d lv) (by omega) (by omega)
      refine ⟨n',?_⟩
      rw [List.drop_zero] at hw
      have hI:=imax_cast d lv
      generalize max d lv=D at *
      generalize wks nd.ch (lv+1) (c+1,D)=R at *
      simp only [hpM] at hw ⊢
      simp at hw
      rcases hX with rfl | ⟨rfl,rfl⟩
      · simp (disch:=omega) [w433,wI64,H.inl,inlB,H.pp,ppB,b1,b2',ha,n0,n1,n2,n3,hI,hw]
      · simp (disch:=omega) [w433,wI64,H.inl,inlB,H.pp,ppB,b1,b2',ha,n0,n1,n2,n3,hI,hw]
theorem size_ch (n:Nd):SizeOf.sizeOf n.ch < SizeOf.sizeOf n:=by cases n;simp;omega
theorem walks (H:HasM C) (root nd:Nd):Walks C root nd :=
 fun lv c d n hn hc hd hlv=>walk_step H root nd (.rop nd.c) (.inl rfl) (fun m hm=>walks H root m) lv c d n hn hc hd hlv
termination_by SizeOf.sizeOf nd
decreasing_by
 have:=List.sizeOf_lt_of_mem hm
 have:=size_ch nd
 omega
def cnt (n:Nd):Nat:=if (wk n 1 (0,0)).1=true then (wk n 1 (0,0)).2.1 else 0
def dep (n:Nd):Nat:=if (wk n 1 (0,0)).1=true then (wk n 1 (0,0)).2.2 else 0
theorem measure_ok (H:HasM C) (n:Nd):FnW C 282 [.agg n.c]=some (.tup [.int .i64 (cnt n),.int .i64 (dep n)]):=by
 rw [fnW_eq H.f282 rfl]
 have hw:=fun k hk=>walk_step H n n (.ptr 0 0 0) (.inr ⟨rfl,rfl⟩) (fun m _=>walks H n m) 1 0 0 k hk (by omega) (by omega) (by omega)
 unfold cnt dep
 generalize wk n 1 (0,0)=R at *
 obtain ⟨r,c,d⟩:=R
 obtain ⟨n',h⟩:=hw 8 (by omega)
 simp only [hpM] at h
 simp at h
 cases r <;> simp [w282,H.inl,inlB,H.pp,ppB,h]
theorem count_ok (H:HasM C) (n:Nd):FnW C 140 [.agg n.c]=some (.int .i64 (cnt n)):=by
 have h:=measure_ok H n
 rw [fnW_eq H.f140 rfl]
 simp [w140,H.inl,inlB,H.pp,ppB,h]
theorem check_ok (H:HasM C) (n:Nd):FnW C 439 [.agg n.c]=some (.int .i64 (if cnt n=0 then 14 else 0)):=by
 have h:=count_ok H n
 rw [fnW_eq H.f439 rfl]
 by_cases c:cnt n=0
 · simp [w439,H.inl,inlB,H.pp,ppB,h,c]
 · simp [w439,H.inl,inlB,H.pp,ppB,h,c]
end Go.D
end
section
namespace Go.D
open Go Go.Pav Go.Pw P
attribute [-simp] List.getElem_cons_drop
variable {C:WProg}
structure HasR (C:WProg):Prop extends HasM C where
 f563:C.fns.get 563=some w563
 f520:C.fns.get 520=some w520
 f442:C.fns.get 442=some w442
 f441:C.fns.get 441=some w441
abbrev hp1 (n:Nd):WHeap:=[(0,.cells 6 [n.c] true true)]
theorem kin_loop (n:Nd) (i:Nat) (hi:i < n.ch.length) (hl:n.ch.length≤16) (R:AV)
 (hout:w563_K0 C ⟨[(5,.int .i64 (i+1:Nat)),(1,.ptr 0 0 0)],hp1 n,1⟩=some R):∀ j k,j+k=i →
 w563_K1 C ⟨[(6,.int .i64 k),(5,.int .i64 i),(1,.ptr 0 0 0)],hp1 n,1⟩=some (if decide (n.ch[i].y≠[])&&(((n.ch.map Nd.y).take i).drop k).contains n.ch[i].y then .bool false else R):=by
 intro j
 induction j with
 | zero =>
  intro k hk
  have h1:((n.ch.map Nd.y).take i).drop k=[]:=List.drop_eq_nil_of_le (by simp;omega)
  have h3:¬ k < i:=by omega
  simp only [w563_K0] at hout
  simp only [w563_K1];rw [ck_unf w563_B1.eq_1]
  simp at hout
  simp (disch:=omega) [ck_unf w563_c1.eq_1,h1,h3,wI64,hout]
 | succ j ih =>
  intro k hk
  have h1:k < i:=by omega
  have h2:k < n.ch.length:=by omega
  have hlt:k < ((n.ch.map Nd.y).take i).length:=by simp;omega
  have:=ih (k+1) (by omega)
  rw [drop_cons hlt]
  have hy:((n.ch.map Nd.y).take i)[k]=n.ch[k].y:=by simp
  rw [hy]
  generalize (((n.ch.map Nd.y).take i).drop (k+1))=Q at *
  simp only [w563_K1] at this ⊢;rw [ck_unf w563_B1.eq_1]
  simp at this
  by_cases c1:n.ch[i].y=[]
  · simp [c1] at this
    simp (disch:=omega) [h1,h2,hi,wI64,c1,this]
  · by_cases c2:n.ch[i].y=n.ch[k].y
    · have c3:¬ n.ch[k].y=[]:=by rw [← c2];exact c1
      simp (disch:=omega) [h1,h2,hi,wI64,c1,c2,c3]
    · simp [c1] at this
      simp (disch:=omega) [h1,h2,hi,wI64,c1,c2,this]
theorem kout_loop (n:Nd) (hl:n.ch.length≤16):∀ j i,j+i=n.ch.length →
 w563_K0 C ⟨[(5,.int .i64 i),(1,.ptr 0 0 0)],hp1 n,1⟩=some (.bool (keysOk ((n.ch.map Nd.y).take i) ((n.ch.map Nd.y).drop i))):=by
 intro j
 induction j with
 | zero =>
  intro i hi
  simp only [w563_K0];rw [ck_unf w563_B0.eq_1]
  have h1:(n.ch.map Nd.y).drop i=[]:=List.drop_eq_nil_of_le (by simp;omega)
  have h3:¬ i < n.ch.length:=by omega
  simp [ck_unf w563_c0.eq_1,h1,h3,keysOk,-List.map_drop]
 | succ j ih =>
  intro i hi
  have h1:i < n.ch.length:=by omega
  have h2:i < (n.ch.map Nd.y).length:=by simp;omega
  have hin:=kin_loop n i h1 hl _ (ih (i+1) (by omega)) i 0 (by simp)
  have hy:(n.ch.map Nd.y)[i]=n.ch[i].y:=by simp
  rw [List.take_succ_eq_append_getElem h2,List.drop_zero,hy] at hin
  rw [drop_cons h2,keysOk,hy]
  generalize (n.ch.map Nd.y).take i=P at *
  generalize (n.ch.map Nd.y).drop (i+1)=Q at *
  simp only [w563_K0,w563_K1] at hin ⊢;rw [ck_unf w563_B0.eq_1]
  simp at hin
  by_cases c1:n.ch[i].y=[]
  · simp [c1] at hin
    simp (disch:=omega) [h1,hin,c1]
  · by_cases c2:n.ch[i].y ∈ P
    · simp [c1,c2] at hin
      simp (disch:=omega) [h1,hin,c1,c2]
    · simp [c1,c2] at hin
      simp (disch:=omega) [h1,hin,c1,c2]
theorem ain_loop (n:Nd) (i:Nat) (hi:i < n.a.length) (hl:n.a.length≤8) (R:AV)
 (hout:w563_K2 C ⟨[(3,.int .i64 (i+1:Nat)),(1,.ptr 0 0 0)],hp1 n,1⟩=some R):∀ j k,j+k=i →
 w563_K3 C ⟨[(4,.int .i64 k),(3,.int .i64 i),(1,.ptr 0 0 0)],hp1 n,1⟩=some (if ((n.a.take i).drop k).all (fun b=>decide (b.1 < n.a[i].1))=true then R else .bool false):=by
 intro j
 induction j with
 | zero =>
  intro k hk
  have h1:(n.a.take i).drop k=[]:=List.drop_eq_nil_of_le (by simp;omega)
  have h3:¬ k < i:=by omega
  simp only [w563_K2] at hout
  simp only [w563_K3];rw [ck_unf w563_B3.eq_1]
  simp at hout
  simp (disch:=omega) [ck_unf w563_c3.eq_1,h1,h3,wI64,hout]
 | succ j ih =>
  intro k hk
  have h1:k < i:=by omega
  have h2:k < n.a.length:=by omega
  have hlt:k < (n.a.take i).length:=by simp;omega
  have:=ih (k+1) (by omega)
  rw [drop_cons hlt]
  have hy:(n.a.take i)[k]=n.a[k]:=by simp
  rw [hy]
  generalize ((n.a.take i).drop (k+1))=Q at *
  simp only [w563_K3] at this ⊢;rw [ck_unf w563_B3.eq_1]
  simp at this
  by_cases c1:n.a[k].1 < n.a[i].1
  · rw [List.all_cons,decide_eq_true c1,Bool.true_and]
    simp (disch:=omega) [h1,h2,hi,wI64,blt_eq,c1,this]
  · rw [List.all_cons,decide_eq_false c1,Bool.false_and]
    have c2:n.a[i].1≤n.a[k].1:=List.not_lt.1 c1
    simp (disch:=omega) [h1,h2,hi,wI64,blt_eq,c1,c2]
theorem ain_false (n:Nd) (i:Nat) (hi:i < n.a.length) (hl:n.a.length≤8):∀ j k,j+k=i→((n.a.take i).drop k).all (fun b=>decide (b.1 < n.a[i].1))=false →
 w563_K3 C ⟨[(4,.int .i64 k),(3,.int .i64 i),(1,.ptr 0 0 0)],hp1 n,1⟩=some (.bool false):=by
 intro j
 induction j with
 | zero =>
  intro k hk hf
  have h1:(n.a.take i).drop k=[]:=List.drop_eq_nil_of_le (by simp;omega)
  rw [h1] at hf
  simp at hf
 | succ j ih =>
  intro k hk hf
  have h1:k < i:=by omega
  have h2:k < n.a.length:=by omega
  have hlt:k < (n.a.take i).length:=by simp;omega
  rw [drop_cons hlt] at hf
  have hy:(n.a.take i)[k]=n.a[k]:=by simp
  rw [hy,List.all_cons] at hf
  by_cases c1:n.a[k].1 < n.a[i].1
  · rw [decide_eq_true c1,Bool.true_and] at hf
    have:=ih (k+1) (by omega) hf
    simp only [w563_K3] at this ⊢;rw [ck_unf w563_B3.eq_1]
    simp at this
    simp (disch:=omega) [h1,h2,hi,wI64,blt_eq,c1,this]
  · have c2:n.a[i].1≤n.a[k].1:=List.not_lt.1 c1
    simp only [w563_K3];rw [ck_unf w563_B3.eq_1]
    simp (disch:=omega) [h1,h2,hi,wI64,blt_eq,c1,c2]
theorem aout_loop (H:HasR C) (n:Nd) (hl:n.a.length≤8) (hl2:n.ch.length≤16):∀ j i,j+i=n.a.length→(∀ (p q:Nat) (hp:p < n.a.length) (hq:q < n.a.length),p < q→q < i→n.a[p].1 < n.a[q].1) →
 w563_K2 C ⟨[(3,.int .i64 i),(1,.ptr 0 0 0)],hp1 n,1⟩=some (.bool (atOk (if i=0 then none else (n.a[i - 1]?).map Prod.fst) (n.a.drop i)&&keysOk [] (n.ch.map Nd.y))):=by
 intro j
 induction j with
 | zero =>
  intro i hi hs
  have hk:=kout_loop (C:=C) n hl2 n.ch.length 0 (by simp)
  simp only [List.take_zero,List.drop_zero] at hk
  generalize keysOk [] (n.ch.map Nd.y)=K at *
  simp only [w563_K0] at hk
  simp at hk
  simp only [w563_K2];rw [ck_unf w563_B2.eq_1]
  have h1:n.a.drop i=[]:=List.drop_eq_nil_of_le (by omega)
  have h3:¬ i < n.a.length:=by omega
  simp [ck_unf w563_c2.eq_1,h1,h3,atOk,hk]
 | succ j ih =>
  intro i hi hs
  have h1:i < n.a.length:=by omega
  have hb:=rname_ok H.toHasS n.a[i].1
  have hc:=rstr_ok H.toHasS n.a[i].2
  rw [drop_cons h1,atOk]
  generalize hK:keysOk [] (n.ch.map Nd.y)=K at *
  cases q1:isName n.a[i].1
  · rw [q1] at hb
    simp only [w563_K2];rw [ck_unf w563_B2.eq_1]
    simp (disch:=omega) [h1,wI64,hb,H.inl,inlB,H.pp,ppB]
  · cases q2:isText n.a[i].2
    · rw [q1] at hb;rw [q2] at hc
      simp only [w563_K2];rw [ck_unf w563_B2.eq_1]
      simp (disch:=omega) [h1,wI64,hb,hc,H.inl,inlB,H.pp,ppB]
    · rw [q1] at hb;rw [q2] at hc
      have key:(n.a.take i).all (fun b=>decide (b.1 < n.a[i].1))=after (if i=0 then none else (n.a[i - 1]?).map Prod.fst) n.a[i].1:=by
       cases i with
       | zero=>simp [after]
       | succ i =>
        have h4:i < n.a.length:=by omega
        rw [if_neg (by omega),show i+1 - 1=i from rfl,List.getElem?_eq_getElem h4]
        simp only [Option.map_some,after]
        by_cases q3:n.a[i].1 < n.a[i+1].1
        · rw [decide_eq_true q3,List.all_eq_true]
          intro b hb
          obtain ⟨p,hp,rfl⟩:=List.getElem_of_mem hb
          simp at hp
          rw [List.getElem_take]
          apply decide_eq_true
          by_cases e:p=i
          · subst e;exact q3
          · exact List.lt_trans (hs p i (by omega) h4 (by omega) (by omega)) q3
        · rw [decide_eq_false q3,List.all_eq_false]
          exact ⟨n.a[i],List.mem_take_iff_getElem.2 ⟨i,by omega,rfl⟩,by simp [q3]⟩
      have step:∀ R,w563_K3 C ⟨[(4,.int .i64 (0:Nat)),(3,.int .i64 i),(1,.ptr 0 0 0)],hp1 n,1⟩=some R→w563_K2 C ⟨[(3,.int .i64 i),(1,.ptr 0 0 0)],hp1 n,1⟩=some R:=by
       intro R hR
       simp only [w563_K2,w563_K3] at hR ⊢;rw [ck_unf w563_B2.eq_1]
       simp at hR
       simp (disch:=omega) [h1,wI64,hb,hc,H.inl,inlB,H.pp,ppB,hR]
      by_cases q3:(n.a.take i).all (fun b=>decide (b.1 < n.a[i].1))=true
      · have:=ih (i+1) (by omega) (fun p q hp hq h5 h6=>by
         by_cases e:q=i
         · subst e
           have:=List.all_eq_true.1 q3 n.a[p] (List.mem_take_iff_getElem.2 ⟨p,by omega,rfl⟩)
           simpa using this
         · exact hs p q hp hq h5 (by omega))
        rw [if_neg (by omega),show i+1 - 1=i from rfl,List.getElem?_eq_getElem h1] at this
        have hin:=ain_loop n i h1 hl _ this i 0 (by simp)
        rw [List.drop_zero,if_pos q3] at hin
        rw [step _ hin,← key,q3]
        simp
      · have q4:(n.a.take i).all (fun b=>decide (b.1 < n.a[i].1))=false:=Bool.eq_false_iff.2 q3
        rw [← key,q4]
        simp only [Bool.and_false,Bool.false_and]
        exact step _ (ain_false n i h1 hl i 0 (by simp) (by rw [List.drop_zero];exact q4))
theorem one_ok (H:HasR C) (n:Nd):FnW C 563 [.agg n.c]=some (.bool (alone n)):=by
 rw [fnW_eq H.f563 rfl]
 unfold alone
 have ht:=rname_ok H.toHasS n.t
 have hy:=rname_ok H.toHasS n.y
 have hx:=rstr_ok H.toHasS n.x
 by_cases k2:n.k=2
 · rw [if_pos k2]
   generalize isText n.x=X at *
   cases X
   · simp [w563,k2,hx,H.inl,inlB,H.pp,ppB]
   · by_cases c1:n.t=[] <;> by_cases c2:n.y=[] <;> by_cases c3:n.a=[] <;> by_cases c4:n.ch=[] <;> simp [w563,k2,hx,H.inl,inlB,H.pp,ppB,c1,c2,c3,c4]
 · rw [if_neg k2]
   by_cases k1:n.k=1
   · cases q1:isName n.t
     · rw [q1] at ht;simp [w563,k1,ht,H.inl,inlB,H.pp,ppB]
     · rw [q1] at ht
       have rest:(n.y=[]∨n.y≠[]∧isName n.y=true)→FnW C 563 [.agg n.c]=some (.bool (decide (n.x=[])&&decide (n.a.length≤8)&&decide (n.ch.length≤16)&&atOk none n.a&&keysOk [] (n.ch.map Nd.y))):=by
        intro hyy
        rw [fnW_eq H.f563 rfl]
        by_cases c3:n.x=[]
        · by_cases c4:n.a.length≤8
          · by_cases c5:n.ch.length≤16
            · have c6:¬ 8 < (n.a.length:Int):=by omega
              have c7:¬ 16 < (n.ch.length:Int):=by omega
              have hl:=aout_loop H n c4 c5 n.a.length 0 (by simp) (by omega)
              simp only [w563_K2,if_true,List.drop_zero] at hl
              generalize atOk none n.a=A at *
              generalize keysOk [] (n.ch.map Nd.y)=K at *
              simp at hl
              rcases hyy with c2 | ⟨c2,q2⟩
              · simp [w563,k1,ht,H.inl,inlB,H.pp,ppB,eq_true c2,eq_true c3,c4,c5,c6,c7,hl]
              · rw [q2] at hy
                simp [w563,k1,ht,hy,H.inl,inlB,H.pp,ppB,c2,eq_true c3,c4,c5,c6,c7,hl]
            · have c6:¬ 8 < (n.a.length:Int):=by omega
              have c7:16 < (n.ch.length:Int):=by omega
              rcases hyy with c2 | ⟨c2,q2⟩
              · simp [w563,k1,ht,H.inl,inlB,H.pp,ppB,eq_true c2,eq_true c3,c4,c5,c6,c7]
              · rw [q2] at hy
                simp [w563,k1,ht,hy,H.inl,inlB,H.pp,ppB,c2,eq_true c3,c4,c5,c6,c7]
          · have c6:8 < (n.a.length:Int):=by omega
            rcases hyy with c2 | ⟨c2,q2⟩
            · simp [w563,k1,ht,H.inl,inlB,H.pp,ppB,eq_true c2,eq_true c3,c4,c6]
            · rw [q2] at hy
              simp [w563,k1,ht,hy,H.inl,inlB,H.pp,ppB,c2,eq_true c3,c4,c6]
        · rcases hyy with c2 | ⟨c2,q2⟩
          · simp [w563,k1,ht,H.inl,inlB,H.pp,ppB,eq_true c2,c3]
          · rw [q2] at hy
            simp [w563,k1,ht,hy,H.inl,inlB,H.pp,ppB,c2,c3]
       rw [fnW_eq H.f563 rfl] at rest
       by_cases c2:n.y=[]
       · rw [rest (.inl c2)];simp [k1,c2]
       · cases q2:isName n.y
         · rw [q2] at hy;simp [w563,k1,ht,hy,H.inl,inlB,H.pp,ppB,c2]
         · rw [rest (.inr ⟨c2,q2⟩)];simp [k1]
   · simp [w563,k1,k2,H.inl,inlB,H.pp,ppB]
mutual
/-- The specification's count, with so many levels. -/
def rc:Nd→Nat→Nat
 | _,0=>1000
 | ⟨k,t,y,a,ae,x,ch,ce⟩,lv+1=>if alone ⟨k,t,y,a,ae,x,ch,ce⟩=true then rcs ch lv 1 else 1000
def rcs:List Nd→Nat→Nat→Nat
 | [],_,c=>c
 | m::r,lv,c=>if c≤64 then rcs r lv (c+rc m lv) else c
end
theorem rc_z (n:Nd):rc n 0=1000:=by cases n;rw [rc]
theorem rc_s (n:Nd) (lv:Nat):rc n (lv+1)=if alone n=true then rcs n.ch lv 1 else 1000:=by cases n;rw [rc]
theorem rcs_ge:∀ (l:List Nd) (lv c:Nat),c≤rcs l lv c
 | [],lv,c=>by rw [rcs];exact Nat.le_refl _
 | m::r,lv,c=>by
  rw [rcs]
  split
  · have:=rcs_ge r lv (c+rc m lv);omega
  · exact Nat.le_refl _
theorem rc_ge (n:Nd) (lv:Nat):1≤rc n lv:=by
 cases lv with
 | zero=>rw [rc_z];omega
 | succ lv =>
  rw [rc_s]
  split
  · exact rcs_ge _ _ _
  · omega
mutual
theorem rc_le:∀ (n:Nd) (lv:Nat),rc n lv≤1000+64 * lv
 | ⟨k,t,y,a,ae,x,ch,ce⟩,0=>by rw [rc];omega
 | ⟨k,t,y,a,ae,x,ch,ce⟩,lv+1=>by
  rw [rc]
  split
  · have:=rcs_le ch lv 1 (by omega);omega
  · omega
theorem rcs_le:∀ (l:List Nd) (lv c:Nat),c≤1064+64 * lv→rcs l lv c≤1064+64 * lv
 | [],lv,c,h=>by rw [rcs];exact h
 | m::r,lv,c,h=>by
  rw [rcs]
  split
  · have h2:=rc_le m lv
    exact rcs_le r lv _ (by omega)
  · exact h
end
mutual
theorem wk_rc:∀ (n:Nd) (lv L c d:Nat),lv+L=7→c≤64→((wk n L (c,d)).1=true→(wk n L (c,d)).2.1=c+rc n lv∧c+rc n lv≤64)∧((wk n L (c,d)).1=false→64 < c+rc n lv)
 | ⟨k,t,y,a,ae,x,ch,ce⟩,lv,L,c,d,h1,h2=>by
  have hge:=rc_ge ⟨k,t,y,a,ae,x,ch,ce⟩ lv
  rw [wk]
  by_cases q:6 < L∨64 < c+1∨alone ⟨k,t,y,a,ae,x,ch,ce⟩=false
  · rw [if_pos q]
    refine ⟨fun r=>by simp at r,fun _=>?_⟩
    rcases q with q | q | q
    · have:lv=0:=by omega
      subst this
      rw [rc];omega
    · omega
    · cases lv with
      | zero=>rw [rc];omega
      | succ lv=>rw [rc,if_neg (by simp [q])];omega
  · rw [if_neg q]
    cases lv with
    | zero=>omega
    | succ lv =>
     rw [rc,if_pos (by simpa using fun r=>q (.inr (.inr r)))]
     exact wks_rc ch lv (L+1) c 1 (max d L) (by omega) (by omega)
theorem wks_rc:∀ (l:List Nd) (lv L g c d:Nat),lv+L=7→g+c≤64→((wks l L (g+c,d)).1=true→(wks l L (g+c,d)).2.1=g+rcs l lv c∧g+rcs l lv c≤64)∧((wks l L (g+c,d)).1=false→64 < g+rcs l lv c)
 | [],lv,L,g,c,d,h1,h2=>by
  rw [wks,rcs];exact ⟨fun _=>⟨rfl,h2⟩,fun r=>by simp at r⟩
 | m::r,lv,L,g,c,d,h1,h2=>by
  have hm:=wk_rc m lv L (g+c) d h1 h2
  have hr:rcs (m::r) lv c=rcs r lv (c+rc m lv):=by rw [rcs,if_pos (by omega)]
  rw [wks,hr]
  generalize wk m L (g+c,d)=R at *
  obtain ⟨b,c',d'⟩:=R
  cases b with
  | true =>
   obtain ⟨e1,e2⟩:=hm.1 rfl
   rw [if_pos rfl]
   simp only at e1
   rw [e1,Nat.add_assoc]
   exact wks_rc r lv L g (c+rc m lv) d' h1 (by omega)
  | false =>
   have e:=hm.2 rfl
   rw [if_neg (by simp)]
   refine ⟨fun q=>by simp at q,fun _=>?_⟩
   have:=rcs_ge r lv (c+rc m lv)
   omega
end
theorem cnt_rc (n:Nd):cnt n=if 64 < rc n 6 then 0 else rc n 6:=by
 have h:=wk_rc n 6 1 0 0 rfl (by omega)
 unfold cnt
 generalize wk n 1 (0,0)=R at *
 obtain ⟨b,c,d⟩:=R
 cases b with
 | true =>
  obtain ⟨e1,e2⟩:=h.1 rfl
  simp only at e1
  rw [if_pos rfl,if_neg (by omega)];simp only;omega
 | false =>
  have e:=h.2 rfl
  rw [if_neg (by simp),if_pos (by omega)]
theorem rcount_loop (H:HasR C) (n:Nd) (lv:Nat) (hlv:lv≤5) (hl:n.ch.length≤16) (ih:∀ m ∈ n.ch,FnW C 520 [.agg m.c,.int .i64 lv]=some (.int .i64 (rc m lv))):∀ j i,j+i=n.ch.length→∀ c,c≤1064+64 * lv →
 w520_K0 C ⟨[(6,.int .i64 i),(5,.int .i64 c),(2,.ptr 0 0 0),(1,.int .i64 (lv+1:Nat))],hp1 n,1⟩=some (.int .i64 (rcs (n.ch.drop i) lv c)):=by
 intro j
 induction j with
 | zero =>
  intro i hi c hc
  simp only [w520_K0];rw [ck_unf w520_B0.eq_1]
  have h1:n.ch.drop i=[]:=List.drop_eq_nil_of_le (by omega)
  have h3:¬ i < n.ch.length:=by omega
  rw [h1,rcs]
  simp [ck_unf w520_c0.eq_1,h3]
 | succ j ihj =>
  intro i hi c hc
  have h1:i < n.ch.length:=by omega
  have hm:=ih _ (List.getElem_mem h1)
  have hle:=rc_le n.ch[i] lv
  rw [drop_cons h1,rcs]
  by_cases c1:c≤64
  · have:=ihj (i+1) (by omega) (c+rc n.ch[i] lv) (by omega)
    rw [if_pos c1]
    have c2:(c:Int)≤64:=by omega
    simp only [w520_K0] at this ⊢;rw [ck_unf w520_B0.eq_1]
    simp at this
    simp (disch:=omega) [h1,c1,c2,wI64,hm,H.inl,inlB,H.pp,ppB,this]
  · rw [if_neg c1]
    have c2:¬ (c:Int)≤64:=by omega
    simp only [w520_K0];rw [ck_unf w520_B0.eq_1]
    simp (disch:=omega) [ck_unf w520_c0.eq_1,h1,c1,c2]
theorem rcount_step (H:HasR C) (n:Nd) (ih:∀ m ∈ n.ch,∀ lv:Nat,lv≤6→FnW C 520 [.agg m.c,.int .i64 lv]=some (.int .i64 (rc m lv))) (lv:Nat) (hlv:lv≤6):FnW C 520 [.agg n.c,.int .i64 lv]=some (.int .i64 (rc n lv)):=by
 have ho:=one_ok H n
 rw [fnW_eq H.f520 rfl]
 cases lv with
 | zero=>rw [rc_z];simp [w520]
 | succ lv =>
  rw [rc_s]
  have c1:¬ (lv:Int)+1 < 1:=by omega
  cases ha:alone n with
  | false=>rw [ha] at ho;simp [w520,c1,ho,H.inl,inlB,H.pp,ppB]
  | true =>
   rw [ha] at ho
   have hl:n.ch.length≤16:=by
    unfold alone at ha
    split at ha
    · simp at ha;rw [ha.2];simp
    · simp at ha;omega
   have hr:=rcount_loop H n lv (by omega) hl (fun m hm=>ih m hm lv (by omega)) n.ch.length 0 (by simp) 1 (by omega)
   rw [List.drop_zero] at hr
   simp only [w520_K0] at hr
   simp at hr
   simp [w520,c1,ho,H.inl,inlB,H.pp,ppB,hr]
theorem rcount_ok (H:HasR C) (n:Nd) (lv:Nat) (hlv:lv≤6):FnW C 520 [.agg n.c,.int .i64 lv]=some (.int .i64 (rc n lv)) :=
 rcount_step H n (fun m hm lv hlv=>rcount_ok H m lv hlv) lv hlv
termination_by SizeOf.sizeOf n
decreasing_by
 have:=List.sizeOf_lt_of_mem hm
 have:=size_ch n
 omega
theorem rCount_ok (H:HasR C) (n:Nd):FnW C 442 [.agg n.c]=some (.int .i64 (cnt n)):=by
 have h:=rcount_ok H n 6 (by omega)
 rw [fnW_eq H.f442 rfl,cnt_rc]
 generalize rc n 6=R at *
 simp at h
 by_cases c:64 < R
 · have c1:64 < (R:Int):=by omega
   simp [w442,H.inl,inlB,H.pp,ppB,h,c,c1]
 · have c1:¬ 64 < (R:Int):=by omega
   simp [w442,H.inl,inlB,H.pp,ppB,h,c,c1]
theorem rCheck_ok (H:HasR C) (n:Nd):FnW C 441 [.agg n.c]=some (.int .i64 (if cnt n=0 then 14 else 0)):=by
 have h:=rCount_ok H n
 rw [fnW_eq H.f441 rfl]
 by_cases c:cnt n=0
 · simp [w441,H.inl,inlB,H.pp,ppB,h,c]
 · simp [w441,H.inl,inlB,H.pp,ppB,h,c]
end Go.D
end
section
namespace Go.D
open Go Go.Pav Go.Pw P
attribute [-simp] List.getElem_cons_drop
variable {C:WProg}
structure Sl where
 n:Bs
 f:Int
 v:Bs
@[simp] def eSl (s:Sl):List AV:=[.str s.n,.int .u8 s.f,.str s.v]
structure Pt where
 k:Int
 t:Bs
 y:Bs
 s:List Sl
 se:Bool
 x:Bs
 ch:List Pt
 ce:Bool
mutual
def Pt.c:Pt→List AV
 | ⟨k,t,y,s,se,x,ch,ce⟩=>[.int .u8 k,.str t,.str y,.ro 3 (s.map eSl) se,.str x,.ro 6 (Pt.cs ch) ce]
def Pt.cs:List Pt→List (List AV)
 | []=>[]
 | n::r=>n.c::Pt.cs r
end
theorem Pt.cs_eq:∀ l:List Pt,Pt.cs l=l.map Pt.c
 | []=>rfl
 | n::r=>by rw [Pt.cs,Pt.cs_eq r];rfl
theorem Pt.c_eq (n:Pt):n.c=[.int .u8 n.k,.str n.t,.str n.y,.ro 3 (n.s.map eSl) n.se,.str n.x,.ro 6 (n.ch.map Pt.c) n.ce]:=by
 cases n;rw [Pt.c,Pt.cs_eq]
@[simp] theorem Pt.c_len (n:Pt):n.c.length=6:=by rw [Pt.c_eq];rfl
@[simp] theorem Pt.c_take (n:Pt):n.c.take 6=n.c:=List.take_of_length_le (by simp)
@[simp] theorem Pt.c0 (n:Pt):n.c[0]?=some (.int .u8 n.k):=by rw [Pt.c_eq];rfl
@[simp] theorem Pt.c1 (n:Pt):n.c[1]?=some (.str n.t):=by rw [Pt.c_eq];rfl
@[simp] theorem Pt.c2 (n:Pt):n.c[2]?=some (.str n.y):=by rw [Pt.c_eq];rfl
@[simp] theorem Pt.c3 (n:Pt):n.c[3]?=some (.ro 3 (n.s.map eSl) n.se):=by rw [Pt.c_eq];rfl
@[simp] theorem Pt.c4 (n:Pt):n.c[4]?=some (.str n.x):=by rw [Pt.c_eq];rfl
@[simp] theorem Pt.c5 (n:Pt):n.c[5]?=some (.ro 6 (n.ch.map Pt.c) n.ce):=by rw [Pt.c_eq];rfl
@[simp] theorem Pt.g0 (n:Pt) (h:0 < n.c.length):n.c[0]=.int .u8 n.k:=Option.some.inj ((List.getElem?_eq_getElem h).symm.trans n.c0)
@[simp] theorem Pt.g1 (n:Pt) (h:1 < n.c.length):n.c[1]=.str n.t:=Option.some.inj ((List.getElem?_eq_getElem h).symm.trans n.c1)
@[simp] theorem Pt.g2 (n:Pt) (h:2 < n.c.length):n.c[2]=.str n.y:=Option.some.inj ((List.getElem?_eq_getElem h).symm.trans n.c2)
@[simp] theorem Pt.g3 (n:Pt) (h:3 < n.c.length):n.c[3]=.ro 3 (n.s.map eSl) n.se:=Option.some.inj ((List.getElem?_eq_getElem h).symm.trans n.c3)
@[simp] theorem Pt.g4 (n:Pt) (h:4 < n.c.length):n.c[4]=.str n.x:=Option.some.inj ((List.getElem?_eq_getElem h).symm.trans n.c4)
@[simp] theorem Pt.g5 (n:Pt) (h:5 < n.c.length):n.c[5]=.ro 6 (n.ch.map Pt.c) n.ce:=Option.some.inj ((List.getElem?_eq_getElem h).symm.trans n.c5)
@[simp] theorem Pt.hd (n:Pt):n.c.head?=some (.int .u8 n.k):=by rw [Pt.c_eq];rfl
@[simp] theorem Pt.c_ptr (n:Pt):hasPtrL n.c=false:=by rw [Pt.c_eq];rfl
@[simp] theorem Pt.c_frz (n:Pt) (h:WHeap) (k:Nat):mapO (frzW h (k+1)) n.c=some n.c:=by rw [Pt.c_eq];rfl
@[simp] theorem Pt.c_reach (n:Pt) (h:WHeap) (k:Nat):n.c.flatMap (reachW h (k+1))=[]:=by rw [Pt.c_eq];rfl
@[simp] theorem Pt.c_ren (n:Pt) (π:Nat→Option Nat):renL π n.c=some n.c:=by rw [Pt.c_eq];rfl
@[simp] theorem Pt.c_refs (n:Pt):refsL n.c=[]:=by rw [Pt.c_eq];rfl
@[simp] theorem Pt.c_isC (n:Pt):n.c.all isC=true:=by rw [Pt.c_eq];rfl
@[simp] theorem Pt.c_cell (n:Pt):n.c.all AV.cell=true:=by rw [Pt.c_eq];rfl
theorem Pt.size_ch (n:Pt):SizeOf.sizeOf n.ch < SizeOf.sizeOf n:=by cases n;simp;omega
def slsOk:Option Bs→List Sl→Bool
 | _,[]=>true
 | p,s::r=>isName s.n&&decide (s.f≤3)&&isText s.v&&(decide (s.f≤0)||decide (s.v=[]))&&after p s.n&&slsOk (some s.n) r
def pOne (p:Pt):Bool :=
 if p.k=1 then (decide (p.y=[])||isName p.y)&&decide (p.ch.length≤16)&&isName p.t&&(decide (p.s.length≤8)&&slsOk none p.s)&&decide (p.x=[])
 else if p.k=5 then isName p.t&&(decide (p.s.length≤8)&&slsOk none p.s)&&decide (p.y=[])&&decide (p.x=[])&&decide (p.ch=[])
 else if p.k=2 then isText p.x&&decide (p.t=[])&&decide (p.y=[])&&decide (p.s=[])&&decide (p.ch=[])
 else decide (p.k=3∨p.k=4)&&decide (p.t=[])&&decide (p.y=[])&&decide (p.x=[])&&decide (p.s=[])&&decide (p.ch=[])
structure HasT (C:WProg):Prop extends HasM C where
 f581:C.fns.get 581=some w581
 f579:C.fns.get 579=some w579
 f585:C.fns.get 585=some w585
 f549:C.fns.get 549=some w549
 f502:C.fns.get 502=some w502
 f503:C.fns.get 503=some w503
 f548:C.fns.get 548=some w548
 f404:C.fns.get 404=some w404
 f231:C.fns.get 231=some w231
theorem cnt_leaf (n:Nd) (h:n.ch=[]):cnt n=if alone n=true then 1 else 0:=by
 rw [cnt_rc,rc_s,h,rcs]
 cases alone n <;> simp
theorem tnamed_ok (H:HasT C) (s:Bs):FnW C 581 [.str s]=some (.bool (isName s)):=by
 have h:FnW C 439 [.agg [.int .u8 1,.str s,.str [],.ro 2 [] true,.str [],.ro 6 [] true]]=_:=check_ok H.toHasM ⟨1,s,[],[],true,[],[],true⟩
 rw [cnt_leaf _ rfl] at h
 have e:alone ⟨1,s,[],[],true,[],[],true⟩=isName s:=by unfold alone;simp [atOk,keysOk]
 rw [e] at h
 rw [fnW_eq H.f581 rfl]
 cases q:isName s <;> rw [q] at h <;> simp at h <;> simp [w581,H.inl,inlB,H.pp,ppB,h]
theorem tplain_ok (H:HasT C) (s:Bs):FnW C 579 [.str s]=some (.bool (isText s)):=by
 have h:FnW C 439 [.agg [.int .u8 2,.str [],.str [],.ro 2 [] true,.str s,.ro 6 [] true]]=_:=check_ok H.toHasM ⟨2,[],[],[],true,s,[],true⟩
 rw [cnt_leaf _ rfl] at h
 have e:alone ⟨2,[],[],[],true,s,[],true⟩=isText s:=by unfold alone;simp
 rw [e] at h
 rw [fnW_eq H.f579 rfl]
 cases q:isText s <;> rw [q] at h <;> simp at h <;> simp [w579,H.inl,inlB,H.pp,ppB,h]
theorem slots_loop (H:HasT C) (l:List Sl) (e:Bool) (hl:l.length≤1000000):∀ n i,n+i=l.length →
 w585_K0 C ⟨[(10,.int .i64 i),(9,.int .i64 l.length),(8,.ro 3 (l.map eSl) e),(0,.ro 3 (l.map eSl) e)],[],0⟩ =
  some (.bool (slsOk (if i=0 then none else (l[i - 1]?).map Sl.n) (l.drop i))):=by
 intro n
 induction n with
 | zero =>
  intro i hi
  simp only [w585_K0];rw [ck_unf w585_B0.eq_1]
  have h1:l.drop i=[]:=List.drop_eq_nil_of_le (by omega)
  have h3:¬ i < l.length:=by omega
  simp [ck_unf w585_c0.eq_1,h1,h3,slsOk]
 | succ n ih =>
  intro i hi
  have h1:i < l.length:=by omega
  have hb:=tnamed_ok H l[i].n
  have hc:=tplain_ok H l[i].v
  have:=ih (i+1) (by omega)
  rw [if_neg (by omega),show i+1 - 1=i from rfl,List.getElem?_eq_getElem h1] at this
  rw [drop_cons h1,slsOk]
  simp only [w585_K0] at this ⊢;rw [ck_unf w585_B0.eq_1]
  simp only [Option.map_some] at this
  generalize slsOk (some l[i].n) (l.drop (i+1))=R at *
  cases q1:isName l[i].n
  · rw [q1] at hb
    simp (disch:=omega) [h1,wI64,hb,H.inl,inlB,H.pp,ppB]
  · rw [q1] at hb
    by_cases f3:l[i].f≤3
    · have f3':¬ 3 < l[i].f:=by omega
      cases q2:isText l[i].v
      · rw [q2] at hc
        simp (disch:=omega) [h1,wI64,hb,hc,H.inl,inlB,H.pp,ppB,f3,f3']
      · rw [q2] at hc
        by_cases f0:0 < l[i].f∧¬ l[i].v=[]
        · have f1:¬ l[i].f≤0:=by omega
          simp (disch:=omega) [h1,wI64,hb,hc,H.inl,inlB,H.pp,ppB,f3,f3',f0.1,f0.2,f1]
        · have key:(0 < l[i].f∧l[i].v=[])∨¬ 0 < l[i].f:=by
           by_cases a:0 < l[i].f
           · exact .inl ⟨a,Classical.byContradiction fun b=>f0 ⟨a,b⟩⟩
           · exact .inr a
          cases i with
          | zero =>
           simp at this
           rcases key with ⟨a,b⟩ | a
           · have b':=eq_true b
             simp (disch:=omega) [h1,wI64,hb,hc,H.inl,inlB,H.pp,ppB,f3,f3',a,b',this,after]
           · have a':l[0].f≤0:=by omega
             simp (disch:=omega) [h1,wI64,hb,hc,H.inl,inlB,H.pp,ppB,f3,f3',a,a',this,after]
          | succ i =>
           have h4:i < l.length:=by omega
           have h5:(i:Int)+1 < l.length:=by omega
           simp at this
           by_cases q3:l[i].n < l[i+1].n
           · have q4:¬ l[i+1].n≤l[i].n:=List.not_le.2 q3
             rcases key with ⟨a,b⟩ | a
             · have b':=eq_true b
               simp (disch:=omega) [h1,h4,h5,wI64,hb,hc,H.inl,inlB,H.pp,ppB,f3,f3',a,b',this,after,leq_eq,q3,q4]
             · have a':l[i+1].f≤0:=by omega
               simp (disch:=omega) [h1,h4,h5,wI64,hb,hc,H.inl,inlB,H.pp,ppB,f3,f3',a,a',this,after,leq_eq,q3,q4]
           · have q4:l[i+1].n≤l[i].n:=List.not_lt.1 q3
             rcases key with ⟨a,b⟩ | a
             · have b':=eq_true b
               simp (disch:=omega) [h1,h4,h5,wI64,hb,hc,H.inl,inlB,H.pp,ppB,f3,f3',a,b',this,after,leq_eq,q3,q4]
             · have a':l[i+1].f≤0:=by omega
               simp (disch:=omega) [h1,h4,h5,wI64,hb,hc,H.inl,inlB,H.pp,ppB,f3,f3',a,a',this,after,leq_eq,q3,q4]
    · have f3':3 < l[i].f:=by omega
      simp (disch:=omega) [h1,wI64,hb,H.inl,inlB,H.pp,ppB,f3,f3']
theorem slots_ok (H:HasT C) (l:List Sl) (e:Bool):FnW C 585 [.ro 3 (l.map eSl) e]=some (.bool (decide (l.length≤8)&&slsOk none l)):=by
 rw [fnW_eq H.f585 rfl]
 by_cases c:l.length≤8
 · have c1:¬ 8 < (l.length:Int):=by omega
   have h:=slots_loop H l e (by omega) l.length 0 (by simp)
   rw [List.drop_zero,if_pos rfl] at h
   generalize slsOk none l=R at *
   simp only [w585_K0] at h
   simp at h
   simp [w585,c,c1,h]
 · have c1:8 < (l.length:Int):=by omega
   simp [w585,c,c1]
end Go.D
end
section
namespace Go.D
open Go Go.Pav Go.Pw P
attribute [-simp] List.getElem_cons_drop
variable {C:WProg}
theorem talone_ok (H:HasT C) (p:Pt):FnW C 549 [.rop p.c]=some (.bool (pOne p)):=by
 obtain ⟨k,t,y,s,se,x,ch,ce⟩:=p
 rw [fnW_eq H.f549 rfl,Pt.c_eq]
 simp only []
 unfold pOne
 simp only []
 have ht:=tnamed_ok H t
 have hy:=tnamed_ok H y
 have hx:=tplain_ok H x
 have hs:=slots_ok H s se
 generalize isName t=T at *
 generalize isText x=X at *
 generalize (decide (s.length≤8)&&slsOk none s)=S at *
 by_cases k1:k=1
 · rw [if_pos k1]
   by_cases c2:y=[]
   · subst c2
     by_cases c5:ch.length≤16
     · have c7:¬ 16 < (ch.length:Int):=by omega
       cases T
       · simp [w549,k1,ht,hs,H.inl,inlB,H.pp,ppB,c5,c7]
       · cases S
         · simp [w549,k1,ht,hs,H.inl,inlB,H.pp,ppB,c5,c7]
         · by_cases c3:x=[] <;> simp [w549,k1,ht,hs,H.inl,inlB,H.pp,ppB,c3,c5,c7]
     · have c7:16 < (ch.length:Int):=by omega
       simp [w549,k1,ht,hs,H.inl,inlB,H.pp,ppB,c5,c7]
   · cases q2:isName y
     · rw [q2] at hy;simp [w549,k1,hy,H.inl,inlB,H.pp,ppB,c2]
     · rw [q2] at hy
       by_cases c5:ch.length≤16
       · have c7:¬ 16 < (ch.length:Int):=by omega
         cases T
         · simp [w549,k1,ht,hy,hs,H.inl,inlB,H.pp,ppB,c2,c5,c7]
         · cases S
           · simp [w549,k1,ht,hy,hs,H.inl,inlB,H.pp,ppB,c2,c5,c7]
           · by_cases c3:x=[] <;> simp [w549,k1,ht,hy,hs,H.inl,inlB,H.pp,ppB,c2,c3,c5,c7]
       · have c7:16 < (ch.length:Int):=by omega
         simp [w549,k1,ht,hy,hs,H.inl,inlB,H.pp,ppB,c2,c5,c7]
 · rw [if_neg k1]
   by_cases k5:k=5
   · rw [if_pos k5]
     cases T
     · simp [w549,k5,ht,hs,H.inl,inlB,H.pp,ppB]
     · cases S
       · simp [w549,k5,ht,hs,H.inl,inlB,H.pp,ppB]
       · by_cases c2:y=[]
         · by_cases c3:x=[]
           · by_cases c4:ch=[]
             · simp [w549,k5,ht,hs,H.inl,inlB,H.pp,ppB,c2,c3,c4]
             · simp [w549,k5,ht,hs,H.inl,inlB,H.pp,ppB,c2,c3,c4]
           · simp [w549,k5,ht,hs,H.inl,inlB,H.pp,ppB,c2,c3]
         · simp [w549,k5,ht,hs,H.inl,inlB,H.pp,ppB,c2]
   · rw [if_neg k5]
     by_cases k2:k=2
     · rw [if_pos k2]
       cases X
       · simp [w549,k2,hx,H.inl,inlB,H.pp,ppB]
       · by_cases c1:t=[]
         · by_cases c2:y=[]
           · by_cases c3:s=[]
             · by_cases c4:ch=[]
               · simp [w549,k2,hx,H.inl,inlB,H.pp,ppB,c1,c2,c3,c4]
               · simp [w549,k2,hx,H.inl,inlB,H.pp,ppB,c1,c2,c3,c4]
             · simp [w549,k2,hx,H.inl,inlB,H.pp,ppB,c1,c2,c3]
           · simp [w549,k2,hx,H.inl,inlB,H.pp,ppB,c1,c2]
         · simp [w549,k2,hx,H.inl,inlB,H.pp,ppB,c1]
     · rw [if_neg k2]
       by_cases k34:k=3∨k=4
       · rcases k34 with k3 | k4
         · by_cases c1:t=[]
           · by_cases c2:y=[]
             · by_cases c0:x=[]
               · by_cases c3:s=[]
                 · by_cases c4:ch=[]
                   · simp [w549,k3,H.inl,inlB,H.pp,ppB,c1,c2,c0,c3,c4]
                   · simp [w549,k3,H.inl,inlB,H.pp,ppB,c1,c2,c0,c3,c4]
                 · simp [w549,k3,H.inl,inlB,H.pp,ppB,c1,c2,c0,c3]
               · simp [w549,k3,H.inl,inlB,H.pp,ppB,c1,c2,c0]
             · simp [w549,k3,H.inl,inlB,H.pp,ppB,c1,c2]
           · simp [w549,k3,H.inl,inlB,H.pp,ppB,c1]
         · by_cases c1:t=[]
           · by_cases c2:y=[]
             · by_cases c0:x=[]
               · by_cases c3:s=[]
                 · by_cases c4:ch=[]
                   · simp [w549,k4,H.inl,inlB,H.pp,ppB,c1,c2,c0,c3,c4]
                   · simp [w549,k4,H.inl,inlB,H.pp,ppB,c1,c2,c0,c3,c4]
                 · simp [w549,k4,H.inl,inlB,H.pp,ppB,c1,c2,c0,c3]
               · simp [w549,k4,H.inl,inlB,H.pp,ppB,c1,c2,c0]
             · simp [w549,k4,H.inl,inlB,H.pp,ppB,c1,c2]
           · simp [w549,k4,H.inl,inlB,H.pp,ppB,c1]
       · have k3:¬ k=3:=fun q=>k34 (.inl q)
         have k4:¬ k=4:=fun q=>k34 (.inr q)
         simp [w549,k1,k2,k3,k4,k5,H.inl,inlB,H.pp,ppB]
mutual
/-- The walk below a part: whether it ends well, how many parts. -/
def tk:Pt→Nat→Nat→Bool × Nat
 | ⟨k,t,y,s,se,x,ch,ce⟩,lv,c=>if 6 < lv∨64 < c+1∨pOne ⟨k,t,y,s,se,x,ch,ce⟩=false then (false,c+1) else tks ch (lv+1) (c+1)
def tks:List Pt→Nat→Nat→Bool × Nat
 | [],_,c=>(true,c)
 | m::r,lv,c=>if (tk m lv c).1=true then tks r lv (tk m lv c).2 else (false,(tk m lv c).2)
end
theorem tk_eq (p:Pt) (lv c:Nat):tk p lv c=if 6 < lv∨64 < c+1∨pOne p=false then (false,c+1) else tks p.ch (lv+1) (c+1):=by cases p;rw [tk]
mutual
theorem tk_bd:∀ (p:Pt) (lv c:Nat),lv≤7→c≤64→(tk p lv c).1=true→(tk p lv c).2≤64
 | ⟨k,t,y,s,se,x,ch,ce⟩,lv,c,h1,h2=>by
  rw [tk]
  split
  · exact fun q=>by simp at q
  · rename_i h
    exact tks_bd ch (lv+1) (c+1) (by omega) (by omega)
theorem tks_bd:∀ (l:List Pt) (lv c:Nat),lv≤7→c≤64→(tks l lv c).1=true→(tks l lv c).2≤64
 | [],lv,c,h1,h2=>by rw [tks];exact fun _=>h2
 | m::r,lv,c,h1,h2=>by
  have h4:=tk_bd m lv c h1 h2
  rw [tks]
  split
  · rename_i h
    exact tks_bd r lv _ h1 (h4 h)
  · exact fun q=>by simp at q
end
abbrev hpT (c:Nat):WHeap:=[(0,.cells 1 [[.fn 503 []]] true true),(7,.cells 1 [[.int .i64 c]] true true),(9,.cells 1 [[.fn 548 [.ptr 7 0 0,.ptr 0 0 0,.ptr 9 0 0]]] true false)]
def WalkT (C:WProg) (p:Pt):Prop:=∀ (lv c n:Nat),10≤n→c≤64→lv≤7 →
 ∃ n',RnW C 548 [.rop p.c,.int .i64 lv,.ptr 7 0 0,.ptr 0 0 0,.ptr 9 0 0] (hpT c) n=some (.bool (tk p lv c).1,hpT (tk p lv c).2,n')
theorem twalk_loop (H:HasT C) (p:Pt) (lv n:Nat) (hn:10≤n) (hlv:lv≤6) (hl:p.ch.length≤16) (ih:∀ m ∈ p.ch,WalkT C m):∀ j i,j+i=p.ch.length→∀ c,c≤64 →
 ∃ n',CK C n (fnEndW [.tmp 7]) [.sq w548_L0,.bk 0 ⟨true,[],[]⟩,.sq w548_c0] w548_B0 ⟨[(30,.int .i64 i),(29,.int .i64 p.ch.length),(4,.ptr 9 0 0),(1,.int .i64 lv),(0,.rop p.c)],hpT c,n⟩ =
  some (.bool (tks (p.ch.drop i) (lv+1) c).1,hpT (tks (p.ch.drop i) (lv+1) c).2,n'):=by
 have n0:0 < n:=by omega
 have n1:7 < n:=by omega
 have n2:9 < n:=by omega
 intro j
 induction j with
 | zero =>
  intro i hi c hc
  have h1:p.ch.drop i=[]:=List.drop_eq_nil_of_le (by omega)
  have h3:¬ i < p.ch.length:=by omega
  rw [h1,tks,ck_unf w548_B0.eq_1]
  refine ⟨?_,?_⟩
  rotate_left
  · simp (disch:=omega) [ck_unf w548_c0.eq_1,n0,n1,n2,h3]
    rfl
 | succ j ihj =>
  intro i hi c hc
  have h1:i < p.ch.length:=by omega
  obtain ⟨n',hw⟩:=ih _ (List.getElem_mem h1) (lv+1) c (n+1+1+1+11) (by omega) hc (by omega)
  have hb:=tk_bd p.ch[i] (lv+1) c (by omega) hc
  rw [drop_cons h1,tks]
  generalize hR:tk p.ch[i] (lv+1) c=R at *
  obtain ⟨r,c'⟩:=R
  cases r with
  | true =>
   obtain ⟨n2',hw2⟩:=ihj (i+1) (by omega) c' (hb rfl)
   refine ⟨n2',?_⟩
   rw [if_pos rfl]
   rw [ck_unf w548_B0.eq_1]
   simp at hw hw2
   simp (disch:=omega) [wI64,H.inl,inlB,H.pp,ppB,n0,n1,n2,h1,hw,hw2]
  | false =>
   rw [if_neg (by simp)]
   rw [ck_unf w548_B0.eq_1]
   simp at hw
   refine ⟨?_,?_⟩
   rotate_left
   · simp (disch:=omega) [wI64,H.inl,inlB,H.pp,ppB,n0,n1,n2,h1,hw]
     rfl
theorem pOne_len {p:Pt} (h:pOne p=true):p.ch.length≤16:=by
 unfold pOne at h
 split at h
 · simp at h;omega
 · split at h
   · simp at h;rw [h.2];simp
   · split at h
     · simp at h;rw [h.2];simp
     · simp at h;rw [h.2];simp
theorem twalk_step (H:HasT C) (p:Pt) (ih:∀ m ∈ p.ch,WalkT C m):WalkT C p:=by
 intro lv c n hn hc hlv
 rw [rnW_eq (args:=[.rop p.c,.int .i64 lv,.ptr 7 0 0,.ptr 0 0 0,.ptr 9 0 0]) H.f548 rfl (hpT c) n,tk_eq]
 have ha:=talone_ok H p
 have hu:FnW C 503 [.rop p.c]=some (.tup []):=by rw [fnW_eq H.f503 rfl];simp [w503]
 have n0:0 < n:=by omega
 have n1:7 < n:=by omega
 have n2:9 < n:=by omega
 by_cases b1:6 < lv
 · rw [if_pos (.inl b1)]
   refine ⟨?_,?_⟩
   rotate_left
   · simp (disch:=omega) [w548,wI64,H.inl,inlB,H.pp,ppB,b1,n0,n1,n2]
     rfl
 · by_cases b2:64 < c+1
   · rw [if_pos (.inr (.inl b2))]
     have b2':64 < (c:Int)+1:=by omega
     refine ⟨?_,?_⟩
     rotate_left
     · simp (disch:=omega) [w548,wI64,H.inl,inlB,H.pp,ppB,b1,b2',n0,n1,n2]
       rfl
   · have b2':¬ 64 < (c:Int)+1:=by omega
     cases b3:pOne p with
     | false =>
      rw [if_pos (.inr (.inr rfl))]
      rw [b3] at ha
      refine ⟨?_,?_⟩
      rotate_left
      · simp (disch:=omega) [w548,wI64,H.inl,inlB,H.pp,ppB,b1,b2',ha,n0,n1,n2]
        rfl
     | true =>
      rw [if_neg (by simp;omega)]
      have hl:=pOne_len b3
      rw [b3] at ha
      obtain ⟨n',hw⟩:=twalk_loop H p lv n hn (by omega) hl ih p.ch.length 0 (by simp) (c+1) (by omega)
      refine ⟨n',?_⟩
      rw [List.drop_zero] at hw
      generalize tks p.ch (lv+1) (c+1)=R at *
      simp only [hpT] at hw ⊢
      simp at hw
      simp (disch:=omega) [w548,wI64,H.inl,inlB,H.pp,ppB,b1,b2',ha,hu,n0,n1,n2,hw]
theorem twalks (H:HasT C) (p:Pt):WalkT C p :=
 twalk_step H p (fun m hm=>twalks H m)
termination_by SizeOf.sizeOf p
decreasing_by
 have:=List.sizeOf_lt_of_mem hm
 have:=p.size_ch
 omega
def tcnt (p:Pt):Nat:=if p.k=1∧(tk p 1 0).1=true then (tk p 1 0).2 else 0
theorem twalk_ok (H:HasT C) (p:Pt):FnW C 502 [.rop p.c,.fn 503 []]=some (.int .i64 (tcnt p)):=by
 rw [fnW_eq H.f502 rfl]
 obtain ⟨n',h⟩:=twalks H p 1 0 15 (by omega) (by omega) (by omega)
 unfold tcnt
 generalize tk p 1 0=R at *
 obtain ⟨r,c⟩:=R
 simp only [hpT] at h
 simp at h
 by_cases k1:p.k=1
 · cases r <;> simp [w502,H.inl,inlB,H.pp,ppB,k1,h]
 · simp [w502,H.inl,inlB,H.pp,ppB,k1]
theorem tCount_ok (H:HasT C) (p:Pt):FnW C 404 [.agg p.c]=some (.int .i64 (tcnt p)):=by
 have h:=twalk_ok H p
 rw [fnW_eq H.f404 rfl]
 simp [w404,H.inl,inlB,H.pp,ppB,h]
theorem tCheck_ok (H:HasT C) (p:Pt):FnW C 231 [.agg p.c]=some (.int .i64 (if tcnt p=0 then 14 else 0)):=by
 have h:=tCount_ok H p
 rw [fnW_eq H.f231 rfl]
 by_cases c:tcnt p=0
 · simp [w231,H.inl,inlB,H.pp,ppB,h,c]
 · simp [w231,H.inl,inlB,H.pp,ppB,h,c]
end Go.D
end
section
namespace Go.D
open Go Go.Pav Go.Pw P
attribute [-simp] List.getElem_cons_drop
variable {C:WProg}
structure HasU (C:WProg):Prop extends HasT C where
 f594:C.fns.get 594=some w594
 f586:C.fns.get 586=some w586
 f550:C.fns.get 550=some w550
 f505:C.fns.get 505=some w505
 f408:C.fns.get 408=some w408
theorem rslots_loop (H:HasU C) (l:List Sl) (e:Bool) (hl:l.length≤1000000) (hf:∀ s ∈ l,0≤s.f):∀ n i,n+i=l.length →
 w594_K0 C ⟨[(3,.int .i64 i),(0,.ro 3 (l.map eSl) e)],[],0⟩ =
  some (.bool (slsOk (if i=0 then none else (l[i - 1]?).map Sl.n) (l.drop i))):=by
 intro n
 induction n with
 | zero =>
  intro i hi
  simp only [w594_K0];rw [ck_unf w594_B0.eq_1]
  have h1:l.drop i=[]:=List.drop_eq_nil_of_le (by omega)
  have h3:¬ i < l.length:=by omega
  simp [ck_unf w594_c0.eq_1,h1,h3,slsOk]
 | succ n ih =>
  intro i hi
  have h1:i < l.length:=by omega
  have hb:=rname_ok H.toHasS l[i].n
  have hc:=rstr_ok H.toHasS l[i].v
  have h0:=hf _ (List.getElem_mem h1)
  have:=ih (i+1) (by omega)
  rw [if_neg (by omega),show i+1 - 1=i from rfl,List.getElem?_eq_getElem h1] at this
  rw [drop_cons h1,slsOk]
  simp only [w594_K0] at this ⊢;rw [ck_unf w594_B0.eq_1]
  simp only [Option.map_some] at this
  generalize slsOk (some l[i].n) (l.drop (i+1))=R at *
  cases q1:isName l[i].n
  · rw [q1] at hb
    simp (disch:=omega) [h1,wI64,hb,H.inl,inlB,H.pp,ppB]
  · rw [q1] at hb
    by_cases f3:l[i].f≤3
    · have f3':¬ 3 < l[i].f:=by omega
      cases q2:isText l[i].v
      · rw [q2] at hc
        simp (disch:=omega) [h1,wI64,hb,hc,H.inl,inlB,H.pp,ppB,f3,f3']
      · rw [q2] at hc
        by_cases f0:¬ l[i].f=0∧¬ l[i].v=[]
        · have f1:¬ l[i].f≤0:=by have:=f0.1;omega
          simp (disch:=omega) [h1,wI64,hb,hc,H.inl,inlB,H.pp,ppB,f3,f3',f0.1,f0.2,f1]
        · have key:(¬ l[i].f=0∧l[i].v=[])∨l[i].f=0:=by
           by_cases a:l[i].f=0
           · exact .inr a
           · exact .inl ⟨a,Classical.byContradiction fun b=>f0 ⟨a,b⟩⟩
          cases i with
          | zero =>
           simp at this
           rcases key with ⟨a,b⟩ | a
           · have b':=eq_true b
             simp (disch:=omega) [h1,wI64,hb,hc,H.inl,inlB,H.pp,ppB,f3,f3',a,b',this,after]
           · have a':l[0].f≤0:=by omega
             simp (disch:=omega) [h1,wI64,hb,hc,H.inl,inlB,H.pp,ppB,f3,f3',eq_true a,a',this,after]
          | succ i =>
           have h4:i < l.length:=by omega
           have h5:(i:Int)+1 < l.length:=by omega
           simp at this
           by_cases q3:l[i].n < l[i+1].n
           · have q4:¬ l[i+1].n≤l[i].n:=List.not_le.2 q3
             rcases key with ⟨a,b⟩ | a
             · have b':=eq_true b
               simp (disch:=omega) [h1,h4,h5,wI64,hb,hc,H.inl,inlB,H.pp,ppB,f3,f3',a,b',this,after,blt_eq,q3,q4]
             · have a':l[i+1].f≤0:=by omega
               simp (disch:=omega) [h1,h4,h5,wI64,hb,hc,H.inl,inlB,H.pp,ppB,f3,f3',eq_true a,a',this,after,blt_eq,q3,q4]
           · have q4:l[i+1].n≤l[i].n:=List.not_lt.1 q3
             rcases key with ⟨a,b⟩ | a
             · have b':=eq_true b
               simp (disch:=omega) [h1,h4,h5,wI64,hb,hc,H.inl,inlB,H.pp,ppB,f3,f3',a,b',this,after,blt_eq,q3,q4]
             · have a':l[i+1].f≤0:=by omega
               simp (disch:=omega) [h1,h4,h5,wI64,hb,hc,H.inl,inlB,H.pp,ppB,f3,f3',eq_true a,a',this,after,blt_eq,q3,q4]
    · have f3':3 < l[i].f:=by omega
      simp (disch:=omega) [h1,wI64,hb,H.inl,inlB,H.pp,ppB,f3,f3']
theorem rslots_ok (H:HasU C) (l:List Sl) (e:Bool) (hf:∀ s ∈ l,0≤s.f):FnW C 594 [.ro 3 (l.map eSl) e]=some (.bool (decide (l.length≤8)&&slsOk none l)):=by
 rw [fnW_eq H.f594 rfl]
 by_cases c:l.length≤8
 · have c1:¬ 8 < (l.length:Int):=by omega
   have h:=rslots_loop H l e (by omega) hf l.length 0 (by simp)
   rw [List.drop_zero,if_pos rfl] at h
   generalize slsOk none l=R at *
   simp only [w594_K0] at h
   simp at h
   simp [w594,c,c1,h]
 · have c1:8 < (l.length:Int):=by omega
   simp [w594,c,c1]
structure Fits (p:Pt):Prop where
 f:∀ s ∈ p.s,0≤s.f
 s:p.s.length≤9223372036854775807
 c:p.ch.length≤9223372036854775807
theorem sum0 {α β:Type} (a:List α) (b:List β) [Decidable (a=[])] [Decidable (b=[])]:((a.length:Int)+(b.length:Int) == 0)=(decide (a=[])&&decide (b=[])):=by
 cases a <;> cases b <;> simp <;> omega
theorem sum0w {α β:Type} (a:List α) (b:List β) (ha:a.length≤9223372036854775807) (hb:b.length≤9223372036854775807) [Decidable (a=[])] [Decidable (b=[])]:(IntKind.i64.wrap ((a.length:Int)+(b.length:Int)) == 0)=(decide (a=[])&&decide (b=[])):=by
 have h:(IntKind.i64.wrap ((a.length:Int)+(b.length:Int)) == 0)=((a.length:Int)+(b.length:Int) == 0):=by
  rw [Bool.eq_iff_iff]
  show ((if (true&&decide (((a.length:Int)+b.length) % 18446744073709551616 ≥ 9223372036854775808))=true then ((a.length:Int)+b.length) % 18446744073709551616 - 18446744073709551616 else ((a.length:Int)+b.length) % 18446744073709551616) == 0)=true↔_
  simp only [Bool.true_and,decide_eq_true_eq,beq_iff_eq]
  split <;> omega
 rw [h,sum0]
theorem rone_ok (H:HasU C) (p:Pt) (hp:Fits p):FnW C 586 [.agg p.c]=some (.bool (pOne p)):=by
 rw [fnW_eq H.f586 rfl]
 unfold pOne
 have ht:=rname_ok H.toHasS p.t
 have hy:=rname_ok H.toHasS p.y
 have hx:=rstr_ok H.toHasS p.x
 have hs:=rslots_ok H p.s p.se hp.f
 have hl1:=hp.s
 have hl2:=hp.c
 have hz:(IntKind.i64.wrap ((p.s.length:Int)+(p.ch.length:Int)) == 0)=(decide (p.s=[])&&decide (p.ch=[])):=sum0w _ _ hl1 hl2
 generalize isName p.t=T at *
 generalize isText p.x=X at *
 generalize (decide (p.s.length≤8)&&slsOk none p.s)=S at *
 by_cases k1:p.k=1
 · rw [if_pos k1]
   cases T
   · simp [w586,k1,ht,H.inl,inlB,H.pp,ppB]
   · by_cases c2:p.y=[]
     · have c2':=eq_true c2
       cases S
       · simp [w586,k1,ht,hs,H.inl,inlB,H.pp,ppB,c2']
       · by_cases c3:p.x=[]
         · have c3':=eq_true c3
           by_cases c5:p.ch.length≤16
           · have c7:(p.ch.length:Int)≤16:=by omega
             simp [w586,k1,ht,hs,H.inl,inlB,H.pp,ppB,c2',c3',c5,c7]
           · have c7:¬ (p.ch.length:Int)≤16:=by omega
             simp [w586,k1,ht,hs,H.inl,inlB,H.pp,ppB,c2',c3',c5,c7]
         · simp [w586,k1,ht,hs,H.inl,inlB,H.pp,ppB,c2',c3]
     · cases q2:isName p.y
       · rw [q2] at hy;simp [w586,k1,ht,hy,H.inl,inlB,H.pp,ppB,c2]
       · rw [q2] at hy
         cases S
         · simp [w586,k1,ht,hy,hs,H.inl,inlB,H.pp,ppB,c2]
         · by_cases c3:p.x=[]
           · have c3':=eq_true c3
             by_cases c5:p.ch.length≤16
             · have c7:(p.ch.length:Int)≤16:=by omega
               simp [w586,k1,ht,hy,hs,H.inl,inlB,H.pp,ppB,c2,c3',c5,c7]
             · have c7:¬ (p.ch.length:Int)≤16:=by omega
               simp [w586,k1,ht,hy,hs,H.inl,inlB,H.pp,ppB,c2,c3',c5,c7]
           · simp [w586,k1,ht,hy,hs,H.inl,inlB,H.pp,ppB,c2,c3]
 · rw [if_neg k1]
   by_cases k5:p.k=5
   · rw [if_pos k5]
     cases T
     · simp [w586,k5,ht,hs,H.inl,inlB,H.pp,ppB]
     · cases S
       · simp [w586,k5,ht,hs,H.inl,inlB,H.pp,ppB]
       · by_cases c2:p.y=[]
         · by_cases c3:p.x=[]
           · by_cases c4:p.ch=[] <;> simp [w586,k5,ht,hs,H.inl,inlB,H.pp,ppB,eq_true c2,eq_true c3,c4]
           · simp [w586,k5,ht,hs,H.inl,inlB,H.pp,ppB,eq_true c2,c3]
         · simp [w586,k5,ht,hs,H.inl,inlB,H.pp,ppB,c2]
   · rw [if_neg k5]
     by_cases k2:p.k=2
     · rw [if_pos k2]
       cases X
       · simp [w586,k2,hx,H.inl,inlB,H.pp,ppB]
       · by_cases c1:p.t=[]
         · by_cases c2:p.y=[]
           · simp (disch:=omega) [w586,k2,hx,H.inl,inlB,H.pp,ppB,eq_true c1,eq_true c2,hz]
           · simp [w586,k2,hx,H.inl,inlB,H.pp,ppB,eq_true c1,c2]
         · simp [w586,k2,hx,H.inl,inlB,H.pp,ppB,c1]
     · rw [if_neg k2]
       by_cases k34:p.k=3∨p.k=4
       · have rest:FnW C 586 [.agg p.c]=some (.bool (decide (p.t=[])&&decide (p.y=[])&&decide (p.x=[])&&decide (p.s=[])&&decide (p.ch=[]))):=by
          rw [fnW_eq H.f586 rfl]
          by_cases c0:p.x=[]
          · by_cases c1:p.t=[]
            · by_cases c2:p.y=[]
              · rcases k34 with k3 | k3 <;> simp (disch:=omega) [w586,k3,H.inl,inlB,H.pp,ppB,eq_true c0,eq_true c1,eq_true c2,hz]
              · rcases k34 with k3 | k3 <;> simp [w586,k3,H.inl,inlB,H.pp,ppB,eq_true c0,eq_true c1,c2]
            · rcases k34 with k3 | k3 <;> simp [w586,k3,H.inl,inlB,H.pp,ppB,eq_true c0,c1]
          · rcases k34 with k3 | k3 <;> simp [w586,k3,H.inl,inlB,H.pp,ppB,c0]
         rw [fnW_eq H.f586 rfl] at rest
         rw [rest]
         simp [k34]
       · have k3:¬ p.k=3:=fun q=>k34 (.inl q)
         have k4:¬ p.k=4:=fun q=>k34 (.inr q)
         simp [w586,k1,k2,k3,k4,k5,H.inl,inlB,H.pp,ppB]
inductive FitsAll:Pt→Prop
 | mk (p:Pt) (h:Fits p) (hm:∀ m ∈ p.ch,FitsAll m):FitsAll p
mutual
/-- The specification's count, with so many levels. -/
def trc:Pt→Nat→Nat
 | _,0=>1000
 | ⟨k,t,y,s,se,x,ch,ce⟩,lv+1=>if pOne ⟨k,t,y,s,se,x,ch,ce⟩=true then trcs ch lv 1 else 1000
def trcs:List Pt→Nat→Nat→Nat
 | [],_,c=>c
 | m::r,lv,c=>if c≤64 then trcs r lv (c+trc m lv) else c
end
theorem trc_z (n:Pt):trc n 0=1000:=by cases n;rw [trc]
theorem trc_s (n:Pt) (lv:Nat):trc n (lv+1)=if pOne n=true then trcs n.ch lv 1 else 1000:=by cases n;rw [trc]
theorem trcs_ge:∀ (l:List Pt) (lv c:Nat),c≤trcs l lv c
 | [],lv,c=>by rw [trcs];exact Nat.le_refl _
 | m::r,lv,c=>by
  rw [trcs]
  split
  · have:=trcs_ge r lv (c+trc m lv);omega
  · exact Nat.le_refl _
theorem trc_ge (n:Pt) (lv:Nat):1≤trc n lv:=by
 cases lv with
 | zero=>rw [trc_z];omega
 | succ lv =>
  rw [trc_s]
  split
  · exact trcs_ge _ _ _
  · omega
mutual
theorem trc_le:∀ (n:Pt) (lv:Nat),trc n lv≤1000+64 * lv
 | ⟨k,t,y,s,se,x,ch,ce⟩,0=>by rw [trc];omega
 | ⟨k,t,y,s,se,x,ch,ce⟩,lv+1=>by
  rw [trc]
  split
  · have:=trcs_le ch lv 1 (by omega);omega
  · omega
theorem trcs_le:∀ (l:List Pt) (lv c:Nat),c≤1064+64 * lv→trcs l lv c≤1064+64 * lv
 | [],lv,c,h=>by rw [trcs];exact h
 | m::r,lv,c,h=>by
  rw [trcs]
  split
  · have h2:=trc_le m lv
    exact trcs_le r lv _ (by omega)
  · exact h
end
mutual
theorem tk_rc:∀ (n:Pt) (lv L c:Nat),lv+L=7→c≤64→((tk n L c).1=true→(tk n L c).2=c+trc n lv∧c+trc n lv≤64)∧((tk n L c).1=false→64 < c+trc n lv)
 | ⟨k,t,y,s,se,x,ch,ce⟩,lv,L,c,h1,h2=>by
  have hge:=trc_ge ⟨k,t,y,s,se,x,ch,ce⟩ lv
  rw [tk]
  by_cases q:6 < L∨64 < c+1∨pOne ⟨k,t,y,s,se,x,ch,ce⟩=false
  · rw [if_pos q]
    refine ⟨fun r=>by simp at r,fun _=>?_⟩
    rcases q with q | q | q
    · have:lv=0:=by omega
      subst this
      rw [trc];omega
    · omega
    · cases lv with
      | zero=>rw [trc];omega
      | succ lv=>rw [trc,if_neg (by simp [q])];omega
  · rw [if_neg q]
    cases lv with
    | zero=>omega
    | succ lv =>
     rw [trc,if_pos (by simpa using fun r=>q (.inr (.inr r)))]
     exact tks_rc ch lv (L+1) c 1 (by omega) (by omega)
theorem tks_rc:∀ (l:List Pt) (lv L g c:Nat),lv+L=7→g+c≤64→((tks l L (g+c)).1=true→(tks l L (g+c)).2=g+trcs l lv c∧g+trcs l lv c≤64)∧((tks l L (g+c)).1=false→64 < g+trcs l lv c)
 | [],lv,L,g,c,h1,h2=>by
  rw [tks,trcs];exact ⟨fun _=>⟨rfl,h2⟩,fun r=>by simp at r⟩
 | m::r,lv,L,g,c,h1,h2=>by
  have hm:=tk_rc m lv L (g+c) h1 h2
  have hr:trcs (m::r) lv c=trcs r lv (c+trc m lv):=by rw [trcs,if_pos (by omega)]
  rw [tks,hr]
  generalize tk m L (g+c)=R at *
  obtain ⟨b,c'⟩:=R
  cases b with
  | true =>
   obtain ⟨e1,e2⟩:=hm.1 rfl
   rw [if_pos rfl]
   simp only at e1
   rw [e1,Nat.add_assoc]
   exact tks_rc r lv L g (c+trc m lv) h1 (by omega)
  | false =>
   have e:=hm.2 rfl
   rw [if_neg (by simp)]
   refine ⟨fun q=>by simp at q,fun _=>?_⟩
   have:=trcs_ge r lv (c+trc m lv)
   omega
end
theorem tcnt_rc (p:Pt):tcnt p=if p.k≠1∨64 < trc p 6 then 0 else trc p 6:=by
 have h:=tk_rc p 6 1 0 rfl (by omega)
 unfold tcnt
 generalize tk p 1 0=R at *
 obtain ⟨b,c⟩:=R
 by_cases k1:p.k=1
 · cases b with
   | true =>
    obtain ⟨e1,e2⟩:=h.1 rfl
    simp only at e1
    rw [if_pos ⟨k1,rfl⟩,if_neg (by intro q;rcases q with q | q;exact q k1;omega)];simp only;omega
   | false =>
    have e:=h.2 rfl
    rw [if_neg (by simp),if_pos (.inr (by omega))]
 · rw [if_neg (fun q=>k1 q.1),if_pos (.inl k1)]
abbrev hpP (p:Pt):WHeap:=[(0,.cells 6 [p.c] true true)]
theorem trcount_loop (H:HasU C) (n:Pt) (lv:Nat) (hlv:lv≤5) (hl:n.ch.length≤16) (ih:∀ m ∈ n.ch,FnW C 550 [.agg m.c,.int .i64 lv]=some (.int .i64 (trc m lv))):∀ j i,j+i=n.ch.length→∀ c,c≤1064+64 * lv →
 w550_K0 C ⟨[(6,.int .i64 i),(5,.int .i64 c),(2,.ptr 0 0 0),(1,.int .i64 (lv+1:Nat))],hpP n,1⟩=some (.int .i64 (trcs (n.ch.drop i) lv c)):=by
 intro j
 induction j with
 | zero =>
  intro i hi c hc
  simp only [w550_K0];rw [ck_unf w550_B0.eq_1]
  have h1:n.ch.drop i=[]:=List.drop_eq_nil_of_le (by omega)
  have h3:¬ i < n.ch.length:=by omega
  rw [h1,trcs]
  simp [ck_unf w550_c0.eq_1,h3]
 | succ j ihj =>
  intro i hi c hc
  have h1:i < n.ch.length:=by omega
  have hm:=ih _ (List.getElem_mem h1)
  have hle:=trc_le n.ch[i] lv
  rw [drop_cons h1,trcs]
  by_cases c1:c≤64
  · have:=ihj (i+1) (by omega) (c+trc n.ch[i] lv) (by omega)
    rw [if_pos c1]
    have c2:(c:Int)≤64:=by omega
    simp only [w550_K0] at this ⊢;rw [ck_unf w550_B0.eq_1]
    simp at this
    simp (disch:=omega) [h1,c1,c2,wI64,hm,H.inl,inlB,H.pp,ppB,this]
  · rw [if_neg c1]
    have c2:¬ (c:Int)≤64:=by omega
    simp only [w550_K0];rw [ck_unf w550_B0.eq_1]
    simp (disch:=omega) [ck_unf w550_c0.eq_1,h1,c1,c2]
theorem trcount_step (H:HasU C) (n:Pt) (hf:Fits n) (ih:∀ m ∈ n.ch,∀ lv:Nat,lv≤6→FnW C 550 [.agg m.c,.int .i64 lv]=some (.int .i64 (trc m lv))) (lv:Nat) (hlv:lv≤6):FnW C 550 [.agg n.c,.int .i64 lv]=some (.int .i64 (trc n lv)):=by
 have ho:=rone_ok H n hf
 rw [fnW_eq H.f550 rfl]
 cases lv with
 | zero=>rw [trc_z];simp [w550]
 | succ lv =>
  rw [trc_s]
  have c1:¬ (lv:Int)+1 < 1:=by omega
  cases ha:pOne n with
  | false=>rw [ha] at ho;simp [w550,c1,ho,H.inl,inlB,H.pp,ppB]
  | true =>
   rw [ha] at ho
   have hr:=trcount_loop H n lv (by omega) (pOne_len ha) (fun m hm=>ih m hm lv (by omega)) n.ch.length 0 (by simp) 1 (by omega)
   rw [List.drop_zero] at hr
   simp only [w550_K0] at hr
   simp at hr
   simp [w550,c1,ho,H.inl,inlB,H.pp,ppB,hr]
theorem trcount_ok (H:HasU C) (p:Pt) (hf:FitsAll p):∀ lv:Nat,lv≤6→FnW C 550 [.agg p.c,.int .i64 lv]=some (.int .i64 (trc p lv)):=by
 induction hf with
 | mk p h hm ih=>exact fun lv hlv=>trcount_step H p h (fun m hm lv hlv=>ih m hm lv hlv) lv hlv
theorem trCount_ok (H:HasU C) (p:Pt) (hf:FitsAll p):FnW C 505 [.agg p.c]=some (.int .i64 (tcnt p)):=by
 have h:=trcount_ok H p hf 6 (by omega)
 rw [fnW_eq H.f505 rfl,tcnt_rc]
 generalize trc p 6=R at *
 simp at h
 by_cases k1:p.k=1
 · by_cases c:64 < R
   · have c1:64 < (R:Int):=by omega
     simp [w505,H.inl,inlB,H.pp,ppB,h,c,c1,k1]
   · have c1:¬ 64 < (R:Int):=by omega
     simp [w505,H.inl,inlB,H.pp,ppB,h,c,c1,k1]
 · simp [w505,H.inl,inlB,H.pp,ppB,h,k1]
theorem trCheck_ok (H:HasU C) (p:Pt) (hf:FitsAll p):FnW C 408 [.agg p.c]=some (.int .i64 (if tcnt p=0 then 14 else 0)):=by
 have h:=trCount_ok H p hf
 rw [fnW_eq H.f408 rfl]
 by_cases c:tcnt p=0
 · simp [w408,H.inl,inlB,H.pp,ppB,h,c]
 · simp [w408,H.inl,inlB,H.pp,ppB,h,c]
end Go.D
end
section
namespace Go.D
open Go Go.Pav Go.Pw P
attribute [-simp] List.getElem_cons_drop
variable {C:WProg}
structure HasV (C:WProg):Prop extends HasU C,HasI C where
 f546:C.fns.get 546=some w546
 f580:C.fns.get 580=some w580
 f512:C.fns.get 512=some w512
def itOk2 (i:It):Bool:=decide (i.k≠0)&&isText i.x&&(decide (i.m.length≤8)&&i.m.all isName)
theorem pred580 (H:HasV C):PredS C 580 isName where
 ok s:=by
  have:=tnamed_ok H.toHasT s
  rw [fnW_eq H.f580 rfl]
  simp [w580,H.inl,inlB,H.pp,ppB,this]
 ne:=by rfl
 ni:=by rfl
theorem tItem_ok (H:HasV C) (i:It):FnW C 546 [eIt i]=some (.int .i64 (if itOk2 i=true then 0 else 6)):=by
 have hx:=tplain_ok H.toHasT i.x
 rw [fnW_eq H.f546 rfl]
 unfold itOk2
 generalize isText i.x=X at *
 by_cases c1:i.k=0
 · simp [w546,eq_true c1]
 · cases X
   · simp [w546,c1,hx,H.inl,inlB,H.pp,ppB]
   · by_cases c2:i.m.length≤8
     · have c3:¬ 8 < (i.m.length:Int):=by omega
       have hm:=containsS_ok H.toHasI (pred580 H) i.m i.e (by omega)
       generalize i.m.all isName=M at *
       cases M <;> simp at hm <;> simp [w546,c1,hx,c2,c3,hm,H.inl,inlB,H.pp,ppB]
     · have c3:8 < (i.m.length:Int):=by omega
       simp [w546,c1,hx,c2,c3,H.inl,inlB,H.pp,ppB]
theorem rItem_loop (H:HasV C) (k t:Int) (x:Bs) (m:List Bs) (e:Bool) (hl:m.length≤8):∀ n i,n+i=m.length →
 w512_K0 C ⟨[(3,.int .i64 i),(1,.ptr 0 0 0)],[(0,.cells 4 [[.int .u64 k,.int .u8 t,.str x,.ro 1 (m.map eS) e]] true true)],1⟩ =
  some (.int .i64 (if (m.drop i).all isName=true then 0 else 6)):=by
 intro n
 induction n with
 | zero =>
  intro i hi
  simp only [w512_K0];rw [ck_unf w512_B0.eq_1]
  have h1:m.drop i=[]:=List.drop_eq_nil_of_le (by omega)
  have h3:¬ i < m.length:=by omega
  simp [ck_unf w512_c0.eq_1,h1,h3]
 | succ n ih =>
  intro i hi
  have h1:i < m.length:=by omega
  have:=ih (i+1) (by omega)
  have hb:=rname_ok H.toHasS m[i]
  rw [drop_cons h1]
  generalize hX:(m.drop (i+1)).all isName=X at *
  rw [List.all_cons,hX]
  simp only [w512_K0] at this ⊢;rw [ck_unf w512_B0.eq_1]
  cases hn:isName m[i]
  · rw [hn] at hb
    simp (disch:=omega) [h1,wI64,hb,H.inl,inlB,H.pp,ppB]
  · rw [hn] at hb
    simp at this
    simp (disch:=omega) [h1,wI64,hb,H.inl,inlB,H.pp,ppB,this]
theorem rItem_ok (H:HasV C) (i:It):FnW C 512 [eIt i]=some (.int .i64 (if itOk2 i=true then 0 else 6)):=by
 have hx:=rstr_ok H.toHasS i.x
 rw [fnW_eq H.f512 rfl]
 unfold itOk2
 generalize isText i.x=X at *
 by_cases c1:i.k=0
 · simp [w512,eq_true c1]
 · cases X
   · simp [w512,c1,hx,H.inl,inlB,H.pp,ppB]
   · by_cases c2:i.m.length≤8
     · have c3:¬ 8 < (i.m.length:Int):=by omega
       have hm:=rItem_loop H i.k i.t i.x i.m i.e c2 i.m.length 0 (by simp)
       rw [List.drop_zero] at hm
       generalize i.m.all isName=M at *
       simp only [w512_K0] at hm
       simp at hm
       simp [w512,c1,hx,c2,c3,hm,H.inl,inlB,H.pp,ppB]
     · have c3:8 < (i.m.length:Int):=by omega
       simp [w512,c1,hx,c2,c3,H.inl,inlB,H.pp,ppB]
def dec (n:Nat):Bs:=if h:n < 10 then [UInt8.ofNat (48+n)] else dec (n / 10)++[UInt8.ofNat (48+n % 10)]
termination_by n
theorem dec_len:∀ (k n:Nat),n < 10 ^ (k+1)→(dec n).length≤k+1
 | 0,n,h=>by unfold dec;rw [dif_pos (by simpa using h)];simp
 | k+1,n,h=>by
  unfold dec
  split
  · simp
  · have:=dec_len k (n / 10) (by rw [Nat.pow_succ] at h;omega)
    simp;omega
structure HasW (C:WProg):Prop extends HasV C where
 f584:C.fns.get 584=some w584
 f558:C.fns.get 558=some w558
theorem dec10 (n:Nat) (h:n < 10):dec n=[UInt8.ofNat (48+n)]:=by unfold dec;rw [dif_pos h]
theorem rdig_ok (H:HasW C) (n:Nat) (h:n < 10):FnW C 558 [.int .u64 n]=some (.str (dec n)):=by
 rw [fnW_eq H.f558 rfl,dec10 n h]
 obtain rfl | rfl | rfl | rfl | rfl | rfl | rfl | rfl | rfl | rfl:n=0∨n=1∨n=2∨n=3∨n=4∨n=5∨n=6∨n=7∨n=8∨n=9:=by omega
 all_goals (simp (disch:=omega) [w558,wU64];try rfl)
theorem rdec_step (H:HasW C) (n:Nat) (h:n < 18446744073709551616) (ih:∀ m < n,FnW C 558 [.int .u64 m]=some (.str (dec m))):FnW C 558 [.int .u64 n]=some (.str (dec n)):=by
 by_cases c:n < 10
 · exact rdig_ok H n c
 · have h1:=ih (n / 10) (by omega)
   have h2:=rdig_ok H (n % 10) (by omega)
   have hl:=dec_len 19 (n / 10) (by omega)
   rw [dec10 _ (by omega)] at h2
   rw [fnW_eq H.f558 rfl]
   rw [dec,dif_neg c]
   have e1:(n:Int).tdiv 10=((n / 10:Nat):Int):=by rw [Int.tdiv_eq_ediv_of_nonneg (by omega)];omega
   have e2:(n:Int).tmod 10=((n % 10:Nat):Int):=by rw [Int.tmod_eq_emod_of_nonneg (by omega)];omega
   have c2:¬ (n:Int) < 10:=by omega
   have hm:(dec (n / 10)).length+1≤maxStr:=by unfold maxStr;omega
   have b1:n / 10≤n:=by omega
   have b2:n % 10≤n:=by omega
   generalize dec (n / 10)=D at *
   generalize UInt8.ofNat (48+n % 10)=dg at *
   generalize n / 10=q at *
   generalize n % 10=r at *
   simp (disch:=omega) [w558,wU64,c2,e1,e2,h1,h2,hm,H.inl,inlB,H.pp,ppB]
theorem rdec_ok (H:HasW C) (n:Nat):n < 18446744073709551616→FnW C 558 [.int .u64 n]=some (.str (dec n)):=by
 induction n using Nat.strongRecOn with
 | ind n ih=>exact fun h=>rdec_step H n h (fun m hm=>ih m hm (by omega))
theorem bytesOf_map:∀ l:List UInt8,bytesOf (l.map fun b=>[AV.int .u8 b.toNat])=some l
 | []=>rfl
 | b::r=>by
  rw [List.map_cons,bytesOf,bytesOf_map r]
  simp
theorem dig_eq (r:Nat) (h:r < 10):([48,49,50,51,52,53,54,55,56,57]:List UInt8)[r]'(by simpa using h)=UInt8.ofNat (48+r):=by
 obtain rfl | rfl | rfl | rfl | rfl | rfl | rfl | rfl | rfl | rfl:r=0∨r=1∨r=2∨r=3∨r=4∨r=5∨r=6∨r=7∨r=8∨r=9:=by omega
 all_goals rfl
theorem dec_loop:∀ (i n:Nat) (acc:List UInt8),acc.length+i=19→n < 10 ^ (i+1)→n < 18446744073709551616 →
 w584_K0 C ⟨[(4,.int .i64 (i+1:Nat)),(3,.ptr 0 0 0),(0,.int .u64 n)],[(0,.cells 20 [List.replicate i (AV.int .u8 0)++AV.int .u8 0::acc.map fun b=>AV.int .u8 b.toNat] true true)],1⟩=some (.str (dec n++acc)):=by
 intro i
 induction i with
 | zero =>
  intro n acc ha hn hb
  have e1:(n:Int).tdiv 10=0:=by rw [Int.tdiv_eq_ediv_of_nonneg (by omega)];omega
  have e2:(n:Int).tmod 10=n:=by rw [Int.tmod_eq_emod_of_nonneg (by omega)];omega
  have hr:n < 10:=by simpa using hn
  have hd:=dig_eq n hr
  have h19:19≤acc.length:=by omega
  rw [dec10 n hr]
  generalize UInt8.ofNat (48+n)=dg at *
  have hm:bytesOf ([AV.int .u8 dg.toNat]::List.map ((fun x=>[x]) ∘ fun b:UInt8=>AV.int .u8 b.toNat) acc)=some (dg::acc):=bytesOf_map (dg::acc)
  simp only [w584_K0];rw [ck_unf w584_B0.eq_1]
  simp (disch:=(first | omega | (simp;done) | (simp;omega))) [wI64,wU64,e1,e2,hr,hd,h19,hm,List.take_of_length_le,sCvb]
 | succ i ih =>
  intro n acc ha hn hb
  have e1:(n:Int).tdiv 10=((n / 10:Nat):Int):=by rw [Int.tdiv_eq_ediv_of_nonneg (by omega)];omega
  have e2:(n:Int).tmod 10=((n % 10:Nat):Int):=by rw [Int.tmod_eq_emod_of_nonneg (by omega)];omega
  have hr:n % 10 < 10:=by omega
  have hq:n / 10 < 10 ^ (i+1):=by rw [Nat.pow_succ] at hn;omega
  have hqb:n / 10≤n:=by omega
  have h18:acc.length+i=18:=by omega
  have hi:i+1 < 20:=by omega
  have h20:20≤i+1+(acc.length+1):=by omega
  have hi19:i≤19:=by omega
  have hd:=dig_eq (n % 10) hr
  have ih':=fun dg=>ih (n / 10) (dg::acc) (by simp;omega) hq (by omega)
  have hdec:dec n=(if n / 10=0 then [] else dec (n / 10))++[UInt8.ofNat (48+n % 10)]:=by
   by_cases c:n < 10
   · have:n / 10=0:=by omega
     have h2:n % 10=n:=by omega
     rw [dec10 n c,this,h2];simp
   · rw [dec,dif_neg c,if_neg (by omega)]
  rw [hdec]
  have t1:∀ (z:AV) (L:List AV),List.take (i+1) (List.replicate (i+1) z++L)=List.replicate (i+1) z:=fun z L=>List.take_left' (by simp)
  have t2:∀ (z y:AV) (L:List AV),List.drop (i+1+1) (List.replicate (i+1) z++y::L)=L:=fun z y L=>by
   rw [List.append_cons];exact List.drop_left' (by simp)
  have t3:∀ (z:AV) (X:List AV),List.replicate i z++z::X=List.replicate (i+1) z++X:=fun z X=>by rw [List.replicate_succ'];simp
  generalize dec (n / 10)=D at *
  generalize UInt8.ofNat (48+n % 10)=dg at *
  have hm:bytesOf ([AV.int .u8 dg.toNat]::List.map ((fun x=>[x]) ∘ fun b:UInt8=>AV.int .u8 b.toNat) acc)=some (dg::acc):=bytesOf_map (dg::acc)
  have ih2:=ih' dg
  rw [t3] at ih2
  generalize n / 10=q at *
  generalize n % 10=r at *
  simp only [w584_K0] at ih2 ⊢;rw [ck_unf w584_B0.eq_1]
  simp at ih2
  by_cases c:q=0
  · simp (disch:=(first | omega | (simp;done) | (simp;omega))) [wI64,wU64,e1,e2,hr,hd,hi,h20,hi19,hm,t1,t2,c,List.take_of_length_le,sCvb]
  · simp (disch:=(first | omega | (simp;done) | (simp;omega))) [wI64,wU64,e1,e2,hr,hd,hi,t1,t2,c,ih2]
theorem tdec_ok (H:HasW C) (n:Nat) (h:n < 18446744073709551616):FnW C 584 [.int .u64 n]=some (.str (dec n)):=by
 have hl:=dec_loop (C:=C) 19 n [] rfl (by omega) h
 have e:List.replicate 19 (AV.int .u8 0)++AV.int .u8 0::List.map (fun b:UInt8=>AV.int .u8 b.toNat) []=rep 20 (AV.int .u8 0):=rfl
 rw [e] at hl
 simp only [w584_K0] at hl
 simp at hl
 rw [fnW_eq H.f584 rfl]
 simp [w584,hl]
def attrOf (x:It) (s:Sl):Bs × Bs:=(s.n,if s.f=1 then x.x else if s.f=2 then dec x.k.toNat else if s.f=3 then dec x.m.length else s.v)
structure HasX (C:WProg):Prop extends HasW C where
 f559:C.fns.get 559=some w559
 f592:C.fns.get 592=some w592
theorem rattrs_loop (H:HasX C) (x:It) (hk:0≤x.k∧x.k < 18446744073709551616) (hm:x.m.length≤1000000) (l:List Sl) (e:Bool) (hl:l.length≤8):∀ n i,n+i=l.length→∀ G:List (Bs × Bs),G.length=i →
 w559_K0 C ⟨[(6,.int .i64 i),(5,.sl 0 2 0 G.length G.length false),(3,.ptr 1 0 0),(0,.ro 3 (l.map eSl) e)],[(0,.cells 2 (G.map eA) true true),(1,.cells 4 [[.int .u64 x.k,.int .u8 x.t,.str x.x,.ro 1 (x.m.map eS) x.e]] true true)],2⟩ =
  some (.ro 2 ((G++(l.drop i).map (attrOf x)).map eA) false):=by
 intro n
 induction n with
 | zero =>
  intro i hi G hG
  have h1:l.drop i=[]:=List.drop_eq_nil_of_le (by omega)
  have h3:¬ i < l.length:=by omega
  simp only [w559_K0];rw [ck_unf w559_B0.eq_1]
  cases G with
  | nil=>simp [ck_unf w559_c0.eq_1,h1,h3]
  | cons g G=>simp (disch:=(first | omega | (simp;done) | (simp;omega))) [ck_unf w559_c0.eq_1,h1,h3,List.take_of_length_le]
 | succ n ih =>
  intro i hi G hG
  have h1:i < l.length:=by omega
  obtain ⟨k,hk2⟩:∃ k:Nat,x.k=k:=⟨x.k.toNat,by omega⟩
  have d1:=rdec_ok H.toHasW k (by omega)
  have d2:=rdec_ok H.toHasW x.m.length (by omega)
  have ih':=ih (i+1) (by omega) (G++[attrOf x l[i]]) (by simp [hG])
  have hfit:(G.length+1) * 33≤35184372088832:=by omega
  rw [drop_cons h1]
  simp only [w559_K0] at ih' ⊢;rw [ck_unf w559_B0.eq_1]
  simp at ih'
  unfold attrOf at ih' ⊢
  rw [hk2] at ih' ⊢
  by_cases f1:l[i].f=1
  · simp [f1] at ih'
    simp (disch:=omega) [h1,f1,wI64,hfit,ih',H.inl,inlB,H.pp,ppB]
  · by_cases f2:l[i].f=2
    · simp [f2] at ih'
      simp (disch:=omega) [h1,f2,wI64,hfit,d1,ih',H.inl,inlB,H.pp,ppB]
    · by_cases f3:l[i].f=3
      · simp [f3] at ih'
        simp (disch:=omega) [h1,f3,wI64,wU64,hfit,d2,ih',H.inl,inlB,H.pp,ppB]
      · simp [f1,f2,f3] at ih'
        simp (disch:=omega) [h1,f1,f2,f3,wI64,hfit,ih',H.inl,inlB,H.pp,ppB]
theorem rattrs_ok (H:HasX C) (x:It) (hk:0≤x.k∧x.k < 18446744073709551616) (hm:x.m.length≤1000000) (l:List Sl) (e:Bool) (hl:l.length≤8) :
 FnW C 559 [.ro 3 (l.map eSl) e,eIt x]=some (.ro 2 ((l.map (attrOf x)).map eA) false):=by
 have h:=rattrs_loop H x hk hm l e hl l.length 0 (by simp) [] rfl
 simp only [w559_K0] at h
 simp at h
 rw [fnW_eq H.f559 rfl]
 simp [w559,h]
theorem tattrs_loop (H:HasX C) (x:It) (hk:0≤x.k∧x.k < 18446744073709551616) (hm:x.m.length≤1000000) (l:List Sl) (e:Bool) (hl:l.length≤8) (hf:∀ s ∈ l,0≤s.f∧s.f≤3):∀ n i,n+i=l.length→∀ G:List (Bs × Bs),G.length=i →
 w592_K0 C ⟨[(13,.int .i64 i),(12,.int .i64 l.length),(11,.ro 3 (l.map eSl) e),(5,.sl 0 2 0 l.length l.length true),(2,.ptr 1 0 0)],[(0,.cells 2 (G.map eA++List.replicate n [.str [],.str []]) true true),(1,.cells 4 [[.int .u64 x.k,.int .u8 x.t,.str x.x,.ro 1 (x.m.map eS) x.e]] true true)],2⟩ =
  some (.ro 2 ((G++(l.drop i).map (attrOf x)).map eA) true):=by
 intro n
 induction n with
 | zero =>
  intro i hi G hG
  have h1:l.drop i=[]:=List.drop_eq_nil_of_le (by omega)
  have h3:¬ i < l.length:=by omega
  have h5:G.length=l.length:=by omega
  have h6:List.take l.length (List.map eA G)=List.map eA G:=List.take_of_length_le (by simp [h5])
  simp only [w592_K0];rw [ck_unf w592_B0.eq_1]
  simp [ck_unf w592_c0.eq_1,h1,h3,h5,h6]
 | succ n ih =>
  intro i hi G hG
  have h1:i < l.length:=by omega
  obtain ⟨k,hk2⟩:∃ k:Nat,x.k=k:=⟨x.k.toNat,by omega⟩
  have d1:=tdec_ok H.toHasW k (by omega)
  have d2:=tdec_ok H.toHasW x.m.length (by omega)
  have ih':=ih (i+1) (by omega) (G++[attrOf x l[i]]) (by simp [hG])
  have h0:=hf _ (List.getElem_mem h1)
  rw [drop_cons h1]
  simp only [w592_K0] at ih' ⊢;rw [ck_unf w592_B0.eq_1]
  simp at ih'
  unfold attrOf at ih' ⊢
  rw [hk2] at ih' ⊢
  have f0123:l[i].f=0∨l[i].f=1∨l[i].f=2∨l[i].f=3:=by omega
  rcases f0123 with f | f | f | f
  all_goals
   simp [f] at ih'
   simp (disch:=omega) [h1,f,wI64,wU64,d1,d2,fill_get,fill_set,H.inl,inlB,H.pp,ppB,ih']
theorem tattrs_ok (H:HasX C) (x:It) (hk:0≤x.k∧x.k < 18446744073709551616) (hm:x.m.length≤1000000) (l:List Sl) (e:Bool) (hl:l.length≤8) (hf:∀ s ∈ l,0≤s.f∧s.f≤3) :
 FnW C 592 [eIt x,.ro 3 (l.map eSl) e]=some (.ro 2 ((l.map (attrOf x)).map eA) true):=by
 rw [fnW_eq H.f592 rfl]
 by_cases hne:l=[]
 · subst hne
   simp (disch:=omega) [w592,ck_unf w592_B0.eq_1,ck_unf w592_c0.eq_1]
 · have h:=tattrs_loop H x hk hm l e hl hf l.length 0 (by simp) [] rfl
   simp only [w592_K0] at h
   simp at h
   simp (disch:=omega) [w592,fits,hne,h]
structure HasY (C:WProg):Prop extends HasX C where
 f582:C.fns.get 582=some w582
 f583:C.fns.get 583=some w583
 f593:C.fns.get 593=some w593
def wordsN (s:Bs):Nd:=⟨2,[],[],[],true,s,[],true⟩
theorem words_ok2 (H:HasY C) (s:Bs):FnW C 583 [.str s]=some (.agg (wordsN s).c):=by
 rw [fnW_eq H.f583 rfl,Nd.c_eq]
 simp [w583,wordsN]
theorem clip_ok (H:HasY C) (l:List Nd) (e:Bool):FnW C 593 [.ro 6 (l.map Nd.c) e]=some (.ro 6 (l.map Nd.c) true):=by
 have h:List.take l.length (List.map Nd.c l)=List.map Nd.c l:=List.take_of_length_le (by simp)
 rw [fnW_eq H.f593 rfl]
 simp [w593,h]
def elemN (x:It) (p:Pt) (key:Bs) (ch:List Nd):Nd:=⟨1,p.t,key,p.s.map (attrOf x),true,[],ch,true⟩
theorem element_ok (H:HasY C) (x:It) (hk:0≤x.k∧x.k < 18446744073709551616) (hm:x.m.length≤1000000) (p:Pt) (hl:p.s.length≤8) (hf:∀ s ∈ p.s,0≤s.f∧s.f≤3) (key:Bs) (ch:List Nd) (e:Bool) :
 FnW C 582 [eIt x,.agg p.c,.str key,.ro 6 (ch.map Nd.c) e]=some (.agg (elemN x p key ch).c):=by
 have h1:=tattrs_ok H.toHasX x hk hm p.s p.se hl hf
 have h2:=clip_ok H ch e
 rw [fnW_eq H.f582 rfl,Nd.c_eq]
 simp only [elemN]
 simp [w582,h1,h2,H.inl,inlB,H.pp,ppB]
end Go.D
end
section
namespace Go.D
open Go Go.Pav Go.Pw P
mutual
/-- A tree without what is known of its memory. -/
def Nd.z:Nd→Nd
 | ⟨k,t,y,a,ae,x,ch,ce⟩=>⟨k,t,y,a,true,x,Nd.zs ch,true⟩
def Nd.zs:List Nd→List Nd
 | []=>[]
 | n::r=>n.z::Nd.zs r
end
theorem Nd.zs_eq:∀ l:List Nd,Nd.zs l=l.map Nd.z
 | []=>rfl
 | n::r=>by rw [Nd.zs,Nd.zs_eq r];rfl
theorem Nd.z_eq (n:Nd):n.z=⟨n.k,n.t,n.y,n.a,true,n.x,n.ch.map Nd.z,true⟩:=by cases n;rw [Nd.z,Nd.zs_eq]
theorem Nd.z_y (n:Nd):n.z.y=n.y:=by rw [Nd.z_eq]
theorem alone_z (n:Nd):alone n.z=alone n:=by
 have h:(n.ch.map Nd.z).map Nd.y=n.ch.map Nd.y:=by rw [List.map_map];exact List.map_congr_left fun m _=>m.z_y
 rw [Nd.z_eq]
 unfold alone
 simp only [h,List.length_map,List.map_eq_nil_iff]
mutual
theorem wk_z:∀ (n:Nd) (lv:Nat) (s:Nat × Nat),wk n.z lv s=wk n lv s
 | ⟨k,t,y,a,ae,x,ch,ce⟩,lv,(c,d)=>by
  have h:=alone_z ⟨k,t,y,a,ae,x,ch,ce⟩
  rw [wk_eq,wk_eq,h]
  have e:(Nd.z ⟨k,t,y,a,ae,x,ch,ce⟩).ch=Nd.zs ch:=by rw [Nd.z]
  rw [e,wks_z ch (lv+1) (c+1,max d lv)]
theorem wks_z:∀ (l:List Nd) (lv:Nat) (s:Nat × Nat),wks (Nd.zs l) lv s=wks l lv s
 | [],lv,s=>by rw [Nd.zs]
 | m::r,lv,s=>by
  rw [Nd.zs,wks,wks,wk_z m lv s]
  split
  · exact wks_z r lv _
  · rfl
end
theorem cnt_z (n:Nd):cnt n.z=cnt n:=by unfold cnt;rw [wk_z]
end Go.D
end
section
namespace Go.D
open Go Go.Pav Go.Pw P
inductive Okp:Pt→Prop
 | mk (p:Pt) (h:pOne p=true) (hf:Fits p) (hm:∀ m ∈ p.ch,Okp m):Okp p
mutual
theorem tk_okp:∀ (p:Pt),FitsAll p→∀ (lv c:Nat),(tk p lv c).1=true→Okp p
 | ⟨k,t,y,s,se,x,ch,ce⟩,hf,lv,c,h=>by
  rw [tk_eq] at h
  split at h
  · cases h
  · rename_i q
    cases hf with
    | mk _ h1 hm =>
     exact .mk _ (by simpa using fun e=>q (.inr (.inr e))) h1 (tks_okp ch hm _ _ h)
theorem tks_okp:∀ (l:List Pt),(∀ m ∈ l,FitsAll m)→∀ (lv c:Nat),(tks l lv c).1=true→∀ m ∈ l,Okp m
 | [],_,_,_,_=>by simp
 | m::r,hf,lv,c,h=>by
  rw [tks] at h
  split at h
  · rename_i q
    intro a ha
    have h0:=tk_okp m (hf m (by simp)) lv c q
    have h2:=tks_okp r (fun b hb=>hf b (by simp [hb])) lv _ h
    rcases List.mem_cons.1 ha with e | ha
    · exact e ▸ h0
    · exact h2 a ha
  · cases h
end
theorem tcnt_okp {p:Pt} (hf:FitsAll p) (h:tcnt p≠0):Okp p:=by
 unfold tcnt at h
 split at h
 · rename_i q;exact tk_okp p hf 1 0 q.2
 · exact absurd rfl h
theorem tcnt_k {p:Pt} (h:tcnt p≠0):p.k=1:=by
 unfold tcnt at h
 split at h
 · rename_i q;exact q.1
 · exact absurd rfl h
theorem slsOk_f:∀ (l:List Sl) (p:Option Bs),slsOk p l=true→∀ s ∈ l,s.f≤3
 | [],_,_=>by simp
 | s::r,p,h=>by
  rw [slsOk] at h
  simp at h
  intro a ha
  rcases List.mem_cons.1 ha with rfl | ha
  · exact h.1.1.1.1.2
  · exact slsOk_f r _ h.2 a ha
theorem pOne_s {p:Pt} (h:pOne p=true):p.s.length≤8∧∀ s ∈ p.s,s.f≤3:=by
 unfold pOne at h
 split at h
 · simp at h;exact ⟨h.1.2.1,slsOk_f _ _ h.1.2.2⟩
 · split at h
   · simp at h;exact ⟨h.1.1.1.2.1,slsOk_f _ _ h.1.1.1.2.2⟩
   · split at h
     · simp at h;rw [h.1.2];simp
     · simp at h;rw [h.1.2];simp
theorem pOne_k {p:Pt} (h:pOne p=true):p.k=1∨p.k=2∨p.k=3∨p.k=4∨p.k=5:=by
 unfold pOne at h
 split at h
 · exact .inl ‹_›
 · split at h
   · exact .inr (.inr (.inr (.inr ‹_›)))
   · split at h
     · exact .inr (.inl ‹_›)
     · simp at h
       rcases h.1.1.1.1.1 with q | q
       · exact .inr (.inr (.inl q))
       · exact .inr (.inr (.inr (.inl q)))
mutual
/-- What a part makes. -/
def mk (x:It):Pt→List Nd
 | ⟨k,t,y,s,se,tx,ch,ce⟩ =>
  if k=1 then [⟨1,t,y,s.map (attrOf x),true,[],mks x ch,true⟩]
  else if k=2 then [wordsN tx] else if k=3 then [wordsN x.x] else if k=4 then [wordsN (dec x.k.toNat)]
  else if k=5 then x.m.map fun m=>⟨1,t,m,s.map (attrOf x),true,[],[wordsN m],true⟩ else []
def mks (x:It):List Pt→List Nd
 | []=>[]
 | p::r=>mk x p++mks x r
end
theorem mk_eq (x:It) (p:Pt):mk x p=if p.k=1 then [elemN x p p.y (mks x p.ch)]
 else if p.k=2 then [wordsN p.x] else if p.k=3 then [wordsN x.x] else if p.k=4 then [wordsN (dec x.k.toNat)]
 else if p.k=5 then x.m.map fun m=>elemN x p m [wordsN m] else []:=by cases p;rw [mk];rfl
mutual
/-- What the specification's part makes. -/
def md (x:It):Pt→List Nd
 | ⟨k,t,y,s,se,tx,ch,ce⟩ =>
  if k=2 then [wordsN tx] else if k=3 then [wordsN x.x] else if k=4 then [wordsN (dec x.k.toNat)]
  else if k=5 then x.m.map fun m=>⟨1,t,m,s.map (attrOf x),false,[],[wordsN m],true⟩
  else [⟨1,t,y,s.map (attrOf x),false,[],mds x ch,(mds x ch).isEmpty⟩]
def mds (x:It):List Pt→List Nd
 | []=>[]
 | p::r=>md x p++mds x r
end
def elemR (x:It) (p:Pt) (key:Bs) (ch:List Nd) (e:Bool):Nd:=⟨1,p.t,key,p.s.map (attrOf x),false,[],ch,e⟩
theorem md_eq (x:It) (p:Pt):md x p=if p.k=2 then [wordsN p.x] else if p.k=3 then [wordsN x.x] else if p.k=4 then [wordsN (dec x.k.toNat)]
 else if p.k=5 then x.m.map fun m=>elemR x p m [wordsN m] true else [elemR x p p.y (mds x p.ch) (mds x p.ch).isEmpty]:=by cases p;rw [md];rfl
mutual
theorem mk_md (x:It):∀ (p:Pt),Okp p→(mk x p).map Nd.z=(md x p).map Nd.z
 | ⟨k,t,y,s,se,tx,ch,ce⟩,h=>by
  have hk:=pOne_k (by cases h;assumption:pOne ⟨k,t,y,s,se,tx,ch,ce⟩=true)
  have hm:∀ m ∈ ch,Okp m:=by cases h;assumption
  have ih:=mks_mds x ch hm
  rw [mk,md]
  simp only at hk
  rcases hk with rfl | rfl | rfl | rfl | rfl
  · simp [Nd.z_eq,ih]
  · simp
  · simp
  · simp
  · simp [Nd.z_eq]
theorem mks_mds (x:It):∀ (l:List Pt),(∀ m ∈ l,Okp m)→(mks x l).map Nd.z=(mds x l).map Nd.z
 | [],_=>by rw [mks,mds]
 | p::r,h=>by
  rw [mks,mds,List.map_append,List.map_append,mk_md x p (h p (by simp)),mks_mds x r fun m hm=>h m (by simp [hm])]
end
theorem md_len (x:It) (hx:x.m.length≤8) (p:Pt):(md x p).length≤8:=by
 rw [md_eq];split <;> (try split) <;> (try split) <;> (try split) <;> (try split) <;> simp <;> omega
def zN:Nd:=⟨0,[],[],[],true,[],[],true⟩
def mkN (x:It) (p:Pt):Nd:=(mk x p).headD zN
def mdN (x:It) (p:Pt):Nd:=(md x p).headD zN
theorem mkN_z (x:It) (p:Pt) (h:Okp p):(mkN x p).z=(mdN x p).z:=by
 have:=mk_md x p h
 unfold mkN mdN
 cases h1:mk x p <;> cases h2:md x p <;> rw [h1,h2] at this <;> simp at this ⊢
 exact this.1
def rndE (p:Pt) (x:It) (most:Int):Int :=
 if most < 1∨64 < most then 1 else if tcnt p=0 then 14 else if itOk2 x=false then 6 else if cnt (mkN x p)=0∨most < cnt (mkN x p) then 14 else 0
def rndN (p:Pt) (x:It) (most:Int):Nd:=if rndE p x most=0 then mkN x p else zN
def rndR (p:Pt) (x:It) (most:Int):Nd:=if rndE p x most=0 then mdN x p else zN
theorem rndE_okp {p:Pt} (hf:FitsAll p) {x:It} {most:Int} (h:rndE p x most=0):Okp p:=by
 unfold rndE at h
 refine tcnt_okp hf fun q=>?_
 rw [if_pos q] at h
 split at h <;> cases h
theorem rnd_z (p:Pt) (hf:FitsAll p) (x:It) (most:Int):(rndN p x most).z=(rndR p x most).z:=by
 unfold rndN rndR
 split
 · exact mkN_z x p (rndE_okp hf ‹_›)
 · rfl
end Go.D
end
section
namespace Go.D
open Go Go.Pav Go.Pw P
attribute [-simp] List.getElem_cons_drop
variable {C:WProg}
structure HasZ (C:WProg):Prop extends HasY C,HasR C where
 f547:C.fns.get 547=some w547
 f513:C.fns.get 513=some w513
 f501:C.fns.get 501=some w501
 f425:C.fns.get 425=some w425
@[simp] theorem Nd.c_hasRef (n:Nd) (k:Nat):n.c.any (hasRefW (k+1))=true:=by rw [Nd.c_eq];rfl
@[simp] theorem Nd.c_hasRef2 (n:Nd) (k:Nat):(∃ x,x ∈ n.c∧hasRefW (k+1) x=true)=True:=by
 refine eq_true ⟨.ro 2 (n.a.map eA) n.ae,?_,rfl⟩
 rw [Nd.c_eq];simp
theorem made_in (H:HasZ C) (x:It) (hk:0≤x.k∧x.k < 18446744073709551616) (hm:x.m.length≤8) (l:List Pt) (e:Bool) (hl:l.length≤16) (p:Pt) (hp:pOne p=true∧Fits p) (hk5:p.k=5) (i:Nat) (hi:i < l.length)
 (hnext:∀ G:List Nd,G.length≤8 * (i+1)→w547_K0 C ⟨[(12,.int .i64 ((i:Int)+1)),(11,.int .i64 l.length),(10,.ro 6 (l.map Pt.c) e),(5,.sl 0 6 0 G.length G.length false),(2,.ptr 1 0 0)],[(0,.cells 6 (G.map Nd.c) true true),(1,.cells 4 [[.int .u64 x.k,.int .u8 x.t,.str x.x,.ro 1 (x.m.map eS) x.e]] true true)],2⟩ =
  some (.ro 6 ((G++mks x (l.drop (i+1))).map Nd.c) false)):∀ n k,n+k=x.m.length→∀ G:List Nd,G.length≤8 * i+k →
 w547_K1 C ⟨[(65,.int .i64 k),(64,.int .i64 x.m.length),(63,.ro 1 (x.m.map eS) x.e),(12,.int .i64 i),(11,.int .i64 l.length),(10,.ro 6 (l.map Pt.c) e),(7,.ptr 0 0 0),(5,.sl 1 6 0 G.length G.length false),(2,.ptr 2 0 0)],[(0,.cells 6 [p.c] true true),(1,.cells 6 (G.map Nd.c) true true),(2,.cells 4 [[.int .u64 x.k,.int .u8 x.t,.str x.x,.ro 1 (x.m.map eS) x.e]] true true)],3⟩ =
  some (.ro 6 ((G++(x.m.drop k).map (fun m=>elemN x p m [wordsN m])++mks x (l.drop (i+1))).map Nd.c) false):=by
 intro n
 induction n with
 | zero =>
  intro k hk2 G hG
  have h1:x.m.drop k=[]:=List.drop_eq_nil_of_le (by omega)
  have h3:¬ k < x.m.length:=by omega
  have:=hnext G (by omega)
  simp only [w547_K0] at this
  simp at this
  simp only [w547_K1];rw [ck_unf w547_B1.eq_1]
  simp (disch:=omega) [ck_unf w547_c1.eq_1,h1,h3,wI64,this]
 | succ n ih =>
  intro k hk2 G hG
  have h1:k < x.m.length:=by omega
  have hs:=pOne_s hp.1
  have he:=element_ok H.toHasY x hk (by omega) p hs.1 (fun s q=>⟨hp.2.f s q,hs.2 s q⟩) x.m[k] [wordsN x.m[k]] true
  have hw:=words_ok2 H.toHasY x.m[k]
  have:=ih (k+1) (by omega) (G++[elemN x p x.m[k] [wordsN x.m[k]]]) (by simp;omega)
  have hfit:(G.length+1) * 105≤35184372088832:=by omega
  rw [drop_cons h1]
  simp only [w547_K1] at this ⊢;rw [ck_unf w547_B1.eq_1]
  simp at this
  simp at he
  simp (disch:=omega) [h1,wI64,hfit,hw,he,H.inl,inlB,H.pp,ppB,this]
theorem make_loop (H:HasZ C) (x:It) (hk:0≤x.k∧x.k < 18446744073709551616) (hm:x.m.length≤8) (l:List Pt) (e:Bool) (hl:l.length≤16) (ho:∀ p ∈ l,Okp p)
 (ih:∀ p ∈ l,FnW C 547 [eIt x,.ro 6 (p.ch.map Pt.c) p.ce]=some (.ro 6 ((mks x p.ch).map Nd.c) false)):∀ n i,n+i=l.length→∀ G:List Nd,G.length≤8 * i →
 w547_K0 C ⟨[(12,.int .i64 i),(11,.int .i64 l.length),(10,.ro 6 (l.map Pt.c) e),(5,.sl 0 6 0 G.length G.length false),(2,.ptr 1 0 0)],[(0,.cells 6 (G.map Nd.c) true true),(1,.cells 4 [[.int .u64 x.k,.int .u8 x.t,.str x.x,.ro 1 (x.m.map eS) x.e]] true true)],2⟩ =
  some (.ro 6 ((G++mks x (l.drop i)).map Nd.c) false):=by
 intro n
 induction n with
 | zero =>
  intro i hi G hG
  have h1:l.drop i=[]:=List.drop_eq_nil_of_le (by omega)
  have h3:¬ i < l.length:=by omega
  simp only [w547_K0];rw [ck_unf w547_B0.eq_1]
  cases G with
  | nil=>simp [ck_unf w547_c0.eq_1,h1,h3,mks]
  | cons g G=>simp (disch:=(first | omega | (simp;done) | (simp;omega))) [ck_unf w547_c0.eq_1,h1,h3,mks,List.take_of_length_le]
 | succ n ihn =>
  intro i hi G hG
  have h1:i < l.length:=by omega
  have hp:=ho _ (List.getElem_mem h1)
  have hpo:pOne l[i]=true:=by cases hp;assumption
  have hpf:Fits l[i]:=by cases hp;assumption
  have hs:=pOne_s hpo
  have hnext:∀ G:List Nd,G.length≤8 * (i+1)→w547_K0 C ⟨[(12,.int .i64 ((i:Int)+1)),(11,.int .i64 l.length),(10,.ro 6 (l.map Pt.c) e),(5,.sl 0 6 0 G.length G.length false),(2,.ptr 1 0 0)],[(0,.cells 6 (G.map Nd.c) true true),(1,.cells 4 [[.int .u64 x.k,.int .u8 x.t,.str x.x,.ro 1 (x.m.map eS) x.e]] true true)],2⟩ =
   some (.ro 6 ((G++mks x (l.drop (i+1))).map Nd.c) false):=fun G q=>by
    have:=ihn (i+1) (by omega) G q
    simpa using this
  have hfit:(G.length+1) * 105≤35184372088832:=by omega
  rw [drop_cons h1,mks]
  have step:∀ N:Nd,w547_K0 C ⟨[(12,.int .i64 ((i:Int)+1)),(11,.int .i64 l.length),(10,.ro 6 (l.map Pt.c) e),(5,.sl 0 6 0 (G.length+1) (G.length+1) false),(2,.ptr 1 0 0)],[(0,.cells 6 (G.map Nd.c++[N.c]) true true),(1,.cells 4 [[.int .u64 x.k,.int .u8 x.t,.str x.x,.ro 1 (x.m.map eS) x.e]] true true)],2⟩ =
   some (.ro 6 ((G++([N]++mks x (l.drop (i+1)))).map Nd.c) false):=fun N=>by
    have:=hnext (G++[N]) (by simp;omega)
    simpa using this
  rcases pOne_k hpo with k1 | k1 | k1 | k1 | k1
  · have he:=element_ok H.toHasY x hk (by omega) l[i] hs.1 (fun s q=>⟨hpf.f s q,hs.2 s q⟩) l[i].y (mks x l[i].ch) false
    have hr:=ih _ (List.getElem_mem h1)
    have:=step (elemN x l[i] l[i].y (mks x l[i].ch))
    have hq:mk x l[i]=[elemN x l[i] l[i].y (mks x l[i].ch)]:=by rw [mk_eq,if_pos k1]
    rw [hq]
    simp only [w547_K0] at this ⊢;rw [ck_unf w547_B0.eq_1]
    simp at this
    simp (disch:=omega) [ck_unf w547_c1.eq_1,h1,k1,wI64,hfit,he,hr,H.inl,inlB,H.pp,ppB,this]
  · have hw:=words_ok2 H.toHasY l[i].x
    have:=step (wordsN l[i].x)
    have hq:mk x l[i]=[wordsN l[i].x]:=by rw [mk_eq,if_neg (by omega),if_pos k1]
    rw [hq]
    simp only [w547_K0] at this ⊢;rw [ck_unf w547_B0.eq_1]
    simp at this
    simp (disch:=omega) [ck_unf w547_c1.eq_1,h1,k1,wI64,hfit,hw,H.inl,inlB,H.pp,ppB,this]
  · have hw:=words_ok2 H.toHasY x.x
    have:=step (wordsN x.x)
    have hq:mk x l[i]=[wordsN x.x]:=by rw [mk_eq,if_neg (by omega),if_neg (by omega),if_pos k1]
    rw [hq]
    simp only [w547_K0] at this ⊢;rw [ck_unf w547_B0.eq_1]
    simp at this
    simp (disch:=omega) [ck_unf w547_c1.eq_1,h1,k1,wI64,hfit,hw,H.inl,inlB,H.pp,ppB,this]
  · obtain ⟨k,hk2⟩:∃ k:Nat,x.k=k:=⟨x.k.toNat,by omega⟩
    have hd:=tdec_ok H.toHasW k (by omega)
    have hw:=words_ok2 H.toHasY (dec x.k.toNat)
    have:=step (wordsN (dec x.k.toNat))
    have hq:mk x l[i]=[wordsN (dec x.k.toNat)]:=by rw [mk_eq,if_neg (by omega),if_neg (by omega),if_neg (by omega),if_pos k1]
    rw [hq]
    rw [hk2] at this hw ⊢
    simp only [w547_K0] at this ⊢;rw [ck_unf w547_B0.eq_1]
    simp at this hw
    simp (disch:=omega) [ck_unf w547_c1.eq_1,h1,k1,wI64,hfit,hd,hw,H.inl,inlB,H.pp,ppB,this]
  · have:=made_in H x hk hm l e hl l[i] ⟨hpo,hpf⟩ k1 i h1 hnext x.m.length 0 (by simp) G (by omega)
    have hq:mk x l[i]=x.m.map fun m=>elemN x l[i] m [wordsN m]:=by rw [mk_eq,if_neg (by omega),if_neg (by omega),if_neg (by omega),if_neg (by omega),if_pos k1]
    rw [hq,← List.append_assoc]
    rw [List.drop_zero] at this
    generalize G++List.map (fun m=>elemN x l[i] m [wordsN m]) x.m++mks x (l.drop (i+1))=R at *
    simp only [w547_K0]
    simp only [w547_K1] at this
    rw [ck_unf w547_B0.eq_1]
    simp at this
    simp (disch:=omega) [ck_unf w547_c1.eq_1,h1,k1,wI64,H.inl,inlB,H.pp,ppB,this]
theorem make_step (H:HasZ C) (x:It) (hk:0≤x.k∧x.k < 18446744073709551616) (hm:x.m.length≤8) (l:List Pt) (e:Bool) (hl:l.length≤16) (ho:∀ p ∈ l,Okp p)
 (ih:∀ p ∈ l,FnW C 547 [eIt x,.ro 6 (p.ch.map Pt.c) p.ce]=some (.ro 6 ((mks x p.ch).map Nd.c) false)):FnW C 547 [eIt x,.ro 6 (l.map Pt.c) e]=some (.ro 6 ((mks x l).map Nd.c) false):=by
 have h:=make_loop H x hk hm l e hl ho ih l.length 0 (by simp) [] (by simp)
 simp only [w547_K0] at h
 simp at h
 rw [fnW_eq H.f547 rfl]
 simp [w547,h]
theorem make_all (H:HasZ C) (x:It) (hk:0≤x.k∧x.k < 18446744073709551616) (hm:x.m.length≤8) (p:Pt) (hp:Okp p):FnW C 547 [eIt x,.ro 6 (p.ch.map Pt.c) p.ce]=some (.ro 6 ((mks x p.ch).map Nd.c) false):=by
 have ho:∀ m ∈ p.ch,Okp m:=by cases hp;assumption
 have hl:p.ch.length≤16:=pOne_len (by cases hp;assumption)
 exact make_step H x hk hm p.ch p.ce hl ho fun m q=>make_all H x hk hm m (ho m q)
termination_by SizeOf.sizeOf p
decreasing_by
 have:=List.sizeOf_lt_of_mem q
 have:=Pt.size_ch p
 omega
theorem make_ok (H:HasZ C) (x:It) (hk:0≤x.k∧x.k < 18446744073709551616) (hm:x.m.length≤8) (l:List Pt) (e:Bool) (hl:l.length≤16) (ho:∀ p ∈ l,Okp p) :
 FnW C 547 [eIt x,.ro 6 (l.map Pt.c) e]=some (.ro 6 ((mks x l).map Nd.c) false) :=
 make_step H x hk hm l e hl ho fun m q=>make_all H x hk hm m (ho m q)
theorem elemR_c (x:It) (p:Pt) (m:Bs):(elemR x p m [wordsN m] true).c=[.int .u8 1,.str p.t,.str m,.ro 2 ((p.s.map (attrOf x)).map eA) false,.str [],.ro 6 [[.int .u8 2,.str [],.str [],.ro 2 [] true,.str m,.ro 6 [] true]] true]:=by
 rw [Nd.c_eq];simp only [elemR,List.map_cons,List.map_nil];rw [Nd.c_eq];simp [wordsN]
theorem made5_8 (H:HasZ C) (x:It) (hk:0≤x.k∧x.k < 18446744073709551616) (hl8:x.m.length≤8) (p:Pt) (hl:p.s.length≤8) (m1 m2 m3 m4 m5 m6 m7 m8:Bs) (r:List Bs) (hm:x.m=[m1,m2,m3,m4,m5,m6,m7,m8]++r) :
 w513_K1 C ⟨[(6,.int .i64 8),(5,.sl 0 6 0 8 8 false),(3,.ptr 9 0 0),(2,.ptr 10 0 0)],[(0,.cells 6 [[.int .u8 1,.str p.t,.str m1,.ro 2 ((p.s.map (attrOf x)).map eA) false,.str [],.sl 1 6 0 1 1 true],[.int .u8 1,.str p.t,.str m2,.ro 2 ((p.s.map (attrOf x)).map eA) false,.str [],.sl 2 6 0 1 1 true],[.int .u8 1,.str p.t,.str m3,.ro 2 ((p.s.map (attrOf x)).map eA) false,.str [],.sl 3 6 0 1 1 true],[.int .u8 1,.str p.t,.str m4,.ro 2 ((p.s.map (attrOf x)).map eA) false,.str [],.sl 4 6 0 1 1 true],[.int .u8 1,.str p.t,.str m5,.ro 2 ((p.s.map (attrOf x)).map eA) false,.str [],.sl 5 6 0 1 1 true],[.int .u8 1,.str p.t,.str m6,.ro 2 ((p.s.map (attrOf x)).map eA) false,.str [],.sl 6 6 0 1 1 true],[.int .u8 1,.str p.t,.str m7,.ro 2 ((p.s.map (attrOf x)).map eA) false,.str [],.sl 7 6 0 1 1 true],[.int .u8 1,.str p.t,.str m8,.ro 2 ((p.s.map (attrOf x)).map eA) false,.str [],.sl 8 6 0 1 1 true]] true false),(1,.cells 6 [[.int .u8 2,.str [],.str [],.ro 2 [] true,.str m1,.ro 6 [] true]] true true),(2,.cells 6 [[.int .u8 2,.str [],.str [],.ro 2 [] true,.str m2,.ro 6 [] true]] true true),(3,.cells 6 [[.int .u8 2,.str [],.str [],.ro 2 [] true,.str m3,.ro 6 [] true]] true true),(4,.cells 6 [[.int .u8 2,.str [],.str [],.ro 2 [] true,.str m4,.ro 6 [] true]] true true),(5,.cells 6 [[.int .u8 2,.str [],.str [],.ro 2 [] true,.str m5,.ro 6 [] true]] true true),(6,.cells 6 [[.int .u8 2,.str [],.str [],.ro 2 [] true,.str m6,.ro 6 [] true]] true true),(7,.cells 6 [[.int .u8 2,.str [],.str [],.ro 2 [] true,.str m7,.ro 6 [] true]] true true),(8,.cells 6 [[.int .u8 2,.str [],.str [],.ro 2 [] true,.str m8,.ro 6 [] true]] true true),(9,.cells 4 [[.int .u64 x.k,.int .u8 x.t,.str x.x,.ro 1 (x.m.map eS) x.e]] true true),(10,.cells 6 [p.c] true true)],11⟩ =
  some (.ro 6 (([m1,m2,m3,m4,m5,m6,m7,m8]++r).map fun m=>(elemR x p m [wordsN m] true).c) false):=by
 simp only [w513_K1];rw [ck_unf w513_B1.eq_1]
 have hxl:x.m.length=8+r.length:=by rw [hm];simp;omega
 cases r with
 | nil =>
  simp at hxl
  simp [ck_unf w513_c2.eq_1,hxl,elemR_c]
 | cons m9 r=>simp at hxl;omega
theorem made5_7 (H:HasZ C) (x:It) (hk:0≤x.k∧x.k < 18446744073709551616) (hl8:x.m.length≤8) (p:Pt) (hl:p.s.length≤8) (m1 m2 m3 m4 m5 m6 m7:Bs) (r:List Bs) (hm:x.m=[m1,m2,m3,m4,m5,m6,m7]++r) :
 w513_K1 C ⟨[(6,.int .i64 7),(5,.sl 0 6 0 7 7 false),(3,.ptr 8 0 0),(2,.ptr 9 0 0)],[(0,.cells 6 [[.int .u8 1,.str p.t,.str m1,.ro 2 ((p.s.map (attrOf x)).map eA) false,.str [],.sl 1 6 0 1 1 true],[.int .u8 1,.str p.t,.str m2,.ro 2 ((p.s.map (attrOf x)).map eA) false,.str [],.sl 2 6 0 1 1 true],[.int .u8 1,.str p.t,.str m3,.ro 2 ((p.s.map (attrOf x)).map eA) false,.str [],.sl 3 6 0 1 1 true],[.int .u8 1,.str p.t,.str m4,.ro 2 ((p.s.map (attrOf x)).map eA) false,.str [],.sl 4 6 0 1 1 true],[.int .u8 1,.str p.t,.str m5,.ro 2 ((p.s.map (attrOf x)).map eA) false,.str [],.sl 5 6 0 1 1 true],[.int .u8 1,.str p.t,.str m6,.ro 2 ((p.s.map (attrOf x)).map eA) false,.str [],.sl 6 6 0 1 1 true],[.int .u8 1,.str p.t,.str m7,.ro 2 ((p.s.map (attrOf x)).map eA) false,.str [],.sl 7 6 0 1 1 true]] true false),(1,.cells 6 [[.int .u8 2,.str [],.str [],.ro 2 [] true,.str m1,.ro 6 [] true]] true true),(2,.cells 6 [[.int .u8 2,.str [],.str [],.ro 2 [] true,.str m2,.ro 6 [] true]] true true),(3,.cells 6 [[.int .u8 2,.str [],.str [],.ro 2 [] true,.str m3,.ro 6 [] true]] true true),(4,.cells 6 [[.int .u8 2,.str [],.str [],.ro 2 [] true,.str m4,.ro 6 [] true]] true true),(5,.cells 6 [[.int .u8 2,.str [],.str [],.ro 2 [] true,.str m5,.ro 6 [] true]] true true),(6,.cells 6 [[.int .u8 2,.str [],.str [],.ro 2 [] true,.str m6,.ro 6 [] true]] true true),(7,.cells 6 [[.int .u8 2,.str [],.str [],.ro 2 [] true,.str m7,.ro 6 [] true]] true true),(8,.cells 4 [[.int .u64 x.k,.int .u8 x.t,.str x.x,.ro 1 (x.m.map eS) x.e]] true true),(9,.cells 6 [p.c] true true)],10⟩ =
  some (.ro 6 (([m1,m2,m3,m4,m5,m6,m7]++r).map fun m=>(elemR x p m [wordsN m] true).c) false):=by
 simp only [w513_K1];rw [ck_unf w513_B1.eq_1]
 have hxl:x.m.length=7+r.length:=by rw [hm];simp;omega
 cases r with
 | nil =>
  simp at hxl
  simp [ck_unf w513_c2.eq_1,hxl,elemR_c]
 | cons m8 r =>
  have h1:7 < x.m.length:=by rw [hxl];simp
  have hg:x.m[7]=m8:=by
   have q:x.m[7]?=some m8:=by rw [hm];simp
   rw [List.getElem?_eq_getElem h1] at q
   exact Option.some.inj q
  have ha:=rattrs_ok H.toHasX x hk (by omega) p.s p.se hl
  have this:=made5_8 H x hk hl8 p hl m1 m2 m3 m4 m5 m6 m7 m8 r (by rw [hm];simp)
  simp only [w513_K1] at this
  simp [elemR_c] at this
  have h2:(7:Int) < x.m.length:=by omega
  simp (disch:=omega) [h1,h2,hg,wI64,elemR_c,ha,H.inl,inlB,H.pp,ppB,this]
theorem made5_6 (H:HasZ C) (x:It) (hk:0≤x.k∧x.k < 18446744073709551616) (hl8:x.m.length≤8) (p:Pt) (hl:p.s.length≤8) (m1 m2 m3 m4 m5 m6:Bs) (r:List Bs) (hm:x.m=[m1,m2,m3,m4,m5,m6]++r) :
 w513_K1 C ⟨[(6,.int .i64 6),(5,.sl 0 6 0 6 6 false),(3,.ptr 7 0 0),(2,.ptr 8 0 0)],[(0,.cells 6 [[.int .u8 1,.str p.t,.str m1,.ro 2 ((p.s.map (attrOf x)).map eA) false,.str [],.sl 1 6 0 1 1 true],[.int .u8 1,.str p.t,.str m2,.ro 2 ((p.s.map (attrOf x)).map eA) false,.str [],.sl 2 6 0 1 1 true],[.int .u8 1,.str p.t,.str m3,.ro 2 ((p.s.map (attrOf x)).map eA) false,.str [],.sl 3 6 0 1 1 true],[.int .u8 1,.str p.t,.str m4,.ro 2 ((p.s.map (attrOf x)).map eA) false,.str [],.sl 4 6 0 1 1 true],[.int .u8 1,.str p.t,.str m5,.ro 2 ((p.s.map (attrOf x)).map eA) false,.str [],.sl 5 6 0 1 1 true],[.int .u8 1,.str p.t,.str m6,.ro 2 ((p.s.map (attrOf x)).map eA) false,.str [],.sl 6 6 0 1 1 true]] true false),(1,.cells 6 [[.int .u8 2,.str [],.str [],.ro 2 [] true,.str m1,.ro 6 [] true]] true true),(2,.cells 6 [[.int .u8 2,.str [],.str [],.ro 2 [] true,.str m2,.ro 6 [] true]] true true),(3,.cells 6 [[.int .u8 2,.str [],.str [],.ro 2 [] true,.str m3,.ro 6 [] true]] true true),(4,.cells 6 [[.int .u8 2,.str [],.str [],.ro 2 [] true,.str m4,.ro 6 [] true]] true true),(5,.cells 6 [[.int .u8 2,.str [],.str [],.ro 2 [] true,.str m5,.ro 6 [] true]] true true),(6,.cells 6 [[.int .u8 2,.str [],.str [],.ro 2 [] true,.str m6,.ro 6 [] true]] true true),(7,.cells 4 [[.int .u64 x.k,.int .u8 x.t,.str x.x,.ro 1 (x.m.map eS) x.e]] true true),(8,.cells 6 [p.c] true true)],9⟩ =
  some (.ro 6 (([m1,m2,m3,m4,m5,m6]++r).map fun m=>(elemR x p m [wordsN m] true).c) false):=by
 simp only [w513_K1];rw [ck_unf w513_B1.eq_1]
 have hxl:x.m.length=6+r.length:=by rw [hm];simp;omega
 cases r with
 | nil =>
  simp at hxl
  simp [ck_unf w513_c2.eq_1,hxl,elemR_c]
 | cons m7 r =>
  have h1:6 < x.m.length:=by rw [hxl];simp
  have hg:x.m[6]=m7:=by
   have q:x.m[6]?=some m7:=by rw [hm];simp
   rw [List.getElem?_eq_getElem h1] at q
   exact Option.some.inj q
  have ha:=rattrs_ok H.toHasX x hk (by omega) p.s p.se hl
  have this:=made5_7 H x hk hl8 p hl m1 m2 m3 m4 m5 m6 m7 r (by rw [hm];simp)
  simp only [w513_K1] at this
  simp [elemR_c] at this
  have h2:(6:Int) < x.m.length:=by omega
  simp (disch:=omega) [h1,h2,hg,wI64,elemR_c,ha,H.inl,inlB,H.pp,ppB,this]
theorem made5_5 (H:HasZ C) (x:It) (hk:0≤x.k∧x.k < 18446744073709551616) (hl8:x.m.length≤8) (p:Pt) (hl:p.s.length≤8) (m1 m2 m3 m4 m5:Bs) (r:List Bs) (hm:x.m=[m1,m2,m3,m4,m5]++r) :
 w513_K1 C ⟨[(6,.int .i64 5),(5,.sl 0 6 0 5 5 false),(3,.ptr 6 0 0),(2,.ptr 7 0 0)],[(0,.cells 6 [[.int .u8 1,.str p.t,.str m1,.ro 2 ((p.s.map (attrOf x)).map eA) false,.str [],.sl 1 6 0 1 1 true],[.int .u8 1,.str p.t,.str m2,.ro 2 ((p.s.map (attrOf x)).map eA) false,.str [],.sl 2 6 0 1 1 true],[.int .u8 1,.str p.t,.str m3,.ro 2 ((p.s.map (attrOf x)).map eA) false,.str [],.sl 3 6 0 1 1 true],[.int .u8 1,.str p.t,.str m4,.ro 2 ((p.s.map (attrOf x)).map eA) false,.str [],.sl 4 6 0 1 1 true],[.int .u8 1,.str p.t,.str m5,.ro 2 ((p.s.map (attrOf x)).map eA) false,.str [],.sl 5 6 0 1 1 true]] true false),(1,.cells 6 [[.int .u8 2,.str [],.str [],.ro 2 [] true,.str m1,.ro 6 [] true]] true true),(2,.cells 6 [[.int .u8 2,.str [],.str [],.ro 2 [] true,.str m2,.ro 6 [] true]] true true),(3,.cells 6 [[.int .u8 2,.str [],.str [],.ro 2 [] true,.str m3,.ro 6 [] true]] true true),(4,.cells 6 [[.int .u8 2,.str [],.str [],.ro 2 [] true,.str m4,.ro 6 [] true]] true true),(5,.cells 6 [[.int .u8 2,.str [],.str [],.ro 2 [] true,.str m5,.ro 6 [] true]] true true),(6,.cells 4 [[.int .u64 x.k,.int .u8 x.t,.str x.x,.ro 1 (x.m.map eS) x.e]] true true),(7,.cells 6 [p.c] true true)],8⟩ =
  some (.ro 6 (([m1,m2,m3,m4,m5]++r).map fun m=>(elemR x p m [wordsN m] true).c) false):=by
 simp only [w513_K1];rw [ck_unf w513_B1.eq_1]
 have hxl:x.m.length=5+r.length:=by rw [hm];simp;omega
 cases r with
 | nil =>
  simp at hxl
  simp [ck_unf w513_c2.eq_1,hxl,elemR_c]
 | cons m6 r =>
  have h1:5 < x.m.length:=by rw [hxl];simp
  have hg:x.m[5]=m6:=by
   have q:x.m[5]?=some m6:=by rw [hm];simp
   rw [List.getElem?_eq_getElem h1] at q
   exact Option.some.inj q
  have ha:=rattrs_ok H.toHasX x hk (by omega) p.s p.se hl
  have this:=made5_6 H x hk hl8 p hl m1 m2 m3 m4 m5 m6 r (by rw [hm];simp)
  simp only [w513_K1] at this
  simp [elemR_c] at this
  have h2:(5:Int) < x.m.length:=by omega
  simp (disch:=omega) [h1,h2,hg,wI64,elemR_c,ha,H.inl,inlB,H.pp,ppB,this]
theorem made5_4 (H:HasZ C) (x:It) (hk:0≤x.k∧x.k < 18446744073709551616) (hl8:x.m.length≤8) (p:Pt) (hl:p.s.length≤8) (m1 m2 m3 m4:Bs) (r:List Bs) (hm:x.m=[m1,m2,m3,m4]++r) :
 w513_K1 C ⟨[(6,.int .i64 4),(5,.sl 0 6 0 4 4 false),(3,.ptr 5 0 0),(2,.ptr 6 0 0)],[(0,.cells 6 [[.int .u8 1,.str p.t,.str m1,.ro 2 ((p.s.map (attrOf x)).map eA) false,.str [],.sl 1 6 0 1 1 true],[.int .u8 1,.str p.t,.str m2,.ro 2 ((p.s.map (attrOf x)).map eA) false,.str [],.sl 2 6 0 1 1 true],[.int .u8 1,.str p.t,.str m3,.ro 2 ((p.s.map (attrOf x)).map eA) false,.str [],.sl 3 6 0 1 1 true],[.int .u8 1,.str p.t,.str m4,.ro 2 ((p.s.map (attrOf x)).map eA) false,.str [],.sl 4 6 0 1 1 true]] true false),(1,.cells 6 [[.int .u8 2,.str [],.str [],.ro 2 [] true,.str m1,.ro 6 [] true]] true true),(2,.cells 6 [[.int .u8 2,.str [],.str [],.ro 2 [] true,.str m2,.ro 6 [] true]] true true),(3,.cells 6 [[.int .u8 2,.str [],.str [],.ro 2 [] true,.str m3,.ro 6 [] true]] true true),(4,.cells 6 [[.int .u8 2,.str [],.str [],.ro 2 [] true,.str m4,.ro 6 [] true]] true true),(5,.cells 4 [[.int .u64 x.k,.int .u8 x.t,.str x.x,.ro 1 (x.m.map eS) x.e]] true true),(6,.cells 6 [p.c] true true)],7⟩ =
  some (.ro 6 (([m1,m2,m3,m4]++r).map fun m=>(elemR x p m [wordsN m] true).c) false):=by
 simp only [w513_K1];rw [ck_unf w513_B1.eq_1]
 have hxl:x.m.length=4+r.length:=by rw [hm];simp;omega
 cases r with
 | nil =>
  simp at hxl
  simp [ck_unf w513_c2.eq_1,hxl,elemR_c]
 | cons m5 r =>
  have h1:4 < x.m.length:=by rw [hxl];simp
  have hg:x.m[4]=m5:=by
   have q:x.m[4]?=some m5:=by rw [hm];simp
   rw [List.getElem?_eq_getElem h1] at q
   exact Option.some.inj q
  have ha:=rattrs_ok H.toHasX x hk (by omega) p.s p.se hl
  have this:=made5_5 H x hk hl8 p hl m1 m2 m3 m4 m5 r (by rw [hm];simp)
  simp only [w513_K1] at this
  simp [elemR_c] at this
  have h2:(4:Int) < x.m.length:=by omega
  simp (disch:=omega) [h1,h2,hg,wI64,elemR_c,ha,H.inl,inlB,H.pp,ppB,this]
theorem made5_3 (H:HasZ C) (x:It) (hk:0≤x.k∧x.k < 18446744073709551616) (hl8:x.m.length≤8) (p:Pt) (hl:p.s.length≤8) (m1 m2 m3:Bs) (r:List Bs) (hm:x.m=[m1,m2,m3]++r) :
 w513_K1 C ⟨[(6,.int .i64 3),(5,.sl 0 6 0 3 3 false),(3,.ptr 4 0 0),(2,.ptr 5 0 0)],[(0,.cells 6 [[.int .u8 1,.str p.t,.str m1,.ro 2 ((p.s.map (attrOf x)).map eA) false,.str [],.sl 1 6 0 1 1 true],[.int .u8 1,.str p.t,.str m2,.ro 2 ((p.s.map (attrOf x)).map eA) false,.str [],.sl 2 6 0 1 1 true],[.int .u8 1,.str p.t,.str m3,.ro 2 ((p.s.map (attrOf x)).map eA) false,.str [],.sl 3 6 0 1 1 true]] true false),(1,.cells 6 [[.int .u8 2,.str [],.str [],.ro 2 [] true,.str m1,.ro 6 [] true]] true true),(2,.cells 6 [[.int .u8 2,.str [],.str [],.ro 2 [] true,.str m2,.ro 6 [] true]] true true),(3,.cells 6 [[.int .u8 2,.str [],.str [],.ro 2 [] true,.str m3,.ro 6 [] true]] true true),(4,.cells 4 [[.int .u64 x.k,.int .u8 x.t,.str x.x,.ro 1 (x.m.map eS) x.e]] true true),(5,.cells 6 [p.c] true true)],6⟩ =
  some (.ro 6 (([m1,m2,m3]++r).map fun m=>(elemR x p m [wordsN m] true).c) false):=by
 simp only [w513_K1];rw [ck_unf w513_B1.eq_1]
 have hxl:x.m.length=3+r.length:=by rw [hm];simp;omega
 cases r with
 | nil =>
  simp at hxl
  simp [ck_unf w513_c2.eq_1,hxl,elemR_c]
 | cons m4 r =>
  have h1:3 < x.m.length:=by rw [hxl];simp
  have hg:x.m[3]=m4:=by
   have q:x.m[3]?=some m4:=by rw [hm];simp
   rw [List.getElem?_eq_getElem h1] at q
   exact Option.some.inj q
  have ha:=rattrs_ok H.toHasX x hk (by omega) p.s p.se hl
  have this:=made5_4 H x hk hl8 p hl m1 m2 m3 m4 r (by rw [hm];simp)
  simp only [w513_K1] at this
  simp [elemR_c] at this
  have h2:(3:Int) < x.m.length:=by omega
  simp (disch:=omega) [h1,h2,hg,wI64,elemR_c,ha,H.inl,inlB,H.pp,ppB,this]
theorem made5_2 (H:HasZ C) (x:It) (hk:0≤x.k∧x.k < 18446744073709551616) (hl8:x.m.length≤8) (p:Pt) (hl:p.s.length≤8) (m1 m2:Bs) (r:List Bs) (hm:x.m=[m1,m2]++r) :
 w513_K1 C ⟨[(6,.int .i64 2),(5,.sl 0 6 0 2 2 false),(3,.ptr 3 0 0),(2,.ptr 4 0 0)],[(0,.cells 6 [[.int .u8 1,.str p.t,.str m1,.ro 2 ((p.s.map (attrOf x)).map eA) false,.str [],.sl 1 6 0 1 1 true],[.int .u8 1,.str p.t,.str m2,.ro 2 ((p.s.map (attrOf x)).map eA) false,.str [],.sl 2 6 0 1 1 true]] true false),(1,.cells 6 [[.int .u8 2,.str [],.str [],.ro 2 [] true,.str m1,.ro 6 [] true]] true true),(2,.cells 6 [[.int .u8 2,.str [],.str [],.ro 2 [] true,.str m2,.ro 6 [] true]] true true),(3,.cells 4 [[.int .u64 x.k,.int .u8 x.t,.str x.x,.ro 1 (x.m.map eS) x.e]] true true),(4,.cells 6 [p.c] true true)],5⟩ =
  some (.ro 6 (([m1,m2]++r).map fun m=>(elemR x p m [wordsN m] true).c) false):=by
 simp only [w513_K1];rw [ck_unf w513_B1.eq_1]
 have hxl:x.m.length=2+r.length:=by rw [hm];simp;omega
 cases r with
 | nil =>
  simp at hxl
  simp [ck_unf w513_c2.eq_1,hxl,elemR_c]
 | cons m3 r =>
  have h1:2 < x.m.length:=by rw [hxl];simp
  have hg:x.m[2]=m3:=by
   have q:x.m[2]?=some m3:=by rw [hm];simp
   rw [List.getElem?_eq_getElem h1] at q
   exact Option.some.inj q
  have ha:=rattrs_ok H.toHasX x hk (by omega) p.s p.se hl
  have this:=made5_3 H x hk hl8 p hl m1 m2 m3 r (by rw [hm];simp)
  simp only [w513_K1] at this
  simp [elemR_c] at this
  have h2:(2:Int) < x.m.length:=by omega
  simp (disch:=omega) [h1,h2,hg,wI64,elemR_c,ha,H.inl,inlB,H.pp,ppB,this]
theorem made5_1 (H:HasZ C) (x:It) (hk:0≤x.k∧x.k < 18446744073709551616) (hl8:x.m.length≤8) (p:Pt) (hl:p.s.length≤8) (m1:Bs) (r:List Bs) (hm:x.m=[m1]++r) :
 w513_K1 C ⟨[(6,.int .i64 1),(5,.sl 0 6 0 1 1 false),(3,.ptr 2 0 0),(2,.ptr 3 0 0)],[(0,.cells 6 [[.int .u8 1,.str p.t,.str m1,.ro 2 ((p.s.map (attrOf x)).map eA) false,.str [],.sl 1 6 0 1 1 true]] true false),(1,.cells 6 [[.int .u8 2,.str [],.str [],.ro 2 [] true,.str m1,.ro 6 [] true]] true true),(2,.cells 4 [[.int .u64 x.k,.int .u8 x.t,.str x.x,.ro 1 (x.m.map eS) x.e]] true true),(3,.cells 6 [p.c] true true)],4⟩ =
  some (.ro 6 (([m1]++r).map fun m=>(elemR x p m [wordsN m] true).c) false):=by
 simp only [w513_K1];rw [ck_unf w513_B1.eq_1]
 have hxl:x.m.length=1+r.length:=by rw [hm];simp;omega
 cases r with
 | nil =>
  simp at hxl
  simp [ck_unf w513_c2.eq_1,hxl,elemR_c]
 | cons m2 r =>
  have h1:1 < x.m.length:=by rw [hxl];simp
  have hg:x.m[1]=m2:=by
   have q:x.m[1]?=some m2:=by rw [hm];simp
   rw [List.getElem?_eq_getElem h1] at q
   exact Option.some.inj q
  have ha:=rattrs_ok H.toHasX x hk (by omega) p.s p.se hl
  have this:=made5_2 H x hk hl8 p hl m1 m2 r (by rw [hm];simp)
  simp only [w513_K1] at this
  simp [elemR_c] at this
  have h2:(1:Int) < x.m.length:=by omega
  simp (disch:=omega) [h1,h2,hg,wI64,elemR_c,ha,H.inl,inlB,H.pp,ppB,this]
theorem made5_0 (H:HasZ C) (x:It) (hk:0≤x.k∧x.k < 18446744073709551616) (hl8:x.m.length≤8) (p:Pt) (hl:p.s.length≤8) (r:List Bs) (hm:x.m=r) :
 w513_K1 C ⟨[(6,.int .i64 0),(5,.sl 0 6 0 0 0 false),(3,.ptr 1 0 0),(2,.ptr 2 0 0)],[(0,.cells 6 [] true true),(1,.cells 4 [[.int .u64 x.k,.int .u8 x.t,.str x.x,.ro 1 (x.m.map eS) x.e]] true true),(2,.cells 6 [p.c] true true)],3⟩ =
  some (.ro 6 (r.map fun m=>(elemR x p m [wordsN m] true).c) false):=by
 simp only [w513_K1];rw [ck_unf w513_B1.eq_1]
 have hxl:x.m.length=0+r.length:=by rw [hm];simp
 cases r with
 | nil =>
  simp at hxl
  simp [ck_unf w513_c2.eq_1,hxl,elemR_c]
 | cons m1 r =>
  have h1:0 < x.m.length:=by rw [hxl];simp
  have hg:x.m[0]=m1:=by
   have q:x.m[0]?=some m1:=by rw [hm];simp
   rw [List.getElem?_eq_getElem h1] at q
   exact Option.some.inj q
  have ha:=rattrs_ok H.toHasX x hk (by omega) p.s p.se hl
  have this:=made5_1 H x hk hl8 p hl  m1 r (by rw [hm];simp)
  simp only [w513_K1] at this
  simp [elemR_c] at this
  have h2:(0:Int) < x.m.length:=by omega
  simp (disch:=omega) [h1,h2,hg,wI64,elemR_c,ha,H.inl,inlB,H.pp,ppB,this]
def mdF (p:Pt):Bool:=decide (p.k≠5)
theorem made_sl (H:HasZ C) (x:It) (hk:0≤x.k∧x.k < 18446744073709551616) (hm:x.m.length≤8) (p:Pt) (hl:p.ch.length≤16)
 (ih:∀ m ∈ p.ch,FnW C 513 [.agg m.c,eIt x]=some (.ro 6 ((md x m).map Nd.c) (mdF m))):∀ n i,n+i=p.ch.length→∀ G:List Nd,G.length≤8 * i →
 w513_K0 C ⟨[(8,.int .i64 i),(7,.ptr 0 0 0),(3,.ptr 2 0 0),(2,.ptr 3 0 0)],[(0,.cells 6 [[.int .u8 1,.str p.t,.str p.y,.ro 2 ((p.s.map (attrOf x)).map eA) false,.str [],.sl 1 6 0 G.length G.length false]] true false),(1,.cells 6 (G.map Nd.c) true true),(2,.cells 4 [[.int .u64 x.k,.int .u8 x.t,.str x.x,.ro 1 (x.m.map eS) x.e]] true true),(3,.cells 6 [p.c] true true)],4⟩ =
  some (.ro 6 [(elemR x p p.y (G++mds x (p.ch.drop i)) false).c] true):=by
 intro n
 induction n with
 | zero =>
  intro i hi G hG
  have h1:p.ch.drop i=[]:=List.drop_eq_nil_of_le (by omega)
  have h3:¬ i < p.ch.length:=by omega
  have h4:List.take G.length (List.map Nd.c G)=List.map Nd.c G:=List.take_of_length_le (by simp)
  have hw:(elemR x p p.y G false).c=[.int .u8 1,.str p.t,.str p.y,.ro 2 ((p.s.map (attrOf x)).map eA) false,.str [],.ro 6 (G.map Nd.c) false]:=by rw [Nd.c_eq];rfl
  rw [h1,mds,List.append_nil,hw]
  simp only [w513_K0];rw [ck_unf w513_B0.eq_1]
  simp (disch:=omega) [ck_unf w513_c0.eq_1,h3,h4]
 | succ n ihn =>
  intro i hi G hG
  have h1:i < p.ch.length:=by omega
  have hr:=ih _ (List.getElem_mem h1)
  have hlen:=md_len x hm p.ch[i]
  have:=ihn (i+1) (by omega) (G++md x p.ch[i]) (by simp;omega)
  have hfit:(G.length+(md x p.ch[i]).length) * 105≤35184372088832:=by omega
  rw [drop_cons h1,mds,← List.append_assoc]
  generalize (elemR x p p.y (G++md x p.ch[i]++mds x (List.drop (i+1) p.ch)) false).c=R at *
  by_cases hE:md x p.ch[i]=[]
  · simp only [w513_K0] at this ⊢;rw [ck_unf w513_B0.eq_1]
    simp [hE] at this
    simp (disch:=omega) [h1,wI64,hr,hE,H.inl,inlB,H.pp,ppB,this]
  · simp only [w513_K0] at this ⊢;rw [ck_unf w513_B0.eq_1]
    simp at this
    simp (disch:=omega) [h1,wI64,hr,hE,isE hE,hfit,H.inl,inlB,H.pp,ppB,this]
theorem made_nil (H:HasZ C) (x:It) (hk:0≤x.k∧x.k < 18446744073709551616) (hm:x.m.length≤8) (p:Pt) (hl:p.ch.length≤16)
 (ih:∀ m ∈ p.ch,FnW C 513 [.agg m.c,eIt x]=some (.ro 6 ((md x m).map Nd.c) (mdF m))):∀ n i,n+i=p.ch.length →
 w513_K0 C ⟨[(8,.int .i64 i),(7,.ptr 0 0 0),(3,.ptr 1 0 0),(2,.ptr 2 0 0)],[(0,.cells 6 [[.int .u8 1,.str p.t,.str p.y,.ro 2 ((p.s.map (attrOf x)).map eA) false,.str [],.ro 6 [] true]] true true),(1,.cells 4 [[.int .u64 x.k,.int .u8 x.t,.str x.x,.ro 1 (x.m.map eS) x.e]] true true),(2,.cells 6 [p.c] true true)],3⟩ =
  some (.ro 6 [(elemR x p p.y (mds x (p.ch.drop i)) (mds x (p.ch.drop i)).isEmpty).c] true):=by
 intro n
 induction n with
 | zero =>
  intro i hi
  have h1:p.ch.drop i=[]:=List.drop_eq_nil_of_le (by omega)
  have h3:¬ i < p.ch.length:=by omega
  have hw:(elemR x p p.y [] true).c=[.int .u8 1,.str p.t,.str p.y,.ro 2 ((p.s.map (attrOf x)).map eA) false,.str [],.ro 6 [] true]:=by rw [Nd.c_eq];rfl
  rw [h1,mds,List.isEmpty_nil,hw]
  simp only [w513_K0];rw [ck_unf w513_B0.eq_1]
  simp (disch:=omega) [ck_unf w513_c0.eq_1,h3]
 | succ n ihn =>
  intro i hi
  have h1:i < p.ch.length:=by omega
  have hr:=ih _ (List.getElem_mem h1)
  have hlen:=md_len x hm p.ch[i]
  have hfit:((md x p.ch[i]).length) * 105≤35184372088832:=by omega
  rw [drop_cons h1,mds]
  by_cases hE:md x p.ch[i]=[]
  · have:=ihn (i+1) (by omega)
    rw [hE,List.nil_append]
    generalize (elemR x p p.y (mds x (List.drop (i+1) p.ch)) (mds x (List.drop (i+1) p.ch)).isEmpty).c=R at *
    simp only [w513_K0] at this ⊢;rw [ck_unf w513_B0.eq_1]
    simp at this
    simp (disch:=omega) [h1,wI64,hr,hE,H.inl,inlB,H.pp,ppB,this]
  · have:=made_sl H x hk hm p hl ih n (i+1) (by omega) (md x p.ch[i]) (by omega)
    have he:(md x p.ch[i]++mds x (List.drop (i+1) p.ch)).isEmpty=false:=isE (by simp [hE])
    rw [he]
    generalize (elemR x p p.y (md x p.ch[i]++mds x (List.drop (i+1) p.ch)) false).c=R at *
    simp only [w513_K0] at this ⊢;rw [ck_unf w513_B0.eq_1]
    simp at this
    simp (disch:=omega) [h1,wI64,hr,hE,isE hE,hfit,H.inl,inlB,H.pp,ppB,this]
theorem made_step (H:HasZ C) (x:It) (hk:0≤x.k∧x.k < 18446744073709551616) (hm:x.m.length≤8) (p:Pt) (hp:pOne p=true)
 (ih:∀ m ∈ p.ch,FnW C 513 [.agg m.c,eIt x]=some (.ro 6 ((md x m).map Nd.c) (mdF m))):FnW C 513 [.agg p.c,eIt x]=some (.ro 6 ((md x p).map Nd.c) (mdF p)):=by
 have hl:=pOne_len hp
 have hs:=pOne_s hp
 rw [fnW_eq H.f513 rfl,md_eq]
 unfold mdF
 have hw:∀ s:Bs,(wordsN s).c=[.int .u8 2,.str [],.str [],.ro 2 [] true,.str s,.ro 6 [] true]:=fun s=>by rw [Nd.c_eq];rfl
 rcases pOne_k hp with k1 | k1 | k1 | k1 | k1
 · have h:=made_nil H x hk hm p hl ih p.ch.length 0 (by simp)
   have ha:=rattrs_ok H.toHasX x hk (by omega) p.s p.se hs.1
   rw [if_neg (by omega),if_neg (by omega),if_neg (by omega),if_neg (by omega)]
   rw [List.drop_zero] at h
   simp only [List.map_cons,List.map_nil]
   generalize (elemR x p p.y (mds x p.ch) (mds x p.ch).isEmpty).c=R at *
   simp only [w513_K0] at h
   simp at h
   simp [w513,ck_unf w513_c1.eq_1,k1,ha,H.inl,inlB,H.pp,ppB,h]
 · simp [w513,k1,hw]
 · simp [w513,k1,hw]
 · obtain ⟨k,hk2⟩:∃ k:Nat,x.k=k:=⟨x.k.toNat,by omega⟩
   have hd:=rdec_ok H.toHasW k (by omega)
   simp [w513,k1,hw,hk2,hd,H.inl,inlB,H.pp,ppB]
 · have h:=made5_0 H x hk hm p hs.1 x.m rfl
   rw [if_neg (by omega),if_neg (by omega),if_neg (by omega),if_pos k1,List.map_map]
   have hq:(Nd.c ∘ fun m=>elemR x p m [wordsN m] true)=fun m=>(elemR x p m [wordsN m] true).c:=rfl
   rw [hq]
   generalize List.map (fun m=>(elemR x p m [wordsN m] true).c) x.m=R at *
   simp only [w513_K1] at h
   simp [w513,k1,h]
theorem made_ok (H:HasZ C) (x:It) (hk:0≤x.k∧x.k < 18446744073709551616) (hm:x.m.length≤8) (p:Pt) (hp:Okp p):FnW C 513 [.agg p.c,eIt x]=some (.ro 6 ((md x p).map Nd.c) (mdF p)):=by
 have ho:∀ m ∈ p.ch,Okp m:=by cases hp;assumption
 exact made_step H x hk hm p (by cases hp;assumption) fun m q=>made_ok H x hk hm m (ho m q)
termination_by SizeOf.sizeOf p
decreasing_by
 have:=List.sizeOf_lt_of_mem q
 have:=Pt.size_ch p
 omega
theorem itOk2_m {x:It} (h:itOk2 x=true):x.m.length≤8:=by
 unfold itOk2 at h
 simp at h
 exact h.2.1
theorem render_ok (H:HasZ C) (p:Pt) (hf:FitsAll p) (x:It) (hk:0≤x.k∧x.k < 18446744073709551616) (most:Int) :
 FnW C 501 [.agg p.c,eIt x,.int .i64 most]=some (.tup [.agg (rndN p x most).c,.int .i64 (rndE p x most)]):=by
 have hz:zN.c=[.int .u8 0,.str [],.str [],.ro 2 [] true,.str [],.ro 6 [] true]:=by rw [Nd.c_eq];rfl
 have hc:=tCheck_ok H.toHasT p
 have hi:=tItem_ok H.toHasV x
 rw [fnW_eq H.f501 rfl]
 unfold rndN rndE
 by_cases c1:most < 1
 · simp [w501,c1,hz]
 · by_cases c2:64 < most
   · simp [w501,c1,c2,hz]
   · by_cases c3:tcnt p=0
     · rw [c3] at hc
       simp at hc
       simp [w501,c1,c2,c3,hc,hz,H.inl,inlB,H.pp,ppB]
     · rw [if_neg c3] at hc
       cases c4:itOk2 x
       · rw [c4] at hi
         simp at hi
         simp [w501,c1,c2,c3,hc,hi,hz,H.inl,inlB,H.pp,ppB]
       · rw [c4] at hi
         simp at hi
         have hk1:=tcnt_k c3
         have hmk:=make_ok H x hk (itOk2_m c4) [p] true (by simp) (by simpa using tcnt_okp hf c3)
         have hq:mks x [p]=[mkN x p]:=by unfold mkN;rw [mks,mks,mk_eq,if_pos hk1];rfl
         rw [hq] at hmk
         have hn:=count_ok H.toHasM (mkN x p)
         generalize hN:mkN x p=N at *
         generalize cnt N=K at *
         simp at hmk
         by_cases c5:K=0
         · subst c5
           simp [w501,c1,c2,c3,hc,hi,hz,hmk,hn,H.inl,inlB,H.pp,ppB]
         · by_cases c6:most < K
           · simp [w501,c1,c2,c3,hc,hi,hz,hmk,hn,c5,c6,H.inl,inlB,H.pp,ppB]
           · simp [w501,c1,c2,c3,hc,hi,hz,hmk,hn,c5,c6,H.inl,inlB,H.pp,ppB]
theorem rRender_ok (H:HasZ C) (p:Pt) (hf:FitsAll p) (x:It) (hk:0≤x.k∧x.k < 18446744073709551616) (most:Int) :
 FnW C 425 [.agg p.c,eIt x,.int .i64 most]=some (.tup [.agg (rndR p x most).c,.int .i64 (rndE p x most)]):=by
 have hz:zN.c=[.int .u8 0,.str [],.str [],.ro 2 [] true,.str [],.ro 6 [] true]:=by rw [Nd.c_eq];rfl
 have hc:=trCheck_ok H.toHasU p hf
 have hi:=rItem_ok H.toHasV x
 rw [fnW_eq H.f425 rfl]
 unfold rndR rndE
 by_cases c1:most < 1
 · simp [w425,c1,hz]
 · by_cases c2:64 < most
   · simp [w425,c1,c2,hz]
   · by_cases c3:tcnt p=0
     · rw [c3] at hc
       simp at hc
       simp [w425,c1,c2,c3,hc,hz,H.inl,inlB,H.pp,ppB]
     · rw [if_neg c3] at hc
       cases c4:itOk2 x
       · rw [c4] at hi
         simp at hi
         simp [w425,c1,c2,c3,hc,hi,hz,H.inl,inlB,H.pp,ppB]
       · rw [c4] at hi
         simp at hi
         have hk1:=tcnt_k c3
         have ho:=tcnt_okp hf c3
         have hmk:=made_ok H x hk (itOk2_m c4) p ho
         have hq:md x p=[mdN x p]:=by unfold mdN;rw [md_eq,if_neg (by omega),if_neg (by omega),if_neg (by omega),if_neg (by omega)];rfl
         rw [hq] at hmk
         have hn:=rCount_ok H.toHasR (mdN x p)
         have hn2:=rCheck_ok H.toHasR (mdN x p)
         have hcz:cnt (mkN x p)=cnt (mdN x p):=by rw [← cnt_z,mkN_z x p ho,cnt_z]
         rw [hcz]
         generalize hN:mdN x p=N at *
         generalize cnt N=K at *
         simp at hmk
         by_cases c5:K=0
         · subst c5
           simp at hn2
           simp [w425,c1,c2,c3,hc,hi,hz,hmk,hn,hn2,H.inl,inlB,H.pp,ppB]
         · simp [c5] at hn2
           by_cases c6:most < K
           · simp [w425,c1,c2,c3,hc,hi,hz,hmk,hn,hn2,c5,c6,H.inl,inlB,H.pp,ppB]
           · simp [w425,c1,c2,c3,hc,hi,hz,hmk,hn,hn2,c5,c6,H.inl,inlB,H.pp,ppB]
end Go.D
end
section
namespace Go.D
open Go Go.Pav Go.Pw P
structure Kd where
 p:Pt
 b:Int
 st:Bool
 pl:Int
structure En where
 i:It
 s:Int
 kn:Bool
@[simp] def eKd (k:Kd):List AV:=[.int .u8 k.p.k,.str k.p.t,.str k.p.y,.ro 3 (k.p.s.map eSl) k.p.se,.str k.p.x,.ro 6 (k.p.ch.map Pt.c) k.p.ce,.int .i64 k.b,.bool k.st,.int .i64 k.pl]
@[simp] def cIt (i:It):List AV:=[.int .u64 i.k,.int .u8 i.t,.str i.x,.ro 1 (i.m.map eS) i.e]
@[simp] def eEn (e:En):List AV:=[.int .u64 e.i.k,.int .u8 e.i.t,.str e.i.x,.ro 1 (e.i.m.map eS) e.i.e,.int .i64 e.s,.bool e.kn]
abbrev aR (ks:List Kd) (ke:Bool) (cap:Int):AV:=.agg [.ro 9 (ks.map eKd) ke,.int .i64 cap]
abbrev aL (l:List En) (e:Bool):AV:=.agg [.ro 6 (l.map eEn) e]
abbrev aE (e:En):AV:=.agg (eEn e)
structure ItIn (i:It):Prop where
 k:0≤i.k∧i.k < 18446744073709551616
 t:0≤i.t∧i.t≤255
 m:i.m.length≤1000000
structure EnIn (e:En):Prop where
 i:ItIn e.i
 s:-9223372036854775808≤e.s∧e.s≤9223372036854775807
structure RuIn (ks:List Kd):Prop where
 n:ks.length≤1000000
 f:∀ k ∈ ks,FitsAll k.p
def hOk (n:Int):Bool:=decide (1≤n)&&decide (n≤2305843009213693952)
def kdOk (k:Kd):Bool:=hOk k.b&&decide (tcnt k.p≠0)
def ruOk (ks:List Kd) (cap:Int):Bool:=decide (1≤ks.length)&&decide (ks.length≤8)&&decide (1≤cap)&&decide (cap≤64)&&ks.all kdOk
def zP:Pt:=⟨0,[],[],[],true,[],[],true⟩
def kdAt (ks:List Kd) (t:Int):Kd:=(ks[t.toNat]?).getD ⟨zP,0,false,0⟩
def itE (ks:List Kd) (cap:Int) (x:It) (seen:Bool):Int :=
 if itOk ks.length x=false then 6 else if seen=true then 8 else if rndE (kdAt ks x.t).p x cap=0 then 0 else 14
def enE (ks:List Kd) (cap:Int) (e:En) (seen:Bool):Int :=
 if itE ks cap e.i seen≠0 then itE ks cap e.i seen else if hOk e.s=true∧(e.kn=true∨e.s=(kdAt ks e.i.t).b) then 0 else 12
def chk (ks:List Kd) (cap:Int):List Int→List En→Int
 | _,[]=>0
 | seen,e::r=>if enE ks cap e (seen.contains e.i.k)≠0 then enE ks cap e (seen.contains e.i.k) else chk ks cap (seen++[e.i.k]) r
def totG:Int→List En→Int
 | sum,[]=>sum
 | sum,e::r=>if 4611686018427387904 - sum < imax e.s 0 then 4611686018427387905 else totG (sum+imax e.s 0) r
def tot (l:List En):Int:=totG 0 l
def ovE (l:List En):Int:=if 4611686018427387904 < tot l then 13 else 0
def ckE (ks:List Kd) (cap:Int) (l:List En):Int :=
 if ruOk ks cap=false then 7 else if 1024 < l.length then 3 else if chk ks cap [] l≠0 then chk ks cap [] l else ovE l
def It.own (i:It):It:={ i with e:=true }
def En.own (e:En):En:={ e with i:=e.i.own }
def fre (ks:List Kd) (x:It):En:=⟨x,(kdAt ks x.t).b,false⟩
end Go.D
end
section
end
section
namespace Go.D
open Go Go.Pav Go.Pw P
attribute [-simp] List.getElem_cons_drop
variable {C:WProg}
structure HasL (C:WProg):Prop extends HasS C where
 f225:C.fns.get 225=some w225
 f111:C.fns.get 111=some w111
 f227:C.fns.get 227=some w227
 f240:C.fns.get 240=some w240
 f423:C.fns.get 423=some w423
theorem height_ok (H:HasL C) (n:Int):FnW C 225 [.int .i64 n]=some (.bool (hOk n)):=by
 rw [fnW_eq H.f225 rfl]
 unfold hOk
 by_cases c1:1≤n <;> by_cases c2:n≤2305843009213693952 <;> simp [w225,c1,c2]
theorem imax_bd (s:Int) (h1:-9223372036854775808≤s) (h2:s≤9223372036854775807):0≤imax s 0∧imax s 0≤9223372036854775807:=by
 unfold imax;split <;> omega
theorem tot_loop (H:HasL C) (l:List En) (e:Bool) (hl:l.length≤1000000) (hs:∀ x ∈ l,-9223372036854775808≤x.s∧x.s≤9223372036854775807):∀ n i,n+i=l.length→∀ sum:Int,0≤sum→sum≤4611686018427387904 →
 w111_K0 C ⟨[(10,.int .i64 i),(9,.int .i64 l.length),(8,.ro 6 (l.map eEn) e),(3,.int .i64 sum)],[],0⟩=some (.int .i64 (totG sum (l.drop i))):=by
 intro n
 induction n with
 | zero =>
  intro i hi sum s1 s2
  simp only [w111_K0];rw [ck_unf w111_B0.eq_1]
  have h1:l.drop i=[]:=List.drop_eq_nil_of_le (by omega)
  have h3:¬ i < l.length:=by omega
  simp [ck_unf w111_c0.eq_1,h1,h3,totG]
 | succ n ih =>
  intro i hi sum s1 s2
  have h1:i < l.length:=by omega
  have hb:=imax_bd l[i].s (hs _ (List.getElem_mem h1)).1 (hs _ (List.getElem_mem h1)).2
  rw [drop_cons h1,totG]
  generalize hM:imax l[i].s 0=M at *
  by_cases c:4611686018427387904 - sum < M
  · rw [if_pos c]
    simp only [w111_K0];rw [ck_unf w111_B0.eq_1]
    simp (disch:=omega) [h1,wI64,hM,c]
  · rw [if_neg c]
    have:=ih (i+1) (by omega) (sum+M) (by omega) (by omega)
    simp only [w111_K0] at this ⊢;rw [ck_unf w111_B0.eq_1]
    simp at this
    simp (disch:=omega) [h1,wI64,hM,c,this]
theorem totW_ok (H:HasL C) (l:List En) (e:Bool) (hl:l.length≤1000000) (hs:∀ x ∈ l,-9223372036854775808≤x.s∧x.s≤9223372036854775807):FnW C 111 [aL l e]=some (.int .i64 (tot l)):=by
 have h:=tot_loop H l e hl hs l.length 0 (by simp) 0 (by omega) (by omega)
 simp only [w111_K0] at h
 simp at h
 rw [fnW_eq H.f111 rfl]
 unfold tot
 simp [w111,h]
theorem tot_ok (H:HasL C) (l:List En) (e:Bool) (hl:l.length≤1000000) (hs:∀ x ∈ l,EnIn x):FnW C 111 [aL l e]=some (.int .i64 (tot l)):=totW_ok H l e hl fun x hx=>(hs x hx).s
theorem total_ok (H:HasL C) (l:List En) (e:Bool) (hl:l.length≤1000000) (hs:∀ x ∈ l,EnIn x):FnW C 227 [aL l e]=some (.int .i64 (ovE l)):=by
 have h:=tot_ok H l e hl hs
 rw [fnW_eq H.f227 rfl]
 unfold ovE
 by_cases c:4611686018427387904 < tot l <;> simp [w227,h,H.inl,inlB,H.pp,ppB,c]
def fndI (k:Int):Nat→List It→Int
 | _,[]=>-1
 | i,x::r=>if x.k=k then i else fndI k (i+1) r
theorem ifind_loop (H:HasL C) (l:List It) (e:Bool) (k:Int) (hl:l.length≤1000000):∀ n i,n+i=l.length →
 w423_K0 C ⟨[(5,.int .i64 i),(1,.int .u64 k),(0,.ro 4 (l.map cIt) e)],[],0⟩=some (.int .i64 (fndI k i (l.drop i))):=by
 intro n
 induction n with
 | zero =>
  intro i hi
  simp only [w423_K0];rw [ck_unf w423_B0.eq_1]
  have h1:l.drop i=[]:=List.drop_eq_nil_of_le (by omega)
  have h3:¬ i < l.length:=by omega
  simp (disch:=omega) [ck_unf w423_c0.eq_1,h1,h3,fndI]
 | succ n ih =>
  intro i hi
  have h1:i < l.length:=by omega
  have:=ih (i+1) (by omega)
  rw [drop_cons h1,fndI]
  by_cases c:l[i].k=k
  · rw [if_pos c]
    simp only [w423_K0];rw [ck_unf w423_B0.eq_1]
    simp (disch:=omega) [h1,wI64,c]
  · rw [if_neg c]
    simp only [w423_K0] at this ⊢;rw [ck_unf w423_B0.eq_1]
    simp at this
    simp (disch:=omega) [h1,wI64,c,this]
theorem ifind_ok (H:HasL C) (l:List It) (e:Bool) (k:Int) (hl:l.length≤1000000):FnW C 423 [.ro 4 (l.map cIt) e,.int .u64 k]=some (.int .i64 (fndI k 0 l)):=by
 have h:=ifind_loop H l e k hl l.length 0 (by simp)
 simp only [w423_K0] at h
 simp at h
 rw [fnW_eq H.f423 rfl]
 simp [w423,h]
end Go.D
end
section
namespace Go.D
open Go Go.Pav Go.Pw P
attribute [-simp] List.getElem_cons_drop
variable {C:WProg}
section
variable {β:Type} {base:Nat} {fin:Ex × WSt→Option β} {K:List Pw.Frame} {a:Ann} {l:List COper} {d:Option Nat} {e:Env} {n:Nat}
end
end Go.D
end
section
namespace Go.D
open Go Go.Pav Go.Pw P
attribute [-simp] List.getElem_cons_drop
variable {C:WProg}
structure HasK (C:WProg):Prop extends HasZ C,HasL C where
 f399:C.fns.get 399=some w399
 f230:C.fns.get 230=some w230
 f405:C.fns.get 405=some w405
 f232:C.fns.get 232=some w232
 f115:C.fns.get 115=some w115
 f271:C.fns.get 271=some w271
 f223:C.fns.get 223=some w223
theorem kdAt_get {ks:List Kd} {t:Nat} (h:t < ks.length):kdAt ks t=ks[t]:=by
 unfold kdAt;simp [h]
theorem itOk_t {n:Int} {x:It} (h:itOk n x=true):x.t < n:=by
 unfold itOk at h;simp at h;exact h.1.1.2
theorem rrender_ok (H:HasK C) (ks:List Kd) (ke:Bool) (cap:Int) (x:It) (hx:ItIn x) (ht:x.t < ks.length) (hr:RuIn ks) :
 FnW C 399 [aR ks ke cap,eIt x]=some (.tup [.agg (rndN (kdAt ks x.t).p x cap).c,.int .i64 (rndE (kdAt ks x.t).p x cap)]):=by
 obtain ⟨t,hT⟩:∃ t:Nat,x.t=t:=⟨x.t.toNat,by have:=hx.t;omega⟩
 have h1:t < ks.length:=by omega
 have h:=render_ok H.toHasZ ks[t].p (hr.f _ (List.getElem_mem h1)) x hx.k cap
 rw [hT,kdAt_get h1]
 rw [fnW_eq H.f399 rfl]
 generalize (rndN ks[t].p x cap)=N at *
 generalize rndE ks[t].p x cap=E at *
 rw [Pt.c_eq] at h
 simp only [eIt,hT] at h
 simp (disch:=omega) [w399,hT,h1,h,H.inl,inlB,H.pp,ppB]
theorem bad_ok (H:HasK C) (k:Kd):FnW C 230 [.agg (eKd k)]=some (.bool (!kdOk k)):=by
 have h1:=height_ok H.toHasL k.b
 have h2:=tCheck_ok H.toHasT k.p
 rw [Pt.c_eq] at h2
 rw [fnW_eq H.f230 rfl]
 unfold kdOk
 generalize hOk k.b=X at *
 cases X
 · simp [w230,h1,H.inl,inlB,H.pp,ppB]
 · by_cases c:tcnt k.p=0
   · simp [c] at h2
     simp [w230,h1,h2,c,H.inl,inlB,H.pp,ppB]
   · simp [c] at h2
     simp [w230,h1,h2,c,H.inl,inlB,H.pp,ppB]
theorem indexK_loop (H:HasK C) (ks:List Kd) (e:Bool) (hl:ks.length≤1000000):∀ n i,n+i=ks.length →
 ∃ v:Int,w405_K0 C ⟨[(8,.int .i64 i),(7,.int .i64 ks.length),(1,.fn 230 []),(0,.ro 9 (ks.map eKd) e)],[],0⟩=some (.int .i64 v)∧decide (v < 0)=(ks.drop i).all kdOk:=by
 intro n
 induction n with
 | zero =>
  intro i hi
  simp only [w405_K0];rw [ck_unf w405_B0.eq_1]
  have h1:ks.drop i=[]:=List.drop_eq_nil_of_le (by omega)
  have h3:¬ i < ks.length:=by omega
  exact ⟨-1,by simp (disch:=omega) [ck_unf w405_c0.eq_1,h1,h3],by simp [h1]⟩
 | succ n ih =>
  intro i hi
  have h1:i < ks.length:=by omega
  have hb:=bad_ok H ks[i]
  simp only [eKd] at hb
  rw [drop_cons h1]
  cases c:kdOk ks[i]
  · refine ⟨i,?_,by simp [c]⟩
    rw [c] at hb
    simp only [w405_K0];rw [ck_unf w405_B0.eq_1]
    simp (disch:=omega) [h1,hb,H.inl,inlB,H.pp,ppB]
  · obtain ⟨v,hv,hq⟩:=ih (i+1) (by omega)
    refine ⟨v,?_,by simp [hq,c]⟩
    rw [c] at hb
    simp only [w405_K0] at hv ⊢;rw [ck_unf w405_B0.eq_1]
    simp at hv
    simp (disch:=omega) [h1,wI64,hb,H.inl,inlB,H.pp,ppB,hv]
theorem containsK_ok (H:HasK C) (ks:List Kd) (e:Bool) (hl:ks.length≤1000000):FnW C 232 [.ro 9 (ks.map eKd) e,.fn 230 []]=some (.bool (!ks.all kdOk)):=by
 obtain ⟨v,h,q⟩:=indexK_loop H ks e hl ks.length 0 (by simp)
 simp only [w405_K0] at h
 simp at h
 have h2:FnW C 405 [.ro 9 (ks.map eKd) e,.fn 230 []]=some (.int .i64 v):=by
  rw [fnW_eq H.f405 rfl]
  simp [w405,h]
 rw [fnW_eq H.f232 rfl]
 rw [List.drop_zero] at q
 rw [← q]
 by_cases c:v < 0
 · have c':¬ 0≤v:=by omega
   simp [w232,H.inl,inlB,H.pp,ppB,h2,c,c']
 · have c':0≤v:=by omega
   simp [w232,H.inl,inlB,H.pp,ppB,h2,c,c']
theorem valid_ok (H:HasK C) (ks:List Kd) (ke:Bool) (cap:Int) (hr:RuIn ks):FnW C 115 [aR ks ke cap]=some (.int .i64 (if ruOk ks cap=true then 0 else 7)):=by
 have h:=containsK_ok H ks ke hr.n
 have hl:=hr.n
 rw [fnW_eq H.f115 rfl]
 unfold ruOk
 by_cases c1:1≤ks.length
 · have c1':¬ ((ks.length:Int) < 1):=by omega
   by_cases c2:ks.length≤8
   · have c2':¬ (8 < (ks.length:Int)):=by omega
     by_cases c3:1≤cap
     · have c3':¬ cap < 1:=by omega
       by_cases c4:cap≤64
       · have c4':¬ 64 < cap:=by omega
         cases c5:ks.all kdOk
         · rw [c5] at h
           simp [w115,c1,c1',c2,c2',c3,c3',c4,c4',h,H.inl,inlB,H.pp,ppB]
         · rw [c5] at h
           simp [w115,c1,c1',c2,c2',c3,c3',c4,c4',h,H.inl,inlB,H.pp,ppB]
       · have c4':64 < cap:=by omega
         simp [w115,c1,c1',c2,c2',c3,c3',c4,c4']
     · have c3':cap < 1:=by omega
       simp [w115,c1,c1',c2,c2',c3,c3']
   · have c2':(8 < (ks.length:Int)):=by omega
     simp [w115,c1,c1',c2,c2']
 · have c1':((ks.length:Int) < 1):=by omega
   simp [w115,c1,c1']
theorem ritem_ok (H:HasK C) (ks:List Kd) (ke:Bool) (cap:Int) (x:It) (hx:ItIn x) (hr:RuIn ks) (seen:Bool) :
 FnW C 271 [aR ks ke cap,eIt x,.int .i64 (if seen=true then 1 else 0)]=some (.int .i64 (itE ks cap x seen)):=by
 have hc:=rcheck_ok H.toHasI x ks.length hx.t hx.m
 rw [fnW_eq H.f271 rfl]
 unfold itE
 cases c1:itOk ks.length x
 · rw [c1] at hc
   simp at hc
   simp [w271,hc,H.inl,inlB,H.pp,ppB]
 · rw [c1] at hc
   cases seen
   · have ht:=itOk_t c1
     obtain ⟨t,hT⟩:∃ t:Nat,x.t=t:=⟨x.t.toNat,by have:=hx.t;omega⟩
     have h1:t < ks.length:=by omega
     have h:=rRender_ok H.toHasZ ks[t].p (hr.f _ (List.getElem_mem h1)) x hx.k cap
     rw [hT,kdAt_get h1]
     have hE:0≤rndE ks[t].p x cap:=by unfold rndE;repeat (first | omega | split)
     generalize (rndR ks[t].p x cap)=N at *
     generalize rndE ks[t].p x cap=E at *
     rw [Pt.c_eq] at h
     simp only [eIt,hT] at h hc
     by_cases c:E=0
     · subst c
       simp at hc
       simp (disch:=omega) [w271,hc,hT,h1,h,H.inl,inlB,H.pp,ppB]
     · have c':0 < E:=by omega
       simp at hc
       simp (disch:=omega) [w271,hc,hT,h1,h,c,c',H.inl,inlB,H.pp,ppB]
   · simp at hc
     simp [w271,hc,H.inl,inlB,H.pp,ppB]
def kmap (s:List Int):List (AV × AV):=s.map fun k=>(.int .u64 k,.bool true)
theorem kmap_nil:kmap []=[]:=rfl
theorem kmap_get (k:Int):∀ s:List Int,mapGet (kmap s) (.int .u64 k)=some (if s.contains k=true then some (.bool true) else none)
 | []=>rfl
 | a::r=>by
  have ih:=kmap_get k r
  unfold kmap at ih ⊢
  rw [List.map_cons,mapGet]
  simp only [eqCell,if_true,ob]
  by_cases c:k=a
  · subst c;simp
  · simp [c,ih]
theorem kmap_put (k:Int):∀ s:List Int,s.contains k=false→mapPut (kmap s) (.int .u64 k) (.bool true)=some (kmap (s++[k]))
 | [],_=>rfl
 | a::r,h=>by
  simp at h
  have ih:=kmap_put k r (by simpa using h.2)
  unfold kmap at ih ⊢
  rw [List.map_cons,mapPut]
  simp only [eqCell,if_true,ob]
  simp [h.1,ih,om]
abbrev keysE (l:List En):List Int:=l.map fun e=>e.i.k
theorem check_loop (H:HasK C) (ks:List Kd) (ke:Bool) (cap:Int) (hr:RuIn ks) (l:List En) (e:Bool) (hl:l.length≤1000000) (hs:∀ x ∈ l,EnIn x):∀ n i,n+i=l.length→∀ seen:List Int,
 w223_K0 C ⟨[(25,.int .i64 i),(24,.int .i64 l.length),(23,.ro 6 (l.map eEn) e),(6,.map 0),(3,.ptr 1 0 0),(2,.ptr 2 0 0)],[(0,.map (kmap seen)),(1,.cells 1 [[.ro 6 (l.map eEn) e]] true true),(2,.cells 2 [[.ro 9 (ks.map eKd) ke,.int .i64 cap]] true true)],3⟩ =
  some (.int .i64 (if chk ks cap seen (l.drop i)≠0 then chk ks cap seen (l.drop i) else ovE l)):=by
 intro n
 induction n with
 | zero =>
  intro i hi seen
  have ht:=total_ok H.toHasL l e hl hs
  simp only [w223_K0];rw [ck_unf w223_B0.eq_1]
  have h1:l.drop i=[]:=List.drop_eq_nil_of_le (by omega)
  have h3:¬ i < l.length:=by omega
  simp (disch:=omega) [ck_unf w223_c0.eq_1,h1,h3,chk,ht,H.inl,inlB,H.pp,ppB]
 | succ n ih =>
  intro i hi seen
  have h1:i < l.length:=by omega
  have hx:=hs _ (List.getElem_mem h1)
  have hc:=icheck_ok H.toHasI l[i].i ks.length hx.i.t
  have hg:=kmap_get l[i].i.k seen
  rw [drop_cons h1,chk]
  cases c1:itOk ks.length l[i].i
  · have hE:enE ks cap l[i] (seen.contains l[i].i.k)=6:=by unfold enE itE;simp [c1]
    rw [hE]
    rw [c1] at hc
    simp at hc
    simp only [w223_K0];rw [ck_unf w223_B0.eq_1]
    simp (disch:=omega) [h1,hc,H.inl,inlB,H.pp,ppB]
  · rw [c1] at hc
    simp at hc
    cases c2:seen.contains l[i].i.k
    · have ht:=itOk_t c1
      obtain ⟨t,hT⟩:∃ t:Nat,l[i].i.t=t:=⟨l[i].i.t.toNat,by have:=hx.i.t;omega⟩
      have h2:t < ks.length:=by omega
      have hp:=kmap_put l[i].i.k seen c2
      have hre:=rrender_ok H ks ke cap l[i].i hx.i ht hr
      have hh:=height_ok H.toHasL l[i].s
      have this:=ih (i+1) (by omega) (seen++[l[i].i.k])
      rw [c2] at hg
      simp only [aR,eIt] at hre
      have hk:=kdAt_get h2
      have hE:enE ks cap l[i] false=if rndE ks[t].p l[i].i cap=0 then (if hOk l[i].s=true∧(l[i].kn=true∨l[i].s=ks[t].b) then 0 else 12) else 14:=by
       unfold enE itE
       rw [c1,hT,hk]
       by_cases q:rndE ks[t].p l[i].i cap=0 <;> simp [q]
      simp only [eIt,hT,hk] at hc hre
      generalize rndN ks[t].p l[i].i cap=N at *
      generalize rndE ks[t].p l[i].i cap=E at *
      by_cases c3:E=0
      · subst c3
        cases c4:hOk l[i].s
        · rw [c4] at hh
          have hE':enE ks cap l[i] false=12:=by rw [hE];simp [c4]
          rw [hE']
          simp only [w223_K0];rw [ck_unf w223_B0.eq_1]
          simp (disch:=omega) [h1,h2,hT,hc,hg,hp,hre,hh,H.inl,inlB,H.pp,ppB]
        · rw [c4] at hh
          cases c5:l[i].kn
          · by_cases c6:l[i].s=ks[t].b
            · have hE':enE ks cap l[i] false=0:=by rw [hE,if_pos rfl,if_pos ⟨c4,.inr c6⟩]
              rw [hE']
              simp only [w223_K0] at this ⊢;rw [ck_unf w223_B0.eq_1]
              generalize chk ks cap (seen++[l[i].i.k]) (List.drop (i+1) l)=Z at *
              simp at this
              simp (disch:=omega) [h1,h2,hT,hc,hg,hp,hre,hh,c5,eq_true c6,wI64,H.inl,inlB,H.pp,ppB,this]
            · have hE':enE ks cap l[i] false=12:=by rw [hE];simp [c5,c6]
              rw [hE']
              simp only [w223_K0];rw [ck_unf w223_B0.eq_1]
              simp (disch:=omega) [h1,h2,hT,hc,hg,hp,hre,hh,c5,c6,H.inl,inlB,H.pp,ppB]
          · have hE':enE ks cap l[i] false=0:=by rw [hE];simp [c4,c5]
            rw [hE']
            simp only [w223_K0] at this ⊢;rw [ck_unf w223_B0.eq_1]
            generalize chk ks cap (seen++[l[i].i.k]) (List.drop (i+1) l)=Z at *
            simp at this
            simp (disch:=omega) [h1,h2,hT,hc,hg,hp,hre,hh,c5,wI64,H.inl,inlB,H.pp,ppB,this]
      · have hE':enE ks cap l[i] false=14:=by rw [hE];simp [c3]
        rw [hE']
        simp only [w223_K0];rw [ck_unf w223_B0.eq_1]
        simp (disch:=omega) [h1,h2,hT,hc,hg,hp,hre,c3,H.inl,inlB,H.pp,ppB]
    · have hE:enE ks cap l[i] true=8:=by unfold enE itE;simp [c1]
      rw [hE]
      rw [c2] at hg
      simp only [w223_K0];rw [ck_unf w223_B0.eq_1]
      simp (disch:=omega) [h1,hc,hg,H.inl,inlB,H.pp,ppB]
theorem lcheck_ok (H:HasK C) (ks:List Kd) (ke:Bool) (cap:Int) (hr:RuIn ks) (l:List En) (e:Bool) (hl:l.length≤1000000) (hs:∀ x ∈ l,EnIn x) :
 FnW C 223 [aR ks ke cap,aL l e]=some (.int .i64 (ckE ks cap l)):=by
 have hv:=valid_ok H ks ke cap hr
 have h:=check_loop H ks ke cap hr l e hl hs l.length 0 (by simp) []
 rw [List.drop_zero,kmap_nil] at h
 rw [fnW_eq H.f223 rfl]
 unfold ckE
 generalize (if chk ks cap [] l≠0 then chk ks cap [] l else ovE l)=R at *
 simp only [w223_K0] at h
 simp at h
 cases c1:ruOk ks cap
 · rw [c1] at hv
   simp at hv
   simp [w223,hv,H.inl,inlB,H.pp,ppB]
 · rw [c1] at hv
   simp at hv
   by_cases c2:1024 < l.length
   · have c2':1024 < (l.length:Int):=by omega
     simp [w223,hv,c2,c2',H.inl,inlB,H.pp,ppB]
   · have c2':¬ 1024 < (l.length:Int):=by omega
     simp [w223,hv,c2,c2',h,H.inl,inlB,H.pp,ppB]
end Go.D
end
