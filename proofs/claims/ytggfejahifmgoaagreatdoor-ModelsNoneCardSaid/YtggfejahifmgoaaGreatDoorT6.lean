/- Part of the theory that the claims of this work use: L24, PwGlue, PwGlue2, G00, GL, PwOrc, PwRun, X01, X02, X03. No conditions of its own. -/
import Derived.Test.YtggfejahifmgoaaGreatDoorT5
import Derived.Test.YtggfejahifmgoaaGreatDoorChecked
import Derived.KernelRfl
import Derived.ChangeSame
import Derived.ChangeArms
import Derived.ReadAgain
import Derived.Handed
import Derived.JoinedOf
import Derived.RowKit
import Derived.Test.YtggfejahifmgoaaGreatDoorRows
import Derived.ProofKit
import Derived.LaidLaws
import Derived.LaidHandle
import Derived.Stop.Joined
set_option linter.unusedVariables false
set_option linter.unusedSimpArgs false
set_option maxHeartbeats 4000000
set_option maxRecDepth 10000
section
set_option maxRecDepth 100000
namespace P
open Go Go.Pav Go.Pw Go.Proofs
theorem l0 {lay:Nat→Option Obj}:FnOk Tryz.prog lay ids alts 0 (erFn w0):=.inl ⟨Tryz.f2,Tryz.func2,by kernel_rfl⟩
theorem l99 {lay:Nat→Option Obj}:FnOk Tryz.prog lay ids alts 99 (erFn w99):=.inl ⟨Tryz.f178,Tryz.func178,by kernel_rfl⟩
theorem l108 {lay:Nat→Option Obj}:FnOk Tryz.prog lay ids alts 108 (erFn w108):=.inl ⟨Tryz.f249,Tryz.func249,by kernel_rfl⟩
theorem l109 {lay:Nat→Option Obj}:FnOk Tryz.prog lay ids alts 109 (erFn w109):=.inl ⟨Tryz.f242,Tryz.func242,by kernel_rfl⟩
theorem l110 {lay:Nat→Option Obj}:FnOk Tryz.prog lay ids alts 110 (erFn w110):=.inl ⟨Tryz.f40,Tryz.func40,by kernel_rfl⟩
theorem l111 {lay:Nat→Option Obj}:FnOk Tryz.prog lay ids alts 111 (erFn w111):=.inl ⟨Tryz.f105,Tryz.func105,by kernel_rfl⟩
theorem l113 {lay:Nat→Option Obj}:FnOk Tryz.prog lay ids alts 113 (erFn w113):=.inl ⟨Tryz.f148,Tryz.func148,by kernel_rfl⟩
theorem l114 {lay:Nat→Option Obj}:FnOk Tryz.prog lay ids alts 114 (erFn w114):=.inl ⟨Tryz.f247,Tryz.func247,by kernel_rfl⟩
theorem l115 {lay:Nat→Option Obj}:FnOk Tryz.prog lay ids alts 115 (erFn w115):=.inl ⟨Tryz.f53,Tryz.func53,by kernel_rfl⟩
theorem l120 {lay:Nat→Option Obj}:FnOk Tryz.prog lay ids alts 120 (erFn w120):=.inl ⟨Tryz.f106,Tryz.func106,by kernel_rfl⟩
theorem l121 {lay:Nat→Option Obj}:FnOk Tryz.prog lay ids alts 121 (erFn w121):=.inl ⟨Tryz.f78,Tryz.func78,by kernel_rfl⟩
theorem l122 {lay:Nat→Option Obj}:FnOk Tryz.prog lay ids alts 122 (erFn w122):=.inl ⟨Tryz.f142,Tryz.func142,by kernel_rfl⟩
theorem l125 {lay:Nat→Option Obj}:FnOk Tryz.prog lay ids alts 125 (erFn w125):=.inl ⟨Tryz.f44,Tryz.func44,by kernel_rfl⟩
theorem l127 {lay:Nat→Option Obj}:FnOk Tryz.prog lay ids alts 127 (erFn w127):=.inl ⟨Tryz.f20,Tryz.func20,by kernel_rfl⟩
theorem l132 {lay:Nat→Option Obj}:FnOk Tryz.prog lay ids alts 132 (erFn w132):=.inl ⟨Tryz.f74,Tryz.func74,by kernel_rfl⟩
theorem l134 {lay:Nat→Option Obj}:FnOk Tryz.prog lay ids alts 134 (erFn w134):=.inl ⟨Tryz.f42,Tryz.func42,by kernel_rfl⟩
theorem l138 {lay:Nat→Option Obj}:FnOk Tryz.prog lay ids alts 138 (erFn w138):=.inl ⟨Tryz.f28,Tryz.func28,by kernel_rfl⟩
theorem l139 {lay:Nat→Option Obj}:FnOk Tryz.prog lay ids alts 139 (erFn w139):=.inl ⟨Tryz.f115,Tryz.func115,by kernel_rfl⟩
theorem l140 {lay:Nat→Option Obj}:FnOk Tryz.prog lay ids alts 140 (erFn w140):=.inl ⟨Tryz.f166,Tryz.func166,by kernel_rfl⟩
theorem l160 {lay:Nat→Option Obj}:FnOk Tryz.prog lay ids alts 160 (erFn w160):=.inl ⟨Tryz.f65,Tryz.func65,by kernel_rfl⟩
theorem l161 {lay:Nat→Option Obj}:FnOk Tryz.prog lay ids alts 161 (erFn w161):=.inl ⟨Tryz.f188,Tryz.func188,by kernel_rfl⟩
theorem l171 {lay:Nat→Option Obj}:FnOk Tryz.prog lay ids alts 171 (erFn w171):=.inl ⟨Tryz.f146,Tryz.func146,by kernel_rfl⟩
theorem l174 {lay:Nat→Option Obj}:FnOk Tryz.prog lay ids alts 174 (erFn w174):=.inl ⟨Tryz.f114,Tryz.func114,by kernel_rfl⟩
theorem l192 {lay:Nat→Option Obj}:FnOk Tryz.prog lay ids alts 192 (erFn w192):=.inl ⟨Tryz.f213,Tryz.func213,by kernel_rfl⟩
theorem l201 {lay:Nat→Option Obj}:FnOk Tryz.prog lay ids alts 201 (erFn w201):=.inl ⟨Tryz.f103,Tryz.func103,by kernel_rfl⟩
theorem l216 {lay:Nat→Option Obj}:FnOk Tryz.prog lay ids alts 216 (erFn w216):=.inl ⟨Tryz.f69,Tryz.func69,by kernel_rfl⟩
theorem l217 {lay:Nat→Option Obj}:FnOk Tryz.prog lay ids alts 217 (erFn w217):=.inl ⟨Tryz.f258,Tryz.func258,by kernel_rfl⟩
theorem l218 {lay:Nat→Option Obj}:FnOk Tryz.prog lay ids alts 218 (erFn w218):=.inl ⟨Tryz.f263,Tryz.func263,by kernel_rfl⟩
theorem l219 {lay:Nat→Option Obj}:FnOk Tryz.prog lay ids alts 219 (erFn w219):=.inl ⟨Tryz.f70,Tryz.func70,by kernel_rfl⟩
theorem l220 {lay:Nat→Option Obj}:FnOk Tryz.prog lay ids alts 220 (erFn w220):=.inl ⟨Tryz.f259,Tryz.func259,by kernel_rfl⟩
theorem l221 {lay:Nat→Option Obj}:FnOk Tryz.prog lay ids alts 221 (erFn w221):=.inl ⟨Tryz.f72,Tryz.func72,by kernel_rfl⟩
theorem l222 {lay:Nat→Option Obj}:FnOk Tryz.prog lay ids alts 222 (erFn w222):=.inl ⟨Tryz.f71,Tryz.func71,by kernel_rfl⟩
theorem l223 {lay:Nat→Option Obj}:FnOk Tryz.prog lay ids alts 223 (erFn w223):=.inl ⟨Tryz.f73,Tryz.func73,by kernel_rfl⟩
theorem l224 {lay:Nat→Option Obj}:FnOk Tryz.prog lay ids alts 224 (erFn w224):=.inl ⟨Tryz.f145,Tryz.func145,by kernel_rfl⟩
theorem l225 {lay:Nat→Option Obj}:FnOk Tryz.prog lay ids alts 225 (erFn w225):=.inl ⟨Tryz.f92,Tryz.func92,by kernel_rfl⟩
theorem l226 {lay:Nat→Option Obj}:FnOk Tryz.prog lay ids alts 226 (erFn w226):=.inl ⟨Tryz.f118,Tryz.func118,by kernel_rfl⟩
theorem l227 {lay:Nat→Option Obj}:FnOk Tryz.prog lay ids alts 227 (erFn w227):=.inl ⟨Tryz.f120,Tryz.func120,by kernel_rfl⟩
theorem l228 {lay:Nat→Option Obj}:FnOk Tryz.prog lay ids alts 228 (erFn w228):=.inl ⟨Tryz.f261,Tryz.func261,by kernel_rfl⟩
theorem l229 {lay:Nat→Option Obj}:FnOk Tryz.prog lay ids alts 229 (erFn w229):=.inl ⟨Tryz.f262,Tryz.func262,by kernel_rfl⟩
theorem l230 {lay:Nat→Option Obj}:FnOk Tryz.prog lay ids alts 230 (erFn w230):=.inl ⟨Tryz.f91,Tryz.func91,by kernel_rfl⟩
theorem l231 {lay:Nat→Option Obj}:FnOk Tryz.prog lay ids alts 231 (erFn w231):=.inl ⟨Tryz.f93,Tryz.func93,by kernel_rfl⟩
theorem l232 {lay:Nat→Option Obj}:FnOk Tryz.prog lay ids alts 232 (erFn w232):=.inl ⟨Tryz.f32,Tryz.func32,by kernel_rfl⟩
theorem l237 {lay:Nat→Option Obj}:FnOk Tryz.prog lay ids alts 237 (erFn w237):=.inl ⟨Tryz.f245,Tryz.func245,by kernel_rfl⟩
theorem l238 {lay:Nat→Option Obj}:FnOk Tryz.prog lay ids alts 238 (erFn w238):=.inl ⟨Tryz.f123,Tryz.func123,by kernel_rfl⟩
theorem l246 {lay:Nat→Option Obj}:FnOk Tryz.prog lay ids alts 246 (erFn w246):=.inl ⟨Tryz.f104,Tryz.func104,by kernel_rfl⟩
theorem l247 {lay:Nat→Option Obj}:FnOk Tryz.prog lay ids alts 247 (erFn w247):=.inl ⟨Tryz.f122,Tryz.func122,by kernel_rfl⟩
theorem l248 {lay:Nat→Option Obj}:FnOk Tryz.prog lay ids alts 248 (erFn w248):=.inl ⟨Tryz.f121,Tryz.func121,by kernel_rfl⟩
theorem l249 {lay:Nat→Option Obj}:FnOk Tryz.prog lay ids alts 249 (erFn w249):=.inl ⟨Tryz.f179,Tryz.func179,by kernel_rfl⟩
theorem l250 {lay:Nat→Option Obj}:FnOk Tryz.prog lay ids alts 250 (erFn w250):=.inl ⟨Tryz.f180,Tryz.func180,by kernel_rfl⟩
theorem l260 {lay:Nat→Option Obj}:FnOk Tryz.prog lay ids alts 260 (erFn w260):=.inl ⟨Tryz.f43,Tryz.func43,by kernel_rfl⟩
theorem l262 {lay:Nat→Option Obj}:FnOk Tryz.prog lay ids alts 262 (erFn w262):=.inl ⟨Tryz.f79,Tryz.func79,by kernel_rfl⟩
theorem l263 {lay:Nat→Option Obj}:FnOk Tryz.prog lay ids alts 263 (erFn w263):=.inl ⟨Tryz.f80,Tryz.func80,by kernel_rfl⟩
theorem l264 {lay:Nat→Option Obj}:FnOk Tryz.prog lay ids alts 264 (erFn w264):=.inl ⟨Tryz.f81,Tryz.func81,by kernel_rfl⟩
theorem l265 {lay:Nat→Option Obj}:FnOk Tryz.prog lay ids alts 265 (erFn w265):=.inl ⟨Tryz.f82,Tryz.func82,by kernel_rfl⟩
theorem l273 {lay:Nat→Option Obj}:FnOk Tryz.prog lay ids alts 273 (erFn w273):=.inl ⟨Tryz.f75,Tryz.func75,by kernel_rfl⟩
theorem l274 {lay:Nat→Option Obj}:FnOk Tryz.prog lay ids alts 274 (erFn w274):=.inl ⟨Tryz.f76,Tryz.func76,by kernel_rfl⟩
theorem l276 {lay:Nat→Option Obj}:FnOk Tryz.prog lay ids alts 276 (erFn w276):=.inl ⟨Tryz.f220,Tryz.func220,by kernel_rfl⟩
theorem l277 {lay:Nat→Option Obj}:FnOk Tryz.prog lay ids alts 277 (erFn w277):=.inl ⟨Tryz.f31,Tryz.func31,by kernel_rfl⟩
theorem l278 {lay:Nat→Option Obj}:FnOk Tryz.prog lay ids alts 278 (erFn w278):=.inl ⟨Tryz.f83,Tryz.func83,by kernel_rfl⟩
theorem l279 {lay:Nat→Option Obj}:FnOk Tryz.prog lay ids alts 279 (erFn w279):=.inl ⟨Tryz.f54,Tryz.func54,by kernel_rfl⟩
theorem l280 {lay:Nat→Option Obj}:FnOk Tryz.prog lay ids alts 280 (erFn w280):=.inl ⟨Tryz.f152,Tryz.func152,by kernel_rfl⟩
theorem l281 {lay:Nat→Option Obj}:FnOk Tryz.prog lay ids alts 281 (erFn w281):=.inl ⟨Tryz.f84,Tryz.func84,by kernel_rfl⟩
theorem l282 {lay:Nat→Option Obj}:FnOk Tryz.prog lay ids alts 282 (erFn w282):=.inl ⟨Tryz.f202,Tryz.func202,by kernel_rfl⟩
theorem l286 {lay:Nat→Option Obj}:FnOk Tryz.prog lay ids alts 286 (erFn w286):=.inl ⟨Tryz.f22,Tryz.func22,by kernel_rfl⟩
theorem l289 {lay:Nat→Option Obj}:FnOk Tryz.prog lay ids alts 289 (erFn w289):=.inl ⟨Tryz.f192,Tryz.func192,by kernel_rfl⟩
theorem l290 {lay:Nat→Option Obj}:FnOk Tryz.prog lay ids alts 290 (erFn w290):=.inl ⟨Tryz.f46,Tryz.func46,by kernel_rfl⟩
theorem l313 {lay:Nat→Option Obj}:FnOk Tryz.prog lay ids alts 313 (erFn w313):=.inl ⟨Tryz.f181,Tryz.func181,by kernel_rfl⟩
theorem l315 {lay:Nat→Option Obj}:FnOk Tryz.prog lay ids alts 315 (erFn w315):=.inl ⟨Tryz.f144,Tryz.func144,by kernel_rfl⟩
theorem l318 {lay:Nat→Option Obj}:FnOk Tryz.prog lay ids alts 318 (erFn w318):=.inl ⟨Tryz.f187,Tryz.func187,by kernel_rfl⟩
theorem l322 {lay:Nat→Option Obj}:FnOk Tryz.prog lay ids alts 322 (erFn w322):=.inl ⟨Tryz.f214,Tryz.func214,by kernel_rfl⟩
theorem l323 {lay:Nat→Option Obj}:FnOk Tryz.prog lay ids alts 323 (erFn w323):=.inl ⟨Tryz.f218,Tryz.func218,by kernel_rfl⟩
theorem l324 {lay:Nat→Option Obj}:FnOk Tryz.prog lay ids alts 324 (erFn w324):=.inr (Go.Proofs.H28.after_prim _ _ rfl).rule
theorem l336 {lay:Nat→Option Obj}:FnOk Tryz.prog lay ids alts 336 (erFn w336):=.inl ⟨Tryz.f215,Tryz.func215,by kernel_rfl⟩
theorem l340 {lay:Nat→Option Obj}:FnOk Tryz.prog lay ids alts 340 (erFn w340):=.inl ⟨Tryz.f161,Tryz.func161,by kernel_rfl⟩
theorem l343 {lay:Nat→Option Obj}:FnOk Tryz.prog lay ids alts 343 (erFn w343):=.inl ⟨Tryz.f184,Tryz.func184,by kernel_rfl⟩
theorem l344 {lay:Nat→Option Obj}:FnOk Tryz.prog lay ids alts 344 (erFn w344):=.inl ⟨Tryz.f149,Tryz.func149,by kernel_rfl⟩
theorem l351 {lay:Nat→Option Obj}:FnOk Tryz.prog lay ids alts 351 (erFn w351):=.inl ⟨Tryz.f190,Tryz.func190,by kernel_rfl⟩
theorem l367 {lay:Nat→Option Obj}:FnOk Tryz.prog lay ids alts 367 (erFn w367):=.inl ⟨Tryz.f240,Tryz.func240,by kernel_rfl⟩
theorem l379 {lay:Nat→Option Obj}:FnOk Tryz.prog lay ids alts 379 (erFn w379):=.inl ⟨Tryz.f141,Tryz.func141,by kernel_rfl⟩
theorem l398 {lay:Nat→Option Obj}:FnOk Tryz.prog lay ids alts 398 (erFn w398):=.inl ⟨Tryz.f116,Tryz.func116,by kernel_rfl⟩
theorem l399 {lay:Nat→Option Obj}:FnOk Tryz.prog lay ids alts 399 (erFn w399):=.inl ⟨Tryz.f117,Tryz.func117,by kernel_rfl⟩
theorem l400 {lay:Nat→Option Obj}:FnOk Tryz.prog lay ids alts 400 (erFn w400):=.inl ⟨Tryz.f119,Tryz.func119,by kernel_rfl⟩
theorem l401 {lay:Nat→Option Obj}:FnOk Tryz.prog lay ids alts 401 (erFn w401):=.inl ⟨Tryz.f267,Tryz.func267,by kernel_rfl⟩
theorem l402 {lay:Nat→Option Obj}:FnOk Tryz.prog lay ids alts 402 (erFn w402):=.inl ⟨Tryz.f182,Tryz.func182,by kernel_rfl⟩
theorem l403 {lay:Nat→Option Obj}:FnOk Tryz.prog lay ids alts 403 (erFn w403):=.inl ⟨Tryz.f183,Tryz.func183,by kernel_rfl⟩
theorem l404 {lay:Nat→Option Obj}:FnOk Tryz.prog lay ids alts 404 (erFn w404):=.inl ⟨Tryz.f130,Tryz.func130,by kernel_rfl⟩
theorem l405 {lay:Nat→Option Obj}:FnOk Tryz.prog lay ids alts 405 (erFn w405):=.inl ⟨Tryz.f55,Tryz.func55,by kernel_rfl⟩
theorem l409 {lay:Nat→Option Obj}:FnOk Tryz.prog lay ids alts 409 (erFn w409):=.inl ⟨Tryz.f260,Tryz.func260,by kernel_rfl⟩
theorem l411 {lay:Nat→Option Obj}:FnOk Tryz.prog lay ids alts 411 (erFn w411):=.inl ⟨Tryz.f162,Tryz.func162,by kernel_rfl⟩
theorem l412 {lay:Nat→Option Obj}:FnOk Tryz.prog lay ids alts 412 (erFn w412):=.inl ⟨Tryz.f163,Tryz.func163,by kernel_rfl⟩
theorem l415 {lay:Nat→Option Obj}:FnOk Tryz.prog lay ids alts 415 (erFn w415):=.inl ⟨Tryz.f77,Tryz.func77,by kernel_rfl⟩
theorem l418 {lay:Nat→Option Obj}:FnOk Tryz.prog lay ids alts 418 (erFn w418):=.inl ⟨Tryz.f124,Tryz.func124,by kernel_rfl⟩
theorem l426 {lay:Nat→Option Obj}:FnOk Tryz.prog lay ids alts 426 (erFn w426):=.inl ⟨Tryz.f250,Tryz.func250,by kernel_rfl⟩
theorem l427 {lay:Nat→Option Obj}:FnOk Tryz.prog lay ids alts 427 (erFn w427):=.inl ⟨Tryz.f52,Tryz.func52,by kernel_rfl⟩
theorem l428 {lay:Nat→Option Obj}:FnOk Tryz.prog lay ids alts 428 (erFn w428):=.inl ⟨Tryz.f125,Tryz.func125,by kernel_rfl⟩
theorem l429 {lay:Nat→Option Obj}:FnOk Tryz.prog lay ids alts 429 (erFn w429):=.inl ⟨Tryz.f126,Tryz.func126,by kernel_rfl⟩
theorem l430 {lay:Nat→Option Obj}:FnOk Tryz.prog lay ids alts 430 (erFn w430):=.inl ⟨Tryz.f127,Tryz.func127,by kernel_rfl⟩
theorem l432 {lay:Nat→Option Obj}:FnOk Tryz.prog lay ids alts 432 (erFn w432):=.inl ⟨Tryz.f85,Tryz.func85,by kernel_rfl⟩
theorem l433 {lay:Nat→Option Obj}:FnOk Tryz.prog lay ids alts 433 (erFn w433):=.inl ⟨Tryz.f231,Tryz.func231,by kernel_rfl⟩
theorem l434 {lay:Nat→Option Obj}:FnOk Tryz.prog lay ids alts 434 (erFn w434):=.inl ⟨Tryz.f232,Tryz.func232,by kernel_rfl⟩
theorem l437 {lay:Nat→Option Obj}:FnOk Tryz.prog lay ids alts 437 (erFn w437):=.inl ⟨Tryz.f45,Tryz.func45,by kernel_rfl⟩
theorem l438 {lay:Nat→Option Obj}:FnOk Tryz.prog lay ids alts 438 (erFn w438):=.inl ⟨Tryz.f223,Tryz.func223,by kernel_rfl⟩
theorem l439 {lay:Nat→Option Obj}:FnOk Tryz.prog lay ids alts 439 (erFn w439):=.inl ⟨Tryz.f164,Tryz.func164,by kernel_rfl⟩
theorem l457 {lay:Nat→Option Obj}:FnOk Tryz.prog lay ids alts 457 (erFn w457):=.inl ⟨Tryz.f216,Tryz.func216,by kernel_rfl⟩
theorem l459 {lay:Nat→Option Obj}:FnOk Tryz.prog lay ids alts 459 (erFn w459):=.inl ⟨Tryz.f198,Tryz.func198,by kernel_rfl⟩
theorem l460 {lay:Nat→Option Obj}:FnOk Tryz.prog lay ids alts 460 (erFn w460):=.inl ⟨Tryz.f199,Tryz.func199,by kernel_rfl⟩
theorem l464 {lay:Nat→Option Obj}:FnOk Tryz.prog lay ids alts 464 (erFn w464):=.inl ⟨Tryz.f186,Tryz.func186,by kernel_rfl⟩
theorem l466 {lay:Nat→Option Obj}:FnOk Tryz.prog lay ids alts 466 (erFn w466):=.inl ⟨Tryz.f221,Tryz.func221,by kernel_rfl⟩
theorem l467 {lay:Nat→Option Obj}:FnOk Tryz.prog lay ids alts 467 (erFn w467):=.inl ⟨Tryz.f222,Tryz.func222,by kernel_rfl⟩
theorem l494 {lay:Nat→Option Obj}:FnOk Tryz.prog lay ids alts 494 (erFn w494):=.inl ⟨Tryz.f153,Tryz.func153,by kernel_rfl⟩
theorem l495 {lay:Nat→Option Obj}:FnOk Tryz.prog lay ids alts 495 (erFn w495):=.inl ⟨Tryz.f154,Tryz.func154,by kernel_rfl⟩
theorem l496 {lay:Nat→Option Obj}:FnOk Tryz.prog lay ids alts 496 (erFn w496):=.inl ⟨Tryz.f155,Tryz.func155,by kernel_rfl⟩
theorem l497 {lay:Nat→Option Obj}:FnOk Tryz.prog lay ids alts 497 (erFn w497):=.inl ⟨Tryz.f156,Tryz.func156,by kernel_rfl⟩
theorem l498 {lay:Nat→Option Obj}:FnOk Tryz.prog lay ids alts 498 (erFn w498):=.inl ⟨Tryz.f157,Tryz.func157,by kernel_rfl⟩
theorem l499 {lay:Nat→Option Obj}:FnOk Tryz.prog lay ids alts 499 (erFn w499):=.inl ⟨Tryz.f158,Tryz.func158,by kernel_rfl⟩
theorem l500 {lay:Nat→Option Obj}:FnOk Tryz.prog lay ids alts 500 (erFn w500):=.inl ⟨Tryz.f159,Tryz.func159,by kernel_rfl⟩
theorem l501 {lay:Nat→Option Obj}:FnOk Tryz.prog lay ids alts 501 (erFn w501):=.inl ⟨Tryz.f160,Tryz.func160,by kernel_rfl⟩
theorem l502 {lay:Nat→Option Obj}:FnOk Tryz.prog lay ids alts 502 (erFn w502):=.inl ⟨Tryz.f169,Tryz.func169,by kernel_rfl⟩
theorem l503 {lay:Nat→Option Obj}:FnOk Tryz.prog lay ids alts 503 (erFn w503):=.inl ⟨Tryz.f170,Tryz.func170,by kernel_rfl⟩
theorem l507 {lay:Nat→Option Obj}:FnOk Tryz.prog lay ids alts 507 (erFn w507):=.inl ⟨Tryz.f165,Tryz.func165,by kernel_rfl⟩
theorem l514 {lay:Nat→Option Obj}:FnOk Tryz.prog lay ids alts 514 (erFn w514):=.inl ⟨Tryz.f167,Tryz.func167,by kernel_rfl⟩
theorem l515 {lay:Nat→Option Obj}:FnOk Tryz.prog lay ids alts 515 (erFn w515):=.inl ⟨Tryz.f128,Tryz.func128,by kernel_rfl⟩
theorem l516 {lay:Nat→Option Obj}:FnOk Tryz.prog lay ids alts 516 (erFn w516):=.inl ⟨Tryz.f253,Tryz.func253,by kernel_rfl⟩
theorem l517 {lay:Nat→Option Obj}:FnOk Tryz.prog lay ids alts 517 (erFn w517):=.inl ⟨Tryz.f254,Tryz.func254,by kernel_rfl⟩
theorem l518 {lay:Nat→Option Obj}:FnOk Tryz.prog lay ids alts 518 (erFn w518):=.inl ⟨Tryz.f255,Tryz.func255,by kernel_rfl⟩
theorem l519 {lay:Nat→Option Obj}:FnOk Tryz.prog lay ids alts 519 (erFn w519):=.inl ⟨Tryz.f256,Tryz.func256,by kernel_rfl⟩
theorem l526 {lay:Nat→Option Obj}:FnOk Tryz.prog lay ids alts 526 (erFn w526):=.inl ⟨Tryz.f241,Tryz.func241,by kernel_rfl⟩
theorem l527 {lay:Nat→Option Obj}:FnOk Tryz.prog lay ids alts 527 (erFn w527):=.inl ⟨Tryz.f243,Tryz.func243,by kernel_rfl⟩
theorem l528 {lay:Nat→Option Obj}:FnOk Tryz.prog lay ids alts 528 (erFn w528):=.inl ⟨Tryz.f244,Tryz.func244,by kernel_rfl⟩
theorem l529 {lay:Nat→Option Obj}:FnOk Tryz.prog lay ids alts 529 (erFn w529):=.inl ⟨Tryz.f246,Tryz.func246,by kernel_rfl⟩
theorem l530 {lay:Nat→Option Obj}:FnOk Tryz.prog lay ids alts 530 (erFn w530):=.inl ⟨Tryz.f248,Tryz.func248,by kernel_rfl⟩
theorem l543 {lay:Nat→Option Obj}:FnOk Tryz.prog lay ids alts 543 (erFn w543):=.inl ⟨Tryz.f193,Tryz.func193,by kernel_rfl⟩
theorem l544 {lay:Nat→Option Obj}:FnOk Tryz.prog lay ids alts 544 (erFn w544):=.inl ⟨Tryz.f194,Tryz.func194,by kernel_rfl⟩
theorem l545 {lay:Nat→Option Obj}:FnOk Tryz.prog lay ids alts 545 (erFn w545):=.inl ⟨Tryz.f195,Tryz.func195,by kernel_rfl⟩
theorem l546 {lay:Nat→Option Obj}:FnOk Tryz.prog lay ids alts 546 (erFn w546):=.inl ⟨Tryz.f196,Tryz.func196,by kernel_rfl⟩
theorem l547 {lay:Nat→Option Obj}:FnOk Tryz.prog lay ids alts 547 (erFn w547):=.inl ⟨Tryz.f197,Tryz.func197,by kernel_rfl⟩
theorem l548 {lay:Nat→Option Obj}:FnOk Tryz.prog lay ids alts 548 (erFn w548):=.inl ⟨Tryz.f204,Tryz.func204,by kernel_rfl⟩
theorem l549 {lay:Nat→Option Obj}:FnOk Tryz.prog lay ids alts 549 (erFn w549):=.inl ⟨Tryz.f205,Tryz.func205,by kernel_rfl⟩
theorem l553 {lay:Nat→Option Obj}:FnOk Tryz.prog lay ids alts 553 (erFn w553):=.inl ⟨Tryz.f200,Tryz.func200,by kernel_rfl⟩
theorem l554 {lay:Nat→Option Obj}:FnOk Tryz.prog lay ids alts 554 (erFn w554):=.inl ⟨Tryz.f201,Tryz.func201,by kernel_rfl⟩
theorem l560 {lay:Nat→Option Obj}:FnOk Tryz.prog lay ids alts 560 (erFn w560):=.inl ⟨Tryz.f264,Tryz.func264,by kernel_rfl⟩
theorem l561 {lay:Nat→Option Obj}:FnOk Tryz.prog lay ids alts 561 (erFn w561):=.inl ⟨Tryz.f265,Tryz.func265,by kernel_rfl⟩
theorem l562 {lay:Nat→Option Obj}:FnOk Tryz.prog lay ids alts 562 (erFn w562):=.inl ⟨Tryz.f266,Tryz.func266,by kernel_rfl⟩
theorem l578 {lay:Nat→Option Obj}:FnOk Tryz.prog lay ids alts 578 (erFn w578):=.inl ⟨Tryz.f224,Tryz.func224,by kernel_rfl⟩
theorem l579 {lay:Nat→Option Obj}:FnOk Tryz.prog lay ids alts 579 (erFn w579):=.inl ⟨Tryz.f225,Tryz.func225,by kernel_rfl⟩
theorem l580 {lay:Nat→Option Obj}:FnOk Tryz.prog lay ids alts 580 (erFn w580):=.inl ⟨Tryz.f226,Tryz.func226,by kernel_rfl⟩
theorem l581 {lay:Nat→Option Obj}:FnOk Tryz.prog lay ids alts 581 (erFn w581):=.inl ⟨Tryz.f227,Tryz.func227,by kernel_rfl⟩
theorem l582 {lay:Nat→Option Obj}:FnOk Tryz.prog lay ids alts 582 (erFn w582):=.inl ⟨Tryz.f228,Tryz.func228,by kernel_rfl⟩
theorem l583 {lay:Nat→Option Obj}:FnOk Tryz.prog lay ids alts 583 (erFn w583):=.inl ⟨Tryz.f229,Tryz.func229,by kernel_rfl⟩
theorem l584 {lay:Nat→Option Obj}:FnOk Tryz.prog lay ids alts 584 (erFn w584):=.inl ⟨Tryz.f230,Tryz.func230,by kernel_rfl⟩
theorem l585 {lay:Nat→Option Obj}:FnOk Tryz.prog lay ids alts 585 (erFn w585):=.inl ⟨Tryz.f236,Tryz.func236,by kernel_rfl⟩
theorem l592 {lay:Nat→Option Obj}:FnOk Tryz.prog lay ids alts 592 (erFn w592):=.inl ⟨Tryz.f251,Tryz.func251,by kernel_rfl⟩
theorem l593 {lay:Nat→Option Obj}:FnOk Tryz.prog lay ids alts 593 (erFn w593):=.inl ⟨Tryz.f252,Tryz.func252,by kernel_rfl⟩
theorem l632 {lay:Nat→Option Obj}:FnOk Tryz.prog lay ids alts 632 (erFn w632):=.inl ⟨Tryz.f4,Tryz.func4,by kernel_rfl⟩
theorem l634 {lay:Nat→Option Obj}:FnOk Tryz.prog lay ids alts 634 (erFn w634):=.inl ⟨Tryz.f6,Tryz.func6,by kernel_rfl⟩
theorem l636 {lay:Nat→Option Obj}:FnOk Tryz.prog lay ids alts 636 (erFn w636):=.inl ⟨Tryz.f8,Tryz.func8,by kernel_rfl⟩
theorem l637 {lay:Nat→Option Obj}:FnOk Tryz.prog lay ids alts 637 (erFn w637):=.inl ⟨Tryz.f9,Tryz.func9,by kernel_rfl⟩
theorem l638 {lay:Nat→Option Obj}:FnOk Tryz.prog lay ids alts 638 (erFn w638):=.inl ⟨Tryz.f10,Tryz.func10,by kernel_rfl⟩
theorem l639 {lay:Nat→Option Obj}:FnOk Tryz.prog lay ids alts 639 (erFn w639):=.inl ⟨Tryz.f11,Tryz.func11,by kernel_rfl⟩
theorem l642 {lay:Nat→Option Obj}:FnOk Tryz.prog lay ids alts 642 (erFn w642):=.inl ⟨Tryz.f14,Tryz.func14,by kernel_rfl⟩
theorem l643 {lay:Nat→Option Obj}:FnOk Tryz.prog lay ids alts 643 (erFn w643):=.inl ⟨Tryz.f15,Tryz.func15,by kernel_rfl⟩
theorem l644 {lay:Nat→Option Obj}:FnOk Tryz.prog lay ids alts 644 (erFn w644):=.inl ⟨Tryz.f16,Tryz.func16,by kernel_rfl⟩
theorem l645 {lay:Nat→Option Obj}:FnOk Tryz.prog lay ids alts 645 (erFn w645):=.inl ⟨Tryz.f17,Tryz.func17,by kernel_rfl⟩
theorem l646 {lay:Nat→Option Obj}:FnOk Tryz.prog lay ids alts 646 (erFn w646):=.inl ⟨Tryz.f18,Tryz.func18,by kernel_rfl⟩
theorem l647 {lay:Nat→Option Obj}:FnOk Tryz.prog lay ids alts 647 (erFn w647):=.inl ⟨Tryz.f19,Tryz.func19,by kernel_rfl⟩
theorem l648 {lay:Nat→Option Obj}:FnOk Tryz.prog lay ids alts 648 (erFn w648):=.inl ⟨Tryz.f21,Tryz.func21,by kernel_rfl⟩
theorem l649 {lay:Nat→Option Obj}:FnOk Tryz.prog lay ids alts 649 (erFn w649):=.inl ⟨Tryz.f23,Tryz.func23,by kernel_rfl⟩
theorem l650 {lay:Nat→Option Obj}:FnOk Tryz.prog lay ids alts 650 (erFn w650):=.inl ⟨Tryz.f24,Tryz.func24,by kernel_rfl⟩
theorem l651 {lay:Nat→Option Obj}:FnOk Tryz.prog lay ids alts 651 (erFn w651):=.inl ⟨Tryz.f25,Tryz.func25,by kernel_rfl⟩
theorem l652 {lay:Nat→Option Obj}:FnOk Tryz.prog lay ids alts 652 (erFn w652):=.inl ⟨Tryz.f26,Tryz.func26,by kernel_rfl⟩
theorem l653 {lay:Nat→Option Obj}:FnOk Tryz.prog lay ids alts 653 (erFn w653):=.inl ⟨Tryz.f29,Tryz.func29,by kernel_rfl⟩
theorem l654 {lay:Nat→Option Obj}:FnOk Tryz.prog lay ids alts 654 (erFn w654):=.inl ⟨Tryz.f30,Tryz.func30,by kernel_rfl⟩
theorem l657 {lay:Nat→Option Obj} (hl:Go.Proofs.H33.AsLay lay):FnOk Tryz.prog lay ids alts 657 (erFn w657):=.inr (Go.Proofs.H33.as_rule rfl hl)
theorem l658 {lay:Nat→Option Obj}:FnOk Tryz.prog lay ids alts 658 (erFn w658):=.inl ⟨Tryz.f39,Tryz.func39,by kernel_rfl⟩
theorem l659 {lay:Nat→Option Obj}:FnOk Tryz.prog lay ids alts 659 (erFn w659):=.inl ⟨Tryz.f41,Tryz.func41,by kernel_rfl⟩
theorem l662 {lay:Nat→Option Obj}:FnOk Tryz.prog lay ids alts 662 (erFn w662):=.inl ⟨Tryz.f51,Tryz.func51,by kernel_rfl⟩
theorem l664 {lay:Nat→Option Obj}:FnOk Tryz.prog lay ids alts 664 (erFn w664):=.inl ⟨Tryz.f63,Tryz.func63,by kernel_rfl⟩
theorem l665 {lay:Nat→Option Obj}:FnOk Tryz.prog lay ids alts 665 (erFn w665):=.inl ⟨Tryz.f64,Tryz.func64,by kernel_rfl⟩
theorem l666 {lay:Nat→Option Obj}:FnOk Tryz.prog lay ids alts 666 (erFn w666):=.inl ⟨Tryz.f66,Tryz.func66,by kernel_rfl⟩
theorem l667 {lay:Nat→Option Obj}:FnOk Tryz.prog lay ids alts 667 (erFn w667):=.inl ⟨Tryz.f67,Tryz.func67,by kernel_rfl⟩
theorem l668 {lay:Nat→Option Obj}:FnOk Tryz.prog lay ids alts 668 (erFn w668):=.inl ⟨Tryz.f68,Tryz.func68,by kernel_rfl⟩
theorem l669 {lay:Nat→Option Obj}:FnOk Tryz.prog lay ids alts 669 (erFn w669):=.inl ⟨Tryz.f87,Tryz.func87,by kernel_rfl⟩
theorem l670 {lay:Nat→Option Obj}:FnOk Tryz.prog lay ids alts 670 (erFn w670):=.inl ⟨Tryz.f88,Tryz.func88,by kernel_rfl⟩
theorem l673 {lay:Nat→Option Obj}:FnOk Tryz.prog lay ids alts 673 (erFn w673):=.inl ⟨Tryz.f107,Tryz.func107,by kernel_rfl⟩
theorem l674 {lay:Nat→Option Obj}:FnOk Tryz.prog lay ids alts 674 (erFn w674):=.inl ⟨Tryz.f108,Tryz.func108,by kernel_rfl⟩
theorem l675 {lay:Nat→Option Obj}:FnOk Tryz.prog lay ids alts 675 (erFn w675):=.inl ⟨Tryz.f109,Tryz.func109,by kernel_rfl⟩
theorem l676 {lay:Nat→Option Obj}:FnOk Tryz.prog lay ids alts 676 (erFn w676):=.inl ⟨Tryz.f110,Tryz.func110,by kernel_rfl⟩
theorem l677 {lay:Nat→Option Obj}:FnOk Tryz.prog lay ids alts 677 (erFn w677):=.inl ⟨Tryz.f111,Tryz.func111,by kernel_rfl⟩
theorem l678 {lay:Nat→Option Obj}:FnOk Tryz.prog lay ids alts 678 (erFn w678):=.inl ⟨Tryz.f112,Tryz.func112,by kernel_rfl⟩
theorem l679 {lay:Nat→Option Obj}:FnOk Tryz.prog lay ids alts 679 (erFn w679):=.inl ⟨Tryz.f113,Tryz.func113,by kernel_rfl⟩
theorem l680 {lay:Nat→Option Obj}:FnOk Tryz.prog lay ids alts 680 (erFn w680):=.inl ⟨Tryz.f143,Tryz.func143,by kernel_rfl⟩
theorem l2001 {lay:Nat→Option Obj}:FnOk Tryz.prog lay ids alts 2001 (erFn w226):=.inl ⟨Tryz.f118,Tryz.func118,by kernel_rfl⟩
theorem l2016 {lay:Nat→Option Obj}:FnOk Tryz.prog lay ids alts 2016 (erFn w97):=.inl ⟨Tryz.f140,Tryz.func140,by kernel_rfl⟩
theorem l2004 {lay:Nat→Option Obj}:FnOk Tryz.prog lay ids alts 2004 (erFn w2004):=.inl ⟨Tryz.f42,Tryz.func42,by kernel_rfl⟩
theorem l2005 {lay:Nat→Option Obj}:FnOk Tryz.prog lay ids alts 2005 (erFn w274):=.inl ⟨Tryz.f76,Tryz.func76,by kernel_rfl⟩
theorem l2006 {lay:Nat→Option Obj}:FnOk Tryz.prog lay ids alts 2006 (erFn w275):=.inl ⟨Tryz.f219,Tryz.func219,by kernel_rfl⟩
theorem l4002 {lay:Nat→Option Obj}:FnOk Tryz.prog lay ids alts 4002 (erFn w274):=.inl ⟨Tryz.f76,Tryz.func76,by kernel_rfl⟩
theorem l4001 {lay:Nat→Option Obj}:FnOk Tryz.prog lay ids alts 4001 (erFn w4001):=.inl ⟨Tryz.f189,Tryz.func189,by kernel_rfl⟩
theorem l3004 {lay:Nat→Option Obj}:FnOk Tryz.prog lay ids alts 3004 (erFn w226):=.inl ⟨Tryz.f118,Tryz.func118,by kernel_rfl⟩
theorem l3003 {lay:Nat→Option Obj}:FnOk Tryz.prog lay ids alts 3003 (erFn w3003):=.inl ⟨Tryz.f69,Tryz.func69,by kernel_rfl⟩
theorem l3002 {lay:Nat→Option Obj}:FnOk Tryz.prog lay ids alts 3002 (erFn w3002):=.inl ⟨Tryz.f40,Tryz.func40,by kernel_rfl⟩
theorem l3001 {lay:Nat→Option Obj}:FnOk Tryz.prog lay ids alts 3001 (erFn w3001):=.inl ⟨Tryz.f150,Tryz.func150,by kernel_rfl⟩
theorem l2019 {lay:Nat→Option Obj}:FnOk Tryz.prog lay ids alts 2019 (erFn w2019):=.inl ⟨Tryz.f151,Tryz.func151,by kernel_rfl⟩
theorem l1102 {lay:Nat→Option Obj}:FnOk Tryz.prog lay ids alts 1102 (erFn w102):=.inl ⟨Tryz.f211,Tryz.func211,by kernel_rfl⟩
theorem l1191 {lay:Nat→Option Obj}:FnOk Tryz.prog lay ids alts 1191 (erFn w191):=.inl ⟨Tryz.f212,Tryz.func212,by kernel_rfl⟩
theorem l1100 {lay:Nat→Option Obj}:FnOk Tryz.prog lay ids alts 1100 (erFn w1100):=.inl ⟨Tryz.f177,Tryz.func177,by kernel_rfl⟩
theorem l3661 {lay:Nat→Option Obj}:FnOk Tryz.prog lay ids alts 3661 (erFn w661):=.inl ⟨Tryz.f50,Tryz.func50,by kernel_rfl⟩
theorem l2660 {lay:Nat→Option Obj}:FnOk Tryz.prog lay ids alts 2660 (erFn w660):=.inl ⟨Tryz.f49,Tryz.func49,by kernel_rfl⟩
theorem l3672 {lay:Nat→Option Obj}:FnOk Tryz.prog lay ids alts 3672 (erFn w672):=.inl ⟨Tryz.f90,Tryz.func90,by kernel_rfl⟩
theorem l2671 {lay:Nat→Option Obj}:FnOk Tryz.prog lay ids alts 2671 (erFn w671):=.inl ⟨Tryz.f89,Tryz.func89,by kernel_rfl⟩
theorem l3008 {lay:Nat→Option Obj}:FnOk Tryz.prog lay ids alts 3008 (erFn w281):=.inl ⟨Tryz.f84,Tryz.func84,by kernel_rfl⟩
theorem l3009 {lay:Nat→Option Obj}:FnOk Tryz.prog lay ids alts 3009 (erFn w431):=.inl ⟨Tryz.f191,Tryz.func191,by kernel_rfl⟩
def prog:WProg:=⟨tree,Go.D.inlB,Go.D.ppB⟩
theorem all {lay:Nat→Option Obj} (hl:Go.Proofs.H33.AsLay lay):TreeAll (FnOk Tryz.prog lay ids alts) (erProg prog).fns:=⟨⟨⟨⟨⟨⟨⟨⟨trivial,l0,trivial⟩,l99,⟨trivial,l108,trivial⟩⟩,l109,⟨⟨trivial,l110,trivial⟩,l111,trivial⟩⟩,l113,⟨⟨⟨trivial,l114,trivial⟩,l115,⟨trivial,l120,trivial⟩⟩,l121,⟨⟨trivial,l122,trivial⟩,l125,trivial⟩⟩⟩,l127,⟨⟨⟨⟨trivial,l132,trivial⟩,l134,⟨trivial,l138,trivial⟩⟩,l139,⟨⟨trivial,l140,trivial⟩,l160,trivial⟩⟩,l161,⟨⟨⟨trivial,l171,trivial⟩,l174,trivial⟩,l192,⟨⟨trivial,l201,trivial⟩,l216,trivial⟩⟩⟩⟩,l217,⟨⟨⟨⟨⟨trivial,l218,trivial⟩,l219,⟨trivial,l220,trivial⟩⟩,l221,⟨⟨trivial,l222,trivial⟩,l223,trivial⟩⟩,l224,⟨⟨⟨trivial,l225,trivial⟩,l226,⟨trivial,l227,trivial⟩⟩,l228,⟨⟨trivial,l229,trivial⟩,l230,trivial⟩⟩⟩,l231,⟨⟨⟨⟨trivial,l232,trivial⟩,l237,⟨trivial,l238,trivial⟩⟩,l246,⟨⟨trivial,l247,trivial⟩,l248,trivial⟩⟩,l249,⟨⟨⟨trivial,l250,trivial⟩,l260,trivial⟩,l262,⟨⟨trivial,l263,trivial⟩,l264,trivial⟩⟩⟩⟩⟩,l265,⟨⟨⟨⟨⟨⟨trivial,l273,trivial⟩,l274,⟨trivial,l276,trivial⟩⟩,l277,⟨⟨trivial,l278,trivial⟩,l279,trivial⟩⟩,l280,⟨⟨⟨trivial,l281,trivial⟩,l282,⟨trivial,l286,trivial⟩⟩,l289,⟨⟨trivial,l290,trivial⟩,l313,trivial⟩⟩⟩,l315,⟨⟨⟨⟨trivial,l318,trivial⟩,l322,⟨trivial,l323,trivial⟩⟩,l324,⟨⟨trivial,l336,trivial⟩,l340,trivial⟩⟩,l343,⟨⟨⟨trivial,l344,trivial⟩,l351,trivial⟩,l367,⟨⟨trivial,l379,trivial⟩,l398,trivial⟩⟩⟩⟩,l399,⟨⟨⟨⟨⟨trivial,l400,trivial⟩,l401,⟨trivial,l402,trivial⟩⟩,l403,⟨⟨trivial,l404,trivial⟩,l405,trivial⟩⟩,l409,⟨⟨⟨trivial,l411,trivial⟩,l412,trivial⟩,l415,⟨⟨trivial,l418,trivial⟩,l426,trivial⟩⟩⟩,l427,⟨⟨⟨⟨trivial,l428,trivial⟩,l429,⟨trivial,l430,trivial⟩⟩,l432,⟨⟨trivial,l433,trivial⟩,l434,trivial⟩⟩,l437,⟨⟨⟨trivial,l438,trivial⟩,l439,trivial⟩,l457,⟨⟨trivial,l459,trivial⟩,l460,trivial⟩⟩⟩⟩⟩⟩,l464,⟨⟨⟨⟨⟨⟨⟨trivial,l466,trivial⟩,l467,⟨trivial,l494,trivial⟩⟩,l495,⟨⟨trivial,l496,trivial⟩,l497,trivial⟩⟩,l498,⟨⟨⟨trivial,l499,trivial⟩,l500,⟨trivial,l501,trivial⟩⟩,l502,⟨⟨trivial,l503,trivial⟩,l507,trivial⟩⟩⟩,l514,⟨⟨⟨⟨trivial,l515,trivial⟩,l516,⟨trivial,l517,trivial⟩⟩,l518,⟨⟨trivial,l519,trivial⟩,l526,trivial⟩⟩,l527,⟨⟨⟨trivial,l528,trivial⟩,l529,trivial⟩,l530,⟨⟨trivial,l543,trivial⟩,l544,trivial⟩⟩⟩⟩,l545,⟨⟨⟨⟨⟨trivial,l546,trivial⟩,l547,⟨trivial,l548,trivial⟩⟩,l549,⟨⟨trivial,l553,trivial⟩,l554,trivial⟩⟩,l560,⟨⟨⟨trivial,l561,trivial⟩,l562,trivial⟩,l578,⟨⟨trivial,l579,trivial⟩,l580,trivial⟩⟩⟩,l581,⟨⟨⟨⟨trivial,l582,trivial⟩,l583,⟨trivial,l584,trivial⟩⟩,l585,⟨⟨trivial,l592,trivial⟩,l593,trivial⟩⟩,l632,⟨⟨⟨trivial,l634,trivial⟩,l636,trivial⟩,l637,⟨⟨trivial,l638,trivial⟩,l639,trivial⟩⟩⟩⟩⟩,l642,⟨⟨⟨⟨⟨⟨trivial,l643,trivial⟩,l644,⟨trivial,l645,trivial⟩⟩,l646,⟨⟨trivial,l647,trivial⟩,l648,trivial⟩⟩,l649,⟨⟨⟨trivial,l650,trivial⟩,l651,⟨trivial,l652,trivial⟩⟩,l653,⟨⟨trivial,l654,trivial⟩,l657 hl,trivial⟩⟩⟩,l658,⟨⟨⟨⟨trivial,l659,trivial⟩,l662,⟨trivial,l664,trivial⟩⟩,l665,⟨⟨trivial,l666,trivial⟩,l667,trivial⟩⟩,l668,⟨⟨⟨trivial,l669,trivial⟩,l670,trivial⟩,l673,⟨⟨trivial,l674,trivial⟩,l675,trivial⟩⟩⟩⟩,l676,⟨⟨⟨⟨⟨trivial,l677,trivial⟩,l678,⟨trivial,l679,trivial⟩⟩,l680,⟨⟨trivial,l1100,trivial⟩,l1102,trivial⟩⟩,l1191,⟨⟨⟨trivial,l2001,trivial⟩,l2004,trivial⟩,l2005,⟨⟨trivial,l2006,trivial⟩,l2016,trivial⟩⟩⟩,l2019,⟨⟨⟨⟨trivial,l2660,trivial⟩,l2671,⟨trivial,l3001,trivial⟩⟩,l3002,⟨⟨trivial,l3003,trivial⟩,l3004,trivial⟩⟩,l3008,⟨⟨⟨trivial,l3009,trivial⟩,l3661,trivial⟩,l3672,⟨⟨trivial,l4001,trivial⟩,l4002,trivial⟩⟩⟩⟩⟩⟩⟩
theorem okT:okTree prog.fns=true:=by kernel_rfl
theorem link {lay:Nat→Option Obj} (hl:Go.Proofs.H33.AsLay lay):Linked Tryz.prog (phiG ids alts) ⟨psiOf ids,lay⟩ (erProg prog):=linked (by kernel_rfl) (by kernel_rfl) (all hl) (by kernel_rfl) (by kernel_rfl)
end P
end
section
namespace Go.Pw
open Go Go.Pav
inductive CT where
 | bool
 | int (k:IntKind)
 | str
 | slice (ts:List CT)
inductive Ty:CT→AV→Prop
 | bool (b:Bool):Ty .bool (.bool b)
 | int (k:IntKind) (n:Int) (h1:k.min≤n) (h2:n≤k.max):Ty (.int k) (.int k n)
 | str (s:List UInt8) (h:s.length < 2 ^ 63):Ty .str (.str s)
 | slice (ts:List CT) (es:List (List AV)) (ex:Bool) (hn:es.length < 2 ^ 63) (hw:∀ (i:Nat) (e:List AV),es[i]?=some e→e.length=ts.length)
  (h:∀ (i:Nat) (e:List AV) (j:Nat) (ct:CT) (x:AV),es[i]?=some e→ts[j]?=some ct→e[j]?=some x→Ty ct x):Ty (.slice ts) (.ro ts.length es ex)
theorem Ty.isC {ct:CT} {a:AV} (h:Ty ct a):Pw.isC a=true:=by cases h <;> rfl
def fieldsT (F:TypeId→Option (List CT)) (P:Program):List Field→Nat→Option (List CT)
 | [],_=>some []
 | f::r,off=>(F f.type).bind fun ts=>if f.offset=off∧ts.length=P.cellsOf f.type then (fieldsT F P r (off+ts.length)).map (ts++·) else none
def flatT (P:Program):Nat→TypeId→Option (List CT)
 | 0,_=>none
 | n+1,t=>match P.underlying t with
  | some .bool=>some [.bool]
  | some (.int k)=>some [.int k]
  | some .string=>some [.str]
  | some (.slice e)=>(flatT P n e).bind fun ts=>if ts.length=P.cellsOf e∧0 < ts.length then some [.slice ts] else none
  | some (.struct fs)=>(fieldsT (flatT P n) P fs.toList 0).bind fun ts=>if ts.length=P.cellsOf t then some ts else none
  | some (.array m e)=>(flatT P n e).bind fun ts=>if ts.length=P.cellsOf e∧m * ts.length=P.cellsOf t then some (List.replicate m ts).flatten else none
  | _=>none
theorem flatten_rep {α:Type} (ts:List α):∀ (m j:Nat),j < m * ts.length→(List.replicate m ts).flatten[j]?=ts[j % ts.length]?
 | 0,j,h=>by simp at h
 | m+1,j,h=>by
  rw [List.replicate_succ,List.flatten_cons]
  rcases Nat.lt_or_ge j ts.length with hl | hl
  · rw [List.getElem?_append_left hl,Nat.mod_eq_of_lt hl]
  · rw [List.getElem?_append_right hl,flatten_rep ts m (j - ts.length) (by rw [Nat.add_mul] at h;omega),Nat.mod_eq_sub_mod hl]
theorem trod_array {H:Type} {enc:TypeId × Value→H} {P:Program} {w:World} {base:Nat} {spare:Nat→Bool} {held:Bool} {fuel:Nat} {t:TypeId} {cs:List Value} {x:DataW H × List MemPlace} {m:Nat} {e:TypeId}
 (ht:P.underlying t=some (.array m e)) (h:DataW.trod enc P w base spare held fuel t cs=some x) :
 ∃ (xs:List (DataW H × List MemPlace)) (n:Nat),fuel=n+1∧cs.length=P.cellsOf t∧xs.length=m ∧
  ∀ i,i < m→DataW.trod enc P w base spare held n e ((cs.drop (i * P.cellsOf e)).take (P.cellsOf e))=xs[i]?:=by
 cases fuel with
 | zero=>simp [DataW.trod] at h
 | succ n =>
  unfold DataW.trod at h
  rw [ht] at h
  split at h <;> simp_all
  obtain ⟨hl,xs,hp,hd⟩:=h
  exact ⟨xs,by simpa using mapM_some_length hp,fun i hi=>mapM_some_get hp i i (List.getElem?_range hi)⟩
def CellOk (ψ:Psi) (W:World) (ct:CT) (v:Value):Prop :=
 ∃ a a',Ty ct a∧VD id (fun _=>False) a a'∧a'.cell=true∧VR ψ W (fun c=>c < W.heap.size) (fun _=>(0,0)) (fun _=>False) a' v
section
variable {H:Type} {enc:TypeId × Value→H} {P:Program} {W:World} {ψ:Psi}
theorem fields_open {F:TypeId→Option (List CT)} {n:Nat} {cs:List Value}
 (hF:∀ t cs x ts,F t=some ts→DataW.trod enc P W 0 (fun _=>true) true n t cs=some x→cs.length=ts.length∧∀ (j:Nat) (ct:CT),ts[j]?=some ct→∃ v,cs[j]?=some v∧CellOk ψ W ct v) :
 ∀ (fs:List Field) (off:Nat) (ts:List CT),fieldsT F P fs off=some ts→(∀ f ∈ fs,∃ x,DataW.trod enc P W 0 (fun _=>true) true n f.type ((cs.drop f.offset).take (P.cellsOf f.type))=some x) →
  ∀ (j:Nat) (ct:CT),ts[j]?=some ct→∃ v,cs[off+j]?=some v∧CellOk ψ W ct v:=by
 intro fs
 induction fs with
 | nil=>intro off ts h _ j ct hj;simp only [fieldsT,Option.some.injEq] at h;subst h;simp at hj
 | cons f r ih =>
  intro off ts h hx j ct hj
  simp only [fieldsT,Option.bind_eq_some_iff] at h
  obtain ⟨t1,h1,h⟩:=h
  split at h
  · rename_i hc
    simp only [Option.map_eq_some_iff] at h
    obtain ⟨t2,h2,rfl⟩:=h
    rcases Nat.lt_or_ge j t1.length with hl | hl
    · rw [List.getElem?_append_left hl] at hj
      obtain ⟨x,q⟩:=hx f (by simp)
      obtain ⟨v,q1,q2⟩:=(hF _ _ _ _ h1 q).2 j ct hj
      refine ⟨v,?_,q2⟩
      rw [List.getElem?_take] at q1
      split at q1
      · rw [List.getElem?_drop] at q1;rw [← hc.1];exact q1
      · cases q1
    · rw [List.getElem?_append_right hl] at hj
      obtain ⟨v,q1,q2⟩:=ih _ _ h2 (fun f hf=>hx f (by simp [hf])) _ ct hj
      exact ⟨v,by rw [← q1];congr 1;omega,q2⟩
  · cases h
theorem cells_open:∀ (n k:Nat) (t:TypeId) (cs:List Value) (x:DataW H × List MemPlace) (ts:List CT),flatT P k t=some ts→DataW.trod enc P W 0 (fun _=>true) true n t cs=some x →
 cs.length=ts.length∧∀ (j:Nat) (ct:CT),ts[j]?=some ct→∃ v,cs[j]?=some v∧CellOk ψ W ct v:=by
 intro n
 induction n with
 | zero=>intro k t cs x ts _ h;simp [DataW.trod] at h
 | succ n ih =>
  intro k t cs x ts hf h
  cases k with
  | zero=>simp [flatT] at hf
  | succ k =>
   have one:∀ {v:Value} {ct:CT},cs=[v]→ts=[ct]→CellOk ψ W ct v→cs.length=ts.length∧∀ (j:Nat) (ct:CT),ts[j]?=some ct→∃ v,cs[j]?=some v∧CellOk ψ W ct v:=by
    intro v ct h1 h2 h3
    subst h1;subst h2
    refine ⟨rfl,fun j ct' hj=>?_⟩
    cases j with
    | zero=>simp only [List.getElem?_cons_zero,Option.some.injEq] at hj;subst hj;exact ⟨v,rfl,h3⟩
    | succ j=>simp at hj
   unfold flatT at hf
   split at hf
   · rename_i ht
     cases hf
     obtain ⟨b,e,_⟩:=DataW.trod_bool ht h
     exact one e rfl ⟨_,_,.bool b,.bool b,rfl,.bool b⟩
   · rename_i k' ht
     cases hf
     obtain ⟨m,e,_,hw⟩:=DataW.trod_int ht h
     simp only [Lit.wf,Bool.and_eq_true,decide_eq_true_eq] at hw
     exact one e rfl ⟨_,_,.int k' m hw.1 hw.2,.int k' m,rfl,.int k' m⟩
   · rename_i ht
     cases hf
     obtain ⟨s,e,_,hw⟩:=DataW.trod_string ht h
     refine one e rfl ⟨.str s.data.toList,_,.str _ ?_,.str _,rfl,?_⟩
     · simp only [maxLen] at hw
       have:s.data.toList.length=s.size:=rfl
       omega
     · have:=VR.str (ψ:=ψ) (w:=W) (S:=fun c=>c < W.heap.size) (m:=fun _=>(0,0)) (A:=fun _=>False) s.data.toList
       exact this
   · rename_i el ht
     simp only [Option.bind_eq_some_iff] at hf
     obtain ⟨us,hu,hf⟩:=hf
     split at hf
     · rename_i hz
       obtain ⟨hz,hz0⟩:=hz
       cases hf
       rcases DataW.trod_slice ht h with ⟨e,_⟩ | ⟨a,len,cap,elems,rest,n',hn,e,_,_,hl,hm,hlen,hel,hsp,_⟩
       · exact one e rfl ⟨.ro us.length [] true,.nils,.slice us [] true (by simp) (by simp) (by simp),.ronil _ _,rfl,.nils⟩
       · cases hn
         refine one e rfl ?_
         have row:∀ i,i < cap→∃ vs y,W.cells? 0 (a.add (i * us.length)) us.length=some vs∧DataW.trod enc P W 0 (fun _=>true) true n el vs=some y:=by
          intro i hi
          rcases Nat.lt_or_ge i len with hil | hil
          · have:=hel i hil
            rw [List.getElem?_eq_getElem (by omega),Option.bind_eq_some_iff,← hz] at this
            obtain ⟨vs,q1,q2⟩:=this
            exact ⟨vs,_,q1,q2⟩
          · obtain ⟨q0,q⟩:=hsp rfl
            have:=q (i - len) (by omega)
            rw [List.getElem?_eq_getElem (by omega),Option.bind_eq_some_iff,← hz,show len+(i - len)=i by omega] at this
            obtain ⟨vs,q1,q2⟩:=this
            exact ⟨vs,_,q1,q2⟩
         rcases Nat.eq_zero_or_pos cap with hc0 | hc0
         · subst hc0
           obtain rfl:len=0:=by omega
           exact ⟨.ro us.length [] true,.ro us.length [] true,.slice us [] true (by simp) (by simp) (by simp),.ro _ [] [] true true (by simp) rfl id (by simp) (by simp),rfl,.roe _ _ _ 0 (fun _=>rfl)⟩
         · obtain ⟨b,off,spot⟩:=a
           have hfirst:∃ v,W.cell? ⟨b,off,spot⟩=some v:=by
            obtain ⟨vs,_,q1,_⟩:=row 0 hc0
            obtain ⟨_,q2,q3⟩:=World.cells?_some q1
            have:=q3 0 hz0
            rw [List.getElem?_eq_getElem (by omega)] at this
            exact ⟨_,by simpa [Addr.add] using this⟩
           obtain ⟨v0,hv0⟩:=hfirst
           obtain rfl:spot=none:=World.cell?_spot hv0
           have hS:b < W.heap.size:=by
            unfold World.cell? at hv0
            split at hv0
            · rename_i hb;exact (Array.getElem?_eq_some_iff.1 hb).1
            · cases hv0
           have key:∀ p:Nat × Nat,∃ q:Value × AV × AV,p.1 < len→∀ ct,us[p.2]?=some ct→W.cell? ⟨b,off+p.1 * us.length+p.2,none⟩=some q.1∧Ty ct q.2.1∧VD id (fun _=>False) q.2.1 q.2.2∧q.2.2.cell=true ∧
            VR ψ W (fun c=>c < W.heap.size) (fun _=>(0,0)) (fun _=>False) q.2.2 q.1:=by
            intro ⟨i,j⟩
            by_cases hi:i < len
            · cases hj:us[j]? with
              | none=>exact ⟨default,fun _ ct q=>by cases q⟩
              | some ct =>
               obtain ⟨vs,y,q1,q2⟩:=row i (by omega)
               obtain ⟨v,q3,c1,c2,q4,q5,q6,q7⟩:=(ih _ _ _ _ _ hu q2).2 j ct hj
               refine ⟨(v,c1,c2),fun _ ct' q=>?_⟩
               cases q
               refine ⟨?_,q4,q5,q6,q7⟩
               obtain ⟨_,r1,r2⟩:=World.cells?_some q1
               have hjl:j < us.length:=(List.getElem?_eq_some_iff.1 hj).1
               have:=r2 j hjl
               rw [q3] at this
               rw [← this]
               congr 1
               simp only [Addr.add]
               split <;> split <;> simp_all <;> omega
            · exact ⟨default,fun q=>absurd q hi⟩
           obtain ⟨F,hF⟩:=Classical.axiomOfChoice key
           let es:List (List AV):=(List.range len).map fun i=>(List.range us.length).map fun j=>(F (i,j)).2.1
           let es':List (List AV):=(List.range len).map fun i=>(List.range us.length).map fun j=>(F (i,j)).2.2
           have g1:∀ (i:Nat) (e:List AV),es[i]?=some e→i < len∧e=(List.range us.length).map fun j=>(F (i,j)).2.1:=by
            intro i e he
            simp only [es,List.getElem?_map,Option.map_eq_some_iff] at he
            obtain ⟨i',q1,q2⟩:=he
            have:=List.getElem?_eq_some_iff.1 q1
            obtain ⟨q3,q4⟩:=this
            simp at q3 q4
            subst q4
            exact ⟨q3,q2.symm⟩
           have g1':∀ (i:Nat) (e:List AV),es'[i]?=some e→i < len∧e=(List.range us.length).map fun j=>(F (i,j)).2.2:=by
            intro i e he
            simp only [es',List.getElem?_map,Option.map_eq_some_iff] at he
            obtain ⟨i',q1,q2⟩:=he
            have:=List.getElem?_eq_some_iff.1 q1
            obtain ⟨q3,q4⟩:=this
            simp at q3 q4
            subst q4
            exact ⟨q3,q2.symm⟩
           have g2:∀ (G:Nat→AV) (j:Nat) (x:AV),((List.range us.length).map G)[j]?=some x→∃ ct,us[j]?=some ct∧x=G j:=by
            intro G j x hx
            simp only [List.getElem?_map,Option.map_eq_some_iff] at hx
            obtain ⟨j',q1,q2⟩:=hx
            obtain ⟨q3,q4⟩:=List.getElem?_eq_some_iff.1 q1
            simp at q3 q4
            subst q4
            exact ⟨us[j],List.getElem?_eq_getElem q3,q2.symm⟩
           have l1:es.length=len:=by simp [es]
           have l2:es'.length=len:=by simp [es']
           refine ⟨.ro us.length es (decide (cap=len)),.ro us.length es' (decide (cap=len)),.slice us es _ ?_ ?_ ?_,.ro _ es es' _ _ ?_ (by rw [l1,l2]) id ?_ ?_,rfl,?_⟩
           · rw [l1];simp only [maxLen] at hm;omega
           · intro i e he;rw [(g1 i e he).2];simp
           · intro i e j ct y he hct hy
             obtain ⟨q1,rfl⟩:=g1 i e he
             obtain ⟨ct',q2,rfl⟩:=g2 _ j y hy
             rw [hct] at q2
             cases q2
             exact (hF (i,j) q1 ct hct).2.1
           · intro e he y hy
             obtain ⟨i,he⟩:=List.getElem?_of_mem he
             obtain ⟨j,hy⟩:=List.getElem?_of_mem hy
             obtain ⟨q1,rfl⟩:=g1 i e he
             obtain ⟨ct',q2,rfl⟩:=g2 _ j y hy
             exact (hF (i,j) q1 ct' q2).2.1.isC
           · intro i e e' he he'
             rw [(g1 i e he).2,(g1' i e' he').2];simp
           · intro i e e' j y y' he he' hy hy'
             obtain ⟨q1,rfl⟩:=g1 i e he
             obtain ⟨_,rfl⟩:=g1' i e' he'
             obtain ⟨ct',q2,rfl⟩:=g2 _ j y hy
             obtain ⟨_,_,rfl⟩:=g2 _ j y' hy'
             exact (hF (i,j) q1 ct' q2).2.2.1
           · have:=VR.ro (ψ:=ψ) (w:=W) (S:=fun c=>c < W.heap.size) (m:=fun _=>(0,0)) (A:=fun _=>False) us.length es' (decide (cap=len)) b off cap (fun i j=>(F (i,j)).1) hS
              (fun i e he=>by rw [(g1' i e he).2];simp) (by rw [l2];exact hl) (fun q=>by rw [l2];simpa using q)
              (fun i e j y he hy=>by
               obtain ⟨q1,rfl⟩:=g1' i e he
               obtain ⟨ct',q2,rfl⟩:=g2 _ j y hy
               have:=hF (i,j) q1 ct' q2
               exact ⟨this.2.2.2.1,this.1⟩)
              (fun i e j y he hy=>by
               obtain ⟨q1,rfl⟩:=g1' i e he
               obtain ⟨ct',q2,rfl⟩:=g2 _ j y hy
               exact (hF (i,j) q1 ct' q2).2.2.2.2)
             rw [l2] at this
             exact this
     · cases hf
   · rename_i fs ht
     simp only [Option.bind_eq_some_iff] at hf
     obtain ⟨us,hu,hf⟩:=hf
     split at hf
     · rename_i hz
       cases hf
       obtain ⟨xs,n',hn,_,hcl,hxl,hx⟩:=DataW.trod_struct ht h
       cases hn
       refine ⟨by rw [hcl,hz],fun j ct hj=>?_⟩
       have:=fields_open (cs:=cs) (F:=flatT P k) (n:=n) (fun t cs x ts h1 h2=>ih k t cs x ts h1 h2) fs.toList 0 _ hu (fun f hf=>by
        obtain ⟨i,hi⟩:=List.getElem?_of_mem hf
        have hi':fs[i]?=some f:=by simpa using hi
        have hlt:i < fs.size:=(Array.getElem?_eq_some_iff.1 hi').1
        have:=hx i f hi'
        rw [List.getElem?_eq_getElem (by omega)] at this
        exact ⟨_,this⟩) j ct hj
       simpa using this
     · cases hf
   · rename_i m' e ht
     simp only [Option.bind_eq_some_iff] at hf
     obtain ⟨us,hu,hf⟩:=hf
     split at hf
     · rename_i hz
       obtain ⟨hz1,hz2⟩:=hz
       cases hf
       obtain ⟨xs,n',hn,hcl,hxl,hx⟩:=trod_array ht h
       cases hn
       have hlen:(List.replicate m' us).flatten.length=m' * us.length:=by simp
       refine ⟨by rw [hcl,hlen,hz2],fun j ct hj=>?_⟩
       have hjl:j < m' * us.length:=by rw [← hlen];exact (List.getElem?_eq_some_iff.1 hj).1
       have hk:0 < us.length:=by
        rcases Nat.eq_zero_or_pos us.length with q | q
        · rw [q,Nat.mul_zero] at hjl;omega
        · exact q
       rw [flatten_rep us m' j hjl] at hj
       have hq:j / us.length < m':=Nat.div_lt_of_lt_mul (by rw [Nat.mul_comm];exact hjl)
       have hxq:=hx (j / us.length) hq
       rw [List.getElem?_eq_getElem (by omega)] at hxq
       obtain ⟨v,q1,q2⟩:=(ih k e _ _ us hu hxq).2 (j % us.length) ct hj
       refine ⟨v,?_,q2⟩
       rw [List.getElem?_take] at q1
       split at q1
       · rw [List.getElem?_drop,← hz1] at q1
         rw [← q1];congr 1
         exact (Nat.div_add_mod' j us.length).symm
       · cases q1
     · cases hf
   · cases hf
inductive AT where
 | c (ct:CT)
 | g (ts:List CT)
def AT.has:AT→AV→Prop
 | .c ct,a=>Ty ct a
 | .g ts,a=>∃ es,a=.agg es∧es.length=ts.length∧∀ (j:Nat) (ct:CT) (x:AV),ts[j]?=some ct→es[j]?=some x→Ty ct x
def argT (P:Program) (t:TypeId):Option AT :=
 match P.underlying t with
 | some (.struct _)=>(flatT P 20 t).map .g
 | some (.array _ _)=>(flatT P 20 t).map .g
 | some .bool | some (.int _) | some .string | some (.slice _)=>match flatT P 20 t with | some [ct]=>some (.c ct) | _=>none
 | _=>none
theorem cells_plain {t:TypeId} {base:Nat} {v:Value} (hu:P.underlying t=some .bool∨(∃ k,P.underlying t=some (.int k))∨P.underlying t=some .string∨∃ e,P.underlying t=some (.slice e)) (h:Value.okWide P W .any base t v) :
 v.cells=#[v]:=by
 cases v <;> try rfl
 rcases hu with hu | ⟨k,hu⟩ | hu | ⟨e,hu⟩ <;> simp [Value.okWide,hu,Cell.okWide,Cell.ok] at h
theorem arg_open {t:TypeId} {at_:AT} (ha:argT P t=some at_) {base:Nat} {v:Value} (hv:Value.okWide P W .any base t v) {d:DataW H} {p:List MemPlace} (h:DataW.Trod enc P W 0 (fun _=>true) true t v d p) :
 ∃ a a',at_.has a∧VD id (fun _=>False) a a'∧VR ψ W (fun c=>c < W.heap.size) (fun _=>(0,0)) (fun _=>False) a' v:=by
 obtain ⟨fuel,h⟩:=h
 have plain:(P.underlying t=some .bool∨(∃ k,P.underlying t=some (.int k))∨P.underlying t=some .string∨∃ e,P.underlying t=some (.slice e)) →
  (match flatT P 20 t with | some [ct]=>some (AT.c ct) | _=>none)=some at_→∃ a a',at_.has a∧VD id (fun _=>False) a a'∧VR ψ W (fun c=>c < W.heap.size) (fun _=>(0,0)) (fun _=>False) a' v:=by
  intro hu he
  split at he
  · rename_i ct hf
    cases he
    rw [cells_plain hu hv] at h
    obtain ⟨_,q⟩:=cells_open (ψ:=ψ) _ _ _ _ _ _ hf h
    obtain ⟨v',q1,a,a',q2,q3,_,q4⟩:=q 0 ct rfl
    simp only [List.getElem?_cons_zero,Option.some.injEq] at q1
    subst q1
    exact ⟨a,a',q2,q3,q4⟩
  · cases he
 have whole:(∃ cs,v=.agg cs)→(flatT P 20 t).map AT.g=some at_→∃ a a',at_.has a∧VD id (fun _=>False) a a'∧VR ψ W (fun c=>c < W.heap.size) (fun _=>(0,0)) (fun _=>False) a' v:=by
  rintro ⟨cs,rfl⟩ ha
  simp only [Option.map_eq_some_iff] at ha
  obtain ⟨ts,hf,rfl⟩:=ha
  obtain ⟨hl,q⟩:=cells_open (ψ:=ψ) _ _ _ _ _ _ hf h
  simp only [Value.cells] at hl q
  have key:∀ j:Nat,∃ x:AV × AV,∀ ct,ts[j]?=some ct→Ty ct x.1∧VD id (fun _=>False) x.1 x.2∧x.2.cell=true∧∃ v,cs.toList[j]?=some v∧VR ψ W (fun c=>c < W.heap.size) (fun _=>(0,0)) (fun _=>False) x.2 v:=by
   intro j
   cases hj:ts[j]? with
   | none=>exact ⟨default,fun _ q=>by cases q⟩
   | some ct =>
    obtain ⟨v,q1,a,a',q2,q3,q4,q5⟩:=q j ct hj
    exact ⟨(a,a'),fun ct' e=>by cases e;exact ⟨q2,q3,q4,v,q1,q5⟩⟩
  obtain ⟨F,hF⟩:=Classical.axiomOfChoice key
  have g2:∀ (G:Nat→AV) (j:Nat) (x:AV),((List.range ts.length).map G)[j]?=some x→∃ ct,ts[j]?=some ct∧x=G j:=by
   intro G j x hx
   simp only [List.getElem?_map,Option.map_eq_some_iff] at hx
   obtain ⟨j',q1,q2⟩:=hx
   obtain ⟨q3,q4⟩:=List.getElem?_eq_some_iff.1 q1
   simp at q3 q4
   subst q4
   exact ⟨ts[j],List.getElem?_eq_getElem q3,q2.symm⟩
  refine ⟨.agg ((List.range ts.length).map fun j=>(F j).1),.agg ((List.range ts.length).map fun j=>(F j).2),⟨_,rfl,by simp,?_⟩,.agg _ _ (by simp) ?_,.agg _ _ ?_ ?_ ?_⟩
  · intro j ct x hct hx
    obtain ⟨ct',q1,rfl⟩:=g2 _ j x hx
    exact (hF j ct hct).1
  · intro j x x' hx hx'
    obtain ⟨ct,q1,rfl⟩:=g2 _ j x hx
    obtain ⟨_,_,rfl⟩:=g2 _ j x' hx'
    exact (hF j ct q1).2.1
  · simp only [List.length_map,List.length_range]
    rw [← hl];simp
  · intro j x hx
    obtain ⟨ct,q1,rfl⟩:=g2 _ j x hx
    exact (hF j ct q1).2.2.1
  · intro j x hx
    obtain ⟨ct,q1,rfl⟩:=g2 _ j x hx
    obtain ⟨v,q2,q3⟩:=(hF j ct q1).2.2.2
    have e:cs[j]?=some v:=by simpa using q2
    rw [Array.getD_eq_getD_getElem?,e]
    exact q3
 unfold argT at ha
 split at ha
 · rename_i fs ht
   simp only [Value.okWide,ht] at hv
   obtain ⟨cs,hv,_,_⟩:=hv
   exact whole ⟨cs,hv⟩ ha
 · rename_i m e ht
   simp only [Value.okWide,ht] at hv
   obtain ⟨cs,hv,_,_⟩:=hv
   exact whole ⟨cs,hv⟩ ha
 · rename_i ht;exact plain (.inl ht) ha
 · rename_i k ht;exact plain (.inr (.inl ⟨k,ht⟩)) ha
 · rename_i ht;exact plain (.inr (.inr (.inl ht))) ha
 · rename_i e ht;exact plain (.inr (.inr (.inr ⟨e,ht⟩))) ha
 · cases ha
def TyAll:List AT→List AV→Prop
 | [],[]=>True
 | a::r,x::s=>a.has x∧TyAll r s
 | _,_=>False
theorem args_open {base:Nat}:∀ {ts:List TypeId} {ats:List AT} {vs:List Value} {ds:List (DataW H)} {p:List MemPlace},ts.map (argT P)=ats.map some →
 (∀ (j:Nat) (t:TypeId) (v:Value),ts[j]?=some t→vs[j]?=some v→Value.okWide P W .any base t v)→DataW.TrodAll enc P W 0 (fun _=>true) true ts vs ds p →
 ∃ us us',TyAll ats us∧Rel2 (VD id fun _=>False) us us'∧us'.length=vs.length∧∀ (j:Nat) (x:AV) (v:Value),us'[j]?=some x→vs[j]?=some v→VR ψ W (fun c=>c < W.heap.size) (fun _=>(0,0)) (fun _=>False) x v
 | [],[],vs,ds,p,_,_,h=>by
  obtain ⟨rfl,_,_⟩:=ChangeShapes.trodAll_nil h
  exact ⟨[],[],trivial,⟨rfl,by simp⟩,rfl,by simp⟩
 | t::ts,at_::ats,_,_,_,hm,hv,h=>by
  obtain ⟨v,vs1,d,ds1,p1,q1,rfl,rfl,rfl,h1,h2⟩:=ChangeShapes.trodAll_cons h
  simp only [List.map_cons,List.cons.injEq] at hm
  obtain ⟨a,a',r1,r2,r3⟩:=arg_open (ψ:=ψ) hm.1 (hv 0 t v rfl rfl) h1
  obtain ⟨us,us',s1,s2,s3,s4⟩:=args_open hm.2 (fun j t v e1 e2=>hv (j+1) t v e1 e2) h2
  refine ⟨a::us,a'::us',⟨r1,s1⟩,⟨by simp [s2.1],fun j x x' e1 e2=>?_⟩,by simp [s3],fun j x v' e1 e2=>?_⟩
  · cases j with
    | zero=>cases e1;cases e2;exact r2
    | succ j=>exact s2.2 j x x' e1 e2
  · cases j with
    | zero=>cases e1;cases e2;exact r3
    | succ j=>exact s4 j x v' e1 e2
 | [],_::_,_,_,_,hm,_,_=>by simp at hm
 | _::_,[],_,_,_,hm,_,_=>by simp at hm
theorem law_callsL {Φ:Nat→FuncId→Option Nat} {D:WProg} (hL:Linked P Φ ψ (erProg D)) (hok:okTree D.fns=true) (hlay:∀ c o,ψ.laid c=some o→c < W.heap.size∧W.heap[c]?=some o) {f:Nat} {ts:List TypeId} {ats:List AT} (hts:ts.map (argT P)=ats.map some)
 (core:∀ us,TyAll ats us→FnW D f us=some (.bool true)) {base:Nat} {args:Array Value} {ds:List (DataW H)} {p:List MemPlace}
 (hv:∀ (j:Nat) (t:TypeId) (v:Value),ts[j]?=some t→args[j]?=some v→Value.okWide P W .any base t v) (hA:DataW.TrodAll enc P W 0 (fun _=>true) true ts args.toList ds p) :
 Calls P (ψ f) args W fun e W'=>e=.returned (.bool true)∧(∀ c,c < W.heap.size→W'.heap[c]?=W.heap[c]?)∧W.heap.size≤W'.heap.size∧W'.os=W.os∧W'.output=W.output:=by
 obtain ⟨us,us',h1,h2,h3,h4⟩:=args_open (ψ:=ψ) hts (fun j t v e1 e2=>hv j t v e1 (by simpa using e2)) hA
 obtain ⟨n,hc⟩:=fnW_call.1 (core us h1)
 obtain ⟨v',hc',hvd⟩:=callW_ok hok h2 hc
 rw [hvd.bool_inv] at hc'
 refine (callF_ok hL hc' (w:=W) (S:=fun c=>c < W.heap.size) (m:=fun _=>(0,0)) (cargs:=args) hlay (fun _ h=>h) (by rw [h3];simp) fun j x hx=>?_).mono ?_
 · have hj:j < args.size:=by have:=(List.getElem?_eq_some_iff.1 hx).1;rw [h3] at this;simpa using this
   rw [Array.getD_eq_getD_getElem?,Array.getElem?_eq_getElem hj]
   exact h4 j x _ hx (by simp [hj])
 · rintro e W' ⟨cv,S',m',rfl,hr,q1,q2,q3,q4⟩
   rw [hr.inv_bool]
   exact ⟨rfl,q1,q2,q3,q4⟩
theorem trodAll_old {W':World} (hh:∀ c,c < W.heap.size→W'.heap[c]?=W.heap[c]?) {base:Nat} {sp:Nat→Bool} {held:Bool}:∀ {ts:List TypeId} {vs:List Value} {ds:List (DataW H)} {ps:List MemPlace},
 DataW.TrodAll enc P W base sp held ts vs ds ps→(∀ p ∈ ps,p.block < W.heap.size)→DataW.TrodAll enc P W' base sp held ts vs ds ps
 | [],[],[],_,h,_=>h
 | _::_,_::_,_::_,_,⟨p,q,⟨n,h1⟩,h2,e⟩,hs=>⟨p,q,⟨n,DataW.trod_carry n _ _ _ h1 fun x hx=>by
  have hlt:=hs x (by rw [e];exact List.mem_append_left _ hx)
  cases x with
  | cell b off=>simp only [World.sameAt,World.cell?];rw [hh b hlt]
  | map b=>exact hh b hlt⟩,trodAll_old hh h2 (fun x hx=>hs x (by rw [e];exact List.mem_append_right _ hx)),e⟩
theorem keptBut_old {W':World} (hh:∀ c,c < W.heap.size→W'.heap[c]?=W.heap[c]?) (ho:W'.os=W.os) (hp:W'.output=W.output) (may:MemPlace→Prop):W.keptBut W' may:=by
 have h:=World.keptBut_refl W may
 refine ⟨ho,hp,fun i hi=>?_⟩
 have:=h.2.2 i hi
 rw [hh i hi]
 exact this
theorem law_post {f:Func} {s:ChangeSpec} {fresh handsOn again:Bool} {W':World} {args:Array Value} {ds gs:List (DataW H)} {before:List MemPlace} {tb:TypeId}
 (kids:Kids P (· < P.types.size)) (full:∀ t e,t < P.types.size→P.underlying t=some (.slice e)→0 < P.cellsOf e)
 (hvars0:s.vars=[]) (hW:DataW.Whole enc P f.params.toList s.vars false W args.toList ds gs before) (hfn:s.fn H (ds++gs)={ results:=[.lit (.bool true)],args:=ds })
 (hps:∀ t ∈ f.params.toList,t < P.types.size) (hr:f.resultTypes=#[tb]) (htb:P.underlying tb=some .bool)
 (hh:∀ c,c < W.heap.size→W'.heap[c]?=W.heap[c]?) (_hsz:W.heap.size≤W'.heap.size) (ho:W'.os=W.os) (hp:W'.output=W.output) :
 s.post enc P f false fresh handsOn again W args (.bool true) W':=by
 have hlt:∀ p ∈ before,p.block < W.heap.size:=hW.lt
 have hW':=hW
 obtain ⟨p,q,hA,hV,rfl,hz,_⟩:=hW
 rw [hvars0] at hV
 obtain ⟨rfl,rfl⟩:=ChangeShapes.trodVars_none hV
 simp only [List.append_nil] at hlt hz hW' hfn
 have hargs:∀ sp:Nat→Bool,(∀ x ∈ p,sp x.block=true)→DataW.TrodAll enc P W' 0 sp true f.params.toList args.toList ds p:=fun sp hsp =>
  trodAll_old hh (DataW.TrodAll.respare kids full hps hA hsp) hlt
 have hvars:∀ sp:Nat→Bool,DataW.TrodVars enc P W' sp s.vars [] []:=fun sp=>by rw [hvars0];rfl
 have hres:∀ (b:Nat) (sp:Nat→Bool) (hd:Bool),DataW.TrodAll enc P W' b sp hd f.resultTypes.toList ((Value.bool true).resultList f.resultTypes.size) [.lit (.bool true)] []:=fun b sp hd=>by
  rw [hr];exact ChangeShapes.trodAll_mk1 (RowKit.shut_bool htb true)
 have hok:∀ (j:Nat) (t:TypeId) (r:Value),f.resultTypes[j]?=some t→((Value.bool true).resultList f.resultTypes.size)[j]?=some r→Value.okWide P W' .any 0 t r :=
  RowKit.ok_one hr rfl (by simp [Value.okWide,htb,Cell.okWide,Cell.ok])
 have hold:∀ x ∈ p,(fun b=>decide (b < W.heap.size)) x.block=true:=fun x hx=>by simpa using hlt x hx
 refine ⟨ds,[],p,[],p,[],hW',?_,?_,?_,keptBut_old hh ho hp _,fun _=>⟨hok,[.lit (.bool true)]++ds,[],([]++p)++[],⟨[]++p,[],?_,hvars _,rfl,?_,fun h=>by cases h⟩,?_⟩⟩
 · rw [List.append_nil,hfn];exact hres _ _ _
 · rw [List.append_nil,hfn];exact hargs _ hold
 · rw [List.append_nil,hfn];exact hvars _
 · exact ChangeShapes.trodAll_append (hargs _ fun _ _=>rfl) (hres _ _ _)
 · intro b off hb
   simp only [List.nil_append,List.append_nil] at hb
   have:=hz b off hb
   unfold World.frozen? at this ⊢
   rw [hh b (hlt _ hb)]
   exact this
 · intro x hx _
   simpa using hx
theorem trodAll_len {base:Nat} {sp:Nat→Bool} {held:Bool}:∀ {ts:List TypeId} {vs:List Value} {ds:List (DataW H)} {ps:List MemPlace},DataW.TrodAll enc P W base sp held ts vs ds ps→ds.length=ts.length
 | [],[],[],_,_=>rfl
 | _::_,_::_,_::_,_,⟨_,_,_,h2,_⟩=>by simp [trodAll_len h2]
end
end Go.Pw
end
section
namespace Go.Pw
open Go Go.Pav
theorem ty_slice {ts:List CT} {a:AV} (h:Ty (.slice ts) a):∃ (es:List (List AV)) (e:Bool),a=.ro ts.length es e∧es.length < 2 ^ 63∧∀ x ∈ es,x.length=ts.length∧∀ (j:Nat) (ct:CT) (v:AV),ts[j]?=some ct→x[j]?=some v→Ty ct v:=by
 cases h with
 | slice ts es ex hn hw h =>
  refine ⟨es,ex,rfl,hn,fun x hx=>?_⟩
  obtain ⟨i,hi⟩:=List.getElem?_of_mem hx
  exact ⟨hw i x hi,fun j ct v e1 e2=>h i x j ct v hi e1 e2⟩
theorem ty_u8 {v:AV} (h:Ty (.int .u8) v):∃ n:Int,v=.int .u8 n∧0≤n∧n≤255:=by
 cases h with
 | int k n h1 h2=>exact ⟨n,rfl,h1,h2⟩
theorem ty_u64 {v:AV} (h:Ty (.int .u64) v):∃ n:Int,v=.int .u64 n∧0≤n∧n≤18446744073709551615:=by
 cases h with
 | int k n h1 h2=>exact ⟨n,rfl,h1,h2⟩
theorem ty_i64 {v:AV} (h:Ty (.int .i64) v):∃ n:Int,v=.int .i64 n∧-9223372036854775808≤n∧n≤9223372036854775807:=by
 cases h with
 | int k n h1 h2=>exact ⟨n,rfl,h1,h2⟩
end Go.Pw
end
section
namespace Go.Proofs.YtggfejahifmgoaaGreatDoor
open Go.ChangeShapes Go.WideShapes Go.ChangeAt Go.RowKit Go.Pav Go.Pw P
theorem own_:ownKnob Tryz.prog.godebug=none:=by kernel_rfl
theorem kids_:Kids Tryz.prog (· < Tryz.prog.types.size):=kids_rows (by kernel_rfl) (by kernel_rfl)
theorem full_:∀ t e,t < Tryz.prog.types.size→Tryz.prog.underlying t=some (.slice e)→0 < Tryz.prog.cellsOf e:=slices_full_of Tryz.prog (by kernel_rfl)
end Go.Proofs.YtggfejahifmgoaaGreatDoor
end
section
namespace Go.Proofs.YtggfejahifmgoaaGreatDoor
open Go Go.Pav
theorem et_ : Tryz.prog.globalNamed "errors.errorType" = some 0 := by kernel_rfl
theorem rt_ : (Tryz.prog.cutTypes.find? (·.1 == "internal/reflectlite.rtype")).map (·.2) = some 207 := by kernel_rfl
theorem oneRow_:((List.range 408).filter fun t=>Tryz.prog.rowNamed t [101,114,114,111,114])=[113]:=by kernel_rfl
theorem size_:Tryz.prog.types.size=408:=by kernel_rfl
abbrev laid_ : List (String × DataW Unit) := [("errors.errorType", Rows.laid_errors_errorType)]
theorem handle_of_laid {W:World} (h:laidMetH Tryz.prog laid_ W):W.cell? ⟨0,0,none⟩=some (.iface 207 (.agg #[.pointer (some ⟨1,113,none⟩)])):=by
 have h':laidMet Tryz.prog [] W∧handlesMet Tryz.prog laid_ W:=h
 obtain ⟨name,u,ty,e1,e2,e3,e4,e5⟩:=h'.2 _ (List.mem_singleton.2 rfl)
 have en:name=[101,114,114,111,114]:=(Option.some.inj e1).symm
 subst en
 obtain rfl:=Option.some.inj (rt_.symm.trans e2)
 have hm:ty ∈ (List.range 408).filter fun t=>Tryz.prog.rowNamed t [101,114,114,111,114]:=List.mem_filter.2 ⟨List.mem_range.2 (by rw [← size_];exact e3),e4⟩
 rw [oneRow_] at hm
 obtain rfl:=List.mem_singleton.1 hm
 have hh:typeHandle Tryz.prog 113=.pointer (some ⟨1,113,none⟩):=by kernel_rfl
 rw [hh] at e5
 simpa using World.var?_cell et_ e5 0
noncomputable def laidWorld (os:Os):World :=
 let w0:=World.holding Tryz.prog os ⟨#[],#[],[]⟩
 { w0 with heap:=w0.heap.modify 0 fun
  | .cells _ t frozen=>.cells #[.iface 207 (.agg #[.pointer (some ⟨1,113,none⟩)])] t frozen
  | o=>o }
theorem laidWorld_met (os:Os) (args:Array Value):laidMetH Tryz.prog laid_ ((laidWorld os).forCall (fun _ _=>0) ⟨#[],args,[]⟩).memory :=
 laidMetH_of_parts (laidMet_nil _ _) (by kernel_rfl)
def layOf (W:World):Nat→Option Obj:=fun c=>if c=0 then W.heap[0]? else none
theorem layOf_met (W:World):∀ c o,layOf W c=some o→c < W.heap.size∧W.heap[c]?=some o:=by
 intro c o h
 unfold layOf at h
 split at h
 · rename_i e;subst e
   exact ⟨(Array.getElem?_eq_some_iff.1 h).1,h⟩
 · cases h
theorem layOf_as {W:World} (h:laidMetH Tryz.prog laid_ W):H33.AsLay (layOf W):=by
 have hc:=handle_of_laid h
 unfold World.cell? at hc
 split at hc
 · rename_i c t fr hb
   simp only [Option.isSome_none,Bool.false_eq_true,if_false] at hc
   exact ⟨c,t,fr,hb,hc⟩
 · cases hc
end Go.Proofs.YtggfejahifmgoaaGreatDoor
end
section
namespace Go.Pw
open Go Go.Pav
abbrev Orc:=Nat→List AV→Option AV
def orcRun (orc:Orc) (run:WRun):WRun:=fun f args h n =>
 match h,n with
 | [],0=>(match orc f args with
  | some v=>some (v,[],0)
  | none=>run f args [] 0)
 | h,n=>run f args h n
structure OrcOk (C:WProg) (orc:Orc):Prop where
 inl:∀ f vs v,orc f vs=some v→C.inl f=false
 ptr:∀ f vs v,orc f vs=some v→hasPtrL vs=false
 val:∀ f vs v,orc f vs=some v→FnW C f vs=some v
 frz:∀ f vs v,orc f vs=some v→frzW [] frzDepth v=some v
section
variable (C:WProg) (orc:Orc)
def evO:Nat→WEv
 | 0,_,_,_=>none
 | n+1,base,c,s =>
  match c with
  | .skip=>some (.norm,s)
  | .ops l a=>ob (evOpsW C (orcRun orc (runWithW C (evO n))) l s) fun s=>om (canonF base a s) fun s=>(.norm,s)
  | .draw l un a=>ob (evDrawW C (orcRun orc (runWithW C (evO n))) l s.next ⟨s.env,s.heap,s.next+l.length⟩ []) (drawEndW base un a)
  | .seq a b=>ob (evO n base a s) (evSeqW (evO n base b))
  | .cond c a b=>evCondW (evO n base a) (evO n base b) (c.ev s.env) s
  | .block id b a=>ob (evO n base b s) (evBlockW base id a)
  | .loop a b=>ob (canon base a s) fun s=>ob (evO n base b s) (evSeqW (evO n base (.loop a b)))
  | .exit id=>some (.exit id,s)
  | .ret=>some (.ret,s)
  | .fail=>none
  | .prim k=>om (primF k (primArgs (primN k) 0 s.env)) fun v=>(.ret,⟨putE s.env 9 v,s.heap,s.next⟩)
  | .iso pre ap post a=>ob (evIsoW C (orcRun orc (runWithW C (evO n))) pre ap post s) fun s=>om (canonF base a s) fun s=>(.norm,s)
  | .cln zz z b=>match (Pav.get s.env 0).bind isEmptyRo with
   | some z'=>if z'=z∧zz.length=z∧8≤n then some (.ret,⟨[(2,.sl s.next z 0 0 0 true)],Pav.put s.heap s.next (.cells z [] true true),s.next+1⟩) else none
   | none=>evO n base (clnC zz z b) s
end
section
variable {C:WProg} {orc:Orc} {r r':WRun}
def RunLeC (C:WProg) (r r':WRun):Prop:=∀ f args h nid n c,evCallW C r f args h nid n=some c→evCallW C r' f args h nid n=some c
theorem evActW_mc (hr:RunLeC C r r') {op:COp} {nid:Nat} {e:Env} {h:WHeap} {n:Nat} {d:WDid} (hd:evActW C r op nid e h n=some d):evActW C r' op nid e h n=some d:=by
 unfold evActW at hd ⊢
 split
 · rename_i hc;rw [hc] at hd;cases hd
 · rename_i hc;rw [hc] at hd;exact om_mono hd fun c hc=>hr _ _ _ _ _ _ hc
 · rename_i hc;rw [hc] at hd;exact hd
theorem evOpW_mc (hr:RunLeC C r r') {o:COper} {nid:Nat} {e:Env} {h:WHeap} {n:Nat} {d:WDid} (hd:evOpW C r o nid e h n=some d):evOpW C r' o nid e h n=some d:=by
 unfold evOpW at hd ⊢
 split
 · rename_i hc;rw [hc] at hd;cases hd
 · rename_i hc;rw [hc] at hd;exact hd
 · rename_i hc;rw [hc] at hd;exact evActW_mc hr hd
theorem evOpsW_mc (hr:RunLeC C r r'):∀ (l:List COper) (s s':WSt),evOpsW C r l s=some s'→evOpsW C r' l s=some s':=by
 intro l
 induction l with
 | nil=>intro s s' h;exact h
 | cons o l ih=>intro s s' h;exact ob_mono h (fun d hd=>evOpW_mc hr hd) fun d hd=>ih _ _ hd
theorem evDrawW_mc (hr:RunLeC C r r'):∀ (l:List COper) (nid:Nat) (s:WSt) (ds:List WDid) (x:WSt × List WDid),evDrawW C r l nid s ds=some x→evDrawW C r' l nid s ds=some x:=by
 intro l
 induction l with
 | nil=>intro nid s ds x h;exact h
 | cons o l ih=>intro nid s ds x h;exact ob_mono h (fun d hd=>evOpW_mc hr hd) fun d hd=>ih _ _ _ _ hd
theorem orcRun_some {f:Nat} {args:List AV} {h:WHeap} {n:Nat} {x:AV × WHeap × Nat} (hx:orcRun orc r f args h n=some x):r f args h n=some x∨(∃ v,orc f args=some v∧h=[]∧n=0∧x=(v,[],0)):=by
 unfold orcRun at hx
 split at hx
 · split at hx
   · rename_i v hv
     exact .inr ⟨v,hv,rfl,rfl,(Option.some.inj hx).symm⟩
   · exact .inl hx
 · exact .inl hx
theorem orc_le (ok:OrcOk C orc) (hr:RunLeW r (RnW C)):RunLeC C (orcRun orc r) (RnW C):=by
 intro f args h nid n c hc
 unfold evCallW at hc ⊢
 split
 · rename_i hi
   rw [if_pos hi] at hc
   split
   · rename_i hf
     rw [if_pos hf] at hc
     obtain ⟨az,h1,hc⟩:=ob_some hc
     by_cases hdp:isDp f=true
     · rw [if_pos hdp] at hc
       obtain ⟨x,h3,hc⟩:=ob_some hc
       rw [h1]
       rcases orcRun_some h3 with h3 | ⟨v,hv,_⟩
       · simp only [ob,if_pos hdp]
         rw [hr _ _ _ _ _ h3];exact hc
       · rw [ok.inl _ _ _ hv] at hi;cases hi
     rw [if_neg hdp] at hc
     obtain ⟨x,h2,hend⟩:=ob_some hc
     obtain ⟨y,h3,h4⟩:=ob_some h2
     rw [h1]
     rcases orcRun_some h3 with h3 | ⟨v,hv,_⟩
     · simp only [ob,if_neg hdp]
       unfold freshCallW
       rw [hr _ _ _ _ _ h3]
       simp only [ob]
       rw [h4];exact hend
     · rw [ok.inl _ _ _ hv] at hi;cases hi
   · rename_i hf
     rw [if_neg hf] at hc
     obtain ⟨x,h1,rfl⟩:=om_some hc
     rcases orcRun_some h1 with h1 | ⟨v,hv,_⟩
     · rw [hr _ _ _ _ _ h1];rfl
     · rw [ok.inl _ _ _ hv] at hi;cases hi
 · rename_i hi
   rw [if_neg hi] at hc
   split
   · rename_i hp
     rw [if_pos hp] at hc
     obtain ⟨x,h1,rfl⟩:=om_some hc
     rcases orcRun_some h1 with h1 | ⟨v,hv,_⟩
     · rw [hr _ _ _ _ _ h1];rfl
     · rw [ok.ptr _ _ _ hv] at hp;simp at hp
   · rename_i hp
     rw [if_neg hp] at hc
     obtain ⟨vs,h1,hc⟩:=ob_some hc
     obtain ⟨v,h2,rfl⟩:=om_some hc
     rw [h1]
     have h3:pureCallW (RnW C) f vs=some v:=by
      obtain ⟨x,h4,h5⟩:=ob_some h2
      rcases orcRun_some h4 with h4 | ⟨w,hw,_,_,rfl⟩
      · unfold pureCallW;rw [hr _ _ _ _ _ h4];exact h5
      · simp only at h5
        rw [ok.frz _ _ _ hw] at h5
        rw [← h5]
        exact ok.val _ _ _ hw
     simp only [ob,h3]
     rfl
theorem evIsoW_mc (hr:RunLeC C r r') {pre:List COper} {ap:COper} {post:List COper} {s s':WSt} (h:evIsoW C r pre ap post s=some s'):evIsoW C r' pre ap post s=some s':=by
 unfold evIsoW at h ⊢
 split
 · rename_i hl
   rw [if_pos hl] at h
   exact ob_mono h (fun s1 h1=>evOpsW_mc hr _ _ _ h1) fun s1 h1=>ob_mono h1 (fun v hv=>hv) fun v hv=>om_mono hv fun s2 h2=>evOpsW_mc hr _ _ _ h2
 · rename_i hl
   rw [if_neg hl] at h
   cases h
theorem evO_cd (ok:OrcOk C orc):∀ (n:Nat) (base:Nat) (c:WCode) (s:WSt) (x:Ex × WSt),evO C orc n base c s=some x→CdW C base c s=some x:=by
 intro n
 induction n with
 | zero=>intro base c s x h;simp only [evO] at h;cases h
 | succ n ih =>
  intro base c s x h
  have hr:RunLeC C (orcRun orc (runWithW C (evO C orc n))) (RnW C):=orc_le ok (runWithW_mono ih)
  cases c with
  | skip=>rw [cw_skip];exact h
  | exit id=>rw [cw_exit];exact h
  | ret=>rw [cw_ret];exact h
  | fail=>simp only [evO] at h;cases h
  | prim k=>rw [cw_prim];exact h
  | cln zz z b =>
   rw [cw_cln]
   simp only [evO] at h
   split
   · rename_i z' hz
     rw [hz] at h
     simp only at h
     split at h
     · rename_i hc;rw [if_pos ⟨hc.1,hc.2.1⟩];exact h
     · cases h
   · rename_i hz
     rw [hz] at h
     exact ih _ _ _ _ h
  | iso pre ap post a=>rw [cw_iso];simp only [evO] at h;exact ob_mono h (fun s' hs=>evIsoW_mc hr hs) fun x hx=>hx
  | ops l a=>rw [cw_ops];simp only [evO] at h;exact ob_mono h (fun s' hs=>evOpsW_mc hr l s s' hs) fun x hx=>hx
  | draw l un a=>rw [cw_draw];simp only [evO] at h;exact ob_mono h (fun x hx=>evDrawW_mc hr l _ _ _ x hx) fun x hx=>hx
  | seq a b=>rw [cw_seq];simp only [evO] at h;exact ob_mono h (fun x hx=>ih _ _ _ _ hx) fun x hx=>evSeqW_mono (fun s x hx=>ih _ _ _ _ hx) hx
  | cond c a b =>
   rw [cw_cond]
   simp only [evO] at h
   unfold evCondW at h ⊢
   split
   · rename_i t hv
     rw [hv] at h
     cases t with
     | true=>exact ih _ _ _ _ h
     | false=>exact ih _ _ _ _ h
   · split at h
     · rename_i h1 _ t hv;exact absurd hv (h1 t)
     · cases h
  | block id b a=>rw [cw_block];simp only [evO] at h;exact ob_mono h (fun x hx=>ih _ _ _ _ hx) fun x hx=>hx
  | loop a b=>rw [cw_loop];simp only [evO] at h;exact ob_mono h (fun x hx=>hx) fun s hs=>ob_mono hs (fun x hx=>ih _ _ _ _ hx) fun x hx=>evSeqW_mono (fun s x hx=>ih _ _ _ _ hx) hx
end
end Go.Pw
end
section
namespace Go.Pw
open Go Go.Pav
def sqA:WCode→WCode
 | .seq a _=>a
 | c=>c
def sqB:WCode→WCode
 | .seq _ b=>b
 | c=>c
def norm? (r:Ex × WSt):Option WSt:=match r.1 with
 | .norm=>some r.2
 | _=>none
theorem norm_some {r:Ex × WSt} {s:WSt} (h:norm? r=some s):r=(.norm,s):=by
 obtain ⟨e,t⟩:=r
 cases e <;> simp only [norm?] at h <;> cases h
 rfl
def out? (r:Ex × WSt):Option (Ex × WSt):=match r.1 with
 | .norm=>none
 | _=>some r
theorem out_some {r x:Ex × WSt} (h:out? r=some x):r=x∧r.1≠.norm:=by
 obtain ⟨e,t⟩:=r
 cases e <;> simp only [out?] at h <;> cases h <;> exact ⟨rfl,by simp⟩
section
variable (C:WProg) (orc:Orc) (N base:Nat)
def seqO:List WCode→WSt→Option WSt
 | [],s=>some s
 | c::r,s=>ob (evO C orc N base c s) fun x=>ob (norm? x) (seqO r)
def stepO (a:Ann) (b:WCode) (s:WSt):Option WSt:=ob (evO C orc N base b s) fun r=>ob (norm? r) fun s=>canon base a s
def iterO (a:Ann) (b:WCode):Nat→WSt→Option WSt
 | 0,s=>some s
 | n+1,s=>ob (stepO C orc N base a b s) (iterO a b n)
def endO (b:WCode) (s:WSt):Option (Ex × WSt):=ob (evO C orc N base b s) out?
def leaveO (id:Nat) (al:Ann) (b:WCode) (s:WSt):Option WSt:=ob (endO C orc N base b s) fun r=>ob (evBlockW base id al r) norm?
end
section
variable {C:WProg} {orc:Orc} {N base:Nat}
theorem seqO_cd (ok:OrcOk C orc):∀ (cs:List WCode) (s s':WSt) (c:WCode),seqO C orc N base cs s=some s'→CdW C base (cs.foldr .seq c) s=CdW C base c s':=by
 intro cs
 induction cs with
 | nil=>intro s s' c h;cases h;rfl
 | cons a r ih =>
  intro s s' c h
  simp only [seqO] at h
  obtain ⟨x,h1,h⟩:=ob_some h
  obtain ⟨t,h2,h⟩:=ob_some h
  obtain rfl:=norm_some h2
  rw [List.foldr_cons,cw_seq,evO_cd ok _ _ _ _ _ h1]
  exact ih t s' c h
theorem iterO_add (a:Ann) (b:WCode):∀ (m n:Nat) (s t u:WSt),iterO C orc N base a b m s=some t→iterO C orc N base a b n t=some u→iterO C orc N base a b (m+n) s=some u:=by
 intro m
 induction m with
 | zero=>intro n s t u h1 h2;cases h1;rw [Nat.zero_add];exact h2
 | succ m ih =>
  intro n s t u h1 h2
  rw [Nat.succ_add]
  simp only [iterO] at h1 ⊢
  obtain ⟨x,h3,h4⟩:=ob_some h1
  rw [h3]
  exact ih n x t u h4 h2
theorem loop_cd (ok:OrcOk C orc) (a:Ann) (b:WCode):∀ (n:Nat) (s t:WSt) (r:Ex × WSt),iterO C orc N base a b n s=some t→endO C orc N base b t=some r→∀ s0,canon base a s0=some s→CdW C base (.loop a b) s0=some r:=by
 intro n
 induction n with
 | zero =>
  intro s t r h1 h2 s0 hc
  cases h1
  obtain ⟨x,h3,h4⟩:=ob_some h2
  obtain ⟨rfl,h5⟩:=out_some h4
  rw [cw_loop,hc]
  simp only [ob]
  rw [evO_cd ok _ _ _ _ _ h3]
  obtain ⟨e,w⟩:=x
  cases e with
  | norm=>exact absurd rfl h5
  | exit id=>rfl
  | ret=>rfl
 | succ n ih =>
  intro s t r h1 h2 s0 hc
  simp only [iterO,stepO] at h1
  obtain ⟨y,h3,h6⟩:=ob_some h1
  obtain ⟨x,h4,h5⟩:=ob_some h3
  obtain ⟨w,h7,h8⟩:=ob_some h5
  obtain rfl:=norm_some h7
  rw [cw_loop,hc]
  simp only [ob]
  rw [evO_cd ok _ _ _ _ _ h4]
  exact ih y t r h6 h2 w h8
theorem block_cd (ok:OrcOk C orc) (a:Ann) (b:WCode) (id:Nat) (al:Ann) {n:Nat} {s0 s t u:WSt} (hc:canon base a s0=some s) (h1:iterO C orc N base a b n s=some t) (h2:leaveO C orc N base id al b t=some u) (c:WCode) :
 CdW C base (.seq (.block id (.loop a b) al) c) s0=CdW C base c u:=by
 obtain ⟨r,h3,h4⟩:=ob_some h2
 obtain ⟨x,h5,h6⟩:=ob_some h4
 obtain rfl:=norm_some h6
 rw [cw_seq,cw_block,loop_cd ok a b n s t r h1 h3 s0 hc]
 simp only [ob]
 rw [h5]
 rfl
theorem assoc_cd (a b c:WCode) (s:WSt):CdW C base (.seq (.seq a b) c) s=CdW C base (.seq a (.seq b c)) s:=by
 rw [cw_seq,cw_seq,cw_seq]
 cases CdW C base a s with
 | none=>rfl
 | some x =>
  obtain ⟨e,t⟩:=x
  cases e with
  | norm=>simp only [ob,evSeqW];rw [cw_seq];rfl
  | exit id=>rfl
  | ret=>rfl
theorem fn_cd {f:Nat} {w:WFn} (hf:C.fns.get f=some w) (hn:w.np=0) {r:Ex × WSt} (hb:CdW C 0 w.body ⟨[],[],0⟩=some r) {v:AV} (hv:(ob (fnEndW w.res r) fun r=>frzW r.2.1 frzDepth r.1)=some v):FnW C f []=some v:=by
 unfold FnW pureCallW RnW runWithW
 rw [hf]
 simp only [ob]
 rw [if_pos (show ([]:List AV).length=w.np from hn.symm)]
 have ha:(⟨argW 0 [] [],[],0⟩:WSt)=⟨[],[],0⟩:=rfl
 rw [ha,hb]
 exact hv
theorem pre_cd (b d c:WCode):∀ (cs:List WCode) (s:WSt),CdW C base (cs.foldr .seq (.seq (.seq b d) c)) s=CdW C base ((cs++[b]).foldr .seq (.seq d c)) s:=by
 intro cs
 induction cs with
 | nil=>intro s;exact assoc_cd b d c s
 | cons a r ih =>
  intro s
  rw [List.cons_append,List.foldr_cons,List.foldr_cons,cw_seq,cw_seq,funext ih]
theorem head_cd (ok:OrcOk C orc) (cs:List WCode) (b:WCode) (a:Ann) (lb:WCode) (id:Nat) (al:Ann) {n:Nat} {s0 s t u:WSt}
 (h0:(ob (seqO C orc N base (cs++[b]) s0) (canon base a))=some s) (h1:iterO C orc N base a lb n s=some t) (h2:leaveO C orc N base id al lb t=some u) (c:WCode) :
 CdW C base (cs.foldr .seq (.seq (.seq b (.block id (.loop a lb) al)) c)) s0=CdW C base c u:=by
 obtain ⟨s1,h3,h4⟩:=ob_some h0
 rw [pre_cd,seqO_cd ok _ _ _ _ h3]
 exact block_cd ok a lb id al h4 h1 h2 c
theorem iter_chunks (a:Ann) (b:WCode) (k:Nat) (st:Nat→WSt):∀ m,(∀ i,i < m→iterO C orc N base a b k (st (i * k))=some (st (i * k+k)))→iterO C orc N base a b (m * k) (st 0)=some (st (m * k)):=by
 intro m
 induction m with
 | zero=>intro _;rw [Nat.zero_mul];rfl
 | succ m ih =>
  intro h
  rw [Nat.succ_mul]
  exact iterO_add a b _ _ _ _ _ (ih fun i hi=>h i (by omega)) (h m (by omega))
end
end Go.Pw
end
section
namespace Go.D
open Go Go.Pav Go.Pw P
def rwM (k:Int):List AV:=[.int .u64 k,.int .u8 0,.int .u8 1,.str [114,111,119],.str [],.ro 2 [] true,.str [],.ro 6 [] true]
def enM (k s:Int) (b:Bool):List AV:=[.int .u64 k,.int .u8 0,.str [],.ro 1 [] true,.int .i64 s,.bool b]
def mdM (l:List AV):List AV:=.bool true::.int .i64 20::.int .i64 0::.int .i64 1::.ro 9 [[.int .u8 1,.str [114,111,119],.str [],.ro 3 [] true,.str [],.ro 6 [] true,.int .i64 10,.bool false,.int .i64 1]] true::.int .i64 1::.int .i64 100::.int .u8 0::l
def msM:Nat→List AV
 | 0=>mdM [.ro 6 [] true,.int .i64 20,.int .i64 0,.ro 8 [] true,.ro 1 [[.ro 8 [] true]] true,.int .i64 0,.int .i64 0,.int .i64 0,.int .i64 0,.int .i64 1]
 | 1=>mdM [.ro 6 [enM 1 10 true,enM 2 25 true,enM 3 10 false,enM 4 10 false] true,.int .i64 20,.int .i64 0,.ro 8 [rwM 1,rwM 2] true,.ro 1 [[.ro 8 [] true]] true,.int .i64 1,.int .i64 0,.int .i64 2,.int .i64 0,.int .i64 3]
 | 2=>mdM [.ro 6 [enM 1 10 true,enM 2 25 true,enM 3 5 true,enM 4 10 true] true,.int .i64 20,.int .i64 30,.ro 8 [rwM 2,rwM 3,rwM 4] true,.ro 1 [[.ro 8 [] true]] true,.int .i64 1,.int .i64 1,.int .i64 1,.int .i64 0,.int .i64 4]
 | 3=>mdM [.ro 6 [enM 2 25 true,enM 3 5 true,enM 4 10 true] true,.int .i64 20,.int .i64 20,.ro 8 [rwM 2,rwM 3,rwM 4] true,.ro 1 [[.ro 8 [] true]] true,.int .i64 0,.int .i64 0,.int .i64 0,.int .i64 0,.int .i64 4]
 | 4=>mdM [.ro 6 [enM 3 5 true,enM 4 10 true] true,.int .i64 20,.int .i64 0,.ro 8 [rwM 3,rwM 4] true,.ro 1 [[.ro 8 [rwM 2] true]] true,.int .i64 0,.int .i64 0,.int .i64 0,.int .i64 0,.int .i64 4]
 | 5=>mdM [.ro 6 [enM 3 5 true,enM 4 10 true] true,.int .i64 20,.int .i64 0,.ro 8 [rwM 3,rwM 4] true,.ro 1 [[.ro 8 [rwM 2] true]] true,.int .i64 0,.int .i64 0,.int .i64 0,.int .i64 0,.int .i64 4]
 | 6=>mdM [.ro 6 [enM 3 5 true,enM 4 10 true] true,.int .i64 20,.int .i64 0,.ro 8 [rwM 3,rwM 4] true,.ro 1 [[.ro 8 [rwM 2] true]] true,.int .i64 0,.int .i64 0,.int .i64 0,.int .i64 0,.int .i64 4]
 | 7=>mdM [.ro 6 [enM 3 5 true,enM 4 10 true] true,.int .i64 20,.int .i64 0,.ro 8 [rwM 3,rwM 4] true,.ro 1 [[.ro 8 [rwM 2] true]] true,.int .i64 0,.int .i64 0,.int .i64 0,.int .i64 0,.int .i64 4]
 | 8=>mdM [.ro 6 [enM 3 5 true,enM 4 10 true] true,.int .i64 20,.int .i64 0,.ro 8 [rwM 3,rwM 4] true,.ro 1 [[.ro 8 [] true]] true,.int .i64 0,.int .i64 0,.int .i64 0,.int .i64 1,.int .i64 3]
 | _=>mdM [.ro 6 [enM 3 5 true,enM 4 1 true] true,.int .i64 20,.int .i64 0,.ro 8 [rwM 3,rwM 4] true,.ro 1 [[.ro 8 [] true]] true,.int .i64 0,.int .i64 0,.int .i64 0,.int .i64 0,.int .i64 3]
def hpM (i:Nat) (m:List AV):WHeap :=
 [(0,.cells 4 [[.int .i64 0,.int .i64 2,.int .i64 0,.int .i64 3],[.int .i64 1,.int .i64 1,.int .i64 0,.int .i64 4],[.int .i64 0,.int .i64 0,.int .i64 0,.int .i64 4],[.int .i64 0,.int .i64 0,.int .i64 0,.int .i64 4],[.int .i64 0,.int .i64 0,.int .i64 0,.int .i64 4],[.int .i64 0,.int .i64 0,.int .i64 0,.int .i64 4],[.int .i64 0,.int .i64 0,.int .i64 0,.int .i64 4],[.int .i64 0,.int .i64 0,.int .i64 1,.int .i64 3],[.int .i64 0,.int .i64 0,.int .i64 0,.int .i64 3]] true true),(1,.cells 1 [[.sl 2 1 0 2 2 true],[.sl 3 1 0 3 3 true],[.sl 4 1 0 3 3 true],[.sl 5 1 0 2 2 true],[.sl 6 1 0 2 2 true],[.sl 7 1 0 2 2 true],[.sl 8 1 0 2 2 true],[.sl 9 1 0 2 2 true],[.sl 10 1 0 2 2 true]] true false),(2,.cells 1 [[.int .u64 1],[.int .u64 2]] true true),(3,.cells 1 [[.int .u64 2],[.int .u64 3],[.int .u64 4]] true true),(4,.cells 1 [[.int .u64 2],[.int .u64 3],[.int .u64 4]] true true),(5,.cells 1 [[.int .u64 3],[.int .u64 4]] true true),(6,.cells 1 [[.int .u64 3],[.int .u64 4]] true true),(7,.cells 1 [[.int .u64 3],[.int .u64 4]] true true),(8,.cells 1 [[.int .u64 3],[.int .u64 4]] true true),(9,.cells 1 [[.int .u64 3],[.int .u64 4]] true true),(10,.cells 1 [[.int .u64 3],[.int .u64 4]] true true),(11,.cells 1 [[.int .i64 0],[.int .i64 0],[.int .i64 0],[.int .i64 0],[.int .i64 11],[.int .i64 4],[.int .i64 8],[.int .i64 0],[.int .i64 0]] true true),(12,.cells 5 [[.int .u8 5,.int .i64 0,.int .u64 0,.sl 13 5 0 1 1 true,.sl 14 2 0 1 1 true],[.int .u8 1,.int .i64 30,.int .u64 0,.ro 5 [] true,.sl 15 2 0 1 1 true],[.int .u8 5,.int .i64 0,.int .u64 0,.sl 16 5 0 1 1 true,.ro 2 [] true],[.int .u8 5,.int .i64 0,.int .u64 0,.sl 16 5 0 1 1 true,.ro 2 [] true],[.int .u8 3,.int .i64 0,.int .u64 9,.ro 5 [] true,.ro 2 [] true],[.int .u8 4,.int .i64 0,.int .u64 0,.ro 5 [] true,.ro 2 [] true],[.int .u8 5,.int .i64 0,.int .u64 0,.sl 17 5 0 1 1 true,.ro 2 [] true],[.int .u8 7,.int .i64 0,.int .u64 0,.ro 5 [] true,.ro 2 [] true],[.int .u8 6,.int .i64 0,.int .u64 0,.ro 5 [] true,.sl 18 2 0 1 1 true]] true false),(13,.cells 5 [[.int .u8 1,.int .i64 0,.int .i64 0,.int .i64 0,.ro 4 [[.int .u64 1,.int .u8 0,.str [],.ro 1 [] true],[.int .u64 2,.int .u8 0,.str [],.ro 1 [] true],[.int .u64 3,.int .u8 0,.str [],.ro 1 [] true],[.int .u64 4,.int .u8 0,.str [],.ro 1 [] true]] false]] (Nat.blt i 1) true),(14,.cells 2 [[.int .u64 2,.int .i64 25]] (Nat.blt i 1) true),(15,.cells 2 [[.int .u64 3,.int .i64 5]] (Nat.blt i 2) true),(16,.cells 5 [[.int .u8 2,.int .i64 0,.int .i64 1,.int .i64 0,.ro 4 [] true]] (Nat.blt i 3) true),(17,.cells 5 [[.int .u8 1,.int .i64 0,.int .i64 0,.int .i64 0,.ro 4 [[.int .u64 3,.int .u8 0,.str [],.ro 1 [] true]] false]] (Nat.blt i 7) true),(18,.cells 2 [[.int .u64 4,.int .i64 1]] (Nat.blt i 9) true),(19,.cells 18 [m] true true)]
def stMo (i:Nat):WSt:=⟨[(8,.int .i64 i),(7,.sl 0 4 0 9 9 true),(6,.sl 1 1 0 9 9 true),(5,.sl 11 1 0 9 9 true),(4,.sl 12 5 0 9 9 true),(1,.ptr 19 0 0)],hpM i (msM i),20⟩
def stM0:WSt:=⟨[],[],0⟩
def aMl:Ann:=⟨true,[8,7,6,5,4,1],[]⟩
def aMe:Ann:=⟨true,[],[]⟩
def csM:List WCode:=[sqA w634.body,sqA (sqB w634.body),sqA (sqB (sqB w634.body)),sqA (sqB (sqB (sqB w634.body))),sqA (sqB (sqB (sqB (sqB w634.body)))),sqA (sqB (sqB (sqB (sqB (sqB w634.body))))),sqA (sqB (sqB (sqB (sqB (sqB (sqB w634.body)))))),sqA (sqB (sqB (sqB (sqB (sqB (sqB (sqB w634.body)))))))]
def hdM:WCode:=sqA (sqA (sqB (sqB (sqB (sqB (sqB (sqB (sqB (sqB w634.body)))))))))
theorem shM:w634.body=csM.foldr .seq (.seq (.seq hdM (.block 0 (.loop aMl w634_B0) aMe)) w634_c0):=rfl
end Go.D
end
section
namespace Go.D
open Go Go.Pav Go.Pw P
variable {C:WProg}
def noM:Orc:=fun _ _=>none
theorem noM_ok (C:WProg):OrcOk C noM:=⟨fun _ _ _ h=>(by cases h),fun _ _ _ h=>(by cases h),fun _ _ _ h=>(by cases h),fun _ _ _ h=>(by cases h)⟩
structure LvRun (C:WProg) (N:Nat):Prop where
 a0:(ob (seqO C noM N 0 (csM++[hdM]) stM0) (canon 0 aMl))=some (stMo 0)
 aL:∀ i,i < 9→iterO C noM N 0 aMl w634_B0 1 (stMo (i * 1))=some (stMo (i * 1+1))
 aE:leaveO C noM N 0 0 aMe w634_B0 (stMo 9)=some stM0
 f:(ob (evO C noM N 0 w634_c0 stM0) fun r=>ob (fnEndW w634.res r) fun r=>frzW r.2.1 frzDepth r.1)=some (.bool true)
theorem lvm_ok (hf:C.fns.get 634=some w634) {N:Nat} (R:LvRun C N):FnW C 634 []=some (.bool true):=by
 have ok:=noM_ok C
 obtain ⟨r,h1,h2⟩:=ob_some R.f
 have hb:CdW C 0 w634.body ⟨[],[],0⟩=some r:=by
  rw [shM,show (⟨[],[],0⟩:WSt)=stM0 from rfl,
   head_cd ok csM hdM aMl w634_B0 0 aMe R.a0 (iter_chunks aMl w634_B0 1 stMo 9 R.aL) R.aE w634_c0]
  exact evO_cd ok _ _ _ _ _ h1
 exact fn_cd hf rfl hb h2
end Go.D
end
section
namespace Go.D
open Go Go.Pav Go.Pw P
attribute [-simp] List.getElem_cons_drop
variable {C:WProg}
def zM:List AV:=[.bool false,.int .i64 0,.int .i64 0,.int .i64 0,.ro 9 [] true,.int .i64 0,.int .i64 0,.int .u8 0,.ro 6 [] true,.int .i64 0,.int .i64 0,.ro 8 [] true,.ro 1 [] true,.int .i64 0,.int .i64 0,.int .i64 0,.int .i64 0,.int .i64 0]
def zSl:AV:=.agg [.int .i64 0,.ro 9 [] true,.bool false,.int .u64 0,.int .i64 0,.int .i64 0,.int .u8 0,.str [],.str [],.ro 2 [] true,.str [],.ro 6 [] true]
def zSt:AV:=.agg [.ro 8 [] true,.ro 1 [] true]
structure HasNo (C:WProg):Prop where
 f632:C.fns.get 632=some w632
 f642:C.fns.get 642=some w642
 inl:C.inl=inlB
 pp:C.pp=ppB
structure NoneRun (C:WProg):Prop where
 lives:FnW C 634 []=some (.bool true)
 view:FnW C 638 [.agg zM]=some (.int .i64 0)
 offset:FnW C 643 [.agg zM]=some (.int .i64 0)
 rounds:FnW C 644 [.agg zM]=some (.int .i64 0)
 counts:FnW C 645 [.agg zM]=some (.agg [.int .i64 0,.int .i64 0,.int .i64 0,.int .i64 0])
 list:FnW C 646 [.agg zM]=some (.agg [.ro 6 [] true])
 attached:FnW C 647 [.agg zM]=some (.ro 1 [] true)
 slice:FnW C 648 [.agg zM]=some zSl
 rows:FnW C 649 [.agg zM]=some zSt
 config:FnW C 639 [.agg zM]=some (.agg [.int .i64 0,.int .i64 0,.int .i64 0,.ro 9 [] true,.int .i64 0,.int .i64 0,.int .u8 0])
 same27:FnW C 127 [zSl,zSl]=some (.int .i64 1)
 same32:FnW C 286 [zSt,zSt]=some (.int .i64 1)
theorem do_none (H:HasNo C) (a b c:Int) (ns hs:List (List AV)) (e1 e2:Bool) :
 FnW C 642 [.agg zM,.agg [.int .u8 a,.int .i64 b,.int .u64 c,.ro 5 ns e1,.ro 2 hs e2]]=some (.tup [.agg zM,.int .i64 2]):=by
 rw [fnW_eq H.f642 rfl]
 simp [w642,zM,H.inl,inlB,H.pp,ppB]
theorem none_ok (H:HasNo C) (R:NoneRun C) (a b c:Int) (ns hs:List (List AV)) (e1 e2:Bool) :
 FnW C 632 [.agg [.int .u8 a,.int .i64 b,.int .u64 c,.ro 5 ns e1,.ro 2 hs e2]]=some (.bool true):=by
 have h1:=do_none H a b c ns hs e1 e2
 obtain ⟨r1,r2,r3,r4,r5,r6,r7,r8,r9,r10,r11,r12⟩:=R
 rw [fnW_eq H.f632 rfl]
 simp only [zM,zSl,zSt] at h1 r2 r3 r4 r5 r6 r7 r8 r9 r10 r11 r12
 by_cases h:40 < (ns.length:Int)
 · simp [w632,H.inl,inlB,H.pp,ppB,h,r1]
 · simp [w632,H.inl,inlB,H.pp,ppB,h,h1,r1,r2,r3,r4,r5,r6,r7,r8,r9,r10,r11,r12]
end Go.D
end
