/- Part of the theory that the claims of this work use: L24, PwGlueR, PwGlueR2, G00R, GL, PwOrc, PwRun, X01, X02, D02, D03, D04, D05, D06, D07, D08, D09, D10, D11, D12, D13, D14, D15, D16, D17, D18, D19, D20, D21. No conditions of its own. -/
import Derived.Test.YtggfejahifmgoaaGreatDoorT6
import Derived.Test.YtggfejahifmgoaaGreatDoorChecked
import Derived.KernelRfl
import Derived.ChangeSame
import Derived.ChangeArms
import Derived.ReadAgain
import Derived.Handed
import Derived.JoinedOf
import Derived.RowKit
import Derived.Test.YtggfejahifmgoaaGreatDoorRows
import Derived.ProofKit
import Derived.LaidLaws
import Derived.LaidHandle
import Derived.Stop.Joined
import Derived.Sort.Walk0
set_option linter.unusedVariables false
set_option linter.unusedSimpArgs false
set_option maxHeartbeats 4000000
set_option maxRecDepth 10000
section
set_option maxRecDepth 100000
namespace P
open Go Go.Pav Go.Pw Go.Proofs
theorem l0 {lay:Nat->Option Obj}:FnOk Tryz.prog lay ids alts 0 (erFn w0):=.inl ⟨Tryz.f2,Tryz.func2,by kernel_rfl⟩
theorem l99 {lay:Nat->Option Obj}:FnOk Tryz.prog lay ids alts 99 (erFn w99):=.inl ⟨Tryz.f178,Tryz.func178,by kernel_rfl⟩
theorem l108 {lay:Nat->Option Obj}:FnOk Tryz.prog lay ids alts 108 (erFn w108):=.inl ⟨Tryz.f249,Tryz.func249,by kernel_rfl⟩
theorem l109 {lay:Nat->Option Obj}:FnOk Tryz.prog lay ids alts 109 (erFn w109):=.inl ⟨Tryz.f242,Tryz.func242,by kernel_rfl⟩
theorem l110 {lay:Nat->Option Obj}:FnOk Tryz.prog lay ids alts 110 (erFn w110):=.inl ⟨Tryz.f40,Tryz.func40,by kernel_rfl⟩
theorem l111 {lay:Nat->Option Obj}:FnOk Tryz.prog lay ids alts 111 (erFn w111):=.inl ⟨Tryz.f105,Tryz.func105,by kernel_rfl⟩
theorem FZ {lay:Nat->Option Obj}:FnOk Tryz.prog lay ids alts 112 (erFn w112):=.inl ⟨Tryz.f56,Tryz.func56,by kernel_rfl⟩
theorem l113 {lay:Nat->Option Obj}:FnOk Tryz.prog lay ids alts 113 (erFn w113):=.inl ⟨Tryz.f148,Tryz.func148,by kernel_rfl⟩
theorem l114 {lay:Nat->Option Obj}:FnOk Tryz.prog lay ids alts 114 (erFn w114):=.inl ⟨Tryz.f247,Tryz.func247,by kernel_rfl⟩
theorem l115 {lay:Nat->Option Obj}:FnOk Tryz.prog lay ids alts 115 (erFn w115):=.inl ⟨Tryz.f53,Tryz.func53,by kernel_rfl⟩
theorem l120 {lay:Nat->Option Obj}:FnOk Tryz.prog lay ids alts 120 (erFn w120):=.inl ⟨Tryz.f106,Tryz.func106,by kernel_rfl⟩
theorem l121 {lay:Nat->Option Obj}:FnOk Tryz.prog lay ids alts 121 (erFn w121):=.inl ⟨Tryz.f78,Tryz.func78,by kernel_rfl⟩
theorem l122 {lay:Nat->Option Obj}:FnOk Tryz.prog lay ids alts 122 (erFn w122):=.inl ⟨Tryz.f142,Tryz.func142,by kernel_rfl⟩
theorem l125 {lay:Nat->Option Obj}:FnOk Tryz.prog lay ids alts 125 (erFn w125):=.inl ⟨Tryz.f44,Tryz.func44,by kernel_rfl⟩
theorem l127 {lay:Nat->Option Obj}:FnOk Tryz.prog lay ids alts 127 (erFn w127):=.inl ⟨Tryz.f20,Tryz.func20,by kernel_rfl⟩
theorem ES {lay:Nat->Option Obj}:FnOk Tryz.prog lay ids alts 131 (erFn wM):=.inl ⟨Tryz.f95,Tryz.func95,by kernel_rfl⟩
theorem l132 {lay:Nat->Option Obj}:FnOk Tryz.prog lay ids alts 132 (erFn w132):=.inl ⟨Tryz.f74,Tryz.func74,by kernel_rfl⟩
theorem Fv {lay:Nat->Option Obj}:FnOk Tryz.prog lay ids alts 133 (erFn vC):=.inl ⟨Tryz.f57,Tryz.func57,by kernel_rfl⟩
theorem l134 {lay:Nat->Option Obj}:FnOk Tryz.prog lay ids alts 134 (erFn w134):=.inl ⟨Tryz.f42,Tryz.func42,by kernel_rfl⟩
theorem Ez {lay:Nat->Option Obj}:FnOk Tryz.prog lay ids alts 136 (erFn BL):=.inl ⟨Tryz.f34,Tryz.func34,by kernel_rfl⟩
theorem l138 {lay:Nat->Option Obj}:FnOk Tryz.prog lay ids alts 138 (erFn w138):=.inl ⟨Tryz.f28,Tryz.func28,by kernel_rfl⟩
theorem l139 {lay:Nat->Option Obj}:FnOk Tryz.prog lay ids alts 139 (erFn w139):=.inl ⟨Tryz.f115,Tryz.func115,by kernel_rfl⟩
theorem l140 {lay:Nat->Option Obj}:FnOk Tryz.prog lay ids alts 140 (erFn w140):=.inl ⟨Tryz.f166,Tryz.func166,by kernel_rfl⟩
theorem Ei {lay:Nat->Option Obj}:FnOk Tryz.prog lay ids alts 149 (erFn vg):=.inl ⟨Tryz.f96,Tryz.func96,by kernel_rfl⟩
theorem EF {lay:Nat->Option Obj}:FnOk Tryz.prog lay ids alts 151 (erFn zG):=.inl ⟨Tryz.f99,Tryz.func99,by kernel_rfl⟩
theorem l160 {lay:Nat->Option Obj}:FnOk Tryz.prog lay ids alts 160 (erFn w160):=.inl ⟨Tryz.f65,Tryz.func65,by kernel_rfl⟩
theorem l161 {lay:Nat->Option Obj}:FnOk Tryz.prog lay ids alts 161 (erFn w161):=.inl ⟨Tryz.f188,Tryz.func188,by kernel_rfl⟩
theorem l171 {lay:Nat->Option Obj}:FnOk Tryz.prog lay ids alts 171 (erFn w171):=.inl ⟨Tryz.f146,Tryz.func146,by kernel_rfl⟩
theorem FU {lay:Nat->Option Obj}:FnOk Tryz.prog lay ids alts 172 (erFn w172):=.inl ⟨Tryz.f33,Tryz.func33,by kernel_rfl⟩
theorem l174 {lay:Nat->Option Obj}:FnOk Tryz.prog lay ids alts 174 (erFn w174):=.inl ⟨Tryz.f114,Tryz.func114,by kernel_rfl⟩
theorem l192 {lay:Nat->Option Obj}:FnOk Tryz.prog lay ids alts 192 (erFn w192):=.inl ⟨Tryz.f213,Tryz.func213,by kernel_rfl⟩
theorem l201 {lay:Nat->Option Obj}:FnOk Tryz.prog lay ids alts 201 (erFn w201):=.inl ⟨Tryz.f103,Tryz.func103,by kernel_rfl⟩
theorem l216 {lay:Nat->Option Obj}:FnOk Tryz.prog lay ids alts 216 (erFn w216):=.inl ⟨Tryz.f69,Tryz.func69,by kernel_rfl⟩
theorem l217 {lay:Nat->Option Obj}:FnOk Tryz.prog lay ids alts 217 (erFn w217):=.inl ⟨Tryz.f258,Tryz.func258,by kernel_rfl⟩
theorem l218 {lay:Nat->Option Obj}:FnOk Tryz.prog lay ids alts 218 (erFn w218):=.inl ⟨Tryz.f263,Tryz.func263,by kernel_rfl⟩
theorem l219 {lay:Nat->Option Obj}:FnOk Tryz.prog lay ids alts 219 (erFn w219):=.inl ⟨Tryz.f70,Tryz.func70,by kernel_rfl⟩
theorem l220 {lay:Nat->Option Obj}:FnOk Tryz.prog lay ids alts 220 (erFn w220):=.inl ⟨Tryz.f259,Tryz.func259,by kernel_rfl⟩
theorem l221 {lay:Nat->Option Obj}:FnOk Tryz.prog lay ids alts 221 (erFn w221):=.inl ⟨Tryz.f72,Tryz.func72,by kernel_rfl⟩
theorem l222 {lay:Nat->Option Obj}:FnOk Tryz.prog lay ids alts 222 (erFn w222):=.inl ⟨Tryz.f71,Tryz.func71,by kernel_rfl⟩
theorem l223 {lay:Nat->Option Obj}:FnOk Tryz.prog lay ids alts 223 (erFn w223):=.inl ⟨Tryz.f73,Tryz.func73,by kernel_rfl⟩
theorem l224 {lay:Nat->Option Obj}:FnOk Tryz.prog lay ids alts 224 (erFn w224):=.inl ⟨Tryz.f145,Tryz.func145,by kernel_rfl⟩
theorem l225 {lay:Nat->Option Obj}:FnOk Tryz.prog lay ids alts 225 (erFn w225):=.inl ⟨Tryz.f92,Tryz.func92,by kernel_rfl⟩
theorem l226 {lay:Nat->Option Obj}:FnOk Tryz.prog lay ids alts 226 (erFn w226):=.inl ⟨Tryz.f118,Tryz.func118,by kernel_rfl⟩
theorem l227 {lay:Nat->Option Obj}:FnOk Tryz.prog lay ids alts 227 (erFn w227):=.inl ⟨Tryz.f120,Tryz.func120,by kernel_rfl⟩
theorem l228 {lay:Nat->Option Obj}:FnOk Tryz.prog lay ids alts 228 (erFn w228):=.inl ⟨Tryz.f261,Tryz.func261,by kernel_rfl⟩
theorem l229 {lay:Nat->Option Obj}:FnOk Tryz.prog lay ids alts 229 (erFn w229):=.inl ⟨Tryz.f262,Tryz.func262,by kernel_rfl⟩
theorem l230 {lay:Nat->Option Obj}:FnOk Tryz.prog lay ids alts 230 (erFn w230):=.inl ⟨Tryz.f91,Tryz.func91,by kernel_rfl⟩
theorem l231 {lay:Nat->Option Obj}:FnOk Tryz.prog lay ids alts 231 (erFn w231):=.inl ⟨Tryz.f93,Tryz.func93,by kernel_rfl⟩
theorem l232 {lay:Nat->Option Obj}:FnOk Tryz.prog lay ids alts 232 (erFn w232):=.inl ⟨Tryz.f32,Tryz.func32,by kernel_rfl⟩
theorem FC {lay:Nat->Option Obj}:FnOk Tryz.prog lay ids alts 235 (erFn w235):=.inl ⟨Tryz.f94,Tryz.func94,by kernel_rfl⟩
theorem EM {lay:Nat->Option Obj}:FnOk Tryz.prog lay ids alts 236 (erFn w236):=.inl ⟨Tryz.f47,Tryz.func47,by kernel_rfl⟩
theorem l237 {lay:Nat->Option Obj}:FnOk Tryz.prog lay ids alts 237 (erFn w237):=.inl ⟨Tryz.f245,Tryz.func245,by kernel_rfl⟩
theorem l238 {lay:Nat->Option Obj}:FnOk Tryz.prog lay ids alts 238 (erFn w238):=.inl ⟨Tryz.f123,Tryz.func123,by kernel_rfl⟩
theorem Gf {lay:Nat->Option Obj}:FnOk Tryz.prog lay ids alts 239 (erFn w239):=.inl ⟨Tryz.f133,Tryz.func133,by kernel_rfl⟩
theorem l246 {lay:Nat->Option Obj}:FnOk Tryz.prog lay ids alts 246 (erFn w246):=.inl ⟨Tryz.f104,Tryz.func104,by kernel_rfl⟩
theorem l247 {lay:Nat->Option Obj}:FnOk Tryz.prog lay ids alts 247 (erFn w247):=.inl ⟨Tryz.f122,Tryz.func122,by kernel_rfl⟩
theorem l248 {lay:Nat->Option Obj}:FnOk Tryz.prog lay ids alts 248 (erFn w248):=.inl ⟨Tryz.f121,Tryz.func121,by kernel_rfl⟩
theorem l249 {lay:Nat->Option Obj}:FnOk Tryz.prog lay ids alts 249 (erFn w249):=.inl ⟨Tryz.f179,Tryz.func179,by kernel_rfl⟩
theorem l250 {lay:Nat->Option Obj}:FnOk Tryz.prog lay ids alts 250 (erFn w250):=.inl ⟨Tryz.f180,Tryz.func180,by kernel_rfl⟩
theorem F6 {lay:Nat->Option Obj}:FnOk Tryz.prog lay ids alts 251 (erFn BM):=.inl ⟨Tryz.f174,Tryz.func174,by kernel_rfl⟩
theorem Fp {lay:Nat->Option Obj}:FnOk Tryz.prog lay ids alts 252 (erFn vO):=.inl ⟨Tryz.f135,Tryz.func135,by kernel_rfl⟩
theorem Fz {lay:Nat->Option Obj}:FnOk Tryz.prog lay ids alts 253 (erFn CY):=.inl ⟨Tryz.f137,Tryz.func137,by kernel_rfl⟩
theorem EO {lay:Nat->Option Obj}:FnOk Tryz.prog lay ids alts 257 (erFn wP):=.inl ⟨Tryz.f58,Tryz.func58,by kernel_rfl⟩
theorem l260 {lay:Nat->Option Obj}:FnOk Tryz.prog lay ids alts 260 (erFn w260):=.inl ⟨Tryz.f43,Tryz.func43,by kernel_rfl⟩
theorem FT {lay:Nat->Option Obj}:FnOk Tryz.prog lay ids alts 261 (erFn zW):=.inl ⟨Tryz.f98,Tryz.func98,by kernel_rfl⟩
theorem l262 {lay:Nat->Option Obj}:FnOk Tryz.prog lay ids alts 262 (erFn w262):=.inl ⟨Tryz.f79,Tryz.func79,by kernel_rfl⟩
theorem l263 {lay:Nat->Option Obj}:FnOk Tryz.prog lay ids alts 263 (erFn w263):=.inl ⟨Tryz.f80,Tryz.func80,by kernel_rfl⟩
theorem l264 {lay:Nat->Option Obj}:FnOk Tryz.prog lay ids alts 264 (erFn w264):=.inl ⟨Tryz.f81,Tryz.func81,by kernel_rfl⟩
theorem l265 {lay:Nat->Option Obj}:FnOk Tryz.prog lay ids alts 265 (erFn w265):=.inl ⟨Tryz.f82,Tryz.func82,by kernel_rfl⟩
theorem Fg {lay:Nat->Option Obj}:FnOk Tryz.prog lay ids alts 271 (erFn w271):=.inl ⟨Tryz.f131,Tryz.func131,by kernel_rfl⟩
theorem l272 {lay:Nat->Option Obj}:FnOk Tryz.prog lay ids alts 272 (erFn AY):=.inl ⟨Tryz.f97,Tryz.func97,by kernel_rfl⟩
theorem l273 {lay:Nat->Option Obj}:FnOk Tryz.prog lay ids alts 273 (erFn w273):=.inl ⟨Tryz.f75,Tryz.func75,by kernel_rfl⟩
theorem l274 {lay:Nat->Option Obj}:FnOk Tryz.prog lay ids alts 274 (erFn w274):=.inl ⟨Tryz.f76,Tryz.func76,by kernel_rfl⟩
theorem l276 {lay:Nat->Option Obj}:FnOk Tryz.prog lay ids alts 276 (erFn w276):=.inl ⟨Tryz.f220,Tryz.func220,by kernel_rfl⟩
theorem l277 {lay:Nat->Option Obj}:FnOk Tryz.prog lay ids alts 277 (erFn w277):=.inl ⟨Tryz.f31,Tryz.func31,by kernel_rfl⟩
theorem l278 {lay:Nat->Option Obj}:FnOk Tryz.prog lay ids alts 278 (erFn w278):=.inl ⟨Tryz.f83,Tryz.func83,by kernel_rfl⟩
theorem l279 {lay:Nat->Option Obj}:FnOk Tryz.prog lay ids alts 279 (erFn w279):=.inl ⟨Tryz.f54,Tryz.func54,by kernel_rfl⟩
theorem l280 {lay:Nat->Option Obj}:FnOk Tryz.prog lay ids alts 280 (erFn w280):=.inl ⟨Tryz.f152,Tryz.func152,by kernel_rfl⟩
theorem l281 {lay:Nat->Option Obj}:FnOk Tryz.prog lay ids alts 281 (erFn w281):=.inl ⟨Tryz.f84,Tryz.func84,by kernel_rfl⟩
theorem l282 {lay:Nat->Option Obj}:FnOk Tryz.prog lay ids alts 282 (erFn w282):=.inl ⟨Tryz.f202,Tryz.func202,by kernel_rfl⟩
theorem l286 {lay:Nat->Option Obj}:FnOk Tryz.prog lay ids alts 286 (erFn w286):=.inl ⟨Tryz.f22,Tryz.func22,by kernel_rfl⟩
theorem l289 {lay:Nat->Option Obj}:FnOk Tryz.prog lay ids alts 289 (erFn w289):=.inl ⟨Tryz.f192,Tryz.func192,by kernel_rfl⟩
theorem l290 {lay:Nat->Option Obj}:FnOk Tryz.prog lay ids alts 290 (erFn w290):=.inl ⟨Tryz.f46,Tryz.func46,by kernel_rfl⟩
theorem Fe {lay:Nat->Option Obj}:FnOk Tryz.prog lay ids alts 295 (erFn lM):=.inl ⟨Tryz.f27,Tryz.func27,by kernel_rfl⟩
theorem Fj {lay:Nat->Option Obj}:FnOk Tryz.prog lay ids alts 296 (erFn vY):=.inl ⟨Tryz.f37,Tryz.func37,by kernel_rfl⟩
theorem Fa {lay:Nat->Option Obj}:FnOk Tryz.prog lay ids alts 299 (erFn xk):=.inl ⟨Tryz.f48,Tryz.func48,by kernel_rfl⟩
theorem EZ {lay:Nat->Option Obj}:FnOk Tryz.prog lay ids alts 304 (erFn Dj):=.inl ⟨Tryz.f136,Tryz.func136,by kernel_rfl⟩
theorem l313 {lay:Nat->Option Obj}:FnOk Tryz.prog lay ids alts 313 (erFn w313):=.inl ⟨Tryz.f181,Tryz.func181,by kernel_rfl⟩
theorem l315 {lay:Nat->Option Obj}:FnOk Tryz.prog lay ids alts 315 (erFn w315):=.inl ⟨Tryz.f144,Tryz.func144,by kernel_rfl⟩
theorem l318 {lay:Nat->Option Obj}:FnOk Tryz.prog lay ids alts 318 (erFn w318):=.inl ⟨Tryz.f187,Tryz.func187,by kernel_rfl⟩
theorem l322 {lay:Nat->Option Obj}:FnOk Tryz.prog lay ids alts 322 (erFn w322):=.inl ⟨Tryz.f214,Tryz.func214,by kernel_rfl⟩
theorem l323 {lay:Nat->Option Obj}:FnOk Tryz.prog lay ids alts 323 (erFn w323):=.inl ⟨Tryz.f218,Tryz.func218,by kernel_rfl⟩
theorem l324 {lay:Nat->Option Obj}:FnOk Tryz.prog lay ids alts 324 (erFn w324):=.inr (Go.Proofs.H28.after_prim _ _ rfl).rule
theorem EU {lay:Nat->Option Obj}:FnOk Tryz.prog lay ids alts 327 (erFn vI):=.inl ⟨Tryz.f175,Tryz.func175,by kernel_rfl⟩
theorem l336 {lay:Nat->Option Obj}:FnOk Tryz.prog lay ids alts 336 (erFn w336):=.inl ⟨Tryz.f215,Tryz.func215,by kernel_rfl⟩
theorem l340 {lay:Nat->Option Obj}:FnOk Tryz.prog lay ids alts 340 (erFn w340):=.inl ⟨Tryz.f161,Tryz.func161,by kernel_rfl⟩
theorem l343 {lay:Nat->Option Obj}:FnOk Tryz.prog lay ids alts 343 (erFn w343):=.inl ⟨Tryz.f184,Tryz.func184,by kernel_rfl⟩
theorem l344 {lay:Nat->Option Obj}:FnOk Tryz.prog lay ids alts 344 (erFn w344):=.inl ⟨Tryz.f149,Tryz.func149,by kernel_rfl⟩
theorem l351 {lay:Nat->Option Obj}:FnOk Tryz.prog lay ids alts 351 (erFn w351):=.inl ⟨Tryz.f190,Tryz.func190,by kernel_rfl⟩
theorem l367 {lay:Nat->Option Obj}:FnOk Tryz.prog lay ids alts 367 (erFn w367):=.inl ⟨Tryz.f240,Tryz.func240,by kernel_rfl⟩
theorem l379 {lay:Nat->Option Obj}:FnOk Tryz.prog lay ids alts 379 (erFn w379):=.inl ⟨Tryz.f141,Tryz.func141,by kernel_rfl⟩
theorem l398 {lay:Nat->Option Obj}:FnOk Tryz.prog lay ids alts 398 (erFn w398):=.inl ⟨Tryz.f116,Tryz.func116,by kernel_rfl⟩
theorem l399 {lay:Nat->Option Obj}:FnOk Tryz.prog lay ids alts 399 (erFn w399):=.inl ⟨Tryz.f117,Tryz.func117,by kernel_rfl⟩
theorem l400 {lay:Nat->Option Obj}:FnOk Tryz.prog lay ids alts 400 (erFn w400):=.inl ⟨Tryz.f119,Tryz.func119,by kernel_rfl⟩
theorem l401 {lay:Nat->Option Obj}:FnOk Tryz.prog lay ids alts 401 (erFn w401):=.inl ⟨Tryz.f267,Tryz.func267,by kernel_rfl⟩
theorem l402 {lay:Nat->Option Obj}:FnOk Tryz.prog lay ids alts 402 (erFn w402):=.inl ⟨Tryz.f182,Tryz.func182,by kernel_rfl⟩
theorem l403 {lay:Nat->Option Obj}:FnOk Tryz.prog lay ids alts 403 (erFn w403):=.inl ⟨Tryz.f183,Tryz.func183,by kernel_rfl⟩
theorem l404 {lay:Nat->Option Obj}:FnOk Tryz.prog lay ids alts 404 (erFn w404):=.inl ⟨Tryz.f130,Tryz.func130,by kernel_rfl⟩
theorem l405 {lay:Nat->Option Obj}:FnOk Tryz.prog lay ids alts 405 (erFn w405):=.inl ⟨Tryz.f55,Tryz.func55,by kernel_rfl⟩
theorem EL {lay:Nat->Option Obj}:FnOk Tryz.prog lay ids alts 406 (erFn w406):=.inl ⟨Tryz.f132,Tryz.func132,by kernel_rfl⟩
theorem Gj {lay:Nat->Option Obj}:FnOk Tryz.prog lay ids alts 407 (erFn w407):=.inl ⟨Tryz.f134,Tryz.func134,by kernel_rfl⟩
theorem FQ {lay:Nat->Option Obj}:FnOk Tryz.prog lay ids alts 408 (erFn w408):=.inl ⟨Tryz.f86,Tryz.func86,by kernel_rfl⟩
theorem l409 {lay:Nat->Option Obj}:FnOk Tryz.prog lay ids alts 409 (erFn w409):=.inl ⟨Tryz.f260,Tryz.func260,by kernel_rfl⟩
theorem l411 {lay:Nat->Option Obj}:FnOk Tryz.prog lay ids alts 411 (erFn w411):=.inl ⟨Tryz.f162,Tryz.func162,by kernel_rfl⟩
theorem l412 {lay:Nat->Option Obj}:FnOk Tryz.prog lay ids alts 412 (erFn w412):=.inl ⟨Tryz.f163,Tryz.func163,by kernel_rfl⟩
theorem l415 {lay:Nat->Option Obj}:FnOk Tryz.prog lay ids alts 415 (erFn w415):=.inl ⟨Tryz.f77,Tryz.func77,by kernel_rfl⟩
theorem FM {lay:Nat->Option Obj}:FnOk Tryz.prog lay ids alts 416 (erFn Aq):=.inl ⟨Tryz.f138,Tryz.func138,by kernel_rfl⟩
theorem F5 {lay:Nat->Option Obj}:FnOk Tryz.prog lay ids alts 417 (erFn Ak):=.inl ⟨Tryz.f139,Tryz.func139,by kernel_rfl⟩
theorem l418 {lay:Nat->Option Obj}:FnOk Tryz.prog lay ids alts 418 (erFn w418):=.inl ⟨Tryz.f124,Tryz.func124,by kernel_rfl⟩
theorem FX {lay:Nat->Option Obj}:FnOk Tryz.prog lay ids alts 424 (erFn w424):=.inl ⟨Tryz.f171,Tryz.func171,by kernel_rfl⟩
theorem FP {lay:Nat->Option Obj}:FnOk Tryz.prog lay ids alts 425 (erFn w425):=.inl ⟨Tryz.f172,Tryz.func172,by kernel_rfl⟩
theorem l426 {lay:Nat->Option Obj}:FnOk Tryz.prog lay ids alts 426 (erFn w426):=.inl ⟨Tryz.f250,Tryz.func250,by kernel_rfl⟩
theorem l427 {lay:Nat->Option Obj}:FnOk Tryz.prog lay ids alts 427 (erFn w427):=.inl ⟨Tryz.f52,Tryz.func52,by kernel_rfl⟩
theorem l428 {lay:Nat->Option Obj}:FnOk Tryz.prog lay ids alts 428 (erFn w428):=.inl ⟨Tryz.f125,Tryz.func125,by kernel_rfl⟩
theorem l429 {lay:Nat->Option Obj}:FnOk Tryz.prog lay ids alts 429 (erFn w429):=.inl ⟨Tryz.f126,Tryz.func126,by kernel_rfl⟩
theorem l430 {lay:Nat->Option Obj}:FnOk Tryz.prog lay ids alts 430 (erFn w430):=.inl ⟨Tryz.f127,Tryz.func127,by kernel_rfl⟩
theorem l432 {lay:Nat->Option Obj}:FnOk Tryz.prog lay ids alts 432 (erFn w432):=.inl ⟨Tryz.f85,Tryz.func85,by kernel_rfl⟩
theorem l433 {lay:Nat->Option Obj}:FnOk Tryz.prog lay ids alts 433 (erFn w433):=.inl ⟨Tryz.f231,Tryz.func231,by kernel_rfl⟩
theorem l434 {lay:Nat->Option Obj}:FnOk Tryz.prog lay ids alts 434 (erFn w434):=.inl ⟨Tryz.f232,Tryz.func232,by kernel_rfl⟩
theorem l437 {lay:Nat->Option Obj}:FnOk Tryz.prog lay ids alts 437 (erFn w437):=.inl ⟨Tryz.f45,Tryz.func45,by kernel_rfl⟩
theorem l438 {lay:Nat->Option Obj}:FnOk Tryz.prog lay ids alts 438 (erFn w438):=.inl ⟨Tryz.f223,Tryz.func223,by kernel_rfl⟩
theorem l439 {lay:Nat->Option Obj}:FnOk Tryz.prog lay ids alts 439 (erFn w439):=.inl ⟨Tryz.f164,Tryz.func164,by kernel_rfl⟩
theorem F8 {lay:Nat->Option Obj}:FnOk Tryz.prog lay ids alts 441 (erFn w441):=.inl ⟨Tryz.f176,Tryz.func176,by kernel_rfl⟩
theorem FD {lay:Nat->Option Obj}:FnOk Tryz.prog lay ids alts 442 (erFn w442):=.inl ⟨Tryz.f210,Tryz.func210,by kernel_rfl⟩
theorem l457 {lay:Nat->Option Obj}:FnOk Tryz.prog lay ids alts 457 (erFn w457):=.inl ⟨Tryz.f216,Tryz.func216,by kernel_rfl⟩
theorem l459 {lay:Nat->Option Obj}:FnOk Tryz.prog lay ids alts 459 (erFn w459):=.inl ⟨Tryz.f198,Tryz.func198,by kernel_rfl⟩
theorem l460 {lay:Nat->Option Obj}:FnOk Tryz.prog lay ids alts 460 (erFn w460):=.inl ⟨Tryz.f199,Tryz.func199,by kernel_rfl⟩
theorem l464 {lay:Nat->Option Obj}:FnOk Tryz.prog lay ids alts 464 (erFn w464):=.inl ⟨Tryz.f186,Tryz.func186,by kernel_rfl⟩
theorem l466 {lay:Nat->Option Obj}:FnOk Tryz.prog lay ids alts 466 (erFn w466):=.inl ⟨Tryz.f221,Tryz.func221,by kernel_rfl⟩
theorem l467 {lay:Nat->Option Obj}:FnOk Tryz.prog lay ids alts 467 (erFn w467):=.inl ⟨Tryz.f222,Tryz.func222,by kernel_rfl⟩
theorem l494 {lay:Nat->Option Obj}:FnOk Tryz.prog lay ids alts 494 (erFn w494):=.inl ⟨Tryz.f153,Tryz.func153,by kernel_rfl⟩
theorem l495 {lay:Nat->Option Obj}:FnOk Tryz.prog lay ids alts 495 (erFn w495):=.inl ⟨Tryz.f154,Tryz.func154,by kernel_rfl⟩
theorem l496 {lay:Nat->Option Obj}:FnOk Tryz.prog lay ids alts 496 (erFn w496):=.inl ⟨Tryz.f155,Tryz.func155,by kernel_rfl⟩
theorem l497 {lay:Nat->Option Obj}:FnOk Tryz.prog lay ids alts 497 (erFn w497):=.inl ⟨Tryz.f156,Tryz.func156,by kernel_rfl⟩
theorem l498 {lay:Nat->Option Obj}:FnOk Tryz.prog lay ids alts 498 (erFn w498):=.inl ⟨Tryz.f157,Tryz.func157,by kernel_rfl⟩
theorem l499 {lay:Nat->Option Obj}:FnOk Tryz.prog lay ids alts 499 (erFn w499):=.inl ⟨Tryz.f158,Tryz.func158,by kernel_rfl⟩
theorem l500 {lay:Nat->Option Obj}:FnOk Tryz.prog lay ids alts 500 (erFn w500):=.inl ⟨Tryz.f159,Tryz.func159,by kernel_rfl⟩
theorem l501 {lay:Nat->Option Obj}:FnOk Tryz.prog lay ids alts 501 (erFn w501):=.inl ⟨Tryz.f160,Tryz.func160,by kernel_rfl⟩
theorem l502 {lay:Nat->Option Obj}:FnOk Tryz.prog lay ids alts 502 (erFn w502):=.inl ⟨Tryz.f169,Tryz.func169,by kernel_rfl⟩
theorem l503 {lay:Nat->Option Obj}:FnOk Tryz.prog lay ids alts 503 (erFn w503):=.inl ⟨Tryz.f170,Tryz.func170,by kernel_rfl⟩
theorem Fq {lay:Nat->Option Obj}:FnOk Tryz.prog lay ids alts 504 (erFn w504):=.inl ⟨Tryz.f173,Tryz.func173,by kernel_rfl⟩
theorem ED {lay:Nat->Option Obj}:FnOk Tryz.prog lay ids alts 505 (erFn w505):=.inl ⟨Tryz.f129,Tryz.func129,by kernel_rfl⟩
theorem l507 {lay:Nat->Option Obj}:FnOk Tryz.prog lay ids alts 507 (erFn w507):=.inl ⟨Tryz.f165,Tryz.func165,by kernel_rfl⟩
theorem FB {lay:Nat->Option Obj}:FnOk Tryz.prog lay ids alts 510 (erFn w510):=.inl ⟨Tryz.f206,Tryz.func206,by kernel_rfl⟩
theorem E8 {lay:Nat->Option Obj}:FnOk Tryz.prog lay ids alts 511 (erFn w511):=.inl ⟨Tryz.f207,Tryz.func207,by kernel_rfl⟩
theorem Fh {lay:Nat->Option Obj}:FnOk Tryz.prog lay ids alts 512 (erFn w512):=.inl ⟨Tryz.f208,Tryz.func208,by kernel_rfl⟩
theorem F9 {lay:Nat->Option Obj}:FnOk Tryz.prog lay ids alts 513 (erFn w513):=.inl ⟨Tryz.f209,Tryz.func209,by kernel_rfl⟩
theorem l514 {lay:Nat->Option Obj}:FnOk Tryz.prog lay ids alts 514 (erFn w514):=.inl ⟨Tryz.f167,Tryz.func167,by kernel_rfl⟩
theorem l515 {lay:Nat->Option Obj}:FnOk Tryz.prog lay ids alts 515 (erFn w515):=.inl ⟨Tryz.f128,Tryz.func128,by kernel_rfl⟩
theorem l516 {lay:Nat->Option Obj}:FnOk Tryz.prog lay ids alts 516 (erFn w516):=.inl ⟨Tryz.f253,Tryz.func253,by kernel_rfl⟩
theorem l517 {lay:Nat->Option Obj}:FnOk Tryz.prog lay ids alts 517 (erFn w517):=.inl ⟨Tryz.f254,Tryz.func254,by kernel_rfl⟩
theorem l518 {lay:Nat->Option Obj}:FnOk Tryz.prog lay ids alts 518 (erFn w518):=.inl ⟨Tryz.f255,Tryz.func255,by kernel_rfl⟩
theorem l519 {lay:Nat->Option Obj}:FnOk Tryz.prog lay ids alts 519 (erFn w519):=.inl ⟨Tryz.f256,Tryz.func256,by kernel_rfl⟩
theorem EN {lay:Nat->Option Obj}:FnOk Tryz.prog lay ids alts 520 (erFn w520):=.inl ⟨Tryz.f239,Tryz.func239,by kernel_rfl⟩
theorem l526 {lay:Nat->Option Obj}:FnOk Tryz.prog lay ids alts 526 (erFn w526):=.inl ⟨Tryz.f241,Tryz.func241,by kernel_rfl⟩
theorem l527 {lay:Nat->Option Obj}:FnOk Tryz.prog lay ids alts 527 (erFn w527):=.inl ⟨Tryz.f243,Tryz.func243,by kernel_rfl⟩
theorem l528 {lay:Nat->Option Obj}:FnOk Tryz.prog lay ids alts 528 (erFn w528):=.inl ⟨Tryz.f244,Tryz.func244,by kernel_rfl⟩
theorem l529 {lay:Nat->Option Obj}:FnOk Tryz.prog lay ids alts 529 (erFn w529):=.inl ⟨Tryz.f246,Tryz.func246,by kernel_rfl⟩
theorem l530 {lay:Nat->Option Obj}:FnOk Tryz.prog lay ids alts 530 (erFn w530):=.inl ⟨Tryz.f248,Tryz.func248,by kernel_rfl⟩
theorem l543 {lay:Nat->Option Obj}:FnOk Tryz.prog lay ids alts 543 (erFn w543):=.inl ⟨Tryz.f193,Tryz.func193,by kernel_rfl⟩
theorem l544 {lay:Nat->Option Obj}:FnOk Tryz.prog lay ids alts 544 (erFn w544):=.inl ⟨Tryz.f194,Tryz.func194,by kernel_rfl⟩
theorem l545 {lay:Nat->Option Obj}:FnOk Tryz.prog lay ids alts 545 (erFn w545):=.inl ⟨Tryz.f195,Tryz.func195,by kernel_rfl⟩
theorem l546 {lay:Nat->Option Obj}:FnOk Tryz.prog lay ids alts 546 (erFn w546):=.inl ⟨Tryz.f196,Tryz.func196,by kernel_rfl⟩
theorem l547 {lay:Nat->Option Obj}:FnOk Tryz.prog lay ids alts 547 (erFn w547):=.inl ⟨Tryz.f197,Tryz.func197,by kernel_rfl⟩
theorem l548 {lay:Nat->Option Obj}:FnOk Tryz.prog lay ids alts 548 (erFn w548):=.inl ⟨Tryz.f204,Tryz.func204,by kernel_rfl⟩
theorem l549 {lay:Nat->Option Obj}:FnOk Tryz.prog lay ids alts 549 (erFn w549):=.inl ⟨Tryz.f205,Tryz.func205,by kernel_rfl⟩
theorem EY {lay:Nat->Option Obj}:FnOk Tryz.prog lay ids alts 550 (erFn w550):=.inl ⟨Tryz.f168,Tryz.func168,by kernel_rfl⟩
theorem l553 {lay:Nat->Option Obj}:FnOk Tryz.prog lay ids alts 553 (erFn w553):=.inl ⟨Tryz.f200,Tryz.func200,by kernel_rfl⟩
theorem l554 {lay:Nat->Option Obj}:FnOk Tryz.prog lay ids alts 554 (erFn w554):=.inl ⟨Tryz.f201,Tryz.func201,by kernel_rfl⟩
theorem EI {lay:Nat->Option Obj}:FnOk Tryz.prog lay ids alts 556 (erFn w556):=.inl ⟨Tryz.f235,Tryz.func235,by kernel_rfl⟩
theorem Gi {lay:Nat->Option Obj}:FnOk Tryz.prog lay ids alts 557 (erFn w557):=.inl ⟨Tryz.f233,Tryz.func233,by kernel_rfl⟩
theorem Eh {lay:Nat->Option Obj}:FnOk Tryz.prog lay ids alts 558 (erFn w558):=.inl ⟨Tryz.f237,Tryz.func237,by kernel_rfl⟩
theorem EX {lay:Nat->Option Obj}:FnOk Tryz.prog lay ids alts 559 (erFn w559):=.inl ⟨Tryz.f238,Tryz.func238,by kernel_rfl⟩
theorem l560 {lay:Nat->Option Obj}:FnOk Tryz.prog lay ids alts 560 (erFn w560):=.inl ⟨Tryz.f264,Tryz.func264,by kernel_rfl⟩
theorem l561 {lay:Nat->Option Obj}:FnOk Tryz.prog lay ids alts 561 (erFn w561):=.inl ⟨Tryz.f265,Tryz.func265,by kernel_rfl⟩
theorem l562 {lay:Nat->Option Obj}:FnOk Tryz.prog lay ids alts 562 (erFn w562):=.inl ⟨Tryz.f266,Tryz.func266,by kernel_rfl⟩
theorem FV {lay:Nat->Option Obj}:FnOk Tryz.prog lay ids alts 563 (erFn w563):=.inl ⟨Tryz.f257,Tryz.func257,by kernel_rfl⟩
theorem l578 {lay:Nat->Option Obj}:FnOk Tryz.prog lay ids alts 578 (erFn w578):=.inl ⟨Tryz.f224,Tryz.func224,by kernel_rfl⟩
theorem l579 {lay:Nat->Option Obj}:FnOk Tryz.prog lay ids alts 579 (erFn w579):=.inl ⟨Tryz.f225,Tryz.func225,by kernel_rfl⟩
theorem l580 {lay:Nat->Option Obj}:FnOk Tryz.prog lay ids alts 580 (erFn w580):=.inl ⟨Tryz.f226,Tryz.func226,by kernel_rfl⟩
theorem l581 {lay:Nat->Option Obj}:FnOk Tryz.prog lay ids alts 581 (erFn w581):=.inl ⟨Tryz.f227,Tryz.func227,by kernel_rfl⟩
theorem l582 {lay:Nat->Option Obj}:FnOk Tryz.prog lay ids alts 582 (erFn w582):=.inl ⟨Tryz.f228,Tryz.func228,by kernel_rfl⟩
theorem l583 {lay:Nat->Option Obj}:FnOk Tryz.prog lay ids alts 583 (erFn w583):=.inl ⟨Tryz.f229,Tryz.func229,by kernel_rfl⟩
theorem l584 {lay:Nat->Option Obj}:FnOk Tryz.prog lay ids alts 584 (erFn w584):=.inl ⟨Tryz.f230,Tryz.func230,by kernel_rfl⟩
theorem l585 {lay:Nat->Option Obj}:FnOk Tryz.prog lay ids alts 585 (erFn w585):=.inl ⟨Tryz.f236,Tryz.func236,by kernel_rfl⟩
theorem EJ {lay:Nat->Option Obj}:FnOk Tryz.prog lay ids alts 586 (erFn w586):=.inl ⟨Tryz.f203,Tryz.func203,by kernel_rfl⟩
theorem l592 {lay:Nat->Option Obj}:FnOk Tryz.prog lay ids alts 592 (erFn w592):=.inl ⟨Tryz.f251,Tryz.func251,by kernel_rfl⟩
theorem l593 {lay:Nat->Option Obj}:FnOk Tryz.prog lay ids alts 593 (erFn w593):=.inl ⟨Tryz.f252,Tryz.func252,by kernel_rfl⟩
theorem ET {lay:Nat->Option Obj}:FnOk Tryz.prog lay ids alts 594 (erFn w594):=.inl ⟨Tryz.f234,Tryz.func234,by kernel_rfl⟩
theorem F7 {lay:Nat->Option Obj}:FnOk Tryz.prog lay ids alts 631 (erFn wF):=.inl ⟨Tryz.f3,Tryz.func3,by kernel_rfl⟩
theorem FN {lay:Nat->Option Obj}:FnOk Tryz.prog lay ids alts 633 (erFn wQ):=.inl ⟨Tryz.f5,Tryz.func5,by kernel_rfl⟩
theorem l634 {lay:Nat->Option Obj}:FnOk Tryz.prog lay ids alts 634 (erFn w634):=.inl ⟨Tryz.f6,Tryz.func6,by kernel_rfl⟩
theorem Et {lay:Nat->Option Obj}:FnOk Tryz.prog lay ids alts 635 (erFn eu):=.inl ⟨Tryz.f7,Tryz.func7,by kernel_rfl⟩
theorem l636 {lay:Nat->Option Obj}:FnOk Tryz.prog lay ids alts 636 (erFn w636):=.inl ⟨Tryz.f8,Tryz.func8,by kernel_rfl⟩
theorem l637 {lay:Nat->Option Obj}:FnOk Tryz.prog lay ids alts 637 (erFn w637):=.inl ⟨Tryz.f9,Tryz.func9,by kernel_rfl⟩
theorem l638 {lay:Nat->Option Obj}:FnOk Tryz.prog lay ids alts 638 (erFn w638):=.inl ⟨Tryz.f10,Tryz.func10,by kernel_rfl⟩
theorem FW {lay:Nat->Option Obj}:FnOk Tryz.prog lay ids alts 640 (erFn wR):=.inl ⟨Tryz.f12,Tryz.func12,by kernel_rfl⟩
theorem Em {lay:Nat->Option Obj}:FnOk Tryz.prog lay ids alts 641 (erFn uK):=.inl ⟨Tryz.f13,Tryz.func13,by kernel_rfl⟩
theorem l642 {lay:Nat->Option Obj}:FnOk Tryz.prog lay ids alts 642 (erFn w642):=.inl ⟨Tryz.f14,Tryz.func14,by kernel_rfl⟩
theorem l643 {lay:Nat->Option Obj}:FnOk Tryz.prog lay ids alts 643 (erFn w643):=.inl ⟨Tryz.f15,Tryz.func15,by kernel_rfl⟩
theorem l644 {lay:Nat->Option Obj}:FnOk Tryz.prog lay ids alts 644 (erFn w644):=.inl ⟨Tryz.f16,Tryz.func16,by kernel_rfl⟩
theorem l645 {lay:Nat->Option Obj}:FnOk Tryz.prog lay ids alts 645 (erFn w645):=.inl ⟨Tryz.f17,Tryz.func17,by kernel_rfl⟩
theorem l646 {lay:Nat->Option Obj}:FnOk Tryz.prog lay ids alts 646 (erFn w646):=.inl ⟨Tryz.f18,Tryz.func18,by kernel_rfl⟩
theorem l647 {lay:Nat->Option Obj}:FnOk Tryz.prog lay ids alts 647 (erFn w647):=.inl ⟨Tryz.f19,Tryz.func19,by kernel_rfl⟩
theorem l648 {lay:Nat->Option Obj}:FnOk Tryz.prog lay ids alts 648 (erFn w648):=.inl ⟨Tryz.f21,Tryz.func21,by kernel_rfl⟩
theorem l649 {lay:Nat->Option Obj}:FnOk Tryz.prog lay ids alts 649 (erFn w649):=.inl ⟨Tryz.f23,Tryz.func23,by kernel_rfl⟩
theorem l650 {lay:Nat->Option Obj}:FnOk Tryz.prog lay ids alts 650 (erFn w650):=.inl ⟨Tryz.f24,Tryz.func24,by kernel_rfl⟩
theorem l651 {lay:Nat->Option Obj}:FnOk Tryz.prog lay ids alts 651 (erFn w651):=.inl ⟨Tryz.f25,Tryz.func25,by kernel_rfl⟩
theorem l652 {lay:Nat->Option Obj}:FnOk Tryz.prog lay ids alts 652 (erFn w652):=.inl ⟨Tryz.f26,Tryz.func26,by kernel_rfl⟩
theorem l653 {lay:Nat->Option Obj}:FnOk Tryz.prog lay ids alts 653 (erFn w653):=.inl ⟨Tryz.f29,Tryz.func29,by kernel_rfl⟩
theorem l654 {lay:Nat->Option Obj}:FnOk Tryz.prog lay ids alts 654 (erFn w654):=.inl ⟨Tryz.f30,Tryz.func30,by kernel_rfl⟩
theorem ER {lay:Nat->Option Obj}:FnOk Tryz.prog lay ids alts 655 (erFn uj):=.inl ⟨Tryz.f35,Tryz.func35,by kernel_rfl⟩
theorem FH {lay:Nat->Option Obj}:FnOk Tryz.prog lay ids alts 656 (erFn uH):=.inl ⟨Tryz.f36,Tryz.func36,by kernel_rfl⟩
theorem l657 {lay:Nat->Option Obj} (hl:Go.Proofs.H33.AsLay lay):FnOk Tryz.prog lay ids alts 657 (erFn w657):=.inr (Go.Proofs.H33.as_rule rfl hl)
theorem l658 {lay:Nat->Option Obj}:FnOk Tryz.prog lay ids alts 658 (erFn w658):=.inl ⟨Tryz.f39,Tryz.func39,by kernel_rfl⟩
theorem l659 {lay:Nat->Option Obj}:FnOk Tryz.prog lay ids alts 659 (erFn w659):=.inl ⟨Tryz.f41,Tryz.func41,by kernel_rfl⟩
theorem Fb {lay:Nat->Option Obj}:FnOk Tryz.prog lay ids alts 660 (erFn w660):=.inl ⟨Tryz.f49,Tryz.func49,by kernel_rfl⟩
theorem EG {lay:Nat->Option Obj}:FnOk Tryz.prog lay ids alts 661 (erFn w661):=.inl ⟨Tryz.f50,Tryz.func50,by kernel_rfl⟩
theorem l662 {lay:Nat->Option Obj}:FnOk Tryz.prog lay ids alts 662 (erFn w662):=.inl ⟨Tryz.f51,Tryz.func51,by kernel_rfl⟩
theorem l664 {lay:Nat->Option Obj}:FnOk Tryz.prog lay ids alts 664 (erFn w664):=.inl ⟨Tryz.f63,Tryz.func63,by kernel_rfl⟩
theorem l665 {lay:Nat->Option Obj}:FnOk Tryz.prog lay ids alts 665 (erFn w665):=.inl ⟨Tryz.f64,Tryz.func64,by kernel_rfl⟩
theorem l666 {lay:Nat->Option Obj}:FnOk Tryz.prog lay ids alts 666 (erFn w666):=.inl ⟨Tryz.f66,Tryz.func66,by kernel_rfl⟩
theorem l667 {lay:Nat->Option Obj}:FnOk Tryz.prog lay ids alts 667 (erFn w667):=.inl ⟨Tryz.f67,Tryz.func67,by kernel_rfl⟩
theorem l668 {lay:Nat->Option Obj}:FnOk Tryz.prog lay ids alts 668 (erFn w668):=.inl ⟨Tryz.f68,Tryz.func68,by kernel_rfl⟩
theorem l669 {lay:Nat->Option Obj}:FnOk Tryz.prog lay ids alts 669 (erFn w669):=.inl ⟨Tryz.f87,Tryz.func87,by kernel_rfl⟩
theorem l670 {lay:Nat->Option Obj}:FnOk Tryz.prog lay ids alts 670 (erFn w670):=.inl ⟨Tryz.f88,Tryz.func88,by kernel_rfl⟩
theorem EH {lay:Nat->Option Obj}:FnOk Tryz.prog lay ids alts 671 (erFn w671):=.inl ⟨Tryz.f89,Tryz.func89,by kernel_rfl⟩
theorem Eu {lay:Nat->Option Obj}:FnOk Tryz.prog lay ids alts 672 (erFn w672):=.inl ⟨Tryz.f90,Tryz.func90,by kernel_rfl⟩
theorem l673 {lay:Nat->Option Obj}:FnOk Tryz.prog lay ids alts 673 (erFn w673):=.inl ⟨Tryz.f107,Tryz.func107,by kernel_rfl⟩
theorem l674 {lay:Nat->Option Obj}:FnOk Tryz.prog lay ids alts 674 (erFn w674):=.inl ⟨Tryz.f108,Tryz.func108,by kernel_rfl⟩
theorem l675 {lay:Nat->Option Obj}:FnOk Tryz.prog lay ids alts 675 (erFn w675):=.inl ⟨Tryz.f109,Tryz.func109,by kernel_rfl⟩
theorem l676 {lay:Nat->Option Obj}:FnOk Tryz.prog lay ids alts 676 (erFn w676):=.inl ⟨Tryz.f110,Tryz.func110,by kernel_rfl⟩
theorem l677 {lay:Nat->Option Obj}:FnOk Tryz.prog lay ids alts 677 (erFn w677):=.inl ⟨Tryz.f111,Tryz.func111,by kernel_rfl⟩
theorem l678 {lay:Nat->Option Obj}:FnOk Tryz.prog lay ids alts 678 (erFn w678):=.inl ⟨Tryz.f112,Tryz.func112,by kernel_rfl⟩
theorem l679 {lay:Nat->Option Obj}:FnOk Tryz.prog lay ids alts 679 (erFn w679):=.inl ⟨Tryz.f113,Tryz.func113,by kernel_rfl⟩
theorem l680 {lay:Nat->Option Obj}:FnOk Tryz.prog lay ids alts 680 (erFn w680):=.inl ⟨Tryz.f143,Tryz.func143,by kernel_rfl⟩
theorem l2001 {lay:Nat->Option Obj}:FnOk Tryz.prog lay ids alts 2001 (erFn w226):=.inl ⟨Tryz.f118,Tryz.func118,by kernel_rfl⟩
theorem l2016 {lay:Nat->Option Obj}:FnOk Tryz.prog lay ids alts 2016 (erFn w97):=.inl ⟨Tryz.f140,Tryz.func140,by kernel_rfl⟩
theorem l2004 {lay:Nat->Option Obj}:FnOk Tryz.prog lay ids alts 2004 (erFn w2004):=.inl ⟨Tryz.f42,Tryz.func42,by kernel_rfl⟩
theorem l2005 {lay:Nat->Option Obj}:FnOk Tryz.prog lay ids alts 2005 (erFn w274):=.inl ⟨Tryz.f76,Tryz.func76,by kernel_rfl⟩
theorem l2006 {lay:Nat->Option Obj}:FnOk Tryz.prog lay ids alts 2006 (erFn w275):=.inl ⟨Tryz.f219,Tryz.func219,by kernel_rfl⟩
theorem l4002 {lay:Nat->Option Obj}:FnOk Tryz.prog lay ids alts 4002 (erFn w274):=.inl ⟨Tryz.f76,Tryz.func76,by kernel_rfl⟩
theorem l4001 {lay:Nat->Option Obj}:FnOk Tryz.prog lay ids alts 4001 (erFn w4001):=.inl ⟨Tryz.f189,Tryz.func189,by kernel_rfl⟩
theorem l3004 {lay:Nat->Option Obj}:FnOk Tryz.prog lay ids alts 3004 (erFn w226):=.inl ⟨Tryz.f118,Tryz.func118,by kernel_rfl⟩
theorem l3003 {lay:Nat->Option Obj}:FnOk Tryz.prog lay ids alts 3003 (erFn w3003):=.inl ⟨Tryz.f69,Tryz.func69,by kernel_rfl⟩
theorem l3002 {lay:Nat->Option Obj}:FnOk Tryz.prog lay ids alts 3002 (erFn w3002):=.inl ⟨Tryz.f40,Tryz.func40,by kernel_rfl⟩
theorem l3001 {lay:Nat->Option Obj}:FnOk Tryz.prog lay ids alts 3001 (erFn w3001):=.inl ⟨Tryz.f150,Tryz.func150,by kernel_rfl⟩
theorem l2019 {lay:Nat->Option Obj}:FnOk Tryz.prog lay ids alts 2019 (erFn w2019):=.inl ⟨Tryz.f151,Tryz.func151,by kernel_rfl⟩
theorem l1102 {lay:Nat->Option Obj}:FnOk Tryz.prog lay ids alts 1102 (erFn w102):=.inl ⟨Tryz.f211,Tryz.func211,by kernel_rfl⟩
theorem l1191 {lay:Nat->Option Obj}:FnOk Tryz.prog lay ids alts 1191 (erFn w191):=.inl ⟨Tryz.f212,Tryz.func212,by kernel_rfl⟩
theorem l1100 {lay:Nat->Option Obj}:FnOk Tryz.prog lay ids alts 1100 (erFn w1100):=.inl ⟨Tryz.f177,Tryz.func177,by kernel_rfl⟩
theorem l3661 {lay:Nat->Option Obj}:FnOk Tryz.prog lay ids alts 3661 (erFn w661):=.inl ⟨Tryz.f50,Tryz.func50,by kernel_rfl⟩
theorem l2660 {lay:Nat->Option Obj}:FnOk Tryz.prog lay ids alts 2660 (erFn w660):=.inl ⟨Tryz.f49,Tryz.func49,by kernel_rfl⟩
theorem l3672 {lay:Nat->Option Obj}:FnOk Tryz.prog lay ids alts 3672 (erFn w672):=.inl ⟨Tryz.f90,Tryz.func90,by kernel_rfl⟩
theorem l2671 {lay:Nat->Option Obj}:FnOk Tryz.prog lay ids alts 2671 (erFn w671):=.inl ⟨Tryz.f89,Tryz.func89,by kernel_rfl⟩
theorem AZ {lay:Nat->Option Obj}:FnOk Tryz.prog lay ids alts 5662 (erFn lX):=.inl ⟨Tryz.f51,Tryz.func51,by kernel_rfl⟩
theorem zF {lay:Nat->Option Obj}:FnOk Tryz.prog lay ids alts 5653 (erFn lZ):=.inl ⟨Tryz.f29,Tryz.func29,by kernel_rfl⟩
theorem BI {lay:Nat->Option Obj}:FnOk Tryz.prog lay ids alts 5639 (erFn jO):=.inl ⟨Tryz.f11,Tryz.func11,by kernel_rfl⟩
theorem zK {lay:Nat->Option Obj}:FnOk Tryz.prog lay ids alts 1232 (erFn w232):=.inl ⟨Tryz.f32,Tryz.func32,by kernel_rfl⟩
theorem l3008 {lay:Nat->Option Obj}:FnOk Tryz.prog lay ids alts 3008 (erFn w281):=.inl ⟨Tryz.f84,Tryz.func84,by kernel_rfl⟩
theorem l3009 {lay:Nat->Option Obj}:FnOk Tryz.prog lay ids alts 3009 (erFn w431):=.inl ⟨Tryz.f191,Tryz.func191,by kernel_rfl⟩
def prog:WProg:=⟨tree,Go.D.inlB,Go.D.ppB⟩
theorem all {lay:Nat->Option Obj} (hl:Go.Proofs.H33.AsLay lay):TreeAll (FnOk Tryz.prog lay ids alts) (erProg prog).fns:=⟨⟨⟨⟨⟨⟨⟨⟨⟨trivial,l0,trivial⟩,l99,trivial⟩,l108,⟨trivial,l109,trivial⟩⟩,l110,⟨⟨trivial,l111,trivial⟩,FZ,⟨trivial,l113,trivial⟩⟩⟩,l114,⟨⟨⟨trivial,l115,trivial⟩,l120,⟨trivial,l121,trivial⟩⟩,l122,⟨⟨trivial,l125,trivial⟩,l127,⟨trivial,ES,trivial⟩⟩⟩⟩,l132,⟨⟨⟨⟨⟨trivial,Fv,trivial⟩,l134,trivial⟩,Ez,⟨trivial,l138,trivial⟩⟩,l139,⟨⟨trivial,l140,trivial⟩,Ei,⟨trivial,EF,trivial⟩⟩⟩,l160,⟨⟨⟨trivial,l161,trivial⟩,l171,⟨trivial,FU,trivial⟩⟩,l174,⟨⟨trivial,l192,trivial⟩,l201,⟨trivial,l216,trivial⟩⟩⟩⟩⟩,l217,⟨⟨⟨⟨⟨⟨trivial,l218,trivial⟩,l219,trivial⟩,l220,⟨trivial,l221,trivial⟩⟩,l222,⟨⟨trivial,l223,trivial⟩,l224,⟨trivial,l225,trivial⟩⟩⟩,l226,⟨⟨⟨trivial,l227,trivial⟩,l228,⟨trivial,l229,trivial⟩⟩,l230,⟨⟨trivial,l231,trivial⟩,l232,⟨trivial,FC,trivial⟩⟩⟩⟩,EM,⟨⟨⟨⟨⟨trivial,l237,trivial⟩,l238,trivial⟩,Gf,⟨trivial,l246,trivial⟩⟩,l247,⟨⟨trivial,l248,trivial⟩,l249,⟨trivial,l250,trivial⟩⟩⟩,F6,⟨⟨⟨trivial,Fp,trivial⟩,Fz,⟨trivial,EO,trivial⟩⟩,l260,⟨⟨trivial,FT,trivial⟩,l262,⟨trivial,l263,trivial⟩⟩⟩⟩⟩⟩,l264,⟨⟨⟨⟨⟨⟨⟨trivial,l265,trivial⟩,Fg,trivial⟩,l272,⟨trivial,l273,trivial⟩⟩,l274,⟨⟨trivial,l276,trivial⟩,l277,⟨trivial,l278,trivial⟩⟩⟩,l279,⟨⟨⟨trivial,l280,trivial⟩,l281,⟨trivial,l282,trivial⟩⟩,l286,⟨⟨trivial,l289,trivial⟩,l290,⟨trivial,Fe,trivial⟩⟩⟩⟩,Fj,⟨⟨⟨⟨⟨trivial,Fa,trivial⟩,EZ,trivial⟩,l313,⟨trivial,l315,trivial⟩⟩,l318,⟨⟨trivial,l322,trivial⟩,l323,⟨trivial,l324,trivial⟩⟩⟩,EU,⟨⟨⟨trivial,l336,trivial⟩,l340,⟨trivial,l343,trivial⟩⟩,l344,⟨⟨trivial,l351,trivial⟩,l367,⟨trivial,l379,trivial⟩⟩⟩⟩⟩,l398,⟨⟨⟨⟨⟨⟨trivial,l399,trivial⟩,l400,trivial⟩,l401,⟨trivial,l402,trivial⟩⟩,l403,⟨⟨trivial,l404,trivial⟩,l405,⟨trivial,EL,trivial⟩⟩⟩,Gj,⟨⟨⟨trivial,FQ,trivial⟩,l409,⟨trivial,l411,trivial⟩⟩,l412,⟨⟨trivial,l415,trivial⟩,FM,⟨trivial,F5,trivial⟩⟩⟩⟩,l418,⟨⟨⟨⟨⟨trivial,FX,trivial⟩,FP,trivial⟩,l426,⟨trivial,l427,trivial⟩⟩,l428,⟨⟨trivial,l429,trivial⟩,l430,⟨trivial,l432,trivial⟩⟩⟩,l433,⟨⟨⟨trivial,l434,trivial⟩,l437,⟨trivial,l438,trivial⟩⟩,l439,⟨⟨trivial,F8,trivial⟩,FD,⟨trivial,l457,trivial⟩⟩⟩⟩⟩⟩⟩,l459,⟨⟨⟨⟨⟨⟨⟨⟨trivial,l460,trivial⟩,l464,trivial⟩,l466,⟨trivial,l467,trivial⟩⟩,l494,⟨⟨trivial,l495,trivial⟩,l496,⟨trivial,l497,trivial⟩⟩⟩,l498,⟨⟨⟨trivial,l499,trivial⟩,l500,⟨trivial,l501,trivial⟩⟩,l502,⟨⟨trivial,l503,trivial⟩,Fq,⟨trivial,ED,trivial⟩⟩⟩⟩,l507,⟨⟨⟨⟨⟨trivial,FB,trivial⟩,E8,trivial⟩,Fh,⟨trivial,F9,trivial⟩⟩,l514,⟨⟨trivial,l515,trivial⟩,l516,⟨trivial,l517,trivial⟩⟩⟩,l518,⟨⟨⟨trivial,l519,trivial⟩,EN,⟨trivial,l526,trivial⟩⟩,l527,⟨⟨trivial,l528,trivial⟩,l529,⟨trivial,l530,trivial⟩⟩⟩⟩⟩,l543,⟨⟨⟨⟨⟨⟨trivial,l544,trivial⟩,l545,trivial⟩,l546,⟨trivial,l547,trivial⟩⟩,l548,⟨⟨trivial,l549,trivial⟩,EY,⟨trivial,l553,trivial⟩⟩⟩,l554,⟨⟨⟨trivial,EI,trivial⟩,Gi,⟨trivial,Eh,trivial⟩⟩,EX,⟨⟨trivial,l560,trivial⟩,l561,⟨trivial,l562,trivial⟩⟩⟩⟩,FV,⟨⟨⟨⟨⟨trivial,l578,trivial⟩,l579,trivial⟩,l580,⟨trivial,l581,trivial⟩⟩,l582,⟨⟨trivial,l583,trivial⟩,l584,⟨trivial,l585,trivial⟩⟩⟩,EJ,⟨⟨⟨trivial,l592,trivial⟩,l593,⟨trivial,ET,trivial⟩⟩,F7,⟨⟨trivial,FN,trivial⟩,l634,⟨trivial,Et,trivial⟩⟩⟩⟩⟩⟩,l636,⟨⟨⟨⟨⟨⟨⟨trivial,l637,trivial⟩,l638,trivial⟩,FW,⟨trivial,Em,trivial⟩⟩,l642,⟨⟨trivial,l643,trivial⟩,l644,⟨trivial,l645,trivial⟩⟩⟩,l646,⟨⟨⟨trivial,l647,trivial⟩,l648,⟨trivial,l649,trivial⟩⟩,l650,⟨⟨trivial,l651,trivial⟩,l652,⟨trivial,l653,trivial⟩⟩⟩⟩,l654,⟨⟨⟨⟨⟨trivial,ER,trivial⟩,FH,trivial⟩,l657 hl,⟨trivial,l658,trivial⟩⟩,l659,⟨⟨trivial,Fb,trivial⟩,EG,⟨trivial,l662,trivial⟩⟩⟩,l664,⟨⟨⟨trivial,l665,trivial⟩,l666,⟨trivial,l667,trivial⟩⟩,l668,⟨⟨trivial,l669,trivial⟩,l670,⟨trivial,EH,trivial⟩⟩⟩⟩⟩,Eu,⟨⟨⟨⟨⟨⟨trivial,l673,trivial⟩,l674,trivial⟩,l675,⟨trivial,l676,trivial⟩⟩,l677,⟨⟨trivial,l678,trivial⟩,l679,⟨trivial,l680,trivial⟩⟩⟩,l1100,⟨⟨⟨trivial,l1102,trivial⟩,l1191,⟨trivial,zK,trivial⟩⟩,l2001,⟨⟨trivial,l2004,trivial⟩,l2005,⟨trivial,l2006,trivial⟩⟩⟩⟩,l2016,⟨⟨⟨⟨⟨trivial,l2019,trivial⟩,l2660,trivial⟩,l2671,⟨trivial,l3001,trivial⟩⟩,l3002,⟨⟨trivial,l3003,trivial⟩,l3004,⟨trivial,l3008,trivial⟩⟩⟩,l3009,⟨⟨⟨trivial,l3661,trivial⟩,l3672,⟨trivial,l4001,trivial⟩⟩,l4002,⟨⟨trivial,BI,trivial⟩,zF,⟨trivial,AZ,trivial⟩⟩⟩⟩⟩⟩⟩⟩
theorem okT:okTree prog.fns=true:=by kernel_rfl
theorem link {lay:Nat->Option Obj} (hl:Go.Proofs.H33.AsLay lay):Linked Tryz.prog (phiG ids alts) ⟨psiOf ids,lay⟩ (erProg prog):=linked (by kernel_rfl) (by kernel_rfl) (all hl) (by kernel_rfl) (by kernel_rfl)
end P
end
section
namespace Go.Pw
open Go Go.Pav
inductive CT where
 | bool
 | int (k:IntKind)
 | str
 | slice (ts:List CT)
 /-- Rows of a named type. -/
 | sref (t:TypeId)
inductive Ty (N:List (TypeId × List CT)):CT->AV->Prop
 | bool (b:Bool) :Ty N .bool (.bool b)
 | int (k:IntKind) (n:Int) (h1:k.min<=n) (h2:n<=k.max):Ty N (.int k) (.int k n)
 | str (s:List UInt8) (h:s.length < 2 ^ 63) :Ty N .str (.str s)
 | slice (ts:List CT) (es:List (List AV)) (ex:Bool) (hn:es.length < 2 ^ 63) (hw:∀ (i:Nat) (e:List AV),es[i]?=some e->e.length=ts.length)
  (h:∀ (i:Nat) (e:List AV) (j:Nat) (ct:CT) (x:AV),es[i]?=some e->ts[j]?=some ct->e[j]?=some x->Ty N ct x):Ty N (.slice ts) (.ro ts.length es ex)
 | sref (t:TypeId) (ts:List CT) (es:List (List AV)) (ex:Bool) (hd:N.lookup t=some ts) (hn:es.length < 2 ^ 63) (hw:∀ (i:Nat) (e:List AV),es[i]?=some e->e.length=ts.length)
  (h:∀ (i:Nat) (e:List AV) (j:Nat) (ct:CT) (x:AV),es[i]?=some e->ts[j]?=some ct->e[j]?=some x->Ty N ct x):Ty N (.sref t) (.ro ts.length es ex)
theorem Ty.isC {N:List (TypeId × List CT)} {ct:CT} {a:AV} (h:Ty N ct a):Pw.isC a=true:=by cases h <;> rfl
def fieldsT (F:TypeId->Option (List CT)) (P:Program):List Field->Nat->Option (List CT)
 | [],_=>some []
 | f::r,off=>(F f.type).bind λts=>if f.offset=off/\ts.length=P.cellsOf f.type then (fieldsT F P r (off+ts.length)).map (ts++·) else none
def flatT (N:List (TypeId × List CT)) (P:Program):Nat->TypeId->Option (List CT)
 | 0,_=>none
 | n+1,t=>match P.underlying t with
  | some .bool=>some [.bool]
  | some (.int k)=>some [.int k]
  | some .string=>some [.str]
  | some (.slice e)=>match N.lookup e with
   | some _=>some [.sref e]
   | none=>(flatT N P n e).bind λts=>if ts.length=P.cellsOf e/\0 < ts.length then some [.slice ts] else none
  | some (.struct fs)=>(fieldsT (flatT N P n) P fs.toList 0).bind λts=>if ts.length=P.cellsOf t then some ts else none
  | some (.array m e)=>(flatT N P n e).bind λts=>if ts.length=P.cellsOf e/\m * ts.length=P.cellsOf t then some (List.replicate m ts).flatten else none
  | _=>none
theorem fQ {α:Type}:∀ {N:List (TypeId × α)} {t:TypeId} {a:α},N.lookup t=some a->(t,a) ∈ N
 | [],_,_,h=>by simp at h
 | (u,b)::r,t,a,h=>by
  rw [List.lookup_cons] at h;split at h
  ·rename_i q;have:t=u:=by simpa using q
   cases h;subst this;simp
  ·exact List.mem_cons_of_mem _ (fQ h)
def Named (N:List (TypeId × List CT)) (P:Program):Prop:=∀ p ∈ N,flatT N P 20 p.1=some p.2/\p.2.length=P.cellsOf p.1/\0 < p.2.length
theorem flatten_rep {α:Type} (ts:List α):∀ (m j:Nat),j < m * ts.length->(List.replicate m ts).flatten[j]?=ts[j % ts.length]?
 | 0,j,h=>by simp at h
 | m+1,j,h=>by
  rw [List.replicate_succ,List.flatten_cons];rcases Nat.lt_or_ge j ts.length with hl | hl
  ·rw [List.getElem?_append_left hl,Nat.mod_eq_of_lt hl]
  ·rw [List.getElem?_append_right hl,flatten_rep ts m (j - ts.length) (by rw [Nat.add_mul] at h;omega),Nat.mod_eq_sub_mod hl]
theorem trod_array {H:Type} {enc:TypeId × Value->H} {P:Program} {w:World} {base:Nat} {spare:Nat->Bool} {held:Bool} {fuel:Nat} {t:TypeId} {cs:List Value} {x:DataW H × List MemPlace} {m:Nat} {e:TypeId}
 (ht:P.underlying t=some (.array m e)) (h:DataW.trod enc P w base spare held fuel t cs=some x) :
 ∃ (xs:List (DataW H × List MemPlace)) (n:Nat),fuel=n+1/\cs.length=P.cellsOf t/\xs.length=m /\
  ∀ i,i < m->DataW.trod enc P w base spare held n e ((cs.drop (i * P.cellsOf e)).take (P.cellsOf e))=xs[i]?:=by
 cases fuel with
 | zero=>simp [DataW.trod] at h
 | succ n =>unfold DataW.trod at h;rw [ht] at h;split at h <;> simp_all;obtain ⟨hl,xs,hp,hd⟩:=h;exact ⟨xs,by simpa using mapM_some_length hp,λi hi=>mapM_some_get hp i i (List.getElem?_range hi)⟩
def CellOk (N:List (TypeId × List CT)) (ψ:Psi) (W:World) (ct:CT) (v:Value):Prop :=∃ a a',Ty N ct a/\VD id (λ_=>False) a a'/\a'.cell=true/\VR ψ W (λc=>c < W.heap.size) (λ_=>(0,0)) (λ_=>False) a' v
section
variable {N:List (TypeId × List CT)} {H:Type} {enc:TypeId × Value->H} {P:Program} {W:World} {ψ:Psi}
theorem fields_open {F:TypeId->Option (List CT)} {n:Nat} {cs:List Value}
 (hF:∀ t cs x ts,F t=some ts->DataW.trod enc P W 0 (λ_=>true) true n t cs=some x->cs.length=ts.length/\∀ (j:Nat) (ct:CT),ts[j]?=some ct->∃ v,cs[j]?=some v/\CellOk N ψ W ct v) :
 ∀ (fs:List Field) (off:Nat) (ts:List CT),fieldsT F P fs off=some ts->(∀ f ∈ fs,∃ x,DataW.trod enc P W 0 (λ_=>true) true n f.type ((cs.drop f.offset).take (P.cellsOf f.type))=some x) ->
  ∀ (j:Nat) (ct:CT),ts[j]?=some ct->∃ v,cs[off+j]?=some v/\CellOk N ψ W ct v:=by
 intro fs;induction fs with
 | nil=>intro off ts h _ j ct hj;simp only [fieldsT,Option.some.injEq] at h;subst h;simp at hj
 | cons f r ih =>
  intro off ts h hx j ct hj;simp only [fieldsT,Option.bind_eq_some_iff] at h;obtain ⟨t1,h1,h⟩:=h;split at h
  ·rename_i hc;simp only [Option.map_eq_some_iff] at h;obtain ⟨t2,h2,rfl⟩:=h;rcases Nat.lt_or_ge j t1.length with hl | hl
   ·rw [List.getElem?_append_left hl] at hj;obtain ⟨x,q⟩:=hx f Qw;obtain ⟨v,q1,q2⟩:=(hF _ _ _ _ h1 q).2 j ct hj;refine ⟨v,?_,q2⟩;rw [List.getElem?_take] at q1;split at q1
    ·rw [List.getElem?_drop] at q1;rw [<- hc.1];exact q1
    ·cases q1
   ·rw [List.getElem?_append_right hl] at hj;obtain ⟨v,q1,q2⟩:=ih _ _ h2 (λf hf=>hx f (by simp [hf])) _ ct hj;exact ⟨v,by rw [<- q1];congr 1;omega,q2⟩
  ·cases h
theorem cells_open (hN:Named N P):∀ (n k:Nat) (t:TypeId) (cs:List Value) (x:DataW H × List MemPlace) (ts:List CT),flatT N P k t=some ts->DataW.trod enc P W 0 (λ_=>true) true n t cs=some x ->
 cs.length=ts.length/\∀ (j:Nat) (ct:CT),ts[j]?=some ct->∃ v,cs[j]?=some v/\CellOk N ψ W ct v:=by
 intro n;induction n with
 | zero=>intro k t cs x ts _ h;simp [DataW.trod] at h
 | succ n ih =>
  intro k t cs x ts hf h;cases k with
  | zero=>simp [flatT] at hf
  | succ k =>
   have one:∀ {v:Value} {ct:CT},cs=[v]->ts=[ct]->CellOk N ψ W ct v->cs.length=ts.length/\∀ (j:Nat) (ct:CT),ts[j]?=some ct->∃ v,cs[j]?=some v/\CellOk N ψ W ct v:=by
    intro v ct h1 h2 h3;subst h1;subst h2;refine ⟨rfl,λj ct' hj=>?_⟩;cases j with
    | zero=>simp only [List.getElem?_cons_zero,Option.some.injEq] at hj;subst hj;exact ⟨v,rfl,h3⟩
    | succ j=>simp at hj
   unfold flatT at hf;split at hf
   ·rename_i ht;cases hf;obtain ⟨b,e,_⟩:=DataW.trod_bool ht h;exact one e rfl ⟨_,_,.bool b,.bool b,rfl,.bool b⟩
   ·rename_i k' ht;cases hf;obtain ⟨m,e,_,hw⟩:=DataW.trod_int ht h;simp only [Lit.wf,Bool.and_eq_true,decide_eq_true_eq] at hw;exact one e rfl ⟨_,_,.int k' m hw.1 hw.2,.int k' m,rfl,.int k' m⟩
   ·rename_i ht;cases hf;obtain ⟨s,e,_,hw⟩:=DataW.trod_string ht h;refine one e rfl ⟨.str s.data.toList,_,.str _ ?_,.str _,rfl,?_⟩
    ·simp only [maxLen] at hw;have:s.data.toList.length=s.size:=rfl;omega
    ·have:=VR.str (ψ:=ψ) (w:=W) (S:=λc=>c < W.heap.size) (m:=λ_=>(0,0)) (A:=λ_=>False) s.data.toList;exact this
   ·rename_i el ht;have sl:∀ (k:Nat) (us:List CT) (ct:CT),(∀ (es:List (List AV)) (ex:Bool),es.length < 2 ^ 63->(∀ (i:Nat) (e:List AV),es[i]?=some e->e.length=us.length)->(∀ (i:Nat) (e:List AV) (j:Nat) (c:CT) (x:AV),es[i]?=some e->us[j]?=some c->e[j]?=some x->Ty N c x)->Ty N ct (.ro us.length es ex)) ->
     flatT N P k el=some us->us.length=P.cellsOf el->0 < us.length->ts=[ct]->cs.length=ts.length/\∀ (j:Nat) (ct:CT),ts[j]?=some ct->∃ v,cs[j]?=some v/\CellOk N ψ W ct v:=by
     intro k us ct mk hu hz hz0 hts;rcases DataW.trod_slice ht h with ⟨e,_⟩ | ⟨a,len,cap,elems,rest,n',hn,e,_,_,hl,hm,hlen,hel,hsp,_⟩
     ·exact one e hts ⟨.ro us.length [] true,.nils,mk [] true Qw Qw Qw,.ronil _ _,rfl,.nils⟩
     ·cases hn;refine one e hts ?_;have row:∀ i,i < cap->∃ vs y,W.cells? 0 (a.add (i * us.length)) us.length=some vs/\DataW.trod enc P W 0 (λ_=>true) true n el vs=some y:=by
       intro i hi;rcases Nat.lt_or_ge i len with hil | hil
       ·have:=hel i hil;rw [List.getElem?_eq_getElem Qq,Option.bind_eq_some_iff,<- hz] at this;obtain ⟨vs,q1,q2⟩:=this;exact ⟨vs,_,q1,q2⟩
       ·obtain ⟨q0,q⟩:=hsp rfl;have:=q (i - len) Qq;rw [List.getElem?_eq_getElem Qq,Option.bind_eq_some_iff,<- hz,show len+(i - len)=i by omega] at this;obtain ⟨vs,q1,q2⟩:=this;exact ⟨vs,_,q1,q2⟩
      rcases Nat.eq_zero_or_pos cap with hc0 | hc0
      ·subst hc0;obtain rfl:len=0:=by omega
       exact ⟨.ro us.length [] true,.ro us.length [] true,mk [] true Qw Qw Qw,.ro _ [] [] true true Qw rfl id Qw Qw,rfl,.roe _ _ _ 0 (λ_=>rfl)⟩
      ·obtain ⟨b,off,spot⟩:=a;have hfirst:∃ v,W.cell? ⟨b,off,spot⟩=some v:=by obtain ⟨vs,_,q1,_⟩:=row 0 hc0;obtain ⟨_,q2,q3⟩:=World.cells?_some q1;have:=q3 0 hz0;rw [List.getElem?_eq_getElem Qq] at this;exact ⟨_,by simpa [Addr.add] using this⟩
       obtain ⟨v0,hv0⟩:=hfirst;obtain rfl:spot=none:=World.cell?_spot hv0;have hS:b < W.heap.size:=by
        unfold World.cell? at hv0;split at hv0
        ·rename_i hb;exact (Array.getElem?_eq_some_iff.1 hb).1
        ·cases hv0
       have key:∀ p:Nat × Nat,∃ q:Value × AV × AV,p.1 < len->∀ ct,us[p.2]?=some ct->W.cell? ⟨b,off+p.1 * us.length+p.2,none⟩=some q.1/\Ty N ct q.2.1/\VD id (λ_=>False) q.2.1 q.2.2/\q.2.2.cell=true /\
        VR ψ W (λc=>c < W.heap.size) (λ_=>(0,0)) (λ_=>False) q.2.2 q.1:=by
        intro ⟨i,j⟩;by_cases hi:i < len
        ·cases hj:us[j]? with
         | none=>exact ⟨default,λ_ ct q=>by cases q⟩
         | some ct =>obtain ⟨vs,y,q1,q2⟩:=row i Qq;obtain ⟨v,q3,c1,c2,q4,q5,q6,q7⟩:=(ih _ _ _ _ _ hu q2).2 j ct hj;refine ⟨(v,c1,c2),λ_ ct' q=>?_⟩;cases q;refine ⟨?_,q4,q5,q6,q7⟩;obtain ⟨_,r1,r2⟩:=World.cells?_some q1;have hjl:j < us.length:=(List.getElem?_eq_some_iff.1 hj).1;have:=r2 j hjl;rw [q3] at this;rw [<- this];congr 1;simp only [Addr.add];split <;> split <;> simp_all <;> omega
        ·exact ⟨default,λq=>absurd q hi⟩
       obtain ⟨F,hF⟩:=Classical.axiomOfChoice key;let es:List (List AV):=(List.range len).map λi=>(List.range us.length).map λj=>(F (i,j)).2.1;let es':List (List AV):=(List.range len).map λi=>(List.range us.length).map λj=>(F (i,j)).2.2;have g1:∀ (i:Nat) (e:List AV),es[i]?=some e->i < len/\e=(List.range us.length).map λj=>(F (i,j)).2.1:=by intro i e he;simp only [es,List.getElem?_map,Option.map_eq_some_iff] at he;obtain ⟨i',q1,q2⟩:=he;have:=List.getElem?_eq_some_iff.1 q1;obtain ⟨q3,q4⟩:=this;simp at q3 q4;subst q4;exact ⟨q3,q2.symm⟩
       have g1':∀ (i:Nat) (e:List AV),es'[i]?=some e->i < len/\e=(List.range us.length).map λj=>(F (i,j)).2.2:=by intro i e he;simp only [es',List.getElem?_map,Option.map_eq_some_iff] at he;obtain ⟨i',q1,q2⟩:=he;have:=List.getElem?_eq_some_iff.1 q1;obtain ⟨q3,q4⟩:=this;simp at q3 q4;subst q4;exact ⟨q3,q2.symm⟩
       have g2:∀ (G:Nat->AV) (j:Nat) (x:AV),((List.range us.length).map G)[j]?=some x->∃ ct,us[j]?=some ct/\x=G j:=by intro G j x hx;simp only [List.getElem?_map,Option.map_eq_some_iff] at hx;obtain ⟨j',q1,q2⟩:=hx;obtain ⟨q3,q4⟩:=List.getElem?_eq_some_iff.1 q1;simp at q3 q4;subst q4;exact ⟨us[j],List.getElem?_eq_getElem q3,q2.symm⟩
       have l1:es.length=len:=by simp [es]
       have l2:es'.length=len:=by simp [es']
       refine ⟨.ro us.length es (decide (cap=len)),.ro us.length es' (decide (cap=len)),mk es _ ?_ ?_ ?_,.ro _ es es' _ _ ?_ (by rw [l1,l2]) id ?_ ?_,rfl,?_⟩
       ·rw [l1];simp only [maxLen] at hm;omega
       ·intro i e he;rw [(g1 i e he).2];simp
       ·intro i e j ct y he hct hy;obtain ⟨q1,rfl⟩:=g1 i e he;obtain ⟨ct',q2,rfl⟩:=g2 _ j y hy;rw [hct] at q2;cases q2;exact (hF (i,j) q1 ct hct).2.1
       ·intro e he y hy;obtain ⟨i,he⟩:=List.getElem?_of_mem he;obtain ⟨j,hy⟩:=List.getElem?_of_mem hy;obtain ⟨q1,rfl⟩:=g1 i e he;obtain ⟨ct',q2,rfl⟩:=g2 _ j y hy;exact (hF (i,j) q1 ct' q2).2.1.isC
       ·intro i e e' he he';rw [(g1 i e he).2,(g1' i e' he').2];simp
       ·intro i e e' j y y' he he' hy hy';obtain ⟨q1,rfl⟩:=g1 i e he;obtain ⟨_,rfl⟩:=g1' i e' he';obtain ⟨ct',q2,rfl⟩:=g2 _ j y hy;obtain ⟨_,_,rfl⟩:=g2 _ j y' hy';exact (hF (i,j) q1 ct' q2).2.2.1
       ·have:=VR.ro (ψ:=ψ) (w:=W) (S:=λc=>c < W.heap.size) (m:=λ_=>(0,0)) (A:=λ_=>False) us.length es' (decide (cap=len)) b off cap (λi j=>(F (i,j)).1) hS
         (λi e he=>by rw [(g1' i e he).2];simp) (by rw [l2];exact hl) (λq=>by rw [l2];simpa using q)
         (λi e j y he hy=>by obtain ⟨q1,rfl⟩:=g1' i e he;obtain ⟨ct',q2,rfl⟩:=g2 _ j y hy;have:=hF (i,j) q1 ct' q2;exact ⟨this.2.2.2.1,this.1⟩)
         (λi e j y he hy=>by obtain ⟨q1,rfl⟩:=g1' i e he;obtain ⟨ct',q2,rfl⟩:=g2 _ j y hy;exact (hF (i,j) q1 ct' q2).2.2.2.2)
        rw [l2] at this;exact this
    split at hf
    ·rename_i us hlk;cases hf;obtain ⟨n1,n2,n3⟩:=hN _ (fQ hlk);exact sl 20 us _ (λes ex h1 h2 h3=>.sref el us es ex hlk h1 h2 h3) n1 n2 n3 rfl
    ·simp only [Option.bind_eq_some_iff] at hf;obtain ⟨us,hu,hf⟩:=hf;split at hf
     ·rename_i hz;cases hf;exact sl k us _ (λes ex h1 h2 h3=>.slice us es ex h1 h2 h3) hu hz.1 hz.2 rfl
     ·cases hf
   ·rename_i fs ht;simp only [Option.bind_eq_some_iff] at hf;obtain ⟨us,hu,hf⟩:=hf;split at hf
    ·rename_i hz;cases hf;obtain ⟨xs,n',hn,_,hcl,hxl,hx⟩:=DataW.trod_struct ht h;cases hn;refine ⟨by rw [hcl,hz],λj ct hj=>?_⟩;have:=fields_open (cs:=cs) (F:=flatT N P k) (n:=n) (λt cs x ts h1 h2=>ih k t cs x ts h1 h2) fs.toList 0 _ hu (λf hf=>by
      obtain ⟨i,hi⟩:=List.getElem?_of_mem hf;have hi':fs[i]?=some f:=by simpa using hi
      have hlt:i < fs.size:=(Array.getElem?_eq_some_iff.1 hi').1;have:=hx i f hi';rw [List.getElem?_eq_getElem Qq] at this;exact ⟨_,this⟩) j ct hj
     simpa using this
    ·cases hf
   ·rename_i m' e ht;simp only [Option.bind_eq_some_iff] at hf;obtain ⟨us,hu,hf⟩:=hf;split at hf
    ·rename_i hz;obtain ⟨hz1,hz2⟩:=hz;cases hf;obtain ⟨xs,n',hn,hcl,hxl,hx⟩:=trod_array ht h;cases hn;have hlen:(List.replicate m' us).flatten.length=m' * us.length:=by simp
     refine ⟨by rw [hcl,hlen,hz2],λj ct hj=>?_⟩;have hjl:j < m' * us.length:=by rw [<- hlen];exact (List.getElem?_eq_some_iff.1 hj).1
     have hk:0 < us.length:=by
      rcases Nat.eq_zero_or_pos us.length with q | q
      ·rw [q,Nat.mul_zero] at hjl;omega
      ·exact q
     rw [flatten_rep us m' j hjl] at hj;have hq:j / us.length < m':=Nat.div_lt_of_lt_mul (by rw [Nat.mul_comm];exact hjl);have hxq:=hx (j / us.length) hq;rw [List.getElem?_eq_getElem Qq] at hxq;obtain ⟨v,q1,q2⟩:=(ih k e _ _ us hu hxq).2 (j % us.length) ct hj;refine ⟨v,?_,q2⟩;rw [List.getElem?_take] at q1;split at q1
     ·rw [List.getElem?_drop,<- hz1] at q1;rw [<- q1];congr 1;exact (Nat.div_add_mod' j us.length).symm
     ·cases q1
    ·cases hf
   ·cases hf
inductive AT where
 | c (ct:CT)
 | g (ts:List CT)
def AT.has (N:List (TypeId × List CT)):AT->AV->Prop
 | .c ct,a=>Ty N ct a
 | .g ts,a=>∃ es,a=.agg es/\es.length=ts.length/\∀ (j:Nat) (ct:CT) (x:AV),ts[j]?=some ct->es[j]?=some x->Ty N ct x
def argT (N:List (TypeId × List CT)) (P:Program) (t:TypeId):Option AT :=
 match P.underlying t with
 | some (.struct _)=>(flatT N P 20 t).map .g
 | some (.array _ _)=>(flatT N P 20 t).map .g
 | some .bool | some (.int _) | some .string | some (.slice _)=>match flatT N P 20 t with | some [ct]=>some (.c ct) | _=>none
 | _=>none
theorem cells_plain {t:TypeId} {base:Nat} {v:Value} (hu:P.underlying t=some .bool\/(∃ k,P.underlying t=some (.int k))\/P.underlying t=some .string\/∃ e,P.underlying t=some (.slice e)) (h:Value.okWide P W .any base t v) :
 v.cells=#[v]:=by
 cases v <;> try rfl
 rcases hu with hu | ⟨k,hu⟩ | hu | ⟨e,hu⟩ <;> simp [Value.okWide,hu,Cell.okWide,Cell.ok] at h
theorem arg_open (hN:Named N P) {t:TypeId} {at_:AT} (ha:argT N P t=some at_) {base:Nat} {v:Value} (hv:Value.okWide P W .any base t v) {d:DataW H} {p:List MemPlace} (h:DataW.Trod enc P W 0 (λ_=>true) true t v d p) :
 ∃ a a',at_.has N a/\VD id (λ_=>False) a a'/\VR ψ W (λc=>c < W.heap.size) (λ_=>(0,0)) (λ_=>False) a' v:=by
 obtain ⟨fuel,h⟩:=h;have plain:(P.underlying t=some .bool\/(∃ k,P.underlying t=some (.int k))\/P.underlying t=some .string\/∃ e,P.underlying t=some (.slice e)) ->
  (match flatT N P 20 t with | some [ct]=>some (AT.c ct) | _=>none)=some at_->∃ a a',at_.has N a/\VD id (λ_=>False) a a'/\VR ψ W (λc=>c < W.heap.size) (λ_=>(0,0)) (λ_=>False) a' v:=by
  intro hu he;split at he
  ·rename_i ct hf;cases he;rw [cells_plain hu hv] at h;obtain ⟨_,q⟩:=cells_open (ψ:=ψ) hN _ _ _ _ _ _ hf h;obtain ⟨v',q1,a,a',q2,q3,_,q4⟩:=q 0 ct rfl;simp only [List.getElem?_cons_zero,Option.some.injEq] at q1;subst q1;exact ⟨a,a',q2,q3,q4⟩
  ·cases he
 have whole:(∃ cs,v=.agg cs)->(flatT N P 20 t).map AT.g=some at_->∃ a a',at_.has N a/\VD id (λ_=>False) a a'/\VR ψ W (λc=>c < W.heap.size) (λ_=>(0,0)) (λ_=>False) a' v:=by
  rintro ⟨cs,rfl⟩ ha;simp only [Option.map_eq_some_iff] at ha;obtain ⟨ts,hf,rfl⟩:=ha;obtain ⟨hl,q⟩:=cells_open (ψ:=ψ) hN _ _ _ _ _ _ hf h;simp only [Value.cells] at hl q;have key:∀ j:Nat,∃ x:AV × AV,∀ ct,ts[j]?=some ct->Ty N ct x.1/\VD id (λ_=>False) x.1 x.2/\x.2.cell=true/\∃ v,cs.toList[j]?=some v/\VR ψ W (λc=>c < W.heap.size) (λ_=>(0,0)) (λ_=>False) x.2 v:=by
   intro j;cases hj:ts[j]? with
   | none=>exact ⟨default,λ_ q=>by cases q⟩
   | some ct =>obtain ⟨v,q1,a,a',q2,q3,q4,q5⟩:=q j ct hj;exact ⟨(a,a'),λct' e=>by cases e;exact ⟨q2,q3,q4,v,q1,q5⟩⟩
  obtain ⟨F,hF⟩:=Classical.axiomOfChoice key;have g2:∀ (G:Nat->AV) (j:Nat) (x:AV),((List.range ts.length).map G)[j]?=some x->∃ ct,ts[j]?=some ct/\x=G j:=by intro G j x hx;simp only [List.getElem?_map,Option.map_eq_some_iff] at hx;obtain ⟨j',q1,q2⟩:=hx;obtain ⟨q3,q4⟩:=List.getElem?_eq_some_iff.1 q1;simp at q3 q4;subst q4;exact ⟨ts[j],List.getElem?_eq_getElem q3,q2.symm⟩
  refine ⟨.agg ((List.range ts.length).map λj=>(F j).1),.agg ((List.range ts.length).map λj=>(F j).2),⟨_,rfl,by simp,?_⟩,.agg _ _ Qw ?_,.agg _ _ ?_ ?_ ?_⟩
  ·intro j ct x hct hx;obtain ⟨ct',q1,rfl⟩:=g2 _ j x hx;exact (hF j ct hct).1
  ·intro j x x' hx hx';obtain ⟨ct,q1,rfl⟩:=g2 _ j x hx;obtain ⟨_,_,rfl⟩:=g2 _ j x' hx';exact (hF j ct q1).2.1
  ·simp only [List.length_map,List.length_range];rw [<- hl];simp
  ·intro j x hx;obtain ⟨ct,q1,rfl⟩:=g2 _ j x hx;exact (hF j ct q1).2.2.1
  ·intro j x hx;obtain ⟨ct,q1,rfl⟩:=g2 _ j x hx;obtain ⟨v,q2,q3⟩:=(hF j ct q1).2.2.2;have e:cs[j]?=some v:=by simpa using q2
   rw [Array.getD_eq_getD_getElem?,e];exact q3
 unfold argT at ha;split at ha
 ·rename_i fs ht;simp only [Value.okWide,ht] at hv;obtain ⟨cs,hv,_,_⟩:=hv;exact whole ⟨cs,hv⟩ ha
 ·rename_i m e ht;simp only [Value.okWide,ht] at hv;obtain ⟨cs,hv,_,_⟩:=hv;exact whole ⟨cs,hv⟩ ha
 ·rename_i ht;exact plain (.inl ht) ha
 ·rename_i k ht;exact plain (.inr (.inl ⟨k,ht⟩)) ha
 ·rename_i ht;exact plain (.inr (.inr (.inl ht))) ha
 ·rename_i e ht;exact plain (.inr (.inr (.inr ⟨e,ht⟩))) ha
 ·cases ha
def TyAll (N:List (TypeId × List CT)):List AT->List AV->Prop
 | [],[]=>True
 | a::r,x::s=>a.has N x/\TyAll N r s
 | _,_=>False
theorem args_open (hN:Named N P) {base:Nat}:∀ {ts:List TypeId} {ats:List AT} {vs:List Value} {ds:List (DataW H)} {p:List MemPlace},ts.map (argT N P)=ats.map some ->
 (∀ (j:Nat) (t:TypeId) (v:Value),ts[j]?=some t->vs[j]?=some v->Value.okWide P W .any base t v)->DataW.TrodAll enc P W 0 (λ_=>true) true ts vs ds p ->
 ∃ us us',TyAll N ats us/\Rel2 (VD id λ_=>False) us us'/\us'.length=vs.length/\∀ (j:Nat) (x:AV) (v:Value),us'[j]?=some x->vs[j]?=some v->VR ψ W (λc=>c < W.heap.size) (λ_=>(0,0)) (λ_=>False) x v
 | [],[],vs,ds,p,_,_,h=>by obtain ⟨rfl,_,_⟩:=ChangeShapes.trodAll_nil h;exact ⟨[],[],trivial,⟨rfl,by simp⟩,rfl,by simp⟩
 | t::ts,at_::ats,_,_,_,hm,hv,h=>by
  obtain ⟨v,vs1,d,ds1,p1,q1,rfl,rfl,rfl,h1,h2⟩:=ChangeShapes.trodAll_cons h;simp only [List.map_cons,List.cons.injEq] at hm;obtain ⟨a,a',r1,r2,r3⟩:=arg_open (ψ:=ψ) hN hm.1 (hv 0 t v rfl rfl) h1;obtain ⟨us,us',s1,s2,s3,s4⟩:=args_open hN hm.2 (λj t v e1 e2=>hv (j+1) t v e1 e2) h2;refine ⟨a::us,a'::us',⟨r1,s1⟩,⟨by simp [s2.1],λj x x' e1 e2=>?_⟩,by simp [s3],λj x v' e1 e2=>?_⟩
  ·cases j with
   | zero=>cases e1;cases e2;exact r2
   | succ j=>exact s2.2 j x x' e1 e2
  ·cases j with
   | zero=>cases e1;cases e2;exact r3
   | succ j=>exact s4 j x v' e1 e2
 | [],_::_,_,_,_,hm,_,_=>by simp at hm
 | _::_,[],_,_,_,hm,_,_=>by simp at hm
theorem law_callsL {Φ:Nat->FuncId->Option Nat} {D:WProg} (hL:Linked P Φ ψ (erProg D)) (hok:okTree D.fns=true) (hlay:∀ c o,ψ.laid c=some o->c < W.heap.size/\W.heap[c]?=some o) (hN:Named N P) {f:Nat} {ts:List TypeId} {ats:List AT} (hts:ts.map (argT N P)=ats.map some)
 (core:∀ us,TyAll N ats us->FnW D f us=some (.bool true)) {base:Nat} {args:Array Value} {ds:List (DataW H)} {p:List MemPlace}
 (hv:∀ (j:Nat) (t:TypeId) (v:Value),ts[j]?=some t->args[j]?=some v->Value.okWide P W .any base t v) (hA:DataW.TrodAll enc P W 0 (λ_=>true) true ts args.toList ds p) :
 Calls P (ψ f) args W λe W'=>e=.returned (.bool true)/\(∀ c,c < W.heap.size->W'.heap[c]?=W.heap[c]?)/\W.heap.size<=W'.heap.size/\W'.os=W.os/\W'.output=W.output:=by
 obtain ⟨us,us',h1,h2,h3,h4⟩:=args_open (ψ:=ψ) hN hts (λj t v e1 e2=>hv j t v e1 (by simpa using e2)) hA;obtain ⟨n,hc⟩:=fnW_call.1 (core us h1);obtain ⟨v',hc',hvd⟩:=callW_ok hok h2 hc;rw [hvd.bool_inv] at hc';refine (callF_ok hL hc' (w:=W) (S:=λc=>c < W.heap.size) (m:=λ_=>(0,0)) (cargs:=args) hlay (λ_ h=>h) (by rw [h3];simp) λj x hx=>?_).mono ?_
 ·have hj:j < args.size:=by have:=(List.getElem?_eq_some_iff.1 hx).1;rw [h3] at this;simpa using this
  rw [Array.getD_eq_getD_getElem?,Array.getElem?_eq_getElem hj];exact h4 j x _ hx (by simp [hj])
 ·rintro e W' ⟨cv,S',m',rfl,hr,q1,q2,q3,q4⟩;rw [hr.inv_bool];exact ⟨rfl,q1,q2,q3,q4⟩
theorem trodAll_old {W':World} (hh:∀ c,c < W.heap.size->W'.heap[c]?=W.heap[c]?) {base:Nat} {sp:Nat->Bool} {held:Bool}:∀ {ts:List TypeId} {vs:List Value} {ds:List (DataW H)} {ps:List MemPlace},
 DataW.TrodAll enc P W base sp held ts vs ds ps->(∀ p ∈ ps,p.block < W.heap.size)->DataW.TrodAll enc P W' base sp held ts vs ds ps
 | [],[],[],_,h,_=>h
 | _::_,_::_,_::_,_,⟨p,q,⟨n,h1⟩,h2,e⟩,hs=>⟨p,q,⟨n,DataW.trod_carry n _ _ _ h1 λx hx=>by
  have hlt:=hs x (by rw [e];exact List.mem_append_left _ hx);cases x with
  | cell b off=>simp only [World.sameAt,World.cell?];rw [hh b hlt]
  | map b=>exact hh b hlt⟩,trodAll_old hh h2 (λx hx=>hs x (by rw [e];exact List.mem_append_right _ hx)),e⟩
theorem keptBut_old {W':World} (hh:∀ c,c < W.heap.size->W'.heap[c]?=W.heap[c]?) (ho:W'.os=W.os) (hp:W'.output=W.output) (may:MemPlace->Prop):W.keptBut W' may:=by have h:=World.keptBut_refl W may;refine ⟨ho,hp,λi hi=>?_⟩;have:=h.2.2 i hi;rw [hh i hi];exact this
theorem law_post {f:Func} {s:ChangeSpec} {fresh handsOn again:Bool} {W':World} {args:Array Value} {ds gs:List (DataW H)} {before:List MemPlace} {tb:TypeId}
 (kids:Kids P (· < P.types.size)) (full:∀ t e,t < P.types.size->P.underlying t=some (.slice e)->0 < P.cellsOf e)
 (hvars0:s.vars=[]) (hW:DataW.Whole enc P f.params.toList s.vars false W args.toList ds gs before) (hfn:s.fn H (ds++gs)={ results:=[.lit (.bool true)],args:=ds })
 (hps:∀ t ∈ f.params.toList,t < P.types.size) (hr:f.resultTypes=#[tb]) (htb:P.underlying tb=some .bool)
 (hh:∀ c,c < W.heap.size->W'.heap[c]?=W.heap[c]?) (_hsz:W.heap.size<=W'.heap.size) (ho:W'.os=W.os) (hp:W'.output=W.output) :
 s.post enc P f false fresh handsOn again W args (.bool true) W':=by
 have hlt:∀ p ∈ before,p.block < W.heap.size:=hW.lt;have hW':=hW;obtain ⟨p,q,hA,hV,rfl,hz,_⟩:=hW;rw [hvars0] at hV;obtain ⟨rfl,rfl⟩:=ChangeShapes.trodVars_none hV;simp only [List.append_nil] at hlt hz hW' hfn;have hargs:∀ sp:Nat->Bool,(∀ x ∈ p,sp x.block=true)->DataW.TrodAll enc P W' 0 sp true f.params.toList args.toList ds p:=λsp hsp =>trodAll_old hh (DataW.TrodAll.respare kids full hps hA hsp) hlt;have hvars:∀ sp:Nat->Bool,DataW.TrodVars enc P W' sp s.vars [] []:=λsp=>by rw [hvars0];rfl
 have hres:∀ (b:Nat) (sp:Nat->Bool) (hd:Bool),DataW.TrodAll enc P W' b sp hd f.resultTypes.toList ((Value.bool true).resultList f.resultTypes.size) [.lit (.bool true)] []:=λb sp hd=>by rw [hr];exact ChangeShapes.trodAll_mk1 (RowKit.shut_bool htb true)
 have hok:∀ (j:Nat) (t:TypeId) (r:Value),f.resultTypes[j]?=some t->((Value.bool true).resultList f.resultTypes.size)[j]?=some r->Value.okWide P W' .any 0 t r :=RowKit.ok_one hr rfl (by simp [Value.okWide,htb,Cell.okWide,Cell.ok]);have hold:∀ x ∈ p,(λb=>decide (b < W.heap.size)) x.block=true:=λx hx=>by simpa using hlt x hx
 refine ⟨ds,[],p,[],p,[],hW',?_,?_,?_,keptBut_old hh ho hp _,λ_=>⟨hok,[.lit (.bool true)]++ds,[],([]++p)++[],⟨[]++p,[],?_,hvars _,rfl,?_,λh=>by cases h⟩,?_⟩⟩
 ·rw [List.append_nil,hfn];exact hres _ _ _
 ·rw [List.append_nil,hfn];exact hargs _ hold
 ·rw [List.append_nil,hfn];exact hvars _
 ·exact ChangeShapes.trodAll_append (hargs _ λ_ _=>rfl) (hres _ _ _)
 ·intro b off hb;simp only [List.nil_append,List.append_nil] at hb;have:=hz b off hb;unfold World.frozen? at this |-;rw [hh b (hlt _ hb)];exact this
 ·intro x hx _;simpa using hx
theorem trodAll_len {base:Nat} {sp:Nat->Bool} {held:Bool}:∀ {ts:List TypeId} {vs:List Value} {ds:List (DataW H)} {ps:List MemPlace},DataW.TrodAll enc P W base sp held ts vs ds ps->ds.length=ts.length
 | [],[],[],_,_=>rfl
 | _::_,_::_,_::_,_,⟨_,_,_,h2,_⟩=>by simp [trodAll_len h2]
end
end Go.Pw
end
section
namespace Go.Pw
open Go Go.Pav
variable {N:List (TypeId × List CT)}
theorem iD {α:Type} {g:α->List AV} {Q:List AV->Prop} {R:α->Prop} (h:∀ a,Q a->∃ x,a=g x/\R x):∀ (xs:List (List AV)),(∀ x ∈ xs,Q x)->∃ ys:List α,xs=ys.map g/\∀ y ∈ ys,R y:=by
 intro xs;induction xs with
 | nil=>intro _;exact ⟨[],rfl,by simp⟩
 | cons a r ih =>intro hx;obtain ⟨y,rfl,hy⟩:=h a (hx a Qw);obtain ⟨ys,rfl,hys⟩:=ih λx q=>hx x (by simp [q]);exact ⟨y::ys,rfl,by simpa using ⟨hy,hys⟩⟩
theorem ty_slice {ts:List CT} {a:AV} (h:Ty N (.slice ts) a):∃ (es:List (List AV)) (e:Bool),a=.ro ts.length es e/\es.length < 2 ^ 63/\∀ x ∈ es,x.length=ts.length/\∀ (j:Nat) (ct:CT) (v:AV),ts[j]?=some ct->x[j]?=some v->Ty N ct v:=by
 cases h with
 | slice ts es ex hn hw h =>refine ⟨es,ex,rfl,hn,λx hx=>?_⟩;obtain ⟨i,hi⟩:=List.getElem?_of_mem hx;exact ⟨hw i x hi,λj ct v e1 e2=>h i x j ct v hi e1 e2⟩
theorem ty_u8 {v:AV} (h:Ty N (.int .u8) v):∃ n:Int,v=.int .u8 n/\0<=n/\n<=255:=by
 cases h with
 | int k n h1 h2=>exact ⟨n,rfl,h1,h2⟩
theorem ty_i64 {v:AV} (h:Ty N (.int .i64) v):∃ n:Int,v=.int .i64 n/\-9223372036854775808<=n/\n<=9223372036854775807:=by
 cases h with
 | int k n h1 h2=>exact ⟨n,rfl,h1,h2⟩
theorem fJ {v:AV} (h:Ty N .str v):∃ s:List UInt8,v=.str s/\s.length < 9223372036854775808:=by
 cases h with
 | str s h=>exact ⟨s,rfl,h⟩
theorem uX {v:AV} (h:Ty N .bool v):∃ b:Bool,v=.bool b:=by
 cases h with
 | bool b=>exact ⟨b,rfl⟩
end Go.Pw
end
section
namespace Go.Proofs.YtggfejahifmgoaaGreatDoor
open Go.ChangeShapes Go.WideShapes Go.ChangeAt Go.RowKit Go.Pav Go.Pw P
theorem own_:ownKnob Tryz.prog.godebug=none:=by kernel_rfl
theorem kids_:Kids Tryz.prog (· < Tryz.prog.types.size):=kids_rows (by kernel_rfl) (by kernel_rfl)
theorem full_:∀ t e,t < Tryz.prog.types.size->Tryz.prog.underlying t=some (.slice e)->0 < Tryz.prog.cellsOf e:=slices_full_of Tryz.prog (by kernel_rfl)
end Go.Proofs.YtggfejahifmgoaaGreatDoor
end
section
namespace Go.Proofs.YtggfejahifmgoaaGreatDoor
open Go Go.Pav
theorem et_ : Tryz.prog.globalNamed "errors.errorType" = some 0 := by kernel_rfl
theorem rt_ : (Tryz.prog.cutTypes.find? (·.1 == "internal/reflectlite.rtype")).map (·.2) = some 207 := by kernel_rfl
theorem oneRow_:((List.range 408).filter λt=>Tryz.prog.rowNamed t [101,114,114,111,114])=[113]:=by kernel_rfl
theorem size_:Tryz.prog.types.size=408:=by kernel_rfl
abbrev laid_ : List (String × DataW Unit) := [("errors.errorType", Rows.laid_errors_errorType)]
theorem handle_of_laid {W:World} (h:laidMetH Tryz.prog laid_ W):W.cell? ⟨0,0,none⟩=some (.iface 207 (.agg #[.pointer (some ⟨1,113,none⟩)])):=by
 have h':laidMet Tryz.prog [] W/\handlesMet Tryz.prog laid_ W:=h;obtain ⟨name,u,ty,e1,e2,e3,e4,e5⟩:=h'.2 _ (List.mem_singleton.2 rfl);have en:name=[101,114,114,111,114]:=(Option.some.inj e1).symm;subst en;obtain rfl:=Option.some.inj (rt_.symm.trans e2);have hm:ty ∈ (List.range 408).filter λt=>Tryz.prog.rowNamed t [101,114,114,111,114]:=List.mem_filter.2 ⟨List.mem_range.2 (by rw [<- size_];exact e3),e4⟩;rw [oneRow_] at hm;obtain rfl:=List.mem_singleton.1 hm;have hh:typeHandle Tryz.prog 113=.pointer (some ⟨1,113,none⟩):=by kernel_rfl
 rw [hh] at e5;simpa using World.var?_cell et_ e5 0
noncomputable def laidWorld (os:Os):World :=
 let w0:=World.holding Tryz.prog os ⟨#[],#[],[]⟩
 { w0 with heap:=w0.heap.modify 0 fun
  | .cells _ t frozen=>.cells #[.iface 207 (.agg #[.pointer (some ⟨1,113,none⟩)])] t frozen
  | o=>o }
theorem laidWorld_met (os:Os) (args:Array Value):laidMetH Tryz.prog laid_ ((laidWorld os).forCall (λ_ _=>0) ⟨#[],args,[]⟩).memory :=laidMetH_of_parts (laidMet_nil _ _) (by kernel_rfl)
def layOf (W:World):Nat->Option Obj:=λc=>if c=0 then W.heap[0]? else none
theorem layOf_met (W:World):∀ c o,layOf W c=some o->c < W.heap.size/\W.heap[c]?=some o:=by
 intro c o h;unfold layOf at h;split at h
 ·rename_i e;subst e;exact ⟨(Array.getElem?_eq_some_iff.1 h).1,h⟩
 ·cases h
theorem layOf_as {W:World} (h:laidMetH Tryz.prog laid_ W):H33.AsLay (layOf W):=by
 have hc:=handle_of_laid h;unfold World.cell? at hc;split at hc
 ·rename_i c t fr hb;simp only [Option.isSome_none,Bool.false_eq_true,if_false] at hc;exact ⟨c,t,fr,hb,hc⟩
 ·cases hc
end Go.Proofs.YtggfejahifmgoaaGreatDoor
end
section
namespace Go.Pw
open Go Go.Pav
abbrev Orc:=Nat->List AV->Option AV
def orcRun (orc:Orc) (run:WRun):WRun:=λf args h n =>
 match h,n with
 | [],0=>(match orc f args with
  | some v=>some (v,[],0)
  | none=>run f args [] 0)
 | h,n=>run f args h n
structure OrcOk (C:WProg) (orc:Orc):Prop where
 inl:∀ f vs v,orc f vs=some v->C.inl f=false
 ptr:∀ f vs v,orc f vs=some v->hasPtrL vs=false
 val:∀ f vs v,orc f vs=some v->FnW C f vs=some v
 frz:∀ f vs v,orc f vs=some v->frzW [] frzDepth v=some v
section
variable (C:WProg) (orc:Orc)
def evO:Nat->WEv
 | 0,_,_,_=>none
 | n+1,base,c,s =>
  match c with
  | .skip=>some (.norm,s)
  | .ops l a=>ob (evOpsW C (orcRun orc (runWithW C (evO n))) l s) λs=>om (canonF base a s) λs=>(.norm,s)
  | .draw l un a=>ob (evDrawW C (orcRun orc (runWithW C (evO n))) l s.next ⟨s.env,s.heap,s.next+l.length⟩ []) (drawEndW base un a)
  | .seq a b=>ob (evO n base a s) (evSeqW (evO n base b))
  | .cond c a b=>evCondW (evO n base a) (evO n base b) (c.ev s.env) s
  | .block id b a=>ob (evO n base b s) (evBlockW base id a)
  | .loop a b=>ob (canon base a s) λs=>ob (evO n base b s) (evSeqW (evO n base (.loop a b)))
  | .exit id=>some (.exit id,s)
  | .ret=>some (.ret,s)
  | .fail=>none
  | .prim k=>om (primF k (primArgs (primN k) 0 s.env)) λv=>(.ret,⟨putE s.env 9 v,s.heap,s.next⟩)
  | .iso pre ap post a=>ob (evIsoW C (orcRun orc (runWithW C (evO n))) pre ap post s) λs=>om (canonF base a s) λs=>(.norm,s)
  | .cln zz z b=>match (Pav.get s.env 0).bind isEmptyRo with
   | some z'=>if z'=z/\zz.length=z/\8<=n then some (.ret,⟨[(2,.sl s.next z 0 0 0 true)],Pav.put s.heap s.next (.cells z [] true true),s.next+1⟩) else none
   | none=>evO n base (clnC zz z b) s
end
section
variable {C:WProg} {orc:Orc} {r r':WRun}
def RunLeC (C:WProg) (r r':WRun):Prop:=∀ f args h nid n c,evCallW C r f args h nid n=some c->evCallW C r' f args h nid n=some c
theorem evActW_mc (hr:RunLeC C r r') {op:COp} {nid:Nat} {e:Env} {h:WHeap} {n:Nat} {d:WDid} (hd:evActW C r op nid e h n=some d):evActW C r' op nid e h n=some d:=by
 unfold evActW at hd |-;split
 ·rename_i hc;rw [hc] at hd;cases hd
 ·rename_i hc;rw [hc] at hd;exact om_mono hd λc hc=>hr _ _ _ _ _ _ hc
 ·rename_i hc;rw [hc] at hd;exact hd
theorem evOpW_mc (hr:RunLeC C r r') {o:COper} {nid:Nat} {e:Env} {h:WHeap} {n:Nat} {d:WDid} (hd:evOpW C r o nid e h n=some d):evOpW C r' o nid e h n=some d:=by
 unfold evOpW at hd |-;split
 ·rename_i hc;rw [hc] at hd;cases hd
 ·rename_i hc;rw [hc] at hd;exact hd
 ·rename_i hc;rw [hc] at hd;exact evActW_mc hr hd
theorem evOpsW_mc (hr:RunLeC C r r'):∀ (l:List COper) (s s':WSt),evOpsW C r l s=some s'->evOpsW C r' l s=some s':=by
 intro l;induction l with
 | nil=>intro s s' h;exact h
 | cons o l ih=>intro s s' h;exact ob_mono h (λd hd=>evOpW_mc hr hd) λd hd=>ih _ _ hd
theorem evDrawW_mc (hr:RunLeC C r r'):∀ (l:List COper) (nid:Nat) (s:WSt) (ds:List WDid) (x:WSt × List WDid),evDrawW C r l nid s ds=some x->evDrawW C r' l nid s ds=some x:=by
 intro l;induction l with
 | nil=>intro nid s ds x h;exact h
 | cons o l ih=>intro nid s ds x h;exact ob_mono h (λd hd=>evOpW_mc hr hd) λd hd=>ih _ _ _ _ hd
theorem orcRun_some {f:Nat} {args:List AV} {h:WHeap} {n:Nat} {x:AV × WHeap × Nat} (hx:orcRun orc r f args h n=some x):r f args h n=some x\/(∃ v,orc f args=some v/\h=[]/\n=0/\x=(v,[],0)):=by
 unfold orcRun at hx;split at hx
 ·split at hx
  ·rename_i v hv;exact .inr ⟨v,hv,rfl,rfl,(Option.some.inj hx).symm⟩
  ·exact .inl hx
 ·exact .inl hx
theorem orc_le (ok:OrcOk C orc) (hr:RunLeW r (RnW C)):RunLeC C (orcRun orc r) (RnW C):=by
 intro f args h nid n c hc;unfold evCallW at hc |-;split
 ·rename_i hi;rw [if_pos hi] at hc;split
  ·rename_i hf;rw [if_pos hf] at hc;obtain ⟨az,h1,hc⟩:=ob_some hc;by_cases hdp:isDp f=true
   ·rw [if_pos hdp] at hc;obtain ⟨x,h3,hc⟩:=ob_some hc;rw [h1];rcases orcRun_some h3 with h3 | ⟨v,hv,_⟩
    ·simp only [ob,if_pos hdp];rw [hr _ _ _ _ _ h3];exact hc
    ·rw [ok.inl _ _ _ hv] at hi;cases hi
   rw [if_neg hdp] at hc;obtain ⟨x,h2,hend⟩:=ob_some hc;obtain ⟨y,h3,h4⟩:=ob_some h2;rw [h1];rcases orcRun_some h3 with h3 | ⟨v,hv,_⟩
   ·simp only [ob,if_neg hdp];unfold freshCallW;rw [hr _ _ _ _ _ h3];simp only [ob];rw [h4];exact hend
   ·rw [ok.inl _ _ _ hv] at hi;cases hi
  ·rename_i hf;rw [if_neg hf] at hc;obtain ⟨x,h1,rfl⟩:=om_some hc;rcases orcRun_some h1 with h1 | ⟨v,hv,_⟩
   ·rw [hr _ _ _ _ _ h1];rfl
   ·rw [ok.inl _ _ _ hv] at hi;cases hi
 ·rename_i hi;rw [if_neg hi] at hc;split
  ·rename_i hp;rw [if_pos hp] at hc;obtain ⟨x,h1,rfl⟩:=om_some hc;rcases orcRun_some h1 with h1 | ⟨v,hv,_⟩
   ·rw [hr _ _ _ _ _ h1];rfl
   ·rw [ok.ptr _ _ _ hv] at hp;simp at hp
  ·rename_i hp;rw [if_neg hp] at hc;obtain ⟨vs,h1,hc⟩:=ob_some hc;obtain ⟨v,h2,rfl⟩:=om_some hc;rw [h1];have h3:pureCallW (RnW C) f vs=some v:=by
    obtain ⟨x,h4,h5⟩:=ob_some h2;rcases orcRun_some h4 with h4 | ⟨w,hw,_,_,rfl⟩
    ·unfold pureCallW;rw [hr _ _ _ _ _ h4];exact h5
    ·simp only at h5;rw [ok.frz _ _ _ hw] at h5;rw [<- h5];exact ok.val _ _ _ hw
   simp only [ob,h3];rfl
theorem evIsoW_mc (hr:RunLeC C r r') {pre:List COper} {ap:COper} {post:List COper} {s s':WSt} (h:evIsoW C r pre ap post s=some s'):evIsoW C r' pre ap post s=some s':=by
 unfold evIsoW at h |-;split
 ·rename_i hl;rw [if_pos hl] at h;exact ob_mono h (λs1 h1=>evOpsW_mc hr _ _ _ h1) λs1 h1=>ob_mono h1 (λv hv=>hv) λv hv=>om_mono hv λs2 h2=>evOpsW_mc hr _ _ _ h2
 ·rename_i hl;rw [if_neg hl] at h;cases h
theorem evO_cd (ok:OrcOk C orc):∀ (n:Nat) (base:Nat) (c:WCode) (s:WSt) (x:Ex × WSt),evO C orc n base c s=some x->CdW C base c s=some x:=by
 intro n;induction n with
 | zero=>intro base c s x h;simp only [evO] at h;cases h
 | succ n ih =>
  intro base c s x h;have hr:RunLeC C (orcRun orc (runWithW C (evO C orc n))) (RnW C):=orc_le ok (runWithW_mono ih);cases c with
  | skip=>rw [cw_skip];exact h
  | exit id=>rw [cw_exit];exact h
  | ret=>rw [cw_ret];exact h
  | fail=>simp only [evO] at h;cases h
  | prim k=>rw [cw_prim];exact h
  | cln zz z b =>
   rw [cw_cln];simp only [evO] at h;split
   ·rename_i z' hz;rw [hz] at h;simp only at h;split at h
    ·rename_i hc;rw [if_pos ⟨hc.1,hc.2.1⟩];exact h
    ·cases h
   ·rename_i hz;rw [hz] at h;exact ih _ _ _ _ h
  | iso pre ap post a=>rw [cw_iso];simp only [evO] at h;exact ob_mono h (λs' hs=>evIsoW_mc hr hs) λx hx=>hx
  | ops l a=>rw [cw_ops];simp only [evO] at h;exact ob_mono h (λs' hs=>evOpsW_mc hr l s s' hs) λx hx=>hx
  | draw l un a=>rw [cw_draw];simp only [evO] at h;exact ob_mono h (λx hx=>evDrawW_mc hr l _ _ _ x hx) λx hx=>hx
  | seq a b=>rw [cw_seq];simp only [evO] at h;exact ob_mono h (λx hx=>ih _ _ _ _ hx) λx hx=>evSeqW_mono (λs x hx=>ih _ _ _ _ hx) hx
  | cond c a b =>
   rw [cw_cond];simp only [evO] at h;unfold evCondW at h |-;split
   ·rename_i t hv;rw [hv] at h;cases t with
    | true=>exact ih _ _ _ _ h
    | false=>exact ih _ _ _ _ h
   ·split at h
    ·rename_i h1 _ t hv;exact absurd hv (h1 t)
    ·cases h
  | block id b a=>rw [cw_block];simp only [evO] at h;exact ob_mono h (λx hx=>ih _ _ _ _ hx) λx hx=>hx
  | loop a b=>rw [cw_loop];simp only [evO] at h;exact ob_mono h (λx hx=>hx) λs hs=>ob_mono hs (λx hx=>ih _ _ _ _ hx) λx hx=>evSeqW_mono (λs x hx=>ih _ _ _ _ hx) hx
end
end Go.Pw
end
section
namespace Go.Pw
open Go Go.Pav
def sqA:WCode->WCode
 | .seq a _=>a
 | c=>c
def sqB:WCode->WCode
 | .seq _ b=>b
 | c=>c
def norm? (r:Ex × WSt):Option WSt:=match r.1 with
 | .norm=>some r.2
 | _=>none
theorem norm_some {r:Ex × WSt} {s:WSt} (h:norm? r=some s):r=(.norm,s):=by obtain ⟨e,t⟩:=r;cases e <;> simp only [norm?] at h <;> cases h;rfl
def out? (r:Ex × WSt):Option (Ex × WSt):=match r.1 with
 | .norm=>none
 | _=>some r
theorem out_some {r x:Ex × WSt} (h:out? r=some x):r=x/\r.1≠.norm:=by obtain ⟨e,t⟩:=r;cases e <;> simp only [out?] at h <;> cases h <;> exact ⟨rfl,by simp⟩
section
variable (C:WProg) (orc:Orc) (N base:Nat)
def seqO:List WCode->WSt->Option WSt
 | [],s=>some s
 | c::r,s=>ob (evO C orc N base c s) λx=>ob (norm? x) (seqO r)
def stepO (a:Ann) (b:WCode) (s:WSt):Option WSt:=ob (evO C orc N base b s) λr=>ob (norm? r) λs=>canon base a s
def iterO (a:Ann) (b:WCode):Nat->WSt->Option WSt
 | 0,s=>some s
 | n+1,s=>ob (stepO C orc N base a b s) (iterO a b n)
def endO (b:WCode) (s:WSt):Option (Ex × WSt):=ob (evO C orc N base b s) out?
def leaveO (id:Nat) (al:Ann) (b:WCode) (s:WSt):Option WSt:=ob (endO C orc N base b s) λr=>ob (evBlockW base id al r) norm?
end
section
variable {C:WProg} {orc:Orc} {N base:Nat}
theorem seqO_cd (ok:OrcOk C orc):∀ (cs:List WCode) (s s':WSt) (c:WCode),seqO C orc N base cs s=some s'->CdW C base (cs.foldr .seq c) s=CdW C base c s':=by
 intro cs;induction cs with
 | nil=>intro s s' c h;cases h;rfl
 | cons a r ih =>intro s s' c h;simp only [seqO] at h;obtain ⟨x,h1,h⟩:=ob_some h;obtain ⟨t,h2,h⟩:=ob_some h;obtain rfl:=norm_some h2;rw [List.foldr_cons,cw_seq,evO_cd ok _ _ _ _ _ h1];exact ih t s' c h
theorem iterO_add (a:Ann) (b:WCode):∀ (m n:Nat) (s t u:WSt),iterO C orc N base a b m s=some t->iterO C orc N base a b n t=some u->iterO C orc N base a b (m+n) s=some u:=by
 intro m;induction m with
 | zero=>intro n s t u h1 h2;cases h1;rw [Nat.zero_add];exact h2
 | succ m ih =>intro n s t u h1 h2;rw [Nat.succ_add];simp only [iterO] at h1 |-;obtain ⟨x,h3,h4⟩:=ob_some h1;rw [h3];exact ih n x t u h4 h2
theorem loop_cd (ok:OrcOk C orc) (a:Ann) (b:WCode):∀ (n:Nat) (s t:WSt) (r:Ex × WSt),iterO C orc N base a b n s=some t->endO C orc N base b t=some r->∀ s0,canon base a s0=some s->CdW C base (.loop a b) s0=some r:=by
 intro n;induction n with
 | zero =>
  intro s t r h1 h2 s0 hc;cases h1;obtain ⟨x,h3,h4⟩:=ob_some h2;obtain ⟨rfl,h5⟩:=out_some h4;rw [cw_loop,hc];simp only [ob];rw [evO_cd ok _ _ _ _ _ h3];obtain ⟨e,w⟩:=x;cases e with
  | norm=>exact absurd rfl h5
  | exit id=>rfl
  | ret=>rfl
 | succ n ih =>intro s t r h1 h2 s0 hc;simp only [iterO,stepO] at h1;obtain ⟨y,h3,h6⟩:=ob_some h1;obtain ⟨x,h4,h5⟩:=ob_some h3;obtain ⟨w,h7,h8⟩:=ob_some h5;obtain rfl:=norm_some h7;rw [cw_loop,hc];simp only [ob];rw [evO_cd ok _ _ _ _ _ h4];exact ih y t r h6 h2 w h8
theorem block_cd (ok:OrcOk C orc) (a:Ann) (b:WCode) (id:Nat) (al:Ann) {n:Nat} {s0 s t u:WSt} (hc:canon base a s0=some s) (h1:iterO C orc N base a b n s=some t) (h2:leaveO C orc N base id al b t=some u) (c:WCode) :
 CdW C base (.seq (.block id (.loop a b) al) c) s0=CdW C base c u:=by
 obtain ⟨r,h3,h4⟩:=ob_some h2;obtain ⟨x,h5,h6⟩:=ob_some h4;obtain rfl:=norm_some h6;rw [cw_seq,cw_block,loop_cd ok a b n s t r h1 h3 s0 hc];simp only [ob];rw [h5];rfl
theorem assoc_cd (a b c:WCode) (s:WSt):CdW C base (.seq (.seq a b) c) s=CdW C base (.seq a (.seq b c)) s:=by
 rw [cw_seq,cw_seq,cw_seq];cases CdW C base a s with
 | none=>rfl
 | some x =>
  obtain ⟨e,t⟩:=x;cases e with
  | norm=>simp only [ob,evSeqW];rw [cw_seq];rfl
  | exit id=>rfl
  | ret=>rfl
theorem fn_cd {f:Nat} {w:WFn} (hf:C.fns.get f=some w) (hn:w.np=0) {r:Ex × WSt} (hb:CdW C 0 w.body ⟨[],[],0⟩=some r) {v:AV} (hv:(ob (fnEndW w.res r) λr=>frzW r.2.1 frzDepth r.1)=some v):FnW C f []=some v:=by unfold FnW pureCallW RnW runWithW;rw [hf];simp only [ob];rw [if_pos (show ([]:List AV).length=w.np from hn.symm)];have ha:(⟨argW 0 [] [],[],0⟩:WSt)=⟨[],[],0⟩:=rfl;rw [ha,hb];exact hv
theorem pre_cd (b d c:WCode):∀ (cs:List WCode) (s:WSt),CdW C base (cs.foldr .seq (.seq (.seq b d) c)) s=CdW C base ((cs++[b]).foldr .seq (.seq d c)) s:=by
 intro cs;induction cs with
 | nil=>intro s;exact assoc_cd b d c s
 | cons a r ih =>intro s;rw [List.cons_append,List.foldr_cons,List.foldr_cons,cw_seq,cw_seq,funext ih]
theorem head_cd (ok:OrcOk C orc) (cs:List WCode) (b:WCode) (a:Ann) (lb:WCode) (id:Nat) (al:Ann) {n:Nat} {s0 s t u:WSt}
 (h0:(ob (seqO C orc N base (cs++[b]) s0) (canon base a))=some s) (h1:iterO C orc N base a lb n s=some t) (h2:leaveO C orc N base id al lb t=some u) (c:WCode) :
 CdW C base (cs.foldr .seq (.seq (.seq b (.block id (.loop a lb) al)) c)) s0=CdW C base c u:=by
 obtain ⟨s1,h3,h4⟩:=ob_some h0;rw [pre_cd,seqO_cd ok _ _ _ _ h3];exact block_cd ok a lb id al h4 h1 h2 c
theorem iter_chunks (a:Ann) (b:WCode) (k:Nat) (st:Nat->WSt):∀ m,(∀ i,i < m->iterO C orc N base a b k (st (i * k))=some (st (i * k+k)))->iterO C orc N base a b (m * k) (st 0)=some (st (m * k)):=by
 intro m;induction m with
 | zero=>intro _;rw [Nat.zero_mul];rfl
 | succ m ih =>intro h;rw [Nat.succ_mul];exact iterO_add a b _ _ _ _ _ (ih λi hi=>h i Qq) (h m Qq)
end
end Go.Pw
end
section
namespace Go.D
open Go Go.Pav Go.Pw P
def rwM (k:Int):List AV:=[.int .u64 k,.int .u8 0,.int .u8 1,.str [114,111,119],.str [],.ro 2 [] true,.str [],.ro 6 [] true]
def enM (k s:Int) (b:Bool):List AV:=[.int .u64 k,.int .u8 0,.str [],.ro 1 [] true,.int .i64 s,.bool b]
def mdM (l:List AV):List AV:=.bool true::.int .i64 20::.int .i64 0::.int .i64 1::.ro 9 [[.int .u8 1,.str [114,111,119],.str [],.ro 3 [] true,.str [],.ro 6 [] true,.int .i64 10,.bool false,.int .i64 1]] true::.int .i64 1::.int .i64 100::.int .u8 0::l
def msM:Nat->List AV
 | 0=>mdM [.ro 6 [] true,.int .i64 20,.int .i64 0,.ro 8 [] true,.ro 1 [[.ro 8 [] true]] true,.int .i64 0,.int .i64 0,.int .i64 0,.int .i64 0,.int .i64 1]
 | 1=>mdM [.ro 6 [enM 1 10 true,enM 2 25 true,enM 3 10 false,enM 4 10 false] true,.int .i64 20,.int .i64 0,.ro 8 [rwM 1,rwM 2] true,.ro 1 [[.ro 8 [] true]] true,.int .i64 1,.int .i64 0,.int .i64 2,.int .i64 0,.int .i64 3]
 | 2=>mdM [.ro 6 [enM 1 10 true,enM 2 25 true,enM 3 5 true,enM 4 10 true] true,.int .i64 20,.int .i64 30,.ro 8 [rwM 2,rwM 3,rwM 4] true,.ro 1 [[.ro 8 [] true]] true,.int .i64 1,.int .i64 1,.int .i64 1,.int .i64 0,.int .i64 4]
 | 3=>mdM [.ro 6 [enM 2 25 true,enM 3 5 true,enM 4 10 true] true,.int .i64 20,.int .i64 20,.ro 8 [rwM 2,rwM 3,rwM 4] true,.ro 1 [[.ro 8 [] true]] true,.int .i64 0,.int .i64 0,.int .i64 0,.int .i64 0,.int .i64 4]
 | 4=>mdM [.ro 6 [enM 3 5 true,enM 4 10 true] true,.int .i64 20,.int .i64 0,.ro 8 [rwM 3,rwM 4] true,.ro 1 [[.ro 8 [rwM 2] true]] true,.int .i64 0,.int .i64 0,.int .i64 0,.int .i64 0,.int .i64 4]
 | 5=>mdM [.ro 6 [enM 3 5 true,enM 4 10 true] true,.int .i64 20,.int .i64 0,.ro 8 [rwM 3,rwM 4] true,.ro 1 [[.ro 8 [rwM 2] true]] true,.int .i64 0,.int .i64 0,.int .i64 0,.int .i64 0,.int .i64 4]
 | 6=>mdM [.ro 6 [enM 3 5 true,enM 4 10 true] true,.int .i64 20,.int .i64 0,.ro 8 [rwM 3,rwM 4] true,.ro 1 [[.ro 8 [rwM 2] true]] true,.int .i64 0,.int .i64 0,.int .i64 0,.int .i64 0,.int .i64 4]
 | 7=>mdM [.ro 6 [enM 3 5 true,enM 4 10 true] true,.int .i64 20,.int .i64 0,.ro 8 [rwM 3,rwM 4] true,.ro 1 [[.ro 8 [rwM 2] true]] true,.int .i64 0,.int .i64 0,.int .i64 0,.int .i64 0,.int .i64 4]
 | 8=>mdM [.ro 6 [enM 3 5 true,enM 4 10 true] true,.int .i64 20,.int .i64 0,.ro 8 [rwM 3,rwM 4] true,.ro 1 [[.ro 8 [] true]] true,.int .i64 0,.int .i64 0,.int .i64 0,.int .i64 1,.int .i64 3]
 | _=>mdM [.ro 6 [enM 3 5 true,enM 4 1 true] true,.int .i64 20,.int .i64 0,.ro 8 [rwM 3,rwM 4] true,.ro 1 [[.ro 8 [] true]] true,.int .i64 0,.int .i64 0,.int .i64 0,.int .i64 0,.int .i64 3]
def EC (i:Nat) (m:List AV):WHeap :=[(0,.cells 4 [[.int .i64 0,.int .i64 2,.int .i64 0,.int .i64 3],[.int .i64 1,.int .i64 1,.int .i64 0,.int .i64 4],[.int .i64 0,.int .i64 0,.int .i64 0,.int .i64 4],[.int .i64 0,.int .i64 0,.int .i64 0,.int .i64 4],[.int .i64 0,.int .i64 0,.int .i64 0,.int .i64 4],[.int .i64 0,.int .i64 0,.int .i64 0,.int .i64 4],[.int .i64 0,.int .i64 0,.int .i64 0,.int .i64 4],[.int .i64 0,.int .i64 0,.int .i64 1,.int .i64 3],[.int .i64 0,.int .i64 0,.int .i64 0,.int .i64 3]] true true),(1,.cells 1 [[.sl 2 1 0 2 2 true],[.sl 3 1 0 3 3 true],[.sl 4 1 0 3 3 true],[.sl 5 1 0 2 2 true],[.sl 6 1 0 2 2 true],[.sl 7 1 0 2 2 true],[.sl 8 1 0 2 2 true],[.sl 9 1 0 2 2 true],[.sl 10 1 0 2 2 true]] true false),(2,.cells 1 [[.int .u64 1],[.int .u64 2]] true true),(3,.cells 1 [[.int .u64 2],[.int .u64 3],[.int .u64 4]] true true),(4,.cells 1 [[.int .u64 2],[.int .u64 3],[.int .u64 4]] true true),(5,.cells 1 [[.int .u64 3],[.int .u64 4]] true true),(6,.cells 1 [[.int .u64 3],[.int .u64 4]] true true),(7,.cells 1 [[.int .u64 3],[.int .u64 4]] true true),(8,.cells 1 [[.int .u64 3],[.int .u64 4]] true true),(9,.cells 1 [[.int .u64 3],[.int .u64 4]] true true),(10,.cells 1 [[.int .u64 3],[.int .u64 4]] true true),(11,.cells 1 [[.int .i64 0],[.int .i64 0],[.int .i64 0],[.int .i64 0],[.int .i64 11],[.int .i64 4],[.int .i64 8],[.int .i64 0],[.int .i64 0]] true true),(12,.cells 5 [[.int .u8 5,.int .i64 0,.int .u64 0,.sl 13 5 0 1 1 true,.sl 14 2 0 1 1 true],[.int .u8 1,.int .i64 30,.int .u64 0,.ro 5 [] true,.sl 15 2 0 1 1 true],[.int .u8 5,.int .i64 0,.int .u64 0,.sl 16 5 0 1 1 true,.ro 2 [] true],[.int .u8 5,.int .i64 0,.int .u64 0,.sl 16 5 0 1 1 true,.ro 2 [] true],[.int .u8 3,.int .i64 0,.int .u64 9,.ro 5 [] true,.ro 2 [] true],[.int .u8 4,.int .i64 0,.int .u64 0,.ro 5 [] true,.ro 2 [] true],[.int .u8 5,.int .i64 0,.int .u64 0,.sl 17 5 0 1 1 true,.ro 2 [] true],[.int .u8 7,.int .i64 0,.int .u64 0,.ro 5 [] true,.ro 2 [] true],[.int .u8 6,.int .i64 0,.int .u64 0,.ro 5 [] true,.sl 18 2 0 1 1 true]] true false),(13,.cells 5 [[.int .u8 1,.int .i64 0,.int .i64 0,.int .i64 0,.ro 4 [[.int .u64 1,.int .u8 0,.str [],.ro 1 [] true],[.int .u64 2,.int .u8 0,.str [],.ro 1 [] true],[.int .u64 3,.int .u8 0,.str [],.ro 1 [] true],[.int .u64 4,.int .u8 0,.str [],.ro 1 [] true]] false]] (Nat.blt i 1) true),(14,.cells 2 [[.int .u64 2,.int .i64 25]] (Nat.blt i 1) true),(15,.cells 2 [[.int .u64 3,.int .i64 5]] (Nat.blt i 2) true),(16,.cells 5 [[.int .u8 2,.int .i64 0,.int .i64 1,.int .i64 0,.ro 4 [] true]] (Nat.blt i 3) true),(17,.cells 5 [[.int .u8 1,.int .i64 0,.int .i64 0,.int .i64 0,.ro 4 [[.int .u64 3,.int .u8 0,.str [],.ro 1 [] true]] false]] (Nat.blt i 7) true),(18,.cells 2 [[.int .u64 4,.int .i64 1]] (Nat.blt i 9) true),(19,.cells 18 [m] true true)]
def stMo (i:Nat):WSt:=⟨[(8,.int .i64 i),(7,.sl 0 4 0 9 9 true),(6,.sl 1 1 0 9 9 true),(5,.sl 11 1 0 9 9 true),(4,.sl 12 5 0 9 9 true),(1,.ptr 19 0 0)],EC i (msM i),20⟩
def stM0:WSt:=⟨[],[],0⟩
def aMl:Ann:=⟨true,[8,7,6,5,4,1],[]⟩
def aMe:Ann:=⟨true,[],[]⟩
def csM:List WCode:=[sqA w634.body,sqA (sqB w634.body),sqA (sqB (sqB w634.body)),sqA (sqB (sqB (sqB w634.body))),sqA (sqB (sqB (sqB (sqB w634.body)))),sqA (sqB (sqB (sqB (sqB (sqB w634.body))))),sqA (sqB (sqB (sqB (sqB (sqB (sqB w634.body)))))),sqA (sqB (sqB (sqB (sqB (sqB (sqB (sqB w634.body)))))))]
def hdM:WCode:=sqA (sqA (sqB (sqB (sqB (sqB (sqB (sqB (sqB (sqB w634.body)))))))))
theorem shM:w634.body=csM.foldr .seq (.seq (.seq hdM (.block 0 (.loop aMl w634_B0) aMe)) w634_c0):=rfl
end Go.D
end
section
namespace Go.D
open Go Go.Pav Go.Pw P
variable {C:WProg}
def noM:Orc:=λ_ _=>none
theorem noM_ok (C:WProg):OrcOk C noM:=⟨λ_ _ _ h=>(by cases h),λ_ _ _ h=>(by cases h),λ_ _ _ h=>(by cases h),λ_ _ _ h=>(by cases h)⟩
structure LvRun (C:WProg) (N:Nat):Prop where
 a0:(ob (seqO C noM N 0 (csM++[hdM]) stM0) (canon 0 aMl))=some (stMo 0)
 aL:∀ i,i < 9->iterO C noM N 0 aMl w634_B0 1 (stMo (i * 1))=some (stMo (i * 1+1))
 aE:leaveO C noM N 0 0 aMe w634_B0 (stMo 9)=some stM0
 f:(ob (evO C noM N 0 w634_c0 stM0) λr=>ob (fnEndW w634.res r) λr=>frzW r.2.1 frzDepth r.1)=some (.bool true)
theorem lvm_ok (hf:C.fns.get 634=some w634) {N:Nat} (R:LvRun C N):FnW C 634 []=some (.bool true):=by
 have ok:=noM_ok C;obtain ⟨r,h1,h2⟩:=ob_some R.f;have hb:CdW C 0 w634.body ⟨[],[],0⟩=some r:=by rw [shM,show (⟨[],[],0⟩:WSt)=stM0 from rfl, head_cd ok csM hdM aMl w634_B0 0 aMe R.a0 (iter_chunks aMl w634_B0 1 stMo 9 R.aL) R.aE w634_c0];exact evO_cd ok _ _ _ _ _ h1
 exact fn_cd hf rfl hb h2
end Go.D
end
section
namespace Go.D
open Go Go.Pav Go.Pw P
attribute [-simp] List.getElem_cons_drop
variable {C:WProg}
structure It where
 (k t:Int) (x:List UInt8) (m:List (List UInt8)) (e:Bool)
abbrev eIt (i:It):AV:=.agg [.int .u64 i.k,.int .u8 i.t,.str i.x,.ro 1 (i.m.map eS) i.e]
structure kH (C:WProg):Prop extends HasS C where
 Ad:C.fns.get 398=some w398
 BA:C.fns.get 424=some w424
 AU:C.fns.get 494=some w494
 yU:C.fns.get 496=some w496
 Ae:C.fns.get 497=some w497
 CS:C.fns.get 498=some w498
 Ah:C.fns.get 499=some w499
 CV:C.fns.get 544=some w544
theorem oU (H:HasS C) (s:List UInt8) (hl:s.length<=16):∀ n i,n+i=s.length ->
 w511_K0 C ⟨[(3,.int .i64 i),(0,.str s)],[],0⟩=some (.int .i64 (if (s.drop i).all inN=true then 1 else 0)):=by
 intro n;induction n with
 | zero =>
  intro i hi;simp only [w511_K0];rw [ck_unf w511_B0.eq_1];have h1:s.drop i=[]:=List.drop_eq_nil_of_le Qq;have h3:¬ i < s.length:=by omega
  simp [ck_unf w511_c0.eq_1,h1,h3]
 | succ n ih =>
  intro i hi;have h1:i < s.length:=by omega
  have:=ih (i+1) Qq;simp only [w511_K0] at this |-;rw [ck_unf w511_B0.eq_1];rw [drop_cons h1];generalize hX:((s.drop (i+1)).all inN)=X at *;simp at this;rw [List.all_cons,hX];have key:=dS s[i];by_cases q1:97<=s[i].toNat <;> by_cases q2:s[i].toNat<=122 <;> by_cases q3:48<=s[i].toNat <;> by_cases q4:s[i].toNat<=57 <;> first
   | (exfalso;omega)
   | (
    have c:inN s[i]=true:=by rcases key with ⟨c,_⟩ | ⟨_,q⟩ <;> first | exact c | (exfalso;omega)
    simp (disch:=omega) [h1,aj,c,q1,q2,q3,q4,this];done)
   | (
    have c:inN s[i]=false:=by rcases key with ⟨_,q⟩ | ⟨c,_⟩ <;> first | exact c | (exfalso;omega)
    simp (disch:=omega) [h1,aj,c,q1,q2,q3,q4];done)
theorem uz (H:HasS C) (s:List UInt8):FnW C 511 [.str s]=some (.int .i64 (if isName s=true then 1 else 0)):=by
 rw [fnW_eq H.Ag rfl];unfold isName;by_cases c1:1<=s.length
 ·by_cases c2:s.length<=16
  ·have:=oU H s c2 s.length 0 Qw;simp only [w511_K0] at this;simp only [List.drop_zero] at this;generalize hX:s.all inN=X at *;simp at this;have c3:¬ ((s.length:Int) < 1):=by omega
   have c4:¬ (16 < (s.length:Int)):=by omega
   simp [w511,c1,c2,c3,c4,this]
  ·have c3:¬ ((s.length:Int) < 1):=by omega
   have c4:(16 < (s.length:Int)):=by omega
   simp [w511,c1,c2,c3,c4]
 ·have c3:((s.length:Int) < 1):=by omega
  simp [w511,c1,c3]
theorem uq (H:kH C):Pred C 496 inT where
 asc b hb:=by
  rw [fnW_eq H.yU rfl];by_cases c1:32<=b.toNat <;> by_cases c2:126 < b.toNat
  ·have c:inT b=false:=decide_eq_false (λq=>by omega);simp [w496,c,c1,c2]
  ·have c:inT b=true:=decide_eq_true ⟨c1,by omega⟩;simp [w496,c,c1,c2]
  ·omega
  ·have c:inT b=false:=decide_eq_false (λq=>c1 q.1);simp [w496,c,c1,c2]
 high r hr:=by
  rw [fnW_eq H.yU rfl];have h1:32<=r:=by omega
  have h2:126 < r:=by omega
  simp [w496,h1,h2]
 qh b hb:=decide_eq_false (λq=>by omega)
 ne:=by rfl
 ni:=by rfl
structure mJ (C:WProg) (g:Nat) (Q:List UInt8->Bool):Prop where
 ok:∀ s,FnW C g [.str s]=some (.bool (!Q s))
 ne:ppB g=false
 ni:inlB g=false
theorem kF (H:kH C) {g:Nat} {Q:List UInt8->Bool} (G:mJ C g Q) (l:List (List UInt8)) (e:Bool) (hl:l.length<=1000000):∀ n i,n+i=l.length ->
 ∃ v:Int,w544_K0 C ⟨[(8,.int .i64 i),(7,.int .i64 l.length),(1,.fn g []),(0,.ro 1 (l.map eS) e)],[],0⟩=some (.int .i64 v)/\decide (v < 0)=(l.drop i).all Q:=by
 intro n;induction n with
 | zero =>
  intro i hi;simp only [w544_K0];rw [ck_unf w544_B0.eq_1];have h1:l.drop i=[]:=List.drop_eq_nil_of_le Qq;have h3:¬ i < l.length:=by omega
  exact ⟨-1,by simp [ck_unf w544_c0.eq_1,h3],by simp [h1]⟩
 | succ n ih =>
  intro i hi;have h1:i < l.length:=by omega
  have hN:=G.ne;have hI:=G.ni;have hb:=G.ok l[i];rw [drop_cons h1];by_cases c:Q l[i]=true
  ·obtain ⟨v,hv,hq⟩:=ih (i+1) Qq;refine ⟨v,?_,by simp [hq,c]⟩;simp only [w544_K0] at hv |-;rw [ck_unf w544_B0.eq_1];simp at hv;simp (disch:=omega) [h1,aj,hb,c,H.inl,hI,H.pp,hN,hv]
  ·refine ⟨i,?_,by simp [c]⟩;simp only [w544_K0];rw [ck_unf w544_B0.eq_1];simp (disch:=omega) [h1,hb,c,H.inl,hI,H.pp,hN]
theorem dD (H:kH C) {g:Nat} {Q:List UInt8->Bool} (G:mJ C g Q) (l:List (List UInt8)) (e:Bool) (hl:l.length<=1000000) :
 FnW C 498 [.ro 1 (l.map eS) e,.fn g []]=some (.bool (!l.all Q)):=by
 obtain ⟨v,h,q⟩:=kF H G l e hl l.length 0 Qw;simp at q;have h2:FnW C 544 [.ro 1 (l.map eS) e,.fn g []]=some (.int .i64 v):=by rw [fnW_eq H.CV rfl];simp only [w544_K0] at h;simp at h;simp [w544,h]
 rw [fnW_eq H.CS rfl];have q':decide (v < 0)=l.all Q:=by simpa using q
 rw [<- q'];by_cases c:v < 0
 ·have c':¬ 0<=v:=by omega
  simp [w498,H.inl,inlB,H.pp,ppB,h2,c,c']
 ·have c':0<=v:=by omega
  simp [w498,H.inl,inlB,H.pp,ppB,h2,c,c']
theorem wo (H:kH C):mJ C 499 isName where
 ok s:=by have:=qc H.toHasS s;rw [fnW_eq H.Ah rfl];simp [w499,H.inl,inlB,H.pp,ppB,this]
 ne:=by rfl
 ni:=by rfl
def gK (n:Int) (i:It):Bool:=decide (i.k≠0)&&decide (i.t < n)&&isText i.x&&(decide (i.m.length<=8)&&i.m.all isName)
theorem oG (H:kH C) (i:It) (n:Int) (ht:0<=i.t/\i.t<=255):FnW C 398 [eIt i,.int .i64 n]=some (.int .i64 (if gK n i=true then 0 else 6)):=by
 have h1:FnW C 494 [.rop [.int .u64 i.k,.int .u8 i.t,.str i.x,.ro 1 (i.m.map eS) i.e]]=some (.bool (isText i.x)):=by
  have:=dX H.toHasS (uq H) i.x;rw [fnW_eq H.AU rfl];unfold isText;by_cases c2:i.x.length<=64
  ·have c4:(i.x.length:Int)<=64:=by omega
   simp [w494,c2,c4,H.inl,inlB,H.pp,ppB,this]
  ·have c4:¬ ((i.x.length:Int)<=64):=by omega
   simp [w494,c2,c4]
 have h2:FnW C 497 [.rop [.int .u64 i.k,.int .u8 i.t,.str i.x,.ro 1 (i.m.map eS) i.e]]=some (.bool (decide (i.m.length<=8)&&i.m.all isName)):=by
  rw [fnW_eq H.Ae rfl];by_cases c2:i.m.length<=8
  ·have:=dD H (wo H) i.m i.e Qq;have c4:(i.m.length:Int)<=8:=by omega
   simp [w497,c2,c4,H.inl,inlB,H.pp,ppB,this]
  ·have c4:¬ ((i.m.length:Int)<=8):=by omega
   simp [w497,c2,c4]
 rw [fnW_eq H.Ad rfl];unfold gK;generalize isText i.x=X at *;generalize (decide (i.m.length<=8)&&i.m.all isName)=M at *;by_cases c1:i.k=0
 ·simp [w398,c1]
 ·by_cases c2:n<=i.t
  ·have c3:¬ i.t < n:=by omega
   simp (disch:=omega) [w398,c1,c2,c3,aj]
  ·have c3:i.t < n:=by omega
   cases X
   ·simp (disch:=omega) [w398,c1,c2,c3,aj,H.inl,inlB,H.pp,ppB,h1]
   ·cases M <;> simp (disch:=omega) [w398,c1,c2,c3,aj,H.inl,inlB,H.pp,ppB,h1,h2]
theorem jR (H:kH C) (k t:Int) (x:List UInt8) (m:List (List UInt8)) (e:Bool) (hl:m.length<=1000000):∀ n i,n+i=m.length->∀ ok:Bool,
 w424_K0 C ⟨[(6,.int .i64 i),(5,.int .i64 (if ok=true then 1 else 0)),(2,.ptr 0 0 0)],[(0,.cells 4 [[.int .u64 k,.int .u8 t,.str x,.ro 1 (m.map eS) e]] true true)],1⟩ =
  some (.int .i64 (if (ok&&(m.drop i).all isName)=true then 0 else 6)):=by
 intro n;induction n with
 | zero =>
  intro i hi ok;simp only [w424_K0];rw [ck_unf w424_B0.eq_1];have h1:m.drop i=[]:=List.drop_eq_nil_of_le Qq;have h3:¬ i < m.length:=by omega
  cases ok <;> simp [ck_unf w424_c0.eq_1,h1,h3]
 | succ n ih =>
  intro i hi ok;have h1:i < m.length:=by omega
  have:=ih (i+1) Qq (ok&&isName m[i]);have hb:=uz H.toHasS m[i];rw [drop_cons h1];generalize hX:(m.drop (i+1)).all isName=X at *;rw [List.all_cons,hX];simp only [w424_K0] at this |-;rw [ck_unf w424_B0.eq_1];cases ok <;> cases hn:isName m[i] <;> rw [hn] at this hb <;> simp at this hb <;> simp (disch:=omega) [h1,aj,hb,H.inl,inlB,H.pp,ppB,this]
theorem oZ (H:kH C) (i:It) (n:Int) (ht:0<=i.t/\i.t<=255) (hl:i.m.length<=1000000):FnW C 424 [eIt i,.int .i64 n]=some (.int .i64 (if gK n i=true then 0 else 6)):=by
 have hw:=sW H.toHasS i.x;have hA:=jR H i.k i.t i.x i.m i.e hl i.m.length 0 Qw;have h0:=hA false;have h1:=hA true;rw [fnW_eq H.BA rfl];unfold gK;simp only [List.drop_zero,Bool.false_and,Bool.true_and] at h0 h1;generalize i.m.all isName=M at *;generalize isText i.x=X at *;simp only [w424_K0] at h0 h1;simp at h0 h1;by_cases c1:i.k=0
 ·simp [w424,eq_true c1,H.inl,inlB,H.pp,ppB,hw,h0]
 ·by_cases c2:n<=i.t
  ·have c3:¬ i.t < n:=by omega
   simp (disch:=omega) [w424,c1,c2,c3,aj,H.inl,inlB,H.pp,ppB,hw,h0]
  ·have c3:i.t < n:=by omega
   by_cases c4:i.m.length<=8
   ·have c5:¬ (8 < (i.m.length:Int)):=by omega
    cases X
    ·simp (disch:=omega) [w424,c1,c2,c3,c4,c5,aj,H.inl,inlB,H.pp,ppB,hw,h0]
    ·simp (disch:=omega) [w424,c1,c2,c3,c4,c5,aj,H.inl,inlB,H.pp,ppB,hw,h1]
   ·have c5:(8 < (i.m.length:Int)):=by omega
    simp (disch:=omega) [w424,c1,c2,c3,c4,c5,aj,H.inl,inlB,H.pp,ppB,hw,h0]
abbrev Bs:=List UInt8
@[simp] def eA (a:Bs × Bs):List AV:=[.str a.1,.str a.2]
structure Nd where
 k:Int
 t:Bs
 y:Bs
 a:List (Bs × Bs)
 ae:Bool
 x:Bs
 ch:List Nd
 ce:Bool
mutual
def Nd.c:Nd->List AV
 | ⟨k,t,y,a,ae,x,ch,ce⟩=>[.int .u8 k,.str t,.str y,.ro 2 (a.map eA) ae,.str x,.ro 6 (Nd.cs ch) ce]
def Nd.cs:List Nd->List (List AV)
 | []=>[]
 | n::r=>n.c::Nd.cs r
end
theorem Nd.kG:∀ l:List Nd,Nd.cs l=l.map Nd.c
 | []=>rfl
 | n::r=>by rw [Nd.cs,Nd.kG r];rfl
theorem Nd.aC (n:Nd):n.c=[.int .u8 n.k,.str n.t,.str n.y,.ro 2 (n.a.map eA) n.ae,.str n.x,.ro 6 (n.ch.map Nd.c) n.ce]:=by cases n;rw [Nd.c,Nd.kG]
@[simp] theorem Nd.Af (n:Nd):n.c.length=6:=by rw [Nd.aC];rfl
@[simp] theorem Nd.yG (n:Nd):n.c.take 6=n.c:=List.take_of_length_le Qw
@[simp] theorem Nd.c0 (n:Nd):n.c[0]?=some (.int .u8 n.k):=by rw [Nd.aC];rfl
@[simp] theorem Nd.c1 (n:Nd):n.c[1]?=some (.str n.t):=by rw [Nd.aC];rfl
@[simp] theorem Nd.c2 (n:Nd):n.c[2]?=some (.str n.y):=by rw [Nd.aC];rfl
@[simp] theorem Nd.c3 (n:Nd):n.c[3]?=some (.ro 2 (n.a.map eA) n.ae):=by rw [Nd.aC];rfl
@[simp] theorem Nd.c4 (n:Nd):n.c[4]?=some (.str n.x):=by rw [Nd.aC];rfl
@[simp] theorem Nd.c5 (n:Nd):n.c[5]?=some (.ro 6 (n.ch.map Nd.c) n.ce):=by rw [Nd.aC];rfl
@[simp] theorem Nd.g0 (n:Nd) (h:0 < n.c.length):n.c[0]=.int .u8 n.k:=Option.some.inj ((List.getElem?_eq_getElem h).symm.trans n.c0)
@[simp] theorem Nd.g1 (n:Nd) (h:1 < n.c.length):n.c[1]=.str n.t:=Option.some.inj ((List.getElem?_eq_getElem h).symm.trans n.c1)
@[simp] theorem Nd.g2 (n:Nd) (h:2 < n.c.length):n.c[2]=.str n.y:=Option.some.inj ((List.getElem?_eq_getElem h).symm.trans n.c2)
@[simp] theorem Nd.g3 (n:Nd) (h:3 < n.c.length):n.c[3]=.ro 2 (n.a.map eA) n.ae:=Option.some.inj ((List.getElem?_eq_getElem h).symm.trans n.c3)
@[simp] theorem Nd.g4 (n:Nd) (h:4 < n.c.length):n.c[4]=.str n.x:=Option.some.inj ((List.getElem?_eq_getElem h).symm.trans n.c4)
@[simp] theorem Nd.g5 (n:Nd) (h:5 < n.c.length):n.c[5]=.ro 6 (n.ch.map Nd.c) n.ce:=Option.some.inj ((List.getElem?_eq_getElem h).symm.trans n.c5)
@[simp] theorem Nd.hd (n:Nd):n.c.head?=some (.int .u8 n.k):=by rw [Nd.aC];rfl
@[simp] theorem Nd.Ce (n:Nd):hasPtrL n.c=false:=by rw [Nd.aC];rfl
@[simp] theorem Nd.zL (n:Nd) (h:WHeap) (k:Nat):mapO (frzW h (k+1)) n.c=some n.c:=by rw [Nd.aC];rfl
@[simp] theorem Nd.uY (n:Nd) (h:WHeap) (k:Nat):n.c.flatMap (reachW h (k+1))=[]:=by rw [Nd.aC];rfl
@[simp] theorem Nd.AQ (n:Nd) (π:Nat->Option Nat):renL π n.c=some n.c:=by rw [Nd.aC];rfl
@[simp] theorem Nd.yO (n:Nd):refsL n.c=[]:=by rw [Nd.aC];rfl
@[simp] theorem Nd.AB (n:Nd):n.c.all isC=true:=by rw [Nd.aC];rfl
@[simp] theorem Nd.yC (n:Nd):n.c.all AV.cell=true:=by rw [Nd.aC];rfl
def after:Option Bs->Bs->Bool
 | none,_=>true
 | some p,a=>decide (p < a)
def atOk:Option Bs->List (Bs × Bs)->Bool
 | _,[]=>true
 | p,a::r=>isName a.1&&isText a.2&&after p a.1&&atOk (some a.1) r
def aG:List Bs->List Bs->Bool
 | _,[]=>true
 | p,k::r=>!(decide (k≠[])&&p.contains k)&&aG (p++[k]) r
def alone (n:Nd):Bool :=
 if n.k=2 then isText n.x&&decide (n.t=[])&&decide (n.y=[])&&decide (n.a=[])&&decide (n.ch=[])
 else decide (n.k=1)&&isName n.t&&(decide (n.y=[])||isName n.y)&&decide (n.x=[])&&decide (n.a.length<=8)&&decide (n.ch.length<=16)&&atOk none n.a&&aG [] (n.ch.map Nd.y)
structure kP (C:WProg):Prop extends HasS C where
 Am:C.fns.get 434=some w434
 DN:C.fns.get 519=some w519
 BN:C.fns.get 518=some w518
 zJ:C.fns.get 562=some w562
theorem EP (H:kP C) (n:Nd) (c:Nd):FnW C 519 [.agg n.c,.rop c.c]=some (.bool (decide (n.y=c.y))):=by
 rw [fnW_eq H.DN rfl,Nd.aC,Nd.aC];by_cases h:n.y=c.y
 ·simp [w519,h]
 ·simp [w519,h]
theorem jL (H:kP C) (c:Nd) (l:List Nd) (e:Bool) (hl:l.length<=1000000):∀ n i,n+i=l.length ->
 ∃ v:Int,w562_K0 C ⟨[(8,.int .i64 i),(7,.int .i64 l.length),(1,.fn 519 [.rop c.c]),(0,.ro 6 (l.map Nd.c) e)],[],0⟩=some (.int .i64 v)/\decide (v < 0)=!((l.drop i).map Nd.y).contains c.y:=by
 intro n;induction n with
 | zero =>
  intro i hi;simp only [w562_K0];rw [ck_unf w562_B0.eq_1];have h1:l.drop i=[]:=List.drop_eq_nil_of_le Qq;have h3:¬ i < l.length:=by omega
  exact ⟨-1,by simp [ck_unf w562_c0.eq_1,h3],by simp [h1]⟩
 | succ n ih =>
  intro i hi;have h1:i < l.length:=by omega
  have hb:=EP H l[i] c;rw [drop_cons h1];by_cases q:l[i].y=c.y
  ·refine ⟨i,?_,by simp [q]⟩;simp only [w562_K0];rw [ck_unf w562_B0.eq_1];simp (disch:=omega) [h1,hb,q,H.inl,inlB,H.pp,ppB]
  ·obtain ⟨v,hv,hq⟩:=ih (i+1) Qq;refine ⟨v,?_,?_⟩
   ·simp only [w562_K0] at hv |-;rw [ck_unf w562_B0.eq_1];simp at hv;simp (disch:=omega) [h1,aj,hb,q,H.inl,inlB,H.pp,ppB,hv]
   ·have q':¬ c.y=l[i].y:=λh=>q h.symm;simp [hq,q']
theorem iM (H:kP C) (c:Nd) (l:List Nd) (e:Bool) (hl:l.length<=1000000):FnW C 518 [.ro 6 (l.map Nd.c) e,.fn 519 [.rop c.c]]=some (.bool ((l.map Nd.y).contains c.y)):=by
 obtain ⟨v,h,q⟩:=jL H c l e hl l.length 0 Qw;rw [List.drop_zero] at q;have h2:FnW C 562 [.ro 6 (l.map Nd.c) e,.fn 519 [.rop c.c]]=some (.int .i64 v):=by rw [fnW_eq H.zJ rfl];simp only [w562_K0] at h;simp at h;simp [w562,h]
 have q':(l.map Nd.y).contains c.y=!decide (v < 0):=by rw [q];simp
 rw [fnW_eq H.BN rfl,q'];by_cases c:v < 0
 ·have c':¬ 0<=v:=by omega
  simp [w518,H.inl,inlB,H.pp,ppB,h2,c,c']
 ·have c':0<=v:=by omega
  simp [w518,H.inl,inlB,H.pp,ppB,h2,c,c']
theorem blt_eq:∀ x y:Bs,Pav.bytesLess x y=decide (x < y)
 | [],[]=>by simp [Pav.bytesLess]
 | [],_::_=>by simp [Pav.bytesLess]
 | _::_,[]=>by simp [Pav.bytesLess]
 | a::x,b::y=>by
  rw [Pav.bytesLess,blt_eq x y];by_cases h:a < b
  ·simp [h,List.cons_lt_cons_iff]
  ·by_cases q:a=b
   ·simp [h,q,List.cons_lt_cons_iff]
   ·simp [h,q,List.cons_lt_cons_iff]
theorem dR (x y:Bs):(Pav.bytesLess x y||x == y)=!decide (y < x):=by
 rw [blt_eq];by_cases h:y < x
 ·have h1:¬ x < y:=λq=>List.lt_irrefl x (List.lt_trans q h);have h2:¬ x=y:=λq=>by subst q;exact List.lt_irrefl x h
  simp [h,h1,h2]
 ·rcases Decidable.em (x=y) with q | q
  ·simp [h,q]
  ·have h1:x < y:=Classical.byContradiction λp=>q (List.le_antisymm (List.not_lt.1 h) (List.not_lt.1 p));simp [h,h1]
theorem oK (H:kP C) (k:Int) (t y x:Bs) (a:List (Bs × Bs)) (ae ce:Bool) (ch:List Nd) (hl:ch.length<=1000000):∀ n i,n+i=ch.length ->
 w434_K0 C ⟨[(142,.int .i64 i),(141,.int .i64 ch.length),(140,.ro 6 (ch.map Nd.c) ce),(0,.rop [.int .u8 k,.str t,.str y,.ro 2 (a.map eA) ae,.str x,.ro 6 (ch.map Nd.c) ce])],[],0⟩ =
  some (.bool (aG ((ch.map Nd.y).take i) ((ch.map Nd.y).drop i))):=by
 intro n;induction n with
 | zero =>
  intro i hi;simp only [w434_K0];rw [ck_unf w434_B0.eq_1];have h1:(ch.map Nd.y).drop i=[]:=List.drop_eq_nil_of_le Qz;have h3:¬ i < ch.length:=by omega
  simp [ck_unf w434_c0.eq_1,h1,h3,aG,-List.map_drop]
 | succ n ih =>
  intro i hi;have h1:i < ch.length:=by omega
  have h2:i < (ch.map Nd.y).length:=by simp;omega
  have hb:=iM H ch[i] (ch.take i) false Qz;have:=ih (i+1) Qq;rw [List.take_succ_eq_append_getElem h2] at this;rw [drop_cons h2,aG];have hy:(ch.map Nd.y)[i]=ch[i].y:=by simp
  rw [List.map_take,List.map_take] at hb;rw [hy] at this |-;have hne:¬ i=ch.length:=by omega
  have hle:i<=ch.length:=by omega
  simp only [w434_K0] at this |-;rw [ck_unf w434_B0.eq_1];generalize hP:(ch.map Nd.y).take i=P at *;generalize hQ:(ch.map Nd.y).drop (i+1)=Q at *;simp at this;by_cases c1:ch[i].y=[]
  ·rw [c1] at this;simp (disch:=omega) [h1,aj,c1,H.inl,inlB,H.pp,ppB,this]
  ·by_cases c2:P.contains ch[i].y=true
   ·rw [c2] at hb;have c2':ch[i].y ∈ P:=by simpa using c2
    simp (disch:=omega) [h1,hne,hle,aj,c1,c2',hb,H.inl,inlB,H.pp,ppB,this]
   ·have c2':¬ ch[i].y ∈ P:=by simpa using c2
    have c3:P.contains ch[i].y=false:=by simpa using c2
    rw [c3] at hb;simp (disch:=omega) [h1,hne,hle,aj,c1,c2',hb,H.inl,inlB,H.pp,ppB,this]
theorem gy (H:kP C) (k:Int) (t y x:Bs) (a:List (Bs × Bs)) (ae ce:Bool) (ch:List Nd) (hl:ch.length<=1000000) (ha:a.length<=1000000):∀ n i,n+i=a.length ->
 w434_K1 C ⟨[(103,.int .i64 i),(102,.int .i64 a.length),(101,.ro 2 (a.map eA) ae),(0,.rop [.int .u8 k,.str t,.str y,.ro 2 (a.map eA) ae,.str x,.ro 6 (ch.map Nd.c) ce])],[],0⟩ =
  some (.bool (atOk (if i=0 then none else (a[i - 1]?).map Prod.fst) (a.drop i)&&aG [] (ch.map Nd.y))):=by
 intro n;induction n with
 | zero =>
  intro i hi;have hk:=oK H k t y x a ae ce ch hl ch.length 0 Qw;simp only [List.take_zero,List.drop_zero] at hk;generalize aG [] (ch.map Nd.y)=K at *;simp only [w434_K0] at hk;simp at hk;simp only [w434_K1];rw [ck_unf w434_B1.eq_1];have h1:a.drop i=[]:=List.drop_eq_nil_of_le Qq;have h3:¬ i < a.length:=by omega
  simp [ck_unf w434_c1.eq_1,h1,h3,atOk,hk]
 | succ n ih =>
  intro i hi;have h1:i < a.length:=by omega
  have hb:=named_ok H.toHasS a[i].1;have hc:=ny H.toHasS a[i].2;have:=ih (i+1) Qq;rw [if_neg Qq,show i+1 - 1=i from rfl,List.getElem?_eq_getElem h1] at this;rw [drop_cons h1,atOk];generalize hK:aG [] (ch.map Nd.y)=K at *;simp only [w434_K1] at this |-;rw [ck_unf w434_B1.eq_1];simp only [Option.map_some] at this;generalize atOk (some a[i].1) (a.drop (i+1))=R at *;simp at this;cases q1:isName a[i].1
  ·rw [q1] at hb;simp (disch:=omega) [h1,aj,hb,H.inl,inlB,H.pp,ppB]
  ·cases q2:isText a[i].2
   ·rw [q1] at hb;rw [q2] at hc;simp (disch:=omega) [h1,aj,hb,hc,H.inl,inlB,H.pp,ppB]
   ·rw [q1] at hb;rw [q2] at hc;cases i with
    | zero =>simp at this;simp (disch:=omega) [h1,aj,hb,hc,H.inl,inlB,H.pp,ppB,this,after]
    | succ i =>
     have h4:i < a.length:=by omega
     have h5:(i:Int)+1 < a.length:=by omega
     simp at this;by_cases q3:a[i].1 < a[i+1].1
     ·have q4:¬ a[i+1].1<=a[i].1:=List.not_le.2 q3;simp (disch:=omega) [h1,h4,h5,aj,hb,hc,H.inl,inlB,H.pp,ppB,this,dR,after,q3,q4]
     ·have q4:a[i+1].1<=a[i].1:=List.not_lt.1 q3;simp (disch:=omega) [h1,h4,h5,aj,hb,hc,H.inl,inlB,H.pp,ppB,this,dR,after,q3,q4]
theorem tC (H:kP C) (n:Nd):FnW C 434 [.rop n.c]=some (.bool (alone n)):=by
 obtain ⟨k,t,y,a,ae,x,ch,ce⟩:=n;rw [fnW_eq H.Am rfl,Nd.aC];simp only [];unfold alone;simp only [];have ht:=named_ok H.toHasS t;have hy:=named_ok H.toHasS y;have hx:=ny H.toHasS x;by_cases k2:k=2
 ·rw [if_pos k2];generalize isText x=X at *;cases X
  ·simp [w434,k2,hx,H.inl,inlB,H.pp,ppB]
  ·by_cases c1:t=[] <;> by_cases c2:y=[] <;> by_cases c3:a=[] <;> by_cases c4:ch=[] <;> simp [w434,k2,hx,H.inl,inlB,H.pp,ppB,c1,c2,c3,c4]
 ·rw [if_neg k2];by_cases k1:k=1
  ·cases q1:isName t
   ·rw [q1] at ht;simp [w434,k1,ht,H.inl,inlB,H.pp,ppB]
   ·rw [q1] at ht;by_cases c2:y=[]
    ·subst c2;by_cases c3:x=[]
     ·subst c3;by_cases c4:a.length<=8
      ·by_cases c5:ch.length<=16
       ·have c6:¬ 8 < (a.length:Int):=by omega
        have c7:¬ 16 < (ch.length:Int):=by omega
        have hl:=gy H 1 t [] [] a ae ce ch Qq Qq a.length 0 Qw;simp only [w434_K1,if_true,List.drop_zero] at hl;generalize atOk none a=A at *;generalize aG [] (ch.map Nd.y)=K at *;simp at hl;simp [w434,k1,ht,H.inl,inlB,H.pp,ppB,c4,c5,c6,c7,hl]
       ·have c6:¬ 8 < (a.length:Int):=by omega
        have c7:16 < (ch.length:Int):=by omega
        simp [w434,k1,ht,H.inl,inlB,H.pp,ppB,c4,c5,c6,c7]
      ·have c6:8 < (a.length:Int):=by omega
       simp [w434,k1,ht,H.inl,inlB,H.pp,ppB,c4,c6]
     ·simp [w434,k1,ht,H.inl,inlB,H.pp,ppB,c3]
    ·cases q2:isName y
     ·rw [q2] at hy;simp [w434,k1,ht,hy,H.inl,inlB,H.pp,ppB,c2]
     ·rw [q2] at hy;by_cases c3:x=[]
      ·subst c3;by_cases c4:a.length<=8
       ·by_cases c5:ch.length<=16
        ·have c6:¬ 8 < (a.length:Int):=by omega
         have c7:¬ 16 < (ch.length:Int):=by omega
         have hl:=gy H 1 t y [] a ae ce ch Qq Qq a.length 0 Qw;simp only [w434_K1,if_true,List.drop_zero] at hl;generalize atOk none a=A at *;generalize aG [] (ch.map Nd.y)=K at *;simp at hl;simp [w434,k1,ht,hy,H.inl,inlB,H.pp,ppB,c2,c4,c5,c6,c7,hl]
        ·have c6:¬ 8 < (a.length:Int):=by omega
         have c7:16 < (ch.length:Int):=by omega
         simp [w434,k1,ht,hy,H.inl,inlB,H.pp,ppB,c2,c4,c5,c6,c7]
       ·have c6:8 < (a.length:Int):=by omega
        simp [w434,k1,ht,hy,H.inl,inlB,H.pp,ppB,c2,c4,c6]
      ·simp [w434,k1,ht,hy,H.inl,inlB,H.pp,ppB,c2,c3]
  ·simp [w434,k1,k2,H.inl,inlB,H.pp,ppB]
end Go.D
end
section
namespace Go.D
open Go Go.Pav Go.Pw P
attribute [-simp] List.getElem_cons_drop
variable {C:WProg}
mutual
/-- The walk below a node: whether it ends well, how many nodes, how many levels. -/
def wk:Nd->Nat->Nat × Nat->Bool × (Nat × Nat)
 | ⟨k,t,y,a,ae,x,ch,ce⟩,lv,(c,d)=>if 6 < lv\/64 < c+1\/alone ⟨k,t,y,a,ae,x,ch,ce⟩=false then (false,(c+1,max d lv)) else wks ch (lv+1) (c+1,max d lv)
def wks:List Nd->Nat->Nat × Nat->Bool × (Nat × Nat)
 | [],_,s=>(true,s)
 | m::r,lv,s=>if (wk m lv s).1=true then wks r lv (wk m lv s).2 else (false,(wk m lv s).2)
end
theorem tK (n:Nd) (lv c d:Nat):wk n lv (c,d)=if 6 < lv\/64 < c+1\/alone n=false then (false,(c+1,max d lv)) else wks n.ch (lv+1) (c+1,max d lv):=by cases n;rw [wk]
structure jI (C:WProg):Prop extends kP C where
 Bf:C.fns.get 433=some w433
 f282:C.fns.get 282=some w282
 f140:C.fns.get 140=some w140
 BU:C.fns.get 439=some w439
abbrev hpM (root:Nd) (s:Nat × Nat):WHeap:=[(0,.cells 6 [root.c] true true),(1,.cells 1 [[.int .i64 s.1]] true true),(2,.cells 1 [[.int .i64 s.2]] true true),(3,.cells 1 [[.fn 433 [.ptr 1 0 0,.ptr 2 0 0,.ptr 3 0 0]]] true false)]
mutual
theorem xI:∀ (n:Nd) (lv c d:Nat),lv<=7->c<=64->d<=7->((wk n lv (c,d)).1=true->(wk n lv (c,d)).2.1<=64)/\(wk n lv (c,d)).2.2<=7
 | ⟨k,t,y,a,ae,x,ch,ce⟩,lv,c,d,h1,h2,h3=>by
  rw [wk];split
  ·exact ⟨λq=>by simp at q,by simp only;omega⟩
  ·rename_i h;exact qC ch (lv+1) (c+1) (max d lv) Qq Qq Qq
theorem qC:∀ (l:List Nd) (lv c d:Nat),lv<=7->c<=64->d<=7->((wks l lv (c,d)).1=true->(wks l lv (c,d)).2.1<=64)/\(wks l lv (c,d)).2.2<=7
 | [],lv,c,d,h1,h2,h3=>by rw [wks];exact ⟨λ_=>h2,h3⟩
 | m::r,lv,c,d,h1,h2,h3=>by
  have h4:=xI m lv c d h1 h2 h3;rw [wks];split
  ·rename_i h;exact qC r lv _ _ h1 (h4.1 h) h4.2
  ·exact ⟨λq=>by simp at q,h4.2⟩
end
def Walks (C:WProg) (root nd:Nd):Prop:=∀ (lv c d n:Nat),4<=n->c<=64->d<=7->lv<=7 ->
 ∃ n',RnW C 433 [.rop nd.c,.int .i64 lv,.ptr 1 0 0,.ptr 2 0 0,.ptr 3 0 0] (hpM root (c,d)) n=some (.bool (wk nd lv (c,d)).1,hpM root (wk nd lv (c,d)).2,n')
theorem aQ (d lv:Nat):imax d lv=((max d lv:Nat):Int):=by
 by_cases h:lv<=d
 ·rw [rX Qq,Nat.max_eq_left h]
 ·rw [sO Qq,Nat.max_eq_right Qq]
theorem pI (H:jI C) (root nd:Nd) (X:AV) (hX:X=.rop nd.c\/X=.ptr 0 0 0/\root=nd) (lv n:Nat) (hn:4<=n) (hlv:lv<=6) (hl:nd.ch.length<=16) (ih:∀ m ∈ nd.ch,Walks C root m):∀ j i,j+i=nd.ch.length->∀ c d,c<=64->d<=7 ->
 ∃ n',CK C n (fnEndW [.tmp 7]) [.sq w433_L0,.bk 0 ⟨true,[],[]⟩,.sq w433_c0] w433_B0 ⟨[(30,.int .i64 i),(29,.int .i64 nd.ch.length),(4,.ptr 3 0 0),(1,.int .i64 lv),(0,X)],hpM root (c,d),n⟩ =
  some (.bool (wks (nd.ch.drop i) (lv+1) (c,d)).1,hpM root (wks (nd.ch.drop i) (lv+1) (c,d)).2,n'):=by
 have n0:0 < n:=by omega
 have n1:1 < n:=by omega
 have n2:2 < n:=by omega
 have n3:3 < n:=by omega
 intro j;induction j with
 | zero =>
  intro i hi c d hc hd;have h1:nd.ch.drop i=[]:=List.drop_eq_nil_of_le Qq;have h3:¬ i < nd.ch.length:=by omega
  rw [h1,wks,ck_unf w433_B0.eq_1];refine ⟨?_,?_⟩
  rotate_left
  ·rcases hX with rfl | ⟨rfl,rfl⟩
   ·simp (disch:=omega) [ck_unf w433_c0.eq_1,n0,n1,n2,n3,h3];rfl
   ·simp (disch:=omega) [ck_unf w433_c0.eq_1,n0,n1,n2,n3,h3]
 | succ j ihj =>
  intro i hi c d hc hd;have h1:i < nd.ch.length:=by omega
  obtain ⟨n',hw⟩:=ih _ (List.getElem_mem h1) (lv+1) c d (n+1+1+1+11) Qq hc hd Qq;have hb:=xI nd.ch[i] (lv+1) c d Qq hc hd;rw [drop_cons h1,wks];generalize hR:wk nd.ch[i] (lv+1) (c,d)=R at *;obtain ⟨r,c',d'⟩:=R;cases r with
  | true =>
   obtain ⟨n2',hw2⟩:=ihj (i+1) Qq c' d' (hb.1 rfl) hb.2;refine ⟨n2',?_⟩;rw [if_pos rfl];rw [ck_unf w433_B0.eq_1];simp at hw hw2;rcases hX with rfl | ⟨rfl,rfl⟩
   ·simp (disch:=omega) [aj,H.inl,inlB,H.pp,ppB,n0,n1,n2,n3,h1,hw,hw2]
   ·simp (disch:=omega) [aj,H.inl,inlB,H.pp,ppB,n0,n1,n2,n3,h1,hw,hw2]
  | false =>
   rw [if_neg Qw];rw [ck_unf w433_B0.eq_1];simp at hw;refine ⟨?_,?_⟩
   rotate_left
   ·rcases hX with rfl | ⟨rfl,rfl⟩
    ·simp (disch:=omega) [aj,H.inl,inlB,H.pp,ppB,n0,n1,n2,n3,h1,hw];rfl
    ·simp (disch:=omega) [aj,H.inl,inlB,H.pp,ppB,n0,n1,n2,n3,h1,hw]
theorem gW (H:jI C) (root nd:Nd) (X:AV) (hX:X=.rop nd.c\/X=.ptr 0 0 0/\root=nd) (ih:∀ m ∈ nd.ch,Walks C root m) (lv c d n:Nat) (hn:4<=n) (hc:c<=64) (hd:d<=7) (hlv:lv<=7) :
 ∃ n',RnW C 433 [X,.int .i64 lv,.ptr 1 0 0,.ptr 2 0 0,.ptr 3 0 0] (hpM root (c,d)) n=some (.bool (wk nd lv (c,d)).1,hpM root (wk nd lv (c,d)).2,n'):=by
 rw [aP (args:=[X,.int .i64 lv,.ptr 1 0 0,.ptr 2 0 0,.ptr 3 0 0]) H.Bf rfl (hpM root (c,d)) n,tK];have ha:=tC H.tokP nd;have n0:0 < n:=by omega
 have n1:1 < n:=by omega
 have n2:2 < n:=by omega
 have n3:3 < n:=by omega
 by_cases b1:6 < lv
 ·rw [if_pos (.inl b1)];refine ⟨?_,?_⟩
  rotate_left
  ·rcases hX with rfl | ⟨rfl,rfl⟩
   ·simp (disch:=omega) [w433,aj,H.inl,inlB,H.pp,ppB,b1,n0,n1,n2,n3,aQ];rfl
   ·simp (disch:=omega) [w433,aj,H.inl,inlB,H.pp,ppB,b1,n0,n1,n2,n3,aQ]
 ·by_cases b2:64 < c+1
  ·rw [if_pos (.inr (.inl b2))];have b2':64 < (c:Int)+1:=by omega
   refine ⟨?_,?_⟩
   rotate_left
   ·rcases hX with rfl | ⟨rfl,rfl⟩
    ·simp (disch:=omega) [w433,aj,H.inl,inlB,H.pp,ppB,b1,b2',n0,n1,n2,n3,aQ];rfl
    ·simp (disch:=omega) [w433,aj,H.inl,inlB,H.pp,ppB,b1,b2',n0,n1,n2,n3,aQ]
  ·have b2':¬ 64 < (c:Int)+1:=by omega
   cases b3:alone nd with
   | false =>
    rw [if_pos (.inr (.inr rfl))];rw [b3] at ha;refine ⟨?_,?_⟩
    rotate_left
    ·rcases hX with rfl | ⟨rfl,rfl⟩
     ·simp (disch:=omega) [w433,aj,H.inl,inlB,H.pp,ppB,b1,b2',ha,n0,n1,n2,n3,aQ];rfl
     ·simp (disch:=omega) [w433,aj,H.inl,inlB,H.pp,ppB,b1,b2',ha,n0,n1,n2,n3,aQ]
   | true =>
    rw [if_neg Qz];have hl:nd.ch.length<=16:=by
     unfold alone at b3;split at b3
     ·simp at b3;rw [b3.2];simp
     ·simp at b3;omega
    rw [b3] at ha;obtain ⟨n',hw⟩:=pI H root nd X hX lv n hn Qq hl ih nd.ch.length 0 Qw (c+1) (max d lv) Qq Qq;refine ⟨n',?_⟩;rw [List.drop_zero] at hw;have hI:=aQ d lv;generalize max d lv=D at *;generalize wks nd.ch (lv+1) (c+1,D)=R at *;simp only [hpM] at hw |-;simp at hw;rcases hX with rfl | ⟨rfl,rfl⟩
    ·simp (disch:=omega) [w433,aj,H.inl,inlB,H.pp,ppB,b1,b2',ha,n0,n1,n2,n3,hI,hw]
    ·simp (disch:=omega) [w433,aj,H.inl,inlB,H.pp,ppB,b1,b2',ha,n0,n1,n2,n3,hI,hw]
theorem bK (n:Nd):SizeOf.sizeOf n.ch < SizeOf.sizeOf n:=by cases n;simp;omega
theorem walks (H:jI C) (root nd:Nd):Walks C root nd :=λlv c d n hn hc hd hlv=>gW H root nd (.rop nd.c) (.inl rfl) (λm hm=>walks H root m) lv c d n hn hc hd hlv
termination_by SizeOf.sizeOf nd
decreasing_by
 have:=List.sizeOf_lt_of_mem hm;have:=bK nd;omega
def cnt (n:Nd):Nat:=if (wk n 1 (0,0)).1=true then (wk n 1 (0,0)).2.1 else 0
def dep (n:Nd):Nat:=if (wk n 1 (0,0)).1=true then (wk n 1 (0,0)).2.2 else 0
theorem kW (H:jI C) (n:Nd):FnW C 282 [.agg n.c]=some (.tup [.int .i64 (cnt n),.int .i64 (dep n)]):=by rw [fnW_eq H.f282 rfl];have hw:=λk hk=>gW H n n (.ptr 0 0 0) (.inr ⟨rfl,rfl⟩) (λm _=>walks H n m) 1 0 0 k hk Qq Qq Qq;unfold cnt dep;generalize wk n 1 (0,0)=R at *;obtain ⟨r,c,d⟩:=R;obtain ⟨n',h⟩:=hw 8 Qq;simp only [hpM] at h;simp at h;cases r <;> simp [w282,H.inl,inlB,H.pp,ppB,h]
theorem kC (H:jI C) (n:Nd):FnW C 140 [.agg n.c]=some (.int .i64 (cnt n)):=by have h:=kW H n;rw [fnW_eq H.f140 rfl];simp [w140,H.inl,inlB,H.pp,ppB,h]
theorem jV (H:jI C) (n:Nd):FnW C 439 [.agg n.c]=some (.int .i64 (if cnt n=0 then 14 else 0)):=by
 have h:=kC H n;rw [fnW_eq H.BU rfl];by_cases c:cnt n=0
 ·simp [w439,H.inl,inlB,H.pp,ppB,h,c]
 ·simp [w439,H.inl,inlB,H.pp,ppB,h,c]
end Go.D
end
section
namespace Go.D
open Go Go.Pav Go.Pw P
attribute [-simp] List.getElem_cons_drop
variable {C:WProg}
structure jE (C:WProg):Prop extends jI C where
 vN:C.fns.get 563=some w563
 BX:C.fns.get 520=some w520
 CZ:C.fns.get 442=some w442
 BP:C.fns.get 441=some w441
abbrev hp1 (n:Nd):WHeap:=[(0,.cells 6 [n.c] true true)]
theorem uf (n:Nd) (i:Nat) (hi:i < n.ch.length) (hl:n.ch.length<=16) (R:AV)
 (hout:w563_K0 C ⟨[(5,.int .i64 (i+1:Nat)),(1,.ptr 0 0 0)],hp1 n,1⟩=some R):∀ j k,j+k=i ->
 w563_K1 C ⟨[(6,.int .i64 k),(5,.int .i64 i),(1,.ptr 0 0 0)],hp1 n,1⟩=some (if decide (n.ch[i].y≠[])&&(((n.ch.map Nd.y).take i).drop k).contains n.ch[i].y then .bool false else R):=by
 intro j;induction j with
 | zero =>
  intro k hk;have h1:((n.ch.map Nd.y).take i).drop k=[]:=List.drop_eq_nil_of_le Qz;have h3:¬ k < i:=by omega
  simp only [w563_K0] at hout;simp only [w563_K1];rw [ck_unf w563_B1.eq_1];simp at hout;simp (disch:=omega) [ck_unf w563_c1.eq_1,h1,h3,aj,hout]
 | succ j ih =>
  intro k hk;have h1:k < i:=by omega
  have h2:k < n.ch.length:=by omega
  have hlt:k < ((n.ch.map Nd.y).take i).length:=by simp;omega
  have:=ih (k+1) Qq;rw [drop_cons hlt];have hy:((n.ch.map Nd.y).take i)[k]=n.ch[k].y:=by simp
  rw [hy];generalize (((n.ch.map Nd.y).take i).drop (k+1))=Q at *;simp only [w563_K1] at this |-;rw [ck_unf w563_B1.eq_1];simp at this;by_cases c1:n.ch[i].y=[]
  ·simp [c1] at this;simp (disch:=omega) [h1,h2,hi,aj,c1,this]
  ·by_cases c2:n.ch[i].y=n.ch[k].y
   ·have c3:¬ n.ch[k].y=[]:=by rw [<- c2];exact c1
    simp (disch:=omega) [h1,h2,hi,aj,c1,c2,c3]
   ·simp [c1] at this;simp (disch:=omega) [h1,h2,hi,aj,c1,c2,this]
theorem pq (n:Nd) (hl:n.ch.length<=16):∀ j i,j+i=n.ch.length ->
 w563_K0 C ⟨[(5,.int .i64 i),(1,.ptr 0 0 0)],hp1 n,1⟩=some (.bool (aG ((n.ch.map Nd.y).take i) ((n.ch.map Nd.y).drop i))):=by
 intro j;induction j with
 | zero =>
  intro i hi;simp only [w563_K0];rw [ck_unf w563_B0.eq_1];have h1:(n.ch.map Nd.y).drop i=[]:=List.drop_eq_nil_of_le Qz;have h3:¬ i < n.ch.length:=by omega
  simp [ck_unf w563_c0.eq_1,h1,h3,aG,-List.map_drop]
 | succ j ih =>
  intro i hi;have h1:i < n.ch.length:=by omega
  have h2:i < (n.ch.map Nd.y).length:=by simp;omega
  have hin:=uf n i h1 hl _ (ih (i+1) Qq) i 0 Qw;have hy:(n.ch.map Nd.y)[i]=n.ch[i].y:=by simp
  rw [List.take_succ_eq_append_getElem h2,List.drop_zero,hy] at hin;rw [drop_cons h2,aG,hy];generalize (n.ch.map Nd.y).take i=P at *;generalize (n.ch.map Nd.y).drop (i+1)=Q at *;simp only [w563_K0,w563_K1] at hin |-;rw [ck_unf w563_B0.eq_1];simp at hin;by_cases c1:n.ch[i].y=[]
  ·simp [c1] at hin;simp (disch:=omega) [h1,hin,c1]
  ·by_cases c2:n.ch[i].y ∈ P
   ·simp [c1,c2] at hin;simp (disch:=omega) [h1,hin,c1,c2]
   ·simp [c1,c2] at hin;simp (disch:=omega) [h1,hin,c1,c2]
theorem rE (n:Nd) (i:Nat) (hi:i < n.a.length) (hl:n.a.length<=8) (R:AV)
 (hout:w563_K2 C ⟨[(3,.int .i64 (i+1:Nat)),(1,.ptr 0 0 0)],hp1 n,1⟩=some R):∀ j k,j+k=i ->
 w563_K3 C ⟨[(4,.int .i64 k),(3,.int .i64 i),(1,.ptr 0 0 0)],hp1 n,1⟩=some (if ((n.a.take i).drop k).all (λb=>decide (b.1 < n.a[i].1))=true then R else .bool false):=by
 intro j;induction j with
 | zero =>
  intro k hk;have h1:(n.a.take i).drop k=[]:=List.drop_eq_nil_of_le Qz;have h3:¬ k < i:=by omega
  simp only [w563_K2] at hout;simp only [w563_K3];rw [ck_unf w563_B3.eq_1];simp at hout;simp (disch:=omega) [ck_unf w563_c3.eq_1,h1,h3,aj,hout]
 | succ j ih =>
  intro k hk;have h1:k < i:=by omega
  have h2:k < n.a.length:=by omega
  have hlt:k < (n.a.take i).length:=by simp;omega
  have:=ih (k+1) Qq;rw [drop_cons hlt];have hy:(n.a.take i)[k]=n.a[k]:=by simp
  rw [hy];generalize ((n.a.take i).drop (k+1))=Q at *;simp only [w563_K3] at this |-;rw [ck_unf w563_B3.eq_1];simp at this;by_cases c1:n.a[k].1 < n.a[i].1
  ·rw [List.all_cons,decide_eq_true c1,Bool.true_and];simp (disch:=omega) [h1,h2,hi,aj,blt_eq,c1,this]
  ·rw [List.all_cons,decide_eq_false c1,Bool.false_and];have c2:n.a[i].1<=n.a[k].1:=List.not_lt.1 c1;simp (disch:=omega) [h1,h2,hi,aj,blt_eq,c1,c2]
theorem o8 (n:Nd) (i:Nat) (hi:i < n.a.length) (hl:n.a.length<=8):∀ j k,j+k=i->((n.a.take i).drop k).all (λb=>decide (b.1 < n.a[i].1))=false ->
 w563_K3 C ⟨[(4,.int .i64 k),(3,.int .i64 i),(1,.ptr 0 0 0)],hp1 n,1⟩=some (.bool false):=by
 intro j;induction j with
 | zero =>intro k hk hf;have h1:(n.a.take i).drop k=[]:=List.drop_eq_nil_of_le Qz;rw [h1] at hf;simp at hf
 | succ j ih =>
  intro k hk hf;have h1:k < i:=by omega
  have h2:k < n.a.length:=by omega
  have hlt:k < (n.a.take i).length:=by simp;omega
  rw [drop_cons hlt] at hf;have hy:(n.a.take i)[k]=n.a[k]:=by simp
  rw [hy,List.all_cons] at hf;by_cases c1:n.a[k].1 < n.a[i].1
  ·rw [decide_eq_true c1,Bool.true_and] at hf;have:=ih (k+1) Qq hf;simp only [w563_K3] at this |-;rw [ck_unf w563_B3.eq_1];simp at this;simp (disch:=omega) [h1,h2,hi,aj,blt_eq,c1,this]
  ·have c2:n.a[i].1<=n.a[k].1:=List.not_lt.1 c1;simp only [w563_K3];rw [ck_unf w563_B3.eq_1];simp (disch:=omega) [h1,h2,hi,aj,blt_eq,c1,c2]
theorem o9 (H:jE C) (n:Nd) (hl:n.a.length<=8) (hl2:n.ch.length<=16):∀ j i,j+i=n.a.length->(∀ (p q:Nat) (hp:p < n.a.length) (hq:q < n.a.length),p < q->q < i->n.a[p].1 < n.a[q].1) ->
 w563_K2 C ⟨[(3,.int .i64 i),(1,.ptr 0 0 0)],hp1 n,1⟩=some (.bool (atOk (if i=0 then none else (n.a[i - 1]?).map Prod.fst) (n.a.drop i)&&aG [] (n.ch.map Nd.y))):=by
 intro j;induction j with
 | zero =>
  intro i hi hs;have hk:=pq (C:=C) n hl2 n.ch.length 0 Qw;simp only [List.take_zero,List.drop_zero] at hk;generalize aG [] (n.ch.map Nd.y)=K at *;simp only [w563_K0] at hk;simp at hk;simp only [w563_K2];rw [ck_unf w563_B2.eq_1];have h1:n.a.drop i=[]:=List.drop_eq_nil_of_le Qq;have h3:¬ i < n.a.length:=by omega
  simp [ck_unf w563_c2.eq_1,h1,h3,atOk,hk]
 | succ j ih =>
  intro i hi hs;have h1:i < n.a.length:=by omega
  have hb:=aV H.toHasS n.a[i].1;have hc:=dh H.toHasS n.a[i].2;rw [drop_cons h1,atOk];generalize hK:aG [] (n.ch.map Nd.y)=K at *;cases q1:isName n.a[i].1
  ·rw [q1] at hb;simp only [w563_K2];rw [ck_unf w563_B2.eq_1];simp (disch:=omega) [h1,aj,hb,H.inl,inlB,H.pp,ppB]
  ·cases q2:isText n.a[i].2
   ·rw [q1] at hb;rw [q2] at hc;simp only [w563_K2];rw [ck_unf w563_B2.eq_1];simp (disch:=omega) [h1,aj,hb,hc,H.inl,inlB,H.pp,ppB]
   ·rw [q1] at hb;rw [q2] at hc;have key:(n.a.take i).all (λb=>decide (b.1 < n.a[i].1))=after (if i=0 then none else (n.a[i - 1]?).map Prod.fst) n.a[i].1:=by
     cases i with
     | zero=>simp [after]
     | succ i =>
      have h4:i < n.a.length:=by omega
      rw [if_neg Qq,show i+1 - 1=i from rfl,List.getElem?_eq_getElem h4];simp only [Option.map_some,after];by_cases q3:n.a[i].1 < n.a[i+1].1
      ·rw [decide_eq_true q3,List.all_eq_true];intro b hb;obtain ⟨p,hp,rfl⟩:=List.getElem_of_mem hb;simp at hp;rw [List.getElem_take];apply decide_eq_true;by_cases e:p=i
       ·subst e;exact q3
       ·exact List.lt_trans (hs p i Qq h4 Qq Qq) q3
      ·rw [decide_eq_false q3,List.all_eq_false];exact ⟨n.a[i],List.mem_take_iff_getElem.2 ⟨i,by omega,rfl⟩,by simp [q3]⟩
    have step:∀ R,w563_K3 C ⟨[(4,.int .i64 (0:Nat)),(3,.int .i64 i),(1,.ptr 0 0 0)],hp1 n,1⟩=some R->w563_K2 C ⟨[(3,.int .i64 i),(1,.ptr 0 0 0)],hp1 n,1⟩=some R:=by intro R hR;simp only [w563_K2,w563_K3] at hR |-;rw [ck_unf w563_B2.eq_1];simp at hR;simp (disch:=omega) [h1,aj,hb,hc,H.inl,inlB,H.pp,ppB,hR]
    by_cases q3:(n.a.take i).all (λb=>decide (b.1 < n.a[i].1))=true
    ·have:=ih (i+1) Qq (λp q hp hq h5 h6=>by
      by_cases e:q=i
      ·subst e;have:=List.all_eq_true.1 q3 n.a[p] (List.mem_take_iff_getElem.2 ⟨p,by omega,rfl⟩);simpa using this
      ·exact hs p q hp hq h5 Qq)
     rw [if_neg Qq,show i+1 - 1=i from rfl,List.getElem?_eq_getElem h1] at this;have hin:=rE n i h1 hl _ this i 0 Qw;rw [List.drop_zero,if_pos q3] at hin;rw [step _ hin,<- key,q3];simp
    ·have q4:(n.a.take i).all (λb=>decide (b.1 < n.a[i].1))=false:=Bool.eq_false_iff.2 q3;rw [<- key,q4];simp only [Bool.and_false,Bool.false_and];exact step _ (o8 n i h1 hl i 0 Qw (by rw [List.drop_zero];exact q4))
theorem yX (H:jE C) (n:Nd):FnW C 563 [.agg n.c]=some (.bool (alone n)):=by
 rw [fnW_eq H.vN rfl];unfold alone;have ht:=aV H.toHasS n.t;have hy:=aV H.toHasS n.y;have hx:=dh H.toHasS n.x;by_cases k2:n.k=2
 ·rw [if_pos k2];generalize isText n.x=X at *;cases X
  ·simp [w563,k2,hx,H.inl,inlB,H.pp,ppB]
  ·by_cases c1:n.t=[] <;> by_cases c2:n.y=[] <;> by_cases c3:n.a=[] <;> by_cases c4:n.ch=[] <;> simp [w563,k2,hx,H.inl,inlB,H.pp,ppB,c1,c2,c3,c4]
 ·rw [if_neg k2];by_cases k1:n.k=1
  ·cases q1:isName n.t
   ·rw [q1] at ht;simp [w563,k1,ht,H.inl,inlB,H.pp,ppB]
   ·rw [q1] at ht;have rest:(n.y=[]\/n.y≠[]/\isName n.y=true)->FnW C 563 [.agg n.c]=some (.bool (decide (n.x=[])&&decide (n.a.length<=8)&&decide (n.ch.length<=16)&&atOk none n.a&&aG [] (n.ch.map Nd.y))):=by
     intro hyy;rw [fnW_eq H.vN rfl];by_cases c3:n.x=[]
     ·by_cases c4:n.a.length<=8
      ·by_cases c5:n.ch.length<=16
       ·have c6:¬ 8 < (n.a.length:Int):=by omega
        have c7:¬ 16 < (n.ch.length:Int):=by omega
        have hl:=o9 H n c4 c5 n.a.length 0 Qw Qq;simp only [w563_K2,if_true,List.drop_zero] at hl;generalize atOk none n.a=A at *;generalize aG [] (n.ch.map Nd.y)=K at *;simp at hl;rcases hyy with c2 | ⟨c2,q2⟩
        ·simp [w563,k1,ht,H.inl,inlB,H.pp,ppB,eq_true c2,eq_true c3,c4,c5,c6,c7,hl]
        ·rw [q2] at hy;simp [w563,k1,ht,hy,H.inl,inlB,H.pp,ppB,c2,eq_true c3,c4,c5,c6,c7,hl]
       ·have c6:¬ 8 < (n.a.length:Int):=by omega
        have c7:16 < (n.ch.length:Int):=by omega
        rcases hyy with c2 | ⟨c2,q2⟩
        ·simp [w563,k1,ht,H.inl,inlB,H.pp,ppB,eq_true c2,eq_true c3,c4,c5,c6,c7]
        ·rw [q2] at hy;simp [w563,k1,ht,hy,H.inl,inlB,H.pp,ppB,c2,eq_true c3,c4,c5,c6,c7]
      ·have c6:8 < (n.a.length:Int):=by omega
       rcases hyy with c2 | ⟨c2,q2⟩
       ·simp [w563,k1,ht,H.inl,inlB,H.pp,ppB,eq_true c2,eq_true c3,c4,c6]
       ·rw [q2] at hy;simp [w563,k1,ht,hy,H.inl,inlB,H.pp,ppB,c2,eq_true c3,c4,c6]
     ·rcases hyy with c2 | ⟨c2,q2⟩
      ·simp [w563,k1,ht,H.inl,inlB,H.pp,ppB,eq_true c2,c3]
      ·rw [q2] at hy;simp [w563,k1,ht,hy,H.inl,inlB,H.pp,ppB,c2,c3]
    rw [fnW_eq H.vN rfl] at rest;by_cases c2:n.y=[]
    ·rw [rest (.inl c2)];simp [k1,c2]
    ·cases q2:isName n.y
     ·rw [q2] at hy;simp [w563,k1,ht,hy,H.inl,inlB,H.pp,ppB,c2]
     ·rw [rest (.inr ⟨c2,q2⟩)];simp [k1]
  ·simp [w563,k1,k2,H.inl,inlB,H.pp,ppB]
mutual
/-- The specification's count, with so many levels. -/
def rc:Nd->Nat->Nat
 | _,0=>1000
 | ⟨k,t,y,a,ae,x,ch,ce⟩,lv+1=>if alone ⟨k,t,y,a,ae,x,ch,ce⟩=true then rcs ch lv 1 else 1000
def rcs:List Nd->Nat->Nat->Nat
 | [],_,c=>c
 | m::r,lv,c=>if c<=64 then rcs r lv (c+rc m lv) else c
end
theorem zT (n:Nd):rc n 0=1000:=by cases n;rw [rc]
theorem yJ (n:Nd) (lv:Nat):rc n (lv+1)=if alone n=true then rcs n.ch lv 1 else 1000:=by cases n;rw [rc]
theorem kR:∀ (l:List Nd) (lv c:Nat),c<=rcs l lv c
 | [],lv,c=>by rw [rcs];exact Nat.le_refl _
 | m::r,lv,c=>by
  rw [rcs];split
  ·have:=kR r lv (c+rc m lv);omega
  ·exact Nat.le_refl _
theorem Bj (n:Nd) (lv:Nat):1<=rc n lv:=by
 cases lv with
 | zero=>rw [zT];omega
 | succ lv =>
  rw [yJ];split
  ·exact kR _ _ _
  ·omega
mutual
theorem xQ:∀ (n:Nd) (lv:Nat),rc n lv<=1000+64 * lv
 | ⟨k,t,y,a,ae,x,ch,ce⟩,0=>by rw [rc];omega
 | ⟨k,t,y,a,ae,x,ch,ce⟩,lv+1=>by
  rw [rc];split
  ·have:=sF ch lv 1 Qq;omega
  ·omega
theorem sF:∀ (l:List Nd) (lv c:Nat),c<=1064+64 * lv->rcs l lv c<=1064+64 * lv
 | [],lv,c,h=>by rw [rcs];exact h
 | m::r,lv,c,h=>by
  rw [rcs];split
  ·have h2:=xQ m lv;exact sF r lv _ Qq
  ·exact h
end
mutual
theorem xK:∀ (n:Nd) (lv L c d:Nat),lv+L=7->c<=64->((wk n L (c,d)).1=true->(wk n L (c,d)).2.1=c+rc n lv/\c+rc n lv<=64)/\((wk n L (c,d)).1=false->64 < c+rc n lv)
 | ⟨k,t,y,a,ae,x,ch,ce⟩,lv,L,c,d,h1,h2=>by
  have hge:=Bj ⟨k,t,y,a,ae,x,ch,ce⟩ lv;rw [wk];by_cases q:6 < L\/64 < c+1\/alone ⟨k,t,y,a,ae,x,ch,ce⟩=false
  ·rw [if_pos q];refine ⟨λr=>by simp at r,λ_=>?_⟩;rcases q with q | q | q
   ·have:lv=0:=by omega
    subst this;rw [rc];omega
   ·omega
   ·cases lv with
    | zero=>rw [rc];omega
    | succ lv=>rw [rc,if_neg (by simp [q])];omega
  ·rw [if_neg q];cases lv with
   | zero=>omega
   | succ lv =>rw [rc,if_pos (by simpa using λr=>q (.inr (.inr r)))];exact sJ ch lv (L+1) c 1 (max d L) Qq Qq
theorem sJ:∀ (l:List Nd) (lv L g c d:Nat),lv+L=7->g+c<=64->((wks l L (g+c,d)).1=true->(wks l L (g+c,d)).2.1=g+rcs l lv c/\g+rcs l lv c<=64)/\((wks l L (g+c,d)).1=false->64 < g+rcs l lv c)
 | [],lv,L,g,c,d,h1,h2=>by rw [wks,rcs];exact ⟨λ_=>⟨rfl,h2⟩,λr=>by simp at r⟩
 | m::r,lv,L,g,c,d,h1,h2=>by
  have hm:=xK m lv L (g+c) d h1 h2;have hr:rcs (m::r) lv c=rcs r lv (c+rc m lv):=by rw [rcs,if_pos Qq]
  rw [wks,hr];generalize wk m L (g+c,d)=R at *;obtain ⟨b,c',d'⟩:=R;cases b with
  | true =>obtain ⟨e1,e2⟩:=hm.1 rfl;rw [if_pos rfl];simp only at e1;rw [e1,Nat.add_assoc];exact sJ r lv L g (c+rc m lv) d' h1 Qq
  | false =>have e:=hm.2 rfl;rw [if_neg Qw];refine ⟨λq=>by simp at q,λ_=>?_⟩;have:=kR r lv (c+rc m lv);omega
end
theorem tV (n:Nd):cnt n=if 64 < rc n 6 then 0 else rc n 6:=by
 have h:=xK n 6 1 0 0 rfl Qq;unfold cnt;generalize wk n 1 (0,0)=R at *;obtain ⟨b,c,d⟩:=R;cases b with
 | true =>obtain ⟨e1,e2⟩:=h.1 rfl;simp only at e1;rw [if_pos rfl,if_neg Qq];simp only;omega
 | false =>have e:=h.2 rfl;rw [if_neg Qw,if_pos Qq]
theorem kD (H:jE C) (n:Nd) (lv:Nat) (hlv:lv<=5) (hl:n.ch.length<=16) (ih:∀ m ∈ n.ch,FnW C 520 [.agg m.c,.int .i64 lv]=some (.int .i64 (rc m lv))):∀ j i,j+i=n.ch.length->∀ c,c<=1064+64 * lv ->
 w520_K0 C ⟨[(6,.int .i64 i),(5,.int .i64 c),(2,.ptr 0 0 0),(1,.int .i64 (lv+1:Nat))],hp1 n,1⟩=some (.int .i64 (rcs (n.ch.drop i) lv c)):=by
 intro j;induction j with
 | zero =>
  intro i hi c hc;simp only [w520_K0];rw [ck_unf w520_B0.eq_1];have h1:n.ch.drop i=[]:=List.drop_eq_nil_of_le Qq;have h3:¬ i < n.ch.length:=by omega
  rw [h1,rcs];simp [ck_unf w520_c0.eq_1,h3]
 | succ j ihj =>
  intro i hi c hc;have h1:i < n.ch.length:=by omega
  have hm:=ih _ (List.getElem_mem h1);have hle:=xQ n.ch[i] lv;rw [drop_cons h1,rcs];by_cases c1:c<=64
  ·have:=ihj (i+1) Qq (c+rc n.ch[i] lv) Qq;rw [if_pos c1];have c2:(c:Int)<=64:=by omega
   simp only [w520_K0] at this |-;rw [ck_unf w520_B0.eq_1];simp at this;simp (disch:=omega) [h1,c1,c2,aj,hm,H.inl,inlB,H.pp,ppB,this]
  ·rw [if_neg c1];have c2:¬ (c:Int)<=64:=by omega
   simp only [w520_K0];rw [ck_unf w520_B0.eq_1];simp (disch:=omega) [ck_unf w520_c0.eq_1,h1,c1,c2]
theorem jy (H:jE C) (n:Nd) (ih:∀ m ∈ n.ch,∀ lv:Nat,lv<=6->FnW C 520 [.agg m.c,.int .i64 lv]=some (.int .i64 (rc m lv))) (lv:Nat) (hlv:lv<=6):FnW C 520 [.agg n.c,.int .i64 lv]=some (.int .i64 (rc n lv)):=by
 have ho:=yX H n;rw [fnW_eq H.BX rfl];cases lv with
 | zero=>rw [zT];simp [w520]
 | succ lv =>
  rw [yJ];have c1:¬ (lv:Int)+1 < 1:=by omega
  cases ha:alone n with
  | false=>rw [ha] at ho;simp [w520,c1,ho,H.inl,inlB,H.pp,ppB]
  | true =>
   rw [ha] at ho;have hl:n.ch.length<=16:=by
    unfold alone at ha;split at ha
    ·simp at ha;rw [ha.2];simp
    ·simp at ha;omega
   have hr:=kD H n lv Qq hl (λm hm=>ih m hm lv Qq) n.ch.length 0 Qw 1 Qq;rw [List.drop_zero] at hr;simp only [w520_K0] at hr;simp at hr;simp [w520,c1,ho,H.inl,inlB,H.pp,ppB,hr]
theorem gY (H:jE C) (n:Nd) (lv:Nat) (hlv:lv<=6):FnW C 520 [.agg n.c,.int .i64 lv]=some (.int .i64 (rc n lv)) :=jy H n (λm hm lv hlv=>gY H m lv hlv) lv hlv
termination_by SizeOf.sizeOf n
decreasing_by
 have:=List.sizeOf_lt_of_mem hm;have:=bK n;omega
theorem gV (H:jE C) (n:Nd):FnW C 442 [.agg n.c]=some (.int .i64 (cnt n)):=by
 have h:=gY H n 6 Qq;rw [fnW_eq H.CZ rfl,tV];generalize rc n 6=R at *;simp at h;by_cases c:64 < R
 ·have c1:64 < (R:Int):=by omega
  simp [w442,H.inl,inlB,H.pp,ppB,h,c,c1]
 ·have c1:¬ 64 < (R:Int):=by omega
  simp [w442,H.inl,inlB,H.pp,ppB,h,c,c1]
theorem oh (H:jE C) (n:Nd):FnW C 441 [.agg n.c]=some (.int .i64 (if cnt n=0 then 14 else 0)):=by
 have h:=gV H n;rw [fnW_eq H.BP rfl];by_cases c:cnt n=0
 ·simp [w441,H.inl,inlB,H.pp,ppB,h,c]
 ·simp [w441,H.inl,inlB,H.pp,ppB,h,c]
end Go.D
end
section
namespace Go.D
open Go Go.Pav Go.Pw P
attribute [-simp] List.getElem_cons_drop
variable {C:WProg}
structure Sl where
 n:Bs
 f:Int
 v:Bs
@[simp] def eSl (s:Sl):List AV:=[.str s.n,.int .u8 s.f,.str s.v]
structure Pt where
 k:Int
 t:Bs
 y:Bs
 s:List Sl
 se:Bool
 x:Bs
 ch:List Pt
 ce:Bool
mutual
def Pt.c:Pt->List AV
 | ⟨k,t,y,s,se,x,ch,ce⟩=>[.int .u8 k,.str t,.str y,.ro 3 (s.map eSl) se,.str x,.ro 6 (Pt.cs ch) ce]
def Pt.cs:List Pt->List (List AV)
 | []=>[]
 | n::r=>n.c::Pt.cs r
end
theorem Pt.kG:∀ l:List Pt,Pt.cs l=l.map Pt.c
 | []=>rfl
 | n::r=>by rw [Pt.cs,Pt.kG r];rfl
theorem Pt.aC (n:Pt):n.c=[.int .u8 n.k,.str n.t,.str n.y,.ro 3 (n.s.map eSl) n.se,.str n.x,.ro 6 (n.ch.map Pt.c) n.ce]:=by cases n;rw [Pt.c,Pt.kG]
@[simp] theorem Pt.Af (n:Pt):n.c.length=6:=by rw [Pt.aC];rfl
@[simp] theorem Pt.yG (n:Pt):n.c.take 6=n.c:=List.take_of_length_le Qw
@[simp] theorem Pt.c0 (n:Pt):n.c[0]?=some (.int .u8 n.k):=by rw [Pt.aC];rfl
@[simp] theorem Pt.c1 (n:Pt):n.c[1]?=some (.str n.t):=by rw [Pt.aC];rfl
@[simp] theorem Pt.c2 (n:Pt):n.c[2]?=some (.str n.y):=by rw [Pt.aC];rfl
@[simp] theorem Pt.c3 (n:Pt):n.c[3]?=some (.ro 3 (n.s.map eSl) n.se):=by rw [Pt.aC];rfl
@[simp] theorem Pt.c4 (n:Pt):n.c[4]?=some (.str n.x):=by rw [Pt.aC];rfl
@[simp] theorem Pt.c5 (n:Pt):n.c[5]?=some (.ro 6 (n.ch.map Pt.c) n.ce):=by rw [Pt.aC];rfl
@[simp] theorem Pt.g0 (n:Pt) (h:0 < n.c.length):n.c[0]=.int .u8 n.k:=Option.some.inj ((List.getElem?_eq_getElem h).symm.trans n.c0)
@[simp] theorem Pt.g1 (n:Pt) (h:1 < n.c.length):n.c[1]=.str n.t:=Option.some.inj ((List.getElem?_eq_getElem h).symm.trans n.c1)
@[simp] theorem Pt.g2 (n:Pt) (h:2 < n.c.length):n.c[2]=.str n.y:=Option.some.inj ((List.getElem?_eq_getElem h).symm.trans n.c2)
@[simp] theorem Pt.g3 (n:Pt) (h:3 < n.c.length):n.c[3]=.ro 3 (n.s.map eSl) n.se:=Option.some.inj ((List.getElem?_eq_getElem h).symm.trans n.c3)
@[simp] theorem Pt.g4 (n:Pt) (h:4 < n.c.length):n.c[4]=.str n.x:=Option.some.inj ((List.getElem?_eq_getElem h).symm.trans n.c4)
@[simp] theorem Pt.g5 (n:Pt) (h:5 < n.c.length):n.c[5]=.ro 6 (n.ch.map Pt.c) n.ce:=Option.some.inj ((List.getElem?_eq_getElem h).symm.trans n.c5)
@[simp] theorem Pt.hd (n:Pt):n.c.head?=some (.int .u8 n.k):=by rw [Pt.aC];rfl
@[simp] theorem Pt.Ce (n:Pt):hasPtrL n.c=false:=by rw [Pt.aC];rfl
@[simp] theorem Pt.zL (n:Pt) (h:WHeap) (k:Nat):mapO (frzW h (k+1)) n.c=some n.c:=by rw [Pt.aC];rfl
@[simp] theorem Pt.uY (n:Pt) (h:WHeap) (k:Nat):n.c.flatMap (reachW h (k+1))=[]:=by rw [Pt.aC];rfl
@[simp] theorem Pt.AQ (n:Pt) (π:Nat->Option Nat):renL π n.c=some n.c:=by rw [Pt.aC];rfl
@[simp] theorem Pt.yO (n:Pt):refsL n.c=[]:=by rw [Pt.aC];rfl
@[simp] theorem Pt.AB (n:Pt):n.c.all isC=true:=by rw [Pt.aC];rfl
@[simp] theorem Pt.yC (n:Pt):n.c.all AV.cell=true:=by rw [Pt.aC];rfl
theorem Pt.bK (n:Pt):SizeOf.sizeOf n.ch < SizeOf.sizeOf n:=by cases n;simp;omega
def aO:Option Bs->List Sl->Bool
 | _,[]=>true
 | p,s::r=>isName s.n&&decide (s.f<=3)&&isText s.v&&(decide (s.f<=0)||decide (s.v=[]))&&after p s.n&&aO (some s.n) r
def aN (p:Pt):Bool :=
 if p.k=1 then (decide (p.y=[])||isName p.y)&&decide (p.ch.length<=16)&&isName p.t&&(decide (p.s.length<=8)&&aO none p.s)&&decide (p.x=[])
 else if p.k=5 then isName p.t&&(decide (p.s.length<=8)&&aO none p.s)&&decide (p.y=[])&&decide (p.x=[])&&decide (p.ch=[])
 else if p.k=2 then isText p.x&&decide (p.t=[])&&decide (p.y=[])&&decide (p.s=[])&&decide (p.ch=[])
 else decide (p.k=3\/p.k=4)&&decide (p.t=[])&&decide (p.y=[])&&decide (p.x=[])&&decide (p.s=[])&&decide (p.ch=[])
structure eF (C:WProg):Prop extends jI C where
 AL:C.fns.get 581=some w581
 AA:C.fns.get 579=some w579
 Di:C.fns.get 585=some w585
 BJ:C.fns.get 549=some w549
 zI:C.fns.get 502=some w502
 Ap:C.fns.get 503=some w503
 Dx:C.fns.get 548=some w548
 zB:C.fns.get 404=some w404
 f231:C.fns.get 231=some w231
theorem jQ (n:Nd) (h:n.ch=[]):cnt n=if alone n=true then 1 else 0:=by rw [tV,yJ,h,rcs];cases alone n <;> simp
theorem bP (H:eF C) (s:Bs):FnW C 581 [.str s]=some (.bool (isName s)):=by
 have h:FnW C 439 [.agg [.int .u8 1,.str s,.str [],.ro 2 [] true,.str [],.ro 6 [] true]]=_:=jV H.tojI ⟨1,s,[],[],true,[],[],true⟩;rw [jQ _ rfl] at h;have e:alone ⟨1,s,[],[],true,[],[],true⟩=isName s:=by unfold alone;simp [atOk,aG]
 rw [e] at h;rw [fnW_eq H.AL rfl];cases q:isName s <;> rw [q] at h <;> simp at h <;> simp [w581,H.inl,inlB,H.pp,ppB,h]
theorem dP (H:eF C) (s:Bs):FnW C 579 [.str s]=some (.bool (isText s)):=by
 have h:FnW C 439 [.agg [.int .u8 2,.str [],.str [],.ro 2 [] true,.str s,.ro 6 [] true]]=_:=jV H.tojI ⟨2,[],[],[],true,s,[],true⟩;rw [jQ _ rfl] at h;have e:alone ⟨2,[],[],[],true,s,[],true⟩=isText s:=by unfold alone;simp
 rw [e] at h;rw [fnW_eq H.AA rfl];cases q:isText s <;> rw [q] at h <;> simp at h <;> simp [w579,H.inl,inlB,H.pp,ppB,h]
theorem kL (H:eF C) (l:List Sl) (e:Bool) (hl:l.length<=1000000):∀ n i,n+i=l.length ->
 w585_K0 C ⟨[(10,.int .i64 i),(9,.int .i64 l.length),(8,.ro 3 (l.map eSl) e),(0,.ro 3 (l.map eSl) e)],[],0⟩ =
  some (.bool (aO (if i=0 then none else (l[i - 1]?).map Sl.n) (l.drop i))):=by
 intro n;induction n with
 | zero =>
  intro i hi;simp only [w585_K0];rw [ck_unf w585_B0.eq_1];have h1:l.drop i=[]:=List.drop_eq_nil_of_le Qq;have h3:¬ i < l.length:=by omega
  simp [ck_unf w585_c0.eq_1,h1,h3,aO]
 | succ n ih =>
  intro i hi;have h1:i < l.length:=by omega
  have hb:=bP H l[i].n;have hc:=dP H l[i].v;have:=ih (i+1) Qq;rw [if_neg Qq,show i+1 - 1=i from rfl,List.getElem?_eq_getElem h1] at this;rw [drop_cons h1,aO];simp only [w585_K0] at this |-;rw [ck_unf w585_B0.eq_1];simp only [Option.map_some] at this;generalize aO (some l[i].n) (l.drop (i+1))=R at *;cases q1:isName l[i].n
  ·rw [q1] at hb;simp (disch:=omega) [h1,aj,hb,H.inl,inlB,H.pp,ppB]
  ·rw [q1] at hb;by_cases f3:l[i].f<=3
   ·have f3':¬ 3 < l[i].f:=by omega
    cases q2:isText l[i].v
    ·rw [q2] at hc;simp (disch:=omega) [h1,aj,hb,hc,H.inl,inlB,H.pp,ppB,f3,f3']
    ·rw [q2] at hc;by_cases f0:0 < l[i].f/\¬ l[i].v=[]
     ·have f1:¬ l[i].f<=0:=by omega
      simp (disch:=omega) [h1,aj,hb,hc,H.inl,inlB,H.pp,ppB,f3,f3',f0.1,f0.2,f1]
     ·have key:(0 < l[i].f/\l[i].v=[])\/¬ 0 < l[i].f:=by
       by_cases a:0 < l[i].f
       ·exact .inl ⟨a,Classical.byContradiction λb=>f0 ⟨a,b⟩⟩
       ·exact .inr a
      cases i with
      | zero =>
       simp at this;rcases key with ⟨a,b⟩ | a
       ·have b':=eq_true b;simp (disch:=omega) [h1,aj,hb,hc,H.inl,inlB,H.pp,ppB,f3,f3',a,b',this,after]
       ·have a':l[0].f<=0:=by omega
        simp (disch:=omega) [h1,aj,hb,hc,H.inl,inlB,H.pp,ppB,f3,f3',a,a',this,after]
      | succ i =>
       have h4:i < l.length:=by omega
       have h5:(i:Int)+1 < l.length:=by omega
       simp at this;by_cases q3:l[i].n < l[i+1].n
       ·have q4:¬ l[i+1].n<=l[i].n:=List.not_le.2 q3;rcases key with ⟨a,b⟩ | a
        ·have b':=eq_true b;simp (disch:=omega) [h1,h4,h5,aj,hb,hc,H.inl,inlB,H.pp,ppB,f3,f3',a,b',this,after,dR,q3,q4]
        ·have a':l[i+1].f<=0:=by omega
         simp (disch:=omega) [h1,h4,h5,aj,hb,hc,H.inl,inlB,H.pp,ppB,f3,f3',a,a',this,after,dR,q3,q4]
       ·have q4:l[i+1].n<=l[i].n:=List.not_lt.1 q3;rcases key with ⟨a,b⟩ | a
        ·have b':=eq_true b;simp (disch:=omega) [h1,h4,h5,aj,hb,hc,H.inl,inlB,H.pp,ppB,f3,f3',a,b',this,after,dR,q3,q4]
        ·have a':l[i+1].f<=0:=by omega
         simp (disch:=omega) [h1,h4,h5,aj,hb,hc,H.inl,inlB,H.pp,ppB,f3,f3',a,a',this,after,dR,q3,q4]
   ·have f3':3 < l[i].f:=by omega
    simp (disch:=omega) [h1,aj,hb,H.inl,inlB,H.pp,ppB,f3,f3']
theorem tJ (H:eF C) (l:List Sl) (e:Bool):FnW C 585 [.ro 3 (l.map eSl) e]=some (.bool (decide (l.length<=8)&&aO none l)):=by
 rw [fnW_eq H.Di rfl];by_cases c:l.length<=8
 ·have c1:¬ 8 < (l.length:Int):=by omega
  have h:=kL H l e Qq l.length 0 Qw;rw [List.drop_zero,if_pos rfl] at h;generalize aO none l=R at *;simp only [w585_K0] at h;simp at h;simp [w585,c,c1,h]
 ·have c1:8 < (l.length:Int):=by omega
  simp [w585,c,c1]
end Go.D
end
section
namespace Go.D
open Go Go.Pav Go.Pw P
attribute [-simp] List.getElem_cons_drop
variable {C:WProg}
theorem oL (H:eF C) (p:Pt):FnW C 549 [.rop p.c]=some (.bool (aN p)):=by
 obtain ⟨k,t,y,s,se,x,ch,ce⟩:=p;rw [fnW_eq H.BJ rfl,Pt.aC];simp only [];unfold aN;simp only [];have ht:=bP H t;have hy:=bP H y;have hx:=dP H x;have hs:=tJ H s se;generalize isName t=T at *;generalize isText x=X at *;generalize (decide (s.length<=8)&&aO none s)=S at *;by_cases k1:k=1
 ·rw [if_pos k1];by_cases c2:y=[]
  ·subst c2;by_cases c5:ch.length<=16
   ·have c7:¬ 16 < (ch.length:Int):=by omega
    cases T
    ·simp [w549,k1,ht,hs,H.inl,inlB,H.pp,ppB,c5,c7]
    ·cases S
     ·simp [w549,k1,ht,hs,H.inl,inlB,H.pp,ppB,c5,c7]
     ·by_cases c3:x=[] <;> simp [w549,k1,ht,hs,H.inl,inlB,H.pp,ppB,c3,c5,c7]
   ·have c7:16 < (ch.length:Int):=by omega
    simp [w549,k1,ht,hs,H.inl,inlB,H.pp,ppB,c5,c7]
  ·cases q2:isName y
   ·rw [q2] at hy;simp [w549,k1,hy,H.inl,inlB,H.pp,ppB,c2]
   ·rw [q2] at hy;by_cases c5:ch.length<=16
    ·have c7:¬ 16 < (ch.length:Int):=by omega
     cases T
     ·simp [w549,k1,ht,hy,hs,H.inl,inlB,H.pp,ppB,c2,c5,c7]
     ·cases S
      ·simp [w549,k1,ht,hy,hs,H.inl,inlB,H.pp,ppB,c2,c5,c7]
      ·by_cases c3:x=[] <;> simp [w549,k1,ht,hy,hs,H.inl,inlB,H.pp,ppB,c2,c3,c5,c7]
    ·have c7:16 < (ch.length:Int):=by omega
     simp [w549,k1,ht,hy,hs,H.inl,inlB,H.pp,ppB,c2,c5,c7]
 ·rw [if_neg k1];by_cases k5:k=5
  ·rw [if_pos k5];cases T
   ·simp [w549,k5,ht,hs,H.inl,inlB,H.pp,ppB]
   ·cases S
    ·simp [w549,k5,ht,hs,H.inl,inlB,H.pp,ppB]
    ·by_cases c2:y=[]
     ·by_cases c3:x=[]
      ·by_cases c4:ch=[]
       ·simp [w549,k5,ht,hs,H.inl,inlB,H.pp,ppB,c2,c3,c4]
       ·simp [w549,k5,ht,hs,H.inl,inlB,H.pp,ppB,c2,c3,c4]
      ·simp [w549,k5,ht,hs,H.inl,inlB,H.pp,ppB,c2,c3]
     ·simp [w549,k5,ht,hs,H.inl,inlB,H.pp,ppB,c2]
  ·rw [if_neg k5];by_cases k2:k=2
   ·rw [if_pos k2];cases X
    ·simp [w549,k2,hx,H.inl,inlB,H.pp,ppB]
    ·by_cases c1:t=[]
     ·by_cases c2:y=[]
      ·by_cases c3:s=[]
       ·by_cases c4:ch=[]
        ·simp [w549,k2,hx,H.inl,inlB,H.pp,ppB,c1,c2,c3,c4]
        ·simp [w549,k2,hx,H.inl,inlB,H.pp,ppB,c1,c2,c3,c4]
       ·simp [w549,k2,hx,H.inl,inlB,H.pp,ppB,c1,c2,c3]
      ·simp [w549,k2,hx,H.inl,inlB,H.pp,ppB,c1,c2]
     ·simp [w549,k2,hx,H.inl,inlB,H.pp,ppB,c1]
   ·rw [if_neg k2];by_cases k34:k=3\/k=4
    ·rcases k34 with k3 | k4
     ·by_cases c1:t=[]
      ·by_cases c2:y=[]
       ·by_cases c0:x=[]
        ·by_cases c3:s=[]
         ·by_cases c4:ch=[]
          ·simp [w549,k3,H.inl,inlB,H.pp,ppB,c1,c2,c0,c3,c4]
          ·simp [w549,k3,H.inl,inlB,H.pp,ppB,c1,c2,c0,c3,c4]
         ·simp [w549,k3,H.inl,inlB,H.pp,ppB,c1,c2,c0,c3]
        ·simp [w549,k3,H.inl,inlB,H.pp,ppB,c1,c2,c0]
       ·simp [w549,k3,H.inl,inlB,H.pp,ppB,c1,c2]
      ·simp [w549,k3,H.inl,inlB,H.pp,ppB,c1]
     ·by_cases c1:t=[]
      ·by_cases c2:y=[]
       ·by_cases c0:x=[]
        ·by_cases c3:s=[]
         ·by_cases c4:ch=[]
          ·simp [w549,k4,H.inl,inlB,H.pp,ppB,c1,c2,c0,c3,c4]
          ·simp [w549,k4,H.inl,inlB,H.pp,ppB,c1,c2,c0,c3,c4]
         ·simp [w549,k4,H.inl,inlB,H.pp,ppB,c1,c2,c0,c3]
        ·simp [w549,k4,H.inl,inlB,H.pp,ppB,c1,c2,c0]
       ·simp [w549,k4,H.inl,inlB,H.pp,ppB,c1,c2]
      ·simp [w549,k4,H.inl,inlB,H.pp,ppB,c1]
    ·have k3:¬ k=3:=λq=>k34 (.inl q);have k4:¬ k=4:=λq=>k34 (.inr q);simp [w549,k1,k2,k3,k4,k5,H.inl,inlB,H.pp,ppB]
mutual
/-- The walk below a part: whether it ends well, how many parts. -/
def tk:Pt->Nat->Nat->Bool × Nat
 | ⟨k,t,y,s,se,x,ch,ce⟩,lv,c=>if 6 < lv\/64 < c+1\/aN ⟨k,t,y,s,se,x,ch,ce⟩=false then (false,c+1) else tks ch (lv+1) (c+1)
def tks:List Pt->Nat->Nat->Bool × Nat
 | [],_,c=>(true,c)
 | m::r,lv,c=>if (tk m lv c).1=true then tks r lv (tk m lv c).2 else (false,(tk m lv c).2)
end
theorem nH (p:Pt) (lv c:Nat):tk p lv c=if 6 < lv\/64 < c+1\/aN p=false then (false,c+1) else tks p.ch (lv+1) (c+1):=by cases p;rw [tk]
mutual
theorem xB:∀ (p:Pt) (lv c:Nat),lv<=7->c<=64->(tk p lv c).1=true->(tk p lv c).2<=64
 | ⟨k,t,y,s,se,x,ch,ce⟩,lv,c,h1,h2=>by
  rw [tk];split
  ·exact λq=>by simp at q
  ·rename_i h;exact su ch (lv+1) (c+1) Qq Qq
theorem su:∀ (l:List Pt) (lv c:Nat),lv<=7->c<=64->(tks l lv c).1=true->(tks l lv c).2<=64
 | [],lv,c,h1,h2=>by rw [tks];exact λ_=>h2
 | m::r,lv,c,h1,h2=>by
  have h4:=xB m lv c h1 h2;rw [tks];split
  ·rename_i h;exact su r lv _ h1 (h4 h)
  ·exact λq=>by simp at q
end
abbrev hpT (c:Nat):WHeap:=[(0,.cells 1 [[.fn 503 []]] true true),(7,.cells 1 [[.int .i64 c]] true true),(9,.cells 1 [[.fn 548 [.ptr 7 0 0,.ptr 0 0 0,.ptr 9 0 0]]] true false)]
def mM (C:WProg) (p:Pt):Prop:=∀ (lv c n:Nat),10<=n->c<=64->lv<=7 ->
 ∃ n',RnW C 548 [.rop p.c,.int .i64 lv,.ptr 7 0 0,.ptr 0 0 0,.ptr 9 0 0] (hpT c) n=some (.bool (tk p lv c).1,hpT (tk p lv c).2,n')
theorem lF (H:eF C) (p:Pt) (lv n:Nat) (hn:10<=n) (hlv:lv<=6) (hl:p.ch.length<=16) (ih:∀ m ∈ p.ch,mM C m):∀ j i,j+i=p.ch.length->∀ c,c<=64 ->
 ∃ n',CK C n (fnEndW [.tmp 7]) [.sq w548_L0,.bk 0 ⟨true,[],[]⟩,.sq w548_c0] w548_B0 ⟨[(30,.int .i64 i),(29,.int .i64 p.ch.length),(4,.ptr 9 0 0),(1,.int .i64 lv),(0,.rop p.c)],hpT c,n⟩ =
  some (.bool (tks (p.ch.drop i) (lv+1) c).1,hpT (tks (p.ch.drop i) (lv+1) c).2,n'):=by
 have n0:0 < n:=by omega
 have n1:7 < n:=by omega
 have n2:9 < n:=by omega
 intro j;induction j with
 | zero =>
  intro i hi c hc;have h1:p.ch.drop i=[]:=List.drop_eq_nil_of_le Qq;have h3:¬ i < p.ch.length:=by omega
  rw [h1,tks,ck_unf w548_B0.eq_1];refine ⟨?_,?_⟩
  rotate_left
  ·simp (disch:=omega) [ck_unf w548_c0.eq_1,n0,n1,n2,h3];rfl
 | succ j ihj =>
  intro i hi c hc;have h1:i < p.ch.length:=by omega
  obtain ⟨n',hw⟩:=ih _ (List.getElem_mem h1) (lv+1) c (n+1+1+1+11) Qq hc Qq;have hb:=xB p.ch[i] (lv+1) c Qq hc;rw [drop_cons h1,tks];generalize hR:tk p.ch[i] (lv+1) c=R at *;obtain ⟨r,c'⟩:=R;cases r with
  | true =>obtain ⟨n2',hw2⟩:=ihj (i+1) Qq c' (hb rfl);refine ⟨n2',?_⟩;rw [if_pos rfl];rw [ck_unf w548_B0.eq_1];simp at hw hw2;simp (disch:=omega) [aj,H.inl,inlB,H.pp,ppB,n0,n1,n2,h1,hw,hw2]
  | false =>
   rw [if_neg Qw];rw [ck_unf w548_B0.eq_1];simp at hw;refine ⟨?_,?_⟩
   rotate_left
   ·simp (disch:=omega) [aj,H.inl,inlB,H.pp,ppB,n0,n1,n2,h1,hw];rfl
theorem dw {p:Pt} (h:aN p=true):p.ch.length<=16:=by
 unfold aN at h;split at h
 ·simp at h;omega
 ·split at h
  ·simp at h;rw [h.2];simp
  ·split at h
   ·simp at h;rw [h.2];simp
   ·simp at h;rw [h.2];simp
theorem kM (H:eF C) (p:Pt) (ih:∀ m ∈ p.ch,mM C m):mM C p:=by
 intro lv c n hn hc hlv;rw [aP (args:=[.rop p.c,.int .i64 lv,.ptr 7 0 0,.ptr 0 0 0,.ptr 9 0 0]) H.Dx rfl (hpT c) n,nH];have ha:=oL H p;have hu:FnW C 503 [.rop p.c]=some (.tup []):=by rw [fnW_eq H.Ap rfl];simp [w503]
 have n0:0 < n:=by omega
 have n1:7 < n:=by omega
 have n2:9 < n:=by omega
 by_cases b1:6 < lv
 ·rw [if_pos (.inl b1)];refine ⟨?_,?_⟩
  rotate_left
  ·simp (disch:=omega) [w548,aj,H.inl,inlB,H.pp,ppB,b1,n0,n1,n2];rfl
 ·by_cases b2:64 < c+1
  ·rw [if_pos (.inr (.inl b2))];have b2':64 < (c:Int)+1:=by omega
   refine ⟨?_,?_⟩
   rotate_left
   ·simp (disch:=omega) [w548,aj,H.inl,inlB,H.pp,ppB,b1,b2',n0,n1,n2];rfl
  ·have b2':¬ 64 < (c:Int)+1:=by omega
   cases b3:aN p with
   | false =>
    rw [if_pos (.inr (.inr rfl))];rw [b3] at ha;refine ⟨?_,?_⟩
    rotate_left
    ·simp (disch:=omega) [w548,aj,H.inl,inlB,H.pp,ppB,b1,b2',ha,n0,n1,n2];rfl
   | true =>rw [if_neg Qz];have hl:=dw b3;rw [b3] at ha;obtain ⟨n',hw⟩:=lF H p lv n hn Qq hl ih p.ch.length 0 Qw (c+1) Qq;refine ⟨n',?_⟩;rw [List.drop_zero] at hw;generalize tks p.ch (lv+1) (c+1)=R at *;simp only [hpT] at hw |-;simp at hw;simp (disch:=omega) [w548,aj,H.inl,inlB,H.pp,ppB,b1,b2',ha,hu,n0,n1,n2,hw]
theorem qI (H:eF C) (p:Pt):mM C p :=kM H p (λm hm=>qI H m)
termination_by SizeOf.sizeOf p
decreasing_by
 have:=List.sizeOf_lt_of_mem hm;have:=p.bK;omega
def aS (p:Pt):Nat:=if p.k=1/\(tk p 1 0).1=true then (tk p 1 0).2 else 0
theorem tY (H:eF C) (p:Pt):FnW C 502 [.rop p.c,.fn 503 []]=some (.int .i64 (aS p)):=by
 rw [fnW_eq H.zI rfl];obtain ⟨n',h⟩:=qI H p 1 0 15 Qq Qq Qq;unfold aS;generalize tk p 1 0=R at *;obtain ⟨r,c⟩:=R;simp only [hpT] at h;simp at h;by_cases k1:p.k=1
 ·cases r <;> simp [w502,H.inl,inlB,H.pp,ppB,k1,h]
 ·simp [w502,H.inl,inlB,H.pp,ppB,k1]
theorem oq (H:eF C) (p:Pt):FnW C 404 [.agg p.c]=some (.int .i64 (aS p)):=by have h:=tY H p;rw [fnW_eq H.zB rfl];simp [w404,H.inl,inlB,H.pp,ppB,h]
theorem gX (H:eF C) (p:Pt):FnW C 231 [.agg p.c]=some (.int .i64 (if aS p=0 then 14 else 0)):=by
 have h:=oq H p;rw [fnW_eq H.f231 rfl];by_cases c:aS p=0
 ·simp [w231,H.inl,inlB,H.pp,ppB,h,c]
 ·simp [w231,H.inl,inlB,H.pp,ppB,h,c]
end Go.D
end
section
namespace Go.D
open Go Go.Pav Go.Pw P
attribute [-simp] List.getElem_cons_drop
variable {C:WProg}
structure jg (C:WProg):Prop extends eF C where
 DR:C.fns.get 594=some w594
 wG:C.fns.get 586=some w586
 Ci:C.fns.get 550=some w550
 Bc:C.fns.get 505=some w505
 Aw:C.fns.get 408=some w408
theorem jH (H:jg C) (l:List Sl) (e:Bool) (hl:l.length<=1000000) (hf:∀ s ∈ l,0<=s.f):∀ n i,n+i=l.length ->
 w594_K0 C ⟨[(3,.int .i64 i),(0,.ro 3 (l.map eSl) e)],[],0⟩ =
  some (.bool (aO (if i=0 then none else (l[i - 1]?).map Sl.n) (l.drop i))):=by
 intro n;induction n with
 | zero =>
  intro i hi;simp only [w594_K0];rw [ck_unf w594_B0.eq_1];have h1:l.drop i=[]:=List.drop_eq_nil_of_le Qq;have h3:¬ i < l.length:=by omega
  simp [ck_unf w594_c0.eq_1,h1,h3,aO]
 | succ n ih =>
  intro i hi;have h1:i < l.length:=by omega
  have hb:=aV H.toHasS l[i].n;have hc:=dh H.toHasS l[i].v;have h0:=hf _ (List.getElem_mem h1);have:=ih (i+1) Qq;rw [if_neg Qq,show i+1 - 1=i from rfl,List.getElem?_eq_getElem h1] at this;rw [drop_cons h1,aO];simp only [w594_K0] at this |-;rw [ck_unf w594_B0.eq_1];simp only [Option.map_some] at this;generalize aO (some l[i].n) (l.drop (i+1))=R at *;cases q1:isName l[i].n
  ·rw [q1] at hb;simp (disch:=omega) [h1,aj,hb,H.inl,inlB,H.pp,ppB]
  ·rw [q1] at hb;by_cases f3:l[i].f<=3
   ·have f3':¬ 3 < l[i].f:=by omega
    cases q2:isText l[i].v
    ·rw [q2] at hc;simp (disch:=omega) [h1,aj,hb,hc,H.inl,inlB,H.pp,ppB,f3,f3']
    ·rw [q2] at hc;by_cases f0:¬ l[i].f=0/\¬ l[i].v=[]
     ·have f1:¬ l[i].f<=0:=by have:=f0.1;omega
      simp (disch:=omega) [h1,aj,hb,hc,H.inl,inlB,H.pp,ppB,f3,f3',f0.1,f0.2,f1]
     ·have key:(¬ l[i].f=0/\l[i].v=[])\/l[i].f=0:=by
       by_cases a:l[i].f=0
       ·exact .inr a
       ·exact .inl ⟨a,Classical.byContradiction λb=>f0 ⟨a,b⟩⟩
      cases i with
      | zero =>
       simp at this;rcases key with ⟨a,b⟩ | a
       ·have b':=eq_true b;simp (disch:=omega) [h1,aj,hb,hc,H.inl,inlB,H.pp,ppB,f3,f3',a,b',this,after]
       ·have a':l[0].f<=0:=by omega
        simp (disch:=omega) [h1,aj,hb,hc,H.inl,inlB,H.pp,ppB,f3,f3',eq_true a,a',this,after]
      | succ i =>
       have h4:i < l.length:=by omega
       have h5:(i:Int)+1 < l.length:=by omega
       simp at this;by_cases q3:l[i].n < l[i+1].n
       ·have q4:¬ l[i+1].n<=l[i].n:=List.not_le.2 q3;rcases key with ⟨a,b⟩ | a
        ·have b':=eq_true b;simp (disch:=omega) [h1,h4,h5,aj,hb,hc,H.inl,inlB,H.pp,ppB,f3,f3',a,b',this,after,blt_eq,q3,q4]
        ·have a':l[i+1].f<=0:=by omega
         simp (disch:=omega) [h1,h4,h5,aj,hb,hc,H.inl,inlB,H.pp,ppB,f3,f3',eq_true a,a',this,after,blt_eq,q3,q4]
       ·have q4:l[i+1].n<=l[i].n:=List.not_lt.1 q3;rcases key with ⟨a,b⟩ | a
        ·have b':=eq_true b;simp (disch:=omega) [h1,h4,h5,aj,hb,hc,H.inl,inlB,H.pp,ppB,f3,f3',a,b',this,after,blt_eq,q3,q4]
        ·have a':l[i+1].f<=0:=by omega
         simp (disch:=omega) [h1,h4,h5,aj,hb,hc,H.inl,inlB,H.pp,ppB,f3,f3',eq_true a,a',this,after,blt_eq,q3,q4]
   ·have f3':3 < l[i].f:=by omega
    simp (disch:=omega) [h1,aj,hb,H.inl,inlB,H.pp,ppB,f3,f3']
theorem oz (H:jg C) (l:List Sl) (e:Bool) (hf:∀ s ∈ l,0<=s.f):FnW C 594 [.ro 3 (l.map eSl) e]=some (.bool (decide (l.length<=8)&&aO none l)):=by
 rw [fnW_eq H.DR rfl];by_cases c:l.length<=8
 ·have c1:¬ 8 < (l.length:Int):=by omega
  have h:=jH H l e Qq hf l.length 0 Qw;rw [List.drop_zero,if_pos rfl] at h;generalize aO none l=R at *;simp only [w594_K0] at h;simp at h;simp [w594,c,c1,h]
 ·have c1:8 < (l.length:Int):=by omega
  simp [w594,c,c1]
structure Fits (p:Pt):Prop where
 f:∀ s ∈ p.s,0<=s.f
 s:p.s.length<=9223372036854775807
 c:p.ch.length<=9223372036854775807
theorem Gg {α β:Type} (a:List α) (b:List β) [Decidable (a=[])] [Decidable (b=[])]:((a.length:Int)+(b.length:Int) == 0)=(decide (a=[])&&decide (b=[])):=by cases a <;> cases b <;> simp <;> omega
theorem zn {α β:Type} (a:List α) (b:List β) (ha:a.length<=9223372036854775807) (hb:b.length<=9223372036854775807) [Decidable (a=[])] [Decidable (b=[])]:(IntKind.i64.wrap ((a.length:Int)+(b.length:Int)) == 0)=(decide (a=[])&&decide (b=[])):=by
 have h:(IntKind.i64.wrap ((a.length:Int)+(b.length:Int)) == 0)=((a.length:Int)+(b.length:Int) == 0):=by rw [Bool.eq_iff_iff];show ((if (true&&decide (((a.length:Int)+b.length) % 18446744073709551616 ≥ 9223372036854775808))=true then ((a.length:Int)+b.length) % 18446744073709551616 - 18446744073709551616 else ((a.length:Int)+b.length) % 18446744073709551616) == 0)=true↔_;simp only [Bool.true_and,decide_eq_true_eq,beq_iff_eq];split <;> omega
 rw [h,Gg]
theorem uV (H:jg C) (p:Pt) (hp:Fits p):FnW C 586 [.agg p.c]=some (.bool (aN p)):=by
 rw [fnW_eq H.wG rfl];unfold aN;have ht:=aV H.toHasS p.t;have hy:=aV H.toHasS p.y;have hx:=dh H.toHasS p.x;have hs:=oz H p.s p.se hp.f;have hl1:=hp.s;have hl2:=hp.c;have hz:(IntKind.i64.wrap ((p.s.length:Int)+(p.ch.length:Int)) == 0)=(decide (p.s=[])&&decide (p.ch=[])):=zn _ _ hl1 hl2;generalize isName p.t=T at *;generalize isText p.x=X at *;generalize (decide (p.s.length<=8)&&aO none p.s)=S at *;by_cases k1:p.k=1
 ·rw [if_pos k1];cases T
  ·simp [w586,k1,ht,H.inl,inlB,H.pp,ppB]
  ·by_cases c2:p.y=[]
   ·have c2':=eq_true c2;cases S
    ·simp [w586,k1,ht,hs,H.inl,inlB,H.pp,ppB,c2']
    ·by_cases c3:p.x=[]
     ·have c3':=eq_true c3;by_cases c5:p.ch.length<=16
      ·have c7:(p.ch.length:Int)<=16:=by omega
       simp [w586,k1,ht,hs,H.inl,inlB,H.pp,ppB,c2',c3',c5,c7]
      ·have c7:¬ (p.ch.length:Int)<=16:=by omega
       simp [w586,k1,ht,hs,H.inl,inlB,H.pp,ppB,c2',c3',c5,c7]
     ·simp [w586,k1,ht,hs,H.inl,inlB,H.pp,ppB,c2',c3]
   ·cases q2:isName p.y
    ·rw [q2] at hy;simp [w586,k1,ht,hy,H.inl,inlB,H.pp,ppB,c2]
    ·rw [q2] at hy;cases S
     ·simp [w586,k1,ht,hy,hs,H.inl,inlB,H.pp,ppB,c2]
     ·by_cases c3:p.x=[]
      ·have c3':=eq_true c3;by_cases c5:p.ch.length<=16
       ·have c7:(p.ch.length:Int)<=16:=by omega
        simp [w586,k1,ht,hy,hs,H.inl,inlB,H.pp,ppB,c2,c3',c5,c7]
       ·have c7:¬ (p.ch.length:Int)<=16:=by omega
        simp [w586,k1,ht,hy,hs,H.inl,inlB,H.pp,ppB,c2,c3',c5,c7]
      ·simp [w586,k1,ht,hy,hs,H.inl,inlB,H.pp,ppB,c2,c3]
 ·rw [if_neg k1];by_cases k5:p.k=5
  ·rw [if_pos k5];cases T
   ·simp [w586,k5,ht,hs,H.inl,inlB,H.pp,ppB]
   ·cases S
    ·simp [w586,k5,ht,hs,H.inl,inlB,H.pp,ppB]
    ·by_cases c2:p.y=[]
     ·by_cases c3:p.x=[]
      ·by_cases c4:p.ch=[] <;> simp [w586,k5,ht,hs,H.inl,inlB,H.pp,ppB,eq_true c2,eq_true c3,c4]
      ·simp [w586,k5,ht,hs,H.inl,inlB,H.pp,ppB,eq_true c2,c3]
     ·simp [w586,k5,ht,hs,H.inl,inlB,H.pp,ppB,c2]
  ·rw [if_neg k5];by_cases k2:p.k=2
   ·rw [if_pos k2];cases X
    ·simp [w586,k2,hx,H.inl,inlB,H.pp,ppB]
    ·by_cases c1:p.t=[]
     ·by_cases c2:p.y=[]
      ·simp (disch:=omega) [w586,k2,hx,H.inl,inlB,H.pp,ppB,eq_true c1,eq_true c2,hz]
      ·simp [w586,k2,hx,H.inl,inlB,H.pp,ppB,eq_true c1,c2]
     ·simp [w586,k2,hx,H.inl,inlB,H.pp,ppB,c1]
   ·rw [if_neg k2];by_cases k34:p.k=3\/p.k=4
    ·have rest:FnW C 586 [.agg p.c]=some (.bool (decide (p.t=[])&&decide (p.y=[])&&decide (p.x=[])&&decide (p.s=[])&&decide (p.ch=[]))):=by
      rw [fnW_eq H.wG rfl];by_cases c0:p.x=[]
      ·by_cases c1:p.t=[]
       ·by_cases c2:p.y=[]
        ·rcases k34 with k3 | k3 <;> simp (disch:=omega) [w586,k3,H.inl,inlB,H.pp,ppB,eq_true c0,eq_true c1,eq_true c2,hz]
        ·rcases k34 with k3 | k3 <;> simp [w586,k3,H.inl,inlB,H.pp,ppB,eq_true c0,eq_true c1,c2]
       ·rcases k34 with k3 | k3 <;> simp [w586,k3,H.inl,inlB,H.pp,ppB,eq_true c0,c1]
      ·rcases k34 with k3 | k3 <;> simp [w586,k3,H.inl,inlB,H.pp,ppB,c0]
     rw [fnW_eq H.wG rfl] at rest;rw [rest];simp [k34]
    ·have k3:¬ p.k=3:=λq=>k34 (.inl q);have k4:¬ p.k=4:=λq=>k34 (.inr q);simp [w586,k1,k2,k3,k4,k5,H.inl,inlB,H.pp,ppB]
inductive aF:Pt->Prop
 | mk (p:Pt) (h:Fits p) (hm:∀ m ∈ p.ch,aF m):aF p
mutual
/-- The specification's count, with so many levels. -/
def trc:Pt->Nat->Nat
 | _,0=>1000
 | ⟨k,t,y,s,se,x,ch,ce⟩,lv+1=>if aN ⟨k,t,y,s,se,x,ch,ce⟩=true then bD ch lv 1 else 1000
def bD:List Pt->Nat->Nat->Nat
 | [],_,c=>c
 | m::r,lv,c=>if c<=64 then bD r lv (c+trc m lv) else c
end
theorem xY (n:Pt):trc n 0=1000:=by cases n;rw [trc]
theorem xu (n:Pt) (lv:Nat):trc n (lv+1)=if aN n=true then bD n.ch lv 1 else 1000:=by cases n;rw [trc]
theorem iG:∀ (l:List Pt) (lv c:Nat),c<=bD l lv c
 | [],lv,c=>by rw [bD];exact Nat.le_refl _
 | m::r,lv,c=>by
  rw [bD];split
  ·have:=iG r lv (c+trc m lv);omega
  ·exact Nat.le_refl _
theorem yE (n:Pt) (lv:Nat):1<=trc n lv:=by
 cases lv with
 | zero=>rw [xY];omega
 | succ lv =>
  rw [xu];split
  ·exact iG _ _ _
  ·omega
mutual
theorem qB:∀ (n:Pt) (lv:Nat),trc n lv<=1000+64 * lv
 | ⟨k,t,y,s,se,x,ch,ce⟩,0=>by rw [trc];omega
 | ⟨k,t,y,s,se,x,ch,ce⟩,lv+1=>by
  rw [trc];split
  ·have:=nU ch lv 1 Qq;omega
  ·omega
theorem nU:∀ (l:List Pt) (lv c:Nat),c<=1064+64 * lv->bD l lv c<=1064+64 * lv
 | [],lv,c,h=>by rw [bD];exact h
 | m::r,lv,c,h=>by
  rw [bD];split
  ·have h2:=qB m lv;exact nU r lv _ Qq
  ·exact h
end
mutual
theorem xP:∀ (n:Pt) (lv L c:Nat),lv+L=7->c<=64->((tk n L c).1=true->(tk n L c).2=c+trc n lv/\c+trc n lv<=64)/\((tk n L c).1=false->64 < c+trc n lv)
 | ⟨k,t,y,s,se,x,ch,ce⟩,lv,L,c,h1,h2=>by
  have hge:=yE ⟨k,t,y,s,se,x,ch,ce⟩ lv;rw [tk];by_cases q:6 < L\/64 < c+1\/aN ⟨k,t,y,s,se,x,ch,ce⟩=false
  ·rw [if_pos q];refine ⟨λr=>by simp at r,λ_=>?_⟩;rcases q with q | q | q
   ·have:lv=0:=by omega
    subst this;rw [trc];omega
   ·omega
   ·cases lv with
    | zero=>rw [trc];omega
    | succ lv=>rw [trc,if_neg (by simp [q])];omega
  ·rw [if_neg q];cases lv with
   | zero=>omega
   | succ lv =>rw [trc,if_pos (by simpa using λr=>q (.inr (.inr r)))];exact sZ ch lv (L+1) c 1 Qq Qq
theorem sZ:∀ (l:List Pt) (lv L g c:Nat),lv+L=7->g+c<=64->((tks l L (g+c)).1=true->(tks l L (g+c)).2=g+bD l lv c/\g+bD l lv c<=64)/\((tks l L (g+c)).1=false->64 < g+bD l lv c)
 | [],lv,L,g,c,h1,h2=>by rw [tks,bD];exact ⟨λ_=>⟨rfl,h2⟩,λr=>by simp at r⟩
 | m::r,lv,L,g,c,h1,h2=>by
  have hm:=xP m lv L (g+c) h1 h2;have hr:bD (m::r) lv c=bD r lv (c+trc m lv):=by rw [bD,if_pos Qq]
  rw [tks,hr];generalize tk m L (g+c)=R at *;obtain ⟨b,c'⟩:=R;cases b with
  | true =>obtain ⟨e1,e2⟩:=hm.1 rfl;rw [if_pos rfl];simp only at e1;rw [e1,Nat.add_assoc];exact sZ r lv L g (c+trc m lv) h1 Qq
  | false =>have e:=hm.2 rfl;rw [if_neg Qw];refine ⟨λq=>by simp at q,λ_=>?_⟩;have:=iG r lv (c+trc m lv);omega
end
theorem uU (p:Pt):aS p=if p.k≠1\/64 < trc p 6 then 0 else trc p 6:=by
 have h:=xP p 6 1 0 rfl Qq;unfold aS;generalize tk p 1 0=R at *;obtain ⟨b,c⟩:=R;by_cases k1:p.k=1
 ·cases b with
  | true =>obtain ⟨e1,e2⟩:=h.1 rfl;simp only at e1;rw [if_pos ⟨k1,rfl⟩,if_neg (by intro q;rcases q with q | q;exact q k1;omega)];simp only;omega
  | false =>have e:=h.2 rfl;rw [if_neg Qw,if_pos (.inr Qq)]
 ·rw [if_neg (λq=>k1 q.1),if_pos (.inl k1)]
abbrev hpP (p:Pt):WHeap:=[(0,.cells 6 [p.c] true true)]
theorem iW (H:jg C) (n:Pt) (lv:Nat) (hlv:lv<=5) (hl:n.ch.length<=16) (ih:∀ m ∈ n.ch,FnW C 550 [.agg m.c,.int .i64 lv]=some (.int .i64 (trc m lv))):∀ j i,j+i=n.ch.length->∀ c,c<=1064+64 * lv ->
 w550_K0 C ⟨[(6,.int .i64 i),(5,.int .i64 c),(2,.ptr 0 0 0),(1,.int .i64 (lv+1:Nat))],hpP n,1⟩=some (.int .i64 (bD (n.ch.drop i) lv c)):=by
 intro j;induction j with
 | zero =>
  intro i hi c hc;simp only [w550_K0];rw [ck_unf w550_B0.eq_1];have h1:n.ch.drop i=[]:=List.drop_eq_nil_of_le Qq;have h3:¬ i < n.ch.length:=by omega
  rw [h1,bD];simp [ck_unf w550_c0.eq_1,h3]
 | succ j ihj =>
  intro i hi c hc;have h1:i < n.ch.length:=by omega
  have hm:=ih _ (List.getElem_mem h1);have hle:=qB n.ch[i] lv;rw [drop_cons h1,bD];by_cases c1:c<=64
  ·have:=ihj (i+1) Qq (c+trc n.ch[i] lv) Qq;rw [if_pos c1];have c2:(c:Int)<=64:=by omega
   simp only [w550_K0] at this |-;rw [ck_unf w550_B0.eq_1];simp at this;simp (disch:=omega) [h1,c1,c2,aj,hm,H.inl,inlB,H.pp,ppB,this]
  ·rw [if_neg c1];have c2:¬ (c:Int)<=64:=by omega
   simp only [w550_K0];rw [ck_unf w550_B0.eq_1];simp (disch:=omega) [ck_unf w550_c0.eq_1,h1,c1,c2]
theorem jr (H:jg C) (n:Pt) (hf:Fits n) (ih:∀ m ∈ n.ch,∀ lv:Nat,lv<=6->FnW C 550 [.agg m.c,.int .i64 lv]=some (.int .i64 (trc m lv))) (lv:Nat) (hlv:lv<=6):FnW C 550 [.agg n.c,.int .i64 lv]=some (.int .i64 (trc n lv)):=by
 have ho:=uV H n hf;rw [fnW_eq H.Ci rfl];cases lv with
 | zero=>rw [xY];simp [w550]
 | succ lv =>
  rw [xu];have c1:¬ (lv:Int)+1 < 1:=by omega
  cases ha:aN n with
  | false=>rw [ha] at ho;simp [w550,c1,ho,H.inl,inlB,H.pp,ppB]
  | true =>rw [ha] at ho;have hr:=iW H n lv Qq (dw ha) (λm hm=>ih m hm lv Qq) n.ch.length 0 Qw 1 Qq;rw [List.drop_zero] at hr;simp only [w550_K0] at hr;simp at hr;simp [w550,c1,ho,H.inl,inlB,H.pp,ppB,hr]
theorem lG (H:jg C) (p:Pt) (hf:aF p):∀ lv:Nat,lv<=6->FnW C 550 [.agg p.c,.int .i64 lv]=some (.int .i64 (trc p lv)):=by
 induction hf with
 | mk p h hm ih=>exact λlv hlv=>jr H p h (λm hm lv hlv=>ih m hm lv hlv) lv hlv
theorem kQ (H:jg C) (p:Pt) (hf:aF p):FnW C 505 [.agg p.c]=some (.int .i64 (aS p)):=by
 have h:=lG H p hf 6 Qq;rw [fnW_eq H.Bc rfl,uU];generalize trc p 6=R at *;simp at h;by_cases k1:p.k=1
 ·by_cases c:64 < R
  ·have c1:64 < (R:Int):=by omega
   simp [w505,H.inl,inlB,H.pp,ppB,h,c,c1,k1]
  ·have c1:¬ 64 < (R:Int):=by omega
   simp [w505,H.inl,inlB,H.pp,ppB,h,c,c1,k1]
 ·simp [w505,H.inl,inlB,H.pp,ppB,h,k1]
theorem gu (H:jg C) (p:Pt) (hf:aF p):FnW C 408 [.agg p.c]=some (.int .i64 (if aS p=0 then 14 else 0)):=by
 have h:=kQ H p hf;rw [fnW_eq H.Aw rfl];by_cases c:aS p=0
 ·simp [w408,H.inl,inlB,H.pp,ppB,h,c]
 ·simp [w408,H.inl,inlB,H.pp,ppB,h,c]
end Go.D
end
section
namespace Go.D
open Go Go.Pav Go.Pw P
attribute [-simp] List.getElem_cons_drop
variable {C:WProg}
structure qX (C:WProg):Prop extends jg C,kH C where
 zi:C.fns.get 546=some w546
 zx:C.fns.get 580=some w580
 BQ:C.fns.get 512=some w512
def dL (i:It):Bool:=decide (i.k≠0)&&isText i.x&&(decide (i.m.length<=8)&&i.m.all isName)
theorem vT (H:qX C):mJ C 580 isName where
 ok s:=by have:=bP H.toeF s;rw [fnW_eq H.zx rfl];simp [w580,H.inl,inlB,H.pp,ppB,this]
 ne:=by rfl
 ni:=by rfl
theorem rH (H:qX C) (i:It):FnW C 546 [eIt i]=some (.int .i64 (if dL i=true then 0 else 6)):=by
 have hx:=dP H.toeF i.x;rw [fnW_eq H.zi rfl];unfold dL;generalize isText i.x=X at *;by_cases c1:i.k=0
 ·simp [w546,eq_true c1]
 ·cases X
  ·simp [w546,c1,hx,H.inl,inlB,H.pp,ppB]
  ·by_cases c2:i.m.length<=8
   ·have c3:¬ 8 < (i.m.length:Int):=by omega
    have hm:=dD H.tokH (vT H) i.m i.e Qq;generalize i.m.all isName=M at *;cases M <;> simp at hm <;> simp [w546,c1,hx,c2,c3,hm,H.inl,inlB,H.pp,ppB]
   ·have c3:8 < (i.m.length:Int):=by omega
    simp [w546,c1,hx,c2,c3,H.inl,inlB,H.pp,ppB]
theorem kU (H:qX C) (k t:Int) (x:Bs) (m:List Bs) (e:Bool) (hl:m.length<=8):∀ n i,n+i=m.length ->
 w512_K0 C ⟨[(3,.int .i64 i),(1,.ptr 0 0 0)],[(0,.cells 4 [[.int .u64 k,.int .u8 t,.str x,.ro 1 (m.map eS) e]] true true)],1⟩ =
  some (.int .i64 (if (m.drop i).all isName=true then 0 else 6)):=by
 intro n;induction n with
 | zero =>
  intro i hi;simp only [w512_K0];rw [ck_unf w512_B0.eq_1];have h1:m.drop i=[]:=List.drop_eq_nil_of_le Qq;have h3:¬ i < m.length:=by omega
  simp [ck_unf w512_c0.eq_1,h1,h3]
 | succ n ih =>
  intro i hi;have h1:i < m.length:=by omega
  have:=ih (i+1) Qq;have hb:=aV H.toHasS m[i];rw [drop_cons h1];generalize hX:(m.drop (i+1)).all isName=X at *;rw [List.all_cons,hX];simp only [w512_K0] at this |-;rw [ck_unf w512_B0.eq_1];cases hn:isName m[i]
  ·rw [hn] at hb;simp (disch:=omega) [h1,aj,hb,H.inl,inlB,H.pp,ppB]
  ·rw [hn] at hb;simp at this;simp (disch:=omega) [h1,aj,hb,H.inl,inlB,H.pp,ppB,this]
theorem pU (H:qX C) (i:It):FnW C 512 [eIt i]=some (.int .i64 (if dL i=true then 0 else 6)):=by
 have hx:=dh H.toHasS i.x;rw [fnW_eq H.BQ rfl];unfold dL;generalize isText i.x=X at *;by_cases c1:i.k=0
 ·simp [w512,eq_true c1]
 ·cases X
  ·simp [w512,c1,hx,H.inl,inlB,H.pp,ppB]
  ·by_cases c2:i.m.length<=8
   ·have c3:¬ 8 < (i.m.length:Int):=by omega
    have hm:=kU H i.k i.t i.x i.m i.e c2 i.m.length 0 Qw;rw [List.drop_zero] at hm;generalize i.m.all isName=M at *;simp only [w512_K0] at hm;simp at hm;simp [w512,c1,hx,c2,c3,hm,H.inl,inlB,H.pp,ppB]
   ·have c3:8 < (i.m.length:Int):=by omega
    simp [w512,c1,hx,c2,c3,H.inl,inlB,H.pp,ppB]
def dec (n:Nat):Bs:=if h:n < 10 then [UInt8.ofNat (48+n)] else dec (n / 10)++[UInt8.ofNat (48+n % 10)]
termination_by n
theorem mV:∀ (k n:Nat),n < 10 ^ (k+1)->(dec n).length<=k+1
 | 0,n,h=>by unfold dec;rw [dif_pos (by simpa using h)];simp
 | k+1,n,h=>by
  unfold dec;split
  ·simp
  ·have:=mV k (n / 10) (by rw [Nat.pow_succ] at h;omega);simp;omega
structure sD (C:WProg):Prop extends qX C where
 BZ:C.fns.get 584=some w584
 yR:C.fns.get 558=some w558
theorem nR (n:Nat) (h:n < 10):dec n=[UInt8.ofNat (48+n)]:=by unfold dec;rw [dif_pos h]
theorem l9 (H:sD C) (n:Nat) (h:n < 10):FnW C 558 [.int .u64 n]=some (.str (dec n)):=by
 rw [fnW_eq H.yR rfl,nR n h];obtain rfl | rfl | rfl | rfl | rfl | rfl | rfl | rfl | rfl | rfl:n=0\/n=1\/n=2\/n=3\/n=4\/n=5\/n=6\/n=7\/n=8\/n=9:=by omega
 all_goals (simp (disch:=omega) [w558,gU];try rfl)
theorem oN (H:sD C) (n:Nat) (h:n < 18446744073709551616) (ih:∀ m < n,FnW C 558 [.int .u64 m]=some (.str (dec m))):FnW C 558 [.int .u64 n]=some (.str (dec n)):=by
 by_cases c:n < 10
 ·exact l9 H n c
 ·have h1:=ih (n / 10) Qq;have h2:=l9 H (n % 10) Qq;have hl:=mV 19 (n / 10) Qq;rw [nR _ Qq] at h2;rw [fnW_eq H.yR rfl];rw [dec,dif_neg c];have e1:(n:Int).tdiv 10=((n / 10:Nat):Int):=by rw [Int.tdiv_eq_ediv_of_nonneg Qq];omega
  have e2:(n:Int).tmod 10=((n % 10:Nat):Int):=by rw [Int.tmod_eq_emod_of_nonneg Qq];omega
  have c2:¬ (n:Int) < 10:=by omega
  have hm:(dec (n / 10)).length+1<=maxStr:=by unfold maxStr;omega
  have b1:n / 10<=n:=by omega
  have b2:n % 10<=n:=by omega
  generalize dec (n / 10)=D at *;generalize UInt8.ofNat (48+n % 10)=dg at *;generalize n / 10=q at *;generalize n % 10=r at *;simp (disch:=omega) [w558,gU,c2,e1,e2,h1,h2,hm,H.inl,inlB,H.pp,ppB]
theorem jo (H:sD C) (n:Nat):n < 18446744073709551616->FnW C 558 [.int .u64 n]=some (.str (dec n)):=by
 induction n using Nat.strongRecOn with
 | ind n ih=>exact λh=>oN H n h (λm hm=>ih m hm Qq)
theorem bytesOf_map:∀ l:List UInt8,bytesOf (l.map λb=>[AV.int .u8 b.toNat])=some l
 | []=>rfl
 | b::r=>by rw [List.map_cons,bytesOf,bytesOf_map r];simp
theorem rY (r:Nat) (h:r < 10):([48,49,50,51,52,53,54,55,56,57]:List UInt8)[r]'(by simpa using h)=UInt8.ofNat (48+r):=by
 obtain rfl | rfl | rfl | rfl | rfl | rfl | rfl | rfl | rfl | rfl:r=0\/r=1\/r=2\/r=3\/r=4\/r=5\/r=6\/r=7\/r=8\/r=9:=by omega
 all_goals rfl
theorem rD:∀ (i n:Nat) (acc:List UInt8),acc.length+i=19->n < 10 ^ (i+1)->n < 18446744073709551616 ->
 w584_K0 C ⟨[(4,.int .i64 (i+1:Nat)),(3,.ptr 0 0 0),(0,.int .u64 n)],[(0,.cells 20 [List.replicate i (AV.int .u8 0)++AV.int .u8 0::acc.map λb=>AV.int .u8 b.toNat] true true)],1⟩=some (.str (dec n++acc)):=by
 intro i;induction i with
 | zero =>
  intro n acc ha hn hb;have e1:(n:Int).tdiv 10=0:=by rw [Int.tdiv_eq_ediv_of_nonneg Qq];omega
  have e2:(n:Int).tmod 10=n:=by rw [Int.tmod_eq_emod_of_nonneg Qq];omega
  have hr:n < 10:=by simpa using hn
  have hd:=rY n hr;have h19:19<=acc.length:=by omega
  rw [nR n hr];generalize UInt8.ofNat (48+n)=dg at *;have hm:bytesOf ([AV.int .u8 dg.toNat]::List.map ((λx=>[x]) ∘ λb:UInt8=>AV.int .u8 b.toNat) acc)=some (dg::acc):=bytesOf_map (dg::acc);simp only [w584_K0];rw [ck_unf w584_B0.eq_1];simp (disch:=(first | omega | (simp;done) | (simp;omega))) [aj,gU,e1,e2,hr,hd,h19,hm,List.take_of_length_le,sCvb]
 | succ i ih =>
  intro n acc ha hn hb;have e1:(n:Int).tdiv 10=((n / 10:Nat):Int):=by rw [Int.tdiv_eq_ediv_of_nonneg Qq];omega
  have e2:(n:Int).tmod 10=((n % 10:Nat):Int):=by rw [Int.tmod_eq_emod_of_nonneg Qq];omega
  have hr:n % 10 < 10:=by omega
  have hq:n / 10 < 10 ^ (i+1):=by rw [Nat.pow_succ] at hn;omega
  have hqb:n / 10<=n:=by omega
  have h18:acc.length+i=18:=by omega
  have hi:i+1 < 20:=by omega
  have h20:20<=i+1+(acc.length+1):=by omega
  have hi19:i<=19:=by omega
  have hd:=rY (n % 10) hr;have ih':=λdg=>ih (n / 10) (dg::acc) Qz hq Qq;have hdec:dec n=(if n / 10=0 then [] else dec (n / 10))++[UInt8.ofNat (48+n % 10)]:=by
   by_cases c:n < 10
   ·have:n / 10=0:=by omega
    have h2:n % 10=n:=by omega
    rw [nR n c,this,h2];simp
   ·rw [dec,dif_neg c,if_neg Qq]
  rw [hdec];have t1:∀ (z:AV) (L:List AV),List.take (i+1) (List.replicate (i+1) z++L)=List.replicate (i+1) z:=λz L=>List.take_left' Qw;have t2:∀ (z y:AV) (L:List AV),List.drop (i+1+1) (List.replicate (i+1) z++y::L)=L:=λz y L=>by rw [List.append_cons];exact List.drop_left' Qw
  have t3:∀ (z:AV) (X:List AV),List.replicate i z++z::X=List.replicate (i+1) z++X:=λz X=>by rw [List.replicate_succ'];simp
  generalize dec (n / 10)=D at *;generalize UInt8.ofNat (48+n % 10)=dg at *;have hm:bytesOf ([AV.int .u8 dg.toNat]::List.map ((λx=>[x]) ∘ λb:UInt8=>AV.int .u8 b.toNat) acc)=some (dg::acc):=bytesOf_map (dg::acc);have ih2:=ih' dg;rw [t3] at ih2;generalize n / 10=q at *;generalize n % 10=r at *;simp only [w584_K0] at ih2 |-;rw [ck_unf w584_B0.eq_1];simp at ih2;by_cases c:q=0
  ·simp (disch:=(first | omega | (simp;done) | (simp;omega))) [aj,gU,e1,e2,hr,hd,hi,h20,hi19,hm,t1,t2,c,List.take_of_length_le,sCvb]
  ·simp (disch:=(first | omega | (simp;done) | (simp;omega))) [aj,gU,e1,e2,hr,hd,hi,t1,t2,c,ih2]
theorem je (H:sD C) (n:Nat) (h:n < 18446744073709551616):FnW C 584 [.int .u64 n]=some (.str (dec n)):=by have hl:=rD (C:=C) 19 n [] rfl Qq h;have e:List.replicate 19 (AV.int .u8 0)++AV.int .u8 0::List.map (λb:UInt8=>AV.int .u8 b.toNat) []=rep 20 (AV.int .u8 0):=rfl;rw [e] at hl;simp only [w584_K0] at hl;simp at hl;rw [fnW_eq H.BZ rfl];simp [w584,hl]
def au (x:It) (s:Sl):Bs × Bs:=(s.n,if s.f=1 then x.x else if s.f=2 then dec x.k.toNat else if s.f=3 then dec x.m.length else s.v)
structure sH (C:WProg):Prop extends sD C where
 Dn:C.fns.get 559=some w559
 CB:C.fns.get 592=some w592
theorem ku (H:sH C) (x:It) (hk:0<=x.k/\x.k < 18446744073709551616) (hm:x.m.length<=1000000) (l:List Sl) (e:Bool) (hl:l.length<=8):∀ n i,n+i=l.length->∀ G:List (Bs × Bs),G.length=i ->
 w559_K0 C ⟨[(6,.int .i64 i),(5,.sl 0 2 0 G.length G.length false),(3,.ptr 1 0 0),(0,.ro 3 (l.map eSl) e)],[(0,.cells 2 (G.map eA) true true),(1,.cells 4 [[.int .u64 x.k,.int .u8 x.t,.str x.x,.ro 1 (x.m.map eS) x.e]] true true)],2⟩ =
  some (.ro 2 ((G++(l.drop i).map (au x)).map eA) false):=by
 intro n;induction n with
 | zero =>
  intro i hi G hG;have h1:l.drop i=[]:=List.drop_eq_nil_of_le Qq;have h3:¬ i < l.length:=by omega
  simp only [w559_K0];rw [ck_unf w559_B0.eq_1];cases G with
  | nil=>simp [ck_unf w559_c0.eq_1,h1,h3]
  | cons g G=>simp (disch:=(first | omega | (simp;done) | (simp;omega))) [ck_unf w559_c0.eq_1,h1,h3,List.take_of_length_le]
 | succ n ih =>
  intro i hi G hG;have h1:i < l.length:=by omega
  obtain ⟨k,hk2⟩:∃ k:Nat,x.k=k:=⟨x.k.toNat,by omega⟩;have d1:=jo H.tosD k Qq;have d2:=jo H.tosD x.m.length Qq;have ih':=ih (i+1) Qq (G++[au x l[i]]) (by simp [hG]);have hfit:(G.length+1) * 33<=35184372088832:=by omega
  rw [drop_cons h1];simp only [w559_K0] at ih' |-;rw [ck_unf w559_B0.eq_1];simp at ih';unfold au at ih' |-;rw [hk2] at ih' |-;by_cases f1:l[i].f=1
  ·simp [f1] at ih';simp (disch:=omega) [h1,f1,aj,hfit,ih',H.inl,inlB,H.pp,ppB]
  ·by_cases f2:l[i].f=2
   ·simp [f2] at ih';simp (disch:=omega) [h1,f2,aj,hfit,d1,ih',H.inl,inlB,H.pp,ppB]
   ·by_cases f3:l[i].f=3
    ·simp [f3] at ih';simp (disch:=omega) [h1,f3,aj,gU,hfit,d2,ih',H.inl,inlB,H.pp,ppB]
    ·simp [f1,f2,f3] at ih';simp (disch:=omega) [h1,f1,f2,f3,aj,hfit,ih',H.inl,inlB,H.pp,ppB]
theorem aI (H:sH C) (x:It) (hk:0<=x.k/\x.k < 18446744073709551616) (hm:x.m.length<=1000000) (l:List Sl) (e:Bool) (hl:l.length<=8) :
 FnW C 559 [.ro 3 (l.map eSl) e,eIt x]=some (.ro 2 ((l.map (au x)).map eA) false):=by
 have h:=ku H x hk hm l e hl l.length 0 Qw [] rfl;simp only [w559_K0] at h;simp at h;rw [fnW_eq H.Dn rfl];simp [w559,h]
theorem jC (H:sH C) (x:It) (hk:0<=x.k/\x.k < 18446744073709551616) (hm:x.m.length<=1000000) (l:List Sl) (e:Bool) (hl:l.length<=8) (hf:∀ s ∈ l,0<=s.f/\s.f<=3):∀ n i,n+i=l.length->∀ G:List (Bs × Bs),G.length=i ->
 w592_K0 C ⟨[(13,.int .i64 i),(12,.int .i64 l.length),(11,.ro 3 (l.map eSl) e),(5,.sl 0 2 0 l.length l.length true),(2,.ptr 1 0 0)],[(0,.cells 2 (G.map eA++List.replicate n [.str [],.str []]) true true),(1,.cells 4 [[.int .u64 x.k,.int .u8 x.t,.str x.x,.ro 1 (x.m.map eS) x.e]] true true)],2⟩ =
  some (.ro 2 ((G++(l.drop i).map (au x)).map eA) true):=by
 intro n;induction n with
 | zero =>
  intro i hi G hG;have h1:l.drop i=[]:=List.drop_eq_nil_of_le Qq;have h3:¬ i < l.length:=by omega
  have h5:G.length=l.length:=by omega
  have h6:List.take l.length (List.map eA G)=List.map eA G:=List.take_of_length_le (by simp [h5]);simp only [w592_K0];rw [ck_unf w592_B0.eq_1];simp [ck_unf w592_c0.eq_1,h1,h3,h5,h6]
 | succ n ih =>
  intro i hi G hG;have h1:i < l.length:=by omega
  obtain ⟨k,hk2⟩:∃ k:Nat,x.k=k:=⟨x.k.toNat,by omega⟩;have d1:=je H.tosD k Qq;have d2:=je H.tosD x.m.length Qq;have ih':=ih (i+1) Qq (G++[au x l[i]]) (by simp [hG]);have h0:=hf _ (List.getElem_mem h1);rw [drop_cons h1];simp only [w592_K0] at ih' |-;rw [ck_unf w592_B0.eq_1];simp at ih';unfold au at ih' |-;rw [hk2] at ih' |-;have f0123:l[i].f=0\/l[i].f=1\/l[i].f=2\/l[i].f=3:=by omega
  rcases f0123 with f | f | f | f;all_goals
   simp [f] at ih';simp (disch:=omega) [h1,f,aj,gU,d1,d2,fV,fF,H.inl,inlB,H.pp,ppB,ih']
theorem pK (H:sH C) (x:It) (hk:0<=x.k/\x.k < 18446744073709551616) (hm:x.m.length<=1000000) (l:List Sl) (e:Bool) (hl:l.length<=8) (hf:∀ s ∈ l,0<=s.f/\s.f<=3) :
 FnW C 592 [eIt x,.ro 3 (l.map eSl) e]=some (.ro 2 ((l.map (au x)).map eA) true):=by
 rw [fnW_eq H.CB rfl];by_cases hne:l=[]
 ·subst hne;simp (disch:=omega) [w592,ck_unf w592_B0.eq_1,ck_unf w592_c0.eq_1]
 ·have h:=jC H x hk hm l e hl hf l.length 0 Qw [] rfl;simp only [w592_K0] at h;simp at h;simp (disch:=omega) [w592,fits,hne,h]
structure wu (C:WProg):Prop extends sH C where
 DC:C.fns.get 582=some w582
 Cj:C.fns.get 583=some w583
 Cc:C.fns.get 593=some w593
def aA (s:Bs):Nd:=⟨2,[],[],[],true,s,[],true⟩
theorem bT (H:wu C) (s:Bs):FnW C 583 [.str s]=some (.agg (aA s).c):=by rw [fnW_eq H.Cj rfl,Nd.aC];simp [w583,aA]
theorem vk (H:wu C) (l:List Nd) (e:Bool):FnW C 593 [.ro 6 (l.map Nd.c) e]=some (.ro 6 (l.map Nd.c) true):=by have h:List.take l.length (List.map Nd.c l)=List.map Nd.c l:=List.take_of_length_le Qw;rw [fnW_eq H.Cc rfl];simp [w593,h]
def bZ (x:It) (p:Pt) (key:Bs) (ch:List Nd):Nd:=⟨1,p.t,key,p.s.map (au x),true,[],ch,true⟩
theorem gI (H:wu C) (x:It) (hk:0<=x.k/\x.k < 18446744073709551616) (hm:x.m.length<=1000000) (p:Pt) (hl:p.s.length<=8) (hf:∀ s ∈ p.s,0<=s.f/\s.f<=3) (key:Bs) (ch:List Nd) (e:Bool) :
 FnW C 582 [eIt x,.agg p.c,.str key,.ro 6 (ch.map Nd.c) e]=some (.agg (bZ x p key ch).c):=by
 have h1:=pK H.tosH x hk hm p.s p.se hl hf;have h2:=vk H ch e;rw [fnW_eq H.DC rfl,Nd.aC];simp only [bZ];simp [w582,h1,h2,H.inl,inlB,H.pp,ppB]
end Go.D
end
section
namespace Go.D
open Go Go.Pav Go.Pw P
mutual
/-- A tree without what is known of its memory. -/
def Nd.z:Nd->Nd
 | ⟨k,t,y,a,ae,x,ch,ce⟩=>⟨k,t,y,a,true,x,Nd.zs ch,true⟩
def Nd.zs:List Nd->List Nd
 | []=>[]
 | n::r=>n.z::Nd.zs r
end
theorem Nd.xG:∀ l:List Nd,Nd.zs l=l.map Nd.z
 | []=>rfl
 | n::r=>by rw [Nd.zs,Nd.xG r];rfl
theorem Nd.vZ (n:Nd):n.z=⟨n.k,n.t,n.y,n.a,true,n.x,n.ch.map Nd.z,true⟩:=by cases n;rw [Nd.z,Nd.xG]
theorem Nd.z_y (n:Nd):n.z.y=n.y:=by rw [Nd.vZ]
theorem vP (n:Nd):alone n.z=alone n:=by
 have h:(n.ch.map Nd.z).map Nd.y=n.ch.map Nd.y:=by rw [List.map_map];exact List.map_congr_left λm _=>m.z_y
 rw [Nd.vZ];unfold alone;simp only [h,List.length_map,List.map_eq_nil_iff]
mutual
theorem Dq:∀ (n:Nd) (lv:Nat) (s:Nat × Nat),wk n.z lv s=wk n lv s
 | ⟨k,t,y,a,ae,x,ch,ce⟩,lv,(c,d)=>by
  have h:=vP ⟨k,t,y,a,ae,x,ch,ce⟩;rw [tK,tK,h];have e:(Nd.z ⟨k,t,y,a,ae,x,ch,ce⟩).ch=Nd.zs ch:=by rw [Nd.z]
  rw [e,xW ch (lv+1) (c+1,max d lv)]
theorem xW:∀ (l:List Nd) (lv:Nat) (s:Nat × Nat),wks (Nd.zs l) lv s=wks l lv s
 | [],lv,s=>by rw [Nd.zs]
 | m::r,lv,s=>by
  rw [Nd.zs,wks,wks,Dq m lv s];split
  ·exact xW r lv _
  ·rfl
end
theorem xJ (n:Nd):cnt n.z=cnt n:=by unfold cnt;rw [Dq]
end Go.D
end
section
namespace Go.D
open Go Go.Pav Go.Pw P
inductive Okp:Pt->Prop
 | mk (p:Pt) (h:aN p=true) (hf:Fits p) (hm:∀ m ∈ p.ch,Okp m):Okp p
mutual
theorem qj:∀ (p:Pt),aF p->∀ (lv c:Nat),(tk p lv c).1=true->Okp p
 | ⟨k,t,y,s,se,x,ch,ce⟩,hf,lv,c,h=>by
  rw [nH] at h;split at h
  ·cases h
  ·rename_i q;cases hf with
   | mk _ h1 hm =>exact .mk _ (by simpa using λe=>q (.inr (.inr e))) h1 (lV ch hm _ _ h)
theorem lV:∀ (l:List Pt),(∀ m ∈ l,aF m)->∀ (lv c:Nat),(tks l lv c).1=true->∀ m ∈ l,Okp m
 | [],_,_,_,_=>by simp
 | m::r,hf,lv,c,h=>by
  rw [tks] at h;split at h
  ·rename_i q;intro a ha;have h0:=qj m (hf m Qw) lv c q;have h2:=lV r (λb hb=>hf b (by simp [hb])) lv _ h;rcases List.mem_cons.1 ha with e | ha
   ·exact e ▸ h0
   ·exact h2 a ha
  ·cases h
end
theorem jU {p:Pt} (hf:aF p) (h:aS p≠0):Okp p:=by
 unfold aS at h;split at h
 ·rename_i q;exact qj p hf 1 0 q.2
 ·exact absurd rfl h
theorem qm {p:Pt} (h:aS p≠0):p.k=1:=by
 unfold aS at h;split at h
 ·rename_i q;exact q.1
 ·exact absurd rfl h
theorem jl:∀ (l:List Sl) (p:Option Bs),aO p l=true->∀ s ∈ l,s.f<=3
 | [],_,_=>by simp
 | s::r,p,h=>by
  rw [aO] at h;simp at h;intro a ha;rcases List.mem_cons.1 ha with rfl | ha
  ·exact h.1.1.1.1.2
  ·exact jl r _ h.2 a ha
theorem lD {p:Pt} (h:aN p=true):p.s.length<=8/\∀ s ∈ p.s,s.f<=3:=by
 unfold aN at h;split at h
 ·simp at h;exact ⟨h.1.2.1,jl _ _ h.1.2.2⟩
 ·split at h
  ·simp at h;exact ⟨h.1.1.1.2.1,jl _ _ h.1.1.1.2.2⟩
  ·split at h
   ·simp at h;rw [h.1.2];simp
   ·simp at h;rw [h.1.2];simp
theorem lT {p:Pt} (h:aN p=true):p.k=1\/p.k=2\/p.k=3\/p.k=4\/p.k=5:=by
 unfold aN at h;split at h
 ·exact .inl ‹_›
 ·split at h
  ·exact .inr (.inr (.inr (.inr ‹_›)))
  ·split at h
   ·exact .inr (.inl ‹_›)
   ·simp at h;rcases h.1.1.1.1.1 with q | q
    ·exact .inr (.inr (.inl q))
    ·exact .inr (.inr (.inr (.inl q)))
mutual
/-- What a part makes. -/
def mk (x:It):Pt->List Nd
 | ⟨k,t,y,s,se,tx,ch,ce⟩ =>
  if k=1 then [⟨1,t,y,s.map (au x),true,[],mks x ch,true⟩]
  else if k=2 then [aA tx] else if k=3 then [aA x.x] else if k=4 then [aA (dec x.k.toNat)]
  else if k=5 then x.m.map λm=>⟨1,t,m,s.map (au x),true,[],[aA m],true⟩ else []
def mks (x:It):List Pt->List Nd
 | []=>[]
 | p::r=>mk x p++mks x r
end
theorem mk_eq (x:It) (p:Pt):mk x p=if p.k=1 then [bZ x p p.y (mks x p.ch)]
 else if p.k=2 then [aA p.x] else if p.k=3 then [aA x.x] else if p.k=4 then [aA (dec x.k.toNat)]
 else if p.k=5 then x.m.map λm=>bZ x p m [aA m] else []:=by cases p;rw [mk];rfl
mutual
/-- What the specification's part makes. -/
def md (x:It):Pt->List Nd
 | ⟨k,t,y,s,se,tx,ch,ce⟩ =>
  if k=2 then [aA tx] else if k=3 then [aA x.x] else if k=4 then [aA (dec x.k.toNat)]
  else if k=5 then x.m.map λm=>⟨1,t,m,s.map (au x),false,[],[aA m],true⟩
  else [⟨1,t,y,s.map (au x),false,[],mds x ch,(mds x ch).isEmpty⟩]
def mds (x:It):List Pt->List Nd
 | []=>[]
 | p::r=>md x p++mds x r
end
def aH (x:It) (p:Pt) (key:Bs) (ch:List Nd) (e:Bool):Nd:=⟨1,p.t,key,p.s.map (au x),false,[],ch,e⟩
theorem qL (x:It) (p:Pt):md x p=if p.k=2 then [aA p.x] else if p.k=3 then [aA x.x] else if p.k=4 then [aA (dec x.k.toNat)]
 else if p.k=5 then x.m.map λm=>aH x p m [aA m] true else [aH x p p.y (mds x p.ch) (mds x p.ch).isEmpty]:=by cases p;rw [md];rfl
mutual
theorem xw (x:It):∀ (p:Pt),Okp p->(mk x p).map Nd.z=(md x p).map Nd.z
 | ⟨k,t,y,s,se,tx,ch,ce⟩,h=>by
  have hk:=lT (by cases h;assumption:aN ⟨k,t,y,s,se,tx,ch,ce⟩=true);have hm:∀ m ∈ ch,Okp m:=by cases h;assumption
  have ih:=nX x ch hm;rw [mk,md];simp only at hk;rcases hk with rfl | rfl | rfl | rfl | rfl
  ·simp [Nd.vZ,ih]
  ·simp
  ·simp
  ·simp
  ·simp [Nd.vZ]
theorem nX (x:It):∀ (l:List Pt),(∀ m ∈ l,Okp m)->(mks x l).map Nd.z=(mds x l).map Nd.z
 | [],_=>by rw [mks,mds]
 | p::r,h=>by rw [mks,mds,List.map_append,List.map_append,xw x p (h p Qw),nX x r λm hm=>h m (by simp [hm])]
end
theorem pW (x:It) (hx:x.m.length<=8) (p:Pt):(md x p).length<=8:=by rw [qL];split <;> (try split) <;> (try split) <;> (try split) <;> (try split) <;> simp <;> omega
def zN:Nd:=⟨0,[],[],[],true,[],[],true⟩
def mkN (x:It) (p:Pt):Nd:=(mk x p).headD zN
def mdN (x:It) (p:Pt):Nd:=(md x p).headD zN
theorem zf (x:It) (p:Pt) (h:Okp p):(mkN x p).z=(mdN x p).z:=by have:=xw x p h;unfold mkN mdN;cases h1:mk x p <;> cases h2:md x p <;> rw [h1,h2] at this <;> simp at this |-;exact this.1
def cZ (p:Pt) (x:It) (most:Int):Int :=if most < 1\/64 < most then 1 else if aS p=0 then 14 else if dL x=false then 6 else if cnt (mkN x p)=0\/most < cnt (mkN x p) then 14 else 0
def pV (p:Pt) (x:It) (most:Int):Nd:=if cZ p x most=0 then mkN x p else zN
def yY (p:Pt) (x:It) (most:Int):Nd:=if cZ p x most=0 then mdN x p else zN
end Go.D
end
section
namespace Go.D
open Go Go.Pav Go.Pw P
attribute [-simp] List.getElem_cons_drop
variable {C:WProg}
structure aX (C:WProg):Prop extends wu C,jE C where
 DF:C.fns.get 547=some w547
 Ar:C.fns.get 513=some w513
 Dz:C.fns.get 501=some w501
 Bv:C.fns.get 425=some w425
@[simp] theorem Nd.Bh (n:Nd) (k:Nat):n.c.any (hasRefW (k+1))=true:=by rw [Nd.aC];rfl
@[simp] theorem Nd.y9 (n:Nd) (k:Nat):(∃ x,x ∈ n.c/\hasRefW (k+1) x=true)=True:=by refine eq_true ⟨.ro 2 (n.a.map eA) n.ae,?_,rfl⟩;rw [Nd.aC];simp
theorem vX (H:aX C) (x:It) (hk:0<=x.k/\x.k < 18446744073709551616) (hm:x.m.length<=8) (l:List Pt) (e:Bool) (hl:l.length<=16) (p:Pt) (hp:aN p=true/\Fits p) (hk5:p.k=5) (i:Nat) (hi:i < l.length)
 (hnext:∀ G:List Nd,G.length<=8 * (i+1)->w547_K0 C ⟨[(12,.int .i64 ((i:Int)+1)),(11,.int .i64 l.length),(10,.ro 6 (l.map Pt.c) e),(5,.sl 0 6 0 G.length G.length false),(2,.ptr 1 0 0)],[(0,.cells 6 (G.map Nd.c) true true),(1,.cells 4 [[.int .u64 x.k,.int .u8 x.t,.str x.x,.ro 1 (x.m.map eS) x.e]] true true)],2⟩ =
  some (.ro 6 ((G++mks x (l.drop (i+1))).map Nd.c) false)):∀ n k,n+k=x.m.length->∀ G:List Nd,G.length<=8 * i+k ->
 w547_K1 C ⟨[(65,.int .i64 k),(64,.int .i64 x.m.length),(63,.ro 1 (x.m.map eS) x.e),(12,.int .i64 i),(11,.int .i64 l.length),(10,.ro 6 (l.map Pt.c) e),(7,.ptr 0 0 0),(5,.sl 1 6 0 G.length G.length false),(2,.ptr 2 0 0)],[(0,.cells 6 [p.c] true true),(1,.cells 6 (G.map Nd.c) true true),(2,.cells 4 [[.int .u64 x.k,.int .u8 x.t,.str x.x,.ro 1 (x.m.map eS) x.e]] true true)],3⟩ =
  some (.ro 6 ((G++(x.m.drop k).map (λm=>bZ x p m [aA m])++mks x (l.drop (i+1))).map Nd.c) false):=by
 intro n;induction n with
 | zero =>
  intro k hk2 G hG;have h1:x.m.drop k=[]:=List.drop_eq_nil_of_le Qq;have h3:¬ k < x.m.length:=by omega
  have:=hnext G Qq;simp only [w547_K0] at this;simp at this;simp only [w547_K1];rw [ck_unf w547_B1.eq_1];simp (disch:=omega) [ck_unf w547_c1.eq_1,h1,h3,aj,this]
 | succ n ih =>
  intro k hk2 G hG;have h1:k < x.m.length:=by omega
  have hs:=lD hp.1;have he:=gI H.towu x hk Qq p hs.1 (λs q=>⟨hp.2.f s q,hs.2 s q⟩) x.m[k] [aA x.m[k]] true;have hw:=bT H.towu x.m[k];have:=ih (k+1) Qq (G++[bZ x p x.m[k] [aA x.m[k]]]) Qz;have hfit:(G.length+1) * 105<=35184372088832:=by omega
  rw [drop_cons h1];simp only [w547_K1] at this |-;rw [ck_unf w547_B1.eq_1];simp at this;simp at he;simp (disch:=omega) [h1,aj,hfit,hw,he,H.inl,inlB,H.pp,ppB,this]
theorem pF (H:aX C) (x:It) (hk:0<=x.k/\x.k < 18446744073709551616) (hm:x.m.length<=8) (l:List Pt) (e:Bool) (hl:l.length<=16) (ho:∀ p ∈ l,Okp p)
 (ih:∀ p ∈ l,FnW C 547 [eIt x,.ro 6 (p.ch.map Pt.c) p.ce]=some (.ro 6 ((mks x p.ch).map Nd.c) false)):∀ n i,n+i=l.length->∀ G:List Nd,G.length<=8 * i ->
 w547_K0 C ⟨[(12,.int .i64 i),(11,.int .i64 l.length),(10,.ro 6 (l.map Pt.c) e),(5,.sl 0 6 0 G.length G.length false),(2,.ptr 1 0 0)],[(0,.cells 6 (G.map Nd.c) true true),(1,.cells 4 [[.int .u64 x.k,.int .u8 x.t,.str x.x,.ro 1 (x.m.map eS) x.e]] true true)],2⟩ =
  some (.ro 6 ((G++mks x (l.drop i)).map Nd.c) false):=by
 intro n;induction n with
 | zero =>
  intro i hi G hG;have h1:l.drop i=[]:=List.drop_eq_nil_of_le Qq;have h3:¬ i < l.length:=by omega
  simp only [w547_K0];rw [ck_unf w547_B0.eq_1];cases G with
  | nil=>simp [ck_unf w547_c0.eq_1,h1,h3,mks]
  | cons g G=>simp (disch:=(first | omega | (simp;done) | (simp;omega))) [ck_unf w547_c0.eq_1,h1,h3,mks,List.take_of_length_le]
 | succ n ihn =>
  intro i hi G hG;have h1:i < l.length:=by omega
  have hp:=ho _ (List.getElem_mem h1);have hpo:aN l[i]=true:=by cases hp;assumption
  have hpf:Fits l[i]:=by cases hp;assumption
  have hs:=lD hpo;have hnext:∀ G:List Nd,G.length<=8 * (i+1)->w547_K0 C ⟨[(12,.int .i64 ((i:Int)+1)),(11,.int .i64 l.length),(10,.ro 6 (l.map Pt.c) e),(5,.sl 0 6 0 G.length G.length false),(2,.ptr 1 0 0)],[(0,.cells 6 (G.map Nd.c) true true),(1,.cells 4 [[.int .u64 x.k,.int .u8 x.t,.str x.x,.ro 1 (x.m.map eS) x.e]] true true)],2⟩ = some (.ro 6 ((G++mks x (l.drop (i+1))).map Nd.c) false):=λG q=>by have:=ihn (i+1) Qq G q;simpa using this
  have hfit:(G.length+1) * 105<=35184372088832:=by omega
  rw [drop_cons h1,mks];have step:∀ N:Nd,w547_K0 C ⟨[(12,.int .i64 ((i:Int)+1)),(11,.int .i64 l.length),(10,.ro 6 (l.map Pt.c) e),(5,.sl 0 6 0 (G.length+1) (G.length+1) false),(2,.ptr 1 0 0)],[(0,.cells 6 (G.map Nd.c++[N.c]) true true),(1,.cells 4 [[.int .u64 x.k,.int .u8 x.t,.str x.x,.ro 1 (x.m.map eS) x.e]] true true)],2⟩ = some (.ro 6 ((G++([N]++mks x (l.drop (i+1)))).map Nd.c) false):=λN=>by have:=hnext (G++[N]) Qz;simpa using this
  rcases lT hpo with k1 | k1 | k1 | k1 | k1
  ·have he:=gI H.towu x hk Qq l[i] hs.1 (λs q=>⟨hpf.f s q,hs.2 s q⟩) l[i].y (mks x l[i].ch) false;have hr:=ih _ (List.getElem_mem h1);have:=step (bZ x l[i] l[i].y (mks x l[i].ch));have hq:mk x l[i]=[bZ x l[i] l[i].y (mks x l[i].ch)]:=by rw [mk_eq,if_pos k1]
   rw [hq];simp only [w547_K0] at this |-;rw [ck_unf w547_B0.eq_1];simp at this;simp (disch:=omega) [ck_unf w547_c1.eq_1,h1,k1,aj,hfit,he,hr,H.inl,inlB,H.pp,ppB,this]
  ·have hw:=bT H.towu l[i].x;have:=step (aA l[i].x);have hq:mk x l[i]=[aA l[i].x]:=by rw [mk_eq,if_neg Qq,if_pos k1]
   rw [hq];simp only [w547_K0] at this |-;rw [ck_unf w547_B0.eq_1];simp at this;simp (disch:=omega) [ck_unf w547_c1.eq_1,h1,k1,aj,hfit,hw,H.inl,inlB,H.pp,ppB,this]
  ·have hw:=bT H.towu x.x;have:=step (aA x.x);have hq:mk x l[i]=[aA x.x]:=by rw [mk_eq,if_neg Qq,if_neg Qq,if_pos k1]
   rw [hq];simp only [w547_K0] at this |-;rw [ck_unf w547_B0.eq_1];simp at this;simp (disch:=omega) [ck_unf w547_c1.eq_1,h1,k1,aj,hfit,hw,H.inl,inlB,H.pp,ppB,this]
  ·obtain ⟨k,hk2⟩:∃ k:Nat,x.k=k:=⟨x.k.toNat,by omega⟩;have hd:=je H.tosD k Qq;have hw:=bT H.towu (dec x.k.toNat);have:=step (aA (dec x.k.toNat));have hq:mk x l[i]=[aA (dec x.k.toNat)]:=by rw [mk_eq,if_neg Qq,if_neg Qq,if_neg Qq,if_pos k1]
   rw [hq];rw [hk2] at this hw |-;simp only [w547_K0] at this |-;rw [ck_unf w547_B0.eq_1];simp at this hw;simp (disch:=omega) [ck_unf w547_c1.eq_1,h1,k1,aj,hfit,hd,hw,H.inl,inlB,H.pp,ppB,this]
  ·have:=vX H x hk hm l e hl l[i] ⟨hpo,hpf⟩ k1 i h1 hnext x.m.length 0 Qw G Qq;have hq:mk x l[i]=x.m.map λm=>bZ x l[i] m [aA m]:=by rw [mk_eq,if_neg Qq,if_neg Qq,if_neg Qq,if_neg Qq,if_pos k1]
   rw [hq,<- List.append_assoc];rw [List.drop_zero] at this;generalize G++List.map (λm=>bZ x l[i] m [aA m]) x.m++mks x (l.drop (i+1))=R at *;simp only [w547_K0];simp only [w547_K1] at this;rw [ck_unf w547_B0.eq_1];simp at this;simp (disch:=omega) [ck_unf w547_c1.eq_1,h1,k1,aj,H.inl,inlB,H.pp,ppB,this]
theorem ig (H:aX C) (x:It) (hk:0<=x.k/\x.k < 18446744073709551616) (hm:x.m.length<=8) (l:List Pt) (e:Bool) (hl:l.length<=16) (ho:∀ p ∈ l,Okp p)
 (ih:∀ p ∈ l,FnW C 547 [eIt x,.ro 6 (p.ch.map Pt.c) p.ce]=some (.ro 6 ((mks x p.ch).map Nd.c) false)):FnW C 547 [eIt x,.ro 6 (l.map Pt.c) e]=some (.ro 6 ((mks x l).map Nd.c) false):=by
 have h:=pF H x hk hm l e hl ho ih l.length 0 Qw [] Qw;simp only [w547_K0] at h;simp at h;rw [fnW_eq H.DF rfl];simp [w547,h]
theorem jB (H:aX C) (x:It) (hk:0<=x.k/\x.k < 18446744073709551616) (hm:x.m.length<=8) (p:Pt) (hp:Okp p):FnW C 547 [eIt x,.ro 6 (p.ch.map Pt.c) p.ce]=some (.ro 6 ((mks x p.ch).map Nd.c) false):=by
 have ho:∀ m ∈ p.ch,Okp m:=by cases hp;assumption
 have hl:p.ch.length<=16:=dw (by cases hp;assumption);exact ig H x hk hm p.ch p.ce hl ho λm q=>jB H x hk hm m (ho m q)
termination_by SizeOf.sizeOf p
decreasing_by
 have:=List.sizeOf_lt_of_mem q;have:=Pt.bK p;omega
theorem wW (H:aX C) (x:It) (hk:0<=x.k/\x.k < 18446744073709551616) (hm:x.m.length<=8) (l:List Pt) (e:Bool) (hl:l.length<=16) (ho:∀ p ∈ l,Okp p) :
 FnW C 547 [eIt x,.ro 6 (l.map Pt.c) e]=some (.ro 6 ((mks x l).map Nd.c) false) :=
 ig H x hk hm l e hl ho λm q=>jB H x hk hm m (ho m q)
end Go.D
end
