/- Part of the theory that the claims of this work use: KR0. No conditions of its own. -/
import Derived.Test.YthoeclhpjbbfhaaGreatT7
import Derived.KernelRfl
set_option linter.unusedVariables false
set_option linter.unusedSimpArgs false
section
namespace Go.D
open Go Go.Pav Go.Pw P
set_option maxRecDepth 100000
theorem bD:(tabT.one.all fun b=>is0 (callQ prog no0 300 60 b.1 [b.2]))=true:=by kernel_rfl
theorem kC:(A0oT.all fun g=>isN (callQ prog (o1K prog) 300 60 501 [T0T,g.2,.int .i64 12]))=true:=by kernel_rfl
theorem mJ:(A1oT.all fun g=>isN (callQ prog (o1K prog) 300 60 501 [T1T,g.2,.int .i64 12]))=true:=by kernel_rfl
theorem fC:(A2oT.all fun g=>isN (callQ prog (o1K prog) 300 60 501 [T2T,g.2,.int .i64 12]))=true:=by kernel_rfl
theorem lS:(A2bT.all fun g=>isZ (callQ prog (o1K prog) 300 60 501 [T2T,g.2,.int .i64 12]))=true:=by kernel_rfl
theorem kU:(A3oT.all fun g=>isN (callQ prog (o1K prog) 300 60 501 [T3T,g.2,.int .i64 1]))=true:=by kernel_rfl
theorem dW:(B0oT.all fun g=>isN (callQ prog (o1K prog) 300 60 425 [T0T,g.2,.int .i64 12]))=true:=by kernel_rfl
theorem ou:(B1oT.all fun g=>isN (callQ prog (o1K prog) 300 60 425 [T1T,g.2,.int .i64 12]))=true:=by kernel_rfl
theorem iO:(B2oT.all fun g=>isN (callQ prog (o1K prog) 300 60 425 [T2T,g.2,.int .i64 12]))=true:=by kernel_rfl
theorem mM:(B2bT.all fun g=>isZ (callQ prog (o1K prog) 300 60 425 [T2T,g.2,.int .i64 12]))=true:=by kernel_rfl
theorem iF:(A0oT.all fun g=>is0 (callQ prog (o1K prog) 300 60 398 [g.2,.int .i64 3]))=true:=by kernel_rfl
theorem dO:(A1oT.all fun g=>is0 (callQ prog (o1K prog) 300 60 398 [g.2,.int .i64 3]))=true:=by kernel_rfl
theorem iJ:(A2oT.all fun g=>is0 (callQ prog (o1K prog) 300 60 398 [g.2,.int .i64 3]))=true:=by kernel_rfl
theorem iH:(A2bT.all fun g=>is0 (callQ prog (o1K prog) 300 60 398 [g.2,.int .i64 3]))=true:=by kernel_rfl
theorem jL:(A3oT.all fun g=>is0 (callQ prog (o1K prog) 300 60 398 [g.2,.int .i64 1]))=true:=by kernel_rfl
theorem dY:(B0oT.all fun g=>is0 (callQ prog (o1K prog) 300 60 424 [g.2,.int .i64 3]))=true:=by kernel_rfl
theorem gV:(B1oT.all fun g=>is0 (callQ prog (o1K prog) 300 60 424 [g.2,.int .i64 3]))=true:=by kernel_rfl
theorem mg:(B2oT.all fun g=>is0 (callQ prog (o1K prog) 300 60 424 [g.2,.int .i64 3]))=true:=by kernel_rfl
theorem gG:(B2bT.all fun g=>is0 (callQ prog (o1K prog) 300 60 424 [g.2,.int .i64 3]))=true:=by kernel_rfl
theorem dS:BkT prog:=⟨bD,kC,mJ,fC,lS,kU,dW,ou,iO,mM,iF,dO,iJ,iH,jL,dY,gV,mg,gG⟩
theorem dP:callQ prog (oCK prog) 300 60 166 []=some (.bool true):=by kernel_rfl
theorem dD:facB prog 300 60 (oBK prog) (fD 0)=true:=by kernel_rfl
theorem kJ:facB prog 300 60 (oBK prog) (fD 1)=true:=by kernel_rfl
theorem nY:facB prog 300 60 (oBK prog) (fD 2)=true:=by kernel_rfl
theorem jJ:facB prog 300 60 (oBK prog) (fD 3)=true:=by kernel_rfl
theorem nP:facB prog 300 60 (oBK prog) (fD 4)=true:=by kernel_rfl
theorem kS:facB prog 300 60 (oBK prog) (fD 5)=true:=by kernel_rfl
theorem iw:facB prog 300 60 (oBK prog) (fD 6)=true:=by kernel_rfl
theorem fM:facB prog 300 60 (oBK prog) (fD 7)=true:=by kernel_rfl
theorem kR:facB prog 300 60 (oBK prog) (fD 8)=true:=by kernel_rfl
theorem mQ:facB prog 300 60 (oBK prog) (fD 9)=true:=by kernel_rfl
theorem bI:facB prog 300 60 (oBK prog) (fD 10)=true:=by kernel_rfl
theorem aB:facB prog 300 60 (oBK prog) (fD 11)=true:=by kernel_rfl
theorem bQ:facB prog 300 60 (oBK prog) (fD 12)=true:=by kernel_rfl
theorem bH:facB prog 300 60 (oBK prog) (fD 13)=true:=by kernel_rfl
theorem aG:facB prog 300 60 (oBK prog) (fD 14)=true:=by kernel_rfl
theorem bP:facB prog 300 60 (oBK prog) (fD 15)=true:=by kernel_rfl
theorem aS:facB prog 300 60 (oBK prog) (fD 16)=true:=by kernel_rfl
theorem bn:facB prog 300 60 (oBK prog) (fD 17)=true:=by kernel_rfl
theorem aO:facB prog 300 60 (oBK prog) (fD 18)=true:=by kernel_rfl
theorem aV:facB prog 300 60 (oBK prog) (fD 19)=true:=by kernel_rfl
theorem aP:facB prog 300 60 (oBK prog) (fD 20)=true:=by kernel_rfl
theorem aI:facB prog 300 60 (oBK prog) (fD 21)=true:=by kernel_rfl
theorem bG:facB prog 300 60 (oBK prog) (fD 22)=true:=by kernel_rfl
theorem aF:facB prog 300 60 (oBK prog) (fD 23)=true:=by kernel_rfl
theorem bC:facB prog 300 60 (oBK prog) (fD 24)=true:=by kernel_rfl
theorem bM:facB prog 300 60 (oBK prog) (fD 25)=true:=by kernel_rfl
theorem ay:facB prog 300 60 (oBK prog) (fD 26)=true:=by kernel_rfl
theorem aQ:facB prog 300 60 (oBK prog) (fD 27)=true:=by kernel_rfl
theorem bW:facB prog 300 60 (oBK prog) (fD 28)=true:=by kernel_rfl
theorem aH:facB prog 300 60 (oBK prog) (fD 29)=true:=by kernel_rfl
theorem aA:facB prog 300 60 (oBK prog) (fD 30)=true:=by kernel_rfl
theorem aC:facB prog 300 60 (oBK prog) (fD 31)=true:=by kernel_rfl
theorem kF_:∀ i,i < 32→facB prog 300 60 (oBK prog) (fD i)=true
 | 0,_=>dD
 | 1,_=>kJ
 | 2,_=>nY
 | 3,_=>jJ
 | 4,_=>nP
 | 5,_=>kS
 | 6,_=>iw
 | 7,_=>fM
 | 8,_=>kR
 | 9,_=>mQ
 | 10,_=>bI
 | 11,_=>aB
 | 12,_=>bQ
 | 13,_=>bH
 | 14,_=>aG
 | 15,_=>bP
 | 16,_=>aS
 | 17,_=>bn
 | 18,_=>aO
 | 19,_=>aV
 | 20,_=>aP
 | 21,_=>aI
 | 22,_=>bG
 | 23,_=>aF
 | 24,_=>bC
 | 25,_=>bM
 | 26,_=>ay
 | 27,_=>aQ
 | 28,_=>bW
 | 29,_=>aH
 | 30,_=>aA
 | 31,_=>aC
 | n+32,h=>absurd h (by omega)
theorem jY:(facI.all fun b=>facB prog 300 60 (oBK prog) b)=true:=by kernel_rfl
end Go.D
end
