/- Part of the theory that the claims of this work use: KR1. No conditions of its own. -/
import Derived.Test.YthoeclhpjbbfhaaGreatT8
import Derived.KernelRfl
set_option linter.unusedVariables false
set_option linter.unusedSimpArgs false
section
namespace Go.D
open Go Go.Pav Go.Pw P
set_option maxRecDepth 100000
theorem eU:(ob (seqQ prog (oBK prog) 300 60 0 (cs2D++[h2D]) zD) (canon 0 a2D))=some (iD 0):=by kernel_rfl
theorem iq:stepQ prog (oBK prog) 300 60 0 a2D w621_B2 (iD 0)=some (iD 1):=by kernel_rfl
theorem lY:stepQ prog (oBK prog) 300 60 0 a2D w621_B2 (iD 1)=some (iD 2):=by kernel_rfl
theorem iI:stepQ prog (oBK prog) 300 60 0 a2D w621_B2 (iD 2)=some (iD 3):=by kernel_rfl
theorem dB:stepQ prog (oBK prog) 300 60 0 a2D w621_B2 (iD 3)=some (iD 4):=by kernel_rfl
theorem iZ:stepQ prog (oBK prog) 300 60 0 a2D w621_B2 (iD 4)=some (iD 5):=by kernel_rfl
theorem nU:stepQ prog (oBK prog) 300 60 0 a2D w621_B2 (iD 5)=some (iD 6):=by kernel_rfl
theorem kS_:∀ i,i < 6→stepQ prog (oBK prog) 300 60 0 a2D w621_B2 (iD i)=some (iD (i+1))
 | 0,_=>iq
 | 1,_=>lY
 | 2,_=>iI
 | 3,_=>dB
 | 4,_=>iZ
 | 5,_=>nU
 | n+6,h=>absurd h (by omega)
theorem iQ:leaveQ prog (oBK prog) 300 60 0 0 e2D w621_B2 (iD 6)=some zD:=by kernel_rfl
theorem kD:(ob (seqQ prog (oBK prog) 300 60 0 (cs1D++[h1D]) zD) (canon 0 a1D))=some (xsD 0):=by kernel_rfl
theorem dN:iterQ prog (oBK prog) 300 60 0 a1D w621_B1 32 (xsD 0)=some (xsD 32):=by kernel_rfl
theorem lV:leaveQ prog (oBK prog) 300 60 0 6 e1D w621_B1 (xsD 32)=some xeD:=by kernel_rfl
theorem gB:seqQ prog (oDK prog) 300 60 0 cs0D xeD=some sMD:=by kernel_rfl
theorem iC:(ob (seqQ prog (oBK prog) 300 60 0 (ct0D++[h0D]) sMD) (canon 0 a0D))=some (sT 0):=by kernel_rfl
theorem iL:leaveQ prog (oBK prog) 300 60 0 8 e0D w621_B0 (sT 160)=some zD:=by kernel_rfl
theorem cO:(ob (codeR w621_c0 prog (runQ prog (oBK prog) 300 60) 300 0 zD) fun r=>ob (fnEndW w621.res r) fun r=>frzW r.2.1 frzDepth r.1)=some (.bool true):=by kernel_rfl
end Go.D
end
