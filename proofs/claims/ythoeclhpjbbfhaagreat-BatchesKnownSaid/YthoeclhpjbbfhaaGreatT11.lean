/- Part of the theory that the claims of this work use: KR3. No conditions of its own. -/
import Derived.Test.YthoeclhpjbbfhaaGreatT10
import Derived.KernelRfl
section
set_option linter.unusedSimpArgs false
set_option linter.unusedVariables false
namespace Go.D
open Go Go.Pav Go.Pw P
set_option maxRecDepth 100000
theorem kr40_:stepQ prog (oRT prog 300 60 (oBK prog) 40) 300 60 0 a0D w621_B0 (sT 40)=some (sT 41):=by kernel_rfl
theorem kr41_:stepQ prog (oRT prog 300 60 (oBK prog) 41) 300 60 0 a0D w621_B0 (sT 41)=some (sT 42):=by kernel_rfl
theorem kr42_:stepQ prog (oRT prog 300 60 (oBK prog) 42) 300 60 0 a0D w621_B0 (sT 42)=some (sT 43):=by kernel_rfl
theorem kr43_:stepQ prog (oRT prog 300 60 (oBK prog) 43) 300 60 0 a0D w621_B0 (sT 43)=some (sT 44):=by kernel_rfl
theorem kr44_:stepQ prog (oRT prog 300 60 (oBK prog) 44) 300 60 0 a0D w621_B0 (sT 44)=some (sT 45):=by kernel_rfl
theorem kr45_:stepQ prog (oRT prog 300 60 (oBK prog) 45) 300 60 0 a0D w621_B0 (sT 45)=some (sT 46):=by kernel_rfl
theorem kr46_:stepQ prog (oRT prog 300 60 (oBK prog) 46) 300 60 0 a0D w621_B0 (sT 46)=some (sT 47):=by kernel_rfl
theorem kr47_:stepQ prog (oRT prog 300 60 (oBK prog) 47) 300 60 0 a0D w621_B0 (sT 47)=some (sT 48):=by kernel_rfl
theorem kr48_:stepQ prog (oRT prog 300 60 (oBK prog) 48) 300 60 0 a0D w621_B0 (sT 48)=some (sT 49):=by kernel_rfl
theorem kr49_:stepQ prog (oRT prog 300 60 (oBK prog) 49) 300 60 0 a0D w621_B0 (sT 49)=some (sT 50):=by kernel_rfl
theorem kr50_:stepQ prog (oRT prog 300 60 (oBK prog) 50) 300 60 0 a0D w621_B0 (sT 50)=some (sT 51):=by kernel_rfl
theorem kr51_:stepQ prog (oRT prog 300 60 (oBK prog) 51) 300 60 0 a0D w621_B0 (sT 51)=some (sT 52):=by kernel_rfl
theorem kr52_:stepQ prog (oRT prog 300 60 (oBK prog) 52) 300 60 0 a0D w621_B0 (sT 52)=some (sT 53):=by kernel_rfl
theorem kr53_:stepQ prog (oRT prog 300 60 (oBK prog) 53) 300 60 0 a0D w621_B0 (sT 53)=some (sT 54):=by kernel_rfl
theorem kr54_:stepQ prog (oRT prog 300 60 (oBK prog) 54) 300 60 0 a0D w621_B0 (sT 54)=some (sT 55):=by kernel_rfl
theorem kr55_:stepQ prog (oRT prog 300 60 (oBK prog) 55) 300 60 0 a0D w621_B0 (sT 55)=some (sT 56):=by kernel_rfl
theorem kr56_:stepQ prog (oRT prog 300 60 (oBK prog) 56) 300 60 0 a0D w621_B0 (sT 56)=some (sT 57):=by kernel_rfl
theorem kr57_:stepQ prog (oRT prog 300 60 (oBK prog) 57) 300 60 0 a0D w621_B0 (sT 57)=some (sT 58):=by kernel_rfl
theorem kr58_:stepQ prog (oRT prog 300 60 (oBK prog) 58) 300 60 0 a0D w621_B0 (sT 58)=some (sT 59):=by kernel_rfl
theorem kr59_:stepQ prog (oRT prog 300 60 (oBK prog) 59) 300 60 0 a0D w621_B0 (sT 59)=some (sT 60):=by kernel_rfl
theorem kr60_:stepQ prog (oRT prog 300 60 (oBK prog) 60) 300 60 0 a0D w621_B0 (sT 60)=some (sT 61):=by kernel_rfl
theorem kr61_:stepQ prog (oRT prog 300 60 (oBK prog) 61) 300 60 0 a0D w621_B0 (sT 61)=some (sT 62):=by kernel_rfl
theorem kr62_:stepQ prog (oRT prog 300 60 (oBK prog) 62) 300 60 0 a0D w621_B0 (sT 62)=some (sT 63):=by kernel_rfl
theorem kr63_:stepQ prog (oRT prog 300 60 (oBK prog) 63) 300 60 0 a0D w621_B0 (sT 63)=some (sT 64):=by kernel_rfl
theorem kr64_:stepQ prog (oRT prog 300 60 (oBK prog) 64) 300 60 0 a0D w621_B0 (sT 64)=some (sT 65):=by kernel_rfl
theorem kr65_:stepQ prog (oRT prog 300 60 (oBK prog) 65) 300 60 0 a0D w621_B0 (sT 65)=some (sT 66):=by kernel_rfl
theorem kr66_:stepQ prog (oRT prog 300 60 (oBK prog) 66) 300 60 0 a0D w621_B0 (sT 66)=some (sT 67):=by kernel_rfl
theorem kr67_:stepQ prog (oRT prog 300 60 (oBK prog) 67) 300 60 0 a0D w621_B0 (sT 67)=some (sT 68):=by kernel_rfl
theorem kr68_:stepQ prog (oRT prog 300 60 (oBK prog) 68) 300 60 0 a0D w621_B0 (sT 68)=some (sT 69):=by kernel_rfl
theorem kr69_:stepQ prog (oRT prog 300 60 (oBK prog) 69) 300 60 0 a0D w621_B0 (sT 69)=some (sT 70):=by kernel_rfl
theorem kr70_:stepQ prog (oRT prog 300 60 (oBK prog) 70) 300 60 0 a0D w621_B0 (sT 70)=some (sT 71):=by kernel_rfl
theorem kr71_:stepQ prog (oRT prog 300 60 (oBK prog) 71) 300 60 0 a0D w621_B0 (sT 71)=some (sT 72):=by kernel_rfl
theorem kr72_:stepQ prog (oRT prog 300 60 (oBK prog) 72) 300 60 0 a0D w621_B0 (sT 72)=some (sT 73):=by kernel_rfl
theorem kr73_:stepQ prog (oRT prog 300 60 (oBK prog) 73) 300 60 0 a0D w621_B0 (sT 73)=some (sT 74):=by kernel_rfl
theorem kr74_:stepQ prog (oRT prog 300 60 (oBK prog) 74) 300 60 0 a0D w621_B0 (sT 74)=some (sT 75):=by kernel_rfl
theorem kr75_:stepQ prog (oRT prog 300 60 (oBK prog) 75) 300 60 0 a0D w621_B0 (sT 75)=some (sT 76):=by kernel_rfl
theorem kr76_:stepQ prog (oRT prog 300 60 (oBK prog) 76) 300 60 0 a0D w621_B0 (sT 76)=some (sT 77):=by kernel_rfl
theorem kr77_:stepQ prog (oRT prog 300 60 (oBK prog) 77) 300 60 0 a0D w621_B0 (sT 77)=some (sT 78):=by kernel_rfl
theorem kr78_:stepQ prog (oRT prog 300 60 (oBK prog) 78) 300 60 0 a0D w621_B0 (sT 78)=some (sT 79):=by kernel_rfl
theorem kr79_:stepQ prog (oRT prog 300 60 (oBK prog) 79) 300 60 0 a0D w621_B0 (sT 79)=some (sT 80):=by kernel_rfl
end Go.D
end
