/- Part of the theory that the claims of this work use: KR4. No conditions of its own. -/
import Derived.Test.YthoeclhpjbbfhaaGreatT11
import Derived.KernelRfl
section
set_option linter.unusedSimpArgs false
set_option linter.unusedVariables false
namespace Go.D
open Go Go.Pav Go.Pw P
set_option maxRecDepth 100000
theorem kr80_:stepQ prog (oRT prog 300 60 (oBK prog) 80) 300 60 0 a0D w621_B0 (sT 80)=some (sT 81):=by kernel_rfl
theorem kr81_:stepQ prog (oRT prog 300 60 (oBK prog) 81) 300 60 0 a0D w621_B0 (sT 81)=some (sT 82):=by kernel_rfl
theorem kr82_:stepQ prog (oRT prog 300 60 (oBK prog) 82) 300 60 0 a0D w621_B0 (sT 82)=some (sT 83):=by kernel_rfl
theorem kr83_:stepQ prog (oRT prog 300 60 (oBK prog) 83) 300 60 0 a0D w621_B0 (sT 83)=some (sT 84):=by kernel_rfl
theorem kr84_:stepQ prog (oRT prog 300 60 (oBK prog) 84) 300 60 0 a0D w621_B0 (sT 84)=some (sT 85):=by kernel_rfl
theorem kr85_:stepQ prog (oRT prog 300 60 (oBK prog) 85) 300 60 0 a0D w621_B0 (sT 85)=some (sT 86):=by kernel_rfl
theorem kr86_:stepQ prog (oRT prog 300 60 (oBK prog) 86) 300 60 0 a0D w621_B0 (sT 86)=some (sT 87):=by kernel_rfl
theorem kr87_:stepQ prog (oRT prog 300 60 (oBK prog) 87) 300 60 0 a0D w621_B0 (sT 87)=some (sT 88):=by kernel_rfl
theorem kr88_:stepQ prog (oRT prog 300 60 (oBK prog) 88) 300 60 0 a0D w621_B0 (sT 88)=some (sT 89):=by kernel_rfl
theorem kr89_:stepQ prog (oRT prog 300 60 (oBK prog) 89) 300 60 0 a0D w621_B0 (sT 89)=some (sT 90):=by kernel_rfl
theorem kr90_:stepQ prog (oRT prog 300 60 (oBK prog) 90) 300 60 0 a0D w621_B0 (sT 90)=some (sT 91):=by kernel_rfl
theorem kr91_:stepQ prog (oRT prog 300 60 (oBK prog) 91) 300 60 0 a0D w621_B0 (sT 91)=some (sT 92):=by kernel_rfl
theorem kr92_:stepQ prog (oRT prog 300 60 (oBK prog) 92) 300 60 0 a0D w621_B0 (sT 92)=some (sT 93):=by kernel_rfl
theorem kr93_:stepQ prog (oRT prog 300 60 (oBK prog) 93) 300 60 0 a0D w621_B0 (sT 93)=some (sT 94):=by kernel_rfl
theorem kr94_:stepQ prog (oRT prog 300 60 (oBK prog) 94) 300 60 0 a0D w621_B0 (sT 94)=some (sT 95):=by kernel_rfl
theorem kr95_:stepQ prog (oRT prog 300 60 (oBK prog) 95) 300 60 0 a0D w621_B0 (sT 95)=some (sT 96):=by kernel_rfl
theorem kr96_:stepQ prog (oRT prog 300 60 (oBK prog) 96) 300 60 0 a0D w621_B0 (sT 96)=some (sT 97):=by kernel_rfl
theorem kr97_:stepQ prog (oRT prog 300 60 (oBK prog) 97) 300 60 0 a0D w621_B0 (sT 97)=some (sT 98):=by kernel_rfl
theorem kr98_:stepQ prog (oRT prog 300 60 (oBK prog) 98) 300 60 0 a0D w621_B0 (sT 98)=some (sT 99):=by kernel_rfl
theorem kr99_:stepQ prog (oRT prog 300 60 (oBK prog) 99) 300 60 0 a0D w621_B0 (sT 99)=some (sT 100):=by kernel_rfl
theorem kr100_:stepQ prog (oRT prog 300 60 (oBK prog) 100) 300 60 0 a0D w621_B0 (sT 100)=some (sT 101):=by kernel_rfl
theorem kr101_:stepQ prog (oRT prog 300 60 (oBK prog) 101) 300 60 0 a0D w621_B0 (sT 101)=some (sT 102):=by kernel_rfl
theorem kr102_:stepQ prog (oRT prog 300 60 (oBK prog) 102) 300 60 0 a0D w621_B0 (sT 102)=some (sT 103):=by kernel_rfl
theorem kr103_:stepQ prog (oRT prog 300 60 (oBK prog) 103) 300 60 0 a0D w621_B0 (sT 103)=some (sT 104):=by kernel_rfl
theorem kr104_:stepQ prog (oRT prog 300 60 (oBK prog) 104) 300 60 0 a0D w621_B0 (sT 104)=some (sT 105):=by kernel_rfl
theorem kr105_:stepQ prog (oRT prog 300 60 (oBK prog) 105) 300 60 0 a0D w621_B0 (sT 105)=some (sT 106):=by kernel_rfl
theorem kr106_:stepQ prog (oRT prog 300 60 (oBK prog) 106) 300 60 0 a0D w621_B0 (sT 106)=some (sT 107):=by kernel_rfl
theorem kr107_:stepQ prog (oRT prog 300 60 (oBK prog) 107) 300 60 0 a0D w621_B0 (sT 107)=some (sT 108):=by kernel_rfl
theorem kr108_:stepQ prog (oRT prog 300 60 (oBK prog) 108) 300 60 0 a0D w621_B0 (sT 108)=some (sT 109):=by kernel_rfl
theorem kr109_:stepQ prog (oRT prog 300 60 (oBK prog) 109) 300 60 0 a0D w621_B0 (sT 109)=some (sT 110):=by kernel_rfl
theorem kr110_:stepQ prog (oRT prog 300 60 (oBK prog) 110) 300 60 0 a0D w621_B0 (sT 110)=some (sT 111):=by kernel_rfl
theorem kr111_:stepQ prog (oRT prog 300 60 (oBK prog) 111) 300 60 0 a0D w621_B0 (sT 111)=some (sT 112):=by kernel_rfl
theorem kr112_:stepQ prog (oRT prog 300 60 (oBK prog) 112) 300 60 0 a0D w621_B0 (sT 112)=some (sT 113):=by kernel_rfl
theorem kr113_:stepQ prog (oRT prog 300 60 (oBK prog) 113) 300 60 0 a0D w621_B0 (sT 113)=some (sT 114):=by kernel_rfl
theorem kr114_:stepQ prog (oRT prog 300 60 (oBK prog) 114) 300 60 0 a0D w621_B0 (sT 114)=some (sT 115):=by kernel_rfl
theorem kr115_:stepQ prog (oRT prog 300 60 (oBK prog) 115) 300 60 0 a0D w621_B0 (sT 115)=some (sT 116):=by kernel_rfl
theorem kr116_:stepQ prog (oRT prog 300 60 (oBK prog) 116) 300 60 0 a0D w621_B0 (sT 116)=some (sT 117):=by kernel_rfl
theorem kr117_:stepQ prog (oRT prog 300 60 (oBK prog) 117) 300 60 0 a0D w621_B0 (sT 117)=some (sT 118):=by kernel_rfl
theorem kr118_:stepQ prog (oRT prog 300 60 (oBK prog) 118) 300 60 0 a0D w621_B0 (sT 118)=some (sT 119):=by kernel_rfl
theorem kr119_:stepQ prog (oRT prog 300 60 (oBK prog) 119) 300 60 0 a0D w621_B0 (sT 119)=some (sT 120):=by kernel_rfl
end Go.D
end
