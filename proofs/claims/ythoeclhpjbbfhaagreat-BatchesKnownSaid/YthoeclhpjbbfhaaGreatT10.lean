/- Part of the theory that the claims of this work use: KR2. No conditions of its own. -/
import Derived.Test.YthoeclhpjbbfhaaGreatT9
import Derived.KernelRfl
section
set_option linter.unusedSimpArgs false
set_option linter.unusedVariables false
namespace Go.D
open Go Go.Pav Go.Pw P
set_option maxRecDepth 100000
theorem kr0_:stepQ prog (oRT prog 300 60 (oBK prog) 0) 300 60 0 a0D w621_B0 (sT 0)=some (sT 1):=by kernel_rfl
theorem kr1_:stepQ prog (oRT prog 300 60 (oBK prog) 1) 300 60 0 a0D w621_B0 (sT 1)=some (sT 2):=by kernel_rfl
theorem kr2_:stepQ prog (oRT prog 300 60 (oBK prog) 2) 300 60 0 a0D w621_B0 (sT 2)=some (sT 3):=by kernel_rfl
theorem kr3_:stepQ prog (oRT prog 300 60 (oBK prog) 3) 300 60 0 a0D w621_B0 (sT 3)=some (sT 4):=by kernel_rfl
theorem kr4_:stepQ prog (oRT prog 300 60 (oBK prog) 4) 300 60 0 a0D w621_B0 (sT 4)=some (sT 5):=by kernel_rfl
theorem kr5_:stepQ prog (oRT prog 300 60 (oBK prog) 5) 300 60 0 a0D w621_B0 (sT 5)=some (sT 6):=by kernel_rfl
theorem kr6_:stepQ prog (oRT prog 300 60 (oBK prog) 6) 300 60 0 a0D w621_B0 (sT 6)=some (sT 7):=by kernel_rfl
theorem kr7_:stepQ prog (oRT prog 300 60 (oBK prog) 7) 300 60 0 a0D w621_B0 (sT 7)=some (sT 8):=by kernel_rfl
theorem kr8_:stepQ prog (oRT prog 300 60 (oBK prog) 8) 300 60 0 a0D w621_B0 (sT 8)=some (sT 9):=by kernel_rfl
theorem kr9_:stepQ prog (oRT prog 300 60 (oBK prog) 9) 300 60 0 a0D w621_B0 (sT 9)=some (sT 10):=by kernel_rfl
theorem kr10_:stepQ prog (oRT prog 300 60 (oBK prog) 10) 300 60 0 a0D w621_B0 (sT 10)=some (sT 11):=by kernel_rfl
theorem kr11_:stepQ prog (oRT prog 300 60 (oBK prog) 11) 300 60 0 a0D w621_B0 (sT 11)=some (sT 12):=by kernel_rfl
theorem kr12_:stepQ prog (oRT prog 300 60 (oBK prog) 12) 300 60 0 a0D w621_B0 (sT 12)=some (sT 13):=by kernel_rfl
theorem kr13_:stepQ prog (oRT prog 300 60 (oBK prog) 13) 300 60 0 a0D w621_B0 (sT 13)=some (sT 14):=by kernel_rfl
theorem kr14_:stepQ prog (oRT prog 300 60 (oBK prog) 14) 300 60 0 a0D w621_B0 (sT 14)=some (sT 15):=by kernel_rfl
theorem kr15_:stepQ prog (oRT prog 300 60 (oBK prog) 15) 300 60 0 a0D w621_B0 (sT 15)=some (sT 16):=by kernel_rfl
theorem kr16_:stepQ prog (oRT prog 300 60 (oBK prog) 16) 300 60 0 a0D w621_B0 (sT 16)=some (sT 17):=by kernel_rfl
theorem kr17_:stepQ prog (oRT prog 300 60 (oBK prog) 17) 300 60 0 a0D w621_B0 (sT 17)=some (sT 18):=by kernel_rfl
theorem kr18_:stepQ prog (oRT prog 300 60 (oBK prog) 18) 300 60 0 a0D w621_B0 (sT 18)=some (sT 19):=by kernel_rfl
theorem kr19_:stepQ prog (oRT prog 300 60 (oBK prog) 19) 300 60 0 a0D w621_B0 (sT 19)=some (sT 20):=by kernel_rfl
theorem kr20_:stepQ prog (oRT prog 300 60 (oBK prog) 20) 300 60 0 a0D w621_B0 (sT 20)=some (sT 21):=by kernel_rfl
theorem kr21_:stepQ prog (oRT prog 300 60 (oBK prog) 21) 300 60 0 a0D w621_B0 (sT 21)=some (sT 22):=by kernel_rfl
theorem kr22_:stepQ prog (oRT prog 300 60 (oBK prog) 22) 300 60 0 a0D w621_B0 (sT 22)=some (sT 23):=by kernel_rfl
theorem kr23_:stepQ prog (oRT prog 300 60 (oBK prog) 23) 300 60 0 a0D w621_B0 (sT 23)=some (sT 24):=by kernel_rfl
theorem kr24_:stepQ prog (oRT prog 300 60 (oBK prog) 24) 300 60 0 a0D w621_B0 (sT 24)=some (sT 25):=by kernel_rfl
theorem kr25_:stepQ prog (oRT prog 300 60 (oBK prog) 25) 300 60 0 a0D w621_B0 (sT 25)=some (sT 26):=by kernel_rfl
theorem kr26_:stepQ prog (oRT prog 300 60 (oBK prog) 26) 300 60 0 a0D w621_B0 (sT 26)=some (sT 27):=by kernel_rfl
theorem kr27_:stepQ prog (oRT prog 300 60 (oBK prog) 27) 300 60 0 a0D w621_B0 (sT 27)=some (sT 28):=by kernel_rfl
theorem kr28_:stepQ prog (oRT prog 300 60 (oBK prog) 28) 300 60 0 a0D w621_B0 (sT 28)=some (sT 29):=by kernel_rfl
theorem kr29_:stepQ prog (oRT prog 300 60 (oBK prog) 29) 300 60 0 a0D w621_B0 (sT 29)=some (sT 30):=by kernel_rfl
theorem kr30_:stepQ prog (oRT prog 300 60 (oBK prog) 30) 300 60 0 a0D w621_B0 (sT 30)=some (sT 31):=by kernel_rfl
theorem kr31_:stepQ prog (oRT prog 300 60 (oBK prog) 31) 300 60 0 a0D w621_B0 (sT 31)=some (sT 32):=by kernel_rfl
theorem kr32_:stepQ prog (oRT prog 300 60 (oBK prog) 32) 300 60 0 a0D w621_B0 (sT 32)=some (sT 33):=by kernel_rfl
theorem kr33_:stepQ prog (oRT prog 300 60 (oBK prog) 33) 300 60 0 a0D w621_B0 (sT 33)=some (sT 34):=by kernel_rfl
theorem kr34_:stepQ prog (oRT prog 300 60 (oBK prog) 34) 300 60 0 a0D w621_B0 (sT 34)=some (sT 35):=by kernel_rfl
theorem kr35_:stepQ prog (oRT prog 300 60 (oBK prog) 35) 300 60 0 a0D w621_B0 (sT 35)=some (sT 36):=by kernel_rfl
theorem kr36_:stepQ prog (oRT prog 300 60 (oBK prog) 36) 300 60 0 a0D w621_B0 (sT 36)=some (sT 37):=by kernel_rfl
theorem kr37_:stepQ prog (oRT prog 300 60 (oBK prog) 37) 300 60 0 a0D w621_B0 (sT 37)=some (sT 38):=by kernel_rfl
theorem kr38_:stepQ prog (oRT prog 300 60 (oBK prog) 38) 300 60 0 a0D w621_B0 (sT 38)=some (sT 39):=by kernel_rfl
theorem kr39_:stepQ prog (oRT prog 300 60 (oBK prog) 39) 300 60 0 a0D w621_B0 (sT 39)=some (sT 40):=by kernel_rfl
end Go.D
end
