/- Part of the theory that the claims of this work use: KR5. No conditions of its own. -/
import Derived.Test.YthoeclhpjbbfhaaGreatT12
import Derived.KernelRfl
section
set_option linter.unusedSimpArgs false
set_option linter.unusedVariables false
namespace Go.D
open Go Go.Pav Go.Pw P
set_option maxRecDepth 100000
theorem kr120_:stepQ prog (oRT prog 300 60 (oBK prog) 120) 300 60 0 a0D w621_B0 (sT 120)=some (sT 121):=by kernel_rfl
theorem kr121_:stepQ prog (oRT prog 300 60 (oBK prog) 121) 300 60 0 a0D w621_B0 (sT 121)=some (sT 122):=by kernel_rfl
theorem kr122_:stepQ prog (oRT prog 300 60 (oBK prog) 122) 300 60 0 a0D w621_B0 (sT 122)=some (sT 123):=by kernel_rfl
theorem kr123_:stepQ prog (oRT prog 300 60 (oBK prog) 123) 300 60 0 a0D w621_B0 (sT 123)=some (sT 124):=by kernel_rfl
theorem kr124_:stepQ prog (oRT prog 300 60 (oBK prog) 124) 300 60 0 a0D w621_B0 (sT 124)=some (sT 125):=by kernel_rfl
theorem kr125_:stepQ prog (oRT prog 300 60 (oBK prog) 125) 300 60 0 a0D w621_B0 (sT 125)=some (sT 126):=by kernel_rfl
theorem kr126_:stepQ prog (oRT prog 300 60 (oBK prog) 126) 300 60 0 a0D w621_B0 (sT 126)=some (sT 127):=by kernel_rfl
theorem kr127_:stepQ prog (oRT prog 300 60 (oBK prog) 127) 300 60 0 a0D w621_B0 (sT 127)=some (sT 128):=by kernel_rfl
theorem kr128_:stepQ prog (oRT prog 300 60 (oBK prog) 128) 300 60 0 a0D w621_B0 (sT 128)=some (sT 129):=by kernel_rfl
theorem kr129_:stepQ prog (oRT prog 300 60 (oBK prog) 129) 300 60 0 a0D w621_B0 (sT 129)=some (sT 130):=by kernel_rfl
theorem kr130_:stepQ prog (oRT prog 300 60 (oBK prog) 130) 300 60 0 a0D w621_B0 (sT 130)=some (sT 131):=by kernel_rfl
theorem kr131_:stepQ prog (oRT prog 300 60 (oBK prog) 131) 300 60 0 a0D w621_B0 (sT 131)=some (sT 132):=by kernel_rfl
theorem kr132_:stepQ prog (oRT prog 300 60 (oBK prog) 132) 300 60 0 a0D w621_B0 (sT 132)=some (sT 133):=by kernel_rfl
theorem kr133_:stepQ prog (oRT prog 300 60 (oBK prog) 133) 300 60 0 a0D w621_B0 (sT 133)=some (sT 134):=by kernel_rfl
theorem kr134_:stepQ prog (oRT prog 300 60 (oBK prog) 134) 300 60 0 a0D w621_B0 (sT 134)=some (sT 135):=by kernel_rfl
theorem kr135_:stepQ prog (oRT prog 300 60 (oBK prog) 135) 300 60 0 a0D w621_B0 (sT 135)=some (sT 136):=by kernel_rfl
theorem kr136_:stepQ prog (oRT prog 300 60 (oBK prog) 136) 300 60 0 a0D w621_B0 (sT 136)=some (sT 137):=by kernel_rfl
theorem kr137_:stepQ prog (oRT prog 300 60 (oBK prog) 137) 300 60 0 a0D w621_B0 (sT 137)=some (sT 138):=by kernel_rfl
theorem kr138_:stepQ prog (oRT prog 300 60 (oBK prog) 138) 300 60 0 a0D w621_B0 (sT 138)=some (sT 139):=by kernel_rfl
theorem kr139_:stepQ prog (oRT prog 300 60 (oBK prog) 139) 300 60 0 a0D w621_B0 (sT 139)=some (sT 140):=by kernel_rfl
theorem kr140_:stepQ prog (oRT prog 300 60 (oBK prog) 140) 300 60 0 a0D w621_B0 (sT 140)=some (sT 141):=by kernel_rfl
theorem kr141_:stepQ prog (oRT prog 300 60 (oBK prog) 141) 300 60 0 a0D w621_B0 (sT 141)=some (sT 142):=by kernel_rfl
theorem kr142_:stepQ prog (oRT prog 300 60 (oBK prog) 142) 300 60 0 a0D w621_B0 (sT 142)=some (sT 143):=by kernel_rfl
theorem kr143_:stepQ prog (oRT prog 300 60 (oBK prog) 143) 300 60 0 a0D w621_B0 (sT 143)=some (sT 144):=by kernel_rfl
theorem kr144_:stepQ prog (oRT prog 300 60 (oBK prog) 144) 300 60 0 a0D w621_B0 (sT 144)=some (sT 145):=by kernel_rfl
theorem kr145_:stepQ prog (oRT prog 300 60 (oBK prog) 145) 300 60 0 a0D w621_B0 (sT 145)=some (sT 146):=by kernel_rfl
theorem kr146_:stepQ prog (oRT prog 300 60 (oBK prog) 146) 300 60 0 a0D w621_B0 (sT 146)=some (sT 147):=by kernel_rfl
theorem kr147_:stepQ prog (oRT prog 300 60 (oBK prog) 147) 300 60 0 a0D w621_B0 (sT 147)=some (sT 148):=by kernel_rfl
theorem kr148_:stepQ prog (oRT prog 300 60 (oBK prog) 148) 300 60 0 a0D w621_B0 (sT 148)=some (sT 149):=by kernel_rfl
theorem kr149_:stepQ prog (oRT prog 300 60 (oBK prog) 149) 300 60 0 a0D w621_B0 (sT 149)=some (sT 150):=by kernel_rfl
theorem kr150_:stepQ prog (oRT prog 300 60 (oBK prog) 150) 300 60 0 a0D w621_B0 (sT 150)=some (sT 151):=by kernel_rfl
theorem kr151_:stepQ prog (oRT prog 300 60 (oBK prog) 151) 300 60 0 a0D w621_B0 (sT 151)=some (sT 152):=by kernel_rfl
theorem kr152_:stepQ prog (oRT prog 300 60 (oBK prog) 152) 300 60 0 a0D w621_B0 (sT 152)=some (sT 153):=by kernel_rfl
theorem kr153_:stepQ prog (oRT prog 300 60 (oBK prog) 153) 300 60 0 a0D w621_B0 (sT 153)=some (sT 154):=by kernel_rfl
theorem kr154_:stepQ prog (oRT prog 300 60 (oBK prog) 154) 300 60 0 a0D w621_B0 (sT 154)=some (sT 155):=by kernel_rfl
theorem kr155_:stepQ prog (oRT prog 300 60 (oBK prog) 155) 300 60 0 a0D w621_B0 (sT 155)=some (sT 156):=by kernel_rfl
theorem kr156_:stepQ prog (oRT prog 300 60 (oBK prog) 156) 300 60 0 a0D w621_B0 (sT 156)=some (sT 157):=by kernel_rfl
theorem kr157_:stepQ prog (oRT prog 300 60 (oBK prog) 157) 300 60 0 a0D w621_B0 (sT 157)=some (sT 158):=by kernel_rfl
theorem kr158_:stepQ prog (oRT prog 300 60 (oBK prog) 158) 300 60 0 a0D w621_B0 (sT 158)=some (sT 159):=by kernel_rfl
theorem kr159_:stepQ prog (oRT prog 300 60 (oBK prog) 159) 300 60 0 a0D w621_B0 (sT 159)=some (sT 160):=by kernel_rfl
end Go.D
end
