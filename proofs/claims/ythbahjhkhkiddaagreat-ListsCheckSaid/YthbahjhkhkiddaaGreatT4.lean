/- Part of the theory that the claims of this work use: PwP. No conditions of its own. -/
import Derived.Test.YthbahjhkhkiddaaGreatT3
section
set_option linter.unusedSimpArgs false
set_option linter.unusedVariables false
set_option maxRecDepth 100000
namespace P
open Go Go.Pav Go.Pw

/- paternoster/paternosterlaw24.ListsCheck -/
def w116_c0 : WCode := (.seq (.seq (.ops [
 ⟨some 64, none, .fld 0 (.t 2)⟩,
 ⟨some 65, none, .load 1 false (.t 64)⟩,
 ⟨some 66, none, .len 1 (.t 65)⟩,
 ⟨some 67, none, .bin .gtr (.t 66) (.c (.int .i64 10))⟩,
 ⟨some 68, none, .mv (.t 67)⟩,
 ⟨some 69, (some (68, false)), .mv (.t 5)⟩,
 ⟨some 70, (some (68, false)), .bin .gtr (.t 69) (.c (.int .i64 80))⟩,
 ⟨some 71, none, .pick (.t 68) (.c (.bool true)) (.t 70)⟩,
 ⟨some 72, none, .mv (.t 71)⟩,
 ⟨some 73, (some (72, false)), .mv (.t 7)⟩,
 ⟨some 74, (some (72, false)), .call 234 [(.t 73)]⟩,
 ⟨some 75, (some (72, false)), .bin .eql (.t 74) (.c (.int .i64 0))⟩,
 ⟨some 76, none, .pick (.t 72) (.c (.bool true)) (.t 75)⟩] ⟨false, [], []⟩)
 (.cond (.t 76) (.seq (.ops [
 ⟨some 77, none, .call 119 []⟩,
 ⟨some 4, none, .mv (.t 77)⟩] ⟨false, [], []⟩)
 .ret)
 .skip))
 (.seq (.ops [
 ⟨some 78, none, .load 2 true (.t 2)⟩,
 ⟨some 79, none, .fld 0 (.t 3)⟩,
 ⟨some 80, none, .load 1 false (.t 79)⟩,
 ⟨some 81, none, .call 235 [(.t 78), (.t 80)]⟩,
 ⟨some 9, none, .mv (.t 81)⟩] ⟨false, [], []⟩)
 (.seq (.seq (.draw [
 ⟨some 82, none, .load 2 true (.t 2)⟩,
 ⟨some 83, none, .call 115 [(.t 82)]⟩,
 ⟨some 84, none, .load 2 true (.t 2)⟩,
 ⟨some 85, none, .call 236 [(.t 84)]⟩,
 ⟨some 86, none, .bin .neq (.t 83) (.t 85)⟩,
 ⟨some 87, none, .mv (.t 86)⟩,
 ⟨some 88, (some (87, false)), .load 2 true (.t 2)⟩,
 ⟨some 89, (some (87, false)), .load 1 true (.t 3)⟩,
 ⟨some 90, (some (87, false)), .call 223 [(.t 88), (.t 89)]⟩,
 ⟨some 91, (some (87, false)), .mv (.t 9)⟩,
 ⟨some 92, (some (87, false)), .bin .neq (.t 90) (.t 91)⟩,
 ⟨some 93, none, .pick (.t 87) (.c (.bool true)) (.t 92)⟩] [(1, 2)] ⟨true, [93, 9, 3, 2], []⟩)
 (.cond (.t 93) (.seq (.ops [
 ⟨some 4, none, .mv (.c (.bool false))⟩] ⟨false, [], []⟩)
 .ret)
 .skip))
 (.seq (.seq (.ops [
 ⟨some 94, none, .mv (.t 9)⟩,
 ⟨some 95, none, .bin .eql (.t 94) (.c (.int .i64 0))⟩] ⟨false, [], []⟩)
 (.cond (.t 95) (.seq (.ops [
 ⟨some 96, none, .call 119 []⟩,
 ⟨some 4, none, .mv (.t 96)⟩] ⟨false, [], []⟩)
 .ret)
 .skip))
 (.seq (.ops [
 ⟨some 98, none, .load 2 true (.t 2)⟩,
 ⟨some 99, none, .load 1 true (.t 3)⟩,
 ⟨some 100, none, .call 109 [(.t 98), (.t 99), (.c (.int .i64 0)), (.c (.ro 4 [] true))]⟩,
 ⟨some 97, none, .mv (.t 100)⟩,
 ⟨some 101, none, .ext 0 (.t 97)⟩,
 ⟨some 102, none, .ext 1 (.t 97)⟩,
 ⟨some 10, none, .alloc [(.ro 6 [] true)]⟩,
 ⟨none, none, .store 1 (.t 10) (.t 101)⟩,
 ⟨some 11, none, .mv (.t 102)⟩] ⟨false, [], []⟩)
 (.seq (.ops [
 ⟨some 104, none, .load 2 true (.t 2)⟩,
 ⟨some 105, none, .load 1 true (.t 3)⟩,
 ⟨some 106, none, .call 110 [(.t 104), (.t 105), (.c (.int .i64 0)), (.c (.int .i64 0))]⟩,
 ⟨some 103, none, .mv (.t 106)⟩,
 ⟨some 107, none, .ext 0 (.t 103)⟩,
 ⟨some 108, none, .ext 1 (.t 103)⟩,
 ⟨some 12, none, .alloc [(.ro 6 [] true)]⟩,
 ⟨none, none, .store 1 (.t 12) (.t 107)⟩,
 ⟨some 13, none, .mv (.t 108)⟩] ⟨true, [13, 12, 11, 10, 9, 3, 2], []⟩)
 (.seq (.ops [
 ⟨some 110, none, .load 2 true (.t 2)⟩,
 ⟨some 111, none, .load 1 true (.t 3)⟩,
 ⟨some 112, none, .call 237 [(.t 110), (.t 111), (.c (.int .i64 0)), (.c (.int .i64 0)), (.c (.int .i64 0))]⟩,
 ⟨some 109, none, .mv (.t 112)⟩,
 ⟨some 113, none, .ext 0 (.t 109)⟩,
 ⟨some 114, none, .ext 1 (.t 109)⟩,
 ⟨some 14, none, .alloc [(.ro 6 [] true)]⟩,
 ⟨none, none, .store 1 (.t 14) (.t 113)⟩,
 ⟨some 15, none, .mv (.t 114)⟩] ⟨false, [], []⟩)
 (.seq (.ops [
 ⟨some 116, none, .load 2 true (.t 2)⟩,
 ⟨some 117, none, .load 1 true (.t 3)⟩,
 ⟨some 118, none, .call 114 [(.t 116), (.t 117), (.c (.int .i64 0)), (.c (.ro 4 [] true))]⟩,
 ⟨some 115, none, .mv (.t 118)⟩,
 ⟨some 119, none, .ext 0 (.t 115)⟩,
 ⟨some 120, none, .ext 1 (.t 115)⟩,
 ⟨some 16, none, .alloc [(.ro 6 [] true)]⟩,
 ⟨none, none, .store 1 (.t 16) (.t 119)⟩,
 ⟨some 17, none, .mv (.t 120)⟩] ⟨false, [], []⟩)
 (.seq (.ops [
 ⟨some 122, none, .load 2 true (.t 2)⟩,
 ⟨some 123, none, .load 1 true (.t 3)⟩,
 ⟨some 124, none, .call 108 [(.t 122), (.t 123), (.c (.ro 4 [] true))]⟩,
 ⟨some 121, none, .mv (.t 124)⟩,
 ⟨some 125, none, .ext 0 (.t 121)⟩,
 ⟨some 126, none, .ext 1 (.t 121)⟩,
 ⟨some 18, none, .alloc [(.ro 6 [] true)]⟩,
 ⟨none, none, .store 1 (.t 18) (.t 125)⟩,
 ⟨some 19, none, .mv (.t 126)⟩] ⟨true, [19, 18, 17, 16, 15, 14, 13, 12, 11, 10, 9, 3, 2], []⟩)
 (.seq (.ops [
 ⟨some 128, none, .load 2 true (.t 2)⟩,
 ⟨some 129, none, .load 1 true (.t 3)⟩,
 ⟨some 130, none, .call 113 [(.t 128), (.t 129), (.c (.int .u64 1)), (.c (.int .i64 1))]⟩,
 ⟨some 127, none, .mv (.t 130)⟩,
 ⟨some 131, none, .ext 0 (.t 127)⟩,
 ⟨some 132, none, .ext 1 (.t 127)⟩,
 ⟨some 20, none, .alloc [(.ro 6 [] true)]⟩,
 ⟨none, none, .store 1 (.t 20) (.t 131)⟩,
 ⟨some 21, none, .mv (.t 132)⟩] ⟨false, [], []⟩)
 (.seq (.ops [
 ⟨some 134, none, .load 2 true (.t 2)⟩,
 ⟨some 135, none, .load 1 true (.t 3)⟩,
 ⟨some 136, none, .call 238 [(.t 134), (.t 135), (.c (.int .i64 0))]⟩,
 ⟨some 133, none, .mv (.t 136)⟩,
 ⟨some 137, none, .ext 0 (.t 133)⟩,
 ⟨some 138, none, .ext 1 (.t 133)⟩,
 ⟨some 22, none, .alloc [(.int .u8 0), (.str []), (.str []), (.ro 2 [] true), (.str []), (.ro 6 [] true)]⟩,
 ⟨none, none, .store 6 (.t 22) (.t 137)⟩,
 ⟨some 23, none, .mv (.t 138)⟩] ⟨false, [], []⟩)
 (.seq (.seq (.ops [
 ⟨some 139, none, .mv (.t 11)⟩,
 ⟨some 140, none, .mv (.t 9)⟩,
 ⟨some 141, none, .bin .neq (.t 139) (.t 140)⟩,
 ⟨some 142, none, .mv (.t 141)⟩,
 ⟨some 143, (some (142, false)), .mv (.t 13)⟩,
 ⟨some 144, (some (142, false)), .mv (.t 9)⟩,
 ⟨some 145, (some (142, false)), .bin .neq (.t 143) (.t 144)⟩,
 ⟨some 146, none, .pick (.t 142) (.c (.bool true)) (.t 145)⟩,
 ⟨some 147, none, .mv (.t 146)⟩,
 ⟨some 148, (some (147, false)), .mv (.t 15)⟩,
 ⟨some 149, (some (147, false)), .mv (.t 9)⟩,
 ⟨some 150, (some (147, false)), .bin .neq (.t 148) (.t 149)⟩,
 ⟨some 151, none, .pick (.t 147) (.c (.bool true)) (.t 150)⟩,
 ⟨some 152, none, .mv (.t 151)⟩,
 ⟨some 153, (some (152, false)), .mv (.t 17)⟩,
 ⟨some 154, (some (152, false)), .mv (.t 9)⟩,
 ⟨some 155, (some (152, false)), .bin .neq (.t 153) (.t 154)⟩,
 ⟨some 156, none, .pick (.t 152) (.c (.bool true)) (.t 155)⟩,
 ⟨some 157, none, .mv (.t 156)⟩,
 ⟨some 158, (some (157, false)), .mv (.t 19)⟩,
 ⟨some 159, (some (157, false)), .mv (.t 9)⟩,
 ⟨some 160, (some (157, false)), .bin .neq (.t 158) (.t 159)⟩,
 ⟨some 161, none, .pick (.t 157) (.c (.bool true)) (.t 160)⟩,
 ⟨some 162, none, .mv (.t 161)⟩,
 ⟨some 163, (some (162, false)), .mv (.t 21)⟩,
 ⟨some 164, (some (162, false)), .mv (.t 9)⟩,
 ⟨some 165, (some (162, false)), .bin .neq (.t 163) (.t 164)⟩,
 ⟨some 166, none, .pick (.t 162) (.c (.bool true)) (.t 165)⟩,
 ⟨some 167, none, .mv (.t 166)⟩,
 ⟨some 168, (some (167, false)), .mv (.t 23)⟩,
 ⟨some 169, (some (167, false)), .mv (.t 9)⟩,
 ⟨some 170, (some (167, false)), .bin .neq (.t 168) (.t 169)⟩,
 ⟨some 171, none, .pick (.t 167) (.c (.bool true)) (.t 170)⟩] ⟨true, [171, 22, 20, 18, 16, 14, 12, 10], []⟩)
 (.cond (.t 171) (.seq (.ops [
 ⟨some 4, none, .mv (.c (.bool false))⟩] ⟨false, [], []⟩)
 .ret)
 .skip))
 (.seq (.ops [
 ⟨some 172, none, .fld 0 (.t 10)⟩,
 ⟨some 173, none, .load 1 false (.t 172)⟩,
 ⟨some 174, none, .len 1 (.t 173)⟩,
 ⟨some 175, none, .fld 0 (.t 12)⟩,
 ⟨some 176, none, .load 1 false (.t 175)⟩,
 ⟨some 177, none, .len 1 (.t 176)⟩,
 ⟨some 178, none, .bin .add (.t 174) (.t 177)⟩,
 ⟨some 179, none, .fld 0 (.t 14)⟩,
 ⟨some 180, none, .load 1 false (.t 179)⟩,
 ⟨some 181, none, .len 1 (.t 180)⟩,
 ⟨some 182, none, .bin .add (.t 178) (.t 181)⟩,
 ⟨some 183, none, .fld 0 (.t 16)⟩,
 ⟨some 184, none, .load 1 false (.t 183)⟩,
 ⟨some 185, none, .len 1 (.t 184)⟩,
 ⟨some 186, none, .bin .add (.t 182) (.t 185)⟩,
 ⟨some 187, none, .fld 0 (.t 18)⟩,
 ⟨some 188, none, .load 1 false (.t 187)⟩,
 ⟨some 189, none, .len 1 (.t 188)⟩,
 ⟨some 190, none, .bin .add (.t 186) (.t 189)⟩,
 ⟨some 191, none, .fld 0 (.t 20)⟩,
 ⟨some 192, none, .load 1 false (.t 191)⟩,
 ⟨some 193, none, .len 1 (.t 192)⟩,
 ⟨some 194, none, .bin .add (.t 190) (.t 193)⟩,
 ⟨some 195, none, .fld 0 (.t 22)⟩,
 ⟨some 196, none, .load 1 false (.t 195)⟩,
 ⟨some 197, none, .cvt .i64 (.t 196)⟩,
 ⟨some 198, none, .bin .add (.t 194) (.t 197)⟩,
 ⟨some 199, none, .bin .eql (.t 198) (.c (.int .i64 0))⟩,
 ⟨some 200, none, .mv (.t 199)⟩,
 ⟨some 201, (some (200, true)), .call 119 []⟩,
 ⟨some 202, none, .pick (.t 200) (.t 201) (.c (.bool false))⟩,
 ⟨some 4, none, .mv (.t 202)⟩] ⟨true, [4], []⟩)
 .ret)))))))))))))

def w116_B0 : WCode := (.seq (.seq (.ops [
 ⟨some 44, none, .mv (.t 8)⟩,
 ⟨some 45, none, .fld 0 (.t 3)⟩,
 ⟨some 46, none, .load 1 false (.t 45)⟩,
 ⟨some 47, none, .len 1 (.t 46)⟩,
 ⟨some 48, none, .bin .lss (.t 44) (.t 47)⟩,
 ⟨some 49, none, .mv (.t 48)⟩,
 ⟨some 50, (some (49, true)), .mv (.t 8)⟩,
 ⟨some 51, (some (49, true)), .bin .lss (.t 50) (.c (.int .i64 21))⟩,
 ⟨some 52, none, .pick (.t 49) (.t 51) (.c (.bool false))⟩] ⟨false, [], []⟩)
 (.cond (.t 52) .skip
 (.exit 2)))
 (.seq (.block 3 (.ops [
 ⟨some 55, none, .mv (.t 7)⟩,
 ⟨some 56, none, .fld 0 (.t 3)⟩,
 ⟨some 57, none, .load 1 false (.t 56)⟩,
 ⟨some 58, none, .mv (.t 8)⟩,
 ⟨some 59, none, .idxs 6 (.t 57) (.t 58)⟩,
 ⟨some 60, none, .fld 0 (.t 59)⟩,
 ⟨some 61, none, .load 4 true (.t 60)⟩,
 ⟨some 62, none, .buildS [(.int .u64 0), (.int .u8 0), (.str []), (.ro 1 [] true)] 1 [(0, (.t 61))]⟩,
 ⟨some 63, none, .app [(.int .u64 0), (.int .u8 0), (.str []), (.ro 1 [] true)] 56 false (.t 55) (.t 62)⟩,
 ⟨some 7, none, .mv (.t 63)⟩] ⟨true, [8, 7, 5, 3, 2], []⟩) ⟨false, [], []⟩)
 (.ops [
 ⟨some 53, none, .mv (.t 8)⟩,
 ⟨some 54, none, .bin .add (.t 53) (.c (.int .i64 1))⟩,
 ⟨some 8, none, .mv (.t 54)⟩] ⟨false, [], []⟩)))
def w116_L0 : WCode := .loop ⟨true, [8, 7, 5, 3, 2], []⟩ w116_B0
def w116_c1 : WCode := (.seq (.ops [
 ⟨some 7, none, .mv (.c (.ro 4 [] true))⟩] ⟨true, [7, 5, 3, 2], [(7, 4)]⟩)
 (.seq (.seq (.ops [
 ⟨some 8, none, .mv (.c (.int .i64 0))⟩] ⟨false, [], []⟩)
 (.block 2 w116_L0 ⟨true, [7, 5, 3, 2], [(7, 65536)]⟩))
 w116_c0))

def w116_B1 : WCode := (.seq (.seq (.ops [
 ⟨some 24, none, .mv (.t 6)⟩,
 ⟨some 25, none, .fld 0 (.t 2)⟩,
 ⟨some 26, none, .load 1 false (.t 25)⟩,
 ⟨some 27, none, .len 1 (.t 26)⟩,
 ⟨some 28, none, .bin .lss (.t 24) (.t 27)⟩,
 ⟨some 29, none, .mv (.t 28)⟩,
 ⟨some 30, (some (29, true)), .mv (.t 6)⟩,
 ⟨some 31, (some (29, true)), .bin .lss (.t 30) (.c (.int .i64 11))⟩,
 ⟨some 32, none, .pick (.t 29) (.t 31) (.c (.bool false))⟩] ⟨false, [], []⟩)
 (.cond (.t 32) .skip
 (.exit 0)))
 (.seq (.block 1 (.ops [
 ⟨some 35, none, .mv (.t 5)⟩,
 ⟨some 36, none, .fld 0 (.t 2)⟩,
 ⟨some 37, none, .load 1 false (.t 36)⟩,
 ⟨some 38, none, .mv (.t 6)⟩,
 ⟨some 39, none, .idxs 9 (.t 37) (.t 38)⟩,
 ⟨some 40, none, .fld 0 (.t 39)⟩,
 ⟨some 41, none, .load 6 true (.t 40)⟩,
 ⟨some 42, none, .call 233 [(.t 41), (.c (.int .i64 80))]⟩,
 ⟨some 43, none, .bin .add (.t 35) (.t 42)⟩,
 ⟨some 5, none, .mv (.t 43)⟩] ⟨true, [6, 5, 3, 2], []⟩) ⟨false, [], []⟩)
 (.ops [
 ⟨some 33, none, .mv (.t 6)⟩,
 ⟨some 34, none, .bin .add (.t 33) (.c (.int .i64 1))⟩,
 ⟨some 6, none, .mv (.t 34)⟩] ⟨false, [], []⟩)))
def w116_L1 : WCode := .loop ⟨true, [6, 5, 3, 2], []⟩ w116_B1
def w116 : WFn := ⟨2, [.tmp 4],
 (.seq (.ops [
 ⟨some 2, none, .box (.t 0)⟩,
 ⟨some 3, none, .box (.t 1)⟩,
 ⟨some 4, none, .mv (.c (.bool false))⟩] ⟨false, [], []⟩)
 (.seq (.ops [
 ⟨some 5, none, .mv (.c (.int .i64 0))⟩] ⟨false, [], []⟩)
 (.seq (.seq (.ops [
 ⟨some 6, none, .mv (.c (.int .i64 0))⟩] ⟨false, [], []⟩)
 (.block 0 w116_L1 ⟨true, [5, 3, 2], []⟩))
 w116_c1)))⟩

@[simp] theorem w116_E0 {β : Type} {C : WProg} {b : Nat} {f : Ex × WSt → Option β} {k : List Pw.Frame} {s : WSt} : CK C b f k w116_L0 s = LK C b f (.sq w116_L0 :: k) w116_B0 (canon b ⟨true, [8, 7, 5, 3, 2], []⟩ s) := ck_lp rfl
noncomputable abbrev w116_K0 (C : WProg) (s : WSt) : Option AV := CK C 0 (pureFin [.tmp 4]) [.sq w116_L0, .bk 2 ⟨true, [7, 5, 3, 2], [(7, 65536)]⟩, .sq w116_c0] w116_B0 s

@[simp] theorem w116_E1 {β : Type} {C : WProg} {b : Nat} {f : Ex × WSt → Option β} {k : List Pw.Frame} {s : WSt} : CK C b f k w116_L1 s = LK C b f (.sq w116_L1 :: k) w116_B1 (canon b ⟨true, [6, 5, 3, 2], []⟩ s) := ck_lp rfl
noncomputable abbrev w116_K1 (C : WProg) (s : WSt) : Option AV := CK C 0 (pureFin [.tmp 4]) [.sq w116_L1, .bk 0 ⟨true, [5, 3, 2], []⟩, .sq w116_c1] w116_B1 s

/- paternoster/paternosterlaw24.few -/
def w234_c0 : WCode := (.seq (.ops [
 ⟨some 2, none, .mv (.c (.int .i64 1))⟩] ⟨false, [], []⟩)
 .ret)

def w234_c1 : WCode := (.ops [
 ⟨some 12, none, .mv (.t 3)⟩,
 ⟨some 13, none, .bin .add (.t 12) (.c (.int .i64 1))⟩,
 ⟨some 3, none, .mv (.t 13)⟩] ⟨false, [], []⟩)

def w234_B1 : WCode := (.seq (.seq (.ops [
 ⟨some 30, none, .mv (.t 4)⟩,
 ⟨some 31, none, .mv (.t 0)⟩,
 ⟨some 32, none, .mv (.t 3)⟩,
 ⟨some 33, none, .idxs 4 (.t 31) (.t 32)⟩,
 ⟨some 34, none, .fld 3 (.t 33)⟩,
 ⟨some 35, none, .load 1 false (.t 34)⟩,
 ⟨some 36, none, .len 1 (.t 35)⟩,
 ⟨some 37, none, .bin .lss (.t 30) (.t 36)⟩] ⟨true, [37, 4, 3, 0], []⟩)
 (.cond (.t 37) .skip
 (.exit 2)))
 (.seq (.block 3 (.seq (.ops [
 ⟨some 40, none, .mv (.t 0)⟩,
 ⟨some 41, none, .mv (.t 3)⟩,
 ⟨some 42, none, .idxs 4 (.t 40) (.t 41)⟩,
 ⟨some 43, none, .fld 3 (.t 42)⟩,
 ⟨some 44, none, .load 1 false (.t 43)⟩,
 ⟨some 45, none, .mv (.t 4)⟩,
 ⟨some 46, none, .idxs 1 (.t 44) (.t 45)⟩,
 ⟨some 47, none, .load 1 false (.t 46)⟩,
 ⟨some 48, none, .len 0 (.t 47)⟩,
 ⟨some 49, none, .bin .gtr (.t 48) (.c (.int .i64 20))⟩] ⟨false, [], []⟩)
 (.cond (.t 49) (.seq (.ops [
 ⟨some 2, none, .mv (.c (.int .i64 0))⟩] ⟨false, [], []⟩)
 .ret)
 .skip)) ⟨false, [], []⟩)
 (.ops [
 ⟨some 38, none, .mv (.t 4)⟩,
 ⟨some 39, none, .bin .add (.t 38) (.c (.int .i64 1))⟩,
 ⟨some 4, none, .mv (.t 39)⟩] ⟨false, [], []⟩)))
def w234_L1 : WCode := .loop ⟨true, [4, 3, 0], []⟩ w234_B1
def w234_B0 : WCode := (.seq (.seq (.ops [
 ⟨some 8, none, .mv (.t 3)⟩,
 ⟨some 9, none, .mv (.t 0)⟩,
 ⟨some 10, none, .len 1 (.t 9)⟩,
 ⟨some 11, none, .bin .lss (.t 8) (.t 10)⟩] ⟨false, [], []⟩)
 (.cond (.t 11) .skip
 (.exit 0)))
 (.seq (.block 1 (.seq (.seq (.ops [
 ⟨some 14, none, .mv (.t 0)⟩,
 ⟨some 15, none, .mv (.t 3)⟩,
 ⟨some 16, none, .idxs 4 (.t 14) (.t 15)⟩,
 ⟨some 17, none, .fld 2 (.t 16)⟩,
 ⟨some 18, none, .load 1 false (.t 17)⟩,
 ⟨some 19, none, .len 0 (.t 18)⟩,
 ⟨some 20, none, .bin .gtr (.t 19) (.c (.int .i64 70))⟩,
 ⟨some 21, none, .mv (.t 20)⟩,
 ⟨some 22, (some (21, false)), .mv (.t 0)⟩,
 ⟨some 23, (some (21, false)), .mv (.t 3)⟩,
 ⟨some 24, (some (21, false)), .idxs 4 (.t 22) (.t 23)⟩,
 ⟨some 25, (some (21, false)), .fld 3 (.t 24)⟩,
 ⟨some 26, (some (21, false)), .load 1 false (.t 25)⟩,
 ⟨some 27, (some (21, false)), .len 1 (.t 26)⟩,
 ⟨some 28, (some (21, false)), .bin .gtr (.t 27) (.c (.int .i64 12))⟩,
 ⟨some 29, none, .pick (.t 21) (.c (.bool true)) (.t 28)⟩] ⟨false, [], []⟩)
 (.cond (.t 29) (.seq (.ops [
 ⟨some 2, none, .mv (.c (.int .i64 0))⟩] ⟨false, [], []⟩)
 .ret)
 .skip))
 (.seq (.ops [
 ⟨some 4, none, .mv (.c (.int .i64 0))⟩] ⟨false, [], []⟩)
 (.block 2 w234_L1 ⟨true, [3, 0], []⟩))) ⟨true, [3, 0], []⟩)
 w234_c1))
def w234_L0 : WCode := .loop ⟨true, [3, 0], []⟩ w234_B0
def w234 : WFn := ⟨1, [.tmp 2],
 (.seq (.ops [
 ⟨some 2, none, .mv (.c (.int .i64 0))⟩] ⟨false, [], []⟩)
 (.seq (.seq (.ops [
 ⟨some 5, none, .mv (.t 0)⟩,
 ⟨some 6, none, .len 1 (.t 5)⟩,
 ⟨some 7, none, .bin .gtr (.t 6) (.c (.int .i64 20))⟩] ⟨false, [], []⟩)
 (.cond (.t 7) (.seq (.ops [
 ⟨some 2, none, .mv (.c (.int .i64 0))⟩] ⟨true, [2], []⟩)
 .ret)
 .skip))
 (.seq (.seq (.ops [
 ⟨some 3, none, .mv (.c (.int .i64 0))⟩] ⟨false, [], []⟩)
 (.block 0 w234_L0 ⟨true, [], []⟩))
 w234_c0)))⟩

@[simp] theorem w234_E1 {β : Type} {C : WProg} {b : Nat} {f : Ex × WSt → Option β} {k : List Pw.Frame} {s : WSt} : CK C b f k w234_L1 s = LK C b f (.sq w234_L1 :: k) w234_B1 (canon b ⟨true, [4, 3, 0], []⟩ s) := ck_lp rfl
noncomputable abbrev w234_K1 (C : WProg) (s : WSt) : Option AV := CK C 0 (pureFin [.tmp 2]) [.sq w234_L1, .bk 2 ⟨true, [3, 0], []⟩, .bk 1 ⟨true, [3, 0], []⟩, .sq w234_c1, .sq w234_L0, .bk 0 ⟨true, [], []⟩, .sq w234_c0] w234_B1 s

@[simp] theorem w234_E0 {β : Type} {C : WProg} {b : Nat} {f : Ex × WSt → Option β} {k : List Pw.Frame} {s : WSt} : CK C b f k w234_L0 s = LK C b f (.sq w234_L0 :: k) w234_B0 (canon b ⟨true, [3, 0], []⟩ s) := ck_lp rfl
noncomputable abbrev w234_K0 (C : WProg) (s : WSt) : Option AV := CK C 0 (pureFin [.tmp 2]) [.sq w234_L0, .bk 0 ⟨true, [], []⟩, .sq w234_c0] w234_B0 s

/- paternoster/paternosterlaw24.lives -/
def w119 : WFn := ⟨0, [.tmp 0],
 (.seq (.ops [
 ⟨some 0, none, .mv (.c (.bool false))⟩] ⟨false, [], []⟩)
 (.seq (.ops [
 ⟨some 21, none, .call 107 []⟩,
 ⟨some 1, none, .alloc [(.ro 9 [] true), (.int .i64 0)]⟩,
 ⟨none, none, .store 2 (.t 1) (.t 21)⟩] ⟨false, [], []⟩)
 (.seq (.draw [
 ⟨some 23, none, .load 2 true (.t 1)⟩,
 ⟨some 24, none, .build [(.ro 6 [] true)] []⟩,
 ⟨some 25, none, .call 244 []⟩,
 ⟨some 26, none, .call 109 [(.t 23), (.t 24), (.c (.int .i64 0)), (.t 25)]⟩,
 ⟨some 22, none, .mv (.t 26)⟩,
 ⟨some 27, none, .ext 0 (.t 22)⟩,
 ⟨some 28, none, .ext 1 (.t 22)⟩,
 ⟨some 2, none, .alloc [(.ro 6 [] true)]⟩,
 ⟨none, none, .store 1 (.t 2) (.t 27)⟩,
 ⟨some 3, none, .mv (.t 28)⟩] [(0, 2), (0, 7), (2, 7), (3, 7)] ⟨true, [3, 2, 1], []⟩)
 (.seq (.ops [
 ⟨some 30, none, .load 2 true (.t 1)⟩,
 ⟨some 31, none, .load 1 true (.t 2)⟩,
 ⟨some 32, none, .call 113 [(.t 30), (.t 31), (.c (.int .u64 2)), (.c (.int .i64 25))]⟩,
 ⟨some 29, none, .mv (.t 32)⟩,
 ⟨some 33, none, .ext 0 (.t 29)⟩,
 ⟨some 34, none, .ext 1 (.t 29)⟩,
 ⟨some 4, none, .alloc [(.ro 6 [] true)]⟩,
 ⟨none, none, .store 1 (.t 4) (.t 33)⟩,
 ⟨some 5, none, .mv (.t 34)⟩] ⟨false, [], []⟩)
 (.seq (.draw [
 ⟨some 36, none, .load 2 true (.t 1)⟩,
 ⟨some 37, none, .load 1 true (.t 4)⟩,
 ⟨some 38, none, .call 244 []⟩,
 ⟨some 39, none, .slice 4 (.t 38) (some (.c (.int .i64 1))) (some (.c (.int .i64 2))) none⟩,
 ⟨some 40, none, .call 114 [(.t 36), (.t 37), (.c (.int .i64 1)), (.t 39)]⟩,
 ⟨some 35, none, .mv (.t 40)⟩,
 ⟨some 41, none, .ext 0 (.t 35)⟩,
 ⟨some 42, none, .ext 1 (.t 35)⟩,
 ⟨some 6, none, .alloc [(.ro 6 [] true)]⟩,
 ⟨none, none, .store 1 (.t 6) (.t 41)⟩,
 ⟨some 7, none, .mv (.t 42)⟩] [(0, 2), (1, 2), (0, 8), (1, 8), (2, 8), (4, 8)] ⟨false, [], []⟩)
 (.seq (.seq (.draw [
 ⟨some 43, none, .mv (.t 3)⟩,
 ⟨some 44, none, .bin .neq (.t 43) (.c (.int .i64 0))⟩,
 ⟨some 45, none, .mv (.t 44)⟩,
 ⟨some 46, (some (45, false)), .mv (.t 5)⟩,
 ⟨some 47, (some (45, false)), .bin .neq (.t 46) (.c (.int .i64 0))⟩,
 ⟨some 48, none, .pick (.t 45) (.c (.bool true)) (.t 47)⟩,
 ⟨some 49, none, .mv (.t 48)⟩,
 ⟨some 50, (some (49, false)), .mv (.t 7)⟩,
 ⟨some 51, (some (49, false)), .bin .neq (.t 50) (.c (.int .i64 0))⟩,
 ⟨some 52, none, .pick (.t 49) (.c (.bool true)) (.t 51)⟩,
 ⟨some 53, none, .mv (.t 52)⟩,
 ⟨some 54, (some (53, false)), .load 1 true (.t 2)⟩,
 ⟨some 55, (some (53, false)), .buildS [(.int .u64 0)] 3 [(0, (.c (.int .u64 1))), (1, (.c (.int .u64 2))), (2, (.c (.int .u64 3)))]⟩,
 ⟨some 56, (some (53, false)), .call 245 [(.t 54), (.t 55)]⟩,
 ⟨some 57, (some (53, false)), .load 1 true (.t 6)⟩,
 ⟨some 58, (some (53, false)), .buildS [(.int .u64 0)] 3 [(0, (.c (.int .u64 1))), (1, (.c (.int .u64 2))), (2, (.c (.int .u64 3)))]⟩,
 ⟨some 59, (some (53, false)), .call 245 [(.t 57), (.t 58)]⟩,
 ⟨some 60, (some (53, false)), .bin .mul (.t 56) (.t 59)⟩,
 ⟨some 61, (some (53, false)), .bin .eql (.t 60) (.c (.int .i64 0))⟩,
 ⟨some 62, none, .pick (.t 53) (.c (.bool true)) (.t 61)⟩,
 ⟨some 63, none, .mv (.t 62)⟩,
 ⟨some 64, (some (63, false)), .load 1 true (.t 2)⟩,
 ⟨some 65, (some (63, false)), .call 111 [(.t 64)]⟩,
 ⟨some 66, (some (63, false)), .bin .neq (.t 65) (.c (.int .i64 40))⟩,
 ⟨some 67, none, .pick (.t 63) (.c (.bool true)) (.t 66)⟩,
 ⟨some 68, none, .mv (.t 67)⟩,
 ⟨some 69, (some (68, false)), .load 1 true (.t 4)⟩,
 ⟨some 70, (some (68, false)), .call 111 [(.t 69)]⟩,
 ⟨some 71, (some (68, false)), .bin .neq (.t 70) (.c (.int .i64 45))⟩,
 ⟨some 72, none, .pick (.t 68) (.c (.bool true)) (.t 71)⟩,
 ⟨some 73, none, .mv (.t 72)⟩,
 ⟨some 74, (some (73, false)), .fld 0 (.t 6)⟩,
 ⟨some 75, (some (73, false)), .load 1 false (.t 74)⟩,
 ⟨some 76, (some (73, false)), .idxs 6 (.t 75) (.c (.int .i64 1))⟩,
 ⟨some 77, (some (73, false)), .fld 4 (.t 76)⟩,
 ⟨some 78, (some (73, false)), .load 1 false (.t 77)⟩,
 ⟨some 79, (some (73, false)), .bin .neq (.t 78) (.c (.int .i64 20))⟩,
 ⟨some 80, none, .pick (.t 73) (.c (.bool true)) (.t 79)⟩,
 ⟨some 81, none, .mv (.t 80)⟩,
 ⟨some 82, (some (81, false)), .fld 0 (.t 6)⟩,
 ⟨some 83, (some (81, false)), .load 1 false (.t 82)⟩,
 ⟨some 84, (some (81, false)), .idxs 6 (.t 83) (.c (.int .i64 1))⟩,
 ⟨some 85, (some (81, false)), .fld 5 (.t 84)⟩,
 ⟨some 86, (some (81, false)), .load 1 false (.t 85)⟩,
 ⟨some 87, none, .pick (.t 81) (.c (.bool true)) (.t 86)⟩,
 ⟨some 88, none, .mv (.t 87)⟩,
 ⟨some 89, (some (88, false)), .fld 0 (.t 4)⟩,
 ⟨some 90, (some (88, false)), .load 1 false (.t 89)⟩,
 ⟨some 91, (some (88, false)), .idxs 6 (.t 90) (.c (.int .i64 1))⟩,
 ⟨some 92, (some (88, false)), .fld 5 (.t 91)⟩,
 ⟨some 93, (some (88, false)), .load 1 false (.t 92)⟩,
 ⟨some 94, (some (88, false)), .un .not (.t 93)⟩,
 ⟨some 95, none, .pick (.t 88) (.c (.bool true)) (.t 94)⟩] [(11, 12), (12, 14), (13, 14), (11, 15), (12, 15), (13, 15), (14, 15)] ⟨true, [95, 2, 1], []⟩)
 (.cond (.t 95) (.seq (.ops [
 ⟨some 0, none, .mv (.c (.bool false))⟩] ⟨false, [], []⟩)
 .ret)
 .skip))
 (.seq (.ops [
 ⟨some 97, none, .load 2 true (.t 1)⟩,
 ⟨some 98, none, .load 1 true (.t 2)⟩,
 ⟨some 99, none, .call 237 [(.t 97), (.t 98), (.c (.int .i64 0)), (.c (.int .i64 2)), (.c (.int .i64 1))]⟩,
 ⟨some 96, none, .mv (.t 99)⟩,
 ⟨some 100, none, .ext 0 (.t 96)⟩,
 ⟨some 101, none, .ext 1 (.t 96)⟩,
 ⟨some 8, none, .alloc [(.ro 6 [] true)]⟩,
 ⟨none, none, .store 1 (.t 8) (.t 100)⟩,
 ⟨some 3, none, .mv (.t 101)⟩] ⟨true, [8, 3, 2, 1], []⟩)
 (.seq (.ops [
 ⟨some 103, none, .load 2 true (.t 1)⟩,
 ⟨some 104, none, .load 1 true (.t 2)⟩,
 ⟨some 105, none, .call 237 [(.t 103), (.t 104), (.c (.int .i64 1)), (.c (.int .i64 1)), (.c (.int .i64 0))]⟩,
 ⟨some 102, none, .mv (.t 105)⟩,
 ⟨some 106, none, .ext 0 (.t 102)⟩,
 ⟨some 107, none, .ext 1 (.t 102)⟩,
 ⟨some 9, none, .alloc [(.ro 6 [] true)]⟩,
 ⟨none, none, .store 1 (.t 9) (.t 106)⟩,
 ⟨some 5, none, .mv (.t 107)⟩] ⟨false, [], []⟩)
 (.seq (.ops [
 ⟨some 109, none, .load 2 true (.t 1)⟩,
 ⟨some 110, none, .load 1 true (.t 2)⟩,
 ⟨some 111, none, .build [(.int .u64 0), (.int .u8 0), (.str []), (.ro 1 [] true)] [(0, 1, (.c (.int .u64 3)))]⟩,
 ⟨some 112, none, .build [(.int .u64 0), (.int .u8 0), (.str []), (.ro 1 [] true)] [(0, 1, (.c (.int .u64 1)))]⟩,
 ⟨some 113, none, .buildS [(.int .u64 0), (.int .u8 0), (.str []), (.ro 1 [] true)] 2 [(0, (.t 111)), (1, (.t 112))]⟩,
 ⟨some 114, none, .call 108 [(.t 109), (.t 110), (.t 113)]⟩,
 ⟨some 108, none, .mv (.t 114)⟩,
 ⟨some 115, none, .ext 0 (.t 108)⟩,
 ⟨some 116, none, .ext 1 (.t 108)⟩,
 ⟨some 10, none, .alloc [(.ro 6 [] true)]⟩,
 ⟨none, none, .store 1 (.t 10) (.t 115)⟩,
 ⟨some 7, none, .mv (.t 116)⟩] ⟨false, [], []⟩)
 (.seq (.seq (.draw [
 ⟨some 117, none, .mv (.t 3)⟩,
 ⟨some 118, none, .bin .neq (.t 117) (.c (.int .i64 0))⟩,
 ⟨some 119, none, .mv (.t 118)⟩,
 ⟨some 120, (some (119, false)), .mv (.t 5)⟩,
 ⟨some 121, (some (119, false)), .bin .neq (.t 120) (.c (.int .i64 0))⟩,
 ⟨some 122, none, .pick (.t 119) (.c (.bool true)) (.t 121)⟩,
 ⟨some 123, none, .mv (.t 122)⟩,
 ⟨some 124, (some (123, false)), .mv (.t 7)⟩,
 ⟨some 125, (some (123, false)), .bin .neq (.t 124) (.c (.int .i64 0))⟩,
 ⟨some 126, none, .pick (.t 123) (.c (.bool true)) (.t 125)⟩,
 ⟨some 127, none, .mv (.t 126)⟩,
 ⟨some 128, (some (127, false)), .load 1 true (.t 8)⟩,
 ⟨some 129, (some (127, false)), .buildS [(.int .u64 0)] 3 [(0, (.c (.int .u64 3))), (1, (.c (.int .u64 1))), (2, (.c (.int .u64 2)))]⟩,
 ⟨some 130, (some (127, false)), .call 245 [(.t 128), (.t 129)]⟩,
 ⟨some 131, (some (127, false)), .load 1 true (.t 9)⟩,
 ⟨some 132, (some (127, false)), .buildS [(.int .u64 0)] 3 [(0, (.c (.int .u64 2))), (1, (.c (.int .u64 1))), (2, (.c (.int .u64 3)))]⟩,
 ⟨some 133, (some (127, false)), .call 245 [(.t 131), (.t 132)]⟩,
 ⟨some 134, (some (127, false)), .bin .mul (.t 130) (.t 133)⟩,
 ⟨some 135, (some (127, false)), .load 1 true (.t 10)⟩,
 ⟨some 136, (some (127, false)), .buildS [(.int .u64 0)] 2 [(0, (.c (.int .u64 3))), (1, (.c (.int .u64 1)))]⟩,
 ⟨some 137, (some (127, false)), .call 245 [(.t 135), (.t 136)]⟩,
 ⟨some 138, (some (127, false)), .bin .mul (.t 134) (.t 137)⟩,
 ⟨some 139, (some (127, false)), .bin .eql (.t 138) (.c (.int .i64 0))⟩,
 ⟨some 140, none, .pick (.t 127) (.c (.bool true)) (.t 139)⟩] [(11, 12), (12, 14), (13, 14), (11, 15), (12, 15), (13, 15), (14, 15), (12, 18), (13, 18), (15, 18), (16, 18), (11, 19), (12, 19), (13, 19), (14, 19), (15, 19), (16, 19), (18, 19)] ⟨true, [140, 2, 1], []⟩)
 (.cond (.t 140) (.seq (.ops [
 ⟨some 0, none, .mv (.c (.bool false))⟩] ⟨false, [], []⟩)
 .ret)
 .skip))
 (.seq (.ops [
 ⟨some 142, none, .load 2 true (.t 1)⟩,
 ⟨some 143, none, .load 1 true (.t 2)⟩,
 ⟨some 144, none, .call 109 [(.t 142), (.t 143), (.c (.int .i64 4)), (.c (.ro 4 [] true))]⟩,
 ⟨some 141, none, .mv (.t 144)⟩,
 ⟨some 145, none, .ext 0 (.t 141)⟩,
 ⟨some 146, none, .ext 1 (.t 141)⟩,
 ⟨some 3, none, .mv (.t 146)⟩] ⟨false, [], []⟩)
 (.seq (.draw [
 ⟨some 148, none, .load 2 true (.t 1)⟩,
 ⟨some 149, none, .load 1 true (.t 2)⟩,
 ⟨some 150, none, .call 244 []⟩,
 ⟨some 151, none, .slice 4 (.t 150) (some (.c (.int .i64 1))) (some (.c (.int .i64 2))) none⟩,
 ⟨some 152, none, .call 109 [(.t 148), (.t 149), (.c (.int .i64 0)), (.t 151)]⟩,
 ⟨some 147, none, .mv (.t 152)⟩,
 ⟨some 153, none, .ext 0 (.t 147)⟩,
 ⟨some 154, none, .ext 1 (.t 147)⟩,
 ⟨some 5, none, .mv (.t 154)⟩] [(0, 2), (1, 2)] ⟨false, [], []⟩)
 (.seq (.ops [
 ⟨some 156, none, .load 2 true (.t 1)⟩,
 ⟨some 157, none, .load 1 true (.t 2)⟩,
 ⟨some 158, none, .call 110 [(.t 156), (.t 157), (.c (.int .i64 2)), (.c (.int .i64 2))]⟩,
 ⟨some 155, none, .mv (.t 158)⟩,
 ⟨some 159, none, .ext 0 (.t 155)⟩,
 ⟨some 160, none, .ext 1 (.t 155)⟩,
 ⟨some 7, none, .mv (.t 160)⟩] ⟨true, [7, 5, 3, 2, 1], []⟩)
 (.seq (.draw [
 ⟨some 162, none, .load 2 true (.t 1)⟩,
 ⟨some 163, none, .load 1 true (.t 2)⟩,
 ⟨some 164, none, .call 244 []⟩,
 ⟨some 165, none, .slice 4 (.t 164) (some (.c (.int .i64 1))) (some (.c (.int .i64 2))) none⟩,
 ⟨some 166, none, .call 114 [(.t 162), (.t 163), (.c (.int .i64 0)), (.t 165)]⟩,
 ⟨some 161, none, .mv (.t 166)⟩,
 ⟨some 167, none, .ext 0 (.t 161)⟩,
 ⟨some 168, none, .ext 1 (.t 161)⟩,
 ⟨some 11, none, .alloc [(.ro 6 [] true)]⟩,
 ⟨none, none, .store 1 (.t 11) (.t 167)⟩,
 ⟨some 12, none, .mv (.t 168)⟩] [(0, 2), (1, 2), (0, 8), (1, 8), (2, 8), (4, 8)] ⟨false, [], []⟩)
 (.seq (.ops [
 ⟨some 170, none, .load 2 true (.t 1)⟩,
 ⟨some 171, none, .load 1 true (.t 2)⟩,
 ⟨some 172, none, .call 113 [(.t 170), (.t 171), (.c (.int .u64 9)), (.c (.int .i64 1))]⟩,
 ⟨some 169, none, .mv (.t 172)⟩,
 ⟨some 173, none, .ext 0 (.t 169)⟩,
 ⟨some 174, none, .ext 1 (.t 169)⟩,
 ⟨some 13, none, .alloc [(.ro 6 [] true)]⟩,
 ⟨none, none, .store 1 (.t 13) (.t 173)⟩,
 ⟨some 14, none, .mv (.t 174)⟩] ⟨false, [], []⟩)
 (.seq (.ops [
 ⟨some 176, none, .load 2 true (.t 1)⟩,
 ⟨some 177, none, .load 1 true (.t 2)⟩,
 ⟨some 178, none, .call 113 [(.t 176), (.t 177), (.c (.int .u64 1)), (.c (.int .i64 0))]⟩,
 ⟨some 175, none, .mv (.t 178)⟩,
 ⟨some 179, none, .ext 0 (.t 175)⟩,
 ⟨some 180, none, .ext 1 (.t 175)⟩,
 ⟨some 15, none, .alloc [(.ro 6 [] true)]⟩,
 ⟨none, none, .store 1 (.t 15) (.t 179)⟩,
 ⟨some 16, none, .mv (.t 180)⟩] ⟨true, [16, 14, 12, 7, 5, 3, 2, 1], []⟩)
 (.seq (.ops [
 ⟨some 182, none, .load 2 true (.t 1)⟩,
 ⟨some 183, none, .load 1 true (.t 2)⟩,
 ⟨some 184, none, .call 113 [(.t 182), (.t 183), (.c (.int .u64 1)), (.c (.int .i64 2305843009213693952))]⟩,
 ⟨some 181, none, .mv (.t 184)⟩,
 ⟨some 185, none, .ext 0 (.t 181)⟩,
 ⟨some 186, none, .ext 1 (.t 181)⟩,
 ⟨some 17, none, .alloc [(.ro 6 [] true)]⟩,
 ⟨none, none, .store 1 (.t 17) (.t 185)⟩,
 ⟨some 18, none, .mv (.t 186)⟩] ⟨false, [], []⟩)
 (.seq (.ops [
 ⟨some 188, none, .load 2 true (.t 1)⟩,
 ⟨some 189, none, .load 1 true (.t 17)⟩,
 ⟨some 190, none, .call 113 [(.t 188), (.t 189), (.c (.int .u64 2)), (.c (.int .i64 2305843009213693952))]⟩,
 ⟨some 187, none, .mv (.t 190)⟩,
 ⟨some 191, none, .ext 0 (.t 187)⟩,
 ⟨some 192, none, .ext 1 (.t 187)⟩,
 ⟨some 19, none, .alloc [(.ro 6 [] true)]⟩,
 ⟨none, none, .store 1 (.t 19) (.t 191)⟩,
 ⟨some 20, none, .mv (.t 192)⟩] ⟨false, [], []⟩)
 (.seq (.ops [
 ⟨some 193, none, .mv (.t 3)⟩,
 ⟨some 194, none, .bin .eql (.t 193) (.c (.int .i64 4))⟩,
 ⟨some 195, none, .mv (.t 194)⟩,
 ⟨some 196, (some (195, true)), .mv (.t 5)⟩,
 ⟨some 197, (some (195, true)), .bin .eql (.t 196) (.c (.int .i64 8))⟩,
 ⟨some 198, none, .pick (.t 195) (.t 197) (.c (.bool false))⟩,
 ⟨some 199, none, .mv (.t 198)⟩,
 ⟨some 200, (some (199, true)), .mv (.t 7)⟩,
 ⟨some 201, (some (199, true)), .bin .eql (.t 200) (.c (.int .i64 4))⟩,
 ⟨some 202, none, .pick (.t 199) (.t 201) (.c (.bool false))⟩,
 ⟨some 203, none, .mv (.t 202)⟩,
 ⟨some 204, (some (203, true)), .mv (.t 12)⟩,
 ⟨some 205, (some (203, true)), .bin .eql (.t 204) (.c (.int .i64 9))⟩,
 ⟨some 206, none, .pick (.t 203) (.t 205) (.c (.bool false))⟩,
 ⟨some 207, none, .mv (.t 206)⟩,
 ⟨some 208, (some (207, true)), .mv (.t 14)⟩,
 ⟨some 209, (some (207, true)), .bin .eql (.t 208) (.c (.int .i64 11))⟩,
 ⟨some 210, none, .pick (.t 207) (.t 209) (.c (.bool false))⟩,
 ⟨some 211, none, .mv (.t 210)⟩,
 ⟨some 212, (some (211, true)), .mv (.t 16)⟩,
 ⟨some 213, (some (211, true)), .bin .eql (.t 212) (.c (.int .i64 12))⟩,
 ⟨some 214, none, .pick (.t 211) (.t 213) (.c (.bool false))⟩,
 ⟨some 215, none, .mv (.t 214)⟩,
 ⟨some 216, (some (215, true)), .mv (.t 18)⟩,
 ⟨some 217, (some (215, true)), .bin .eql (.t 216) (.c (.int .i64 0))⟩,
 ⟨some 218, none, .pick (.t 215) (.t 217) (.c (.bool false))⟩,
 ⟨some 219, none, .mv (.t 218)⟩,
 ⟨some 220, (some (219, true)), .mv (.t 20)⟩,
 ⟨some 221, (some (219, true)), .bin .eql (.t 220) (.c (.int .i64 13))⟩,
 ⟨some 222, none, .pick (.t 219) (.t 221) (.c (.bool false))⟩,
 ⟨some 0, none, .mv (.t 222)⟩] ⟨true, [0], []⟩)
 .ret)))))))))))))))))))⟩

/- (paternoster/paternosterlaw24.L).Of -/
def w130_c0 : WCode := (.seq (.draw [
 ⟨some 68, none, .load 2 true (.t 4)⟩,
 ⟨some 69, none, .load 1 true (.t 6)⟩,
 ⟨none, none, .store 2 (.t 2) (.t 68)⟩,
 ⟨none, none, .store 1 (.t 3) (.t 69)⟩] [(1, 2)] ⟨false, [], []⟩)
 .ret)

def w130_B0 : WCode := (.seq (.seq (.ops [
 ⟨some 17, none, .mv (.t 7)⟩,
 ⟨some 18, none, .mv (.t 5)⟩,
 ⟨some 19, none, .len 1 (.t 18)⟩,
 ⟨some 20, none, .bin .lss (.t 17) (.t 19)⟩] ⟨false, [], []⟩)
 (.cond (.t 20) .skip
 (.exit 0)))
 (.seq (.block 1 (.seq (.seq (.draw [
 ⟨some 23, none, .load 2 true (.t 4)⟩,
 ⟨some 24, none, .mv (.t 5)⟩,
 ⟨some 25, none, .mv (.t 7)⟩,
 ⟨some 26, none, .idxs 4 (.t 24) (.t 25)⟩,
 ⟨some 27, none, .load 4 true (.t 26)⟩,
 ⟨some 28, none, .call 271 [(.t 23), (.t 27), (.c (.int .i64 0))]⟩,
 ⟨some 29, none, .bin .gtr (.t 28) (.c (.int .i64 0))⟩] [] ⟨false, [], []⟩)
 (.cond (.t 29) (.exit 1)
 .skip))
 (.seq (.draw [
 ⟨some 30, none, .load 2 true (.t 4)⟩,
 ⟨some 31, none, .mv (.t 5)⟩,
 ⟨some 32, none, .mv (.t 7)⟩,
 ⟨some 33, none, .idxs 4 (.t 31) (.t 32)⟩,
 ⟨some 34, none, .load 4 true (.t 33)⟩,
 ⟨some 35, none, .call 240 [(.t 30), (.t 34)]⟩,
 ⟨some 8, none, .alloc [(.int .u64 0), (.int .u8 0), (.str []), (.ro 1 [] true), (.int .i64 0), (.bool false)]⟩,
 ⟨none, none, .store 6 (.t 8) (.t 35)⟩] [(0, 6), (4, 6), (5, 6)] ⟨true, [8, 7, 6, 5, 4, 3, 2, 1], []⟩)
 (.seq (.seq (.ops [
 ⟨some 36, none, .fld 0 (.t 6)⟩,
 ⟨some 37, none, .load 1 false (.t 36)⟩,
 ⟨some 38, none, .len 1 (.t 37)⟩,
 ⟨some 9, none, .mv (.t 38)⟩] ⟨false, [], []⟩)
 (.seq (.ops [
 ⟨some 39, none, .mv (.t 9)⟩,
 ⟨some 40, none, .fld 1 (.t 1)⟩,
 ⟨some 41, none, .load 1 false (.t 40)⟩,
 ⟨some 42, none, .len 1 (.t 41)⟩,
 ⟨some 43, none, .bin .lss (.t 39) (.t 42)⟩,
 ⟨some 44, none, .mv (.t 43)⟩,
 ⟨some 45, (some (44, true)), .fld 1 (.t 1)⟩,
 ⟨some 46, (some (44, true)), .load 1 false (.t 45)⟩,
 ⟨some 47, (some (44, true)), .mv (.t 9)⟩,
 ⟨some 48, (some (44, true)), .idxs 1 (.t 46) (.t 47)⟩,
 ⟨some 49, (some (44, true)), .load 1 false (.t 48)⟩,
 ⟨some 50, (some (44, true)), .bin .gtr (.t 49) (.c (.int .u8 0))⟩,
 ⟨some 51, none, .pick (.t 44) (.t 50) (.c (.bool false))⟩] ⟨false, [], []⟩)
 (.cond (.t 51) (.seq (.ops [
 ⟨some 52, none, .fld 1 (.t 1)⟩,
 ⟨some 53, none, .load 1 false (.t 52)⟩,
 ⟨some 54, none, .mv (.t 9)⟩,
 ⟨some 55, none, .idxs 1 (.t 53) (.t 54)⟩,
 ⟨some 56, none, .load 1 false (.t 55)⟩,
 ⟨some 57, none, .bin .rem (.t 56) (.c (.int .u8 40))⟩,
 ⟨some 58, none, .cvt .i64 (.t 57)⟩,
 ⟨some 59, none, .bin .add (.c (.int .i64 1)) (.t 58)⟩,
 ⟨some 60, none, .fld 4 (.t 8)⟩,
 ⟨none, none, .store 1 (.t 60) (.t 59)⟩] ⟨true, [8, 7, 6, 5, 4, 3, 2, 1], []⟩)
 (.ops [
 ⟨some 61, none, .fld 5 (.t 8)⟩,
 ⟨none, none, .store 1 (.t 61) (.c (.bool true))⟩] ⟨false, [], []⟩))
 .skip)))
 (.ops [
 ⟨some 62, none, .fld 0 (.t 6)⟩,
 ⟨some 63, none, .load 1 false (.t 62)⟩,
 ⟨some 64, none, .load 6 true (.t 8)⟩,
 ⟨some 65, none, .buildS [(.int .u64 0), (.int .u8 0), (.str []), (.ro 1 [] true), (.int .i64 0), (.bool false)] 1 [(0, (.t 64))]⟩,
 ⟨some 66, none, .app [(.int .u64 0), (.int .u8 0), (.str []), (.ro 1 [] true), (.int .i64 0), (.bool false)] 72 false (.t 63) (.t 65)⟩,
 ⟨some 67, none, .fld 0 (.t 6)⟩,
 ⟨none, none, .store 1 (.t 67) (.t 66)⟩] ⟨false, [], []⟩)))) ⟨false, [], []⟩)
 (.ops [
 ⟨some 21, none, .mv (.t 7)⟩,
 ⟨some 22, none, .bin .add (.t 21) (.c (.int .i64 1))⟩,
 ⟨some 7, none, .mv (.t 22)⟩] ⟨false, [], []⟩)))
def w130_L0 : WCode := .loop ⟨true, [7, 6, 5, 4, 3, 2, 1], []⟩ w130_B0
def w130 : WFn := ⟨1, [.cell 2 2 true, .cell 3 1 true],
 (.seq (.ops [
 ⟨some 1, none, .box (.t 0)⟩,
 ⟨some 2, none, .alloc [(.ro 9 [] true), (.int .i64 0)]⟩,
 ⟨some 3, none, .alloc [(.ro 6 [] true)]⟩] ⟨true, [3, 2, 1], []⟩)
 (.seq (.ops [
 ⟨some 10, none, .fld 2 (.t 1)⟩,
 ⟨some 11, none, .load 1 false (.t 10)⟩,
 ⟨some 12, none, .call 126 [(.t 11)]⟩,
 ⟨some 13, none, .build [(.ro 9 [] true), (.int .i64 0)] [(0, 1, (.t 12)), (1, 1, (.c (.int .i64 12)))]⟩,
 ⟨some 4, none, .alloc [(.ro 9 [] true), (.int .i64 0)]⟩,
 ⟨none, none, .store 2 (.t 4) (.t 13)⟩] ⟨false, [], []⟩)
 (.seq (.ops [
 ⟨some 14, none, .fld 0 (.t 1)⟩,
 ⟨some 15, none, .load 1 true (.t 14)⟩,
 ⟨some 16, none, .call 270 [(.t 15)]⟩,
 ⟨some 5, none, .mv (.t 16)⟩] ⟨false, [], []⟩)
 (.seq (.ops [
 ⟨some 6, none, .alloc [(.ro 6 [] true)]⟩] ⟨false, [], []⟩)
 (.seq (.seq (.ops [
 ⟨some 7, none, .mv (.c (.int .i64 0))⟩] ⟨false, [], []⟩)
 (.block 0 w130_L0 ⟨true, [6, 4, 3, 2], []⟩))
 w130_c0)))))⟩

@[simp] theorem w130_E0 {β : Type} {C : WProg} {b : Nat} {f : Ex × WSt → Option β} {k : List Pw.Frame} {s : WSt} : CK C b f k w130_L0 s = LK C b f (.sq w130_L0 :: k) w130_B0 (canon b ⟨true, [7, 6, 5, 4, 3, 2, 1], []⟩ s) := ck_lp rfl
noncomputable abbrev w130_K0 (C : WProg) (s : WSt) : Option AV := CK C 0 (pureFin [.cell 2 2 true, .cell 3 1 true]) [.sq w130_L0, .bk 0 ⟨true, [6, 4, 3, 2], []⟩, .sq w130_c0] w130_B0 s

/- paternoster/lists.Insert -/
def w109 : WFn := ⟨4, [.cell 8 1 true, .tmp 9],
 (.seq (.ops [
 ⟨some 4, none, .box (.t 0)⟩,
 ⟨some 5, none, .box (.t 1)⟩,
 ⟨some 6, none, .box (.t 2)⟩,
 ⟨some 8, none, .alloc [(.ro 6 [] true)]⟩,
 ⟨some 9, none, .mv (.c (.int .i64 0))⟩] ⟨true, [8, 6, 5, 4, 3], [(4, 65536), (5, 65536), (6, 65536)]⟩)
 (.seq (.draw [
 ⟨some 10, none, .load 2 true (.t 4)⟩,
 ⟨some 11, none, .load 1 true (.t 5)⟩,
 ⟨some 12, none, .load 1 false (.t 6)⟩,
 ⟨some 13, none, .fld 0 (.t 5)⟩,
 ⟨some 14, none, .load 1 false (.t 13)⟩,
 ⟨some 15, none, .len 1 (.t 14)⟩,
 ⟨some 16, none, .call 219 [(.t 12), (.c (.int .i64 0)), (.t 15)]⟩,
 ⟨some 17, none, .fld 0 (.t 5)⟩,
 ⟨some 18, none, .load 1 false (.t 17)⟩,
 ⟨some 19, none, .len 1 (.t 18)⟩,
 ⟨some 20, none, .mv (.t 3)⟩,
 ⟨some 21, none, .len 1 (.t 20)⟩,
 ⟨some 22, none, .bin .add (.t 19) (.t 21)⟩,
 ⟨some 23, none, .mv (.t 3)⟩,
 ⟨some 24, none, .fld 0 (.t 5)⟩,
 ⟨some 25, none, .load 1 false (.t 24)⟩,
 ⟨some 26, none, .call 217 [(.t 25)]⟩,
 ⟨some 27, none, .mkfn 220 [(.t 5), (.t 6)]⟩,
 ⟨some 28, none, .build [(.bool false), (.int .i64 0), (.ro 4 [] true), .nilf, .nilf] [(0, 1, (.t 16)), (1, 1, (.t 22)), (2, 1, (.t 23)), (3, 1, (.t 26)), (4, 1, (.t 27))]⟩,
 ⟨some 29, none, .call 216 [(.t 10), (.t 11), (.t 28)]⟩,
 ⟨some 30, none, .ext 0 (.t 29)⟩,
 ⟨some 31, none, .ext 1 (.t 29)⟩,
 ⟨none, none, .store 1 (.t 8) (.t 30)⟩,
 ⟨some 9, none, .mv (.t 31)⟩] [(0, 6), (1, 6), (6, 8), (6, 9), (6, 11), (6, 15), (0, 16), (1, 16), (8, 16), (9, 16), (11, 16)] ⟨true, [9, 8], []⟩)
 .ret))⟩

/- paternoster/paternosterlaw24.is -/
def w243 : WFn := ⟨4, [.tmp 8],
 (.seq (.ops [
 ⟨some 4, none, .box (.t 0)⟩,
 ⟨some 8, none, .mv (.c (.int .i64 0))⟩] ⟨false, [], []⟩)
 (.seq (.seq (.ops [
 ⟨some 9, none, .mv (.t 1)⟩,
 ⟨some 10, none, .mv (.t 3)⟩,
 ⟨some 11, none, .bin .neq (.t 9) (.t 10)⟩,
 ⟨some 12, none, .mv (.t 11)⟩,
 ⟨some 13, (some (12, false)), .fld 0 (.t 4)⟩,
 ⟨some 14, (some (12, false)), .load 1 false (.t 13)⟩,
 ⟨some 15, (some (12, false)), .cap (.t 14)⟩,
 ⟨some 16, (some (12, false)), .fld 0 (.t 4)⟩,
 ⟨some 17, (some (12, false)), .load 1 false (.t 16)⟩,
 ⟨some 18, (some (12, false)), .len 1 (.t 17)⟩,
 ⟨some 19, (some (12, false)), .bin .neq (.t 15) (.t 18)⟩,
 ⟨some 20, none, .pick (.t 12) (.c (.bool true)) (.t 19)⟩] ⟨false, [], []⟩)
 (.cond (.t 20) (.seq (.ops [
 ⟨some 8, none, .mv (.c (.int .i64 0))⟩] ⟨false, [], []⟩)
 .ret)
 .skip))
 (.seq (.ops [
 ⟨some 21, none, .fld 0 (.t 4)⟩,
 ⟨some 22, none, .load 1 false (.t 21)⟩,
 ⟨some 23, none, .mv (.t 2)⟩,
 ⟨some 24, none, .call 172 [(.t 22), (.t 23)]⟩,
 ⟨some 8, none, .mv (.t 24)⟩] ⟨false, [], []⟩)
 .ret)))⟩

/- paternoster/lists.Reset -/
def w108 : WFn := ⟨3, [.cell 6 1 true, .tmp 7],
 (.seq (.ops [
 ⟨some 3, none, .box (.t 0)⟩,
 ⟨some 4, none, .box (.t 1)⟩,
 ⟨some 6, none, .alloc [(.ro 6 [] true)]⟩,
 ⟨some 7, none, .mv (.c (.int .i64 0))⟩] ⟨true, [6, 4, 3, 2], [(3, 65536), (4, 65536)]⟩)
 (.seq (.draw [
 ⟨some 8, none, .load 2 true (.t 3)⟩,
 ⟨some 9, none, .load 1 true (.t 4)⟩,
 ⟨some 10, none, .mv (.t 2)⟩,
 ⟨some 11, none, .len 1 (.t 10)⟩,
 ⟨some 12, none, .mv (.t 2)⟩,
 ⟨some 13, none, .call 217 [(.c (.ro 6 [] true))]⟩,
 ⟨some 14, none, .build [(.bool false), (.int .i64 0), (.ro 4 [] true), .nilf, .nilf] [(0, 1, (.c (.bool true))), (1, 1, (.t 11)), (2, 1, (.t 12)), (3, 1, (.t 13)), (4, 1, (.c (.fn 218 [])))]⟩,
 ⟨some 15, none, .call 216 [(.t 8), (.t 9), (.t 14)]⟩,
 ⟨some 16, none, .ext 0 (.t 15)⟩,
 ⟨some 17, none, .ext 1 (.t 15)⟩,
 ⟨none, none, .store 1 (.t 6) (.t 16)⟩,
 ⟨some 7, none, .mv (.t 17)⟩] [(0, 5), (1, 5), (3, 5)] ⟨false, [], []⟩)
 .ret))⟩

/- paternoster/paternosterref24.Same -/
def w172_c0 : WCode := (.seq (.ops [
 ⟨some 4, none, .mv (.c (.int .i64 1))⟩] ⟨false, [], []⟩)
 .ret)

def w172_B0 : WCode := (.seq (.seq (.ops [
 ⟨some 11, none, .mv (.t 5)⟩,
 ⟨some 12, none, .mv (.t 0)⟩,
 ⟨some 13, none, .len 1 (.t 12)⟩,
 ⟨some 14, none, .bin .lss (.t 11) (.t 13)⟩] ⟨false, [], []⟩)
 (.cond (.t 14) .skip
 (.exit 0)))
 (.seq (.block 1 (.seq (.draw [
 ⟨some 17, none, .mv (.t 0)⟩,
 ⟨some 18, none, .mv (.t 5)⟩,
 ⟨some 19, none, .idxs 6 (.t 17) (.t 18)⟩,
 ⟨some 20, none, .fld 4 (.t 19)⟩,
 ⟨some 21, none, .load 1 false (.t 20)⟩,
 ⟨some 22, none, .mv (.t 1)⟩,
 ⟨some 23, none, .mv (.t 5)⟩,
 ⟨some 24, none, .idxs 6 (.t 22) (.t 23)⟩,
 ⟨some 25, none, .fld 4 (.t 24)⟩,
 ⟨some 26, none, .load 1 false (.t 25)⟩,
 ⟨some 27, none, .bin .neq (.t 21) (.t 26)⟩,
 ⟨some 28, none, .mv (.t 27)⟩,
 ⟨some 29, (some (28, false)), .mv (.t 0)⟩,
 ⟨some 30, (some (28, false)), .mv (.t 5)⟩,
 ⟨some 31, (some (28, false)), .idxs 6 (.t 29) (.t 30)⟩,
 ⟨some 32, (some (28, false)), .fld 5 (.t 31)⟩,
 ⟨some 33, (some (28, false)), .load 1 false (.t 32)⟩,
 ⟨some 34, (some (28, false)), .mv (.t 1)⟩,
 ⟨some 35, (some (28, false)), .mv (.t 5)⟩,
 ⟨some 36, (some (28, false)), .idxs 6 (.t 34) (.t 35)⟩,
 ⟨some 37, (some (28, false)), .fld 5 (.t 36)⟩,
 ⟨some 38, (some (28, false)), .load 1 false (.t 37)⟩,
 ⟨some 39, (some (28, false)), .eqv 5 [] true (.t 33) (.t 38)⟩,
 ⟨some 40, none, .pick (.t 28) (.c (.bool true)) (.t 39)⟩,
 ⟨some 41, none, .mv (.t 40)⟩,
 ⟨some 42, (some (41, false)), .mv (.t 0)⟩,
 ⟨some 43, (some (41, false)), .mv (.t 5)⟩,
 ⟨some 44, (some (41, false)), .idxs 6 (.t 42) (.t 43)⟩,
 ⟨some 45, (some (41, false)), .fld 0 (.t 44)⟩,
 ⟨some 46, (some (41, false)), .load 4 true (.t 45)⟩,
 ⟨some 47, (some (41, false)), .mv (.t 1)⟩,
 ⟨some 48, (some (41, false)), .mv (.t 5)⟩,
 ⟨some 49, (some (41, false)), .idxs 6 (.t 47) (.t 48)⟩,
 ⟨some 50, (some (41, false)), .fld 0 (.t 49)⟩,
 ⟨some 51, (some (41, false)), .load 4 true (.t 50)⟩,
 ⟨some 52, (some (41, false)), .call 112 [(.t 46), (.t 51)]⟩,
 ⟨some 53, (some (41, false)), .bin .eql (.t 52) (.c (.int .i64 0))⟩,
 ⟨some 54, none, .pick (.t 41) (.c (.bool true)) (.t 53)⟩] [] ⟨true, [54, 5, 1, 0], []⟩)
 (.cond (.t 54) (.seq (.ops [
 ⟨some 4, none, .mv (.c (.int .i64 0))⟩] ⟨false, [], []⟩)
 .ret)
 .skip)) ⟨false, [], []⟩)
 (.ops [
 ⟨some 15, none, .mv (.t 5)⟩,
 ⟨some 16, none, .bin .add (.t 15) (.c (.int .i64 1))⟩,
 ⟨some 5, none, .mv (.t 16)⟩] ⟨false, [], []⟩)))
def w172_L0 : WCode := .loop ⟨true, [5, 1, 0], []⟩ w172_B0
def w172 : WFn := ⟨2, [.tmp 4],
 (.seq (.ops [
 ⟨some 4, none, .mv (.c (.int .i64 0))⟩] ⟨false, [], []⟩)
 (.seq (.seq (.ops [
 ⟨some 6, none, .mv (.t 0)⟩,
 ⟨some 7, none, .len 1 (.t 6)⟩,
 ⟨some 8, none, .mv (.t 1)⟩,
 ⟨some 9, none, .len 1 (.t 8)⟩,
 ⟨some 10, none, .bin .neq (.t 7) (.t 9)⟩] ⟨false, [], []⟩)
 (.cond (.t 10) (.seq (.ops [
 ⟨some 4, none, .mv (.c (.int .i64 0))⟩] ⟨false, [], []⟩)
 .ret)
 .skip))
 (.seq (.seq (.ops [
 ⟨some 5, none, .mv (.c (.int .i64 0))⟩] ⟨false, [], []⟩)
 (.block 0 w172_L0 ⟨true, [], []⟩))
 w172_c0)))⟩

@[simp] theorem w172_E0 {β : Type} {C : WProg} {b : Nat} {f : Ex × WSt → Option β} {k : List Pw.Frame} {s : WSt} : CK C b f k w172_L0 s = LK C b f (.sq w172_L0 :: k) w172_B0 (canon b ⟨true, [5, 1, 0], []⟩ s) := ck_lp rfl
noncomputable abbrev w172_K0 (C : WProg) (s : WSt) : Option AV := CK C 0 (pureFin [.tmp 4]) [.sq w172_L0, .bk 0 ⟨true, [], []⟩, .sq w172_c0] w172_B0 s

/- paternoster/paternosterref24.Check -/
def w235_c0 : WCode := (.seq (.ops [
 ⟨some 82, none, .mv (.t 1)⟩,
 ⟨some 83, none, .call 407 [(.t 82)]⟩,
 ⟨some 4, none, .mv (.t 83)⟩] ⟨false, [], []⟩)
 .ret)

def w235_B0 : WCode := (.seq (.seq (.ops [
 ⟨some 13, none, .mv (.t 5)⟩,
 ⟨some 14, none, .mv (.t 1)⟩,
 ⟨some 15, none, .len 1 (.t 14)⟩,
 ⟨some 16, none, .bin .lss (.t 13) (.t 15)⟩] ⟨false, [], []⟩)
 (.cond (.t 16) .skip
 (.exit 0)))
 (.seq (.block 1 (.seq (.draw [
 ⟨some 19, none, .load 2 true (.t 2)⟩,
 ⟨some 20, none, .mv (.t 1)⟩,
 ⟨some 21, none, .mv (.t 5)⟩,
 ⟨some 22, none, .idxs 6 (.t 20) (.t 21)⟩,
 ⟨some 23, none, .fld 0 (.t 22)⟩,
 ⟨some 24, none, .load 4 true (.t 23)⟩,
 ⟨some 25, none, .mv (.t 1)⟩,
 ⟨some 26, none, .mv (.t 5)⟩,
 ⟨some 27, none, .slice 6 (.t 25) none (some (.t 26)) none⟩,
 ⟨some 28, none, .mv (.t 1)⟩,
 ⟨some 29, none, .mv (.t 5)⟩,
 ⟨some 30, none, .idxs 6 (.t 28) (.t 29)⟩,
 ⟨some 31, none, .fld 0 (.t 30)⟩,
 ⟨some 32, none, .fld 0 (.t 31)⟩,
 ⟨some 33, none, .load 1 false (.t 32)⟩,
 ⟨some 34, none, .call 239 [(.t 27), (.t 33)]⟩,
 ⟨some 35, none, .bin .geq (.t 34) (.c (.int .i64 0))⟩,
 ⟨some 36, none, .call 406 [(.t 35)]⟩,
 ⟨some 37, none, .call 271 [(.t 19), (.t 24), (.t 36)]⟩,
 ⟨some 6, none, .mv (.t 37)⟩] [(0, 15), (5, 15), (0, 17), (5, 17)] ⟨true, [6, 5, 2, 1], []⟩)
 (.seq (.seq (.ops [
 ⟨some 38, none, .mv (.t 6)⟩,
 ⟨some 39, none, .bin .gtr (.t 38) (.c (.int .i64 0))⟩] ⟨false, [], []⟩)
 (.cond (.t 39) (.seq (.ops [
 ⟨some 40, none, .mv (.t 6)⟩,
 ⟨some 4, none, .mv (.t 40)⟩] ⟨false, [], []⟩)
 .ret)
 .skip))
 (.seq (.draw [
 ⟨some 41, none, .mv (.t 1)⟩,
 ⟨some 42, none, .mv (.t 5)⟩,
 ⟨some 43, none, .idxs 6 (.t 41) (.t 42)⟩,
 ⟨some 44, none, .fld 4 (.t 43)⟩,
 ⟨some 45, none, .load 1 false (.t 44)⟩,
 ⟨some 46, none, .bin .lss (.t 45) (.c (.int .i64 1))⟩,
 ⟨some 47, none, .mv (.t 46)⟩,
 ⟨some 48, (some (47, false)), .mv (.t 1)⟩,
 ⟨some 49, (some (47, false)), .mv (.t 5)⟩,
 ⟨some 50, (some (47, false)), .idxs 6 (.t 48) (.t 49)⟩,
 ⟨some 51, (some (47, false)), .fld 4 (.t 50)⟩,
 ⟨some 52, (some (47, false)), .load 1 false (.t 51)⟩,
 ⟨some 53, (some (47, false)), .bin .gtr (.t 52) (.c (.int .i64 2305843009213693952))⟩,
 ⟨some 54, none, .pick (.t 47) (.c (.bool true)) (.t 53)⟩,
 ⟨some 55, none, .mv (.t 54)⟩,
 ⟨some 56, (some (55, false)), .mv (.t 1)⟩,
 ⟨some 57, (some (55, false)), .mv (.t 5)⟩,
 ⟨some 58, (some (55, false)), .idxs 6 (.t 56) (.t 57)⟩,
 ⟨some 59, (some (55, false)), .fld 5 (.t 58)⟩,
 ⟨some 60, (some (55, false)), .load 1 false (.t 59)⟩,
 ⟨some 61, (some (55, false)), .un .not (.t 60)⟩,
 ⟨some 62, (some (55, false)), .mv (.t 61)⟩,
 ⟨some 63, (some (62, true)), .mv (.t 1)⟩,
 ⟨some 64, (some (62, true)), .mv (.t 5)⟩,
 ⟨some 65, (some (62, true)), .idxs 6 (.t 63) (.t 64)⟩,
 ⟨some 66, (some (62, true)), .fld 4 (.t 65)⟩,
 ⟨some 67, (some (62, true)), .load 1 false (.t 66)⟩,
 ⟨some 68, (some (62, true)), .fld 0 (.t 2)⟩,
 ⟨some 69, (some (62, true)), .load 1 false (.t 68)⟩,
 ⟨some 70, (some (62, true)), .mv (.t 1)⟩,
 ⟨some 71, (some (62, true)), .mv (.t 5)⟩,
 ⟨some 72, (some (62, true)), .idxs 6 (.t 70) (.t 71)⟩,
 ⟨some 73, (some (62, true)), .fld 0 (.t 72)⟩,
 ⟨some 74, (some (62, true)), .fld 1 (.t 73)⟩,
 ⟨some 75, (some (62, true)), .load 1 false (.t 74)⟩,
 ⟨some 76, (some (62, true)), .idxs 9 (.t 69) (.t 75)⟩,
 ⟨some 77, (some (62, true)), .fld 6 (.t 76)⟩,
 ⟨some 78, (some (62, true)), .load 1 false (.t 77)⟩,
 ⟨some 79, (some (62, true)), .bin .neq (.t 67) (.t 78)⟩,
 ⟨some 80, (some (55, false)), .pick (.t 62) (.t 79) (.c (.bool false))⟩,
 ⟨some 81, none, .pick (.t 55) (.c (.bool true)) (.t 80)⟩] [] ⟨true, [81, 5, 2, 1], []⟩)
 (.cond (.t 81) (.seq (.ops [
 ⟨some 4, none, .mv (.c (.int .i64 12))⟩] ⟨false, [], []⟩)
 .ret)
 .skip)))) ⟨false, [], []⟩)
 (.ops [
 ⟨some 17, none, .mv (.t 5)⟩,
 ⟨some 18, none, .bin .add (.t 17) (.c (.int .i64 1))⟩,
 ⟨some 5, none, .mv (.t 18)⟩] ⟨false, [], []⟩)))
def w235_L0 : WCode := .loop ⟨true, [5, 2, 1], []⟩ w235_B0
def w235 : WFn := ⟨2, [.tmp 4],
 (.seq (.ops [
 ⟨some 2, none, .box (.t 0)⟩,
 ⟨some 4, none, .mv (.c (.int .i64 0))⟩] ⟨false, [], []⟩)
 (.seq (.seq (.ops [
 ⟨some 7, none, .load 2 true (.t 2)⟩,
 ⟨some 8, none, .call 236 [(.t 7)]⟩,
 ⟨some 9, none, .bin .gtr (.t 8) (.c (.int .i64 0))⟩] ⟨false, [], []⟩)
 (.cond (.t 9) (.seq (.ops [
 ⟨some 4, none, .mv (.c (.int .i64 7))⟩] ⟨false, [], []⟩)
 .ret)
 .skip))
 (.seq (.seq (.ops [
 ⟨some 10, none, .mv (.t 1)⟩,
 ⟨some 11, none, .len 1 (.t 10)⟩,
 ⟨some 12, none, .bin .gtr (.t 11) (.c (.int .i64 1024))⟩] ⟨false, [], []⟩)
 (.cond (.t 12) (.seq (.ops [
 ⟨some 4, none, .mv (.c (.int .i64 3))⟩] ⟨false, [], []⟩)
 .ret)
 .skip))
 (.seq (.seq (.ops [
 ⟨some 5, none, .mv (.c (.int .i64 0))⟩] ⟨false, [], []⟩)
 (.block 0 w235_L0 ⟨true, [1], []⟩))
 w235_c0))))⟩

@[simp] theorem w235_E0 {β : Type} {C : WProg} {b : Nat} {f : Ex × WSt → Option β} {k : List Pw.Frame} {s : WSt} : CK C b f k w235_L0 s = LK C b f (.sq w235_L0 :: k) w235_B0 (canon b ⟨true, [5, 2, 1], []⟩ s) := ck_lp rfl
noncomputable abbrev w235_K0 (C : WProg) (s : WSt) : Option AV := CK C 0 (pureFin [.tmp 4]) [.sq w235_L0, .bk 0 ⟨true, [1], []⟩, .sq w235_c0] w235_B0 s

/- paternoster/paternosterref24.Remove -/
def w241_c0 : WCode := (.seq (.ops [
 ⟨some 39, none, .mv (.t 8)⟩,
 ⟨some 6, none, .mv (.t 39)⟩,
 ⟨some 7, none, .mv (.c (.int .i64 0))⟩] ⟨false, [], []⟩)
 .ret)

def w241_B0 : WCode := (.seq (.seq (.ops [
 ⟨some 16, none, .mv (.t 9)⟩,
 ⟨some 17, none, .mv (.t 0)⟩,
 ⟨some 18, none, .len 1 (.t 17)⟩,
 ⟨some 19, none, .bin .lss (.t 16) (.t 18)⟩] ⟨false, [], []⟩)
 (.cond (.t 19) .skip
 (.exit 0)))
 (.seq (.block 1 (.seq (.ops [
 ⟨some 22, none, .mv (.t 9)⟩,
 ⟨some 23, none, .mv (.t 1)⟩,
 ⟨some 24, none, .bin .lss (.t 22) (.t 23)⟩,
 ⟨some 25, none, .mv (.t 24)⟩,
 ⟨some 26, (some (25, false)), .mv (.t 9)⟩,
 ⟨some 27, (some (25, false)), .mv (.t 1)⟩,
 ⟨some 28, (some (25, false)), .mv (.t 2)⟩,
 ⟨some 29, (some (25, false)), .bin .add (.t 27) (.t 28)⟩,
 ⟨some 30, (some (25, false)), .bin .geq (.t 26) (.t 29)⟩,
 ⟨some 31, none, .pick (.t 25) (.c (.bool true)) (.t 30)⟩] ⟨true, [31, 9, 8, 2, 1, 0], []⟩)
 (.cond (.t 31) (.ops [
 ⟨some 32, none, .mv (.t 8)⟩,
 ⟨some 33, none, .mv (.t 0)⟩,
 ⟨some 34, none, .mv (.t 9)⟩,
 ⟨some 35, none, .idxs 6 (.t 33) (.t 34)⟩,
 ⟨some 36, none, .load 6 true (.t 35)⟩,
 ⟨some 37, none, .buildS [(.int .u64 0), (.int .u8 0), (.str []), (.ro 1 [] true), (.int .i64 0), (.bool false)] 1 [(0, (.t 36))]⟩,
 ⟨some 38, none, .app [(.int .u64 0), (.int .u8 0), (.str []), (.ro 1 [] true), (.int .i64 0), (.bool false)] 72 false (.t 32) (.t 37)⟩,
 ⟨some 8, none, .mv (.t 38)⟩] ⟨false, [], []⟩)
 .skip)) ⟨false, [], []⟩)
 (.ops [
 ⟨some 20, none, .mv (.t 9)⟩,
 ⟨some 21, none, .bin .add (.t 20) (.c (.int .i64 1))⟩,
 ⟨some 9, none, .mv (.t 21)⟩] ⟨false, [], []⟩)))
def w241_L0 : WCode := .loop ⟨true, [9, 8, 2, 1, 0], []⟩ w241_B0
def w241 : WFn := ⟨3, [.tmp 6, .tmp 7],
 (.seq (.ops [
 ⟨some 6, none, .mv (.c (.ro 6 [] true))⟩,
 ⟨some 7, none, .mv (.c (.int .i64 0))⟩] ⟨false, [], []⟩)
 (.seq (.seq (.ops [
 ⟨some 10, none, .mv (.t 1)⟩,
 ⟨some 11, none, .mv (.t 2)⟩,
 ⟨some 12, none, .mv (.t 0)⟩,
 ⟨some 13, none, .len 1 (.t 12)⟩,
 ⟨some 14, none, .call 410 [(.t 10), (.t 11), (.t 13)]⟩,
 ⟨some 15, none, .bin .eql (.t 14) (.c (.int .i64 0))⟩] ⟨false, [], []⟩)
 (.cond (.t 15) (.seq (.ops [
 ⟨some 6, none, .mv (.c (.ro 6 [] true))⟩,
 ⟨some 7, none, .mv (.c (.int .i64 4))⟩] ⟨false, [], []⟩)
 .ret)
 .skip))
 (.seq (.ops [
 ⟨some 8, none, .mv (.c (.ro 6 [] true))⟩] ⟨true, [8, 2, 1, 0], [(8, 6)]⟩)
 (.seq (.seq (.ops [
 ⟨some 9, none, .mv (.c (.int .i64 0))⟩] ⟨false, [], []⟩)
 (.block 0 w241_L0 ⟨true, [8], []⟩))
 w241_c0))))⟩

@[simp] theorem w241_E0 {β : Type} {C : WProg} {b : Nat} {f : Ex × WSt → Option β} {k : List Pw.Frame} {s : WSt} : CK C b f k w241_L0 s = LK C b f (.sq w241_L0 :: k) w241_B0 (canon b ⟨true, [9, 8, 2, 1, 0], []⟩ s) := ck_lp rfl
noncomputable abbrev w241_K0 (C : WProg) (s : WSt) : Option AV := CK C 0 (pureFin [.tmp 6, .tmp 7]) [.sq w241_L0, .bk 0 ⟨true, [8], []⟩, .sq w241_c0] w241_B0 s

/- paternoster/lists.Remove -/
def w110 : WFn := ⟨4, [.cell 8 1 true, .tmp 9],
 (.seq (.ops [
 ⟨some 4, none, .box (.t 0)⟩,
 ⟨some 5, none, .box (.t 1)⟩,
 ⟨some 6, none, .box (.t 2)⟩,
 ⟨some 7, none, .box (.t 3)⟩,
 ⟨some 8, none, .alloc [(.ro 6 [] true)]⟩,
 ⟨some 9, none, .mv (.c (.int .i64 0))⟩] ⟨true, [8, 7, 6, 5, 4], [(4, 65536), (5, 65536), (6, 65536), (7, 65536)]⟩)
 (.seq (.draw [
 ⟨some 10, none, .load 2 true (.t 4)⟩,
 ⟨some 11, none, .load 1 true (.t 5)⟩,
 ⟨some 12, none, .load 1 false (.t 6)⟩,
 ⟨some 13, none, .load 1 false (.t 7)⟩,
 ⟨some 14, none, .fld 0 (.t 5)⟩,
 ⟨some 15, none, .load 1 false (.t 14)⟩,
 ⟨some 16, none, .len 1 (.t 15)⟩,
 ⟨some 17, none, .call 219 [(.t 12), (.t 13), (.t 16)]⟩,
 ⟨some 18, none, .mkfn 222 [(.t 5), (.t 6), (.t 7)]⟩,
 ⟨some 19, none, .build [(.bool false), (.int .i64 0), (.ro 4 [] true), .nilf, .nilf] [(0, 1, (.t 17)), (4, 1, (.t 18))]⟩,
 ⟨some 20, none, .call 216 [(.t 10), (.t 11), (.t 19)]⟩,
 ⟨some 21, none, .ext 0 (.t 20)⟩,
 ⟨some 22, none, .ext 1 (.t 20)⟩,
 ⟨none, none, .store 1 (.t 8) (.t 21)⟩,
 ⟨some 9, none, .mv (.t 22)⟩] [(0, 7), (1, 7)] ⟨false, [], []⟩)
 .ret))⟩

/- paternoster/paternosterref24.Move -/
def w242_c0 : WCode := (.seq (.ops [
 ⟨some 73, none, .mv (.t 12)⟩,
 ⟨some 8, none, .mv (.t 73)⟩,
 ⟨some 9, none, .mv (.c (.int .i64 0))⟩] ⟨false, [], []⟩)
 .ret)

def w242_c1 : WCode := (.ops [
 ⟨some 41, none, .mv (.t 13)⟩,
 ⟨some 42, none, .bin .add (.t 41) (.c (.int .i64 1))⟩,
 ⟨some 13, none, .mv (.t 42)⟩] ⟨false, [], []⟩)

def w242_c2 : WCode := (.seq (.ops [
 ⟨some 62, none, .mv (.t 13)⟩,
 ⟨some 63, none, .mv (.t 10)⟩,
 ⟨some 64, none, .len 1 (.t 63)⟩,
 ⟨some 65, none, .bin .lss (.t 62) (.t 64)⟩] ⟨false, [], []⟩)
 (.cond (.t 65) (.ops [
 ⟨some 66, none, .mv (.t 12)⟩,
 ⟨some 67, none, .mv (.t 10)⟩,
 ⟨some 68, none, .mv (.t 13)⟩,
 ⟨some 69, none, .idxs 6 (.t 67) (.t 68)⟩,
 ⟨some 70, none, .load 6 true (.t 69)⟩,
 ⟨some 71, none, .buildS [(.int .u64 0), (.int .u8 0), (.str []), (.ro 1 [] true), (.int .i64 0), (.bool false)] 1 [(0, (.t 70))]⟩,
 ⟨some 72, none, .app [(.int .u64 0), (.int .u8 0), (.str []), (.ro 1 [] true), (.int .i64 0), (.bool false)] 72 false (.t 66) (.t 71)⟩,
 ⟨some 12, none, .mv (.t 72)⟩] ⟨false, [], []⟩)
 .skip))

def w242_B1 : WCode := (.seq (.seq (.ops [
 ⟨some 43, none, .mv (.t 13)⟩,
 ⟨some 44, none, .mv (.t 3)⟩,
 ⟨some 45, none, .bin .eql (.t 43) (.t 44)⟩,
 ⟨some 46, none, .mv (.t 45)⟩,
 ⟨some 47, (some (46, true)), .mv (.t 14)⟩,
 ⟨some 48, (some (46, true)), .mv (.t 2)⟩,
 ⟨some 49, (some (46, true)), .bin .lss (.t 47) (.t 48)⟩,
 ⟨some 50, none, .pick (.t 46) (.t 49) (.c (.bool false))⟩] ⟨false, [], []⟩)
 (.cond (.t 50) .skip
 (.exit 2)))
 (.seq (.block 3 (.ops [
 ⟨some 53, none, .mv (.t 12)⟩,
 ⟨some 54, none, .mv (.t 0)⟩,
 ⟨some 55, none, .mv (.t 1)⟩,
 ⟨some 56, none, .mv (.t 14)⟩,
 ⟨some 57, none, .bin .add (.t 55) (.t 56)⟩,
 ⟨some 58, none, .idxs 6 (.t 54) (.t 57)⟩,
 ⟨some 59, none, .load 6 true (.t 58)⟩,
 ⟨some 60, none, .buildS [(.int .u64 0), (.int .u8 0), (.str []), (.ro 1 [] true), (.int .i64 0), (.bool false)] 1 [(0, (.t 59))]⟩,
 ⟨some 61, none, .app [(.int .u64 0), (.int .u8 0), (.str []), (.ro 1 [] true), (.int .i64 0), (.bool false)] 72 false (.t 53) (.t 60)⟩,
 ⟨some 12, none, .mv (.t 61)⟩] ⟨true, [14, 13, 12, 10, 3, 2, 1, 0], []⟩) ⟨false, [], []⟩)
 (.ops [
 ⟨some 51, none, .mv (.t 14)⟩,
 ⟨some 52, none, .bin .add (.t 51) (.c (.int .i64 1))⟩,
 ⟨some 14, none, .mv (.t 52)⟩] ⟨false, [], []⟩)))
def w242_L1 : WCode := .loop ⟨true, [14, 13, 12, 10, 3, 2, 1, 0], []⟩ w242_B1
def w242_B0 : WCode := (.seq (.seq (.ops [
 ⟨some 37, none, .mv (.t 13)⟩,
 ⟨some 38, none, .mv (.t 10)⟩,
 ⟨some 39, none, .len 1 (.t 38)⟩,
 ⟨some 40, none, .bin .leq (.t 37) (.t 39)⟩] ⟨false, [], []⟩)
 (.cond (.t 40) .skip
 (.exit 0)))
 (.seq (.block 1 (.seq (.seq (.ops [
 ⟨some 14, none, .mv (.c (.int .i64 0))⟩] ⟨false, [], []⟩)
 (.block 2 w242_L1 ⟨true, [13, 12, 10, 3, 2, 1, 0], []⟩))
 w242_c2) ⟨true, [13, 12, 10, 3, 2, 1, 0], []⟩)
 w242_c1))
def w242_L0 : WCode := .loop ⟨true, [13, 12, 10, 3, 2, 1, 0], []⟩ w242_B0
def w242 : WFn := ⟨4, [.tmp 8, .tmp 9],
 (.seq (.ops [
 ⟨some 8, none, .mv (.c (.ro 6 [] true))⟩,
 ⟨some 9, none, .mv (.c (.int .i64 0))⟩] ⟨false, [], []⟩)
 (.seq (.seq (.ops [
 ⟨some 15, none, .mv (.t 1)⟩,
 ⟨some 16, none, .mv (.t 2)⟩,
 ⟨some 17, none, .mv (.t 0)⟩,
 ⟨some 18, none, .len 1 (.t 17)⟩,
 ⟨some 19, none, .call 410 [(.t 15), (.t 16), (.t 18)]⟩,
 ⟨some 20, none, .bin .eql (.t 19) (.c (.int .i64 0))⟩,
 ⟨some 21, none, .mv (.t 20)⟩,
 ⟨some 22, (some (21, false)), .mv (.t 3)⟩,
 ⟨some 23, (some (21, false)), .mv (.t 0)⟩,
 ⟨some 24, (some (21, false)), .len 1 (.t 23)⟩,
 ⟨some 25, (some (21, false)), .mv (.t 2)⟩,
 ⟨some 26, (some (21, false)), .bin .sub (.t 24) (.t 25)⟩,
 ⟨some 27, (some (21, false)), .call 410 [(.t 22), (.c (.int .i64 0)), (.t 26)]⟩,
 ⟨some 28, (some (21, false)), .bin .eql (.t 27) (.c (.int .i64 0))⟩,
 ⟨some 29, none, .pick (.t 21) (.c (.bool true)) (.t 28)⟩] ⟨false, [], []⟩)
 (.cond (.t 29) (.seq (.ops [
 ⟨some 8, none, .mv (.c (.ro 6 [] true))⟩,
 ⟨some 9, none, .mv (.c (.int .i64 4))⟩] ⟨false, [], []⟩)
 .ret)
 .skip))
 (.seq (.ops [
 ⟨some 31, none, .mv (.t 0)⟩,
 ⟨some 32, none, .mv (.t 1)⟩,
 ⟨some 33, none, .mv (.t 2)⟩,
 ⟨some 34, none, .call 241 [(.t 31), (.t 32), (.t 33)]⟩,
 ⟨some 30, none, .mv (.t 34)⟩,
 ⟨some 35, none, .ext 0 (.t 30)⟩,
 ⟨some 36, none, .ext 1 (.t 30)⟩,
 ⟨some 10, none, .mv (.t 35)⟩,
 ⟨some 11, none, .mv (.t 36)⟩] ⟨true, [10, 3, 2, 1, 0], []⟩)
 (.seq (.ops [
 ⟨some 12, none, .mv (.c (.ro 6 [] true))⟩] ⟨true, [12, 10, 3, 2, 1, 0], [(12, 6)]⟩)
 (.seq (.seq (.ops [
 ⟨some 13, none, .mv (.c (.int .i64 0))⟩] ⟨false, [], []⟩)
 (.block 0 w242_L0 ⟨true, [12], []⟩))
 w242_c0)))))⟩

@[simp] theorem w242_E1 {β : Type} {C : WProg} {b : Nat} {f : Ex × WSt → Option β} {k : List Pw.Frame} {s : WSt} : CK C b f k w242_L1 s = LK C b f (.sq w242_L1 :: k) w242_B1 (canon b ⟨true, [14, 13, 12, 10, 3, 2, 1, 0], []⟩ s) := ck_lp rfl
noncomputable abbrev w242_K1 (C : WProg) (s : WSt) : Option AV := CK C 0 (pureFin [.tmp 8, .tmp 9]) [.sq w242_L1, .bk 2 ⟨true, [13, 12, 10, 3, 2, 1, 0], []⟩, .sq w242_c2, .bk 1 ⟨true, [13, 12, 10, 3, 2, 1, 0], []⟩, .sq w242_c1, .sq w242_L0, .bk 0 ⟨true, [12], []⟩, .sq w242_c0] w242_B1 s

@[simp] theorem w242_E0 {β : Type} {C : WProg} {b : Nat} {f : Ex × WSt → Option β} {k : List Pw.Frame} {s : WSt} : CK C b f k w242_L0 s = LK C b f (.sq w242_L0 :: k) w242_B0 (canon b ⟨true, [13, 12, 10, 3, 2, 1, 0], []⟩ s) := ck_lp rfl
noncomputable abbrev w242_K0 (C : WProg) (s : WSt) : Option AV := CK C 0 (pureFin [.tmp 8, .tmp 9]) [.sq w242_L0, .bk 0 ⟨true, [12], []⟩, .sq w242_c0] w242_B0 s

/- paternoster/lists.Move -/
def w237 : WFn := ⟨5, [.cell 10 1 true, .tmp 11],
 (.seq (.ops [
 ⟨some 5, none, .box (.t 0)⟩,
 ⟨some 6, none, .box (.t 1)⟩,
 ⟨some 7, none, .box (.t 2)⟩,
 ⟨some 8, none, .box (.t 3)⟩,
 ⟨some 9, none, .box (.t 4)⟩,
 ⟨some 10, none, .alloc [(.ro 6 [] true)]⟩,
 ⟨some 11, none, .mv (.c (.int .i64 0))⟩] ⟨true, [10, 9, 8, 7, 6, 5], [(5, 65536), (6, 65536), (7, 65536), (8, 65536), (9, 65536)]⟩)
 (.seq (.ops [
 ⟨some 13, none, .load 1 false (.t 7)⟩,
 ⟨some 14, none, .load 1 false (.t 8)⟩,
 ⟨some 15, none, .fld 0 (.t 6)⟩,
 ⟨some 16, none, .load 1 false (.t 15)⟩,
 ⟨some 17, none, .len 1 (.t 16)⟩,
 ⟨some 18, none, .call 219 [(.t 13), (.t 14), (.t 17)]⟩,
 ⟨some 12, none, .mv (.t 18)⟩] ⟨true, [12, 10, 9, 8, 7, 6, 5], []⟩)
 (.seq (.draw [
 ⟨some 19, none, .load 2 true (.t 5)⟩,
 ⟨some 20, none, .load 1 true (.t 6)⟩,
 ⟨some 21, none, .mv (.t 12)⟩,
 ⟨some 22, none, .mv (.t 21)⟩,
 ⟨some 23, (some (22, true)), .load 1 false (.t 9)⟩,
 ⟨some 24, (some (22, true)), .fld 0 (.t 6)⟩,
 ⟨some 25, (some (22, true)), .load 1 false (.t 24)⟩,
 ⟨some 26, (some (22, true)), .len 1 (.t 25)⟩,
 ⟨some 27, (some (22, true)), .load 1 false (.t 8)⟩,
 ⟨some 28, (some (22, true)), .bin .sub (.t 26) (.t 27)⟩,
 ⟨some 29, (some (22, true)), .call 219 [(.t 23), (.c (.int .i64 0)), (.t 28)]⟩,
 ⟨some 30, none, .pick (.t 22) (.t 29) (.c (.bool false))⟩,
 ⟨some 31, none, .mkfn 409 [(.t 6), (.t 7), (.t 8), (.t 9)]⟩,
 ⟨some 32, none, .build [(.bool false), (.int .i64 0), (.ro 4 [] true), .nilf, .nilf] [(0, 1, (.t 30)), (4, 1, (.t 31))]⟩,
 ⟨some 33, none, .call 216 [(.t 19), (.t 20), (.t 32)]⟩,
 ⟨some 34, none, .ext 0 (.t 33)⟩,
 ⟨some 35, none, .ext 1 (.t 33)⟩,
 ⟨none, none, .store 1 (.t 10) (.t 34)⟩,
 ⟨some 11, none, .mv (.t 35)⟩] [(0, 10), (1, 10)] ⟨false, [], []⟩)
 .ret)))⟩

/- paternoster/lists.Change -/
def w114 : WFn := ⟨4, [.cell 8 1 true, .tmp 9],
 (.seq (.ops [
 ⟨some 4, none, .box (.t 0)⟩,
 ⟨some 5, none, .box (.t 1)⟩,
 ⟨some 6, none, .box (.t 2)⟩,
 ⟨some 7, none, .box (.t 3)⟩,
 ⟨some 8, none, .alloc [(.ro 6 [] true)]⟩,
 ⟨some 9, none, .mv (.c (.int .i64 0))⟩] ⟨true, [8, 7, 6, 5, 4], [(4, 65536), (5, 65536), (6, 65536), (7, 65536)]⟩)
 (.seq (.ops [
 ⟨some 11, none, .mkfn 228 [(.t 5), (.t 6)]⟩,
 ⟨some 10, none, .mv (.t 11)⟩] ⟨false, [], []⟩)
 (.seq (.draw [
 ⟨some 12, none, .load 2 true (.t 4)⟩,
 ⟨some 13, none, .load 1 true (.t 5)⟩,
 ⟨some 14, none, .load 1 false (.t 6)⟩,
 ⟨some 15, none, .load 1 false (.t 7)⟩,
 ⟨some 16, none, .len 1 (.t 15)⟩,
 ⟨some 17, none, .fld 0 (.t 5)⟩,
 ⟨some 18, none, .load 1 false (.t 17)⟩,
 ⟨some 19, none, .len 1 (.t 18)⟩,
 ⟨some 20, none, .call 219 [(.t 14), (.t 16), (.t 19)]⟩,
 ⟨some 21, none, .load 1 false (.t 7)⟩,
 ⟨some 22, none, .mv (.t 10)⟩,
 ⟨some 23, none, .mkfn 229 [(.t 5), (.t 6), (.t 7)]⟩,
 ⟨some 24, none, .build [(.bool false), (.int .i64 0), (.ro 4 [] true), .nilf, .nilf] [(0, 1, (.t 20)), (1, 1, (.c (.int .i64 0))), (2, 1, (.t 21)), (3, 1, (.t 22)), (4, 1, (.t 23))]⟩,
 ⟨some 25, none, .call 216 [(.t 12), (.t 13), (.t 24)]⟩,
 ⟨some 26, none, .ext 0 (.t 25)⟩,
 ⟨some 27, none, .ext 1 (.t 25)⟩,
 ⟨none, none, .store 1 (.t 8) (.t 26)⟩,
 ⟨some 9, none, .mv (.t 27)⟩] [(0, 8), (1, 8), (8, 9)] ⟨false, [], []⟩)
 .ret)))⟩

/- paternoster/lists.Set -/
def w113 : WFn := ⟨4, [.cell 8 1 true, .tmp 9],
 (.seq (.ops [
 ⟨some 4, none, .box (.t 0)⟩,
 ⟨some 5, none, .box (.t 1)⟩,
 ⟨some 8, none, .alloc [(.ro 6 [] true)]⟩,
 ⟨some 9, none, .mv (.c (.int .i64 0))⟩] ⟨false, [], []⟩)
 (.seq (.seq (.ops [
 ⟨some 15, none, .load 2 true (.t 4)⟩,
 ⟨some 16, none, .load 1 true (.t 5)⟩,
 ⟨some 17, none, .call 223 [(.t 15), (.t 16)]⟩,
 ⟨some 10, none, .mv (.t 17)⟩] ⟨false, [], []⟩)
 (.seq (.ops [
 ⟨some 18, none, .mv (.t 10)⟩,
 ⟨some 19, none, .bin .neq (.t 18) (.c (.int .i64 0))⟩] ⟨false, [], []⟩)
 (.cond (.t 19) (.seq (.ops [
 ⟨some 20, none, .build [(.ro 6 [] true)] []⟩,
 ⟨some 21, none, .mv (.t 10)⟩,
 ⟨none, none, .store 1 (.t 8) (.t 20)⟩,
 ⟨some 9, none, .mv (.t 21)⟩] ⟨false, [], []⟩)
 .ret)
 .skip)))
 (.seq (.ops [
 ⟨some 23, none, .load 1 true (.t 5)⟩,
 ⟨some 24, none, .mv (.t 2)⟩,
 ⟨some 25, none, .call 224 [(.t 23), (.t 24)]⟩,
 ⟨some 22, none, .mv (.t 25)⟩,
 ⟨some 26, none, .ext 0 (.t 22)⟩,
 ⟨some 27, none, .ext 1 (.t 22)⟩,
 ⟨some 11, none, .mv (.t 26)⟩,
 ⟨some 12, none, .mv (.t 27)⟩] ⟨true, [12, 11, 8, 5, 3], []⟩)
 (.seq (.block 0 (.seq (.ops [
 ⟨some 29, none, .mv (.t 12)⟩,
 ⟨some 30, none, .un .not (.t 29)⟩,
 ⟨some 28, none, .mv (.t 30)⟩] ⟨false, [], []⟩)
 (.cond (.t 28) (.seq (.ops [
 ⟨some 31, none, .build [(.ro 6 [] true)] []⟩,
 ⟨none, none, .store 1 (.t 8) (.t 31)⟩,
 ⟨some 9, none, .mv (.c (.int .i64 11))⟩] ⟨false, [], []⟩)
 .ret)
 (.seq (.ops [
 ⟨some 33, none, .mv (.t 3)⟩,
 ⟨some 34, none, .call 225 [(.t 33)]⟩,
 ⟨some 35, none, .un .not (.t 34)⟩,
 ⟨some 32, none, .mv (.t 35)⟩] ⟨false, [], []⟩)
 (.cond (.t 32) (.seq (.ops [
 ⟨some 36, none, .build [(.ro 6 [] true)] []⟩,
 ⟨none, none, .store 1 (.t 8) (.t 36)⟩,
 ⟨some 9, none, .mv (.c (.int .i64 12))⟩] ⟨false, [], []⟩)
 .ret)
 .skip)))) ⟨false, [], []⟩)
 (.seq (.ops [
 ⟨some 37, none, .fld 0 (.t 5)⟩,
 ⟨some 38, none, .load 1 false (.t 37)⟩,
 ⟨some 39, none, .call 2001 [(.t 38)]⟩,
 ⟨some 13, none, .alloc [(.ro 6 [] true)]⟩,
 ⟨none, none, .store 1 (.t 13) (.t 39)⟩] ⟨false, [], []⟩)
 (.seq (.draw [
 ⟨some 40, none, .fld 0 (.t 13)⟩,
 ⟨some 41, none, .load 1 false (.t 40)⟩,
 ⟨some 42, none, .mv (.t 11)⟩,
 ⟨some 43, none, .fld 0 (.t 13)⟩,
 ⟨some 44, none, .load 1 false (.t 43)⟩,
 ⟨some 45, none, .mv (.t 11)⟩,
 ⟨some 46, none, .mv (.t 3)⟩,
 ⟨some 47, none, .idxs 6 (.t 41) (.t 42)⟩,
 ⟨some 48, none, .fld 4 (.t 47)⟩,
 ⟨none, none, .store 1 (.t 48) (.t 46)⟩,
 ⟨some 49, none, .idxs 6 (.t 44) (.t 45)⟩,
 ⟨some 50, none, .fld 5 (.t 49)⟩,
 ⟨none, none, .store 1 (.t 50) (.c (.bool true))⟩] [(4, 9)] ⟨true, [13, 8], []⟩)
 (.seq (.seq (.ops [
 ⟨some 51, none, .load 1 true (.t 13)⟩,
 ⟨some 52, none, .call 227 [(.t 51)]⟩,
 ⟨some 14, none, .mv (.t 52)⟩] ⟨false, [], []⟩)
 (.seq (.ops [
 ⟨some 53, none, .mv (.t 14)⟩,
 ⟨some 54, none, .bin .neq (.t 53) (.c (.int .i64 0))⟩] ⟨false, [], []⟩)
 (.cond (.t 54) (.seq (.ops [
 ⟨some 55, none, .build [(.ro 6 [] true)] []⟩,
 ⟨some 56, none, .mv (.t 14)⟩,
 ⟨none, none, .store 1 (.t 8) (.t 55)⟩,
 ⟨some 9, none, .mv (.t 56)⟩] ⟨false, [], []⟩)
 .ret)
 .skip)))
 (.seq (.ops [
 ⟨some 57, none, .load 1 true (.t 13)⟩,
 ⟨none, none, .store 1 (.t 8) (.t 57)⟩,
 ⟨some 9, none, .mv (.c (.int .i64 0))⟩] ⟨false, [], []⟩)
 .ret))))))))⟩

/- paternoster/lists.Check -/
def w223_c0 : WCode := (.seq (.ops [
 ⟨some 79, none, .load 1 true (.t 3)⟩,
 ⟨some 80, none, .call 227 [(.t 79)]⟩,
 ⟨some 4, none, .mv (.t 80)⟩] ⟨false, [], []⟩)
 .ret)

def w223_B0 : WCode := (.seq (.ops [
 ⟨some 26, none, .bin .lss (.t 25) (.t 24)⟩] ⟨false, [], []⟩)
 (.seq (.cond (.t 26) .skip
 (.exit 0))
 (.seq (.block 1 (.seq (.ops [
 ⟨some 27, none, .idxs 6 (.t 23) (.t 25)⟩,
 ⟨some 28, none, .load 6 true (.t 27)⟩,
 ⟨some 8, none, .alloc [(.int .u64 0), (.int .u8 0), (.str []), (.ro 1 [] true), (.int .i64 0), (.bool false)]⟩,
 ⟨none, none, .store 6 (.t 8) (.t 28)⟩] ⟨false, [], []⟩)
 (.seq (.seq (.ops [
 ⟨some 29, none, .fld 0 (.t 8)⟩,
 ⟨some 30, none, .load 4 true (.t 29)⟩,
 ⟨some 31, none, .fld 0 (.t 2)⟩,
 ⟨some 32, none, .load 1 false (.t 31)⟩,
 ⟨some 33, none, .len 1 (.t 32)⟩,
 ⟨some 34, none, .call 398 [(.t 30), (.t 33)]⟩,
 ⟨some 9, none, .mv (.t 34)⟩] ⟨false, [], []⟩)
 (.seq (.ops [
 ⟨some 35, none, .mv (.t 9)⟩,
 ⟨some 36, none, .bin .neq (.t 35) (.c (.int .i64 0))⟩] ⟨false, [], []⟩)
 (.cond (.t 36) (.seq (.ops [
 ⟨some 37, none, .mv (.t 9)⟩,
 ⟨some 4, none, .mv (.t 37)⟩] ⟨false, [], []⟩)
 .ret)
 .skip)))
 (.seq (.seq (.ops [
 ⟨some 38, none, .mv (.t 6)⟩,
 ⟨some 39, none, .fld 0 (.t 8)⟩,
 ⟨some 40, none, .fld 0 (.t 39)⟩,
 ⟨some 41, none, .load 1 false (.t 40)⟩,
 ⟨some 42, none, .look 0 (.bool false) false (.t 38) (.t 41)⟩] ⟨true, [42, 25, 24, 23, 8, 6, 3, 2], []⟩)
 (.cond (.t 42) (.seq (.ops [
 ⟨some 4, none, .mv (.c (.int .i64 8))⟩] ⟨false, [], []⟩)
 .ret)
 .skip))
 (.seq (.ops [
 ⟨some 43, none, .mv (.t 6)⟩,
 ⟨some 44, none, .fld 0 (.t 8)⟩,
 ⟨some 45, none, .fld 0 (.t 44)⟩,
 ⟨some 46, none, .load 1 false (.t 45)⟩,
 ⟨none, none, .upd 0 (.t 43) (.t 46) (.c (.bool true))⟩] ⟨false, [], []⟩)
 (.seq (.seq (.ops [
 ⟨some 48, none, .load 2 true (.t 2)⟩,
 ⟨some 49, none, .fld 0 (.t 8)⟩,
 ⟨some 50, none, .load 4 true (.t 49)⟩,
 ⟨some 51, none, .call 399 [(.t 48), (.t 50)]⟩,
 ⟨some 47, none, .mv (.t 51)⟩,
 ⟨some 52, none, .ext 0 (.t 47)⟩,
 ⟨some 53, none, .ext 1 (.t 47)⟩,
 ⟨some 10, none, .alloc [(.int .u8 0), (.str []), (.str []), (.ro 2 [] true), (.str []), (.ro 6 [] true)]⟩,
 ⟨none, none, .store 6 (.t 10) (.t 52)⟩,
 ⟨some 11, none, .mv (.t 53)⟩] ⟨false, [], []⟩)
 (.seq (.ops [
 ⟨some 54, none, .mv (.t 11)⟩,
 ⟨some 55, none, .bin .neq (.t 54) (.c (.int .i64 0))⟩] ⟨false, [], []⟩)
 (.cond (.t 55) (.seq (.ops [
 ⟨some 4, none, .mv (.c (.int .i64 14))⟩] ⟨false, [], []⟩)
 .ret)
 .skip)))
 (.seq (.draw [
 ⟨some 56, none, .fld 4 (.t 8)⟩,
 ⟨some 57, none, .load 1 false (.t 56)⟩,
 ⟨some 58, none, .call 225 [(.t 57)]⟩,
 ⟨some 59, none, .un .not (.t 58)⟩,
 ⟨some 60, none, .mv (.t 59)⟩,
 ⟨some 61, (some (60, false)), .fld 5 (.t 8)⟩,
 ⟨some 62, (some (60, false)), .load 1 false (.t 61)⟩,
 ⟨some 63, (some (60, false)), .un .not (.t 62)⟩,
 ⟨some 64, (some (60, false)), .mv (.t 63)⟩,
 ⟨some 65, (some (64, true)), .fld 4 (.t 8)⟩,
 ⟨some 66, (some (64, true)), .load 1 false (.t 65)⟩,
 ⟨some 67, (some (64, true)), .fld 0 (.t 2)⟩,
 ⟨some 68, (some (64, true)), .load 1 false (.t 67)⟩,
 ⟨some 69, (some (64, true)), .fld 0 (.t 8)⟩,
 ⟨some 70, (some (64, true)), .fld 1 (.t 69)⟩,
 ⟨some 71, (some (64, true)), .load 1 false (.t 70)⟩,
 ⟨some 72, (some (64, true)), .idxs 9 (.t 68) (.t 71)⟩,
 ⟨some 73, (some (64, true)), .fld 6 (.t 72)⟩,
 ⟨some 74, (some (64, true)), .load 1 false (.t 73)⟩,
 ⟨some 75, (some (64, true)), .bin .neq (.t 66) (.t 74)⟩,
 ⟨some 76, (some (60, false)), .pick (.t 64) (.t 75) (.c (.bool false))⟩,
 ⟨some 77, none, .pick (.t 60) (.c (.bool true)) (.t 76)⟩] [] ⟨true, [77, 25, 24, 23, 6, 3, 2], []⟩)
 (.cond (.t 77) (.seq (.ops [
 ⟨some 4, none, .mv (.c (.int .i64 12))⟩] ⟨false, [], []⟩)
 .ret)
 .skip))))))) ⟨false, [], []⟩)
 (.ops [
 ⟨some 78, none, .bin .add (.t 25) (.c (.int .i64 1))⟩,
 ⟨some 25, none, .mv (.t 78)⟩] ⟨false, [], []⟩))))
def w223_L0 : WCode := .loop ⟨true, [25, 24, 23, 6, 3, 2], []⟩ w223_B0
def w223 : WFn := ⟨2, [.tmp 4],
 (.seq (.ops [
 ⟨some 2, none, .box (.t 0)⟩,
 ⟨some 3, none, .box (.t 1)⟩,
 ⟨some 4, none, .mv (.c (.int .i64 0))⟩] ⟨false, [], []⟩)
 (.seq (.seq (.ops [
 ⟨some 12, none, .load 2 true (.t 2)⟩,
 ⟨some 13, none, .call 115 [(.t 12)]⟩,
 ⟨some 5, none, .mv (.t 13)⟩] ⟨false, [], []⟩)
 (.seq (.ops [
 ⟨some 14, none, .mv (.t 5)⟩,
 ⟨some 15, none, .bin .neq (.t 14) (.c (.int .i64 0))⟩] ⟨false, [], []⟩)
 (.cond (.t 15) (.seq (.ops [
 ⟨some 16, none, .mv (.t 5)⟩,
 ⟨some 4, none, .mv (.t 16)⟩] ⟨false, [], []⟩)
 .ret)
 .skip)))
 (.seq (.seq (.ops [
 ⟨some 17, none, .fld 0 (.t 3)⟩,
 ⟨some 18, none, .load 1 false (.t 17)⟩,
 ⟨some 19, none, .len 1 (.t 18)⟩,
 ⟨some 20, none, .bin .gtr (.t 19) (.c (.int .i64 1024))⟩] ⟨true, [20, 3, 2], []⟩)
 (.cond (.t 20) (.seq (.ops [
 ⟨some 4, none, .mv (.c (.int .i64 3))⟩] ⟨false, [], []⟩)
 .ret)
 .skip))
 (.seq (.ops [
 ⟨some 21, none, .mkmap⟩,
 ⟨some 6, none, .mv (.t 21)⟩] ⟨false, [], []⟩)
 (.seq (.seq (.ops [
 ⟨some 22, none, .fld 0 (.t 3)⟩,
 ⟨some 23, none, .load 1 false (.t 22)⟩,
 ⟨some 24, none, .len 1 (.t 23)⟩,
 ⟨some 25, none, .mv (.c (.int .i64 0))⟩] ⟨false, [], []⟩)
 (.block 0 w223_L0 ⟨true, [3], []⟩))
 w223_c0)))))⟩

@[simp] theorem w223_E0 {β : Type} {C : WProg} {b : Nat} {f : Ex × WSt → Option β} {k : List Pw.Frame} {s : WSt} : CK C b f k w223_L0 s = LK C b f (.sq w223_L0 :: k) w223_B0 (canon b ⟨true, [25, 24, 23, 6, 3, 2], []⟩ s) := ck_lp rfl
noncomputable abbrev w223_K0 (C : WProg) (s : WSt) : Option AV := CK C 0 (pureFin [.tmp 4]) [.sq w223_L0, .bk 0 ⟨true, [3], []⟩, .sq w223_c0] w223_B0 s

/- paternoster/paternosterref24.Find -/
def w239_c0 : WCode := (.seq (.ops [
 ⟨some 4, none, .mv (.c (.int .i64 (-1)))⟩] ⟨false, [], []⟩)
 .ret)

def w239_B0 : WCode := (.seq (.seq (.ops [
 ⟨some 6, none, .mv (.t 5)⟩,
 ⟨some 7, none, .mv (.t 0)⟩,
 ⟨some 8, none, .len 1 (.t 7)⟩,
 ⟨some 9, none, .bin .lss (.t 6) (.t 8)⟩] ⟨false, [], []⟩)
 (.cond (.t 9) .skip
 (.exit 0)))
 (.seq (.block 1 (.seq (.ops [
 ⟨some 12, none, .mv (.t 0)⟩,
 ⟨some 13, none, .mv (.t 5)⟩,
 ⟨some 14, none, .idxs 6 (.t 12) (.t 13)⟩,
 ⟨some 15, none, .fld 0 (.t 14)⟩,
 ⟨some 16, none, .fld 0 (.t 15)⟩,
 ⟨some 17, none, .load 1 false (.t 16)⟩,
 ⟨some 18, none, .mv (.t 1)⟩,
 ⟨some 19, none, .bin .eql (.t 17) (.t 18)⟩] ⟨false, [], []⟩)
 (.cond (.t 19) (.seq (.ops [
 ⟨some 20, none, .mv (.t 5)⟩,
 ⟨some 4, none, .mv (.t 20)⟩] ⟨false, [], []⟩)
 .ret)
 .skip)) ⟨false, [], []⟩)
 (.ops [
 ⟨some 10, none, .mv (.t 5)⟩,
 ⟨some 11, none, .bin .add (.t 10) (.c (.int .i64 1))⟩,
 ⟨some 5, none, .mv (.t 11)⟩] ⟨false, [], []⟩)))
def w239_L0 : WCode := .loop ⟨true, [5, 1, 0], []⟩ w239_B0
def w239 : WFn := ⟨2, [.tmp 4],
 (.seq (.ops [
 ⟨some 4, none, .mv (.c (.int .i64 0))⟩] ⟨false, [], []⟩)
 (.seq (.seq (.ops [
 ⟨some 5, none, .mv (.c (.int .i64 0))⟩] ⟨false, [], []⟩)
 (.block 0 w239_L0 ⟨true, [], []⟩))
 w239_c0))⟩

@[simp] theorem w239_E0 {β : Type} {C : WProg} {b : Nat} {f : Ex × WSt → Option β} {k : List Pw.Frame} {s : WSt} : CK C b f k w239_L0 s = LK C b f (.sq w239_L0 :: k) w239_B0 (canon b ⟨true, [5, 1, 0], []⟩ s) := ck_lp rfl
noncomputable abbrev w239_K0 (C : WProg) (s : WSt) : Option AV := CK C 0 (pureFin [.tmp 4]) [.sq w239_L0, .bk 0 ⟨true, [], []⟩, .sq w239_c0] w239_B0 s

/- paternoster/paternosterref24.Fresh -/
def w240 : WFn := ⟨2, [.cell 4 6 true],
 (.seq (.ops [
 ⟨some 2, none, .box (.t 0)⟩,
 ⟨some 3, none, .box (.t 1)⟩,
 ⟨some 4, none, .alloc [(.int .u64 0), (.int .u8 0), (.str []), (.ro 1 [] true), (.int .i64 0), (.bool false)]⟩] ⟨false, [], []⟩)
 (.seq (.draw [
 ⟨some 5, none, .load 4 true (.t 3)⟩,
 ⟨some 6, none, .fld 0 (.t 2)⟩,
 ⟨some 7, none, .load 1 false (.t 6)⟩,
 ⟨some 8, none, .fld 1 (.t 3)⟩,
 ⟨some 9, none, .load 1 false (.t 8)⟩,
 ⟨some 10, none, .idxs 9 (.t 7) (.t 9)⟩,
 ⟨some 11, none, .fld 6 (.t 10)⟩,
 ⟨some 12, none, .load 1 false (.t 11)⟩,
 ⟨some 13, none, .build [(.int .u64 0), (.int .u8 0), (.str []), (.ro 1 [] true), (.int .i64 0), (.bool false)] [(0, 4, (.t 5)), (4, 1, (.t 12))]⟩,
 ⟨none, none, .store 6 (.t 4) (.t 13)⟩] [] ⟨false, [], []⟩)
 .ret))⟩

/- paternoster/paternosterlaw24.parts -/
def w233_c0 : WCode := (.seq (.ops [
 ⟨some 30, none, .mv (.t 5)⟩,
 ⟨some 4, none, .mv (.t 30)⟩] ⟨false, [], []⟩)
 .ret)

def w233_B0 : WCode := (.seq (.seq (.ops [
 ⟨some 7, none, .mv (.t 6)⟩,
 ⟨some 8, none, .fld 5 (.t 2)⟩,
 ⟨some 9, none, .load 1 false (.t 8)⟩,
 ⟨some 10, none, .len 1 (.t 9)⟩,
 ⟨some 11, none, .bin .lss (.t 7) (.t 10)⟩,
 ⟨some 12, none, .mv (.t 11)⟩,
 ⟨some 13, (some (12, true)), .mv (.t 5)⟩,
 ⟨some 14, (some (12, true)), .mv (.t 1)⟩,
 ⟨some 15, (some (12, true)), .bin .leq (.t 13) (.t 14)⟩,
 ⟨some 16, none, .pick (.t 12) (.t 15) (.c (.bool false))⟩] ⟨true, [16, 6, 5, 2, 1], []⟩)
 (.cond (.t 16) .skip
 (.exit 0)))
 (.seq (.block 1 (.ops [
 ⟨some 19, none, .mv (.t 5)⟩,
 ⟨some 20, none, .fld 5 (.t 2)⟩,
 ⟨some 21, none, .load 1 false (.t 20)⟩,
 ⟨some 22, none, .mv (.t 6)⟩,
 ⟨some 23, none, .idxs 6 (.t 21) (.t 22)⟩,
 ⟨some 24, none, .load 6 true (.t 23)⟩,
 ⟨some 25, none, .mv (.t 1)⟩,
 ⟨some 26, none, .mv (.t 5)⟩,
 ⟨some 27, none, .bin .sub (.t 25) (.t 26)⟩,
 ⟨some 28, none, .call 233 [(.t 24), (.t 27)]⟩,
 ⟨some 29, none, .bin .add (.t 19) (.t 28)⟩,
 ⟨some 5, none, .mv (.t 29)⟩] ⟨false, [], []⟩) ⟨false, [], []⟩)
 (.ops [
 ⟨some 17, none, .mv (.t 6)⟩,
 ⟨some 18, none, .bin .add (.t 17) (.c (.int .i64 1))⟩,
 ⟨some 6, none, .mv (.t 18)⟩] ⟨false, [], []⟩)))
def w233_L0 : WCode := .loop ⟨true, [6, 5, 2, 1], []⟩ w233_B0
def w233 : WFn := ⟨2, [.tmp 4],
 (.seq (.ops [
 ⟨some 2, none, .box (.t 0)⟩,
 ⟨some 4, none, .mv (.c (.int .i64 0))⟩] ⟨false, [], []⟩)
 (.seq (.ops [
 ⟨some 5, none, .mv (.c (.int .i64 1))⟩] ⟨false, [], []⟩)
 (.seq (.seq (.ops [
 ⟨some 6, none, .mv (.c (.int .i64 0))⟩] ⟨false, [], []⟩)
 (.block 0 w233_L0 ⟨true, [5], []⟩))
 w233_c0)))⟩

@[simp] theorem w233_E0 {β : Type} {C : WProg} {b : Nat} {f : Ex × WSt → Option β} {k : List Pw.Frame} {s : WSt} : CK C b f k w233_L0 s = LK C b f (.sq w233_L0 :: k) w233_B0 (canon b ⟨true, [6, 5, 2, 1], []⟩ s) := ck_lp rfl
noncomputable abbrev w233_K0 (C : WProg) (s : WSt) : Option AV := CK C 0 (pureFin [.tmp 4]) [.sq w233_L0, .bk 0 ⟨true, [5], []⟩, .sq w233_c0] w233_B0 s

/- paternoster/lists.Valid -/
def w115 : WFn := ⟨1, [.tmp 2],
 (.seq (.ops [
 ⟨some 1, none, .box (.t 0)⟩,
 ⟨some 2, none, .mv (.c (.int .i64 0))⟩] ⟨false, [], []⟩)
 (.seq (.ops [
 ⟨some 3, none, .mv (.c (.fn 230 []))⟩] ⟨false, [], []⟩)
 (.seq (.seq (.ops [
 ⟨some 4, none, .fld 0 (.t 1)⟩,
 ⟨some 5, none, .load 1 false (.t 4)⟩,
 ⟨some 6, none, .len 1 (.t 5)⟩,
 ⟨some 7, none, .bin .lss (.t 6) (.c (.int .i64 1))⟩,
 ⟨some 8, none, .mv (.t 7)⟩,
 ⟨some 9, (some (8, false)), .fld 0 (.t 1)⟩,
 ⟨some 10, (some (8, false)), .load 1 false (.t 9)⟩,
 ⟨some 11, (some (8, false)), .len 1 (.t 10)⟩,
 ⟨some 12, (some (8, false)), .bin .gtr (.t 11) (.c (.int .i64 8))⟩,
 ⟨some 13, none, .pick (.t 8) (.c (.bool true)) (.t 12)⟩,
 ⟨some 14, none, .mv (.t 13)⟩,
 ⟨some 15, (some (14, false)), .fld 1 (.t 1)⟩,
 ⟨some 16, (some (14, false)), .load 1 false (.t 15)⟩,
 ⟨some 17, (some (14, false)), .bin .lss (.t 16) (.c (.int .i64 1))⟩,
 ⟨some 18, none, .pick (.t 14) (.c (.bool true)) (.t 17)⟩,
 ⟨some 19, none, .mv (.t 18)⟩,
 ⟨some 20, (some (19, false)), .fld 1 (.t 1)⟩,
 ⟨some 21, (some (19, false)), .load 1 false (.t 20)⟩,
 ⟨some 22, (some (19, false)), .bin .gtr (.t 21) (.c (.int .i64 64))⟩,
 ⟨some 23, none, .pick (.t 19) (.c (.bool true)) (.t 22)⟩,
 ⟨some 24, none, .mv (.t 23)⟩,
 ⟨some 25, (some (24, false)), .fld 0 (.t 1)⟩,
 ⟨some 26, (some (24, false)), .load 1 false (.t 25)⟩,
 ⟨some 27, (some (24, false)), .mv (.t 3)⟩,
 ⟨some 28, (some (24, false)), .call 232 [(.t 26), (.t 27)]⟩,
 ⟨some 29, none, .pick (.t 24) (.c (.bool true)) (.t 28)⟩] ⟨true, [29], []⟩)
 (.cond (.t 29) (.seq (.ops [
 ⟨some 2, none, .mv (.c (.int .i64 7))⟩] ⟨false, [], []⟩)
 .ret)
 .skip))
 (.seq (.ops [
 ⟨some 2, none, .mv (.c (.int .i64 0))⟩] ⟨false, [], []⟩)
 .ret))))⟩

/- paternoster/paternosterref24.Valid -/
def w236_c0 : WCode := (.seq (.ops [
 ⟨some 2, none, .mv (.c (.int .i64 0))⟩] ⟨false, [], []⟩)
 .ret)

def w236_B0 : WCode := (.seq (.seq (.ops [
 ⟨some 24, none, .mv (.t 3)⟩,
 ⟨some 25, none, .fld 0 (.t 1)⟩,
 ⟨some 26, none, .load 1 false (.t 25)⟩,
 ⟨some 27, none, .len 1 (.t 26)⟩,
 ⟨some 28, none, .bin .lss (.t 24) (.t 27)⟩] ⟨false, [], []⟩)
 (.cond (.t 28) .skip
 (.exit 0)))
 (.seq (.block 1 (.seq (.ops [
 ⟨some 31, none, .fld 0 (.t 1)⟩,
 ⟨some 32, none, .load 1 false (.t 31)⟩,
 ⟨some 33, none, .mv (.t 3)⟩,
 ⟨some 34, none, .idxs 9 (.t 32) (.t 33)⟩,
 ⟨some 35, none, .fld 6 (.t 34)⟩,
 ⟨some 36, none, .load 1 false (.t 35)⟩,
 ⟨some 37, none, .bin .lss (.t 36) (.c (.int .i64 1))⟩,
 ⟨some 38, none, .mv (.t 37)⟩,
 ⟨some 39, (some (38, false)), .fld 0 (.t 1)⟩,
 ⟨some 40, (some (38, false)), .load 1 false (.t 39)⟩,
 ⟨some 41, (some (38, false)), .mv (.t 3)⟩,
 ⟨some 42, (some (38, false)), .idxs 9 (.t 40) (.t 41)⟩,
 ⟨some 43, (some (38, false)), .fld 6 (.t 42)⟩,
 ⟨some 44, (some (38, false)), .load 1 false (.t 43)⟩,
 ⟨some 45, (some (38, false)), .bin .gtr (.t 44) (.c (.int .i64 2305843009213693952))⟩,
 ⟨some 46, none, .pick (.t 38) (.c (.bool true)) (.t 45)⟩,
 ⟨some 47, none, .mv (.t 46)⟩,
 ⟨some 48, (some (47, false)), .fld 0 (.t 1)⟩,
 ⟨some 49, (some (47, false)), .load 1 false (.t 48)⟩,
 ⟨some 50, (some (47, false)), .mv (.t 3)⟩,
 ⟨some 51, (some (47, false)), .idxs 9 (.t 49) (.t 50)⟩,
 ⟨some 52, (some (47, false)), .fld 0 (.t 51)⟩,
 ⟨some 53, (some (47, false)), .load 6 true (.t 52)⟩,
 ⟨some 54, (some (47, false)), .call 408 [(.t 53)]⟩,
 ⟨some 55, (some (47, false)), .bin .gtr (.t 54) (.c (.int .i64 0))⟩,
 ⟨some 56, none, .pick (.t 47) (.c (.bool true)) (.t 55)⟩] ⟨true, [56, 3, 1], []⟩)
 (.cond (.t 56) (.seq (.ops [
 ⟨some 2, none, .mv (.c (.int .i64 7))⟩] ⟨false, [], []⟩)
 .ret)
 .skip)) ⟨false, [], []⟩)
 (.ops [
 ⟨some 29, none, .mv (.t 3)⟩,
 ⟨some 30, none, .bin .add (.t 29) (.c (.int .i64 1))⟩,
 ⟨some 3, none, .mv (.t 30)⟩] ⟨false, [], []⟩)))
def w236_L0 : WCode := .loop ⟨true, [3, 1], []⟩ w236_B0
def w236 : WFn := ⟨1, [.tmp 2],
 (.seq (.ops [
 ⟨some 1, none, .box (.t 0)⟩,
 ⟨some 2, none, .mv (.c (.int .i64 0))⟩] ⟨false, [], []⟩)
 (.seq (.seq (.ops [
 ⟨some 4, none, .fld 0 (.t 1)⟩,
 ⟨some 5, none, .load 1 false (.t 4)⟩,
 ⟨some 6, none, .len 1 (.t 5)⟩,
 ⟨some 7, none, .bin .eql (.t 6) (.c (.int .i64 0))⟩,
 ⟨some 8, none, .mv (.t 7)⟩,
 ⟨some 9, (some (8, false)), .fld 0 (.t 1)⟩,
 ⟨some 10, (some (8, false)), .load 1 false (.t 9)⟩,
 ⟨some 11, (some (8, false)), .len 1 (.t 10)⟩,
 ⟨some 12, (some (8, false)), .bin .gtr (.t 11) (.c (.int .i64 8))⟩,
 ⟨some 13, none, .pick (.t 8) (.c (.bool true)) (.t 12)⟩,
 ⟨some 14, none, .mv (.t 13)⟩,
 ⟨some 15, (some (14, false)), .fld 1 (.t 1)⟩,
 ⟨some 16, (some (14, false)), .load 1 false (.t 15)⟩,
 ⟨some 17, (some (14, false)), .bin .lss (.t 16) (.c (.int .i64 1))⟩,
 ⟨some 18, none, .pick (.t 14) (.c (.bool true)) (.t 17)⟩,
 ⟨some 19, none, .mv (.t 18)⟩,
 ⟨some 20, (some (19, false)), .fld 1 (.t 1)⟩,
 ⟨some 21, (some (19, false)), .load 1 false (.t 20)⟩,
 ⟨some 22, (some (19, false)), .bin .gtr (.t 21) (.c (.int .i64 64))⟩,
 ⟨some 23, none, .pick (.t 19) (.c (.bool true)) (.t 22)⟩] ⟨true, [23, 1], []⟩)
 (.cond (.t 23) (.seq (.ops [
 ⟨some 2, none, .mv (.c (.int .i64 7))⟩] ⟨false, [], []⟩)
 .ret)
 .skip))
 (.seq (.seq (.ops [
 ⟨some 3, none, .mv (.c (.int .i64 0))⟩] ⟨false, [], []⟩)
 (.block 0 w236_L0 ⟨true, [], []⟩))
 w236_c0)))⟩

@[simp] theorem w236_E0 {β : Type} {C : WProg} {b : Nat} {f : Ex × WSt → Option β} {k : List Pw.Frame} {s : WSt} : CK C b f k w236_L0 s = LK C b f (.sq w236_L0 :: k) w236_B0 (canon b ⟨true, [3, 1], []⟩ s) := ck_lp rfl
noncomputable abbrev w236_K0 (C : WProg) (s : WSt) : Option AV := CK C 0 (pureFin [.tmp 2]) [.sq w236_L0, .bk 0 ⟨true, [], []⟩, .sq w236_c0] w236_B0 s

/- paternoster/lists.Tree -/
def w238 : WFn := ⟨3, [.cell 6 6 true, .tmp 7],
 (.seq (.ops [
 ⟨some 3, none, .box (.t 0)⟩,
 ⟨some 4, none, .box (.t 1)⟩,
 ⟨some 6, none, .alloc [(.int .u8 0), (.str []), (.str []), (.ro 2 [] true), (.str []), (.ro 6 [] true)]⟩,
 ⟨some 7, none, .mv (.c (.int .i64 0))⟩] ⟨false, [], []⟩)
 (.seq (.seq (.ops [
 ⟨some 9, none, .load 2 true (.t 3)⟩,
 ⟨some 10, none, .load 1 true (.t 4)⟩,
 ⟨some 11, none, .call 223 [(.t 9), (.t 10)]⟩,
 ⟨some 8, none, .mv (.t 11)⟩] ⟨false, [], []⟩)
 (.seq (.ops [
 ⟨some 12, none, .mv (.t 8)⟩,
 ⟨some 13, none, .bin .neq (.t 12) (.c (.int .i64 0))⟩] ⟨false, [], []⟩)
 (.cond (.t 13) (.seq (.ops [
 ⟨some 14, none, .build [(.int .u8 0), (.str []), (.str []), (.ro 2 [] true), (.str []), (.ro 6 [] true)] []⟩,
 ⟨some 15, none, .mv (.t 8)⟩,
 ⟨none, none, .store 6 (.t 6) (.t 14)⟩,
 ⟨some 7, none, .mv (.t 15)⟩] ⟨false, [], []⟩)
 .ret)
 .skip)))
 (.seq (.seq (.ops [
 ⟨some 16, none, .mv (.t 2)⟩,
 ⟨some 17, none, .bin .lss (.t 16) (.c (.int .i64 0))⟩,
 ⟨some 18, none, .mv (.t 17)⟩,
 ⟨some 19, (some (18, false)), .mv (.t 2)⟩,
 ⟨some 20, (some (18, false)), .fld 0 (.t 4)⟩,
 ⟨some 21, (some (18, false)), .load 1 false (.t 20)⟩,
 ⟨some 22, (some (18, false)), .len 1 (.t 21)⟩,
 ⟨some 23, (some (18, false)), .bin .geq (.t 19) (.t 22)⟩,
 ⟨some 24, none, .pick (.t 18) (.c (.bool true)) (.t 23)⟩] ⟨true, [24, 6, 4, 3, 2], []⟩)
 (.cond (.t 24) (.seq (.ops [
 ⟨some 25, none, .build [(.int .u8 0), (.str []), (.str []), (.ro 2 [] true), (.str []), (.ro 6 [] true)] []⟩,
 ⟨none, none, .store 6 (.t 6) (.t 25)⟩,
 ⟨some 7, none, .mv (.c (.int .i64 4))⟩] ⟨false, [], []⟩)
 .ret)
 .skip))
 (.seq (.draw [
 ⟨some 26, none, .load 2 true (.t 3)⟩,
 ⟨some 27, none, .fld 0 (.t 4)⟩,
 ⟨some 28, none, .load 1 false (.t 27)⟩,
 ⟨some 29, none, .mv (.t 2)⟩,
 ⟨some 30, none, .idxs 6 (.t 28) (.t 29)⟩,
 ⟨some 31, none, .fld 0 (.t 30)⟩,
 ⟨some 32, none, .load 4 true (.t 31)⟩,
 ⟨some 33, none, .call 399 [(.t 26), (.t 32)]⟩,
 ⟨some 34, none, .ext 0 (.t 33)⟩,
 ⟨some 35, none, .ext 1 (.t 33)⟩,
 ⟨none, none, .store 6 (.t 6) (.t 34)⟩,
 ⟨some 7, none, .mv (.t 35)⟩] [] ⟨false, [], []⟩)
 .ret))))⟩

/- paternoster/paternosterlaw24.plain -/
def w107 : WFn := ⟨0, [.cell 0 2 true],
 (.seq (.ops [
 ⟨some 0, none, .alloc [(.ro 9 [] true), (.int .i64 0)]⟩] ⟨false, [], []⟩)
 (.seq (.ops [
 ⟨some 2, none, .build [(.int .u8 0), (.str []), (.str []), (.ro 3 [] true), (.str []), (.ro 6 [] true)] [(0, 1, (.c (.int .u8 1))), (1, 1, (.c (.str [114, 111, 119])))]⟩,
 ⟨some 1, none, .alloc [(.int .u8 0), (.str []), (.str []), (.ro 3 [] true), (.str []), (.ro 6 [] true)]⟩,
 ⟨none, none, .store 6 (.t 1) (.t 2)⟩] ⟨false, [], []⟩)
 (.seq (.ops [
 ⟨some 3, none, .load 6 true (.t 1)⟩,
 ⟨some 4, none, .build [(.int .u8 0), (.str []), (.str []), (.ro 3 [] true), (.str []), (.ro 6 [] true), (.int .i64 0), (.bool false), (.int .i64 0)] [(0, 6, (.t 3)), (6, 1, (.c (.int .i64 10)))]⟩,
 ⟨some 5, none, .load 6 true (.t 1)⟩,
 ⟨some 6, none, .build [(.int .u8 0), (.str []), (.str []), (.ro 3 [] true), (.str []), (.ro 6 [] true), (.int .i64 0), (.bool false), (.int .i64 0)] [(0, 6, (.t 5)), (6, 1, (.c (.int .i64 20)))]⟩,
 ⟨some 7, none, .buildS [(.int .u8 0), (.str []), (.str []), (.ro 3 [] true), (.str []), (.ro 6 [] true), (.int .i64 0), (.bool false), (.int .i64 0)] 2 [(0, (.t 4)), (1, (.t 6))]⟩,
 ⟨some 8, none, .build [(.ro 9 [] true), (.int .i64 0)] [(0, 1, (.t 7)), (1, 1, (.c (.int .i64 1)))]⟩,
 ⟨none, none, .store 2 (.t 0) (.t 8)⟩] ⟨false, [], []⟩)
 .ret)))⟩

/- paternoster/lists.Total -/
def w111_c0 : WCode := (.seq (.ops [
 ⟨some 25, none, .mv (.t 3)⟩,
 ⟨some 2, none, .mv (.t 25)⟩] ⟨false, [], []⟩)
 .ret)

def w111_B0 : WCode := (.seq (.ops [
 ⟨some 11, none, .bin .lss (.t 10) (.t 9)⟩] ⟨false, [], []⟩)
 (.seq (.cond (.t 11) .skip
 (.exit 0))
 (.seq (.block 1 (.seq (.ops [
 ⟨some 12, none, .idxs 6 (.t 8) (.t 10)⟩,
 ⟨some 13, none, .load 6 true (.t 12)⟩,
 ⟨some 5, none, .alloc [(.int .u64 0), (.int .u8 0), (.str []), (.ro 1 [] true), (.int .i64 0), (.bool false)]⟩,
 ⟨none, none, .store 6 (.t 5) (.t 13)⟩] ⟨false, [], []⟩)
 (.seq (.ops [
 ⟨some 14, none, .fld 4 (.t 5)⟩,
 ⟨some 15, none, .load 1 false (.t 14)⟩,
 ⟨some 16, none, .mx (.t 15) (.c (.int .i64 0))⟩,
 ⟨some 6, none, .mv (.t 16)⟩] ⟨false, [], []⟩)
 (.seq (.seq (.ops [
 ⟨some 17, none, .mv (.t 6)⟩,
 ⟨some 18, none, .mv (.t 3)⟩,
 ⟨some 19, none, .bin .sub (.c (.int .i64 4611686018427387904)) (.t 18)⟩,
 ⟨some 20, none, .bin .gtr (.t 17) (.t 19)⟩] ⟨false, [], []⟩)
 (.cond (.t 20) (.seq (.ops [
 ⟨some 2, none, .mv (.c (.int .i64 4611686018427387905))⟩] ⟨false, [], []⟩)
 .ret)
 .skip))
 (.ops [
 ⟨some 21, none, .mv (.t 3)⟩,
 ⟨some 22, none, .mv (.t 6)⟩,
 ⟨some 23, none, .bin .add (.t 21) (.t 22)⟩,
 ⟨some 3, none, .mv (.t 23)⟩] ⟨false, [], []⟩)))) ⟨false, [], []⟩)
 (.ops [
 ⟨some 24, none, .bin .add (.t 10) (.c (.int .i64 1))⟩,
 ⟨some 10, none, .mv (.t 24)⟩] ⟨false, [], []⟩))))
def w111_L0 : WCode := .loop ⟨true, [10, 9, 8, 3], []⟩ w111_B0
def w111 : WFn := ⟨1, [.tmp 2],
 (.seq (.ops [
 ⟨some 1, none, .box (.t 0)⟩,
 ⟨some 2, none, .mv (.c (.int .i64 0))⟩] ⟨false, [], []⟩)
 (.seq (.ops [
 ⟨some 3, none, .mv (.c (.int .i64 0))⟩] ⟨false, [], []⟩)
 (.seq (.seq (.ops [
 ⟨some 7, none, .fld 0 (.t 1)⟩,
 ⟨some 8, none, .load 1 false (.t 7)⟩,
 ⟨some 9, none, .len 1 (.t 8)⟩,
 ⟨some 10, none, .mv (.c (.int .i64 0))⟩] ⟨true, [10, 9, 8, 3], []⟩)
 (.block 0 w111_L0 ⟨true, [3], []⟩))
 w111_c0)))⟩

@[simp] theorem w111_E0 {β : Type} {C : WProg} {b : Nat} {f : Ex × WSt → Option β} {k : List Pw.Frame} {s : WSt} : CK C b f k w111_L0 s = LK C b f (.sq w111_L0 :: k) w111_B0 (canon b ⟨true, [10, 9, 8, 3], []⟩ s) := ck_lp rfl
noncomputable abbrev w111_K0 (C : WProg) (s : WSt) : Option AV := CK C 0 (pureFin [.tmp 2]) [.sq w111_L0, .bk 0 ⟨true, [3], []⟩, .sq w111_c0] w111_B0 s

/- paternoster/paternosterref23.Same -/
def w112_c0 : WCode := (.seq (.ops [
 ⟨some 4, none, .mv (.c (.int .i64 1))⟩] ⟨false, [], []⟩)
 .ret)

def w112_B0 : WCode := (.seq (.seq (.ops [
 ⟨some 34, none, .mv (.t 5)⟩,
 ⟨some 35, none, .fld 3 (.t 2)⟩,
 ⟨some 36, none, .load 1 false (.t 35)⟩,
 ⟨some 37, none, .len 1 (.t 36)⟩,
 ⟨some 38, none, .bin .lss (.t 34) (.t 37)⟩] ⟨false, [], []⟩)
 (.cond (.t 38) .skip
 (.exit 0)))
 (.seq (.block 1 (.seq (.draw [
 ⟨some 41, none, .fld 3 (.t 2)⟩,
 ⟨some 42, none, .load 1 false (.t 41)⟩,
 ⟨some 43, none, .mv (.t 5)⟩,
 ⟨some 44, none, .idxs 1 (.t 42) (.t 43)⟩,
 ⟨some 45, none, .load 1 false (.t 44)⟩,
 ⟨some 46, none, .fld 3 (.t 3)⟩,
 ⟨some 47, none, .load 1 false (.t 46)⟩,
 ⟨some 48, none, .mv (.t 5)⟩,
 ⟨some 49, none, .idxs 1 (.t 47) (.t 48)⟩,
 ⟨some 50, none, .load 1 false (.t 49)⟩,
 ⟨some 51, none, .bin .neq (.t 45) (.t 50)⟩] [] ⟨false, [], []⟩)
 (.cond (.t 51) (.seq (.ops [
 ⟨some 4, none, .mv (.c (.int .i64 0))⟩] ⟨false, [], []⟩)
 .ret)
 .skip)) ⟨false, [], []⟩)
 (.ops [
 ⟨some 39, none, .mv (.t 5)⟩,
 ⟨some 40, none, .bin .add (.t 39) (.c (.int .i64 1))⟩,
 ⟨some 5, none, .mv (.t 40)⟩] ⟨false, [], []⟩)))
def w112_L0 : WCode := .loop ⟨true, [5, 3, 2], []⟩ w112_B0
def w112 : WFn := ⟨2, [.tmp 4],
 (.seq (.ops [
 ⟨some 2, none, .box (.t 0)⟩,
 ⟨some 3, none, .box (.t 1)⟩,
 ⟨some 4, none, .mv (.c (.int .i64 0))⟩] ⟨false, [], []⟩)
 (.seq (.seq (.ops [
 ⟨some 6, none, .fld 0 (.t 2)⟩,
 ⟨some 7, none, .load 1 false (.t 6)⟩,
 ⟨some 8, none, .fld 0 (.t 3)⟩,
 ⟨some 9, none, .load 1 false (.t 8)⟩,
 ⟨some 10, none, .bin .neq (.t 7) (.t 9)⟩,
 ⟨some 11, none, .mv (.t 10)⟩,
 ⟨some 12, (some (11, false)), .fld 1 (.t 2)⟩,
 ⟨some 13, (some (11, false)), .load 1 false (.t 12)⟩,
 ⟨some 14, (some (11, false)), .fld 1 (.t 3)⟩,
 ⟨some 15, (some (11, false)), .load 1 false (.t 14)⟩,
 ⟨some 16, (some (11, false)), .bin .neq (.t 13) (.t 15)⟩,
 ⟨some 17, none, .pick (.t 11) (.c (.bool true)) (.t 16)⟩,
 ⟨some 18, none, .mv (.t 17)⟩,
 ⟨some 19, (some (18, false)), .fld 2 (.t 2)⟩,
 ⟨some 20, (some (18, false)), .load 1 false (.t 19)⟩,
 ⟨some 21, (some (18, false)), .fld 2 (.t 3)⟩,
 ⟨some 22, (some (18, false)), .load 1 false (.t 21)⟩,
 ⟨some 23, (some (18, false)), .bin .neq (.t 20) (.t 22)⟩,
 ⟨some 24, none, .pick (.t 18) (.c (.bool true)) (.t 23)⟩,
 ⟨some 25, none, .mv (.t 24)⟩,
 ⟨some 26, (some (25, false)), .fld 3 (.t 2)⟩,
 ⟨some 27, (some (25, false)), .load 1 false (.t 26)⟩,
 ⟨some 28, (some (25, false)), .len 1 (.t 27)⟩,
 ⟨some 29, (some (25, false)), .fld 3 (.t 3)⟩,
 ⟨some 30, (some (25, false)), .load 1 false (.t 29)⟩,
 ⟨some 31, (some (25, false)), .len 1 (.t 30)⟩,
 ⟨some 32, (some (25, false)), .bin .neq (.t 28) (.t 31)⟩,
 ⟨some 33, none, .pick (.t 25) (.c (.bool true)) (.t 32)⟩] ⟨true, [33, 3, 2], []⟩)
 (.cond (.t 33) (.seq (.ops [
 ⟨some 4, none, .mv (.c (.int .i64 0))⟩] ⟨false, [], []⟩)
 .ret)
 .skip))
 (.seq (.seq (.ops [
 ⟨some 5, none, .mv (.c (.int .i64 0))⟩] ⟨false, [], []⟩)
 (.block 0 w112_L0 ⟨true, [], []⟩))
 w112_c0)))⟩

@[simp] theorem w112_E0 {β : Type} {C : WProg} {b : Nat} {f : Ex × WSt → Option β} {k : List Pw.Frame} {s : WSt} : CK C b f k w112_L0 s = LK C b f (.sq w112_L0 :: k) w112_B0 (canon b ⟨true, [5, 3, 2], []⟩ s) := ck_lp rfl
noncomputable abbrev w112_K0 (C : WProg) (s : WSt) : Option AV := CK C 0 (pureFin [.tmp 4]) [.sq w112_L0, .bk 0 ⟨true, [], []⟩, .sq w112_c0] w112_B0 s

/- paternoster/paternosterlaw24.three -/
def w244 : WFn := ⟨0, [.tmp 0],
 (.seq (.ops [
 ⟨some 0, none, .mv (.c (.ro 4 [] true))⟩] ⟨false, [], []⟩)
 (.seq (.ops [
 ⟨some 1, none, .build [(.int .u64 0), (.int .u8 0), (.str []), (.ro 1 [] true)] [(0, 1, (.c (.int .u64 1)))]⟩,
 ⟨some 2, none, .build [(.int .u64 0), (.int .u8 0), (.str []), (.ro 1 [] true)] [(0, 1, (.c (.int .u64 2))), (1, 1, (.c (.int .u8 1)))]⟩,
 ⟨some 3, none, .build [(.int .u64 0), (.int .u8 0), (.str []), (.ro 1 [] true)] [(0, 1, (.c (.int .u64 3)))]⟩,
 ⟨some 4, none, .buildS [(.int .u64 0), (.int .u8 0), (.str []), (.ro 1 [] true)] 3 [(0, (.t 1)), (1, (.t 2)), (2, (.t 3))]⟩,
 ⟨some 0, none, .mv (.t 4)⟩] ⟨false, [], []⟩)
 .ret))⟩

/- paternoster/paternosterlaw24.keys -/
def w245_c0 : WCode := (.seq (.ops [
 ⟨some 4, none, .mv (.c (.int .i64 1))⟩] ⟨false, [], []⟩)
 .ret)

def w245_B0 : WCode := (.seq (.seq (.ops [
 ⟨some 12, none, .mv (.t 5)⟩,
 ⟨some 13, none, .mv (.t 1)⟩,
 ⟨some 14, none, .len 1 (.t 13)⟩,
 ⟨some 15, none, .bin .lss (.t 12) (.t 14)⟩] ⟨false, [], []⟩)
 (.cond (.t 15) .skip
 (.exit 0)))
 (.seq (.block 1 (.seq (.draw [
 ⟨some 18, none, .fld 0 (.t 2)⟩,
 ⟨some 19, none, .load 1 false (.t 18)⟩,
 ⟨some 20, none, .mv (.t 5)⟩,
 ⟨some 21, none, .idxs 6 (.t 19) (.t 20)⟩,
 ⟨some 22, none, .fld 0 (.t 21)⟩,
 ⟨some 23, none, .fld 0 (.t 22)⟩,
 ⟨some 24, none, .load 1 false (.t 23)⟩,
 ⟨some 25, none, .mv (.t 1)⟩,
 ⟨some 26, none, .mv (.t 5)⟩,
 ⟨some 27, none, .idxs 1 (.t 25) (.t 26)⟩,
 ⟨some 28, none, .load 1 false (.t 27)⟩,
 ⟨some 29, none, .bin .neq (.t 24) (.t 28)⟩] [] ⟨false, [], []⟩)
 (.cond (.t 29) (.seq (.ops [
 ⟨some 4, none, .mv (.c (.int .i64 0))⟩] ⟨false, [], []⟩)
 .ret)
 .skip)) ⟨false, [], []⟩)
 (.ops [
 ⟨some 16, none, .mv (.t 5)⟩,
 ⟨some 17, none, .bin .add (.t 16) (.c (.int .i64 1))⟩,
 ⟨some 5, none, .mv (.t 17)⟩] ⟨false, [], []⟩)))
def w245_L0 : WCode := .loop ⟨true, [5, 2, 1], []⟩ w245_B0
def w245 : WFn := ⟨2, [.tmp 4],
 (.seq (.ops [
 ⟨some 2, none, .box (.t 0)⟩,
 ⟨some 4, none, .mv (.c (.int .i64 0))⟩] ⟨false, [], []⟩)
 (.seq (.seq (.ops [
 ⟨some 6, none, .fld 0 (.t 2)⟩,
 ⟨some 7, none, .load 1 false (.t 6)⟩,
 ⟨some 8, none, .len 1 (.t 7)⟩,
 ⟨some 9, none, .mv (.t 1)⟩,
 ⟨some 10, none, .len 1 (.t 9)⟩,
 ⟨some 11, none, .bin .neq (.t 8) (.t 10)⟩] ⟨true, [11, 2, 1], []⟩)
 (.cond (.t 11) (.seq (.ops [
 ⟨some 4, none, .mv (.c (.int .i64 0))⟩] ⟨false, [], []⟩)
 .ret)
 .skip))
 (.seq (.seq (.ops [
 ⟨some 5, none, .mv (.c (.int .i64 0))⟩] ⟨false, [], []⟩)
 (.block 0 w245_L0 ⟨true, [], []⟩))
 w245_c0)))⟩

@[simp] theorem w245_E0 {β : Type} {C : WProg} {b : Nat} {f : Ex × WSt → Option β} {k : List Pw.Frame} {s : WSt} : CK C b f k w245_L0 s = LK C b f (.sq w245_L0 :: k) w245_B0 (canon b ⟨true, [5, 2, 1], []⟩ s) := ck_lp rfl
noncomputable abbrev w245_K0 (C : WProg) (s : WSt) : Option AV := CK C 0 (pureFin [.tmp 4]) [.sq w245_L0, .bk 0 ⟨true, [], []⟩, .sq w245_c0] w245_B0 s

/- paternoster/paternosterlaw24.Kinds -/
def w126 : WFn := ⟨1, [.tmp 2],
 (.seq (.ops [
 ⟨some 2, none, .mv (.c (.ro 9 [] true))⟩] ⟨false, [], []⟩)
 (.seq (.ops [
 ⟨some 6, none, .build [(.str []), (.int .u8 0), (.str [])] [(0, 1, (.c (.str [110]))), (1, 1, (.c (.int .u8 3)))]⟩,
 ⟨some 7, none, .build [(.str []), (.int .u8 0), (.str [])] [(0, 1, (.c (.str [116, 101, 120, 116]))), (1, 1, (.c (.int .u8 1)))]⟩,
 ⟨some 8, none, .buildS [(.str []), (.int .u8 0), (.str [])] 2 [(0, (.t 6)), (1, (.t 7))]⟩,
 ⟨some 9, none, .build [(.int .u8 0), (.str []), (.str []), (.ro 3 [] true), (.str []), (.ro 6 [] true)] [(0, 1, (.c (.int .u8 3)))]⟩,
 ⟨some 10, none, .buildS [(.int .u8 0), (.str []), (.str []), (.ro 3 [] true), (.str []), (.ro 6 [] true)] 1 [(0, (.t 9))]⟩,
 ⟨some 11, none, .build [(.int .u8 0), (.str []), (.str []), (.ro 3 [] true), (.str []), (.ro 6 [] true)] [(0, 1, (.c (.int .u8 1))), (1, 1, (.c (.str [114, 111, 119]))), (3, 1, (.t 8)), (5, 1, (.t 10))]⟩,
 ⟨some 3, none, .alloc [(.int .u8 0), (.str []), (.str []), (.ro 3 [] true), (.str []), (.ro 6 [] true)]⟩,
 ⟨none, none, .store 6 (.t 3) (.t 11)⟩] ⟨true, [3, 0], []⟩)
 (.seq (.ops [
 ⟨some 12, none, .build [(.str []), (.int .u8 0), (.str [])] [(0, 1, (.c (.str [105, 100]))), (1, 1, (.c (.int .u8 2)))]⟩,
 ⟨some 13, none, .buildS [(.str []), (.int .u8 0), (.str [])] 1 [(0, (.t 12))]⟩,
 ⟨some 14, none, .build [(.int .u8 0), (.str []), (.str []), (.ro 3 [] true), (.str []), (.ro 6 [] true)] [(0, 1, (.c (.int .u8 2))), (4, 1, (.c (.str [35])))]⟩,
 ⟨some 15, none, .build [(.int .u8 0), (.str []), (.str []), (.ro 3 [] true), (.str []), (.ro 6 [] true)] [(0, 1, (.c (.int .u8 4)))]⟩,
 ⟨some 16, none, .buildS [(.int .u8 0), (.str []), (.str []), (.ro 3 [] true), (.str []), (.ro 6 [] true)] 2 [(0, (.t 14)), (1, (.t 15))]⟩,
 ⟨some 17, none, .build [(.int .u8 0), (.str []), (.str []), (.ro 3 [] true), (.str []), (.ro 6 [] true)] [(0, 1, (.c (.int .u8 1))), (1, 1, (.c (.str [104, 101, 97, 100]))), (2, 1, (.c (.str [104]))), (3, 1, (.t 13)), (5, 1, (.t 16))]⟩,
 ⟨some 4, none, .alloc [(.int .u8 0), (.str []), (.str []), (.ro 3 [] true), (.str []), (.ro 6 [] true)]⟩,
 ⟨none, none, .store 6 (.t 4) (.t 17)⟩] ⟨false, [], []⟩)
 (.seq (.ops [
 ⟨some 18, none, .build [(.int .u8 0), (.str []), (.str []), (.ro 3 [] true), (.str []), (.ro 6 [] true)] [(0, 1, (.c (.int .u8 3)))]⟩,
 ⟨some 19, none, .buildS [(.int .u8 0), (.str []), (.str []), (.ro 3 [] true), (.str []), (.ro 6 [] true)] 1 [(0, (.t 18))]⟩,
 ⟨some 20, none, .build [(.int .u8 0), (.str []), (.str []), (.ro 3 [] true), (.str []), (.ro 6 [] true)] [(0, 1, (.c (.int .u8 1))), (1, 1, (.c (.str [98]))), (2, 1, (.c (.str [98, 50]))), (5, 1, (.t 19))]⟩,
 ⟨some 21, none, .build [(.str []), (.int .u8 0), (.str [])] [(0, 1, (.c (.str [111, 102]))), (1, 1, (.c (.int .u8 2)))]⟩,
 ⟨some 22, none, .buildS [(.str []), (.int .u8 0), (.str [])] 1 [(0, (.t 21))]⟩,
 ⟨some 23, none, .build [(.int .u8 0), (.str []), (.str []), (.ro 3 [] true), (.str []), (.ro 6 [] true)] [(0, 1, (.c (.int .u8 5))), (1, 1, (.c (.str [116, 97, 103]))), (3, 1, (.t 22))]⟩,
 ⟨some 24, none, .buildS [(.int .u8 0), (.str []), (.str []), (.ro 3 [] true), (.str []), (.ro 6 [] true)] 2 [(0, (.t 20)), (1, (.t 23))]⟩,
 ⟨some 25, none, .build [(.int .u8 0), (.str []), (.str []), (.ro 3 [] true), (.str []), (.ro 6 [] true)] [(0, 1, (.c (.int .u8 1))), (1, 1, (.c (.str [114, 111, 119]))), (5, 1, (.t 24))]⟩,
 ⟨some 5, none, .alloc [(.int .u8 0), (.str []), (.str []), (.ro 3 [] true), (.str []), (.ro 6 [] true)]⟩,
 ⟨none, none, .store 6 (.t 5) (.t 25)⟩] ⟨false, [], []⟩)
 (.seq (.ops [
 ⟨some 26, none, .load 6 true (.t 3)⟩,
 ⟨some 27, none, .mv (.t 0)⟩,
 ⟨some 28, none, .bin .rem (.t 27) (.c (.int .u8 7))⟩,
 ⟨some 29, none, .cvt .i64 (.t 28)⟩,
 ⟨some 30, none, .bin .add (.c (.int .i64 10)) (.t 29)⟩,
 ⟨some 31, none, .mv (.t 0)⟩,
 ⟨some 32, none, .bin .rem (.t 31) (.c (.int .u8 4))⟩,
 ⟨some 33, none, .cvt .i64 (.t 32)⟩,
 ⟨some 34, none, .build [(.int .u8 0), (.str []), (.str []), (.ro 3 [] true), (.str []), (.ro 6 [] true), (.int .i64 0), (.bool false), (.int .i64 0)] [(0, 6, (.t 26)), (6, 1, (.t 30)), (8, 1, (.t 33))]⟩,
 ⟨some 35, none, .load 6 true (.t 4)⟩,
 ⟨some 36, none, .mv (.t 0)⟩,
 ⟨some 37, none, .bin .rem (.t 36) (.c (.int .u8 3))⟩,
 ⟨some 38, none, .cvt .i64 (.t 37)⟩,
 ⟨some 39, none, .bin .add (.c (.int .i64 6)) (.t 38)⟩,
 ⟨some 40, none, .mv (.t 0)⟩,
 ⟨some 41, none, .bin .quo (.t 40) (.c (.int .u8 4))⟩,
 ⟨some 42, none, .bin .rem (.t 41) (.c (.int .u8 3))⟩,
 ⟨some 43, none, .cvt .i64 (.t 42)⟩,
 ⟨some 44, none, .build [(.int .u8 0), (.str []), (.str []), (.ro 3 [] true), (.str []), (.ro 6 [] true), (.int .i64 0), (.bool false), (.int .i64 0)] [(0, 6, (.t 35)), (6, 1, (.t 39)), (7, 1, (.c (.bool true))), (8, 1, (.t 43))]⟩,
 ⟨some 45, none, .load 6 true (.t 5)⟩,
 ⟨some 46, none, .mv (.t 0)⟩,
 ⟨some 47, none, .bin .rem (.t 46) (.c (.int .u8 16))⟩,
 ⟨some 48, none, .bin .eql (.t 47) (.c (.int .u8 15))⟩,
 ⟨some 49, none, .mv (.t 0)⟩,
 ⟨some 50, none, .bin .quo (.t 49) (.c (.int .u8 8))⟩,
 ⟨some 51, none, .bin .rem (.t 50) (.c (.int .u8 3))⟩,
 ⟨some 52, none, .cvt .i64 (.t 51)⟩,
 ⟨some 53, none, .build [(.int .u8 0), (.str []), (.str []), (.ro 3 [] true), (.str []), (.ro 6 [] true), (.int .i64 0), (.bool false), (.int .i64 0)] [(0, 6, (.t 45)), (6, 1, (.c (.int .i64 20))), (7, 1, (.t 48)), (8, 1, (.t 52))]⟩,
 ⟨some 54, none, .buildS [(.int .u8 0), (.str []), (.str []), (.ro 3 [] true), (.str []), (.ro 6 [] true), (.int .i64 0), (.bool false), (.int .i64 0)] 3 [(0, (.t 34)), (1, (.t 44)), (2, (.t 53))]⟩,
 ⟨some 2, none, .mv (.t 54)⟩] ⟨true, [2], []⟩)
 .ret)))))⟩

/- (paternoster/paternosterlaw23.I).Of -/
def w270_c0 : WCode := (.seq (.ops [
 ⟨some 32, none, .mv (.t 3)⟩,
 ⟨some 2, none, .mv (.t 32)⟩] ⟨false, [], []⟩)
 .ret)

def w270_B0 : WCode := (.seq (.seq (.ops [
 ⟨some 6, none, .mv (.t 4)⟩,
 ⟨some 7, none, .fld 0 (.t 1)⟩,
 ⟨some 8, none, .load 1 false (.t 7)⟩,
 ⟨some 9, none, .len 1 (.t 8)⟩,
 ⟨some 10, none, .bin .lss (.t 6) (.t 9)⟩,
 ⟨some 11, none, .mv (.t 10)⟩,
 ⟨some 12, (some (11, true)), .mv (.t 4)⟩,
 ⟨some 13, (some (11, true)), .bin .lss (.t 12) (.c (.int .i64 12))⟩,
 ⟨some 14, none, .pick (.t 11) (.t 13) (.c (.bool false))⟩] ⟨true, [14, 4, 3, 1], []⟩)
 (.cond (.t 14) .skip
 (.exit 0)))
 (.seq (.block 1 (.seq (.ops [
 ⟨some 17, none, .fld 0 (.t 1)⟩,
 ⟨some 18, none, .load 1 false (.t 17)⟩,
 ⟨some 19, none, .mv (.t 4)⟩,
 ⟨some 20, none, .idxs 4 (.t 18) (.t 19)⟩,
 ⟨some 21, none, .load 4 true (.t 20)⟩,
 ⟨some 22, none, .call 422 [(.t 21)]⟩,
 ⟨some 5, none, .alloc [(.int .u64 0), (.int .u8 0), (.str []), (.ro 1 [] true)]⟩,
 ⟨none, none, .store 4 (.t 5) (.t 22)⟩] ⟨false, [], []⟩)
 (.seq (.ops [
 ⟨some 23, none, .mv (.t 3)⟩,
 ⟨some 24, none, .fld 0 (.t 5)⟩,
 ⟨some 25, none, .load 1 false (.t 24)⟩,
 ⟨some 26, none, .call 423 [(.t 23), (.t 25)]⟩,
 ⟨some 27, none, .bin .lss (.t 26) (.c (.int .i64 0))⟩] ⟨false, [], []⟩)
 (.cond (.t 27) (.ops [
 ⟨some 28, none, .mv (.t 3)⟩,
 ⟨some 29, none, .load 4 true (.t 5)⟩,
 ⟨some 30, none, .buildS [(.int .u64 0), (.int .u8 0), (.str []), (.ro 1 [] true)] 1 [(0, (.t 29))]⟩,
 ⟨some 31, none, .app [(.int .u64 0), (.int .u8 0), (.str []), (.ro 1 [] true)] 56 false (.t 28) (.t 30)⟩,
 ⟨some 3, none, .mv (.t 31)⟩] ⟨false, [], []⟩)
 .skip))) ⟨false, [], []⟩)
 (.ops [
 ⟨some 15, none, .mv (.t 4)⟩,
 ⟨some 16, none, .bin .add (.t 15) (.c (.int .i64 1))⟩,
 ⟨some 4, none, .mv (.t 16)⟩] ⟨false, [], []⟩)))
def w270_L0 : WCode := .loop ⟨true, [4, 3, 1], []⟩ w270_B0
def w270 : WFn := ⟨1, [.tmp 2],
 (.seq (.ops [
 ⟨some 1, none, .box (.t 0)⟩,
 ⟨some 2, none, .mv (.c (.ro 4 [] true))⟩] ⟨false, [], []⟩)
 (.seq (.ops [
 ⟨some 3, none, .mv (.c (.ro 4 [] true))⟩] ⟨true, [3, 1], [(3, 4)]⟩)
 (.seq (.seq (.ops [
 ⟨some 4, none, .mv (.c (.int .i64 0))⟩] ⟨false, [], []⟩)
 (.block 0 w270_L0 ⟨true, [3], []⟩))
 w270_c0)))⟩

@[simp] theorem w270_E0 {β : Type} {C : WProg} {b : Nat} {f : Ex × WSt → Option β} {k : List Pw.Frame} {s : WSt} : CK C b f k w270_L0 s = LK C b f (.sq w270_L0 :: k) w270_B0 (canon b ⟨true, [4, 3, 1], []⟩ s) := ck_lp rfl
noncomputable abbrev w270_K0 (C : WProg) (s : WSt) : Option AV := CK C 0 (pureFin [.tmp 2]) [.sq w270_L0, .bk 0 ⟨true, [3], []⟩, .sq w270_c0] w270_B0 s

/- paternoster/paternosterref24.Item -/
def w271 : WFn := ⟨3, [.tmp 6],
 (.seq (.ops [
 ⟨some 3, none, .box (.t 0)⟩,
 ⟨some 4, none, .box (.t 1)⟩,
 ⟨some 6, none, .mv (.c (.int .i64 0))⟩] ⟨false, [], []⟩)
 (.seq (.seq (.ops [
 ⟨some 9, none, .load 4 true (.t 4)⟩,
 ⟨some 10, none, .fld 0 (.t 3)⟩,
 ⟨some 11, none, .load 1 false (.t 10)⟩,
 ⟨some 12, none, .len 1 (.t 11)⟩,
 ⟨some 13, none, .call 424 [(.t 9), (.t 12)]⟩,
 ⟨some 14, none, .bin .gtr (.t 13) (.c (.int .i64 0))⟩] ⟨false, [], []⟩)
 (.cond (.t 14) (.seq (.ops [
 ⟨some 6, none, .mv (.c (.int .i64 6))⟩] ⟨false, [], []⟩)
 .ret)
 .skip))
 (.seq (.seq (.ops [
 ⟨some 15, none, .mv (.t 2)⟩,
 ⟨some 16, none, .bin .eql (.t 15) (.c (.int .i64 1))⟩] ⟨true, [16, 4, 3], []⟩)
 (.cond (.t 16) (.seq (.ops [
 ⟨some 6, none, .mv (.c (.int .i64 8))⟩] ⟨false, [], []⟩)
 .ret)
 .skip))
 (.seq (.draw [
 ⟨some 18, none, .fld 0 (.t 3)⟩,
 ⟨some 19, none, .load 1 false (.t 18)⟩,
 ⟨some 20, none, .fld 1 (.t 4)⟩,
 ⟨some 21, none, .load 1 false (.t 20)⟩,
 ⟨some 22, none, .idxs 9 (.t 19) (.t 21)⟩,
 ⟨some 23, none, .fld 0 (.t 22)⟩,
 ⟨some 24, none, .load 6 true (.t 23)⟩,
 ⟨some 25, none, .load 4 true (.t 4)⟩,
 ⟨some 26, none, .fld 1 (.t 3)⟩,
 ⟨some 27, none, .load 1 false (.t 26)⟩,
 ⟨some 28, none, .call 425 [(.t 24), (.t 25), (.t 27)]⟩,
 ⟨some 17, none, .mv (.t 28)⟩,
 ⟨some 29, none, .ext 0 (.t 17)⟩,
 ⟨some 30, none, .ext 1 (.t 17)⟩,
 ⟨some 7, none, .alloc [(.int .u8 0), (.str []), (.str []), (.ro 2 [] true), (.str []), (.ro 6 [] true)]⟩,
 ⟨none, none, .store 6 (.t 7) (.t 29)⟩,
 ⟨some 8, none, .mv (.t 30)⟩] [(1, 14), (3, 14), (6, 14), (7, 14), (9, 14), (10, 14)] ⟨false, [], []⟩)
 (.seq (.seq (.ops [
 ⟨some 31, none, .mv (.t 8)⟩,
 ⟨some 32, none, .bin .gtr (.t 31) (.c (.int .i64 0))⟩] ⟨false, [], []⟩)
 (.cond (.t 32) (.seq (.ops [
 ⟨some 6, none, .mv (.c (.int .i64 14))⟩] ⟨false, [], []⟩)
 .ret)
 .skip))
 (.seq (.ops [
 ⟨some 6, none, .mv (.c (.int .i64 0))⟩] ⟨false, [], []⟩)
 .ret))))))⟩

/- paternoster/paternosterref24.Incoming -/
def w532_c0 : WCode := (.seq (.ops [
 ⟨some 6, none, .mv (.c (.int .i64 0))⟩] ⟨false, [], []⟩)
 .ret)

def w532_B0 : WCode := (.seq (.seq (.ops [
 ⟨some 9, none, .mv (.t 7)⟩,
 ⟨some 10, none, .mv (.t 2)⟩,
 ⟨some 11, none, .len 1 (.t 10)⟩,
 ⟨some 12, none, .bin .lss (.t 9) (.t 11)⟩] ⟨false, [], []⟩)
 (.cond (.t 12) .skip
 (.exit 0)))
 (.seq (.block 1 (.seq (.draw [
 ⟨some 15, none, .mv (.t 1)⟩,
 ⟨some 16, none, .mv (.t 2)⟩,
 ⟨some 17, none, .mv (.t 7)⟩,
 ⟨some 18, none, .idxs 4 (.t 16) (.t 17)⟩,
 ⟨some 19, none, .fld 0 (.t 18)⟩,
 ⟨some 20, none, .load 1 false (.t 19)⟩,
 ⟨some 21, none, .call 239 [(.t 15), (.t 20)]⟩,
 ⟨some 22, none, .bin .geq (.t 21) (.c (.int .i64 0))⟩,
 ⟨some 23, none, .mv (.t 22)⟩,
 ⟨some 24, (some (23, false)), .mv (.t 2)⟩,
 ⟨some 25, (some (23, false)), .mv (.t 7)⟩,
 ⟨some 26, (some (23, false)), .slice 4 (.t 24) none (some (.t 25)) none⟩,
 ⟨some 27, (some (23, false)), .mv (.t 2)⟩,
 ⟨some 28, (some (23, false)), .mv (.t 7)⟩,
 ⟨some 29, (some (23, false)), .idxs 4 (.t 27) (.t 28)⟩,
 ⟨some 30, (some (23, false)), .fld 0 (.t 29)⟩,
 ⟨some 31, (some (23, false)), .load 1 false (.t 30)⟩,
 ⟨some 32, (some (23, false)), .call 423 [(.t 26), (.t 31)]⟩,
 ⟨some 33, (some (23, false)), .bin .geq (.t 32) (.c (.int .i64 0))⟩,
 ⟨some 34, none, .pick (.t 23) (.c (.bool true)) (.t 33)⟩,
 ⟨some 35, none, .call 406 [(.t 34)]⟩,
 ⟨some 8, none, .mv (.t 35)⟩] [] ⟨true, [8, 7, 3, 2, 1], []⟩)
 (.seq (.draw [
 ⟨some 36, none, .load 2 true (.t 3)⟩,
 ⟨some 37, none, .mv (.t 2)⟩,
 ⟨some 38, none, .mv (.t 7)⟩,
 ⟨some 39, none, .idxs 4 (.t 37) (.t 38)⟩,
 ⟨some 40, none, .load 4 true (.t 39)⟩,
 ⟨some 41, none, .mv (.t 8)⟩,
 ⟨some 42, none, .call 271 [(.t 36), (.t 40), (.t 41)]⟩,
 ⟨some 43, none, .bin .gtr (.t 42) (.c (.int .i64 0))⟩] [] ⟨false, [], []⟩)
 (.cond (.t 43) (.seq (.draw [
 ⟨some 44, none, .load 2 true (.t 3)⟩,
 ⟨some 45, none, .mv (.t 2)⟩,
 ⟨some 46, none, .mv (.t 7)⟩,
 ⟨some 47, none, .idxs 4 (.t 45) (.t 46)⟩,
 ⟨some 48, none, .load 4 true (.t 47)⟩,
 ⟨some 49, none, .mv (.t 8)⟩,
 ⟨some 50, none, .call 271 [(.t 44), (.t 48), (.t 49)]⟩,
 ⟨some 6, none, .mv (.t 50)⟩] [] ⟨false, [], []⟩)
 .ret)
 .skip))) ⟨false, [], []⟩)
 (.ops [
 ⟨some 13, none, .mv (.t 7)⟩,
 ⟨some 14, none, .bin .add (.t 13) (.c (.int .i64 1))⟩,
 ⟨some 7, none, .mv (.t 14)⟩] ⟨false, [], []⟩)))
def w532_L0 : WCode := .loop ⟨true, [7, 3, 2, 1], []⟩ w532_B0
def w532 : WFn := ⟨3, [.tmp 6],
 (.seq (.ops [
 ⟨some 3, none, .box (.t 0)⟩,
 ⟨some 6, none, .mv (.c (.int .i64 0))⟩] ⟨false, [], []⟩)
 (.seq (.seq (.ops [
 ⟨some 7, none, .mv (.c (.int .i64 0))⟩] ⟨false, [], []⟩)
 (.block 0 w532_L0 ⟨true, [], []⟩))
 w532_c0))⟩

@[simp] theorem w532_E0 {β : Type} {C : WProg} {b : Nat} {f : Ex × WSt → Option β} {k : List Pw.Frame} {s : WSt} : CK C b f k w532_L0 s = LK C b f (.sq w532_L0 :: k) w532_B0 (canon b ⟨true, [7, 3, 2, 1], []⟩ s) := ck_lp rfl
noncomputable abbrev w532_K0 (C : WProg) (s : WSt) : Option AV := CK C 0 (pureFin [.tmp 6]) [.sq w532_L0, .bk 0 ⟨true, [], []⟩, .sq w532_c0] w532_B0 s

/- paternoster/paternosterref24.Over -/
def w407 : WFn := ⟨1, [.tmp 2],
 (.seq (.ops [
 ⟨some 2, none, .mv (.c (.int .i64 0))⟩] ⟨false, [], []⟩)
 (.seq (.seq (.ops [
 ⟨some 3, none, .mv (.t 0)⟩,
 ⟨some 4, none, .call 504 [(.t 3)]⟩,
 ⟨some 5, none, .bin .gtr (.t 4) (.c (.int .i64 4611686018427387904))⟩] ⟨false, [], []⟩)
 (.cond (.t 5) (.seq (.ops [
 ⟨some 2, none, .mv (.c (.int .i64 13))⟩] ⟨false, [], []⟩)
 .ret)
 .skip))
 (.seq (.ops [
 ⟨some 2, none, .mv (.c (.int .i64 0))⟩] ⟨false, [], []⟩)
 .ret)))⟩

/- paternoster/lists.do -/
def w216_c0 : WCode := (.seq (.draw [
 ⟨some 64, none, .fld 4 (.t 5)⟩,
 ⟨some 65, none, .load 1 false (.t 64)⟩,
 ⟨some 66, none, .load 2 true (.t 3)⟩,
 ⟨some 67, none, .fld 2 (.t 5)⟩,
 ⟨some 68, none, .load 1 false (.t 67)⟩,
 ⟨some 69, none, .call 400 [(.t 66), (.t 68)]⟩,
 ⟨some 70, none, .callv (.t 65) [(.t 69)]⟩,
 ⟨some 71, none, .call 226 [(.t 70)]⟩,
 ⟨some 12, none, .alloc [(.ro 6 [] true)]⟩,
 ⟨none, none, .store 1 (.t 12) (.t 71)⟩] [(1, 5), (1, 8), (2, 8), (4, 8), (5, 8), (6, 8), (7, 8)] ⟨false, [], []⟩)
 (.seq (.seq (.ops [
 ⟨some 72, none, .load 1 true (.t 12)⟩,
 ⟨some 73, none, .call 227 [(.t 72)]⟩,
 ⟨some 13, none, .mv (.t 73)⟩] ⟨false, [], []⟩)
 (.seq (.ops [
 ⟨some 74, none, .mv (.t 13)⟩,
 ⟨some 75, none, .bin .neq (.t 74) (.c (.int .i64 0))⟩] ⟨false, [], []⟩)
 (.cond (.t 75) (.seq (.ops [
 ⟨some 76, none, .build [(.ro 6 [] true)] []⟩,
 ⟨some 77, none, .mv (.t 13)⟩,
 ⟨none, none, .store 1 (.t 6) (.t 76)⟩,
 ⟨some 7, none, .mv (.t 77)⟩] ⟨false, [], []⟩)
 .ret)
 .skip)))
 (.seq (.ops [
 ⟨some 78, none, .load 1 true (.t 12)⟩,
 ⟨none, none, .store 1 (.t 6) (.t 78)⟩,
 ⟨some 7, none, .mv (.c (.int .i64 0))⟩] ⟨false, [], []⟩)
 .ret)))

def w216_B0 : WCode := (.seq (.ops [
 ⟨some 35, none, .bin .lss (.t 34) (.t 33)⟩] ⟨false, [], []⟩)
 (.seq (.cond (.t 35) .skip
 (.exit 1))
 (.seq (.block 2 (.seq (.ops [
 ⟨some 36, none, .mv (.t 34)⟩,
 ⟨some 37, none, .idxs 4 (.t 32) (.t 34)⟩,
 ⟨some 38, none, .load 4 true (.t 37)⟩,
 ⟨some 10, none, .alloc [(.int .u64 0), (.int .u8 0), (.str []), (.ro 1 [] true)]⟩,
 ⟨some 9, none, .mv (.t 36)⟩,
 ⟨none, none, .store 4 (.t 10) (.t 38)⟩] ⟨false, [], []⟩)
 (.seq (.ops [
 ⟨some 39, none, .load 4 true (.t 10)⟩,
 ⟨some 40, none, .fld 0 (.t 3)⟩,
 ⟨some 41, none, .load 1 false (.t 40)⟩,
 ⟨some 42, none, .len 1 (.t 41)⟩,
 ⟨some 43, none, .call 398 [(.t 39), (.t 42)]⟩,
 ⟨some 11, none, .mv (.t 43)⟩] ⟨true, [34, 33, 32, 11, 10, 9, 6, 5, 3], []⟩)
 (.seq (.seq (.ops [
 ⟨some 44, none, .mv (.t 11)⟩,
 ⟨some 45, none, .bin .eql (.t 44) (.c (.int .i64 0))⟩] ⟨false, [], []⟩)
 (.cond (.t 45) (.ops [
 ⟨some 46, none, .fld 3 (.t 5)⟩,
 ⟨some 47, none, .load 1 false (.t 46)⟩,
 ⟨some 48, none, .mv (.t 9)⟩,
 ⟨some 49, none, .load 4 true (.t 10)⟩,
 ⟨some 50, none, .callv (.t 47) [(.t 48), (.t 49)]⟩,
 ⟨some 11, none, .mv (.t 50)⟩] ⟨false, [], []⟩)
 .skip))
 (.seq (.seq (.ops [
 ⟨some 51, none, .mv (.t 11)⟩,
 ⟨some 52, none, .bin .eql (.t 51) (.c (.int .i64 0))⟩] ⟨false, [], []⟩)
 (.cond (.t 52) (.ops [
 ⟨some 54, none, .load 2 true (.t 3)⟩,
 ⟨some 55, none, .load 4 true (.t 10)⟩,
 ⟨some 56, none, .call 399 [(.t 54), (.t 55)]⟩,
 ⟨some 53, none, .mv (.t 56)⟩,
 ⟨some 57, none, .ext 0 (.t 53)⟩,
 ⟨some 58, none, .ext 1 (.t 53)⟩,
 ⟨some 11, none, .mv (.t 58)⟩] ⟨false, [], []⟩)
 .skip))
 (.seq (.ops [
 ⟨some 59, none, .mv (.t 11)⟩,
 ⟨some 60, none, .bin .neq (.t 59) (.c (.int .i64 0))⟩] ⟨false, [], []⟩)
 (.cond (.t 60) (.seq (.ops [
 ⟨some 61, none, .build [(.ro 6 [] true)] []⟩,
 ⟨some 62, none, .mv (.t 11)⟩,
 ⟨none, none, .store 1 (.t 6) (.t 61)⟩,
 ⟨some 7, none, .mv (.t 62)⟩] ⟨false, [], []⟩)
 .ret)
 .skip)))))) ⟨false, [], []⟩)
 (.ops [
 ⟨some 63, none, .bin .add (.t 34) (.c (.int .i64 1))⟩,
 ⟨some 34, none, .mv (.t 63)⟩] ⟨true, [34, 33, 32, 6, 5, 3], []⟩))))
def w216_L0 : WCode := .loop ⟨true, [34, 33, 32, 6, 5, 3], []⟩ w216_B0
def w216 : WFn := ⟨3, [.cell 6 1 true, .tmp 7],
 (.seq (.ops [
 ⟨some 3, none, .box (.t 0)⟩,
 ⟨some 4, none, .box (.t 1)⟩,
 ⟨some 5, none, .box (.t 2)⟩,
 ⟨some 6, none, .alloc [(.ro 6 [] true)]⟩,
 ⟨some 7, none, .mv (.c (.int .i64 0))⟩] ⟨false, [], []⟩)
 (.seq (.seq (.ops [
 ⟨some 14, none, .load 2 true (.t 3)⟩,
 ⟨some 15, none, .load 1 true (.t 4)⟩,
 ⟨some 16, none, .call 223 [(.t 14), (.t 15)]⟩,
 ⟨some 8, none, .mv (.t 16)⟩] ⟨false, [], []⟩)
 (.seq (.ops [
 ⟨some 17, none, .mv (.t 8)⟩,
 ⟨some 18, none, .bin .neq (.t 17) (.c (.int .i64 0))⟩] ⟨false, [], []⟩)
 (.cond (.t 18) (.seq (.ops [
 ⟨some 19, none, .build [(.ro 6 [] true)] []⟩,
 ⟨some 20, none, .mv (.t 8)⟩,
 ⟨none, none, .store 1 (.t 6) (.t 19)⟩,
 ⟨some 7, none, .mv (.t 20)⟩] ⟨false, [], []⟩)
 .ret)
 .skip)))
 (.seq (.block 0 (.seq (.ops [
 ⟨some 22, none, .fld 0 (.t 5)⟩,
 ⟨some 23, none, .load 1 false (.t 22)⟩,
 ⟨some 24, none, .un .not (.t 23)⟩,
 ⟨some 21, none, .mv (.t 24)⟩] ⟨true, [21, 6, 5, 3], []⟩)
 (.cond (.t 21) (.seq (.ops [
 ⟨some 25, none, .build [(.ro 6 [] true)] []⟩,
 ⟨none, none, .store 1 (.t 6) (.t 25)⟩,
 ⟨some 7, none, .mv (.c (.int .i64 4))⟩] ⟨false, [], []⟩)
 .ret)
 (.seq (.ops [
 ⟨some 27, none, .fld 1 (.t 5)⟩,
 ⟨some 28, none, .load 1 false (.t 27)⟩,
 ⟨some 29, none, .bin .gtr (.t 28) (.c (.int .i64 1024))⟩,
 ⟨some 26, none, .mv (.t 29)⟩] ⟨false, [], []⟩)
 (.cond (.t 26) (.seq (.ops [
 ⟨some 30, none, .build [(.ro 6 [] true)] []⟩,
 ⟨none, none, .store 1 (.t 6) (.t 30)⟩,
 ⟨some 7, none, .mv (.c (.int .i64 3))⟩] ⟨false, [], []⟩)
 .ret)
 .skip)))) ⟨false, [], []⟩)
 (.seq (.seq (.ops [
 ⟨some 31, none, .fld 2 (.t 5)⟩,
 ⟨some 32, none, .load 1 false (.t 31)⟩,
 ⟨some 33, none, .len 1 (.t 32)⟩,
 ⟨some 34, none, .mv (.c (.int .i64 0))⟩] ⟨false, [], []⟩)
 (.block 1 w216_L0 ⟨true, [6, 5, 3], []⟩))
 w216_c0))))⟩

@[simp] theorem w216_E0 {β : Type} {C : WProg} {b : Nat} {f : Ex × WSt → Option β} {k : List Pw.Frame} {s : WSt} : CK C b f k w216_L0 s = LK C b f (.sq w216_L0 :: k) w216_B0 (canon b ⟨true, [34, 33, 32, 6, 5, 3], []⟩ s) := ck_lp rfl
noncomputable abbrev w216_K0 (C : WProg) (s : WSt) : Option AV := CK C 0 (pureFin [.cell 6 1 true, .tmp 7]) [.sq w216_L0, .bk 1 ⟨true, [6, 5, 3], []⟩, .sq w216_c0] w216_B0 s

/- paternoster/lists.within -/
def w219 : WFn := ⟨3, [.tmp 6],
 (.seq (.ops [
 ⟨some 6, none, .mv (.c (.bool false))⟩] ⟨false, [], []⟩)
 (.seq (.ops [
 ⟨some 7, none, .mv (.t 0)⟩,
 ⟨some 8, none, .bin .geq (.t 7) (.c (.int .i64 0))⟩,
 ⟨some 9, none, .mv (.t 8)⟩,
 ⟨some 10, (some (9, true)), .mv (.t 0)⟩,
 ⟨some 11, (some (9, true)), .mv (.t 2)⟩,
 ⟨some 12, (some (9, true)), .bin .leq (.t 10) (.t 11)⟩,
 ⟨some 13, none, .pick (.t 9) (.t 12) (.c (.bool false))⟩,
 ⟨some 14, none, .mv (.t 13)⟩,
 ⟨some 15, (some (14, true)), .mv (.t 1)⟩,
 ⟨some 16, (some (14, true)), .bin .geq (.t 15) (.c (.int .i64 0))⟩,
 ⟨some 17, none, .pick (.t 14) (.t 16) (.c (.bool false))⟩,
 ⟨some 18, none, .mv (.t 17)⟩,
 ⟨some 19, (some (18, true)), .mv (.t 1)⟩,
 ⟨some 20, (some (18, true)), .mv (.t 2)⟩,
 ⟨some 21, (some (18, true)), .mv (.t 0)⟩,
 ⟨some 22, (some (18, true)), .bin .sub (.t 20) (.t 21)⟩,
 ⟨some 23, (some (18, true)), .bin .leq (.t 19) (.t 22)⟩,
 ⟨some 24, none, .pick (.t 18) (.t 23) (.c (.bool false))⟩,
 ⟨some 6, none, .mv (.t 24)⟩] ⟨false, [], []⟩)
 .ret))⟩

/- paternoster/lists.unseen -/
def w217_c0 : WCode := (.seq (.ops [
 ⟨some 18, none, .mkfn 401 [(.t 3)]⟩,
 ⟨some 2, none, .mv (.t 18)⟩] ⟨false, [], []⟩)
 .ret)

def w217_B0 : WCode := (.seq (.ops [
 ⟨some 10, none, .bin .lss (.t 9) (.t 8)⟩] ⟨false, [], []⟩)
 (.seq (.cond (.t 10) .skip
 (.exit 0))
 (.seq (.block 1 (.seq (.ops [
 ⟨some 11, none, .idxs 6 (.t 7) (.t 9)⟩,
 ⟨some 12, none, .load 6 true (.t 11)⟩,
 ⟨some 5, none, .alloc [(.int .u64 0), (.int .u8 0), (.str []), (.ro 1 [] true), (.int .i64 0), (.bool false)]⟩,
 ⟨none, none, .store 6 (.t 5) (.t 12)⟩] ⟨false, [], []⟩)
 (.ops [
 ⟨some 13, none, .load 1 false (.t 3)⟩,
 ⟨some 14, none, .fld 0 (.t 5)⟩,
 ⟨some 15, none, .fld 0 (.t 14)⟩,
 ⟨some 16, none, .load 1 false (.t 15)⟩,
 ⟨none, none, .upd 0 (.t 13) (.t 16) (.c (.bool true))⟩] ⟨false, [], []⟩)) ⟨false, [], []⟩)
 (.ops [
 ⟨some 17, none, .bin .add (.t 9) (.c (.int .i64 1))⟩,
 ⟨some 9, none, .mv (.t 17)⟩] ⟨false, [], []⟩))))
def w217_L0 : WCode := .loop ⟨true, [9, 8, 7, 3], []⟩ w217_B0
def w217 : WFn := ⟨1, [.tmp 2],
 (.seq (.ops [
 ⟨some 2, none, .mv (.c .nilf)⟩] ⟨false, [], []⟩)
 (.seq (.ops [
 ⟨some 6, none, .mkmap⟩,
 ⟨some 3, none, .alloc [.nilm]⟩,
 ⟨none, none, .store 1 (.t 3) (.t 6)⟩] ⟨false, [], []⟩)
 (.seq (.seq (.ops [
 ⟨some 7, none, .mv (.t 0)⟩,
 ⟨some 8, none, .len 1 (.t 7)⟩,
 ⟨some 9, none, .mv (.c (.int .i64 0))⟩] ⟨false, [], []⟩)
 (.block 0 w217_L0 ⟨true, [3], []⟩))
 w217_c0)))⟩

@[simp] theorem w217_E0 {β : Type} {C : WProg} {b : Nat} {f : Ex × WSt → Option β} {k : List Pw.Frame} {s : WSt} : CK C b f k w217_L0 s = LK C b f (.sq w217_L0 :: k) w217_B0 (canon b ⟨true, [9, 8, 7, 3], []⟩ s) := ck_lp rfl
noncomputable abbrev w217_K0 (C : WProg) (s : WSt) : Option AV := CK C 0 (pureFin [.tmp 2]) [.sq w217_L0, .bk 0 ⟨true, [3], []⟩, .sq w217_c0] w217_B0 s

/- paternoster/lists.Insert$1 -/
def w220 : WFn := ⟨3, [.tmp 4],
 (.seq (.ops [
 ⟨some 4, none, .mv (.c (.ro 6 [] true))⟩] ⟨false, [], []⟩)
 (.seq (.ops [
 ⟨some 5, none, .fld 0 (.t 1)⟩,
 ⟨some 6, none, .load 1 false (.t 5)⟩,
 ⟨some 7, none, .load 1 false (.t 2)⟩,
 ⟨some 8, none, .mv (.t 0)⟩,
 ⟨some 9, none, .call 221 [(.t 6), (.t 7), (.c (.int .i64 0)), (.t 8)]⟩,
 ⟨some 4, none, .mv (.t 9)⟩] ⟨false, [], []⟩)
 .ret))⟩

/- paternoster/lists.splice[paternoster/lists.Entry] -/
def w221 : WFn := ⟨4, [.tmp 8],
 (.seq (.ops [
 ⟨some 8, none, .mv (.c (.ro 6 [] true))⟩] ⟨false, [], []⟩)
 (.seq (.ops [
 ⟨some 10, none, .mv (.t 0)⟩,
 ⟨some 11, none, .len 1 (.t 10)⟩,
 ⟨some 12, none, .mv (.t 2)⟩,
 ⟨some 13, none, .bin .sub (.t 11) (.t 12)⟩,
 ⟨some 14, none, .mv (.t 3)⟩,
 ⟨some 15, none, .len 1 (.t 14)⟩,
 ⟨some 16, none, .bin .add (.t 13) (.t 15)⟩,
 ⟨some 17, none, .mksl [(.int .u64 0), (.int .u8 0), (.str []), (.ro 1 [] true), (.int .i64 0), (.bool false)] 72 (.c (.int .i64 0)) (.t 16)⟩,
 ⟨some 9, none, .mv (.t 17)⟩] ⟨true, [9, 3, 2, 1, 0], []⟩)
 (.seq (.ops [
 ⟨some 18, none, .mv (.t 9)⟩,
 ⟨some 19, none, .mv (.t 0)⟩,
 ⟨some 20, none, .mv (.t 1)⟩,
 ⟨some 21, none, .slice 6 (.t 19) none (some (.t 20)) none⟩,
 ⟨some 22, none, .app [(.int .u64 0), (.int .u8 0), (.str []), (.ro 1 [] true), (.int .i64 0), (.bool false)] 72 false (.t 18) (.t 21)⟩,
 ⟨some 9, none, .mv (.t 22)⟩] ⟨false, [], []⟩)
 (.seq (.ops [
 ⟨some 23, none, .mv (.t 9)⟩,
 ⟨some 24, none, .mv (.t 3)⟩,
 ⟨some 25, none, .app [(.int .u64 0), (.int .u8 0), (.str []), (.ro 1 [] true), (.int .i64 0), (.bool false)] 72 false (.t 23) (.t 24)⟩,
 ⟨some 9, none, .mv (.t 25)⟩] ⟨false, [], []⟩)
 (.seq (.ops [
 ⟨some 26, none, .mv (.t 9)⟩,
 ⟨some 27, none, .mv (.t 0)⟩,
 ⟨some 28, none, .mv (.t 1)⟩,
 ⟨some 29, none, .mv (.t 2)⟩,
 ⟨some 30, none, .bin .add (.t 28) (.t 29)⟩,
 ⟨some 31, none, .slice 6 (.t 27) (some (.t 30)) none none⟩,
 ⟨some 32, none, .app [(.int .u64 0), (.int .u8 0), (.str []), (.ro 1 [] true), (.int .i64 0), (.bool false)] 72 false (.t 26) (.t 31)⟩,
 ⟨some 8, none, .mv (.t 32)⟩] ⟨false, [], []⟩)
 .ret)))))⟩

/- paternoster/lists.Reset$1 -/
def w218 : WFn := ⟨1, [.tmp 2],
 (.seq (.ops [
 ⟨some 2, none, .mv (.c (.ro 6 [] true))⟩] ⟨false, [], []⟩)
 (.seq (.ops [
 ⟨some 3, none, .mv (.t 0)⟩,
 ⟨some 2, none, .mv (.t 3)⟩] ⟨false, [], []⟩)
 .ret))⟩

/- paternoster/paternosterref24.is -/
def w406 : WFn := ⟨1, [.tmp 2],
 (.seq (.ops [
 ⟨some 2, none, .mv (.c (.int .i64 0))⟩] ⟨false, [], []⟩)
 (.seq (.seq (.ops [
 ⟨some 3, none, .mv (.t 0)⟩] ⟨false, [], []⟩)
 (.cond (.t 3) (.seq (.ops [
 ⟨some 2, none, .mv (.c (.int .i64 1))⟩] ⟨false, [], []⟩)
 .ret)
 .skip))
 (.seq (.ops [
 ⟨some 2, none, .mv (.c (.int .i64 0))⟩] ⟨false, [], []⟩)
 .ret)))⟩

/- paternoster/paternosterref24.Inside -/
def w410 : WFn := ⟨3, [.tmp 6],
 (.seq (.ops [
 ⟨some 6, none, .mv (.c (.int .i64 0))⟩] ⟨false, [], []⟩)
 (.seq (.ops [
 ⟨some 7, none, .mv (.t 0)⟩,
 ⟨some 8, none, .bin .geq (.t 7) (.c (.int .i64 0))⟩,
 ⟨some 9, none, .mv (.t 8)⟩,
 ⟨some 10, (some (9, true)), .mv (.t 0)⟩,
 ⟨some 11, (some (9, true)), .mv (.t 2)⟩,
 ⟨some 12, (some (9, true)), .bin .leq (.t 10) (.t 11)⟩,
 ⟨some 13, none, .pick (.t 9) (.t 12) (.c (.bool false))⟩,
 ⟨some 14, none, .mv (.t 13)⟩,
 ⟨some 15, (some (14, true)), .mv (.t 1)⟩,
 ⟨some 16, (some (14, true)), .bin .geq (.t 15) (.c (.int .i64 0))⟩,
 ⟨some 17, none, .pick (.t 14) (.t 16) (.c (.bool false))⟩,
 ⟨some 18, none, .mv (.t 17)⟩,
 ⟨some 19, (some (18, true)), .mv (.t 1)⟩,
 ⟨some 20, (some (18, true)), .mv (.t 2)⟩,
 ⟨some 21, (some (18, true)), .mv (.t 0)⟩,
 ⟨some 22, (some (18, true)), .bin .sub (.t 20) (.t 21)⟩,
 ⟨some 23, (some (18, true)), .bin .leq (.t 19) (.t 22)⟩,
 ⟨some 24, none, .pick (.t 18) (.t 23) (.c (.bool false))⟩,
 ⟨some 25, none, .call 406 [(.t 24)]⟩,
 ⟨some 6, none, .mv (.t 25)⟩] ⟨false, [], []⟩)
 .ret))⟩

/- paternoster/lists.Remove$1 -/
def w222 : WFn := ⟨4, [.tmp 5],
 (.seq (.ops [
 ⟨some 5, none, .mv (.c (.ro 6 [] true))⟩] ⟨false, [], []⟩)
 (.seq (.ops [
 ⟨some 6, none, .fld 0 (.t 1)⟩,
 ⟨some 7, none, .load 1 false (.t 6)⟩,
 ⟨some 8, none, .load 1 false (.t 2)⟩,
 ⟨some 9, none, .load 1 false (.t 3)⟩,
 ⟨some 10, none, .call 221 [(.t 7), (.t 8), (.t 9), (.c (.ro 6 [] true))]⟩,
 ⟨some 5, none, .mv (.t 10)⟩] ⟨false, [], []⟩)
 .ret))⟩

/- paternoster/lists.Move$1 -/
def w409 : WFn := ⟨5, [.tmp 6],
 (.seq (.ops [
 ⟨some 6, none, .mv (.c (.ro 6 [] true))⟩] ⟨false, [], []⟩)
 (.seq (.draw [
 ⟨some 7, none, .fld 0 (.t 1)⟩,
 ⟨some 8, none, .load 1 false (.t 7)⟩,
 ⟨some 9, none, .load 1 false (.t 2)⟩,
 ⟨some 10, none, .load 1 false (.t 3)⟩,
 ⟨some 11, none, .call 221 [(.t 8), (.t 9), (.t 10), (.c (.ro 6 [] true))]⟩,
 ⟨some 12, none, .load 1 false (.t 4)⟩,
 ⟨some 13, none, .fld 0 (.t 1)⟩,
 ⟨some 14, none, .load 1 false (.t 13)⟩,
 ⟨some 15, none, .load 1 false (.t 2)⟩,
 ⟨some 16, none, .load 1 false (.t 2)⟩,
 ⟨some 17, none, .load 1 false (.t 3)⟩,
 ⟨some 18, none, .bin .add (.t 16) (.t 17)⟩,
 ⟨some 19, none, .slice 6 (.t 14) (some (.t 15)) (some (.t 18)) none⟩,
 ⟨some 20, none, .call 221 [(.t 11), (.t 12), (.c (.int .i64 0)), (.t 19)]⟩,
 ⟨some 6, none, .mv (.t 20)⟩] [(4, 5), (4, 7), (4, 8), (4, 9), (4, 10)] ⟨false, [], []⟩)
 .ret))⟩

/- paternoster/lists.Change$1 -/
def w228 : WFn := ⟨4, [.tmp 6],
 (.seq (.ops [
 ⟨some 5, none, .box (.t 1)⟩,
 ⟨some 6, none, .mv (.c (.int .i64 0))⟩] ⟨false, [], []⟩)
 (.seq (.seq (.draw [
 ⟨some 7, none, .fld 0 (.t 2)⟩,
 ⟨some 8, none, .load 1 false (.t 7)⟩,
 ⟨some 9, none, .load 1 false (.t 3)⟩,
 ⟨some 10, none, .mv (.t 0)⟩,
 ⟨some 11, none, .bin .add (.t 9) (.t 10)⟩,
 ⟨some 12, none, .idxs 6 (.t 8) (.t 11)⟩,
 ⟨some 13, none, .fld 0 (.t 12)⟩,
 ⟨some 14, none, .fld 0 (.t 13)⟩,
 ⟨some 15, none, .load 1 false (.t 14)⟩,
 ⟨some 16, none, .fld 0 (.t 5)⟩,
 ⟨some 17, none, .load 1 false (.t 16)⟩,
 ⟨some 18, none, .bin .neq (.t 15) (.t 17)⟩] [] ⟨false, [], []⟩)
 (.cond (.t 18) (.seq (.ops [
 ⟨some 6, none, .mv (.c (.int .i64 9))⟩] ⟨false, [], []⟩)
 .ret)
 .skip))
 (.seq (.ops [
 ⟨some 6, none, .mv (.c (.int .i64 0))⟩] ⟨false, [], []⟩)
 .ret)))⟩

/- paternoster/lists.Change$2 -/
def w229 : WFn := ⟨4, [.tmp 5],
 (.seq (.ops [
 ⟨some 5, none, .mv (.c (.ro 6 [] true))⟩] ⟨false, [], []⟩)
 (.seq (.ops [
 ⟨some 6, none, .fld 0 (.t 1)⟩,
 ⟨some 7, none, .load 1 false (.t 6)⟩,
 ⟨some 8, none, .load 1 false (.t 2)⟩,
 ⟨some 9, none, .load 1 false (.t 3)⟩,
 ⟨some 10, none, .len 1 (.t 9)⟩,
 ⟨some 11, none, .mv (.t 0)⟩,
 ⟨some 12, none, .call 221 [(.t 7), (.t 8), (.t 10), (.t 11)]⟩,
 ⟨some 5, none, .mv (.t 12)⟩] ⟨false, [], []⟩)
 .ret))⟩

/- paternoster/lists.Find -/
def w224 : WFn := ⟨2, [.tmp 4, .tmp 5],
 (.seq (.ops [
 ⟨some 2, none, .box (.t 0)⟩,
 ⟨some 3, none, .box (.t 1)⟩,
 ⟨some 4, none, .mv (.c (.int .i64 0))⟩,
 ⟨some 5, none, .mv (.c (.bool false))⟩] ⟨false, [], []⟩)
 (.seq (.ops [
 ⟨some 6, none, .fld 0 (.t 2)⟩,
 ⟨some 7, none, .load 1 false (.t 6)⟩,
 ⟨some 8, none, .mkfn 403 [(.t 3)]⟩,
 ⟨some 9, none, .call 402 [(.t 7), (.t 8)]⟩,
 ⟨some 4, none, .mv (.t 9)⟩] ⟨false, [], []⟩)
 (.seq (.ops [
 ⟨some 10, none, .mv (.t 4)⟩,
 ⟨some 11, none, .mx (.t 10) (.c (.int .i64 0))⟩,
 ⟨some 12, none, .mv (.t 4)⟩,
 ⟨some 13, none, .bin .geq (.t 12) (.c (.int .i64 0))⟩,
 ⟨some 4, none, .mv (.t 11)⟩,
 ⟨some 5, none, .mv (.t 13)⟩] ⟨false, [], []⟩)
 .ret)))⟩

/- paternoster/lists.height -/
def w225 : WFn := ⟨1, [.tmp 2],
 (.seq (.ops [
 ⟨some 2, none, .mv (.c (.bool false))⟩] ⟨false, [], []⟩)
 (.seq (.ops [
 ⟨some 3, none, .mv (.t 0)⟩,
 ⟨some 4, none, .bin .geq (.t 3) (.c (.int .i64 1))⟩,
 ⟨some 5, none, .mv (.t 4)⟩,
 ⟨some 6, (some (5, true)), .mv (.t 0)⟩,
 ⟨some 7, (some (5, true)), .bin .leq (.t 6) (.c (.int .i64 2305843009213693952))⟩,
 ⟨some 8, none, .pick (.t 5) (.t 7) (.c (.bool false))⟩,
 ⟨some 2, none, .mv (.t 8)⟩] ⟨false, [], []⟩)
 .ret))⟩

/- paternoster/lists.own -/
def w226_c0 : WCode := (.seq (.ops [
 ⟨some 32, none, .mv (.t 3)⟩,
 ⟨some 33, none, .build [(.ro 6 [] true)] [(0, 1, (.t 32))]⟩,
 ⟨none, none, .store 1 (.t 2) (.t 33)⟩] ⟨false, [], []⟩)
 .ret)

def w226_B0 : WCode := (.seq (.ops [
 ⟨some 16, none, .bin .lss (.t 15) (.t 14)⟩] ⟨false, [], []⟩)
 (.seq (.cond (.t 16) .skip
 (.exit 0))
 (.seq (.block 1 (.seq (.ops [
 ⟨some 17, none, .mv (.t 15)⟩,
 ⟨some 18, none, .idxs 6 (.t 13) (.t 15)⟩,
 ⟨some 19, none, .load 6 true (.t 18)⟩,
 ⟨some 5, none, .alloc [(.int .u64 0), (.int .u8 0), (.str []), (.ro 1 [] true), (.int .i64 0), (.bool false)]⟩,
 ⟨some 4, none, .mv (.t 17)⟩,
 ⟨none, none, .store 6 (.t 5) (.t 19)⟩] ⟨true, [15, 14, 13, 5, 4, 3, 2], []⟩)
 (.seq (.ops [
 ⟨some 20, none, .fld 0 (.t 5)⟩,
 ⟨some 21, none, .load 4 true (.t 20)⟩,
 ⟨some 22, none, .buildS [(.int .u64 0), (.int .u8 0), (.str []), (.ro 1 [] true)] 1 [(0, (.t 21))]⟩,
 ⟨some 23, none, .call 340 [(.t 22)]⟩,
 ⟨some 24, none, .idxs 4 (.t 23) (.c (.int .i64 0))⟩,
 ⟨some 25, none, .load 4 true (.t 24)⟩,
 ⟨some 26, none, .fld 0 (.t 5)⟩,
 ⟨none, none, .store 4 (.t 26) (.t 25)⟩] ⟨false, [], []⟩)
 (.ops [
 ⟨some 27, none, .mv (.t 3)⟩,
 ⟨some 28, none, .mv (.t 4)⟩,
 ⟨some 29, none, .load 6 true (.t 5)⟩,
 ⟨some 30, none, .idxs 6 (.t 27) (.t 28)⟩,
 ⟨none, none, .store 6 (.t 30) (.t 29)⟩] ⟨false, [], []⟩))) ⟨false, [], []⟩)
 (.ops [
 ⟨some 31, none, .bin .add (.t 15) (.c (.int .i64 1))⟩,
 ⟨some 15, none, .mv (.t 31)⟩] ⟨false, [], []⟩))))
def w226_L0 : WCode := .loop ⟨true, [15, 14, 13, 3, 2], []⟩ w226_B0
def w226 : WFn := ⟨1, [.cell 2 1 true],
 (.seq (.ops [
 ⟨some 2, none, .alloc [(.ro 6 [] true)]⟩] ⟨false, [], []⟩)
 (.seq (.seq (.ops [
 ⟨some 6, none, .mv (.t 0)⟩,
 ⟨some 7, none, .len 1 (.t 6)⟩,
 ⟨some 8, none, .bin .eql (.t 7) (.c (.int .i64 0))⟩] ⟨false, [], []⟩)
 (.cond (.t 8) (.seq (.ops [
 ⟨some 9, none, .build [(.ro 6 [] true)] []⟩,
 ⟨none, none, .store 1 (.t 2) (.t 9)⟩] ⟨false, [], []⟩)
 .ret)
 .skip))
 (.seq (.ops [
 ⟨some 10, none, .mv (.t 0)⟩,
 ⟨some 11, none, .len 1 (.t 10)⟩,
 ⟨some 12, none, .mksl [(.int .u64 0), (.int .u8 0), (.str []), (.ro 1 [] true), (.int .i64 0), (.bool false)] 72 (.t 11) (.t 11)⟩,
 ⟨some 3, none, .mv (.t 12)⟩] ⟨false, [], []⟩)
 (.seq (.seq (.ops [
 ⟨some 13, none, .mv (.t 0)⟩,
 ⟨some 14, none, .len 1 (.t 13)⟩,
 ⟨some 15, none, .mv (.c (.int .i64 0))⟩] ⟨false, [], []⟩)
 (.block 0 w226_L0 ⟨true, [3, 2], []⟩))
 w226_c0))))⟩

@[simp] theorem w226_E0 {β : Type} {C : WProg} {b : Nat} {f : Ex × WSt → Option β} {k : List Pw.Frame} {s : WSt} : CK C b f k w226_L0 s = LK C b f (.sq w226_L0 :: k) w226_B0 (canon b ⟨true, [15, 14, 13, 3, 2], []⟩ s) := ck_lp rfl
noncomputable abbrev w226_K0 (C : WProg) (s : WSt) : Option AV := CK C 0 (pureFin [.cell 2 1 true]) [.sq w226_L0, .bk 0 ⟨true, [3, 2], []⟩, .sq w226_c0] w226_B0 s

/- paternoster/lists.total -/
def w227 : WFn := ⟨1, [.tmp 2],
 (.seq (.ops [
 ⟨some 1, none, .box (.t 0)⟩,
 ⟨some 2, none, .mv (.c (.int .i64 0))⟩] ⟨false, [], []⟩)
 (.seq (.seq (.ops [
 ⟨some 3, none, .load 1 true (.t 1)⟩,
 ⟨some 4, none, .call 111 [(.t 3)]⟩,
 ⟨some 5, none, .bin .gtr (.t 4) (.c (.int .i64 4611686018427387904))⟩] ⟨false, [], []⟩)
 (.cond (.t 5) (.seq (.ops [
 ⟨some 2, none, .mv (.c (.int .i64 13))⟩] ⟨false, [], []⟩)
 .ret)
 .skip))
 (.seq (.ops [
 ⟨some 2, none, .mv (.c (.int .i64 0))⟩] ⟨false, [], []⟩)
 .ret)))⟩

/- paternoster/items.Check -/
def w398 : WFn := ⟨2, [.tmp 4],
 (.seq (.ops [
 ⟨some 2, none, .box (.t 0)⟩,
 ⟨some 4, none, .mv (.c (.int .i64 0))⟩] ⟨false, [], []⟩)
 (.seq (.ops [
 ⟨some 7, none, .mkfn 494 [(.t 2)]⟩,
 ⟨some 5, none, .mv (.t 7)⟩] ⟨false, [], []⟩)
 (.seq (.ops [
 ⟨some 8, none, .mkfn 497 [(.t 2)]⟩,
 ⟨some 6, none, .mv (.t 8)⟩] ⟨true, [6, 5, 2, 1], []⟩)
 (.seq (.seq (.ops [
 ⟨some 9, none, .fld 0 (.t 2)⟩,
 ⟨some 10, none, .load 1 false (.t 9)⟩,
 ⟨some 11, none, .bin .eql (.t 10) (.c (.int .u64 0))⟩,
 ⟨some 12, none, .mv (.t 11)⟩,
 ⟨some 13, (some (12, false)), .fld 1 (.t 2)⟩,
 ⟨some 14, (some (12, false)), .load 1 false (.t 13)⟩,
 ⟨some 15, (some (12, false)), .cvt .i64 (.t 14)⟩,
 ⟨some 16, (some (12, false)), .mv (.t 1)⟩,
 ⟨some 17, (some (12, false)), .bin .geq (.t 15) (.t 16)⟩,
 ⟨some 18, none, .pick (.t 12) (.c (.bool true)) (.t 17)⟩,
 ⟨some 19, none, .mv (.t 18)⟩,
 ⟨some 20, (some (19, false)), .mv (.t 5)⟩,
 ⟨some 21, (some (19, false)), .callv (.t 20) []⟩,
 ⟨some 22, (some (19, false)), .un .not (.t 21)⟩,
 ⟨some 23, none, .pick (.t 19) (.c (.bool true)) (.t 22)⟩,
 ⟨some 24, none, .mv (.t 23)⟩,
 ⟨some 25, (some (24, false)), .mv (.t 6)⟩,
 ⟨some 26, (some (24, false)), .callv (.t 25) []⟩,
 ⟨some 27, (some (24, false)), .un .not (.t 26)⟩,
 ⟨some 28, none, .pick (.t 24) (.c (.bool true)) (.t 27)⟩] ⟨false, [], []⟩)
 (.cond (.t 28) (.seq (.ops [
 ⟨some 4, none, .mv (.c (.int .i64 6))⟩] ⟨false, [], []⟩)
 .ret)
 .skip))
 (.seq (.ops [
 ⟨some 4, none, .mv (.c (.int .i64 0))⟩] ⟨false, [], []⟩)
 .ret)))))⟩

/- (paternoster/lists.Rules).render -/
def w399 : WFn := ⟨2, [.cell 4 6 true, .tmp 5],
 (.seq (.ops [
 ⟨some 2, none, .box (.t 0)⟩,
 ⟨some 3, none, .box (.t 1)⟩,
 ⟨some 4, none, .alloc [(.int .u8 0), (.str []), (.str []), (.ro 2 [] true), (.str []), (.ro 6 [] true)]⟩,
 ⟨some 5, none, .mv (.c (.int .i64 0))⟩] ⟨false, [], []⟩)
 (.seq (.draw [
 ⟨some 6, none, .fld 0 (.t 2)⟩,
 ⟨some 7, none, .load 1 false (.t 6)⟩,
 ⟨some 8, none, .fld 1 (.t 3)⟩,
 ⟨some 9, none, .load 1 false (.t 8)⟩,
 ⟨some 10, none, .idxs 9 (.t 7) (.t 9)⟩,
 ⟨some 11, none, .fld 0 (.t 10)⟩,
 ⟨some 12, none, .load 6 true (.t 11)⟩,
 ⟨some 13, none, .load 4 true (.t 3)⟩,
 ⟨some 14, none, .fld 1 (.t 2)⟩,
 ⟨some 15, none, .load 1 false (.t 14)⟩,
 ⟨some 16, none, .call 501 [(.t 12), (.t 13), (.t 15)]⟩,
 ⟨some 17, none, .ext 0 (.t 16)⟩,
 ⟨some 18, none, .ext 1 (.t 16)⟩,
 ⟨none, none, .store 6 (.t 4) (.t 17)⟩,
 ⟨some 5, none, .mv (.t 18)⟩] [] ⟨false, [], []⟩)
 .ret))⟩

/- paternoster/lists.Valid$1 -/
def w230 : WFn := ⟨1, [.tmp 2],
 (.seq (.ops [
 ⟨some 1, none, .box (.t 0)⟩,
 ⟨some 2, none, .mv (.c (.bool false))⟩] ⟨false, [], []⟩)
 (.seq (.ops [
 ⟨some 3, none, .fld 6 (.t 1)⟩,
 ⟨some 4, none, .load 1 false (.t 3)⟩,
 ⟨some 5, none, .call 225 [(.t 4)]⟩,
 ⟨some 6, none, .un .not (.t 5)⟩,
 ⟨some 7, none, .mv (.t 6)⟩,
 ⟨some 8, (some (7, false)), .fld 0 (.t 1)⟩,
 ⟨some 9, (some (7, false)), .load 6 true (.t 8)⟩,
 ⟨some 10, (some (7, false)), .call 231 [(.t 9)]⟩,
 ⟨some 11, (some (7, false)), .bin .neq (.t 10) (.c (.int .i64 0))⟩,
 ⟨some 12, none, .pick (.t 7) (.c (.bool true)) (.t 11)⟩,
 ⟨some 2, none, .mv (.t 12)⟩] ⟨false, [], []⟩)
 .ret))⟩

/- paternoster/templates.Check -/
def w231 : WFn := ⟨1, [.tmp 2],
 (.seq (.ops [
 ⟨some 1, none, .box (.t 0)⟩,
 ⟨some 2, none, .mv (.c (.int .i64 0))⟩] ⟨false, [], []⟩)
 (.seq (.seq (.ops [
 ⟨some 3, none, .load 6 true (.t 1)⟩,
 ⟨some 4, none, .call 404 [(.t 3)]⟩,
 ⟨some 5, none, .bin .eql (.t 4) (.c (.int .i64 0))⟩] ⟨false, [], []⟩)
 (.cond (.t 5) (.seq (.ops [
 ⟨some 2, none, .mv (.c (.int .i64 14))⟩] ⟨false, [], []⟩)
 .ret)
 .skip))
 (.seq (.ops [
 ⟨some 2, none, .mv (.c (.int .i64 0))⟩] ⟨false, [], []⟩)
 .ret)))⟩

/- slices.ContainsFunc[[]paternoster/api.Kind,paternoster/api.Kind] -/
def w232 : WFn := ⟨2, [.tmp 4],
 (.seq (.ops [
 ⟨some 4, none, .mv (.c (.bool false))⟩] ⟨false, [], []⟩)
 (.seq (.ops [
 ⟨some 5, none, .mv (.t 0)⟩,
 ⟨some 6, none, .mv (.t 1)⟩,
 ⟨some 7, none, .call 405 [(.t 5), (.t 6)]⟩,
 ⟨some 8, none, .bin .geq (.t 7) (.c (.int .i64 0))⟩,
 ⟨some 4, none, .mv (.t 8)⟩] ⟨false, [], []⟩)
 .ret))⟩

/- paternoster/paternosterref14.Check -/
def w408 : WFn := ⟨1, [.tmp 2],
 (.seq (.ops [
 ⟨some 1, none, .box (.t 0)⟩,
 ⟨some 2, none, .mv (.c (.int .i64 0))⟩] ⟨false, [], []⟩)
 (.seq (.seq (.ops [
 ⟨some 3, none, .load 6 true (.t 1)⟩,
 ⟨some 4, none, .call 505 [(.t 3)]⟩,
 ⟨some 5, none, .bin .eql (.t 4) (.c (.int .i64 0))⟩] ⟨false, [], []⟩)
 (.cond (.t 5) (.seq (.ops [
 ⟨some 2, none, .mv (.c (.int .i64 14))⟩] ⟨false, [], []⟩)
 .ret)
 .skip))
 (.seq (.ops [
 ⟨some 2, none, .mv (.c (.int .i64 0))⟩] ⟨false, [], []⟩)
 .ret)))⟩

/- paternoster/paternosterlaw23.One -/
def w422_c0 : WCode := (.seq (.seq (.ops [
 ⟨some 45, none, .idxa 4 1 (.t 1) (.c (.int .i64 3))⟩,
 ⟨some 46, none, .load 1 false (.t 45)⟩,
 ⟨some 47, none, .bin .geq (.t 46) (.c (.int .u8 240))⟩] ⟨false, [], []⟩)
 (.cond (.t 47) (.ops [
 ⟨some 48, none, .fld 3 (.t 3)⟩,
 ⟨some 49, none, .load 1 false (.t 48)⟩,
 ⟨some 50, none, .buildS [(.str [])] 2 [(0, (.c (.str [97]))), (1, (.c (.str [97])))]⟩,
 ⟨some 51, none, .app [(.str [])] 16 false (.t 49) (.t 50)⟩,
 ⟨some 52, none, .fld 3 (.t 3)⟩,
 ⟨none, none, .store 1 (.t 52) (.t 51)⟩] ⟨false, [], []⟩)
 .skip))
 (.seq (.ops [
 ⟨some 53, none, .load 4 true (.t 3)⟩,
 ⟨none, none, .store 4 (.t 2) (.t 53)⟩] ⟨false, [], []⟩)
 .ret))

def w422_B0 : WCode := (.seq (.seq (.ops [
 ⟨some 20, none, .mv (.t 4)⟩,
 ⟨some 21, none, .bin .lss (.t 20) (.c (.int .i64 3))⟩] ⟨false, [], []⟩)
 (.cond (.t 21) .skip
 (.exit 0)))
 (.seq (.block 1 (.seq (.ops [
 ⟨some 24, none, .idxa 4 1 (.t 1) (.c (.int .i64 3))⟩,
 ⟨some 25, none, .load 1 false (.t 24)⟩,
 ⟨some 26, none, .mv (.t 4)⟩,
 ⟨some 27, none, .bin .shr (.t 25) (.t 26)⟩,
 ⟨some 28, none, .bin .and (.t 27) (.c (.int .u8 1))⟩,
 ⟨some 29, none, .bin .gtr (.t 28) (.c (.int .u8 0))⟩] ⟨false, [], []⟩)
 (.cond (.t 29) (.draw [
 ⟨some 30, none, .fld 3 (.t 3)⟩,
 ⟨some 31, none, .load 1 false (.t 30)⟩,
 ⟨some 32, none, .buildS [(.str [])] 3 [(0, (.c (.str [97]))), (1, (.c (.str [98, 50]))), (2, (.c (.str [107, 101, 121])))]⟩,
 ⟨some 33, none, .mv (.t 4)⟩,
 ⟨some 34, none, .idxa 4 1 (.t 1) (.c (.int .i64 3))⟩,
 ⟨some 35, none, .load 1 false (.t 34)⟩,
 ⟨some 36, none, .bin .quo (.t 35) (.c (.int .u8 8))⟩,
 ⟨some 37, none, .cvt .i64 (.t 36)⟩,
 ⟨some 38, none, .bin .add (.t 33) (.t 37)⟩,
 ⟨some 39, none, .bin .rem (.t 38) (.c (.int .i64 3))⟩,
 ⟨some 40, none, .idxs 1 (.t 32) (.t 39)⟩,
 ⟨some 41, none, .load 1 false (.t 40)⟩,
 ⟨some 42, none, .buildS [(.str [])] 1 [(0, (.t 41))]⟩,
 ⟨some 43, none, .app [(.str [])] 16 false (.t 31) (.t 42)⟩,
 ⟨some 44, none, .fld 3 (.t 3)⟩,
 ⟨none, none, .store 1 (.t 44) (.t 43)⟩] [(1, 2), (2, 5), (1, 12)] ⟨true, [4, 3, 2, 1], []⟩)
 .skip)) ⟨false, [], []⟩)
 (.ops [
 ⟨some 22, none, .mv (.t 4)⟩,
 ⟨some 23, none, .bin .add (.t 22) (.c (.int .i64 1))⟩,
 ⟨some 4, none, .mv (.t 23)⟩] ⟨false, [], []⟩)))
def w422_L0 : WCode := .loop ⟨true, [4, 3, 2, 1], []⟩ w422_B0
def w422 : WFn := ⟨1, [.cell 2 4 true],
 (.seq (.ops [
 ⟨some 1, none, .box (.t 0)⟩,
 ⟨some 2, none, .alloc [(.int .u64 0), (.int .u8 0), (.str []), (.ro 1 [] true)]⟩] ⟨false, [], []⟩)
 (.seq (.draw [
 ⟨some 5, none, .idxa 4 1 (.t 1) (.c (.int .i64 0))⟩,
 ⟨some 6, none, .load 1 false (.t 5)⟩,
 ⟨some 7, none, .bin .rem (.t 6) (.c (.int .u8 60))⟩,
 ⟨some 8, none, .cvt .u64 (.t 7)⟩,
 ⟨some 9, none, .bin .add (.c (.int .u64 1)) (.t 8)⟩,
 ⟨some 10, none, .idxa 4 1 (.t 1) (.c (.int .i64 1))⟩,
 ⟨some 11, none, .load 1 false (.t 10)⟩,
 ⟨some 12, none, .bin .rem (.t 11) (.c (.int .u8 3))⟩,
 ⟨some 13, none, .buildS [(.str [])] 8 [(0, (.c (.str []))), (1, (.c (.str [97]))), (2, (.c (.str [114, 111, 119]))), (3, (.c (.str [116, 119, 111, 32, 119, 111, 114, 100, 115]))), (4, (.c (.str [32, 32]))), (5, (.c (.str [126, 33, 45, 44]))), (6, (.c (.str [97, 32, 108, 111, 110, 103, 101, 114, 32, 116, 101, 120, 116, 32, 111, 102, 32, 116, 104, 105, 115, 32, 107, 105, 110, 100]))), (7, (.c (.str [57])))]⟩,
 ⟨some 14, none, .idxa 4 1 (.t 1) (.c (.int .i64 2))⟩,
 ⟨some 15, none, .load 1 false (.t 14)⟩,
 ⟨some 16, none, .bin .rem (.t 15) (.c (.int .u8 8))⟩,
 ⟨some 17, none, .idxs 1 (.t 13) (.t 16)⟩,
 ⟨some 18, none, .load 1 false (.t 17)⟩,
 ⟨some 19, none, .build [(.int .u64 0), (.int .u8 0), (.str []), (.ro 1 [] true)] [(0, 1, (.t 9)), (1, 1, (.t 12)), (2, 1, (.t 18))]⟩,
 ⟨some 3, none, .alloc [(.int .u64 0), (.int .u8 0), (.str []), (.ro 1 [] true)]⟩,
 ⟨none, none, .store 4 (.t 3) (.t 19)⟩] [(1, 8), (6, 8), (8, 10), (1, 15), (6, 15), (8, 15), (10, 15), (13, 15)] ⟨true, [3, 2, 1], []⟩)
 (.seq (.seq (.ops [
 ⟨some 4, none, .mv (.c (.int .i64 0))⟩] ⟨false, [], []⟩)
 (.block 0 w422_L0 ⟨true, [3, 2, 1], []⟩))
 w422_c0)))⟩

@[simp] theorem w422_E0 {β : Type} {C : WProg} {b : Nat} {f : Ex × WSt → Option β} {k : List Pw.Frame} {s : WSt} : CK C b f k w422_L0 s = LK C b f (.sq w422_L0 :: k) w422_B0 (canon b ⟨true, [4, 3, 2, 1], []⟩ s) := ck_lp rfl
noncomputable abbrev w422_K0 (C : WProg) (s : WSt) : Option AV := CK C 0 (pureFin [.cell 2 4 true]) [.sq w422_L0, .bk 0 ⟨true, [3, 2, 1], []⟩, .sq w422_c0] w422_B0 s

/- paternoster/paternosterref23.Find -/
def w423_c0 : WCode := (.seq (.ops [
 ⟨some 4, none, .mv (.c (.int .i64 (-1)))⟩] ⟨false, [], []⟩)
 .ret)

def w423_B0 : WCode := (.seq (.seq (.ops [
 ⟨some 6, none, .mv (.t 5)⟩,
 ⟨some 7, none, .mv (.t 0)⟩,
 ⟨some 8, none, .len 1 (.t 7)⟩,
 ⟨some 9, none, .bin .lss (.t 6) (.t 8)⟩] ⟨false, [], []⟩)
 (.cond (.t 9) .skip
 (.exit 0)))
 (.seq (.block 1 (.seq (.ops [
 ⟨some 12, none, .mv (.t 0)⟩,
 ⟨some 13, none, .mv (.t 5)⟩,
 ⟨some 14, none, .idxs 4 (.t 12) (.t 13)⟩,
 ⟨some 15, none, .fld 0 (.t 14)⟩,
 ⟨some 16, none, .load 1 false (.t 15)⟩,
 ⟨some 17, none, .mv (.t 1)⟩,
 ⟨some 18, none, .bin .eql (.t 16) (.t 17)⟩] ⟨false, [], []⟩)
 (.cond (.t 18) (.seq (.ops [
 ⟨some 19, none, .mv (.t 5)⟩,
 ⟨some 4, none, .mv (.t 19)⟩] ⟨false, [], []⟩)
 .ret)
 .skip)) ⟨false, [], []⟩)
 (.ops [
 ⟨some 10, none, .mv (.t 5)⟩,
 ⟨some 11, none, .bin .add (.t 10) (.c (.int .i64 1))⟩,
 ⟨some 5, none, .mv (.t 11)⟩] ⟨false, [], []⟩)))
def w423_L0 : WCode := .loop ⟨true, [5, 1, 0], []⟩ w423_B0
def w423 : WFn := ⟨2, [.tmp 4],
 (.seq (.ops [
 ⟨some 4, none, .mv (.c (.int .i64 0))⟩] ⟨false, [], []⟩)
 (.seq (.seq (.ops [
 ⟨some 5, none, .mv (.c (.int .i64 0))⟩] ⟨false, [], []⟩)
 (.block 0 w423_L0 ⟨true, [], []⟩))
 w423_c0))⟩

@[simp] theorem w423_E0 {β : Type} {C : WProg} {b : Nat} {f : Ex × WSt → Option β} {k : List Pw.Frame} {s : WSt} : CK C b f k w423_L0 s = LK C b f (.sq w423_L0 :: k) w423_B0 (canon b ⟨true, [5, 1, 0], []⟩ s) := ck_lp rfl
noncomputable abbrev w423_K0 (C : WProg) (s : WSt) : Option AV := CK C 0 (pureFin [.tmp 4]) [.sq w423_L0, .bk 0 ⟨true, [], []⟩, .sq w423_c0] w423_B0 s

/- paternoster/paternosterref23.Check -/
def w424_c0 : WCode := (.seq (.seq (.ops [
 ⟨some 41, none, .mv (.t 5)⟩,
 ⟨some 42, none, .bin .eql (.t 41) (.c (.int .i64 1))⟩] ⟨false, [], []⟩)
 (.cond (.t 42) (.seq (.ops [
 ⟨some 4, none, .mv (.c (.int .i64 0))⟩] ⟨false, [], []⟩)
 .ret)
 .skip))
 (.seq (.ops [
 ⟨some 4, none, .mv (.c (.int .i64 6))⟩] ⟨false, [], []⟩)
 .ret))

def w424_B0 : WCode := (.seq (.seq (.ops [
 ⟨some 26, none, .mv (.t 6)⟩,
 ⟨some 27, none, .fld 3 (.t 2)⟩,
 ⟨some 28, none, .load 1 false (.t 27)⟩,
 ⟨some 29, none, .len 1 (.t 28)⟩,
 ⟨some 30, none, .bin .lss (.t 26) (.t 29)⟩] ⟨false, [], []⟩)
 (.cond (.t 30) .skip
 (.exit 0)))
 (.seq (.block 1 (.ops [
 ⟨some 33, none, .mv (.t 5)⟩,
 ⟨some 34, none, .fld 3 (.t 2)⟩,
 ⟨some 35, none, .load 1 false (.t 34)⟩,
 ⟨some 36, none, .mv (.t 6)⟩,
 ⟨some 37, none, .idxs 1 (.t 35) (.t 36)⟩,
 ⟨some 38, none, .load 1 false (.t 37)⟩,
 ⟨some 39, none, .call 511 [(.t 38)]⟩,
 ⟨some 40, none, .bin .mul (.t 33) (.t 39)⟩,
 ⟨some 5, none, .mv (.t 40)⟩] ⟨false, [], []⟩) ⟨false, [], []⟩)
 (.ops [
 ⟨some 31, none, .mv (.t 6)⟩,
 ⟨some 32, none, .bin .add (.t 31) (.c (.int .i64 1))⟩,
 ⟨some 6, none, .mv (.t 32)⟩] ⟨false, [], []⟩)))
def w424_L0 : WCode := .loop ⟨true, [6, 5, 2], []⟩ w424_B0
def w424 : WFn := ⟨2, [.tmp 4],
 (.seq (.ops [
 ⟨some 2, none, .box (.t 0)⟩,
 ⟨some 4, none, .mv (.c (.int .i64 0))⟩] ⟨false, [], []⟩)
 (.seq (.ops [
 ⟨some 7, none, .fld 2 (.t 2)⟩,
 ⟨some 8, none, .load 1 false (.t 7)⟩,
 ⟨some 9, none, .call 510 [(.t 8)]⟩,
 ⟨some 5, none, .mv (.t 9)⟩] ⟨false, [], []⟩)
 (.seq (.seq (.ops [
 ⟨some 10, none, .fld 0 (.t 2)⟩,
 ⟨some 11, none, .load 1 false (.t 10)⟩,
 ⟨some 12, none, .bin .eql (.t 11) (.c (.int .u64 0))⟩,
 ⟨some 13, none, .mv (.t 12)⟩,
 ⟨some 14, (some (13, false)), .mv (.t 1)⟩,
 ⟨some 15, (some (13, false)), .fld 1 (.t 2)⟩,
 ⟨some 16, (some (13, false)), .load 1 false (.t 15)⟩,
 ⟨some 17, (some (13, false)), .cvt .i64 (.t 16)⟩,
 ⟨some 18, (some (13, false)), .bin .leq (.t 14) (.t 17)⟩,
 ⟨some 19, none, .pick (.t 13) (.c (.bool true)) (.t 18)⟩,
 ⟨some 20, none, .mv (.t 19)⟩,
 ⟨some 21, (some (20, false)), .fld 3 (.t 2)⟩,
 ⟨some 22, (some (20, false)), .load 1 false (.t 21)⟩,
 ⟨some 23, (some (20, false)), .len 1 (.t 22)⟩,
 ⟨some 24, (some (20, false)), .bin .gtr (.t 23) (.c (.int .i64 8))⟩,
 ⟨some 25, none, .pick (.t 20) (.c (.bool true)) (.t 24)⟩] ⟨true, [25, 5, 2], []⟩)
 (.cond (.t 25) (.ops [
 ⟨some 5, none, .mv (.c (.int .i64 0))⟩] ⟨false, [], []⟩)
 .skip))
 (.seq (.seq (.ops [
 ⟨some 6, none, .mv (.c (.int .i64 0))⟩] ⟨false, [], []⟩)
 (.block 0 w424_L0 ⟨true, [5], []⟩))
 w424_c0))))⟩

@[simp] theorem w424_E0 {β : Type} {C : WProg} {b : Nat} {f : Ex × WSt → Option β} {k : List Pw.Frame} {s : WSt} : CK C b f k w424_L0 s = LK C b f (.sq w424_L0 :: k) w424_B0 (canon b ⟨true, [6, 5, 2], []⟩ s) := ck_lp rfl
noncomputable abbrev w424_K0 (C : WProg) (s : WSt) : Option AV := CK C 0 (pureFin [.tmp 4]) [.sq w424_L0, .bk 0 ⟨true, [5], []⟩, .sq w424_c0] w424_B0 s

/- paternoster/paternosterref14.Render -/
def w425 : WFn := ⟨3, [.cell 6 6 true, .tmp 7],
 (.seq (.ops [
 ⟨some 3, none, .box (.t 0)⟩,
 ⟨some 4, none, .box (.t 1)⟩,
 ⟨some 6, none, .alloc [(.int .u8 0), (.str []), (.str []), (.ro 2 [] true), (.str []), (.ro 6 [] true)]⟩,
 ⟨some 7, none, .mv (.c (.int .i64 0))⟩] ⟨true, [6, 4, 3, 2], []⟩)
 (.seq (.seq (.ops [
 ⟨some 9, none, .mv (.t 2)⟩,
 ⟨some 10, none, .bin .lss (.t 9) (.c (.int .i64 1))⟩,
 ⟨some 11, none, .mv (.t 10)⟩,
 ⟨some 12, (some (11, false)), .mv (.t 2)⟩,
 ⟨some 13, (some (11, false)), .bin .gtr (.t 12) (.c (.int .i64 64))⟩,
 ⟨some 14, none, .pick (.t 11) (.c (.bool true)) (.t 13)⟩] ⟨false, [], []⟩)
 (.cond (.t 14) (.seq (.ops [
 ⟨some 15, none, .build [(.int .u8 0), (.str []), (.str []), (.ro 2 [] true), (.str []), (.ro 6 [] true)] []⟩,
 ⟨none, none, .store 6 (.t 6) (.t 15)⟩,
 ⟨some 7, none, .mv (.c (.int .i64 1))⟩] ⟨false, [], []⟩)
 .ret)
 .skip))
 (.seq (.seq (.ops [
 ⟨some 16, none, .load 6 true (.t 3)⟩,
 ⟨some 17, none, .call 408 [(.t 16)]⟩,
 ⟨some 18, none, .bin .neq (.t 17) (.c (.int .i64 0))⟩] ⟨false, [], []⟩)
 (.cond (.t 18) (.seq (.ops [
 ⟨some 19, none, .build [(.int .u8 0), (.str []), (.str []), (.ro 2 [] true), (.str []), (.ro 6 [] true)] []⟩,
 ⟨some 20, none, .load 6 true (.t 3)⟩,
 ⟨some 21, none, .call 408 [(.t 20)]⟩,
 ⟨none, none, .store 6 (.t 6) (.t 19)⟩,
 ⟨some 7, none, .mv (.t 21)⟩] ⟨false, [], []⟩)
 .ret)
 .skip))
 (.seq (.seq (.ops [
 ⟨some 22, none, .load 4 true (.t 4)⟩,
 ⟨some 23, none, .call 512 [(.t 22)]⟩,
 ⟨some 24, none, .bin .neq (.t 23) (.c (.int .i64 0))⟩] ⟨false, [], []⟩)
 (.cond (.t 24) (.seq (.ops [
 ⟨some 25, none, .build [(.int .u8 0), (.str []), (.str []), (.ro 2 [] true), (.str []), (.ro 6 [] true)] []⟩,
 ⟨some 26, none, .load 4 true (.t 4)⟩,
 ⟨some 27, none, .call 512 [(.t 26)]⟩,
 ⟨none, none, .store 6 (.t 6) (.t 25)⟩,
 ⟨some 7, none, .mv (.t 27)⟩] ⟨true, [7, 6], []⟩)
 .ret)
 .skip))
 (.seq (.ops [
 ⟨some 28, none, .load 6 true (.t 3)⟩,
 ⟨some 29, none, .load 4 true (.t 4)⟩,
 ⟨some 30, none, .call 513 [(.t 28), (.t 29)]⟩,
 ⟨some 31, none, .idxs 6 (.t 30) (.c (.int .i64 0))⟩,
 ⟨some 32, none, .load 6 true (.t 31)⟩,
 ⟨some 8, none, .alloc [(.int .u8 0), (.str []), (.str []), (.ro 2 [] true), (.str []), (.ro 6 [] true)]⟩,
 ⟨none, none, .store 6 (.t 8) (.t 32)⟩] ⟨false, [], []⟩)
 (.seq (.seq (.ops [
 ⟨some 33, none, .load 6 true (.t 8)⟩,
 ⟨some 34, none, .call 441 [(.t 33)]⟩,
 ⟨some 35, none, .bin .neq (.t 34) (.c (.int .i64 0))⟩,
 ⟨some 36, none, .mv (.t 35)⟩,
 ⟨some 37, (some (36, false)), .load 6 true (.t 8)⟩,
 ⟨some 38, (some (36, false)), .call 442 [(.t 37)]⟩,
 ⟨some 39, (some (36, false)), .mv (.t 2)⟩,
 ⟨some 40, (some (36, false)), .bin .gtr (.t 38) (.t 39)⟩,
 ⟨some 41, none, .pick (.t 36) (.c (.bool true)) (.t 40)⟩] ⟨false, [], []⟩)
 (.cond (.t 41) (.seq (.ops [
 ⟨some 42, none, .build [(.int .u8 0), (.str []), (.str []), (.ro 2 [] true), (.str []), (.ro 6 [] true)] []⟩,
 ⟨none, none, .store 6 (.t 6) (.t 42)⟩,
 ⟨some 7, none, .mv (.c (.int .i64 14))⟩] ⟨false, [], []⟩)
 .ret)
 .skip))
 (.seq (.ops [
 ⟨some 43, none, .load 6 true (.t 8)⟩,
 ⟨none, none, .store 6 (.t 6) (.t 43)⟩,
 ⟨some 7, none, .mv (.c (.int .i64 0))⟩] ⟨false, [], []⟩)
 .ret)))))))⟩

/- paternoster/paternosterref24.Total -/
def w504_c0 : WCode := (.seq (.ops [
 ⟨some 27, none, .mv (.t 3)⟩,
 ⟨some 28, none, .cvt .i64 (.t 27)⟩,
 ⟨some 2, none, .mv (.t 28)⟩] ⟨false, [], []⟩)
 .ret)

def w504_B0 : WCode := (.seq (.seq (.ops [
 ⟨some 5, none, .mv (.t 4)⟩,
 ⟨some 6, none, .mv (.t 0)⟩,
 ⟨some 7, none, .len 1 (.t 6)⟩,
 ⟨some 8, none, .bin .lss (.t 5) (.t 7)⟩] ⟨false, [], []⟩)
 (.cond (.t 8) .skip
 (.exit 0)))
 (.seq (.block 1 (.seq (.seq (.ops [
 ⟨some 11, none, .mv (.t 0)⟩,
 ⟨some 12, none, .mv (.t 4)⟩,
 ⟨some 13, none, .idxs 6 (.t 11) (.t 12)⟩,
 ⟨some 14, none, .fld 4 (.t 13)⟩,
 ⟨some 15, none, .load 1 false (.t 14)⟩,
 ⟨some 16, none, .bin .gtr (.t 15) (.c (.int .i64 0))⟩] ⟨true, [16, 4, 3, 0], []⟩)
 (.cond (.t 16) (.ops [
 ⟨some 17, none, .mv (.t 3)⟩,
 ⟨some 18, none, .mv (.t 0)⟩,
 ⟨some 19, none, .mv (.t 4)⟩,
 ⟨some 20, none, .idxs 6 (.t 18) (.t 19)⟩,
 ⟨some 21, none, .fld 4 (.t 20)⟩,
 ⟨some 22, none, .load 1 false (.t 21)⟩,
 ⟨some 23, none, .cvt .u64 (.t 22)⟩,
 ⟨some 24, none, .bin .add (.t 17) (.t 23)⟩,
 ⟨some 3, none, .mv (.t 24)⟩] ⟨false, [], []⟩)
 .skip))
 (.seq (.ops [
 ⟨some 25, none, .mv (.t 3)⟩,
 ⟨some 26, none, .bin .gtr (.t 25) (.c (.int .u64 4611686018427387904))⟩] ⟨false, [], []⟩)
 (.cond (.t 26) (.seq (.ops [
 ⟨some 2, none, .mv (.c (.int .i64 4611686018427387905))⟩] ⟨false, [], []⟩)
 .ret)
 .skip))) ⟨false, [], []⟩)
 (.ops [
 ⟨some 9, none, .mv (.t 4)⟩,
 ⟨some 10, none, .bin .add (.t 9) (.c (.int .i64 1))⟩,
 ⟨some 4, none, .mv (.t 10)⟩] ⟨false, [], []⟩)))
def w504_L0 : WCode := .loop ⟨true, [4, 3, 0], []⟩ w504_B0
def w504 : WFn := ⟨1, [.tmp 2],
 (.seq (.ops [
 ⟨some 2, none, .mv (.c (.int .i64 0))⟩] ⟨false, [], []⟩)
 (.seq (.ops [
 ⟨some 3, none, .mv (.c (.int .u64 0))⟩] ⟨false, [], []⟩)
 (.seq (.seq (.ops [
 ⟨some 4, none, .mv (.c (.int .i64 0))⟩] ⟨false, [], []⟩)
 (.block 0 w504_L0 ⟨true, [3], []⟩))
 w504_c0)))⟩

@[simp] theorem w504_E0 {β : Type} {C : WProg} {b : Nat} {f : Ex × WSt → Option β} {k : List Pw.Frame} {s : WSt} : CK C b f k w504_L0 s = LK C b f (.sq w504_L0 :: k) w504_B0 (canon b ⟨true, [4, 3, 0], []⟩ s) := ck_lp rfl
noncomputable abbrev w504_K0 (C : WProg) (s : WSt) : Option AV := CK C 0 (pureFin [.tmp 2]) [.sq w504_L0, .bk 0 ⟨true, [3], []⟩, .sq w504_c0] w504_B0 s

/- (paternoster/lists.Rules).fresh -/
def w400_c0 : WCode := (.seq (.ops [
 ⟨some 31, none, .mv (.t 5)⟩,
 ⟨some 4, none, .mv (.t 31)⟩] ⟨false, [], []⟩)
 .ret)

def w400_B0 : WCode := (.seq (.ops [
 ⟨some 14, none, .bin .lss (.t 13) (.t 12)⟩] ⟨true, [14, 13, 12, 11, 5, 2], []⟩)
 (.seq (.cond (.t 14) .skip
 (.exit 0))
 (.seq (.block 1 (.seq (.ops [
 ⟨some 15, none, .mv (.t 13)⟩,
 ⟨some 16, none, .idxs 4 (.t 11) (.t 13)⟩,
 ⟨some 17, none, .load 4 true (.t 16)⟩,
 ⟨some 7, none, .alloc [(.int .u64 0), (.int .u8 0), (.str []), (.ro 1 [] true)]⟩,
 ⟨some 6, none, .mv (.t 15)⟩,
 ⟨none, none, .store 4 (.t 7) (.t 17)⟩] ⟨false, [], []⟩)
 (.draw [
 ⟨some 18, none, .mv (.t 5)⟩,
 ⟨some 19, none, .mv (.t 6)⟩,
 ⟨some 20, none, .load 4 true (.t 7)⟩,
 ⟨some 21, none, .fld 0 (.t 2)⟩,
 ⟨some 22, none, .load 1 false (.t 21)⟩,
 ⟨some 23, none, .fld 1 (.t 7)⟩,
 ⟨some 24, none, .load 1 false (.t 23)⟩,
 ⟨some 25, none, .idxs 9 (.t 22) (.t 24)⟩,
 ⟨some 26, none, .fld 6 (.t 25)⟩,
 ⟨some 27, none, .load 1 false (.t 26)⟩,
 ⟨some 28, none, .build [(.int .u64 0), (.int .u8 0), (.str []), (.ro 1 [] true), (.int .i64 0), (.bool false)] [(0, 4, (.t 20)), (4, 1, (.t 27))]⟩,
 ⟨some 29, none, .idxs 6 (.t 18) (.t 19)⟩,
 ⟨none, none, .store 6 (.t 29) (.t 28)⟩] [] ⟨false, [], []⟩)) ⟨false, [], []⟩)
 (.ops [
 ⟨some 30, none, .bin .add (.t 13) (.c (.int .i64 1))⟩,
 ⟨some 13, none, .mv (.t 30)⟩] ⟨false, [], []⟩))))
def w400_L0 : WCode := .loop ⟨true, [13, 12, 11, 5, 2], []⟩ w400_B0
def w400 : WFn := ⟨2, [.tmp 4],
 (.seq (.ops [
 ⟨some 2, none, .box (.t 0)⟩,
 ⟨some 4, none, .mv (.c (.ro 6 [] true))⟩] ⟨false, [], []⟩)
 (.seq (.ops [
 ⟨some 8, none, .mv (.t 1)⟩,
 ⟨some 9, none, .len 1 (.t 8)⟩,
 ⟨some 10, none, .mksl [(.int .u64 0), (.int .u8 0), (.str []), (.ro 1 [] true), (.int .i64 0), (.bool false)] 72 (.t 9) (.t 9)⟩,
 ⟨some 5, none, .mv (.t 10)⟩] ⟨false, [], []⟩)
 (.seq (.seq (.ops [
 ⟨some 11, none, .mv (.t 1)⟩,
 ⟨some 12, none, .len 1 (.t 11)⟩,
 ⟨some 13, none, .mv (.c (.int .i64 0))⟩] ⟨false, [], []⟩)
 (.block 0 w400_L0 ⟨true, [5], []⟩))
 w400_c0)))⟩

@[simp] theorem w400_E0 {β : Type} {C : WProg} {b : Nat} {f : Ex × WSt → Option β} {k : List Pw.Frame} {s : WSt} : CK C b f k w400_L0 s = LK C b f (.sq w400_L0 :: k) w400_B0 (canon b ⟨true, [13, 12, 11, 5, 2], []⟩ s) := ck_lp rfl
noncomputable abbrev w400_K0 (C : WProg) (s : WSt) : Option AV := CK C 0 (pureFin [.tmp 4]) [.sq w400_L0, .bk 0 ⟨true, [5], []⟩, .sq w400_c0] w400_B0 s

/- paternoster/lists.unseen$1 -/
def w401 : WFn := ⟨3, [.tmp 5],
 (.seq (.ops [
 ⟨some 4, none, .box (.t 1)⟩,
 ⟨some 5, none, .mv (.c (.int .i64 0))⟩] ⟨false, [], []⟩)
 (.seq (.seq (.ops [
 ⟨some 6, none, .load 1 false (.t 2)⟩,
 ⟨some 7, none, .fld 0 (.t 4)⟩,
 ⟨some 8, none, .load 1 false (.t 7)⟩,
 ⟨some 9, none, .look 0 (.bool false) false (.t 6) (.t 8)⟩] ⟨false, [], []⟩)
 (.cond (.t 9) (.seq (.ops [
 ⟨some 5, none, .mv (.c (.int .i64 8))⟩] ⟨false, [], []⟩)
 .ret)
 .skip))
 (.seq (.ops [
 ⟨some 10, none, .load 1 false (.t 2)⟩,
 ⟨some 11, none, .fld 0 (.t 4)⟩,
 ⟨some 12, none, .load 1 false (.t 11)⟩,
 ⟨none, none, .upd 0 (.t 10) (.t 12) (.c (.bool true))⟩] ⟨false, [], []⟩)
 (.seq (.ops [
 ⟨some 5, none, .mv (.c (.int .i64 0))⟩] ⟨false, [], []⟩)
 .ret))))⟩

/- slices.IndexFunc[[]paternoster/lists.Entry,paternoster/lists.Entry] -/
def w402_c0 : WCode := (.seq (.ops [
 ⟨some 4, none, .mv (.c (.int .i64 (-1)))⟩] ⟨false, [], []⟩)
 .ret)

def w402_B0 : WCode := (.seq (.ops [
 ⟨some 9, none, .bin .lss (.t 8) (.t 7)⟩] ⟨false, [], []⟩)
 (.seq (.cond (.t 9) .skip
 (.exit 0))
 (.seq (.block 1 (.seq (.ops [
 ⟨some 10, none, .mv (.t 8)⟩,
 ⟨some 5, none, .mv (.t 10)⟩] ⟨false, [], []⟩)
 (.seq (.ops [
 ⟨some 11, none, .mv (.t 1)⟩,
 ⟨some 12, none, .mv (.t 0)⟩,
 ⟨some 13, none, .mv (.t 5)⟩,
 ⟨some 14, none, .idxs 6 (.t 12) (.t 13)⟩,
 ⟨some 15, none, .load 6 true (.t 14)⟩,
 ⟨some 16, none, .callv (.t 11) [(.t 15)]⟩] ⟨false, [], []⟩)
 (.cond (.t 16) (.seq (.ops [
 ⟨some 17, none, .mv (.t 5)⟩,
 ⟨some 4, none, .mv (.t 17)⟩] ⟨false, [], []⟩)
 .ret)
 .skip))) ⟨false, [], []⟩)
 (.ops [
 ⟨some 18, none, .bin .add (.t 8) (.c (.int .i64 1))⟩,
 ⟨some 8, none, .mv (.t 18)⟩] ⟨false, [], []⟩))))
def w402_L0 : WCode := .loop ⟨true, [8, 7, 1, 0], []⟩ w402_B0
def w402 : WFn := ⟨2, [.tmp 4],
 (.seq (.ops [
 ⟨some 4, none, .mv (.c (.int .i64 0))⟩] ⟨false, [], []⟩)
 (.seq (.seq (.ops [
 ⟨some 6, none, .mv (.t 0)⟩,
 ⟨some 7, none, .len 1 (.t 6)⟩,
 ⟨some 8, none, .mv (.c (.int .i64 0))⟩] ⟨false, [], []⟩)
 (.block 0 w402_L0 ⟨true, [], []⟩))
 w402_c0))⟩

@[simp] theorem w402_E0 {β : Type} {C : WProg} {b : Nat} {f : Ex × WSt → Option β} {k : List Pw.Frame} {s : WSt} : CK C b f k w402_L0 s = LK C b f (.sq w402_L0 :: k) w402_B0 (canon b ⟨true, [8, 7, 1, 0], []⟩ s) := ck_lp rfl
noncomputable abbrev w402_K0 (C : WProg) (s : WSt) : Option AV := CK C 0 (pureFin [.tmp 4]) [.sq w402_L0, .bk 0 ⟨true, [], []⟩, .sq w402_c0] w402_B0 s

/- paternoster/lists.Find$1 -/
def w403 : WFn := ⟨2, [.tmp 3],
 (.seq (.ops [
 ⟨some 2, none, .box (.t 0)⟩,
 ⟨some 3, none, .mv (.c (.bool false))⟩] ⟨false, [], []⟩)
 (.seq (.ops [
 ⟨some 4, none, .fld 0 (.t 2)⟩,
 ⟨some 5, none, .fld 0 (.t 4)⟩,
 ⟨some 6, none, .load 1 false (.t 5)⟩,
 ⟨some 7, none, .load 1 false (.t 1)⟩,
 ⟨some 8, none, .bin .eql (.t 6) (.t 7)⟩,
 ⟨some 3, none, .mv (.t 8)⟩] ⟨false, [], []⟩)
 .ret))⟩

/- paternoster/items.Copy -/
def w340_c0 : WCode := (.seq (.ops [
 ⟨some 23, none, .mv (.t 3)⟩,
 ⟨some 2, none, .mv (.t 23)⟩] ⟨false, [], []⟩)
 .ret)

def w340_B0 : WCode := (.seq (.ops [
 ⟨some 10, none, .bin .lss (.t 9) (.t 8)⟩] ⟨false, [], []⟩)
 (.seq (.cond (.t 10) .skip
 (.exit 0))
 (.seq (.block 1 (.seq (.ops [
 ⟨some 11, none, .mv (.t 9)⟩,
 ⟨some 4, none, .mv (.t 11)⟩] ⟨false, [], []⟩)
 (.ops [
 ⟨some 12, none, .mv (.t 3)⟩,
 ⟨some 13, none, .mv (.t 4)⟩,
 ⟨some 14, none, .mv (.t 3)⟩,
 ⟨some 15, none, .mv (.t 4)⟩,
 ⟨some 16, none, .idxs 4 (.t 14) (.t 15)⟩,
 ⟨some 17, none, .fld 3 (.t 16)⟩,
 ⟨some 18, none, .load 1 false (.t 17)⟩,
 ⟨some 19, none, .call 460 [(.t 18)]⟩,
 ⟨some 20, none, .idxs 4 (.t 12) (.t 13)⟩,
 ⟨some 21, none, .fld 3 (.t 20)⟩,
 ⟨none, none, .store 1 (.t 21) (.t 19)⟩] ⟨false, [], []⟩)) ⟨false, [], []⟩)
 (.ops [
 ⟨some 22, none, .bin .add (.t 9) (.c (.int .i64 1))⟩,
 ⟨some 9, none, .mv (.t 22)⟩] ⟨false, [], []⟩))))
def w340_L0 : WCode := .loop ⟨true, [9, 8, 3], []⟩ w340_B0
def w340 : WFn := ⟨1, [.tmp 2],
 (.seq (.ops [
 ⟨some 2, none, .mv (.c (.ro 4 [] true))⟩] ⟨false, [], []⟩)
 (.seq (.ops [
 ⟨some 5, none, .mv (.t 0)⟩,
 ⟨some 6, none, .call 459 [(.t 5)]⟩,
 ⟨some 3, none, .mv (.t 6)⟩] ⟨true, [3], []⟩)
 (.seq (.seq (.ops [
 ⟨some 7, none, .mv (.t 3)⟩,
 ⟨some 8, none, .len 1 (.t 7)⟩,
 ⟨some 9, none, .mv (.c (.int .i64 0))⟩] ⟨false, [], []⟩)
 (.block 0 w340_L0 ⟨true, [3], []⟩))
 w340_c0)))⟩

@[simp] theorem w340_E0 {β : Type} {C : WProg} {b : Nat} {f : Ex × WSt → Option β} {k : List Pw.Frame} {s : WSt} : CK C b f k w340_L0 s = LK C b f (.sq w340_L0 :: k) w340_B0 (canon b ⟨true, [9, 8, 3], []⟩ s) := ck_lp rfl
noncomputable abbrev w340_K0 (C : WProg) (s : WSt) : Option AV := CK C 0 (pureFin [.tmp 2]) [.sq w340_L0, .bk 0 ⟨true, [3], []⟩, .sq w340_c0] w340_B0 s

/- paternoster/items.Check$1 -/
def w494 : WFn := ⟨1, [.tmp 1],
 (.seq (.ops [
 ⟨some 1, none, .mv (.c (.bool false))⟩] ⟨false, [], []⟩)
 (.seq (.ops [
 ⟨some 2, none, .fld 2 (.t 0)⟩,
 ⟨some 3, none, .load 1 false (.t 2)⟩,
 ⟨some 4, none, .len 0 (.t 3)⟩,
 ⟨some 5, none, .bin .leq (.t 4) (.c (.int .i64 64))⟩,
 ⟨some 6, none, .mv (.t 5)⟩,
 ⟨some 7, (some (6, true)), .fld 2 (.t 0)⟩,
 ⟨some 8, (some (6, true)), .load 1 false (.t 7)⟩,
 ⟨some 9, (some (6, true)), .call 495 [(.t 8), (.c (.fn 496 []))]⟩,
 ⟨some 10, (some (6, true)), .un .not (.t 9)⟩,
 ⟨some 11, none, .pick (.t 6) (.t 10) (.c (.bool false))⟩,
 ⟨some 1, none, .mv (.t 11)⟩] ⟨false, [], []⟩)
 .ret))⟩

/- strings.ContainsFunc -/
def w495 : WFn := ⟨2, [.tmp 4],
 (.seq (.ops [
 ⟨some 4, none, .mv (.c (.bool false))⟩] ⟨false, [], []⟩)
 (.seq (.ops [
 ⟨some 5, none, .mv (.t 0)⟩,
 ⟨some 6, none, .mv (.t 1)⟩,
 ⟨some 7, none, .call 543 [(.t 5), (.t 6)]⟩,
 ⟨some 8, none, .bin .geq (.t 7) (.c (.int .i64 0))⟩,
 ⟨some 4, none, .mv (.t 8)⟩] ⟨false, [], []⟩)
 .ret))⟩

/- paternoster/items.Check$1$1 -/
def w496 : WFn := ⟨1, [.tmp 2],
 (.seq (.ops [
 ⟨some 2, none, .mv (.c (.bool false))⟩] ⟨false, [], []⟩)
 (.seq (.ops [
 ⟨some 3, none, .mv (.t 0)⟩,
 ⟨some 4, none, .bin .lss (.t 3) (.c (.int .i32 32))⟩,
 ⟨some 5, none, .mv (.t 4)⟩,
 ⟨some 6, (some (5, false)), .mv (.t 0)⟩,
 ⟨some 7, (some (5, false)), .bin .gtr (.t 6) (.c (.int .i32 126))⟩,
 ⟨some 8, none, .pick (.t 5) (.c (.bool true)) (.t 7)⟩,
 ⟨some 2, none, .mv (.t 8)⟩] ⟨false, [], []⟩)
 .ret))⟩

/- paternoster/items.Check$2 -/
def w497 : WFn := ⟨1, [.tmp 1],
 (.seq (.ops [
 ⟨some 1, none, .mv (.c (.bool false))⟩] ⟨false, [], []⟩)
 (.seq (.ops [
 ⟨some 2, none, .fld 3 (.t 0)⟩,
 ⟨some 3, none, .load 1 false (.t 2)⟩,
 ⟨some 4, none, .len 1 (.t 3)⟩,
 ⟨some 5, none, .bin .leq (.t 4) (.c (.int .i64 8))⟩,
 ⟨some 6, none, .mv (.t 5)⟩,
 ⟨some 7, (some (6, true)), .fld 3 (.t 0)⟩,
 ⟨some 8, (some (6, true)), .load 1 false (.t 7)⟩,
 ⟨some 9, (some (6, true)), .call 498 [(.t 8), (.c (.fn 499 []))]⟩,
 ⟨some 10, (some (6, true)), .un .not (.t 9)⟩,
 ⟨some 11, none, .pick (.t 6) (.t 10) (.c (.bool false))⟩,
 ⟨some 1, none, .mv (.t 11)⟩] ⟨false, [], []⟩)
 .ret))⟩

/- slices.ContainsFunc[[]string,string] -/
def w498 : WFn := ⟨2, [.tmp 4],
 (.seq (.ops [
 ⟨some 4, none, .mv (.c (.bool false))⟩] ⟨false, [], []⟩)
 (.seq (.ops [
 ⟨some 5, none, .mv (.t 0)⟩,
 ⟨some 6, none, .mv (.t 1)⟩,
 ⟨some 7, none, .call 544 [(.t 5), (.t 6)]⟩,
 ⟨some 8, none, .bin .geq (.t 7) (.c (.int .i64 0))⟩,
 ⟨some 4, none, .mv (.t 8)⟩] ⟨false, [], []⟩)
 .ret))⟩

/- paternoster/items.Check$2$1 -/
def w499 : WFn := ⟨1, [.tmp 2],
 (.seq (.ops [
 ⟨some 2, none, .mv (.c (.bool false))⟩] ⟨false, [], []⟩)
 (.seq (.ops [
 ⟨some 3, none, .mv (.t 0)⟩,
 ⟨some 4, none, .call 500 [(.t 3)]⟩,
 ⟨some 5, none, .un .not (.t 4)⟩,
 ⟨some 2, none, .mv (.t 5)⟩] ⟨false, [], []⟩)
 .ret))⟩

/- paternoster/items.name -/
def w500 : WFn := ⟨1, [.tmp 2],
 (.seq (.ops [
 ⟨some 2, none, .mv (.c (.bool false))⟩] ⟨false, [], []⟩)
 (.seq (.ops [
 ⟨some 3, none, .mv (.c (.fn 545 []))⟩] ⟨false, [], []⟩)
 (.seq (.ops [
 ⟨some 4, none, .mv (.t 0)⟩,
 ⟨some 5, none, .bin .neq (.t 4) (.c (.str []))⟩,
 ⟨some 6, none, .mv (.t 5)⟩,
 ⟨some 7, (some (6, true)), .mv (.t 0)⟩,
 ⟨some 8, (some (6, true)), .len 0 (.t 7)⟩,
 ⟨some 9, (some (6, true)), .bin .leq (.t 8) (.c (.int .i64 16))⟩,
 ⟨some 10, none, .pick (.t 6) (.t 9) (.c (.bool false))⟩,
 ⟨some 11, none, .mv (.t 10)⟩,
 ⟨some 12, (some (11, true)), .mv (.t 0)⟩,
 ⟨some 13, (some (11, true)), .mv (.t 3)⟩,
 ⟨some 14, (some (11, true)), .call 495 [(.t 12), (.t 13)]⟩,
 ⟨some 15, (some (11, true)), .un .not (.t 14)⟩,
 ⟨some 16, none, .pick (.t 11) (.t 15) (.c (.bool false))⟩,
 ⟨some 2, none, .mv (.t 16)⟩] ⟨false, [], []⟩)
 .ret)))⟩

/- paternoster/templates.Render -/
def w501 : WFn := ⟨3, [.cell 6 6 true, .tmp 7],
 (.seq (.ops [
 ⟨some 3, none, .box (.t 0)⟩,
 ⟨some 4, none, .box (.t 1)⟩,
 ⟨some 6, none, .alloc [(.int .u8 0), (.str []), (.str []), (.ro 2 [] true), (.str []), (.ro 6 [] true)]⟩,
 ⟨some 7, none, .mv (.c (.int .i64 0))⟩] ⟨false, [], []⟩)
 (.seq (.seq (.ops [
 ⟨some 12, none, .mv (.t 2)⟩,
 ⟨some 13, none, .bin .lss (.t 12) (.c (.int .i64 1))⟩,
 ⟨some 14, none, .mv (.t 13)⟩,
 ⟨some 15, (some (14, false)), .mv (.t 2)⟩,
 ⟨some 16, (some (14, false)), .bin .gtr (.t 15) (.c (.int .i64 64))⟩,
 ⟨some 17, none, .pick (.t 14) (.c (.bool true)) (.t 16)⟩] ⟨true, [17, 6, 4, 3, 2], []⟩)
 (.cond (.t 17) (.seq (.ops [
 ⟨some 18, none, .build [(.int .u8 0), (.str []), (.str []), (.ro 2 [] true), (.str []), (.ro 6 [] true)] []⟩,
 ⟨none, none, .store 6 (.t 6) (.t 18)⟩,
 ⟨some 7, none, .mv (.c (.int .i64 1))⟩] ⟨false, [], []⟩)
 .ret)
 .skip))
 (.seq (.seq (.ops [
 ⟨some 19, none, .load 6 true (.t 3)⟩,
 ⟨some 20, none, .call 231 [(.t 19)]⟩,
 ⟨some 8, none, .mv (.t 20)⟩] ⟨false, [], []⟩)
 (.seq (.ops [
 ⟨some 21, none, .mv (.t 8)⟩,
 ⟨some 22, none, .bin .neq (.t 21) (.c (.int .i64 0))⟩] ⟨false, [], []⟩)
 (.cond (.t 22) (.seq (.ops [
 ⟨some 23, none, .build [(.int .u8 0), (.str []), (.str []), (.ro 2 [] true), (.str []), (.ro 6 [] true)] []⟩,
 ⟨some 24, none, .mv (.t 8)⟩,
 ⟨none, none, .store 6 (.t 6) (.t 23)⟩,
 ⟨some 7, none, .mv (.t 24)⟩] ⟨false, [], []⟩)
 .ret)
 .skip)))
 (.seq (.seq (.ops [
 ⟨some 25, none, .load 4 true (.t 4)⟩,
 ⟨some 26, none, .call 546 [(.t 25)]⟩,
 ⟨some 9, none, .mv (.t 26)⟩] ⟨false, [], []⟩)
 (.seq (.ops [
 ⟨some 27, none, .mv (.t 9)⟩,
 ⟨some 28, none, .bin .neq (.t 27) (.c (.int .i64 0))⟩] ⟨false, [], []⟩)
 (.cond (.t 28) (.seq (.ops [
 ⟨some 29, none, .build [(.int .u8 0), (.str []), (.str []), (.ro 2 [] true), (.str []), (.ro 6 [] true)] []⟩,
 ⟨some 30, none, .mv (.t 9)⟩,
 ⟨none, none, .store 6 (.t 6) (.t 29)⟩,
 ⟨some 7, none, .mv (.t 30)⟩] ⟨false, [], []⟩)
 .ret)
 .skip)))
 (.seq (.ops [
 ⟨some 31, none, .load 4 true (.t 4)⟩,
 ⟨some 32, none, .build [(.int .u64 0), (.int .u8 0), (.str []), (.ro 1 [] true)] [(0, 4, (.t 31))]⟩,
 ⟨some 33, none, .load 6 true (.t 3)⟩,
 ⟨some 34, none, .buildS [(.int .u8 0), (.str []), (.str []), (.ro 3 [] true), (.str []), (.ro 6 [] true)] 1 [(0, (.t 33))]⟩,
 ⟨some 35, none, .call 547 [(.t 32), (.t 34)]⟩,
 ⟨some 36, none, .idxs 6 (.t 35) (.c (.int .i64 0))⟩,
 ⟨some 37, none, .load 6 true (.t 36)⟩,
 ⟨some 10, none, .alloc [(.int .u8 0), (.str []), (.str []), (.ro 2 [] true), (.str []), (.ro 6 [] true)]⟩,
 ⟨none, none, .store 6 (.t 10) (.t 37)⟩] ⟨true, [10, 6, 2], []⟩)
 (.seq (.seq (.ops [
 ⟨some 38, none, .load 6 true (.t 10)⟩,
 ⟨some 39, none, .call 140 [(.t 38)]⟩,
 ⟨some 11, none, .mv (.t 39)⟩] ⟨false, [], []⟩)
 (.seq (.ops [
 ⟨some 40, none, .mv (.t 11)⟩,
 ⟨some 41, none, .bin .eql (.t 40) (.c (.int .i64 0))⟩,
 ⟨some 42, none, .mv (.t 41)⟩,
 ⟨some 43, (some (42, false)), .mv (.t 11)⟩,
 ⟨some 44, (some (42, false)), .mv (.t 2)⟩,
 ⟨some 45, (some (42, false)), .bin .gtr (.t 43) (.t 44)⟩,
 ⟨some 46, none, .pick (.t 42) (.c (.bool true)) (.t 45)⟩] ⟨false, [], []⟩)
 (.cond (.t 46) (.seq (.ops [
 ⟨some 47, none, .build [(.int .u8 0), (.str []), (.str []), (.ro 2 [] true), (.str []), (.ro 6 [] true)] []⟩,
 ⟨none, none, .store 6 (.t 6) (.t 47)⟩,
 ⟨some 7, none, .mv (.c (.int .i64 14))⟩] ⟨false, [], []⟩)
 .ret)
 .skip)))
 (.seq (.ops [
 ⟨some 48, none, .load 6 true (.t 10)⟩,
 ⟨none, none, .store 6 (.t 6) (.t 48)⟩,
 ⟨some 7, none, .mv (.c (.int .i64 0))⟩] ⟨false, [], []⟩)
 .ret)))))))⟩

/- paternoster/templates.Count -/
def w404 : WFn := ⟨1, [.tmp 2],
 (.seq (.ops [
 ⟨some 1, none, .box (.t 0)⟩,
 ⟨some 2, none, .mv (.c (.int .i64 0))⟩] ⟨false, [], []⟩)
 (.seq (.ops [
 ⟨some 3, none, .call 502 [(.t 1), (.c (.fn 503 []))]⟩,
 ⟨some 2, none, .mv (.t 3)⟩] ⟨false, [], []⟩)
 .ret))⟩

/- slices.IndexFunc[[]paternoster/api.Kind,paternoster/api.Kind] -/
def w405_c0 : WCode := (.seq (.ops [
 ⟨some 4, none, .mv (.c (.int .i64 (-1)))⟩] ⟨false, [], []⟩)
 .ret)

def w405_B0 : WCode := (.seq (.ops [
 ⟨some 9, none, .bin .lss (.t 8) (.t 7)⟩] ⟨false, [], []⟩)
 (.seq (.cond (.t 9) .skip
 (.exit 0))
 (.seq (.block 1 (.seq (.ops [
 ⟨some 10, none, .mv (.t 8)⟩,
 ⟨some 5, none, .mv (.t 10)⟩] ⟨false, [], []⟩)
 (.seq (.ops [
 ⟨some 11, none, .mv (.t 1)⟩,
 ⟨some 12, none, .mv (.t 0)⟩,
 ⟨some 13, none, .mv (.t 5)⟩,
 ⟨some 14, none, .idxs 9 (.t 12) (.t 13)⟩,
 ⟨some 15, none, .load 9 true (.t 14)⟩,
 ⟨some 16, none, .callv (.t 11) [(.t 15)]⟩] ⟨false, [], []⟩)
 (.cond (.t 16) (.seq (.ops [
 ⟨some 17, none, .mv (.t 5)⟩,
 ⟨some 4, none, .mv (.t 17)⟩] ⟨false, [], []⟩)
 .ret)
 .skip))) ⟨false, [], []⟩)
 (.ops [
 ⟨some 18, none, .bin .add (.t 8) (.c (.int .i64 1))⟩,
 ⟨some 8, none, .mv (.t 18)⟩] ⟨false, [], []⟩))))
def w405_L0 : WCode := .loop ⟨true, [8, 7, 1, 0], []⟩ w405_B0
def w405 : WFn := ⟨2, [.tmp 4],
 (.seq (.ops [
 ⟨some 4, none, .mv (.c (.int .i64 0))⟩] ⟨false, [], []⟩)
 (.seq (.seq (.ops [
 ⟨some 6, none, .mv (.t 0)⟩,
 ⟨some 7, none, .len 1 (.t 6)⟩,
 ⟨some 8, none, .mv (.c (.int .i64 0))⟩] ⟨false, [], []⟩)
 (.block 0 w405_L0 ⟨true, [], []⟩))
 w405_c0))⟩

@[simp] theorem w405_E0 {β : Type} {C : WProg} {b : Nat} {f : Ex × WSt → Option β} {k : List Pw.Frame} {s : WSt} : CK C b f k w405_L0 s = LK C b f (.sq w405_L0 :: k) w405_B0 (canon b ⟨true, [8, 7, 1, 0], []⟩ s) := ck_lp rfl
noncomputable abbrev w405_K0 (C : WProg) (s : WSt) : Option AV := CK C 0 (pureFin [.tmp 4]) [.sq w405_L0, .bk 0 ⟨true, [], []⟩, .sq w405_c0] w405_B0 s

/- paternoster/paternosterref14.Count -/
def w505 : WFn := ⟨1, [.tmp 2],
 (.seq (.ops [
 ⟨some 1, none, .box (.t 0)⟩,
 ⟨some 2, none, .mv (.c (.int .i64 0))⟩] ⟨false, [], []⟩)
 (.seq (.ops [
 ⟨some 4, none, .load 6 true (.t 1)⟩,
 ⟨some 5, none, .call 550 [(.t 4), (.c (.int .i64 6))]⟩,
 ⟨some 3, none, .mv (.t 5)⟩] ⟨false, [], []⟩)
 (.seq (.seq (.ops [
 ⟨some 6, none, .fld 0 (.t 1)⟩,
 ⟨some 7, none, .load 1 false (.t 6)⟩,
 ⟨some 8, none, .bin .neq (.t 7) (.c (.int .u8 1))⟩,
 ⟨some 9, none, .mv (.t 8)⟩,
 ⟨some 10, (some (9, false)), .mv (.t 3)⟩,
 ⟨some 11, (some (9, false)), .bin .gtr (.t 10) (.c (.int .i64 64))⟩,
 ⟨some 12, none, .pick (.t 9) (.c (.bool true)) (.t 11)⟩] ⟨false, [], []⟩)
 (.cond (.t 12) (.seq (.ops [
 ⟨some 2, none, .mv (.c (.int .i64 0))⟩] ⟨false, [], []⟩)
 .ret)
 .skip))
 (.seq (.ops [
 ⟨some 13, none, .mv (.t 3)⟩,
 ⟨some 2, none, .mv (.t 13)⟩] ⟨false, [], []⟩)
 .ret))))⟩

/- paternoster/paternosterref23.Words -/
def w510_c0 : WCode := (.seq (.ops [
 ⟨some 2, none, .mv (.c (.int .i64 1))⟩] ⟨false, [], []⟩)
 .ret)

def w510_B0 : WCode := (.seq (.seq (.ops [
 ⟨some 7, none, .mv (.t 3)⟩,
 ⟨some 8, none, .mv (.t 0)⟩,
 ⟨some 9, none, .len 0 (.t 8)⟩,
 ⟨some 10, none, .bin .lss (.t 7) (.t 9)⟩] ⟨false, [], []⟩)
 (.cond (.t 10) .skip
 (.exit 0)))
 (.seq (.block 1 (.seq (.ops [
 ⟨some 13, none, .mv (.t 0)⟩,
 ⟨some 14, none, .mv (.t 3)⟩,
 ⟨some 15, none, .idxstr (.t 13) (.t 14)⟩,
 ⟨some 16, none, .bin .lss (.t 15) (.c (.int .u8 32))⟩,
 ⟨some 17, none, .mv (.t 16)⟩,
 ⟨some 18, (some (17, false)), .mv (.t 0)⟩,
 ⟨some 19, (some (17, false)), .mv (.t 3)⟩,
 ⟨some 20, (some (17, false)), .idxstr (.t 18) (.t 19)⟩,
 ⟨some 21, (some (17, false)), .bin .gtr (.t 20) (.c (.int .u8 126))⟩,
 ⟨some 22, none, .pick (.t 17) (.c (.bool true)) (.t 21)⟩] ⟨false, [], []⟩)
 (.cond (.t 22) (.seq (.ops [
 ⟨some 2, none, .mv (.c (.int .i64 0))⟩] ⟨false, [], []⟩)
 .ret)
 .skip)) ⟨false, [], []⟩)
 (.ops [
 ⟨some 11, none, .mv (.t 3)⟩,
 ⟨some 12, none, .bin .add (.t 11) (.c (.int .i64 1))⟩,
 ⟨some 3, none, .mv (.t 12)⟩] ⟨false, [], []⟩)))
def w510_L0 : WCode := .loop ⟨true, [3, 0], []⟩ w510_B0
def w510 : WFn := ⟨1, [.tmp 2],
 (.seq (.ops [
 ⟨some 2, none, .mv (.c (.int .i64 0))⟩] ⟨false, [], []⟩)
 (.seq (.seq (.ops [
 ⟨some 4, none, .mv (.t 0)⟩,
 ⟨some 5, none, .len 0 (.t 4)⟩,
 ⟨some 6, none, .bin .gtr (.t 5) (.c (.int .i64 64))⟩] ⟨true, [6, 0], []⟩)
 (.cond (.t 6) (.seq (.ops [
 ⟨some 2, none, .mv (.c (.int .i64 0))⟩] ⟨false, [], []⟩)
 .ret)
 .skip))
 (.seq (.seq (.ops [
 ⟨some 3, none, .mv (.c (.int .i64 0))⟩] ⟨false, [], []⟩)
 (.block 0 w510_L0 ⟨true, [], []⟩))
 w510_c0)))⟩

@[simp] theorem w510_E0 {β : Type} {C : WProg} {b : Nat} {f : Ex × WSt → Option β} {k : List Pw.Frame} {s : WSt} : CK C b f k w510_L0 s = LK C b f (.sq w510_L0 :: k) w510_B0 (canon b ⟨true, [3, 0], []⟩ s) := ck_lp rfl
noncomputable abbrev w510_K0 (C : WProg) (s : WSt) : Option AV := CK C 0 (pureFin [.tmp 2]) [.sq w510_L0, .bk 0 ⟨true, [], []⟩, .sq w510_c0] w510_B0 s

/- paternoster/paternosterref23.Name -/
def w511_c0 : WCode := (.seq (.ops [
 ⟨some 2, none, .mv (.c (.int .i64 1))⟩] ⟨false, [], []⟩)
 .ret)

def w511_B0 : WCode := (.seq (.seq (.ops [
 ⟨some 13, none, .mv (.t 3)⟩,
 ⟨some 14, none, .mv (.t 0)⟩,
 ⟨some 15, none, .len 0 (.t 14)⟩,
 ⟨some 16, none, .bin .lss (.t 13) (.t 15)⟩] ⟨false, [], []⟩)
 (.cond (.t 16) .skip
 (.exit 0)))
 (.seq (.block 1 (.seq (.ops [
 ⟨some 19, none, .mv (.t 0)⟩,
 ⟨some 20, none, .mv (.t 3)⟩,
 ⟨some 21, none, .idxstr (.t 19) (.t 20)⟩,
 ⟨some 4, none, .mv (.t 21)⟩] ⟨true, [4, 3, 0], []⟩)
 (.seq (.ops [
 ⟨some 22, none, .mv (.t 4)⟩,
 ⟨some 23, none, .bin .geq (.t 22) (.c (.int .u8 97))⟩,
 ⟨some 24, none, .mv (.t 23)⟩,
 ⟨some 25, (some (24, true)), .mv (.t 4)⟩,
 ⟨some 26, (some (24, true)), .bin .leq (.t 25) (.c (.int .u8 122))⟩,
 ⟨some 27, none, .pick (.t 24) (.t 26) (.c (.bool false))⟩,
 ⟨some 28, none, .mv (.t 27)⟩,
 ⟨some 29, (some (28, false)), .mv (.t 4)⟩,
 ⟨some 30, (some (28, false)), .bin .geq (.t 29) (.c (.int .u8 48))⟩,
 ⟨some 31, (some (28, false)), .mv (.t 30)⟩,
 ⟨some 32, (some (31, true)), .mv (.t 4)⟩,
 ⟨some 33, (some (31, true)), .bin .leq (.t 32) (.c (.int .u8 57))⟩,
 ⟨some 34, (some (28, false)), .pick (.t 31) (.t 33) (.c (.bool false))⟩,
 ⟨some 35, none, .pick (.t 28) (.c (.bool true)) (.t 34)⟩,
 ⟨some 36, none, .un .not (.t 35)⟩] ⟨false, [], []⟩)
 (.cond (.t 36) (.seq (.ops [
 ⟨some 2, none, .mv (.c (.int .i64 0))⟩] ⟨false, [], []⟩)
 .ret)
 .skip))) ⟨false, [], []⟩)
 (.ops [
 ⟨some 17, none, .mv (.t 3)⟩,
 ⟨some 18, none, .bin .add (.t 17) (.c (.int .i64 1))⟩,
 ⟨some 3, none, .mv (.t 18)⟩] ⟨false, [], []⟩)))
def w511_L0 : WCode := .loop ⟨true, [3, 0], []⟩ w511_B0
def w511 : WFn := ⟨1, [.tmp 2],
 (.seq (.ops [
 ⟨some 2, none, .mv (.c (.int .i64 0))⟩] ⟨false, [], []⟩)
 (.seq (.seq (.ops [
 ⟨some 5, none, .mv (.t 0)⟩,
 ⟨some 6, none, .len 0 (.t 5)⟩,
 ⟨some 7, none, .bin .lss (.t 6) (.c (.int .i64 1))⟩,
 ⟨some 8, none, .mv (.t 7)⟩,
 ⟨some 9, (some (8, false)), .mv (.t 0)⟩,
 ⟨some 10, (some (8, false)), .len 0 (.t 9)⟩,
 ⟨some 11, (some (8, false)), .bin .gtr (.t 10) (.c (.int .i64 16))⟩,
 ⟨some 12, none, .pick (.t 8) (.c (.bool true)) (.t 11)⟩] ⟨false, [], []⟩)
 (.cond (.t 12) (.seq (.ops [
 ⟨some 2, none, .mv (.c (.int .i64 0))⟩] ⟨false, [], []⟩)
 .ret)
 .skip))
 (.seq (.seq (.ops [
 ⟨some 3, none, .mv (.c (.int .i64 0))⟩] ⟨false, [], []⟩)
 (.block 0 w511_L0 ⟨true, [], []⟩))
 w511_c0)))⟩

@[simp] theorem w511_E0 {β : Type} {C : WProg} {b : Nat} {f : Ex × WSt → Option β} {k : List Pw.Frame} {s : WSt} : CK C b f k w511_L0 s = LK C b f (.sq w511_L0 :: k) w511_B0 (canon b ⟨true, [3, 0], []⟩ s) := ck_lp rfl
noncomputable abbrev w511_K0 (C : WProg) (s : WSt) : Option AV := CK C 0 (pureFin [.tmp 2]) [.sq w511_L0, .bk 0 ⟨true, [], []⟩, .sq w511_c0] w511_B0 s

/- paternoster/paternosterref14.CheckItem -/
def w512_c0 : WCode := (.seq (.ops [
 ⟨some 2, none, .mv (.c (.int .i64 0))⟩] ⟨false, [], []⟩)
 .ret)

def w512_B0 : WCode := (.seq (.seq (.ops [
 ⟨some 19, none, .mv (.t 3)⟩,
 ⟨some 20, none, .fld 3 (.t 1)⟩,
 ⟨some 21, none, .load 1 false (.t 20)⟩,
 ⟨some 22, none, .len 1 (.t 21)⟩,
 ⟨some 23, none, .bin .lss (.t 19) (.t 22)⟩] ⟨false, [], []⟩)
 (.cond (.t 23) .skip
 (.exit 0)))
 (.seq (.block 1 (.seq (.ops [
 ⟨some 26, none, .fld 3 (.t 1)⟩,
 ⟨some 27, none, .load 1 false (.t 26)⟩,
 ⟨some 28, none, .mv (.t 3)⟩,
 ⟨some 29, none, .idxs 1 (.t 27) (.t 28)⟩,
 ⟨some 30, none, .load 1 false (.t 29)⟩,
 ⟨some 31, none, .call 557 [(.t 30)]⟩,
 ⟨some 32, none, .un .not (.t 31)⟩] ⟨false, [], []⟩)
 (.cond (.t 32) (.seq (.ops [
 ⟨some 2, none, .mv (.c (.int .i64 6))⟩] ⟨false, [], []⟩)
 .ret)
 .skip)) ⟨false, [], []⟩)
 (.ops [
 ⟨some 24, none, .mv (.t 3)⟩,
 ⟨some 25, none, .bin .add (.t 24) (.c (.int .i64 1))⟩,
 ⟨some 3, none, .mv (.t 25)⟩] ⟨false, [], []⟩)))
def w512_L0 : WCode := .loop ⟨true, [3, 1], []⟩ w512_B0
def w512 : WFn := ⟨1, [.tmp 2],
 (.seq (.ops [
 ⟨some 1, none, .box (.t 0)⟩,
 ⟨some 2, none, .mv (.c (.int .i64 0))⟩] ⟨false, [], []⟩)
 (.seq (.seq (.ops [
 ⟨some 4, none, .fld 0 (.t 1)⟩,
 ⟨some 5, none, .load 1 false (.t 4)⟩,
 ⟨some 6, none, .bin .eql (.t 5) (.c (.int .u64 0))⟩,
 ⟨some 7, none, .mv (.t 6)⟩,
 ⟨some 8, (some (7, false)), .fld 2 (.t 1)⟩,
 ⟨some 9, (some (7, false)), .load 1 false (.t 8)⟩,
 ⟨some 10, (some (7, false)), .call 556 [(.t 9)]⟩,
 ⟨some 11, (some (7, false)), .un .not (.t 10)⟩,
 ⟨some 12, none, .pick (.t 7) (.c (.bool true)) (.t 11)⟩,
 ⟨some 13, none, .mv (.t 12)⟩,
 ⟨some 14, (some (13, false)), .fld 3 (.t 1)⟩,
 ⟨some 15, (some (13, false)), .load 1 false (.t 14)⟩,
 ⟨some 16, (some (13, false)), .len 1 (.t 15)⟩,
 ⟨some 17, (some (13, false)), .bin .gtr (.t 16) (.c (.int .i64 8))⟩,
 ⟨some 18, none, .pick (.t 13) (.c (.bool true)) (.t 17)⟩] ⟨true, [18, 1], []⟩)
 (.cond (.t 18) (.seq (.ops [
 ⟨some 2, none, .mv (.c (.int .i64 6))⟩] ⟨false, [], []⟩)
 .ret)
 .skip))
 (.seq (.seq (.ops [
 ⟨some 3, none, .mv (.c (.int .i64 0))⟩] ⟨false, [], []⟩)
 (.block 0 w512_L0 ⟨true, [], []⟩))
 w512_c0)))⟩

@[simp] theorem w512_E0 {β : Type} {C : WProg} {b : Nat} {f : Ex × WSt → Option β} {k : List Pw.Frame} {s : WSt} : CK C b f k w512_L0 s = LK C b f (.sq w512_L0 :: k) w512_B0 (canon b ⟨true, [3, 1], []⟩ s) := ck_lp rfl
noncomputable abbrev w512_K0 (C : WProg) (s : WSt) : Option AV := CK C 0 (pureFin [.tmp 2]) [.sq w512_L0, .bk 0 ⟨true, [], []⟩, .sq w512_c0] w512_B0 s

/- paternoster/paternosterref14.Made -/
def w513_c0 : WCode := (.seq (.ops [
 ⟨some 89, none, .load 6 true (.t 7)⟩,
 ⟨some 90, none, .buildS [(.int .u8 0), (.str []), (.str []), (.ro 2 [] true), (.str []), (.ro 6 [] true)] 1 [(0, (.t 89))]⟩,
 ⟨some 4, none, .mv (.t 90)⟩] ⟨false, [], []⟩)
 .ret)

def w513_B0 : WCode := (.seq (.seq (.ops [
 ⟨some 71, none, .mv (.t 8)⟩,
 ⟨some 72, none, .fld 5 (.t 2)⟩,
 ⟨some 73, none, .load 1 false (.t 72)⟩,
 ⟨some 74, none, .len 1 (.t 73)⟩,
 ⟨some 75, none, .bin .lss (.t 71) (.t 74)⟩] ⟨false, [], []⟩)
 (.cond (.t 75) .skip
 (.exit 3)))
 (.seq (.block 4 (.draw [
 ⟨some 78, none, .fld 5 (.t 7)⟩,
 ⟨some 79, none, .load 1 false (.t 78)⟩,
 ⟨some 80, none, .fld 5 (.t 2)⟩,
 ⟨some 81, none, .load 1 false (.t 80)⟩,
 ⟨some 82, none, .mv (.t 8)⟩,
 ⟨some 83, none, .idxs 6 (.t 81) (.t 82)⟩,
 ⟨some 84, none, .load 6 true (.t 83)⟩,
 ⟨some 85, none, .load 4 true (.t 3)⟩,
 ⟨some 86, none, .call 513 [(.t 84), (.t 85)]⟩,
 ⟨some 87, none, .app [(.int .u8 0), (.str []), (.str []), (.ro 2 [] true), (.str []), (.ro 6 [] true)] 104 false (.t 79) (.t 86)⟩,
 ⟨some 88, none, .fld 5 (.t 7)⟩,
 ⟨none, none, .store 1 (.t 88) (.t 87)⟩] [(1, 8)] ⟨false, [], []⟩) ⟨false, [], []⟩)
 (.ops [
 ⟨some 76, none, .mv (.t 8)⟩,
 ⟨some 77, none, .bin .add (.t 76) (.c (.int .i64 1))⟩,
 ⟨some 8, none, .mv (.t 77)⟩] ⟨false, [], []⟩)))
def w513_L0 : WCode := .loop ⟨true, [8, 7, 3, 2], []⟩ w513_B0
def w513_c1 : WCode := (.seq (.draw [
 ⟨some 62, none, .fld 1 (.t 2)⟩,
 ⟨some 63, none, .load 1 false (.t 62)⟩,
 ⟨some 64, none, .fld 2 (.t 2)⟩,
 ⟨some 65, none, .load 1 false (.t 64)⟩,
 ⟨some 66, none, .fld 3 (.t 2)⟩,
 ⟨some 67, none, .load 1 false (.t 66)⟩,
 ⟨some 68, none, .load 4 true (.t 3)⟩,
 ⟨some 69, none, .call 559 [(.t 67), (.t 68)]⟩,
 ⟨some 70, none, .build [(.int .u8 0), (.str []), (.str []), (.ro 2 [] true), (.str []), (.ro 6 [] true)] [(0, 1, (.c (.int .u8 1))), (1, 1, (.t 63)), (2, 1, (.t 65)), (3, 1, (.t 69))]⟩,
 ⟨some 7, none, .alloc [(.int .u8 0), (.str []), (.str []), (.ro 2 [] true), (.str []), (.ro 6 [] true)]⟩,
 ⟨none, none, .store 6 (.t 7) (.t 70)⟩] [(1, 7), (3, 7), (1, 9), (3, 9), (5, 9), (6, 9), (7, 9)] ⟨false, [], []⟩)
 (.seq (.seq (.ops [
 ⟨some 8, none, .mv (.c (.int .i64 0))⟩] ⟨true, [8, 7, 3, 2], []⟩)
 (.block 3 w513_L0 ⟨true, [7], []⟩))
 w513_c0))

def w513_c2 : WCode := (.seq (.ops [
 ⟨some 61, none, .mv (.t 5)⟩,
 ⟨some 4, none, .mv (.t 61)⟩] ⟨false, [], []⟩)
 .ret)

def w513_B1 : WCode := (.seq (.seq (.ops [
 ⟨some 32, none, .mv (.t 6)⟩,
 ⟨some 33, none, .fld 3 (.t 3)⟩,
 ⟨some 34, none, .load 1 false (.t 33)⟩,
 ⟨some 35, none, .len 1 (.t 34)⟩,
 ⟨some 36, none, .bin .lss (.t 32) (.t 35)⟩] ⟨false, [], []⟩)
 (.cond (.t 36) .skip
 (.exit 1)))
 (.seq (.block 2 (.draw [
 ⟨some 39, none, .mv (.t 5)⟩,
 ⟨some 40, none, .fld 1 (.t 2)⟩,
 ⟨some 41, none, .load 1 false (.t 40)⟩,
 ⟨some 42, none, .fld 3 (.t 3)⟩,
 ⟨some 43, none, .load 1 false (.t 42)⟩,
 ⟨some 44, none, .mv (.t 6)⟩,
 ⟨some 45, none, .idxs 1 (.t 43) (.t 44)⟩,
 ⟨some 46, none, .load 1 false (.t 45)⟩,
 ⟨some 47, none, .fld 3 (.t 2)⟩,
 ⟨some 48, none, .load 1 false (.t 47)⟩,
 ⟨some 49, none, .load 4 true (.t 3)⟩,
 ⟨some 50, none, .call 559 [(.t 48), (.t 49)]⟩,
 ⟨some 51, none, .fld 3 (.t 3)⟩,
 ⟨some 52, none, .load 1 false (.t 51)⟩,
 ⟨some 53, none, .mv (.t 6)⟩,
 ⟨some 54, none, .idxs 1 (.t 52) (.t 53)⟩,
 ⟨some 55, none, .load 1 false (.t 54)⟩,
 ⟨some 56, none, .build [(.int .u8 0), (.str []), (.str []), (.ro 2 [] true), (.str []), (.ro 6 [] true)] [(0, 1, (.c (.int .u8 2))), (4, 1, (.t 55))]⟩,
 ⟨some 57, none, .buildS [(.int .u8 0), (.str []), (.str []), (.ro 2 [] true), (.str []), (.ro 6 [] true)] 1 [(0, (.t 56))]⟩,
 ⟨some 58, none, .build [(.int .u8 0), (.str []), (.str []), (.ro 2 [] true), (.str []), (.ro 6 [] true)] [(0, 1, (.c (.int .u8 1))), (1, 1, (.t 41)), (2, 1, (.t 46)), (3, 1, (.t 50)), (5, 1, (.t 57))]⟩,
 ⟨some 59, none, .buildS [(.int .u8 0), (.str []), (.str []), (.ro 2 [] true), (.str []), (.ro 6 [] true)] 1 [(0, (.t 58))]⟩,
 ⟨some 60, none, .app [(.int .u8 0), (.str []), (.str []), (.ro 2 [] true), (.str []), (.ro 6 [] true)] 104 false (.t 39) (.t 59)⟩,
 ⟨some 5, none, .mv (.t 60)⟩] [(2, 11), (4, 11), (7, 11), (11, 13), (11, 16), (2, 18), (4, 18), (7, 18), (9, 18), (10, 18), (11, 18)] ⟨true, [6, 5, 3, 2], []⟩) ⟨false, [], []⟩)
 (.ops [
 ⟨some 37, none, .mv (.t 6)⟩,
 ⟨some 38, none, .bin .add (.t 37) (.c (.int .i64 1))⟩,
 ⟨some 6, none, .mv (.t 38)⟩] ⟨false, [], []⟩)))
def w513_L1 : WCode := .loop ⟨true, [6, 5, 3, 2], []⟩ w513_B1
def w513 : WFn := ⟨2, [.tmp 4],
 (.seq (.ops [
 ⟨some 2, none, .box (.t 0)⟩,
 ⟨some 3, none, .box (.t 1)⟩,
 ⟨some 4, none, .mv (.c (.ro 6 [] true))⟩] ⟨false, [], []⟩)
 (.seq (.seq (.ops [
 ⟨some 9, none, .fld 0 (.t 2)⟩,
 ⟨some 10, none, .load 1 false (.t 9)⟩] ⟨false, [], []⟩)
 (.block 0 (.seq (.ops [
 ⟨some 12, none, .bin .eql (.t 10) (.c (.int .u8 2))⟩,
 ⟨some 11, none, .mv (.t 12)⟩] ⟨false, [], []⟩)
 (.cond (.t 11) (.seq (.ops [
 ⟨some 13, none, .fld 4 (.t 2)⟩,
 ⟨some 14, none, .load 1 false (.t 13)⟩,
 ⟨some 15, none, .build [(.int .u8 0), (.str []), (.str []), (.ro 2 [] true), (.str []), (.ro 6 [] true)] [(0, 1, (.c (.int .u8 2))), (4, 1, (.t 14))]⟩,
 ⟨some 16, none, .buildS [(.int .u8 0), (.str []), (.str []), (.ro 2 [] true), (.str []), (.ro 6 [] true)] 1 [(0, (.t 15))]⟩,
 ⟨some 4, none, .mv (.t 16)⟩] ⟨false, [], []⟩)
 .ret)
 (.seq (.ops [
 ⟨some 18, none, .bin .eql (.t 10) (.c (.int .u8 3))⟩,
 ⟨some 17, none, .mv (.t 18)⟩] ⟨false, [], []⟩)
 (.cond (.t 17) (.seq (.ops [
 ⟨some 19, none, .fld 2 (.t 3)⟩,
 ⟨some 20, none, .load 1 false (.t 19)⟩,
 ⟨some 21, none, .build [(.int .u8 0), (.str []), (.str []), (.ro 2 [] true), (.str []), (.ro 6 [] true)] [(0, 1, (.c (.int .u8 2))), (4, 1, (.t 20))]⟩,
 ⟨some 22, none, .buildS [(.int .u8 0), (.str []), (.str []), (.ro 2 [] true), (.str []), (.ro 6 [] true)] 1 [(0, (.t 21))]⟩,
 ⟨some 4, none, .mv (.t 22)⟩] ⟨false, [], []⟩)
 .ret)
 (.seq (.ops [
 ⟨some 24, none, .bin .eql (.t 10) (.c (.int .u8 4))⟩,
 ⟨some 23, none, .mv (.t 24)⟩] ⟨false, [], []⟩)
 (.cond (.t 23) (.seq (.ops [
 ⟨some 25, none, .fld 0 (.t 3)⟩,
 ⟨some 26, none, .load 1 false (.t 25)⟩,
 ⟨some 27, none, .call 558 [(.t 26)]⟩,
 ⟨some 28, none, .build [(.int .u8 0), (.str []), (.str []), (.ro 2 [] true), (.str []), (.ro 6 [] true)] [(0, 1, (.c (.int .u8 2))), (4, 1, (.t 27))]⟩,
 ⟨some 29, none, .buildS [(.int .u8 0), (.str []), (.str []), (.ro 2 [] true), (.str []), (.ro 6 [] true)] 1 [(0, (.t 28))]⟩,
 ⟨some 4, none, .mv (.t 29)⟩] ⟨true, [4], []⟩)
 .ret)
 (.seq (.ops [
 ⟨some 31, none, .bin .eql (.t 10) (.c (.int .u8 5))⟩,
 ⟨some 30, none, .mv (.t 31)⟩] ⟨false, [], []⟩)
 (.cond (.t 30) (.seq (.ops [
 ⟨some 5, none, .mv (.c (.ro 6 [] true))⟩] ⟨true, [5, 3, 2], [(5, 6)]⟩)
 (.seq (.seq (.ops [
 ⟨some 6, none, .mv (.c (.int .i64 0))⟩] ⟨false, [], []⟩)
 (.block 1 w513_L1 ⟨true, [5], []⟩))
 w513_c2))
 .skip)))))))) ⟨true, [3, 2], []⟩))
 w513_c1))⟩

@[simp] theorem w513_E0 {β : Type} {C : WProg} {b : Nat} {f : Ex × WSt → Option β} {k : List Pw.Frame} {s : WSt} : CK C b f k w513_L0 s = LK C b f (.sq w513_L0 :: k) w513_B0 (canon b ⟨true, [8, 7, 3, 2], []⟩ s) := ck_lp rfl
noncomputable abbrev w513_K0 (C : WProg) (s : WSt) : Option AV := CK C 0 (pureFin [.tmp 4]) [.sq w513_L0, .bk 3 ⟨true, [7], []⟩, .sq w513_c0] w513_B0 s

@[simp] theorem w513_E1 {β : Type} {C : WProg} {b : Nat} {f : Ex × WSt → Option β} {k : List Pw.Frame} {s : WSt} : CK C b f k w513_L1 s = LK C b f (.sq w513_L1 :: k) w513_B1 (canon b ⟨true, [6, 5, 3, 2], []⟩ s) := ck_lp rfl
noncomputable abbrev w513_K1 (C : WProg) (s : WSt) : Option AV := CK C 0 (pureFin [.tmp 4]) [.sq w513_L1, .bk 1 ⟨true, [5], []⟩, .sq w513_c2, .bk 0 ⟨true, [3, 2], []⟩, .sq w513_c1] w513_B1 s

/- paternoster/paternosterref12.Check -/
def w441 : WFn := ⟨1, [.tmp 2],
 (.seq (.ops [
 ⟨some 1, none, .box (.t 0)⟩,
 ⟨some 2, none, .mv (.c (.int .i64 0))⟩] ⟨false, [], []⟩)
 (.seq (.seq (.ops [
 ⟨some 3, none, .load 6 true (.t 1)⟩,
 ⟨some 4, none, .call 442 [(.t 3)]⟩,
 ⟨some 5, none, .bin .eql (.t 4) (.c (.int .i64 0))⟩] ⟨false, [], []⟩)
 (.cond (.t 5) (.seq (.ops [
 ⟨some 2, none, .mv (.c (.int .i64 14))⟩] ⟨false, [], []⟩)
 .ret)
 .skip))
 (.seq (.ops [
 ⟨some 2, none, .mv (.c (.int .i64 0))⟩] ⟨false, [], []⟩)
 .ret)))⟩

/- paternoster/paternosterref12.Count -/
def w442 : WFn := ⟨1, [.tmp 2],
 (.seq (.ops [
 ⟨some 1, none, .box (.t 0)⟩,
 ⟨some 2, none, .mv (.c (.int .i64 0))⟩] ⟨false, [], []⟩)
 (.seq (.ops [
 ⟨some 4, none, .load 6 true (.t 1)⟩,
 ⟨some 5, none, .call 520 [(.t 4), (.c (.int .i64 6))]⟩,
 ⟨some 3, none, .mv (.t 5)⟩] ⟨false, [], []⟩)
 (.seq (.seq (.ops [
 ⟨some 6, none, .mv (.t 3)⟩,
 ⟨some 7, none, .bin .gtr (.t 6) (.c (.int .i64 64))⟩] ⟨false, [], []⟩)
 (.cond (.t 7) (.seq (.ops [
 ⟨some 2, none, .mv (.c (.int .i64 0))⟩] ⟨false, [], []⟩)
 .ret)
 .skip))
 (.seq (.ops [
 ⟨some 8, none, .mv (.t 3)⟩,
 ⟨some 2, none, .mv (.t 8)⟩] ⟨false, [], []⟩)
 .ret))))⟩

/- paternoster/items.exact[paternoster/api.Item] -/
def w459 : WFn := ⟨1, [.tmp 2],
 (.seq (.ops [
 ⟨some 2, none, .mv (.c (.ro 4 [] true))⟩] ⟨false, [], []⟩)
 (.seq (.seq (.ops [
 ⟨some 4, none, .mv (.t 0)⟩,
 ⟨some 5, none, .len 1 (.t 4)⟩,
 ⟨some 6, none, .bin .eql (.t 5) (.c (.int .i64 0))⟩] ⟨false, [], []⟩)
 (.cond (.t 6) (.seq (.ops [
 ⟨some 2, none, .mv (.c (.ro 4 [] true))⟩] ⟨false, [], []⟩)
 .ret)
 .skip))
 (.seq (.ops [
 ⟨some 7, none, .mv (.t 0)⟩,
 ⟨some 8, none, .len 1 (.t 7)⟩,
 ⟨some 9, none, .mksl [(.int .u64 0), (.int .u8 0), (.str []), (.ro 1 [] true)] 56 (.t 8) (.t 8)⟩,
 ⟨some 3, none, .mv (.t 9)⟩] ⟨false, [], []⟩)
 (.seq (.ops [
 ⟨some 10, none, .mv (.t 3)⟩,
 ⟨some 11, none, .mv (.t 0)⟩,
 ⟨some 12, none, .cpy 4 (.t 10) (.t 11)⟩] ⟨false, [], []⟩)
 (.seq (.ops [
 ⟨some 13, none, .mv (.t 3)⟩,
 ⟨some 2, none, .mv (.t 13)⟩] ⟨false, [], []⟩)
 .ret)))))⟩

/- paternoster/items.exact[string] -/
def w460 : WFn := ⟨1, [.tmp 2],
 (.seq (.ops [
 ⟨some 2, none, .mv (.c (.ro 1 [] true))⟩] ⟨false, [], []⟩)
 (.seq (.seq (.ops [
 ⟨some 4, none, .mv (.t 0)⟩,
 ⟨some 5, none, .len 1 (.t 4)⟩,
 ⟨some 6, none, .bin .eql (.t 5) (.c (.int .i64 0))⟩] ⟨false, [], []⟩)
 (.cond (.t 6) (.seq (.ops [
 ⟨some 2, none, .mv (.c (.ro 1 [] true))⟩] ⟨false, [], []⟩)
 .ret)
 .skip))
 (.seq (.ops [
 ⟨some 7, none, .mv (.t 0)⟩,
 ⟨some 8, none, .len 1 (.t 7)⟩,
 ⟨some 9, none, .mksl [(.str [])] 16 (.t 8) (.t 8)⟩,
 ⟨some 3, none, .mv (.t 9)⟩] ⟨false, [], []⟩)
 (.seq (.ops [
 ⟨some 10, none, .mv (.t 3)⟩,
 ⟨some 11, none, .mv (.t 0)⟩,
 ⟨some 12, none, .cpy 1 (.t 10) (.t 11)⟩] ⟨false, [], []⟩)
 (.seq (.ops [
 ⟨some 13, none, .mv (.t 3)⟩,
 ⟨some 2, none, .mv (.t 13)⟩] ⟨false, [], []⟩)
 .ret)))))⟩

/- strings.IndexFunc -/
def w543 : WFn := ⟨2, [.tmp 4],
 (.seq (.ops [
 ⟨some 4, none, .mv (.c (.int .i64 0))⟩] ⟨false, [], []⟩)
 (.seq (.ops [
 ⟨some 5, none, .mv (.t 0)⟩,
 ⟨some 6, none, .mv (.t 1)⟩,
 ⟨some 7, none, .call 578 [(.t 5), (.t 6), (.c (.bool true))]⟩,
 ⟨some 4, none, .mv (.t 7)⟩] ⟨false, [], []⟩)
 .ret))⟩

/- slices.IndexFunc[[]string,string] -/
def w544_c0 : WCode := (.seq (.ops [
 ⟨some 4, none, .mv (.c (.int .i64 (-1)))⟩] ⟨false, [], []⟩)
 .ret)

def w544_B0 : WCode := (.seq (.ops [
 ⟨some 9, none, .bin .lss (.t 8) (.t 7)⟩] ⟨false, [], []⟩)
 (.seq (.cond (.t 9) .skip
 (.exit 0))
 (.seq (.block 1 (.seq (.ops [
 ⟨some 10, none, .mv (.t 8)⟩,
 ⟨some 5, none, .mv (.t 10)⟩] ⟨false, [], []⟩)
 (.seq (.ops [
 ⟨some 11, none, .mv (.t 1)⟩,
 ⟨some 12, none, .mv (.t 0)⟩,
 ⟨some 13, none, .mv (.t 5)⟩,
 ⟨some 14, none, .idxs 1 (.t 12) (.t 13)⟩,
 ⟨some 15, none, .load 1 false (.t 14)⟩,
 ⟨some 16, none, .callv (.t 11) [(.t 15)]⟩] ⟨false, [], []⟩)
 (.cond (.t 16) (.seq (.ops [
 ⟨some 17, none, .mv (.t 5)⟩,
 ⟨some 4, none, .mv (.t 17)⟩] ⟨false, [], []⟩)
 .ret)
 .skip))) ⟨false, [], []⟩)
 (.ops [
 ⟨some 18, none, .bin .add (.t 8) (.c (.int .i64 1))⟩,
 ⟨some 8, none, .mv (.t 18)⟩] ⟨false, [], []⟩))))
def w544_L0 : WCode := .loop ⟨true, [8, 7, 1, 0], []⟩ w544_B0
def w544 : WFn := ⟨2, [.tmp 4],
 (.seq (.ops [
 ⟨some 4, none, .mv (.c (.int .i64 0))⟩] ⟨false, [], []⟩)
 (.seq (.seq (.ops [
 ⟨some 6, none, .mv (.t 0)⟩,
 ⟨some 7, none, .len 1 (.t 6)⟩,
 ⟨some 8, none, .mv (.c (.int .i64 0))⟩] ⟨false, [], []⟩)
 (.block 0 w544_L0 ⟨true, [], []⟩))
 w544_c0))⟩

@[simp] theorem w544_E0 {β : Type} {C : WProg} {b : Nat} {f : Ex × WSt → Option β} {k : List Pw.Frame} {s : WSt} : CK C b f k w544_L0 s = LK C b f (.sq w544_L0 :: k) w544_B0 (canon b ⟨true, [8, 7, 1, 0], []⟩ s) := ck_lp rfl
noncomputable abbrev w544_K0 (C : WProg) (s : WSt) : Option AV := CK C 0 (pureFin [.tmp 4]) [.sq w544_L0, .bk 0 ⟨true, [], []⟩, .sq w544_c0] w544_B0 s

/- paternoster/items.name$1 -/
def w545 : WFn := ⟨1, [.tmp 2],
 (.seq (.ops [
 ⟨some 2, none, .mv (.c (.bool false))⟩] ⟨false, [], []⟩)
 (.seq (.ops [
 ⟨some 3, none, .mv (.t 0)⟩,
 ⟨some 4, none, .bin .lss (.t 3) (.c (.int .i32 97))⟩,
 ⟨some 5, none, .mv (.t 4)⟩,
 ⟨some 6, (some (5, false)), .mv (.t 0)⟩,
 ⟨some 7, (some (5, false)), .bin .gtr (.t 6) (.c (.int .i32 122))⟩,
 ⟨some 8, none, .pick (.t 5) (.c (.bool true)) (.t 7)⟩,
 ⟨some 9, none, .mv (.t 8)⟩,
 ⟨some 10, (some (9, true)), .mv (.t 0)⟩,
 ⟨some 11, (some (9, true)), .bin .lss (.t 10) (.c (.int .i32 48))⟩,
 ⟨some 12, (some (9, true)), .mv (.t 11)⟩,
 ⟨some 13, (some (12, false)), .mv (.t 0)⟩,
 ⟨some 14, (some (12, false)), .bin .gtr (.t 13) (.c (.int .i32 57))⟩,
 ⟨some 15, (some (9, true)), .pick (.t 12) (.c (.bool true)) (.t 14)⟩,
 ⟨some 16, none, .pick (.t 9) (.t 15) (.c (.bool false))⟩,
 ⟨some 2, none, .mv (.t 16)⟩] ⟨false, [], []⟩)
 .ret))⟩

/- paternoster/templates.CheckItem -/
def w546 : WFn := ⟨1, [.tmp 2],
 (.seq (.ops [
 ⟨some 1, none, .box (.t 0)⟩,
 ⟨some 2, none, .mv (.c (.int .i64 0))⟩] ⟨true, [1], []⟩)
 (.seq (.seq (.ops [
 ⟨some 3, none, .fld 0 (.t 1)⟩,
 ⟨some 4, none, .load 1 false (.t 3)⟩,
 ⟨some 5, none, .bin .eql (.t 4) (.c (.int .u64 0))⟩,
 ⟨some 6, none, .mv (.t 5)⟩,
 ⟨some 7, (some (6, false)), .fld 2 (.t 1)⟩,
 ⟨some 8, (some (6, false)), .load 1 false (.t 7)⟩,
 ⟨some 9, (some (6, false)), .call 579 [(.t 8)]⟩,
 ⟨some 10, (some (6, false)), .un .not (.t 9)⟩,
 ⟨some 11, none, .pick (.t 6) (.c (.bool true)) (.t 10)⟩,
 ⟨some 12, none, .mv (.t 11)⟩,
 ⟨some 13, (some (12, false)), .fld 3 (.t 1)⟩,
 ⟨some 14, (some (12, false)), .load 1 false (.t 13)⟩,
 ⟨some 15, (some (12, false)), .len 1 (.t 14)⟩,
 ⟨some 16, (some (12, false)), .bin .gtr (.t 15) (.c (.int .i64 8))⟩,
 ⟨some 17, none, .pick (.t 12) (.c (.bool true)) (.t 16)⟩,
 ⟨some 18, none, .mv (.t 17)⟩,
 ⟨some 19, (some (18, false)), .fld 3 (.t 1)⟩,
 ⟨some 20, (some (18, false)), .load 1 false (.t 19)⟩,
 ⟨some 21, (some (18, false)), .call 498 [(.t 20), (.c (.fn 580 []))]⟩,
 ⟨some 22, none, .pick (.t 18) (.c (.bool true)) (.t 21)⟩] ⟨false, [], []⟩)
 (.cond (.t 22) (.seq (.ops [
 ⟨some 2, none, .mv (.c (.int .i64 6))⟩] ⟨false, [], []⟩)
 .ret)
 .skip))
 (.seq (.ops [
 ⟨some 2, none, .mv (.c (.int .i64 0))⟩] ⟨false, [], []⟩)
 .ret)))⟩

/- (paternoster/templates.maker).make -/
def w547_c0 : WCode := (.seq (.ops [
 ⟨some 81, none, .mv (.t 5)⟩,
 ⟨some 4, none, .mv (.t 81)⟩] ⟨false, [], []⟩)
 .ret)

def w547_c1 : WCode := (.ops [
 ⟨some 80, none, .bin .add (.t 12) (.c (.int .i64 1))⟩,
 ⟨some 12, none, .mv (.t 80)⟩] ⟨false, [], []⟩)

def w547_B1 : WCode := (.seq (.ops [
 ⟨some 66, none, .bin .lss (.t 65) (.t 64)⟩] ⟨false, [], []⟩)
 (.seq (.cond (.t 66) .skip
 (.exit 3))
 (.seq (.block 4 (.seq (.ops [
 ⟨some 67, none, .idxs 1 (.t 63) (.t 65)⟩,
 ⟨some 68, none, .load 1 false (.t 67)⟩,
 ⟨some 9, none, .mv (.t 68)⟩] ⟨false, [], []⟩)
 (.draw [
 ⟨some 69, none, .mv (.t 5)⟩,
 ⟨some 70, none, .load 4 true (.t 2)⟩,
 ⟨some 71, none, .load 6 true (.t 7)⟩,
 ⟨some 72, none, .mv (.t 9)⟩,
 ⟨some 73, none, .mv (.t 9)⟩,
 ⟨some 74, none, .call 583 [(.t 73)]⟩,
 ⟨some 75, none, .buildS [(.int .u8 0), (.str []), (.str []), (.ro 2 [] true), (.str []), (.ro 6 [] true)] 1 [(0, (.t 74))]⟩,
 ⟨some 76, none, .call 582 [(.t 70), (.t 71), (.t 72), (.t 75)]⟩,
 ⟨some 77, none, .buildS [(.int .u8 0), (.str []), (.str []), (.ro 2 [] true), (.str []), (.ro 6 [] true)] 1 [(0, (.t 76))]⟩,
 ⟨some 78, none, .app [(.int .u8 0), (.str []), (.str []), (.ro 2 [] true), (.str []), (.ro 6 [] true)] 104 false (.t 69) (.t 77)⟩,
 ⟨some 5, none, .mv (.t 78)⟩] [(1, 5), (2, 5), (1, 6), (2, 6)] ⟨true, [65, 64, 63, 12, 11, 10, 7, 5, 2], []⟩)) ⟨false, [], []⟩)
 (.ops [
 ⟨some 79, none, .bin .add (.t 65) (.c (.int .i64 1))⟩,
 ⟨some 65, none, .mv (.t 79)⟩] ⟨false, [], []⟩))))
def w547_L1 : WCode := .loop ⟨true, [65, 64, 63, 12, 11, 10, 7, 5, 2], []⟩ w547_B1
def w547_B0 : WCode := (.seq (.ops [
 ⟨some 13, none, .bin .lss (.t 12) (.t 11)⟩] ⟨false, [], []⟩)
 (.seq (.cond (.t 13) .skip
 (.exit 0))
 (.seq (.block 1 (.seq (.ops [
 ⟨some 14, none, .idxs 6 (.t 10) (.t 12)⟩,
 ⟨some 15, none, .load 6 true (.t 14)⟩,
 ⟨some 7, none, .alloc [(.int .u8 0), (.str []), (.str []), (.ro 3 [] true), (.str []), (.ro 6 [] true)]⟩,
 ⟨none, none, .store 6 (.t 7) (.t 15)⟩] ⟨true, [12, 11, 10, 7, 5, 2], []⟩)
 (.seq (.ops [
 ⟨some 16, none, .fld 0 (.t 7)⟩,
 ⟨some 17, none, .load 1 false (.t 16)⟩] ⟨false, [], []⟩)
 (.block 2 (.seq (.ops [
 ⟨some 19, none, .bin .eql (.t 17) (.c (.int .u8 1))⟩,
 ⟨some 18, none, .mv (.t 19)⟩] ⟨false, [], []⟩)
 (.cond (.t 18) (.draw [
 ⟨some 20, none, .mv (.t 5)⟩,
 ⟨some 21, none, .load 4 true (.t 2)⟩,
 ⟨some 22, none, .load 6 true (.t 7)⟩,
 ⟨some 23, none, .fld 2 (.t 7)⟩,
 ⟨some 24, none, .load 1 false (.t 23)⟩,
 ⟨some 25, none, .load 4 true (.t 2)⟩,
 ⟨some 26, none, .fld 5 (.t 7)⟩,
 ⟨some 27, none, .load 1 false (.t 26)⟩,
 ⟨some 28, none, .call 547 [(.t 25), (.t 27)]⟩,
 ⟨some 29, none, .call 582 [(.t 21), (.t 22), (.t 24), (.t 28)]⟩,
 ⟨some 30, none, .buildS [(.int .u8 0), (.str []), (.str []), (.ro 2 [] true), (.str []), (.ro 6 [] true)] 1 [(0, (.t 29))]⟩,
 ⟨some 31, none, .app [(.int .u8 0), (.str []), (.str []), (.ro 2 [] true), (.str []), (.ro 6 [] true)] 104 false (.t 20) (.t 30)⟩,
 ⟨some 5, none, .mv (.t 31)⟩] [(1, 8), (2, 8), (4, 8)] ⟨false, [], []⟩)
 (.seq (.ops [
 ⟨some 33, none, .bin .eql (.t 17) (.c (.int .u8 2))⟩,
 ⟨some 32, none, .mv (.t 33)⟩] ⟨false, [], []⟩)
 (.cond (.t 32) (.ops [
 ⟨some 34, none, .mv (.t 5)⟩,
 ⟨some 35, none, .fld 4 (.t 7)⟩,
 ⟨some 36, none, .load 1 false (.t 35)⟩,
 ⟨some 37, none, .call 583 [(.t 36)]⟩,
 ⟨some 38, none, .buildS [(.int .u8 0), (.str []), (.str []), (.ro 2 [] true), (.str []), (.ro 6 [] true)] 1 [(0, (.t 37))]⟩,
 ⟨some 39, none, .app [(.int .u8 0), (.str []), (.str []), (.ro 2 [] true), (.str []), (.ro 6 [] true)] 104 false (.t 34) (.t 38)⟩,
 ⟨some 5, none, .mv (.t 39)⟩] ⟨true, [12, 11, 10, 5, 2], []⟩)
 (.seq (.ops [
 ⟨some 41, none, .bin .eql (.t 17) (.c (.int .u8 3))⟩,
 ⟨some 40, none, .mv (.t 41)⟩] ⟨false, [], []⟩)
 (.cond (.t 40) (.ops [
 ⟨some 42, none, .mv (.t 5)⟩,
 ⟨some 43, none, .fld 0 (.t 2)⟩,
 ⟨some 44, none, .fld 2 (.t 43)⟩,
 ⟨some 45, none, .load 1 false (.t 44)⟩,
 ⟨some 46, none, .call 583 [(.t 45)]⟩,
 ⟨some 47, none, .buildS [(.int .u8 0), (.str []), (.str []), (.ro 2 [] true), (.str []), (.ro 6 [] true)] 1 [(0, (.t 46))]⟩,
 ⟨some 48, none, .app [(.int .u8 0), (.str []), (.str []), (.ro 2 [] true), (.str []), (.ro 6 [] true)] 104 false (.t 42) (.t 47)⟩,
 ⟨some 5, none, .mv (.t 48)⟩] ⟨false, [], []⟩)
 (.seq (.ops [
 ⟨some 50, none, .bin .eql (.t 17) (.c (.int .u8 4))⟩,
 ⟨some 49, none, .mv (.t 50)⟩] ⟨false, [], []⟩)
 (.cond (.t 49) (.ops [
 ⟨some 51, none, .mv (.t 5)⟩,
 ⟨some 52, none, .fld 0 (.t 2)⟩,
 ⟨some 53, none, .fld 0 (.t 52)⟩,
 ⟨some 54, none, .load 1 false (.t 53)⟩,
 ⟨some 55, none, .call 584 [(.t 54)]⟩,
 ⟨some 56, none, .call 583 [(.t 55)]⟩,
 ⟨some 57, none, .buildS [(.int .u8 0), (.str []), (.str []), (.ro 2 [] true), (.str []), (.ro 6 [] true)] 1 [(0, (.t 56))]⟩,
 ⟨some 58, none, .app [(.int .u8 0), (.str []), (.str []), (.ro 2 [] true), (.str []), (.ro 6 [] true)] 104 false (.t 51) (.t 57)⟩,
 ⟨some 5, none, .mv (.t 58)⟩] ⟨false, [], []⟩)
 (.seq (.ops [
 ⟨some 60, none, .bin .eql (.t 17) (.c (.int .u8 5))⟩,
 ⟨some 59, none, .mv (.t 60)⟩] ⟨false, [], []⟩)
 (.cond (.t 59) (.seq (.ops [
 ⟨some 61, none, .fld 0 (.t 2)⟩,
 ⟨some 62, none, .fld 3 (.t 61)⟩,
 ⟨some 63, none, .load 1 false (.t 62)⟩,
 ⟨some 64, none, .len 1 (.t 63)⟩,
 ⟨some 65, none, .mv (.c (.int .i64 0))⟩] ⟨false, [], []⟩)
 (.block 3 w547_L1 ⟨true, [12, 11, 10, 5, 2], []⟩))
 .skip)))))))))) ⟨true, [12, 11, 10, 5, 2], []⟩))) ⟨true, [12, 11, 10, 5, 2], []⟩)
 w547_c1)))
def w547_L0 : WCode := .loop ⟨true, [12, 11, 10, 5, 2], []⟩ w547_B0
def w547 : WFn := ⟨2, [.tmp 4],
 (.seq (.ops [
 ⟨some 2, none, .box (.t 0)⟩,
 ⟨some 4, none, .mv (.c (.ro 6 [] true))⟩] ⟨false, [], []⟩)
 (.seq (.ops [
 ⟨some 5, none, .mv (.c (.ro 6 [] true))⟩] ⟨true, [5, 2, 1], [(5, 6)]⟩)
 (.seq (.seq (.ops [
 ⟨some 10, none, .mv (.t 1)⟩,
 ⟨some 11, none, .len 1 (.t 10)⟩,
 ⟨some 12, none, .mv (.c (.int .i64 0))⟩] ⟨false, [], []⟩)
 (.block 0 w547_L0 ⟨true, [5], []⟩))
 w547_c0)))⟩

@[simp] theorem w547_E1 {β : Type} {C : WProg} {b : Nat} {f : Ex × WSt → Option β} {k : List Pw.Frame} {s : WSt} : CK C b f k w547_L1 s = LK C b f (.sq w547_L1 :: k) w547_B1 (canon b ⟨true, [65, 64, 63, 12, 11, 10, 7, 5, 2], []⟩ s) := ck_lp rfl
noncomputable abbrev w547_K1 (C : WProg) (s : WSt) : Option AV := CK C 0 (pureFin [.tmp 4]) [.sq w547_L1, .bk 3 ⟨true, [12, 11, 10, 5, 2], []⟩, .bk 2 ⟨true, [12, 11, 10, 5, 2], []⟩, .bk 1 ⟨true, [12, 11, 10, 5, 2], []⟩, .sq w547_c1, .sq w547_L0, .bk 0 ⟨true, [5], []⟩, .sq w547_c0] w547_B1 s

@[simp] theorem w547_E0 {β : Type} {C : WProg} {b : Nat} {f : Ex × WSt → Option β} {k : List Pw.Frame} {s : WSt} : CK C b f k w547_L0 s = LK C b f (.sq w547_L0 :: k) w547_B0 (canon b ⟨true, [12, 11, 10, 5, 2], []⟩ s) := ck_lp rfl
noncomputable abbrev w547_K0 (C : WProg) (s : WSt) : Option AV := CK C 0 (pureFin [.tmp 4]) [.sq w547_L0, .bk 0 ⟨true, [5], []⟩, .sq w547_c0] w547_B0 s

/- paternoster/nodes.Count -/
def w140 : WFn := ⟨1, [.tmp 2],
 (.seq (.ops [
 ⟨some 1, none, .box (.t 0)⟩,
 ⟨some 2, none, .mv (.c (.int .i64 0))⟩] ⟨false, [], []⟩)
 (.seq (.ops [
 ⟨some 6, none, .load 6 true (.t 1)⟩,
 ⟨some 7, none, .call 282 [(.t 6)]⟩,
 ⟨some 5, none, .mv (.t 7)⟩,
 ⟨some 8, none, .ext 0 (.t 5)⟩,
 ⟨some 9, none, .ext 1 (.t 5)⟩,
 ⟨some 3, none, .mv (.t 8)⟩,
 ⟨some 4, none, .mv (.t 9)⟩] ⟨false, [], []⟩)
 (.seq (.ops [
 ⟨some 10, none, .mv (.t 3)⟩,
 ⟨some 2, none, .mv (.t 10)⟩] ⟨false, [], []⟩)
 .ret)))⟩

/- paternoster/templates.walk -/
def w502 : WFn := ⟨2, [.tmp 4],
 (.seq (.ops [
 ⟨some 3, none, .box (.t 1)⟩,
 ⟨some 4, none, .mv (.c (.int .i64 0))⟩] ⟨false, [], []⟩)
 (.seq (.seq (.ops [
 ⟨some 7, none, .mv (.t 0)⟩,
 ⟨some 8, none, .nilchk (.t 7)⟩,
 ⟨some 9, none, .fld 0 (.t 8)⟩,
 ⟨some 10, none, .load 1 false (.t 9)⟩,
 ⟨some 11, none, .bin .neq (.t 10) (.c (.int .u8 1))⟩] ⟨false, [], []⟩)
 (.cond (.t 11) (.seq (.ops [
 ⟨some 4, none, .mv (.c (.int .i64 0))⟩] ⟨false, [], []⟩)
 .ret)
 .skip))
 (.seq (.ops [
 ⟨some 5, none, .alloc [(.int .i64 0)]⟩,
 ⟨none, none, .store 1 (.t 5) (.c (.int .i64 0))⟩] ⟨false, [], []⟩)
 (.seq (.ops [
 ⟨some 6, none, .alloc [.nilf]⟩] ⟨false, [], []⟩)
 (.seq (.ops [
 ⟨some 12, none, .mkfn 548 [(.t 5), (.t 3), (.t 6)]⟩,
 ⟨none, none, .store 1 (.t 6) (.t 12)⟩] ⟨false, [], []⟩)
 (.seq (.seq (.ops [
 ⟨some 13, none, .load 1 false (.t 6)⟩,
 ⟨some 14, none, .mv (.t 0)⟩,
 ⟨some 15, none, .callv (.t 13) [(.t 14), (.c (.int .i64 1))]⟩,
 ⟨some 16, none, .un .not (.t 15)⟩] ⟨false, [], []⟩)
 (.cond (.t 16) (.seq (.ops [
 ⟨some 4, none, .mv (.c (.int .i64 0))⟩] ⟨false, [], []⟩)
 .ret)
 .skip))
 (.seq (.ops [
 ⟨some 17, none, .load 1 false (.t 5)⟩,
 ⟨some 4, none, .mv (.t 17)⟩] ⟨false, [], []⟩)
 .ret)))))))⟩

/- paternoster/templates.Count$1 -/
def w503 : WFn := ⟨1, [],
 .skip⟩

/- paternoster/paternosterref14.count -/
def w550_c0 : WCode := (.seq (.ops [
 ⟨some 35, none, .mv (.t 5)⟩,
 ⟨some 4, none, .mv (.t 35)⟩] ⟨false, [], []⟩)
 .ret)

def w550_B0 : WCode := (.seq (.seq (.ops [
 ⟨some 14, none, .mv (.t 6)⟩,
 ⟨some 15, none, .fld 5 (.t 2)⟩,
 ⟨some 16, none, .load 1 false (.t 15)⟩,
 ⟨some 17, none, .len 1 (.t 16)⟩,
 ⟨some 18, none, .bin .lss (.t 14) (.t 17)⟩,
 ⟨some 19, none, .mv (.t 18)⟩,
 ⟨some 20, (some (19, true)), .mv (.t 5)⟩,
 ⟨some 21, (some (19, true)), .bin .leq (.t 20) (.c (.int .i64 64))⟩,
 ⟨some 22, none, .pick (.t 19) (.t 21) (.c (.bool false))⟩] ⟨true, [22, 6, 5, 2, 1], []⟩)
 (.cond (.t 22) .skip
 (.exit 0)))
 (.seq (.block 1 (.ops [
 ⟨some 25, none, .mv (.t 5)⟩,
 ⟨some 26, none, .fld 5 (.t 2)⟩,
 ⟨some 27, none, .load 1 false (.t 26)⟩,
 ⟨some 28, none, .mv (.t 6)⟩,
 ⟨some 29, none, .idxs 6 (.t 27) (.t 28)⟩,
 ⟨some 30, none, .load 6 true (.t 29)⟩,
 ⟨some 31, none, .mv (.t 1)⟩,
 ⟨some 32, none, .bin .sub (.t 31) (.c (.int .i64 1))⟩,
 ⟨some 33, none, .call 550 [(.t 30), (.t 32)]⟩,
 ⟨some 34, none, .bin .add (.t 25) (.t 33)⟩,
 ⟨some 5, none, .mv (.t 34)⟩] ⟨false, [], []⟩) ⟨false, [], []⟩)
 (.ops [
 ⟨some 23, none, .mv (.t 6)⟩,
 ⟨some 24, none, .bin .add (.t 23) (.c (.int .i64 1))⟩,
 ⟨some 6, none, .mv (.t 24)⟩] ⟨false, [], []⟩)))
def w550_L0 : WCode := .loop ⟨true, [6, 5, 2, 1], []⟩ w550_B0
def w550 : WFn := ⟨2, [.tmp 4],
 (.seq (.ops [
 ⟨some 2, none, .box (.t 0)⟩,
 ⟨some 4, none, .mv (.c (.int .i64 0))⟩] ⟨false, [], []⟩)
 (.seq (.seq (.ops [
 ⟨some 7, none, .mv (.t 1)⟩,
 ⟨some 8, none, .bin .lss (.t 7) (.c (.int .i64 1))⟩,
 ⟨some 9, none, .mv (.t 8)⟩,
 ⟨some 10, (some (9, false)), .load 6 true (.t 2)⟩,
 ⟨some 11, (some (9, false)), .call 586 [(.t 10)]⟩,
 ⟨some 12, (some (9, false)), .un .not (.t 11)⟩,
 ⟨some 13, none, .pick (.t 9) (.c (.bool true)) (.t 12)⟩] ⟨false, [], []⟩)
 (.cond (.t 13) (.seq (.ops [
 ⟨some 4, none, .mv (.c (.int .i64 1000))⟩] ⟨false, [], []⟩)
 .ret)
 .skip))
 (.seq (.ops [
 ⟨some 5, none, .mv (.c (.int .i64 1))⟩] ⟨false, [], []⟩)
 (.seq (.seq (.ops [
 ⟨some 6, none, .mv (.c (.int .i64 0))⟩] ⟨false, [], []⟩)
 (.block 0 w550_L0 ⟨true, [5], []⟩))
 w550_c0))))⟩

@[simp] theorem w550_E0 {β : Type} {C : WProg} {b : Nat} {f : Ex × WSt → Option β} {k : List Pw.Frame} {s : WSt} : CK C b f k w550_L0 s = LK C b f (.sq w550_L0 :: k) w550_B0 (canon b ⟨true, [6, 5, 2, 1], []⟩ s) := ck_lp rfl
noncomputable abbrev w550_K0 (C : WProg) (s : WSt) : Option AV := CK C 0 (pureFin [.tmp 4]) [.sq w550_L0, .bk 0 ⟨true, [5], []⟩, .sq w550_c0] w550_B0 s

/- paternoster/paternosterref12.Str -/
def w556_c0 : WCode := (.seq (.ops [
 ⟨some 2, none, .mv (.c (.bool true))⟩] ⟨false, [], []⟩)
 .ret)

def w556_B0 : WCode := (.seq (.seq (.ops [
 ⟨some 7, none, .mv (.t 3)⟩,
 ⟨some 8, none, .mv (.t 0)⟩,
 ⟨some 9, none, .len 0 (.t 8)⟩,
 ⟨some 10, none, .bin .lss (.t 7) (.t 9)⟩] ⟨false, [], []⟩)
 (.cond (.t 10) .skip
 (.exit 0)))
 (.seq (.block 1 (.seq (.ops [
 ⟨some 13, none, .mv (.t 0)⟩,
 ⟨some 14, none, .mv (.t 3)⟩,
 ⟨some 15, none, .idxstr (.t 13) (.t 14)⟩,
 ⟨some 16, none, .bin .lss (.t 15) (.c (.int .u8 32))⟩,
 ⟨some 17, none, .mv (.t 16)⟩,
 ⟨some 18, (some (17, false)), .mv (.t 0)⟩,
 ⟨some 19, (some (17, false)), .mv (.t 3)⟩,
 ⟨some 20, (some (17, false)), .idxstr (.t 18) (.t 19)⟩,
 ⟨some 21, (some (17, false)), .bin .gtr (.t 20) (.c (.int .u8 126))⟩,
 ⟨some 22, none, .pick (.t 17) (.c (.bool true)) (.t 21)⟩] ⟨false, [], []⟩)
 (.cond (.t 22) (.seq (.ops [
 ⟨some 2, none, .mv (.c (.bool false))⟩] ⟨false, [], []⟩)
 .ret)
 .skip)) ⟨false, [], []⟩)
 (.ops [
 ⟨some 11, none, .mv (.t 3)⟩,
 ⟨some 12, none, .bin .add (.t 11) (.c (.int .i64 1))⟩,
 ⟨some 3, none, .mv (.t 12)⟩] ⟨false, [], []⟩)))
def w556_L0 : WCode := .loop ⟨true, [3, 0], []⟩ w556_B0
def w556 : WFn := ⟨1, [.tmp 2],
 (.seq (.ops [
 ⟨some 2, none, .mv (.c (.bool false))⟩] ⟨false, [], []⟩)
 (.seq (.seq (.ops [
 ⟨some 4, none, .mv (.t 0)⟩,
 ⟨some 5, none, .len 0 (.t 4)⟩,
 ⟨some 6, none, .bin .gtr (.t 5) (.c (.int .i64 64))⟩] ⟨true, [6, 0], []⟩)
 (.cond (.t 6) (.seq (.ops [
 ⟨some 2, none, .mv (.c (.bool false))⟩] ⟨false, [], []⟩)
 .ret)
 .skip))
 (.seq (.seq (.ops [
 ⟨some 3, none, .mv (.c (.int .i64 0))⟩] ⟨false, [], []⟩)
 (.block 0 w556_L0 ⟨true, [], []⟩))
 w556_c0)))⟩

@[simp] theorem w556_E0 {β : Type} {C : WProg} {b : Nat} {f : Ex × WSt → Option β} {k : List Pw.Frame} {s : WSt} : CK C b f k w556_L0 s = LK C b f (.sq w556_L0 :: k) w556_B0 (canon b ⟨true, [3, 0], []⟩ s) := ck_lp rfl
noncomputable abbrev w556_K0 (C : WProg) (s : WSt) : Option AV := CK C 0 (pureFin [.tmp 2]) [.sq w556_L0, .bk 0 ⟨true, [], []⟩, .sq w556_c0] w556_B0 s

/- paternoster/paternosterref12.Name -/
def w557_c0 : WCode := (.seq (.ops [
 ⟨some 36, none, .mv (.t 0)⟩,
 ⟨some 37, none, .len 0 (.t 36)⟩,
 ⟨some 38, none, .bin .geq (.t 37) (.c (.int .i64 1))⟩,
 ⟨some 39, none, .mv (.t 38)⟩,
 ⟨some 40, (some (39, true)), .mv (.t 0)⟩,
 ⟨some 41, (some (39, true)), .len 0 (.t 40)⟩,
 ⟨some 42, (some (39, true)), .bin .leq (.t 41) (.c (.int .i64 16))⟩,
 ⟨some 43, none, .pick (.t 39) (.t 42) (.c (.bool false))⟩,
 ⟨some 2, none, .mv (.t 43)⟩] ⟨false, [], []⟩)
 .ret)

def w557_B0 : WCode := (.seq (.seq (.ops [
 ⟨some 4, none, .mv (.t 3)⟩,
 ⟨some 5, none, .mv (.t 0)⟩,
 ⟨some 6, none, .len 0 (.t 5)⟩,
 ⟨some 7, none, .bin .lss (.t 4) (.t 6)⟩,
 ⟨some 8, none, .mv (.t 7)⟩,
 ⟨some 9, (some (8, true)), .mv (.t 3)⟩,
 ⟨some 10, (some (8, true)), .bin .lss (.t 9) (.c (.int .i64 17))⟩,
 ⟨some 11, none, .pick (.t 8) (.t 10) (.c (.bool false))⟩] ⟨false, [], []⟩)
 (.cond (.t 11) .skip
 (.exit 0)))
 (.seq (.block 1 (.seq (.ops [
 ⟨some 14, none, .mv (.t 0)⟩,
 ⟨some 15, none, .mv (.t 3)⟩,
 ⟨some 16, none, .idxstr (.t 14) (.t 15)⟩,
 ⟨some 17, none, .bin .lss (.t 16) (.c (.int .u8 97))⟩,
 ⟨some 18, none, .mv (.t 17)⟩,
 ⟨some 19, (some (18, false)), .mv (.t 0)⟩,
 ⟨some 20, (some (18, false)), .mv (.t 3)⟩,
 ⟨some 21, (some (18, false)), .idxstr (.t 19) (.t 20)⟩,
 ⟨some 22, (some (18, false)), .bin .gtr (.t 21) (.c (.int .u8 122))⟩,
 ⟨some 23, none, .pick (.t 18) (.c (.bool true)) (.t 22)⟩,
 ⟨some 24, none, .mv (.t 23)⟩,
 ⟨some 25, (some (24, true)), .mv (.t 0)⟩,
 ⟨some 26, (some (24, true)), .mv (.t 3)⟩,
 ⟨some 27, (some (24, true)), .idxstr (.t 25) (.t 26)⟩,
 ⟨some 28, (some (24, true)), .bin .lss (.t 27) (.c (.int .u8 48))⟩,
 ⟨some 29, (some (24, true)), .mv (.t 28)⟩,
 ⟨some 30, (some (29, false)), .mv (.t 0)⟩,
 ⟨some 31, (some (29, false)), .mv (.t 3)⟩,
 ⟨some 32, (some (29, false)), .idxstr (.t 30) (.t 31)⟩,
 ⟨some 33, (some (29, false)), .bin .gtr (.t 32) (.c (.int .u8 57))⟩,
 ⟨some 34, (some (24, true)), .pick (.t 29) (.c (.bool true)) (.t 33)⟩,
 ⟨some 35, none, .pick (.t 24) (.t 34) (.c (.bool false))⟩] ⟨true, [35, 3, 0], []⟩)
 (.cond (.t 35) (.seq (.ops [
 ⟨some 2, none, .mv (.c (.bool false))⟩] ⟨false, [], []⟩)
 .ret)
 .skip)) ⟨false, [], []⟩)
 (.ops [
 ⟨some 12, none, .mv (.t 3)⟩,
 ⟨some 13, none, .bin .add (.t 12) (.c (.int .i64 1))⟩,
 ⟨some 3, none, .mv (.t 13)⟩] ⟨false, [], []⟩)))
def w557_L0 : WCode := .loop ⟨true, [3, 0], []⟩ w557_B0
def w557 : WFn := ⟨1, [.tmp 2],
 (.seq (.ops [
 ⟨some 2, none, .mv (.c (.bool false))⟩] ⟨false, [], []⟩)
 (.seq (.seq (.ops [
 ⟨some 3, none, .mv (.c (.int .i64 0))⟩] ⟨false, [], []⟩)
 (.block 0 w557_L0 ⟨true, [0], []⟩))
 w557_c0))⟩

@[simp] theorem w557_E0 {β : Type} {C : WProg} {b : Nat} {f : Ex × WSt → Option β} {k : List Pw.Frame} {s : WSt} : CK C b f k w557_L0 s = LK C b f (.sq w557_L0 :: k) w557_B0 (canon b ⟨true, [3, 0], []⟩ s) := ck_lp rfl
noncomputable abbrev w557_K0 (C : WProg) (s : WSt) : Option AV := CK C 0 (pureFin [.tmp 2]) [.sq w557_L0, .bk 0 ⟨true, [0], []⟩, .sq w557_c0] w557_B0 s

/- paternoster/paternosterref14.Decimal -/
def w558 : WFn := ⟨1, [.tmp 2],
 (.seq (.ops [
 ⟨some 2, none, .mv (.c (.str []))⟩] ⟨false, [], []⟩)
 (.seq (.seq (.ops [
 ⟨some 3, none, .mv (.t 0)⟩,
 ⟨some 4, none, .bin .lss (.t 3) (.c (.int .u64 10))⟩] ⟨false, [], []⟩)
 (.cond (.t 4) (.seq (.ops [
 ⟨some 5, none, .mv (.t 0)⟩,
 ⟨some 6, none, .mv (.t 0)⟩,
 ⟨some 7, none, .bin .add (.t 6) (.c (.int .u64 1))⟩,
 ⟨some 8, none, .slice 0 (.c (.str [48, 49, 50, 51, 52, 53, 54, 55, 56, 57])) (some (.t 5)) (some (.t 7)) none⟩,
 ⟨some 2, none, .mv (.t 8)⟩] ⟨false, [], []⟩)
 .ret)
 .skip))
 (.seq (.ops [
 ⟨some 9, none, .mv (.t 0)⟩,
 ⟨some 10, none, .bin .quo (.t 9) (.c (.int .u64 10))⟩,
 ⟨some 11, none, .call 558 [(.t 10)]⟩,
 ⟨some 12, none, .mv (.t 0)⟩,
 ⟨some 13, none, .bin .rem (.t 12) (.c (.int .u64 10))⟩,
 ⟨some 14, none, .call 558 [(.t 13)]⟩,
 ⟨some 15, none, .bin .add (.t 11) (.t 14)⟩,
 ⟨some 2, none, .mv (.t 15)⟩] ⟨false, [], []⟩)
 .ret)))⟩

/- paternoster/paternosterref14.attrs -/
def w559_c0 : WCode := (.seq (.ops [
 ⟨some 50, none, .mv (.t 5)⟩,
 ⟨some 4, none, .mv (.t 50)⟩] ⟨false, [], []⟩)
 .ret)

def w559_B0 : WCode := (.seq (.seq (.ops [
 ⟨some 8, none, .mv (.t 6)⟩,
 ⟨some 9, none, .mv (.t 0)⟩,
 ⟨some 10, none, .len 1 (.t 9)⟩,
 ⟨some 11, none, .bin .lss (.t 8) (.t 10)⟩] ⟨false, [], []⟩)
 (.cond (.t 11) .skip
 (.exit 0)))
 (.seq (.block 1 (.seq (.ops [
 ⟨some 14, none, .mv (.t 0)⟩,
 ⟨some 15, none, .mv (.t 6)⟩,
 ⟨some 16, none, .idxs 3 (.t 14) (.t 15)⟩,
 ⟨some 17, none, .fld 2 (.t 16)⟩,
 ⟨some 18, none, .load 1 false (.t 17)⟩,
 ⟨some 7, none, .mv (.t 18)⟩] ⟨false, [], []⟩)
 (.seq (.seq (.ops [
 ⟨some 19, none, .mv (.t 0)⟩,
 ⟨some 20, none, .mv (.t 6)⟩,
 ⟨some 21, none, .idxs 3 (.t 19) (.t 20)⟩,
 ⟨some 22, none, .fld 1 (.t 21)⟩,
 ⟨some 23, none, .load 1 false (.t 22)⟩] ⟨false, [], []⟩)
 (.block 2 (.seq (.ops [
 ⟨some 25, none, .bin .eql (.t 23) (.c (.int .u8 1))⟩,
 ⟨some 24, none, .mv (.t 25)⟩] ⟨false, [], []⟩)
 (.cond (.t 24) (.ops [
 ⟨some 26, none, .fld 2 (.t 3)⟩,
 ⟨some 27, none, .load 1 false (.t 26)⟩,
 ⟨some 7, none, .mv (.t 27)⟩] ⟨false, [], []⟩)
 (.seq (.ops [
 ⟨some 29, none, .bin .eql (.t 23) (.c (.int .u8 2))⟩,
 ⟨some 28, none, .mv (.t 29)⟩] ⟨false, [], []⟩)
 (.cond (.t 28) (.ops [
 ⟨some 30, none, .fld 0 (.t 3)⟩,
 ⟨some 31, none, .load 1 false (.t 30)⟩,
 ⟨some 32, none, .call 558 [(.t 31)]⟩,
 ⟨some 7, none, .mv (.t 32)⟩] ⟨false, [], []⟩)
 (.seq (.ops [
 ⟨some 34, none, .bin .eql (.t 23) (.c (.int .u8 3))⟩,
 ⟨some 33, none, .mv (.t 34)⟩] ⟨false, [], []⟩)
 (.cond (.t 33) (.ops [
 ⟨some 35, none, .fld 3 (.t 3)⟩,
 ⟨some 36, none, .load 1 false (.t 35)⟩,
 ⟨some 37, none, .len 1 (.t 36)⟩,
 ⟨some 38, none, .cvt .u64 (.t 37)⟩,
 ⟨some 39, none, .call 558 [(.t 38)]⟩,
 ⟨some 7, none, .mv (.t 39)⟩] ⟨true, [7, 6, 5, 3, 0], []⟩)
 .skip)))))) ⟨false, [], []⟩))
 (.ops [
 ⟨some 40, none, .mv (.t 5)⟩,
 ⟨some 41, none, .mv (.t 0)⟩,
 ⟨some 42, none, .mv (.t 6)⟩,
 ⟨some 43, none, .idxs 3 (.t 41) (.t 42)⟩,
 ⟨some 44, none, .fld 0 (.t 43)⟩,
 ⟨some 45, none, .load 1 false (.t 44)⟩,
 ⟨some 46, none, .mv (.t 7)⟩,
 ⟨some 47, none, .build [(.str []), (.str [])] [(0, 1, (.t 45)), (1, 1, (.t 46))]⟩,
 ⟨some 48, none, .buildS [(.str []), (.str [])] 1 [(0, (.t 47))]⟩,
 ⟨some 49, none, .app [(.str []), (.str [])] 32 false (.t 40) (.t 48)⟩,
 ⟨some 5, none, .mv (.t 49)⟩] ⟨false, [], []⟩))) ⟨false, [], []⟩)
 (.ops [
 ⟨some 12, none, .mv (.t 6)⟩,
 ⟨some 13, none, .bin .add (.t 12) (.c (.int .i64 1))⟩,
 ⟨some 6, none, .mv (.t 13)⟩] ⟨false, [], []⟩)))
def w559_L0 : WCode := .loop ⟨true, [6, 5, 3, 0], []⟩ w559_B0
def w559 : WFn := ⟨2, [.tmp 4],
 (.seq (.ops [
 ⟨some 3, none, .box (.t 1)⟩,
 ⟨some 4, none, .mv (.c (.ro 2 [] true))⟩] ⟨true, [3, 0], []⟩)
 (.seq (.ops [
 ⟨some 5, none, .mv (.c (.ro 2 [] true))⟩] ⟨true, [5, 3, 0], [(5, 2)]⟩)
 (.seq (.seq (.ops [
 ⟨some 6, none, .mv (.c (.int .i64 0))⟩] ⟨false, [], []⟩)
 (.block 0 w559_L0 ⟨true, [5], []⟩))
 w559_c0)))⟩

@[simp] theorem w559_E0 {β : Type} {C : WProg} {b : Nat} {f : Ex × WSt → Option β} {k : List Pw.Frame} {s : WSt} : CK C b f k w559_L0 s = LK C b f (.sq w559_L0 :: k) w559_B0 (canon b ⟨true, [6, 5, 3, 0], []⟩ s) := ck_lp rfl
noncomputable abbrev w559_K0 (C : WProg) (s : WSt) : Option AV := CK C 0 (pureFin [.tmp 4]) [.sq w559_L0, .bk 0 ⟨true, [5], []⟩, .sq w559_c0] w559_B0 s

/- paternoster/paternosterref12.count -/
def w520_c0 : WCode := (.seq (.ops [
 ⟨some 35, none, .mv (.t 5)⟩,
 ⟨some 4, none, .mv (.t 35)⟩] ⟨false, [], []⟩)
 .ret)

def w520_B0 : WCode := (.seq (.seq (.ops [
 ⟨some 14, none, .mv (.t 6)⟩,
 ⟨some 15, none, .fld 5 (.t 2)⟩,
 ⟨some 16, none, .load 1 false (.t 15)⟩,
 ⟨some 17, none, .len 1 (.t 16)⟩,
 ⟨some 18, none, .bin .lss (.t 14) (.t 17)⟩,
 ⟨some 19, none, .mv (.t 18)⟩,
 ⟨some 20, (some (19, true)), .mv (.t 5)⟩,
 ⟨some 21, (some (19, true)), .bin .leq (.t 20) (.c (.int .i64 64))⟩,
 ⟨some 22, none, .pick (.t 19) (.t 21) (.c (.bool false))⟩] ⟨true, [22, 6, 5, 2, 1], []⟩)
 (.cond (.t 22) .skip
 (.exit 0)))
 (.seq (.block 1 (.ops [
 ⟨some 25, none, .mv (.t 5)⟩,
 ⟨some 26, none, .fld 5 (.t 2)⟩,
 ⟨some 27, none, .load 1 false (.t 26)⟩,
 ⟨some 28, none, .mv (.t 6)⟩,
 ⟨some 29, none, .idxs 6 (.t 27) (.t 28)⟩,
 ⟨some 30, none, .load 6 true (.t 29)⟩,
 ⟨some 31, none, .mv (.t 1)⟩,
 ⟨some 32, none, .bin .sub (.t 31) (.c (.int .i64 1))⟩,
 ⟨some 33, none, .call 520 [(.t 30), (.t 32)]⟩,
 ⟨some 34, none, .bin .add (.t 25) (.t 33)⟩,
 ⟨some 5, none, .mv (.t 34)⟩] ⟨false, [], []⟩) ⟨false, [], []⟩)
 (.ops [
 ⟨some 23, none, .mv (.t 6)⟩,
 ⟨some 24, none, .bin .add (.t 23) (.c (.int .i64 1))⟩,
 ⟨some 6, none, .mv (.t 24)⟩] ⟨false, [], []⟩)))
def w520_L0 : WCode := .loop ⟨true, [6, 5, 2, 1], []⟩ w520_B0
def w520 : WFn := ⟨2, [.tmp 4],
 (.seq (.ops [
 ⟨some 2, none, .box (.t 0)⟩,
 ⟨some 4, none, .mv (.c (.int .i64 0))⟩] ⟨false, [], []⟩)
 (.seq (.seq (.ops [
 ⟨some 7, none, .mv (.t 1)⟩,
 ⟨some 8, none, .bin .lss (.t 7) (.c (.int .i64 1))⟩,
 ⟨some 9, none, .mv (.t 8)⟩,
 ⟨some 10, (some (9, false)), .load 6 true (.t 2)⟩,
 ⟨some 11, (some (9, false)), .call 563 [(.t 10)]⟩,
 ⟨some 12, (some (9, false)), .un .not (.t 11)⟩,
 ⟨some 13, none, .pick (.t 9) (.c (.bool true)) (.t 12)⟩] ⟨false, [], []⟩)
 (.cond (.t 13) (.seq (.ops [
 ⟨some 4, none, .mv (.c (.int .i64 1000))⟩] ⟨false, [], []⟩)
 .ret)
 .skip))
 (.seq (.ops [
 ⟨some 5, none, .mv (.c (.int .i64 1))⟩] ⟨false, [], []⟩)
 (.seq (.seq (.ops [
 ⟨some 6, none, .mv (.c (.int .i64 0))⟩] ⟨false, [], []⟩)
 (.block 0 w520_L0 ⟨true, [5], []⟩))
 w520_c0))))⟩

@[simp] theorem w520_E0 {β : Type} {C : WProg} {b : Nat} {f : Ex × WSt → Option β} {k : List Pw.Frame} {s : WSt} : CK C b f k w520_L0 s = LK C b f (.sq w520_L0 :: k) w520_B0 (canon b ⟨true, [6, 5, 2, 1], []⟩ s) := ck_lp rfl
noncomputable abbrev w520_K0 (C : WProg) (s : WSt) : Option AV := CK C 0 (pureFin [.tmp 4]) [.sq w520_L0, .bk 0 ⟨true, [5], []⟩, .sq w520_c0] w520_B0 s

/- strings.indexFunc -/
def w578_c0 : WCode := (.seq (.ops [
 ⟨some 6, none, .mv (.c (.int .i64 (-1)))⟩] ⟨false, [], []⟩)
 .ret)

def w578_B0 : WCode := (.seq (.ops [
 ⟨some 11, none, .next (.t 10)⟩,
 ⟨some 12, none, .ext 0 (.t 11)⟩] ⟨false, [], []⟩)
 (.seq (.cond (.t 12) .skip
 (.exit 0))
 (.block 1 (.seq (.ops [
 ⟨some 13, none, .ext 1 (.t 11)⟩,
 ⟨some 14, none, .ext 2 (.t 11)⟩,
 ⟨some 7, none, .mv (.t 13)⟩,
 ⟨some 8, none, .mv (.t 14)⟩] ⟨false, [], []⟩)
 (.seq (.ops [
 ⟨some 15, none, .mv (.t 1)⟩,
 ⟨some 16, none, .mv (.t 8)⟩,
 ⟨some 17, none, .callv (.t 15) [(.t 16)]⟩,
 ⟨some 18, none, .mv (.t 2)⟩,
 ⟨some 19, none, .eqv 5 [] false (.t 17) (.t 18)⟩] ⟨false, [], []⟩)
 (.cond (.t 19) (.seq (.ops [
 ⟨some 20, none, .mv (.t 7)⟩,
 ⟨some 6, none, .mv (.t 20)⟩] ⟨false, [], []⟩)
 .ret)
 .skip))) ⟨false, [], []⟩)))
def w578_L0 : WCode := .loop ⟨true, [10, 2, 1], []⟩ w578_B0
def w578 : WFn := ⟨3, [.tmp 6],
 (.seq (.ops [
 ⟨some 6, none, .mv (.c (.int .i64 0))⟩] ⟨false, [], []⟩)
 (.seq (.seq (.ops [
 ⟨some 9, none, .mv (.t 0)⟩,
 ⟨some 10, none, .range (.t 9)⟩] ⟨false, [], []⟩)
 (.block 0 w578_L0 ⟨true, [], []⟩))
 w578_c0))⟩

@[simp] theorem w578_E0 {β : Type} {C : WProg} {b : Nat} {f : Ex × WSt → Option β} {k : List Pw.Frame} {s : WSt} : CK C b f k w578_L0 s = LK C b f (.sq w578_L0 :: k) w578_B0 (canon b ⟨true, [10, 2, 1], []⟩ s) := ck_lp rfl
noncomputable abbrev w578_K0 (C : WProg) (s : WSt) : Option AV := CK C 0 (pureFin [.tmp 6]) [.sq w578_L0, .bk 0 ⟨true, [], []⟩, .sq w578_c0] w578_B0 s

/- paternoster/templates.plain -/
def w579 : WFn := ⟨1, [.tmp 2],
 (.seq (.ops [
 ⟨some 2, none, .mv (.c (.bool false))⟩] ⟨false, [], []⟩)
 (.seq (.ops [
 ⟨some 3, none, .mv (.t 0)⟩,
 ⟨some 4, none, .build [(.int .u8 0), (.str []), (.str []), (.ro 2 [] true), (.str []), (.ro 6 [] true)] [(0, 1, (.c (.int .u8 2))), (4, 1, (.t 3))]⟩,
 ⟨some 5, none, .call 439 [(.t 4)]⟩,
 ⟨some 6, none, .bin .eql (.t 5) (.c (.int .i64 0))⟩,
 ⟨some 2, none, .mv (.t 6)⟩] ⟨false, [], []⟩)
 .ret))⟩

/- paternoster/templates.CheckItem$1 -/
def w580 : WFn := ⟨1, [.tmp 2],
 (.seq (.ops [
 ⟨some 2, none, .mv (.c (.bool false))⟩] ⟨false, [], []⟩)
 (.seq (.ops [
 ⟨some 3, none, .mv (.t 0)⟩,
 ⟨some 4, none, .call 581 [(.t 3)]⟩,
 ⟨some 5, none, .un .not (.t 4)⟩,
 ⟨some 2, none, .mv (.t 5)⟩] ⟨false, [], []⟩)
 .ret))⟩

/- paternoster/templates.named -/
def w581 : WFn := ⟨1, [.tmp 2],
 (.seq (.ops [
 ⟨some 2, none, .mv (.c (.bool false))⟩] ⟨false, [], []⟩)
 (.seq (.ops [
 ⟨some 3, none, .mv (.t 0)⟩,
 ⟨some 4, none, .build [(.int .u8 0), (.str []), (.str []), (.ro 2 [] true), (.str []), (.ro 6 [] true)] [(0, 1, (.c (.int .u8 1))), (1, 1, (.t 3))]⟩,
 ⟨some 5, none, .call 439 [(.t 4)]⟩,
 ⟨some 6, none, .bin .eql (.t 5) (.c (.int .i64 0))⟩,
 ⟨some 2, none, .mv (.t 6)⟩] ⟨false, [], []⟩)
 .ret))⟩

/- (paternoster/templates.maker).element -/
def w582 : WFn := ⟨4, [.cell 8 6 true],
 (.seq (.ops [
 ⟨some 4, none, .box (.t 0)⟩,
 ⟨some 5, none, .box (.t 1)⟩,
 ⟨some 8, none, .alloc [(.int .u8 0), (.str []), (.str []), (.ro 2 [] true), (.str []), (.ro 6 [] true)]⟩] ⟨false, [], []⟩)
 (.seq (.draw [
 ⟨some 9, none, .fld 1 (.t 5)⟩,
 ⟨some 10, none, .load 1 false (.t 9)⟩,
 ⟨some 11, none, .mv (.t 2)⟩,
 ⟨some 12, none, .load 4 true (.t 4)⟩,
 ⟨some 13, none, .fld 3 (.t 5)⟩,
 ⟨some 14, none, .load 1 false (.t 13)⟩,
 ⟨some 15, none, .call 592 [(.t 12), (.t 14)]⟩,
 ⟨some 16, none, .mv (.t 3)⟩,
 ⟨some 17, none, .call 593 [(.t 16)]⟩,
 ⟨some 18, none, .build [(.int .u8 0), (.str []), (.str []), (.ro 2 [] true), (.str []), (.ro 6 [] true)] [(0, 1, (.c (.int .u8 1))), (1, 1, (.t 10)), (2, 1, (.t 11)), (3, 1, (.t 15)), (5, 1, (.t 17))]⟩,
 ⟨none, none, .store 6 (.t 8) (.t 18)⟩] [(1, 6), (1, 8)] ⟨false, [], []⟩)
 .ret))⟩

/- paternoster/templates.words -/
def w583 : WFn := ⟨1, [.cell 2 6 true],
 (.seq (.ops [
 ⟨some 2, none, .alloc [(.int .u8 0), (.str []), (.str []), (.ro 2 [] true), (.str []), (.ro 6 [] true)]⟩] ⟨false, [], []⟩)
 (.seq (.ops [
 ⟨some 3, none, .mv (.t 0)⟩,
 ⟨some 4, none, .build [(.int .u8 0), (.str []), (.str []), (.ro 2 [] true), (.str []), (.ro 6 [] true)] [(0, 1, (.c (.int .u8 2))), (4, 1, (.t 3))]⟩,
 ⟨none, none, .store 6 (.t 2) (.t 4)⟩] ⟨false, [], []⟩)
 .ret))⟩

/- paternoster/templates.decimal -/
def w584_B0 : WCode := (.block 1 (.seq (.ops [
 ⟨some 5, none, .mv (.t 4)⟩,
 ⟨some 6, none, .bin .sub (.t 5) (.c (.int .i64 1))⟩,
 ⟨some 4, none, .mv (.t 6)⟩] ⟨false, [], []⟩)
 (.seq (.ops [
 ⟨some 7, none, .mv (.t 4)⟩,
 ⟨some 8, none, .mv (.t 0)⟩,
 ⟨some 9, none, .bin .rem (.t 8) (.c (.int .u64 10))⟩,
 ⟨some 10, none, .idxstr (.c (.str [48, 49, 50, 51, 52, 53, 54, 55, 56, 57])) (.t 9)⟩,
 ⟨some 11, none, .idxa 20 1 (.t 3) (.t 7)⟩,
 ⟨none, none, .store 1 (.t 11) (.t 10)⟩] ⟨false, [], []⟩)
 (.seq (.ops [
 ⟨some 12, none, .mv (.t 0)⟩,
 ⟨some 13, none, .bin .quo (.t 12) (.c (.int .u64 10))⟩,
 ⟨some 0, none, .mv (.t 13)⟩] ⟨false, [], []⟩)
 (.seq (.ops [
 ⟨some 14, none, .mv (.t 0)⟩,
 ⟨some 15, none, .bin .eql (.t 14) (.c (.int .u64 0))⟩] ⟨false, [], []⟩)
 (.cond (.t 15) (.seq (.ops [
 ⟨some 16, none, .mv (.t 4)⟩,
 ⟨some 17, none, .sliceA 20 (.t 3) (some (.t 16)) none⟩,
 ⟨some 18, none, .cvb (.t 17)⟩,
 ⟨some 2, none, .mv (.t 18)⟩] ⟨false, [], []⟩)
 .ret)
 .skip))))) ⟨false, [], []⟩)
def w584_L0 : WCode := .loop ⟨true, [4, 3, 0], []⟩ w584_B0
def w584 : WFn := ⟨1, [.tmp 2],
 (.seq (.ops [
 ⟨some 2, none, .mv (.c (.str []))⟩] ⟨false, [], []⟩)
 (.seq (.ops [
 ⟨some 3, none, .alloc (rep 20 (.int .u8 0))⟩] ⟨false, [], []⟩)
 (.seq (.ops [
 ⟨some 4, none, .mv (.c (.int .i64 20))⟩] ⟨false, [], []⟩)
 (.block 0 w584_L0 ⟨true, [2], []⟩))))⟩

@[simp] theorem w584_E0 {β : Type} {C : WProg} {b : Nat} {f : Ex × WSt → Option β} {k : List Pw.Frame} {s : WSt} : CK C b f k w584_L0 s = LK C b f (.sq w584_L0 :: k) w584_B0 (canon b ⟨true, [4, 3, 0], []⟩ s) := ck_lp rfl
noncomputable abbrev w584_K0 (C : WProg) (s : WSt) : Option AV := CK C 0 (pureFin [.tmp 2]) [.sq w584_L0, .bk 0 ⟨true, [2], []⟩] w584_B0 s

/- paternoster/nodes.measure -/
def w282 : WFn := ⟨1, [.cell 2 1 false, .cell 3 1 false],
 (.seq (.ops [
 ⟨some 1, none, .box (.t 0)⟩,
 ⟨some 2, none, .alloc [(.int .i64 0)]⟩,
 ⟨some 3, none, .alloc [(.int .i64 0)]⟩] ⟨false, [], []⟩)
 (.seq (.ops [
 ⟨some 4, none, .alloc [.nilf]⟩] ⟨false, [], []⟩)
 (.seq (.ops [
 ⟨some 5, none, .mkfn 433 [(.t 2), (.t 3), (.t 4)]⟩,
 ⟨none, none, .store 1 (.t 4) (.t 5)⟩] ⟨false, [], []⟩)
 (.seq (.seq (.ops [
 ⟨some 6, none, .load 1 false (.t 4)⟩,
 ⟨some 7, none, .callv (.t 6) [(.t 1), (.c (.int .i64 1))]⟩,
 ⟨some 8, none, .un .not (.t 7)⟩] ⟨false, [], []⟩)
 (.cond (.t 8) (.seq (.ops [
 ⟨none, none, .store 1 (.t 2) (.c (.int .i64 0))⟩,
 ⟨none, none, .store 1 (.t 3) (.c (.int .i64 0))⟩] ⟨false, [], []⟩)
 .ret)
 .skip))
 (.seq (.draw [
 ⟨some 9, none, .load 1 false (.t 2)⟩,
 ⟨some 10, none, .load 1 false (.t 3)⟩,
 ⟨none, none, .store 1 (.t 2) (.t 9)⟩,
 ⟨none, none, .store 1 (.t 3) (.t 10)⟩] [(1, 2)] ⟨false, [], []⟩)
 .ret)))))⟩

/- paternoster/templates.walk$1 -/
def w548_c0 : WCode := (.seq (.ops [
 ⟨some 7, none, .mv (.c (.bool true))⟩] ⟨false, [], []⟩)
 .ret)

def w548_B0 : WCode := (.seq (.ops [
 ⟨some 31, none, .bin .lss (.t 30) (.t 29)⟩] ⟨false, [], []⟩)
 (.seq (.cond (.t 31) .skip
 (.exit 0))
 (.seq (.block 1 (.seq (.ops [
 ⟨some 32, none, .mv (.t 30)⟩,
 ⟨some 8, none, .mv (.t 32)⟩] ⟨false, [], []⟩)
 (.seq (.draw [
 ⟨some 33, none, .load 1 false (.t 4)⟩,
 ⟨some 34, none, .mv (.t 0)⟩,
 ⟨some 35, none, .nilchk (.t 34)⟩,
 ⟨some 36, none, .fld 5 (.t 35)⟩,
 ⟨some 37, none, .load 1 false (.t 36)⟩,
 ⟨some 38, none, .mv (.t 8)⟩,
 ⟨some 39, none, .idxs 6 (.t 37) (.t 38)⟩,
 ⟨some 40, none, .mv (.t 1)⟩,
 ⟨some 41, none, .bin .add (.t 40) (.c (.int .i64 1))⟩,
 ⟨some 42, none, .callv (.t 33) [(.t 39), (.t 41)]⟩,
 ⟨some 43, none, .un .not (.t 42)⟩] [] ⟨false, [], []⟩)
 (.cond (.t 43) (.seq (.ops [
 ⟨some 7, none, .mv (.c (.bool false))⟩] ⟨false, [], []⟩)
 .ret)
 .skip))) ⟨false, [], []⟩)
 (.ops [
 ⟨some 44, none, .bin .add (.t 30) (.c (.int .i64 1))⟩,
 ⟨some 30, none, .mv (.t 44)⟩] ⟨false, [], []⟩))))
def w548_L0 : WCode := .loop ⟨true, [30, 29, 4, 1, 0], []⟩ w548_B0
def w548 : WFn := ⟨5, [.tmp 7],
 (.seq (.ops [
 ⟨some 7, none, .mv (.c (.bool false))⟩] ⟨false, [], []⟩)
 (.seq (.ops [
 ⟨some 9, none, .load 1 false (.t 2)⟩,
 ⟨some 10, none, .bin .add (.t 9) (.c (.int .i64 1))⟩,
 ⟨none, none, .store 1 (.t 2) (.t 10)⟩] ⟨false, [], []⟩)
 (.seq (.seq (.ops [
 ⟨some 11, none, .mv (.t 1)⟩,
 ⟨some 12, none, .bin .gtr (.t 11) (.c (.int .i64 6))⟩,
 ⟨some 13, none, .mv (.t 12)⟩,
 ⟨some 14, (some (13, false)), .load 1 false (.t 2)⟩,
 ⟨some 15, (some (13, false)), .bin .gtr (.t 14) (.c (.int .i64 64))⟩,
 ⟨some 16, none, .pick (.t 13) (.c (.bool true)) (.t 15)⟩,
 ⟨some 17, none, .mv (.t 16)⟩,
 ⟨some 18, (some (17, false)), .mv (.t 0)⟩,
 ⟨some 19, (some (17, false)), .call 549 [(.t 18)]⟩,
 ⟨some 20, (some (17, false)), .un .not (.t 19)⟩,
 ⟨some 21, none, .pick (.t 17) (.c (.bool true)) (.t 20)⟩] ⟨false, [], []⟩)
 (.cond (.t 21) (.seq (.ops [
 ⟨some 7, none, .mv (.c (.bool false))⟩] ⟨false, [], []⟩)
 .ret)
 .skip))
 (.seq (.ops [
 ⟨some 22, none, .load 1 false (.t 3)⟩,
 ⟨some 23, none, .mv (.t 0)⟩,
 ⟨some 24, none, .callv (.t 22) [(.t 23)]⟩] ⟨false, [], []⟩)
 (.seq (.seq (.ops [
 ⟨some 25, none, .mv (.t 0)⟩,
 ⟨some 26, none, .nilchk (.t 25)⟩,
 ⟨some 27, none, .fld 5 (.t 26)⟩,
 ⟨some 28, none, .load 1 false (.t 27)⟩,
 ⟨some 29, none, .len 1 (.t 28)⟩,
 ⟨some 30, none, .mv (.c (.int .i64 0))⟩] ⟨true, [30, 29, 4, 1, 0], []⟩)
 (.block 0 w548_L0 ⟨true, [], []⟩))
 w548_c0)))))⟩

@[simp] theorem w548_E0 {β : Type} {C : WProg} {b : Nat} {f : Ex × WSt → Option β} {k : List Pw.Frame} {s : WSt} : CK C b f k w548_L0 s = LK C b f (.sq w548_L0 :: k) w548_B0 (canon b ⟨true, [30, 29, 4, 1, 0], []⟩ s) := ck_lp rfl
noncomputable abbrev w548_K0 (C : WProg) (s : WSt) : Option AV := CK C 0 (pureFin [.tmp 7]) [.sq w548_L0, .bk 0 ⟨true, [], []⟩, .sq w548_c0] w548_B0 s

/- paternoster/templates.alone -/
def w549 : WFn := ⟨1, [.tmp 2],
 (.seq (.ops [
 ⟨some 2, none, .mv (.c (.bool false))⟩] ⟨false, [], []⟩)
 (.seq (.ops [
 ⟨some 4, none, .mv (.t 0)⟩,
 ⟨some 5, none, .nilchk (.t 4)⟩,
 ⟨some 6, none, .load 6 true (.t 5)⟩,
 ⟨some 3, none, .alloc [(.int .u8 0), (.str []), (.str []), (.ro 3 [] true), (.str []), (.ro 6 [] true)]⟩,
 ⟨none, none, .store 6 (.t 3) (.t 6)⟩] ⟨false, [], []⟩)
 (.seq (.seq (.ops [
 ⟨some 7, none, .mv (.t 0)⟩,
 ⟨some 8, none, .nilchk (.t 7)⟩,
 ⟨some 9, none, .fld 0 (.t 8)⟩,
 ⟨some 10, none, .load 1 false (.t 9)⟩] ⟨false, [], []⟩)
 (.block 0 (.seq (.block 5 (.seq (.block 4 (.seq (.block 3 (.seq (.block 2 (.seq (.block 1 (.seq (.seq (.seq (.ops [
 ⟨some 12, none, .bin .eql (.t 10) (.c (.int .u8 1))⟩,
 ⟨some 11, none, .mv (.t 12)⟩] ⟨false, [], []⟩)
 (.cond (.t 11) (.exit 1)
 .skip))
 (.seq (.seq (.ops [
 ⟨some 14, none, .bin .eql (.t 10) (.c (.int .u8 5))⟩,
 ⟨some 13, none, .mv (.t 14)⟩] ⟨false, [], []⟩)
 (.cond (.t 13) (.exit 2)
 .skip))
 (.seq (.seq (.ops [
 ⟨some 16, none, .bin .eql (.t 10) (.c (.int .u8 2))⟩,
 ⟨some 15, none, .mv (.t 16)⟩] ⟨false, [], []⟩)
 (.cond (.t 15) (.exit 3)
 .skip))
 (.seq (.seq (.ops [
 ⟨some 18, none, .bin .eql (.t 10) (.c (.int .u8 3))⟩,
 ⟨some 17, none, .mv (.t 18)⟩] ⟨false, [], []⟩)
 (.cond (.t 17) .skip
 (.ops [
 ⟨some 19, none, .bin .eql (.t 10) (.c (.int .u8 4))⟩,
 ⟨some 17, none, .mv (.t 19)⟩] ⟨false, [], []⟩)))
 (.cond (.t 17) (.exit 4)
 .skip)))))
 (.exit 5)) ⟨false, [], []⟩)
 (.seq (.seq (.ops [
 ⟨some 20, none, .mv (.t 0)⟩,
 ⟨some 21, none, .nilchk (.t 20)⟩,
 ⟨some 22, none, .fld 2 (.t 21)⟩,
 ⟨some 23, none, .load 1 false (.t 22)⟩,
 ⟨some 24, none, .bin .neq (.t 23) (.c (.str []))⟩,
 ⟨some 25, none, .mv (.t 24)⟩,
 ⟨some 26, (some (25, true)), .mv (.t 0)⟩,
 ⟨some 27, (some (25, true)), .nilchk (.t 26)⟩,
 ⟨some 28, (some (25, true)), .fld 2 (.t 27)⟩,
 ⟨some 29, (some (25, true)), .load 1 false (.t 28)⟩,
 ⟨some 30, (some (25, true)), .call 581 [(.t 29)]⟩,
 ⟨some 31, (some (25, true)), .un .not (.t 30)⟩,
 ⟨some 32, none, .pick (.t 25) (.t 31) (.c (.bool false))⟩,
 ⟨some 33, none, .mv (.t 32)⟩,
 ⟨some 34, (some (33, false)), .mv (.t 0)⟩,
 ⟨some 35, (some (33, false)), .nilchk (.t 34)⟩,
 ⟨some 36, (some (33, false)), .fld 5 (.t 35)⟩,
 ⟨some 37, (some (33, false)), .load 1 false (.t 36)⟩,
 ⟨some 38, (some (33, false)), .len 1 (.t 37)⟩,
 ⟨some 39, (some (33, false)), .bin .gtr (.t 38) (.c (.int .i64 16))⟩,
 ⟨some 40, none, .pick (.t 33) (.c (.bool true)) (.t 39)⟩] ⟨true, [40, 3, 0], []⟩)
 (.cond (.t 40) (.seq (.ops [
 ⟨some 2, none, .mv (.c (.bool false))⟩] ⟨false, [], []⟩)
 .ret)
 .skip))
 (.ops [
 ⟨some 41, none, .fld 2 (.t 3)⟩,
 ⟨none, none, .store 1 (.t 41) (.c (.str []))⟩,
 ⟨some 42, none, .fld 5 (.t 3)⟩,
 ⟨none, none, .store 1 (.t 42) (.c (.ro 6 [] true))⟩] ⟨false, [], []⟩))) ⟨false, [], []⟩)
 (.seq (.seq (.seq (.ops [
 ⟨some 43, none, .mv (.t 0)⟩,
 ⟨some 44, none, .nilchk (.t 43)⟩,
 ⟨some 45, none, .fld 1 (.t 44)⟩,
 ⟨some 46, none, .load 1 false (.t 45)⟩,
 ⟨some 47, none, .call 581 [(.t 46)]⟩,
 ⟨some 48, none, .un .not (.t 47)⟩,
 ⟨some 49, none, .mv (.t 48)⟩,
 ⟨some 50, (some (49, false)), .mv (.t 0)⟩,
 ⟨some 51, (some (49, false)), .nilchk (.t 50)⟩,
 ⟨some 52, (some (49, false)), .fld 3 (.t 51)⟩,
 ⟨some 53, (some (49, false)), .load 1 false (.t 52)⟩,
 ⟨some 54, (some (49, false)), .call 585 [(.t 53)]⟩,
 ⟨some 55, (some (49, false)), .un .not (.t 54)⟩,
 ⟨some 56, none, .pick (.t 49) (.c (.bool true)) (.t 55)⟩] ⟨true, [56, 3], []⟩)
 (.cond (.t 56) (.seq (.ops [
 ⟨some 2, none, .mv (.c (.bool false))⟩] ⟨false, [], []⟩)
 .ret)
 .skip))
 (.ops [
 ⟨some 57, none, .fld 1 (.t 3)⟩,
 ⟨none, none, .store 1 (.t 57) (.c (.str []))⟩,
 ⟨some 58, none, .fld 3 (.t 3)⟩,
 ⟨none, none, .store 1 (.t 58) (.c (.ro 3 [] true))⟩] ⟨false, [], []⟩))
 (.exit 0))) ⟨false, [], []⟩)
 (.seq (.seq (.seq (.ops [
 ⟨some 59, none, .mv (.t 0)⟩,
 ⟨some 60, none, .nilchk (.t 59)⟩,
 ⟨some 61, none, .fld 4 (.t 60)⟩,
 ⟨some 62, none, .load 1 false (.t 61)⟩,
 ⟨some 63, none, .call 579 [(.t 62)]⟩,
 ⟨some 64, none, .un .not (.t 63)⟩] ⟨false, [], []⟩)
 (.cond (.t 64) (.seq (.ops [
 ⟨some 2, none, .mv (.c (.bool false))⟩] ⟨false, [], []⟩)
 .ret)
 .skip))
 (.ops [
 ⟨some 65, none, .fld 4 (.t 3)⟩,
 ⟨none, none, .store 1 (.t 65) (.c (.str []))⟩] ⟨false, [], []⟩))
 (.exit 0))) ⟨false, [], []⟩)
 (.exit 0)) ⟨false, [], []⟩)
 (.seq (.seq (.ops [
 ⟨some 2, none, .mv (.c (.bool false))⟩] ⟨false, [], []⟩)
 .ret)
 (.exit 0))) ⟨false, [], []⟩))
 (.seq (.ops [
 ⟨some 66, none, .fld 1 (.t 3)⟩,
 ⟨some 67, none, .load 1 false (.t 66)⟩,
 ⟨some 68, none, .bin .eql (.t 67) (.c (.str []))⟩,
 ⟨some 69, none, .mv (.t 68)⟩,
 ⟨some 70, (some (69, true)), .fld 2 (.t 3)⟩,
 ⟨some 71, (some (69, true)), .load 1 false (.t 70)⟩,
 ⟨some 72, (some (69, true)), .bin .eql (.t 71) (.c (.str []))⟩,
 ⟨some 73, none, .pick (.t 69) (.t 72) (.c (.bool false))⟩,
 ⟨some 74, none, .mv (.t 73)⟩,
 ⟨some 75, (some (74, true)), .fld 4 (.t 3)⟩,
 ⟨some 76, (some (74, true)), .load 1 false (.t 75)⟩,
 ⟨some 77, (some (74, true)), .bin .eql (.t 76) (.c (.str []))⟩,
 ⟨some 78, none, .pick (.t 74) (.t 77) (.c (.bool false))⟩,
 ⟨some 79, none, .mv (.t 78)⟩,
 ⟨some 80, (some (79, true)), .fld 3 (.t 3)⟩,
 ⟨some 81, (some (79, true)), .load 1 false (.t 80)⟩,
 ⟨some 82, (some (79, true)), .len 1 (.t 81)⟩,
 ⟨some 83, (some (79, true)), .bin .eql (.t 82) (.c (.int .i64 0))⟩,
 ⟨some 84, none, .pick (.t 79) (.t 83) (.c (.bool false))⟩,
 ⟨some 85, none, .mv (.t 84)⟩,
 ⟨some 86, (some (85, true)), .fld 5 (.t 3)⟩,
 ⟨some 87, (some (85, true)), .load 1 false (.t 86)⟩,
 ⟨some 88, (some (85, true)), .len 1 (.t 87)⟩,
 ⟨some 89, (some (85, true)), .bin .eql (.t 88) (.c (.int .i64 0))⟩,
 ⟨some 90, none, .pick (.t 85) (.t 89) (.c (.bool false))⟩,
 ⟨some 2, none, .mv (.t 90)⟩] ⟨true, [2], []⟩)
 .ret))))⟩

/- paternoster/paternosterref14.one -/
def w586 : WFn := ⟨1, [.tmp 2],
 (.seq (.ops [
 ⟨some 1, none, .box (.t 0)⟩,
 ⟨some 2, none, .mv (.c (.bool false))⟩] ⟨false, [], []⟩)
 (.seq (.seq (.ops [
 ⟨some 3, none, .fld 0 (.t 1)⟩,
 ⟨some 4, none, .load 1 false (.t 3)⟩] ⟨false, [], []⟩)
 (.block 0 (.seq (.ops [
 ⟨some 6, none, .bin .eql (.t 4) (.c (.int .u8 1))⟩,
 ⟨some 5, none, .mv (.t 6)⟩] ⟨false, [], []⟩)
 (.cond (.t 5) (.seq (.ops [
 ⟨some 7, none, .fld 1 (.t 1)⟩,
 ⟨some 8, none, .load 1 false (.t 7)⟩,
 ⟨some 9, none, .call 557 [(.t 8)]⟩,
 ⟨some 10, none, .mv (.t 9)⟩,
 ⟨some 11, (some (10, true)), .fld 2 (.t 1)⟩,
 ⟨some 12, (some (10, true)), .load 1 false (.t 11)⟩,
 ⟨some 13, (some (10, true)), .bin .eql (.t 12) (.c (.str []))⟩,
 ⟨some 14, (some (10, true)), .mv (.t 13)⟩,
 ⟨some 15, (some (14, false)), .fld 2 (.t 1)⟩,
 ⟨some 16, (some (14, false)), .load 1 false (.t 15)⟩,
 ⟨some 17, (some (14, false)), .call 557 [(.t 16)]⟩,
 ⟨some 18, (some (10, true)), .pick (.t 14) (.c (.bool true)) (.t 17)⟩,
 ⟨some 19, none, .pick (.t 10) (.t 18) (.c (.bool false))⟩,
 ⟨some 20, none, .mv (.t 19)⟩,
 ⟨some 21, (some (20, true)), .fld 3 (.t 1)⟩,
 ⟨some 22, (some (20, true)), .load 1 false (.t 21)⟩,
 ⟨some 23, (some (20, true)), .call 594 [(.t 22)]⟩,
 ⟨some 24, none, .pick (.t 20) (.t 23) (.c (.bool false))⟩,
 ⟨some 25, none, .mv (.t 24)⟩,
 ⟨some 26, (some (25, true)), .fld 4 (.t 1)⟩,
 ⟨some 27, (some (25, true)), .load 1 false (.t 26)⟩,
 ⟨some 28, (some (25, true)), .bin .eql (.t 27) (.c (.str []))⟩,
 ⟨some 29, none, .pick (.t 25) (.t 28) (.c (.bool false))⟩,
 ⟨some 30, none, .mv (.t 29)⟩,
 ⟨some 31, (some (30, true)), .fld 5 (.t 1)⟩,
 ⟨some 32, (some (30, true)), .load 1 false (.t 31)⟩,
 ⟨some 33, (some (30, true)), .len 1 (.t 32)⟩,
 ⟨some 34, (some (30, true)), .bin .leq (.t 33) (.c (.int .i64 16))⟩,
 ⟨some 35, none, .pick (.t 30) (.t 34) (.c (.bool false))⟩,
 ⟨some 2, none, .mv (.t 35)⟩] ⟨true, [2], []⟩)
 .ret)
 (.seq (.ops [
 ⟨some 37, none, .bin .eql (.t 4) (.c (.int .u8 2))⟩,
 ⟨some 36, none, .mv (.t 37)⟩] ⟨false, [], []⟩)
 (.cond (.t 36) (.seq (.ops [
 ⟨some 38, none, .fld 4 (.t 1)⟩,
 ⟨some 39, none, .load 1 false (.t 38)⟩,
 ⟨some 40, none, .call 556 [(.t 39)]⟩,
 ⟨some 41, none, .mv (.t 40)⟩,
 ⟨some 42, (some (41, true)), .fld 1 (.t 1)⟩,
 ⟨some 43, (some (41, true)), .load 1 false (.t 42)⟩,
 ⟨some 44, (some (41, true)), .bin .eql (.t 43) (.c (.str []))⟩,
 ⟨some 45, none, .pick (.t 41) (.t 44) (.c (.bool false))⟩,
 ⟨some 46, none, .mv (.t 45)⟩,
 ⟨some 47, (some (46, true)), .fld 2 (.t 1)⟩,
 ⟨some 48, (some (46, true)), .load 1 false (.t 47)⟩,
 ⟨some 49, (some (46, true)), .bin .eql (.t 48) (.c (.str []))⟩,
 ⟨some 50, none, .pick (.t 46) (.t 49) (.c (.bool false))⟩,
 ⟨some 51, none, .mv (.t 50)⟩,
 ⟨some 52, (some (51, true)), .fld 3 (.t 1)⟩,
 ⟨some 53, (some (51, true)), .load 1 false (.t 52)⟩,
 ⟨some 54, (some (51, true)), .len 1 (.t 53)⟩,
 ⟨some 55, (some (51, true)), .fld 5 (.t 1)⟩,
 ⟨some 56, (some (51, true)), .load 1 false (.t 55)⟩,
 ⟨some 57, (some (51, true)), .len 1 (.t 56)⟩,
 ⟨some 58, (some (51, true)), .bin .add (.t 54) (.t 57)⟩,
 ⟨some 59, (some (51, true)), .bin .eql (.t 58) (.c (.int .i64 0))⟩,
 ⟨some 60, none, .pick (.t 51) (.t 59) (.c (.bool false))⟩,
 ⟨some 2, none, .mv (.t 60)⟩] ⟨true, [2], []⟩)
 .ret)
 (.seq (.seq (.ops [
 ⟨some 62, none, .bin .eql (.t 4) (.c (.int .u8 3))⟩,
 ⟨some 61, none, .mv (.t 62)⟩] ⟨false, [], []⟩)
 (.cond (.t 61) .skip
 (.ops [
 ⟨some 63, none, .bin .eql (.t 4) (.c (.int .u8 4))⟩,
 ⟨some 61, none, .mv (.t 63)⟩] ⟨false, [], []⟩)))
 (.cond (.t 61) (.seq (.ops [
 ⟨some 64, none, .fld 4 (.t 1)⟩,
 ⟨some 65, none, .load 1 false (.t 64)⟩,
 ⟨some 66, none, .bin .eql (.t 65) (.c (.str []))⟩,
 ⟨some 67, none, .mv (.t 66)⟩,
 ⟨some 68, (some (67, true)), .fld 1 (.t 1)⟩,
 ⟨some 69, (some (67, true)), .load 1 false (.t 68)⟩,
 ⟨some 70, (some (67, true)), .bin .eql (.t 69) (.c (.str []))⟩,
 ⟨some 71, none, .pick (.t 67) (.t 70) (.c (.bool false))⟩,
 ⟨some 72, none, .mv (.t 71)⟩,
 ⟨some 73, (some (72, true)), .fld 2 (.t 1)⟩,
 ⟨some 74, (some (72, true)), .load 1 false (.t 73)⟩,
 ⟨some 75, (some (72, true)), .bin .eql (.t 74) (.c (.str []))⟩,
 ⟨some 76, none, .pick (.t 72) (.t 75) (.c (.bool false))⟩,
 ⟨some 77, none, .mv (.t 76)⟩,
 ⟨some 78, (some (77, true)), .fld 3 (.t 1)⟩,
 ⟨some 79, (some (77, true)), .load 1 false (.t 78)⟩,
 ⟨some 80, (some (77, true)), .len 1 (.t 79)⟩,
 ⟨some 81, (some (77, true)), .fld 5 (.t 1)⟩,
 ⟨some 82, (some (77, true)), .load 1 false (.t 81)⟩,
 ⟨some 83, (some (77, true)), .len 1 (.t 82)⟩,
 ⟨some 84, (some (77, true)), .bin .add (.t 80) (.t 83)⟩,
 ⟨some 85, (some (77, true)), .bin .eql (.t 84) (.c (.int .i64 0))⟩,
 ⟨some 86, none, .pick (.t 77) (.t 85) (.c (.bool false))⟩,
 ⟨some 2, none, .mv (.t 86)⟩] ⟨true, [2], []⟩)
 .ret)
 (.seq (.ops [
 ⟨some 88, none, .bin .eql (.t 4) (.c (.int .u8 5))⟩,
 ⟨some 87, none, .mv (.t 88)⟩] ⟨false, [], []⟩)
 (.cond (.t 87) (.seq (.ops [
 ⟨some 89, none, .fld 1 (.t 1)⟩,
 ⟨some 90, none, .load 1 false (.t 89)⟩,
 ⟨some 91, none, .call 557 [(.t 90)]⟩,
 ⟨some 92, none, .mv (.t 91)⟩,
 ⟨some 93, (some (92, true)), .fld 3 (.t 1)⟩,
 ⟨some 94, (some (92, true)), .load 1 false (.t 93)⟩,
 ⟨some 95, (some (92, true)), .call 594 [(.t 94)]⟩,
 ⟨some 96, none, .pick (.t 92) (.t 95) (.c (.bool false))⟩,
 ⟨some 97, none, .mv (.t 96)⟩,
 ⟨some 98, (some (97, true)), .fld 2 (.t 1)⟩,
 ⟨some 99, (some (97, true)), .load 1 false (.t 98)⟩,
 ⟨some 100, (some (97, true)), .bin .eql (.t 99) (.c (.str []))⟩,
 ⟨some 101, none, .pick (.t 97) (.t 100) (.c (.bool false))⟩,
 ⟨some 102, none, .mv (.t 101)⟩,
 ⟨some 103, (some (102, true)), .fld 4 (.t 1)⟩,
 ⟨some 104, (some (102, true)), .load 1 false (.t 103)⟩,
 ⟨some 105, (some (102, true)), .bin .eql (.t 104) (.c (.str []))⟩,
 ⟨some 106, none, .pick (.t 102) (.t 105) (.c (.bool false))⟩,
 ⟨some 107, none, .mv (.t 106)⟩,
 ⟨some 108, (some (107, true)), .fld 5 (.t 1)⟩,
 ⟨some 109, (some (107, true)), .load 1 false (.t 108)⟩,
 ⟨some 110, (some (107, true)), .len 1 (.t 109)⟩,
 ⟨some 111, (some (107, true)), .bin .eql (.t 110) (.c (.int .i64 0))⟩,
 ⟨some 112, none, .pick (.t 107) (.t 111) (.c (.bool false))⟩,
 ⟨some 2, none, .mv (.t 112)⟩] ⟨true, [2], []⟩)
 .ret)
 .skip)))))))) ⟨false, [], []⟩))
 (.seq (.ops [
 ⟨some 2, none, .mv (.c (.bool false))⟩] ⟨false, [], []⟩)
 .ret)))⟩

/- paternoster/paternosterref12.one -/
def w563_c0 : WCode := (.seq (.ops [
 ⟨some 2, none, .mv (.c (.bool true))⟩] ⟨false, [], []⟩)
 .ret)

def w563_c1 : WCode := (.ops [
 ⟨some 120, none, .mv (.t 5)⟩,
 ⟨some 121, none, .bin .add (.t 120) (.c (.int .i64 1))⟩,
 ⟨some 5, none, .mv (.t 121)⟩] ⟨false, [], []⟩)

def w563_B1 : WCode := (.seq (.seq (.ops [
 ⟨some 122, none, .mv (.t 6)⟩,
 ⟨some 123, none, .mv (.t 5)⟩,
 ⟨some 124, none, .bin .lss (.t 122) (.t 123)⟩] ⟨false, [], []⟩)
 (.cond (.t 124) .skip
 (.exit 6)))
 (.seq (.block 7 (.seq (.draw [
 ⟨some 127, none, .fld 5 (.t 1)⟩,
 ⟨some 128, none, .load 1 false (.t 127)⟩,
 ⟨some 129, none, .mv (.t 5)⟩,
 ⟨some 130, none, .idxs 6 (.t 128) (.t 129)⟩,
 ⟨some 131, none, .fld 2 (.t 130)⟩,
 ⟨some 132, none, .load 1 false (.t 131)⟩,
 ⟨some 133, none, .bin .neq (.t 132) (.c (.str []))⟩,
 ⟨some 134, none, .mv (.t 133)⟩,
 ⟨some 135, (some (134, true)), .fld 5 (.t 1)⟩,
 ⟨some 136, (some (134, true)), .load 1 false (.t 135)⟩,
 ⟨some 137, (some (134, true)), .mv (.t 5)⟩,
 ⟨some 138, (some (134, true)), .idxs 6 (.t 136) (.t 137)⟩,
 ⟨some 139, (some (134, true)), .fld 2 (.t 138)⟩,
 ⟨some 140, (some (134, true)), .load 1 false (.t 139)⟩,
 ⟨some 141, (some (134, true)), .fld 5 (.t 1)⟩,
 ⟨some 142, (some (134, true)), .load 1 false (.t 141)⟩,
 ⟨some 143, (some (134, true)), .mv (.t 6)⟩,
 ⟨some 144, (some (134, true)), .idxs 6 (.t 142) (.t 143)⟩,
 ⟨some 145, (some (134, true)), .fld 2 (.t 144)⟩,
 ⟨some 146, (some (134, true)), .load 1 false (.t 145)⟩,
 ⟨some 147, (some (134, true)), .bin .eql (.t 140) (.t 146)⟩,
 ⟨some 148, none, .pick (.t 134) (.t 147) (.c (.bool false))⟩] [] ⟨true, [148, 6, 5, 1], []⟩)
 (.cond (.t 148) (.seq (.ops [
 ⟨some 2, none, .mv (.c (.bool false))⟩] ⟨false, [], []⟩)
 .ret)
 .skip)) ⟨false, [], []⟩)
 (.ops [
 ⟨some 125, none, .mv (.t 6)⟩,
 ⟨some 126, none, .bin .add (.t 125) (.c (.int .i64 1))⟩,
 ⟨some 6, none, .mv (.t 126)⟩] ⟨false, [], []⟩)))
def w563_L1 : WCode := .loop ⟨true, [6, 5, 1], []⟩ w563_B1
def w563_B0 : WCode := (.seq (.seq (.ops [
 ⟨some 115, none, .mv (.t 5)⟩,
 ⟨some 116, none, .fld 5 (.t 1)⟩,
 ⟨some 117, none, .load 1 false (.t 116)⟩,
 ⟨some 118, none, .len 1 (.t 117)⟩,
 ⟨some 119, none, .bin .lss (.t 115) (.t 118)⟩] ⟨false, [], []⟩)
 (.cond (.t 119) .skip
 (.exit 4)))
 (.seq (.block 5 (.seq (.ops [
 ⟨some 6, none, .mv (.c (.int .i64 0))⟩] ⟨false, [], []⟩)
 (.block 6 w563_L1 ⟨true, [5, 1], []⟩)) ⟨true, [5, 1], []⟩)
 w563_c1))
def w563_L0 : WCode := .loop ⟨true, [5, 1], []⟩ w563_B0
def w563_c2 : WCode := (.seq (.seq (.ops [
 ⟨some 5, none, .mv (.c (.int .i64 0))⟩] ⟨false, [], []⟩)
 (.block 4 w563_L0 ⟨true, [], []⟩))
 w563_c0)

def w563_c3 : WCode := (.ops [
 ⟨some 77, none, .mv (.t 3)⟩,
 ⟨some 78, none, .bin .add (.t 77) (.c (.int .i64 1))⟩,
 ⟨some 3, none, .mv (.t 78)⟩] ⟨false, [], []⟩)

def w563_B3 : WCode := (.seq (.seq (.ops [
 ⟨some 97, none, .mv (.t 4)⟩,
 ⟨some 98, none, .mv (.t 3)⟩,
 ⟨some 99, none, .bin .lss (.t 97) (.t 98)⟩] ⟨false, [], []⟩)
 (.cond (.t 99) .skip
 (.exit 2)))
 (.seq (.block 3 (.seq (.draw [
 ⟨some 102, none, .fld 3 (.t 1)⟩,
 ⟨some 103, none, .load 1 false (.t 102)⟩,
 ⟨some 104, none, .mv (.t 4)⟩,
 ⟨some 105, none, .idxs 2 (.t 103) (.t 104)⟩,
 ⟨some 106, none, .fld 0 (.t 105)⟩,
 ⟨some 107, none, .load 1 false (.t 106)⟩,
 ⟨some 108, none, .fld 3 (.t 1)⟩,
 ⟨some 109, none, .load 1 false (.t 108)⟩,
 ⟨some 110, none, .mv (.t 3)⟩,
 ⟨some 111, none, .idxs 2 (.t 109) (.t 110)⟩,
 ⟨some 112, none, .fld 0 (.t 111)⟩,
 ⟨some 113, none, .load 1 false (.t 112)⟩,
 ⟨some 114, none, .bin .geq (.t 107) (.t 113)⟩] [] ⟨true, [114, 4, 3, 1], []⟩)
 (.cond (.t 114) (.seq (.ops [
 ⟨some 2, none, .mv (.c (.bool false))⟩] ⟨false, [], []⟩)
 .ret)
 .skip)) ⟨false, [], []⟩)
 (.ops [
 ⟨some 100, none, .mv (.t 4)⟩,
 ⟨some 101, none, .bin .add (.t 100) (.c (.int .i64 1))⟩,
 ⟨some 4, none, .mv (.t 101)⟩] ⟨false, [], []⟩)))
def w563_L3 : WCode := .loop ⟨true, [4, 3, 1], []⟩ w563_B3
def w563_B2 : WCode := (.seq (.seq (.ops [
 ⟨some 72, none, .mv (.t 3)⟩,
 ⟨some 73, none, .fld 3 (.t 1)⟩,
 ⟨some 74, none, .load 1 false (.t 73)⟩,
 ⟨some 75, none, .len 1 (.t 74)⟩,
 ⟨some 76, none, .bin .lss (.t 72) (.t 75)⟩] ⟨true, [76, 3, 1], []⟩)
 (.cond (.t 76) .skip
 (.exit 0)))
 (.seq (.block 1 (.seq (.seq (.ops [
 ⟨some 79, none, .fld 3 (.t 1)⟩,
 ⟨some 80, none, .load 1 false (.t 79)⟩,
 ⟨some 81, none, .mv (.t 3)⟩,
 ⟨some 82, none, .idxs 2 (.t 80) (.t 81)⟩,
 ⟨some 83, none, .fld 0 (.t 82)⟩,
 ⟨some 84, none, .load 1 false (.t 83)⟩,
 ⟨some 85, none, .call 557 [(.t 84)]⟩,
 ⟨some 86, none, .un .not (.t 85)⟩,
 ⟨some 87, none, .mv (.t 86)⟩,
 ⟨some 88, (some (87, false)), .fld 3 (.t 1)⟩,
 ⟨some 89, (some (87, false)), .load 1 false (.t 88)⟩,
 ⟨some 90, (some (87, false)), .mv (.t 3)⟩,
 ⟨some 91, (some (87, false)), .idxs 2 (.t 89) (.t 90)⟩,
 ⟨some 92, (some (87, false)), .fld 1 (.t 91)⟩,
 ⟨some 93, (some (87, false)), .load 1 false (.t 92)⟩,
 ⟨some 94, (some (87, false)), .call 556 [(.t 93)]⟩,
 ⟨some 95, (some (87, false)), .un .not (.t 94)⟩,
 ⟨some 96, none, .pick (.t 87) (.c (.bool true)) (.t 95)⟩] ⟨false, [], []⟩)
 (.cond (.t 96) (.seq (.ops [
 ⟨some 2, none, .mv (.c (.bool false))⟩] ⟨false, [], []⟩)
 .ret)
 .skip))
 (.seq (.ops [
 ⟨some 4, none, .mv (.c (.int .i64 0))⟩] ⟨false, [], []⟩)
 (.block 2 w563_L3 ⟨true, [3, 1], []⟩))) ⟨true, [3, 1], []⟩)
 w563_c3))
def w563_L2 : WCode := .loop ⟨true, [3, 1], []⟩ w563_B2
def w563 : WFn := ⟨1, [.tmp 2],
 (.seq (.ops [
 ⟨some 1, none, .box (.t 0)⟩,
 ⟨some 2, none, .mv (.c (.bool false))⟩] ⟨false, [], []⟩)
 (.seq (.seq (.ops [
 ⟨some 7, none, .fld 0 (.t 1)⟩,
 ⟨some 8, none, .load 1 false (.t 7)⟩,
 ⟨some 9, none, .bin .eql (.t 8) (.c (.int .u8 2))⟩] ⟨false, [], []⟩)
 (.cond (.t 9) (.seq (.ops [
 ⟨some 10, none, .fld 4 (.t 1)⟩,
 ⟨some 11, none, .load 1 false (.t 10)⟩,
 ⟨some 12, none, .call 556 [(.t 11)]⟩,
 ⟨some 13, none, .mv (.t 12)⟩,
 ⟨some 14, (some (13, true)), .fld 1 (.t 1)⟩,
 ⟨some 15, (some (13, true)), .load 1 false (.t 14)⟩,
 ⟨some 16, (some (13, true)), .bin .eql (.t 15) (.c (.str []))⟩,
 ⟨some 17, none, .pick (.t 13) (.t 16) (.c (.bool false))⟩,
 ⟨some 18, none, .mv (.t 17)⟩,
 ⟨some 19, (some (18, true)), .fld 2 (.t 1)⟩,
 ⟨some 20, (some (18, true)), .load 1 false (.t 19)⟩,
 ⟨some 21, (some (18, true)), .bin .eql (.t 20) (.c (.str []))⟩,
 ⟨some 22, none, .pick (.t 18) (.t 21) (.c (.bool false))⟩,
 ⟨some 23, none, .mv (.t 22)⟩,
 ⟨some 24, (some (23, true)), .fld 3 (.t 1)⟩,
 ⟨some 25, (some (23, true)), .load 1 false (.t 24)⟩,
 ⟨some 26, (some (23, true)), .len 1 (.t 25)⟩,
 ⟨some 27, (some (23, true)), .bin .eql (.t 26) (.c (.int .i64 0))⟩,
 ⟨some 28, none, .pick (.t 23) (.t 27) (.c (.bool false))⟩,
 ⟨some 29, none, .mv (.t 28)⟩,
 ⟨some 30, (some (29, true)), .fld 5 (.t 1)⟩,
 ⟨some 31, (some (29, true)), .load 1 false (.t 30)⟩,
 ⟨some 32, (some (29, true)), .len 1 (.t 31)⟩,
 ⟨some 33, (some (29, true)), .bin .eql (.t 32) (.c (.int .i64 0))⟩,
 ⟨some 34, none, .pick (.t 29) (.t 33) (.c (.bool false))⟩,
 ⟨some 2, none, .mv (.t 34)⟩] ⟨true, [2], []⟩)
 .ret)
 .skip))
 (.seq (.seq (.ops [
 ⟨some 35, none, .fld 0 (.t 1)⟩,
 ⟨some 36, none, .load 1 false (.t 35)⟩,
 ⟨some 37, none, .bin .neq (.t 36) (.c (.int .u8 1))⟩,
 ⟨some 38, none, .mv (.t 37)⟩,
 ⟨some 39, (some (38, false)), .fld 1 (.t 1)⟩,
 ⟨some 40, (some (38, false)), .load 1 false (.t 39)⟩,
 ⟨some 41, (some (38, false)), .call 557 [(.t 40)]⟩,
 ⟨some 42, (some (38, false)), .un .not (.t 41)⟩,
 ⟨some 43, none, .pick (.t 38) (.c (.bool true)) (.t 42)⟩,
 ⟨some 44, none, .mv (.t 43)⟩,
 ⟨some 45, (some (44, false)), .fld 2 (.t 1)⟩,
 ⟨some 46, (some (44, false)), .load 1 false (.t 45)⟩,
 ⟨some 47, (some (44, false)), .bin .neq (.t 46) (.c (.str []))⟩,
 ⟨some 48, (some (44, false)), .mv (.t 47)⟩,
 ⟨some 49, (some (48, true)), .fld 2 (.t 1)⟩,
 ⟨some 50, (some (48, true)), .load 1 false (.t 49)⟩,
 ⟨some 51, (some (48, true)), .call 557 [(.t 50)]⟩,
 ⟨some 52, (some (48, true)), .un .not (.t 51)⟩,
 ⟨some 53, (some (44, false)), .pick (.t 48) (.t 52) (.c (.bool false))⟩,
 ⟨some 54, none, .pick (.t 44) (.c (.bool true)) (.t 53)⟩,
 ⟨some 55, none, .mv (.t 54)⟩,
 ⟨some 56, (some (55, false)), .fld 4 (.t 1)⟩,
 ⟨some 57, (some (55, false)), .load 1 false (.t 56)⟩,
 ⟨some 58, (some (55, false)), .bin .neq (.t 57) (.c (.str []))⟩,
 ⟨some 59, none, .pick (.t 55) (.c (.bool true)) (.t 58)⟩,
 ⟨some 60, none, .mv (.t 59)⟩,
 ⟨some 61, (some (60, false)), .fld 3 (.t 1)⟩,
 ⟨some 62, (some (60, false)), .load 1 false (.t 61)⟩,
 ⟨some 63, (some (60, false)), .len 1 (.t 62)⟩,
 ⟨some 64, (some (60, false)), .bin .gtr (.t 63) (.c (.int .i64 8))⟩,
 ⟨some 65, none, .pick (.t 60) (.c (.bool true)) (.t 64)⟩,
 ⟨some 66, none, .mv (.t 65)⟩,
 ⟨some 67, (some (66, false)), .fld 5 (.t 1)⟩,
 ⟨some 68, (some (66, false)), .load 1 false (.t 67)⟩,
 ⟨some 69, (some (66, false)), .len 1 (.t 68)⟩,
 ⟨some 70, (some (66, false)), .bin .gtr (.t 69) (.c (.int .i64 16))⟩,
 ⟨some 71, none, .pick (.t 66) (.c (.bool true)) (.t 70)⟩] ⟨true, [71, 1], []⟩)
 (.cond (.t 71) (.seq (.ops [
 ⟨some 2, none, .mv (.c (.bool false))⟩] ⟨false, [], []⟩)
 .ret)
 .skip))
 (.seq (.seq (.ops [
 ⟨some 3, none, .mv (.c (.int .i64 0))⟩] ⟨false, [], []⟩)
 (.block 0 w563_L2 ⟨true, [1], []⟩))
 w563_c2))))⟩

@[simp] theorem w563_E1 {β : Type} {C : WProg} {b : Nat} {f : Ex × WSt → Option β} {k : List Pw.Frame} {s : WSt} : CK C b f k w563_L1 s = LK C b f (.sq w563_L1 :: k) w563_B1 (canon b ⟨true, [6, 5, 1], []⟩ s) := ck_lp rfl
noncomputable abbrev w563_K1 (C : WProg) (s : WSt) : Option AV := CK C 0 (pureFin [.tmp 2]) [.sq w563_L1, .bk 6 ⟨true, [5, 1], []⟩, .bk 5 ⟨true, [5, 1], []⟩, .sq w563_c1, .sq w563_L0, .bk 4 ⟨true, [], []⟩, .sq w563_c0] w563_B1 s

@[simp] theorem w563_E0 {β : Type} {C : WProg} {b : Nat} {f : Ex × WSt → Option β} {k : List Pw.Frame} {s : WSt} : CK C b f k w563_L0 s = LK C b f (.sq w563_L0 :: k) w563_B0 (canon b ⟨true, [5, 1], []⟩ s) := ck_lp rfl
noncomputable abbrev w563_K0 (C : WProg) (s : WSt) : Option AV := CK C 0 (pureFin [.tmp 2]) [.sq w563_L0, .bk 4 ⟨true, [], []⟩, .sq w563_c0] w563_B0 s

@[simp] theorem w563_E3 {β : Type} {C : WProg} {b : Nat} {f : Ex × WSt → Option β} {k : List Pw.Frame} {s : WSt} : CK C b f k w563_L3 s = LK C b f (.sq w563_L3 :: k) w563_B3 (canon b ⟨true, [4, 3, 1], []⟩ s) := ck_lp rfl
noncomputable abbrev w563_K3 (C : WProg) (s : WSt) : Option AV := CK C 0 (pureFin [.tmp 2]) [.sq w563_L3, .bk 2 ⟨true, [3, 1], []⟩, .bk 1 ⟨true, [3, 1], []⟩, .sq w563_c3, .sq w563_L2, .bk 0 ⟨true, [1], []⟩, .sq w563_c2] w563_B3 s

@[simp] theorem w563_E2 {β : Type} {C : WProg} {b : Nat} {f : Ex × WSt → Option β} {k : List Pw.Frame} {s : WSt} : CK C b f k w563_L2 s = LK C b f (.sq w563_L2 :: k) w563_B2 (canon b ⟨true, [3, 1], []⟩ s) := ck_lp rfl
noncomputable abbrev w563_K2 (C : WProg) (s : WSt) : Option AV := CK C 0 (pureFin [.tmp 2]) [.sq w563_L2, .bk 0 ⟨true, [1], []⟩, .sq w563_c2] w563_B2 s

/- paternoster/nodes.Check -/
def w439 : WFn := ⟨1, [.tmp 2],
 (.seq (.ops [
 ⟨some 1, none, .box (.t 0)⟩,
 ⟨some 2, none, .mv (.c (.int .i64 0))⟩] ⟨false, [], []⟩)
 (.seq (.seq (.ops [
 ⟨some 3, none, .load 6 true (.t 1)⟩,
 ⟨some 4, none, .call 140 [(.t 3)]⟩,
 ⟨some 5, none, .bin .eql (.t 4) (.c (.int .i64 0))⟩] ⟨false, [], []⟩)
 (.cond (.t 5) (.seq (.ops [
 ⟨some 2, none, .mv (.c (.int .i64 14))⟩] ⟨false, [], []⟩)
 .ret)
 .skip))
 (.seq (.ops [
 ⟨some 2, none, .mv (.c (.int .i64 0))⟩] ⟨false, [], []⟩)
 .ret)))⟩

/- (paternoster/templates.maker).attrs -/
def w592_c0 : WCode := (.seq (.ops [
 ⟨some 44, none, .mv (.t 5)⟩,
 ⟨some 4, none, .mv (.t 44)⟩] ⟨false, [], []⟩)
 .ret)

def w592_B0 : WCode := (.seq (.ops [
 ⟨some 14, none, .bin .lss (.t 13) (.t 12)⟩] ⟨false, [], []⟩)
 (.seq (.cond (.t 14) .skip
 (.exit 0))
 (.seq (.block 1 (.seq (.ops [
 ⟨some 15, none, .mv (.t 13)⟩,
 ⟨some 16, none, .idxs 3 (.t 11) (.t 13)⟩,
 ⟨some 17, none, .load 3 true (.t 16)⟩,
 ⟨some 7, none, .alloc [(.str []), (.int .u8 0), (.str [])]⟩,
 ⟨some 6, none, .mv (.t 15)⟩,
 ⟨none, none, .store 3 (.t 7) (.t 17)⟩] ⟨false, [], []⟩)
 (.draw [
 ⟨some 18, none, .mv (.t 5)⟩,
 ⟨some 19, none, .mv (.t 6)⟩,
 ⟨some 20, none, .fld 0 (.t 7)⟩,
 ⟨some 21, none, .load 1 false (.t 20)⟩,
 ⟨some 22, none, .fld 2 (.t 7)⟩,
 ⟨some 23, none, .load 1 false (.t 22)⟩,
 ⟨some 24, none, .fld 0 (.t 2)⟩,
 ⟨some 25, none, .fld 2 (.t 24)⟩,
 ⟨some 26, none, .load 1 false (.t 25)⟩,
 ⟨some 27, none, .fld 0 (.t 2)⟩,
 ⟨some 28, none, .fld 0 (.t 27)⟩,
 ⟨some 29, none, .load 1 false (.t 28)⟩,
 ⟨some 30, none, .call 584 [(.t 29)]⟩,
 ⟨some 31, none, .fld 0 (.t 2)⟩,
 ⟨some 32, none, .fld 3 (.t 31)⟩,
 ⟨some 33, none, .load 1 false (.t 32)⟩,
 ⟨some 34, none, .len 1 (.t 33)⟩,
 ⟨some 35, none, .cvt .u64 (.t 34)⟩,
 ⟨some 36, none, .call 584 [(.t 35)]⟩,
 ⟨some 37, none, .build [(.str []), (.str []), (.str []), (.str [])] [(0, 1, (.t 23)), (1, 1, (.t 26)), (2, 1, (.t 30)), (3, 1, (.t 36))]⟩,
 ⟨some 38, none, .fld 1 (.t 7)⟩,
 ⟨some 39, none, .load 1 false (.t 38)⟩,
 ⟨some 40, none, .idxv 4 1 false (.t 37) (.t 39)⟩,
 ⟨some 41, none, .build [(.str []), (.str [])] [(0, 1, (.t 21)), (1, 1, (.t 40))]⟩,
 ⟨some 42, none, .idxs 2 (.t 18) (.t 19)⟩,
 ⟨none, none, .store 2 (.t 42) (.t 41)⟩] [(3, 12), (5, 12), (8, 12), (12, 15), (12, 16), (3, 18), (5, 18), (8, 18), (12, 21), (18, 21)] ⟨true, [13, 12, 11, 5, 2], []⟩)) ⟨false, [], []⟩)
 (.ops [
 ⟨some 43, none, .bin .add (.t 13) (.c (.int .i64 1))⟩,
 ⟨some 13, none, .mv (.t 43)⟩] ⟨false, [], []⟩))))
def w592_L0 : WCode := .loop ⟨true, [13, 12, 11, 5, 2], []⟩ w592_B0
def w592 : WFn := ⟨2, [.tmp 4],
 (.seq (.ops [
 ⟨some 2, none, .box (.t 0)⟩,
 ⟨some 4, none, .mv (.c (.ro 2 [] true))⟩] ⟨false, [], []⟩)
 (.seq (.ops [
 ⟨some 8, none, .mv (.t 1)⟩,
 ⟨some 9, none, .len 1 (.t 8)⟩,
 ⟨some 10, none, .mksl [(.str []), (.str [])] 32 (.t 9) (.t 9)⟩,
 ⟨some 5, none, .mv (.t 10)⟩] ⟨false, [], []⟩)
 (.seq (.seq (.ops [
 ⟨some 11, none, .mv (.t 1)⟩,
 ⟨some 12, none, .len 1 (.t 11)⟩,
 ⟨some 13, none, .mv (.c (.int .i64 0))⟩] ⟨false, [], []⟩)
 (.block 0 w592_L0 ⟨true, [5], []⟩))
 w592_c0)))⟩

@[simp] theorem w592_E0 {β : Type} {C : WProg} {b : Nat} {f : Ex × WSt → Option β} {k : List Pw.Frame} {s : WSt} : CK C b f k w592_L0 s = LK C b f (.sq w592_L0 :: k) w592_B0 (canon b ⟨true, [13, 12, 11, 5, 2], []⟩ s) := ck_lp rfl
noncomputable abbrev w592_K0 (C : WProg) (s : WSt) : Option AV := CK C 0 (pureFin [.tmp 4]) [.sq w592_L0, .bk 0 ⟨true, [5], []⟩, .sq w592_c0] w592_B0 s

/- slices.Clip[[]paternoster/api.Node,paternoster/api.Node] -/
def w593 : WFn := ⟨1, [.tmp 2],
 (.seq (.ops [
 ⟨some 2, none, .mv (.c (.ro 6 [] true))⟩] ⟨false, [], []⟩)
 (.seq (.ops [
 ⟨some 3, none, .mv (.t 0)⟩,
 ⟨some 4, none, .mv (.t 0)⟩,
 ⟨some 5, none, .len 1 (.t 4)⟩,
 ⟨some 6, none, .mv (.t 0)⟩,
 ⟨some 7, none, .len 1 (.t 6)⟩,
 ⟨some 8, none, .slice 6 (.t 3) none (some (.t 5)) (some (.t 7))⟩,
 ⟨some 2, none, .mv (.t 8)⟩] ⟨false, [], []⟩)
 .ret))⟩

/- paternoster/nodes.measure$1 -/
def w433_c0 : WCode := (.seq (.ops [
 ⟨some 7, none, .mv (.c (.bool true))⟩] ⟨false, [], []⟩)
 .ret)

def w433_B0 : WCode := (.seq (.ops [
 ⟨some 31, none, .bin .lss (.t 30) (.t 29)⟩] ⟨false, [], []⟩)
 (.seq (.cond (.t 31) .skip
 (.exit 0))
 (.seq (.block 1 (.seq (.ops [
 ⟨some 32, none, .mv (.t 30)⟩,
 ⟨some 8, none, .mv (.t 32)⟩] ⟨false, [], []⟩)
 (.seq (.draw [
 ⟨some 33, none, .load 1 false (.t 4)⟩,
 ⟨some 34, none, .mv (.t 0)⟩,
 ⟨some 35, none, .nilchk (.t 34)⟩,
 ⟨some 36, none, .fld 5 (.t 35)⟩,
 ⟨some 37, none, .load 1 false (.t 36)⟩,
 ⟨some 38, none, .mv (.t 8)⟩,
 ⟨some 39, none, .idxs 6 (.t 37) (.t 38)⟩,
 ⟨some 40, none, .mv (.t 1)⟩,
 ⟨some 41, none, .bin .add (.t 40) (.c (.int .i64 1))⟩,
 ⟨some 42, none, .callv (.t 33) [(.t 39), (.t 41)]⟩,
 ⟨some 43, none, .un .not (.t 42)⟩] [] ⟨false, [], []⟩)
 (.cond (.t 43) (.seq (.ops [
 ⟨some 7, none, .mv (.c (.bool false))⟩] ⟨false, [], []⟩)
 .ret)
 .skip))) ⟨false, [], []⟩)
 (.ops [
 ⟨some 44, none, .bin .add (.t 30) (.c (.int .i64 1))⟩,
 ⟨some 30, none, .mv (.t 44)⟩] ⟨false, [], []⟩))))
def w433_L0 : WCode := .loop ⟨true, [30, 29, 4, 1, 0], []⟩ w433_B0
def w433 : WFn := ⟨5, [.tmp 7],
 (.seq (.ops [
 ⟨some 7, none, .mv (.c (.bool false))⟩] ⟨false, [], []⟩)
 (.seq (.ops [
 ⟨some 9, none, .load 1 false (.t 2)⟩,
 ⟨some 10, none, .bin .add (.t 9) (.c (.int .i64 1))⟩,
 ⟨none, none, .store 1 (.t 2) (.t 10)⟩] ⟨false, [], []⟩)
 (.seq (.ops [
 ⟨some 11, none, .load 1 false (.t 3)⟩,
 ⟨some 12, none, .mv (.t 1)⟩,
 ⟨some 13, none, .mx (.t 11) (.t 12)⟩,
 ⟨none, none, .store 1 (.t 3) (.t 13)⟩] ⟨false, [], []⟩)
 (.seq (.seq (.ops [
 ⟨some 14, none, .mv (.t 1)⟩,
 ⟨some 15, none, .bin .gtr (.t 14) (.c (.int .i64 6))⟩,
 ⟨some 16, none, .mv (.t 15)⟩,
 ⟨some 17, (some (16, false)), .load 1 false (.t 2)⟩,
 ⟨some 18, (some (16, false)), .bin .gtr (.t 17) (.c (.int .i64 64))⟩,
 ⟨some 19, none, .pick (.t 16) (.c (.bool true)) (.t 18)⟩,
 ⟨some 20, none, .mv (.t 19)⟩,
 ⟨some 21, (some (20, false)), .mv (.t 0)⟩,
 ⟨some 22, (some (20, false)), .call 434 [(.t 21)]⟩,
 ⟨some 23, (some (20, false)), .un .not (.t 22)⟩,
 ⟨some 24, none, .pick (.t 20) (.c (.bool true)) (.t 23)⟩] ⟨false, [], []⟩)
 (.cond (.t 24) (.seq (.ops [
 ⟨some 7, none, .mv (.c (.bool false))⟩] ⟨false, [], []⟩)
 .ret)
 .skip))
 (.seq (.seq (.ops [
 ⟨some 25, none, .mv (.t 0)⟩,
 ⟨some 26, none, .nilchk (.t 25)⟩,
 ⟨some 27, none, .fld 5 (.t 26)⟩,
 ⟨some 28, none, .load 1 false (.t 27)⟩,
 ⟨some 29, none, .len 1 (.t 28)⟩,
 ⟨some 30, none, .mv (.c (.int .i64 0))⟩] ⟨true, [30, 29, 4, 1, 0], []⟩)
 (.block 0 w433_L0 ⟨true, [], []⟩))
 w433_c0)))))⟩

@[simp] theorem w433_E0 {β : Type} {C : WProg} {b : Nat} {f : Ex × WSt → Option β} {k : List Pw.Frame} {s : WSt} : CK C b f k w433_L0 s = LK C b f (.sq w433_L0 :: k) w433_B0 (canon b ⟨true, [30, 29, 4, 1, 0], []⟩ s) := ck_lp rfl
noncomputable abbrev w433_K0 (C : WProg) (s : WSt) : Option AV := CK C 0 (pureFin [.tmp 7]) [.sq w433_L0, .bk 0 ⟨true, [], []⟩, .sq w433_c0] w433_B0 s

/- paternoster/nodes.alone -/
def w434_c0 : WCode := (.seq (.ops [
 ⟨some 2, none, .mv (.c (.bool true))⟩] ⟨false, [], []⟩)
 .ret)

def w434_B0 : WCode := (.seq (.ops [
 ⟨some 143, none, .bin .lss (.t 142) (.t 141)⟩] ⟨true, [143, 142, 141, 140, 0], []⟩)
 (.seq (.cond (.t 143) .skip
 (.exit 2))
 (.seq (.block 3 (.seq (.ops [
 ⟨some 144, none, .mv (.t 142)⟩,
 ⟨some 145, none, .idxs 6 (.t 140) (.t 142)⟩,
 ⟨some 146, none, .load 6 true (.t 145)⟩,
 ⟨some 6, none, .alloc [(.int .u8 0), (.str []), (.str []), (.ro 2 [] true), (.str []), (.ro 6 [] true)]⟩,
 ⟨some 5, none, .mv (.t 144)⟩,
 ⟨none, none, .store 6 (.t 6) (.t 146)⟩] ⟨false, [], []⟩)
 (.seq (.ops [
 ⟨some 147, none, .fld 2 (.t 6)⟩,
 ⟨some 148, none, .load 1 false (.t 147)⟩,
 ⟨some 149, none, .bin .neq (.t 148) (.c (.str []))⟩,
 ⟨some 150, none, .mv (.t 149)⟩,
 ⟨some 151, (some (150, true)), .mv (.t 0)⟩,
 ⟨some 152, (some (150, true)), .nilchk (.t 151)⟩,
 ⟨some 153, (some (150, true)), .fld 5 (.t 152)⟩,
 ⟨some 154, (some (150, true)), .load 1 false (.t 153)⟩,
 ⟨some 155, (some (150, true)), .mv (.t 5)⟩,
 ⟨some 156, (some (150, true)), .slice 6 (.t 154) none (some (.t 155)) none⟩,
 ⟨some 157, (some (150, true)), .mkfn 519 [(.t 6)]⟩,
 ⟨some 158, (some (150, true)), .call 518 [(.t 156), (.t 157)]⟩,
 ⟨some 159, none, .pick (.t 150) (.t 158) (.c (.bool false))⟩] ⟨false, [], []⟩)
 (.cond (.t 159) (.seq (.ops [
 ⟨some 2, none, .mv (.c (.bool false))⟩] ⟨false, [], []⟩)
 .ret)
 .skip))) ⟨false, [], []⟩)
 (.ops [
 ⟨some 160, none, .bin .add (.t 142) (.c (.int .i64 1))⟩,
 ⟨some 142, none, .mv (.t 160)⟩] ⟨false, [], []⟩))))
def w434_L0 : WCode := .loop ⟨true, [142, 141, 140, 0], []⟩ w434_B0
def w434_c1 : WCode := (.seq (.seq (.ops [
 ⟨some 137, none, .mv (.t 0)⟩,
 ⟨some 138, none, .nilchk (.t 137)⟩,
 ⟨some 139, none, .fld 5 (.t 138)⟩,
 ⟨some 140, none, .load 1 false (.t 139)⟩,
 ⟨some 141, none, .len 1 (.t 140)⟩,
 ⟨some 142, none, .mv (.c (.int .i64 0))⟩] ⟨false, [], []⟩)
 (.block 2 w434_L0 ⟨true, [], []⟩))
 w434_c0)

def w434_B1 : WCode := (.seq (.ops [
 ⟨some 104, none, .bin .lss (.t 103) (.t 102)⟩] ⟨false, [], []⟩)
 (.seq (.cond (.t 104) .skip
 (.exit 0))
 (.seq (.block 1 (.seq (.ops [
 ⟨some 105, none, .mv (.t 103)⟩,
 ⟨some 106, none, .idxs 2 (.t 101) (.t 103)⟩,
 ⟨some 107, none, .load 2 true (.t 106)⟩,
 ⟨some 4, none, .alloc [(.str []), (.str [])]⟩,
 ⟨some 3, none, .mv (.t 105)⟩,
 ⟨none, none, .store 2 (.t 4) (.t 107)⟩] ⟨false, [], []⟩)
 (.seq (.draw [
 ⟨some 108, none, .fld 0 (.t 4)⟩,
 ⟨some 109, none, .load 1 false (.t 108)⟩,
 ⟨some 110, none, .call 517 [(.t 109)]⟩,
 ⟨some 111, none, .un .not (.t 110)⟩,
 ⟨some 112, none, .mv (.t 111)⟩,
 ⟨some 113, (some (112, false)), .fld 1 (.t 4)⟩,
 ⟨some 114, (some (112, false)), .load 1 false (.t 113)⟩,
 ⟨some 115, (some (112, false)), .call 516 [(.t 114)]⟩,
 ⟨some 116, (some (112, false)), .un .not (.t 115)⟩,
 ⟨some 117, none, .pick (.t 112) (.c (.bool true)) (.t 116)⟩,
 ⟨some 118, none, .mv (.t 117)⟩,
 ⟨some 119, (some (118, false)), .mv (.t 3)⟩,
 ⟨some 120, (some (118, false)), .bin .gtr (.t 119) (.c (.int .i64 0))⟩,
 ⟨some 121, (some (118, false)), .mv (.t 120)⟩,
 ⟨some 122, (some (121, true)), .fld 0 (.t 4)⟩,
 ⟨some 123, (some (121, true)), .load 1 false (.t 122)⟩,
 ⟨some 124, (some (121, true)), .mv (.t 0)⟩,
 ⟨some 125, (some (121, true)), .nilchk (.t 124)⟩,
 ⟨some 126, (some (121, true)), .fld 3 (.t 125)⟩,
 ⟨some 127, (some (121, true)), .load 1 false (.t 126)⟩,
 ⟨some 128, (some (121, true)), .mv (.t 3)⟩,
 ⟨some 129, (some (121, true)), .bin .sub (.t 128) (.c (.int .i64 1))⟩,
 ⟨some 130, (some (121, true)), .idxs 2 (.t 127) (.t 129)⟩,
 ⟨some 131, (some (121, true)), .fld 0 (.t 130)⟩,
 ⟨some 132, (some (121, true)), .load 1 false (.t 131)⟩,
 ⟨some 133, (some (121, true)), .bin .leq (.t 123) (.t 132)⟩,
 ⟨some 134, (some (118, false)), .pick (.t 121) (.t 133) (.c (.bool false))⟩,
 ⟨some 135, none, .pick (.t 118) (.c (.bool true)) (.t 134)⟩] [] ⟨true, [135, 103, 102, 101, 0], []⟩)
 (.cond (.t 135) (.seq (.ops [
 ⟨some 2, none, .mv (.c (.bool false))⟩] ⟨false, [], []⟩)
 .ret)
 .skip))) ⟨false, [], []⟩)
 (.ops [
 ⟨some 136, none, .bin .add (.t 103) (.c (.int .i64 1))⟩,
 ⟨some 103, none, .mv (.t 136)⟩] ⟨false, [], []⟩))))
def w434_L1 : WCode := .loop ⟨true, [103, 102, 101, 0], []⟩ w434_B1
def w434 : WFn := ⟨1, [.tmp 2],
 (.seq (.ops [
 ⟨some 2, none, .mv (.c (.bool false))⟩] ⟨false, [], []⟩)
 (.seq (.seq (.ops [
 ⟨some 7, none, .mv (.t 0)⟩,
 ⟨some 8, none, .nilchk (.t 7)⟩,
 ⟨some 9, none, .fld 0 (.t 8)⟩,
 ⟨some 10, none, .load 1 false (.t 9)⟩,
 ⟨some 11, none, .bin .eql (.t 10) (.c (.int .u8 2))⟩] ⟨false, [], []⟩)
 (.cond (.t 11) (.seq (.ops [
 ⟨some 12, none, .mv (.t 0)⟩,
 ⟨some 13, none, .nilchk (.t 12)⟩,
 ⟨some 14, none, .fld 4 (.t 13)⟩,
 ⟨some 15, none, .load 1 false (.t 14)⟩,
 ⟨some 16, none, .call 516 [(.t 15)]⟩,
 ⟨some 17, none, .mv (.t 16)⟩,
 ⟨some 18, (some (17, true)), .mv (.t 0)⟩,
 ⟨some 19, (some (17, true)), .nilchk (.t 18)⟩,
 ⟨some 20, (some (17, true)), .fld 1 (.t 19)⟩,
 ⟨some 21, (some (17, true)), .load 1 false (.t 20)⟩,
 ⟨some 22, (some (17, true)), .bin .eql (.t 21) (.c (.str []))⟩,
 ⟨some 23, none, .pick (.t 17) (.t 22) (.c (.bool false))⟩,
 ⟨some 24, none, .mv (.t 23)⟩,
 ⟨some 25, (some (24, true)), .mv (.t 0)⟩,
 ⟨some 26, (some (24, true)), .nilchk (.t 25)⟩,
 ⟨some 27, (some (24, true)), .fld 2 (.t 26)⟩,
 ⟨some 28, (some (24, true)), .load 1 false (.t 27)⟩,
 ⟨some 29, (some (24, true)), .bin .eql (.t 28) (.c (.str []))⟩,
 ⟨some 30, none, .pick (.t 24) (.t 29) (.c (.bool false))⟩,
 ⟨some 31, none, .mv (.t 30)⟩,
 ⟨some 32, (some (31, true)), .mv (.t 0)⟩,
 ⟨some 33, (some (31, true)), .nilchk (.t 32)⟩,
 ⟨some 34, (some (31, true)), .fld 3 (.t 33)⟩,
 ⟨some 35, (some (31, true)), .load 1 false (.t 34)⟩,
 ⟨some 36, (some (31, true)), .len 1 (.t 35)⟩,
 ⟨some 37, (some (31, true)), .bin .eql (.t 36) (.c (.int .i64 0))⟩,
 ⟨some 38, none, .pick (.t 31) (.t 37) (.c (.bool false))⟩,
 ⟨some 39, none, .mv (.t 38)⟩,
 ⟨some 40, (some (39, true)), .mv (.t 0)⟩,
 ⟨some 41, (some (39, true)), .nilchk (.t 40)⟩,
 ⟨some 42, (some (39, true)), .fld 5 (.t 41)⟩,
 ⟨some 43, (some (39, true)), .load 1 false (.t 42)⟩,
 ⟨some 44, (some (39, true)), .len 1 (.t 43)⟩,
 ⟨some 45, (some (39, true)), .bin .eql (.t 44) (.c (.int .i64 0))⟩,
 ⟨some 46, none, .pick (.t 39) (.t 45) (.c (.bool false))⟩,
 ⟨some 2, none, .mv (.t 46)⟩] ⟨true, [2], []⟩)
 .ret)
 .skip))
 (.seq (.seq (.ops [
 ⟨some 47, none, .mv (.t 0)⟩,
 ⟨some 48, none, .nilchk (.t 47)⟩,
 ⟨some 49, none, .fld 0 (.t 48)⟩,
 ⟨some 50, none, .load 1 false (.t 49)⟩,
 ⟨some 51, none, .bin .neq (.t 50) (.c (.int .u8 1))⟩,
 ⟨some 52, none, .mv (.t 51)⟩,
 ⟨some 53, (some (52, false)), .mv (.t 0)⟩,
 ⟨some 54, (some (52, false)), .nilchk (.t 53)⟩,
 ⟨some 55, (some (52, false)), .fld 1 (.t 54)⟩,
 ⟨some 56, (some (52, false)), .load 1 false (.t 55)⟩,
 ⟨some 57, (some (52, false)), .call 517 [(.t 56)]⟩,
 ⟨some 58, (some (52, false)), .un .not (.t 57)⟩,
 ⟨some 59, none, .pick (.t 52) (.c (.bool true)) (.t 58)⟩,
 ⟨some 60, none, .mv (.t 59)⟩,
 ⟨some 61, (some (60, false)), .mv (.t 0)⟩,
 ⟨some 62, (some (60, false)), .nilchk (.t 61)⟩,
 ⟨some 63, (some (60, false)), .fld 2 (.t 62)⟩,
 ⟨some 64, (some (60, false)), .load 1 false (.t 63)⟩,
 ⟨some 65, (some (60, false)), .bin .neq (.t 64) (.c (.str []))⟩,
 ⟨some 66, (some (60, false)), .mv (.t 65)⟩,
 ⟨some 67, (some (66, true)), .mv (.t 0)⟩,
 ⟨some 68, (some (66, true)), .nilchk (.t 67)⟩,
 ⟨some 69, (some (66, true)), .fld 2 (.t 68)⟩,
 ⟨some 70, (some (66, true)), .load 1 false (.t 69)⟩,
 ⟨some 71, (some (66, true)), .call 517 [(.t 70)]⟩,
 ⟨some 72, (some (66, true)), .un .not (.t 71)⟩,
 ⟨some 73, (some (60, false)), .pick (.t 66) (.t 72) (.c (.bool false))⟩,
 ⟨some 74, none, .pick (.t 60) (.c (.bool true)) (.t 73)⟩,
 ⟨some 75, none, .mv (.t 74)⟩,
 ⟨some 76, (some (75, false)), .mv (.t 0)⟩,
 ⟨some 77, (some (75, false)), .nilchk (.t 76)⟩,
 ⟨some 78, (some (75, false)), .fld 4 (.t 77)⟩,
 ⟨some 79, (some (75, false)), .load 1 false (.t 78)⟩,
 ⟨some 80, (some (75, false)), .bin .neq (.t 79) (.c (.str []))⟩,
 ⟨some 81, none, .pick (.t 75) (.c (.bool true)) (.t 80)⟩,
 ⟨some 82, none, .mv (.t 81)⟩,
 ⟨some 83, (some (82, false)), .mv (.t 0)⟩,
 ⟨some 84, (some (82, false)), .nilchk (.t 83)⟩,
 ⟨some 85, (some (82, false)), .fld 3 (.t 84)⟩,
 ⟨some 86, (some (82, false)), .load 1 false (.t 85)⟩,
 ⟨some 87, (some (82, false)), .len 1 (.t 86)⟩,
 ⟨some 88, (some (82, false)), .bin .gtr (.t 87) (.c (.int .i64 8))⟩,
 ⟨some 89, none, .pick (.t 82) (.c (.bool true)) (.t 88)⟩,
 ⟨some 90, none, .mv (.t 89)⟩,
 ⟨some 91, (some (90, false)), .mv (.t 0)⟩,
 ⟨some 92, (some (90, false)), .nilchk (.t 91)⟩,
 ⟨some 93, (some (90, false)), .fld 5 (.t 92)⟩,
 ⟨some 94, (some (90, false)), .load 1 false (.t 93)⟩,
 ⟨some 95, (some (90, false)), .len 1 (.t 94)⟩,
 ⟨some 96, (some (90, false)), .bin .gtr (.t 95) (.c (.int .i64 16))⟩,
 ⟨some 97, none, .pick (.t 90) (.c (.bool true)) (.t 96)⟩] ⟨true, [97, 0], []⟩)
 (.cond (.t 97) (.seq (.ops [
 ⟨some 2, none, .mv (.c (.bool false))⟩] ⟨false, [], []⟩)
 .ret)
 .skip))
 (.seq (.seq (.ops [
 ⟨some 98, none, .mv (.t 0)⟩,
 ⟨some 99, none, .nilchk (.t 98)⟩,
 ⟨some 100, none, .fld 3 (.t 99)⟩,
 ⟨some 101, none, .load 1 false (.t 100)⟩,
 ⟨some 102, none, .len 1 (.t 101)⟩,
 ⟨some 103, none, .mv (.c (.int .i64 0))⟩] ⟨false, [], []⟩)
 (.block 0 w434_L1 ⟨true, [0], []⟩))
 w434_c1))))⟩

@[simp] theorem w434_E0 {β : Type} {C : WProg} {b : Nat} {f : Ex × WSt → Option β} {k : List Pw.Frame} {s : WSt} : CK C b f k w434_L0 s = LK C b f (.sq w434_L0 :: k) w434_B0 (canon b ⟨true, [142, 141, 140, 0], []⟩ s) := ck_lp rfl
noncomputable abbrev w434_K0 (C : WProg) (s : WSt) : Option AV := CK C 0 (pureFin [.tmp 2]) [.sq w434_L0, .bk 2 ⟨true, [], []⟩, .sq w434_c0] w434_B0 s

@[simp] theorem w434_E1 {β : Type} {C : WProg} {b : Nat} {f : Ex × WSt → Option β} {k : List Pw.Frame} {s : WSt} : CK C b f k w434_L1 s = LK C b f (.sq w434_L1 :: k) w434_B1 (canon b ⟨true, [103, 102, 101, 0], []⟩ s) := ck_lp rfl
noncomputable abbrev w434_K1 (C : WProg) (s : WSt) : Option AV := CK C 0 (pureFin [.tmp 2]) [.sq w434_L1, .bk 0 ⟨true, [0], []⟩, .sq w434_c1] w434_B1 s

/- paternoster/templates.slots -/
def w585_c0 : WCode := (.seq (.ops [
 ⟨some 2, none, .mv (.c (.bool true))⟩] ⟨false, [], []⟩)
 .ret)

def w585_B0 : WCode := (.seq (.ops [
 ⟨some 11, none, .bin .lss (.t 10) (.t 9)⟩] ⟨false, [], []⟩)
 (.seq (.cond (.t 11) .skip
 (.exit 0))
 (.seq (.block 1 (.seq (.ops [
 ⟨some 12, none, .mv (.t 10)⟩,
 ⟨some 13, none, .idxs 3 (.t 8) (.t 10)⟩,
 ⟨some 14, none, .load 3 true (.t 13)⟩,
 ⟨some 4, none, .alloc [(.str []), (.int .u8 0), (.str [])]⟩,
 ⟨some 3, none, .mv (.t 12)⟩,
 ⟨none, none, .store 3 (.t 4) (.t 14)⟩] ⟨false, [], []⟩)
 (.seq (.draw [
 ⟨some 15, none, .fld 0 (.t 4)⟩,
 ⟨some 16, none, .load 1 false (.t 15)⟩,
 ⟨some 17, none, .call 581 [(.t 16)]⟩,
 ⟨some 18, none, .un .not (.t 17)⟩,
 ⟨some 19, none, .mv (.t 18)⟩,
 ⟨some 20, (some (19, false)), .fld 1 (.t 4)⟩,
 ⟨some 21, (some (19, false)), .load 1 false (.t 20)⟩,
 ⟨some 22, (some (19, false)), .bin .gtr (.t 21) (.c (.int .u8 3))⟩,
 ⟨some 23, none, .pick (.t 19) (.c (.bool true)) (.t 22)⟩,
 ⟨some 24, none, .mv (.t 23)⟩,
 ⟨some 25, (some (24, false)), .fld 2 (.t 4)⟩,
 ⟨some 26, (some (24, false)), .load 1 false (.t 25)⟩,
 ⟨some 27, (some (24, false)), .call 579 [(.t 26)]⟩,
 ⟨some 28, (some (24, false)), .un .not (.t 27)⟩,
 ⟨some 29, none, .pick (.t 24) (.c (.bool true)) (.t 28)⟩,
 ⟨some 30, none, .mv (.t 29)⟩,
 ⟨some 31, (some (30, false)), .fld 1 (.t 4)⟩,
 ⟨some 32, (some (30, false)), .load 1 false (.t 31)⟩,
 ⟨some 33, (some (30, false)), .bin .gtr (.t 32) (.c (.int .u8 0))⟩,
 ⟨some 34, (some (30, false)), .mv (.t 33)⟩,
 ⟨some 35, (some (34, true)), .fld 2 (.t 4)⟩,
 ⟨some 36, (some (34, true)), .load 1 false (.t 35)⟩,
 ⟨some 37, (some (34, true)), .bin .neq (.t 36) (.c (.str []))⟩,
 ⟨some 38, (some (30, false)), .pick (.t 34) (.t 37) (.c (.bool false))⟩,
 ⟨some 39, none, .pick (.t 30) (.c (.bool true)) (.t 38)⟩,
 ⟨some 40, none, .mv (.t 39)⟩,
 ⟨some 41, (some (40, false)), .mv (.t 3)⟩,
 ⟨some 42, (some (40, false)), .bin .gtr (.t 41) (.c (.int .i64 0))⟩,
 ⟨some 43, (some (40, false)), .mv (.t 42)⟩,
 ⟨some 44, (some (43, true)), .fld 0 (.t 4)⟩,
 ⟨some 45, (some (43, true)), .load 1 false (.t 44)⟩,
 ⟨some 46, (some (43, true)), .mv (.t 0)⟩,
 ⟨some 47, (some (43, true)), .mv (.t 3)⟩,
 ⟨some 48, (some (43, true)), .bin .sub (.t 47) (.c (.int .i64 1))⟩,
 ⟨some 49, (some (43, true)), .idxs 3 (.t 46) (.t 48)⟩,
 ⟨some 50, (some (43, true)), .fld 0 (.t 49)⟩,
 ⟨some 51, (some (43, true)), .load 1 false (.t 50)⟩,
 ⟨some 52, (some (43, true)), .bin .leq (.t 45) (.t 51)⟩,
 ⟨some 53, (some (40, false)), .pick (.t 43) (.t 52) (.c (.bool false))⟩,
 ⟨some 54, none, .pick (.t 40) (.c (.bool true)) (.t 53)⟩] [] ⟨true, [54, 10, 9, 8, 0], []⟩)
 (.cond (.t 54) (.seq (.ops [
 ⟨some 2, none, .mv (.c (.bool false))⟩] ⟨false, [], []⟩)
 .ret)
 .skip))) ⟨false, [], []⟩)
 (.ops [
 ⟨some 55, none, .bin .add (.t 10) (.c (.int .i64 1))⟩,
 ⟨some 10, none, .mv (.t 55)⟩] ⟨false, [], []⟩))))
def w585_L0 : WCode := .loop ⟨true, [10, 9, 8, 0], []⟩ w585_B0
def w585 : WFn := ⟨1, [.tmp 2],
 (.seq (.ops [
 ⟨some 2, none, .mv (.c (.bool false))⟩] ⟨false, [], []⟩)
 (.seq (.seq (.ops [
 ⟨some 5, none, .mv (.t 0)⟩,
 ⟨some 6, none, .len 1 (.t 5)⟩,
 ⟨some 7, none, .bin .gtr (.t 6) (.c (.int .i64 8))⟩] ⟨false, [], []⟩)
 (.cond (.t 7) (.seq (.ops [
 ⟨some 2, none, .mv (.c (.bool false))⟩] ⟨false, [], []⟩)
 .ret)
 .skip))
 (.seq (.seq (.ops [
 ⟨some 8, none, .mv (.t 0)⟩,
 ⟨some 9, none, .len 1 (.t 8)⟩,
 ⟨some 10, none, .mv (.c (.int .i64 0))⟩] ⟨false, [], []⟩)
 (.block 0 w585_L0 ⟨true, [], []⟩))
 w585_c0)))⟩

@[simp] theorem w585_E0 {β : Type} {C : WProg} {b : Nat} {f : Ex × WSt → Option β} {k : List Pw.Frame} {s : WSt} : CK C b f k w585_L0 s = LK C b f (.sq w585_L0 :: k) w585_B0 (canon b ⟨true, [10, 9, 8, 0], []⟩ s) := ck_lp rfl
noncomputable abbrev w585_K0 (C : WProg) (s : WSt) : Option AV := CK C 0 (pureFin [.tmp 2]) [.sq w585_L0, .bk 0 ⟨true, [], []⟩, .sq w585_c0] w585_B0 s

/- paternoster/paternosterref14.slots -/
def w594_c0 : WCode := (.seq (.ops [
 ⟨some 2, none, .mv (.c (.bool true))⟩] ⟨false, [], []⟩)
 .ret)

def w594_B0 : WCode := (.seq (.seq (.ops [
 ⟨some 8, none, .mv (.t 3)⟩,
 ⟨some 9, none, .mv (.t 0)⟩,
 ⟨some 10, none, .len 1 (.t 9)⟩,
 ⟨some 11, none, .bin .lss (.t 8) (.t 10)⟩] ⟨false, [], []⟩)
 (.cond (.t 11) .skip
 (.exit 0)))
 (.seq (.block 1 (.seq (.ops [
 ⟨some 14, none, .mv (.t 0)⟩,
 ⟨some 15, none, .mv (.t 3)⟩,
 ⟨some 16, none, .idxs 3 (.t 14) (.t 15)⟩,
 ⟨some 17, none, .load 3 true (.t 16)⟩,
 ⟨some 4, none, .alloc [(.str []), (.int .u8 0), (.str [])]⟩,
 ⟨none, none, .store 3 (.t 4) (.t 17)⟩] ⟨false, [], []⟩)
 (.seq (.draw [
 ⟨some 18, none, .fld 0 (.t 4)⟩,
 ⟨some 19, none, .load 1 false (.t 18)⟩,
 ⟨some 20, none, .call 557 [(.t 19)]⟩,
 ⟨some 21, none, .un .not (.t 20)⟩,
 ⟨some 22, none, .mv (.t 21)⟩,
 ⟨some 23, (some (22, false)), .fld 1 (.t 4)⟩,
 ⟨some 24, (some (22, false)), .load 1 false (.t 23)⟩,
 ⟨some 25, (some (22, false)), .bin .gtr (.t 24) (.c (.int .u8 3))⟩,
 ⟨some 26, none, .pick (.t 22) (.c (.bool true)) (.t 25)⟩,
 ⟨some 27, none, .mv (.t 26)⟩,
 ⟨some 28, (some (27, false)), .fld 2 (.t 4)⟩,
 ⟨some 29, (some (27, false)), .load 1 false (.t 28)⟩,
 ⟨some 30, (some (27, false)), .call 556 [(.t 29)]⟩,
 ⟨some 31, (some (27, false)), .un .not (.t 30)⟩,
 ⟨some 32, none, .pick (.t 27) (.c (.bool true)) (.t 31)⟩,
 ⟨some 33, none, .mv (.t 32)⟩,
 ⟨some 34, (some (33, false)), .fld 1 (.t 4)⟩,
 ⟨some 35, (some (33, false)), .load 1 false (.t 34)⟩,
 ⟨some 36, (some (33, false)), .bin .neq (.t 35) (.c (.int .u8 0))⟩,
 ⟨some 37, (some (33, false)), .mv (.t 36)⟩,
 ⟨some 38, (some (37, true)), .fld 2 (.t 4)⟩,
 ⟨some 39, (some (37, true)), .load 1 false (.t 38)⟩,
 ⟨some 40, (some (37, true)), .bin .neq (.t 39) (.c (.str []))⟩,
 ⟨some 41, (some (33, false)), .pick (.t 37) (.t 40) (.c (.bool false))⟩,
 ⟨some 42, none, .pick (.t 33) (.c (.bool true)) (.t 41)⟩,
 ⟨some 43, none, .mv (.t 42)⟩,
 ⟨some 44, (some (43, false)), .mv (.t 3)⟩,
 ⟨some 45, (some (43, false)), .bin .gtr (.t 44) (.c (.int .i64 0))⟩,
 ⟨some 46, (some (43, false)), .mv (.t 45)⟩,
 ⟨some 47, (some (46, true)), .mv (.t 0)⟩,
 ⟨some 48, (some (46, true)), .mv (.t 3)⟩,
 ⟨some 49, (some (46, true)), .bin .sub (.t 48) (.c (.int .i64 1))⟩,
 ⟨some 50, (some (46, true)), .idxs 3 (.t 47) (.t 49)⟩,
 ⟨some 51, (some (46, true)), .fld 0 (.t 50)⟩,
 ⟨some 52, (some (46, true)), .load 1 false (.t 51)⟩,
 ⟨some 53, (some (46, true)), .fld 0 (.t 4)⟩,
 ⟨some 54, (some (46, true)), .load 1 false (.t 53)⟩,
 ⟨some 55, (some (46, true)), .bin .geq (.t 52) (.t 54)⟩,
 ⟨some 56, (some (43, false)), .pick (.t 46) (.t 55) (.c (.bool false))⟩,
 ⟨some 57, none, .pick (.t 43) (.c (.bool true)) (.t 56)⟩] [] ⟨true, [57, 3, 0], []⟩)
 (.cond (.t 57) (.seq (.ops [
 ⟨some 2, none, .mv (.c (.bool false))⟩] ⟨false, [], []⟩)
 .ret)
 .skip))) ⟨false, [], []⟩)
 (.ops [
 ⟨some 12, none, .mv (.t 3)⟩,
 ⟨some 13, none, .bin .add (.t 12) (.c (.int .i64 1))⟩,
 ⟨some 3, none, .mv (.t 13)⟩] ⟨false, [], []⟩)))
def w594_L0 : WCode := .loop ⟨true, [3, 0], []⟩ w594_B0
def w594 : WFn := ⟨1, [.tmp 2],
 (.seq (.ops [
 ⟨some 2, none, .mv (.c (.bool false))⟩] ⟨false, [], []⟩)
 (.seq (.seq (.ops [
 ⟨some 5, none, .mv (.t 0)⟩,
 ⟨some 6, none, .len 1 (.t 5)⟩,
 ⟨some 7, none, .bin .gtr (.t 6) (.c (.int .i64 8))⟩] ⟨false, [], []⟩)
 (.cond (.t 7) (.seq (.ops [
 ⟨some 2, none, .mv (.c (.bool false))⟩] ⟨false, [], []⟩)
 .ret)
 .skip))
 (.seq (.seq (.ops [
 ⟨some 3, none, .mv (.c (.int .i64 0))⟩] ⟨false, [], []⟩)
 (.block 0 w594_L0 ⟨true, [], []⟩))
 w594_c0)))⟩

@[simp] theorem w594_E0 {β : Type} {C : WProg} {b : Nat} {f : Ex × WSt → Option β} {k : List Pw.Frame} {s : WSt} : CK C b f k w594_L0 s = LK C b f (.sq w594_L0 :: k) w594_B0 (canon b ⟨true, [3, 0], []⟩ s) := ck_lp rfl
noncomputable abbrev w594_K0 (C : WProg) (s : WSt) : Option AV := CK C 0 (pureFin [.tmp 2]) [.sq w594_L0, .bk 0 ⟨true, [], []⟩, .sq w594_c0] w594_B0 s

/- paternoster/nodes.text -/
def w516 : WFn := ⟨1, [.tmp 2],
 (.seq (.ops [
 ⟨some 2, none, .mv (.c (.bool false))⟩] ⟨false, [], []⟩)
 (.seq (.ops [
 ⟨some 3, none, .mv (.t 0)⟩,
 ⟨some 4, none, .len 0 (.t 3)⟩,
 ⟨some 5, none, .bin .leq (.t 4) (.c (.int .i64 64))⟩,
 ⟨some 6, none, .mv (.t 5)⟩,
 ⟨some 7, (some (6, true)), .mv (.t 0)⟩,
 ⟨some 8, (some (6, true)), .call 543 [(.t 7), (.c (.fn 560 []))]⟩,
 ⟨some 9, (some (6, true)), .bin .lss (.t 8) (.c (.int .i64 0))⟩,
 ⟨some 10, none, .pick (.t 6) (.t 9) (.c (.bool false))⟩,
 ⟨some 2, none, .mv (.t 10)⟩] ⟨false, [], []⟩)
 .ret))⟩

/- paternoster/nodes.named -/
def w517_c0 : WCode := (.seq (.ops [
 ⟨some 2, none, .mv (.c (.bool true))⟩] ⟨false, [], []⟩)
 .ret)

def w517_B0 : WCode := (.seq (.ops [
 ⟨some 15, none, .bin .lss (.t 14) (.t 13)⟩] ⟨false, [], []⟩)
 (.seq (.cond (.t 15) .skip
 (.exit 0))
 (.seq (.block 1 (.seq (.ops [
 ⟨some 16, none, .mv (.t 14)⟩,
 ⟨some 3, none, .mv (.t 16)⟩] ⟨false, [], []⟩)
 (.seq (.ops [
 ⟨some 17, none, .mv (.t 0)⟩,
 ⟨some 18, none, .mv (.t 3)⟩,
 ⟨some 19, none, .idxstr (.t 17) (.t 18)⟩,
 ⟨some 20, none, .call 561 [(.t 19)]⟩,
 ⟨some 21, none, .un .not (.t 20)⟩] ⟨false, [], []⟩)
 (.cond (.t 21) (.seq (.ops [
 ⟨some 2, none, .mv (.c (.bool false))⟩] ⟨false, [], []⟩)
 .ret)
 .skip))) ⟨false, [], []⟩)
 (.ops [
 ⟨some 22, none, .bin .add (.t 14) (.c (.int .i64 1))⟩,
 ⟨some 14, none, .mv (.t 22)⟩] ⟨false, [], []⟩))))
def w517_L0 : WCode := .loop ⟨true, [14, 13, 0], []⟩ w517_B0
def w517 : WFn := ⟨1, [.tmp 2],
 (.seq (.ops [
 ⟨some 2, none, .mv (.c (.bool false))⟩] ⟨false, [], []⟩)
 (.seq (.seq (.ops [
 ⟨some 4, none, .mv (.t 0)⟩,
 ⟨some 5, none, .len 0 (.t 4)⟩,
 ⟨some 6, none, .bin .lss (.t 5) (.c (.int .i64 1))⟩,
 ⟨some 7, none, .mv (.t 6)⟩,
 ⟨some 8, (some (7, false)), .mv (.t 0)⟩,
 ⟨some 9, (some (7, false)), .len 0 (.t 8)⟩,
 ⟨some 10, (some (7, false)), .bin .gtr (.t 9) (.c (.int .i64 16))⟩,
 ⟨some 11, none, .pick (.t 7) (.c (.bool true)) (.t 10)⟩] ⟨true, [11, 0], []⟩)
 (.cond (.t 11) (.seq (.ops [
 ⟨some 2, none, .mv (.c (.bool false))⟩] ⟨false, [], []⟩)
 .ret)
 .skip))
 (.seq (.seq (.ops [
 ⟨some 12, none, .mv (.t 0)⟩,
 ⟨some 13, none, .len 0 (.t 12)⟩,
 ⟨some 14, none, .mv (.c (.int .i64 0))⟩] ⟨false, [], []⟩)
 (.block 0 w517_L0 ⟨true, [], []⟩))
 w517_c0)))⟩

@[simp] theorem w517_E0 {β : Type} {C : WProg} {b : Nat} {f : Ex × WSt → Option β} {k : List Pw.Frame} {s : WSt} : CK C b f k w517_L0 s = LK C b f (.sq w517_L0 :: k) w517_B0 (canon b ⟨true, [14, 13, 0], []⟩ s) := ck_lp rfl
noncomputable abbrev w517_K0 (C : WProg) (s : WSt) : Option AV := CK C 0 (pureFin [.tmp 2]) [.sq w517_L0, .bk 0 ⟨true, [], []⟩, .sq w517_c0] w517_B0 s

/- slices.ContainsFunc[[]paternoster/api.Node,paternoster/api.Node] -/
def w518 : WFn := ⟨2, [.tmp 4],
 (.seq (.ops [
 ⟨some 4, none, .mv (.c (.bool false))⟩] ⟨false, [], []⟩)
 (.seq (.ops [
 ⟨some 5, none, .mv (.t 0)⟩,
 ⟨some 6, none, .mv (.t 1)⟩,
 ⟨some 7, none, .call 562 [(.t 5), (.t 6)]⟩,
 ⟨some 8, none, .bin .geq (.t 7) (.c (.int .i64 0))⟩,
 ⟨some 4, none, .mv (.t 8)⟩] ⟨false, [], []⟩)
 .ret))⟩

/- paternoster/nodes.alone$1 -/
def w519 : WFn := ⟨2, [.tmp 3],
 (.seq (.ops [
 ⟨some 2, none, .box (.t 0)⟩,
 ⟨some 3, none, .mv (.c (.bool false))⟩] ⟨false, [], []⟩)
 (.seq (.ops [
 ⟨some 4, none, .fld 2 (.t 2)⟩,
 ⟨some 5, none, .load 1 false (.t 4)⟩,
 ⟨some 6, none, .fld 2 (.t 1)⟩,
 ⟨some 7, none, .load 1 false (.t 6)⟩,
 ⟨some 8, none, .bin .eql (.t 5) (.t 7)⟩,
 ⟨some 3, none, .mv (.t 8)⟩] ⟨false, [], []⟩)
 .ret))⟩

/- paternoster/nodes.text$1 -/
def w560 : WFn := ⟨1, [.tmp 2],
 (.seq (.ops [
 ⟨some 2, none, .mv (.c (.bool false))⟩] ⟨false, [], []⟩)
 (.seq (.ops [
 ⟨some 3, none, .mv (.t 0)⟩,
 ⟨some 4, none, .bin .lss (.t 3) (.c (.int .i32 32))⟩,
 ⟨some 5, none, .mv (.t 4)⟩,
 ⟨some 6, (some (5, false)), .mv (.t 0)⟩,
 ⟨some 7, (some (5, false)), .bin .gtr (.t 6) (.c (.int .i32 126))⟩,
 ⟨some 8, none, .pick (.t 5) (.c (.bool true)) (.t 7)⟩,
 ⟨some 2, none, .mv (.t 8)⟩] ⟨false, [], []⟩)
 .ret))⟩

/- paternoster/nodes.inName -/
def w561 : WFn := ⟨1, [.tmp 2],
 (.seq (.ops [
 ⟨some 2, none, .mv (.c (.bool false))⟩] ⟨false, [], []⟩)
 (.seq (.ops [
 ⟨some 3, none, .mv (.t 0)⟩,
 ⟨some 4, none, .bin .geq (.t 3) (.c (.int .u8 97))⟩,
 ⟨some 5, none, .mv (.t 4)⟩,
 ⟨some 6, (some (5, true)), .mv (.t 0)⟩,
 ⟨some 7, (some (5, true)), .bin .leq (.t 6) (.c (.int .u8 122))⟩,
 ⟨some 8, none, .pick (.t 5) (.t 7) (.c (.bool false))⟩,
 ⟨some 9, none, .mv (.t 8)⟩,
 ⟨some 10, (some (9, false)), .mv (.t 0)⟩,
 ⟨some 11, (some (9, false)), .bin .geq (.t 10) (.c (.int .u8 48))⟩,
 ⟨some 12, (some (9, false)), .mv (.t 11)⟩,
 ⟨some 13, (some (12, true)), .mv (.t 0)⟩,
 ⟨some 14, (some (12, true)), .bin .leq (.t 13) (.c (.int .u8 57))⟩,
 ⟨some 15, (some (9, false)), .pick (.t 12) (.t 14) (.c (.bool false))⟩,
 ⟨some 16, none, .pick (.t 9) (.c (.bool true)) (.t 15)⟩,
 ⟨some 2, none, .mv (.t 16)⟩] ⟨false, [], []⟩)
 .ret))⟩

/- slices.IndexFunc[[]paternoster/api.Node,paternoster/api.Node] -/
def w562_c0 : WCode := (.seq (.ops [
 ⟨some 4, none, .mv (.c (.int .i64 (-1)))⟩] ⟨false, [], []⟩)
 .ret)

def w562_B0 : WCode := (.seq (.ops [
 ⟨some 9, none, .bin .lss (.t 8) (.t 7)⟩] ⟨false, [], []⟩)
 (.seq (.cond (.t 9) .skip
 (.exit 0))
 (.seq (.block 1 (.seq (.ops [
 ⟨some 10, none, .mv (.t 8)⟩,
 ⟨some 5, none, .mv (.t 10)⟩] ⟨false, [], []⟩)
 (.seq (.ops [
 ⟨some 11, none, .mv (.t 1)⟩,
 ⟨some 12, none, .mv (.t 0)⟩,
 ⟨some 13, none, .mv (.t 5)⟩,
 ⟨some 14, none, .idxs 6 (.t 12) (.t 13)⟩,
 ⟨some 15, none, .load 6 true (.t 14)⟩,
 ⟨some 16, none, .callv (.t 11) [(.t 15)]⟩] ⟨false, [], []⟩)
 (.cond (.t 16) (.seq (.ops [
 ⟨some 17, none, .mv (.t 5)⟩,
 ⟨some 4, none, .mv (.t 17)⟩] ⟨false, [], []⟩)
 .ret)
 .skip))) ⟨false, [], []⟩)
 (.ops [
 ⟨some 18, none, .bin .add (.t 8) (.c (.int .i64 1))⟩,
 ⟨some 8, none, .mv (.t 18)⟩] ⟨false, [], []⟩))))
def w562_L0 : WCode := .loop ⟨true, [8, 7, 1, 0], []⟩ w562_B0
def w562 : WFn := ⟨2, [.tmp 4],
 (.seq (.ops [
 ⟨some 4, none, .mv (.c (.int .i64 0))⟩] ⟨false, [], []⟩)
 (.seq (.seq (.ops [
 ⟨some 6, none, .mv (.t 0)⟩,
 ⟨some 7, none, .len 1 (.t 6)⟩,
 ⟨some 8, none, .mv (.c (.int .i64 0))⟩] ⟨false, [], []⟩)
 (.block 0 w562_L0 ⟨true, [], []⟩))
 w562_c0))⟩

@[simp] theorem w562_E0 {β : Type} {C : WProg} {b : Nat} {f : Ex × WSt → Option β} {k : List Pw.Frame} {s : WSt} : CK C b f k w562_L0 s = LK C b f (.sq w562_L0 :: k) w562_B0 (canon b ⟨true, [8, 7, 1, 0], []⟩ s) := ck_lp rfl
noncomputable abbrev w562_K0 (C : WProg) (s : WSt) : Option AV := CK C 0 (pureFin [.tmp 4]) [.sq w562_L0, .bk 0 ⟨true, [], []⟩, .sq w562_c0] w562_B0 s

def tree : WTree := (.node (.node (.node (.node (.node (.node (.node .leaf 107 w107 .leaf) 108 w108 (.node .leaf 109 w109 .leaf)) 110 w110 (.node (.node .leaf 111 w111 .leaf) 112 w112 (.node .leaf 113 w113 .leaf))) 114 w114 (.node (.node (.node .leaf 115 w115 .leaf) 116 w116 (.node .leaf 119 w119 .leaf)) 126 w126 (.node (.node .leaf 130 w130 .leaf) 140 w140 (.node .leaf 172 w172 .leaf)))) 216 w216 (.node (.node (.node (.node .leaf 217 w217 .leaf) 218 w218 (.node .leaf 219 w219 .leaf)) 220 w220 (.node (.node .leaf 221 w221 .leaf) 222 w222 (.node .leaf 223 w223 .leaf))) 224 w224 (.node (.node (.node .leaf 225 w225 .leaf) 226 w226 (.node .leaf 227 w227 .leaf)) 228 w228 (.node (.node .leaf 229 w229 .leaf) 230 w230 (.node .leaf 231 w231 .leaf))))) 232 w232 (.node (.node (.node (.node (.node .leaf 233 w233 .leaf) 234 w234 (.node .leaf 235 w235 .leaf)) 236 w236 (.node (.node .leaf 237 w237 .leaf) 238 w238 (.node .leaf 239 w239 .leaf))) 240 w240 (.node (.node (.node .leaf 241 w241 .leaf) 242 w242 (.node .leaf 243 w243 .leaf)) 244 w244 (.node (.node .leaf 245 w245 .leaf) 270 w270 (.node .leaf 271 w271 .leaf)))) 282 w282 (.node (.node (.node (.node .leaf 340 w340 .leaf) 398 w398 (.node .leaf 399 w399 .leaf)) 400 w400 (.node (.node .leaf 401 w401 .leaf) 402 w402 (.node .leaf 403 w403 .leaf))) 404 w404 (.node (.node (.node .leaf 405 w405 .leaf) 406 w406 (.node .leaf 407 w407 .leaf)) 408 w408 (.node (.node .leaf 409 w409 .leaf) 410 w410 .leaf))))) 422 w422 (.node (.node (.node (.node (.node (.node .leaf 423 w423 .leaf) 424 w424 (.node .leaf 425 w425 .leaf)) 433 w433 (.node (.node .leaf 434 w434 .leaf) 439 w439 (.node .leaf 441 w441 .leaf))) 442 w442 (.node (.node (.node .leaf 459 w459 .leaf) 460 w460 (.node .leaf 494 w494 .leaf)) 495 w495 (.node (.node .leaf 496 w496 .leaf) 497 w497 (.node .leaf 498 w498 .leaf)))) 499 w499 (.node (.node (.node (.node .leaf 500 w500 .leaf) 501 w501 (.node .leaf 502 w502 .leaf)) 503 w503 (.node (.node .leaf 504 w504 .leaf) 505 w505 (.node .leaf 510 w510 .leaf))) 511 w511 (.node (.node (.node .leaf 512 w512 .leaf) 513 w513 (.node .leaf 516 w516 .leaf)) 517 w517 (.node (.node .leaf 518 w518 .leaf) 519 w519 .leaf)))) 520 w520 (.node (.node (.node (.node (.node .leaf 532 w532 .leaf) 543 w543 (.node .leaf 544 w544 .leaf)) 545 w545 (.node (.node .leaf 546 w546 .leaf) 547 w547 (.node .leaf 548 w548 .leaf))) 549 w549 (.node (.node (.node .leaf 550 w550 .leaf) 556 w556 (.node .leaf 557 w557 .leaf)) 558 w558 (.node (.node .leaf 559 w559 .leaf) 560 w560 (.node .leaf 561 w561 .leaf)))) 562 w562 (.node (.node (.node (.node .leaf 563 w563 .leaf) 578 w578 (.node .leaf 579 w579 .leaf)) 580 w580 (.node (.node .leaf 581 w581 .leaf) 582 w582 (.node .leaf 583 w583 .leaf))) 584 w584 (.node (.node (.node .leaf 585 w585 .leaf) 586 w586 (.node .leaf 592 w592 .leaf)) 593 w593 (.node (.node .leaf 594 w594 .leaf) 2001 w226 .leaf))))))

/- own number, number in the dump -/
def ids : List (Nat × Nat) := [(107, 34), (108, 16), (109, 13), (110, 20), (111, 35), (112, 36), (113, 26), (114, 24), (115, 31), (116, 7), (119, 10), (126, 39), (130, 11), (140, 100), (172, 17), (216, 44), (217, 46), (218, 49), (219, 45), (220, 47), (221, 48), (222, 52), (223, 27), (224, 56), (225, 57), (226, 58), (227, 59), (228, 54), (229, 55), (230, 62), (231, 63), (232, 64), (233, 30), (234, 9), (235, 18), (236, 32), (237, 22), (238, 33), (239, 28), (240, 29), (241, 19), (242, 21), (243, 14), (244, 37), (245, 38), (270, 40), (271, 41), (282, 116), (340, 75), (398, 60), (399, 61), (400, 71), (401, 72), (402, 73), (403, 74), (404, 84), (405, 85), (406, 50), (407, 43), (408, 65), (409, 53), (410, 51), (422, 66), (423, 67), (424, 68), (425, 69), (433, 124), (434, 125), (439, 121), (441, 91), (442, 92), (459, 93), (460, 94), (494, 76), (495, 77), (496, 78), (497, 79), (498, 80), (499, 81), (500, 82), (501, 83), (502, 101), (503, 102), (504, 70), (505, 86), (510, 87), (511, 88), (512, 89), (513, 90), (516, 128), (517, 129), (518, 130), (519, 131), (520, 108), (532, 42), (543, 95), (544, 96), (545, 97), (546, 98), (547, 99), (548, 117), (549, 118), (550, 103), (556, 104), (557, 105), (558, 106), (559, 107), (560, 132), (561, 133), (562, 134), (563, 120), (578, 109), (579, 110), (580, 111), (581, 112), (582, 113), (583, 114), (584, 115), (585, 126), (586, 119), (592, 122), (593, 123), (594, 127), (2001, 58)]

def alts : List (Nat × Nat × Nat) := [(113, 58, 2001)]

end P
end

