/- Part of the theory that the claims of this work use: PwP09, PavLink, L09, PwLib, C09, C09b, C09c, C09d, C09e, C09f, C09g, C09h, C09i. No conditions of its own. -/
import Derived.Test.YtnnhhhkiehenfaaT3
import Derived.Test.YtnnhhhkiehenfaaChecked
import Derived.KernelRfl
section
set_option linter.unusedSimpArgs false
set_option linter.unusedVariables false
set_option maxRecDepth 100000
namespace P09
open Go Go.Pav Go.Pw

/- gosem.cut.init -/
def w0 : WFn := ⟨0, [],
 (.ops [
   ⟨(some 0), none, .fail⟩] ⟨false, [], []⟩)⟩

/- paternoster/paternosterlaw09.RemapsCheck -/
def w43 : WFn := ⟨2, [.tmp 4],
 (.seq (.ops [
    ⟨(some 2), none, (.box (.t 0))⟩,
    ⟨(some 4), none, (.mv (.c (.bool false)))⟩] ⟨false, [], []⟩)
  (.seq (.seq (.ops [
     ⟨(some 20), none, (.fld 1 (.t 2))⟩,
     ⟨(some 21), none, (.load 1 false (.t 20))⟩,
     ⟨(some 22), none, (.len 1 (.t 21))⟩,
     ⟨(some 23), none, (.bin .gtr (.t 22) (.c (.int .i64 60)))⟩] ⟨true, [23, 2, 1], []⟩)
   (.cond (.t 23) (.seq (.ops [
       ⟨(some 24), none, (.call 49 [])⟩,
       ⟨(some 4), none, (.mv (.t 24))⟩] ⟨false, [], []⟩)
     .ret)
    .skip))
  (.seq (.ops [
    ⟨(some 25), none, (.fld 0 (.t 2))⟩,
    ⟨(some 26), none, (.load 1 false (.t 25))⟩,
    ⟨(some 27), none, (.fld 1 (.t 2))⟩,
    ⟨(some 28), none, (.load 1 false (.t 27))⟩,
    ⟨(some 29), none, (.call 50 [(.t 26), (.t 28)])⟩,
    ⟨(some 5), none, (.mv (.t 29))⟩] ⟨false, [], []⟩)
  (.seq (.ops [
    ⟨(some 30), none, (.call 51 [(.c (.int .i64 0)), (.c (.ro 1 [] true))])⟩,
    ⟨(some 6), none, (.alloc [(.int .i64 0), (.ro 1 [] true)])⟩,
    ⟨none, none, (.store 2 (.t 6) (.t 30))⟩] ⟨false, [], []⟩)
  (.seq (.ops [
    ⟨(some 32), none, (.load 2 true (.t 2))⟩,
    ⟨(some 33), none, (.load 2 true (.t 6))⟩,
    ⟨(some 34), none, (.call 52 [(.t 32), (.t 33)])⟩,
    ⟨(some 31), none, (.mv (.t 34))⟩,
    ⟨(some 35), none, (.ext 0 (.t 31))⟩,
    ⟨(some 36), none, (.ext 1 (.t 31))⟩,
    ⟨(some 7), none, (.alloc [(.int .i64 0), (.ro 1 [] true)])⟩,
    ⟨none, none, (.store 2 (.t 7) (.t 35))⟩,
    ⟨(some 8), none, (.mv (.t 36))⟩] ⟨false, [], []⟩)
  (.seq (.ops [
    ⟨(some 38), none, (.load 2 true (.t 6))⟩,
    ⟨(some 39), none, (.load 2 true (.t 2))⟩,
    ⟨(some 40), none, (.call 52 [(.t 38), (.t 39)])⟩,
    ⟨(some 37), none, (.mv (.t 40))⟩,
    ⟨(some 41), none, (.ext 0 (.t 37))⟩,
    ⟨(some 42), none, (.ext 1 (.t 37))⟩,
    ⟨(some 9), none, (.alloc [(.int .i64 0), (.ro 1 [] true)])⟩,
    ⟨none, none, (.store 2 (.t 9) (.t 41))⟩,
    ⟨(some 10), none, (.mv (.t 42))⟩] ⟨true, [10, 9, 8, 7, 5, 2, 1], []⟩)
  (.seq (.ops [
    ⟨(some 44), none, (.load 2 true (.t 2))⟩,
    ⟨(some 45), none, (.call 53 [(.t 44)])⟩,
    ⟨(some 43), none, (.mv (.t 45))⟩,
    ⟨(some 46), none, (.ext 0 (.t 43))⟩,
    ⟨(some 47), none, (.ext 1 (.t 43))⟩,
    ⟨(some 11), none, (.alloc [(.int .i64 0), (.ro 1 [] true)])⟩,
    ⟨none, none, (.store 2 (.t 11) (.t 46))⟩,
    ⟨(some 12), none, (.mv (.t 47))⟩] ⟨false, [], []⟩)
  (.seq (.ops [
    ⟨(some 49), none, (.load 2 true (.t 2))⟩,
    ⟨(some 50), none, (.mv (.t 1))⟩,
    ⟨(some 51), none, (.call 54 [(.t 49), (.t 50)])⟩,
    ⟨(some 48), none, (.mv (.t 51))⟩,
    ⟨(some 52), none, (.ext 0 (.t 48))⟩,
    ⟨(some 53), none, (.ext 1 (.t 48))⟩,
    ⟨(some 13), none, (.mv (.t 52))⟩,
    ⟨(some 14), none, (.mv (.t 53))⟩] ⟨false, [], []⟩)
  (.seq (.ops [
    ⟨(some 55), none, (.load 2 true (.t 2))⟩,
    ⟨(some 56), none, (.call 55 [(.t 55)])⟩,
    ⟨(some 54), none, (.mv (.t 56))⟩,
    ⟨(some 57), none, (.ext 0 (.t 54))⟩,
    ⟨(some 58), none, (.ext 1 (.t 54))⟩,
    ⟨(some 15), none, (.mv (.t 57))⟩,
    ⟨(some 16), none, (.mv (.t 58))⟩] ⟨false, [], []⟩)
  (.seq (.seq (.ops [
     ⟨(some 59), none, (.load 2 true (.t 2))⟩,
     ⟨(some 60), none, (.call 56 [(.t 59)])⟩,
     ⟨(some 61), none, (.mv (.t 5))⟩,
     ⟨(some 62), none, (.bin .neq (.t 60) (.t 61))⟩,
     ⟨(some 63), none, (.mv (.t 62))⟩,
     ⟨(some 64), (some (63, false)), (.mv (.t 12))⟩,
     ⟨(some 65), (some (63, false)), (.mv (.t 5))⟩,
     ⟨(some 66), (some (63, false)), (.bin .neq (.t 64) (.t 65))⟩,
     ⟨(some 67), none, (.pick (.t 63) (.c (.bool true)) (.t 66))⟩,
     ⟨(some 68), none, (.mv (.t 67))⟩,
     ⟨(some 69), (some (68, false)), (.mv (.t 16))⟩,
     ⟨(some 70), (some (68, false)), (.mv (.t 5))⟩,
     ⟨(some 71), (some (68, false)), (.bin .neq (.t 69) (.t 70))⟩,
     ⟨(some 72), none, (.pick (.t 68) (.c (.bool true)) (.t 71))⟩] ⟨true, [72, 16, 15, 14, 13, 12, 11, 10, 9, 8, 7, 5, 2, 1], []⟩)
   (.cond (.t 72) (.seq (.ops [
       ⟨(some 4), none, (.mv (.c (.bool false)))⟩] ⟨false, [], []⟩)
     .ret)
    .skip))
  (.seq (.seq (.ops [
     ⟨(some 73), none, (.mv (.t 5))⟩,
     ⟨(some 74), none, (.bin .neq (.t 73) (.c (.int .i64 0)))⟩] ⟨false, [], []⟩)
   (.cond (.t 74) (.seq (.ops [
       ⟨(some 76), none, (.load 2 true (.t 2))⟩,
       ⟨(some 77), none, (.buildS [(.int .i64 0)] 1 [(0, (.c (.int .i64 1)))])⟩,
       ⟨(some 78), none, (.call 57 [(.t 76), (.t 77)])⟩,
       ⟨(some 75), none, (.mv (.t 78))⟩,
       ⟨(some 79), none, (.ext 0 (.t 75))⟩,
       ⟨(some 80), none, (.ext 1 (.t 75))⟩,
       ⟨(some 17), none, (.mv (.t 79))⟩,
       ⟨(some 18), none, (.mv (.t 80))⟩] ⟨false, [], []⟩)
     (.seq (.ops [
       ⟨(some 81), none, (.load 2 true (.t 7))⟩,
       ⟨(some 82), none, (.mv (.t 8))⟩,
       ⟨(some 83), none, (.mv (.t 5))⟩,
       ⟨(some 84), none, (.call 58 [(.t 81), (.t 82), (.c (.int .i64 0)), (.c (.ro 1 [] true)), (.t 83)])⟩,
       ⟨(some 85), none, (.mv (.t 84))⟩,
       ⟨(some 86), (some (85, true)), (.load 2 true (.t 9))⟩,
       ⟨(some 87), (some (85, true)), (.mv (.t 10))⟩,
       ⟨(some 88), (some (85, true)), (.mv (.t 5))⟩,
       ⟨(some 89), (some (85, true)), (.call 58 [(.t 86), (.t 87), (.c (.int .i64 0)), (.c (.ro 1 [] true)), (.t 88)])⟩,
       ⟨(some 90), none, (.pick (.t 85) (.t 89) (.c (.bool false)))⟩,
       ⟨(some 91), none, (.mv (.t 90))⟩,
       ⟨(some 92), (some (91, true)), (.load 2 true (.t 11))⟩,
       ⟨(some 93), (some (91, true)), (.mv (.t 12))⟩,
       ⟨(some 94), (some (91, true)), (.mv (.t 5))⟩,
       ⟨(some 95), (some (91, true)), (.call 58 [(.t 92), (.t 93), (.c (.int .i64 0)), (.c (.ro 1 [] true)), (.t 94)])⟩,
       ⟨(some 96), none, (.pick (.t 91) (.t 95) (.c (.bool false)))⟩,
       ⟨(some 97), none, (.mv (.t 96))⟩,
       ⟨(some 98), (some (97, true)), (.mv (.t 13))⟩,
       ⟨(some 99), (some (97, true)), (.bin .eql (.t 98) (.c (.int .i64 0)))⟩,
       ⟨(some 100), none, (.pick (.t 97) (.t 99) (.c (.bool false)))⟩,
       ⟨(some 101), none, (.mv (.t 100))⟩,
       ⟨(some 102), (some (101, true)), (.mv (.t 14))⟩,
       ⟨(some 103), (some (101, true)), (.mv (.t 5))⟩,
       ⟨(some 104), (some (101, true)), (.bin .eql (.t 102) (.t 103))⟩,
       ⟨(some 105), none, (.pick (.t 101) (.t 104) (.c (.bool false)))⟩,
       ⟨(some 106), none, (.mv (.t 105))⟩,
       ⟨(some 107), (some (106, true)), (.mv (.t 15))⟩,
       ⟨(some 108), (some (106, true)), (.mv (.t 16))⟩,
       ⟨(some 109), (some (106, true)), (.mv (.t 5))⟩,
       ⟨(some 110), (some (106, true)), (.call 59 [(.t 107), (.t 108), (.c (.ro 1 [] true)), (.t 109)])⟩,
       ⟨(some 111), none, (.pick (.t 106) (.t 110) (.c (.bool false)))⟩,
       ⟨(some 112), none, (.mv (.t 111))⟩,
       ⟨(some 113), (some (112, true)), (.mv (.t 17))⟩,
       ⟨(some 114), (some (112, true)), (.mv (.t 18))⟩,
       ⟨(some 115), (some (112, true)), (.mv (.t 5))⟩,
       ⟨(some 116), (some (112, true)), (.call 59 [(.t 113), (.t 114), (.c (.ro 1 [] true)), (.t 115)])⟩,
       ⟨(some 117), none, (.pick (.t 112) (.t 116) (.c (.bool false)))⟩,
       ⟨(some 118), none, (.mv (.t 117))⟩,
       ⟨(some 119), (some (118, true)), (.call 49 [])⟩,
       ⟨(some 120), none, (.pick (.t 118) (.t 119) (.c (.bool false)))⟩,
       ⟨(some 4), none, (.mv (.t 120))⟩] ⟨true, [4], []⟩)
     .ret))
    .skip))
  (.seq (.seq (.ops [
     ⟨(some 121), none, (.mv (.t 8))⟩,
     ⟨(some 122), none, (.bin .eql (.t 121) (.c (.int .i64 0)))⟩,
     ⟨(some 123), none, (.fld 1 (.t 2))⟩,
     ⟨(some 124), none, (.load 1 false (.t 123))⟩,
     ⟨(some 125), none, (.len 1 (.t 124))⟩,
     ⟨(some 126), none, (.bin .eql (.t 125) (.c (.int .i64 0)))⟩,
     ⟨(some 127), none, (.eqv 5 [] true (.t 122) (.t 126))⟩,
     ⟨(some 128), none, (.mv (.t 127))⟩,
     ⟨(some 129), (some (128, false)), (.mv (.t 8))⟩,
     ⟨(some 130), (some (128, false)), (.bin .neq (.t 129) (.c (.int .i64 0)))⟩,
     ⟨(some 131), (some (128, false)), (.mv (.t 130))⟩,
     ⟨(some 132), (some (131, true)), (.mv (.t 8))⟩,
     ⟨(some 133), (some (131, true)), (.bin .neq (.t 132) (.c (.int .i64 16)))⟩,
     ⟨(some 134), (some (128, false)), (.pick (.t 131) (.t 133) (.c (.bool false)))⟩,
     ⟨(some 135), none, (.pick (.t 128) (.c (.bool true)) (.t 134))⟩,
     ⟨(some 136), none, (.mv (.t 135))⟩,
     ⟨(some 137), (some (136, false)), (.mv (.t 10))⟩,
     ⟨(some 138), (some (136, false)), (.bin .eql (.t 137) (.c (.int .i64 0)))⟩,
     ⟨(some 139), (some (136, false)), (.fld 0 (.t 2))⟩,
     ⟨(some 140), (some (136, false)), (.load 1 false (.t 139))⟩,
     ⟨(some 141), (some (136, false)), (.bin .eql (.t 140) (.c (.int .i64 0)))⟩,
     ⟨(some 142), (some (136, false)), (.eqv 5 [] true (.t 138) (.t 141))⟩,
     ⟨(some 143), none, (.pick (.t 136) (.c (.bool true)) (.t 142))⟩,
     ⟨(some 144), none, (.mv (.t 143))⟩,
     ⟨(some 145), (some (144, false)), (.mv (.t 10))⟩,
     ⟨(some 146), (some (144, false)), (.bin .neq (.t 145) (.c (.int .i64 0)))⟩,
     ⟨(some 147), (some (144, false)), (.mv (.t 146))⟩,
     ⟨(some 148), (some (147, true)), (.mv (.t 10))⟩,
     ⟨(some 149), (some (147, true)), (.bin .neq (.t 148) (.c (.int .i64 16)))⟩,
     ⟨(some 150), (some (144, false)), (.pick (.t 147) (.t 149) (.c (.bool false)))⟩,
     ⟨(some 151), none, (.pick (.t 144) (.c (.bool true)) (.t 150))⟩,
     ⟨(some 152), none, (.mv (.t 151))⟩,
     ⟨(some 153), (some (152, false)), (.mv (.t 15))⟩,
     ⟨(some 154), (some (152, false)), (.len 1 (.t 153))⟩,
     ⟨(some 155), (some (152, false)), (.fld 1 (.t 2))⟩,
     ⟨(some 156), (some (152, false)), (.load 1 false (.t 155))⟩,
     ⟨(some 157), (some (152, false)), (.len 1 (.t 156))⟩,
     ⟨(some 158), (some (152, false)), (.bin .add (.t 154) (.t 157))⟩,
     ⟨(some 159), (some (152, false)), (.fld 0 (.t 2))⟩,
     ⟨(some 160), (some (152, false)), (.load 1 false (.t 159))⟩,
     ⟨(some 161), (some (152, false)), (.bin .lss (.t 158) (.t 160))⟩,
     ⟨(some 162), none, (.pick (.t 152) (.c (.bool true)) (.t 161))⟩] ⟨true, [162, 14, 13, 2, 1], []⟩)
   (.cond (.t 162) (.seq (.ops [
       ⟨(some 4), none, (.mv (.c (.bool false)))⟩] ⟨false, [], []⟩)
     .ret)
    .skip))
  (.seq (.ops [
    ⟨(some 163), none, (.fld 1 (.t 2))⟩,
    ⟨(some 164), none, (.load 1 false (.t 163))⟩,
    ⟨(some 165), none, (.mv (.t 1))⟩,
    ⟨(some 166), none, (.call 60 [(.t 164), (.t 165)])⟩,
    ⟨(some 19), none, (.mv (.t 166))⟩] ⟨false, [], []⟩)
  (.seq (.block 0 (.seq (.ops [
      ⟨(some 168), none, (.mv (.t 1))⟩,
      ⟨(some 169), none, (.bin .lss (.t 168) (.c (.int .i64 0)))⟩,
      ⟨(some 170), none, (.mv (.t 169))⟩,
      ⟨(some 171), (some (170, false)), (.mv (.t 1))⟩,
      ⟨(some 172), (some (170, false)), (.fld 0 (.t 2))⟩,
      ⟨(some 173), (some (170, false)), (.load 1 false (.t 172))⟩,
      ⟨(some 174), (some (170, false)), (.bin .geq (.t 171) (.t 173))⟩,
      ⟨(some 175), none, (.pick (.t 170) (.c (.bool true)) (.t 174))⟩,
      ⟨(some 167), none, (.mv (.t 175))⟩] ⟨false, [], []⟩)
    (.cond (.t 167) (.seq (.ops [
        ⟨(some 176), none, (.mv (.t 13))⟩,
        ⟨(some 177), none, (.bin .eql (.t 176) (.c (.int .i64 0)))⟩,
        ⟨(some 178), none, (.mv (.t 177))⟩,
        ⟨(some 179), (some (178, true)), (.mv (.t 14))⟩,
        ⟨(some 180), (some (178, true)), (.bin .eql (.t 179) (.c (.int .i64 4)))⟩,
        ⟨(some 181), none, (.pick (.t 178) (.t 180) (.c (.bool false)))⟩,
        ⟨(some 182), none, (.mv (.t 181))⟩,
        ⟨(some 183), (some (182, true)), (.call 49 [])⟩,
        ⟨(some 184), none, (.pick (.t 182) (.t 183) (.c (.bool false)))⟩,
        ⟨(some 4), none, (.mv (.t 184))⟩] ⟨false, [], []⟩)
      .ret)
     (.seq (.ops [
        ⟨(some 186), none, (.mv (.t 19))⟩,
        ⟨(some 187), none, (.bin .lss (.t 186) (.c (.int .i64 0)))⟩,
        ⟨(some 185), none, (.mv (.t 187))⟩] ⟨false, [], []⟩)
      (.cond (.t 185) (.seq (.ops [
          ⟨(some 188), none, (.mv (.t 13))⟩,
          ⟨(some 189), none, (.bin .eql (.t 188) (.c (.int .i64 0)))⟩,
          ⟨(some 190), none, (.mv (.t 189))⟩,
          ⟨(some 191), (some (190, true)), (.mv (.t 14))⟩,
          ⟨(some 192), (some (190, true)), (.bin .eql (.t 191) (.c (.int .i64 11)))⟩,
          ⟨(some 193), none, (.pick (.t 190) (.t 192) (.c (.bool false)))⟩,
          ⟨(some 194), none, (.mv (.t 193))⟩,
          ⟨(some 195), (some (194, true)), (.call 49 [])⟩,
          ⟨(some 196), none, (.pick (.t 194) (.t 195) (.c (.bool false)))⟩,
          ⟨(some 4), none, (.mv (.t 196))⟩] ⟨true, [4], []⟩)
        .ret)
       .skip)))) ⟨false, [], []⟩)
  (.seq (.ops [
    ⟨(some 197), none, (.mv (.t 13))⟩,
    ⟨(some 198), none, (.mv (.t 19))⟩,
    ⟨(some 199), none, (.bin .eql (.t 197) (.t 198))⟩,
    ⟨(some 200), none, (.mv (.t 199))⟩,
    ⟨(some 201), (some (200, true)), (.mv (.t 14))⟩,
    ⟨(some 202), (some (200, true)), (.bin .eql (.t 201) (.c (.int .i64 0)))⟩,
    ⟨(some 203), none, (.pick (.t 200) (.t 202) (.c (.bool false)))⟩,
    ⟨(some 204), none, (.mv (.t 203))⟩,
    ⟨(some 205), (some (204, true)), (.call 49 [])⟩,
    ⟨(some 206), none, (.pick (.t 204) (.t 205) (.c (.bool false)))⟩,
    ⟨(some 4), none, (.mv (.t 206))⟩] ⟨false, [], []⟩)
  .ret)))))))))))))))⟩

/- paternoster/paternosterlaw09.RemapsInvert -/
def w44_c0 : WCode := (.seq (.seq (.ops [
     ⟨(some 76), none, (.load 2 true (.t 6))⟩,
     ⟨(some 77), none, (.mv (.t 7))⟩,
     ⟨(some 78), none, (.fld 1 (.t 5))⟩,
     ⟨(some 79), none, (.load 1 false (.t 78))⟩,
     ⟨(some 80), none, (.len 1 (.t 79))⟩,
     ⟨(some 81), none, (.mv (.t 10))⟩,
     ⟨(some 82), none, (.call 58 [(.t 76), (.t 77), (.t 80), (.t 81), (.c (.int .i64 0))])⟩,
     ⟨(some 83), none, (.un .not (.t 82))⟩,
     ⟨(some 84), none, (.mv (.t 83))⟩,
     ⟨(some 85), (some (84, false)), (.mv (.t 8))⟩,
     ⟨(some 86), (some (84, false)), (.mv (.t 9))⟩,
     ⟨(some 87), (some (84, false)), (.mv (.t 11))⟩,
     ⟨(some 88), (some (84, false)), (.call 59 [(.t 85), (.t 86), (.t 87), (.c (.int .i64 0))])⟩,
     ⟨(some 89), (some (84, false)), (.un .not (.t 88))⟩,
     ⟨(some 90), none, (.pick (.t 84) (.c (.bool true)) (.t 89))⟩] ⟨true, [90, 5, 3], []⟩)
   (.cond (.t 90) (.seq (.ops [
       ⟨(some 4), none, (.mv (.c (.bool false)))⟩] ⟨false, [], []⟩)
     .ret)
    .skip))
  (.seq (.ops [
    ⟨(some 91), none, (.idxa 3 1 (.t 3) (.c (.int .i64 0)))⟩,
    ⟨(some 92), none, (.load 1 false (.t 91))⟩,
    ⟨(some 93), none, (.cvt .i64 (.t 92))⟩,
    ⟨(some 94), none, (.fld 0 (.t 5))⟩,
    ⟨(some 95), none, (.load 1 false (.t 94))⟩,
    ⟨(some 96), none, (.bin .add (.t 95) (.c (.int .i64 1)))⟩,
    ⟨(some 97), none, (.bin .rem (.t 93) (.t 96))⟩,
    ⟨(some 16), none, (.mv (.t 97))⟩] ⟨false, [], []⟩)
  (.seq (.ops [
    ⟨(some 98), none, (.idxa 3 1 (.t 3) (.c (.int .i64 1)))⟩,
    ⟨(some 99), none, (.load 1 false (.t 98))⟩,
    ⟨(some 100), none, (.cvt .i64 (.t 99))⟩,
    ⟨(some 101), none, (.fld 0 (.t 5))⟩,
    ⟨(some 102), none, (.load 1 false (.t 101))⟩,
    ⟨(some 103), none, (.mv (.t 16))⟩,
    ⟨(some 104), none, (.bin .sub (.t 102) (.t 103))⟩,
    ⟨(some 105), none, (.bin .add (.t 104) (.c (.int .i64 1)))⟩,
    ⟨(some 106), none, (.bin .rem (.t 100) (.t 105))⟩,
    ⟨(some 17), none, (.mv (.t 106))⟩] ⟨true, [17, 16, 5, 3], []⟩)
  (.seq (.ops [
    ⟨(some 107), none, (.idxa 3 1 (.t 3) (.c (.int .i64 2)))⟩,
    ⟨(some 108), none, (.load 1 false (.t 107))⟩,
    ⟨(some 109), none, (.cvt .i64 (.t 108))⟩,
    ⟨(some 110), none, (.fld 0 (.t 5))⟩,
    ⟨(some 111), none, (.load 1 false (.t 110))⟩,
    ⟨(some 112), none, (.mv (.t 17))⟩,
    ⟨(some 113), none, (.bin .sub (.t 111) (.t 112))⟩,
    ⟨(some 114), none, (.bin .add (.t 113) (.c (.int .i64 1)))⟩,
    ⟨(some 115), none, (.bin .rem (.t 109) (.t 114))⟩,
    ⟨(some 18), none, (.mv (.t 115))⟩] ⟨false, [], []⟩)
  (.seq (.ops [
    ⟨(some 117), none, (.fld 0 (.t 5))⟩,
    ⟨(some 118), none, (.load 1 false (.t 117))⟩,
    ⟨(some 119), none, (.mv (.t 16))⟩,
    ⟨(some 120), none, (.mv (.t 17))⟩,
    ⟨(some 121), none, (.mv (.t 18))⟩,
    ⟨(some 122), none, (.call 62 [(.t 118), (.t 119), (.t 120), (.t 121)])⟩,
    ⟨(some 116), none, (.mv (.t 122))⟩,
    ⟨(some 123), none, (.ext 0 (.t 116))⟩,
    ⟨(some 124), none, (.ext 1 (.t 116))⟩,
    ⟨(some 19), none, (.alloc [(.int .i64 0), (.ro 1 [] true)])⟩,
    ⟨none, none, (.store 2 (.t 19) (.t 123))⟩,
    ⟨(some 7), none, (.mv (.t 124))⟩] ⟨false, [], []⟩)
  (.seq (.ops [
    ⟨(some 126), none, (.fld 0 (.t 5))⟩,
    ⟨(some 127), none, (.load 1 false (.t 126))⟩,
    ⟨(some 128), none, (.mv (.t 18))⟩,
    ⟨(some 129), none, (.mv (.t 17))⟩,
    ⟨(some 130), none, (.mv (.t 16))⟩,
    ⟨(some 131), none, (.call 62 [(.t 127), (.t 128), (.t 129), (.t 130)])⟩,
    ⟨(some 125), none, (.mv (.t 131))⟩,
    ⟨(some 132), none, (.ext 0 (.t 125))⟩,
    ⟨(some 133), none, (.ext 1 (.t 125))⟩,
    ⟨(some 20), none, (.alloc [(.int .i64 0), (.ro 1 [] true)])⟩,
    ⟨none, none, (.store 2 (.t 20) (.t 132))⟩,
    ⟨(some 9), none, (.mv (.t 133))⟩] ⟨true, [20, 19, 9, 7, 5], []⟩)
  (.seq (.ops [
    ⟨(some 135), none, (.load 2 true (.t 19))⟩,
    ⟨(some 136), none, (.load 2 true (.t 20))⟩,
    ⟨(some 137), none, (.call 52 [(.t 135), (.t 136)])⟩,
    ⟨(some 134), none, (.mv (.t 137))⟩,
    ⟨(some 138), none, (.ext 0 (.t 134))⟩,
    ⟨(some 139), none, (.ext 1 (.t 134))⟩,
    ⟨(some 21), none, (.alloc [(.int .i64 0), (.ro 1 [] true)])⟩,
    ⟨none, none, (.store 2 (.t 21) (.t 138))⟩,
    ⟨(some 22), none, (.mv (.t 139))⟩] ⟨false, [], []⟩)
  (.seq (.ops [
    ⟨(some 141), none, (.load 2 true (.t 19))⟩,
    ⟨(some 142), none, (.call 53 [(.t 141)])⟩,
    ⟨(some 140), none, (.mv (.t 142))⟩,
    ⟨(some 143), none, (.ext 0 (.t 140))⟩,
    ⟨(some 144), none, (.ext 1 (.t 140))⟩,
    ⟨(some 23), none, (.alloc [(.int .i64 0), (.ro 1 [] true)])⟩,
    ⟨none, none, (.store 2 (.t 23) (.t 143))⟩,
    ⟨(some 24), none, (.mv (.t 144))⟩] ⟨false, [], []⟩)
  (.seq (.draw [
    ⟨(some 145), none, (.mv (.t 7))⟩,
    ⟨(some 146), none, (.bin .eql (.t 145) (.c (.int .i64 0)))⟩,
    ⟨(some 147), none, (.mv (.t 146))⟩,
    ⟨(some 148), (some (147, true)), (.load 2 true (.t 23))⟩,
    ⟨(some 149), (some (147, true)), (.mv (.t 24))⟩,
    ⟨(some 150), (some (147, true)), (.fld 0 (.t 5))⟩,
    ⟨(some 151), (some (147, true)), (.load 1 false (.t 150))⟩,
    ⟨(some 152), (some (147, true)), (.fld 1 (.t 20))⟩,
    ⟨(some 153), (some (147, true)), (.load 1 false (.t 152))⟩,
    ⟨(some 154), (some (147, true)), (.call 58 [(.t 148), (.t 149), (.t 151), (.t 153), (.c (.int .i64 0))])⟩,
    ⟨(some 155), none, (.pick (.t 147) (.t 154) (.c (.bool false)))⟩,
    ⟨(some 156), none, (.mv (.t 155))⟩,
    ⟨(some 157), (some (156, true)), (.mv (.t 9))⟩,
    ⟨(some 158), (some (156, true)), (.bin .eql (.t 157) (.c (.int .i64 0)))⟩,
    ⟨(some 159), none, (.pick (.t 156) (.t 158) (.c (.bool false)))⟩,
    ⟨(some 160), none, (.mv (.t 159))⟩,
    ⟨(some 161), (some (160, true)), (.load 2 true (.t 21))⟩,
    ⟨(some 162), (some (160, true)), (.mv (.t 22))⟩,
    ⟨(some 163), (some (160, true)), (.fld 0 (.t 5))⟩,
    ⟨(some 164), (some (160, true)), (.load 1 false (.t 163))⟩,
    ⟨(some 165), (some (160, true)), (.fld 0 (.t 5))⟩,
    ⟨(some 166), (some (160, true)), (.load 1 false (.t 165))⟩,
    ⟨(some 167), (some (160, true)), (.call 63 [(.t 166)])⟩,
    ⟨(some 168), (some (160, true)), (.call 58 [(.t 161), (.t 162), (.t 164), (.t 167), (.c (.int .i64 0))])⟩,
    ⟨(some 169), none, (.pick (.t 160) (.t 168) (.c (.bool false)))⟩,
    ⟨(some 170), none, (.mv (.t 169))⟩,
    ⟨(some 171), (some (170, true)), (.call 49 [])⟩,
    ⟨(some 172), none, (.pick (.t 170) (.t 171) (.c (.bool false)))⟩,
    ⟨(some 4), none, (.mv (.t 172))⟩] [(16, 22), (19, 22)] ⟨true, [4], []⟩)
  .ret)))))))))

def w44_B0 : WCode := (.seq (.seq (.ops [
     ⟨(some 37), none, (.mv (.t 12))⟩,
     ⟨(some 38), none, (.fld 0 (.t 5))⟩,
     ⟨(some 39), none, (.load 1 false (.t 38))⟩,
     ⟨(some 40), none, (.bin .lss (.t 37) (.t 39))⟩] ⟨false, [], []⟩)
   (.cond (.t 40) .skip
    (.exit 0)))
  (.seq (.block 1 (.seq (.ops [
      ⟨(some 43), none, (.fld 1 (.t 5))⟩,
      ⟨(some 44), none, (.load 1 false (.t 43))⟩,
      ⟨(some 45), none, (.mv (.t 12))⟩,
      ⟨(some 46), none, (.call 60 [(.t 44), (.t 45)])⟩,
      ⟨(some 13), none, (.mv (.t 46))⟩] ⟨false, [], []⟩)
    (.seq (.ops [
      ⟨(some 48), none, (.load 2 true (.t 5))⟩,
      ⟨(some 49), none, (.mv (.t 12))⟩,
      ⟨(some 50), none, (.call 54 [(.t 48), (.t 49)])⟩,
      ⟨(some 47), none, (.mv (.t 50))⟩,
      ⟨(some 51), none, (.ext 0 (.t 47))⟩,
      ⟨(some 52), none, (.ext 1 (.t 47))⟩,
      ⟨(some 14), none, (.mv (.t 51))⟩,
      ⟨(some 15), none, (.mv (.t 52))⟩] ⟨false, [], []⟩)
    (.seq (.ops [
      ⟨(some 53), none, (.mv (.t 10))⟩,
      ⟨(some 54), none, (.mv (.t 13))⟩,
      ⟨(some 55), none, (.buildS [(.int .i64 0)] 1 [(0, (.t 54))])⟩,
      ⟨(some 56), none, (.app [(.int .i64 0)] 8 false (.t 53) (.t 55))⟩,
      ⟨(some 10), none, (.mv (.t 56))⟩] ⟨false, [], []⟩)
    (.seq (.ops [
      ⟨(some 57), none, (.mv (.t 13))⟩,
      ⟨(some 58), none, (.bin .lss (.t 57) (.c (.int .i64 0)))⟩] ⟨true, [58, 15, 14, 13, 12, 11, 10, 9, 8, 7, 6, 5, 3], []⟩)
    (.cond (.t 58) (.seq (.ops [
        ⟨(some 59), none, (.mv (.t 11))⟩,
        ⟨(some 60), none, (.mv (.t 12))⟩,
        ⟨(some 61), none, (.buildS [(.int .i64 0)] 1 [(0, (.t 60))])⟩,
        ⟨(some 62), none, (.app [(.int .i64 0)] 8 false (.t 59) (.t 61))⟩,
        ⟨(some 11), none, (.mv (.t 62))⟩] ⟨false, [], []⟩)
      (.seq (.ops [
        ⟨(some 63), none, (.mv (.t 15))⟩,
        ⟨(some 64), none, (.bin .neq (.t 63) (.c (.int .i64 11)))⟩,
        ⟨(some 65), none, (.mv (.t 64))⟩,
        ⟨(some 66), (some (65, false)), (.mv (.t 14))⟩,
        ⟨(some 67), (some (65, false)), (.bin .neq (.t 66) (.c (.int .i64 0)))⟩,
        ⟨(some 68), none, (.pick (.t 65) (.c (.bool true)) (.t 67))⟩] ⟨false, [], []⟩)
      (.cond (.t 68) (.seq (.ops [
          ⟨(some 4), none, (.mv (.c (.bool false)))⟩] ⟨false, [], []⟩)
        .ret)
       .skip)))
     (.seq (.ops [
        ⟨(some 69), none, (.mv (.t 15))⟩,
        ⟨(some 70), none, (.bin .neq (.t 69) (.c (.int .i64 0)))⟩,
        ⟨(some 71), none, (.mv (.t 70))⟩,
        ⟨(some 72), (some (71, false)), (.mv (.t 14))⟩,
        ⟨(some 73), (some (71, false)), (.mv (.t 13))⟩,
        ⟨(some 74), (some (71, false)), (.bin .neq (.t 72) (.t 73))⟩,
        ⟨(some 75), none, (.pick (.t 71) (.c (.bool true)) (.t 74))⟩] ⟨false, [], []⟩)
      (.cond (.t 75) (.seq (.ops [
          ⟨(some 4), none, (.mv (.c (.bool false)))⟩] ⟨false, [], []⟩)
        .ret)
       .skip))))))) ⟨false, [], []⟩)
  (.ops [
   ⟨(some 41), none, (.mv (.t 12))⟩,
   ⟨(some 42), none, (.bin .add (.t 41) (.c (.int .i64 1)))⟩,
   ⟨(some 12), none, (.mv (.t 42))⟩] ⟨false, [], []⟩)))
def w44_L0 : WCode := .loop ⟨true, [12, 11, 10, 9, 8, 7, 6, 5, 3], []⟩ w44_B0
def w44 : WFn := ⟨2, [.tmp 4],
 (.seq (.ops [
    ⟨(some 2), none, (.box (.t 0))⟩,
    ⟨(some 3), none, (.box (.t 1))⟩,
    ⟨(some 4), none, (.mv (.c (.bool false)))⟩] ⟨false, [], []⟩)
  (.seq (.ops [
    ⟨(some 25), none, (.load 2 true (.t 2))⟩,
    ⟨(some 26), none, (.call 61 [(.t 25)])⟩,
    ⟨(some 5), none, (.alloc [(.int .i64 0), (.ro 1 [] true)])⟩,
    ⟨none, none, (.store 2 (.t 5) (.t 26))⟩] ⟨false, [], []⟩)
  (.seq (.ops [
    ⟨(some 28), none, (.load 2 true (.t 5))⟩,
    ⟨(some 29), none, (.call 53 [(.t 28)])⟩,
    ⟨(some 27), none, (.mv (.t 29))⟩,
    ⟨(some 30), none, (.ext 0 (.t 27))⟩,
    ⟨(some 31), none, (.ext 1 (.t 27))⟩,
    ⟨(some 6), none, (.alloc [(.int .i64 0), (.ro 1 [] true)])⟩,
    ⟨none, none, (.store 2 (.t 6) (.t 30))⟩,
    ⟨(some 7), none, (.mv (.t 31))⟩] ⟨false, [], []⟩)
  (.seq (.ops [
    ⟨(some 33), none, (.load 2 true (.t 5))⟩,
    ⟨(some 34), none, (.call 55 [(.t 33)])⟩,
    ⟨(some 32), none, (.mv (.t 34))⟩,
    ⟨(some 35), none, (.ext 0 (.t 32))⟩,
    ⟨(some 36), none, (.ext 1 (.t 32))⟩,
    ⟨(some 8), none, (.mv (.t 35))⟩,
    ⟨(some 9), none, (.mv (.t 36))⟩] ⟨false, [], []⟩)
  (.seq (.ops [
    ⟨(some 10), none, (.mv (.c (.ro 1 [] true)))⟩,
    ⟨(some 11), none, (.mv (.c (.ro 1 [] true)))⟩] ⟨true, [11, 10, 9, 8, 7, 6, 5, 3], [(10, 1), (11, 1)]⟩)
  (.seq (.seq (.ops [
     ⟨(some 12), none, (.mv (.c (.int .i64 0)))⟩] ⟨false, [], []⟩)
   (.block 0 w44_L0 ⟨true, [11, 10, 9, 8, 7, 6, 5, 3], []⟩))
  w44_c0))))))⟩

@[simp] theorem w44_E0 {β : Type} {C : WProg} {b : Nat} {f : Ex × WSt → Option β} {k : List Pw.Frame} {s : WSt} : CK C b f k w44_L0 s = LK C b f (.sq w44_L0 :: k) w44_B0 (canon b ⟨true, [12, 11, 10, 9, 8, 7, 6, 5, 3], []⟩ s) := ck_lp rfl
noncomputable abbrev w44_K0 (C : WProg) (s : WSt) : Option AV := CK C 0 (pureFin [.tmp 4]) [.sq w44_L0, .bk 0 ⟨true, [11, 10, 9, 8, 7, 6, 5, 3], []⟩, .sq w44_c0] w44_B0 s

/- paternoster/paternosterlaw09.RemapsCarry -/
def w45_c0 : WCode := (.seq (.seq (.ops [
     ⟨(some 72), none, (.mv (.t 10))⟩,
     ⟨(some 73), none, (.mv (.t 11))⟩,
     ⟨(some 74), none, (.mv (.t 12))⟩,
     ⟨(some 75), none, (.call 59 [(.t 72), (.t 73), (.t 74), (.c (.int .i64 0))])⟩,
     ⟨(some 76), none, (.un .not (.t 75))⟩] ⟨false, [], []⟩)
   (.cond (.t 76) (.seq (.ops [
       ⟨(some 6), none, (.mv (.c (.bool false)))⟩] ⟨false, [], []⟩)
     .ret)
    .skip))
  (.seq (.ops [
    ⟨(some 77), none, (.mv (.t 1))⟩,
    ⟨(some 78), none, (.build [(.int .u8 0), (.ro 4 [] true)] [(1, 1, (.t 77))])⟩,
    ⟨(some 15), none, (.alloc [(.int .u8 0), (.ro 4 [] true)])⟩,
    ⟨none, none, (.store 2 (.t 15) (.t 78))⟩] ⟨false, [], []⟩)
  (.seq (.ops [
    ⟨(some 79), none, (.fld 1 (.t 7))⟩,
    ⟨(some 80), none, (.load 1 false (.t 79))⟩,
    ⟨(some 81), none, (.len 1 (.t 80))⟩,
    ⟨(some 16), none, (.mv (.t 81))⟩] ⟨false, [], []⟩)
  (.seq (.draw [
    ⟨(some 82), none, (.mv (.t 16))⟩,
    ⟨(some 83), none, (.load 2 true (.t 15))⟩,
    ⟨(some 84), none, (.mv (.t 16))⟩,
    ⟨(some 85), none, (.call 63 [(.t 84)])⟩,
    ⟨(some 86), none, (.call 64 [(.t 83), (.t 85)])⟩,
    ⟨(some 87), none, (.build [(.int .i64 0), (.ro 1 [] true)] [(0, 1, (.t 82)), (1, 1, (.t 86))])⟩,
    ⟨(some 17), none, (.alloc [(.int .i64 0), (.ro 1 [] true)])⟩,
    ⟨none, none, (.store 2 (.t 17) (.t 87))⟩] [(1, 3), (1, 6), (3, 6), (4, 6)] ⟨false, [], []⟩)
  (.seq (.ops [
    ⟨(some 89), none, (.load 2 true (.t 7))⟩,
    ⟨(some 90), none, (.load 2 true (.t 17))⟩,
    ⟨(some 91), none, (.call 52 [(.t 89), (.t 90)])⟩,
    ⟨(some 88), none, (.mv (.t 91))⟩,
    ⟨(some 92), none, (.ext 0 (.t 88))⟩,
    ⟨(some 93), none, (.ext 1 (.t 88))⟩,
    ⟨(some 18), none, (.alloc [(.int .i64 0), (.ro 1 [] true)])⟩,
    ⟨none, none, (.store 2 (.t 18) (.t 92))⟩,
    ⟨(some 19), none, (.mv (.t 93))⟩] ⟨true, [19, 18, 17, 10, 8, 7], []⟩)
  (.seq (.ops [
    ⟨(some 95), none, (.load 2 true (.t 17))⟩,
    ⟨(some 96), none, (.mv (.t 10))⟩,
    ⟨(some 97), none, (.call 57 [(.t 95), (.t 96)])⟩,
    ⟨(some 94), none, (.mv (.t 97))⟩,
    ⟨(some 98), none, (.ext 0 (.t 94))⟩,
    ⟨(some 99), none, (.ext 1 (.t 94))⟩,
    ⟨(some 20), none, (.mv (.t 98))⟩,
    ⟨(some 21), none, (.mv (.t 99))⟩] ⟨false, [], []⟩)
  (.seq (.ops [
    ⟨(some 101), none, (.load 2 true (.t 18))⟩,
    ⟨(some 102), none, (.mv (.t 8))⟩,
    ⟨(some 103), none, (.call 57 [(.t 101), (.t 102)])⟩,
    ⟨(some 100), none, (.mv (.t 103))⟩,
    ⟨(some 104), none, (.ext 0 (.t 100))⟩,
    ⟨(some 105), none, (.ext 1 (.t 100))⟩,
    ⟨(some 22), none, (.mv (.t 104))⟩,
    ⟨(some 23), none, (.mv (.t 105))⟩] ⟨false, [], []⟩)
  (.seq (.draw [
    ⟨(some 107), none, (.load 2 true (.t 7))⟩,
    ⟨(some 108), none, (.mv (.t 8))⟩,
    ⟨(some 109), none, (.buildS [(.int .i64 0)] 1 [(0, (.c (.int .i64 1)))])⟩,
    ⟨(some 110), none, (.app [(.int .i64 0)] 8 false (.t 108) (.t 109))⟩,
    ⟨(some 111), none, (.call 57 [(.t 107), (.t 110)])⟩,
    ⟨(some 106), none, (.mv (.t 111))⟩,
    ⟨(some 112), none, (.ext 0 (.t 106))⟩,
    ⟨(some 113), none, (.ext 1 (.t 106))⟩,
    ⟨(some 24), none, (.mv (.t 112))⟩,
    ⟨(some 25), none, (.mv (.t 113))⟩] [(0, 2), (0, 3)] ⟨true, [25, 23, 22, 21, 20, 19], []⟩)
  (.seq (.ops [
    ⟨(some 114), none, (.mv (.t 19))⟩,
    ⟨(some 115), none, (.bin .eql (.t 114) (.c (.int .i64 0)))⟩,
    ⟨(some 116), none, (.mv (.t 115))⟩,
    ⟨(some 117), (some (116, true)), (.mv (.t 21))⟩,
    ⟨(some 118), (some (116, true)), (.bin .eql (.t 117) (.c (.int .i64 0)))⟩,
    ⟨(some 119), none, (.pick (.t 116) (.t 118) (.c (.bool false)))⟩,
    ⟨(some 120), none, (.mv (.t 119))⟩,
    ⟨(some 121), (some (120, true)), (.mv (.t 22))⟩,
    ⟨(some 122), (some (120, true)), (.mv (.t 23))⟩,
    ⟨(some 123), (some (120, true)), (.mv (.t 20))⟩,
    ⟨(some 124), (some (120, true)), (.call 59 [(.t 121), (.t 122), (.t 123), (.c (.int .i64 0))])⟩,
    ⟨(some 125), none, (.pick (.t 120) (.t 124) (.c (.bool false)))⟩,
    ⟨(some 126), none, (.mv (.t 125))⟩,
    ⟨(some 127), (some (126, true)), (.mv (.t 25))⟩,
    ⟨(some 128), (some (126, true)), (.bin .eql (.t 127) (.c (.int .i64 16)))⟩,
    ⟨(some 129), none, (.pick (.t 126) (.t 128) (.c (.bool false)))⟩,
    ⟨(some 130), none, (.mv (.t 129))⟩,
    ⟨(some 131), (some (130, true)), (.call 49 [])⟩,
    ⟨(some 132), none, (.pick (.t 130) (.t 131) (.c (.bool false)))⟩,
    ⟨(some 6), none, (.mv (.t 132))⟩] ⟨false, [], []⟩)
  .ret)))))))))

def w45_B0 : WCode := (.seq (.seq (.ops [
     ⟨(some 47), none, (.mv (.t 13))⟩,
     ⟨(some 48), none, (.fld 1 (.t 7))⟩,
     ⟨(some 49), none, (.load 1 false (.t 48))⟩,
     ⟨(some 50), none, (.len 1 (.t 49))⟩,
     ⟨(some 51), none, (.bin .lss (.t 47) (.t 50))⟩] ⟨true, [51, 13, 12, 11, 10, 8, 7, 1], []⟩)
   (.cond (.t 51) .skip
    (.exit 2)))
  (.seq (.block 3 (.seq (.ops [
      ⟨(some 14), none, (.mv (.c (.int .i64 0)))⟩] ⟨false, [], []⟩)
    (.seq (.seq (.ops [
       ⟨(some 54), none, (.fld 1 (.t 7))⟩,
       ⟨(some 55), none, (.load 1 false (.t 54))⟩,
       ⟨(some 56), none, (.mv (.t 13))⟩,
       ⟨(some 57), none, (.idxs 1 (.t 55) (.t 56))⟩,
       ⟨(some 58), none, (.load 1 false (.t 57))⟩,
       ⟨(some 59), none, (.bin .geq (.t 58) (.c (.int .i64 0)))⟩] ⟨false, [], []⟩)
     (.cond (.t 59) (.ops [
        ⟨(some 60), none, (.mv (.t 8))⟩,
        ⟨(some 61), none, (.fld 1 (.t 7))⟩,
        ⟨(some 62), none, (.load 1 false (.t 61))⟩,
        ⟨(some 63), none, (.mv (.t 13))⟩,
        ⟨(some 64), none, (.idxs 1 (.t 62) (.t 63))⟩,
        ⟨(some 65), none, (.load 1 false (.t 64))⟩,
        ⟨(some 66), none, (.idxs 1 (.t 60) (.t 65))⟩,
        ⟨(some 67), none, (.load 1 false (.t 66))⟩,
        ⟨(some 14), none, (.mv (.t 67))⟩] ⟨false, [], []⟩)
      .skip))
    (.ops [
     ⟨(some 68), none, (.mv (.t 12))⟩,
     ⟨(some 69), none, (.mv (.t 14))⟩,
     ⟨(some 70), none, (.buildS [(.int .i64 0)] 1 [(0, (.t 69))])⟩,
     ⟨(some 71), none, (.app [(.int .i64 0)] 8 false (.t 68) (.t 70))⟩,
     ⟨(some 12), none, (.mv (.t 71))⟩] ⟨false, [], []⟩))) ⟨false, [], []⟩)
  (.ops [
   ⟨(some 52), none, (.mv (.t 13))⟩,
   ⟨(some 53), none, (.bin .add (.t 52) (.c (.int .i64 1)))⟩,
   ⟨(some 13), none, (.mv (.t 53))⟩] ⟨true, [13, 12, 11, 10, 8, 7, 1], []⟩)))
def w45_L0 : WCode := .loop ⟨true, [13, 12, 11, 10, 8, 7, 1], []⟩ w45_B0
def w45_c1 : WCode := (.seq (.ops [
    ⟨(some 42), none, (.load 2 true (.t 7))⟩,
    ⟨(some 43), none, (.mv (.t 8))⟩,
    ⟨(some 44), none, (.call 57 [(.t 42), (.t 43)])⟩,
    ⟨(some 41), none, (.mv (.t 44))⟩,
    ⟨(some 45), none, (.ext 0 (.t 41))⟩,
    ⟨(some 46), none, (.ext 1 (.t 41))⟩,
    ⟨(some 10), none, (.mv (.t 45))⟩,
    ⟨(some 11), none, (.mv (.t 46))⟩] ⟨false, [], []⟩)
  (.seq (.ops [
    ⟨(some 12), none, (.mv (.c (.ro 1 [] true)))⟩] ⟨true, [12, 11, 10, 8, 7, 1], [(12, 1)]⟩)
  (.seq (.seq (.ops [
     ⟨(some 13), none, (.mv (.c (.int .i64 0)))⟩] ⟨false, [], []⟩)
   (.block 2 w45_L0 ⟨true, [12, 11, 10, 8, 7, 1], []⟩))
  w45_c0)))

def w45_B1 : WCode := (.seq (.seq (.ops [
     ⟨(some 28), none, (.mv (.t 9))⟩,
     ⟨(some 29), none, (.fld 0 (.t 7))⟩,
     ⟨(some 30), none, (.load 1 false (.t 29))⟩,
     ⟨(some 31), none, (.bin .lss (.t 28) (.t 30))⟩] ⟨true, [31, 9, 8, 7, 2, 1], []⟩)
   (.cond (.t 31) .skip
    (.exit 0)))
  (.seq (.block 1 (.ops [
     ⟨(some 34), none, (.mv (.t 8))⟩,
     ⟨(some 35), none, (.mv (.t 2))⟩,
     ⟨(some 36), none, (.mv (.t 9))⟩,
     ⟨(some 37), none, (.bin .mul (.c (.int .i64 7)) (.t 36))⟩,
     ⟨(some 38), none, (.bin .add (.t 35) (.t 37))⟩,
     ⟨(some 39), none, (.buildS [(.int .i64 0)] 1 [(0, (.t 38))])⟩,
     ⟨(some 40), none, (.app [(.int .i64 0)] 8 false (.t 34) (.t 39))⟩,
     ⟨(some 8), none, (.mv (.t 40))⟩] ⟨false, [], []⟩) ⟨false, [], []⟩)
  (.ops [
   ⟨(some 32), none, (.mv (.t 9))⟩,
   ⟨(some 33), none, (.bin .add (.t 32) (.c (.int .i64 1)))⟩,
   ⟨(some 9), none, (.mv (.t 33))⟩] ⟨false, [], []⟩)))
def w45_L1 : WCode := .loop ⟨true, [9, 8, 7, 2, 1], []⟩ w45_B1
def w45 : WFn := ⟨3, [.tmp 6],
 (.seq (.ops [
    ⟨(some 3), none, (.box (.t 0))⟩,
    ⟨(some 6), none, (.mv (.c (.bool false)))⟩] ⟨false, [], []⟩)
  (.seq (.ops [
    ⟨(some 26), none, (.load 2 true (.t 3))⟩,
    ⟨(some 27), none, (.call 61 [(.t 26)])⟩,
    ⟨(some 7), none, (.alloc [(.int .i64 0), (.ro 1 [] true)])⟩,
    ⟨none, none, (.store 2 (.t 7) (.t 27))⟩] ⟨false, [], []⟩)
  (.seq (.ops [
    ⟨(some 8), none, (.mv (.c (.ro 1 [] true)))⟩] ⟨true, [8, 7, 2, 1], [(8, 1)]⟩)
  (.seq (.seq (.ops [
     ⟨(some 9), none, (.mv (.c (.int .i64 0)))⟩] ⟨false, [], []⟩)
   (.block 0 w45_L1 ⟨true, [8, 7, 1], []⟩))
  w45_c1))))⟩

@[simp] theorem w45_E0 {β : Type} {C : WProg} {b : Nat} {f : Ex × WSt → Option β} {k : List Pw.Frame} {s : WSt} : CK C b f k w45_L0 s = LK C b f (.sq w45_L0 :: k) w45_B0 (canon b ⟨true, [13, 12, 11, 10, 8, 7, 1], []⟩ s) := ck_lp rfl
noncomputable abbrev w45_K0 (C : WProg) (s : WSt) : Option AV := CK C 0 (pureFin [.tmp 6]) [.sq w45_L0, .bk 2 ⟨true, [12, 11, 10, 8, 7, 1], []⟩, .sq w45_c0] w45_B0 s

@[simp] theorem w45_E1 {β : Type} {C : WProg} {b : Nat} {f : Ex × WSt → Option β} {k : List Pw.Frame} {s : WSt} : CK C b f k w45_L1 s = LK C b f (.sq w45_L1 :: k) w45_B1 (canon b ⟨true, [9, 8, 7, 2, 1], []⟩ s) := ck_lp rfl
noncomputable abbrev w45_K1 (C : WProg) (s : WSt) : Option AV := CK C 0 (pureFin [.tmp 6]) [.sq w45_L1, .bk 0 ⟨true, [8, 7, 1], []⟩, .sq w45_c1] w45_B1 s

/- paternoster/paternosterlaw09.RemapsMade -/
def w46 : WFn := ⟨1, [.tmp 2],
 (.seq (.ops [
    ⟨(some 1), none, (.box (.t 0))⟩,
    ⟨(some 2), none, (.mv (.c (.bool false)))⟩] ⟨false, [], []⟩)
  (.seq (.draw [
    ⟨(some 22), none, (.idxa 4 1 (.t 1) (.c (.int .i64 0)))⟩,
    ⟨(some 23), none, (.load 1 false (.t 22))⟩,
    ⟨(some 24), none, (.idxa 4 1 (.t 1) (.c (.int .i64 1)))⟩,
    ⟨(some 25), none, (.load 1 false (.t 24))⟩,
    ⟨(some 26), none, (.idxa 4 1 (.t 1) (.c (.int .i64 2)))⟩,
    ⟨(some 27), none, (.load 1 false (.t 26))⟩,
    ⟨(some 28), none, (.idxa 4 1 (.t 1) (.c (.int .i64 3)))⟩,
    ⟨(some 29), none, (.load 1 false (.t 28))⟩,
    ⟨(some 3), none, (.mv (.t 23))⟩,
    ⟨(some 4), none, (.mv (.t 25))⟩,
    ⟨(some 5), none, (.mv (.t 27))⟩,
    ⟨(some 6), none, (.mv (.t 29))⟩] [] ⟨true, [6, 5, 4, 3], []⟩)
  (.seq (.ops [
    ⟨(some 31), none, (.mv (.t 3))⟩,
    ⟨(some 32), none, (.call 65 [(.t 31)])⟩,
    ⟨(some 30), none, (.mv (.t 32))⟩,
    ⟨(some 33), none, (.ext 0 (.t 30))⟩,
    ⟨(some 34), none, (.ext 1 (.t 30))⟩,
    ⟨(some 7), none, (.alloc [(.int .i64 0), (.ro 1 [] true)])⟩,
    ⟨none, none, (.store 2 (.t 7) (.t 33))⟩,
    ⟨(some 8), none, (.mv (.t 34))⟩] ⟨false, [], []⟩)
  (.seq (.ops [
    ⟨(some 36), none, (.mv (.t 3))⟩,
    ⟨(some 37), none, (.mv (.t 4))⟩,
    ⟨(some 38), none, (.mv (.t 5))⟩,
    ⟨(some 39), none, (.call 66 [(.t 36), (.t 37), (.t 38)])⟩,
    ⟨(some 35), none, (.mv (.t 39))⟩,
    ⟨(some 40), none, (.ext 0 (.t 35))⟩,
    ⟨(some 41), none, (.ext 1 (.t 35))⟩,
    ⟨(some 9), none, (.alloc [(.int .i64 0), (.ro 1 [] true)])⟩,
    ⟨none, none, (.store 2 (.t 9) (.t 40))⟩,
    ⟨(some 10), none, (.mv (.t 41))⟩] ⟨false, [], []⟩)
  (.seq (.ops [
    ⟨(some 43), none, (.mv (.t 3))⟩,
    ⟨(some 44), none, (.mv (.t 4))⟩,
    ⟨(some 45), none, (.mv (.t 5))⟩,
    ⟨(some 46), none, (.call 67 [(.t 43), (.t 44), (.t 45)])⟩,
    ⟨(some 42), none, (.mv (.t 46))⟩,
    ⟨(some 47), none, (.ext 0 (.t 42))⟩,
    ⟨(some 48), none, (.ext 1 (.t 42))⟩,
    ⟨(some 11), none, (.alloc [(.int .i64 0), (.ro 1 [] true)])⟩,
    ⟨none, none, (.store 2 (.t 11) (.t 47))⟩,
    ⟨(some 12), none, (.mv (.t 48))⟩] ⟨true, [12, 11, 10, 9, 8, 7, 6, 5, 4, 3], []⟩)
  (.seq (.ops [
    ⟨(some 50), none, (.mv (.t 3))⟩,
    ⟨(some 51), none, (.mv (.t 4))⟩,
    ⟨(some 52), none, (.mv (.t 5))⟩,
    ⟨(some 53), none, (.mv (.t 6))⟩,
    ⟨(some 54), none, (.call 62 [(.t 50), (.t 51), (.t 52), (.t 53)])⟩,
    ⟨(some 49), none, (.mv (.t 54))⟩,
    ⟨(some 55), none, (.ext 0 (.t 49))⟩,
    ⟨(some 56), none, (.ext 1 (.t 49))⟩,
    ⟨(some 13), none, (.alloc [(.int .i64 0), (.ro 1 [] true)])⟩,
    ⟨none, none, (.store 2 (.t 13) (.t 55))⟩,
    ⟨(some 14), none, (.mv (.t 56))⟩] ⟨false, [], []⟩)
  (.seq (.seq (.ops [
     ⟨(some 57), none, (.mv (.t 3))⟩,
     ⟨(some 58), none, (.bin .lss (.t 57) (.c (.int .i64 0)))⟩,
     ⟨(some 59), none, (.mv (.t 58))⟩,
     ⟨(some 60), (some (59, false)), (.mv (.t 3))⟩,
     ⟨(some 61), (some (59, false)), (.bin .gtr (.t 60) (.c (.int .i64 4096)))⟩,
     ⟨(some 62), none, (.pick (.t 59) (.c (.bool true)) (.t 61))⟩] ⟨false, [], []⟩)
   (.cond (.t 62) (.seq (.ops [
       ⟨(some 63), none, (.load 2 true (.t 7))⟩,
       ⟨(some 64), none, (.mv (.t 8))⟩,
       ⟨(some 65), none, (.call 58 [(.t 63), (.t 64), (.c (.int .i64 0)), (.c (.ro 1 [] true)), (.c (.int .i64 4))])⟩,
       ⟨(some 66), none, (.mv (.t 65))⟩,
       ⟨(some 67), (some (66, true)), (.load 2 true (.t 9))⟩,
       ⟨(some 68), (some (66, true)), (.mv (.t 10))⟩,
       ⟨(some 69), (some (66, true)), (.call 58 [(.t 67), (.t 68), (.c (.int .i64 0)), (.c (.ro 1 [] true)), (.c (.int .i64 4))])⟩,
       ⟨(some 70), none, (.pick (.t 66) (.t 69) (.c (.bool false)))⟩,
       ⟨(some 71), none, (.mv (.t 70))⟩,
       ⟨(some 72), (some (71, true)), (.load 2 true (.t 11))⟩,
       ⟨(some 73), (some (71, true)), (.mv (.t 12))⟩,
       ⟨(some 74), (some (71, true)), (.call 58 [(.t 72), (.t 73), (.c (.int .i64 0)), (.c (.ro 1 [] true)), (.c (.int .i64 4))])⟩,
       ⟨(some 75), none, (.pick (.t 71) (.t 74) (.c (.bool false)))⟩,
       ⟨(some 76), none, (.mv (.t 75))⟩,
       ⟨(some 77), (some (76, true)), (.load 2 true (.t 13))⟩,
       ⟨(some 78), (some (76, true)), (.mv (.t 14))⟩,
       ⟨(some 79), (some (76, true)), (.call 58 [(.t 77), (.t 78), (.c (.int .i64 0)), (.c (.ro 1 [] true)), (.c (.int .i64 4))])⟩,
       ⟨(some 80), none, (.pick (.t 76) (.t 79) (.c (.bool false)))⟩,
       ⟨(some 81), none, (.mv (.t 80))⟩,
       ⟨(some 82), (some (81, true)), (.call 49 [])⟩,
       ⟨(some 83), none, (.pick (.t 81) (.t 82) (.c (.bool false)))⟩,
       ⟨(some 2), none, (.mv (.t 83))⟩] ⟨true, [2], []⟩)
     .ret)
    .skip))
  (.seq (.ops [
    ⟨(some 84), none, (.mv (.t 3))⟩,
    ⟨(some 85), none, (.call 63 [(.t 84)])⟩,
    ⟨(some 15), none, (.mv (.t 85))⟩] ⟨false, [], []⟩)
  (.seq (.seq (.ops [
     ⟨(some 86), none, (.load 2 true (.t 7))⟩,
     ⟨(some 87), none, (.mv (.t 8))⟩,
     ⟨(some 88), none, (.mv (.t 3))⟩,
     ⟨(some 89), none, (.mv (.t 15))⟩,
     ⟨(some 90), none, (.call 58 [(.t 86), (.t 87), (.t 88), (.t 89), (.c (.int .i64 0))])⟩,
     ⟨(some 91), none, (.un .not (.t 90))⟩] ⟨false, [], []⟩)
   (.cond (.t 91) (.seq (.ops [
       ⟨(some 2), none, (.mv (.c (.bool false)))⟩] ⟨false, [], []⟩)
     .ret)
    .skip))
  (.seq (.ops [
    ⟨(some 93), none, (.mv (.t 15))⟩,
    ⟨(some 94), none, (.mv (.t 4))⟩,
    ⟨(some 95), none, (.mv (.t 5))⟩,
    ⟨(some 96), none, (.call 68 [(.t 93), (.t 94), (.t 95)])⟩,
    ⟨(some 92), none, (.mv (.t 96))⟩,
    ⟨(some 97), none, (.ext 0 (.t 92))⟩,
    ⟨(some 98), none, (.ext 1 (.t 92))⟩,
    ⟨(some 16), none, (.mv (.t 97))⟩,
    ⟨(some 17), none, (.mv (.t 98))⟩] ⟨true, [17, 16, 15, 14, 13, 12, 11, 10, 9, 6, 5, 4, 3], []⟩)
  (.seq (.ops [
    ⟨(some 100), none, (.mv (.t 15))⟩,
    ⟨(some 101), none, (.mv (.t 4))⟩,
    ⟨(some 102), none, (.mv (.t 5))⟩,
    ⟨(some 103), none, (.call 69 [(.t 100), (.t 101), (.t 102)])⟩,
    ⟨(some 99), none, (.mv (.t 103))⟩,
    ⟨(some 104), none, (.ext 0 (.t 99))⟩,
    ⟨(some 105), none, (.ext 1 (.t 99))⟩,
    ⟨(some 18), none, (.mv (.t 104))⟩,
    ⟨(some 19), none, (.mv (.t 105))⟩] ⟨false, [], []⟩)
  (.seq (.ops [
    ⟨(some 107), none, (.mv (.t 15))⟩,
    ⟨(some 108), none, (.mv (.t 4))⟩,
    ⟨(some 109), none, (.mv (.t 5))⟩,
    ⟨(some 110), none, (.mv (.t 6))⟩,
    ⟨(some 111), none, (.call 70 [(.t 107), (.t 108), (.t 109), (.t 110)])⟩,
    ⟨(some 106), none, (.mv (.t 111))⟩,
    ⟨(some 112), none, (.ext 0 (.t 106))⟩,
    ⟨(some 113), none, (.ext 1 (.t 106))⟩,
    ⟨(some 20), none, (.mv (.t 112))⟩,
    ⟨(some 21), none, (.mv (.t 113))⟩] ⟨false, [], []⟩)
  (.seq (.draw [
    ⟨(some 114), none, (.load 2 true (.t 9))⟩,
    ⟨(some 115), none, (.mv (.t 10))⟩,
    ⟨(some 116), none, (.mv (.t 3))⟩,
    ⟨(some 117), none, (.mv (.t 17))⟩,
    ⟨(some 118), none, (.call 71 [(.t 116), (.t 117)])⟩,
    ⟨(some 119), none, (.mv (.t 16))⟩,
    ⟨(some 120), none, (.mv (.t 17))⟩,
    ⟨(some 121), none, (.call 58 [(.t 114), (.t 115), (.t 118), (.t 119), (.t 120)])⟩,
    ⟨(some 122), none, (.mv (.t 121))⟩,
    ⟨(some 123), (some (122, true)), (.load 2 true (.t 11))⟩,
    ⟨(some 124), (some (122, true)), (.mv (.t 12))⟩,
    ⟨(some 125), (some (122, true)), (.mv (.t 3))⟩,
    ⟨(some 126), (some (122, true)), (.mv (.t 19))⟩,
    ⟨(some 127), (some (122, true)), (.call 71 [(.t 125), (.t 126)])⟩,
    ⟨(some 128), (some (122, true)), (.mv (.t 18))⟩,
    ⟨(some 129), (some (122, true)), (.mv (.t 19))⟩,
    ⟨(some 130), (some (122, true)), (.call 58 [(.t 123), (.t 124), (.t 127), (.t 128), (.t 129)])⟩,
    ⟨(some 131), none, (.pick (.t 122) (.t 130) (.c (.bool false)))⟩,
    ⟨(some 132), none, (.mv (.t 131))⟩,
    ⟨(some 133), (some (132, true)), (.load 2 true (.t 13))⟩,
    ⟨(some 134), (some (132, true)), (.mv (.t 14))⟩,
    ⟨(some 135), (some (132, true)), (.mv (.t 3))⟩,
    ⟨(some 136), (some (132, true)), (.mv (.t 21))⟩,
    ⟨(some 137), (some (132, true)), (.call 71 [(.t 135), (.t 136)])⟩,
    ⟨(some 138), (some (132, true)), (.mv (.t 20))⟩,
    ⟨(some 139), (some (132, true)), (.mv (.t 21))⟩,
    ⟨(some 140), (some (132, true)), (.call 58 [(.t 133), (.t 134), (.t 137), (.t 138), (.t 139)])⟩,
    ⟨(some 141), none, (.pick (.t 132) (.t 140) (.c (.bool false)))⟩,
    ⟨(some 142), none, (.mv (.t 141))⟩,
    ⟨(some 143), (some (142, true)), (.call 49 [])⟩,
    ⟨(some 144), none, (.pick (.t 142) (.t 143) (.c (.bool false)))⟩,
    ⟨(some 2), none, (.mv (.t 144))⟩] [(0, 4), (9, 13), (19, 23)] ⟨true, [2], []⟩)
  .ret)))))))))))))⟩

/- paternoster/paternosterlaw09.RemapsCompose -/
def w47 : WFn := ⟨3, [.tmp 6],
 (.seq (.ops [
    ⟨(some 3), none, (.box (.t 0))⟩,
    ⟨(some 6), none, (.mv (.c (.bool false)))⟩] ⟨false, [], []⟩)
  (.seq (.ops [
    ⟨(some 28), none, (.load 2 true (.t 3))⟩,
    ⟨(some 29), none, (.call 61 [(.t 28)])⟩,
    ⟨(some 7), none, (.alloc [(.int .i64 0), (.ro 1 [] true)])⟩,
    ⟨none, none, (.store 2 (.t 7) (.t 29))⟩] ⟨false, [], []⟩)
  (.seq (.ops [
    ⟨(some 30), none, (.mv (.t 1))⟩,
    ⟨(some 31), none, (.build [(.int .u8 0), (.ro 4 [] true)] [(1, 1, (.t 30))])⟩,
    ⟨(some 8), none, (.alloc [(.int .u8 0), (.ro 4 [] true)])⟩,
    ⟨none, none, (.store 2 (.t 8) (.t 31))⟩] ⟨true, [8, 7, 2], []⟩)
  (.seq (.ops [
    ⟨(some 32), none, (.mv (.t 2))⟩,
    ⟨(some 33), none, (.build [(.int .u8 0), (.ro 4 [] true)] [(1, 1, (.t 32))])⟩,
    ⟨(some 9), none, (.alloc [(.int .u8 0), (.ro 4 [] true)])⟩,
    ⟨none, none, (.store 2 (.t 9) (.t 33))⟩] ⟨false, [], []⟩)
  (.seq (.ops [
    ⟨(some 34), none, (.fld 1 (.t 7))⟩,
    ⟨(some 35), none, (.load 1 false (.t 34))⟩,
    ⟨(some 36), none, (.len 1 (.t 35))⟩,
    ⟨(some 10), none, (.mv (.t 36))⟩] ⟨false, [], []⟩)
  (.seq (.draw [
    ⟨(some 37), none, (.mv (.t 10))⟩,
    ⟨(some 38), none, (.load 2 true (.t 8))⟩,
    ⟨(some 39), none, (.mv (.t 10))⟩,
    ⟨(some 40), none, (.call 63 [(.t 39)])⟩,
    ⟨(some 41), none, (.call 64 [(.t 38), (.t 40)])⟩,
    ⟨(some 42), none, (.build [(.int .i64 0), (.ro 1 [] true)] [(0, 1, (.t 37)), (1, 1, (.t 41))])⟩,
    ⟨(some 11), none, (.alloc [(.int .i64 0), (.ro 1 [] true)])⟩,
    ⟨none, none, (.store 2 (.t 11) (.t 42))⟩] [(1, 3), (1, 6), (3, 6), (4, 6)] ⟨false, [], []⟩)
  (.seq (.ops [
    ⟨(some 43), none, (.fld 1 (.t 11))⟩,
    ⟨(some 44), none, (.load 1 false (.t 43))⟩,
    ⟨(some 45), none, (.len 1 (.t 44))⟩,
    ⟨(some 12), none, (.mv (.t 45))⟩] ⟨false, [], []⟩)
  (.seq (.draw [
    ⟨(some 46), none, (.mv (.t 12))⟩,
    ⟨(some 47), none, (.load 2 true (.t 9))⟩,
    ⟨(some 48), none, (.mv (.t 12))⟩,
    ⟨(some 49), none, (.call 63 [(.t 48)])⟩,
    ⟨(some 50), none, (.call 64 [(.t 47), (.t 49)])⟩,
    ⟨(some 51), none, (.build [(.int .i64 0), (.ro 1 [] true)] [(0, 1, (.t 46)), (1, 1, (.t 50))])⟩,
    ⟨(some 13), none, (.alloc [(.int .i64 0), (.ro 1 [] true)])⟩,
    ⟨none, none, (.store 2 (.t 13) (.t 51))⟩] [(1, 3), (1, 6), (3, 6), (4, 6)] ⟨true, [13, 11, 10, 9, 8, 7], []⟩)
  (.seq (.ops [
    ⟨(some 53), none, (.load 2 true (.t 7))⟩,
    ⟨(some 54), none, (.load 2 true (.t 11))⟩,
    ⟨(some 55), none, (.call 52 [(.t 53), (.t 54)])⟩,
    ⟨(some 52), none, (.mv (.t 55))⟩,
    ⟨(some 56), none, (.ext 0 (.t 52))⟩,
    ⟨(some 57), none, (.ext 1 (.t 52))⟩,
    ⟨(some 14), none, (.alloc [(.int .i64 0), (.ro 1 [] true)])⟩,
    ⟨none, none, (.store 2 (.t 14) (.t 56))⟩,
    ⟨(some 15), none, (.mv (.t 57))⟩] ⟨false, [], []⟩)
  (.seq (.ops [
    ⟨(some 59), none, (.load 2 true (.t 11))⟩,
    ⟨(some 60), none, (.load 2 true (.t 13))⟩,
    ⟨(some 61), none, (.call 52 [(.t 59), (.t 60)])⟩,
    ⟨(some 58), none, (.mv (.t 61))⟩,
    ⟨(some 62), none, (.ext 0 (.t 58))⟩,
    ⟨(some 63), none, (.ext 1 (.t 58))⟩,
    ⟨(some 16), none, (.alloc [(.int .i64 0), (.ro 1 [] true)])⟩,
    ⟨none, none, (.store 2 (.t 16) (.t 62))⟩,
    ⟨(some 17), none, (.mv (.t 63))⟩] ⟨false, [], []⟩)
  (.seq (.ops [
    ⟨(some 65), none, (.load 2 true (.t 14))⟩,
    ⟨(some 66), none, (.load 2 true (.t 13))⟩,
    ⟨(some 67), none, (.call 52 [(.t 65), (.t 66)])⟩,
    ⟨(some 64), none, (.mv (.t 67))⟩,
    ⟨(some 68), none, (.ext 0 (.t 64))⟩,
    ⟨(some 69), none, (.ext 1 (.t 64))⟩,
    ⟨(some 18), none, (.alloc [(.int .i64 0), (.ro 1 [] true)])⟩,
    ⟨none, none, (.store 2 (.t 18) (.t 68))⟩,
    ⟨(some 19), none, (.mv (.t 69))⟩] ⟨true, [19, 18, 17, 16, 15, 14, 10, 9, 8, 7], []⟩)
  (.seq (.ops [
    ⟨(some 71), none, (.load 2 true (.t 7))⟩,
    ⟨(some 72), none, (.load 2 true (.t 16))⟩,
    ⟨(some 73), none, (.call 52 [(.t 71), (.t 72)])⟩,
    ⟨(some 70), none, (.mv (.t 73))⟩,
    ⟨(some 74), none, (.ext 0 (.t 70))⟩,
    ⟨(some 75), none, (.ext 1 (.t 70))⟩,
    ⟨(some 20), none, (.alloc [(.int .i64 0), (.ro 1 [] true)])⟩,
    ⟨none, none, (.store 2 (.t 20) (.t 74))⟩,
    ⟨(some 21), none, (.mv (.t 75))⟩] ⟨false, [], []⟩)
  (.seq (.ops [
    ⟨(some 76), none, (.load 2 true (.t 8))⟩,
    ⟨(some 77), none, (.fld 1 (.t 7))⟩,
    ⟨(some 78), none, (.load 1 false (.t 77))⟩,
    ⟨(some 79), none, (.call 64 [(.t 76), (.t 78)])⟩,
    ⟨(some 22), none, (.mv (.t 79))⟩] ⟨false, [], []⟩)
  (.seq (.ops [
    ⟨(some 80), none, (.load 2 true (.t 9))⟩,
    ⟨(some 81), none, (.mv (.t 22))⟩,
    ⟨(some 82), none, (.call 64 [(.t 80), (.t 81)])⟩,
    ⟨(some 23), none, (.mv (.t 82))⟩] ⟨false, [], []⟩)
  (.seq (.seq (.ops [
     ⟨(some 83), none, (.mv (.t 17))⟩,
     ⟨(some 84), none, (.bin .neq (.t 83) (.c (.int .i64 0)))⟩,
     ⟨(some 85), none, (.mv (.t 84))⟩,
     ⟨(some 86), (some (85, false)), (.load 2 true (.t 14))⟩,
     ⟨(some 87), (some (85, false)), (.mv (.t 15))⟩,
     ⟨(some 88), (some (85, false)), (.fld 0 (.t 7))⟩,
     ⟨(some 89), (some (85, false)), (.load 1 false (.t 88))⟩,
     ⟨(some 90), (some (85, false)), (.mv (.t 22))⟩,
     ⟨(some 91), (some (85, false)), (.call 58 [(.t 86), (.t 87), (.t 89), (.t 90), (.c (.int .i64 0))])⟩,
     ⟨(some 92), (some (85, false)), (.un .not (.t 91))⟩,
     ⟨(some 93), none, (.pick (.t 85) (.c (.bool true)) (.t 92))⟩,
     ⟨(some 94), none, (.mv (.t 93))⟩,
     ⟨(some 95), (some (94, false)), (.load 2 true (.t 18))⟩,
     ⟨(some 96), (some (94, false)), (.mv (.t 19))⟩,
     ⟨(some 97), (some (94, false)), (.fld 0 (.t 7))⟩,
     ⟨(some 98), (some (94, false)), (.load 1 false (.t 97))⟩,
     ⟨(some 99), (some (94, false)), (.mv (.t 23))⟩,
     ⟨(some 100), (some (94, false)), (.call 58 [(.t 95), (.t 96), (.t 98), (.t 99), (.c (.int .i64 0))])⟩,
     ⟨(some 101), (some (94, false)), (.un .not (.t 100))⟩,
     ⟨(some 102), none, (.pick (.t 94) (.c (.bool true)) (.t 101))⟩,
     ⟨(some 103), none, (.mv (.t 102))⟩,
     ⟨(some 104), (some (103, false)), (.load 2 true (.t 20))⟩,
     ⟨(some 105), (some (103, false)), (.mv (.t 21))⟩,
     ⟨(some 106), (some (103, false)), (.fld 0 (.t 7))⟩,
     ⟨(some 107), (some (103, false)), (.load 1 false (.t 106))⟩,
     ⟨(some 108), (some (103, false)), (.mv (.t 23))⟩,
     ⟨(some 109), (some (103, false)), (.call 58 [(.t 104), (.t 105), (.t 107), (.t 108), (.c (.int .i64 0))])⟩,
     ⟨(some 110), (some (103, false)), (.un .not (.t 109))⟩,
     ⟨(some 111), none, (.pick (.t 103) (.c (.bool true)) (.t 110))⟩] ⟨true, [111, 10, 7], []⟩)
   (.cond (.t 111) (.seq (.ops [
       ⟨(some 6), none, (.mv (.c (.bool false)))⟩] ⟨false, [], []⟩)
     .ret)
    .skip))
  (.seq (.ops [
    ⟨(some 113), none, (.fld 0 (.t 7))⟩,
    ⟨(some 114), none, (.load 1 false (.t 113))⟩,
    ⟨(some 115), none, (.call 65 [(.t 114)])⟩,
    ⟨(some 112), none, (.mv (.t 115))⟩,
    ⟨(some 116), none, (.ext 0 (.t 112))⟩,
    ⟨(some 117), none, (.ext 1 (.t 112))⟩,
    ⟨(some 24), none, (.alloc [(.int .i64 0), (.ro 1 [] true)])⟩,
    ⟨none, none, (.store 2 (.t 24) (.t 116))⟩,
    ⟨(some 15), none, (.mv (.t 117))⟩] ⟨false, [], []⟩)
  (.seq (.ops [
    ⟨(some 119), none, (.mv (.t 10))⟩,
    ⟨(some 120), none, (.call 65 [(.t 119)])⟩,
    ⟨(some 118), none, (.mv (.t 120))⟩,
    ⟨(some 121), none, (.ext 0 (.t 118))⟩,
    ⟨(some 122), none, (.ext 1 (.t 118))⟩,
    ⟨(some 25), none, (.alloc [(.int .i64 0), (.ro 1 [] true)])⟩,
    ⟨none, none, (.store 2 (.t 25) (.t 121))⟩,
    ⟨(some 17), none, (.mv (.t 122))⟩] ⟨true, [25, 24, 17, 15, 7], []⟩)
  (.seq (.ops [
    ⟨(some 124), none, (.load 2 true (.t 24))⟩,
    ⟨(some 125), none, (.load 2 true (.t 7))⟩,
    ⟨(some 126), none, (.call 52 [(.t 124), (.t 125)])⟩,
    ⟨(some 123), none, (.mv (.t 126))⟩,
    ⟨(some 127), none, (.ext 0 (.t 123))⟩,
    ⟨(some 128), none, (.ext 1 (.t 123))⟩,
    ⟨(some 26), none, (.alloc [(.int .i64 0), (.ro 1 [] true)])⟩,
    ⟨none, none, (.store 2 (.t 26) (.t 127))⟩,
    ⟨(some 19), none, (.mv (.t 128))⟩] ⟨false, [], []⟩)
  (.seq (.ops [
    ⟨(some 130), none, (.load 2 true (.t 7))⟩,
    ⟨(some 131), none, (.load 2 true (.t 25))⟩,
    ⟨(some 132), none, (.call 52 [(.t 130), (.t 131)])⟩,
    ⟨(some 129), none, (.mv (.t 132))⟩,
    ⟨(some 133), none, (.ext 0 (.t 129))⟩,
    ⟨(some 134), none, (.ext 1 (.t 129))⟩,
    ⟨(some 27), none, (.alloc [(.int .i64 0), (.ro 1 [] true)])⟩,
    ⟨none, none, (.store 2 (.t 27) (.t 133))⟩,
    ⟨(some 21), none, (.mv (.t 134))⟩] ⟨false, [], []⟩)
  (.seq (.ops [
    ⟨(some 135), none, (.mv (.t 15))⟩,
    ⟨(some 136), none, (.bin .eql (.t 135) (.c (.int .i64 0)))⟩,
    ⟨(some 137), none, (.mv (.t 136))⟩,
    ⟨(some 138), (some (137, true)), (.mv (.t 17))⟩,
    ⟨(some 139), (some (137, true)), (.bin .eql (.t 138) (.c (.int .i64 0)))⟩,
    ⟨(some 140), none, (.pick (.t 137) (.t 139) (.c (.bool false)))⟩,
    ⟨(some 141), none, (.mv (.t 140))⟩,
    ⟨(some 142), (some (141, true)), (.load 2 true (.t 26))⟩,
    ⟨(some 143), (some (141, true)), (.mv (.t 19))⟩,
    ⟨(some 144), (some (141, true)), (.fld 0 (.t 7))⟩,
    ⟨(some 145), (some (141, true)), (.load 1 false (.t 144))⟩,
    ⟨(some 146), (some (141, true)), (.fld 1 (.t 7))⟩,
    ⟨(some 147), (some (141, true)), (.load 1 false (.t 146))⟩,
    ⟨(some 148), (some (141, true)), (.call 58 [(.t 142), (.t 143), (.t 145), (.t 147), (.c (.int .i64 0))])⟩,
    ⟨(some 149), none, (.pick (.t 141) (.t 148) (.c (.bool false)))⟩,
    ⟨(some 150), none, (.mv (.t 149))⟩,
    ⟨(some 151), (some (150, true)), (.load 2 true (.t 27))⟩,
    ⟨(some 152), (some (150, true)), (.mv (.t 21))⟩,
    ⟨(some 153), (some (150, true)), (.fld 0 (.t 7))⟩,
    ⟨(some 154), (some (150, true)), (.load 1 false (.t 153))⟩,
    ⟨(some 155), (some (150, true)), (.fld 1 (.t 7))⟩,
    ⟨(some 156), (some (150, true)), (.load 1 false (.t 155))⟩,
    ⟨(some 157), (some (150, true)), (.call 58 [(.t 151), (.t 152), (.t 154), (.t 156), (.c (.int .i64 0))])⟩,
    ⟨(some 158), none, (.pick (.t 150) (.t 157) (.c (.bool false)))⟩,
    ⟨(some 159), none, (.mv (.t 158))⟩,
    ⟨(some 160), (some (159, true)), (.call 49 [])⟩,
    ⟨(some 161), none, (.pick (.t 159) (.t 160) (.c (.bool false)))⟩,
    ⟨(some 6), none, (.mv (.t 161))⟩] ⟨true, [6], []⟩)
  .ret))))))))))))))))))))⟩

/- paternoster/paternosterlaw09.RemapsKnown -/
def w48 : WFn := ⟨0, [.tmp 0],
 (.seq (.ops [
    ⟨(some 0), none, (.mv (.c (.bool false)))⟩] ⟨false, [], []⟩)
  (.seq (.ops [
    ⟨(some 23), none, (.call 62 [(.c (.int .i64 4096)), (.c (.int .i64 0)), (.c (.int .i64 1)), (.c (.int .i64 4095))])⟩,
    ⟨(some 22), none, (.mv (.t 23))⟩,
    ⟨(some 24), none, (.ext 0 (.t 22))⟩,
    ⟨(some 25), none, (.ext 1 (.t 22))⟩,
    ⟨(some 1), none, (.alloc [(.int .i64 0), (.ro 1 [] true)])⟩,
    ⟨none, none, (.store 2 (.t 1) (.t 24))⟩,
    ⟨(some 2), none, (.mv (.t 25))⟩] ⟨false, [], []⟩)
  (.seq (.ops [
    ⟨(some 27), none, (.call 66 [(.c (.int .i64 4000)), (.c (.int .i64 4000)), (.c (.int .i64 96))])⟩,
    ⟨(some 26), none, (.mv (.t 27))⟩,
    ⟨(some 28), none, (.ext 0 (.t 26))⟩,
    ⟨(some 29), none, (.ext 1 (.t 26))⟩,
    ⟨(some 3), none, (.alloc [(.int .i64 0), (.ro 1 [] true)])⟩,
    ⟨none, none, (.store 2 (.t 3) (.t 28))⟩,
    ⟨(some 4), none, (.mv (.t 29))⟩] ⟨false, [], []⟩)
  (.seq (.ops [
    ⟨(some 31), none, (.call 66 [(.c (.int .i64 4000)), (.c (.int .i64 0)), (.c (.int .i64 97))])⟩,
    ⟨(some 30), none, (.mv (.t 31))⟩,
    ⟨(some 32), none, (.ext 0 (.t 30))⟩,
    ⟨(some 33), none, (.ext 1 (.t 30))⟩,
    ⟨(some 5), none, (.alloc [(.int .i64 0), (.ro 1 [] true)])⟩,
    ⟨none, none, (.store 2 (.t 5) (.t 32))⟩,
    ⟨(some 6), none, (.mv (.t 33))⟩] ⟨true, [6, 4, 3, 2, 1], []⟩)
  (.seq (.ops [
    ⟨(some 35), none, (.call 65 [(.c (.int .i64 4097))])⟩,
    ⟨(some 34), none, (.mv (.t 35))⟩,
    ⟨(some 36), none, (.ext 0 (.t 34))⟩,
    ⟨(some 37), none, (.ext 1 (.t 34))⟩,
    ⟨(some 7), none, (.alloc [(.int .i64 0), (.ro 1 [] true)])⟩,
    ⟨none, none, (.store 2 (.t 7) (.t 36))⟩,
    ⟨(some 8), none, (.mv (.t 37))⟩] ⟨false, [], []⟩)
  (.seq (.ops [
    ⟨(some 39), none, (.load 2 true (.t 1))⟩,
    ⟨(some 40), none, (.call 54 [(.t 39), (.c (.int .i64 0))])⟩,
    ⟨(some 38), none, (.mv (.t 40))⟩,
    ⟨(some 41), none, (.ext 0 (.t 38))⟩,
    ⟨(some 42), none, (.ext 1 (.t 38))⟩,
    ⟨(some 9), none, (.mv (.t 41))⟩,
    ⟨(some 10), none, (.mv (.t 42))⟩] ⟨false, [], []⟩)
  (.seq (.ops [
    ⟨(some 44), none, (.load 2 true (.t 1))⟩,
    ⟨(some 45), none, (.call 54 [(.t 44), (.c (.int .i64 4095))])⟩,
    ⟨(some 43), none, (.mv (.t 45))⟩,
    ⟨(some 46), none, (.ext 0 (.t 43))⟩,
    ⟨(some 47), none, (.ext 1 (.t 43))⟩,
    ⟨(some 11), none, (.mv (.t 46))⟩,
    ⟨(some 12), none, (.mv (.t 47))⟩] ⟨false, [], []⟩)
  (.seq (.ops [
    ⟨(some 49), none, (.load 2 true (.t 3))⟩,
    ⟨(some 50), none, (.call 55 [(.t 49)])⟩,
    ⟨(some 48), none, (.mv (.t 50))⟩,
    ⟨(some 51), none, (.ext 0 (.t 48))⟩,
    ⟨(some 52), none, (.ext 1 (.t 48))⟩,
    ⟨(some 13), none, (.mv (.t 51))⟩,
    ⟨(some 14), none, (.mv (.t 52))⟩] ⟨true, [14, 13, 12, 11, 10, 9, 8, 6, 4, 3, 2], []⟩)
  (.seq (.ops [
    ⟨(some 54), none, (.call 66 [(.c (.int .i64 4096)), (.c (.int .i64 0)), (.c (.int .i64 9223372036854775807))])⟩,
    ⟨(some 53), none, (.mv (.t 54))⟩,
    ⟨(some 55), none, (.ext 0 (.t 53))⟩,
    ⟨(some 56), none, (.ext 1 (.t 53))⟩,
    ⟨(some 15), none, (.alloc [(.int .i64 0), (.ro 1 [] true)])⟩,
    ⟨none, none, (.store 2 (.t 15) (.t 55))⟩,
    ⟨(some 16), none, (.mv (.t 56))⟩] ⟨false, [], []⟩)
  (.seq (.ops [
    ⟨(some 58), none, (.call 67 [(.c (.int .i64 5)), (.c (.int .i64 9223372036854775807)), (.c (.int .i64 1))])⟩,
    ⟨(some 57), none, (.mv (.t 58))⟩,
    ⟨(some 59), none, (.ext 0 (.t 57))⟩,
    ⟨(some 60), none, (.ext 1 (.t 57))⟩,
    ⟨(some 17), none, (.alloc [(.int .i64 0), (.ro 1 [] true)])⟩,
    ⟨none, none, (.store 2 (.t 17) (.t 59))⟩,
    ⟨(some 18), none, (.mv (.t 60))⟩] ⟨false, [], []⟩)
  (.seq (.ops [
    ⟨(some 62), none, (.call 67 [(.c (.int .i64 5)), (.c (.int .i64 1)), (.c (.int .i64 9223372036854775807))])⟩,
    ⟨(some 61), none, (.mv (.t 62))⟩,
    ⟨(some 63), none, (.ext 0 (.t 61))⟩,
    ⟨(some 64), none, (.ext 1 (.t 61))⟩,
    ⟨(some 19), none, (.alloc [(.int .i64 0), (.ro 1 [] true)])⟩,
    ⟨none, none, (.store 2 (.t 19) (.t 63))⟩,
    ⟨(some 20), none, (.mv (.t 64))⟩] ⟨false, [], []⟩)
  (.seq (.seq (.ops [
     ⟨(some 65), none, (.mv (.t 2))⟩,
     ⟨(some 66), none, (.mv (.t 4))⟩,
     ⟨(some 67), none, (.bin .add (.t 65) (.t 66))⟩,
     ⟨(some 68), none, (.mv (.t 10))⟩,
     ⟨(some 69), none, (.bin .add (.t 67) (.t 68))⟩,
     ⟨(some 70), none, (.mv (.t 12))⟩,
     ⟨(some 71), none, (.bin .add (.t 69) (.t 70))⟩,
     ⟨(some 72), none, (.mv (.t 14))⟩,
     ⟨(some 73), none, (.bin .add (.t 71) (.t 72))⟩,
     ⟨(some 74), none, (.bin .neq (.t 73) (.c (.int .i64 0)))⟩,
     ⟨(some 75), none, (.mv (.t 74))⟩,
     ⟨(some 76), (some (75, false)), (.mv (.t 6))⟩,
     ⟨(some 77), (some (75, false)), (.bin .neq (.t 76) (.c (.int .i64 3)))⟩,
     ⟨(some 78), none, (.pick (.t 75) (.c (.bool true)) (.t 77))⟩,
     ⟨(some 79), none, (.mv (.t 78))⟩,
     ⟨(some 80), (some (79, false)), (.mv (.t 8))⟩,
     ⟨(some 81), (some (79, false)), (.bin .neq (.t 80) (.c (.int .i64 4)))⟩,
     ⟨(some 82), none, (.pick (.t 79) (.c (.bool true)) (.t 81))⟩,
     ⟨(some 83), none, (.mv (.t 82))⟩,
     ⟨(some 84), (some (83, false)), (.mv (.t 9))⟩,
     ⟨(some 85), (some (83, false)), (.bin .neq (.t 84) (.c (.int .i64 4095)))⟩,
     ⟨(some 86), none, (.pick (.t 83) (.c (.bool true)) (.t 85))⟩,
     ⟨(some 87), none, (.mv (.t 86))⟩,
     ⟨(some 88), (some (87, false)), (.mv (.t 11))⟩,
     ⟨(some 89), (some (87, false)), (.bin .neq (.t 88) (.c (.int .i64 4094)))⟩,
     ⟨(some 90), none, (.pick (.t 87) (.c (.bool true)) (.t 89))⟩,
     ⟨(some 91), none, (.mv (.t 90))⟩,
     ⟨(some 92), (some (91, false)), (.mv (.t 13))⟩,
     ⟨(some 93), (some (91, false)), (.len 1 (.t 92))⟩,
     ⟨(some 94), (some (91, false)), (.bin .neq (.t 93) (.c (.int .i64 0)))⟩,
     ⟨(some 95), none, (.pick (.t 91) (.c (.bool true)) (.t 94))⟩,
     ⟨(some 96), none, (.mv (.t 95))⟩,
     ⟨(some 97), (some (96, false)), (.fld 1 (.t 3))⟩,
     ⟨(some 98), (some (96, false)), (.load 1 false (.t 97))⟩,
     ⟨(some 99), (some (96, false)), (.len 1 (.t 98))⟩,
     ⟨(some 100), (some (96, false)), (.bin .neq (.t 99) (.c (.int .i64 4096)))⟩,
     ⟨(some 101), none, (.pick (.t 96) (.c (.bool true)) (.t 100))⟩,
     ⟨(some 102), none, (.mv (.t 101))⟩,
     ⟨(some 103), (some (102, false)), (.mv (.t 16))⟩,
     ⟨(some 104), (some (102, false)), (.bin .neq (.t 103) (.c (.int .i64 3)))⟩,
     ⟨(some 105), none, (.pick (.t 102) (.c (.bool true)) (.t 104))⟩,
     ⟨(some 106), none, (.mv (.t 105))⟩,
     ⟨(some 107), (some (106, false)), (.mv (.t 18))⟩,
     ⟨(some 108), (some (106, false)), (.bin .neq (.t 107) (.c (.int .i64 4)))⟩,
     ⟨(some 109), none, (.pick (.t 106) (.c (.bool true)) (.t 108))⟩,
     ⟨(some 110), none, (.mv (.t 109))⟩,
     ⟨(some 111), (some (110, false)), (.mv (.t 20))⟩,
     ⟨(some 112), (some (110, false)), (.bin .neq (.t 111) (.c (.int .i64 4)))⟩,
     ⟨(some 113), none, (.pick (.t 110) (.c (.bool true)) (.t 112))⟩] ⟨true, [113], []⟩)
   (.cond (.t 113) (.seq (.ops [
       ⟨(some 0), none, (.mv (.c (.bool false)))⟩] ⟨false, [], []⟩)
     .ret)
    .skip))
  (.seq (.ops [
    ⟨(some 115), none, (.call 65 [(.c (.int .i64 0))])⟩,
    ⟨(some 114), none, (.mv (.t 115))⟩,
    ⟨(some 116), none, (.ext 0 (.t 114))⟩,
    ⟨(some 117), none, (.ext 1 (.t 114))⟩,
    ⟨(some 21), none, (.alloc [(.int .i64 0), (.ro 1 [] true)])⟩,
    ⟨none, none, (.store 2 (.t 21) (.t 116))⟩,
    ⟨(some 2), none, (.mv (.t 117))⟩] ⟨false, [], []⟩)
  (.seq (.ops [
    ⟨(some 118), none, (.load 2 true (.t 21))⟩,
    ⟨(some 119), none, (.mv (.t 2))⟩,
    ⟨(some 120), none, (.call 58 [(.t 118), (.t 119), (.c (.int .i64 0)), (.c (.ro 1 [] true)), (.c (.int .i64 0))])⟩,
    ⟨(some 121), none, (.mv (.t 120))⟩,
    ⟨(some 122), (some (121, true)), (.call 51 [(.c (.int .i64 4097)), (.c (.ro 1 [] true))])⟩,
    ⟨(some 123), (some (121, true)), (.call 56 [(.t 122)])⟩,
    ⟨(some 124), (some (121, true)), (.bin .eql (.t 123) (.c (.int .i64 3)))⟩,
    ⟨(some 125), none, (.pick (.t 121) (.t 124) (.c (.bool false)))⟩,
    ⟨(some 126), none, (.mv (.t 125))⟩,
    ⟨(some 127), (some (126, true)), (.call 51 [(.c (.int .i64 (-1))), (.c (.ro 1 [] true))])⟩,
    ⟨(some 128), (some (126, true)), (.call 56 [(.t 127)])⟩,
    ⟨(some 129), (some (126, true)), (.bin .eql (.t 128) (.c (.int .i64 1)))⟩,
    ⟨(some 130), none, (.pick (.t 126) (.t 129) (.c (.bool false)))⟩,
    ⟨(some 131), none, (.mv (.t 130))⟩,
    ⟨(some 132), (some (131, true)), (.mksl [(.int .i64 0)] 8 (.c (.int .i64 4097)) (.c (.int .i64 4097)))⟩,
    ⟨(some 133), (some (131, true)), (.build [(.int .i64 0), (.ro 1 [] true)] [(1, 1, (.t 132))])⟩,
    ⟨(some 134), (some (131, true)), (.call 56 [(.t 133)])⟩,
    ⟨(some 135), (some (131, true)), (.bin .eql (.t 134) (.c (.int .i64 3)))⟩,
    ⟨(some 136), none, (.pick (.t 131) (.t 135) (.c (.bool false)))⟩,
    ⟨(some 137), none, (.mv (.t 136))⟩,
    ⟨(some 138), (some (137, true)), (.buildS [(.int .i64 0)] 3 [(0, (.c (.int .i64 (-1)))), (1, (.c (.int .i64 (-1)))), (2, (.c (.int .i64 0)))])⟩,
    ⟨(some 139), (some (137, true)), (.call 51 [(.c (.int .i64 1)), (.t 138)])⟩,
    ⟨(some 140), (some (137, true)), (.call 56 [(.t 139)])⟩,
    ⟨(some 141), (some (137, true)), (.bin .eql (.t 140) (.c (.int .i64 0)))⟩,
    ⟨(some 142), none, (.pick (.t 137) (.t 141) (.c (.bool false)))⟩,
    ⟨(some 143), none, (.mv (.t 142))⟩,
    ⟨(some 144), (some (143, true)), (.buildS [(.int .i64 0)] 1 [(0, (.c (.int .i64 (-2))))])⟩,
    ⟨(some 145), (some (143, true)), (.call 51 [(.c (.int .i64 1)), (.t 144)])⟩,
    ⟨(some 146), (some (143, true)), (.call 56 [(.t 145)])⟩,
    ⟨(some 147), (some (143, true)), (.bin .eql (.t 146) (.c (.int .i64 4)))⟩,
    ⟨(some 148), none, (.pick (.t 143) (.t 147) (.c (.bool false)))⟩,
    ⟨(some 149), none, (.mv (.t 148))⟩,
    ⟨(some 150), (some (149, true)), (.call 49 [])⟩,
    ⟨(some 151), none, (.pick (.t 149) (.t 150) (.c (.bool false)))⟩,
    ⟨(some 0), none, (.mv (.t 151))⟩] ⟨true, [0], []⟩)
  .ret))))))))))))))⟩

/- paternoster/paternosterlaw09.lives -/
def w49 : WFn := ⟨0, [.tmp 0],
 (.seq (.ops [
    ⟨(some 0), none, (.mv (.c (.bool false)))⟩] ⟨false, [], []⟩)
  (.seq (.ops [
    ⟨(some 20), none, (.call 66 [(.c (.int .i64 3)), (.c (.int .i64 1)), (.c (.int .i64 2))])⟩,
    ⟨(some 19), none, (.mv (.t 20))⟩,
    ⟨(some 21), none, (.ext 0 (.t 19))⟩,
    ⟨(some 22), none, (.ext 1 (.t 19))⟩,
    ⟨(some 1), none, (.alloc [(.int .i64 0), (.ro 1 [] true)])⟩,
    ⟨none, none, (.store 2 (.t 1) (.t 21))⟩,
    ⟨(some 2), none, (.mv (.t 22))⟩] ⟨false, [], []⟩)
  (.seq (.ops [
    ⟨(some 24), none, (.call 67 [(.c (.int .i64 4)), (.c (.int .i64 1)), (.c (.int .i64 2))])⟩,
    ⟨(some 23), none, (.mv (.t 24))⟩,
    ⟨(some 25), none, (.ext 0 (.t 23))⟩,
    ⟨(some 26), none, (.ext 1 (.t 23))⟩,
    ⟨(some 3), none, (.alloc [(.int .i64 0), (.ro 1 [] true)])⟩,
    ⟨none, none, (.store 2 (.t 3) (.t 25))⟩,
    ⟨(some 4), none, (.mv (.t 26))⟩] ⟨false, [], []⟩)
  (.seq (.ops [
    ⟨(some 28), none, (.call 62 [(.c (.int .i64 4)), (.c (.int .i64 0)), (.c (.int .i64 1)), (.c (.int .i64 2))])⟩,
    ⟨(some 27), none, (.mv (.t 28))⟩,
    ⟨(some 29), none, (.ext 0 (.t 27))⟩,
    ⟨(some 30), none, (.ext 1 (.t 27))⟩,
    ⟨(some 5), none, (.alloc [(.int .i64 0), (.ro 1 [] true)])⟩,
    ⟨none, none, (.store 2 (.t 5) (.t 29))⟩,
    ⟨(some 6), none, (.mv (.t 30))⟩] ⟨false, [], []⟩)
  (.seq (.seq (.ops [
     ⟨(some 31), none, (.load 2 true (.t 1))⟩,
     ⟨(some 32), none, (.mv (.t 2))⟩,
     ⟨(some 33), none, (.buildS [(.int .i64 0)] 5 [(0, (.c (.int .i64 0))), (1, (.c (.int .i64 (-1)))), (2, (.c (.int .i64 (-1)))), (3, (.c (.int .i64 1))), (4, (.c (.int .i64 2)))])⟩,
     ⟨(some 34), none, (.call 58 [(.t 31), (.t 32), (.c (.int .i64 3)), (.t 33), (.c (.int .i64 0))])⟩,
     ⟨(some 35), none, (.un .not (.t 34))⟩,
     ⟨(some 36), none, (.mv (.t 35))⟩,
     ⟨(some 37), (some (36, false)), (.load 2 true (.t 3))⟩,
     ⟨(some 38), (some (36, false)), (.mv (.t 4))⟩,
     ⟨(some 39), (some (36, false)), (.buildS [(.int .i64 0)] 2 [(0, (.c (.int .i64 0))), (1, (.c (.int .i64 3)))])⟩,
     ⟨(some 40), (some (36, false)), (.call 58 [(.t 37), (.t 38), (.c (.int .i64 4)), (.t 39), (.c (.int .i64 0))])⟩,
     ⟨(some 41), (some (36, false)), (.un .not (.t 40))⟩,
     ⟨(some 42), none, (.pick (.t 36) (.c (.bool true)) (.t 41))⟩,
     ⟨(some 43), none, (.mv (.t 42))⟩,
     ⟨(some 44), (some (43, false)), (.load 2 true (.t 5))⟩,
     ⟨(some 45), (some (43, false)), (.mv (.t 6))⟩,
     ⟨(some 46), (some (43, false)), (.buildS [(.int .i64 0)] 4 [(0, (.c (.int .i64 1))), (1, (.c (.int .i64 2))), (2, (.c (.int .i64 0))), (3, (.c (.int .i64 3)))])⟩,
     ⟨(some 47), (some (43, false)), (.call 58 [(.t 44), (.t 45), (.c (.int .i64 4)), (.t 46), (.c (.int .i64 0))])⟩,
     ⟨(some 48), (some (43, false)), (.un .not (.t 47))⟩,
     ⟨(some 49), none, (.pick (.t 43) (.c (.bool true)) (.t 48))⟩] ⟨true, [49, 3, 1], []⟩)
   (.cond (.t 49) (.seq (.ops [
       ⟨(some 0), none, (.mv (.c (.bool false)))⟩] ⟨false, [], []⟩)
     .ret)
    .skip))
  (.seq (.ops [
    ⟨(some 51), none, (.call 67 [(.c (.int .i64 5)), (.c (.int .i64 0)), (.c (.int .i64 2))])⟩,
    ⟨(some 50), none, (.mv (.t 51))⟩,
    ⟨(some 52), none, (.ext 0 (.t 50))⟩,
    ⟨(some 53), none, (.ext 1 (.t 50))⟩,
    ⟨(some 7), none, (.alloc [(.int .i64 0), (.ro 1 [] true)])⟩,
    ⟨none, none, (.store 2 (.t 7) (.t 52))⟩,
    ⟨(some 2), none, (.mv (.t 53))⟩] ⟨false, [], []⟩)
  (.seq (.ops [
    ⟨(some 55), none, (.load 2 true (.t 1))⟩,
    ⟨(some 56), none, (.load 2 true (.t 7))⟩,
    ⟨(some 57), none, (.call 52 [(.t 55), (.t 56)])⟩,
    ⟨(some 54), none, (.mv (.t 57))⟩,
    ⟨(some 58), none, (.ext 0 (.t 54))⟩,
    ⟨(some 59), none, (.ext 1 (.t 54))⟩,
    ⟨none, none, (.store 2 (.t 7) (.t 58))⟩,
    ⟨(some 4), none, (.mv (.t 59))⟩] ⟨false, [], []⟩)
  (.seq (.ops [
    ⟨(some 61), none, (.load 2 true (.t 3))⟩,
    ⟨(some 62), none, (.call 53 [(.t 61)])⟩,
    ⟨(some 60), none, (.mv (.t 62))⟩,
    ⟨(some 63), none, (.ext 0 (.t 60))⟩,
    ⟨(some 64), none, (.ext 1 (.t 60))⟩,
    ⟨(some 8), none, (.alloc [(.int .i64 0), (.ro 1 [] true)])⟩,
    ⟨none, none, (.store 2 (.t 8) (.t 63))⟩,
    ⟨(some 6), none, (.mv (.t 64))⟩] ⟨true, [8, 7, 6, 4, 3, 2], []⟩)
  (.seq (.ops [
    ⟨(some 66), none, (.load 2 true (.t 3))⟩,
    ⟨(some 67), none, (.call 54 [(.t 66), (.c (.int .i64 3))])⟩,
    ⟨(some 65), none, (.mv (.t 67))⟩,
    ⟨(some 68), none, (.ext 0 (.t 65))⟩,
    ⟨(some 69), none, (.ext 1 (.t 65))⟩,
    ⟨(some 9), none, (.mv (.t 68))⟩,
    ⟨(some 10), none, (.mv (.t 69))⟩] ⟨false, [], []⟩)
  (.seq (.ops [
    ⟨(some 71), none, (.load 2 true (.t 3))⟩,
    ⟨(some 72), none, (.call 54 [(.t 71), (.c (.int .i64 1))])⟩,
    ⟨(some 70), none, (.mv (.t 72))⟩,
    ⟨(some 73), none, (.ext 0 (.t 70))⟩,
    ⟨(some 74), none, (.ext 1 (.t 70))⟩,
    ⟨(some 11), none, (.mv (.t 73))⟩,
    ⟨(some 12), none, (.mv (.t 74))⟩] ⟨false, [], []⟩)
  (.seq (.ops [
    ⟨(some 76), none, (.load 2 true (.t 3))⟩,
    ⟨(some 77), none, (.call 55 [(.t 76)])⟩,
    ⟨(some 75), none, (.mv (.t 77))⟩,
    ⟨(some 78), none, (.ext 0 (.t 75))⟩,
    ⟨(some 79), none, (.ext 1 (.t 75))⟩,
    ⟨(some 13), none, (.mv (.t 78))⟩,
    ⟨(some 14), none, (.mv (.t 79))⟩] ⟨false, [], []⟩)
  (.seq (.seq (.ops [
     ⟨(some 80), none, (.mv (.t 2))⟩,
     ⟨(some 81), none, (.bin .neq (.t 80) (.c (.int .i64 0)))⟩,
     ⟨(some 82), none, (.mv (.t 81))⟩,
     ⟨(some 83), (some (82, false)), (.load 2 true (.t 7))⟩,
     ⟨(some 84), (some (82, false)), (.mv (.t 4))⟩,
     ⟨(some 85), (some (82, false)), (.buildS [(.int .i64 0)] 3 [(0, (.c (.int .i64 (-1)))), (1, (.c (.int .i64 1))), (2, (.c (.int .i64 2)))])⟩,
     ⟨(some 86), (some (82, false)), (.call 58 [(.t 83), (.t 84), (.c (.int .i64 3)), (.t 85), (.c (.int .i64 0))])⟩,
     ⟨(some 87), (some (82, false)), (.un .not (.t 86))⟩,
     ⟨(some 88), none, (.pick (.t 82) (.c (.bool true)) (.t 87))⟩,
     ⟨(some 89), none, (.mv (.t 88))⟩,
     ⟨(some 90), (some (89, false)), (.load 2 true (.t 8))⟩,
     ⟨(some 91), (some (89, false)), (.mv (.t 6))⟩,
     ⟨(some 92), (some (89, false)), (.buildS [(.int .i64 0)] 4 [(0, (.c (.int .i64 0))), (1, (.c (.int .i64 (-1)))), (2, (.c (.int .i64 (-1)))), (3, (.c (.int .i64 1)))])⟩,
     ⟨(some 93), (some (89, false)), (.call 58 [(.t 90), (.t 91), (.c (.int .i64 2)), (.t 92), (.c (.int .i64 0))])⟩,
     ⟨(some 94), (some (89, false)), (.un .not (.t 93))⟩,
     ⟨(some 95), none, (.pick (.t 89) (.c (.bool true)) (.t 94))⟩,
     ⟨(some 96), none, (.mv (.t 95))⟩,
     ⟨(some 97), (some (96, false)), (.mv (.t 9))⟩,
     ⟨(some 98), (some (96, false)), (.bin .neq (.t 97) (.c (.int .i64 1)))⟩,
     ⟨(some 99), none, (.pick (.t 96) (.c (.bool true)) (.t 98))⟩,
     ⟨(some 100), none, (.mv (.t 99))⟩,
     ⟨(some 101), (some (100, false)), (.mv (.t 10))⟩,
     ⟨(some 102), (some (100, false)), (.bin .neq (.t 101) (.c (.int .i64 0)))⟩,
     ⟨(some 103), none, (.pick (.t 100) (.c (.bool true)) (.t 102))⟩,
     ⟨(some 104), none, (.mv (.t 103))⟩,
     ⟨(some 105), (some (104, false)), (.mv (.t 12))⟩,
     ⟨(some 106), (some (104, false)), (.bin .neq (.t 105) (.c (.int .i64 11)))⟩,
     ⟨(some 107), none, (.pick (.t 104) (.c (.bool true)) (.t 106))⟩,
     ⟨(some 108), none, (.mv (.t 107))⟩,
     ⟨(some 109), (some (108, false)), (.mv (.t 13))⟩,
     ⟨(some 110), (some (108, false)), (.mv (.t 14))⟩,
     ⟨(some 111), (some (108, false)), (.buildS [(.int .i64 0)] 2 [(0, (.c (.int .i64 1))), (1, (.c (.int .i64 2)))])⟩,
     ⟨(some 112), (some (108, false)), (.call 59 [(.t 109), (.t 110), (.t 111), (.c (.int .i64 0))])⟩,
     ⟨(some 113), (some (108, false)), (.un .not (.t 112))⟩,
     ⟨(some 114), none, (.pick (.t 108) (.c (.bool true)) (.t 113))⟩] ⟨true, [114], []⟩)
   (.cond (.t 114) (.seq (.ops [
       ⟨(some 0), none, (.mv (.c (.bool false)))⟩] ⟨false, [], []⟩)
     .ret)
    .skip))
  (.seq (.ops [
    ⟨(some 116), none, (.buildS [(.int .i64 0)] 3 [(0, (.c (.int .i64 2))), (1, (.c (.int .i64 (-1)))), (2, (.c (.int .i64 0)))])⟩,
    ⟨(some 117), none, (.call 51 [(.c (.int .i64 3)), (.t 116)])⟩,
    ⟨(some 118), none, (.buildS [(.str [])] 3 [(0, (.c (.str [97]))), (1, (.c (.str [98]))), (2, (.c (.str [99])))])⟩,
    ⟨(some 119), none, (.call 72 [(.t 117), (.t 118)])⟩,
    ⟨(some 115), none, (.mv (.t 119))⟩,
    ⟨(some 120), none, (.ext 0 (.t 115))⟩,
    ⟨(some 121), none, (.ext 1 (.t 115))⟩,
    ⟨(some 15), none, (.mv (.t 120))⟩,
    ⟨(some 16), none, (.mv (.t 121))⟩] ⟨false, [], []⟩)
  (.seq (.ops [
    ⟨(some 123), none, (.buildS [(.int .i64 0)] 1 [(0, (.c (.int .i64 0)))])⟩,
    ⟨(some 124), none, (.call 51 [(.c (.int .i64 2)), (.t 123)])⟩,
    ⟨(some 125), none, (.buildS [(.int .i64 0)] 1 [(0, (.c (.int .i64 0)))])⟩,
    ⟨(some 126), none, (.call 51 [(.c (.int .i64 2)), (.t 125)])⟩,
    ⟨(some 127), none, (.call 52 [(.t 124), (.t 126)])⟩,
    ⟨(some 122), none, (.mv (.t 127))⟩,
    ⟨(some 128), none, (.ext 0 (.t 122))⟩,
    ⟨(some 129), none, (.ext 1 (.t 122))⟩,
    ⟨(some 17), none, (.alloc [(.int .i64 0), (.ro 1 [] true)])⟩,
    ⟨none, none, (.store 2 (.t 17) (.t 128))⟩,
    ⟨(some 18), none, (.mv (.t 129))⟩] ⟨false, [], []⟩)
  (.seq (.ops [
    ⟨(some 130), none, (.mv (.t 16))⟩,
    ⟨(some 131), none, (.bin .eql (.t 130) (.c (.int .i64 0)))⟩,
    ⟨(some 132), none, (.mv (.t 131))⟩,
    ⟨(some 133), (some (132, true)), (.mv (.t 15))⟩,
    ⟨(some 134), (some (132, true)), (.len 1 (.t 133))⟩,
    ⟨(some 135), (some (132, true)), (.bin .eql (.t 134) (.c (.int .i64 3)))⟩,
    ⟨(some 136), none, (.pick (.t 132) (.t 135) (.c (.bool false)))⟩,
    ⟨(some 137), none, (.mv (.t 136))⟩,
    ⟨(some 138), (some (137, true)), (.mv (.t 15))⟩,
    ⟨(some 139), (some (137, true)), (.idxs 1 (.t 138) (.c (.int .i64 0)))⟩,
    ⟨(some 140), (some (137, true)), (.load 1 false (.t 139))⟩,
    ⟨(some 141), (some (137, true)), (.bin .eql (.t 140) (.c (.str [99])))⟩,
    ⟨(some 142), none, (.pick (.t 137) (.t 141) (.c (.bool false)))⟩,
    ⟨(some 143), none, (.mv (.t 142))⟩,
    ⟨(some 144), (some (143, true)), (.mv (.t 15))⟩,
    ⟨(some 145), (some (143, true)), (.idxs 1 (.t 144) (.c (.int .i64 1)))⟩,
    ⟨(some 146), (some (143, true)), (.load 1 false (.t 145))⟩,
    ⟨(some 147), (some (143, true)), (.bin .eql (.t 146) (.c (.str [])))⟩,
    ⟨(some 148), none, (.pick (.t 143) (.t 147) (.c (.bool false)))⟩,
    ⟨(some 149), none, (.mv (.t 148))⟩,
    ⟨(some 150), (some (149, true)), (.mv (.t 15))⟩,
    ⟨(some 151), (some (149, true)), (.idxs 1 (.t 150) (.c (.int .i64 2)))⟩,
    ⟨(some 152), (some (149, true)), (.load 1 false (.t 151))⟩,
    ⟨(some 153), (some (149, true)), (.bin .eql (.t 152) (.c (.str [97])))⟩,
    ⟨(some 154), none, (.pick (.t 149) (.t 153) (.c (.bool false)))⟩,
    ⟨(some 155), none, (.mv (.t 154))⟩,
    ⟨(some 156), (some (155, true)), (.buildS [(.int .i64 0)] 2 [(0, (.c (.int .i64 0))), (1, (.c (.int .i64 0)))])⟩,
    ⟨(some 157), (some (155, true)), (.call 51 [(.c (.int .i64 2)), (.t 156)])⟩,
    ⟨(some 158), (some (155, true)), (.call 56 [(.t 157)])⟩,
    ⟨(some 159), (some (155, true)), (.bin .eql (.t 158) (.c (.int .i64 8)))⟩,
    ⟨(some 160), none, (.pick (.t 155) (.t 159) (.c (.bool false)))⟩,
    ⟨(some 161), none, (.mv (.t 160))⟩,
    ⟨(some 162), (some (161, true)), (.buildS [(.int .i64 0)] 1 [(0, (.c (.int .i64 2)))])⟩,
    ⟨(some 163), (some (161, true)), (.call 51 [(.c (.int .i64 2)), (.t 162)])⟩,
    ⟨(some 164), (some (161, true)), (.call 56 [(.t 163)])⟩,
    ⟨(some 165), (some (161, true)), (.bin .eql (.t 164) (.c (.int .i64 4)))⟩,
    ⟨(some 166), none, (.pick (.t 161) (.t 165) (.c (.bool false)))⟩,
    ⟨(some 167), none, (.mv (.t 166))⟩,
    ⟨(some 168), (some (167, true)), (.mv (.t 18))⟩,
    ⟨(some 169), (some (167, true)), (.bin .eql (.t 168) (.c (.int .i64 16)))⟩,
    ⟨(some 170), none, (.pick (.t 167) (.t 169) (.c (.bool false)))⟩,
    ⟨(some 0), none, (.mv (.t 170))⟩] ⟨true, [0], []⟩)
  .ret)))))))))))))))⟩

/- paternoster/paternosterref09.Check -/
def w50_c0 : WCode := (.seq (.ops [
    ⟨(some 4), none, (.mv (.c (.int .i64 0)))⟩] ⟨false, [], []⟩)
  .ret)

def w50_c1 : WCode := (.ops [
   ⟨(some 20), none, (.mv (.t 5))⟩,
   ⟨(some 21), none, (.bin .add (.t 20) (.c (.int .i64 1)))⟩,
   ⟨(some 5), none, (.mv (.t 21))⟩] ⟨false, [], []⟩)

def w50_B1 : WCode := (.seq (.seq (.ops [
     ⟨(some 35), none, (.mv (.t 6))⟩,
     ⟨(some 36), none, (.mv (.t 5))⟩,
     ⟨(some 37), none, (.bin .lss (.t 35) (.t 36))⟩,
     ⟨(some 38), none, (.mv (.t 37))⟩,
     ⟨(some 39), (some (38, true)), (.mv (.t 1))⟩,
     ⟨(some 40), (some (38, true)), (.mv (.t 5))⟩,
     ⟨(some 41), (some (38, true)), (.idxs 1 (.t 39) (.t 40))⟩,
     ⟨(some 42), (some (38, true)), (.load 1 false (.t 41))⟩,
     ⟨(some 43), (some (38, true)), (.bin .geq (.t 42) (.c (.int .i64 0)))⟩,
     ⟨(some 44), none, (.pick (.t 38) (.t 43) (.c (.bool false)))⟩] ⟨true, [44, 6, 5, 1, 0], []⟩)
   (.cond (.t 44) .skip
    (.exit 2)))
  (.seq (.block 3 (.seq (.draw [
      ⟨(some 47), none, (.mv (.t 1))⟩,
      ⟨(some 48), none, (.mv (.t 6))⟩,
      ⟨(some 49), none, (.idxs 1 (.t 47) (.t 48))⟩,
      ⟨(some 50), none, (.load 1 false (.t 49))⟩,
      ⟨(some 51), none, (.mv (.t 1))⟩,
      ⟨(some 52), none, (.mv (.t 5))⟩,
      ⟨(some 53), none, (.idxs 1 (.t 51) (.t 52))⟩,
      ⟨(some 54), none, (.load 1 false (.t 53))⟩,
      ⟨(some 55), none, (.bin .eql (.t 50) (.t 54))⟩] [] ⟨false, [], []⟩)
    (.cond (.t 55) (.seq (.ops [
        ⟨(some 4), none, (.mv (.c (.int .i64 8)))⟩] ⟨false, [], []⟩)
      .ret)
     .skip)) ⟨false, [], []⟩)
  (.ops [
   ⟨(some 45), none, (.mv (.t 6))⟩,
   ⟨(some 46), none, (.bin .add (.t 45) (.c (.int .i64 1)))⟩,
   ⟨(some 6), none, (.mv (.t 46))⟩] ⟨false, [], []⟩)))
def w50_L1 : WCode := .loop ⟨true, [6, 5, 1, 0], []⟩ w50_B1
def w50_B0 : WCode := (.seq (.seq (.ops [
     ⟨(some 16), none, (.mv (.t 5))⟩,
     ⟨(some 17), none, (.mv (.t 1))⟩,
     ⟨(some 18), none, (.len 1 (.t 17))⟩,
     ⟨(some 19), none, (.bin .lss (.t 16) (.t 18))⟩] ⟨false, [], []⟩)
   (.cond (.t 19) .skip
    (.exit 0)))
  (.seq (.block 1 (.seq (.seq (.ops [
       ⟨(some 22), none, (.mv (.t 1))⟩,
       ⟨(some 23), none, (.mv (.t 5))⟩,
       ⟨(some 24), none, (.idxs 1 (.t 22) (.t 23))⟩,
       ⟨(some 25), none, (.load 1 false (.t 24))⟩,
       ⟨(some 26), none, (.bin .lss (.t 25) (.c (.int .i64 (-1))))⟩,
       ⟨(some 27), none, (.mv (.t 26))⟩,
       ⟨(some 28), (some (27, false)), (.mv (.t 1))⟩,
       ⟨(some 29), (some (27, false)), (.mv (.t 5))⟩,
       ⟨(some 30), (some (27, false)), (.idxs 1 (.t 28) (.t 29))⟩,
       ⟨(some 31), (some (27, false)), (.load 1 false (.t 30))⟩,
       ⟨(some 32), (some (27, false)), (.mv (.t 0))⟩,
       ⟨(some 33), (some (27, false)), (.bin .geq (.t 31) (.t 32))⟩,
       ⟨(some 34), none, (.pick (.t 27) (.c (.bool true)) (.t 33))⟩] ⟨false, [], []⟩)
     (.cond (.t 34) (.seq (.ops [
         ⟨(some 4), none, (.mv (.c (.int .i64 4)))⟩] ⟨false, [], []⟩)
       .ret)
      .skip))
    (.seq (.ops [
      ⟨(some 6), none, (.mv (.c (.int .i64 0)))⟩] ⟨false, [], []⟩)
    (.block 2 w50_L1 ⟨true, [5, 1, 0], []⟩))) ⟨true, [5, 1, 0], []⟩)
  w50_c1))
def w50_L0 : WCode := .loop ⟨true, [5, 1, 0], []⟩ w50_B0
def w50 : WFn := ⟨2, [.tmp 4],
 (.seq (.ops [
    ⟨(some 4), none, (.mv (.c (.int .i64 0)))⟩] ⟨false, [], []⟩)
  (.seq (.seq (.ops [
     ⟨(some 7), none, (.mv (.t 0))⟩,
     ⟨(some 8), none, (.bin .lss (.t 7) (.c (.int .i64 0)))⟩] ⟨false, [], []⟩)
   (.cond (.t 8) (.seq (.ops [
       ⟨(some 4), none, (.mv (.c (.int .i64 1)))⟩] ⟨false, [], []⟩)
     .ret)
    .skip))
  (.seq (.seq (.ops [
     ⟨(some 9), none, (.mv (.t 0))⟩,
     ⟨(some 10), none, (.bin .gtr (.t 9) (.c (.int .i64 4096)))⟩,
     ⟨(some 11), none, (.mv (.t 10))⟩,
     ⟨(some 12), (some (11, false)), (.mv (.t 1))⟩,
     ⟨(some 13), (some (11, false)), (.len 1 (.t 12))⟩,
     ⟨(some 14), (some (11, false)), (.bin .gtr (.t 13) (.c (.int .i64 4096)))⟩,
     ⟨(some 15), none, (.pick (.t 11) (.c (.bool true)) (.t 14))⟩] ⟨true, [15, 1, 0], []⟩)
   (.cond (.t 15) (.seq (.ops [
       ⟨(some 4), none, (.mv (.c (.int .i64 3)))⟩] ⟨false, [], []⟩)
     .ret)
    .skip))
  (.seq (.seq (.ops [
     ⟨(some 5), none, (.mv (.c (.int .i64 0)))⟩] ⟨false, [], []⟩)
   (.block 0 w50_L0 ⟨true, [], []⟩))
  w50_c0))))⟩

@[simp] theorem w50_E1 {β : Type} {C : WProg} {b : Nat} {f : Ex × WSt → Option β} {k : List Pw.Frame} {s : WSt} : CK C b f k w50_L1 s = LK C b f (.sq w50_L1 :: k) w50_B1 (canon b ⟨true, [6, 5, 1, 0], []⟩ s) := ck_lp rfl
noncomputable abbrev w50_K1 (C : WProg) (s : WSt) : Option AV := CK C 0 (pureFin [.tmp 4]) [.sq w50_L1, .bk 2 ⟨true, [5, 1, 0], []⟩, .bk 1 ⟨true, [5, 1, 0], []⟩, .sq w50_c1, .sq w50_L0, .bk 0 ⟨true, [], []⟩, .sq w50_c0] w50_B1 s

@[simp] theorem w50_E0 {β : Type} {C : WProg} {b : Nat} {f : Ex × WSt → Option β} {k : List Pw.Frame} {s : WSt} : CK C b f k w50_L0 s = LK C b f (.sq w50_L0 :: k) w50_B0 (canon b ⟨true, [5, 1, 0], []⟩ s) := ck_lp rfl
noncomputable abbrev w50_K0 (C : WProg) (s : WSt) : Option AV := CK C 0 (pureFin [.tmp 4]) [.sq w50_L0, .bk 0 ⟨true, [], []⟩, .sq w50_c0] w50_B0 s

/- paternoster/paternosterlaw09.of -/
def w51 : WFn := ⟨2, [.cell 4 2 true],
 (.seq (.ops [
    ⟨(some 4), none, (.alloc [(.int .i64 0), (.ro 1 [] true)])⟩] ⟨false, [], []⟩)
  (.seq (.ops [
    ⟨(some 5), none, (.mv (.t 0))⟩,
    ⟨(some 6), none, (.mv (.t 1))⟩,
    ⟨(some 7), none, (.build [(.int .i64 0), (.ro 1 [] true)] [(0, 1, (.t 5)), (1, 1, (.t 6))])⟩,
    ⟨none, none, (.store 2 (.t 4) (.t 7))⟩] ⟨false, [], []⟩)
  .ret))⟩

/- paternoster/remaps.Compose -/
def w52 : WFn := ⟨2, [.cell 4 2 true, .tmp 5],
 (.seq (.ops [
    ⟨(some 2), none, (.box (.t 0))⟩,
    ⟨(some 3), none, (.box (.t 1))⟩,
    ⟨(some 4), none, (.alloc [(.int .i64 0), (.ro 1 [] true)])⟩,
    ⟨(some 5), none, (.mv (.c (.int .i64 0)))⟩] ⟨false, [], []⟩)
  (.seq (.seq (.ops [
     ⟨(some 8), none, (.load 2 true (.t 2))⟩,
     ⟨(some 9), none, (.call 56 [(.t 8)])⟩,
     ⟨(some 6), none, (.mv (.t 9))⟩] ⟨false, [], []⟩)
   (.seq (.ops [
     ⟨(some 10), none, (.mv (.t 6))⟩,
     ⟨(some 11), none, (.bin .neq (.t 10) (.c (.int .i64 0)))⟩] ⟨false, [], []⟩)
   (.cond (.t 11) (.seq (.ops [
       ⟨(some 12), none, (.build [(.int .i64 0), (.ro 1 [] true)] [])⟩,
       ⟨(some 13), none, (.mv (.t 6))⟩,
       ⟨none, none, (.store 2 (.t 4) (.t 12))⟩,
       ⟨(some 5), none, (.mv (.t 13))⟩] ⟨false, [], []⟩)
     .ret)
    .skip)))
  (.seq (.seq (.ops [
     ⟨(some 14), none, (.load 2 true (.t 3))⟩,
     ⟨(some 15), none, (.call 56 [(.t 14)])⟩,
     ⟨(some 7), none, (.mv (.t 15))⟩] ⟨false, [], []⟩)
   (.seq (.ops [
     ⟨(some 16), none, (.mv (.t 7))⟩,
     ⟨(some 17), none, (.bin .neq (.t 16) (.c (.int .i64 0)))⟩] ⟨false, [], []⟩)
   (.cond (.t 17) (.seq (.ops [
       ⟨(some 18), none, (.build [(.int .i64 0), (.ro 1 [] true)] [])⟩,
       ⟨(some 19), none, (.mv (.t 7))⟩,
       ⟨none, none, (.store 2 (.t 4) (.t 18))⟩,
       ⟨(some 5), none, (.mv (.t 19))⟩] ⟨true, [5, 4], []⟩)
     .ret)
    .skip)))
  (.seq (.seq (.ops [
     ⟨(some 20), none, (.fld 0 (.t 3))⟩,
     ⟨(some 21), none, (.load 1 false (.t 20))⟩,
     ⟨(some 22), none, (.fld 1 (.t 2))⟩,
     ⟨(some 23), none, (.load 1 false (.t 22))⟩,
     ⟨(some 24), none, (.len 1 (.t 23))⟩,
     ⟨(some 25), none, (.bin .neq (.t 21) (.t 24))⟩] ⟨false, [], []⟩)
   (.cond (.t 25) (.seq (.ops [
       ⟨(some 26), none, (.build [(.int .i64 0), (.ro 1 [] true)] [])⟩,
       ⟨none, none, (.store 2 (.t 4) (.t 26))⟩,
       ⟨(some 5), none, (.mv (.c (.int .i64 16)))⟩] ⟨false, [], []⟩)
     .ret)
    .skip))
  (.seq (.ops [
    ⟨(some 27), none, (.fld 0 (.t 2))⟩,
    ⟨(some 28), none, (.load 1 false (.t 27))⟩,
    ⟨(some 29), none, (.fld 1 (.t 3))⟩,
    ⟨(some 30), none, (.load 1 false (.t 29))⟩,
    ⟨(some 31), none, (.len 1 (.t 30))⟩,
    ⟨(some 32), none, (.mkfn 74 [(.t 3), (.t 2)])⟩,
    ⟨(some 33), none, (.call 73 [(.t 28), (.t 31), (.t 32)])⟩,
    ⟨(some 34), none, (.ext 0 (.t 33))⟩,
    ⟨(some 35), none, (.ext 1 (.t 33))⟩,
    ⟨none, none, (.store 2 (.t 4) (.t 34))⟩,
    ⟨(some 5), none, (.mv (.t 35))⟩] ⟨false, [], []⟩)
  .ret)))))⟩

/- paternoster/remaps.Invert -/
def w53 : WFn := ⟨1, [.cell 2 2 true, .tmp 3],
 (.seq (.ops [
    ⟨(some 1), none, (.box (.t 0))⟩,
    ⟨(some 2), none, (.alloc [(.int .i64 0), (.ro 1 [] true)])⟩,
    ⟨(some 3), none, (.mv (.c (.int .i64 0)))⟩] ⟨false, [], []⟩)
  (.seq (.seq (.ops [
     ⟨(some 6), none, (.load 2 true (.t 1))⟩,
     ⟨(some 7), none, (.call 56 [(.t 6)])⟩,
     ⟨(some 4), none, (.mv (.t 7))⟩] ⟨true, [4, 2, 1], []⟩)
   (.seq (.ops [
     ⟨(some 8), none, (.mv (.t 4))⟩,
     ⟨(some 9), none, (.bin .neq (.t 8) (.c (.int .i64 0)))⟩] ⟨false, [], []⟩)
   (.cond (.t 9) (.seq (.ops [
       ⟨(some 10), none, (.build [(.int .i64 0), (.ro 1 [] true)] [])⟩,
       ⟨(some 11), none, (.mv (.t 4))⟩,
       ⟨none, none, (.store 2 (.t 2) (.t 10))⟩,
       ⟨(some 3), none, (.mv (.t 11))⟩] ⟨false, [], []⟩)
     .ret)
    .skip)))
  (.seq (.ops [
    ⟨(some 12), none, (.load 2 true (.t 1))⟩,
    ⟨(some 13), none, (.call 75 [(.t 12)])⟩,
    ⟨(some 5), none, (.alloc (rep 4096 (.int .i64 0)))⟩,
    ⟨none, none, (.store 4096 (.t 5) (.t 13))⟩] ⟨false, [], []⟩)
  (.seq (.ops [
    ⟨(some 14), none, (.fld 1 (.t 1))⟩,
    ⟨(some 15), none, (.load 1 false (.t 14))⟩,
    ⟨(some 16), none, (.len 1 (.t 15))⟩,
    ⟨(some 17), none, (.fld 0 (.t 1))⟩,
    ⟨(some 18), none, (.load 1 false (.t 17))⟩,
    ⟨(some 19), none, (.mkfn 76 [(.t 5)])⟩,
    ⟨(some 20), none, (.call 73 [(.t 16), (.t 18), (.t 19)])⟩,
    ⟨(some 21), none, (.ext 0 (.t 20))⟩,
    ⟨(some 22), none, (.ext 1 (.t 20))⟩,
    ⟨none, none, (.store 2 (.t 2) (.t 21))⟩,
    ⟨(some 3), none, (.mv (.t 22))⟩] ⟨false, [], []⟩)
  .ret))))⟩

/- paternoster/remaps.At -/
def w54 : WFn := ⟨2, [.tmp 4, .tmp 5],
 (.seq (.ops [
    ⟨(some 2), none, (.box (.t 0))⟩,
    ⟨(some 4), none, (.mv (.c (.int .i64 0)))⟩,
    ⟨(some 5), none, (.mv (.c (.int .i64 0)))⟩] ⟨false, [], []⟩)
  (.seq (.seq (.ops [
     ⟨(some 8), none, (.load 2 true (.t 2))⟩,
     ⟨(some 9), none, (.call 56 [(.t 8)])⟩,
     ⟨(some 6), none, (.mv (.t 9))⟩] ⟨false, [], []⟩)
   (.seq (.ops [
     ⟨(some 10), none, (.mv (.t 6))⟩,
     ⟨(some 11), none, (.bin .neq (.t 10) (.c (.int .i64 0)))⟩] ⟨false, [], []⟩)
   (.cond (.t 11) (.seq (.ops [
       ⟨(some 12), none, (.mv (.t 6))⟩,
       ⟨(some 4), none, (.mv (.c (.int .i64 0)))⟩,
       ⟨(some 5), none, (.mv (.t 12))⟩] ⟨false, [], []⟩)
     .ret)
    .skip)))
  (.seq (.seq (.ops [
     ⟨(some 13), none, (.mv (.t 1))⟩,
     ⟨(some 14), none, (.bin .lss (.t 13) (.c (.int .i64 0)))⟩,
     ⟨(some 15), none, (.mv (.t 14))⟩,
     ⟨(some 16), (some (15, false)), (.mv (.t 1))⟩,
     ⟨(some 17), (some (15, false)), (.fld 0 (.t 2))⟩,
     ⟨(some 18), (some (15, false)), (.load 1 false (.t 17))⟩,
     ⟨(some 19), (some (15, false)), (.bin .geq (.t 16) (.t 18))⟩,
     ⟨(some 20), none, (.pick (.t 15) (.c (.bool true)) (.t 19))⟩] ⟨true, [20, 2, 1], []⟩)
   (.cond (.t 20) (.seq (.ops [
       ⟨(some 4), none, (.mv (.c (.int .i64 0)))⟩,
       ⟨(some 5), none, (.mv (.c (.int .i64 4)))⟩] ⟨false, [], []⟩)
     .ret)
    .skip))
  (.seq (.ops [
    ⟨(some 21), none, (.load 2 true (.t 2))⟩,
    ⟨(some 22), none, (.call 75 [(.t 21)])⟩,
    ⟨(some 7), none, (.alloc (rep 4096 (.int .i64 0)))⟩,
    ⟨none, none, (.store 4096 (.t 7) (.t 22))⟩] ⟨false, [], []⟩)
  (.seq (.seq (.ops [
     ⟨(some 23), none, (.mv (.t 1))⟩,
     ⟨(some 24), none, (.idxa 4096 1 (.t 7) (.t 23))⟩,
     ⟨(some 25), none, (.load 1 false (.t 24))⟩,
     ⟨(some 26), none, (.bin .lss (.t 25) (.c (.int .i64 0)))⟩] ⟨false, [], []⟩)
   (.cond (.t 26) (.seq (.ops [
       ⟨(some 4), none, (.mv (.c (.int .i64 0)))⟩,
       ⟨(some 5), none, (.mv (.c (.int .i64 11)))⟩] ⟨false, [], []⟩)
     .ret)
    .skip))
  (.seq (.ops [
    ⟨(some 27), none, (.mv (.t 1))⟩,
    ⟨(some 28), none, (.idxa 4096 1 (.t 7) (.t 27))⟩,
    ⟨(some 29), none, (.load 1 false (.t 28))⟩,
    ⟨(some 4), none, (.mv (.t 29))⟩,
    ⟨(some 5), none, (.mv (.c (.int .i64 0)))⟩] ⟨false, [], []⟩)
  .ret))))))⟩

/- paternoster/remaps.Gone -/
def w55_c0 : WCode := (.seq (.ops [
    ⟨(some 32), none, (.mv (.t 6))⟩,
    ⟨(some 33), none, (.mv (.t 6))⟩,
    ⟨(some 34), none, (.len 1 (.t 33))⟩,
    ⟨(some 35), none, (.mv (.t 6))⟩,
    ⟨(some 36), none, (.len 1 (.t 35))⟩,
    ⟨(some 37), none, (.slice 1 (.t 32) none (some (.t 34)) (some (.t 36)))⟩,
    ⟨(some 2), none, (.mv (.t 37))⟩,
    ⟨(some 3), none, (.mv (.c (.int .i64 0)))⟩] ⟨false, [], []⟩)
  .ret)

def w55_B0 : WCode := (.seq (.ops [
    ⟨(some 21), none, (.bin .lss (.t 20) (.t 19))⟩] ⟨false, [], []⟩)
  (.seq (.cond (.t 21) .skip
    (.exit 0))
  (.seq (.block 1 (.seq (.ops [
      ⟨(some 22), none, (.mv (.t 20))⟩,
      ⟨(some 23), none, (.idxs 1 (.t 18) (.t 20))⟩,
      ⟨(some 24), none, (.load 1 false (.t 23))⟩,
      ⟨(some 7), none, (.mv (.t 22))⟩,
      ⟨(some 8), none, (.mv (.t 24))⟩] ⟨false, [], []⟩)
    (.seq (.ops [
      ⟨(some 25), none, (.mv (.t 8))⟩,
      ⟨(some 26), none, (.bin .lss (.t 25) (.c (.int .i64 0)))⟩] ⟨false, [], []⟩)
    (.cond (.t 26) (.ops [
       ⟨(some 27), none, (.mv (.t 6))⟩,
       ⟨(some 28), none, (.mv (.t 7))⟩,
       ⟨(some 29), none, (.buildS [(.int .i64 0)] 1 [(0, (.t 28))])⟩,
       ⟨(some 30), none, (.app [(.int .i64 0)] 8 false (.t 27) (.t 29))⟩,
       ⟨(some 6), none, (.mv (.t 30))⟩] ⟨false, [], []⟩)
     .skip))) ⟨false, [], []⟩)
  (.ops [
   ⟨(some 31), none, (.bin .add (.t 20) (.c (.int .i64 1)))⟩,
   ⟨(some 20), none, (.mv (.t 31))⟩] ⟨false, [], []⟩))))
def w55_L0 : WCode := .loop ⟨true, [20, 19, 18, 6], []⟩ w55_B0
def w55 : WFn := ⟨1, [.tmp 2, .tmp 3],
 (.seq (.ops [
    ⟨(some 1), none, (.box (.t 0))⟩,
    ⟨(some 2), none, (.mv (.c (.ro 1 [] true)))⟩,
    ⟨(some 3), none, (.mv (.c (.int .i64 0)))⟩] ⟨false, [], []⟩)
  (.seq (.seq (.ops [
     ⟨(some 9), none, (.load 2 true (.t 1))⟩,
     ⟨(some 10), none, (.call 56 [(.t 9)])⟩,
     ⟨(some 4), none, (.mv (.t 10))⟩] ⟨false, [], []⟩)
   (.seq (.ops [
     ⟨(some 11), none, (.mv (.t 4))⟩,
     ⟨(some 12), none, (.bin .neq (.t 11) (.c (.int .i64 0)))⟩] ⟨false, [], []⟩)
   (.cond (.t 12) (.seq (.ops [
       ⟨(some 13), none, (.mv (.t 4))⟩,
       ⟨(some 2), none, (.mv (.c (.ro 1 [] true)))⟩,
       ⟨(some 3), none, (.mv (.t 13))⟩] ⟨false, [], []⟩)
     .ret)
    .skip)))
  (.seq (.ops [
    ⟨(some 14), none, (.load 2 true (.t 1))⟩,
    ⟨(some 15), none, (.call 75 [(.t 14)])⟩,
    ⟨(some 5), none, (.alloc (rep 4096 (.int .i64 0)))⟩,
    ⟨none, none, (.store 4096 (.t 5) (.t 15))⟩] ⟨false, [], []⟩)
  (.seq (.ops [
    ⟨(some 6), none, (.mv (.c (.ro 1 [] true)))⟩] ⟨true, [6, 5, 1], [(6, 1)]⟩)
  (.seq (.seq (.ops [
     ⟨(some 16), none, (.fld 0 (.t 1))⟩,
     ⟨(some 17), none, (.load 1 false (.t 16))⟩,
     ⟨(some 18), none, (.sliceA 4096 (.t 5) none (some (.t 17)))⟩,
     ⟨(some 19), none, (.len 1 (.t 18))⟩,
     ⟨(some 20), none, (.mv (.c (.int .i64 0)))⟩] ⟨true, [20, 19, 18, 6], []⟩)
   (.block 0 w55_L0 ⟨true, [6], []⟩))
  w55_c0)))))⟩

@[simp] theorem w55_E0 {β : Type} {C : WProg} {b : Nat} {f : Ex × WSt → Option β} {k : List Pw.Frame} {s : WSt} : CK C b f k w55_L0 s = LK C b f (.sq w55_L0 :: k) w55_B0 (canon b ⟨true, [20, 19, 18, 6], []⟩ s) := ck_lp rfl
noncomputable abbrev w55_K0 (C : WProg) (s : WSt) : Option AV := CK C 0 (pureFin [.tmp 2, .tmp 3]) [.sq w55_L0, .bk 0 ⟨true, [6], []⟩, .sq w55_c0] w55_B0 s

/- paternoster/remaps.Check -/
def w56_c0 : WCode := (.seq (.ops [
    ⟨(some 2), none, (.mv (.c (.int .i64 0)))⟩] ⟨false, [], []⟩)
  .ret)

def w56_B0 : WCode := (.seq (.ops [
    ⟨(some 24), none, (.bin .lss (.t 23) (.t 22))⟩] ⟨false, [], []⟩)
  (.seq (.cond (.t 24) .skip
    (.exit 1))
  (.seq (.block 2 (.seq (.ops [
      ⟨(some 25), none, (.idxs 1 (.t 21) (.t 23))⟩,
      ⟨(some 26), none, (.load 1 false (.t 25))⟩,
      ⟨(some 5), none, (.mv (.t 26))⟩] ⟨false, [], []⟩)
    (.block 3 (.seq (.ops [
       ⟨(some 28), none, (.mv (.t 5))⟩,
       ⟨(some 29), none, (.bin .lss (.t 28) (.c (.int .i64 (-1))))⟩,
       ⟨(some 30), none, (.mv (.t 29))⟩,
       ⟨(some 31), (some (30, false)), (.mv (.t 5))⟩,
       ⟨(some 32), (some (30, false)), (.fld 0 (.t 1))⟩,
       ⟨(some 33), (some (30, false)), (.load 1 false (.t 32))⟩,
       ⟨(some 34), (some (30, false)), (.bin .geq (.t 31) (.t 33))⟩,
       ⟨(some 35), none, (.pick (.t 30) (.c (.bool true)) (.t 34))⟩,
       ⟨(some 27), none, (.mv (.t 35))⟩] ⟨true, [27, 23, 22, 21, 5, 3, 1], []⟩)
     (.cond (.t 27) (.seq (.ops [
         ⟨(some 2), none, (.mv (.c (.int .i64 4)))⟩] ⟨false, [], []⟩)
       .ret)
      (.seq (.ops [
         ⟨(some 37), none, (.mv (.t 5))⟩,
         ⟨(some 38), none, (.bin .geq (.t 37) (.c (.int .i64 0)))⟩,
         ⟨(some 39), none, (.mv (.t 38))⟩,
         ⟨(some 40), (some (39, true)), (.mv (.t 5))⟩,
         ⟨(some 41), (some (39, true)), (.idxa 4096 1 (.t 3) (.t 40))⟩,
         ⟨(some 42), (some (39, true)), (.load 1 false (.t 41))⟩,
         ⟨(some 43), none, (.pick (.t 39) (.t 42) (.c (.bool false)))⟩,
         ⟨(some 36), none, (.mv (.t 43))⟩] ⟨false, [], []⟩)
       (.cond (.t 36) (.seq (.ops [
           ⟨(some 2), none, (.mv (.c (.int .i64 8)))⟩] ⟨false, [], []⟩)
         .ret)
        (.seq (.ops [
           ⟨(some 45), none, (.mv (.t 5))⟩,
           ⟨(some 46), none, (.bin .geq (.t 45) (.c (.int .i64 0)))⟩,
           ⟨(some 44), none, (.mv (.t 46))⟩] ⟨false, [], []⟩)
         (.cond (.t 44) (.ops [
            ⟨(some 47), none, (.mv (.t 5))⟩,
            ⟨(some 48), none, (.idxa 4096 1 (.t 3) (.t 47))⟩,
            ⟨none, none, (.store 1 (.t 48) (.c (.bool true)))⟩] ⟨false, [], []⟩)
          .skip)))))) ⟨false, [], []⟩)) ⟨false, [], []⟩)
  (.ops [
   ⟨(some 49), none, (.bin .add (.t 23) (.c (.int .i64 1)))⟩,
   ⟨(some 23), none, (.mv (.t 49))⟩] ⟨false, [], []⟩))))
def w56_L0 : WCode := .loop ⟨true, [23, 22, 21, 3, 1], []⟩ w56_B0
def w56 : WFn := ⟨1, [.tmp 2],
 (.seq (.ops [
    ⟨(some 1), none, (.box (.t 0))⟩,
    ⟨(some 2), none, (.mv (.c (.int .i64 0)))⟩] ⟨false, [], []⟩)
  (.seq (.block 0 (.seq (.ops [
      ⟨(some 7), none, (.fld 0 (.t 1))⟩,
      ⟨(some 8), none, (.load 1 false (.t 7))⟩,
      ⟨(some 9), none, (.bin .lss (.t 8) (.c (.int .i64 0)))⟩,
      ⟨(some 6), none, (.mv (.t 9))⟩] ⟨true, [6, 1], []⟩)
    (.cond (.t 6) (.seq (.ops [
        ⟨(some 2), none, (.mv (.c (.int .i64 1)))⟩] ⟨false, [], []⟩)
      .ret)
     (.seq (.ops [
        ⟨(some 11), none, (.fld 0 (.t 1))⟩,
        ⟨(some 12), none, (.load 1 false (.t 11))⟩,
        ⟨(some 13), none, (.bin .gtr (.t 12) (.c (.int .i64 4096)))⟩,
        ⟨(some 14), none, (.mv (.t 13))⟩,
        ⟨(some 15), (some (14, false)), (.fld 1 (.t 1))⟩,
        ⟨(some 16), (some (14, false)), (.load 1 false (.t 15))⟩,
        ⟨(some 17), (some (14, false)), (.len 1 (.t 16))⟩,
        ⟨(some 18), (some (14, false)), (.bin .gtr (.t 17) (.c (.int .i64 4096)))⟩,
        ⟨(some 19), none, (.pick (.t 14) (.c (.bool true)) (.t 18))⟩,
        ⟨(some 10), none, (.mv (.t 19))⟩] ⟨false, [], []⟩)
      (.cond (.t 10) (.seq (.ops [
          ⟨(some 2), none, (.mv (.c (.int .i64 3)))⟩] ⟨false, [], []⟩)
        .ret)
       .skip)))) ⟨false, [], []⟩)
  (.seq (.ops [
    ⟨(some 3), none, (.alloc (rep 4096 (.bool false)))⟩] ⟨false, [], []⟩)
  (.seq (.seq (.ops [
     ⟨(some 20), none, (.fld 1 (.t 1))⟩,
     ⟨(some 21), none, (.load 1 false (.t 20))⟩,
     ⟨(some 22), none, (.len 1 (.t 21))⟩,
     ⟨(some 23), none, (.mv (.c (.int .i64 0)))⟩] ⟨false, [], []⟩)
   (.block 1 w56_L0 ⟨true, [], []⟩))
  w56_c0))))⟩

@[simp] theorem w56_E0 {β : Type} {C : WProg} {b : Nat} {f : Ex × WSt → Option β} {k : List Pw.Frame} {s : WSt} : CK C b f k w56_L0 s = LK C b f (.sq w56_L0 :: k) w56_B0 (canon b ⟨true, [23, 22, 21, 3, 1], []⟩ s) := ck_lp rfl
noncomputable abbrev w56_K0 (C : WProg) (s : WSt) : Option AV := CK C 0 (pureFin [.tmp 2]) [.sq w56_L0, .bk 1 ⟨true, [], []⟩, .sq w56_c0] w56_B0 s

/- paternoster/remaps.Carry[int] -/
def w57_c0 : WCode := (.seq (.ops [
    ⟨(some 46), none, (.mv (.t 7))⟩,
    ⟨(some 4), none, (.mv (.t 46))⟩,
    ⟨(some 5), none, (.mv (.c (.int .i64 0)))⟩] ⟨false, [], []⟩)
  .ret)

def w57_B0 : WCode := (.seq (.ops [
    ⟨(some 32), none, (.bin .lss (.t 31) (.t 30))⟩] ⟨false, [], []⟩)
  (.seq (.cond (.t 32) .skip
    (.exit 0))
  (.seq (.block 1 (.seq (.ops [
      ⟨(some 33), none, (.mv (.t 31))⟩,
      ⟨(some 34), none, (.idxs 1 (.t 29) (.t 31))⟩,
      ⟨(some 35), none, (.load 1 false (.t 34))⟩,
      ⟨(some 8), none, (.mv (.t 33))⟩,
      ⟨(some 9), none, (.mv (.t 35))⟩] ⟨false, [], []⟩)
    (.seq (.ops [
      ⟨(some 36), none, (.mv (.t 9))⟩,
      ⟨(some 37), none, (.bin .geq (.t 36) (.c (.int .i64 0)))⟩] ⟨false, [], []⟩)
    (.cond (.t 37) (.ops [
       ⟨(some 38), none, (.mv (.t 7))⟩,
       ⟨(some 39), none, (.mv (.t 8))⟩,
       ⟨(some 40), none, (.mv (.t 1))⟩,
       ⟨(some 41), none, (.mv (.t 9))⟩,
       ⟨(some 42), none, (.idxs 1 (.t 40) (.t 41))⟩,
       ⟨(some 43), none, (.load 1 false (.t 42))⟩,
       ⟨(some 44), none, (.idxs 1 (.t 38) (.t 39))⟩,
       ⟨none, none, (.store 1 (.t 44) (.t 43))⟩] ⟨false, [], []⟩)
     .skip))) ⟨false, [], []⟩)
  (.ops [
   ⟨(some 45), none, (.bin .add (.t 31) (.c (.int .i64 1)))⟩,
   ⟨(some 31), none, (.mv (.t 45))⟩] ⟨false, [], []⟩))))
def w57_L0 : WCode := .loop ⟨true, [31, 30, 29, 7, 1], []⟩ w57_B0
def w57 : WFn := ⟨2, [.tmp 4, .tmp 5],
 (.seq (.ops [
    ⟨(some 2), none, (.box (.t 0))⟩,
    ⟨(some 4), none, (.mv (.c (.ro 1 [] true)))⟩,
    ⟨(some 5), none, (.mv (.c (.int .i64 0)))⟩] ⟨false, [], []⟩)
  (.seq (.seq (.ops [
     ⟨(some 10), none, (.load 2 true (.t 2))⟩,
     ⟨(some 11), none, (.call 56 [(.t 10)])⟩,
     ⟨(some 6), none, (.mv (.t 11))⟩] ⟨true, [6, 2, 1], []⟩)
   (.seq (.ops [
     ⟨(some 12), none, (.mv (.t 6))⟩,
     ⟨(some 13), none, (.bin .neq (.t 12) (.c (.int .i64 0)))⟩] ⟨false, [], []⟩)
   (.cond (.t 13) (.seq (.ops [
       ⟨(some 14), none, (.mv (.t 6))⟩,
       ⟨(some 4), none, (.mv (.c (.ro 1 [] true)))⟩,
       ⟨(some 5), none, (.mv (.t 14))⟩] ⟨false, [], []⟩)
     .ret)
    .skip)))
  (.seq (.seq (.ops [
     ⟨(some 15), none, (.mv (.t 1))⟩,
     ⟨(some 16), none, (.len 1 (.t 15))⟩,
     ⟨(some 17), none, (.fld 0 (.t 2))⟩,
     ⟨(some 18), none, (.load 1 false (.t 17))⟩,
     ⟨(some 19), none, (.bin .neq (.t 16) (.t 18))⟩] ⟨false, [], []⟩)
   (.cond (.t 19) (.seq (.ops [
       ⟨(some 4), none, (.mv (.c (.ro 1 [] true)))⟩,
       ⟨(some 5), none, (.mv (.c (.int .i64 16)))⟩] ⟨false, [], []⟩)
     .ret)
    .skip))
  (.seq (.seq (.ops [
     ⟨(some 20), none, (.fld 1 (.t 2))⟩,
     ⟨(some 21), none, (.load 1 false (.t 20))⟩,
     ⟨(some 22), none, (.len 1 (.t 21))⟩,
     ⟨(some 23), none, (.bin .eql (.t 22) (.c (.int .i64 0)))⟩] ⟨false, [], []⟩)
   (.cond (.t 23) (.seq (.ops [
       ⟨(some 4), none, (.mv (.c (.ro 1 [] true)))⟩,
       ⟨(some 5), none, (.mv (.c (.int .i64 0)))⟩] ⟨false, [], []⟩)
     .ret)
    .skip))
  (.seq (.ops [
    ⟨(some 24), none, (.fld 1 (.t 2))⟩,
    ⟨(some 25), none, (.load 1 false (.t 24))⟩,
    ⟨(some 26), none, (.len 1 (.t 25))⟩,
    ⟨(some 27), none, (.mksl [(.int .i64 0)] 8 (.t 26) (.t 26))⟩,
    ⟨(some 7), none, (.mv (.t 27))⟩] ⟨false, [], []⟩)
  (.seq (.seq (.ops [
     ⟨(some 28), none, (.fld 1 (.t 2))⟩,
     ⟨(some 29), none, (.load 1 false (.t 28))⟩,
     ⟨(some 30), none, (.len 1 (.t 29))⟩,
     ⟨(some 31), none, (.mv (.c (.int .i64 0)))⟩] ⟨true, [31, 30, 29, 7, 1], []⟩)
   (.block 0 w57_L0 ⟨true, [7], []⟩))
  w57_c0))))))⟩

@[simp] theorem w57_E0 {β : Type} {C : WProg} {b : Nat} {f : Ex × WSt → Option β} {k : List Pw.Frame} {s : WSt} : CK C b f k w57_L0 s = LK C b f (.sq w57_L0 :: k) w57_B0 (canon b ⟨true, [31, 30, 29, 7, 1], []⟩ s) := ck_lp rfl
noncomputable abbrev w57_K0 (C : WProg) (s : WSt) : Option AV := CK C 0 (pureFin [.tmp 4, .tmp 5]) [.sq w57_L0, .bk 0 ⟨true, [7], []⟩, .sq w57_c0] w57_B0 s

/- paternoster/paternosterlaw09.same -/
def w58 : WFn := ⟨5, [.tmp 10],
 (.seq (.ops [
    ⟨(some 5), none, (.box (.t 0))⟩,
    ⟨(some 10), none, (.mv (.c (.bool false)))⟩] ⟨false, [], []⟩)
  (.seq (.ops [
    ⟨(some 11), none, (.mv (.t 1))⟩,
    ⟨(some 12), none, (.mv (.t 4))⟩,
    ⟨(some 13), none, (.bin .eql (.t 11) (.t 12))⟩,
    ⟨(some 14), none, (.mv (.t 13))⟩,
    ⟨(some 15), (some (14, true)), (.fld 0 (.t 5))⟩,
    ⟨(some 16), (some (14, true)), (.load 1 false (.t 15))⟩,
    ⟨(some 17), (some (14, true)), (.mv (.t 2))⟩,
    ⟨(some 18), (some (14, true)), (.bin .eql (.t 16) (.t 17))⟩,
    ⟨(some 19), none, (.pick (.t 14) (.t 18) (.c (.bool false)))⟩,
    ⟨(some 20), none, (.mv (.t 19))⟩,
    ⟨(some 21), (some (20, true)), (.fld 1 (.t 5))⟩,
    ⟨(some 22), (some (20, true)), (.load 1 false (.t 21))⟩,
    ⟨(some 23), (some (20, true)), (.mv (.t 3))⟩,
    ⟨(some 24), (some (20, true)), (.call 59 [(.t 22), (.c (.int .i64 0)), (.t 23), (.c (.int .i64 0))])⟩,
    ⟨(some 25), none, (.pick (.t 20) (.t 24) (.c (.bool false)))⟩,
    ⟨(some 10), none, (.mv (.t 25))⟩] ⟨false, [], []⟩)
  .ret))⟩

/- paternoster/paternosterlaw09.list -/
def w59_c0 : WCode := (.seq (.ops [
    ⟨(some 8), none, (.mv (.c (.bool true)))⟩] ⟨false, [], []⟩)
  .ret)

def w59_B0 : WCode := (.seq (.seq (.ops [
     ⟨(some 27), none, (.mv (.t 9))⟩,
     ⟨(some 28), none, (.mv (.t 2))⟩,
     ⟨(some 29), none, (.len 1 (.t 28))⟩,
     ⟨(some 30), none, (.bin .lss (.t 27) (.t 29))⟩] ⟨false, [], []⟩)
   (.cond (.t 30) .skip
    (.exit 0)))
  (.seq (.block 1 (.seq (.draw [
      ⟨(some 33), none, (.mv (.t 0))⟩,
      ⟨(some 34), none, (.mv (.t 9))⟩,
      ⟨(some 35), none, (.idxs 1 (.t 33) (.t 34))⟩,
      ⟨(some 36), none, (.load 1 false (.t 35))⟩,
      ⟨(some 37), none, (.mv (.t 2))⟩,
      ⟨(some 38), none, (.mv (.t 9))⟩,
      ⟨(some 39), none, (.idxs 1 (.t 37) (.t 38))⟩,
      ⟨(some 40), none, (.load 1 false (.t 39))⟩,
      ⟨(some 41), none, (.bin .neq (.t 36) (.t 40))⟩] [] ⟨false, [], []⟩)
    (.cond (.t 41) (.seq (.ops [
        ⟨(some 8), none, (.mv (.c (.bool false)))⟩] ⟨false, [], []⟩)
      .ret)
     .skip)) ⟨false, [], []⟩)
  (.ops [
   ⟨(some 31), none, (.mv (.t 9))⟩,
   ⟨(some 32), none, (.bin .add (.t 31) (.c (.int .i64 1)))⟩,
   ⟨(some 9), none, (.mv (.t 32))⟩] ⟨false, [], []⟩)))
def w59_L0 : WCode := .loop ⟨true, [9, 2, 0], []⟩ w59_B0
def w59 : WFn := ⟨4, [.tmp 8],
 (.seq (.ops [
    ⟨(some 8), none, (.mv (.c (.bool false)))⟩] ⟨false, [], []⟩)
  (.seq (.seq (.ops [
     ⟨(some 10), none, (.mv (.t 1))⟩,
     ⟨(some 11), none, (.mv (.t 3))⟩,
     ⟨(some 12), none, (.bin .neq (.t 10) (.t 11))⟩,
     ⟨(some 13), none, (.mv (.t 12))⟩,
     ⟨(some 14), (some (13, false)), (.mv (.t 0))⟩,
     ⟨(some 15), (some (13, false)), (.len 1 (.t 14))⟩,
     ⟨(some 16), (some (13, false)), (.mv (.t 2))⟩,
     ⟨(some 17), (some (13, false)), (.len 1 (.t 16))⟩,
     ⟨(some 18), (some (13, false)), (.bin .neq (.t 15) (.t 17))⟩,
     ⟨(some 19), none, (.pick (.t 13) (.c (.bool true)) (.t 18))⟩,
     ⟨(some 20), none, (.mv (.t 19))⟩,
     ⟨(some 21), (some (20, false)), (.mv (.t 0))⟩,
     ⟨(some 22), (some (20, false)), (.cap (.t 21))⟩,
     ⟨(some 23), (some (20, false)), (.mv (.t 0))⟩,
     ⟨(some 24), (some (20, false)), (.len 1 (.t 23))⟩,
     ⟨(some 25), (some (20, false)), (.bin .neq (.t 22) (.t 24))⟩,
     ⟨(some 26), none, (.pick (.t 20) (.c (.bool true)) (.t 25))⟩] ⟨true, [26, 2, 0], []⟩)
   (.cond (.t 26) (.seq (.ops [
       ⟨(some 8), none, (.mv (.c (.bool false)))⟩] ⟨false, [], []⟩)
     .ret)
    .skip))
  (.seq (.seq (.ops [
     ⟨(some 9), none, (.mv (.c (.int .i64 0)))⟩] ⟨false, [], []⟩)
   (.block 0 w59_L0 ⟨true, [], []⟩))
  w59_c0)))⟩

@[simp] theorem w59_E0 {β : Type} {C : WProg} {b : Nat} {f : Ex × WSt → Option β} {k : List Pw.Frame} {s : WSt} : CK C b f k w59_L0 s = LK C b f (.sq w59_L0 :: k) w59_B0 (canon b ⟨true, [9, 2, 0], []⟩ s) := ck_lp rfl
noncomputable abbrev w59_K0 (C : WProg) (s : WSt) : Option AV := CK C 0 (pureFin [.tmp 8]) [.sq w59_L0, .bk 0 ⟨true, [], []⟩, .sq w59_c0] w59_B0 s

/- paternoster/paternosterref09.At -/
def w60_c0 : WCode := (.seq (.ops [
    ⟨(some 4), none, (.mv (.c (.int .i64 (-1))))⟩] ⟨false, [], []⟩)
  .ret)

def w60_B0 : WCode := (.seq (.seq (.ops [
     ⟨(some 6), none, (.mv (.t 5))⟩,
     ⟨(some 7), none, (.mv (.t 0))⟩,
     ⟨(some 8), none, (.len 1 (.t 7))⟩,
     ⟨(some 9), none, (.bin .lss (.t 6) (.t 8))⟩] ⟨false, [], []⟩)
   (.cond (.t 9) .skip
    (.exit 0)))
  (.seq (.block 1 (.seq (.ops [
      ⟨(some 12), none, (.mv (.t 0))⟩,
      ⟨(some 13), none, (.mv (.t 5))⟩,
      ⟨(some 14), none, (.idxs 1 (.t 12) (.t 13))⟩,
      ⟨(some 15), none, (.load 1 false (.t 14))⟩,
      ⟨(some 16), none, (.mv (.t 1))⟩,
      ⟨(some 17), none, (.bin .eql (.t 15) (.t 16))⟩] ⟨false, [], []⟩)
    (.cond (.t 17) (.seq (.ops [
        ⟨(some 18), none, (.mv (.t 5))⟩,
        ⟨(some 4), none, (.mv (.t 18))⟩] ⟨false, [], []⟩)
      .ret)
     .skip)) ⟨false, [], []⟩)
  (.ops [
   ⟨(some 10), none, (.mv (.t 5))⟩,
   ⟨(some 11), none, (.bin .add (.t 10) (.c (.int .i64 1)))⟩,
   ⟨(some 5), none, (.mv (.t 11))⟩] ⟨false, [], []⟩)))
def w60_L0 : WCode := .loop ⟨true, [5, 1, 0], []⟩ w60_B0
def w60 : WFn := ⟨2, [.tmp 4],
 (.seq (.ops [
    ⟨(some 4), none, (.mv (.c (.int .i64 0)))⟩] ⟨false, [], []⟩)
  (.seq (.seq (.ops [
     ⟨(some 5), none, (.mv (.c (.int .i64 0)))⟩] ⟨false, [], []⟩)
   (.block 0 w60_L0 ⟨true, [], []⟩))
  w60_c0))⟩

@[simp] theorem w60_E0 {β : Type} {C : WProg} {b : Nat} {f : Ex × WSt → Option β} {k : List Pw.Frame} {s : WSt} : CK C b f k w60_L0 s = LK C b f (.sq w60_L0 :: k) w60_B0 (canon b ⟨true, [5, 1, 0], []⟩ s) := ck_lp rfl
noncomputable abbrev w60_K0 (C : WProg) (s : WSt) : Option AV := CK C 0 (pureFin [.tmp 4]) [.sq w60_L0, .bk 0 ⟨true, [], []⟩, .sq w60_c0] w60_B0 s

/- (paternoster/paternosterlaw09.M).Of -/
def w61 : WFn := ⟨1, [.cell 2 2 true],
 (.seq (.ops [
    ⟨(some 1), none, (.box (.t 0))⟩,
    ⟨(some 2), none, (.alloc [(.int .i64 0), (.ro 1 [] true)])⟩] ⟨false, [], []⟩)
  (.seq (.ops [
    ⟨(some 4), none, (.fld 0 (.t 1))⟩,
    ⟨(some 5), none, (.load 1 false (.t 4))⟩,
    ⟨(some 6), none, (.bin .rem (.t 5) (.c (.int .u8 31)))⟩,
    ⟨(some 7), none, (.cvt .i64 (.t 6))⟩,
    ⟨(some 3), none, (.mv (.t 7))⟩] ⟨false, [], []⟩)
  (.seq (.draw [
    ⟨(some 8), none, (.mv (.t 3))⟩,
    ⟨(some 9), none, (.load 2 true (.t 1))⟩,
    ⟨(some 10), none, (.mv (.t 3))⟩,
    ⟨(some 11), none, (.call 63 [(.t 10)])⟩,
    ⟨(some 12), none, (.call 64 [(.t 9), (.t 11)])⟩,
    ⟨(some 13), none, (.build [(.int .i64 0), (.ro 1 [] true)] [(0, 1, (.t 8)), (1, 1, (.t 12))])⟩,
    ⟨none, none, (.store 2 (.t 2) (.t 13))⟩] [(1, 3)] ⟨false, [], []⟩)
  .ret)))⟩

/- paternoster/remaps.Moved -/
def w62 : WFn := ⟨4, [.cell 8 2 true, .tmp 9],
 (.seq (.ops [
    ⟨(some 5), none, (.box (.t 1))⟩,
    ⟨(some 6), none, (.box (.t 2))⟩,
    ⟨(some 7), none, (.box (.t 3))⟩,
    ⟨(some 8), none, (.alloc [(.int .i64 0), (.ro 1 [] true)])⟩,
    ⟨(some 9), none, (.mv (.c (.int .i64 0)))⟩] ⟨false, [], []⟩)
  (.seq (.seq (.ops [
     ⟨(some 11), none, (.mv (.t 0))⟩,
     ⟨(some 12), none, (.call 77 [(.t 11)])⟩,
     ⟨(some 13), none, (.mv (.t 12))⟩,
     ⟨(some 14), (some (13, false)), (.mv (.t 0))⟩,
     ⟨(some 15), (some (13, false)), (.load 1 false (.t 5))⟩,
     ⟨(some 16), (some (13, false)), (.load 1 false (.t 6))⟩,
     ⟨(some 17), (some (13, false)), (.call 78 [(.t 14), (.t 15), (.t 16)])⟩,
     ⟨(some 18), none, (.pick (.t 13) (.c (.bool true)) (.t 17))⟩,
     ⟨(some 19), none, (.mv (.t 18))⟩,
     ⟨(some 20), (some (19, false)), (.load 1 false (.t 7))⟩,
     ⟨(some 21), (some (19, false)), (.bin .lss (.t 20) (.c (.int .i64 0)))⟩,
     ⟨(some 22), none, (.pick (.t 19) (.c (.bool true)) (.t 21))⟩,
     ⟨(some 23), none, (.mv (.t 22))⟩,
     ⟨(some 24), (some (23, false)), (.load 1 false (.t 7))⟩,
     ⟨(some 25), (some (23, false)), (.mv (.t 0))⟩,
     ⟨(some 26), (some (23, false)), (.load 1 false (.t 6))⟩,
     ⟨(some 27), (some (23, false)), (.bin .sub (.t 25) (.t 26))⟩,
     ⟨(some 28), (some (23, false)), (.bin .gtr (.t 24) (.t 27))⟩,
     ⟨(some 29), none, (.pick (.t 23) (.c (.bool true)) (.t 28))⟩] ⟨true, [29, 8, 7, 6, 5, 0], []⟩)
   (.cond (.t 29) (.seq (.ops [
       ⟨(some 30), none, (.build [(.int .i64 0), (.ro 1 [] true)] [])⟩,
       ⟨none, none, (.store 2 (.t 8) (.t 30))⟩,
       ⟨(some 9), none, (.mv (.c (.int .i64 4)))⟩] ⟨false, [], []⟩)
     .ret)
    .skip))
  (.seq (.ops [
    ⟨(some 31), none, (.mkfn 79 [(.t 5), (.t 6)])⟩,
    ⟨(some 10), none, (.alloc [.nilf])⟩,
    ⟨none, none, (.store 1 (.t 10) (.t 31))⟩] ⟨false, [], []⟩)
  (.seq (.ops [
    ⟨(some 32), none, (.mv (.t 0))⟩,
    ⟨(some 33), none, (.mv (.t 0))⟩,
    ⟨(some 34), none, (.mkfn 80 [(.t 7), (.t 10), (.t 6), (.t 5)])⟩,
    ⟨(some 35), none, (.call 73 [(.t 32), (.t 33), (.t 34)])⟩,
    ⟨(some 36), none, (.ext 0 (.t 35))⟩,
    ⟨(some 37), none, (.ext 1 (.t 35))⟩,
    ⟨none, none, (.store 2 (.t 8) (.t 36))⟩,
    ⟨(some 9), none, (.mv (.t 37))⟩] ⟨false, [], []⟩)
  .ret))))⟩

/- paternoster/paternosterref09.Same -/
def w63_c0 : WCode := (.seq (.ops [
    ⟨(some 14), none, (.mv (.t 3))⟩,
    ⟨(some 2), none, (.mv (.t 14))⟩] ⟨false, [], []⟩)
  .ret)

def w63_B0 : WCode := (.seq (.seq (.ops [
     ⟨(some 5), none, (.mv (.t 4))⟩,
     ⟨(some 6), none, (.mv (.t 0))⟩,
     ⟨(some 7), none, (.bin .lss (.t 5) (.t 6))⟩] ⟨false, [], []⟩)
   (.cond (.t 7) .skip
    (.exit 0)))
  (.seq (.block 1 (.ops [
     ⟨(some 10), none, (.mv (.t 3))⟩,
     ⟨(some 11), none, (.mv (.t 4))⟩,
     ⟨(some 12), none, (.buildS [(.int .i64 0)] 1 [(0, (.t 11))])⟩,
     ⟨(some 13), none, (.app [(.int .i64 0)] 8 false (.t 10) (.t 12))⟩,
     ⟨(some 3), none, (.mv (.t 13))⟩] ⟨false, [], []⟩) ⟨false, [], []⟩)
  (.ops [
   ⟨(some 8), none, (.mv (.t 4))⟩,
   ⟨(some 9), none, (.bin .add (.t 8) (.c (.int .i64 1)))⟩,
   ⟨(some 4), none, (.mv (.t 9))⟩] ⟨false, [], []⟩)))
def w63_L0 : WCode := .loop ⟨true, [4, 3, 0], []⟩ w63_B0
def w63 : WFn := ⟨1, [.tmp 2],
 (.seq (.ops [
    ⟨(some 2), none, (.mv (.c (.ro 1 [] true)))⟩] ⟨false, [], []⟩)
  (.seq (.ops [
    ⟨(some 3), none, (.mv (.c (.ro 1 [] true)))⟩] ⟨true, [3, 0], [(3, 1)]⟩)
  (.seq (.seq (.ops [
     ⟨(some 4), none, (.mv (.c (.int .i64 0)))⟩] ⟨false, [], []⟩)
   (.block 0 w63_L0 ⟨true, [3], []⟩))
  w63_c0)))⟩

@[simp] theorem w63_E0 {β : Type} {C : WProg} {b : Nat} {f : Ex × WSt → Option β} {k : List Pw.Frame} {s : WSt} : CK C b f k w63_L0 s = LK C b f (.sq w63_L0 :: k) w63_B0 (canon b ⟨true, [4, 3, 0], []⟩ s) := ck_lp rfl
noncomputable abbrev w63_K0 (C : WProg) (s : WSt) : Option AV := CK C 0 (pureFin [.tmp 2]) [.sq w63_L0, .bk 0 ⟨true, [3], []⟩, .sq w63_c0] w63_B0 s

/- (paternoster/paternosterlaw09.M).after -/
def w64_c0 : WCode := (.seq (.ops [
    ⟨(some 92), none, (.mv (.t 1))⟩,
    ⟨(some 4), none, (.mv (.t 92))⟩] ⟨false, [], []⟩)
  .ret)

def w64_B0 : WCode := (.seq (.seq (.ops [
     ⟨(some 11), none, (.mv (.t 5))⟩,
     ⟨(some 12), none, (.fld 1 (.t 2))⟩,
     ⟨(some 13), none, (.load 1 false (.t 12))⟩,
     ⟨(some 14), none, (.len 1 (.t 13))⟩,
     ⟨(some 15), none, (.bin .lss (.t 11) (.t 14))⟩,
     ⟨(some 16), none, (.mv (.t 15))⟩,
     ⟨(some 17), (some (16, true)), (.mv (.t 5))⟩,
     ⟨(some 18), (some (16, true)), (.bin .lss (.t 17) (.c (.int .i64 12)))⟩,
     ⟨(some 19), none, (.pick (.t 16) (.t 18) (.c (.bool false)))⟩] ⟨false, [], []⟩)
   (.cond (.t 19) .skip
    (.exit 0)))
  (.seq (.block 1 (.seq (.ops [
      ⟨(some 22), none, (.fld 1 (.t 2))⟩,
      ⟨(some 23), none, (.load 1 false (.t 22))⟩,
      ⟨(some 24), none, (.mv (.t 5))⟩,
      ⟨(some 25), none, (.idxs 4 (.t 23) (.t 24))⟩,
      ⟨(some 26), none, (.load 4 true (.t 25))⟩,
      ⟨(some 6), none, (.alloc [(.int .u8 0), (.int .u8 0), (.int .u8 0), (.int .u8 0)])⟩,
      ⟨none, none, (.store 4 (.t 6) (.t 26))⟩] ⟨true, [6, 5, 2, 1], []⟩)
    (.seq (.ops [
      ⟨(some 27), none, (.idxa 4 1 (.t 6) (.c (.int .i64 1)))⟩,
      ⟨(some 28), none, (.load 1 false (.t 27))⟩,
      ⟨(some 29), none, (.cvt .i64 (.t 28))⟩,
      ⟨(some 30), none, (.mv (.t 1))⟩,
      ⟨(some 31), none, (.len 1 (.t 30))⟩,
      ⟨(some 32), none, (.bin .add (.t 31) (.c (.int .i64 1)))⟩,
      ⟨(some 33), none, (.bin .rem (.t 29) (.t 32))⟩,
      ⟨(some 7), none, (.mv (.t 33))⟩] ⟨false, [], []⟩)
    (.seq (.ops [
      ⟨(some 34), none, (.idxa 4 1 (.t 6) (.c (.int .i64 2)))⟩,
      ⟨(some 35), none, (.load 1 false (.t 34))⟩,
      ⟨(some 36), none, (.bin .rem (.t 35) (.c (.int .u8 6)))⟩,
      ⟨(some 37), none, (.cvt .i64 (.t 36))⟩,
      ⟨(some 8), none, (.mv (.t 37))⟩] ⟨false, [], []⟩)
    (.seq (.seq (.ops [
       ⟨(some 38), none, (.idxa 4 1 (.t 6) (.c (.int .i64 0)))⟩,
       ⟨(some 39), none, (.load 1 false (.t 38))⟩,
       ⟨(some 40), none, (.bin .rem (.t 39) (.c (.int .u8 3)))⟩,
       ⟨(some 41), none, (.bin .gtr (.t 40) (.c (.int .u8 0)))⟩] ⟨false, [], []⟩)
     (.cond (.t 41) (.ops [
        ⟨(some 42), none, (.mv (.t 8))⟩,
        ⟨(some 43), none, (.mv (.t 1))⟩,
        ⟨(some 44), none, (.len 1 (.t 43))⟩,
        ⟨(some 45), none, (.mv (.t 7))⟩,
        ⟨(some 46), none, (.bin .sub (.t 44) (.t 45))⟩,
        ⟨(some 47), none, (.mn (.t 42) (.t 46))⟩,
        ⟨(some 8), none, (.mv (.t 47))⟩] ⟨true, [8, 7, 6, 5, 2, 1], []⟩)
      .skip))
    (.seq (.ops [
      ⟨(some 48), none, (.idxa 4 1 (.t 6) (.c (.int .i64 3)))⟩,
      ⟨(some 49), none, (.load 1 false (.t 48))⟩,
      ⟨(some 50), none, (.cvt .i64 (.t 49))⟩,
      ⟨(some 51), none, (.mv (.t 1))⟩,
      ⟨(some 52), none, (.len 1 (.t 51))⟩,
      ⟨(some 53), none, (.mv (.t 8))⟩,
      ⟨(some 54), none, (.mv (.t 1))⟩,
      ⟨(some 55), none, (.len 1 (.t 54))⟩,
      ⟨(some 56), none, (.mn (.t 53) (.t 55))⟩,
      ⟨(some 57), none, (.bin .sub (.t 52) (.t 56))⟩,
      ⟨(some 58), none, (.bin .add (.t 57) (.c (.int .i64 1)))⟩,
      ⟨(some 59), none, (.bin .rem (.t 50) (.t 58))⟩,
      ⟨(some 9), none, (.mv (.t 59))⟩] ⟨false, [], []⟩)
    (.seq (.ops [
      ⟨(some 10), none, (.mv (.c (.ro 1 [] true)))⟩] ⟨false, [], []⟩)
    (.seq (.seq (.ops [
       ⟨(some 60), none, (.idxa 4 1 (.t 6) (.c (.int .i64 0)))⟩,
       ⟨(some 61), none, (.load 1 false (.t 60))⟩,
       ⟨(some 62), none, (.bin .rem (.t 61) (.c (.int .u8 3)))⟩] ⟨false, [], []⟩)
     (.block 2 (.seq (.ops [
        ⟨(some 64), none, (.bin .eql (.t 62) (.c (.int .u8 0)))⟩,
        ⟨(some 63), none, (.mv (.t 64))⟩] ⟨false, [], []⟩)
      (.cond (.t 63) (.ops [
         ⟨(some 66), none, (.mv (.t 1))⟩,
         ⟨(some 67), none, (.mv (.t 7))⟩,
         ⟨(some 68), none, (.mv (.t 8))⟩,
         ⟨(some 69), none, (.call 68 [(.t 66), (.t 67), (.t 68)])⟩,
         ⟨(some 65), none, (.mv (.t 69))⟩,
         ⟨(some 70), none, (.ext 0 (.t 65))⟩,
         ⟨(some 71), none, (.ext 1 (.t 65))⟩,
         ⟨(some 10), none, (.mv (.t 70))⟩] ⟨false, [], []⟩)
       (.seq (.ops [
          ⟨(some 73), none, (.bin .eql (.t 62) (.c (.int .u8 1)))⟩,
          ⟨(some 72), none, (.mv (.t 73))⟩] ⟨false, [], []⟩)
        (.cond (.t 72) (.ops [
           ⟨(some 75), none, (.mv (.t 1))⟩,
           ⟨(some 76), none, (.mv (.t 7))⟩,
           ⟨(some 77), none, (.mv (.t 8))⟩,
           ⟨(some 78), none, (.call 69 [(.t 75), (.t 76), (.t 77)])⟩,
           ⟨(some 74), none, (.mv (.t 78))⟩,
           ⟨(some 79), none, (.ext 0 (.t 74))⟩,
           ⟨(some 80), none, (.ext 1 (.t 74))⟩,
           ⟨(some 10), none, (.mv (.t 79))⟩] ⟨false, [], []⟩)
         (.seq (.ops [
            ⟨(some 82), none, (.bin .eql (.t 62) (.c (.int .u8 2)))⟩,
            ⟨(some 81), none, (.mv (.t 82))⟩] ⟨false, [], []⟩)
          (.cond (.t 81) (.ops [
             ⟨(some 84), none, (.mv (.t 1))⟩,
             ⟨(some 85), none, (.mv (.t 7))⟩,
             ⟨(some 86), none, (.mv (.t 8))⟩,
             ⟨(some 87), none, (.mv (.t 9))⟩,
             ⟨(some 88), none, (.call 70 [(.t 84), (.t 85), (.t 86), (.t 87)])⟩,
             ⟨(some 83), none, (.mv (.t 88))⟩,
             ⟨(some 89), none, (.ext 0 (.t 83))⟩,
             ⟨(some 90), none, (.ext 1 (.t 83))⟩,
             ⟨(some 10), none, (.mv (.t 89))⟩] ⟨true, [10, 5, 2], []⟩)
           .skip)))))) ⟨false, [], []⟩))
    (.ops [
     ⟨(some 91), none, (.mv (.t 10))⟩,
     ⟨(some 1), none, (.mv (.t 91))⟩] ⟨false, [], []⟩)))))))) ⟨false, [], []⟩)
  (.ops [
   ⟨(some 20), none, (.mv (.t 5))⟩,
   ⟨(some 21), none, (.bin .add (.t 20) (.c (.int .i64 1)))⟩,
   ⟨(some 5), none, (.mv (.t 21))⟩] ⟨false, [], []⟩)))
def w64_L0 : WCode := .loop ⟨true, [5, 2, 1], []⟩ w64_B0
def w64 : WFn := ⟨2, [.tmp 4],
 (.seq (.ops [
    ⟨(some 2), none, (.box (.t 0))⟩,
    ⟨(some 4), none, (.mv (.c (.ro 1 [] true)))⟩] ⟨false, [], []⟩)
  (.seq (.seq (.ops [
     ⟨(some 5), none, (.mv (.c (.int .i64 0)))⟩] ⟨false, [], []⟩)
   (.block 0 w64_L0 ⟨true, [1], []⟩))
  w64_c0))⟩

@[simp] theorem w64_E0 {β : Type} {C : WProg} {b : Nat} {f : Ex × WSt → Option β} {k : List Pw.Frame} {s : WSt} : CK C b f k w64_L0 s = LK C b f (.sq w64_L0 :: k) w64_B0 (canon b ⟨true, [5, 2, 1], []⟩ s) := ck_lp rfl
noncomputable abbrev w64_K0 (C : WProg) (s : WSt) : Option AV := CK C 0 (pureFin [.tmp 4]) [.sq w64_L0, .bk 0 ⟨true, [1], []⟩, .sq w64_c0] w64_B0 s

/- paternoster/remaps.Same -/
def w65 : WFn := ⟨1, [.cell 2 2 true, .tmp 3],
 (.seq (.ops [
    ⟨(some 2), none, (.alloc [(.int .i64 0), (.ro 1 [] true)])⟩,
    ⟨(some 3), none, (.mv (.c (.int .i64 0)))⟩] ⟨false, [], []⟩)
  (.seq (.seq (.ops [
     ⟨(some 4), none, (.mv (.t 0))⟩,
     ⟨(some 5), none, (.call 77 [(.t 4)])⟩] ⟨false, [], []⟩)
   (.cond (.t 5) (.seq (.ops [
       ⟨(some 6), none, (.build [(.int .i64 0), (.ro 1 [] true)] [])⟩,
       ⟨none, none, (.store 2 (.t 2) (.t 6))⟩,
       ⟨(some 3), none, (.mv (.c (.int .i64 4)))⟩] ⟨false, [], []⟩)
     .ret)
    .skip))
  (.seq (.ops [
    ⟨(some 7), none, (.mv (.t 0))⟩,
    ⟨(some 8), none, (.mv (.t 0))⟩,
    ⟨(some 9), none, (.call 73 [(.t 7), (.t 8), (.c (.fn 81 []))])⟩,
    ⟨(some 10), none, (.ext 0 (.t 9))⟩,
    ⟨(some 11), none, (.ext 1 (.t 9))⟩,
    ⟨none, none, (.store 2 (.t 2) (.t 10))⟩,
    ⟨(some 3), none, (.mv (.t 11))⟩] ⟨false, [], []⟩)
  .ret)))⟩

/- paternoster/remaps.Inserted -/
def w66 : WFn := ⟨3, [.cell 6 2 true, .tmp 7],
 (.seq (.ops [
    ⟨(some 4), none, (.box (.t 1))⟩,
    ⟨(some 5), none, (.box (.t 2))⟩,
    ⟨(some 6), none, (.alloc [(.int .i64 0), (.ro 1 [] true)])⟩,
    ⟨(some 7), none, (.mv (.c (.int .i64 0)))⟩] ⟨false, [], []⟩)
  (.seq (.block 0 (.seq (.ops [
      ⟨(some 9), none, (.mv (.t 0))⟩,
      ⟨(some 10), none, (.call 77 [(.t 9)])⟩,
      ⟨(some 11), none, (.mv (.t 10))⟩,
      ⟨(some 12), (some (11, false)), (.load 1 false (.t 4))⟩,
      ⟨(some 13), (some (11, false)), (.bin .lss (.t 12) (.c (.int .i64 0)))⟩,
      ⟨(some 14), none, (.pick (.t 11) (.c (.bool true)) (.t 13))⟩,
      ⟨(some 15), none, (.mv (.t 14))⟩,
      ⟨(some 16), (some (15, false)), (.load 1 false (.t 4))⟩,
      ⟨(some 17), (some (15, false)), (.mv (.t 0))⟩,
      ⟨(some 18), (some (15, false)), (.bin .gtr (.t 16) (.t 17))⟩,
      ⟨(some 19), none, (.pick (.t 15) (.c (.bool true)) (.t 18))⟩,
      ⟨(some 20), none, (.mv (.t 19))⟩,
      ⟨(some 21), (some (20, false)), (.load 1 false (.t 5))⟩,
      ⟨(some 22), (some (20, false)), (.bin .lss (.t 21) (.c (.int .i64 0)))⟩,
      ⟨(some 23), none, (.pick (.t 20) (.c (.bool true)) (.t 22))⟩,
      ⟨(some 8), none, (.mv (.t 23))⟩] ⟨true, [8, 6, 5, 4, 0], []⟩)
    (.cond (.t 8) (.seq (.ops [
        ⟨(some 24), none, (.build [(.int .i64 0), (.ro 1 [] true)] [])⟩,
        ⟨none, none, (.store 2 (.t 6) (.t 24))⟩,
        ⟨(some 7), none, (.mv (.c (.int .i64 4)))⟩] ⟨false, [], []⟩)
      .ret)
     (.seq (.ops [
        ⟨(some 26), none, (.load 1 false (.t 5))⟩,
        ⟨(some 27), none, (.mv (.t 0))⟩,
        ⟨(some 28), none, (.bin .sub (.c (.int .i64 4096)) (.t 27))⟩,
        ⟨(some 29), none, (.bin .gtr (.t 26) (.t 28))⟩,
        ⟨(some 25), none, (.mv (.t 29))⟩] ⟨false, [], []⟩)
      (.cond (.t 25) (.seq (.ops [
          ⟨(some 30), none, (.build [(.int .i64 0), (.ro 1 [] true)] [])⟩,
          ⟨none, none, (.store 2 (.t 6) (.t 30))⟩,
          ⟨(some 7), none, (.mv (.c (.int .i64 3)))⟩] ⟨false, [], []⟩)
        .ret)
       .skip)))) ⟨false, [], []⟩)
  (.seq (.ops [
    ⟨(some 31), none, (.mv (.t 0))⟩,
    ⟨(some 32), none, (.mv (.t 0))⟩,
    ⟨(some 33), none, (.load 1 false (.t 5))⟩,
    ⟨(some 34), none, (.bin .add (.t 32) (.t 33))⟩,
    ⟨(some 35), none, (.mkfn 82 [(.t 4), (.t 5)])⟩,
    ⟨(some 36), none, (.call 73 [(.t 31), (.t 34), (.t 35)])⟩,
    ⟨(some 37), none, (.ext 0 (.t 36))⟩,
    ⟨(some 38), none, (.ext 1 (.t 36))⟩,
    ⟨none, none, (.store 2 (.t 6) (.t 37))⟩,
    ⟨(some 7), none, (.mv (.t 38))⟩] ⟨false, [], []⟩)
  .ret)))⟩

/- paternoster/remaps.Removed -/
def w67 : WFn := ⟨3, [.cell 6 2 true, .tmp 7],
 (.seq (.ops [
    ⟨(some 4), none, (.box (.t 1))⟩,
    ⟨(some 5), none, (.box (.t 2))⟩,
    ⟨(some 6), none, (.alloc [(.int .i64 0), (.ro 1 [] true)])⟩,
    ⟨(some 7), none, (.mv (.c (.int .i64 0)))⟩] ⟨true, [6, 5, 4, 0], []⟩)
  (.seq (.seq (.ops [
     ⟨(some 8), none, (.mv (.t 0))⟩,
     ⟨(some 9), none, (.call 77 [(.t 8)])⟩,
     ⟨(some 10), none, (.mv (.t 9))⟩,
     ⟨(some 11), (some (10, false)), (.mv (.t 0))⟩,
     ⟨(some 12), (some (10, false)), (.load 1 false (.t 4))⟩,
     ⟨(some 13), (some (10, false)), (.load 1 false (.t 5))⟩,
     ⟨(some 14), (some (10, false)), (.call 78 [(.t 11), (.t 12), (.t 13)])⟩,
     ⟨(some 15), none, (.pick (.t 10) (.c (.bool true)) (.t 14))⟩] ⟨false, [], []⟩)
   (.cond (.t 15) (.seq (.ops [
       ⟨(some 16), none, (.build [(.int .i64 0), (.ro 1 [] true)] [])⟩,
       ⟨none, none, (.store 2 (.t 6) (.t 16))⟩,
       ⟨(some 7), none, (.mv (.c (.int .i64 4)))⟩] ⟨false, [], []⟩)
     .ret)
    .skip))
  (.seq (.ops [
    ⟨(some 17), none, (.mv (.t 0))⟩,
    ⟨(some 18), none, (.mv (.t 0))⟩,
    ⟨(some 19), none, (.load 1 false (.t 5))⟩,
    ⟨(some 20), none, (.bin .sub (.t 18) (.t 19))⟩,
    ⟨(some 21), none, (.mkfn 83 [(.t 4), (.t 5)])⟩,
    ⟨(some 22), none, (.call 73 [(.t 17), (.t 20), (.t 21)])⟩,
    ⟨(some 23), none, (.ext 0 (.t 22))⟩,
    ⟨(some 24), none, (.ext 1 (.t 22))⟩,
    ⟨none, none, (.store 2 (.t 6) (.t 23))⟩,
    ⟨(some 7), none, (.mv (.t 24))⟩] ⟨false, [], []⟩)
  .ret)))⟩

/- paternoster/paternosterref09.Insert -/
def w68_c0 : WCode := (.seq (.ops [
    ⟨(some 40), none, (.mv (.t 8))⟩,
    ⟨(some 41), none, (.mv (.t 0))⟩,
    ⟨(some 42), none, (.mv (.t 1))⟩,
    ⟨(some 43), none, (.slice 1 (.t 41) (some (.t 42)) none none)⟩,
    ⟨(some 44), none, (.app [(.int .i64 0)] 8 false (.t 40) (.t 43))⟩,
    ⟨(some 6), none, (.mv (.t 44))⟩,
    ⟨(some 7), none, (.mv (.c (.int .i64 0)))⟩] ⟨false, [], []⟩)
  .ret)

def w68_B0 : WCode := (.seq (.seq (.ops [
     ⟨(some 32), none, (.mv (.t 9))⟩,
     ⟨(some 33), none, (.mv (.t 2))⟩,
     ⟨(some 34), none, (.bin .lss (.t 32) (.t 33))⟩] ⟨false, [], []⟩)
   (.cond (.t 34) .skip
    (.exit 0)))
  (.seq (.block 1 (.ops [
     ⟨(some 37), none, (.mv (.t 8))⟩,
     ⟨(some 38), none, (.buildS [(.int .i64 0)] 1 [(0, (.c (.int .i64 (-1))))])⟩,
     ⟨(some 39), none, (.app [(.int .i64 0)] 8 false (.t 37) (.t 38))⟩,
     ⟨(some 8), none, (.mv (.t 39))⟩] ⟨false, [], []⟩) ⟨false, [], []⟩)
  (.ops [
   ⟨(some 35), none, (.mv (.t 9))⟩,
   ⟨(some 36), none, (.bin .add (.t 35) (.c (.int .i64 1)))⟩,
   ⟨(some 9), none, (.mv (.t 36))⟩] ⟨false, [], []⟩)))
def w68_L0 : WCode := .loop ⟨true, [9, 8, 2, 1, 0], []⟩ w68_B0
def w68 : WFn := ⟨3, [.tmp 6, .tmp 7],
 (.seq (.ops [
    ⟨(some 6), none, (.mv (.c (.ro 1 [] true)))⟩,
    ⟨(some 7), none, (.mv (.c (.int .i64 0)))⟩] ⟨false, [], []⟩)
  (.seq (.seq (.ops [
     ⟨(some 10), none, (.mv (.t 1))⟩,
     ⟨(some 11), none, (.bin .lss (.t 10) (.c (.int .i64 0)))⟩,
     ⟨(some 12), none, (.mv (.t 11))⟩,
     ⟨(some 13), (some (12, false)), (.mv (.t 1))⟩,
     ⟨(some 14), (some (12, false)), (.mv (.t 0))⟩,
     ⟨(some 15), (some (12, false)), (.len 1 (.t 14))⟩,
     ⟨(some 16), (some (12, false)), (.bin .gtr (.t 13) (.t 15))⟩,
     ⟨(some 17), none, (.pick (.t 12) (.c (.bool true)) (.t 16))⟩,
     ⟨(some 18), none, (.mv (.t 17))⟩,
     ⟨(some 19), (some (18, false)), (.mv (.t 2))⟩,
     ⟨(some 20), (some (18, false)), (.bin .lss (.t 19) (.c (.int .i64 0)))⟩,
     ⟨(some 21), none, (.pick (.t 18) (.c (.bool true)) (.t 20))⟩] ⟨false, [], []⟩)
   (.cond (.t 21) (.seq (.ops [
       ⟨(some 6), none, (.mv (.c (.ro 1 [] true)))⟩,
       ⟨(some 7), none, (.mv (.c (.int .i64 4)))⟩] ⟨false, [], []⟩)
     .ret)
    .skip))
  (.seq (.seq (.ops [
     ⟨(some 22), none, (.mv (.t 2))⟩,
     ⟨(some 23), none, (.mv (.t 0))⟩,
     ⟨(some 24), none, (.len 1 (.t 23))⟩,
     ⟨(some 25), none, (.bin .sub (.c (.int .i64 4096)) (.t 24))⟩,
     ⟨(some 26), none, (.bin .gtr (.t 22) (.t 25))⟩] ⟨false, [], []⟩)
   (.cond (.t 26) (.seq (.ops [
       ⟨(some 6), none, (.mv (.c (.ro 1 [] true)))⟩,
       ⟨(some 7), none, (.mv (.c (.int .i64 3)))⟩] ⟨false, [], []⟩)
     .ret)
    .skip))
  (.seq (.ops [
    ⟨(some 27), none, (.buildS [(.int .i64 0)] 0 [])⟩,
    ⟨(some 28), none, (.mv (.t 0))⟩,
    ⟨(some 29), none, (.mv (.t 1))⟩,
    ⟨(some 30), none, (.slice 1 (.t 28) none (some (.t 29)) none)⟩,
    ⟨(some 31), none, (.app [(.int .i64 0)] 8 false (.t 27) (.t 30))⟩,
    ⟨(some 8), none, (.mv (.t 31))⟩] ⟨true, [8, 2, 1, 0], []⟩)
  (.seq (.seq (.ops [
     ⟨(some 9), none, (.mv (.c (.int .i64 0)))⟩] ⟨false, [], []⟩)
   (.block 0 w68_L0 ⟨true, [8, 1, 0], []⟩))
  w68_c0)))))⟩

@[simp] theorem w68_E0 {β : Type} {C : WProg} {b : Nat} {f : Ex × WSt → Option β} {k : List Pw.Frame} {s : WSt} : CK C b f k w68_L0 s = LK C b f (.sq w68_L0 :: k) w68_B0 (canon b ⟨true, [9, 8, 2, 1, 0], []⟩ s) := ck_lp rfl
noncomputable abbrev w68_K0 (C : WProg) (s : WSt) : Option AV := CK C 0 (pureFin [.tmp 6, .tmp 7]) [.sq w68_L0, .bk 0 ⟨true, [8, 1, 0], []⟩, .sq w68_c0] w68_B0 s

/- paternoster/paternosterref09.Remove -/
def w69 : WFn := ⟨3, [.tmp 6, .tmp 7],
 (.seq (.ops [
    ⟨(some 6), none, (.mv (.c (.ro 1 [] true)))⟩,
    ⟨(some 7), none, (.mv (.c (.int .i64 0)))⟩] ⟨false, [], []⟩)
  (.seq (.seq (.ops [
     ⟨(some 8), none, (.mv (.t 1))⟩,
     ⟨(some 9), none, (.bin .lss (.t 8) (.c (.int .i64 0)))⟩,
     ⟨(some 10), none, (.mv (.t 9))⟩,
     ⟨(some 11), (some (10, false)), (.mv (.t 2))⟩,
     ⟨(some 12), (some (10, false)), (.bin .lss (.t 11) (.c (.int .i64 0)))⟩,
     ⟨(some 13), none, (.pick (.t 10) (.c (.bool true)) (.t 12))⟩,
     ⟨(some 14), none, (.mv (.t 13))⟩,
     ⟨(some 15), (some (14, false)), (.mv (.t 1))⟩,
     ⟨(some 16), (some (14, false)), (.mv (.t 0))⟩,
     ⟨(some 17), (some (14, false)), (.len 1 (.t 16))⟩,
     ⟨(some 18), (some (14, false)), (.bin .gtr (.t 15) (.t 17))⟩,
     ⟨(some 19), none, (.pick (.t 14) (.c (.bool true)) (.t 18))⟩,
     ⟨(some 20), none, (.mv (.t 19))⟩,
     ⟨(some 21), (some (20, false)), (.mv (.t 2))⟩,
     ⟨(some 22), (some (20, false)), (.mv (.t 0))⟩,
     ⟨(some 23), (some (20, false)), (.len 1 (.t 22))⟩,
     ⟨(some 24), (some (20, false)), (.mv (.t 1))⟩,
     ⟨(some 25), (some (20, false)), (.bin .sub (.t 23) (.t 24))⟩,
     ⟨(some 26), (some (20, false)), (.bin .gtr (.t 21) (.t 25))⟩,
     ⟨(some 27), none, (.pick (.t 20) (.c (.bool true)) (.t 26))⟩] ⟨true, [27, 2, 1, 0], []⟩)
   (.cond (.t 27) (.seq (.ops [
       ⟨(some 6), none, (.mv (.c (.ro 1 [] true)))⟩,
       ⟨(some 7), none, (.mv (.c (.int .i64 4)))⟩] ⟨false, [], []⟩)
     .ret)
    .skip))
  (.seq (.draw [
    ⟨(some 28), none, (.buildS [(.int .i64 0)] 0 [])⟩,
    ⟨(some 29), none, (.mv (.t 0))⟩,
    ⟨(some 30), none, (.mv (.t 1))⟩,
    ⟨(some 31), none, (.slice 1 (.t 29) none (some (.t 30)) none)⟩,
    ⟨(some 32), none, (.app [(.int .i64 0)] 8 false (.t 28) (.t 31))⟩,
    ⟨(some 33), none, (.mv (.t 0))⟩,
    ⟨(some 34), none, (.mv (.t 1))⟩,
    ⟨(some 35), none, (.mv (.t 2))⟩,
    ⟨(some 36), none, (.bin .add (.t 34) (.t 35))⟩,
    ⟨(some 37), none, (.slice 1 (.t 33) (some (.t 36)) none none)⟩,
    ⟨(some 38), none, (.app [(.int .i64 0)] 8 false (.t 32) (.t 37))⟩,
    ⟨(some 6), none, (.mv (.t 38))⟩,
    ⟨(some 7), none, (.mv (.c (.int .i64 0)))⟩] [] ⟨false, [], []⟩)
  .ret)))⟩

/- paternoster/paternosterref09.Move -/
def w70 : WFn := ⟨4, [.tmp 8, .tmp 9],
 (.seq (.ops [
    ⟨(some 8), none, (.mv (.c (.ro 1 [] true)))⟩,
    ⟨(some 9), none, (.mv (.c (.int .i64 0)))⟩] ⟨false, [], []⟩)
  (.seq (.ops [
    ⟨(some 14), none, (.mv (.t 0))⟩,
    ⟨(some 15), none, (.mv (.t 1))⟩,
    ⟨(some 16), none, (.mv (.t 2))⟩,
    ⟨(some 17), none, (.call 69 [(.t 14), (.t 15), (.t 16)])⟩,
    ⟨(some 13), none, (.mv (.t 17))⟩,
    ⟨(some 18), none, (.ext 0 (.t 13))⟩,
    ⟨(some 19), none, (.ext 1 (.t 13))⟩,
    ⟨(some 10), none, (.mv (.t 18))⟩,
    ⟨(some 11), none, (.mv (.t 19))⟩] ⟨false, [], []⟩)
  (.seq (.seq (.ops [
     ⟨(some 20), none, (.mv (.t 11))⟩,
     ⟨(some 21), none, (.bin .neq (.t 20) (.c (.int .i64 0)))⟩,
     ⟨(some 22), none, (.mv (.t 21))⟩,
     ⟨(some 23), (some (22, false)), (.mv (.t 3))⟩,
     ⟨(some 24), (some (22, false)), (.bin .lss (.t 23) (.c (.int .i64 0)))⟩,
     ⟨(some 25), none, (.pick (.t 22) (.c (.bool true)) (.t 24))⟩,
     ⟨(some 26), none, (.mv (.t 25))⟩,
     ⟨(some 27), (some (26, false)), (.mv (.t 3))⟩,
     ⟨(some 28), (some (26, false)), (.mv (.t 10))⟩,
     ⟨(some 29), (some (26, false)), (.len 1 (.t 28))⟩,
     ⟨(some 30), (some (26, false)), (.bin .gtr (.t 27) (.t 29))⟩,
     ⟨(some 31), none, (.pick (.t 26) (.c (.bool true)) (.t 30))⟩] ⟨true, [31, 10, 3, 2, 1, 0], []⟩)
   (.cond (.t 31) (.seq (.ops [
       ⟨(some 8), none, (.mv (.c (.ro 1 [] true)))⟩,
       ⟨(some 9), none, (.mv (.c (.int .i64 4)))⟩] ⟨false, [], []⟩)
     .ret)
    .skip))
  (.seq (.draw [
    ⟨(some 32), none, (.buildS [(.int .i64 0)] 0 [])⟩,
    ⟨(some 33), none, (.mv (.t 10))⟩,
    ⟨(some 34), none, (.mv (.t 3))⟩,
    ⟨(some 35), none, (.slice 1 (.t 33) none (some (.t 34)) none)⟩,
    ⟨(some 36), none, (.app [(.int .i64 0)] 8 false (.t 32) (.t 35))⟩,
    ⟨(some 37), none, (.mv (.t 0))⟩,
    ⟨(some 38), none, (.mv (.t 1))⟩,
    ⟨(some 39), none, (.mv (.t 1))⟩,
    ⟨(some 40), none, (.mv (.t 2))⟩,
    ⟨(some 41), none, (.bin .add (.t 39) (.t 40))⟩,
    ⟨(some 42), none, (.slice 1 (.t 37) (some (.t 38)) (some (.t 41)) none)⟩,
    ⟨(some 43), none, (.app [(.int .i64 0)] 8 false (.t 36) (.t 42))⟩,
    ⟨(some 12), none, (.mv (.t 43))⟩] [] ⟨false, [], []⟩)
  (.seq (.ops [
    ⟨(some 44), none, (.mv (.t 12))⟩,
    ⟨(some 45), none, (.mv (.t 10))⟩,
    ⟨(some 46), none, (.mv (.t 3))⟩,
    ⟨(some 47), none, (.slice 1 (.t 45) (some (.t 46)) none none)⟩,
    ⟨(some 48), none, (.app [(.int .i64 0)] 8 false (.t 44) (.t 47))⟩,
    ⟨(some 8), none, (.mv (.t 48))⟩,
    ⟨(some 9), none, (.mv (.c (.int .i64 0)))⟩] ⟨false, [], []⟩)
  .ret)))))⟩

/- paternoster/paternosterlaw09.old -/
def w71 : WFn := ⟨2, [.tmp 4],
 (.seq (.ops [
    ⟨(some 4), none, (.mv (.c (.int .i64 0)))⟩] ⟨false, [], []⟩)
  (.seq (.seq (.ops [
     ⟨(some 5), none, (.mv (.t 1))⟩,
     ⟨(some 6), none, (.bin .neq (.t 5) (.c (.int .i64 0)))⟩] ⟨false, [], []⟩)
   (.cond (.t 6) (.seq (.ops [
       ⟨(some 4), none, (.mv (.c (.int .i64 0)))⟩] ⟨false, [], []⟩)
     .ret)
    .skip))
  (.seq (.ops [
    ⟨(some 7), none, (.mv (.t 0))⟩,
    ⟨(some 4), none, (.mv (.t 7))⟩] ⟨false, [], []⟩)
  .ret)))⟩

/- paternoster/remaps.Carry[string] -/
def w72_c0 : WCode := (.seq (.ops [
    ⟨(some 46), none, (.mv (.t 7))⟩,
    ⟨(some 4), none, (.mv (.t 46))⟩,
    ⟨(some 5), none, (.mv (.c (.int .i64 0)))⟩] ⟨false, [], []⟩)
  .ret)

def w72_B0 : WCode := (.seq (.ops [
    ⟨(some 32), none, (.bin .lss (.t 31) (.t 30))⟩] ⟨false, [], []⟩)
  (.seq (.cond (.t 32) .skip
    (.exit 0))
  (.seq (.block 1 (.seq (.ops [
      ⟨(some 33), none, (.mv (.t 31))⟩,
      ⟨(some 34), none, (.idxs 1 (.t 29) (.t 31))⟩,
      ⟨(some 35), none, (.load 1 false (.t 34))⟩,
      ⟨(some 8), none, (.mv (.t 33))⟩,
      ⟨(some 9), none, (.mv (.t 35))⟩] ⟨false, [], []⟩)
    (.seq (.ops [
      ⟨(some 36), none, (.mv (.t 9))⟩,
      ⟨(some 37), none, (.bin .geq (.t 36) (.c (.int .i64 0)))⟩] ⟨false, [], []⟩)
    (.cond (.t 37) (.ops [
       ⟨(some 38), none, (.mv (.t 7))⟩,
       ⟨(some 39), none, (.mv (.t 8))⟩,
       ⟨(some 40), none, (.mv (.t 1))⟩,
       ⟨(some 41), none, (.mv (.t 9))⟩,
       ⟨(some 42), none, (.idxs 1 (.t 40) (.t 41))⟩,
       ⟨(some 43), none, (.load 1 false (.t 42))⟩,
       ⟨(some 44), none, (.idxs 1 (.t 38) (.t 39))⟩,
       ⟨none, none, (.store 1 (.t 44) (.t 43))⟩] ⟨false, [], []⟩)
     .skip))) ⟨false, [], []⟩)
  (.ops [
   ⟨(some 45), none, (.bin .add (.t 31) (.c (.int .i64 1)))⟩,
   ⟨(some 31), none, (.mv (.t 45))⟩] ⟨false, [], []⟩))))
def w72_L0 : WCode := .loop ⟨true, [31, 30, 29, 7, 1], []⟩ w72_B0
def w72 : WFn := ⟨2, [.tmp 4, .tmp 5],
 (.seq (.ops [
    ⟨(some 2), none, (.box (.t 0))⟩,
    ⟨(some 4), none, (.mv (.c (.ro 1 [] true)))⟩,
    ⟨(some 5), none, (.mv (.c (.int .i64 0)))⟩] ⟨false, [], []⟩)
  (.seq (.seq (.ops [
     ⟨(some 10), none, (.load 2 true (.t 2))⟩,
     ⟨(some 11), none, (.call 56 [(.t 10)])⟩,
     ⟨(some 6), none, (.mv (.t 11))⟩] ⟨true, [6, 2, 1], []⟩)
   (.seq (.ops [
     ⟨(some 12), none, (.mv (.t 6))⟩,
     ⟨(some 13), none, (.bin .neq (.t 12) (.c (.int .i64 0)))⟩] ⟨false, [], []⟩)
   (.cond (.t 13) (.seq (.ops [
       ⟨(some 14), none, (.mv (.t 6))⟩,
       ⟨(some 4), none, (.mv (.c (.ro 1 [] true)))⟩,
       ⟨(some 5), none, (.mv (.t 14))⟩] ⟨false, [], []⟩)
     .ret)
    .skip)))
  (.seq (.seq (.ops [
     ⟨(some 15), none, (.mv (.t 1))⟩,
     ⟨(some 16), none, (.len 1 (.t 15))⟩,
     ⟨(some 17), none, (.fld 0 (.t 2))⟩,
     ⟨(some 18), none, (.load 1 false (.t 17))⟩,
     ⟨(some 19), none, (.bin .neq (.t 16) (.t 18))⟩] ⟨false, [], []⟩)
   (.cond (.t 19) (.seq (.ops [
       ⟨(some 4), none, (.mv (.c (.ro 1 [] true)))⟩,
       ⟨(some 5), none, (.mv (.c (.int .i64 16)))⟩] ⟨false, [], []⟩)
     .ret)
    .skip))
  (.seq (.seq (.ops [
     ⟨(some 20), none, (.fld 1 (.t 2))⟩,
     ⟨(some 21), none, (.load 1 false (.t 20))⟩,
     ⟨(some 22), none, (.len 1 (.t 21))⟩,
     ⟨(some 23), none, (.bin .eql (.t 22) (.c (.int .i64 0)))⟩] ⟨false, [], []⟩)
   (.cond (.t 23) (.seq (.ops [
       ⟨(some 4), none, (.mv (.c (.ro 1 [] true)))⟩,
       ⟨(some 5), none, (.mv (.c (.int .i64 0)))⟩] ⟨false, [], []⟩)
     .ret)
    .skip))
  (.seq (.ops [
    ⟨(some 24), none, (.fld 1 (.t 2))⟩,
    ⟨(some 25), none, (.load 1 false (.t 24))⟩,
    ⟨(some 26), none, (.len 1 (.t 25))⟩,
    ⟨(some 27), none, (.mksl [(.str [])] 16 (.t 26) (.t 26))⟩,
    ⟨(some 7), none, (.mv (.t 27))⟩] ⟨false, [], []⟩)
  (.seq (.seq (.ops [
     ⟨(some 28), none, (.fld 1 (.t 2))⟩,
     ⟨(some 29), none, (.load 1 false (.t 28))⟩,
     ⟨(some 30), none, (.len 1 (.t 29))⟩,
     ⟨(some 31), none, (.mv (.c (.int .i64 0)))⟩] ⟨true, [31, 30, 29, 7, 1], []⟩)
   (.block 0 w72_L0 ⟨true, [7], []⟩))
  w72_c0))))))⟩

@[simp] theorem w72_E0 {β : Type} {C : WProg} {b : Nat} {f : Ex × WSt → Option β} {k : List Pw.Frame} {s : WSt} : CK C b f k w72_L0 s = LK C b f (.sq w72_L0 :: k) w72_B0 (canon b ⟨true, [31, 30, 29, 7, 1], []⟩ s) := ck_lp rfl
noncomputable abbrev w72_K0 (C : WProg) (s : WSt) : Option AV := CK C 0 (pureFin [.tmp 4, .tmp 5]) [.sq w72_L0, .bk 0 ⟨true, [7], []⟩, .sq w72_c0] w72_B0 s

/- paternoster/remaps.made -/
def w73_c0 : WCode := (.seq (.ops [
    ⟨(some 31), none, (.load 2 true (.t 8))⟩,
    ⟨none, none, (.store 2 (.t 6) (.t 31))⟩,
    ⟨(some 7), none, (.mv (.c (.int .i64 0)))⟩] ⟨false, [], []⟩)
  .ret)

def w73_B0 : WCode := (.seq (.ops [
    ⟨(some 21), none, (.bin .lss (.t 20) (.t 19))⟩] ⟨false, [], []⟩)
  (.seq (.cond (.t 21) .skip
    (.exit 0))
  (.seq (.block 1 (.seq (.ops [
      ⟨(some 22), none, (.mv (.t 20))⟩,
      ⟨(some 9), none, (.mv (.t 22))⟩] ⟨false, [], []⟩)
    (.draw [
     ⟨(some 23), none, (.fld 1 (.t 8))⟩,
     ⟨(some 24), none, (.load 1 false (.t 23))⟩,
     ⟨(some 25), none, (.mv (.t 9))⟩,
     ⟨(some 26), none, (.mv (.t 2))⟩,
     ⟨(some 27), none, (.mv (.t 9))⟩,
     ⟨(some 28), none, (.callv (.t 26) [(.t 27)])⟩,
     ⟨(some 29), none, (.idxs 1 (.t 24) (.t 25))⟩,
     ⟨none, none, (.store 1 (.t 29) (.t 28))⟩] [(1, 5)] ⟨false, [], []⟩)) ⟨false, [], []⟩)
  (.ops [
   ⟨(some 30), none, (.bin .add (.t 20) (.c (.int .i64 1)))⟩,
   ⟨(some 20), none, (.mv (.t 30))⟩] ⟨false, [], []⟩))))
def w73_L0 : WCode := .loop ⟨true, [20, 19, 8, 6, 2], []⟩ w73_B0
def w73 : WFn := ⟨3, [.cell 6 2 true, .tmp 7],
 (.seq (.ops [
    ⟨(some 6), none, (.alloc [(.int .i64 0), (.ro 1 [] true)])⟩,
    ⟨(some 7), none, (.mv (.c (.int .i64 0)))⟩] ⟨false, [], []⟩)
  (.seq (.ops [
    ⟨(some 10), none, (.mv (.t 0))⟩,
    ⟨(some 11), none, (.build [(.int .i64 0), (.ro 1 [] true)] [(0, 1, (.t 10))])⟩,
    ⟨(some 8), none, (.alloc [(.int .i64 0), (.ro 1 [] true)])⟩,
    ⟨none, none, (.store 2 (.t 8) (.t 11))⟩] ⟨false, [], []⟩)
  (.seq (.seq (.ops [
     ⟨(some 12), none, (.mv (.t 1))⟩,
     ⟨(some 13), none, (.bin .gtr (.t 12) (.c (.int .i64 0)))⟩] ⟨false, [], []⟩)
   (.cond (.t 13) (.ops [
      ⟨(some 14), none, (.mv (.t 1))⟩,
      ⟨(some 15), none, (.mksl [(.int .i64 0)] 8 (.t 14) (.t 14))⟩,
      ⟨(some 16), none, (.fld 1 (.t 8))⟩,
      ⟨none, none, (.store 1 (.t 16) (.t 15))⟩] ⟨true, [8, 6, 2], []⟩)
    .skip))
  (.seq (.seq (.ops [
     ⟨(some 17), none, (.fld 1 (.t 8))⟩,
     ⟨(some 18), none, (.load 1 false (.t 17))⟩,
     ⟨(some 19), none, (.len 1 (.t 18))⟩,
     ⟨(some 20), none, (.mv (.c (.int .i64 0)))⟩] ⟨false, [], []⟩)
   (.block 0 w73_L0 ⟨true, [8, 6], []⟩))
  w73_c0))))⟩

@[simp] theorem w73_E0 {β : Type} {C : WProg} {b : Nat} {f : Ex × WSt → Option β} {k : List Pw.Frame} {s : WSt} : CK C b f k w73_L0 s = LK C b f (.sq w73_L0 :: k) w73_B0 (canon b ⟨true, [20, 19, 8, 6, 2], []⟩ s) := ck_lp rfl
noncomputable abbrev w73_K0 (C : WProg) (s : WSt) : Option AV := CK C 0 (pureFin [.cell 6 2 true, .tmp 7]) [.sq w73_L0, .bk 0 ⟨true, [8, 6], []⟩, .sq w73_c0] w73_B0 s

/- paternoster/remaps.Compose$1 -/
def w74 : WFn := ⟨3, [.tmp 4],
 (.seq (.ops [
    ⟨(some 4), none, (.mv (.c (.int .i64 0)))⟩] ⟨false, [], []⟩)
  (.seq (.seq (.ops [
     ⟨(some 6), none, (.fld 1 (.t 1))⟩,
     ⟨(some 7), none, (.load 1 false (.t 6))⟩,
     ⟨(some 8), none, (.mv (.t 0))⟩,
     ⟨(some 9), none, (.idxs 1 (.t 7) (.t 8))⟩,
     ⟨(some 10), none, (.load 1 false (.t 9))⟩,
     ⟨(some 5), none, (.mv (.t 10))⟩] ⟨false, [], []⟩)
   (.seq (.ops [
     ⟨(some 11), none, (.mv (.t 5))⟩,
     ⟨(some 12), none, (.bin .geq (.t 11) (.c (.int .i64 0)))⟩] ⟨false, [], []⟩)
   (.cond (.t 12) (.seq (.ops [
       ⟨(some 13), none, (.fld 1 (.t 2))⟩,
       ⟨(some 14), none, (.load 1 false (.t 13))⟩,
       ⟨(some 15), none, (.mv (.t 5))⟩,
       ⟨(some 16), none, (.idxs 1 (.t 14) (.t 15))⟩,
       ⟨(some 17), none, (.load 1 false (.t 16))⟩,
       ⟨(some 4), none, (.mv (.t 17))⟩] ⟨false, [], []⟩)
     .ret)
    .skip)))
  (.seq (.ops [
    ⟨(some 4), none, (.mv (.c (.int .i64 (-1))))⟩] ⟨false, [], []⟩)
  .ret)))⟩

/- paternoster/remaps.inverse -/
def w75_c0 : WCode := (.seq (.ops [
    ⟨(some 27), none, (.load 4096 true (.t 3))⟩,
    ⟨none, none, (.store 4096 (.t 2) (.t 27))⟩] ⟨false, [], []⟩)
  .ret)

def w75_B0 : WCode := (.seq (.ops [
    ⟨(some 17), none, (.bin .lss (.t 16) (.t 15))⟩] ⟨false, [], []⟩)
  (.seq (.cond (.t 17) .skip
    (.exit 2))
  (.seq (.block 3 (.seq (.ops [
      ⟨(some 18), none, (.mv (.t 16))⟩,
      ⟨(some 19), none, (.idxs 1 (.t 14) (.t 16))⟩,
      ⟨(some 20), none, (.load 1 false (.t 19))⟩,
      ⟨(some 5), none, (.mv (.t 18))⟩,
      ⟨(some 6), none, (.mv (.t 20))⟩] ⟨false, [], []⟩)
    (.seq (.ops [
      ⟨(some 21), none, (.mv (.t 6))⟩,
      ⟨(some 22), none, (.bin .geq (.t 21) (.c (.int .i64 0)))⟩] ⟨false, [], []⟩)
    (.cond (.t 22) (.ops [
       ⟨(some 23), none, (.mv (.t 6))⟩,
       ⟨(some 24), none, (.mv (.t 5))⟩,
       ⟨(some 25), none, (.idxa 4096 1 (.t 3) (.t 23))⟩,
       ⟨none, none, (.store 1 (.t 25) (.t 24))⟩] ⟨false, [], []⟩)
     .skip))) ⟨false, [], []⟩)
  (.ops [
   ⟨(some 26), none, (.bin .add (.t 16) (.c (.int .i64 1)))⟩,
   ⟨(some 16), none, (.mv (.t 26))⟩] ⟨false, [], []⟩))))
def w75_L0 : WCode := .loop ⟨true, [16, 15, 14, 3, 2], []⟩ w75_B0
def w75_c1 : WCode := (.seq (.seq (.ops [
     ⟨(some 13), none, (.fld 1 (.t 1))⟩,
     ⟨(some 14), none, (.load 1 false (.t 13))⟩,
     ⟨(some 15), none, (.len 1 (.t 14))⟩,
     ⟨(some 16), none, (.mv (.c (.int .i64 0)))⟩] ⟨false, [], []⟩)
   (.block 2 w75_L0 ⟨true, [3, 2], []⟩))
  w75_c0)

def w75_B1 : WCode := (.seq (.ops [
    ⟨(some 8), none, (.bin .lss (.t 7) (.c (.int .i64 4096)))⟩] ⟨false, [], []⟩)
  (.seq (.cond (.t 8) .skip
    (.exit 0))
  (.seq (.block 1 (.seq (.ops [
      ⟨(some 9), none, (.mv (.t 7))⟩,
      ⟨(some 4), none, (.mv (.t 9))⟩] ⟨false, [], []⟩)
    (.ops [
     ⟨(some 10), none, (.mv (.t 4))⟩,
     ⟨(some 11), none, (.idxa 4096 1 (.t 3) (.t 10))⟩,
     ⟨none, none, (.store 1 (.t 11) (.c (.int .i64 (-1))))⟩] ⟨true, [7, 3, 2, 1], []⟩)) ⟨false, [], []⟩)
  (.ops [
   ⟨(some 12), none, (.bin .add (.t 7) (.c (.int .i64 1)))⟩,
   ⟨(some 7), none, (.mv (.t 12))⟩] ⟨false, [], []⟩))))
def w75_L1 : WCode := .loop ⟨true, [7, 3, 2, 1], []⟩ w75_B1
def w75 : WFn := ⟨1, [.cell 2 4096 true],
 (.seq (.ops [
    ⟨(some 1), none, (.box (.t 0))⟩,
    ⟨(some 2), none, (.alloc (rep 4096 (.int .i64 0)))⟩] ⟨false, [], []⟩)
  (.seq (.ops [
    ⟨(some 3), none, (.alloc (rep 4096 (.int .i64 0)))⟩] ⟨false, [], []⟩)
  (.seq (.seq (.ops [
     ⟨(some 7), none, (.mv (.c (.int .i64 0)))⟩] ⟨false, [], []⟩)
   (.block 0 w75_L1 ⟨true, [3, 2, 1], []⟩))
  w75_c1)))⟩

@[simp] theorem w75_E0 {β : Type} {C : WProg} {b : Nat} {f : Ex × WSt → Option β} {k : List Pw.Frame} {s : WSt} : CK C b f k w75_L0 s = LK C b f (.sq w75_L0 :: k) w75_B0 (canon b ⟨true, [16, 15, 14, 3, 2], []⟩ s) := ck_lp rfl
noncomputable abbrev w75_K0 (C : WProg) (s : WSt) : Option AV := CK C 0 (pureFin [.cell 2 4096 true]) [.sq w75_L0, .bk 2 ⟨true, [3, 2], []⟩, .sq w75_c0] w75_B0 s

@[simp] theorem w75_E1 {β : Type} {C : WProg} {b : Nat} {f : Ex × WSt → Option β} {k : List Pw.Frame} {s : WSt} : CK C b f k w75_L1 s = LK C b f (.sq w75_L1 :: k) w75_B1 (canon b ⟨true, [7, 3, 2, 1], []⟩ s) := ck_lp rfl
noncomputable abbrev w75_K1 (C : WProg) (s : WSt) : Option AV := CK C 0 (pureFin [.cell 2 4096 true]) [.sq w75_L1, .bk 0 ⟨true, [3, 2, 1], []⟩, .sq w75_c1] w75_B1 s

/- paternoster/remaps.Invert$1 -/
def w76 : WFn := ⟨2, [.tmp 3],
 (.seq (.ops [
    ⟨(some 3), none, (.mv (.c (.int .i64 0)))⟩] ⟨false, [], []⟩)
  (.seq (.ops [
    ⟨(some 4), none, (.mv (.t 0))⟩,
    ⟨(some 5), none, (.idxa 4096 1 (.t 1) (.t 4))⟩,
    ⟨(some 6), none, (.load 1 false (.t 5))⟩,
    ⟨(some 3), none, (.mv (.t 6))⟩] ⟨false, [], []⟩)
  .ret))⟩

/- paternoster/remaps.wrong -/
def w77 : WFn := ⟨1, [.tmp 2],
 (.seq (.ops [
    ⟨(some 2), none, (.mv (.c (.bool false)))⟩] ⟨false, [], []⟩)
  (.seq (.ops [
    ⟨(some 3), none, (.mv (.t 0))⟩,
    ⟨(some 4), none, (.bin .lss (.t 3) (.c (.int .i64 0)))⟩,
    ⟨(some 5), none, (.mv (.t 4))⟩,
    ⟨(some 6), (some (5, false)), (.mv (.t 0))⟩,
    ⟨(some 7), (some (5, false)), (.bin .gtr (.t 6) (.c (.int .i64 4096)))⟩,
    ⟨(some 8), none, (.pick (.t 5) (.c (.bool true)) (.t 7))⟩,
    ⟨(some 2), none, (.mv (.t 8))⟩] ⟨false, [], []⟩)
  .ret))⟩

/- paternoster/remaps.outside -/
def w78 : WFn := ⟨3, [.tmp 6],
 (.seq (.ops [
    ⟨(some 6), none, (.mv (.c (.bool false)))⟩] ⟨false, [], []⟩)
  (.seq (.ops [
    ⟨(some 7), none, (.mv (.t 1))⟩,
    ⟨(some 8), none, (.bin .lss (.t 7) (.c (.int .i64 0)))⟩,
    ⟨(some 9), none, (.mv (.t 8))⟩,
    ⟨(some 10), (some (9, false)), (.mv (.t 2))⟩,
    ⟨(some 11), (some (9, false)), (.bin .lss (.t 10) (.c (.int .i64 0)))⟩,
    ⟨(some 12), none, (.pick (.t 9) (.c (.bool true)) (.t 11))⟩,
    ⟨(some 13), none, (.mv (.t 12))⟩,
    ⟨(some 14), (some (13, false)), (.mv (.t 1))⟩,
    ⟨(some 15), (some (13, false)), (.mv (.t 0))⟩,
    ⟨(some 16), (some (13, false)), (.bin .gtr (.t 14) (.t 15))⟩,
    ⟨(some 17), none, (.pick (.t 13) (.c (.bool true)) (.t 16))⟩,
    ⟨(some 18), none, (.mv (.t 17))⟩,
    ⟨(some 19), (some (18, false)), (.mv (.t 2))⟩,
    ⟨(some 20), (some (18, false)), (.mv (.t 0))⟩,
    ⟨(some 21), (some (18, false)), (.mv (.t 1))⟩,
    ⟨(some 22), (some (18, false)), (.bin .sub (.t 20) (.t 21))⟩,
    ⟨(some 23), (some (18, false)), (.bin .gtr (.t 19) (.t 22))⟩,
    ⟨(some 24), none, (.pick (.t 18) (.c (.bool true)) (.t 23))⟩,
    ⟨(some 6), none, (.mv (.t 24))⟩] ⟨false, [], []⟩)
  .ret))⟩

/- paternoster/remaps.Moved$1 -/
def w79 : WFn := ⟨3, [.tmp 4],
 (.seq (.ops [
    ⟨(some 4), none, (.mv (.c (.int .i64 0)))⟩] ⟨false, [], []⟩)
  (.seq (.seq (.ops [
     ⟨(some 5), none, (.mv (.t 0))⟩,
     ⟨(some 6), none, (.load 1 false (.t 1))⟩,
     ⟨(some 7), none, (.bin .lss (.t 5) (.t 6))⟩] ⟨false, [], []⟩)
   (.cond (.t 7) (.seq (.ops [
       ⟨(some 8), none, (.mv (.t 0))⟩,
       ⟨(some 4), none, (.mv (.t 8))⟩] ⟨false, [], []⟩)
     .ret)
    .skip))
  (.seq (.ops [
    ⟨(some 9), none, (.mv (.t 0))⟩,
    ⟨(some 10), none, (.load 1 false (.t 2))⟩,
    ⟨(some 11), none, (.bin .add (.t 9) (.t 10))⟩,
    ⟨(some 4), none, (.mv (.t 11))⟩] ⟨false, [], []⟩)
  .ret)))⟩

/- paternoster/remaps.Moved$2 -/
def w80 : WFn := ⟨5, [.tmp 6],
 (.seq (.ops [
    ⟨(some 6), none, (.mv (.c (.int .i64 0)))⟩] ⟨false, [], []⟩)
  (.seq (.block 0 (.seq (.ops [
      ⟨(some 8), none, (.mv (.t 0))⟩,
      ⟨(some 9), none, (.load 1 false (.t 1))⟩,
      ⟨(some 10), none, (.bin .lss (.t 8) (.t 9))⟩,
      ⟨(some 7), none, (.mv (.t 10))⟩] ⟨true, [7, 4, 3, 2, 1, 0], []⟩)
    (.cond (.t 7) (.seq (.ops [
        ⟨(some 11), none, (.load 1 false (.t 2))⟩,
        ⟨(some 12), none, (.mv (.t 0))⟩,
        ⟨(some 13), none, (.callv (.t 11) [(.t 12)])⟩,
        ⟨(some 6), none, (.mv (.t 13))⟩] ⟨false, [], []⟩)
      .ret)
     (.seq (.ops [
        ⟨(some 15), none, (.mv (.t 0))⟩,
        ⟨(some 16), none, (.load 1 false (.t 1))⟩,
        ⟨(some 17), none, (.load 1 false (.t 3))⟩,
        ⟨(some 18), none, (.bin .add (.t 16) (.t 17))⟩,
        ⟨(some 19), none, (.bin .lss (.t 15) (.t 18))⟩,
        ⟨(some 14), none, (.mv (.t 19))⟩] ⟨false, [], []⟩)
      (.cond (.t 14) (.seq (.ops [
          ⟨(some 20), none, (.load 1 false (.t 4))⟩,
          ⟨(some 21), none, (.mv (.t 0))⟩,
          ⟨(some 22), none, (.bin .add (.t 20) (.t 21))⟩,
          ⟨(some 23), none, (.load 1 false (.t 1))⟩,
          ⟨(some 24), none, (.bin .sub (.t 22) (.t 23))⟩,
          ⟨(some 6), none, (.mv (.t 24))⟩] ⟨false, [], []⟩)
        .ret)
       .skip)))) ⟨false, [], []⟩)
  (.seq (.ops [
    ⟨(some 25), none, (.load 1 false (.t 2))⟩,
    ⟨(some 26), none, (.mv (.t 0))⟩,
    ⟨(some 27), none, (.load 1 false (.t 3))⟩,
    ⟨(some 28), none, (.bin .sub (.t 26) (.t 27))⟩,
    ⟨(some 29), none, (.callv (.t 25) [(.t 28)])⟩,
    ⟨(some 6), none, (.mv (.t 29))⟩] ⟨false, [], []⟩)
  .ret)))⟩

/- paternoster/remaps.Same$1 -/
def w81 : WFn := ⟨1, [.tmp 2],
 (.seq (.ops [
    ⟨(some 2), none, (.mv (.c (.int .i64 0)))⟩] ⟨false, [], []⟩)
  (.seq (.ops [
    ⟨(some 3), none, (.mv (.t 0))⟩,
    ⟨(some 2), none, (.mv (.t 3))⟩] ⟨false, [], []⟩)
  .ret))⟩

/- paternoster/remaps.Inserted$1 -/
def w82 : WFn := ⟨3, [.tmp 4],
 (.seq (.ops [
    ⟨(some 4), none, (.mv (.c (.int .i64 0)))⟩] ⟨false, [], []⟩)
  (.seq (.block 0 (.seq (.ops [
      ⟨(some 6), none, (.mv (.t 0))⟩,
      ⟨(some 7), none, (.load 1 false (.t 1))⟩,
      ⟨(some 8), none, (.bin .lss (.t 6) (.t 7))⟩,
      ⟨(some 5), none, (.mv (.t 8))⟩] ⟨false, [], []⟩)
    (.cond (.t 5) (.seq (.ops [
        ⟨(some 9), none, (.mv (.t 0))⟩,
        ⟨(some 4), none, (.mv (.t 9))⟩] ⟨false, [], []⟩)
      .ret)
     (.seq (.ops [
        ⟨(some 11), none, (.mv (.t 0))⟩,
        ⟨(some 12), none, (.load 1 false (.t 1))⟩,
        ⟨(some 13), none, (.load 1 false (.t 2))⟩,
        ⟨(some 14), none, (.bin .add (.t 12) (.t 13))⟩,
        ⟨(some 15), none, (.bin .lss (.t 11) (.t 14))⟩,
        ⟨(some 10), none, (.mv (.t 15))⟩] ⟨false, [], []⟩)
      (.cond (.t 10) (.seq (.ops [
          ⟨(some 4), none, (.mv (.c (.int .i64 (-1))))⟩] ⟨false, [], []⟩)
        .ret)
       .skip)))) ⟨false, [], []⟩)
  (.seq (.ops [
    ⟨(some 16), none, (.mv (.t 0))⟩,
    ⟨(some 17), none, (.load 1 false (.t 2))⟩,
    ⟨(some 18), none, (.bin .sub (.t 16) (.t 17))⟩,
    ⟨(some 4), none, (.mv (.t 18))⟩] ⟨false, [], []⟩)
  .ret)))⟩

/- paternoster/remaps.Removed$1 -/
def w83 : WFn := ⟨3, [.tmp 4],
 (.seq (.ops [
    ⟨(some 4), none, (.mv (.c (.int .i64 0)))⟩] ⟨false, [], []⟩)
  (.seq (.seq (.ops [
     ⟨(some 5), none, (.mv (.t 0))⟩,
     ⟨(some 6), none, (.load 1 false (.t 1))⟩,
     ⟨(some 7), none, (.bin .lss (.t 5) (.t 6))⟩] ⟨false, [], []⟩)
   (.cond (.t 7) (.seq (.ops [
       ⟨(some 8), none, (.mv (.t 0))⟩,
       ⟨(some 4), none, (.mv (.t 8))⟩] ⟨false, [], []⟩)
     .ret)
    .skip))
  (.seq (.ops [
    ⟨(some 9), none, (.mv (.t 0))⟩,
    ⟨(some 10), none, (.load 1 false (.t 2))⟩,
    ⟨(some 11), none, (.bin .add (.t 9) (.t 10))⟩,
    ⟨(some 4), none, (.mv (.t 11))⟩] ⟨false, [], []⟩)
  .ret)))⟩

def tree : WTree := (.node (.node (.node (.node (.node (.node .leaf 0 w0 .leaf) 43 w43 .leaf) 44 w44 (.node (.node .leaf 45 w45 .leaf) 46 w46 .leaf)) 47 w47 (.node (.node (.node .leaf 48 w48 .leaf) 49 w49 .leaf) 50 w50 (.node .leaf 51 w51 .leaf))) 52 w52 (.node (.node (.node (.node .leaf 53 w53 .leaf) 54 w54 .leaf) 55 w55 (.node (.node .leaf 56 w56 .leaf) 57 w57 .leaf)) 58 w58 (.node (.node (.node .leaf 59 w59 .leaf) 60 w60 .leaf) 61 w61 (.node .leaf 62 w62 .leaf)))) 63 w63 (.node (.node (.node (.node (.node .leaf 64 w64 .leaf) 65 w65 .leaf) 66 w66 (.node (.node .leaf 67 w67 .leaf) 68 w68 .leaf)) 69 w69 (.node (.node (.node .leaf 70 w70 .leaf) 71 w71 .leaf) 72 w72 (.node .leaf 73 w73 .leaf))) 74 w74 (.node (.node (.node (.node .leaf 75 w75 .leaf) 76 w76 .leaf) 77 w77 (.node .leaf 78 w78 .leaf)) 79 w79 (.node (.node (.node .leaf 80 w80 .leaf) 81 w81 .leaf) 82 w82 (.node .leaf 83 w83 .leaf)))))

/- own number, number in the dump -/
def ids : List (Nat × Nat) := [(0, 2), (43, 3), (44, 4), (45, 5), (46, 6), (47, 7), (48, 8), (49, 9), (50, 10), (51, 11), (52, 12), (53, 13), (54, 14), (55, 15), (56, 16), (57, 17), (58, 18), (59, 19), (60, 20), (61, 21), (62, 22), (63, 23), (64, 24), (65, 25), (66, 26), (67, 27), (68, 28), (69, 29), (70, 30), (71, 31), (72, 32), (73, 33), (74, 34), (75, 35), (76, 36), (77, 37), (78, 38), (79, 39), (80, 40), (81, 41), (82, 42), (83, 43)]

end P09
end

section
set_option linter.unusedSimpArgs false
set_option linter.unusedVariables false
/- A program and its small form: how the link is laid, function by function. -/
namespace Go.Pav
open Go

/-- Own numbers and dump numbers. -/
def phiOf (ids : List (Nat × Nat)) (f : FuncId) : Option Nat :=
  match ids with
  | [] => none
  | (g, k) :: r => if k = f then some g else phiOf r f

def psiOf (ids : List (Nat × Nat)) (g : Nat) : FuncId :=
  match get ids g with
  | some k => k
  | none => 0

theorem phiOf_mem : ∀ {ids : List (Nat × Nat)} {f : FuncId} {g : Nat}, phiOf ids f = some g → (g, f) ∈ ids := by
  intro ids
  induction ids with
  | nil => intro f g h; simp [phiOf] at h
  | cons x r ih =>
    intro f g h
    obtain ⟨a, k⟩ := x
    simp only [phiOf] at h
    split at h
    · rename_i hk
      cases h; subst hk; exact List.mem_cons_self
    · exact List.mem_cons_of_mem _ (ih h)

theorem psi_phi {ids : List (Nat × Nat)} (hc : (ids.all fun x => decide (psiOf ids x.1 = x.2)) = true) : ∀ f g, phiOf ids f = some g → psiOf ids g = f := by
  intro f g h
  have := List.all_eq_true.1 hc _ (phiOf_mem h)
  simpa using this

/-- Of every function in a tree. -/
def TreeAll (p : Nat → CFn → Prop) : Tree → Prop
  | .leaf => True
  | .node l k f r => TreeAll p l ∧ p k f ∧ TreeAll p r

theorem TreeAll.get {p : Nat → CFn → Prop} : ∀ {t : Tree}, TreeAll p t → ∀ {g : Nat} {cf : CFn}, t.get g = some cf → p g cf := by
  intro t
  induction t with
  | leaf => intro _ g cf h; simp [Tree.get] at h
  | node l k f r ihl ihr =>
    intro ⟨h1, h2, h3⟩ g cf h
    simp only [Tree.get] at h
    split at h
    · rename_i hk; cases h; subst hk; exact h2
    · split at h
      · exact ihl h1 h
      · exact ihr h3 h

/-- A function is what the small one was made of. -/
def FnOk (P : Program) (ids : List (Nat × Nat)) (g : Nat) (cf : CFn) : Prop := ∃ fn, P.funcs[psiOf ids g]? = some fn ∧ (cFn P (phiOf ids) fn).map stripF = some (stripF cf)

theorem linked {P : Program} {ids : List (Nat × Nat)} {C : Prog} (hc : (ids.all fun x => decide (psiOf ids x.1 = x.2)) = true) (ht : TreeAll (FnOk P ids) C.fns) (hm : P.follows .mixedOrders = true) :
    Linked P (phiOf ids) (psiOf ids) C :=
  ⟨psi_phi hc, fun _ _ h => ht.get h, hm⟩

end Go.Pav
end

section
set_option linter.unusedSimpArgs false
set_option linter.unusedVariables false
set_option maxRecDepth 100000
namespace P09
open Go Go.Pav Go.Pw Go.Proofs

theorem l0 : FnOk Try.prog ids 0 (erFn w0) := ⟨Try.f2, Try.func2, by kernel_rfl⟩
theorem l43 : FnOk Try.prog ids 43 (erFn w43) := ⟨Try.f3, Try.func3, by kernel_rfl⟩
theorem l44 : FnOk Try.prog ids 44 (erFn w44) := ⟨Try.f4, Try.func4, by kernel_rfl⟩
theorem l45 : FnOk Try.prog ids 45 (erFn w45) := ⟨Try.f5, Try.func5, by kernel_rfl⟩
theorem l46 : FnOk Try.prog ids 46 (erFn w46) := ⟨Try.f6, Try.func6, by kernel_rfl⟩
theorem l47 : FnOk Try.prog ids 47 (erFn w47) := ⟨Try.f7, Try.func7, by kernel_rfl⟩
theorem l48 : FnOk Try.prog ids 48 (erFn w48) := ⟨Try.f8, Try.func8, by kernel_rfl⟩
theorem l49 : FnOk Try.prog ids 49 (erFn w49) := ⟨Try.f9, Try.func9, by kernel_rfl⟩
theorem l50 : FnOk Try.prog ids 50 (erFn w50) := ⟨Try.f10, Try.func10, by kernel_rfl⟩
theorem l51 : FnOk Try.prog ids 51 (erFn w51) := ⟨Try.f11, Try.func11, by kernel_rfl⟩
theorem l52 : FnOk Try.prog ids 52 (erFn w52) := ⟨Try.f12, Try.func12, by kernel_rfl⟩
theorem l53 : FnOk Try.prog ids 53 (erFn w53) := ⟨Try.f13, Try.func13, by kernel_rfl⟩
theorem l54 : FnOk Try.prog ids 54 (erFn w54) := ⟨Try.f14, Try.func14, by kernel_rfl⟩
theorem l55 : FnOk Try.prog ids 55 (erFn w55) := ⟨Try.f15, Try.func15, by kernel_rfl⟩
theorem l56 : FnOk Try.prog ids 56 (erFn w56) := ⟨Try.f16, Try.func16, by kernel_rfl⟩
theorem l57 : FnOk Try.prog ids 57 (erFn w57) := ⟨Try.f17, Try.func17, by kernel_rfl⟩
theorem l58 : FnOk Try.prog ids 58 (erFn w58) := ⟨Try.f18, Try.func18, by kernel_rfl⟩
theorem l59 : FnOk Try.prog ids 59 (erFn w59) := ⟨Try.f19, Try.func19, by kernel_rfl⟩
theorem l60 : FnOk Try.prog ids 60 (erFn w60) := ⟨Try.f20, Try.func20, by kernel_rfl⟩
theorem l61 : FnOk Try.prog ids 61 (erFn w61) := ⟨Try.f21, Try.func21, by kernel_rfl⟩
theorem l62 : FnOk Try.prog ids 62 (erFn w62) := ⟨Try.f22, Try.func22, by kernel_rfl⟩
theorem l63 : FnOk Try.prog ids 63 (erFn w63) := ⟨Try.f23, Try.func23, by kernel_rfl⟩
theorem l64 : FnOk Try.prog ids 64 (erFn w64) := ⟨Try.f24, Try.func24, by kernel_rfl⟩
theorem l65 : FnOk Try.prog ids 65 (erFn w65) := ⟨Try.f25, Try.func25, by kernel_rfl⟩
theorem l66 : FnOk Try.prog ids 66 (erFn w66) := ⟨Try.f26, Try.func26, by kernel_rfl⟩
theorem l67 : FnOk Try.prog ids 67 (erFn w67) := ⟨Try.f27, Try.func27, by kernel_rfl⟩
theorem l68 : FnOk Try.prog ids 68 (erFn w68) := ⟨Try.f28, Try.func28, by kernel_rfl⟩
theorem l69 : FnOk Try.prog ids 69 (erFn w69) := ⟨Try.f29, Try.func29, by kernel_rfl⟩
theorem l70 : FnOk Try.prog ids 70 (erFn w70) := ⟨Try.f30, Try.func30, by kernel_rfl⟩
theorem l71 : FnOk Try.prog ids 71 (erFn w71) := ⟨Try.f31, Try.func31, by kernel_rfl⟩
theorem l72 : FnOk Try.prog ids 72 (erFn w72) := ⟨Try.f32, Try.func32, by kernel_rfl⟩
theorem l73 : FnOk Try.prog ids 73 (erFn w73) := ⟨Try.f33, Try.func33, by kernel_rfl⟩
theorem l74 : FnOk Try.prog ids 74 (erFn w74) := ⟨Try.f34, Try.func34, by kernel_rfl⟩
theorem l75 : FnOk Try.prog ids 75 (erFn w75) := ⟨Try.f35, Try.func35, by kernel_rfl⟩
theorem l76 : FnOk Try.prog ids 76 (erFn w76) := ⟨Try.f36, Try.func36, by kernel_rfl⟩
theorem l77 : FnOk Try.prog ids 77 (erFn w77) := ⟨Try.f37, Try.func37, by kernel_rfl⟩
theorem l78 : FnOk Try.prog ids 78 (erFn w78) := ⟨Try.f38, Try.func38, by kernel_rfl⟩
theorem l79 : FnOk Try.prog ids 79 (erFn w79) := ⟨Try.f39, Try.func39, by kernel_rfl⟩
theorem l80 : FnOk Try.prog ids 80 (erFn w80) := ⟨Try.f40, Try.func40, by kernel_rfl⟩
theorem l81 : FnOk Try.prog ids 81 (erFn w81) := ⟨Try.f41, Try.func41, by kernel_rfl⟩
theorem l82 : FnOk Try.prog ids 82 (erFn w82) := ⟨Try.f42, Try.func42, by kernel_rfl⟩
theorem l83 : FnOk Try.prog ids 83 (erFn w83) := ⟨Try.f43, Try.func43, by kernel_rfl⟩

def prog : WProg := ⟨tree, fun f => decide (f = 57), fun f => decide (f = 73)⟩

theorem all : TreeAll (FnOk Try.prog ids) (erProg prog).fns := ⟨⟨⟨⟨⟨⟨trivial, l0, trivial⟩, l43, trivial⟩, l44, ⟨⟨trivial, l45, trivial⟩, l46, trivial⟩⟩, l47, ⟨⟨⟨trivial, l48, trivial⟩, l49, trivial⟩, l50, ⟨trivial, l51, trivial⟩⟩⟩, l52, ⟨⟨⟨⟨trivial, l53, trivial⟩, l54, trivial⟩, l55, ⟨⟨trivial, l56, trivial⟩, l57, trivial⟩⟩, l58, ⟨⟨⟨trivial, l59, trivial⟩, l60, trivial⟩, l61, ⟨trivial, l62, trivial⟩⟩⟩⟩, l63, ⟨⟨⟨⟨⟨trivial, l64, trivial⟩, l65, trivial⟩, l66, ⟨⟨trivial, l67, trivial⟩, l68, trivial⟩⟩, l69, ⟨⟨⟨trivial, l70, trivial⟩, l71, trivial⟩, l72, ⟨trivial, l73, trivial⟩⟩⟩, l74, ⟨⟨⟨⟨trivial, l75, trivial⟩, l76, trivial⟩, l77, ⟨trivial, l78, trivial⟩⟩, l79, ⟨⟨⟨trivial, l80, trivial⟩, l81, trivial⟩, l82, ⟨trivial, l83, trivial⟩⟩⟩⟩⟩

theorem okT : okTree prog.fns = true := by kernel_rfl

theorem link : Linked Try.prog (phiOf ids) (psiOf ids) (erProg prog) := linked (by kernel_rfl) all (by kernel_rfl)

end P09
end

section
set_option linter.unusedSimpArgs false
set_option linter.unusedVariables false
/- Small things for contracts: how data is laid, lists. -/
namespace Go.Pw
open Go Go.Pav

/-- A cell of a number, a string, a bool. -/
@[simp] def eI (x : Int) : List AV := [.int .i64 x]
@[simp] def eU8 (x : Int) : List AV := [.int .u8 x]
@[simp] def eU64 (x : Int) : List AV := [.int .u64 x]
@[simp] def eS (x : List UInt8) : List AV := [.str x]
@[simp] def eB (x : Bool) : List AV := [.bool x]

/-- A list of numbers. -/
abbrev L1 (xs : List Int) (e : Bool) : AV := .ro 1 (xs.map eI) e

attribute [simp] Int.natCast_inj
attribute [-simp] List.getElem_cons_drop

section
variable (a n : Nat)
@[simp] theorem lit_lt_cast : ((no_index (OfNat.ofNat a) : Int) < (n : Int)) = ((no_index (OfNat.ofNat a) : Nat) < n) := propext (Int.ofNat_lt (n := (OfNat.ofNat a : Nat)) (m := n))
@[simp] theorem cast_lt_lit : ((n : Int) < (no_index (OfNat.ofNat a) : Int)) = (n < (no_index (OfNat.ofNat a) : Nat)) := propext (Int.ofNat_lt (m := (OfNat.ofNat a : Nat)) (n := n))
@[simp] theorem lit_le_cast : ((no_index (OfNat.ofNat a) : Int) ≤ (n : Int)) = ((no_index (OfNat.ofNat a) : Nat) ≤ n) := propext (Int.ofNat_le (m := (OfNat.ofNat a : Nat)) (n := n))
@[simp] theorem cast_le_lit : ((n : Int) ≤ (no_index (OfNat.ofNat a) : Int)) = (n ≤ (no_index (OfNat.ofNat a) : Nat)) := propext (Int.ofNat_le (n := (OfNat.ofNat a : Nat)) (m := n))
end

/-- A list that is being filled. -/
theorem fill_get {α β : Type} {f : α → β} {acc : List α} {n i : Nat} {z : β} (h : acc.length = i) : (List.map f acc ++ List.replicate (n + 1) z)[i]? = some z := by
  rw [List.getElem?_append_right (by simp; omega)]
  simp [h]
theorem fill_set {α β : Type} {f : α → β} {acc : List α} {n i : Nat} {z v : β} (h : acc.length = i) : (List.map f acc ++ List.replicate (n + 1) z).set i v = List.map f acc ++ v :: List.replicate n z := by
  rw [List.set_append, if_neg (by simp; omega)]
  simp [h, List.replicate_succ]

@[simp] theorem app_le (a b : Nat) : (a + (b + 1) ≤ a) = False := eq_false (by omega)

theorem drop_cons {α : Type} {l : List α} {i : Nat} (h : i < l.length) : l.drop i = l[i] :: l.drop (i + 1) := List.drop_eq_getElem_cons h

theorem isC_map {α : Type} {f : α → List AV} (hf : ∀ x, (f x).all isC = true) (xs : List α) : ((xs.map f).all fun e => e.all isC) = true := by
  simp [List.all_map, hf]

/-- A cell of an array is set. -/
theorem arr_set {α : Type} {f : α → AV} {l : List α} {k : Nat} {v : AV} (h : k < l.length) : List.take k (List.map f l) ++ v :: List.drop (k + 1) (List.map f l) = (List.map f l).set k v := by
  rw [List.set_eq_take_append_cons_drop, if_pos (by simpa using h)]

theorem mapO_self {α : Type} {g : α → Option α} : ∀ {l : List α}, (∀ x ∈ l, g x = some x) → mapO g l = some l
  | [], _ => rfl
  | a :: l, h => by simp only [mapO, h a List.mem_cons_self, ob, mapO_self fun x hx => h x (List.mem_cons_of_mem _ hx), om]
@[simp] theorem frz_ints (h : WHeap) (n : Nat) (k : IntKind) (l : List Int) : mapO (frzW h (n + 1)) (List.map (AV.int k) l) = some (List.map (AV.int k) l) :=
  mapO_self fun x hx => by obtain ⟨y, _, rfl⟩ := List.mem_map.1 hx; rfl

@[simp] theorem all_isC_int (k : IntKind) (l : List Int) : l.all (isC ∘ AV.int k) = true := by simp [isC]
@[simp] theorem all_isC_bool (l : List Bool) : l.all (isC ∘ AV.bool) = true := by simp [isC]

attribute [simp] isLeaf
@[simp] theorem comp_eI : ((fun x : AV => [x]) ∘ AV.int .i64) = eI := rfl

@[simp] theorem add_le_self' (a b : Nat) : (a + b ≤ a) = (b = 0) := propext (by omega)
theorem isE {α : Type} {l : List α} (h : ¬ l = []) : l.isEmpty = false := by cases l <;> simp_all

end Go.Pw
end

section
set_option linter.unusedSimpArgs false
set_option linter.unusedVariables false
/- Contracts of the functions of remaps. No conditions beyond those that each theorem names. -/
namespace Go.C09
open Go Go.Pav Go.Pw P09
set_option maxRecDepth 10000
set_option maxHeartbeats 4000000
set_option linter.unusedSimpArgs false
set_option linter.unusedVariables false
attribute [-simp] List.getElem_cons_drop

/-- A map. -/
abbrev eM (old : Int) (f : List Int) (e : Bool) : AV := .agg [.int .i64 old, L1 f e]

structure Has (C : WProg) : Prop where
  f52 : C.fns.get 52 = some w52
  f53 : C.fns.get 53 = some w53
  f54 : C.fns.get 54 = some w54
  f55 : C.fns.get 55 = some w55
  f56 : C.fns.get 56 = some w56
  f57 : C.fns.get 57 = some w57
  f62 : C.fns.get 62 = some w62
  f65 : C.fns.get 65 = some w65
  f66 : C.fns.get 66 = some w66
  f67 : C.fns.get 67 = some w67
  f73 : C.fns.get 73 = some w73
  f74 : C.fns.get 74 = some w74
  f75 : C.fns.get 75 = some w75
  f76 : C.fns.get 76 = some w76
  f77 : C.fns.get 77 = some w77
  f78 : C.fns.get 78 = some w78
  f79 : C.fns.get 79 = some w79
  f80 : C.fns.get 80 = some w80
  f81 : C.fns.get 81 = some w81
  f82 : C.fns.get 82 = some w82
  f83 : C.fns.get 83 = some w83
  inl : ∀ f, f ≠ 57 → C.inl f = false
  pp : C.pp = fun f => decide (f = 73)

variable {C : WProg} (H : Has C)
include H

omit H in
/-- The first error of what a map tells, behind others. -/
def chkF (old : Int) (pre : List Int) : List Int → Int
  | [] => 0
  | k :: r => if k < -1 ∨ old ≤ k then 4 else if 0 ≤ k ∧ k ∈ pre then 8 else chkF old (pre ++ [k]) r
omit H in
def chk (old : Int) (f : List Int) : Int := if old < 0 then 1 else if 4096 < old ∨ 4096 < (f.length : Int) then 3 else chkF old [] f

theorem check_loop (old : Int) (f : List Int) (e : Bool) (h0 : 0 ≤ old) (h1 : old ≤ 4096) (h2 : f.length ≤ 4096) : ∀ n i, n + i = f.length → ∀ seen : List Bool, seen.length = 4096 →
    (∀ v : Nat, v < 4096 → seen[v]? = some (decide ((v : Int) ∈ f.take i))) →
    w56_K0 C ⟨[(23, .int .i64 i), (22, .int .i64 f.length), (21, L1 f e), (3, .ptr 0 0 0), (1, .ptr 1 0 0)], [(0, .cells 4096 [seen.map AV.bool] true true), (1, .cells 2 [[.int .i64 old, L1 f e]] true true)], 2⟩ =
      some (.int .i64 (chkF old (f.take i) (f.drop i))) := by
  have _h := H
  intro n
  induction n with
  | zero =>
    intro i hi seen hl hs
    simp only [w56_K0]; rw [ck_unf w56_B0.eq_1]
    have h3 : ¬ i < f.length := by omega
    have h4 : f.drop i = [] := List.drop_eq_nil_of_le (by omega)
    simp [ck_unf w56_c0.eq_1, h3, h4, chkF]
  | succ n ih =>
    intro i hi seen hl hs
    have h3 : i < f.length := by omega
    have ih' := ih (i + 1) (by omega)
    simp only [w56_K0] at ih' ⊢; rw [ck_unf w56_B0.eq_1]
    rw [drop_cons h3]
    by_cases c1 : f[i] < -1
    · have c2 : ¬ -1 ≤ f[i] := by omega
      simp (disch := omega) [h3, wI64, chkF, c1, c2]
    · have c2 : -1 ≤ f[i] := by omega
      by_cases c3 : old ≤ f[i]
      · simp (disch := omega) [h3, wI64, chkF, c1, c2, c3]
      · by_cases c4 : 0 ≤ f[i]
        · obtain ⟨k, hk⟩ : ∃ k : Nat, f[i] = k := ⟨f[i].toNat, by omega⟩
          have hk2 : k < 4096 := by omega
          have hk3 : k < seen.length := by omega
          have hk4 : k + 1 ≤ seen.length := by omega
          have hsk := hs k hk2
          have hft : f.take (i + 1) = f.take i ++ [(k : Int)] := by rw [List.take_succ_eq_append_getElem h3, hk]
          have := ih' (seen.set k true) (by simpa using hl) (fun v hv => by
            rw [hft, List.getElem?_set]
            by_cases q : k = v
            · subst q; simp [hk3]
            · have q2 : ¬ (v : Int) = (k : Int) := by omega
              rw [if_neg q, hs v hv]; simp [q2])
          rw [hft] at this
          rw [hk] at c1 c2 c3 c4 ⊢
          by_cases c5 : (k : Int) ∈ f.take i
          · rw [List.getElem?_eq_getElem hk3] at hsk
            simp (disch := omega) [h3, wI64, chkF, c1, c2, c3, c4, c5, hk, hk2, hk3] at hsk ⊢
            simp (disch := omega) [hsk]
          · rw [List.getElem?_eq_getElem hk3] at hsk
            simp at this
            simp (disch := omega) [h3, wI64, chkF, c1, c2, c3, c4, c5, hk, hk2, hk3] at hsk ⊢
            simp (disch := omega) [hsk, arr_set, wI64, hk4, this]
        · have hft : f.take (i + 1) = f.take i ++ [f[i]] := List.take_succ_eq_append_getElem h3
          have := ih' seen hl (fun v hv => by
            have q2 : ¬ (v : Int) = f[i] := by omega
            rw [hft, hs v hv]; simp only [List.mem_append, List.mem_singleton, q2, or_false])
          rw [hft] at this
          simp at this
          simp (disch := omega) [h3, wI64, chkF, c1, c2, c3, c4, this]

theorem check_ok (old : Int) (f : List Int) (e : Bool) : FnW C 56 [eM old f e] = some (.int .i64 (chk old f)) := by
  rw [fnW_eq H.f56 rfl]
  unfold chk
  by_cases c1 : old < 0
  · simp [w56, c1]
  · by_cases c2 : 4096 < old
    · simp [w56, c1, c2]
    · by_cases c3 : 4096 < (f.length : Int)
      · simp [w56, c1, c2, c3]
      · have := check_loop H old f e (by omega) (by omega) (by omega) f.length 0 (by simp) (rep 4096 false) (by simp) (fun v hv => by rw [rep_get _ _ hv]; simp)
        simp only [w56_K0] at this
        simp at this
        simp [w56, c1, c2, c3, this]
end Go.C09
end

section
set_option linter.unusedSimpArgs false
set_option linter.unusedVariables false
/- Contracts of the functions of remaps: what makes maps, inverses. No conditions beyond those that each theorem names. -/
namespace Go.C09
open Go Go.Pav Go.Pw P09
set_option maxRecDepth 10000
set_option maxHeartbeats 4000000
set_option linter.unusedSimpArgs false
set_option linter.unusedVariables false
attribute [-simp] List.getElem_cons_drop
variable {C : WProg} (H : Has C)
include H

omit H in
/-- What a closure holds is data. -/
structure Dat (caps : List AV) : Prop where
  frz : ∀ h, mapO (frzW h 16) caps = some caps
  reach : ∀ h, caps.flatMap (reachW h 16) = []
  ptr : hasPtrL caps = false
  refs : refsL caps = []
  ren : ∀ π, renL π caps = some caps

theorem made_loop (old : Int) (now : Nat) (g : Nat) (caps : List AV) (G : Nat → Int) (hd : Dat caps) (hg : g ≠ 73) (hg2 : g ≠ 57) (hx : now ≤ 4096) (hG : ∀ i : Nat, i < now → FnW C g (.int .i64 i :: caps) = some (.int .i64 (G i))) : ∀ n i, n + i = now → ∀ acc : List Int, acc.length = i →
    w73_K0 C ⟨[(20, .int .i64 i), (19, .int .i64 now), (8, .ptr 0 0 0), (6, .ptr 2 0 0), (2, .fn g caps)],
      [(0, .cells 2 [[.int .i64 old, .sl 1 1 0 now now true]] true false), (1, .cells 1 (acc.map eI ++ List.replicate n [AV.int .i64 0]) true true), (2, .cells 2 [[.int .i64 0, .ro 1 [] true]] true true)], 3⟩ =
      some (.tup [eM old (acc ++ (List.range' i n).map G) true, .int .i64 0]) := by
  intro n
  induction n with
  | zero =>
    intro i hi acc ha
    simp only [w73_K0]; rw [ck_unf w73_B0.eq_1]
    have h3 : ¬ i < now := by omega
    have h5 : acc.length = now := by omega
    have h6 : List.take now (List.map eI acc) = List.map eI acc := List.take_of_length_le (by simp [h5])
    simp [ck_unf w73_c0.eq_1, h3, h5, h6]
  | succ n ih =>
    intro i hi acc ha
    have h3 : i < now := by omega
    have := ih (i + 1) (by omega) (acc ++ [G i]) (by simp [ha])
    simp only [w73_K0] at this ⊢; rw [ck_unf w73_B0.eq_1]
    simp at this
    simp (disch := omega) [h3, wI64, hd.frz, hd.reach, hd.ptr, hd.refs, hd.ren, hG, H.inl, H.pp, hg, List.range'_succ, fill_get, fill_set]
    exact this

theorem made_ok (old now : Int) (g : Nat) (caps : List AV) (G : Nat → Int) (hd : Dat caps) (hg : g ≠ 73) (hg2 : g ≠ 57) (hn : 0 ≤ now) (hx : now ≤ 4096) (hG : ∀ i : Nat, (i : Int) < now → FnW C g (.int .i64 i :: caps) = some (.int .i64 (G i))) :
    FnW C 73 [.int .i64 old, .int .i64 now, .fn g caps] = some (.tup [eM old ((List.range now.toNat).map G) true, .int .i64 0]) := by
  obtain ⟨now, rfl⟩ : ∃ k : Nat, now = k := ⟨now.toNat, by omega⟩
  rw [fnW_eq H.f73 rfl]
  cases now with
  | zero => simp [w73, ck_unf w73_B0.eq_1, ck_unf w73_c0.eq_1, hd.refs, hd.ren]
  | succ now =>
    have := made_loop H old (now + 1) g caps G hd hg hg2 (by omega) (fun i hi => hG i (by omega)) (now + 1) 0 rfl [] rfl
    simp only [w73_K0] at this
    simp at this
    have h1 : (0 : Int) < (now : Int) + 1 := by omega
    have h2 : List.range' 0 (now + 1) = List.range (now + 1) := List.range_eq_range'.symm
    rw [h2] at this
    simp (disch := omega) [w73, h1, fits, hd.refs, hd.ren, this]

omit H in
/-- Where each index is now; 'i': how many come ahead. -/
def invF (arr : List Int) (i : Nat) : List Int → List Int
  | [] => arr
  | k :: r => invF (if 0 ≤ k then arr.set k.toNat i else arr) (i + 1) r
omit H in
theorem invF_len : ∀ (f arr : List Int) (i : Nat), (invF arr i f).length = arr.length
  | [], _, _ => rfl
  | k :: r, arr, i => by rw [invF, invF_len]; split <;> simp

omit H in
theorem inv_loop (old : Int) (f : List Int) (e : Bool) (hf : ∀ k ∈ f, k < 4096) (hl : f.length ≤ 4096) : ∀ n i, n + i = f.length → ∀ arr : List Int, arr.length = 4096 →
    w75_K0 C ⟨[(16, .int .i64 i), (15, .int .i64 f.length), (14, L1 f e), (3, .ptr 0 0 0), (2, .ptr 1 0 0)], [(0, .cells 4096 [arr.map (AV.int .i64)] true true), (1, .cells 4096 [rep 4096 (.int .i64 0)] true true)], 2⟩ =
      some (.agg ((invF arr i (f.drop i)).map (AV.int .i64))) := by
  intro n
  induction n with
  | zero =>
    intro i hi arr ha
    simp only [w75_K0]; rw [ck_unf w75_B0.eq_1]
    have h3 : ¬ i < f.length := by omega
    have h4 : f.drop i = [] := List.drop_eq_nil_of_le (by omega)
    have h5 : List.take 4096 (List.map (AV.int .i64) arr) = List.map (AV.int .i64) arr := List.take_of_length_le (by simp; omega)
    have h6 : List.drop 4096 (rep 4096 (AV.int .i64 0)) = [] := List.drop_eq_nil_of_le (by simp)
    simp [ck_unf w75_c0.eq_1, h3, h4, h5, h6, ha, invF]
  | succ n ih =>
    intro i hi arr ha
    have h3 : i < f.length := by omega
    have hk := hf _ (List.getElem_mem h3)
    have ih' := ih (i + 1) (by omega)
    simp only [w75_K0] at ih' ⊢; rw [ck_unf w75_B0.eq_1]
    rw [drop_cons h3]
    by_cases c : 0 ≤ f[i]
    · obtain ⟨k, hk'⟩ : ∃ k : Nat, f[i] = k := ⟨f[i].toNat, by omega⟩
      have hk2 : k < 4096 := by omega
      have hk3 : k < arr.length := by omega
      have hk4 : k + 1 ≤ arr.length := by omega
      have := ih' (arr.set k i) (by simpa using ha)
      simp at this
      rw [hk'] at c ⊢
      simp (disch := omega) [h3, wI64, invF, hk', hk2, hk3, hk4, c, arr_set, this]
    · have := ih' arr ha
      simp at this
      simp (disch := omega) [h3, wI64, invF, c, this]

omit H in
theorem inv_fill (old : Int) (f : List Int) (e : Bool) (hf : ∀ k ∈ f, k < 4096) (hl : f.length ≤ 4096) : ∀ n i : Nat, n + i = 4096 → ∀ arr : List Int, arr.length = 4096 → (∀ j, j < i → arr[j]? = some (-1)) →
    w75_K1 C ⟨[(7, .int .i64 i), (3, .ptr 0 0 0), (2, .ptr 1 0 0), (1, .ptr 2 0 0)], [(0, .cells 4096 [arr.map (AV.int .i64)] true true), (1, .cells 4096 [rep 4096 (.int .i64 0)] true true), (2, .cells 2 [[.int .i64 old, L1 f e]] true true)], 3⟩ =
      some (.agg ((invF (rep 4096 (-1)) 0 f).map (AV.int .i64))) := by
  intro n
  induction n with
  | zero =>
    intro i hi arr ha hs
    simp only [w75_K1]; rw [ck_unf w75_B1.eq_1]
    have h3 : ¬ (i : Int) < 4096 := by omega
    have h4 : arr = rep 4096 (-1) := by
      refine List.ext_getElem? fun j => ?_
      by_cases hj : j < 4096
      · rw [hs j (by omega), rep_get _ _ hj]
      · rw [List.getElem?_eq_none (by omega), List.getElem?_eq_none (by simp; omega)]
    have := inv_loop (C := C) old f e hf hl f.length 0 (by simp) arr ha
    simp only [w75_K0] at this
    simp at this
    simp [h3, ck_unf w75_c1.eq_1, this, ← h4]
  | succ n ih =>
    intro i hi arr ha hs
    have h3 : (i : Int) < 4096 := by omega
    have h4 : i < 4096 := by omega
    have hk4 : i + 1 ≤ arr.length := by omega
    have := ih (i + 1) (by omega) (arr.set i (-1)) (by simpa using ha) (fun j hj => by
      rw [List.getElem?_set]
      by_cases q : i = j
      · subst q; simp [ha]; omega
      · rw [if_neg q]; exact hs j (by omega))
    simp only [w75_K1] at this ⊢; rw [ck_unf w75_B1.eq_1]
    simp at this
    simp (disch := omega) [h3, h4, wI64, hk4, arr_set, this]

theorem inverse_ok (old : Int) (f : List Int) (e : Bool) (hf : ∀ k ∈ f, k < 4096) (hl : f.length ≤ 4096) : FnW C 75 [eM old f e] = some (.agg ((invF (rep 4096 (-1)) 0 f).map (AV.int .i64))) := by
  rw [fnW_eq H.f75 rfl]
  have := inv_fill (C := C) old f e hf hl 4096 0 rfl (rep 4096 0) (by simp) (by omega)
  simp only [w75_K1] at this
  simp at this
  simp [w75, this]

omit H in
/-- The index now, or -1. -/
def pos (f : List Int) (v : Int) : Int := if v ∈ f then (f.idxOf v : Int) else -1
end Go.C09
end

section
set_option linter.unusedSimpArgs false
set_option linter.unusedVariables false
/- Contracts of the functions of remaps: the maps of changes. No conditions beyond those that each theorem names. -/
namespace Go.C09
open Go Go.Pav Go.Pw P09
set_option maxRecDepth 10000
set_option maxHeartbeats 4000000
set_option linter.unusedSimpArgs false
set_option linter.unusedVariables false
attribute [-simp] List.getElem_cons_drop
variable {C : WProg} (H : Has C)
include H

/-- No map. -/
abbrev zM : AV := .agg [.int .i64 0, .ro 1 [] true]
omit H in
theorem dat1 (a : List AV) : Dat [.rop a] := ⟨fun h => rfl, fun h => rfl, rfl, rfl, fun π => rfl⟩
omit H in
theorem dat0 : Dat [] := ⟨fun h => rfl, fun h => rfl, rfl, rfl, fun π => rfl⟩
omit H in
theorem dat2 (a b : List AV) : Dat [.rop a, .rop b] := ⟨fun h => rfl, fun h => rfl, rfl, rfl, fun π => rfl⟩
omit H in
theorem dat4 (a b c d : List AV) : Dat [.rop a, .rop b, .rop c, .rop d] := ⟨fun h => rfl, fun h => rfl, rfl, rfl, fun π => rfl⟩

omit H in
def wrongB (n : Int) : Bool := decide (n < 0 ∨ 4096 < n)
theorem wrong_ok (n : Int) : FnW C 77 [.int .i64 n] = some (.bool (wrongB n)) := by
  rw [fnW_eq H.f77 rfl]
  unfold wrongB
  by_cases c : n < 0 <;> simp [w77, c]

omit H in
def outB (n at_ many : Int) : Bool := decide (at_ < 0 ∨ many < 0 ∨ n < at_ ∨ n - at_ < many)
theorem outside_ok (n a m : Int) (h : 0 ≤ n) (h2 : n ≤ 4096) : FnW C 78 [.int .i64 n, .int .i64 a, .int .i64 m] = some (.bool (outB n a m)) := by
  rw [fnW_eq H.f78 rfl]
  unfold outB
  by_cases c : a < 0
  · simp [w78, c]
  · by_cases c1 : m < 0
    · simp [w78, c, c1]
    · by_cases c2 : n < a
      · simp [w78, c, c1, c2]
      · simp (disch := omega) [w78, c, c1, c2, wI64]

omit H in
def gIns (a m i : Int) : Int := if i < a then i else if i < a + m then -1 else i - m
omit H in
def gRem (a m i : Int) : Int := if i < a then i else i + m
omit H in
def gMov (a m t i : Int) : Int := if i < t then gRem a m i else if i < t + m then a + i - t else gRem a m (i - m)
omit H in
def mapR (G : Int → Int) (n : Int) : List Int := (List.range n.toNat).map fun i : Nat => G i

theorem k81 (i : Int) : FnW C 81 [.int .i64 i] = some (.int .i64 i) := by
  rw [fnW_eq H.f81 rfl]; simp [w81]
theorem k82 (a m i : Int) (ha : 0 ≤ a ∧ a ≤ 4096) (hm : 0 ≤ m ∧ m ≤ 4096) (hi : 0 ≤ i ∧ i ≤ 4096) : FnW C 82 [.int .i64 i, .rop [.int .i64 a], .rop [.int .i64 m]] = some (.int .i64 (gIns a m i)) := by
  rw [fnW_eq H.f82 rfl]
  unfold gIns
  by_cases c : i < a
  · simp [w82, c]
  · by_cases c1 : i < a + m
    · simp (disch := omega) [w82, c, c1, wI64]
    · simp (disch := omega) [w82, c, c1, wI64]
theorem k83 (a m i : Int) (ha : 0 ≤ a ∧ a ≤ 4096) (hm : 0 ≤ m ∧ m ≤ 4096) (hi : 0 ≤ i ∧ i ≤ 4096) : FnW C 83 [.int .i64 i, .rop [.int .i64 a], .rop [.int .i64 m]] = some (.int .i64 (gRem a m i)) := by
  rw [fnW_eq H.f83 rfl]
  unfold gRem
  by_cases c : i < a
  · simp [w83, c]
  · simp (disch := omega) [w83, c, wI64]
theorem k79 (a m i : Int) (ha : 0 ≤ a ∧ a ≤ 4096) (hm : 0 ≤ m ∧ m ≤ 4096) (hi : -4096 ≤ i ∧ i ≤ 4096) : FnW C 79 [.int .i64 i, .rop [.int .i64 a], .rop [.int .i64 m]] = some (.int .i64 (gRem a m i)) := by
  rw [fnW_eq H.f79 rfl]
  unfold gRem
  by_cases c : i < a
  · simp [w79, c]
  · simp (disch := omega) [w79, c, wI64]
theorem k80 (a m t i : Int) (ha : 0 ≤ a ∧ a ≤ 4096) (hm : 0 ≤ m ∧ m ≤ 4096) (ht : 0 ≤ t ∧ t ≤ 4096) (hi : 0 ≤ i ∧ i ≤ 4096) :
    FnW C 80 [.int .i64 i, .rop [.int .i64 t], .rop [.fn 79 [.rop [.int .i64 a], .rop [.int .i64 m]]], .rop [.int .i64 m], .rop [.int .i64 a]] = some (.int .i64 (gMov a m t i)) := by
  rw [fnW_eq H.f80 rfl]
  unfold gMov
  have h1 := k79 H a m i ha hm (by omega)
  have h2 := k79 H a m (i - m) ha hm (by omega)
  by_cases c : i < t
  · simp [w80, c, h1, H.inl, H.pp]
  · by_cases c1 : i < t + m
    · simp (disch := omega) [w80, c, c1, wI64]
    · simp (disch := omega) [w80, c, c1, wI64, h2, H.inl, H.pp]
theorem k74 (b : Int) (bf : List Int) (be : Bool) (a : Int) (af : List Int) (ae : Bool) (i : Nat) (hi : i < bf.length) (hb : bf[i] < af.length) :
    FnW C 74 [.int .i64 i, .rop [.int .i64 b, L1 bf be], .rop [.int .i64 a, L1 af ae]] = some (.int .i64 (if 0 ≤ bf[i] then af[bf[i].toNat]?.getD 0 else -1)) := by
  rw [fnW_eq H.f74 rfl]
  by_cases c : 0 ≤ bf[i]
  · obtain ⟨k, hk⟩ : ∃ k : Nat, bf[i] = k := ⟨bf[i].toNat, by omega⟩
    have h2 : k < af.length := by omega
    simp [w74, hi, hk, c, h2]
  · simp [w74, hi, c]
theorem k76 (arr : List Int) (i : Nat) (ha : arr.length = 4096) (hi : i < 4096) : FnW C 76 [.int .i64 i, .rop (arr.map (AV.int .i64))] = some (.int .i64 (arr[i]?.getD 0)) := by
  rw [fnW_eq H.f76 rfl]
  have h2 : i < arr.length := by omega
  simp [w76, hi, h2]

theorem same_ok (n : Int) : FnW C 65 [.int .i64 n] = some (.tup (if n < 0 ∨ 4096 < n then [zM, .int .i64 4] else [eM n (mapR id n) true, .int .i64 0])) := by
  rw [fnW_eq H.f65 rfl]
  have hw := wrong_ok H n
  unfold wrongB at hw
  by_cases c : n < 0 ∨ 4096 < n
  · simp [w65, c, hw, H.inl, H.pp]
  · have := made_ok H n n 81 [] (fun i => i) dat0 (by decide) (by decide) (by omega) (by omega) (fun i hi => k81 H i)
    simp [w65, c, hw, H.inl, H.pp, this, mapR]

theorem removed_ok (n a m : Int) : FnW C 67 [.int .i64 n, .int .i64 a, .int .i64 m] = some (.tup (if n < 0 ∨ 4096 < n ∨ outB n a m = true then [zM, .int .i64 4] else [eM n (mapR (gRem a m) (n - m)) true, .int .i64 0])) := by
  rw [fnW_eq H.f67 rfl]
  have hw := wrong_ok H n
  by_cases c : wrongB n = true
  · have c2 : n < 0 ∨ 4096 < n := by simpa [wrongB] using c
    rw [if_pos (by rcases c2 with h | h; exact .inl h; exact .inr (.inl h))]
    simp [w67, c, hw, H.inl, H.pp]
  · have c' : wrongB n = false := by simpa using c
    have c2 : ¬ n < 0 := by intro q; exact c (by simp [wrongB, q])
    have c3 : ¬ 4096 < n := by intro q; exact c (by simp [wrongB, q])
    have ho := outside_ok H n a m (by omega) (by omega)
    by_cases d : outB n a m = true
    · simp [w67, c', hw, H.inl, H.pp, c2, c3, ho, d]
    · have d' : outB n a m = false := by simpa using d
      have d2 : ¬ a < 0 ∧ ¬ m < 0 ∧ ¬ n < a ∧ ¬ n - a < m := by simpa [outB] using d'
      have := made_ok H n (n - m) 83 [.rop [.int .i64 a], .rop [.int .i64 m]] (fun i => gRem a m i) (dat2 _ _) (by decide) (by decide) (by omega) (by omega) (fun i hi => k83 H a m i (by omega) (by omega) (by omega))
      simp (disch := omega) [w67, c', hw, H.inl, H.pp, c2, c3, ho, d', wI64, this, mapR]

theorem inserted_ok (n a m : Int) (hm0 : m < 9223372036854775808) : FnW C 66 [.int .i64 n, .int .i64 a, .int .i64 m] = some (.tup (if n < 0 ∨ 4096 < n ∨ a < 0 ∨ n < a ∨ m < 0 then [zM, .int .i64 4] else if 4096 - n < m then [zM, .int .i64 3] else [eM n (mapR (gIns a m) (n + m)) true, .int .i64 0])) := by
  rw [fnW_eq H.f66 rfl]
  have hw := wrong_ok H n
  by_cases c : wrongB n = true
  · have c2 : n < 0 ∨ 4096 < n := by simpa [wrongB] using c
    rw [if_pos (by rcases c2 with h | h; exact .inl h; exact .inr (.inl h))]
    simp [w66, c, hw, H.inl, H.pp]
  · have c' : wrongB n = false := by simpa using c
    have c2 : ¬ n < 0 := by intro q; exact c (by simp [wrongB, q])
    have c3 : ¬ 4096 < n := by intro q; exact c (by simp [wrongB, q])
    by_cases d1 : a < 0
    · simp [w66, c', hw, H.inl, H.pp, c2, c3, d1]
    · by_cases d2 : n < a
      · simp [w66, c', hw, H.inl, H.pp, c2, c3, d1, d2]
      · by_cases d3 : m < 0
        · simp [w66, c', hw, H.inl, H.pp, c2, c3, d1, d2, d3]
        · by_cases d4 : 4096 - n < m
          · simp (disch := omega) [w66, c', hw, H.inl, H.pp, c2, c3, d1, d2, d3, d4, wI64]
          · have := made_ok H n (n + m) 82 [.rop [.int .i64 a], .rop [.int .i64 m]] (fun i => gIns a m i) (dat2 _ _) (by decide) (by decide) (by omega) (by omega) (fun i hi => k82 H a m i (by omega) (by omega) (by omega))
            simp (disch := omega) [w66, c', hw, H.inl, H.pp, c2, c3, d1, d2, d3, d4, wI64, this, mapR]

theorem moved_ok (n a m t : Int) : FnW C 62 [.int .i64 n, .int .i64 a, .int .i64 m, .int .i64 t] = some (.tup (if n < 0 ∨ 4096 < n ∨ outB n a m = true ∨ t < 0 ∨ n - m < t then [zM, .int .i64 4] else [eM n (mapR (gMov a m t) n) true, .int .i64 0])) := by
  rw [fnW_eq H.f62 rfl]
  have hw := wrong_ok H n
  by_cases c : wrongB n = true
  · have c2 : n < 0 ∨ 4096 < n := by simpa [wrongB] using c
    rw [if_pos (by rcases c2 with h | h; exact .inl h; exact .inr (.inl h))]
    simp [w62, c, hw, H.inl, H.pp]
  · have c' : wrongB n = false := by simpa using c
    have c2 : ¬ n < 0 := by intro q; exact c (by simp [wrongB, q])
    have c3 : ¬ 4096 < n := by intro q; exact c (by simp [wrongB, q])
    have ho := outside_ok H n a m (by omega) (by omega)
    by_cases d : outB n a m = true
    · simp [w62, c', hw, H.inl, H.pp, c2, c3, ho, d]
    · have d' : outB n a m = false := by simpa using d
      have d2 : ¬ a < 0 ∧ ¬ m < 0 ∧ ¬ n < a ∧ ¬ n - a < m := by simpa [outB] using d'
      by_cases e1 : t < 0
      · simp (disch := omega) [w62, c', hw, H.inl, H.pp, c2, c3, ho, d', wI64, e1]
      · by_cases e2 : n - m < t
        · simp (disch := omega) [w62, c', hw, H.inl, H.pp, c2, c3, ho, d', wI64, e1, e2]
        · have := made_ok H n n 80 [.rop [.int .i64 t], .rop [.fn 79 [.rop [.int .i64 a], .rop [.int .i64 m]]], .rop [.int .i64 m], .rop [.int .i64 a]] (fun i => gMov a m t i) (dat4 _ _ _ _) (by decide) (by decide) (by omega) (by omega) (fun i hi => k80 H a m t i (by omega) (by omega) (by omega) (by omega))
          simp (disch := omega) [w62, c', hw, H.inl, H.pp, c2, c3, ho, d', wI64, e1, e2, this, mapR]
end Go.C09
end

section
set_option linter.unusedSimpArgs false
set_option linter.unusedVariables false
/- Contracts of the functions of remaps: composition, inverses, carrying. No conditions beyond those that each theorem names. -/
namespace Go.C09
open Go Go.Pav Go.Pw P09
set_option maxRecDepth 10000
set_option maxHeartbeats 4000000
set_option linter.unusedSimpArgs false
set_option linter.unusedVariables false
attribute [-simp] List.getElem_cons_drop
variable {C : WProg} (H : Has C)
include H

omit H in
theorem chkF_zero {old : Int} : ∀ {f pre : List Int}, chkF old pre f = 0 → (∀ k ∈ f, -1 ≤ k ∧ k < old) ∧ ∀ (i j : Nat) (k : Int), f[i]? = some k → f[j]? = some k → 0 ≤ k → i = j ∧ ¬ k ∈ pre
  | [], _, _ => ⟨by simp, by simp⟩
  | a :: f, pre, h => by
    unfold chkF at h
    split at h
    · simp at h
    · rename_i c1
      split at h
      · simp at h
      · rename_i c2
        obtain ⟨h1, h2⟩ := chkF_zero h
        refine ⟨fun k hk => ?_, fun i j k e1 e2 hk => ?_⟩
        · rcases List.mem_cons.1 hk with rfl | hk
          · omega
          · exact h1 k hk
        · match i, j, e1, e2 with
          | 0, 0, e1, e2 =>
            simp at e1; subst e1
            exact ⟨rfl, fun q => c2 ⟨hk, q⟩⟩
          | 0, j + 1, e1, e2 =>
            simp at e1; subst e1
            have := (h2 j j a (by simpa using e2) (by simpa using e2) hk).2
            simp at this
          | i + 1, 0, e1, e2 =>
            simp at e2; subst e2
            have := (h2 i i a (by simpa using e1) (by simpa using e1) hk).2
            simp at this
          | i + 1, j + 1, e1, e2 =>
            have := h2 i j k (by simpa using e1) (by simpa using e2) hk
            exact ⟨by omega, fun q => this.2 (by simp [q])⟩

omit H in
structure Okm (old : Int) (f : List Int) : Prop where
  old0 : 0 ≤ old
  old1 : old ≤ 4096
  len : f.length ≤ 4096
  rng : ∀ k ∈ f, -1 ≤ k ∧ k < old
  uniq : ∀ (i j : Nat) (k : Int), f[i]? = some k → f[j]? = some k → 0 ≤ k → i = j

omit H in
theorem chk_zero {old : Int} {f : List Int} (h : chk old f = 0) : Okm old f := by
  unfold chk at h
  split at h
  · simp at h
  · split at h
    · simp at h
    · obtain ⟨h1, h2⟩ := chkF_zero h
      exact ⟨by omega, by omega, by omega, h1, fun i j k a b c => (h2 i j k a b c).1⟩

/-- One map behind another. -/
def cmp (af bf : List Int) : List Int := bf.map fun k => if 0 ≤ k then af[k.toNat]?.getD 0 else -1

omit H in
theorem range_get (l : List Int) (G : Int → Int) (d : Int) : (List.range l.length).map (fun i => G (l[i]?.getD d)) = l.map G := by
  refine List.ext_getElem? fun j => ?_
  by_cases hj : j < l.length
  · simp [hj]
  · simp [hj]

theorem compose_ok (a : Int) (af : List Int) (ae : Bool) (b : Int) (bf : List Int) (be : Bool) : FnW C 52 [eM a af ae, eM b bf be] = some (.tup (if chk a af ≠ 0 then [zM, .int .i64 (chk a af)] else if chk b bf ≠ 0 then [zM, .int .i64 (chk b bf)] else
    if b ≠ af.length then [zM, .int .i64 16] else [eM a (cmp af bf) true, .int .i64 0])) := by
  rw [fnW_eq H.f52 rfl]
  have h1 := check_ok H a af ae
  have h2 := check_ok H b bf be
  by_cases c1 : chk a af = 0
  · by_cases c2 : chk b bf = 0
    · by_cases c3 : b = af.length
      · subst c3
        have ka := chk_zero c1
        have kb := chk_zero c2
        have h3 := kb.len
        have := made_ok H a bf.length 74 [.rop [.int .i64 af.length, L1 bf be], .rop [.int .i64 a, L1 af ae]] (fun i => if 0 ≤ bf[i]?.getD 0 then af[(bf[i]?.getD 0).toNat]?.getD 0 else -1) (dat2 _ _) (by decide) (by decide) (by omega) (by omega) (fun i hi => by
          have hi' : i < bf.length := by omega
          have := kb.rng _ (List.getElem_mem hi')
          have := k74 H af.length bf be a af ae i hi' (by omega)
          rw [this, List.getElem?_eq_getElem hi']; rfl)
        rw [Int.toNat_natCast, range_get bf (fun k => if 0 ≤ k then af[k.toNat]?.getD 0 else -1) 0] at this
        simp [w52, H.inl, H.pp, h1, h2, c1, c2, this, cmp]
      · simp [w52, H.inl, H.pp, h1, h2, c1, c2, c3]
    · simp [w52, H.inl, H.pp, h1, h2, c1, c2]
  · simp [w52, H.inl, H.pp, h1, h2, c1]

omit H in
theorem pos_cons (a : Int) (f : List Int) (v : Int) : pos (a :: f) v = if a = v then 0 else if v ∈ f then pos f v + 1 else -1 := by
  unfold pos
  by_cases h : a = v
  · subst h; simp
  · have h2 : ¬ v = a := fun q => h q.symm
    have h3 : (a == v) = false := by simpa using h
    by_cases hv : v ∈ f <;> simp [h, h2, hv, List.idxOf_cons, h3]

omit H in
/-- The inverse of a valid map. -/
theorem invF_get {old : Int} : ∀ (f arr : List Int) (i : Nat), (∀ k ∈ f, -1 ≤ k ∧ k < old) → (∀ (i j : Nat) (k : Int), f[i]? = some k → f[j]? = some k → 0 ≤ k → i = j) → ∀ v : Nat, v < arr.length →
    (invF arr i f)[v]? = some (if (v : Int) ∈ f then pos f v + i else arr[v]?.getD 0)
  | [], arr, i, _, _, v, hv => by simp [invF, hv]
  | a :: f, arr, i, hr, hu, v, hv => by
    have hu' : ∀ (i j : Nat) (k : Int), f[i]? = some k → f[j]? = some k → 0 ≤ k → i = j := fun x y k e1 e2 hk => by
      have := hu (x + 1) (y + 1) k (by simpa using e1) (by simpa using e2) hk
      omega
    rw [invF, invF_get f _ (i + 1) (fun k hk => hr k (List.mem_cons_of_mem _ hk)) hu' v (by split <;> simp [hv])]
    rw [pos_cons]
    by_cases h : a = v
    · have hn : ¬ (v : Int) ∈ f := by
        intro hm
        obtain ⟨j, hj⟩ := List.getElem?_of_mem hm
        have := hu 0 (j + 1) v (by simp [h]) (by simpa using hj) (by omega)
        omega
      have h0 : 0 ≤ a := by omega
      have h1 : a.toNat = v := by omega
      subst h
      simp [hn, hv]
    · have h2 : ¬ (v : Int) = a := fun q => h q.symm
      by_cases hm : (v : Int) ∈ f
      · simp [h, hm, h2]; omega
      · by_cases h0 : 0 ≤ a
        · have h3 : ¬ a.toNat = v := by omega
          simp [h, hm, h2, h0, List.getElem?_set, h3]
        · simp [h, hm, h2, h0]

omit H in
theorem inv_get {old : Int} {f : List Int} (h : Okm old f) {v : Nat} (hv : v < 4096) : (invF (rep 4096 (-1)) 0 f)[v]? = some (pos f v) := by
  rw [invF_get f _ 0 h.rng h.uniq v (by simpa using hv), rep_get _ _ hv]
  unfold pos
  split <;> simp

theorem invert_ok (a : Int) (f : List Int) (e : Bool) : FnW C 53 [eM a f e] = some (.tup (if chk a f ≠ 0 then [zM, .int .i64 (chk a f)] else [eM f.length (mapR (pos f) a) true, .int .i64 0])) := by
  rw [fnW_eq H.f53 rfl]
  have h1 := check_ok H a f e
  by_cases c1 : chk a f = 0
  · have ka := chk_zero c1
    have h2 := inverse_ok H a f e (fun k hk => by have := ka.rng k hk; have := ka.old1; omega) ka.len
    obtain ⟨arr, harr⟩ : ∃ arr, invF (rep 4096 (-1)) 0 f = arr := ⟨_, rfl⟩
    have hl : arr.length = 4096 := by rw [← harr, invF_len]; simp
    rw [harr] at h2
    have h3 := ka.old0
    have h4 := ka.old1
    have := made_ok H f.length a 76 [.rop (arr.map (AV.int .i64))] (fun i => arr[i]?.getD 0) (dat1 _) (by decide) (by decide) h3 h4 (fun i hi => k76 H arr i hl (by omega))
    have h5 : List.map (fun i => arr[i]?.getD 0) (List.range a.toNat) = mapR (pos f) a := by
      unfold mapR
      refine List.map_congr_left fun i hi => ?_
      have := List.mem_range.1 hi
      rw [← harr, inv_get ka (by omega)]; rfl
    rw [h5] at this
    have h6 : List.take 4096 (List.map (AV.int .i64) arr) = List.map (AV.int .i64) arr := List.take_of_length_le (by simp; omega)
    have h7 : List.drop 4096 (rep 4096 (AV.int .i64 0)) = [] := List.drop_eq_nil_of_le (by simp)
    simp [w53, H.inl, H.pp, h1, c1, h2, hl, this, h6, h7]
  · simp [w53, H.inl, H.pp, h1, c1]

theorem at_ok (a : Int) (f : List Int) (e : Bool) (v : Int) : FnW C 54 [eM a f e, .int .i64 v] = some (.tup (if chk a f ≠ 0 then [.int .i64 0, .int .i64 (chk a f)] else if v < 0 ∨ a ≤ v then [.int .i64 0, .int .i64 4] else
    if pos f v < 0 then [.int .i64 0, .int .i64 11] else [.int .i64 (pos f v), .int .i64 0])) := by
  rw [fnW_eq H.f54 rfl]
  have h1 := check_ok H a f e
  by_cases c1 : chk a f = 0
  · have ka := chk_zero c1
    by_cases c2 : v < 0
    · simp [w54, H.inl, H.pp, h1, c1, c2]
    · by_cases c3 : a ≤ v
      · simp [w54, H.inl, H.pp, h1, c1, c2, c3]
      · have h2 := inverse_ok H a f e (fun k hk => by have := ka.rng k hk; have := ka.old1; omega) ka.len
        obtain ⟨arr, harr⟩ : ∃ arr, invF (rep 4096 (-1)) 0 f = arr := ⟨_, rfl⟩
        have hl : arr.length = 4096 := by rw [← harr, invF_len]; simp
        rw [harr] at h2
        have h3 := ka.old0
        have h4 := ka.old1
        obtain ⟨k, rfl⟩ : ∃ k : Nat, v = k := ⟨v.toNat, by omega⟩
        have hk : k < 4096 := by omega
        have hk2 : k < arr.length := by omega
        have hp := inv_get ka hk
        rw [harr, List.getElem?_eq_getElem hk2] at hp
        have hp : arr[k] = pos f k := Option.some.inj hp
        by_cases c4 : pos f k < 0
        · simp [w54, H.inl, H.pp, h1, c1, c2, c3, h2, hl, hk, hk2, hp, c4]
        · simp [w54, H.inl, H.pp, h1, c1, c2, c3, h2, hl, hk, hk2, hp, c4]
  · simp [w54, H.inl, H.pp, h1, c1]
end Go.C09
end

section
set_option linter.unusedSimpArgs false
set_option linter.unusedVariables false
/- Contracts of the functions of remaps: what is gone, what is carried. No conditions beyond those that each theorem names. -/
namespace Go.C09
open Go Go.Pav Go.Pw P09
set_option maxRecDepth 10000
set_option maxHeartbeats 4000000
set_option linter.unusedSimpArgs false
set_option linter.unusedVariables false
attribute [-simp] List.getElem_cons_drop
variable {C : WProg} (H : Has C)
include H

omit H in
/-- The places from i on that hold a number below 0. -/
def negs (i : Nat) : List Int → List Int
  | [] => []
  | k :: r => if k < 0 then (i : Int) :: negs (i + 1) r else negs (i + 1) r
omit H in
theorem negs_len : ∀ (l : List Int) (i : Nat), (negs i l).length ≤ l.length
  | [], _ => Nat.le_refl _
  | k :: r, i => by
    have := negs_len r (i + 1)
    simp only [negs]; split <;> simp <;> omega

omit H in
theorem gone_loop (l : List Int) (ex : Bool) (hl : l.length ≤ 4096) : ∀ n i, n + i = l.length → ∀ G : List Int, G.length ≤ i →
    w55_K0 C ⟨[(20, .int .i64 i), (19, .int .i64 l.length), (18, L1 l ex), (6, .sl 0 1 0 G.length G.length false)], [(0, .cells 1 (G.map eI) true true)], 1⟩ =
      some (.tup [L1 (G ++ negs i (l.drop i)) true, .int .i64 0]) := by
  intro n
  induction n with
  | zero =>
    intro i hi G hG
    simp only [w55_K0]; rw [ck_unf w55_B0.eq_1]
    have h3 : ¬ i < l.length := by omega
    have h4 : l.drop i = [] := List.drop_eq_nil_of_le (by omega)
    cases G with
    | nil => simp [ck_unf w55_c0.eq_1, h3, h4, negs]
    | cons g G => simp (disch := (first | omega | (simp; done) | (simp; omega))) [ck_unf w55_c0.eq_1, h3, h4, negs, List.take_of_length_le]
  | succ n ih =>
    intro i hi G hG
    have h3 : i < l.length := by omega
    have ih' := ih (i + 1) (by omega)
    simp only [w55_K0] at ih' ⊢; rw [ck_unf w55_B0.eq_1]
    rw [drop_cons h3]
    by_cases c : l[i] < 0
    · have := ih' (G ++ [(i : Int)]) (by simp; omega)
      simp at this
      have hfit : (G.length + 1) * 9 ≤ 35184372088832 := by omega
      simp (disch := omega) [h3, wI64, negs, c, hfit, this]
    · have := ih' G (by omega)
      simp at this
      simp (disch := omega) [h3, wI64, negs, c, this]

theorem gone_ok (a : Int) (f : List Int) (e : Bool) : FnW C 55 [eM a f e] = some (.tup (if chk a f ≠ 0 then [.ro 1 [] true, .int .i64 (chk a f)] else [L1 (negs 0 (mapR (pos f) a)) true, .int .i64 0])) := by
  rw [fnW_eq H.f55 rfl]
  have h1 := check_ok H a f e
  by_cases c1 : chk a f = 0
  · have ka := chk_zero c1
    have h2 := inverse_ok H a f e (fun k hk => by have := ka.rng k hk; have := ka.old1; omega) ka.len
    obtain ⟨arr, harr⟩ : ∃ arr, invF (rep 4096 (-1)) 0 f = arr := ⟨_, rfl⟩
    have hl : arr.length = 4096 := by rw [← harr, invF_len]; simp
    rw [harr] at h2
    have h3 := ka.old0
    have h4 := ka.old1
    obtain ⟨a, rfl⟩ : ∃ k : Nat, a = k := ⟨a.toNat, by omega⟩
    have h6 : List.take 4096 (List.map (AV.int .i64) arr) = List.map (AV.int .i64) arr := List.take_of_length_le (by simp; omega)
    have h7 : List.drop 4096 (rep 4096 (AV.int .i64 0)) = [] := List.drop_eq_nil_of_le (by simp)
    obtain ⟨l, hl2⟩ : ∃ l, arr.take a = l := ⟨_, rfl⟩
    have h8 : List.take 4096 (List.map eI arr) = List.map eI arr := List.take_of_length_le (by simp; omega)
    have h9 : List.take a (List.map eI arr) = List.map eI l := by rw [← hl2, List.map_take]
    have h10 : l.length = a := by rw [← hl2]; simp; omega
    have h11 : l = mapR (pos f) a := by
      rw [← hl2]
      refine List.ext_getElem? fun j => ?_
      by_cases hj : j < a
      · rw [List.getElem?_take, if_pos hj, ← harr, inv_get ka (by omega)]
        simp [mapR, hj]
      · rw [List.getElem?_take, if_neg hj]
        simp [mapR, hj]
    have h12 : a ≤ 4096 := by omega
    have := gone_loop (C := C) l (decide (a = 4096)) (by omega) l.length 0 (by simp) [] (Nat.le_refl _)
    simp only [w55_K0, h10] at this
    simp at this
    simp [w55, H.inl, H.pp, h1, c1, h2, hl, h6, h7, h8, h9, h10, h12, this, ← h11]
  · simp [w55, H.inl, H.pp, h1, c1]
end Go.C09
end

section
set_option linter.unusedSimpArgs false
set_option linter.unusedVariables false
/- Contracts of remaps: what is carried; the definition's checks; comparing. No conditions beyond those that each theorem names. -/
namespace Go.C09
open Go Go.Pav Go.Pw P09
set_option maxRecDepth 10000
set_option maxHeartbeats 4000000
set_option linter.unusedSimpArgs false
set_option linter.unusedVariables false
attribute [-simp] List.getElem_cons_drop
variable {C : WProg} (H : Has C)
include H

omit H in
def carry (f l : List Int) : List Int := f.map fun k => if 0 ≤ k then l[k.toNat]?.getD 0 else 0

omit H in
theorem carry_loop (f : List Int) (e : Bool) (l : List Int) (le : Bool) (hf : ∀ k ∈ f, k < l.length) (hl : f.length ≤ 4096) : ∀ n i, n + i = f.length → ∀ acc : List Int, acc.length = i →
    w57_K0 C ⟨[(31, .int .i64 i), (30, .int .i64 f.length), (29, L1 f e), (7, .sl 0 1 0 f.length f.length true), (1, L1 l le)], [(0, .cells 1 (acc.map eI ++ List.replicate n [AV.int .i64 0]) true true)], 1⟩ =
      some (.tup [L1 (acc ++ carry (f.drop i) l) true, .int .i64 0]) := by
  intro n
  induction n with
  | zero =>
    intro i hi acc ha
    simp only [w57_K0]; rw [ck_unf w57_B0.eq_1]
    have h3 : ¬ i < f.length := by omega
    have h4 : f.drop i = [] := List.drop_eq_nil_of_le (by omega)
    have h5 : acc.length = f.length := by omega
    have h6 : List.take f.length (List.map eI acc) = List.map eI acc := List.take_of_length_le (by simp [h5])
    simp [ck_unf w57_c0.eq_1, h3, h4, h5, h6, carry]
  | succ n ih =>
    intro i hi acc ha
    have h3 : i < f.length := by omega
    have hk := hf _ (List.getElem_mem h3)
    rw [drop_cons h3]
    by_cases c : 0 ≤ f[i]
    · obtain ⟨k, hk'⟩ : ∃ k : Nat, f[i] = k := ⟨f[i].toNat, by omega⟩
      have hk2 : k < l.length := by omega
      have := ih (i + 1) (by omega) (acc ++ [l[k]]) (by simp [ha])
      simp only [w57_K0] at this ⊢; rw [ck_unf w57_B0.eq_1]
      rw [hk'] at c
      simp at this
      simp (disch := omega) [h3, wI64, carry, hk', hk2, c, fill_get, fill_set] at this ⊢
      exact this
    · have := ih (i + 1) (by omega) (acc ++ [0]) (by simp [ha])
      simp only [w57_K0] at this ⊢; rw [ck_unf w57_B0.eq_1]
      simp at this
      simp (disch := omega) [h3, wI64, carry, c, fill_get, fill_set, List.replicate_succ] at this ⊢
      exact this

theorem carry_ok (a : Int) (f : List Int) (e : Bool) (l : List Int) (le : Bool) : FnW C 57 [eM a f e, L1 l le] = some (.tup (if chk a f ≠ 0 then [.ro 1 [] true, .int .i64 (chk a f)] else if (l.length : Int) ≠ a then [.ro 1 [] true, .int .i64 16] else
    [L1 (carry f l) true, .int .i64 0])) := by
  rw [fnW_eq H.f57 rfl]
  have h1 := check_ok H a f e
  by_cases c1 : chk a f = 0
  · have ka := chk_zero c1
    have hl := ka.len
    by_cases c2 : (l.length : Int) = a
    · by_cases c3 : f.length = 0
      · have : f = [] := List.length_eq_zero_iff.1 c3
        subst this
        have h1 : FnW C 56 [.agg [.int .i64 a, .ro 1 [] e]] = some (.int .i64 (chk a [])) := check_ok H a [] e
        simp [w57, H.inl, H.pp, h1, c1, c2, carry]
      · have := carry_loop (C := C) f e l le (fun k hk => by have := ka.rng k hk; omega) hl f.length 0 (by simp) [] rfl
        simp only [w57_K0] at this
        simp at this
        have hne : f ≠ [] := fun q => c3 (by rw [q]; rfl)
        simp (disch := omega) [w57, H.inl, H.pp, h1, c1, c2, c3, hne, fits, this]
    · simp [w57, H.inl, H.pp, h1, c1, c2]
  · simp [w57, H.inl, H.pp, h1, c1]

omit H in
theorem list_loop (xs ys : List Int) (ye : Bool) (hl : xs.length = ys.length) (hx : xs.length ≤ 1000000) : ∀ n i, n + i = ys.length →
    w59_K0 C ⟨[(9, .int .i64 i), (2, L1 ys ye), (0, L1 xs true)], [], 0⟩ = some (.bool (decide (xs.drop i = ys.drop i))) := by
  intro n
  induction n with
  | zero =>
    intro i hi
    simp only [w59_K0]; rw [ck_unf w59_B0.eq_1]
    have h1 : xs.drop i = [] := List.drop_eq_nil_of_le (by omega)
    have h2 : ys.drop i = [] := List.drop_eq_nil_of_le (by omega)
    have h3 : ¬ i < ys.length := by omega
    simp [ck_unf w59_c0.eq_1, h1, h2, h3]
  | succ n ih =>
    intro i hi
    have h1 : i < xs.length := by omega
    have h2 : i < ys.length := by omega
    have := ih (i + 1) (by omega)
    simp only [w59_K0] at this ⊢; rw [ck_unf w59_B0.eq_1]
    rw [drop_cons h1, drop_cons h2]
    simp at this
    by_cases c : xs[i] = ys[i]
    · simp (disch := omega) [h1, h2, wI64, c, this]
    · simp (disch := omega) [h1, h2, wI64, c]

omit H in
theorem list_ok (h59 : C.fns.get 59 = some w59) (xs ys : List Int) (ye : Bool) (e f : Int) (hx : xs.length ≤ 1000000) : FnW C 59 [L1 xs true, .int .i64 e, L1 ys ye, .int .i64 f] = some (.bool (decide (e = f ∧ xs = ys))) := by
  rw [fnW_eq h59 rfl]
  by_cases c1 : e = f
  · by_cases hl : xs.length = ys.length
    · have := list_loop (C := C) xs ys ye hl hx ys.length 0 (by simp)
      simp only [w59_K0] at this
      simp at this
      simp [w59, c1, hl, this]
    · have hne : xs ≠ ys := fun q => hl (by rw [q])
      simp [w59, c1, hl, hne]
  · simp [w59, c1]

theorem eqM_ok (h59 : C.fns.get 59 = some w59) (h58 : C.fns.get 58 = some w58) (o : Int) (xs ys : List Int) (ye : Bool) (e old f : Int) (hx : xs.length ≤ 1000000) : FnW C 58 [eM o xs true, .int .i64 e, .int .i64 old, L1 ys ye, .int .i64 f] = some (.bool (decide (e = f ∧ o = old ∧ xs = ys))) := by
  have := list_ok h59 xs ys ye 0 0 hx
  rw [fnW_eq h58 rfl]
  by_cases c1 : e = f
  · by_cases c2 : o = old
    · simp [w58, c1, c2, H.inl, H.pp, this]
    · simp [w58, c1, c2, H.inl, H.pp]
  · simp [w58, c1, H.inl, H.pp]

omit H in
theorem old_ok (h71 : C.fns.get 71 = some w71) (n e : Int) : FnW C 71 [.int .i64 n, .int .i64 e] = some (.int .i64 (if e = 0 then n else 0)) := by
  rw [fnW_eq h71 rfl]
  by_cases c : e = 0 <;> simp [w71, c]

omit H in
theorem pos_drop (f : List Int) (v : Int) (i : Nat) (h : i < f.length) : (if v ∈ f.drop i then pos (f.drop i) v + i else -1) = if f[i] = v then (i : Int) else if v ∈ f.drop (i + 1) then pos (f.drop (i + 1)) v + (i + 1 : Nat) else -1 := by
  rw [drop_cons h]
  by_cases c : f[i] = v
  · simp [c, pos_cons]
  · have c2 : ¬ v = f[i] := fun q => c q.symm
    by_cases c3 : v ∈ f.drop (i + 1)
    · simp [c, c2, c3, pos_cons]; omega
    · simp [c, c2, c3]

omit H in
theorem rat_loop (f : List Int) (e : Bool) (v : Int) (hx : f.length ≤ 1000000) : ∀ n i, n + i = f.length →
    w60_K0 C ⟨[(5, .int .i64 i), (1, .int .i64 v), (0, L1 f e)], [], 0⟩ = some (.int .i64 (if v ∈ f.drop i then pos (f.drop i) v + i else -1)) := by
  intro n
  induction n with
  | zero =>
    intro i hi
    simp only [w60_K0]; rw [ck_unf w60_B0.eq_1]
    have h1 : f.drop i = [] := List.drop_eq_nil_of_le (by omega)
    have h3 : ¬ i < f.length := by omega
    simp [ck_unf w60_c0.eq_1, h1, h3]
  | succ n ih =>
    intro i hi
    have h1 : i < f.length := by omega
    have := ih (i + 1) (by omega)
    rw [pos_drop f v i h1]
    simp only [w60_K0] at this ⊢; rw [ck_unf w60_B0.eq_1]
    simp at this
    by_cases c : f[i] = v
    · simp (disch := omega) [h1, wI64, c]
    · simp (disch := omega) [h1, wI64, c, this]

omit H in
theorem rat_ok (h60 : C.fns.get 60 = some w60) (f : List Int) (e : Bool) (v : Int) (hx : f.length ≤ 1000000) : FnW C 60 [L1 f e, .int .i64 v] = some (.int .i64 (pos f v)) := by
  rw [fnW_eq h60 rfl]
  have := rat_loop (C := C) f e v hx f.length 0 (by simp)
  simp only [w60_K0] at this
  have h2 : (if v ∈ f then pos f v else -1) = pos f v := by unfold pos; split <;> simp_all
  simp [h2] at this
  simp [w60, this]

omit H in
theorem rcheck_in (old : Int) (f : List Int) (e : Bool) (i : Nat) (hi : i < f.length) (hx : f.length ≤ 4096) (c0 : 0 ≤ f[i]) (R : AV)
    (hout : w50_K0 C ⟨[(5, .int .i64 (i + 1)), (1, L1 f e), (0, .int .i64 old)], [], 0⟩ = some R) : ∀ n k, n + k = i →
    w50_K1 C ⟨[(6, .int .i64 k), (5, .int .i64 i), (1, L1 f e), (0, .int .i64 old)], [], 0⟩ = some (if f[i] ∈ (f.take i).drop k then .int .i64 8 else R) := by
  intro n
  induction n with
  | zero =>
    intro k hk
    simp only [w50_K0] at hout
    simp only [w50_K1]; rw [ck_unf w50_B1.eq_1]
    have h1 : (f.take i).drop k = [] := List.drop_eq_nil_of_le (by simp; omega)
    have h3 : ¬ k < i := by omega
    simp (disch := omega) [ck_unf w50_c1.eq_1, h1, h3, hi, wI64, hout]
  | succ n ih =>
    intro k hk
    have h1 : k < i := by omega
    have h2 : k < f.length := by omega
    have hl : k < (f.take i).length := by simp; omega
    have := ih (k + 1) (by omega)
    simp only [w50_K1] at this ⊢; rw [ck_unf w50_B1.eq_1]
    rw [drop_cons hl]
    simp at this
    by_cases c : f[k] = f[i]
    · simp (disch := omega) [h1, h2, hi, c0, wI64, c]
    · have c2 : ¬ f[i] = f[k] := fun q => c q.symm
      simp (disch := omega) [h1, h2, hi, c0, wI64, c, c2, this]

omit H in
theorem rcheck_loop (old : Int) (f : List Int) (e : Bool) (hx : f.length ≤ 4096) : ∀ n i, n + i = f.length →
    w50_K0 C ⟨[(5, .int .i64 i), (1, L1 f e), (0, .int .i64 old)], [], 0⟩ = some (.int .i64 (chkF old (f.take i) (f.drop i))) := by
  intro n
  induction n with
  | zero =>
    intro i hi
    simp only [w50_K0]; rw [ck_unf w50_B0.eq_1]
    have h1 : f.drop i = [] := List.drop_eq_nil_of_le (by omega)
    have h3 : ¬ i < f.length := by omega
    simp [ck_unf w50_c0.eq_1, h1, h3, chkF]
  | succ n ih =>
    intro i hi
    have h1 : i < f.length := by omega
    have hn := ih (i + 1) (by omega)
    rw [List.take_succ_eq_append_getElem h1] at hn
    rw [drop_cons h1]
    by_cases c1 : f[i] < -1
    · simp only [w50_K0]; rw [ck_unf w50_B0.eq_1]
      simp (disch := omega) [h1, c1, chkF]
    · by_cases c2 : old ≤ f[i]
      · simp only [w50_K0]; rw [ck_unf w50_B0.eq_1]
        simp (disch := omega) [h1, c1, c2, chkF]
      · by_cases c3 : 0 ≤ f[i]
        · have := rcheck_in (C := C) old f e i h1 hx c3 _ hn i 0 (by simp)
          simp only [w50_K1, w50_K0] at this ⊢; rw [ck_unf w50_B0.eq_1]
          simp at this
          simp (disch := omega) [h1, c1, c2, c3, chkF, this]
          split <;> rfl
        · simp only [w50_K0] at hn ⊢; rw [ck_unf w50_B0.eq_1]
          simp at hn
          simp (disch := omega) [h1, c1, c2, c3, chkF]
          rw [ck_unf w50_B1.eq_1]
          by_cases c4 : 0 < i
          · simp (disch := omega) [ck_unf w50_c1.eq_1, h1, c3, c4, wI64, hn]
          · simp (disch := omega) [ck_unf w50_c1.eq_1, h1, c3, c4, wI64, hn]

omit H in
theorem rcheck_ok (h50 : C.fns.get 50 = some w50) (old : Int) (f : List Int) (e : Bool) : FnW C 50 [.int .i64 old, L1 f e] = some (.int .i64 (chk old f)) := by
  rw [fnW_eq h50 rfl]
  unfold chk
  by_cases c1 : old < 0
  · simp [w50, c1]
  · by_cases c2 : 4096 < old
    · simp [w50, c1, c2]
    · by_cases c3 : 4096 < (f.length : Int)
      · simp [w50, c1, c2, c3]
      · have := rcheck_loop (C := C) old f e (by omega) f.length 0 (by simp)
        simp only [w50_K0] at this
        simp at this
        simp [w50, c1, c2, c3, this]
end Go.C09
end

section
set_option linter.unusedSimpArgs false
set_option linter.unusedVariables false
/- Contracts of the definition of remaps: lists that are changed. No conditions beyond those that each theorem names. -/
namespace Go.C09
open Go Go.Pav Go.Pw P09
set_option maxRecDepth 10000
set_option maxHeartbeats 4000000
set_option linter.unusedSimpArgs false
set_option linter.unusedVariables false
attribute [-simp] List.getElem_cons_drop
variable {C : WProg}

theorem rsame_loop (N : Nat) (hx : N ≤ 4096) : ∀ n i : Nat, n + i = N → ∀ G : List Int, G.length = i →
    w63_K0 C ⟨[(4, .int .i64 i), (3, .sl 0 1 0 i i false), (0, .int .i64 N)], [(0, .cells 1 (G.map eI) true true)], 1⟩ = some (L1 (G ++ (List.range' i n).map fun i : Nat => (i : Int)) false) := by
  intro n
  induction n with
  | zero =>
    intro i hi G hG
    simp only [w63_K0]; rw [ck_unf w63_B0.eq_1]
    have h3 : ¬ i < N := by omega
    simp (disch := (first | omega | (simp; done) | (simp; omega))) [ck_unf w63_c0.eq_1, h3, hG, List.take_of_length_le]
  | succ n ih =>
    intro i hi G hG
    have h3 : i < N := by omega
    have := ih (i + 1) (by omega) (G ++ [(i : Int)]) (by simp [hG])
    simp only [w63_K0] at this ⊢; rw [ck_unf w63_B0.eq_1]
    simp at this
    have hfit : (i + 1) * 9 ≤ 35184372088832 := by omega
    simp (disch := omega) [h3, wI64, hG, hfit, this, List.range'_succ]

theorem rsame_ok (h63 : C.fns.get 63 = some w63) (n : Int) (h0 : 0 ≤ n) (hx : n ≤ 4096) : FnW C 63 [.int .i64 n] = some (L1 (mapR id n) false) := by
  obtain ⟨n, rfl⟩ : ∃ k : Nat, n = k := ⟨n.toNat, by omega⟩
  rw [fnW_eq h63 rfl]
  have := rsame_loop (C := C) n (by omega) n 0 rfl [] rfl
  simp only [w63_K0] at this
  have h2 : List.range' 0 n = List.range n := List.range_eq_range'.symm
  rw [h2] at this
  simp at this
  simp [w63, this, mapR]

/-- Indices with new ones. -/
def ins (l : List Int) (a m : Nat) : List Int := l.take a ++ (List.replicate m (-1) ++ l.drop a)
def rem (l : List Int) (a m : Nat) : List Int := l.take a ++ l.drop (a + m)
def mov (l : List Int) (a m t : Nat) : List Int := (rem l a m).take t ++ ((l.drop a).take m ++ (rem l a m).drop t)

theorem rins_loop (l : List Int) (le : Bool) (a : Nat) (ha : a ≤ l.length) (M : Nat) (hM : M ≤ 4096) (hl : l.length ≤ 4096) : ∀ n i : Nat, n + i = M → ∀ (G : List Int) (b : Bool), G.length = a + i → (b = true → G = []) →
    w68_K0 C ⟨[(9, .int .i64 i), (8, .sl 0 1 0 G.length G.length b), (2, .int .i64 M), (1, .int .i64 a), (0, L1 l le)], [(0, .cells 1 (G.map eI) true true)], 1⟩ =
      some (.tup [L1 (G ++ (List.replicate n (-1) ++ l.drop a)) (b && (decide (n = 0) && (l.drop a).isEmpty)), .int .i64 0]) := by
  intro n
  induction n with
  | zero =>
    intro i hi G b hG hb
    simp only [w68_K0]; rw [ck_unf w68_B0.eq_1]
    have h3 : ¬ i < M := by omega
    have hd' : List.drop a (List.map eI l) = List.map eI (l.drop a) := by rw [List.map_drop]
    have hdl : (l.drop a).length = l.length - a := by simp
    cases hd : l.drop a with
    | nil =>
      rw [hd] at hd'
      simp (disch := (first | omega | (simp; done) | (simp; omega))) [ck_unf w68_c0.eq_1, h3, ha, hd', List.take_of_length_le]
    | cons x r =>
      rw [hd] at hd' hdl
      have hdl : l.length - a = r.length + 1 := by simpa using hdl.symm
      have hfit : (G.length + (r.length + 1)) * 9 ≤ 35184372088832 := by omega
      cases b with
      | false => simp (disch := (first | omega | (simp; done) | (simp; omega))) [ck_unf w68_c0.eq_1, h3, ha, hd', hdl, hfit, List.take_of_length_le]
      | true =>
        have := hb rfl
        subst this
        simp at hfit
        simp (disch := (first | omega | (simp; done) | (simp; omega))) [ck_unf w68_c0.eq_1, h3, ha, hd', hdl, hfit, List.take_of_length_le]
  | succ n ih =>
    intro i hi G b hG hb
    have h3 : i < M := by omega
    have := ih (i + 1) (by omega) (G ++ [-1]) false (by simp; omega) (by simp)
    simp only [w68_K0] at this ⊢; rw [ck_unf w68_B0.eq_1]
    simp at this
    have hfit : (G.length + 1) * 9 ≤ 35184372088832 := by omega
    cases b with
    | false => simp (disch := omega) [h3, wI64, hfit, this, List.replicate_succ]
    | true =>
      have := hb rfl
      subst this
      simp (disch := omega) [h3, wI64, List.replicate_succ] at this ⊢
      exact this

theorem rins_ok (h68 : C.fns.get 68 = some w68) (l : List Int) (le : Bool) (a m : Int) (hl : l.length ≤ 4096) (hm : m < 9223372036854775808) : ∃ ex, FnW C 68 [L1 l le, .int .i64 a, .int .i64 m] =
    some (.tup (if a < 0 ∨ (l.length : Int) < a ∨ m < 0 then [.ro 1 [] true, .int .i64 4] else if 4096 - (l.length : Int) < m then [.ro 1 [] true, .int .i64 3] else [L1 (ins l a.toNat m.toNat) ex, .int .i64 0])) := by
  rw [fnW_eq h68 rfl]
  by_cases c1 : a < 0
  · exact ⟨true, by simp [w68, c1]⟩
  · by_cases c2 : (l.length : Int) < a
    · exact ⟨true, by simp [w68, c1, c2]⟩
    · by_cases c3 : m < 0
      · exact ⟨true, by simp [w68, c1, c2, c3]⟩
      · by_cases c4 : 4096 - (l.length : Int) < m
        · exact ⟨true, by simp (disch := omega) [w68, c1, c2, c3, c4, wI64]⟩
        · obtain ⟨a, rfl⟩ : ∃ k : Nat, a = k := ⟨a.toNat, by omega⟩
          obtain ⟨m, rfl⟩ : ∃ k : Nat, m = k := ⟨m.toNat, by omega⟩
          have ha : a ≤ l.length := by omega
          have hd' : List.take a (List.map eI l) = List.map eI (l.take a) := by rw [List.map_take]
          have hdl : (l.take a).length = a := by simp; omega
          cases hd : l.take a with
          | nil =>
            rw [hd] at hd' hdl
            have hdl : a = 0 := by simpa using hdl.symm
            subst hdl
            have := rins_loop (C := C) l le 0 ha m (by omega) hl m 0 rfl [] true (by simp) (by simp)
            simp only [w68_K0] at this
            simp at this
            exact ⟨_, by simp (disch := omega) [w68, c1, c2, c3, c4, wI64, this, ins]; rfl⟩
          | cons x r =>
            rw [hd] at hd' hdl
            have hfit : a * 9 ≤ 35184372088832 := by omega
            have := rins_loop (C := C) l le a ha m (by omega) hl m 0 rfl (x :: r) false (by rw [hdl]; rfl) (by simp)
            simp only [w68_K0] at this
            rw [hdl] at this
            simp at this hd'
            refine ⟨false, ?_⟩
            have hdl' : r.length + 1 = a := by simpa using hdl
            have hne : a ≠ 0 := by omega
            simp (disch := omega) [w68, c1, c2, c3, c4, wI64, ha, hd', hdl', hne, hfit, this, ins, hd]

theorem split3 (l : List Int) (a m : Nat) (h : a + m ≤ l.length) : ∃ A K B : List Int, l = A ++ (K ++ B) ∧ a = A.length ∧ m = K.length :=
  ⟨l.take a, (l.drop a).take m, (l.drop a).drop m, by rw [List.take_append_drop, List.take_append_drop], by simp; omega, by simp; omega⟩

theorem t_take (A X : List Int) : List.take A.length (List.map eI A ++ X.map eI) = List.map eI A := by rw [List.take_append_of_le_length (by simp)]; exact List.take_of_length_le (by simp)
theorem t_drop (A K B : List Int) : List.drop (A.length + K.length) (List.map eI A ++ (List.map eI K ++ List.map eI B)) = List.map eI B := by
  rw [← List.append_assoc]; exact List.drop_left' (by simp)
theorem rem_app (A K B : List Int) : rem (A ++ (K ++ B)) A.length K.length = A ++ B := by
  unfold rem; rw [← List.append_assoc, List.drop_left' (by simp), List.append_assoc, List.take_left' rfl]

theorem rrem_core (h69 : C.fns.get 69 = some w69) (le : Bool) (A K B : List Int) (hl : A.length + (K.length + B.length) ≤ 4096) :
    FnW C 69 [L1 (A ++ (K ++ B)) le, .int .i64 A.length, .int .i64 K.length] = some (.tup [L1 (A ++ B) (A.isEmpty && B.isEmpty), .int .i64 0]) := by
  rw [fnW_eq h69 rfl]
  have t1 := t_take A (K ++ B)
  have t2 := t_drop A K B
  have k1 : ¬ (A.length : Int) + (K.length + B.length) < A.length := by omega
  have k2 : ¬ (A.length : Int) + (K.length + B.length) - A.length < K.length := by omega
  have k3 : A.length ≤ A.length + (K.length + B.length) := by omega
  have k4 : A.length + K.length ≤ A.length + (K.length + B.length) := by omega
  have hfit : A.length * 9 ≤ 35184372088832 := by omega
  have hfit2 : (A.length + B.length) * 9 ≤ 35184372088832 := by omega
  have hfit3 : B.length * 9 ≤ 35184372088832 := by omega
  rw [List.map_append] at t1
  by_cases hA : A = []
  · subst hA
    simp at t1 t2
    by_cases hB : B = []
    · subst hB
      simp (disch := omega) [w69, wI64]
    · have k5 : ¬ (K.length : Int) + B.length < K.length := by omega
      have k6 : (0 : Int) ≤ (K.length : Int) + B.length := by omega
      simp (disch := (first | omega | (simp; done) | (simp; omega))) [w69, wI64, t1, t2, k5, k6, hfit3, hB, isE hB, List.take_of_length_le]
  · by_cases hB : B = []
    · subst hB
      simp at t1 t2
      have k5 : ¬ (A.length : Int) + K.length - A.length < K.length := by omega
      have k6 : (A.length : Int) ≤ (A.length : Int) + K.length := by omega
      simp (disch := (first | omega | (simp; done) | (simp; omega))) [w69, wI64, t1, t2, k5, k6, hfit, hA, isE hA, List.take_of_length_le]
    · simp (disch := (first | omega | (simp; done) | (simp; omega))) [w69, wI64, t1, t2, k1, k2, k3, k4, hfit, hfit2, hA, hB, isE hA, List.take_of_length_le]

theorem rrem_ok (h69 : C.fns.get 69 = some w69) (l : List Int) (le : Bool) (a m : Int) (hl : l.length ≤ 4096) : ∃ ex, FnW C 69 [L1 l le, .int .i64 a, .int .i64 m] =
    some (.tup (if a < 0 ∨ m < 0 ∨ (l.length : Int) < a ∨ (l.length : Int) - a < m then [.ro 1 [] true, .int .i64 4] else [L1 (rem l a.toNat m.toNat) ex, .int .i64 0])) := by
  by_cases c1 : a < 0
  · exact ⟨true, by rw [fnW_eq h69 rfl]; simp [w69, c1]⟩
  · by_cases c2 : m < 0
    · exact ⟨true, by rw [fnW_eq h69 rfl]; simp [w69, c1, c2]⟩
    · by_cases c3 : (l.length : Int) < a
      · exact ⟨true, by rw [fnW_eq h69 rfl]; simp [w69, c1, c2, c3]⟩
      · by_cases c4 : (l.length : Int) - a < m
        · exact ⟨true, by rw [fnW_eq h69 rfl]; simp (disch := omega) [w69, c1, c2, c3, c4, wI64]⟩
        · obtain ⟨a, rfl⟩ : ∃ k : Nat, a = k := ⟨a.toNat, by omega⟩
          obtain ⟨m, rfl⟩ : ∃ k : Nat, m = k := ⟨m.toNat, by omega⟩
          obtain ⟨A, K, B, rfl, rfl, rfl⟩ := split3 l a m (by omega)
          refine ⟨A.isEmpty && B.isEmpty, ?_⟩
          rw [if_neg (fun q => by rcases q with q | q | q | q <;> contradiction), rrem_core h69 le A K B (by simpa using hl), Int.toNat_natCast, Int.toNat_natCast, rem_app]

theorem t_mid (A K B : List Int) : List.drop A.length (List.map eI A ++ (List.map eI K ++ List.map eI B)) = List.map eI K ++ List.map eI B := List.drop_left' (by simp)

theorem rmov_core (h69 : C.fns.get 69 = some w69) (h70 : C.fns.get 70 = some w70) (hi : ∀ f, f ≠ 57 → C.inl f = false) (hp : C.pp = fun f => decide (f = 73)) (le : Bool) (A K B : List Int) (hl : A.length + (K.length + B.length) ≤ 4096)
    (R S : List Int) (hR : A ++ B = R ++ S) :
    FnW C 70 [L1 (A ++ (K ++ B)) le, .int .i64 A.length, .int .i64 K.length, .int .i64 R.length] = some (.tup [L1 (R ++ (K ++ S)) (R.isEmpty && (K.isEmpty && S.isEmpty)), .int .i64 0]) := by
  rw [fnW_eq h70 rfl]
  have hr := rrem_core h69 le A K B hl
  rw [hR] at hr
  generalize (A.isEmpty && B.isEmpty) = rx at hr
  have hlen : A.length + B.length = R.length + S.length := by have := congrArg List.length hR; simpa using this
  have t1 := t_take R S
  have t2 : List.drop R.length (List.map eI R ++ List.map eI S) = List.map eI S := List.drop_left' (by simp)
  have t3 := t_mid A K B
  have t4 : List.take K.length (List.map eI K ++ List.map eI B) = List.map eI K := t_take K B
  have t5 : List.drop A.length (List.take (A.length + K.length) (List.map eI A ++ (List.map eI K ++ List.map eI B))) = List.map eI K := by
    rw [← List.append_assoc, List.take_left' (by simp), List.drop_left' (by simp)]
  have k1 : ¬ (R.length : Int) + S.length < R.length := by omega
  have k3 : R.length ≤ R.length + S.length := by omega
  have k4 : A.length + K.length ≤ A.length + (K.length + B.length) := by omega
  have k5 : A.length ≤ A.length + K.length := by omega
  have f1 : R.length * 9 ≤ 35184372088832 := by omega
  have f2 : (R.length + K.length) * 9 ≤ 35184372088832 := by omega
  have f3 : (R.length + K.length + S.length) * 9 ≤ 35184372088832 := by omega
  have f8 : (R.length + (K.length + S.length)) * 9 ≤ 35184372088832 := by omega
  have f4 : K.length * 9 ≤ 35184372088832 := by omega
  have f5 : (R.length + S.length) * 9 ≤ 35184372088832 := by omega
  have f6 : (K.length + S.length) * 9 ≤ 35184372088832 := by omega
  have f7 : S.length * 9 ≤ 35184372088832 := by omega
  by_cases cR : R = [] <;> by_cases cK : K = [] <;> by_cases cS : S = [] <;> (try subst cR) <;> (try subst cK) <;> (try subst cS) <;> simp [L1] at hr t1 t2 t3 t4 t5 k3 k4 k5
  · simp (disch := (first | omega | (simp; done) | (simp; omega))) [w70, hi, hp, hr, wI64]
  · simp (disch := (first | omega | (simp; done) | (simp; omega))) [w70, hi, hp, hr, wI64, k1, Nat.add_assoc, t1, t2, t3, t4, t5, f7, cS, isE cS, List.take_of_length_le]
  · simp (disch := (first | omega | (simp; done) | (simp; omega))) [w70, hi, hp, hr, wI64, k1, Nat.add_assoc, t1, t2, t3, t4, t5, f4, cK, isE cK, List.take_of_length_le]
  · simp (disch := (first | omega | (simp; done) | (simp; omega))) [w70, hi, hp, hr, wI64, k1, Nat.add_assoc, t1, t2, t3, t4, t5, f4, f6, cK, cS, isE cK, List.take_of_length_le]
  · simp (disch := (first | omega | (simp; done) | (simp; omega))) [w70, hi, hp, hr, wI64, k1, Nat.add_assoc, t1, t2, t3, t4, t5, f1, cR, isE cR, List.take_of_length_le]
  · simp (disch := (first | omega | (simp; done) | (simp; omega))) [w70, hi, hp, hr, wI64, k1, Nat.add_assoc, t1, t2, t3, t4, t5, f1, f5, cR, cS, isE cR, List.take_of_length_le]
  · simp (disch := (first | omega | (simp; done) | (simp; omega))) [w70, hi, hp, hr, wI64, k1, Nat.add_assoc, t1, t2, t3, t4, t5, f1, f2, cR, cK, isE cR, List.take_of_length_le]
  · simp (disch := (first | omega | (simp; done) | (simp; omega))) [w70, hi, hp, hr, wI64, k1, Nat.add_assoc, t1, t2, t3, t4, t5, f1, f2, f3, f8, cR, cK, cS, isE cR, List.take_of_length_le]

theorem rmov_ok (h69 : C.fns.get 69 = some w69) (h70 : C.fns.get 70 = some w70) (hi : ∀ f, f ≠ 57 → C.inl f = false) (hp : C.pp = fun f => decide (f = 73)) (l : List Int) (le : Bool) (a m t : Int) (hl : l.length ≤ 4096) : ∃ ex, FnW C 70 [L1 l le, .int .i64 a, .int .i64 m, .int .i64 t] =
    some (.tup (if a < 0 ∨ m < 0 ∨ (l.length : Int) < a ∨ (l.length : Int) - a < m ∨ t < 0 ∨ (l.length : Int) - m < t then [.ro 1 [] true, .int .i64 4] else [L1 (mov l a.toNat m.toNat t.toNat) ex, .int .i64 0])) := by
  obtain ⟨rx, hr⟩ := rrem_ok h69 l le a m hl
  by_cases c : a < 0 ∨ m < 0 ∨ (l.length : Int) < a ∨ (l.length : Int) - a < m
  · refine ⟨true, ?_⟩
    rw [if_pos c] at hr
    rw [if_pos (by rcases c with c | c | c | c; exact .inl c; exact .inr (.inl c); exact .inr (.inr (.inl c)); exact .inr (.inr (.inr (.inl c)))), fnW_eq h70 rfl]
    simp [w70, hi, hp, hr]
  · rw [if_neg c] at hr
    simp only [not_or] at c
    obtain ⟨c1, c2, c3, c4⟩ := c
    by_cases c5 : t < 0
    · refine ⟨true, ?_⟩
      rw [if_pos (.inr (.inr (.inr (.inr (.inl c5))))), fnW_eq h70 rfl]
      simp [w70, hi, hp, hr, c5]
    · have hlen : (rem l a.toNat m.toNat).length = l.length - m.toNat := by simp [rem]; omega
      by_cases c6 : (l.length : Int) - m < t
      · refine ⟨true, ?_⟩
        rw [if_pos (.inr (.inr (.inr (.inr (.inr c6))))), fnW_eq h70 rfl]
        have k : ((rem l a.toNat m.toNat).length : Int) < t := by omega
        simp [w70, hi, hp, hr, c5, k]
      · have hno : ¬ (a < 0 ∨ m < 0 ∨ (l.length : Int) < a ∨ (l.length : Int) - a < m ∨ t < 0 ∨ (l.length : Int) - m < t) := by omega
        simp only [if_neg hno]
        clear hno
        obtain ⟨a, rfl⟩ : ∃ k : Nat, a = k := ⟨a.toNat, by omega⟩
        obtain ⟨m, rfl⟩ : ∃ k : Nat, m = k := ⟨m.toNat, by omega⟩
        obtain ⟨t, rfl⟩ : ∃ k : Nat, t = k := ⟨t.toNat, by omega⟩
        obtain ⟨A, K, B, rfl, rfl, rfl⟩ := split3 l a m (by omega)
        simp only [Int.toNat_natCast] at *
        have ht : t ≤ (A ++ B).length := by rw [rem_app] at hlen; omega
        have hR : A ++ B = (A ++ B).take t ++ (A ++ B).drop t := (List.take_append_drop _ _).symm
        have htl : ((A ++ B).take t).length = t := by rw [List.length_take]; omega
        have := rmov_core h69 h70 hi hp le A K B (by simpa using hl) _ _ hR
        rw [htl] at this
        have hmov : mov (A ++ (K ++ B)) A.length K.length t = (A ++ B).take t ++ (K ++ (A ++ B).drop t) := by
          unfold mov
          rw [rem_app, List.drop_left' rfl, List.take_left' rfl]
        rw [hmov]
        exact ⟨_, this⟩
end Go.C09
end

section
set_option linter.unusedSimpArgs false
set_option linter.unusedVariables false
/- What the law's data stands for. No conditions beyond those that each theorem names. -/
namespace Go.C09
open Go Go.Pav Go.Pw P09
set_option maxRecDepth 10000
set_option maxHeartbeats 4000000
set_option linter.unusedSimpArgs false
set_option linter.unusedVariables false
attribute [-simp] List.getElem_cons_drop
variable {C : WProg}

structure St4 where
  (a b c d : Int)
@[simp] def e4 (s : St4) : List AV := [.int .u8 s.a, .int .u8 s.b, .int .u8 s.c, .int .u8 s.d]
def Byte (x : Int) : Prop := 0 ≤ x ∧ x ≤ 255
def B4 (s : St4) : Prop := Byte s.a ∧ Byte s.b ∧ Byte s.c ∧ Byte s.d

/-- One change. -/
def chg (s : St4) (l : List Int) : List Int :=
  let at_ := s.b % (l.length + 1)
  let many := if 0 < s.a % 3 then min (s.c % 6) (l.length - at_) else s.c % 6
  let to := s.d % (l.length - min many l.length + 1)
  if s.a % 3 = 0 then ins l at_.toNat many.toNat else if s.a % 3 = 1 then rem l at_.toNat many.toNat else mov l at_.toNat many.toNat to.toNat
def chgs (ss : List St4) (l : List Int) : List Int := (ss.take 12).foldl (fun l s => chg s l) l

structure Fns (C : WProg) : Prop where
  f61 : C.fns.get 61 = some w61
  f63 : C.fns.get 63 = some w63
  f64 : C.fns.get 64 = some w64
  f68 : C.fns.get 68 = some w68
  f69 : C.fns.get 69 = some w69
  f70 : C.fns.get 70 = some w70
  inl : ∀ f, f ≠ 57 → C.inl f = false
  pp : C.pp = fun f => decide (f = 73)

theorem ins_len (l : List Int) (a m : Nat) (h : a ≤ l.length) : (ins l a m).length = l.length + m := by simp [ins]; omega
theorem rem_len (l : List Int) (a m : Nat) : (rem l a m).length ≤ l.length := by simp [rem]; omega
theorem mov_len (l : List Int) (a m t : Nat) (h : a + m ≤ l.length) : (mov l a m t).length ≤ l.length := by simp [mov, rem]; omega

theorem chg_eq (s : St4) (l : List Int) (hs : B4 s) : ∃ a m t : Nat, a ≤ l.length ∧ m ≤ 5 ∧ ((chg s l = ins l a m) ∨ (a + m ≤ l.length ∧ (chg s l = rem l a m ∨ chg s l = mov l a m t ∧ t ≤ l.length - m))) := by
  obtain ⟨⟨a1, a2⟩, ⟨b1, b2⟩, ⟨c1, c2⟩, ⟨d1, d2⟩⟩ := hs
  have h1 : (0 : Int) ≤ s.b % (l.length + 1) := Int.emod_nonneg _ (by omega)
  have h2 : s.b % ((l.length : Int) + 1) < l.length + 1 := Int.emod_lt_of_pos _ (by omega)
  unfold chg
  simp only
  by_cases h : s.a % 3 = 0
  · have h0 : ¬ 0 < s.a % 3 := by omega
    refine ⟨(s.b % (l.length + 1)).toNat, (s.c % 6).toNat, 0, by omega, by omega, .inl ?_⟩
    simp only [if_pos h, if_neg h0]
  · have h0 : 0 < s.a % 3 := by omega
    simp only [if_neg h, if_pos h0]
    obtain ⟨m, hm⟩ : ∃ m : Int, min (s.c % 6) ((l.length : Int) - s.b % (l.length + 1)) = m := ⟨_, rfl⟩
    have hm1 : 0 ≤ m ∧ m ≤ 5 ∧ m ≤ (l.length : Int) - s.b % (l.length + 1) := by omega
    rw [hm]
    obtain ⟨t, ht⟩ : ∃ t : Int, s.d % ((l.length : Int) - min m l.length + 1) = t := ⟨_, rfl⟩
    have hmm : min m (l.length : Int) = m := by omega
    have ht1 : 0 ≤ t := by rw [← ht]; exact Int.emod_nonneg _ (by omega)
    have ht2 : t < (l.length : Int) - m + 1 := by rw [← ht, hmm]; exact Int.emod_lt_of_pos _ (by omega)
    rw [ht]
    refine ⟨(s.b % (l.length + 1)).toNat, m.toNat, t.toNat, by omega, by omega, .inr ⟨by omega, ?_⟩⟩
    by_cases h3 : s.a % 3 = 1
    · simp only [if_pos h3]; exact .inl trivial
    · simp only [if_neg h3]; exact .inr ⟨trivial, by omega⟩

theorem chg_len (s : St4) (l : List Int) (hs : B4 s) : (chg s l).length ≤ l.length + 5 := by
  obtain ⟨a, m, t, h1, h2, h | ⟨h3, h | ⟨h, _⟩⟩⟩ := chg_eq s l hs <;> rw [h]
  · rw [ins_len l a m h1]; omega
  · have := rem_len l a m; omega
  · have := mov_len l a m t h3; omega

theorem after_loop (F : Fns C) (N : Int) (ss : List St4) (se : Bool) (hs : ∀ s ∈ ss, B4 s) : ∀ n i, n + i = min ss.length 12 → ∀ (l : List Int) (le : Bool), l.length + 5 * n ≤ 4000 →
    ∃ ex, w64_K0 C ⟨[(5, .int .i64 i), (2, .ptr 0 0 0), (1, L1 l le)], [(0, .cells 2 [[.int .u8 N, .ro 4 (ss.map e4) se]] true true)], 1⟩ = some (L1 (((ss.drop i).take n).foldl (fun l s => chg s l) l) ex) := by
  intro n
  induction n with
  | zero =>
    intro i hi l le hl
    refine ⟨le, ?_⟩
    simp only [w64_K0]; rw [ck_unf w64_B0.eq_1]
    by_cases h : i < ss.length
    · have h2 : ¬ (i : Int) < 12 := by omega
      simp [ck_unf w64_c0.eq_1, h, h2]
    · simp [ck_unf w64_c0.eq_1, h]
  | succ n ih =>
    intro i hi l le hl
    have h1 : i < ss.length := by omega
    have h2 : (i : Int) < 12 := by omega
    have hb := hs _ (List.getElem_mem h1)
    obtain ⟨⟨a1, a2⟩, ⟨b1, b2⟩, ⟨c1, c2⟩, ⟨d1, d2⟩⟩ := hb
    have g1 : (0 : Int) ≤ ss[i].b % (l.length + 1) := Int.emod_nonneg _ (by omega)
    have g2 : ss[i].b % ((l.length : Int) + 1) < l.length + 1 := Int.emod_lt_of_pos _ (by omega)
    have hlen := chg_len ss[i] l ⟨⟨a1, a2⟩, ⟨b1, b2⟩, ⟨c1, c2⟩, ⟨d1, d2⟩⟩
    have hn : ∀ lx, ∃ ex, w64_K0 C ⟨[(5, .int .i64 (i + 1 : Nat)), (2, .ptr 0 0 0), (1, L1 (chg ss[i] l) lx)], [(0, .cells 2 [[.int .u8 N, .ro 4 (ss.map e4) se]] true true)], 1⟩ = some (L1 (((ss.drop i).take (n + 1)).foldl (fun l s => chg s l) l) ex) := by
      intro lx
      obtain ⟨ex, h⟩ := ih (i + 1) (by omega) (chg ss[i] l) lx (by omega)
      refine ⟨ex, ?_⟩
      rw [h, drop_cons h1, List.take_succ_cons, List.foldl_cons]
    generalize (((ss.drop i).take (n + 1)).foldl (fun l s => chg s l) l) = R at hn
    by_cases k0 : ss[i].a % 3 = 0
    · obtain ⟨lx, hx⟩ := rins_ok F.f68 l le (ss[i].b % (l.length + 1)) (ss[i].c % 6) (by omega) (by omega)
      rw [if_neg (by omega), if_neg (by omega)] at hx
      have hc : chg ss[i] l = ins l (ss[i].b % (l.length + 1)).toNat (ss[i].c % 6).toNat := by
        unfold chg; simp [k0]
      obtain ⟨ex, h⟩ := hn lx
      refine ⟨ex, ?_⟩
      rw [hc] at h
      simp only [w64_K0] at h ⊢; rw [ck_unf w64_B0.eq_1]
      simp at h
      have k1 : ¬ (l.length : Int) + 1 = 0 := by omega
      obtain ⟨t, ht⟩ : ∃ t : Int, (l.length : Int) - imin (ss[i].c % 6) l.length + 1 = t := ⟨_, rfl⟩
      have ht0 : ¬ t = 0 := by unfold imin at ht; split at ht <;> omega
      have ht1 : 0 < t ∧ t ≤ 4097 := by unfold imin at ht; split at ht <;> omega
      simp (disch := omega) [h1, h2, wI64, wU8, Int.tmod_eq_emod_of_nonneg, k0, k1, F.inl, F.pp, hx, ht, ht0]
      exact h
    · have hm3 : 0 < ss[i].a % 3 := by omega
      obtain ⟨m, hm⟩ : ∃ m : Int, min (ss[i].c % 6) ((l.length : Int) - ss[i].b % (l.length + 1)) = m := ⟨_, rfl⟩
      have hm1 : 0 ≤ m ∧ m ≤ 5 ∧ m ≤ (l.length : Int) - ss[i].b % (l.length + 1) := by omega
      have hmi : imin (ss[i].c % 6) ((l.length : Int) - ss[i].b % (l.length + 1)) = m := by unfold imin; split <;> omega
      have hmi2 : imin m l.length = m := by unfold imin; split <;> omega
      have hmm : min m (l.length : Int) = m := by omega
      obtain ⟨t, ht⟩ : ∃ t : Int, ss[i].d % ((l.length : Int) - m + 1) = t := ⟨_, rfl⟩
      have ht1 : 0 ≤ t := by rw [← ht]; exact Int.emod_nonneg _ (by omega)
      have ht2 : t < (l.length : Int) - m + 1 := by rw [← ht]; exact Int.emod_lt_of_pos _ (by omega)
      have ht0 : ¬ (l.length : Int) - m + 1 = 0 := by omega
      have k1 : ¬ (l.length : Int) + 1 = 0 := by omega
      by_cases k2 : ss[i].a % 3 = 1
      · obtain ⟨lx, hx⟩ := rrem_ok F.f69 l le (ss[i].b % (l.length + 1)) m (by omega)
        rw [if_neg (by omega)] at hx
        have hc : chg ss[i] l = rem l (ss[i].b % (l.length + 1)).toNat m.toNat := by
          unfold chg; simp [k2, hm]
        obtain ⟨ex, h⟩ := hn lx
        refine ⟨ex, ?_⟩
        rw [hc] at h
        simp only [w64_K0] at h ⊢; rw [ck_unf w64_B0.eq_1]
        simp at h
        simp (disch := omega) [h1, h2, wI64, wU8, Int.tmod_eq_emod_of_nonneg, k0, k1, k2, F.inl, F.pp, hx, hmi, hmi2, ht, ht0]
        exact h
      · have k3 : ss[i].a % 3 = 2 := by omega
        obtain ⟨lx, hx⟩ := rmov_ok F.f69 F.f70 F.inl F.pp l le (ss[i].b % (l.length + 1)) m t (by omega)
        rw [if_neg (by omega)] at hx
        have hc : chg ss[i] l = mov l (ss[i].b % (l.length + 1)).toNat m.toNat t.toNat := by
          unfold chg; simp [k3, hm, hmm, ht]
        obtain ⟨ex, h⟩ := hn lx
        refine ⟨ex, ?_⟩
        rw [hc] at h
        simp only [w64_K0] at h ⊢; rw [ck_unf w64_B0.eq_1]
        simp at h
        simp (disch := omega) [h1, h2, wI64, wU8, Int.tmod_eq_emod_of_nonneg, k0, k1, k3, F.inl, F.pp, hx, hmi, hmi2, ht, ht0]
        exact h

theorem after_ok (F : Fns C) (N : Int) (ss : List St4) (se : Bool) (hs : ∀ s ∈ ss, B4 s) (l : List Int) (le : Bool) (hl : l.length ≤ 3000) :
    ∃ ex, FnW C 64 [.agg [.int .u8 N, .ro 4 (ss.map e4) se], L1 l le] = some (L1 (chgs ss l) ex) := by
  obtain ⟨ex, h⟩ := after_loop F N ss se hs (min ss.length 12) 0 rfl l le (by omega)
  refine ⟨ex, ?_⟩
  rw [fnW_eq F.f64 rfl]
  simp only [w64_K0] at h
  have h2 : (ss.drop 0).take (min ss.length 12) = ss.take 12 := by
    rw [List.drop_zero]
    by_cases q : ss.length ≤ 12
    · rw [Nat.min_eq_left q, List.take_of_length_le (Nat.le_refl _), List.take_of_length_le q]
    · rw [Nat.min_eq_right (by omega)]
  rw [h2] at h
  unfold chgs
  generalize (ss.take 12).foldl (fun l s => chg s l) l = R at h ⊢
  simp at h
  simp [w64, h]

theorem of_ok (F : Fns C) (N : Int) (hN : Byte N) (ss : List St4) (se : Bool) (hs : ∀ s ∈ ss, B4 s) :
    ∃ ex, FnW C 61 [.agg [.int .u8 N, .ro 4 (ss.map e4) se]] = some (eM (N % 31) (chgs ss (mapR id (N % 31))) ex) := by
  obtain ⟨n1, n2⟩ := hN
  have h1 := rsame_ok F.f63 (N % 31) (by omega) (by omega)
  obtain ⟨ex, h2⟩ := after_ok F N ss se hs (mapR id (N % 31)) false (by simp [mapR]; omega)
  refine ⟨ex, ?_⟩
  rw [fnW_eq F.f61 rfl]
  simp (disch := omega) [w61, F.inl, F.pp, Int.tmod_eq_emod_of_nonneg, wI64, wU8, h1, h2]
end Go.C09
end

section
set_option linter.unusedSimpArgs false
set_option linter.unusedVariables false
/- The examples of the chapter. No conditions beyond those that each theorem names. -/
namespace Go.C09
open Go Go.Pav Go.Pw P09
set_option maxRecDepth 10000
set_option maxHeartbeats 4000000
set_option linter.unusedSimpArgs false
set_option linter.unusedVariables false
attribute [-simp] List.getElem_cons_drop
variable {C : WProg} (H : Has C)
include H

structure Fns2 (C : WProg) : Prop where
  f49 : C.fns.get 49 = some w49
  f51 : C.fns.get 51 = some w51
  f58 : C.fns.get 58 = some w58
  f59 : C.fns.get 59 = some w59
  f60 : C.fns.get 60 = some w60
  f50 : C.fns.get 50 = some w50
  f71 : C.fns.get 71 = some w71
  f72 : C.fns.get 72 = some w72

theorem ofM_ok (F : Fns2 C) (o : Int) (f : List Int) (e : Bool) : FnW C 51 [.int .i64 o, L1 f e] = some (eM o f e) := by
  have _h := H
  rw [fnW_eq F.f51 rfl]
  simp [w51]

theorem carryS_ok (F : Fns2 C) : FnW C 72 [eM 3 [2, -1, 0] true, .ro 1 [[.str [97]], [.str [98]], [.str [99]]] true] = some (.tup [.ro 1 [[.str [99]], [.str []], [.str [97]]] true, .int .i64 0]) := by
  have h1 := check_ok H 3 [2, -1, 0] true
  have h2 : chk 3 [2, -1, 0] = 0 := by decide
  rw [h2] at h1
  simp [L1, eM] at h1
  rw [fnW_eq F.f72 rfl]
  simp [w72, H.inl, H.pp, h1, fits]
  rw [ck_unf w72_B0.eq_1]
  simp (disch := omega) [wI64]
  rw [ck_unf w72_B0.eq_1]
  simp (disch := omega) [wI64]
  rw [ck_unf w72_B0.eq_1]
  simp (disch := omega) [wI64]
  rw [ck_unf w72_B0.eq_1]
  simp (disch := omega) [wI64, ck_unf w72_c0.eq_1]

theorem lives_ok (F : Fns2 C) : FnW C 49 [] = some (.bool true) := by
  have a1 := inserted_ok H 3 1 2 (by decide)
  have a2 := removed_ok H 4 1 2
  have a3 := moved_ok H 4 0 1 2
  have a4 := removed_ok H 5 0 2
  have d1 : mapR (gIns 1 2) (3 + 2) = [0, -1, -1, 1, 2] := by decide
  have d2 : mapR (gRem 1 2) (4 - 2) = [0, 3] := by decide
  have d3 : mapR (gMov 0 1 2) 4 = [1, 2, 0, 3] := by decide
  have d4 : mapR (gRem 0 2) (5 - 2) = [2, 3, 4] := by decide
  have o1 : outB 4 1 2 = false := by decide
  have o2 : outB 4 0 1 = false := by decide
  have o3 : outB 5 0 2 = false := by decide
  rw [d1] at a1; rw [d2, o1] at a2; rw [d3, o2] at a3; rw [d4, o3] at a4
  have b1 := compose_ok H 3 [0, -1, -1, 1, 2] true 5 [2, 3, 4] true
  have e1 : chk 3 [0, -1, -1, 1, 2] = 0 := by decide
  have e2 : chk 5 [2, 3, 4] = 0 := by decide
  have e3 : cmp [0, -1, -1, 1, 2] [2, 3, 4] = [-1, 1, 2] := by decide
  rw [e1, e2, e3] at b1
  have b2 := invert_ok H 4 [0, 3] true
  have e4 : chk 4 [0, 3] = 0 := by decide
  have e5 : mapR (pos [0, 3]) 4 = [0, -1, -1, 1] := by decide
  rw [e4, e5] at b2
  have b3 := at_ok H 4 [0, 3] true 3
  have b4 := at_ok H 4 [0, 3] true 1
  have e6 : pos [0, 3] 3 = 1 := by decide
  have e7 : pos [0, 3] 1 = -1 := by decide
  rw [e4, e6] at b3; rw [e4, e7] at b4
  have b5 := gone_ok H 4 [0, 3] true
  have e8 : negs 0 (mapR (pos [0, 3]) 4) = [1, 2] := by decide
  rw [e4, e8] at b5
  have b6 := carryS_ok H F
  have b7 := compose_ok H 2 [0] true 2 [0] true
  have e9 : chk 2 [0] = 0 := by decide
  rw [e9] at b7
  have b8 := check_ok H 2 [0, 0] true
  have b9 := check_ok H 2 [2] true
  have e10 : chk 2 [0, 0] = 8 := by decide
  have e11 : chk 2 [2] = 4 := by decide
  rw [e10] at b8; rw [e11] at b9
  have q1 := eqM_ok H F.f59 F.f58 3 [0, -1, -1, 1, 2] [0, -1, -1, 1, 2] true 0 3 0 (by decide)
  have q2 := eqM_ok H F.f59 F.f58 4 [0, 3] [0, 3] true 0 4 0 (by decide)
  have q3 := eqM_ok H F.f59 F.f58 4 [1, 2, 0, 3] [1, 2, 0, 3] true 0 4 0 (by decide)
  have q4 := eqM_ok H F.f59 F.f58 3 [-1, 1, 2] [-1, 1, 2] true 0 3 0 (by decide)
  have q5 := eqM_ok H F.f59 F.f58 2 [0, -1, -1, 1] [0, -1, -1, 1] true 0 2 0 (by decide)
  have q6 := list_ok F.f59 [1, 2] [1, 2] true 0 0 (by decide)
  have m1 := ofM_ok H F 3 [2, -1, 0] true
  have m2 := ofM_ok H F 2 [0] true
  have m3 := ofM_ok H F 2 [0, 0] true
  have m4 := ofM_ok H F 2 [2] true
  simp [L1, eM] at a1 a2 a3 a4 b1 b2 b3 b4 b5 b6 b7 b8 b9 q1 q2 q3 q4 q5 q6 m1 m2 m3 m4
  rw [fnW_eq F.f49 rfl]
  simp [w49, H.inl, H.pp, a1, a2, a3, a4, b1, b2, b3, b4, b5, b6, b7, b8, b9, q1, q2, q3, q4, q5, q6, m1, m2, m3, m4]
end Go.C09
end

