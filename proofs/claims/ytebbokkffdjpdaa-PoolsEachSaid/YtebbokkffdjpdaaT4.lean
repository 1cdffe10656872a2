/- Part of the theory that the claims of this work use: PwP21, PavLink, L21, PwLib, C21, C21b, C21c, C21d, C21e, C21f, C21g, PwGlue, G21e, C21h, C21i, C21k, C21l, C21m. No conditions of its own. -/
import Derived.Test.YtebbokkffdjpdaaT3
import Derived.Test.YtebbokkffdjpdaaChecked
import Derived.KernelRfl
import Derived.ChangeSame
import Derived.ChangeArms
import Derived.ReadAgain
import Derived.Handed
import Derived.JoinedOf
import Derived.RowKit
import Derived.Test.YtebbokkffdjpdaaRows
import Derived.ProofKit
section
set_option linter.unusedSimpArgs false
set_option linter.unusedVariables false
set_option maxRecDepth 100000
namespace P21
open Go Go.Pav Go.Pw

/- gosem.cut.init -/
def w0 : WFn := ⟨0, [],
 (.ops [
   ⟨(some 0), none, .fail⟩] ⟨false, [], []⟩)⟩

/- paternoster/paternosterlaw21.PoolsPlay -/
def w1_c0 : WCode := (.seq (.ops [
    ⟨(some 180), none, (.call 18 [])⟩,
    ⟨(some 2), none, (.mv (.t 180))⟩] ⟨false, [], []⟩)
  .ret)

def w1_B0 : WCode := (.seq (.seq (.ops [
     ⟨(some 40), none, (.mv (.t 6))⟩,
     ⟨(some 41), none, (.fld 1 (.t 1))⟩,
     ⟨(some 42), none, (.load 1 false (.t 41))⟩,
     ⟨(some 43), none, (.len 1 (.t 42))⟩,
     ⟨(some 44), none, (.bin .lss (.t 40) (.t 43))⟩,
     ⟨(some 45), none, (.mv (.t 44))⟩,
     ⟨(some 46), (some (45, true)), (.mv (.t 6))⟩,
     ⟨(some 47), (some (45, true)), (.bin .lss (.t 46) (.c (.int .i64 30)))⟩,
     ⟨(some 48), none, (.pick (.t 45) (.t 47) (.c (.bool false)))⟩] ⟨true, [48, 6, 5, 3, 1], []⟩)
   (.cond (.t 48) .skip
    (.exit 0)))
  (.seq (.block 1 (.seq (.ops [
      ⟨(some 51), none, (.fld 1 (.t 1))⟩,
      ⟨(some 52), none, (.load 1 false (.t 51))⟩,
      ⟨(some 53), none, (.mv (.t 6))⟩,
      ⟨(some 54), none, (.idxs 3 (.t 52) (.t 53))⟩,
      ⟨(some 55), none, (.load 3 true (.t 54))⟩,
      ⟨(some 7), none, (.alloc [(.int .u8 0), (.int .u8 0), (.int .u8 0)])⟩,
      ⟨none, none, (.store 3 (.t 7) (.t 55))⟩] ⟨false, [], []⟩)
    (.seq (.ops [
      ⟨(some 56), none, (.fld 1 (.t 7))⟩,
      ⟨(some 57), none, (.load 1 false (.t 56))⟩,
      ⟨(some 58), none, (.cvt .i64 (.t 57))⟩,
      ⟨(some 59), none, (.fld 0 (.t 5))⟩,
      ⟨(some 60), none, (.load 1 false (.t 59))⟩,
      ⟨(some 61), none, (.len 1 (.t 60))⟩,
      ⟨(some 62), none, (.bin .rem (.t 58) (.t 61))⟩,
      ⟨(some 8), none, (.mv (.t 62))⟩] ⟨false, [], []⟩)
    (.seq (.draw [
      ⟨(some 63), none, (.load 2 true (.t 3))⟩,
      ⟨(some 64), none, (.load 2 true (.t 5))⟩,
      ⟨(some 9), none, (.alloc [(.ro 1 [] true), (.ro 1 [] true)])⟩,
      ⟨(some 10), none, (.alloc [(.ro 1 [] true), (.ro 1 [] true)])⟩,
      ⟨none, none, (.store 2 (.t 9) (.t 63))⟩,
      ⟨none, none, (.store 2 (.t 10) (.t 64))⟩] [(0, 2), (1, 2), (0, 3), (1, 3), (2, 3), (1, 4)] ⟨false, [], []⟩)
    (.seq (.ops [
      ⟨(some 11), none, (.mv (.c (.int .i64 0)))⟩] ⟨false, [], []⟩)
    (.seq (.ops [
      ⟨(some 12), none, (.mv (.c (.bool false)))⟩] ⟨false, [], []⟩)
    (.seq (.ops [
      ⟨(some 66), none, (.load 2 true (.t 5))⟩,
      ⟨(some 67), none, (.load 3 true (.t 7))⟩,
      ⟨(some 68), none, (.call 9 [(.t 66), (.t 67)])⟩,
      ⟨(some 65), none, (.mv (.t 68))⟩,
      ⟨(some 69), none, (.ext 0 (.t 65))⟩,
      ⟨(some 70), none, (.ext 1 (.t 65))⟩,
      ⟨(some 71), none, (.ext 2 (.t 65))⟩,
      ⟨(some 13), none, (.alloc [(.ro 1 [] true), (.ro 1 [] true)])⟩,
      ⟨none, none, (.store 2 (.t 13) (.t 69))⟩,
      ⟨(some 14), none, (.mv (.t 70))⟩,
      ⟨(some 15), none, (.mv (.t 71))⟩] ⟨true, [15, 14, 13, 12, 11, 10, 9, 8, 7, 6, 5, 3, 1], []⟩)
    (.seq (.ops [
      ⟨(some 72), none, (.load 2 true (.t 13))⟩,
      ⟨none, none, (.store 2 (.t 5) (.t 72))⟩] ⟨false, [], []⟩)
    (.seq (.block 2 (.seq (.ops [
        ⟨(some 97), none, (.fld 0 (.t 7))⟩,
        ⟨(some 98), none, (.load 1 false (.t 97))⟩,
        ⟨(some 99), none, (.bin .rem (.t 98) (.c (.int .u8 8)))⟩,
        ⟨(some 100), none, (.bin .lss (.t 99) (.c (.int .u8 4)))⟩,
        ⟨(some 96), none, (.mv (.t 100))⟩] ⟨false, [], []⟩)
      (.cond (.t 96) (.ops [
         ⟨(some 102), none, (.load 2 true (.t 3))⟩,
         ⟨(some 103), none, (.mv (.t 8))⟩,
         ⟨(some 104), none, (.fld 2 (.t 7))⟩,
         ⟨(some 105), none, (.load 1 false (.t 104))⟩,
         ⟨(some 106), none, (.cvt .i64 (.t 105))⟩,
         ⟨(some 107), none, (.call 10 [(.t 102), (.t 103), (.t 106)])⟩,
         ⟨(some 101), none, (.mv (.t 107))⟩,
         ⟨(some 108), none, (.ext 0 (.t 101))⟩,
         ⟨(some 109), none, (.ext 1 (.t 101))⟩,
         ⟨(some 110), none, (.ext 2 (.t 101))⟩,
         ⟨none, none, (.store 2 (.t 3) (.t 108))⟩,
         ⟨(some 12), none, (.mv (.t 109))⟩,
         ⟨(some 4), none, (.mv (.t 110))⟩] ⟨false, [], []⟩)
       (.seq (.ops [
          ⟨(some 112), none, (.fld 0 (.t 7))⟩,
          ⟨(some 113), none, (.load 1 false (.t 112))⟩,
          ⟨(some 114), none, (.bin .rem (.t 113) (.c (.int .u8 8)))⟩,
          ⟨(some 115), none, (.bin .lss (.t 114) (.c (.int .u8 7)))⟩,
          ⟨(some 111), none, (.mv (.t 115))⟩] ⟨false, [], []⟩)
        (.cond (.t 111) (.ops [
           ⟨(some 117), none, (.load 2 true (.t 3))⟩,
           ⟨(some 118), none, (.mv (.t 8))⟩,
           ⟨(some 119), none, (.call 11 [(.t 117), (.t 118)])⟩,
           ⟨(some 116), none, (.mv (.t 119))⟩,
           ⟨(some 120), none, (.ext 0 (.t 116))⟩,
           ⟨(some 121), none, (.ext 1 (.t 116))⟩,
           ⟨(some 122), none, (.ext 2 (.t 116))⟩,
           ⟨(some 123), none, (.ext 3 (.t 116))⟩,
           ⟨none, none, (.store 2 (.t 3) (.t 120))⟩,
           ⟨(some 11), none, (.mv (.t 121))⟩,
           ⟨(some 12), none, (.mv (.t 122))⟩,
           ⟨(some 4), none, (.mv (.t 123))⟩] ⟨true, [15, 14, 12, 11, 10, 9, 8, 6, 5, 4, 3, 1], []⟩)
         (.seq (.ops [
            ⟨(some 16), none, (.mv (.c (.ro 1 [] true)))⟩] ⟨false, [], []⟩)
          (.seq (.ops [
            ⟨(some 74), none, (.load 2 true (.t 3))⟩,
            ⟨(some 75), none, (.fld 2 (.t 7))⟩,
            ⟨(some 76), none, (.load 1 false (.t 75))⟩,
            ⟨(some 77), none, (.bin .rem (.t 76) (.c (.int .u8 4)))⟩,
            ⟨(some 78), none, (.cvt .i64 (.t 77))⟩,
            ⟨(some 79), none, (.call 12 [(.t 74), (.t 78)])⟩,
            ⟨(some 73), none, (.mv (.t 79))⟩,
            ⟨(some 80), none, (.ext 0 (.t 73))⟩,
            ⟨(some 81), none, (.ext 1 (.t 73))⟩,
            ⟨(some 82), none, (.ext 2 (.t 73))⟩,
            ⟨none, none, (.store 2 (.t 3) (.t 80))⟩,
            ⟨(some 16), none, (.mv (.t 81))⟩,
            ⟨(some 4), none, (.mv (.t 82))⟩] ⟨true, [16, 15, 14, 12, 11, 10, 9, 8, 7, 6, 5, 4, 3, 1], []⟩)
          (.seq (.ops [
            ⟨(some 84), none, (.load 2 true (.t 10))⟩,
            ⟨(some 85), none, (.fld 2 (.t 7))⟩,
            ⟨(some 86), none, (.load 1 false (.t 85))⟩,
            ⟨(some 87), none, (.bin .rem (.t 86) (.c (.int .u8 4)))⟩,
            ⟨(some 88), none, (.cvt .i64 (.t 87))⟩,
            ⟨(some 89), none, (.call 13 [(.t 84), (.t 88)])⟩,
            ⟨(some 83), none, (.mv (.t 89))⟩,
            ⟨(some 90), none, (.ext 0 (.t 83))⟩,
            ⟨(some 91), none, (.ext 1 (.t 83))⟩,
            ⟨(some 17), none, (.alloc [(.ro 1 [] true), (.ro 1 [] true)])⟩,
            ⟨none, none, (.store 2 (.t 17) (.t 90))⟩,
            ⟨(some 18), none, (.mv (.t 91))⟩] ⟨false, [], []⟩)
          (.seq (.ops [
            ⟨(some 92), none, (.mv (.t 16))⟩,
            ⟨(some 93), none, (.mv (.t 18))⟩,
            ⟨(some 94), none, (.call 14 [(.t 92), (.t 93)])⟩,
            ⟨(some 95), none, (.bin .eql (.t 94) (.c (.int .i64 0)))⟩] ⟨false, [], []⟩)
          (.cond (.t 95) (.seq (.ops [
              ⟨(some 2), none, (.mv (.c (.bool false)))⟩] ⟨false, [], []⟩)
            .ret)
           .skip))))))))) ⟨false, [], []⟩)
    (.seq (.seq (.ops [
       ⟨(some 124), none, (.mv (.t 4))⟩,
       ⟨(some 125), none, (.bin .neq (.t 124) (.c (.int .i64 0)))⟩,
       ⟨(some 126), none, (.mv (.t 125))⟩,
       ⟨(some 127), (some (126, false)), (.mv (.t 11))⟩,
       ⟨(some 128), (some (126, false)), (.mv (.t 14))⟩,
       ⟨(some 129), (some (126, false)), (.bin .neq (.t 127) (.t 128))⟩,
       ⟨(some 130), none, (.pick (.t 126) (.c (.bool true)) (.t 129))⟩,
       ⟨(some 131), none, (.mv (.t 130))⟩,
       ⟨(some 132), (some (131, false)), (.mv (.t 12))⟩,
       ⟨(some 133), (some (131, false)), (.mv (.t 15))⟩,
       ⟨(some 134), (some (131, false)), (.eqv 5 [] true (.t 132) (.t 133))⟩,
       ⟨(some 135), none, (.pick (.t 131) (.c (.bool true)) (.t 134))⟩,
       ⟨(some 136), none, (.mv (.t 135))⟩,
       ⟨(some 137), (some (136, false)), (.load 2 true (.t 3))⟩,
       ⟨(some 138), (some (136, false)), (.load 2 true (.t 5))⟩,
       ⟨(some 139), (some (136, false)), (.call 8 [(.t 137), (.t 138)])⟩,
       ⟨(some 140), (some (136, false)), (.bin .eql (.t 139) (.c (.int .i64 0)))⟩,
       ⟨(some 141), none, (.pick (.t 136) (.c (.bool true)) (.t 140))⟩,
       ⟨(some 142), none, (.mv (.t 141))⟩,
       ⟨(some 143), (some (142, false)), (.load 2 true (.t 9))⟩,
       ⟨(some 144), (some (142, false)), (.load 2 true (.t 10))⟩,
       ⟨(some 145), (some (142, false)), (.call 8 [(.t 143), (.t 144)])⟩,
       ⟨(some 146), (some (142, false)), (.bin .eql (.t 145) (.c (.int .i64 0)))⟩,
       ⟨(some 147), none, (.pick (.t 142) (.c (.bool true)) (.t 146))⟩] ⟨true, [147, 8, 6, 5, 3, 1], []⟩)
     (.cond (.t 147) (.seq (.ops [
         ⟨(some 2), none, (.mv (.c (.bool false)))⟩] ⟨false, [], []⟩)
       .ret)
      .skip))
    (.seq (.ops [
      ⟨(some 149), none, (.load 2 true (.t 3))⟩,
      ⟨(some 150), none, (.mv (.t 8))⟩,
      ⟨(some 151), none, (.call 15 [(.t 149), (.t 150)])⟩,
      ⟨(some 148), none, (.mv (.t 151))⟩,
      ⟨(some 152), none, (.ext 0 (.t 148))⟩,
      ⟨(some 153), none, (.ext 1 (.t 148))⟩,
      ⟨(some 19), none, (.mv (.t 152))⟩,
      ⟨(some 20), none, (.mv (.t 153))⟩] ⟨false, [], []⟩)
    (.seq (.ops [
      ⟨(some 155), none, (.load 2 true (.t 3))⟩,
      ⟨(some 156), none, (.call 16 [(.t 155)])⟩,
      ⟨(some 154), none, (.mv (.t 156))⟩,
      ⟨(some 157), none, (.ext 0 (.t 154))⟩,
      ⟨(some 158), none, (.ext 1 (.t 154))⟩,
      ⟨(some 21), none, (.mv (.t 157))⟩,
      ⟨(some 22), none, (.mv (.t 158))⟩] ⟨false, [], []⟩)
    (.seq (.ops [
      ⟨(some 159), none, (.mv (.t 20))⟩,
      ⟨(some 160), none, (.mv (.t 22))⟩,
      ⟨(some 161), none, (.bin .add (.t 159) (.t 160))⟩,
      ⟨(some 162), none, (.bin .neq (.t 161) (.c (.int .i64 0)))⟩,
      ⟨(some 163), none, (.mv (.t 162))⟩,
      ⟨(some 164), (some (163, false)), (.mv (.t 19))⟩,
      ⟨(some 165), (some (163, false)), (.fld 1 (.t 5))⟩,
      ⟨(some 166), (some (163, false)), (.load 1 false (.t 165))⟩,
      ⟨(some 167), (some (163, false)), (.mv (.t 8))⟩,
      ⟨(some 168), (some (163, false)), (.idxs 1 (.t 166) (.t 167))⟩,
      ⟨(some 169), (some (163, false)), (.load 1 false (.t 168))⟩,
      ⟨(some 170), (some (163, false)), (.len 1 (.t 169))⟩,
      ⟨(some 171), (some (163, false)), (.bin .neq (.t 164) (.t 170))⟩,
      ⟨(some 172), none, (.pick (.t 163) (.c (.bool true)) (.t 171))⟩,
      ⟨(some 173), none, (.mv (.t 172))⟩,
      ⟨(some 174), (some (173, false)), (.mv (.t 21))⟩,
      ⟨(some 175), (some (173, false)), (.load 2 true (.t 5))⟩,
      ⟨(some 176), (some (173, false)), (.call 17 [(.t 175)])⟩,
      ⟨(some 177), (some (173, false)), (.call 14 [(.t 174), (.t 176)])⟩,
      ⟨(some 178), (some (173, false)), (.bin .eql (.t 177) (.c (.int .i64 0)))⟩,
      ⟨(some 179), none, (.pick (.t 173) (.c (.bool true)) (.t 178))⟩] ⟨true, [179, 6, 5, 3, 1], []⟩)
    (.cond (.t 179) (.seq (.ops [
        ⟨(some 2), none, (.mv (.c (.bool false)))⟩] ⟨false, [], []⟩)
      .ret)
     .skip))))))))))))) ⟨false, [], []⟩)
  (.ops [
   ⟨(some 49), none, (.mv (.t 6))⟩,
   ⟨(some 50), none, (.bin .add (.t 49) (.c (.int .i64 1)))⟩,
   ⟨(some 6), none, (.mv (.t 50))⟩] ⟨false, [], []⟩)))
def w1_L0 : WCode := .loop ⟨true, [6, 5, 3, 1], []⟩ w1_B0
def w1 : WFn := ⟨1, [.tmp 2],
 (.seq (.ops [
    ⟨(some 1), none, (.box (.t 0))⟩,
    ⟨(some 2), none, (.mv (.c (.bool false)))⟩] ⟨false, [], []⟩)
  (.seq (.ops [
    ⟨(some 24), none, (.load 2 true (.t 1))⟩,
    ⟨(some 25), none, (.call 6 [(.t 24)])⟩,
    ⟨(some 26), none, (.call 5 [(.t 25)])⟩,
    ⟨(some 23), none, (.mv (.t 26))⟩,
    ⟨(some 27), none, (.ext 0 (.t 23))⟩,
    ⟨(some 28), none, (.ext 1 (.t 23))⟩,
    ⟨(some 3), none, (.alloc [(.ro 1 [] true), (.ro 1 [] true)])⟩,
    ⟨none, none, (.store 2 (.t 3) (.t 27))⟩,
    ⟨(some 4), none, (.mv (.t 28))⟩] ⟨true, [4, 3, 1], []⟩)
  (.seq (.ops [
    ⟨(some 29), none, (.load 2 true (.t 1))⟩,
    ⟨(some 30), none, (.call 6 [(.t 29)])⟩,
    ⟨(some 31), none, (.call 7 [(.t 30)])⟩,
    ⟨(some 5), none, (.alloc [(.ro 1 [] true), (.ro 1 [] true)])⟩,
    ⟨none, none, (.store 2 (.t 5) (.t 31))⟩] ⟨false, [], []⟩)
  (.seq (.seq (.ops [
     ⟨(some 32), none, (.mv (.t 4))⟩,
     ⟨(some 33), none, (.bin .neq (.t 32) (.c (.int .i64 0)))⟩,
     ⟨(some 34), none, (.mv (.t 33))⟩,
     ⟨(some 35), (some (34, false)), (.load 2 true (.t 3))⟩,
     ⟨(some 36), (some (34, false)), (.load 2 true (.t 5))⟩,
     ⟨(some 37), (some (34, false)), (.call 8 [(.t 35), (.t 36)])⟩,
     ⟨(some 38), (some (34, false)), (.bin .eql (.t 37) (.c (.int .i64 0)))⟩,
     ⟨(some 39), none, (.pick (.t 34) (.c (.bool true)) (.t 38))⟩] ⟨false, [], []⟩)
   (.cond (.t 39) (.seq (.ops [
       ⟨(some 2), none, (.mv (.c (.bool false)))⟩] ⟨false, [], []⟩)
     .ret)
    .skip))
  (.seq (.seq (.ops [
     ⟨(some 6), none, (.mv (.c (.int .i64 0)))⟩] ⟨false, [], []⟩)
   (.block 0 w1_L0 ⟨true, [], []⟩))
  w1_c0)))))⟩

@[simp] theorem w1_E0 {β : Type} {C : WProg} {b : Nat} {f : Ex × WSt → Option β} {k : List Pw.Frame} {s : WSt} : CK C b f k w1_L0 s = LK C b f (.sq w1_L0 :: k) w1_B0 (canon b ⟨true, [6, 5, 3, 1], []⟩ s) := ck_lp rfl
noncomputable abbrev w1_K0 (C : WProg) (s : WSt) : Option AV := CK C 0 (pureFin [.tmp 2]) [.sq w1_L0, .bk 0 ⟨true, [], []⟩, .sq w1_c0] w1_B0 s

/- paternoster/paternosterlaw21.PoolsEach -/
def w2_c0 : WCode := (.seq (.ops [
    ⟨(some 158), none, (.call 18 [])⟩,
    ⟨(some 2), none, (.mv (.t 158))⟩] ⟨false, [], []⟩)
  .ret)

def w2_B0 : WCode := (.seq (.seq (.ops [
     ⟨(some 124), none, (.mv (.t 15))⟩,
     ⟨(some 125), none, (.mv (.t 5))⟩,
     ⟨(some 126), none, (.len 1 (.t 125))⟩,
     ⟨(some 127), none, (.bin .lss (.t 124) (.t 126))⟩] ⟨false, [], []⟩)
   (.cond (.t 127) .skip
    (.exit 3)))
  (.seq (.block 4 (.seq (.seq (.ops [
       ⟨(some 130), none, (.mv (.t 5))⟩,
       ⟨(some 131), none, (.mv (.t 15))⟩,
       ⟨(some 132), none, (.idxs 1 (.t 130) (.t 131))⟩,
       ⟨(some 133), none, (.load 1 false (.t 132))⟩,
       ⟨(some 134), none, (.bin .lss (.t 133) (.c (.int .i64 0)))⟩,
       ⟨(some 135), none, (.mv (.t 134))⟩,
       ⟨(some 136), (some (135, false)), (.mv (.t 5))⟩,
       ⟨(some 137), (some (135, false)), (.mv (.t 15))⟩,
       ⟨(some 138), (some (135, false)), (.idxs 1 (.t 136) (.t 137))⟩,
       ⟨(some 139), (some (135, false)), (.load 1 false (.t 138))⟩,
       ⟨(some 140), (some (135, false)), (.mv (.t 6))⟩,
       ⟨(some 141), (some (135, false)), (.bin .geq (.t 139) (.t 140))⟩,
       ⟨(some 142), none, (.pick (.t 135) (.c (.bool true)) (.t 141))⟩,
       ⟨(some 143), none, (.mv (.t 142))⟩,
       ⟨(some 144), (some (143, false)), (.mv (.t 14))⟩,
       ⟨(some 145), (some (143, false)), (.mv (.t 5))⟩,
       ⟨(some 146), (some (143, false)), (.mv (.t 15))⟩,
       ⟨(some 147), (some (143, false)), (.idxs 1 (.t 145) (.t 146))⟩,
       ⟨(some 148), (some (143, false)), (.load 1 false (.t 147))⟩,
       ⟨(some 149), (some (143, false)), (.idxs 1 (.t 144) (.t 148))⟩,
       ⟨(some 150), (some (143, false)), (.load 1 false (.t 149))⟩,
       ⟨(some 151), none, (.pick (.t 143) (.c (.bool true)) (.t 150))⟩] ⟨true, [151, 15, 14, 6, 5], []⟩)
     (.cond (.t 151) (.seq (.ops [
         ⟨(some 2), none, (.mv (.c (.bool false)))⟩] ⟨false, [], []⟩)
       .ret)
      .skip))
    (.ops [
     ⟨(some 152), none, (.mv (.t 14))⟩,
     ⟨(some 153), none, (.mv (.t 5))⟩,
     ⟨(some 154), none, (.mv (.t 15))⟩,
     ⟨(some 155), none, (.idxs 1 (.t 153) (.t 154))⟩,
     ⟨(some 156), none, (.load 1 false (.t 155))⟩,
     ⟨(some 157), none, (.idxs 1 (.t 152) (.t 156))⟩,
     ⟨none, none, (.store 1 (.t 157) (.c (.bool true)))⟩] ⟨false, [], []⟩)) ⟨false, [], []⟩)
  (.ops [
   ⟨(some 128), none, (.mv (.t 15))⟩,
   ⟨(some 129), none, (.bin .add (.t 128) (.c (.int .i64 1)))⟩,
   ⟨(some 15), none, (.mv (.t 129))⟩] ⟨false, [], []⟩)))
def w2_L0 : WCode := .loop ⟨true, [15, 14, 6, 5], []⟩ w2_B0
def w2_c1 : WCode := (.seq (.ops [
    ⟨(some 107), none, (.load 2 true (.t 3))⟩,
    ⟨(some 108), none, (.call 16 [(.t 107)])⟩,
    ⟨(some 106), none, (.mv (.t 108))⟩,
    ⟨(some 109), none, (.ext 0 (.t 106))⟩,
    ⟨(some 110), none, (.ext 1 (.t 106))⟩,
    ⟨(some 13), none, (.mv (.t 109))⟩,
    ⟨(some 4), none, (.mv (.t 110))⟩] ⟨true, [13, 6, 5, 4], []⟩)
  (.seq (.ops [
    ⟨(some 111), none, (.mv (.t 5))⟩,
    ⟨(some 112), none, (.mv (.t 13))⟩,
    ⟨(some 113), none, (.app [(.int .i64 0)] 8 false (.t 111) (.t 112))⟩,
    ⟨(some 5), none, (.mv (.t 113))⟩] ⟨false, [], []⟩)
  (.seq (.seq (.ops [
     ⟨(some 114), none, (.mv (.t 4))⟩,
     ⟨(some 115), none, (.bin .neq (.t 114) (.c (.int .i64 0)))⟩,
     ⟨(some 116), none, (.mv (.t 115))⟩,
     ⟨(some 117), (some (116, false)), (.mv (.t 5))⟩,
     ⟨(some 118), (some (116, false)), (.len 1 (.t 117))⟩,
     ⟨(some 119), (some (116, false)), (.mv (.t 6))⟩,
     ⟨(some 120), (some (116, false)), (.bin .neq (.t 118) (.t 119))⟩,
     ⟨(some 121), none, (.pick (.t 116) (.c (.bool true)) (.t 120))⟩] ⟨false, [], []⟩)
   (.cond (.t 121) (.seq (.ops [
       ⟨(some 2), none, (.mv (.c (.bool false)))⟩] ⟨false, [], []⟩)
     .ret)
    .skip))
  (.seq (.ops [
    ⟨(some 122), none, (.mv (.t 6))⟩,
    ⟨(some 123), none, (.mksl [(.bool false)] 1 (.t 122) (.t 122))⟩,
    ⟨(some 14), none, (.mv (.t 123))⟩] ⟨false, [], []⟩)
  (.seq (.seq (.ops [
     ⟨(some 15), none, (.mv (.c (.int .i64 0)))⟩] ⟨false, [], []⟩)
   (.block 3 w2_L0 ⟨true, [], []⟩))
  w2_c0)))))

def w2_B1 : WCode := (.seq (.seq (.ops [
     ⟨(some 30), none, (.mv (.t 7))⟩,
     ⟨(some 31), none, (.fld 1 (.t 1))⟩,
     ⟨(some 32), none, (.load 1 false (.t 31))⟩,
     ⟨(some 33), none, (.len 1 (.t 32))⟩,
     ⟨(some 34), none, (.bin .lss (.t 30) (.t 33))⟩,
     ⟨(some 35), none, (.mv (.t 34))⟩,
     ⟨(some 36), (some (35, true)), (.mv (.t 7))⟩,
     ⟨(some 37), (some (35, true)), (.bin .lss (.t 36) (.c (.int .i64 40)))⟩,
     ⟨(some 38), none, (.pick (.t 35) (.t 37) (.c (.bool false)))⟩] ⟨false, [], []⟩)
   (.cond (.t 38) .skip
    (.exit 0)))
  (.seq (.block 1 (.seq (.ops [
      ⟨(some 41), none, (.fld 1 (.t 1))⟩,
      ⟨(some 42), none, (.load 1 false (.t 41))⟩,
      ⟨(some 43), none, (.mv (.t 7))⟩,
      ⟨(some 44), none, (.idxs 3 (.t 42) (.t 43))⟩,
      ⟨(some 45), none, (.load 3 true (.t 44))⟩,
      ⟨(some 8), none, (.alloc [(.int .u8 0), (.int .u8 0), (.int .u8 0)])⟩,
      ⟨none, none, (.store 3 (.t 8) (.t 45))⟩] ⟨true, [8, 7, 6, 5, 3, 1], []⟩)
    (.seq (.draw [
      ⟨(some 46), none, (.fld 1 (.t 8))⟩,
      ⟨(some 47), none, (.load 1 false (.t 46))⟩,
      ⟨(some 48), none, (.cvt .i64 (.t 47))⟩,
      ⟨(some 49), none, (.load 2 true (.t 1))⟩,
      ⟨(some 50), none, (.call 6 [(.t 49)])⟩,
      ⟨(some 51), none, (.len 1 (.t 50))⟩,
      ⟨(some 52), none, (.bin .rem (.t 48) (.t 51))⟩,
      ⟨(some 9), none, (.mv (.t 52))⟩] [(1, 4)] ⟨false, [], []⟩)
    (.seq (.ops [
      ⟨(some 10), none, (.mv (.c (.bool false)))⟩] ⟨false, [], []⟩)
    (.seq (.block 2 (.seq (.ops [
        ⟨(some 67), none, (.fld 0 (.t 8))⟩,
        ⟨(some 68), none, (.load 1 false (.t 67))⟩,
        ⟨(some 69), none, (.bin .rem (.t 68) (.c (.int .u8 8)))⟩,
        ⟨(some 70), none, (.bin .lss (.t 69) (.c (.int .u8 4)))⟩,
        ⟨(some 66), none, (.mv (.t 70))⟩] ⟨false, [], []⟩)
      (.cond (.t 66) (.seq (.ops [
          ⟨(some 72), none, (.load 2 true (.t 3))⟩,
          ⟨(some 73), none, (.mv (.t 9))⟩,
          ⟨(some 74), none, (.mv (.t 6))⟩,
          ⟨(some 75), none, (.call 10 [(.t 72), (.t 73), (.t 74)])⟩,
          ⟨(some 71), none, (.mv (.t 75))⟩,
          ⟨(some 76), none, (.ext 0 (.t 71))⟩,
          ⟨(some 77), none, (.ext 1 (.t 71))⟩,
          ⟨(some 78), none, (.ext 2 (.t 71))⟩,
          ⟨none, none, (.store 2 (.t 3) (.t 76))⟩,
          ⟨(some 10), none, (.mv (.t 77))⟩,
          ⟨(some 4), none, (.mv (.t 78))⟩] ⟨true, [10, 7, 6, 5, 4, 3, 1], []⟩)
        (.seq (.seq (.ops [
           ⟨(some 79), none, (.mv (.t 10))⟩] ⟨false, [], []⟩)
         (.cond (.t 79) (.ops [
            ⟨(some 80), none, (.mv (.t 5))⟩,
            ⟨(some 81), none, (.mv (.t 6))⟩,
            ⟨(some 82), none, (.buildS [(.int .i64 0)] 1 [(0, (.t 81))])⟩,
            ⟨(some 83), none, (.app [(.int .i64 0)] 8 false (.t 80) (.t 82))⟩,
            ⟨(some 5), none, (.mv (.t 83))⟩] ⟨false, [], []⟩)
          .skip))
        (.ops [
         ⟨(some 84), none, (.mv (.t 6))⟩,
         ⟨(some 85), none, (.bin .add (.t 84) (.c (.int .i64 1)))⟩,
         ⟨(some 6), none, (.mv (.t 85))⟩] ⟨false, [], []⟩)))
       (.seq (.ops [
          ⟨(some 87), none, (.fld 0 (.t 8))⟩,
          ⟨(some 88), none, (.load 1 false (.t 87))⟩,
          ⟨(some 89), none, (.bin .rem (.t 88) (.c (.int .u8 8)))⟩,
          ⟨(some 90), none, (.bin .lss (.t 89) (.c (.int .u8 7)))⟩,
          ⟨(some 86), none, (.mv (.t 90))⟩] ⟨false, [], []⟩)
        (.cond (.t 86) (.seq (.ops [
            ⟨(some 11), none, (.mv (.c (.int .i64 0)))⟩] ⟨false, [], []⟩)
          (.seq (.ops [
            ⟨(some 92), none, (.load 2 true (.t 3))⟩,
            ⟨(some 93), none, (.mv (.t 9))⟩,
            ⟨(some 94), none, (.call 11 [(.t 92), (.t 93)])⟩,
            ⟨(some 91), none, (.mv (.t 94))⟩,
            ⟨(some 95), none, (.ext 0 (.t 91))⟩,
            ⟨(some 96), none, (.ext 1 (.t 91))⟩,
            ⟨(some 97), none, (.ext 2 (.t 91))⟩,
            ⟨(some 98), none, (.ext 3 (.t 91))⟩,
            ⟨none, none, (.store 2 (.t 3) (.t 95))⟩,
            ⟨(some 11), none, (.mv (.t 96))⟩,
            ⟨(some 10), none, (.mv (.t 97))⟩,
            ⟨(some 4), none, (.mv (.t 98))⟩] ⟨false, [], []⟩)
          (.seq (.ops [
            ⟨(some 99), none, (.mv (.t 10))⟩] ⟨false, [], []⟩)
          (.cond (.t 99) (.ops [
             ⟨(some 100), none, (.mv (.t 5))⟩,
             ⟨(some 101), none, (.mv (.t 11))⟩,
             ⟨(some 102), none, (.buildS [(.int .i64 0)] 1 [(0, (.t 101))])⟩,
             ⟨(some 103), none, (.app [(.int .i64 0)] 8 false (.t 100) (.t 102))⟩,
             ⟨(some 5), none, (.mv (.t 103))⟩] ⟨false, [], []⟩)
           .skip))))
         (.seq (.ops [
            ⟨(some 12), none, (.mv (.c (.ro 1 [] true)))⟩] ⟨false, [], []⟩)
          (.seq (.ops [
            ⟨(some 54), none, (.load 2 true (.t 3))⟩,
            ⟨(some 55), none, (.fld 2 (.t 8))⟩,
            ⟨(some 56), none, (.load 1 false (.t 55))⟩,
            ⟨(some 57), none, (.bin .rem (.t 56) (.c (.int .u8 4)))⟩,
            ⟨(some 58), none, (.cvt .i64 (.t 57))⟩,
            ⟨(some 59), none, (.call 12 [(.t 54), (.t 58)])⟩,
            ⟨(some 53), none, (.mv (.t 59))⟩,
            ⟨(some 60), none, (.ext 0 (.t 53))⟩,
            ⟨(some 61), none, (.ext 1 (.t 53))⟩,
            ⟨(some 62), none, (.ext 2 (.t 53))⟩,
            ⟨none, none, (.store 2 (.t 3) (.t 60))⟩,
            ⟨(some 12), none, (.mv (.t 61))⟩,
            ⟨(some 4), none, (.mv (.t 62))⟩] ⟨true, [12, 7, 6, 5, 4, 3, 1], []⟩)
          (.ops [
           ⟨(some 63), none, (.mv (.t 5))⟩,
           ⟨(some 64), none, (.mv (.t 12))⟩,
           ⟨(some 65), none, (.app [(.int .i64 0)] 8 false (.t 63) (.t 64))⟩,
           ⟨(some 5), none, (.mv (.t 65))⟩] ⟨false, [], []⟩))))))) ⟨false, [], []⟩)
    (.seq (.ops [
      ⟨(some 104), none, (.mv (.t 4))⟩,
      ⟨(some 105), none, (.bin .neq (.t 104) (.c (.int .i64 0)))⟩] ⟨false, [], []⟩)
    (.cond (.t 105) (.seq (.ops [
        ⟨(some 2), none, (.mv (.c (.bool false)))⟩] ⟨false, [], []⟩)
      .ret)
     .skip)))))) ⟨false, [], []⟩)
  (.ops [
   ⟨(some 39), none, (.mv (.t 7))⟩,
   ⟨(some 40), none, (.bin .add (.t 39) (.c (.int .i64 1)))⟩,
   ⟨(some 7), none, (.mv (.t 40))⟩] ⟨false, [], []⟩)))
def w2_L1 : WCode := .loop ⟨true, [7, 6, 5, 3, 1], []⟩ w2_B1
def w2 : WFn := ⟨1, [.tmp 2],
 (.seq (.ops [
    ⟨(some 1), none, (.box (.t 0))⟩,
    ⟨(some 2), none, (.mv (.c (.bool false)))⟩] ⟨false, [], []⟩)
  (.seq (.ops [
    ⟨(some 17), none, (.load 2 true (.t 1))⟩,
    ⟨(some 18), none, (.call 6 [(.t 17)])⟩,
    ⟨(some 19), none, (.call 5 [(.t 18)])⟩,
    ⟨(some 16), none, (.mv (.t 19))⟩,
    ⟨(some 20), none, (.ext 0 (.t 16))⟩,
    ⟨(some 21), none, (.ext 1 (.t 16))⟩,
    ⟨(some 3), none, (.alloc [(.ro 1 [] true), (.ro 1 [] true)])⟩,
    ⟨none, none, (.store 2 (.t 3) (.t 20))⟩,
    ⟨(some 4), none, (.mv (.t 21))⟩] ⟨true, [4, 3, 1], []⟩)
  (.seq (.seq (.ops [
     ⟨(some 22), none, (.mv (.t 4))⟩,
     ⟨(some 23), none, (.bin .neq (.t 22) (.c (.int .i64 0)))⟩,
     ⟨(some 24), none, (.mv (.t 23))⟩,
     ⟨(some 25), (some (24, false)), (.fld 0 (.t 3))⟩,
     ⟨(some 26), (some (24, false)), (.load 1 false (.t 25))⟩,
     ⟨(some 27), (some (24, false)), (.len 1 (.t 26))⟩,
     ⟨(some 28), (some (24, false)), (.bin .eql (.t 27) (.c (.int .i64 0)))⟩,
     ⟨(some 29), none, (.pick (.t 24) (.c (.bool true)) (.t 28))⟩] ⟨false, [], []⟩)
   (.cond (.t 29) (.seq (.ops [
       ⟨(some 2), none, (.mv (.c (.bool false)))⟩] ⟨false, [], []⟩)
     .ret)
    .skip))
  (.seq (.ops [
    ⟨(some 5), none, (.mv (.c (.ro 1 [] true)))⟩] ⟨true, [5, 3, 1], [(5, 1)]⟩)
  (.seq (.ops [
    ⟨(some 6), none, (.mv (.c (.int .i64 0)))⟩] ⟨false, [], []⟩)
  (.seq (.seq (.ops [
     ⟨(some 7), none, (.mv (.c (.int .i64 0)))⟩] ⟨false, [], []⟩)
   (.block 0 w2_L1 ⟨true, [6, 5, 3], []⟩))
  w2_c1))))))⟩

@[simp] theorem w2_E0 {β : Type} {C : WProg} {b : Nat} {f : Ex × WSt → Option β} {k : List Pw.Frame} {s : WSt} : CK C b f k w2_L0 s = LK C b f (.sq w2_L0 :: k) w2_B0 (canon b ⟨true, [15, 14, 6, 5], []⟩ s) := ck_lp rfl
noncomputable abbrev w2_K0 (C : WProg) (s : WSt) : Option AV := CK C 0 (pureFin [.tmp 2]) [.sq w2_L0, .bk 3 ⟨true, [], []⟩, .sq w2_c0] w2_B0 s

@[simp] theorem w2_E1 {β : Type} {C : WProg} {b : Nat} {f : Ex × WSt → Option β} {k : List Pw.Frame} {s : WSt} : CK C b f k w2_L1 s = LK C b f (.sq w2_L1 :: k) w2_B1 (canon b ⟨true, [7, 6, 5, 3, 1], []⟩ s) := ck_lp rfl
noncomputable abbrev w2_K1 (C : WProg) (s : WSt) : Option AV := CK C 0 (pureFin [.tmp 2]) [.sq w2_L1, .bk 0 ⟨true, [6, 5, 3], []⟩, .sq w2_c1] w2_B1 s

/- paternoster/paternosterlaw21.PoolsErrors -/
def w3_c0 : WCode := (.seq (.ops [
    ⟨(some 59), none, (.load 2 true (.t 7))⟩,
    ⟨(some 60), none, (.call 19 [(.t 59)])⟩,
    ⟨(some 9), none, (.mv (.t 60))⟩] ⟨false, [], []⟩)
  (.seq (.ops [
    ⟨(some 62), none, (.fld 0 (.t 3))⟩,
    ⟨(some 63), none, (.load 1 false (.t 62))⟩,
    ⟨(some 64), none, (.call 5 [(.t 63)])⟩,
    ⟨(some 61), none, (.mv (.t 64))⟩,
    ⟨(some 65), none, (.ext 0 (.t 61))⟩,
    ⟨(some 66), none, (.ext 1 (.t 61))⟩,
    ⟨(some 10), none, (.alloc [(.ro 1 [] true), (.ro 1 [] true)])⟩,
    ⟨none, none, (.store 2 (.t 10) (.t 65))⟩,
    ⟨(some 11), none, (.mv (.t 66))⟩] ⟨false, [], []⟩)
  (.seq (.draw [
    ⟨(some 67), none, (.fld 0 (.t 3))⟩,
    ⟨(some 68), none, (.load 1 false (.t 67))⟩,
    ⟨(some 69), none, (.fld 0 (.t 3))⟩,
    ⟨(some 70), none, (.load 1 false (.t 69))⟩,
    ⟨(some 71), none, (.len 1 (.t 70))⟩,
    ⟨(some 72), none, (.mksl [(.ro 1 [] true)] 24 (.t 71) (.t 71))⟩,
    ⟨(some 73), none, (.build [(.ro 1 [] true), (.ro 1 [] true)] [(0, 1, (.t 68)), (1, 1, (.t 72))])⟩,
    ⟨(some 12), none, (.alloc [(.ro 1 [] true), (.ro 1 [] true)])⟩,
    ⟨none, none, (.store 2 (.t 12) (.t 73))⟩] [(1, 5), (1, 7), (3, 7), (4, 7), (5, 7)] ⟨false, [], []⟩)
  (.seq (.seq (.ops [
     ⟨(some 74), none, (.load 2 true (.t 3))⟩,
     ⟨(some 75), none, (.call 20 [(.t 74)])⟩,
     ⟨(some 76), none, (.mv (.t 9))⟩,
     ⟨(some 77), none, (.bin .neq (.t 75) (.t 76))⟩,
     ⟨(some 78), none, (.mv (.t 77))⟩,
     ⟨(some 79), (some (78, false)), (.mv (.t 11))⟩,
     ⟨(some 80), (some (78, false)), (.load 2 true (.t 12))⟩,
     ⟨(some 81), (some (78, false)), (.call 19 [(.t 80)])⟩,
     ⟨(some 82), (some (78, false)), (.bin .neq (.t 79) (.t 81))⟩,
     ⟨(some 83), none, (.pick (.t 78) (.c (.bool true)) (.t 82))⟩,
     ⟨(some 84), none, (.mv (.t 83))⟩,
     ⟨(some 85), (some (84, false)), (.mv (.t 11))⟩,
     ⟨(some 86), (some (84, false)), (.bin .neq (.t 85) (.c (.int .i64 0)))⟩,
     ⟨(some 87), (some (84, false)), (.mv (.t 86))⟩,
     ⟨(some 88), (some (87, true)), (.fld 0 (.t 10))⟩,
     ⟨(some 89), (some (87, true)), (.load 1 false (.t 88))⟩,
     ⟨(some 90), (some (87, true)), (.len 1 (.t 89))⟩,
     ⟨(some 91), (some (87, true)), (.fld 1 (.t 10))⟩,
     ⟨(some 92), (some (87, true)), (.load 1 false (.t 91))⟩,
     ⟨(some 93), (some (87, true)), (.len 1 (.t 92))⟩,
     ⟨(some 94), (some (87, true)), (.bin .add (.t 90) (.t 93))⟩,
     ⟨(some 95), (some (87, true)), (.bin .gtr (.t 94) (.c (.int .i64 0)))⟩,
     ⟨(some 96), (some (84, false)), (.pick (.t 87) (.t 95) (.c (.bool false)))⟩,
     ⟨(some 97), none, (.pick (.t 84) (.c (.bool true)) (.t 96))⟩] ⟨true, [97, 9, 3, 2, 1], []⟩)
   (.cond (.t 97) (.seq (.ops [
       ⟨(some 6), none, (.mv (.c (.bool false)))⟩] ⟨false, [], []⟩)
     .ret)
    .skip))
  (.seq (.ops [
    ⟨(some 99), none, (.load 2 true (.t 3))⟩,
    ⟨(some 100), none, (.call 16 [(.t 99)])⟩,
    ⟨(some 98), none, (.mv (.t 100))⟩,
    ⟨(some 101), none, (.ext 0 (.t 98))⟩,
    ⟨(some 102), none, (.ext 1 (.t 98))⟩,
    ⟨(some 13), none, (.mv (.t 101))⟩,
    ⟨(some 14), none, (.mv (.t 102))⟩] ⟨true, [14, 13, 9, 3, 2, 1], []⟩)
  (.seq (.ops [
    ⟨(some 104), none, (.load 2 true (.t 3))⟩,
    ⟨(some 105), none, (.mv (.t 2))⟩,
    ⟨(some 106), none, (.call 12 [(.t 104), (.t 105)])⟩,
    ⟨(some 103), none, (.mv (.t 106))⟩,
    ⟨(some 107), none, (.ext 0 (.t 103))⟩,
    ⟨(some 108), none, (.ext 1 (.t 103))⟩,
    ⟨(some 109), none, (.ext 2 (.t 103))⟩,
    ⟨(some 15), none, (.alloc [(.ro 1 [] true), (.ro 1 [] true)])⟩,
    ⟨none, none, (.store 2 (.t 15) (.t 107))⟩,
    ⟨(some 16), none, (.mv (.t 108))⟩,
    ⟨(some 17), none, (.mv (.t 109))⟩] ⟨false, [], []⟩)
  (.seq (.ops [
    ⟨(some 110), none, (.mv (.t 9))⟩,
    ⟨(some 18), none, (.mv (.t 110))⟩] ⟨false, [], []⟩)
  (.seq (.seq (.ops [
     ⟨(some 111), none, (.mv (.t 18))⟩,
     ⟨(some 112), none, (.bin .eql (.t 111) (.c (.int .i64 0)))⟩,
     ⟨(some 113), none, (.mv (.t 112))⟩,
     ⟨(some 114), (some (113, true)), (.mv (.t 2))⟩,
     ⟨(some 115), (some (113, true)), (.bin .lss (.t 114) (.c (.int .i64 0)))⟩,
     ⟨(some 116), none, (.pick (.t 113) (.t 115) (.c (.bool false)))⟩] ⟨false, [], []⟩)
   (.cond (.t 116) (.ops [
      ⟨(some 18), none, (.mv (.c (.int .i64 4)))⟩] ⟨false, [], []⟩)
    .skip))
  (.seq (.seq (.ops [
     ⟨(some 117), none, (.mv (.t 14))⟩,
     ⟨(some 118), none, (.mv (.t 9))⟩,
     ⟨(some 119), none, (.bin .neq (.t 117) (.t 118))⟩,
     ⟨(some 120), none, (.mv (.t 119))⟩,
     ⟨(some 121), (some (120, false)), (.mv (.t 17))⟩,
     ⟨(some 122), (some (120, false)), (.mv (.t 18))⟩,
     ⟨(some 123), (some (120, false)), (.bin .neq (.t 121) (.t 122))⟩,
     ⟨(some 124), none, (.pick (.t 120) (.c (.bool true)) (.t 123))⟩,
     ⟨(some 125), none, (.mv (.t 124))⟩,
     ⟨(some 126), (some (125, false)), (.mv (.t 18))⟩,
     ⟨(some 127), (some (125, false)), (.bin .neq (.t 126) (.c (.int .i64 0)))⟩,
     ⟨(some 128), (some (125, false)), (.mv (.t 127))⟩,
     ⟨(some 129), (some (128, true)), (.fld 0 (.t 15))⟩,
     ⟨(some 130), (some (128, true)), (.load 1 false (.t 129))⟩,
     ⟨(some 131), (some (128, true)), (.len 1 (.t 130))⟩,
     ⟨(some 132), (some (128, true)), (.fld 1 (.t 15))⟩,
     ⟨(some 133), (some (128, true)), (.load 1 false (.t 132))⟩,
     ⟨(some 134), (some (128, true)), (.len 1 (.t 133))⟩,
     ⟨(some 135), (some (128, true)), (.bin .add (.t 131) (.t 134))⟩,
     ⟨(some 136), (some (128, true)), (.mv (.t 16))⟩,
     ⟨(some 137), (some (128, true)), (.len 1 (.t 136))⟩,
     ⟨(some 138), (some (128, true)), (.bin .add (.t 135) (.t 137))⟩,
     ⟨(some 139), (some (128, true)), (.bin .gtr (.t 138) (.c (.int .i64 0)))⟩,
     ⟨(some 140), (some (125, false)), (.pick (.t 128) (.t 139) (.c (.bool false)))⟩,
     ⟨(some 141), none, (.pick (.t 125) (.c (.bool true)) (.t 140))⟩,
     ⟨(some 142), none, (.mv (.t 141))⟩,
     ⟨(some 143), (some (142, false)), (.mv (.t 9))⟩,
     ⟨(some 144), (some (142, false)), (.bin .neq (.t 143) (.c (.int .i64 0)))⟩,
     ⟨(some 145), (some (142, false)), (.mv (.t 144))⟩,
     ⟨(some 146), (some (145, true)), (.mv (.t 13))⟩,
     ⟨(some 147), (some (145, true)), (.len 1 (.t 146))⟩,
     ⟨(some 148), (some (145, true)), (.bin .gtr (.t 147) (.c (.int .i64 0)))⟩,
     ⟨(some 149), (some (142, false)), (.pick (.t 145) (.t 148) (.c (.bool false)))⟩,
     ⟨(some 150), none, (.pick (.t 142) (.c (.bool true)) (.t 149))⟩] ⟨true, [150, 9, 3, 1], []⟩)
   (.cond (.t 150) (.seq (.ops [
       ⟨(some 6), none, (.mv (.c (.bool false)))⟩] ⟨false, [], []⟩)
     .ret)
    .skip))
  (.seq (.seq (.ops [
     ⟨(some 151), none, (.mv (.t 9))⟩,
     ⟨(some 152), none, (.bin .eql (.t 151) (.c (.int .i64 0)))⟩,
     ⟨(some 153), none, (.mv (.t 152))⟩,
     ⟨(some 154), (some (153, true)), (.mv (.t 1))⟩,
     ⟨(some 155), (some (153, true)), (.bin .lss (.t 154) (.c (.int .i64 0)))⟩,
     ⟨(some 156), (some (153, true)), (.mv (.t 155))⟩,
     ⟨(some 157), (some (156, false)), (.mv (.t 1))⟩,
     ⟨(some 158), (some (156, false)), (.fld 0 (.t 3))⟩,
     ⟨(some 159), (some (156, false)), (.load 1 false (.t 158))⟩,
     ⟨(some 160), (some (156, false)), (.len 1 (.t 159))⟩,
     ⟨(some 161), (some (156, false)), (.bin .geq (.t 157) (.t 160))⟩,
     ⟨(some 162), (some (153, true)), (.pick (.t 156) (.c (.bool true)) (.t 161))⟩,
     ⟨(some 163), none, (.pick (.t 153) (.t 162) (.c (.bool false)))⟩] ⟨true, [163, 9, 3, 1], []⟩)
   (.cond (.t 163) (.ops [
      ⟨(some 9), none, (.mv (.c (.int .i64 4)))⟩] ⟨false, [], []⟩)
    .skip))
  (.seq (.ops [
    ⟨(some 165), none, (.load 2 true (.t 3))⟩,
    ⟨(some 166), none, (.mv (.t 1))⟩,
    ⟨(some 167), none, (.call 10 [(.t 165), (.t 166), (.c (.int .i64 7))])⟩,
    ⟨(some 164), none, (.mv (.t 167))⟩,
    ⟨(some 168), none, (.ext 0 (.t 164))⟩,
    ⟨(some 169), none, (.ext 1 (.t 164))⟩,
    ⟨(some 170), none, (.ext 2 (.t 164))⟩,
    ⟨(some 19), none, (.alloc [(.ro 1 [] true), (.ro 1 [] true)])⟩,
    ⟨none, none, (.store 2 (.t 19) (.t 168))⟩,
    ⟨(some 20), none, (.mv (.t 169))⟩,
    ⟨(some 21), none, (.mv (.t 170))⟩] ⟨false, [], []⟩)
  (.seq (.ops [
    ⟨(some 172), none, (.load 2 true (.t 3))⟩,
    ⟨(some 173), none, (.mv (.t 1))⟩,
    ⟨(some 174), none, (.call 11 [(.t 172), (.t 173)])⟩,
    ⟨(some 171), none, (.mv (.t 174))⟩,
    ⟨(some 175), none, (.ext 0 (.t 171))⟩,
    ⟨(some 176), none, (.ext 1 (.t 171))⟩,
    ⟨(some 177), none, (.ext 2 (.t 171))⟩,
    ⟨(some 178), none, (.ext 3 (.t 171))⟩,
    ⟨(some 22), none, (.alloc [(.ro 1 [] true), (.ro 1 [] true)])⟩,
    ⟨none, none, (.store 2 (.t 22) (.t 175))⟩,
    ⟨(some 23), none, (.mv (.t 176))⟩,
    ⟨(some 24), none, (.mv (.t 177))⟩,
    ⟨(some 25), none, (.mv (.t 178))⟩] ⟨true, [25, 24, 23, 22, 21, 20, 19, 9, 3, 1], []⟩)
  (.seq (.ops [
    ⟨(some 180), none, (.load 2 true (.t 3))⟩,
    ⟨(some 181), none, (.mv (.t 1))⟩,
    ⟨(some 182), none, (.call 15 [(.t 180), (.t 181)])⟩,
    ⟨(some 179), none, (.mv (.t 182))⟩,
    ⟨(some 183), none, (.ext 0 (.t 179))⟩,
    ⟨(some 184), none, (.ext 1 (.t 179))⟩,
    ⟨(some 26), none, (.mv (.t 183))⟩,
    ⟨(some 27), none, (.mv (.t 184))⟩] ⟨false, [], []⟩)
  (.seq (.seq (.ops [
     ⟨(some 185), none, (.mv (.t 21))⟩,
     ⟨(some 186), none, (.mv (.t 9))⟩,
     ⟨(some 187), none, (.bin .neq (.t 185) (.t 186))⟩,
     ⟨(some 188), none, (.mv (.t 187))⟩,
     ⟨(some 189), (some (188, false)), (.mv (.t 25))⟩,
     ⟨(some 190), (some (188, false)), (.mv (.t 9))⟩,
     ⟨(some 191), (some (188, false)), (.bin .neq (.t 189) (.t 190))⟩,
     ⟨(some 192), none, (.pick (.t 188) (.c (.bool true)) (.t 191))⟩,
     ⟨(some 193), none, (.mv (.t 192))⟩,
     ⟨(some 194), (some (193, false)), (.mv (.t 27))⟩,
     ⟨(some 195), (some (193, false)), (.mv (.t 9))⟩,
     ⟨(some 196), (some (193, false)), (.bin .neq (.t 194) (.t 195))⟩,
     ⟨(some 197), none, (.pick (.t 193) (.c (.bool true)) (.t 196))⟩] ⟨false, [], []⟩)
   (.cond (.t 197) (.seq (.ops [
       ⟨(some 6), none, (.mv (.c (.bool false)))⟩] ⟨false, [], []⟩)
     .ret)
    .skip))
  (.seq (.ops [
    ⟨(some 198), none, (.mv (.t 9))⟩,
    ⟨(some 199), none, (.bin .eql (.t 198) (.c (.int .i64 0)))⟩,
    ⟨(some 200), none, (.mv (.t 199))⟩,
    ⟨(some 201), (some (200, false)), (.mv (.t 20))⟩,
    ⟨(some 202), (some (200, false)), (.un .not (.t 201))⟩,
    ⟨(some 203), (some (200, false)), (.mv (.t 202))⟩,
    ⟨(some 204), (some (203, true)), (.mv (.t 24))⟩,
    ⟨(some 205), (some (203, true)), (.un .not (.t 204))⟩,
    ⟨(some 206), (some (200, false)), (.pick (.t 203) (.t 205) (.c (.bool false)))⟩,
    ⟨(some 207), (some (200, false)), (.mv (.t 206))⟩,
    ⟨(some 208), (some (207, true)), (.mv (.t 23))⟩,
    ⟨(some 209), (some (207, true)), (.mv (.t 26))⟩,
    ⟨(some 210), (some (207, true)), (.bin .add (.t 208) (.t 209))⟩,
    ⟨(some 211), (some (207, true)), (.bin .eql (.t 210) (.c (.int .i64 0)))⟩,
    ⟨(some 212), (some (200, false)), (.pick (.t 207) (.t 211) (.c (.bool false)))⟩,
    ⟨(some 213), (some (200, false)), (.mv (.t 212))⟩,
    ⟨(some 214), (some (213, true)), (.fld 0 (.t 19))⟩,
    ⟨(some 215), (some (213, true)), (.load 1 false (.t 214))⟩,
    ⟨(some 216), (some (213, true)), (.len 1 (.t 215))⟩,
    ⟨(some 217), (some (213, true)), (.fld 1 (.t 19))⟩,
    ⟨(some 218), (some (213, true)), (.load 1 false (.t 217))⟩,
    ⟨(some 219), (some (213, true)), (.len 1 (.t 218))⟩,
    ⟨(some 220), (some (213, true)), (.bin .add (.t 216) (.t 219))⟩,
    ⟨(some 221), (some (213, true)), (.fld 0 (.t 22))⟩,
    ⟨(some 222), (some (213, true)), (.load 1 false (.t 221))⟩,
    ⟨(some 223), (some (213, true)), (.len 1 (.t 222))⟩,
    ⟨(some 224), (some (213, true)), (.bin .add (.t 220) (.t 223))⟩,
    ⟨(some 225), (some (213, true)), (.fld 1 (.t 22))⟩,
    ⟨(some 226), (some (213, true)), (.load 1 false (.t 225))⟩,
    ⟨(some 227), (some (213, true)), (.len 1 (.t 226))⟩,
    ⟨(some 228), (some (213, true)), (.bin .add (.t 224) (.t 227))⟩,
    ⟨(some 229), (some (213, true)), (.bin .eql (.t 228) (.c (.int .i64 0)))⟩,
    ⟨(some 230), (some (200, false)), (.pick (.t 213) (.t 229) (.c (.bool false)))⟩,
    ⟨(some 231), none, (.pick (.t 200) (.c (.bool true)) (.t 230))⟩,
    ⟨(some 232), none, (.mv (.t 231))⟩,
    ⟨(some 233), (some (232, true)), (.call 18 [])⟩,
    ⟨(some 234), none, (.pick (.t 232) (.t 233) (.c (.bool false)))⟩,
    ⟨(some 6), none, (.mv (.t 234))⟩] ⟨true, [6], []⟩)
  .ret)))))))))))))))

def w3_B0 : WCode := (.seq (.seq (.ops [
     ⟨(some 44), none, (.mv (.t 8))⟩,
     ⟨(some 45), none, (.fld 1 (.t 3))⟩,
     ⟨(some 46), none, (.load 1 false (.t 45))⟩,
     ⟨(some 47), none, (.len 1 (.t 46))⟩,
     ⟨(some 48), none, (.bin .lss (.t 44) (.t 47))⟩] ⟨false, [], []⟩)
   (.cond (.t 48) .skip
    (.exit 0)))
  (.seq (.block 1 (.seq (.ops [
      ⟨(some 51), none, (.fld 1 (.t 3))⟩,
      ⟨(some 52), none, (.load 1 false (.t 51))⟩,
      ⟨(some 53), none, (.mv (.t 8))⟩,
      ⟨(some 54), none, (.idxs 1 (.t 52) (.t 53))⟩,
      ⟨(some 55), none, (.load 1 false (.t 54))⟩,
      ⟨(some 56), none, (.len 1 (.t 55))⟩,
      ⟨(some 57), none, (.bin .gtr (.t 56) (.c (.int .i64 20)))⟩] ⟨false, [], []⟩)
    (.cond (.t 57) (.seq (.ops [
        ⟨(some 58), none, (.call 18 [])⟩,
        ⟨(some 6), none, (.mv (.t 58))⟩] ⟨false, [], []⟩)
      .ret)
     .skip)) ⟨false, [], []⟩)
  (.ops [
   ⟨(some 49), none, (.mv (.t 8))⟩,
   ⟨(some 50), none, (.bin .add (.t 49) (.c (.int .i64 1)))⟩,
   ⟨(some 8), none, (.mv (.t 50))⟩] ⟨true, [8, 7, 3, 2, 1], []⟩)))
def w3_L0 : WCode := .loop ⟨true, [8, 7, 3, 2, 1], []⟩ w3_B0
def w3 : WFn := ⟨3, [.tmp 6],
 (.seq (.ops [
    ⟨(some 3), none, (.box (.t 0))⟩,
    ⟨(some 6), none, (.mv (.c (.bool false)))⟩] ⟨false, [], []⟩)
  (.seq (.seq (.ops [
     ⟨(some 28), none, (.fld 0 (.t 3))⟩,
     ⟨(some 29), none, (.load 1 false (.t 28))⟩,
     ⟨(some 30), none, (.len 1 (.t 29))⟩,
     ⟨(some 31), none, (.bin .gtr (.t 30) (.c (.int .i64 10)))⟩,
     ⟨(some 32), none, (.mv (.t 31))⟩,
     ⟨(some 33), (some (32, false)), (.fld 1 (.t 3))⟩,
     ⟨(some 34), (some (32, false)), (.load 1 false (.t 33))⟩,
     ⟨(some 35), (some (32, false)), (.len 1 (.t 34))⟩,
     ⟨(some 36), (some (32, false)), (.bin .gtr (.t 35) (.c (.int .i64 10)))⟩,
     ⟨(some 37), none, (.pick (.t 32) (.c (.bool true)) (.t 36))⟩] ⟨false, [], []⟩)
   (.cond (.t 37) (.seq (.ops [
       ⟨(some 38), none, (.call 18 [])⟩,
       ⟨(some 6), none, (.mv (.t 38))⟩] ⟨true, [6], []⟩)
     .ret)
    .skip))
  (.seq (.ops [
    ⟨(some 39), none, (.fld 0 (.t 3))⟩,
    ⟨(some 40), none, (.load 1 false (.t 39))⟩,
    ⟨(some 41), none, (.fld 1 (.t 3))⟩,
    ⟨(some 42), none, (.load 1 false (.t 41))⟩,
    ⟨(some 43), none, (.build [(.ro 1 [] true), (.ro 1 [] true)] [(0, 1, (.t 40)), (1, 1, (.t 42))])⟩,
    ⟨(some 7), none, (.alloc [(.ro 1 [] true), (.ro 1 [] true)])⟩,
    ⟨none, none, (.store 2 (.t 7) (.t 43))⟩] ⟨false, [], []⟩)
  (.seq (.seq (.ops [
     ⟨(some 8), none, (.mv (.c (.int .i64 0)))⟩] ⟨false, [], []⟩)
   (.block 0 w3_L0 ⟨true, [7, 3, 2, 1], []⟩))
  w3_c0))))⟩

@[simp] theorem w3_E0 {β : Type} {C : WProg} {b : Nat} {f : Ex × WSt → Option β} {k : List Pw.Frame} {s : WSt} : CK C b f k w3_L0 s = LK C b f (.sq w3_L0 :: k) w3_B0 (canon b ⟨true, [8, 7, 3, 2, 1], []⟩ s) := ck_lp rfl
noncomputable abbrev w3_K0 (C : WProg) (s : WSt) : Option AV := CK C 0 (pureFin [.tmp 6]) [.sq w3_L0, .bk 0 ⟨true, [7, 3, 2, 1], []⟩, .sq w3_c0] w3_B0 s

/- paternoster/paternosterlaw21.PoolsKnown -/
def w4_c0 : WCode := (.seq (.ops [
    ⟨(some 65), none, (.load 2 true (.t 5))⟩,
    ⟨(some 66), none, (.call 12 [(.t 65), (.c (.int .i64 30))])⟩,
    ⟨(some 64), none, (.mv (.t 66))⟩,
    ⟨(some 67), none, (.ext 0 (.t 64))⟩,
    ⟨(some 68), none, (.ext 1 (.t 64))⟩,
    ⟨(some 69), none, (.ext 2 (.t 64))⟩,
    ⟨none, none, (.store 2 (.t 5) (.t 67))⟩,
    ⟨(some 11), none, (.mv (.t 68))⟩,
    ⟨(some 2), none, (.mv (.t 69))⟩] ⟨true, [11, 5, 2], []⟩)
  (.seq (.ops [
    ⟨(some 71), none, (.load 2 true (.t 5))⟩,
    ⟨(some 72), none, (.call 11 [(.t 71), (.c (.int .i64 0))])⟩,
    ⟨(some 70), none, (.mv (.t 72))⟩,
    ⟨(some 73), none, (.ext 0 (.t 70))⟩,
    ⟨(some 74), none, (.ext 1 (.t 70))⟩,
    ⟨(some 75), none, (.ext 2 (.t 70))⟩,
    ⟨(some 76), none, (.ext 3 (.t 70))⟩,
    ⟨(some 12), none, (.alloc [(.ro 1 [] true), (.ro 1 [] true)])⟩,
    ⟨none, none, (.store 2 (.t 12) (.t 73))⟩,
    ⟨(some 13), none, (.mv (.t 74))⟩,
    ⟨(some 14), none, (.mv (.t 75))⟩,
    ⟨(some 4), none, (.mv (.t 76))⟩] ⟨false, [], []⟩)
  (.seq (.ops [
    ⟨(some 78), none, (.load 2 true (.t 12))⟩,
    ⟨(some 79), none, (.call 15 [(.t 78), (.c (.int .i64 0))])⟩,
    ⟨(some 77), none, (.mv (.t 79))⟩,
    ⟨(some 80), none, (.ext 0 (.t 77))⟩,
    ⟨(some 81), none, (.ext 1 (.t 77))⟩,
    ⟨(some 15), none, (.mv (.t 80))⟩,
    ⟨(some 6), none, (.mv (.t 81))⟩] ⟨false, [], []⟩)
  (.seq (.ops [
    ⟨(some 82), none, (.mv (.t 2))⟩,
    ⟨(some 83), none, (.mv (.t 4))⟩,
    ⟨(some 84), none, (.bin .add (.t 82) (.t 83))⟩,
    ⟨(some 85), none, (.mv (.t 6))⟩,
    ⟨(some 86), none, (.bin .add (.t 84) (.t 85))⟩,
    ⟨(some 87), none, (.bin .eql (.t 86) (.c (.int .i64 0)))⟩,
    ⟨(some 88), none, (.mv (.t 87))⟩,
    ⟨(some 89), (some (88, true)), (.mv (.t 11))⟩,
    ⟨(some 90), (some (88, true)), (.len 1 (.t 89))⟩,
    ⟨(some 91), (some (88, true)), (.bin .eql (.t 90) (.c (.int .i64 70)))⟩,
    ⟨(some 92), none, (.pick (.t 88) (.t 91) (.c (.bool false)))⟩,
    ⟨(some 93), none, (.mv (.t 92))⟩,
    ⟨(some 94), (some (93, true)), (.mv (.t 11))⟩,
    ⟨(some 95), (some (93, true)), (.idxs 1 (.t 94) (.c (.int .i64 69)))⟩,
    ⟨(some 96), (some (93, true)), (.load 1 false (.t 95))⟩,
    ⟨(some 97), (some (93, true)), (.bin .eql (.t 96) (.c (.int .i64 69)))⟩,
    ⟨(some 98), none, (.pick (.t 93) (.t 97) (.c (.bool false)))⟩,
    ⟨(some 99), none, (.mv (.t 98))⟩,
    ⟨(some 100), (some (99, true)), (.mv (.t 13))⟩,
    ⟨(some 101), (some (99, true)), (.bin .eql (.t 100) (.c (.int .i64 99)))⟩,
    ⟨(some 102), none, (.pick (.t 99) (.t 101) (.c (.bool false)))⟩,
    ⟨(some 103), none, (.mv (.t 102))⟩,
    ⟨(some 104), (some (103, true)), (.mv (.t 14))⟩,
    ⟨(some 105), none, (.pick (.t 103) (.t 104) (.c (.bool false)))⟩,
    ⟨(some 106), none, (.mv (.t 105))⟩,
    ⟨(some 107), (some (106, true)), (.mv (.t 15))⟩,
    ⟨(some 108), (some (106, true)), (.bin .eql (.t 107) (.c (.int .i64 29)))⟩,
    ⟨(some 109), none, (.pick (.t 106) (.t 108) (.c (.bool false)))⟩,
    ⟨(some 110), none, (.mv (.t 109))⟩,
    ⟨(some 111), (some (110, true)), (.call 18 [])⟩,
    ⟨(some 112), none, (.pick (.t 110) (.t 111) (.c (.bool false)))⟩,
    ⟨(some 0), none, (.mv (.t 112))⟩] ⟨true, [0], []⟩)
  .ret))))

def w4_B0 : WCode := (.seq (.seq (.ops [
     ⟨(some 48), none, (.mv (.t 9))⟩,
     ⟨(some 49), none, (.bin .lss (.t 48) (.c (.int .i64 100)))⟩] ⟨false, [], []⟩)
   (.cond (.t 49) .skip
    (.exit 0)))
  (.seq (.block 1 (.seq (.ops [
      ⟨(some 10), none, (.mv (.c (.bool false)))⟩] ⟨false, [], []⟩)
    (.seq (.ops [
      ⟨(some 53), none, (.load 2 true (.t 5))⟩,
      ⟨(some 54), none, (.mv (.t 9))⟩,
      ⟨(some 55), none, (.call 10 [(.t 53), (.c (.int .i64 0)), (.t 54)])⟩,
      ⟨(some 52), none, (.mv (.t 55))⟩,
      ⟨(some 56), none, (.ext 0 (.t 52))⟩,
      ⟨(some 57), none, (.ext 1 (.t 52))⟩,
      ⟨(some 58), none, (.ext 2 (.t 52))⟩,
      ⟨none, none, (.store 2 (.t 5) (.t 56))⟩,
      ⟨(some 10), none, (.mv (.t 57))⟩,
      ⟨(some 2), none, (.mv (.t 58))⟩] ⟨false, [], []⟩)
    (.seq (.ops [
      ⟨(some 59), none, (.mv (.t 2))⟩,
      ⟨(some 60), none, (.bin .neq (.t 59) (.c (.int .i64 0)))⟩,
      ⟨(some 61), none, (.mv (.t 60))⟩,
      ⟨(some 62), (some (61, false)), (.mv (.t 10))⟩,
      ⟨(some 63), none, (.pick (.t 61) (.c (.bool true)) (.t 62))⟩] ⟨false, [], []⟩)
    (.cond (.t 63) (.seq (.ops [
        ⟨(some 0), none, (.mv (.c (.bool false)))⟩] ⟨false, [], []⟩)
      .ret)
     .skip)))) ⟨false, [], []⟩)
  (.ops [
   ⟨(some 50), none, (.mv (.t 9))⟩,
   ⟨(some 51), none, (.bin .add (.t 50) (.c (.int .i64 1)))⟩,
   ⟨(some 9), none, (.mv (.t 51))⟩] ⟨false, [], []⟩)))
def w4_L0 : WCode := .loop ⟨true, [9, 5], []⟩ w4_B0
def w4 : WFn := ⟨0, [.tmp 0],
 (.seq (.ops [
    ⟨(some 0), none, (.mv (.c (.bool false)))⟩] ⟨false, [], []⟩)
  (.seq (.ops [
    ⟨(some 17), none, (.mksl [(.int .i64 0)] 8 (.c (.int .i64 8)) (.c (.int .i64 8)))⟩,
    ⟨(some 18), none, (.call 5 [(.t 17)])⟩,
    ⟨(some 16), none, (.mv (.t 18))⟩,
    ⟨(some 19), none, (.ext 0 (.t 16))⟩,
    ⟨(some 20), none, (.ext 1 (.t 16))⟩,
    ⟨(some 1), none, (.alloc [(.ro 1 [] true), (.ro 1 [] true)])⟩,
    ⟨none, none, (.store 2 (.t 1) (.t 19))⟩,
    ⟨(some 2), none, (.mv (.t 20))⟩] ⟨false, [], []⟩)
  (.seq (.ops [
    ⟨(some 22), none, (.mksl [(.int .i64 0)] 8 (.c (.int .i64 9)) (.c (.int .i64 9)))⟩,
    ⟨(some 23), none, (.call 5 [(.t 22)])⟩,
    ⟨(some 21), none, (.mv (.t 23))⟩,
    ⟨(some 24), none, (.ext 0 (.t 21))⟩,
    ⟨(some 25), none, (.ext 1 (.t 21))⟩,
    ⟨(some 3), none, (.alloc [(.ro 1 [] true), (.ro 1 [] true)])⟩,
    ⟨none, none, (.store 2 (.t 3) (.t 24))⟩,
    ⟨(some 4), none, (.mv (.t 25))⟩] ⟨false, [], []⟩)
  (.seq (.ops [
    ⟨(some 27), none, (.buildS [(.int .i64 0)] 1 [(0, (.c (.int .i64 65536)))])⟩,
    ⟨(some 28), none, (.call 5 [(.t 27)])⟩,
    ⟨(some 26), none, (.mv (.t 28))⟩,
    ⟨(some 29), none, (.ext 0 (.t 26))⟩,
    ⟨(some 30), none, (.ext 1 (.t 26))⟩,
    ⟨(some 5), none, (.alloc [(.ro 1 [] true), (.ro 1 [] true)])⟩,
    ⟨none, none, (.store 2 (.t 5) (.t 29))⟩,
    ⟨(some 6), none, (.mv (.t 30))⟩] ⟨true, [6, 5, 4, 2], []⟩)
  (.seq (.ops [
    ⟨(some 32), none, (.buildS [(.int .i64 0)] 1 [(0, (.c (.int .i64 65537)))])⟩,
    ⟨(some 33), none, (.call 5 [(.t 32)])⟩,
    ⟨(some 31), none, (.mv (.t 33))⟩,
    ⟨(some 34), none, (.ext 0 (.t 31))⟩,
    ⟨(some 35), none, (.ext 1 (.t 31))⟩,
    ⟨(some 7), none, (.alloc [(.ro 1 [] true), (.ro 1 [] true)])⟩,
    ⟨none, none, (.store 2 (.t 7) (.t 34))⟩,
    ⟨(some 8), none, (.mv (.t 35))⟩] ⟨false, [], []⟩)
  (.seq (.seq (.ops [
     ⟨(some 36), none, (.mv (.t 2))⟩,
     ⟨(some 37), none, (.mv (.t 6))⟩,
     ⟨(some 38), none, (.bin .add (.t 36) (.t 37))⟩,
     ⟨(some 39), none, (.bin .neq (.t 38) (.c (.int .i64 0)))⟩,
     ⟨(some 40), none, (.mv (.t 39))⟩,
     ⟨(some 41), (some (40, false)), (.mv (.t 4))⟩,
     ⟨(some 42), (some (40, false)), (.bin .neq (.t 41) (.c (.int .i64 1)))⟩,
     ⟨(some 43), none, (.pick (.t 40) (.c (.bool true)) (.t 42))⟩,
     ⟨(some 44), none, (.mv (.t 43))⟩,
     ⟨(some 45), (some (44, false)), (.mv (.t 8))⟩,
     ⟨(some 46), (some (44, false)), (.bin .neq (.t 45) (.c (.int .i64 1)))⟩,
     ⟨(some 47), none, (.pick (.t 44) (.c (.bool true)) (.t 46))⟩] ⟨false, [], []⟩)
   (.cond (.t 47) (.seq (.ops [
       ⟨(some 0), none, (.mv (.c (.bool false)))⟩] ⟨true, [0], []⟩)
     .ret)
    .skip))
  (.seq (.seq (.ops [
     ⟨(some 9), none, (.mv (.c (.int .i64 0)))⟩] ⟨false, [], []⟩)
   (.block 0 w4_L0 ⟨true, [5], []⟩))
  w4_c0)))))))⟩

@[simp] theorem w4_E0 {β : Type} {C : WProg} {b : Nat} {f : Ex × WSt → Option β} {k : List Pw.Frame} {s : WSt} : CK C b f k w4_L0 s = LK C b f (.sq w4_L0 :: k) w4_B0 (canon b ⟨true, [9, 5], []⟩ s) := ck_lp rfl
noncomputable abbrev w4_K0 (C : WProg) (s : WSt) : Option AV := CK C 0 (pureFin [.tmp 0]) [.sq w4_L0, .bk 0 ⟨true, [5], []⟩, .sq w4_c0] w4_B0 s

/- paternoster/pools.New[int] -/
def w5 : WFn := ⟨1, [.cell 2 2 true, .tmp 3],
 (.seq (.ops [
    ⟨(some 2), none, (.alloc [(.ro 1 [] true), (.ro 1 [] true)])⟩,
    ⟨(some 3), none, (.mv (.c (.int .i64 0)))⟩] ⟨false, [], []⟩)
  (.seq (.seq (.ops [
     ⟨(some 6), none, (.mv (.t 0))⟩,
     ⟨(some 7), none, (.len 1 (.t 6))⟩,
     ⟨(some 8), none, (.bin .gtr (.t 7) (.c (.int .i64 8)))⟩] ⟨true, [8, 2, 0], []⟩)
   (.cond (.t 8) (.seq (.ops [
       ⟨(some 9), none, (.build [(.ro 1 [] true), (.ro 1 [] true)] [])⟩,
       ⟨none, none, (.store 2 (.t 2) (.t 9))⟩,
       ⟨(some 3), none, (.mv (.c (.int .i64 1)))⟩] ⟨false, [], []⟩)
     .ret)
    .skip))
  (.seq (.draw [
    ⟨(some 10), none, (.mv (.t 0))⟩,
    ⟨(some 11), none, (.call 21 [(.t 10)])⟩,
    ⟨(some 12), none, (.mv (.t 0))⟩,
    ⟨(some 13), none, (.len 1 (.t 12))⟩,
    ⟨(some 14), none, (.mksl [(.ro 1 [] true)] 24 (.t 13) (.t 13))⟩,
    ⟨(some 15), none, (.build [(.ro 1 [] true), (.ro 1 [] true)] [(0, 1, (.t 11)), (1, 1, (.t 14))])⟩,
    ⟨(some 4), none, (.alloc [(.ro 1 [] true), (.ro 1 [] true)])⟩,
    ⟨none, none, (.store 2 (.t 4) (.t 15))⟩] [(1, 3), (1, 4), (1, 6), (3, 6), (4, 6)] ⟨false, [], []⟩)
  (.seq (.seq (.ops [
     ⟨(some 16), none, (.load 2 true (.t 4))⟩,
     ⟨(some 17), none, (.call 20 [(.t 16)])⟩,
     ⟨(some 5), none, (.mv (.t 17))⟩] ⟨false, [], []⟩)
   (.seq (.ops [
     ⟨(some 18), none, (.mv (.t 5))⟩,
     ⟨(some 19), none, (.bin .neq (.t 18) (.c (.int .i64 0)))⟩] ⟨false, [], []⟩)
   (.cond (.t 19) (.seq (.ops [
       ⟨(some 20), none, (.build [(.ro 1 [] true), (.ro 1 [] true)] [])⟩,
       ⟨(some 21), none, (.mv (.t 5))⟩,
       ⟨none, none, (.store 2 (.t 2) (.t 20))⟩,
       ⟨(some 3), none, (.mv (.t 21))⟩] ⟨false, [], []⟩)
     .ret)
    .skip)))
  (.seq (.ops [
    ⟨(some 22), none, (.load 2 true (.t 4))⟩,
    ⟨none, none, (.store 2 (.t 2) (.t 22))⟩,
    ⟨(some 3), none, (.mv (.c (.int .i64 0)))⟩] ⟨false, [], []⟩)
  .ret)))))⟩

/- (paternoster/paternosterlaw21.P).bounds -/
def w6_c0 : WCode := (.seq (.ops [
    ⟨(some 27), none, (.mv (.t 3))⟩,
    ⟨(some 2), none, (.mv (.t 27))⟩] ⟨false, [], []⟩)
  .ret)

def w6_B0 : WCode := (.seq (.seq (.ops [
     ⟨(some 6), none, (.mv (.t 4))⟩,
     ⟨(some 7), none, (.fld 0 (.t 1))⟩,
     ⟨(some 8), none, (.load 1 false (.t 7))⟩,
     ⟨(some 9), none, (.len 1 (.t 8))⟩,
     ⟨(some 10), none, (.bin .lss (.t 6) (.t 9))⟩,
     ⟨(some 11), none, (.mv (.t 10))⟩,
     ⟨(some 12), (some (11, true)), (.mv (.t 4))⟩,
     ⟨(some 13), (some (11, true)), (.bin .lss (.t 12) (.c (.int .i64 3)))⟩,
     ⟨(some 14), none, (.pick (.t 11) (.t 13) (.c (.bool false)))⟩] ⟨true, [14, 4, 3, 1], []⟩)
   (.cond (.t 14) .skip
    (.exit 0)))
  (.seq (.block 1 (.ops [
     ⟨(some 17), none, (.mv (.t 3))⟩,
     ⟨(some 18), none, (.fld 0 (.t 1))⟩,
     ⟨(some 19), none, (.load 1 false (.t 18))⟩,
     ⟨(some 20), none, (.mv (.t 4))⟩,
     ⟨(some 21), none, (.idxs 1 (.t 19) (.t 20))⟩,
     ⟨(some 22), none, (.load 1 false (.t 21))⟩,
     ⟨(some 23), none, (.bin .rem (.t 22) (.c (.int .u8 4)))⟩,
     ⟨(some 24), none, (.cvt .i64 (.t 23))⟩,
     ⟨(some 25), none, (.buildS [(.int .i64 0)] 1 [(0, (.t 24))])⟩,
     ⟨(some 26), none, (.app [(.int .i64 0)] 8 false (.t 17) (.t 25))⟩,
     ⟨(some 3), none, (.mv (.t 26))⟩] ⟨false, [], []⟩) ⟨false, [], []⟩)
  (.ops [
   ⟨(some 15), none, (.mv (.t 4))⟩,
   ⟨(some 16), none, (.bin .add (.t 15) (.c (.int .i64 1)))⟩,
   ⟨(some 4), none, (.mv (.t 16))⟩] ⟨false, [], []⟩)))
def w6_L0 : WCode := .loop ⟨true, [4, 3, 1], []⟩ w6_B0
def w6 : WFn := ⟨1, [.tmp 2],
 (.seq (.ops [
    ⟨(some 1), none, (.box (.t 0))⟩,
    ⟨(some 2), none, (.mv (.c (.ro 1 [] true)))⟩] ⟨false, [], []⟩)
  (.seq (.ops [
    ⟨(some 5), none, (.buildS [(.int .i64 0)] 1 [(0, (.c (.int .i64 2)))])⟩,
    ⟨(some 3), none, (.mv (.t 5))⟩] ⟨false, [], []⟩)
  (.seq (.seq (.ops [
     ⟨(some 4), none, (.mv (.c (.int .i64 0)))⟩] ⟨false, [], []⟩)
   (.block 0 w6_L0 ⟨true, [3], []⟩))
  w6_c0)))⟩

@[simp] theorem w6_E0 {β : Type} {C : WProg} {b : Nat} {f : Ex × WSt → Option β} {k : List Pw.Frame} {s : WSt} : CK C b f k w6_L0 s = LK C b f (.sq w6_L0 :: k) w6_B0 (canon b ⟨true, [4, 3, 1], []⟩ s) := ck_lp rfl
noncomputable abbrev w6_K0 (C : WProg) (s : WSt) : Option AV := CK C 0 (pureFin [.tmp 2]) [.sq w6_L0, .bk 0 ⟨true, [3], []⟩, .sq w6_c0] w6_B0 s

/- paternoster/paternosterref21.New -/
def w7 : WFn := ⟨1, [.cell 2 2 true],
 (.seq (.ops [
    ⟨(some 2), none, (.alloc [(.ro 1 [] true), (.ro 1 [] true)])⟩] ⟨false, [], []⟩)
  (.seq (.draw [
    ⟨(some 3), none, (.mv (.t 0))⟩,
    ⟨(some 4), none, (.app [(.int .i64 0)] 8 false (.c (.ro 1 [] true)) (.t 3))⟩,
    ⟨(some 5), none, (.mv (.t 0))⟩,
    ⟨(some 6), none, (.len 1 (.t 5))⟩,
    ⟨(some 7), none, (.mksl [(.ro 1 [] true)] 24 (.t 6) (.t 6))⟩,
    ⟨(some 8), none, (.build [(.ro 1 [] true), (.ro 1 [] true)] [(0, 1, (.t 4)), (1, 1, (.t 7))])⟩,
    ⟨none, none, (.store 2 (.t 2) (.t 8))⟩] [(1, 3), (1, 4)] ⟨false, [], []⟩)
  .ret))⟩

/- paternoster/paternosterlaw21.same -/
def w8_c0 : WCode := (.seq (.ops [
    ⟨(some 4), none, (.mv (.c (.int .i64 1)))⟩] ⟨false, [], []⟩)
  .ret)

def w8_B0 : WCode := (.seq (.seq (.ops [
     ⟨(some 30), none, (.mv (.t 5))⟩,
     ⟨(some 31), none, (.fld 1 (.t 2))⟩,
     ⟨(some 32), none, (.load 1 false (.t 31))⟩,
     ⟨(some 33), none, (.len 1 (.t 32))⟩,
     ⟨(some 34), none, (.bin .lss (.t 30) (.t 33))⟩] ⟨false, [], []⟩)
   (.cond (.t 34) .skip
    (.exit 0)))
  (.seq (.block 1 (.seq (.draw [
      ⟨(some 37), none, (.fld 1 (.t 2))⟩,
      ⟨(some 38), none, (.load 1 false (.t 37))⟩,
      ⟨(some 39), none, (.mv (.t 5))⟩,
      ⟨(some 40), none, (.idxs 1 (.t 38) (.t 39))⟩,
      ⟨(some 41), none, (.load 1 false (.t 40))⟩,
      ⟨(some 42), none, (.fld 1 (.t 3))⟩,
      ⟨(some 43), none, (.load 1 false (.t 42))⟩,
      ⟨(some 44), none, (.mv (.t 5))⟩,
      ⟨(some 45), none, (.idxs 1 (.t 43) (.t 44))⟩,
      ⟨(some 46), none, (.load 1 false (.t 45))⟩,
      ⟨(some 47), none, (.call 14 [(.t 41), (.t 46)])⟩,
      ⟨(some 48), none, (.bin .eql (.t 47) (.c (.int .i64 0)))⟩] [] ⟨false, [], []⟩)
    (.cond (.t 48) (.seq (.ops [
        ⟨(some 4), none, (.mv (.c (.int .i64 0)))⟩] ⟨false, [], []⟩)
      .ret)
     .skip)) ⟨false, [], []⟩)
  (.ops [
   ⟨(some 35), none, (.mv (.t 5))⟩,
   ⟨(some 36), none, (.bin .add (.t 35) (.c (.int .i64 1)))⟩,
   ⟨(some 5), none, (.mv (.t 36))⟩] ⟨false, [], []⟩)))
def w8_L0 : WCode := .loop ⟨true, [5, 3, 2], []⟩ w8_B0
def w8 : WFn := ⟨2, [.tmp 4],
 (.seq (.ops [
    ⟨(some 2), none, (.box (.t 0))⟩,
    ⟨(some 3), none, (.box (.t 1))⟩,
    ⟨(some 4), none, (.mv (.c (.int .i64 0)))⟩] ⟨false, [], []⟩)
  (.seq (.seq (.ops [
     ⟨(some 6), none, (.fld 0 (.t 2))⟩,
     ⟨(some 7), none, (.load 1 false (.t 6))⟩,
     ⟨(some 8), none, (.fld 0 (.t 3))⟩,
     ⟨(some 9), none, (.load 1 false (.t 8))⟩,
     ⟨(some 10), none, (.call 14 [(.t 7), (.t 9)])⟩,
     ⟨(some 11), none, (.bin .eql (.t 10) (.c (.int .i64 0)))⟩,
     ⟨(some 12), none, (.mv (.t 11))⟩,
     ⟨(some 13), (some (12, false)), (.fld 1 (.t 2))⟩,
     ⟨(some 14), (some (12, false)), (.load 1 false (.t 13))⟩,
     ⟨(some 15), (some (12, false)), (.len 1 (.t 14))⟩,
     ⟨(some 16), (some (12, false)), (.fld 1 (.t 3))⟩,
     ⟨(some 17), (some (12, false)), (.load 1 false (.t 16))⟩,
     ⟨(some 18), (some (12, false)), (.len 1 (.t 17))⟩,
     ⟨(some 19), (some (12, false)), (.bin .neq (.t 15) (.t 18))⟩,
     ⟨(some 20), none, (.pick (.t 12) (.c (.bool true)) (.t 19))⟩,
     ⟨(some 21), none, (.mv (.t 20))⟩,
     ⟨(some 22), (some (21, false)), (.fld 1 (.t 2))⟩,
     ⟨(some 23), (some (21, false)), (.load 1 false (.t 22))⟩,
     ⟨(some 24), (some (21, false)), (.cap (.t 23))⟩,
     ⟨(some 25), (some (21, false)), (.fld 1 (.t 2))⟩,
     ⟨(some 26), (some (21, false)), (.load 1 false (.t 25))⟩,
     ⟨(some 27), (some (21, false)), (.len 1 (.t 26))⟩,
     ⟨(some 28), (some (21, false)), (.bin .neq (.t 24) (.t 27))⟩,
     ⟨(some 29), none, (.pick (.t 21) (.c (.bool true)) (.t 28))⟩] ⟨true, [29, 3, 2], []⟩)
   (.cond (.t 29) (.seq (.ops [
       ⟨(some 4), none, (.mv (.c (.int .i64 0)))⟩] ⟨true, [4], []⟩)
     .ret)
    .skip))
  (.seq (.seq (.ops [
     ⟨(some 5), none, (.mv (.c (.int .i64 0)))⟩] ⟨false, [], []⟩)
   (.block 0 w8_L0 ⟨true, [], []⟩))
  w8_c0)))⟩

@[simp] theorem w8_E0 {β : Type} {C : WProg} {b : Nat} {f : Ex × WSt → Option β} {k : List Pw.Frame} {s : WSt} : CK C b f k w8_L0 s = LK C b f (.sq w8_L0 :: k) w8_B0 (canon b ⟨true, [5, 3, 2], []⟩ s) := ck_lp rfl
noncomputable abbrev w8_K0 (C : WProg) (s : WSt) : Option AV := CK C 0 (pureFin [.tmp 4]) [.sq w8_L0, .bk 0 ⟨true, [], []⟩, .sq w8_c0] w8_B0 s

/- paternoster/paternosterlaw21.Call -/
def w9 : WFn := ⟨2, [.cell 4 2 true, .tmp 5, .tmp 6],
 (.seq (.ops [
    ⟨(some 2), none, (.box (.t 0))⟩,
    ⟨(some 3), none, (.box (.t 1))⟩,
    ⟨(some 4), none, (.alloc [(.ro 1 [] true), (.ro 1 [] true)])⟩,
    ⟨(some 5), none, (.mv (.c (.int .i64 0)))⟩,
    ⟨(some 6), none, (.mv (.c (.bool false)))⟩] ⟨false, [], []⟩)
  (.seq (.ops [
    ⟨(some 12), none, (.fld 1 (.t 3))⟩,
    ⟨(some 13), none, (.load 1 false (.t 12))⟩,
    ⟨(some 14), none, (.cvt .i64 (.t 13))⟩,
    ⟨(some 15), none, (.fld 0 (.t 2))⟩,
    ⟨(some 16), none, (.load 1 false (.t 15))⟩,
    ⟨(some 17), none, (.len 1 (.t 16))⟩,
    ⟨(some 18), none, (.bin .rem (.t 14) (.t 17))⟩,
    ⟨(some 7), none, (.mv (.t 18))⟩] ⟨true, [7, 4, 3, 2], []⟩)
  (.seq (.block 0 (.seq (.ops [
      ⟨(some 20), none, (.fld 0 (.t 3))⟩,
      ⟨(some 21), none, (.load 1 false (.t 20))⟩,
      ⟨(some 22), none, (.bin .rem (.t 21) (.c (.int .u8 8)))⟩,
      ⟨(some 23), none, (.bin .lss (.t 22) (.c (.int .u8 4)))⟩,
      ⟨(some 19), none, (.mv (.t 23))⟩] ⟨false, [], []⟩)
    (.cond (.t 19) (.seq (.ops [
        ⟨(some 25), none, (.load 2 true (.t 2))⟩,
        ⟨(some 26), none, (.mv (.t 7))⟩,
        ⟨(some 27), none, (.fld 2 (.t 3))⟩,
        ⟨(some 28), none, (.load 1 false (.t 27))⟩,
        ⟨(some 29), none, (.cvt .i64 (.t 28))⟩,
        ⟨(some 30), none, (.call 22 [(.t 25), (.t 26), (.t 29)])⟩,
        ⟨(some 24), none, (.mv (.t 30))⟩,
        ⟨(some 31), none, (.ext 0 (.t 24))⟩,
        ⟨(some 32), none, (.ext 1 (.t 24))⟩,
        ⟨(some 8), none, (.alloc [(.ro 1 [] true), (.ro 1 [] true)])⟩,
        ⟨none, none, (.store 2 (.t 8) (.t 31))⟩,
        ⟨(some 9), none, (.mv (.t 32))⟩] ⟨true, [9, 8, 4], []⟩)
      (.seq (.ops [
        ⟨(some 33), none, (.load 2 true (.t 8))⟩,
        ⟨(some 34), none, (.mv (.t 9))⟩,
        ⟨none, none, (.store 2 (.t 4) (.t 33))⟩,
        ⟨(some 5), none, (.mv (.c (.int .i64 0)))⟩,
        ⟨(some 6), none, (.mv (.t 34))⟩] ⟨false, [], []⟩)
      .ret))
     (.seq (.ops [
        ⟨(some 36), none, (.fld 0 (.t 3))⟩,
        ⟨(some 37), none, (.load 1 false (.t 36))⟩,
        ⟨(some 38), none, (.bin .rem (.t 37) (.c (.int .u8 8)))⟩,
        ⟨(some 39), none, (.bin .lss (.t 38) (.c (.int .u8 7)))⟩,
        ⟨(some 35), none, (.mv (.t 39))⟩] ⟨false, [], []⟩)
      (.cond (.t 35) (.seq (.ops [
          ⟨(some 40), none, (.load 2 true (.t 2))⟩,
          ⟨(some 41), none, (.mv (.t 7))⟩,
          ⟨(some 42), none, (.call 23 [(.t 40), (.t 41)])⟩,
          ⟨(some 43), none, (.ext 0 (.t 42))⟩,
          ⟨(some 44), none, (.ext 1 (.t 42))⟩,
          ⟨(some 45), none, (.ext 2 (.t 42))⟩,
          ⟨none, none, (.store 2 (.t 4) (.t 43))⟩,
          ⟨(some 5), none, (.mv (.t 44))⟩,
          ⟨(some 6), none, (.mv (.t 45))⟩] ⟨false, [], []⟩)
        .ret)
       .skip)))) ⟨false, [], []⟩)
  (.seq (.ops [
    ⟨(some 47), none, (.load 2 true (.t 2))⟩,
    ⟨(some 48), none, (.fld 2 (.t 3))⟩,
    ⟨(some 49), none, (.load 1 false (.t 48))⟩,
    ⟨(some 50), none, (.bin .rem (.t 49) (.c (.int .u8 4)))⟩,
    ⟨(some 51), none, (.cvt .i64 (.t 50))⟩,
    ⟨(some 52), none, (.call 13 [(.t 47), (.t 51)])⟩,
    ⟨(some 46), none, (.mv (.t 52))⟩,
    ⟨(some 53), none, (.ext 0 (.t 46))⟩,
    ⟨(some 54), none, (.ext 1 (.t 46))⟩,
    ⟨(some 10), none, (.alloc [(.ro 1 [] true), (.ro 1 [] true)])⟩,
    ⟨none, none, (.store 2 (.t 10) (.t 53))⟩,
    ⟨(some 11), none, (.mv (.t 54))⟩] ⟨false, [], []⟩)
  (.seq (.ops [
    ⟨(some 55), none, (.load 2 true (.t 10))⟩,
    ⟨none, none, (.store 2 (.t 4) (.t 55))⟩,
    ⟨(some 5), none, (.mv (.c (.int .i64 0)))⟩,
    ⟨(some 6), none, (.mv (.c (.bool false)))⟩] ⟨false, [], []⟩)
  .ret)))))⟩

/- paternoster/pools.Push[int] -/
def w10 : WFn := ⟨3, [.cell 6 2 true, .tmp 7, .tmp 8],
 (.seq (.ops [
    ⟨(some 3), none, (.box (.t 0))⟩,
    ⟨(some 6), none, (.alloc [(.ro 1 [] true), (.ro 1 [] true)])⟩,
    ⟨(some 7), none, (.mv (.c (.bool false)))⟩,
    ⟨(some 8), none, (.mv (.c (.int .i64 0)))⟩] ⟨false, [], []⟩)
  (.seq (.seq (.ops [
     ⟨(some 11), none, (.load 2 true (.t 3))⟩,
     ⟨(some 12), none, (.mv (.t 1))⟩,
     ⟨(some 13), none, (.call 24 [(.t 11), (.t 12)])⟩,
     ⟨(some 9), none, (.mv (.t 13))⟩] ⟨false, [], []⟩)
   (.seq (.ops [
     ⟨(some 14), none, (.mv (.t 9))⟩,
     ⟨(some 15), none, (.bin .neq (.t 14) (.c (.int .i64 0)))⟩] ⟨false, [], []⟩)
   (.cond (.t 15) (.seq (.ops [
       ⟨(some 16), none, (.build [(.ro 1 [] true), (.ro 1 [] true)] [])⟩,
       ⟨(some 17), none, (.mv (.t 9))⟩,
       ⟨none, none, (.store 2 (.t 6) (.t 16))⟩,
       ⟨(some 7), none, (.mv (.c (.bool false)))⟩,
       ⟨(some 8), none, (.mv (.t 17))⟩] ⟨false, [], []⟩)
     .ret)
    .skip)))
  (.seq (.ops [
    ⟨(some 18), none, (.fld 1 (.t 3))⟩,
    ⟨(some 19), none, (.load 1 false (.t 18))⟩,
    ⟨(some 20), none, (.mv (.t 1))⟩,
    ⟨(some 21), none, (.idxs 1 (.t 19) (.t 20))⟩,
    ⟨(some 22), none, (.load 1 false (.t 21))⟩,
    ⟨(some 10), none, (.mv (.t 22))⟩] ⟨false, [], []⟩)
  (.seq (.seq (.ops [
     ⟨(some 23), none, (.mv (.t 10))⟩,
     ⟨(some 24), none, (.len 1 (.t 23))⟩,
     ⟨(some 25), none, (.fld 0 (.t 3))⟩,
     ⟨(some 26), none, (.load 1 false (.t 25))⟩,
     ⟨(some 27), none, (.mv (.t 1))⟩,
     ⟨(some 28), none, (.idxs 1 (.t 26) (.t 27))⟩,
     ⟨(some 29), none, (.load 1 false (.t 28))⟩,
     ⟨(some 30), none, (.bin .eql (.t 24) (.t 29))⟩] ⟨true, [30, 10, 6, 3, 2, 1], []⟩)
   (.cond (.t 30) (.seq (.ops [
       ⟨(some 31), none, (.load 2 true (.t 3))⟩,
       ⟨(some 32), none, (.mv (.t 1))⟩,
       ⟨(some 33), none, (.mv (.t 10))⟩,
       ⟨(some 34), none, (.call 25 [(.t 31), (.t 32), (.t 33)])⟩,
       ⟨none, none, (.store 2 (.t 6) (.t 34))⟩,
       ⟨(some 7), none, (.mv (.c (.bool true)))⟩,
       ⟨(some 8), none, (.mv (.c (.int .i64 0)))⟩] ⟨false, [], []⟩)
     .ret)
    .skip))
  (.seq (.draw [
    ⟨(some 35), none, (.load 2 true (.t 3))⟩,
    ⟨(some 36), none, (.mv (.t 1))⟩,
    ⟨(some 37), none, (.mv (.t 10))⟩,
    ⟨(some 38), none, (.call 26 [(.t 37)])⟩,
    ⟨(some 39), none, (.mv (.t 2))⟩,
    ⟨(some 40), none, (.buildS [(.int .i64 0)] 1 [(0, (.t 39))])⟩,
    ⟨(some 41), none, (.app [(.int .i64 0)] 8 false (.t 38) (.t 40))⟩,
    ⟨(some 42), none, (.call 25 [(.t 35), (.t 36), (.t 41)])⟩,
    ⟨none, none, (.store 2 (.t 6) (.t 42))⟩,
    ⟨(some 7), none, (.mv (.c (.bool false)))⟩,
    ⟨(some 8), none, (.mv (.c (.int .i64 0)))⟩] [(0, 3), (0, 5), (3, 5), (0, 6)] ⟨false, [], []⟩)
  .ret)))))⟩

/- paternoster/pools.Pop[int] -/
def w11 : WFn := ⟨2, [.cell 4 2 true, .tmp 5, .tmp 6, .tmp 7],
 (.seq (.ops [
    ⟨(some 2), none, (.box (.t 0))⟩,
    ⟨(some 4), none, (.alloc [(.ro 1 [] true), (.ro 1 [] true)])⟩,
    ⟨(some 5), none, (.mv (.c (.int .i64 0)))⟩,
    ⟨(some 6), none, (.mv (.c (.bool false)))⟩,
    ⟨(some 7), none, (.mv (.c (.int .i64 0)))⟩] ⟨true, [5, 4, 2, 1], []⟩)
  (.seq (.seq (.ops [
     ⟨(some 11), none, (.load 2 true (.t 2))⟩,
     ⟨(some 12), none, (.mv (.t 1))⟩,
     ⟨(some 13), none, (.call 24 [(.t 11), (.t 12)])⟩,
     ⟨(some 8), none, (.mv (.t 13))⟩] ⟨false, [], []⟩)
   (.seq (.ops [
     ⟨(some 14), none, (.mv (.t 8))⟩,
     ⟨(some 15), none, (.bin .neq (.t 14) (.c (.int .i64 0)))⟩] ⟨false, [], []⟩)
   (.cond (.t 15) (.seq (.ops [
       ⟨(some 16), none, (.build [(.ro 1 [] true), (.ro 1 [] true)] [])⟩,
       ⟨(some 17), none, (.mv (.t 5))⟩,
       ⟨(some 18), none, (.mv (.t 8))⟩,
       ⟨none, none, (.store 2 (.t 4) (.t 16))⟩,
       ⟨(some 5), none, (.mv (.t 17))⟩,
       ⟨(some 6), none, (.mv (.c (.bool false)))⟩,
       ⟨(some 7), none, (.mv (.t 18))⟩] ⟨false, [], []⟩)
     .ret)
    .skip)))
  (.seq (.ops [
    ⟨(some 19), none, (.fld 1 (.t 2))⟩,
    ⟨(some 20), none, (.load 1 false (.t 19))⟩,
    ⟨(some 21), none, (.mv (.t 1))⟩,
    ⟨(some 22), none, (.idxs 1 (.t 20) (.t 21))⟩,
    ⟨(some 23), none, (.load 1 false (.t 22))⟩,
    ⟨(some 9), none, (.mv (.t 23))⟩] ⟨false, [], []⟩)
  (.seq (.ops [
    ⟨(some 24), none, (.mv (.t 9))⟩,
    ⟨(some 25), none, (.len 1 (.t 24))⟩,
    ⟨(some 26), none, (.bin .sub (.t 25) (.c (.int .i64 1)))⟩,
    ⟨(some 10), none, (.mv (.t 26))⟩] ⟨false, [], []⟩)
  (.seq (.seq (.ops [
     ⟨(some 27), none, (.mv (.t 10))⟩,
     ⟨(some 28), none, (.bin .lss (.t 27) (.c (.int .i64 0)))⟩] ⟨true, [28, 10, 9, 5, 4, 2, 1], []⟩)
   (.cond (.t 28) (.seq (.ops [
       ⟨(some 29), none, (.load 2 true (.t 2))⟩,
       ⟨(some 30), none, (.mv (.t 1))⟩,
       ⟨(some 31), none, (.mv (.t 9))⟩,
       ⟨(some 32), none, (.call 25 [(.t 29), (.t 30), (.t 31)])⟩,
       ⟨(some 33), none, (.mv (.t 5))⟩,
       ⟨none, none, (.store 2 (.t 4) (.t 32))⟩,
       ⟨(some 5), none, (.mv (.t 33))⟩,
       ⟨(some 6), none, (.mv (.c (.bool false)))⟩,
       ⟨(some 7), none, (.mv (.c (.int .i64 0)))⟩] ⟨false, [], []⟩)
     .ret)
    .skip))
  (.seq (.draw [
    ⟨(some 34), none, (.load 2 true (.t 2))⟩,
    ⟨(some 35), none, (.mv (.t 1))⟩,
    ⟨(some 36), none, (.mv (.t 9))⟩,
    ⟨(some 37), none, (.mv (.t 10))⟩,
    ⟨(some 38), none, (.slice 1 (.t 36) none (some (.t 37)) none)⟩,
    ⟨(some 39), none, (.call 25 [(.t 34), (.t 35), (.t 38)])⟩,
    ⟨(some 40), none, (.mv (.t 9))⟩,
    ⟨(some 41), none, (.mv (.t 10))⟩,
    ⟨(some 42), none, (.idxs 1 (.t 40) (.t 41))⟩,
    ⟨(some 43), none, (.load 1 false (.t 42))⟩,
    ⟨none, none, (.store 2 (.t 4) (.t 39))⟩,
    ⟨(some 5), none, (.mv (.t 43))⟩,
    ⟨(some 6), none, (.mv (.c (.bool true)))⟩,
    ⟨(some 7), none, (.mv (.c (.int .i64 0)))⟩] [(5, 9), (9, 10)] ⟨false, [], []⟩)
  .ret))))))⟩

/- paternoster/pools.Trim[int] -/
def w12_c0 : WCode := (.seq (.draw [
    ⟨(some 46), none, (.load 2 true (.t 4))⟩,
    ⟨(some 47), none, (.mv (.t 5))⟩,
    ⟨(some 48), none, (.call 26 [(.t 47)])⟩,
    ⟨none, none, (.store 2 (.t 4) (.t 46))⟩,
    ⟨(some 5), none, (.mv (.t 48))⟩,
    ⟨(some 6), none, (.mv (.c (.int .i64 0)))⟩] [(0, 2)] ⟨false, [], []⟩)
  .ret)

def w12_B0 : WCode := (.seq (.ops [
    ⟨(some 25), none, (.bin .lss (.t 24) (.t 23))⟩] ⟨false, [], []⟩)
  (.seq (.cond (.t 25) .skip
    (.exit 0))
  (.seq (.block 1 (.seq (.ops [
      ⟨(some 26), none, (.mv (.t 24))⟩,
      ⟨(some 27), none, (.idxs 1 (.t 22) (.t 24))⟩,
      ⟨(some 28), none, (.load 1 false (.t 27))⟩,
      ⟨(some 8), none, (.mv (.t 26))⟩,
      ⟨(some 9), none, (.mv (.t 28))⟩] ⟨false, [], []⟩)
    (.seq (.ops [
      ⟨(some 29), none, (.mv (.t 9))⟩,
      ⟨(some 30), none, (.len 1 (.t 29))⟩,
      ⟨(some 31), none, (.mv (.t 1))⟩,
      ⟨(some 32), none, (.bin .sub (.t 30) (.t 31))⟩,
      ⟨(some 33), none, (.mx (.t 32) (.c (.int .i64 0)))⟩,
      ⟨(some 10), none, (.mv (.t 33))⟩] ⟨true, [24, 23, 22, 10, 9, 8, 5, 4, 1], []⟩)
    (.seq (.ops [
      ⟨(some 34), none, (.mv (.t 5))⟩,
      ⟨(some 35), none, (.mv (.t 9))⟩,
      ⟨(some 36), none, (.mv (.t 10))⟩,
      ⟨(some 37), none, (.slice 1 (.t 35) none (some (.t 36)) none)⟩,
      ⟨(some 38), none, (.app [(.int .i64 0)] 8 false (.t 34) (.t 37))⟩,
      ⟨(some 5), none, (.mv (.t 38))⟩] ⟨false, [], []⟩)
    (.draw [
     ⟨(some 39), none, (.load 2 true (.t 4))⟩,
     ⟨(some 40), none, (.mv (.t 8))⟩,
     ⟨(some 41), none, (.mv (.t 9))⟩,
     ⟨(some 42), none, (.mv (.t 10))⟩,
     ⟨(some 43), none, (.slice 1 (.t 41) (some (.t 42)) none none)⟩,
     ⟨(some 44), none, (.call 25 [(.t 39), (.t 40), (.t 43)])⟩,
     ⟨none, none, (.store 2 (.t 4) (.t 44))⟩] [] ⟨false, [], []⟩)))) ⟨false, [], []⟩)
  (.ops [
   ⟨(some 45), none, (.bin .add (.t 24) (.c (.int .i64 1)))⟩,
   ⟨(some 24), none, (.mv (.t 45))⟩] ⟨false, [], []⟩))))
def w12_L0 : WCode := .loop ⟨true, [24, 23, 22, 5, 4, 1], []⟩ w12_B0
def w12 : WFn := ⟨2, [.cell 4 2 true, .tmp 5, .tmp 6],
 (.seq (.ops [
    ⟨(some 2), none, (.box (.t 0))⟩,
    ⟨(some 4), none, (.alloc [(.ro 1 [] true), (.ro 1 [] true)])⟩,
    ⟨(some 5), none, (.mv (.c (.ro 1 [] true)))⟩,
    ⟨(some 6), none, (.mv (.c (.int .i64 0)))⟩] ⟨true, [5, 4, 2, 1], [(5, 1)]⟩)
  (.seq (.seq (.ops [
     ⟨(some 11), none, (.load 2 true (.t 2))⟩,
     ⟨(some 12), none, (.call 20 [(.t 11)])⟩,
     ⟨(some 7), none, (.mv (.t 12))⟩] ⟨false, [], []⟩)
   (.seq (.ops [
     ⟨(some 13), none, (.mv (.t 7))⟩,
     ⟨(some 14), none, (.bin .neq (.t 13) (.c (.int .i64 0)))⟩] ⟨true, [14, 7, 5, 4, 2, 1], []⟩)
   (.cond (.t 14) (.seq (.ops [
       ⟨(some 15), none, (.build [(.ro 1 [] true), (.ro 1 [] true)] [])⟩,
       ⟨(some 16), none, (.mv (.t 7))⟩,
       ⟨none, none, (.store 2 (.t 4) (.t 15))⟩,
       ⟨(some 5), none, (.mv (.c (.ro 1 [] true)))⟩,
       ⟨(some 6), none, (.mv (.t 16))⟩] ⟨false, [], []⟩)
     .ret)
    .skip)))
  (.seq (.seq (.ops [
     ⟨(some 17), none, (.mv (.t 1))⟩,
     ⟨(some 18), none, (.bin .lss (.t 17) (.c (.int .i64 0)))⟩] ⟨false, [], []⟩)
   (.cond (.t 18) (.seq (.ops [
       ⟨(some 19), none, (.build [(.ro 1 [] true), (.ro 1 [] true)] [])⟩,
       ⟨none, none, (.store 2 (.t 4) (.t 19))⟩,
       ⟨(some 5), none, (.mv (.c (.ro 1 [] true)))⟩,
       ⟨(some 6), none, (.mv (.c (.int .i64 4)))⟩] ⟨false, [], []⟩)
     .ret)
    .skip))
  (.seq (.ops [
    ⟨(some 20), none, (.load 2 true (.t 2))⟩,
    ⟨none, none, (.store 2 (.t 4) (.t 20))⟩] ⟨false, [], []⟩)
  (.seq (.seq (.ops [
     ⟨(some 21), none, (.fld 1 (.t 2))⟩,
     ⟨(some 22), none, (.load 1 false (.t 21))⟩,
     ⟨(some 23), none, (.len 1 (.t 22))⟩,
     ⟨(some 24), none, (.mv (.c (.int .i64 0)))⟩] ⟨false, [], []⟩)
   (.block 0 w12_L0 ⟨true, [5, 4], []⟩))
  w12_c0)))))⟩

@[simp] theorem w12_E0 {β : Type} {C : WProg} {b : Nat} {f : Ex × WSt → Option β} {k : List Pw.Frame} {s : WSt} : CK C b f k w12_L0 s = LK C b f (.sq w12_L0 :: k) w12_B0 (canon b ⟨true, [24, 23, 22, 5, 4, 1], []⟩ s) := ck_lp rfl
noncomputable abbrev w12_K0 (C : WProg) (s : WSt) : Option AV := CK C 0 (pureFin [.cell 4 2 true, .tmp 5, .tmp 6]) [.sq w12_L0, .bk 0 ⟨true, [5, 4], []⟩, .sq w12_c0] w12_B0 s

/- paternoster/paternosterref21.Trim -/
def w13_c0 : WCode := (.seq (.ops [
    ⟨(some 46), none, (.load 2 true (.t 6))⟩,
    ⟨(some 47), none, (.mv (.t 7))⟩,
    ⟨none, none, (.store 2 (.t 4) (.t 46))⟩,
    ⟨(some 5), none, (.mv (.t 47))⟩] ⟨false, [], []⟩)
  .ret)

def w13_c1 : WCode := (.ops [
   ⟨(some 16), none, (.mv (.t 8))⟩,
   ⟨(some 17), none, (.bin .add (.t 16) (.c (.int .i64 1)))⟩,
   ⟨(some 8), none, (.mv (.t 17))⟩] ⟨false, [], []⟩)

def w13_B1 : WCode := (.seq (.seq (.ops [
     ⟨(some 18), none, (.fld 1 (.t 6))⟩,
     ⟨(some 19), none, (.load 1 false (.t 18))⟩,
     ⟨(some 20), none, (.mv (.t 8))⟩,
     ⟨(some 21), none, (.idxs 1 (.t 19) (.t 20))⟩,
     ⟨(some 22), none, (.load 1 false (.t 21))⟩,
     ⟨(some 23), none, (.len 1 (.t 22))⟩,
     ⟨(some 24), none, (.mv (.t 1))⟩,
     ⟨(some 25), none, (.bin .gtr (.t 23) (.t 24))⟩] ⟨false, [], []⟩)
   (.cond (.t 25) .skip
    (.exit 2)))
  (.block 3 (.seq (.ops [
     ⟨(some 26), none, (.mv (.t 7))⟩,
     ⟨(some 27), none, (.fld 1 (.t 6))⟩,
     ⟨(some 28), none, (.load 1 false (.t 27))⟩,
     ⟨(some 29), none, (.mv (.t 8))⟩,
     ⟨(some 30), none, (.idxs 1 (.t 28) (.t 29))⟩,
     ⟨(some 31), none, (.load 1 false (.t 30))⟩,
     ⟨(some 32), none, (.idxs 1 (.t 31) (.c (.int .i64 0)))⟩,
     ⟨(some 33), none, (.load 1 false (.t 32))⟩,
     ⟨(some 34), none, (.buildS [(.int .i64 0)] 1 [(0, (.t 33))])⟩,
     ⟨(some 35), none, (.app [(.int .i64 0)] 8 false (.t 26) (.t 34))⟩,
     ⟨(some 7), none, (.mv (.t 35))⟩] ⟨true, [8, 7, 6, 4, 1], []⟩)
   (.draw [
    ⟨(some 36), none, (.fld 1 (.t 6))⟩,
    ⟨(some 37), none, (.load 1 false (.t 36))⟩,
    ⟨(some 38), none, (.mv (.t 8))⟩,
    ⟨(some 39), none, (.fld 1 (.t 6))⟩,
    ⟨(some 40), none, (.load 1 false (.t 39))⟩,
    ⟨(some 41), none, (.mv (.t 8))⟩,
    ⟨(some 42), none, (.idxs 1 (.t 40) (.t 41))⟩,
    ⟨(some 43), none, (.load 1 false (.t 42))⟩,
    ⟨(some 44), none, (.slice 1 (.t 43) (some (.c (.int .i64 1))) none none)⟩,
    ⟨(some 45), none, (.idxs 1 (.t 37) (.t 38))⟩,
    ⟨none, none, (.store 1 (.t 45) (.t 44))⟩] [] ⟨false, [], []⟩)) ⟨false, [], []⟩))
def w13_L1 : WCode := .loop ⟨true, [8, 7, 6, 4, 1], []⟩ w13_B1
def w13_B0 : WCode := (.seq (.seq (.ops [
     ⟨(some 11), none, (.mv (.t 8))⟩,
     ⟨(some 12), none, (.fld 1 (.t 6))⟩,
     ⟨(some 13), none, (.load 1 false (.t 12))⟩,
     ⟨(some 14), none, (.len 1 (.t 13))⟩,
     ⟨(some 15), none, (.bin .lss (.t 11) (.t 14))⟩] ⟨false, [], []⟩)
   (.cond (.t 15) .skip
    (.exit 0)))
  (.seq (.block 1 (.block 2 w13_L1 ⟨true, [8, 7, 6, 4, 1], []⟩) ⟨true, [8, 7, 6, 4, 1], []⟩)
  w13_c1))
def w13_L0 : WCode := .loop ⟨true, [8, 7, 6, 4, 1], []⟩ w13_B0
def w13 : WFn := ⟨2, [.cell 4 2 true, .tmp 5],
 (.seq (.ops [
    ⟨(some 2), none, (.box (.t 0))⟩,
    ⟨(some 4), none, (.alloc [(.ro 1 [] true), (.ro 1 [] true)])⟩,
    ⟨(some 5), none, (.mv (.c (.ro 1 [] true)))⟩] ⟨false, [], []⟩)
  (.seq (.ops [
    ⟨(some 9), none, (.load 2 true (.t 2))⟩,
    ⟨(some 10), none, (.call 27 [(.t 9)])⟩,
    ⟨(some 6), none, (.alloc [(.ro 1 [] true), (.ro 1 [] true)])⟩,
    ⟨none, none, (.store 2 (.t 6) (.t 10))⟩] ⟨false, [], []⟩)
  (.seq (.ops [
    ⟨(some 7), none, (.mv (.c (.ro 1 [] true)))⟩] ⟨true, [7, 6, 4, 1], [(7, 1)]⟩)
  (.seq (.seq (.ops [
     ⟨(some 8), none, (.mv (.c (.int .i64 0)))⟩] ⟨false, [], []⟩)
   (.block 0 w13_L0 ⟨true, [7, 6, 4], []⟩))
  w13_c0))))⟩

@[simp] theorem w13_E1 {β : Type} {C : WProg} {b : Nat} {f : Ex × WSt → Option β} {k : List Pw.Frame} {s : WSt} : CK C b f k w13_L1 s = LK C b f (.sq w13_L1 :: k) w13_B1 (canon b ⟨true, [8, 7, 6, 4, 1], []⟩ s) := ck_lp rfl
noncomputable abbrev w13_K1 (C : WProg) (s : WSt) : Option AV := CK C 0 (pureFin [.cell 4 2 true, .tmp 5]) [.sq w13_L1, .bk 2 ⟨true, [8, 7, 6, 4, 1], []⟩, .bk 1 ⟨true, [8, 7, 6, 4, 1], []⟩, .sq w13_c1, .sq w13_L0, .bk 0 ⟨true, [7, 6, 4], []⟩, .sq w13_c0] w13_B1 s

@[simp] theorem w13_E0 {β : Type} {C : WProg} {b : Nat} {f : Ex × WSt → Option β} {k : List Pw.Frame} {s : WSt} : CK C b f k w13_L0 s = LK C b f (.sq w13_L0 :: k) w13_B0 (canon b ⟨true, [8, 7, 6, 4, 1], []⟩ s) := ck_lp rfl
noncomputable abbrev w13_K0 (C : WProg) (s : WSt) : Option AV := CK C 0 (pureFin [.cell 4 2 true, .tmp 5]) [.sq w13_L0, .bk 0 ⟨true, [7, 6, 4], []⟩, .sq w13_c0] w13_B0 s

/- paternoster/paternosterlaw21.ints -/
def w14_c0 : WCode := (.seq (.ops [
    ⟨(some 4), none, (.mv (.c (.int .i64 1)))⟩] ⟨false, [], []⟩)
  .ret)

def w14_B0 : WCode := (.seq (.seq (.ops [
     ⟨(some 18), none, (.mv (.t 5))⟩,
     ⟨(some 19), none, (.mv (.t 0))⟩,
     ⟨(some 20), none, (.len 1 (.t 19))⟩,
     ⟨(some 21), none, (.bin .lss (.t 18) (.t 20))⟩] ⟨false, [], []⟩)
   (.cond (.t 21) .skip
    (.exit 0)))
  (.seq (.block 1 (.seq (.draw [
      ⟨(some 24), none, (.mv (.t 0))⟩,
      ⟨(some 25), none, (.mv (.t 5))⟩,
      ⟨(some 26), none, (.idxs 1 (.t 24) (.t 25))⟩,
      ⟨(some 27), none, (.load 1 false (.t 26))⟩,
      ⟨(some 28), none, (.mv (.t 1))⟩,
      ⟨(some 29), none, (.mv (.t 5))⟩,
      ⟨(some 30), none, (.idxs 1 (.t 28) (.t 29))⟩,
      ⟨(some 31), none, (.load 1 false (.t 30))⟩,
      ⟨(some 32), none, (.bin .neq (.t 27) (.t 31))⟩] [] ⟨false, [], []⟩)
    (.cond (.t 32) (.seq (.ops [
        ⟨(some 4), none, (.mv (.c (.int .i64 0)))⟩] ⟨false, [], []⟩)
      .ret)
     .skip)) ⟨false, [], []⟩)
  (.ops [
   ⟨(some 22), none, (.mv (.t 5))⟩,
   ⟨(some 23), none, (.bin .add (.t 22) (.c (.int .i64 1)))⟩,
   ⟨(some 5), none, (.mv (.t 23))⟩] ⟨false, [], []⟩)))
def w14_L0 : WCode := .loop ⟨true, [5, 1, 0], []⟩ w14_B0
def w14 : WFn := ⟨2, [.tmp 4],
 (.seq (.ops [
    ⟨(some 4), none, (.mv (.c (.int .i64 0)))⟩] ⟨false, [], []⟩)
  (.seq (.seq (.ops [
     ⟨(some 6), none, (.mv (.t 0))⟩,
     ⟨(some 7), none, (.len 1 (.t 6))⟩,
     ⟨(some 8), none, (.mv (.t 1))⟩,
     ⟨(some 9), none, (.len 1 (.t 8))⟩,
     ⟨(some 10), none, (.bin .neq (.t 7) (.t 9))⟩,
     ⟨(some 11), none, (.mv (.t 10))⟩,
     ⟨(some 12), (some (11, false)), (.mv (.t 0))⟩,
     ⟨(some 13), (some (11, false)), (.cap (.t 12))⟩,
     ⟨(some 14), (some (11, false)), (.mv (.t 0))⟩,
     ⟨(some 15), (some (11, false)), (.len 1 (.t 14))⟩,
     ⟨(some 16), (some (11, false)), (.bin .neq (.t 13) (.t 15))⟩,
     ⟨(some 17), none, (.pick (.t 11) (.c (.bool true)) (.t 16))⟩] ⟨true, [17, 1, 0], []⟩)
   (.cond (.t 17) (.seq (.ops [
       ⟨(some 4), none, (.mv (.c (.int .i64 0)))⟩] ⟨false, [], []⟩)
     .ret)
    .skip))
  (.seq (.seq (.ops [
     ⟨(some 5), none, (.mv (.c (.int .i64 0)))⟩] ⟨false, [], []⟩)
   (.block 0 w14_L0 ⟨true, [], []⟩))
  w14_c0)))⟩

@[simp] theorem w14_E0 {β : Type} {C : WProg} {b : Nat} {f : Ex × WSt → Option β} {k : List Pw.Frame} {s : WSt} : CK C b f k w14_L0 s = LK C b f (.sq w14_L0 :: k) w14_B0 (canon b ⟨true, [5, 1, 0], []⟩ s) := ck_lp rfl
noncomputable abbrev w14_K0 (C : WProg) (s : WSt) : Option AV := CK C 0 (pureFin [.tmp 4]) [.sq w14_L0, .bk 0 ⟨true, [], []⟩, .sq w14_c0] w14_B0 s

/- paternoster/pools.Len[int] -/
def w15 : WFn := ⟨2, [.tmp 4, .tmp 5],
 (.seq (.ops [
    ⟨(some 2), none, (.box (.t 0))⟩,
    ⟨(some 4), none, (.mv (.c (.int .i64 0)))⟩,
    ⟨(some 5), none, (.mv (.c (.int .i64 0)))⟩] ⟨false, [], []⟩)
  (.seq (.seq (.ops [
     ⟨(some 7), none, (.load 2 true (.t 2))⟩,
     ⟨(some 8), none, (.mv (.t 1))⟩,
     ⟨(some 9), none, (.call 24 [(.t 7), (.t 8)])⟩,
     ⟨(some 6), none, (.mv (.t 9))⟩] ⟨false, [], []⟩)
   (.seq (.ops [
     ⟨(some 10), none, (.mv (.t 6))⟩,
     ⟨(some 11), none, (.bin .neq (.t 10) (.c (.int .i64 0)))⟩] ⟨false, [], []⟩)
   (.cond (.t 11) (.seq (.ops [
       ⟨(some 12), none, (.mv (.t 6))⟩,
       ⟨(some 4), none, (.mv (.c (.int .i64 0)))⟩,
       ⟨(some 5), none, (.mv (.t 12))⟩] ⟨false, [], []⟩)
     .ret)
    .skip)))
  (.seq (.ops [
    ⟨(some 13), none, (.fld 1 (.t 2))⟩,
    ⟨(some 14), none, (.load 1 false (.t 13))⟩,
    ⟨(some 15), none, (.mv (.t 1))⟩,
    ⟨(some 16), none, (.idxs 1 (.t 14) (.t 15))⟩,
    ⟨(some 17), none, (.load 1 false (.t 16))⟩,
    ⟨(some 18), none, (.len 1 (.t 17))⟩,
    ⟨(some 4), none, (.mv (.t 18))⟩,
    ⟨(some 5), none, (.mv (.c (.int .i64 0)))⟩] ⟨false, [], []⟩)
  .ret)))⟩

/- paternoster/pools.All[int] -/
def w16 : WFn := ⟨1, [.tmp 2, .tmp 3],
 (.seq (.ops [
    ⟨(some 1), none, (.box (.t 0))⟩,
    ⟨(some 2), none, (.mv (.c (.ro 1 [] true)))⟩,
    ⟨(some 3), none, (.mv (.c (.int .i64 0)))⟩] ⟨false, [], []⟩)
  (.seq (.seq (.ops [
     ⟨(some 5), none, (.load 2 true (.t 1))⟩,
     ⟨(some 6), none, (.call 20 [(.t 5)])⟩,
     ⟨(some 4), none, (.mv (.t 6))⟩] ⟨false, [], []⟩)
   (.seq (.ops [
     ⟨(some 7), none, (.mv (.t 4))⟩,
     ⟨(some 8), none, (.bin .neq (.t 7) (.c (.int .i64 0)))⟩] ⟨false, [], []⟩)
   (.cond (.t 8) (.seq (.ops [
       ⟨(some 9), none, (.mv (.t 4))⟩,
       ⟨(some 2), none, (.mv (.c (.ro 1 [] true)))⟩,
       ⟨(some 3), none, (.mv (.t 9))⟩] ⟨false, [], []⟩)
     .ret)
    .skip)))
  (.seq (.ops [
    ⟨(some 10), none, (.fld 1 (.t 1))⟩,
    ⟨(some 11), none, (.load 1 false (.t 10))⟩,
    ⟨(some 12), none, (.call 28 [(.t 11)])⟩,
    ⟨(some 13), none, (.call 26 [(.t 12)])⟩,
    ⟨(some 2), none, (.mv (.t 13))⟩,
    ⟨(some 3), none, (.mv (.c (.int .i64 0)))⟩] ⟨false, [], []⟩)
  .ret)))⟩

/- paternoster/paternosterref21.All -/
def w17_c0 : WCode := (.seq (.ops [
    ⟨(some 19), none, (.mv (.t 3))⟩,
    ⟨(some 2), none, (.mv (.t 19))⟩] ⟨false, [], []⟩)
  .ret)

def w17_B0 : WCode := (.seq (.seq (.ops [
     ⟨(some 5), none, (.mv (.t 4))⟩,
     ⟨(some 6), none, (.fld 1 (.t 1))⟩,
     ⟨(some 7), none, (.load 1 false (.t 6))⟩,
     ⟨(some 8), none, (.len 1 (.t 7))⟩,
     ⟨(some 9), none, (.bin .lss (.t 5) (.t 8))⟩] ⟨false, [], []⟩)
   (.cond (.t 9) .skip
    (.exit 0)))
  (.seq (.block 1 (.ops [
     ⟨(some 12), none, (.mv (.t 3))⟩,
     ⟨(some 13), none, (.fld 1 (.t 1))⟩,
     ⟨(some 14), none, (.load 1 false (.t 13))⟩,
     ⟨(some 15), none, (.mv (.t 4))⟩,
     ⟨(some 16), none, (.idxs 1 (.t 14) (.t 15))⟩,
     ⟨(some 17), none, (.load 1 false (.t 16))⟩,
     ⟨(some 18), none, (.app [(.int .i64 0)] 8 false (.t 12) (.t 17))⟩,
     ⟨(some 3), none, (.mv (.t 18))⟩] ⟨false, [], []⟩) ⟨false, [], []⟩)
  (.ops [
   ⟨(some 10), none, (.mv (.t 4))⟩,
   ⟨(some 11), none, (.bin .add (.t 10) (.c (.int .i64 1)))⟩,
   ⟨(some 4), none, (.mv (.t 11))⟩] ⟨false, [], []⟩)))
def w17_L0 : WCode := .loop ⟨true, [4, 3, 1], []⟩ w17_B0
def w17 : WFn := ⟨1, [.tmp 2],
 (.seq (.ops [
    ⟨(some 1), none, (.box (.t 0))⟩,
    ⟨(some 2), none, (.mv (.c (.ro 1 [] true)))⟩] ⟨false, [], []⟩)
  (.seq (.ops [
    ⟨(some 3), none, (.mv (.c (.ro 1 [] true)))⟩] ⟨true, [3, 1], [(3, 1)]⟩)
  (.seq (.seq (.ops [
     ⟨(some 4), none, (.mv (.c (.int .i64 0)))⟩] ⟨false, [], []⟩)
   (.block 0 w17_L0 ⟨true, [3], []⟩))
  w17_c0)))⟩

@[simp] theorem w17_E0 {β : Type} {C : WProg} {b : Nat} {f : Ex × WSt → Option β} {k : List Pw.Frame} {s : WSt} : CK C b f k w17_L0 s = LK C b f (.sq w17_L0 :: k) w17_B0 (canon b ⟨true, [4, 3, 1], []⟩ s) := ck_lp rfl
noncomputable abbrev w17_K0 (C : WProg) (s : WSt) : Option AV := CK C 0 (pureFin [.tmp 2]) [.sq w17_L0, .bk 0 ⟨true, [3], []⟩, .sq w17_c0] w17_B0 s

/- paternoster/paternosterlaw21.lives -/
def w18 : WFn := ⟨0, [.tmp 0],
 (.seq (.ops [
    ⟨(some 0), none, (.mv (.c (.bool false)))⟩] ⟨false, [], []⟩)
  (.seq (.ops [
    ⟨(some 19), none, (.buildS [(.int .i64 0)] 2 [(0, (.c (.int .i64 1))), (1, (.c (.int .i64 2)))])⟩,
    ⟨(some 20), none, (.call 29 [(.t 19)])⟩,
    ⟨(some 18), none, (.mv (.t 20))⟩,
    ⟨(some 21), none, (.ext 0 (.t 18))⟩,
    ⟨(some 22), none, (.ext 1 (.t 18))⟩,
    ⟨(some 1), none, (.alloc [(.ro 1 [] true), (.ro 1 [] true)])⟩,
    ⟨none, none, (.store 2 (.t 1) (.t 21))⟩,
    ⟨(some 2), none, (.mv (.t 22))⟩] ⟨false, [], []⟩)
  (.seq (.ops [
    ⟨(some 24), none, (.load 2 true (.t 1))⟩,
    ⟨(some 25), none, (.call 30 [(.t 24), (.c (.int .i64 0)), (.c (.str [120]))])⟩,
    ⟨(some 23), none, (.mv (.t 25))⟩,
    ⟨(some 26), none, (.ext 0 (.t 23))⟩,
    ⟨(some 27), none, (.ext 1 (.t 23))⟩,
    ⟨(some 28), none, (.ext 2 (.t 23))⟩,
    ⟨(some 3), none, (.alloc [(.ro 1 [] true), (.ro 1 [] true)])⟩,
    ⟨none, none, (.store 2 (.t 3) (.t 26))⟩,
    ⟨(some 4), none, (.mv (.t 27))⟩,
    ⟨(some 5), none, (.mv (.t 28))⟩] ⟨true, [5, 4, 3, 2, 1], []⟩)
  (.seq (.ops [
    ⟨(some 30), none, (.load 2 true (.t 3))⟩,
    ⟨(some 31), none, (.call 30 [(.t 30), (.c (.int .i64 0)), (.c (.str [121]))])⟩,
    ⟨(some 29), none, (.mv (.t 31))⟩,
    ⟨(some 32), none, (.ext 0 (.t 29))⟩,
    ⟨(some 33), none, (.ext 1 (.t 29))⟩,
    ⟨(some 34), none, (.ext 2 (.t 29))⟩,
    ⟨(some 6), none, (.alloc [(.ro 1 [] true), (.ro 1 [] true)])⟩,
    ⟨none, none, (.store 2 (.t 6) (.t 32))⟩,
    ⟨(some 7), none, (.mv (.t 33))⟩,
    ⟨(some 8), none, (.mv (.t 34))⟩] ⟨false, [], []⟩)
  (.seq (.ops [
    ⟨(some 36), none, (.load 2 true (.t 6))⟩,
    ⟨(some 37), none, (.call 31 [(.t 36), (.c (.int .i64 0))])⟩,
    ⟨(some 35), none, (.mv (.t 37))⟩,
    ⟨(some 38), none, (.ext 0 (.t 35))⟩,
    ⟨(some 39), none, (.ext 1 (.t 35))⟩,
    ⟨(some 9), none, (.mv (.t 38))⟩,
    ⟨(some 10), none, (.mv (.t 39))⟩] ⟨false, [], []⟩)
  (.seq (.seq (.ops [
     ⟨(some 40), none, (.mv (.t 2))⟩,
     ⟨(some 41), none, (.mv (.t 5))⟩,
     ⟨(some 42), none, (.bin .add (.t 40) (.t 41))⟩,
     ⟨(some 43), none, (.mv (.t 8))⟩,
     ⟨(some 44), none, (.bin .add (.t 42) (.t 43))⟩,
     ⟨(some 45), none, (.mv (.t 10))⟩,
     ⟨(some 46), none, (.bin .add (.t 44) (.t 45))⟩,
     ⟨(some 47), none, (.bin .neq (.t 46) (.c (.int .i64 0)))⟩,
     ⟨(some 48), none, (.mv (.t 47))⟩,
     ⟨(some 49), (some (48, false)), (.mv (.t 4))⟩,
     ⟨(some 50), none, (.pick (.t 48) (.c (.bool true)) (.t 49))⟩,
     ⟨(some 51), none, (.mv (.t 50))⟩,
     ⟨(some 52), (some (51, false)), (.mv (.t 7))⟩,
     ⟨(some 53), (some (51, false)), (.un .not (.t 52))⟩,
     ⟨(some 54), none, (.pick (.t 51) (.c (.bool true)) (.t 53))⟩,
     ⟨(some 55), none, (.mv (.t 54))⟩,
     ⟨(some 56), (some (55, false)), (.mv (.t 9))⟩,
     ⟨(some 57), (some (55, false)), (.bin .neq (.t 56) (.c (.int .i64 1)))⟩,
     ⟨(some 58), none, (.pick (.t 55) (.c (.bool true)) (.t 57))⟩] ⟨true, [58, 3, 1], []⟩)
   (.cond (.t 58) (.seq (.ops [
       ⟨(some 0), none, (.mv (.c (.bool false)))⟩] ⟨false, [], []⟩)
     .ret)
    .skip))
  (.seq (.ops [
    ⟨(some 60), none, (.load 2 true (.t 1))⟩,
    ⟨(some 61), none, (.call 30 [(.t 60), (.c (.int .i64 1)), (.c (.str [120]))])⟩,
    ⟨(some 59), none, (.mv (.t 61))⟩,
    ⟨(some 62), none, (.ext 0 (.t 59))⟩,
    ⟨(some 63), none, (.ext 1 (.t 59))⟩,
    ⟨(some 64), none, (.ext 2 (.t 59))⟩,
    ⟨none, none, (.store 2 (.t 3) (.t 62))⟩,
    ⟨(some 2), none, (.mv (.t 64))⟩] ⟨false, [], []⟩)
  (.seq (.ops [
    ⟨(some 66), none, (.load 2 true (.t 3))⟩,
    ⟨(some 67), none, (.call 30 [(.t 66), (.c (.int .i64 1)), (.c (.str [121]))])⟩,
    ⟨(some 65), none, (.mv (.t 67))⟩,
    ⟨(some 68), none, (.ext 0 (.t 65))⟩,
    ⟨(some 69), none, (.ext 1 (.t 65))⟩,
    ⟨(some 70), none, (.ext 2 (.t 65))⟩,
    ⟨none, none, (.store 2 (.t 3) (.t 68))⟩,
    ⟨(some 5), none, (.mv (.t 70))⟩] ⟨false, [], []⟩)
  (.seq (.ops [
    ⟨(some 72), none, (.load 2 true (.t 3))⟩,
    ⟨(some 73), none, (.call 32 [(.t 72), (.c (.int .i64 1))])⟩,
    ⟨(some 71), none, (.mv (.t 73))⟩,
    ⟨(some 74), none, (.ext 0 (.t 71))⟩,
    ⟨(some 75), none, (.ext 1 (.t 71))⟩,
    ⟨(some 76), none, (.ext 2 (.t 71))⟩,
    ⟨(some 77), none, (.ext 3 (.t 71))⟩,
    ⟨(some 11), none, (.alloc [(.ro 1 [] true), (.ro 1 [] true)])⟩,
    ⟨none, none, (.store 2 (.t 11) (.t 74))⟩,
    ⟨(some 12), none, (.mv (.t 75))⟩,
    ⟨(some 13), none, (.mv (.t 76))⟩,
    ⟨(some 8), none, (.mv (.t 77))⟩] ⟨true, [13, 12, 8, 5, 3, 2, 1], []⟩)
  (.seq (.ops [
    ⟨(some 79), none, (.load 2 true (.t 3))⟩,
    ⟨(some 80), none, (.call 33 [(.t 79), (.c (.int .i64 1))])⟩,
    ⟨(some 78), none, (.mv (.t 80))⟩,
    ⟨(some 81), none, (.ext 0 (.t 78))⟩,
    ⟨(some 82), none, (.ext 1 (.t 78))⟩,
    ⟨(some 83), none, (.ext 2 (.t 78))⟩,
    ⟨(some 14), none, (.alloc [(.ro 1 [] true), (.ro 1 [] true)])⟩,
    ⟨none, none, (.store 2 (.t 14) (.t 81))⟩,
    ⟨(some 15), none, (.mv (.t 82))⟩,
    ⟨(some 10), none, (.mv (.t 83))⟩] ⟨false, [], []⟩)
  (.seq (.ops [
    ⟨(some 85), none, (.load 2 true (.t 14))⟩,
    ⟨(some 86), none, (.call 34 [(.t 85)])⟩,
    ⟨(some 84), none, (.mv (.t 86))⟩,
    ⟨(some 87), none, (.ext 0 (.t 84))⟩,
    ⟨(some 88), none, (.ext 1 (.t 84))⟩,
    ⟨(some 16), none, (.mv (.t 87))⟩,
    ⟨(some 17), none, (.mv (.t 88))⟩] ⟨false, [], []⟩)
  (.seq (.seq (.ops [
     ⟨(some 89), none, (.mv (.t 2))⟩,
     ⟨(some 90), none, (.mv (.t 5))⟩,
     ⟨(some 91), none, (.bin .add (.t 89) (.t 90))⟩,
     ⟨(some 92), none, (.mv (.t 8))⟩,
     ⟨(some 93), none, (.bin .add (.t 91) (.t 92))⟩,
     ⟨(some 94), none, (.mv (.t 10))⟩,
     ⟨(some 95), none, (.bin .add (.t 93) (.t 94))⟩,
     ⟨(some 96), none, (.mv (.t 17))⟩,
     ⟨(some 97), none, (.bin .add (.t 95) (.t 96))⟩,
     ⟨(some 98), none, (.bin .neq (.t 97) (.c (.int .i64 0)))⟩,
     ⟨(some 99), none, (.mv (.t 98))⟩,
     ⟨(some 100), (some (99, false)), (.mv (.t 12))⟩,
     ⟨(some 101), (some (99, false)), (.bin .neq (.t 100) (.c (.str [121])))⟩,
     ⟨(some 102), none, (.pick (.t 99) (.c (.bool true)) (.t 101))⟩,
     ⟨(some 103), none, (.mv (.t 102))⟩,
     ⟨(some 104), (some (103, false)), (.mv (.t 13))⟩,
     ⟨(some 105), (some (103, false)), (.un .not (.t 104))⟩,
     ⟨(some 106), none, (.pick (.t 103) (.c (.bool true)) (.t 105))⟩,
     ⟨(some 107), none, (.mv (.t 106))⟩,
     ⟨(some 108), (some (107, false)), (.mv (.t 15))⟩,
     ⟨(some 109), (some (107, false)), (.len 1 (.t 108))⟩,
     ⟨(some 110), (some (107, false)), (.bin .neq (.t 109) (.c (.int .i64 1)))⟩,
     ⟨(some 111), none, (.pick (.t 107) (.c (.bool true)) (.t 110))⟩,
     ⟨(some 112), none, (.mv (.t 111))⟩,
     ⟨(some 113), (some (112, false)), (.mv (.t 15))⟩,
     ⟨(some 114), (some (112, false)), (.idxs 1 (.t 113) (.c (.int .i64 0)))⟩,
     ⟨(some 115), (some (112, false)), (.load 1 false (.t 114))⟩,
     ⟨(some 116), (some (112, false)), (.bin .neq (.t 115) (.c (.str [120])))⟩,
     ⟨(some 117), none, (.pick (.t 112) (.c (.bool true)) (.t 116))⟩,
     ⟨(some 118), none, (.mv (.t 117))⟩,
     ⟨(some 119), (some (118, false)), (.mv (.t 16))⟩,
     ⟨(some 120), (some (118, false)), (.len 1 (.t 119))⟩,
     ⟨(some 121), (some (118, false)), (.bin .neq (.t 120) (.c (.int .i64 1)))⟩,
     ⟨(some 122), none, (.pick (.t 118) (.c (.bool true)) (.t 121))⟩,
     ⟨(some 123), none, (.mv (.t 122))⟩,
     ⟨(some 124), (some (123, false)), (.mv (.t 16))⟩,
     ⟨(some 125), (some (123, false)), (.idxs 1 (.t 124) (.c (.int .i64 0)))⟩,
     ⟨(some 126), (some (123, false)), (.load 1 false (.t 125))⟩,
     ⟨(some 127), (some (123, false)), (.bin .neq (.t 126) (.c (.str [121])))⟩,
     ⟨(some 128), none, (.pick (.t 123) (.c (.bool true)) (.t 127))⟩] ⟨true, [128, 1], []⟩)
   (.cond (.t 128) (.seq (.ops [
       ⟨(some 0), none, (.mv (.c (.bool false)))⟩] ⟨true, [0], []⟩)
     .ret)
    .skip))
  (.seq (.ops [
    ⟨(some 130), none, (.load 2 true (.t 1))⟩,
    ⟨(some 131), none, (.call 32 [(.t 130), (.c (.int .i64 0))])⟩,
    ⟨(some 129), none, (.mv (.t 131))⟩,
    ⟨(some 132), none, (.ext 0 (.t 129))⟩,
    ⟨(some 133), none, (.ext 1 (.t 129))⟩,
    ⟨(some 134), none, (.ext 2 (.t 129))⟩,
    ⟨(some 135), none, (.ext 3 (.t 129))⟩,
    ⟨(some 13), none, (.mv (.t 134))⟩,
    ⟨(some 2), none, (.mv (.t 135))⟩] ⟨false, [], []⟩)
  (.seq (.ops [
    ⟨(some 137), none, (.load 2 true (.t 1))⟩,
    ⟨(some 138), none, (.call 30 [(.t 137), (.c (.int .i64 2)), (.c (.str [120]))])⟩,
    ⟨(some 136), none, (.mv (.t 138))⟩,
    ⟨(some 139), none, (.ext 0 (.t 136))⟩,
    ⟨(some 140), none, (.ext 1 (.t 136))⟩,
    ⟨(some 141), none, (.ext 2 (.t 136))⟩,
    ⟨(some 5), none, (.mv (.t 141))⟩] ⟨false, [], []⟩)
  (.seq (.ops [
    ⟨(some 143), none, (.load 2 true (.t 1))⟩,
    ⟨(some 144), none, (.call 33 [(.t 143), (.c (.int .i64 (-1)))])⟩,
    ⟨(some 142), none, (.mv (.t 144))⟩,
    ⟨(some 145), none, (.ext 0 (.t 142))⟩,
    ⟨(some 146), none, (.ext 1 (.t 142))⟩,
    ⟨(some 147), none, (.ext 2 (.t 142))⟩,
    ⟨(some 8), none, (.mv (.t 147))⟩] ⟨false, [], []⟩)
  (.seq (.ops [
    ⟨(some 149), none, (.call 29 [(.c (.ro 1 [] true))])⟩,
    ⟨(some 148), none, (.mv (.t 149))⟩,
    ⟨(some 150), none, (.ext 0 (.t 148))⟩,
    ⟨(some 151), none, (.ext 1 (.t 148))⟩,
    ⟨(some 10), none, (.mv (.t 151))⟩] ⟨true, [13, 10, 8, 5, 2], []⟩)
  (.seq (.ops [
    ⟨(some 152), none, (.mv (.t 2))⟩,
    ⟨(some 153), none, (.bin .eql (.t 152) (.c (.int .i64 0)))⟩,
    ⟨(some 154), none, (.mv (.t 153))⟩,
    ⟨(some 155), (some (154, true)), (.mv (.t 13))⟩,
    ⟨(some 156), (some (154, true)), (.un .not (.t 155))⟩,
    ⟨(some 157), none, (.pick (.t 154) (.t 156) (.c (.bool false)))⟩,
    ⟨(some 158), none, (.mv (.t 157))⟩,
    ⟨(some 159), (some (158, true)), (.mv (.t 5))⟩,
    ⟨(some 160), (some (158, true)), (.bin .eql (.t 159) (.c (.int .i64 4)))⟩,
    ⟨(some 161), none, (.pick (.t 158) (.t 160) (.c (.bool false)))⟩,
    ⟨(some 162), none, (.mv (.t 161))⟩,
    ⟨(some 163), (some (162, true)), (.mv (.t 8))⟩,
    ⟨(some 164), (some (162, true)), (.bin .eql (.t 163) (.c (.int .i64 4)))⟩,
    ⟨(some 165), none, (.pick (.t 162) (.t 164) (.c (.bool false)))⟩,
    ⟨(some 166), none, (.mv (.t 165))⟩,
    ⟨(some 167), (some (166, true)), (.mv (.t 10))⟩,
    ⟨(some 168), (some (166, true)), (.bin .eql (.t 167) (.c (.int .i64 1)))⟩,
    ⟨(some 169), none, (.pick (.t 166) (.t 168) (.c (.bool false)))⟩,
    ⟨(some 0), none, (.mv (.t 169))⟩] ⟨false, [], []⟩)
  .ret)))))))))))))))))⟩

/- paternoster/paternosterref21.Check -/
def w19_c0 : WCode := (.seq (.seq (.ops [
     ⟨(some 63), none, (.mv (.t 3))⟩] ⟨false, [], []⟩)
   (.cond (.t 63) (.seq (.ops [
       ⟨(some 2), none, (.mv (.c (.int .i64 1)))⟩] ⟨false, [], []⟩)
     .ret)
    .skip))
  (.seq (.ops [
    ⟨(some 2), none, (.mv (.c (.int .i64 0)))⟩] ⟨false, [], []⟩)
  .ret))

def w19_B0 : WCode := (.seq (.seq (.ops [
     ⟨(some 24), none, (.mv (.t 4))⟩,
     ⟨(some 25), none, (.fld 0 (.t 1))⟩,
     ⟨(some 26), none, (.load 1 false (.t 25))⟩,
     ⟨(some 27), none, (.len 1 (.t 26))⟩,
     ⟨(some 28), none, (.bin .lss (.t 24) (.t 27))⟩,
     ⟨(some 29), none, (.mv (.t 28))⟩,
     ⟨(some 30), (some (29, true)), (.mv (.t 3))⟩,
     ⟨(some 31), (some (29, true)), (.un .not (.t 30))⟩,
     ⟨(some 32), none, (.pick (.t 29) (.t 31) (.c (.bool false)))⟩] ⟨false, [], []⟩)
   (.cond (.t 32) .skip
    (.exit 0)))
  (.seq (.block 1 (.draw [
     ⟨(some 35), none, (.fld 0 (.t 1))⟩,
     ⟨(some 36), none, (.load 1 false (.t 35))⟩,
     ⟨(some 37), none, (.mv (.t 4))⟩,
     ⟨(some 38), none, (.idxs 1 (.t 36) (.t 37))⟩,
     ⟨(some 39), none, (.load 1 false (.t 38))⟩,
     ⟨(some 40), none, (.bin .lss (.t 39) (.c (.int .i64 0)))⟩,
     ⟨(some 41), none, (.mv (.t 40))⟩,
     ⟨(some 42), (some (41, false)), (.fld 0 (.t 1))⟩,
     ⟨(some 43), (some (41, false)), (.load 1 false (.t 42))⟩,
     ⟨(some 44), (some (41, false)), (.mv (.t 4))⟩,
     ⟨(some 45), (some (41, false)), (.idxs 1 (.t 43) (.t 44))⟩,
     ⟨(some 46), (some (41, false)), (.load 1 false (.t 45))⟩,
     ⟨(some 47), (some (41, false)), (.bin .gtr (.t 46) (.c (.int .i64 65536)))⟩,
     ⟨(some 48), none, (.pick (.t 41) (.c (.bool true)) (.t 47))⟩,
     ⟨(some 49), none, (.mv (.t 48))⟩,
     ⟨(some 50), (some (49, false)), (.fld 1 (.t 1))⟩,
     ⟨(some 51), (some (49, false)), (.load 1 false (.t 50))⟩,
     ⟨(some 52), (some (49, false)), (.mv (.t 4))⟩,
     ⟨(some 53), (some (49, false)), (.idxs 1 (.t 51) (.t 52))⟩,
     ⟨(some 54), (some (49, false)), (.load 1 false (.t 53))⟩,
     ⟨(some 55), (some (49, false)), (.len 1 (.t 54))⟩,
     ⟨(some 56), (some (49, false)), (.fld 0 (.t 1))⟩,
     ⟨(some 57), (some (49, false)), (.load 1 false (.t 56))⟩,
     ⟨(some 58), (some (49, false)), (.mv (.t 4))⟩,
     ⟨(some 59), (some (49, false)), (.idxs 1 (.t 57) (.t 58))⟩,
     ⟨(some 60), (some (49, false)), (.load 1 false (.t 59))⟩,
     ⟨(some 61), (some (49, false)), (.bin .gtr (.t 55) (.t 60))⟩,
     ⟨(some 62), none, (.pick (.t 49) (.c (.bool true)) (.t 61))⟩,
     ⟨(some 3), none, (.mv (.t 62))⟩] [] ⟨true, [4, 3, 1], []⟩) ⟨false, [], []⟩)
  (.ops [
   ⟨(some 33), none, (.mv (.t 4))⟩,
   ⟨(some 34), none, (.bin .add (.t 33) (.c (.int .i64 1)))⟩,
   ⟨(some 4), none, (.mv (.t 34))⟩] ⟨false, [], []⟩)))
def w19_L0 : WCode := .loop ⟨true, [4, 3, 1], []⟩ w19_B0
def w19 : WFn := ⟨1, [.tmp 2],
 (.seq (.ops [
    ⟨(some 1), none, (.box (.t 0))⟩,
    ⟨(some 2), none, (.mv (.c (.int .i64 0)))⟩] ⟨false, [], []⟩)
  (.seq (.ops [
    ⟨(some 5), none, (.fld 0 (.t 1))⟩,
    ⟨(some 6), none, (.load 1 false (.t 5))⟩,
    ⟨(some 7), none, (.len 1 (.t 6))⟩,
    ⟨(some 8), none, (.bin .lss (.t 7) (.c (.int .i64 1)))⟩,
    ⟨(some 9), none, (.mv (.t 8))⟩,
    ⟨(some 10), (some (9, false)), (.fld 0 (.t 1))⟩,
    ⟨(some 11), (some (9, false)), (.load 1 false (.t 10))⟩,
    ⟨(some 12), (some (9, false)), (.len 1 (.t 11))⟩,
    ⟨(some 13), (some (9, false)), (.bin .gtr (.t 12) (.c (.int .i64 8)))⟩,
    ⟨(some 14), none, (.pick (.t 9) (.c (.bool true)) (.t 13))⟩,
    ⟨(some 15), none, (.mv (.t 14))⟩,
    ⟨(some 16), (some (15, false)), (.fld 0 (.t 1))⟩,
    ⟨(some 17), (some (15, false)), (.load 1 false (.t 16))⟩,
    ⟨(some 18), (some (15, false)), (.len 1 (.t 17))⟩,
    ⟨(some 19), (some (15, false)), (.fld 1 (.t 1))⟩,
    ⟨(some 20), (some (15, false)), (.load 1 false (.t 19))⟩,
    ⟨(some 21), (some (15, false)), (.len 1 (.t 20))⟩,
    ⟨(some 22), (some (15, false)), (.bin .neq (.t 18) (.t 21))⟩,
    ⟨(some 23), none, (.pick (.t 15) (.c (.bool true)) (.t 22))⟩,
    ⟨(some 3), none, (.mv (.t 23))⟩] ⟨true, [3, 1], []⟩)
  (.seq (.seq (.ops [
     ⟨(some 4), none, (.mv (.c (.int .i64 0)))⟩] ⟨false, [], []⟩)
   (.block 0 w19_L0 ⟨true, [3], []⟩))
  w19_c0)))⟩

@[simp] theorem w19_E0 {β : Type} {C : WProg} {b : Nat} {f : Ex × WSt → Option β} {k : List Pw.Frame} {s : WSt} : CK C b f k w19_L0 s = LK C b f (.sq w19_L0 :: k) w19_B0 (canon b ⟨true, [4, 3, 1], []⟩ s) := ck_lp rfl
noncomputable abbrev w19_K0 (C : WProg) (s : WSt) : Option AV := CK C 0 (pureFin [.tmp 2]) [.sq w19_L0, .bk 0 ⟨true, [3], []⟩, .sq w19_c0] w19_B0 s

/- paternoster/pools.Check[int] -/
def w20_c0 : WCode := (.seq (.ops [
    ⟨(some 2), none, (.mv (.c (.int .i64 0)))⟩] ⟨false, [], []⟩)
  .ret)

def w20_B0 : WCode := (.seq (.ops [
    ⟨(some 26), none, (.bin .lss (.t 25) (.t 24))⟩] ⟨false, [], []⟩)
  (.seq (.cond (.t 26) .skip
    (.exit 0))
  (.seq (.block 1 (.seq (.ops [
      ⟨(some 27), none, (.mv (.t 25))⟩,
      ⟨(some 28), none, (.idxs 1 (.t 23) (.t 25))⟩,
      ⟨(some 29), none, (.load 1 false (.t 28))⟩,
      ⟨(some 4), none, (.mv (.t 27))⟩,
      ⟨(some 5), none, (.mv (.t 29))⟩] ⟨true, [25, 24, 23, 5, 4, 1], []⟩)
    (.seq (.ops [
      ⟨(some 30), none, (.mv (.t 5))⟩,
      ⟨(some 31), none, (.bin .lss (.t 30) (.c (.int .i64 0)))⟩,
      ⟨(some 32), none, (.mv (.t 31))⟩,
      ⟨(some 33), (some (32, false)), (.mv (.t 5))⟩,
      ⟨(some 34), (some (32, false)), (.bin .gtr (.t 33) (.c (.int .i64 65536)))⟩,
      ⟨(some 35), none, (.pick (.t 32) (.c (.bool true)) (.t 34))⟩,
      ⟨(some 36), none, (.mv (.t 35))⟩,
      ⟨(some 37), (some (36, false)), (.fld 1 (.t 1))⟩,
      ⟨(some 38), (some (36, false)), (.load 1 false (.t 37))⟩,
      ⟨(some 39), (some (36, false)), (.mv (.t 4))⟩,
      ⟨(some 40), (some (36, false)), (.idxs 1 (.t 38) (.t 39))⟩,
      ⟨(some 41), (some (36, false)), (.load 1 false (.t 40))⟩,
      ⟨(some 42), (some (36, false)), (.len 1 (.t 41))⟩,
      ⟨(some 43), (some (36, false)), (.mv (.t 5))⟩,
      ⟨(some 44), (some (36, false)), (.bin .gtr (.t 42) (.t 43))⟩,
      ⟨(some 45), none, (.pick (.t 36) (.c (.bool true)) (.t 44))⟩] ⟨false, [], []⟩)
    (.cond (.t 45) (.seq (.ops [
        ⟨(some 2), none, (.mv (.c (.int .i64 1)))⟩] ⟨false, [], []⟩)
      .ret)
     .skip))) ⟨false, [], []⟩)
  (.ops [
   ⟨(some 46), none, (.bin .add (.t 25) (.c (.int .i64 1)))⟩,
   ⟨(some 25), none, (.mv (.t 46))⟩] ⟨false, [], []⟩))))
def w20_L0 : WCode := .loop ⟨true, [25, 24, 23, 1], []⟩ w20_B0
def w20 : WFn := ⟨1, [.tmp 2],
 (.seq (.ops [
    ⟨(some 1), none, (.box (.t 0))⟩,
    ⟨(some 2), none, (.mv (.c (.int .i64 0)))⟩] ⟨true, [1], []⟩)
  (.seq (.ops [
    ⟨(some 6), none, (.fld 0 (.t 1))⟩,
    ⟨(some 7), none, (.load 1 false (.t 6))⟩,
    ⟨(some 8), none, (.len 1 (.t 7))⟩,
    ⟨(some 3), none, (.mv (.t 8))⟩] ⟨false, [], []⟩)
  (.seq (.seq (.ops [
     ⟨(some 9), none, (.mv (.t 3))⟩,
     ⟨(some 10), none, (.bin .lss (.t 9) (.c (.int .i64 1)))⟩,
     ⟨(some 11), none, (.mv (.t 10))⟩,
     ⟨(some 12), (some (11, false)), (.mv (.t 3))⟩,
     ⟨(some 13), (some (11, false)), (.bin .gtr (.t 12) (.c (.int .i64 8)))⟩,
     ⟨(some 14), none, (.pick (.t 11) (.c (.bool true)) (.t 13))⟩,
     ⟨(some 15), none, (.mv (.t 14))⟩,
     ⟨(some 16), (some (15, false)), (.fld 1 (.t 1))⟩,
     ⟨(some 17), (some (15, false)), (.load 1 false (.t 16))⟩,
     ⟨(some 18), (some (15, false)), (.len 1 (.t 17))⟩,
     ⟨(some 19), (some (15, false)), (.mv (.t 3))⟩,
     ⟨(some 20), (some (15, false)), (.bin .neq (.t 18) (.t 19))⟩,
     ⟨(some 21), none, (.pick (.t 15) (.c (.bool true)) (.t 20))⟩] ⟨false, [], []⟩)
   (.cond (.t 21) (.seq (.ops [
       ⟨(some 2), none, (.mv (.c (.int .i64 1)))⟩] ⟨false, [], []⟩)
     .ret)
    .skip))
  (.seq (.seq (.ops [
     ⟨(some 22), none, (.fld 0 (.t 1))⟩,
     ⟨(some 23), none, (.load 1 false (.t 22))⟩,
     ⟨(some 24), none, (.len 1 (.t 23))⟩,
     ⟨(some 25), none, (.mv (.c (.int .i64 0)))⟩] ⟨false, [], []⟩)
   (.block 0 w20_L0 ⟨true, [], []⟩))
  w20_c0))))⟩

@[simp] theorem w20_E0 {β : Type} {C : WProg} {b : Nat} {f : Ex × WSt → Option β} {k : List Pw.Frame} {s : WSt} : CK C b f k w20_L0 s = LK C b f (.sq w20_L0 :: k) w20_B0 (canon b ⟨true, [25, 24, 23, 1], []⟩ s) := ck_lp rfl
noncomputable abbrev w20_K0 (C : WProg) (s : WSt) : Option AV := CK C 0 (pureFin [.tmp 2]) [.sq w20_L0, .bk 0 ⟨true, [], []⟩, .sq w20_c0] w20_B0 s

/- paternoster/pools.copied[int] -/
def w21 : WFn := ⟨1, [.tmp 2],
 (.seq (.ops [
    ⟨(some 2), none, (.mv (.c (.ro 1 [] true)))⟩] ⟨false, [], []⟩)
  (.seq (.ops [
    ⟨(some 4), none, (.mv (.t 0))⟩,
    ⟨(some 5), none, (.len 1 (.t 4))⟩,
    ⟨(some 6), none, (.mksl [(.int .i64 0)] 8 (.t 5) (.t 5))⟩,
    ⟨(some 3), none, (.mv (.t 6))⟩] ⟨false, [], []⟩)
  (.seq (.ops [
    ⟨(some 7), none, (.mv (.t 3))⟩,
    ⟨(some 8), none, (.mv (.t 0))⟩,
    ⟨(some 9), none, (.cpy 1 (.t 7) (.t 8))⟩] ⟨false, [], []⟩)
  (.seq (.ops [
    ⟨(some 10), none, (.mv (.t 3))⟩,
    ⟨(some 2), none, (.mv (.t 10))⟩] ⟨false, [], []⟩)
  .ret))))⟩

/- paternoster/paternosterref21.Push -/
def w22 : WFn := ⟨3, [.cell 6 2 true, .tmp 7],
 (.seq (.ops [
    ⟨(some 3), none, (.box (.t 0))⟩,
    ⟨(some 6), none, (.alloc [(.ro 1 [] true), (.ro 1 [] true)])⟩,
    ⟨(some 7), none, (.mv (.c (.bool false)))⟩] ⟨false, [], []⟩)
  (.seq (.ops [
    ⟨(some 9), none, (.load 2 true (.t 3))⟩,
    ⟨(some 10), none, (.call 27 [(.t 9)])⟩,
    ⟨(some 8), none, (.alloc [(.ro 1 [] true), (.ro 1 [] true)])⟩,
    ⟨none, none, (.store 2 (.t 8) (.t 10))⟩] ⟨false, [], []⟩)
  (.seq (.seq (.draw [
     ⟨(some 11), none, (.fld 1 (.t 8))⟩,
     ⟨(some 12), none, (.load 1 false (.t 11))⟩,
     ⟨(some 13), none, (.mv (.t 1))⟩,
     ⟨(some 14), none, (.idxs 1 (.t 12) (.t 13))⟩,
     ⟨(some 15), none, (.load 1 false (.t 14))⟩,
     ⟨(some 16), none, (.len 1 (.t 15))⟩,
     ⟨(some 17), none, (.fld 0 (.t 8))⟩,
     ⟨(some 18), none, (.load 1 false (.t 17))⟩,
     ⟨(some 19), none, (.mv (.t 1))⟩,
     ⟨(some 20), none, (.idxs 1 (.t 18) (.t 19))⟩,
     ⟨(some 21), none, (.load 1 false (.t 20))⟩,
     ⟨(some 22), none, (.bin .geq (.t 16) (.t 21))⟩] [] ⟨true, [22, 8, 6, 2, 1], []⟩)
   (.cond (.t 22) (.seq (.ops [
       ⟨(some 23), none, (.load 2 true (.t 8))⟩,
       ⟨none, none, (.store 2 (.t 6) (.t 23))⟩,
       ⟨(some 7), none, (.mv (.c (.bool true)))⟩] ⟨false, [], []⟩)
     .ret)
    .skip))
  (.seq (.draw [
    ⟨(some 24), none, (.fld 1 (.t 8))⟩,
    ⟨(some 25), none, (.load 1 false (.t 24))⟩,
    ⟨(some 26), none, (.mv (.t 1))⟩,
    ⟨(some 27), none, (.fld 1 (.t 8))⟩,
    ⟨(some 28), none, (.load 1 false (.t 27))⟩,
    ⟨(some 29), none, (.mv (.t 1))⟩,
    ⟨(some 30), none, (.idxs 1 (.t 28) (.t 29))⟩,
    ⟨(some 31), none, (.load 1 false (.t 30))⟩,
    ⟨(some 32), none, (.mv (.t 2))⟩,
    ⟨(some 33), none, (.buildS [(.int .i64 0)] 1 [(0, (.t 32))])⟩,
    ⟨(some 34), none, (.app [(.int .i64 0)] 8 false (.t 31) (.t 33))⟩,
    ⟨(some 35), none, (.idxs 1 (.t 25) (.t 26))⟩,
    ⟨none, none, (.store 1 (.t 35) (.t 34))⟩] [(1, 9), (4, 9), (7, 9), (1, 10)] ⟨false, [], []⟩)
  (.seq (.ops [
    ⟨(some 36), none, (.load 2 true (.t 8))⟩,
    ⟨none, none, (.store 2 (.t 6) (.t 36))⟩,
    ⟨(some 7), none, (.mv (.c (.bool false)))⟩] ⟨false, [], []⟩)
  .ret)))))⟩

/- paternoster/paternosterref21.Pop -/
def w23 : WFn := ⟨2, [.cell 4 2 true, .tmp 5, .tmp 6],
 (.seq (.ops [
    ⟨(some 2), none, (.box (.t 0))⟩,
    ⟨(some 4), none, (.alloc [(.ro 1 [] true), (.ro 1 [] true)])⟩,
    ⟨(some 5), none, (.mv (.c (.int .i64 0)))⟩,
    ⟨(some 6), none, (.mv (.c (.bool false)))⟩] ⟨false, [], []⟩)
  (.seq (.ops [
    ⟨(some 10), none, (.load 2 true (.t 2))⟩,
    ⟨(some 11), none, (.call 27 [(.t 10)])⟩,
    ⟨(some 7), none, (.alloc [(.ro 1 [] true), (.ro 1 [] true)])⟩,
    ⟨none, none, (.store 2 (.t 7) (.t 11))⟩] ⟨false, [], []⟩)
  (.seq (.ops [
    ⟨(some 12), none, (.fld 1 (.t 7))⟩,
    ⟨(some 13), none, (.load 1 false (.t 12))⟩,
    ⟨(some 14), none, (.mv (.t 1))⟩,
    ⟨(some 15), none, (.idxs 1 (.t 13) (.t 14))⟩,
    ⟨(some 16), none, (.load 1 false (.t 15))⟩,
    ⟨(some 17), none, (.len 1 (.t 16))⟩,
    ⟨(some 8), none, (.mv (.t 17))⟩] ⟨false, [], []⟩)
  (.seq (.seq (.ops [
     ⟨(some 18), none, (.mv (.t 8))⟩,
     ⟨(some 19), none, (.bin .eql (.t 18) (.c (.int .i64 0)))⟩] ⟨false, [], []⟩)
   (.cond (.t 19) (.seq (.ops [
       ⟨(some 20), none, (.load 2 true (.t 7))⟩,
       ⟨none, none, (.store 2 (.t 4) (.t 20))⟩,
       ⟨(some 5), none, (.mv (.c (.int .i64 0)))⟩,
       ⟨(some 6), none, (.mv (.c (.bool false)))⟩] ⟨false, [], []⟩)
     .ret)
    .skip))
  (.seq (.ops [
    ⟨(some 21), none, (.fld 1 (.t 7))⟩,
    ⟨(some 22), none, (.load 1 false (.t 21))⟩,
    ⟨(some 23), none, (.mv (.t 1))⟩,
    ⟨(some 24), none, (.idxs 1 (.t 22) (.t 23))⟩,
    ⟨(some 25), none, (.load 1 false (.t 24))⟩,
    ⟨(some 26), none, (.mv (.t 8))⟩,
    ⟨(some 27), none, (.bin .sub (.t 26) (.c (.int .i64 1)))⟩,
    ⟨(some 28), none, (.idxs 1 (.t 25) (.t 27))⟩,
    ⟨(some 29), none, (.load 1 false (.t 28))⟩,
    ⟨(some 9), none, (.mv (.t 29))⟩] ⟨true, [9, 8, 7, 4, 1], []⟩)
  (.seq (.draw [
    ⟨(some 30), none, (.fld 1 (.t 7))⟩,
    ⟨(some 31), none, (.load 1 false (.t 30))⟩,
    ⟨(some 32), none, (.mv (.t 1))⟩,
    ⟨(some 33), none, (.fld 1 (.t 7))⟩,
    ⟨(some 34), none, (.load 1 false (.t 33))⟩,
    ⟨(some 35), none, (.mv (.t 1))⟩,
    ⟨(some 36), none, (.idxs 1 (.t 34) (.t 35))⟩,
    ⟨(some 37), none, (.load 1 false (.t 36))⟩,
    ⟨(some 38), none, (.mv (.t 8))⟩,
    ⟨(some 39), none, (.bin .sub (.t 38) (.c (.int .i64 1)))⟩,
    ⟨(some 40), none, (.slice 1 (.t 37) none (some (.t 39)) none)⟩,
    ⟨(some 41), none, (.idxs 1 (.t 31) (.t 32))⟩,
    ⟨none, none, (.store 1 (.t 41) (.t 40))⟩] [] ⟨false, [], []⟩)
  (.seq (.ops [
    ⟨(some 42), none, (.load 2 true (.t 7))⟩,
    ⟨(some 43), none, (.mv (.t 9))⟩,
    ⟨none, none, (.store 2 (.t 4) (.t 42))⟩,
    ⟨(some 5), none, (.mv (.t 43))⟩,
    ⟨(some 6), none, (.mv (.c (.bool true)))⟩] ⟨false, [], []⟩)
  .ret)))))))⟩

/- paternoster/pools.of[int] -/
def w24 : WFn := ⟨2, [.tmp 4],
 (.seq (.ops [
    ⟨(some 2), none, (.box (.t 0))⟩,
    ⟨(some 4), none, (.mv (.c (.int .i64 0)))⟩] ⟨false, [], []⟩)
  (.seq (.seq (.ops [
     ⟨(some 6), none, (.load 2 true (.t 2))⟩,
     ⟨(some 7), none, (.call 20 [(.t 6)])⟩,
     ⟨(some 5), none, (.mv (.t 7))⟩] ⟨false, [], []⟩)
   (.seq (.ops [
     ⟨(some 8), none, (.mv (.t 5))⟩,
     ⟨(some 9), none, (.bin .neq (.t 8) (.c (.int .i64 0)))⟩] ⟨false, [], []⟩)
   (.cond (.t 9) (.seq (.ops [
       ⟨(some 10), none, (.mv (.t 5))⟩,
       ⟨(some 4), none, (.mv (.t 10))⟩] ⟨false, [], []⟩)
     .ret)
    .skip)))
  (.seq (.seq (.ops [
     ⟨(some 11), none, (.mv (.t 1))⟩,
     ⟨(some 12), none, (.bin .lss (.t 11) (.c (.int .i64 0)))⟩,
     ⟨(some 13), none, (.mv (.t 12))⟩,
     ⟨(some 14), (some (13, false)), (.mv (.t 1))⟩,
     ⟨(some 15), (some (13, false)), (.fld 0 (.t 2))⟩,
     ⟨(some 16), (some (13, false)), (.load 1 false (.t 15))⟩,
     ⟨(some 17), (some (13, false)), (.len 1 (.t 16))⟩,
     ⟨(some 18), (some (13, false)), (.bin .geq (.t 14) (.t 17))⟩,
     ⟨(some 19), none, (.pick (.t 13) (.c (.bool true)) (.t 18))⟩] ⟨false, [], []⟩)
   (.cond (.t 19) (.seq (.ops [
       ⟨(some 4), none, (.mv (.c (.int .i64 4)))⟩] ⟨false, [], []⟩)
     .ret)
    .skip))
  (.seq (.ops [
    ⟨(some 4), none, (.mv (.c (.int .i64 0)))⟩] ⟨false, [], []⟩)
  .ret))))⟩

/- paternoster/pools.with[int] -/
def w25_c0 : WCode := (.seq (.ops [
    ⟨(some 37), none, (.load 2 true (.t 7))⟩,
    ⟨none, none, (.store 2 (.t 6) (.t 37))⟩] ⟨false, [], []⟩)
  .ret)

def w25_B0 : WCode := (.seq (.ops [
    ⟨(some 22), none, (.bin .lss (.t 21) (.t 20))⟩] ⟨false, [], []⟩)
  (.seq (.cond (.t 22) .skip
    (.exit 0))
  (.seq (.block 1 (.seq (.ops [
      ⟨(some 23), none, (.mv (.t 21))⟩,
      ⟨(some 24), none, (.idxs 1 (.t 19) (.t 21))⟩,
      ⟨(some 25), none, (.load 1 false (.t 24))⟩,
      ⟨(some 8), none, (.mv (.t 23))⟩,
      ⟨(some 9), none, (.mv (.t 25))⟩] ⟨false, [], []⟩)
    (.seq (.seq (.ops [
       ⟨(some 26), none, (.mv (.t 8))⟩,
       ⟨(some 27), none, (.mv (.t 1))⟩,
       ⟨(some 28), none, (.bin .eql (.t 26) (.t 27))⟩] ⟨false, [], []⟩)
     (.cond (.t 28) (.ops [
        ⟨(some 29), none, (.mv (.t 2))⟩,
        ⟨(some 9), none, (.mv (.t 29))⟩] ⟨false, [], []⟩)
      .skip))
    (.draw [
     ⟨(some 30), none, (.fld 1 (.t 7))⟩,
     ⟨(some 31), none, (.load 1 false (.t 30))⟩,
     ⟨(some 32), none, (.mv (.t 8))⟩,
     ⟨(some 33), none, (.mv (.t 9))⟩,
     ⟨(some 34), none, (.call 21 [(.t 33)])⟩,
     ⟨(some 35), none, (.idxs 1 (.t 31) (.t 32))⟩,
     ⟨none, none, (.store 1 (.t 35) (.t 34))⟩] [(1, 4)] ⟨false, [], []⟩))) ⟨false, [], []⟩)
  (.ops [
   ⟨(some 36), none, (.bin .add (.t 21) (.c (.int .i64 1)))⟩,
   ⟨(some 21), none, (.mv (.t 36))⟩] ⟨false, [], []⟩))))
def w25_L0 : WCode := .loop ⟨true, [21, 20, 19, 7, 6, 2, 1], []⟩ w25_B0
def w25 : WFn := ⟨3, [.cell 6 2 true],
 (.seq (.ops [
    ⟨(some 3), none, (.box (.t 0))⟩,
    ⟨(some 6), none, (.alloc [(.ro 1 [] true), (.ro 1 [] true)])⟩] ⟨false, [], []⟩)
  (.seq (.draw [
    ⟨(some 10), none, (.fld 0 (.t 3))⟩,
    ⟨(some 11), none, (.load 1 false (.t 10))⟩,
    ⟨(some 12), none, (.call 21 [(.t 11)])⟩,
    ⟨(some 13), none, (.fld 1 (.t 3))⟩,
    ⟨(some 14), none, (.load 1 false (.t 13))⟩,
    ⟨(some 15), none, (.len 1 (.t 14))⟩,
    ⟨(some 16), none, (.mksl [(.ro 1 [] true)] 24 (.t 15) (.t 15))⟩,
    ⟨(some 17), none, (.build [(.ro 1 [] true), (.ro 1 [] true)] [(0, 1, (.t 12)), (1, 1, (.t 16))])⟩,
    ⟨(some 7), none, (.alloc [(.ro 1 [] true), (.ro 1 [] true)])⟩,
    ⟨none, none, (.store 2 (.t 7) (.t 17))⟩] [(2, 4), (2, 5), (1, 6), (2, 6), (1, 8), (2, 8), (4, 8), (5, 8), (6, 8)] ⟨false, [], []⟩)
  (.seq (.seq (.ops [
     ⟨(some 18), none, (.fld 1 (.t 3))⟩,
     ⟨(some 19), none, (.load 1 false (.t 18))⟩,
     ⟨(some 20), none, (.len 1 (.t 19))⟩,
     ⟨(some 21), none, (.mv (.c (.int .i64 0)))⟩] ⟨true, [21, 20, 19, 7, 6, 2, 1], []⟩)
   (.block 0 w25_L0 ⟨true, [7, 6], []⟩))
  w25_c0)))⟩

@[simp] theorem w25_E0 {β : Type} {C : WProg} {b : Nat} {f : Ex × WSt → Option β} {k : List Pw.Frame} {s : WSt} : CK C b f k w25_L0 s = LK C b f (.sq w25_L0 :: k) w25_B0 (canon b ⟨true, [21, 20, 19, 7, 6, 2, 1], []⟩ s) := ck_lp rfl
noncomputable abbrev w25_K0 (C : WProg) (s : WSt) : Option AV := CK C 0 (pureFin [.cell 6 2 true]) [.sq w25_L0, .bk 0 ⟨true, [7, 6], []⟩, .sq w25_c0] w25_B0 s

/- slices.Clip[[]int,int] -/
def w26 : WFn := ⟨1, [.tmp 2],
 (.seq (.ops [
    ⟨(some 2), none, (.mv (.c (.ro 1 [] true)))⟩] ⟨false, [], []⟩)
  (.seq (.ops [
    ⟨(some 3), none, (.mv (.t 0))⟩,
    ⟨(some 4), none, (.mv (.t 0))⟩,
    ⟨(some 5), none, (.len 1 (.t 4))⟩,
    ⟨(some 6), none, (.mv (.t 0))⟩,
    ⟨(some 7), none, (.len 1 (.t 6))⟩,
    ⟨(some 8), none, (.slice 1 (.t 3) none (some (.t 5)) (some (.t 7)))⟩,
    ⟨(some 2), none, (.mv (.t 8))⟩] ⟨false, [], []⟩)
  .ret))⟩

/- paternoster/paternosterref21.copied -/
def w27_c0 : WCode := (.seq (.ops [
    ⟨(some 25), none, (.load 2 true (.t 3))⟩,
    ⟨none, none, (.store 2 (.t 2) (.t 25))⟩] ⟨false, [], []⟩)
  .ret)

def w27_B0 : WCode := (.seq (.seq (.ops [
     ⟨(some 8), none, (.mv (.t 4))⟩,
     ⟨(some 9), none, (.fld 1 (.t 1))⟩,
     ⟨(some 10), none, (.load 1 false (.t 9))⟩,
     ⟨(some 11), none, (.len 1 (.t 10))⟩,
     ⟨(some 12), none, (.bin .lss (.t 8) (.t 11))⟩] ⟨false, [], []⟩)
   (.cond (.t 12) .skip
    (.exit 0)))
  (.seq (.block 1 (.draw [
     ⟨(some 15), none, (.fld 1 (.t 3))⟩,
     ⟨(some 16), none, (.load 1 false (.t 15))⟩,
     ⟨(some 17), none, (.mv (.t 4))⟩,
     ⟨(some 18), none, (.fld 1 (.t 1))⟩,
     ⟨(some 19), none, (.load 1 false (.t 18))⟩,
     ⟨(some 20), none, (.mv (.t 4))⟩,
     ⟨(some 21), none, (.idxs 1 (.t 19) (.t 20))⟩,
     ⟨(some 22), none, (.load 1 false (.t 21))⟩,
     ⟨(some 23), none, (.app [(.int .i64 0)] 8 false (.c (.ro 1 [] true)) (.t 22))⟩,
     ⟨(some 24), none, (.idxs 1 (.t 16) (.t 17))⟩,
     ⟨none, none, (.store 1 (.t 24) (.t 23))⟩] [(1, 8)] ⟨false, [], []⟩) ⟨false, [], []⟩)
  (.ops [
   ⟨(some 13), none, (.mv (.t 4))⟩,
   ⟨(some 14), none, (.bin .add (.t 13) (.c (.int .i64 1)))⟩,
   ⟨(some 4), none, (.mv (.t 14))⟩] ⟨false, [], []⟩)))
def w27_L0 : WCode := .loop ⟨true, [4, 3, 2, 1], []⟩ w27_B0
def w27 : WFn := ⟨1, [.cell 2 2 true],
 (.seq (.ops [
    ⟨(some 1), none, (.box (.t 0))⟩,
    ⟨(some 2), none, (.alloc [(.ro 1 [] true), (.ro 1 [] true)])⟩] ⟨false, [], []⟩)
  (.seq (.ops [
    ⟨(some 5), none, (.fld 0 (.t 1))⟩,
    ⟨(some 6), none, (.load 1 false (.t 5))⟩,
    ⟨(some 7), none, (.call 7 [(.t 6)])⟩,
    ⟨(some 3), none, (.alloc [(.ro 1 [] true), (.ro 1 [] true)])⟩,
    ⟨none, none, (.store 2 (.t 3) (.t 7))⟩] ⟨true, [3, 2, 1], []⟩)
  (.seq (.seq (.ops [
     ⟨(some 4), none, (.mv (.c (.int .i64 0)))⟩] ⟨false, [], []⟩)
   (.block 0 w27_L0 ⟨true, [3, 2], []⟩))
  w27_c0)))⟩

@[simp] theorem w27_E0 {β : Type} {C : WProg} {b : Nat} {f : Ex × WSt → Option β} {k : List Pw.Frame} {s : WSt} : CK C b f k w27_L0 s = LK C b f (.sq w27_L0 :: k) w27_B0 (canon b ⟨true, [4, 3, 2, 1], []⟩ s) := ck_lp rfl
noncomputable abbrev w27_K0 (C : WProg) (s : WSt) : Option AV := CK C 0 (pureFin [.cell 2 2 true]) [.sq w27_L0, .bk 0 ⟨true, [3, 2], []⟩, .sq w27_c0] w27_B0 s

/- slices.Concat[[]int,int] -/
def w28_c0 : WCode := (.seq (.ops [
    ⟨(some 35), none, (.mv (.t 6))⟩,
    ⟨(some 2), none, (.mv (.t 35))⟩] ⟨false, [], []⟩)
  .ret)

def w28_B0 : WCode := (.seq (.ops [
    ⟨(some 28), none, (.bin .lss (.t 27) (.t 26))⟩] ⟨false, [], []⟩)
  (.seq (.cond (.t 28) .skip
    (.exit 2))
  (.seq (.block 3 (.seq (.ops [
      ⟨(some 29), none, (.idxs 1 (.t 25) (.t 27))⟩,
      ⟨(some 30), none, (.load 1 false (.t 29))⟩,
      ⟨(some 8), none, (.mv (.t 30))⟩] ⟨false, [], []⟩)
    (.ops [
     ⟨(some 31), none, (.mv (.t 6))⟩,
     ⟨(some 32), none, (.mv (.t 8))⟩,
     ⟨(some 33), none, (.app [(.int .i64 0)] 8 false (.t 31) (.t 32))⟩,
     ⟨(some 6), none, (.mv (.t 33))⟩] ⟨false, [], []⟩)) ⟨false, [], []⟩)
  (.ops [
   ⟨(some 34), none, (.bin .add (.t 27) (.c (.int .i64 1)))⟩,
   ⟨(some 27), none, (.mv (.t 34))⟩] ⟨false, [], []⟩))))
def w28_L0 : WCode := .loop ⟨true, [27, 26, 25, 6], []⟩ w28_B0
def w28_c1 : WCode := (.seq (.ops [
    ⟨(some 23), none, (.mv (.t 3))⟩,
    ⟨(some 24), none, (.call 35 [(.c (.ro 1 [] true)), (.t 23)])⟩,
    ⟨(some 6), none, (.mv (.t 24))⟩] ⟨false, [], []⟩)
  (.seq (.seq (.ops [
     ⟨(some 25), none, (.mv (.t 0))⟩,
     ⟨(some 26), none, (.len 1 (.t 25))⟩,
     ⟨(some 27), none, (.mv (.c (.int .i64 0)))⟩] ⟨false, [], []⟩)
   (.block 2 w28_L0 ⟨true, [6], []⟩))
  w28_c0))

def w28_B1 : WCode := (.seq (.ops [
    ⟨(some 12), none, (.bin .lss (.t 11) (.t 10))⟩] ⟨false, [], []⟩)
  (.seq (.cond (.t 12) .skip
    (.exit 0))
  (.seq (.block 1 (.seq (.ops [
      ⟨(some 13), none, (.idxs 1 (.t 9) (.t 11))⟩,
      ⟨(some 14), none, (.load 1 false (.t 13))⟩,
      ⟨(some 5), none, (.mv (.t 14))⟩] ⟨false, [], []⟩)
    (.seq (.ops [
      ⟨(some 15), none, (.mv (.t 3))⟩,
      ⟨(some 16), none, (.mv (.t 5))⟩,
      ⟨(some 17), none, (.len 1 (.t 16))⟩,
      ⟨(some 18), none, (.bin .add (.t 15) (.t 17))⟩,
      ⟨(some 3), none, (.mv (.t 18))⟩] ⟨false, [], []⟩)
    (.seq (.ops [
      ⟨(some 19), none, (.mv (.t 3))⟩,
      ⟨(some 20), none, (.bin .lss (.t 19) (.c (.int .i64 0)))⟩] ⟨true, [20, 11, 10, 9, 3, 0], []⟩)
    (.cond (.t 20) (.ops [
       ⟨(some 21), none, .fail⟩,
       ⟨none, none, .fail⟩] ⟨false, [], []⟩)
     .skip)))) ⟨false, [], []⟩)
  (.ops [
   ⟨(some 22), none, (.bin .add (.t 11) (.c (.int .i64 1)))⟩,
   ⟨(some 11), none, (.mv (.t 22))⟩] ⟨false, [], []⟩))))
def w28_L1 : WCode := .loop ⟨true, [11, 10, 9, 3, 0], []⟩ w28_B1
def w28 : WFn := ⟨1, [.tmp 2],
 (.seq (.ops [
    ⟨(some 2), none, (.mv (.c (.ro 1 [] true)))⟩] ⟨false, [], []⟩)
  (.seq (.ops [
    ⟨(some 3), none, (.mv (.c (.int .i64 0)))⟩] ⟨false, [], []⟩)
  (.seq (.seq (.ops [
     ⟨(some 9), none, (.mv (.t 0))⟩,
     ⟨(some 10), none, (.len 1 (.t 9))⟩,
     ⟨(some 11), none, (.mv (.c (.int .i64 0)))⟩] ⟨false, [], []⟩)
   (.block 0 w28_L1 ⟨true, [3, 0], []⟩))
  w28_c1)))⟩

@[simp] theorem w28_E0 {β : Type} {C : WProg} {b : Nat} {f : Ex × WSt → Option β} {k : List Pw.Frame} {s : WSt} : CK C b f k w28_L0 s = LK C b f (.sq w28_L0 :: k) w28_B0 (canon b ⟨true, [27, 26, 25, 6], []⟩ s) := ck_lp rfl
noncomputable abbrev w28_K0 (C : WProg) (s : WSt) : Option AV := CK C 0 (pureFin [.tmp 2]) [.sq w28_L0, .bk 2 ⟨true, [6], []⟩, .sq w28_c0] w28_B0 s

@[simp] theorem w28_E1 {β : Type} {C : WProg} {b : Nat} {f : Ex × WSt → Option β} {k : List Pw.Frame} {s : WSt} : CK C b f k w28_L1 s = LK C b f (.sq w28_L1 :: k) w28_B1 (canon b ⟨true, [11, 10, 9, 3, 0], []⟩ s) := ck_lp rfl
noncomputable abbrev w28_K1 (C : WProg) (s : WSt) : Option AV := CK C 0 (pureFin [.tmp 2]) [.sq w28_L1, .bk 0 ⟨true, [3, 0], []⟩, .sq w28_c1] w28_B1 s

/- paternoster/pools.New[string] -/
def w29 : WFn := ⟨1, [.cell 2 2 true, .tmp 3],
 (.seq (.ops [
    ⟨(some 2), none, (.alloc [(.ro 1 [] true), (.ro 1 [] true)])⟩,
    ⟨(some 3), none, (.mv (.c (.int .i64 0)))⟩] ⟨false, [], []⟩)
  (.seq (.seq (.ops [
     ⟨(some 6), none, (.mv (.t 0))⟩,
     ⟨(some 7), none, (.len 1 (.t 6))⟩,
     ⟨(some 8), none, (.bin .gtr (.t 7) (.c (.int .i64 8)))⟩] ⟨true, [8, 2, 0], []⟩)
   (.cond (.t 8) (.seq (.ops [
       ⟨(some 9), none, (.build [(.ro 1 [] true), (.ro 1 [] true)] [])⟩,
       ⟨none, none, (.store 2 (.t 2) (.t 9))⟩,
       ⟨(some 3), none, (.mv (.c (.int .i64 1)))⟩] ⟨false, [], []⟩)
     .ret)
    .skip))
  (.seq (.draw [
    ⟨(some 10), none, (.mv (.t 0))⟩,
    ⟨(some 11), none, (.call 21 [(.t 10)])⟩,
    ⟨(some 12), none, (.mv (.t 0))⟩,
    ⟨(some 13), none, (.len 1 (.t 12))⟩,
    ⟨(some 14), none, (.mksl [(.ro 1 [] true)] 24 (.t 13) (.t 13))⟩,
    ⟨(some 15), none, (.build [(.ro 1 [] true), (.ro 1 [] true)] [(0, 1, (.t 11)), (1, 1, (.t 14))])⟩,
    ⟨(some 4), none, (.alloc [(.ro 1 [] true), (.ro 1 [] true)])⟩,
    ⟨none, none, (.store 2 (.t 4) (.t 15))⟩] [(1, 3), (1, 4), (1, 6), (3, 6), (4, 6)] ⟨false, [], []⟩)
  (.seq (.seq (.ops [
     ⟨(some 16), none, (.load 2 true (.t 4))⟩,
     ⟨(some 17), none, (.call 36 [(.t 16)])⟩,
     ⟨(some 5), none, (.mv (.t 17))⟩] ⟨false, [], []⟩)
   (.seq (.ops [
     ⟨(some 18), none, (.mv (.t 5))⟩,
     ⟨(some 19), none, (.bin .neq (.t 18) (.c (.int .i64 0)))⟩] ⟨false, [], []⟩)
   (.cond (.t 19) (.seq (.ops [
       ⟨(some 20), none, (.build [(.ro 1 [] true), (.ro 1 [] true)] [])⟩,
       ⟨(some 21), none, (.mv (.t 5))⟩,
       ⟨none, none, (.store 2 (.t 2) (.t 20))⟩,
       ⟨(some 3), none, (.mv (.t 21))⟩] ⟨false, [], []⟩)
     .ret)
    .skip)))
  (.seq (.ops [
    ⟨(some 22), none, (.load 2 true (.t 4))⟩,
    ⟨none, none, (.store 2 (.t 2) (.t 22))⟩,
    ⟨(some 3), none, (.mv (.c (.int .i64 0)))⟩] ⟨false, [], []⟩)
  .ret)))))⟩

/- paternoster/pools.Push[string] -/
def w30 : WFn := ⟨3, [.cell 6 2 true, .tmp 7, .tmp 8],
 (.seq (.ops [
    ⟨(some 3), none, (.box (.t 0))⟩,
    ⟨(some 6), none, (.alloc [(.ro 1 [] true), (.ro 1 [] true)])⟩,
    ⟨(some 7), none, (.mv (.c (.bool false)))⟩,
    ⟨(some 8), none, (.mv (.c (.int .i64 0)))⟩] ⟨false, [], []⟩)
  (.seq (.seq (.ops [
     ⟨(some 11), none, (.load 2 true (.t 3))⟩,
     ⟨(some 12), none, (.mv (.t 1))⟩,
     ⟨(some 13), none, (.call 37 [(.t 11), (.t 12)])⟩,
     ⟨(some 9), none, (.mv (.t 13))⟩] ⟨false, [], []⟩)
   (.seq (.ops [
     ⟨(some 14), none, (.mv (.t 9))⟩,
     ⟨(some 15), none, (.bin .neq (.t 14) (.c (.int .i64 0)))⟩] ⟨false, [], []⟩)
   (.cond (.t 15) (.seq (.ops [
       ⟨(some 16), none, (.build [(.ro 1 [] true), (.ro 1 [] true)] [])⟩,
       ⟨(some 17), none, (.mv (.t 9))⟩,
       ⟨none, none, (.store 2 (.t 6) (.t 16))⟩,
       ⟨(some 7), none, (.mv (.c (.bool false)))⟩,
       ⟨(some 8), none, (.mv (.t 17))⟩] ⟨false, [], []⟩)
     .ret)
    .skip)))
  (.seq (.ops [
    ⟨(some 18), none, (.fld 1 (.t 3))⟩,
    ⟨(some 19), none, (.load 1 false (.t 18))⟩,
    ⟨(some 20), none, (.mv (.t 1))⟩,
    ⟨(some 21), none, (.idxs 1 (.t 19) (.t 20))⟩,
    ⟨(some 22), none, (.load 1 false (.t 21))⟩,
    ⟨(some 10), none, (.mv (.t 22))⟩] ⟨false, [], []⟩)
  (.seq (.seq (.ops [
     ⟨(some 23), none, (.mv (.t 10))⟩,
     ⟨(some 24), none, (.len 1 (.t 23))⟩,
     ⟨(some 25), none, (.fld 0 (.t 3))⟩,
     ⟨(some 26), none, (.load 1 false (.t 25))⟩,
     ⟨(some 27), none, (.mv (.t 1))⟩,
     ⟨(some 28), none, (.idxs 1 (.t 26) (.t 27))⟩,
     ⟨(some 29), none, (.load 1 false (.t 28))⟩,
     ⟨(some 30), none, (.bin .eql (.t 24) (.t 29))⟩] ⟨true, [30, 10, 6, 3, 2, 1], []⟩)
   (.cond (.t 30) (.seq (.ops [
       ⟨(some 31), none, (.load 2 true (.t 3))⟩,
       ⟨(some 32), none, (.mv (.t 1))⟩,
       ⟨(some 33), none, (.mv (.t 10))⟩,
       ⟨(some 34), none, (.call 38 [(.t 31), (.t 32), (.t 33)])⟩,
       ⟨none, none, (.store 2 (.t 6) (.t 34))⟩,
       ⟨(some 7), none, (.mv (.c (.bool true)))⟩,
       ⟨(some 8), none, (.mv (.c (.int .i64 0)))⟩] ⟨false, [], []⟩)
     .ret)
    .skip))
  (.seq (.draw [
    ⟨(some 35), none, (.load 2 true (.t 3))⟩,
    ⟨(some 36), none, (.mv (.t 1))⟩,
    ⟨(some 37), none, (.mv (.t 10))⟩,
    ⟨(some 38), none, (.call 39 [(.t 37)])⟩,
    ⟨(some 39), none, (.mv (.t 2))⟩,
    ⟨(some 40), none, (.buildS [(.str [])] 1 [(0, (.t 39))])⟩,
    ⟨(some 41), none, (.app [(.str [])] 16 false (.t 38) (.t 40))⟩,
    ⟨(some 42), none, (.call 38 [(.t 35), (.t 36), (.t 41)])⟩,
    ⟨none, none, (.store 2 (.t 6) (.t 42))⟩,
    ⟨(some 7), none, (.mv (.c (.bool false)))⟩,
    ⟨(some 8), none, (.mv (.c (.int .i64 0)))⟩] [(0, 3), (0, 5), (3, 5), (0, 6)] ⟨false, [], []⟩)
  .ret)))))⟩

/- paternoster/pools.Len[string] -/
def w31 : WFn := ⟨2, [.tmp 4, .tmp 5],
 (.seq (.ops [
    ⟨(some 2), none, (.box (.t 0))⟩,
    ⟨(some 4), none, (.mv (.c (.int .i64 0)))⟩,
    ⟨(some 5), none, (.mv (.c (.int .i64 0)))⟩] ⟨false, [], []⟩)
  (.seq (.seq (.ops [
     ⟨(some 7), none, (.load 2 true (.t 2))⟩,
     ⟨(some 8), none, (.mv (.t 1))⟩,
     ⟨(some 9), none, (.call 37 [(.t 7), (.t 8)])⟩,
     ⟨(some 6), none, (.mv (.t 9))⟩] ⟨false, [], []⟩)
   (.seq (.ops [
     ⟨(some 10), none, (.mv (.t 6))⟩,
     ⟨(some 11), none, (.bin .neq (.t 10) (.c (.int .i64 0)))⟩] ⟨false, [], []⟩)
   (.cond (.t 11) (.seq (.ops [
       ⟨(some 12), none, (.mv (.t 6))⟩,
       ⟨(some 4), none, (.mv (.c (.int .i64 0)))⟩,
       ⟨(some 5), none, (.mv (.t 12))⟩] ⟨false, [], []⟩)
     .ret)
    .skip)))
  (.seq (.ops [
    ⟨(some 13), none, (.fld 1 (.t 2))⟩,
    ⟨(some 14), none, (.load 1 false (.t 13))⟩,
    ⟨(some 15), none, (.mv (.t 1))⟩,
    ⟨(some 16), none, (.idxs 1 (.t 14) (.t 15))⟩,
    ⟨(some 17), none, (.load 1 false (.t 16))⟩,
    ⟨(some 18), none, (.len 1 (.t 17))⟩,
    ⟨(some 4), none, (.mv (.t 18))⟩,
    ⟨(some 5), none, (.mv (.c (.int .i64 0)))⟩] ⟨false, [], []⟩)
  .ret)))⟩

/- paternoster/pools.Pop[string] -/
def w32 : WFn := ⟨2, [.cell 4 2 true, .tmp 5, .tmp 6, .tmp 7],
 (.seq (.ops [
    ⟨(some 2), none, (.box (.t 0))⟩,
    ⟨(some 4), none, (.alloc [(.ro 1 [] true), (.ro 1 [] true)])⟩,
    ⟨(some 5), none, (.mv (.c (.str [])))⟩,
    ⟨(some 6), none, (.mv (.c (.bool false)))⟩,
    ⟨(some 7), none, (.mv (.c (.int .i64 0)))⟩] ⟨true, [5, 4, 2, 1], []⟩)
  (.seq (.seq (.ops [
     ⟨(some 11), none, (.load 2 true (.t 2))⟩,
     ⟨(some 12), none, (.mv (.t 1))⟩,
     ⟨(some 13), none, (.call 37 [(.t 11), (.t 12)])⟩,
     ⟨(some 8), none, (.mv (.t 13))⟩] ⟨false, [], []⟩)
   (.seq (.ops [
     ⟨(some 14), none, (.mv (.t 8))⟩,
     ⟨(some 15), none, (.bin .neq (.t 14) (.c (.int .i64 0)))⟩] ⟨false, [], []⟩)
   (.cond (.t 15) (.seq (.ops [
       ⟨(some 16), none, (.build [(.ro 1 [] true), (.ro 1 [] true)] [])⟩,
       ⟨(some 17), none, (.mv (.t 5))⟩,
       ⟨(some 18), none, (.mv (.t 8))⟩,
       ⟨none, none, (.store 2 (.t 4) (.t 16))⟩,
       ⟨(some 5), none, (.mv (.t 17))⟩,
       ⟨(some 6), none, (.mv (.c (.bool false)))⟩,
       ⟨(some 7), none, (.mv (.t 18))⟩] ⟨false, [], []⟩)
     .ret)
    .skip)))
  (.seq (.ops [
    ⟨(some 19), none, (.fld 1 (.t 2))⟩,
    ⟨(some 20), none, (.load 1 false (.t 19))⟩,
    ⟨(some 21), none, (.mv (.t 1))⟩,
    ⟨(some 22), none, (.idxs 1 (.t 20) (.t 21))⟩,
    ⟨(some 23), none, (.load 1 false (.t 22))⟩,
    ⟨(some 9), none, (.mv (.t 23))⟩] ⟨false, [], []⟩)
  (.seq (.ops [
    ⟨(some 24), none, (.mv (.t 9))⟩,
    ⟨(some 25), none, (.len 1 (.t 24))⟩,
    ⟨(some 26), none, (.bin .sub (.t 25) (.c (.int .i64 1)))⟩,
    ⟨(some 10), none, (.mv (.t 26))⟩] ⟨false, [], []⟩)
  (.seq (.seq (.ops [
     ⟨(some 27), none, (.mv (.t 10))⟩,
     ⟨(some 28), none, (.bin .lss (.t 27) (.c (.int .i64 0)))⟩] ⟨true, [28, 10, 9, 5, 4, 2, 1], []⟩)
   (.cond (.t 28) (.seq (.ops [
       ⟨(some 29), none, (.load 2 true (.t 2))⟩,
       ⟨(some 30), none, (.mv (.t 1))⟩,
       ⟨(some 31), none, (.mv (.t 9))⟩,
       ⟨(some 32), none, (.call 38 [(.t 29), (.t 30), (.t 31)])⟩,
       ⟨(some 33), none, (.mv (.t 5))⟩,
       ⟨none, none, (.store 2 (.t 4) (.t 32))⟩,
       ⟨(some 5), none, (.mv (.t 33))⟩,
       ⟨(some 6), none, (.mv (.c (.bool false)))⟩,
       ⟨(some 7), none, (.mv (.c (.int .i64 0)))⟩] ⟨false, [], []⟩)
     .ret)
    .skip))
  (.seq (.draw [
    ⟨(some 34), none, (.load 2 true (.t 2))⟩,
    ⟨(some 35), none, (.mv (.t 1))⟩,
    ⟨(some 36), none, (.mv (.t 9))⟩,
    ⟨(some 37), none, (.mv (.t 10))⟩,
    ⟨(some 38), none, (.slice 1 (.t 36) none (some (.t 37)) none)⟩,
    ⟨(some 39), none, (.call 38 [(.t 34), (.t 35), (.t 38)])⟩,
    ⟨(some 40), none, (.mv (.t 9))⟩,
    ⟨(some 41), none, (.mv (.t 10))⟩,
    ⟨(some 42), none, (.idxs 1 (.t 40) (.t 41))⟩,
    ⟨(some 43), none, (.load 1 false (.t 42))⟩,
    ⟨none, none, (.store 2 (.t 4) (.t 39))⟩,
    ⟨(some 5), none, (.mv (.t 43))⟩,
    ⟨(some 6), none, (.mv (.c (.bool true)))⟩,
    ⟨(some 7), none, (.mv (.c (.int .i64 0)))⟩] [(5, 9), (9, 10)] ⟨false, [], []⟩)
  .ret))))))⟩

/- paternoster/pools.Trim[string] -/
def w33_c0 : WCode := (.seq (.draw [
    ⟨(some 46), none, (.load 2 true (.t 4))⟩,
    ⟨(some 47), none, (.mv (.t 5))⟩,
    ⟨(some 48), none, (.call 39 [(.t 47)])⟩,
    ⟨none, none, (.store 2 (.t 4) (.t 46))⟩,
    ⟨(some 5), none, (.mv (.t 48))⟩,
    ⟨(some 6), none, (.mv (.c (.int .i64 0)))⟩] [(0, 2)] ⟨false, [], []⟩)
  .ret)

def w33_B0 : WCode := (.seq (.ops [
    ⟨(some 25), none, (.bin .lss (.t 24) (.t 23))⟩] ⟨false, [], []⟩)
  (.seq (.cond (.t 25) .skip
    (.exit 0))
  (.seq (.block 1 (.seq (.ops [
      ⟨(some 26), none, (.mv (.t 24))⟩,
      ⟨(some 27), none, (.idxs 1 (.t 22) (.t 24))⟩,
      ⟨(some 28), none, (.load 1 false (.t 27))⟩,
      ⟨(some 8), none, (.mv (.t 26))⟩,
      ⟨(some 9), none, (.mv (.t 28))⟩] ⟨false, [], []⟩)
    (.seq (.ops [
      ⟨(some 29), none, (.mv (.t 9))⟩,
      ⟨(some 30), none, (.len 1 (.t 29))⟩,
      ⟨(some 31), none, (.mv (.t 1))⟩,
      ⟨(some 32), none, (.bin .sub (.t 30) (.t 31))⟩,
      ⟨(some 33), none, (.mx (.t 32) (.c (.int .i64 0)))⟩,
      ⟨(some 10), none, (.mv (.t 33))⟩] ⟨true, [24, 23, 22, 10, 9, 8, 5, 4, 1], []⟩)
    (.seq (.ops [
      ⟨(some 34), none, (.mv (.t 5))⟩,
      ⟨(some 35), none, (.mv (.t 9))⟩,
      ⟨(some 36), none, (.mv (.t 10))⟩,
      ⟨(some 37), none, (.slice 1 (.t 35) none (some (.t 36)) none)⟩,
      ⟨(some 38), none, (.app [(.str [])] 16 false (.t 34) (.t 37))⟩,
      ⟨(some 5), none, (.mv (.t 38))⟩] ⟨false, [], []⟩)
    (.draw [
     ⟨(some 39), none, (.load 2 true (.t 4))⟩,
     ⟨(some 40), none, (.mv (.t 8))⟩,
     ⟨(some 41), none, (.mv (.t 9))⟩,
     ⟨(some 42), none, (.mv (.t 10))⟩,
     ⟨(some 43), none, (.slice 1 (.t 41) (some (.t 42)) none none)⟩,
     ⟨(some 44), none, (.call 38 [(.t 39), (.t 40), (.t 43)])⟩,
     ⟨none, none, (.store 2 (.t 4) (.t 44))⟩] [] ⟨false, [], []⟩)))) ⟨false, [], []⟩)
  (.ops [
   ⟨(some 45), none, (.bin .add (.t 24) (.c (.int .i64 1)))⟩,
   ⟨(some 24), none, (.mv (.t 45))⟩] ⟨false, [], []⟩))))
def w33_L0 : WCode := .loop ⟨true, [24, 23, 22, 5, 4, 1], []⟩ w33_B0
def w33 : WFn := ⟨2, [.cell 4 2 true, .tmp 5, .tmp 6],
 (.seq (.ops [
    ⟨(some 2), none, (.box (.t 0))⟩,
    ⟨(some 4), none, (.alloc [(.ro 1 [] true), (.ro 1 [] true)])⟩,
    ⟨(some 5), none, (.mv (.c (.ro 1 [] true)))⟩,
    ⟨(some 6), none, (.mv (.c (.int .i64 0)))⟩] ⟨true, [5, 4, 2, 1], [(5, 1)]⟩)
  (.seq (.seq (.ops [
     ⟨(some 11), none, (.load 2 true (.t 2))⟩,
     ⟨(some 12), none, (.call 36 [(.t 11)])⟩,
     ⟨(some 7), none, (.mv (.t 12))⟩] ⟨false, [], []⟩)
   (.seq (.ops [
     ⟨(some 13), none, (.mv (.t 7))⟩,
     ⟨(some 14), none, (.bin .neq (.t 13) (.c (.int .i64 0)))⟩] ⟨true, [14, 7, 5, 4, 2, 1], []⟩)
   (.cond (.t 14) (.seq (.ops [
       ⟨(some 15), none, (.build [(.ro 1 [] true), (.ro 1 [] true)] [])⟩,
       ⟨(some 16), none, (.mv (.t 7))⟩,
       ⟨none, none, (.store 2 (.t 4) (.t 15))⟩,
       ⟨(some 5), none, (.mv (.c (.ro 1 [] true)))⟩,
       ⟨(some 6), none, (.mv (.t 16))⟩] ⟨false, [], []⟩)
     .ret)
    .skip)))
  (.seq (.seq (.ops [
     ⟨(some 17), none, (.mv (.t 1))⟩,
     ⟨(some 18), none, (.bin .lss (.t 17) (.c (.int .i64 0)))⟩] ⟨false, [], []⟩)
   (.cond (.t 18) (.seq (.ops [
       ⟨(some 19), none, (.build [(.ro 1 [] true), (.ro 1 [] true)] [])⟩,
       ⟨none, none, (.store 2 (.t 4) (.t 19))⟩,
       ⟨(some 5), none, (.mv (.c (.ro 1 [] true)))⟩,
       ⟨(some 6), none, (.mv (.c (.int .i64 4)))⟩] ⟨false, [], []⟩)
     .ret)
    .skip))
  (.seq (.ops [
    ⟨(some 20), none, (.load 2 true (.t 2))⟩,
    ⟨none, none, (.store 2 (.t 4) (.t 20))⟩] ⟨false, [], []⟩)
  (.seq (.seq (.ops [
     ⟨(some 21), none, (.fld 1 (.t 2))⟩,
     ⟨(some 22), none, (.load 1 false (.t 21))⟩,
     ⟨(some 23), none, (.len 1 (.t 22))⟩,
     ⟨(some 24), none, (.mv (.c (.int .i64 0)))⟩] ⟨false, [], []⟩)
   (.block 0 w33_L0 ⟨true, [5, 4], []⟩))
  w33_c0)))))⟩

@[simp] theorem w33_E0 {β : Type} {C : WProg} {b : Nat} {f : Ex × WSt → Option β} {k : List Pw.Frame} {s : WSt} : CK C b f k w33_L0 s = LK C b f (.sq w33_L0 :: k) w33_B0 (canon b ⟨true, [24, 23, 22, 5, 4, 1], []⟩ s) := ck_lp rfl
noncomputable abbrev w33_K0 (C : WProg) (s : WSt) : Option AV := CK C 0 (pureFin [.cell 4 2 true, .tmp 5, .tmp 6]) [.sq w33_L0, .bk 0 ⟨true, [5, 4], []⟩, .sq w33_c0] w33_B0 s

/- paternoster/pools.All[string] -/
def w34 : WFn := ⟨1, [.tmp 2, .tmp 3],
 (.seq (.ops [
    ⟨(some 1), none, (.box (.t 0))⟩,
    ⟨(some 2), none, (.mv (.c (.ro 1 [] true)))⟩,
    ⟨(some 3), none, (.mv (.c (.int .i64 0)))⟩] ⟨false, [], []⟩)
  (.seq (.seq (.ops [
     ⟨(some 5), none, (.load 2 true (.t 1))⟩,
     ⟨(some 6), none, (.call 36 [(.t 5)])⟩,
     ⟨(some 4), none, (.mv (.t 6))⟩] ⟨false, [], []⟩)
   (.seq (.ops [
     ⟨(some 7), none, (.mv (.t 4))⟩,
     ⟨(some 8), none, (.bin .neq (.t 7) (.c (.int .i64 0)))⟩] ⟨false, [], []⟩)
   (.cond (.t 8) (.seq (.ops [
       ⟨(some 9), none, (.mv (.t 4))⟩,
       ⟨(some 2), none, (.mv (.c (.ro 1 [] true)))⟩,
       ⟨(some 3), none, (.mv (.t 9))⟩] ⟨false, [], []⟩)
     .ret)
    .skip)))
  (.seq (.ops [
    ⟨(some 10), none, (.fld 1 (.t 1))⟩,
    ⟨(some 11), none, (.load 1 false (.t 10))⟩,
    ⟨(some 12), none, (.call 40 [(.t 11)])⟩,
    ⟨(some 13), none, (.call 39 [(.t 12)])⟩,
    ⟨(some 2), none, (.mv (.t 13))⟩,
    ⟨(some 3), none, (.mv (.c (.int .i64 0)))⟩] ⟨false, [], []⟩)
  .ret)))⟩

/- slices.Grow[[]int,int] -/
def w35 : WFn := ⟨2, [.tmp 4],
 (.seq (.ops [
    ⟨(some 4), none, (.mv (.c (.ro 1 [] true)))⟩] ⟨false, [], []⟩)
  (.seq (.seq (.ops [
     ⟨(some 5), none, (.mv (.t 1))⟩,
     ⟨(some 6), none, (.bin .lss (.t 5) (.c (.int .i64 0)))⟩] ⟨false, [], []⟩)
   (.cond (.t 6) (.ops [
      ⟨(some 7), none, .fail⟩,
      ⟨none, none, .fail⟩] ⟨true, [1, 0], []⟩)
    .skip))
  (.seq (.seq (.ops [
     ⟨(some 8), none, (.mv (.t 1))⟩,
     ⟨(some 9), none, (.mv (.t 0))⟩,
     ⟨(some 10), none, (.cap (.t 9))⟩,
     ⟨(some 11), none, (.mv (.t 0))⟩,
     ⟨(some 12), none, (.len 1 (.t 11))⟩,
     ⟨(some 13), none, (.bin .sub (.t 10) (.t 12))⟩,
     ⟨(some 14), none, (.bin .sub (.t 8) (.t 13))⟩,
     ⟨(some 1), none, (.mv (.t 14))⟩] ⟨false, [], []⟩)
   (.seq (.ops [
     ⟨(some 15), none, (.mv (.t 1))⟩,
     ⟨(some 16), none, (.bin .gtr (.t 15) (.c (.int .i64 0)))⟩] ⟨false, [], []⟩)
   (.cond (.t 16) (.ops [
      ⟨(some 17), none, (.mv (.t 0))⟩,
      ⟨(some 18), none, (.mv (.t 0))⟩,
      ⟨(some 19), none, (.cap (.t 18))⟩,
      ⟨(some 20), none, (.slice 1 (.t 17) none (some (.t 19)) none)⟩,
      ⟨(some 21), none, (.mv (.t 1))⟩,
      ⟨(some 22), none, (.app [(.int .i64 0)] 8 true (.t 20) (.t 21))⟩,
      ⟨(some 23), none, (.mv (.t 0))⟩,
      ⟨(some 24), none, (.len 1 (.t 23))⟩,
      ⟨(some 25), none, (.slice 1 (.t 22) none (some (.t 24)) none)⟩,
      ⟨(some 0), none, (.mv (.t 25))⟩] ⟨false, [], []⟩)
    .skip)))
  (.seq (.ops [
    ⟨(some 26), none, (.mv (.t 0))⟩,
    ⟨(some 4), none, (.mv (.t 26))⟩] ⟨false, [], []⟩)
  .ret))))⟩

/- paternoster/pools.Check[string] -/
def w36_c0 : WCode := (.seq (.ops [
    ⟨(some 2), none, (.mv (.c (.int .i64 0)))⟩] ⟨false, [], []⟩)
  .ret)

def w36_B0 : WCode := (.seq (.ops [
    ⟨(some 26), none, (.bin .lss (.t 25) (.t 24))⟩] ⟨false, [], []⟩)
  (.seq (.cond (.t 26) .skip
    (.exit 0))
  (.seq (.block 1 (.seq (.ops [
      ⟨(some 27), none, (.mv (.t 25))⟩,
      ⟨(some 28), none, (.idxs 1 (.t 23) (.t 25))⟩,
      ⟨(some 29), none, (.load 1 false (.t 28))⟩,
      ⟨(some 4), none, (.mv (.t 27))⟩,
      ⟨(some 5), none, (.mv (.t 29))⟩] ⟨true, [25, 24, 23, 5, 4, 1], []⟩)
    (.seq (.ops [
      ⟨(some 30), none, (.mv (.t 5))⟩,
      ⟨(some 31), none, (.bin .lss (.t 30) (.c (.int .i64 0)))⟩,
      ⟨(some 32), none, (.mv (.t 31))⟩,
      ⟨(some 33), (some (32, false)), (.mv (.t 5))⟩,
      ⟨(some 34), (some (32, false)), (.bin .gtr (.t 33) (.c (.int .i64 65536)))⟩,
      ⟨(some 35), none, (.pick (.t 32) (.c (.bool true)) (.t 34))⟩,
      ⟨(some 36), none, (.mv (.t 35))⟩,
      ⟨(some 37), (some (36, false)), (.fld 1 (.t 1))⟩,
      ⟨(some 38), (some (36, false)), (.load 1 false (.t 37))⟩,
      ⟨(some 39), (some (36, false)), (.mv (.t 4))⟩,
      ⟨(some 40), (some (36, false)), (.idxs 1 (.t 38) (.t 39))⟩,
      ⟨(some 41), (some (36, false)), (.load 1 false (.t 40))⟩,
      ⟨(some 42), (some (36, false)), (.len 1 (.t 41))⟩,
      ⟨(some 43), (some (36, false)), (.mv (.t 5))⟩,
      ⟨(some 44), (some (36, false)), (.bin .gtr (.t 42) (.t 43))⟩,
      ⟨(some 45), none, (.pick (.t 36) (.c (.bool true)) (.t 44))⟩] ⟨false, [], []⟩)
    (.cond (.t 45) (.seq (.ops [
        ⟨(some 2), none, (.mv (.c (.int .i64 1)))⟩] ⟨false, [], []⟩)
      .ret)
     .skip))) ⟨false, [], []⟩)
  (.ops [
   ⟨(some 46), none, (.bin .add (.t 25) (.c (.int .i64 1)))⟩,
   ⟨(some 25), none, (.mv (.t 46))⟩] ⟨false, [], []⟩))))
def w36_L0 : WCode := .loop ⟨true, [25, 24, 23, 1], []⟩ w36_B0
def w36 : WFn := ⟨1, [.tmp 2],
 (.seq (.ops [
    ⟨(some 1), none, (.box (.t 0))⟩,
    ⟨(some 2), none, (.mv (.c (.int .i64 0)))⟩] ⟨true, [1], []⟩)
  (.seq (.ops [
    ⟨(some 6), none, (.fld 0 (.t 1))⟩,
    ⟨(some 7), none, (.load 1 false (.t 6))⟩,
    ⟨(some 8), none, (.len 1 (.t 7))⟩,
    ⟨(some 3), none, (.mv (.t 8))⟩] ⟨false, [], []⟩)
  (.seq (.seq (.ops [
     ⟨(some 9), none, (.mv (.t 3))⟩,
     ⟨(some 10), none, (.bin .lss (.t 9) (.c (.int .i64 1)))⟩,
     ⟨(some 11), none, (.mv (.t 10))⟩,
     ⟨(some 12), (some (11, false)), (.mv (.t 3))⟩,
     ⟨(some 13), (some (11, false)), (.bin .gtr (.t 12) (.c (.int .i64 8)))⟩,
     ⟨(some 14), none, (.pick (.t 11) (.c (.bool true)) (.t 13))⟩,
     ⟨(some 15), none, (.mv (.t 14))⟩,
     ⟨(some 16), (some (15, false)), (.fld 1 (.t 1))⟩,
     ⟨(some 17), (some (15, false)), (.load 1 false (.t 16))⟩,
     ⟨(some 18), (some (15, false)), (.len 1 (.t 17))⟩,
     ⟨(some 19), (some (15, false)), (.mv (.t 3))⟩,
     ⟨(some 20), (some (15, false)), (.bin .neq (.t 18) (.t 19))⟩,
     ⟨(some 21), none, (.pick (.t 15) (.c (.bool true)) (.t 20))⟩] ⟨false, [], []⟩)
   (.cond (.t 21) (.seq (.ops [
       ⟨(some 2), none, (.mv (.c (.int .i64 1)))⟩] ⟨false, [], []⟩)
     .ret)
    .skip))
  (.seq (.seq (.ops [
     ⟨(some 22), none, (.fld 0 (.t 1))⟩,
     ⟨(some 23), none, (.load 1 false (.t 22))⟩,
     ⟨(some 24), none, (.len 1 (.t 23))⟩,
     ⟨(some 25), none, (.mv (.c (.int .i64 0)))⟩] ⟨false, [], []⟩)
   (.block 0 w36_L0 ⟨true, [], []⟩))
  w36_c0))))⟩

@[simp] theorem w36_E0 {β : Type} {C : WProg} {b : Nat} {f : Ex × WSt → Option β} {k : List Pw.Frame} {s : WSt} : CK C b f k w36_L0 s = LK C b f (.sq w36_L0 :: k) w36_B0 (canon b ⟨true, [25, 24, 23, 1], []⟩ s) := ck_lp rfl
noncomputable abbrev w36_K0 (C : WProg) (s : WSt) : Option AV := CK C 0 (pureFin [.tmp 2]) [.sq w36_L0, .bk 0 ⟨true, [], []⟩, .sq w36_c0] w36_B0 s

/- paternoster/pools.of[string] -/
def w37 : WFn := ⟨2, [.tmp 4],
 (.seq (.ops [
    ⟨(some 2), none, (.box (.t 0))⟩,
    ⟨(some 4), none, (.mv (.c (.int .i64 0)))⟩] ⟨false, [], []⟩)
  (.seq (.seq (.ops [
     ⟨(some 6), none, (.load 2 true (.t 2))⟩,
     ⟨(some 7), none, (.call 36 [(.t 6)])⟩,
     ⟨(some 5), none, (.mv (.t 7))⟩] ⟨false, [], []⟩)
   (.seq (.ops [
     ⟨(some 8), none, (.mv (.t 5))⟩,
     ⟨(some 9), none, (.bin .neq (.t 8) (.c (.int .i64 0)))⟩] ⟨false, [], []⟩)
   (.cond (.t 9) (.seq (.ops [
       ⟨(some 10), none, (.mv (.t 5))⟩,
       ⟨(some 4), none, (.mv (.t 10))⟩] ⟨false, [], []⟩)
     .ret)
    .skip)))
  (.seq (.seq (.ops [
     ⟨(some 11), none, (.mv (.t 1))⟩,
     ⟨(some 12), none, (.bin .lss (.t 11) (.c (.int .i64 0)))⟩,
     ⟨(some 13), none, (.mv (.t 12))⟩,
     ⟨(some 14), (some (13, false)), (.mv (.t 1))⟩,
     ⟨(some 15), (some (13, false)), (.fld 0 (.t 2))⟩,
     ⟨(some 16), (some (13, false)), (.load 1 false (.t 15))⟩,
     ⟨(some 17), (some (13, false)), (.len 1 (.t 16))⟩,
     ⟨(some 18), (some (13, false)), (.bin .geq (.t 14) (.t 17))⟩,
     ⟨(some 19), none, (.pick (.t 13) (.c (.bool true)) (.t 18))⟩] ⟨false, [], []⟩)
   (.cond (.t 19) (.seq (.ops [
       ⟨(some 4), none, (.mv (.c (.int .i64 4)))⟩] ⟨false, [], []⟩)
     .ret)
    .skip))
  (.seq (.ops [
    ⟨(some 4), none, (.mv (.c (.int .i64 0)))⟩] ⟨false, [], []⟩)
  .ret))))⟩

/- paternoster/pools.with[string] -/
def w38_c0 : WCode := (.seq (.ops [
    ⟨(some 37), none, (.load 2 true (.t 7))⟩,
    ⟨none, none, (.store 2 (.t 6) (.t 37))⟩] ⟨false, [], []⟩)
  .ret)

def w38_B0 : WCode := (.seq (.ops [
    ⟨(some 22), none, (.bin .lss (.t 21) (.t 20))⟩] ⟨false, [], []⟩)
  (.seq (.cond (.t 22) .skip
    (.exit 0))
  (.seq (.block 1 (.seq (.ops [
      ⟨(some 23), none, (.mv (.t 21))⟩,
      ⟨(some 24), none, (.idxs 1 (.t 19) (.t 21))⟩,
      ⟨(some 25), none, (.load 1 false (.t 24))⟩,
      ⟨(some 8), none, (.mv (.t 23))⟩,
      ⟨(some 9), none, (.mv (.t 25))⟩] ⟨false, [], []⟩)
    (.seq (.seq (.ops [
       ⟨(some 26), none, (.mv (.t 8))⟩,
       ⟨(some 27), none, (.mv (.t 1))⟩,
       ⟨(some 28), none, (.bin .eql (.t 26) (.t 27))⟩] ⟨false, [], []⟩)
     (.cond (.t 28) (.ops [
        ⟨(some 29), none, (.mv (.t 2))⟩,
        ⟨(some 9), none, (.mv (.t 29))⟩] ⟨false, [], []⟩)
      .skip))
    (.draw [
     ⟨(some 30), none, (.fld 1 (.t 7))⟩,
     ⟨(some 31), none, (.load 1 false (.t 30))⟩,
     ⟨(some 32), none, (.mv (.t 8))⟩,
     ⟨(some 33), none, (.mv (.t 9))⟩,
     ⟨(some 34), none, (.call 41 [(.t 33)])⟩,
     ⟨(some 35), none, (.idxs 1 (.t 31) (.t 32))⟩,
     ⟨none, none, (.store 1 (.t 35) (.t 34))⟩] [(1, 4)] ⟨false, [], []⟩))) ⟨false, [], []⟩)
  (.ops [
   ⟨(some 36), none, (.bin .add (.t 21) (.c (.int .i64 1)))⟩,
   ⟨(some 21), none, (.mv (.t 36))⟩] ⟨false, [], []⟩))))
def w38_L0 : WCode := .loop ⟨true, [21, 20, 19, 7, 6, 2, 1], []⟩ w38_B0
def w38 : WFn := ⟨3, [.cell 6 2 true],
 (.seq (.ops [
    ⟨(some 3), none, (.box (.t 0))⟩,
    ⟨(some 6), none, (.alloc [(.ro 1 [] true), (.ro 1 [] true)])⟩] ⟨false, [], []⟩)
  (.seq (.draw [
    ⟨(some 10), none, (.fld 0 (.t 3))⟩,
    ⟨(some 11), none, (.load 1 false (.t 10))⟩,
    ⟨(some 12), none, (.call 21 [(.t 11)])⟩,
    ⟨(some 13), none, (.fld 1 (.t 3))⟩,
    ⟨(some 14), none, (.load 1 false (.t 13))⟩,
    ⟨(some 15), none, (.len 1 (.t 14))⟩,
    ⟨(some 16), none, (.mksl [(.ro 1 [] true)] 24 (.t 15) (.t 15))⟩,
    ⟨(some 17), none, (.build [(.ro 1 [] true), (.ro 1 [] true)] [(0, 1, (.t 12)), (1, 1, (.t 16))])⟩,
    ⟨(some 7), none, (.alloc [(.ro 1 [] true), (.ro 1 [] true)])⟩,
    ⟨none, none, (.store 2 (.t 7) (.t 17))⟩] [(2, 4), (2, 5), (1, 6), (2, 6), (1, 8), (2, 8), (4, 8), (5, 8), (6, 8)] ⟨false, [], []⟩)
  (.seq (.seq (.ops [
     ⟨(some 18), none, (.fld 1 (.t 3))⟩,
     ⟨(some 19), none, (.load 1 false (.t 18))⟩,
     ⟨(some 20), none, (.len 1 (.t 19))⟩,
     ⟨(some 21), none, (.mv (.c (.int .i64 0)))⟩] ⟨true, [21, 20, 19, 7, 6, 2, 1], []⟩)
   (.block 0 w38_L0 ⟨true, [7, 6], []⟩))
  w38_c0)))⟩

@[simp] theorem w38_E0 {β : Type} {C : WProg} {b : Nat} {f : Ex × WSt → Option β} {k : List Pw.Frame} {s : WSt} : CK C b f k w38_L0 s = LK C b f (.sq w38_L0 :: k) w38_B0 (canon b ⟨true, [21, 20, 19, 7, 6, 2, 1], []⟩ s) := ck_lp rfl
noncomputable abbrev w38_K0 (C : WProg) (s : WSt) : Option AV := CK C 0 (pureFin [.cell 6 2 true]) [.sq w38_L0, .bk 0 ⟨true, [7, 6], []⟩, .sq w38_c0] w38_B0 s

/- slices.Clip[[]string,string] -/
def w39 : WFn := ⟨1, [.tmp 2],
 (.seq (.ops [
    ⟨(some 2), none, (.mv (.c (.ro 1 [] true)))⟩] ⟨false, [], []⟩)
  (.seq (.ops [
    ⟨(some 3), none, (.mv (.t 0))⟩,
    ⟨(some 4), none, (.mv (.t 0))⟩,
    ⟨(some 5), none, (.len 1 (.t 4))⟩,
    ⟨(some 6), none, (.mv (.t 0))⟩,
    ⟨(some 7), none, (.len 1 (.t 6))⟩,
    ⟨(some 8), none, (.slice 1 (.t 3) none (some (.t 5)) (some (.t 7)))⟩,
    ⟨(some 2), none, (.mv (.t 8))⟩] ⟨false, [], []⟩)
  .ret))⟩

/- slices.Concat[[]string,string] -/
def w40_c0 : WCode := (.seq (.ops [
    ⟨(some 35), none, (.mv (.t 6))⟩,
    ⟨(some 2), none, (.mv (.t 35))⟩] ⟨false, [], []⟩)
  .ret)

def w40_B0 : WCode := (.seq (.ops [
    ⟨(some 28), none, (.bin .lss (.t 27) (.t 26))⟩] ⟨false, [], []⟩)
  (.seq (.cond (.t 28) .skip
    (.exit 2))
  (.seq (.block 3 (.seq (.ops [
      ⟨(some 29), none, (.idxs 1 (.t 25) (.t 27))⟩,
      ⟨(some 30), none, (.load 1 false (.t 29))⟩,
      ⟨(some 8), none, (.mv (.t 30))⟩] ⟨false, [], []⟩)
    (.ops [
     ⟨(some 31), none, (.mv (.t 6))⟩,
     ⟨(some 32), none, (.mv (.t 8))⟩,
     ⟨(some 33), none, (.app [(.str [])] 16 false (.t 31) (.t 32))⟩,
     ⟨(some 6), none, (.mv (.t 33))⟩] ⟨false, [], []⟩)) ⟨false, [], []⟩)
  (.ops [
   ⟨(some 34), none, (.bin .add (.t 27) (.c (.int .i64 1)))⟩,
   ⟨(some 27), none, (.mv (.t 34))⟩] ⟨false, [], []⟩))))
def w40_L0 : WCode := .loop ⟨true, [27, 26, 25, 6], []⟩ w40_B0
def w40_c1 : WCode := (.seq (.ops [
    ⟨(some 23), none, (.mv (.t 3))⟩,
    ⟨(some 24), none, (.call 42 [(.c (.ro 1 [] true)), (.t 23)])⟩,
    ⟨(some 6), none, (.mv (.t 24))⟩] ⟨false, [], []⟩)
  (.seq (.seq (.ops [
     ⟨(some 25), none, (.mv (.t 0))⟩,
     ⟨(some 26), none, (.len 1 (.t 25))⟩,
     ⟨(some 27), none, (.mv (.c (.int .i64 0)))⟩] ⟨false, [], []⟩)
   (.block 2 w40_L0 ⟨true, [6], []⟩))
  w40_c0))

def w40_B1 : WCode := (.seq (.ops [
    ⟨(some 12), none, (.bin .lss (.t 11) (.t 10))⟩] ⟨false, [], []⟩)
  (.seq (.cond (.t 12) .skip
    (.exit 0))
  (.seq (.block 1 (.seq (.ops [
      ⟨(some 13), none, (.idxs 1 (.t 9) (.t 11))⟩,
      ⟨(some 14), none, (.load 1 false (.t 13))⟩,
      ⟨(some 5), none, (.mv (.t 14))⟩] ⟨false, [], []⟩)
    (.seq (.ops [
      ⟨(some 15), none, (.mv (.t 3))⟩,
      ⟨(some 16), none, (.mv (.t 5))⟩,
      ⟨(some 17), none, (.len 1 (.t 16))⟩,
      ⟨(some 18), none, (.bin .add (.t 15) (.t 17))⟩,
      ⟨(some 3), none, (.mv (.t 18))⟩] ⟨false, [], []⟩)
    (.seq (.ops [
      ⟨(some 19), none, (.mv (.t 3))⟩,
      ⟨(some 20), none, (.bin .lss (.t 19) (.c (.int .i64 0)))⟩] ⟨true, [20, 11, 10, 9, 3, 0], []⟩)
    (.cond (.t 20) (.ops [
       ⟨(some 21), none, .fail⟩,
       ⟨none, none, .fail⟩] ⟨false, [], []⟩)
     .skip)))) ⟨false, [], []⟩)
  (.ops [
   ⟨(some 22), none, (.bin .add (.t 11) (.c (.int .i64 1)))⟩,
   ⟨(some 11), none, (.mv (.t 22))⟩] ⟨false, [], []⟩))))
def w40_L1 : WCode := .loop ⟨true, [11, 10, 9, 3, 0], []⟩ w40_B1
def w40 : WFn := ⟨1, [.tmp 2],
 (.seq (.ops [
    ⟨(some 2), none, (.mv (.c (.ro 1 [] true)))⟩] ⟨false, [], []⟩)
  (.seq (.ops [
    ⟨(some 3), none, (.mv (.c (.int .i64 0)))⟩] ⟨false, [], []⟩)
  (.seq (.seq (.ops [
     ⟨(some 9), none, (.mv (.t 0))⟩,
     ⟨(some 10), none, (.len 1 (.t 9))⟩,
     ⟨(some 11), none, (.mv (.c (.int .i64 0)))⟩] ⟨false, [], []⟩)
   (.block 0 w40_L1 ⟨true, [3, 0], []⟩))
  w40_c1)))⟩

@[simp] theorem w40_E0 {β : Type} {C : WProg} {b : Nat} {f : Ex × WSt → Option β} {k : List Pw.Frame} {s : WSt} : CK C b f k w40_L0 s = LK C b f (.sq w40_L0 :: k) w40_B0 (canon b ⟨true, [27, 26, 25, 6], []⟩ s) := ck_lp rfl
noncomputable abbrev w40_K0 (C : WProg) (s : WSt) : Option AV := CK C 0 (pureFin [.tmp 2]) [.sq w40_L0, .bk 2 ⟨true, [6], []⟩, .sq w40_c0] w40_B0 s

@[simp] theorem w40_E1 {β : Type} {C : WProg} {b : Nat} {f : Ex × WSt → Option β} {k : List Pw.Frame} {s : WSt} : CK C b f k w40_L1 s = LK C b f (.sq w40_L1 :: k) w40_B1 (canon b ⟨true, [11, 10, 9, 3, 0], []⟩ s) := ck_lp rfl
noncomputable abbrev w40_K1 (C : WProg) (s : WSt) : Option AV := CK C 0 (pureFin [.tmp 2]) [.sq w40_L1, .bk 0 ⟨true, [3, 0], []⟩, .sq w40_c1] w40_B1 s

/- paternoster/pools.copied[string] -/
def w41 : WFn := ⟨1, [.tmp 2],
 (.seq (.ops [
    ⟨(some 2), none, (.mv (.c (.ro 1 [] true)))⟩] ⟨false, [], []⟩)
  (.seq (.ops [
    ⟨(some 4), none, (.mv (.t 0))⟩,
    ⟨(some 5), none, (.len 1 (.t 4))⟩,
    ⟨(some 6), none, (.mksl [(.str [])] 16 (.t 5) (.t 5))⟩,
    ⟨(some 3), none, (.mv (.t 6))⟩] ⟨false, [], []⟩)
  (.seq (.ops [
    ⟨(some 7), none, (.mv (.t 3))⟩,
    ⟨(some 8), none, (.mv (.t 0))⟩,
    ⟨(some 9), none, (.cpy 1 (.t 7) (.t 8))⟩] ⟨false, [], []⟩)
  (.seq (.ops [
    ⟨(some 10), none, (.mv (.t 3))⟩,
    ⟨(some 2), none, (.mv (.t 10))⟩] ⟨false, [], []⟩)
  .ret))))⟩

/- slices.Grow[[]string,string] -/
def w42 : WFn := ⟨2, [.tmp 4],
 (.seq (.ops [
    ⟨(some 4), none, (.mv (.c (.ro 1 [] true)))⟩] ⟨false, [], []⟩)
  (.seq (.seq (.ops [
     ⟨(some 5), none, (.mv (.t 1))⟩,
     ⟨(some 6), none, (.bin .lss (.t 5) (.c (.int .i64 0)))⟩] ⟨false, [], []⟩)
   (.cond (.t 6) (.ops [
      ⟨(some 7), none, .fail⟩,
      ⟨none, none, .fail⟩] ⟨true, [1, 0], []⟩)
    .skip))
  (.seq (.seq (.ops [
     ⟨(some 8), none, (.mv (.t 1))⟩,
     ⟨(some 9), none, (.mv (.t 0))⟩,
     ⟨(some 10), none, (.cap (.t 9))⟩,
     ⟨(some 11), none, (.mv (.t 0))⟩,
     ⟨(some 12), none, (.len 1 (.t 11))⟩,
     ⟨(some 13), none, (.bin .sub (.t 10) (.t 12))⟩,
     ⟨(some 14), none, (.bin .sub (.t 8) (.t 13))⟩,
     ⟨(some 1), none, (.mv (.t 14))⟩] ⟨false, [], []⟩)
   (.seq (.ops [
     ⟨(some 15), none, (.mv (.t 1))⟩,
     ⟨(some 16), none, (.bin .gtr (.t 15) (.c (.int .i64 0)))⟩] ⟨false, [], []⟩)
   (.cond (.t 16) (.ops [
      ⟨(some 17), none, (.mv (.t 0))⟩,
      ⟨(some 18), none, (.mv (.t 0))⟩,
      ⟨(some 19), none, (.cap (.t 18))⟩,
      ⟨(some 20), none, (.slice 1 (.t 17) none (some (.t 19)) none)⟩,
      ⟨(some 21), none, (.mv (.t 1))⟩,
      ⟨(some 22), none, (.app [(.str [])] 16 true (.t 20) (.t 21))⟩,
      ⟨(some 23), none, (.mv (.t 0))⟩,
      ⟨(some 24), none, (.len 1 (.t 23))⟩,
      ⟨(some 25), none, (.slice 1 (.t 22) none (some (.t 24)) none)⟩,
      ⟨(some 0), none, (.mv (.t 25))⟩] ⟨false, [], []⟩)
    .skip)))
  (.seq (.ops [
    ⟨(some 26), none, (.mv (.t 0))⟩,
    ⟨(some 4), none, (.mv (.t 26))⟩] ⟨false, [], []⟩)
  .ret))))⟩

def tree : WTree := (.node (.node (.node (.node (.node (.node .leaf 0 w0 .leaf) 1 w1 .leaf) 2 w2 (.node (.node .leaf 3 w3 .leaf) 4 w4 .leaf)) 5 w5 (.node (.node (.node .leaf 6 w6 .leaf) 7 w7 .leaf) 8 w8 (.node .leaf 9 w9 .leaf))) 10 w10 (.node (.node (.node (.node .leaf 11 w11 .leaf) 12 w12 .leaf) 13 w13 (.node (.node .leaf 14 w14 .leaf) 15 w15 .leaf)) 16 w16 (.node (.node (.node .leaf 17 w17 .leaf) 18 w18 .leaf) 19 w19 (.node .leaf 20 w20 .leaf)))) 21 w21 (.node (.node (.node (.node (.node .leaf 22 w22 .leaf) 23 w23 .leaf) 24 w24 (.node (.node .leaf 25 w25 .leaf) 26 w26 .leaf)) 27 w27 (.node (.node (.node .leaf 28 w28 .leaf) 29 w29 .leaf) 30 w30 (.node .leaf 31 w31 .leaf))) 32 w32 (.node (.node (.node (.node .leaf 33 w33 .leaf) 34 w34 .leaf) 35 w35 (.node (.node .leaf 36 w36 .leaf) 37 w37 .leaf)) 38 w38 (.node (.node (.node .leaf 39 w39 .leaf) 40 w40 .leaf) 41 w41 (.node .leaf 42 w42 .leaf)))))

/- own number, number in the dump -/
def ids : List (Nat × Nat) := [(0, 2), (1, 3), (2, 4), (3, 5), (4, 6), (5, 7), (6, 8), (7, 9), (8, 10), (9, 11), (10, 12), (11, 13), (12, 14), (13, 15), (14, 16), (15, 17), (16, 18), (17, 19), (18, 20), (19, 21), (20, 22), (21, 23), (22, 24), (23, 25), (24, 26), (25, 27), (26, 28), (27, 29), (28, 30), (29, 31), (30, 32), (31, 33), (32, 34), (33, 35), (34, 36), (35, 37), (36, 38), (37, 39), (38, 40), (39, 41), (40, 42), (41, 43), (42, 44)]

end P21
end

section
set_option linter.unusedSimpArgs false
set_option linter.unusedVariables false
/- A program and its small form: how the link is laid, function by function. -/
namespace Go.Pav
open Go

/-- Own numbers and dump numbers. -/
def phiOf (ids : List (Nat × Nat)) (f : FuncId) : Option Nat :=
  match ids with
  | [] => none
  | (g, k) :: r => if k = f then some g else phiOf r f

def psiOf (ids : List (Nat × Nat)) (g : Nat) : FuncId :=
  match get ids g with
  | some k => k
  | none => 0

theorem phiOf_mem : ∀ {ids : List (Nat × Nat)} {f : FuncId} {g : Nat}, phiOf ids f = some g → (g, f) ∈ ids := by
  intro ids
  induction ids with
  | nil => intro f g h; simp [phiOf] at h
  | cons x r ih =>
    intro f g h
    obtain ⟨a, k⟩ := x
    simp only [phiOf] at h
    split at h
    · rename_i hk
      cases h; subst hk; exact List.mem_cons_self
    · exact List.mem_cons_of_mem _ (ih h)

theorem psi_phi {ids : List (Nat × Nat)} (hc : (ids.all fun x => decide (psiOf ids x.1 = x.2)) = true) : ∀ f g, phiOf ids f = some g → psiOf ids g = f := by
  intro f g h
  have := List.all_eq_true.1 hc _ (phiOf_mem h)
  simpa using this

/-- Of every function in a tree. -/
def TreeAll (p : Nat → CFn → Prop) : Tree → Prop
  | .leaf => True
  | .node l k f r => TreeAll p l ∧ p k f ∧ TreeAll p r

theorem TreeAll.get {p : Nat → CFn → Prop} : ∀ {t : Tree}, TreeAll p t → ∀ {g : Nat} {cf : CFn}, t.get g = some cf → p g cf := by
  intro t
  induction t with
  | leaf => intro _ g cf h; simp [Tree.get] at h
  | node l k f r ihl ihr =>
    intro ⟨h1, h2, h3⟩ g cf h
    simp only [Tree.get] at h
    split at h
    · rename_i hk; cases h; subst hk; exact h2
    · split at h
      · exact ihl h1 h
      · exact ihr h3 h

/-- A function is what the small one was made of. -/
def FnOk (P : Program) (ids : List (Nat × Nat)) (g : Nat) (cf : CFn) : Prop := ∃ fn, P.funcs[psiOf ids g]? = some fn ∧ (cFn P (phiOf ids) fn).map stripF = some (stripF cf)

theorem linked {P : Program} {ids : List (Nat × Nat)} {C : Prog} (hc : (ids.all fun x => decide (psiOf ids x.1 = x.2)) = true) (ht : TreeAll (FnOk P ids) C.fns) (hm : P.follows .mixedOrders = true) :
    Linked P (phiOf ids) (psiOf ids) C :=
  ⟨psi_phi hc, fun _ _ h => ht.get h, hm⟩

end Go.Pav
end

section
set_option linter.unusedSimpArgs false
set_option linter.unusedVariables false
set_option maxRecDepth 100000
namespace P21
open Go Go.Pav Go.Pw Go.Proofs

theorem l0 : FnOk Try.prog ids 0 (erFn w0) := ⟨Try.f2, Try.func2, by kernel_rfl⟩
theorem l1 : FnOk Try.prog ids 1 (erFn w1) := ⟨Try.f3, Try.func3, by kernel_rfl⟩
theorem l2 : FnOk Try.prog ids 2 (erFn w2) := ⟨Try.f4, Try.func4, by kernel_rfl⟩
theorem l3 : FnOk Try.prog ids 3 (erFn w3) := ⟨Try.f5, Try.func5, by kernel_rfl⟩
theorem l4 : FnOk Try.prog ids 4 (erFn w4) := ⟨Try.f6, Try.func6, by kernel_rfl⟩
theorem l5 : FnOk Try.prog ids 5 (erFn w5) := ⟨Try.f7, Try.func7, by kernel_rfl⟩
theorem l6 : FnOk Try.prog ids 6 (erFn w6) := ⟨Try.f8, Try.func8, by kernel_rfl⟩
theorem l7 : FnOk Try.prog ids 7 (erFn w7) := ⟨Try.f9, Try.func9, by kernel_rfl⟩
theorem l8 : FnOk Try.prog ids 8 (erFn w8) := ⟨Try.f10, Try.func10, by kernel_rfl⟩
theorem l9 : FnOk Try.prog ids 9 (erFn w9) := ⟨Try.f11, Try.func11, by kernel_rfl⟩
theorem l10 : FnOk Try.prog ids 10 (erFn w10) := ⟨Try.f12, Try.func12, by kernel_rfl⟩
theorem l11 : FnOk Try.prog ids 11 (erFn w11) := ⟨Try.f13, Try.func13, by kernel_rfl⟩
theorem l12 : FnOk Try.prog ids 12 (erFn w12) := ⟨Try.f14, Try.func14, by kernel_rfl⟩
theorem l13 : FnOk Try.prog ids 13 (erFn w13) := ⟨Try.f15, Try.func15, by kernel_rfl⟩
theorem l14 : FnOk Try.prog ids 14 (erFn w14) := ⟨Try.f16, Try.func16, by kernel_rfl⟩
theorem l15 : FnOk Try.prog ids 15 (erFn w15) := ⟨Try.f17, Try.func17, by kernel_rfl⟩
theorem l16 : FnOk Try.prog ids 16 (erFn w16) := ⟨Try.f18, Try.func18, by kernel_rfl⟩
theorem l17 : FnOk Try.prog ids 17 (erFn w17) := ⟨Try.f19, Try.func19, by kernel_rfl⟩
theorem l18 : FnOk Try.prog ids 18 (erFn w18) := ⟨Try.f20, Try.func20, by kernel_rfl⟩
theorem l19 : FnOk Try.prog ids 19 (erFn w19) := ⟨Try.f21, Try.func21, by kernel_rfl⟩
theorem l20 : FnOk Try.prog ids 20 (erFn w20) := ⟨Try.f22, Try.func22, by kernel_rfl⟩
theorem l21 : FnOk Try.prog ids 21 (erFn w21) := ⟨Try.f23, Try.func23, by kernel_rfl⟩
theorem l22 : FnOk Try.prog ids 22 (erFn w22) := ⟨Try.f24, Try.func24, by kernel_rfl⟩
theorem l23 : FnOk Try.prog ids 23 (erFn w23) := ⟨Try.f25, Try.func25, by kernel_rfl⟩
theorem l24 : FnOk Try.prog ids 24 (erFn w24) := ⟨Try.f26, Try.func26, by kernel_rfl⟩
theorem l25 : FnOk Try.prog ids 25 (erFn w25) := ⟨Try.f27, Try.func27, by kernel_rfl⟩
theorem l26 : FnOk Try.prog ids 26 (erFn w26) := ⟨Try.f28, Try.func28, by kernel_rfl⟩
theorem l27 : FnOk Try.prog ids 27 (erFn w27) := ⟨Try.f29, Try.func29, by kernel_rfl⟩
theorem l28 : FnOk Try.prog ids 28 (erFn w28) := ⟨Try.f30, Try.func30, by kernel_rfl⟩
theorem l29 : FnOk Try.prog ids 29 (erFn w29) := ⟨Try.f31, Try.func31, by kernel_rfl⟩
theorem l30 : FnOk Try.prog ids 30 (erFn w30) := ⟨Try.f32, Try.func32, by kernel_rfl⟩
theorem l31 : FnOk Try.prog ids 31 (erFn w31) := ⟨Try.f33, Try.func33, by kernel_rfl⟩
theorem l32 : FnOk Try.prog ids 32 (erFn w32) := ⟨Try.f34, Try.func34, by kernel_rfl⟩
theorem l33 : FnOk Try.prog ids 33 (erFn w33) := ⟨Try.f35, Try.func35, by kernel_rfl⟩
theorem l34 : FnOk Try.prog ids 34 (erFn w34) := ⟨Try.f36, Try.func36, by kernel_rfl⟩
theorem l35 : FnOk Try.prog ids 35 (erFn w35) := ⟨Try.f37, Try.func37, by kernel_rfl⟩
theorem l36 : FnOk Try.prog ids 36 (erFn w36) := ⟨Try.f38, Try.func38, by kernel_rfl⟩
theorem l37 : FnOk Try.prog ids 37 (erFn w37) := ⟨Try.f39, Try.func39, by kernel_rfl⟩
theorem l38 : FnOk Try.prog ids 38 (erFn w38) := ⟨Try.f40, Try.func40, by kernel_rfl⟩
theorem l39 : FnOk Try.prog ids 39 (erFn w39) := ⟨Try.f41, Try.func41, by kernel_rfl⟩
theorem l40 : FnOk Try.prog ids 40 (erFn w40) := ⟨Try.f42, Try.func42, by kernel_rfl⟩
theorem l41 : FnOk Try.prog ids 41 (erFn w41) := ⟨Try.f43, Try.func43, by kernel_rfl⟩
theorem l42 : FnOk Try.prog ids 42 (erFn w42) := ⟨Try.f44, Try.func44, by kernel_rfl⟩

def prog : WProg := ⟨tree, fun f => decide (f = 35 ∨ f = 42)⟩

theorem all : TreeAll (FnOk Try.prog ids) (erProg prog).fns := ⟨⟨⟨⟨⟨⟨trivial, l0, trivial⟩, l1, trivial⟩, l2, ⟨⟨trivial, l3, trivial⟩, l4, trivial⟩⟩, l5, ⟨⟨⟨trivial, l6, trivial⟩, l7, trivial⟩, l8, ⟨trivial, l9, trivial⟩⟩⟩, l10, ⟨⟨⟨⟨trivial, l11, trivial⟩, l12, trivial⟩, l13, ⟨⟨trivial, l14, trivial⟩, l15, trivial⟩⟩, l16, ⟨⟨⟨trivial, l17, trivial⟩, l18, trivial⟩, l19, ⟨trivial, l20, trivial⟩⟩⟩⟩, l21, ⟨⟨⟨⟨⟨trivial, l22, trivial⟩, l23, trivial⟩, l24, ⟨⟨trivial, l25, trivial⟩, l26, trivial⟩⟩, l27, ⟨⟨⟨trivial, l28, trivial⟩, l29, trivial⟩, l30, ⟨trivial, l31, trivial⟩⟩⟩, l32, ⟨⟨⟨⟨trivial, l33, trivial⟩, l34, trivial⟩, l35, ⟨⟨trivial, l36, trivial⟩, l37, trivial⟩⟩, l38, ⟨⟨⟨trivial, l39, trivial⟩, l40, trivial⟩, l41, ⟨trivial, l42, trivial⟩⟩⟩⟩⟩

theorem okT : okTree prog.fns = true := by kernel_rfl

theorem link : Linked Try.prog (phiOf ids) (psiOf ids) (erProg prog) := linked (by kernel_rfl) all (by kernel_rfl)

end P21
end

section
set_option linter.unusedSimpArgs false
set_option linter.unusedVariables false
/- Small things for contracts: how data is laid, lists. -/
namespace Go.Pw
open Go Go.Pav

/-- A cell of a number, a string, a bool. -/
@[simp] def eI (x : Int) : List AV := [.int .i64 x]
@[simp] def eU8 (x : Int) : List AV := [.int .u8 x]
@[simp] def eU64 (x : Int) : List AV := [.int .u64 x]
@[simp] def eS (x : List UInt8) : List AV := [.str x]
@[simp] def eB (x : Bool) : List AV := [.bool x]

/-- A list of numbers. -/
abbrev L1 (xs : List Int) (e : Bool) : AV := .ro 1 (xs.map eI) e

attribute [simp] Int.natCast_inj
attribute [-simp] List.getElem_cons_drop

section
variable (a n : Nat)
@[simp] theorem lit_lt_cast : ((no_index (OfNat.ofNat a) : Int) < (n : Int)) = ((no_index (OfNat.ofNat a) : Nat) < n) := propext (Int.ofNat_lt (n := (OfNat.ofNat a : Nat)) (m := n))
@[simp] theorem cast_lt_lit : ((n : Int) < (no_index (OfNat.ofNat a) : Int)) = (n < (no_index (OfNat.ofNat a) : Nat)) := propext (Int.ofNat_lt (m := (OfNat.ofNat a : Nat)) (n := n))
@[simp] theorem lit_le_cast : ((no_index (OfNat.ofNat a) : Int) ≤ (n : Int)) = ((no_index (OfNat.ofNat a) : Nat) ≤ n) := propext (Int.ofNat_le (m := (OfNat.ofNat a : Nat)) (n := n))
@[simp] theorem cast_le_lit : ((n : Int) ≤ (no_index (OfNat.ofNat a) : Int)) = (n ≤ (no_index (OfNat.ofNat a) : Nat)) := propext (Int.ofNat_le (n := (OfNat.ofNat a : Nat)) (m := n))
end

/-- A list that is being filled. -/
theorem fill_get {α β : Type} {f : α → β} {acc : List α} {n i : Nat} {z : β} (h : acc.length = i) : (List.map f acc ++ List.replicate (n + 1) z)[i]? = some z := by
  rw [List.getElem?_append_right (by simp; omega)]
  simp [h]
theorem fill_set {α β : Type} {f : α → β} {acc : List α} {n i : Nat} {z v : β} (h : acc.length = i) : (List.map f acc ++ List.replicate (n + 1) z).set i v = List.map f acc ++ v :: List.replicate n z := by
  rw [List.set_append, if_neg (by simp; omega)]
  simp [h, List.replicate_succ]

@[simp] theorem app_le (a b : Nat) : (a + (b + 1) ≤ a) = False := eq_false (by omega)

theorem drop_cons {α : Type} {l : List α} {i : Nat} (h : i < l.length) : l.drop i = l[i] :: l.drop (i + 1) := List.drop_eq_getElem_cons h

theorem isC_map {α : Type} {f : α → List AV} (hf : ∀ x, (f x).all isC = true) (xs : List α) : ((xs.map f).all fun e => e.all isC) = true := by
  simp [List.all_map, hf]

end Go.Pw
end

section
set_option linter.unusedSimpArgs false
set_option linter.unusedVariables false
/- Contracts of the functions of pools. -/
namespace Go.C21
open Go Go.Pav Go.Pw P21
set_option maxRecDepth 10000
set_option maxHeartbeats 4000000
set_option linter.unusedSimpArgs false
set_option linter.unusedVariables false
attribute [-simp] List.getElem_cons_drop

/-- A row of numbers. -/
@[simp] def eR (r : List Int × Bool) : List AV := [L1 r.1 r.2]
/-- Pools. -/
abbrev eP (bs : List Int) (e : Bool) (rs : List (List Int × Bool)) (f : Bool) : AV := .agg [L1 bs e, .ro 1 (rs.map eR) f]
abbrev zP : AV := .agg [.ro 1 [] true, .ro 1 [] true]

structure Has (C : WProg) : Prop where
  f5 : C.fns.get 5 = some w5
  f10 : C.fns.get 10 = some w10
  f11 : C.fns.get 11 = some w11
  f12 : C.fns.get 12 = some w12
  f14 : C.fns.get 14 = some w14
  f15 : C.fns.get 15 = some w15
  f16 : C.fns.get 16 = some w16
  f19 : C.fns.get 19 = some w19
  f20 : C.fns.get 20 = some w20
  f21 : C.fns.get 21 = some w21
  f24 : C.fns.get 24 = some w24
  f25 : C.fns.get 25 = some w25
  f26 : C.fns.get 26 = some w26
  f28 : C.fns.get 28 = some w28
  f35 : C.fns.get 35 = some w35
  inl : C.inl = fun f => decide (f = 35 ∨ f = 42)

variable {C : WProg} (H : Has C)
include H

theorem copied_ok (xs : List Int) (e : Bool) (hx : xs.length ≤ 1000000) : FnW C 21 [L1 xs e] = some (L1 xs true) := by
  rw [fnW_eq H.f21 rfl]
  by_cases h0 : xs = []
  · subst h0; simp [w21]
  simp (disch := omega) [w21, fits, h0]
  simp [List.take_of_length_le]

omit H in
theorem ints_loop (xs ys : List Int) (e : Bool) (hl : xs.length = ys.length) (hx : xs.length ≤ 1000000) : ∀ n i, n + i = xs.length →
    w14_K0 C ⟨[(5, .int .i64 i), (1, L1 ys e), (0, L1 xs true)], [], 0⟩ = some (.int .i64 (if xs.drop i = ys.drop i then 1 else 0)) := by
  intro n
  induction n with
  | zero =>
    intro i hi
    simp only [w14_K0]; rw [ck_unf w14_B0.eq_1]
    have h1 : xs.drop i = [] := List.drop_eq_nil_of_le (by omega)
    have h2 : ys.drop i = [] := List.drop_eq_nil_of_le (by omega)
    have h3 : ¬ i < xs.length := by omega
    simp [ck_unf w14_c0.eq_1, h1, h2, h3]
  | succ n ih =>
    intro i hi
    have h1 : i < xs.length := by omega
    have h2 : i < ys.length := by omega
    have := ih (i + 1) (by omega)
    simp only [w14_K0] at this ⊢; rw [ck_unf w14_B0.eq_1]
    rw [List.drop_eq_getElem_cons h1, List.drop_eq_getElem_cons h2]
    simp (disch := omega) [h1, h2, wI64] at this ⊢
    split
    · rename_i h3
      simpa [h3] using this
    · rename_i h3
      simp [h3]

theorem ints_ok (xs ys : List Int) (e : Bool) (hx : xs.length ≤ 1000000) : FnW C 14 [L1 xs true, L1 ys e] = some (.int .i64 (if xs = ys then 1 else 0)) := by
  rw [fnW_eq H.f14 rfl]
  by_cases hl : xs.length = ys.length
  · have := ints_loop (C := C) xs ys e hl hx xs.length 0 (by simp)
    simp [w14, hl] at this ⊢
    exact this
  · have : xs ≠ ys := fun q => hl (by rw [q])
    simp [w14, hl, this]

omit H in
def okP (x : Int × (List Int × Bool)) : Bool := decide (0 ≤ x.1 ∧ x.1 ≤ 65536 ∧ (x.2.1.length : Int) ≤ x.1)
omit H in
/-- 0, or ErrArg. -/
def b01 (b : Bool) : Int := match b with
  | true => 0
  | false => 1
omit H in
@[simp] theorem b01_t : b01 true = 0 := rfl
omit H in
@[simp] theorem b01_f : b01 false = 1 := rfl
omit H in
def allOk (l : List (Int × (List Int × Bool))) : Bool := l.all okP
omit H in
theorem allOk_cons (x : Int × (List Int × Bool)) (l : List (Int × (List Int × Bool))) : allOk (x :: l) = (okP x && allOk l) := rfl
omit H in
theorem allOk_nil : allOk [] = true := rfl
omit H in
def chk (bs : List Int) (rs : List (List Int × Bool)) : Int := b01 (decide (1 ≤ bs.length) && (decide (bs.length ≤ 8) && (decide (rs.length = bs.length) && allOk (bs.zip rs))))

omit H in
theorem check_loop (bs : List Int) (e : Bool) (rs : List (List Int × Bool)) (f : Bool) (hl : rs.length = bs.length) (hx : bs.length ≤ 8) : ∀ n i, n + i = bs.length →
    w20_K0 C ⟨[(25, .int .i64 i), (24, .int .i64 bs.length), (23, L1 bs e), (1, .ptr 0 0 0)], [(0, .cells 2 [[L1 bs e, .ro 1 (rs.map eR) f]] true true)], 1⟩ = some (.int .i64 (b01 (allOk ((bs.zip rs).drop i)))) := by
  intro n
  induction n with
  | zero =>
    intro i hi
    simp only [w20_K0]; rw [ck_unf w20_B0.eq_1]
    have h1 : (bs.zip rs).drop i = [] := List.drop_eq_nil_of_le (by simp; omega)
    have h3 : ¬ i < bs.length := by omega
    simp [ck_unf w20_c0.eq_1, h1, h3, allOk_nil]
  | succ n ih =>
    intro i hi
    have h1 : i < bs.length := by omega
    have h2 : i < rs.length := by omega
    have := ih (i + 1) (by omega)
    simp only [w20_K0] at this ⊢; rw [ck_unf w20_B0.eq_1]
    rw [List.drop_eq_getElem_cons (show i < (bs.zip rs).length by simp; omega)]
    simp (disch := omega) [h1, h2, wI64, okP, allOk_cons] at this ⊢
    rw [this]
    by_cases c1 : 0 ≤ bs[i]
    · by_cases c2 : bs[i] ≤ 65536
      · by_cases c3 : bs[i] < (rs[i].1.length : Int)
        · have c4 : ¬ (rs[i].1.length : Int) ≤ bs[i] := by omega
          simp [c1, c2, c3, c4]
        · have c4 : (rs[i].1.length : Int) ≤ bs[i] := by omega
          simp [c1, c2, c3, c4]
      · simp [c1, c2]
    · simp [c1]

theorem check_ok (bs : List Int) (e : Bool) (rs : List (List Int × Bool)) (f : Bool) : FnW C 20 [eP bs e rs f] = some (.int .i64 (chk bs rs)) := by
  rw [fnW_eq H.f20 rfl]
  unfold chk
  by_cases c1 : 1 ≤ bs.length
  · by_cases c2 : bs.length ≤ 8
    · by_cases c3 : rs.length = bs.length
      · have := check_loop (C := C) bs e rs f c3 c2 bs.length 0 (by simp)
        have c4 : ¬ (bs.length : Int) < 1 := by omega
        have c5 : ¬ 8 < (bs.length : Int) := by omega
        simp only [w20_K0] at this
        simp at this
        simp [w20, c1, c2, c3, c4, c5, this]
      · have c4 : ¬ (bs.length : Int) < 1 := by omega
        have c5 : ¬ 8 < (bs.length : Int) := by omega
        simp [w20, c1, c2, c3, c4, c5]
    · have c4 : ¬ (bs.length : Int) < 1 := by omega
      have c5 : 8 < (bs.length : Int) := by omega
      simp [w20, c1, c2, c4, c5]
  · have c4 : (bs.length : Int) < 1 := by omega
    simp [w20, c1, c4]

/-- The error of pools and a type. -/
def ofE (bs : List Int) (rs : List (List Int × Bool)) (k : Int) : Int := if chk bs rs ≠ 0 then chk bs rs else if k < 0 ∨ (bs.length : Int) ≤ k then 4 else 0

theorem of_ok (bs : List Int) (e : Bool) (rs : List (List Int × Bool)) (f : Bool) (k : Int) : FnW C 24 [eP bs e rs f, .int .i64 k] = some (.int .i64 (ofE bs rs k)) := by
  have h := check_ok H bs e rs f
  rw [fnW_eq H.f24 rfl]
  unfold ofE
  by_cases c : chk bs rs = 0
  · by_cases c1 : k < 0
    · simp [w24, H.inl, h, c, c1]
    · by_cases c2 : (bs.length : Int) ≤ k
      · simp [w24, H.inl, h, c, c1, c2]
      · simp [w24, H.inl, h, c, c1, c2]
  · simp [w24, H.inl, h, c]

omit H in
theorem of_zero {bs : List Int} {rs : List (List Int × Bool)} {k : Int} (c : ofE bs rs k = 0) : chk bs rs = 0 ∧ 0 ≤ k ∧ k.toNat < rs.length ∧ rs.length = bs.length ∧ k.toNat < bs.length := by
  have h1 : chk bs rs = 0 := by
    unfold ofE at c
    split at c
    · exact c
    · rename_i q; simpa using q
  have h2 : rs.length = bs.length := by
    unfold chk at h1
    by_cases q : rs.length = bs.length
    · exact q
    · simp [q] at h1
  unfold ofE at c
  rw [if_neg (by simp [h1])] at c
  split at c
  · cases c
  · exact ⟨h1, by omega, by omega, h2, by omega⟩

theorem len_ok (bs : List Int) (e : Bool) (rs : List (List Int × Bool)) (f : Bool) (k : Int) : FnW C 15 [eP bs e rs f, .int .i64 k] = some (.tup (if ofE bs rs k = 0 then [.int .i64 (rs[k.toNat]?.getD ([], true)).1.length, .int .i64 0] else [.int .i64 0, .int .i64 (ofE bs rs k)])) := by
  have h := of_ok H bs e rs f k
  rw [fnW_eq H.f15 rfl]
  by_cases c : ofE bs rs k = 0
  · obtain ⟨_, h1, h2, _⟩ := of_zero c
    simp [w15, H.inl, h, c, nat?_of h1, h2]
  · simp [w15, H.inl, h, c]

theorem clip_ok (xs : List Int) (e : Bool) : FnW C 26 [L1 xs e] = some (L1 xs true) := by
  rw [fnW_eq H.f26 rfl]
  simp [w26, List.take_of_length_le]
end Go.C21
end

section
set_option linter.unusedSimpArgs false
set_option linter.unusedVariables false
namespace Go.C21
open Go Go.Pav Go.Pw P21
set_option maxRecDepth 10000
set_option maxHeartbeats 4000000
attribute [-simp] List.getElem_cons_drop
variable {C : WProg} (H : Has C)
include H
/-- The rows behind i, with another list of a type. -/
def withR (rs : List (List Int × Bool)) (k : Nat) (row : List Int) (i : Nat) : List (List Int × Bool) := match rs with
  | [] => []
  | r :: rs => (if i = k then row else r.1, true) :: withR rs k row (i + 1)

theorem with_loop (bs : List Int) (rs : List (List Int × Bool)) (f : Bool) (k : Nat) (row : List Int) (g : Bool) (h2 : rs.length ≤ 1000) (hr : ∀ r ∈ rs, r.1.length ≤ 1000000) (hg : row.length ≤ 1000000) : ∀ n i, n + i = rs.length → ∀ (acc : List (List Int × Bool)), acc.length = i →
    w25_K0 C ⟨[(21, .int .i64 i), (20, .int .i64 rs.length), (19, .ro 1 (rs.map eR) f), (7, .ptr 0 0 0), (6, .ptr 2 0 0), (2, L1 row g), (1, .int .i64 k)],
      [(0, .cells 2 [[L1 bs true, .sl 1 1 0 rs.length rs.length true]] true false), (1, .cells 1 (acc.map eR ++ List.replicate n [AV.ro 1 [] true]) true true), (2, .cells 2 [[.ro 1 [] true, .ro 1 [] true]] true true)], 3⟩ =
      some (eP bs true (acc ++ withR (rs.drop i) k row i) true) := by
  intro n
  induction n with
  | zero =>
    intro i hi acc ha
    simp only [w25_K0]; rw [ck_unf w25_B0.eq_1]
    have h3 : ¬ i < rs.length := by omega
    have h4 : rs.drop i = [] := List.drop_eq_nil_of_le (by omega)
    have h5 : acc.length = rs.length := by omega
    have h6 : List.take rs.length (List.map eR acc) = List.map eR acc := List.take_of_length_le (by simp [h5])
    simp [ck_unf w25_c0.eq_1, h3, h4, withR, h5, h6]
  | succ n ih =>
    intro i hi acc ha
    have h3 : i < rs.length := by omega
    have hri := hr _ (List.getElem_mem h3)
    rw [drop_cons h3]
    by_cases hk : i = k
    · subst hk
      have := ih (i + 1) (by omega) (acc ++ [(row, true)]) (by simp [ha])
      simp only [w25_K0] at this ⊢; rw [ck_unf w25_B0.eq_1]
      simp at this
      simp (disch := omega) [copied_ok H, H.inl, wI64, h3, fill_get, fill_set, withR, this]
    · have := ih (i + 1) (by omega) (acc ++ [(rs[i].1, true)]) (by simp [ha])
      simp only [w25_K0] at this ⊢; rw [ck_unf w25_B0.eq_1]
      simp at this
      simp (disch := omega) [copied_ok H, H.inl, wI64, h3, hk, fill_get, fill_set, withR, this]

theorem with_ok (bs : List Int) (e : Bool) (rs : List (List Int × Bool)) (f : Bool) (k : Nat) (row : List Int) (g : Bool) (h1 : bs.length ≤ 1000) (h2 : rs.length ≤ 1000) (hr : ∀ r ∈ rs, r.1.length ≤ 1000000) (hg : row.length ≤ 1000000) :
    FnW C 25 [eP bs e rs f, .int .i64 k, L1 row g] = some (eP bs true (withR rs k row 0) true) := by
  have := with_loop H bs rs f k row g h2 hr hg rs.length 0 (by simp) [] rfl
  rw [fnW_eq H.f25 rfl]
  simp only [w25_K0] at this
  simp at this
  simp (disch := omega) [w25, H.inl, copied_ok H, fits, this]

theorem new_ok (bs : List Int) (e : Bool) :
    FnW C 5 [L1 bs e] = some (.tup (if chk bs (bs.map fun _ => ([], true)) = 0 then [eP bs true (bs.map fun _ => ([], true)) true, .int .i64 0] else [zP, .int .i64 1])) := by
  rw [fnW_eq H.f5 rfl]
  obtain ⟨rs, hrs⟩ : ∃ rs : List (List Int × Bool), bs.map (fun _ => (([] : List Int), true)) = rs := ⟨_, rfl⟩
  have h3 : List.replicate bs.length [AV.ro 1 [] true] = rs.map eR := by
    rw [← hrs, List.map_map]
    exact (List.map_const' ..).symm
  have h7 : rs.length = bs.length := by rw [← hrs]; simp
  have h8 : List.take bs.length (List.map eR rs) = List.map eR rs := List.take_of_length_le (by simp [h7])
  rw [hrs]
  by_cases h1 : bs.length ≤ 8
  · have h2 := check_ok H bs true rs true
    have h4 : ¬ 8 < bs.length := by omega
    by_cases h5 : chk bs rs = 0
    · simp (disch := omega) [w5, H.inl, copied_ok H, fits, h1, h4, h3, h2, h5, h7, h8]
    · have h6 : chk bs rs = 1 := by
        unfold chk at h5 ⊢
        unfold b01 at h5 ⊢
        split
        · rename_i q; rw [q] at h5; exact absurd rfl h5
        · rfl
      simp (disch := omega) [w5, H.inl, copied_ok H, fits, h1, h4, h3, h2, h6, h7, h8]
  · have h2 : 8 < bs.length := by omega
    have h5 : chk bs rs = 1 := by simp [chk, h1]
    simp (disch := omega) [w5, H.inl, copied_ok H, fits, h1, h2, h5]

omit H in
theorem of_rows {bs : List Int} {rs : List (List Int × Bool)} (c : chk bs rs = 0) : bs.length ≤ 8 ∧ rs.length = bs.length ∧ (∀ r ∈ rs, r.1.length ≤ 65536) ∧ ∀ (i : Nat) (h1 : i < bs.length) (h2 : i < rs.length), 0 ≤ bs[i] ∧ bs[i] ≤ 65536 ∧ (rs[i].1.length : Int) ≤ bs[i] := by
  have hb : ∀ b, b01 b = 0 → b = true := by intro b; cases b <;> simp
  have := hb _ c
  simp only [Bool.and_eq_true, decide_eq_true_eq] at this
  obtain ⟨h1, h2, h3, h4⟩ := this
  have h5 : ∀ (i : Nat) (h1 : i < bs.length) (h2 : i < rs.length), 0 ≤ bs[i] ∧ bs[i] ≤ 65536 ∧ (rs[i].1.length : Int) ≤ bs[i] := by
    intro i q1 q2
    have := List.all_eq_true.1 h4 (bs[i], rs[i]) (by
      have q3 : (bs.zip rs)[i]'(by simp; omega) = (bs[i], rs[i]) := List.getElem_zip
      exact q3 ▸ List.getElem_mem _)
    simpa [okP] using this
  refine ⟨h2, h3, fun r hr => ?_, h5⟩
  obtain ⟨i, hi, rfl⟩ := List.getElem_of_mem hr
  have := h5 i (by omega) hi
  omega

theorem push_ok (bs : List Int) (e : Bool) (rs : List (List Int × Bool)) (f : Bool) (k x : Int) :
    FnW C 10 [eP bs e rs f, .int .i64 k, .int .i64 x] = some (.tup (if ofE bs rs k = 0 then (if ((rs[k.toNat]?.getD ([], true)).1.length : Int) = bs[k.toNat]?.getD 0 then [eP bs true (withR rs k.toNat (rs[k.toNat]?.getD ([], true)).1 0) true, .bool true, .int .i64 0]
      else [eP bs true (withR rs k.toNat ((rs[k.toNat]?.getD ([], true)).1 ++ [x]) 0) true, .bool false, .int .i64 0]) else [zP, .bool false, .int .i64 (ofE bs rs k)])) := by
  have h := of_ok H bs e rs f k
  rw [fnW_eq H.f10 rfl]
  by_cases c : ofE bs rs k = 0
  · obtain ⟨h1, h2, h3, h4, h5⟩ := of_zero c
    obtain ⟨h6, _, h7, h8⟩ := of_rows h1
    obtain ⟨k, rfl⟩ : ∃ n : Nat, k = n := ⟨k.toNat, by omega⟩
    simp only [Int.toNat_natCast] at h3 h5 ⊢
    have hrk := h7 _ (List.getElem_mem h3)
    have hw : ∀ row g, row.length ≤ 1000000 → FnW C 25 [eP bs e rs f, .int .i64 k, L1 row g] = some (eP bs true (withR rs k row 0) true) :=
      fun row g hg => with_ok H bs e rs f k row g (by omega) (by omega) (fun r hr => by have := h7 r hr; omega) hg
    by_cases c2 : (rs[k].1.length : Int) = bs[k]
    · simp (disch := (first | omega | (simp; omega))) [w10, H.inl, h, c, h3, h5, hw, c2]
    · have hw2 := hw (rs[k].1 ++ [x]) false (by simp; omega)
      simp [L1] at hw2
      simp (disch := (first | omega | (simp; done) | (simp; omega))) [w10, H.inl, h, c, h3, h5, hw2, c2, clip_ok H, fits, List.take_of_length_le]
  · simp [w10, H.inl, h, c]

theorem pop_ok (bs : List Int) (e : Bool) (rs : List (List Int × Bool)) (f : Bool) (k : Int) :
    FnW C 11 [eP bs e rs f, .int .i64 k] = some (.tup (if ofE bs rs k = 0 then (if (rs[k.toNat]?.getD ([], true)).1.length = 0 then [eP bs true (withR rs k.toNat [] 0) true, .int .i64 0, .bool false, .int .i64 0]
      else [eP bs true (withR rs k.toNat ((rs[k.toNat]?.getD ([], true)).1.take ((rs[k.toNat]?.getD ([], true)).1.length - 1)) 0) true, .int .i64 ((rs[k.toNat]?.getD ([], true)).1[(rs[k.toNat]?.getD ([], true)).1.length - 1]?.getD 0), .bool true, .int .i64 0]) else [zP, .int .i64 0, .bool false, .int .i64 (ofE bs rs k)])) := by
  have h := of_ok H bs e rs f k
  rw [fnW_eq H.f11 rfl]
  by_cases c : ofE bs rs k = 0
  · obtain ⟨h1, h2, h3, h4, h5⟩ := of_zero c
    obtain ⟨h6, _, h7, h8⟩ := of_rows h1
    obtain ⟨k, rfl⟩ : ∃ n : Nat, k = n := ⟨k.toNat, by omega⟩
    simp only [Int.toNat_natCast] at h3 h5 ⊢
    have hrk := h7 _ (List.getElem_mem h3)
    have hw : ∀ row g, row.length ≤ 1000000 → FnW C 25 [eP bs e rs f, .int .i64 k, L1 row g] = some (eP bs true (withR rs k row 0) true) :=
      fun row g hg => with_ok H bs e rs f k row g (by omega) (by omega) (fun r hr => by have := h7 r hr; omega) hg
    by_cases hn : rs[k].1.length = 0
    · have hl : rs[k].1 = [] := List.length_eq_zero_iff.1 hn
      have := hw [] (rs[k].2) (by simp)
      simp [L1] at this
      simp (disch := (first | omega | (simp; done) | (simp; omega))) [w11, H.inl, h, c, h3, h5, hl, wI64, this]
    · obtain ⟨n, hn2⟩ : ∃ n, rs[k].1.length = n + 1 := ⟨rs[k].1.length - 1, by omega⟩
      have h9 : n < rs[k].1.length := by omega
      have hwn : IntKind.i64.wrap (n : Int) = n := wI64 (by omega) (by omega)
      have hlt : ¬ (n : Int) < 0 := by omega
      have := hw (rs[k].1.take n) false (by simp; omega)
      simp [L1] at this
      simp (disch := (first | omega | (simp; done) | (simp; omega))) [w11, H.inl, h, c, h3, h5, hn2, hwn, h9, this, hlt]
  · simp [w11, H.inl, h, c]
end Go.C21
end

section
set_option linter.unusedSimpArgs false
set_option linter.unusedVariables false
namespace Go.C21
open Go Go.Pav Go.Pw P21
set_option maxRecDepth 10000
set_option maxHeartbeats 4000000
attribute [-simp] List.getElem_cons_drop
variable {C : WProg} (H : Has C)
include H

omit H in
def fl (r : List Int × Bool) : List Int × Bool := (r.1, true)
omit H in
theorem withR_at : ∀ (rs : List (List Int × Bool)) (k : Nat) (row : List Int) (i : Nat), k < i → withR rs k row i = rs.map fl := by
  intro rs
  induction rs with
  | nil => intros; rfl
  | cons r rs ih => intro k row i h; simp [withR, fl, ih k row (i + 1) (by omega), show ¬ i = k by omega]
omit H in
theorem withR_mid : ∀ (pre : List (List Int × Bool)) (r : List Int × Bool) (post : List (List Int × Bool)) (row : List Int) (i : Nat), withR (pre ++ r :: post) (i + pre.length) row i = pre.map fl ++ (row, true) :: post.map fl := by
  intro pre
  induction pre with
  | nil => intro r post row i; simp [withR, withR_at post i row (i + 1) (by omega)]
  | cons a pre ih =>
    intro r post row i
    have := ih r post row (i + 1)
    simp only [List.cons_append, withR, List.map_cons, List.length_cons]
    rw [if_neg (by omega), show i + (pre.length + 1) = i + 1 + pre.length by omega, this]; rfl

omit H in
def tr (to : Nat) (r : List Int × Bool) : List Int × Bool := (r.1.drop (r.1.length - to), true)
omit H in
def gone (to : Nat) (rs : List (List Int × Bool)) : List Int := rs.flatMap fun r => r.1.take (r.1.length - to)

theorem trim_loop (bs : List Int) (rs : List (List Int × Bool)) (f : Bool) (to : Nat) (ht : (to : Int) < 9223372036854775808) (hb : bs.length ≤ 8) (h2 : rs.length ≤ 8) (hr : ∀ r ∈ rs, r.1.length ≤ 65536) : ∀ n i, n + i = rs.length → ∀ (e2 f2 : Bool) (pre rest : List (List Int × Bool)) (G : List Int),
    pre.length = i → rest.map (·.1) = (rs.drop i).map (·.1) → (∀ r ∈ pre, r.1.length ≤ 65536) → G.length ≤ 65536 * i →
    w12_K0 C ⟨[(24, .int .i64 i), (23, .int .i64 rs.length), (22, .ro 1 (rs.map eR) f), (5, .sl 0 1 0 G.length G.length false), (4, .ptr 1 0 0), (1, .int .i64 to)],
      [(0, .cells 1 (G.map eI) true true), (1, .cells 2 [[L1 bs e2, .ro 1 ((pre ++ rest).map eR) f2]] true true)], 2⟩ =
      some (.tup [if n = 0 then eP bs e2 pre f2 else eP bs true (pre.map fl ++ (rs.drop i).map (tr to)) true, L1 (G ++ gone to (rs.drop i)) true, .int .i64 0]) := by
  intro n
  induction n with
  | zero =>
    intro i hi e2 f2 pre rest G hp hrest hpre hG
    simp only [w12_K0]; rw [ck_unf w12_B0.eq_1]
    have h3 : ¬ i < rs.length := by omega
    have h4 : rs.drop i = [] := List.drop_eq_nil_of_le (by omega)
    have h5 : rest = [] := by rw [h4] at hrest; simpa using hrest
    have h6 := clip_ok H G false
    simp only [L1] at h6
    simp (disch := (first | omega | (simp; done) | (simp; omega))) [ck_unf w12_c0.eq_1, h3, h4, h5, gone, H.inl, List.take_of_length_le, h6]
  | succ n ih =>
    intro i hi e2 f2 pre rest G hp hrest hpre hG
    have h3 : i < rs.length := by omega
    have hri := hr _ (List.getElem_mem h3)
    rw [drop_cons h3] at hrest ⊢
    cases rest with
    | nil => simp at hrest
    | cons r rest =>
      simp only [List.map_cons, List.cons.injEq] at hrest
      obtain ⟨hr1, hrest⟩ := hrest
      have hcur : ∀ q ∈ pre ++ r :: rest, q.1.length ≤ 1000000 := by
        intro q hq
        rcases List.mem_append.1 hq with h | h
        · have := hpre q h; omega
        · have hm : q.1 ∈ (rs.drop i).map (·.1) := by
            rw [drop_cons h3, List.map_cons, ← hr1, ← hrest]
            exact List.mem_map_of_mem (f := (·.1)) h
          obtain ⟨q2, hq2, e⟩ := List.mem_map.1 hm
          have := hr q2 (List.mem_of_mem_drop hq2)
          rw [← e]; omega
      have hlen : (pre ++ r :: rest).length = rs.length := by
        have := congrArg List.length hrest
        simp at this
        simp; omega
      have hw : ∀ row g, row.length ≤ 1000000 → FnW C 25 [eP bs e2 (pre ++ r :: rest) f2, .int .i64 i, L1 row g] = some (eP bs true (pre.map fl ++ (row, true) :: rest.map fl) true) := by
        intro row g hg
        have := with_ok H bs e2 (pre ++ r :: rest) f2 i row g (by omega) (by omega) hcur hg
        rw [this, ← hp]
        have := withR_mid pre r rest row 0
        rw [Nat.zero_add] at this
        rw [this]
      obtain ⟨row, hrow⟩ : ∃ row, rs[i].1 = row := ⟨_, rfl⟩
      rw [hrow] at hri
      have hih := fun G' (hG' : G'.length ≤ 65536 * (i + 1)) => ih (i + 1) (by omega) true true (pre.map fl ++ [(row.drop (row.length - to), true)]) (rest.map fl) G' (by simp [hp]) (by
          rw [← hrest, List.map_map]; rfl) (by
          intro q hq
          rcases List.mem_append.1 hq with h | h
          · obtain ⟨q2, h2, rfl⟩ := List.mem_map.1 h
            exact hpre q2 h2
          · simp at h; subst h; simp; omega) hG'
      simp only [w12_K0] at hih ⊢
      have hfl : fl ∘ fl = fl := rfl
      have htr : tr to rs[i] = (row.drop (row.length - to), true) := by unfold tr; rw [hrow]
      have hgo : gone to (rs[i] :: rs.drop (i + 1)) = row.take (row.length - to) ++ gone to (rs.drop (i + 1)) := by
        unfold gone; rw [List.flatMap_cons, hrow]
      have hfin : (if n = 0 then eP bs true (pre.map fl ++ [(row.drop (row.length - to), true)]) true
          else eP bs true ((pre.map fl ++ [(row.drop (row.length - to), true)]).map fl ++ (rs.drop (i + 1)).map (tr to)) true) =
          eP bs true (pre.map fl ++ tr to rs[i] :: (rs.drop (i + 1)).map (tr to)) true := by
        rw [htr]
        split
        · rename_i hn
          have hd : rs.drop (i + 1) = [] := List.drop_eq_nil_of_le (by omega)
          rw [hd]; simp
        · simp [hfl, fl]
      rw [hgo, if_neg (by omega), List.map_cons, ← hfin, ← List.append_assoc]
      clear hfin
      generalize (if n = 0 then eP bs true (pre.map fl ++ [(row.drop (row.length - to), true)]) true
          else eP bs true ((pre.map fl ++ [(row.drop (row.length - to), true)]).map fl ++ (rs.drop (i + 1)).map (tr to)) true) = R at hih ⊢
      by_cases hm : row.length ≤ to
      · have h8 : row.length - to = 0 := by omega
        have hw2 := hw row rs[i].2 (by omega)
        have hih2 := hih G (by omega)
        rw [h8] at hih2
        rw [h8]
        have h9 : IntKind.i64.wrap ((row.length : Int) - to) = (row.length : Int) - to := wI64 (by omega) (by omega)
        have h10 : imax ((row.length : Int) - to) 0 = 0 := imax_r (by omega)
        rw [ck_unf w12_B0.eq_1]
        simp [L1, eP] at hih2 hw2
        simp (disch := (first | omega | (simp; done) | (simp; omega))) [h3, hrow, h9, h10, H.inl, hw2, List.take_of_length_le, hih2, wI64]
      · obtain ⟨m, hm2⟩ : ∃ m, row.length - to = m + 1 := ⟨row.length - to - 1, by omega⟩
        have h9 : IntKind.i64.wrap ((row.length : Int) - to) = ((m + 1 : Nat) : Int) := by rw [wI64 (by omega) (by omega)]; omega
        have h10 : imax ((m + 1 : Nat) : Int) 0 = ((m + 1 : Nat) : Int) := imax_l (by omega)
        cases row with
        | nil => simp at hm
        | cons a row =>
          rw [hm2] at hih ⊢
          have hmr : m ≤ row.length := by simp at hm2; omega
          have hih2 := hih (G ++ (a :: row).take (m + 1)) (by simp at hri ⊢; omega)
          have hw2 := hw ((a :: row).drop (m + 1)) rs[i].2 (by simp at hri ⊢; omega)
          rw [ck_unf w12_B0.eq_1]
          simp [L1, eP, Nat.min_eq_left hmr] at hih2 hw2 h9 h10
          simp (disch := (first | omega | (simp; done) | (simp; omega))) [h3, hrow, h9, h10, H.inl, hw2, List.take_of_length_le, hih2, wI64, fits, hmr]
end Go.C21
end

section
set_option linter.unusedSimpArgs false
set_option linter.unusedVariables false
namespace Go.C21
open Go Go.Pav Go.Pw P21
set_option maxRecDepth 10000
set_option maxHeartbeats 4000000
attribute [-simp] List.getElem_cons_drop
variable {C : WProg} (H : Has C)
include H

theorem trim_ok (bs : List Int) (e : Bool) (rs : List (List Int × Bool)) (f : Bool) (to : Int) (ht : to < 9223372036854775808) :
    FnW C 12 [eP bs e rs f, .int .i64 to] = some (.tup (if chk bs rs = 0 then (if to < 0 then [zP, .ro 1 [] true, .int .i64 4] else [eP bs true (rs.map (tr to.toNat)) true, L1 (gone to.toNat rs) true, .int .i64 0]) else [zP, .ro 1 [] true, .int .i64 (chk bs rs)])) := by
  have h := check_ok H bs e rs f
  rw [fnW_eq H.f12 rfl]
  by_cases c : chk bs rs = 0
  · by_cases c1 : to < 0
    · simp [w12, H.inl, h, c, c1]
    · obtain ⟨h6, h5, h7, h8⟩ := of_rows c
      obtain ⟨to, rfl⟩ : ∃ n : Nat, to = n := ⟨to.toNat, by omega⟩
      have h1 : rs.length ≠ 0 := by
        intro q
        have : bs.length = 0 := by omega
        unfold chk at c
        simp [this] at c
      have := trim_loop H bs rs f to ht h6 (by omega) h7 rs.length 0 (by simp) e f [] rs [] rfl rfl (by simp) (by simp)
      simp only [w12_K0] at this
      simp [h1] at this
      simp [w12, H.inl, h, c, c1, this]
  · simp [w12, H.inl, h, c]

omit H in
def cat (rs : List (List Int × Bool)) : List Int := rs.flatMap (·.1)

omit H in
theorem sum_loop (rs : List (List Int × Bool)) (f : Bool) (hr : ∀ r ∈ rs, r.1.length ≤ 65536) (h2 : rs.length ≤ 8) : ∀ n i, n + i = rs.length → ∀ s : Nat, s + (cat (rs.drop i)).length = (cat rs).length → (cat rs).length ≤ 1000000 →
    w28_K1 C ⟨[(11, .int .i64 i), (10, .int .i64 rs.length), (9, .ro 1 (rs.map eR) f), (3, .int .i64 s), (0, .ro 1 (rs.map eR) f)], [], 0⟩ =
    CK C 0 (pureFin [.tmp 2]) [] w28_c1 ⟨[(3, .int .i64 (cat rs).length), (0, .ro 1 (rs.map eR) f)], [], 0⟩ := by
  intro n
  induction n with
  | zero =>
    intro i hi s hs ht
    simp only [w28_K1]; rw [ck_unf w28_B1.eq_1]
    have h3 : ¬ i < rs.length := by omega
    have h4 : rs.drop i = [] := List.drop_eq_nil_of_le (by omega)
    have h5 : s = (cat rs).length := by rw [h4] at hs; simpa [cat] using hs
    simp [h3, h5]
  | succ n ih =>
    intro i hi s hs ht
    have h3 : i < rs.length := by omega
    have hri := hr _ (List.getElem_mem h3)
    have h4 : (cat (rs.drop i)).length = rs[i].1.length + (cat (rs.drop (i + 1))).length := by
      rw [drop_cons h3]; simp [cat]
    have := ih (i + 1) (by omega) (s + rs[i].1.length) (by omega) ht
    simp only [w28_K1] at this ⊢; rw [ck_unf w28_B1.eq_1]
    simp at this
    have h5 : IntKind.i64.wrap ((s : Int) + rs[i].1.length) = (s : Int) + rs[i].1.length := wI64 (by omega) (by omega)
    have h6 : ¬ (s : Int) + rs[i].1.length < 0 := by omega
    simp (disch := omega) [h3, h5, h6, wI64, this]
end Go.C21
end

section
set_option linter.unusedSimpArgs false
set_option linter.unusedVariables false
namespace Go.C21
open Go Go.Pav Go.Pw P21
set_option maxRecDepth 10000
set_option maxHeartbeats 4000000
attribute [-simp] List.getElem_cons_drop
variable {C : WProg} (H : Has C)
include H

omit H in
theorem cat_loop (rs : List (List Int × Bool)) (f : Bool) (h2 : rs.length ≤ 8) : ∀ n i, n + i = rs.length → ∀ (acc : List Int) (k : Nat), k = (cat (rs.drop i)).length → 0 < acc.length + k →
    w28_K0 C ⟨[(27, .int .i64 i), (26, .int .i64 rs.length), (25, .ro 1 (rs.map eR) f), (6, .sl 0 1 0 acc.length (acc.length + k) false)],
      [(0, .cells 1 (acc.map eI ++ List.replicate k [.int .i64 0]) true true)], 1⟩ = some (L1 (acc ++ cat (rs.drop i)) false) := by
  intro n
  induction n with
  | zero =>
    intro i hi acc k hk hpos
    simp only [w28_K0]; rw [ck_unf w28_B0.eq_1]
    have h3 : ¬ i < rs.length := by omega
    have h4 : rs.drop i = [] := List.drop_eq_nil_of_le (by omega)
    have h5 : k = 0 := by rw [h4] at hk; simpa [cat] using hk
    subst h5
    simp (disch := (first | omega | (simp <;> omega))) [ck_unf w28_c0.eq_1, h3, h4, cat, List.take_of_length_le]
  | succ n ih =>
    intro i hi acc k hk hpos
    have h3 : i < rs.length := by omega
    obtain ⟨row, hrow⟩ : ∃ row, rs[i].1 = row := ⟨_, rfl⟩
    have h4 : cat (rs.drop i) = row ++ cat (rs.drop (i + 1)) := by
      rw [drop_cons h3, ← hrow]; rfl
    rw [h4] at hk ⊢
    simp only [List.length_append] at hk
    obtain ⟨k', hk'⟩ : ∃ k', (cat (rs.drop (i + 1))).length = k' := ⟨_, rfl⟩
    rw [hk'] at hk
    have := ih (i + 1) (by omega) (acc ++ row) k' hk'.symm (by simp; omega)
    simp only [w28_K0] at this ⊢; rw [ck_unf w28_B0.eq_1]
    subst hk
    cases row with
    | nil =>
      simp [L1] at this
      simp (disch := omega) [h3, hrow, wI64, this]
    | cons a row =>
      have h5 : acc.length + (row.length + 1) + k' = acc.length + (row.length + 1 + k') := by omega
      have h6 : acc.length + (row.length + 1) ≤ acc.length + (row.length + 1 + k') := by omega
      have h7 : row.length + 1 + k' - (row.length + 1) = k' := by omega
      simp [L1, h5] at this
      have h8 : List.take acc.length (List.map eI acc ++ List.replicate (row.length + 1 + k') [AV.int IntKind.i64 0]) = List.map eI acc := by
        rw [List.take_append_of_le_length (by simp), List.take_of_length_le (by simp)]
      have h9 : List.drop (acc.length + (row.length + 1)) (List.map eI acc ++ List.replicate (row.length + 1 + k') [AV.int IntKind.i64 0]) = List.replicate k' [AV.int IntKind.i64 0] := by
        rw [List.drop_append, List.drop_eq_nil_of_le (by simp), List.drop_replicate]
        simp
      simp (disch := omega) [h3, hrow, wI64, h6, h8, h9, this]

omit H in
theorem cat0_loop (rs : List (List Int × Bool)) (f : Bool) (h2 : rs.length ≤ 8) (h0 : cat rs = []) : ∀ n i, n + i = rs.length →
    w28_K0 C ⟨[(27, .int .i64 i), (26, .int .i64 rs.length), (25, .ro 1 (rs.map eR) f), (6, .ro 1 [] true)], [], 0⟩ = some (.ro 1 [] true) := by
  intro n
  induction n with
  | zero =>
    intro i hi
    simp only [w28_K0]; rw [ck_unf w28_B0.eq_1]
    have h3 : ¬ i < rs.length := by omega
    simp [ck_unf w28_c0.eq_1, h3]
  | succ n ih =>
    intro i hi
    have h3 : i < rs.length := by omega
    have hrow : rs[i].1 = [] := List.flatMap_eq_nil_iff.1 h0 _ (List.getElem_mem h3)
    have := ih (i + 1) (by omega)
    simp only [w28_K0] at this ⊢; rw [ck_unf w28_B0.eq_1]
    simp at this
    simp (disch := omega) [h3, hrow, wI64, this]

theorem all_ok (bs : List Int) (e : Bool) (rs : List (List Int × Bool)) (f : Bool) :
    FnW C 16 [eP bs e rs f] = some (.tup (if chk bs rs = 0 then [L1 (cat rs) true, .int .i64 0] else [.ro 1 [] true, .int .i64 (chk bs rs)])) := by
  have h := check_ok H bs e rs f
  rw [fnW_eq H.f16 rfl]
  by_cases c : chk bs rs = 0
  · obtain ⟨h6, h5, h7, h8⟩ := of_rows c
    have h9 : (cat rs).length ≤ 65536 * rs.length := by
      have : ∀ l : List (List Int × Bool), (∀ r ∈ l, r.1.length ≤ 65536) → (cat l).length ≤ 65536 * l.length := by
        intro l
        induction l with
        | nil => intro _; simp [cat]
        | cons a l ih =>
          intro hl
          have h1 := ih (fun r hr => hl r (List.mem_cons_of_mem _ hr))
          have h2 := hl a List.mem_cons_self
          have h3 : cat (a :: l) = a.1 ++ cat l := rfl
          rw [h3, List.length_append, List.length_cons]; omega
      exact this rs h7
    have h10 : FnW C 28 [.ro 1 (rs.map eR) f] = some (L1 (cat rs) (decide ((cat rs).length = 0))) := by
      have hs := sum_loop (C := C) rs f h7 (by omega) rs.length 0 (by simp) 0 (by simp) (by omega)
      simp only [w28_K1] at hs
      simp at hs
      have hg := fun a b h n => rnW_eq (args := [a, b]) H.f35 rfl h n
      rw [fnW_eq H.f28 rfl]
      by_cases hz : (cat rs).length = 0
      · have hl := cat0_loop (C := C) rs f (by omega) (List.length_eq_zero_iff.1 hz) rs.length 0 (by simp)
        have hne : cat rs = [] := List.length_eq_zero_iff.1 hz
        simp only [w28_K0] at hl
        rw [hz] at hs
        simp at hl hs
        simp [w28, hs]
        rw [ck_unf w28_c1.eq_1]
        simp (disch := omega) [H.inl, hg, w35, wI64, fits, hl, hne]
      · obtain ⟨m, hm⟩ : ∃ m, (cat rs).length = m + 1 := ⟨(cat rs).length - 1, by omega⟩
        have hl := cat_loop (C := C) rs f (by omega) rs.length 0 (by simp) [] (cat rs).length (by simp) (by simp; omega)
        simp only [w28_K0] at hl
        simp at hl
        have hne : cat rs ≠ [] := fun q => hz (by rw [q]; rfl)
        rw [hm] at hs hl
        simp [List.replicate_succ] at hl
        simp at hs
        simp [w28, hs]
        rw [ck_unf w28_c1.eq_1]
        have hlt : ¬ (m : Int) + 1 < 0 := by omega
        have hgt : (0 : Int) < (m : Int) + 1 := by omega
        simp (disch := omega) [H.inl, hg, w35, wI64, fits, hl, List.replicate_succ, hne, hlt, hgt]
    simp [w16, H.inl, h, c, h10, clip_ok H]
  · simp [w16, H.inl, h, c]
end Go.C21
end

section
set_option linter.unusedSimpArgs false
set_option linter.unusedVariables false
namespace Go.C21
open Go Go.Pav Go.Pw P21
set_option maxRecDepth 10000
set_option maxHeartbeats 4000000
attribute [-simp] List.getElem_cons_drop
variable {C : WProg} (H : Has C)
include H

omit H in
theorem rcheck_loop (bs : List Int) (e : Bool) (rs : List (List Int × Bool)) (f : Bool) (hl : rs.length = bs.length) (hx : bs.length ≤ 8) : ∀ n i, n + i = bs.length → ∀ bad : Bool,
    w19_K0 C ⟨[(4, .int .i64 i), (3, .bool bad), (1, .ptr 0 0 0)], [(0, .cells 2 [[L1 bs e, .ro 1 (rs.map eR) f]] true true)], 1⟩ = some (.int .i64 (b01 (!bad && allOk ((bs.zip rs).drop i)))) := by
  intro n
  induction n with
  | zero =>
    intro i hi bad
    simp only [w19_K0]; rw [ck_unf w19_B0.eq_1]
    have h1 : (bs.zip rs).drop i = [] := List.drop_eq_nil_of_le (by simp; omega)
    have h3 : ¬ i < bs.length := by omega
    cases bad <;> simp [ck_unf w19_c0.eq_1, h1, h3, allOk_nil]
  | succ n ih =>
    intro i hi bad
    have h1 : i < bs.length := by omega
    have h2 : i < rs.length := by omega
    have hih := ih (i + 1) (by omega)
    simp only [w19_K0] at hih ⊢; rw [ck_unf w19_B0.eq_1]
    simp only [Int.natCast_add, Int.cast_ofNat_Int] at hih
    cases bad with
    | true => simp [ck_unf w19_c0.eq_1, h1]
    | false =>
      rw [List.drop_eq_getElem_cons (show i < (bs.zip rs).length by simp; omega)]
      by_cases c1 : bs[i] < 0
      · have c4 : ¬ 0 ≤ bs[i] := by omega
        simp (disch := omega) [h1, h2, wI64, okP, allOk_cons, hih, c1, c4]
      · have c4 : 0 ≤ bs[i] := by omega
        by_cases c2 : 65536 < bs[i]
        · have c5 : ¬ bs[i] ≤ 65536 := by omega
          simp (disch := omega) [h1, h2, wI64, okP, allOk_cons, hih, c1, c4, c2, c5]
        · have c5 : bs[i] ≤ 65536 := by omega
          by_cases c3 : bs[i] < (rs[i].1.length : Int)
          · have c6 : ¬ (rs[i].1.length : Int) ≤ bs[i] := by omega
            simp (disch := omega) [h1, h2, wI64, okP, allOk_cons, hih, c1, c4, c2, c5, c3, c6]
          · have c6 : (rs[i].1.length : Int) ≤ bs[i] := by omega
            simp (disch := omega) [h1, h2, wI64, okP, allOk_cons, hih, c1, c4, c2, c5, c3, c6]

omit H in
theorem rcheck_bad (bs : List Int) (e : Bool) (rs : List (List Int × Bool)) (f : Bool) :
    w19_K0 C ⟨[(4, .int .i64 0), (3, .bool true), (1, .ptr 0 0 0)], [(0, .cells 2 [[L1 bs e, .ro 1 (rs.map eR) f]] true true)], 1⟩ = some (.int .i64 1) := by
  simp only [w19_K0]; rw [ck_unf w19_B0.eq_1]
  by_cases h : 0 < bs.length
  · simp [ck_unf w19_c0.eq_1, h]
  · simp [ck_unf w19_c0.eq_1, h]

theorem rcheck_ok (bs : List Int) (e : Bool) (rs : List (List Int × Bool)) (f : Bool) : FnW C 19 [eP bs e rs f] = some (.int .i64 (chk bs rs)) := by
  rw [fnW_eq H.f19 rfl]
  unfold chk
  have hb := rcheck_bad (C := C) bs e rs f
  simp only [w19_K0] at hb
  by_cases c1 : 1 ≤ bs.length
  · by_cases c2 : bs.length ≤ 8
    · by_cases c3 : rs.length = bs.length
      · have := rcheck_loop (C := C) bs e rs f c3 c2 bs.length 0 (by simp) false
        have c4 : ¬ bs.length < 1 := by omega
        have c5 : ¬ 8 < bs.length := by omega
        simp only [w19_K0] at this
        simp at this
        simp [w19, c1, c2, c3, c4, c5, this]
      · have c4 : ¬ bs.length < 1 := by omega
        have c5 : ¬ 8 < bs.length := by omega
        have c6 : ¬ bs.length = rs.length := by omega
        have c7 : ((bs.length : Int) != (rs.length : Int)) = true := by simp; exact c6
        simp [w19, c1, c2, c3, c4, c5, c7, hb]
    · have c4 : ¬ bs.length < 1 := by omega
      have c5 : 8 < bs.length := by omega
      simp [w19, c1, c2, c4, c5, hb]
  · have c4 : bs.length < 1 := by omega
    simp [w19, c1, c4, hb]
end Go.C21
end

section
set_option linter.unusedSimpArgs false
set_option linter.unusedVariables false
namespace Go.C21
open Go Go.Pav Go.Pw P21
set_option maxRecDepth 10000
set_option maxHeartbeats 4000000
attribute [-simp] List.getElem_cons_drop
variable {C : WProg} (H : Has C)
include H

theorem errors_loop (hlives : FnW C 18 [] = some (.bool true)) (bs : List Int) (e : Bool) (rs : List (List Int × Bool)) (f : Bool) (kind to : Int) (h2 : rs.length ≤ 10)
    (hmain : CK C 0 (pureFin [.tmp 6]) [] w3_c0 ⟨[(7, .ptr 0 0 0), (3, .ptr 1 0 0), (2, .int .i64 to), (1, .int .i64 kind)], [(0, .cells 2 [[L1 bs e, .ro 1 (rs.map eR) f]] true true), (1, .cells 2 [[L1 bs e, .ro 1 (rs.map eR) f]] true true)], 2⟩ = some (.bool true)) : ∀ n i, n + i = rs.length →
    w3_K0 C ⟨[(8, .int .i64 i), (7, .ptr 0 0 0), (3, .ptr 1 0 0), (2, .int .i64 to), (1, .int .i64 kind)], [(0, .cells 2 [[L1 bs e, .ro 1 (rs.map eR) f]] true true), (1, .cells 2 [[L1 bs e, .ro 1 (rs.map eR) f]] true true)], 2⟩ = some (.bool true) := by
  intro n
  induction n with
  | zero =>
    intro i hi
    simp only [w3_K0]; rw [ck_unf w3_B0.eq_1]
    have h3 : ¬ i < rs.length := by omega
    simp [h3, hmain]
  | succ n ih =>
    intro i hi
    have h3 : i < rs.length := by omega
    have := ih (i + 1) (by omega)
    simp only [w3_K0] at this ⊢; rw [ck_unf w3_B0.eq_1]
    simp at this
    by_cases c : 20 < rs[i].1.length
    · simp (disch := omega) [h3, wI64, this, c, hlives, H.inl]
    · simp (disch := omega) [h3, wI64, this, c]

theorem errors_main (hlives : FnW C 18 [] = some (.bool true)) (bs : List Int) (e : Bool) (rs : List (List Int × Bool)) (f : Bool) (kind to : Int) (ht : to < 9223372036854775808) (h1 : bs.length ≤ 10) :
    CK C 0 (pureFin [.tmp 6]) [] w3_c0 ⟨[(7, .ptr 0 0 0), (3, .ptr 1 0 0), (2, .int .i64 to), (1, .int .i64 kind)], [(0, .cells 2 [[L1 bs e, .ro 1 (rs.map eR) f]] true true), (1, .cells 2 [[L1 bs e, .ro 1 (rs.map eR) f]] true true)], 2⟩ = some (.bool true) := by
  obtain ⟨rs0, hrs0⟩ : ∃ rs : List (List Int × Bool), bs.map (fun _ => (([] : List Int), true)) = rs := ⟨_, rfl⟩
  have k1 : List.replicate bs.length [AV.ro 1 [] true] = rs0.map eR := by
    rw [← hrs0, List.map_map]
    exact (List.map_const' ..).symm
  have k2 : rs0.length = bs.length := by rw [← hrs0]; simp
  have k3 : List.take bs.length (List.map eR rs0) = List.map eR rs0 := List.take_of_length_le (by simp [k2])
  have n1 := new_ok H bs e
  rw [hrs0] at n1
  have a1 := all_ok H bs e rs f
  have t1 := trim_ok H bs e rs f to ht
  have p1 := push_ok H bs e rs f kind 7
  have q1 := pop_ok H bs e rs f kind
  have l1 := len_ok H bs e rs f kind
  have r1 := rcheck_ok H bs e rs f
  have r2 := rcheck_ok H bs e rs0 true
  have cc : ∀ x y, chk x y = 0 ∨ chk x y = 1 := by
    intro x y; unfold chk b01; split <;> simp
  have cn := check_ok H bs e rs f
  rw [ck_unf w3_c0.eq_1]
  rcases cc bs rs0 with d0 | d0 <;> rcases cc bs rs with d | d
  · rw [d0] at r2 n1
    rw [d] at r1 cn a1 t1
    by_cases d2 : kind < 0 ∨ (bs.length : Int) ≤ kind
    · have o1 : ofE bs rs kind = 4 := by simp [ofE, d, d2]
      rw [o1] at p1 q1 l1
      by_cases d1 : to < 0
      · simp [d1] at n1 a1 t1 p1 q1 l1
        by_cases d3 : kind < 0
        · simp (disch := omega) [H.inl, r1, r2, cn, n1, a1, t1, p1, q1, l1, hlives, fits, k1, k2, k3, wI64, d1, d3]
        · have d4 : (bs.length : Int) ≤ kind := by omega
          simp (disch := omega) [H.inl, r1, r2, cn, n1, a1, t1, p1, q1, l1, hlives, fits, k1, k2, k3, wI64, d1, d3, d4]
      · simp [d1] at n1 a1 t1 p1 q1 l1
        by_cases d3 : kind < 0
        · simp (disch := omega) [H.inl, r1, r2, cn, n1, a1, t1, p1, q1, l1, hlives, fits, k1, k2, k3, wI64, d1, d3]
        · have d4 : (bs.length : Int) ≤ kind := by omega
          simp (disch := omega) [H.inl, r1, r2, cn, n1, a1, t1, p1, q1, l1, hlives, fits, k1, k2, k3, wI64, d1, d3, d4]
    · have o1 : ofE bs rs kind = 0 := by simp [ofE, d, d2]
      have d3 : ¬ kind < 0 := by omega
      have d4 : ¬ (bs.length : Int) ≤ kind := by omega
      rw [o1] at p1 q1 l1
      obtain ⟨pl, hpl⟩ : ∃ pl : List (List Int × Bool) × Bool, (if ((rs[kind.toNat]?.getD ([], true)).1.length : Int) = bs[kind.toNat]?.getD 0 then [eP bs true (withR rs kind.toNat (rs[kind.toNat]?.getD ([], true)).1 0) true, AV.bool true, AV.int .i64 0]
        else [eP bs true (withR rs kind.toNat ((rs[kind.toNat]?.getD ([], true)).1 ++ [7]) 0) true, .bool false, .int .i64 0]) = [eP bs true pl.1 true, .bool pl.2, .int .i64 0] := by
        split
        · exact ⟨(_, true), rfl⟩
        · exact ⟨(_, false), rfl⟩
      obtain ⟨ql, hql⟩ : ∃ ql : List (List Int × Bool) × Int × Bool, (if (rs[kind.toNat]?.getD ([], true)).1.length = 0 then [eP bs true (withR rs kind.toNat [] 0) true, AV.int .i64 0, AV.bool false, AV.int .i64 0]
        else [eP bs true (withR rs kind.toNat ((rs[kind.toNat]?.getD ([], true)).1.take ((rs[kind.toNat]?.getD ([], true)).1.length - 1)) 0) true, .int .i64 ((rs[kind.toNat]?.getD ([], true)).1[(rs[kind.toNat]?.getD ([], true)).1.length - 1]?.getD 0), .bool true, .int .i64 0]) =
          [eP bs true ql.1 true, .int .i64 ql.2.1, .bool ql.2.2, .int .i64 0] := by
        split
        · exact ⟨(_, _, _), rfl⟩
        · exact ⟨(_, _, _), rfl⟩
      rw [if_pos rfl, hpl] at p1
      rw [if_pos rfl, hql] at q1
      rw [if_pos rfl] at l1
      by_cases d1 : to < 0
      · simp [d1] at n1 a1 t1
        simp (disch := omega) [H.inl, r1, r2, cn, n1, a1, t1, p1, q1, l1, hlives, fits, k1, k2, k3, wI64, d1, d3, d4]
      · simp [d1] at n1 a1 t1
        simp (disch := omega) [H.inl, r1, r2, cn, n1, a1, t1, p1, q1, l1, hlives, fits, k1, k2, k3, wI64, d1, d3, d4]
  · rw [d0] at r2 n1
    have o1 : ofE bs rs kind = 1 := by simp [ofE, d]
    rw [d] at r1 cn a1 t1
    rw [o1] at p1 q1 l1
    simp at n1 a1 t1 p1 q1 l1
    simp (disch := omega) [H.inl, r1, r2, cn, n1, a1, t1, p1, q1, l1, hlives, fits, k1, k2, k3, wI64]
  · rw [d0] at r2 n1
    rw [d] at r1 cn a1 t1
    by_cases d2 : kind < 0 ∨ (bs.length : Int) ≤ kind
    · have o1 : ofE bs rs kind = 4 := by simp [ofE, d, d2]
      rw [o1] at p1 q1 l1
      by_cases d1 : to < 0
      · simp [d1] at n1 a1 t1 p1 q1 l1
        by_cases d3 : kind < 0
        · simp (disch := omega) [H.inl, r1, r2, cn, n1, a1, t1, p1, q1, l1, hlives, fits, k1, k2, k3, wI64, d1, d3]
        · have d4 : (bs.length : Int) ≤ kind := by omega
          simp (disch := omega) [H.inl, r1, r2, cn, n1, a1, t1, p1, q1, l1, hlives, fits, k1, k2, k3, wI64, d1, d3, d4]
      · simp [d1] at n1 a1 t1 p1 q1 l1
        by_cases d3 : kind < 0
        · simp (disch := omega) [H.inl, r1, r2, cn, n1, a1, t1, p1, q1, l1, hlives, fits, k1, k2, k3, wI64, d1, d3]
        · have d4 : (bs.length : Int) ≤ kind := by omega
          simp (disch := omega) [H.inl, r1, r2, cn, n1, a1, t1, p1, q1, l1, hlives, fits, k1, k2, k3, wI64, d1, d3, d4]
    · have o1 : ofE bs rs kind = 0 := by simp [ofE, d, d2]
      have d3 : ¬ kind < 0 := by omega
      have d4 : ¬ (bs.length : Int) ≤ kind := by omega
      rw [o1] at p1 q1 l1
      obtain ⟨pl, hpl⟩ : ∃ pl : List (List Int × Bool) × Bool, (if ((rs[kind.toNat]?.getD ([], true)).1.length : Int) = bs[kind.toNat]?.getD 0 then [eP bs true (withR rs kind.toNat (rs[kind.toNat]?.getD ([], true)).1 0) true, AV.bool true, AV.int .i64 0]
        else [eP bs true (withR rs kind.toNat ((rs[kind.toNat]?.getD ([], true)).1 ++ [7]) 0) true, .bool false, .int .i64 0]) = [eP bs true pl.1 true, .bool pl.2, .int .i64 0] := by
        split
        · exact ⟨(_, true), rfl⟩
        · exact ⟨(_, false), rfl⟩
      obtain ⟨ql, hql⟩ : ∃ ql : List (List Int × Bool) × Int × Bool, (if (rs[kind.toNat]?.getD ([], true)).1.length = 0 then [eP bs true (withR rs kind.toNat [] 0) true, AV.int .i64 0, AV.bool false, AV.int .i64 0]
        else [eP bs true (withR rs kind.toNat ((rs[kind.toNat]?.getD ([], true)).1.take ((rs[kind.toNat]?.getD ([], true)).1.length - 1)) 0) true, .int .i64 ((rs[kind.toNat]?.getD ([], true)).1[(rs[kind.toNat]?.getD ([], true)).1.length - 1]?.getD 0), .bool true, .int .i64 0]) =
          [eP bs true ql.1 true, .int .i64 ql.2.1, .bool ql.2.2, .int .i64 0] := by
        split
        · exact ⟨(_, _, _), rfl⟩
        · exact ⟨(_, _, _), rfl⟩
      rw [if_pos rfl, hpl] at p1
      rw [if_pos rfl, hql] at q1
      rw [if_pos rfl] at l1
      by_cases d1 : to < 0
      · simp [d1] at n1 a1 t1
        simp (disch := omega) [H.inl, r1, r2, cn, n1, a1, t1, p1, q1, l1, hlives, fits, k1, k2, k3, wI64, d1, d3, d4]
      · simp [d1] at n1 a1 t1
        simp (disch := omega) [H.inl, r1, r2, cn, n1, a1, t1, p1, q1, l1, hlives, fits, k1, k2, k3, wI64, d1, d3, d4]
  · rw [d0] at r2 n1
    have o1 : ofE bs rs kind = 1 := by simp [ofE, d]
    rw [d] at r1 cn a1 t1
    rw [o1] at p1 q1 l1
    simp at n1 a1 t1 p1 q1 l1
    simp (disch := omega) [H.inl, r1, r2, cn, n1, a1, t1, p1, q1, l1, hlives, fits, k1, k2, k3, wI64]

theorem errors_ok (h3 : C.fns.get 3 = some w3) (hlives : FnW C 18 [] = some (.bool true)) (bs : List Int) (e : Bool) (rs : List (List Int × Bool)) (f : Bool) (kind to : Int) (ht : to < 9223372036854775808) :
    FnW C 3 [eP bs e rs f, .int .i64 kind, .int .i64 to] = some (.bool true) := by
  rw [fnW_eq h3 rfl]
  by_cases c1 : 10 < bs.length
  · simp [w3, H.inl, c1, hlives]
  by_cases c2 : 10 < rs.length
  · simp [w3, H.inl, c1, c2, hlives]
  have := errors_loop H hlives bs e rs f kind to (by omega) (errors_main H hlives bs e rs f kind to ht (by omega)) rs.length 0 (by simp)
  simp only [w3_K0] at this
  simp at this
  simp [w3, H.inl, c1, c2, hlives, this]
end Go.C21
end

section
set_option linter.unusedSimpArgs false
set_option linter.unusedVariables false
/- The arguments of a law, as data of the second machine; the law's result; what is true of both. No conditions beyond those that each theorem names. -/
namespace Go.Pw
open Go Go.Pav

/-- The type of a cell. -/
inductive CT where
  | bool
  | int (k : IntKind)
  | str
  | slice (ts : List CT)

/-- The values of such a cell. -/
inductive Ty : CT → AV → Prop
  | bool (b : Bool) : Ty .bool (.bool b)
  | int (k : IntKind) (n : Int) (h1 : k.min ≤ n) (h2 : n ≤ k.max) : Ty (.int k) (.int k n)
  | str (s : List UInt8) (h : s.length < 2 ^ 63) : Ty .str (.str s)
  | slice (ts : List CT) (es : List (List AV)) (ex : Bool) (hn : es.length < 2 ^ 63) (hw : ∀ (i : Nat) (e : List AV), es[i]? = some e → e.length = ts.length)
      (h : ∀ (i : Nat) (e : List AV) (j : Nat) (ct : CT) (x : AV), es[i]? = some e → ts[j]? = some ct → e[j]? = some x → Ty ct x) : Ty (.slice ts) (.ro ts.length es ex)

theorem Ty.isC {ct : CT} {a : AV} (h : Ty ct a) : Pw.isC a = true := by cases h <;> rfl

def fieldsT (F : TypeId → Option (List CT)) (P : Program) : List Field → Nat → Option (List CT)
  | [], _ => some []
  | f :: r, off => (F f.type).bind fun ts => if f.offset = off ∧ ts.length = P.cellsOf f.type then (fieldsT F P r (off + ts.length)).map (ts ++ ·) else none

/-- The cells of a type. -/
def flatT (P : Program) : Nat → TypeId → Option (List CT)
  | 0, _ => none
  | n + 1, t => match P.underlying t with
    | some .bool => some [.bool]
    | some (.int k) => some [.int k]
    | some .string => some [.str]
    | some (.slice e) => (flatT P n e).bind fun ts => if ts.length = P.cellsOf e ∧ 0 < ts.length then some [.slice ts] else none
    | some (.struct fs) => (fieldsT (flatT P n) P fs.toList 0).bind fun ts => if ts.length = P.cellsOf t then some ts else none
    | _ => none

def CellOk (ψ : Nat → FuncId) (W : World) (ct : CT) (v : Value) : Prop :=
  ∃ a a', Ty ct a ∧ VD id (fun _ => False) a a' ∧ a'.cell = true ∧ VR ψ W (fun c => c < W.heap.size) (fun _ => (0, 0)) (fun _ => False) a' v

section
variable {H : Type} {enc : TypeId × Value → H} {P : Program} {W : World} {ψ : Nat → FuncId}

theorem fields_open {F : TypeId → Option (List CT)} {n : Nat} {cs : List Value}
    (hF : ∀ t cs x ts, F t = some ts → DataW.trod enc P W 0 (fun _ => true) true n t cs = some x → cs.length = ts.length ∧ ∀ (j : Nat) (ct : CT), ts[j]? = some ct → ∃ v, cs[j]? = some v ∧ CellOk ψ W ct v) :
    ∀ (fs : List Field) (off : Nat) (ts : List CT), fieldsT F P fs off = some ts → (∀ f ∈ fs, ∃ x, DataW.trod enc P W 0 (fun _ => true) true n f.type ((cs.drop f.offset).take (P.cellsOf f.type)) = some x) →
      ∀ (j : Nat) (ct : CT), ts[j]? = some ct → ∃ v, cs[off + j]? = some v ∧ CellOk ψ W ct v := by
  intro fs
  induction fs with
  | nil => intro off ts h _ j ct hj; simp only [fieldsT, Option.some.injEq] at h; subst h; simp at hj
  | cons f r ih =>
    intro off ts h hx j ct hj
    simp only [fieldsT, Option.bind_eq_some_iff] at h
    obtain ⟨t1, h1, h⟩ := h
    split at h
    · rename_i hc
      simp only [Option.map_eq_some_iff] at h
      obtain ⟨t2, h2, rfl⟩ := h
      rcases Nat.lt_or_ge j t1.length with hl | hl
      · rw [List.getElem?_append_left hl] at hj
        obtain ⟨x, q⟩ := hx f (by simp)
        obtain ⟨v, q1, q2⟩ := (hF _ _ _ _ h1 q).2 j ct hj
        refine ⟨v, ?_, q2⟩
        rw [List.getElem?_take] at q1
        split at q1
        · rw [List.getElem?_drop] at q1; rw [← hc.1]; exact q1
        · cases q1
      · rw [List.getElem?_append_right hl] at hj
        obtain ⟨v, q1, q2⟩ := ih _ _ h2 (fun f hf => hx f (by simp [hf])) _ ct hj
        exact ⟨v, by rw [← q1]; congr 1; omega, q2⟩
    · cases h

theorem cells_open : ∀ (n k : Nat) (t : TypeId) (cs : List Value) (x : DataW H × List MemPlace) (ts : List CT), flatT P k t = some ts → DataW.trod enc P W 0 (fun _ => true) true n t cs = some x →
    cs.length = ts.length ∧ ∀ (j : Nat) (ct : CT), ts[j]? = some ct → ∃ v, cs[j]? = some v ∧ CellOk ψ W ct v := by
  intro n
  induction n with
  | zero => intro k t cs x ts _ h; simp [DataW.trod] at h
  | succ n ih =>
    intro k t cs x ts hf h
    cases k with
    | zero => simp [flatT] at hf
    | succ k =>
      have one : ∀ {v : Value} {ct : CT}, cs = [v] → ts = [ct] → CellOk ψ W ct v → cs.length = ts.length ∧ ∀ (j : Nat) (ct : CT), ts[j]? = some ct → ∃ v, cs[j]? = some v ∧ CellOk ψ W ct v := by
        intro v ct h1 h2 h3
        subst h1; subst h2
        refine ⟨rfl, fun j ct' hj => ?_⟩
        cases j with
        | zero => simp only [List.getElem?_cons_zero, Option.some.injEq] at hj; subst hj; exact ⟨v, rfl, h3⟩
        | succ j => simp at hj
      unfold flatT at hf
      split at hf
      · rename_i ht
        cases hf
        obtain ⟨b, e, _⟩ := DataW.trod_bool ht h
        exact one e rfl ⟨_, _, .bool b, .bool b, rfl, .bool b⟩
      · rename_i k' ht
        cases hf
        obtain ⟨m, e, _, hw⟩ := DataW.trod_int ht h
        simp only [Lit.wf, Bool.and_eq_true, decide_eq_true_eq] at hw
        exact one e rfl ⟨_, _, .int k' m hw.1 hw.2, .int k' m, rfl, .int k' m⟩
      · rename_i ht
        cases hf
        obtain ⟨s, e, _, hw⟩ := DataW.trod_string ht h
        refine one e rfl ⟨.str s.data.toList, _, .str _ ?_, .str _, rfl, ?_⟩
        · simp only [maxLen] at hw
          have : s.data.toList.length = s.size := rfl
          omega
        · have := VR.str (ψ := ψ) (w := W) (S := fun c => c < W.heap.size) (m := fun _ => (0, 0)) (A := fun _ => False) s.data.toList
          exact this
      · rename_i el ht
        simp only [Option.bind_eq_some_iff] at hf
        obtain ⟨us, hu, hf⟩ := hf
        split at hf
        · rename_i hz
          obtain ⟨hz, hz0⟩ := hz
          cases hf
          rcases DataW.trod_slice ht h with ⟨e, _⟩ | ⟨a, len, cap, elems, rest, n', hn, e, _, _, hl, hm, hlen, hel, hsp, _⟩
          · exact one e rfl ⟨.ro us.length [] true, .nils, .slice us [] true (by simp) (by simp) (by simp), .ronil _ _, rfl, .nils⟩
          · cases hn
            refine one e rfl ?_
            have row : ∀ i, i < cap → ∃ vs y, W.cells? 0 (a.add (i * us.length)) us.length = some vs ∧ DataW.trod enc P W 0 (fun _ => true) true n el vs = some y := by
              intro i hi
              rcases Nat.lt_or_ge i len with hil | hil
              · have := hel i hil
                rw [List.getElem?_eq_getElem (by omega), Option.bind_eq_some_iff, ← hz] at this
                obtain ⟨vs, q1, q2⟩ := this
                exact ⟨vs, _, q1, q2⟩
              · obtain ⟨q0, q⟩ := hsp rfl
                have := q (i - len) (by omega)
                rw [List.getElem?_eq_getElem (by omega), Option.bind_eq_some_iff, ← hz, show len + (i - len) = i by omega] at this
                obtain ⟨vs, q1, q2⟩ := this
                exact ⟨vs, _, q1, q2⟩
            rcases Nat.eq_zero_or_pos cap with hc0 | hc0
            · subst hc0
              obtain rfl : len = 0 := by omega
              exact ⟨.ro us.length [] true, .ro us.length [] true, .slice us [] true (by simp) (by simp) (by simp), .ro _ [] [] true true (by simp) rfl id (by simp) (by simp), rfl, .roe _ _ _⟩
            · obtain ⟨b, off, spot⟩ := a
              have hfirst : ∃ v, W.cell? ⟨b, off, spot⟩ = some v := by
                obtain ⟨vs, _, q1, _⟩ := row 0 hc0
                obtain ⟨_, q2, q3⟩ := World.cells?_some q1
                have := q3 0 hz0
                rw [List.getElem?_eq_getElem (by omega)] at this
                exact ⟨_, by simpa [Addr.add] using this⟩
              obtain ⟨v0, hv0⟩ := hfirst
              obtain rfl : spot = none := World.cell?_spot hv0
              have hS : b < W.heap.size := by
                unfold World.cell? at hv0
                split at hv0
                · rename_i hb; exact (Array.getElem?_eq_some_iff.1 hb).1
                · cases hv0
              have key : ∀ p : Nat × Nat, ∃ q : Value × AV × AV, p.1 < len → ∀ ct, us[p.2]? = some ct → W.cell? ⟨b, off + p.1 * us.length + p.2, none⟩ = some q.1 ∧ Ty ct q.2.1 ∧ VD id (fun _ => False) q.2.1 q.2.2 ∧ q.2.2.cell = true ∧
                  VR ψ W (fun c => c < W.heap.size) (fun _ => (0, 0)) (fun _ => False) q.2.2 q.1 := by
                intro ⟨i, j⟩
                by_cases hi : i < len
                · cases hj : us[j]? with
                  | none => exact ⟨default, fun _ ct q => by cases q⟩
                  | some ct =>
                    obtain ⟨vs, y, q1, q2⟩ := row i (by omega)
                    obtain ⟨v, q3, c1, c2, q4, q5, q6, q7⟩ := (ih _ _ _ _ _ hu q2).2 j ct hj
                    refine ⟨(v, c1, c2), fun _ ct' q => ?_⟩
                    cases q
                    refine ⟨?_, q4, q5, q6, q7⟩
                    obtain ⟨_, r1, r2⟩ := World.cells?_some q1
                    have hjl : j < us.length := (List.getElem?_eq_some_iff.1 hj).1
                    have := r2 j hjl
                    rw [q3] at this
                    rw [← this]
                    congr 1
                    simp only [Addr.add]
                    split <;> split <;> simp_all <;> omega
                · exact ⟨default, fun q => absurd q hi⟩
              obtain ⟨F, hF⟩ := Classical.axiomOfChoice key
              let es : List (List AV) := (List.range len).map fun i => (List.range us.length).map fun j => (F (i, j)).2.1
              let es' : List (List AV) := (List.range len).map fun i => (List.range us.length).map fun j => (F (i, j)).2.2
              have g1 : ∀ (i : Nat) (e : List AV), es[i]? = some e → i < len ∧ e = (List.range us.length).map fun j => (F (i, j)).2.1 := by
                intro i e he
                simp only [es, List.getElem?_map, Option.map_eq_some_iff] at he
                obtain ⟨i', q1, q2⟩ := he
                have := List.getElem?_eq_some_iff.1 q1
                obtain ⟨q3, q4⟩ := this
                simp at q3 q4
                subst q4
                exact ⟨q3, q2.symm⟩
              have g1' : ∀ (i : Nat) (e : List AV), es'[i]? = some e → i < len ∧ e = (List.range us.length).map fun j => (F (i, j)).2.2 := by
                intro i e he
                simp only [es', List.getElem?_map, Option.map_eq_some_iff] at he
                obtain ⟨i', q1, q2⟩ := he
                have := List.getElem?_eq_some_iff.1 q1
                obtain ⟨q3, q4⟩ := this
                simp at q3 q4
                subst q4
                exact ⟨q3, q2.symm⟩
              have g2 : ∀ (G : Nat → AV) (j : Nat) (x : AV), ((List.range us.length).map G)[j]? = some x → ∃ ct, us[j]? = some ct ∧ x = G j := by
                intro G j x hx
                simp only [List.getElem?_map, Option.map_eq_some_iff] at hx
                obtain ⟨j', q1, q2⟩ := hx
                obtain ⟨q3, q4⟩ := List.getElem?_eq_some_iff.1 q1
                simp at q3 q4
                subst q4
                exact ⟨us[j], List.getElem?_eq_getElem q3, q2.symm⟩
              have l1 : es.length = len := by simp [es]
              have l2 : es'.length = len := by simp [es']
              refine ⟨.ro us.length es (decide (cap = len)), .ro us.length es' (decide (cap = len)), .slice us es _ ?_ ?_ ?_, .ro _ es es' _ _ ?_ (by rw [l1, l2]) id ?_ ?_, rfl, ?_⟩
              · rw [l1]; simp only [maxLen] at hm; omega
              · intro i e he; rw [(g1 i e he).2]; simp
              · intro i e j ct y he hct hy
                obtain ⟨q1, rfl⟩ := g1 i e he
                obtain ⟨ct', q2, rfl⟩ := g2 _ j y hy
                rw [hct] at q2
                cases q2
                exact (hF (i, j) q1 ct hct).2.1
              · intro e he y hy
                obtain ⟨i, he⟩ := List.getElem?_of_mem he
                obtain ⟨j, hy⟩ := List.getElem?_of_mem hy
                obtain ⟨q1, rfl⟩ := g1 i e he
                obtain ⟨ct', q2, rfl⟩ := g2 _ j y hy
                exact (hF (i, j) q1 ct' q2).2.1.isC
              · intro i e e' he he'
                rw [(g1 i e he).2, (g1' i e' he').2]; simp
              · intro i e e' j y y' he he' hy hy'
                obtain ⟨q1, rfl⟩ := g1 i e he
                obtain ⟨_, rfl⟩ := g1' i e' he'
                obtain ⟨ct', q2, rfl⟩ := g2 _ j y hy
                obtain ⟨_, _, rfl⟩ := g2 _ j y' hy'
                exact (hF (i, j) q1 ct' q2).2.2.1
              · have := VR.ro (ψ := ψ) (w := W) (S := fun c => c < W.heap.size) (m := fun _ => (0, 0)) (A := fun _ => False) us.length es' (decide (cap = len)) b off cap (fun i j => (F (i, j)).1) hS
                  (fun i e he => by rw [(g1' i e he).2]; simp) (by rw [l2]; exact hl) (fun q => by rw [l2]; simpa using q)
                  (fun i e j y he hy => by
                    obtain ⟨q1, rfl⟩ := g1' i e he
                    obtain ⟨ct', q2, rfl⟩ := g2 _ j y hy
                    have := hF (i, j) q1 ct' q2
                    exact ⟨this.2.2.2.1, this.1⟩)
                  (fun i e j y he hy => by
                    obtain ⟨q1, rfl⟩ := g1' i e he
                    obtain ⟨ct', q2, rfl⟩ := g2 _ j y hy
                    exact (hF (i, j) q1 ct' q2).2.2.2.2)
                rw [l2] at this
                exact this
        · cases hf
      · rename_i fs ht
        simp only [Option.bind_eq_some_iff] at hf
        obtain ⟨us, hu, hf⟩ := hf
        split at hf
        · rename_i hz
          cases hf
          obtain ⟨xs, n', hn, _, hcl, hxl, hx⟩ := DataW.trod_struct ht h
          cases hn
          refine ⟨by rw [hcl, hz], fun j ct hj => ?_⟩
          have := fields_open (cs := cs) (F := flatT P k) (n := n) (fun t cs x ts h1 h2 => ih k t cs x ts h1 h2) fs.toList 0 _ hu (fun f hf => by
            obtain ⟨i, hi⟩ := List.getElem?_of_mem hf
            have hi' : fs[i]? = some f := by simpa using hi
            have hlt : i < fs.size := (Array.getElem?_eq_some_iff.1 hi').1
            have := hx i f hi'
            rw [List.getElem?_eq_getElem (by omega)] at this
            exact ⟨_, this⟩) j ct hj
          simpa using this
        · cases hf
      · cases hf


/-- The type of an argument. -/
inductive AT where
  | c (ct : CT)
  | g (ts : List CT)

def AT.has : AT → AV → Prop
  | .c ct, a => Ty ct a
  | .g ts, a => ∃ es, a = .agg es ∧ es.length = ts.length ∧ ∀ (j : Nat) (ct : CT) (x : AV), ts[j]? = some ct → es[j]? = some x → Ty ct x

def argT (P : Program) (t : TypeId) : Option AT :=
  match P.underlying t with
  | some (.struct _) => (flatT P 20 t).map .g
  | some .bool | some (.int _) | some .string | some (.slice _) => match flatT P 20 t with | some [ct] => some (.c ct) | _ => none
  | _ => none

theorem cells_plain {t : TypeId} {base : Nat} {v : Value} (hu : P.underlying t = some .bool ∨ (∃ k, P.underlying t = some (.int k)) ∨ P.underlying t = some .string ∨ ∃ e, P.underlying t = some (.slice e)) (h : Value.okWide P W .any base t v) :
    v.cells = #[v] := by
  cases v <;> try rfl
  rcases hu with hu | ⟨k, hu⟩ | hu | ⟨e, hu⟩ <;> simp [Value.okWide, hu, Cell.okWide, Cell.ok] at h

theorem arg_open {t : TypeId} {at_ : AT} (ha : argT P t = some at_) {base : Nat} {v : Value} (hv : Value.okWide P W .any base t v) {d : DataW H} {p : List MemPlace} (h : DataW.Trod enc P W 0 (fun _ => true) true t v d p) :
    ∃ a a', at_.has a ∧ VD id (fun _ => False) a a' ∧ VR ψ W (fun c => c < W.heap.size) (fun _ => (0, 0)) (fun _ => False) a' v := by
  obtain ⟨fuel, h⟩ := h
  have plain : (P.underlying t = some .bool ∨ (∃ k, P.underlying t = some (.int k)) ∨ P.underlying t = some .string ∨ ∃ e, P.underlying t = some (.slice e)) →
      (match flatT P 20 t with | some [ct] => some (AT.c ct) | _ => none) = some at_ → ∃ a a', at_.has a ∧ VD id (fun _ => False) a a' ∧ VR ψ W (fun c => c < W.heap.size) (fun _ => (0, 0)) (fun _ => False) a' v := by
    intro hu he
    split at he
    · rename_i ct hf
      cases he
      rw [cells_plain hu hv] at h
      obtain ⟨_, q⟩ := cells_open (ψ := ψ) _ _ _ _ _ _ hf h
      obtain ⟨v', q1, a, a', q2, q3, _, q4⟩ := q 0 ct rfl
      simp only [List.getElem?_cons_zero, Option.some.injEq] at q1
      subst q1
      exact ⟨a, a', q2, q3, q4⟩
    · cases he
  unfold argT at ha
  split at ha
  · rename_i fs ht
    simp only [Option.map_eq_some_iff] at ha
    obtain ⟨ts, hf, rfl⟩ := ha
    simp only [Value.okWide, ht] at hv
    obtain ⟨cs, rfl, _, _⟩ := hv
    obtain ⟨hl, q⟩ := cells_open (ψ := ψ) _ _ _ _ _ _ hf h
    simp only [Value.cells] at hl q
    have key : ∀ j : Nat, ∃ x : AV × AV, ∀ ct, ts[j]? = some ct → Ty ct x.1 ∧ VD id (fun _ => False) x.1 x.2 ∧ x.2.cell = true ∧ ∃ v, cs.toList[j]? = some v ∧ VR ψ W (fun c => c < W.heap.size) (fun _ => (0, 0)) (fun _ => False) x.2 v := by
      intro j
      cases hj : ts[j]? with
      | none => exact ⟨default, fun _ q => by cases q⟩
      | some ct =>
        obtain ⟨v, q1, a, a', q2, q3, q4, q5⟩ := q j ct hj
        exact ⟨(a, a'), fun ct' e => by cases e; exact ⟨q2, q3, q4, v, q1, q5⟩⟩
    obtain ⟨F, hF⟩ := Classical.axiomOfChoice key
    have g2 : ∀ (G : Nat → AV) (j : Nat) (x : AV), ((List.range ts.length).map G)[j]? = some x → ∃ ct, ts[j]? = some ct ∧ x = G j := by
      intro G j x hx
      simp only [List.getElem?_map, Option.map_eq_some_iff] at hx
      obtain ⟨j', q1, q2⟩ := hx
      obtain ⟨q3, q4⟩ := List.getElem?_eq_some_iff.1 q1
      simp at q3 q4
      subst q4
      exact ⟨ts[j], List.getElem?_eq_getElem q3, q2.symm⟩
    refine ⟨.agg ((List.range ts.length).map fun j => (F j).1), .agg ((List.range ts.length).map fun j => (F j).2), ⟨_, rfl, by simp, ?_⟩, .agg _ _ (by simp) ?_, .agg _ _ ?_ ?_ ?_⟩
    · intro j ct x hct hx
      obtain ⟨ct', q1, rfl⟩ := g2 _ j x hx
      exact (hF j ct hct).1
    · intro j x x' hx hx'
      obtain ⟨ct, q1, rfl⟩ := g2 _ j x hx
      obtain ⟨_, _, rfl⟩ := g2 _ j x' hx'
      exact (hF j ct q1).2.1
    · simp only [List.length_map, List.length_range]
      rw [← hl]; simp
    · intro j x hx
      obtain ⟨ct, q1, rfl⟩ := g2 _ j x hx
      exact (hF j ct q1).2.2.1
    · intro j x hx
      obtain ⟨ct, q1, rfl⟩ := g2 _ j x hx
      obtain ⟨v, q2, q3⟩ := (hF j ct q1).2.2.2
      have e : cs[j]? = some v := by simpa using q2
      rw [Array.getD_eq_getD_getElem?, e]
      exact q3
  · rename_i ht; exact plain (.inl ht) ha
  · rename_i k ht; exact plain (.inr (.inl ⟨k, ht⟩)) ha
  · rename_i ht; exact plain (.inr (.inr (.inl ht))) ha
  · rename_i e ht; exact plain (.inr (.inr (.inr ⟨e, ht⟩))) ha
  · cases ha

def TyAll : List AT → List AV → Prop
  | [], [] => True
  | a :: r, x :: s => a.has x ∧ TyAll r s
  | _, _ => False

theorem args_open {base : Nat} : ∀ {ts : List TypeId} {ats : List AT} {vs : List Value} {ds : List (DataW H)} {p : List MemPlace}, ts.map (argT P) = ats.map some →
    (∀ (j : Nat) (t : TypeId) (v : Value), ts[j]? = some t → vs[j]? = some v → Value.okWide P W .any base t v) → DataW.TrodAll enc P W 0 (fun _ => true) true ts vs ds p →
    ∃ us us', TyAll ats us ∧ Rel2 (VD id fun _ => False) us us' ∧ us'.length = vs.length ∧ ∀ (j : Nat) (x : AV) (v : Value), us'[j]? = some x → vs[j]? = some v → VR ψ W (fun c => c < W.heap.size) (fun _ => (0, 0)) (fun _ => False) x v
  | [], [], vs, ds, p, _, _, h => by
    obtain ⟨rfl, _, _⟩ := ChangeShapes.trodAll_nil h
    exact ⟨[], [], trivial, ⟨rfl, by simp⟩, rfl, by simp⟩
  | t :: ts, at_ :: ats, _, _, _, hm, hv, h => by
    obtain ⟨v, vs1, d, ds1, p1, q1, rfl, rfl, rfl, h1, h2⟩ := ChangeShapes.trodAll_cons h
    simp only [List.map_cons, List.cons.injEq] at hm
    obtain ⟨a, a', r1, r2, r3⟩ := arg_open (ψ := ψ) hm.1 (hv 0 t v rfl rfl) h1
    obtain ⟨us, us', s1, s2, s3, s4⟩ := args_open hm.2 (fun j t v e1 e2 => hv (j + 1) t v e1 e2) h2
    refine ⟨a :: us, a' :: us', ⟨r1, s1⟩, ⟨by simp [s2.1], fun j x x' e1 e2 => ?_⟩, by simp [s3], fun j x v' e1 e2 => ?_⟩
    · cases j with
      | zero => cases e1; cases e2; exact r2
      | succ j => exact s2.2 j x x' e1 e2
    · cases j with
      | zero => cases e1; cases e2; exact r3
      | succ j => exact s4 j x v' e1 e2
  | [], _ :: _, _, _, _, hm, _, _ => by simp at hm
  | _ :: _, [], _, _, _, hm, _, _ => by simp at hm

/-- A law that says true on the second machine says true. -/
theorem law_calls {φ : FuncId → Option Nat} {D : WProg} (hL : Linked P φ ψ (erProg D)) (hok : okTree D.fns = true) {f : Nat} {ts : List TypeId} {ats : List AT} (hts : ts.map (argT P) = ats.map some)
    (core : ∀ us, TyAll ats us → FnW D f us = some (.bool true)) {base : Nat} {args : Array Value} {ds : List (DataW H)} {p : List MemPlace}
    (hv : ∀ (j : Nat) (t : TypeId) (v : Value), ts[j]? = some t → args[j]? = some v → Value.okWide P W .any base t v) (hA : DataW.TrodAll enc P W 0 (fun _ => true) true ts args.toList ds p) :
    Calls P (ψ f) args W fun e W' => e = .returned (.bool true) ∧ (∀ c, c < W.heap.size → W'.heap[c]? = W.heap[c]?) ∧ W.heap.size ≤ W'.heap.size ∧ W'.os = W.os ∧ W'.output = W.output := by
  obtain ⟨us, us', h1, h2, h3, h4⟩ := args_open (ψ := ψ) hts (fun j t v e1 e2 => hv j t v e1 (by simpa using e2)) hA
  obtain ⟨n, hc⟩ := fnW_call.1 (core us h1)
  obtain ⟨v', hc', hvd⟩ := callW_ok hok h2 hc
  rw [hvd.bool_inv] at hc'
  refine (callF_ok hL hc' (w := W) (S := fun c => c < W.heap.size) (m := fun _ => (0, 0)) (cargs := args) (fun _ h => h) (by rw [h3]; simp) fun j x hx => ?_).mono ?_
  · have hj : j < args.size := by have := (List.getElem?_eq_some_iff.1 hx).1; rw [h3] at this; simpa using this
    rw [Array.getD_eq_getD_getElem?, Array.getElem?_eq_getElem hj]
    exact h4 j x _ hx (by simp [hj])
  · rintro e W' ⟨cv, S', m', rfl, hr, q1, q2, q3, q4⟩
    rw [hr.inv_bool]
    exact ⟨rfl, q1, q2, q3, q4⟩


theorem trodAll_old {W' : World} (hh : ∀ c, c < W.heap.size → W'.heap[c]? = W.heap[c]?) {base : Nat} {sp : Nat → Bool} {held : Bool} : ∀ {ts : List TypeId} {vs : List Value} {ds : List (DataW H)} {ps : List MemPlace},
    DataW.TrodAll enc P W base sp held ts vs ds ps → (∀ p ∈ ps, p.block < W.heap.size) → DataW.TrodAll enc P W' base sp held ts vs ds ps
  | [], [], [], _, h, _ => h
  | _ :: _, _ :: _, _ :: _, _, ⟨p, q, ⟨n, h1⟩, h2, e⟩, hs => ⟨p, q, ⟨n, DataW.trod_carry n _ _ _ h1 fun x hx => by
      have hlt := hs x (by rw [e]; exact List.mem_append_left _ hx)
      cases x with
      | cell b off => simp only [World.sameAt, World.cell?]; rw [hh b hlt]
      | map b => exact hh b hlt⟩, trodAll_old hh h2 (fun x hx => hs x (by rw [e]; exact List.mem_append_right _ hx)), e⟩

theorem keptBut_old {W' : World} (hh : ∀ c, c < W.heap.size → W'.heap[c]? = W.heap[c]?) (ho : W'.os = W.os) (hp : W'.output = W.output) (may : MemPlace → Prop) : W.keptBut W' may := by
  have h := World.keptBut_refl W may
  refine ⟨ho, hp, fun i hi => ?_⟩
  have := h.2.2 i hi
  rw [hh i hi]
  exact this

/-- What a law's row asks behind the call, where the law said true and all that was there before stays. -/
theorem law_post {f : Func} {s : ChangeSpec} {fresh handsOn again : Bool} {W' : World} {args : Array Value} {ds gs : List (DataW H)} {before : List MemPlace} {tb : TypeId}
    (kids : Kids P (· < P.types.size)) (full : ∀ t e, t < P.types.size → P.underlying t = some (.slice e) → 0 < P.cellsOf e)
    (hvars0 : s.vars = []) (hW : DataW.Whole enc P f.params.toList s.vars false W args.toList ds gs before) (hfn : s.fn H (ds ++ gs) = { results := [.lit (.bool true)], args := ds })
    (hps : ∀ t ∈ f.params.toList, t < P.types.size) (hr : f.resultTypes = #[tb]) (htb : P.underlying tb = some .bool)
    (hh : ∀ c, c < W.heap.size → W'.heap[c]? = W.heap[c]?) (_hsz : W.heap.size ≤ W'.heap.size) (ho : W'.os = W.os) (hp : W'.output = W.output) :
    s.post enc P f false fresh handsOn again W args (.bool true) W' := by
  have hlt : ∀ p ∈ before, p.block < W.heap.size := hW.lt
  have hW' := hW
  obtain ⟨p, q, hA, hV, rfl, hz, _⟩ := hW
  rw [hvars0] at hV
  obtain ⟨rfl, rfl⟩ := ChangeShapes.trodVars_none hV
  simp only [List.append_nil] at hlt hz hW' hfn
  have hargs : ∀ sp : Nat → Bool, (∀ x ∈ p, sp x.block = true) → DataW.TrodAll enc P W' 0 sp true f.params.toList args.toList ds p := fun sp hsp =>
    trodAll_old hh (DataW.TrodAll.respare kids full hps hA hsp) hlt
  have hvars : ∀ sp : Nat → Bool, DataW.TrodVars enc P W' sp s.vars [] [] := fun sp => by rw [hvars0]; rfl
  have hres : ∀ (b : Nat) (sp : Nat → Bool) (hd : Bool), DataW.TrodAll enc P W' b sp hd f.resultTypes.toList ((Value.bool true).resultList f.resultTypes.size) [.lit (.bool true)] [] := fun b sp hd => by
    rw [hr]; exact ChangeShapes.trodAll_mk1 (RowKit.shut_bool htb true)
  have hok : ∀ (j : Nat) (t : TypeId) (r : Value), f.resultTypes[j]? = some t → ((Value.bool true).resultList f.resultTypes.size)[j]? = some r → Value.okWide P W' .any 0 t r :=
    RowKit.ok_one hr rfl (by simp [Value.okWide, htb, Cell.okWide, Cell.ok])
  have hold : ∀ x ∈ p, (fun b => decide (b < W.heap.size)) x.block = true := fun x hx => by simpa using hlt x hx
  refine ⟨ds, [], p, [], p, [], hW', ?_, ?_, ?_, keptBut_old hh ho hp _, fun _ => ⟨hok, [.lit (.bool true)] ++ ds, [], ([] ++ p) ++ [], ⟨[] ++ p, [], ?_, hvars _, rfl, ?_, fun h => by cases h⟩, ?_⟩⟩
  · rw [List.append_nil, hfn]; exact hres _ _ _
  · rw [List.append_nil, hfn]; exact hargs _ hold
  · rw [List.append_nil, hfn]; exact hvars _
  · exact ChangeShapes.trodAll_append (hargs _ fun _ _ => rfl) (hres _ _ _)
  · intro b off hb
    simp only [List.nil_append, List.append_nil] at hb
    have := hz b off hb
    unfold World.frozen? at this ⊢
    rw [hh b (hlt _ hb)]
    exact this
  · intro x hx _
    simpa using hx

theorem trodAll_len {base : Nat} {sp : Nat → Bool} {held : Bool} : ∀ {ts : List TypeId} {vs : List Value} {ds : List (DataW H)} {ps : List MemPlace}, DataW.TrodAll enc P W base sp held ts vs ds ps → ds.length = ts.length
  | [], [], [], _, _ => rfl
  | _ :: _, _ :: _, _ :: _, _, ⟨_, _, _, h2, _⟩ => by simp [trodAll_len h2]

def isTrue : Option AV → Bool
  | some (.bool true) => true
  | _ => false
theorem isTrue_eq {o : Option AV} (h : isTrue o = true) : o = some (.bool true) := by
  unfold isTrue at h
  split at h
  · rfl
  · cases h

theorem ty_slice1 {ct : CT} {a : AV} (h : Ty (.slice [ct]) a) : ∃ (xs : List AV) (e : Bool), a = .ro 1 (xs.map fun x => [x]) e ∧ xs.length < 2 ^ 63 ∧ ∀ x ∈ xs, Ty ct x := by
  cases h with
  | slice ts es ex hn hw h =>
    have one : ∀ e ∈ es, e = [e.headD .undef] ∧ Ty ct (e.headD .undef) := by
      intro e he
      obtain ⟨i, hi⟩ := List.getElem?_of_mem he
      have hl := hw i e hi
      match e, hl with
      | [x], _ => exact ⟨rfl, h i [x] 0 ct x hi rfl rfl⟩
    refine ⟨es.map fun e => e.headD .undef, ex, ?_, by simpa using hn, ?_⟩
    · simp only [List.map_map, List.length_cons, List.length_nil, Nat.zero_add, AV.ro.injEq, true_and, and_true]
      have : es.map ((fun x => [x]) ∘ fun e => e.headD AV.undef) = es.map id := List.map_congr_left fun e he => by simpa using (one e he).1.symm
      rw [this, List.map_id]
    · intro x hx
      obtain ⟨e, he, rfl⟩ := List.mem_map.1 hx
      exact (one e he).2

theorem ty_map {α : Type} {ct : CT} {g : α → AV} (h : ∀ a, Ty ct a → ∃ x, a = g x) : ∀ (xs : List AV), (∀ x ∈ xs, Ty ct x) → ∃ ys : List α, xs = ys.map g := by
  intro xs
  induction xs with
  | nil => intro _; exact ⟨[], rfl⟩
  | cons a r ih =>
    intro hx
    obtain ⟨y, rfl⟩ := h a (hx a (by simp))
    obtain ⟨ys, rfl⟩ := ih fun x q => hx x (by simp [q])
    exact ⟨y :: ys, rfl⟩

end
end Go.Pw
end

section
set_option linter.unusedSimpArgs false
set_option linter.unusedVariables false
/- The law PoolsErrors says true for every input; its arguments read behind the call as before. No conditions. -/
namespace Go.Proofs.Ytebbokkffdjpdaa
open Go.ChangeShapes Go.WideShapes Go.ChangeAt Go.RowKit Go.Pav Go.Pw P21

theorem own_ : ownKnob Try.prog.godebug = none := by kernel_rfl
theorem kids_ : Kids Try.prog (· < Try.prog.types.size) := kids_rows (by kernel_rfl) (by kernel_rfl)
theorem full_ : ∀ t e, t < Try.prog.types.size → Try.prog.underlying t = some (.slice e) → 0 < Try.prog.cellsOf e := slices_full_of Try.prog (by kernel_rfl)

theorem has_ : Go.C21.Has prog := ⟨rfl, rfl, rfl, rfl, rfl, rfl, rfl, rfl, rfl, rfl, rfl, rfl, rfl, rfl, rfl, rfl⟩

theorem lives_ : FnW prog 18 [] = some (.bool true) := fnW_call.2 ⟨300, isTrue_eq (by kernel_rfl)⟩

theorem ty_ints {a : AV} (h : Ty (.slice [.int .i64]) a) : ∃ xs e, a = L1 xs e := by
  obtain ⟨xs, e, rfl, _, hx⟩ := ty_slice1 h
  obtain ⟨ys, rfl⟩ := ty_map (g := fun n : Int => AV.int .i64 n) (fun a ha => by cases ha with | int k n => exact ⟨n, rfl⟩) xs hx
  exact ⟨ys, e, by simp [L1, List.map_map, Function.comp_def]⟩

theorem core3 (vs : List AV) (h : TyAll [.g [.slice [.int .i64], .slice [.slice [.int .i64]]], .c (.int .i64), .c (.int .i64)] vs) : FnW prog 3 vs = some (.bool true) := by
  match vs, h with
  | [a, b, c], ⟨⟨es, ha, hl, hes⟩, hb, hc, _⟩ =>
    subst ha
    cases hb with
    | int k n hn1 hn2 =>
      cases hc with
      | int k m hm1 hm2 =>
        match es, hl with
        | [x, y], _ =>
          obtain ⟨bs, e, rfl⟩ := ty_ints (hes 0 _ x rfl rfl)
          obtain ⟨ys, f, rfl, _, hy⟩ := ty_slice1 (hes 1 _ y rfl rfl)
          obtain ⟨rs, rfl⟩ := ty_map (g := fun r : List Int × Bool => L1 r.1 r.2) (fun a ha => by obtain ⟨xs, e, rfl⟩ := ty_ints ha; exact ⟨(xs, e), rfl⟩) ys hy
          have hm2 : m ≤ 9223372036854775807 := hm2
          have := Go.C21.errors_ok has_ (by rfl) lives_ bs e rs f n m (by omega)
          simp only [List.map_map, Function.comp_def]
          exact this

theorem args5 : Try.f5.params.toList.map (argT Try.prog) = [AT.g [.slice [.int .i64], .slice [.slice [.int .i64]]], .c (.int .i64), .c (.int .i64)].map some := by kernel_rfl

set_option maxRecDepth 100000 in
theorem lifted5 (os : Os) (started : os.Started) (H : Type) (enc : TypeId × Value → H) :
    ReturnsInHanded {} Try.checked os 5 .any (Rows.poolsErrorsSpec.pre6 enc Try.prog Try.f5 Rows.poolsErrorsRow.domain false) (Rows.poolsErrorsSpec.post enc Try.prog Try.f5 false true false false) := by
  refine returnsInHanded_of_change (C := Try.checked) own_ started (by kernel_rfl) Try.func5
    (ChangeSpec.witness6 (enc := enc) (C := Try.checked) false ⟨#[], #[.agg #[.slice none 0 0, .slice none 0 0], .int .i64 0, .int .i64 0], []⟩ 8 (by kernel_rfl) (by kernel_rfl) (by kernel_rfl) (by kernel_rfl)) ?_
  intro W base args ds gs before hval hW hcnd _
  have hW' := hW
  obtain ⟨p, q, hA, hV, rfl, hfz, hnd⟩ := hW
  obtain ⟨rfl, rfl⟩ := trodVars_none hV
  have hlen : ds.length = 3 := (trodAll_len hA).trans (by simp)
  refine (law_calls (enc := enc) link okT (f := 3) args5 core3 (fun j t v e1 e2 => hval j t v (by simpa using e1) e2) hA).mono ?_
  rintro e W' ⟨rfl, h1, h2, h3, h4⟩
  refine ⟨_, rfl, law_post kids_ full_ rfl hW' ?_ (of_decide_eq_true (by kernel_rfl)) rfl (by kernel_rfl) h1 h2 h3 h4⟩
  match ds, hlen with
  | [d1, d2, d3], _ => rfl

theorem poolsErrors_holds : Rows.PoolsErrorsSaid :=
  OpenClaim.holds_of_wide 5 Try.f5 rfl rfl rfl rfl rfl rfl rfl ⟨rfl, rfl, rfl, rfl, rfl⟩ rfl rfl rfl rfl rfl (by kernel_rfl) Try.func5 (by kernel_rfl)
    (of_decide_eq_true (by kernel_rfl)) (by unfold Func.isWrapper; first | (rw [if_pos (by decide +kernel)]; kernel_rfl) | (rw [if_neg (by decide +kernel)]; exact ⟨rfl, rfl⟩))
    (fun os started H enc _ => lifted5 os started H enc)

end Go.Proofs.Ytebbokkffdjpdaa
end

section
set_option linter.unusedSimpArgs false
set_option linter.unusedVariables false
/- What the law PoolsKnown computes. No conditions. -/
namespace Go.C21
open Go Go.Pav Go.Pw P21
set_option maxRecDepth 10000
set_option maxHeartbeats 4000000
attribute [-simp] List.getElem_cons_drop
variable {C : WProg} (H : Has C)
include H

def rg (i : Nat) : List Int := (List.range i).map Int.ofNat

omit H in
theorem rg_succ (i : Nat) : rg (i + 1) = rg i ++ [(i : Int)] := by simp [rg, List.range_succ]
omit H in
theorem rg_len (i : Nat) : (rg i).length = i := by simp [rg]

def r30 : List Int := (rg 100).drop 70
def r29 : List Int := r30.take 29

theorem known_main (bs : List Int) (hb : bs = [65536]) (hlives : FnW C 18 [] = some (.bool true)) :
    CK C 0 (pureFin [.tmp 0]) [] w4_c0 ⟨[(5, .ptr 0 0 0)], [(0, .cells 2 [[L1 bs true, .ro 1 [[L1 (rg 100) true]] true]] true true)], 1⟩ = some (.bool true) := by
  have ht := trim_ok H bs true [(rg 100, true)] true 30 (by decide)
  have c1 : chk bs [(rg 100, true)] = 0 := by rw [hb]; decide
  have c2 : List.map (tr (Int.toNat 30)) [(rg 100, true)] = [(r30, true)] := by decide
  have c3 : gone (Int.toNat 30) [(rg 100, true)] = rg 70 := by decide
  rw [c1, c2, c3] at ht
  have hp := pop_ok H bs true [(r30, true)] true 0
  have d1 : ofE bs [(r30, true)] 0 = 0 := by rw [hb]; decide
  have d2 : withR [(r30, true)] (Int.toNat 0) ((([(r30, true)] : List (List Int × Bool))[Int.toNat 0]?.getD ([], true)).1.take ((([(r30, true)] : List (List Int × Bool))[Int.toNat 0]?.getD ([], true)).1.length - 1)) 0 = [(r29, true)] := by decide
  have d3 : ((([(r30, true)] : List (List Int × Bool))[Int.toNat 0]?.getD ([], true)).1[(([(r30, true)] : List (List Int × Bool))[Int.toNat 0]?.getD ([], true)).1.length - 1]?.getD 0) = 99 := by decide
  have d4 : ¬ (([(r30, true)] : List (List Int × Bool))[Int.toNat 0]?.getD ([], true)).1.length = 0 := by decide
  rw [d1, d2, d3, if_pos rfl, if_neg d4] at hp
  have hl := len_ok H bs true [(r29, true)] true 0
  have e1 : ofE bs [(r29, true)] 0 = 0 := by rw [hb]; decide
  have e2 : (([(r29, true)] : List (List Int × Bool))[Int.toNat 0]?.getD ([], true)).1.length = 29 := by decide
  rw [e1, e2, if_pos rfl] at hl
  obtain ⟨r, hr⟩ : ∃ r, r = rg 70 := ⟨_, rfl⟩
  have l70 : r.length = 70 := by rw [hr]; exact rg_len 70
  have g69 : r[69]'(by omega) = 69 := by subst hr; rfl
  rw [← hr] at ht
  simp [eP] at ht hp hl
  rw [ck_unf w4_c0.eq_1]
  simp (disch := omega) [ht, hp, hl, l70, hlives, H.inl, g69, wI64]

theorem known_loop (bs : List Int) (hb : bs = [65536]) (hlives : FnW C 18 [] = some (.bool true)) : ∀ n i : Nat, n + i = 100 →
    w4_K0 C ⟨[(9, .int .i64 i), (5, .ptr 0 0 0)], [(0, .cells 2 [[L1 bs true, .ro 1 [[L1 (rg i) true]] true]] true true)], 1⟩ = some (.bool true) := by
  intro n
  induction n with
  | zero =>
    intro i hi
    obtain rfl : i = 100 := by omega
    simp only [w4_K0]; rw [ck_unf w4_B0.eq_1]
    have := known_main H bs hb hlives
    simp [this]
  | succ n ih =>
    intro i hi
    have := ih (i + 1) (by omega)
    simp only [w4_K0] at this ⊢; rw [ck_unf w4_B0.eq_1]
    have hp := push_ok H bs true [(rg i, true)] true 0 i
    have hi2 : ((rg i).length : Int) ≤ 65536 := by rw [rg_len]; omega
    have c1 : chk bs [(rg i, true)] = 0 := by rw [hb]; simp [chk, allOk, okP, hi2]
    have hbl : bs.length = 1 := by rw [hb]; rfl
    have c2 : ofE bs [(rg i, true)] 0 = 0 := by simp [ofE, c1, hbl]
    have c3 : bs[0]?.getD 0 = 65536 := by rw [hb]; rfl
    have h5 : ¬ (i : Int) = 65536 := by omega
    simp [eP, c2, c3, h5, rg_len, withR] at hp
    rw [rg_succ] at this
    have h3 : (i : Int) < 100 := by omega
    simp at this
    simp (disch := omega) [h3, wI64, hp, this, H.inl]

theorem known_ok (h4 : C.fns.get 4 = some w4) (hlives : FnW C 18 [] = some (.bool true)) : FnW C 4 [] = some (.bool true) := by
  rw [fnW_eq h4 rfl]
  have n8 := new_ok H [0, 0, 0, 0, 0, 0, 0, 0] true
  have n9 := new_ok H [0, 0, 0, 0, 0, 0, 0, 0, 0] true
  have n1 := new_ok H [65536] true
  have n2 := new_ok H [65537] true
  simp [L1, eP, chk, allOk, b01, okP] at n8 n9 n1 n2
  have := known_loop H [65536] rfl hlives 100 0 rfl
  simp only [w4_K0] at this
  simp [rg, L1] at this
  simp (disch := omega) [w4, H.inl, n8, n9, n1, n2, wI64, this]

end Go.C21
end

section
set_option linter.unusedSimpArgs false
set_option linter.unusedVariables false
/- The bounds of the law's input. No conditions. -/
namespace Go.C21
open Go Go.Pav Go.Pw P21
set_option maxRecDepth 10000
set_option maxHeartbeats 4000000
attribute [-simp] List.getElem_cons_drop
variable {C : WProg} (H : Has C)
include H

@[simp] def eO (r : Int × Int × Int) : List AV := [.int .u8 r.1, .int .u8 r.2.1, .int .u8 r.2.2]
def bnd (bs : List Int) : List Int := 2 :: (bs.take 3).map fun x => x % 4

omit H in
theorem bounds_ok (h6 : C.fns.get 6 = some w6) (bs : List Int) (e : Bool) (cs : List (Int × Int × Int)) (f : Bool) (hb : ∀ x ∈ bs, 0 ≤ x ∧ x ≤ 255) :
    ∃ ex, FnW C 6 [.agg [.ro 1 (bs.map eU8) e, .ro 3 (cs.map eO) f]] = some (L1 (bnd bs) ex) := by
  rw [fnW_eq h6 rfl]
  match bs, hb with
  | [], _ =>
    simp [w6, ck_unf w6_B0.eq_1, ck_unf w6_c0.eq_1, bnd]
  | [a], hb =>
    have h1 := hb a (by simp)
    simp (disch := omega) [w6, ck_unf w6_B0.eq_1, ck_unf w6_c0.eq_1, bnd, wI64, Int.tmod_eq_emod_of_nonneg]
  | [a, b], hb =>
    have h1 := hb a (by simp)
    have h2 := hb b (by simp)
    simp (disch := omega) [w6, ck_unf w6_B0.eq_1, ck_unf w6_c0.eq_1, bnd, wI64, Int.tmod_eq_emod_of_nonneg]
  | a :: b :: c :: r, hb =>
    have h1 := hb a (by simp)
    have h2 := hb b (by simp)
    have h3 := hb c (by simp)
    have h4 : (0 : Int) < (r.length : Int) + 1 + 1 + 1 := by omega
    have h5 : (1 : Int) < (r.length : Int) + 1 + 1 + 1 := by omega
    have h6 : (2 : Int) < (r.length : Int) + 1 + 1 + 1 := by omega
    simp (disch := omega) [w6, ck_unf w6_B0.eq_1, ck_unf w6_c0.eq_1, bnd, wI64, Int.tmod_eq_emod_of_nonneg, h4, h5, h6]
end Go.C21
end

section
set_option linter.unusedSimpArgs false
set_option linter.unusedVariables false
/- Plain facts about rows. No conditions. -/
namespace Go.C21
open Go Go.Pav Go.Pw P21

theorem withR_skip : ∀ (rs : List (List Int × Bool)) (k i : Nat) (row : List Int), k < i → (withR rs k row i).map (·.1) = rs.map (·.1)
  | [], _, _, _, _ => rfl
  | r :: rs, k, i, row, h => by
    have h1 : ¬ i = k := by omega
    simp [withR, h1, withR_skip rs k (i + 1) row (by omega)]

theorem withR_fst : ∀ (rs : List (List Int × Bool)) (k i : Nat) (row : List Int), (withR rs (i + k) row i).map (·.1) = (rs.map (·.1)).set k row
  | [], _, _, _ => by simp [withR]
  | r :: rs, 0, i, row => by
    simp [withR, withR_skip rs i (i + 1) row (by omega)]
  | r :: rs, k + 1, i, row => by
    have h1 : ¬ i = i + (k + 1) := by omega
    have := withR_fst rs k (i + 1) row
    rw [show i + 1 + k = i + (k + 1) by omega] at this
    simp [withR, this]

theorem cat_eq (rs : List (List Int × Bool)) : cat rs = (rs.map (·.1)).flatten := by simp [cat, List.flatMap]

theorem set_flatten : ∀ (L : List (List Int)) (k : Nat) (row : List Int) (h : k < L.length), (L[k] ++ (L.set k row).flatten).Perm (row ++ L.flatten)
  | x :: L, 0, row, _ => by
    simp only [List.getElem_cons_zero, List.set_cons_zero, List.flatten_cons, ← List.append_assoc]
    exact List.Perm.append_right _ List.perm_append_comm
  | x :: L, k + 1, row, h => by
    have ih := set_flatten L k row (by simpa using h)
    simp only [List.getElem_cons_succ, List.set_cons_succ, List.flatten_cons]
    refine (List.perm_append_comm_assoc _ _ _).trans ?_
    exact (List.Perm.append_left x ih).trans (List.perm_append_comm_assoc _ _ _)

theorem cat_withR (rs : List (List Int × Bool)) (k : Nat) (row : List Int) (h : k < rs.length) : (rs[k].1 ++ cat (withR rs k row 0)).Perm (row ++ cat rs) := by
  have h1 := withR_fst rs k 0 row
  rw [Nat.zero_add] at h1
  rw [cat_eq, cat_eq, h1]
  have := set_flatten (rs.map (·.1)) k row (by simpa using h)
  simpa using this
end Go.C21
end

section
set_option linter.unusedSimpArgs false
set_option linter.unusedVariables false
/- Plain facts about valid pools. No conditions. -/
namespace Go.C21
open Go Go.Pav Go.Pw P21

/-- Valid pools, by rows. -/
def Okp (bs : List Int) (L : List (List Int)) : Prop := 1 ≤ bs.length ∧ bs.length ≤ 8 ∧ L.length = bs.length ∧ ∀ (i : Nat) (b : Int) (l : List Int), bs[i]? = some b → L[i]? = some l → 0 ≤ b ∧ b ≤ 65536 ∧ (l.length : Int) ≤ b

theorem okp_chk {bs : List Int} {rs : List (List Int × Bool)} : chk bs rs = 0 ↔ Okp bs (rs.map (·.1)) := by
  unfold chk Okp
  have hb : ∀ b : Bool, b01 b = 0 ↔ b = true := by intro b; cases b <;> simp
  rw [hb]
  simp only [Bool.and_eq_true, decide_eq_true_eq, allOk, List.all_eq_true, List.length_map]
  refine and_congr_right fun _ => and_congr_right fun _ => and_congr_right fun hl => ?_
  constructor
  · intro h i b l h1 h2
    simp only [List.getElem?_map, Option.map_eq_some_iff] at h2
    obtain ⟨r, h2, rfl⟩ := h2
    have := h (b, r) (List.mem_of_getElem? (i := i) (by simp [List.getElem?_zip_eq_some, h1, h2]))
    simpa [okP] using this
  · rintro h ⟨b, r⟩ hx
    obtain ⟨i, hi⟩ := List.getElem?_of_mem hx
    rw [List.getElem?_zip_eq_some] at hi
    have := h i b r.1 hi.1 (by simp [hi.2])
    simpa [okP] using this

theorem Okp.set {bs : List Int} {L : List (List Int)} (h : Okp bs L) {k : Nat} {row : List Int} (hr : ∀ b, bs[k]? = some b → (row.length : Int) ≤ b) : Okp bs (L.set k row) := by
  obtain ⟨h1, h2, h3, h4⟩ := h
  refine ⟨h1, h2, by simpa using h3, fun i b l e1 e2 => ?_⟩
  rw [List.getElem?_set] at e2
  split at e2
  · rename_i hk
    subst hk
    split at e2
    · cases e2
      have hlt : k < L.length := by assumption
      have := h4 k b L[k] e1 (List.getElem?_eq_getElem hlt)
      exact ⟨this.1, this.2.1, hr b e1⟩
    · cases e2
  · exact h4 i b l e1 e2

theorem Okp.map {bs : List Int} {L : List (List Int)} (h : Okp bs L) {g : List Int → List Int} (hg : ∀ l, (g l).length ≤ l.length) : Okp bs (L.map g) := by
  obtain ⟨h1, h2, h3, h4⟩ := h
  refine ⟨h1, h2, by simpa using h3, fun i b l e1 e2 => ?_⟩
  simp only [List.getElem?_map, Option.map_eq_some_iff] at e2
  obtain ⟨l', e2, rfl⟩ := e2
  have := h4 i b l' e1 e2
  have := hg l'
  exact ⟨by omega, by omega, by omega⟩

/-- Trimming: what is gone and what stays is what was there. -/
theorem gone_cat (to : Nat) : ∀ rs : List (List Int × Bool), (gone to rs ++ cat (rs.map (tr to))).Perm (cat rs)
  | [] => by simp [gone, cat]
  | r :: rs => by
    have ih := gone_cat to rs
    simp only [gone, cat, List.map_cons, List.flatMap_cons, tr] at ih ⊢
    have e : r.1 = r.1.take (r.1.length - to) ++ r.1.drop (r.1.length - to) := (List.take_append_drop ..).symm
    refine List.Perm.trans ?_ (List.Perm.append (List.Perm.of_eq e.symm) ih)
    simp only [List.append_assoc]
    exact List.Perm.append_left _ (List.perm_append_comm_assoc _ _ _)
end Go.C21
end

section
set_option linter.unusedSimpArgs false
set_option linter.unusedVariables false
/- The second loop of PoolsEach. No conditions. -/
namespace Go.C21
open Go Go.Pav Go.Pw P21
set_option maxRecDepth 10000
set_option maxHeartbeats 4000000
attribute [-simp] List.getElem_cons_drop
variable {C : WProg} (H : Has C)
include H

theorem each_seen (hlives : FnW C 18 [] = some (.bool true)) (O : List Int) (q : Nat) (hp : O.Perm (rg q)) (hq : q ≤ 40) : ∀ n i, n + i = q → ∀ sn : List Bool, sn.length = q →
    (∀ v : Nat, v < q → sn[v]? = some (decide ((v : Int) ∈ O.take i))) →
    w2_K0 C ⟨[(15, .int .i64 i), (14, .sl 0 1 0 q q true), (6, .int .i64 q), (5, .sl 1 1 0 q q false)], [(0, .cells 1 (sn.map eB) true true), (1, .cells 1 (O.map eI) true true)], 2⟩ = some (.bool true) := by
  have hO : O.length = q := by rw [hp.length_eq, rg_len]
  intro n
  induction n with
  | zero =>
    intro i hi sn hl hs
    simp only [w2_K0]; rw [ck_unf w2_B0.eq_1]
    have h3 : ¬ i < q := by omega
    simp [ck_unf w2_c0.eq_1, h3, hlives, H.inl]
  | succ n ih =>
    intro i hi sn hl hs
    have h3 : i < q := by omega
    have h3' : i < O.length := by omega
    have hv : 0 ≤ O[i] ∧ O[i] < q := by
      have : O[i] ∈ rg q := hp.mem_iff.1 (List.getElem_mem h3')
      simp only [rg, List.mem_map, List.mem_range] at this
      obtain ⟨a, h1, h2⟩ := this
      rw [← h2]
      exact ⟨Int.natCast_nonneg a, Int.ofNat_lt.2 h1⟩
    obtain ⟨v, hvv⟩ : ∃ v : Nat, O[i] = v := ⟨O[i].toNat, by omega⟩
    have hv2 : v < q := by omega
    have hnd : O.Nodup := hp.nodup_iff.2 (by
      unfold rg
      exact List.Pairwise.map _ (fun a b h e => h (Int.ofNat.inj e)) List.nodup_range)
    have htk : O.take (i + 1) = O.take i ++ [(v : Int)] := by rw [List.take_succ_eq_append_getElem h3', hvv]
    have hnot : ¬ (v : Int) ∈ O.take i := by
      have h5 : (O.take (i + 1)).Nodup := hnd.sublist (List.take_sublist _ _)
      rw [htk, List.nodup_append] at h5
      exact fun h6 => h5.2.2 _ h6 _ (by simp) rfl
    have hsv : sn[v]? = some false := by rw [hs v hv2]; simp [hnot]
    have hsv2 : sn[v]'(by omega) = false := by
      rw [List.getElem?_eq_getElem (by omega)] at hsv
      exact Option.some.inj hsv
    have := ih (i + 1) (by omega) (sn.set v true) (by simp [hl]) (by
      intro u hu
      rw [htk, List.getElem?_set]
      by_cases c : v = u
      · subst c; simp [hl, hv2]
      · have c2 : ¬ (u : Int) = (v : Int) := by omega
        rw [if_neg c, hs u hu]; simp [c2])
    simp only [w2_K0] at this ⊢; rw [ck_unf w2_B0.eq_1]
    simp at this
    simp (disch := omega) [h3, hvv, hv2, wI64, hsv2, this]

theorem each_main (hlives : FnW C 18 [] = some (.bool true)) (B : List Int) (rs : List (List Int × Bool)) (G : List Int) (q : Nat) (hc : chk B rs = 0) (hp : (G ++ cat rs).Perm (rg q)) (hq : q ≤ 40) :
    CK C 0 (pureFin [.tmp 2]) [] w2_c1 ⟨[(6, .int .i64 q), (5, .sl 0 1 0 G.length G.length false), (3, .ptr 1 0 0)], [(0, .cells 1 (G.map eI) true true), (1, .cells 2 [[L1 B true, .ro 1 (rs.map eR) true]] true true)], 2⟩ = some (.bool true) := by
  have ha := all_ok H B true rs true
  rw [hc, if_pos rfl] at ha
  have hl := hp.length_eq
  rw [rg_len, List.length_append] at hl
  rw [ck_unf w2_c1.eq_1]
  have h1 : ¬ 40 < (cat rs).length := by omega
  cases hD : cat rs with
  | nil =>
    rw [hD] at ha hl
    simp only [List.length_nil, Nat.add_zero] at hl
    have := each_seen H hlives G q (by simpa [hD] using hp) hq q 0 rfl (List.replicate q false) (by simp) (by intro v hv; simp [hv])
    simp only [w2_K0] at this
    simp at this
    simp (disch := omega) [ha, H.inl, fits, hl, this]
  | cons x D =>
    rw [hD] at ha hl
    simp only [List.length_cons] at hl
    have h2 : ¬ q ≤ G.length := by omega
    have := each_seen H hlives (G ++ x :: D) q (by rw [← hD]; exact hp) hq q 0 rfl (List.replicate q false) (by simp) (by intro v hv; simp [hv])
    simp only [w2_K0] at this
    simp at this
    simp (disch := omega) [ha, H.inl, fits, hl, h2, this]
end Go.C21
end

