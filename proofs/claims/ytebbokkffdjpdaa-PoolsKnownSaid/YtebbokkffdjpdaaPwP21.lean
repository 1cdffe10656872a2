/- Part of the theory that the claims of this work use: PwP21. No conditions of its own. -/
import Derived.Test.YtebbokkffdjpdaaPwSimp
set_option maxRecDepth 100000
namespace P21
open Go Go.Pav Go.Pw

/- gosem.cut.init -/
def w0 : WFn := ⟨0, [],
 (.ops [
   ⟨(some 0), none, .fail⟩] ⟨false, [], []⟩)⟩

/- paternoster/paternosterlaw21.PoolsPlay -/
def w1_c0 : WCode := (.seq (.ops [
    ⟨(some 180), none, (.call 18 [])⟩,
    ⟨(some 2), none, (.mv (.t 180))⟩] ⟨false, [], []⟩)
  .ret)

def w1_B0 : WCode := (.seq (.seq (.ops [
     ⟨(some 40), none, (.mv (.t 6))⟩,
     ⟨(some 41), none, (.fld 1 (.t 1))⟩,
     ⟨(some 42), none, (.load 1 false (.t 41))⟩,
     ⟨(some 43), none, (.len 1 (.t 42))⟩,
     ⟨(some 44), none, (.bin .lss (.t 40) (.t 43))⟩,
     ⟨(some 45), none, (.mv (.t 44))⟩,
     ⟨(some 46), (some (45, true)), (.mv (.t 6))⟩,
     ⟨(some 47), (some (45, true)), (.bin .lss (.t 46) (.c (.int .i64 30)))⟩,
     ⟨(some 48), none, (.pick (.t 45) (.t 47) (.c (.bool false)))⟩] ⟨true, [48, 6, 5, 3, 1], []⟩)
   (.cond (.t 48) .skip
    (.exit 0)))
  (.seq (.block 1 (.seq (.ops [
      ⟨(some 51), none, (.fld 1 (.t 1))⟩,
      ⟨(some 52), none, (.load 1 false (.t 51))⟩,
      ⟨(some 53), none, (.mv (.t 6))⟩,
      ⟨(some 54), none, (.idxs 3 (.t 52) (.t 53))⟩,
      ⟨(some 55), none, (.load 3 true (.t 54))⟩,
      ⟨(some 7), none, (.alloc [(.int .u8 0), (.int .u8 0), (.int .u8 0)])⟩,
      ⟨none, none, (.store 3 (.t 7) (.t 55))⟩] ⟨false, [], []⟩)
    (.seq (.ops [
      ⟨(some 56), none, (.fld 1 (.t 7))⟩,
      ⟨(some 57), none, (.load 1 false (.t 56))⟩,
      ⟨(some 58), none, (.cvt .i64 (.t 57))⟩,
      ⟨(some 59), none, (.fld 0 (.t 5))⟩,
      ⟨(some 60), none, (.load 1 false (.t 59))⟩,
      ⟨(some 61), none, (.len 1 (.t 60))⟩,
      ⟨(some 62), none, (.bin .rem (.t 58) (.t 61))⟩,
      ⟨(some 8), none, (.mv (.t 62))⟩] ⟨false, [], []⟩)
    (.seq (.draw [
      ⟨(some 63), none, (.load 2 true (.t 3))⟩,
      ⟨(some 64), none, (.load 2 true (.t 5))⟩,
      ⟨(some 9), none, (.alloc [(.ro 1 [] true), (.ro 1 [] true)])⟩,
      ⟨(some 10), none, (.alloc [(.ro 1 [] true), (.ro 1 [] true)])⟩,
      ⟨none, none, (.store 2 (.t 9) (.t 63))⟩,
      ⟨none, none, (.store 2 (.t 10) (.t 64))⟩] [(0, 2), (1, 2), (0, 3), (1, 3), (2, 3), (1, 4)] ⟨false, [], []⟩)
    (.seq (.ops [
      ⟨(some 11), none, (.mv (.c (.int .i64 0)))⟩] ⟨false, [], []⟩)
    (.seq (.ops [
      ⟨(some 12), none, (.mv (.c (.bool false)))⟩] ⟨false, [], []⟩)
    (.seq (.ops [
      ⟨(some 66), none, (.load 2 true (.t 5))⟩,
      ⟨(some 67), none, (.load 3 true (.t 7))⟩,
      ⟨(some 68), none, (.call 9 [(.t 66), (.t 67)])⟩,
      ⟨(some 65), none, (.mv (.t 68))⟩,
      ⟨(some 69), none, (.ext 0 (.t 65))⟩,
      ⟨(some 70), none, (.ext 1 (.t 65))⟩,
      ⟨(some 71), none, (.ext 2 (.t 65))⟩,
      ⟨(some 13), none, (.alloc [(.ro 1 [] true), (.ro 1 [] true)])⟩,
      ⟨none, none, (.store 2 (.t 13) (.t 69))⟩,
      ⟨(some 14), none, (.mv (.t 70))⟩,
      ⟨(some 15), none, (.mv (.t 71))⟩] ⟨true, [15, 14, 13, 12, 11, 10, 9, 8, 7, 6, 5, 3, 1], []⟩)
    (.seq (.ops [
      ⟨(some 72), none, (.load 2 true (.t 13))⟩,
      ⟨none, none, (.store 2 (.t 5) (.t 72))⟩] ⟨false, [], []⟩)
    (.seq (.block 2 (.seq (.ops [
        ⟨(some 97), none, (.fld 0 (.t 7))⟩,
        ⟨(some 98), none, (.load 1 false (.t 97))⟩,
        ⟨(some 99), none, (.bin .rem (.t 98) (.c (.int .u8 8)))⟩,
        ⟨(some 100), none, (.bin .lss (.t 99) (.c (.int .u8 4)))⟩,
        ⟨(some 96), none, (.mv (.t 100))⟩] ⟨false, [], []⟩)
      (.cond (.t 96) (.ops [
         ⟨(some 102), none, (.load 2 true (.t 3))⟩,
         ⟨(some 103), none, (.mv (.t 8))⟩,
         ⟨(some 104), none, (.fld 2 (.t 7))⟩,
         ⟨(some 105), none, (.load 1 false (.t 104))⟩,
         ⟨(some 106), none, (.cvt .i64 (.t 105))⟩,
         ⟨(some 107), none, (.call 10 [(.t 102), (.t 103), (.t 106)])⟩,
         ⟨(some 101), none, (.mv (.t 107))⟩,
         ⟨(some 108), none, (.ext 0 (.t 101))⟩,
         ⟨(some 109), none, (.ext 1 (.t 101))⟩,
         ⟨(some 110), none, (.ext 2 (.t 101))⟩,
         ⟨none, none, (.store 2 (.t 3) (.t 108))⟩,
         ⟨(some 12), none, (.mv (.t 109))⟩,
         ⟨(some 4), none, (.mv (.t 110))⟩] ⟨false, [], []⟩)
       (.seq (.ops [
          ⟨(some 112), none, (.fld 0 (.t 7))⟩,
          ⟨(some 113), none, (.load 1 false (.t 112))⟩,
          ⟨(some 114), none, (.bin .rem (.t 113) (.c (.int .u8 8)))⟩,
          ⟨(some 115), none, (.bin .lss (.t 114) (.c (.int .u8 7)))⟩,
          ⟨(some 111), none, (.mv (.t 115))⟩] ⟨false, [], []⟩)
        (.cond (.t 111) (.ops [
           ⟨(some 117), none, (.load 2 true (.t 3))⟩,
           ⟨(some 118), none, (.mv (.t 8))⟩,
           ⟨(some 119), none, (.call 11 [(.t 117), (.t 118)])⟩,
           ⟨(some 116), none, (.mv (.t 119))⟩,
           ⟨(some 120), none, (.ext 0 (.t 116))⟩,
           ⟨(some 121), none, (.ext 1 (.t 116))⟩,
           ⟨(some 122), none, (.ext 2 (.t 116))⟩,
           ⟨(some 123), none, (.ext 3 (.t 116))⟩,
           ⟨none, none, (.store 2 (.t 3) (.t 120))⟩,
           ⟨(some 11), none, (.mv (.t 121))⟩,
           ⟨(some 12), none, (.mv (.t 122))⟩,
           ⟨(some 4), none, (.mv (.t 123))⟩] ⟨true, [15, 14, 12, 11, 10, 9, 8, 6, 5, 4, 3, 1], []⟩)
         (.seq (.ops [
            ⟨(some 16), none, (.mv (.c (.ro 1 [] true)))⟩] ⟨false, [], []⟩)
          (.seq (.ops [
            ⟨(some 74), none, (.load 2 true (.t 3))⟩,
            ⟨(some 75), none, (.fld 2 (.t 7))⟩,
            ⟨(some 76), none, (.load 1 false (.t 75))⟩,
            ⟨(some 77), none, (.bin .rem (.t 76) (.c (.int .u8 4)))⟩,
            ⟨(some 78), none, (.cvt .i64 (.t 77))⟩,
            ⟨(some 79), none, (.call 12 [(.t 74), (.t 78)])⟩,
            ⟨(some 73), none, (.mv (.t 79))⟩,
            ⟨(some 80), none, (.ext 0 (.t 73))⟩,
            ⟨(some 81), none, (.ext 1 (.t 73))⟩,
            ⟨(some 82), none, (.ext 2 (.t 73))⟩,
            ⟨none, none, (.store 2 (.t 3) (.t 80))⟩,
            ⟨(some 16), none, (.mv (.t 81))⟩,
            ⟨(some 4), none, (.mv (.t 82))⟩] ⟨true, [16, 15, 14, 12, 11, 10, 9, 8, 7, 6, 5, 4, 3, 1], []⟩)
          (.seq (.ops [
            ⟨(some 84), none, (.load 2 true (.t 10))⟩,
            ⟨(some 85), none, (.fld 2 (.t 7))⟩,
            ⟨(some 86), none, (.load 1 false (.t 85))⟩,
            ⟨(some 87), none, (.bin .rem (.t 86) (.c (.int .u8 4)))⟩,
            ⟨(some 88), none, (.cvt .i64 (.t 87))⟩,
            ⟨(some 89), none, (.call 13 [(.t 84), (.t 88)])⟩,
            ⟨(some 83), none, (.mv (.t 89))⟩,
            ⟨(some 90), none, (.ext 0 (.t 83))⟩,
            ⟨(some 91), none, (.ext 1 (.t 83))⟩,
            ⟨(some 17), none, (.alloc [(.ro 1 [] true), (.ro 1 [] true)])⟩,
            ⟨none, none, (.store 2 (.t 17) (.t 90))⟩,
            ⟨(some 18), none, (.mv (.t 91))⟩] ⟨false, [], []⟩)
          (.seq (.ops [
            ⟨(some 92), none, (.mv (.t 16))⟩,
            ⟨(some 93), none, (.mv (.t 18))⟩,
            ⟨(some 94), none, (.call 14 [(.t 92), (.t 93)])⟩,
            ⟨(some 95), none, (.bin .eql (.t 94) (.c (.int .i64 0)))⟩] ⟨false, [], []⟩)
          (.cond (.t 95) (.seq (.ops [
              ⟨(some 2), none, (.mv (.c (.bool false)))⟩] ⟨false, [], []⟩)
            .ret)
           .skip))))))))) ⟨false, [], []⟩)
    (.seq (.seq (.ops [
       ⟨(some 124), none, (.mv (.t 4))⟩,
       ⟨(some 125), none, (.bin .neq (.t 124) (.c (.int .i64 0)))⟩,
       ⟨(some 126), none, (.mv (.t 125))⟩,
       ⟨(some 127), (some (126, false)), (.mv (.t 11))⟩,
       ⟨(some 128), (some (126, false)), (.mv (.t 14))⟩,
       ⟨(some 129), (some (126, false)), (.bin .neq (.t 127) (.t 128))⟩,
       ⟨(some 130), none, (.pick (.t 126) (.c (.bool true)) (.t 129))⟩,
       ⟨(some 131), none, (.mv (.t 130))⟩,
       ⟨(some 132), (some (131, false)), (.mv (.t 12))⟩,
       ⟨(some 133), (some (131, false)), (.mv (.t 15))⟩,
       ⟨(some 134), (some (131, false)), (.eqv 5 [] true (.t 132) (.t 133))⟩,
       ⟨(some 135), none, (.pick (.t 131) (.c (.bool true)) (.t 134))⟩,
       ⟨(some 136), none, (.mv (.t 135))⟩,
       ⟨(some 137), (some (136, false)), (.load 2 true (.t 3))⟩,
       ⟨(some 138), (some (136, false)), (.load 2 true (.t 5))⟩,
       ⟨(some 139), (some (136, false)), (.call 8 [(.t 137), (.t 138)])⟩,
       ⟨(some 140), (some (136, false)), (.bin .eql (.t 139) (.c (.int .i64 0)))⟩,
       ⟨(some 141), none, (.pick (.t 136) (.c (.bool true)) (.t 140))⟩,
       ⟨(some 142), none, (.mv (.t 141))⟩,
       ⟨(some 143), (some (142, false)), (.load 2 true (.t 9))⟩,
       ⟨(some 144), (some (142, false)), (.load 2 true (.t 10))⟩,
       ⟨(some 145), (some (142, false)), (.call 8 [(.t 143), (.t 144)])⟩,
       ⟨(some 146), (some (142, false)), (.bin .eql (.t 145) (.c (.int .i64 0)))⟩,
       ⟨(some 147), none, (.pick (.t 142) (.c (.bool true)) (.t 146))⟩] ⟨true, [147, 8, 6, 5, 3, 1], []⟩)
     (.cond (.t 147) (.seq (.ops [
         ⟨(some 2), none, (.mv (.c (.bool false)))⟩] ⟨false, [], []⟩)
       .ret)
      .skip))
    (.seq (.ops [
      ⟨(some 149), none, (.load 2 true (.t 3))⟩,
      ⟨(some 150), none, (.mv (.t 8))⟩,
      ⟨(some 151), none, (.call 15 [(.t 149), (.t 150)])⟩,
      ⟨(some 148), none, (.mv (.t 151))⟩,
      ⟨(some 152), none, (.ext 0 (.t 148))⟩,
      ⟨(some 153), none, (.ext 1 (.t 148))⟩,
      ⟨(some 19), none, (.mv (.t 152))⟩,
      ⟨(some 20), none, (.mv (.t 153))⟩] ⟨false, [], []⟩)
    (.seq (.ops [
      ⟨(some 155), none, (.load 2 true (.t 3))⟩,
      ⟨(some 156), none, (.call 16 [(.t 155)])⟩,
      ⟨(some 154), none, (.mv (.t 156))⟩,
      ⟨(some 157), none, (.ext 0 (.t 154))⟩,
      ⟨(some 158), none, (.ext 1 (.t 154))⟩,
      ⟨(some 21), none, (.mv (.t 157))⟩,
      ⟨(some 22), none, (.mv (.t 158))⟩] ⟨false, [], []⟩)
    (.seq (.ops [
      ⟨(some 159), none, (.mv (.t 20))⟩,
      ⟨(some 160), none, (.mv (.t 22))⟩,
      ⟨(some 161), none, (.bin .add (.t 159) (.t 160))⟩,
      ⟨(some 162), none, (.bin .neq (.t 161) (.c (.int .i64 0)))⟩,
      ⟨(some 163), none, (.mv (.t 162))⟩,
      ⟨(some 164), (some (163, false)), (.mv (.t 19))⟩,
      ⟨(some 165), (some (163, false)), (.fld 1 (.t 5))⟩,
      ⟨(some 166), (some (163, false)), (.load 1 false (.t 165))⟩,
      ⟨(some 167), (some (163, false)), (.mv (.t 8))⟩,
      ⟨(some 168), (some (163, false)), (.idxs 1 (.t 166) (.t 167))⟩,
      ⟨(some 169), (some (163, false)), (.load 1 false (.t 168))⟩,
      ⟨(some 170), (some (163, false)), (.len 1 (.t 169))⟩,
      ⟨(some 171), (some (163, false)), (.bin .neq (.t 164) (.t 170))⟩,
      ⟨(some 172), none, (.pick (.t 163) (.c (.bool true)) (.t 171))⟩,
      ⟨(some 173), none, (.mv (.t 172))⟩,
      ⟨(some 174), (some (173, false)), (.mv (.t 21))⟩,
      ⟨(some 175), (some (173, false)), (.load 2 true (.t 5))⟩,
      ⟨(some 176), (some (173, false)), (.call 17 [(.t 175)])⟩,
      ⟨(some 177), (some (173, false)), (.call 14 [(.t 174), (.t 176)])⟩,
      ⟨(some 178), (some (173, false)), (.bin .eql (.t 177) (.c (.int .i64 0)))⟩,
      ⟨(some 179), none, (.pick (.t 173) (.c (.bool true)) (.t 178))⟩] ⟨true, [179, 6, 5, 3, 1], []⟩)
    (.cond (.t 179) (.seq (.ops [
        ⟨(some 2), none, (.mv (.c (.bool false)))⟩] ⟨false, [], []⟩)
      .ret)
     .skip))))))))))))) ⟨false, [], []⟩)
  (.ops [
   ⟨(some 49), none, (.mv (.t 6))⟩,
   ⟨(some 50), none, (.bin .add (.t 49) (.c (.int .i64 1)))⟩,
   ⟨(some 6), none, (.mv (.t 50))⟩] ⟨false, [], []⟩)))
def w1_L0 : WCode := .loop ⟨true, [6, 5, 3, 1], []⟩ w1_B0
def w1 : WFn := ⟨1, [.tmp 2],
 (.seq (.ops [
    ⟨(some 1), none, (.box (.t 0))⟩,
    ⟨(some 2), none, (.mv (.c (.bool false)))⟩] ⟨false, [], []⟩)
  (.seq (.ops [
    ⟨(some 24), none, (.load 2 true (.t 1))⟩,
    ⟨(some 25), none, (.call 6 [(.t 24)])⟩,
    ⟨(some 26), none, (.call 5 [(.t 25)])⟩,
    ⟨(some 23), none, (.mv (.t 26))⟩,
    ⟨(some 27), none, (.ext 0 (.t 23))⟩,
    ⟨(some 28), none, (.ext 1 (.t 23))⟩,
    ⟨(some 3), none, (.alloc [(.ro 1 [] true), (.ro 1 [] true)])⟩,
    ⟨none, none, (.store 2 (.t 3) (.t 27))⟩,
    ⟨(some 4), none, (.mv (.t 28))⟩] ⟨true, [4, 3, 1], []⟩)
  (.seq (.ops [
    ⟨(some 29), none, (.load 2 true (.t 1))⟩,
    ⟨(some 30), none, (.call 6 [(.t 29)])⟩,
    ⟨(some 31), none, (.call 7 [(.t 30)])⟩,
    ⟨(some 5), none, (.alloc [(.ro 1 [] true), (.ro 1 [] true)])⟩,
    ⟨none, none, (.store 2 (.t 5) (.t 31))⟩] ⟨false, [], []⟩)
  (.seq (.seq (.ops [
     ⟨(some 32), none, (.mv (.t 4))⟩,
     ⟨(some 33), none, (.bin .neq (.t 32) (.c (.int .i64 0)))⟩,
     ⟨(some 34), none, (.mv (.t 33))⟩,
     ⟨(some 35), (some (34, false)), (.load 2 true (.t 3))⟩,
     ⟨(some 36), (some (34, false)), (.load 2 true (.t 5))⟩,
     ⟨(some 37), (some (34, false)), (.call 8 [(.t 35), (.t 36)])⟩,
     ⟨(some 38), (some (34, false)), (.bin .eql (.t 37) (.c (.int .i64 0)))⟩,
     ⟨(some 39), none, (.pick (.t 34) (.c (.bool true)) (.t 38))⟩] ⟨false, [], []⟩)
   (.cond (.t 39) (.seq (.ops [
       ⟨(some 2), none, (.mv (.c (.bool false)))⟩] ⟨false, [], []⟩)
     .ret)
    .skip))
  (.seq (.seq (.ops [
     ⟨(some 6), none, (.mv (.c (.int .i64 0)))⟩] ⟨false, [], []⟩)
   (.block 0 w1_L0 ⟨true, [], []⟩))
  w1_c0)))))⟩

@[simp] theorem w1_E0 {β : Type} {C : WProg} {b : Nat} {f : Ex × WSt → Option β} {k : List Pw.Frame} {s : WSt} : CK C b f k w1_L0 s = LK C b f (.sq w1_L0 :: k) w1_B0 (canon b ⟨true, [6, 5, 3, 1], []⟩ s) := ck_lp rfl
noncomputable abbrev w1_K0 (C : WProg) (s : WSt) : Option AV := CK C 0 (pureFin [.tmp 2]) [.sq w1_L0, .bk 0 ⟨true, [], []⟩, .sq w1_c0] w1_B0 s

/- paternoster/paternosterlaw21.PoolsEach -/
def w2_c0 : WCode := (.seq (.ops [
    ⟨(some 158), none, (.call 18 [])⟩,
    ⟨(some 2), none, (.mv (.t 158))⟩] ⟨false, [], []⟩)
  .ret)

def w2_B0 : WCode := (.seq (.seq (.ops [
     ⟨(some 124), none, (.mv (.t 15))⟩,
     ⟨(some 125), none, (.mv (.t 5))⟩,
     ⟨(some 126), none, (.len 1 (.t 125))⟩,
     ⟨(some 127), none, (.bin .lss (.t 124) (.t 126))⟩] ⟨false, [], []⟩)
   (.cond (.t 127) .skip
    (.exit 3)))
  (.seq (.block 4 (.seq (.seq (.ops [
       ⟨(some 130), none, (.mv (.t 5))⟩,
       ⟨(some 131), none, (.mv (.t 15))⟩,
       ⟨(some 132), none, (.idxs 1 (.t 130) (.t 131))⟩,
       ⟨(some 133), none, (.load 1 false (.t 132))⟩,
       ⟨(some 134), none, (.bin .lss (.t 133) (.c (.int .i64 0)))⟩,
       ⟨(some 135), none, (.mv (.t 134))⟩,
       ⟨(some 136), (some (135, false)), (.mv (.t 5))⟩,
       ⟨(some 137), (some (135, false)), (.mv (.t 15))⟩,
       ⟨(some 138), (some (135, false)), (.idxs 1 (.t 136) (.t 137))⟩,
       ⟨(some 139), (some (135, false)), (.load 1 false (.t 138))⟩,
       ⟨(some 140), (some (135, false)), (.mv (.t 6))⟩,
       ⟨(some 141), (some (135, false)), (.bin .geq (.t 139) (.t 140))⟩,
       ⟨(some 142), none, (.pick (.t 135) (.c (.bool true)) (.t 141))⟩,
       ⟨(some 143), none, (.mv (.t 142))⟩,
       ⟨(some 144), (some (143, false)), (.mv (.t 14))⟩,
       ⟨(some 145), (some (143, false)), (.mv (.t 5))⟩,
       ⟨(some 146), (some (143, false)), (.mv (.t 15))⟩,
       ⟨(some 147), (some (143, false)), (.idxs 1 (.t 145) (.t 146))⟩,
       ⟨(some 148), (some (143, false)), (.load 1 false (.t 147))⟩,
       ⟨(some 149), (some (143, false)), (.idxs 1 (.t 144) (.t 148))⟩,
       ⟨(some 150), (some (143, false)), (.load 1 false (.t 149))⟩,
       ⟨(some 151), none, (.pick (.t 143) (.c (.bool true)) (.t 150))⟩] ⟨true, [151, 15, 14, 6, 5], []⟩)
     (.cond (.t 151) (.seq (.ops [
         ⟨(some 2), none, (.mv (.c (.bool false)))⟩] ⟨false, [], []⟩)
       .ret)
      .skip))
    (.ops [
     ⟨(some 152), none, (.mv (.t 14))⟩,
     ⟨(some 153), none, (.mv (.t 5))⟩,
     ⟨(some 154), none, (.mv (.t 15))⟩,
     ⟨(some 155), none, (.idxs 1 (.t 153) (.t 154))⟩,
     ⟨(some 156), none, (.load 1 false (.t 155))⟩,
     ⟨(some 157), none, (.idxs 1 (.t 152) (.t 156))⟩,
     ⟨none, none, (.store 1 (.t 157) (.c (.bool true)))⟩] ⟨false, [], []⟩)) ⟨false, [], []⟩)
  (.ops [
   ⟨(some 128), none, (.mv (.t 15))⟩,
   ⟨(some 129), none, (.bin .add (.t 128) (.c (.int .i64 1)))⟩,
   ⟨(some 15), none, (.mv (.t 129))⟩] ⟨false, [], []⟩)))
def w2_L0 : WCode := .loop ⟨true, [15, 14, 6, 5], []⟩ w2_B0
def w2_c1 : WCode := (.seq (.ops [
    ⟨(some 107), none, (.load 2 true (.t 3))⟩,
    ⟨(some 108), none, (.call 16 [(.t 107)])⟩,
    ⟨(some 106), none, (.mv (.t 108))⟩,
    ⟨(some 109), none, (.ext 0 (.t 106))⟩,
    ⟨(some 110), none, (.ext 1 (.t 106))⟩,
    ⟨(some 13), none, (.mv (.t 109))⟩,
    ⟨(some 4), none, (.mv (.t 110))⟩] ⟨true, [13, 6, 5, 4], []⟩)
  (.seq (.ops [
    ⟨(some 111), none, (.mv (.t 5))⟩,
    ⟨(some 112), none, (.mv (.t 13))⟩,
    ⟨(some 113), none, (.app [(.int .i64 0)] 8 false (.t 111) (.t 112))⟩,
    ⟨(some 5), none, (.mv (.t 113))⟩] ⟨false, [], []⟩)
  (.seq (.seq (.ops [
     ⟨(some 114), none, (.mv (.t 4))⟩,
     ⟨(some 115), none, (.bin .neq (.t 114) (.c (.int .i64 0)))⟩,
     ⟨(some 116), none, (.mv (.t 115))⟩,
     ⟨(some 117), (some (116, false)), (.mv (.t 5))⟩,
     ⟨(some 118), (some (116, false)), (.len 1 (.t 117))⟩,
     ⟨(some 119), (some (116, false)), (.mv (.t 6))⟩,
     ⟨(some 120), (some (116, false)), (.bin .neq (.t 118) (.t 119))⟩,
     ⟨(some 121), none, (.pick (.t 116) (.c (.bool true)) (.t 120))⟩] ⟨false, [], []⟩)
   (.cond (.t 121) (.seq (.ops [
       ⟨(some 2), none, (.mv (.c (.bool false)))⟩] ⟨false, [], []⟩)
     .ret)
    .skip))
  (.seq (.ops [
    ⟨(some 122), none, (.mv (.t 6))⟩,
    ⟨(some 123), none, (.mksl [(.bool false)] 1 (.t 122) (.t 122))⟩,
    ⟨(some 14), none, (.mv (.t 123))⟩] ⟨false, [], []⟩)
  (.seq (.seq (.ops [
     ⟨(some 15), none, (.mv (.c (.int .i64 0)))⟩] ⟨false, [], []⟩)
   (.block 3 w2_L0 ⟨true, [], []⟩))
  w2_c0)))))

def w2_B1 : WCode := (.seq (.seq (.ops [
     ⟨(some 30), none, (.mv (.t 7))⟩,
     ⟨(some 31), none, (.fld 1 (.t 1))⟩,
     ⟨(some 32), none, (.load 1 false (.t 31))⟩,
     ⟨(some 33), none, (.len 1 (.t 32))⟩,
     ⟨(some 34), none, (.bin .lss (.t 30) (.t 33))⟩,
     ⟨(some 35), none, (.mv (.t 34))⟩,
     ⟨(some 36), (some (35, true)), (.mv (.t 7))⟩,
     ⟨(some 37), (some (35, true)), (.bin .lss (.t 36) (.c (.int .i64 40)))⟩,
     ⟨(some 38), none, (.pick (.t 35) (.t 37) (.c (.bool false)))⟩] ⟨false, [], []⟩)
   (.cond (.t 38) .skip
    (.exit 0)))
  (.seq (.block 1 (.seq (.ops [
      ⟨(some 41), none, (.fld 1 (.t 1))⟩,
      ⟨(some 42), none, (.load 1 false (.t 41))⟩,
      ⟨(some 43), none, (.mv (.t 7))⟩,
      ⟨(some 44), none, (.idxs 3 (.t 42) (.t 43))⟩,
      ⟨(some 45), none, (.load 3 true (.t 44))⟩,
      ⟨(some 8), none, (.alloc [(.int .u8 0), (.int .u8 0), (.int .u8 0)])⟩,
      ⟨none, none, (.store 3 (.t 8) (.t 45))⟩] ⟨true, [8, 7, 6, 5, 3, 1], []⟩)
    (.seq (.draw [
      ⟨(some 46), none, (.fld 1 (.t 8))⟩,
      ⟨(some 47), none, (.load 1 false (.t 46))⟩,
      ⟨(some 48), none, (.cvt .i64 (.t 47))⟩,
      ⟨(some 49), none, (.load 2 true (.t 1))⟩,
      ⟨(some 50), none, (.call 6 [(.t 49)])⟩,
      ⟨(some 51), none, (.len 1 (.t 50))⟩,
      ⟨(some 52), none, (.bin .rem (.t 48) (.t 51))⟩,
      ⟨(some 9), none, (.mv (.t 52))⟩] [(1, 4)] ⟨false, [], []⟩)
    (.seq (.ops [
      ⟨(some 10), none, (.mv (.c (.bool false)))⟩] ⟨false, [], []⟩)
    (.seq (.block 2 (.seq (.ops [
        ⟨(some 67), none, (.fld 0 (.t 8))⟩,
        ⟨(some 68), none, (.load 1 false (.t 67))⟩,
        ⟨(some 69), none, (.bin .rem (.t 68) (.c (.int .u8 8)))⟩,
        ⟨(some 70), none, (.bin .lss (.t 69) (.c (.int .u8 4)))⟩,
        ⟨(some 66), none, (.mv (.t 70))⟩] ⟨false, [], []⟩)
      (.cond (.t 66) (.seq (.ops [
          ⟨(some 72), none, (.load 2 true (.t 3))⟩,
          ⟨(some 73), none, (.mv (.t 9))⟩,
          ⟨(some 74), none, (.mv (.t 6))⟩,
          ⟨(some 75), none, (.call 10 [(.t 72), (.t 73), (.t 74)])⟩,
          ⟨(some 71), none, (.mv (.t 75))⟩,
          ⟨(some 76), none, (.ext 0 (.t 71))⟩,
          ⟨(some 77), none, (.ext 1 (.t 71))⟩,
          ⟨(some 78), none, (.ext 2 (.t 71))⟩,
          ⟨none, none, (.store 2 (.t 3) (.t 76))⟩,
          ⟨(some 10), none, (.mv (.t 77))⟩,
          ⟨(some 4), none, (.mv (.t 78))⟩] ⟨true, [10, 7, 6, 5, 4, 3, 1], []⟩)
        (.seq (.seq (.ops [
           ⟨(some 79), none, (.mv (.t 10))⟩] ⟨false, [], []⟩)
         (.cond (.t 79) (.ops [
            ⟨(some 80), none, (.mv (.t 5))⟩,
            ⟨(some 81), none, (.mv (.t 6))⟩,
            ⟨(some 82), none, (.buildS [(.int .i64 0)] 1 [(0, (.t 81))])⟩,
            ⟨(some 83), none, (.app [(.int .i64 0)] 8 false (.t 80) (.t 82))⟩,
            ⟨(some 5), none, (.mv (.t 83))⟩] ⟨false, [], []⟩)
          .skip))
        (.ops [
         ⟨(some 84), none, (.mv (.t 6))⟩,
         ⟨(some 85), none, (.bin .add (.t 84) (.c (.int .i64 1)))⟩,
         ⟨(some 6), none, (.mv (.t 85))⟩] ⟨false, [], []⟩)))
       (.seq (.ops [
          ⟨(some 87), none, (.fld 0 (.t 8))⟩,
          ⟨(some 88), none, (.load 1 false (.t 87))⟩,
          ⟨(some 89), none, (.bin .rem (.t 88) (.c (.int .u8 8)))⟩,
          ⟨(some 90), none, (.bin .lss (.t 89) (.c (.int .u8 7)))⟩,
          ⟨(some 86), none, (.mv (.t 90))⟩] ⟨false, [], []⟩)
        (.cond (.t 86) (.seq (.ops [
            ⟨(some 11), none, (.mv (.c (.int .i64 0)))⟩] ⟨false, [], []⟩)
          (.seq (.ops [
            ⟨(some 92), none, (.load 2 true (.t 3))⟩,
            ⟨(some 93), none, (.mv (.t 9))⟩,
            ⟨(some 94), none, (.call 11 [(.t 92), (.t 93)])⟩,
            ⟨(some 91), none, (.mv (.t 94))⟩,
            ⟨(some 95), none, (.ext 0 (.t 91))⟩,
            ⟨(some 96), none, (.ext 1 (.t 91))⟩,
            ⟨(some 97), none, (.ext 2 (.t 91))⟩,
            ⟨(some 98), none, (.ext 3 (.t 91))⟩,
            ⟨none, none, (.store 2 (.t 3) (.t 95))⟩,
            ⟨(some 11), none, (.mv (.t 96))⟩,
            ⟨(some 10), none, (.mv (.t 97))⟩,
            ⟨(some 4), none, (.mv (.t 98))⟩] ⟨false, [], []⟩)
          (.seq (.ops [
            ⟨(some 99), none, (.mv (.t 10))⟩] ⟨false, [], []⟩)
          (.cond (.t 99) (.ops [
             ⟨(some 100), none, (.mv (.t 5))⟩,
             ⟨(some 101), none, (.mv (.t 11))⟩,
             ⟨(some 102), none, (.buildS [(.int .i64 0)] 1 [(0, (.t 101))])⟩,
             ⟨(some 103), none, (.app [(.int .i64 0)] 8 false (.t 100) (.t 102))⟩,
             ⟨(some 5), none, (.mv (.t 103))⟩] ⟨false, [], []⟩)
           .skip))))
         (.seq (.ops [
            ⟨(some 12), none, (.mv (.c (.ro 1 [] true)))⟩] ⟨false, [], []⟩)
          (.seq (.ops [
            ⟨(some 54), none, (.load 2 true (.t 3))⟩,
            ⟨(some 55), none, (.fld 2 (.t 8))⟩,
            ⟨(some 56), none, (.load 1 false (.t 55))⟩,
            ⟨(some 57), none, (.bin .rem (.t 56) (.c (.int .u8 4)))⟩,
            ⟨(some 58), none, (.cvt .i64 (.t 57))⟩,
            ⟨(some 59), none, (.call 12 [(.t 54), (.t 58)])⟩,
            ⟨(some 53), none, (.mv (.t 59))⟩,
            ⟨(some 60), none, (.ext 0 (.t 53))⟩,
            ⟨(some 61), none, (.ext 1 (.t 53))⟩,
            ⟨(some 62), none, (.ext 2 (.t 53))⟩,
            ⟨none, none, (.store 2 (.t 3) (.t 60))⟩,
            ⟨(some 12), none, (.mv (.t 61))⟩,
            ⟨(some 4), none, (.mv (.t 62))⟩] ⟨true, [12, 7, 6, 5, 4, 3, 1], []⟩)
          (.ops [
           ⟨(some 63), none, (.mv (.t 5))⟩,
           ⟨(some 64), none, (.mv (.t 12))⟩,
           ⟨(some 65), none, (.app [(.int .i64 0)] 8 false (.t 63) (.t 64))⟩,
           ⟨(some 5), none, (.mv (.t 65))⟩] ⟨false, [], []⟩))))))) ⟨false, [], []⟩)
    (.seq (.ops [
      ⟨(some 104), none, (.mv (.t 4))⟩,
      ⟨(some 105), none, (.bin .neq (.t 104) (.c (.int .i64 0)))⟩] ⟨false, [], []⟩)
    (.cond (.t 105) (.seq (.ops [
        ⟨(some 2), none, (.mv (.c (.bool false)))⟩] ⟨false, [], []⟩)
      .ret)
     .skip)))))) ⟨false, [], []⟩)
  (.ops [
   ⟨(some 39), none, (.mv (.t 7))⟩,
   ⟨(some 40), none, (.bin .add (.t 39) (.c (.int .i64 1)))⟩,
   ⟨(some 7), none, (.mv (.t 40))⟩] ⟨false, [], []⟩)))
def w2_L1 : WCode := .loop ⟨true, [7, 6, 5, 3, 1], []⟩ w2_B1
def w2 : WFn := ⟨1, [.tmp 2],
 (.seq (.ops [
    ⟨(some 1), none, (.box (.t 0))⟩,
    ⟨(some 2), none, (.mv (.c (.bool false)))⟩] ⟨false, [], []⟩)
  (.seq (.ops [
    ⟨(some 17), none, (.load 2 true (.t 1))⟩,
    ⟨(some 18), none, (.call 6 [(.t 17)])⟩,
    ⟨(some 19), none, (.call 5 [(.t 18)])⟩,
    ⟨(some 16), none, (.mv (.t 19))⟩,
    ⟨(some 20), none, (.ext 0 (.t 16))⟩,
    ⟨(some 21), none, (.ext 1 (.t 16))⟩,
    ⟨(some 3), none, (.alloc [(.ro 1 [] true), (.ro 1 [] true)])⟩,
    ⟨none, none, (.store 2 (.t 3) (.t 20))⟩,
    ⟨(some 4), none, (.mv (.t 21))⟩] ⟨true, [4, 3, 1], []⟩)
  (.seq (.seq (.ops [
     ⟨(some 22), none, (.mv (.t 4))⟩,
     ⟨(some 23), none, (.bin .neq (.t 22) (.c (.int .i64 0)))⟩,
     ⟨(some 24), none, (.mv (.t 23))⟩,
     ⟨(some 25), (some (24, false)), (.fld 0 (.t 3))⟩,
     ⟨(some 26), (some (24, false)), (.load 1 false (.t 25))⟩,
     ⟨(some 27), (some (24, false)), (.len 1 (.t 26))⟩,
     ⟨(some 28), (some (24, false)), (.bin .eql (.t 27) (.c (.int .i64 0)))⟩,
     ⟨(some 29), none, (.pick (.t 24) (.c (.bool true)) (.t 28))⟩] ⟨false, [], []⟩)
   (.cond (.t 29) (.seq (.ops [
       ⟨(some 2), none, (.mv (.c (.bool false)))⟩] ⟨false, [], []⟩)
     .ret)
    .skip))
  (.seq (.ops [
    ⟨(some 5), none, (.mv (.c (.ro 1 [] true)))⟩] ⟨true, [5, 3, 1], [(5, 1)]⟩)
  (.seq (.ops [
    ⟨(some 6), none, (.mv (.c (.int .i64 0)))⟩] ⟨false, [], []⟩)
  (.seq (.seq (.ops [
     ⟨(some 7), none, (.mv (.c (.int .i64 0)))⟩] ⟨false, [], []⟩)
   (.block 0 w2_L1 ⟨true, [6, 5, 3], []⟩))
  w2_c1))))))⟩

@[simp] theorem w2_E0 {β : Type} {C : WProg} {b : Nat} {f : Ex × WSt → Option β} {k : List Pw.Frame} {s : WSt} : CK C b f k w2_L0 s = LK C b f (.sq w2_L0 :: k) w2_B0 (canon b ⟨true, [15, 14, 6, 5], []⟩ s) := ck_lp rfl
noncomputable abbrev w2_K0 (C : WProg) (s : WSt) : Option AV := CK C 0 (pureFin [.tmp 2]) [.sq w2_L0, .bk 3 ⟨true, [], []⟩, .sq w2_c0] w2_B0 s

@[simp] theorem w2_E1 {β : Type} {C : WProg} {b : Nat} {f : Ex × WSt → Option β} {k : List Pw.Frame} {s : WSt} : CK C b f k w2_L1 s = LK C b f (.sq w2_L1 :: k) w2_B1 (canon b ⟨true, [7, 6, 5, 3, 1], []⟩ s) := ck_lp rfl
noncomputable abbrev w2_K1 (C : WProg) (s : WSt) : Option AV := CK C 0 (pureFin [.tmp 2]) [.sq w2_L1, .bk 0 ⟨true, [6, 5, 3], []⟩, .sq w2_c1] w2_B1 s

/- paternoster/paternosterlaw21.PoolsErrors -/
def w3_c0 : WCode := (.seq (.ops [
    ⟨(some 59), none, (.load 2 true (.t 7))⟩,
    ⟨(some 60), none, (.call 19 [(.t 59)])⟩,
    ⟨(some 9), none, (.mv (.t 60))⟩] ⟨false, [], []⟩)
  (.seq (.ops [
    ⟨(some 62), none, (.fld 0 (.t 3))⟩,
    ⟨(some 63), none, (.load 1 false (.t 62))⟩,
    ⟨(some 64), none, (.call 5 [(.t 63)])⟩,
    ⟨(some 61), none, (.mv (.t 64))⟩,
    ⟨(some 65), none, (.ext 0 (.t 61))⟩,
    ⟨(some 66), none, (.ext 1 (.t 61))⟩,
    ⟨(some 10), none, (.alloc [(.ro 1 [] true), (.ro 1 [] true)])⟩,
    ⟨none, none, (.store 2 (.t 10) (.t 65))⟩,
    ⟨(some 11), none, (.mv (.t 66))⟩] ⟨false, [], []⟩)
  (.seq (.draw [
    ⟨(some 67), none, (.fld 0 (.t 3))⟩,
    ⟨(some 68), none, (.load 1 false (.t 67))⟩,
    ⟨(some 69), none, (.fld 0 (.t 3))⟩,
    ⟨(some 70), none, (.load 1 false (.t 69))⟩,
    ⟨(some 71), none, (.len 1 (.t 70))⟩,
    ⟨(some 72), none, (.mksl [(.ro 1 [] true)] 24 (.t 71) (.t 71))⟩,
    ⟨(some 73), none, (.build [(.ro 1 [] true), (.ro 1 [] true)] [(0, 1, (.t 68)), (1, 1, (.t 72))])⟩,
    ⟨(some 12), none, (.alloc [(.ro 1 [] true), (.ro 1 [] true)])⟩,
    ⟨none, none, (.store 2 (.t 12) (.t 73))⟩] [(1, 5), (1, 7), (3, 7), (4, 7), (5, 7)] ⟨false, [], []⟩)
  (.seq (.seq (.ops [
     ⟨(some 74), none, (.load 2 true (.t 3))⟩,
     ⟨(some 75), none, (.call 20 [(.t 74)])⟩,
     ⟨(some 76), none, (.mv (.t 9))⟩,
     ⟨(some 77), none, (.bin .neq (.t 75) (.t 76))⟩,
     ⟨(some 78), none, (.mv (.t 77))⟩,
     ⟨(some 79), (some (78, false)), (.mv (.t 11))⟩,
     ⟨(some 80), (some (78, false)), (.load 2 true (.t 12))⟩,
     ⟨(some 81), (some (78, false)), (.call 19 [(.t 80)])⟩,
     ⟨(some 82), (some (78, false)), (.bin .neq (.t 79) (.t 81))⟩,
     ⟨(some 83), none, (.pick (.t 78) (.c (.bool true)) (.t 82))⟩,
     ⟨(some 84), none, (.mv (.t 83))⟩,
     ⟨(some 85), (some (84, false)), (.mv (.t 11))⟩,
     ⟨(some 86), (some (84, false)), (.bin .neq (.t 85) (.c (.int .i64 0)))⟩,
     ⟨(some 87), (some (84, false)), (.mv (.t 86))⟩,
     ⟨(some 88), (some (87, true)), (.fld 0 (.t 10))⟩,
     ⟨(some 89), (some (87, true)), (.load 1 false (.t 88))⟩,
     ⟨(some 90), (some (87, true)), (.len 1 (.t 89))⟩,
     ⟨(some 91), (some (87, true)), (.fld 1 (.t 10))⟩,
     ⟨(some 92), (some (87, true)), (.load 1 false (.t 91))⟩,
     ⟨(some 93), (some (87, true)), (.len 1 (.t 92))⟩,
     ⟨(some 94), (some (87, true)), (.bin .add (.t 90) (.t 93))⟩,
     ⟨(some 95), (some (87, true)), (.bin .gtr (.t 94) (.c (.int .i64 0)))⟩,
     ⟨(some 96), (some (84, false)), (.pick (.t 87) (.t 95) (.c (.bool false)))⟩,
     ⟨(some 97), none, (.pick (.t 84) (.c (.bool true)) (.t 96))⟩] ⟨true, [97, 9, 3, 2, 1], []⟩)
   (.cond (.t 97) (.seq (.ops [
       ⟨(some 6), none, (.mv (.c (.bool false)))⟩] ⟨false, [], []⟩)
     .ret)
    .skip))
  (.seq (.ops [
    ⟨(some 99), none, (.load 2 true (.t 3))⟩,
    ⟨(some 100), none, (.call 16 [(.t 99)])⟩,
    ⟨(some 98), none, (.mv (.t 100))⟩,
    ⟨(some 101), none, (.ext 0 (.t 98))⟩,
    ⟨(some 102), none, (.ext 1 (.t 98))⟩,
    ⟨(some 13), none, (.mv (.t 101))⟩,
    ⟨(some 14), none, (.mv (.t 102))⟩] ⟨true, [14, 13, 9, 3, 2, 1], []⟩)
  (.seq (.ops [
    ⟨(some 104), none, (.load 2 true (.t 3))⟩,
    ⟨(some 105), none, (.mv (.t 2))⟩,
    ⟨(some 106), none, (.call 12 [(.t 104), (.t 105)])⟩,
    ⟨(some 103), none, (.mv (.t 106))⟩,
    ⟨(some 107), none, (.ext 0 (.t 103))⟩,
    ⟨(some 108), none, (.ext 1 (.t 103))⟩,
    ⟨(some 109), none, (.ext 2 (.t 103))⟩,
    ⟨(some 15), none, (.alloc [(.ro 1 [] true), (.ro 1 [] true)])⟩,
    ⟨none, none, (.store 2 (.t 15) (.t 107))⟩,
    ⟨(some 16), none, (.mv (.t 108))⟩,
    ⟨(some 17), none, (.mv (.t 109))⟩] ⟨false, [], []⟩)
  (.seq (.ops [
    ⟨(some 110), none, (.mv (.t 9))⟩,
    ⟨(some 18), none, (.mv (.t 110))⟩] ⟨false, [], []⟩)
  (.seq (.seq (.ops [
     ⟨(some 111), none, (.mv (.t 18))⟩,
     ⟨(some 112), none, (.bin .eql (.t 111) (.c (.int .i64 0)))⟩,
     ⟨(some 113), none, (.mv (.t 112))⟩,
     ⟨(some 114), (some (113, true)), (.mv (.t 2))⟩,
     ⟨(some 115), (some (113, true)), (.bin .lss (.t 114) (.c (.int .i64 0)))⟩,
     ⟨(some 116), none, (.pick (.t 113) (.t 115) (.c (.bool false)))⟩] ⟨false, [], []⟩)
   (.cond (.t 116) (.ops [
      ⟨(some 18), none, (.mv (.c (.int .i64 4)))⟩] ⟨false, [], []⟩)
    .skip))
  (.seq (.seq (.ops [
     ⟨(some 117), none, (.mv (.t 14))⟩,
     ⟨(some 118), none, (.mv (.t 9))⟩,
     ⟨(some 119), none, (.bin .neq (.t 117) (.t 118))⟩,
     ⟨(some 120), none, (.mv (.t 119))⟩,
     ⟨(some 121), (some (120, false)), (.mv (.t 17))⟩,
     ⟨(some 122), (some (120, false)), (.mv (.t 18))⟩,
     ⟨(some 123), (some (120, false)), (.bin .neq (.t 121) (.t 122))⟩,
     ⟨(some 124), none, (.pick (.t 120) (.c (.bool true)) (.t 123))⟩,
     ⟨(some 125), none, (.mv (.t 124))⟩,
     ⟨(some 126), (some (125, false)), (.mv (.t 18))⟩,
     ⟨(some 127), (some (125, false)), (.bin .neq (.t 126) (.c (.int .i64 0)))⟩,
     ⟨(some 128), (some (125, false)), (.mv (.t 127))⟩,
     ⟨(some 129), (some (128, true)), (.fld 0 (.t 15))⟩,
     ⟨(some 130), (some (128, true)), (.load 1 false (.t 129))⟩,
     ⟨(some 131), (some (128, true)), (.len 1 (.t 130))⟩,
     ⟨(some 132), (some (128, true)), (.fld 1 (.t 15))⟩,
     ⟨(some 133), (some (128, true)), (.load 1 false (.t 132))⟩,
     ⟨(some 134), (some (128, true)), (.len 1 (.t 133))⟩,
     ⟨(some 135), (some (128, true)), (.bin .add (.t 131) (.t 134))⟩,
     ⟨(some 136), (some (128, true)), (.mv (.t 16))⟩,
     ⟨(some 137), (some (128, true)), (.len 1 (.t 136))⟩,
     ⟨(some 138), (some (128, true)), (.bin .add (.t 135) (.t 137))⟩,
     ⟨(some 139), (some (128, true)), (.bin .gtr (.t 138) (.c (.int .i64 0)))⟩,
     ⟨(some 140), (some (125, false)), (.pick (.t 128) (.t 139) (.c (.bool false)))⟩,
     ⟨(some 141), none, (.pick (.t 125) (.c (.bool true)) (.t 140))⟩,
     ⟨(some 142), none, (.mv (.t 141))⟩,
     ⟨(some 143), (some (142, false)), (.mv (.t 9))⟩,
     ⟨(some 144), (some (142, false)), (.bin .neq (.t 143) (.c (.int .i64 0)))⟩,
     ⟨(some 145), (some (142, false)), (.mv (.t 144))⟩,
     ⟨(some 146), (some (145, true)), (.mv (.t 13))⟩,
     ⟨(some 147), (some (145, true)), (.len 1 (.t 146))⟩,
     ⟨(some 148), (some (145, true)), (.bin .gtr (.t 147) (.c (.int .i64 0)))⟩,
     ⟨(some 149), (some (142, false)), (.pick (.t 145) (.t 148) (.c (.bool false)))⟩,
     ⟨(some 150), none, (.pick (.t 142) (.c (.bool true)) (.t 149))⟩] ⟨true, [150, 9, 3, 1], []⟩)
   (.cond (.t 150) (.seq (.ops [
       ⟨(some 6), none, (.mv (.c (.bool false)))⟩] ⟨false, [], []⟩)
     .ret)
    .skip))
  (.seq (.seq (.ops [
     ⟨(some 151), none, (.mv (.t 9))⟩,
     ⟨(some 152), none, (.bin .eql (.t 151) (.c (.int .i64 0)))⟩,
     ⟨(some 153), none, (.mv (.t 152))⟩,
     ⟨(some 154), (some (153, true)), (.mv (.t 1))⟩,
     ⟨(some 155), (some (153, true)), (.bin .lss (.t 154) (.c (.int .i64 0)))⟩,
     ⟨(some 156), (some (153, true)), (.mv (.t 155))⟩,
     ⟨(some 157), (some (156, false)), (.mv (.t 1))⟩,
     ⟨(some 158), (some (156, false)), (.fld 0 (.t 3))⟩,
     ⟨(some 159), (some (156, false)), (.load 1 false (.t 158))⟩,
     ⟨(some 160), (some (156, false)), (.len 1 (.t 159))⟩,
     ⟨(some 161), (some (156, false)), (.bin .geq (.t 157) (.t 160))⟩,
     ⟨(some 162), (some (153, true)), (.pick (.t 156) (.c (.bool true)) (.t 161))⟩,
     ⟨(some 163), none, (.pick (.t 153) (.t 162) (.c (.bool false)))⟩] ⟨true, [163, 9, 3, 1], []⟩)
   (.cond (.t 163) (.ops [
      ⟨(some 9), none, (.mv (.c (.int .i64 4)))⟩] ⟨false, [], []⟩)
    .skip))
  (.seq (.ops [
    ⟨(some 165), none, (.load 2 true (.t 3))⟩,
    ⟨(some 166), none, (.mv (.t 1))⟩,
    ⟨(some 167), none, (.call 10 [(.t 165), (.t 166), (.c (.int .i64 7))])⟩,
    ⟨(some 164), none, (.mv (.t 167))⟩,
    ⟨(some 168), none, (.ext 0 (.t 164))⟩,
    ⟨(some 169), none, (.ext 1 (.t 164))⟩,
    ⟨(some 170), none, (.ext 2 (.t 164))⟩,
    ⟨(some 19), none, (.alloc [(.ro 1 [] true), (.ro 1 [] true)])⟩,
    ⟨none, none, (.store 2 (.t 19) (.t 168))⟩,
    ⟨(some 20), none, (.mv (.t 169))⟩,
    ⟨(some 21), none, (.mv (.t 170))⟩] ⟨false, [], []⟩)
  (.seq (.ops [
    ⟨(some 172), none, (.load 2 true (.t 3))⟩,
    ⟨(some 173), none, (.mv (.t 1))⟩,
    ⟨(some 174), none, (.call 11 [(.t 172), (.t 173)])⟩,
    ⟨(some 171), none, (.mv (.t 174))⟩,
    ⟨(some 175), none, (.ext 0 (.t 171))⟩,
    ⟨(some 176), none, (.ext 1 (.t 171))⟩,
    ⟨(some 177), none, (.ext 2 (.t 171))⟩,
    ⟨(some 178), none, (.ext 3 (.t 171))⟩,
    ⟨(some 22), none, (.alloc [(.ro 1 [] true), (.ro 1 [] true)])⟩,
    ⟨none, none, (.store 2 (.t 22) (.t 175))⟩,
    ⟨(some 23), none, (.mv (.t 176))⟩,
    ⟨(some 24), none, (.mv (.t 177))⟩,
    ⟨(some 25), none, (.mv (.t 178))⟩] ⟨true, [25, 24, 23, 22, 21, 20, 19, 9, 3, 1], []⟩)
  (.seq (.ops [
    ⟨(some 180), none, (.load 2 true (.t 3))⟩,
    ⟨(some 181), none, (.mv (.t 1))⟩,
    ⟨(some 182), none, (.call 15 [(.t 180), (.t 181)])⟩,
    ⟨(some 179), none, (.mv (.t 182))⟩,
    ⟨(some 183), none, (.ext 0 (.t 179))⟩,
    ⟨(some 184), none, (.ext 1 (.t 179))⟩,
    ⟨(some 26), none, (.mv (.t 183))⟩,
    ⟨(some 27), none, (.mv (.t 184))⟩] ⟨false, [], []⟩)
  (.seq (.seq (.ops [
     ⟨(some 185), none, (.mv (.t 21))⟩,
     ⟨(some 186), none, (.mv (.t 9))⟩,
     ⟨(some 187), none, (.bin .neq (.t 185) (.t 186))⟩,
     ⟨(some 188), none, (.mv (.t 187))⟩,
     ⟨(some 189), (some (188, false)), (.mv (.t 25))⟩,
     ⟨(some 190), (some (188, false)), (.mv (.t 9))⟩,
     ⟨(some 191), (some (188, false)), (.bin .neq (.t 189) (.t 190))⟩,
     ⟨(some 192), none, (.pick (.t 188) (.c (.bool true)) (.t 191))⟩,
     ⟨(some 193), none, (.mv (.t 192))⟩,
     ⟨(some 194), (some (193, false)), (.mv (.t 27))⟩,
     ⟨(some 195), (some (193, false)), (.mv (.t 9))⟩,
     ⟨(some 196), (some (193, false)), (.bin .neq (.t 194) (.t 195))⟩,
     ⟨(some 197), none, (.pick (.t 193) (.c (.bool true)) (.t 196))⟩] ⟨false, [], []⟩)
   (.cond (.t 197) (.seq (.ops [
       ⟨(some 6), none, (.mv (.c (.bool false)))⟩] ⟨false, [], []⟩)
     .ret)
    .skip))
  (.seq (.ops [
    ⟨(some 198), none, (.mv (.t 9))⟩,
    ⟨(some 199), none, (.bin .eql (.t 198) (.c (.int .i64 0)))⟩,
    ⟨(some 200), none, (.mv (.t 199))⟩,
    ⟨(some 201), (some (200, false)), (.mv (.t 20))⟩,
    ⟨(some 202), (some (200, false)), (.un .not (.t 201))⟩,
    ⟨(some 203), (some (200, false)), (.mv (.t 202))⟩,
    ⟨(some 204), (some (203, true)), (.mv (.t 24))⟩,
    ⟨(some 205), (some (203, true)), (.un .not (.t 204))⟩,
    ⟨(some 206), (some (200, false)), (.pick (.t 203) (.t 205) (.c (.bool false)))⟩,
    ⟨(some 207), (some (200, false)), (.mv (.t 206))⟩,
    ⟨(some 208), (some (207, true)), (.mv (.t 23))⟩,
    ⟨(some 209), (some (207, true)), (.mv (.t 26))⟩,
    ⟨(some 210), (some (207, true)), (.bin .add (.t 208) (.t 209))⟩,
    ⟨(some 211), (some (207, true)), (.bin .eql (.t 210) (.c (.int .i64 0)))⟩,
    ⟨(some 212), (some (200, false)), (.pick (.t 207) (.t 211) (.c (.bool false)))⟩,
    ⟨(some 213), (some (200, false)), (.mv (.t 212))⟩,
    ⟨(some 214), (some (213, true)), (.fld 0 (.t 19))⟩,
    ⟨(some 215), (some (213, true)), (.load 1 false (.t 214))⟩,
    ⟨(some 216), (some (213, true)), (.len 1 (.t 215))⟩,
    ⟨(some 217), (some (213, true)), (.fld 1 (.t 19))⟩,
    ⟨(some 218), (some (213, true)), (.load 1 false (.t 217))⟩,
    ⟨(some 219), (some (213, true)), (.len 1 (.t 218))⟩,
    ⟨(some 220), (some (213, true)), (.bin .add (.t 216) (.t 219))⟩,
    ⟨(some 221), (some (213, true)), (.fld 0 (.t 22))⟩,
    ⟨(some 222), (some (213, true)), (.load 1 false (.t 221))⟩,
    ⟨(some 223), (some (213, true)), (.len 1 (.t 222))⟩,
    ⟨(some 224), (some (213, true)), (.bin .add (.t 220) (.t 223))⟩,
    ⟨(some 225), (some (213, true)), (.fld 1 (.t 22))⟩,
    ⟨(some 226), (some (213, true)), (.load 1 false (.t 225))⟩,
    ⟨(some 227), (some (213, true)), (.len 1 (.t 226))⟩,
    ⟨(some 228), (some (213, true)), (.bin .add (.t 224) (.t 227))⟩,
    ⟨(some 229), (some (213, true)), (.bin .eql (.t 228) (.c (.int .i64 0)))⟩,
    ⟨(some 230), (some (200, false)), (.pick (.t 213) (.t 229) (.c (.bool false)))⟩,
    ⟨(some 231), none, (.pick (.t 200) (.c (.bool true)) (.t 230))⟩,
    ⟨(some 232), none, (.mv (.t 231))⟩,
    ⟨(some 233), (some (232, true)), (.call 18 [])⟩,
    ⟨(some 234), none, (.pick (.t 232) (.t 233) (.c (.bool false)))⟩,
    ⟨(some 6), none, (.mv (.t 234))⟩] ⟨true, [6], []⟩)
  .ret)))))))))))))))

def w3_B0 : WCode := (.seq (.seq (.ops [
     ⟨(some 44), none, (.mv (.t 8))⟩,
     ⟨(some 45), none, (.fld 1 (.t 3))⟩,
     ⟨(some 46), none, (.load 1 false (.t 45))⟩,
     ⟨(some 47), none, (.len 1 (.t 46))⟩,
     ⟨(some 48), none, (.bin .lss (.t 44) (.t 47))⟩] ⟨false, [], []⟩)
   (.cond (.t 48) .skip
    (.exit 0)))
  (.seq (.block 1 (.seq (.ops [
      ⟨(some 51), none, (.fld 1 (.t 3))⟩,
      ⟨(some 52), none, (.load 1 false (.t 51))⟩,
      ⟨(some 53), none, (.mv (.t 8))⟩,
      ⟨(some 54), none, (.idxs 1 (.t 52) (.t 53))⟩,
      ⟨(some 55), none, (.load 1 false (.t 54))⟩,
      ⟨(some 56), none, (.len 1 (.t 55))⟩,
      ⟨(some 57), none, (.bin .gtr (.t 56) (.c (.int .i64 20)))⟩] ⟨false, [], []⟩)
    (.cond (.t 57) (.seq (.ops [
        ⟨(some 58), none, (.call 18 [])⟩,
        ⟨(some 6), none, (.mv (.t 58))⟩] ⟨false, [], []⟩)
      .ret)
     .skip)) ⟨false, [], []⟩)
  (.ops [
   ⟨(some 49), none, (.mv (.t 8))⟩,
   ⟨(some 50), none, (.bin .add (.t 49) (.c (.int .i64 1)))⟩,
   ⟨(some 8), none, (.mv (.t 50))⟩] ⟨true, [8, 7, 3, 2, 1], []⟩)))
def w3_L0 : WCode := .loop ⟨true, [8, 7, 3, 2, 1], []⟩ w3_B0
def w3 : WFn := ⟨3, [.tmp 6],
 (.seq (.ops [
    ⟨(some 3), none, (.box (.t 0))⟩,
    ⟨(some 6), none, (.mv (.c (.bool false)))⟩] ⟨false, [], []⟩)
  (.seq (.seq (.ops [
     ⟨(some 28), none, (.fld 0 (.t 3))⟩,
     ⟨(some 29), none, (.load 1 false (.t 28))⟩,
     ⟨(some 30), none, (.len 1 (.t 29))⟩,
     ⟨(some 31), none, (.bin .gtr (.t 30) (.c (.int .i64 10)))⟩,
     ⟨(some 32), none, (.mv (.t 31))⟩,
     ⟨(some 33), (some (32, false)), (.fld 1 (.t 3))⟩,
     ⟨(some 34), (some (32, false)), (.load 1 false (.t 33))⟩,
     ⟨(some 35), (some (32, false)), (.len 1 (.t 34))⟩,
     ⟨(some 36), (some (32, false)), (.bin .gtr (.t 35) (.c (.int .i64 10)))⟩,
     ⟨(some 37), none, (.pick (.t 32) (.c (.bool true)) (.t 36))⟩] ⟨false, [], []⟩)
   (.cond (.t 37) (.seq (.ops [
       ⟨(some 38), none, (.call 18 [])⟩,
       ⟨(some 6), none, (.mv (.t 38))⟩] ⟨true, [6], []⟩)
     .ret)
    .skip))
  (.seq (.ops [
    ⟨(some 39), none, (.fld 0 (.t 3))⟩,
    ⟨(some 40), none, (.load 1 false (.t 39))⟩,
    ⟨(some 41), none, (.fld 1 (.t 3))⟩,
    ⟨(some 42), none, (.load 1 false (.t 41))⟩,
    ⟨(some 43), none, (.build [(.ro 1 [] true), (.ro 1 [] true)] [(0, 1, (.t 40)), (1, 1, (.t 42))])⟩,
    ⟨(some 7), none, (.alloc [(.ro 1 [] true), (.ro 1 [] true)])⟩,
    ⟨none, none, (.store 2 (.t 7) (.t 43))⟩] ⟨false, [], []⟩)
  (.seq (.seq (.ops [
     ⟨(some 8), none, (.mv (.c (.int .i64 0)))⟩] ⟨false, [], []⟩)
   (.block 0 w3_L0 ⟨true, [7, 3, 2, 1], []⟩))
  w3_c0))))⟩

@[simp] theorem w3_E0 {β : Type} {C : WProg} {b : Nat} {f : Ex × WSt → Option β} {k : List Pw.Frame} {s : WSt} : CK C b f k w3_L0 s = LK C b f (.sq w3_L0 :: k) w3_B0 (canon b ⟨true, [8, 7, 3, 2, 1], []⟩ s) := ck_lp rfl
noncomputable abbrev w3_K0 (C : WProg) (s : WSt) : Option AV := CK C 0 (pureFin [.tmp 6]) [.sq w3_L0, .bk 0 ⟨true, [7, 3, 2, 1], []⟩, .sq w3_c0] w3_B0 s

/- paternoster/paternosterlaw21.PoolsKnown -/
def w4_c0 : WCode := (.seq (.ops [
    ⟨(some 65), none, (.load 2 true (.t 5))⟩,
    ⟨(some 66), none, (.call 12 [(.t 65), (.c (.int .i64 30))])⟩,
    ⟨(some 64), none, (.mv (.t 66))⟩,
    ⟨(some 67), none, (.ext 0 (.t 64))⟩,
    ⟨(some 68), none, (.ext 1 (.t 64))⟩,
    ⟨(some 69), none, (.ext 2 (.t 64))⟩,
    ⟨none, none, (.store 2 (.t 5) (.t 67))⟩,
    ⟨(some 11), none, (.mv (.t 68))⟩,
    ⟨(some 2), none, (.mv (.t 69))⟩] ⟨true, [11, 5, 2], []⟩)
  (.seq (.ops [
    ⟨(some 71), none, (.load 2 true (.t 5))⟩,
    ⟨(some 72), none, (.call 11 [(.t 71), (.c (.int .i64 0))])⟩,
    ⟨(some 70), none, (.mv (.t 72))⟩,
    ⟨(some 73), none, (.ext 0 (.t 70))⟩,
    ⟨(some 74), none, (.ext 1 (.t 70))⟩,
    ⟨(some 75), none, (.ext 2 (.t 70))⟩,
    ⟨(some 76), none, (.ext 3 (.t 70))⟩,
    ⟨(some 12), none, (.alloc [(.ro 1 [] true), (.ro 1 [] true)])⟩,
    ⟨none, none, (.store 2 (.t 12) (.t 73))⟩,
    ⟨(some 13), none, (.mv (.t 74))⟩,
    ⟨(some 14), none, (.mv (.t 75))⟩,
    ⟨(some 4), none, (.mv (.t 76))⟩] ⟨false, [], []⟩)
  (.seq (.ops [
    ⟨(some 78), none, (.load 2 true (.t 12))⟩,
    ⟨(some 79), none, (.call 15 [(.t 78), (.c (.int .i64 0))])⟩,
    ⟨(some 77), none, (.mv (.t 79))⟩,
    ⟨(some 80), none, (.ext 0 (.t 77))⟩,
    ⟨(some 81), none, (.ext 1 (.t 77))⟩,
    ⟨(some 15), none, (.mv (.t 80))⟩,
    ⟨(some 6), none, (.mv (.t 81))⟩] ⟨false, [], []⟩)
  (.seq (.ops [
    ⟨(some 82), none, (.mv (.t 2))⟩,
    ⟨(some 83), none, (.mv (.t 4))⟩,
    ⟨(some 84), none, (.bin .add (.t 82) (.t 83))⟩,
    ⟨(some 85), none, (.mv (.t 6))⟩,
    ⟨(some 86), none, (.bin .add (.t 84) (.t 85))⟩,
    ⟨(some 87), none, (.bin .eql (.t 86) (.c (.int .i64 0)))⟩,
    ⟨(some 88), none, (.mv (.t 87))⟩,
    ⟨(some 89), (some (88, true)), (.mv (.t 11))⟩,
    ⟨(some 90), (some (88, true)), (.len 1 (.t 89))⟩,
    ⟨(some 91), (some (88, true)), (.bin .eql (.t 90) (.c (.int .i64 70)))⟩,
    ⟨(some 92), none, (.pick (.t 88) (.t 91) (.c (.bool false)))⟩,
    ⟨(some 93), none, (.mv (.t 92))⟩,
    ⟨(some 94), (some (93, true)), (.mv (.t 11))⟩,
    ⟨(some 95), (some (93, true)), (.idxs 1 (.t 94) (.c (.int .i64 69)))⟩,
    ⟨(some 96), (some (93, true)), (.load 1 false (.t 95))⟩,
    ⟨(some 97), (some (93, true)), (.bin .eql (.t 96) (.c (.int .i64 69)))⟩,
    ⟨(some 98), none, (.pick (.t 93) (.t 97) (.c (.bool false)))⟩,
    ⟨(some 99), none, (.mv (.t 98))⟩,
    ⟨(some 100), (some (99, true)), (.mv (.t 13))⟩,
    ⟨(some 101), (some (99, true)), (.bin .eql (.t 100) (.c (.int .i64 99)))⟩,
    ⟨(some 102), none, (.pick (.t 99) (.t 101) (.c (.bool false)))⟩,
    ⟨(some 103), none, (.mv (.t 102))⟩,
    ⟨(some 104), (some (103, true)), (.mv (.t 14))⟩,
    ⟨(some 105), none, (.pick (.t 103) (.t 104) (.c (.bool false)))⟩,
    ⟨(some 106), none, (.mv (.t 105))⟩,
    ⟨(some 107), (some (106, true)), (.mv (.t 15))⟩,
    ⟨(some 108), (some (106, true)), (.bin .eql (.t 107) (.c (.int .i64 29)))⟩,
    ⟨(some 109), none, (.pick (.t 106) (.t 108) (.c (.bool false)))⟩,
    ⟨(some 110), none, (.mv (.t 109))⟩,
    ⟨(some 111), (some (110, true)), (.call 18 [])⟩,
    ⟨(some 112), none, (.pick (.t 110) (.t 111) (.c (.bool false)))⟩,
    ⟨(some 0), none, (.mv (.t 112))⟩] ⟨true, [0], []⟩)
  .ret))))

def w4_B0 : WCode := (.seq (.seq (.ops [
     ⟨(some 48), none, (.mv (.t 9))⟩,
     ⟨(some 49), none, (.bin .lss (.t 48) (.c (.int .i64 100)))⟩] ⟨false, [], []⟩)
   (.cond (.t 49) .skip
    (.exit 0)))
  (.seq (.block 1 (.seq (.ops [
      ⟨(some 10), none, (.mv (.c (.bool false)))⟩] ⟨false, [], []⟩)
    (.seq (.ops [
      ⟨(some 53), none, (.load 2 true (.t 5))⟩,
      ⟨(some 54), none, (.mv (.t 9))⟩,
      ⟨(some 55), none, (.call 10 [(.t 53), (.c (.int .i64 0)), (.t 54)])⟩,
      ⟨(some 52), none, (.mv (.t 55))⟩,
      ⟨(some 56), none, (.ext 0 (.t 52))⟩,
      ⟨(some 57), none, (.ext 1 (.t 52))⟩,
      ⟨(some 58), none, (.ext 2 (.t 52))⟩,
      ⟨none, none, (.store 2 (.t 5) (.t 56))⟩,
      ⟨(some 10), none, (.mv (.t 57))⟩,
      ⟨(some 2), none, (.mv (.t 58))⟩] ⟨false, [], []⟩)
    (.seq (.ops [
      ⟨(some 59), none, (.mv (.t 2))⟩,
      ⟨(some 60), none, (.bin .neq (.t 59) (.c (.int .i64 0)))⟩,
      ⟨(some 61), none, (.mv (.t 60))⟩,
      ⟨(some 62), (some (61, false)), (.mv (.t 10))⟩,
      ⟨(some 63), none, (.pick (.t 61) (.c (.bool true)) (.t 62))⟩] ⟨false, [], []⟩)
    (.cond (.t 63) (.seq (.ops [
        ⟨(some 0), none, (.mv (.c (.bool false)))⟩] ⟨false, [], []⟩)
      .ret)
     .skip)))) ⟨false, [], []⟩)
  (.ops [
   ⟨(some 50), none, (.mv (.t 9))⟩,
   ⟨(some 51), none, (.bin .add (.t 50) (.c (.int .i64 1)))⟩,
   ⟨(some 9), none, (.mv (.t 51))⟩] ⟨false, [], []⟩)))
def w4_L0 : WCode := .loop ⟨true, [9, 5], []⟩ w4_B0
def w4 : WFn := ⟨0, [.tmp 0],
 (.seq (.ops [
    ⟨(some 0), none, (.mv (.c (.bool false)))⟩] ⟨false, [], []⟩)
  (.seq (.ops [
    ⟨(some 17), none, (.mksl [(.int .i64 0)] 8 (.c (.int .i64 8)) (.c (.int .i64 8)))⟩,
    ⟨(some 18), none, (.call 5 [(.t 17)])⟩,
    ⟨(some 16), none, (.mv (.t 18))⟩,
    ⟨(some 19), none, (.ext 0 (.t 16))⟩,
    ⟨(some 20), none, (.ext 1 (.t 16))⟩,
    ⟨(some 1), none, (.alloc [(.ro 1 [] true), (.ro 1 [] true)])⟩,
    ⟨none, none, (.store 2 (.t 1) (.t 19))⟩,
    ⟨(some 2), none, (.mv (.t 20))⟩] ⟨false, [], []⟩)
  (.seq (.ops [
    ⟨(some 22), none, (.mksl [(.int .i64 0)] 8 (.c (.int .i64 9)) (.c (.int .i64 9)))⟩,
    ⟨(some 23), none, (.call 5 [(.t 22)])⟩,
    ⟨(some 21), none, (.mv (.t 23))⟩,
    ⟨(some 24), none, (.ext 0 (.t 21))⟩,
    ⟨(some 25), none, (.ext 1 (.t 21))⟩,
    ⟨(some 3), none, (.alloc [(.ro 1 [] true), (.ro 1 [] true)])⟩,
    ⟨none, none, (.store 2 (.t 3) (.t 24))⟩,
    ⟨(some 4), none, (.mv (.t 25))⟩] ⟨false, [], []⟩)
  (.seq (.ops [
    ⟨(some 27), none, (.buildS [(.int .i64 0)] 1 [(0, (.c (.int .i64 65536)))])⟩,
    ⟨(some 28), none, (.call 5 [(.t 27)])⟩,
    ⟨(some 26), none, (.mv (.t 28))⟩,
    ⟨(some 29), none, (.ext 0 (.t 26))⟩,
    ⟨(some 30), none, (.ext 1 (.t 26))⟩,
    ⟨(some 5), none, (.alloc [(.ro 1 [] true), (.ro 1 [] true)])⟩,
    ⟨none, none, (.store 2 (.t 5) (.t 29))⟩,
    ⟨(some 6), none, (.mv (.t 30))⟩] ⟨true, [6, 5, 4, 2], []⟩)
  (.seq (.ops [
    ⟨(some 32), none, (.buildS [(.int .i64 0)] 1 [(0, (.c (.int .i64 65537)))])⟩,
    ⟨(some 33), none, (.call 5 [(.t 32)])⟩,
    ⟨(some 31), none, (.mv (.t 33))⟩,
    ⟨(some 34), none, (.ext 0 (.t 31))⟩,
    ⟨(some 35), none, (.ext 1 (.t 31))⟩,
    ⟨(some 7), none, (.alloc [(.ro 1 [] true), (.ro 1 [] true)])⟩,
    ⟨none, none, (.store 2 (.t 7) (.t 34))⟩,
    ⟨(some 8), none, (.mv (.t 35))⟩] ⟨false, [], []⟩)
  (.seq (.seq (.ops [
     ⟨(some 36), none, (.mv (.t 2))⟩,
     ⟨(some 37), none, (.mv (.t 6))⟩,
     ⟨(some 38), none, (.bin .add (.t 36) (.t 37))⟩,
     ⟨(some 39), none, (.bin .neq (.t 38) (.c (.int .i64 0)))⟩,
     ⟨(some 40), none, (.mv (.t 39))⟩,
     ⟨(some 41), (some (40, false)), (.mv (.t 4))⟩,
     ⟨(some 42), (some (40, false)), (.bin .neq (.t 41) (.c (.int .i64 1)))⟩,
     ⟨(some 43), none, (.pick (.t 40) (.c (.bool true)) (.t 42))⟩,
     ⟨(some 44), none, (.mv (.t 43))⟩,
     ⟨(some 45), (some (44, false)), (.mv (.t 8))⟩,
     ⟨(some 46), (some (44, false)), (.bin .neq (.t 45) (.c (.int .i64 1)))⟩,
     ⟨(some 47), none, (.pick (.t 44) (.c (.bool true)) (.t 46))⟩] ⟨false, [], []⟩)
   (.cond (.t 47) (.seq (.ops [
       ⟨(some 0), none, (.mv (.c (.bool false)))⟩] ⟨true, [0], []⟩)
     .ret)
    .skip))
  (.seq (.seq (.ops [
     ⟨(some 9), none, (.mv (.c (.int .i64 0)))⟩] ⟨false, [], []⟩)
   (.block 0 w4_L0 ⟨true, [5], []⟩))
  w4_c0)))))))⟩

@[simp] theorem w4_E0 {β : Type} {C : WProg} {b : Nat} {f : Ex × WSt → Option β} {k : List Pw.Frame} {s : WSt} : CK C b f k w4_L0 s = LK C b f (.sq w4_L0 :: k) w4_B0 (canon b ⟨true, [9, 5], []⟩ s) := ck_lp rfl
noncomputable abbrev w4_K0 (C : WProg) (s : WSt) : Option AV := CK C 0 (pureFin [.tmp 0]) [.sq w4_L0, .bk 0 ⟨true, [5], []⟩, .sq w4_c0] w4_B0 s

/- paternoster/pools.New[int] -/
def w5 : WFn := ⟨1, [.cell 2 2 true, .tmp 3],
 (.seq (.ops [
    ⟨(some 2), none, (.alloc [(.ro 1 [] true), (.ro 1 [] true)])⟩,
    ⟨(some 3), none, (.mv (.c (.int .i64 0)))⟩] ⟨false, [], []⟩)
  (.seq (.seq (.ops [
     ⟨(some 6), none, (.mv (.t 0))⟩,
     ⟨(some 7), none, (.len 1 (.t 6))⟩,
     ⟨(some 8), none, (.bin .gtr (.t 7) (.c (.int .i64 8)))⟩] ⟨true, [8, 2, 0], []⟩)
   (.cond (.t 8) (.seq (.ops [
       ⟨(some 9), none, (.build [(.ro 1 [] true), (.ro 1 [] true)] [])⟩,
       ⟨none, none, (.store 2 (.t 2) (.t 9))⟩,
       ⟨(some 3), none, (.mv (.c (.int .i64 1)))⟩] ⟨false, [], []⟩)
     .ret)
    .skip))
  (.seq (.draw [
    ⟨(some 10), none, (.mv (.t 0))⟩,
    ⟨(some 11), none, (.call 21 [(.t 10)])⟩,
    ⟨(some 12), none, (.mv (.t 0))⟩,
    ⟨(some 13), none, (.len 1 (.t 12))⟩,
    ⟨(some 14), none, (.mksl [(.ro 1 [] true)] 24 (.t 13) (.t 13))⟩,
    ⟨(some 15), none, (.build [(.ro 1 [] true), (.ro 1 [] true)] [(0, 1, (.t 11)), (1, 1, (.t 14))])⟩,
    ⟨(some 4), none, (.alloc [(.ro 1 [] true), (.ro 1 [] true)])⟩,
    ⟨none, none, (.store 2 (.t 4) (.t 15))⟩] [(1, 3), (1, 4), (1, 6), (3, 6), (4, 6)] ⟨false, [], []⟩)
  (.seq (.seq (.ops [
     ⟨(some 16), none, (.load 2 true (.t 4))⟩,
     ⟨(some 17), none, (.call 20 [(.t 16)])⟩,
     ⟨(some 5), none, (.mv (.t 17))⟩] ⟨false, [], []⟩)
   (.seq (.ops [
     ⟨(some 18), none, (.mv (.t 5))⟩,
     ⟨(some 19), none, (.bin .neq (.t 18) (.c (.int .i64 0)))⟩] ⟨false, [], []⟩)
   (.cond (.t 19) (.seq (.ops [
       ⟨(some 20), none, (.build [(.ro 1 [] true), (.ro 1 [] true)] [])⟩,
       ⟨(some 21), none, (.mv (.t 5))⟩,
       ⟨none, none, (.store 2 (.t 2) (.t 20))⟩,
       ⟨(some 3), none, (.mv (.t 21))⟩] ⟨false, [], []⟩)
     .ret)
    .skip)))
  (.seq (.ops [
    ⟨(some 22), none, (.load 2 true (.t 4))⟩,
    ⟨none, none, (.store 2 (.t 2) (.t 22))⟩,
    ⟨(some 3), none, (.mv (.c (.int .i64 0)))⟩] ⟨false, [], []⟩)
  .ret)))))⟩

/- (paternoster/paternosterlaw21.P).bounds -/
def w6_c0 : WCode := (.seq (.ops [
    ⟨(some 27), none, (.mv (.t 3))⟩,
    ⟨(some 2), none, (.mv (.t 27))⟩] ⟨false, [], []⟩)
  .ret)

def w6_B0 : WCode := (.seq (.seq (.ops [
     ⟨(some 6), none, (.mv (.t 4))⟩,
     ⟨(some 7), none, (.fld 0 (.t 1))⟩,
     ⟨(some 8), none, (.load 1 false (.t 7))⟩,
     ⟨(some 9), none, (.len 1 (.t 8))⟩,
     ⟨(some 10), none, (.bin .lss (.t 6) (.t 9))⟩,
     ⟨(some 11), none, (.mv (.t 10))⟩,
     ⟨(some 12), (some (11, true)), (.mv (.t 4))⟩,
     ⟨(some 13), (some (11, true)), (.bin .lss (.t 12) (.c (.int .i64 3)))⟩,
     ⟨(some 14), none, (.pick (.t 11) (.t 13) (.c (.bool false)))⟩] ⟨true, [14, 4, 3, 1], []⟩)
   (.cond (.t 14) .skip
    (.exit 0)))
  (.seq (.block 1 (.ops [
     ⟨(some 17), none, (.mv (.t 3))⟩,
     ⟨(some 18), none, (.fld 0 (.t 1))⟩,
     ⟨(some 19), none, (.load 1 false (.t 18))⟩,
     ⟨(some 20), none, (.mv (.t 4))⟩,
     ⟨(some 21), none, (.idxs 1 (.t 19) (.t 20))⟩,
     ⟨(some 22), none, (.load 1 false (.t 21))⟩,
     ⟨(some 23), none, (.bin .rem (.t 22) (.c (.int .u8 4)))⟩,
     ⟨(some 24), none, (.cvt .i64 (.t 23))⟩,
     ⟨(some 25), none, (.buildS [(.int .i64 0)] 1 [(0, (.t 24))])⟩,
     ⟨(some 26), none, (.app [(.int .i64 0)] 8 false (.t 17) (.t 25))⟩,
     ⟨(some 3), none, (.mv (.t 26))⟩] ⟨false, [], []⟩) ⟨false, [], []⟩)
  (.ops [
   ⟨(some 15), none, (.mv (.t 4))⟩,
   ⟨(some 16), none, (.bin .add (.t 15) (.c (.int .i64 1)))⟩,
   ⟨(some 4), none, (.mv (.t 16))⟩] ⟨false, [], []⟩)))
def w6_L0 : WCode := .loop ⟨true, [4, 3, 1], []⟩ w6_B0
def w6 : WFn := ⟨1, [.tmp 2],
 (.seq (.ops [
    ⟨(some 1), none, (.box (.t 0))⟩,
    ⟨(some 2), none, (.mv (.c (.ro 1 [] true)))⟩] ⟨false, [], []⟩)
  (.seq (.ops [
    ⟨(some 5), none, (.buildS [(.int .i64 0)] 1 [(0, (.c (.int .i64 2)))])⟩,
    ⟨(some 3), none, (.mv (.t 5))⟩] ⟨false, [], []⟩)
  (.seq (.seq (.ops [
     ⟨(some 4), none, (.mv (.c (.int .i64 0)))⟩] ⟨false, [], []⟩)
   (.block 0 w6_L0 ⟨true, [3], []⟩))
  w6_c0)))⟩

@[simp] theorem w6_E0 {β : Type} {C : WProg} {b : Nat} {f : Ex × WSt → Option β} {k : List Pw.Frame} {s : WSt} : CK C b f k w6_L0 s = LK C b f (.sq w6_L0 :: k) w6_B0 (canon b ⟨true, [4, 3, 1], []⟩ s) := ck_lp rfl
noncomputable abbrev w6_K0 (C : WProg) (s : WSt) : Option AV := CK C 0 (pureFin [.tmp 2]) [.sq w6_L0, .bk 0 ⟨true, [3], []⟩, .sq w6_c0] w6_B0 s

/- paternoster/paternosterref21.New -/
def w7 : WFn := ⟨1, [.cell 2 2 true],
 (.seq (.ops [
    ⟨(some 2), none, (.alloc [(.ro 1 [] true), (.ro 1 [] true)])⟩] ⟨false, [], []⟩)
  (.seq (.draw [
    ⟨(some 3), none, (.mv (.t 0))⟩,
    ⟨(some 4), none, (.app [(.int .i64 0)] 8 false (.c (.ro 1 [] true)) (.t 3))⟩,
    ⟨(some 5), none, (.mv (.t 0))⟩,
    ⟨(some 6), none, (.len 1 (.t 5))⟩,
    ⟨(some 7), none, (.mksl [(.ro 1 [] true)] 24 (.t 6) (.t 6))⟩,
    ⟨(some 8), none, (.build [(.ro 1 [] true), (.ro 1 [] true)] [(0, 1, (.t 4)), (1, 1, (.t 7))])⟩,
    ⟨none, none, (.store 2 (.t 2) (.t 8))⟩] [(1, 3), (1, 4)] ⟨false, [], []⟩)
  .ret))⟩

/- paternoster/paternosterlaw21.same -/
def w8_c0 : WCode := (.seq (.ops [
    ⟨(some 4), none, (.mv (.c (.int .i64 1)))⟩] ⟨false, [], []⟩)
  .ret)

def w8_B0 : WCode := (.seq (.seq (.ops [
     ⟨(some 30), none, (.mv (.t 5))⟩,
     ⟨(some 31), none, (.fld 1 (.t 2))⟩,
     ⟨(some 32), none, (.load 1 false (.t 31))⟩,
     ⟨(some 33), none, (.len 1 (.t 32))⟩,
     ⟨(some 34), none, (.bin .lss (.t 30) (.t 33))⟩] ⟨false, [], []⟩)
   (.cond (.t 34) .skip
    (.exit 0)))
  (.seq (.block 1 (.seq (.draw [
      ⟨(some 37), none, (.fld 1 (.t 2))⟩,
      ⟨(some 38), none, (.load 1 false (.t 37))⟩,
      ⟨(some 39), none, (.mv (.t 5))⟩,
      ⟨(some 40), none, (.idxs 1 (.t 38) (.t 39))⟩,
      ⟨(some 41), none, (.load 1 false (.t 40))⟩,
      ⟨(some 42), none, (.fld 1 (.t 3))⟩,
      ⟨(some 43), none, (.load 1 false (.t 42))⟩,
      ⟨(some 44), none, (.mv (.t 5))⟩,
      ⟨(some 45), none, (.idxs 1 (.t 43) (.t 44))⟩,
      ⟨(some 46), none, (.load 1 false (.t 45))⟩,
      ⟨(some 47), none, (.call 14 [(.t 41), (.t 46)])⟩,
      ⟨(some 48), none, (.bin .eql (.t 47) (.c (.int .i64 0)))⟩] [] ⟨false, [], []⟩)
    (.cond (.t 48) (.seq (.ops [
        ⟨(some 4), none, (.mv (.c (.int .i64 0)))⟩] ⟨false, [], []⟩)
      .ret)
     .skip)) ⟨false, [], []⟩)
  (.ops [
   ⟨(some 35), none, (.mv (.t 5))⟩,
   ⟨(some 36), none, (.bin .add (.t 35) (.c (.int .i64 1)))⟩,
   ⟨(some 5), none, (.mv (.t 36))⟩] ⟨false, [], []⟩)))
def w8_L0 : WCode := .loop ⟨true, [5, 3, 2], []⟩ w8_B0
def w8 : WFn := ⟨2, [.tmp 4],
 (.seq (.ops [
    ⟨(some 2), none, (.box (.t 0))⟩,
    ⟨(some 3), none, (.box (.t 1))⟩,
    ⟨(some 4), none, (.mv (.c (.int .i64 0)))⟩] ⟨false, [], []⟩)
  (.seq (.seq (.ops [
     ⟨(some 6), none, (.fld 0 (.t 2))⟩,
     ⟨(some 7), none, (.load 1 false (.t 6))⟩,
     ⟨(some 8), none, (.fld 0 (.t 3))⟩,
     ⟨(some 9), none, (.load 1 false (.t 8))⟩,
     ⟨(some 10), none, (.call 14 [(.t 7), (.t 9)])⟩,
     ⟨(some 11), none, (.bin .eql (.t 10) (.c (.int .i64 0)))⟩,
     ⟨(some 12), none, (.mv (.t 11))⟩,
     ⟨(some 13), (some (12, false)), (.fld 1 (.t 2))⟩,
     ⟨(some 14), (some (12, false)), (.load 1 false (.t 13))⟩,
     ⟨(some 15), (some (12, false)), (.len 1 (.t 14))⟩,
     ⟨(some 16), (some (12, false)), (.fld 1 (.t 3))⟩,
     ⟨(some 17), (some (12, false)), (.load 1 false (.t 16))⟩,
     ⟨(some 18), (some (12, false)), (.len 1 (.t 17))⟩,
     ⟨(some 19), (some (12, false)), (.bin .neq (.t 15) (.t 18))⟩,
     ⟨(some 20), none, (.pick (.t 12) (.c (.bool true)) (.t 19))⟩,
     ⟨(some 21), none, (.mv (.t 20))⟩,
     ⟨(some 22), (some (21, false)), (.fld 1 (.t 2))⟩,
     ⟨(some 23), (some (21, false)), (.load 1 false (.t 22))⟩,
     ⟨(some 24), (some (21, false)), (.cap (.t 23))⟩,
     ⟨(some 25), (some (21, false)), (.fld 1 (.t 2))⟩,
     ⟨(some 26), (some (21, false)), (.load 1 false (.t 25))⟩,
     ⟨(some 27), (some (21, false)), (.len 1 (.t 26))⟩,
     ⟨(some 28), (some (21, false)), (.bin .neq (.t 24) (.t 27))⟩,
     ⟨(some 29), none, (.pick (.t 21) (.c (.bool true)) (.t 28))⟩] ⟨true, [29, 3, 2], []⟩)
   (.cond (.t 29) (.seq (.ops [
       ⟨(some 4), none, (.mv (.c (.int .i64 0)))⟩] ⟨true, [4], []⟩)
     .ret)
    .skip))
  (.seq (.seq (.ops [
     ⟨(some 5), none, (.mv (.c (.int .i64 0)))⟩] ⟨false, [], []⟩)
   (.block 0 w8_L0 ⟨true, [], []⟩))
  w8_c0)))⟩

@[simp] theorem w8_E0 {β : Type} {C : WProg} {b : Nat} {f : Ex × WSt → Option β} {k : List Pw.Frame} {s : WSt} : CK C b f k w8_L0 s = LK C b f (.sq w8_L0 :: k) w8_B0 (canon b ⟨true, [5, 3, 2], []⟩ s) := ck_lp rfl
noncomputable abbrev w8_K0 (C : WProg) (s : WSt) : Option AV := CK C 0 (pureFin [.tmp 4]) [.sq w8_L0, .bk 0 ⟨true, [], []⟩, .sq w8_c0] w8_B0 s

/- paternoster/paternosterlaw21.Call -/
def w9 : WFn := ⟨2, [.cell 4 2 true, .tmp 5, .tmp 6],
 (.seq (.ops [
    ⟨(some 2), none, (.box (.t 0))⟩,
    ⟨(some 3), none, (.box (.t 1))⟩,
    ⟨(some 4), none, (.alloc [(.ro 1 [] true), (.ro 1 [] true)])⟩,
    ⟨(some 5), none, (.mv (.c (.int .i64 0)))⟩,
    ⟨(some 6), none, (.mv (.c (.bool false)))⟩] ⟨false, [], []⟩)
  (.seq (.ops [
    ⟨(some 12), none, (.fld 1 (.t 3))⟩,
    ⟨(some 13), none, (.load 1 false (.t 12))⟩,
    ⟨(some 14), none, (.cvt .i64 (.t 13))⟩,
    ⟨(some 15), none, (.fld 0 (.t 2))⟩,
    ⟨(some 16), none, (.load 1 false (.t 15))⟩,
    ⟨(some 17), none, (.len 1 (.t 16))⟩,
    ⟨(some 18), none, (.bin .rem (.t 14) (.t 17))⟩,
    ⟨(some 7), none, (.mv (.t 18))⟩] ⟨true, [7, 4, 3, 2], []⟩)
  (.seq (.block 0 (.seq (.ops [
      ⟨(some 20), none, (.fld 0 (.t 3))⟩,
      ⟨(some 21), none, (.load 1 false (.t 20))⟩,
      ⟨(some 22), none, (.bin .rem (.t 21) (.c (.int .u8 8)))⟩,
      ⟨(some 23), none, (.bin .lss (.t 22) (.c (.int .u8 4)))⟩,
      ⟨(some 19), none, (.mv (.t 23))⟩] ⟨false, [], []⟩)
    (.cond (.t 19) (.seq (.ops [
        ⟨(some 25), none, (.load 2 true (.t 2))⟩,
        ⟨(some 26), none, (.mv (.t 7))⟩,
        ⟨(some 27), none, (.fld 2 (.t 3))⟩,
        ⟨(some 28), none, (.load 1 false (.t 27))⟩,
        ⟨(some 29), none, (.cvt .i64 (.t 28))⟩,
        ⟨(some 30), none, (.call 22 [(.t 25), (.t 26), (.t 29)])⟩,
        ⟨(some 24), none, (.mv (.t 30))⟩,
        ⟨(some 31), none, (.ext 0 (.t 24))⟩,
        ⟨(some 32), none, (.ext 1 (.t 24))⟩,
        ⟨(some 8), none, (.alloc [(.ro 1 [] true), (.ro 1 [] true)])⟩,
        ⟨none, none, (.store 2 (.t 8) (.t 31))⟩,
        ⟨(some 9), none, (.mv (.t 32))⟩] ⟨true, [9, 8, 4], []⟩)
      (.seq (.ops [
        ⟨(some 33), none, (.load 2 true (.t 8))⟩,
        ⟨(some 34), none, (.mv (.t 9))⟩,
        ⟨none, none, (.store 2 (.t 4) (.t 33))⟩,
        ⟨(some 5), none, (.mv (.c (.int .i64 0)))⟩,
        ⟨(some 6), none, (.mv (.t 34))⟩] ⟨false, [], []⟩)
      .ret))
     (.seq (.ops [
        ⟨(some 36), none, (.fld 0 (.t 3))⟩,
        ⟨(some 37), none, (.load 1 false (.t 36))⟩,
        ⟨(some 38), none, (.bin .rem (.t 37) (.c (.int .u8 8)))⟩,
        ⟨(some 39), none, (.bin .lss (.t 38) (.c (.int .u8 7)))⟩,
        ⟨(some 35), none, (.mv (.t 39))⟩] ⟨false, [], []⟩)
      (.cond (.t 35) (.seq (.ops [
          ⟨(some 40), none, (.load 2 true (.t 2))⟩,
          ⟨(some 41), none, (.mv (.t 7))⟩,
          ⟨(some 42), none, (.call 23 [(.t 40), (.t 41)])⟩,
          ⟨(some 43), none, (.ext 0 (.t 42))⟩,
          ⟨(some 44), none, (.ext 1 (.t 42))⟩,
          ⟨(some 45), none, (.ext 2 (.t 42))⟩,
          ⟨none, none, (.store 2 (.t 4) (.t 43))⟩,
          ⟨(some 5), none, (.mv (.t 44))⟩,
          ⟨(some 6), none, (.mv (.t 45))⟩] ⟨false, [], []⟩)
        .ret)
       .skip)))) ⟨false, [], []⟩)
  (.seq (.ops [
    ⟨(some 47), none, (.load 2 true (.t 2))⟩,
    ⟨(some 48), none, (.fld 2 (.t 3))⟩,
    ⟨(some 49), none, (.load 1 false (.t 48))⟩,
    ⟨(some 50), none, (.bin .rem (.t 49) (.c (.int .u8 4)))⟩,
    ⟨(some 51), none, (.cvt .i64 (.t 50))⟩,
    ⟨(some 52), none, (.call 13 [(.t 47), (.t 51)])⟩,
    ⟨(some 46), none, (.mv (.t 52))⟩,
    ⟨(some 53), none, (.ext 0 (.t 46))⟩,
    ⟨(some 54), none, (.ext 1 (.t 46))⟩,
    ⟨(some 10), none, (.alloc [(.ro 1 [] true), (.ro 1 [] true)])⟩,
    ⟨none, none, (.store 2 (.t 10) (.t 53))⟩,
    ⟨(some 11), none, (.mv (.t 54))⟩] ⟨false, [], []⟩)
  (.seq (.ops [
    ⟨(some 55), none, (.load 2 true (.t 10))⟩,
    ⟨none, none, (.store 2 (.t 4) (.t 55))⟩,
    ⟨(some 5), none, (.mv (.c (.int .i64 0)))⟩,
    ⟨(some 6), none, (.mv (.c (.bool false)))⟩] ⟨false, [], []⟩)
  .ret)))))⟩

/- paternoster/pools.Push[int] -/
def w10 : WFn := ⟨3, [.cell 6 2 true, .tmp 7, .tmp 8],
 (.seq (.ops [
    ⟨(some 3), none, (.box (.t 0))⟩,
    ⟨(some 6), none, (.alloc [(.ro 1 [] true), (.ro 1 [] true)])⟩,
    ⟨(some 7), none, (.mv (.c (.bool false)))⟩,
    ⟨(some 8), none, (.mv (.c (.int .i64 0)))⟩] ⟨false, [], []⟩)
  (.seq (.seq (.ops [
     ⟨(some 11), none, (.load 2 true (.t 3))⟩,
     ⟨(some 12), none, (.mv (.t 1))⟩,
     ⟨(some 13), none, (.call 24 [(.t 11), (.t 12)])⟩,
     ⟨(some 9), none, (.mv (.t 13))⟩] ⟨false, [], []⟩)
   (.seq (.ops [
     ⟨(some 14), none, (.mv (.t 9))⟩,
     ⟨(some 15), none, (.bin .neq (.t 14) (.c (.int .i64 0)))⟩] ⟨false, [], []⟩)
   (.cond (.t 15) (.seq (.ops [
       ⟨(some 16), none, (.build [(.ro 1 [] true), (.ro 1 [] true)] [])⟩,
       ⟨(some 17), none, (.mv (.t 9))⟩,
       ⟨none, none, (.store 2 (.t 6) (.t 16))⟩,
       ⟨(some 7), none, (.mv (.c (.bool false)))⟩,
       ⟨(some 8), none, (.mv (.t 17))⟩] ⟨false, [], []⟩)
     .ret)
    .skip)))
  (.seq (.ops [
    ⟨(some 18), none, (.fld 1 (.t 3))⟩,
    ⟨(some 19), none, (.load 1 false (.t 18))⟩,
    ⟨(some 20), none, (.mv (.t 1))⟩,
    ⟨(some 21), none, (.idxs 1 (.t 19) (.t 20))⟩,
    ⟨(some 22), none, (.load 1 false (.t 21))⟩,
    ⟨(some 10), none, (.mv (.t 22))⟩] ⟨false, [], []⟩)
  (.seq (.seq (.ops [
     ⟨(some 23), none, (.mv (.t 10))⟩,
     ⟨(some 24), none, (.len 1 (.t 23))⟩,
     ⟨(some 25), none, (.fld 0 (.t 3))⟩,
     ⟨(some 26), none, (.load 1 false (.t 25))⟩,
     ⟨(some 27), none, (.mv (.t 1))⟩,
     ⟨(some 28), none, (.idxs 1 (.t 26) (.t 27))⟩,
     ⟨(some 29), none, (.load 1 false (.t 28))⟩,
     ⟨(some 30), none, (.bin .eql (.t 24) (.t 29))⟩] ⟨true, [30, 10, 6, 3, 2, 1], []⟩)
   (.cond (.t 30) (.seq (.ops [
       ⟨(some 31), none, (.load 2 true (.t 3))⟩,
       ⟨(some 32), none, (.mv (.t 1))⟩,
       ⟨(some 33), none, (.mv (.t 10))⟩,
       ⟨(some 34), none, (.call 25 [(.t 31), (.t 32), (.t 33)])⟩,
       ⟨none, none, (.store 2 (.t 6) (.t 34))⟩,
       ⟨(some 7), none, (.mv (.c (.bool true)))⟩,
       ⟨(some 8), none, (.mv (.c (.int .i64 0)))⟩] ⟨false, [], []⟩)
     .ret)
    .skip))
  (.seq (.draw [
    ⟨(some 35), none, (.load 2 true (.t 3))⟩,
    ⟨(some 36), none, (.mv (.t 1))⟩,
    ⟨(some 37), none, (.mv (.t 10))⟩,
    ⟨(some 38), none, (.call 26 [(.t 37)])⟩,
    ⟨(some 39), none, (.mv (.t 2))⟩,
    ⟨(some 40), none, (.buildS [(.int .i64 0)] 1 [(0, (.t 39))])⟩,
    ⟨(some 41), none, (.app [(.int .i64 0)] 8 false (.t 38) (.t 40))⟩,
    ⟨(some 42), none, (.call 25 [(.t 35), (.t 36), (.t 41)])⟩,
    ⟨none, none, (.store 2 (.t 6) (.t 42))⟩,
    ⟨(some 7), none, (.mv (.c (.bool false)))⟩,
    ⟨(some 8), none, (.mv (.c (.int .i64 0)))⟩] [(0, 3), (0, 5), (3, 5), (0, 6)] ⟨false, [], []⟩)
  .ret)))))⟩

/- paternoster/pools.Pop[int] -/
def w11 : WFn := ⟨2, [.cell 4 2 true, .tmp 5, .tmp 6, .tmp 7],
 (.seq (.ops [
    ⟨(some 2), none, (.box (.t 0))⟩,
    ⟨(some 4), none, (.alloc [(.ro 1 [] true), (.ro 1 [] true)])⟩,
    ⟨(some 5), none, (.mv (.c (.int .i64 0)))⟩,
    ⟨(some 6), none, (.mv (.c (.bool false)))⟩,
    ⟨(some 7), none, (.mv (.c (.int .i64 0)))⟩] ⟨true, [5, 4, 2, 1], []⟩)
  (.seq (.seq (.ops [
     ⟨(some 11), none, (.load 2 true (.t 2))⟩,
     ⟨(some 12), none, (.mv (.t 1))⟩,
     ⟨(some 13), none, (.call 24 [(.t 11), (.t 12)])⟩,
     ⟨(some 8), none, (.mv (.t 13))⟩] ⟨false, [], []⟩)
   (.seq (.ops [
     ⟨(some 14), none, (.mv (.t 8))⟩,
     ⟨(some 15), none, (.bin .neq (.t 14) (.c (.int .i64 0)))⟩] ⟨false, [], []⟩)
   (.cond (.t 15) (.seq (.ops [
       ⟨(some 16), none, (.build [(.ro 1 [] true), (.ro 1 [] true)] [])⟩,
       ⟨(some 17), none, (.mv (.t 5))⟩,
       ⟨(some 18), none, (.mv (.t 8))⟩,
       ⟨none, none, (.store 2 (.t 4) (.t 16))⟩,
       ⟨(some 5), none, (.mv (.t 17))⟩,
       ⟨(some 6), none, (.mv (.c (.bool false)))⟩,
       ⟨(some 7), none, (.mv (.t 18))⟩] ⟨false, [], []⟩)
     .ret)
    .skip)))
  (.seq (.ops [
    ⟨(some 19), none, (.fld 1 (.t 2))⟩,
    ⟨(some 20), none, (.load 1 false (.t 19))⟩,
    ⟨(some 21), none, (.mv (.t 1))⟩,
    ⟨(some 22), none, (.idxs 1 (.t 20) (.t 21))⟩,
    ⟨(some 23), none, (.load 1 false (.t 22))⟩,
    ⟨(some 9), none, (.mv (.t 23))⟩] ⟨false, [], []⟩)
  (.seq (.ops [
    ⟨(some 24), none, (.mv (.t 9))⟩,
    ⟨(some 25), none, (.len 1 (.t 24))⟩,
    ⟨(some 26), none, (.bin .sub (.t 25) (.c (.int .i64 1)))⟩,
    ⟨(some 10), none, (.mv (.t 26))⟩] ⟨false, [], []⟩)
  (.seq (.seq (.ops [
     ⟨(some 27), none, (.mv (.t 10))⟩,
     ⟨(some 28), none, (.bin .lss (.t 27) (.c (.int .i64 0)))⟩] ⟨true, [28, 10, 9, 5, 4, 2, 1], []⟩)
   (.cond (.t 28) (.seq (.ops [
       ⟨(some 29), none, (.load 2 true (.t 2))⟩,
       ⟨(some 30), none, (.mv (.t 1))⟩,
       ⟨(some 31), none, (.mv (.t 9))⟩,
       ⟨(some 32), none, (.call 25 [(.t 29), (.t 30), (.t 31)])⟩,
       ⟨(some 33), none, (.mv (.t 5))⟩,
       ⟨none, none, (.store 2 (.t 4) (.t 32))⟩,
       ⟨(some 5), none, (.mv (.t 33))⟩,
       ⟨(some 6), none, (.mv (.c (.bool false)))⟩,
       ⟨(some 7), none, (.mv (.c (.int .i64 0)))⟩] ⟨false, [], []⟩)
     .ret)
    .skip))
  (.seq (.draw [
    ⟨(some 34), none, (.load 2 true (.t 2))⟩,
    ⟨(some 35), none, (.mv (.t 1))⟩,
    ⟨(some 36), none, (.mv (.t 9))⟩,
    ⟨(some 37), none, (.mv (.t 10))⟩,
    ⟨(some 38), none, (.slice 1 (.t 36) none (some (.t 37)) none)⟩,
    ⟨(some 39), none, (.call 25 [(.t 34), (.t 35), (.t 38)])⟩,
    ⟨(some 40), none, (.mv (.t 9))⟩,
    ⟨(some 41), none, (.mv (.t 10))⟩,
    ⟨(some 42), none, (.idxs 1 (.t 40) (.t 41))⟩,
    ⟨(some 43), none, (.load 1 false (.t 42))⟩,
    ⟨none, none, (.store 2 (.t 4) (.t 39))⟩,
    ⟨(some 5), none, (.mv (.t 43))⟩,
    ⟨(some 6), none, (.mv (.c (.bool true)))⟩,
    ⟨(some 7), none, (.mv (.c (.int .i64 0)))⟩] [(5, 9), (9, 10)] ⟨false, [], []⟩)
  .ret))))))⟩

/- paternoster/pools.Trim[int] -/
def w12_c0 : WCode := (.seq (.draw [
    ⟨(some 46), none, (.load 2 true (.t 4))⟩,
    ⟨(some 47), none, (.mv (.t 5))⟩,
    ⟨(some 48), none, (.call 26 [(.t 47)])⟩,
    ⟨none, none, (.store 2 (.t 4) (.t 46))⟩,
    ⟨(some 5), none, (.mv (.t 48))⟩,
    ⟨(some 6), none, (.mv (.c (.int .i64 0)))⟩] [(0, 2)] ⟨false, [], []⟩)
  .ret)

def w12_B0 : WCode := (.seq (.ops [
    ⟨(some 25), none, (.bin .lss (.t 24) (.t 23))⟩] ⟨false, [], []⟩)
  (.seq (.cond (.t 25) .skip
    (.exit 0))
  (.seq (.block 1 (.seq (.ops [
      ⟨(some 26), none, (.mv (.t 24))⟩,
      ⟨(some 27), none, (.idxs 1 (.t 22) (.t 24))⟩,
      ⟨(some 28), none, (.load 1 false (.t 27))⟩,
      ⟨(some 8), none, (.mv (.t 26))⟩,
      ⟨(some 9), none, (.mv (.t 28))⟩] ⟨false, [], []⟩)
    (.seq (.ops [
      ⟨(some 29), none, (.mv (.t 9))⟩,
      ⟨(some 30), none, (.len 1 (.t 29))⟩,
      ⟨(some 31), none, (.mv (.t 1))⟩,
      ⟨(some 32), none, (.bin .sub (.t 30) (.t 31))⟩,
      ⟨(some 33), none, (.mx (.t 32) (.c (.int .i64 0)))⟩,
      ⟨(some 10), none, (.mv (.t 33))⟩] ⟨true, [24, 23, 22, 10, 9, 8, 5, 4, 1], []⟩)
    (.seq (.ops [
      ⟨(some 34), none, (.mv (.t 5))⟩,
      ⟨(some 35), none, (.mv (.t 9))⟩,
      ⟨(some 36), none, (.mv (.t 10))⟩,
      ⟨(some 37), none, (.slice 1 (.t 35) none (some (.t 36)) none)⟩,
      ⟨(some 38), none, (.app [(.int .i64 0)] 8 false (.t 34) (.t 37))⟩,
      ⟨(some 5), none, (.mv (.t 38))⟩] ⟨false, [], []⟩)
    (.draw [
     ⟨(some 39), none, (.load 2 true (.t 4))⟩,
     ⟨(some 40), none, (.mv (.t 8))⟩,
     ⟨(some 41), none, (.mv (.t 9))⟩,
     ⟨(some 42), none, (.mv (.t 10))⟩,
     ⟨(some 43), none, (.slice 1 (.t 41) (some (.t 42)) none none)⟩,
     ⟨(some 44), none, (.call 25 [(.t 39), (.t 40), (.t 43)])⟩,
     ⟨none, none, (.store 2 (.t 4) (.t 44))⟩] [] ⟨false, [], []⟩)))) ⟨false, [], []⟩)
  (.ops [
   ⟨(some 45), none, (.bin .add (.t 24) (.c (.int .i64 1)))⟩,
   ⟨(some 24), none, (.mv (.t 45))⟩] ⟨false, [], []⟩))))
def w12_L0 : WCode := .loop ⟨true, [24, 23, 22, 5, 4, 1], []⟩ w12_B0
def w12 : WFn := ⟨2, [.cell 4 2 true, .tmp 5, .tmp 6],
 (.seq (.ops [
    ⟨(some 2), none, (.box (.t 0))⟩,
    ⟨(some 4), none, (.alloc [(.ro 1 [] true), (.ro 1 [] true)])⟩,
    ⟨(some 5), none, (.mv (.c (.ro 1 [] true)))⟩,
    ⟨(some 6), none, (.mv (.c (.int .i64 0)))⟩] ⟨true, [5, 4, 2, 1], [(5, 1)]⟩)
  (.seq (.seq (.ops [
     ⟨(some 11), none, (.load 2 true (.t 2))⟩,
     ⟨(some 12), none, (.call 20 [(.t 11)])⟩,
     ⟨(some 7), none, (.mv (.t 12))⟩] ⟨false, [], []⟩)
   (.seq (.ops [
     ⟨(some 13), none, (.mv (.t 7))⟩,
     ⟨(some 14), none, (.bin .neq (.t 13) (.c (.int .i64 0)))⟩] ⟨true, [14, 7, 5, 4, 2, 1], []⟩)
   (.cond (.t 14) (.seq (.ops [
       ⟨(some 15), none, (.build [(.ro 1 [] true), (.ro 1 [] true)] [])⟩,
       ⟨(some 16), none, (.mv (.t 7))⟩,
       ⟨none, none, (.store 2 (.t 4) (.t 15))⟩,
       ⟨(some 5), none, (.mv (.c (.ro 1 [] true)))⟩,
       ⟨(some 6), none, (.mv (.t 16))⟩] ⟨false, [], []⟩)
     .ret)
    .skip)))
  (.seq (.seq (.ops [
     ⟨(some 17), none, (.mv (.t 1))⟩,
     ⟨(some 18), none, (.bin .lss (.t 17) (.c (.int .i64 0)))⟩] ⟨false, [], []⟩)
   (.cond (.t 18) (.seq (.ops [
       ⟨(some 19), none, (.build [(.ro 1 [] true), (.ro 1 [] true)] [])⟩,
       ⟨none, none, (.store 2 (.t 4) (.t 19))⟩,
       ⟨(some 5), none, (.mv (.c (.ro 1 [] true)))⟩,
       ⟨(some 6), none, (.mv (.c (.int .i64 4)))⟩] ⟨false, [], []⟩)
     .ret)
    .skip))
  (.seq (.ops [
    ⟨(some 20), none, (.load 2 true (.t 2))⟩,
    ⟨none, none, (.store 2 (.t 4) (.t 20))⟩] ⟨false, [], []⟩)
  (.seq (.seq (.ops [
     ⟨(some 21), none, (.fld 1 (.t 2))⟩,
     ⟨(some 22), none, (.load 1 false (.t 21))⟩,
     ⟨(some 23), none, (.len 1 (.t 22))⟩,
     ⟨(some 24), none, (.mv (.c (.int .i64 0)))⟩] ⟨false, [], []⟩)
   (.block 0 w12_L0 ⟨true, [5, 4], []⟩))
  w12_c0)))))⟩

@[simp] theorem w12_E0 {β : Type} {C : WProg} {b : Nat} {f : Ex × WSt → Option β} {k : List Pw.Frame} {s : WSt} : CK C b f k w12_L0 s = LK C b f (.sq w12_L0 :: k) w12_B0 (canon b ⟨true, [24, 23, 22, 5, 4, 1], []⟩ s) := ck_lp rfl
noncomputable abbrev w12_K0 (C : WProg) (s : WSt) : Option AV := CK C 0 (pureFin [.cell 4 2 true, .tmp 5, .tmp 6]) [.sq w12_L0, .bk 0 ⟨true, [5, 4], []⟩, .sq w12_c0] w12_B0 s

/- paternoster/paternosterref21.Trim -/
def w13_c0 : WCode := (.seq (.ops [
    ⟨(some 46), none, (.load 2 true (.t 6))⟩,
    ⟨(some 47), none, (.mv (.t 7))⟩,
    ⟨none, none, (.store 2 (.t 4) (.t 46))⟩,
    ⟨(some 5), none, (.mv (.t 47))⟩] ⟨false, [], []⟩)
  .ret)

def w13_c1 : WCode := (.ops [
   ⟨(some 16), none, (.mv (.t 8))⟩,
   ⟨(some 17), none, (.bin .add (.t 16) (.c (.int .i64 1)))⟩,
   ⟨(some 8), none, (.mv (.t 17))⟩] ⟨false, [], []⟩)

def w13_B1 : WCode := (.seq (.seq (.ops [
     ⟨(some 18), none, (.fld 1 (.t 6))⟩,
     ⟨(some 19), none, (.load 1 false (.t 18))⟩,
     ⟨(some 20), none, (.mv (.t 8))⟩,
     ⟨(some 21), none, (.idxs 1 (.t 19) (.t 20))⟩,
     ⟨(some 22), none, (.load 1 false (.t 21))⟩,
     ⟨(some 23), none, (.len 1 (.t 22))⟩,
     ⟨(some 24), none, (.mv (.t 1))⟩,
     ⟨(some 25), none, (.bin .gtr (.t 23) (.t 24))⟩] ⟨false, [], []⟩)
   (.cond (.t 25) .skip
    (.exit 2)))
  (.block 3 (.seq (.ops [
     ⟨(some 26), none, (.mv (.t 7))⟩,
     ⟨(some 27), none, (.fld 1 (.t 6))⟩,
     ⟨(some 28), none, (.load 1 false (.t 27))⟩,
     ⟨(some 29), none, (.mv (.t 8))⟩,
     ⟨(some 30), none, (.idxs 1 (.t 28) (.t 29))⟩,
     ⟨(some 31), none, (.load 1 false (.t 30))⟩,
     ⟨(some 32), none, (.idxs 1 (.t 31) (.c (.int .i64 0)))⟩,
     ⟨(some 33), none, (.load 1 false (.t 32))⟩,
     ⟨(some 34), none, (.buildS [(.int .i64 0)] 1 [(0, (.t 33))])⟩,
     ⟨(some 35), none, (.app [(.int .i64 0)] 8 false (.t 26) (.t 34))⟩,
     ⟨(some 7), none, (.mv (.t 35))⟩] ⟨true, [8, 7, 6, 4, 1], []⟩)
   (.draw [
    ⟨(some 36), none, (.fld 1 (.t 6))⟩,
    ⟨(some 37), none, (.load 1 false (.t 36))⟩,
    ⟨(some 38), none, (.mv (.t 8))⟩,
    ⟨(some 39), none, (.fld 1 (.t 6))⟩,
    ⟨(some 40), none, (.load 1 false (.t 39))⟩,
    ⟨(some 41), none, (.mv (.t 8))⟩,
    ⟨(some 42), none, (.idxs 1 (.t 40) (.t 41))⟩,
    ⟨(some 43), none, (.load 1 false (.t 42))⟩,
    ⟨(some 44), none, (.slice 1 (.t 43) (some (.c (.int .i64 1))) none none)⟩,
    ⟨(some 45), none, (.idxs 1 (.t 37) (.t 38))⟩,
    ⟨none, none, (.store 1 (.t 45) (.t 44))⟩] [] ⟨false, [], []⟩)) ⟨false, [], []⟩))
def w13_L1 : WCode := .loop ⟨true, [8, 7, 6, 4, 1], []⟩ w13_B1
def w13_B0 : WCode := (.seq (.seq (.ops [
     ⟨(some 11), none, (.mv (.t 8))⟩,
     ⟨(some 12), none, (.fld 1 (.t 6))⟩,
     ⟨(some 13), none, (.load 1 false (.t 12))⟩,
     ⟨(some 14), none, (.len 1 (.t 13))⟩,
     ⟨(some 15), none, (.bin .lss (.t 11) (.t 14))⟩] ⟨false, [], []⟩)
   (.cond (.t 15) .skip
    (.exit 0)))
  (.seq (.block 1 (.block 2 w13_L1 ⟨true, [8, 7, 6, 4, 1], []⟩) ⟨true, [8, 7, 6, 4, 1], []⟩)
  w13_c1))
def w13_L0 : WCode := .loop ⟨true, [8, 7, 6, 4, 1], []⟩ w13_B0
def w13 : WFn := ⟨2, [.cell 4 2 true, .tmp 5],
 (.seq (.ops [
    ⟨(some 2), none, (.box (.t 0))⟩,
    ⟨(some 4), none, (.alloc [(.ro 1 [] true), (.ro 1 [] true)])⟩,
    ⟨(some 5), none, (.mv (.c (.ro 1 [] true)))⟩] ⟨false, [], []⟩)
  (.seq (.ops [
    ⟨(some 9), none, (.load 2 true (.t 2))⟩,
    ⟨(some 10), none, (.call 27 [(.t 9)])⟩,
    ⟨(some 6), none, (.alloc [(.ro 1 [] true), (.ro 1 [] true)])⟩,
    ⟨none, none, (.store 2 (.t 6) (.t 10))⟩] ⟨false, [], []⟩)
  (.seq (.ops [
    ⟨(some 7), none, (.mv (.c (.ro 1 [] true)))⟩] ⟨true, [7, 6, 4, 1], [(7, 1)]⟩)
  (.seq (.seq (.ops [
     ⟨(some 8), none, (.mv (.c (.int .i64 0)))⟩] ⟨false, [], []⟩)
   (.block 0 w13_L0 ⟨true, [7, 6, 4], []⟩))
  w13_c0))))⟩

@[simp] theorem w13_E1 {β : Type} {C : WProg} {b : Nat} {f : Ex × WSt → Option β} {k : List Pw.Frame} {s : WSt} : CK C b f k w13_L1 s = LK C b f (.sq w13_L1 :: k) w13_B1 (canon b ⟨true, [8, 7, 6, 4, 1], []⟩ s) := ck_lp rfl
noncomputable abbrev w13_K1 (C : WProg) (s : WSt) : Option AV := CK C 0 (pureFin [.cell 4 2 true, .tmp 5]) [.sq w13_L1, .bk 2 ⟨true, [8, 7, 6, 4, 1], []⟩, .bk 1 ⟨true, [8, 7, 6, 4, 1], []⟩, .sq w13_c1, .sq w13_L0, .bk 0 ⟨true, [7, 6, 4], []⟩, .sq w13_c0] w13_B1 s

@[simp] theorem w13_E0 {β : Type} {C : WProg} {b : Nat} {f : Ex × WSt → Option β} {k : List Pw.Frame} {s : WSt} : CK C b f k w13_L0 s = LK C b f (.sq w13_L0 :: k) w13_B0 (canon b ⟨true, [8, 7, 6, 4, 1], []⟩ s) := ck_lp rfl
noncomputable abbrev w13_K0 (C : WProg) (s : WSt) : Option AV := CK C 0 (pureFin [.cell 4 2 true, .tmp 5]) [.sq w13_L0, .bk 0 ⟨true, [7, 6, 4], []⟩, .sq w13_c0] w13_B0 s

/- paternoster/paternosterlaw21.ints -/
def w14_c0 : WCode := (.seq (.ops [
    ⟨(some 4), none, (.mv (.c (.int .i64 1)))⟩] ⟨false, [], []⟩)
  .ret)

def w14_B0 : WCode := (.seq (.seq (.ops [
     ⟨(some 18), none, (.mv (.t 5))⟩,
     ⟨(some 19), none, (.mv (.t 0))⟩,
     ⟨(some 20), none, (.len 1 (.t 19))⟩,
     ⟨(some 21), none, (.bin .lss (.t 18) (.t 20))⟩] ⟨false, [], []⟩)
   (.cond (.t 21) .skip
    (.exit 0)))
  (.seq (.block 1 (.seq (.draw [
      ⟨(some 24), none, (.mv (.t 0))⟩,
      ⟨(some 25), none, (.mv (.t 5))⟩,
      ⟨(some 26), none, (.idxs 1 (.t 24) (.t 25))⟩,
      ⟨(some 27), none, (.load 1 false (.t 26))⟩,
      ⟨(some 28), none, (.mv (.t 1))⟩,
      ⟨(some 29), none, (.mv (.t 5))⟩,
      ⟨(some 30), none, (.idxs 1 (.t 28) (.t 29))⟩,
      ⟨(some 31), none, (.load 1 false (.t 30))⟩,
      ⟨(some 32), none, (.bin .neq (.t 27) (.t 31))⟩] [] ⟨false, [], []⟩)
    (.cond (.t 32) (.seq (.ops [
        ⟨(some 4), none, (.mv (.c (.int .i64 0)))⟩] ⟨false, [], []⟩)
      .ret)
     .skip)) ⟨false, [], []⟩)
  (.ops [
   ⟨(some 22), none, (.mv (.t 5))⟩,
   ⟨(some 23), none, (.bin .add (.t 22) (.c (.int .i64 1)))⟩,
   ⟨(some 5), none, (.mv (.t 23))⟩] ⟨false, [], []⟩)))
def w14_L0 : WCode := .loop ⟨true, [5, 1, 0], []⟩ w14_B0
def w14 : WFn := ⟨2, [.tmp 4],
 (.seq (.ops [
    ⟨(some 4), none, (.mv (.c (.int .i64 0)))⟩] ⟨false, [], []⟩)
  (.seq (.seq (.ops [
     ⟨(some 6), none, (.mv (.t 0))⟩,
     ⟨(some 7), none, (.len 1 (.t 6))⟩,
     ⟨(some 8), none, (.mv (.t 1))⟩,
     ⟨(some 9), none, (.len 1 (.t 8))⟩,
     ⟨(some 10), none, (.bin .neq (.t 7) (.t 9))⟩,
     ⟨(some 11), none, (.mv (.t 10))⟩,
     ⟨(some 12), (some (11, false)), (.mv (.t 0))⟩,
     ⟨(some 13), (some (11, false)), (.cap (.t 12))⟩,
     ⟨(some 14), (some (11, false)), (.mv (.t 0))⟩,
     ⟨(some 15), (some (11, false)), (.len 1 (.t 14))⟩,
     ⟨(some 16), (some (11, false)), (.bin .neq (.t 13) (.t 15))⟩,
     ⟨(some 17), none, (.pick (.t 11) (.c (.bool true)) (.t 16))⟩] ⟨true, [17, 1, 0], []⟩)
   (.cond (.t 17) (.seq (.ops [
       ⟨(some 4), none, (.mv (.c (.int .i64 0)))⟩] ⟨false, [], []⟩)
     .ret)
    .skip))
  (.seq (.seq (.ops [
     ⟨(some 5), none, (.mv (.c (.int .i64 0)))⟩] ⟨false, [], []⟩)
   (.block 0 w14_L0 ⟨true, [], []⟩))
  w14_c0)))⟩

@[simp] theorem w14_E0 {β : Type} {C : WProg} {b : Nat} {f : Ex × WSt → Option β} {k : List Pw.Frame} {s : WSt} : CK C b f k w14_L0 s = LK C b f (.sq w14_L0 :: k) w14_B0 (canon b ⟨true, [5, 1, 0], []⟩ s) := ck_lp rfl
noncomputable abbrev w14_K0 (C : WProg) (s : WSt) : Option AV := CK C 0 (pureFin [.tmp 4]) [.sq w14_L0, .bk 0 ⟨true, [], []⟩, .sq w14_c0] w14_B0 s

/- paternoster/pools.Len[int] -/
def w15 : WFn := ⟨2, [.tmp 4, .tmp 5],
 (.seq (.ops [
    ⟨(some 2), none, (.box (.t 0))⟩,
    ⟨(some 4), none, (.mv (.c (.int .i64 0)))⟩,
    ⟨(some 5), none, (.mv (.c (.int .i64 0)))⟩] ⟨false, [], []⟩)
  (.seq (.seq (.ops [
     ⟨(some 7), none, (.load 2 true (.t 2))⟩,
     ⟨(some 8), none, (.mv (.t 1))⟩,
     ⟨(some 9), none, (.call 24 [(.t 7), (.t 8)])⟩,
     ⟨(some 6), none, (.mv (.t 9))⟩] ⟨false, [], []⟩)
   (.seq (.ops [
     ⟨(some 10), none, (.mv (.t 6))⟩,
     ⟨(some 11), none, (.bin .neq (.t 10) (.c (.int .i64 0)))⟩] ⟨false, [], []⟩)
   (.cond (.t 11) (.seq (.ops [
       ⟨(some 12), none, (.mv (.t 6))⟩,
       ⟨(some 4), none, (.mv (.c (.int .i64 0)))⟩,
       ⟨(some 5), none, (.mv (.t 12))⟩] ⟨false, [], []⟩)
     .ret)
    .skip)))
  (.seq (.ops [
    ⟨(some 13), none, (.fld 1 (.t 2))⟩,
    ⟨(some 14), none, (.load 1 false (.t 13))⟩,
    ⟨(some 15), none, (.mv (.t 1))⟩,
    ⟨(some 16), none, (.idxs 1 (.t 14) (.t 15))⟩,
    ⟨(some 17), none, (.load 1 false (.t 16))⟩,
    ⟨(some 18), none, (.len 1 (.t 17))⟩,
    ⟨(some 4), none, (.mv (.t 18))⟩,
    ⟨(some 5), none, (.mv (.c (.int .i64 0)))⟩] ⟨false, [], []⟩)
  .ret)))⟩

/- paternoster/pools.All[int] -/
def w16 : WFn := ⟨1, [.tmp 2, .tmp 3],
 (.seq (.ops [
    ⟨(some 1), none, (.box (.t 0))⟩,
    ⟨(some 2), none, (.mv (.c (.ro 1 [] true)))⟩,
    ⟨(some 3), none, (.mv (.c (.int .i64 0)))⟩] ⟨false, [], []⟩)
  (.seq (.seq (.ops [
     ⟨(some 5), none, (.load 2 true (.t 1))⟩,
     ⟨(some 6), none, (.call 20 [(.t 5)])⟩,
     ⟨(some 4), none, (.mv (.t 6))⟩] ⟨false, [], []⟩)
   (.seq (.ops [
     ⟨(some 7), none, (.mv (.t 4))⟩,
     ⟨(some 8), none, (.bin .neq (.t 7) (.c (.int .i64 0)))⟩] ⟨false, [], []⟩)
   (.cond (.t 8) (.seq (.ops [
       ⟨(some 9), none, (.mv (.t 4))⟩,
       ⟨(some 2), none, (.mv (.c (.ro 1 [] true)))⟩,
       ⟨(some 3), none, (.mv (.t 9))⟩] ⟨false, [], []⟩)
     .ret)
    .skip)))
  (.seq (.ops [
    ⟨(some 10), none, (.fld 1 (.t 1))⟩,
    ⟨(some 11), none, (.load 1 false (.t 10))⟩,
    ⟨(some 12), none, (.call 28 [(.t 11)])⟩,
    ⟨(some 13), none, (.call 26 [(.t 12)])⟩,
    ⟨(some 2), none, (.mv (.t 13))⟩,
    ⟨(some 3), none, (.mv (.c (.int .i64 0)))⟩] ⟨false, [], []⟩)
  .ret)))⟩

/- paternoster/paternosterref21.All -/
def w17_c0 : WCode := (.seq (.ops [
    ⟨(some 19), none, (.mv (.t 3))⟩,
    ⟨(some 2), none, (.mv (.t 19))⟩] ⟨false, [], []⟩)
  .ret)

def w17_B0 : WCode := (.seq (.seq (.ops [
     ⟨(some 5), none, (.mv (.t 4))⟩,
     ⟨(some 6), none, (.fld 1 (.t 1))⟩,
     ⟨(some 7), none, (.load 1 false (.t 6))⟩,
     ⟨(some 8), none, (.len 1 (.t 7))⟩,
     ⟨(some 9), none, (.bin .lss (.t 5) (.t 8))⟩] ⟨false, [], []⟩)
   (.cond (.t 9) .skip
    (.exit 0)))
  (.seq (.block 1 (.ops [
     ⟨(some 12), none, (.mv (.t 3))⟩,
     ⟨(some 13), none, (.fld 1 (.t 1))⟩,
     ⟨(some 14), none, (.load 1 false (.t 13))⟩,
     ⟨(some 15), none, (.mv (.t 4))⟩,
     ⟨(some 16), none, (.idxs 1 (.t 14) (.t 15))⟩,
     ⟨(some 17), none, (.load 1 false (.t 16))⟩,
     ⟨(some 18), none, (.app [(.int .i64 0)] 8 false (.t 12) (.t 17))⟩,
     ⟨(some 3), none, (.mv (.t 18))⟩] ⟨false, [], []⟩) ⟨false, [], []⟩)
  (.ops [
   ⟨(some 10), none, (.mv (.t 4))⟩,
   ⟨(some 11), none, (.bin .add (.t 10) (.c (.int .i64 1)))⟩,
   ⟨(some 4), none, (.mv (.t 11))⟩] ⟨false, [], []⟩)))
def w17_L0 : WCode := .loop ⟨true, [4, 3, 1], []⟩ w17_B0
def w17 : WFn := ⟨1, [.tmp 2],
 (.seq (.ops [
    ⟨(some 1), none, (.box (.t 0))⟩,
    ⟨(some 2), none, (.mv (.c (.ro 1 [] true)))⟩] ⟨false, [], []⟩)
  (.seq (.ops [
    ⟨(some 3), none, (.mv (.c (.ro 1 [] true)))⟩] ⟨true, [3, 1], [(3, 1)]⟩)
  (.seq (.seq (.ops [
     ⟨(some 4), none, (.mv (.c (.int .i64 0)))⟩] ⟨false, [], []⟩)
   (.block 0 w17_L0 ⟨true, [3], []⟩))
  w17_c0)))⟩

@[simp] theorem w17_E0 {β : Type} {C : WProg} {b : Nat} {f : Ex × WSt → Option β} {k : List Pw.Frame} {s : WSt} : CK C b f k w17_L0 s = LK C b f (.sq w17_L0 :: k) w17_B0 (canon b ⟨true, [4, 3, 1], []⟩ s) := ck_lp rfl
noncomputable abbrev w17_K0 (C : WProg) (s : WSt) : Option AV := CK C 0 (pureFin [.tmp 2]) [.sq w17_L0, .bk 0 ⟨true, [3], []⟩, .sq w17_c0] w17_B0 s

/- paternoster/paternosterlaw21.lives -/
def w18 : WFn := ⟨0, [.tmp 0],
 (.seq (.ops [
    ⟨(some 0), none, (.mv (.c (.bool false)))⟩] ⟨false, [], []⟩)
  (.seq (.ops [
    ⟨(some 19), none, (.buildS [(.int .i64 0)] 2 [(0, (.c (.int .i64 1))), (1, (.c (.int .i64 2)))])⟩,
    ⟨(some 20), none, (.call 29 [(.t 19)])⟩,
    ⟨(some 18), none, (.mv (.t 20))⟩,
    ⟨(some 21), none, (.ext 0 (.t 18))⟩,
    ⟨(some 22), none, (.ext 1 (.t 18))⟩,
    ⟨(some 1), none, (.alloc [(.ro 1 [] true), (.ro 1 [] true)])⟩,
    ⟨none, none, (.store 2 (.t 1) (.t 21))⟩,
    ⟨(some 2), none, (.mv (.t 22))⟩] ⟨false, [], []⟩)
  (.seq (.ops [
    ⟨(some 24), none, (.load 2 true (.t 1))⟩,
    ⟨(some 25), none, (.call 30 [(.t 24), (.c (.int .i64 0)), (.c (.str [120]))])⟩,
    ⟨(some 23), none, (.mv (.t 25))⟩,
    ⟨(some 26), none, (.ext 0 (.t 23))⟩,
    ⟨(some 27), none, (.ext 1 (.t 23))⟩,
    ⟨(some 28), none, (.ext 2 (.t 23))⟩,
    ⟨(some 3), none, (.alloc [(.ro 1 [] true), (.ro 1 [] true)])⟩,
    ⟨none, none, (.store 2 (.t 3) (.t 26))⟩,
    ⟨(some 4), none, (.mv (.t 27))⟩,
    ⟨(some 5), none, (.mv (.t 28))⟩] ⟨true, [5, 4, 3, 2, 1], []⟩)
  (.seq (.ops [
    ⟨(some 30), none, (.load 2 true (.t 3))⟩,
    ⟨(some 31), none, (.call 30 [(.t 30), (.c (.int .i64 0)), (.c (.str [121]))])⟩,
    ⟨(some 29), none, (.mv (.t 31))⟩,
    ⟨(some 32), none, (.ext 0 (.t 29))⟩,
    ⟨(some 33), none, (.ext 1 (.t 29))⟩,
    ⟨(some 34), none, (.ext 2 (.t 29))⟩,
    ⟨(some 6), none, (.alloc [(.ro 1 [] true), (.ro 1 [] true)])⟩,
    ⟨none, none, (.store 2 (.t 6) (.t 32))⟩,
    ⟨(some 7), none, (.mv (.t 33))⟩,
    ⟨(some 8), none, (.mv (.t 34))⟩] ⟨false, [], []⟩)
  (.seq (.ops [
    ⟨(some 36), none, (.load 2 true (.t 6))⟩,
    ⟨(some 37), none, (.call 31 [(.t 36), (.c (.int .i64 0))])⟩,
    ⟨(some 35), none, (.mv (.t 37))⟩,
    ⟨(some 38), none, (.ext 0 (.t 35))⟩,
    ⟨(some 39), none, (.ext 1 (.t 35))⟩,
    ⟨(some 9), none, (.mv (.t 38))⟩,
    ⟨(some 10), none, (.mv (.t 39))⟩] ⟨false, [], []⟩)
  (.seq (.seq (.ops [
     ⟨(some 40), none, (.mv (.t 2))⟩,
     ⟨(some 41), none, (.mv (.t 5))⟩,
     ⟨(some 42), none, (.bin .add (.t 40) (.t 41))⟩,
     ⟨(some 43), none, (.mv (.t 8))⟩,
     ⟨(some 44), none, (.bin .add (.t 42) (.t 43))⟩,
     ⟨(some 45), none, (.mv (.t 10))⟩,
     ⟨(some 46), none, (.bin .add (.t 44) (.t 45))⟩,
     ⟨(some 47), none, (.bin .neq (.t 46) (.c (.int .i64 0)))⟩,
     ⟨(some 48), none, (.mv (.t 47))⟩,
     ⟨(some 49), (some (48, false)), (.mv (.t 4))⟩,
     ⟨(some 50), none, (.pick (.t 48) (.c (.bool true)) (.t 49))⟩,
     ⟨(some 51), none, (.mv (.t 50))⟩,
     ⟨(some 52), (some (51, false)), (.mv (.t 7))⟩,
     ⟨(some 53), (some (51, false)), (.un .not (.t 52))⟩,
     ⟨(some 54), none, (.pick (.t 51) (.c (.bool true)) (.t 53))⟩,
     ⟨(some 55), none, (.mv (.t 54))⟩,
     ⟨(some 56), (some (55, false)), (.mv (.t 9))⟩,
     ⟨(some 57), (some (55, false)), (.bin .neq (.t 56) (.c (.int .i64 1)))⟩,
     ⟨(some 58), none, (.pick (.t 55) (.c (.bool true)) (.t 57))⟩] ⟨true, [58, 3, 1], []⟩)
   (.cond (.t 58) (.seq (.ops [
       ⟨(some 0), none, (.mv (.c (.bool false)))⟩] ⟨false, [], []⟩)
     .ret)
    .skip))
  (.seq (.ops [
    ⟨(some 60), none, (.load 2 true (.t 1))⟩,
    ⟨(some 61), none, (.call 30 [(.t 60), (.c (.int .i64 1)), (.c (.str [120]))])⟩,
    ⟨(some 59), none, (.mv (.t 61))⟩,
    ⟨(some 62), none, (.ext 0 (.t 59))⟩,
    ⟨(some 63), none, (.ext 1 (.t 59))⟩,
    ⟨(some 64), none, (.ext 2 (.t 59))⟩,
    ⟨none, none, (.store 2 (.t 3) (.t 62))⟩,
    ⟨(some 2), none, (.mv (.t 64))⟩] ⟨false, [], []⟩)
  (.seq (.ops [
    ⟨(some 66), none, (.load 2 true (.t 3))⟩,
    ⟨(some 67), none, (.call 30 [(.t 66), (.c (.int .i64 1)), (.c (.str [121]))])⟩,
    ⟨(some 65), none, (.mv (.t 67))⟩,
    ⟨(some 68), none, (.ext 0 (.t 65))⟩,
    ⟨(some 69), none, (.ext 1 (.t 65))⟩,
    ⟨(some 70), none, (.ext 2 (.t 65))⟩,
    ⟨none, none, (.store 2 (.t 3) (.t 68))⟩,
    ⟨(some 5), none, (.mv (.t 70))⟩] ⟨false, [], []⟩)
  (.seq (.ops [
    ⟨(some 72), none, (.load 2 true (.t 3))⟩,
    ⟨(some 73), none, (.call 32 [(.t 72), (.c (.int .i64 1))])⟩,
    ⟨(some 71), none, (.mv (.t 73))⟩,
    ⟨(some 74), none, (.ext 0 (.t 71))⟩,
    ⟨(some 75), none, (.ext 1 (.t 71))⟩,
    ⟨(some 76), none, (.ext 2 (.t 71))⟩,
    ⟨(some 77), none, (.ext 3 (.t 71))⟩,
    ⟨(some 11), none, (.alloc [(.ro 1 [] true), (.ro 1 [] true)])⟩,
    ⟨none, none, (.store 2 (.t 11) (.t 74))⟩,
    ⟨(some 12), none, (.mv (.t 75))⟩,
    ⟨(some 13), none, (.mv (.t 76))⟩,
    ⟨(some 8), none, (.mv (.t 77))⟩] ⟨true, [13, 12, 8, 5, 3, 2, 1], []⟩)
  (.seq (.ops [
    ⟨(some 79), none, (.load 2 true (.t 3))⟩,
    ⟨(some 80), none, (.call 33 [(.t 79), (.c (.int .i64 1))])⟩,
    ⟨(some 78), none, (.mv (.t 80))⟩,
    ⟨(some 81), none, (.ext 0 (.t 78))⟩,
    ⟨(some 82), none, (.ext 1 (.t 78))⟩,
    ⟨(some 83), none, (.ext 2 (.t 78))⟩,
    ⟨(some 14), none, (.alloc [(.ro 1 [] true), (.ro 1 [] true)])⟩,
    ⟨none, none, (.store 2 (.t 14) (.t 81))⟩,
    ⟨(some 15), none, (.mv (.t 82))⟩,
    ⟨(some 10), none, (.mv (.t 83))⟩] ⟨false, [], []⟩)
  (.seq (.ops [
    ⟨(some 85), none, (.load 2 true (.t 14))⟩,
    ⟨(some 86), none, (.call 34 [(.t 85)])⟩,
    ⟨(some 84), none, (.mv (.t 86))⟩,
    ⟨(some 87), none, (.ext 0 (.t 84))⟩,
    ⟨(some 88), none, (.ext 1 (.t 84))⟩,
    ⟨(some 16), none, (.mv (.t 87))⟩,
    ⟨(some 17), none, (.mv (.t 88))⟩] ⟨false, [], []⟩)
  (.seq (.seq (.ops [
     ⟨(some 89), none, (.mv (.t 2))⟩,
     ⟨(some 90), none, (.mv (.t 5))⟩,
     ⟨(some 91), none, (.bin .add (.t 89) (.t 90))⟩,
     ⟨(some 92), none, (.mv (.t 8))⟩,
     ⟨(some 93), none, (.bin .add (.t 91) (.t 92))⟩,
     ⟨(some 94), none, (.mv (.t 10))⟩,
     ⟨(some 95), none, (.bin .add (.t 93) (.t 94))⟩,
     ⟨(some 96), none, (.mv (.t 17))⟩,
     ⟨(some 97), none, (.bin .add (.t 95) (.t 96))⟩,
     ⟨(some 98), none, (.bin .neq (.t 97) (.c (.int .i64 0)))⟩,
     ⟨(some 99), none, (.mv (.t 98))⟩,
     ⟨(some 100), (some (99, false)), (.mv (.t 12))⟩,
     ⟨(some 101), (some (99, false)), (.bin .neq (.t 100) (.c (.str [121])))⟩,
     ⟨(some 102), none, (.pick (.t 99) (.c (.bool true)) (.t 101))⟩,
     ⟨(some 103), none, (.mv (.t 102))⟩,
     ⟨(some 104), (some (103, false)), (.mv (.t 13))⟩,
     ⟨(some 105), (some (103, false)), (.un .not (.t 104))⟩,
     ⟨(some 106), none, (.pick (.t 103) (.c (.bool true)) (.t 105))⟩,
     ⟨(some 107), none, (.mv (.t 106))⟩,
     ⟨(some 108), (some (107, false)), (.mv (.t 15))⟩,
     ⟨(some 109), (some (107, false)), (.len 1 (.t 108))⟩,
     ⟨(some 110), (some (107, false)), (.bin .neq (.t 109) (.c (.int .i64 1)))⟩,
     ⟨(some 111), none, (.pick (.t 107) (.c (.bool true)) (.t 110))⟩,
     ⟨(some 112), none, (.mv (.t 111))⟩,
     ⟨(some 113), (some (112, false)), (.mv (.t 15))⟩,
     ⟨(some 114), (some (112, false)), (.idxs 1 (.t 113) (.c (.int .i64 0)))⟩,
     ⟨(some 115), (some (112, false)), (.load 1 false (.t 114))⟩,
     ⟨(some 116), (some (112, false)), (.bin .neq (.t 115) (.c (.str [120])))⟩,
     ⟨(some 117), none, (.pick (.t 112) (.c (.bool true)) (.t 116))⟩,
     ⟨(some 118), none, (.mv (.t 117))⟩,
     ⟨(some 119), (some (118, false)), (.mv (.t 16))⟩,
     ⟨(some 120), (some (118, false)), (.len 1 (.t 119))⟩,
     ⟨(some 121), (some (118, false)), (.bin .neq (.t 120) (.c (.int .i64 1)))⟩,
     ⟨(some 122), none, (.pick (.t 118) (.c (.bool true)) (.t 121))⟩,
     ⟨(some 123), none, (.mv (.t 122))⟩,
     ⟨(some 124), (some (123, false)), (.mv (.t 16))⟩,
     ⟨(some 125), (some (123, false)), (.idxs 1 (.t 124) (.c (.int .i64 0)))⟩,
     ⟨(some 126), (some (123, false)), (.load 1 false (.t 125))⟩,
     ⟨(some 127), (some (123, false)), (.bin .neq (.t 126) (.c (.str [121])))⟩,
     ⟨(some 128), none, (.pick (.t 123) (.c (.bool true)) (.t 127))⟩] ⟨true, [128, 1], []⟩)
   (.cond (.t 128) (.seq (.ops [
       ⟨(some 0), none, (.mv (.c (.bool false)))⟩] ⟨true, [0], []⟩)
     .ret)
    .skip))
  (.seq (.ops [
    ⟨(some 130), none, (.load 2 true (.t 1))⟩,
    ⟨(some 131), none, (.call 32 [(.t 130), (.c (.int .i64 0))])⟩,
    ⟨(some 129), none, (.mv (.t 131))⟩,
    ⟨(some 132), none, (.ext 0 (.t 129))⟩,
    ⟨(some 133), none, (.ext 1 (.t 129))⟩,
    ⟨(some 134), none, (.ext 2 (.t 129))⟩,
    ⟨(some 135), none, (.ext 3 (.t 129))⟩,
    ⟨(some 13), none, (.mv (.t 134))⟩,
    ⟨(some 2), none, (.mv (.t 135))⟩] ⟨false, [], []⟩)
  (.seq (.ops [
    ⟨(some 137), none, (.load 2 true (.t 1))⟩,
    ⟨(some 138), none, (.call 30 [(.t 137), (.c (.int .i64 2)), (.c (.str [120]))])⟩,
    ⟨(some 136), none, (.mv (.t 138))⟩,
    ⟨(some 139), none, (.ext 0 (.t 136))⟩,
    ⟨(some 140), none, (.ext 1 (.t 136))⟩,
    ⟨(some 141), none, (.ext 2 (.t 136))⟩,
    ⟨(some 5), none, (.mv (.t 141))⟩] ⟨false, [], []⟩)
  (.seq (.ops [
    ⟨(some 143), none, (.load 2 true (.t 1))⟩,
    ⟨(some 144), none, (.call 33 [(.t 143), (.c (.int .i64 (-1)))])⟩,
    ⟨(some 142), none, (.mv (.t 144))⟩,
    ⟨(some 145), none, (.ext 0 (.t 142))⟩,
    ⟨(some 146), none, (.ext 1 (.t 142))⟩,
    ⟨(some 147), none, (.ext 2 (.t 142))⟩,
    ⟨(some 8), none, (.mv (.t 147))⟩] ⟨false, [], []⟩)
  (.seq (.ops [
    ⟨(some 149), none, (.call 29 [(.c (.ro 1 [] true))])⟩,
    ⟨(some 148), none, (.mv (.t 149))⟩,
    ⟨(some 150), none, (.ext 0 (.t 148))⟩,
    ⟨(some 151), none, (.ext 1 (.t 148))⟩,
    ⟨(some 10), none, (.mv (.t 151))⟩] ⟨true, [13, 10, 8, 5, 2], []⟩)
  (.seq (.ops [
    ⟨(some 152), none, (.mv (.t 2))⟩,
    ⟨(some 153), none, (.bin .eql (.t 152) (.c (.int .i64 0)))⟩,
    ⟨(some 154), none, (.mv (.t 153))⟩,
    ⟨(some 155), (some (154, true)), (.mv (.t 13))⟩,
    ⟨(some 156), (some (154, true)), (.un .not (.t 155))⟩,
    ⟨(some 157), none, (.pick (.t 154) (.t 156) (.c (.bool false)))⟩,
    ⟨(some 158), none, (.mv (.t 157))⟩,
    ⟨(some 159), (some (158, true)), (.mv (.t 5))⟩,
    ⟨(some 160), (some (158, true)), (.bin .eql (.t 159) (.c (.int .i64 4)))⟩,
    ⟨(some 161), none, (.pick (.t 158) (.t 160) (.c (.bool false)))⟩,
    ⟨(some 162), none, (.mv (.t 161))⟩,
    ⟨(some 163), (some (162, true)), (.mv (.t 8))⟩,
    ⟨(some 164), (some (162, true)), (.bin .eql (.t 163) (.c (.int .i64 4)))⟩,
    ⟨(some 165), none, (.pick (.t 162) (.t 164) (.c (.bool false)))⟩,
    ⟨(some 166), none, (.mv (.t 165))⟩,
    ⟨(some 167), (some (166, true)), (.mv (.t 10))⟩,
    ⟨(some 168), (some (166, true)), (.bin .eql (.t 167) (.c (.int .i64 1)))⟩,
    ⟨(some 169), none, (.pick (.t 166) (.t 168) (.c (.bool false)))⟩,
    ⟨(some 0), none, (.mv (.t 169))⟩] ⟨false, [], []⟩)
  .ret)))))))))))))))))⟩

/- paternoster/paternosterref21.Check -/
def w19_c0 : WCode := (.seq (.seq (.ops [
     ⟨(some 63), none, (.mv (.t 3))⟩] ⟨false, [], []⟩)
   (.cond (.t 63) (.seq (.ops [
       ⟨(some 2), none, (.mv (.c (.int .i64 1)))⟩] ⟨false, [], []⟩)
     .ret)
    .skip))
  (.seq (.ops [
    ⟨(some 2), none, (.mv (.c (.int .i64 0)))⟩] ⟨false, [], []⟩)
  .ret))

def w19_B0 : WCode := (.seq (.seq (.ops [
     ⟨(some 24), none, (.mv (.t 4))⟩,
     ⟨(some 25), none, (.fld 0 (.t 1))⟩,
     ⟨(some 26), none, (.load 1 false (.t 25))⟩,
     ⟨(some 27), none, (.len 1 (.t 26))⟩,
     ⟨(some 28), none, (.bin .lss (.t 24) (.t 27))⟩,
     ⟨(some 29), none, (.mv (.t 28))⟩,
     ⟨(some 30), (some (29, true)), (.mv (.t 3))⟩,
     ⟨(some 31), (some (29, true)), (.un .not (.t 30))⟩,
     ⟨(some 32), none, (.pick (.t 29) (.t 31) (.c (.bool false)))⟩] ⟨false, [], []⟩)
   (.cond (.t 32) .skip
    (.exit 0)))
  (.seq (.block 1 (.draw [
     ⟨(some 35), none, (.fld 0 (.t 1))⟩,
     ⟨(some 36), none, (.load 1 false (.t 35))⟩,
     ⟨(some 37), none, (.mv (.t 4))⟩,
     ⟨(some 38), none, (.idxs 1 (.t 36) (.t 37))⟩,
     ⟨(some 39), none, (.load 1 false (.t 38))⟩,
     ⟨(some 40), none, (.bin .lss (.t 39) (.c (.int .i64 0)))⟩,
     ⟨(some 41), none, (.mv (.t 40))⟩,
     ⟨(some 42), (some (41, false)), (.fld 0 (.t 1))⟩,
     ⟨(some 43), (some (41, false)), (.load 1 false (.t 42))⟩,
     ⟨(some 44), (some (41, false)), (.mv (.t 4))⟩,
     ⟨(some 45), (some (41, false)), (.idxs 1 (.t 43) (.t 44))⟩,
     ⟨(some 46), (some (41, false)), (.load 1 false (.t 45))⟩,
     ⟨(some 47), (some (41, false)), (.bin .gtr (.t 46) (.c (.int .i64 65536)))⟩,
     ⟨(some 48), none, (.pick (.t 41) (.c (.bool true)) (.t 47))⟩,
     ⟨(some 49), none, (.mv (.t 48))⟩,
     ⟨(some 50), (some (49, false)), (.fld 1 (.t 1))⟩,
     ⟨(some 51), (some (49, false)), (.load 1 false (.t 50))⟩,
     ⟨(some 52), (some (49, false)), (.mv (.t 4))⟩,
     ⟨(some 53), (some (49, false)), (.idxs 1 (.t 51) (.t 52))⟩,
     ⟨(some 54), (some (49, false)), (.load 1 false (.t 53))⟩,
     ⟨(some 55), (some (49, false)), (.len 1 (.t 54))⟩,
     ⟨(some 56), (some (49, false)), (.fld 0 (.t 1))⟩,
     ⟨(some 57), (some (49, false)), (.load 1 false (.t 56))⟩,
     ⟨(some 58), (some (49, false)), (.mv (.t 4))⟩,
     ⟨(some 59), (some (49, false)), (.idxs 1 (.t 57) (.t 58))⟩,
     ⟨(some 60), (some (49, false)), (.load 1 false (.t 59))⟩,
     ⟨(some 61), (some (49, false)), (.bin .gtr (.t 55) (.t 60))⟩,
     ⟨(some 62), none, (.pick (.t 49) (.c (.bool true)) (.t 61))⟩,
     ⟨(some 3), none, (.mv (.t 62))⟩] [] ⟨true, [4, 3, 1], []⟩) ⟨false, [], []⟩)
  (.ops [
   ⟨(some 33), none, (.mv (.t 4))⟩,
   ⟨(some 34), none, (.bin .add (.t 33) (.c (.int .i64 1)))⟩,
   ⟨(some 4), none, (.mv (.t 34))⟩] ⟨false, [], []⟩)))
def w19_L0 : WCode := .loop ⟨true, [4, 3, 1], []⟩ w19_B0
def w19 : WFn := ⟨1, [.tmp 2],
 (.seq (.ops [
    ⟨(some 1), none, (.box (.t 0))⟩,
    ⟨(some 2), none, (.mv (.c (.int .i64 0)))⟩] ⟨false, [], []⟩)
  (.seq (.ops [
    ⟨(some 5), none, (.fld 0 (.t 1))⟩,
    ⟨(some 6), none, (.load 1 false (.t 5))⟩,
    ⟨(some 7), none, (.len 1 (.t 6))⟩,
    ⟨(some 8), none, (.bin .lss (.t 7) (.c (.int .i64 1)))⟩,
    ⟨(some 9), none, (.mv (.t 8))⟩,
    ⟨(some 10), (some (9, false)), (.fld 0 (.t 1))⟩,
    ⟨(some 11), (some (9, false)), (.load 1 false (.t 10))⟩,
    ⟨(some 12), (some (9, false)), (.len 1 (.t 11))⟩,
    ⟨(some 13), (some (9, false)), (.bin .gtr (.t 12) (.c (.int .i64 8)))⟩,
    ⟨(some 14), none, (.pick (.t 9) (.c (.bool true)) (.t 13))⟩,
    ⟨(some 15), none, (.mv (.t 14))⟩,
    ⟨(some 16), (some (15, false)), (.fld 0 (.t 1))⟩,
    ⟨(some 17), (some (15, false)), (.load 1 false (.t 16))⟩,
    ⟨(some 18), (some (15, false)), (.len 1 (.t 17))⟩,
    ⟨(some 19), (some (15, false)), (.fld 1 (.t 1))⟩,
    ⟨(some 20), (some (15, false)), (.load 1 false (.t 19))⟩,
    ⟨(some 21), (some (15, false)), (.len 1 (.t 20))⟩,
    ⟨(some 22), (some (15, false)), (.bin .neq (.t 18) (.t 21))⟩,
    ⟨(some 23), none, (.pick (.t 15) (.c (.bool true)) (.t 22))⟩,
    ⟨(some 3), none, (.mv (.t 23))⟩] ⟨true, [3, 1], []⟩)
  (.seq (.seq (.ops [
     ⟨(some 4), none, (.mv (.c (.int .i64 0)))⟩] ⟨false, [], []⟩)
   (.block 0 w19_L0 ⟨true, [3], []⟩))
  w19_c0)))⟩

@[simp] theorem w19_E0 {β : Type} {C : WProg} {b : Nat} {f : Ex × WSt → Option β} {k : List Pw.Frame} {s : WSt} : CK C b f k w19_L0 s = LK C b f (.sq w19_L0 :: k) w19_B0 (canon b ⟨true, [4, 3, 1], []⟩ s) := ck_lp rfl
noncomputable abbrev w19_K0 (C : WProg) (s : WSt) : Option AV := CK C 0 (pureFin [.tmp 2]) [.sq w19_L0, .bk 0 ⟨true, [3], []⟩, .sq w19_c0] w19_B0 s

/- paternoster/pools.Check[int] -/
def w20_c0 : WCode := (.seq (.ops [
    ⟨(some 2), none, (.mv (.c (.int .i64 0)))⟩] ⟨false, [], []⟩)
  .ret)

def w20_B0 : WCode := (.seq (.ops [
    ⟨(some 26), none, (.bin .lss (.t 25) (.t 24))⟩] ⟨false, [], []⟩)
  (.seq (.cond (.t 26) .skip
    (.exit 0))
  (.seq (.block 1 (.seq (.ops [
      ⟨(some 27), none, (.mv (.t 25))⟩,
      ⟨(some 28), none, (.idxs 1 (.t 23) (.t 25))⟩,
      ⟨(some 29), none, (.load 1 false (.t 28))⟩,
      ⟨(some 4), none, (.mv (.t 27))⟩,
      ⟨(some 5), none, (.mv (.t 29))⟩] ⟨true, [25, 24, 23, 5, 4, 1], []⟩)
    (.seq (.ops [
      ⟨(some 30), none, (.mv (.t 5))⟩,
      ⟨(some 31), none, (.bin .lss (.t 30) (.c (.int .i64 0)))⟩,
      ⟨(some 32), none, (.mv (.t 31))⟩,
      ⟨(some 33), (some (32, false)), (.mv (.t 5))⟩,
      ⟨(some 34), (some (32, false)), (.bin .gtr (.t 33) (.c (.int .i64 65536)))⟩,
      ⟨(some 35), none, (.pick (.t 32) (.c (.bool true)) (.t 34))⟩,
      ⟨(some 36), none, (.mv (.t 35))⟩,
      ⟨(some 37), (some (36, false)), (.fld 1 (.t 1))⟩,
      ⟨(some 38), (some (36, false)), (.load 1 false (.t 37))⟩,
      ⟨(some 39), (some (36, false)), (.mv (.t 4))⟩,
      ⟨(some 40), (some (36, false)), (.idxs 1 (.t 38) (.t 39))⟩,
      ⟨(some 41), (some (36, false)), (.load 1 false (.t 40))⟩,
      ⟨(some 42), (some (36, false)), (.len 1 (.t 41))⟩,
      ⟨(some 43), (some (36, false)), (.mv (.t 5))⟩,
      ⟨(some 44), (some (36, false)), (.bin .gtr (.t 42) (.t 43))⟩,
      ⟨(some 45), none, (.pick (.t 36) (.c (.bool true)) (.t 44))⟩] ⟨false, [], []⟩)
    (.cond (.t 45) (.seq (.ops [
        ⟨(some 2), none, (.mv (.c (.int .i64 1)))⟩] ⟨false, [], []⟩)
      .ret)
     .skip))) ⟨false, [], []⟩)
  (.ops [
   ⟨(some 46), none, (.bin .add (.t 25) (.c (.int .i64 1)))⟩,
   ⟨(some 25), none, (.mv (.t 46))⟩] ⟨false, [], []⟩))))
def w20_L0 : WCode := .loop ⟨true, [25, 24, 23, 1], []⟩ w20_B0
def w20 : WFn := ⟨1, [.tmp 2],
 (.seq (.ops [
    ⟨(some 1), none, (.box (.t 0))⟩,
    ⟨(some 2), none, (.mv (.c (.int .i64 0)))⟩] ⟨true, [1], []⟩)
  (.seq (.ops [
    ⟨(some 6), none, (.fld 0 (.t 1))⟩,
    ⟨(some 7), none, (.load 1 false (.t 6))⟩,
    ⟨(some 8), none, (.len 1 (.t 7))⟩,
    ⟨(some 3), none, (.mv (.t 8))⟩] ⟨false, [], []⟩)
  (.seq (.seq (.ops [
     ⟨(some 9), none, (.mv (.t 3))⟩,
     ⟨(some 10), none, (.bin .lss (.t 9) (.c (.int .i64 1)))⟩,
     ⟨(some 11), none, (.mv (.t 10))⟩,
     ⟨(some 12), (some (11, false)), (.mv (.t 3))⟩,
     ⟨(some 13), (some (11, false)), (.bin .gtr (.t 12) (.c (.int .i64 8)))⟩,
     ⟨(some 14), none, (.pick (.t 11) (.c (.bool true)) (.t 13))⟩,
     ⟨(some 15), none, (.mv (.t 14))⟩,
     ⟨(some 16), (some (15, false)), (.fld 1 (.t 1))⟩,
     ⟨(some 17), (some (15, false)), (.load 1 false (.t 16))⟩,
     ⟨(some 18), (some (15, false)), (.len 1 (.t 17))⟩,
     ⟨(some 19), (some (15, false)), (.mv (.t 3))⟩,
     ⟨(some 20), (some (15, false)), (.bin .neq (.t 18) (.t 19))⟩,
     ⟨(some 21), none, (.pick (.t 15) (.c (.bool true)) (.t 20))⟩] ⟨false, [], []⟩)
   (.cond (.t 21) (.seq (.ops [
       ⟨(some 2), none, (.mv (.c (.int .i64 1)))⟩] ⟨false, [], []⟩)
     .ret)
    .skip))
  (.seq (.seq (.ops [
     ⟨(some 22), none, (.fld 0 (.t 1))⟩,
     ⟨(some 23), none, (.load 1 false (.t 22))⟩,
     ⟨(some 24), none, (.len 1 (.t 23))⟩,
     ⟨(some 25), none, (.mv (.c (.int .i64 0)))⟩] ⟨false, [], []⟩)
   (.block 0 w20_L0 ⟨true, [], []⟩))
  w20_c0))))⟩

@[simp] theorem w20_E0 {β : Type} {C : WProg} {b : Nat} {f : Ex × WSt → Option β} {k : List Pw.Frame} {s : WSt} : CK C b f k w20_L0 s = LK C b f (.sq w20_L0 :: k) w20_B0 (canon b ⟨true, [25, 24, 23, 1], []⟩ s) := ck_lp rfl
noncomputable abbrev w20_K0 (C : WProg) (s : WSt) : Option AV := CK C 0 (pureFin [.tmp 2]) [.sq w20_L0, .bk 0 ⟨true, [], []⟩, .sq w20_c0] w20_B0 s

/- paternoster/pools.copied[int] -/
def w21 : WFn := ⟨1, [.tmp 2],
 (.seq (.ops [
    ⟨(some 2), none, (.mv (.c (.ro 1 [] true)))⟩] ⟨false, [], []⟩)
  (.seq (.ops [
    ⟨(some 4), none, (.mv (.t 0))⟩,
    ⟨(some 5), none, (.len 1 (.t 4))⟩,
    ⟨(some 6), none, (.mksl [(.int .i64 0)] 8 (.t 5) (.t 5))⟩,
    ⟨(some 3), none, (.mv (.t 6))⟩] ⟨false, [], []⟩)
  (.seq (.ops [
    ⟨(some 7), none, (.mv (.t 3))⟩,
    ⟨(some 8), none, (.mv (.t 0))⟩,
    ⟨(some 9), none, (.cpy 1 (.t 7) (.t 8))⟩] ⟨false, [], []⟩)
  (.seq (.ops [
    ⟨(some 10), none, (.mv (.t 3))⟩,
    ⟨(some 2), none, (.mv (.t 10))⟩] ⟨false, [], []⟩)
  .ret))))⟩

/- paternoster/paternosterref21.Push -/
def w22 : WFn := ⟨3, [.cell 6 2 true, .tmp 7],
 (.seq (.ops [
    ⟨(some 3), none, (.box (.t 0))⟩,
    ⟨(some 6), none, (.alloc [(.ro 1 [] true), (.ro 1 [] true)])⟩,
    ⟨(some 7), none, (.mv (.c (.bool false)))⟩] ⟨false, [], []⟩)
  (.seq (.ops [
    ⟨(some 9), none, (.load 2 true (.t 3))⟩,
    ⟨(some 10), none, (.call 27 [(.t 9)])⟩,
    ⟨(some 8), none, (.alloc [(.ro 1 [] true), (.ro 1 [] true)])⟩,
    ⟨none, none, (.store 2 (.t 8) (.t 10))⟩] ⟨false, [], []⟩)
  (.seq (.seq (.draw [
     ⟨(some 11), none, (.fld 1 (.t 8))⟩,
     ⟨(some 12), none, (.load 1 false (.t 11))⟩,
     ⟨(some 13), none, (.mv (.t 1))⟩,
     ⟨(some 14), none, (.idxs 1 (.t 12) (.t 13))⟩,
     ⟨(some 15), none, (.load 1 false (.t 14))⟩,
     ⟨(some 16), none, (.len 1 (.t 15))⟩,
     ⟨(some 17), none, (.fld 0 (.t 8))⟩,
     ⟨(some 18), none, (.load 1 false (.t 17))⟩,
     ⟨(some 19), none, (.mv (.t 1))⟩,
     ⟨(some 20), none, (.idxs 1 (.t 18) (.t 19))⟩,
     ⟨(some 21), none, (.load 1 false (.t 20))⟩,
     ⟨(some 22), none, (.bin .geq (.t 16) (.t 21))⟩] [] ⟨true, [22, 8, 6, 2, 1], []⟩)
   (.cond (.t 22) (.seq (.ops [
       ⟨(some 23), none, (.load 2 true (.t 8))⟩,
       ⟨none, none, (.store 2 (.t 6) (.t 23))⟩,
       ⟨(some 7), none, (.mv (.c (.bool true)))⟩] ⟨false, [], []⟩)
     .ret)
    .skip))
  (.seq (.draw [
    ⟨(some 24), none, (.fld 1 (.t 8))⟩,
    ⟨(some 25), none, (.load 1 false (.t 24))⟩,
    ⟨(some 26), none, (.mv (.t 1))⟩,
    ⟨(some 27), none, (.fld 1 (.t 8))⟩,
    ⟨(some 28), none, (.load 1 false (.t 27))⟩,
    ⟨(some 29), none, (.mv (.t 1))⟩,
    ⟨(some 30), none, (.idxs 1 (.t 28) (.t 29))⟩,
    ⟨(some 31), none, (.load 1 false (.t 30))⟩,
    ⟨(some 32), none, (.mv (.t 2))⟩,
    ⟨(some 33), none, (.buildS [(.int .i64 0)] 1 [(0, (.t 32))])⟩,
    ⟨(some 34), none, (.app [(.int .i64 0)] 8 false (.t 31) (.t 33))⟩,
    ⟨(some 35), none, (.idxs 1 (.t 25) (.t 26))⟩,
    ⟨none, none, (.store 1 (.t 35) (.t 34))⟩] [(1, 9), (4, 9), (7, 9), (1, 10)] ⟨false, [], []⟩)
  (.seq (.ops [
    ⟨(some 36), none, (.load 2 true (.t 8))⟩,
    ⟨none, none, (.store 2 (.t 6) (.t 36))⟩,
    ⟨(some 7), none, (.mv (.c (.bool false)))⟩] ⟨false, [], []⟩)
  .ret)))))⟩

/- paternoster/paternosterref21.Pop -/
def w23 : WFn := ⟨2, [.cell 4 2 true, .tmp 5, .tmp 6],
 (.seq (.ops [
    ⟨(some 2), none, (.box (.t 0))⟩,
    ⟨(some 4), none, (.alloc [(.ro 1 [] true), (.ro 1 [] true)])⟩,
    ⟨(some 5), none, (.mv (.c (.int .i64 0)))⟩,
    ⟨(some 6), none, (.mv (.c (.bool false)))⟩] ⟨false, [], []⟩)
  (.seq (.ops [
    ⟨(some 10), none, (.load 2 true (.t 2))⟩,
    ⟨(some 11), none, (.call 27 [(.t 10)])⟩,
    ⟨(some 7), none, (.alloc [(.ro 1 [] true), (.ro 1 [] true)])⟩,
    ⟨none, none, (.store 2 (.t 7) (.t 11))⟩] ⟨false, [], []⟩)
  (.seq (.ops [
    ⟨(some 12), none, (.fld 1 (.t 7))⟩,
    ⟨(some 13), none, (.load 1 false (.t 12))⟩,
    ⟨(some 14), none, (.mv (.t 1))⟩,
    ⟨(some 15), none, (.idxs 1 (.t 13) (.t 14))⟩,
    ⟨(some 16), none, (.load 1 false (.t 15))⟩,
    ⟨(some 17), none, (.len 1 (.t 16))⟩,
    ⟨(some 8), none, (.mv (.t 17))⟩] ⟨false, [], []⟩)
  (.seq (.seq (.ops [
     ⟨(some 18), none, (.mv (.t 8))⟩,
     ⟨(some 19), none, (.bin .eql (.t 18) (.c (.int .i64 0)))⟩] ⟨false, [], []⟩)
   (.cond (.t 19) (.seq (.ops [
       ⟨(some 20), none, (.load 2 true (.t 7))⟩,
       ⟨none, none, (.store 2 (.t 4) (.t 20))⟩,
       ⟨(some 5), none, (.mv (.c (.int .i64 0)))⟩,
       ⟨(some 6), none, (.mv (.c (.bool false)))⟩] ⟨false, [], []⟩)
     .ret)
    .skip))
  (.seq (.ops [
    ⟨(some 21), none, (.fld 1 (.t 7))⟩,
    ⟨(some 22), none, (.load 1 false (.t 21))⟩,
    ⟨(some 23), none, (.mv (.t 1))⟩,
    ⟨(some 24), none, (.idxs 1 (.t 22) (.t 23))⟩,
    ⟨(some 25), none, (.load 1 false (.t 24))⟩,
    ⟨(some 26), none, (.mv (.t 8))⟩,
    ⟨(some 27), none, (.bin .sub (.t 26) (.c (.int .i64 1)))⟩,
    ⟨(some 28), none, (.idxs 1 (.t 25) (.t 27))⟩,
    ⟨(some 29), none, (.load 1 false (.t 28))⟩,
    ⟨(some 9), none, (.mv (.t 29))⟩] ⟨true, [9, 8, 7, 4, 1], []⟩)
  (.seq (.draw [
    ⟨(some 30), none, (.fld 1 (.t 7))⟩,
    ⟨(some 31), none, (.load 1 false (.t 30))⟩,
    ⟨(some 32), none, (.mv (.t 1))⟩,
    ⟨(some 33), none, (.fld 1 (.t 7))⟩,
    ⟨(some 34), none, (.load 1 false (.t 33))⟩,
    ⟨(some 35), none, (.mv (.t 1))⟩,
    ⟨(some 36), none, (.idxs 1 (.t 34) (.t 35))⟩,
    ⟨(some 37), none, (.load 1 false (.t 36))⟩,
    ⟨(some 38), none, (.mv (.t 8))⟩,
    ⟨(some 39), none, (.bin .sub (.t 38) (.c (.int .i64 1)))⟩,
    ⟨(some 40), none, (.slice 1 (.t 37) none (some (.t 39)) none)⟩,
    ⟨(some 41), none, (.idxs 1 (.t 31) (.t 32))⟩,
    ⟨none, none, (.store 1 (.t 41) (.t 40))⟩] [] ⟨false, [], []⟩)
  (.seq (.ops [
    ⟨(some 42), none, (.load 2 true (.t 7))⟩,
    ⟨(some 43), none, (.mv (.t 9))⟩,
    ⟨none, none, (.store 2 (.t 4) (.t 42))⟩,
    ⟨(some 5), none, (.mv (.t 43))⟩,
    ⟨(some 6), none, (.mv (.c (.bool true)))⟩] ⟨false, [], []⟩)
  .ret)))))))⟩

/- paternoster/pools.of[int] -/
def w24 : WFn := ⟨2, [.tmp 4],
 (.seq (.ops [
    ⟨(some 2), none, (.box (.t 0))⟩,
    ⟨(some 4), none, (.mv (.c (.int .i64 0)))⟩] ⟨false, [], []⟩)
  (.seq (.seq (.ops [
     ⟨(some 6), none, (.load 2 true (.t 2))⟩,
     ⟨(some 7), none, (.call 20 [(.t 6)])⟩,
     ⟨(some 5), none, (.mv (.t 7))⟩] ⟨false, [], []⟩)
   (.seq (.ops [
     ⟨(some 8), none, (.mv (.t 5))⟩,
     ⟨(some 9), none, (.bin .neq (.t 8) (.c (.int .i64 0)))⟩] ⟨false, [], []⟩)
   (.cond (.t 9) (.seq (.ops [
       ⟨(some 10), none, (.mv (.t 5))⟩,
       ⟨(some 4), none, (.mv (.t 10))⟩] ⟨false, [], []⟩)
     .ret)
    .skip)))
  (.seq (.seq (.ops [
     ⟨(some 11), none, (.mv (.t 1))⟩,
     ⟨(some 12), none, (.bin .lss (.t 11) (.c (.int .i64 0)))⟩,
     ⟨(some 13), none, (.mv (.t 12))⟩,
     ⟨(some 14), (some (13, false)), (.mv (.t 1))⟩,
     ⟨(some 15), (some (13, false)), (.fld 0 (.t 2))⟩,
     ⟨(some 16), (some (13, false)), (.load 1 false (.t 15))⟩,
     ⟨(some 17), (some (13, false)), (.len 1 (.t 16))⟩,
     ⟨(some 18), (some (13, false)), (.bin .geq (.t 14) (.t 17))⟩,
     ⟨(some 19), none, (.pick (.t 13) (.c (.bool true)) (.t 18))⟩] ⟨false, [], []⟩)
   (.cond (.t 19) (.seq (.ops [
       ⟨(some 4), none, (.mv (.c (.int .i64 4)))⟩] ⟨false, [], []⟩)
     .ret)
    .skip))
  (.seq (.ops [
    ⟨(some 4), none, (.mv (.c (.int .i64 0)))⟩] ⟨false, [], []⟩)
  .ret))))⟩

/- paternoster/pools.with[int] -/
def w25_c0 : WCode := (.seq (.ops [
    ⟨(some 37), none, (.load 2 true (.t 7))⟩,
    ⟨none, none, (.store 2 (.t 6) (.t 37))⟩] ⟨false, [], []⟩)
  .ret)

def w25_B0 : WCode := (.seq (.ops [
    ⟨(some 22), none, (.bin .lss (.t 21) (.t 20))⟩] ⟨false, [], []⟩)
  (.seq (.cond (.t 22) .skip
    (.exit 0))
  (.seq (.block 1 (.seq (.ops [
      ⟨(some 23), none, (.mv (.t 21))⟩,
      ⟨(some 24), none, (.idxs 1 (.t 19) (.t 21))⟩,
      ⟨(some 25), none, (.load 1 false (.t 24))⟩,
      ⟨(some 8), none, (.mv (.t 23))⟩,
      ⟨(some 9), none, (.mv (.t 25))⟩] ⟨false, [], []⟩)
    (.seq (.seq (.ops [
       ⟨(some 26), none, (.mv (.t 8))⟩,
       ⟨(some 27), none, (.mv (.t 1))⟩,
       ⟨(some 28), none, (.bin .eql (.t 26) (.t 27))⟩] ⟨false, [], []⟩)
     (.cond (.t 28) (.ops [
        ⟨(some 29), none, (.mv (.t 2))⟩,
        ⟨(some 9), none, (.mv (.t 29))⟩] ⟨false, [], []⟩)
      .skip))
    (.draw [
     ⟨(some 30), none, (.fld 1 (.t 7))⟩,
     ⟨(some 31), none, (.load 1 false (.t 30))⟩,
     ⟨(some 32), none, (.mv (.t 8))⟩,
     ⟨(some 33), none, (.mv (.t 9))⟩,
     ⟨(some 34), none, (.call 21 [(.t 33)])⟩,
     ⟨(some 35), none, (.idxs 1 (.t 31) (.t 32))⟩,
     ⟨none, none, (.store 1 (.t 35) (.t 34))⟩] [(1, 4)] ⟨false, [], []⟩))) ⟨false, [], []⟩)
  (.ops [
   ⟨(some 36), none, (.bin .add (.t 21) (.c (.int .i64 1)))⟩,
   ⟨(some 21), none, (.mv (.t 36))⟩] ⟨false, [], []⟩))))
def w25_L0 : WCode := .loop ⟨true, [21, 20, 19, 7, 6, 2, 1], []⟩ w25_B0
def w25 : WFn := ⟨3, [.cell 6 2 true],
 (.seq (.ops [
    ⟨(some 3), none, (.box (.t 0))⟩,
    ⟨(some 6), none, (.alloc [(.ro 1 [] true), (.ro 1 [] true)])⟩] ⟨false, [], []⟩)
  (.seq (.draw [
    ⟨(some 10), none, (.fld 0 (.t 3))⟩,
    ⟨(some 11), none, (.load 1 false (.t 10))⟩,
    ⟨(some 12), none, (.call 21 [(.t 11)])⟩,
    ⟨(some 13), none, (.fld 1 (.t 3))⟩,
    ⟨(some 14), none, (.load 1 false (.t 13))⟩,
    ⟨(some 15), none, (.len 1 (.t 14))⟩,
    ⟨(some 16), none, (.mksl [(.ro 1 [] true)] 24 (.t 15) (.t 15))⟩,
    ⟨(some 17), none, (.build [(.ro 1 [] true), (.ro 1 [] true)] [(0, 1, (.t 12)), (1, 1, (.t 16))])⟩,
    ⟨(some 7), none, (.alloc [(.ro 1 [] true), (.ro 1 [] true)])⟩,
    ⟨none, none, (.store 2 (.t 7) (.t 17))⟩] [(2, 4), (2, 5), (1, 6), (2, 6), (1, 8), (2, 8), (4, 8), (5, 8), (6, 8)] ⟨false, [], []⟩)
  (.seq (.seq (.ops [
     ⟨(some 18), none, (.fld 1 (.t 3))⟩,
     ⟨(some 19), none, (.load 1 false (.t 18))⟩,
     ⟨(some 20), none, (.len 1 (.t 19))⟩,
     ⟨(some 21), none, (.mv (.c (.int .i64 0)))⟩] ⟨true, [21, 20, 19, 7, 6, 2, 1], []⟩)
   (.block 0 w25_L0 ⟨true, [7, 6], []⟩))
  w25_c0)))⟩

@[simp] theorem w25_E0 {β : Type} {C : WProg} {b : Nat} {f : Ex × WSt → Option β} {k : List Pw.Frame} {s : WSt} : CK C b f k w25_L0 s = LK C b f (.sq w25_L0 :: k) w25_B0 (canon b ⟨true, [21, 20, 19, 7, 6, 2, 1], []⟩ s) := ck_lp rfl
noncomputable abbrev w25_K0 (C : WProg) (s : WSt) : Option AV := CK C 0 (pureFin [.cell 6 2 true]) [.sq w25_L0, .bk 0 ⟨true, [7, 6], []⟩, .sq w25_c0] w25_B0 s

/- slices.Clip[[]int,int] -/
def w26 : WFn := ⟨1, [.tmp 2],
 (.seq (.ops [
    ⟨(some 2), none, (.mv (.c (.ro 1 [] true)))⟩] ⟨false, [], []⟩)
  (.seq (.ops [
    ⟨(some 3), none, (.mv (.t 0))⟩,
    ⟨(some 4), none, (.mv (.t 0))⟩,
    ⟨(some 5), none, (.len 1 (.t 4))⟩,
    ⟨(some 6), none, (.mv (.t 0))⟩,
    ⟨(some 7), none, (.len 1 (.t 6))⟩,
    ⟨(some 8), none, (.slice 1 (.t 3) none (some (.t 5)) (some (.t 7)))⟩,
    ⟨(some 2), none, (.mv (.t 8))⟩] ⟨false, [], []⟩)
  .ret))⟩

/- paternoster/paternosterref21.copied -/
def w27_c0 : WCode := (.seq (.ops [
    ⟨(some 25), none, (.load 2 true (.t 3))⟩,
    ⟨none, none, (.store 2 (.t 2) (.t 25))⟩] ⟨false, [], []⟩)
  .ret)

def w27_B0 : WCode := (.seq (.seq (.ops [
     ⟨(some 8), none, (.mv (.t 4))⟩,
     ⟨(some 9), none, (.fld 1 (.t 1))⟩,
     ⟨(some 10), none, (.load 1 false (.t 9))⟩,
     ⟨(some 11), none, (.len 1 (.t 10))⟩,
     ⟨(some 12), none, (.bin .lss (.t 8) (.t 11))⟩] ⟨false, [], []⟩)
   (.cond (.t 12) .skip
    (.exit 0)))
  (.seq (.block 1 (.draw [
     ⟨(some 15), none, (.fld 1 (.t 3))⟩,
     ⟨(some 16), none, (.load 1 false (.t 15))⟩,
     ⟨(some 17), none, (.mv (.t 4))⟩,
     ⟨(some 18), none, (.fld 1 (.t 1))⟩,
     ⟨(some 19), none, (.load 1 false (.t 18))⟩,
     ⟨(some 20), none, (.mv (.t 4))⟩,
     ⟨(some 21), none, (.idxs 1 (.t 19) (.t 20))⟩,
     ⟨(some 22), none, (.load 1 false (.t 21))⟩,
     ⟨(some 23), none, (.app [(.int .i64 0)] 8 false (.c (.ro 1 [] true)) (.t 22))⟩,
     ⟨(some 24), none, (.idxs 1 (.t 16) (.t 17))⟩,
     ⟨none, none, (.store 1 (.t 24) (.t 23))⟩] [(1, 8)] ⟨false, [], []⟩) ⟨false, [], []⟩)
  (.ops [
   ⟨(some 13), none, (.mv (.t 4))⟩,
   ⟨(some 14), none, (.bin .add (.t 13) (.c (.int .i64 1)))⟩,
   ⟨(some 4), none, (.mv (.t 14))⟩] ⟨false, [], []⟩)))
def w27_L0 : WCode := .loop ⟨true, [4, 3, 2, 1], []⟩ w27_B0
def w27 : WFn := ⟨1, [.cell 2 2 true],
 (.seq (.ops [
    ⟨(some 1), none, (.box (.t 0))⟩,
    ⟨(some 2), none, (.alloc [(.ro 1 [] true), (.ro 1 [] true)])⟩] ⟨false, [], []⟩)
  (.seq (.ops [
    ⟨(some 5), none, (.fld 0 (.t 1))⟩,
    ⟨(some 6), none, (.load 1 false (.t 5))⟩,
    ⟨(some 7), none, (.call 7 [(.t 6)])⟩,
    ⟨(some 3), none, (.alloc [(.ro 1 [] true), (.ro 1 [] true)])⟩,
    ⟨none, none, (.store 2 (.t 3) (.t 7))⟩] ⟨true, [3, 2, 1], []⟩)
  (.seq (.seq (.ops [
     ⟨(some 4), none, (.mv (.c (.int .i64 0)))⟩] ⟨false, [], []⟩)
   (.block 0 w27_L0 ⟨true, [3, 2], []⟩))
  w27_c0)))⟩

@[simp] theorem w27_E0 {β : Type} {C : WProg} {b : Nat} {f : Ex × WSt → Option β} {k : List Pw.Frame} {s : WSt} : CK C b f k w27_L0 s = LK C b f (.sq w27_L0 :: k) w27_B0 (canon b ⟨true, [4, 3, 2, 1], []⟩ s) := ck_lp rfl
noncomputable abbrev w27_K0 (C : WProg) (s : WSt) : Option AV := CK C 0 (pureFin [.cell 2 2 true]) [.sq w27_L0, .bk 0 ⟨true, [3, 2], []⟩, .sq w27_c0] w27_B0 s

/- slices.Concat[[]int,int] -/
def w28_c0 : WCode := (.seq (.ops [
    ⟨(some 35), none, (.mv (.t 6))⟩,
    ⟨(some 2), none, (.mv (.t 35))⟩] ⟨false, [], []⟩)
  .ret)

def w28_B0 : WCode := (.seq (.ops [
    ⟨(some 28), none, (.bin .lss (.t 27) (.t 26))⟩] ⟨false, [], []⟩)
  (.seq (.cond (.t 28) .skip
    (.exit 2))
  (.seq (.block 3 (.seq (.ops [
      ⟨(some 29), none, (.idxs 1 (.t 25) (.t 27))⟩,
      ⟨(some 30), none, (.load 1 false (.t 29))⟩,
      ⟨(some 8), none, (.mv (.t 30))⟩] ⟨false, [], []⟩)
    (.ops [
     ⟨(some 31), none, (.mv (.t 6))⟩,
     ⟨(some 32), none, (.mv (.t 8))⟩,
     ⟨(some 33), none, (.app [(.int .i64 0)] 8 false (.t 31) (.t 32))⟩,
     ⟨(some 6), none, (.mv (.t 33))⟩] ⟨false, [], []⟩)) ⟨false, [], []⟩)
  (.ops [
   ⟨(some 34), none, (.bin .add (.t 27) (.c (.int .i64 1)))⟩,
   ⟨(some 27), none, (.mv (.t 34))⟩] ⟨false, [], []⟩))))
def w28_L0 : WCode := .loop ⟨true, [27, 26, 25, 6], []⟩ w28_B0
def w28_c1 : WCode := (.seq (.ops [
    ⟨(some 23), none, (.mv (.t 3))⟩,
    ⟨(some 24), none, (.call 35 [(.c (.ro 1 [] true)), (.t 23)])⟩,
    ⟨(some 6), none, (.mv (.t 24))⟩] ⟨false, [], []⟩)
  (.seq (.seq (.ops [
     ⟨(some 25), none, (.mv (.t 0))⟩,
     ⟨(some 26), none, (.len 1 (.t 25))⟩,
     ⟨(some 27), none, (.mv (.c (.int .i64 0)))⟩] ⟨false, [], []⟩)
   (.block 2 w28_L0 ⟨true, [6], []⟩))
  w28_c0))

def w28_B1 : WCode := (.seq (.ops [
    ⟨(some 12), none, (.bin .lss (.t 11) (.t 10))⟩] ⟨false, [], []⟩)
  (.seq (.cond (.t 12) .skip
    (.exit 0))
  (.seq (.block 1 (.seq (.ops [
      ⟨(some 13), none, (.idxs 1 (.t 9) (.t 11))⟩,
      ⟨(some 14), none, (.load 1 false (.t 13))⟩,
      ⟨(some 5), none, (.mv (.t 14))⟩] ⟨false, [], []⟩)
    (.seq (.ops [
      ⟨(some 15), none, (.mv (.t 3))⟩,
      ⟨(some 16), none, (.mv (.t 5))⟩,
      ⟨(some 17), none, (.len 1 (.t 16))⟩,
      ⟨(some 18), none, (.bin .add (.t 15) (.t 17))⟩,
      ⟨(some 3), none, (.mv (.t 18))⟩] ⟨false, [], []⟩)
    (.seq (.ops [
      ⟨(some 19), none, (.mv (.t 3))⟩,
      ⟨(some 20), none, (.bin .lss (.t 19) (.c (.int .i64 0)))⟩] ⟨true, [20, 11, 10, 9, 3, 0], []⟩)
    (.cond (.t 20) (.ops [
       ⟨(some 21), none, .fail⟩,
       ⟨none, none, .fail⟩] ⟨false, [], []⟩)
     .skip)))) ⟨false, [], []⟩)
  (.ops [
   ⟨(some 22), none, (.bin .add (.t 11) (.c (.int .i64 1)))⟩,
   ⟨(some 11), none, (.mv (.t 22))⟩] ⟨false, [], []⟩))))
def w28_L1 : WCode := .loop ⟨true, [11, 10, 9, 3, 0], []⟩ w28_B1
def w28 : WFn := ⟨1, [.tmp 2],
 (.seq (.ops [
    ⟨(some 2), none, (.mv (.c (.ro 1 [] true)))⟩] ⟨false, [], []⟩)
  (.seq (.ops [
    ⟨(some 3), none, (.mv (.c (.int .i64 0)))⟩] ⟨false, [], []⟩)
  (.seq (.seq (.ops [
     ⟨(some 9), none, (.mv (.t 0))⟩,
     ⟨(some 10), none, (.len 1 (.t 9))⟩,
     ⟨(some 11), none, (.mv (.c (.int .i64 0)))⟩] ⟨false, [], []⟩)
   (.block 0 w28_L1 ⟨true, [3, 0], []⟩))
  w28_c1)))⟩

@[simp] theorem w28_E0 {β : Type} {C : WProg} {b : Nat} {f : Ex × WSt → Option β} {k : List Pw.Frame} {s : WSt} : CK C b f k w28_L0 s = LK C b f (.sq w28_L0 :: k) w28_B0 (canon b ⟨true, [27, 26, 25, 6], []⟩ s) := ck_lp rfl
noncomputable abbrev w28_K0 (C : WProg) (s : WSt) : Option AV := CK C 0 (pureFin [.tmp 2]) [.sq w28_L0, .bk 2 ⟨true, [6], []⟩, .sq w28_c0] w28_B0 s

@[simp] theorem w28_E1 {β : Type} {C : WProg} {b : Nat} {f : Ex × WSt → Option β} {k : List Pw.Frame} {s : WSt} : CK C b f k w28_L1 s = LK C b f (.sq w28_L1 :: k) w28_B1 (canon b ⟨true, [11, 10, 9, 3, 0], []⟩ s) := ck_lp rfl
noncomputable abbrev w28_K1 (C : WProg) (s : WSt) : Option AV := CK C 0 (pureFin [.tmp 2]) [.sq w28_L1, .bk 0 ⟨true, [3, 0], []⟩, .sq w28_c1] w28_B1 s

/- paternoster/pools.New[string] -/
def w29 : WFn := ⟨1, [.cell 2 2 true, .tmp 3],
 (.seq (.ops [
    ⟨(some 2), none, (.alloc [(.ro 1 [] true), (.ro 1 [] true)])⟩,
    ⟨(some 3), none, (.mv (.c (.int .i64 0)))⟩] ⟨false, [], []⟩)
  (.seq (.seq (.ops [
     ⟨(some 6), none, (.mv (.t 0))⟩,
     ⟨(some 7), none, (.len 1 (.t 6))⟩,
     ⟨(some 8), none, (.bin .gtr (.t 7) (.c (.int .i64 8)))⟩] ⟨true, [8, 2, 0], []⟩)
   (.cond (.t 8) (.seq (.ops [
       ⟨(some 9), none, (.build [(.ro 1 [] true), (.ro 1 [] true)] [])⟩,
       ⟨none, none, (.store 2 (.t 2) (.t 9))⟩,
       ⟨(some 3), none, (.mv (.c (.int .i64 1)))⟩] ⟨false, [], []⟩)
     .ret)
    .skip))
  (.seq (.draw [
    ⟨(some 10), none, (.mv (.t 0))⟩,
    ⟨(some 11), none, (.call 21 [(.t 10)])⟩,
    ⟨(some 12), none, (.mv (.t 0))⟩,
    ⟨(some 13), none, (.len 1 (.t 12))⟩,
    ⟨(some 14), none, (.mksl [(.ro 1 [] true)] 24 (.t 13) (.t 13))⟩,
    ⟨(some 15), none, (.build [(.ro 1 [] true), (.ro 1 [] true)] [(0, 1, (.t 11)), (1, 1, (.t 14))])⟩,
    ⟨(some 4), none, (.alloc [(.ro 1 [] true), (.ro 1 [] true)])⟩,
    ⟨none, none, (.store 2 (.t 4) (.t 15))⟩] [(1, 3), (1, 4), (1, 6), (3, 6), (4, 6)] ⟨false, [], []⟩)
  (.seq (.seq (.ops [
     ⟨(some 16), none, (.load 2 true (.t 4))⟩,
     ⟨(some 17), none, (.call 36 [(.t 16)])⟩,
     ⟨(some 5), none, (.mv (.t 17))⟩] ⟨false, [], []⟩)
   (.seq (.ops [
     ⟨(some 18), none, (.mv (.t 5))⟩,
     ⟨(some 19), none, (.bin .neq (.t 18) (.c (.int .i64 0)))⟩] ⟨false, [], []⟩)
   (.cond (.t 19) (.seq (.ops [
       ⟨(some 20), none, (.build [(.ro 1 [] true), (.ro 1 [] true)] [])⟩,
       ⟨(some 21), none, (.mv (.t 5))⟩,
       ⟨none, none, (.store 2 (.t 2) (.t 20))⟩,
       ⟨(some 3), none, (.mv (.t 21))⟩] ⟨false, [], []⟩)
     .ret)
    .skip)))
  (.seq (.ops [
    ⟨(some 22), none, (.load 2 true (.t 4))⟩,
    ⟨none, none, (.store 2 (.t 2) (.t 22))⟩,
    ⟨(some 3), none, (.mv (.c (.int .i64 0)))⟩] ⟨false, [], []⟩)
  .ret)))))⟩

/- paternoster/pools.Push[string] -/
def w30 : WFn := ⟨3, [.cell 6 2 true, .tmp 7, .tmp 8],
 (.seq (.ops [
    ⟨(some 3), none, (.box (.t 0))⟩,
    ⟨(some 6), none, (.alloc [(.ro 1 [] true), (.ro 1 [] true)])⟩,
    ⟨(some 7), none, (.mv (.c (.bool false)))⟩,
    ⟨(some 8), none, (.mv (.c (.int .i64 0)))⟩] ⟨false, [], []⟩)
  (.seq (.seq (.ops [
     ⟨(some 11), none, (.load 2 true (.t 3))⟩,
     ⟨(some 12), none, (.mv (.t 1))⟩,
     ⟨(some 13), none, (.call 37 [(.t 11), (.t 12)])⟩,
     ⟨(some 9), none, (.mv (.t 13))⟩] ⟨false, [], []⟩)
   (.seq (.ops [
     ⟨(some 14), none, (.mv (.t 9))⟩,
     ⟨(some 15), none, (.bin .neq (.t 14) (.c (.int .i64 0)))⟩] ⟨false, [], []⟩)
   (.cond (.t 15) (.seq (.ops [
       ⟨(some 16), none, (.build [(.ro 1 [] true), (.ro 1 [] true)] [])⟩,
       ⟨(some 17), none, (.mv (.t 9))⟩,
       ⟨none, none, (.store 2 (.t 6) (.t 16))⟩,
       ⟨(some 7), none, (.mv (.c (.bool false)))⟩,
       ⟨(some 8), none, (.mv (.t 17))⟩] ⟨false, [], []⟩)
     .ret)
    .skip)))
  (.seq (.ops [
    ⟨(some 18), none, (.fld 1 (.t 3))⟩,
    ⟨(some 19), none, (.load 1 false (.t 18))⟩,
    ⟨(some 20), none, (.mv (.t 1))⟩,
    ⟨(some 21), none, (.idxs 1 (.t 19) (.t 20))⟩,
    ⟨(some 22), none, (.load 1 false (.t 21))⟩,
    ⟨(some 10), none, (.mv (.t 22))⟩] ⟨false, [], []⟩)
  (.seq (.seq (.ops [
     ⟨(some 23), none, (.mv (.t 10))⟩,
     ⟨(some 24), none, (.len 1 (.t 23))⟩,
     ⟨(some 25), none, (.fld 0 (.t 3))⟩,
     ⟨(some 26), none, (.load 1 false (.t 25))⟩,
     ⟨(some 27), none, (.mv (.t 1))⟩,
     ⟨(some 28), none, (.idxs 1 (.t 26) (.t 27))⟩,
     ⟨(some 29), none, (.load 1 false (.t 28))⟩,
     ⟨(some 30), none, (.bin .eql (.t 24) (.t 29))⟩] ⟨true, [30, 10, 6, 3, 2, 1], []⟩)
   (.cond (.t 30) (.seq (.ops [
       ⟨(some 31), none, (.load 2 true (.t 3))⟩,
       ⟨(some 32), none, (.mv (.t 1))⟩,
       ⟨(some 33), none, (.mv (.t 10))⟩,
       ⟨(some 34), none, (.call 38 [(.t 31), (.t 32), (.t 33)])⟩,
       ⟨none, none, (.store 2 (.t 6) (.t 34))⟩,
       ⟨(some 7), none, (.mv (.c (.bool true)))⟩,
       ⟨(some 8), none, (.mv (.c (.int .i64 0)))⟩] ⟨false, [], []⟩)
     .ret)
    .skip))
  (.seq (.draw [
    ⟨(some 35), none, (.load 2 true (.t 3))⟩,
    ⟨(some 36), none, (.mv (.t 1))⟩,
    ⟨(some 37), none, (.mv (.t 10))⟩,
    ⟨(some 38), none, (.call 39 [(.t 37)])⟩,
    ⟨(some 39), none, (.mv (.t 2))⟩,
    ⟨(some 40), none, (.buildS [(.str [])] 1 [(0, (.t 39))])⟩,
    ⟨(some 41), none, (.app [(.str [])] 16 false (.t 38) (.t 40))⟩,
    ⟨(some 42), none, (.call 38 [(.t 35), (.t 36), (.t 41)])⟩,
    ⟨none, none, (.store 2 (.t 6) (.t 42))⟩,
    ⟨(some 7), none, (.mv (.c (.bool false)))⟩,
    ⟨(some 8), none, (.mv (.c (.int .i64 0)))⟩] [(0, 3), (0, 5), (3, 5), (0, 6)] ⟨false, [], []⟩)
  .ret)))))⟩

/- paternoster/pools.Len[string] -/
def w31 : WFn := ⟨2, [.tmp 4, .tmp 5],
 (.seq (.ops [
    ⟨(some 2), none, (.box (.t 0))⟩,
    ⟨(some 4), none, (.mv (.c (.int .i64 0)))⟩,
    ⟨(some 5), none, (.mv (.c (.int .i64 0)))⟩] ⟨false, [], []⟩)
  (.seq (.seq (.ops [
     ⟨(some 7), none, (.load 2 true (.t 2))⟩,
     ⟨(some 8), none, (.mv (.t 1))⟩,
     ⟨(some 9), none, (.call 37 [(.t 7), (.t 8)])⟩,
     ⟨(some 6), none, (.mv (.t 9))⟩] ⟨false, [], []⟩)
   (.seq (.ops [
     ⟨(some 10), none, (.mv (.t 6))⟩,
     ⟨(some 11), none, (.bin .neq (.t 10) (.c (.int .i64 0)))⟩] ⟨false, [], []⟩)
   (.cond (.t 11) (.seq (.ops [
       ⟨(some 12), none, (.mv (.t 6))⟩,
       ⟨(some 4), none, (.mv (.c (.int .i64 0)))⟩,
       ⟨(some 5), none, (.mv (.t 12))⟩] ⟨false, [], []⟩)
     .ret)
    .skip)))
  (.seq (.ops [
    ⟨(some 13), none, (.fld 1 (.t 2))⟩,
    ⟨(some 14), none, (.load 1 false (.t 13))⟩,
    ⟨(some 15), none, (.mv (.t 1))⟩,
    ⟨(some 16), none, (.idxs 1 (.t 14) (.t 15))⟩,
    ⟨(some 17), none, (.load 1 false (.t 16))⟩,
    ⟨(some 18), none, (.len 1 (.t 17))⟩,
    ⟨(some 4), none, (.mv (.t 18))⟩,
    ⟨(some 5), none, (.mv (.c (.int .i64 0)))⟩] ⟨false, [], []⟩)
  .ret)))⟩

/- paternoster/pools.Pop[string] -/
def w32 : WFn := ⟨2, [.cell 4 2 true, .tmp 5, .tmp 6, .tmp 7],
 (.seq (.ops [
    ⟨(some 2), none, (.box (.t 0))⟩,
    ⟨(some 4), none, (.alloc [(.ro 1 [] true), (.ro 1 [] true)])⟩,
    ⟨(some 5), none, (.mv (.c (.str [])))⟩,
    ⟨(some 6), none, (.mv (.c (.bool false)))⟩,
    ⟨(some 7), none, (.mv (.c (.int .i64 0)))⟩] ⟨true, [5, 4, 2, 1], []⟩)
  (.seq (.seq (.ops [
     ⟨(some 11), none, (.load 2 true (.t 2))⟩,
     ⟨(some 12), none, (.mv (.t 1))⟩,
     ⟨(some 13), none, (.call 37 [(.t 11), (.t 12)])⟩,
     ⟨(some 8), none, (.mv (.t 13))⟩] ⟨false, [], []⟩)
   (.seq (.ops [
     ⟨(some 14), none, (.mv (.t 8))⟩,
     ⟨(some 15), none, (.bin .neq (.t 14) (.c (.int .i64 0)))⟩] ⟨false, [], []⟩)
   (.cond (.t 15) (.seq (.ops [
       ⟨(some 16), none, (.build [(.ro 1 [] true), (.ro 1 [] true)] [])⟩,
       ⟨(some 17), none, (.mv (.t 5))⟩,
       ⟨(some 18), none, (.mv (.t 8))⟩,
       ⟨none, none, (.store 2 (.t 4) (.t 16))⟩,
       ⟨(some 5), none, (.mv (.t 17))⟩,
       ⟨(some 6), none, (.mv (.c (.bool false)))⟩,
       ⟨(some 7), none, (.mv (.t 18))⟩] ⟨false, [], []⟩)
     .ret)
    .skip)))
  (.seq (.ops [
    ⟨(some 19), none, (.fld 1 (.t 2))⟩,
    ⟨(some 20), none, (.load 1 false (.t 19))⟩,
    ⟨(some 21), none, (.mv (.t 1))⟩,
    ⟨(some 22), none, (.idxs 1 (.t 20) (.t 21))⟩,
    ⟨(some 23), none, (.load 1 false (.t 22))⟩,
    ⟨(some 9), none, (.mv (.t 23))⟩] ⟨false, [], []⟩)
  (.seq (.ops [
    ⟨(some 24), none, (.mv (.t 9))⟩,
    ⟨(some 25), none, (.len 1 (.t 24))⟩,
    ⟨(some 26), none, (.bin .sub (.t 25) (.c (.int .i64 1)))⟩,
    ⟨(some 10), none, (.mv (.t 26))⟩] ⟨false, [], []⟩)
  (.seq (.seq (.ops [
     ⟨(some 27), none, (.mv (.t 10))⟩,
     ⟨(some 28), none, (.bin .lss (.t 27) (.c (.int .i64 0)))⟩] ⟨true, [28, 10, 9, 5, 4, 2, 1], []⟩)
   (.cond (.t 28) (.seq (.ops [
       ⟨(some 29), none, (.load 2 true (.t 2))⟩,
       ⟨(some 30), none, (.mv (.t 1))⟩,
       ⟨(some 31), none, (.mv (.t 9))⟩,
       ⟨(some 32), none, (.call 38 [(.t 29), (.t 30), (.t 31)])⟩,
       ⟨(some 33), none, (.mv (.t 5))⟩,
       ⟨none, none, (.store 2 (.t 4) (.t 32))⟩,
       ⟨(some 5), none, (.mv (.t 33))⟩,
       ⟨(some 6), none, (.mv (.c (.bool false)))⟩,
       ⟨(some 7), none, (.mv (.c (.int .i64 0)))⟩] ⟨false, [], []⟩)
     .ret)
    .skip))
  (.seq (.draw [
    ⟨(some 34), none, (.load 2 true (.t 2))⟩,
    ⟨(some 35), none, (.mv (.t 1))⟩,
    ⟨(some 36), none, (.mv (.t 9))⟩,
    ⟨(some 37), none, (.mv (.t 10))⟩,
    ⟨(some 38), none, (.slice 1 (.t 36) none (some (.t 37)) none)⟩,
    ⟨(some 39), none, (.call 38 [(.t 34), (.t 35), (.t 38)])⟩,
    ⟨(some 40), none, (.mv (.t 9))⟩,
    ⟨(some 41), none, (.mv (.t 10))⟩,
    ⟨(some 42), none, (.idxs 1 (.t 40) (.t 41))⟩,
    ⟨(some 43), none, (.load 1 false (.t 42))⟩,
    ⟨none, none, (.store 2 (.t 4) (.t 39))⟩,
    ⟨(some 5), none, (.mv (.t 43))⟩,
    ⟨(some 6), none, (.mv (.c (.bool true)))⟩,
    ⟨(some 7), none, (.mv (.c (.int .i64 0)))⟩] [(5, 9), (9, 10)] ⟨false, [], []⟩)
  .ret))))))⟩

/- paternoster/pools.Trim[string] -/
def w33_c0 : WCode := (.seq (.draw [
    ⟨(some 46), none, (.load 2 true (.t 4))⟩,
    ⟨(some 47), none, (.mv (.t 5))⟩,
    ⟨(some 48), none, (.call 39 [(.t 47)])⟩,
    ⟨none, none, (.store 2 (.t 4) (.t 46))⟩,
    ⟨(some 5), none, (.mv (.t 48))⟩,
    ⟨(some 6), none, (.mv (.c (.int .i64 0)))⟩] [(0, 2)] ⟨false, [], []⟩)
  .ret)

def w33_B0 : WCode := (.seq (.ops [
    ⟨(some 25), none, (.bin .lss (.t 24) (.t 23))⟩] ⟨false, [], []⟩)
  (.seq (.cond (.t 25) .skip
    (.exit 0))
  (.seq (.block 1 (.seq (.ops [
      ⟨(some 26), none, (.mv (.t 24))⟩,
      ⟨(some 27), none, (.idxs 1 (.t 22) (.t 24))⟩,
      ⟨(some 28), none, (.load 1 false (.t 27))⟩,
      ⟨(some 8), none, (.mv (.t 26))⟩,
      ⟨(some 9), none, (.mv (.t 28))⟩] ⟨false, [], []⟩)
    (.seq (.ops [
      ⟨(some 29), none, (.mv (.t 9))⟩,
      ⟨(some 30), none, (.len 1 (.t 29))⟩,
      ⟨(some 31), none, (.mv (.t 1))⟩,
      ⟨(some 32), none, (.bin .sub (.t 30) (.t 31))⟩,
      ⟨(some 33), none, (.mx (.t 32) (.c (.int .i64 0)))⟩,
      ⟨(some 10), none, (.mv (.t 33))⟩] ⟨true, [24, 23, 22, 10, 9, 8, 5, 4, 1], []⟩)
    (.seq (.ops [
      ⟨(some 34), none, (.mv (.t 5))⟩,
      ⟨(some 35), none, (.mv (.t 9))⟩,
      ⟨(some 36), none, (.mv (.t 10))⟩,
      ⟨(some 37), none, (.slice 1 (.t 35) none (some (.t 36)) none)⟩,
      ⟨(some 38), none, (.app [(.str [])] 16 false (.t 34) (.t 37))⟩,
      ⟨(some 5), none, (.mv (.t 38))⟩] ⟨false, [], []⟩)
    (.draw [
     ⟨(some 39), none, (.load 2 true (.t 4))⟩,
     ⟨(some 40), none, (.mv (.t 8))⟩,
     ⟨(some 41), none, (.mv (.t 9))⟩,
     ⟨(some 42), none, (.mv (.t 10))⟩,
     ⟨(some 43), none, (.slice 1 (.t 41) (some (.t 42)) none none)⟩,
     ⟨(some 44), none, (.call 38 [(.t 39), (.t 40), (.t 43)])⟩,
     ⟨none, none, (.store 2 (.t 4) (.t 44))⟩] [] ⟨false, [], []⟩)))) ⟨false, [], []⟩)
  (.ops [
   ⟨(some 45), none, (.bin .add (.t 24) (.c (.int .i64 1)))⟩,
   ⟨(some 24), none, (.mv (.t 45))⟩] ⟨false, [], []⟩))))
def w33_L0 : WCode := .loop ⟨true, [24, 23, 22, 5, 4, 1], []⟩ w33_B0
def w33 : WFn := ⟨2, [.cell 4 2 true, .tmp 5, .tmp 6],
 (.seq (.ops [
    ⟨(some 2), none, (.box (.t 0))⟩,
    ⟨(some 4), none, (.alloc [(.ro 1 [] true), (.ro 1 [] true)])⟩,
    ⟨(some 5), none, (.mv (.c (.ro 1 [] true)))⟩,
    ⟨(some 6), none, (.mv (.c (.int .i64 0)))⟩] ⟨true, [5, 4, 2, 1], [(5, 1)]⟩)
  (.seq (.seq (.ops [
     ⟨(some 11), none, (.load 2 true (.t 2))⟩,
     ⟨(some 12), none, (.call 36 [(.t 11)])⟩,
     ⟨(some 7), none, (.mv (.t 12))⟩] ⟨false, [], []⟩)
   (.seq (.ops [
     ⟨(some 13), none, (.mv (.t 7))⟩,
     ⟨(some 14), none, (.bin .neq (.t 13) (.c (.int .i64 0)))⟩] ⟨true, [14, 7, 5, 4, 2, 1], []⟩)
   (.cond (.t 14) (.seq (.ops [
       ⟨(some 15), none, (.build [(.ro 1 [] true), (.ro 1 [] true)] [])⟩,
       ⟨(some 16), none, (.mv (.t 7))⟩,
       ⟨none, none, (.store 2 (.t 4) (.t 15))⟩,
       ⟨(some 5), none, (.mv (.c (.ro 1 [] true)))⟩,
       ⟨(some 6), none, (.mv (.t 16))⟩] ⟨false, [], []⟩)
     .ret)
    .skip)))
  (.seq (.seq (.ops [
     ⟨(some 17), none, (.mv (.t 1))⟩,
     ⟨(some 18), none, (.bin .lss (.t 17) (.c (.int .i64 0)))⟩] ⟨false, [], []⟩)
   (.cond (.t 18) (.seq (.ops [
       ⟨(some 19), none, (.build [(.ro 1 [] true), (.ro 1 [] true)] [])⟩,
       ⟨none, none, (.store 2 (.t 4) (.t 19))⟩,
       ⟨(some 5), none, (.mv (.c (.ro 1 [] true)))⟩,
       ⟨(some 6), none, (.mv (.c (.int .i64 4)))⟩] ⟨false, [], []⟩)
     .ret)
    .skip))
  (.seq (.ops [
    ⟨(some 20), none, (.load 2 true (.t 2))⟩,
    ⟨none, none, (.store 2 (.t 4) (.t 20))⟩] ⟨false, [], []⟩)
  (.seq (.seq (.ops [
     ⟨(some 21), none, (.fld 1 (.t 2))⟩,
     ⟨(some 22), none, (.load 1 false (.t 21))⟩,
     ⟨(some 23), none, (.len 1 (.t 22))⟩,
     ⟨(some 24), none, (.mv (.c (.int .i64 0)))⟩] ⟨false, [], []⟩)
   (.block 0 w33_L0 ⟨true, [5, 4], []⟩))
  w33_c0)))))⟩

@[simp] theorem w33_E0 {β : Type} {C : WProg} {b : Nat} {f : Ex × WSt → Option β} {k : List Pw.Frame} {s : WSt} : CK C b f k w33_L0 s = LK C b f (.sq w33_L0 :: k) w33_B0 (canon b ⟨true, [24, 23, 22, 5, 4, 1], []⟩ s) := ck_lp rfl
noncomputable abbrev w33_K0 (C : WProg) (s : WSt) : Option AV := CK C 0 (pureFin [.cell 4 2 true, .tmp 5, .tmp 6]) [.sq w33_L0, .bk 0 ⟨true, [5, 4], []⟩, .sq w33_c0] w33_B0 s

/- paternoster/pools.All[string] -/
def w34 : WFn := ⟨1, [.tmp 2, .tmp 3],
 (.seq (.ops [
    ⟨(some 1), none, (.box (.t 0))⟩,
    ⟨(some 2), none, (.mv (.c (.ro 1 [] true)))⟩,
    ⟨(some 3), none, (.mv (.c (.int .i64 0)))⟩] ⟨false, [], []⟩)
  (.seq (.seq (.ops [
     ⟨(some 5), none, (.load 2 true (.t 1))⟩,
     ⟨(some 6), none, (.call 36 [(.t 5)])⟩,
     ⟨(some 4), none, (.mv (.t 6))⟩] ⟨false, [], []⟩)
   (.seq (.ops [
     ⟨(some 7), none, (.mv (.t 4))⟩,
     ⟨(some 8), none, (.bin .neq (.t 7) (.c (.int .i64 0)))⟩] ⟨false, [], []⟩)
   (.cond (.t 8) (.seq (.ops [
       ⟨(some 9), none, (.mv (.t 4))⟩,
       ⟨(some 2), none, (.mv (.c (.ro 1 [] true)))⟩,
       ⟨(some 3), none, (.mv (.t 9))⟩] ⟨false, [], []⟩)
     .ret)
    .skip)))
  (.seq (.ops [
    ⟨(some 10), none, (.fld 1 (.t 1))⟩,
    ⟨(some 11), none, (.load 1 false (.t 10))⟩,
    ⟨(some 12), none, (.call 40 [(.t 11)])⟩,
    ⟨(some 13), none, (.call 39 [(.t 12)])⟩,
    ⟨(some 2), none, (.mv (.t 13))⟩,
    ⟨(some 3), none, (.mv (.c (.int .i64 0)))⟩] ⟨false, [], []⟩)
  .ret)))⟩

/- slices.Grow[[]int,int] -/
def w35 : WFn := ⟨2, [.tmp 4],
 (.seq (.ops [
    ⟨(some 4), none, (.mv (.c (.ro 1 [] true)))⟩] ⟨false, [], []⟩)
  (.seq (.seq (.ops [
     ⟨(some 5), none, (.mv (.t 1))⟩,
     ⟨(some 6), none, (.bin .lss (.t 5) (.c (.int .i64 0)))⟩] ⟨false, [], []⟩)
   (.cond (.t 6) (.ops [
      ⟨(some 7), none, .fail⟩,
      ⟨none, none, .fail⟩] ⟨true, [1, 0], []⟩)
    .skip))
  (.seq (.seq (.ops [
     ⟨(some 8), none, (.mv (.t 1))⟩,
     ⟨(some 9), none, (.mv (.t 0))⟩,
     ⟨(some 10), none, (.cap (.t 9))⟩,
     ⟨(some 11), none, (.mv (.t 0))⟩,
     ⟨(some 12), none, (.len 1 (.t 11))⟩,
     ⟨(some 13), none, (.bin .sub (.t 10) (.t 12))⟩,
     ⟨(some 14), none, (.bin .sub (.t 8) (.t 13))⟩,
     ⟨(some 1), none, (.mv (.t 14))⟩] ⟨false, [], []⟩)
   (.seq (.ops [
     ⟨(some 15), none, (.mv (.t 1))⟩,
     ⟨(some 16), none, (.bin .gtr (.t 15) (.c (.int .i64 0)))⟩] ⟨false, [], []⟩)
   (.cond (.t 16) (.ops [
      ⟨(some 17), none, (.mv (.t 0))⟩,
      ⟨(some 18), none, (.mv (.t 0))⟩,
      ⟨(some 19), none, (.cap (.t 18))⟩,
      ⟨(some 20), none, (.slice 1 (.t 17) none (some (.t 19)) none)⟩,
      ⟨(some 21), none, (.mv (.t 1))⟩,
      ⟨(some 22), none, (.app [(.int .i64 0)] 8 true (.t 20) (.t 21))⟩,
      ⟨(some 23), none, (.mv (.t 0))⟩,
      ⟨(some 24), none, (.len 1 (.t 23))⟩,
      ⟨(some 25), none, (.slice 1 (.t 22) none (some (.t 24)) none)⟩,
      ⟨(some 0), none, (.mv (.t 25))⟩] ⟨false, [], []⟩)
    .skip)))
  (.seq (.ops [
    ⟨(some 26), none, (.mv (.t 0))⟩,
    ⟨(some 4), none, (.mv (.t 26))⟩] ⟨false, [], []⟩)
  .ret))))⟩

/- paternoster/pools.Check[string] -/
def w36_c0 : WCode := (.seq (.ops [
    ⟨(some 2), none, (.mv (.c (.int .i64 0)))⟩] ⟨false, [], []⟩)
  .ret)

def w36_B0 : WCode := (.seq (.ops [
    ⟨(some 26), none, (.bin .lss (.t 25) (.t 24))⟩] ⟨false, [], []⟩)
  (.seq (.cond (.t 26) .skip
    (.exit 0))
  (.seq (.block 1 (.seq (.ops [
      ⟨(some 27), none, (.mv (.t 25))⟩,
      ⟨(some 28), none, (.idxs 1 (.t 23) (.t 25))⟩,
      ⟨(some 29), none, (.load 1 false (.t 28))⟩,
      ⟨(some 4), none, (.mv (.t 27))⟩,
      ⟨(some 5), none, (.mv (.t 29))⟩] ⟨true, [25, 24, 23, 5, 4, 1], []⟩)
    (.seq (.ops [
      ⟨(some 30), none, (.mv (.t 5))⟩,
      ⟨(some 31), none, (.bin .lss (.t 30) (.c (.int .i64 0)))⟩,
      ⟨(some 32), none, (.mv (.t 31))⟩,
      ⟨(some 33), (some (32, false)), (.mv (.t 5))⟩,
      ⟨(some 34), (some (32, false)), (.bin .gtr (.t 33) (.c (.int .i64 65536)))⟩,
      ⟨(some 35), none, (.pick (.t 32) (.c (.bool true)) (.t 34))⟩,
      ⟨(some 36), none, (.mv (.t 35))⟩,
      ⟨(some 37), (some (36, false)), (.fld 1 (.t 1))⟩,
      ⟨(some 38), (some (36, false)), (.load 1 false (.t 37))⟩,
      ⟨(some 39), (some (36, false)), (.mv (.t 4))⟩,
      ⟨(some 40), (some (36, false)), (.idxs 1 (.t 38) (.t 39))⟩,
      ⟨(some 41), (some (36, false)), (.load 1 false (.t 40))⟩,
      ⟨(some 42), (some (36, false)), (.len 1 (.t 41))⟩,
      ⟨(some 43), (some (36, false)), (.mv (.t 5))⟩,
      ⟨(some 44), (some (36, false)), (.bin .gtr (.t 42) (.t 43))⟩,
      ⟨(some 45), none, (.pick (.t 36) (.c (.bool true)) (.t 44))⟩] ⟨false, [], []⟩)
    (.cond (.t 45) (.seq (.ops [
        ⟨(some 2), none, (.mv (.c (.int .i64 1)))⟩] ⟨false, [], []⟩)
      .ret)
     .skip))) ⟨false, [], []⟩)
  (.ops [
   ⟨(some 46), none, (.bin .add (.t 25) (.c (.int .i64 1)))⟩,
   ⟨(some 25), none, (.mv (.t 46))⟩] ⟨false, [], []⟩))))
def w36_L0 : WCode := .loop ⟨true, [25, 24, 23, 1], []⟩ w36_B0
def w36 : WFn := ⟨1, [.tmp 2],
 (.seq (.ops [
    ⟨(some 1), none, (.box (.t 0))⟩,
    ⟨(some 2), none, (.mv (.c (.int .i64 0)))⟩] ⟨true, [1], []⟩)
  (.seq (.ops [
    ⟨(some 6), none, (.fld 0 (.t 1))⟩,
    ⟨(some 7), none, (.load 1 false (.t 6))⟩,
    ⟨(some 8), none, (.len 1 (.t 7))⟩,
    ⟨(some 3), none, (.mv (.t 8))⟩] ⟨false, [], []⟩)
  (.seq (.seq (.ops [
     ⟨(some 9), none, (.mv (.t 3))⟩,
     ⟨(some 10), none, (.bin .lss (.t 9) (.c (.int .i64 1)))⟩,
     ⟨(some 11), none, (.mv (.t 10))⟩,
     ⟨(some 12), (some (11, false)), (.mv (.t 3))⟩,
     ⟨(some 13), (some (11, false)), (.bin .gtr (.t 12) (.c (.int .i64 8)))⟩,
     ⟨(some 14), none, (.pick (.t 11) (.c (.bool true)) (.t 13))⟩,
     ⟨(some 15), none, (.mv (.t 14))⟩,
     ⟨(some 16), (some (15, false)), (.fld 1 (.t 1))⟩,
     ⟨(some 17), (some (15, false)), (.load 1 false (.t 16))⟩,
     ⟨(some 18), (some (15, false)), (.len 1 (.t 17))⟩,
     ⟨(some 19), (some (15, false)), (.mv (.t 3))⟩,
     ⟨(some 20), (some (15, false)), (.bin .neq (.t 18) (.t 19))⟩,
     ⟨(some 21), none, (.pick (.t 15) (.c (.bool true)) (.t 20))⟩] ⟨false, [], []⟩)
   (.cond (.t 21) (.seq (.ops [
       ⟨(some 2), none, (.mv (.c (.int .i64 1)))⟩] ⟨false, [], []⟩)
     .ret)
    .skip))
  (.seq (.seq (.ops [
     ⟨(some 22), none, (.fld 0 (.t 1))⟩,
     ⟨(some 23), none, (.load 1 false (.t 22))⟩,
     ⟨(some 24), none, (.len 1 (.t 23))⟩,
     ⟨(some 25), none, (.mv (.c (.int .i64 0)))⟩] ⟨false, [], []⟩)
   (.block 0 w36_L0 ⟨true, [], []⟩))
  w36_c0))))⟩

@[simp] theorem w36_E0 {β : Type} {C : WProg} {b : Nat} {f : Ex × WSt → Option β} {k : List Pw.Frame} {s : WSt} : CK C b f k w36_L0 s = LK C b f (.sq w36_L0 :: k) w36_B0 (canon b ⟨true, [25, 24, 23, 1], []⟩ s) := ck_lp rfl
noncomputable abbrev w36_K0 (C : WProg) (s : WSt) : Option AV := CK C 0 (pureFin [.tmp 2]) [.sq w36_L0, .bk 0 ⟨true, [], []⟩, .sq w36_c0] w36_B0 s

/- paternoster/pools.of[string] -/
def w37 : WFn := ⟨2, [.tmp 4],
 (.seq (.ops [
    ⟨(some 2), none, (.box (.t 0))⟩,
    ⟨(some 4), none, (.mv (.c (.int .i64 0)))⟩] ⟨false, [], []⟩)
  (.seq (.seq (.ops [
     ⟨(some 6), none, (.load 2 true (.t 2))⟩,
     ⟨(some 7), none, (.call 36 [(.t 6)])⟩,
     ⟨(some 5), none, (.mv (.t 7))⟩] ⟨false, [], []⟩)
   (.seq (.ops [
     ⟨(some 8), none, (.mv (.t 5))⟩,
     ⟨(some 9), none, (.bin .neq (.t 8) (.c (.int .i64 0)))⟩] ⟨false, [], []⟩)
   (.cond (.t 9) (.seq (.ops [
       ⟨(some 10), none, (.mv (.t 5))⟩,
       ⟨(some 4), none, (.mv (.t 10))⟩] ⟨false, [], []⟩)
     .ret)
    .skip)))
  (.seq (.seq (.ops [
     ⟨(some 11), none, (.mv (.t 1))⟩,
     ⟨(some 12), none, (.bin .lss (.t 11) (.c (.int .i64 0)))⟩,
     ⟨(some 13), none, (.mv (.t 12))⟩,
     ⟨(some 14), (some (13, false)), (.mv (.t 1))⟩,
     ⟨(some 15), (some (13, false)), (.fld 0 (.t 2))⟩,
     ⟨(some 16), (some (13, false)), (.load 1 false (.t 15))⟩,
     ⟨(some 17), (some (13, false)), (.len 1 (.t 16))⟩,
     ⟨(some 18), (some (13, false)), (.bin .geq (.t 14) (.t 17))⟩,
     ⟨(some 19), none, (.pick (.t 13) (.c (.bool true)) (.t 18))⟩] ⟨false, [], []⟩)
   (.cond (.t 19) (.seq (.ops [
       ⟨(some 4), none, (.mv (.c (.int .i64 4)))⟩] ⟨false, [], []⟩)
     .ret)
    .skip))
  (.seq (.ops [
    ⟨(some 4), none, (.mv (.c (.int .i64 0)))⟩] ⟨false, [], []⟩)
  .ret))))⟩

/- paternoster/pools.with[string] -/
def w38_c0 : WCode := (.seq (.ops [
    ⟨(some 37), none, (.load 2 true (.t 7))⟩,
    ⟨none, none, (.store 2 (.t 6) (.t 37))⟩] ⟨false, [], []⟩)
  .ret)

def w38_B0 : WCode := (.seq (.ops [
    ⟨(some 22), none, (.bin .lss (.t 21) (.t 20))⟩] ⟨false, [], []⟩)
  (.seq (.cond (.t 22) .skip
    (.exit 0))
  (.seq (.block 1 (.seq (.ops [
      ⟨(some 23), none, (.mv (.t 21))⟩,
      ⟨(some 24), none, (.idxs 1 (.t 19) (.t 21))⟩,
      ⟨(some 25), none, (.load 1 false (.t 24))⟩,
      ⟨(some 8), none, (.mv (.t 23))⟩,
      ⟨(some 9), none, (.mv (.t 25))⟩] ⟨false, [], []⟩)
    (.seq (.seq (.ops [
       ⟨(some 26), none, (.mv (.t 8))⟩,
       ⟨(some 27), none, (.mv (.t 1))⟩,
       ⟨(some 28), none, (.bin .eql (.t 26) (.t 27))⟩] ⟨false, [], []⟩)
     (.cond (.t 28) (.ops [
        ⟨(some 29), none, (.mv (.t 2))⟩,
        ⟨(some 9), none, (.mv (.t 29))⟩] ⟨false, [], []⟩)
      .skip))
    (.draw [
     ⟨(some 30), none, (.fld 1 (.t 7))⟩,
     ⟨(some 31), none, (.load 1 false (.t 30))⟩,
     ⟨(some 32), none, (.mv (.t 8))⟩,
     ⟨(some 33), none, (.mv (.t 9))⟩,
     ⟨(some 34), none, (.call 41 [(.t 33)])⟩,
     ⟨(some 35), none, (.idxs 1 (.t 31) (.t 32))⟩,
     ⟨none, none, (.store 1 (.t 35) (.t 34))⟩] [(1, 4)] ⟨false, [], []⟩))) ⟨false, [], []⟩)
  (.ops [
   ⟨(some 36), none, (.bin .add (.t 21) (.c (.int .i64 1)))⟩,
   ⟨(some 21), none, (.mv (.t 36))⟩] ⟨false, [], []⟩))))
def w38_L0 : WCode := .loop ⟨true, [21, 20, 19, 7, 6, 2, 1], []⟩ w38_B0
def w38 : WFn := ⟨3, [.cell 6 2 true],
 (.seq (.ops [
    ⟨(some 3), none, (.box (.t 0))⟩,
    ⟨(some 6), none, (.alloc [(.ro 1 [] true), (.ro 1 [] true)])⟩] ⟨false, [], []⟩)
  (.seq (.draw [
    ⟨(some 10), none, (.fld 0 (.t 3))⟩,
    ⟨(some 11), none, (.load 1 false (.t 10))⟩,
    ⟨(some 12), none, (.call 21 [(.t 11)])⟩,
    ⟨(some 13), none, (.fld 1 (.t 3))⟩,
    ⟨(some 14), none, (.load 1 false (.t 13))⟩,
    ⟨(some 15), none, (.len 1 (.t 14))⟩,
    ⟨(some 16), none, (.mksl [(.ro 1 [] true)] 24 (.t 15) (.t 15))⟩,
    ⟨(some 17), none, (.build [(.ro 1 [] true), (.ro 1 [] true)] [(0, 1, (.t 12)), (1, 1, (.t 16))])⟩,
    ⟨(some 7), none, (.alloc [(.ro 1 [] true), (.ro 1 [] true)])⟩,
    ⟨none, none, (.store 2 (.t 7) (.t 17))⟩] [(2, 4), (2, 5), (1, 6), (2, 6), (1, 8), (2, 8), (4, 8), (5, 8), (6, 8)] ⟨false, [], []⟩)
  (.seq (.seq (.ops [
     ⟨(some 18), none, (.fld 1 (.t 3))⟩,
     ⟨(some 19), none, (.load 1 false (.t 18))⟩,
     ⟨(some 20), none, (.len 1 (.t 19))⟩,
     ⟨(some 21), none, (.mv (.c (.int .i64 0)))⟩] ⟨true, [21, 20, 19, 7, 6, 2, 1], []⟩)
   (.block 0 w38_L0 ⟨true, [7, 6], []⟩))
  w38_c0)))⟩

@[simp] theorem w38_E0 {β : Type} {C : WProg} {b : Nat} {f : Ex × WSt → Option β} {k : List Pw.Frame} {s : WSt} : CK C b f k w38_L0 s = LK C b f (.sq w38_L0 :: k) w38_B0 (canon b ⟨true, [21, 20, 19, 7, 6, 2, 1], []⟩ s) := ck_lp rfl
noncomputable abbrev w38_K0 (C : WProg) (s : WSt) : Option AV := CK C 0 (pureFin [.cell 6 2 true]) [.sq w38_L0, .bk 0 ⟨true, [7, 6], []⟩, .sq w38_c0] w38_B0 s

/- slices.Clip[[]string,string] -/
def w39 : WFn := ⟨1, [.tmp 2],
 (.seq (.ops [
    ⟨(some 2), none, (.mv (.c (.ro 1 [] true)))⟩] ⟨false, [], []⟩)
  (.seq (.ops [
    ⟨(some 3), none, (.mv (.t 0))⟩,
    ⟨(some 4), none, (.mv (.t 0))⟩,
    ⟨(some 5), none, (.len 1 (.t 4))⟩,
    ⟨(some 6), none, (.mv (.t 0))⟩,
    ⟨(some 7), none, (.len 1 (.t 6))⟩,
    ⟨(some 8), none, (.slice 1 (.t 3) none (some (.t 5)) (some (.t 7)))⟩,
    ⟨(some 2), none, (.mv (.t 8))⟩] ⟨false, [], []⟩)
  .ret))⟩

/- slices.Concat[[]string,string] -/
def w40_c0 : WCode := (.seq (.ops [
    ⟨(some 35), none, (.mv (.t 6))⟩,
    ⟨(some 2), none, (.mv (.t 35))⟩] ⟨false, [], []⟩)
  .ret)

def w40_B0 : WCode := (.seq (.ops [
    ⟨(some 28), none, (.bin .lss (.t 27) (.t 26))⟩] ⟨false, [], []⟩)
  (.seq (.cond (.t 28) .skip
    (.exit 2))
  (.seq (.block 3 (.seq (.ops [
      ⟨(some 29), none, (.idxs 1 (.t 25) (.t 27))⟩,
      ⟨(some 30), none, (.load 1 false (.t 29))⟩,
      ⟨(some 8), none, (.mv (.t 30))⟩] ⟨false, [], []⟩)
    (.ops [
     ⟨(some 31), none, (.mv (.t 6))⟩,
     ⟨(some 32), none, (.mv (.t 8))⟩,
     ⟨(some 33), none, (.app [(.str [])] 16 false (.t 31) (.t 32))⟩,
     ⟨(some 6), none, (.mv (.t 33))⟩] ⟨false, [], []⟩)) ⟨false, [], []⟩)
  (.ops [
   ⟨(some 34), none, (.bin .add (.t 27) (.c (.int .i64 1)))⟩,
   ⟨(some 27), none, (.mv (.t 34))⟩] ⟨false, [], []⟩))))
def w40_L0 : WCode := .loop ⟨true, [27, 26, 25, 6], []⟩ w40_B0
def w40_c1 : WCode := (.seq (.ops [
    ⟨(some 23), none, (.mv (.t 3))⟩,
    ⟨(some 24), none, (.call 42 [(.c (.ro 1 [] true)), (.t 23)])⟩,
    ⟨(some 6), none, (.mv (.t 24))⟩] ⟨false, [], []⟩)
  (.seq (.seq (.ops [
     ⟨(some 25), none, (.mv (.t 0))⟩,
     ⟨(some 26), none, (.len 1 (.t 25))⟩,
     ⟨(some 27), none, (.mv (.c (.int .i64 0)))⟩] ⟨false, [], []⟩)
   (.block 2 w40_L0 ⟨true, [6], []⟩))
  w40_c0))

def w40_B1 : WCode := (.seq (.ops [
    ⟨(some 12), none, (.bin .lss (.t 11) (.t 10))⟩] ⟨false, [], []⟩)
  (.seq (.cond (.t 12) .skip
    (.exit 0))
  (.seq (.block 1 (.seq (.ops [
      ⟨(some 13), none, (.idxs 1 (.t 9) (.t 11))⟩,
      ⟨(some 14), none, (.load 1 false (.t 13))⟩,
      ⟨(some 5), none, (.mv (.t 14))⟩] ⟨false, [], []⟩)
    (.seq (.ops [
      ⟨(some 15), none, (.mv (.t 3))⟩,
      ⟨(some 16), none, (.mv (.t 5))⟩,
      ⟨(some 17), none, (.len 1 (.t 16))⟩,
      ⟨(some 18), none, (.bin .add (.t 15) (.t 17))⟩,
      ⟨(some 3), none, (.mv (.t 18))⟩] ⟨false, [], []⟩)
    (.seq (.ops [
      ⟨(some 19), none, (.mv (.t 3))⟩,
      ⟨(some 20), none, (.bin .lss (.t 19) (.c (.int .i64 0)))⟩] ⟨true, [20, 11, 10, 9, 3, 0], []⟩)
    (.cond (.t 20) (.ops [
       ⟨(some 21), none, .fail⟩,
       ⟨none, none, .fail⟩] ⟨false, [], []⟩)
     .skip)))) ⟨false, [], []⟩)
  (.ops [
   ⟨(some 22), none, (.bin .add (.t 11) (.c (.int .i64 1)))⟩,
   ⟨(some 11), none, (.mv (.t 22))⟩] ⟨false, [], []⟩))))
def w40_L1 : WCode := .loop ⟨true, [11, 10, 9, 3, 0], []⟩ w40_B1
def w40 : WFn := ⟨1, [.tmp 2],
 (.seq (.ops [
    ⟨(some 2), none, (.mv (.c (.ro 1 [] true)))⟩] ⟨false, [], []⟩)
  (.seq (.ops [
    ⟨(some 3), none, (.mv (.c (.int .i64 0)))⟩] ⟨false, [], []⟩)
  (.seq (.seq (.ops [
     ⟨(some 9), none, (.mv (.t 0))⟩,
     ⟨(some 10), none, (.len 1 (.t 9))⟩,
     ⟨(some 11), none, (.mv (.c (.int .i64 0)))⟩] ⟨false, [], []⟩)
   (.block 0 w40_L1 ⟨true, [3, 0], []⟩))
  w40_c1)))⟩

@[simp] theorem w40_E0 {β : Type} {C : WProg} {b : Nat} {f : Ex × WSt → Option β} {k : List Pw.Frame} {s : WSt} : CK C b f k w40_L0 s = LK C b f (.sq w40_L0 :: k) w40_B0 (canon b ⟨true, [27, 26, 25, 6], []⟩ s) := ck_lp rfl
noncomputable abbrev w40_K0 (C : WProg) (s : WSt) : Option AV := CK C 0 (pureFin [.tmp 2]) [.sq w40_L0, .bk 2 ⟨true, [6], []⟩, .sq w40_c0] w40_B0 s

@[simp] theorem w40_E1 {β : Type} {C : WProg} {b : Nat} {f : Ex × WSt → Option β} {k : List Pw.Frame} {s : WSt} : CK C b f k w40_L1 s = LK C b f (.sq w40_L1 :: k) w40_B1 (canon b ⟨true, [11, 10, 9, 3, 0], []⟩ s) := ck_lp rfl
noncomputable abbrev w40_K1 (C : WProg) (s : WSt) : Option AV := CK C 0 (pureFin [.tmp 2]) [.sq w40_L1, .bk 0 ⟨true, [3, 0], []⟩, .sq w40_c1] w40_B1 s

/- paternoster/pools.copied[string] -/
def w41 : WFn := ⟨1, [.tmp 2],
 (.seq (.ops [
    ⟨(some 2), none, (.mv (.c (.ro 1 [] true)))⟩] ⟨false, [], []⟩)
  (.seq (.ops [
    ⟨(some 4), none, (.mv (.t 0))⟩,
    ⟨(some 5), none, (.len 1 (.t 4))⟩,
    ⟨(some 6), none, (.mksl [(.str [])] 16 (.t 5) (.t 5))⟩,
    ⟨(some 3), none, (.mv (.t 6))⟩] ⟨false, [], []⟩)
  (.seq (.ops [
    ⟨(some 7), none, (.mv (.t 3))⟩,
    ⟨(some 8), none, (.mv (.t 0))⟩,
    ⟨(some 9), none, (.cpy 1 (.t 7) (.t 8))⟩] ⟨false, [], []⟩)
  (.seq (.ops [
    ⟨(some 10), none, (.mv (.t 3))⟩,
    ⟨(some 2), none, (.mv (.t 10))⟩] ⟨false, [], []⟩)
  .ret))))⟩

/- slices.Grow[[]string,string] -/
def w42 : WFn := ⟨2, [.tmp 4],
 (.seq (.ops [
    ⟨(some 4), none, (.mv (.c (.ro 1 [] true)))⟩] ⟨false, [], []⟩)
  (.seq (.seq (.ops [
     ⟨(some 5), none, (.mv (.t 1))⟩,
     ⟨(some 6), none, (.bin .lss (.t 5) (.c (.int .i64 0)))⟩] ⟨false, [], []⟩)
   (.cond (.t 6) (.ops [
      ⟨(some 7), none, .fail⟩,
      ⟨none, none, .fail⟩] ⟨true, [1, 0], []⟩)
    .skip))
  (.seq (.seq (.ops [
     ⟨(some 8), none, (.mv (.t 1))⟩,
     ⟨(some 9), none, (.mv (.t 0))⟩,
     ⟨(some 10), none, (.cap (.t 9))⟩,
     ⟨(some 11), none, (.mv (.t 0))⟩,
     ⟨(some 12), none, (.len 1 (.t 11))⟩,
     ⟨(some 13), none, (.bin .sub (.t 10) (.t 12))⟩,
     ⟨(some 14), none, (.bin .sub (.t 8) (.t 13))⟩,
     ⟨(some 1), none, (.mv (.t 14))⟩] ⟨false, [], []⟩)
   (.seq (.ops [
     ⟨(some 15), none, (.mv (.t 1))⟩,
     ⟨(some 16), none, (.bin .gtr (.t 15) (.c (.int .i64 0)))⟩] ⟨false, [], []⟩)
   (.cond (.t 16) (.ops [
      ⟨(some 17), none, (.mv (.t 0))⟩,
      ⟨(some 18), none, (.mv (.t 0))⟩,
      ⟨(some 19), none, (.cap (.t 18))⟩,
      ⟨(some 20), none, (.slice 1 (.t 17) none (some (.t 19)) none)⟩,
      ⟨(some 21), none, (.mv (.t 1))⟩,
      ⟨(some 22), none, (.app [(.str [])] 16 true (.t 20) (.t 21))⟩,
      ⟨(some 23), none, (.mv (.t 0))⟩,
      ⟨(some 24), none, (.len 1 (.t 23))⟩,
      ⟨(some 25), none, (.slice 1 (.t 22) none (some (.t 24)) none)⟩,
      ⟨(some 0), none, (.mv (.t 25))⟩] ⟨false, [], []⟩)
    .skip)))
  (.seq (.ops [
    ⟨(some 26), none, (.mv (.t 0))⟩,
    ⟨(some 4), none, (.mv (.t 26))⟩] ⟨false, [], []⟩)
  .ret))))⟩

def tree : WTree := (.node (.node (.node (.node (.node (.node .leaf 0 w0 .leaf) 1 w1 .leaf) 2 w2 (.node (.node .leaf 3 w3 .leaf) 4 w4 .leaf)) 5 w5 (.node (.node (.node .leaf 6 w6 .leaf) 7 w7 .leaf) 8 w8 (.node .leaf 9 w9 .leaf))) 10 w10 (.node (.node (.node (.node .leaf 11 w11 .leaf) 12 w12 .leaf) 13 w13 (.node (.node .leaf 14 w14 .leaf) 15 w15 .leaf)) 16 w16 (.node (.node (.node .leaf 17 w17 .leaf) 18 w18 .leaf) 19 w19 (.node .leaf 20 w20 .leaf)))) 21 w21 (.node (.node (.node (.node (.node .leaf 22 w22 .leaf) 23 w23 .leaf) 24 w24 (.node (.node .leaf 25 w25 .leaf) 26 w26 .leaf)) 27 w27 (.node (.node (.node .leaf 28 w28 .leaf) 29 w29 .leaf) 30 w30 (.node .leaf 31 w31 .leaf))) 32 w32 (.node (.node (.node (.node .leaf 33 w33 .leaf) 34 w34 .leaf) 35 w35 (.node (.node .leaf 36 w36 .leaf) 37 w37 .leaf)) 38 w38 (.node (.node (.node .leaf 39 w39 .leaf) 40 w40 .leaf) 41 w41 (.node .leaf 42 w42 .leaf)))))

/- own number, number in the dump -/
def ids : List (Nat × Nat) := [(0, 2), (1, 3), (2, 4), (3, 5), (4, 6), (5, 7), (6, 8), (7, 9), (8, 10), (9, 11), (10, 12), (11, 13), (12, 14), (13, 15), (14, 16), (15, 17), (16, 18), (17, 19), (18, 20), (19, 21), (20, 22), (21, 23), (22, 24), (23, 25), (24, 26), (25, 27), (26, 28), (27, 29), (28, 30), (29, 31), (30, 32), (31, 33), (32, 34), (33, 35), (34, 36), (35, 37), (36, 38), (37, 39), (38, 40), (39, 41), (40, 42), (41, 43), (42, 44)]

end P21
