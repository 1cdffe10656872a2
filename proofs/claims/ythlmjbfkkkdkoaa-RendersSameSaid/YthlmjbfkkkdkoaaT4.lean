/- Part of the theory that the claims of this work use: PwP, PwLib, D01, PavLink, L24, PwGlueR, PwGlueR2, G00R, V27, D02, D03, D04, D05, D06, D07, D08, D09, D10, D11, D12, D13, D14, D15, D16, D17, D18, D19, E12. No conditions of its own. -/
import Derived.Test.YthlmjbfkkkdkoaaT3
import Derived.Laws.RangeAny
import Derived.Test.YthlmjbfkkkdkoaaChecked
import Derived.KernelRfl
import Derived.ChangeSame
import Derived.ChangeArms
import Derived.ReadAgain
import Derived.Handed
import Derived.JoinedOf
import Derived.RowKit
import Derived.Test.YthlmjbfkkkdkoaaRows
import Derived.ProofKit
import Derived.Sort.Walk0
section
set_option linter.unusedSimpArgs false
set_option linter.unusedVariables false
set_option maxRecDepth 100000
namespace P
open Go Go.Pav Go.Pw Go.Pw.Z Go.Pw.ZC
def w0 : WFn := ⟨0,[],zd (O 0 [E .fail])⟩
def w604_c0 : WCode := zd (r (V 50 [h 12 2,h 12 3,ca 258 [50,51],h 12 2,h 12 3,ca 127 [53,54],eqi 55 1,E (.eqv 5 [] false (T 52) (T 56)),m 57,y 58 (h 12 2),y 58 (h 12 2),y 58 (ca 258 [59,60]),pa 58 61,m 62,y 63 (h 12 3),y 63 (h 12 3),y 63 (ca 258 [64,65]),pa 63 66,m 67,y 68 (ca 128 []),pa 68 69,d 4 (m 70)] [(2,3),(2,4)] ⟨false,[],[]⟩))
def w604_c1 : WCode := zd (Q 49 [adi 23 1,d 23 (m 49)] [23,22,21,3,2])
def w604_c2 : WCode := zd (s (O 43 [f 3 6,f 3 43,h 6 44,E (.call 606 [T 45,N 40]),gti 46 40]) (c 47 (r (O 48 [ca 128 [],d 4 (m 48)]))))
def w604_B1 : WCode := zd (s (s (Q 27 [m 7,f 1 6,l 1 28,ln 1 29,lt 27 30] [31,23,22,21,7,6,3,2]) (cc 31 (w .skip) (ee 2))) (s (B 3 (s (O 34 [f 1 6,l 1 34,m 7,ix 9 35 36,f 3 37,h 6 38,E (.call 606 [T 39,N 40]),gti 40 40]) (c 41 (r (O 42 [ca 128 [],d 4 (m 42)]))))) (O 32 [m 7,adi 32 1,d 7 (m 33)])))
def w604_L1 : WCode := .loop ⟨true,[23,22,21,7,6,3,2],[]⟩ w604_B1
def w604_B0 : WCode := zd (s (O 24 [lt 23 22]) (s (cc 24 (w .skip) (ee 0)) (s (bk 1 (s (O 25 [ix 12 21 23,h 12 25,d 6 (E (.alloc [.int .i64 0,.ro 9 [] true,.bool false,.int .u64 0,.int .i64 0,.int .i64 0,.int .u8 0,.str [],.str [],.ro 2 [] true,.str [],.ro 6 [] true])),n (st 12 6 26)]) (s (s (O 7 [i 0]) (bk 2 w604_L1 ⟨true,[23,22,21,6,3,2],[]⟩)) w604_c2)) ⟨true,[23,22,21,3,2],[]⟩) w604_c1)))
def w604_L0 : WCode := .loop ⟨true,[23,22,21,3,2],[]⟩ w604_B0
def w604 : WFn := ⟨2,[.tmp 4],zd (s (Q 2 [bx 0,bx 1,ff] [3,2]) (s (s (O 8 [f 1 2,l 1 8,ln 1 9,gti 10 10,m 11,z 12 (f 1 3),z 12 (l 1 13),z 12 (ln 1 14),z 12 (gti 15 10),po 12 16]) (c 17 (r (O 18 [ca 128 [],d 4 (m 18)])))) (s (s (O 19 [h 12 2,h 12 3,E (.buildS [.int .i64 0,.ro 9 [] true,.bool false,.int .u64 0,.int .i64 0,.int .i64 0,.int .u8 0,.str [],.str [],.ro 2 [] true,.str [],.ro 6 [] true] 2 [(0,T 19),(1,T 20)]),ln 1 21,i 0]) (bk 0 w604_L0 ⟨true,[3,2],[]⟩)) w604_c0)))⟩
@[simp] theorem w604_E1 : ZL w604_L1 w604_B1 ⟨true,[23,22,21,7,6,3,2],[]⟩ := ck_lp rfl
noncomputable abbrev w604_K1 (C : WProg) (s : WSt) : Option AV := CK C 0 (pureFin [.tmp 4]) [.sq w604_L1,.bk 2 ⟨true,[23,22,21,6,3,2],[]⟩,.sq w604_c2,.bk 1 ⟨true,[23,22,21,3,2],[]⟩,.sq w604_c1,.sq w604_L0,.bk 0 ⟨true,[3,2],[]⟩,.sq w604_c0] w604_B1 s
@[simp] theorem w604_E0 : ZL w604_L0 w604_B0 ⟨true,[23,22,21,3,2],[]⟩ := ck_lp rfl
noncomputable abbrev w604_K0 (C : WProg) (s : WSt) : Option AV := CK C 0 (pureFin [.tmp 4]) [.sq w604_L0,.bk 0 ⟨true,[3,2],[]⟩,.sq w604_c0] w604_B0 s
def w128_c0 : WCode := zd (s (O 166 [h 2 1,h 1 2,E (.call 125 [T 166,T 167,N 15,N 20]),d 165 (m 168),ex 0 165,ex 1 165,d 15 (E (.alloc [.int .i64 0,.ro 9 [] true,.bool false,.int .u64 0,.int .i64 0,.int .i64 0,.int .u8 0,.str [],.str [],.ro 2 [] true,.str [],.ro 6 [] true])),n (st 12 15 169),d 4 (m 170)]) (r (Q 171 [m 4,eqi 171 0,m 172,y 173 (f 1 15),y 173 (l 1 174),y 173 (ln 1 175),y 173 (eqi 176 2),pa 173 177,m 178,y 179 (f 1 15),y 179 (l 1 180),y 179 (E (.idxs 9 (T 181) (N 0))),y 179 (f 1 182),y 179 (l 1 183),y 179 (eqi 184 (-5)),pa 179 185,m 186,y 187 (f 1 15),y 187 (l 1 188),y 187 (E (.idxs 9 (T 189) (N 0))),y 187 (f 0 190),y 187 (l 1 191),y 187 (E (.bin .eql (T 192) (.c (.int .u64 2)))),pa 187 193,m 194,y 195 (f 1 15),y 195 (l 1 196),y 195 (E (.idxs 9 (T 197) (N 1))),y 195 (f 1 198),y 195 (l 1 199),y 195 (eqi 200 15),pa 195 201,m 202,y 203 (f 1 15),y 203 (l 1 204),y 203 (E (.idxs 9 (T 205) (N 1))),y 203 (f 0 206),y 203 (l 1 207),y 203 (E (.bin .eql (T 208) (.c (.int .u64 3)))),pa 203 209,m 210,y 211 (f 3 15),y 211 (f 0 212),y 211 (l 1 213),y 211 (E (.bin .eql (T 214) (.c (.int .u64 1)))),pa 211 215,m 216,y 217 (f 3 15),y 217 (f 1 218),y 217 (l 1 219),y 217 (eqi 220 0),pa 217 221,d 0 (m 222)] [0])))
def w128_B0 : WCode := zd (s (s (O 124 [m 12,lti 124 5]) (cc 125 (w .skip) (ee 4))) (s (B 5 (s (V 129 [h 2 1,h 1 2,E (.buildS [.int .i64 0] 5 [(0,N 0),(1,N 15),(2,N 24),(3,N 29),(4,N 30)]),m 12,ix 1 131 132,l 1 133,E (.call 125 [T 129,T 130,T 134,N 5]),d 128 (m 135),ex 0 128,ex 1 128,d 13 (E (.alloc [.int .i64 0,.ro 9 [] true,.bool false,.int .u64 0,.int .i64 0,.int .i64 0,.int .u8 0,.str [],.str [],.ro 2 [] true,.str [],.ro 6 [] true])),n (st 12 13 136),d 14 (m 137)] [(0,2),(1,2),(0,10),(1,10),(2,10),(5,10),(6,10)] ⟨false,[],[]⟩) (s (U 138 [m 14,nei 138 0,m 139,z 140 (f 2 13),z 140 (l 1 141),z 140 (nt 142),po 140 143,m 144,z 145 (f 3 13),z 145 (f 0 146),z 145 (l 1 147),z 145 (E (.buildS [.int .u64 0] 5 [(0,.c (.int .u64 1)),(1,.c (.int .u64 1)),(2,.c (.int .u64 1)),(3,.c (.int .u64 1)),(4,.c (.int .u64 3))])),z 145 (m 12),z 145 (ix 1 149 150),z 145 (l 1 151),z 145 (ne 148 152),po 145 153,m 154,z 155 (f 3 13),z 155 (f 1 156),z 155 (l 1 157),z 155 (E (.buildS [.int .i64 0] 5 [(0,N 0),(1,N 0),(2,N (-4)),(3,N (-9)),(4,N 0)])),z 155 (m 12),z 155 (ix 1 159 160),z 155 (l 1 161),z 155 (ne 158 162),po 155 163] [(10,11),(20,21)] [164,12,2,1]) (c 164 (r (O 0 [ff])))))) (O 126 [m 12,adi 126 1,d 12 (m 127)])))
def w128_L0 : WCode := .loop ⟨true,[12,2,1],[]⟩ w128_B0
def w128_c1 : WCode := zd (s (s (O 12 [i 0]) (bk 4 w128_L0 ⟨true,[2,1],[]⟩)) w128_c0)
def w128_B1 : WCode := zd (s (s (O 77 [m 8,lti 77 4]) (cc 78 (w .skip) (ee 2))) (s (B 3 (s (V 82 [h 1 2,E (.buildS [.int .i64 0] 4 [(0,N 0),(1,N 9),(2,N 30),(3,N 31)]),m 8,ix 1 83 84,l 1 85,E (.buildS [.int .i64 0] 4 [(0,N 10),(1,N 2),(2,N 35),(3,N 35)]),m 8,ix 1 87 88,l 1 89,ca 121 [82,86,90],d 81 (m 91),ex 0 81,ex 1 81,ex 2 81,d 9 (m 92),d 10 (m 93),d 11 (m 94)] [(0,1),(0,5),(1,5),(4,5),(1,8)] ⟨false,[],[]⟩) (s (Q 95 [m 9,E (.buildS [.int .i64 0] 4 [(0,N 0),(1,N 0),(2,N 2),(3,N 0)]),m 8,ix 1 96 97,l 1 98,ne 95 99,m 100,z 101 (m 10),z 101 (E (.buildS [.int .i64 0] 4 [(0,N 1),(1,N 2),(2,N 4),(3,N 0)])),z 101 (m 8),z 101 (ix 1 103 104),z 101 (l 1 105),z 101 (ne 102 106),po 101 107,m 108,z 109 (m 11),z 109 (eqi 110 0),z 109 (m 8),z 109 (lti 112 3),z 109 (E (.eqv 5 [] true (T 111) (T 113))),po 109 114,m 115,z 116 (m 8),z 116 (eqi 117 3),z 116 (m 118),y 119 (m 11),y 119 (nei 120 4),z 116 (pa 119 121),po 116 122] [123,8,2,1]) (c 123 (r (O 0 [ff])))))) (O 79 [m 8,adi 79 1,d 8 (m 80)])))
def w128_L1 : WCode := .loop ⟨true,[8,2,1],[]⟩ w128_B1
def w128_c2 : WCode := zd (s (s (O 8 [i 0]) (bk 2 w128_L1 ⟨true,[2,1],[]⟩)) w128_c1)
def w128_B2 : WCode := zd (s (s (O 32 [m 5,lti 32 5]) (cc 33 (w .skip) (ee 0))) (s (B 1 (s (V 37 [h 1 2,E (.buildS [.int .i64 0] 5 [(0,N 0),(1,N 9),(2,N 10),(3,N 64),(4,N 65)]),m 5,ix 1 38 39,l 1 40,ca 120 [37,41],d 36 (m 42),ex 0 36,ex 1 36,d 6 (m 43),d 7 (m 44)] [(0,1)] ⟨false,[],[]⟩) (s (U 45 [m 3,m 5,ix 1 45 46,l 1 47,E (.buildS [.int .i64 0] 5 [(0,N 0),(1,N 10),(2,N 30),(3,N 35),(4,N 65)]),m 5,ix 1 49 50,l 1 51,ne 48 52,m 53,z 54 (m 6),z 54 (E (.buildS [.int .i64 0] 5 [(0,N 0),(1,N 0),(2,N 1),(3,N 3),(4,N 0)])),z 54 (m 5),z 54 (ix 1 56 57),z 54 (l 1 58),z 54 (ne 55 59),po 54 60,m 61,z 62 (m 7),z 62 (eqi 63 0),z 62 (m 5),z 62 (lti 65 4),z 62 (E (.eqv 5 [] true (T 64) (T 66))),po 62 67,m 68,z 69 (m 5),z 69 (eqi 70 4),z 69 (m 71),y 72 (m 7),y 72 (nei 73 4),z 69 (pa 72 74),po 69 75] [(3,4)] [76,5,3,2,1]) (c 76 (r (Q 0 [ff] [0])))))) (O 34 [m 5,adi 34 1,d 5 (m 35)])))
def w128_L2 : WCode := .loop ⟨true,[5,3,2,1],[]⟩ w128_B2
def w128 : WFn := ⟨0,[.tmp 0],zd (s (O 0 [ff]) (s (O 17 [ca 266 [],d 16 (m 17),ex 0 16,ex 1 16,d 1 (E (.alloc [.ro 9 [] true,.int .i64 0])),d 2 (E (.alloc [.ro 6 [] true])),n (st 2 1 18),n (st 1 2 19)]) (s (Q 21 [h 1 2,ca 246 [21],d 20 (m 22),ex 0 20,ex 1 20,d 3 (m 23),d 4 (m 24)] [4,3,2,1]) (s (s (O 25 [m 4,nei 25 0,m 26,z 27 (m 3),z 27 (ln 1 28),z 27 (nei 29 5),po 27 30]) (c 31 (r (O 0 [ff])))) (s (s (O 5 [i 0]) (bk 0 w128_L2 ⟨true,[2,1],[]⟩)) w128_c2)))))⟩
@[simp] theorem w128_E0 : ZL w128_L0 w128_B0 ⟨true,[12,2,1],[]⟩ := ck_lp rfl
@[simp] theorem w128_E1 : ZL w128_L1 w128_B1 ⟨true,[8,2,1],[]⟩ := ck_lp rfl
@[simp] theorem w128_E2 : ZL w128_L2 w128_B2 ⟨true,[5,3,2,1],[]⟩ := ck_lp rfl
def w246_c0 : WCode := zd (r (O 2 [d 39 (m 5),m 39,i 0]))
def w246_B0 : WCode := zd (s (Q 21 [lt 20 19] [21,20,19,5,1]) (s (cc 21 (w .skip) (ee 0)) (s (B 1 (s (O 22 [m 20,d 6 (m 22)]) (V 23 [m 5,m 6,adi 24 1,m 5,m 6,ix 1 26 27,l 1 28,f 0 1,l 1 30,m 6,ix 6 31 32,f 4 33,l 1 34,ad 29 35,ix 1 23 25,n (st 1 37 36)] [] ⟨false,[],[]⟩))) (O 38 [adi 20 1,d 20 (m 38)]))))
def w246_L0 : WCode := .loop ⟨true,[20,19,5,1],[]⟩ w246_B0
def w246 : WFn := ⟨1,[.tmp 2,.tmp 3],zd (s (O 1 [bx 0,E (.mv (.c (.ro 1 [] true))),i 0]) (s (s (O 7 [h 1 1,ca 122 [7],d 4 (m 8)]) (s (O 9 [m 4,nei 9 0]) (c 10 (r (O 2 [d 11 (m 4),E (.mv (.c (.ro 1 [] true))),m 11]))))) (s (O 12 [f 0 1,l 1 12,ln 1 13,adi 14 1,E (.mksl [.int .i64 0] 8 (T 15) (T 15)),d 5 (m 16)]) (s (s (O 17 [f 0 1,l 1 17,ln 1 18,i 0]) (bk 0 w246_L0 ⟨true,[5],[]⟩)) w246_c0))))⟩
@[simp] theorem w246_E0 : ZL w246_L0 w246_B0 ⟨true,[20,19,5,1],[]⟩ := ck_lp rfl
def w120 : WFn := ⟨2,[.tmp 4,.tmp 5],zd (s (O 4 [d 2 (bx 0),i 0,i 0]) (s (O 9 [h 1 2,ca 246 [9],d 8 (m 10),ex 0 8,ex 1 8,d 6 (m 11),d 7 (m 12)]) (s (s (Q 13 [m 7,nei 13 0] [14,7,6,1]) (c 14 (r (O 4 [d 15 (m 7),i 0,m 15])))) (s (s (O 16 [m 1,lti 16 0,m 17,z 18 (m 1),z 18 (m 6),z 18 (m 6),z 18 (ln 1 21),z 18 (sbi 22 1),z 18 (ix 1 20 23),z 18 (l 1 24),z 18 (ge 19 25),po 18 26]) (c 27 (r (O 4 [i 0,i 4])))) (r (O 28 [m 6,m 1,ca 247 [28,29],d 4 (m 30),d 5 (i 0)]))))))⟩
def w121 : WFn := ⟨3,[.tmp 6,.tmp 7,.tmp 8],zd (s (Q 6 [d 3 (bx 0),i 0,i 0,i 0] [3,2,1]) (s (s (O 13 [h 1 3,m 1,m 2,ca 248 [13,14,15],d 9 (m 16)]) (s (O 17 [m 9,nei 17 0]) (c 18 (r (O 6 [d 19 (m 9),i 0,i 0,m 19]))))) (s (O 21 [h 1 3,ca 246 [21],d 20 (m 22),ex 0 20,ex 1 20,d 10 (m 23),d 11 (m 24)]) (s (s (O 25 [m 10,ln 1 25,eqi 26 1]) (c 27 (r (Q 6 [i 0,i 0,i 0] [8,7,6])))) (s (O 28 [m 1,m 2,ad 28 29,m 10,m 10,ln 1 32,sbi 33 1,ix 1 31 34,l 1 35,E (.mn (T 30) (T 36)),d 12 (m 37)]) (r (O 38 [m 10,m 1,ca 247 [38,39],m 10,m 12,sbi 42 1,ca 247 [41,43],adi 44 1,d 6 (m 40),d 7 (m 45),d 8 (i 0)])))))))⟩
def w122 : WFn := ⟨1,[.tmp 2],zd (s (O 1 [bx 0,i 0]) (s (s (O 3 [f 0 1,l 1 3,ln 1 4,gti 5 1024]) (c 6 (r (O 2 [i 3])))) (s (s (O 7 [f 0 1,l 1 7,E (.call 249 [T 8,.c (.fn 250 [])])]) (c 9 (r (O 2 [i 12])))) (s (s (O 10 [h 1 1,ca 111 [10],gti 11 4611686018427387904]) (c 12 (r (O 2 [i 13])))) (r (O 2 [i 0]))))))⟩
def w248 : WFn := ⟨3,[.tmp 6],zd (s (O 6 [d 3 (bx 0),i 0]) (s (s (O 8 [h 1 3,ca 122 [8],d 7 (m 9)]) (s (O 10 [m 7,nei 10 0]) (c 11 (r (Q 12 [m 7,d 6 (m 12)] [6]))))) (s (B 0 (s (O 14 [m 2,lti 14 1,m 15,z 16 (m 2),z 16 (gti 17 2147483648),po 16 18,d 13 (m 19)]) (cc 13 (r (O 6 [i 1])) (s (O 21 [m 1,lti 21 0,m 22,z 23 (m 1),z 23 (h 1 3),z 23 (ca 111 [25]),z 23 (m 2),z 23 (sb 26 27),z 23 (E (.mx (N 0) (T 28))),z 23 (gt 24 29),po 23 30,d 20 (m 31)]) (c 20 (r (O 6 [i 4]))))))) (r (O 6 [i 0])))))⟩
def w606_c0 : WCode := zd (r (O 30 [m 5,d 4 (m 30)]))
def w606_B0 : WCode := zd (s (s (Q 7 [m 6,f 5 2,l 1 8,ln 1 9,lt 7 10,m 11,y 12 (m 5),y 12 (m 1),y 12 (le 13 14),pa 12 15] [16,6,5,2,1]) (cc 16 (w .skip) (ee 0))) (s (B 1 (O 19 [m 5,f 5 2,l 1 20,m 6,ix 6 21 22,h 6 23,m 1,m 5,sb 25 26,ca 606 [24,27],ad 19 28,d 5 (m 29)])) (O 17 [m 6,adi 17 1,d 6 (m 18)])))
def w606_L0 : WCode := .loop ⟨true,[6,5,2,1],[]⟩ w606_B0
def w606 : WFn := ⟨2,[.tmp 4],zd (s (O 4 [d 2 (bx 0),i 0]) (s (O 5 [i 1]) (s (s (O 6 [i 0]) (bk 0 w606_L0 ⟨true,[5],[]⟩)) w606_c0)))⟩
@[simp] theorem w606_E0 : ZL w606_L0 w606_B0 ⟨true,[6,5,2,1],[]⟩ := ck_lp rfl
noncomputable abbrev w606_K0 (C : WProg) (s : WSt) : Option AV := CK C 0 (pureFin [.tmp 4]) [.sq w606_L0,.bk 0 ⟨true,[5],[]⟩,.sq w606_c0] w606_B0 s
def w258 : WFn := ⟨2,[.tmp 4],zd (s (O 2 [bx 0,bx 1,ff]) (r (Q 5 [f 0 2,l 1 5,f 0 3,l 1 7,eq 6 8,m 9,y 10 (f 2 2),y 10 (l 1 11),y 10 (f 2 3),y 10 (l 1 13),y 10 (E (.eqv 5 [] false (T 12) (T 14))),pa 10 15,m 16,y 17 (f 3 2),y 17 (h 9 18),y 17 (f 3 3),y 17 (h 9 20),y 17 (ca 413 [19,21]),pa 17 22,m 23,y 24 (f 1 2),y 24 (l 1 25),y 24 (f 1 3),y 24 (l 1 27),y 24 (E (.call 414 [T 26,T 28,.c (.fn 413 [])])),pa 24 29,d 4 (m 30)] [4])))⟩
def w127_c0 : WCode := zd (r (O 46 [f 3 2,h 9 46,f 3 3,h 9 48,ca 260 [47,49],d 4 (m 50)]))
def w127_B0 : WCode := zd (s (s (Q 27 [m 5,f 1 2,l 1 28,ln 1 29,lt 27 30] [31,5,3,2]) (cc 31 (w .skip) (ee 0))) (s (B 1 (s (V 34 [f 1 2,l 1 34,m 5,ix 9 35 36,h 9 37,f 1 3,l 1 39,m 5,ix 9 40 41,h 9 42,ca 260 [38,43],eqi 44 0] [] ⟨false,[],[]⟩) (c 45 (r (O 4 [i 0]))))) (O 32 [m 5,adi 32 1,d 5 (m 33)])))
def w127_L0 : WCode := .loop ⟨true,[5,3,2],[]⟩ w127_B0
def w127 : WFn := ⟨2,[.tmp 4],zd (s (Q 2 [bx 0,bx 1,i 0] [3,2]) (s (s (O 6 [f 0 2,l 1 6,f 0 3,l 1 8,ne 7 9,m 10,z 11 (f 2 2),z 11 (l 1 12),z 11 (f 2 3),z 11 (l 1 14),z 11 (E (.eqv 5 [] true (T 13) (T 15))),po 11 16,m 17,z 18 (f 1 2),z 18 (l 1 19),z 18 (ln 1 20),z 18 (f 1 3),z 18 (l 1 22),z 18 (ln 1 23),z 18 (ne 21 24),po 18 25]) (c 26 (r (O 4 [i 0])))) (s (s (O 5 [i 0]) (bk 0 w127_L0 ⟨true,[3,2],[]⟩)) w127_c0)))⟩
@[simp] theorem w127_E0 : ZL w127_L0 w127_B0 ⟨true,[5,3,2],[]⟩ := ck_lp rfl
noncomputable abbrev w127_K0 (C : WProg) (s : WSt) : Option AV := CK C 0 (pureFin [.tmp 4]) [.sq w127_L0,.bk 0 ⟨true,[3,2],[]⟩,.sq w127_c0] w127_B0 s
def w266_c0 : WCode := zd (r (V 35 [h 2 3,h 1 4,n (st 2 0 35),n (st 1 1 36)] [(1,2)] ⟨false,[],[]⟩))
def w266_B0 : WCode := zd (s (s (O 13 [m 5,lti 13 4]) (cc 14 (w .skip) (ee 0))) (s (B 1 (U 17 [f 0 4,l 1 17,m 5,adi 19 1,E (.cvt .u64 (T 20)),m 5,E (.bin .rem (T 22) (N 2)),E (.bin .sub (N 1) (T 23)),E (.cvt .u8 (T 24)),E (.build [.int .u64 0,.int .u8 0,.str [],.ro 1 [] true] [(0,1,T 21),(1,1,T 25)]),E (.buildS [.int .i64 0] 4 [(0,N 10),(1,N 20),(2,N 5),(3,N 30)]),m 5,ix 1 27 28,l 1 29,E (.build [.int .u64 0,.int .u8 0,.str [],.ro 1 [] true,.int .i64 0,.bool false] [(0,4,T 26),(4,1,T 30),(5,1,.c (.bool true))]),E (.buildS [.int .u64 0,.int .u8 0,.str [],.ro 1 [] true,.int .i64 0,.bool false] 1 [(0,T 31)]),E (.app [.int .u64 0,.int .u8 0,.str [],.ro 1 [] true,.int .i64 0,.bool false] 72 false (T 18) (T 32)),f 0 4,n (st 1 34 33)] [(1,10),(1,15)] [5,4,3,1,0])) (O 15 [m 5,adi 15 1,d 5 (m 16)])))
def w266_L0 : WCode := .loop ⟨true,[5,4,3,1,0],[]⟩ w266_B0
def w266 : WFn := ⟨0,[.cell 0 2 true,.cell 1 1 true],zd (s (O 0 [E (.alloc [.ro 9 [] true,.int .i64 0]),E (.alloc [.ro 6 [] true])]) (s (O 6 [E (.build [.int .u8 0,.str [],.str [],.ro 3 [] true,.str [],.ro 6 [] true] [(0,1,.c (.int .u8 1)),(1,1,.c (.str [114,111,119]))]),d 2 (E (.alloc [.int .u8 0,.str [],.str [],.ro 3 [] true,.str [],.ro 6 [] true])),n (st 6 2 6)]) (s (O 7 [h 6 2,E (.build [.int .u8 0,.str [],.str [],.ro 3 [] true,.str [],.ro 6 [] true,.int .i64 0,.bool false,.int .i64 0] [(0,6,T 7),(6,1,N 1)]),h 6 2,E (.build [.int .u8 0,.str [],.str [],.ro 3 [] true,.str [],.ro 6 [] true,.int .i64 0,.bool false,.int .i64 0] [(0,6,T 9),(6,1,N 1),(7,1,.c (.bool true))]),E (.buildS [.int .u8 0,.str [],.str [],.ro 3 [] true,.str [],.ro 6 [] true,.int .i64 0,.bool false,.int .i64 0] 2 [(0,T 8),(1,T 10)]),E (.build [.ro 9 [] true,.int .i64 0] [(0,1,T 11),(1,1,N 1)]),d 3 (E (.alloc [.ro 9 [] true,.int .i64 0])),n (st 2 3 12)]) (s (O 4 [E (.alloc [.ro 6 [] true])]) (s (s (O 5 [i 0]) (bk 0 w266_L0 ⟨true,[4,3,1,0],[]⟩)) w266_c0)))))⟩
@[simp] theorem w266_E0 : ZL w266_L0 w266_B0 ⟨true,[5,4,3,1,0],[]⟩ := ck_lp rfl
def w125_c0 : WCode := zd (s (O 90 [f 1 14,l 1 90,ca 265 [91],ca 264 [92],f 1 14,n (st 1 94 93)]) (r (O 95 [h 12 14,n (st 12 8 95),d 9 (i 0)])))
def w125_B0 : WCode := zd (s (O 69 [lt 68 67]) (s (cc 69 (w .skip) (ee 0)) (s (B 1 (s (O 70 [m 68,ix 9 66 68,h 9 71,d 18 (E (.alloc [.int .u64 0,.int .i64 0,.int .i64 0,.int .u8 0,.str [],.str [],.ro 2 [] true,.str [],.ro 6 [] true])),d 17 (m 70),n (st 9 18 72)]) (s (O 73 [m 11,m 17,ad 73 74,m 15,ne 75 76]) (c 77 (s (Q 78 [f 1 18,l 1 78,m 2,sb 79 80,f 1 18,n (st 1 82 81)] [68,67,66,18,15,14,11,8,2]) (O 83 [f 1 14,l 1 83,h 9 18,E (.buildS [.int .u64 0,.int .i64 0,.int .i64 0,.int .u8 0,.str [],.str [],.ro 2 [] true,.str [],.ro 6 [] true] 1 [(0,T 85)]),E (.app [.int .u64 0,.int .i64 0,.int .i64 0,.int .u8 0,.str [],.str [],.ro 2 [] true,.str [],.ro 6 [] true] 128 false (T 84) (T 86)),f 1 14,n (st 1 88 87)])))))) (O 89 [adi 68 1,d 68 (m 89)]))))
def w125_L0 : WCode := .loop ⟨true,[68,67,66,15,14,11,8,2],[]⟩ w125_B0
def w125 : WFn := ⟨4,[.cell 8 12 true,.tmp 9],zd (s (O 8 [d 4 (bx 0),d 5 (bx 1),E (.alloc [.int .i64 0,.ro 9 [] true,.bool false,.int .u64 0,.int .i64 0,.int .i64 0,.int .u8 0,.str [],.str [],.ro 2 [] true,.str [],.ro 6 [] true]),i 0]) (s (s (O 19 [h 2 4,h 1 5,ca 223 [19,20],d 10 (m 21)]) (s (O 22 [m 10,nei 22 0]) (c 23 (r (O 24 [E (.build [.int .i64 0,.ro 9 [] true,.bool false,.int .u64 0,.int .i64 0,.int .i64 0,.int .u8 0,.str [],.str [],.ro 2 [] true,.str [],.ro 6 [] true] []),m 10,n (st 12 8 24),d 9 (m 25)]))))) (s (Q 27 [h 1 5,m 2,m 3,ca 121 [27,28,29],d 26 (m 30),ex 0 26,ex 1 26,ex 2 26,d 11 (m 31),d 12 (m 32),d 13 (m 33)] [13,12,11,8,5,4,2]) (s (s (O 34 [m 13,nei 34 0]) (c 35 (r (O 36 [E (.build [.int .i64 0,.ro 9 [] true,.bool false,.int .u64 0,.int .i64 0,.int .i64 0,.int .u8 0,.str [],.str [],.ro 2 [] true,.str [],.ro 6 [] true] []),m 13,n (st 12 8 36),d 9 (m 37)])))) (s (O 38 [m 2,E (.build [.int .i64 0,.ro 9 [] true,.bool false,.int .u64 0,.int .i64 0,.int .i64 0,.int .u8 0,.str [],.str [],.ro 2 [] true,.str [],.ro 6 [] true] [(0,1,T 38)]),d 14 (E (.alloc [.int .i64 0,.ro 9 [] true,.bool false,.int .u64 0,.int .i64 0,.int .i64 0,.int .u8 0,.str [],.str [],.ro 2 [] true,.str [],.ro 6 [] true])),n (st 12 14 39)]) (s (O 41 [h 2 4,h 1 5,m 2,ca 262 [41,42,43],d 40 (m 44),ex 0 40,ex 1 40,d 15 (m 45),d 16 (m 46)]) (s (s (O 47 [m 15,gei 47 0]) (c 48 (s (O 49 [f 2 14,n (E (.store 1 (T 49) (.c (.bool true))))]) (s (Q 50 [h 2 4,h 1 5,m 15,m 15,adi 53 1,ca 263 [50,51,52,54],E (.idxs 9 (T 55) (N 0)),h 9 56,f 3 14,n (st 9 58 57)] [16,15,14,12,11,8,5,4,2]) (O 59 [m 16,f 3 14,f 1 60,n (st 1 61 59)]))))) (s (s (O 62 [h 2 4,h 1 5,m 11,m 12,ca 263 [62,63,64,65],ln 1 66,i 0]) (bk 0 w125_L0 ⟨true,[14,8],[]⟩)) w125_c0))))))))⟩
@[simp] theorem w125_E0 : ZL w125_L0 w125_B0 ⟨true,[68,67,66,15,14,11,8,2],[]⟩ := ck_lp rfl
def w247 : WFn := ⟨2,[.tmp 4],zd (s (O 2 [bx 0,bx 1,i 0]) (r (O 5 [l 1 2,ln 1 5,sbi 6 1,E (.mkfn 412 [T 2,T 3]),ca 411 [7,8],d 4 (m 9)])))⟩
def w249 : WFn := ⟨2,[.tmp 4],zd (s (O 4 [ff]) (r (O 5 [m 0,m 1,ca 402 [5,6],gei 7 0,d 4 (m 8)])))⟩
def w250 : WFn := ⟨1,[.tmp 2],zd (s (O 1 [bx 0,ff]) (r (O 3 [f 4 1,l 1 3,lti 4 1,m 5,z 6 (f 4 1),z 6 (l 1 7),z 6 (gti 8 2305843009213693952),po 6 9,d 2 (m 10)])))⟩
def w111_c0 : WCode := zd (r (O 25 [m 3,d 2 (m 25)]))
def w111_B0 : WCode := zd (s (O 11 [lt 10 9]) (s (cc 11 (w .skip) (ee 0)) (s (B 1 (s (O 12 [ix 6 8 10,h 6 12,d 5 (E (.alloc [.int .u64 0,.int .u8 0,.str [],.ro 1 [] true,.int .i64 0,.bool false])),n (st 6 5 13)]) (s (O 14 [f 4 5,l 1 14,E (.mx (T 15) (N 0)),d 6 (m 16)]) (s (s (O 17 [m 6,m 3,E (.bin .sub (N 4611686018427387904) (T 18)),gt 17 19]) (c 20 (r (O 2 [i 4611686018427387905])))) (O 21 [m 3,m 6,ad 21 22,d 3 (m 23)]))))) (O 24 [adi 10 1,d 10 (m 24)]))))
def w111_L0 : WCode := .loop ⟨true,[10,9,8,3],[]⟩ w111_B0
def w111 : WFn := ⟨1,[.tmp 2],zd (s (O 1 [bx 0,i 0]) (s (O 3 [i 0]) (s (s (Q 7 [f 0 1,l 1 7,ln 1 8,i 0] [10,9,8,3]) (bk 0 w111_L0 ⟨true,[3],[]⟩)) w111_c0)))⟩
@[simp] theorem w111_E0 : ZL w111_L0 w111_B0 ⟨true,[10,9,8,3],[]⟩ := ck_lp rfl
def w413 : WFn := ⟨2,[.tmp 4],zd (s (O 2 [bx 0,bx 1,ff]) (r (Q 5 [f 0 2,l 1 5,f 0 3,l 1 7,eq 6 8,m 9,y 10 (f 1 2),y 10 (l 1 11),y 10 (f 1 3),y 10 (l 1 13),y 10 (eq 12 14),pa 10 15,m 16,y 17 (f 2 2),y 17 (l 1 18),y 17 (f 2 3),y 17 (l 1 20),y 17 (eq 19 21),pa 17 22,m 23,y 24 (f 3 2),y 24 (h 6 25),y 24 (f 3 3),y 24 (h 6 27),y 24 (ca 506 [26,28]),pa 24 29,d 4 (m 30)] [4])))⟩
def w414_c0 : WCode := zd (r (O 6 [tt]))
def w414_B0 : WCode := zd (s (O 18 [lt 17 16]) (s (cc 18 (w .skip) (ee 0)) (s (B 1 (s (O 19 [m 17,ix 9 15 17,h 9 20,d 8 (E (.alloc [.int .u64 0,.int .i64 0,.int .i64 0,.int .u8 0,.str [],.str [],.ro 2 [] true,.str [],.ro 6 [] true])),d 7 (m 19),n (st 9 8 21)]) (s (O 22 [m 1,m 7,ix 9 22 23,h 9 24,d 9 (E (.alloc [.int .u64 0,.int .i64 0,.int .i64 0,.int .u8 0,.str [],.str [],.ro 2 [] true,.str [],.ro 6 [] true])),n (st 9 9 25)]) (s (O 26 [m 2,h 9 8,h 9 9,E (.callv (T 26) [T 27,T 28]),nt 29]) (c 30 (r (O 6 [ff]))))))) (O 31 [adi 17 1,d 17 (m 31)]))))
def w414_L0 : WCode := .loop ⟨true,[17,16,15,2,1],[]⟩ w414_B0
def w414 : WFn := ⟨3,[.tmp 6],zd (s (O 6 [ff]) (s (s (O 10 [m 0,ln 1 10,m 1,ln 1 12,ne 11 13]) (c 14 (r (O 6 [ff])))) (s (s (Q 15 [m 0,ln 1 15,i 0] [17,16,15,2,1]) (bk 0 w414_L0 ⟨true,[],[]⟩)) w414_c0)))⟩
@[simp] theorem w414_E0 : ZL w414_L0 w414_B0 ⟨true,[17,16,15,2,1],[]⟩ := ck_lp rfl
noncomputable abbrev w414_K0 (C : WProg) (s : WSt) : Option AV := CK C 0 (pureFin [.tmp 6]) [.sq w414_L0,.bk 0 ⟨true,[],[]⟩,.sq w414_c0] w414_B0 s
def w260 : WFn := ⟨2,[.tmp 4],zd (s (O 2 [bx 0,bx 1,i 0]) (s (s (Q 5 [f 0 2,l 1 5,f 0 3,l 1 7,ne 6 8,m 9,z 10 (f 1 2),z 10 (l 1 11),z 10 (f 1 3),z 10 (l 1 13),z 10 (ne 12 14),po 10 15,m 16,z 17 (f 2 2),z 17 (l 1 18),z 17 (f 2 3),z 17 (l 1 20),z 17 (ne 19 21),po 17 22] [23,3,2]) (c 23 (r (O 4 [i 0])))) (r (O 24 [f 3 2,h 6 24,f 3 3,h 6 26,ca 415 [25,27],d 4 (m 28)]))))⟩
def w223_c0 : WCode := zd (r (O 79 [h 1 3,ca 227 [79],d 4 (m 80)]))
def w223_B0 : WCode := zd (s (O 26 [lt 25 24]) (s (cc 26 (w .skip) (ee 0)) (s (B 1 (s (O 27 [ix 6 23 25,h 6 27,d 8 (E (.alloc [.int .u64 0,.int .u8 0,.str [],.ro 1 [] true,.int .i64 0,.bool false])),n (st 6 8 28)]) (s (s (O 29 [f 0 8,h 4 29,f 0 2,l 1 31,ln 1 32,ca 398 [30,33],d 9 (m 34)]) (s (O 35 [m 9,nei 35 0]) (c 36 (r (O 37 [m 9,d 4 (m 37)]))))) (s (s (Q 38 [m 6,f 0 8,f 0 39,l 1 40,E (.look 0 (.bool false) false (T 38) (T 41))] [42,25,24,23,8,6,3,2]) (c 42 (r (O 4 [i 8])))) (s (O 43 [m 6,f 0 8,f 0 44,l 1 45,n (E (.upd 0 (T 43) (T 46) (.c (.bool true))))]) (s (s (O 48 [h 2 2,f 0 8,h 4 49,ca 399 [48,50],d 47 (m 51),ex 0 47,ex 1 47,d 10 (E (.alloc [.int .u8 0,.str [],.str [],.ro 2 [] true,.str [],.ro 6 [] true])),n (st 6 10 52),d 11 (m 53)]) (s (O 54 [m 11,nei 54 0]) (c 55 (r (O 4 [i 14]))))) (s (U 56 [f 4 8,l 1 56,ca 225 [57],nt 58,m 59,z 60 (f 5 8),z 60 (l 1 61),z 60 (nt 62),z 60 (m 63),y 64 (f 4 8),y 64 (l 1 65),y 64 (f 0 2),y 64 (l 1 67),y 64 (f 0 8),y 64 (f 1 69),y 64 (l 1 70),y 64 (ix 9 68 71),y 64 (f 6 72),y 64 (l 1 73),y 64 (ne 66 74),z 60 (pa 64 75),po 60 76] [] [77,25,24,23,6,3,2]) (c 77 (r (O 4 [i 12])))))))))) (O 78 [adi 25 1,d 25 (m 78)]))))
def w223_L0 : WCode := .loop ⟨true,[25,24,23,6,3,2],[]⟩ w223_B0
def w223 : WFn := ⟨2,[.tmp 4],zd (s (O 2 [bx 0,bx 1,i 0]) (s (s (O 12 [h 2 2,ca 115 [12],d 5 (m 13)]) (s (O 14 [m 5,nei 14 0]) (c 15 (r (O 16 [m 5,d 4 (m 16)]))))) (s (s (Q 17 [f 0 3,l 1 17,ln 1 18,gti 19 1024] [20,3,2]) (c 20 (r (O 4 [i 3])))) (s (O 21 [E .mkmap,d 6 (m 21)]) (s (s (O 22 [f 0 3,l 1 22,ln 1 23,i 0]) (bk 0 w223_L0 ⟨true,[3],[]⟩)) w223_c0)))))⟩
@[simp] theorem w223_E0 : ZL w223_L0 w223_B0 ⟨true,[25,24,23,6,3,2],[]⟩ := ck_lp rfl
def w262_c0 : WCode := zd (r (O 58 [m 6,m 7,d 6 (m 58),d 7 (m 59)]))
def w262_B0 : WCode := zd (s (O 21 [lt 20 19]) (s (cc 21 (w .skip) (ee 0)) (s (B 1 (s (O 22 [m 20,ix 6 18 20,h 6 23,d 11 (E (.alloc [.int .u64 0,.int .u8 0,.str [],.ro 1 [] true,.int .i64 0,.bool false])),d 10 (m 22),n (st 6 11 24)]) (s (s (O 25 [f 0 3,l 1 25,f 0 11,f 1 27,l 1 28,ix 9 26 29,f 7 30,l 1 31,nt 32]) (c 33 (ee 1))) (s (s (O 34 [m 8,m 10,ix 1 34 35,l 1 36,m 2,gt 37 38]) (c 39 (s (s (Q 40 [m 6,gei 40 0] [41,10,8,7,6,4,2]) (c 41 (V 42 [m 8,m 10,ix 1 42 43,l 1 44,m 2,sb 45 46,f 0 4,l 1 48,m 6,ix 6 49 50,f 4 51,l 1 52,sb 47 53,E (.mn (N 0) (T 54)),d 7 (m 55)] [] ⟨false,[],[]⟩))) (ee 0)))) (O 56 [m 10,d 6 (m 56)]))))) (O 57 [adi 20 1,d 20 (m 57)]))))
def w262_L0 : WCode := .loop ⟨true,[20,19,18,8,7,6,4,3,2],[]⟩ w262_B0
def w262 : WFn := ⟨3,[.tmp 6,.tmp 7],zd (s (O 6 [d 3 (bx 0),d 4 (bx 1),i 0,i 0]) (s (O 13 [h 1 4,ca 246 [13],d 12 (m 14),ex 0 12,ex 1 12,d 8 (m 15),d 9 (m 16)]) (s (O 6 [i (-1)]) (s (s (Q 17 [f 0 4,l 1 17,ln 1 18,i 0] [20,19,18,8,7,6,4,3,2]) (bk 0 w262_L0 ⟨true,[7,6],[]⟩)) w262_c0))))⟩
@[simp] theorem w262_E0 : ZL w262_L0 w262_B0 ⟨true,[20,19,18,8,7,6,4,3,2],[]⟩ := ck_lp rfl
def w263_c0 : WCode := zd (r (O 67 [m 11,d 8 (m 67)]))
def w263_B0 : WCode := zd (s (O 32 [lt 31 30]) (s (cc 32 (w .skip) (ee 0)) (s (B 1 (s (O 33 [m 31,d 12 (m 33)]) (s (O 34 [f 0 5,l 1 34,m 2,m 12,ad 36 37,ix 6 35 38,h 6 39,d 13 (E (.alloc [.int .u64 0,.int .u8 0,.str [],.ro 1 [] true,.int .i64 0,.bool false])),n (st 6 13 40)]) (s (Q 42 [h 2 4,h 6 13,E (.buildS [.int .u64 0,.int .u8 0,.str [],.ro 1 [] true,.int .i64 0,.bool false] 1 [(0,T 43)]),E (.build [.ro 6 [] true] [(0,1,T 44)]),E (.call 238 [T 42,T 45,N 0]),d 41 (m 46),ex 0 41,ex 1 41,d 14 (E (.alloc [.int .u8 0,.str [],.str [],.ro 2 [] true,.str [],.ro 6 [] true])),n (st 6 14 47),d 15 (m 48)] [31,30,14,13,12,11,9,5,4,2]) (V 49 [m 11,m 12,f 0 13,f 0 51,l 1 52,m 9,m 2,m 12,ad 55 56,ix 1 54 57,l 1 58,f 4 13,l 1 60,h 6 14,ca 418 [62],E (.build [.int .u64 0,.int .i64 0,.int .i64 0,.int .u8 0,.str [],.str [],.ro 2 [] true,.str [],.ro 6 [] true] [(0,1,T 53),(1,1,T 59),(2,1,T 61),(3,6,T 63)]),ix 9 49 50,n (st 9 65 64)] [(4,14),(10,14),(12,14)] ⟨false,[],[]⟩))))) (O 66 [adi 31 1,d 31 (m 66)]))))
def w263_L0 : WCode := .loop ⟨true,[31,30,11,9,5,4,2],[]⟩ w263_B0
def w263 : WFn := ⟨4,[.tmp 8],zd (s (O 4 [bx 0,bx 1,d 8 (E (.mv (.c (.ro 9 [] true))))]) (s (s (O 16 [m 2,m 3,eq 16 17]) (c 18 (r (O 8 [E (.mv (.c (.ro 9 [] true)))])))) (s (Q 20 [h 1 5,ca 246 [20],d 19 (m 21),ex 0 19,ex 1 19,d 9 (m 22),d 10 (m 23)] [9,5,4,3,2]) (s (O 24 [m 3,m 2,sb 24 25,E (.mksl [.int .u64 0,.int .i64 0,.int .i64 0,.int .u8 0,.str [],.str [],.ro 2 [] true,.str [],.ro 6 [] true] 128 (T 26) (T 26)),d 11 (m 27)]) (s (s (O 28 [m 3,m 2,sb 28 29,i 0]) (bk 0 w263_L0 ⟨true,[11],[]⟩)) w263_c0)))))⟩
@[simp] theorem w263_E0 : ZL w263_L0 w263_B0 ⟨true,[31,30,11,9,5,4,2],[]⟩ := ck_lp rfl
def w264 : WFn := ⟨1,[.tmp 2],zd (s (O 2 [E (.mv (.c (.ro 9 [] true)))]) (r (O 3 [m 0,m 0,ln 1 4,m 0,ln 1 6,E (.slice 9 (T 3) none (some (T 5)) (some (T 7))),d 2 (m 8)])))⟩
def w265 : WFn := ⟨1,[.tmp 2],zd (w (.cln [.int .u64 0,.int .i64 0,.int .i64 0,.int .u8 0,.str [],.str [],.ro 2 [] true,.str [],.ro 6 [] true] 9 128))⟩
def w411_c0 : WCode := zd (r (O 25 [m 5,d 4 (m 25)]))
def w411_B0 : WCode := zd (s (s (O 9 [m 5,m 6,lt 9 10]) (cc 11 (w .skip) (ee 0))) (B 1 (s (O 12 [m 5,m 6,ad 12 13,E (.cvt .u64 (T 14)),E (.bin .shr (T 15) (.c (.int .u64 1))),E (.cvt .i64 (T 16)),d 7 (m 17)]) (s (O 18 [m 1,m 7,E (.callv (T 18) [T 19]),nt 20]) (cc 21 (O 22 [m 7,adi 22 1,d 5 (m 23)]) (O 24 [m 7,d 6 (m 24)]))))))
def w411_L0 : WCode := .loop ⟨true,[6,5,1],[]⟩ w411_B0
def w411 : WFn := ⟨2,[.tmp 4],zd (s (O 4 [i 0]) (s (Q 5 [d 8 (m 0),i 0,m 8] [6,5,1]) (s (bk 0 w411_L0 ⟨true,[5],[]⟩) w411_c0)))⟩
@[simp] theorem w411_E0 : ZL w411_L0 w411_B0 ⟨true,[6,5,1],[]⟩ := ck_lp rfl
def w412 : WFn := ⟨3,[.tmp 4],zd (s (O 4 [ff]) (r (V 5 [l 1 1,m 0,adi 6 1,ix 1 5 7,l 1 8,l 1 2,gt 9 10,d 4 (m 11)] [] ⟨false,[],[]⟩)))⟩
def w402_c0 : WCode := zd (r (O 4 [i (-1)]))
def w402_B0 : WCode := zd (s (O 9 [lt 8 7]) (s (cc 9 (w .skip) (ee 0)) (s (B 1 (s (O 10 [m 8,d 5 (m 10)]) (s (O 11 [m 1,m 0,m 5,ix 6 12 13,h 6 14,E (.callv (T 11) [T 15])]) (c 16 (r (O 17 [m 5,d 4 (m 17)])))))) (O 18 [adi 8 1,d 8 (m 18)]))))
def w402_L0 : WCode := .loop ⟨true,[8,7,1,0],[]⟩ w402_B0
def w402 : WFn := ⟨2,[.tmp 4],zd (s (O 4 [i 0]) (s (s (O 6 [m 0,ln 1 6,i 0]) (bk 0 w402_L0 ⟨true,[],[]⟩)) w402_c0))⟩
@[simp] theorem w402_E0 : ZL w402_L0 w402_B0 ⟨true,[8,7,1,0],[]⟩ := ck_lp rfl
def w506 : WFn := ⟨2,[.tmp 4],zd (s (O 2 [bx 0,bx 1,ff]) (r (Q 5 [f 0 2,l 1 5,f 0 3,l 1 7,eq 6 8,m 9,y 10 (f 1 2),y 10 (l 1 11),y 10 (f 1 3),y 10 (l 1 13),y 10 (eq 12 14),pa 10 15,m 16,y 17 (f 2 2),y 17 (l 1 18),y 17 (f 2 3),y 17 (l 1 20),y 17 (eq 19 21),pa 17 22,m 23,y 24 (f 4 2),y 24 (l 1 25),y 24 (f 4 3),y 24 (l 1 27),y 24 (eq 26 28),pa 24 29,m 30,y 31 (f 3 2),y 31 (l 1 32),y 31 (f 3 3),y 31 (l 1 34),y 31 (ca 551 [33,35]),pa 31 36,m 37,y 38 (f 5 2),y 38 (l 1 39),y 38 (f 5 3),y 38 (l 1 41),y 38 (E (.call 552 [T 40,T 42,.c (.fn 506 [])])),pa 38 43,d 4 (m 44)] [4])))⟩
def w415_c0 : WCode := zd (r (O 4 [i 1]))
def w415_B0 : WCode := zd (s (s (O 69 [m 6,f 5 2,l 1 70,ln 1 71,lt 69 72]) (cc 73 (w .skip) (ee 2))) (s (B 3 (s (V 76 [f 5 2,l 1 76,m 6,ix 6 77 78,h 6 79,f 5 3,l 1 81,m 6,ix 6 82 83,h 6 84,ca 415 [80,85],eqi 86 0] [] ⟨false,[],[]⟩) (c 87 (r (O 4 [i 0]))))) (O 74 [m 6,adi 74 1,d 6 (m 75)])))
def w415_L0 : WCode := .loop ⟨true,[6,3,2],[]⟩ w415_B0
def w415_c1 : WCode := zd (s (s (O 6 [i 0]) (bk 2 w415_L0 ⟨true,[],[]⟩)) w415_c0)
def w415_B1 : WCode := zd (s (s (O 51 [m 5,f 3 2,l 1 52,ln 1 53,lt 51 54]) (cc 55 (w .skip) (ee 0))) (s (B 1 (s (V 58 [f 3 2,l 1 58,m 5,ix 2 59 60,h 2 61,f 3 3,l 1 63,m 5,ix 2 64 65,h 2 66,E (.eqv 4 [1,1] true (T 62) (T 67))] [] ⟨false,[],[]⟩) (c 68 (r (O 4 [i 0]))))) (Q 56 [m 5,adi 56 1,d 5 (m 57)] [5,3,2])))
def w415_L1 : WCode := .loop ⟨true,[5,3,2],[]⟩ w415_B1
def w415 : WFn := ⟨2,[.tmp 4],zd (s (O 2 [bx 0,bx 1,i 0]) (s (s (Q 7 [f 0 2,l 1 7,f 0 3,l 1 9,ne 8 10,m 11,z 12 (f 1 2),z 12 (l 1 13),z 12 (f 1 3),z 12 (l 1 15),z 12 (ne 14 16),po 12 17,m 18,z 19 (f 2 2),z 19 (l 1 20),z 19 (f 2 3),z 19 (l 1 22),z 19 (ne 21 23),po 19 24,m 25,z 26 (f 4 2),z 26 (l 1 27),z 26 (f 4 3),z 26 (l 1 29),z 26 (ne 28 30),po 26 31,m 32,z 33 (f 3 2),z 33 (l 1 34),z 33 (ln 1 35),z 33 (f 3 3),z 33 (l 1 37),z 33 (ln 1 38),z 33 (ne 36 39),po 33 40,m 41,z 42 (f 5 2),z 42 (l 1 43),z 42 (ln 1 44),z 42 (f 5 3),z 42 (l 1 46),z 42 (ln 1 47),z 42 (ne 45 48),po 42 49] [50,3,2]) (c 50 (r (O 4 [i 0])))) (s (s (O 5 [i 0]) (bk 0 w415_L1 ⟨true,[3,2],[]⟩)) w415_c1)))⟩
@[simp] theorem w415_E0 : ZL w415_L0 w415_B0 ⟨true,[6,3,2],[]⟩ := ck_lp rfl
noncomputable abbrev w415_K0 (C : WProg) (s : WSt) : Option AV := CK C 0 (pureFin [.tmp 4]) [.sq w415_L0,.bk 2 ⟨true,[],[]⟩,.sq w415_c0] w415_B0 s
@[simp] theorem w415_E1 : ZL w415_L1 w415_B1 ⟨true,[5,3,2],[]⟩ := ck_lp rfl
noncomputable abbrev w415_K1 (C : WProg) (s : WSt) : Option AV := CK C 0 (pureFin [.tmp 4]) [.sq w415_L1,.bk 0 ⟨true,[3,2],[]⟩,.sq w415_c1] w415_B1 s
def w115 : WFn := ⟨1,[.tmp 2],zd (s (O 1 [bx 0,i 0]) (s (O 3 [E (.mv (.c (.fn 230 [])))]) (s (s (Q 4 [f 0 1,l 1 4,ln 1 5,lti 6 1,m 7,z 8 (f 0 1),z 8 (l 1 9),z 8 (ln 1 10),z 8 (gti 11 8),po 8 12,m 13,z 14 (f 1 1),z 14 (l 1 15),z 14 (lti 16 1),po 14 17,m 18,z 19 (f 1 1),z 19 (l 1 20),z 19 (gti 21 64),po 19 22,m 23,z 24 (f 0 1),z 24 (l 1 25),z 24 (m 3),z 24 (ca 232 [26,27]),po 24 28] [29]) (c 29 (r (O 2 [i 7])))) (r (O 2 [i 0])))))⟩
def w398 : WFn := ⟨2,[.tmp 4],zd (s (O 4 [d 2 (bx 0),i 0]) (s (O 7 [E (.mkfn 494 [T 2]),d 5 (m 7)]) (s (Q 8 [E (.mkfn 497 [T 2]),d 6 (m 8)] [6,5,2,1]) (s (s (O 9 [f 0 2,l 1 9,E (.bin .eql (T 10) (.c (.int .u64 0))),m 11,z 12 (f 1 2),z 12 (l 1 13),z 12 (E (.cvt .i64 (T 14))),z 12 (m 1),z 12 (ge 15 16),po 12 17,m 18,z 19 (m 5),z 19 (E (.callv (T 20) [])),z 19 (nt 21),po 19 22,m 23,z 24 (m 6),z 24 (E (.callv (T 25) [])),z 24 (nt 26),po 24 27]) (c 28 (r (O 4 [i 6])))) (r (O 4 [i 0]))))))⟩
def w399 : WFn := ⟨2,[.cell 4 6 true,.tmp 5],zd (s (O 2 [bx 0,bx 1,E (.alloc [.int .u8 0,.str [],.str [],.ro 2 [] true,.str [],.ro 6 [] true]),i 0]) (r (V 6 [f 0 2,l 1 6,f 1 3,l 1 8,ix 9 7 9,f 0 10,h 6 11,h 4 3,f 1 2,l 1 14,ca 501 [12,13,15],ex 0 16,ex 1 16,n (st 6 4 17),d 5 (m 18)] [] ⟨false,[],[]⟩)))⟩
def w225 : WFn := ⟨1,[.tmp 2],zd (s (O 2 [ff]) (r (O 3 [m 0,gei 3 1,m 4,y 5 (m 0),y 5 (lei 6 2305843009213693952),pa 5 7,d 2 (m 8)])))⟩
def w227 : WFn := ⟨1,[.tmp 2],zd (s (O 1 [bx 0,i 0]) (s (s (O 3 [h 1 1,ca 111 [3],gti 4 4611686018427387904]) (c 5 (r (O 2 [i 13])))) (r (O 2 [i 0]))))⟩
def w238 : WFn := ⟨3,[.cell 6 6 true,.tmp 7],zd (s (O 6 [d 3 (bx 0),d 4 (bx 1),E (.alloc [.int .u8 0,.str [],.str [],.ro 2 [] true,.str [],.ro 6 [] true]),i 0]) (s (s (O 9 [h 2 3,h 1 4,ca 223 [9,10],d 8 (m 11)]) (s (O 12 [m 8,nei 12 0]) (c 13 (r (O 14 [E (.build [.int .u8 0,.str [],.str [],.ro 2 [] true,.str [],.ro 6 [] true] []),m 8,n (st 6 6 14),d 7 (m 15)]))))) (s (s (Q 16 [m 2,lti 16 0,m 17,z 18 (m 2),z 18 (f 0 4),z 18 (l 1 20),z 18 (ln 1 21),z 18 (ge 19 22),po 18 23] [24,6,4,3,2]) (c 24 (r (O 25 [E (.build [.int .u8 0,.str [],.str [],.ro 2 [] true,.str [],.ro 6 [] true] []),n (st 6 6 25),d 7 (i 4)])))) (r (V 26 [h 2 3,f 0 4,l 1 27,m 2,ix 6 28 29,f 0 30,h 4 31,ca 399 [26,32],ex 0 33,ex 1 33,n (st 6 6 34),d 7 (m 35)] [] ⟨false,[],[]⟩)))))⟩
def w418 : WFn := ⟨1,[.cell 2 6 true],zd (s (O 1 [bx 0,E (.alloc [.int .u8 0,.str [],.str [],.ro 2 [] true,.str [],.ro 6 [] true])]) (s (s (O 3 [h 6 1,ca 439 [3],nei 4 0]) (c 5 (r (O 6 [E (.build [.int .u8 0,.str [],.str [],.ro 2 [] true,.str [],.ro 6 [] true] []),n (st 6 2 6)])))) (r (O 7 [h 6 1,E (.call 507 [T 7,.c (.bool false)]),n (st 6 2 8)]))))⟩
def w551_c0 : WCode := zd (r (O 4 [tt]))
def w551_B0 : WCode := zd (s (O 14 [lt 13 12]) (s (cc 14 (w .skip) (ee 0)) (s (B 1 (s (O 15 [m 13,d 5 (m 15)]) (s (V 16 [m 0,m 5,ix 2 16 17,h 2 18,m 1,m 5,ix 2 20 21,h 2 22,E (.eqv 4 [1,1] true (T 19) (T 23))] [] ⟨false,[],[]⟩) (c 24 (r (O 4 [ff])))))) (O 25 [adi 13 1,d 13 (m 25)]))))
def w551_L0 : WCode := .loop ⟨true,[13,12,1,0],[]⟩ w551_B0
def w551 : WFn := ⟨2,[.tmp 4],zd (s (O 4 [ff]) (s (s (Q 6 [m 0,ln 1 6,m 1,ln 1 8,ne 7 9] [10,1,0]) (c 10 (r (O 4 [ff])))) (s (s (O 11 [m 0,ln 1 11,i 0]) (bk 0 w551_L0 ⟨true,[],[]⟩)) w551_c0)))⟩
@[simp] theorem w551_E0 : ZL w551_L0 w551_B0 ⟨true,[13,12,1,0],[]⟩ := ck_lp rfl
noncomputable abbrev w551_K0 (C : WProg) (s : WSt) : Option AV := CK C 0 (pureFin [.tmp 4]) [.sq w551_L0,.bk 0 ⟨true,[],[]⟩,.sq w551_c0] w551_B0 s
def w552_c0 : WCode := zd (r (O 6 [tt]))
def w552_B0 : WCode := zd (s (O 18 [lt 17 16]) (s (cc 18 (w .skip) (ee 0)) (s (B 1 (s (O 19 [m 17,ix 6 15 17,h 6 20,d 8 (E (.alloc [.int .u8 0,.str [],.str [],.ro 2 [] true,.str [],.ro 6 [] true])),d 7 (m 19),n (st 6 8 21)]) (s (O 22 [m 1,m 7,ix 6 22 23,h 6 24,d 9 (E (.alloc [.int .u8 0,.str [],.str [],.ro 2 [] true,.str [],.ro 6 [] true])),n (st 6 9 25)]) (s (O 26 [m 2,h 6 8,h 6 9,E (.callv (T 26) [T 27,T 28]),nt 29]) (c 30 (r (O 6 [ff]))))))) (O 31 [adi 17 1,d 17 (m 31)]))))
def w552_L0 : WCode := .loop ⟨true,[17,16,15,2,1],[]⟩ w552_B0
def w552 : WFn := ⟨3,[.tmp 6],zd (s (O 6 [ff]) (s (s (O 10 [m 0,ln 1 10,m 1,ln 1 12,ne 11 13]) (c 14 (r (O 6 [ff])))) (s (s (Q 15 [m 0,ln 1 15,i 0] [17,16,15,2,1]) (bk 0 w552_L0 ⟨true,[],[]⟩)) w552_c0)))⟩
@[simp] theorem w552_E0 : ZL w552_L0 w552_B0 ⟨true,[17,16,15,2,1],[]⟩ := ck_lp rfl
noncomputable abbrev w552_K0 (C : WProg) (s : WSt) : Option AV := CK C 0 (pureFin [.tmp 6]) [.sq w552_L0,.bk 0 ⟨true,[],[]⟩,.sq w552_c0] w552_B0 s
def w230 : WFn := ⟨1,[.tmp 2],zd (s (O 1 [bx 0,ff]) (r (O 3 [f 6 1,l 1 3,ca 225 [4],nt 5,m 6,z 7 (f 0 1),z 7 (h 6 8),z 7 (ca 231 [9]),z 7 (nei 10 0),po 7 11,d 2 (m 12)])))⟩
def w231 : WFn := ⟨1,[.tmp 2],zd (s (O 1 [bx 0,i 0]) (s (s (O 3 [h 6 1,ca 404 [3],eqi 4 0]) (c 5 (r (O 2 [i 14])))) (r (O 2 [i 0]))))⟩
def w232 : WFn := ⟨2,[.tmp 4],zd (s (O 4 [ff]) (r (O 5 [m 0,m 1,ca 405 [5,6],gei 7 0,d 4 (m 8)])))⟩
def w494 : WFn := ⟨1,[.tmp 1],zd (s (O 1 [ff]) (r (O 2 [f 2 0,l 1 2,ln 0 3,lei 4 64,m 5,y 6 (f 2 0),y 6 (l 1 7),y 6 (E (.call 495 [T 8,.c (.fn 496 [])])),y 6 (nt 9),pa 6 10,d 1 (m 11)])))⟩
def w495 : WFn := ⟨2,[.tmp 4],zd (s (O 4 [ff]) (r (O 5 [m 0,m 1,ca 543 [5,6],gei 7 0,d 4 (m 8)])))⟩
def w496 : WFn := ⟨1,[.tmp 2],zd (s (O 2 [ff]) (r (O 3 [m 0,E (.bin .lss (T 3) (.c (.int .i32 32))),m 4,z 5 (m 0),z 5 (E (.bin .gtr (T 6) (.c (.int .i32 126)))),po 5 7,d 2 (m 8)])))⟩
def w497 : WFn := ⟨1,[.tmp 1],zd (s (O 1 [ff]) (r (O 2 [f 3 0,l 1 2,ln 1 3,lei 4 8,m 5,y 6 (f 3 0),y 6 (l 1 7),y 6 (E (.call 498 [T 8,.c (.fn 499 [])])),y 6 (nt 9),pa 6 10,d 1 (m 11)])))⟩
def w498 : WFn := ⟨2,[.tmp 4],zd (s (O 4 [ff]) (r (O 5 [m 0,m 1,ca 544 [5,6],gei 7 0,d 4 (m 8)])))⟩
def w499 : WFn := ⟨1,[.tmp 2],zd (s (O 2 [ff]) (r (O 3 [m 0,ca 500 [3],nt 4,d 2 (m 5)])))⟩
def w500 : WFn := ⟨1,[.tmp 2],zd (s (O 2 [ff]) (s (O 3 [E (.mv (.c (.fn 545 [])))]) (r (O 4 [m 0,E (.bin .neq (T 4) (.c (.str []))),m 5,y 6 (m 0),y 6 (ln 0 7),y 6 (lei 8 16),pa 6 9,m 10,y 11 (m 0),y 11 (m 3),y 11 (ca 495 [12,13]),y 11 (nt 14),pa 11 15,d 2 (m 16)]))))⟩
def w501 : WFn := ⟨3,[.cell 6 6 true,.tmp 7],zd (s (O 6 [d 3 (bx 0),d 4 (bx 1),E (.alloc [.int .u8 0,.str [],.str [],.ro 2 [] true,.str [],.ro 6 [] true]),i 0]) (s (s (Q 12 [m 2,lti 12 1,m 13,z 14 (m 2),z 14 (gti 15 64),po 14 16] [17,6,4,3,2]) (c 17 (r (O 18 [E (.build [.int .u8 0,.str [],.str [],.ro 2 [] true,.str [],.ro 6 [] true] []),n (st 6 6 18),d 7 (i 1)])))) (s (s (O 19 [h 6 3,ca 231 [19],d 8 (m 20)]) (s (O 21 [m 8,nei 21 0]) (c 22 (r (O 23 [E (.build [.int .u8 0,.str [],.str [],.ro 2 [] true,.str [],.ro 6 [] true] []),m 8,n (st 6 6 23),d 7 (m 24)]))))) (s (s (O 25 [h 4 4,ca 546 [25],d 9 (m 26)]) (s (O 27 [m 9,nei 27 0]) (c 28 (r (O 29 [E (.build [.int .u8 0,.str [],.str [],.ro 2 [] true,.str [],.ro 6 [] true] []),m 9,n (st 6 6 29),d 7 (m 30)]))))) (s (Q 31 [h 4 4,E (.build [.int .u64 0,.int .u8 0,.str [],.ro 1 [] true] [(0,4,T 31)]),h 6 3,E (.buildS [.int .u8 0,.str [],.str [],.ro 3 [] true,.str [],.ro 6 [] true] 1 [(0,T 33)]),ca 547 [32,34],E (.idxs 6 (T 35) (N 0)),h 6 36,d 10 (E (.alloc [.int .u8 0,.str [],.str [],.ro 2 [] true,.str [],.ro 6 [] true])),n (st 6 10 37)] [10,6,2]) (s (s (O 38 [h 6 10,ca 140 [38],d 11 (m 39)]) (s (O 40 [m 11,eqi 40 0,m 41,z 42 (m 11),z 42 (m 2),z 42 (gt 43 44),po 42 45]) (c 46 (r (O 47 [E (.build [.int .u8 0,.str [],.str [],.ro 2 [] true,.str [],.ro 6 [] true] []),n (st 6 6 47),d 7 (i 14)]))))) (r (O 48 [h 6 10,n (st 6 6 48),d 7 (i 0)]))))))))⟩
def w439 : WFn := ⟨1,[.tmp 2],zd (s (O 1 [bx 0,i 0]) (s (s (O 3 [h 6 1,ca 140 [3],eqi 4 0]) (c 5 (r (O 2 [i 14])))) (r (O 2 [i 0]))))⟩
def w507_c0 : WCode := zd (s (O 35 [m 5,f 5 2,n (st 1 36 35)]) (r (O 37 [h 6 2,n (st 6 4 37)])))
def w507_B0 : WCode := zd (s (O 24 [lt 23 22]) (s (cc 24 (w .skip) (ee 0)) (s (B 1 (s (O 25 [m 23,ix 6 21 23,h 6 26,d 7 (E (.alloc [.int .u8 0,.str [],.str [],.ro 2 [] true,.str [],.ro 6 [] true])),d 6 (m 25),n (st 6 7 27)]) (O 28 [m 5,m 6,h 6 7,m 1,ca 507 [30,31],ix 6 28 29,n (st 6 33 32)]))) (O 34 [adi 23 1,d 23 (m 34)]))))
def w507_L0 : WCode := .loop ⟨true,[23,22,21,5,4,2,1],[]⟩ w507_B0
def w507 : WFn := ⟨2,[.cell 4 6 true],zd (s (O 4 [d 2 (bx 0),E (.alloc [.int .u8 0,.str [],.str [],.ro 2 [] true,.str [],.ro 6 [] true])]) (s (s (O 8 [m 1,nt 8]) (c 9 (O 10 [f 2 2,n (E (.store 1 (T 10) (.c (.str []))))]))) (s (O 11 [f 3 2,l 1 11,ca 554 [12],ca 553 [13],f 3 2,n (st 1 15 14)]) (s (O 16 [f 5 2,l 1 16,ln 1 17,E (.mksl [.int .u8 0,.str [],.str [],.ro 2 [] true,.str [],.ro 6 [] true] 104 (T 18) (T 18)),d 5 (m 19)]) (s (s (Q 20 [f 5 2,l 1 20,ln 1 21,i 0] [23,22,21,5,4,2,1]) (bk 0 w507_L0 ⟨true,[5,4,2],[]⟩)) w507_c0)))))⟩
@[simp] theorem w507_E0 : ZL w507_L0 w507_B0 ⟨true,[23,22,21,5,4,2,1],[]⟩ := ck_lp rfl
def w404 : WFn := ⟨1,[.tmp 2],zd (s (O 1 [bx 0,i 0]) (r (O 3 [E (.call 502 [T 1,.c (.fn 503 [])]),d 2 (m 3)])))⟩
def w405_c0 : WCode := zd (r (O 4 [i (-1)]))
def w405_B0 : WCode := zd (s (O 9 [lt 8 7]) (s (cc 9 (w .skip) (ee 0)) (s (B 1 (s (O 10 [m 8,d 5 (m 10)]) (s (O 11 [m 1,m 0,m 5,ix 9 12 13,h 9 14,E (.callv (T 11) [T 15])]) (c 16 (r (O 17 [m 5,d 4 (m 17)])))))) (O 18 [adi 8 1,d 8 (m 18)]))))
def w405_L0 : WCode := .loop ⟨true,[8,7,1,0],[]⟩ w405_B0
def w405 : WFn := ⟨2,[.tmp 4],zd (s (O 4 [i 0]) (s (s (O 6 [m 0,ln 1 6,i 0]) (bk 0 w405_L0 ⟨true,[],[]⟩)) w405_c0))⟩
@[simp] theorem w405_E0 : ZL w405_L0 w405_B0 ⟨true,[8,7,1,0],[]⟩ := ck_lp rfl
def w543 : WFn := ⟨2,[.tmp 4],zd (s (O 4 [i 0]) (r (O 5 [m 0,m 1,E (.call 578 [T 5,T 6,.c (.bool true)]),d 4 (m 7)])))⟩
def w544_c0 : WCode := zd (r (O 4 [i (-1)]))
def w544_B0 : WCode := zd (s (O 9 [lt 8 7]) (s (cc 9 (w .skip) (ee 0)) (s (B 1 (s (O 10 [m 8,d 5 (m 10)]) (s (O 11 [m 1,m 0,m 5,ix 1 12 13,l 1 14,E (.callv (T 11) [T 15])]) (c 16 (r (O 17 [m 5,d 4 (m 17)])))))) (O 18 [adi 8 1,d 8 (m 18)]))))
def w544_L0 : WCode := .loop ⟨true,[8,7,1,0],[]⟩ w544_B0
def w544 : WFn := ⟨2,[.tmp 4],zd (s (O 4 [i 0]) (s (s (O 6 [m 0,ln 1 6,i 0]) (bk 0 w544_L0 ⟨true,[],[]⟩)) w544_c0))⟩
@[simp] theorem w544_E0 : ZL w544_L0 w544_B0 ⟨true,[8,7,1,0],[]⟩ := ck_lp rfl
def w545 : WFn := ⟨1,[.tmp 2],zd (s (O 2 [ff]) (r (O 3 [m 0,E (.bin .lss (T 3) (.c (.int .i32 97))),m 4,z 5 (m 0),z 5 (E (.bin .gtr (T 6) (.c (.int .i32 122)))),po 5 7,m 8,y 9 (m 0),y 9 (E (.bin .lss (T 10) (.c (.int .i32 48)))),y 9 (m 11),z 12 (m 0),z 12 (E (.bin .gtr (T 13) (.c (.int .i32 57)))),y 9 (po 12 14),pa 9 15,d 2 (m 16)])))⟩
def w546 : WFn := ⟨1,[.tmp 2],zd (s (Q 1 [bx 0,i 0] [1]) (s (s (O 3 [f 0 1,l 1 3,E (.bin .eql (T 4) (.c (.int .u64 0))),m 5,z 6 (f 2 1),z 6 (l 1 7),z 6 (ca 579 [8]),z 6 (nt 9),po 6 10,m 11,z 12 (f 3 1),z 12 (l 1 13),z 12 (ln 1 14),z 12 (gti 15 8),po 12 16,m 17,z 18 (f 3 1),z 18 (l 1 19),z 18 (E (.call 498 [T 20,.c (.fn 580 [])])),po 18 21]) (c 22 (r (O 2 [i 6])))) (r (O 2 [i 0]))))⟩
def w547_c0 : WCode := zd (r (O 81 [m 5,d 4 (m 81)]))
def w547_c1 : WCode := zd (O 80 [adi 12 1,d 12 (m 80)])
def w547_B1 : WCode := zd (s (O 66 [lt 65 64]) (s (cc 66 (w .skip) (ee 3)) (s (B 4 (s (O 67 [ix 1 63 65,l 1 67,d 9 (m 68)]) (U 69 [m 5,h 4 2,h 6 7,m 9,m 9,ca 583 [73],E (.buildS [.int .u8 0,.str [],.str [],.ro 2 [] true,.str [],.ro 6 [] true] 1 [(0,T 74)]),ca 582 [70,71,72,75],E (.buildS [.int .u8 0,.str [],.str [],.ro 2 [] true,.str [],.ro 6 [] true] 1 [(0,T 76)]),E (.app [.int .u8 0,.str [],.str [],.ro 2 [] true,.str [],.ro 6 [] true] 104 false (T 69) (T 77)),d 5 (m 78)] [(1,5),(2,5),(1,6),(2,6)] [65,64,63,12,11,10,7,5,2]))) (O 79 [adi 65 1,d 65 (m 79)]))))
def w547_L1 : WCode := .loop ⟨true,[65,64,63,12,11,10,7,5,2],[]⟩ w547_B1
def w547_B0 : WCode := zd (s (O 13 [lt 12 11]) (s (cc 13 (w .skip) (ee 0)) (s (bk 1 (s (Q 14 [ix 6 10 12,h 6 14,d 7 (E (.alloc [.int .u8 0,.str [],.str [],.ro 3 [] true,.str [],.ro 6 [] true])),n (st 6 7 15)] [12,11,10,7,5,2]) (s (O 16 [f 0 7,l 1 16]) (bk 2 (s (O 19 [E (.bin .eql (T 17) (.c (.int .u8 1))),d 18 (m 19)]) (cc 18 (V 20 [m 5,h 4 2,h 6 7,f 2 7,l 1 23,h 4 2,f 5 7,l 1 26,ca 547 [25,27],ca 582 [21,22,24,28],E (.buildS [.int .u8 0,.str [],.str [],.ro 2 [] true,.str [],.ro 6 [] true] 1 [(0,T 29)]),E (.app [.int .u8 0,.str [],.str [],.ro 2 [] true,.str [],.ro 6 [] true] 104 false (T 20) (T 30)),d 5 (m 31)] [(1,8),(2,8),(4,8)] ⟨false,[],[]⟩) (s (O 33 [E (.bin .eql (T 17) (.c (.int .u8 2))),d 32 (m 33)]) (cc 32 (Q 34 [m 5,f 4 7,l 1 35,ca 583 [36],E (.buildS [.int .u8 0,.str [],.str [],.ro 2 [] true,.str [],.ro 6 [] true] 1 [(0,T 37)]),E (.app [.int .u8 0,.str [],.str [],.ro 2 [] true,.str [],.ro 6 [] true] 104 false (T 34) (T 38)),d 5 (m 39)] [12,11,10,5,2]) (s (O 41 [E (.bin .eql (T 17) (.c (.int .u8 3))),d 40 (m 41)]) (cc 40 (O 42 [m 5,f 0 2,f 2 43,l 1 44,ca 583 [45],E (.buildS [.int .u8 0,.str [],.str [],.ro 2 [] true,.str [],.ro 6 [] true] 1 [(0,T 46)]),E (.app [.int .u8 0,.str [],.str [],.ro 2 [] true,.str [],.ro 6 [] true] 104 false (T 42) (T 47)),d 5 (m 48)]) (s (O 50 [E (.bin .eql (T 17) (.c (.int .u8 4))),d 49 (m 50)]) (cc 49 (O 51 [m 5,f 0 2,f 0 52,l 1 53,ca 584 [54],ca 583 [55],E (.buildS [.int .u8 0,.str [],.str [],.ro 2 [] true,.str [],.ro 6 [] true] 1 [(0,T 56)]),E (.app [.int .u8 0,.str [],.str [],.ro 2 [] true,.str [],.ro 6 [] true] 104 false (T 51) (T 57)),d 5 (m 58)]) (s (O 60 [E (.bin .eql (T 17) (.c (.int .u8 5))),d 59 (m 60)]) (c 59 (s (O 61 [f 0 2,f 3 61,l 1 62,ln 1 63,i 0]) (bk 3 w547_L1 ⟨true,[12,11,10,5,2],[]⟩)))))))))))) ⟨true,[12,11,10,5,2],[]⟩))) ⟨true,[12,11,10,5,2],[]⟩) w547_c1)))
def w547_L0 : WCode := .loop ⟨true,[12,11,10,5,2],[]⟩ w547_B0
def w547 : WFn := ⟨2,[.tmp 4],zd (s (O 4 [d 2 (bx 0),E (.mv (.c (.ro 6 [] true)))]) (s (R 5 [E (.mv (.c (.ro 6 [] true)))] ⟨true,[5,2,1],[(5,6)]⟩) (s (s (O 10 [m 1,ln 1 10,i 0]) (bk 0 w547_L0 ⟨true,[5],[]⟩)) w547_c0)))⟩
@[simp] theorem w547_E1 : ZL w547_L1 w547_B1 ⟨true,[65,64,63,12,11,10,7,5,2],[]⟩ := ck_lp rfl
@[simp] theorem w547_E0 : ZL w547_L0 w547_B0 ⟨true,[12,11,10,5,2],[]⟩ := ck_lp rfl
def w140 : WFn := ⟨1,[.tmp 2],zd (s (O 1 [bx 0,i 0]) (s (O 6 [h 6 1,ca 282 [6],d 5 (m 7),ex 0 5,ex 1 5,d 3 (m 8),d 4 (m 9)]) (r (O 10 [m 3,d 2 (m 10)]))))⟩
def w553 : WFn := ⟨1,[.tmp 2],zd (s (O 2 [E (.mv (.c (.ro 2 [] true)))]) (r (O 3 [m 0,m 0,ln 1 4,m 0,ln 1 6,E (.slice 2 (T 3) none (some (T 5)) (some (T 7))),d 2 (m 8)])))⟩
def w554 : WFn := ⟨1,[.tmp 2],zd (w (.cln [.str [],.str []] 2 32))⟩
def w502 : WFn := ⟨2,[.tmp 4],zd (s (O 3 [bx 1,i 0]) (s (s (O 7 [m 0,nk 7,f 0 8,l 1 9,E (.bin .neq (T 10) (.c (.int .u8 1)))]) (c 11 (r (O 4 [i 0])))) (s (O 5 [E (.alloc [.int .i64 0]),n (E (.store 1 (T 5) (N 0)))]) (s (O 6 [E (.alloc [.nilf])]) (s (O 12 [E (.mkfn 548 [T 5,T 3,T 6]),n (st 1 6 12)]) (s (s (O 13 [l 1 6,m 0,E (.callv (T 13) [T 14,N 1]),nt 15]) (c 16 (r (O 4 [i 0])))) (r (O 17 [l 1 5,d 4 (m 17)]))))))))⟩
def w503 : WFn := ⟨1,[],zd (w .skip)⟩
def w578_c0 : WCode := zd (r (O 6 [i (-1)]))
def w578_B0 : WCode := zd (s (O 11 [E (.next (T 10)),ex 0 11]) (s (cc 12 (w .skip) (ee 0)) (B 1 (s (O 13 [ex 1 11,ex 2 11,d 7 (m 13),d 8 (m 14)]) (s (O 15 [m 1,m 8,E (.callv (T 15) [T 16]),m 2,E (.eqv 5 [] false (T 17) (T 18))]) (c 19 (r (O 20 [m 7,d 6 (m 20)]))))))))
def w578_L0 : WCode := .loop ⟨true,[10,2,1],[]⟩ w578_B0
def w578 : WFn := ⟨3,[.tmp 6],zd (s (O 6 [i 0]) (s (s (O 9 [m 0,E (.range (T 9))]) (bk 0 w578_L0 ⟨true,[],[]⟩)) w578_c0))⟩
@[simp] theorem w578_E0 : ZL w578_L0 w578_B0 ⟨true,[10,2,1],[]⟩ := ck_lp rfl
def w579 : WFn := ⟨1,[.tmp 2],zd (s (O 2 [ff]) (r (O 3 [m 0,E (.build [.int .u8 0,.str [],.str [],.ro 2 [] true,.str [],.ro 6 [] true] [(0,1,.c (.int .u8 2)),(4,1,T 3)]),ca 439 [4],eqi 5 0,d 2 (m 6)])))⟩
def w580 : WFn := ⟨1,[.tmp 2],zd (s (O 2 [ff]) (r (O 3 [m 0,ca 581 [3],nt 4,d 2 (m 5)])))⟩
def w581 : WFn := ⟨1,[.tmp 2],zd (s (O 2 [ff]) (r (O 3 [m 0,E (.build [.int .u8 0,.str [],.str [],.ro 2 [] true,.str [],.ro 6 [] true] [(0,1,.c (.int .u8 1)),(1,1,T 3)]),ca 439 [4],eqi 5 0,d 2 (m 6)])))⟩
def w582 : WFn := ⟨4,[.cell 8 6 true],zd (s (O 4 [bx 0,bx 1,d 8 (E (.alloc [.int .u8 0,.str [],.str [],.ro 2 [] true,.str [],.ro 6 [] true]))]) (r (V 9 [f 1 5,l 1 9,m 2,h 4 4,f 3 5,l 1 13,ca 592 [12,14],m 3,ca 593 [16],E (.build [.int .u8 0,.str [],.str [],.ro 2 [] true,.str [],.ro 6 [] true] [(0,1,.c (.int .u8 1)),(1,1,T 10),(2,1,T 11),(3,1,T 15),(5,1,T 17)]),n (st 6 8 18)] [(1,6),(1,8)] ⟨false,[],[]⟩)))⟩
def w583 : WFn := ⟨1,[.cell 2 6 true],zd (s (O 2 [E (.alloc [.int .u8 0,.str [],.str [],.ro 2 [] true,.str [],.ro 6 [] true])]) (r (O 3 [m 0,E (.build [.int .u8 0,.str [],.str [],.ro 2 [] true,.str [],.ro 6 [] true] [(0,1,.c (.int .u8 2)),(4,1,T 3)]),n (st 6 2 4)])))⟩
def w584_B0 : WCode := zd (B 1 (s (O 5 [m 4,sbi 5 1,d 4 (m 6)]) (s (O 7 [m 4,m 0,E (.bin .rem (T 8) (.c (.int .u64 10))),E (.idxstr (.c (.str [48,49,50,51,52,53,54,55,56,57])) (T 9)),E (.idxa 20 1 (T 3) (T 7)),n (st 1 11 10)]) (s (O 12 [m 0,E (.bin .quo (T 12) (.c (.int .u64 10))),d 0 (m 13)]) (s (O 14 [m 0,E (.bin .eql (T 14) (.c (.int .u64 0)))]) (c 15 (r (O 16 [m 4,E (.sliceA 20 (T 3) (some (T 16)) none),E (.cvb (T 17)),d 2 (m 18)]))))))))
def w584_L0 : WCode := .loop ⟨true,[4,3,0],[]⟩ w584_B0
def w584 : WFn := ⟨1,[.tmp 2],zd (s (O 2 [E (.mv (.c (.str [])))]) (s (O 3 [E (.alloc (rep 20 (.int .u8 0)))]) (s (O 4 [i 20]) (bk 0 w584_L0 ⟨true,[2],[]⟩))))⟩
@[simp] theorem w584_E0 : ZL w584_L0 w584_B0 ⟨true,[4,3,0],[]⟩ := ck_lp rfl
def w282 : WFn := ⟨1,[.cell 2 1 false,.cell 3 1 false],zd (s (O 1 [bx 0,E (.alloc [.int .i64 0]),E (.alloc [.int .i64 0])]) (s (O 4 [E (.alloc [.nilf])]) (s (O 5 [E (.mkfn 433 [T 2,T 3,T 4]),n (st 1 4 5)]) (s (s (O 6 [l 1 4,E (.callv (T 6) [T 1,N 1]),nt 7]) (c 8 (r (O 0 [n (E (.store 1 (T 2) (N 0))),n (E (.store 1 (T 3) (N 0)))])))) (r (V 9 [l 1 2,l 1 3,n (st 1 2 9),n (st 1 3 10)] [(1,2)] ⟨false,[],[]⟩))))))⟩
def w548_c0 : WCode := zd (r (O 7 [tt]))
def w548_B0 : WCode := zd (s (O 31 [lt 30 29]) (s (cc 31 (w .skip) (ee 0)) (s (B 1 (s (O 32 [m 30,d 8 (m 32)]) (s (V 33 [l 1 4,m 0,nk 34,f 5 35,l 1 36,m 8,ix 6 37 38,m 1,adi 40 1,E (.callv (T 33) [T 39,T 41]),nt 42] [] ⟨false,[],[]⟩) (c 43 (r (O 7 [ff])))))) (O 44 [adi 30 1,d 30 (m 44)]))))
def w548_L0 : WCode := .loop ⟨true,[30,29,4,1,0],[]⟩ w548_B0
def w548 : WFn := ⟨5,[.tmp 7],zd (s (O 7 [ff]) (s (O 9 [l 1 2,adi 9 1,n (st 1 2 10)]) (s (s (O 11 [m 1,gti 11 6,m 12,z 13 (l 1 2),z 13 (gti 14 64),po 13 15,m 16,z 17 (m 0),z 17 (ca 549 [18]),z 17 (nt 19),po 17 20]) (c 21 (r (O 7 [ff])))) (s (O 22 [l 1 3,m 0,E (.callv (T 22) [T 23])]) (s (s (Q 25 [m 0,nk 25,f 5 26,l 1 27,ln 1 28,i 0] [30,29,4,1,0]) (bk 0 w548_L0 ⟨true,[],[]⟩)) w548_c0)))))⟩
@[simp] theorem w548_E0 : ZL w548_L0 w548_B0 ⟨true,[30,29,4,1,0],[]⟩ := ck_lp rfl
def w549 : WFn := ⟨1,[.tmp 2],zd (s (O 2 [ff]) (s (O 4 [m 0,nk 4,h 6 5,d 3 (E (.alloc [.int .u8 0,.str [],.str [],.ro 3 [] true,.str [],.ro 6 [] true])),n (st 6 3 6)]) (s (s (O 7 [m 0,nk 7,f 0 8,l 1 9]) (B 0 (s (B 5 (s (B 4 (s (B 3 (s (B 2 (s (B 1 (s (s (s (O 12 [E (.bin .eql (T 10) (.c (.int .u8 1))),d 11 (m 12)]) (c 11 (ee 1))) (s (s (O 14 [E (.bin .eql (T 10) (.c (.int .u8 5))),d 13 (m 14)]) (c 13 (ee 2))) (s (s (O 16 [E (.bin .eql (T 10) (.c (.int .u8 2))),d 15 (m 16)]) (c 15 (ee 3))) (s (s (O 18 [E (.bin .eql (T 10) (.c (.int .u8 3))),d 17 (m 18)]) (cc 17 (w .skip) (O 19 [E (.bin .eql (T 10) (.c (.int .u8 4))),d 17 (m 19)]))) (c 17 (ee 4)))))) (ee 5))) (s (s (Q 20 [m 0,nk 20,f 2 21,l 1 22,E (.bin .neq (T 23) (.c (.str []))),m 24,y 25 (m 0),y 25 (nk 26),y 25 (f 2 27),y 25 (l 1 28),y 25 (ca 581 [29]),y 25 (nt 30),pa 25 31,m 32,z 33 (m 0),z 33 (nk 34),z 33 (f 5 35),z 33 (l 1 36),z 33 (ln 1 37),z 33 (gti 38 16),po 33 39] [40,3,0]) (c 40 (r (O 2 [ff])))) (O 41 [f 2 3,n (E (.store 1 (T 41) (.c (.str [])))),f 5 3,n (E (.store 1 (T 42) (.c (.ro 6 [] true))))])))) (s (s (s (Q 43 [m 0,nk 43,f 1 44,l 1 45,ca 581 [46],nt 47,m 48,z 49 (m 0),z 49 (nk 50),z 49 (f 3 51),z 49 (l 1 52),z 49 (ca 585 [53]),z 49 (nt 54),po 49 55] [56,3]) (c 56 (r (O 2 [ff])))) (O 57 [f 1 3,n (E (.store 1 (T 57) (.c (.str [])))),f 3 3,n (E (.store 1 (T 58) (.c (.ro 3 [] true))))])) (ee 0)))) (s (s (s (O 59 [m 0,nk 59,f 4 60,l 1 61,ca 579 [62],nt 63]) (c 64 (r (O 2 [ff])))) (O 65 [f 4 3,n (E (.store 1 (T 65) (.c (.str []))))])) (ee 0)))) (ee 0))) (s (r (O 2 [ff])) (ee 0))))) (r (Q 66 [f 1 3,l 1 66,E (.bin .eql (T 67) (.c (.str []))),m 68,y 69 (f 2 3),y 69 (l 1 70),y 69 (E (.bin .eql (T 71) (.c (.str [])))),pa 69 72,m 73,y 74 (f 4 3),y 74 (l 1 75),y 74 (E (.bin .eql (T 76) (.c (.str [])))),pa 74 77,m 78,y 79 (f 3 3),y 79 (l 1 80),y 79 (ln 1 81),y 79 (eqi 82 0),pa 79 83,m 84,y 85 (f 5 3),y 85 (l 1 86),y 85 (ln 1 87),y 85 (eqi 88 0),pa 85 89,d 2 (m 90)] [2])))))⟩
def w592_c0 : WCode := zd (r (O 44 [m 5,d 4 (m 44)]))
def w592_B0 : WCode := zd (s (O 14 [lt 13 12]) (s (cc 14 (w .skip) (ee 0)) (s (B 1 (s (O 15 [m 13,ix 3 11 13,h 3 16,d 7 (E (.alloc [.str [],.int .u8 0,.str []])),d 6 (m 15),n (st 3 7 17)]) (U 18 [m 5,m 6,f 0 7,l 1 20,f 2 7,l 1 22,f 0 2,f 2 24,l 1 25,f 0 2,f 0 27,l 1 28,ca 584 [29],f 0 2,f 3 31,l 1 32,ln 1 33,E (.cvt .u64 (T 34)),ca 584 [35],E (.build [.str [],.str [],.str [],.str []] [(0,1,T 23),(1,1,T 26),(2,1,T 30),(3,1,T 36)]),f 1 7,l 1 38,E (.idxv 4 1 false (T 37) (T 39)),E (.build [.str [],.str []] [(0,1,T 21),(1,1,T 40)]),ix 2 18 19,n (st 2 42 41)] [(3,12),(5,12),(8,12),(12,15),(12,16),(3,18),(5,18),(8,18),(12,21),(18,21)] [13,12,11,5,2]))) (O 43 [adi 13 1,d 13 (m 43)]))))
def w592_L0 : WCode := .loop ⟨true,[13,12,11,5,2],[]⟩ w592_B0
def w592 : WFn := ⟨2,[.tmp 4],zd (s (O 4 [d 2 (bx 0),E (.mv (.c (.ro 2 [] true)))]) (s (O 8 [m 1,ln 1 8,E (.mksl [.str [],.str []] 32 (T 9) (T 9)),d 5 (m 10)]) (s (s (O 11 [m 1,ln 1 11,i 0]) (bk 0 w592_L0 ⟨true,[5],[]⟩)) w592_c0)))⟩
@[simp] theorem w592_E0 : ZL w592_L0 w592_B0 ⟨true,[13,12,11,5,2],[]⟩ := ck_lp rfl
def w593 : WFn := ⟨1,[.tmp 2],zd (s (O 2 [E (.mv (.c (.ro 6 [] true)))]) (r (O 3 [m 0,m 0,ln 1 4,m 0,ln 1 6,E (.slice 6 (T 3) none (some (T 5)) (some (T 7))),d 2 (m 8)])))⟩
def w433_c0 : WCode := zd (r (O 7 [tt]))
def w433_B0 : WCode := zd (s (O 31 [lt 30 29]) (s (cc 31 (w .skip) (ee 0)) (s (B 1 (s (O 32 [m 30,d 8 (m 32)]) (s (V 33 [l 1 4,m 0,nk 34,f 5 35,l 1 36,m 8,ix 6 37 38,m 1,adi 40 1,E (.callv (T 33) [T 39,T 41]),nt 42] [] ⟨false,[],[]⟩) (c 43 (r (O 7 [ff])))))) (O 44 [adi 30 1,d 30 (m 44)]))))
def w433_L0 : WCode := .loop ⟨true,[30,29,4,1,0],[]⟩ w433_B0
def w433 : WFn := ⟨5,[.tmp 7],zd (s (O 7 [ff]) (s (O 9 [l 1 2,adi 9 1,n (st 1 2 10)]) (s (O 11 [l 1 3,m 1,E (.mx (T 11) (T 12)),n (st 1 3 13)]) (s (s (O 14 [m 1,gti 14 6,m 15,z 16 (l 1 2),z 16 (gti 17 64),po 16 18,m 19,z 20 (m 0),z 20 (ca 434 [21]),z 20 (nt 22),po 20 23]) (c 24 (r (O 7 [ff])))) (s (s (Q 25 [m 0,nk 25,f 5 26,l 1 27,ln 1 28,i 0] [30,29,4,1,0]) (bk 0 w433_L0 ⟨true,[],[]⟩)) w433_c0)))))⟩
@[simp] theorem w433_E0 : ZL w433_L0 w433_B0 ⟨true,[30,29,4,1,0],[]⟩ := ck_lp rfl
def w434_c0 : WCode := zd (r (O 2 [tt]))
def w434_B0 : WCode := zd (s (Q 143 [lt 142 141] [143,142,141,140,0]) (s (cc 143 (w .skip) (ee 2)) (s (B 3 (s (O 144 [m 142,ix 6 140 142,h 6 145,d 6 (E (.alloc [.int .u8 0,.str [],.str [],.ro 2 [] true,.str [],.ro 6 [] true])),d 5 (m 144),n (st 6 6 146)]) (s (O 147 [f 2 6,l 1 147,E (.bin .neq (T 148) (.c (.str []))),m 149,y 150 (m 0),y 150 (nk 151),y 150 (f 5 152),y 150 (l 1 153),y 150 (m 5),y 150 (E (.slice 6 (T 154) none (some (T 155)) none)),y 150 (E (.mkfn 519 [T 6])),y 150 (ca 518 [156,157]),pa 150 158]) (c 159 (r (O 2 [ff])))))) (O 160 [adi 142 1,d 142 (m 160)]))))
def w434_L0 : WCode := .loop ⟨true,[142,141,140,0],[]⟩ w434_B0
def w434_c1 : WCode := zd (s (s (O 137 [m 0,nk 137,f 5 138,l 1 139,ln 1 140,i 0]) (bk 2 w434_L0 ⟨true,[],[]⟩)) w434_c0)
def w434_B1 : WCode := zd (s (O 104 [lt 103 102]) (s (cc 104 (w .skip) (ee 0)) (s (B 1 (s (O 105 [m 103,ix 2 101 103,h 2 106,d 4 (E (.alloc [.str [],.str []])),d 3 (m 105),n (st 2 4 107)]) (s (U 108 [f 0 4,l 1 108,ca 517 [109],nt 110,m 111,z 112 (f 1 4),z 112 (l 1 113),z 112 (ca 516 [114]),z 112 (nt 115),po 112 116,m 117,z 118 (m 3),z 118 (gti 119 0),z 118 (m 120),y 121 (f 0 4),y 121 (l 1 122),y 121 (m 0),y 121 (nk 124),y 121 (f 3 125),y 121 (l 1 126),y 121 (m 3),y 121 (sbi 128 1),y 121 (ix 2 127 129),y 121 (f 0 130),y 121 (l 1 131),y 121 (le 123 132),z 118 (pa 121 133),po 118 134] [] [135,103,102,101,0]) (c 135 (r (O 2 [ff])))))) (O 136 [adi 103 1,d 103 (m 136)]))))
def w434_L1 : WCode := .loop ⟨true,[103,102,101,0],[]⟩ w434_B1
def w434 : WFn := ⟨1,[.tmp 2],zd (s (O 2 [ff]) (s (s (O 7 [m 0,nk 7,f 0 8,l 1 9,E (.bin .eql (T 10) (.c (.int .u8 2)))]) (c 11 (r (Q 12 [m 0,nk 12,f 4 13,l 1 14,ca 516 [15],m 16,y 17 (m 0),y 17 (nk 18),y 17 (f 1 19),y 17 (l 1 20),y 17 (E (.bin .eql (T 21) (.c (.str [])))),pa 17 22,m 23,y 24 (m 0),y 24 (nk 25),y 24 (f 2 26),y 24 (l 1 27),y 24 (E (.bin .eql (T 28) (.c (.str [])))),pa 24 29,m 30,y 31 (m 0),y 31 (nk 32),y 31 (f 3 33),y 31 (l 1 34),y 31 (ln 1 35),y 31 (eqi 36 0),pa 31 37,m 38,y 39 (m 0),y 39 (nk 40),y 39 (f 5 41),y 39 (l 1 42),y 39 (ln 1 43),y 39 (eqi 44 0),pa 39 45,d 2 (m 46)] [2])))) (s (s (Q 47 [m 0,nk 47,f 0 48,l 1 49,E (.bin .neq (T 50) (.c (.int .u8 1))),m 51,z 52 (m 0),z 52 (nk 53),z 52 (f 1 54),z 52 (l 1 55),z 52 (ca 517 [56]),z 52 (nt 57),po 52 58,m 59,z 60 (m 0),z 60 (nk 61),z 60 (f 2 62),z 60 (l 1 63),z 60 (E (.bin .neq (T 64) (.c (.str [])))),z 60 (m 65),y 66 (m 0),y 66 (nk 67),y 66 (f 2 68),y 66 (l 1 69),y 66 (ca 517 [70]),y 66 (nt 71),z 60 (pa 66 72),po 60 73,m 74,z 75 (m 0),z 75 (nk 76),z 75 (f 4 77),z 75 (l 1 78),z 75 (E (.bin .neq (T 79) (.c (.str [])))),po 75 80,m 81,z 82 (m 0),z 82 (nk 83),z 82 (f 3 84),z 82 (l 1 85),z 82 (ln 1 86),z 82 (gti 87 8),po 82 88,m 89,z 90 (m 0),z 90 (nk 91),z 90 (f 5 92),z 90 (l 1 93),z 90 (ln 1 94),z 90 (gti 95 16),po 90 96] [97,0]) (c 97 (r (O 2 [ff])))) (s (s (O 98 [m 0,nk 98,f 3 99,l 1 100,ln 1 101,i 0]) (bk 0 w434_L1 ⟨true,[0],[]⟩)) w434_c1))))⟩
@[simp] theorem w434_E0 : ZL w434_L0 w434_B0 ⟨true,[142,141,140,0],[]⟩ := ck_lp rfl
@[simp] theorem w434_E1 : ZL w434_L1 w434_B1 ⟨true,[103,102,101,0],[]⟩ := ck_lp rfl
def w585_c0 : WCode := zd (r (O 2 [tt]))
def w585_B0 : WCode := zd (s (O 11 [lt 10 9]) (s (cc 11 (w .skip) (ee 0)) (s (B 1 (s (O 12 [m 10,ix 3 8 10,h 3 13,d 4 (E (.alloc [.str [],.int .u8 0,.str []])),d 3 (m 12),n (st 3 4 14)]) (s (U 15 [f 0 4,l 1 15,ca 581 [16],nt 17,m 18,z 19 (f 1 4),z 19 (l 1 20),z 19 (E (.bin .gtr (T 21) (.c (.int .u8 3)))),po 19 22,m 23,z 24 (f 2 4),z 24 (l 1 25),z 24 (ca 579 [26]),z 24 (nt 27),po 24 28,m 29,z 30 (f 1 4),z 30 (l 1 31),z 30 (E (.bin .gtr (T 32) (.c (.int .u8 0)))),z 30 (m 33),y 34 (f 2 4),y 34 (l 1 35),y 34 (E (.bin .neq (T 36) (.c (.str [])))),z 30 (pa 34 37),po 30 38,m 39,z 40 (m 3),z 40 (gti 41 0),z 40 (m 42),y 43 (f 0 4),y 43 (l 1 44),y 43 (m 0),y 43 (m 3),y 43 (sbi 47 1),y 43 (ix 3 46 48),y 43 (f 0 49),y 43 (l 1 50),y 43 (le 45 51),z 40 (pa 43 52),po 40 53] [] [54,10,9,8,0]) (c 54 (r (O 2 [ff])))))) (O 55 [adi 10 1,d 10 (m 55)]))))
def w585_L0 : WCode := .loop ⟨true,[10,9,8,0],[]⟩ w585_B0
def w585 : WFn := ⟨1,[.tmp 2],zd (s (O 2 [ff]) (s (s (O 5 [m 0,ln 1 5,gti 6 8]) (c 7 (r (O 2 [ff])))) (s (s (O 8 [m 0,ln 1 8,i 0]) (bk 0 w585_L0 ⟨true,[],[]⟩)) w585_c0)))⟩
@[simp] theorem w585_E0 : ZL w585_L0 w585_B0 ⟨true,[10,9,8,0],[]⟩ := ck_lp rfl
def w516 : WFn := ⟨1,[.tmp 2],zd (s (O 2 [ff]) (r (O 3 [m 0,ln 0 3,lei 4 64,m 5,y 6 (m 0),y 6 (E (.call 543 [T 7,.c (.fn 560 [])])),y 6 (lti 8 0),pa 6 9,d 2 (m 10)])))⟩
def w517_c0 : WCode := zd (r (O 2 [tt]))
def w517_B0 : WCode := zd (s (O 15 [lt 14 13]) (s (cc 15 (w .skip) (ee 0)) (s (B 1 (s (O 16 [m 14,d 3 (m 16)]) (s (O 17 [m 0,m 3,E (.idxstr (T 17) (T 18)),ca 561 [19],nt 20]) (c 21 (r (O 2 [ff])))))) (O 22 [adi 14 1,d 14 (m 22)]))))
def w517_L0 : WCode := .loop ⟨true,[14,13,0],[]⟩ w517_B0
def w517 : WFn := ⟨1,[.tmp 2],zd (s (O 2 [ff]) (s (s (Q 4 [m 0,ln 0 4,lti 5 1,m 6,z 7 (m 0),z 7 (ln 0 8),z 7 (gti 9 16),po 7 10] [11,0]) (c 11 (r (O 2 [ff])))) (s (s (O 12 [m 0,ln 0 12,i 0]) (bk 0 w517_L0 ⟨true,[],[]⟩)) w517_c0)))⟩
@[simp] theorem w517_E0 : ZL w517_L0 w517_B0 ⟨true,[14,13,0],[]⟩ := ck_lp rfl
def w518 : WFn := ⟨2,[.tmp 4],zd (s (O 4 [ff]) (r (O 5 [m 0,m 1,ca 562 [5,6],gei 7 0,d 4 (m 8)])))⟩
def w519 : WFn := ⟨2,[.tmp 3],zd (s (O 2 [bx 0,ff]) (r (O 4 [f 2 2,l 1 4,f 2 1,l 1 6,eq 5 7,d 3 (m 8)])))⟩
def w560 : WFn := ⟨1,[.tmp 2],zd (s (O 2 [ff]) (r (O 3 [m 0,E (.bin .lss (T 3) (.c (.int .i32 32))),m 4,z 5 (m 0),z 5 (E (.bin .gtr (T 6) (.c (.int .i32 126)))),po 5 7,d 2 (m 8)])))⟩
def w561 : WFn := ⟨1,[.tmp 2],zd (s (O 2 [ff]) (r (O 3 [m 0,E (.bin .geq (T 3) (.c (.int .u8 97))),m 4,y 5 (m 0),y 5 (E (.bin .leq (T 6) (.c (.int .u8 122)))),pa 5 7,m 8,z 9 (m 0),z 9 (E (.bin .geq (T 10) (.c (.int .u8 48)))),z 9 (m 11),y 12 (m 0),y 12 (E (.bin .leq (T 13) (.c (.int .u8 57)))),z 9 (pa 12 14),po 9 15,d 2 (m 16)])))⟩
def w562_c0 : WCode := zd (r (O 4 [i (-1)]))
def w562_B0 : WCode := zd (s (O 9 [lt 8 7]) (s (cc 9 (w .skip) (ee 0)) (s (B 1 (s (O 10 [m 8,d 5 (m 10)]) (s (O 11 [m 1,m 0,m 5,ix 6 12 13,h 6 14,E (.callv (T 11) [T 15])]) (c 16 (r (O 17 [m 5,d 4 (m 17)])))))) (O 18 [adi 8 1,d 8 (m 18)]))))
def w562_L0 : WCode := .loop ⟨true,[8,7,1,0],[]⟩ w562_B0
def w562 : WFn := ⟨2,[.tmp 4],zd (s (O 4 [i 0]) (s (s (O 6 [m 0,ln 1 6,i 0]) (bk 0 w562_L0 ⟨true,[],[]⟩)) w562_c0))⟩
@[simp] theorem w562_E0 : ZL w562_L0 w562_B0 ⟨true,[8,7,1,0],[]⟩ := ck_lp rfl
def tree : WTree := (.node (.node (.node (.node (.node (.node (.node .leaf 0 w0 .leaf) 111 w111 .leaf) 115 w115 (.node (.node .leaf 120 w120 .leaf) 121 w121 .leaf)) 122 w122 (.node (.node (.node .leaf 125 w125 .leaf) 127 w127 .leaf) 128 w128 (.node .leaf 140 w140 .leaf))) 223 w223 (.node (.node (.node (.node .leaf 225 w225 .leaf) 227 w227 .leaf) 230 w230 (.node (.node .leaf 231 w231 .leaf) 232 w232 .leaf)) 238 w238 (.node (.node (.node .leaf 246 w246 .leaf) 247 w247 .leaf) 248 w248 (.node .leaf 249 w249 .leaf)))) 250 w250 (.node (.node (.node (.node (.node .leaf 258 w258 .leaf) 260 w260 .leaf) 262 w262 (.node (.node .leaf 263 w263 .leaf) 264 w264 .leaf)) 265 w265 (.node (.node (.node .leaf 266 w266 .leaf) 282 w282 .leaf) 398 w398 (.node .leaf 399 w399 .leaf))) 402 w402 (.node (.node (.node (.node .leaf 404 w404 .leaf) 405 w405 .leaf) 411 w411 (.node (.node .leaf 412 w412 .leaf) 413 w413 .leaf)) 414 w414 (.node (.node (.node .leaf 415 w415 .leaf) 418 w418 .leaf) 433 w433 (.node .leaf 434 w434 .leaf))))) 439 w439 (.node (.node (.node (.node (.node (.node .leaf 494 w494 .leaf) 495 w495 .leaf) 496 w496 (.node (.node .leaf 497 w497 .leaf) 498 w498 .leaf)) 499 w499 (.node (.node (.node .leaf 500 w500 .leaf) 501 w501 .leaf) 502 w502 (.node .leaf 503 w503 .leaf))) 506 w506 (.node (.node (.node (.node .leaf 507 w507 .leaf) 516 w516 .leaf) 517 w517 (.node (.node .leaf 518 w518 .leaf) 519 w519 .leaf)) 543 w543 (.node (.node (.node .leaf 544 w544 .leaf) 545 w545 .leaf) 546 w546 (.node .leaf 547 w547 .leaf)))) 548 w548 (.node (.node (.node (.node (.node .leaf 549 w549 .leaf) 551 w551 .leaf) 552 w552 (.node (.node .leaf 553 w553 .leaf) 554 w554 .leaf)) 560 w560 (.node (.node (.node .leaf 561 w561 .leaf) 562 w562 .leaf) 578 w578 (.node .leaf 579 w579 .leaf))) 580 w580 (.node (.node (.node (.node .leaf 581 w581 .leaf) 582 w582 .leaf) 583 w583 (.node .leaf 584 w584 .leaf)) 585 w585 (.node (.node (.node .leaf 592 w592 .leaf) 593 w593 .leaf) 604 w604 (.node .leaf 606 w606 .leaf))))))
def ids : List (Nat × Nat) := [(0, 2), (111, 33), (115, 61), (120, 9), (121, 10), (122, 12), (125, 27), (127, 19), (128, 6), (140, 91), (223, 47), (225, 64), (227, 65), (230, 71), (231, 72), (232, 73), (238, 66), (246, 8), (247, 29), (248, 13), (249, 31), (250, 32), (258, 18), (260, 37), (262, 48), (263, 49), (264, 50), (265, 51), (266, 26), (282, 103), (398, 62), (399, 63), (402, 55), (404, 84), (405, 85), (411, 53), (412, 54), (413, 35), (414, 36), (415, 57), (418, 67), (433, 108), (434, 109), (439, 82), (494, 74), (495, 75), (496, 76), (497, 77), (498, 78), (499, 79), (500, 80), (501, 81), (502, 94), (503, 95), (506, 56), (507, 83), (516, 111), (517, 112), (518, 113), (519, 114), (543, 86), (544, 87), (545, 88), (546, 89), (547, 90), (548, 104), (549, 105), (551, 68), (552, 69), (553, 92), (554, 93), (560, 115), (561, 116), (562, 117), (578, 96), (579, 97), (580, 98), (581, 99), (582, 100), (583, 101), (584, 102), (585, 110), (592, 106), (593, 107), (604, 4), (606, 17)]
def alts : List (Nat × Nat × Nat) := []
end P
end
section
set_option linter.unusedSimpArgs false
set_option linter.unusedVariables false
namespace Go.Pw
open Go Go.Pav
@[simp] def eI (x : Int) : List AV := [.int .i64 x]
@[simp] def eU8 (x : Int) : List AV := [.int .u8 x]
@[simp] def eU64 (x : Int) : List AV := [.int .u64 x]
@[simp] def eS (x : List UInt8) : List AV := [.str x]
@[simp] def eB (x : Bool) : List AV := [.bool x]
attribute [simp] Int.natCast_inj
attribute [-simp] List.getElem_cons_drop
section
variable (a n : Nat)
@[simp] theorem lit_lt_cast : ((no_index (OfNat.ofNat a) : Int) < (n : Int)) = ((no_index (OfNat.ofNat a) : Nat) < n) := propext (Int.ofNat_lt (n := (OfNat.ofNat a : Nat)) (m := n))
@[simp] theorem cast_lt_lit : ((n : Int) < (no_index (OfNat.ofNat a) : Int)) = (n < (no_index (OfNat.ofNat a) : Nat)) := propext (Int.ofNat_lt (m := (OfNat.ofNat a : Nat)) (n := n))
@[simp] theorem lit_le_cast : ((no_index (OfNat.ofNat a) : Int) ≤ (n : Int)) = ((no_index (OfNat.ofNat a) : Nat) ≤ n) := propext (Int.ofNat_le (m := (OfNat.ofNat a : Nat)) (n := n))
@[simp] theorem cast_le_lit : ((n : Int) ≤ (no_index (OfNat.ofNat a) : Int)) = (n ≤ (no_index (OfNat.ofNat a) : Nat)) := propext (Int.ofNat_le (n := (OfNat.ofNat a : Nat)) (m := n))
end
@[simp] theorem app_le (a b : Nat) : (a + (b + 1) ≤ a) = False := eq_false (by omega)
theorem drop_cons {α : Type} {l : List α} {i : Nat} (h : i < l.length) : l.drop i = l[i] :: l.drop (i + 1) := List.drop_eq_getElem_cons h
theorem mapO_self {α : Type} {g : α → Option α} : ∀ {l : List α}, (∀ x ∈ l, g x = some x) → mapO g l = some l
 | [], _ => rfl
 | a :: l, h => by simp only [mapO, h a List.mem_cons_self, ob, mapO_self fun x hx => h x (List.mem_cons_of_mem _ hx), om]
@[simp] theorem frz_ints (h : WHeap) (n : Nat) (k : IntKind) (l : List Int) : mapO (frzW h (n + 1)) (List.map (AV.int k) l) = some (List.map (AV.int k) l) :=
 mapO_self fun x hx => by obtain ⟨y, _, rfl⟩ := List.mem_map.1 hx; rfl
@[simp] theorem all_isC_int (k : IntKind) (l : List Int) : l.all (isC ∘ AV.int k) = true := by simp [isC]
@[simp] theorem all_isC_bool (l : List Bool) : l.all (isC ∘ AV.bool) = true := by simp [isC]
attribute [simp] isLeaf
@[simp] theorem comp_eI : ((fun x : AV => [x]) ∘ AV.int .i64) = eI := rfl
@[simp] theorem add_le_self' (a b : Nat) : (a + b ≤ a) = (b = 0) := propext (by omega)
end Go.Pw
end
section
set_option linter.unusedSimpArgs false
set_option linter.unusedVariables false
namespace Go.D
open Go Go.Pav Go.Pw P
set_option maxRecDepth 10000
set_option maxHeartbeats 4000000
set_option linter.unusedSimpArgs false
set_option linter.unusedVariables false
attribute [-simp] List.getElem_cons_drop
variable {C : WProg}
def ppB (f : Nat) : Bool := f == 502 || f == 494 || f == 497 || f == 434 || f == 518 || f == 549 || f == 402 || f == 411 || f == 446 || f == 466 || f == 429 || f == 514 || f == 374 || f == 480 || (decide (1000 ≤ f) && decide (f < 2000))
def inlB (f : Nat) : Bool := f == 217 || f == 459 || decide (2000 ≤ f)
structure HasS (C : WProg) : Prop where
 inl : C.inl = inlB
 pp : C.pp = ppB
end Go.D
end
section
set_option linter.unusedSimpArgs false
set_option linter.unusedVariables false
namespace Go.Pav
open Go
def phiOf (ids : List (Nat × Nat)) (f : FuncId) : Option Nat :=
 match ids with
 | [] => none
 | (g, k) :: r => if k = f then some g else phiOf r f
def psiOf (ids : List (Nat × Nat)) (g : Nat) : FuncId :=
 match get ids g with
 | some k => k
 | none => 0
theorem phiOf_mem : ∀ {ids : List (Nat × Nat)} {f : FuncId} {g : Nat}, phiOf ids f = some g → (g, f) ∈ ids := by
 intro ids
 induction ids with
 | nil => intro f g h; simp [phiOf] at h
 | cons x r ih =>
  intro f g h
  obtain ⟨a, k⟩ := x
  simp only [phiOf] at h
  split at h
  · rename_i hk
    cases h; subst hk; exact List.mem_cons_self
  · exact List.mem_cons_of_mem _ (ih h)
theorem psi_phi {ids : List (Nat × Nat)} (hc : (ids.all fun x => decide (psiOf ids x.1 = x.2)) = true) : ∀ f g, phiOf ids f = some g → psiOf ids g = f := by
 intro f g h
 have := List.all_eq_true.1 hc _ (phiOf_mem h)
 simpa using this
def TreeAll (p : Nat → CFn → Prop) : Tree → Prop
 | .leaf => True
 | .node l k f r => TreeAll p l ∧ p k f ∧ TreeAll p r
theorem TreeAll.get {p : Nat → CFn → Prop} : ∀ {t : Tree}, TreeAll p t → ∀ {g : Nat} {cf : CFn}, t.get g = some cf → p g cf := by
 intro t
 induction t with
 | leaf => intro _ g cf h; simp [Tree.get] at h
 | node l k f r ihl ihr =>
  intro ⟨h1, h2, h3⟩ g cf h
  simp only [Tree.get] at h
  split at h
  · rename_i hk; cases h; subst hk; exact h2
  · split at h
    · exact ihl h1 h
    · exact ihr h3 h
def altOf : List (Nat × FuncId × Nat) → Nat → FuncId → Option Nat
 | [], _, _ => none
 | (g, f, k) :: r, g', f' => if g = g' ∧ f = f' then some k else altOf r g' f'
theorem altOf_mem : ∀ {alts : List (Nat × FuncId × Nat)} {g : Nat} {f : FuncId} {k : Nat}, altOf alts g f = some k → (g, f, k) ∈ alts := by
 intro alts
 induction alts with
 | nil => intro g f k h; simp [altOf] at h
 | cons x r ih =>
  intro g f k h
  obtain ⟨a, b, c⟩ := x
  simp only [altOf] at h
  split at h
  · rename_i hk
    obtain ⟨rfl, rfl⟩ := hk
    cases h; exact List.mem_cons_self
  · exact List.mem_cons_of_mem _ (ih h)
def phiG (ids : List (Nat × Nat)) (alts : List (Nat × FuncId × Nat)) (g : Nat) (f : FuncId) : Option Nat :=
 match altOf alts g f with
 | some k => some k
 | none => phiOf ids f
def FnOk (P : Program) (ids : List (Nat × Nat)) (alts : List (Nat × FuncId × Nat)) (g : Nat) (cf : CFn) : Prop := ∃ fn, P.funcs[psiOf ids g]? = some fn ∧ (cFn P (phiG ids alts g) fn).map stripF = some (stripF cf)
theorem linked {P : Program} {ids : List (Nat × Nat)} {alts : List (Nat × FuncId × Nat)} {C : Prog} (hc : (ids.all fun x => decide (psiOf ids x.1 = x.2)) = true) (ha : (alts.all fun x => decide (psiOf ids x.2.2 = x.2.1)) = true)
 (ht : TreeAll (FnOk P ids alts) C.fns) (hm : P.follows .mixedOrders = true) : Linked P (phiG ids alts) (psiOf ids) C := by
 refine ⟨fun g f k h => ?_, fun _ _ h => ht.get h, hm⟩
 unfold phiG at h
 split at h
 · rename_i k' hk
   cases h
   simpa using List.all_eq_true.1 ha _ (altOf_mem hk)
 · exact psi_phi hc _ _ h
end Go.Pav
end
section
set_option linter.unusedSimpArgs false
set_option linter.unusedVariables false
set_option maxRecDepth 100000
namespace P
open Go Go.Pav Go.Pw Go.Proofs
theorem l0 : FnOk Try.prog ids alts 0 (erFn w0) := ⟨Try.f2, Try.func2, by kernel_rfl⟩
theorem l111 : FnOk Try.prog ids alts 111 (erFn w111) := ⟨Try.f33, Try.func33, by kernel_rfl⟩
theorem l115 : FnOk Try.prog ids alts 115 (erFn w115) := ⟨Try.f61, Try.func61, by kernel_rfl⟩
theorem l120 : FnOk Try.prog ids alts 120 (erFn w120) := ⟨Try.f9, Try.func9, by kernel_rfl⟩
theorem l121 : FnOk Try.prog ids alts 121 (erFn w121) := ⟨Try.f10, Try.func10, by kernel_rfl⟩
theorem l122 : FnOk Try.prog ids alts 122 (erFn w122) := ⟨Try.f12, Try.func12, by kernel_rfl⟩
theorem l125 : FnOk Try.prog ids alts 125 (erFn w125) := ⟨Try.f27, Try.func27, by kernel_rfl⟩
theorem l127 : FnOk Try.prog ids alts 127 (erFn w127) := ⟨Try.f19, Try.func19, by kernel_rfl⟩
theorem l128 : FnOk Try.prog ids alts 128 (erFn w128) := ⟨Try.f6, Try.func6, by kernel_rfl⟩
theorem l140 : FnOk Try.prog ids alts 140 (erFn w140) := ⟨Try.f91, Try.func91, by kernel_rfl⟩
theorem l223 : FnOk Try.prog ids alts 223 (erFn w223) := ⟨Try.f47, Try.func47, by kernel_rfl⟩
theorem l225 : FnOk Try.prog ids alts 225 (erFn w225) := ⟨Try.f64, Try.func64, by kernel_rfl⟩
theorem l227 : FnOk Try.prog ids alts 227 (erFn w227) := ⟨Try.f65, Try.func65, by kernel_rfl⟩
theorem l230 : FnOk Try.prog ids alts 230 (erFn w230) := ⟨Try.f71, Try.func71, by kernel_rfl⟩
theorem l231 : FnOk Try.prog ids alts 231 (erFn w231) := ⟨Try.f72, Try.func72, by kernel_rfl⟩
theorem l232 : FnOk Try.prog ids alts 232 (erFn w232) := ⟨Try.f73, Try.func73, by kernel_rfl⟩
theorem l238 : FnOk Try.prog ids alts 238 (erFn w238) := ⟨Try.f66, Try.func66, by kernel_rfl⟩
theorem l246 : FnOk Try.prog ids alts 246 (erFn w246) := ⟨Try.f8, Try.func8, by kernel_rfl⟩
theorem l247 : FnOk Try.prog ids alts 247 (erFn w247) := ⟨Try.f29, Try.func29, by kernel_rfl⟩
theorem l248 : FnOk Try.prog ids alts 248 (erFn w248) := ⟨Try.f13, Try.func13, by kernel_rfl⟩
theorem l249 : FnOk Try.prog ids alts 249 (erFn w249) := ⟨Try.f31, Try.func31, by kernel_rfl⟩
theorem l250 : FnOk Try.prog ids alts 250 (erFn w250) := ⟨Try.f32, Try.func32, by kernel_rfl⟩
theorem l258 : FnOk Try.prog ids alts 258 (erFn w258) := ⟨Try.f18, Try.func18, by kernel_rfl⟩
theorem l260 : FnOk Try.prog ids alts 260 (erFn w260) := ⟨Try.f37, Try.func37, by kernel_rfl⟩
theorem l262 : FnOk Try.prog ids alts 262 (erFn w262) := ⟨Try.f48, Try.func48, by kernel_rfl⟩
theorem l263 : FnOk Try.prog ids alts 263 (erFn w263) := ⟨Try.f49, Try.func49, by kernel_rfl⟩
theorem l264 : FnOk Try.prog ids alts 264 (erFn w264) := ⟨Try.f50, Try.func50, by kernel_rfl⟩
theorem l265 : FnOk Try.prog ids alts 265 (erFn w265) := ⟨Try.f51, Try.func51, by kernel_rfl⟩
theorem l266 : FnOk Try.prog ids alts 266 (erFn w266) := ⟨Try.f26, Try.func26, by kernel_rfl⟩
theorem l282 : FnOk Try.prog ids alts 282 (erFn w282) := ⟨Try.f103, Try.func103, by kernel_rfl⟩
theorem l398 : FnOk Try.prog ids alts 398 (erFn w398) := ⟨Try.f62, Try.func62, by kernel_rfl⟩
theorem l399 : FnOk Try.prog ids alts 399 (erFn w399) := ⟨Try.f63, Try.func63, by kernel_rfl⟩
theorem l402 : FnOk Try.prog ids alts 402 (erFn w402) := ⟨Try.f55, Try.func55, by kernel_rfl⟩
theorem l404 : FnOk Try.prog ids alts 404 (erFn w404) := ⟨Try.f84, Try.func84, by kernel_rfl⟩
theorem l405 : FnOk Try.prog ids alts 405 (erFn w405) := ⟨Try.f85, Try.func85, by kernel_rfl⟩
theorem l411 : FnOk Try.prog ids alts 411 (erFn w411) := ⟨Try.f53, Try.func53, by kernel_rfl⟩
theorem l412 : FnOk Try.prog ids alts 412 (erFn w412) := ⟨Try.f54, Try.func54, by kernel_rfl⟩
theorem l413 : FnOk Try.prog ids alts 413 (erFn w413) := ⟨Try.f35, Try.func35, by kernel_rfl⟩
theorem l414 : FnOk Try.prog ids alts 414 (erFn w414) := ⟨Try.f36, Try.func36, by kernel_rfl⟩
theorem l415 : FnOk Try.prog ids alts 415 (erFn w415) := ⟨Try.f57, Try.func57, by kernel_rfl⟩
theorem l418 : FnOk Try.prog ids alts 418 (erFn w418) := ⟨Try.f67, Try.func67, by kernel_rfl⟩
theorem l433 : FnOk Try.prog ids alts 433 (erFn w433) := ⟨Try.f108, Try.func108, by kernel_rfl⟩
theorem l434 : FnOk Try.prog ids alts 434 (erFn w434) := ⟨Try.f109, Try.func109, by kernel_rfl⟩
theorem l439 : FnOk Try.prog ids alts 439 (erFn w439) := ⟨Try.f82, Try.func82, by kernel_rfl⟩
theorem l494 : FnOk Try.prog ids alts 494 (erFn w494) := ⟨Try.f74, Try.func74, by kernel_rfl⟩
theorem l495 : FnOk Try.prog ids alts 495 (erFn w495) := ⟨Try.f75, Try.func75, by kernel_rfl⟩
theorem l496 : FnOk Try.prog ids alts 496 (erFn w496) := ⟨Try.f76, Try.func76, by kernel_rfl⟩
theorem l497 : FnOk Try.prog ids alts 497 (erFn w497) := ⟨Try.f77, Try.func77, by kernel_rfl⟩
theorem l498 : FnOk Try.prog ids alts 498 (erFn w498) := ⟨Try.f78, Try.func78, by kernel_rfl⟩
theorem l499 : FnOk Try.prog ids alts 499 (erFn w499) := ⟨Try.f79, Try.func79, by kernel_rfl⟩
theorem l500 : FnOk Try.prog ids alts 500 (erFn w500) := ⟨Try.f80, Try.func80, by kernel_rfl⟩
theorem l501 : FnOk Try.prog ids alts 501 (erFn w501) := ⟨Try.f81, Try.func81, by kernel_rfl⟩
theorem l502 : FnOk Try.prog ids alts 502 (erFn w502) := ⟨Try.f94, Try.func94, by kernel_rfl⟩
theorem l503 : FnOk Try.prog ids alts 503 (erFn w503) := ⟨Try.f95, Try.func95, by kernel_rfl⟩
theorem l506 : FnOk Try.prog ids alts 506 (erFn w506) := ⟨Try.f56, Try.func56, by kernel_rfl⟩
theorem l507 : FnOk Try.prog ids alts 507 (erFn w507) := ⟨Try.f83, Try.func83, by kernel_rfl⟩
theorem l516 : FnOk Try.prog ids alts 516 (erFn w516) := ⟨Try.f111, Try.func111, by kernel_rfl⟩
theorem l517 : FnOk Try.prog ids alts 517 (erFn w517) := ⟨Try.f112, Try.func112, by kernel_rfl⟩
theorem l518 : FnOk Try.prog ids alts 518 (erFn w518) := ⟨Try.f113, Try.func113, by kernel_rfl⟩
theorem l519 : FnOk Try.prog ids alts 519 (erFn w519) := ⟨Try.f114, Try.func114, by kernel_rfl⟩
theorem l543 : FnOk Try.prog ids alts 543 (erFn w543) := ⟨Try.f86, Try.func86, by kernel_rfl⟩
theorem l544 : FnOk Try.prog ids alts 544 (erFn w544) := ⟨Try.f87, Try.func87, by kernel_rfl⟩
theorem l545 : FnOk Try.prog ids alts 545 (erFn w545) := ⟨Try.f88, Try.func88, by kernel_rfl⟩
theorem l546 : FnOk Try.prog ids alts 546 (erFn w546) := ⟨Try.f89, Try.func89, by kernel_rfl⟩
theorem l547 : FnOk Try.prog ids alts 547 (erFn w547) := ⟨Try.f90, Try.func90, by kernel_rfl⟩
theorem l548 : FnOk Try.prog ids alts 548 (erFn w548) := ⟨Try.f104, Try.func104, by kernel_rfl⟩
theorem l549 : FnOk Try.prog ids alts 549 (erFn w549) := ⟨Try.f105, Try.func105, by kernel_rfl⟩
theorem l551 : FnOk Try.prog ids alts 551 (erFn w551) := ⟨Try.f68, Try.func68, by kernel_rfl⟩
theorem l552 : FnOk Try.prog ids alts 552 (erFn w552) := ⟨Try.f69, Try.func69, by kernel_rfl⟩
theorem l553 : FnOk Try.prog ids alts 553 (erFn w553) := ⟨Try.f92, Try.func92, by kernel_rfl⟩
theorem l554 : FnOk Try.prog ids alts 554 (erFn w554) := ⟨Try.f93, Try.func93, by kernel_rfl⟩
theorem l560 : FnOk Try.prog ids alts 560 (erFn w560) := ⟨Try.f115, Try.func115, by kernel_rfl⟩
theorem l561 : FnOk Try.prog ids alts 561 (erFn w561) := ⟨Try.f116, Try.func116, by kernel_rfl⟩
theorem l562 : FnOk Try.prog ids alts 562 (erFn w562) := ⟨Try.f117, Try.func117, by kernel_rfl⟩
theorem l578 : FnOk Try.prog ids alts 578 (erFn w578) := ⟨Try.f96, Try.func96, by kernel_rfl⟩
theorem l579 : FnOk Try.prog ids alts 579 (erFn w579) := ⟨Try.f97, Try.func97, by kernel_rfl⟩
theorem l580 : FnOk Try.prog ids alts 580 (erFn w580) := ⟨Try.f98, Try.func98, by kernel_rfl⟩
theorem l581 : FnOk Try.prog ids alts 581 (erFn w581) := ⟨Try.f99, Try.func99, by kernel_rfl⟩
theorem l582 : FnOk Try.prog ids alts 582 (erFn w582) := ⟨Try.f100, Try.func100, by kernel_rfl⟩
theorem l583 : FnOk Try.prog ids alts 583 (erFn w583) := ⟨Try.f101, Try.func101, by kernel_rfl⟩
theorem l584 : FnOk Try.prog ids alts 584 (erFn w584) := ⟨Try.f102, Try.func102, by kernel_rfl⟩
theorem l585 : FnOk Try.prog ids alts 585 (erFn w585) := ⟨Try.f110, Try.func110, by kernel_rfl⟩
theorem l592 : FnOk Try.prog ids alts 592 (erFn w592) := ⟨Try.f106, Try.func106, by kernel_rfl⟩
theorem l593 : FnOk Try.prog ids alts 593 (erFn w593) := ⟨Try.f107, Try.func107, by kernel_rfl⟩
theorem l604 : FnOk Try.prog ids alts 604 (erFn w604) := ⟨Try.f4, Try.func4, by kernel_rfl⟩
theorem l606 : FnOk Try.prog ids alts 606 (erFn w606) := ⟨Try.f17, Try.func17, by kernel_rfl⟩
def prog : WProg := ⟨tree, Go.D.inlB, Go.D.ppB⟩
theorem all : TreeAll (FnOk Try.prog ids alts) (erProg prog).fns := ⟨⟨⟨⟨⟨⟨⟨trivial, l0, trivial⟩, l111, trivial⟩, l115, ⟨⟨trivial, l120, trivial⟩, l121, trivial⟩⟩, l122, ⟨⟨⟨trivial, l125, trivial⟩, l127, trivial⟩, l128, ⟨trivial, l140, trivial⟩⟩⟩, l223, ⟨⟨⟨⟨trivial, l225, trivial⟩, l227, trivial⟩, l230, ⟨⟨trivial, l231, trivial⟩, l232, trivial⟩⟩, l238, ⟨⟨⟨trivial, l246, trivial⟩, l247, trivial⟩, l248, ⟨trivial, l249, trivial⟩⟩⟩⟩, l250, ⟨⟨⟨⟨⟨trivial, l258, trivial⟩, l260, trivial⟩, l262, ⟨⟨trivial, l263, trivial⟩, l264, trivial⟩⟩, l265, ⟨⟨⟨trivial, l266, trivial⟩, l282, trivial⟩, l398, ⟨trivial, l399, trivial⟩⟩⟩, l402, ⟨⟨⟨⟨trivial, l404, trivial⟩, l405, trivial⟩, l411, ⟨⟨trivial, l412, trivial⟩, l413, trivial⟩⟩, l414, ⟨⟨⟨trivial, l415, trivial⟩, l418, trivial⟩, l433, ⟨trivial, l434, trivial⟩⟩⟩⟩⟩, l439, ⟨⟨⟨⟨⟨⟨trivial, l494, trivial⟩, l495, trivial⟩, l496, ⟨⟨trivial, l497, trivial⟩, l498, trivial⟩⟩, l499, ⟨⟨⟨trivial, l500, trivial⟩, l501, trivial⟩, l502, ⟨trivial, l503, trivial⟩⟩⟩, l506, ⟨⟨⟨⟨trivial, l507, trivial⟩, l516, trivial⟩, l517, ⟨⟨trivial, l518, trivial⟩, l519, trivial⟩⟩, l543, ⟨⟨⟨trivial, l544, trivial⟩, l545, trivial⟩, l546, ⟨trivial, l547, trivial⟩⟩⟩⟩, l548, ⟨⟨⟨⟨⟨trivial, l549, trivial⟩, l551, trivial⟩, l552, ⟨⟨trivial, l553, trivial⟩, l554, trivial⟩⟩, l560, ⟨⟨⟨trivial, l561, trivial⟩, l562, trivial⟩, l578, ⟨trivial, l579, trivial⟩⟩⟩, l580, ⟨⟨⟨⟨trivial, l581, trivial⟩, l582, trivial⟩, l583, ⟨trivial, l584, trivial⟩⟩, l585, ⟨⟨⟨trivial, l592, trivial⟩, l593, trivial⟩, l604, ⟨trivial, l606, trivial⟩⟩⟩⟩⟩⟩
theorem okT : okTree prog.fns = true := by kernel_rfl
theorem link : Linked Try.prog (phiG ids alts) (psiOf ids) (erProg prog) := linked (by kernel_rfl) (by kernel_rfl) all (by kernel_rfl)
end P
end
section
set_option linter.unusedSimpArgs false
set_option linter.unusedVariables false
namespace Go.Pw
open Go Go.Pav
inductive CT where
 | bool
 | int (k : IntKind)
 | str
 | slice (ts : List CT)
 /-- Rows of a named type. -/
 | sref (t : TypeId)
inductive Ty (N : List (TypeId × List CT)) : CT → AV → Prop
 | bool (b : Bool)  : Ty N .bool (.bool b)
 | int (k : IntKind) (n : Int) (h1 : k.min ≤ n) (h2 : n ≤ k.max) : Ty N (.int k) (.int k n)
 | str (s : List UInt8) (h : s.length < 2 ^ 63)  : Ty N .str (.str s)
 | slice (ts : List CT) (es : List (List AV)) (ex : Bool) (hn : es.length < 2 ^ 63) (hw : ∀ (i : Nat) (e : List AV), es[i]? = some e → e.length = ts.length)
  (h : ∀ (i : Nat) (e : List AV) (j : Nat) (ct : CT) (x : AV), es[i]? = some e → ts[j]? = some ct → e[j]? = some x → Ty N ct x) : Ty N (.slice ts) (.ro ts.length es ex)
 | sref (t : TypeId) (ts : List CT) (es : List (List AV)) (ex : Bool) (hd : N.lookup t = some ts) (hn : es.length < 2 ^ 63) (hw : ∀ (i : Nat) (e : List AV), es[i]? = some e → e.length = ts.length)
  (h : ∀ (i : Nat) (e : List AV) (j : Nat) (ct : CT) (x : AV), es[i]? = some e → ts[j]? = some ct → e[j]? = some x → Ty N ct x) : Ty N (.sref t) (.ro ts.length es ex)
theorem Ty.isC {N : List (TypeId × List CT)} {ct : CT} {a : AV} (h : Ty N ct a) : Pw.isC a = true := by cases h <;> rfl
def fieldsT (F : TypeId → Option (List CT)) (P : Program) : List Field → Nat → Option (List CT)
 | [], _ => some []
 | f :: r, off => (F f.type).bind fun ts => if f.offset = off ∧ ts.length = P.cellsOf f.type then (fieldsT F P r (off + ts.length)).map (ts ++ ·) else none
def flatT (N : List (TypeId × List CT)) (P : Program) : Nat → TypeId → Option (List CT)
 | 0, _ => none
 | n + 1, t => match P.underlying t with
  | some .bool => some [.bool]
  | some (.int k) => some [.int k]
  | some .string => some [.str]
  | some (.slice e) => match N.lookup e with
   | some _ => some [.sref e]
   | none => (flatT N P n e).bind fun ts => if ts.length = P.cellsOf e ∧ 0 < ts.length then some [.slice ts] else none
  | some (.struct fs) => (fieldsT (flatT N P n) P fs.toList 0).bind fun ts => if ts.length = P.cellsOf t then some ts else none
  | some (.array m e) => (flatT N P n e).bind fun ts => if ts.length = P.cellsOf e ∧ m * ts.length = P.cellsOf t then some (List.replicate m ts).flatten else none
  | _ => none
theorem lookup_mem {α : Type} : ∀ {N : List (TypeId × α)} {t : TypeId} {a : α}, N.lookup t = some a → (t, a) ∈ N
 | [], _, _, h => by simp at h
 | (u, b) :: r, t, a, h => by
  rw [List.lookup_cons] at h
  split at h
  · rename_i q
    have : t = u := by simpa using q
    cases h; subst this; simp
  · exact List.mem_cons_of_mem _ (lookup_mem h)
def Named (N : List (TypeId × List CT)) (P : Program) : Prop := ∀ p ∈ N, flatT N P 20 p.1 = some p.2 ∧ p.2.length = P.cellsOf p.1 ∧ 0 < p.2.length
theorem flatten_rep {α : Type} (ts : List α) : ∀ (m j : Nat), j < m * ts.length → (List.replicate m ts).flatten[j]? = ts[j % ts.length]?
 | 0, j, h => by simp at h
 | m + 1, j, h => by
  rw [List.replicate_succ, List.flatten_cons]
  rcases Nat.lt_or_ge j ts.length with hl | hl
  · rw [List.getElem?_append_left hl, Nat.mod_eq_of_lt hl]
  · rw [List.getElem?_append_right hl, flatten_rep ts m (j - ts.length) (by rw [Nat.add_mul] at h; omega), Nat.mod_eq_sub_mod hl]
theorem trod_array {H : Type} {enc : TypeId × Value → H} {P : Program} {w : World} {base : Nat} {spare : Nat → Bool} {held : Bool} {fuel : Nat} {t : TypeId} {cs : List Value} {x : DataW H × List MemPlace} {m : Nat} {e : TypeId}
 (ht : P.underlying t = some (.array m e)) (h : DataW.trod enc P w base spare held fuel t cs = some x) :
 ∃ (xs : List (DataW H × List MemPlace)) (n : Nat), fuel = n + 1 ∧ cs.length = P.cellsOf t ∧ xs.length = m ∧
  ∀ i, i < m → DataW.trod enc P w base spare held n e ((cs.drop (i * P.cellsOf e)).take (P.cellsOf e)) = xs[i]? := by
 cases fuel with
 | zero => simp [DataW.trod] at h
 | succ n =>
  unfold DataW.trod at h
  rw [ht] at h
  split at h <;> simp_all
  obtain ⟨hl, xs, hp, hd⟩ := h
  exact ⟨xs, by simpa using mapM_some_length hp, fun i hi => mapM_some_get hp i i (List.getElem?_range hi)⟩
def CellOk (N : List (TypeId × List CT)) (ψ : Nat → FuncId) (W : World) (ct : CT) (v : Value) : Prop :=
 ∃ a a', Ty N ct a ∧ VD id (fun _ => False) a a' ∧ a'.cell = true ∧ VR ψ W (fun c => c < W.heap.size) (fun _ => (0, 0)) (fun _ => False) a' v
section
variable {N : List (TypeId × List CT)} {H : Type} {enc : TypeId × Value → H} {P : Program} {W : World} {ψ : Nat → FuncId}
theorem fields_open {F : TypeId → Option (List CT)} {n : Nat} {cs : List Value}
 (hF : ∀ t cs x ts, F t = some ts → DataW.trod enc P W 0 (fun _ => true) true n t cs = some x → cs.length = ts.length ∧ ∀ (j : Nat) (ct : CT), ts[j]? = some ct → ∃ v, cs[j]? = some v ∧ CellOk N ψ W ct v) :
 ∀ (fs : List Field) (off : Nat) (ts : List CT), fieldsT F P fs off = some ts → (∀ f ∈ fs, ∃ x, DataW.trod enc P W 0 (fun _ => true) true n f.type ((cs.drop f.offset).take (P.cellsOf f.type)) = some x) →
  ∀ (j : Nat) (ct : CT), ts[j]? = some ct → ∃ v, cs[off + j]? = some v ∧ CellOk N ψ W ct v := by
 intro fs
 induction fs with
 | nil => intro off ts h _ j ct hj; simp only [fieldsT, Option.some.injEq] at h; subst h; simp at hj
 | cons f r ih =>
  intro off ts h hx j ct hj
  simp only [fieldsT, Option.bind_eq_some_iff] at h
  obtain ⟨t1, h1, h⟩ := h
  split at h
  · rename_i hc
    simp only [Option.map_eq_some_iff] at h
    obtain ⟨t2, h2, rfl⟩ := h
    rcases Nat.lt_or_ge j t1.length with hl | hl
    · rw [List.getElem?_append_left hl] at hj
      obtain ⟨x, q⟩ := hx f (by simp)
      obtain ⟨v, q1, q2⟩ := (hF _ _ _ _ h1 q).2 j ct hj
      refine ⟨v, ?_, q2⟩
      rw [List.getElem?_take] at q1
      split at q1
      · rw [List.getElem?_drop] at q1; rw [← hc.1]; exact q1
      · cases q1
    · rw [List.getElem?_append_right hl] at hj
      obtain ⟨v, q1, q2⟩ := ih _ _ h2 (fun f hf => hx f (by simp [hf])) _ ct hj
      exact ⟨v, by rw [← q1]; congr 1; omega, q2⟩
  · cases h
theorem cells_open (hN : Named N P) : ∀ (n k : Nat) (t : TypeId) (cs : List Value) (x : DataW H × List MemPlace) (ts : List CT), flatT N P k t = some ts → DataW.trod enc P W 0 (fun _ => true) true n t cs = some x →
 cs.length = ts.length ∧ ∀ (j : Nat) (ct : CT), ts[j]? = some ct → ∃ v, cs[j]? = some v ∧ CellOk N ψ W ct v := by
 intro n
 induction n with
 | zero => intro k t cs x ts _ h; simp [DataW.trod] at h
 | succ n ih =>
  intro k t cs x ts hf h
  cases k with
  | zero => simp [flatT] at hf
  | succ k =>
   have one : ∀ {v : Value} {ct : CT}, cs = [v] → ts = [ct] → CellOk N ψ W ct v → cs.length = ts.length ∧ ∀ (j : Nat) (ct : CT), ts[j]? = some ct → ∃ v, cs[j]? = some v ∧ CellOk N ψ W ct v := by
    intro v ct h1 h2 h3
    subst h1; subst h2
    refine ⟨rfl, fun j ct' hj => ?_⟩
    cases j with
    | zero => simp only [List.getElem?_cons_zero, Option.some.injEq] at hj; subst hj; exact ⟨v, rfl, h3⟩
    | succ j => simp at hj
   unfold flatT at hf
   split at hf
   · rename_i ht
     cases hf
     obtain ⟨b, e, _⟩ := DataW.trod_bool ht h
     exact one e rfl ⟨_, _, .bool b, .bool b, rfl, .bool b⟩
   · rename_i k' ht
     cases hf
     obtain ⟨m, e, _, hw⟩ := DataW.trod_int ht h
     simp only [Lit.wf, Bool.and_eq_true, decide_eq_true_eq] at hw
     exact one e rfl ⟨_, _, .int k' m hw.1 hw.2, .int k' m, rfl, .int k' m⟩
   · rename_i ht
     cases hf
     obtain ⟨s, e, _, hw⟩ := DataW.trod_string ht h
     refine one e rfl ⟨.str s.data.toList, _, .str _ ?_, .str _, rfl, ?_⟩
     · simp only [maxLen] at hw
       have : s.data.toList.length = s.size := rfl
       omega
     · have := VR.str (ψ := ψ) (w := W) (S := fun c => c < W.heap.size) (m := fun _ => (0, 0)) (A := fun _ => False) s.data.toList
       exact this
   · rename_i el ht
     have sl : ∀ (k : Nat) (us : List CT) (ct : CT), (∀ (es : List (List AV)) (ex : Bool), es.length < 2 ^ 63 → (∀ (i : Nat) (e : List AV), es[i]? = some e → e.length = us.length) → (∀ (i : Nat) (e : List AV) (j : Nat) (c : CT) (x : AV), es[i]? = some e → us[j]? = some c → e[j]? = some x → Ty N c x) → Ty N ct (.ro us.length es ex)) →
      flatT N P k el = some us → us.length = P.cellsOf el → 0 < us.length → ts = [ct] → cs.length = ts.length ∧ ∀ (j : Nat) (ct : CT), ts[j]? = some ct → ∃ v, cs[j]? = some v ∧ CellOk N ψ W ct v := by
      intro k us ct mk hu hz hz0 hts
      rcases DataW.trod_slice ht h with ⟨e, _⟩ | ⟨a, len, cap, elems, rest, n', hn, e, _, _, hl, hm, hlen, hel, hsp, _⟩
      · exact one e hts ⟨.ro us.length [] true, .nils, mk [] true (by simp) (by simp) (by simp), .ronil _ _, rfl, .nils⟩
      · cases hn
        refine one e hts ?_
        have row : ∀ i, i < cap → ∃ vs y, W.cells? 0 (a.add (i * us.length)) us.length = some vs ∧ DataW.trod enc P W 0 (fun _ => true) true n el vs = some y := by
         intro i hi
         rcases Nat.lt_or_ge i len with hil | hil
         · have := hel i hil
           rw [List.getElem?_eq_getElem (by omega), Option.bind_eq_some_iff, ← hz] at this
           obtain ⟨vs, q1, q2⟩ := this
           exact ⟨vs, _, q1, q2⟩
         · obtain ⟨q0, q⟩ := hsp rfl
           have := q (i - len) (by omega)
           rw [List.getElem?_eq_getElem (by omega), Option.bind_eq_some_iff, ← hz, show len + (i - len) = i by omega] at this
           obtain ⟨vs, q1, q2⟩ := this
           exact ⟨vs, _, q1, q2⟩
        rcases Nat.eq_zero_or_pos cap with hc0 | hc0
        · subst hc0
          obtain rfl : len = 0 := by omega
          exact ⟨.ro us.length [] true, .ro us.length [] true, mk [] true (by simp) (by simp) (by simp), .ro _ [] [] true true (by simp) rfl id (by simp) (by simp), rfl, .roe _ _ _⟩
        · obtain ⟨b, off, spot⟩ := a
          have hfirst : ∃ v, W.cell? ⟨b, off, spot⟩ = some v := by
           obtain ⟨vs, _, q1, _⟩ := row 0 hc0
           obtain ⟨_, q2, q3⟩ := World.cells?_some q1
           have := q3 0 hz0
           rw [List.getElem?_eq_getElem (by omega)] at this
           exact ⟨_, by simpa [Addr.add] using this⟩
          obtain ⟨v0, hv0⟩ := hfirst
          obtain rfl : spot = none := World.cell?_spot hv0
          have hS : b < W.heap.size := by
           unfold World.cell? at hv0
           split at hv0
           · rename_i hb; exact (Array.getElem?_eq_some_iff.1 hb).1
           · cases hv0
          have key : ∀ p : Nat × Nat, ∃ q : Value × AV × AV, p.1 < len → ∀ ct, us[p.2]? = some ct → W.cell? ⟨b, off + p.1 * us.length + p.2, none⟩ = some q.1 ∧ Ty N ct q.2.1 ∧ VD id (fun _ => False) q.2.1 q.2.2 ∧ q.2.2.cell = true ∧
           VR ψ W (fun c => c < W.heap.size) (fun _ => (0, 0)) (fun _ => False) q.2.2 q.1 := by
           intro ⟨i, j⟩
           by_cases hi : i < len
           · cases hj : us[j]? with
             | none => exact ⟨default, fun _ ct q => by cases q⟩
             | some ct =>
              obtain ⟨vs, y, q1, q2⟩ := row i (by omega)
              obtain ⟨v, q3, c1, c2, q4, q5, q6, q7⟩ := (ih _ _ _ _ _ hu q2).2 j ct hj
              refine ⟨(v, c1, c2), fun _ ct' q => ?_⟩
              cases q
              refine ⟨?_, q4, q5, q6, q7⟩
              obtain ⟨_, r1, r2⟩ := World.cells?_some q1
              have hjl : j < us.length := (List.getElem?_eq_some_iff.1 hj).1
              have := r2 j hjl
              rw [q3] at this
              rw [← this]
              congr 1
              simp only [Addr.add]
              split <;> split <;> simp_all <;> omega
           · exact ⟨default, fun q => absurd q hi⟩
          obtain ⟨F, hF⟩ := Classical.axiomOfChoice key
          let es : List (List AV) := (List.range len).map fun i => (List.range us.length).map fun j => (F (i, j)).2.1
          let es' : List (List AV) := (List.range len).map fun i => (List.range us.length).map fun j => (F (i, j)).2.2
          have g1 : ∀ (i : Nat) (e : List AV), es[i]? = some e → i < len ∧ e = (List.range us.length).map fun j => (F (i, j)).2.1 := by
           intro i e he
           simp only [es, List.getElem?_map, Option.map_eq_some_iff] at he
           obtain ⟨i', q1, q2⟩ := he
           have := List.getElem?_eq_some_iff.1 q1
           obtain ⟨q3, q4⟩ := this
           simp at q3 q4
           subst q4
           exact ⟨q3, q2.symm⟩
          have g1' : ∀ (i : Nat) (e : List AV), es'[i]? = some e → i < len ∧ e = (List.range us.length).map fun j => (F (i, j)).2.2 := by
           intro i e he
           simp only [es', List.getElem?_map, Option.map_eq_some_iff] at he
           obtain ⟨i', q1, q2⟩ := he
           have := List.getElem?_eq_some_iff.1 q1
           obtain ⟨q3, q4⟩ := this
           simp at q3 q4
           subst q4
           exact ⟨q3, q2.symm⟩
          have g2 : ∀ (G : Nat → AV) (j : Nat) (x : AV), ((List.range us.length).map G)[j]? = some x → ∃ ct, us[j]? = some ct ∧ x = G j := by
           intro G j x hx
           simp only [List.getElem?_map, Option.map_eq_some_iff] at hx
           obtain ⟨j', q1, q2⟩ := hx
           obtain ⟨q3, q4⟩ := List.getElem?_eq_some_iff.1 q1
           simp at q3 q4
           subst q4
           exact ⟨us[j], List.getElem?_eq_getElem q3, q2.symm⟩
          have l1 : es.length = len := by simp [es]
          have l2 : es'.length = len := by simp [es']
          refine ⟨.ro us.length es (decide (cap = len)), .ro us.length es' (decide (cap = len)), mk es _ ?_ ?_ ?_, .ro _ es es' _ _ ?_ (by rw [l1, l2]) id ?_ ?_, rfl, ?_⟩
          · rw [l1]; simp only [maxLen] at hm; omega
          · intro i e he; rw [(g1 i e he).2]; simp
          · intro i e j ct y he hct hy
            obtain ⟨q1, rfl⟩ := g1 i e he
            obtain ⟨ct', q2, rfl⟩ := g2 _ j y hy
            rw [hct] at q2
            cases q2
            exact (hF (i, j) q1 ct hct).2.1
          · intro e he y hy
            obtain ⟨i, he⟩ := List.getElem?_of_mem he
            obtain ⟨j, hy⟩ := List.getElem?_of_mem hy
            obtain ⟨q1, rfl⟩ := g1 i e he
            obtain ⟨ct', q2, rfl⟩ := g2 _ j y hy
            exact (hF (i, j) q1 ct' q2).2.1.isC
          · intro i e e' he he'
            rw [(g1 i e he).2, (g1' i e' he').2]; simp
          · intro i e e' j y y' he he' hy hy'
            obtain ⟨q1, rfl⟩ := g1 i e he
            obtain ⟨_, rfl⟩ := g1' i e' he'
            obtain ⟨ct', q2, rfl⟩ := g2 _ j y hy
            obtain ⟨_, _, rfl⟩ := g2 _ j y' hy'
            exact (hF (i, j) q1 ct' q2).2.2.1
          · have := VR.ro (ψ := ψ) (w := W) (S := fun c => c < W.heap.size) (m := fun _ => (0, 0)) (A := fun _ => False) us.length es' (decide (cap = len)) b off cap (fun i j => (F (i, j)).1) hS
             (fun i e he => by rw [(g1' i e he).2]; simp) (by rw [l2]; exact hl) (fun q => by rw [l2]; simpa using q)
             (fun i e j y he hy => by
              obtain ⟨q1, rfl⟩ := g1' i e he
              obtain ⟨ct', q2, rfl⟩ := g2 _ j y hy
              have := hF (i, j) q1 ct' q2
              exact ⟨this.2.2.2.1, this.1⟩)
             (fun i e j y he hy => by
              obtain ⟨q1, rfl⟩ := g1' i e he
              obtain ⟨ct', q2, rfl⟩ := g2 _ j y hy
              exact (hF (i, j) q1 ct' q2).2.2.2.2)
            rw [l2] at this
            exact this
     split at hf
     · rename_i us hlk
       cases hf
       obtain ⟨n1, n2, n3⟩ := hN _ (lookup_mem hlk)
       exact sl 20 us _ (fun es ex h1 h2 h3 => .sref el us es ex hlk h1 h2 h3) n1 n2 n3 rfl
     · simp only [Option.bind_eq_some_iff] at hf
       obtain ⟨us, hu, hf⟩ := hf
       split at hf
       · rename_i hz
         cases hf
         exact sl k us _ (fun es ex h1 h2 h3 => .slice us es ex h1 h2 h3) hu hz.1 hz.2 rfl
       · cases hf
   · rename_i fs ht
     simp only [Option.bind_eq_some_iff] at hf
     obtain ⟨us, hu, hf⟩ := hf
     split at hf
     · rename_i hz
       cases hf
       obtain ⟨xs, n', hn, _, hcl, hxl, hx⟩ := DataW.trod_struct ht h
       cases hn
       refine ⟨by rw [hcl, hz], fun j ct hj => ?_⟩
       have := fields_open (cs := cs) (F := flatT N P k) (n := n) (fun t cs x ts h1 h2 => ih k t cs x ts h1 h2) fs.toList 0 _ hu (fun f hf => by
        obtain ⟨i, hi⟩ := List.getElem?_of_mem hf
        have hi' : fs[i]? = some f := by simpa using hi
        have hlt : i < fs.size := (Array.getElem?_eq_some_iff.1 hi').1
        have := hx i f hi'
        rw [List.getElem?_eq_getElem (by omega)] at this
        exact ⟨_, this⟩) j ct hj
       simpa using this
     · cases hf
   · rename_i m' e ht
     simp only [Option.bind_eq_some_iff] at hf
     obtain ⟨us, hu, hf⟩ := hf
     split at hf
     · rename_i hz
       obtain ⟨hz1, hz2⟩ := hz
       cases hf
       obtain ⟨xs, n', hn, hcl, hxl, hx⟩ := trod_array ht h
       cases hn
       have hlen : (List.replicate m' us).flatten.length = m' * us.length := by simp
       refine ⟨by rw [hcl, hlen, hz2], fun j ct hj => ?_⟩
       have hjl : j < m' * us.length := by rw [← hlen]; exact (List.getElem?_eq_some_iff.1 hj).1
       have hk : 0 < us.length := by
        rcases Nat.eq_zero_or_pos us.length with q | q
        · rw [q, Nat.mul_zero] at hjl; omega
        · exact q
       rw [flatten_rep us m' j hjl] at hj
       have hq : j / us.length < m' := Nat.div_lt_of_lt_mul (by rw [Nat.mul_comm]; exact hjl)
       have hxq := hx (j / us.length) hq
       rw [List.getElem?_eq_getElem (by omega)] at hxq
       obtain ⟨v, q1, q2⟩ := (ih k e _ _ us hu hxq).2 (j % us.length) ct hj
       refine ⟨v, ?_, q2⟩
       rw [List.getElem?_take] at q1
       split at q1
       · rw [List.getElem?_drop, ← hz1] at q1
         rw [← q1]; congr 1
         exact (Nat.div_add_mod' j us.length).symm
       · cases q1
     · cases hf
   · cases hf
inductive AT where
 | c (ct : CT)
 | g (ts : List CT)
def AT.has (N : List (TypeId × List CT)) : AT → AV → Prop
 | .c ct, a => Ty N ct a
 | .g ts, a => ∃ es, a = .agg es ∧ es.length = ts.length ∧ ∀ (j : Nat) (ct : CT) (x : AV), ts[j]? = some ct → es[j]? = some x → Ty N ct x
def argT (N : List (TypeId × List CT)) (P : Program) (t : TypeId) : Option AT :=
 match P.underlying t with
 | some (.struct _) => (flatT N P 20 t).map .g
 | some (.array _ _) => (flatT N P 20 t).map .g
 | some .bool | some (.int _) | some .string | some (.slice _) => match flatT N P 20 t with | some [ct] => some (.c ct) | _ => none
 | _ => none
theorem cells_plain {t : TypeId} {base : Nat} {v : Value} (hu : P.underlying t = some .bool ∨ (∃ k, P.underlying t = some (.int k)) ∨ P.underlying t = some .string ∨ ∃ e, P.underlying t = some (.slice e)) (h : Value.okWide P W .any base t v) :
 v.cells = #[v] := by
 cases v <;> try rfl
 rcases hu with hu | ⟨k, hu⟩ | hu | ⟨e, hu⟩ <;> simp [Value.okWide, hu, Cell.okWide, Cell.ok] at h
theorem arg_open (hN : Named N P) {t : TypeId} {at_ : AT} (ha : argT N P t = some at_) {base : Nat} {v : Value} (hv : Value.okWide P W .any base t v) {d : DataW H} {p : List MemPlace} (h : DataW.Trod enc P W 0 (fun _ => true) true t v d p) :
 ∃ a a', at_.has N a ∧ VD id (fun _ => False) a a' ∧ VR ψ W (fun c => c < W.heap.size) (fun _ => (0, 0)) (fun _ => False) a' v := by
 obtain ⟨fuel, h⟩ := h
 have plain : (P.underlying t = some .bool ∨ (∃ k, P.underlying t = some (.int k)) ∨ P.underlying t = some .string ∨ ∃ e, P.underlying t = some (.slice e)) →
  (match flatT N P 20 t with | some [ct] => some (AT.c ct) | _ => none) = some at_ → ∃ a a', at_.has N a ∧ VD id (fun _ => False) a a' ∧ VR ψ W (fun c => c < W.heap.size) (fun _ => (0, 0)) (fun _ => False) a' v := by
  intro hu he
  split at he
  · rename_i ct hf
    cases he
    rw [cells_plain hu hv] at h
    obtain ⟨_, q⟩ := cells_open (ψ := ψ) hN _ _ _ _ _ _ hf h
    obtain ⟨v', q1, a, a', q2, q3, _, q4⟩ := q 0 ct rfl
    simp only [List.getElem?_cons_zero, Option.some.injEq] at q1
    subst q1
    exact ⟨a, a', q2, q3, q4⟩
  · cases he
 have whole : (∃ cs, v = .agg cs) → (flatT N P 20 t).map AT.g = some at_ → ∃ a a', at_.has N a ∧ VD id (fun _ => False) a a' ∧ VR ψ W (fun c => c < W.heap.size) (fun _ => (0, 0)) (fun _ => False) a' v := by
  rintro ⟨cs, rfl⟩ ha
  simp only [Option.map_eq_some_iff] at ha
  obtain ⟨ts, hf, rfl⟩ := ha
  obtain ⟨hl, q⟩ := cells_open (ψ := ψ) hN _ _ _ _ _ _ hf h
  simp only [Value.cells] at hl q
  have key : ∀ j : Nat, ∃ x : AV × AV, ∀ ct, ts[j]? = some ct → Ty N ct x.1 ∧ VD id (fun _ => False) x.1 x.2 ∧ x.2.cell = true ∧ ∃ v, cs.toList[j]? = some v ∧ VR ψ W (fun c => c < W.heap.size) (fun _ => (0, 0)) (fun _ => False) x.2 v := by
   intro j
   cases hj : ts[j]? with
   | none => exact ⟨default, fun _ q => by cases q⟩
   | some ct =>
    obtain ⟨v, q1, a, a', q2, q3, q4, q5⟩ := q j ct hj
    exact ⟨(a, a'), fun ct' e => by cases e; exact ⟨q2, q3, q4, v, q1, q5⟩⟩
  obtain ⟨F, hF⟩ := Classical.axiomOfChoice key
  have g2 : ∀ (G : Nat → AV) (j : Nat) (x : AV), ((List.range ts.length).map G)[j]? = some x → ∃ ct, ts[j]? = some ct ∧ x = G j := by
   intro G j x hx
   simp only [List.getElem?_map, Option.map_eq_some_iff] at hx
   obtain ⟨j', q1, q2⟩ := hx
   obtain ⟨q3, q4⟩ := List.getElem?_eq_some_iff.1 q1
   simp at q3 q4
   subst q4
   exact ⟨ts[j], List.getElem?_eq_getElem q3, q2.symm⟩
  refine ⟨.agg ((List.range ts.length).map fun j => (F j).1), .agg ((List.range ts.length).map fun j => (F j).2), ⟨_, rfl, by simp, ?_⟩, .agg _ _ (by simp) ?_, .agg _ _ ?_ ?_ ?_⟩
  · intro j ct x hct hx
    obtain ⟨ct', q1, rfl⟩ := g2 _ j x hx
    exact (hF j ct hct).1
  · intro j x x' hx hx'
    obtain ⟨ct, q1, rfl⟩ := g2 _ j x hx
    obtain ⟨_, _, rfl⟩ := g2 _ j x' hx'
    exact (hF j ct q1).2.1
  · simp only [List.length_map, List.length_range]
    rw [← hl]; simp
  · intro j x hx
    obtain ⟨ct, q1, rfl⟩ := g2 _ j x hx
    exact (hF j ct q1).2.2.1
  · intro j x hx
    obtain ⟨ct, q1, rfl⟩ := g2 _ j x hx
    obtain ⟨v, q2, q3⟩ := (hF j ct q1).2.2.2
    have e : cs[j]? = some v := by simpa using q2
    rw [Array.getD_eq_getD_getElem?, e]
    exact q3
 unfold argT at ha
 split at ha
 · rename_i fs ht
   simp only [Value.okWide, ht] at hv
   obtain ⟨cs, hv, _, _⟩ := hv
   exact whole ⟨cs, hv⟩ ha
 · rename_i m e ht
   simp only [Value.okWide, ht] at hv
   obtain ⟨cs, hv, _, _⟩ := hv
   exact whole ⟨cs, hv⟩ ha
 · rename_i ht; exact plain (.inl ht) ha
 · rename_i k ht; exact plain (.inr (.inl ⟨k, ht⟩)) ha
 · rename_i ht; exact plain (.inr (.inr (.inl ht))) ha
 · rename_i e ht; exact plain (.inr (.inr (.inr ⟨e, ht⟩))) ha
 · cases ha
def TyAll (N : List (TypeId × List CT)) : List AT → List AV → Prop
 | [], [] => True
 | a :: r, x :: s => a.has N x ∧ TyAll N r s
 | _, _ => False
theorem args_open (hN : Named N P) {base : Nat} : ∀ {ts : List TypeId} {ats : List AT} {vs : List Value} {ds : List (DataW H)} {p : List MemPlace}, ts.map (argT N P) = ats.map some →
 (∀ (j : Nat) (t : TypeId) (v : Value), ts[j]? = some t → vs[j]? = some v → Value.okWide P W .any base t v) → DataW.TrodAll enc P W 0 (fun _ => true) true ts vs ds p →
 ∃ us us', TyAll N ats us ∧ Rel2 (VD id fun _ => False) us us' ∧ us'.length = vs.length ∧ ∀ (j : Nat) (x : AV) (v : Value), us'[j]? = some x → vs[j]? = some v → VR ψ W (fun c => c < W.heap.size) (fun _ => (0, 0)) (fun _ => False) x v
 | [], [], vs, ds, p, _, _, h => by
  obtain ⟨rfl, _, _⟩ := ChangeShapes.trodAll_nil h
  exact ⟨[], [], trivial, ⟨rfl, by simp⟩, rfl, by simp⟩
 | t :: ts, at_ :: ats, _, _, _, hm, hv, h => by
  obtain ⟨v, vs1, d, ds1, p1, q1, rfl, rfl, rfl, h1, h2⟩ := ChangeShapes.trodAll_cons h
  simp only [List.map_cons, List.cons.injEq] at hm
  obtain ⟨a, a', r1, r2, r3⟩ := arg_open (ψ := ψ) hN hm.1 (hv 0 t v rfl rfl) h1
  obtain ⟨us, us', s1, s2, s3, s4⟩ := args_open hN hm.2 (fun j t v e1 e2 => hv (j + 1) t v e1 e2) h2
  refine ⟨a :: us, a' :: us', ⟨r1, s1⟩, ⟨by simp [s2.1], fun j x x' e1 e2 => ?_⟩, by simp [s3], fun j x v' e1 e2 => ?_⟩
  · cases j with
    | zero => cases e1; cases e2; exact r2
    | succ j => exact s2.2 j x x' e1 e2
  · cases j with
    | zero => cases e1; cases e2; exact r3
    | succ j => exact s4 j x v' e1 e2
 | [], _ :: _, _, _, _, hm, _, _ => by simp at hm
 | _ :: _, [], _, _, _, hm, _, _ => by simp at hm
theorem law_calls {Φ : Nat → FuncId → Option Nat} {D : WProg} (hL : Linked P Φ ψ (erProg D)) (hok : okTree D.fns = true) (hN : Named N P) {f : Nat} {ts : List TypeId} {ats : List AT} (hts : ts.map (argT N P) = ats.map some)
 (core : ∀ us, TyAll N ats us → FnW D f us = some (.bool true)) {base : Nat} {args : Array Value} {ds : List (DataW H)} {p : List MemPlace}
 (hv : ∀ (j : Nat) (t : TypeId) (v : Value), ts[j]? = some t → args[j]? = some v → Value.okWide P W .any base t v) (hA : DataW.TrodAll enc P W 0 (fun _ => true) true ts args.toList ds p) :
 Calls P (ψ f) args W fun e W' => e = .returned (.bool true) ∧ (∀ c, c < W.heap.size → W'.heap[c]? = W.heap[c]?) ∧ W.heap.size ≤ W'.heap.size ∧ W'.os = W.os ∧ W'.output = W.output := by
 obtain ⟨us, us', h1, h2, h3, h4⟩ := args_open (ψ := ψ) hN hts (fun j t v e1 e2 => hv j t v e1 (by simpa using e2)) hA
 obtain ⟨n, hc⟩ := fnW_call.1 (core us h1)
 obtain ⟨v', hc', hvd⟩ := callW_ok hok h2 hc
 rw [hvd.bool_inv] at hc'
 refine (callF_ok hL hc' (w := W) (S := fun c => c < W.heap.size) (m := fun _ => (0, 0)) (cargs := args) (fun _ h => h) (by rw [h3]; simp) fun j x hx => ?_).mono ?_
 · have hj : j < args.size := by have := (List.getElem?_eq_some_iff.1 hx).1; rw [h3] at this; simpa using this
   rw [Array.getD_eq_getD_getElem?, Array.getElem?_eq_getElem hj]
   exact h4 j x _ hx (by simp [hj])
 · rintro e W' ⟨cv, S', m', rfl, hr, q1, q2, q3, q4⟩
   rw [hr.inv_bool]
   exact ⟨rfl, q1, q2, q3, q4⟩
theorem trodAll_old {W' : World} (hh : ∀ c, c < W.heap.size → W'.heap[c]? = W.heap[c]?) {base : Nat} {sp : Nat → Bool} {held : Bool} : ∀ {ts : List TypeId} {vs : List Value} {ds : List (DataW H)} {ps : List MemPlace},
 DataW.TrodAll enc P W base sp held ts vs ds ps → (∀ p ∈ ps, p.block < W.heap.size) → DataW.TrodAll enc P W' base sp held ts vs ds ps
 | [], [], [], _, h, _ => h
 | _ :: _, _ :: _, _ :: _, _, ⟨p, q, ⟨n, h1⟩, h2, e⟩, hs => ⟨p, q, ⟨n, DataW.trod_carry n _ _ _ h1 fun x hx => by
  have hlt := hs x (by rw [e]; exact List.mem_append_left _ hx)
  cases x with
  | cell b off => simp only [World.sameAt, World.cell?]; rw [hh b hlt]
  | map b => exact hh b hlt⟩, trodAll_old hh h2 (fun x hx => hs x (by rw [e]; exact List.mem_append_right _ hx)), e⟩
theorem keptBut_old {W' : World} (hh : ∀ c, c < W.heap.size → W'.heap[c]? = W.heap[c]?) (ho : W'.os = W.os) (hp : W'.output = W.output) (may : MemPlace → Prop) : W.keptBut W' may := by
 have h := World.keptBut_refl W may
 refine ⟨ho, hp, fun i hi => ?_⟩
 have := h.2.2 i hi
 rw [hh i hi]
 exact this
theorem law_post {f : Func} {s : ChangeSpec} {fresh handsOn again : Bool} {W' : World} {args : Array Value} {ds gs : List (DataW H)} {before : List MemPlace} {tb : TypeId}
 (kids : Kids P (· < P.types.size)) (full : ∀ t e, t < P.types.size → P.underlying t = some (.slice e) → 0 < P.cellsOf e)
 (hvars0 : s.vars = []) (hW : DataW.Whole enc P f.params.toList s.vars false W args.toList ds gs before) (hfn : s.fn H (ds ++ gs) = { results := [.lit (.bool true)], args := ds })
 (hps : ∀ t ∈ f.params.toList, t < P.types.size) (hr : f.resultTypes = #[tb]) (htb : P.underlying tb = some .bool)
 (hh : ∀ c, c < W.heap.size → W'.heap[c]? = W.heap[c]?) (_hsz : W.heap.size ≤ W'.heap.size) (ho : W'.os = W.os) (hp : W'.output = W.output) :
 s.post enc P f false fresh handsOn again W args (.bool true) W' := by
 have hlt : ∀ p ∈ before, p.block < W.heap.size := hW.lt
 have hW' := hW
 obtain ⟨p, q, hA, hV, rfl, hz, _⟩ := hW
 rw [hvars0] at hV
 obtain ⟨rfl, rfl⟩ := ChangeShapes.trodVars_none hV
 simp only [List.append_nil] at hlt hz hW' hfn
 have hargs : ∀ sp : Nat → Bool, (∀ x ∈ p, sp x.block = true) → DataW.TrodAll enc P W' 0 sp true f.params.toList args.toList ds p := fun sp hsp =>
  trodAll_old hh (DataW.TrodAll.respare kids full hps hA hsp) hlt
 have hvars : ∀ sp : Nat → Bool, DataW.TrodVars enc P W' sp s.vars [] [] := fun sp => by rw [hvars0]; rfl
 have hres : ∀ (b : Nat) (sp : Nat → Bool) (hd : Bool), DataW.TrodAll enc P W' b sp hd f.resultTypes.toList ((Value.bool true).resultList f.resultTypes.size) [.lit (.bool true)] [] := fun b sp hd => by
  rw [hr]; exact ChangeShapes.trodAll_mk1 (RowKit.shut_bool htb true)
 have hok : ∀ (j : Nat) (t : TypeId) (r : Value), f.resultTypes[j]? = some t → ((Value.bool true).resultList f.resultTypes.size)[j]? = some r → Value.okWide P W' .any 0 t r :=
  RowKit.ok_one hr rfl (by simp [Value.okWide, htb, Cell.okWide, Cell.ok])
 have hold : ∀ x ∈ p, (fun b => decide (b < W.heap.size)) x.block = true := fun x hx => by simpa using hlt x hx
 refine ⟨ds, [], p, [], p, [], hW', ?_, ?_, ?_, keptBut_old hh ho hp _, fun _ => ⟨hok, [.lit (.bool true)] ++ ds, [], ([] ++ p) ++ [], ⟨[] ++ p, [], ?_, hvars _, rfl, ?_, fun h => by cases h⟩, ?_⟩⟩
 · rw [List.append_nil, hfn]; exact hres _ _ _
 · rw [List.append_nil, hfn]; exact hargs _ hold
 · rw [List.append_nil, hfn]; exact hvars _
 · exact ChangeShapes.trodAll_append (hargs _ fun _ _ => rfl) (hres _ _ _)
 · intro b off hb
   simp only [List.nil_append, List.append_nil] at hb
   have := hz b off hb
   unfold World.frozen? at this ⊢
   rw [hh b (hlt _ hb)]
   exact this
 · intro x hx _
   simpa using hx
theorem trodAll_len {base : Nat} {sp : Nat → Bool} {held : Bool} : ∀ {ts : List TypeId} {vs : List Value} {ds : List (DataW H)} {ps : List MemPlace}, DataW.TrodAll enc P W base sp held ts vs ds ps → ds.length = ts.length
 | [], [], [], _, _ => rfl
 | _ :: _, _ :: _, _ :: _, _, ⟨_, _, _, h2, _⟩ => by simp [trodAll_len h2]
def isTrue : Option AV → Bool
 | some (.bool true) => true
 | _ => false
theorem isTrue_eq {o : Option AV} (h : isTrue o = true) : o = some (.bool true) := by
 unfold isTrue at h
 split at h
 · rfl
 · cases h
end
end Go.Pw
end
section
set_option linter.unusedSimpArgs false
set_option linter.unusedVariables false
namespace Go.Pw
open Go Go.Pav
variable {N : List (TypeId × List CT)}
theorem ty_map2 {α : Type} {g : α → List AV} {Q : List AV → Prop} {R : α → Prop} (h : ∀ a, Q a → ∃ x, a = g x ∧ R x) : ∀ (xs : List (List AV)), (∀ x ∈ xs, Q x) → ∃ ys : List α, xs = ys.map g ∧ ∀ y ∈ ys, R y := by
 intro xs
 induction xs with
 | nil => intro _; exact ⟨[], rfl, by simp⟩
 | cons a r ih =>
  intro hx
  obtain ⟨y, rfl, hy⟩ := h a (hx a (by simp))
  obtain ⟨ys, rfl, hys⟩ := ih fun x q => hx x (by simp [q])
  exact ⟨y :: ys, rfl, by simpa using ⟨hy, hys⟩⟩
theorem ty_slice {ts : List CT} {a : AV} (h : Ty N (.slice ts) a) : ∃ (es : List (List AV)) (e : Bool), a = .ro ts.length es e ∧ es.length < 2 ^ 63 ∧ ∀ x ∈ es, x.length = ts.length ∧ ∀ (j : Nat) (ct : CT) (v : AV), ts[j]? = some ct → x[j]? = some v → Ty N ct v := by
 cases h with
 | slice ts es ex hn hw h =>
  refine ⟨es, ex, rfl, hn, fun x hx => ?_⟩
  obtain ⟨i, hi⟩ := List.getElem?_of_mem hx
  exact ⟨hw i x hi, fun j ct v e1 e2 => h i x j ct v hi e1 e2⟩
theorem ty_u8 {v : AV} (h : Ty N (.int .u8) v) : ∃ n : Int, v = .int .u8 n ∧ 0 ≤ n ∧ n ≤ 255 := by
 cases h with
 | int k n h1 h2 => exact ⟨n, rfl, h1, h2⟩
theorem ty_u64 {v : AV} (h : Ty N (.int .u64) v) : ∃ n : Int, v = .int .u64 n ∧ 0 ≤ n ∧ n ≤ 18446744073709551615 := by
 cases h with
 | int k n h1 h2 => exact ⟨n, rfl, h1, h2⟩
theorem ty_i64 {v : AV} (h : Ty N (.int .i64) v) : ∃ n : Int, v = .int .i64 n ∧ -9223372036854775808 ≤ n ∧ n ≤ 9223372036854775807 := by
 cases h with
 | int k n h1 h2 => exact ⟨n, rfl, h1, h2⟩
theorem ty_str {v : AV} (h : Ty N .str v) : ∃ s : List UInt8, v = .str s ∧ s.length < 9223372036854775808 := by
 cases h with
 | str s h => exact ⟨s, rfl, h⟩
theorem ty_bool {v : AV} (h : Ty N .bool v) : ∃ b : Bool, v = .bool b := by
 cases h with
 | bool b => exact ⟨b, rfl⟩
end Go.Pw
end
section
set_option linter.unusedSimpArgs false
set_option linter.unusedVariables false
namespace Go.Proofs.Ythlmjbfkkkdkoaa
open Go.ChangeShapes Go.WideShapes Go.ChangeAt Go.RowKit Go.Pav Go.Pw P
theorem own_ : ownKnob Try.prog.godebug = none := by kernel_rfl
theorem kids_ : Kids Try.prog (· < Try.prog.types.size) := kids_rows (by kernel_rfl) (by kernel_rfl)
theorem full_ : ∀ t e, t < Try.prog.types.size → Try.prog.underlying t = some (.slice e) → 0 < Try.prog.cellsOf e := slices_full_of Try.prog (by kernel_rfl)
end Go.Proofs.Ythlmjbfkkkdkoaa
end
section
set_option linter.unusedSimpArgs false
set_option linter.unusedVariables false
end
section
set_option linter.unusedSimpArgs false
set_option linter.unusedVariables false
namespace Go.D
open Go Go.Pav Go.Pw P
set_option maxRecDepth 10000
set_option maxHeartbeats 4000000
set_option linter.unusedSimpArgs false
set_option linter.unusedVariables false
attribute [-simp] List.getElem_cons_drop
variable {C : WProg}
end Go.D
end
section
set_option linter.unusedSimpArgs false
set_option linter.unusedVariables false
namespace Go.D
open Go Go.Pav Go.Pw P
set_option maxRecDepth 10000
set_option maxHeartbeats 4000000
set_option linter.unusedSimpArgs false
set_option linter.unusedVariables false
attribute [-simp] List.getElem_cons_drop
variable {C : WProg}
abbrev Bs := List UInt8
@[simp] def eA (a : Bs × Bs) : List AV := [.str a.1, .str a.2]
structure Nd where
 k : Int
 t : Bs
 y : Bs
 a : List (Bs × Bs)
 ae : Bool
 x : Bs
 ch : List Nd
 ce : Bool
mutual
def Nd.c : Nd → List AV
 | ⟨k, t, y, a, ae, x, ch, ce⟩ => [.int .u8 k, .str t, .str y, .ro 2 (a.map eA) ae, .str x, .ro 6 (Nd.cs ch) ce]
def Nd.cs : List Nd → List (List AV)
 | [] => []
 | n :: r => n.c :: Nd.cs r
end
theorem Nd.cs_eq : ∀ l : List Nd, Nd.cs l = l.map Nd.c
 | [] => rfl
 | n :: r => by rw [Nd.cs, Nd.cs_eq r]; rfl
theorem Nd.c_eq (n : Nd) : n.c = [.int .u8 n.k, .str n.t, .str n.y, .ro 2 (n.a.map eA) n.ae, .str n.x, .ro 6 (n.ch.map Nd.c) n.ce] := by
 cases n; rw [Nd.c, Nd.cs_eq]
@[simp] theorem Nd.c_len (n : Nd) : n.c.length = 6 := by rw [Nd.c_eq]; rfl
@[simp] theorem Nd.c_take (n : Nd) : n.c.take 6 = n.c := List.take_of_length_le (by simp)
@[simp] theorem Nd.c0 (n : Nd) : n.c[0]? = some (.int .u8 n.k) := by rw [Nd.c_eq]; rfl
@[simp] theorem Nd.c1 (n : Nd) : n.c[1]? = some (.str n.t) := by rw [Nd.c_eq]; rfl
@[simp] theorem Nd.c2 (n : Nd) : n.c[2]? = some (.str n.y) := by rw [Nd.c_eq]; rfl
@[simp] theorem Nd.c3 (n : Nd) : n.c[3]? = some (.ro 2 (n.a.map eA) n.ae) := by rw [Nd.c_eq]; rfl
@[simp] theorem Nd.c4 (n : Nd) : n.c[4]? = some (.str n.x) := by rw [Nd.c_eq]; rfl
@[simp] theorem Nd.c5 (n : Nd) : n.c[5]? = some (.ro 6 (n.ch.map Nd.c) n.ce) := by rw [Nd.c_eq]; rfl
@[simp] theorem Nd.g0 (n : Nd) (h : 0 < n.c.length) : n.c[0] = .int .u8 n.k := Option.some.inj ((List.getElem?_eq_getElem h).symm.trans n.c0)
@[simp] theorem Nd.g1 (n : Nd) (h : 1 < n.c.length) : n.c[1] = .str n.t := Option.some.inj ((List.getElem?_eq_getElem h).symm.trans n.c1)
@[simp] theorem Nd.g2 (n : Nd) (h : 2 < n.c.length) : n.c[2] = .str n.y := Option.some.inj ((List.getElem?_eq_getElem h).symm.trans n.c2)
@[simp] theorem Nd.g3 (n : Nd) (h : 3 < n.c.length) : n.c[3] = .ro 2 (n.a.map eA) n.ae := Option.some.inj ((List.getElem?_eq_getElem h).symm.trans n.c3)
@[simp] theorem Nd.g4 (n : Nd) (h : 4 < n.c.length) : n.c[4] = .str n.x := Option.some.inj ((List.getElem?_eq_getElem h).symm.trans n.c4)
@[simp] theorem Nd.g5 (n : Nd) (h : 5 < n.c.length) : n.c[5] = .ro 6 (n.ch.map Nd.c) n.ce := Option.some.inj ((List.getElem?_eq_getElem h).symm.trans n.c5)
@[simp] theorem Nd.hd (n : Nd) : n.c.head? = some (.int .u8 n.k) := by rw [Nd.c_eq]; rfl
@[simp] theorem Nd.c_ptr (n : Nd) : hasPtrL n.c = false := by rw [Nd.c_eq]; rfl
@[simp] theorem Nd.c_frz (n : Nd) (h : WHeap) (k : Nat) : mapO (frzW h (k + 1)) n.c = some n.c := by rw [Nd.c_eq]; rfl
@[simp] theorem Nd.c_reach (n : Nd) (h : WHeap) (k : Nat) : n.c.flatMap (reachW h (k + 1)) = [] := by rw [Nd.c_eq]; rfl
@[simp] theorem Nd.c_ren (n : Nd) (π : Nat → Option Nat) : renL π n.c = some n.c := by rw [Nd.c_eq]; rfl
@[simp] theorem Nd.c_refs (n : Nd) : refsL n.c = [] := by rw [Nd.c_eq]; rfl
@[simp] theorem Nd.c_isC (n : Nd) : n.c.all isC = true := by rw [Nd.c_eq]; rfl
@[simp] theorem Nd.c_cell (n : Nd) : n.c.all AV.cell = true := by rw [Nd.c_eq]; rfl
end Go.D
end
section
set_option linter.unusedSimpArgs false
set_option linter.unusedVariables false
namespace Go.D
open Go Go.Pav Go.Pw P
set_option maxRecDepth 10000
set_option maxHeartbeats 4000000
set_option linter.unusedSimpArgs false
set_option linter.unusedVariables false
attribute [-simp] List.getElem_cons_drop
variable {C : WProg}
end Go.D
end
section
set_option linter.unusedSimpArgs false
set_option linter.unusedVariables false
namespace Go.D
open Go Go.Pav Go.Pw P
set_option maxRecDepth 10000
set_option maxHeartbeats 4000000
set_option linter.unusedSimpArgs false
set_option linter.unusedVariables false
attribute [-simp] List.getElem_cons_drop
variable {C : WProg}
end Go.D
end
section
set_option linter.unusedSimpArgs false
set_option linter.unusedVariables false
namespace Go.D
open Go Go.Pav Go.Pw P
set_option maxRecDepth 10000
set_option maxHeartbeats 4000000
set_option linter.unusedSimpArgs false
set_option linter.unusedVariables false
attribute [-simp] List.getElem_cons_drop
variable {C : WProg}
end Go.D
end
section
set_option linter.unusedSimpArgs false
set_option linter.unusedVariables false
namespace Go.D
open Go Go.Pav Go.Pw P
set_option maxRecDepth 10000
set_option maxHeartbeats 4000000
set_option linter.unusedSimpArgs false
set_option linter.unusedVariables false
attribute [-simp] List.getElem_cons_drop
variable {C : WProg}
structure Sl where
 n : Bs
 f : Int
 v : Bs
@[simp] def eSl (s : Sl) : List AV := [.str s.n, .int .u8 s.f, .str s.v]
structure Pt where
 k : Int
 t : Bs
 y : Bs
 s : List Sl
 se : Bool
 x : Bs
 ch : List Pt
 ce : Bool
mutual
def Pt.c : Pt → List AV
 | ⟨k, t, y, s, se, x, ch, ce⟩ => [.int .u8 k, .str t, .str y, .ro 3 (s.map eSl) se, .str x, .ro 6 (Pt.cs ch) ce]
def Pt.cs : List Pt → List (List AV)
 | [] => []
 | n :: r => n.c :: Pt.cs r
end
theorem Pt.cs_eq : ∀ l : List Pt, Pt.cs l = l.map Pt.c
 | [] => rfl
 | n :: r => by rw [Pt.cs, Pt.cs_eq r]; rfl
theorem Pt.c_eq (n : Pt) : n.c = [.int .u8 n.k, .str n.t, .str n.y, .ro 3 (n.s.map eSl) n.se, .str n.x, .ro 6 (n.ch.map Pt.c) n.ce] := by
 cases n; rw [Pt.c, Pt.cs_eq]
@[simp] theorem Pt.c_len (n : Pt) : n.c.length = 6 := by rw [Pt.c_eq]; rfl
@[simp] theorem Pt.c_take (n : Pt) : n.c.take 6 = n.c := List.take_of_length_le (by simp)
@[simp] theorem Pt.c0 (n : Pt) : n.c[0]? = some (.int .u8 n.k) := by rw [Pt.c_eq]; rfl
@[simp] theorem Pt.c1 (n : Pt) : n.c[1]? = some (.str n.t) := by rw [Pt.c_eq]; rfl
@[simp] theorem Pt.c2 (n : Pt) : n.c[2]? = some (.str n.y) := by rw [Pt.c_eq]; rfl
@[simp] theorem Pt.c3 (n : Pt) : n.c[3]? = some (.ro 3 (n.s.map eSl) n.se) := by rw [Pt.c_eq]; rfl
@[simp] theorem Pt.c4 (n : Pt) : n.c[4]? = some (.str n.x) := by rw [Pt.c_eq]; rfl
@[simp] theorem Pt.c5 (n : Pt) : n.c[5]? = some (.ro 6 (n.ch.map Pt.c) n.ce) := by rw [Pt.c_eq]; rfl
@[simp] theorem Pt.g0 (n : Pt) (h : 0 < n.c.length) : n.c[0] = .int .u8 n.k := Option.some.inj ((List.getElem?_eq_getElem h).symm.trans n.c0)
@[simp] theorem Pt.g1 (n : Pt) (h : 1 < n.c.length) : n.c[1] = .str n.t := Option.some.inj ((List.getElem?_eq_getElem h).symm.trans n.c1)
@[simp] theorem Pt.g2 (n : Pt) (h : 2 < n.c.length) : n.c[2] = .str n.y := Option.some.inj ((List.getElem?_eq_getElem h).symm.trans n.c2)
@[simp] theorem Pt.g3 (n : Pt) (h : 3 < n.c.length) : n.c[3] = .ro 3 (n.s.map eSl) n.se := Option.some.inj ((List.getElem?_eq_getElem h).symm.trans n.c3)
@[simp] theorem Pt.g4 (n : Pt) (h : 4 < n.c.length) : n.c[4] = .str n.x := Option.some.inj ((List.getElem?_eq_getElem h).symm.trans n.c4)
@[simp] theorem Pt.g5 (n : Pt) (h : 5 < n.c.length) : n.c[5] = .ro 6 (n.ch.map Pt.c) n.ce := Option.some.inj ((List.getElem?_eq_getElem h).symm.trans n.c5)
@[simp] theorem Pt.hd (n : Pt) : n.c.head? = some (.int .u8 n.k) := by rw [Pt.c_eq]; rfl
@[simp] theorem Pt.c_ptr (n : Pt) : hasPtrL n.c = false := by rw [Pt.c_eq]; rfl
@[simp] theorem Pt.c_frz (n : Pt) (h : WHeap) (k : Nat) : mapO (frzW h (k + 1)) n.c = some n.c := by rw [Pt.c_eq]; rfl
@[simp] theorem Pt.c_reach (n : Pt) (h : WHeap) (k : Nat) : n.c.flatMap (reachW h (k + 1)) = [] := by rw [Pt.c_eq]; rfl
@[simp] theorem Pt.c_ren (n : Pt) (π : Nat → Option Nat) : renL π n.c = some n.c := by rw [Pt.c_eq]; rfl
@[simp] theorem Pt.c_refs (n : Pt) : refsL n.c = [] := by rw [Pt.c_eq]; rfl
@[simp] theorem Pt.c_isC (n : Pt) : n.c.all isC = true := by rw [Pt.c_eq]; rfl
@[simp] theorem Pt.c_cell (n : Pt) : n.c.all AV.cell = true := by rw [Pt.c_eq]; rfl
end Go.D
end
section
set_option linter.unusedSimpArgs false
set_option linter.unusedVariables false
namespace Go.D
open Go Go.Pav Go.Pw P
set_option maxRecDepth 10000
set_option maxHeartbeats 4000000
set_option linter.unusedSimpArgs false
set_option linter.unusedVariables false
attribute [-simp] List.getElem_cons_drop
variable {C : WProg}
end Go.D
end
section
set_option linter.unusedSimpArgs false
set_option linter.unusedVariables false
namespace Go.D
open Go Go.Pav Go.Pw P
set_option maxRecDepth 10000
set_option maxHeartbeats 4000000
set_option linter.unusedSimpArgs false
set_option linter.unusedVariables false
attribute [-simp] List.getElem_cons_drop
variable {C : WProg}
end Go.D
end
section
set_option linter.unusedSimpArgs false
set_option linter.unusedVariables false
namespace Go.D
open Go Go.Pav Go.Pw P
set_option maxRecDepth 10000
set_option maxHeartbeats 4000000
set_option linter.unusedSimpArgs false
set_option linter.unusedVariables false
attribute [-simp] List.getElem_cons_drop
variable {C : WProg}
end Go.D
end
section
set_option linter.unusedSimpArgs false
set_option linter.unusedVariables false
namespace Go.D
open Go Go.Pav Go.Pw P
set_option maxRecDepth 10000
set_option maxHeartbeats 4000000
set_option linter.unusedSimpArgs false
set_option linter.unusedVariables false
attribute [-simp] List.getElem_cons_drop
variable {C : WProg}
end Go.D
end
section
set_option linter.unusedSimpArgs false
set_option linter.unusedVariables false
namespace Go.D
open Go Go.Pav Go.Pw P
set_option maxRecDepth 10000
set_option maxHeartbeats 4000000
set_option linter.unusedSimpArgs false
set_option linter.unusedVariables false
attribute [-simp] List.getElem_cons_drop
variable {C : WProg}
end Go.D
end
section
set_option linter.unusedSimpArgs false
set_option linter.unusedVariables false
namespace Go.D
open Go Go.Pav Go.Pw P
set_option maxRecDepth 10000
set_option maxHeartbeats 4000000
set_option linter.unusedSimpArgs false
set_option linter.unusedVariables false
attribute [-simp] List.getElem_cons_drop
variable {C : WProg}
end Go.D
end
section
set_option linter.unusedSimpArgs false
set_option linter.unusedVariables false
namespace Go.D
open Go Go.Pav Go.Pw P
set_option maxRecDepth 10000
set_option maxHeartbeats 4000000
set_option linter.unusedSimpArgs false
set_option linter.unusedVariables false
attribute [-simp] List.getElem_cons_drop
variable {C : WProg}
end Go.D
end
section
set_option linter.unusedSimpArgs false
set_option linter.unusedVariables false
namespace Go.D
open Go Go.Pav Go.Pw P
set_option maxRecDepth 10000
set_option maxHeartbeats 4000000
set_option linter.unusedSimpArgs false
set_option linter.unusedVariables false
attribute [-simp] List.getElem_cons_drop
variable {C : WProg}
end Go.D
end
section
set_option linter.unusedSimpArgs false
set_option linter.unusedVariables false
namespace Go.D
open Go Go.Pav Go.Pw P
set_option maxRecDepth 10000
set_option maxHeartbeats 4000000
set_option linter.unusedSimpArgs false
set_option linter.unusedVariables false
attribute [-simp] List.getElem_cons_drop
variable {C : WProg}
end Go.D
end
section
set_option linter.unusedSimpArgs false
set_option linter.unusedVariables false
namespace Go.D
open Go Go.Pav Go.Pw P
set_option maxRecDepth 10000
set_option maxHeartbeats 4000000
set_option linter.unusedSimpArgs false
set_option linter.unusedVariables false
attribute [-simp] List.getElem_cons_drop
variable {C : WProg}
end Go.D
end
section
set_option linter.unusedSimpArgs false
set_option linter.unusedVariables false
namespace Go.D
open Go Go.Pav Go.Pw P
set_option maxRecDepth 10000
set_option maxHeartbeats 4000000
set_option linter.unusedSimpArgs false
set_option linter.unusedVariables false
attribute [-simp] List.getElem_cons_drop
variable {C : WProg}
end Go.D
end
section
set_option linter.unusedSimpArgs false
set_option linter.unusedVariables false
namespace Go.D
open Go Go.Pav Go.Pw P
set_option linter.unusedSimpArgs false
set_option linter.unusedVariables false
mutual
/-- A tree without what is known of its memory. -/
def Nd.z : Nd → Nd
 | ⟨k, t, y, a, ae, x, ch, ce⟩ => ⟨k, t, y, a, true, x, Nd.zs ch, true⟩
def Nd.zs : List Nd → List Nd
 | [] => []
 | n :: r => n.z :: Nd.zs r
end
end Go.D
end
section
set_option linter.unusedSimpArgs false
set_option linter.unusedVariables false
namespace Go.D
open Go Go.Pav Go.Pw P
set_option maxRecDepth 10000
set_option maxHeartbeats 4000000
set_option linter.unusedSimpArgs false
set_option linter.unusedVariables false
attribute [-simp] List.getElem_cons_drop
variable {C : WProg}
structure HasEq (C : WProg) : Prop extends HasS C where
 f415 : C.fns.get 415 = some w415
 f506 : C.fns.get 506 = some w506
 f552 : C.fns.get 552 = some w552
 f551 : C.fns.get 551 = some w551
 f413 : C.fns.get 413 = some w413
 f414 : C.fns.get 414 = some w414
 f258 : C.fns.get 258 = some w258
 f260 : C.fns.get 260 = some w260
 f127 : C.fns.get 127 = some w127
mutual
/-- Are two trees equal? -/
def eqN : Nd → Nd → Bool
 | ⟨k, t, y, a, _, x, ch, _⟩, ⟨k', t', y', a', _, x', ch', _⟩ => decide (k = k') && decide (t = t') && decide (y = y') && decide (x = x') && decide (a = a') && eqNs ch ch'
def eqNs : List Nd → List Nd → Bool
 | [], [] => true
 | n :: r, m :: s => eqN n m && eqNs r s
 | _, _ => false
end
theorem eqN_eq (n m : Nd) : eqN n m = (decide (n.k = m.k) && decide (n.t = m.t) && decide (n.y = m.y) && decide (n.x = m.x) && decide (n.a = m.a) && eqNs n.ch m.ch) := by
 cases n; cases m; rw [eqN]
theorem eqNs_len : ∀ (l r : List Nd), eqNs l r = true → l.length = r.length
 | [], [], _ => rfl
 | n :: l, m :: r, h => by
  rw [eqNs, Bool.and_eq_true] at h
  simp [eqNs_len l r h.2]
 | [], _ :: _, h => by simp [eqNs] at h
 | _ :: _, [], h => by simp [eqNs] at h
inductive NdIn : Nd → Prop
 | mk (n : Nd) (h1 : n.a.length ≤ 9223372036854775807) (h2 : n.ch.length ≤ 9223372036854775807) (h : ∀ m ∈ n.ch, NdIn m) : NdIn n
theorem st_ch (H : HasEq C) (a b : Nd) (hl : a.ch.length = b.ch.length) (h2 : a.ch.length ≤ 9223372036854775807)
 (ih : ∀ c ∈ a.ch, ∀ m : Nd, FnW C 415 [.agg c.c, .agg m.c] = some (.int .i64 (if eqN c m = true then 1 else 0))) : ∀ n i, n + i = a.ch.length →
 w415_K0 C ⟨[(6, .int .i64 i), (3, .ptr 0 0 0), (2, .ptr 1 0 0)], [(0, .cells 6 [b.c] true true), (1, .cells 6 [a.c] true true)], 2⟩ = some (.int .i64 (if eqNs (a.ch.drop i) (b.ch.drop i) = true then 1 else 0)) := by
 intro n
 induction n with
 | zero =>
  intro i hi
  have h3 : ¬ i < a.ch.length := by omega
  have e1 : a.ch.drop i = [] := List.drop_eq_nil_of_le (by omega)
  have e2 : b.ch.drop i = [] := List.drop_eq_nil_of_le (by omega)
  simp only [w415_K0]; rw [ck_unf w415_B0.eq_1]
  simp (disch := omega) [ck_unf w415_c0.eq_1, h3, e1, e2, eqNs]
 | succ n ihn =>
  intro i hi
  have h1 : i < a.ch.length := by omega
  have h1' : i < b.ch.length := by omega
  have this := ihn (i + 1) (by omega)
  have hs := ih a.ch[i] (List.getElem_mem h1) b.ch[i]
  rw [drop_cons h1, drop_cons h1', eqNs]
  cases c : eqN a.ch[i] b.ch[i]
  · rw [c] at hs
    simp at hs
    simp only [w415_K0]; rw [ck_unf w415_B0.eq_1]
    simp (disch := omega) [h1, h1', hs, wI64, H.inl, inlB, H.pp, ppB]
  · rw [c] at hs
    simp at hs
    rw [Bool.true_and]
    generalize (if eqNs (a.ch.drop (i + 1)) (b.ch.drop (i + 1)) = true then (1 : Int) else 0) = R at *
    simp only [w415_K0] at this ⊢; rw [ck_unf w415_B0.eq_1]
    simp at this
    simp (disch := omega) [h1, h1', hs, wI64, H.inl, inlB, H.pp, ppB, this]
theorem st_at (H : HasEq C) (a b : Nd) (hl : a.a.length = b.a.length) (h1 : a.a.length ≤ 9223372036854775807) (X : Int)
 (h0 : w415_K0 C ⟨[(6, .int .i64 0), (3, .ptr 0 0 0), (2, .ptr 1 0 0)], [(0, .cells 6 [b.c] true true), (1, .cells 6 [a.c] true true)], 2⟩ = some (.int .i64 X)) : ∀ n i, n + i = a.a.length →
 w415_K1 C ⟨[(5, .int .i64 i), (3, .ptr 0 0 0), (2, .ptr 1 0 0)], [(0, .cells 6 [b.c] true true), (1, .cells 6 [a.c] true true)], 2⟩ = some (.int .i64 (if a.a.drop i = b.a.drop i then X else 0)) := by
 intro n
 induction n with
 | zero =>
  intro i hi
  have h3 : ¬ i < a.a.length := by omega
  have e1 : a.a.drop i = [] := List.drop_eq_nil_of_le (by omega)
  have e2 : b.a.drop i = [] := List.drop_eq_nil_of_le (by omega)
  rw [e1, e2, if_pos rfl]
  simp only [w415_K0] at h0
  try simp at h0
  simp only [w415_K1]; rw [ck_unf w415_B1.eq_1]
  simp (disch := omega) [ck_unf w415_c1.eq_1, h3, h0]
 | succ n ihn =>
  intro i hi
  have hi1 : i < a.a.length := by omega
  have hi2 : i < b.a.length := by omega
  have this := ihn (i + 1) (by omega)
  rw [drop_cons hi1, drop_cons hi2]
  by_cases c1 : a.a[i].1 = b.a[i].1
  · by_cases c2 : a.a[i].2 = b.a[i].2
    · have c : a.a[i] = b.a[i] := Prod.ext c1 c2
      have hq : (if a.a[i] :: a.a.drop (i + 1) = b.a[i] :: b.a.drop (i + 1) then X else 0) = if a.a.drop (i + 1) = b.a.drop (i + 1) then X else 0 := by simp [c]
      rw [hq]
      generalize (if a.a.drop (i + 1) = b.a.drop (i + 1) then X else 0) = R at *
      simp only [w415_K1] at this ⊢; rw [ck_unf w415_B1.eq_1]
      simp at this
      simp (disch := omega) [hi1, hi2, eq_true c1, eq_true c2, wI64, H.inl, inlB, H.pp, ppB, this]
    · have hq : (if a.a[i] :: a.a.drop (i + 1) = b.a[i] :: b.a.drop (i + 1) then X else 0) = 0 := by
       rw [if_neg]; intro q; exact c2 (congrArg Prod.snd (List.cons.inj q).1)
      rw [hq]
      simp only [w415_K1]; rw [ck_unf w415_B1.eq_1]
      simp (disch := omega) [hi1, hi2, eq_true c1, c2, wI64, H.inl, inlB, H.pp, ppB]
  · have hq : (if a.a[i] :: a.a.drop (i + 1) = b.a[i] :: b.a.drop (i + 1) then X else 0) = 0 := by
     rw [if_neg]; intro q; exact c1 (congrArg Prod.fst (List.cons.inj q).1)
    rw [hq]
    simp only [w415_K1]; rw [ck_unf w415_B1.eq_1]
    simp (disch := omega) [hi1, hi2, c1, wI64, H.inl, inlB, H.pp, ppB]
theorem stree_ok (H : HasEq C) {a : Nd} (ha : NdIn a) : ∀ b : Nd, FnW C 415 [.agg a.c, .agg b.c] = some (.int .i64 (if eqN a b = true then 1 else 0)) := by
 induction ha with
 | mk a h1 h2 h ih =>
  intro b
  rw [fnW_eq H.f415 rfl, eqN_eq]
  by_cases c1 : a.k = b.k
  · by_cases c2 : a.t = b.t
    · by_cases c3 : a.y = b.y
      · by_cases c4 : a.x = b.x
        · by_cases c5 : a.a.length = b.a.length
          · by_cases c6 : a.ch.length = b.ch.length
            · have k0 := st_ch H a b c6 h2 ih a.ch.length 0 (by simp)
              rw [List.drop_zero, List.drop_zero] at k0
              have k1 := st_at H a b c5 h1 _ k0 a.a.length 0 (by simp)
              rw [List.drop_zero, List.drop_zero] at k1
              have hq : (if (decide (a.k = b.k) && decide (a.t = b.t) && decide (a.y = b.y) && decide (a.x = b.x) && decide (a.a = b.a) && eqNs a.ch b.ch) = true then (1 : Int) else 0) = if a.a = b.a then (if eqNs a.ch b.ch = true then 1 else 0) else 0 := by
               by_cases q : a.a = b.a <;> simp [c1, c2, c3, c4, q]
              rw [hq]
              generalize (if a.a = b.a then (if eqNs a.ch b.ch = true then (1 : Int) else 0) else 0) = R at *
              simp only [w415_K1] at k1
              simp at k1
              simp (disch := omega) [w415, eq_true c1, eq_true c2, eq_true c3, eq_true c4, c5, c6, k1]
            · have hq : eqNs a.ch b.ch = false := by
               cases q : eqNs a.ch b.ch
               · rfl
               · exact absurd (eqNs_len _ _ q) c6
              simp (disch := omega) [w415, eq_true c1, eq_true c2, eq_true c3, eq_true c4, c5, c6, hq]
          · have hq : ¬ a.a = b.a := fun q => c5 (by rw [q])
            simp (disch := omega) [w415, eq_true c1, eq_true c2, eq_true c3, eq_true c4, c5, hq]
        · simp (disch := omega) [w415, eq_true c1, eq_true c2, eq_true c3, c4]
      · simp (disch := omega) [w415, eq_true c1, eq_true c2, c3]
    · simp (disch := omega) [w415, eq_true c1, c2]
  · simp (disch := omega) [w415, c1]
end Go.D
end
