/- Part of the theory that the claims of this work use: PwP, PwLib, D01, PavLink, L24, D02, D03, D04, D05, D06, D07, D08, D09, D10, D11, D12, D13, D14, D15, D16, D17, D18. No conditions of its own. -/
import Derived.Test.YtpdccepmgkpkjaaGreatT4
import Derived.Laws.RangeAny
import Derived.Test.YtpdccepmgkpkjaaGreatChecked
import Derived.KernelRfl
import Derived.Sort.Walk0
set_option linter.unusedVariables false
set_option linter.unusedSimpArgs false
set_option maxHeartbeats 4000000
set_option maxRecDepth 10000
section
set_option maxRecDepth 100000
namespace P
open Go Go.Pav Go.Pw Go.Pw.Z Go.Pw.ZC
def w0:WFn:=⟨0,[],zd (O 0 [E .fail])⟩
def w596_c0:WCode:=zd (s (R 106 [h 3 3,ca 130 [106],d 105 (m 107),ex 0 105,ex 1 105,d 19 (E (.alloc [.ro 9 [] true,.int .i64 0])),d 20 (E (.alloc [.ro 6 [] true])),n (st 2 19 108),n (st 1 20 109)] ⟨true,[20,10,9,8,7],[(9999,65537)]⟩) (r (O 110 [f 0 8,l 1 110,f 0 20,l 1 112,ca 172 [111,113],eqi 114 1,m 115,y 116 (m 10),y 116 (nei 117 0),y 116 (m 118),z 119 (h 2 7),z 119 (m 9),z 119 (ca 235 [120,121]),z 119 (eqi 122 0),y 116 (po 119 123),pa 116 124,m 125,y 126 (ca 119 []),pa 126 127,d 6 (m 128)])))
def w596_c1:WCode:=zd (O 77 [m 17,adi 77 1,d 17 (m 78)])
def w596_c2:WCode:=zd (O 100 [f 0 11,l 1 100,m 17,ix 6 101 102,f 4 103,n (E (.store 1 (T 104) (N 0)))])
def w596_B1:WCode:=zd (s (s (R 79 [m 18,f 0 11,l 1 80,m 17,ix 6 81 82,f 0 83,f 3 84,l 1 85,ln 1 86,lt 79 87] ⟨true,[88,18,17,11,10,9,8,7,3],[(9999,65537)]⟩) (cc 88 (w .skip) (ee 2))) (s (B 3 (O 91 [f 0 11,l 1 91,m 17,ix 6 92 93,f 0 94,f 3 95,l 1 96,m 18,ix 1 97 98,n (E (.store 1 (T 99) (.c (.str [111,116,104,101,114]))))])) (O 89 [m 18,adi 89 1,d 18 (m 90)])))
def w596_L1:WCode:=.loop ⟨true,[18,17,11,10,9,8,7,3],[(9999,65537)]⟩ w596_B1
def w596_B0:WCode:=zd (s (s (O 72 [m 17,f 0 11,l 1 73,ln 1 74,lt 72 75]) (cc 76 (w .skip) (ee 0))) (s (bk 1 (s (s (O 18 [i 0]) (bk 2 w596_L1 ⟨true,[17,11,10,9,8,7,3],[(9999,65537)]⟩)) w596_c2) ⟨true,[17,11,10,9,8,7,3],[(9999,65537)]⟩) w596_c1))
def w596_L0:WCode:=.loop ⟨true,[17,11,10,9,8,7,3],[(9999,65537)]⟩ w596_B0
def w596:WFn:=⟨3,[.tmp 6],zd (s (O 6 [d 3 (bx 0),ff]) (s (s (R 21 [m 2,ca 234 [21],eqi 22 0] ⟨true,[23,3,2,1],[(9999,65537)]⟩) (c 23 (r (O 24 [ca 119 [],d 6 (m 24)])))) (s (O 26 [h 3 3,ca 130 [26],d 25 (m 27),ex 0 25,ex 1 25,d 7 (E (.alloc [.ro 9 [] true,.int .i64 0])),d 8 (E (.alloc [.ro 6 [] true])),n (st 2 7 28),n (st 1 8 29)]) (s (O 31 [h 2 7,f 0 8,l 1 32,m 1,m 2,ca 461 [31,33,34,35],d 30 (m 36),ex 0 30,ex 1 30,d 9 (m 37),d 10 (m 38)]) (s (R 40 [h 2 7,h 1 8,m 1,m 2,ca 5041 [40,41,42,43],d 39 (m 44),ex 0 39,ex 1 39,d 11 (E (.alloc [.ro 6 [] true])),n (st 1 11 45),d 12 (m 46)] ⟨true,[12,11,10,9,8,7,3,2],[(9999,65537)]⟩) (s (s (O 47 [h 1 11,m 12,m 9,m 10,ca 243 [47,48,49,50],eqi 51 0]) (c 52 (r (O 6 [ff])))) (s (O 54 [h 2 7,m 2,ca 463 [54,55],d 53 (m 56),ex 0 53,ex 1 53,d 13 (m 57),d 14 (m 58)]) (s (R 60 [h 2 7,h 1 8,m 2,ca 108 [60,61,62],d 59 (m 63),ex 0 59,ex 1 59,d 15 (E (.alloc [.ro 6 [] true])),n (st 1 15 64),d 16 (m 65)] ⟨true,[16,15,14,13,11,10,9,8,7,3],[(9999,65537)]⟩) (s (s (O 66 [h 1 15,m 16,m 13,m 14,ca 243 [66,67,68,69],eqi 70 0]) (c 71 (r (O 6 [ff])))) (s (s (O 17 [i 0]) (bk 0 w596_L0 ⟨true,[10,9,8,7,3],[(9999,65537)]⟩)) w596_c0))))))))))⟩
@[simp] theorem w596_E1:ZL w596_L1 w596_B1 ⟨true,[18,17,11,10,9,8,7,3],[(9999,65537)]⟩:=ck_lp rfl
@[simp] theorem w596_E0:ZL w596_L0 w596_B0 ⟨true,[17,11,10,9,8,7,3],[(9999,65537)]⟩:=ck_lp rfl
def w234_c0:WCode:=zd (r (O 2 [i 1]))
def w234_c1:WCode:=zd (O 12 [m 3,adi 12 1,d 3 (m 13)])
def w234_B1:WCode:=zd (s (s (Q 30 [m 4,m 0,m 3,ix 4 31 32,f 3 33,l 1 34,ln 1 35,lt 30 36] [37,4,3,0]) (cc 37 (w .skip) (ee 2))) (s (B 3 (s (O 40 [m 0,m 3,ix 4 40 41,f 3 42,l 1 43,m 4,ix 1 44 45,l 1 46,ln 0 47,gti 48 20]) (c 49 (r (O 2 [i 0]))))) (O 38 [m 4,adi 38 1,d 4 (m 39)])))
def w234_L1:WCode:=.loop ⟨true,[4,3,0],[]⟩ w234_B1
def w234_B0:WCode:=zd (s (s (O 8 [m 3,m 0,ln 1 9,lt 8 10]) (cc 11 (w .skip) (ee 0))) (s (bk 1 (s (s (O 14 [m 0,m 3,ix 4 14 15,f 2 16,l 1 17,ln 0 18,gti 19 70,m 20,z 21 (m 0),z 21 (m 3),z 21 (ix 4 22 23),z 21 (f 3 24),z 21 (l 1 25),z 21 (ln 1 26),z 21 (gti 27 12),po 21 28]) (c 29 (r (O 2 [i 0])))) (s (O 4 [i 0]) (bk 2 w234_L1 ⟨true,[3,0],[]⟩))) ⟨true,[3,0],[]⟩) w234_c1))
def w234_L0:WCode:=.loop ⟨true,[3,0],[]⟩ w234_B0
def w234:WFn:=⟨1,[.tmp 2],zd (s (O 2 [i 0]) (s (s (O 5 [m 0,ln 1 5,gti 6 20]) (c 7 (r (Q 2 [i 0] [2])))) (s (s (O 3 [i 0]) (bk 0 w234_L0 ⟨true,[],[]⟩)) w234_c0)))⟩
@[simp] theorem w234_E1:ZL w234_L1 w234_B1 ⟨true,[4,3,0],[]⟩:=ck_lp rfl
noncomputable abbrev w234_K1 (C:WProg) (s:WSt):Option AV:=CK C 0 (pureFin [.tmp 2]) [.sq w234_L1,.bk 2 ⟨true,[3,0],[]⟩,.bk 1 ⟨true,[3,0],[]⟩,.sq w234_c1,.sq w234_L0,.bk 0 ⟨true,[],[]⟩,.sq w234_c0] w234_B1 s
@[simp] theorem w234_E0:ZL w234_L0 w234_B0 ⟨true,[3,0],[]⟩:=ck_lp rfl
noncomputable abbrev w234_K0 (C:WProg) (s:WSt):Option AV:=CK C 0 (pureFin [.tmp 2]) [.sq w234_L0,.bk 0 ⟨true,[],[]⟩,.sq w234_c0] w234_B0 s
def w119:WFn:=⟨0,[.tmp 0],zd (s (O 0 [ff]) (s (O 21 [ca 107 [],d 1 (E (.alloc [.ro 9 [] true,.int .i64 0])),n (st 2 1 21)]) (s (U 23 [h 2 1,E (.build [.ro 6 [] true] []),ca 244 [],E (.call 109 [T 23,T 24,N 0,T 25]),d 22 (m 26),ex 0 22,ex 1 22,d 2 (E (.alloc [.ro 6 [] true])),n (st 1 2 27),d 3 (m 28)] [(0,2),(0,7),(2,7),(3,7)] [3,2,1]) (s (O 30 [h 2 1,h 1 2,E (.call 113 [T 30,T 31,.c (.int .u64 2),N 25]),d 29 (m 32),ex 0 29,ex 1 29,d 4 (E (.alloc [.ro 6 [] true])),n (st 1 4 33),d 5 (m 34)]) (s (V 36 [h 2 1,h 1 4,ca 244 [],E (.slice 4 (T 38) (some (N 1)) (some (N 2)) none),E (.call 114 [T 36,T 37,N 1,T 39]),d 35 (m 40),ex 0 35,ex 1 35,d 6 (E (.alloc [.ro 6 [] true])),n (st 1 6 41),d 7 (m 42)] [(0,2),(1,2),(0,8),(1,8),(2,8),(4,8)] ⟨false,[],[]⟩) (s (s (U 43 [m 3,nei 43 0,m 44,z 45 (m 5),z 45 (nei 46 0),po 45 47,m 48,z 49 (m 7),z 49 (nei 50 0),po 49 51,m 52,z 53 (h 1 2),z 53 (E (.buildS [.int .u64 0] 3 [(0,.c (.int .u64 1)),(1,.c (.int .u64 2)),(2,.c (.int .u64 3))])),z 53 (ca 245 [54,55]),z 53 (h 1 6),z 53 (E (.buildS [.int .u64 0] 3 [(0,.c (.int .u64 1)),(1,.c (.int .u64 2)),(2,.c (.int .u64 3))])),z 53 (ca 245 [57,58]),z 53 (E (.bin .mul (T 56) (T 59))),z 53 (eqi 60 0),po 53 61,m 62,z 63 (h 1 2),z 63 (ca 111 [64]),z 63 (nei 65 40),po 63 66,m 67,z 68 (h 1 4),z 68 (ca 111 [69]),z 68 (nei 70 45),po 68 71,m 72,z 73 (f 0 6),z 73 (l 1 74),z 73 (E (.idxs 6 (T 75) (N 1))),z 73 (f 4 76),z 73 (l 1 77),z 73 (nei 78 20),po 73 79,m 80,z 81 (f 0 6),z 81 (l 1 82),z 81 (E (.idxs 6 (T 83) (N 1))),z 81 (f 5 84),z 81 (l 1 85),po 81 86,m 87,z 88 (f 0 4),z 88 (l 1 89),z 88 (E (.idxs 6 (T 90) (N 1))),z 88 (f 5 91),z 88 (l 1 92),z 88 (nt 93),po 88 94] [(11,12),(12,14),(13,14),(11,15),(12,15),(13,15),(14,15)] [95,2,1]) (c 95 (r (O 0 [ff])))) (s (Q 97 [h 2 1,h 1 2,E (.call 237 [T 97,T 98,N 0,N 2,N 1]),d 96 (m 99),ex 0 96,ex 1 96,d 8 (E (.alloc [.ro 6 [] true])),n (st 1 8 100),d 3 (m 101)] [8,3,2,1]) (s (O 103 [h 2 1,h 1 2,E (.call 237 [T 103,T 104,N 1,N 1,N 0]),d 102 (m 105),ex 0 102,ex 1 102,d 9 (E (.alloc [.ro 6 [] true])),n (st 1 9 106),d 5 (m 107)]) (s (O 109 [h 2 1,h 1 2,E (.build [.int .u64 0,.int .u8 0,.str [],.ro 1 [] true] [(0,1,.c (.int .u64 3))]),E (.build [.int .u64 0,.int .u8 0,.str [],.ro 1 [] true] [(0,1,.c (.int .u64 1))]),E (.buildS [.int .u64 0,.int .u8 0,.str [],.ro 1 [] true] 2 [(0,T 111),(1,T 112)]),ca 108 [109,110,113],d 108 (m 114),ex 0 108,ex 1 108,d 10 (E (.alloc [.ro 6 [] true])),n (st 1 10 115),d 7 (m 116)]) (s (s (U 117 [m 3,nei 117 0,m 118,z 119 (m 5),z 119 (nei 120 0),po 119 121,m 122,z 123 (m 7),z 123 (nei 124 0),po 123 125,m 126,z 127 (h 1 8),z 127 (E (.buildS [.int .u64 0] 3 [(0,.c (.int .u64 3)),(1,.c (.int .u64 1)),(2,.c (.int .u64 2))])),z 127 (ca 245 [128,129]),z 127 (h 1 9),z 127 (E (.buildS [.int .u64 0] 3 [(0,.c (.int .u64 2)),(1,.c (.int .u64 1)),(2,.c (.int .u64 3))])),z 127 (ca 245 [131,132]),z 127 (E (.bin .mul (T 130) (T 133))),z 127 (h 1 10),z 127 (E (.buildS [.int .u64 0] 2 [(0,.c (.int .u64 3)),(1,.c (.int .u64 1))])),z 127 (ca 245 [135,136]),z 127 (E (.bin .mul (T 134) (T 137))),z 127 (eqi 138 0),po 127 139] [(11,12),(12,14),(13,14),(11,15),(12,15),(13,15),(14,15),(12,18),(13,18),(15,18),(16,18),(11,19),(12,19),(13,19),(14,19),(15,19),(16,19),(18,19)] [140,2,1]) (c 140 (r (O 0 [ff])))) (s (O 142 [h 2 1,h 1 2,E (.call 109 [T 142,T 143,N 4,.c (.ro 4 [] true)]),d 141 (m 144),ex 0 141,ex 1 141,d 3 (m 146)]) (s (V 148 [h 2 1,h 1 2,ca 244 [],E (.slice 4 (T 150) (some (N 1)) (some (N 2)) none),E (.call 109 [T 148,T 149,N 0,T 151]),d 147 (m 152),ex 0 147,ex 1 147,d 5 (m 154)] [(0,2),(1,2)] ⟨false,[],[]⟩) (s (Q 156 [h 2 1,h 1 2,E (.call 110 [T 156,T 157,N 2,N 2]),d 155 (m 158),ex 0 155,ex 1 155,d 7 (m 160)] [7,5,3,2,1]) (s (V 162 [h 2 1,h 1 2,ca 244 [],E (.slice 4 (T 164) (some (N 1)) (some (N 2)) none),E (.call 114 [T 162,T 163,N 0,T 165]),d 161 (m 166),ex 0 161,ex 1 161,d 11 (E (.alloc [.ro 6 [] true])),n (st 1 11 167),d 12 (m 168)] [(0,2),(1,2),(0,8),(1,8),(2,8),(4,8)] ⟨false,[],[]⟩) (s (O 170 [h 2 1,h 1 2,E (.call 113 [T 170,T 171,.c (.int .u64 9),N 1]),d 169 (m 172),ex 0 169,ex 1 169,d 13 (E (.alloc [.ro 6 [] true])),n (st 1 13 173),d 14 (m 174)]) (s (Q 176 [h 2 1,h 1 2,E (.call 113 [T 176,T 177,.c (.int .u64 1),N 0]),d 175 (m 178),ex 0 175,ex 1 175,d 15 (E (.alloc [.ro 6 [] true])),n (st 1 15 179),d 16 (m 180)] [16,14,12,7,5,3,2,1]) (s (O 182 [h 2 1,h 1 2,E (.call 113 [T 182,T 183,.c (.int .u64 1),N 2305843009213693952]),d 181 (m 184),ex 0 181,ex 1 181,d 17 (E (.alloc [.ro 6 [] true])),n (st 1 17 185),d 18 (m 186)]) (s (O 188 [h 2 1,h 1 17,E (.call 113 [T 188,T 189,.c (.int .u64 2),N 2305843009213693952]),d 187 (m 190),ex 0 187,ex 1 187,d 19 (E (.alloc [.ro 6 [] true])),n (st 1 19 191),d 20 (m 192)]) (r (Q 193 [m 3,eqi 193 4,m 194,y 195 (m 5),y 195 (eqi 196 8),pa 195 197,m 198,y 199 (m 7),y 199 (eqi 200 4),pa 199 201,m 202,y 203 (m 12),y 203 (eqi 204 9),pa 203 205,m 206,y 207 (m 14),y 207 (eqi 208 11),pa 207 209,m 210,y 211 (m 16),y 211 (eqi 212 12),pa 211 213,m 214,y 215 (m 18),y 215 (eqi 216 0),pa 215 217,m 218,y 219 (m 20),y 219 (eqi 220 13),pa 219 221,d 0 (m 222)] [0]))))))))))))))))))))⟩
def w130_c0:WCode:=zd (r (V 68 [h 2 4,h 1 6,n (st 2 2 68),n (st 1 3 69)] [(1,2)] ⟨false,[],[]⟩))
def w130_B0:WCode:=zd (s (s (O 17 [m 7,m 5,ln 1 18,lt 17 19]) (cc 20 (w .skip) (ee 0))) (s (B 1 (s (s (V 23 [h 2 4,m 5,m 7,ix 4 24 25,h 4 26,E (.call 271 [T 23,T 27,N 0]),gti 28 0] [] ⟨false,[],[]⟩) (c 29 (ee 1))) (s (U 30 [h 2 4,m 5,m 7,ix 4 31 32,h 4 33,ca 240 [30,34],d 8 (E (.alloc [.int .u64 0,.int .u8 0,.str [],.ro 1 [] true,.int .i64 0,.bool false])),n (st 6 8 35)] [(0,6),(4,6),(5,6)] [8,7,6,5,4,3,2,1]) (s (s (O 36 [f 0 6,l 1 36,ln 1 37,d 9 (m 38)]) (s (O 39 [m 9,f 1 1,l 1 40,ln 1 41,lt 39 42,m 43,y 44 (f 1 1),y 44 (l 1 45),y 44 (m 9),y 44 (ix 1 46 47),y 44 (l 1 48),y 44 (E (.bin .gtr (T 49) (.c (.int .u8 0)))),pa 44 50]) (c 51 (s (Q 52 [f 1 1,l 1 52,m 9,ix 1 53 54,l 1 55,E (.bin .rem (T 56) (.c (.int .u8 40))),E (.cvt .i64 (T 57)),E (.bin .add (N 1) (T 58)),f 4 8,n (st 1 60 59)] [8,7,6,5,4,3,2,1]) (O 61 [f 5 8,n (E (.store 1 (T 61) (.c (.bool true))))]))))) (O 62 [f 0 6,l 1 62,h 6 8,E (.buildS [.int .u64 0,.int .u8 0,.str [],.ro 1 [] true,.int .i64 0,.bool false] 1 [(0,T 64)]),E (.app [.int .u64 0,.int .u8 0,.str [],.ro 1 [] true,.int .i64 0,.bool false] 72 false (T 63) (T 65)),f 0 6,n (st 1 67 66)]))))) (O 21 [m 7,adi 21 1,d 7 (m 22)])))
def w130_L0:WCode:=.loop ⟨true,[7,6,5,4,3,2,1],[]⟩ w130_B0
def w130:WFn:=⟨1,[.cell 2 2 true,.cell 3 1 true],zd (s (Q 1 [bx 0,E (.alloc [.ro 9 [] true,.int .i64 0]),E (.alloc [.ro 6 [] true])] [3,2,1]) (s (O 10 [f 2 1,l 1 10,ca 126 [11],E (.build [.ro 9 [] true,.int .i64 0] [(0,1,T 12),(1,1,N 12)]),d 4 (E (.alloc [.ro 9 [] true,.int .i64 0])),n (st 2 4 13)]) (s (O 14 [f 0 1,h 1 14,ca 270 [15],d 5 (m 16)]) (s (O 6 [E (.alloc [.ro 6 [] true])]) (s (s (O 7 [i 0]) (bk 0 w130_L0 ⟨true,[6,4,3,2],[]⟩)) w130_c0)))))⟩
@[simp] theorem w130_E0:ZL w130_L0 w130_B0 ⟨true,[7,6,5,4,3,2,1],[]⟩:=ck_lp rfl
noncomputable abbrev w130_K0 (C:WProg) (s:WSt):Option AV:=CK C 0 (pureFin [.cell 2 2 true,.cell 3 1 true]) [.sq w130_L0,.bk 0 ⟨true,[6,4,3,2],[]⟩,.sq w130_c0] w130_B0 s
def w461_c0:WCode:=zd (s (s (O 71 [m 10,ca 407 [71],gti 72 0]) (c 73 (r (O 8 [E (.mv (.c (.ro 6 [] true))),i 13])))) (r (O 8 [d 74 (m 10),m 74,i 0])))
def w461_c1:WCode:=zd (O 40 [m 11,adi 40 1,d 11 (m 41)])
def w461_c2:WCode:=zd (s (O 60 [m 11,m 1,ln 1 61,lt 60 62]) (c 63 (O 64 [m 10,m 1,m 11,ix 6 65 66,h 6 67,E (.buildS [.int .u64 0,.int .u8 0,.str [],.ro 1 [] true,.int .i64 0,.bool false] 1 [(0,T 68)]),E (.app [.int .u64 0,.int .u8 0,.str [],.ro 1 [] true,.int .i64 0,.bool false] 72 false (T 64) (T 69)),d 10 (m 70)])))
def w461_B1:WCode:=zd (s (s (O 45 [m 12,m 3,ln 1 46,lt 45 47]) (cc 48 (w .skip) (ee 2))) (s (B 3 (V 51 [m 10,h 2 4,m 3,m 12,ix 4 53 54,h 4 55,ca 240 [52,56],E (.buildS [.int .u64 0,.int .u8 0,.str [],.ro 1 [] true,.int .i64 0,.bool false] 1 [(0,T 57)]),E (.app [.int .u64 0,.int .u8 0,.str [],.ro 1 [] true,.int .i64 0,.bool false] 72 false (T 51) (T 58)),d 10 (m 59)] [] ⟨false,[],[]⟩)) (Q 49 [m 12,adi 49 1,d 12 (m 50)] [12,11,10,4,3,2,1])))
def w461_L1:WCode:=.loop ⟨true,[12,11,10,4,3,2,1],[]⟩ w461_B1
def w461_B0:WCode:=zd (s (s (O 36 [m 11,m 1,ln 1 37,le 36 38]) (cc 39 (w .skip) (ee 0))) (s (bk 1 (s (s (O 42 [m 11,m 2,eq 42 43]) (c 44 (s (O 12 [i 0]) (bk 2 w461_L1 ⟨true,[11,10,4,3,2,1],[]⟩)))) w461_c2) ⟨true,[11,10,4,3,2,1],[]⟩) w461_c1))
def w461_L0:WCode:=.loop ⟨true,[11,10,4,3,2,1],[]⟩ w461_B0
def w461:WFn:=⟨4,[.tmp 8,.tmp 9],zd (s (O 8 [d 4 (bx 0),E (.mv (.c (.ro 6 [] true))),i 0]) (s (s (Q 13 [m 2,lti 13 0,m 14,z 15 (m 2),z 15 (m 1),z 15 (ln 1 17),z 15 (gt 16 18),po 15 19] [20,4,3,2,1]) (c 20 (r (O 8 [E (.mv (.c (.ro 6 [] true))),i 4])))) (s (s (O 21 [m 1,ln 1 21,m 3,ln 1 23,ad 22 24,gti 25 1024]) (c 26 (r (O 8 [E (.mv (.c (.ro 6 [] true))),i 3])))) (s (s (O 27 [h 2 4,m 1,m 3,ca 532 [27,28,29],gti 30 0]) (c 31 (r (O 32 [h 2 4,m 1,m 3,ca 532 [32,33,34],d 8 (E (.mv (.c (.ro 6 [] true)))),d 9 (m 35)])))) (s (R 10 [E (.mv (.c (.ro 6 [] true)))] ⟨true,[10,4,3,2,1],[(10,6)]⟩) (s (s (O 11 [i 0]) (bk 0 w461_L0 ⟨true,[10],[]⟩)) w461_c0))))))⟩
@[simp] theorem w461_E1:ZL w461_L1 w461_B1 ⟨true,[12,11,10,4,3,2,1],[]⟩:=ck_lp rfl
noncomputable abbrev w461_K1 (C:WProg) (s:WSt):Option AV:=CK C 0 (pureFin [.tmp 8,.tmp 9]) [.sq w461_L1,.bk 2 ⟨true,[11,10,4,3,2,1],[]⟩,.sq w461_c2,.bk 1 ⟨true,[11,10,4,3,2,1],[]⟩,.sq w461_c1,.sq w461_L0,.bk 0 ⟨true,[10],[]⟩,.sq w461_c0] w461_B1 s
@[simp] theorem w461_E0:ZL w461_L0 w461_B0 ⟨true,[11,10,4,3,2,1],[]⟩:=ck_lp rfl
noncomputable abbrev w461_K0 (C:WProg) (s:WSt):Option AV:=CK C 0 (pureFin [.tmp 8,.tmp 9]) [.sq w461_L0,.bk 0 ⟨true,[10],[]⟩,.sq w461_c0] w461_B0 s
def w109:WFn:=⟨4,[.cell 8 1 true,.tmp 9],zd (s (R 4 [bx 0,bx 1,bx 2,d 8 (E (.alloc [.ro 6 [] true])),d 9 (i 0)] ⟨true,[8,6,5,4,3],[(4,65536),(5,65536),(6,65536)]⟩) (r (U 10 [h 2 4,h 1 5,l 1 6,f 0 5,l 1 13,ln 1 14,E (.call 219 [T 12,N 0,T 15]),f 0 5,l 1 17,ln 1 18,m 3,ln 1 20,ad 19 21,m 3,f 0 5,l 1 24,ca 217 [25],E (.mkfn 220 [T 5,T 6]),E (.build [.bool false,.int .i64 0,.ro 4 [] true,.nilf,.nilf] [(0,1,T 16),(1,1,T 22),(2,1,T 23),(3,1,T 26),(4,1,T 27)]),ca 216 [10,11,28],ex 0 29,ex 1 29,n (st 1 8 30),d 9 (m 31)] [(0,6),(1,6),(6,8),(6,9),(6,11),(6,15),(0,16),(1,16),(8,16),(9,16),(11,16)] [9,8])))⟩
def w5041:WFn:=⟨4,[.cell 8 1 true,.tmp 9],zd (s (R 4 [bx 0,bx 1,bx 2,d 8 (E (.alloc [.ro 6 [] true])),d 9 (i 0)] ⟨true,[8,6,5,4,3],[(4,65536),(5,65536),(6,65536)]⟩) (r (V 10 [h 2 4,h 1 5,l 1 6,f 0 5,l 1 13,ln 1 14,E (.call 219 [T 12,N 0,T 15]),f 0 5,l 1 17,ln 1 18,m 3,ln 1 20,ad 19 21,m 3,f 0 5,l 1 24,ca 217 [25],E (.mkfn 220 [T 5,T 6]),E (.build [.bool false,.int .i64 0,.ro 4 [] true,.nilf,.nilf] [(0,1,T 16),(1,1,T 22),(2,1,T 23),(3,1,T 26),(4,1,T 27)]),ca 2042 [10,11,28],ex 0 29,ex 1 29,n (st 1 8 30),d 9 (m 31)] [(0,6),(1,6),(6,8),(6,9),(6,11),(6,15),(0,16),(1,16),(8,16),(9,16),(11,16)] ⟨true,[9,8],[(9999,65537)]⟩)))⟩
def w243:WFn:=⟨4,[.tmp 8],zd (s (O 8 [d 4 (bx 0),i 0]) (s (s (O 9 [m 1,m 3,ne 9 10,m 11,z 12 (f 0 4),z 12 (l 1 13),z 12 (E (.cap (T 14))),z 12 (f 0 4),z 12 (l 1 16),z 12 (ln 1 17),z 12 (ne 15 18),po 12 19]) (c 20 (r (O 8 [i 0])))) (r (O 21 [f 0 4,l 1 21,m 2,ca 172 [22,23],d 8 (m 24)]))))⟩
def w463:WFn:=⟨2,[.tmp 4,.tmp 5],zd (s (O 4 [d 2 (bx 0),E (.mv (.c (.ro 6 [] true))),i 0]) (r (O 6 [h 2 2,m 1,E (.call 461 [T 6,.c (.ro 6 [] true),N 0,T 7]),ex 0 8,ex 1 8,d 4 (m 9),d 5 (m 10)])))⟩
def w108:WFn:=⟨3,[.cell 6 1 true,.tmp 7],zd (s (R 6 [d 3 (bx 0),d 4 (bx 1),E (.alloc [.ro 6 [] true]),i 0] ⟨true,[6,4,3,2],[(3,65536),(4,65536)]⟩) (r (V 8 [h 2 3,h 1 4,m 2,ln 1 10,m 2,E (.call 217 [.c (.ro 6 [] true)]),E (.build [.bool false,.int .i64 0,.ro 4 [] true,.nilf,.nilf] [(0,1,.c (.bool true)),(1,1,T 11),(2,1,T 12),(3,1,T 13),(4,1,.c (.fn 218 []))]),ca 216 [8,9,14],ex 0 15,ex 1 15,n (st 1 6 16),d 7 (m 17)] [(0,5),(1,5),(3,5)] ⟨false,[],[]⟩)))⟩
def w172_c0:WCode:=zd (r (O 4 [i 1]))
def w172_B0:WCode:=zd (s (s (O 11 [m 5,m 0,ln 1 12,lt 11 13]) (cc 14 (w .skip) (ee 0))) (s (B 1 (s (U 17 [m 0,m 5,ix 6 17 18,f 4 19,l 1 20,m 1,m 5,ix 6 22 23,f 4 24,l 1 25,ne 21 26,m 27,z 28 (m 0),z 28 (m 5),z 28 (ix 6 29 30),z 28 (f 5 31),z 28 (l 1 32),z 28 (m 1),z 28 (m 5),z 28 (ix 6 34 35),z 28 (f 5 36),z 28 (l 1 37),z 28 (E (.eqv 5 [] true (T 33) (T 38))),po 28 39,m 40,z 41 (m 0),z 41 (m 5),z 41 (ix 6 42 43),z 41 (f 0 44),z 41 (h 4 45),z 41 (m 1),z 41 (m 5),z 41 (ix 6 47 48),z 41 (f 0 49),z 41 (h 4 50),z 41 (ca 112 [46,51]),z 41 (eqi 52 0),po 41 53] [] [54,5,1,0]) (c 54 (r (O 4 [i 0]))))) (O 15 [m 5,adi 15 1,d 5 (m 16)])))
def w172_L0:WCode:=.loop ⟨true,[5,1,0],[]⟩ w172_B0
def w172:WFn:=⟨2,[.tmp 4],zd (s (O 4 [i 0]) (s (s (O 6 [m 0,ln 1 6,m 1,ln 1 8,ne 7 9]) (c 10 (r (O 4 [i 0])))) (s (s (O 5 [i 0]) (bk 0 w172_L0 ⟨true,[],[]⟩)) w172_c0)))⟩
@[simp] theorem w172_E0:ZL w172_L0 w172_B0 ⟨true,[5,1,0],[]⟩:=ck_lp rfl
noncomputable abbrev w172_K0 (C:WProg) (s:WSt):Option AV:=CK C 0 (pureFin [.tmp 4]) [.sq w172_L0,.bk 0 ⟨true,[],[]⟩,.sq w172_c0] w172_B0 s
def w235_c0:WCode:=zd (r (O 82 [m 1,ca 407 [82],d 4 (m 83)]))
def w235_B0:WCode:=zd (s (s (O 13 [m 5,m 1,ln 1 14,lt 13 15]) (cc 16 (w .skip) (ee 0))) (s (B 1 (s (U 19 [h 2 2,m 1,m 5,ix 6 20 21,f 0 22,h 4 23,m 1,m 5,E (.slice 6 (T 25) none (some (T 26)) none),m 1,m 5,ix 6 28 29,f 0 30,f 0 31,l 1 32,ca 239 [27,33],gei 34 0,ca 406 [35],ca 271 [19,24,36],d 6 (m 37)] [(0,15),(5,15),(0,17),(5,17)] [6,5,2,1]) (s (s (O 38 [m 6,gti 38 0]) (c 39 (r (O 40 [m 6,d 4 (m 40)])))) (s (U 41 [m 1,m 5,ix 6 41 42,f 4 43,l 1 44,lti 45 1,m 46,z 47 (m 1),z 47 (m 5),z 47 (ix 6 48 49),z 47 (f 4 50),z 47 (l 1 51),z 47 (gti 52 2305843009213693952),po 47 53,m 54,z 55 (m 1),z 55 (m 5),z 55 (ix 6 56 57),z 55 (f 5 58),z 55 (l 1 59),z 55 (nt 60),z 55 (m 61),y 62 (m 1),y 62 (m 5),y 62 (ix 6 63 64),y 62 (f 4 65),y 62 (l 1 66),y 62 (f 0 2),y 62 (l 1 68),y 62 (m 1),y 62 (m 5),y 62 (ix 6 70 71),y 62 (f 0 72),y 62 (f 1 73),y 62 (l 1 74),y 62 (ix 9 69 75),y 62 (f 6 76),y 62 (l 1 77),y 62 (ne 67 78),z 55 (pa 62 79),po 55 80] [] [81,5,2,1]) (c 81 (r (O 4 [i 12]))))))) (O 17 [m 5,adi 17 1,d 5 (m 18)])))
def w235_L0:WCode:=.loop ⟨true,[5,2,1],[]⟩ w235_B0
def w235:WFn:=⟨2,[.tmp 4],zd (s (O 4 [d 2 (bx 0),i 0]) (s (s (O 7 [h 2 2,ca 236 [7],gti 8 0]) (c 9 (r (O 4 [i 7])))) (s (s (O 10 [m 1,ln 1 10,gti 11 1024]) (c 12 (r (O 4 [i 3])))) (s (s (O 5 [i 0]) (bk 0 w235_L0 ⟨true,[1],[]⟩)) w235_c0))))⟩
@[simp] theorem w235_E0:ZL w235_L0 w235_B0 ⟨true,[5,2,1],[]⟩:=ck_lp rfl
noncomputable abbrev w235_K0 (C:WProg) (s:WSt):Option AV:=CK C 0 (pureFin [.tmp 4]) [.sq w235_L0,.bk 0 ⟨true,[1],[]⟩,.sq w235_c0] w235_B0 s
def w107:WFn:=⟨0,[.cell 0 2 true],zd (s (O 0 [E (.alloc [.ro 9 [] true,.int .i64 0])]) (s (O 2 [E (.build [.int .u8 0,.str [],.str [],.ro 3 [] true,.str [],.ro 6 [] true] [(0,1,.c (.int .u8 1)),(1,1,.c (.str [114,111,119]))]),d 1 (E (.alloc [.int .u8 0,.str [],.str [],.ro 3 [] true,.str [],.ro 6 [] true])),n (st 6 1 2)]) (r (O 3 [h 6 1,E (.build [.int .u8 0,.str [],.str [],.ro 3 [] true,.str [],.ro 6 [] true,.int .i64 0,.bool false,.int .i64 0] [(0,6,T 3),(6,1,N 10)]),h 6 1,E (.build [.int .u8 0,.str [],.str [],.ro 3 [] true,.str [],.ro 6 [] true,.int .i64 0,.bool false,.int .i64 0] [(0,6,T 5),(6,1,N 20)]),E (.buildS [.int .u8 0,.str [],.str [],.ro 3 [] true,.str [],.ro 6 [] true,.int .i64 0,.bool false,.int .i64 0] 2 [(0,T 4),(1,T 6)]),E (.build [.ro 9 [] true,.int .i64 0] [(0,1,T 7),(1,1,N 1)]),n (st 2 0 8)]))))⟩
def w244:WFn:=⟨0,[.tmp 0],zd (s (O 0 [E (.mv (.c (.ro 4 [] true)))]) (r (O 1 [E (.build [.int .u64 0,.int .u8 0,.str [],.ro 1 [] true] [(0,1,.c (.int .u64 1))]),E (.build [.int .u64 0,.int .u8 0,.str [],.ro 1 [] true] [(0,1,.c (.int .u64 2)),(1,1,.c (.int .u8 1))]),E (.build [.int .u64 0,.int .u8 0,.str [],.ro 1 [] true] [(0,1,.c (.int .u64 3))]),E (.buildS [.int .u64 0,.int .u8 0,.str [],.ro 1 [] true] 3 [(0,T 1),(1,T 2),(2,T 3)]),d 0 (m 4)])))⟩
def w113:WFn:=⟨4,[.cell 8 1 true,.tmp 9],zd (s (O 8 [d 4 (bx 0),d 5 (bx 1),E (.alloc [.ro 6 [] true]),i 0]) (s (s (O 15 [h 2 4,h 1 5,ca 223 [15,16],d 10 (m 17)]) (s (O 18 [m 10,nei 18 0]) (c 19 (r (O 20 [E (.build [.ro 6 [] true] []),m 10,n (st 1 8 20),d 9 (m 21)]))))) (s (Q 23 [h 1 5,m 2,ca 224 [23,24],d 22 (m 25),ex 0 22,ex 1 22,d 11 (m 26),d 12 (m 27)] [12,11,8,5,3]) (s (B 0 (s (O 29 [m 12,nt 29,d 28 (m 30)]) (cc 28 (r (O 31 [E (.build [.ro 6 [] true] []),n (st 1 8 31),d 9 (i 11)])) (s (O 33 [m 3,ca 225 [33],nt 34,d 32 (m 35)]) (c 32 (r (O 36 [E (.build [.ro 6 [] true] []),n (st 1 8 36),d 9 (i 12)]))))))) (s (O 37 [f 0 5,l 1 37,ca 2001 [38],d 13 (E (.alloc [.ro 6 [] true])),n (st 1 13 39)]) (s (U 40 [f 0 13,l 1 40,m 11,f 0 13,l 1 43,m 11,m 3,ix 6 41 42,f 4 47,n (st 1 48 46),ix 6 44 45,f 5 49,n (E (.store 1 (T 50) (.c (.bool true))))] [(4,9)] [13,8]) (s (s (O 51 [h 1 13,ca 227 [51],d 14 (m 52)]) (s (O 53 [m 14,nei 53 0]) (c 54 (r (O 55 [E (.build [.ro 6 [] true] []),m 14,n (st 1 8 55),d 9 (m 56)]))))) (r (O 57 [h 1 13,n (st 1 8 57),d 9 (i 0)])))))))))⟩
def w114:WFn:=⟨4,[.cell 8 1 true,.tmp 9],zd (s (R 4 [bx 0,bx 1,bx 2,bx 3,E (.alloc [.ro 6 [] true]),i 0] ⟨true,[8,7,6,5,4],[(4,65536),(5,65536),(6,65536),(7,65536)]⟩) (s (O 11 [E (.mkfn 228 [T 5,T 6]),d 10 (m 11)]) (r (V 12 [h 2 4,h 1 5,l 1 6,l 1 7,ln 1 15,f 0 5,l 1 17,ln 1 18,ca 219 [14,16,19],l 1 7,m 10,E (.mkfn 229 [T 5,T 6,T 7]),E (.build [.bool false,.int .i64 0,.ro 4 [] true,.nilf,.nilf] [(0,1,T 20),(1,1,N 0),(2,1,T 21),(3,1,T 22),(4,1,T 23)]),ca 216 [12,13,24],ex 0 25,ex 1 25,n (st 1 8 26),d 9 (m 27)] [(0,8),(1,8),(8,9)] ⟨false,[],[]⟩))))⟩
def w245_c0:WCode:=zd (r (O 4 [i 1]))
def w245_B0:WCode:=zd (s (s (O 12 [m 5,m 1,ln 1 13,lt 12 14]) (cc 15 (w .skip) (ee 0))) (s (B 1 (s (V 18 [f 0 2,l 1 18,m 5,ix 6 19 20,f 0 21,f 0 22,l 1 23,m 1,m 5,ix 1 25 26,l 1 27,ne 24 28] [] ⟨false,[],[]⟩) (c 29 (r (O 4 [i 0]))))) (O 16 [m 5,adi 16 1,d 5 (m 17)])))
def w245_L0:WCode:=.loop ⟨true,[5,2,1],[]⟩ w245_B0
def w245:WFn:=⟨2,[.tmp 4],zd (s (O 4 [d 2 (bx 0),i 0]) (s (s (Q 6 [f 0 2,l 1 6,ln 1 7,m 1,ln 1 9,ne 8 10] [11,2,1]) (c 11 (r (O 4 [i 0])))) (s (s (O 5 [i 0]) (bk 0 w245_L0 ⟨true,[],[]⟩)) w245_c0)))⟩
@[simp] theorem w245_E0:ZL w245_L0 w245_B0 ⟨true,[5,2,1],[]⟩:=ck_lp rfl
def w111_c0:WCode:=zd (r (O 25 [m 3,d 2 (m 25)]))
def w111_B0:WCode:=zd (s (O 11 [lt 10 9]) (s (cc 11 (w .skip) (ee 0)) (s (B 1 (s (O 12 [ix 6 8 10,h 6 12,d 5 (E (.alloc [.int .u64 0,.int .u8 0,.str [],.ro 1 [] true,.int .i64 0,.bool false])),n (st 6 5 13)]) (s (O 14 [f 4 5,l 1 14,E (.mx (T 15) (N 0)),d 6 (m 16)]) (s (s (O 17 [m 6,m 3,E (.bin .sub (N 4611686018427387904) (T 18)),gt 17 19]) (c 20 (r (O 2 [i 4611686018427387905])))) (O 21 [m 3,m 6,ad 21 22,d 3 (m 23)]))))) (O 24 [adi 10 1,d 10 (m 24)]))))
def w111_L0:WCode:=.loop ⟨true,[10,9,8,3],[]⟩ w111_B0
def w111:WFn:=⟨1,[.tmp 2],zd (s (O 1 [bx 0,i 0]) (s (O 3 [i 0]) (s (s (Q 7 [f 0 1,l 1 7,ln 1 8,i 0] [10,9,8,3]) (bk 0 w111_L0 ⟨true,[3],[]⟩)) w111_c0)))⟩
@[simp] theorem w111_E0:ZL w111_L0 w111_B0 ⟨true,[10,9,8,3],[]⟩:=ck_lp rfl
noncomputable abbrev w111_K0 (C:WProg) (s:WSt):Option AV:=CK C 0 (pureFin [.tmp 2]) [.sq w111_L0,.bk 0 ⟨true,[3],[]⟩,.sq w111_c0] w111_B0 s
def w237:WFn:=⟨5,[.cell 10 1 true,.tmp 11],zd (s (R 5 [bx 0,bx 1,bx 2,bx 3,bx 4,E (.alloc [.ro 6 [] true]),i 0] ⟨true,[10,9,8,7,6,5],[(5,65536),(6,65536),(7,65536),(8,65536),(9,65536)]⟩) (s (Q 13 [l 1 7,l 1 8,f 0 6,l 1 15,ln 1 16,ca 219 [13,14,17],d 12 (m 18)] [12,10,9,8,7,6,5]) (r (V 19 [h 2 5,h 1 6,m 12,m 21,y 22 (l 1 9),y 22 (f 0 6),y 22 (l 1 24),y 22 (ln 1 25),y 22 (l 1 8),y 22 (sb 26 27),y 22 (E (.call 219 [T 23,N 0,T 28])),pa 22 29,E (.mkfn 409 [T 6,T 7,T 8,T 9]),E (.build [.bool false,.int .i64 0,.ro 4 [] true,.nilf,.nilf] [(0,1,T 30),(4,1,T 31)]),ca 216 [19,20,32],ex 0 33,ex 1 33,n (st 1 10 34),d 11 (m 35)] [(0,10),(1,10)] ⟨false,[],[]⟩))))⟩
def w110:WFn:=⟨4,[.cell 8 1 true,.tmp 9],zd (s (R 4 [bx 0,bx 1,bx 2,bx 3,E (.alloc [.ro 6 [] true]),i 0] ⟨true,[8,7,6,5,4],[(4,65536),(5,65536),(6,65536),(7,65536)]⟩) (r (V 10 [h 2 4,h 1 5,l 1 6,l 1 7,f 0 5,l 1 14,ln 1 15,ca 219 [12,13,16],E (.mkfn 222 [T 5,T 6,T 7]),E (.build [.bool false,.int .i64 0,.ro 4 [] true,.nilf,.nilf] [(0,1,T 17),(4,1,T 18)]),ca 216 [10,11,19],ex 0 20,ex 1 20,n (st 1 8 21),d 9 (m 22)] [(0,7),(1,7)] ⟨false,[],[]⟩)))⟩
def w126:WFn:=⟨1,[.tmp 2],zd (s (O 2 [E (.mv (.c (.ro 9 [] true)))]) (s (Q 6 [E (.build [.str [],.int .u8 0,.str []] [(0,1,.c (.str [110])),(1,1,.c (.int .u8 3))]),E (.build [.str [],.int .u8 0,.str []] [(0,1,.c (.str [116,101,120,116])),(1,1,.c (.int .u8 1))]),E (.buildS [.str [],.int .u8 0,.str []] 2 [(0,T 6),(1,T 7)]),E (.build [.int .u8 0,.str [],.str [],.ro 3 [] true,.str [],.ro 6 [] true] [(0,1,.c (.int .u8 3))]),E (.buildS [.int .u8 0,.str [],.str [],.ro 3 [] true,.str [],.ro 6 [] true] 1 [(0,T 9)]),E (.build [.int .u8 0,.str [],.str [],.ro 3 [] true,.str [],.ro 6 [] true] [(0,1,.c (.int .u8 1)),(1,1,.c (.str [114,111,119])),(3,1,T 8),(5,1,T 10)]),d 3 (E (.alloc [.int .u8 0,.str [],.str [],.ro 3 [] true,.str [],.ro 6 [] true])),n (st 6 3 11)] [3,0]) (s (O 12 [E (.build [.str [],.int .u8 0,.str []] [(0,1,.c (.str [105,100])),(1,1,.c (.int .u8 2))]),E (.buildS [.str [],.int .u8 0,.str []] 1 [(0,T 12)]),E (.build [.int .u8 0,.str [],.str [],.ro 3 [] true,.str [],.ro 6 [] true] [(0,1,.c (.int .u8 2)),(4,1,.c (.str [35]))]),E (.build [.int .u8 0,.str [],.str [],.ro 3 [] true,.str [],.ro 6 [] true] [(0,1,.c (.int .u8 4))]),E (.buildS [.int .u8 0,.str [],.str [],.ro 3 [] true,.str [],.ro 6 [] true] 2 [(0,T 14),(1,T 15)]),E (.build [.int .u8 0,.str [],.str [],.ro 3 [] true,.str [],.ro 6 [] true] [(0,1,.c (.int .u8 1)),(1,1,.c (.str [104,101,97,100])),(2,1,.c (.str [104])),(3,1,T 13),(5,1,T 16)]),d 4 (E (.alloc [.int .u8 0,.str [],.str [],.ro 3 [] true,.str [],.ro 6 [] true])),n (st 6 4 17)]) (s (O 18 [E (.build [.int .u8 0,.str [],.str [],.ro 3 [] true,.str [],.ro 6 [] true] [(0,1,.c (.int .u8 3))]),E (.buildS [.int .u8 0,.str [],.str [],.ro 3 [] true,.str [],.ro 6 [] true] 1 [(0,T 18)]),E (.build [.int .u8 0,.str [],.str [],.ro 3 [] true,.str [],.ro 6 [] true] [(0,1,.c (.int .u8 1)),(1,1,.c (.str [98])),(2,1,.c (.str [98,50])),(5,1,T 19)]),E (.build [.str [],.int .u8 0,.str []] [(0,1,.c (.str [111,102])),(1,1,.c (.int .u8 2))]),E (.buildS [.str [],.int .u8 0,.str []] 1 [(0,T 21)]),E (.build [.int .u8 0,.str [],.str [],.ro 3 [] true,.str [],.ro 6 [] true] [(0,1,.c (.int .u8 5)),(1,1,.c (.str [116,97,103])),(3,1,T 22)]),E (.buildS [.int .u8 0,.str [],.str [],.ro 3 [] true,.str [],.ro 6 [] true] 2 [(0,T 20),(1,T 23)]),E (.build [.int .u8 0,.str [],.str [],.ro 3 [] true,.str [],.ro 6 [] true] [(0,1,.c (.int .u8 1)),(1,1,.c (.str [114,111,119])),(5,1,T 24)]),d 5 (E (.alloc [.int .u8 0,.str [],.str [],.ro 3 [] true,.str [],.ro 6 [] true])),n (st 6 5 25)]) (r (Q 26 [h 6 3,m 0,E (.bin .rem (T 27) (.c (.int .u8 7))),E (.cvt .i64 (T 28)),E (.bin .add (N 10) (T 29)),m 0,E (.bin .rem (T 31) (.c (.int .u8 4))),E (.cvt .i64 (T 32)),E (.build [.int .u8 0,.str [],.str [],.ro 3 [] true,.str [],.ro 6 [] true,.int .i64 0,.bool false,.int .i64 0] [(0,6,T 26),(6,1,T 30),(8,1,T 33)]),h 6 4,m 0,E (.bin .rem (T 36) (.c (.int .u8 3))),E (.cvt .i64 (T 37)),E (.bin .add (N 6) (T 38)),m 0,E (.bin .quo (T 40) (.c (.int .u8 4))),E (.bin .rem (T 41) (.c (.int .u8 3))),E (.cvt .i64 (T 42)),E (.build [.int .u8 0,.str [],.str [],.ro 3 [] true,.str [],.ro 6 [] true,.int .i64 0,.bool false,.int .i64 0] [(0,6,T 35),(6,1,T 39),(7,1,.c (.bool true)),(8,1,T 43)]),h 6 5,m 0,E (.bin .rem (T 46) (.c (.int .u8 16))),E (.bin .eql (T 47) (.c (.int .u8 15))),m 0,E (.bin .quo (T 49) (.c (.int .u8 8))),E (.bin .rem (T 50) (.c (.int .u8 3))),E (.cvt .i64 (T 51)),E (.build [.int .u8 0,.str [],.str [],.ro 3 [] true,.str [],.ro 6 [] true,.int .i64 0,.bool false,.int .i64 0] [(0,6,T 45),(6,1,N 20),(7,1,T 48),(8,1,T 52)]),E (.buildS [.int .u8 0,.str [],.str [],.ro 3 [] true,.str [],.ro 6 [] true,.int .i64 0,.bool false,.int .i64 0] 3 [(0,T 34),(1,T 44),(2,T 53)]),d 2 (m 54)] [2]))))))⟩
def w270_c0:WCode:=zd (r (O 32 [m 3,d 2 (m 32)]))
def w270_B0:WCode:=zd (s (s (Q 6 [m 4,f 0 1,l 1 7,ln 1 8,lt 6 9,m 10,y 11 (m 4),y 11 (lti 12 12),pa 11 13] [14,4,3,1]) (cc 14 (w .skip) (ee 0))) (s (B 1 (s (O 17 [f 0 1,l 1 17,m 4,ix 4 18 19,h 4 20,ca 422 [21],d 5 (E (.alloc [.int .u64 0,.int .u8 0,.str [],.ro 1 [] true])),n (st 4 5 22)]) (s (O 23 [m 3,f 0 5,l 1 24,ca 423 [23,25],lti 26 0]) (c 27 (O 28 [m 3,h 4 5,E (.buildS [.int .u64 0,.int .u8 0,.str [],.ro 1 [] true] 1 [(0,T 29)]),E (.app [.int .u64 0,.int .u8 0,.str [],.ro 1 [] true] 56 false (T 28) (T 30)),d 3 (m 31)]))))) (O 15 [m 4,adi 15 1,d 4 (m 16)])))
def w270_L0:WCode:=.loop ⟨true,[4,3,1],[]⟩ w270_B0
def w270:WFn:=⟨1,[.tmp 2],zd (s (O 1 [bx 0,E (.mv (.c (.ro 4 [] true)))]) (s (R 3 [E (.mv (.c (.ro 4 [] true)))] ⟨true,[3,1],[(3,4)]⟩) (s (s (O 4 [i 0]) (bk 0 w270_L0 ⟨true,[3],[]⟩)) w270_c0)))⟩
@[simp] theorem w270_E0:ZL w270_L0 w270_B0 ⟨true,[4,3,1],[]⟩:=ck_lp rfl
noncomputable abbrev w270_K0 (C:WProg) (s:WSt):Option AV:=CK C 0 (pureFin [.tmp 2]) [.sq w270_L0,.bk 0 ⟨true,[3],[]⟩,.sq w270_c0] w270_B0 s
def w271:WFn:=⟨3,[.tmp 6],zd (s (O 3 [bx 0,bx 1,d 6 (i 0)]) (s (s (O 9 [h 4 4,f 0 3,l 1 10,ln 1 11,ca 424 [9,12],gti 13 0]) (c 14 (r (O 6 [i 6])))) (s (s (Q 15 [m 2,eqi 15 1] [16,4,3]) (c 16 (r (O 6 [i 8])))) (s (V 18 [f 0 3,l 1 18,f 1 4,l 1 20,ix 9 19 21,f 0 22,h 6 23,h 4 4,f 1 3,l 1 26,ca 425 [24,25,27],d 17 (m 28),ex 0 17,ex 1 17,d 7 (E (.alloc [.int .u8 0,.str [],.str [],.ro 2 [] true,.str [],.ro 6 [] true])),n (st 6 7 29),d 8 (m 30)] [(1,14),(3,14),(6,14),(7,14),(9,14),(10,14)] ⟨false,[],[]⟩) (s (s (O 31 [m 8,gti 31 0]) (c 32 (r (O 6 [i 14])))) (r (O 6 [i 0])))))))⟩
def w240:WFn:=⟨2,[.cell 4 6 true],zd (s (O 2 [bx 0,bx 1,E (.alloc [.int .u64 0,.int .u8 0,.str [],.ro 1 [] true,.int .i64 0,.bool false])]) (r (V 5 [h 4 3,f 0 2,l 1 6,f 1 3,l 1 8,ix 9 7 9,f 6 10,l 1 11,E (.build [.int .u64 0,.int .u8 0,.str [],.ro 1 [] true,.int .i64 0,.bool false] [(0,4,T 5),(4,1,T 12)]),n (st 6 4 13)] [] ⟨false,[],[]⟩)))⟩
def w532_c0:WCode:=zd (r (O 6 [i 0]))
def w532_B0:WCode:=zd (s (s (O 9 [m 7,m 2,ln 1 10,lt 9 11]) (cc 12 (w .skip) (ee 0))) (s (B 1 (s (U 15 [m 1,m 2,m 7,ix 4 16 17,f 0 18,l 1 19,ca 239 [15,20],gei 21 0,m 22,z 23 (m 2),z 23 (m 7),z 23 (E (.slice 4 (T 24) none (some (T 25)) none)),z 23 (m 2),z 23 (m 7),z 23 (ix 4 27 28),z 23 (f 0 29),z 23 (l 1 30),z 23 (ca 423 [26,31]),z 23 (gei 32 0),po 23 33,ca 406 [34],d 8 (m 35)] [] [8,7,3,2,1]) (s (V 36 [h 2 3,m 2,m 7,ix 4 37 38,h 4 39,m 8,ca 271 [36,40,41],gti 42 0] [] ⟨false,[],[]⟩) (c 43 (r (V 44 [h 2 3,m 2,m 7,ix 4 45 46,h 4 47,m 8,ca 271 [44,48,49],d 6 (m 50)] [] ⟨false,[],[]⟩)))))) (O 13 [m 7,adi 13 1,d 7 (m 14)])))
def w532_L0:WCode:=.loop ⟨true,[7,3,2,1],[]⟩ w532_B0
def w532:WFn:=⟨3,[.tmp 6],zd (s (O 6 [d 3 (bx 0),i 0]) (s (s (O 7 [i 0]) (bk 0 w532_L0 ⟨true,[],[]⟩)) w532_c0))⟩
@[simp] theorem w532_E0:ZL w532_L0 w532_B0 ⟨true,[7,3,2,1],[]⟩:=ck_lp rfl
noncomputable abbrev w532_K0 (C:WProg) (s:WSt):Option AV:=CK C 0 (pureFin [.tmp 6]) [.sq w532_L0,.bk 0 ⟨true,[],[]⟩,.sq w532_c0] w532_B0 s
def w407:WFn:=⟨1,[.tmp 2],zd (s (O 2 [i 0]) (s (s (O 3 [m 0,ca 504 [3],gti 4 4611686018427387904]) (c 5 (r (O 2 [i 13])))) (r (O 2 [i 0]))))⟩
def w216_c0:WCode:=zd (s (V 64 [f 4 5,l 1 64,h 2 3,f 2 5,l 1 67,ca 400 [66,68],E (.callv (T 65) [T 69]),ca 226 [70],d 12 (E (.alloc [.ro 6 [] true])),n (st 1 12 71)] [(1,5),(1,8),(2,8),(4,8),(5,8),(6,8),(7,8)] ⟨false,[],[]⟩) (s (s (O 72 [h 1 12,ca 227 [72],d 13 (m 73)]) (s (O 74 [m 13,nei 74 0]) (c 75 (r (O 76 [E (.build [.ro 6 [] true] []),m 13,n (st 1 6 76),d 7 (m 77)]))))) (r (O 78 [h 1 12,n (st 1 6 78),d 7 (i 0)]))))
def w216_B0:WCode:=zd (s (O 35 [lt 34 33]) (s (cc 35 (w .skip) (ee 1)) (s (B 2 (s (O 36 [m 34,ix 4 32 34,h 4 37,d 10 (E (.alloc [.int .u64 0,.int .u8 0,.str [],.ro 1 [] true])),d 9 (m 36),n (st 4 10 38)]) (s (Q 39 [h 4 10,f 0 3,l 1 40,ln 1 41,ca 398 [39,42],d 11 (m 43)] [34,33,32,11,10,9,6,5,3]) (s (s (O 44 [m 11,eqi 44 0]) (c 45 (O 46 [f 3 5,l 1 46,m 9,h 4 10,E (.callv (T 47) [T 48,T 49]),d 11 (m 50)]))) (s (s (O 51 [m 11,eqi 51 0]) (c 52 (O 54 [h 2 3,h 4 10,ca 399 [54,55],d 53 (m 56),ex 0 53,ex 1 53,d 11 (m 58)]))) (s (O 59 [m 11,nei 59 0]) (c 60 (r (O 61 [E (.build [.ro 6 [] true] []),m 11,n (st 1 6 61),d 7 (m 62)]))))))))) (Q 63 [adi 34 1,d 34 (m 63)] [34,33,32,6,5,3]))))
def w216_L0:WCode:=.loop ⟨true,[34,33,32,6,5,3],[]⟩ w216_B0
def w216:WFn:=⟨3,[.cell 6 1 true,.tmp 7],zd (s (O 3 [bx 0,bx 1,bx 2,E (.alloc [.ro 6 [] true]),i 0]) (s (s (O 14 [h 2 3,h 1 4,ca 223 [14,15],d 8 (m 16)]) (s (O 17 [m 8,nei 17 0]) (c 18 (r (O 19 [E (.build [.ro 6 [] true] []),m 8,n (st 1 6 19),d 7 (m 20)]))))) (s (B 0 (s (Q 22 [f 0 5,l 1 22,nt 23,d 21 (m 24)] [21,6,5,3]) (cc 21 (r (O 25 [E (.build [.ro 6 [] true] []),n (st 1 6 25),d 7 (i 4)])) (s (O 27 [f 1 5,l 1 27,gti 28 1024,d 26 (m 29)]) (c 26 (r (O 30 [E (.build [.ro 6 [] true] []),n (st 1 6 30),d 7 (i 3)]))))))) (s (s (O 31 [f 2 5,l 1 31,ln 1 32,i 0]) (bk 1 w216_L0 ⟨true,[6,5,3],[]⟩)) w216_c0))))⟩
@[simp] theorem w216_E0:ZL w216_L0 w216_B0 ⟨true,[34,33,32,6,5,3],[]⟩:=ck_lp rfl
def w2042_c0:WCode:=zd (s (V 64 [f 4 5,l 1 64,h 2 3,f 2 5,l 1 67,ca 400 [66,68],E (.callv (T 65) [T 69]),ca 5043 [70],d 12 (E (.alloc [.ro 6 [] true])),n (st 1 12 71)] [(1,5),(1,8),(2,8),(4,8),(5,8),(6,8),(7,8)] ⟨false,[],[]⟩) (s (s (O 72 [h 1 12,ca 227 [72],d 13 (m 73)]) (s (O 74 [m 13,nei 74 0]) (c 75 (r (O 76 [E (.build [.ro 6 [] true] []),m 13,n (st 1 6 76),d 7 (m 77)]))))) (r (O 78 [h 1 12,n (st 1 6 78),d 7 (i 0)]))))
def w2042_B0:WCode:=zd (s (O 35 [lt 34 33]) (s (cc 35 (w .skip) (ee 1)) (s (B 2 (s (O 36 [m 34,ix 4 32 34,h 4 37,d 10 (E (.alloc [.int .u64 0,.int .u8 0,.str [],.ro 1 [] true])),d 9 (m 36),n (st 4 10 38)]) (s (Q 39 [h 4 10,f 0 3,l 1 40,ln 1 41,ca 398 [39,42],d 11 (m 43)] [34,33,32,11,10,9,6,5,3]) (s (s (O 44 [m 11,eqi 44 0]) (c 45 (O 46 [f 3 5,l 1 46,m 9,h 4 10,E (.callv (T 47) [T 48,T 49]),d 11 (m 50)]))) (s (s (O 51 [m 11,eqi 51 0]) (c 52 (O 54 [h 2 3,h 4 10,ca 399 [54,55],d 53 (m 56),ex 0 53,ex 1 53,d 11 (m 58)]))) (s (O 59 [m 11,nei 59 0]) (c 60 (r (O 61 [E (.build [.ro 6 [] true] []),m 11,n (st 1 6 61),d 7 (m 62)]))))))))) (Q 63 [adi 34 1,d 34 (m 63)] [34,33,32,6,5,3]))))
def w2042_L0:WCode:=.loop ⟨true,[34,33,32,6,5,3],[]⟩ w2042_B0
def w2042:WFn:=⟨3,[.cell 6 1 true,.tmp 7],zd (s (O 3 [bx 0,bx 1,bx 2,E (.alloc [.ro 6 [] true]),i 0]) (s (s (O 14 [h 2 3,h 1 4,ca 223 [14,15],d 8 (m 16)]) (s (O 17 [m 8,nei 17 0]) (c 18 (r (O 19 [E (.build [.ro 6 [] true] []),m 8,n (st 1 6 19),d 7 (m 20)]))))) (s (B 0 (s (Q 22 [f 0 5,l 1 22,nt 23,d 21 (m 24)] [21,6,5,3]) (cc 21 (r (O 25 [E (.build [.ro 6 [] true] []),n (st 1 6 25),d 7 (i 4)])) (s (O 27 [f 1 5,l 1 27,gti 28 1024,d 26 (m 29)]) (c 26 (r (O 30 [E (.build [.ro 6 [] true] []),n (st 1 6 30),d 7 (i 3)]))))))) (s (s (O 31 [f 2 5,l 1 31,ln 1 32,i 0]) (bk 1 w2042_L0 ⟨true,[6,5,3],[]⟩)) w2042_c0))))⟩
@[simp] theorem w2042_E0:ZL w2042_L0 w2042_B0 ⟨true,[34,33,32,6,5,3],[]⟩:=ck_lp rfl
def w219:WFn:=⟨3,[.tmp 6],zd (s (O 6 [ff]) (r (O 7 [m 0,gei 7 0,m 8,y 9 (m 0),y 9 (m 2),y 9 (le 10 11),pa 9 12,m 13,y 14 (m 1),y 14 (gei 15 0),pa 14 16,m 17,y 18 (m 1),y 18 (m 2),y 18 (m 0),y 18 (sb 20 21),y 18 (le 19 22),pa 18 23,d 6 (m 24)])))⟩
def w217_c0:WCode:=zd (r (O 18 [E (.mkfn 401 [T 3]),d 2 (m 18)]))
def w217_B0:WCode:=zd (s (O 10 [lt 9 8]) (s (cc 10 (w .skip) (ee 0)) (s (B 1 (s (O 11 [ix 6 7 9,h 6 11,d 5 (E (.alloc [.int .u64 0,.int .u8 0,.str [],.ro 1 [] true,.int .i64 0,.bool false])),n (st 6 5 12)]) (O 13 [l 1 3,f 0 5,f 0 14,l 1 15,n (E (.upd 0 (T 13) (T 16) (.c (.bool true))))]))) (O 17 [adi 9 1,d 9 (m 17)]))))
def w217_L0:WCode:=.loop ⟨true,[9,8,7,3],[]⟩ w217_B0
def w217:WFn:=⟨1,[.tmp 2],zd (s (O 2 [E (.mv (.c .nilf))]) (s (O 6 [E .mkmap,d 3 (E (.alloc [.nilm])),n (st 1 3 6)]) (s (s (O 7 [m 0,ln 1 7,i 0]) (bk 0 w217_L0 ⟨true,[3],[]⟩)) w217_c0)))⟩
@[simp] theorem w217_E0:ZL w217_L0 w217_B0 ⟨true,[9,8,7,3],[]⟩:=ck_lp rfl
def w220:WFn:=⟨3,[.tmp 4],zd (s (O 4 [E (.mv (.c (.ro 6 [] true)))]) (r (O 5 [f 0 1,l 1 5,l 1 2,m 0,E (.call 221 [T 6,T 7,N 0,T 8]),d 4 (m 9)])))⟩
def w221:WFn:=⟨4,[.tmp 8],zd (s (O 8 [E (.mv (.c (.ro 6 [] true)))]) (s (Q 10 [m 0,ln 1 10,m 2,sb 11 12,m 3,ln 1 14,ad 13 15,E (.mksl [.int .u64 0,.int .u8 0,.str [],.ro 1 [] true,.int .i64 0,.bool false] 72 (N 0) (T 16)),d 9 (m 17)] [9,3,2,1,0]) (s (O 18 [m 9,m 0,m 1,E (.slice 6 (T 19) none (some (T 20)) none),E (.app [.int .u64 0,.int .u8 0,.str [],.ro 1 [] true,.int .i64 0,.bool false] 72 false (T 18) (T 21)),d 9 (m 22)]) (s (O 23 [m 9,m 3,E (.app [.int .u64 0,.int .u8 0,.str [],.ro 1 [] true,.int .i64 0,.bool false] 72 false (T 23) (T 24)),d 9 (m 25)]) (r (O 26 [m 9,m 0,m 1,m 2,ad 28 29,E (.slice 6 (T 27) (some (T 30)) none none),E (.app [.int .u64 0,.int .u8 0,.str [],.ro 1 [] true,.int .i64 0,.bool false] 72 false (T 26) (T 31)),d 8 (m 32)]))))))⟩
def w218:WFn:=⟨1,[.tmp 2],zd (s (O 2 [E (.mv (.c (.ro 6 [] true)))]) (r (O 3 [m 0,d 2 (m 3)])))⟩
def w112_c0:WCode:=zd (r (O 4 [i 1]))
def w112_B0:WCode:=zd (s (s (O 34 [m 5,f 3 2,l 1 35,ln 1 36,lt 34 37]) (cc 38 (w .skip) (ee 0))) (s (B 1 (s (V 41 [f 3 2,l 1 41,m 5,ix 1 42 43,l 1 44,f 3 3,l 1 46,m 5,ix 1 47 48,l 1 49,ne 45 50] [] ⟨false,[],[]⟩) (c 51 (r (O 4 [i 0]))))) (O 39 [m 5,adi 39 1,d 5 (m 40)])))
def w112_L0:WCode:=.loop ⟨true,[5,3,2],[]⟩ w112_B0
def w112:WFn:=⟨2,[.tmp 4],zd (s (O 2 [bx 0,bx 1,i 0]) (s (s (Q 6 [f 0 2,l 1 6,f 0 3,l 1 8,ne 7 9,m 10,z 11 (f 1 2),z 11 (l 1 12),z 11 (f 1 3),z 11 (l 1 14),z 11 (ne 13 15),po 11 16,m 17,z 18 (f 2 2),z 18 (l 1 19),z 18 (f 2 3),z 18 (l 1 21),z 18 (ne 20 22),po 18 23,m 24,z 25 (f 3 2),z 25 (l 1 26),z 25 (ln 1 27),z 25 (f 3 3),z 25 (l 1 29),z 25 (ln 1 30),z 25 (ne 28 31),po 25 32] [33,3,2]) (c 33 (r (O 4 [i 0])))) (s (s (O 5 [i 0]) (bk 0 w112_L0 ⟨true,[],[]⟩)) w112_c0)))⟩
@[simp] theorem w112_E0:ZL w112_L0 w112_B0 ⟨true,[5,3,2],[]⟩:=ck_lp rfl
noncomputable abbrev w112_K0 (C:WProg) (s:WSt):Option AV:=CK C 0 (pureFin [.tmp 4]) [.sq w112_L0,.bk 0 ⟨true,[],[]⟩,.sq w112_c0] w112_B0 s
def w236_c0:WCode:=zd (r (O 2 [i 0]))
def w236_B0:WCode:=zd (s (s (O 24 [m 3,f 0 1,l 1 25,ln 1 26,lt 24 27]) (cc 28 (w .skip) (ee 0))) (s (B 1 (s (Q 31 [f 0 1,l 1 31,m 3,ix 9 32 33,f 6 34,l 1 35,lti 36 1,m 37,z 38 (f 0 1),z 38 (l 1 39),z 38 (m 3),z 38 (ix 9 40 41),z 38 (f 6 42),z 38 (l 1 43),z 38 (gti 44 2305843009213693952),po 38 45,m 46,z 47 (f 0 1),z 47 (l 1 48),z 47 (m 3),z 47 (ix 9 49 50),z 47 (f 0 51),z 47 (h 6 52),z 47 (ca 408 [53]),z 47 (gti 54 0),po 47 55] [56,3,1]) (c 56 (r (O 2 [i 7]))))) (O 29 [m 3,adi 29 1,d 3 (m 30)])))
def w236_L0:WCode:=.loop ⟨true,[3,1],[]⟩ w236_B0
def w236:WFn:=⟨1,[.tmp 2],zd (s (O 1 [bx 0,i 0]) (s (s (Q 4 [f 0 1,l 1 4,ln 1 5,eqi 6 0,m 7,z 8 (f 0 1),z 8 (l 1 9),z 8 (ln 1 10),z 8 (gti 11 8),po 8 12,m 13,z 14 (f 1 1),z 14 (l 1 15),z 14 (lti 16 1),po 14 17,m 18,z 19 (f 1 1),z 19 (l 1 20),z 19 (gti 21 64),po 19 22] [23,1]) (c 23 (r (O 2 [i 7])))) (s (s (O 3 [i 0]) (bk 0 w236_L0 ⟨true,[],[]⟩)) w236_c0)))⟩
@[simp] theorem w236_E0:ZL w236_L0 w236_B0 ⟨true,[3,1],[]⟩:=ck_lp rfl
noncomputable abbrev w236_K0 (C:WProg) (s:WSt):Option AV:=CK C 0 (pureFin [.tmp 2]) [.sq w236_L0,.bk 0 ⟨true,[],[]⟩,.sq w236_c0] w236_B0 s
def w406:WFn:=⟨1,[.tmp 2],zd (s (O 2 [i 0]) (s (s (O 3 [m 0]) (c 3 (r (O 2 [i 1])))) (r (O 2 [i 0]))))⟩
def w239_c0:WCode:=zd (r (O 4 [i (-1)]))
def w239_B0:WCode:=zd (s (s (O 6 [m 5,m 0,ln 1 7,lt 6 8]) (cc 9 (w .skip) (ee 0))) (s (B 1 (s (O 12 [m 0,m 5,ix 6 12 13,f 0 14,f 0 15,l 1 16,m 1,eq 17 18]) (c 19 (r (O 20 [m 5,d 4 (m 20)]))))) (O 10 [m 5,adi 10 1,d 5 (m 11)])))
def w239_L0:WCode:=.loop ⟨true,[5,1,0],[]⟩ w239_B0
def w239:WFn:=⟨2,[.tmp 4],zd (s (O 4 [i 0]) (s (s (O 5 [i 0]) (bk 0 w239_L0 ⟨true,[],[]⟩)) w239_c0))⟩
@[simp] theorem w239_E0:ZL w239_L0 w239_B0 ⟨true,[5,1,0],[]⟩:=ck_lp rfl
noncomputable abbrev w239_K0 (C:WProg) (s:WSt):Option AV:=CK C 0 (pureFin [.tmp 4]) [.sq w239_L0,.bk 0 ⟨true,[],[]⟩,.sq w239_c0] w239_B0 s
def w223_c0:WCode:=zd (r (O 79 [h 1 3,ca 227 [79],d 4 (m 80)]))
def w223_B0:WCode:=zd (s (O 26 [lt 25 24]) (s (cc 26 (w .skip) (ee 0)) (s (B 1 (s (O 27 [ix 6 23 25,h 6 27,d 8 (E (.alloc [.int .u64 0,.int .u8 0,.str [],.ro 1 [] true,.int .i64 0,.bool false])),n (st 6 8 28)]) (s (s (O 29 [f 0 8,h 4 29,f 0 2,l 1 31,ln 1 32,ca 398 [30,33],d 9 (m 34)]) (s (O 35 [m 9,nei 35 0]) (c 36 (r (O 37 [m 9,d 4 (m 37)]))))) (s (s (Q 38 [m 6,f 0 8,f 0 39,l 1 40,E (.look 0 (.bool false) false (T 38) (T 41))] [42,25,24,23,8,6,3,2]) (c 42 (r (O 4 [i 8])))) (s (O 43 [m 6,f 0 8,f 0 44,l 1 45,n (E (.upd 0 (T 43) (T 46) (.c (.bool true))))]) (s (s (O 48 [h 2 2,f 0 8,h 4 49,ca 399 [48,50],d 47 (m 51),ex 0 47,ex 1 47,d 10 (E (.alloc [.int .u8 0,.str [],.str [],.ro 2 [] true,.str [],.ro 6 [] true])),n (st 6 10 52),d 11 (m 53)]) (s (O 54 [m 11,nei 54 0]) (c 55 (r (O 4 [i 14]))))) (s (U 56 [f 4 8,l 1 56,ca 225 [57],nt 58,m 59,z 60 (f 5 8),z 60 (l 1 61),z 60 (nt 62),z 60 (m 63),y 64 (f 4 8),y 64 (l 1 65),y 64 (f 0 2),y 64 (l 1 67),y 64 (f 0 8),y 64 (f 1 69),y 64 (l 1 70),y 64 (ix 9 68 71),y 64 (f 6 72),y 64 (l 1 73),y 64 (ne 66 74),z 60 (pa 64 75),po 60 76] [] [77,25,24,23,6,3,2]) (c 77 (r (O 4 [i 12])))))))))) (O 78 [adi 25 1,d 25 (m 78)]))))
def w223_L0:WCode:=.loop ⟨true,[25,24,23,6,3,2],[]⟩ w223_B0
def w223:WFn:=⟨2,[.tmp 4],zd (s (O 2 [bx 0,bx 1,i 0]) (s (s (O 12 [h 2 2,ca 115 [12],d 5 (m 13)]) (s (O 14 [m 5,nei 14 0]) (c 15 (r (O 16 [m 5,d 4 (m 16)]))))) (s (s (Q 17 [f 0 3,l 1 17,ln 1 18,gti 19 1024] [20,3,2]) (c 20 (r (O 4 [i 3])))) (s (O 21 [E .mkmap,d 6 (m 21)]) (s (s (O 22 [f 0 3,l 1 22,ln 1 23,i 0]) (bk 0 w223_L0 ⟨true,[3],[]⟩)) w223_c0)))))⟩
@[simp] theorem w223_E0:ZL w223_L0 w223_B0 ⟨true,[25,24,23,6,3,2],[]⟩:=ck_lp rfl
noncomputable abbrev w223_K0 (C:WProg) (s:WSt):Option AV:=CK C 0 (pureFin [.tmp 4]) [.sq w223_L0,.bk 0 ⟨true,[3],[]⟩,.sq w223_c0] w223_B0 s
def w340_c0:WCode:=zd (r (O 23 [m 3,d 2 (m 23)]))
def w340_B0:WCode:=zd (s (O 10 [lt 9 8]) (s (cc 10 (w .skip) (ee 0)) (s (B 1 (s (O 11 [m 9,d 4 (m 11)]) (O 12 [m 3,m 4,m 3,m 4,ix 4 14 15,f 3 16,l 1 17,ca 460 [18],ix 4 12 13,f 3 20,n (st 1 21 19)]))) (O 22 [adi 9 1,d 9 (m 22)]))))
def w340_L0:WCode:=.loop ⟨true,[9,8,3],[]⟩ w340_B0
def w340:WFn:=⟨1,[.tmp 2],zd (s (O 2 [E (.mv (.c (.ro 4 [] true)))]) (s (Q 5 [m 0,ca 459 [5],d 3 (m 6)] [3]) (s (s (O 7 [m 3,ln 1 7,i 0]) (bk 0 w340_L0 ⟨true,[3],[]⟩)) w340_c0)))⟩
@[simp] theorem w340_E0:ZL w340_L0 w340_B0 ⟨true,[9,8,3],[]⟩:=ck_lp rfl
def w5044_c0:WCode:=zd (r (O 23 [m 3,d 2 (m 23)]))
def w5044_B0:WCode:=zd (s (O 10 [lt 9 8]) (s (cc 10 (w .skip) (ee 0)) (s (B 1 (s (O 11 [m 9,d 4 (m 11)]) (O 12 [m 3,m 4,m 3,m 4,ix 4 14 15,f 3 16,l 1 17,ca 5045 [18],ix 4 12 13,f 3 20,n (st 1 21 19)]))) (O 22 [adi 9 1,d 9 (m 22)]))))
def w5044_L0:WCode:=.loop ⟨true,[9,8,3],[(9999,65537)]⟩ w5044_B0
def w5044:WFn:=⟨1,[.tmp 2],zd (s (O 2 [E (.mv (.c (.ro 4 [] true)))]) (s (R 5 [m 0,ca 459 [5],d 3 (m 6)] ⟨true,[3],[(9999,65537)]⟩) (s (s (O 7 [m 3,ln 1 7,i 0]) (bk 0 w5044_L0 ⟨true,[3],[(9999,65537)]⟩)) w5044_c0)))⟩
@[simp] theorem w5044_E0:ZL w5044_L0 w5044_B0 ⟨true,[9,8,3],[(9999,65537)]⟩:=ck_lp rfl
def w224:WFn:=⟨2,[.tmp 4,.tmp 5],zd (s (O 2 [bx 0,bx 1,i 0,ff]) (s (O 6 [f 0 2,l 1 6,E (.mkfn 403 [T 3]),ca 402 [7,8],d 4 (m 9)]) (r (O 10 [m 4,E (.mx (T 10) (N 0)),m 4,gei 12 0,d 4 (m 11),d 5 (m 13)]))))⟩
def w225:WFn:=⟨1,[.tmp 2],zd (s (O 2 [ff]) (r (O 3 [m 0,gei 3 1,m 4,y 5 (m 0),y 5 (lei 6 2305843009213693952),pa 5 7,d 2 (m 8)])))⟩
def w226_c0:WCode:=zd (r (O 32 [m 3,E (.build [.ro 6 [] true] [(0,1,T 32)]),n (st 1 2 33)]))
def w226_B0:WCode:=zd (s (O 16 [lt 15 14]) (s (cc 16 (w .skip) (ee 0)) (s (B 1 (s (Q 17 [m 15,ix 6 13 15,h 6 18,d 5 (E (.alloc [.int .u64 0,.int .u8 0,.str [],.ro 1 [] true,.int .i64 0,.bool false])),d 4 (m 17),n (st 6 5 19)] [15,14,13,5,4,3,2]) (s (O 20 [f 0 5,h 4 20,E (.buildS [.int .u64 0,.int .u8 0,.str [],.ro 1 [] true] 1 [(0,T 21)]),ca 340 [22],E (.idxs 4 (T 23) (N 0)),h 4 24,f 0 5,n (st 4 26 25)]) (O 27 [m 3,m 4,h 6 5,ix 6 27 28,n (st 6 30 29)])))) (O 31 [adi 15 1,d 15 (m 31)]))))
def w226_L0:WCode:=.loop ⟨true,[15,14,13,3,2],[]⟩ w226_B0
def w226:WFn:=⟨1,[.cell 2 1 true],zd (s (O 2 [E (.alloc [.ro 6 [] true])]) (s (s (O 6 [m 0,ln 1 6,eqi 7 0]) (c 8 (r (O 9 [E (.build [.ro 6 [] true] []),n (st 1 2 9)])))) (s (O 10 [m 0,ln 1 10,E (.mksl [.int .u64 0,.int .u8 0,.str [],.ro 1 [] true,.int .i64 0,.bool false] 72 (T 11) (T 11)),d 3 (m 12)]) (s (s (O 13 [m 0,ln 1 13,i 0]) (bk 0 w226_L0 ⟨true,[3,2],[]⟩)) w226_c0))))⟩
@[simp] theorem w226_E0:ZL w226_L0 w226_B0 ⟨true,[15,14,13,3,2],[]⟩:=ck_lp rfl
noncomputable abbrev w226_K0 (C:WProg) (s:WSt):Option AV:=CK C 0 (pureFin [.cell 2 1 true]) [.sq w226_L0,.bk 0 ⟨true,[3,2],[]⟩,.sq w226_c0] w226_B0 s
def w5043_c0:WCode:=zd (r (O 32 [m 3,E (.build [.ro 6 [] true] [(0,1,T 32)]),n (st 1 2 33)]))
def w5043_B0:WCode:=zd (s (O 16 [lt 15 14]) (s (cc 16 (w .skip) (ee 0)) (s (B 1 (s (R 17 [m 15,ix 6 13 15,h 6 18,d 5 (E (.alloc [.int .u64 0,.int .u8 0,.str [],.ro 1 [] true,.int .i64 0,.bool false])),d 4 (m 17),n (st 6 5 19)] ⟨true,[15,14,13,5,4,3,2],[(9999,65537)]⟩) (s (O 20 [f 0 5,h 4 20,E (.buildS [.int .u64 0,.int .u8 0,.str [],.ro 1 [] true] 1 [(0,T 21)]),ca 5044 [22],E (.idxs 4 (T 23) (N 0)),h 4 24,f 0 5,n (st 4 26 25)]) (O 27 [m 3,m 4,h 6 5,ix 6 27 28,n (st 6 30 29)])))) (O 31 [adi 15 1,d 15 (m 31)]))))
def w5043_L0:WCode:=.loop ⟨true,[15,14,13,3,2],[(9999,65537)]⟩ w5043_B0
def w5043:WFn:=⟨1,[.cell 2 1 true],zd (s (O 2 [E (.alloc [.ro 6 [] true])]) (s (s (O 6 [m 0,ln 1 6,eqi 7 0]) (c 8 (r (O 9 [E (.build [.ro 6 [] true] []),n (st 1 2 9)])))) (s (O 10 [m 0,ln 1 10,E (.mksl [.int .u64 0,.int .u8 0,.str [],.ro 1 [] true,.int .i64 0,.bool false] 72 (T 11) (T 11)),d 3 (m 12)]) (s (s (O 13 [m 0,ln 1 13,i 0]) (bk 0 w5043_L0 ⟨true,[3,2],[(9999,65537)]⟩)) w5043_c0))))⟩
@[simp] theorem w5043_E0:ZL w5043_L0 w5043_B0 ⟨true,[15,14,13,3,2],[(9999,65537)]⟩:=ck_lp rfl
def w227:WFn:=⟨1,[.tmp 2],zd (s (O 1 [bx 0,i 0]) (s (s (O 3 [h 1 1,ca 111 [3],gti 4 4611686018427387904]) (c 5 (r (O 2 [i 13])))) (r (O 2 [i 0]))))⟩
def w228:WFn:=⟨4,[.tmp 6],zd (s (O 5 [bx 1,i 0]) (s (s (V 7 [f 0 2,l 1 7,l 1 3,m 0,ad 9 10,ix 6 8 11,f 0 12,f 0 13,l 1 14,f 0 5,l 1 16,ne 15 17] [] ⟨false,[],[]⟩) (c 18 (r (O 6 [i 9])))) (r (O 6 [i 0]))))⟩
def w229:WFn:=⟨4,[.tmp 5],zd (s (O 5 [E (.mv (.c (.ro 6 [] true)))]) (r (O 6 [f 0 1,l 1 6,l 1 2,l 1 3,ln 1 9,m 0,ca 221 [7,8,10,11],d 5 (m 12)])))⟩
def w409:WFn:=⟨5,[.tmp 6],zd (s (O 6 [E (.mv (.c (.ro 6 [] true)))]) (r (V 7 [f 0 1,l 1 7,l 1 2,l 1 3,E (.call 221 [T 8,T 9,T 10,.c (.ro 6 [] true)]),l 1 4,f 0 1,l 1 13,l 1 2,l 1 2,l 1 3,ad 16 17,E (.slice 6 (T 14) (some (T 15)) (some (T 18)) none),E (.call 221 [T 11,T 12,N 0,T 19]),d 6 (m 20)] [(4,5),(4,7),(4,8),(4,9),(4,10)] ⟨false,[],[]⟩)))⟩
def w222:WFn:=⟨4,[.tmp 5],zd (s (O 5 [E (.mv (.c (.ro 6 [] true)))]) (r (O 6 [f 0 1,l 1 6,l 1 2,l 1 3,E (.call 221 [T 7,T 8,T 9,.c (.ro 6 [] true)]),d 5 (m 10)])))⟩
def w422_c0:WCode:=zd (s (s (O 45 [E (.idxa 4 1 (T 1) (N 3)),l 1 45,E (.bin .geq (T 46) (.c (.int .u8 240)))]) (c 47 (O 48 [f 3 3,l 1 48,E (.buildS [.str []] 2 [(0,.c (.str [97])),(1,.c (.str [97]))]),E (.app [.str []] 16 false (T 49) (T 50)),f 3 3,n (st 1 52 51)]))) (r (O 53 [h 4 3,n (st 4 2 53)])))
def w422_B0:WCode:=zd (s (s (O 20 [m 4,lti 20 3]) (cc 21 (w .skip) (ee 0))) (s (B 1 (s (O 24 [E (.idxa 4 1 (T 1) (N 3)),l 1 24,m 4,E (.bin .shr (T 25) (T 26)),E (.bin .and (T 27) (.c (.int .u8 1))),E (.bin .gtr (T 28) (.c (.int .u8 0)))]) (c 29 (U 30 [f 3 3,l 1 30,E (.buildS [.str []] 3 [(0,.c (.str [97])),(1,.c (.str [98,50])),(2,.c (.str [107,101,121]))]),m 4,E (.idxa 4 1 (T 1) (N 3)),l 1 34,E (.bin .quo (T 35) (.c (.int .u8 8))),E (.cvt .i64 (T 36)),ad 33 37,E (.bin .rem (T 38) (N 3)),ix 1 32 39,l 1 40,E (.buildS [.str []] 1 [(0,T 41)]),E (.app [.str []] 16 false (T 31) (T 42)),f 3 3,n (st 1 44 43)] [(1,2),(2,5),(1,12)] [4,3,2,1])))) (O 22 [m 4,adi 22 1,d 4 (m 23)])))
def w422_L0:WCode:=.loop ⟨true,[4,3,2,1],[]⟩ w422_B0
def w422:WFn:=⟨1,[.cell 2 4 true],zd (s (O 1 [bx 0,E (.alloc [.int .u64 0,.int .u8 0,.str [],.ro 1 [] true])]) (s (U 5 [E (.idxa 4 1 (T 1) (N 0)),l 1 5,E (.bin .rem (T 6) (.c (.int .u8 60))),E (.cvt .u64 (T 7)),E (.bin .add (.c (.int .u64 1)) (T 8)),E (.idxa 4 1 (T 1) (N 1)),l 1 10,E (.bin .rem (T 11) (.c (.int .u8 3))),E (.buildS [.str []] 8 [(0,.c (.str [])),(1,.c (.str [97])),(2,.c (.str [114,111,119])),(3,.c (.str [116,119,111,32,119,111,114,100,115])),(4,.c (.str [32,32])),(5,.c (.str [126,33,45,44])),(6,.c (.str [97,32,108,111,110,103,101,114,32,116,101,120,116,32,111,102,32,116,104,105,115,32,107,105,110,100])),(7,.c (.str [57]))]),E (.idxa 4 1 (T 1) (N 2)),l 1 14,E (.bin .rem (T 15) (.c (.int .u8 8))),ix 1 13 16,l 1 17,E (.build [.int .u64 0,.int .u8 0,.str [],.ro 1 [] true] [(0,1,T 9),(1,1,T 12),(2,1,T 18)]),d 3 (E (.alloc [.int .u64 0,.int .u8 0,.str [],.ro 1 [] true])),n (st 4 3 19)] [(1,8),(6,8),(8,10),(1,15),(6,15),(8,15),(10,15),(13,15)] [3,2,1]) (s (s (O 4 [i 0]) (bk 0 w422_L0 ⟨true,[3,2,1],[]⟩)) w422_c0)))⟩
@[simp] theorem w422_E0:ZL w422_L0 w422_B0 ⟨true,[4,3,2,1],[]⟩:=ck_lp rfl
noncomputable abbrev w422_K0 (C:WProg) (s:WSt):Option AV:=CK C 0 (pureFin [.cell 2 4 true]) [.sq w422_L0,.bk 0 ⟨true,[3,2,1],[]⟩,.sq w422_c0] w422_B0 s
def w423_c0:WCode:=zd (r (O 4 [i (-1)]))
def w423_B0:WCode:=zd (s (s (O 6 [m 5,m 0,ln 1 7,lt 6 8]) (cc 9 (w .skip) (ee 0))) (s (B 1 (s (O 12 [m 0,m 5,ix 4 12 13,f 0 14,l 1 15,m 1,eq 16 17]) (c 18 (r (O 19 [m 5,d 4 (m 19)]))))) (O 10 [m 5,adi 10 1,d 5 (m 11)])))
def w423_L0:WCode:=.loop ⟨true,[5,1,0],[]⟩ w423_B0
def w423:WFn:=⟨2,[.tmp 4],zd (s (O 4 [i 0]) (s (s (O 5 [i 0]) (bk 0 w423_L0 ⟨true,[],[]⟩)) w423_c0))⟩
@[simp] theorem w423_E0:ZL w423_L0 w423_B0 ⟨true,[5,1,0],[]⟩:=ck_lp rfl
noncomputable abbrev w423_K0 (C:WProg) (s:WSt):Option AV:=CK C 0 (pureFin [.tmp 4]) [.sq w423_L0,.bk 0 ⟨true,[],[]⟩,.sq w423_c0] w423_B0 s
def w424_c0:WCode:=zd (s (s (O 41 [m 5,eqi 41 1]) (c 42 (r (O 4 [i 0])))) (r (O 4 [i 6])))
def w424_B0:WCode:=zd (s (s (O 26 [m 6,f 3 2,l 1 27,ln 1 28,lt 26 29]) (cc 30 (w .skip) (ee 0))) (s (B 1 (O 33 [m 5,f 3 2,l 1 34,m 6,ix 1 35 36,l 1 37,ca 511 [38],E (.bin .mul (T 33) (T 39)),d 5 (m 40)])) (O 31 [m 6,adi 31 1,d 6 (m 32)])))
def w424_L0:WCode:=.loop ⟨true,[6,5,2],[]⟩ w424_B0
def w424:WFn:=⟨2,[.tmp 4],zd (s (O 4 [d 2 (bx 0),i 0]) (s (O 7 [f 2 2,l 1 7,ca 510 [8],d 5 (m 9)]) (s (s (Q 10 [f 0 2,l 1 10,E (.bin .eql (T 11) (.c (.int .u64 0))),m 12,z 13 (m 1),z 13 (f 1 2),z 13 (l 1 15),z 13 (E (.cvt .i64 (T 16))),z 13 (le 14 17),po 13 18,m 19,z 20 (f 3 2),z 20 (l 1 21),z 20 (ln 1 22),z 20 (gti 23 8),po 20 24] [25,5,2]) (c 25 (O 5 [i 0]))) (s (s (O 6 [i 0]) (bk 0 w424_L0 ⟨true,[5],[]⟩)) w424_c0))))⟩
@[simp] theorem w424_E0:ZL w424_L0 w424_B0 ⟨true,[6,5,2],[]⟩:=ck_lp rfl
noncomputable abbrev w424_K0 (C:WProg) (s:WSt):Option AV:=CK C 0 (pureFin [.tmp 4]) [.sq w424_L0,.bk 0 ⟨true,[5],[]⟩,.sq w424_c0] w424_B0 s
def w425:WFn:=⟨3,[.cell 6 6 true,.tmp 7],zd (s (Q 6 [d 3 (bx 0),d 4 (bx 1),E (.alloc [.int .u8 0,.str [],.str [],.ro 2 [] true,.str [],.ro 6 [] true]),i 0] [6,4,3,2]) (s (s (O 9 [m 2,lti 9 1,m 10,z 11 (m 2),z 11 (gti 12 64),po 11 13]) (c 14 (r (O 15 [E (.build [.int .u8 0,.str [],.str [],.ro 2 [] true,.str [],.ro 6 [] true] []),n (st 6 6 15),d 7 (i 1)])))) (s (s (O 16 [h 6 3,ca 408 [16],nei 17 0]) (c 18 (r (O 19 [E (.build [.int .u8 0,.str [],.str [],.ro 2 [] true,.str [],.ro 6 [] true] []),h 6 3,ca 408 [20],n (st 6 6 19),d 7 (m 21)])))) (s (s (O 22 [h 4 4,ca 512 [22],nei 23 0]) (c 24 (r (Q 25 [E (.build [.int .u8 0,.str [],.str [],.ro 2 [] true,.str [],.ro 6 [] true] []),h 4 4,ca 512 [26],n (st 6 6 25),d 7 (m 27)] [7,6])))) (s (O 28 [h 6 3,h 4 4,ca 513 [28,29],E (.idxs 6 (T 30) (N 0)),h 6 31,d 8 (E (.alloc [.int .u8 0,.str [],.str [],.ro 2 [] true,.str [],.ro 6 [] true])),n (st 6 8 32)]) (s (s (O 33 [h 6 8,ca 441 [33],nei 34 0,m 35,z 36 (h 6 8),z 36 (ca 442 [37]),z 36 (m 2),z 36 (gt 38 39),po 36 40]) (c 41 (r (O 42 [E (.build [.int .u8 0,.str [],.str [],.ro 2 [] true,.str [],.ro 6 [] true] []),n (st 6 6 42),d 7 (i 14)])))) (r (O 43 [h 6 8,n (st 6 6 43),d 7 (i 0)]))))))))⟩
def w504_c0:WCode:=zd (r (O 27 [m 3,E (.cvt .i64 (T 27)),d 2 (m 28)]))
def w504_B0:WCode:=zd (s (s (O 5 [m 4,m 0,ln 1 6,lt 5 7]) (cc 8 (w .skip) (ee 0))) (s (B 1 (s (s (Q 11 [m 0,m 4,ix 6 11 12,f 4 13,l 1 14,gti 15 0] [16,4,3,0]) (c 16 (O 17 [m 3,m 0,m 4,ix 6 18 19,f 4 20,l 1 21,E (.cvt .u64 (T 22)),ad 17 23,d 3 (m 24)]))) (s (O 25 [m 3,E (.bin .gtr (T 25) (.c (.int .u64 4611686018427387904)))]) (c 26 (r (O 2 [i 4611686018427387905])))))) (O 9 [m 4,adi 9 1,d 4 (m 10)])))
def w504_L0:WCode:=.loop ⟨true,[4,3,0],[]⟩ w504_B0
def w504:WFn:=⟨1,[.tmp 2],zd (s (O 2 [i 0]) (s (O 3 [E (.mv (.c (.int .u64 0)))]) (s (s (O 4 [i 0]) (bk 0 w504_L0 ⟨true,[3],[]⟩)) w504_c0)))⟩
@[simp] theorem w504_E0:ZL w504_L0 w504_B0 ⟨true,[4,3,0],[]⟩:=ck_lp rfl
noncomputable abbrev w504_K0 (C:WProg) (s:WSt):Option AV:=CK C 0 (pureFin [.tmp 2]) [.sq w504_L0,.bk 0 ⟨true,[3],[]⟩,.sq w504_c0] w504_B0 s
def w398:WFn:=⟨2,[.tmp 4],zd (s (O 4 [d 2 (bx 0),i 0]) (s (O 7 [E (.mkfn 494 [T 2]),d 5 (m 7)]) (s (Q 8 [E (.mkfn 497 [T 2]),d 6 (m 8)] [6,5,2,1]) (s (s (O 9 [f 0 2,l 1 9,E (.bin .eql (T 10) (.c (.int .u64 0))),m 11,z 12 (f 1 2),z 12 (l 1 13),z 12 (E (.cvt .i64 (T 14))),z 12 (m 1),z 12 (ge 15 16),po 12 17,m 18,z 19 (m 5),z 19 (E (.callv (T 20) [])),z 19 (nt 21),po 19 22,m 23,z 24 (m 6),z 24 (E (.callv (T 25) [])),z 24 (nt 26),po 24 27]) (c 28 (r (O 4 [i 6])))) (r (O 4 [i 0]))))))⟩
def w399:WFn:=⟨2,[.cell 4 6 true,.tmp 5],zd (s (O 2 [bx 0,bx 1,E (.alloc [.int .u8 0,.str [],.str [],.ro 2 [] true,.str [],.ro 6 [] true]),i 0]) (r (V 6 [f 0 2,l 1 6,f 1 3,l 1 8,ix 9 7 9,f 0 10,h 6 11,h 4 3,f 1 2,l 1 14,ca 501 [12,13,15],ex 0 16,ex 1 16,n (st 6 4 17),d 5 (m 18)] [] ⟨false,[],[]⟩)))⟩
def w400_c0:WCode:=zd (r (O 31 [m 5,d 4 (m 31)]))
def w400_B0:WCode:=zd (s (Q 14 [lt 13 12] [14,13,12,11,5,2]) (s (cc 14 (w .skip) (ee 0)) (s (B 1 (s (O 15 [m 13,ix 4 11 13,h 4 16,d 7 (E (.alloc [.int .u64 0,.int .u8 0,.str [],.ro 1 [] true])),d 6 (m 15),n (st 4 7 17)]) (V 18 [m 5,m 6,h 4 7,f 0 2,l 1 21,f 1 7,l 1 23,ix 9 22 24,f 6 25,l 1 26,E (.build [.int .u64 0,.int .u8 0,.str [],.ro 1 [] true,.int .i64 0,.bool false] [(0,4,T 20),(4,1,T 27)]),ix 6 18 19,n (st 6 29 28)] [] ⟨false,[],[]⟩))) (O 30 [adi 13 1,d 13 (m 30)]))))
def w400_L0:WCode:=.loop ⟨true,[13,12,11,5,2],[]⟩ w400_B0
def w400:WFn:=⟨2,[.tmp 4],zd (s (O 4 [d 2 (bx 0),E (.mv (.c (.ro 6 [] true)))]) (s (O 8 [m 1,ln 1 8,E (.mksl [.int .u64 0,.int .u8 0,.str [],.ro 1 [] true,.int .i64 0,.bool false] 72 (T 9) (T 9)),d 5 (m 10)]) (s (s (O 11 [m 1,ln 1 11,i 0]) (bk 0 w400_L0 ⟨true,[5],[]⟩)) w400_c0)))⟩
@[simp] theorem w400_E0:ZL w400_L0 w400_B0 ⟨true,[13,12,11,5,2],[]⟩:=ck_lp rfl
noncomputable abbrev w400_K0 (C:WProg) (s:WSt):Option AV:=CK C 0 (pureFin [.tmp 4]) [.sq w400_L0,.bk 0 ⟨true,[5],[]⟩,.sq w400_c0] w400_B0 s
def w401:WFn:=⟨3,[.tmp 5],zd (s (O 4 [bx 1,i 0]) (s (s (O 6 [l 1 2,f 0 4,l 1 7,E (.look 0 (.bool false) false (T 6) (T 8))]) (c 9 (r (O 5 [i 8])))) (s (O 10 [l 1 2,f 0 4,l 1 11,n (E (.upd 0 (T 10) (T 12) (.c (.bool true))))]) (r (O 5 [i 0])))))⟩
def w408:WFn:=⟨1,[.tmp 2],zd (s (O 1 [bx 0,i 0]) (s (s (O 3 [h 6 1,ca 505 [3],eqi 4 0]) (c 5 (r (O 2 [i 14])))) (r (O 2 [i 0]))))⟩
def w115:WFn:=⟨1,[.tmp 2],zd (s (O 1 [bx 0,i 0]) (s (O 3 [E (.mv (.c (.fn 230 [])))]) (s (s (Q 4 [f 0 1,l 1 4,ln 1 5,lti 6 1,m 7,z 8 (f 0 1),z 8 (l 1 9),z 8 (ln 1 10),z 8 (gti 11 8),po 8 12,m 13,z 14 (f 1 1),z 14 (l 1 15),z 14 (lti 16 1),po 14 17,m 18,z 19 (f 1 1),z 19 (l 1 20),z 19 (gti 21 64),po 19 22,m 23,z 24 (f 0 1),z 24 (l 1 25),z 24 (m 3),z 24 (ca 232 [26,27]),po 24 28] [29]) (c 29 (r (O 2 [i 7])))) (r (O 2 [i 0])))))⟩
def w459:WFn:=⟨1,[.tmp 2],zd (s (O 2 [E (.mv (.c (.ro 4 [] true)))]) (s (s (O 4 [m 0,ln 1 4,eqi 5 0]) (c 6 (r (O 2 [E (.mv (.c (.ro 4 [] true)))])))) (s (O 7 [m 0,ln 1 7,E (.mksl [.int .u64 0,.int .u8 0,.str [],.ro 1 [] true] 56 (T 8) (T 8)),d 3 (m 9)]) (s (O 10 [m 3,m 0,E (.cpy 4 (T 10) (T 11))]) (r (O 13 [m 3,d 2 (m 13)]))))))⟩
def w460:WFn:=⟨1,[.tmp 2],zd (s (O 2 [E (.mv (.c (.ro 1 [] true)))]) (s (s (O 4 [m 0,ln 1 4,eqi 5 0]) (c 6 (r (O 2 [E (.mv (.c (.ro 1 [] true)))])))) (s (O 7 [m 0,ln 1 7,E (.mksl [.str []] 16 (T 8) (T 8)),d 3 (m 9)]) (s (O 10 [m 3,m 0,E (.cpy 1 (T 10) (T 11))]) (r (O 13 [m 3,d 2 (m 13)]))))))⟩
def w5045:WFn:=⟨1,[.tmp 2],zd (s (O 2 [E (.mv (.c (.ro 1 [] true)))]) (s (s (O 4 [m 0,ln 1 4,eqi 5 0]) (c 6 (r (O 2 [E (.mv (.c (.ro 1 [] true)))])))) (s (O 7 [m 0,ln 1 7,E (.mksl [.str []] 16 (T 8) (T 8)),d 3 (m 9)]) (s (O 10 [m 3,m 0,E (.cpy 1 (T 10) (T 11))]) (r (O 13 [m 3,d 2 (m 13)]))))))⟩
def w402_c0:WCode:=zd (r (O 4 [i (-1)]))
def w402_B0:WCode:=zd (s (O 9 [lt 8 7]) (s (cc 9 (w .skip) (ee 0)) (s (B 1 (s (O 10 [m 8,d 5 (m 10)]) (s (O 11 [m 1,m 0,m 5,ix 6 12 13,h 6 14,E (.callv (T 11) [T 15])]) (c 16 (r (O 17 [m 5,d 4 (m 17)])))))) (O 18 [adi 8 1,d 8 (m 18)]))))
def w402_L0:WCode:=.loop ⟨true,[8,7,1,0],[]⟩ w402_B0
def w402:WFn:=⟨2,[.tmp 4],zd (s (O 4 [i 0]) (s (s (O 6 [m 0,ln 1 6,i 0]) (bk 0 w402_L0 ⟨true,[],[]⟩)) w402_c0))⟩
@[simp] theorem w402_E0:ZL w402_L0 w402_B0 ⟨true,[8,7,1,0],[]⟩:=ck_lp rfl
def w403:WFn:=⟨2,[.tmp 3],zd (s (O 2 [bx 0,ff]) (r (O 4 [f 0 2,f 0 4,l 1 5,l 1 1,eq 6 7,d 3 (m 8)])))⟩
def w510_c0:WCode:=zd (r (O 2 [i 1]))
def w510_B0:WCode:=zd (s (s (O 7 [m 3,m 0,ln 0 8,lt 7 9]) (cc 10 (w .skip) (ee 0))) (s (B 1 (s (O 13 [m 0,m 3,E (.idxstr (T 13) (T 14)),E (.bin .lss (T 15) (.c (.int .u8 32))),m 16,z 17 (m 0),z 17 (m 3),z 17 (E (.idxstr (T 18) (T 19))),z 17 (E (.bin .gtr (T 20) (.c (.int .u8 126)))),po 17 21]) (c 22 (r (O 2 [i 0]))))) (O 11 [m 3,adi 11 1,d 3 (m 12)])))
def w510_L0:WCode:=.loop ⟨true,[3,0],[]⟩ w510_B0
def w510:WFn:=⟨1,[.tmp 2],zd (s (O 2 [i 0]) (s (s (Q 4 [m 0,ln 0 4,gti 5 64] [6,0]) (c 6 (r (O 2 [i 0])))) (s (s (O 3 [i 0]) (bk 0 w510_L0 ⟨true,[],[]⟩)) w510_c0)))⟩
@[simp] theorem w510_E0:ZL w510_L0 w510_B0 ⟨true,[3,0],[]⟩:=ck_lp rfl
noncomputable abbrev w510_K0 (C:WProg) (s:WSt):Option AV:=CK C 0 (pureFin [.tmp 2]) [.sq w510_L0,.bk 0 ⟨true,[],[]⟩,.sq w510_c0] w510_B0 s
def w511_c0:WCode:=zd (r (O 2 [i 1]))
def w511_B0:WCode:=zd (s (s (O 13 [m 3,m 0,ln 0 14,lt 13 15]) (cc 16 (w .skip) (ee 0))) (s (B 1 (s (Q 19 [m 0,m 3,E (.idxstr (T 19) (T 20)),d 4 (m 21)] [4,3,0]) (s (O 22 [m 4,E (.bin .geq (T 22) (.c (.int .u8 97))),m 23,y 24 (m 4),y 24 (E (.bin .leq (T 25) (.c (.int .u8 122)))),pa 24 26,m 27,z 28 (m 4),z 28 (E (.bin .geq (T 29) (.c (.int .u8 48)))),z 28 (m 30),y 31 (m 4),y 31 (E (.bin .leq (T 32) (.c (.int .u8 57)))),z 28 (pa 31 33),po 28 34,nt 35]) (c 36 (r (O 2 [i 0])))))) (O 17 [m 3,adi 17 1,d 3 (m 18)])))
def w511_L0:WCode:=.loop ⟨true,[3,0],[]⟩ w511_B0
def w511:WFn:=⟨1,[.tmp 2],zd (s (O 2 [i 0]) (s (s (O 5 [m 0,ln 0 5,lti 6 1,m 7,z 8 (m 0),z 8 (ln 0 9),z 8 (gti 10 16),po 8 11]) (c 12 (r (O 2 [i 0])))) (s (s (O 3 [i 0]) (bk 0 w511_L0 ⟨true,[],[]⟩)) w511_c0)))⟩
@[simp] theorem w511_E0:ZL w511_L0 w511_B0 ⟨true,[3,0],[]⟩:=ck_lp rfl
noncomputable abbrev w511_K0 (C:WProg) (s:WSt):Option AV:=CK C 0 (pureFin [.tmp 2]) [.sq w511_L0,.bk 0 ⟨true,[],[]⟩,.sq w511_c0] w511_B0 s
def w512_c0:WCode:=zd (r (O 2 [i 0]))
def w512_B0:WCode:=zd (s (s (O 19 [m 3,f 3 1,l 1 20,ln 1 21,lt 19 22]) (cc 23 (w .skip) (ee 0))) (s (B 1 (s (O 26 [f 3 1,l 1 26,m 3,ix 1 27 28,l 1 29,ca 557 [30],nt 31]) (c 32 (r (O 2 [i 6]))))) (O 24 [m 3,adi 24 1,d 3 (m 25)])))
def w512_L0:WCode:=.loop ⟨true,[3,1],[]⟩ w512_B0
def w512:WFn:=⟨1,[.tmp 2],zd (s (O 1 [bx 0,i 0]) (s (s (Q 4 [f 0 1,l 1 4,E (.bin .eql (T 5) (.c (.int .u64 0))),m 6,z 7 (f 2 1),z 7 (l 1 8),z 7 (ca 556 [9]),z 7 (nt 10),po 7 11,m 12,z 13 (f 3 1),z 13 (l 1 14),z 13 (ln 1 15),z 13 (gti 16 8),po 13 17] [18,1]) (c 18 (r (O 2 [i 6])))) (s (s (O 3 [i 0]) (bk 0 w512_L0 ⟨true,[],[]⟩)) w512_c0)))⟩
@[simp] theorem w512_E0:ZL w512_L0 w512_B0 ⟨true,[3,1],[]⟩:=ck_lp rfl
noncomputable abbrev w512_K0 (C:WProg) (s:WSt):Option AV:=CK C 0 (pureFin [.tmp 2]) [.sq w512_L0,.bk 0 ⟨true,[],[]⟩,.sq w512_c0] w512_B0 s
def w513_c0:WCode:=zd (r (O 89 [h 6 7,E (.buildS [.int .u8 0,.str [],.str [],.ro 2 [] true,.str [],.ro 6 [] true] 1 [(0,T 89)]),d 4 (m 90)]))
def w513_B0:WCode:=zd (s (s (O 71 [m 8,f 5 2,l 1 72,ln 1 73,lt 71 74]) (cc 75 (w .skip) (ee 3))) (s (B 4 (V 78 [f 5 7,l 1 78,f 5 2,l 1 80,m 8,ix 6 81 82,h 6 83,h 4 3,ca 513 [84,85],E (.app [.int .u8 0,.str [],.str [],.ro 2 [] true,.str [],.ro 6 [] true] 104 false (T 79) (T 86)),f 5 7,n (st 1 88 87)] [(1,8)] ⟨false,[],[]⟩)) (O 76 [m 8,adi 76 1,d 8 (m 77)])))
def w513_L0:WCode:=.loop ⟨true,[8,7,3,2],[]⟩ w513_B0
def w513_c1:WCode:=zd (s (V 62 [f 1 2,l 1 62,f 2 2,l 1 64,f 3 2,l 1 66,h 4 3,ca 559 [67,68],E (.build [.int .u8 0,.str [],.str [],.ro 2 [] true,.str [],.ro 6 [] true] [(0,1,.c (.int .u8 1)),(1,1,T 63),(2,1,T 65),(3,1,T 69)]),d 7 (E (.alloc [.int .u8 0,.str [],.str [],.ro 2 [] true,.str [],.ro 6 [] true])),n (st 6 7 70)] [(1,7),(3,7),(1,9),(3,9),(5,9),(6,9),(7,9)] ⟨false,[],[]⟩) (s (s (Q 8 [i 0] [8,7,3,2]) (bk 3 w513_L0 ⟨true,[7],[]⟩)) w513_c0))
def w513_c2:WCode:=zd (r (O 61 [m 5,d 4 (m 61)]))
def w513_B1:WCode:=zd (s (s (O 32 [m 6,f 3 3,l 1 33,ln 1 34,lt 32 35]) (cc 36 (w .skip) (ee 1))) (s (B 2 (U 39 [m 5,f 1 2,l 1 40,f 3 3,l 1 42,m 6,ix 1 43 44,l 1 45,f 3 2,l 1 47,h 4 3,ca 559 [48,49],f 3 3,l 1 51,m 6,ix 1 52 53,l 1 54,E (.build [.int .u8 0,.str [],.str [],.ro 2 [] true,.str [],.ro 6 [] true] [(0,1,.c (.int .u8 2)),(4,1,T 55)]),E (.buildS [.int .u8 0,.str [],.str [],.ro 2 [] true,.str [],.ro 6 [] true] 1 [(0,T 56)]),E (.build [.int .u8 0,.str [],.str [],.ro 2 [] true,.str [],.ro 6 [] true] [(0,1,.c (.int .u8 1)),(1,1,T 41),(2,1,T 46),(3,1,T 50),(5,1,T 57)]),E (.buildS [.int .u8 0,.str [],.str [],.ro 2 [] true,.str [],.ro 6 [] true] 1 [(0,T 58)]),E (.app [.int .u8 0,.str [],.str [],.ro 2 [] true,.str [],.ro 6 [] true] 104 false (T 39) (T 59)),d 5 (m 60)] [(2,11),(4,11),(7,11),(11,13),(11,16),(2,18),(4,18),(7,18),(9,18),(10,18),(11,18)] [6,5,3,2])) (O 37 [m 6,adi 37 1,d 6 (m 38)])))
def w513_L1:WCode:=.loop ⟨true,[6,5,3,2],[]⟩ w513_B1
def w513:WFn:=⟨2,[.tmp 4],zd (s (O 2 [bx 0,bx 1,E (.mv (.c (.ro 6 [] true)))]) (s (s (O 9 [f 0 2,l 1 9]) (bk 0 (s (O 12 [E (.bin .eql (T 10) (.c (.int .u8 2))),d 11 (m 12)]) (cc 11 (r (O 13 [f 4 2,l 1 13,E (.build [.int .u8 0,.str [],.str [],.ro 2 [] true,.str [],.ro 6 [] true] [(0,1,.c (.int .u8 2)),(4,1,T 14)]),E (.buildS [.int .u8 0,.str [],.str [],.ro 2 [] true,.str [],.ro 6 [] true] 1 [(0,T 15)]),d 4 (m 16)])) (s (O 18 [E (.bin .eql (T 10) (.c (.int .u8 3))),d 17 (m 18)]) (cc 17 (r (O 19 [f 2 3,l 1 19,E (.build [.int .u8 0,.str [],.str [],.ro 2 [] true,.str [],.ro 6 [] true] [(0,1,.c (.int .u8 2)),(4,1,T 20)]),E (.buildS [.int .u8 0,.str [],.str [],.ro 2 [] true,.str [],.ro 6 [] true] 1 [(0,T 21)]),d 4 (m 22)])) (s (O 24 [E (.bin .eql (T 10) (.c (.int .u8 4))),d 23 (m 24)]) (cc 23 (r (Q 25 [f 0 3,l 1 25,ca 558 [26],E (.build [.int .u8 0,.str [],.str [],.ro 2 [] true,.str [],.ro 6 [] true] [(0,1,.c (.int .u8 2)),(4,1,T 27)]),E (.buildS [.int .u8 0,.str [],.str [],.ro 2 [] true,.str [],.ro 6 [] true] 1 [(0,T 28)]),d 4 (m 29)] [4])) (s (O 31 [E (.bin .eql (T 10) (.c (.int .u8 5))),d 30 (m 31)]) (c 30 (s (R 5 [E (.mv (.c (.ro 6 [] true)))] ⟨true,[5,3,2],[(5,6)]⟩) (s (s (O 6 [i 0]) (bk 1 w513_L1 ⟨true,[5],[]⟩)) w513_c2)))))))))) ⟨true,[3,2],[]⟩)) w513_c1))⟩
@[simp] theorem w513_E0:ZL w513_L0 w513_B0 ⟨true,[8,7,3,2],[]⟩:=ck_lp rfl
noncomputable abbrev w513_K0 (C:WProg) (s:WSt):Option AV:=CK C 0 (pureFin [.tmp 4]) [.sq w513_L0,.bk 3 ⟨true,[7],[]⟩,.sq w513_c0] w513_B0 s
@[simp] theorem w513_E1:ZL w513_L1 w513_B1 ⟨true,[6,5,3,2],[]⟩:=ck_lp rfl
noncomputable abbrev w513_K1 (C:WProg) (s:WSt):Option AV:=CK C 0 (pureFin [.tmp 4]) [.sq w513_L1,.bk 1 ⟨true,[5],[]⟩,.sq w513_c2,.bk 0 ⟨true,[3,2],[]⟩,.sq w513_c1] w513_B1 s
def w441:WFn:=⟨1,[.tmp 2],zd (s (O 1 [bx 0,i 0]) (s (s (O 3 [h 6 1,ca 442 [3],eqi 4 0]) (c 5 (r (O 2 [i 14])))) (r (O 2 [i 0]))))⟩
def w442:WFn:=⟨1,[.tmp 2],zd (s (O 1 [bx 0,i 0]) (s (O 4 [h 6 1,E (.call 520 [T 4,N 6]),d 3 (m 5)]) (s (s (O 6 [m 3,gti 6 64]) (c 7 (r (O 2 [i 0])))) (r (O 8 [m 3,d 2 (m 8)])))))⟩
def w494:WFn:=⟨1,[.tmp 1],zd (s (O 1 [ff]) (r (O 2 [f 2 0,l 1 2,ln 0 3,lei 4 64,m 5,y 6 (f 2 0),y 6 (l 1 7),y 6 (E (.call 495 [T 8,.c (.fn 496 [])])),y 6 (nt 9),pa 6 10,d 1 (m 11)])))⟩
def w495:WFn:=⟨2,[.tmp 4],zd (s (O 4 [ff]) (r (O 5 [m 0,m 1,ca 543 [5,6],gei 7 0,d 4 (m 8)])))⟩
def w496:WFn:=⟨1,[.tmp 2],zd (s (O 2 [ff]) (r (O 3 [m 0,E (.bin .lss (T 3) (.c (.int .i32 32))),m 4,z 5 (m 0),z 5 (E (.bin .gtr (T 6) (.c (.int .i32 126)))),po 5 7,d 2 (m 8)])))⟩
def w497:WFn:=⟨1,[.tmp 1],zd (s (O 1 [ff]) (r (O 2 [f 3 0,l 1 2,ln 1 3,lei 4 8,m 5,y 6 (f 3 0),y 6 (l 1 7),y 6 (E (.call 498 [T 8,.c (.fn 499 [])])),y 6 (nt 9),pa 6 10,d 1 (m 11)])))⟩
def w498:WFn:=⟨2,[.tmp 4],zd (s (O 4 [ff]) (r (O 5 [m 0,m 1,ca 544 [5,6],gei 7 0,d 4 (m 8)])))⟩
def w499:WFn:=⟨1,[.tmp 2],zd (s (O 2 [ff]) (r (O 3 [m 0,ca 500 [3],nt 4,d 2 (m 5)])))⟩
def w500:WFn:=⟨1,[.tmp 2],zd (s (O 2 [ff]) (s (O 3 [E (.mv (.c (.fn 545 [])))]) (r (O 4 [m 0,E (.bin .neq (T 4) (.c (.str []))),m 5,y 6 (m 0),y 6 (ln 0 7),y 6 (lei 8 16),pa 6 9,m 10,y 11 (m 0),y 11 (m 3),y 11 (ca 495 [12,13]),y 11 (nt 14),pa 11 15,d 2 (m 16)]))))⟩
def w501:WFn:=⟨3,[.cell 6 6 true,.tmp 7],zd (s (O 6 [d 3 (bx 0),d 4 (bx 1),E (.alloc [.int .u8 0,.str [],.str [],.ro 2 [] true,.str [],.ro 6 [] true]),i 0]) (s (s (Q 12 [m 2,lti 12 1,m 13,z 14 (m 2),z 14 (gti 15 64),po 14 16] [17,6,4,3,2]) (c 17 (r (O 18 [E (.build [.int .u8 0,.str [],.str [],.ro 2 [] true,.str [],.ro 6 [] true] []),n (st 6 6 18),d 7 (i 1)])))) (s (s (O 19 [h 6 3,ca 231 [19],d 8 (m 20)]) (s (O 21 [m 8,nei 21 0]) (c 22 (r (O 23 [E (.build [.int .u8 0,.str [],.str [],.ro 2 [] true,.str [],.ro 6 [] true] []),m 8,n (st 6 6 23),d 7 (m 24)]))))) (s (s (O 25 [h 4 4,ca 546 [25],d 9 (m 26)]) (s (O 27 [m 9,nei 27 0]) (c 28 (r (O 29 [E (.build [.int .u8 0,.str [],.str [],.ro 2 [] true,.str [],.ro 6 [] true] []),m 9,n (st 6 6 29),d 7 (m 30)]))))) (s (Q 31 [h 4 4,E (.build [.int .u64 0,.int .u8 0,.str [],.ro 1 [] true] [(0,4,T 31)]),h 6 3,E (.buildS [.int .u8 0,.str [],.str [],.ro 3 [] true,.str [],.ro 6 [] true] 1 [(0,T 33)]),ca 547 [32,34],E (.idxs 6 (T 35) (N 0)),h 6 36,d 10 (E (.alloc [.int .u8 0,.str [],.str [],.ro 2 [] true,.str [],.ro 6 [] true])),n (st 6 10 37)] [10,6,2]) (s (s (O 38 [h 6 10,ca 140 [38],d 11 (m 39)]) (s (O 40 [m 11,eqi 40 0,m 41,z 42 (m 11),z 42 (m 2),z 42 (gt 43 44),po 42 45]) (c 46 (r (O 47 [E (.build [.int .u8 0,.str [],.str [],.ro 2 [] true,.str [],.ro 6 [] true] []),n (st 6 6 47),d 7 (i 14)]))))) (r (O 48 [h 6 10,n (st 6 6 48),d 7 (i 0)]))))))))⟩
def w505:WFn:=⟨1,[.tmp 2],zd (s (O 1 [bx 0,i 0]) (s (O 4 [h 6 1,E (.call 550 [T 4,N 6]),d 3 (m 5)]) (s (s (O 6 [f 0 1,l 1 6,E (.bin .neq (T 7) (.c (.int .u8 1))),m 8,z 9 (m 3),z 9 (gti 10 64),po 9 11]) (c 12 (r (O 2 [i 0])))) (r (O 13 [m 3,d 2 (m 13)])))))⟩
def w230:WFn:=⟨1,[.tmp 2],zd (s (O 1 [bx 0,ff]) (r (O 3 [f 6 1,l 1 3,ca 225 [4],nt 5,m 6,z 7 (f 0 1),z 7 (h 6 8),z 7 (ca 231 [9]),z 7 (nei 10 0),po 7 11,d 2 (m 12)])))⟩
def w231:WFn:=⟨1,[.tmp 2],zd (s (O 1 [bx 0,i 0]) (s (s (O 3 [h 6 1,ca 404 [3],eqi 4 0]) (c 5 (r (O 2 [i 14])))) (r (O 2 [i 0]))))⟩
def w232:WFn:=⟨2,[.tmp 4],zd (s (O 4 [ff]) (r (O 5 [m 0,m 1,ca 405 [5,6],gei 7 0,d 4 (m 8)])))⟩
def w556_c0:WCode:=zd (r (O 2 [tt]))
def w556_B0:WCode:=zd (s (s (O 7 [m 3,m 0,ln 0 8,lt 7 9]) (cc 10 (w .skip) (ee 0))) (s (B 1 (s (O 13 [m 0,m 3,E (.idxstr (T 13) (T 14)),E (.bin .lss (T 15) (.c (.int .u8 32))),m 16,z 17 (m 0),z 17 (m 3),z 17 (E (.idxstr (T 18) (T 19))),z 17 (E (.bin .gtr (T 20) (.c (.int .u8 126)))),po 17 21]) (c 22 (r (O 2 [ff]))))) (O 11 [m 3,adi 11 1,d 3 (m 12)])))
def w556_L0:WCode:=.loop ⟨true,[3,0],[]⟩ w556_B0
def w556:WFn:=⟨1,[.tmp 2],zd (s (O 2 [ff]) (s (s (Q 4 [m 0,ln 0 4,gti 5 64] [6,0]) (c 6 (r (O 2 [ff])))) (s (s (O 3 [i 0]) (bk 0 w556_L0 ⟨true,[],[]⟩)) w556_c0)))⟩
@[simp] theorem w556_E0:ZL w556_L0 w556_B0 ⟨true,[3,0],[]⟩:=ck_lp rfl
noncomputable abbrev w556_K0 (C:WProg) (s:WSt):Option AV:=CK C 0 (pureFin [.tmp 2]) [.sq w556_L0,.bk 0 ⟨true,[],[]⟩,.sq w556_c0] w556_B0 s
def w557_c0:WCode:=zd (r (O 36 [m 0,ln 0 36,gei 37 1,m 38,y 39 (m 0),y 39 (ln 0 40),y 39 (lei 41 16),pa 39 42,d 2 (m 43)]))
def w557_B0:WCode:=zd (s (s (O 4 [m 3,m 0,ln 0 5,lt 4 6,m 7,y 8 (m 3),y 8 (lti 9 17),pa 8 10]) (cc 11 (w .skip) (ee 0))) (s (B 1 (s (Q 14 [m 0,m 3,E (.idxstr (T 14) (T 15)),E (.bin .lss (T 16) (.c (.int .u8 97))),m 17,z 18 (m 0),z 18 (m 3),z 18 (E (.idxstr (T 19) (T 20))),z 18 (E (.bin .gtr (T 21) (.c (.int .u8 122)))),po 18 22,m 23,y 24 (m 0),y 24 (m 3),y 24 (E (.idxstr (T 25) (T 26))),y 24 (E (.bin .lss (T 27) (.c (.int .u8 48)))),y 24 (m 28),z 29 (m 0),z 29 (m 3),z 29 (E (.idxstr (T 30) (T 31))),z 29 (E (.bin .gtr (T 32) (.c (.int .u8 57)))),y 24 (po 29 33),pa 24 34] [35,3,0]) (c 35 (r (O 2 [ff]))))) (O 12 [m 3,adi 12 1,d 3 (m 13)])))
def w557_L0:WCode:=.loop ⟨true,[3,0],[]⟩ w557_B0
def w557:WFn:=⟨1,[.tmp 2],zd (s (O 2 [ff]) (s (s (O 3 [i 0]) (bk 0 w557_L0 ⟨true,[0],[]⟩)) w557_c0))⟩
@[simp] theorem w557_E0:ZL w557_L0 w557_B0 ⟨true,[3,0],[]⟩:=ck_lp rfl
noncomputable abbrev w557_K0 (C:WProg) (s:WSt):Option AV:=CK C 0 (pureFin [.tmp 2]) [.sq w557_L0,.bk 0 ⟨true,[0],[]⟩,.sq w557_c0] w557_B0 s
def w558:WFn:=⟨1,[.tmp 2],zd (s (O 2 [E (.mv (.c (.str [])))]) (s (s (O 3 [m 0,E (.bin .lss (T 3) (.c (.int .u64 10)))]) (c 4 (r (O 5 [m 0,m 0,E (.bin .add (T 6) (.c (.int .u64 1))),E (.slice 0 (.c (.str [48,49,50,51,52,53,54,55,56,57])) (some (T 5)) (some (T 7)) none),d 2 (m 8)])))) (r (O 9 [m 0,E (.bin .quo (T 9) (.c (.int .u64 10))),ca 558 [10],m 0,E (.bin .rem (T 12) (.c (.int .u64 10))),ca 558 [13],ad 11 14,d 2 (m 15)]))))⟩
def w559_c0:WCode:=zd (r (O 50 [m 5,d 4 (m 50)]))
def w559_B0:WCode:=zd (s (s (O 8 [m 6,m 0,ln 1 9,lt 8 10]) (cc 11 (w .skip) (ee 0))) (s (B 1 (s (O 14 [m 0,m 6,ix 3 14 15,f 2 16,l 1 17,d 7 (m 18)]) (s (s (O 19 [m 0,m 6,ix 3 19 20,f 1 21,l 1 22]) (B 2 (s (O 25 [E (.bin .eql (T 23) (.c (.int .u8 1))),d 24 (m 25)]) (cc 24 (O 26 [f 2 3,l 1 26,d 7 (m 27)]) (s (O 29 [E (.bin .eql (T 23) (.c (.int .u8 2))),d 28 (m 29)]) (cc 28 (O 30 [f 0 3,l 1 30,ca 558 [31],d 7 (m 32)]) (s (O 34 [E (.bin .eql (T 23) (.c (.int .u8 3))),d 33 (m 34)]) (c 33 (Q 35 [f 3 3,l 1 35,ln 1 36,E (.cvt .u64 (T 37)),ca 558 [38],d 7 (m 39)] [7,6,5,3,0]))))))))) (O 40 [m 5,m 0,m 6,ix 3 41 42,f 0 43,l 1 44,m 7,E (.build [.str [],.str []] [(0,1,T 45),(1,1,T 46)]),E (.buildS [.str [],.str []] 1 [(0,T 47)]),E (.app [.str [],.str []] 32 false (T 40) (T 48)),d 5 (m 49)])))) (O 12 [m 6,adi 12 1,d 6 (m 13)])))
def w559_L0:WCode:=.loop ⟨true,[6,5,3,0],[]⟩ w559_B0
def w559:WFn:=⟨2,[.tmp 4],zd (s (Q 3 [bx 1,E (.mv (.c (.ro 2 [] true)))] [3,0]) (s (R 5 [E (.mv (.c (.ro 2 [] true)))] ⟨true,[5,3,0],[(5,2)]⟩) (s (s (O 6 [i 0]) (bk 0 w559_L0 ⟨true,[5],[]⟩)) w559_c0)))⟩
@[simp] theorem w559_E0:ZL w559_L0 w559_B0 ⟨true,[6,5,3,0],[]⟩:=ck_lp rfl
noncomputable abbrev w559_K0 (C:WProg) (s:WSt):Option AV:=CK C 0 (pureFin [.tmp 4]) [.sq w559_L0,.bk 0 ⟨true,[5],[]⟩,.sq w559_c0] w559_B0 s
def w520_c0:WCode:=zd (r (O 35 [m 5,d 4 (m 35)]))
def w520_B0:WCode:=zd (s (s (Q 14 [m 6,f 5 2,l 1 15,ln 1 16,lt 14 17,m 18,y 19 (m 5),y 19 (lei 20 64),pa 19 21] [22,6,5,2,1]) (cc 22 (w .skip) (ee 0))) (s (B 1 (O 25 [m 5,f 5 2,l 1 26,m 6,ix 6 27 28,h 6 29,m 1,sbi 31 1,ca 520 [30,32],ad 25 33,d 5 (m 34)])) (O 23 [m 6,adi 23 1,d 6 (m 24)])))
def w520_L0:WCode:=.loop ⟨true,[6,5,2,1],[]⟩ w520_B0
def w520:WFn:=⟨2,[.tmp 4],zd (s (O 4 [d 2 (bx 0),i 0]) (s (s (O 7 [m 1,lti 7 1,m 8,z 9 (h 6 2),z 9 (ca 563 [10]),z 9 (nt 11),po 9 12]) (c 13 (r (O 4 [i 1000])))) (s (O 5 [i 1]) (s (s (O 6 [i 0]) (bk 0 w520_L0 ⟨true,[5],[]⟩)) w520_c0))))⟩
@[simp] theorem w520_E0:ZL w520_L0 w520_B0 ⟨true,[6,5,2,1],[]⟩:=ck_lp rfl
noncomputable abbrev w520_K0 (C:WProg) (s:WSt):Option AV:=CK C 0 (pureFin [.tmp 4]) [.sq w520_L0,.bk 0 ⟨true,[5],[]⟩,.sq w520_c0] w520_B0 s
def w543:WFn:=⟨2,[.tmp 4],zd (s (O 4 [i 0]) (r (O 5 [m 0,m 1,E (.call 578 [T 5,T 6,.c (.bool true)]),d 4 (m 7)])))⟩
def w544_c0:WCode:=zd (r (O 4 [i (-1)]))
def w544_B0:WCode:=zd (s (O 9 [lt 8 7]) (s (cc 9 (w .skip) (ee 0)) (s (B 1 (s (O 10 [m 8,d 5 (m 10)]) (s (O 11 [m 1,m 0,m 5,ix 1 12 13,l 1 14,E (.callv (T 11) [T 15])]) (c 16 (r (O 17 [m 5,d 4 (m 17)])))))) (O 18 [adi 8 1,d 8 (m 18)]))))
def w544_L0:WCode:=.loop ⟨true,[8,7,1,0],[]⟩ w544_B0
def w544:WFn:=⟨2,[.tmp 4],zd (s (O 4 [i 0]) (s (s (O 6 [m 0,ln 1 6,i 0]) (bk 0 w544_L0 ⟨true,[],[]⟩)) w544_c0))⟩
@[simp] theorem w544_E0:ZL w544_L0 w544_B0 ⟨true,[8,7,1,0],[]⟩:=ck_lp rfl
noncomputable abbrev w544_K0 (C:WProg) (s:WSt):Option AV:=CK C 0 (pureFin [.tmp 4]) [.sq w544_L0,.bk 0 ⟨true,[],[]⟩,.sq w544_c0] w544_B0 s
def w545:WFn:=⟨1,[.tmp 2],zd (s (O 2 [ff]) (r (O 3 [m 0,E (.bin .lss (T 3) (.c (.int .i32 97))),m 4,z 5 (m 0),z 5 (E (.bin .gtr (T 6) (.c (.int .i32 122)))),po 5 7,m 8,y 9 (m 0),y 9 (E (.bin .lss (T 10) (.c (.int .i32 48)))),y 9 (m 11),z 12 (m 0),z 12 (E (.bin .gtr (T 13) (.c (.int .i32 57)))),y 9 (po 12 14),pa 9 15,d 2 (m 16)])))⟩
def w546:WFn:=⟨1,[.tmp 2],zd (s (Q 1 [bx 0,i 0] [1]) (s (s (O 3 [f 0 1,l 1 3,E (.bin .eql (T 4) (.c (.int .u64 0))),m 5,z 6 (f 2 1),z 6 (l 1 7),z 6 (ca 579 [8]),z 6 (nt 9),po 6 10,m 11,z 12 (f 3 1),z 12 (l 1 13),z 12 (ln 1 14),z 12 (gti 15 8),po 12 16,m 17,z 18 (f 3 1),z 18 (l 1 19),z 18 (E (.call 498 [T 20,.c (.fn 580 [])])),po 18 21]) (c 22 (r (O 2 [i 6])))) (r (O 2 [i 0]))))⟩
def w547_c0:WCode:=zd (r (O 81 [m 5,d 4 (m 81)]))
def w547_c1:WCode:=zd (O 80 [adi 12 1,d 12 (m 80)])
def w547_B1:WCode:=zd (s (O 66 [lt 65 64]) (s (cc 66 (w .skip) (ee 3)) (s (B 4 (s (O 67 [ix 1 63 65,l 1 67,d 9 (m 68)]) (U 69 [m 5,h 4 2,h 6 7,m 9,m 9,ca 583 [73],E (.buildS [.int .u8 0,.str [],.str [],.ro 2 [] true,.str [],.ro 6 [] true] 1 [(0,T 74)]),ca 582 [70,71,72,75],E (.buildS [.int .u8 0,.str [],.str [],.ro 2 [] true,.str [],.ro 6 [] true] 1 [(0,T 76)]),E (.app [.int .u8 0,.str [],.str [],.ro 2 [] true,.str [],.ro 6 [] true] 104 false (T 69) (T 77)),d 5 (m 78)] [(1,5),(2,5),(1,6),(2,6)] [65,64,63,12,11,10,7,5,2]))) (O 79 [adi 65 1,d 65 (m 79)]))))
def w547_L1:WCode:=.loop ⟨true,[65,64,63,12,11,10,7,5,2],[]⟩ w547_B1
def w547_B0:WCode:=zd (s (O 13 [lt 12 11]) (s (cc 13 (w .skip) (ee 0)) (s (bk 1 (s (Q 14 [ix 6 10 12,h 6 14,d 7 (E (.alloc [.int .u8 0,.str [],.str [],.ro 3 [] true,.str [],.ro 6 [] true])),n (st 6 7 15)] [12,11,10,7,5,2]) (s (O 16 [f 0 7,l 1 16]) (bk 2 (s (O 19 [E (.bin .eql (T 17) (.c (.int .u8 1))),d 18 (m 19)]) (cc 18 (V 20 [m 5,h 4 2,h 6 7,f 2 7,l 1 23,h 4 2,f 5 7,l 1 26,ca 547 [25,27],ca 582 [21,22,24,28],E (.buildS [.int .u8 0,.str [],.str [],.ro 2 [] true,.str [],.ro 6 [] true] 1 [(0,T 29)]),E (.app [.int .u8 0,.str [],.str [],.ro 2 [] true,.str [],.ro 6 [] true] 104 false (T 20) (T 30)),d 5 (m 31)] [(1,8),(2,8),(4,8)] ⟨false,[],[]⟩) (s (O 33 [E (.bin .eql (T 17) (.c (.int .u8 2))),d 32 (m 33)]) (cc 32 (Q 34 [m 5,f 4 7,l 1 35,ca 583 [36],E (.buildS [.int .u8 0,.str [],.str [],.ro 2 [] true,.str [],.ro 6 [] true] 1 [(0,T 37)]),E (.app [.int .u8 0,.str [],.str [],.ro 2 [] true,.str [],.ro 6 [] true] 104 false (T 34) (T 38)),d 5 (m 39)] [12,11,10,5,2]) (s (O 41 [E (.bin .eql (T 17) (.c (.int .u8 3))),d 40 (m 41)]) (cc 40 (O 42 [m 5,f 0 2,f 2 43,l 1 44,ca 583 [45],E (.buildS [.int .u8 0,.str [],.str [],.ro 2 [] true,.str [],.ro 6 [] true] 1 [(0,T 46)]),E (.app [.int .u8 0,.str [],.str [],.ro 2 [] true,.str [],.ro 6 [] true] 104 false (T 42) (T 47)),d 5 (m 48)]) (s (O 50 [E (.bin .eql (T 17) (.c (.int .u8 4))),d 49 (m 50)]) (cc 49 (O 51 [m 5,f 0 2,f 0 52,l 1 53,ca 584 [54],ca 583 [55],E (.buildS [.int .u8 0,.str [],.str [],.ro 2 [] true,.str [],.ro 6 [] true] 1 [(0,T 56)]),E (.app [.int .u8 0,.str [],.str [],.ro 2 [] true,.str [],.ro 6 [] true] 104 false (T 51) (T 57)),d 5 (m 58)]) (s (O 60 [E (.bin .eql (T 17) (.c (.int .u8 5))),d 59 (m 60)]) (c 59 (s (O 61 [f 0 2,f 3 61,l 1 62,ln 1 63,i 0]) (bk 3 w547_L1 ⟨true,[12,11,10,5,2],[]⟩)))))))))))) ⟨true,[12,11,10,5,2],[]⟩))) ⟨true,[12,11,10,5,2],[]⟩) w547_c1)))
def w547_L0:WCode:=.loop ⟨true,[12,11,10,5,2],[]⟩ w547_B0
def w547:WFn:=⟨2,[.tmp 4],zd (s (O 4 [d 2 (bx 0),E (.mv (.c (.ro 6 [] true)))]) (s (R 5 [E (.mv (.c (.ro 6 [] true)))] ⟨true,[5,2,1],[(5,6)]⟩) (s (s (O 10 [m 1,ln 1 10,i 0]) (bk 0 w547_L0 ⟨true,[5],[]⟩)) w547_c0)))⟩
@[simp] theorem w547_E1:ZL w547_L1 w547_B1 ⟨true,[65,64,63,12,11,10,7,5,2],[]⟩:=ck_lp rfl
noncomputable abbrev w547_K1 (C:WProg) (s:WSt):Option AV:=CK C 0 (pureFin [.tmp 4]) [.sq w547_L1,.bk 3 ⟨true,[12,11,10,5,2],[]⟩,.bk 2 ⟨true,[12,11,10,5,2],[]⟩,.bk 1 ⟨true,[12,11,10,5,2],[]⟩,.sq w547_c1,.sq w547_L0,.bk 0 ⟨true,[5],[]⟩,.sq w547_c0] w547_B1 s
@[simp] theorem w547_E0:ZL w547_L0 w547_B0 ⟨true,[12,11,10,5,2],[]⟩:=ck_lp rfl
noncomputable abbrev w547_K0 (C:WProg) (s:WSt):Option AV:=CK C 0 (pureFin [.tmp 4]) [.sq w547_L0,.bk 0 ⟨true,[5],[]⟩,.sq w547_c0] w547_B0 s
def w140:WFn:=⟨1,[.tmp 2],zd (s (O 1 [bx 0,i 0]) (s (O 6 [h 6 1,ca 282 [6],d 5 (m 7),ex 0 5,ex 1 5,d 3 (m 8),d 4 (m 9)]) (r (O 10 [m 3,d 2 (m 10)]))))⟩
def w550_c0:WCode:=zd (r (O 35 [m 5,d 4 (m 35)]))
def w550_B0:WCode:=zd (s (s (Q 14 [m 6,f 5 2,l 1 15,ln 1 16,lt 14 17,m 18,y 19 (m 5),y 19 (lei 20 64),pa 19 21] [22,6,5,2,1]) (cc 22 (w .skip) (ee 0))) (s (B 1 (O 25 [m 5,f 5 2,l 1 26,m 6,ix 6 27 28,h 6 29,m 1,sbi 31 1,ca 550 [30,32],ad 25 33,d 5 (m 34)])) (O 23 [m 6,adi 23 1,d 6 (m 24)])))
def w550_L0:WCode:=.loop ⟨true,[6,5,2,1],[]⟩ w550_B0
def w550:WFn:=⟨2,[.tmp 4],zd (s (O 4 [d 2 (bx 0),i 0]) (s (s (O 7 [m 1,lti 7 1,m 8,z 9 (h 6 2),z 9 (ca 586 [10]),z 9 (nt 11),po 9 12]) (c 13 (r (O 4 [i 1000])))) (s (O 5 [i 1]) (s (s (O 6 [i 0]) (bk 0 w550_L0 ⟨true,[5],[]⟩)) w550_c0))))⟩
@[simp] theorem w550_E0:ZL w550_L0 w550_B0 ⟨true,[6,5,2,1],[]⟩:=ck_lp rfl
noncomputable abbrev w550_K0 (C:WProg) (s:WSt):Option AV:=CK C 0 (pureFin [.tmp 4]) [.sq w550_L0,.bk 0 ⟨true,[5],[]⟩,.sq w550_c0] w550_B0 s
def w404:WFn:=⟨1,[.tmp 2],zd (s (O 1 [bx 0,i 0]) (r (O 3 [E (.call 502 [T 1,.c (.fn 503 [])]),d 2 (m 3)])))⟩
def w405_c0:WCode:=zd (r (O 4 [i (-1)]))
def w405_B0:WCode:=zd (s (O 9 [lt 8 7]) (s (cc 9 (w .skip) (ee 0)) (s (B 1 (s (O 10 [m 8,d 5 (m 10)]) (s (O 11 [m 1,m 0,m 5,ix 9 12 13,h 9 14,E (.callv (T 11) [T 15])]) (c 16 (r (O 17 [m 5,d 4 (m 17)])))))) (O 18 [adi 8 1,d 8 (m 18)]))))
def w405_L0:WCode:=.loop ⟨true,[8,7,1,0],[]⟩ w405_B0
def w405:WFn:=⟨2,[.tmp 4],zd (s (O 4 [i 0]) (s (s (O 6 [m 0,ln 1 6,i 0]) (bk 0 w405_L0 ⟨true,[],[]⟩)) w405_c0))⟩
@[simp] theorem w405_E0:ZL w405_L0 w405_B0 ⟨true,[8,7,1,0],[]⟩:=ck_lp rfl
noncomputable abbrev w405_K0 (C:WProg) (s:WSt):Option AV:=CK C 0 (pureFin [.tmp 4]) [.sq w405_L0,.bk 0 ⟨true,[],[]⟩,.sq w405_c0] w405_B0 s
def w563_c0:WCode:=zd (r (O 2 [tt]))
def w563_c1:WCode:=zd (O 120 [m 5,adi 120 1,d 5 (m 121)])
def w563_B1:WCode:=zd (s (s (O 122 [m 6,m 5,lt 122 123]) (cc 124 (w .skip) (ee 6))) (s (B 7 (s (U 127 [f 5 1,l 1 127,m 5,ix 6 128 129,f 2 130,l 1 131,E (.bin .neq (T 132) (.c (.str []))),m 133,y 134 (f 5 1),y 134 (l 1 135),y 134 (m 5),y 134 (ix 6 136 137),y 134 (f 2 138),y 134 (l 1 139),y 134 (f 5 1),y 134 (l 1 141),y 134 (m 6),y 134 (ix 6 142 143),y 134 (f 2 144),y 134 (l 1 145),y 134 (eq 140 146),pa 134 147] [] [148,6,5,1]) (c 148 (r (O 2 [ff]))))) (O 125 [m 6,adi 125 1,d 6 (m 126)])))
def w563_L1:WCode:=.loop ⟨true,[6,5,1],[]⟩ w563_B1
def w563_B0:WCode:=zd (s (s (O 115 [m 5,f 5 1,l 1 116,ln 1 117,lt 115 118]) (cc 119 (w .skip) (ee 4))) (s (bk 5 (s (O 6 [i 0]) (bk 6 w563_L1 ⟨true,[5,1],[]⟩)) ⟨true,[5,1],[]⟩) w563_c1))
def w563_L0:WCode:=.loop ⟨true,[5,1],[]⟩ w563_B0
def w563_c2:WCode:=zd (s (s (O 5 [i 0]) (bk 4 w563_L0 ⟨true,[],[]⟩)) w563_c0)
def w563_c3:WCode:=zd (O 77 [m 3,adi 77 1,d 3 (m 78)])
def w563_B3:WCode:=zd (s (s (O 97 [m 4,m 3,lt 97 98]) (cc 99 (w .skip) (ee 2))) (s (B 3 (s (U 102 [f 3 1,l 1 102,m 4,ix 2 103 104,f 0 105,l 1 106,f 3 1,l 1 108,m 3,ix 2 109 110,f 0 111,l 1 112,ge 107 113] [] [114,4,3,1]) (c 114 (r (O 2 [ff]))))) (O 100 [m 4,adi 100 1,d 4 (m 101)])))
def w563_L3:WCode:=.loop ⟨true,[4,3,1],[]⟩ w563_B3
def w563_B2:WCode:=zd (s (s (Q 72 [m 3,f 3 1,l 1 73,ln 1 74,lt 72 75] [76,3,1]) (cc 76 (w .skip) (ee 0))) (s (bk 1 (s (s (O 79 [f 3 1,l 1 79,m 3,ix 2 80 81,f 0 82,l 1 83,ca 557 [84],nt 85,m 86,z 87 (f 3 1),z 87 (l 1 88),z 87 (m 3),z 87 (ix 2 89 90),z 87 (f 1 91),z 87 (l 1 92),z 87 (ca 556 [93]),z 87 (nt 94),po 87 95]) (c 96 (r (O 2 [ff])))) (s (O 4 [i 0]) (bk 2 w563_L3 ⟨true,[3,1],[]⟩))) ⟨true,[3,1],[]⟩) w563_c3))
def w563_L2:WCode:=.loop ⟨true,[3,1],[]⟩ w563_B2
def w563:WFn:=⟨1,[.tmp 2],zd (s (O 1 [bx 0,ff]) (s (s (O 7 [f 0 1,l 1 7,E (.bin .eql (T 8) (.c (.int .u8 2)))]) (c 9 (r (Q 10 [f 4 1,l 1 10,ca 556 [11],m 12,y 13 (f 1 1),y 13 (l 1 14),y 13 (E (.bin .eql (T 15) (.c (.str [])))),pa 13 16,m 17,y 18 (f 2 1),y 18 (l 1 19),y 18 (E (.bin .eql (T 20) (.c (.str [])))),pa 18 21,m 22,y 23 (f 3 1),y 23 (l 1 24),y 23 (ln 1 25),y 23 (eqi 26 0),pa 23 27,m 28,y 29 (f 5 1),y 29 (l 1 30),y 29 (ln 1 31),y 29 (eqi 32 0),pa 29 33,d 2 (m 34)] [2])))) (s (s (Q 35 [f 0 1,l 1 35,E (.bin .neq (T 36) (.c (.int .u8 1))),m 37,z 38 (f 1 1),z 38 (l 1 39),z 38 (ca 557 [40]),z 38 (nt 41),po 38 42,m 43,z 44 (f 2 1),z 44 (l 1 45),z 44 (E (.bin .neq (T 46) (.c (.str [])))),z 44 (m 47),y 48 (f 2 1),y 48 (l 1 49),y 48 (ca 557 [50]),y 48 (nt 51),z 44 (pa 48 52),po 44 53,m 54,z 55 (f 4 1),z 55 (l 1 56),z 55 (E (.bin .neq (T 57) (.c (.str [])))),po 55 58,m 59,z 60 (f 3 1),z 60 (l 1 61),z 60 (ln 1 62),z 60 (gti 63 8),po 60 64,m 65,z 66 (f 5 1),z 66 (l 1 67),z 66 (ln 1 68),z 66 (gti 69 16),po 66 70] [71,1]) (c 71 (r (O 2 [ff])))) (s (s (O 3 [i 0]) (bk 0 w563_L2 ⟨true,[1],[]⟩)) w563_c2))))⟩
@[simp] theorem w563_E1:ZL w563_L1 w563_B1 ⟨true,[6,5,1],[]⟩:=ck_lp rfl
noncomputable abbrev w563_K1 (C:WProg) (s:WSt):Option AV:=CK C 0 (pureFin [.tmp 2]) [.sq w563_L1,.bk 6 ⟨true,[5,1],[]⟩,.bk 5 ⟨true,[5,1],[]⟩,.sq w563_c1,.sq w563_L0,.bk 4 ⟨true,[],[]⟩,.sq w563_c0] w563_B1 s
@[simp] theorem w563_E0:ZL w563_L0 w563_B0 ⟨true,[5,1],[]⟩:=ck_lp rfl
noncomputable abbrev w563_K0 (C:WProg) (s:WSt):Option AV:=CK C 0 (pureFin [.tmp 2]) [.sq w563_L0,.bk 4 ⟨true,[],[]⟩,.sq w563_c0] w563_B0 s
@[simp] theorem w563_E3:ZL w563_L3 w563_B3 ⟨true,[4,3,1],[]⟩:=ck_lp rfl
noncomputable abbrev w563_K3 (C:WProg) (s:WSt):Option AV:=CK C 0 (pureFin [.tmp 2]) [.sq w563_L3,.bk 2 ⟨true,[3,1],[]⟩,.bk 1 ⟨true,[3,1],[]⟩,.sq w563_c3,.sq w563_L2,.bk 0 ⟨true,[1],[]⟩,.sq w563_c2] w563_B3 s
@[simp] theorem w563_E2:ZL w563_L2 w563_B2 ⟨true,[3,1],[]⟩:=ck_lp rfl
noncomputable abbrev w563_K2 (C:WProg) (s:WSt):Option AV:=CK C 0 (pureFin [.tmp 2]) [.sq w563_L2,.bk 0 ⟨true,[1],[]⟩,.sq w563_c2] w563_B2 s
def w578_c0:WCode:=zd (r (O 6 [i (-1)]))
def w578_B0:WCode:=zd (s (O 11 [E (.next (T 10)),ex 0 11]) (s (cc 12 (w .skip) (ee 0)) (B 1 (s (O 13 [ex 1 11,ex 2 11,d 7 (m 13),d 8 (m 14)]) (s (O 15 [m 1,m 8,E (.callv (T 15) [T 16]),m 2,E (.eqv 5 [] false (T 17) (T 18))]) (c 19 (r (O 20 [m 7,d 6 (m 20)]))))))))
def w578_L0:WCode:=.loop ⟨true,[10,2,1],[]⟩ w578_B0
def w578:WFn:=⟨3,[.tmp 6],zd (s (O 6 [i 0]) (s (s (O 9 [m 0,E (.range (T 9))]) (bk 0 w578_L0 ⟨true,[],[]⟩)) w578_c0))⟩
@[simp] theorem w578_E0:ZL w578_L0 w578_B0 ⟨true,[10,2,1],[]⟩:=ck_lp rfl
noncomputable abbrev w578_K0 (C:WProg) (s:WSt):Option AV:=CK C 0 (pureFin [.tmp 6]) [.sq w578_L0,.bk 0 ⟨true,[],[]⟩,.sq w578_c0] w578_B0 s
def w579:WFn:=⟨1,[.tmp 2],zd (s (O 2 [ff]) (r (O 3 [m 0,E (.build [.int .u8 0,.str [],.str [],.ro 2 [] true,.str [],.ro 6 [] true] [(0,1,.c (.int .u8 2)),(4,1,T 3)]),ca 439 [4],eqi 5 0,d 2 (m 6)])))⟩
def w580:WFn:=⟨1,[.tmp 2],zd (s (O 2 [ff]) (r (O 3 [m 0,ca 581 [3],nt 4,d 2 (m 5)])))⟩
def w581:WFn:=⟨1,[.tmp 2],zd (s (O 2 [ff]) (r (O 3 [m 0,E (.build [.int .u8 0,.str [],.str [],.ro 2 [] true,.str [],.ro 6 [] true] [(0,1,.c (.int .u8 1)),(1,1,T 3)]),ca 439 [4],eqi 5 0,d 2 (m 6)])))⟩
def w582:WFn:=⟨4,[.cell 8 6 true],zd (s (O 4 [bx 0,bx 1,d 8 (E (.alloc [.int .u8 0,.str [],.str [],.ro 2 [] true,.str [],.ro 6 [] true]))]) (r (V 9 [f 1 5,l 1 9,m 2,h 4 4,f 3 5,l 1 13,ca 592 [12,14],m 3,ca 593 [16],E (.build [.int .u8 0,.str [],.str [],.ro 2 [] true,.str [],.ro 6 [] true] [(0,1,.c (.int .u8 1)),(1,1,T 10),(2,1,T 11),(3,1,T 15),(5,1,T 17)]),n (st 6 8 18)] [(1,6),(1,8)] ⟨false,[],[]⟩)))⟩
def w583:WFn:=⟨1,[.cell 2 6 true],zd (s (O 2 [E (.alloc [.int .u8 0,.str [],.str [],.ro 2 [] true,.str [],.ro 6 [] true])]) (r (O 3 [m 0,E (.build [.int .u8 0,.str [],.str [],.ro 2 [] true,.str [],.ro 6 [] true] [(0,1,.c (.int .u8 2)),(4,1,T 3)]),n (st 6 2 4)])))⟩
def w584_B0:WCode:=zd (B 1 (s (O 5 [m 4,sbi 5 1,d 4 (m 6)]) (s (O 7 [m 4,m 0,E (.bin .rem (T 8) (.c (.int .u64 10))),E (.idxstr (.c (.str [48,49,50,51,52,53,54,55,56,57])) (T 9)),E (.idxa 20 1 (T 3) (T 7)),n (st 1 11 10)]) (s (O 12 [m 0,E (.bin .quo (T 12) (.c (.int .u64 10))),d 0 (m 13)]) (s (O 14 [m 0,E (.bin .eql (T 14) (.c (.int .u64 0)))]) (c 15 (r (O 16 [m 4,E (.sliceA 20 (T 3) (some (T 16)) none),E (.cvb (T 17)),d 2 (m 18)]))))))))
def w584_L0:WCode:=.loop ⟨true,[4,3,0],[]⟩ w584_B0
def w584:WFn:=⟨1,[.tmp 2],zd (s (O 2 [E (.mv (.c (.str [])))]) (s (O 3 [E (.alloc (rep 20 (.int .u8 0)))]) (s (O 4 [i 20]) (bk 0 w584_L0 ⟨true,[2],[]⟩))))⟩
@[simp] theorem w584_E0:ZL w584_L0 w584_B0 ⟨true,[4,3,0],[]⟩:=ck_lp rfl
noncomputable abbrev w584_K0 (C:WProg) (s:WSt):Option AV:=CK C 0 (pureFin [.tmp 2]) [.sq w584_L0,.bk 0 ⟨true,[2],[]⟩] w584_B0 s
def w282:WFn:=⟨1,[.cell 2 1 false,.cell 3 1 false],zd (s (O 1 [bx 0,E (.alloc [.int .i64 0]),E (.alloc [.int .i64 0])]) (s (O 4 [E (.alloc [.nilf])]) (s (O 5 [E (.mkfn 433 [T 2,T 3,T 4]),n (st 1 4 5)]) (s (s (O 6 [l 1 4,E (.callv (T 6) [T 1,N 1]),nt 7]) (c 8 (r (O 0 [n (E (.store 1 (T 2) (N 0))),n (E (.store 1 (T 3) (N 0)))])))) (r (V 9 [l 1 2,l 1 3,n (st 1 2 9),n (st 1 3 10)] [(1,2)] ⟨false,[],[]⟩))))))⟩
def w586:WFn:=⟨1,[.tmp 2],zd (s (O 1 [bx 0,ff]) (s (s (O 3 [f 0 1,l 1 3]) (B 0 (s (O 6 [E (.bin .eql (T 4) (.c (.int .u8 1))),d 5 (m 6)]) (cc 5 (r (Q 7 [f 1 1,l 1 7,ca 557 [8],m 9,y 10 (f 2 1),y 10 (l 1 11),y 10 (E (.bin .eql (T 12) (.c (.str [])))),y 10 (m 13),z 14 (f 2 1),z 14 (l 1 15),z 14 (ca 557 [16]),y 10 (po 14 17),pa 10 18,m 19,y 20 (f 3 1),y 20 (l 1 21),y 20 (ca 594 [22]),pa 20 23,m 24,y 25 (f 4 1),y 25 (l 1 26),y 25 (E (.bin .eql (T 27) (.c (.str [])))),pa 25 28,m 29,y 30 (f 5 1),y 30 (l 1 31),y 30 (ln 1 32),y 30 (lei 33 16),pa 30 34,d 2 (m 35)] [2])) (s (O 37 [E (.bin .eql (T 4) (.c (.int .u8 2))),d 36 (m 37)]) (cc 36 (r (Q 38 [f 4 1,l 1 38,ca 556 [39],m 40,y 41 (f 1 1),y 41 (l 1 42),y 41 (E (.bin .eql (T 43) (.c (.str [])))),pa 41 44,m 45,y 46 (f 2 1),y 46 (l 1 47),y 46 (E (.bin .eql (T 48) (.c (.str [])))),pa 46 49,m 50,y 51 (f 3 1),y 51 (l 1 52),y 51 (ln 1 53),y 51 (f 5 1),y 51 (l 1 55),y 51 (ln 1 56),y 51 (ad 54 57),y 51 (eqi 58 0),pa 51 59,d 2 (m 60)] [2])) (s (s (O 62 [E (.bin .eql (T 4) (.c (.int .u8 3))),d 61 (m 62)]) (cc 61 (w .skip) (O 63 [E (.bin .eql (T 4) (.c (.int .u8 4))),d 61 (m 63)]))) (cc 61 (r (Q 64 [f 4 1,l 1 64,E (.bin .eql (T 65) (.c (.str []))),m 66,y 67 (f 1 1),y 67 (l 1 68),y 67 (E (.bin .eql (T 69) (.c (.str [])))),pa 67 70,m 71,y 72 (f 2 1),y 72 (l 1 73),y 72 (E (.bin .eql (T 74) (.c (.str [])))),pa 72 75,m 76,y 77 (f 3 1),y 77 (l 1 78),y 77 (ln 1 79),y 77 (f 5 1),y 77 (l 1 81),y 77 (ln 1 82),y 77 (ad 80 83),y 77 (eqi 84 0),pa 77 85,d 2 (m 86)] [2])) (s (O 88 [E (.bin .eql (T 4) (.c (.int .u8 5))),d 87 (m 88)]) (c 87 (r (Q 89 [f 1 1,l 1 89,ca 557 [90],m 91,y 92 (f 3 1),y 92 (l 1 93),y 92 (ca 594 [94]),pa 92 95,m 96,y 97 (f 2 1),y 97 (l 1 98),y 97 (E (.bin .eql (T 99) (.c (.str [])))),pa 97 100,m 101,y 102 (f 4 1),y 102 (l 1 103),y 102 (E (.bin .eql (T 104) (.c (.str [])))),pa 102 105,m 106,y 107 (f 5 1),y 107 (l 1 108),y 107 (ln 1 109),y 107 (eqi 110 0),pa 107 111,d 2 (m 112)] [2])))))))))))) (r (O 2 [ff]))))⟩
def w502:WFn:=⟨2,[.tmp 4],zd (s (O 3 [bx 1,i 0]) (s (s (O 7 [m 0,nk 7,f 0 8,l 1 9,E (.bin .neq (T 10) (.c (.int .u8 1)))]) (c 11 (r (O 4 [i 0])))) (s (O 5 [E (.alloc [.int .i64 0]),n (E (.store 1 (T 5) (N 0)))]) (s (O 6 [E (.alloc [.nilf])]) (s (O 12 [E (.mkfn 548 [T 5,T 3,T 6]),n (st 1 6 12)]) (s (s (O 13 [l 1 6,m 0,E (.callv (T 13) [T 14,N 1]),nt 15]) (c 16 (r (O 4 [i 0])))) (r (O 17 [l 1 5,d 4 (m 17)]))))))))⟩
def w503:WFn:=⟨1,[],zd (w .skip)⟩
def w439:WFn:=⟨1,[.tmp 2],zd (s (O 1 [bx 0,i 0]) (s (s (O 3 [h 6 1,ca 140 [3],eqi 4 0]) (c 5 (r (O 2 [i 14])))) (r (O 2 [i 0]))))⟩
def w592_c0:WCode:=zd (r (O 44 [m 5,d 4 (m 44)]))
def w592_B0:WCode:=zd (s (O 14 [lt 13 12]) (s (cc 14 (w .skip) (ee 0)) (s (B 1 (s (O 15 [m 13,ix 3 11 13,h 3 16,d 7 (E (.alloc [.str [],.int .u8 0,.str []])),d 6 (m 15),n (st 3 7 17)]) (U 18 [m 5,m 6,f 0 7,l 1 20,f 2 7,l 1 22,f 0 2,f 2 24,l 1 25,f 0 2,f 0 27,l 1 28,ca 584 [29],f 0 2,f 3 31,l 1 32,ln 1 33,E (.cvt .u64 (T 34)),ca 584 [35],E (.build [.str [],.str [],.str [],.str []] [(0,1,T 23),(1,1,T 26),(2,1,T 30),(3,1,T 36)]),f 1 7,l 1 38,E (.idxv 4 1 false (T 37) (T 39)),E (.build [.str [],.str []] [(0,1,T 21),(1,1,T 40)]),ix 2 18 19,n (st 2 42 41)] [(3,12),(5,12),(8,12),(12,15),(12,16),(3,18),(5,18),(8,18),(12,21),(18,21)] [13,12,11,5,2]))) (O 43 [adi 13 1,d 13 (m 43)]))))
def w592_L0:WCode:=.loop ⟨true,[13,12,11,5,2],[]⟩ w592_B0
def w592:WFn:=⟨2,[.tmp 4],zd (s (O 4 [d 2 (bx 0),E (.mv (.c (.ro 2 [] true)))]) (s (O 8 [m 1,ln 1 8,E (.mksl [.str [],.str []] 32 (T 9) (T 9)),d 5 (m 10)]) (s (s (O 11 [m 1,ln 1 11,i 0]) (bk 0 w592_L0 ⟨true,[5],[]⟩)) w592_c0)))⟩
@[simp] theorem w592_E0:ZL w592_L0 w592_B0 ⟨true,[13,12,11,5,2],[]⟩:=ck_lp rfl
noncomputable abbrev w592_K0 (C:WProg) (s:WSt):Option AV:=CK C 0 (pureFin [.tmp 4]) [.sq w592_L0,.bk 0 ⟨true,[5],[]⟩,.sq w592_c0] w592_B0 s
def w593:WFn:=⟨1,[.tmp 2],zd (s (O 2 [E (.mv (.c (.ro 6 [] true)))]) (r (O 3 [m 0,m 0,ln 1 4,m 0,ln 1 6,E (.slice 6 (T 3) none (some (T 5)) (some (T 7))),d 2 (m 8)])))⟩
def w433_c0:WCode:=zd (r (O 7 [tt]))
def w433_B0:WCode:=zd (s (O 31 [lt 30 29]) (s (cc 31 (w .skip) (ee 0)) (s (B 1 (s (O 32 [m 30,d 8 (m 32)]) (s (V 33 [l 1 4,m 0,nk 34,f 5 35,l 1 36,m 8,ix 6 37 38,m 1,adi 40 1,E (.callv (T 33) [T 39,T 41]),nt 42] [] ⟨false,[],[]⟩) (c 43 (r (O 7 [ff])))))) (O 44 [adi 30 1,d 30 (m 44)]))))
def w433_L0:WCode:=.loop ⟨true,[30,29,4,1,0],[]⟩ w433_B0
def w433:WFn:=⟨5,[.tmp 7],zd (s (O 7 [ff]) (s (O 9 [l 1 2,adi 9 1,n (st 1 2 10)]) (s (O 11 [l 1 3,m 1,E (.mx (T 11) (T 12)),n (st 1 3 13)]) (s (s (O 14 [m 1,gti 14 6,m 15,z 16 (l 1 2),z 16 (gti 17 64),po 16 18,m 19,z 20 (m 0),z 20 (ca 434 [21]),z 20 (nt 22),po 20 23]) (c 24 (r (O 7 [ff])))) (s (s (Q 25 [m 0,nk 25,f 5 26,l 1 27,ln 1 28,i 0] [30,29,4,1,0]) (bk 0 w433_L0 ⟨true,[],[]⟩)) w433_c0)))))⟩
@[simp] theorem w433_E0:ZL w433_L0 w433_B0 ⟨true,[30,29,4,1,0],[]⟩:=ck_lp rfl
def w434_c0:WCode:=zd (r (O 2 [tt]))
def w434_B0:WCode:=zd (s (Q 143 [lt 142 141] [143,142,141,140,0]) (s (cc 143 (w .skip) (ee 2)) (s (B 3 (s (O 144 [m 142,ix 6 140 142,h 6 145,d 6 (E (.alloc [.int .u8 0,.str [],.str [],.ro 2 [] true,.str [],.ro 6 [] true])),d 5 (m 144),n (st 6 6 146)]) (s (O 147 [f 2 6,l 1 147,E (.bin .neq (T 148) (.c (.str []))),m 149,y 150 (m 0),y 150 (nk 151),y 150 (f 5 152),y 150 (l 1 153),y 150 (m 5),y 150 (E (.slice 6 (T 154) none (some (T 155)) none)),y 150 (E (.mkfn 519 [T 6])),y 150 (ca 518 [156,157]),pa 150 158]) (c 159 (r (O 2 [ff])))))) (O 160 [adi 142 1,d 142 (m 160)]))))
def w434_L0:WCode:=.loop ⟨true,[142,141,140,0],[]⟩ w434_B0
def w434_c1:WCode:=zd (s (s (O 137 [m 0,nk 137,f 5 138,l 1 139,ln 1 140,i 0]) (bk 2 w434_L0 ⟨true,[],[]⟩)) w434_c0)
def w434_B1:WCode:=zd (s (O 104 [lt 103 102]) (s (cc 104 (w .skip) (ee 0)) (s (B 1 (s (O 105 [m 103,ix 2 101 103,h 2 106,d 4 (E (.alloc [.str [],.str []])),d 3 (m 105),n (st 2 4 107)]) (s (U 108 [f 0 4,l 1 108,ca 517 [109],nt 110,m 111,z 112 (f 1 4),z 112 (l 1 113),z 112 (ca 516 [114]),z 112 (nt 115),po 112 116,m 117,z 118 (m 3),z 118 (gti 119 0),z 118 (m 120),y 121 (f 0 4),y 121 (l 1 122),y 121 (m 0),y 121 (nk 124),y 121 (f 3 125),y 121 (l 1 126),y 121 (m 3),y 121 (sbi 128 1),y 121 (ix 2 127 129),y 121 (f 0 130),y 121 (l 1 131),y 121 (le 123 132),z 118 (pa 121 133),po 118 134] [] [135,103,102,101,0]) (c 135 (r (O 2 [ff])))))) (O 136 [adi 103 1,d 103 (m 136)]))))
def w434_L1:WCode:=.loop ⟨true,[103,102,101,0],[]⟩ w434_B1
def w434:WFn:=⟨1,[.tmp 2],zd (s (O 2 [ff]) (s (s (O 7 [m 0,nk 7,f 0 8,l 1 9,E (.bin .eql (T 10) (.c (.int .u8 2)))]) (c 11 (r (Q 12 [m 0,nk 12,f 4 13,l 1 14,ca 516 [15],m 16,y 17 (m 0),y 17 (nk 18),y 17 (f 1 19),y 17 (l 1 20),y 17 (E (.bin .eql (T 21) (.c (.str [])))),pa 17 22,m 23,y 24 (m 0),y 24 (nk 25),y 24 (f 2 26),y 24 (l 1 27),y 24 (E (.bin .eql (T 28) (.c (.str [])))),pa 24 29,m 30,y 31 (m 0),y 31 (nk 32),y 31 (f 3 33),y 31 (l 1 34),y 31 (ln 1 35),y 31 (eqi 36 0),pa 31 37,m 38,y 39 (m 0),y 39 (nk 40),y 39 (f 5 41),y 39 (l 1 42),y 39 (ln 1 43),y 39 (eqi 44 0),pa 39 45,d 2 (m 46)] [2])))) (s (s (Q 47 [m 0,nk 47,f 0 48,l 1 49,E (.bin .neq (T 50) (.c (.int .u8 1))),m 51,z 52 (m 0),z 52 (nk 53),z 52 (f 1 54),z 52 (l 1 55),z 52 (ca 517 [56]),z 52 (nt 57),po 52 58,m 59,z 60 (m 0),z 60 (nk 61),z 60 (f 2 62),z 60 (l 1 63),z 60 (E (.bin .neq (T 64) (.c (.str [])))),z 60 (m 65),y 66 (m 0),y 66 (nk 67),y 66 (f 2 68),y 66 (l 1 69),y 66 (ca 517 [70]),y 66 (nt 71),z 60 (pa 66 72),po 60 73,m 74,z 75 (m 0),z 75 (nk 76),z 75 (f 4 77),z 75 (l 1 78),z 75 (E (.bin .neq (T 79) (.c (.str [])))),po 75 80,m 81,z 82 (m 0),z 82 (nk 83),z 82 (f 3 84),z 82 (l 1 85),z 82 (ln 1 86),z 82 (gti 87 8),po 82 88,m 89,z 90 (m 0),z 90 (nk 91),z 90 (f 5 92),z 90 (l 1 93),z 90 (ln 1 94),z 90 (gti 95 16),po 90 96] [97,0]) (c 97 (r (O 2 [ff])))) (s (s (O 98 [m 0,nk 98,f 3 99,l 1 100,ln 1 101,i 0]) (bk 0 w434_L1 ⟨true,[0],[]⟩)) w434_c1))))⟩
@[simp] theorem w434_E0:ZL w434_L0 w434_B0 ⟨true,[142,141,140,0],[]⟩:=ck_lp rfl
noncomputable abbrev w434_K0 (C:WProg) (s:WSt):Option AV:=CK C 0 (pureFin [.tmp 2]) [.sq w434_L0,.bk 2 ⟨true,[],[]⟩,.sq w434_c0] w434_B0 s
@[simp] theorem w434_E1:ZL w434_L1 w434_B1 ⟨true,[103,102,101,0],[]⟩:=ck_lp rfl
noncomputable abbrev w434_K1 (C:WProg) (s:WSt):Option AV:=CK C 0 (pureFin [.tmp 2]) [.sq w434_L1,.bk 0 ⟨true,[0],[]⟩,.sq w434_c1] w434_B1 s
def w594_c0:WCode:=zd (r (O 2 [tt]))
def w594_B0:WCode:=zd (s (s (O 8 [m 3,m 0,ln 1 9,lt 8 10]) (cc 11 (w .skip) (ee 0))) (s (B 1 (s (O 14 [m 0,m 3,ix 3 14 15,h 3 16,d 4 (E (.alloc [.str [],.int .u8 0,.str []])),n (st 3 4 17)]) (s (U 18 [f 0 4,l 1 18,ca 557 [19],nt 20,m 21,z 22 (f 1 4),z 22 (l 1 23),z 22 (E (.bin .gtr (T 24) (.c (.int .u8 3)))),po 22 25,m 26,z 27 (f 2 4),z 27 (l 1 28),z 27 (ca 556 [29]),z 27 (nt 30),po 27 31,m 32,z 33 (f 1 4),z 33 (l 1 34),z 33 (E (.bin .neq (T 35) (.c (.int .u8 0)))),z 33 (m 36),y 37 (f 2 4),y 37 (l 1 38),y 37 (E (.bin .neq (T 39) (.c (.str [])))),z 33 (pa 37 40),po 33 41,m 42,z 43 (m 3),z 43 (gti 44 0),z 43 (m 45),y 46 (m 0),y 46 (m 3),y 46 (sbi 48 1),y 46 (ix 3 47 49),y 46 (f 0 50),y 46 (l 1 51),y 46 (f 0 4),y 46 (l 1 53),y 46 (ge 52 54),z 43 (pa 46 55),po 43 56] [] [57,3,0]) (c 57 (r (O 2 [ff])))))) (O 12 [m 3,adi 12 1,d 3 (m 13)])))
def w594_L0:WCode:=.loop ⟨true,[3,0],[]⟩ w594_B0
def w594:WFn:=⟨1,[.tmp 2],zd (s (O 2 [ff]) (s (s (O 5 [m 0,ln 1 5,gti 6 8]) (c 7 (r (O 2 [ff])))) (s (s (O 3 [i 0]) (bk 0 w594_L0 ⟨true,[],[]⟩)) w594_c0)))⟩
@[simp] theorem w594_E0:ZL w594_L0 w594_B0 ⟨true,[3,0],[]⟩:=ck_lp rfl
noncomputable abbrev w594_K0 (C:WProg) (s:WSt):Option AV:=CK C 0 (pureFin [.tmp 2]) [.sq w594_L0,.bk 0 ⟨true,[],[]⟩,.sq w594_c0] w594_B0 s
def w548_c0:WCode:=zd (r (O 7 [tt]))
def w548_B0:WCode:=zd (s (O 31 [lt 30 29]) (s (cc 31 (w .skip) (ee 0)) (s (B 1 (s (O 32 [m 30,d 8 (m 32)]) (s (V 33 [l 1 4,m 0,nk 34,f 5 35,l 1 36,m 8,ix 6 37 38,m 1,adi 40 1,E (.callv (T 33) [T 39,T 41]),nt 42] [] ⟨false,[],[]⟩) (c 43 (r (O 7 [ff])))))) (O 44 [adi 30 1,d 30 (m 44)]))))
def w548_L0:WCode:=.loop ⟨true,[30,29,4,1,0],[]⟩ w548_B0
def w548:WFn:=⟨5,[.tmp 7],zd (s (O 7 [ff]) (s (O 9 [l 1 2,adi 9 1,n (st 1 2 10)]) (s (s (O 11 [m 1,gti 11 6,m 12,z 13 (l 1 2),z 13 (gti 14 64),po 13 15,m 16,z 17 (m 0),z 17 (ca 549 [18]),z 17 (nt 19),po 17 20]) (c 21 (r (O 7 [ff])))) (s (O 22 [l 1 3,m 0,E (.callv (T 22) [T 23])]) (s (s (Q 25 [m 0,nk 25,f 5 26,l 1 27,ln 1 28,i 0] [30,29,4,1,0]) (bk 0 w548_L0 ⟨true,[],[]⟩)) w548_c0)))))⟩
@[simp] theorem w548_E0:ZL w548_L0 w548_B0 ⟨true,[30,29,4,1,0],[]⟩:=ck_lp rfl
def w549:WFn:=⟨1,[.tmp 2],zd (s (O 2 [ff]) (s (O 4 [m 0,nk 4,h 6 5,d 3 (E (.alloc [.int .u8 0,.str [],.str [],.ro 3 [] true,.str [],.ro 6 [] true])),n (st 6 3 6)]) (s (s (O 7 [m 0,nk 7,f 0 8,l 1 9]) (B 0 (s (B 5 (s (B 4 (s (B 3 (s (B 2 (s (B 1 (s (s (s (O 12 [E (.bin .eql (T 10) (.c (.int .u8 1))),d 11 (m 12)]) (c 11 (ee 1))) (s (s (O 14 [E (.bin .eql (T 10) (.c (.int .u8 5))),d 13 (m 14)]) (c 13 (ee 2))) (s (s (O 16 [E (.bin .eql (T 10) (.c (.int .u8 2))),d 15 (m 16)]) (c 15 (ee 3))) (s (s (O 18 [E (.bin .eql (T 10) (.c (.int .u8 3))),d 17 (m 18)]) (cc 17 (w .skip) (O 19 [E (.bin .eql (T 10) (.c (.int .u8 4))),d 17 (m 19)]))) (c 17 (ee 4)))))) (ee 5))) (s (s (Q 20 [m 0,nk 20,f 2 21,l 1 22,E (.bin .neq (T 23) (.c (.str []))),m 24,y 25 (m 0),y 25 (nk 26),y 25 (f 2 27),y 25 (l 1 28),y 25 (ca 581 [29]),y 25 (nt 30),pa 25 31,m 32,z 33 (m 0),z 33 (nk 34),z 33 (f 5 35),z 33 (l 1 36),z 33 (ln 1 37),z 33 (gti 38 16),po 33 39] [40,3,0]) (c 40 (r (O 2 [ff])))) (O 41 [f 2 3,n (E (.store 1 (T 41) (.c (.str [])))),f 5 3,n (E (.store 1 (T 42) (.c (.ro 6 [] true))))])))) (s (s (s (Q 43 [m 0,nk 43,f 1 44,l 1 45,ca 581 [46],nt 47,m 48,z 49 (m 0),z 49 (nk 50),z 49 (f 3 51),z 49 (l 1 52),z 49 (ca 585 [53]),z 49 (nt 54),po 49 55] [56,3]) (c 56 (r (O 2 [ff])))) (O 57 [f 1 3,n (E (.store 1 (T 57) (.c (.str [])))),f 3 3,n (E (.store 1 (T 58) (.c (.ro 3 [] true))))])) (ee 0)))) (s (s (s (O 59 [m 0,nk 59,f 4 60,l 1 61,ca 579 [62],nt 63]) (c 64 (r (O 2 [ff])))) (O 65 [f 4 3,n (E (.store 1 (T 65) (.c (.str []))))])) (ee 0)))) (ee 0))) (s (r (O 2 [ff])) (ee 0))))) (r (Q 66 [f 1 3,l 1 66,E (.bin .eql (T 67) (.c (.str []))),m 68,y 69 (f 2 3),y 69 (l 1 70),y 69 (E (.bin .eql (T 71) (.c (.str [])))),pa 69 72,m 73,y 74 (f 4 3),y 74 (l 1 75),y 74 (E (.bin .eql (T 76) (.c (.str [])))),pa 74 77,m 78,y 79 (f 3 3),y 79 (l 1 80),y 79 (ln 1 81),y 79 (eqi 82 0),pa 79 83,m 84,y 85 (f 5 3),y 85 (l 1 86),y 85 (ln 1 87),y 85 (eqi 88 0),pa 85 89,d 2 (m 90)] [2])))))⟩
def w516:WFn:=⟨1,[.tmp 2],zd (s (O 2 [ff]) (r (O 3 [m 0,ln 0 3,lei 4 64,m 5,y 6 (m 0),y 6 (E (.call 543 [T 7,.c (.fn 560 [])])),y 6 (lti 8 0),pa 6 9,d 2 (m 10)])))⟩
def w517_c0:WCode:=zd (r (O 2 [tt]))
def w517_B0:WCode:=zd (s (O 15 [lt 14 13]) (s (cc 15 (w .skip) (ee 0)) (s (B 1 (s (O 16 [m 14,d 3 (m 16)]) (s (O 17 [m 0,m 3,E (.idxstr (T 17) (T 18)),ca 561 [19],nt 20]) (c 21 (r (O 2 [ff])))))) (O 22 [adi 14 1,d 14 (m 22)]))))
def w517_L0:WCode:=.loop ⟨true,[14,13,0],[]⟩ w517_B0
def w517:WFn:=⟨1,[.tmp 2],zd (s (O 2 [ff]) (s (s (Q 4 [m 0,ln 0 4,lti 5 1,m 6,z 7 (m 0),z 7 (ln 0 8),z 7 (gti 9 16),po 7 10] [11,0]) (c 11 (r (O 2 [ff])))) (s (s (O 12 [m 0,ln 0 12,i 0]) (bk 0 w517_L0 ⟨true,[],[]⟩)) w517_c0)))⟩
@[simp] theorem w517_E0:ZL w517_L0 w517_B0 ⟨true,[14,13,0],[]⟩:=ck_lp rfl
noncomputable abbrev w517_K0 (C:WProg) (s:WSt):Option AV:=CK C 0 (pureFin [.tmp 2]) [.sq w517_L0,.bk 0 ⟨true,[],[]⟩,.sq w517_c0] w517_B0 s
def w518:WFn:=⟨2,[.tmp 4],zd (s (O 4 [ff]) (r (O 5 [m 0,m 1,ca 562 [5,6],gei 7 0,d 4 (m 8)])))⟩
def w519:WFn:=⟨2,[.tmp 3],zd (s (O 2 [bx 0,ff]) (r (O 4 [f 2 2,l 1 4,f 2 1,l 1 6,eq 5 7,d 3 (m 8)])))⟩
def w585_c0:WCode:=zd (r (O 2 [tt]))
def w585_B0:WCode:=zd (s (O 11 [lt 10 9]) (s (cc 11 (w .skip) (ee 0)) (s (B 1 (s (O 12 [m 10,ix 3 8 10,h 3 13,d 4 (E (.alloc [.str [],.int .u8 0,.str []])),d 3 (m 12),n (st 3 4 14)]) (s (U 15 [f 0 4,l 1 15,ca 581 [16],nt 17,m 18,z 19 (f 1 4),z 19 (l 1 20),z 19 (E (.bin .gtr (T 21) (.c (.int .u8 3)))),po 19 22,m 23,z 24 (f 2 4),z 24 (l 1 25),z 24 (ca 579 [26]),z 24 (nt 27),po 24 28,m 29,z 30 (f 1 4),z 30 (l 1 31),z 30 (E (.bin .gtr (T 32) (.c (.int .u8 0)))),z 30 (m 33),y 34 (f 2 4),y 34 (l 1 35),y 34 (E (.bin .neq (T 36) (.c (.str [])))),z 30 (pa 34 37),po 30 38,m 39,z 40 (m 3),z 40 (gti 41 0),z 40 (m 42),y 43 (f 0 4),y 43 (l 1 44),y 43 (m 0),y 43 (m 3),y 43 (sbi 47 1),y 43 (ix 3 46 48),y 43 (f 0 49),y 43 (l 1 50),y 43 (le 45 51),z 40 (pa 43 52),po 40 53] [] [54,10,9,8,0]) (c 54 (r (O 2 [ff])))))) (O 55 [adi 10 1,d 10 (m 55)]))))
def w585_L0:WCode:=.loop ⟨true,[10,9,8,0],[]⟩ w585_B0
def w585:WFn:=⟨1,[.tmp 2],zd (s (O 2 [ff]) (s (s (O 5 [m 0,ln 1 5,gti 6 8]) (c 7 (r (O 2 [ff])))) (s (s (O 8 [m 0,ln 1 8,i 0]) (bk 0 w585_L0 ⟨true,[],[]⟩)) w585_c0)))⟩
@[simp] theorem w585_E0:ZL w585_L0 w585_B0 ⟨true,[10,9,8,0],[]⟩:=ck_lp rfl
noncomputable abbrev w585_K0 (C:WProg) (s:WSt):Option AV:=CK C 0 (pureFin [.tmp 2]) [.sq w585_L0,.bk 0 ⟨true,[],[]⟩,.sq w585_c0] w585_B0 s
def w560:WFn:=⟨1,[.tmp 2],zd (s (O 2 [ff]) (r (O 3 [m 0,E (.bin .lss (T 3) (.c (.int .i32 32))),m 4,z 5 (m 0),z 5 (E (.bin .gtr (T 6) (.c (.int .i32 126)))),po 5 7,d 2 (m 8)])))⟩
def w561:WFn:=⟨1,[.tmp 2],zd (s (O 2 [ff]) (r (O 3 [m 0,E (.bin .geq (T 3) (.c (.int .u8 97))),m 4,y 5 (m 0),y 5 (E (.bin .leq (T 6) (.c (.int .u8 122)))),pa 5 7,m 8,z 9 (m 0),z 9 (E (.bin .geq (T 10) (.c (.int .u8 48)))),z 9 (m 11),y 12 (m 0),y 12 (E (.bin .leq (T 13) (.c (.int .u8 57)))),z 9 (pa 12 14),po 9 15,d 2 (m 16)])))⟩
def w562_c0:WCode:=zd (r (O 4 [i (-1)]))
def w562_B0:WCode:=zd (s (O 9 [lt 8 7]) (s (cc 9 (w .skip) (ee 0)) (s (B 1 (s (O 10 [m 8,d 5 (m 10)]) (s (O 11 [m 1,m 0,m 5,ix 6 12 13,h 6 14,E (.callv (T 11) [T 15])]) (c 16 (r (O 17 [m 5,d 4 (m 17)])))))) (O 18 [adi 8 1,d 8 (m 18)]))))
def w562_L0:WCode:=.loop ⟨true,[8,7,1,0],[]⟩ w562_B0
def w562:WFn:=⟨2,[.tmp 4],zd (s (O 4 [i 0]) (s (s (O 6 [m 0,ln 1 6,i 0]) (bk 0 w562_L0 ⟨true,[],[]⟩)) w562_c0))⟩
@[simp] theorem w562_E0:ZL w562_L0 w562_B0 ⟨true,[8,7,1,0],[]⟩:=ck_lp rfl
noncomputable abbrev w562_K0 (C:WProg) (s:WSt):Option AV:=CK C 0 (pureFin [.tmp 4]) [.sq w562_L0,.bk 0 ⟨true,[],[]⟩,.sq w562_c0] w562_B0 s
def tree:WTree:=(.node (.node (.node (.node (.node (.node (.node .leaf 0 w0 .leaf) 107 w107 (.node .leaf 108 w108 .leaf)) 109 w109 (.node (.node .leaf 110 w110 .leaf) 111 w111 (.node .leaf 112 w112 .leaf))) 113 w113 (.node (.node (.node .leaf 114 w114 .leaf) 115 w115 (.node .leaf 119 w119 .leaf)) 126 w126 (.node (.node .leaf 130 w130 .leaf) 140 w140 (.node .leaf 172 w172 .leaf)))) 216 w216 (.node (.node (.node (.node .leaf 217 w217 .leaf) 218 w218 (.node .leaf 219 w219 .leaf)) 220 w220 (.node (.node .leaf 221 w221 .leaf) 222 w222 (.node .leaf 223 w223 .leaf))) 224 w224 (.node (.node (.node .leaf 225 w225 .leaf) 226 w226 (.node .leaf 227 w227 .leaf)) 228 w228 (.node (.node .leaf 229 w229 .leaf) 230 w230 (.node .leaf 231 w231 .leaf))))) 232 w232 (.node (.node (.node (.node (.node .leaf 234 w234 .leaf) 235 w235 (.node .leaf 236 w236 .leaf)) 237 w237 (.node (.node .leaf 239 w239 .leaf) 240 w240 (.node .leaf 243 w243 .leaf))) 244 w244 (.node (.node (.node .leaf 245 w245 .leaf) 270 w270 (.node .leaf 271 w271 .leaf)) 282 w282 (.node (.node .leaf 340 w340 .leaf) 398 w398 (.node .leaf 399 w399 .leaf)))) 400 w400 (.node (.node (.node (.node .leaf 401 w401 .leaf) 402 w402 (.node .leaf 403 w403 .leaf)) 404 w404 (.node (.node .leaf 405 w405 .leaf) 406 w406 (.node .leaf 407 w407 .leaf))) 408 w408 (.node (.node (.node .leaf 409 w409 .leaf) 422 w422 (.node .leaf 423 w423 .leaf)) 424 w424 (.node (.node .leaf 425 w425 .leaf) 433 w433 (.node .leaf 434 w434 .leaf)))))) 439 w439 (.node (.node (.node (.node (.node (.node .leaf 441 w441 .leaf) 442 w442 (.node .leaf 459 w459 .leaf)) 460 w460 (.node (.node .leaf 461 w461 .leaf) 463 w463 (.node .leaf 494 w494 .leaf))) 495 w495 (.node (.node (.node .leaf 496 w496 .leaf) 497 w497 (.node .leaf 498 w498 .leaf)) 499 w499 (.node (.node .leaf 500 w500 .leaf) 501 w501 (.node .leaf 502 w502 .leaf)))) 503 w503 (.node (.node (.node (.node .leaf 504 w504 .leaf) 505 w505 (.node .leaf 510 w510 .leaf)) 511 w511 (.node (.node .leaf 512 w512 .leaf) 513 w513 (.node .leaf 516 w516 .leaf))) 517 w517 (.node (.node (.node .leaf 518 w518 .leaf) 519 w519 (.node .leaf 520 w520 .leaf)) 532 w532 (.node (.node .leaf 543 w543 .leaf) 544 w544 (.node .leaf 545 w545 .leaf))))) 546 w546 (.node (.node (.node (.node (.node .leaf 547 w547 .leaf) 548 w548 (.node .leaf 549 w549 .leaf)) 550 w550 (.node (.node .leaf 556 w556 .leaf) 557 w557 (.node .leaf 558 w558 .leaf))) 559 w559 (.node (.node (.node .leaf 560 w560 .leaf) 561 w561 (.node .leaf 562 w562 .leaf)) 563 w563 (.node (.node .leaf 578 w578 .leaf) 579 w579 (.node .leaf 580 w580 .leaf)))) 581 w581 (.node (.node (.node (.node .leaf 582 w582 .leaf) 583 w583 (.node .leaf 584 w584 .leaf)) 585 w585 (.node (.node .leaf 586 w586 .leaf) 592 w592 (.node .leaf 593 w593 .leaf))) 594 w594 (.node (.node (.node .leaf 596 w596 .leaf) 2001 w226 (.node .leaf 2042 w2042 .leaf)) 5041 w5041 (.node (.node .leaf 5043 w5043 .leaf) 5044 w5044 (.node .leaf 5045 w5045 .leaf)))))))
def ids:List (Nat × Nat):=[(0,2),(107,25),(108,12),(109,9),(110,32),(111,30),(112,45),(113,27),(114,28),(115,106),(119,6),(126,33),(130,7),(140,151),(172,13),(216,39),(217,41),(218,44),(219,40),(220,42),(221,43),(222,76),(223,65),(224,69),(225,70),(226,71),(227,72),(228,73),(229,74),(230,138),(231,139),(232,140),(234,5),(235,14),(236,46),(237,31),(239,48),(240,36),(243,10),(244,26),(245,29),(270,34),(271,35),(282,169),(340,66),(398,82),(399,83),(400,84),(401,85),(402,109),(403,110),(404,159),(405,160),(406,47),(407,38),(408,86),(409,75),(422,77),(423,78),(424,79),(425,80),(433,177),(434,178),(439,174),(441,115),(442,116),(459,107),(460,108),(461,8),(463,11),(494,117),(495,118),(496,119),(497,120),(498,121),(499,122),(500,123),(501,124),(502,172),(503,173),(504,81),(505,125),(510,111),(511,112),(512,113),(513,114),(516,183),(517,184),(518,185),(519,186),(520,145),(532,37),(543,146),(544,147),(545,148),(546,149),(547,150),(548,181),(549,182),(550,152),(556,141),(557,142),(558,143),(559,144),(560,188),(561,189),(562,190),(563,161),(578,162),(579,163),(580,164),(581,165),(582,166),(583,167),(584,168),(585,187),(586,170),(592,175),(593,176),(594,179),(596,3),(2001,71),(5045,108),(5044,66),(5043,71),(2042,39),(5041,9)]
def alts:List (Nat × Nat × Nat):=[(113,71,2001),(5044,108,5045),(5043,66,5044),(2042,71,5043),(5041,39,2042),(596,9,5041)]
end P
end
section
namespace Go.Pw
open Go Go.Pav
@[simp] def eI (x:Int):List AV:=[.int .i64 x]
@[simp] def eU8 (x:Int):List AV:=[.int .u8 x]
@[simp] def eU64 (x:Int):List AV:=[.int .u64 x]
@[simp] def eS (x:List UInt8):List AV:=[.str x]
@[simp] def eB (x:Bool):List AV:=[.bool x]
attribute [simp] Int.natCast_inj
attribute [-simp] List.getElem_cons_drop
section
variable (a n:Nat)
@[simp] theorem lit_lt_cast:((no_index (OfNat.ofNat a):Int) < (n:Int))=((no_index (OfNat.ofNat a):Nat) < n):=propext (Int.ofNat_lt (n:=(OfNat.ofNat a:Nat)) (m:=n))
@[simp] theorem cast_lt_lit:((n:Int) < (no_index (OfNat.ofNat a):Int))=(n < (no_index (OfNat.ofNat a):Nat)):=propext (Int.ofNat_lt (m:=(OfNat.ofNat a:Nat)) (n:=n))
@[simp] theorem lit_le_cast:((no_index (OfNat.ofNat a):Int)≤(n:Int))=((no_index (OfNat.ofNat a):Nat)≤n):=propext (Int.ofNat_le (m:=(OfNat.ofNat a:Nat)) (n:=n))
@[simp] theorem cast_le_lit:((n:Int)≤(no_index (OfNat.ofNat a):Int))=(n≤(no_index (OfNat.ofNat a):Nat)):=propext (Int.ofNat_le (n:=(OfNat.ofNat a:Nat)) (m:=n))
end
theorem fill_get {α β:Type} {f:α→β} {acc:List α} {n i:Nat} {z:β} (h:acc.length=i):(List.map f acc++List.replicate (n+1) z)[i]?=some z:=by
 rw [List.getElem?_append_right (by simp;omega)]
 simp [h]
theorem fill_set {α β:Type} {f:α→β} {acc:List α} {n i:Nat} {z v:β} (h:acc.length=i):(List.map f acc++List.replicate (n+1) z).set i v=List.map f acc++v::List.replicate n z:=by
 rw [List.set_append,if_neg (by simp;omega)]
 simp [h,List.replicate_succ]
@[simp] theorem app_le (a b:Nat):(a+(b+1)≤a)=False:=eq_false (by omega)
theorem drop_cons {α:Type} {l:List α} {i:Nat} (h:i < l.length):l.drop i=l[i]::l.drop (i+1):=List.drop_eq_getElem_cons h
theorem mapO_self {α:Type} {g:α→Option α}:∀ {l:List α},(∀ x ∈ l,g x=some x)→mapO g l=some l
 | [],_=>rfl
 | a::l,h=>by simp only [mapO,h a List.mem_cons_self,ob,mapO_self fun x hx=>h x (List.mem_cons_of_mem _ hx),om]
@[simp] theorem frz_ints (h:WHeap) (n:Nat) (k:IntKind) (l:List Int):mapO (frzW h (n+1)) (List.map (AV.int k) l)=some (List.map (AV.int k) l) :=
 mapO_self fun x hx=>by obtain ⟨y,_,rfl⟩:=List.mem_map.1 hx;rfl
@[simp] theorem all_isC_int (k:IntKind) (l:List Int):l.all (isC ∘ AV.int k)=true:=by simp [isC]
@[simp] theorem all_isC_bool (l:List Bool):l.all (isC ∘ AV.bool)=true:=by simp [isC]
attribute [simp] isLeaf
@[simp] theorem comp_eI:((fun x:AV=>[x]) ∘ AV.int .i64)=eI:=rfl
@[simp] theorem add_le_self' (a b:Nat):(a+b≤a)=(b=0):=propext (by omega)
theorem isE {α:Type} {l:List α} (h:¬ l=[]):l.isEmpty=false:=by cases l <;> simp_all
end Go.Pw
end
section
namespace Go.D
open Go Go.Pav Go.Pw P
attribute [-simp] List.getElem_cons_drop
variable {C:WProg}
def inN (b:UInt8):Bool:=decide (97≤b.toNat∧b.toNat≤122∨48≤b.toNat∧b.toNat≤57)
def inT (b:UInt8):Bool:=decide (32≤b.toNat∧b.toNat≤126)
def isName (s:List UInt8):Bool:=decide (1≤s.length)&&decide (s.length≤16)&&s.all inN
def isText (s:List UInt8):Bool:=decide (s.length≤64)&&s.all inT
def ppB (f:Nat):Bool:=f == 502||f == 494||f == 497||f == 434||f == 518||f == 549||f == 402||f == 411||f == 446||f == 466||f == 429||f == 514||f == 374||f == 480||(decide (1000≤f)&&decide (f < 2000))
def inlB (f:Nat):Bool:=f == 217||f == 459||decide (2000≤f)
structure HasS (C:WProg):Prop where
 f561:C.fns.get 561=some w561
 f517:C.fns.get 517=some w517
 f557:C.fns.get 557=some w557
 f556:C.fns.get 556=some w556
 f511:C.fns.get 511=some w511
 f510:C.fns.get 510=some w510
 f560:C.fns.get 560=some w560
 f545:C.fns.get 545=some w545
 f578:C.fns.get 578=some w578
 f543:C.fns.get 543=some w543
 f495:C.fns.get 495=some w495
 f516:C.fns.get 516=some w516
 f500:C.fns.get 500=some w500
 inl:C.inl=inlB
 pp:C.pp=ppB
theorem inName_ok (H:HasS C) (b:UInt8):FnW C 561 [.int .u8 b.toNat]=some (.bool (inN b)):=by
 rw [fnW_eq H.f561 rfl]
 unfold inN
 by_cases c1:97≤b.toNat <;> by_cases c2:b.toNat≤122 <;> by_cases c3:48≤b.toNat <;> by_cases c4:b.toNat≤57 <;> simp [w561,c1,c2,c3,c4]
theorem named_loop (H:HasS C) (s:List UInt8) (hl:s.length≤16):∀ n i,n+i=s.length →
 w517_K0 C ⟨[(14,.int .i64 i),(13,.int .i64 s.length),(0,.str s)],[],0⟩=some (.bool ((s.drop i).all inN)):=by
 intro n
 induction n with
 | zero =>
  intro i hi
  simp only [w517_K0];rw [ck_unf w517_B0.eq_1]
  have h1:s.drop i=[]:=List.drop_eq_nil_of_le (by omega)
  have h3:¬ i < s.length:=by omega
  simp [ck_unf w517_c0.eq_1,h1,h3]
 | succ n ih =>
  intro i hi
  have h1:i < s.length:=by omega
  have:=ih (i+1) (by omega)
  have hb:=inName_ok H s[i]
  simp only [w517_K0] at this ⊢;rw [ck_unf w517_B0.eq_1]
  rw [drop_cons h1]
  simp at this
  by_cases c:inN s[i]=true
  · simp (disch:=omega) [h1,wI64,hb,c,H.inl,inlB,H.pp,ppB,this]
  · simp (disch:=omega) [h1,wI64,hb,c,H.inl,inlB,H.pp,ppB]
theorem named_ok (H:HasS C) (s:List UInt8):FnW C 517 [.str s]=some (.bool (isName s)):=by
 rw [fnW_eq H.f517 rfl]
 unfold isName
 by_cases c1:1≤s.length
 · by_cases c2:s.length≤16
   · have:=named_loop H s c2 s.length 0 (by simp)
     simp only [w517_K0] at this
     simp at this
     have c3:¬ ((s.length:Int) < 1):=by omega
     have c4:¬ (16 < (s.length:Int)):=by omega
     simp [w517,c1,c2,c3,c4,this]
   · have c3:¬ ((s.length:Int) < 1):=by omega
     have c4:(16 < (s.length:Int)):=by omega
     simp [w517,c1,c2,c3,c4]
 · have c3:((s.length:Int) < 1):=by omega
   simp [w517,c1,c3]
theorem inN_cases (b:UInt8):(inN b=true∧(97≤b.toNat∧b.toNat≤122∨¬ 97≤b.toNat∧48≤b.toNat∧b.toNat≤57))∨(inN b=false∧(¬ 97≤b.toNat∧(¬ 48≤b.toNat∨¬ b.toNat≤57)∨¬ b.toNat≤122∧¬ b.toNat≤57)):=by
 unfold inN
 by_cases c:97≤b.toNat∧b.toNat≤122∨48≤b.toNat∧b.toNat≤57
 · left;exact ⟨decide_eq_true c,by omega⟩
 · right;exact ⟨decide_eq_false c,by omega⟩
theorem rname_loop (H:HasS C) (s:List UInt8) (hl:s.length≤16∨True):∀ n i,n+i=min s.length 17 →
 w557_K0 C ⟨[(3,.int .i64 i),(0,.str s)],[],0⟩=some (.bool (((s.take 17).drop i).all inN&&decide (1≤s.length)&&decide (s.length≤16))):=by
 intro n
 induction n with
 | zero =>
  intro i hi
  simp only [w557_K0];rw [ck_unf w557_B0.eq_1]
  have h1:(s.take 17).drop i=[]:=List.drop_eq_nil_of_le (by simp;omega)
  by_cases h3:i < s.length
  · have h4:¬ i < 17:=by omega
    have h4':¬ (i:Int) < 17:=by omega
    have h5:¬ s.length≤16:=by omega
    have h6:¬ (s.length:Int)≤16:=by omega
    have h7:1≤(s.length:Int):=by omega
    simp [ck_unf w557_c0.eq_1,h1,h3,h4,h4',h5,h6,h7]
  · by_cases h5:s.length≤16 <;> by_cases h6:1≤s.length
    · have h7:(s.length:Int)≤16:=by omega
      have h8:1≤(s.length:Int):=by omega
      simp [ck_unf w557_c0.eq_1,h1,h3,h5,h6,h7,h8]
    · have h7:(s.length:Int)≤16:=by omega
      have h8:¬ 1≤(s.length:Int):=by omega
      simp [ck_unf w557_c0.eq_1,h1,h3,h5,h6,h7,h8]
    · have h7:¬ (s.length:Int)≤16:=by omega
      have h8:1≤(s.length:Int):=by omega
      simp [ck_unf w557_c0.eq_1,h1,h3,h5,h6,h7,h8]
    · omega
 | succ n ih =>
  intro i hi
  have h1:i < s.length:=by omega
  have h2:(i:Int) < 17:=by omega
  have:=ih (i+1) (by omega)
  have hd:(s.take 17).drop i=s[i]::(s.take 17).drop (i+1):=by
   rw [drop_cons (show i < (s.take 17).length by simp;omega)];simp
  rw [hd]
  simp only [w557_K0] at this ⊢;rw [ck_unf w557_B0.eq_1]
  simp at this
  have key:=inN_cases s[i]
  by_cases q1:97≤s[i].toNat <;> by_cases q2:122 < s[i].toNat <;> by_cases q3:48≤s[i].toNat <;> by_cases q4:57 < s[i].toNat <;> first
   | (exfalso;omega)
   | (have c : inN s[i] = true := by rcases key with ⟨c, _⟩ | ⟨_, q⟩ <;> first | exact c | (exfalso; omega)
      simp (disch:=omega) [h1,h2,wI64,c,q1,q2,q3,q4,this];done)
   | (have c : inN s[i] = false := by rcases key with ⟨_, q⟩ | ⟨c, _⟩ <;> first | exact c | (exfalso; omega)
      simp (disch:=omega) [h1,h2,wI64,c,q1,q2,q3,q4];done)
theorem rname_ok (H:HasS C) (s:List UInt8):FnW C 557 [.str s]=some (.bool (isName s)):=by
 rw [fnW_eq H.f557 rfl]
 have:=rname_loop H s (.inr trivial) (min s.length 17) 0 (by simp)
 simp only [w557_K0] at this
 simp only [List.drop_zero] at this
 have e:((s.take 17).all inN&&decide (1≤s.length)&&decide (s.length≤16))=isName s:=by
  unfold isName
  by_cases c:s.length≤16
  · rw [List.take_of_length_le (by omega)];simp [c];rw [Bool.and_comm]
  · simp [c]
 rw [e] at this
 simp at this
 simp [w557,this]
theorem rstr_loop (H:HasS C) (s:List UInt8) (hl:s.length≤64):∀ n i,n+i=s.length →
 w556_K0 C ⟨[(3,.int .i64 i),(0,.str s)],[],0⟩=some (.bool ((s.drop i).all inT)):=by
 intro n
 induction n with
 | zero =>
  intro i hi
  simp only [w556_K0];rw [ck_unf w556_B0.eq_1]
  have h1:s.drop i=[]:=List.drop_eq_nil_of_le (by omega)
  have h3:¬ i < s.length:=by omega
  simp [ck_unf w556_c0.eq_1,h1,h3]
 | succ n ih =>
  intro i hi
  have h1:i < s.length:=by omega
  have:=ih (i+1) (by omega)
  simp only [w556_K0] at this ⊢;rw [ck_unf w556_B0.eq_1]
  rw [drop_cons h1]
  simp at this
  by_cases c1:32≤s[i].toNat <;> by_cases c2:126 < s[i].toNat
  · have c:inT s[i]=false:=decide_eq_false (fun q=>by omega)
    simp (disch:=omega) [h1,wI64,c,c1,c2]
  · have c:inT s[i]=true:=decide_eq_true ⟨c1,by omega⟩
    simp (disch:=omega) [h1,wI64,c,c1,c2,this]
  · omega
  · have c:inT s[i]=false:=decide_eq_false (fun q=>c1 q.1)
    simp (disch:=omega) [h1,wI64,c,c1,c2]
theorem rstr_ok (H:HasS C) (s:List UInt8):FnW C 556 [.str s]=some (.bool (isText s)):=by
 rw [fnW_eq H.f556 rfl]
 unfold isText
 by_cases c2:s.length≤64
 · have:=rstr_loop H s c2 s.length 0 (by simp)
   simp only [w556_K0] at this
   simp at this
   have c4:¬ (64 < (s.length:Int)):=by omega
   simp [w556,c2,c4,this]
 · have c4:(64 < (s.length:Int)):=by omega
   simp [w556,c2,c4]
theorem words_loop (H:HasS C) (s:List UInt8) (hl:s.length≤64):∀ n i,n+i=s.length →
 w510_K0 C ⟨[(3,.int .i64 i),(0,.str s)],[],0⟩=some (.int .i64 (if (s.drop i).all inT=true then 1 else 0)):=by
 intro n
 induction n with
 | zero =>
  intro i hi
  simp only [w510_K0];rw [ck_unf w510_B0.eq_1]
  have h1:s.drop i=[]:=List.drop_eq_nil_of_le (by omega)
  have h3:¬ i < s.length:=by omega
  simp [ck_unf w510_c0.eq_1,h1,h3]
 | succ n ih =>
  intro i hi
  have h1:i < s.length:=by omega
  have:=ih (i+1) (by omega)
  simp only [w510_K0] at this ⊢;rw [ck_unf w510_B0.eq_1]
  rw [drop_cons h1]
  generalize hX:((s.drop (i+1)).all inT)=X at *
  simp at this
  rw [List.all_cons,hX]
  by_cases c1:32≤s[i].toNat <;> by_cases c2:126 < s[i].toNat
  · have c:inT s[i]=false:=decide_eq_false (fun q=>by omega)
    simp (disch:=omega) [h1,wI64,c,c1,c2]
  · have c:inT s[i]=true:=decide_eq_true ⟨c1,by omega⟩
    simp (disch:=omega) [h1,wI64,c,c1,c2,this]
  · omega
  · have c:inT s[i]=false:=decide_eq_false (fun q=>c1 q.1)
    simp (disch:=omega) [h1,wI64,c,c1,c2]
theorem words_ok (H:HasS C) (s:List UInt8):FnW C 510 [.str s]=some (.int .i64 (if isText s=true then 1 else 0)):=by
 rw [fnW_eq H.f510 rfl]
 unfold isText
 by_cases c2:s.length≤64
 · have:=words_loop H s c2 s.length 0 (by simp)
   simp only [w510_K0] at this
   simp only [List.drop_zero] at this
   generalize hX:s.all inT=X at *
   simp at this
   have c4:¬ (64 < (s.length:Int)):=by omega
   simp [w510,c2,c4,this]
 · have c4:(64 < (s.length:Int)):=by omega
   simp [w510,c2,c4]
structure Pred (C:WProg) (g:Nat) (Q:UInt8→Bool):Prop where
 asc:∀ b:UInt8,b.toNat < 128→FnW C g [.int .i32 b.toNat]=some (.bool (!Q b))
 high:∀ r:Nat,128≤r→FnW C g [.int .i32 r]=some (.bool true)
 qh:∀ b:UInt8,128≤b.toNat→Q b=false
 ne:ppB g=false
 ni:inlB g=false
theorem dec_ascii (s:List UInt8) (pos:Nat) (h:pos < s.length) (ha:s[pos].toNat < 128):Utf8.decode ⟨⟨s⟩⟩ pos=(s[pos].toNat,1):=decode_ascii ⟨⟨s⟩⟩ pos h ha
theorem dec_high (s:List UInt8) (pos:Nat) (h:pos < s.length) (ha:128≤s[pos].toNat):128≤(Utf8.decode ⟨⟨s⟩⟩ pos).1∧1≤(Utf8.decode ⟨⟨s⟩⟩ pos).2:=decode_high ⟨⟨s⟩⟩ pos h ha
theorem index_loop (H:HasS C) {g:Nat} {Q:UInt8→Bool} (G:Pred C g Q) (s:List UInt8):∀ n pos,n+pos=s.length →
 ∃ v:Int,w578_K0 C ⟨[(10,.ptr 0 0 0),(2,.bool true),(1,.fn g [])],[(0,.iter s pos)],1⟩=some (.int .i64 v)∧decide (v < 0)=(s.drop pos).all Q:=by
 intro n
 induction n with
 | zero =>
  intro pos hp
  simp only [w578_K0];rw [ck_unf w578_B0.eq_1]
  have h1:s.drop pos=[]:=List.drop_eq_nil_of_le (by omega)
  have h3:¬ pos < s.length:=by omega
  exact ⟨-1,by simp [ck_unf w578_c0.eq_1,h3],by simp [h1]⟩
 | succ n ih =>
  intro pos hp
  have h1:pos < s.length:=by omega
  have hN:=G.ne;have hI:=G.ni
  rw [drop_cons h1]
  by_cases ha:s[pos].toNat < 128
  · have hd:=dec_ascii s pos h1 ha
    have hb:=G.asc s[pos] ha
    by_cases c:Q s[pos]=true
    · obtain ⟨v,hv,hq⟩:=ih (pos+1) (by omega)
      refine ⟨v,?_,by simp [hq,c]⟩
      simp only [w578_K0] at hv ⊢;rw [ck_unf w578_B0.eq_1]
      simp (disch:=omega) [h1,hd,hb,c,H.inl,hI,H.pp,hN,hv]
    · refine ⟨pos,?_,by simp [c]⟩
      simp only [w578_K0];rw [ck_unf w578_B0.eq_1]
      simp (disch:=omega) [h1,hd,hb,c,H.inl,hI,H.pp,hN]
  · have hd:=dec_high s pos h1 (by omega)
    have hb:=G.high (Utf8.decode ⟨⟨s⟩⟩ pos).1 hd.1
    have hq:=G.qh s[pos] (by omega)
    refine ⟨pos,?_,by simp [hq]⟩
    simp only [w578_K0];rw [ck_unf w578_B0.eq_1]
    obtain ⟨D,hD⟩:∃ D,Utf8.decode ⟨⟨s⟩⟩ pos=D:=⟨_,rfl⟩
    rw [hD] at hb
    simp (disch:=omega) [h1,hD,hb,H.inl,hI,H.pp,hN]
theorem index_ok (H:HasS C) {g:Nat} {Q:UInt8→Bool} (G:Pred C g Q) (s:List UInt8) :
 ∃ v:Int,FnW C 543 [.str s,.fn g []]=some (.int .i64 v)∧decide (v < 0)=s.all Q:=by
 obtain ⟨v,h,q⟩:=index_loop H G s s.length 0 (by simp)
 refine ⟨v,?_,q⟩
 have h2:FnW C 578 [.str s,.fn g [],.bool true]=some (.int .i64 v):=by
  rw [fnW_eq H.f578 rfl]
  simp only [w578_K0] at h
  simp [w578,h]
 rw [fnW_eq H.f543 rfl]
 simp [w543,H.inl,inlB,H.pp,ppB,h2]
theorem contains_ok (H:HasS C) {g:Nat} {Q:UInt8→Bool} (G:Pred C g Q) (s:List UInt8) :
 FnW C 495 [.str s,.fn g []]=some (.bool (!s.all Q)):=by
 obtain ⟨v,h,q⟩:=index_ok H G s
 rw [fnW_eq H.f495 rfl,← q]
 by_cases c:v < 0
 · have c':¬ 0≤v:=by omega
   simp [w495,H.inl,inlB,H.pp,ppB,h,c,c']
 · have c':0≤v:=by omega
   simp [w495,H.inl,inlB,H.pp,ppB,h,c,c']
theorem pred560 (H:HasS C):Pred C 560 inT where
 asc b hb:=by
  rw [fnW_eq H.f560 rfl]
  by_cases c1:32≤b.toNat <;> by_cases c2:126 < b.toNat
  · have c:inT b=false:=decide_eq_false (fun q=>by omega)
    simp [w560,c,c1,c2]
  · have c:inT b=true:=decide_eq_true ⟨c1,by omega⟩
    simp [w560,c,c1,c2]
  · omega
  · have c:inT b=false:=decide_eq_false (fun q=>c1 q.1)
    simp [w560,c,c1,c2]
 high r hr:=by
  rw [fnW_eq H.f560 rfl]
  have h1:32≤r:=by omega
  have h2:126 < r:=by omega
  simp [w560,h1,h2]
 qh b hb:=decide_eq_false (fun q=>by omega)
 ne:=by rfl
 ni:=by rfl
theorem pred545 (H:HasS C):Pred C 545 inN where
 asc b hb:=by
  rw [fnW_eq H.f545 rfl]
  have key:=inN_cases b
  by_cases q1:97≤b.toNat <;> by_cases q2:122 < b.toNat <;> by_cases q3:48≤b.toNat <;> by_cases q4:57 < b.toNat <;> first
   | (exfalso;omega)
   | (have c : inN b = true := by rcases key with ⟨c, _⟩ | ⟨_, q⟩ <;> first | exact c | (exfalso; omega)
      simp [w545,c,q1,q2,q3,q4];done)
   | (have c : inN b = false := by rcases key with ⟨_, q⟩ | ⟨c, _⟩ <;> first | exact c | (exfalso; omega)
      simp [w545,c,q1,q2,q3,q4];done)
 high r hr:=by
  rw [fnW_eq H.f545 rfl]
  have h1:97≤r:=by omega
  have h2:122 < r:=by omega
  have h3:48≤r:=by omega
  have h4:57 < r:=by omega
  simp [w545,h1,h2,h3,h4]
 qh b hb:=by unfold inN;exact decide_eq_false (fun q=>by omega)
 ne:=by rfl
 ni:=by rfl
theorem text_ok (H:HasS C) (s:List UInt8):FnW C 516 [.str s]=some (.bool (isText s)):=by
 obtain ⟨v,h,q⟩:=index_ok H (pred560 H) s
 rw [fnW_eq H.f516 rfl]
 unfold isText
 rw [← q]
 by_cases c2:s.length≤64
 · have c4:(s.length:Int)≤64:=by omega
   simp [w516,c2,c4,H.inl,inlB,H.pp,ppB,h]
 · have c4:¬ ((s.length:Int)≤64):=by omega
   simp [w516,c2,c4]
theorem iname_ok (H:HasS C) (s:List UInt8):FnW C 500 [.str s]=some (.bool (isName s)):=by
 have h:=contains_ok H (pred545 H) s
 rw [fnW_eq H.f500 rfl]
 unfold isName
 by_cases c1:s=[]
 · subst c1;simp [w500]
 · have c3:1≤s.length:=List.length_pos_iff.2 c1
   by_cases c2:s.length≤16
   · have c4:(s.length:Int)≤16:=by omega
     simp [w500,c1,c2,c3,c4,H.inl,inlB,H.pp,ppB,h]
   · have c4:¬ ((s.length:Int)≤16):=by omega
     simp [w500,c1,c2,c4]
end Go.D
end
section
namespace Go.Pav
open Go
def phiOf (ids:List (Nat × Nat)) (f:FuncId):Option Nat :=
 match ids with
 | []=>none
 | (g,k)::r=>if k=f then some g else phiOf r f
def psiOf (ids:List (Nat × Nat)) (g:Nat):FuncId :=
 match get ids g with
 | some k=>k
 | none=>0
theorem phiOf_mem:∀ {ids:List (Nat × Nat)} {f:FuncId} {g:Nat},phiOf ids f=some g→(g,f) ∈ ids:=by
 intro ids
 induction ids with
 | nil=>intro f g h;simp [phiOf] at h
 | cons x r ih =>
  intro f g h
  obtain ⟨a,k⟩:=x
  simp only [phiOf] at h
  split at h
  · rename_i hk
    cases h;subst hk;exact List.mem_cons_self
  · exact List.mem_cons_of_mem _ (ih h)
theorem psi_phi {ids:List (Nat × Nat)} (hc:(ids.all fun x=>decide (psiOf ids x.1=x.2))=true):∀ f g,phiOf ids f=some g→psiOf ids g=f:=by
 intro f g h
 have:=List.all_eq_true.1 hc _ (phiOf_mem h)
 simpa using this
def TreeAll (p:Nat→CFn→Prop):Tree→Prop
 | .leaf=>True
 | .node l k f r=>TreeAll p l∧p k f∧TreeAll p r
theorem TreeAll.get {p:Nat→CFn→Prop}:∀ {t:Tree},TreeAll p t→∀ {g:Nat} {cf:CFn},t.get g=some cf→p g cf:=by
 intro t
 induction t with
 | leaf=>intro _ g cf h;simp [Tree.get] at h
 | node l k f r ihl ihr =>
  intro ⟨h1,h2,h3⟩ g cf h
  simp only [Tree.get] at h
  split at h
  · rename_i hk;cases h;subst hk;exact h2
  · split at h
    · exact ihl h1 h
    · exact ihr h3 h
def altOf:List (Nat × FuncId × Nat)→Nat→FuncId→Option Nat
 | [],_,_=>none
 | (g,f,k)::r,g',f'=>if g=g'∧f=f' then some k else altOf r g' f'
theorem altOf_mem:∀ {alts:List (Nat × FuncId × Nat)} {g:Nat} {f:FuncId} {k:Nat},altOf alts g f=some k→(g,f,k) ∈ alts:=by
 intro alts
 induction alts with
 | nil=>intro g f k h;simp [altOf] at h
 | cons x r ih =>
  intro g f k h
  obtain ⟨a,b,c⟩:=x
  simp only [altOf] at h
  split at h
  · rename_i hk
    obtain ⟨rfl,rfl⟩:=hk
    cases h;exact List.mem_cons_self
  · exact List.mem_cons_of_mem _ (ih h)
def phiG (ids:List (Nat × Nat)) (alts:List (Nat × FuncId × Nat)) (g:Nat) (f:FuncId):Option Nat :=
 match altOf alts g f with
 | some k=>some k
 | none=>phiOf ids f
def FnOk (P:Program) (ids:List (Nat × Nat)) (alts:List (Nat × FuncId × Nat)) (g:Nat) (cf:CFn):Prop:=∃ fn,P.funcs[psiOf ids g]?=some fn∧(cFn P (phiG ids alts g) fn).map stripF=some (stripF cf)
theorem linked {P:Program} {ids:List (Nat × Nat)} {alts:List (Nat × FuncId × Nat)} {C:Prog} (hc:(ids.all fun x=>decide (psiOf ids x.1=x.2))=true) (ha:(alts.all fun x=>decide (psiOf ids x.2.2=x.2.1))=true)
 (ht:TreeAll (FnOk P ids alts) C.fns) (hm:P.follows .mixedOrders=true):Linked P (phiG ids alts) (psiOf ids) C:=by
 refine ⟨fun g f k h=>?_,fun _ _ h=>ht.get h,hm⟩
 unfold phiG at h
 split at h
 · rename_i k' hk
   cases h
   simpa using List.all_eq_true.1 ha _ (altOf_mem hk)
 · exact psi_phi hc _ _ h
end Go.Pav
end
section
set_option maxRecDepth 100000
namespace P
open Go Go.Pav Go.Pw Go.Proofs
theorem l0:FnOk Tryz.prog ids alts 0 (erFn w0):=⟨Tryz.f2,Tryz.func2,by kernel_rfl⟩
theorem l107:FnOk Tryz.prog ids alts 107 (erFn w107):=⟨Tryz.f25,Tryz.func25,by kernel_rfl⟩
theorem l108:FnOk Tryz.prog ids alts 108 (erFn w108):=⟨Tryz.f12,Tryz.func12,by kernel_rfl⟩
theorem l109:FnOk Tryz.prog ids alts 109 (erFn w109):=⟨Tryz.f9,Tryz.func9,by kernel_rfl⟩
theorem l110:FnOk Tryz.prog ids alts 110 (erFn w110):=⟨Tryz.f32,Tryz.func32,by kernel_rfl⟩
theorem l111:FnOk Tryz.prog ids alts 111 (erFn w111):=⟨Tryz.f30,Tryz.func30,by kernel_rfl⟩
theorem l112:FnOk Tryz.prog ids alts 112 (erFn w112):=⟨Tryz.f45,Tryz.func45,by kernel_rfl⟩
theorem l113:FnOk Tryz.prog ids alts 113 (erFn w113):=⟨Tryz.f27,Tryz.func27,by kernel_rfl⟩
theorem l114:FnOk Tryz.prog ids alts 114 (erFn w114):=⟨Tryz.f28,Tryz.func28,by kernel_rfl⟩
theorem l115:FnOk Tryz.prog ids alts 115 (erFn w115):=⟨Tryz.f106,Tryz.func106,by kernel_rfl⟩
theorem l119:FnOk Tryz.prog ids alts 119 (erFn w119):=⟨Tryz.f6,Tryz.func6,by kernel_rfl⟩
theorem l126:FnOk Tryz.prog ids alts 126 (erFn w126):=⟨Tryz.f33,Tryz.func33,by kernel_rfl⟩
theorem l130:FnOk Tryz.prog ids alts 130 (erFn w130):=⟨Tryz.f7,Tryz.func7,by kernel_rfl⟩
theorem l140:FnOk Tryz.prog ids alts 140 (erFn w140):=⟨Tryz.f151,Tryz.func151,by kernel_rfl⟩
theorem l172:FnOk Tryz.prog ids alts 172 (erFn w172):=⟨Tryz.f13,Tryz.func13,by kernel_rfl⟩
theorem l216:FnOk Tryz.prog ids alts 216 (erFn w216):=⟨Tryz.f39,Tryz.func39,by kernel_rfl⟩
theorem l217:FnOk Tryz.prog ids alts 217 (erFn w217):=⟨Tryz.f41,Tryz.func41,by kernel_rfl⟩
theorem l218:FnOk Tryz.prog ids alts 218 (erFn w218):=⟨Tryz.f44,Tryz.func44,by kernel_rfl⟩
theorem l219:FnOk Tryz.prog ids alts 219 (erFn w219):=⟨Tryz.f40,Tryz.func40,by kernel_rfl⟩
theorem l220:FnOk Tryz.prog ids alts 220 (erFn w220):=⟨Tryz.f42,Tryz.func42,by kernel_rfl⟩
theorem l221:FnOk Tryz.prog ids alts 221 (erFn w221):=⟨Tryz.f43,Tryz.func43,by kernel_rfl⟩
theorem l222:FnOk Tryz.prog ids alts 222 (erFn w222):=⟨Tryz.f76,Tryz.func76,by kernel_rfl⟩
theorem l223:FnOk Tryz.prog ids alts 223 (erFn w223):=⟨Tryz.f65,Tryz.func65,by kernel_rfl⟩
theorem l224:FnOk Tryz.prog ids alts 224 (erFn w224):=⟨Tryz.f69,Tryz.func69,by kernel_rfl⟩
theorem l225:FnOk Tryz.prog ids alts 225 (erFn w225):=⟨Tryz.f70,Tryz.func70,by kernel_rfl⟩
theorem l226:FnOk Tryz.prog ids alts 226 (erFn w226):=⟨Tryz.f71,Tryz.func71,by kernel_rfl⟩
theorem l227:FnOk Tryz.prog ids alts 227 (erFn w227):=⟨Tryz.f72,Tryz.func72,by kernel_rfl⟩
theorem l228:FnOk Tryz.prog ids alts 228 (erFn w228):=⟨Tryz.f73,Tryz.func73,by kernel_rfl⟩
theorem l229:FnOk Tryz.prog ids alts 229 (erFn w229):=⟨Tryz.f74,Tryz.func74,by kernel_rfl⟩
theorem l230:FnOk Tryz.prog ids alts 230 (erFn w230):=⟨Tryz.f138,Tryz.func138,by kernel_rfl⟩
theorem l231:FnOk Tryz.prog ids alts 231 (erFn w231):=⟨Tryz.f139,Tryz.func139,by kernel_rfl⟩
theorem l232:FnOk Tryz.prog ids alts 232 (erFn w232):=⟨Tryz.f140,Tryz.func140,by kernel_rfl⟩
theorem l234:FnOk Tryz.prog ids alts 234 (erFn w234):=⟨Tryz.f5,Tryz.func5,by kernel_rfl⟩
theorem l235:FnOk Tryz.prog ids alts 235 (erFn w235):=⟨Tryz.f14,Tryz.func14,by kernel_rfl⟩
theorem l236:FnOk Tryz.prog ids alts 236 (erFn w236):=⟨Tryz.f46,Tryz.func46,by kernel_rfl⟩
theorem l237:FnOk Tryz.prog ids alts 237 (erFn w237):=⟨Tryz.f31,Tryz.func31,by kernel_rfl⟩
theorem l239:FnOk Tryz.prog ids alts 239 (erFn w239):=⟨Tryz.f48,Tryz.func48,by kernel_rfl⟩
theorem l240:FnOk Tryz.prog ids alts 240 (erFn w240):=⟨Tryz.f36,Tryz.func36,by kernel_rfl⟩
theorem l243:FnOk Tryz.prog ids alts 243 (erFn w243):=⟨Tryz.f10,Tryz.func10,by kernel_rfl⟩
theorem l244:FnOk Tryz.prog ids alts 244 (erFn w244):=⟨Tryz.f26,Tryz.func26,by kernel_rfl⟩
theorem l245:FnOk Tryz.prog ids alts 245 (erFn w245):=⟨Tryz.f29,Tryz.func29,by kernel_rfl⟩
theorem l270:FnOk Tryz.prog ids alts 270 (erFn w270):=⟨Tryz.f34,Tryz.func34,by kernel_rfl⟩
theorem l271:FnOk Tryz.prog ids alts 271 (erFn w271):=⟨Tryz.f35,Tryz.func35,by kernel_rfl⟩
theorem l282:FnOk Tryz.prog ids alts 282 (erFn w282):=⟨Tryz.f169,Tryz.func169,by kernel_rfl⟩
theorem l340:FnOk Tryz.prog ids alts 340 (erFn w340):=⟨Tryz.f66,Tryz.func66,by kernel_rfl⟩
theorem l398:FnOk Tryz.prog ids alts 398 (erFn w398):=⟨Tryz.f82,Tryz.func82,by kernel_rfl⟩
theorem l399:FnOk Tryz.prog ids alts 399 (erFn w399):=⟨Tryz.f83,Tryz.func83,by kernel_rfl⟩
theorem l400:FnOk Tryz.prog ids alts 400 (erFn w400):=⟨Tryz.f84,Tryz.func84,by kernel_rfl⟩
theorem l401:FnOk Tryz.prog ids alts 401 (erFn w401):=⟨Tryz.f85,Tryz.func85,by kernel_rfl⟩
theorem l402:FnOk Tryz.prog ids alts 402 (erFn w402):=⟨Tryz.f109,Tryz.func109,by kernel_rfl⟩
theorem l403:FnOk Tryz.prog ids alts 403 (erFn w403):=⟨Tryz.f110,Tryz.func110,by kernel_rfl⟩
theorem l404:FnOk Tryz.prog ids alts 404 (erFn w404):=⟨Tryz.f159,Tryz.func159,by kernel_rfl⟩
theorem l405:FnOk Tryz.prog ids alts 405 (erFn w405):=⟨Tryz.f160,Tryz.func160,by kernel_rfl⟩
theorem l406:FnOk Tryz.prog ids alts 406 (erFn w406):=⟨Tryz.f47,Tryz.func47,by kernel_rfl⟩
theorem l407:FnOk Tryz.prog ids alts 407 (erFn w407):=⟨Tryz.f38,Tryz.func38,by kernel_rfl⟩
theorem l408:FnOk Tryz.prog ids alts 408 (erFn w408):=⟨Tryz.f86,Tryz.func86,by kernel_rfl⟩
theorem l409:FnOk Tryz.prog ids alts 409 (erFn w409):=⟨Tryz.f75,Tryz.func75,by kernel_rfl⟩
theorem l422:FnOk Tryz.prog ids alts 422 (erFn w422):=⟨Tryz.f77,Tryz.func77,by kernel_rfl⟩
theorem l423:FnOk Tryz.prog ids alts 423 (erFn w423):=⟨Tryz.f78,Tryz.func78,by kernel_rfl⟩
theorem l424:FnOk Tryz.prog ids alts 424 (erFn w424):=⟨Tryz.f79,Tryz.func79,by kernel_rfl⟩
theorem l425:FnOk Tryz.prog ids alts 425 (erFn w425):=⟨Tryz.f80,Tryz.func80,by kernel_rfl⟩
theorem l433:FnOk Tryz.prog ids alts 433 (erFn w433):=⟨Tryz.f177,Tryz.func177,by kernel_rfl⟩
theorem l434:FnOk Tryz.prog ids alts 434 (erFn w434):=⟨Tryz.f178,Tryz.func178,by kernel_rfl⟩
theorem l439:FnOk Tryz.prog ids alts 439 (erFn w439):=⟨Tryz.f174,Tryz.func174,by kernel_rfl⟩
theorem l441:FnOk Tryz.prog ids alts 441 (erFn w441):=⟨Tryz.f115,Tryz.func115,by kernel_rfl⟩
theorem l442:FnOk Tryz.prog ids alts 442 (erFn w442):=⟨Tryz.f116,Tryz.func116,by kernel_rfl⟩
theorem l459:FnOk Tryz.prog ids alts 459 (erFn w459):=⟨Tryz.f107,Tryz.func107,by kernel_rfl⟩
theorem l460:FnOk Tryz.prog ids alts 460 (erFn w460):=⟨Tryz.f108,Tryz.func108,by kernel_rfl⟩
theorem l461:FnOk Tryz.prog ids alts 461 (erFn w461):=⟨Tryz.f8,Tryz.func8,by kernel_rfl⟩
theorem l463:FnOk Tryz.prog ids alts 463 (erFn w463):=⟨Tryz.f11,Tryz.func11,by kernel_rfl⟩
theorem l494:FnOk Tryz.prog ids alts 494 (erFn w494):=⟨Tryz.f117,Tryz.func117,by kernel_rfl⟩
theorem l495:FnOk Tryz.prog ids alts 495 (erFn w495):=⟨Tryz.f118,Tryz.func118,by kernel_rfl⟩
theorem l496:FnOk Tryz.prog ids alts 496 (erFn w496):=⟨Tryz.f119,Tryz.func119,by kernel_rfl⟩
theorem l497:FnOk Tryz.prog ids alts 497 (erFn w497):=⟨Tryz.f120,Tryz.func120,by kernel_rfl⟩
theorem l498:FnOk Tryz.prog ids alts 498 (erFn w498):=⟨Tryz.f121,Tryz.func121,by kernel_rfl⟩
theorem l499:FnOk Tryz.prog ids alts 499 (erFn w499):=⟨Tryz.f122,Tryz.func122,by kernel_rfl⟩
theorem l500:FnOk Tryz.prog ids alts 500 (erFn w500):=⟨Tryz.f123,Tryz.func123,by kernel_rfl⟩
theorem l501:FnOk Tryz.prog ids alts 501 (erFn w501):=⟨Tryz.f124,Tryz.func124,by kernel_rfl⟩
theorem l502:FnOk Tryz.prog ids alts 502 (erFn w502):=⟨Tryz.f172,Tryz.func172,by kernel_rfl⟩
theorem l503:FnOk Tryz.prog ids alts 503 (erFn w503):=⟨Tryz.f173,Tryz.func173,by kernel_rfl⟩
theorem l504:FnOk Tryz.prog ids alts 504 (erFn w504):=⟨Tryz.f81,Tryz.func81,by kernel_rfl⟩
theorem l505:FnOk Tryz.prog ids alts 505 (erFn w505):=⟨Tryz.f125,Tryz.func125,by kernel_rfl⟩
theorem l510:FnOk Tryz.prog ids alts 510 (erFn w510):=⟨Tryz.f111,Tryz.func111,by kernel_rfl⟩
theorem l511:FnOk Tryz.prog ids alts 511 (erFn w511):=⟨Tryz.f112,Tryz.func112,by kernel_rfl⟩
theorem l512:FnOk Tryz.prog ids alts 512 (erFn w512):=⟨Tryz.f113,Tryz.func113,by kernel_rfl⟩
theorem l513:FnOk Tryz.prog ids alts 513 (erFn w513):=⟨Tryz.f114,Tryz.func114,by kernel_rfl⟩
theorem l516:FnOk Tryz.prog ids alts 516 (erFn w516):=⟨Tryz.f183,Tryz.func183,by kernel_rfl⟩
theorem l517:FnOk Tryz.prog ids alts 517 (erFn w517):=⟨Tryz.f184,Tryz.func184,by kernel_rfl⟩
theorem l518:FnOk Tryz.prog ids alts 518 (erFn w518):=⟨Tryz.f185,Tryz.func185,by kernel_rfl⟩
theorem l519:FnOk Tryz.prog ids alts 519 (erFn w519):=⟨Tryz.f186,Tryz.func186,by kernel_rfl⟩
theorem l520:FnOk Tryz.prog ids alts 520 (erFn w520):=⟨Tryz.f145,Tryz.func145,by kernel_rfl⟩
theorem l532:FnOk Tryz.prog ids alts 532 (erFn w532):=⟨Tryz.f37,Tryz.func37,by kernel_rfl⟩
theorem l543:FnOk Tryz.prog ids alts 543 (erFn w543):=⟨Tryz.f146,Tryz.func146,by kernel_rfl⟩
theorem l544:FnOk Tryz.prog ids alts 544 (erFn w544):=⟨Tryz.f147,Tryz.func147,by kernel_rfl⟩
theorem l545:FnOk Tryz.prog ids alts 545 (erFn w545):=⟨Tryz.f148,Tryz.func148,by kernel_rfl⟩
theorem l546:FnOk Tryz.prog ids alts 546 (erFn w546):=⟨Tryz.f149,Tryz.func149,by kernel_rfl⟩
theorem l547:FnOk Tryz.prog ids alts 547 (erFn w547):=⟨Tryz.f150,Tryz.func150,by kernel_rfl⟩
theorem l548:FnOk Tryz.prog ids alts 548 (erFn w548):=⟨Tryz.f181,Tryz.func181,by kernel_rfl⟩
theorem l549:FnOk Tryz.prog ids alts 549 (erFn w549):=⟨Tryz.f182,Tryz.func182,by kernel_rfl⟩
theorem l550:FnOk Tryz.prog ids alts 550 (erFn w550):=⟨Tryz.f152,Tryz.func152,by kernel_rfl⟩
theorem l556:FnOk Tryz.prog ids alts 556 (erFn w556):=⟨Tryz.f141,Tryz.func141,by kernel_rfl⟩
theorem l557:FnOk Tryz.prog ids alts 557 (erFn w557):=⟨Tryz.f142,Tryz.func142,by kernel_rfl⟩
theorem l558:FnOk Tryz.prog ids alts 558 (erFn w558):=⟨Tryz.f143,Tryz.func143,by kernel_rfl⟩
theorem l559:FnOk Tryz.prog ids alts 559 (erFn w559):=⟨Tryz.f144,Tryz.func144,by kernel_rfl⟩
theorem l560:FnOk Tryz.prog ids alts 560 (erFn w560):=⟨Tryz.f188,Tryz.func188,by kernel_rfl⟩
theorem l561:FnOk Tryz.prog ids alts 561 (erFn w561):=⟨Tryz.f189,Tryz.func189,by kernel_rfl⟩
theorem l562:FnOk Tryz.prog ids alts 562 (erFn w562):=⟨Tryz.f190,Tryz.func190,by kernel_rfl⟩
theorem l563:FnOk Tryz.prog ids alts 563 (erFn w563):=⟨Tryz.f161,Tryz.func161,by kernel_rfl⟩
theorem l578:FnOk Tryz.prog ids alts 578 (erFn w578):=⟨Tryz.f162,Tryz.func162,by kernel_rfl⟩
theorem l579:FnOk Tryz.prog ids alts 579 (erFn w579):=⟨Tryz.f163,Tryz.func163,by kernel_rfl⟩
theorem l580:FnOk Tryz.prog ids alts 580 (erFn w580):=⟨Tryz.f164,Tryz.func164,by kernel_rfl⟩
theorem l581:FnOk Tryz.prog ids alts 581 (erFn w581):=⟨Tryz.f165,Tryz.func165,by kernel_rfl⟩
theorem l582:FnOk Tryz.prog ids alts 582 (erFn w582):=⟨Tryz.f166,Tryz.func166,by kernel_rfl⟩
theorem l583:FnOk Tryz.prog ids alts 583 (erFn w583):=⟨Tryz.f167,Tryz.func167,by kernel_rfl⟩
theorem l584:FnOk Tryz.prog ids alts 584 (erFn w584):=⟨Tryz.f168,Tryz.func168,by kernel_rfl⟩
theorem l585:FnOk Tryz.prog ids alts 585 (erFn w585):=⟨Tryz.f187,Tryz.func187,by kernel_rfl⟩
theorem l586:FnOk Tryz.prog ids alts 586 (erFn w586):=⟨Tryz.f170,Tryz.func170,by kernel_rfl⟩
theorem l592:FnOk Tryz.prog ids alts 592 (erFn w592):=⟨Tryz.f175,Tryz.func175,by kernel_rfl⟩
theorem l593:FnOk Tryz.prog ids alts 593 (erFn w593):=⟨Tryz.f176,Tryz.func176,by kernel_rfl⟩
theorem l594:FnOk Tryz.prog ids alts 594 (erFn w594):=⟨Tryz.f179,Tryz.func179,by kernel_rfl⟩
theorem l596:FnOk Tryz.prog ids alts 596 (erFn w596):=⟨Tryz.f3,Tryz.func3,by kernel_rfl⟩
theorem l2001:FnOk Tryz.prog ids alts 2001 (erFn w226):=⟨Tryz.f71,Tryz.func71,by kernel_rfl⟩
theorem l5045:FnOk Tryz.prog ids alts 5045 (erFn w5045):=⟨Tryz.f108,Tryz.func108,by kernel_rfl⟩
theorem l5044:FnOk Tryz.prog ids alts 5044 (erFn w5044):=⟨Tryz.f66,Tryz.func66,by kernel_rfl⟩
theorem l5043:FnOk Tryz.prog ids alts 5043 (erFn w5043):=⟨Tryz.f71,Tryz.func71,by kernel_rfl⟩
theorem l2042:FnOk Tryz.prog ids alts 2042 (erFn w2042):=⟨Tryz.f39,Tryz.func39,by kernel_rfl⟩
theorem l5041:FnOk Tryz.prog ids alts 5041 (erFn w5041):=⟨Tryz.f9,Tryz.func9,by kernel_rfl⟩
def prog:WProg:=⟨tree,Go.D.inlB,Go.D.ppB⟩
theorem all:TreeAll (FnOk Tryz.prog ids alts) (erProg prog).fns:=⟨⟨⟨⟨⟨⟨⟨trivial,l0,trivial⟩,l107,⟨trivial,l108,trivial⟩⟩,l109,⟨⟨trivial,l110,trivial⟩,l111,⟨trivial,l112,trivial⟩⟩⟩,l113,⟨⟨⟨trivial,l114,trivial⟩,l115,⟨trivial,l119,trivial⟩⟩,l126,⟨⟨trivial,l130,trivial⟩,l140,⟨trivial,l172,trivial⟩⟩⟩⟩,l216,⟨⟨⟨⟨trivial,l217,trivial⟩,l218,⟨trivial,l219,trivial⟩⟩,l220,⟨⟨trivial,l221,trivial⟩,l222,⟨trivial,l223,trivial⟩⟩⟩,l224,⟨⟨⟨trivial,l225,trivial⟩,l226,⟨trivial,l227,trivial⟩⟩,l228,⟨⟨trivial,l229,trivial⟩,l230,⟨trivial,l231,trivial⟩⟩⟩⟩⟩,l232,⟨⟨⟨⟨⟨trivial,l234,trivial⟩,l235,⟨trivial,l236,trivial⟩⟩,l237,⟨⟨trivial,l239,trivial⟩,l240,⟨trivial,l243,trivial⟩⟩⟩,l244,⟨⟨⟨trivial,l245,trivial⟩,l270,⟨trivial,l271,trivial⟩⟩,l282,⟨⟨trivial,l340,trivial⟩,l398,⟨trivial,l399,trivial⟩⟩⟩⟩,l400,⟨⟨⟨⟨trivial,l401,trivial⟩,l402,⟨trivial,l403,trivial⟩⟩,l404,⟨⟨trivial,l405,trivial⟩,l406,⟨trivial,l407,trivial⟩⟩⟩,l408,⟨⟨⟨trivial,l409,trivial⟩,l422,⟨trivial,l423,trivial⟩⟩,l424,⟨⟨trivial,l425,trivial⟩,l433,⟨trivial,l434,trivial⟩⟩⟩⟩⟩⟩,l439,⟨⟨⟨⟨⟨⟨trivial,l441,trivial⟩,l442,⟨trivial,l459,trivial⟩⟩,l460,⟨⟨trivial,l461,trivial⟩,l463,⟨trivial,l494,trivial⟩⟩⟩,l495,⟨⟨⟨trivial,l496,trivial⟩,l497,⟨trivial,l498,trivial⟩⟩,l499,⟨⟨trivial,l500,trivial⟩,l501,⟨trivial,l502,trivial⟩⟩⟩⟩,l503,⟨⟨⟨⟨trivial,l504,trivial⟩,l505,⟨trivial,l510,trivial⟩⟩,l511,⟨⟨trivial,l512,trivial⟩,l513,⟨trivial,l516,trivial⟩⟩⟩,l517,⟨⟨⟨trivial,l518,trivial⟩,l519,⟨trivial,l520,trivial⟩⟩,l532,⟨⟨trivial,l543,trivial⟩,l544,⟨trivial,l545,trivial⟩⟩⟩⟩⟩,l546,⟨⟨⟨⟨⟨trivial,l547,trivial⟩,l548,⟨trivial,l549,trivial⟩⟩,l550,⟨⟨trivial,l556,trivial⟩,l557,⟨trivial,l558,trivial⟩⟩⟩,l559,⟨⟨⟨trivial,l560,trivial⟩,l561,⟨trivial,l562,trivial⟩⟩,l563,⟨⟨trivial,l578,trivial⟩,l579,⟨trivial,l580,trivial⟩⟩⟩⟩,l581,⟨⟨⟨⟨trivial,l582,trivial⟩,l583,⟨trivial,l584,trivial⟩⟩,l585,⟨⟨trivial,l586,trivial⟩,l592,⟨trivial,l593,trivial⟩⟩⟩,l594,⟨⟨⟨trivial,l596,trivial⟩,l2001,⟨trivial,l2042,trivial⟩⟩,l5041,⟨⟨trivial,l5043,trivial⟩,l5044,⟨trivial,l5045,trivial⟩⟩⟩⟩⟩⟩⟩
theorem okT:okTree prog.fns=true:=by kernel_rfl
theorem link:Linked Tryz.prog (phiG ids alts) (psiOf ids) (erProg prog):=linked (by kernel_rfl) (by kernel_rfl) all (by kernel_rfl)
end P
end
section
namespace Go.D
open Go Go.Pav Go.Pw P
attribute [-simp] List.getElem_cons_drop
variable {C:WProg}
structure It where
 (k t:Int) (x:List UInt8) (m:List (List UInt8)) (e:Bool)
abbrev eIt (i:It):AV:=.agg [.int .u64 i.k,.int .u8 i.t,.str i.x,.ro 1 (i.m.map eS) i.e]
structure HasI (C:WProg):Prop extends HasS C where
 f398:C.fns.get 398=some w398
 f424:C.fns.get 424=some w424
 f494:C.fns.get 494=some w494
 f496:C.fns.get 496=some w496
 f497:C.fns.get 497=some w497
 f498:C.fns.get 498=some w498
 f499:C.fns.get 499=some w499
 f544:C.fns.get 544=some w544
theorem name_loop (H:HasS C) (s:List UInt8) (hl:s.length≤16):∀ n i,n+i=s.length →
 w511_K0 C ⟨[(3,.int .i64 i),(0,.str s)],[],0⟩=some (.int .i64 (if (s.drop i).all inN=true then 1 else 0)):=by
 intro n
 induction n with
 | zero =>
  intro i hi
  simp only [w511_K0];rw [ck_unf w511_B0.eq_1]
  have h1:s.drop i=[]:=List.drop_eq_nil_of_le (by omega)
  have h3:¬ i < s.length:=by omega
  simp [ck_unf w511_c0.eq_1,h1,h3]
 | succ n ih =>
  intro i hi
  have h1:i < s.length:=by omega
  have:=ih (i+1) (by omega)
  simp only [w511_K0] at this ⊢;rw [ck_unf w511_B0.eq_1]
  rw [drop_cons h1]
  generalize hX:((s.drop (i+1)).all inN)=X at *
  simp at this
  rw [List.all_cons,hX]
  have key:=inN_cases s[i]
  by_cases q1:97≤s[i].toNat <;> by_cases q2:s[i].toNat≤122 <;> by_cases q3:48≤s[i].toNat <;> by_cases q4:s[i].toNat≤57 <;> first
   | (exfalso;omega)
   | (have c : inN s[i] = true := by rcases key with ⟨c, _⟩ | ⟨_, q⟩ <;> first | exact c | (exfalso; omega)
      simp (disch:=omega) [h1,wI64,c,q1,q2,q3,q4,this];done)
   | (have c : inN s[i] = false := by rcases key with ⟨_, q⟩ | ⟨c, _⟩ <;> first | exact c | (exfalso; omega)
      simp (disch:=omega) [h1,wI64,c,q1,q2,q3,q4];done)
theorem name_ok (H:HasS C) (s:List UInt8):FnW C 511 [.str s]=some (.int .i64 (if isName s=true then 1 else 0)):=by
 rw [fnW_eq H.f511 rfl]
 unfold isName
 by_cases c1:1≤s.length
 · by_cases c2:s.length≤16
   · have:=name_loop H s c2 s.length 0 (by simp)
     simp only [w511_K0] at this
     simp only [List.drop_zero] at this
     generalize hX:s.all inN=X at *
     simp at this
     have c3:¬ ((s.length:Int) < 1):=by omega
     have c4:¬ (16 < (s.length:Int)):=by omega
     simp [w511,c1,c2,c3,c4,this]
   · have c3:¬ ((s.length:Int) < 1):=by omega
     have c4:(16 < (s.length:Int)):=by omega
     simp [w511,c1,c2,c3,c4]
 · have c3:((s.length:Int) < 1):=by omega
   simp [w511,c1,c3]
theorem pred496 (H:HasI C):Pred C 496 inT where
 asc b hb:=by
  rw [fnW_eq H.f496 rfl]
  by_cases c1:32≤b.toNat <;> by_cases c2:126 < b.toNat
  · have c:inT b=false:=decide_eq_false (fun q=>by omega)
    simp [w496,c,c1,c2]
  · have c:inT b=true:=decide_eq_true ⟨c1,by omega⟩
    simp [w496,c,c1,c2]
  · omega
  · have c:inT b=false:=decide_eq_false (fun q=>c1 q.1)
    simp [w496,c,c1,c2]
 high r hr:=by
  rw [fnW_eq H.f496 rfl]
  have h1:32≤r:=by omega
  have h2:126 < r:=by omega
  simp [w496,h1,h2]
 qh b hb:=decide_eq_false (fun q=>by omega)
 ne:=by rfl
 ni:=by rfl
structure PredS (C:WProg) (g:Nat) (Q:List UInt8→Bool):Prop where
 ok:∀ s,FnW C g [.str s]=some (.bool (!Q s))
 ne:ppB g=false
 ni:inlB g=false
theorem indexS_loop (H:HasI C) {g:Nat} {Q:List UInt8→Bool} (G:PredS C g Q) (l:List (List UInt8)) (e:Bool) (hl:l.length≤1000000):∀ n i,n+i=l.length →
 ∃ v:Int,w544_K0 C ⟨[(8,.int .i64 i),(7,.int .i64 l.length),(1,.fn g []),(0,.ro 1 (l.map eS) e)],[],0⟩=some (.int .i64 v)∧decide (v < 0)=(l.drop i).all Q:=by
 intro n
 induction n with
 | zero =>
  intro i hi
  simp only [w544_K0];rw [ck_unf w544_B0.eq_1]
  have h1:l.drop i=[]:=List.drop_eq_nil_of_le (by omega)
  have h3:¬ i < l.length:=by omega
  exact ⟨-1,by simp [ck_unf w544_c0.eq_1,h3],by simp [h1]⟩
 | succ n ih =>
  intro i hi
  have h1:i < l.length:=by omega
  have hN:=G.ne;have hI:=G.ni
  have hb:=G.ok l[i]
  rw [drop_cons h1]
  by_cases c:Q l[i]=true
  · obtain ⟨v,hv,hq⟩:=ih (i+1) (by omega)
    refine ⟨v,?_,by simp [hq,c]⟩
    simp only [w544_K0] at hv ⊢;rw [ck_unf w544_B0.eq_1]
    simp at hv
    simp (disch:=omega) [h1,wI64,hb,c,H.inl,hI,H.pp,hN,hv]
  · refine ⟨i,?_,by simp [c]⟩
    simp only [w544_K0];rw [ck_unf w544_B0.eq_1]
    simp (disch:=omega) [h1,hb,c,H.inl,hI,H.pp,hN]
theorem containsS_ok (H:HasI C) {g:Nat} {Q:List UInt8→Bool} (G:PredS C g Q) (l:List (List UInt8)) (e:Bool) (hl:l.length≤1000000) :
 FnW C 498 [.ro 1 (l.map eS) e,.fn g []]=some (.bool (!l.all Q)):=by
 obtain ⟨v,h,q⟩:=indexS_loop H G l e hl l.length 0 (by simp)
 simp at q
 have h2:FnW C 544 [.ro 1 (l.map eS) e,.fn g []]=some (.int .i64 v):=by
  rw [fnW_eq H.f544 rfl]
  simp only [w544_K0] at h
  simp at h
  simp [w544,h]
 rw [fnW_eq H.f498 rfl]
 have q':decide (v < 0)=l.all Q:=by simpa using q
 rw [← q']
 by_cases c:v < 0
 · have c':¬ 0≤v:=by omega
   simp [w498,H.inl,inlB,H.pp,ppB,h2,c,c']
 · have c':0≤v:=by omega
   simp [w498,H.inl,inlB,H.pp,ppB,h2,c,c']
theorem pred499 (H:HasI C):PredS C 499 isName where
 ok s:=by
  have:=iname_ok H.toHasS s
  rw [fnW_eq H.f499 rfl]
  simp [w499,H.inl,inlB,H.pp,ppB,this]
 ne:=by rfl
 ni:=by rfl
def itOk (n:Int) (i:It):Bool:=decide (i.k≠0)&&decide (i.t < n)&&isText i.x&&(decide (i.m.length≤8)&&i.m.all isName)
theorem icheck_ok (H:HasI C) (i:It) (n:Int) (ht:0≤i.t∧i.t≤255):FnW C 398 [eIt i,.int .i64 n]=some (.int .i64 (if itOk n i=true then 0 else 6)):=by
 have h1:FnW C 494 [.rop [.int .u64 i.k,.int .u8 i.t,.str i.x,.ro 1 (i.m.map eS) i.e]]=some (.bool (isText i.x)):=by
  have:=contains_ok H.toHasS (pred496 H) i.x
  rw [fnW_eq H.f494 rfl]
  unfold isText
  by_cases c2:i.x.length≤64
  · have c4:(i.x.length:Int)≤64:=by omega
    simp [w494,c2,c4,H.inl,inlB,H.pp,ppB,this]
  · have c4:¬ ((i.x.length:Int)≤64):=by omega
    simp [w494,c2,c4]
 have h2:FnW C 497 [.rop [.int .u64 i.k,.int .u8 i.t,.str i.x,.ro 1 (i.m.map eS) i.e]]=some (.bool (decide (i.m.length≤8)&&i.m.all isName)):=by
  rw [fnW_eq H.f497 rfl]
  by_cases c2:i.m.length≤8
  · have:=containsS_ok H (pred499 H) i.m i.e (by omega)
    have c4:(i.m.length:Int)≤8:=by omega
    simp [w497,c2,c4,H.inl,inlB,H.pp,ppB,this]
  · have c4:¬ ((i.m.length:Int)≤8):=by omega
    simp [w497,c2,c4]
 rw [fnW_eq H.f398 rfl]
 unfold itOk
 generalize isText i.x=X at *
 generalize (decide (i.m.length≤8)&&i.m.all isName)=M at *
 by_cases c1:i.k=0
 · simp [w398,c1]
 · by_cases c2:n≤i.t
   · have c3:¬ i.t < n:=by omega
     simp (disch:=omega) [w398,c1,c2,c3,wI64]
   · have c3:i.t < n:=by omega
     cases X
     · simp (disch:=omega) [w398,c1,c2,c3,wI64,H.inl,inlB,H.pp,ppB,h1]
     · cases M <;> simp (disch:=omega) [w398,c1,c2,c3,wI64,H.inl,inlB,H.pp,ppB,h1,h2]
theorem rcheck_loop (H:HasI C) (k t:Int) (x:List UInt8) (m:List (List UInt8)) (e:Bool) (hl:m.length≤1000000):∀ n i,n+i=m.length→∀ ok:Bool,
 w424_K0 C ⟨[(6,.int .i64 i),(5,.int .i64 (if ok=true then 1 else 0)),(2,.ptr 0 0 0)],[(0,.cells 4 [[.int .u64 k,.int .u8 t,.str x,.ro 1 (m.map eS) e]] true true)],1⟩ =
  some (.int .i64 (if (ok&&(m.drop i).all isName)=true then 0 else 6)):=by
 intro n
 induction n with
 | zero =>
  intro i hi ok
  simp only [w424_K0];rw [ck_unf w424_B0.eq_1]
  have h1:m.drop i=[]:=List.drop_eq_nil_of_le (by omega)
  have h3:¬ i < m.length:=by omega
  cases ok <;> simp [ck_unf w424_c0.eq_1,h1,h3]
 | succ n ih =>
  intro i hi ok
  have h1:i < m.length:=by omega
  have:=ih (i+1) (by omega) (ok&&isName m[i])
  have hb:=name_ok H.toHasS m[i]
  rw [drop_cons h1]
  generalize hX:(m.drop (i+1)).all isName=X at *
  rw [List.all_cons,hX]
  simp only [w424_K0] at this ⊢;rw [ck_unf w424_B0.eq_1]
  cases ok <;> cases hn:isName m[i] <;> rw [hn] at this hb <;> simp at this hb <;> simp (disch:=omega) [h1,wI64,hb,H.inl,inlB,H.pp,ppB,this]
theorem rcheck_ok (H:HasI C) (i:It) (n:Int) (ht:0≤i.t∧i.t≤255) (hl:i.m.length≤1000000):FnW C 424 [eIt i,.int .i64 n]=some (.int .i64 (if itOk n i=true then 0 else 6)):=by
 have hw:=words_ok H.toHasS i.x
 have hA:=rcheck_loop H i.k i.t i.x i.m i.e hl i.m.length 0 (by simp)
 have h0:=hA false
 have h1:=hA true
 rw [fnW_eq H.f424 rfl]
 unfold itOk
 simp only [List.drop_zero,Bool.false_and,Bool.true_and] at h0 h1
 generalize i.m.all isName=M at *
 generalize isText i.x=X at *
 simp only [w424_K0] at h0 h1
 simp at h0 h1
 by_cases c1:i.k=0
 · simp [w424,eq_true c1,H.inl,inlB,H.pp,ppB,hw,h0]
 · by_cases c2:n≤i.t
   · have c3:¬ i.t < n:=by omega
     simp (disch:=omega) [w424,c1,c2,c3,wI64,H.inl,inlB,H.pp,ppB,hw,h0]
   · have c3:i.t < n:=by omega
     by_cases c4:i.m.length≤8
     · have c5:¬ (8 < (i.m.length:Int)):=by omega
       cases X
       · simp (disch:=omega) [w424,c1,c2,c3,c4,c5,wI64,H.inl,inlB,H.pp,ppB,hw,h0]
       · simp (disch:=omega) [w424,c1,c2,c3,c4,c5,wI64,H.inl,inlB,H.pp,ppB,hw,h1]
     · have c5:(8 < (i.m.length:Int)):=by omega
       simp (disch:=omega) [w424,c1,c2,c3,c4,c5,wI64,H.inl,inlB,H.pp,ppB,hw,h0]
abbrev Bs:=List UInt8
@[simp] def eA (a:Bs × Bs):List AV:=[.str a.1,.str a.2]
structure Nd where
 k:Int
 t:Bs
 y:Bs
 a:List (Bs × Bs)
 ae:Bool
 x:Bs
 ch:List Nd
 ce:Bool
mutual
def Nd.c:Nd→List AV
 | ⟨k,t,y,a,ae,x,ch,ce⟩=>[.int .u8 k,.str t,.str y,.ro 2 (a.map eA) ae,.str x,.ro 6 (Nd.cs ch) ce]
def Nd.cs:List Nd→List (List AV)
 | []=>[]
 | n::r=>n.c::Nd.cs r
end
theorem Nd.cs_eq:∀ l:List Nd,Nd.cs l=l.map Nd.c
 | []=>rfl
 | n::r=>by rw [Nd.cs,Nd.cs_eq r];rfl
theorem Nd.c_eq (n:Nd):n.c=[.int .u8 n.k,.str n.t,.str n.y,.ro 2 (n.a.map eA) n.ae,.str n.x,.ro 6 (n.ch.map Nd.c) n.ce]:=by
 cases n;rw [Nd.c,Nd.cs_eq]
@[simp] theorem Nd.c_len (n:Nd):n.c.length=6:=by rw [Nd.c_eq];rfl
@[simp] theorem Nd.c_take (n:Nd):n.c.take 6=n.c:=List.take_of_length_le (by simp)
@[simp] theorem Nd.c0 (n:Nd):n.c[0]?=some (.int .u8 n.k):=by rw [Nd.c_eq];rfl
@[simp] theorem Nd.c1 (n:Nd):n.c[1]?=some (.str n.t):=by rw [Nd.c_eq];rfl
@[simp] theorem Nd.c2 (n:Nd):n.c[2]?=some (.str n.y):=by rw [Nd.c_eq];rfl
@[simp] theorem Nd.c3 (n:Nd):n.c[3]?=some (.ro 2 (n.a.map eA) n.ae):=by rw [Nd.c_eq];rfl
@[simp] theorem Nd.c4 (n:Nd):n.c[4]?=some (.str n.x):=by rw [Nd.c_eq];rfl
@[simp] theorem Nd.c5 (n:Nd):n.c[5]?=some (.ro 6 (n.ch.map Nd.c) n.ce):=by rw [Nd.c_eq];rfl
@[simp] theorem Nd.g0 (n:Nd) (h:0 < n.c.length):n.c[0]=.int .u8 n.k:=Option.some.inj ((List.getElem?_eq_getElem h).symm.trans n.c0)
@[simp] theorem Nd.g1 (n:Nd) (h:1 < n.c.length):n.c[1]=.str n.t:=Option.some.inj ((List.getElem?_eq_getElem h).symm.trans n.c1)
@[simp] theorem Nd.g2 (n:Nd) (h:2 < n.c.length):n.c[2]=.str n.y:=Option.some.inj ((List.getElem?_eq_getElem h).symm.trans n.c2)
@[simp] theorem Nd.g3 (n:Nd) (h:3 < n.c.length):n.c[3]=.ro 2 (n.a.map eA) n.ae:=Option.some.inj ((List.getElem?_eq_getElem h).symm.trans n.c3)
@[simp] theorem Nd.g4 (n:Nd) (h:4 < n.c.length):n.c[4]=.str n.x:=Option.some.inj ((List.getElem?_eq_getElem h).symm.trans n.c4)
@[simp] theorem Nd.g5 (n:Nd) (h:5 < n.c.length):n.c[5]=.ro 6 (n.ch.map Nd.c) n.ce:=Option.some.inj ((List.getElem?_eq_getElem h).symm.trans n.c5)
@[simp] theorem Nd.hd (n:Nd):n.c.head?=some (.int .u8 n.k):=by rw [Nd.c_eq];rfl
@[simp] theorem Nd.c_ptr (n:Nd):hasPtrL n.c=false:=by rw [Nd.c_eq];rfl
@[simp] theorem Nd.c_frz (n:Nd) (h:WHeap) (k:Nat):mapO (frzW h (k+1)) n.c=some n.c:=by rw [Nd.c_eq];rfl
@[simp] theorem Nd.c_reach (n:Nd) (h:WHeap) (k:Nat):n.c.flatMap (reachW h (k+1))=[]:=by rw [Nd.c_eq];rfl
@[simp] theorem Nd.c_ren (n:Nd) (π:Nat→Option Nat):renL π n.c=some n.c:=by rw [Nd.c_eq];rfl
@[simp] theorem Nd.c_refs (n:Nd):refsL n.c=[]:=by rw [Nd.c_eq];rfl
@[simp] theorem Nd.c_isC (n:Nd):n.c.all isC=true:=by rw [Nd.c_eq];rfl
@[simp] theorem Nd.c_cell (n:Nd):n.c.all AV.cell=true:=by rw [Nd.c_eq];rfl
def after:Option Bs→Bs→Bool
 | none,_=>true
 | some p,a=>decide (p < a)
def atOk:Option Bs→List (Bs × Bs)→Bool
 | _,[]=>true
 | p,a::r=>isName a.1&&isText a.2&&after p a.1&&atOk (some a.1) r
def keysOk:List Bs→List Bs→Bool
 | _,[]=>true
 | p,k::r=>!(decide (k≠[])&&p.contains k)&&keysOk (p++[k]) r
def alone (n:Nd):Bool :=
 if n.k=2 then isText n.x&&decide (n.t=[])&&decide (n.y=[])&&decide (n.a=[])&&decide (n.ch=[])
 else decide (n.k=1)&&isName n.t&&(decide (n.y=[])||isName n.y)&&decide (n.x=[])&&decide (n.a.length≤8)&&decide (n.ch.length≤16)&&atOk none n.a&&keysOk [] (n.ch.map Nd.y)
structure HasN (C:WProg):Prop extends HasS C where
 f434:C.fns.get 434=some w434
 f519:C.fns.get 519=some w519
 f518:C.fns.get 518=some w518
 f562:C.fns.get 562=some w562
theorem k519 (H:HasN C) (n:Nd) (c:Nd):FnW C 519 [.agg n.c,.rop c.c]=some (.bool (decide (n.y=c.y))):=by
 rw [fnW_eq H.f519 rfl,Nd.c_eq,Nd.c_eq]
 by_cases h:n.y=c.y
 · simp [w519,h]
 · simp [w519,h]
theorem indexN_loop (H:HasN C) (c:Nd) (l:List Nd) (e:Bool) (hl:l.length≤1000000):∀ n i,n+i=l.length →
 ∃ v:Int,w562_K0 C ⟨[(8,.int .i64 i),(7,.int .i64 l.length),(1,.fn 519 [.rop c.c]),(0,.ro 6 (l.map Nd.c) e)],[],0⟩=some (.int .i64 v)∧decide (v < 0)=!((l.drop i).map Nd.y).contains c.y:=by
 intro n
 induction n with
 | zero =>
  intro i hi
  simp only [w562_K0];rw [ck_unf w562_B0.eq_1]
  have h1:l.drop i=[]:=List.drop_eq_nil_of_le (by omega)
  have h3:¬ i < l.length:=by omega
  exact ⟨-1,by simp [ck_unf w562_c0.eq_1,h3],by simp [h1]⟩
 | succ n ih =>
  intro i hi
  have h1:i < l.length:=by omega
  have hb:=k519 H l[i] c
  rw [drop_cons h1]
  by_cases q:l[i].y=c.y
  · refine ⟨i,?_,by simp [q]⟩
    simp only [w562_K0];rw [ck_unf w562_B0.eq_1]
    simp (disch:=omega) [h1,hb,q,H.inl,inlB,H.pp,ppB]
  · obtain ⟨v,hv,hq⟩:=ih (i+1) (by omega)
    refine ⟨v,?_,?_⟩
    · simp only [w562_K0] at hv ⊢;rw [ck_unf w562_B0.eq_1]
      simp at hv
      simp (disch:=omega) [h1,wI64,hb,q,H.inl,inlB,H.pp,ppB,hv]
    · have q':¬ c.y=l[i].y:=fun h=>q h.symm
      simp [hq,q']
theorem containsN_ok (H:HasN C) (c:Nd) (l:List Nd) (e:Bool) (hl:l.length≤1000000):FnW C 518 [.ro 6 (l.map Nd.c) e,.fn 519 [.rop c.c]]=some (.bool ((l.map Nd.y).contains c.y)):=by
 obtain ⟨v,h,q⟩:=indexN_loop H c l e hl l.length 0 (by simp)
 rw [List.drop_zero] at q
 have h2:FnW C 562 [.ro 6 (l.map Nd.c) e,.fn 519 [.rop c.c]]=some (.int .i64 v):=by
  rw [fnW_eq H.f562 rfl]
  simp only [w562_K0] at h
  simp at h
  simp [w562,h]
 have q':(l.map Nd.y).contains c.y=!decide (v < 0):=by rw [q];simp
 rw [fnW_eq H.f518 rfl,q']
 by_cases c:v < 0
 · have c':¬ 0≤v:=by omega
   simp [w518,H.inl,inlB,H.pp,ppB,h2,c,c']
 · have c':0≤v:=by omega
   simp [w518,H.inl,inlB,H.pp,ppB,h2,c,c']
theorem blt_eq:∀ x y:Bs,Pav.bytesLess x y=decide (x < y)
 | [],[]=>by simp [Pav.bytesLess]
 | [],_::_=>by simp [Pav.bytesLess]
 | _::_,[]=>by simp [Pav.bytesLess]
 | a::x,b::y=>by
  rw [Pav.bytesLess,blt_eq x y]
  by_cases h:a < b
  · simp [h,List.cons_lt_cons_iff]
  · by_cases q:a=b
    · simp [h,q,List.cons_lt_cons_iff]
    · simp [h,q,List.cons_lt_cons_iff]
theorem leq_eq (x y:Bs):(Pav.bytesLess x y||x == y)=!decide (y < x):=by
 rw [blt_eq]
 by_cases h:y < x
 · have h1:¬ x < y:=fun q=>List.lt_irrefl x (List.lt_trans q h)
   have h2:¬ x=y:=fun q=>by subst q;exact List.lt_irrefl x h
   simp [h,h1,h2]
 · rcases Decidable.em (x=y) with q | q
   · simp [h,q]
   · have h1:x < y:=Classical.byContradiction fun p=>q (List.le_antisymm (List.not_lt.1 h) (List.not_lt.1 p))
     simp [h,h1]
theorem keys_loop (H:HasN C) (k:Int) (t y x:Bs) (a:List (Bs × Bs)) (ae ce:Bool) (ch:List Nd) (hl:ch.length≤1000000):∀ n i,n+i=ch.length →
 w434_K0 C ⟨[(142,.int .i64 i),(141,.int .i64 ch.length),(140,.ro 6 (ch.map Nd.c) ce),(0,.rop [.int .u8 k,.str t,.str y,.ro 2 (a.map eA) ae,.str x,.ro 6 (ch.map Nd.c) ce])],[],0⟩ =
  some (.bool (keysOk ((ch.map Nd.y).take i) ((ch.map Nd.y).drop i))):=by
 intro n
 induction n with
 | zero =>
  intro i hi
  simp only [w434_K0];rw [ck_unf w434_B0.eq_1]
  have h1:(ch.map Nd.y).drop i=[]:=List.drop_eq_nil_of_le (by simp;omega)
  have h3:¬ i < ch.length:=by omega
  simp [ck_unf w434_c0.eq_1,h1,h3,keysOk,-List.map_drop]
 | succ n ih =>
  intro i hi
  have h1:i < ch.length:=by omega
  have h2:i < (ch.map Nd.y).length:=by simp;omega
  have hb:=containsN_ok H ch[i] (ch.take i) false (by simp;omega)
  have:=ih (i+1) (by omega)
  rw [List.take_succ_eq_append_getElem h2] at this
  rw [drop_cons h2,keysOk]
  have hy:(ch.map Nd.y)[i]=ch[i].y:=by simp
  rw [List.map_take,List.map_take] at hb
  rw [hy] at this ⊢
  have hne:¬ i=ch.length:=by omega
  have hle:i≤ch.length:=by omega
  simp only [w434_K0] at this ⊢;rw [ck_unf w434_B0.eq_1]
  generalize hP:(ch.map Nd.y).take i=P at *
  generalize hQ:(ch.map Nd.y).drop (i+1)=Q at *
  simp at this
  by_cases c1:ch[i].y=[]
  · rw [c1] at this
    simp (disch:=omega) [h1,wI64,c1,H.inl,inlB,H.pp,ppB,this]
  · by_cases c2:P.contains ch[i].y=true
    · rw [c2] at hb
      have c2':ch[i].y ∈ P:=by simpa using c2
      simp (disch:=omega) [h1,hne,hle,wI64,c1,c2',hb,H.inl,inlB,H.pp,ppB,this]
    · have c2':¬ ch[i].y ∈ P:=by simpa using c2
      have c3:P.contains ch[i].y=false:=by simpa using c2
      rw [c3] at hb
      simp (disch:=omega) [h1,hne,hle,wI64,c1,c2',hb,H.inl,inlB,H.pp,ppB,this]
theorem attrs_loop (H:HasN C) (k:Int) (t y x:Bs) (a:List (Bs × Bs)) (ae ce:Bool) (ch:List Nd) (hl:ch.length≤1000000) (ha:a.length≤1000000):∀ n i,n+i=a.length →
 w434_K1 C ⟨[(103,.int .i64 i),(102,.int .i64 a.length),(101,.ro 2 (a.map eA) ae),(0,.rop [.int .u8 k,.str t,.str y,.ro 2 (a.map eA) ae,.str x,.ro 6 (ch.map Nd.c) ce])],[],0⟩ =
  some (.bool (atOk (if i=0 then none else (a[i - 1]?).map Prod.fst) (a.drop i)&&keysOk [] (ch.map Nd.y))):=by
 intro n
 induction n with
 | zero =>
  intro i hi
  have hk:=keys_loop H k t y x a ae ce ch hl ch.length 0 (by simp)
  simp only [List.take_zero,List.drop_zero] at hk
  generalize keysOk [] (ch.map Nd.y)=K at *
  simp only [w434_K0] at hk
  simp at hk
  simp only [w434_K1];rw [ck_unf w434_B1.eq_1]
  have h1:a.drop i=[]:=List.drop_eq_nil_of_le (by omega)
  have h3:¬ i < a.length:=by omega
  simp [ck_unf w434_c1.eq_1,h1,h3,atOk,hk]
 | succ n ih =>
  intro i hi
  have h1:i < a.length:=by omega
  have hb:=named_ok H.toHasS a[i].1
  have hc:=text_ok H.toHasS a[i].2
  have:=ih (i+1) (by omega)
  rw [if_neg (by omega),show i+1 - 1=i from rfl,List.getElem?_eq_getElem h1] at this
  rw [drop_cons h1,atOk]
  generalize hK:keysOk [] (ch.map Nd.y)=K at *
  simp only [w434_K1] at this ⊢;rw [ck_unf w434_B1.eq_1]
  simp only [Option.map_some] at this
  generalize atOk (some a[i].1) (a.drop (i+1))=R at *
  simp at this
  cases q1:isName a[i].1
  · rw [q1] at hb
    simp (disch:=omega) [h1,wI64,hb,H.inl,inlB,H.pp,ppB]
  · cases q2:isText a[i].2
    · rw [q1] at hb;rw [q2] at hc
      simp (disch:=omega) [h1,wI64,hb,hc,H.inl,inlB,H.pp,ppB]
    · rw [q1] at hb;rw [q2] at hc
      cases i with
      | zero =>
       simp at this
       simp (disch:=omega) [h1,wI64,hb,hc,H.inl,inlB,H.pp,ppB,this,after]
      | succ i =>
       have h4:i < a.length:=by omega
       have h5:(i:Int)+1 < a.length:=by omega
       simp at this
       by_cases q3:a[i].1 < a[i+1].1
       · have q4:¬ a[i+1].1≤a[i].1:=List.not_le.2 q3
         simp (disch:=omega) [h1,h4,h5,wI64,hb,hc,H.inl,inlB,H.pp,ppB,this,leq_eq,after,q3,q4]
       · have q4:a[i+1].1≤a[i].1:=List.not_lt.1 q3
         simp (disch:=omega) [h1,h4,h5,wI64,hb,hc,H.inl,inlB,H.pp,ppB,this,leq_eq,after,q3,q4]
theorem alone_ok (H:HasN C) (n:Nd):FnW C 434 [.rop n.c]=some (.bool (alone n)):=by
 obtain ⟨k,t,y,a,ae,x,ch,ce⟩:=n
 rw [fnW_eq H.f434 rfl,Nd.c_eq]
 simp only []
 unfold alone
 simp only []
 have ht:=named_ok H.toHasS t
 have hy:=named_ok H.toHasS y
 have hx:=text_ok H.toHasS x
 by_cases k2:k=2
 · rw [if_pos k2]
   generalize isText x=X at *
   cases X
   · simp [w434,k2,hx,H.inl,inlB,H.pp,ppB]
   · by_cases c1:t=[] <;> by_cases c2:y=[] <;> by_cases c3:a=[] <;> by_cases c4:ch=[] <;> simp [w434,k2,hx,H.inl,inlB,H.pp,ppB,c1,c2,c3,c4]
 · rw [if_neg k2]
   by_cases k1:k=1
   · cases q1:isName t
     · rw [q1] at ht;simp [w434,k1,ht,H.inl,inlB,H.pp,ppB]
     · rw [q1] at ht
       by_cases c2:y=[]
       · subst c2
         by_cases c3:x=[]
         · subst c3
           by_cases c4:a.length≤8
           · by_cases c5:ch.length≤16
             · have c6:¬ 8 < (a.length:Int):=by omega
               have c7:¬ 16 < (ch.length:Int):=by omega
               have hl:=attrs_loop H 1 t [] [] a ae ce ch (by omega) (by omega) a.length 0 (by simp)
               simp only [w434_K1,if_true,List.drop_zero] at hl
               generalize atOk none a=A at *
               generalize keysOk [] (ch.map Nd.y)=K at *
               simp at hl
               simp [w434,k1,ht,H.inl,inlB,H.pp,ppB,c4,c5,c6,c7,hl]
             · have c6:¬ 8 < (a.length:Int):=by omega
               have c7:16 < (ch.length:Int):=by omega
               simp [w434,k1,ht,H.inl,inlB,H.pp,ppB,c4,c5,c6,c7]
           · have c6:8 < (a.length:Int):=by omega
             simp [w434,k1,ht,H.inl,inlB,H.pp,ppB,c4,c6]
         · simp [w434,k1,ht,H.inl,inlB,H.pp,ppB,c3]
       · cases q2:isName y
         · rw [q2] at hy;simp [w434,k1,ht,hy,H.inl,inlB,H.pp,ppB,c2]
         · rw [q2] at hy
           by_cases c3:x=[]
           · subst c3
             by_cases c4:a.length≤8
             · by_cases c5:ch.length≤16
               · have c6:¬ 8 < (a.length:Int):=by omega
                 have c7:¬ 16 < (ch.length:Int):=by omega
                 have hl:=attrs_loop H 1 t y [] a ae ce ch (by omega) (by omega) a.length 0 (by simp)
                 simp only [w434_K1,if_true,List.drop_zero] at hl
                 generalize atOk none a=A at *
                 generalize keysOk [] (ch.map Nd.y)=K at *
                 simp at hl
                 simp [w434,k1,ht,hy,H.inl,inlB,H.pp,ppB,c2,c4,c5,c6,c7,hl]
               · have c6:¬ 8 < (a.length:Int):=by omega
                 have c7:16 < (ch.length:Int):=by omega
                 simp [w434,k1,ht,hy,H.inl,inlB,H.pp,ppB,c2,c4,c5,c6,c7]
             · have c6:8 < (a.length:Int):=by omega
               simp [w434,k1,ht,hy,H.inl,inlB,H.pp,ppB,c2,c4,c6]
           · simp [w434,k1,ht,hy,H.inl,inlB,H.pp,ppB,c2,c3]
   · simp [w434,k1,k2,H.inl,inlB,H.pp,ppB]
end Go.D
end
section
namespace Go.D
open Go Go.Pav Go.Pw P
attribute [-simp] List.getElem_cons_drop
variable {C:WProg}
mutual
/-- The walk below a node: whether it ends well, how many nodes, how many levels. -/
def wk:Nd→Nat→Nat × Nat→Bool × (Nat × Nat)
 | ⟨k,t,y,a,ae,x,ch,ce⟩,lv,(c,d)=>if 6 < lv∨64 < c+1∨alone ⟨k,t,y,a,ae,x,ch,ce⟩=false then (false,(c+1,max d lv)) else wks ch (lv+1) (c+1,max d lv)
def wks:List Nd→Nat→Nat × Nat→Bool × (Nat × Nat)
 | [],_,s=>(true,s)
 | m::r,lv,s=>if (wk m lv s).1=true then wks r lv (wk m lv s).2 else (false,(wk m lv s).2)
end
theorem wk_eq (n:Nd) (lv c d:Nat):wk n lv (c,d)=if 6 < lv∨64 < c+1∨alone n=false then (false,(c+1,max d lv)) else wks n.ch (lv+1) (c+1,max d lv):=by cases n;rw [wk]
structure HasM (C:WProg):Prop extends HasN C where
 f433:C.fns.get 433=some w433
 f282:C.fns.get 282=some w282
 f140:C.fns.get 140=some w140
 f439:C.fns.get 439=some w439
abbrev hpM (root:Nd) (s:Nat × Nat):WHeap:=[(0,.cells 6 [root.c] true true),(1,.cells 1 [[.int .i64 s.1]] true true),(2,.cells 1 [[.int .i64 s.2]] true true),(3,.cells 1 [[.fn 433 [.ptr 1 0 0,.ptr 2 0 0,.ptr 3 0 0]]] true false)]
mutual
theorem wk_bd:∀ (n:Nd) (lv c d:Nat),lv≤7→c≤64→d≤7→((wk n lv (c,d)).1=true→(wk n lv (c,d)).2.1≤64)∧(wk n lv (c,d)).2.2≤7
 | ⟨k,t,y,a,ae,x,ch,ce⟩,lv,c,d,h1,h2,h3=>by
  rw [wk]
  split
  · exact ⟨fun q=>by simp at q,by simp only;omega⟩
  · rename_i h
    exact wks_bd ch (lv+1) (c+1) (max d lv) (by omega) (by omega) (by omega)
theorem wks_bd:∀ (l:List Nd) (lv c d:Nat),lv≤7→c≤64→d≤7→((wks l lv (c,d)).1=true→(wks l lv (c,d)).2.1≤64)∧(wks l lv (c,d)).2.2≤7
 | [],lv,c,d,h1,h2,h3=>by rw [wks];exact ⟨fun _=>h2,h3⟩
 | m::r,lv,c,d,h1,h2,h3=>by
  have h4:=wk_bd m lv c d h1 h2 h3
  rw [wks]
  split
  · rename_i h
    exact wks_bd r lv _ _ h1 (h4.1 h) h4.2
  · exact ⟨fun q=>by simp at q,h4.2⟩
end
def Walks (C:WProg) (root nd:Nd):Prop:=∀ (lv c d n:Nat),4≤n→c≤64→d≤7→lv≤7 →
 ∃ n',RnW C 433 [.rop nd.c,.int .i64 lv,.ptr 1 0 0,.ptr 2 0 0,.ptr 3 0 0] (hpM root (c,d)) n=some (.bool (wk nd lv (c,d)).1,hpM root (wk nd lv (c,d)).2,n')
theorem imax_cast (d lv:Nat):imax d lv=((max d lv:Nat):Int):=by
 by_cases h:lv≤d
 · rw [imax_l (by omega),Nat.max_eq_left h]
 · rw [imax_r (by omega),Nat.max_eq_right (by omega)]
theorem walk_loop (H:HasM C) (root nd:Nd) (X:AV) (hX:X=.rop nd.c∨X=.ptr 0 0 0∧root=nd) (lv n:Nat) (hn:4≤n) (hlv:lv≤6) (hl:nd.ch.length≤16) (ih:∀ m ∈ nd.ch,Walks C root m):∀ j i,j+i=nd.ch.length→∀ c d,c≤64→d≤7 →
 ∃ n',CK C n (fnEndW [.tmp 7]) [.sq w433_L0,.bk 0 ⟨true,[],[]⟩,.sq w433_c0] w433_B0 ⟨[(30,.int .i64 i),(29,.int .i64 nd.ch.length),(4,.ptr 3 0 0),(1,.int .i64 lv),(0,X)],hpM root (c,d),n⟩ =
  some (.bool (wks (nd.ch.drop i) (lv+1) (c,d)).1,hpM root (wks (nd.ch.drop i) (lv+1) (c,d)).2,n'):=by
 have n0:0 < n:=by omega
 have n1:1 < n:=by omega
 have n2:2 < n:=by omega
 have n3:3 < n:=by omega
 intro j
 induction j with
 | zero =>
  intro i hi c d hc hd
  have h1:nd.ch.drop i=[]:=List.drop_eq_nil_of_le (by omega)
  have h3:¬ i < nd.ch.length:=by omega
  rw [h1,wks,ck_unf w433_B0.eq_1]
  refine ⟨?_,?_⟩
  rotate_left
  · rcases hX with rfl | ⟨rfl,rfl⟩
    · simp (disch:=omega) [ck_unf w433_c0.eq_1,n0,n1,n2,n3,h3]
      rfl
    · simp (disch:=omega) [ck_unf w433_c0.eq_1,n0,n1,n2,n3,h3]
 | succ j ihj =>
  intro i hi c d hc hd
  have h1:i < nd.ch.length:=by omega
  obtain ⟨n',hw⟩:=ih _ (List.getElem_mem h1) (lv+1) c d (n+1+1+1+11) (by omega) hc hd (by omega)
  have hb:=wk_bd nd.ch[i] (lv+1) c d (by omega) hc hd
  rw [drop_cons h1,wks]
  generalize hR:wk nd.ch[i] (lv+1) (c,d)=R at *
  obtain ⟨r,c',d'⟩:=R
  cases r with
  | true =>
   obtain ⟨n2',hw2⟩:=ihj (i+1) (by omega) c' d' (hb.1 rfl) hb.2
   refine ⟨n2',?_⟩
   rw [if_pos rfl]
   rw [ck_unf w433_B0.eq_1]
   simp at hw hw2
   rcases hX with rfl | ⟨rfl,rfl⟩
   · simp (disch:=omega) [wI64,H.inl,inlB,H.pp,ppB,n0,n1,n2,n3,h1,hw,hw2]
   · simp (disch:=omega) [wI64,H.inl,inlB,H.pp,ppB,n0,n1,n2,n3,h1,hw,hw2]
  | false =>
   rw [if_neg (by simp)]
   rw [ck_unf w433_B0.eq_1]
   simp at hw
   refine ⟨?_,?_⟩
   rotate_left
   · rcases hX with rfl | ⟨rfl,rfl⟩
     · simp (disch:=omega) [wI64,H.inl,inlB,H.pp,ppB,n0,n1,n2,n3,h1,hw]
       rfl
     · simp (disch:=omega) [wI64,H.inl,inlB,H.pp,ppB,n0,n1,n2,n3,h1,hw]
theorem walk_step (H:HasM C) (root nd:Nd) (X:AV) (hX:X=.rop nd.c∨X=.ptr 0 0 0∧root=nd) (ih:∀ m ∈ nd.ch,Walks C root m) (lv c d n:Nat) (hn:4≤n) (hc:c≤64) (hd:d≤7) (hlv:lv≤7) :
 ∃ n',RnW C 433 [X,.int .i64 lv,.ptr 1 0 0,.ptr 2 0 0,.ptr 3 0 0] (hpM root (c,d)) n=some (.bool (wk nd lv (c,d)).1,hpM root (wk nd lv (c,d)).2,n'):=by
 rw [rnW_eq (args:=[X,.int .i64 lv,.ptr 1 0 0,.ptr 2 0 0,.ptr 3 0 0]) H.f433 rfl (hpM root (c,d)) n,wk_eq]
 have ha:=alone_ok H.toHasN nd
 have n0:0 < n:=by omega
 have n1:1 < n:=by omega
 have n2:2 < n:=by omega
 have n3:3 < n:=by omega
 by_cases b1:6 < lv
 · rw [if_pos (.inl b1)]
   refine ⟨?_,?_⟩
   rotate_left
   · rcases hX with rfl | ⟨rfl,rfl⟩
     · simp (disch:=omega) [w433,wI64,H.inl,inlB,H.pp,ppB,b1,n0,n1,n2,n3,imax_cast]
       rfl
     · simp (disch:=omega) [w433,wI64,H.inl,inlB,H.pp,ppB,b1,n0,n1,n2,n3,imax_cast]
 · by_cases b2:64 < c+1
   · rw [if_pos (.inr (.inl b2))]
     have b2':64 < (c:Int)+1:=by omega
     refine ⟨?_,?_⟩
     rotate_left
     · rcases hX with rfl | ⟨rfl,rfl⟩
       · simp (disch:=omega) [w433,wI64,H.inl,inlB,H.pp,ppB,b1,b2',n0,n1,n2,n3,imax_cast]
         rfl
       · simp (disch:=omega) [w433,wI64,H.inl,inlB,H.pp,ppB,b1,b2',n0,n1,n2,n3,imax_cast]
   · have b2':¬ 64 < (c:Int)+1:=by omega
     cases b3:alone nd with
     | false =>
      rw [if_pos (.inr (.inr rfl))]
      rw [b3] at ha
      refine ⟨?_,?_⟩
      rotate_left
      · rcases hX with rfl | ⟨rfl,rfl⟩
        · simp (disch:=omega) [w433,wI64,H.inl,inlB,H.pp,ppB,b1,b2',ha,n0,n1,n2,n3,imax_cast]
          rfl
        · simp (disch:=omega) [w433,wI64,H.inl,inlB,H.pp,ppB,b1,b2',ha,n0,n1,n2,n3,imax_cast]
     | true =>
      rw [if_neg (by simp;omega)]
      have hl:nd.ch.length≤16:=by
       unfold alone at b3
       split at b3
       · simp at b3;rw [b3.2];simp
       · simp at b3;omega
      rw [b3] at ha
      obtain ⟨n',hw⟩:=walk_loop H root nd X hX lv n hn (by omega) hl ih nd.ch.length 0 (by simp) (c+1) (max d lv) (by omega) (by omega)
      refine ⟨n',?_⟩
      rw [List.drop_zero] at hw
      have hI:=imax_cast d lv
      generalize max d lv=D at *
      generalize wks nd.ch (lv+1) (c+1,D)=R at *
      simp only [hpM] at hw ⊢
      simp at hw
      rcases hX with rfl | ⟨rfl,rfl⟩
      · simp (disch:=omega) [w433,wI64,H.inl,inlB,H.pp,ppB,b1,b2',ha,n0,n1,n2,n3,hI,hw]
      · simp (disch:=omega) [w433,wI64,H.inl,inlB,H.pp,ppB,b1,b2',ha,n0,n1,n2,n3,hI,hw]
theorem size_ch (n:Nd):SizeOf.sizeOf n.ch < SizeOf.sizeOf n:=by cases n;simp;omega
theorem walks (H:HasM C) (root nd:Nd):Walks C root nd :=
 fun lv c d n hn hc hd hlv=>walk_step H root nd (.rop nd.c) (.inl rfl) (fun m hm=>walks H root m) lv c d n hn hc hd hlv
termination_by SizeOf.sizeOf nd
decreasing_by
 have:=List.sizeOf_lt_of_mem hm
 have:=size_ch nd
 omega
def cnt (n:Nd):Nat:=if (wk n 1 (0,0)).1=true then (wk n 1 (0,0)).2.1 else 0
def dep (n:Nd):Nat:=if (wk n 1 (0,0)).1=true then (wk n 1 (0,0)).2.2 else 0
theorem measure_ok (H:HasM C) (n:Nd):FnW C 282 [.agg n.c]=some (.tup [.int .i64 (cnt n),.int .i64 (dep n)]):=by
 rw [fnW_eq H.f282 rfl]
 have hw:=fun k hk=>walk_step H n n (.ptr 0 0 0) (.inr ⟨rfl,rfl⟩) (fun m _=>walks H n m) 1 0 0 k hk (by omega) (by omega) (by omega)
 unfold cnt dep
 generalize wk n 1 (0,0)=R at *
 obtain ⟨r,c,d⟩:=R
 obtain ⟨n',h⟩:=hw 8 (by omega)
 simp only [hpM] at h
 simp at h
 cases r <;> simp [w282,H.inl,inlB,H.pp,ppB,h]
theorem count_ok (H:HasM C) (n:Nd):FnW C 140 [.agg n.c]=some (.int .i64 (cnt n)):=by
 have h:=measure_ok H n
 rw [fnW_eq H.f140 rfl]
 simp [w140,H.inl,inlB,H.pp,ppB,h]
theorem check_ok (H:HasM C) (n:Nd):FnW C 439 [.agg n.c]=some (.int .i64 (if cnt n=0 then 14 else 0)):=by
 have h:=count_ok H n
 rw [fnW_eq H.f439 rfl]
 by_cases c:cnt n=0
 · simp [w439,H.inl,inlB,H.pp,ppB,h,c]
 · simp [w439,H.inl,inlB,H.pp,ppB,h,c]
end Go.D
end
section
namespace Go.D
open Go Go.Pav Go.Pw P
attribute [-simp] List.getElem_cons_drop
variable {C:WProg}
structure HasR (C:WProg):Prop extends HasM C where
 f563:C.fns.get 563=some w563
 f520:C.fns.get 520=some w520
 f442:C.fns.get 442=some w442
 f441:C.fns.get 441=some w441
abbrev hp1 (n:Nd):WHeap:=[(0,.cells 6 [n.c] true true)]
theorem kin_loop (n:Nd) (i:Nat) (hi:i < n.ch.length) (hl:n.ch.length≤16) (R:AV)
 (hout:w563_K0 C ⟨[(5,.int .i64 (i+1:Nat)),(1,.ptr 0 0 0)],hp1 n,1⟩=some R):∀ j k,j+k=i →
 w563_K1 C ⟨[(6,.int .i64 k),(5,.int .i64 i),(1,.ptr 0 0 0)],hp1 n,1⟩=some (if decide (n.ch[i].y≠[])&&(((n.ch.map Nd.y).take i).drop k).contains n.ch[i].y then .bool false else R):=by
 intro j
 induction j with
 | zero =>
  intro k hk
  have h1:((n.ch.map Nd.y).take i).drop k=[]:=List.drop_eq_nil_of_le (by simp;omega)
  have h3:¬ k < i:=by omega
  simp only [w563_K0] at hout
  simp only [w563_K1];rw [ck_unf w563_B1.eq_1]
  simp at hout
  simp (disch:=omega) [ck_unf w563_c1.eq_1,h1,h3,wI64,hout]
 | succ j ih =>
  intro k hk
  have h1:k < i:=by omega
  have h2:k < n.ch.length:=by omega
  have hlt:k < ((n.ch.map Nd.y).take i).length:=by simp;omega
  have:=ih (k+1) (by omega)
  rw [drop_cons hlt]
  have hy:((n.ch.map Nd.y).take i)[k]=n.ch[k].y:=by simp
  rw [hy]
  generalize (((n.ch.map Nd.y).take i).drop (k+1))=Q at *
  simp only [w563_K1] at this ⊢;rw [ck_unf w563_B1.eq_1]
  simp at this
  by_cases c1:n.ch[i].y=[]
  · simp [c1] at this
    simp (disch:=omega) [h1,h2,hi,wI64,c1,this]
  · by_cases c2:n.ch[i].y=n.ch[k].y
    · have c3:¬ n.ch[k].y=[]:=by rw [← c2];exact c1
      simp (disch:=omega) [h1,h2,hi,wI64,c1,c2,c3]
    · simp [c1] at this
      simp (disch:=omega) [h1,h2,hi,wI64,c1,c2,this]
theorem kout_loop (n:Nd) (hl:n.ch.length≤16):∀ j i,j+i=n.ch.length →
 w563_K0 C ⟨[(5,.int .i64 i),(1,.ptr 0 0 0)],hp1 n,1⟩=some (.bool (keysOk ((n.ch.map Nd.y).take i) ((n.ch.map Nd.y).drop i))):=by
 intro j
 induction j with
 | zero =>
  intro i hi
  simp only [w563_K0];rw [ck_unf w563_B0.eq_1]
  have h1:(n.ch.map Nd.y).drop i=[]:=List.drop_eq_nil_of_le (by simp;omega)
  have h3:¬ i < n.ch.length:=by omega
  simp [ck_unf w563_c0.eq_1,h1,h3,keysOk,-List.map_drop]
 | succ j ih =>
  intro i hi
  have h1:i < n.ch.length:=by omega
  have h2:i < (n.ch.map Nd.y).length:=by simp;omega
  have hin:=kin_loop n i h1 hl _ (ih (i+1) (by omega)) i 0 (by simp)
  have hy:(n.ch.map Nd.y)[i]=n.ch[i].y:=by simp
  rw [List.take_succ_eq_append_getElem h2,List.drop_zero,hy] at hin
  rw [drop_cons h2,keysOk,hy]
  generalize (n.ch.map Nd.y).take i=P at *
  generalize (n.ch.map Nd.y).drop (i+1)=Q at *
  simp only [w563_K0,w563_K1] at hin ⊢;rw [ck_unf w563_B0.eq_1]
  simp at hin
  by_cases c1:n.ch[i].y=[]
  · simp [c1] at hin
    simp (disch:=omega) [h1,hin,c1]
  · by_cases c2:n.ch[i].y ∈ P
    · simp [c1,c2] at hin
      simp (disch:=omega) [h1,hin,c1,c2]
    · simp [c1,c2] at hin
      simp (disch:=omega) [h1,hin,c1,c2]
theorem ain_loop (n:Nd) (i:Nat) (hi:i < n.a.length) (hl:n.a.length≤8) (R:AV)
 (hout:w563_K2 C ⟨[(3,.int .i64 (i+1:Nat)),(1,.ptr 0 0 0)],hp1 n,1⟩=some R):∀ j k,j+k=i →
 w563_K3 C ⟨[(4,.int .i64 k),(3,.int .i64 i),(1,.ptr 0 0 0)],hp1 n,1⟩=some (if ((n.a.take i).drop k).all (fun b=>decide (b.1 < n.a[i].1))=true then R else .bool false):=by
 intro j
 induction j with
 | zero =>
  intro k hk
  have h1:(n.a.take i).drop k=[]:=List.drop_eq_nil_of_le (by simp;omega)
  have h3:¬ k < i:=by omega
  simp only [w563_K2] at hout
  simp only [w563_K3];rw [ck_unf w563_B3.eq_1]
  simp at hout
  simp (disch:=omega) [ck_unf w563_c3.eq_1,h1,h3,wI64,hout]
 | succ j ih =>
  intro k hk
  have h1:k < i:=by omega
  have h2:k < n.a.length:=by omega
  have hlt:k < (n.a.take i).length:=by simp;omega
  have:=ih (k+1) (by omega)
  rw [drop_cons hlt]
  have hy:(n.a.take i)[k]=n.a[k]:=by simp
  rw [hy]
  generalize ((n.a.take i).drop (k+1))=Q at *
  simp only [w563_K3] at this ⊢;rw [ck_unf w563_B3.eq_1]
  simp at this
  by_cases c1:n.a[k].1 < n.a[i].1
  · rw [List.all_cons,decide_eq_true c1,Bool.true_and]
    simp (disch:=omega) [h1,h2,hi,wI64,blt_eq,c1,this]
  · rw [List.all_cons,decide_eq_false c1,Bool.false_and]
    have c2:n.a[i].1≤n.a[k].1:=List.not_lt.1 c1
    simp (disch:=omega) [h1,h2,hi,wI64,blt_eq,c1,c2]
theorem ain_false (n:Nd) (i:Nat) (hi:i < n.a.length) (hl:n.a.length≤8):∀ j k,j+k=i→((n.a.take i).drop k).all (fun b=>decide (b.1 < n.a[i].1))=false →
 w563_K3 C ⟨[(4,.int .i64 k),(3,.int .i64 i),(1,.ptr 0 0 0)],hp1 n,1⟩=some (.bool false):=by
 intro j
 induction j with
 | zero =>
  intro k hk hf
  have h1:(n.a.take i).drop k=[]:=List.drop_eq_nil_of_le (by simp;omega)
  rw [h1] at hf
  simp at hf
 | succ j ih =>
  intro k hk hf
  have h1:k < i:=by omega
  have h2:k < n.a.length:=by omega
  have hlt:k < (n.a.take i).length:=by simp;omega
  rw [drop_cons hlt] at hf
  have hy:(n.a.take i)[k]=n.a[k]:=by simp
  rw [hy,List.all_cons] at hf
  by_cases c1:n.a[k].1 < n.a[i].1
  · rw [decide_eq_true c1,Bool.true_and] at hf
    have:=ih (k+1) (by omega) hf
    simp only [w563_K3] at this ⊢;rw [ck_unf w563_B3.eq_1]
    simp at this
    simp (disch:=omega) [h1,h2,hi,wI64,blt_eq,c1,this]
  · have c2:n.a[i].1≤n.a[k].1:=List.not_lt.1 c1
    simp only [w563_K3];rw [ck_unf w563_B3.eq_1]
    simp (disch:=omega) [h1,h2,hi,wI64,blt_eq,c1,c2]
theorem aout_loop (H:HasR C) (n:Nd) (hl:n.a.length≤8) (hl2:n.ch.length≤16):∀ j i,j+i=n.a.length→(∀ (p q:Nat) (hp:p < n.a.length) (hq:q < n.a.length),p < q→q < i→n.a[p].1 < n.a[q].1) →
 w563_K2 C ⟨[(3,.int .i64 i),(1,.ptr 0 0 0)],hp1 n,1⟩=some (.bool (atOk (if i=0 then none else (n.a[i - 1]?).map Prod.fst) (n.a.drop i)&&keysOk [] (n.ch.map Nd.y))):=by
 intro j
 induction j with
 | zero =>
  intro i hi hs
  have hk:=kout_loop (C:=C) n hl2 n.ch.length 0 (by simp)
  simp only [List.take_zero,List.drop_zero] at hk
  generalize keysOk [] (n.ch.map Nd.y)=K at *
  simp only [w563_K0] at hk
  simp at hk
  simp only [w563_K2];rw [ck_unf w563_B2.eq_1]
  have h1:n.a.drop i=[]:=List.drop_eq_nil_of_le (by omega)
  have h3:¬ i < n.a.length:=by omega
  simp [ck_unf w563_c2.eq_1,h1,h3,atOk,hk]
 | succ j ih =>
  intro i hi hs
  have h1:i < n.a.length:=by omega
  have hb:=rname_ok H.toHasS n.a[i].1
  have hc:=rstr_ok H.toHasS n.a[i].2
  rw [drop_cons h1,atOk]
  generalize hK:keysOk [] (n.ch.map Nd.y)=K at *
  cases q1:isName n.a[i].1
  · rw [q1] at hb
    simp only [w563_K2];rw [ck_unf w563_B2.eq_1]
    simp (disch:=omega) [h1,wI64,hb,H.inl,inlB,H.pp,ppB]
  · cases q2:isText n.a[i].2
    · rw [q1] at hb;rw [q2] at hc
      simp only [w563_K2];rw [ck_unf w563_B2.eq_1]
      simp (disch:=omega) [h1,wI64,hb,hc,H.inl,inlB,H.pp,ppB]
    · rw [q1] at hb;rw [q2] at hc
      have key:(n.a.take i).all (fun b=>decide (b.1 < n.a[i].1))=after (if i=0 then none else (n.a[i - 1]?).map Prod.fst) n.a[i].1:=by
       cases i with
       | zero=>simp [after]
       | succ i =>
        have h4:i < n.a.length:=by omega
        rw [if_neg (by omega),show i+1 - 1=i from rfl,List.getElem?_eq_getElem h4]
        simp only [Option.map_some,after]
        by_cases q3:n.a[i].1 < n.a[i+1].1
        · rw [decide_eq_true q3,List.all_eq_true]
          intro b hb
          obtain ⟨p,hp,rfl⟩:=List.getElem_of_mem hb
          simp at hp
          rw [List.getElem_take]
          apply decide_eq_true
          by_cases e:p=i
          · subst e;exact q3
          · exact List.lt_trans (hs p i (by omega) h4 (by omega) (by omega)) q3
        · rw [decide_eq_false q3,List.all_eq_false]
          exact ⟨n.a[i],List.mem_take_iff_getElem.2 ⟨i,by omega,rfl⟩,by simp [q3]⟩
      have step:∀ R,w563_K3 C ⟨[(4,.int .i64 (0:Nat)),(3,.int .i64 i),(1,.ptr 0 0 0)],hp1 n,1⟩=some R→w563_K2 C ⟨[(3,.int .i64 i),(1,.ptr 0 0 0)],hp1 n,1⟩=some R:=by
       intro R hR
       simp only [w563_K2,w563_K3] at hR ⊢;rw [ck_unf w563_B2.eq_1]
       simp at hR
       simp (disch:=omega) [h1,wI64,hb,hc,H.inl,inlB,H.pp,ppB,hR]
      by_cases q3:(n.a.take i).all (fun b=>decide (b.1 < n.a[i].1))=true
      · have:=ih (i+1) (by omega) (fun p q hp hq h5 h6=>by
         by_cases e:q=i
         · subst e
           have:=List.all_eq_true.1 q3 n.a[p] (List.mem_take_iff_getElem.2 ⟨p,by omega,rfl⟩)
           simpa using this
         · exact hs p q hp hq h5 (by omega))
        rw [if_neg (by omega),show i+1 - 1=i from rfl,List.getElem?_eq_getElem h1] at this
        have hin:=ain_loop n i h1 hl _ this i 0 (by simp)
        rw [List.drop_zero,if_pos q3] at hin
        rw [step _ hin,← key,q3]
        simp
      · have q4:(n.a.take i).all (fun b=>decide (b.1 < n.a[i].1))=false:=Bool.eq_false_iff.2 q3
        rw [← key,q4]
        simp only [Bool.and_false,Bool.false_and]
        exact step _ (ain_false n i h1 hl i 0 (by simp) (by rw [List.drop_zero];exact q4))
theorem one_ok (H:HasR C) (n:Nd):FnW C 563 [.agg n.c]=some (.bool (alone n)):=by
 rw [fnW_eq H.f563 rfl]
 unfold alone
 have ht:=rname_ok H.toHasS n.t
 have hy:=rname_ok H.toHasS n.y
 have hx:=rstr_ok H.toHasS n.x
 by_cases k2:n.k=2
 · rw [if_pos k2]
   generalize isText n.x=X at *
   cases X
   · simp [w563,k2,hx,H.inl,inlB,H.pp,ppB]
   · by_cases c1:n.t=[] <;> by_cases c2:n.y=[] <;> by_cases c3:n.a=[] <;> by_cases c4:n.ch=[] <;> simp [w563,k2,hx,H.inl,inlB,H.pp,ppB,c1,c2,c3,c4]
 · rw [if_neg k2]
   by_cases k1:n.k=1
   · cases q1:isName n.t
     · rw [q1] at ht;simp [w563,k1,ht,H.inl,inlB,H.pp,ppB]
     · rw [q1] at ht
       have rest:(n.y=[]∨n.y≠[]∧isName n.y=true)→FnW C 563 [.agg n.c]=some (.bool (decide (n.x=[])&&decide (n.a.length≤8)&&decide (n.ch.length≤16)&&atOk none n.a&&keysOk [] (n.ch.map Nd.y))):=by
        intro hyy
        rw [fnW_eq H.f563 rfl]
        by_cases c3:n.x=[]
        · by_cases c4:n.a.length≤8
          · by_cases c5:n.ch.length≤16
            · have c6:¬ 8 < (n.a.length:Int):=by omega
              have c7:¬ 16 < (n.ch.length:Int):=by omega
              have hl:=aout_loop H n c4 c5 n.a.length 0 (by simp) (by omega)
              simp only [w563_K2,if_true,List.drop_zero] at hl
              generalize atOk none n.a=A at *
              generalize keysOk [] (n.ch.map Nd.y)=K at *
              simp at hl
              rcases hyy with c2 | ⟨c2,q2⟩
              · simp [w563,k1,ht,H.inl,inlB,H.pp,ppB,eq_true c2,eq_true c3,c4,c5,c6,c7,hl]
              · rw [q2] at hy
                simp [w563,k1,ht,hy,H.inl,inlB,H.pp,ppB,c2,eq_true c3,c4,c5,c6,c7,hl]
            · have c6:¬ 8 < (n.a.length:Int):=by omega
              have c7:16 < (n.ch.length:Int):=by omega
              rcases hyy with c2 | ⟨c2,q2⟩
              · simp [w563,k1,ht,H.inl,inlB,H.pp,ppB,eq_true c2,eq_true c3,c4,c5,c6,c7]
              · rw [q2] at hy
                simp [w563,k1,ht,hy,H.inl,inlB,H.pp,ppB,c2,eq_true c3,c4,c5,c6,c7]
          · have c6:8 < (n.a.length:Int):=by omega
            rcases hyy with c2 | ⟨c2,q2⟩
            · simp [w563,k1,ht,H.inl,inlB,H.pp,ppB,eq_true c2,eq_true c3,c4,c6]
            · rw [q2] at hy
              simp [w563,k1,ht,hy,H.inl,inlB,H.pp,ppB,c2,eq_true c3,c4,c6]
        · rcases hyy with c2 | ⟨c2,q2⟩
          · simp [w563,k1,ht,H.inl,inlB,H.pp,ppB,eq_true c2,c3]
          · rw [q2] at hy
            simp [w563,k1,ht,hy,H.inl,inlB,H.pp,ppB,c2,c3]
       rw [fnW_eq H.f563 rfl] at rest
       by_cases c2:n.y=[]
       · rw [rest (.inl c2)];simp [k1,c2]
       · cases q2:isName n.y
         · rw [q2] at hy;simp [w563,k1,ht,hy,H.inl,inlB,H.pp,ppB,c2]
         · rw [rest (.inr ⟨c2,q2⟩)];simp [k1]
   · simp [w563,k1,k2,H.inl,inlB,H.pp,ppB]
mutual
/-- The specification's count, with so many levels. -/
def rc:Nd→Nat→Nat
 | _,0=>1000
 | ⟨k,t,y,a,ae,x,ch,ce⟩,lv+1=>if alone ⟨k,t,y,a,ae,x,ch,ce⟩=true then rcs ch lv 1 else 1000
def rcs:List Nd→Nat→Nat→Nat
 | [],_,c=>c
 | m::r,lv,c=>if c≤64 then rcs r lv (c+rc m lv) else c
end
theorem rc_z (n:Nd):rc n 0=1000:=by cases n;rw [rc]
theorem rc_s (n:Nd) (lv:Nat):rc n (lv+1)=if alone n=true then rcs n.ch lv 1 else 1000:=by cases n;rw [rc]
theorem rcs_ge:∀ (l:List Nd) (lv c:Nat),c≤rcs l lv c
 | [],lv,c=>by rw [rcs];exact Nat.le_refl _
 | m::r,lv,c=>by
  rw [rcs]
  split
  · have:=rcs_ge r lv (c+rc m lv);omega
  · exact Nat.le_refl _
theorem rc_ge (n:Nd) (lv:Nat):1≤rc n lv:=by
 cases lv with
 | zero=>rw [rc_z];omega
 | succ lv =>
  rw [rc_s]
  split
  · exact rcs_ge _ _ _
  · omega
mutual
theorem rc_le:∀ (n:Nd) (lv:Nat),rc n lv≤1000+64 * lv
 | ⟨k,t,y,a,ae,x,ch,ce⟩,0=>by rw [rc];omega
 | ⟨k,t,y,a,ae,x,ch,ce⟩,lv+1=>by
  rw [rc]
  split
  · have:=rcs_le ch lv 1 (by omega);omega
  · omega
theorem rcs_le:∀ (l:List Nd) (lv c:Nat),c≤1064+64 * lv→rcs l lv c≤1064+64 * lv
 | [],lv,c,h=>by rw [rcs];exact h
 | m::r,lv,c,h=>by
  rw [rcs]
  split
  · have h2:=rc_le m lv
    exact rcs_le r lv _ (by omega)
  · exact h
end
mutual
theorem wk_rc:∀ (n:Nd) (lv L c d:Nat),lv+L=7→c≤64→((wk n L (c,d)).1=true→(wk n L (c,d)).2.1=c+rc n lv∧c+rc n lv≤64)∧((wk n L (c,d)).1=false→64 < c+rc n lv)
 | ⟨k,t,y,a,ae,x,ch,ce⟩,lv,L,c,d,h1,h2=>by
  have hge:=rc_ge ⟨k,t,y,a,ae,x,ch,ce⟩ lv
  rw [wk]
  by_cases q:6 < L∨64 < c+1∨alone ⟨k,t,y,a,ae,x,ch,ce⟩=false
  · rw [if_pos q]
    refine ⟨fun r=>by simp at r,fun _=>?_⟩
    rcases q with q | q | q
    · have:lv=0:=by omega
      subst this
      rw [rc];omega
    · omega
    · cases lv with
      | zero=>rw [rc];omega
      | succ lv=>rw [rc,if_neg (by simp [q])];omega
  · rw [if_neg q]
    cases lv with
    | zero=>omega
    | succ lv =>
     rw [rc,if_pos (by simpa using fun r=>q (.inr (.inr r)))]
     exact wks_rc ch lv (L+1) c 1 (max d L) (by omega) (by omega)
theorem wks_rc:∀ (l:List Nd) (lv L g c d:Nat),lv+L=7→g+c≤64→((wks l L (g+c,d)).1=true→(wks l L (g+c,d)).2.1=g+rcs l lv c∧g+rcs l lv c≤64)∧((wks l L (g+c,d)).1=false→64 < g+rcs l lv c)
 | [],lv,L,g,c,d,h1,h2=>by
  rw [wks,rcs];exact ⟨fun _=>⟨rfl,h2⟩,fun r=>by simp at r⟩
 | m::r,lv,L,g,c,d,h1,h2=>by
  have hm:=wk_rc m lv L (g+c) d h1 h2
  have hr:rcs (m::r) lv c=rcs r lv (c+rc m lv):=by rw [rcs,if_pos (by omega)]
  rw [wks,hr]
  generalize wk m L (g+c,d)=R at *
  obtain ⟨b,c',d'⟩:=R
  cases b with
  | true =>
   obtain ⟨e1,e2⟩:=hm.1 rfl
   rw [if_pos rfl]
   simp only at e1
   rw [e1,Nat.add_assoc]
   exact wks_rc r lv L g (c+rc m lv) d' h1 (by omega)
  | false =>
   have e:=hm.2 rfl
   rw [if_neg (by simp)]
   refine ⟨fun q=>by simp at q,fun _=>?_⟩
   have:=rcs_ge r lv (c+rc m lv)
   omega
end
theorem cnt_rc (n:Nd):cnt n=if 64 < rc n 6 then 0 else rc n 6:=by
 have h:=wk_rc n 6 1 0 0 rfl (by omega)
 unfold cnt
 generalize wk n 1 (0,0)=R at *
 obtain ⟨b,c,d⟩:=R
 cases b with
 | true =>
  obtain ⟨e1,e2⟩:=h.1 rfl
  simp only at e1
  rw [if_pos rfl,if_neg (by omega)];simp only;omega
 | false =>
  have e:=h.2 rfl
  rw [if_neg (by simp),if_pos (by omega)]
theorem rcount_loop (H:HasR C) (n:Nd) (lv:Nat) (hlv:lv≤5) (hl:n.ch.length≤16) (ih:∀ m ∈ n.ch,FnW C 520 [.agg m.c,.int .i64 lv]=some (.int .i64 (rc m lv))):∀ j i,j+i=n.ch.length→∀ c,c≤1064+64 * lv →
 w520_K0 C ⟨[(6,.int .i64 i),(5,.int .i64 c),(2,.ptr 0 0 0),(1,.int .i64 (lv+1:Nat))],hp1 n,1⟩=some (.int .i64 (rcs (n.ch.drop i) lv c)):=by
 intro j
 induction j with
 | zero =>
  intro i hi c hc
  simp only [w520_K0];rw [ck_unf w520_B0.eq_1]
  have h1:n.ch.drop i=[]:=List.drop_eq_nil_of_le (by omega)
  have h3:¬ i < n.ch.length:=by omega
  rw [h1,rcs]
  simp [ck_unf w520_c0.eq_1,h3]
 | succ j ihj =>
  intro i hi c hc
  have h1:i < n.ch.length:=by omega
  have hm:=ih _ (List.getElem_mem h1)
  have hle:=rc_le n.ch[i] lv
  rw [drop_cons h1,rcs]
  by_cases c1:c≤64
  · have:=ihj (i+1) (by omega) (c+rc n.ch[i] lv) (by omega)
    rw [if_pos c1]
    have c2:(c:Int)≤64:=by omega
    simp only [w520_K0] at this ⊢;rw [ck_unf w520_B0.eq_1]
    simp at this
    simp (disch:=omega) [h1,c1,c2,wI64,hm,H.inl,inlB,H.pp,ppB,this]
  · rw [if_neg c1]
    have c2:¬ (c:Int)≤64:=by omega
    simp only [w520_K0];rw [ck_unf w520_B0.eq_1]
    simp (disch:=omega) [ck_unf w520_c0.eq_1,h1,c1,c2]
theorem rcount_step (H:HasR C) (n:Nd) (ih:∀ m ∈ n.ch,∀ lv:Nat,lv≤6→FnW C 520 [.agg m.c,.int .i64 lv]=some (.int .i64 (rc m lv))) (lv:Nat) (hlv:lv≤6):FnW C 520 [.agg n.c,.int .i64 lv]=some (.int .i64 (rc n lv)):=by
 have ho:=one_ok H n
 rw [fnW_eq H.f520 rfl]
 cases lv with
 | zero=>rw [rc_z];simp [w520]
 | succ lv =>
  rw [rc_s]
  have c1:¬ (lv:Int)+1 < 1:=by omega
  cases ha:alone n with
  | false=>rw [ha] at ho;simp [w520,c1,ho,H.inl,inlB,H.pp,ppB]
  | true =>
   rw [ha] at ho
   have hl:n.ch.length≤16:=by
    unfold alone at ha
    split at ha
    · simp at ha;rw [ha.2];simp
    · simp at ha;omega
   have hr:=rcount_loop H n lv (by omega) hl (fun m hm=>ih m hm lv (by omega)) n.ch.length 0 (by simp) 1 (by omega)
   rw [List.drop_zero] at hr
   simp only [w520_K0] at hr
   simp at hr
   simp [w520,c1,ho,H.inl,inlB,H.pp,ppB,hr]
theorem rcount_ok (H:HasR C) (n:Nd) (lv:Nat) (hlv:lv≤6):FnW C 520 [.agg n.c,.int .i64 lv]=some (.int .i64 (rc n lv)) :=
 rcount_step H n (fun m hm lv hlv=>rcount_ok H m lv hlv) lv hlv
termination_by SizeOf.sizeOf n
decreasing_by
 have:=List.sizeOf_lt_of_mem hm
 have:=size_ch n
 omega
theorem rCount_ok (H:HasR C) (n:Nd):FnW C 442 [.agg n.c]=some (.int .i64 (cnt n)):=by
 have h:=rcount_ok H n 6 (by omega)
 rw [fnW_eq H.f442 rfl,cnt_rc]
 generalize rc n 6=R at *
 simp at h
 by_cases c:64 < R
 · have c1:64 < (R:Int):=by omega
   simp [w442,H.inl,inlB,H.pp,ppB,h,c,c1]
 · have c1:¬ 64 < (R:Int):=by omega
   simp [w442,H.inl,inlB,H.pp,ppB,h,c,c1]
theorem rCheck_ok (H:HasR C) (n:Nd):FnW C 441 [.agg n.c]=some (.int .i64 (if cnt n=0 then 14 else 0)):=by
 have h:=rCount_ok H n
 rw [fnW_eq H.f441 rfl]
 by_cases c:cnt n=0
 · simp [w441,H.inl,inlB,H.pp,ppB,h,c]
 · simp [w441,H.inl,inlB,H.pp,ppB,h,c]
end Go.D
end
section
namespace Go.D
open Go Go.Pav Go.Pw P
attribute [-simp] List.getElem_cons_drop
variable {C:WProg}
structure Sl where
 n:Bs
 f:Int
 v:Bs
@[simp] def eSl (s:Sl):List AV:=[.str s.n,.int .u8 s.f,.str s.v]
structure Pt where
 k:Int
 t:Bs
 y:Bs
 s:List Sl
 se:Bool
 x:Bs
 ch:List Pt
 ce:Bool
mutual
def Pt.c:Pt→List AV
 | ⟨k,t,y,s,se,x,ch,ce⟩=>[.int .u8 k,.str t,.str y,.ro 3 (s.map eSl) se,.str x,.ro 6 (Pt.cs ch) ce]
def Pt.cs:List Pt→List (List AV)
 | []=>[]
 | n::r=>n.c::Pt.cs r
end
theorem Pt.cs_eq:∀ l:List Pt,Pt.cs l=l.map Pt.c
 | []=>rfl
 | n::r=>by rw [Pt.cs,Pt.cs_eq r];rfl
theorem Pt.c_eq (n:Pt):n.c=[.int .u8 n.k,.str n.t,.str n.y,.ro 3 (n.s.map eSl) n.se,.str n.x,.ro 6 (n.ch.map Pt.c) n.ce]:=by
 cases n;rw [Pt.c,Pt.cs_eq]
@[simp] theorem Pt.c_len (n:Pt):n.c.length=6:=by rw [Pt.c_eq];rfl
@[simp] theorem Pt.c_take (n:Pt):n.c.take 6=n.c:=List.take_of_length_le (by simp)
@[simp] theorem Pt.c0 (n:Pt):n.c[0]?=some (.int .u8 n.k):=by rw [Pt.c_eq];rfl
@[simp] theorem Pt.c1 (n:Pt):n.c[1]?=some (.str n.t):=by rw [Pt.c_eq];rfl
@[simp] theorem Pt.c2 (n:Pt):n.c[2]?=some (.str n.y):=by rw [Pt.c_eq];rfl
@[simp] theorem Pt.c3 (n:Pt):n.c[3]?=some (.ro 3 (n.s.map eSl) n.se):=by rw [Pt.c_eq];rfl
@[simp] theorem Pt.c4 (n:Pt):n.c[4]?=some (.str n.x):=by rw [Pt.c_eq];rfl
@[simp] theorem Pt.c5 (n:Pt):n.c[5]?=some (.ro 6 (n.ch.map Pt.c) n.ce):=by rw [Pt.c_eq];rfl
@[simp] theorem Pt.g0 (n:Pt) (h:0 < n.c.length):n.c[0]=.int .u8 n.k:=Option.some.inj ((List.getElem?_eq_getElem h).symm.trans n.c0)
@[simp] theorem Pt.g1 (n:Pt) (h:1 < n.c.length):n.c[1]=.str n.t:=Option.some.inj ((List.getElem?_eq_getElem h).symm.trans n.c1)
@[simp] theorem Pt.g2 (n:Pt) (h:2 < n.c.length):n.c[2]=.str n.y:=Option.some.inj ((List.getElem?_eq_getElem h).symm.trans n.c2)
@[simp] theorem Pt.g3 (n:Pt) (h:3 < n.c.length):n.c[3]=.ro 3 (n.s.map eSl) n.se:=Option.some.inj ((List.getElem?_eq_getElem h).symm.trans n.c3)
@[simp] theorem Pt.g4 (n:Pt) (h:4 < n.c.length):n.c[4]=.str n.x:=Option.some.inj ((List.getElem?_eq_getElem h).symm.trans n.c4)
@[simp] theorem Pt.g5 (n:Pt) (h:5 < n.c.length):n.c[5]=.ro 6 (n.ch.map Pt.c) n.ce:=Option.some.inj ((List.getElem?_eq_getElem h).symm.trans n.c5)
@[simp] theorem Pt.hd (n:Pt):n.c.head?=some (.int .u8 n.k):=by rw [Pt.c_eq];rfl
@[simp] theorem Pt.c_ptr (n:Pt):hasPtrL n.c=false:=by rw [Pt.c_eq];rfl
@[simp] theorem Pt.c_frz (n:Pt) (h:WHeap) (k:Nat):mapO (frzW h (k+1)) n.c=some n.c:=by rw [Pt.c_eq];rfl
@[simp] theorem Pt.c_reach (n:Pt) (h:WHeap) (k:Nat):n.c.flatMap (reachW h (k+1))=[]:=by rw [Pt.c_eq];rfl
@[simp] theorem Pt.c_ren (n:Pt) (π:Nat→Option Nat):renL π n.c=some n.c:=by rw [Pt.c_eq];rfl
@[simp] theorem Pt.c_refs (n:Pt):refsL n.c=[]:=by rw [Pt.c_eq];rfl
@[simp] theorem Pt.c_isC (n:Pt):n.c.all isC=true:=by rw [Pt.c_eq];rfl
@[simp] theorem Pt.c_cell (n:Pt):n.c.all AV.cell=true:=by rw [Pt.c_eq];rfl
theorem Pt.size_ch (n:Pt):SizeOf.sizeOf n.ch < SizeOf.sizeOf n:=by cases n;simp;omega
def slsOk:Option Bs→List Sl→Bool
 | _,[]=>true
 | p,s::r=>isName s.n&&decide (s.f≤3)&&isText s.v&&(decide (s.f≤0)||decide (s.v=[]))&&after p s.n&&slsOk (some s.n) r
def pOne (p:Pt):Bool :=
 if p.k=1 then (decide (p.y=[])||isName p.y)&&decide (p.ch.length≤16)&&isName p.t&&(decide (p.s.length≤8)&&slsOk none p.s)&&decide (p.x=[])
 else if p.k=5 then isName p.t&&(decide (p.s.length≤8)&&slsOk none p.s)&&decide (p.y=[])&&decide (p.x=[])&&decide (p.ch=[])
 else if p.k=2 then isText p.x&&decide (p.t=[])&&decide (p.y=[])&&decide (p.s=[])&&decide (p.ch=[])
 else decide (p.k=3∨p.k=4)&&decide (p.t=[])&&decide (p.y=[])&&decide (p.x=[])&&decide (p.s=[])&&decide (p.ch=[])
structure HasT (C:WProg):Prop extends HasM C where
 f581:C.fns.get 581=some w581
 f579:C.fns.get 579=some w579
 f585:C.fns.get 585=some w585
 f549:C.fns.get 549=some w549
 f502:C.fns.get 502=some w502
 f503:C.fns.get 503=some w503
 f548:C.fns.get 548=some w548
 f404:C.fns.get 404=some w404
 f231:C.fns.get 231=some w231
theorem cnt_leaf (n:Nd) (h:n.ch=[]):cnt n=if alone n=true then 1 else 0:=by
 rw [cnt_rc,rc_s,h,rcs]
 cases alone n <;> simp
theorem tnamed_ok (H:HasT C) (s:Bs):FnW C 581 [.str s]=some (.bool (isName s)):=by
 have h:FnW C 439 [.agg [.int .u8 1,.str s,.str [],.ro 2 [] true,.str [],.ro 6 [] true]]=_:=check_ok H.toHasM ⟨1,s,[],[],true,[],[],true⟩
 rw [cnt_leaf _ rfl] at h
 have e:alone ⟨1,s,[],[],true,[],[],true⟩=isName s:=by unfold alone;simp [atOk,keysOk]
 rw [e] at h
 rw [fnW_eq H.f581 rfl]
 cases q:isName s <;> rw [q] at h <;> simp at h <;> simp [w581,H.inl,inlB,H.pp,ppB,h]
theorem tplain_ok (H:HasT C) (s:Bs):FnW C 579 [.str s]=some (.bool (isText s)):=by
 have h:FnW C 439 [.agg [.int .u8 2,.str [],.str [],.ro 2 [] true,.str s,.ro 6 [] true]]=_:=check_ok H.toHasM ⟨2,[],[],[],true,s,[],true⟩
 rw [cnt_leaf _ rfl] at h
 have e:alone ⟨2,[],[],[],true,s,[],true⟩=isText s:=by unfold alone;simp
 rw [e] at h
 rw [fnW_eq H.f579 rfl]
 cases q:isText s <;> rw [q] at h <;> simp at h <;> simp [w579,H.inl,inlB,H.pp,ppB,h]
theorem slots_loop (H:HasT C) (l:List Sl) (e:Bool) (hl:l.length≤1000000):∀ n i,n+i=l.length →
 w585_K0 C ⟨[(10,.int .i64 i),(9,.int .i64 l.length),(8,.ro 3 (l.map eSl) e),(0,.ro 3 (l.map eSl) e)],[],0⟩ =
  some (.bool (slsOk (if i=0 then none else (l[i - 1]?).map Sl.n) (l.drop i))):=by
 intro n
 induction n with
 | zero =>
  intro i hi
  simp only [w585_K0];rw [ck_unf w585_B0.eq_1]
  have h1:l.drop i=[]:=List.drop_eq_nil_of_le (by omega)
  have h3:¬ i < l.length:=by omega
  simp [ck_unf w585_c0.eq_1,h1,h3,slsOk]
 | succ n ih =>
  intro i hi
  have h1:i < l.length:=by omega
  have hb:=tnamed_ok H l[i].n
  have hc:=tplain_ok H l[i].v
  have:=ih (i+1) (by omega)
  rw [if_neg (by omega),show i+1 - 1=i from rfl,List.getElem?_eq_getElem h1] at this
  rw [drop_cons h1,slsOk]
  simp only [w585_K0] at this ⊢;rw [ck_unf w585_B0.eq_1]
  simp only [Option.map_some] at this
  generalize slsOk (some l[i].n) (l.drop (i+1))=R at *
  cases q1:isName l[i].n
  · rw [q1] at hb
    simp (disch:=omega) [h1,wI64,hb,H.inl,inlB,H.pp,ppB]
  · rw [q1] at hb
    by_cases f3:l[i].f≤3
    · have f3':¬ 3 < l[i].f:=by omega
      cases q2:isText l[i].v
      · rw [q2] at hc
        simp (disch:=omega) [h1,wI64,hb,hc,H.inl,inlB,H.pp,ppB,f3,f3']
      · rw [q2] at hc
        by_cases f0:0 < l[i].f∧¬ l[i].v=[]
        · have f1:¬ l[i].f≤0:=by omega
          simp (disch:=omega) [h1,wI64,hb,hc,H.inl,inlB,H.pp,ppB,f3,f3',f0.1,f0.2,f1]
        · have key:(0 < l[i].f∧l[i].v=[])∨¬ 0 < l[i].f:=by
           by_cases a:0 < l[i].f
           · exact .inl ⟨a,Classical.byContradiction fun b=>f0 ⟨a,b⟩⟩
           · exact .inr a
          cases i with
          | zero =>
           simp at this
           rcases key with ⟨a,b⟩ | a
           · have b':=eq_true b
             simp (disch:=omega) [h1,wI64,hb,hc,H.inl,inlB,H.pp,ppB,f3,f3',a,b',this,after]
           · have a':l[0].f≤0:=by omega
             simp (disch:=omega) [h1,wI64,hb,hc,H.inl,inlB,H.pp,ppB,f3,f3',a,a',this,after]
          | succ i =>
           have h4:i < l.length:=by omega
           have h5:(i:Int)+1 < l.length:=by omega
           simp at this
           by_cases q3:l[i].n < l[i+1].n
           · have q4:¬ l[i+1].n≤l[i].n:=List.not_le.2 q3
             rcases key with ⟨a,b⟩ | a
             · have b':=eq_true b
               simp (disch:=omega) [h1,h4,h5,wI64,hb,hc,H.inl,inlB,H.pp,ppB,f3,f3',a,b',this,after,leq_eq,q3,q4]
             · have a':l[i+1].f≤0:=by omega
               simp (disch:=omega) [h1,h4,h5,wI64,hb,hc,H.inl,inlB,H.pp,ppB,f3,f3',a,a',this,after,leq_eq,q3,q4]
           · have q4:l[i+1].n≤l[i].n:=List.not_lt.1 q3
             rcases key with ⟨a,b⟩ | a
             · have b':=eq_true b
               simp (disch:=omega) [h1,h4,h5,wI64,hb,hc,H.inl,inlB,H.pp,ppB,f3,f3',a,b',this,after,leq_eq,q3,q4]
             · have a':l[i+1].f≤0:=by omega
               simp (disch:=omega) [h1,h4,h5,wI64,hb,hc,H.inl,inlB,H.pp,ppB,f3,f3',a,a',this,after,leq_eq,q3,q4]
    · have f3':3 < l[i].f:=by omega
      simp (disch:=omega) [h1,wI64,hb,H.inl,inlB,H.pp,ppB,f3,f3']
theorem slots_ok (H:HasT C) (l:List Sl) (e:Bool):FnW C 585 [.ro 3 (l.map eSl) e]=some (.bool (decide (l.length≤8)&&slsOk none l)):=by
 rw [fnW_eq H.f585 rfl]
 by_cases c:l.length≤8
 · have c1:¬ 8 < (l.length:Int):=by omega
   have h:=slots_loop H l e (by omega) l.length 0 (by simp)
   rw [List.drop_zero,if_pos rfl] at h
   generalize slsOk none l=R at *
   simp only [w585_K0] at h
   simp at h
   simp [w585,c,c1,h]
 · have c1:8 < (l.length:Int):=by omega
   simp [w585,c,c1]
end Go.D
end
section
namespace Go.D
open Go Go.Pav Go.Pw P
attribute [-simp] List.getElem_cons_drop
variable {C:WProg}
theorem talone_ok (H:HasT C) (p:Pt):FnW C 549 [.rop p.c]=some (.bool (pOne p)):=by
 obtain ⟨k,t,y,s,se,x,ch,ce⟩:=p
 rw [fnW_eq H.f549 rfl,Pt.c_eq]
 simp only []
 unfold pOne
 simp only []
 have ht:=tnamed_ok H t
 have hy:=tnamed_ok H y
 have hx:=tplain_ok H x
 have hs:=slots_ok H s se
 generalize isName t=T at *
 generalize isText x=X at *
 generalize (decide (s.length≤8)&&slsOk none s)=S at *
 by_cases k1:k=1
 · rw [if_pos k1]
   by_cases c2:y=[]
   · subst c2
     by_cases c5:ch.length≤16
     · have c7:¬ 16 < (ch.length:Int):=by omega
       cases T
       · simp [w549,k1,ht,hs,H.inl,inlB,H.pp,ppB,c5,c7]
       · cases S
         · simp [w549,k1,ht,hs,H.inl,inlB,H.pp,ppB,c5,c7]
         · by_cases c3:x=[] <;> simp [w549,k1,ht,hs,H.inl,inlB,H.pp,ppB,c3,c5,c7]
     · have c7:16 < (ch.length:Int):=by omega
       simp [w549,k1,ht,hs,H.inl,inlB,H.pp,ppB,c5,c7]
   · cases q2:isName y
     · rw [q2] at hy;simp [w549,k1,hy,H.inl,inlB,H.pp,ppB,c2]
     · rw [q2] at hy
       by_cases c5:ch.length≤16
       · have c7:¬ 16 < (ch.length:Int):=by omega
         cases T
         · simp [w549,k1,ht,hy,hs,H.inl,inlB,H.pp,ppB,c2,c5,c7]
         · cases S
           · simp [w549,k1,ht,hy,hs,H.inl,inlB,H.pp,ppB,c2,c5,c7]
           · by_cases c3:x=[] <;> simp [w549,k1,ht,hy,hs,H.inl,inlB,H.pp,ppB,c2,c3,c5,c7]
       · have c7:16 < (ch.length:Int):=by omega
         simp [w549,k1,ht,hy,hs,H.inl,inlB,H.pp,ppB,c2,c5,c7]
 · rw [if_neg k1]
   by_cases k5:k=5
   · rw [if_pos k5]
     cases T
     · simp [w549,k5,ht,hs,H.inl,inlB,H.pp,ppB]
     · cases S
       · simp [w549,k5,ht,hs,H.inl,inlB,H.pp,ppB]
       · by_cases c2:y=[]
         · by_cases c3:x=[]
           · by_cases c4:ch=[]
             · simp [w549,k5,ht,hs,H.inl,inlB,H.pp,ppB,c2,c3,c4]
             · simp [w549,k5,ht,hs,H.inl,inlB,H.pp,ppB,c2,c3,c4]
           · simp [w549,k5,ht,hs,H.inl,inlB,H.pp,ppB,c2,c3]
         · simp [w549,k5,ht,hs,H.inl,inlB,H.pp,ppB,c2]
   · rw [if_neg k5]
     by_cases k2:k=2
     · rw [if_pos k2]
       cases X
       · simp [w549,k2,hx,H.inl,inlB,H.pp,ppB]
       · by_cases c1:t=[]
         · by_cases c2:y=[]
           · by_cases c3:s=[]
             · by_cases c4:ch=[]
               · simp [w549,k2,hx,H.inl,inlB,H.pp,ppB,c1,c2,c3,c4]
               · simp [w549,k2,hx,H.inl,inlB,H.pp,ppB,c1,c2,c3,c4]
             · simp [w549,k2,hx,H.inl,inlB,H.pp,ppB,c1,c2,c3]
           · simp [w549,k2,hx,H.inl,inlB,H.pp,ppB,c1,c2]
         · simp [w549,k2,hx,H.inl,inlB,H.pp,ppB,c1]
     · rw [if_neg k2]
       by_cases k34:k=3∨k=4
       · rcases k34 with k3 | k4
         · by_cases c1:t=[]
           · by_cases c2:y=[]
             · by_cases c0:x=[]
               · by_cases c3:s=[]
                 · by_cases c4:ch=[]
                   · simp [w549,k3,H.inl,inlB,H.pp,ppB,c1,c2,c0,c3,c4]
                   · simp [w549,k3,H.inl,inlB,H.pp,ppB,c1,c2,c0,c3,c4]
                 · simp [w549,k3,H.inl,inlB,H.pp,ppB,c1,c2,c0,c3]
               · simp [w549,k3,H.inl,inlB,H.pp,ppB,c1,c2,c0]
             · simp [w549,k3,H.inl,inlB,H.pp,ppB,c1,c2]
           · simp [w549,k3,H.inl,inlB,H.pp,ppB,c1]
         · by_cases c1:t=[]
           · by_cases c2:y=[]
             · by_cases c0:x=[]
               · by_cases c3:s=[]
                 · by_cases c4:ch=[]
                   · simp [w549,k4,H.inl,inlB,H.pp,ppB,c1,c2,c0,c3,c4]
                   · simp [w549,k4,H.inl,inlB,H.pp,ppB,c1,c2,c0,c3,c4]
                 · simp [w549,k4,H.inl,inlB,H.pp,ppB,c1,c2,c0,c3]
               · simp [w549,k4,H.inl,inlB,H.pp,ppB,c1,c2,c0]
             · simp [w549,k4,H.inl,inlB,H.pp,ppB,c1,c2]
           · simp [w549,k4,H.inl,inlB,H.pp,ppB,c1]
       · have k3:¬ k=3:=fun q=>k34 (.inl q)
         have k4:¬ k=4:=fun q=>k34 (.inr q)
         simp [w549,k1,k2,k3,k4,k5,H.inl,inlB,H.pp,ppB]
mutual
/-- The walk below a part: whether it ends well, how many parts. -/
def tk:Pt→Nat→Nat→Bool × Nat
 | ⟨k,t,y,s,se,x,ch,ce⟩,lv,c=>if 6 < lv∨64 < c+1∨pOne ⟨k,t,y,s,se,x,ch,ce⟩=false then (false,c+1) else tks ch (lv+1) (c+1)
def tks:List Pt→Nat→Nat→Bool × Nat
 | [],_,c=>(true,c)
 | m::r,lv,c=>if (tk m lv c).1=true then tks r lv (tk m lv c).2 else (false,(tk m lv c).2)
end
theorem tk_eq (p:Pt) (lv c:Nat):tk p lv c=if 6 < lv∨64 < c+1∨pOne p=false then (false,c+1) else tks p.ch (lv+1) (c+1):=by cases p;rw [tk]
mutual
theorem tk_bd:∀ (p:Pt) (lv c:Nat),lv≤7→c≤64→(tk p lv c).1=true→(tk p lv c).2≤64
 | ⟨k,t,y,s,se,x,ch,ce⟩,lv,c,h1,h2=>by
  rw [tk]
  split
  · exact fun q=>by simp at q
  · rename_i h
    exact tks_bd ch (lv+1) (c+1) (by omega) (by omega)
theorem tks_bd:∀ (l:List Pt) (lv c:Nat),lv≤7→c≤64→(tks l lv c).1=true→(tks l lv c).2≤64
 | [],lv,c,h1,h2=>by rw [tks];exact fun _=>h2
 | m::r,lv,c,h1,h2=>by
  have h4:=tk_bd m lv c h1 h2
  rw [tks]
  split
  · rename_i h
    exact tks_bd r lv _ h1 (h4 h)
  · exact fun q=>by simp at q
end
abbrev hpT (c:Nat):WHeap:=[(0,.cells 1 [[.fn 503 []]] true true),(7,.cells 1 [[.int .i64 c]] true true),(9,.cells 1 [[.fn 548 [.ptr 7 0 0,.ptr 0 0 0,.ptr 9 0 0]]] true false)]
def WalkT (C:WProg) (p:Pt):Prop:=∀ (lv c n:Nat),10≤n→c≤64→lv≤7 →
 ∃ n',RnW C 548 [.rop p.c,.int .i64 lv,.ptr 7 0 0,.ptr 0 0 0,.ptr 9 0 0] (hpT c) n=some (.bool (tk p lv c).1,hpT (tk p lv c).2,n')
theorem twalk_loop (H:HasT C) (p:Pt) (lv n:Nat) (hn:10≤n) (hlv:lv≤6) (hl:p.ch.length≤16) (ih:∀ m ∈ p.ch,WalkT C m):∀ j i,j+i=p.ch.length→∀ c,c≤64 →
 ∃ n',CK C n (fnEndW [.tmp 7]) [.sq w548_L0,.bk 0 ⟨true,[],[]⟩,.sq w548_c0] w548_B0 ⟨[(30,.int .i64 i),(29,.int .i64 p.ch.length),(4,.ptr 9 0 0),(1,.int .i64 lv),(0,.rop p.c)],hpT c,n⟩ =
  some (.bool (tks (p.ch.drop i) (lv+1) c).1,hpT (tks (p.ch.drop i) (lv+1) c).2,n'):=by
 have n0:0 < n:=by omega
 have n1:7 < n:=by omega
 have n2:9 < n:=by omega
 intro j
 induction j with
 | zero =>
  intro i hi c hc
  have h1:p.ch.drop i=[]:=List.drop_eq_nil_of_le (by omega)
  have h3:¬ i < p.ch.length:=by omega
  rw [h1,tks,ck_unf w548_B0.eq_1]
  refine ⟨?_,?_⟩
  rotate_left
  · simp (disch:=omega) [ck_unf w548_c0.eq_1,n0,n1,n2,h3]
    rfl
 | succ j ihj =>
  intro i hi c hc
  have h1:i < p.ch.length:=by omega
  obtain ⟨n',hw⟩:=ih _ (List.getElem_mem h1) (lv+1) c (n+1+1+1+11) (by omega) hc (by omega)
  have hb:=tk_bd p.ch[i] (lv+1) c (by omega) hc
  rw [drop_cons h1,tks]
  generalize hR:tk p.ch[i] (lv+1) c=R at *
  obtain ⟨r,c'⟩:=R
  cases r with
  | true =>
   obtain ⟨n2',hw2⟩:=ihj (i+1) (by omega) c' (hb rfl)
   refine ⟨n2',?_⟩
   rw [if_pos rfl]
   rw [ck_unf w548_B0.eq_1]
   simp at hw hw2
   simp (disch:=omega) [wI64,H.inl,inlB,H.pp,ppB,n0,n1,n2,h1,hw,hw2]
  | false =>
   rw [if_neg (by simp)]
   rw [ck_unf w548_B0.eq_1]
   simp at hw
   refine ⟨?_,?_⟩
   rotate_left
   · simp (disch:=omega) [wI64,H.inl,inlB,H.pp,ppB,n0,n1,n2,h1,hw]
     rfl
theorem pOne_len {p:Pt} (h:pOne p=true):p.ch.length≤16:=by
 unfold pOne at h
 split at h
 · simp at h;omega
 · split at h
   · simp at h;rw [h.2];simp
   · split at h
     · simp at h;rw [h.2];simp
     · simp at h;rw [h.2];simp
theorem twalk_step (H:HasT C) (p:Pt) (ih:∀ m ∈ p.ch,WalkT C m):WalkT C p:=by
 intro lv c n hn hc hlv
 rw [rnW_eq (args:=[.rop p.c,.int .i64 lv,.ptr 7 0 0,.ptr 0 0 0,.ptr 9 0 0]) H.f548 rfl (hpT c) n,tk_eq]
 have ha:=talone_ok H p
 have hu:FnW C 503 [.rop p.c]=some (.tup []):=by rw [fnW_eq H.f503 rfl];simp [w503]
 have n0:0 < n:=by omega
 have n1:7 < n:=by omega
 have n2:9 < n:=by omega
 by_cases b1:6 < lv
 · rw [if_pos (.inl b1)]
   refine ⟨?_,?_⟩
   rotate_left
   · simp (disch:=omega) [w548,wI64,H.inl,inlB,H.pp,ppB,b1,n0,n1,n2]
     rfl
 · by_cases b2:64 < c+1
   · rw [if_pos (.inr (.inl b2))]
     have b2':64 < (c:Int)+1:=by omega
     refine ⟨?_,?_⟩
     rotate_left
     · simp (disch:=omega) [w548,wI64,H.inl,inlB,H.pp,ppB,b1,b2',n0,n1,n2]
       rfl
   · have b2':¬ 64 < (c:Int)+1:=by omega
     cases b3:pOne p with
     | false =>
      rw [if_pos (.inr (.inr rfl))]
      rw [b3] at ha
      refine ⟨?_,?_⟩
      rotate_left
      · simp (disch:=omega) [w548,wI64,H.inl,inlB,H.pp,ppB,b1,b2',ha,n0,n1,n2]
        rfl
     | true =>
      rw [if_neg (by simp;omega)]
      have hl:=pOne_len b3
      rw [b3] at ha
      obtain ⟨n',hw⟩:=twalk_loop H p lv n hn (by omega) hl ih p.ch.length 0 (by simp) (c+1) (by omega)
      refine ⟨n',?_⟩
      rw [List.drop_zero] at hw
      generalize tks p.ch (lv+1) (c+1)=R at *
      simp only [hpT] at hw ⊢
      simp at hw
      simp (disch:=omega) [w548,wI64,H.inl,inlB,H.pp,ppB,b1,b2',ha,hu,n0,n1,n2,hw]
theorem twalks (H:HasT C) (p:Pt):WalkT C p :=
 twalk_step H p (fun m hm=>twalks H m)
termination_by SizeOf.sizeOf p
decreasing_by
 have:=List.sizeOf_lt_of_mem hm
 have:=p.size_ch
 omega
def tcnt (p:Pt):Nat:=if p.k=1∧(tk p 1 0).1=true then (tk p 1 0).2 else 0
theorem twalk_ok (H:HasT C) (p:Pt):FnW C 502 [.rop p.c,.fn 503 []]=some (.int .i64 (tcnt p)):=by
 rw [fnW_eq H.f502 rfl]
 obtain ⟨n',h⟩:=twalks H p 1 0 15 (by omega) (by omega) (by omega)
 unfold tcnt
 generalize tk p 1 0=R at *
 obtain ⟨r,c⟩:=R
 simp only [hpT] at h
 simp at h
 by_cases k1:p.k=1
 · cases r <;> simp [w502,H.inl,inlB,H.pp,ppB,k1,h]
 · simp [w502,H.inl,inlB,H.pp,ppB,k1]
theorem tCount_ok (H:HasT C) (p:Pt):FnW C 404 [.agg p.c]=some (.int .i64 (tcnt p)):=by
 have h:=twalk_ok H p
 rw [fnW_eq H.f404 rfl]
 simp [w404,H.inl,inlB,H.pp,ppB,h]
theorem tCheck_ok (H:HasT C) (p:Pt):FnW C 231 [.agg p.c]=some (.int .i64 (if tcnt p=0 then 14 else 0)):=by
 have h:=tCount_ok H p
 rw [fnW_eq H.f231 rfl]
 by_cases c:tcnt p=0
 · simp [w231,H.inl,inlB,H.pp,ppB,h,c]
 · simp [w231,H.inl,inlB,H.pp,ppB,h,c]
end Go.D
end
section
namespace Go.D
open Go Go.Pav Go.Pw P
attribute [-simp] List.getElem_cons_drop
variable {C:WProg}
structure HasU (C:WProg):Prop extends HasT C where
 f594:C.fns.get 594=some w594
 f586:C.fns.get 586=some w586
 f550:C.fns.get 550=some w550
 f505:C.fns.get 505=some w505
 f408:C.fns.get 408=some w408
theorem rslots_loop (H:HasU C) (l:List Sl) (e:Bool) (hl:l.length≤1000000) (hf:∀ s ∈ l,0≤s.f):∀ n i,n+i=l.length →
 w594_K0 C ⟨[(3,.int .i64 i),(0,.ro 3 (l.map eSl) e)],[],0⟩ =
  some (.bool (slsOk (if i=0 then none else (l[i - 1]?).map Sl.n) (l.drop i))):=by
 intro n
 induction n with
 | zero =>
  intro i hi
  simp only [w594_K0];rw [ck_unf w594_B0.eq_1]
  have h1:l.drop i=[]:=List.drop_eq_nil_of_le (by omega)
  have h3:¬ i < l.length:=by omega
  simp [ck_unf w594_c0.eq_1,h1,h3,slsOk]
 | succ n ih =>
  intro i hi
  have h1:i < l.length:=by omega
  have hb:=rname_ok H.toHasS l[i].n
  have hc:=rstr_ok H.toHasS l[i].v
  have h0:=hf _ (List.getElem_mem h1)
  have:=ih (i+1) (by omega)
  rw [if_neg (by omega),show i+1 - 1=i from rfl,List.getElem?_eq_getElem h1] at this
  rw [drop_cons h1,slsOk]
  simp only [w594_K0] at this ⊢;rw [ck_unf w594_B0.eq_1]
  simp only [Option.map_some] at this
  generalize slsOk (some l[i].n) (l.drop (i+1))=R at *
  cases q1:isName l[i].n
  · rw [q1] at hb
    simp (disch:=omega) [h1,wI64,hb,H.inl,inlB,H.pp,ppB]
  · rw [q1] at hb
    by_cases f3:l[i].f≤3
    · have f3':¬ 3 < l[i].f:=by omega
      cases q2:isText l[i].v
      · rw [q2] at hc
        simp (disch:=omega) [h1,wI64,hb,hc,H.inl,inlB,H.pp,ppB,f3,f3']
      · rw [q2] at hc
        by_cases f0:¬ l[i].f=0∧¬ l[i].v=[]
        · have f1:¬ l[i].f≤0:=by have:=f0.1;omega
          simp (disch:=omega) [h1,wI64,hb,hc,H.inl,inlB,H.pp,ppB,f3,f3',f0.1,f0.2,f1]
        · have key:(¬ l[i].f=0∧l[i].v=[])∨l[i].f=0:=by
           by_cases a:l[i].f=0
           · exact .inr a
           · exact .inl ⟨a,Classical.byContradiction fun b=>f0 ⟨a,b⟩⟩
          cases i with
          | zero =>
           simp at this
           rcases key with ⟨a,b⟩ | a
           · have b':=eq_true b
             simp (disch:=omega) [h1,wI64,hb,hc,H.inl,inlB,H.pp,ppB,f3,f3',a,b',this,after]
           · have a':l[0].f≤0:=by omega
             simp (disch:=omega) [h1,wI64,hb,hc,H.inl,inlB,H.pp,ppB,f3,f3',eq_true a,a',this,after]
          | succ i =>
           have h4:i < l.length:=by omega
           have h5:(i:Int)+1 < l.length:=by omega
           simp at this
           by_cases q3:l[i].n < l[i+1].n
           · have q4:¬ l[i+1].n≤l[i].n:=List.not_le.2 q3
             rcases key with ⟨a,b⟩ | a
             · have b':=eq_true b
               simp (disch:=omega) [h1,h4,h5,wI64,hb,hc,H.inl,inlB,H.pp,ppB,f3,f3',a,b',this,after,blt_eq,q3,q4]
             · have a':l[i+1].f≤0:=by omega
               simp (disch:=omega) [h1,h4,h5,wI64,hb,hc,H.inl,inlB,H.pp,ppB,f3,f3',eq_true a,a',this,after,blt_eq,q3,q4]
           · have q4:l[i+1].n≤l[i].n:=List.not_lt.1 q3
             rcases key with ⟨a,b⟩ | a
             · have b':=eq_true b
               simp (disch:=omega) [h1,h4,h5,wI64,hb,hc,H.inl,inlB,H.pp,ppB,f3,f3',a,b',this,after,blt_eq,q3,q4]
             · have a':l[i+1].f≤0:=by omega
               simp (disch:=omega) [h1,h4,h5,wI64,hb,hc,H.inl,inlB,H.pp,ppB,f3,f3',eq_true a,a',this,after,blt_eq,q3,q4]
    · have f3':3 < l[i].f:=by omega
      simp (disch:=omega) [h1,wI64,hb,H.inl,inlB,H.pp,ppB,f3,f3']
theorem rslots_ok (H:HasU C) (l:List Sl) (e:Bool) (hf:∀ s ∈ l,0≤s.f):FnW C 594 [.ro 3 (l.map eSl) e]=some (.bool (decide (l.length≤8)&&slsOk none l)):=by
 rw [fnW_eq H.f594 rfl]
 by_cases c:l.length≤8
 · have c1:¬ 8 < (l.length:Int):=by omega
   have h:=rslots_loop H l e (by omega) hf l.length 0 (by simp)
   rw [List.drop_zero,if_pos rfl] at h
   generalize slsOk none l=R at *
   simp only [w594_K0] at h
   simp at h
   simp [w594,c,c1,h]
 · have c1:8 < (l.length:Int):=by omega
   simp [w594,c,c1]
structure Fits (p:Pt):Prop where
 f:∀ s ∈ p.s,0≤s.f
 s:p.s.length≤9223372036854775807
 c:p.ch.length≤9223372036854775807
theorem sum0 {α β:Type} (a:List α) (b:List β) [Decidable (a=[])] [Decidable (b=[])]:((a.length:Int)+(b.length:Int) == 0)=(decide (a=[])&&decide (b=[])):=by
 cases a <;> cases b <;> simp <;> omega
theorem sum0w {α β:Type} (a:List α) (b:List β) (ha:a.length≤9223372036854775807) (hb:b.length≤9223372036854775807) [Decidable (a=[])] [Decidable (b=[])]:(IntKind.i64.wrap ((a.length:Int)+(b.length:Int)) == 0)=(decide (a=[])&&decide (b=[])):=by
 have h:(IntKind.i64.wrap ((a.length:Int)+(b.length:Int)) == 0)=((a.length:Int)+(b.length:Int) == 0):=by
  rw [Bool.eq_iff_iff]
  show ((if (true&&decide (((a.length:Int)+b.length) % 18446744073709551616 ≥ 9223372036854775808))=true then ((a.length:Int)+b.length) % 18446744073709551616 - 18446744073709551616 else ((a.length:Int)+b.length) % 18446744073709551616) == 0)=true↔_
  simp only [Bool.true_and,decide_eq_true_eq,beq_iff_eq]
  split <;> omega
 rw [h,sum0]
theorem rone_ok (H:HasU C) (p:Pt) (hp:Fits p):FnW C 586 [.agg p.c]=some (.bool (pOne p)):=by
 rw [fnW_eq H.f586 rfl]
 unfold pOne
 have ht:=rname_ok H.toHasS p.t
 have hy:=rname_ok H.toHasS p.y
 have hx:=rstr_ok H.toHasS p.x
 have hs:=rslots_ok H p.s p.se hp.f
 have hl1:=hp.s
 have hl2:=hp.c
 have hz:(IntKind.i64.wrap ((p.s.length:Int)+(p.ch.length:Int)) == 0)=(decide (p.s=[])&&decide (p.ch=[])):=sum0w _ _ hl1 hl2
 generalize isName p.t=T at *
 generalize isText p.x=X at *
 generalize (decide (p.s.length≤8)&&slsOk none p.s)=S at *
 by_cases k1:p.k=1
 · rw [if_pos k1]
   cases T
   · simp [w586,k1,ht,H.inl,inlB,H.pp,ppB]
   · by_cases c2:p.y=[]
     · have c2':=eq_true c2
       cases S
       · simp [w586,k1,ht,hs,H.inl,inlB,H.pp,ppB,c2']
       · by_cases c3:p.x=[]
         · have c3':=eq_true c3
           by_cases c5:p.ch.length≤16
           · have c7:(p.ch.length:Int)≤16:=by omega
             simp [w586,k1,ht,hs,H.inl,inlB,H.pp,ppB,c2',c3',c5,c7]
           · have c7:¬ (p.ch.length:Int)≤16:=by omega
             simp [w586,k1,ht,hs,H.inl,inlB,H.pp,ppB,c2',c3',c5,c7]
         · simp [w586,k1,ht,hs,H.inl,inlB,H.pp,ppB,c2',c3]
     · cases q2:isName p.y
       · rw [q2] at hy;simp [w586,k1,ht,hy,H.inl,inlB,H.pp,ppB,c2]
       · rw [q2] at hy
         cases S
         · simp [w586,k1,ht,hy,hs,H.inl,inlB,H.pp,ppB,c2]
         · by_cases c3:p.x=[]
           · have c3':=eq_true c3
             by_cases c5:p.ch.length≤16
             · have c7:(p.ch.length:Int)≤16:=by omega
               simp [w586,k1,ht,hy,hs,H.inl,inlB,H.pp,ppB,c2,c3',c5,c7]
             · have c7:¬ (p.ch.length:Int)≤16:=by omega
               simp [w586,k1,ht,hy,hs,H.inl,inlB,H.pp,ppB,c2,c3',c5,c7]
           · simp [w586,k1,ht,hy,hs,H.inl,inlB,H.pp,ppB,c2,c3]
 · rw [if_neg k1]
   by_cases k5:p.k=5
   · rw [if_pos k5]
     cases T
     · simp [w586,k5,ht,hs,H.inl,inlB,H.pp,ppB]
     · cases S
       · simp [w586,k5,ht,hs,H.inl,inlB,H.pp,ppB]
       · by_cases c2:p.y=[]
         · by_cases c3:p.x=[]
           · by_cases c4:p.ch=[] <;> simp [w586,k5,ht,hs,H.inl,inlB,H.pp,ppB,eq_true c2,eq_true c3,c4]
           · simp [w586,k5,ht,hs,H.inl,inlB,H.pp,ppB,eq_true c2,c3]
         · simp [w586,k5,ht,hs,H.inl,inlB,H.pp,ppB,c2]
   · rw [if_neg k5]
     by_cases k2:p.k=2
     · rw [if_pos k2]
       cases X
       · simp [w586,k2,hx,H.inl,inlB,H.pp,ppB]
       · by_cases c1:p.t=[]
         · by_cases c2:p.y=[]
           · simp (disch:=omega) [w586,k2,hx,H.inl,inlB,H.pp,ppB,eq_true c1,eq_true c2,hz]
           · simp [w586,k2,hx,H.inl,inlB,H.pp,ppB,eq_true c1,c2]
         · simp [w586,k2,hx,H.inl,inlB,H.pp,ppB,c1]
     · rw [if_neg k2]
       by_cases k34:p.k=3∨p.k=4
       · have rest:FnW C 586 [.agg p.c]=some (.bool (decide (p.t=[])&&decide (p.y=[])&&decide (p.x=[])&&decide (p.s=[])&&decide (p.ch=[]))):=by
          rw [fnW_eq H.f586 rfl]
          by_cases c0:p.x=[]
          · by_cases c1:p.t=[]
            · by_cases c2:p.y=[]
              · rcases k34 with k3 | k3 <;> simp (disch:=omega) [w586,k3,H.inl,inlB,H.pp,ppB,eq_true c0,eq_true c1,eq_true c2,hz]
              · rcases k34 with k3 | k3 <;> simp [w586,k3,H.inl,inlB,H.pp,ppB,eq_true c0,eq_true c1,c2]
            · rcases k34 with k3 | k3 <;> simp [w586,k3,H.inl,inlB,H.pp,ppB,eq_true c0,c1]
          · rcases k34 with k3 | k3 <;> simp [w586,k3,H.inl,inlB,H.pp,ppB,c0]
         rw [fnW_eq H.f586 rfl] at rest
         rw [rest]
         simp [k34]
       · have k3:¬ p.k=3:=fun q=>k34 (.inl q)
         have k4:¬ p.k=4:=fun q=>k34 (.inr q)
         simp [w586,k1,k2,k3,k4,k5,H.inl,inlB,H.pp,ppB]
inductive FitsAll:Pt→Prop
 | mk (p:Pt) (h:Fits p) (hm:∀ m ∈ p.ch,FitsAll m):FitsAll p
mutual
/-- The specification's count, with so many levels. -/
def trc:Pt→Nat→Nat
 | _,0=>1000
 | ⟨k,t,y,s,se,x,ch,ce⟩,lv+1=>if pOne ⟨k,t,y,s,se,x,ch,ce⟩=true then trcs ch lv 1 else 1000
def trcs:List Pt→Nat→Nat→Nat
 | [],_,c=>c
 | m::r,lv,c=>if c≤64 then trcs r lv (c+trc m lv) else c
end
theorem trc_z (n:Pt):trc n 0=1000:=by cases n;rw [trc]
theorem trc_s (n:Pt) (lv:Nat):trc n (lv+1)=if pOne n=true then trcs n.ch lv 1 else 1000:=by cases n;rw [trc]
theorem trcs_ge:∀ (l:List Pt) (lv c:Nat),c≤trcs l lv c
 | [],lv,c=>by rw [trcs];exact Nat.le_refl _
 | m::r,lv,c=>by
  rw [trcs]
  split
  · have:=trcs_ge r lv (c+trc m lv);omega
  · exact Nat.le_refl _
theorem trc_ge (n:Pt) (lv:Nat):1≤trc n lv:=by
 cases lv with
 | zero=>rw [trc_z];omega
 | succ lv =>
  rw [trc_s]
  split
  · exact trcs_ge _ _ _
  · omega
mutual
theorem trc_le:∀ (n:Pt) (lv:Nat),trc n lv≤1000+64 * lv
 | ⟨k,t,y,s,se,x,ch,ce⟩,0=>by rw [trc];omega
 | ⟨k,t,y,s,se,x,ch,ce⟩,lv+1=>by
  rw [trc]
  split
  · have:=trcs_le ch lv 1 (by omega);omega
  · omega
theorem trcs_le:∀ (l:List Pt) (lv c:Nat),c≤1064+64 * lv→trcs l lv c≤1064+64 * lv
 | [],lv,c,h=>by rw [trcs];exact h
 | m::r,lv,c,h=>by
  rw [trcs]
  split
  · have h2:=trc_le m lv
    exact trcs_le r lv _ (by omega)
  · exact h
end
mutual
theorem tk_rc:∀ (n:Pt) (lv L c:Nat),lv+L=7→c≤64→((tk n L c).1=true→(tk n L c).2=c+trc n lv∧c+trc n lv≤64)∧((tk n L c).1=false→64 < c+trc n lv)
 | ⟨k,t,y,s,se,x,ch,ce⟩,lv,L,c,h1,h2=>by
  have hge:=trc_ge ⟨k,t,y,s,se,x,ch,ce⟩ lv
  rw [tk]
  by_cases q:6 < L∨64 < c+1∨pOne ⟨k,t,y,s,se,x,ch,ce⟩=false
  · rw [if_pos q]
    refine ⟨fun r=>by simp at r,fun _=>?_⟩
    rcases q with q | q | q
    · have:lv=0:=by omega
      subst this
      rw [trc];omega
    · omega
    · cases lv with
      | zero=>rw [trc];omega
      | succ lv=>rw [trc,if_neg (by simp [q])];omega
  · rw [if_neg q]
    cases lv with
    | zero=>omega
    | succ lv =>
     rw [trc,if_pos (by simpa using fun r=>q (.inr (.inr r)))]
     exact tks_rc ch lv (L+1) c 1 (by omega) (by omega)
theorem tks_rc:∀ (l:List Pt) (lv L g c:Nat),lv+L=7→g+c≤64→((tks l L (g+c)).1=true→(tks l L (g+c)).2=g+trcs l lv c∧g+trcs l lv c≤64)∧((tks l L (g+c)).1=false→64 < g+trcs l lv c)
 | [],lv,L,g,c,h1,h2=>by
  rw [tks,trcs];exact ⟨fun _=>⟨rfl,h2⟩,fun r=>by simp at r⟩
 | m::r,lv,L,g,c,h1,h2=>by
  have hm:=tk_rc m lv L (g+c) h1 h2
  have hr:trcs (m::r) lv c=trcs r lv (c+trc m lv):=by rw [trcs,if_pos (by omega)]
  rw [tks,hr]
  generalize tk m L (g+c)=R at *
  obtain ⟨b,c'⟩:=R
  cases b with
  | true =>
   obtain ⟨e1,e2⟩:=hm.1 rfl
   rw [if_pos rfl]
   simp only at e1
   rw [e1,Nat.add_assoc]
   exact tks_rc r lv L g (c+trc m lv) h1 (by omega)
  | false =>
   have e:=hm.2 rfl
   rw [if_neg (by simp)]
   refine ⟨fun q=>by simp at q,fun _=>?_⟩
   have:=trcs_ge r lv (c+trc m lv)
   omega
end
theorem tcnt_rc (p:Pt):tcnt p=if p.k≠1∨64 < trc p 6 then 0 else trc p 6:=by
 have h:=tk_rc p 6 1 0 rfl (by omega)
 unfold tcnt
 generalize tk p 1 0=R at *
 obtain ⟨b,c⟩:=R
 by_cases k1:p.k=1
 · cases b with
   | true =>
    obtain ⟨e1,e2⟩:=h.1 rfl
    simp only at e1
    rw [if_pos ⟨k1,rfl⟩,if_neg (by intro q;rcases q with q | q;exact q k1;omega)];simp only;omega
   | false =>
    have e:=h.2 rfl
    rw [if_neg (by simp),if_pos (.inr (by omega))]
 · rw [if_neg (fun q=>k1 q.1),if_pos (.inl k1)]
abbrev hpP (p:Pt):WHeap:=[(0,.cells 6 [p.c] true true)]
theorem trcount_loop (H:HasU C) (n:Pt) (lv:Nat) (hlv:lv≤5) (hl:n.ch.length≤16) (ih:∀ m ∈ n.ch,FnW C 550 [.agg m.c,.int .i64 lv]=some (.int .i64 (trc m lv))):∀ j i,j+i=n.ch.length→∀ c,c≤1064+64 * lv →
 w550_K0 C ⟨[(6,.int .i64 i),(5,.int .i64 c),(2,.ptr 0 0 0),(1,.int .i64 (lv+1:Nat))],hpP n,1⟩=some (.int .i64 (trcs (n.ch.drop i) lv c)):=by
 intro j
 induction j with
 | zero =>
  intro i hi c hc
  simp only [w550_K0];rw [ck_unf w550_B0.eq_1]
  have h1:n.ch.drop i=[]:=List.drop_eq_nil_of_le (by omega)
  have h3:¬ i < n.ch.length:=by omega
  rw [h1,trcs]
  simp [ck_unf w550_c0.eq_1,h3]
 | succ j ihj =>
  intro i hi c hc
  have h1:i < n.ch.length:=by omega
  have hm:=ih _ (List.getElem_mem h1)
  have hle:=trc_le n.ch[i] lv
  rw [drop_cons h1,trcs]
  by_cases c1:c≤64
  · have:=ihj (i+1) (by omega) (c+trc n.ch[i] lv) (by omega)
    rw [if_pos c1]
    have c2:(c:Int)≤64:=by omega
    simp only [w550_K0] at this ⊢;rw [ck_unf w550_B0.eq_1]
    simp at this
    simp (disch:=omega) [h1,c1,c2,wI64,hm,H.inl,inlB,H.pp,ppB,this]
  · rw [if_neg c1]
    have c2:¬ (c:Int)≤64:=by omega
    simp only [w550_K0];rw [ck_unf w550_B0.eq_1]
    simp (disch:=omega) [ck_unf w550_c0.eq_1,h1,c1,c2]
theorem trcount_step (H:HasU C) (n:Pt) (hf:Fits n) (ih:∀ m ∈ n.ch,∀ lv:Nat,lv≤6→FnW C 550 [.agg m.c,.int .i64 lv]=some (.int .i64 (trc m lv))) (lv:Nat) (hlv:lv≤6):FnW C 550 [.agg n.c,.int .i64 lv]=some (.int .i64 (trc n lv)):=by
 have ho:=rone_ok H n hf
 rw [fnW_eq H.f550 rfl]
 cases lv with
 | zero=>rw [trc_z];simp [w550]
 | succ lv =>
  rw [trc_s]
  have c1:¬ (lv:Int)+1 < 1:=by omega
  cases ha:pOne n with
  | false=>rw [ha] at ho;simp [w550,c1,ho,H.inl,inlB,H.pp,ppB]
  | true =>
   rw [ha] at ho
   have hr:=trcount_loop H n lv (by omega) (pOne_len ha) (fun m hm=>ih m hm lv (by omega)) n.ch.length 0 (by simp) 1 (by omega)
   rw [List.drop_zero] at hr
   simp only [w550_K0] at hr
   simp at hr
   simp [w550,c1,ho,H.inl,inlB,H.pp,ppB,hr]
theorem trcount_ok (H:HasU C) (p:Pt) (hf:FitsAll p):∀ lv:Nat,lv≤6→FnW C 550 [.agg p.c,.int .i64 lv]=some (.int .i64 (trc p lv)):=by
 induction hf with
 | mk p h hm ih=>exact fun lv hlv=>trcount_step H p h (fun m hm lv hlv=>ih m hm lv hlv) lv hlv
theorem trCount_ok (H:HasU C) (p:Pt) (hf:FitsAll p):FnW C 505 [.agg p.c]=some (.int .i64 (tcnt p)):=by
 have h:=trcount_ok H p hf 6 (by omega)
 rw [fnW_eq H.f505 rfl,tcnt_rc]
 generalize trc p 6=R at *
 simp at h
 by_cases k1:p.k=1
 · by_cases c:64 < R
   · have c1:64 < (R:Int):=by omega
     simp [w505,H.inl,inlB,H.pp,ppB,h,c,c1,k1]
   · have c1:¬ 64 < (R:Int):=by omega
     simp [w505,H.inl,inlB,H.pp,ppB,h,c,c1,k1]
 · simp [w505,H.inl,inlB,H.pp,ppB,h,k1]
theorem trCheck_ok (H:HasU C) (p:Pt) (hf:FitsAll p):FnW C 408 [.agg p.c]=some (.int .i64 (if tcnt p=0 then 14 else 0)):=by
 have h:=trCount_ok H p hf
 rw [fnW_eq H.f408 rfl]
 by_cases c:tcnt p=0
 · simp [w408,H.inl,inlB,H.pp,ppB,h,c]
 · simp [w408,H.inl,inlB,H.pp,ppB,h,c]
end Go.D
end
section
namespace Go.D
open Go Go.Pav Go.Pw P
attribute [-simp] List.getElem_cons_drop
variable {C:WProg}
structure HasV (C:WProg):Prop extends HasU C,HasI C where
 f546:C.fns.get 546=some w546
 f580:C.fns.get 580=some w580
 f512:C.fns.get 512=some w512
def itOk2 (i:It):Bool:=decide (i.k≠0)&&isText i.x&&(decide (i.m.length≤8)&&i.m.all isName)
theorem pred580 (H:HasV C):PredS C 580 isName where
 ok s:=by
  have:=tnamed_ok H.toHasT s
  rw [fnW_eq H.f580 rfl]
  simp [w580,H.inl,inlB,H.pp,ppB,this]
 ne:=by rfl
 ni:=by rfl
theorem tItem_ok (H:HasV C) (i:It):FnW C 546 [eIt i]=some (.int .i64 (if itOk2 i=true then 0 else 6)):=by
 have hx:=tplain_ok H.toHasT i.x
 rw [fnW_eq H.f546 rfl]
 unfold itOk2
 generalize isText i.x=X at *
 by_cases c1:i.k=0
 · simp [w546,eq_true c1]
 · cases X
   · simp [w546,c1,hx,H.inl,inlB,H.pp,ppB]
   · by_cases c2:i.m.length≤8
     · have c3:¬ 8 < (i.m.length:Int):=by omega
       have hm:=containsS_ok H.toHasI (pred580 H) i.m i.e (by omega)
       generalize i.m.all isName=M at *
       cases M <;> simp at hm <;> simp [w546,c1,hx,c2,c3,hm,H.inl,inlB,H.pp,ppB]
     · have c3:8 < (i.m.length:Int):=by omega
       simp [w546,c1,hx,c2,c3,H.inl,inlB,H.pp,ppB]
theorem rItem_loop (H:HasV C) (k t:Int) (x:Bs) (m:List Bs) (e:Bool) (hl:m.length≤8):∀ n i,n+i=m.length →
 w512_K0 C ⟨[(3,.int .i64 i),(1,.ptr 0 0 0)],[(0,.cells 4 [[.int .u64 k,.int .u8 t,.str x,.ro 1 (m.map eS) e]] true true)],1⟩ =
  some (.int .i64 (if (m.drop i).all isName=true then 0 else 6)):=by
 intro n
 induction n with
 | zero =>
  intro i hi
  simp only [w512_K0];rw [ck_unf w512_B0.eq_1]
  have h1:m.drop i=[]:=List.drop_eq_nil_of_le (by omega)
  have h3:¬ i < m.length:=by omega
  simp [ck_unf w512_c0.eq_1,h1,h3]
 | succ n ih =>
  intro i hi
  have h1:i < m.length:=by omega
  have:=ih (i+1) (by omega)
  have hb:=rname_ok H.toHasS m[i]
  rw [drop_cons h1]
  generalize hX:(m.drop (i+1)).all isName=X at *
  rw [List.all_cons,hX]
  simp only [w512_K0] at this ⊢;rw [ck_unf w512_B0.eq_1]
  cases hn:isName m[i]
  · rw [hn] at hb
    simp (disch:=omega) [h1,wI64,hb,H.inl,inlB,H.pp,ppB]
  · rw [hn] at hb
    simp at this
    simp (disch:=omega) [h1,wI64,hb,H.inl,inlB,H.pp,ppB,this]
theorem rItem_ok (H:HasV C) (i:It):FnW C 512 [eIt i]=some (.int .i64 (if itOk2 i=true then 0 else 6)):=by
 have hx:=rstr_ok H.toHasS i.x
 rw [fnW_eq H.f512 rfl]
 unfold itOk2
 generalize isText i.x=X at *
 by_cases c1:i.k=0
 · simp [w512,eq_true c1]
 · cases X
   · simp [w512,c1,hx,H.inl,inlB,H.pp,ppB]
   · by_cases c2:i.m.length≤8
     · have c3:¬ 8 < (i.m.length:Int):=by omega
       have hm:=rItem_loop H i.k i.t i.x i.m i.e c2 i.m.length 0 (by simp)
       rw [List.drop_zero] at hm
       generalize i.m.all isName=M at *
       simp only [w512_K0] at hm
       simp at hm
       simp [w512,c1,hx,c2,c3,hm,H.inl,inlB,H.pp,ppB]
     · have c3:8 < (i.m.length:Int):=by omega
       simp [w512,c1,hx,c2,c3,H.inl,inlB,H.pp,ppB]
def dec (n:Nat):Bs:=if h:n < 10 then [UInt8.ofNat (48+n)] else dec (n / 10)++[UInt8.ofNat (48+n % 10)]
termination_by n
theorem dec_len:∀ (k n:Nat),n < 10 ^ (k+1)→(dec n).length≤k+1
 | 0,n,h=>by unfold dec;rw [dif_pos (by simpa using h)];simp
 | k+1,n,h=>by
  unfold dec
  split
  · simp
  · have:=dec_len k (n / 10) (by rw [Nat.pow_succ] at h;omega)
    simp;omega
structure HasW (C:WProg):Prop extends HasV C where
 f584:C.fns.get 584=some w584
 f558:C.fns.get 558=some w558
theorem dec10 (n:Nat) (h:n < 10):dec n=[UInt8.ofNat (48+n)]:=by unfold dec;rw [dif_pos h]
theorem rdig_ok (H:HasW C) (n:Nat) (h:n < 10):FnW C 558 [.int .u64 n]=some (.str (dec n)):=by
 rw [fnW_eq H.f558 rfl,dec10 n h]
 obtain rfl | rfl | rfl | rfl | rfl | rfl | rfl | rfl | rfl | rfl:n=0∨n=1∨n=2∨n=3∨n=4∨n=5∨n=6∨n=7∨n=8∨n=9:=by omega
 all_goals (simp (disch:=omega) [w558,wU64];try rfl)
theorem rdec_step (H:HasW C) (n:Nat) (h:n < 18446744073709551616) (ih:∀ m < n,FnW C 558 [.int .u64 m]=some (.str (dec m))):FnW C 558 [.int .u64 n]=some (.str (dec n)):=by
 by_cases c:n < 10
 · exact rdig_ok H n c
 · have h1:=ih (n / 10) (by omega)
   have h2:=rdig_ok H (n % 10) (by omega)
   have hl:=dec_len 19 (n / 10) (by omega)
   rw [dec10 _ (by omega)] at h2
   rw [fnW_eq H.f558 rfl]
   rw [dec,dif_neg c]
   have e1:(n:Int).tdiv 10=((n / 10:Nat):Int):=by rw [Int.tdiv_eq_ediv_of_nonneg (by omega)];omega
   have e2:(n:Int).tmod 10=((n % 10:Nat):Int):=by rw [Int.tmod_eq_emod_of_nonneg (by omega)];omega
   have c2:¬ (n:Int) < 10:=by omega
   have hm:(dec (n / 10)).length+1≤maxStr:=by unfold maxStr;omega
   have b1:n / 10≤n:=by omega
   have b2:n % 10≤n:=by omega
   generalize dec (n / 10)=D at *
   generalize UInt8.ofNat (48+n % 10)=dg at *
   generalize n / 10=q at *
   generalize n % 10=r at *
   simp (disch:=omega) [w558,wU64,c2,e1,e2,h1,h2,hm,H.inl,inlB,H.pp,ppB]
theorem rdec_ok (H:HasW C) (n:Nat):n < 18446744073709551616→FnW C 558 [.int .u64 n]=some (.str (dec n)):=by
 induction n using Nat.strongRecOn with
 | ind n ih=>exact fun h=>rdec_step H n h (fun m hm=>ih m hm (by omega))
theorem bytesOf_map:∀ l:List UInt8,bytesOf (l.map fun b=>[AV.int .u8 b.toNat])=some l
 | []=>rfl
 | b::r=>by
  rw [List.map_cons,bytesOf,bytesOf_map r]
  simp
theorem dig_eq (r:Nat) (h:r < 10):([48,49,50,51,52,53,54,55,56,57]:List UInt8)[r]'(by simpa using h)=UInt8.ofNat (48+r):=by
 obtain rfl | rfl | rfl | rfl | rfl | rfl | rfl | rfl | rfl | rfl:r=0∨r=1∨r=2∨r=3∨r=4∨r=5∨r=6∨r=7∨r=8∨r=9:=by omega
 all_goals rfl
theorem dec_loop:∀ (i n:Nat) (acc:List UInt8),acc.length+i=19→n < 10 ^ (i+1)→n < 18446744073709551616 →
 w584_K0 C ⟨[(4,.int .i64 (i+1:Nat)),(3,.ptr 0 0 0),(0,.int .u64 n)],[(0,.cells 20 [List.replicate i (AV.int .u8 0)++AV.int .u8 0::acc.map fun b=>AV.int .u8 b.toNat] true true)],1⟩=some (.str (dec n++acc)):=by
 intro i
 induction i with
 | zero =>
  intro n acc ha hn hb
  have e1:(n:Int).tdiv 10=0:=by rw [Int.tdiv_eq_ediv_of_nonneg (by omega)];omega
  have e2:(n:Int).tmod 10=n:=by rw [Int.tmod_eq_emod_of_nonneg (by omega)];omega
  have hr:n < 10:=by simpa using hn
  have hd:=dig_eq n hr
  have h19:19≤acc.length:=by omega
  rw [dec10 n hr]
  generalize UInt8.ofNat (48+n)=dg at *
  have hm:bytesOf ([AV.int .u8 dg.toNat]::List.map ((fun x=>[x]) ∘ fun b:UInt8=>AV.int .u8 b.toNat) acc)=some (dg::acc):=bytesOf_map (dg::acc)
  simp only [w584_K0];rw [ck_unf w584_B0.eq_1]
  simp (disch:=(first | omega | (simp;done) | (simp;omega))) [wI64,wU64,e1,e2,hr,hd,h19,hm,List.take_of_length_le,sCvb]
 | succ i ih =>
  intro n acc ha hn hb
  have e1:(n:Int).tdiv 10=((n / 10:Nat):Int):=by rw [Int.tdiv_eq_ediv_of_nonneg (by omega)];omega
  have e2:(n:Int).tmod 10=((n % 10:Nat):Int):=by rw [Int.tmod_eq_emod_of_nonneg (by omega)];omega
  have hr:n % 10 < 10:=by omega
  have hq:n / 10 < 10 ^ (i+1):=by rw [Nat.pow_succ] at hn;omega
  have hqb:n / 10≤n:=by omega
  have h18:acc.length+i=18:=by omega
  have hi:i+1 < 20:=by omega
  have h20:20≤i+1+(acc.length+1):=by omega
  have hi19:i≤19:=by omega
  have hd:=dig_eq (n % 10) hr
  have ih':=fun dg=>ih (n / 10) (dg::acc) (by simp;omega) hq (by omega)
  have hdec:dec n=(if n / 10=0 then [] else dec (n / 10))++[UInt8.ofNat (48+n % 10)]:=by
   by_cases c:n < 10
   · have:n / 10=0:=by omega
     have h2:n % 10=n:=by omega
     rw [dec10 n c,this,h2];simp
   · rw [dec,dif_neg c,if_neg (by omega)]
  rw [hdec]
  have t1:∀ (z:AV) (L:List AV),List.take (i+1) (List.replicate (i+1) z++L)=List.replicate (i+1) z:=fun z L=>List.take_left' (by simp)
  have t2:∀ (z y:AV) (L:List AV),List.drop (i+1+1) (List.replicate (i+1) z++y::L)=L:=fun z y L=>by
   rw [List.append_cons];exact List.drop_left' (by simp)
  have t3:∀ (z:AV) (X:List AV),List.replicate i z++z::X=List.replicate (i+1) z++X:=fun z X=>by rw [List.replicate_succ'];simp
  generalize dec (n / 10)=D at *
  generalize UInt8.ofNat (48+n % 10)=dg at *
  have hm:bytesOf ([AV.int .u8 dg.toNat]::List.map ((fun x=>[x]) ∘ fun b:UInt8=>AV.int .u8 b.toNat) acc)=some (dg::acc):=bytesOf_map (dg::acc)
  have ih2:=ih' dg
  rw [t3] at ih2
  generalize n / 10=q at *
  generalize n % 10=r at *
  simp only [w584_K0] at ih2 ⊢;rw [ck_unf w584_B0.eq_1]
  simp at ih2
  by_cases c:q=0
  · simp (disch:=(first | omega | (simp;done) | (simp;omega))) [wI64,wU64,e1,e2,hr,hd,hi,h20,hi19,hm,t1,t2,c,List.take_of_length_le,sCvb]
  · simp (disch:=(first | omega | (simp;done) | (simp;omega))) [wI64,wU64,e1,e2,hr,hd,hi,t1,t2,c,ih2]
theorem tdec_ok (H:HasW C) (n:Nat) (h:n < 18446744073709551616):FnW C 584 [.int .u64 n]=some (.str (dec n)):=by
 have hl:=dec_loop (C:=C) 19 n [] rfl (by omega) h
 have e:List.replicate 19 (AV.int .u8 0)++AV.int .u8 0::List.map (fun b:UInt8=>AV.int .u8 b.toNat) []=rep 20 (AV.int .u8 0):=rfl
 rw [e] at hl
 simp only [w584_K0] at hl
 simp at hl
 rw [fnW_eq H.f584 rfl]
 simp [w584,hl]
def attrOf (x:It) (s:Sl):Bs × Bs:=(s.n,if s.f=1 then x.x else if s.f=2 then dec x.k.toNat else if s.f=3 then dec x.m.length else s.v)
structure HasX (C:WProg):Prop extends HasW C where
 f559:C.fns.get 559=some w559
 f592:C.fns.get 592=some w592
theorem rattrs_loop (H:HasX C) (x:It) (hk:0≤x.k∧x.k < 18446744073709551616) (hm:x.m.length≤1000000) (l:List Sl) (e:Bool) (hl:l.length≤8):∀ n i,n+i=l.length→∀ G:List (Bs × Bs),G.length=i →
 w559_K0 C ⟨[(6,.int .i64 i),(5,.sl 0 2 0 G.length G.length false),(3,.ptr 1 0 0),(0,.ro 3 (l.map eSl) e)],[(0,.cells 2 (G.map eA) true true),(1,.cells 4 [[.int .u64 x.k,.int .u8 x.t,.str x.x,.ro 1 (x.m.map eS) x.e]] true true)],2⟩ =
  some (.ro 2 ((G++(l.drop i).map (attrOf x)).map eA) false):=by
 intro n
 induction n with
 | zero =>
  intro i hi G hG
  have h1:l.drop i=[]:=List.drop_eq_nil_of_le (by omega)
  have h3:¬ i < l.length:=by omega
  simp only [w559_K0];rw [ck_unf w559_B0.eq_1]
  cases G with
  | nil=>simp [ck_unf w559_c0.eq_1,h1,h3]
  | cons g G=>simp (disch:=(first | omega | (simp;done) | (simp;omega))) [ck_unf w559_c0.eq_1,h1,h3,List.take_of_length_le]
 | succ n ih =>
  intro i hi G hG
  have h1:i < l.length:=by omega
  obtain ⟨k,hk2⟩:∃ k:Nat,x.k=k:=⟨x.k.toNat,by omega⟩
  have d1:=rdec_ok H.toHasW k (by omega)
  have d2:=rdec_ok H.toHasW x.m.length (by omega)
  have ih':=ih (i+1) (by omega) (G++[attrOf x l[i]]) (by simp [hG])
  have hfit:(G.length+1) * 33≤35184372088832:=by omega
  rw [drop_cons h1]
  simp only [w559_K0] at ih' ⊢;rw [ck_unf w559_B0.eq_1]
  simp at ih'
  unfold attrOf at ih' ⊢
  rw [hk2] at ih' ⊢
  by_cases f1:l[i].f=1
  · simp [f1] at ih'
    simp (disch:=omega) [h1,f1,wI64,hfit,ih',H.inl,inlB,H.pp,ppB]
  · by_cases f2:l[i].f=2
    · simp [f2] at ih'
      simp (disch:=omega) [h1,f2,wI64,hfit,d1,ih',H.inl,inlB,H.pp,ppB]
    · by_cases f3:l[i].f=3
      · simp [f3] at ih'
        simp (disch:=omega) [h1,f3,wI64,wU64,hfit,d2,ih',H.inl,inlB,H.pp,ppB]
      · simp [f1,f2,f3] at ih'
        simp (disch:=omega) [h1,f1,f2,f3,wI64,hfit,ih',H.inl,inlB,H.pp,ppB]
theorem rattrs_ok (H:HasX C) (x:It) (hk:0≤x.k∧x.k < 18446744073709551616) (hm:x.m.length≤1000000) (l:List Sl) (e:Bool) (hl:l.length≤8) :
 FnW C 559 [.ro 3 (l.map eSl) e,eIt x]=some (.ro 2 ((l.map (attrOf x)).map eA) false):=by
 have h:=rattrs_loop H x hk hm l e hl l.length 0 (by simp) [] rfl
 simp only [w559_K0] at h
 simp at h
 rw [fnW_eq H.f559 rfl]
 simp [w559,h]
theorem tattrs_loop (H:HasX C) (x:It) (hk:0≤x.k∧x.k < 18446744073709551616) (hm:x.m.length≤1000000) (l:List Sl) (e:Bool) (hl:l.length≤8) (hf:∀ s ∈ l,0≤s.f∧s.f≤3):∀ n i,n+i=l.length→∀ G:List (Bs × Bs),G.length=i →
 w592_K0 C ⟨[(13,.int .i64 i),(12,.int .i64 l.length),(11,.ro 3 (l.map eSl) e),(5,.sl 0 2 0 l.length l.length true),(2,.ptr 1 0 0)],[(0,.cells 2 (G.map eA++List.replicate n [.str [],.str []]) true true),(1,.cells 4 [[.int .u64 x.k,.int .u8 x.t,.str x.x,.ro 1 (x.m.map eS) x.e]] true true)],2⟩ =
  some (.ro 2 ((G++(l.drop i).map (attrOf x)).map eA) true):=by
 intro n
 induction n with
 | zero =>
  intro i hi G hG
  have h1:l.drop i=[]:=List.drop_eq_nil_of_le (by omega)
  have h3:¬ i < l.length:=by omega
  have h5:G.length=l.length:=by omega
  have h6:List.take l.length (List.map eA G)=List.map eA G:=List.take_of_length_le (by simp [h5])
  simp only [w592_K0];rw [ck_unf w592_B0.eq_1]
  simp [ck_unf w592_c0.eq_1,h1,h3,h5,h6]
 | succ n ih =>
  intro i hi G hG
  have h1:i < l.length:=by omega
  obtain ⟨k,hk2⟩:∃ k:Nat,x.k=k:=⟨x.k.toNat,by omega⟩
  have d1:=tdec_ok H.toHasW k (by omega)
  have d2:=tdec_ok H.toHasW x.m.length (by omega)
  have ih':=ih (i+1) (by omega) (G++[attrOf x l[i]]) (by simp [hG])
  have h0:=hf _ (List.getElem_mem h1)
  rw [drop_cons h1]
  simp only [w592_K0] at ih' ⊢;rw [ck_unf w592_B0.eq_1]
  simp at ih'
  unfold attrOf at ih' ⊢
  rw [hk2] at ih' ⊢
  have f0123:l[i].f=0∨l[i].f=1∨l[i].f=2∨l[i].f=3:=by omega
  rcases f0123 with f | f | f | f
  all_goals
   simp [f] at ih'
   simp (disch:=omega) [h1,f,wI64,wU64,d1,d2,fill_get,fill_set,H.inl,inlB,H.pp,ppB,ih']
theorem tattrs_ok (H:HasX C) (x:It) (hk:0≤x.k∧x.k < 18446744073709551616) (hm:x.m.length≤1000000) (l:List Sl) (e:Bool) (hl:l.length≤8) (hf:∀ s ∈ l,0≤s.f∧s.f≤3) :
 FnW C 592 [eIt x,.ro 3 (l.map eSl) e]=some (.ro 2 ((l.map (attrOf x)).map eA) true):=by
 rw [fnW_eq H.f592 rfl]
 by_cases hne:l=[]
 · subst hne
   simp (disch:=omega) [w592,ck_unf w592_B0.eq_1,ck_unf w592_c0.eq_1]
 · have h:=tattrs_loop H x hk hm l e hl hf l.length 0 (by simp) [] rfl
   simp only [w592_K0] at h
   simp at h
   simp (disch:=omega) [w592,fits,hne,h]
structure HasY (C:WProg):Prop extends HasX C where
 f582:C.fns.get 582=some w582
 f583:C.fns.get 583=some w583
 f593:C.fns.get 593=some w593
def wordsN (s:Bs):Nd:=⟨2,[],[],[],true,s,[],true⟩
theorem words_ok2 (H:HasY C) (s:Bs):FnW C 583 [.str s]=some (.agg (wordsN s).c):=by
 rw [fnW_eq H.f583 rfl,Nd.c_eq]
 simp [w583,wordsN]
theorem clip_ok (H:HasY C) (l:List Nd) (e:Bool):FnW C 593 [.ro 6 (l.map Nd.c) e]=some (.ro 6 (l.map Nd.c) true):=by
 have h:List.take l.length (List.map Nd.c l)=List.map Nd.c l:=List.take_of_length_le (by simp)
 rw [fnW_eq H.f593 rfl]
 simp [w593,h]
def elemN (x:It) (p:Pt) (key:Bs) (ch:List Nd):Nd:=⟨1,p.t,key,p.s.map (attrOf x),true,[],ch,true⟩
theorem element_ok (H:HasY C) (x:It) (hk:0≤x.k∧x.k < 18446744073709551616) (hm:x.m.length≤1000000) (p:Pt) (hl:p.s.length≤8) (hf:∀ s ∈ p.s,0≤s.f∧s.f≤3) (key:Bs) (ch:List Nd) (e:Bool) :
 FnW C 582 [eIt x,.agg p.c,.str key,.ro 6 (ch.map Nd.c) e]=some (.agg (elemN x p key ch).c):=by
 have h1:=tattrs_ok H.toHasX x hk hm p.s p.se hl hf
 have h2:=clip_ok H ch e
 rw [fnW_eq H.f582 rfl,Nd.c_eq]
 simp only [elemN]
 simp [w582,h1,h2,H.inl,inlB,H.pp,ppB]
end Go.D
end
