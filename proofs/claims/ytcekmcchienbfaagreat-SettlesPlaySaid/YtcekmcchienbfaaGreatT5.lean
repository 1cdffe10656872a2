/- Part of the theory that the claims of this work use: PwP, PwLib, D01, PavLink, L24, PwGlue, PwGlue2, G00, D02, D03, D04. No conditions of its own. -/
import Derived.Test.YtcekmcchienbfaaGreatT4
import Derived.Laws.RangeAny
import Derived.Test.YtcekmcchienbfaaGreatChecked
import Derived.KernelRfl
import Derived.ChangeSame
import Derived.ChangeArms
import Derived.ReadAgain
import Derived.Handed
import Derived.JoinedOf
import Derived.RowKit
import Derived.Test.YtcekmcchienbfaaGreatRows
import Derived.ProofKit
import Derived.Sort.Walk0
set_option linter.unusedVariables false
set_option linter.unusedSimpArgs false
set_option maxHeartbeats 4000000
set_option maxRecDepth 10000
section
set_option maxRecDepth 100000
namespace P
open Go Go.Pav Go.Pw Go.Pw.Z Go.Pw.ZC
def w0:WFn:=⟨0,[],zd (O 0 [E .fail])⟩
def w175_c0:WCode:=zd (s (O 261 [h 2 7,f 0 20,h 1 262,f 1 20,l 1 264,f 2 9,l 1 266,f 3 9,l 1 268,ca 135 [261,263,265,267,269],d 260 (m 270),ex 0 260,ex 1 260,d 32 (m 271),d 33 (m 272)]) (s (s (U 273 [m 33,nei 273 0,m 274,z 275 (m 32),z 275 (ln 1 276),z 275 (gti 277 0),po 275 278,m 279,z 280 (f 2 20),z 280 (l 1 281),z 280 (m 29),z 280 (gt 282 283),po 280 284,m 285,z 286 (f 2 20),z 286 (l 1 287),z 286 (m 30),z 286 (gt 288 289),po 286 290,m 291,z 292 (f 0 20),z 292 (h 1 293),z 292 (f 1 20),z 292 (l 1 295),z 292 (h 2 13),z 292 (ca 321 [294,296,297]),z 292 (nt 298),z 292 (m 299),y 300 (f 1 20),y 300 (l 1 301),y 300 (nei 302 0),z 292 (pa 300 303),z 292 (m 304),y 305 (f 1 20),y 305 (l 1 306),y 305 (f 0 20),y 305 (f 0 308),y 305 (l 1 309),y 305 (f 2 9),y 305 (l 1 311),y 305 (ca 327 [310,312]),y 305 (ne 307 313),z 292 (pa 305 314),po 292 315] [(34,40)] [316,20,13,10,9,8,3]) (c 316 (r (O 6 [ff])))) (s (O 318 [h 5 9,f 0 20,h 1 319,h 2 13,m 10,ca 174 [318,320,321,322],d 317 (m 323),ex 0 317,ex 1 317,d 34 (E (.alloc [.ro 6 [] true,.int .i64 0,.int .i64 0])),n (st 3 34 324),d 35 (m 325)]) (s (s (Q 326 [m 35,nei 326 0,m 327,z 328 (f 2 34),z 328 (l 1 329),z 328 (nei 330 0),po 328 331,m 332,z 333 (f 1 34),z 333 (l 1 334),z 333 (f 1 20),z 333 (l 1 336),z 333 (ne 335 337),po 333 338,m 339,z 340 (f 0 34),z 340 (f 0 341),z 340 (l 1 342),z 340 (f 0 20),z 340 (f 0 344),z 340 (l 1 345),z 340 (ca 172 [343,346]),z 340 (eqi 347 0),po 340 348] [349,8,3]) (c 349 (r (O 6 [ff])))) (s (O 351 [h 3 3,ca 130 [351],d 350 (m 352),ex 0 350,ex 1 350,d 36 (E (.alloc [.ro 9 [] true,.int .i64 0])),d 37 (E (.alloc [.ro 6 [] true])),n (st 2 36 353),n (st 1 37 354)]) (r (O 355 [f 0 8,l 1 355,f 0 37,l 1 357,ca 172 [356,358],eqi 359 1,m 360,y 361 (ca 178 []),pa 361 362,d 6 (m 363)])))))))
def w175_B0:WCode:=zd (s (s (O 197 [m 31,f 0 8,l 1 198,ln 1 199,lt 197 200]) (cc 201 (w .skip) (ee 0))) (s (B 1 (s (s (O 204 [f 0 8,l 1 204,m 31,ix 6 205 206,f 5 207,l 1 208,nt 209]) (c 210 (O 211 [m 29,adi 211 1,d 29 (m 212)]))) (s (U 213 [f 0 8,l 1 213,m 31,ix 6 214 215,f 5 216,l 1 217,f 0 20,f 0 219,l 1 220,m 31,ix 6 221 222,f 5 223,l 1 224,E (.eqv 5 [] true (T 218) (T 225))] [] [226,31,30,29,20,13,10,9,8,7,3]) (cc 226 (s (O 227 [m 30,adi 227 1,d 30 (m 228)]) (s (U 229 [f 0 20,f 0 229,l 1 230,m 31,ix 6 231 232,f 4 233,l 1 234,h 5 9,f 0 8,l 1 237,m 31,ix 6 238 239,f 0 240,h 4 241,m 10,ca 351 [236,242,243],ne 235 244] [(2,15),(6,15)] [245,31,30,29,20,13,10,9,8,7,3]) (c 245 (r (O 6 [ff]))))) (s (V 246 [f 0 8,l 1 246,m 31,ix 6 247 248,f 4 249,l 1 250,f 0 20,f 0 252,l 1 253,m 31,ix 6 254 255,f 4 256,l 1 257,ne 251 258] [] ⟨false,[],[]⟩) (c 259 (r (O 6 [ff])))))))) (O 202 [m 31,adi 202 1,d 31 (m 203)])))
def w175_L0:WCode:=.loop ⟨true,[31,30,29,20,13,10,9,8,7,3],[]⟩ w175_B0
def w175:WFn:=⟨3,[.tmp 6],zd (s (O 3 [bx 0,bx 1,bx 2,ff]) (s (O 39 [h 3 3,ca 130 [39],d 38 (m 40),ex 0 38,ex 1 38,d 7 (E (.alloc [.ro 9 [] true,.int .i64 0])),d 8 (E (.alloc [.ro 6 [] true])),n (st 2 7 41),n (st 1 8 42)]) (s (O 44 [h 4 4,h 2 7,ca 347 [44,45],d 43 (m 46),ex 0 43,ex 1 43,d 9 (E (.alloc [.ro 9 [] true,.int .i64 0,.int .i64 0,.int .i64 0,.int .i64 0])),n (st 5 9 47),d 10 (m 48)]) (s (Q 50 [f 0 4,h 2 50,h 1 8,ca 256 [51,52],d 49 (m 53),ex 0 49,ex 1 49,d 11 (m 54),d 12 (m 55)] [11,10,9,8,7,5,3]) (s (O 57 [h 1 8,m 11,ca 160 [57,58],d 56 (m 59),ex 0 56,ex 1 56,d 13 (E (.alloc [.int .u64 0,.int .i64 0])),n (st 2 13 60),d 14 (m 61)]) (s (s (O 62 [m 14,nei 62 0]) (c 63 (r (O 6 [ff])))) (s (s (O 64 [E (.idxa 2 1 (T 5) (N 1)),l 1 64,E (.cvt .i64 (T 65)),d 15 (m 66)]) (s (Q 67 [f 0 8,l 1 67,ln 1 68,gti 69 0] [70,15,13,10,9,8,7,5,3]) (c 70 (s (s (O 71 [m 15,f 0 8,l 1 72,ln 1 73,lt 71 74]) (c 75 (O 76 [f 0 8,l 1 76,m 15,ix 6 77 78,f 0 79,f 0 80,l 1 81,f 0 13,n (st 1 83 82)]))) (O 84 [f 1 13,l 1 84,E (.idxa 2 1 (T 5) (N 0)),l 1 86,E (.bin .rem (T 87) (.c (.int .u8 64))),E (.cvt .i64 (T 88)),ad 85 89,f 1 13,n (st 1 91 90)]))))) (s (Q 93 [h 5 9,f 0 8,l 1 94,h 2 13,m 10,ca 348 [93,95,96,97],d 92 (m 98),ex 0 92,ex 1 92,ex 2 92,ex 3 92,d 16 (m 99),d 17 (m 100),d 18 (m 101),d 19 (m 102)] [19,18,17,16,13,10,9,8,7,3]) (s (O 104 [h 5 9,h 1 8,h 2 13,m 10,ca 174 [104,105,106,107],d 103 (m 108),ex 0 103,ex 1 103,d 20 (E (.alloc [.ro 6 [] true,.int .i64 0,.int .i64 0])),n (st 3 20 109),d 21 (m 110)]) (s (s (Q 111 [m 19,nei 111 0,m 112,z 113 (m 21),z 113 (nei 114 0),po 113 115,m 116,z 117 (f 0 20),z 117 (f 0 118),z 117 (l 1 119),z 117 (m 16),z 117 (ca 172 [120,121]),z 117 (eqi 122 0),po 117 123,m 124,z 125 (f 1 20),z 125 (l 1 126),z 125 (m 17),z 125 (ne 127 128),po 125 129,m 130,z 131 (f 2 20),z 131 (l 1 132),z 131 (m 18),z 131 (ne 133 134),po 131 135,m 136,z 137 (f 0 20),z 137 (f 0 138),z 137 (l 1 139),z 137 (E (.cap (T 140))),z 137 (f 0 20),z 137 (f 0 142),z 137 (l 1 143),z 137 (ln 1 144),z 137 (ne 141 145),po 137 146] [147,20,13,10,9,8,7,3]) (c 147 (r (O 6 [ff])))) (s (Q 149 [h 5 9,f 0 8,l 1 150,h 2 13,m 10,ca 349 [149,151,152,153],d 148 (m 154),ex 0 148,ex 1 148,ex 2 148,ex 3 148,d 22 (m 155),d 23 (m 156),d 24 (m 157),d 25 (m 158)] [24,23,22,20,13,10,9,8,7,3]) (s (O 160 [h 5 9,h 1 8,h 2 13,m 10,ca 350 [160,161,162,163],d 159 (m 164),ex 0 159,ex 1 159,ex 2 159,d 26 (E (.alloc [.ro 6 [] true,.int .i64 0,.int .i64 0])),n (st 3 26 165),d 27 (m 166),d 28 (m 167)]) (s (s (Q 168 [m 28,nei 168 0,m 169,z 170 (f 0 26),z 170 (f 0 171),z 170 (l 1 172),z 170 (m 22),z 170 (ca 172 [173,174]),z 170 (eqi 175 0),po 170 176,m 177,z 178 (f 1 26),z 178 (l 1 179),z 178 (m 23),z 178 (ne 180 181),po 178 182,m 183,z 184 (m 27),z 184 (m 24),z 184 (gti 186 0),z 184 (E (.eqv 5 [] true (T 185) (T 187))),po 184 188,m 189,z 190 (f 2 26),z 190 (l 1 191),z 190 (m 24),z 190 (E (.mn (T 193) (N 1))),z 190 (ne 192 194),po 190 195] [196,20,13,10,9,8,7,3]) (c 196 (r (O 6 [ff])))) (s (O 29 [i 0,i 0]) (s (s (O 31 [i 0]) (bk 0 w175_L0 ⟨true,[30,29,20,13,10,9,8,7,3],[]⟩)) w175_c0)))))))))))))))⟩
@[simp] theorem w175_E0:ZL w175_L0 w175_B0 ⟨true,[31,30,29,20,13,10,9,8,7,3],[]⟩:=ck_lp rfl
noncomputable abbrev w175_K0 (C:WProg) (s:WSt):Option AV:=CK C 0 (pureFin [.tmp 6]) [.sq w175_L0,.bk 0 ⟨true,[30,29,20,13,10,9,8,7,3],[]⟩,.sq w175_c0] w175_B0 s
def w178:WFn:=⟨0,[.tmp 0],zd (s (O 0 [ff]) (s (O 11 [E (.build [.int .u64 0,.int .i64 0] [(0,1,.c (.int .u64 2)),(1,1,N 25)]),E (.buildS [.int .u64 0,.int .i64 0] 1 [(0,T 11)]),d 1 (m 12)]) (s (O 13 [E (.build [.int .u64 0,.int .i64 0] [(0,1,.c (.int .u64 2)),(1,1,N 25)]),E (.build [.int .u64 0,.int .i64 0] [(0,1,.c (.int .u64 4)),(1,1,N 1)]),E (.buildS [.int .u64 0,.int .i64 0] 2 [(0,T 13),(1,T 14)]),d 2 (m 15)]) (s (s (Q 16 [E (.build [.int .u64 0,.int .i64 0] [(0,1,.c (.int .u64 1))]),m 1,E (.build [.int .i64 0,.int .i64 0,.int .i64 0,.int .i64 0] [(0,1,N 10),(1,1,N 25),(2,1,N 10),(3,1,N 10)]),E (.build [.int .i64 0,.int .i64 0,.int .i64 0,.int .i64 0] [(0,1,N 1),(1,1,N 1),(2,1,N 0),(3,1,N 0)]),E (.call 352 [T 16,T 17,T 18,T 19,N 0,N 1]),eqi 20 0,m 21,z 22 (E (.build [.int .u64 0,.int .i64 0] [(0,1,.c (.int .u64 2)),(1,1,N 5)])),z 22 (m 1),z 22 (E (.build [.int .i64 0,.int .i64 0,.int .i64 0,.int .i64 0] [(0,1,N 10),(1,1,N 25),(2,1,N 10),(3,1,N 10)])),z 22 (E (.build [.int .i64 0,.int .i64 0,.int .i64 0,.int .i64 0] [(0,1,N 0),(1,1,N 1),(2,1,N 1),(3,1,N 1)])),z 22 (E (.call 352 [T 23,T 24,T 25,T 26,N 15,N 1])),z 22 (eqi 27 0),po 22 28,m 29,z 30 (E (.build [.int .u64 0,.int .i64 0] [(0,1,.c (.int .u64 4))])),z 30 (m 1),z 30 (E (.build [.int .i64 0,.int .i64 0,.int .i64 0,.int .i64 0] [(0,1,N 10),(1,1,N 10),(2,1,N 10),(3,1,N 10)])),z 30 (E (.build [.int .i64 0,.int .i64 0,.int .i64 0,.int .i64 0] [(0,1,N 0),(1,1,N 0),(2,1,N 1),(3,1,N 1)])),z 30 (E (.call 352 [T 31,T 32,T 33,T 34,N 20,N 1])),z 30 (eqi 35 0),po 30 36,m 37,z 38 (E (.build [.int .u64 0,.int .i64 0] [(0,1,.c (.int .u64 4))])),z 38 (m 2),z 38 (E (.build [.int .i64 0,.int .i64 0,.int .i64 0,.int .i64 0] [(0,1,N 10),(1,1,N 25),(2,1,N 10),(3,1,N 1)])),z 38 (E (.build [.int .i64 0,.int .i64 0,.int .i64 0,.int .i64 0] [(0,1,N 0),(1,1,N 1),(2,1,N 1),(3,1,N 1)])),z 38 (E (.call 352 [T 39,T 40,T 41,T 42,N 26,N 2])),z 38 (eqi 43 0),po 38 44] [45]) (c 45 (r (O 0 [ff])))) (s (Q 47 [E (.call 173 [N 0]),d 46 (m 47),ex 0 46,ex 1 46,d 3 (E (.alloc [.ro 9 [] true,.int .i64 0,.int .i64 0,.int .i64 0,.int .i64 0])),d 4 (E (.alloc [.ro 6 [] true])),n (st 5 3 48),n (st 1 4 49)] [4,3]) (s (O 51 [h 5 3,h 1 4,E (.build [.int .u64 0,.int .i64 0] []),E (.call 174 [T 51,T 52,T 53,.c (.ro 2 [] true)]),d 50 (m 54),ex 0 50,ex 1 50,d 5 (E (.alloc [.ro 6 [] true,.int .i64 0,.int .i64 0])),n (st 3 5 55),d 6 (m 56)]) (s (O 57 [f 2 3,n (E (.store 1 (T 57) (N 1)))]) (s (O 59 [h 5 3,h 1 4,E (.build [.int .u64 0,.int .i64 0] [(0,1,.c (.int .u64 9))]),E (.call 174 [T 59,T 60,T 61,.c (.ro 2 [] true)]),d 58 (m 62),ex 0 58,ex 1 58,d 7 (E (.alloc [.ro 6 [] true,.int .i64 0,.int .i64 0])),n (st 3 7 63),d 8 (m 64)]) (s (Q 66 [h 5 3,h 1 4,E (.build [.int .u64 0,.int .i64 0] [(0,1,.c (.int .u64 1))]),E (.build [.int .u64 0,.int .i64 0] [(0,1,.c (.int .u64 2)),(1,1,N 25)]),E (.build [.int .u64 0,.int .i64 0] [(0,1,.c (.int .u64 2)),(1,1,N 26)]),E (.buildS [.int .u64 0,.int .i64 0] 2 [(0,T 69),(1,T 70)]),ca 174 [66,67,68,71],d 65 (m 72),ex 0 65,ex 1 65,d 9 (E (.alloc [.ro 6 [] true,.int .i64 0,.int .i64 0])),n (st 3 9 73),d 10 (m 74)] [10,8,6]) (r (O 75 [m 6,eqi 75 1,m 76,y 77 (m 8),y 77 (eqi 78 11),pa 77 79,m 80,y 81 (m 10),y 81 (eqi 82 8),pa 81 83,d 0 (m 84)])))))))))))⟩
def w130_c0:WCode:=zd (r (V 68 [h 2 4,h 1 6,n (st 2 2 68),n (st 1 3 69)] [(1,2)] ⟨false,[],[]⟩))
def w130_B0:WCode:=zd (s (s (O 17 [m 7,m 5,ln 1 18,lt 17 19]) (cc 20 (w .skip) (ee 0))) (s (B 1 (s (s (V 23 [h 2 4,m 5,m 7,ix 4 24 25,h 4 26,E (.call 271 [T 23,T 27,N 0]),gti 28 0] [] ⟨false,[],[]⟩) (c 29 (ee 1))) (s (U 30 [h 2 4,m 5,m 7,ix 4 31 32,h 4 33,ca 240 [30,34],d 8 (E (.alloc [.int .u64 0,.int .u8 0,.str [],.ro 1 [] true,.int .i64 0,.bool false])),n (st 6 8 35)] [(0,6),(4,6),(5,6)] [8,7,6,5,4,3,2,1]) (s (s (O 36 [f 0 6,l 1 36,ln 1 37,d 9 (m 38)]) (s (O 39 [m 9,f 1 1,l 1 40,ln 1 41,lt 39 42,m 43,y 44 (f 1 1),y 44 (l 1 45),y 44 (m 9),y 44 (ix 1 46 47),y 44 (l 1 48),y 44 (E (.bin .gtr (T 49) (.c (.int .u8 0)))),pa 44 50]) (c 51 (s (Q 52 [f 1 1,l 1 52,m 9,ix 1 53 54,l 1 55,E (.bin .rem (T 56) (.c (.int .u8 40))),E (.cvt .i64 (T 57)),E (.bin .add (N 1) (T 58)),f 4 8,n (st 1 60 59)] [8,7,6,5,4,3,2,1]) (O 61 [f 5 8,n (E (.store 1 (T 61) (.c (.bool true))))]))))) (O 62 [f 0 6,l 1 62,h 6 8,E (.buildS [.int .u64 0,.int .u8 0,.str [],.ro 1 [] true,.int .i64 0,.bool false] 1 [(0,T 64)]),E (.app [.int .u64 0,.int .u8 0,.str [],.ro 1 [] true,.int .i64 0,.bool false] 72 false (T 63) (T 65)),f 0 6,n (st 1 67 66)]))))) (O 21 [m 7,adi 21 1,d 7 (m 22)])))
def w130_L0:WCode:=.loop ⟨true,[7,6,5,4,3,2,1],[]⟩ w130_B0
def w130:WFn:=⟨1,[.cell 2 2 true,.cell 3 1 true],zd (s (Q 1 [bx 0,E (.alloc [.ro 9 [] true,.int .i64 0]),E (.alloc [.ro 6 [] true])] [3,2,1]) (s (O 10 [f 2 1,l 1 10,ca 126 [11],E (.build [.ro 9 [] true,.int .i64 0] [(0,1,T 12),(1,1,N 12)]),d 4 (E (.alloc [.ro 9 [] true,.int .i64 0])),n (st 2 4 13)]) (s (O 14 [f 0 1,h 1 14,ca 270 [15],d 5 (m 16)]) (s (O 6 [E (.alloc [.ro 6 [] true])]) (s (s (O 7 [i 0]) (bk 0 w130_L0 ⟨true,[6,4,3,2],[]⟩)) w130_c0)))))⟩
@[simp] theorem w130_E0:ZL w130_L0 w130_B0 ⟨true,[7,6,5,4,3,2,1],[]⟩:=ck_lp rfl
noncomputable abbrev w130_K0 (C:WProg) (s:WSt):Option AV:=CK C 0 (pureFin [.cell 2 2 true,.cell 3 1 true]) [.sq w130_L0,.bk 0 ⟨true,[6,4,3,2],[]⟩,.sq w130_c0] w130_B0 s
def w464:WFn:=⟨1,[.tmp 2],zd (s (O 1 [bx 0,i 0]) (s (B 0 (s (O 4 [f 0 1,h 2 4,ca 115 [5],nei 6 0,d 3 (m 7)]) (cc 3 (r (O 2 [i 7])) (s (Q 9 [f 2 1,l 1 9,lti 10 1,m 11,z 12 (f 2 1),z 12 (l 1 13),z 12 (gti 14 2147483648),po 12 15,m 16,z 17 (f 3 1),z 17 (l 1 18),z 17 (lti 19 0),po 17 20,m 21,z 22 (f 3 1),z 22 (l 1 23),z 22 (gti 24 16),po 22 25,m 26,z 27 (f 4 1),z 27 (l 1 28),z 27 (lti 29 1),po 27 30,m 31,z 32 (f 4 1),z 32 (l 1 33),z 32 (gti 34 2305843009213693952),po 32 35,d 8 (m 36)] [8]) (c 8 (r (O 2 [i 1]))))))) (r (O 2 [i 0]))))⟩
def w344:WFn:=⟨4,[.tmp 8],zd (s (O 4 [bx 0,bx 1,bx 2,d 8 (i 0)]) (s (s (O 16 [h 5 4,ca 464 [16],d 9 (m 17)]) (s (O 18 [m 9,nei 18 0]) (c 19 (r (Q 20 [m 9,d 8 (m 20)] [8]))))) (s (s (O 21 [f 0 4,h 2 21,h 1 5,ca 223 [22,23],d 10 (m 24)]) (s (O 25 [m 10,nei 25 0]) (c 26 (r (O 27 [m 10,d 8 (m 27)]))))) (s (s (O 29 [m 3,f 4 4,l 1 30,ca 201 [29,31],d 28 (m 32),ex 0 28,ex 1 28,d 11 (m 33),d 12 (m 34)]) (s (O 35 [m 12,nei 35 0]) (c 36 (r (O 37 [m 12,d 8 (m 37)]))))) (s (s (Q 38 [h 2 6,ca 318 [38],d 13 (m 39)] [13,6,5]) (s (O 40 [m 13,nei 40 0]) (c 41 (r (O 42 [m 13,d 8 (m 42)]))))) (s (s (O 44 [h 1 5,f 0 6,l 1 45,ca 224 [44,46],d 43 (m 47),ex 0 43,ex 1 43,d 14 (m 48),d 15 (m 49)]) (s (O 50 [f 0 6,l 1 50,E (.bin .neq (T 51) (.c (.int .u64 0))),m 52,y 53 (m 15),y 53 (nt 54),pa 53 55]) (c 56 (r (O 8 [i 11]))))) (r (O 8 [i 0]))))))))⟩
def w351:WFn:=⟨3,[.tmp 6],zd (s (O 3 [bx 0,bx 1,d 6 (i 0)]) (s (s (O 8 [m 2,E (.mkfn 467 [T 4]),ca 466 [8,9],d 7 (m 10)]) (s (O 11 [m 7,gei 11 0]) (c 12 (r (Q 13 [m 2,m 7,ix 2 13 14,f 1 15,l 1 16,d 6 (m 17)] [6]))))) (s (s (O 18 [f 1 4,l 1 18,E (.cvt .i64 (T 19)),f 0 3,f 0 21,l 1 22,ln 1 23,lt 20 24]) (c 25 (r (O 26 [f 0 3,f 0 26,l 1 27,f 1 4,l 1 29,ix 9 28 30,f 6 31,l 1 32,d 6 (m 33)])))) (r (O 6 [i 0])))))⟩
def w465_c0:WCode:=zd (s (s (O 27 [f 0 3,f 0 27,l 1 28,ln 1 29,f 1 4,l 1 31,E (.cvt .i64 (T 32)),gt 30 33]) (c 34 (r (O 35 [f 0 3,f 0 35,l 1 36,f 1 4,l 1 38,ix 9 37 39,f 6 40,l 1 41,d 6 (m 42)])))) (r (O 6 [i 0])))
def w465_B0:WCode:=zd (s (s (O 8 [m 7,m 2,ln 1 9,lt 8 10]) (cc 11 (w .skip) (ee 0))) (s (B 1 (s (V 14 [m 2,m 7,ix 2 14 15,f 0 16,l 1 17,f 0 4,l 1 19,eq 18 20] [] ⟨false,[],[]⟩) (c 21 (r (Q 22 [m 2,m 7,ix 2 22 23,f 1 24,l 1 25,d 6 (m 26)] [6]))))) (O 12 [m 7,adi 12 1,d 7 (m 13)])))
def w465_L0:WCode:=.loop ⟨true,[7,4,3,2],[]⟩ w465_B0
def w465:WFn:=⟨3,[.tmp 6],zd (s (O 3 [bx 0,bx 1,d 6 (i 0)]) (s (s (O 7 [i 0]) (bk 0 w465_L0 ⟨true,[4,3],[]⟩)) w465_c0))⟩
@[simp] theorem w465_E0:ZL w465_L0 w465_B0 ⟨true,[7,4,3,2],[]⟩:=ck_lp rfl
noncomputable abbrev w465_K0 (C:WProg) (s:WSt):Option AV:=CK C 0 (pureFin [.tmp 6]) [.sq w465_L0,.bk 0 ⟨true,[4,3],[]⟩,.sq w465_c0] w465_B0 s
def w348_B0:WCode:=zd (B 1 (s (Q 18 [h 5 4,m 1,h 2 6,m 3,ca 349 [18,19,20,21],d 17 (m 22),ex 0 17,ex 1 17,ex 2 17,ex 3 17,d 13 (m 23),d 14 (m 24),d 15 (m 25),d 16 (m 26)] [16,15,14,13,12,6,4,3]) (s (s (O 27 [m 16,gti 27 0]) (c 28 (r (O 8 [d 29 (m 16),E (.mv (.c (.ro 6 [] true))),i 0,i 0,m 29])))) (s (s (O 30 [m 15,eqi 30 0]) (c 31 (r (O 8 [d 32 (m 13),d 33 (m 14),d 34 (m 12),m 32,m 33,m 34,i 0])))) (s (O 35 [m 13,d 1 (m 35)]) (O 36 [m 12,adi 36 1,d 12 (m 37)]))))))
def w348_L0:WCode:=.loop ⟨true,[12,6,4,3,1],[]⟩ w348_B0
def w348:WFn:=⟨4,[.tmp 8,.tmp 9,.tmp 10,.tmp 11],zd (s (O 8 [d 4 (bx 0),d 6 (bx 2),E (.mv (.c (.ro 6 [] true))),i 0,i 0,i 0]) (s (O 12 [i 0]) (bk 0 w348_L0 ⟨true,[11,10,9,8],[]⟩)))⟩
@[simp] theorem w348_E0:ZL w348_L0 w348_B0 ⟨true,[12,6,4,3,1],[]⟩:=ck_lp rfl
noncomputable abbrev w348_K0 (C:WProg) (s:WSt):Option AV:=CK C 0 (pureFin [.tmp 8,.tmp 9,.tmp 10,.tmp 11]) [.sq w348_L0,.bk 0 ⟨true,[11,10,9,8],[]⟩] w348_B0 s
def w174_B0:WCode:=zd (B 1000000 (s (s (Q 28 [h 5 4,f 0 11,h 1 29,h 2 6,m 3,ca 2019 [28,30,31,32],d 27 (m 33),ex 0 27,ex 1 27,ex 2 27,f 1 11,n (st 1 37 34),d 12 (m 35),d 13 (m 36)] [13,12,11,8,6,4,3]) (s (s (O 38 [m 13,nei 38 0]) (c 39 (r (O 40 [E (.build [.ro 6 [] true,.int .i64 0,.int .i64 0] []),m 13,n (st 3 8 40),d 9 (m 41)])))) (s (s (O 42 [m 12,gti 42 0]) (c 43 (s (O 44 [f 2 11,l 1 44,adi 45 1,f 2 11,n (st 1 47 46)]) (ee 1000000)))) (r (O 48 [h 3 11,n (st 3 8 48),d 9 (i 0)]))))) (ee 1000001)))
def w174_L0:WCode:=.loop ⟨true,[11,8,6,4,3],[]⟩ w174_B0
def w174:WFn:=⟨4,[.cell 8 3 true,.tmp 9],zd (s (Q 4 [bx 0,bx 1,bx 2,d 8 (E (.alloc [.ro 6 [] true,.int .i64 0,.int .i64 0])),d 9 (i 0)] [8,6,5,4,3]) (s (s (O 14 [h 5 4,h 1 5,h 2 6,m 3,ca 344 [14,15,16,17],d 10 (m 18)]) (s (O 19 [m 10,nei 19 0]) (c 20 (r (O 21 [E (.build [.ro 6 [] true,.int .i64 0,.int .i64 0] []),m 10,n (st 3 8 21),d 9 (m 22)]))))) (s (O 23 [h 5 4,h 1 5,ca 3001 [23,24],E (.build [.ro 6 [] true,.int .i64 0,.int .i64 0] [(0,1,T 25)]),d 11 (E (.alloc [.ro 6 [] true,.int .i64 0,.int .i64 0])),n (st 3 11 26)]) (s (O 12 [i 0]) (s (O 13 [i 0]) (bk 1000001 w174_L0 ⟨true,[9,8],[]⟩))))))⟩
@[simp] theorem w174_E0:ZL w174_L0 w174_B0 ⟨true,[11,8,6,4,3],[]⟩:=ck_lp rfl
noncomputable abbrev w174_K0 (C:WProg) (s:WSt):Option AV:=CK C 0 (pureFin [.cell 8 3 true,.tmp 9]) [.sq w174_L0,.bk 1000001 ⟨true,[9,8],[]⟩] w174_B0 s
def w350:WFn:=⟨4,[.cell 8 3 true,.tmp 9,.tmp 10],zd (s (Q 8 [d 4 (bx 0),d 5 (bx 1),d 6 (bx 2),E (.alloc [.ro 6 [] true,.int .i64 0,.int .i64 0]),ff,i 0] [8,6,5,4,3]) (s (s (O 15 [h 5 4,h 1 5,h 2 6,m 3,ca 344 [15,16,17,18],d 11 (m 19)]) (s (O 20 [m 11,nei 20 0]) (c 21 (r (O 22 [E (.build [.ro 6 [] true,.int .i64 0,.int .i64 0] []),m 11,n (st 3 8 22),d 9 ff,d 10 (m 23)]))))) (s (Q 24 [h 5 4,h 1 5,ca 3001 [24,25],d 12 (E (.alloc [.ro 6 [] true])),n (st 1 12 26)] [12,8,6,4,3]) (s (Q 28 [h 5 4,h 1 12,h 2 6,m 3,ca 2019 [28,29,30,31],d 27 (m 32),ex 0 27,ex 1 27,ex 2 27,d 13 (m 33),d 14 (m 34),d 10 (m 35)] [14,13,12,10,8]) (s (s (O 36 [m 10,nei 36 0]) (c 37 (r (O 38 [E (.build [.ro 6 [] true,.int .i64 0,.int .i64 0] []),m 10,n (st 3 8 38),d 9 ff,d 10 (m 39)])))) (r (O 40 [h 1 12,m 13,m 14,E (.mn (T 42) (N 1)),E (.build [.ro 6 [] true,.int .i64 0,.int .i64 0] [(0,1,T 40),(1,1,T 41),(2,1,T 43)]),m 14,gti 45 0,n (st 3 8 44),d 9 (m 46),d 10 (i 0)])))))))⟩
def w347_c0:WCode:=zd (r (O 77 [h 5 6,m 7,n (st 5 4 77),d 5 (m 78)]))
def w347_c1:WCode:=zd (O 33 [m 8,adi 33 1,d 8 (m 34)])
def w347_c2:WCode:=zd (s (O 71 [m 10,nt 71]) (c 72 (O 73 [m 7,h 2 9,E (.buildS [.int .u64 0,.int .i64 0] 1 [(0,T 74)]),E (.app [.int .u64 0,.int .i64 0] 16 false (T 73) (T 75)),d 7 (m 76)])))
def w347_B1:WCode:=zd (s (s (O 54 [m 11,m 7,ln 1 55,lt 54 56]) (cc 57 (w .skip) (ee 2))) (s (B 3 (U 60 [m 10,m 60,z 61 (m 7),z 61 (m 11),z 61 (ix 2 62 63),z 61 (f 0 64),z 61 (l 1 65),z 61 (f 0 9),z 61 (l 1 67),z 61 (eq 66 68),po 61 69,d 10 (m 70)] [] [11,10,9,8,7,6,4,2])) (O 58 [m 11,adi 58 1,d 11 (m 59)])))
def w347_L1:WCode:=.loop ⟨true,[11,10,9,8,7,6,4,2],[]⟩ w347_B1
def w347_B0:WCode:=zd (s (s (O 24 [m 8,f 3 2,l 1 25,ln 1 26,lt 24 27,m 28,y 29 (m 8),y 29 (lti 30 12),pa 29 31]) (cc 32 (w .skip) (ee 0))) (s (bk 1 (s (U 35 [f 3 2,l 1 35,m 8,ix 2 36 37,E (.idxa 2 1 (T 38) (N 0)),l 1 39,E (.bin .rem (T 40) (.c (.int .u8 12))),E (.cvt .u64 (T 41)),E (.bin .add (.c (.int .u64 1)) (T 42)),f 3 2,l 1 44,m 8,ix 2 45 46,E (.idxa 2 1 (T 47) (N 1)),l 1 48,E (.bin .rem (T 49) (.c (.int .u8 50))),E (.cvt .i64 (T 50)),E (.bin .add (N 1) (T 51)),E (.build [.int .u64 0,.int .i64 0] [(0,1,T 43),(1,1,T 52)]),d 9 (E (.alloc [.int .u64 0,.int .i64 0])),n (st 2 9 53)] [(1,19),(5,19),(10,19),(14,19)] [9,8,7,6,4,2]) (s (O 10 [ff]) (s (s (O 11 [i 0]) (bk 2 w347_L1 ⟨true,[10,9,8,7,6,4,2],[]⟩)) w347_c2))) ⟨true,[8,7,6,4,2],[]⟩) w347_c1))
def w347_L0:WCode:=.loop ⟨true,[8,7,6,4,2],[]⟩ w347_B0
def w347:WFn:=⟨2,[.cell 4 5 true,.tmp 5],zd (s (O 2 [bx 0,bx 1,E (.alloc [.ro 9 [] true,.int .i64 0,.int .i64 0,.int .i64 0,.int .i64 0]),E (.mv (.c (.ro 2 [] true)))]) (s (Q 12 [h 2 3,f 0 2,f 0 13,l 1 14,E (.bin .rem (T 15) (.c (.int .u8 200))),E (.cvt .i64 (T 16)),E (.bin .add (N 1) (T 17)),f 2 2,l 1 19,E (.bin .rem (T 20) (.c (.int .u8 4))),E (.cvt .i64 (T 21)),E (.build [.ro 9 [] true,.int .i64 0,.int .i64 0,.int .i64 0,.int .i64 0] [(0,2,T 12),(2,1,T 18),(3,1,T 22),(4,1,N 1)]),d 6 (E (.alloc [.ro 9 [] true,.int .i64 0,.int .i64 0,.int .i64 0,.int .i64 0])),n (st 5 6 23)] [6,4,2]) (s (R 7 [E (.mv (.c (.ro 2 [] true)))] ⟨true,[7,6,4,2],[(7,2)]⟩) (s (s (O 8 [i 0]) (bk 0 w347_L0 ⟨true,[7,6,4],[]⟩)) w347_c0))))⟩
@[simp] theorem w347_E1:ZL w347_L1 w347_B1 ⟨true,[11,10,9,8,7,6,4,2],[]⟩:=ck_lp rfl
noncomputable abbrev w347_K1 (C:WProg) (s:WSt):Option AV:=CK C 0 (pureFin [.cell 4 5 true,.tmp 5]) [.sq w347_L1,.bk 2 ⟨true,[10,9,8,7,6,4,2],[]⟩,.sq w347_c2,.bk 1 ⟨true,[8,7,6,4,2],[]⟩,.sq w347_c1,.sq w347_L0,.bk 0 ⟨true,[7,6,4],[]⟩,.sq w347_c0] w347_B1 s
@[simp] theorem w347_E0:ZL w347_L0 w347_B0 ⟨true,[8,7,6,4,2],[]⟩:=ck_lp rfl
noncomputable abbrev w347_K0 (C:WProg) (s:WSt):Option AV:=CK C 0 (pureFin [.cell 4 5 true,.tmp 5]) [.sq w347_L0,.bk 0 ⟨true,[7,6,4],[]⟩,.sq w347_c0] w347_B0 s
def w256:WFn:=⟨2,[.tmp 4,.tmp 5],zd (s (O 2 [bx 0,bx 1,i 0,i 0]) (s (O 6 [f 0 2,l 1 6,E (.bin .rem (T 7) (.c (.int .u8 200))),E (.cvt .i64 (T 8)),E (.bin .add (N 1) (T 9)),d 5 (m 10)]) (r (V 11 [f 1 2,l 1 11,E (.cvt .i64 (T 12)),f 0 3,l 1 14,m 5,ca 327 [15,16],adi 17 1,E (.bin .rem (T 13) (T 18)),m 5,d 4 (m 19),d 5 (m 20)] [(1,6)] ⟨false,[],[]⟩))))⟩
def w160:WFn:=⟨2,[.cell 4 2 true,.tmp 5],zd (s (O 4 [d 2 (bx 0),E (.alloc [.int .u64 0,.int .i64 0]),i 0]) (s (O 10 [h 1 2,ca 246 [10],d 9 (m 11),ex 0 9,ex 1 9,d 6 (m 12),d 7 (m 13)]) (s (s (O 14 [m 7,nei 14 0]) (c 15 (r (Q 16 [E (.build [.int .u64 0,.int .i64 0] []),m 7,n (st 2 4 16),d 5 (m 17)] [5,4])))) (s (s (O 18 [m 1,lti 18 0,m 19,z 20 (m 1),z 20 (h 1 2),z 20 (ca 111 [22]),z 20 (sbi 23 1),z 20 (E (.mx (N 0) (T 24))),z 20 (gt 21 25),po 20 26]) (c 27 (r (O 28 [E (.build [.int .u64 0,.int .i64 0] []),n (st 2 4 28),d 5 (i 4)])))) (s (s (O 29 [f 0 2,l 1 29,ln 1 30,eqi 31 0]) (c 32 (r (O 33 [E (.build [.int .u64 0,.int .i64 0] []),n (st 2 4 33),d 5 (i 0)])))) (s (Q 35 [h 1 2,m 1,ca 120 [35,36],d 34 (m 37),ex 0 34,ex 1 34,d 8 (m 38),d 7 (m 39)] [8,7,6,4,2,1]) (r (V 40 [f 0 2,l 1 40,m 8,ix 6 41 42,f 0 43,f 0 44,l 1 45,m 1,m 6,m 8,ix 1 48 49,l 1 50,sb 47 51,E (.build [.int .u64 0,.int .i64 0] [(0,1,T 46),(1,1,T 52)]),m 7,n (st 2 4 53),d 5 (m 54)] [] ⟨false,[],[]⟩))))))))⟩
def w172_c0:WCode:=zd (r (O 4 [i 1]))
def w172_B0:WCode:=zd (s (s (O 11 [m 5,m 0,ln 1 12,lt 11 13]) (cc 14 (w .skip) (ee 0))) (s (B 1 (s (U 17 [m 0,m 5,ix 6 17 18,f 4 19,l 1 20,m 1,m 5,ix 6 22 23,f 4 24,l 1 25,ne 21 26,m 27,z 28 (m 0),z 28 (m 5),z 28 (ix 6 29 30),z 28 (f 5 31),z 28 (l 1 32),z 28 (m 1),z 28 (m 5),z 28 (ix 6 34 35),z 28 (f 5 36),z 28 (l 1 37),z 28 (E (.eqv 5 [] true (T 33) (T 38))),po 28 39,m 40,z 41 (m 0),z 41 (m 5),z 41 (ix 6 42 43),z 41 (f 0 44),z 41 (h 4 45),z 41 (m 1),z 41 (m 5),z 41 (ix 6 47 48),z 41 (f 0 49),z 41 (h 4 50),z 41 (ca 112 [46,51]),z 41 (eqi 52 0),po 41 53] [] [54,5,1,0]) (c 54 (r (O 4 [i 0]))))) (O 15 [m 5,adi 15 1,d 5 (m 16)])))
def w172_L0:WCode:=.loop ⟨true,[5,1,0],[]⟩ w172_B0
def w172:WFn:=⟨2,[.tmp 4],zd (s (O 4 [i 0]) (s (s (O 6 [m 0,ln 1 6,m 1,ln 1 8,ne 7 9]) (c 10 (r (O 4 [i 0])))) (s (s (O 5 [i 0]) (bk 0 w172_L0 ⟨true,[],[]⟩)) w172_c0)))⟩
@[simp] theorem w172_E0:ZL w172_L0 w172_B0 ⟨true,[5,1,0],[]⟩:=ck_lp rfl
noncomputable abbrev w172_K0 (C:WProg) (s:WSt):Option AV:=CK C 0 (pureFin [.tmp 4]) [.sq w172_L0,.bk 0 ⟨true,[],[]⟩,.sq w172_c0] w172_B0 s
def w349_c0:WCode:=zd (r (O 90 [m 17,m 12,m 16,ln 1 92,d 8 (m 90),d 9 (m 91),d 10 (m 93),d 11 (i 0)]))
def w349_B0:WCode:=zd (s (s (O 56 [m 19,m 16,ln 1 57,lt 56 58]) (cc 59 (w .skip) (ee 2))) (s (B 3 (s (V 62 [m 17,m 16,m 19,ix 1 63 64,l 1 65,h 5 4,m 17,m 16,m 19,ix 1 69 70,l 1 71,ix 6 68 72,f 0 73,h 4 74,m 3,ca 465 [67,75,76],ix 6 62 66,f 4 78,n (st 1 79 77)] [(4,15)] ⟨false,[],[]⟩) (s (Q 80 [m 17,m 16,m 19,ix 1 81 82,l 1 83,ix 6 80 84,f 5 85,n (E (.store 1 (T 86) (.c (.bool true))))] [19,17,16,12,4,3]) (s (O 87 [m 17,ca 407 [87],gti 88 0]) (c 89 (r (O 8 [E (.mv (.c (.ro 6 [] true))),i 0,i 0,i 13]))))))) (O 60 [m 19,adi 60 1,d 19 (m 61)])))
def w349_L0:WCode:=.loop ⟨true,[19,17,16,12,4,3],[]⟩ w349_B0
def w349_c1:WCode:=zd (s (s (Q 19 [i 0] [19,17,16,12,4,3]) (bk 2 w349_L0 ⟨true,[17,16,12],[]⟩)) w349_c0)
def w349_B1:WCode:=zd (s (s (O 43 [m 18,m 1,ln 1 44,lt 43 45]) (cc 46 (w .skip) (ee 0))) (s (B 1 (O 49 [m 17,m 1,m 18,ix 6 50 51,h 6 52,E (.buildS [.int .u64 0,.int .u8 0,.str [],.ro 1 [] true,.int .i64 0,.bool false] 1 [(0,T 53)]),E (.app [.int .u64 0,.int .u8 0,.str [],.ro 1 [] true,.int .i64 0,.bool false] 72 false (T 49) (T 54)),d 17 (m 55)])) (O 47 [m 18,adi 47 1,d 18 (m 48)])))
def w349_L1:WCode:=.loop ⟨true,[18,17,16,12,4,3,1],[]⟩ w349_B1
def w349:WFn:=⟨4,[.tmp 8,.tmp 9,.tmp 10,.tmp 11],zd (s (O 8 [d 4 (bx 0),d 6 (bx 2),E (.mv (.c (.ro 6 [] true))),i 0,i 0,i 0]) (s (O 21 [m 1,f 2 4,l 1 22,h 2 6,ca 319 [21,23,24],d 20 (m 25),ex 0 20,ex 1 20,d 12 (m 26),d 13 (m 27)]) (s (Q 29 [f 0 4,h 2 29,m 1,m 12,f 2 4,l 1 33,f 3 4,l 1 35,ca 133 [30,31,32,34,36],d 28 (m 37),ex 0 28,ex 1 28,d 14 (m 38),d 15 (m 39)] [14,12,4,3,1]) (s (O 40 [m 1,m 14,ca 137 [40,41],d 16 (m 42)]) (s (R 17 [E (.mv (.c (.ro 6 [] true)))] ⟨true,[17,16,12,4,3,1],[(17,6)]⟩) (s (s (O 18 [i 0]) (bk 0 w349_L1 ⟨true,[17,16,12,4,3],[]⟩)) w349_c1))))))⟩
@[simp] theorem w349_E0:ZL w349_L0 w349_B0 ⟨true,[19,17,16,12,4,3],[]⟩:=ck_lp rfl
noncomputable abbrev w349_K0 (C:WProg) (s:WSt):Option AV:=CK C 0 (pureFin [.tmp 8,.tmp 9,.tmp 10,.tmp 11]) [.sq w349_L0,.bk 2 ⟨true,[17,16,12],[]⟩,.sq w349_c0] w349_B0 s
@[simp] theorem w349_E1:ZL w349_L1 w349_B1 ⟨true,[18,17,16,12,4,3,1],[]⟩:=ck_lp rfl
noncomputable abbrev w349_K1 (C:WProg) (s:WSt):Option AV:=CK C 0 (pureFin [.tmp 8,.tmp 9,.tmp 10,.tmp 11]) [.sq w349_L1,.bk 0 ⟨true,[17,16,12,4,3],[]⟩,.sq w349_c1] w349_B1 s
def w135:WFn:=⟨5,[.tmp 10,.tmp 11],zd (s (R 10 [d 5 (bx 0),d 6 (bx 1),E (.mv (.c (.ro 1 [] true))),i 0] ⟨true,[6,5,4,3,2],[(5,65536),(6,65536)]⟩) (s (O 15 [h 2 5,h 1 6,m 2,m 3,m 4,ca 2004 [15,16,17,18,19],d 14 (m 20),ex 0 14,ex 1 14,d 12 (m 21),d 13 (m 22)]) (s (s (O 23 [m 13,nei 23 0]) (c 24 (r (O 10 [d 25 (m 13),E (.mv (.c (.ro 1 [] true))),m 25])))) (r (O 26 [m 12,E (.mkfn 276 [T 6]),ca 2006 [26,27],ca 274 [28],d 10 (m 29),d 11 (i 0)])))))⟩
def w4001:WFn:=⟨5,[.tmp 10,.tmp 11],zd (s (R 10 [d 5 (bx 0),d 6 (bx 1),E (.mv (.c (.ro 1 [] true))),i 0] ⟨true,[6,5,4,3,2],[(5,65536),(6,65536)]⟩) (s (O 15 [h 2 5,h 1 6,m 2,m 3,m 4,ca 2004 [15,16,17,18,19],d 14 (m 20),ex 0 14,ex 1 14,d 12 (m 21),d 13 (m 22)]) (s (s (O 23 [m 13,nei 23 0]) (c 24 (r (O 10 [d 25 (m 13),E (.mv (.c (.ro 1 [] true))),m 25])))) (r (O 26 [m 12,E (.mkfn 276 [T 6]),ca 2006 [26,27],ca 4002 [28],d 10 (m 29),d 11 (i 0)])))))⟩
def w321:WFn:=⟨3,[.tmp 6],zd (s (O 5 [d 3 (bx 0),bx 2,ff]) (s (s (O 9 [h 1 3,ca 122 [9],nei 10 0]) (c 11 (r (O 6 [ff])))) (s (s (O 12 [f 0 5,l 1 12,E (.bin .eql (T 13) (.c (.int .u64 0)))]) (c 14 (r (O 6 [tt])))) (s (Q 16 [h 1 3,f 0 5,l 1 17,ca 323 [16,18],d 15 (m 19),ex 0 15,ex 1 15,d 7 (m 20),d 8 (m 21)] [8,7,5,1]) (r (O 22 [m 8,m 22,y 23 (m 1),y 23 (m 7),y 23 (ge 24 25),pa 23 26,m 27,y 28 (m 1),y 28 (m 7),y 28 (sb 29 30),y 28 (f 1 5),y 28 (l 1 32),y 28 (eq 31 33),pa 28 34,d 6 (m 35)]))))))⟩
def w327:WFn:=⟨2,[.tmp 4],zd (s (O 4 [i 0]) (s (s (O 5 [m 0,m 0,ln 1 6,ca 253 [5,7],m 1,lt 8 9]) (c 10 (r (O 4 [i 0])))) (r (O 11 [m 0,m 0,ln 1 12,ca 253 [11,13],m 1,sb 14 15,d 4 (m 16)]))))⟩
def w173_c0:WCode:=zd (r (V 27 [h 5 4,h 1 5,n (st 5 2 27),n (st 1 3 28)] [(1,2)] ⟨false,[],[]⟩))
def w173_B0:WCode:=zd (s (s (O 13 [m 6,lti 13 4]) (cc 14 (w .skip) (ee 0))) (s (B 1 (O 17 [f 0 5,l 1 17,m 6,adi 19 1,E (.cvt .u64 (T 20)),E (.build [.int .u64 0,.int .u8 0,.str [],.ro 1 [] true] [(0,1,T 21)]),E (.build [.int .u64 0,.int .u8 0,.str [],.ro 1 [] true,.int .i64 0,.bool false] [(0,4,T 22),(4,1,N 10)]),E (.buildS [.int .u64 0,.int .u8 0,.str [],.ro 1 [] true,.int .i64 0,.bool false] 1 [(0,T 23)]),E (.app [.int .u64 0,.int .u8 0,.str [],.ro 1 [] true,.int .i64 0,.bool false] 72 false (T 18) (T 24)),f 0 5,n (st 1 26 25)])) (O 15 [m 6,adi 15 1,d 6 (m 16)])))
def w173_L0:WCode:=.loop ⟨true,[6,5,4,3,2],[]⟩ w173_B0
def w173:WFn:=⟨1,[.cell 2 5 true,.cell 3 1 true],zd (s (O 2 [E (.alloc [.ro 9 [] true,.int .i64 0,.int .i64 0,.int .i64 0,.int .i64 0]),E (.alloc [.ro 6 [] true])]) (s (Q 7 [E (.build [.int .u8 0,.str [],.str [],.ro 3 [] true,.str [],.ro 6 [] true] [(0,1,.c (.int .u8 1)),(1,1,.c (.str [114,111,119]))]),E (.build [.int .u8 0,.str [],.str [],.ro 3 [] true,.str [],.ro 6 [] true,.int .i64 0,.bool false,.int .i64 0] [(0,6,T 7),(6,1,N 10)]),E (.buildS [.int .u8 0,.str [],.str [],.ro 3 [] true,.str [],.ro 6 [] true,.int .i64 0,.bool false,.int .i64 0] 1 [(0,T 8)]),E (.build [.ro 9 [] true,.int .i64 0] [(0,1,T 9),(1,1,N 1)]),m 0,E (.build [.ro 9 [] true,.int .i64 0,.int .i64 0,.int .i64 0,.int .i64 0] [(0,2,T 10),(2,1,T 11),(4,1,N 1)]),d 4 (E (.alloc [.ro 9 [] true,.int .i64 0,.int .i64 0,.int .i64 0,.int .i64 0])),n (st 5 4 12)] [4,3,2]) (s (O 5 [E (.alloc [.ro 6 [] true])]) (s (s (O 6 [i 0]) (bk 0 w173_L0 ⟨true,[5,4,3,2],[]⟩)) w173_c0))))⟩
@[simp] theorem w173_E0:ZL w173_L0 w173_B0 ⟨true,[6,5,4,3,2],[]⟩:=ck_lp rfl
def w111_c0:WCode:=zd (r (O 25 [m 3,d 2 (m 25)]))
def w111_B0:WCode:=zd (s (O 11 [lt 10 9]) (s (cc 11 (w .skip) (ee 0)) (s (B 1 (s (O 12 [ix 6 8 10,h 6 12,d 5 (E (.alloc [.int .u64 0,.int .u8 0,.str [],.ro 1 [] true,.int .i64 0,.bool false])),n (st 6 5 13)]) (s (O 14 [f 4 5,l 1 14,E (.mx (T 15) (N 0)),d 6 (m 16)]) (s (s (O 17 [m 6,m 3,E (.bin .sub (N 4611686018427387904) (T 18)),gt 17 19]) (c 20 (r (O 2 [i 4611686018427387905])))) (O 21 [m 3,m 6,ad 21 22,d 3 (m 23)]))))) (O 24 [adi 10 1,d 10 (m 24)]))))
def w111_L0:WCode:=.loop ⟨true,[10,9,8,3],[]⟩ w111_B0
def w111:WFn:=⟨1,[.tmp 2],zd (s (O 1 [bx 0,i 0]) (s (O 3 [i 0]) (s (s (Q 7 [f 0 1,l 1 7,ln 1 8,i 0] [10,9,8,3]) (bk 0 w111_L0 ⟨true,[3],[]⟩)) w111_c0)))⟩
@[simp] theorem w111_E0:ZL w111_L0 w111_B0 ⟨true,[10,9,8,3],[]⟩:=ck_lp rfl
noncomputable abbrev w111_K0 (C:WProg) (s:WSt):Option AV:=CK C 0 (pureFin [.tmp 2]) [.sq w111_L0,.bk 0 ⟨true,[3],[]⟩,.sq w111_c0] w111_B0 s
def w176:WFn:=⟨1,[.tmp 2],zd (s (O 1 [bx 0,i 0]) (s (s (Q 3 [f 0 1,l 1 3,E (.bin .eql (T 4) (.c (.int .u64 0))),m 5,y 6 (f 1 1),y 6 (l 1 7),y 6 (eqi 8 0),pa 6 9,m 10,z 11 (f 0 1),z 11 (l 1 12),z 11 (E (.bin .gtr (T 13) (.c (.int .u64 0)))),z 11 (m 14),y 15 (f 1 1),y 15 (l 1 16),y 15 (gei 17 0),z 11 (pa 15 18),z 11 (m 19),y 20 (f 1 1),y 20 (l 1 21),y 20 (lei 22 2305843009213693952),z 11 (pa 20 23),po 11 24] [25]) (c 25 (r (O 2 [i 0])))) (r (O 2 [i 1]))))⟩
def w352_c0:WCode:=zd (r (O 12 [i 1]))
def w352_B0:WCode:=zd (s (s (O 51 [m 17,lti 51 4]) (cc 52 (w .skip) (ee 0))) (s (B 1 (s (U 55 [f 0 15,f 0 55,l 1 56,m 17,ix 6 57 58,f 4 59,l 1 60,m 17,E (.idxa 4 1 (T 8) (T 62)),l 1 63,ne 61 64,m 65,z 66 (f 0 15),z 66 (f 0 67),z 66 (l 1 68),z 66 (m 17),z 66 (ix 6 69 70),z 66 (f 5 71),z 66 (l 1 72),z 66 (m 17),z 66 (E (.idxa 4 1 (T 9) (T 74))),z 66 (l 1 75),z 66 (eqi 76 1),z 66 (E (.eqv 5 [] true (T 73) (T 77))),po 66 78] [] [79,17,15,9,8]) (c 79 (r (O 12 [i 0]))))) (O 53 [m 17,adi 53 1,d 17 (m 54)])))
def w352_L0:WCode:=.loop ⟨true,[17,15,9,8],[]⟩ w352_B0
def w352:WFn:=⟨6,[.tmp 12],zd (s (O 8 [d 6 (bx 0),bx 2,bx 3,d 12 (i 0)]) (s (O 19 [E (.call 173 [N 20]),d 18 (m 19),ex 0 18,ex 1 18,d 13 (E (.alloc [.ro 9 [] true,.int .i64 0,.int .i64 0,.int .i64 0,.int .i64 0])),d 14 (E (.alloc [.ro 6 [] true])),n (st 5 13 20),n (st 1 14 21)]) (s (O 23 [h 5 13,h 1 14,h 2 6,m 1,ca 174 [23,24,25,26],d 22 (m 27),ex 0 22,ex 1 22,d 15 (E (.alloc [.ro 6 [] true,.int .i64 0,.int .i64 0])),n (st 3 15 28),d 16 (m 29)]) (s (s (Q 30 [m 16,nei 30 0,m 31,z 32 (f 0 15),z 32 (f 0 33),z 32 (l 1 34),z 32 (ln 1 35),z 32 (nei 36 4),po 32 37,m 38,z 39 (f 1 15),z 39 (l 1 40),z 39 (m 4),z 39 (ne 41 42),po 39 43,m 44,z 45 (f 2 15),z 45 (l 1 46),z 45 (m 5),z 45 (ne 47 48),po 45 49] [50,15,9,8]) (c 50 (r (O 12 [i 0])))) (s (s (O 17 [i 0]) (bk 0 w352_L0 ⟨true,[],[]⟩)) w352_c0)))))⟩
@[simp] theorem w352_E0:ZL w352_L0 w352_B0 ⟨true,[17,15,9,8],[]⟩:=ck_lp rfl
def w126:WFn:=⟨1,[.tmp 2],zd (s (O 2 [E (.mv (.c (.ro 9 [] true)))]) (s (Q 6 [E (.build [.str [],.int .u8 0,.str []] [(0,1,.c (.str [110])),(1,1,.c (.int .u8 3))]),E (.build [.str [],.int .u8 0,.str []] [(0,1,.c (.str [116,101,120,116])),(1,1,.c (.int .u8 1))]),E (.buildS [.str [],.int .u8 0,.str []] 2 [(0,T 6),(1,T 7)]),E (.build [.int .u8 0,.str [],.str [],.ro 3 [] true,.str [],.ro 6 [] true] [(0,1,.c (.int .u8 3))]),E (.buildS [.int .u8 0,.str [],.str [],.ro 3 [] true,.str [],.ro 6 [] true] 1 [(0,T 9)]),E (.build [.int .u8 0,.str [],.str [],.ro 3 [] true,.str [],.ro 6 [] true] [(0,1,.c (.int .u8 1)),(1,1,.c (.str [114,111,119])),(3,1,T 8),(5,1,T 10)]),d 3 (E (.alloc [.int .u8 0,.str [],.str [],.ro 3 [] true,.str [],.ro 6 [] true])),n (st 6 3 11)] [3,0]) (s (O 12 [E (.build [.str [],.int .u8 0,.str []] [(0,1,.c (.str [105,100])),(1,1,.c (.int .u8 2))]),E (.buildS [.str [],.int .u8 0,.str []] 1 [(0,T 12)]),E (.build [.int .u8 0,.str [],.str [],.ro 3 [] true,.str [],.ro 6 [] true] [(0,1,.c (.int .u8 2)),(4,1,.c (.str [35]))]),E (.build [.int .u8 0,.str [],.str [],.ro 3 [] true,.str [],.ro 6 [] true] [(0,1,.c (.int .u8 4))]),E (.buildS [.int .u8 0,.str [],.str [],.ro 3 [] true,.str [],.ro 6 [] true] 2 [(0,T 14),(1,T 15)]),E (.build [.int .u8 0,.str [],.str [],.ro 3 [] true,.str [],.ro 6 [] true] [(0,1,.c (.int .u8 1)),(1,1,.c (.str [104,101,97,100])),(2,1,.c (.str [104])),(3,1,T 13),(5,1,T 16)]),d 4 (E (.alloc [.int .u8 0,.str [],.str [],.ro 3 [] true,.str [],.ro 6 [] true])),n (st 6 4 17)]) (s (O 18 [E (.build [.int .u8 0,.str [],.str [],.ro 3 [] true,.str [],.ro 6 [] true] [(0,1,.c (.int .u8 3))]),E (.buildS [.int .u8 0,.str [],.str [],.ro 3 [] true,.str [],.ro 6 [] true] 1 [(0,T 18)]),E (.build [.int .u8 0,.str [],.str [],.ro 3 [] true,.str [],.ro 6 [] true] [(0,1,.c (.int .u8 1)),(1,1,.c (.str [98])),(2,1,.c (.str [98,50])),(5,1,T 19)]),E (.build [.str [],.int .u8 0,.str []] [(0,1,.c (.str [111,102])),(1,1,.c (.int .u8 2))]),E (.buildS [.str [],.int .u8 0,.str []] 1 [(0,T 21)]),E (.build [.int .u8 0,.str [],.str [],.ro 3 [] true,.str [],.ro 6 [] true] [(0,1,.c (.int .u8 5)),(1,1,.c (.str [116,97,103])),(3,1,T 22)]),E (.buildS [.int .u8 0,.str [],.str [],.ro 3 [] true,.str [],.ro 6 [] true] 2 [(0,T 20),(1,T 23)]),E (.build [.int .u8 0,.str [],.str [],.ro 3 [] true,.str [],.ro 6 [] true] [(0,1,.c (.int .u8 1)),(1,1,.c (.str [114,111,119])),(5,1,T 24)]),d 5 (E (.alloc [.int .u8 0,.str [],.str [],.ro 3 [] true,.str [],.ro 6 [] true])),n (st 6 5 25)]) (r (Q 26 [h 6 3,m 0,E (.bin .rem (T 27) (.c (.int .u8 7))),E (.cvt .i64 (T 28)),E (.bin .add (N 10) (T 29)),m 0,E (.bin .rem (T 31) (.c (.int .u8 4))),E (.cvt .i64 (T 32)),E (.build [.int .u8 0,.str [],.str [],.ro 3 [] true,.str [],.ro 6 [] true,.int .i64 0,.bool false,.int .i64 0] [(0,6,T 26),(6,1,T 30),(8,1,T 33)]),h 6 4,m 0,E (.bin .rem (T 36) (.c (.int .u8 3))),E (.cvt .i64 (T 37)),E (.bin .add (N 6) (T 38)),m 0,E (.bin .quo (T 40) (.c (.int .u8 4))),E (.bin .rem (T 41) (.c (.int .u8 3))),E (.cvt .i64 (T 42)),E (.build [.int .u8 0,.str [],.str [],.ro 3 [] true,.str [],.ro 6 [] true,.int .i64 0,.bool false,.int .i64 0] [(0,6,T 35),(6,1,T 39),(7,1,.c (.bool true)),(8,1,T 43)]),h 6 5,m 0,E (.bin .rem (T 46) (.c (.int .u8 16))),E (.bin .eql (T 47) (.c (.int .u8 15))),m 0,E (.bin .quo (T 49) (.c (.int .u8 8))),E (.bin .rem (T 50) (.c (.int .u8 3))),E (.cvt .i64 (T 51)),E (.build [.int .u8 0,.str [],.str [],.ro 3 [] true,.str [],.ro 6 [] true,.int .i64 0,.bool false,.int .i64 0] [(0,6,T 45),(6,1,N 20),(7,1,T 48),(8,1,T 52)]),E (.buildS [.int .u8 0,.str [],.str [],.ro 3 [] true,.str [],.ro 6 [] true,.int .i64 0,.bool false,.int .i64 0] 3 [(0,T 34),(1,T 44),(2,T 53)]),d 2 (m 54)] [2]))))))⟩
def w270_c0:WCode:=zd (r (O 32 [m 3,d 2 (m 32)]))
def w270_B0:WCode:=zd (s (s (Q 6 [m 4,f 0 1,l 1 7,ln 1 8,lt 6 9,m 10,y 11 (m 4),y 11 (lti 12 12),pa 11 13] [14,4,3,1]) (cc 14 (w .skip) (ee 0))) (s (B 1 (s (O 17 [f 0 1,l 1 17,m 4,ix 4 18 19,h 4 20,ca 422 [21],d 5 (E (.alloc [.int .u64 0,.int .u8 0,.str [],.ro 1 [] true])),n (st 4 5 22)]) (s (O 23 [m 3,f 0 5,l 1 24,ca 423 [23,25],lti 26 0]) (c 27 (O 28 [m 3,h 4 5,E (.buildS [.int .u64 0,.int .u8 0,.str [],.ro 1 [] true] 1 [(0,T 29)]),E (.app [.int .u64 0,.int .u8 0,.str [],.ro 1 [] true] 56 false (T 28) (T 30)),d 3 (m 31)]))))) (O 15 [m 4,adi 15 1,d 4 (m 16)])))
def w270_L0:WCode:=.loop ⟨true,[4,3,1],[]⟩ w270_B0
def w270:WFn:=⟨1,[.tmp 2],zd (s (O 1 [bx 0,E (.mv (.c (.ro 4 [] true)))]) (s (R 3 [E (.mv (.c (.ro 4 [] true)))] ⟨true,[3,1],[(3,4)]⟩) (s (s (O 4 [i 0]) (bk 0 w270_L0 ⟨true,[3],[]⟩)) w270_c0)))⟩
@[simp] theorem w270_E0:ZL w270_L0 w270_B0 ⟨true,[4,3,1],[]⟩:=ck_lp rfl
noncomputable abbrev w270_K0 (C:WProg) (s:WSt):Option AV:=CK C 0 (pureFin [.tmp 2]) [.sq w270_L0,.bk 0 ⟨true,[3],[]⟩,.sq w270_c0] w270_B0 s
def w271:WFn:=⟨3,[.tmp 6],zd (s (O 3 [bx 0,bx 1,d 6 (i 0)]) (s (s (O 9 [h 4 4,f 0 3,l 1 10,ln 1 11,ca 424 [9,12],gti 13 0]) (c 14 (r (O 6 [i 6])))) (s (s (Q 15 [m 2,eqi 15 1] [16,4,3]) (c 16 (r (O 6 [i 8])))) (s (V 18 [f 0 3,l 1 18,f 1 4,l 1 20,ix 9 19 21,f 0 22,h 6 23,h 4 4,f 1 3,l 1 26,ca 425 [24,25,27],d 17 (m 28),ex 0 17,ex 1 17,d 7 (E (.alloc [.int .u8 0,.str [],.str [],.ro 2 [] true,.str [],.ro 6 [] true])),n (st 6 7 29),d 8 (m 30)] [(1,14),(3,14),(6,14),(7,14),(9,14),(10,14)] ⟨false,[],[]⟩) (s (s (O 31 [m 8,gti 31 0]) (c 32 (r (O 6 [i 14])))) (r (O 6 [i 0])))))))⟩
def w240:WFn:=⟨2,[.cell 4 6 true],zd (s (O 2 [bx 0,bx 1,E (.alloc [.int .u64 0,.int .u8 0,.str [],.ro 1 [] true,.int .i64 0,.bool false])]) (r (V 5 [h 4 3,f 0 2,l 1 6,f 1 3,l 1 8,ix 9 7 9,f 6 10,l 1 11,E (.build [.int .u64 0,.int .u8 0,.str [],.ro 1 [] true,.int .i64 0,.bool false] [(0,4,T 5),(4,1,T 12)]),n (st 6 4 13)] [] ⟨false,[],[]⟩)))⟩
def w235_c0:WCode:=zd (r (O 82 [m 1,ca 407 [82],d 4 (m 83)]))
def w235_B0:WCode:=zd (s (s (O 13 [m 5,m 1,ln 1 14,lt 13 15]) (cc 16 (w .skip) (ee 0))) (s (B 1 (s (U 19 [h 2 2,m 1,m 5,ix 6 20 21,f 0 22,h 4 23,m 1,m 5,E (.slice 6 (T 25) none (some (T 26)) none),m 1,m 5,ix 6 28 29,f 0 30,f 0 31,l 1 32,ca 239 [27,33],gei 34 0,ca 406 [35],ca 271 [19,24,36],d 6 (m 37)] [(0,15),(5,15),(0,17),(5,17)] [6,5,2,1]) (s (s (O 38 [m 6,gti 38 0]) (c 39 (r (O 40 [m 6,d 4 (m 40)])))) (s (U 41 [m 1,m 5,ix 6 41 42,f 4 43,l 1 44,lti 45 1,m 46,z 47 (m 1),z 47 (m 5),z 47 (ix 6 48 49),z 47 (f 4 50),z 47 (l 1 51),z 47 (gti 52 2305843009213693952),po 47 53,m 54,z 55 (m 1),z 55 (m 5),z 55 (ix 6 56 57),z 55 (f 5 58),z 55 (l 1 59),z 55 (nt 60),z 55 (m 61),y 62 (m 1),y 62 (m 5),y 62 (ix 6 63 64),y 62 (f 4 65),y 62 (l 1 66),y 62 (f 0 2),y 62 (l 1 68),y 62 (m 1),y 62 (m 5),y 62 (ix 6 70 71),y 62 (f 0 72),y 62 (f 1 73),y 62 (l 1 74),y 62 (ix 9 69 75),y 62 (f 6 76),y 62 (l 1 77),y 62 (ne 67 78),z 55 (pa 62 79),po 55 80] [] [81,5,2,1]) (c 81 (r (O 4 [i 12]))))))) (O 17 [m 5,adi 17 1,d 5 (m 18)])))
def w235_L0:WCode:=.loop ⟨true,[5,2,1],[]⟩ w235_B0
def w235:WFn:=⟨2,[.tmp 4],zd (s (O 4 [d 2 (bx 0),i 0]) (s (s (O 7 [h 2 2,ca 236 [7],gti 8 0]) (c 9 (r (O 4 [i 7])))) (s (s (O 10 [m 1,ln 1 10,gti 11 1024]) (c 12 (r (O 4 [i 3])))) (s (s (O 5 [i 0]) (bk 0 w235_L0 ⟨true,[1],[]⟩)) w235_c0))))⟩
@[simp] theorem w235_E0:ZL w235_L0 w235_B0 ⟨true,[5,2,1],[]⟩:=ck_lp rfl
noncomputable abbrev w235_K0 (C:WProg) (s:WSt):Option AV:=CK C 0 (pureFin [.tmp 4]) [.sq w235_L0,.bk 0 ⟨true,[1],[]⟩,.sq w235_c0] w235_B0 s
def w239_c0:WCode:=zd (r (O 4 [i (-1)]))
def w239_B0:WCode:=zd (s (s (O 6 [m 5,m 0,ln 1 7,lt 6 8]) (cc 9 (w .skip) (ee 0))) (s (B 1 (s (O 12 [m 0,m 5,ix 6 12 13,f 0 14,f 0 15,l 1 16,m 1,eq 17 18]) (c 19 (r (O 20 [m 5,d 4 (m 20)]))))) (O 10 [m 5,adi 10 1,d 5 (m 11)])))
def w239_L0:WCode:=.loop ⟨true,[5,1,0],[]⟩ w239_B0
def w239:WFn:=⟨2,[.tmp 4],zd (s (O 4 [i 0]) (s (s (O 5 [i 0]) (bk 0 w239_L0 ⟨true,[],[]⟩)) w239_c0))⟩
@[simp] theorem w239_E0:ZL w239_L0 w239_B0 ⟨true,[5,1,0],[]⟩:=ck_lp rfl
noncomputable abbrev w239_K0 (C:WProg) (s:WSt):Option AV:=CK C 0 (pureFin [.tmp 4]) [.sq w239_L0,.bk 0 ⟨true,[],[]⟩,.sq w239_c0] w239_B0 s
def w115:WFn:=⟨1,[.tmp 2],zd (s (O 1 [bx 0,i 0]) (s (O 3 [E (.mv (.c (.fn 230 [])))]) (s (s (Q 4 [f 0 1,l 1 4,ln 1 5,lti 6 1,m 7,z 8 (f 0 1),z 8 (l 1 9),z 8 (ln 1 10),z 8 (gti 11 8),po 8 12,m 13,z 14 (f 1 1),z 14 (l 1 15),z 14 (lti 16 1),po 14 17,m 18,z 19 (f 1 1),z 19 (l 1 20),z 19 (gti 21 64),po 19 22,m 23,z 24 (f 0 1),z 24 (l 1 25),z 24 (m 3),z 24 (ca 232 [26,27]),po 24 28] [29]) (c 29 (r (O 2 [i 7])))) (r (O 2 [i 0])))))⟩
def w236_c0:WCode:=zd (r (O 2 [i 0]))
def w236_B0:WCode:=zd (s (s (O 24 [m 3,f 0 1,l 1 25,ln 1 26,lt 24 27]) (cc 28 (w .skip) (ee 0))) (s (B 1 (s (Q 31 [f 0 1,l 1 31,m 3,ix 9 32 33,f 6 34,l 1 35,lti 36 1,m 37,z 38 (f 0 1),z 38 (l 1 39),z 38 (m 3),z 38 (ix 9 40 41),z 38 (f 6 42),z 38 (l 1 43),z 38 (gti 44 2305843009213693952),po 38 45,m 46,z 47 (f 0 1),z 47 (l 1 48),z 47 (m 3),z 47 (ix 9 49 50),z 47 (f 0 51),z 47 (h 6 52),z 47 (ca 408 [53]),z 47 (gti 54 0),po 47 55] [56,3,1]) (c 56 (r (O 2 [i 7]))))) (O 29 [m 3,adi 29 1,d 3 (m 30)])))
def w236_L0:WCode:=.loop ⟨true,[3,1],[]⟩ w236_B0
def w236:WFn:=⟨1,[.tmp 2],zd (s (O 1 [bx 0,i 0]) (s (s (Q 4 [f 0 1,l 1 4,ln 1 5,eqi 6 0,m 7,z 8 (f 0 1),z 8 (l 1 9),z 8 (ln 1 10),z 8 (gti 11 8),po 8 12,m 13,z 14 (f 1 1),z 14 (l 1 15),z 14 (lti 16 1),po 14 17,m 18,z 19 (f 1 1),z 19 (l 1 20),z 19 (gti 21 64),po 19 22] [23,1]) (c 23 (r (O 2 [i 7])))) (s (s (O 3 [i 0]) (bk 0 w236_L0 ⟨true,[],[]⟩)) w236_c0)))⟩
@[simp] theorem w236_E0:ZL w236_L0 w236_B0 ⟨true,[3,1],[]⟩:=ck_lp rfl
noncomputable abbrev w236_K0 (C:WProg) (s:WSt):Option AV:=CK C 0 (pureFin [.tmp 2]) [.sq w236_L0,.bk 0 ⟨true,[],[]⟩,.sq w236_c0] w236_B0 s
def w223_c0:WCode:=zd (r (O 79 [h 1 3,ca 227 [79],d 4 (m 80)]))
def w223_B0:WCode:=zd (s (O 26 [lt 25 24]) (s (cc 26 (w .skip) (ee 0)) (s (B 1 (s (O 27 [ix 6 23 25,h 6 27,d 8 (E (.alloc [.int .u64 0,.int .u8 0,.str [],.ro 1 [] true,.int .i64 0,.bool false])),n (st 6 8 28)]) (s (s (O 29 [f 0 8,h 4 29,f 0 2,l 1 31,ln 1 32,ca 398 [30,33],d 9 (m 34)]) (s (O 35 [m 9,nei 35 0]) (c 36 (r (O 37 [m 9,d 4 (m 37)]))))) (s (s (Q 38 [m 6,f 0 8,f 0 39,l 1 40,E (.look 0 (.bool false) false (T 38) (T 41))] [42,25,24,23,8,6,3,2]) (c 42 (r (O 4 [i 8])))) (s (O 43 [m 6,f 0 8,f 0 44,l 1 45,n (E (.upd 0 (T 43) (T 46) (.c (.bool true))))]) (s (s (O 48 [h 2 2,f 0 8,h 4 49,ca 399 [48,50],d 47 (m 51),ex 0 47,ex 1 47,d 10 (E (.alloc [.int .u8 0,.str [],.str [],.ro 2 [] true,.str [],.ro 6 [] true])),n (st 6 10 52),d 11 (m 53)]) (s (O 54 [m 11,nei 54 0]) (c 55 (r (O 4 [i 14]))))) (s (U 56 [f 4 8,l 1 56,ca 225 [57],nt 58,m 59,z 60 (f 5 8),z 60 (l 1 61),z 60 (nt 62),z 60 (m 63),y 64 (f 4 8),y 64 (l 1 65),y 64 (f 0 2),y 64 (l 1 67),y 64 (f 0 8),y 64 (f 1 69),y 64 (l 1 70),y 64 (ix 9 68 71),y 64 (f 6 72),y 64 (l 1 73),y 64 (ne 66 74),z 60 (pa 64 75),po 60 76] [] [77,25,24,23,6,3,2]) (c 77 (r (O 4 [i 12])))))))))) (O 78 [adi 25 1,d 25 (m 78)]))))
def w223_L0:WCode:=.loop ⟨true,[25,24,23,6,3,2],[]⟩ w223_B0
def w223:WFn:=⟨2,[.tmp 4],zd (s (O 2 [bx 0,bx 1,i 0]) (s (s (O 12 [h 2 2,ca 115 [12],d 5 (m 13)]) (s (O 14 [m 5,nei 14 0]) (c 15 (r (O 16 [m 5,d 4 (m 16)]))))) (s (s (Q 17 [f 0 3,l 1 17,ln 1 18,gti 19 1024] [20,3,2]) (c 20 (r (O 4 [i 3])))) (s (O 21 [E .mkmap,d 6 (m 21)]) (s (s (O 22 [f 0 3,l 1 22,ln 1 23,i 0]) (bk 0 w223_L0 ⟨true,[3],[]⟩)) w223_c0)))))⟩
@[simp] theorem w223_E0:ZL w223_L0 w223_B0 ⟨true,[25,24,23,6,3,2],[]⟩:=ck_lp rfl
noncomputable abbrev w223_K0 (C:WProg) (s:WSt):Option AV:=CK C 0 (pureFin [.tmp 4]) [.sq w223_L0,.bk 0 ⟨true,[3],[]⟩,.sq w223_c0] w223_B0 s
def w201_c0:WCode:=zd (r (O 4 [i 0,i 0]))
def w201_B0:WCode:=zd (s (O 25 [lt 24 23]) (s (cc 25 (w .skip) (ee 1)) (s (B 2 (s (O 26 [m 24,ix 2 22 24,h 2 27,d 8 (E (.alloc [.int .u64 0,.int .i64 0])),d 7 (m 26),n (st 2 8 28)]) (s (O 29 [h 2 8,m 1,m 6,ca 379 [29,30,31],d 9 (m 32)]) (s (O 33 [m 9,nei 33 0]) (c 34 (r (O 35 [m 7,m 9,d 4 (m 35),d 5 (m 36)]))))))) (O 37 [adi 24 1,d 24 (m 37)]))))
def w201_L0:WCode:=.loop ⟨true,[24,23,22,6,1],[]⟩ w201_B0
def w201:WFn:=⟨2,[.tmp 4,.tmp 5],zd (s (O 4 [i 0,i 0]) (s (B 0 (s (O 11 [m 1,lti 11 1,m 12,z 13 (m 1),z 13 (gti 14 2305843009213693952),po 13 15,d 10 (m 16)]) (cc 10 (r (O 4 [i 0,i 1])) (s (O 18 [m 0,ln 1 18,gti 19 256,d 17 (m 20)]) (c 17 (r (O 4 [i 0,i 3]))))))) (s (O 21 [ca 2016 [],d 6 (m 21)]) (s (s (Q 22 [m 0,ln 1 22,i 0] [24,23,22,6,1]) (bk 1 w201_L0 ⟨true,[],[]⟩)) w201_c0))))⟩
@[simp] theorem w201_E0:ZL w201_L0 w201_B0 ⟨true,[24,23,22,6,1],[]⟩:=ck_lp rfl
noncomputable abbrev w201_K0 (C:WProg) (s:WSt):Option AV:=CK C 0 (pureFin [.tmp 4,.tmp 5]) [.sq w201_L0,.bk 1 ⟨true,[],[]⟩,.sq w201_c0] w201_B0 s
def w318:WFn:=⟨1,[.tmp 2],zd (s (O 1 [bx 0,i 0]) (s (s (O 3 [f 1 1,l 1 3,lti 4 0,m 5,z 6 (f 1 1),z 6 (l 1 7),z 6 (gti 8 2305843009213693952),po 6 9,m 10,z 11 (f 0 1),z 11 (l 1 12),z 11 (E (.bin .eql (T 13) (.c (.int .u64 0)))),z 11 (m 14),y 15 (f 1 1),y 15 (l 1 16),y 15 (gti 17 0),z 11 (pa 15 18),po 11 19]) (c 20 (r (O 2 [i 1])))) (r (O 2 [i 0]))))⟩
def w224:WFn:=⟨2,[.tmp 4,.tmp 5],zd (s (O 2 [bx 0,bx 1,i 0,ff]) (s (O 6 [f 0 2,l 1 6,E (.mkfn 403 [T 3]),ca 402 [7,8],d 4 (m 9)]) (r (O 10 [m 4,E (.mx (T 10) (N 0)),m 4,gei 12 0,d 4 (m 11),d 5 (m 13)]))))⟩
def w466_c0:WCode:=zd (r (O 4 [i (-1)]))
def w466_B0:WCode:=zd (s (O 9 [lt 8 7]) (s (cc 9 (w .skip) (ee 0)) (s (B 1 (s (O 10 [m 8,d 5 (m 10)]) (s (O 11 [m 1,m 0,m 5,ix 2 12 13,h 2 14,E (.callv (T 11) [T 15])]) (c 16 (r (O 17 [m 5,d 4 (m 17)])))))) (O 18 [adi 8 1,d 8 (m 18)]))))
def w466_L0:WCode:=.loop ⟨true,[8,7,1,0],[]⟩ w466_B0
def w466:WFn:=⟨2,[.tmp 4],zd (s (O 4 [i 0]) (s (s (O 6 [m 0,ln 1 6,i 0]) (bk 0 w466_L0 ⟨true,[],[]⟩)) w466_c0))⟩
@[simp] theorem w466_E0:ZL w466_L0 w466_B0 ⟨true,[8,7,1,0],[]⟩:=ck_lp rfl
noncomputable abbrev w466_K0 (C:WProg) (s:WSt):Option AV:=CK C 0 (pureFin [.tmp 4]) [.sq w466_L0,.bk 0 ⟨true,[],[]⟩,.sq w466_c0] w466_B0 s
def w467:WFn:=⟨2,[.tmp 3],zd (s (O 2 [bx 0,ff]) (r (O 4 [f 0 2,l 1 4,f 0 1,l 1 6,eq 5 7,d 3 (m 8)])))⟩
def w3001:WFn:=⟨2,[.cell 4 1 true],zd (s (O 2 [bx 0,bx 1,E (.alloc [.ro 6 [] true])]) (s (O 8 [f 0 2,h 2 8,h 1 3,E (.call 3002 [T 9,T 10,N 0,N 0]),d 7 (m 11),ex 0 7,ex 1 7,d 5 (E (.alloc [.ro 6 [] true])),n (st 1 5 12),d 6 (m 13)]) (r (O 14 [h 1 5,n (st 1 4 14)]))))⟩
def w2019_c0:WCode:=zd (r (O 68 [m 8,m 11,ln 1 69,d 8 (m 68),d 9 (m 70),d 10 (i 0)]))
def w2019_B0:WCode:=zd (s (O 44 [lt 43 42]) (s (cc 44 (w .skip) (ee 0)) (s (B 1 (s (O 45 [ix 1 41 43,l 1 45,d 13 (m 46)]) (s (O 47 [f 0 5,l 1 47,m 13,ix 6 48 49,d 14 (m 50)]) (s (U 51 [m 14,m 14,h 5 4,m 14,nk 54,f 0 55,h 4 56,m 3,ca 351 [53,57,58],nk 51,f 4 60,n (st 1 61 59),nk 52,f 5 62,n (E (.store 1 (T 63) (.c (.bool true))))] [] [43,42,41,11,8,5,4,3]) (s (O 64 [h 1 5,ca 111 [64],gti 65 4611686018427387904]) (c 66 (r (O 8 [i 0,i 0,i 13])))))))) (O 67 [adi 43 1,d 43 (m 67)]))))
def w2019_L0:WCode:=.loop ⟨true,[43,42,41,11,8,5,4,3],[]⟩ w2019_B0
def w2019:WFn:=⟨4,[.tmp 8,.tmp 9,.tmp 10],zd (s (O 8 [d 4 (bx 0),d 5 (bx 1),d 6 (bx 2),i 0,i 0,i 0]) (s (O 16 [h 1 5,f 2 4,l 1 17,h 2 6,ca 161 [16,18,19],d 15 (m 20),ex 0 15,ex 1 15,d 8 (m 21),d 10 (m 22)]) (s (s (O 23 [m 10,nei 23 0]) (c 24 (r (O 8 [d 25 (m 10),i 0,i 0,m 25])))) (s (Q 27 [f 0 4,h 2 27,h 1 5,m 8,f 2 4,l 1 31,f 3 4,l 1 33,ca 4001 [28,29,30,32,34],d 26 (m 35),ex 0 26,ex 1 26,d 11 (m 36),d 10 (m 37)] [11,10,8,5,4,3]) (s (s (O 38 [m 10,nei 38 0]) (c 39 (r (O 8 [d 40 (m 10),i 0,i 0,m 40])))) (s (s (O 41 [m 11,ln 1 41,i 0]) (bk 0 w2019_L0 ⟨true,[11,8],[]⟩)) w2019_c0))))))⟩
@[simp] theorem w2019_E0:ZL w2019_L0 w2019_B0 ⟨true,[43,42,41,11,8,5,4,3],[]⟩:=ck_lp rfl
def w246_c0:WCode:=zd (r (O 2 [d 39 (m 5),m 39,i 0]))
def w246_B0:WCode:=zd (s (Q 21 [lt 20 19] [21,20,19,5,1]) (s (cc 21 (w .skip) (ee 0)) (s (B 1 (s (O 22 [m 20,d 6 (m 22)]) (V 23 [m 5,m 6,adi 24 1,m 5,m 6,ix 1 26 27,l 1 28,f 0 1,l 1 30,m 6,ix 6 31 32,f 4 33,l 1 34,ad 29 35,ix 1 23 25,n (st 1 37 36)] [] ⟨false,[],[]⟩))) (O 38 [adi 20 1,d 20 (m 38)]))))
def w246_L0:WCode:=.loop ⟨true,[20,19,5,1],[]⟩ w246_B0
def w246:WFn:=⟨1,[.tmp 2,.tmp 3],zd (s (O 1 [bx 0,E (.mv (.c (.ro 1 [] true))),i 0]) (s (s (O 7 [h 1 1,ca 122 [7],d 4 (m 8)]) (s (O 9 [m 4,nei 9 0]) (c 10 (r (O 2 [d 11 (m 4),E (.mv (.c (.ro 1 [] true))),m 11]))))) (s (O 12 [f 0 1,l 1 12,ln 1 13,adi 14 1,E (.mksl [.int .i64 0] 8 (T 15) (T 15)),d 5 (m 16)]) (s (s (O 17 [f 0 1,l 1 17,ln 1 18,i 0]) (bk 0 w246_L0 ⟨true,[5],[]⟩)) w246_c0))))⟩
@[simp] theorem w246_E0:ZL w246_L0 w246_B0 ⟨true,[20,19,5,1],[]⟩:=ck_lp rfl
noncomputable abbrev w246_K0 (C:WProg) (s:WSt):Option AV:=CK C 0 (pureFin [.tmp 2,.tmp 3]) [.sq w246_L0,.bk 0 ⟨true,[5],[]⟩,.sq w246_c0] w246_B0 s
def w120:WFn:=⟨2,[.tmp 4,.tmp 5],zd (s (O 4 [d 2 (bx 0),i 0,i 0]) (s (O 9 [h 1 2,ca 246 [9],d 8 (m 10),ex 0 8,ex 1 8,d 6 (m 11),d 7 (m 12)]) (s (s (Q 13 [m 7,nei 13 0] [14,7,6,1]) (c 14 (r (O 4 [d 15 (m 7),i 0,m 15])))) (s (s (O 16 [m 1,lti 16 0,m 17,z 18 (m 1),z 18 (m 6),z 18 (m 6),z 18 (ln 1 21),z 18 (sbi 22 1),z 18 (ix 1 20 23),z 18 (l 1 24),z 18 (ge 19 25),po 18 26]) (c 27 (r (O 4 [i 0,i 4])))) (r (O 28 [m 6,m 1,ca 247 [28,29],d 4 (m 30),d 5 (i 0)]))))))⟩
def w112_c0:WCode:=zd (r (O 4 [i 1]))
def w112_B0:WCode:=zd (s (s (O 34 [m 5,f 3 2,l 1 35,ln 1 36,lt 34 37]) (cc 38 (w .skip) (ee 0))) (s (B 1 (s (V 41 [f 3 2,l 1 41,m 5,ix 1 42 43,l 1 44,f 3 3,l 1 46,m 5,ix 1 47 48,l 1 49,ne 45 50] [] ⟨false,[],[]⟩) (c 51 (r (O 4 [i 0]))))) (O 39 [m 5,adi 39 1,d 5 (m 40)])))
def w112_L0:WCode:=.loop ⟨true,[5,3,2],[]⟩ w112_B0
def w112:WFn:=⟨2,[.tmp 4],zd (s (O 2 [bx 0,bx 1,i 0]) (s (s (Q 6 [f 0 2,l 1 6,f 0 3,l 1 8,ne 7 9,m 10,z 11 (f 1 2),z 11 (l 1 12),z 11 (f 1 3),z 11 (l 1 14),z 11 (ne 13 15),po 11 16,m 17,z 18 (f 2 2),z 18 (l 1 19),z 18 (f 2 3),z 18 (l 1 21),z 18 (ne 20 22),po 18 23,m 24,z 25 (f 3 2),z 25 (l 1 26),z 25 (ln 1 27),z 25 (f 3 3),z 25 (l 1 29),z 25 (ln 1 30),z 25 (ne 28 31),po 25 32] [33,3,2]) (c 33 (r (O 4 [i 0])))) (s (s (O 5 [i 0]) (bk 0 w112_L0 ⟨true,[],[]⟩)) w112_c0)))⟩
@[simp] theorem w112_E0:ZL w112_L0 w112_B0 ⟨true,[5,3,2],[]⟩:=ck_lp rfl
noncomputable abbrev w112_K0 (C:WProg) (s:WSt):Option AV:=CK C 0 (pureFin [.tmp 4]) [.sq w112_L0,.bk 0 ⟨true,[],[]⟩,.sq w112_c0] w112_B0 s
def w319:WFn:=⟨3,[.tmp 6,.tmp 7],zd (s (O 5 [bx 2,i 0,i 0]) (s (s (O 9 [m 0,m 1,ca 312 [9,10],gti 11 0]) (c 12 (r (O 13 [m 0,m 1,ca 312 [13,14],d 6 (i 0),d 7 (m 15)])))) (s (s (O 16 [h 2 5,ca 176 [16],gti 17 0]) (c 18 (r (O 6 [i 0,i 1])))) (s (s (Q 19 [f 0 5,l 1 19,E (.bin .eql (T 20) (.c (.int .u64 0)))] [21,5,1,0]) (c 21 (r (O 6 [i 0,i 0])))) (s (O 22 [m 0,f 0 5,l 1 23,ca 239 [22,24],d 8 (m 25)]) (s (s (O 26 [m 8,lti 26 0]) (c 27 (r (O 6 [i 0,i 11])))) (r (V 28 [m 0,m 1,m 0,m 8,ca 253 [30,31],f 1 5,l 1 33,ad 32 34,ca 314 [28,29,35],d 6 (m 36),d 7 (i 0)] [(4,6)] ⟨false,[],[]⟩))))))))⟩
def w133_c0:WCode:=zd (r (O 10 [d 62 (m 15),m 62,i 0]))
def w133_B0:WCode:=zd (s (s (O 36 [m 16,m 1,ln 1 37,lt 36 38]) (cc 39 (w .skip) (ee 0))) (s (B 1 (s (Q 42 [m 16,m 12,ge 42 43,m 44,y 45 (m 16),y 45 (m 13),y 45 (lt 46 47),pa 45 48,m 49,z 50 (m 16),z 50 (h 2 5),z 50 (m 1),z 50 (m 2),z 50 (ca 149 [52,53,54]),z 50 (eq 51 55),po 50 56] [57,16,15,13,12,5,2,1]) (c 57 (O 58 [m 15,m 16,E (.buildS [.int .i64 0] 1 [(0,T 59)]),E (.app [.int .i64 0] 8 false (T 58) (T 60)),d 15 (m 61)])))) (O 40 [m 16,adi 40 1,d 16 (m 41)])))
def w133_L0:WCode:=.loop ⟨true,[16,15,13,12,5,2,1],[]⟩ w133_B0
def w133:WFn:=⟨5,[.tmp 10,.tmp 11],zd (s (O 10 [d 5 (bx 0),E (.mv (.c (.ro 1 [] true))),i 0]) (s (s (O 17 [h 2 5,m 1,ca 235 [17,18],gti 19 0]) (c 20 (r (Q 21 [h 2 5,m 1,ca 235 [21,22],d 10 (E (.mv (.c (.ro 1 [] true)))),d 11 (m 23)] [11,10])))) (s (O 25 [m 1,m 2,m 3,m 4,ca 131 [25,26,27,28],d 24 (m 29),ex 0 24,ex 1 24,ex 2 24,d 12 (m 30),d 13 (m 31),d 14 (m 32)]) (s (s (O 33 [m 14,gti 33 0]) (c 34 (r (O 10 [d 35 (m 14),E (.mv (.c (.ro 1 [] true))),m 35])))) (s (R 15 [E (.mv (.c (.ro 1 [] true)))] ⟨true,[15,13,12,5,2,1],[(15,1)]⟩) (s (s (O 16 [i 0]) (bk 0 w133_L0 ⟨true,[15],[]⟩)) w133_c0))))))⟩
@[simp] theorem w133_E0:ZL w133_L0 w133_B0 ⟨true,[16,15,13,12,5,2,1],[]⟩:=ck_lp rfl
noncomputable abbrev w133_K0 (C:WProg) (s:WSt):Option AV:=CK C 0 (pureFin [.tmp 10,.tmp 11]) [.sq w133_L0,.bk 0 ⟨true,[15],[]⟩,.sq w133_c0] w133_B0 s
def w137_c0:WCode:=zd (r (O 29 [m 5,d 4 (m 29)]))
def w137_B0:WCode:=zd (s (s (Q 7 [m 6,m 1,ln 1 8,lt 7 9] [10,6,5,1,0]) (cc 10 (w .skip) (ee 0))) (s (B 1 (s (O 13 [m 0,m 1,m 6,ix 1 14 15,l 1 16,ix 6 13 17,f 5 18,l 1 19,nt 20]) (c 21 (O 22 [m 5,m 1,m 6,ix 1 23 24,l 1 25,E (.buildS [.int .i64 0] 1 [(0,T 26)]),E (.app [.int .i64 0] 8 false (T 22) (T 27)),d 5 (m 28)])))) (O 11 [m 6,adi 11 1,d 6 (m 12)])))
def w137_L0:WCode:=.loop ⟨true,[6,5,1,0],[]⟩ w137_B0
def w137:WFn:=⟨2,[.tmp 4],zd (s (O 4 [E (.mv (.c (.ro 1 [] true)))]) (s (R 5 [E (.mv (.c (.ro 1 [] true)))] ⟨true,[5,1,0],[(5,1)]⟩) (s (s (O 6 [i 0]) (bk 0 w137_L0 ⟨true,[5],[]⟩)) w137_c0)))⟩
@[simp] theorem w137_E0:ZL w137_L0 w137_B0 ⟨true,[6,5,1,0],[]⟩:=ck_lp rfl
noncomputable abbrev w137_K0 (C:WProg) (s:WSt):Option AV:=CK C 0 (pureFin [.tmp 4]) [.sq w137_L0,.bk 0 ⟨true,[5],[]⟩,.sq w137_c0] w137_B0 s
def w407:WFn:=⟨1,[.tmp 2],zd (s (O 2 [i 0]) (s (s (O 3 [m 0,ca 504 [3],gti 4 4611686018427387904]) (c 5 (r (O 2 [i 13])))) (r (O 2 [i 0]))))⟩
def w2004_c0:WCode:=zd (r (O 70 [m 15,m 15,ln 1 71,m 15,ln 1 73,E (.slice 1 (T 70) none (some (T 72)) (some (T 74))),ca 2005 [75],d 10 (m 76),d 11 (i 0)]))
def w2004_B0:WCode:=zd (s (s (O 60 [m 17,f 1 13,l 1 61,lt 60 62]) (cc 63 (w .skip) (ee 0))) (s (B 1 (O 66 [m 15,m 17,E (.buildS [.int .i64 0] 1 [(0,T 67)]),E (.app [.int .i64 0] 8 false (T 66) (T 68)),d 15 (m 69)])) (O 64 [m 17,adi 64 1,d 17 (m 65)])))
def w2004_L0:WCode:=.loop ⟨true,[17,15,13],[]⟩ w2004_B0
def w2004:WFn:=⟨5,[.tmp 10,.tmp 11],zd (s (O 10 [d 5 (bx 0),d 6 (bx 1),E (.mv (.c (.ro 1 [] true))),i 0]) (s (s (Q 18 [h 2 5,h 1 6,ca 223 [18,19],d 12 (m 20)] [12,6,5,4,3,2]) (s (O 21 [m 12,nei 21 0]) (c 22 (r (O 10 [d 23 (m 12),E (.mv (.c (.ro 1 [] true))),m 23]))))) (s (O 25 [h 1 6,m 2,m 3,m 4,ca 132 [25,26,27,28],d 24 (m 29),ex 0 24,ex 1 24,d 13 (E (.alloc [.int .i64 0,.int .i64 0])),n (st 2 13 30),d 14 (m 31)]) (s (s (O 32 [m 14,nei 32 0]) (c 33 (r (O 10 [d 34 (m 14),E (.mv (.c (.ro 1 [] true))),m 34])))) (s (Q 35 [f 1 13,l 1 35,f 0 13,l 1 37,sb 36 38,adi 39 1,E (.mksl [.int .i64 0] 8 (N 0) (T 40)),d 15 (m 41)] [15,13,6,5,2]) (s (s (O 42 [h 2 5,h 1 6,m 2,ca 273 [42,43,44],d 16 (m 45)]) (s (O 46 [m 16,gei 46 0,m 47,y 48 (m 16),y 48 (f 0 13),y 48 (l 1 50),y 48 (lt 49 51),pa 48 52]) (c 53 (O 54 [m 15,m 16,E (.buildS [.int .i64 0] 1 [(0,T 55)]),E (.app [.int .i64 0] 8 false (T 54) (T 56)),d 15 (m 57)])))) (s (s (Q 58 [f 0 13,l 1 58,d 17 (m 59)] [17,15,13]) (bk 0 w2004_L0 ⟨true,[15],[]⟩)) w2004_c0)))))))⟩
@[simp] theorem w2004_E0:ZL w2004_L0 w2004_B0 ⟨true,[17,15,13],[]⟩:=ck_lp rfl
def w274:WFn:=⟨1,[.tmp 2],zd (s (O 2 [E (.mv (.c (.ro 1 [] true)))]) (s (s (O 4 [m 0,ln 1 4,eqi 5 0]) (c 6 (r (O 2 [E (.mv (.c (.ro 1 [] true)))])))) (s (O 7 [m 0,ln 1 7,E (.mksl [.int .i64 0] 8 (T 8) (T 8)),d 3 (m 9)]) (s (O 10 [m 3,m 0,E (.cpy 1 (T 10) (T 11))]) (r (O 13 [m 3,d 2 (m 13)]))))))⟩
def w275_c0:WCode:=zd (s (O 36 [m 0,m 5,E (.slice 1 (T 36) (some (T 37)) none none),n (E (.clr [.int .i64 0] (T 38)))]) (r (O 39 [m 0,m 5,E (.slice 1 (T 39) none (some (T 40)) none),d 4 (m 41)])))
def w275_B0:WCode:=zd (s (s (O 16 [m 6,m 0,ln 1 17,lt 16 18]) (cc 19 (w .skip) (ee 0))) (s (B 1 (s (Q 22 [m 0,m 6,ix 1 22 23,l 1 24,d 7 (m 25)] [7,6,5,1,0]) (s (O 26 [m 1,m 7,E (.callv (T 26) [T 27]),nt 28]) (c 29 (s (O 30 [m 0,m 5,m 7,ix 1 30 31,n (st 1 33 32)]) (O 34 [m 5,adi 34 1,d 5 (m 35)])))))) (O 20 [m 6,adi 20 1,d 6 (m 21)])))
def w275_L0:WCode:=.loop ⟨true,[6,5,1,0],[]⟩ w275_B0
def w275:WFn:=⟨2,[.tmp 4],zd (s (O 4 [E (.mv (.c (.ro 1 [] true)))]) (s (O 8 [m 0,m 1,ca 426 [8,9],d 5 (m 10)]) (s (s (O 11 [m 5,eqi 11 (-1)]) (c 12 (r (O 13 [m 0,d 4 (m 13)])))) (s (s (O 14 [m 5,adi 14 1,d 6 (m 15)]) (bk 0 w275_L0 ⟨true,[5,0],[]⟩)) w275_c0))))⟩
@[simp] theorem w275_E0:ZL w275_L0 w275_B0 ⟨true,[6,5,1,0],[]⟩:=ck_lp rfl
def w276:WFn:=⟨2,[.tmp 3],zd (s (O 3 [ff]) (r (O 4 [f 0 1,l 1 4,m 0,ix 6 5 6,f 5 7,l 1 8,d 3 (m 9)])))⟩
def w122:WFn:=⟨1,[.tmp 2],zd (s (O 1 [bx 0,i 0]) (s (s (O 3 [f 0 1,l 1 3,ln 1 4,gti 5 1024]) (c 6 (r (O 2 [i 3])))) (s (s (O 7 [f 0 1,l 1 7,E (.call 249 [T 8,.c (.fn 250 [])])]) (c 9 (r (O 2 [i 12])))) (s (s (O 10 [h 1 1,ca 111 [10],gti 11 4611686018427387904]) (c 12 (r (O 2 [i 13])))) (r (O 2 [i 0]))))))⟩
def w323:WFn:=⟨2,[.tmp 4,.tmp 5],zd (s (Q 4 [d 2 (bx 0),i 0,ff] [2,1]) (s (O 11 [h 1 2,m 1,ca 224 [11,12],d 10 (m 13),ex 0 10,ex 1 10,d 6 (m 14),d 7 (m 15)]) (s (O 17 [h 1 2,ca 246 [17],d 16 (m 18),ex 0 16,ex 1 16,d 8 (m 19),d 9 (m 20)]) (r (O 21 [m 8,m 6,ix 1 21 22,l 1 23,m 7,d 4 (m 24),d 5 (m 25)])))))⟩
def w253_c0:WCode:=zd (r (O 19 [m 5,d 4 (m 19)]))
def w253_B0:WCode:=zd (s (s (O 7 [m 6,m 1,lt 7 8]) (cc 9 (w .skip) (ee 0))) (s (B 1 (O 12 [m 5,m 0,m 6,ix 6 13 14,f 4 15,l 1 16,ad 12 17,d 5 (m 18)])) (O 10 [m 6,adi 10 1,d 6 (m 11)])))
def w253_L0:WCode:=.loop ⟨true,[6,5,1,0],[]⟩ w253_B0
def w253:WFn:=⟨2,[.tmp 4],zd (s (O 4 [i 0]) (s (O 5 [i 0]) (s (s (O 6 [i 0]) (bk 0 w253_L0 ⟨true,[5],[]⟩)) w253_c0)))⟩
@[simp] theorem w253_E0:ZL w253_L0 w253_B0 ⟨true,[6,5,1,0],[]⟩:=ck_lp rfl
noncomputable abbrev w253_K0 (C:WProg) (s:WSt):Option AV:=CK C 0 (pureFin [.tmp 4]) [.sq w253_L0,.bk 0 ⟨true,[5],[]⟩,.sq w253_c0] w253_B0 s
def w422_c0:WCode:=zd (s (s (O 45 [E (.idxa 4 1 (T 1) (N 3)),l 1 45,E (.bin .geq (T 46) (.c (.int .u8 240)))]) (c 47 (O 48 [f 3 3,l 1 48,E (.buildS [.str []] 2 [(0,.c (.str [97])),(1,.c (.str [97]))]),E (.app [.str []] 16 false (T 49) (T 50)),f 3 3,n (st 1 52 51)]))) (r (O 53 [h 4 3,n (st 4 2 53)])))
def w422_B0:WCode:=zd (s (s (O 20 [m 4,lti 20 3]) (cc 21 (w .skip) (ee 0))) (s (B 1 (s (O 24 [E (.idxa 4 1 (T 1) (N 3)),l 1 24,m 4,E (.bin .shr (T 25) (T 26)),E (.bin .and (T 27) (.c (.int .u8 1))),E (.bin .gtr (T 28) (.c (.int .u8 0)))]) (c 29 (U 30 [f 3 3,l 1 30,E (.buildS [.str []] 3 [(0,.c (.str [97])),(1,.c (.str [98,50])),(2,.c (.str [107,101,121]))]),m 4,E (.idxa 4 1 (T 1) (N 3)),l 1 34,E (.bin .quo (T 35) (.c (.int .u8 8))),E (.cvt .i64 (T 36)),ad 33 37,E (.bin .rem (T 38) (N 3)),ix 1 32 39,l 1 40,E (.buildS [.str []] 1 [(0,T 41)]),E (.app [.str []] 16 false (T 31) (T 42)),f 3 3,n (st 1 44 43)] [(1,2),(2,5),(1,12)] [4,3,2,1])))) (O 22 [m 4,adi 22 1,d 4 (m 23)])))
def w422_L0:WCode:=.loop ⟨true,[4,3,2,1],[]⟩ w422_B0
def w422:WFn:=⟨1,[.cell 2 4 true],zd (s (O 1 [bx 0,E (.alloc [.int .u64 0,.int .u8 0,.str [],.ro 1 [] true])]) (s (U 5 [E (.idxa 4 1 (T 1) (N 0)),l 1 5,E (.bin .rem (T 6) (.c (.int .u8 60))),E (.cvt .u64 (T 7)),E (.bin .add (.c (.int .u64 1)) (T 8)),E (.idxa 4 1 (T 1) (N 1)),l 1 10,E (.bin .rem (T 11) (.c (.int .u8 3))),E (.buildS [.str []] 8 [(0,.c (.str [])),(1,.c (.str [97])),(2,.c (.str [114,111,119])),(3,.c (.str [116,119,111,32,119,111,114,100,115])),(4,.c (.str [32,32])),(5,.c (.str [126,33,45,44])),(6,.c (.str [97,32,108,111,110,103,101,114,32,116,101,120,116,32,111,102,32,116,104,105,115,32,107,105,110,100])),(7,.c (.str [57]))]),E (.idxa 4 1 (T 1) (N 2)),l 1 14,E (.bin .rem (T 15) (.c (.int .u8 8))),ix 1 13 16,l 1 17,E (.build [.int .u64 0,.int .u8 0,.str [],.ro 1 [] true] [(0,1,T 9),(1,1,T 12),(2,1,T 18)]),d 3 (E (.alloc [.int .u64 0,.int .u8 0,.str [],.ro 1 [] true])),n (st 4 3 19)] [(1,8),(6,8),(8,10),(1,15),(6,15),(8,15),(10,15),(13,15)] [3,2,1]) (s (s (O 4 [i 0]) (bk 0 w422_L0 ⟨true,[3,2,1],[]⟩)) w422_c0)))⟩
@[simp] theorem w422_E0:ZL w422_L0 w422_B0 ⟨true,[4,3,2,1],[]⟩:=ck_lp rfl
noncomputable abbrev w422_K0 (C:WProg) (s:WSt):Option AV:=CK C 0 (pureFin [.cell 2 4 true]) [.sq w422_L0,.bk 0 ⟨true,[3,2,1],[]⟩,.sq w422_c0] w422_B0 s
def w423_c0:WCode:=zd (r (O 4 [i (-1)]))
def w423_B0:WCode:=zd (s (s (O 6 [m 5,m 0,ln 1 7,lt 6 8]) (cc 9 (w .skip) (ee 0))) (s (B 1 (s (O 12 [m 0,m 5,ix 4 12 13,f 0 14,l 1 15,m 1,eq 16 17]) (c 18 (r (O 19 [m 5,d 4 (m 19)]))))) (O 10 [m 5,adi 10 1,d 5 (m 11)])))
def w423_L0:WCode:=.loop ⟨true,[5,1,0],[]⟩ w423_B0
def w423:WFn:=⟨2,[.tmp 4],zd (s (O 4 [i 0]) (s (s (O 5 [i 0]) (bk 0 w423_L0 ⟨true,[],[]⟩)) w423_c0))⟩
@[simp] theorem w423_E0:ZL w423_L0 w423_B0 ⟨true,[5,1,0],[]⟩:=ck_lp rfl
noncomputable abbrev w423_K0 (C:WProg) (s:WSt):Option AV:=CK C 0 (pureFin [.tmp 4]) [.sq w423_L0,.bk 0 ⟨true,[],[]⟩,.sq w423_c0] w423_B0 s
def w424_c0:WCode:=zd (s (s (O 41 [m 5,eqi 41 1]) (c 42 (r (O 4 [i 0])))) (r (O 4 [i 6])))
def w424_B0:WCode:=zd (s (s (O 26 [m 6,f 3 2,l 1 27,ln 1 28,lt 26 29]) (cc 30 (w .skip) (ee 0))) (s (B 1 (O 33 [m 5,f 3 2,l 1 34,m 6,ix 1 35 36,l 1 37,ca 511 [38],E (.bin .mul (T 33) (T 39)),d 5 (m 40)])) (O 31 [m 6,adi 31 1,d 6 (m 32)])))
def w424_L0:WCode:=.loop ⟨true,[6,5,2],[]⟩ w424_B0
def w424:WFn:=⟨2,[.tmp 4],zd (s (O 4 [d 2 (bx 0),i 0]) (s (O 7 [f 2 2,l 1 7,ca 510 [8],d 5 (m 9)]) (s (s (Q 10 [f 0 2,l 1 10,E (.bin .eql (T 11) (.c (.int .u64 0))),m 12,z 13 (m 1),z 13 (f 1 2),z 13 (l 1 15),z 13 (E (.cvt .i64 (T 16))),z 13 (le 14 17),po 13 18,m 19,z 20 (f 3 2),z 20 (l 1 21),z 20 (ln 1 22),z 20 (gti 23 8),po 20 24] [25,5,2]) (c 25 (O 5 [i 0]))) (s (s (O 6 [i 0]) (bk 0 w424_L0 ⟨true,[5],[]⟩)) w424_c0))))⟩
@[simp] theorem w424_E0:ZL w424_L0 w424_B0 ⟨true,[6,5,2],[]⟩:=ck_lp rfl
noncomputable abbrev w424_K0 (C:WProg) (s:WSt):Option AV:=CK C 0 (pureFin [.tmp 4]) [.sq w424_L0,.bk 0 ⟨true,[5],[]⟩,.sq w424_c0] w424_B0 s
def w425:WFn:=⟨3,[.cell 6 6 true,.tmp 7],zd (s (Q 6 [d 3 (bx 0),d 4 (bx 1),E (.alloc [.int .u8 0,.str [],.str [],.ro 2 [] true,.str [],.ro 6 [] true]),i 0] [6,4,3,2]) (s (s (O 9 [m 2,lti 9 1,m 10,z 11 (m 2),z 11 (gti 12 64),po 11 13]) (c 14 (r (O 15 [E (.build [.int .u8 0,.str [],.str [],.ro 2 [] true,.str [],.ro 6 [] true] []),n (st 6 6 15),d 7 (i 1)])))) (s (s (O 16 [h 6 3,ca 408 [16],nei 17 0]) (c 18 (r (O 19 [E (.build [.int .u8 0,.str [],.str [],.ro 2 [] true,.str [],.ro 6 [] true] []),h 6 3,ca 408 [20],n (st 6 6 19),d 7 (m 21)])))) (s (s (O 22 [h 4 4,ca 512 [22],nei 23 0]) (c 24 (r (Q 25 [E (.build [.int .u8 0,.str [],.str [],.ro 2 [] true,.str [],.ro 6 [] true] []),h 4 4,ca 512 [26],n (st 6 6 25),d 7 (m 27)] [7,6])))) (s (O 28 [h 6 3,h 4 4,ca 513 [28,29],E (.idxs 6 (T 30) (N 0)),h 6 31,d 8 (E (.alloc [.int .u8 0,.str [],.str [],.ro 2 [] true,.str [],.ro 6 [] true])),n (st 6 8 32)]) (s (s (O 33 [h 6 8,ca 441 [33],nei 34 0,m 35,z 36 (h 6 8),z 36 (ca 442 [37]),z 36 (m 2),z 36 (gt 38 39),po 36 40]) (c 41 (r (O 42 [E (.build [.int .u8 0,.str [],.str [],.ro 2 [] true,.str [],.ro 6 [] true] []),n (st 6 6 42),d 7 (i 14)])))) (r (O 43 [h 6 8,n (st 6 6 43),d 7 (i 0)]))))))))⟩
def w406:WFn:=⟨1,[.tmp 2],zd (s (O 2 [i 0]) (s (s (O 3 [m 0]) (c 3 (r (O 2 [i 1])))) (r (O 2 [i 0]))))⟩
def w230:WFn:=⟨1,[.tmp 2],zd (s (O 1 [bx 0,ff]) (r (O 3 [f 6 1,l 1 3,ca 225 [4],nt 5,m 6,z 7 (f 0 1),z 7 (h 6 8),z 7 (ca 231 [9]),z 7 (nei 10 0),po 7 11,d 2 (m 12)])))⟩
def w225:WFn:=⟨1,[.tmp 2],zd (s (O 2 [ff]) (r (O 3 [m 0,gei 3 1,m 4,y 5 (m 0),y 5 (lei 6 2305843009213693952),pa 5 7,d 2 (m 8)])))⟩
def w231:WFn:=⟨1,[.tmp 2],zd (s (O 1 [bx 0,i 0]) (s (s (O 3 [h 6 1,ca 404 [3],eqi 4 0]) (c 5 (r (O 2 [i 14])))) (r (O 2 [i 0]))))⟩
def w232:WFn:=⟨2,[.tmp 4],zd (s (O 4 [ff]) (r (O 5 [m 0,m 1,ca 405 [5,6],gei 7 0,d 4 (m 8)])))⟩
def w408:WFn:=⟨1,[.tmp 2],zd (s (O 1 [bx 0,i 0]) (s (s (O 3 [h 6 1,ca 505 [3],eqi 4 0]) (c 5 (r (O 2 [i 14])))) (r (O 2 [i 0]))))⟩
def w398:WFn:=⟨2,[.tmp 4],zd (s (O 4 [d 2 (bx 0),i 0]) (s (O 7 [E (.mkfn 494 [T 2]),d 5 (m 7)]) (s (Q 8 [E (.mkfn 497 [T 2]),d 6 (m 8)] [6,5,2,1]) (s (s (O 9 [f 0 2,l 1 9,E (.bin .eql (T 10) (.c (.int .u64 0))),m 11,z 12 (f 1 2),z 12 (l 1 13),z 12 (E (.cvt .i64 (T 14))),z 12 (m 1),z 12 (ge 15 16),po 12 17,m 18,z 19 (m 5),z 19 (E (.callv (T 20) [])),z 19 (nt 21),po 19 22,m 23,z 24 (m 6),z 24 (E (.callv (T 25) [])),z 24 (nt 26),po 24 27]) (c 28 (r (O 4 [i 6])))) (r (O 4 [i 0]))))))⟩
def w399:WFn:=⟨2,[.cell 4 6 true,.tmp 5],zd (s (O 2 [bx 0,bx 1,E (.alloc [.int .u8 0,.str [],.str [],.ro 2 [] true,.str [],.ro 6 [] true]),i 0]) (r (V 6 [f 0 2,l 1 6,f 1 3,l 1 8,ix 9 7 9,f 0 10,h 6 11,h 4 3,f 1 2,l 1 14,ca 501 [12,13,15],ex 0 16,ex 1 16,n (st 6 4 17),d 5 (m 18)] [] ⟨false,[],[]⟩)))⟩
def w227:WFn:=⟨1,[.tmp 2],zd (s (O 1 [bx 0,i 0]) (s (s (O 3 [h 1 1,ca 111 [3],gti 4 4611686018427387904]) (c 5 (r (O 2 [i 13])))) (r (O 2 [i 0]))))⟩
def w97:WFn:=⟨0,[.tmp 0],zd (s (O 0 [E (.mv (.c .nilp))]) (r (O 1 [E (.build [.ro 3 [] true,.int .i64 0,.int .i64 0] []),bx 1,d 0 (m 2)])))⟩
def w379:WFn:=⟨3,[.tmp 6],zd (s (O 6 [d 3 (bx 0),i 0]) (s (O 10 [m 2,f 0 3,l 1 11,ca 1100 [10,12],d 9 (m 13),ex 0 9,ex 1 9,d 7 (m 14),d 8 (m 15)]) (s (B 0 (s (Q 17 [f 0 3,l 1 17,E (.bin .eql (T 18) (.c (.int .u64 0))),d 16 (m 19)] [16,8,3,2,1]) (cc 16 (r (O 6 [i 9])) (s (O 21 [f 1 3,l 1 21,m 1,lt 22 23,m 24,z 25 (f 1 3),z 25 (l 1 26),z 25 (gti 27 2305843009213693952),po 25 28,d 20 (m 29)]) (cc 20 (r (O 6 [i 12])) (s (O 31 [m 8,d 30 (m 31)]) (c 30 (r (O 6 [i 8]))))))))) (r (O 32 [m 2,f 0 3,l 1 33,E (.call 99 [T 32,T 34,N 0]),d 6 (m 35)])))))⟩
def w402_c0:WCode:=zd (r (O 4 [i (-1)]))
def w402_B0:WCode:=zd (s (O 9 [lt 8 7]) (s (cc 9 (w .skip) (ee 0)) (s (B 1 (s (O 10 [m 8,d 5 (m 10)]) (s (O 11 [m 1,m 0,m 5,ix 6 12 13,h 6 14,E (.callv (T 11) [T 15])]) (c 16 (r (O 17 [m 5,d 4 (m 17)])))))) (O 18 [adi 8 1,d 8 (m 18)]))))
def w402_L0:WCode:=.loop ⟨true,[8,7,1,0],[]⟩ w402_B0
def w402:WFn:=⟨2,[.tmp 4],zd (s (O 4 [i 0]) (s (s (O 6 [m 0,ln 1 6,i 0]) (bk 0 w402_L0 ⟨true,[],[]⟩)) w402_c0))⟩
@[simp] theorem w402_E0:ZL w402_L0 w402_B0 ⟨true,[8,7,1,0],[]⟩:=ck_lp rfl
noncomputable abbrev w402_K0 (C:WProg) (s:WSt):Option AV:=CK C 0 (pureFin [.tmp 4]) [.sq w402_L0,.bk 0 ⟨true,[],[]⟩,.sq w402_c0] w402_B0 s
def w403:WFn:=⟨2,[.tmp 3],zd (s (O 2 [bx 0,ff]) (r (O 4 [f 0 2,f 0 4,l 1 5,l 1 1,eq 6 7,d 3 (m 8)])))⟩
def w3002:WFn:=⟨4,[.cell 8 1 true,.tmp 9],zd (s (R 4 [bx 0,bx 1,bx 2,bx 3,E (.alloc [.ro 6 [] true]),i 0] ⟨true,[8,7,6,5,4],[(4,65536),(5,65536),(6,65536),(7,65536)]⟩) (r (V 10 [h 2 4,h 1 5,l 1 6,l 1 7,f 0 5,l 1 14,ln 1 15,ca 219 [12,13,16],E (.mkfn 222 [T 5,T 6,T 7]),E (.build [.bool false,.int .i64 0,.ro 4 [] true,.nilf,.nilf] [(0,1,T 17),(4,1,T 18)]),ca 3003 [10,11,19],ex 0 20,ex 1 20,n (st 1 8 21),d 9 (m 22)] [(0,7),(1,7)] ⟨false,[],[]⟩)))⟩
def w161:WFn:=⟨3,[.tmp 6,.tmp 7],zd (s (Q 5 [d 3 (bx 0),bx 2,i 0,i 0] [5,3,1]) (s (s (O 12 [h 1 3,m 1,ca 322 [12,13],d 8 (m 14)]) (s (O 15 [m 8,nei 15 0]) (c 16 (r (O 6 [d 17 (m 8),i 0,m 17]))))) (s (s (O 18 [h 2 5,ca 318 [18],d 9 (m 19)]) (s (O 20 [m 9,nei 20 0]) (c 21 (r (O 6 [d 22 (m 9),i 0,m 22]))))) (s (s (O 23 [f 0 5,l 1 23,E (.bin .eql (T 24) (.c (.int .u64 0)))]) (c 25 (r (O 6 [i 0,i 0])))) (s (Q 27 [h 1 3,f 0 5,l 1 28,ca 323 [27,29],d 26 (m 30),ex 0 26,ex 1 26,d 10 (m 31),d 11 (m 32)] [11,10,5,3,1]) (s (s (O 33 [m 11,nt 33]) (c 34 (r (O 6 [i 0,i 11])))) (r (O 35 [h 1 3,m 1,m 10,f 1 5,l 1 38,ad 37 39,ca 313 [35,36,40],ex 0 41,ex 1 41,d 6 (m 42),d 7 (m 43)]))))))))⟩
def w247:WFn:=⟨2,[.tmp 4],zd (s (O 2 [bx 0,bx 1,i 0]) (r (O 5 [l 1 2,ln 1 5,sbi 6 1,E (.mkfn 412 [T 2,T 3]),ca 411 [7,8],d 4 (m 9)])))⟩
def w312:WFn:=⟨2,[.tmp 4],zd (s (O 4 [i 0]) (s (s (O 5 [m 0,ca 251 [5],gti 6 0]) (c 7 (r (O 8 [m 0,ca 251 [8],d 4 (m 9)])))) (s (s (O 10 [m 1,lti 10 1,m 11,z 12 (m 1),z 12 (gti 13 2147483648),po 12 14]) (c 15 (r (O 4 [i 1])))) (r (O 4 [i 0])))))⟩
def w314:WFn:=⟨3,[.tmp 6],zd (s (O 6 [i 0]) (s (O 8 [m 0,m 1,ca 327 [8,9],d 7 (m 10)]) (s (s (O 11 [m 2,m 7,gt 11 12]) (c 13 (r (O 14 [m 7,d 6 (m 14)])))) (s (s (O 15 [m 2,lti 15 0]) (c 16 (r (O 6 [i 0])))) (r (O 17 [m 2,d 6 (m 17)]))))))⟩
def w131_c0:WCode:=zd (r (O 68 [m 11,m 11,m 12,ad 69 70,d 8 (m 68),d 9 (m 71),d 10 (i 0)]))
def w131_c1:WCode:=zd (O 36 [m 13,sbi 36 1,d 13 (m 37)])
def w131_c2:WCode:=zd (s (O 63 [m 14,gti 63 0]) (c 64 (s (O 65 [m 13,d 11 (m 65)]) (O 66 [m 12,adi 66 1,d 12 (m 67)]))))
def w131_B1:WCode:=zd (s (s (O 38 [m 15,m 0,ln 1 39,lt 38 40]) (cc 41 (w .skip) (ee 2))) (s (B 3 (s (O 44 [m 15,m 13,sb 44 45,m 3,le 46 47,m 48,y 49 (m 13),y 49 (m 15),y 49 (sb 50 51),y 49 (m 3),y 49 (le 52 53),pa 49 54]) (c 55 (Q 56 [m 14,m 0,m 1,m 2,m 15,ca 272 [57,58,59,60],ad 56 61,d 14 (m 62)] [15,14,13,12,11,3,2,1,0])))) (O 42 [m 15,adi 42 1,d 15 (m 43)])))
def w131_L1:WCode:=.loop ⟨true,[15,14,13,12,11,3,2,1,0],[]⟩ w131_B1
def w131_B0:WCode:=zd (s (s (O 34 [m 13,gei 34 0]) (cc 35 (w .skip) (ee 0))) (s (bk 1 (s (O 14 [i 0]) (s (s (O 15 [i 0]) (bk 2 w131_L1 ⟨true,[14,13,12,11,3,2,1,0],[]⟩)) w131_c2)) ⟨true,[13,12,11,3,2,1,0],[]⟩) w131_c1))
def w131_L0:WCode:=.loop ⟨true,[13,12,11,3,2,1,0],[]⟩ w131_B0
def w131:WFn:=⟨4,[.tmp 8,.tmp 9,.tmp 10],zd (s (Q 8 [i 0,i 0,i 0] [3,2,1,0]) (s (s (O 16 [m 0,m 1,m 2,ca 252 [16,17,18],gti 19 0]) (c 20 (r (O 21 [m 0,m 1,m 2,ca 252 [21,22,23],d 8 (i 0),d 9 (i 0),d 10 (m 24)])))) (s (s (O 25 [m 3,lti 25 0,m 26,z 27 (m 3),z 27 (gti 28 16),po 27 29]) (c 30 (r (O 8 [i 0,i 0,i 1])))) (s (O 11 [i 0,i 0]) (s (s (Q 31 [m 0,ln 1 31,sbi 32 1,d 13 (m 33)] [13,12,11,3,2,1,0]) (bk 0 w131_L0 ⟨true,[12,11],[]⟩)) w131_c0)))))⟩
@[simp] theorem w131_E1:ZL w131_L1 w131_B1 ⟨true,[15,14,13,12,11,3,2,1,0],[]⟩:=ck_lp rfl
noncomputable abbrev w131_K1 (C:WProg) (s:WSt):Option AV:=CK C 0 (pureFin [.tmp 8,.tmp 9,.tmp 10]) [.sq w131_L1,.bk 2 ⟨true,[14,13,12,11,3,2,1,0],[]⟩,.sq w131_c2,.bk 1 ⟨true,[13,12,11,3,2,1,0],[]⟩,.sq w131_c1,.sq w131_L0,.bk 0 ⟨true,[12,11],[]⟩,.sq w131_c0] w131_B1 s
@[simp] theorem w131_E0:ZL w131_L0 w131_B0 ⟨true,[13,12,11,3,2,1,0],[]⟩:=ck_lp rfl
noncomputable abbrev w131_K0 (C:WProg) (s:WSt):Option AV:=CK C 0 (pureFin [.tmp 8,.tmp 9,.tmp 10]) [.sq w131_L0,.bk 0 ⟨true,[12,11],[]⟩,.sq w131_c0] w131_B0 s
def w149_c0:WCode:=zd (r (O 30 [m 7,d 6 (m 30)]))
def w149_B0:WCode:=zd (s (s (Q 9 [m 8,m 1,ln 1 10,lt 9 11] [12,8,7,3,2,1]) (cc 12 (w .skip) (ee 0))) (s (B 1 (s (V 15 [h 2 3,m 1,m 8,ix 6 16 17,h 6 18,ca 304 [15,19],eqi 20 1,m 21,y 22 (m 1),y 22 (m 8),y 22 (ca 253 [23,24]),y 22 (m 2),y 22 (le 25 26),pa 22 27] [] ⟨false,[],[]⟩) (c 28 (O 29 [m 8,d 7 (m 29)])))) (O 13 [m 8,adi 13 1,d 8 (m 14)])))
def w149_L0:WCode:=.loop ⟨true,[8,7,3,2,1],[]⟩ w149_B0
def w149:WFn:=⟨3,[.tmp 6],zd (s (O 6 [d 3 (bx 0),i 0]) (s (O 7 [i (-1)]) (s (s (O 8 [i 0]) (bk 0 w149_L0 ⟨true,[7],[]⟩)) w149_c0)))⟩
@[simp] theorem w149_E0:ZL w149_L0 w149_B0 ⟨true,[8,7,3,2,1],[]⟩:=ck_lp rfl
noncomputable abbrev w149_K0 (C:WProg) (s:WSt):Option AV:=CK C 0 (pureFin [.tmp 6]) [.sq w149_L0,.bk 0 ⟨true,[7],[]⟩,.sq w149_c0] w149_B0 s
def w504_c0:WCode:=zd (r (O 27 [m 3,E (.cvt .i64 (T 27)),d 2 (m 28)]))
def w504_B0:WCode:=zd (s (s (O 5 [m 4,m 0,ln 1 6,lt 5 7]) (cc 8 (w .skip) (ee 0))) (s (B 1 (s (s (Q 11 [m 0,m 4,ix 6 11 12,f 4 13,l 1 14,gti 15 0] [16,4,3,0]) (c 16 (O 17 [m 3,m 0,m 4,ix 6 18 19,f 4 20,l 1 21,E (.cvt .u64 (T 22)),ad 17 23,d 3 (m 24)]))) (s (O 25 [m 3,E (.bin .gtr (T 25) (.c (.int .u64 4611686018427387904)))]) (c 26 (r (O 2 [i 4611686018427387905])))))) (O 9 [m 4,adi 9 1,d 4 (m 10)])))
def w504_L0:WCode:=.loop ⟨true,[4,3,0],[]⟩ w504_B0
def w504:WFn:=⟨1,[.tmp 2],zd (s (O 2 [i 0]) (s (O 3 [E (.mv (.c (.int .u64 0)))]) (s (s (O 4 [i 0]) (bk 0 w504_L0 ⟨true,[3],[]⟩)) w504_c0)))⟩
@[simp] theorem w504_E0:ZL w504_L0 w504_B0 ⟨true,[4,3,0],[]⟩:=ck_lp rfl
noncomputable abbrev w504_K0 (C:WProg) (s:WSt):Option AV:=CK C 0 (pureFin [.tmp 2]) [.sq w504_L0,.bk 0 ⟨true,[3],[]⟩,.sq w504_c0] w504_B0 s
def w132:WFn:=⟨4,[.cell 8 2 true,.tmp 9],zd (s (O 8 [d 4 (bx 0),E (.alloc [.int .i64 0,.int .i64 0]),i 0]) (s (Q 15 [h 1 4,m 1,m 2,ca 121 [15,16,17],d 14 (m 18),ex 0 14,ex 1 14,ex 2 14,d 10 (m 19),d 11 (m 20),d 12 (m 21)] [12,11,10,8,4,3]) (s (B 0 (s (O 23 [m 12,nei 23 0,d 22 (m 24)]) (cc 22 (r (O 25 [E (.build [.int .i64 0,.int .i64 0] []),m 12,n (st 2 8 25),d 9 (m 26)])) (s (O 28 [m 3,lti 28 0,m 29,z 30 (m 3),z 30 (gti 31 16),po 30 32,d 27 (m 33)]) (c 27 (r (O 34 [E (.build [.int .i64 0,.int .i64 0] []),n (st 2 8 34),d 9 (i 1)]))))))) (s (Q 35 [m 10,m 11,E (.build [.int .i64 0,.int .i64 0] [(0,1,T 35),(1,1,T 36)]),d 13 (E (.alloc [.int .i64 0,.int .i64 0])),n (st 2 13 37)] [13,11,10,8,4,3]) (s (s (O 38 [h 2 13,E (.build [.int .i64 0,.int .i64 0] []),E (.eqv 4 [0,0] false (T 38) (T 39))]) (c 40 (r (O 41 [h 2 13,n (st 2 8 41),d 9 (i 0)])))) (r (O 42 [m 10,m 3,sb 42 43,E (.mx (N 0) (T 44)),f 0 4,l 1 46,ln 1 47,m 11,m 3,ad 49 50,E (.mn (T 48) (T 51)),E (.build [.int .i64 0,.int .i64 0] [(0,1,T 45),(1,1,T 52)]),n (st 2 8 53),d 9 (i 0)])))))))⟩
def w273_c0:WCode:=zd (r (O 41 [m 9,d 6 (m 41)]))
def w273_B0:WCode:=zd (s (O 21 [lt 20 19]) (s (cc 21 (w .skip) (ee 0)) (s (B 1 (s (Q 22 [m 20,ix 6 18 20,h 6 23,d 11 (E (.alloc [.int .u64 0,.int .u8 0,.str [],.ro 1 [] true,.int .i64 0,.bool false])),d 10 (m 22),n (st 6 11 24)] [20,19,18,11,10,9,7,3,2]) (s (s (O 25 [m 7,m 10,ix 1 25 26,l 1 27,m 2,gt 28 29]) (c 30 (ee 0))) (s (O 31 [f 0 3,l 1 31,f 0 11,f 1 33,l 1 34,ix 9 32 35,f 7 36,l 1 37]) (c 38 (O 39 [m 10,d 9 (m 39)])))))) (O 40 [adi 20 1,d 20 (m 40)]))))
def w273_L0:WCode:=.loop ⟨true,[20,19,18,9,7,3,2],[]⟩ w273_B0
def w273:WFn:=⟨3,[.tmp 6],zd (s (O 3 [bx 0,bx 1,d 6 (i 0)]) (s (O 13 [h 1 4,ca 246 [13],d 12 (m 14),ex 0 12,ex 1 12,d 7 (m 15),d 8 (m 16)]) (s (O 9 [i (-1)]) (s (s (O 17 [f 0 4,l 1 17,ln 1 18,i 0]) (bk 0 w273_L0 ⟨true,[9],[]⟩)) w273_c0))))⟩
@[simp] theorem w273_E0:ZL w273_L0 w273_B0 ⟨true,[20,19,18,9,7,3,2],[]⟩:=ck_lp rfl
noncomputable abbrev w273_K0 (C:WProg) (s:WSt):Option AV:=CK C 0 (pureFin [.tmp 6]) [.sq w273_L0,.bk 0 ⟨true,[9],[]⟩,.sq w273_c0] w273_B0 s
def w426_c0:WCode:=zd (r (O 4 [i (-1)]))
def w426_B0:WCode:=zd (s (O 9 [lt 8 7]) (s (cc 9 (w .skip) (ee 0)) (s (B 1 (s (O 10 [m 8,d 5 (m 10)]) (s (O 11 [m 1,m 0,m 5,ix 1 12 13,l 1 14,E (.callv (T 11) [T 15])]) (c 16 (r (O 17 [m 5,d 4 (m 17)])))))) (O 18 [adi 8 1,d 8 (m 18)]))))
def w426_L0:WCode:=.loop ⟨true,[8,7,1,0],[]⟩ w426_B0
def w426:WFn:=⟨2,[.tmp 4],zd (s (O 4 [i 0]) (s (s (O 6 [m 0,ln 1 6,i 0]) (bk 0 w426_L0 ⟨true,[],[]⟩)) w426_c0))⟩
@[simp] theorem w426_E0:ZL w426_L0 w426_B0 ⟨true,[8,7,1,0],[]⟩:=ck_lp rfl
noncomputable abbrev w426_K0 (C:WProg) (s:WSt):Option AV:=CK C 0 (pureFin [.tmp 4]) [.sq w426_L0,.bk 0 ⟨true,[],[]⟩,.sq w426_c0] w426_B0 s
def w249:WFn:=⟨2,[.tmp 4],zd (s (O 4 [ff]) (r (O 5 [m 0,m 1,ca 402 [5,6],gei 7 0,d 4 (m 8)])))⟩
def w250:WFn:=⟨1,[.tmp 2],zd (s (O 1 [bx 0,ff]) (r (O 3 [f 4 1,l 1 3,lti 4 1,m 5,z 6 (f 4 1),z 6 (l 1 7),z 6 (gti 8 2305843009213693952),po 6 9,d 2 (m 10)])))⟩
def w510_c0:WCode:=zd (r (O 2 [i 1]))
def w510_B0:WCode:=zd (s (s (O 7 [m 3,m 0,ln 0 8,lt 7 9]) (cc 10 (w .skip) (ee 0))) (s (B 1 (s (O 13 [m 0,m 3,E (.idxstr (T 13) (T 14)),E (.bin .lss (T 15) (.c (.int .u8 32))),m 16,z 17 (m 0),z 17 (m 3),z 17 (E (.idxstr (T 18) (T 19))),z 17 (E (.bin .gtr (T 20) (.c (.int .u8 126)))),po 17 21]) (c 22 (r (O 2 [i 0]))))) (O 11 [m 3,adi 11 1,d 3 (m 12)])))
def w510_L0:WCode:=.loop ⟨true,[3,0],[]⟩ w510_B0
def w510:WFn:=⟨1,[.tmp 2],zd (s (O 2 [i 0]) (s (s (Q 4 [m 0,ln 0 4,gti 5 64] [6,0]) (c 6 (r (O 2 [i 0])))) (s (s (O 3 [i 0]) (bk 0 w510_L0 ⟨true,[],[]⟩)) w510_c0)))⟩
@[simp] theorem w510_E0:ZL w510_L0 w510_B0 ⟨true,[3,0],[]⟩:=ck_lp rfl
noncomputable abbrev w510_K0 (C:WProg) (s:WSt):Option AV:=CK C 0 (pureFin [.tmp 2]) [.sq w510_L0,.bk 0 ⟨true,[],[]⟩,.sq w510_c0] w510_B0 s
def w511_c0:WCode:=zd (r (O 2 [i 1]))
def w511_B0:WCode:=zd (s (s (O 13 [m 3,m 0,ln 0 14,lt 13 15]) (cc 16 (w .skip) (ee 0))) (s (B 1 (s (Q 19 [m 0,m 3,E (.idxstr (T 19) (T 20)),d 4 (m 21)] [4,3,0]) (s (O 22 [m 4,E (.bin .geq (T 22) (.c (.int .u8 97))),m 23,y 24 (m 4),y 24 (E (.bin .leq (T 25) (.c (.int .u8 122)))),pa 24 26,m 27,z 28 (m 4),z 28 (E (.bin .geq (T 29) (.c (.int .u8 48)))),z 28 (m 30),y 31 (m 4),y 31 (E (.bin .leq (T 32) (.c (.int .u8 57)))),z 28 (pa 31 33),po 28 34,nt 35]) (c 36 (r (O 2 [i 0])))))) (O 17 [m 3,adi 17 1,d 3 (m 18)])))
def w511_L0:WCode:=.loop ⟨true,[3,0],[]⟩ w511_B0
def w511:WFn:=⟨1,[.tmp 2],zd (s (O 2 [i 0]) (s (s (O 5 [m 0,ln 0 5,lti 6 1,m 7,z 8 (m 0),z 8 (ln 0 9),z 8 (gti 10 16),po 8 11]) (c 12 (r (O 2 [i 0])))) (s (s (O 3 [i 0]) (bk 0 w511_L0 ⟨true,[],[]⟩)) w511_c0)))⟩
@[simp] theorem w511_E0:ZL w511_L0 w511_B0 ⟨true,[3,0],[]⟩:=ck_lp rfl
noncomputable abbrev w511_K0 (C:WProg) (s:WSt):Option AV:=CK C 0 (pureFin [.tmp 2]) [.sq w511_L0,.bk 0 ⟨true,[],[]⟩,.sq w511_c0] w511_B0 s
def w512_c0:WCode:=zd (r (O 2 [i 0]))
def w512_B0:WCode:=zd (s (s (O 19 [m 3,f 3 1,l 1 20,ln 1 21,lt 19 22]) (cc 23 (w .skip) (ee 0))) (s (B 1 (s (O 26 [f 3 1,l 1 26,m 3,ix 1 27 28,l 1 29,ca 557 [30],nt 31]) (c 32 (r (O 2 [i 6]))))) (O 24 [m 3,adi 24 1,d 3 (m 25)])))
def w512_L0:WCode:=.loop ⟨true,[3,1],[]⟩ w512_B0
def w512:WFn:=⟨1,[.tmp 2],zd (s (O 1 [bx 0,i 0]) (s (s (Q 4 [f 0 1,l 1 4,E (.bin .eql (T 5) (.c (.int .u64 0))),m 6,z 7 (f 2 1),z 7 (l 1 8),z 7 (ca 556 [9]),z 7 (nt 10),po 7 11,m 12,z 13 (f 3 1),z 13 (l 1 14),z 13 (ln 1 15),z 13 (gti 16 8),po 13 17] [18,1]) (c 18 (r (O 2 [i 6])))) (s (s (O 3 [i 0]) (bk 0 w512_L0 ⟨true,[],[]⟩)) w512_c0)))⟩
@[simp] theorem w512_E0:ZL w512_L0 w512_B0 ⟨true,[3,1],[]⟩:=ck_lp rfl
noncomputable abbrev w512_K0 (C:WProg) (s:WSt):Option AV:=CK C 0 (pureFin [.tmp 2]) [.sq w512_L0,.bk 0 ⟨true,[],[]⟩,.sq w512_c0] w512_B0 s
def w513_c0:WCode:=zd (r (O 89 [h 6 7,E (.buildS [.int .u8 0,.str [],.str [],.ro 2 [] true,.str [],.ro 6 [] true] 1 [(0,T 89)]),d 4 (m 90)]))
def w513_B0:WCode:=zd (s (s (O 71 [m 8,f 5 2,l 1 72,ln 1 73,lt 71 74]) (cc 75 (w .skip) (ee 3))) (s (B 4 (V 78 [f 5 7,l 1 78,f 5 2,l 1 80,m 8,ix 6 81 82,h 6 83,h 4 3,ca 513 [84,85],E (.app [.int .u8 0,.str [],.str [],.ro 2 [] true,.str [],.ro 6 [] true] 104 false (T 79) (T 86)),f 5 7,n (st 1 88 87)] [(1,8)] ⟨false,[],[]⟩)) (O 76 [m 8,adi 76 1,d 8 (m 77)])))
def w513_L0:WCode:=.loop ⟨true,[8,7,3,2],[]⟩ w513_B0
def w513_c1:WCode:=zd (s (V 62 [f 1 2,l 1 62,f 2 2,l 1 64,f 3 2,l 1 66,h 4 3,ca 559 [67,68],E (.build [.int .u8 0,.str [],.str [],.ro 2 [] true,.str [],.ro 6 [] true] [(0,1,.c (.int .u8 1)),(1,1,T 63),(2,1,T 65),(3,1,T 69)]),d 7 (E (.alloc [.int .u8 0,.str [],.str [],.ro 2 [] true,.str [],.ro 6 [] true])),n (st 6 7 70)] [(1,7),(3,7),(1,9),(3,9),(5,9),(6,9),(7,9)] ⟨false,[],[]⟩) (s (s (Q 8 [i 0] [8,7,3,2]) (bk 3 w513_L0 ⟨true,[7],[]⟩)) w513_c0))
def w513_c2:WCode:=zd (r (O 61 [m 5,d 4 (m 61)]))
def w513_B1:WCode:=zd (s (s (O 32 [m 6,f 3 3,l 1 33,ln 1 34,lt 32 35]) (cc 36 (w .skip) (ee 1))) (s (B 2 (U 39 [m 5,f 1 2,l 1 40,f 3 3,l 1 42,m 6,ix 1 43 44,l 1 45,f 3 2,l 1 47,h 4 3,ca 559 [48,49],f 3 3,l 1 51,m 6,ix 1 52 53,l 1 54,E (.build [.int .u8 0,.str [],.str [],.ro 2 [] true,.str [],.ro 6 [] true] [(0,1,.c (.int .u8 2)),(4,1,T 55)]),E (.buildS [.int .u8 0,.str [],.str [],.ro 2 [] true,.str [],.ro 6 [] true] 1 [(0,T 56)]),E (.build [.int .u8 0,.str [],.str [],.ro 2 [] true,.str [],.ro 6 [] true] [(0,1,.c (.int .u8 1)),(1,1,T 41),(2,1,T 46),(3,1,T 50),(5,1,T 57)]),E (.buildS [.int .u8 0,.str [],.str [],.ro 2 [] true,.str [],.ro 6 [] true] 1 [(0,T 58)]),E (.app [.int .u8 0,.str [],.str [],.ro 2 [] true,.str [],.ro 6 [] true] 104 false (T 39) (T 59)),d 5 (m 60)] [(2,11),(4,11),(7,11),(11,13),(11,16),(2,18),(4,18),(7,18),(9,18),(10,18),(11,18)] [6,5,3,2])) (O 37 [m 6,adi 37 1,d 6 (m 38)])))
def w513_L1:WCode:=.loop ⟨true,[6,5,3,2],[]⟩ w513_B1
def w513:WFn:=⟨2,[.tmp 4],zd (s (O 2 [bx 0,bx 1,E (.mv (.c (.ro 6 [] true)))]) (s (s (O 9 [f 0 2,l 1 9]) (bk 0 (s (O 12 [E (.bin .eql (T 10) (.c (.int .u8 2))),d 11 (m 12)]) (cc 11 (r (O 13 [f 4 2,l 1 13,E (.build [.int .u8 0,.str [],.str [],.ro 2 [] true,.str [],.ro 6 [] true] [(0,1,.c (.int .u8 2)),(4,1,T 14)]),E (.buildS [.int .u8 0,.str [],.str [],.ro 2 [] true,.str [],.ro 6 [] true] 1 [(0,T 15)]),d 4 (m 16)])) (s (O 18 [E (.bin .eql (T 10) (.c (.int .u8 3))),d 17 (m 18)]) (cc 17 (r (O 19 [f 2 3,l 1 19,E (.build [.int .u8 0,.str [],.str [],.ro 2 [] true,.str [],.ro 6 [] true] [(0,1,.c (.int .u8 2)),(4,1,T 20)]),E (.buildS [.int .u8 0,.str [],.str [],.ro 2 [] true,.str [],.ro 6 [] true] 1 [(0,T 21)]),d 4 (m 22)])) (s (O 24 [E (.bin .eql (T 10) (.c (.int .u8 4))),d 23 (m 24)]) (cc 23 (r (Q 25 [f 0 3,l 1 25,ca 558 [26],E (.build [.int .u8 0,.str [],.str [],.ro 2 [] true,.str [],.ro 6 [] true] [(0,1,.c (.int .u8 2)),(4,1,T 27)]),E (.buildS [.int .u8 0,.str [],.str [],.ro 2 [] true,.str [],.ro 6 [] true] 1 [(0,T 28)]),d 4 (m 29)] [4])) (s (O 31 [E (.bin .eql (T 10) (.c (.int .u8 5))),d 30 (m 31)]) (c 30 (s (R 5 [E (.mv (.c (.ro 6 [] true)))] ⟨true,[5,3,2],[(5,6)]⟩) (s (s (O 6 [i 0]) (bk 1 w513_L1 ⟨true,[5],[]⟩)) w513_c2)))))))))) ⟨true,[3,2],[]⟩)) w513_c1))⟩
@[simp] theorem w513_E0:ZL w513_L0 w513_B0 ⟨true,[8,7,3,2],[]⟩:=ck_lp rfl
noncomputable abbrev w513_K0 (C:WProg) (s:WSt):Option AV:=CK C 0 (pureFin [.tmp 4]) [.sq w513_L0,.bk 3 ⟨true,[7],[]⟩,.sq w513_c0] w513_B0 s
@[simp] theorem w513_E1:ZL w513_L1 w513_B1 ⟨true,[6,5,3,2],[]⟩:=ck_lp rfl
noncomputable abbrev w513_K1 (C:WProg) (s:WSt):Option AV:=CK C 0 (pureFin [.tmp 4]) [.sq w513_L1,.bk 1 ⟨true,[5],[]⟩,.sq w513_c2,.bk 0 ⟨true,[3,2],[]⟩,.sq w513_c1] w513_B1 s
def w441:WFn:=⟨1,[.tmp 2],zd (s (O 1 [bx 0,i 0]) (s (s (O 3 [h 6 1,ca 442 [3],eqi 4 0]) (c 5 (r (O 2 [i 14])))) (r (O 2 [i 0]))))⟩
def w442:WFn:=⟨1,[.tmp 2],zd (s (O 1 [bx 0,i 0]) (s (O 4 [h 6 1,E (.call 520 [T 4,N 6]),d 3 (m 5)]) (s (s (O 6 [m 3,gti 6 64]) (c 7 (r (O 2 [i 0])))) (r (O 8 [m 3,d 2 (m 8)])))))⟩
def w404:WFn:=⟨1,[.tmp 2],zd (s (O 1 [bx 0,i 0]) (r (O 3 [E (.call 502 [T 1,.c (.fn 503 [])]),d 2 (m 3)])))⟩
def w405_c0:WCode:=zd (r (O 4 [i (-1)]))
def w405_B0:WCode:=zd (s (O 9 [lt 8 7]) (s (cc 9 (w .skip) (ee 0)) (s (B 1 (s (O 10 [m 8,d 5 (m 10)]) (s (O 11 [m 1,m 0,m 5,ix 9 12 13,h 9 14,E (.callv (T 11) [T 15])]) (c 16 (r (O 17 [m 5,d 4 (m 17)])))))) (O 18 [adi 8 1,d 8 (m 18)]))))
def w405_L0:WCode:=.loop ⟨true,[8,7,1,0],[]⟩ w405_B0
def w405:WFn:=⟨2,[.tmp 4],zd (s (O 4 [i 0]) (s (s (O 6 [m 0,ln 1 6,i 0]) (bk 0 w405_L0 ⟨true,[],[]⟩)) w405_c0))⟩
@[simp] theorem w405_E0:ZL w405_L0 w405_B0 ⟨true,[8,7,1,0],[]⟩:=ck_lp rfl
noncomputable abbrev w405_K0 (C:WProg) (s:WSt):Option AV:=CK C 0 (pureFin [.tmp 4]) [.sq w405_L0,.bk 0 ⟨true,[],[]⟩,.sq w405_c0] w405_B0 s
def w505:WFn:=⟨1,[.tmp 2],zd (s (O 1 [bx 0,i 0]) (s (O 4 [h 6 1,E (.call 550 [T 4,N 6]),d 3 (m 5)]) (s (s (O 6 [f 0 1,l 1 6,E (.bin .neq (T 7) (.c (.int .u8 1))),m 8,z 9 (m 3),z 9 (gti 10 64),po 9 11]) (c 12 (r (O 2 [i 0])))) (r (O 13 [m 3,d 2 (m 13)])))))⟩
def w494:WFn:=⟨1,[.tmp 1],zd (s (O 1 [ff]) (r (O 2 [f 2 0,l 1 2,ln 0 3,lei 4 64,m 5,y 6 (f 2 0),y 6 (l 1 7),y 6 (E (.call 495 [T 8,.c (.fn 496 [])])),y 6 (nt 9),pa 6 10,d 1 (m 11)])))⟩
def w495:WFn:=⟨2,[.tmp 4],zd (s (O 4 [ff]) (r (O 5 [m 0,m 1,ca 543 [5,6],gei 7 0,d 4 (m 8)])))⟩
def w496:WFn:=⟨1,[.tmp 2],zd (s (O 2 [ff]) (r (O 3 [m 0,E (.bin .lss (T 3) (.c (.int .i32 32))),m 4,z 5 (m 0),z 5 (E (.bin .gtr (T 6) (.c (.int .i32 126)))),po 5 7,d 2 (m 8)])))⟩
def w497:WFn:=⟨1,[.tmp 1],zd (s (O 1 [ff]) (r (O 2 [f 3 0,l 1 2,ln 1 3,lei 4 8,m 5,y 6 (f 3 0),y 6 (l 1 7),y 6 (E (.call 498 [T 8,.c (.fn 499 [])])),y 6 (nt 9),pa 6 10,d 1 (m 11)])))⟩
def w498:WFn:=⟨2,[.tmp 4],zd (s (O 4 [ff]) (r (O 5 [m 0,m 1,ca 544 [5,6],gei 7 0,d 4 (m 8)])))⟩
def w499:WFn:=⟨1,[.tmp 2],zd (s (O 2 [ff]) (r (O 3 [m 0,ca 500 [3],nt 4,d 2 (m 5)])))⟩
def w500:WFn:=⟨1,[.tmp 2],zd (s (O 2 [ff]) (s (O 3 [E (.mv (.c (.fn 545 [])))]) (r (O 4 [m 0,E (.bin .neq (T 4) (.c (.str []))),m 5,y 6 (m 0),y 6 (ln 0 7),y 6 (lei 8 16),pa 6 9,m 10,y 11 (m 0),y 11 (m 3),y 11 (ca 495 [12,13]),y 11 (nt 14),pa 11 15,d 2 (m 16)]))))⟩
def w501:WFn:=⟨3,[.cell 6 6 true,.tmp 7],zd (s (O 6 [d 3 (bx 0),d 4 (bx 1),E (.alloc [.int .u8 0,.str [],.str [],.ro 2 [] true,.str [],.ro 6 [] true]),i 0]) (s (s (Q 12 [m 2,lti 12 1,m 13,z 14 (m 2),z 14 (gti 15 64),po 14 16] [17,6,4,3,2]) (c 17 (r (O 18 [E (.build [.int .u8 0,.str [],.str [],.ro 2 [] true,.str [],.ro 6 [] true] []),n (st 6 6 18),d 7 (i 1)])))) (s (s (O 19 [h 6 3,ca 231 [19],d 8 (m 20)]) (s (O 21 [m 8,nei 21 0]) (c 22 (r (O 23 [E (.build [.int .u8 0,.str [],.str [],.ro 2 [] true,.str [],.ro 6 [] true] []),m 8,n (st 6 6 23),d 7 (m 24)]))))) (s (s (O 25 [h 4 4,ca 546 [25],d 9 (m 26)]) (s (O 27 [m 9,nei 27 0]) (c 28 (r (O 29 [E (.build [.int .u8 0,.str [],.str [],.ro 2 [] true,.str [],.ro 6 [] true] []),m 9,n (st 6 6 29),d 7 (m 30)]))))) (s (Q 31 [h 4 4,E (.build [.int .u64 0,.int .u8 0,.str [],.ro 1 [] true] [(0,4,T 31)]),h 6 3,E (.buildS [.int .u8 0,.str [],.str [],.ro 3 [] true,.str [],.ro 6 [] true] 1 [(0,T 33)]),ca 547 [32,34],E (.idxs 6 (T 35) (N 0)),h 6 36,d 10 (E (.alloc [.int .u8 0,.str [],.str [],.ro 2 [] true,.str [],.ro 6 [] true])),n (st 6 10 37)] [10,6,2]) (s (s (O 38 [h 6 10,ca 140 [38],d 11 (m 39)]) (s (O 40 [m 11,eqi 40 0,m 41,z 42 (m 11),z 42 (m 2),z 42 (gt 43 44),po 42 45]) (c 46 (r (O 47 [E (.build [.int .u8 0,.str [],.str [],.ro 2 [] true,.str [],.ro 6 [] true] []),n (st 6 6 47),d 7 (i 14)]))))) (r (O 48 [h 6 10,n (st 6 6 48),d 7 (i 0)]))))))))⟩
def w1100:WFn:=⟨2,[.tmp 4,.tmp 5],zd (s (O 4 [i 0,ff]) (s (s (O 7 [m 0,ca 1102 [7],eqi 8 0]) (c 9 (r (Q 4 [i 0,ff] [5,4])))) (s (O 11 [m 0,m 1,ca 1191 [11,12],d 10 (m 13),ex 0 10,ex 1 10,d 6 (m 14),d 5 (m 15)]) (s (s (O 16 [m 5,nt 16]) (c 17 (r (O 4 [i 0,ff])))) (r (O 18 [m 0,nk 18,f 0 19,l 1 20,m 6,ix 3 21 22,f 2 23,l 1 24,d 4 (m 25),d 5 tt]))))))⟩
def w99:WFn:=⟨3,[.tmp 6],zd (s (O 6 [i 0]) (s (B 0 (s (O 12 [m 0,E (.eqv 2 [] false (T 12) (.c .nilp)),d 11 (m 13)]) (cc 11 (r (O 6 [i 2])) (s (O 15 [m 1,E (.bin .eql (T 15) (.c (.int .u64 0))),d 14 (m 16)]) (c 14 (r (O 6 [i 9]))))))) (s (s (Q 17 [m 0,nk 17,f 0 18,l 1 19,ln 1 20,gti 21 0] [22,2,1,0]) (c 22 (s (O 24 [m 0,m 1,ca 1191 [24,25],d 23 (m 26),ex 0 23,ex 1 23,d 7 (m 27),d 8 (m 28)]) (s (O 29 [m 8]) (c 29 (s (O 30 [m 0,nk 30,f 0 31,l 1 32,m 7,m 2,ix 3 33 34,f 2 36,n (st 1 37 35)]) (r (O 6 [i 0])))))))) (s (s (Q 38 [m 0,nk 38,f 1 39,l 1 40,eqi 41 4096] [42,2,1,0]) (c 42 (r (O 6 [i 3])))) (s (s (V 43 [m 0,nk 43,f 1 44,l 1 45,m 0,nk 47,f 2 48,l 1 49,ad 46 50,adi 51 1,E (.bin .mul (N 4) (T 52)),m 0,nk 54,f 0 55,l 1 56,ln 1 57,E (.bin .mul (N 3) (T 58)),gt 53 59] [] ⟨false,[],[]⟩) (c 60 (Q 61 [m 0,m 0,nk 62,f 1 63,l 1 64,adi 65 1,ca 192 [61,66]] [2,1,0]))) (s (O 69 [m 0,m 1,ca 1191 [69,70],d 68 (m 71),ex 0 68,ex 1 68,d 9 (m 72),d 10 (m 73)]) (s (s (O 74 [m 0,nk 74,f 0 75,l 1 76,m 9,ix 3 77 78,f 0 79,l 1 80,E (.bin .eql (T 81) (.c (.int .u8 2)))]) (c 82 (Q 83 [m 0,nk 83,f 2 84,l 1 85,sbi 86 1,nk 83,f 2 88,n (st 1 89 87)] [9,2,1,0]))) (s (O 90 [m 0,nk 90,f 0 91,l 1 92,m 9,m 1,m 2,E (.build [.int .u8 0,.int .u64 0,.int .i64 0] [(0,1,.c (.int .u8 1)),(1,1,T 95),(2,1,T 96)]),ix 3 93 94,n (st 3 98 97)]) (s (O 99 [m 0,nk 99,f 1 100,l 1 101,adi 102 1,nk 99,f 1 104,n (st 1 105 103)]) (r (O 6 [i 0])))))))))))⟩
def w3003_c0:WCode:=zd (s (V 64 [f 4 5,l 1 64,h 2 3,f 2 5,l 1 67,ca 400 [66,68],E (.callv (T 65) [T 69]),ca 3004 [70],d 12 (E (.alloc [.ro 6 [] true])),n (st 1 12 71)] [(1,5),(1,8),(2,8),(4,8),(5,8),(6,8),(7,8)] ⟨false,[],[]⟩) (s (s (O 72 [h 1 12,ca 227 [72],d 13 (m 73)]) (s (O 74 [m 13,nei 74 0]) (c 75 (r (O 76 [E (.build [.ro 6 [] true] []),m 13,n (st 1 6 76),d 7 (m 77)]))))) (r (O 78 [h 1 12,n (st 1 6 78),d 7 (i 0)]))))
def w3003_B0:WCode:=zd (s (O 35 [lt 34 33]) (s (cc 35 (w .skip) (ee 1)) (s (B 2 (s (O 36 [m 34,ix 4 32 34,h 4 37,d 10 (E (.alloc [.int .u64 0,.int .u8 0,.str [],.ro 1 [] true])),d 9 (m 36),n (st 4 10 38)]) (s (Q 39 [h 4 10,f 0 3,l 1 40,ln 1 41,ca 398 [39,42],d 11 (m 43)] [34,33,32,11,10,9,6,5,3]) (s (s (O 44 [m 11,eqi 44 0]) (c 45 (O 46 [f 3 5,l 1 46,m 9,h 4 10,E (.callv (T 47) [T 48,T 49]),d 11 (m 50)]))) (s (s (O 51 [m 11,eqi 51 0]) (c 52 (O 54 [h 2 3,h 4 10,ca 399 [54,55],d 53 (m 56),ex 0 53,ex 1 53,d 11 (m 58)]))) (s (O 59 [m 11,nei 59 0]) (c 60 (r (O 61 [E (.build [.ro 6 [] true] []),m 11,n (st 1 6 61),d 7 (m 62)]))))))))) (Q 63 [adi 34 1,d 34 (m 63)] [34,33,32,6,5,3]))))
def w3003_L0:WCode:=.loop ⟨true,[34,33,32,6,5,3],[]⟩ w3003_B0
def w3003:WFn:=⟨3,[.cell 6 1 true,.tmp 7],zd (s (O 3 [bx 0,bx 1,bx 2,E (.alloc [.ro 6 [] true]),i 0]) (s (s (O 14 [h 2 3,h 1 4,ca 223 [14,15],d 8 (m 16)]) (s (O 17 [m 8,nei 17 0]) (c 18 (r (O 19 [E (.build [.ro 6 [] true] []),m 8,n (st 1 6 19),d 7 (m 20)]))))) (s (B 0 (s (Q 22 [f 0 5,l 1 22,nt 23,d 21 (m 24)] [21,6,5,3]) (cc 21 (r (O 25 [E (.build [.ro 6 [] true] []),n (st 1 6 25),d 7 (i 4)])) (s (O 27 [f 1 5,l 1 27,gti 28 1024,d 26 (m 29)]) (c 26 (r (O 30 [E (.build [.ro 6 [] true] []),n (st 1 6 30),d 7 (i 3)]))))))) (s (s (O 31 [f 2 5,l 1 31,ln 1 32,i 0]) (bk 1 w3003_L0 ⟨true,[6,5,3],[]⟩)) w3003_c0))))⟩
@[simp] theorem w3003_E0:ZL w3003_L0 w3003_B0 ⟨true,[34,33,32,6,5,3],[]⟩:=ck_lp rfl
def w219:WFn:=⟨3,[.tmp 6],zd (s (O 6 [ff]) (r (O 7 [m 0,gei 7 0,m 8,y 9 (m 0),y 9 (m 2),y 9 (le 10 11),pa 9 12,m 13,y 14 (m 1),y 14 (gei 15 0),pa 14 16,m 17,y 18 (m 1),y 18 (m 2),y 18 (m 0),y 18 (sb 20 21),y 18 (le 19 22),pa 18 23,d 6 (m 24)])))⟩
def w222:WFn:=⟨4,[.tmp 5],zd (s (O 5 [E (.mv (.c (.ro 6 [] true)))]) (r (O 6 [f 0 1,l 1 6,l 1 2,l 1 3,E (.call 221 [T 7,T 8,T 9,.c (.ro 6 [] true)]),d 5 (m 10)])))⟩
def w221:WFn:=⟨4,[.tmp 8],zd (s (O 8 [E (.mv (.c (.ro 6 [] true)))]) (s (Q 10 [m 0,ln 1 10,m 2,sb 11 12,m 3,ln 1 14,ad 13 15,E (.mksl [.int .u64 0,.int .u8 0,.str [],.ro 1 [] true,.int .i64 0,.bool false] 72 (N 0) (T 16)),d 9 (m 17)] [9,3,2,1,0]) (s (O 18 [m 9,m 0,m 1,E (.slice 6 (T 19) none (some (T 20)) none),E (.app [.int .u64 0,.int .u8 0,.str [],.ro 1 [] true,.int .i64 0,.bool false] 72 false (T 18) (T 21)),d 9 (m 22)]) (s (O 23 [m 9,m 3,E (.app [.int .u64 0,.int .u8 0,.str [],.ro 1 [] true,.int .i64 0,.bool false] 72 false (T 23) (T 24)),d 9 (m 25)]) (r (O 26 [m 9,m 0,m 1,m 2,ad 28 29,E (.slice 6 (T 27) (some (T 30)) none none),E (.app [.int .u64 0,.int .u8 0,.str [],.ro 1 [] true,.int .i64 0,.bool false] 72 false (T 26) (T 31)),d 8 (m 32)]))))))⟩
def w322:WFn:=⟨2,[.tmp 4],zd (s (O 4 [d 2 (bx 0),i 0]) (s (s (O 6 [h 1 2,ca 122 [6],d 5 (m 7)]) (s (O 8 [m 5,nei 8 0]) (c 9 (r (O 10 [m 5,d 4 (m 10)]))))) (s (s (O 11 [m 1,lti 11 1,m 12,z 13 (m 1),z 13 (gti 14 2147483648),po 13 15]) (c 16 (r (O 4 [i 1])))) (r (O 4 [i 0])))))⟩
def w313:WFn:=⟨3,[.tmp 6,.tmp 7],zd (s (O 6 [d 3 (bx 0),i 0,i 0]) (s (s (O 9 [h 1 3,m 1,ca 322 [9,10],d 8 (m 11)]) (s (O 12 [m 8,nei 12 0]) (c 13 (r (O 6 [d 14 (m 8),i 0,m 14]))))) (r (O 15 [m 2,h 1 3,ca 111 [16],m 1,sb 17 18,E (.mn (T 15) (T 19)),E (.mx (N 0) (T 20)),d 6 (m 21),d 7 (i 0)]))))⟩
def w411_c0:WCode:=zd (r (O 25 [m 5,d 4 (m 25)]))
def w411_B0:WCode:=zd (s (s (O 9 [m 5,m 6,lt 9 10]) (cc 11 (w .skip) (ee 0))) (B 1 (s (O 12 [m 5,m 6,ad 12 13,E (.cvt .u64 (T 14)),E (.bin .shr (T 15) (.c (.int .u64 1))),E (.cvt .i64 (T 16)),d 7 (m 17)]) (s (O 18 [m 1,m 7,E (.callv (T 18) [T 19]),nt 20]) (cc 21 (O 22 [m 7,adi 22 1,d 5 (m 23)]) (O 24 [m 7,d 6 (m 24)]))))))
def w411_L0:WCode:=.loop ⟨true,[6,5,1],[]⟩ w411_B0
def w411:WFn:=⟨2,[.tmp 4],zd (s (O 4 [i 0]) (s (Q 5 [d 8 (m 0),i 0,m 8] [6,5,1]) (s (bk 0 w411_L0 ⟨true,[5],[]⟩) w411_c0)))⟩
@[simp] theorem w411_E0:ZL w411_L0 w411_B0 ⟨true,[6,5,1],[]⟩:=ck_lp rfl
noncomputable abbrev w411_K0 (C:WProg) (s:WSt):Option AV:=CK C 0 (pureFin [.tmp 4]) [.sq w411_L0,.bk 0 ⟨true,[5],[]⟩,.sq w411_c0] w411_B0 s
def w412:WFn:=⟨3,[.tmp 4],zd (s (O 4 [ff]) (r (V 5 [l 1 1,m 0,adi 6 1,ix 1 5 7,l 1 8,l 1 2,gt 9 10,d 4 (m 11)] [] ⟨false,[],[]⟩)))⟩
def w251_c0:WCode:=zd (r (O 27 [m 0,ca 407 [27],d 2 (m 28)]))
def w251_B0:WCode:=zd (s (s (Q 7 [m 3,m 0,ln 1 8,lt 7 9] [10,3,0]) (cc 10 (w .skip) (ee 0))) (s (B 1 (s (O 13 [m 0,m 3,ix 6 13 14,f 4 15,l 1 16,lti 17 1,m 18,z 19 (m 0),z 19 (m 3),z 19 (ix 6 20 21),z 19 (f 4 22),z 19 (l 1 23),z 19 (gti 24 2305843009213693952),po 19 25]) (c 26 (r (O 2 [i 12]))))) (O 11 [m 3,adi 11 1,d 3 (m 12)])))
def w251_L0:WCode:=.loop ⟨true,[3,0],[]⟩ w251_B0
def w251:WFn:=⟨1,[.tmp 2],zd (s (O 2 [i 0]) (s (s (O 4 [m 0,ln 1 4,gti 5 1024]) (c 6 (r (O 2 [i 3])))) (s (s (O 3 [i 0]) (bk 0 w251_L0 ⟨true,[0],[]⟩)) w251_c0)))⟩
@[simp] theorem w251_E0:ZL w251_L0 w251_B0 ⟨true,[3,0],[]⟩:=ck_lp rfl
noncomputable abbrev w251_K0 (C:WProg) (s:WSt):Option AV:=CK C 0 (pureFin [.tmp 2]) [.sq w251_L0,.bk 0 ⟨true,[0],[]⟩,.sq w251_c0] w251_B0 s
def w252:WFn:=⟨3,[.tmp 6],zd (s (O 6 [i 0]) (s (s (Q 7 [m 0,ca 251 [7],gti 8 0] [9,2,1,0]) (c 9 (r (O 10 [m 0,ca 251 [10],d 6 (m 11)])))) (s (s (O 12 [m 2,lti 12 1,m 13,z 14 (m 2),z 14 (gti 15 2147483648),po 14 16]) (c 17 (r (O 6 [i 1])))) (s (s (O 18 [m 1,lti 18 0,m 19,z 20 (m 1),z 20 (m 0),z 20 (m 2),z 20 (ca 327 [22,23]),z 20 (gt 21 24),po 20 25]) (c 26 (r (O 6 [i 4])))) (r (O 6 [i 0]))))))⟩
def w272:WFn:=⟨4,[.tmp 8],zd (s (O 8 [i 0]) (s (s (O 9 [m 0,m 3,ca 253 [9,10],m 1,m 2,ad 12 13,lt 11 14,m 15,y 16 (m 0),y 16 (m 3),y 16 (adi 18 1),y 16 (ca 253 [17,19]),y 16 (m 1),y 16 (gt 20 21),pa 16 22]) (c 23 (r (O 8 [i 1])))) (r (O 8 [i 0]))))⟩
def w304:WFn:=⟨2,[.tmp 4],zd (s (O 2 [bx 0,bx 1,i 0]) (s (s (O 5 [f 0 2,l 1 5,f 0 3,f 1 7,l 1 8,ix 9 6 9,f 7 10,l 1 11]) (c 12 (r (O 4 [i 1])))) (r (O 4 [i 0]))))⟩
def w121:WFn:=⟨3,[.tmp 6,.tmp 7,.tmp 8],zd (s (Q 6 [d 3 (bx 0),i 0,i 0,i 0] [3,2,1]) (s (s (O 13 [h 1 3,m 1,m 2,ca 248 [13,14,15],d 9 (m 16)]) (s (O 17 [m 9,nei 17 0]) (c 18 (r (O 6 [d 19 (m 9),i 0,i 0,m 19]))))) (s (O 21 [h 1 3,ca 246 [21],d 20 (m 22),ex 0 20,ex 1 20,d 10 (m 23),d 11 (m 24)]) (s (s (O 25 [m 10,ln 1 25,eqi 26 1]) (c 27 (r (Q 6 [i 0,i 0,i 0] [8,7,6])))) (s (O 28 [m 1,m 2,ad 28 29,m 10,m 10,ln 1 32,sbi 33 1,ix 1 31 34,l 1 35,E (.mn (T 30) (T 36)),d 12 (m 37)]) (r (O 38 [m 10,m 1,ca 247 [38,39],m 10,m 12,sbi 42 1,ca 247 [41,43],adi 44 1,d 6 (m 40),d 7 (m 45),d 8 (i 0)])))))))⟩
def w556_c0:WCode:=zd (r (O 2 [tt]))
def w556_B0:WCode:=zd (s (s (O 7 [m 3,m 0,ln 0 8,lt 7 9]) (cc 10 (w .skip) (ee 0))) (s (B 1 (s (O 13 [m 0,m 3,E (.idxstr (T 13) (T 14)),E (.bin .lss (T 15) (.c (.int .u8 32))),m 16,z 17 (m 0),z 17 (m 3),z 17 (E (.idxstr (T 18) (T 19))),z 17 (E (.bin .gtr (T 20) (.c (.int .u8 126)))),po 17 21]) (c 22 (r (O 2 [ff]))))) (O 11 [m 3,adi 11 1,d 3 (m 12)])))
def w556_L0:WCode:=.loop ⟨true,[3,0],[]⟩ w556_B0
def w556:WFn:=⟨1,[.tmp 2],zd (s (O 2 [ff]) (s (s (Q 4 [m 0,ln 0 4,gti 5 64] [6,0]) (c 6 (r (O 2 [ff])))) (s (s (O 3 [i 0]) (bk 0 w556_L0 ⟨true,[],[]⟩)) w556_c0)))⟩
@[simp] theorem w556_E0:ZL w556_L0 w556_B0 ⟨true,[3,0],[]⟩:=ck_lp rfl
noncomputable abbrev w556_K0 (C:WProg) (s:WSt):Option AV:=CK C 0 (pureFin [.tmp 2]) [.sq w556_L0,.bk 0 ⟨true,[],[]⟩,.sq w556_c0] w556_B0 s
def w557_c0:WCode:=zd (r (O 36 [m 0,ln 0 36,gei 37 1,m 38,y 39 (m 0),y 39 (ln 0 40),y 39 (lei 41 16),pa 39 42,d 2 (m 43)]))
def w557_B0:WCode:=zd (s (s (O 4 [m 3,m 0,ln 0 5,lt 4 6,m 7,y 8 (m 3),y 8 (lti 9 17),pa 8 10]) (cc 11 (w .skip) (ee 0))) (s (B 1 (s (Q 14 [m 0,m 3,E (.idxstr (T 14) (T 15)),E (.bin .lss (T 16) (.c (.int .u8 97))),m 17,z 18 (m 0),z 18 (m 3),z 18 (E (.idxstr (T 19) (T 20))),z 18 (E (.bin .gtr (T 21) (.c (.int .u8 122)))),po 18 22,m 23,y 24 (m 0),y 24 (m 3),y 24 (E (.idxstr (T 25) (T 26))),y 24 (E (.bin .lss (T 27) (.c (.int .u8 48)))),y 24 (m 28),z 29 (m 0),z 29 (m 3),z 29 (E (.idxstr (T 30) (T 31))),z 29 (E (.bin .gtr (T 32) (.c (.int .u8 57)))),y 24 (po 29 33),pa 24 34] [35,3,0]) (c 35 (r (O 2 [ff]))))) (O 12 [m 3,adi 12 1,d 3 (m 13)])))
def w557_L0:WCode:=.loop ⟨true,[3,0],[]⟩ w557_B0
def w557:WFn:=⟨1,[.tmp 2],zd (s (O 2 [ff]) (s (s (O 3 [i 0]) (bk 0 w557_L0 ⟨true,[0],[]⟩)) w557_c0))⟩
@[simp] theorem w557_E0:ZL w557_L0 w557_B0 ⟨true,[3,0],[]⟩:=ck_lp rfl
noncomputable abbrev w557_K0 (C:WProg) (s:WSt):Option AV:=CK C 0 (pureFin [.tmp 2]) [.sq w557_L0,.bk 0 ⟨true,[0],[]⟩,.sq w557_c0] w557_B0 s
def w558:WFn:=⟨1,[.tmp 2],zd (s (O 2 [E (.mv (.c (.str [])))]) (s (s (O 3 [m 0,E (.bin .lss (T 3) (.c (.int .u64 10)))]) (c 4 (r (O 5 [m 0,m 0,E (.bin .add (T 6) (.c (.int .u64 1))),E (.slice 0 (.c (.str [48,49,50,51,52,53,54,55,56,57])) (some (T 5)) (some (T 7)) none),d 2 (m 8)])))) (r (O 9 [m 0,E (.bin .quo (T 9) (.c (.int .u64 10))),ca 558 [10],m 0,E (.bin .rem (T 12) (.c (.int .u64 10))),ca 558 [13],ad 11 14,d 2 (m 15)]))))⟩
def w559_c0:WCode:=zd (r (O 50 [m 5,d 4 (m 50)]))
def w559_B0:WCode:=zd (s (s (O 8 [m 6,m 0,ln 1 9,lt 8 10]) (cc 11 (w .skip) (ee 0))) (s (B 1 (s (O 14 [m 0,m 6,ix 3 14 15,f 2 16,l 1 17,d 7 (m 18)]) (s (s (O 19 [m 0,m 6,ix 3 19 20,f 1 21,l 1 22]) (B 2 (s (O 25 [E (.bin .eql (T 23) (.c (.int .u8 1))),d 24 (m 25)]) (cc 24 (O 26 [f 2 3,l 1 26,d 7 (m 27)]) (s (O 29 [E (.bin .eql (T 23) (.c (.int .u8 2))),d 28 (m 29)]) (cc 28 (O 30 [f 0 3,l 1 30,ca 558 [31],d 7 (m 32)]) (s (O 34 [E (.bin .eql (T 23) (.c (.int .u8 3))),d 33 (m 34)]) (c 33 (Q 35 [f 3 3,l 1 35,ln 1 36,E (.cvt .u64 (T 37)),ca 558 [38],d 7 (m 39)] [7,6,5,3,0]))))))))) (O 40 [m 5,m 0,m 6,ix 3 41 42,f 0 43,l 1 44,m 7,E (.build [.str [],.str []] [(0,1,T 45),(1,1,T 46)]),E (.buildS [.str [],.str []] 1 [(0,T 47)]),E (.app [.str [],.str []] 32 false (T 40) (T 48)),d 5 (m 49)])))) (O 12 [m 6,adi 12 1,d 6 (m 13)])))
def w559_L0:WCode:=.loop ⟨true,[6,5,3,0],[]⟩ w559_B0
def w559:WFn:=⟨2,[.tmp 4],zd (s (Q 3 [bx 1,E (.mv (.c (.ro 2 [] true)))] [3,0]) (s (R 5 [E (.mv (.c (.ro 2 [] true)))] ⟨true,[5,3,0],[(5,2)]⟩) (s (s (O 6 [i 0]) (bk 0 w559_L0 ⟨true,[5],[]⟩)) w559_c0)))⟩
@[simp] theorem w559_E0:ZL w559_L0 w559_B0 ⟨true,[6,5,3,0],[]⟩:=ck_lp rfl
noncomputable abbrev w559_K0 (C:WProg) (s:WSt):Option AV:=CK C 0 (pureFin [.tmp 4]) [.sq w559_L0,.bk 0 ⟨true,[5],[]⟩,.sq w559_c0] w559_B0 s
def w520_c0:WCode:=zd (r (O 35 [m 5,d 4 (m 35)]))
def w520_B0:WCode:=zd (s (s (Q 14 [m 6,f 5 2,l 1 15,ln 1 16,lt 14 17,m 18,y 19 (m 5),y 19 (lei 20 64),pa 19 21] [22,6,5,2,1]) (cc 22 (w .skip) (ee 0))) (s (B 1 (O 25 [m 5,f 5 2,l 1 26,m 6,ix 6 27 28,h 6 29,m 1,sbi 31 1,ca 520 [30,32],ad 25 33,d 5 (m 34)])) (O 23 [m 6,adi 23 1,d 6 (m 24)])))
def w520_L0:WCode:=.loop ⟨true,[6,5,2,1],[]⟩ w520_B0
def w520:WFn:=⟨2,[.tmp 4],zd (s (O 4 [d 2 (bx 0),i 0]) (s (s (O 7 [m 1,lti 7 1,m 8,z 9 (h 6 2),z 9 (ca 563 [10]),z 9 (nt 11),po 9 12]) (c 13 (r (O 4 [i 1000])))) (s (O 5 [i 1]) (s (s (O 6 [i 0]) (bk 0 w520_L0 ⟨true,[5],[]⟩)) w520_c0))))⟩
@[simp] theorem w520_E0:ZL w520_L0 w520_B0 ⟨true,[6,5,2,1],[]⟩:=ck_lp rfl
noncomputable abbrev w520_K0 (C:WProg) (s:WSt):Option AV:=CK C 0 (pureFin [.tmp 4]) [.sq w520_L0,.bk 0 ⟨true,[5],[]⟩,.sq w520_c0] w520_B0 s
def w502:WFn:=⟨2,[.tmp 4],zd (s (O 3 [bx 1,i 0]) (s (s (O 7 [m 0,nk 7,f 0 8,l 1 9,E (.bin .neq (T 10) (.c (.int .u8 1)))]) (c 11 (r (O 4 [i 0])))) (s (O 5 [E (.alloc [.int .i64 0]),n (E (.store 1 (T 5) (N 0)))]) (s (O 6 [E (.alloc [.nilf])]) (s (O 12 [E (.mkfn 548 [T 5,T 3,T 6]),n (st 1 6 12)]) (s (s (O 13 [l 1 6,m 0,E (.callv (T 13) [T 14,N 1]),nt 15]) (c 16 (r (O 4 [i 0])))) (r (O 17 [l 1 5,d 4 (m 17)]))))))))⟩
def w503:WFn:=⟨1,[],zd (w .skip)⟩
def w550_c0:WCode:=zd (r (O 35 [m 5,d 4 (m 35)]))
def w550_B0:WCode:=zd (s (s (Q 14 [m 6,f 5 2,l 1 15,ln 1 16,lt 14 17,m 18,y 19 (m 5),y 19 (lei 20 64),pa 19 21] [22,6,5,2,1]) (cc 22 (w .skip) (ee 0))) (s (B 1 (O 25 [m 5,f 5 2,l 1 26,m 6,ix 6 27 28,h 6 29,m 1,sbi 31 1,ca 550 [30,32],ad 25 33,d 5 (m 34)])) (O 23 [m 6,adi 23 1,d 6 (m 24)])))
def w550_L0:WCode:=.loop ⟨true,[6,5,2,1],[]⟩ w550_B0
def w550:WFn:=⟨2,[.tmp 4],zd (s (O 4 [d 2 (bx 0),i 0]) (s (s (O 7 [m 1,lti 7 1,m 8,z 9 (h 6 2),z 9 (ca 586 [10]),z 9 (nt 11),po 9 12]) (c 13 (r (O 4 [i 1000])))) (s (O 5 [i 1]) (s (s (O 6 [i 0]) (bk 0 w550_L0 ⟨true,[5],[]⟩)) w550_c0))))⟩
@[simp] theorem w550_E0:ZL w550_L0 w550_B0 ⟨true,[6,5,2,1],[]⟩:=ck_lp rfl
noncomputable abbrev w550_K0 (C:WProg) (s:WSt):Option AV:=CK C 0 (pureFin [.tmp 4]) [.sq w550_L0,.bk 0 ⟨true,[5],[]⟩,.sq w550_c0] w550_B0 s
def w543:WFn:=⟨2,[.tmp 4],zd (s (O 4 [i 0]) (r (O 5 [m 0,m 1,E (.call 578 [T 5,T 6,.c (.bool true)]),d 4 (m 7)])))⟩
def w544_c0:WCode:=zd (r (O 4 [i (-1)]))
def w544_B0:WCode:=zd (s (O 9 [lt 8 7]) (s (cc 9 (w .skip) (ee 0)) (s (B 1 (s (O 10 [m 8,d 5 (m 10)]) (s (O 11 [m 1,m 0,m 5,ix 1 12 13,l 1 14,E (.callv (T 11) [T 15])]) (c 16 (r (O 17 [m 5,d 4 (m 17)])))))) (O 18 [adi 8 1,d 8 (m 18)]))))
def w544_L0:WCode:=.loop ⟨true,[8,7,1,0],[]⟩ w544_B0
def w544:WFn:=⟨2,[.tmp 4],zd (s (O 4 [i 0]) (s (s (O 6 [m 0,ln 1 6,i 0]) (bk 0 w544_L0 ⟨true,[],[]⟩)) w544_c0))⟩
@[simp] theorem w544_E0:ZL w544_L0 w544_B0 ⟨true,[8,7,1,0],[]⟩:=ck_lp rfl
noncomputable abbrev w544_K0 (C:WProg) (s:WSt):Option AV:=CK C 0 (pureFin [.tmp 4]) [.sq w544_L0,.bk 0 ⟨true,[],[]⟩,.sq w544_c0] w544_B0 s
def w545:WFn:=⟨1,[.tmp 2],zd (s (O 2 [ff]) (r (O 3 [m 0,E (.bin .lss (T 3) (.c (.int .i32 97))),m 4,z 5 (m 0),z 5 (E (.bin .gtr (T 6) (.c (.int .i32 122)))),po 5 7,m 8,y 9 (m 0),y 9 (E (.bin .lss (T 10) (.c (.int .i32 48)))),y 9 (m 11),z 12 (m 0),z 12 (E (.bin .gtr (T 13) (.c (.int .i32 57)))),y 9 (po 12 14),pa 9 15,d 2 (m 16)])))⟩
def w546:WFn:=⟨1,[.tmp 2],zd (s (Q 1 [bx 0,i 0] [1]) (s (s (O 3 [f 0 1,l 1 3,E (.bin .eql (T 4) (.c (.int .u64 0))),m 5,z 6 (f 2 1),z 6 (l 1 7),z 6 (ca 579 [8]),z 6 (nt 9),po 6 10,m 11,z 12 (f 3 1),z 12 (l 1 13),z 12 (ln 1 14),z 12 (gti 15 8),po 12 16,m 17,z 18 (f 3 1),z 18 (l 1 19),z 18 (E (.call 498 [T 20,.c (.fn 580 [])])),po 18 21]) (c 22 (r (O 2 [i 6])))) (r (O 2 [i 0]))))⟩
def w547_c0:WCode:=zd (r (O 81 [m 5,d 4 (m 81)]))
def w547_c1:WCode:=zd (O 80 [adi 12 1,d 12 (m 80)])
def w547_B1:WCode:=zd (s (O 66 [lt 65 64]) (s (cc 66 (w .skip) (ee 3)) (s (B 4 (s (O 67 [ix 1 63 65,l 1 67,d 9 (m 68)]) (U 69 [m 5,h 4 2,h 6 7,m 9,m 9,ca 583 [73],E (.buildS [.int .u8 0,.str [],.str [],.ro 2 [] true,.str [],.ro 6 [] true] 1 [(0,T 74)]),ca 582 [70,71,72,75],E (.buildS [.int .u8 0,.str [],.str [],.ro 2 [] true,.str [],.ro 6 [] true] 1 [(0,T 76)]),E (.app [.int .u8 0,.str [],.str [],.ro 2 [] true,.str [],.ro 6 [] true] 104 false (T 69) (T 77)),d 5 (m 78)] [(1,5),(2,5),(1,6),(2,6)] [65,64,63,12,11,10,7,5,2]))) (O 79 [adi 65 1,d 65 (m 79)]))))
def w547_L1:WCode:=.loop ⟨true,[65,64,63,12,11,10,7,5,2],[]⟩ w547_B1
def w547_B0:WCode:=zd (s (O 13 [lt 12 11]) (s (cc 13 (w .skip) (ee 0)) (s (bk 1 (s (Q 14 [ix 6 10 12,h 6 14,d 7 (E (.alloc [.int .u8 0,.str [],.str [],.ro 3 [] true,.str [],.ro 6 [] true])),n (st 6 7 15)] [12,11,10,7,5,2]) (s (O 16 [f 0 7,l 1 16]) (bk 2 (s (O 19 [E (.bin .eql (T 17) (.c (.int .u8 1))),d 18 (m 19)]) (cc 18 (V 20 [m 5,h 4 2,h 6 7,f 2 7,l 1 23,h 4 2,f 5 7,l 1 26,ca 547 [25,27],ca 582 [21,22,24,28],E (.buildS [.int .u8 0,.str [],.str [],.ro 2 [] true,.str [],.ro 6 [] true] 1 [(0,T 29)]),E (.app [.int .u8 0,.str [],.str [],.ro 2 [] true,.str [],.ro 6 [] true] 104 false (T 20) (T 30)),d 5 (m 31)] [(1,8),(2,8),(4,8)] ⟨false,[],[]⟩) (s (O 33 [E (.bin .eql (T 17) (.c (.int .u8 2))),d 32 (m 33)]) (cc 32 (Q 34 [m 5,f 4 7,l 1 35,ca 583 [36],E (.buildS [.int .u8 0,.str [],.str [],.ro 2 [] true,.str [],.ro 6 [] true] 1 [(0,T 37)]),E (.app [.int .u8 0,.str [],.str [],.ro 2 [] true,.str [],.ro 6 [] true] 104 false (T 34) (T 38)),d 5 (m 39)] [12,11,10,5,2]) (s (O 41 [E (.bin .eql (T 17) (.c (.int .u8 3))),d 40 (m 41)]) (cc 40 (O 42 [m 5,f 0 2,f 2 43,l 1 44,ca 583 [45],E (.buildS [.int .u8 0,.str [],.str [],.ro 2 [] true,.str [],.ro 6 [] true] 1 [(0,T 46)]),E (.app [.int .u8 0,.str [],.str [],.ro 2 [] true,.str [],.ro 6 [] true] 104 false (T 42) (T 47)),d 5 (m 48)]) (s (O 50 [E (.bin .eql (T 17) (.c (.int .u8 4))),d 49 (m 50)]) (cc 49 (O 51 [m 5,f 0 2,f 0 52,l 1 53,ca 584 [54],ca 583 [55],E (.buildS [.int .u8 0,.str [],.str [],.ro 2 [] true,.str [],.ro 6 [] true] 1 [(0,T 56)]),E (.app [.int .u8 0,.str [],.str [],.ro 2 [] true,.str [],.ro 6 [] true] 104 false (T 51) (T 57)),d 5 (m 58)]) (s (O 60 [E (.bin .eql (T 17) (.c (.int .u8 5))),d 59 (m 60)]) (c 59 (s (O 61 [f 0 2,f 3 61,l 1 62,ln 1 63,i 0]) (bk 3 w547_L1 ⟨true,[12,11,10,5,2],[]⟩)))))))))))) ⟨true,[12,11,10,5,2],[]⟩))) ⟨true,[12,11,10,5,2],[]⟩) w547_c1)))
def w547_L0:WCode:=.loop ⟨true,[12,11,10,5,2],[]⟩ w547_B0
def w547:WFn:=⟨2,[.tmp 4],zd (s (O 4 [d 2 (bx 0),E (.mv (.c (.ro 6 [] true)))]) (s (R 5 [E (.mv (.c (.ro 6 [] true)))] ⟨true,[5,2,1],[(5,6)]⟩) (s (s (O 10 [m 1,ln 1 10,i 0]) (bk 0 w547_L0 ⟨true,[5],[]⟩)) w547_c0)))⟩
@[simp] theorem w547_E1:ZL w547_L1 w547_B1 ⟨true,[65,64,63,12,11,10,7,5,2],[]⟩:=ck_lp rfl
noncomputable abbrev w547_K1 (C:WProg) (s:WSt):Option AV:=CK C 0 (pureFin [.tmp 4]) [.sq w547_L1,.bk 3 ⟨true,[12,11,10,5,2],[]⟩,.bk 2 ⟨true,[12,11,10,5,2],[]⟩,.bk 1 ⟨true,[12,11,10,5,2],[]⟩,.sq w547_c1,.sq w547_L0,.bk 0 ⟨true,[5],[]⟩,.sq w547_c0] w547_B1 s
@[simp] theorem w547_E0:ZL w547_L0 w547_B0 ⟨true,[12,11,10,5,2],[]⟩:=ck_lp rfl
noncomputable abbrev w547_K0 (C:WProg) (s:WSt):Option AV:=CK C 0 (pureFin [.tmp 4]) [.sq w547_L0,.bk 0 ⟨true,[5],[]⟩,.sq w547_c0] w547_B0 s
def w140:WFn:=⟨1,[.tmp 2],zd (s (O 1 [bx 0,i 0]) (s (O 6 [h 6 1,ca 282 [6],d 5 (m 7),ex 0 5,ex 1 5,d 3 (m 8),d 4 (m 9)]) (r (O 10 [m 3,d 2 (m 10)]))))⟩
def w102:WFn:=⟨1,[.tmp 2],zd (s (O 2 [i 0]) (s (s (O 3 [m 0,E (.eqv 2 [] false (T 3) (.c .nilp))]) (c 4 (r (O 2 [i 0])))) (r (O 5 [m 0,nk 5,f 1 6,l 1 7,d 2 (m 8)]))))⟩
def w191_B0:WCode:=zd (B 1000000 (s (s (s (Q 18 [m 0,nk 18,f 0 19,l 1 20,m 4,ix 3 21 22,h 3 23,d 7 (E (.alloc [.int .u8 0,.int .u64 0,.int .i64 0])),n (st 3 7 24)] [7,6,4,1,0]) (B 0 (s (O 26 [f 0 7,l 1 26,E (.bin .eql (T 27) (.c (.int .u8 1))),m 28,y 29 (f 1 7),y 29 (l 1 30),y 29 (m 1),y 29 (eq 31 32),pa 29 33,d 25 (m 34)]) (cc 25 (r (O 4 [d 35 (m 4),m 35,tt])) (s (O 37 [f 0 7,l 1 37,E (.bin .eql (T 38) (.c (.int .u8 0))),m 39,y 40 (m 6),y 40 (gei 41 0),pa 40 42,d 36 (m 43)]) (cc 36 (r (O 4 [d 44 (m 6),m 44,ff])) (s (O 46 [f 0 7,l 1 46,E (.bin .eql (T 47) (.c (.int .u8 0))),d 45 (m 48)]) (cc 45 (r (O 4 [d 49 (m 4),m 49,ff])) (s (Q 51 [f 0 7,l 1 51,E (.bin .eql (T 52) (.c (.int .u8 2))),m 53,y 54 (m 6),y 54 (lti 55 0),pa 54 56,d 50 (m 57)] [50,6,4,1,0]) (c 50 (O 58 [m 4,d 6 (m 58)]))))))))))) (s (O 59 [m 4,adi 59 1,m 0,nk 61,f 0 62,l 1 63,ln 1 64,E (.bin .rem (T 60) (T 65)),d 4 (m 66)]) (ee 1000000))) (ee 1000001)))
def w191_L0:WCode:=.loop ⟨true,[6,4,1,0],[]⟩ w191_B0
def w191:WFn:=⟨2,[.tmp 4,.tmp 5],zd (s (O 4 [i 0,ff]) (s (O 6 [i (-1)]) (s (V 8 [m 1,ca 367 [8],m 0,nk 10,f 0 11,l 1 12,ln 1 13,E (.cvt .u64 (T 14)),E (.bin .rem (T 9) (T 15)),E (.cvt .i64 (T 16)),d 4 (m 17)] [(1,5),(1,6)] ⟨false,[],[]⟩) (bk 1000001 w191_L0 ⟨true,[5,4],[]⟩))))⟩
@[simp] theorem w191_E0:ZL w191_L0 w191_B0 ⟨true,[6,4,1,0],[]⟩:=ck_lp rfl
noncomputable abbrev w191_K0 (C:WProg) (s:WSt):Option AV:=CK C 0 (pureFin [.tmp 4,.tmp 5]) [.sq w191_L0,.bk 1000001 ⟨true,[5,4],[]⟩] w191_B0 s
def w192_B0:WCode:=zd (s (O 31 [lt 30 29]) (s (cc 31 (w .skip) (ee 2)) (s (B 3 (s (Q 32 [ix 3 28 30,h 3 32,d 7 (E (.alloc [.int .u8 0,.int .u64 0,.int .i64 0])),n (st 3 7 33)] [30,29,28,7,0]) (s (O 34 [f 0 7,l 1 34,E (.bin .eql (T 35) (.c (.int .u8 1)))]) (c 36 (s (O 38 [m 0,f 1 7,l 1 39,ca 1191 [38,40],d 37 (m 41),ex 0 37,ex 1 37,d 8 (m 42),d 9 (m 43)]) (V 44 [m 0,nk 44,f 0 45,l 1 46,m 8,h 3 7,ix 3 47 48,n (st 3 50 49)] [] ⟨false,[],[]⟩)))))) (O 51 [adi 30 1,d 30 (m 51)]))))
def w192_L0:WCode:=.loop ⟨true,[30,29,28,0],[]⟩ w192_B0
def w192_c0:WCode:=zd (s (O 16 [m 0,nk 16,f 0 17,l 1 18,d 5 (m 19)]) (s (O 20 [m 0,m 4,E (.mksl [.int .u8 0,.int .u64 0,.int .i64 0] 24 (T 21) (T 21)),nk 20,f 0 23,n (st 1 24 22)]) (s (O 25 [m 0,nk 25,f 2 26,n (E (.store 1 (T 27) (N 0)))]) (s (O 28 [m 5,ln 1 28,i 0]) (bk 2 w192_L0 ⟨true,[],[]⟩)))))
def w192_B1:WCode:=zd (s (s (Q 10 [m 4,m 1,E (.bin .mul (N 2) (T 11)),lt 10 12] [13,4,1,0]) (cc 13 (w .skip) (ee 0))) (B 1 (O 14 [m 4,E (.bin .mul (T 14) (N 2)),d 4 (m 15)])))
def w192_L1:WCode:=.loop ⟨true,[4,1,0],[]⟩ w192_B1
def w192:WFn:=⟨2,[],zd (s (O 4 [i 8]) (s (bk 0 w192_L1 ⟨true,[4,0],[]⟩) w192_c0))⟩
@[simp] theorem w192_E0:ZL w192_L0 w192_B0 ⟨true,[30,29,28,0],[]⟩:=ck_lp rfl
@[simp] theorem w192_E1:ZL w192_L1 w192_B1 ⟨true,[4,1,0],[]⟩:=ck_lp rfl
def w226_c0:WCode:=zd (r (O 32 [m 3,E (.build [.ro 6 [] true] [(0,1,T 32)]),n (st 1 2 33)]))
def w226_B0:WCode:=zd (s (O 16 [lt 15 14]) (s (cc 16 (w .skip) (ee 0)) (s (B 1 (s (Q 17 [m 15,ix 6 13 15,h 6 18,d 5 (E (.alloc [.int .u64 0,.int .u8 0,.str [],.ro 1 [] true,.int .i64 0,.bool false])),d 4 (m 17),n (st 6 5 19)] [15,14,13,5,4,3,2]) (s (O 20 [f 0 5,h 4 20,E (.buildS [.int .u64 0,.int .u8 0,.str [],.ro 1 [] true] 1 [(0,T 21)]),ca 340 [22],E (.idxs 4 (T 23) (N 0)),h 4 24,f 0 5,n (st 4 26 25)]) (O 27 [m 3,m 4,h 6 5,ix 6 27 28,n (st 6 30 29)])))) (O 31 [adi 15 1,d 15 (m 31)]))))
def w226_L0:WCode:=.loop ⟨true,[15,14,13,3,2],[]⟩ w226_B0
def w226:WFn:=⟨1,[.cell 2 1 true],zd (s (O 2 [E (.alloc [.ro 6 [] true])]) (s (s (O 6 [m 0,ln 1 6,eqi 7 0]) (c 8 (r (O 9 [E (.build [.ro 6 [] true] []),n (st 1 2 9)])))) (s (O 10 [m 0,ln 1 10,E (.mksl [.int .u64 0,.int .u8 0,.str [],.ro 1 [] true,.int .i64 0,.bool false] 72 (T 11) (T 11)),d 3 (m 12)]) (s (s (O 13 [m 0,ln 1 13,i 0]) (bk 0 w226_L0 ⟨true,[3,2],[]⟩)) w226_c0))))⟩
@[simp] theorem w226_E0:ZL w226_L0 w226_B0 ⟨true,[15,14,13,3,2],[]⟩:=ck_lp rfl
def w400_c0:WCode:=zd (r (O 31 [m 5,d 4 (m 31)]))
def w400_B0:WCode:=zd (s (Q 14 [lt 13 12] [14,13,12,11,5,2]) (s (cc 14 (w .skip) (ee 0)) (s (B 1 (s (O 15 [m 13,ix 4 11 13,h 4 16,d 7 (E (.alloc [.int .u64 0,.int .u8 0,.str [],.ro 1 [] true])),d 6 (m 15),n (st 4 7 17)]) (V 18 [m 5,m 6,h 4 7,f 0 2,l 1 21,f 1 7,l 1 23,ix 9 22 24,f 6 25,l 1 26,E (.build [.int .u64 0,.int .u8 0,.str [],.ro 1 [] true,.int .i64 0,.bool false] [(0,4,T 20),(4,1,T 27)]),ix 6 18 19,n (st 6 29 28)] [] ⟨false,[],[]⟩))) (O 30 [adi 13 1,d 13 (m 30)]))))
def w400_L0:WCode:=.loop ⟨true,[13,12,11,5,2],[]⟩ w400_B0
def w400:WFn:=⟨2,[.tmp 4],zd (s (O 4 [d 2 (bx 0),E (.mv (.c (.ro 6 [] true)))]) (s (O 8 [m 1,ln 1 8,E (.mksl [.int .u64 0,.int .u8 0,.str [],.ro 1 [] true,.int .i64 0,.bool false] 72 (T 9) (T 9)),d 5 (m 10)]) (s (s (O 11 [m 1,ln 1 11,i 0]) (bk 0 w400_L0 ⟨true,[5],[]⟩)) w400_c0)))⟩
@[simp] theorem w400_E0:ZL w400_L0 w400_B0 ⟨true,[13,12,11,5,2],[]⟩:=ck_lp rfl
noncomputable abbrev w400_K0 (C:WProg) (s:WSt):Option AV:=CK C 0 (pureFin [.tmp 4]) [.sq w400_L0,.bk 0 ⟨true,[5],[]⟩,.sq w400_c0] w400_B0 s
def w248:WFn:=⟨3,[.tmp 6],zd (s (O 6 [d 3 (bx 0),i 0]) (s (s (O 8 [h 1 3,ca 122 [8],d 7 (m 9)]) (s (O 10 [m 7,nei 10 0]) (c 11 (r (Q 12 [m 7,d 6 (m 12)] [6]))))) (s (B 0 (s (O 14 [m 2,lti 14 1,m 15,z 16 (m 2),z 16 (gti 17 2147483648),po 16 18,d 13 (m 19)]) (cc 13 (r (O 6 [i 1])) (s (O 21 [m 1,lti 21 0,m 22,z 23 (m 1),z 23 (h 1 3),z 23 (ca 111 [25]),z 23 (m 2),z 23 (sb 26 27),z 23 (E (.mx (N 0) (T 28))),z 23 (gt 24 29),po 23 30,d 20 (m 31)]) (c 20 (r (O 6 [i 4]))))))) (r (O 6 [i 0])))))⟩
def w563_c0:WCode:=zd (r (O 2 [tt]))
def w563_c1:WCode:=zd (O 120 [m 5,adi 120 1,d 5 (m 121)])
def w563_B1:WCode:=zd (s (s (O 122 [m 6,m 5,lt 122 123]) (cc 124 (w .skip) (ee 6))) (s (B 7 (s (U 127 [f 5 1,l 1 127,m 5,ix 6 128 129,f 2 130,l 1 131,E (.bin .neq (T 132) (.c (.str []))),m 133,y 134 (f 5 1),y 134 (l 1 135),y 134 (m 5),y 134 (ix 6 136 137),y 134 (f 2 138),y 134 (l 1 139),y 134 (f 5 1),y 134 (l 1 141),y 134 (m 6),y 134 (ix 6 142 143),y 134 (f 2 144),y 134 (l 1 145),y 134 (eq 140 146),pa 134 147] [] [148,6,5,1]) (c 148 (r (O 2 [ff]))))) (O 125 [m 6,adi 125 1,d 6 (m 126)])))
def w563_L1:WCode:=.loop ⟨true,[6,5,1],[]⟩ w563_B1
def w563_B0:WCode:=zd (s (s (O 115 [m 5,f 5 1,l 1 116,ln 1 117,lt 115 118]) (cc 119 (w .skip) (ee 4))) (s (bk 5 (s (O 6 [i 0]) (bk 6 w563_L1 ⟨true,[5,1],[]⟩)) ⟨true,[5,1],[]⟩) w563_c1))
def w563_L0:WCode:=.loop ⟨true,[5,1],[]⟩ w563_B0
def w563_c2:WCode:=zd (s (s (O 5 [i 0]) (bk 4 w563_L0 ⟨true,[],[]⟩)) w563_c0)
def w563_c3:WCode:=zd (O 77 [m 3,adi 77 1,d 3 (m 78)])
def w563_B3:WCode:=zd (s (s (O 97 [m 4,m 3,lt 97 98]) (cc 99 (w .skip) (ee 2))) (s (B 3 (s (U 102 [f 3 1,l 1 102,m 4,ix 2 103 104,f 0 105,l 1 106,f 3 1,l 1 108,m 3,ix 2 109 110,f 0 111,l 1 112,ge 107 113] [] [114,4,3,1]) (c 114 (r (O 2 [ff]))))) (O 100 [m 4,adi 100 1,d 4 (m 101)])))
def w563_L3:WCode:=.loop ⟨true,[4,3,1],[]⟩ w563_B3
def w563_B2:WCode:=zd (s (s (Q 72 [m 3,f 3 1,l 1 73,ln 1 74,lt 72 75] [76,3,1]) (cc 76 (w .skip) (ee 0))) (s (bk 1 (s (s (O 79 [f 3 1,l 1 79,m 3,ix 2 80 81,f 0 82,l 1 83,ca 557 [84],nt 85,m 86,z 87 (f 3 1),z 87 (l 1 88),z 87 (m 3),z 87 (ix 2 89 90),z 87 (f 1 91),z 87 (l 1 92),z 87 (ca 556 [93]),z 87 (nt 94),po 87 95]) (c 96 (r (O 2 [ff])))) (s (O 4 [i 0]) (bk 2 w563_L3 ⟨true,[3,1],[]⟩))) ⟨true,[3,1],[]⟩) w563_c3))
def w563_L2:WCode:=.loop ⟨true,[3,1],[]⟩ w563_B2
def w563:WFn:=⟨1,[.tmp 2],zd (s (O 1 [bx 0,ff]) (s (s (O 7 [f 0 1,l 1 7,E (.bin .eql (T 8) (.c (.int .u8 2)))]) (c 9 (r (Q 10 [f 4 1,l 1 10,ca 556 [11],m 12,y 13 (f 1 1),y 13 (l 1 14),y 13 (E (.bin .eql (T 15) (.c (.str [])))),pa 13 16,m 17,y 18 (f 2 1),y 18 (l 1 19),y 18 (E (.bin .eql (T 20) (.c (.str [])))),pa 18 21,m 22,y 23 (f 3 1),y 23 (l 1 24),y 23 (ln 1 25),y 23 (eqi 26 0),pa 23 27,m 28,y 29 (f 5 1),y 29 (l 1 30),y 29 (ln 1 31),y 29 (eqi 32 0),pa 29 33,d 2 (m 34)] [2])))) (s (s (Q 35 [f 0 1,l 1 35,E (.bin .neq (T 36) (.c (.int .u8 1))),m 37,z 38 (f 1 1),z 38 (l 1 39),z 38 (ca 557 [40]),z 38 (nt 41),po 38 42,m 43,z 44 (f 2 1),z 44 (l 1 45),z 44 (E (.bin .neq (T 46) (.c (.str [])))),z 44 (m 47),y 48 (f 2 1),y 48 (l 1 49),y 48 (ca 557 [50]),y 48 (nt 51),z 44 (pa 48 52),po 44 53,m 54,z 55 (f 4 1),z 55 (l 1 56),z 55 (E (.bin .neq (T 57) (.c (.str [])))),po 55 58,m 59,z 60 (f 3 1),z 60 (l 1 61),z 60 (ln 1 62),z 60 (gti 63 8),po 60 64,m 65,z 66 (f 5 1),z 66 (l 1 67),z 66 (ln 1 68),z 66 (gti 69 16),po 66 70] [71,1]) (c 71 (r (O 2 [ff])))) (s (s (O 3 [i 0]) (bk 0 w563_L2 ⟨true,[1],[]⟩)) w563_c2))))⟩
@[simp] theorem w563_E1:ZL w563_L1 w563_B1 ⟨true,[6,5,1],[]⟩:=ck_lp rfl
noncomputable abbrev w563_K1 (C:WProg) (s:WSt):Option AV:=CK C 0 (pureFin [.tmp 2]) [.sq w563_L1,.bk 6 ⟨true,[5,1],[]⟩,.bk 5 ⟨true,[5,1],[]⟩,.sq w563_c1,.sq w563_L0,.bk 4 ⟨true,[],[]⟩,.sq w563_c0] w563_B1 s
@[simp] theorem w563_E0:ZL w563_L0 w563_B0 ⟨true,[5,1],[]⟩:=ck_lp rfl
noncomputable abbrev w563_K0 (C:WProg) (s:WSt):Option AV:=CK C 0 (pureFin [.tmp 2]) [.sq w563_L0,.bk 4 ⟨true,[],[]⟩,.sq w563_c0] w563_B0 s
@[simp] theorem w563_E3:ZL w563_L3 w563_B3 ⟨true,[4,3,1],[]⟩:=ck_lp rfl
noncomputable abbrev w563_K3 (C:WProg) (s:WSt):Option AV:=CK C 0 (pureFin [.tmp 2]) [.sq w563_L3,.bk 2 ⟨true,[3,1],[]⟩,.bk 1 ⟨true,[3,1],[]⟩,.sq w563_c3,.sq w563_L2,.bk 0 ⟨true,[1],[]⟩,.sq w563_c2] w563_B3 s
@[simp] theorem w563_E2:ZL w563_L2 w563_B2 ⟨true,[3,1],[]⟩:=ck_lp rfl
noncomputable abbrev w563_K2 (C:WProg) (s:WSt):Option AV:=CK C 0 (pureFin [.tmp 2]) [.sq w563_L2,.bk 0 ⟨true,[1],[]⟩,.sq w563_c2] w563_B2 s
def w548_c0:WCode:=zd (r (O 7 [tt]))
def w548_B0:WCode:=zd (s (O 31 [lt 30 29]) (s (cc 31 (w .skip) (ee 0)) (s (B 1 (s (O 32 [m 30,d 8 (m 32)]) (s (V 33 [l 1 4,m 0,nk 34,f 5 35,l 1 36,m 8,ix 6 37 38,m 1,adi 40 1,E (.callv (T 33) [T 39,T 41]),nt 42] [] ⟨false,[],[]⟩) (c 43 (r (O 7 [ff])))))) (O 44 [adi 30 1,d 30 (m 44)]))))
def w548_L0:WCode:=.loop ⟨true,[30,29,4,1,0],[]⟩ w548_B0
def w548:WFn:=⟨5,[.tmp 7],zd (s (O 7 [ff]) (s (O 9 [l 1 2,adi 9 1,n (st 1 2 10)]) (s (s (O 11 [m 1,gti 11 6,m 12,z 13 (l 1 2),z 13 (gti 14 64),po 13 15,m 16,z 17 (m 0),z 17 (ca 549 [18]),z 17 (nt 19),po 17 20]) (c 21 (r (O 7 [ff])))) (s (O 22 [l 1 3,m 0,E (.callv (T 22) [T 23])]) (s (s (Q 25 [m 0,nk 25,f 5 26,l 1 27,ln 1 28,i 0] [30,29,4,1,0]) (bk 0 w548_L0 ⟨true,[],[]⟩)) w548_c0)))))⟩
@[simp] theorem w548_E0:ZL w548_L0 w548_B0 ⟨true,[30,29,4,1,0],[]⟩:=ck_lp rfl
def w549:WFn:=⟨1,[.tmp 2],zd (s (O 2 [ff]) (s (O 4 [m 0,nk 4,h 6 5,d 3 (E (.alloc [.int .u8 0,.str [],.str [],.ro 3 [] true,.str [],.ro 6 [] true])),n (st 6 3 6)]) (s (s (O 7 [m 0,nk 7,f 0 8,l 1 9]) (B 0 (s (B 5 (s (B 4 (s (B 3 (s (B 2 (s (B 1 (s (s (s (O 12 [E (.bin .eql (T 10) (.c (.int .u8 1))),d 11 (m 12)]) (c 11 (ee 1))) (s (s (O 14 [E (.bin .eql (T 10) (.c (.int .u8 5))),d 13 (m 14)]) (c 13 (ee 2))) (s (s (O 16 [E (.bin .eql (T 10) (.c (.int .u8 2))),d 15 (m 16)]) (c 15 (ee 3))) (s (s (O 18 [E (.bin .eql (T 10) (.c (.int .u8 3))),d 17 (m 18)]) (cc 17 (w .skip) (O 19 [E (.bin .eql (T 10) (.c (.int .u8 4))),d 17 (m 19)]))) (c 17 (ee 4)))))) (ee 5))) (s (s (Q 20 [m 0,nk 20,f 2 21,l 1 22,E (.bin .neq (T 23) (.c (.str []))),m 24,y 25 (m 0),y 25 (nk 26),y 25 (f 2 27),y 25 (l 1 28),y 25 (ca 581 [29]),y 25 (nt 30),pa 25 31,m 32,z 33 (m 0),z 33 (nk 34),z 33 (f 5 35),z 33 (l 1 36),z 33 (ln 1 37),z 33 (gti 38 16),po 33 39] [40,3,0]) (c 40 (r (O 2 [ff])))) (O 41 [f 2 3,n (E (.store 1 (T 41) (.c (.str [])))),f 5 3,n (E (.store 1 (T 42) (.c (.ro 6 [] true))))])))) (s (s (s (Q 43 [m 0,nk 43,f 1 44,l 1 45,ca 581 [46],nt 47,m 48,z 49 (m 0),z 49 (nk 50),z 49 (f 3 51),z 49 (l 1 52),z 49 (ca 585 [53]),z 49 (nt 54),po 49 55] [56,3]) (c 56 (r (O 2 [ff])))) (O 57 [f 1 3,n (E (.store 1 (T 57) (.c (.str [])))),f 3 3,n (E (.store 1 (T 58) (.c (.ro 3 [] true))))])) (ee 0)))) (s (s (s (O 59 [m 0,nk 59,f 4 60,l 1 61,ca 579 [62],nt 63]) (c 64 (r (O 2 [ff])))) (O 65 [f 4 3,n (E (.store 1 (T 65) (.c (.str []))))])) (ee 0)))) (ee 0))) (s (r (O 2 [ff])) (ee 0))))) (r (Q 66 [f 1 3,l 1 66,E (.bin .eql (T 67) (.c (.str []))),m 68,y 69 (f 2 3),y 69 (l 1 70),y 69 (E (.bin .eql (T 71) (.c (.str [])))),pa 69 72,m 73,y 74 (f 4 3),y 74 (l 1 75),y 74 (E (.bin .eql (T 76) (.c (.str [])))),pa 74 77,m 78,y 79 (f 3 3),y 79 (l 1 80),y 79 (ln 1 81),y 79 (eqi 82 0),pa 79 83,m 84,y 85 (f 5 3),y 85 (l 1 86),y 85 (ln 1 87),y 85 (eqi 88 0),pa 85 89,d 2 (m 90)] [2])))))⟩
def w586:WFn:=⟨1,[.tmp 2],zd (s (O 1 [bx 0,ff]) (s (s (O 3 [f 0 1,l 1 3]) (B 0 (s (O 6 [E (.bin .eql (T 4) (.c (.int .u8 1))),d 5 (m 6)]) (cc 5 (r (Q 7 [f 1 1,l 1 7,ca 557 [8],m 9,y 10 (f 2 1),y 10 (l 1 11),y 10 (E (.bin .eql (T 12) (.c (.str [])))),y 10 (m 13),z 14 (f 2 1),z 14 (l 1 15),z 14 (ca 557 [16]),y 10 (po 14 17),pa 10 18,m 19,y 20 (f 3 1),y 20 (l 1 21),y 20 (ca 594 [22]),pa 20 23,m 24,y 25 (f 4 1),y 25 (l 1 26),y 25 (E (.bin .eql (T 27) (.c (.str [])))),pa 25 28,m 29,y 30 (f 5 1),y 30 (l 1 31),y 30 (ln 1 32),y 30 (lei 33 16),pa 30 34,d 2 (m 35)] [2])) (s (O 37 [E (.bin .eql (T 4) (.c (.int .u8 2))),d 36 (m 37)]) (cc 36 (r (Q 38 [f 4 1,l 1 38,ca 556 [39],m 40,y 41 (f 1 1),y 41 (l 1 42),y 41 (E (.bin .eql (T 43) (.c (.str [])))),pa 41 44,m 45,y 46 (f 2 1),y 46 (l 1 47),y 46 (E (.bin .eql (T 48) (.c (.str [])))),pa 46 49,m 50,y 51 (f 3 1),y 51 (l 1 52),y 51 (ln 1 53),y 51 (f 5 1),y 51 (l 1 55),y 51 (ln 1 56),y 51 (ad 54 57),y 51 (eqi 58 0),pa 51 59,d 2 (m 60)] [2])) (s (s (O 62 [E (.bin .eql (T 4) (.c (.int .u8 3))),d 61 (m 62)]) (cc 61 (w .skip) (O 63 [E (.bin .eql (T 4) (.c (.int .u8 4))),d 61 (m 63)]))) (cc 61 (r (Q 64 [f 4 1,l 1 64,E (.bin .eql (T 65) (.c (.str []))),m 66,y 67 (f 1 1),y 67 (l 1 68),y 67 (E (.bin .eql (T 69) (.c (.str [])))),pa 67 70,m 71,y 72 (f 2 1),y 72 (l 1 73),y 72 (E (.bin .eql (T 74) (.c (.str [])))),pa 72 75,m 76,y 77 (f 3 1),y 77 (l 1 78),y 77 (ln 1 79),y 77 (f 5 1),y 77 (l 1 81),y 77 (ln 1 82),y 77 (ad 80 83),y 77 (eqi 84 0),pa 77 85,d 2 (m 86)] [2])) (s (O 88 [E (.bin .eql (T 4) (.c (.int .u8 5))),d 87 (m 88)]) (c 87 (r (Q 89 [f 1 1,l 1 89,ca 557 [90],m 91,y 92 (f 3 1),y 92 (l 1 93),y 92 (ca 594 [94]),pa 92 95,m 96,y 97 (f 2 1),y 97 (l 1 98),y 97 (E (.bin .eql (T 99) (.c (.str [])))),pa 97 100,m 101,y 102 (f 4 1),y 102 (l 1 103),y 102 (E (.bin .eql (T 104) (.c (.str [])))),pa 102 105,m 106,y 107 (f 5 1),y 107 (l 1 108),y 107 (ln 1 109),y 107 (eqi 110 0),pa 107 111,d 2 (m 112)] [2])))))))))))) (r (O 2 [ff]))))⟩
def w578_c0:WCode:=zd (r (O 6 [i (-1)]))
def w578_B0:WCode:=zd (s (O 11 [E (.next (T 10)),ex 0 11]) (s (cc 12 (w .skip) (ee 0)) (B 1 (s (O 13 [ex 1 11,ex 2 11,d 7 (m 13),d 8 (m 14)]) (s (O 15 [m 1,m 8,E (.callv (T 15) [T 16]),m 2,E (.eqv 5 [] false (T 17) (T 18))]) (c 19 (r (O 20 [m 7,d 6 (m 20)]))))))))
def w578_L0:WCode:=.loop ⟨true,[10,2,1],[]⟩ w578_B0
def w578:WFn:=⟨3,[.tmp 6],zd (s (O 6 [i 0]) (s (s (O 9 [m 0,E (.range (T 9))]) (bk 0 w578_L0 ⟨true,[],[]⟩)) w578_c0))⟩
@[simp] theorem w578_E0:ZL w578_L0 w578_B0 ⟨true,[10,2,1],[]⟩:=ck_lp rfl
noncomputable abbrev w578_K0 (C:WProg) (s:WSt):Option AV:=CK C 0 (pureFin [.tmp 6]) [.sq w578_L0,.bk 0 ⟨true,[],[]⟩,.sq w578_c0] w578_B0 s
def w579:WFn:=⟨1,[.tmp 2],zd (s (O 2 [ff]) (r (O 3 [m 0,E (.build [.int .u8 0,.str [],.str [],.ro 2 [] true,.str [],.ro 6 [] true] [(0,1,.c (.int .u8 2)),(4,1,T 3)]),ca 439 [4],eqi 5 0,d 2 (m 6)])))⟩
def w580:WFn:=⟨1,[.tmp 2],zd (s (O 2 [ff]) (r (O 3 [m 0,ca 581 [3],nt 4,d 2 (m 5)])))⟩
def w581:WFn:=⟨1,[.tmp 2],zd (s (O 2 [ff]) (r (O 3 [m 0,E (.build [.int .u8 0,.str [],.str [],.ro 2 [] true,.str [],.ro 6 [] true] [(0,1,.c (.int .u8 1)),(1,1,T 3)]),ca 439 [4],eqi 5 0,d 2 (m 6)])))⟩
def w582:WFn:=⟨4,[.cell 8 6 true],zd (s (O 4 [bx 0,bx 1,d 8 (E (.alloc [.int .u8 0,.str [],.str [],.ro 2 [] true,.str [],.ro 6 [] true]))]) (r (V 9 [f 1 5,l 1 9,m 2,h 4 4,f 3 5,l 1 13,ca 592 [12,14],m 3,ca 593 [16],E (.build [.int .u8 0,.str [],.str [],.ro 2 [] true,.str [],.ro 6 [] true] [(0,1,.c (.int .u8 1)),(1,1,T 10),(2,1,T 11),(3,1,T 15),(5,1,T 17)]),n (st 6 8 18)] [(1,6),(1,8)] ⟨false,[],[]⟩)))⟩
def w583:WFn:=⟨1,[.cell 2 6 true],zd (s (O 2 [E (.alloc [.int .u8 0,.str [],.str [],.ro 2 [] true,.str [],.ro 6 [] true])]) (r (O 3 [m 0,E (.build [.int .u8 0,.str [],.str [],.ro 2 [] true,.str [],.ro 6 [] true] [(0,1,.c (.int .u8 2)),(4,1,T 3)]),n (st 6 2 4)])))⟩
def w584_B0:WCode:=zd (B 1 (s (O 5 [m 4,sbi 5 1,d 4 (m 6)]) (s (O 7 [m 4,m 0,E (.bin .rem (T 8) (.c (.int .u64 10))),E (.idxstr (.c (.str [48,49,50,51,52,53,54,55,56,57])) (T 9)),E (.idxa 20 1 (T 3) (T 7)),n (st 1 11 10)]) (s (O 12 [m 0,E (.bin .quo (T 12) (.c (.int .u64 10))),d 0 (m 13)]) (s (O 14 [m 0,E (.bin .eql (T 14) (.c (.int .u64 0)))]) (c 15 (r (O 16 [m 4,E (.sliceA 20 (T 3) (some (T 16)) none),E (.cvb (T 17)),d 2 (m 18)]))))))))
def w584_L0:WCode:=.loop ⟨true,[4,3,0],[]⟩ w584_B0
def w584:WFn:=⟨1,[.tmp 2],zd (s (O 2 [E (.mv (.c (.str [])))]) (s (O 3 [E (.alloc (rep 20 (.int .u8 0)))]) (s (O 4 [i 20]) (bk 0 w584_L0 ⟨true,[2],[]⟩))))⟩
@[simp] theorem w584_E0:ZL w584_L0 w584_B0 ⟨true,[4,3,0],[]⟩:=ck_lp rfl
noncomputable abbrev w584_K0 (C:WProg) (s:WSt):Option AV:=CK C 0 (pureFin [.tmp 2]) [.sq w584_L0,.bk 0 ⟨true,[2],[]⟩] w584_B0 s
def w282:WFn:=⟨1,[.cell 2 1 false,.cell 3 1 false],zd (s (O 1 [bx 0,E (.alloc [.int .i64 0]),E (.alloc [.int .i64 0])]) (s (O 4 [E (.alloc [.nilf])]) (s (O 5 [E (.mkfn 433 [T 2,T 3,T 4]),n (st 1 4 5)]) (s (s (O 6 [l 1 4,E (.callv (T 6) [T 1,N 1]),nt 7]) (c 8 (r (O 0 [n (E (.store 1 (T 2) (N 0))),n (E (.store 1 (T 3) (N 0)))])))) (r (V 9 [l 1 2,l 1 3,n (st 1 2 9),n (st 1 3 10)] [(1,2)] ⟨false,[],[]⟩))))))⟩
def w367:WFn:=⟨1,[.tmp 2],zd (s (O 2 [E (.mv (.c (.int .u64 0)))]) (s (O 3 [m 0,m 0,E (.bin .shr (T 4) (.c (.int .u64 30))),E (.bin .xor (T 3) (T 5)),E (.bin .mul (T 6) (.c (.int .u64 13787848793156543929))),d 0 (m 7)]) (s (O 8 [m 0,m 0,E (.bin .shr (T 9) (.c (.int .u64 27))),E (.bin .xor (T 8) (T 10)),E (.bin .mul (T 11) (.c (.int .u64 10723151780598845931))),d 0 (m 12)]) (r (O 13 [m 0,m 0,E (.bin .shr (T 14) (.c (.int .u64 31))),E (.bin .xor (T 13) (T 15)),d 2 (m 16)])))))⟩
def w340_c0:WCode:=zd (r (O 23 [m 3,d 2 (m 23)]))
def w340_B0:WCode:=zd (s (O 10 [lt 9 8]) (s (cc 10 (w .skip) (ee 0)) (s (B 1 (s (O 11 [m 9,d 4 (m 11)]) (O 12 [m 3,m 4,m 3,m 4,ix 4 14 15,f 3 16,l 1 17,ca 460 [18],ix 4 12 13,f 3 20,n (st 1 21 19)]))) (O 22 [adi 9 1,d 9 (m 22)]))))
def w340_L0:WCode:=.loop ⟨true,[9,8,3],[]⟩ w340_B0
def w340:WFn:=⟨1,[.tmp 2],zd (s (O 2 [E (.mv (.c (.ro 4 [] true)))]) (s (Q 5 [m 0,ca 459 [5],d 3 (m 6)] [3]) (s (s (O 7 [m 3,ln 1 7,i 0]) (bk 0 w340_L0 ⟨true,[3],[]⟩)) w340_c0)))⟩
@[simp] theorem w340_E0:ZL w340_L0 w340_B0 ⟨true,[9,8,3],[]⟩:=ck_lp rfl
def w585_c0:WCode:=zd (r (O 2 [tt]))
def w585_B0:WCode:=zd (s (O 11 [lt 10 9]) (s (cc 11 (w .skip) (ee 0)) (s (B 1 (s (O 12 [m 10,ix 3 8 10,h 3 13,d 4 (E (.alloc [.str [],.int .u8 0,.str []])),d 3 (m 12),n (st 3 4 14)]) (s (U 15 [f 0 4,l 1 15,ca 581 [16],nt 17,m 18,z 19 (f 1 4),z 19 (l 1 20),z 19 (E (.bin .gtr (T 21) (.c (.int .u8 3)))),po 19 22,m 23,z 24 (f 2 4),z 24 (l 1 25),z 24 (ca 579 [26]),z 24 (nt 27),po 24 28,m 29,z 30 (f 1 4),z 30 (l 1 31),z 30 (E (.bin .gtr (T 32) (.c (.int .u8 0)))),z 30 (m 33),y 34 (f 2 4),y 34 (l 1 35),y 34 (E (.bin .neq (T 36) (.c (.str [])))),z 30 (pa 34 37),po 30 38,m 39,z 40 (m 3),z 40 (gti 41 0),z 40 (m 42),y 43 (f 0 4),y 43 (l 1 44),y 43 (m 0),y 43 (m 3),y 43 (sbi 47 1),y 43 (ix 3 46 48),y 43 (f 0 49),y 43 (l 1 50),y 43 (le 45 51),z 40 (pa 43 52),po 40 53] [] [54,10,9,8,0]) (c 54 (r (O 2 [ff])))))) (O 55 [adi 10 1,d 10 (m 55)]))))
def w585_L0:WCode:=.loop ⟨true,[10,9,8,0],[]⟩ w585_B0
def w585:WFn:=⟨1,[.tmp 2],zd (s (O 2 [ff]) (s (s (O 5 [m 0,ln 1 5,gti 6 8]) (c 7 (r (O 2 [ff])))) (s (s (O 8 [m 0,ln 1 8,i 0]) (bk 0 w585_L0 ⟨true,[],[]⟩)) w585_c0)))⟩
@[simp] theorem w585_E0:ZL w585_L0 w585_B0 ⟨true,[10,9,8,0],[]⟩:=ck_lp rfl
noncomputable abbrev w585_K0 (C:WProg) (s:WSt):Option AV:=CK C 0 (pureFin [.tmp 2]) [.sq w585_L0,.bk 0 ⟨true,[],[]⟩,.sq w585_c0] w585_B0 s
def w594_c0:WCode:=zd (r (O 2 [tt]))
def w594_B0:WCode:=zd (s (s (O 8 [m 3,m 0,ln 1 9,lt 8 10]) (cc 11 (w .skip) (ee 0))) (s (B 1 (s (O 14 [m 0,m 3,ix 3 14 15,h 3 16,d 4 (E (.alloc [.str [],.int .u8 0,.str []])),n (st 3 4 17)]) (s (U 18 [f 0 4,l 1 18,ca 557 [19],nt 20,m 21,z 22 (f 1 4),z 22 (l 1 23),z 22 (E (.bin .gtr (T 24) (.c (.int .u8 3)))),po 22 25,m 26,z 27 (f 2 4),z 27 (l 1 28),z 27 (ca 556 [29]),z 27 (nt 30),po 27 31,m 32,z 33 (f 1 4),z 33 (l 1 34),z 33 (E (.bin .neq (T 35) (.c (.int .u8 0)))),z 33 (m 36),y 37 (f 2 4),y 37 (l 1 38),y 37 (E (.bin .neq (T 39) (.c (.str [])))),z 33 (pa 37 40),po 33 41,m 42,z 43 (m 3),z 43 (gti 44 0),z 43 (m 45),y 46 (m 0),y 46 (m 3),y 46 (sbi 48 1),y 46 (ix 3 47 49),y 46 (f 0 50),y 46 (l 1 51),y 46 (f 0 4),y 46 (l 1 53),y 46 (ge 52 54),z 43 (pa 46 55),po 43 56] [] [57,3,0]) (c 57 (r (O 2 [ff])))))) (O 12 [m 3,adi 12 1,d 3 (m 13)])))
def w594_L0:WCode:=.loop ⟨true,[3,0],[]⟩ w594_B0
def w594:WFn:=⟨1,[.tmp 2],zd (s (O 2 [ff]) (s (s (O 5 [m 0,ln 1 5,gti 6 8]) (c 7 (r (O 2 [ff])))) (s (s (O 3 [i 0]) (bk 0 w594_L0 ⟨true,[],[]⟩)) w594_c0)))⟩
@[simp] theorem w594_E0:ZL w594_L0 w594_B0 ⟨true,[3,0],[]⟩:=ck_lp rfl
noncomputable abbrev w594_K0 (C:WProg) (s:WSt):Option AV:=CK C 0 (pureFin [.tmp 2]) [.sq w594_L0,.bk 0 ⟨true,[],[]⟩,.sq w594_c0] w594_B0 s
def w439:WFn:=⟨1,[.tmp 2],zd (s (O 1 [bx 0,i 0]) (s (s (O 3 [h 6 1,ca 140 [3],eqi 4 0]) (c 5 (r (O 2 [i 14])))) (r (O 2 [i 0]))))⟩
def w592_c0:WCode:=zd (r (O 44 [m 5,d 4 (m 44)]))
def w592_B0:WCode:=zd (s (O 14 [lt 13 12]) (s (cc 14 (w .skip) (ee 0)) (s (B 1 (s (O 15 [m 13,ix 3 11 13,h 3 16,d 7 (E (.alloc [.str [],.int .u8 0,.str []])),d 6 (m 15),n (st 3 7 17)]) (U 18 [m 5,m 6,f 0 7,l 1 20,f 2 7,l 1 22,f 0 2,f 2 24,l 1 25,f 0 2,f 0 27,l 1 28,ca 584 [29],f 0 2,f 3 31,l 1 32,ln 1 33,E (.cvt .u64 (T 34)),ca 584 [35],E (.build [.str [],.str [],.str [],.str []] [(0,1,T 23),(1,1,T 26),(2,1,T 30),(3,1,T 36)]),f 1 7,l 1 38,E (.idxv 4 1 false (T 37) (T 39)),E (.build [.str [],.str []] [(0,1,T 21),(1,1,T 40)]),ix 2 18 19,n (st 2 42 41)] [(3,12),(5,12),(8,12),(12,15),(12,16),(3,18),(5,18),(8,18),(12,21),(18,21)] [13,12,11,5,2]))) (O 43 [adi 13 1,d 13 (m 43)]))))
def w592_L0:WCode:=.loop ⟨true,[13,12,11,5,2],[]⟩ w592_B0
def w592:WFn:=⟨2,[.tmp 4],zd (s (O 4 [d 2 (bx 0),E (.mv (.c (.ro 2 [] true)))]) (s (O 8 [m 1,ln 1 8,E (.mksl [.str [],.str []] 32 (T 9) (T 9)),d 5 (m 10)]) (s (s (O 11 [m 1,ln 1 11,i 0]) (bk 0 w592_L0 ⟨true,[5],[]⟩)) w592_c0)))⟩
@[simp] theorem w592_E0:ZL w592_L0 w592_B0 ⟨true,[13,12,11,5,2],[]⟩:=ck_lp rfl
noncomputable abbrev w592_K0 (C:WProg) (s:WSt):Option AV:=CK C 0 (pureFin [.tmp 4]) [.sq w592_L0,.bk 0 ⟨true,[5],[]⟩,.sq w592_c0] w592_B0 s
def w593:WFn:=⟨1,[.tmp 2],zd (s (O 2 [E (.mv (.c (.ro 6 [] true)))]) (r (O 3 [m 0,m 0,ln 1 4,m 0,ln 1 6,E (.slice 6 (T 3) none (some (T 5)) (some (T 7))),d 2 (m 8)])))⟩
def w433_c0:WCode:=zd (r (O 7 [tt]))
def w433_B0:WCode:=zd (s (O 31 [lt 30 29]) (s (cc 31 (w .skip) (ee 0)) (s (B 1 (s (O 32 [m 30,d 8 (m 32)]) (s (V 33 [l 1 4,m 0,nk 34,f 5 35,l 1 36,m 8,ix 6 37 38,m 1,adi 40 1,E (.callv (T 33) [T 39,T 41]),nt 42] [] ⟨false,[],[]⟩) (c 43 (r (O 7 [ff])))))) (O 44 [adi 30 1,d 30 (m 44)]))))
def w433_L0:WCode:=.loop ⟨true,[30,29,4,1,0],[]⟩ w433_B0
def w433:WFn:=⟨5,[.tmp 7],zd (s (O 7 [ff]) (s (O 9 [l 1 2,adi 9 1,n (st 1 2 10)]) (s (O 11 [l 1 3,m 1,E (.mx (T 11) (T 12)),n (st 1 3 13)]) (s (s (O 14 [m 1,gti 14 6,m 15,z 16 (l 1 2),z 16 (gti 17 64),po 16 18,m 19,z 20 (m 0),z 20 (ca 434 [21]),z 20 (nt 22),po 20 23]) (c 24 (r (O 7 [ff])))) (s (s (Q 25 [m 0,nk 25,f 5 26,l 1 27,ln 1 28,i 0] [30,29,4,1,0]) (bk 0 w433_L0 ⟨true,[],[]⟩)) w433_c0)))))⟩
@[simp] theorem w433_E0:ZL w433_L0 w433_B0 ⟨true,[30,29,4,1,0],[]⟩:=ck_lp rfl
def w434_c0:WCode:=zd (r (O 2 [tt]))
def w434_B0:WCode:=zd (s (Q 143 [lt 142 141] [143,142,141,140,0]) (s (cc 143 (w .skip) (ee 2)) (s (B 3 (s (O 144 [m 142,ix 6 140 142,h 6 145,d 6 (E (.alloc [.int .u8 0,.str [],.str [],.ro 2 [] true,.str [],.ro 6 [] true])),d 5 (m 144),n (st 6 6 146)]) (s (O 147 [f 2 6,l 1 147,E (.bin .neq (T 148) (.c (.str []))),m 149,y 150 (m 0),y 150 (nk 151),y 150 (f 5 152),y 150 (l 1 153),y 150 (m 5),y 150 (E (.slice 6 (T 154) none (some (T 155)) none)),y 150 (E (.mkfn 519 [T 6])),y 150 (ca 518 [156,157]),pa 150 158]) (c 159 (r (O 2 [ff])))))) (O 160 [adi 142 1,d 142 (m 160)]))))
def w434_L0:WCode:=.loop ⟨true,[142,141,140,0],[]⟩ w434_B0
def w434_c1:WCode:=zd (s (s (O 137 [m 0,nk 137,f 5 138,l 1 139,ln 1 140,i 0]) (bk 2 w434_L0 ⟨true,[],[]⟩)) w434_c0)
def w434_B1:WCode:=zd (s (O 104 [lt 103 102]) (s (cc 104 (w .skip) (ee 0)) (s (B 1 (s (O 105 [m 103,ix 2 101 103,h 2 106,d 4 (E (.alloc [.str [],.str []])),d 3 (m 105),n (st 2 4 107)]) (s (U 108 [f 0 4,l 1 108,ca 517 [109],nt 110,m 111,z 112 (f 1 4),z 112 (l 1 113),z 112 (ca 516 [114]),z 112 (nt 115),po 112 116,m 117,z 118 (m 3),z 118 (gti 119 0),z 118 (m 120),y 121 (f 0 4),y 121 (l 1 122),y 121 (m 0),y 121 (nk 124),y 121 (f 3 125),y 121 (l 1 126),y 121 (m 3),y 121 (sbi 128 1),y 121 (ix 2 127 129),y 121 (f 0 130),y 121 (l 1 131),y 121 (le 123 132),z 118 (pa 121 133),po 118 134] [] [135,103,102,101,0]) (c 135 (r (O 2 [ff])))))) (O 136 [adi 103 1,d 103 (m 136)]))))
def w434_L1:WCode:=.loop ⟨true,[103,102,101,0],[]⟩ w434_B1
def w434:WFn:=⟨1,[.tmp 2],zd (s (O 2 [ff]) (s (s (O 7 [m 0,nk 7,f 0 8,l 1 9,E (.bin .eql (T 10) (.c (.int .u8 2)))]) (c 11 (r (Q 12 [m 0,nk 12,f 4 13,l 1 14,ca 516 [15],m 16,y 17 (m 0),y 17 (nk 18),y 17 (f 1 19),y 17 (l 1 20),y 17 (E (.bin .eql (T 21) (.c (.str [])))),pa 17 22,m 23,y 24 (m 0),y 24 (nk 25),y 24 (f 2 26),y 24 (l 1 27),y 24 (E (.bin .eql (T 28) (.c (.str [])))),pa 24 29,m 30,y 31 (m 0),y 31 (nk 32),y 31 (f 3 33),y 31 (l 1 34),y 31 (ln 1 35),y 31 (eqi 36 0),pa 31 37,m 38,y 39 (m 0),y 39 (nk 40),y 39 (f 5 41),y 39 (l 1 42),y 39 (ln 1 43),y 39 (eqi 44 0),pa 39 45,d 2 (m 46)] [2])))) (s (s (Q 47 [m 0,nk 47,f 0 48,l 1 49,E (.bin .neq (T 50) (.c (.int .u8 1))),m 51,z 52 (m 0),z 52 (nk 53),z 52 (f 1 54),z 52 (l 1 55),z 52 (ca 517 [56]),z 52 (nt 57),po 52 58,m 59,z 60 (m 0),z 60 (nk 61),z 60 (f 2 62),z 60 (l 1 63),z 60 (E (.bin .neq (T 64) (.c (.str [])))),z 60 (m 65),y 66 (m 0),y 66 (nk 67),y 66 (f 2 68),y 66 (l 1 69),y 66 (ca 517 [70]),y 66 (nt 71),z 60 (pa 66 72),po 60 73,m 74,z 75 (m 0),z 75 (nk 76),z 75 (f 4 77),z 75 (l 1 78),z 75 (E (.bin .neq (T 79) (.c (.str [])))),po 75 80,m 81,z 82 (m 0),z 82 (nk 83),z 82 (f 3 84),z 82 (l 1 85),z 82 (ln 1 86),z 82 (gti 87 8),po 82 88,m 89,z 90 (m 0),z 90 (nk 91),z 90 (f 5 92),z 90 (l 1 93),z 90 (ln 1 94),z 90 (gti 95 16),po 90 96] [97,0]) (c 97 (r (O 2 [ff])))) (s (s (O 98 [m 0,nk 98,f 3 99,l 1 100,ln 1 101,i 0]) (bk 0 w434_L1 ⟨true,[0],[]⟩)) w434_c1))))⟩
@[simp] theorem w434_E0:ZL w434_L0 w434_B0 ⟨true,[142,141,140,0],[]⟩:=ck_lp rfl
noncomputable abbrev w434_K0 (C:WProg) (s:WSt):Option AV:=CK C 0 (pureFin [.tmp 2]) [.sq w434_L0,.bk 2 ⟨true,[],[]⟩,.sq w434_c0] w434_B0 s
@[simp] theorem w434_E1:ZL w434_L1 w434_B1 ⟨true,[103,102,101,0],[]⟩:=ck_lp rfl
noncomputable abbrev w434_K1 (C:WProg) (s:WSt):Option AV:=CK C 0 (pureFin [.tmp 2]) [.sq w434_L1,.bk 0 ⟨true,[0],[]⟩,.sq w434_c1] w434_B1 s
def w459:WFn:=⟨1,[.tmp 2],zd (s (O 2 [E (.mv (.c (.ro 4 [] true)))]) (s (s (O 4 [m 0,ln 1 4,eqi 5 0]) (c 6 (r (O 2 [E (.mv (.c (.ro 4 [] true)))])))) (s (O 7 [m 0,ln 1 7,E (.mksl [.int .u64 0,.int .u8 0,.str [],.ro 1 [] true] 56 (T 8) (T 8)),d 3 (m 9)]) (s (O 10 [m 3,m 0,E (.cpy 4 (T 10) (T 11))]) (r (O 13 [m 3,d 2 (m 13)]))))))⟩
def w460:WFn:=⟨1,[.tmp 2],zd (s (O 2 [E (.mv (.c (.ro 1 [] true)))]) (s (s (O 4 [m 0,ln 1 4,eqi 5 0]) (c 6 (r (O 2 [E (.mv (.c (.ro 1 [] true)))])))) (s (O 7 [m 0,ln 1 7,E (.mksl [.str []] 16 (T 8) (T 8)),d 3 (m 9)]) (s (O 10 [m 3,m 0,E (.cpy 1 (T 10) (T 11))]) (r (O 13 [m 3,d 2 (m 13)]))))))⟩
def w516:WFn:=⟨1,[.tmp 2],zd (s (O 2 [ff]) (r (O 3 [m 0,ln 0 3,lei 4 64,m 5,y 6 (m 0),y 6 (E (.call 543 [T 7,.c (.fn 560 [])])),y 6 (lti 8 0),pa 6 9,d 2 (m 10)])))⟩
def w517_c0:WCode:=zd (r (O 2 [tt]))
def w517_B0:WCode:=zd (s (O 15 [lt 14 13]) (s (cc 15 (w .skip) (ee 0)) (s (B 1 (s (O 16 [m 14,d 3 (m 16)]) (s (O 17 [m 0,m 3,E (.idxstr (T 17) (T 18)),ca 561 [19],nt 20]) (c 21 (r (O 2 [ff])))))) (O 22 [adi 14 1,d 14 (m 22)]))))
def w517_L0:WCode:=.loop ⟨true,[14,13,0],[]⟩ w517_B0
def w517:WFn:=⟨1,[.tmp 2],zd (s (O 2 [ff]) (s (s (Q 4 [m 0,ln 0 4,lti 5 1,m 6,z 7 (m 0),z 7 (ln 0 8),z 7 (gti 9 16),po 7 10] [11,0]) (c 11 (r (O 2 [ff])))) (s (s (O 12 [m 0,ln 0 12,i 0]) (bk 0 w517_L0 ⟨true,[],[]⟩)) w517_c0)))⟩
@[simp] theorem w517_E0:ZL w517_L0 w517_B0 ⟨true,[14,13,0],[]⟩:=ck_lp rfl
noncomputable abbrev w517_K0 (C:WProg) (s:WSt):Option AV:=CK C 0 (pureFin [.tmp 2]) [.sq w517_L0,.bk 0 ⟨true,[],[]⟩,.sq w517_c0] w517_B0 s
def w518:WFn:=⟨2,[.tmp 4],zd (s (O 4 [ff]) (r (O 5 [m 0,m 1,ca 562 [5,6],gei 7 0,d 4 (m 8)])))⟩
def w519:WFn:=⟨2,[.tmp 3],zd (s (O 2 [bx 0,ff]) (r (O 4 [f 2 2,l 1 4,f 2 1,l 1 6,eq 5 7,d 3 (m 8)])))⟩
def w560:WFn:=⟨1,[.tmp 2],zd (s (O 2 [ff]) (r (O 3 [m 0,E (.bin .lss (T 3) (.c (.int .i32 32))),m 4,z 5 (m 0),z 5 (E (.bin .gtr (T 6) (.c (.int .i32 126)))),po 5 7,d 2 (m 8)])))⟩
def w561:WFn:=⟨1,[.tmp 2],zd (s (O 2 [ff]) (r (O 3 [m 0,E (.bin .geq (T 3) (.c (.int .u8 97))),m 4,y 5 (m 0),y 5 (E (.bin .leq (T 6) (.c (.int .u8 122)))),pa 5 7,m 8,z 9 (m 0),z 9 (E (.bin .geq (T 10) (.c (.int .u8 48)))),z 9 (m 11),y 12 (m 0),y 12 (E (.bin .leq (T 13) (.c (.int .u8 57)))),z 9 (pa 12 14),po 9 15,d 2 (m 16)])))⟩
def w562_c0:WCode:=zd (r (O 4 [i (-1)]))
def w562_B0:WCode:=zd (s (O 9 [lt 8 7]) (s (cc 9 (w .skip) (ee 0)) (s (B 1 (s (O 10 [m 8,d 5 (m 10)]) (s (O 11 [m 1,m 0,m 5,ix 6 12 13,h 6 14,E (.callv (T 11) [T 15])]) (c 16 (r (O 17 [m 5,d 4 (m 17)])))))) (O 18 [adi 8 1,d 8 (m 18)]))))
def w562_L0:WCode:=.loop ⟨true,[8,7,1,0],[]⟩ w562_B0
def w562:WFn:=⟨2,[.tmp 4],zd (s (O 4 [i 0]) (s (s (O 6 [m 0,ln 1 6,i 0]) (bk 0 w562_L0 ⟨true,[],[]⟩)) w562_c0))⟩
@[simp] theorem w562_E0:ZL w562_L0 w562_B0 ⟨true,[8,7,1,0],[]⟩:=ck_lp rfl
noncomputable abbrev w562_K0 (C:WProg) (s:WSt):Option AV:=CK C 0 (pureFin [.tmp 4]) [.sq w562_L0,.bk 0 ⟨true,[],[]⟩,.sq w562_c0] w562_B0 s
def tree:WTree:=(.node (.node (.node (.node (.node (.node (.node (.node .leaf 0 w0 .leaf) 97 w97 .leaf) 99 w99 (.node (.node .leaf 102 w102 .leaf) 111 w111 .leaf)) 112 w112 (.node (.node (.node .leaf 115 w115 .leaf) 120 w120 .leaf) 121 w121 (.node .leaf 122 w122 .leaf))) 126 w126 (.node (.node (.node (.node .leaf 130 w130 .leaf) 131 w131 .leaf) 132 w132 (.node (.node .leaf 133 w133 .leaf) 135 w135 .leaf)) 137 w137 (.node (.node (.node .leaf 140 w140 .leaf) 149 w149 .leaf) 160 w160 (.node .leaf 161 w161 .leaf)))) 172 w172 (.node (.node (.node (.node (.node .leaf 173 w173 .leaf) 174 w174 .leaf) 175 w175 (.node (.node .leaf 176 w176 .leaf) 178 w178 .leaf)) 191 w191 (.node (.node (.node .leaf 192 w192 .leaf) 201 w201 .leaf) 219 w219 (.node .leaf 221 w221 .leaf))) 222 w222 (.node (.node (.node (.node .leaf 223 w223 .leaf) 224 w224 .leaf) 225 w225 (.node (.node .leaf 226 w226 .leaf) 227 w227 .leaf)) 230 w230 (.node (.node (.node .leaf 231 w231 .leaf) 232 w232 .leaf) 235 w235 (.node .leaf 236 w236 .leaf))))) 239 w239 (.node (.node (.node (.node (.node (.node .leaf 240 w240 .leaf) 246 w246 .leaf) 247 w247 (.node (.node .leaf 248 w248 .leaf) 249 w249 .leaf)) 250 w250 (.node (.node (.node .leaf 251 w251 .leaf) 252 w252 .leaf) 253 w253 (.node .leaf 256 w256 .leaf))) 270 w270 (.node (.node (.node (.node .leaf 271 w271 .leaf) 272 w272 .leaf) 273 w273 (.node (.node .leaf 274 w274 .leaf) 275 w275 .leaf)) 276 w276 (.node (.node (.node .leaf 282 w282 .leaf) 304 w304 .leaf) 312 w312 (.node .leaf 313 w313 .leaf)))) 314 w314 (.node (.node (.node (.node (.node .leaf 318 w318 .leaf) 319 w319 .leaf) 321 w321 (.node (.node .leaf 322 w322 .leaf) 323 w323 .leaf)) 327 w327 (.node (.node (.node .leaf 340 w340 .leaf) 344 w344 .leaf) 347 w347 (.node .leaf 348 w348 .leaf))) 349 w349 (.node (.node (.node (.node .leaf 350 w350 .leaf) 351 w351 .leaf) 352 w352 (.node .leaf 367 w367 .leaf)) 379 w379 (.node (.node (.node .leaf 398 w398 .leaf) 399 w399 .leaf) 400 w400 (.node .leaf 402 w402 .leaf)))))) 403 w403 (.node (.node (.node (.node (.node (.node (.node .leaf 404 w404 .leaf) 405 w405 .leaf) 406 w406 (.node (.node .leaf 407 w407 .leaf) 408 w408 .leaf)) 411 w411 (.node (.node (.node .leaf 412 w412 .leaf) 422 w422 .leaf) 423 w423 (.node .leaf 424 w424 .leaf))) 425 w425 (.node (.node (.node (.node .leaf 426 w426 .leaf) 433 w433 .leaf) 434 w434 (.node (.node .leaf 439 w439 .leaf) 441 w441 .leaf)) 442 w442 (.node (.node (.node .leaf 459 w459 .leaf) 460 w460 .leaf) 464 w464 (.node .leaf 465 w465 .leaf)))) 466 w466 (.node (.node (.node (.node (.node .leaf 467 w467 .leaf) 494 w494 .leaf) 495 w495 (.node (.node .leaf 496 w496 .leaf) 497 w497 .leaf)) 498 w498 (.node (.node (.node .leaf 499 w499 .leaf) 500 w500 .leaf) 501 w501 (.node .leaf 502 w502 .leaf))) 503 w503 (.node (.node (.node (.node .leaf 504 w504 .leaf) 505 w505 .leaf) 510 w510 (.node (.node .leaf 511 w511 .leaf) 512 w512 .leaf)) 513 w513 (.node (.node (.node .leaf 516 w516 .leaf) 517 w517 .leaf) 518 w518 (.node .leaf 519 w519 .leaf))))) 520 w520 (.node (.node (.node (.node (.node (.node .leaf 543 w543 .leaf) 544 w544 .leaf) 545 w545 (.node (.node .leaf 546 w546 .leaf) 547 w547 .leaf)) 548 w548 (.node (.node (.node .leaf 549 w549 .leaf) 550 w550 .leaf) 556 w556 (.node .leaf 557 w557 .leaf))) 558 w558 (.node (.node (.node (.node .leaf 559 w559 .leaf) 560 w560 .leaf) 561 w561 (.node (.node .leaf 562 w562 .leaf) 563 w563 .leaf)) 578 w578 (.node (.node (.node .leaf 579 w579 .leaf) 580 w580 .leaf) 581 w581 (.node .leaf 582 w582 .leaf)))) 583 w583 (.node (.node (.node (.node (.node .leaf 584 w584 .leaf) 585 w585 .leaf) 586 w586 (.node (.node .leaf 592 w592 .leaf) 593 w593 .leaf)) 594 w594 (.node (.node (.node .leaf 1100 w1100 .leaf) 1102 w102 .leaf) 1191 w191 (.node .leaf 2004 w2004 .leaf))) 2005 w274 (.node (.node (.node (.node .leaf 2006 w275 .leaf) 2016 w97 .leaf) 2019 w2019 (.node .leaf 3001 w3001 .leaf)) 3002 w3002 (.node (.node (.node .leaf 3003 w3003 .leaf) 3004 w226 .leaf) 4001 w4001 (.node .leaf 4002 w274 .leaf)))))))
def ids:List (Nat × Nat):=[(0,2),(97,75),(99,110),(102,138),(111,26),(112,49),(115,37),(120,48),(121,123),(122,58),(126,30),(130,7),(131,84),(132,87),(133,51),(135,22),(137,52),(140,137),(149,85),(160,19),(161,80),(172,20),(173,25),(174,15),(175,4),(176,27),(178,6),(191,139),(192,140),(201,40),(219,112),(221,114),(222,113),(223,39),(224,42),(225,68),(226,141),(227,74),(230,67),(231,69),(232,70),(235,34),(236,38),(239,36),(240,33),(246,47),(247,81),(248,143),(249,90),(250,91),(251,119),(252,120),(253,60),(256,18),(270,31),(271,32),(272,121),(273,88),(274,55),(275,56),(276,57),(282,155),(304,122),(312,82),(313,116),(314,83),(318,41),(319,50),(321,23),(322,115),(323,59),(327,24),(340,157),(344,11),(347,17),(348,14),(349,21),(350,16),(351,12),(352,29),(367,156),(379,76),(398,72),(399,73),(400,142),(402,77),(403,78),(404,98),(405,99),(406,65),(407,53),(408,71),(411,117),(412,118),(422,61),(423,62),(424,63),(425,64),(426,89),(433,163),(434,164),(439,160),(441,96),(442,97),(459,165),(460,166),(464,9),(465,13),(466,43),(467,44),(494,101),(495,102),(496,103),(497,104),(498,105),(499,106),(500,107),(501,108),(502,129),(503,130),(504,86),(505,100),(510,92),(511,93),(512,94),(513,95),(516,167),(517,168),(518,169),(519,170),(520,128),(543,132),(544,133),(545,134),(546,135),(547,136),(548,145),(549,146),(550,131),(556,124),(557,125),(558,126),(559,127),(560,171),(561,172),(562,173),(563,144),(578,148),(579,149),(580,150),(581,151),(582,152),(583,153),(584,154),(585,158),(586,147),(592,161),(593,162),(594,159),(2016,75),(2004,54),(2005,55),(2006,56),(4002,55),(4001,22),(3004,141),(3003,111),(3002,79),(3001,45),(2019,46),(1102,138),(1191,139),(1100,109)]
def alts:List (Nat × Nat × Nat):=[(201,75,2016),(135,54,2004),(2004,55,2005),(135,56,2006),(4001,55,4002),(4001,54,2004),(4001,56,2006),(2019,22,4001),(3003,141,3004),(3002,111,3003),(3001,79,3002),(174,45,3001),(174,46,2019),(350,45,3001),(350,46,2019),(1100,138,1102),(1100,139,1191),(379,109,1100),(99,139,1191),(192,139,1191)]
end P
end
section
namespace Go.Pw
open Go Go.Pav
@[simp] def eI (x:Int):List AV:=[.int .i64 x]
@[simp] def eU8 (x:Int):List AV:=[.int .u8 x]
@[simp] def eU64 (x:Int):List AV:=[.int .u64 x]
@[simp] def eS (x:List UInt8):List AV:=[.str x]
@[simp] def eB (x:Bool):List AV:=[.bool x]
attribute [simp] Int.natCast_inj
attribute [-simp] List.getElem_cons_drop
section
variable (a n:Nat)
@[simp] theorem lit_lt_cast:((no_index (OfNat.ofNat a):Int) < (n:Int))=((no_index (OfNat.ofNat a):Nat) < n):=propext (Int.ofNat_lt (n:=(OfNat.ofNat a:Nat)) (m:=n))
@[simp] theorem cast_lt_lit:((n:Int) < (no_index (OfNat.ofNat a):Int))=(n < (no_index (OfNat.ofNat a):Nat)):=propext (Int.ofNat_lt (m:=(OfNat.ofNat a:Nat)) (n:=n))
@[simp] theorem lit_le_cast:((no_index (OfNat.ofNat a):Int)≤(n:Int))=((no_index (OfNat.ofNat a):Nat)≤n):=propext (Int.ofNat_le (m:=(OfNat.ofNat a:Nat)) (n:=n))
@[simp] theorem cast_le_lit:((n:Int)≤(no_index (OfNat.ofNat a):Int))=(n≤(no_index (OfNat.ofNat a):Nat)):=propext (Int.ofNat_le (n:=(OfNat.ofNat a:Nat)) (m:=n))
end
theorem fill_get {α β:Type} {f:α→β} {acc:List α} {n i:Nat} {z:β} (h:acc.length=i):(List.map f acc++List.replicate (n+1) z)[i]?=some z:=by
 rw [List.getElem?_append_right (by simp;omega)]
 simp [h]
theorem fill_set {α β:Type} {f:α→β} {acc:List α} {n i:Nat} {z v:β} (h:acc.length=i):(List.map f acc++List.replicate (n+1) z).set i v=List.map f acc++v::List.replicate n z:=by
 rw [List.set_append,if_neg (by simp;omega)]
 simp [h,List.replicate_succ]
@[simp] theorem app_le (a b:Nat):(a+(b+1)≤a)=False:=eq_false (by omega)
theorem drop_cons {α:Type} {l:List α} {i:Nat} (h:i < l.length):l.drop i=l[i]::l.drop (i+1):=List.drop_eq_getElem_cons h
theorem mapO_self {α:Type} {g:α→Option α}:∀ {l:List α},(∀ x ∈ l,g x=some x)→mapO g l=some l
 | [],_=>rfl
 | a::l,h=>by simp only [mapO,h a List.mem_cons_self,ob,mapO_self fun x hx=>h x (List.mem_cons_of_mem _ hx),om]
@[simp] theorem frz_ints (h:WHeap) (n:Nat) (k:IntKind) (l:List Int):mapO (frzW h (n+1)) (List.map (AV.int k) l)=some (List.map (AV.int k) l) :=
 mapO_self fun x hx=>by obtain ⟨y,_,rfl⟩:=List.mem_map.1 hx;rfl
@[simp] theorem all_isC_int (k:IntKind) (l:List Int):l.all (isC ∘ AV.int k)=true:=by simp [isC]
@[simp] theorem all_isC_bool (l:List Bool):l.all (isC ∘ AV.bool)=true:=by simp [isC]
attribute [simp] isLeaf
@[simp] theorem comp_eI:((fun x:AV=>[x]) ∘ AV.int .i64)=eI:=rfl
@[simp] theorem add_le_self' (a b:Nat):(a+b≤a)=(b=0):=propext (by omega)
theorem isE {α:Type} {l:List α} (h:¬ l=[]):l.isEmpty=false:=by cases l <;> simp_all
end Go.Pw
end
section
namespace Go.D
open Go Go.Pav Go.Pw P
attribute [-simp] List.getElem_cons_drop
variable {C:WProg}
def inN (b:UInt8):Bool:=decide (97≤b.toNat∧b.toNat≤122∨48≤b.toNat∧b.toNat≤57)
def inT (b:UInt8):Bool:=decide (32≤b.toNat∧b.toNat≤126)
def isName (s:List UInt8):Bool:=decide (1≤s.length)&&decide (s.length≤16)&&s.all inN
def isText (s:List UInt8):Bool:=decide (s.length≤64)&&s.all inT
def ppB (f:Nat):Bool:=f == 502||f == 494||f == 497||f == 434||f == 518||f == 549||f == 402||f == 411||f == 446||f == 466||f == 429||f == 514||f == 374||f == 480||(decide (1000≤f)&&decide (f < 2000))
def inlB (f:Nat):Bool:=f == 217||f == 459||decide (2000≤f)
structure HasS (C:WProg):Prop where
 f561:C.fns.get 561=some w561
 f517:C.fns.get 517=some w517
 f557:C.fns.get 557=some w557
 f556:C.fns.get 556=some w556
 f511:C.fns.get 511=some w511
 f510:C.fns.get 510=some w510
 f560:C.fns.get 560=some w560
 f545:C.fns.get 545=some w545
 f578:C.fns.get 578=some w578
 f543:C.fns.get 543=some w543
 f495:C.fns.get 495=some w495
 f516:C.fns.get 516=some w516
 f500:C.fns.get 500=some w500
 inl:C.inl=inlB
 pp:C.pp=ppB
theorem inName_ok (H:HasS C) (b:UInt8):FnW C 561 [.int .u8 b.toNat]=some (.bool (inN b)):=by
 rw [fnW_eq H.f561 rfl]
 unfold inN
 by_cases c1:97≤b.toNat <;> by_cases c2:b.toNat≤122 <;> by_cases c3:48≤b.toNat <;> by_cases c4:b.toNat≤57 <;> simp [w561,c1,c2,c3,c4]
theorem named_loop (H:HasS C) (s:List UInt8) (hl:s.length≤16):∀ n i,n+i=s.length →
 w517_K0 C ⟨[(14,.int .i64 i),(13,.int .i64 s.length),(0,.str s)],[],0⟩=some (.bool ((s.drop i).all inN)):=by
 intro n
 induction n with
 | zero =>
  intro i hi
  simp only [w517_K0];rw [ck_unf w517_B0.eq_1]
  have h1:s.drop i=[]:=List.drop_eq_nil_of_le (by omega)
  have h3:¬ i < s.length:=by omega
  simp [ck_unf w517_c0.eq_1,h1,h3]
 | succ n ih =>
  intro i hi
  have h1:i < s.length:=by omega
  have:=ih (i+1) (by omega)
  have hb:=inName_ok H s[i]
  simp only [w517_K0] at this ⊢;rw [ck_unf w517_B0.eq_1]
  rw [drop_cons h1]
  simp at this
  by_cases c:inN s[i]=true
  · simp (disch:=omega) [h1,wI64,hb,c,H.inl,inlB,H.pp,ppB,this]
  · simp (disch:=omega) [h1,wI64,hb,c,H.inl,inlB,H.pp,ppB]
theorem named_ok (H:HasS C) (s:List UInt8):FnW C 517 [.str s]=some (.bool (isName s)):=by
 rw [fnW_eq H.f517 rfl]
 unfold isName
 by_cases c1:1≤s.length
 · by_cases c2:s.length≤16
   · have:=named_loop H s c2 s.length 0 (by simp)
     simp only [w517_K0] at this
     simp at this
     have c3:¬ ((s.length:Int) < 1):=by omega
     have c4:¬ (16 < (s.length:Int)):=by omega
     simp [w517,c1,c2,c3,c4,this]
   · have c3:¬ ((s.length:Int) < 1):=by omega
     have c4:(16 < (s.length:Int)):=by omega
     simp [w517,c1,c2,c3,c4]
 · have c3:((s.length:Int) < 1):=by omega
   simp [w517,c1,c3]
theorem inN_cases (b:UInt8):(inN b=true∧(97≤b.toNat∧b.toNat≤122∨¬ 97≤b.toNat∧48≤b.toNat∧b.toNat≤57))∨(inN b=false∧(¬ 97≤b.toNat∧(¬ 48≤b.toNat∨¬ b.toNat≤57)∨¬ b.toNat≤122∧¬ b.toNat≤57)):=by
 unfold inN
 by_cases c:97≤b.toNat∧b.toNat≤122∨48≤b.toNat∧b.toNat≤57
 · left;exact ⟨decide_eq_true c,by omega⟩
 · right;exact ⟨decide_eq_false c,by omega⟩
theorem rname_loop (H:HasS C) (s:List UInt8) (hl:s.length≤16∨True):∀ n i,n+i=min s.length 17 →
 w557_K0 C ⟨[(3,.int .i64 i),(0,.str s)],[],0⟩=some (.bool (((s.take 17).drop i).all inN&&decide (1≤s.length)&&decide (s.length≤16))):=by
 intro n
 induction n with
 | zero =>
  intro i hi
  simp only [w557_K0];rw [ck_unf w557_B0.eq_1]
  have h1:(s.take 17).drop i=[]:=List.drop_eq_nil_of_le (by simp;omega)
  by_cases h3:i < s.length
  · have h4:¬ i < 17:=by omega
    have h4':¬ (i:Int) < 17:=by omega
    have h5:¬ s.length≤16:=by omega
    have h6:¬ (s.length:Int)≤16:=by omega
    have h7:1≤(s.length:Int):=by omega
    simp [ck_unf w557_c0.eq_1,h1,h3,h4,h4',h5,h6,h7]
  · by_cases h5:s.length≤16 <;> by_cases h6:1≤s.length
    · have h7:(s.length:Int)≤16:=by omega
      have h8:1≤(s.length:Int):=by omega
      simp [ck_unf w557_c0.eq_1,h1,h3,h5,h6,h7,h8]
    · have h7:(s.length:Int)≤16:=by omega
      have h8:¬ 1≤(s.length:Int):=by omega
      simp [ck_unf w557_c0.eq_1,h1,h3,h5,h6,h7,h8]
    · have h7:¬ (s.length:Int)≤16:=by omega
      have h8:1≤(s.length:Int):=by omega
      simp [ck_unf w557_c0.eq_1,h1,h3,h5,h6,h7,h8]
    · omega
 | succ n ih =>
  intro i hi
  have h1:i < s.length:=by omega
  have h2:(i:Int) < 17:=by omega
  have:=ih (i+1) (by omega)
  have hd:(s.take 17).drop i=s[i]::(s.take 17).drop (i+1):=by
   rw [drop_cons (show i < (s.take 17).length by simp;omega)];simp
  rw [hd]
  simp only [w557_K0] at this ⊢;rw [ck_unf w557_B0.eq_1]
  simp at this
  have key:=inN_cases s[i]
  by_cases q1:97≤s[i].toNat <;> by_cases q2:122 < s[i].toNat <;> by_cases q3:48≤s[i].toNat <;> by_cases q4:57 < s[i].toNat <;> first
   | (exfalso;omega)
   | (have c : inN s[i] = true := by rcases key with ⟨c, _⟩ | ⟨_, q⟩ <;> first | exact c | (exfalso; omega)
      simp (disch:=omega) [h1,h2,wI64,c,q1,q2,q3,q4,this];done)
   | (have c : inN s[i] = false := by rcases key with ⟨_, q⟩ | ⟨c, _⟩ <;> first | exact c | (exfalso; omega)
      simp (disch:=omega) [h1,h2,wI64,c,q1,q2,q3,q4];done)
theorem rname_ok (H:HasS C) (s:List UInt8):FnW C 557 [.str s]=some (.bool (isName s)):=by
 rw [fnW_eq H.f557 rfl]
 have:=rname_loop H s (.inr trivial) (min s.length 17) 0 (by simp)
 simp only [w557_K0] at this
 simp only [List.drop_zero] at this
 have e:((s.take 17).all inN&&decide (1≤s.length)&&decide (s.length≤16))=isName s:=by
  unfold isName
  by_cases c:s.length≤16
  · rw [List.take_of_length_le (by omega)];simp [c];rw [Bool.and_comm]
  · simp [c]
 rw [e] at this
 simp at this
 simp [w557,this]
theorem rstr_loop (H:HasS C) (s:List UInt8) (hl:s.length≤64):∀ n i,n+i=s.length →
 w556_K0 C ⟨[(3,.int .i64 i),(0,.str s)],[],0⟩=some (.bool ((s.drop i).all inT)):=by
 intro n
 induction n with
 | zero =>
  intro i hi
  simp only [w556_K0];rw [ck_unf w556_B0.eq_1]
  have h1:s.drop i=[]:=List.drop_eq_nil_of_le (by omega)
  have h3:¬ i < s.length:=by omega
  simp [ck_unf w556_c0.eq_1,h1,h3]
 | succ n ih =>
  intro i hi
  have h1:i < s.length:=by omega
  have:=ih (i+1) (by omega)
  simp only [w556_K0] at this ⊢;rw [ck_unf w556_B0.eq_1]
  rw [drop_cons h1]
  simp at this
  by_cases c1:32≤s[i].toNat <;> by_cases c2:126 < s[i].toNat
  · have c:inT s[i]=false:=decide_eq_false (fun q=>by omega)
    simp (disch:=omega) [h1,wI64,c,c1,c2]
  · have c:inT s[i]=true:=decide_eq_true ⟨c1,by omega⟩
    simp (disch:=omega) [h1,wI64,c,c1,c2,this]
  · omega
  · have c:inT s[i]=false:=decide_eq_false (fun q=>c1 q.1)
    simp (disch:=omega) [h1,wI64,c,c1,c2]
theorem rstr_ok (H:HasS C) (s:List UInt8):FnW C 556 [.str s]=some (.bool (isText s)):=by
 rw [fnW_eq H.f556 rfl]
 unfold isText
 by_cases c2:s.length≤64
 · have:=rstr_loop H s c2 s.length 0 (by simp)
   simp only [w556_K0] at this
   simp at this
   have c4:¬ (64 < (s.length:Int)):=by omega
   simp [w556,c2,c4,this]
 · have c4:(64 < (s.length:Int)):=by omega
   simp [w556,c2,c4]
theorem words_loop (H:HasS C) (s:List UInt8) (hl:s.length≤64):∀ n i,n+i=s.length →
 w510_K0 C ⟨[(3,.int .i64 i),(0,.str s)],[],0⟩=some (.int .i64 (if (s.drop i).all inT=true then 1 else 0)):=by
 intro n
 induction n with
 | zero =>
  intro i hi
  simp only [w510_K0];rw [ck_unf w510_B0.eq_1]
  have h1:s.drop i=[]:=List.drop_eq_nil_of_le (by omega)
  have h3:¬ i < s.length:=by omega
  simp [ck_unf w510_c0.eq_1,h1,h3]
 | succ n ih =>
  intro i hi
  have h1:i < s.length:=by omega
  have:=ih (i+1) (by omega)
  simp only [w510_K0] at this ⊢;rw [ck_unf w510_B0.eq_1]
  rw [drop_cons h1]
  generalize hX:((s.drop (i+1)).all inT)=X at *
  simp at this
  rw [List.all_cons,hX]
  by_cases c1:32≤s[i].toNat <;> by_cases c2:126 < s[i].toNat
  · have c:inT s[i]=false:=decide_eq_false (fun q=>by omega)
    simp (disch:=omega) [h1,wI64,c,c1,c2]
  · have c:inT s[i]=true:=decide_eq_true ⟨c1,by omega⟩
    simp (disch:=omega) [h1,wI64,c,c1,c2,this]
  · omega
  · have c:inT s[i]=false:=decide_eq_false (fun q=>c1 q.1)
    simp (disch:=omega) [h1,wI64,c,c1,c2]
theorem words_ok (H:HasS C) (s:List UInt8):FnW C 510 [.str s]=some (.int .i64 (if isText s=true then 1 else 0)):=by
 rw [fnW_eq H.f510 rfl]
 unfold isText
 by_cases c2:s.length≤64
 · have:=words_loop H s c2 s.length 0 (by simp)
   simp only [w510_K0] at this
   simp only [List.drop_zero] at this
   generalize hX:s.all inT=X at *
   simp at this
   have c4:¬ (64 < (s.length:Int)):=by omega
   simp [w510,c2,c4,this]
 · have c4:(64 < (s.length:Int)):=by omega
   simp [w510,c2,c4]
structure Pred (C:WProg) (g:Nat) (Q:UInt8→Bool):Prop where
 asc:∀ b:UInt8,b.toNat < 128→FnW C g [.int .i32 b.toNat]=some (.bool (!Q b))
 high:∀ r:Nat,128≤r→FnW C g [.int .i32 r]=some (.bool true)
 qh:∀ b:UInt8,128≤b.toNat→Q b=false
 ne:ppB g=false
 ni:inlB g=false
theorem dec_ascii (s:List UInt8) (pos:Nat) (h:pos < s.length) (ha:s[pos].toNat < 128):Utf8.decode ⟨⟨s⟩⟩ pos=(s[pos].toNat,1):=decode_ascii ⟨⟨s⟩⟩ pos h ha
theorem dec_high (s:List UInt8) (pos:Nat) (h:pos < s.length) (ha:128≤s[pos].toNat):128≤(Utf8.decode ⟨⟨s⟩⟩ pos).1∧1≤(Utf8.decode ⟨⟨s⟩⟩ pos).2:=decode_high ⟨⟨s⟩⟩ pos h ha
theorem index_loop (H:HasS C) {g:Nat} {Q:UInt8→Bool} (G:Pred C g Q) (s:List UInt8):∀ n pos,n+pos=s.length →
 ∃ v:Int,w578_K0 C ⟨[(10,.ptr 0 0 0),(2,.bool true),(1,.fn g [])],[(0,.iter s pos)],1⟩=some (.int .i64 v)∧decide (v < 0)=(s.drop pos).all Q:=by
 intro n
 induction n with
 | zero =>
  intro pos hp
  simp only [w578_K0];rw [ck_unf w578_B0.eq_1]
  have h1:s.drop pos=[]:=List.drop_eq_nil_of_le (by omega)
  have h3:¬ pos < s.length:=by omega
  exact ⟨-1,by simp [ck_unf w578_c0.eq_1,h3],by simp [h1]⟩
 | succ n ih =>
  intro pos hp
  have h1:pos < s.length:=by omega
  have hN:=G.ne;have hI:=G.ni
  rw [drop_cons h1]
  by_cases ha:s[pos].toNat < 128
  · have hd:=dec_ascii s pos h1 ha
    have hb:=G.asc s[pos] ha
    by_cases c:Q s[pos]=true
    · obtain ⟨v,hv,hq⟩:=ih (pos+1) (by omega)
      refine ⟨v,?_,by simp [hq,c]⟩
      simp only [w578_K0] at hv ⊢;rw [ck_unf w578_B0.eq_1]
      simp (disch:=omega) [h1,hd,hb,c,H.inl,hI,H.pp,hN,hv]
    · refine ⟨pos,?_,by simp [c]⟩
      simp only [w578_K0];rw [ck_unf w578_B0.eq_1]
      simp (disch:=omega) [h1,hd,hb,c,H.inl,hI,H.pp,hN]
  · have hd:=dec_high s pos h1 (by omega)
    have hb:=G.high (Utf8.decode ⟨⟨s⟩⟩ pos).1 hd.1
    have hq:=G.qh s[pos] (by omega)
    refine ⟨pos,?_,by simp [hq]⟩
    simp only [w578_K0];rw [ck_unf w578_B0.eq_1]
    obtain ⟨D,hD⟩:∃ D,Utf8.decode ⟨⟨s⟩⟩ pos=D:=⟨_,rfl⟩
    rw [hD] at hb
    simp (disch:=omega) [h1,hD,hb,H.inl,hI,H.pp,hN]
theorem index_ok (H:HasS C) {g:Nat} {Q:UInt8→Bool} (G:Pred C g Q) (s:List UInt8) :
 ∃ v:Int,FnW C 543 [.str s,.fn g []]=some (.int .i64 v)∧decide (v < 0)=s.all Q:=by
 obtain ⟨v,h,q⟩:=index_loop H G s s.length 0 (by simp)
 refine ⟨v,?_,q⟩
 have h2:FnW C 578 [.str s,.fn g [],.bool true]=some (.int .i64 v):=by
  rw [fnW_eq H.f578 rfl]
  simp only [w578_K0] at h
  simp [w578,h]
 rw [fnW_eq H.f543 rfl]
 simp [w543,H.inl,inlB,H.pp,ppB,h2]
theorem contains_ok (H:HasS C) {g:Nat} {Q:UInt8→Bool} (G:Pred C g Q) (s:List UInt8) :
 FnW C 495 [.str s,.fn g []]=some (.bool (!s.all Q)):=by
 obtain ⟨v,h,q⟩:=index_ok H G s
 rw [fnW_eq H.f495 rfl,← q]
 by_cases c:v < 0
 · have c':¬ 0≤v:=by omega
   simp [w495,H.inl,inlB,H.pp,ppB,h,c,c']
 · have c':0≤v:=by omega
   simp [w495,H.inl,inlB,H.pp,ppB,h,c,c']
theorem pred560 (H:HasS C):Pred C 560 inT where
 asc b hb:=by
  rw [fnW_eq H.f560 rfl]
  by_cases c1:32≤b.toNat <;> by_cases c2:126 < b.toNat
  · have c:inT b=false:=decide_eq_false (fun q=>by omega)
    simp [w560,c,c1,c2]
  · have c:inT b=true:=decide_eq_true ⟨c1,by omega⟩
    simp [w560,c,c1,c2]
  · omega
  · have c:inT b=false:=decide_eq_false (fun q=>c1 q.1)
    simp [w560,c,c1,c2]
 high r hr:=by
  rw [fnW_eq H.f560 rfl]
  have h1:32≤r:=by omega
  have h2:126 < r:=by omega
  simp [w560,h1,h2]
 qh b hb:=decide_eq_false (fun q=>by omega)
 ne:=by rfl
 ni:=by rfl
theorem pred545 (H:HasS C):Pred C 545 inN where
 asc b hb:=by
  rw [fnW_eq H.f545 rfl]
  have key:=inN_cases b
  by_cases q1:97≤b.toNat <;> by_cases q2:122 < b.toNat <;> by_cases q3:48≤b.toNat <;> by_cases q4:57 < b.toNat <;> first
   | (exfalso;omega)
   | (have c : inN b = true := by rcases key with ⟨c, _⟩ | ⟨_, q⟩ <;> first | exact c | (exfalso; omega)
      simp [w545,c,q1,q2,q3,q4];done)
   | (have c : inN b = false := by rcases key with ⟨_, q⟩ | ⟨c, _⟩ <;> first | exact c | (exfalso; omega)
      simp [w545,c,q1,q2,q3,q4];done)
 high r hr:=by
  rw [fnW_eq H.f545 rfl]
  have h1:97≤r:=by omega
  have h2:122 < r:=by omega
  have h3:48≤r:=by omega
  have h4:57 < r:=by omega
  simp [w545,h1,h2,h3,h4]
 qh b hb:=by unfold inN;exact decide_eq_false (fun q=>by omega)
 ne:=by rfl
 ni:=by rfl
theorem text_ok (H:HasS C) (s:List UInt8):FnW C 516 [.str s]=some (.bool (isText s)):=by
 obtain ⟨v,h,q⟩:=index_ok H (pred560 H) s
 rw [fnW_eq H.f516 rfl]
 unfold isText
 rw [← q]
 by_cases c2:s.length≤64
 · have c4:(s.length:Int)≤64:=by omega
   simp [w516,c2,c4,H.inl,inlB,H.pp,ppB,h]
 · have c4:¬ ((s.length:Int)≤64):=by omega
   simp [w516,c2,c4]
theorem iname_ok (H:HasS C) (s:List UInt8):FnW C 500 [.str s]=some (.bool (isName s)):=by
 have h:=contains_ok H (pred545 H) s
 rw [fnW_eq H.f500 rfl]
 unfold isName
 by_cases c1:s=[]
 · subst c1;simp [w500]
 · have c3:1≤s.length:=List.length_pos_iff.2 c1
   by_cases c2:s.length≤16
   · have c4:(s.length:Int)≤16:=by omega
     simp [w500,c1,c2,c3,c4,H.inl,inlB,H.pp,ppB,h]
   · have c4:¬ ((s.length:Int)≤16):=by omega
     simp [w500,c1,c2,c4]
end Go.D
end
section
namespace Go.Pav
open Go
def phiOf (ids:List (Nat × Nat)) (f:FuncId):Option Nat :=
 match ids with
 | []=>none
 | (g,k)::r=>if k=f then some g else phiOf r f
def psiOf (ids:List (Nat × Nat)) (g:Nat):FuncId :=
 match get ids g with
 | some k=>k
 | none=>0
theorem phiOf_mem:∀ {ids:List (Nat × Nat)} {f:FuncId} {g:Nat},phiOf ids f=some g→(g,f) ∈ ids:=by
 intro ids
 induction ids with
 | nil=>intro f g h;simp [phiOf] at h
 | cons x r ih =>
  intro f g h
  obtain ⟨a,k⟩:=x
  simp only [phiOf] at h
  split at h
  · rename_i hk
    cases h;subst hk;exact List.mem_cons_self
  · exact List.mem_cons_of_mem _ (ih h)
theorem psi_phi {ids:List (Nat × Nat)} (hc:(ids.all fun x=>decide (psiOf ids x.1=x.2))=true):∀ f g,phiOf ids f=some g→psiOf ids g=f:=by
 intro f g h
 have:=List.all_eq_true.1 hc _ (phiOf_mem h)
 simpa using this
def TreeAll (p:Nat→CFn→Prop):Tree→Prop
 | .leaf=>True
 | .node l k f r=>TreeAll p l∧p k f∧TreeAll p r
theorem TreeAll.get {p:Nat→CFn→Prop}:∀ {t:Tree},TreeAll p t→∀ {g:Nat} {cf:CFn},t.get g=some cf→p g cf:=by
 intro t
 induction t with
 | leaf=>intro _ g cf h;simp [Tree.get] at h
 | node l k f r ihl ihr =>
  intro ⟨h1,h2,h3⟩ g cf h
  simp only [Tree.get] at h
  split at h
  · rename_i hk;cases h;subst hk;exact h2
  · split at h
    · exact ihl h1 h
    · exact ihr h3 h
def altOf:List (Nat × FuncId × Nat)→Nat→FuncId→Option Nat
 | [],_,_=>none
 | (g,f,k)::r,g',f'=>if g=g'∧f=f' then some k else altOf r g' f'
theorem altOf_mem:∀ {alts:List (Nat × FuncId × Nat)} {g:Nat} {f:FuncId} {k:Nat},altOf alts g f=some k→(g,f,k) ∈ alts:=by
 intro alts
 induction alts with
 | nil=>intro g f k h;simp [altOf] at h
 | cons x r ih =>
  intro g f k h
  obtain ⟨a,b,c⟩:=x
  simp only [altOf] at h
  split at h
  · rename_i hk
    obtain ⟨rfl,rfl⟩:=hk
    cases h;exact List.mem_cons_self
  · exact List.mem_cons_of_mem _ (ih h)
def phiG (ids:List (Nat × Nat)) (alts:List (Nat × FuncId × Nat)) (g:Nat) (f:FuncId):Option Nat :=
 match altOf alts g f with
 | some k=>some k
 | none=>phiOf ids f
def FnOk (P:Program) (ids:List (Nat × Nat)) (alts:List (Nat × FuncId × Nat)) (g:Nat) (cf:CFn):Prop:=∃ fn,P.funcs[psiOf ids g]?=some fn∧(cFn P (phiG ids alts g) fn).map stripF=some (stripF cf)
theorem linked {P:Program} {ids:List (Nat × Nat)} {alts:List (Nat × FuncId × Nat)} {C:Prog} (hc:(ids.all fun x=>decide (psiOf ids x.1=x.2))=true) (ha:(alts.all fun x=>decide (psiOf ids x.2.2=x.2.1))=true)
 (ht:TreeAll (FnOk P ids alts) C.fns) (hm:P.follows .mixedOrders=true):Linked P (phiG ids alts) (psiOf ids) C:=by
 refine ⟨fun g f k h=>?_,fun _ _ h=>ht.get h,hm⟩
 unfold phiG at h
 split at h
 · rename_i k' hk
   cases h
   simpa using List.all_eq_true.1 ha _ (altOf_mem hk)
 · exact psi_phi hc _ _ h
end Go.Pav
end
section
set_option maxRecDepth 100000
namespace P
open Go Go.Pav Go.Pw Go.Proofs
theorem l0:FnOk Tryz.prog ids alts 0 (erFn w0):=⟨Tryz.f2,Tryz.func2,by kernel_rfl⟩
theorem l97:FnOk Tryz.prog ids alts 97 (erFn w97):=⟨Tryz.f75,Tryz.func75,by kernel_rfl⟩
theorem l99:FnOk Tryz.prog ids alts 99 (erFn w99):=⟨Tryz.f110,Tryz.func110,by kernel_rfl⟩
theorem l102:FnOk Tryz.prog ids alts 102 (erFn w102):=⟨Tryz.f138,Tryz.func138,by kernel_rfl⟩
theorem l111:FnOk Tryz.prog ids alts 111 (erFn w111):=⟨Tryz.f26,Tryz.func26,by kernel_rfl⟩
theorem l112:FnOk Tryz.prog ids alts 112 (erFn w112):=⟨Tryz.f49,Tryz.func49,by kernel_rfl⟩
theorem l115:FnOk Tryz.prog ids alts 115 (erFn w115):=⟨Tryz.f37,Tryz.func37,by kernel_rfl⟩
theorem l120:FnOk Tryz.prog ids alts 120 (erFn w120):=⟨Tryz.f48,Tryz.func48,by kernel_rfl⟩
theorem l121:FnOk Tryz.prog ids alts 121 (erFn w121):=⟨Tryz.f123,Tryz.func123,by kernel_rfl⟩
theorem l122:FnOk Tryz.prog ids alts 122 (erFn w122):=⟨Tryz.f58,Tryz.func58,by kernel_rfl⟩
theorem l126:FnOk Tryz.prog ids alts 126 (erFn w126):=⟨Tryz.f30,Tryz.func30,by kernel_rfl⟩
theorem l130:FnOk Tryz.prog ids alts 130 (erFn w130):=⟨Tryz.f7,Tryz.func7,by kernel_rfl⟩
theorem l131:FnOk Tryz.prog ids alts 131 (erFn w131):=⟨Tryz.f84,Tryz.func84,by kernel_rfl⟩
theorem l132:FnOk Tryz.prog ids alts 132 (erFn w132):=⟨Tryz.f87,Tryz.func87,by kernel_rfl⟩
theorem l133:FnOk Tryz.prog ids alts 133 (erFn w133):=⟨Tryz.f51,Tryz.func51,by kernel_rfl⟩
theorem l135:FnOk Tryz.prog ids alts 135 (erFn w135):=⟨Tryz.f22,Tryz.func22,by kernel_rfl⟩
theorem l137:FnOk Tryz.prog ids alts 137 (erFn w137):=⟨Tryz.f52,Tryz.func52,by kernel_rfl⟩
theorem l140:FnOk Tryz.prog ids alts 140 (erFn w140):=⟨Tryz.f137,Tryz.func137,by kernel_rfl⟩
theorem l149:FnOk Tryz.prog ids alts 149 (erFn w149):=⟨Tryz.f85,Tryz.func85,by kernel_rfl⟩
theorem l160:FnOk Tryz.prog ids alts 160 (erFn w160):=⟨Tryz.f19,Tryz.func19,by kernel_rfl⟩
theorem l161:FnOk Tryz.prog ids alts 161 (erFn w161):=⟨Tryz.f80,Tryz.func80,by kernel_rfl⟩
theorem l172:FnOk Tryz.prog ids alts 172 (erFn w172):=⟨Tryz.f20,Tryz.func20,by kernel_rfl⟩
theorem l173:FnOk Tryz.prog ids alts 173 (erFn w173):=⟨Tryz.f25,Tryz.func25,by kernel_rfl⟩
theorem l174:FnOk Tryz.prog ids alts 174 (erFn w174):=⟨Tryz.f15,Tryz.func15,by kernel_rfl⟩
theorem l175:FnOk Tryz.prog ids alts 175 (erFn w175):=⟨Tryz.f4,Tryz.func4,by kernel_rfl⟩
theorem l176:FnOk Tryz.prog ids alts 176 (erFn w176):=⟨Tryz.f27,Tryz.func27,by kernel_rfl⟩
theorem l178:FnOk Tryz.prog ids alts 178 (erFn w178):=⟨Tryz.f6,Tryz.func6,by kernel_rfl⟩
theorem l191:FnOk Tryz.prog ids alts 191 (erFn w191):=⟨Tryz.f139,Tryz.func139,by kernel_rfl⟩
theorem l192:FnOk Tryz.prog ids alts 192 (erFn w192):=⟨Tryz.f140,Tryz.func140,by kernel_rfl⟩
theorem l201:FnOk Tryz.prog ids alts 201 (erFn w201):=⟨Tryz.f40,Tryz.func40,by kernel_rfl⟩
theorem l219:FnOk Tryz.prog ids alts 219 (erFn w219):=⟨Tryz.f112,Tryz.func112,by kernel_rfl⟩
theorem l221:FnOk Tryz.prog ids alts 221 (erFn w221):=⟨Tryz.f114,Tryz.func114,by kernel_rfl⟩
theorem l222:FnOk Tryz.prog ids alts 222 (erFn w222):=⟨Tryz.f113,Tryz.func113,by kernel_rfl⟩
theorem l223:FnOk Tryz.prog ids alts 223 (erFn w223):=⟨Tryz.f39,Tryz.func39,by kernel_rfl⟩
theorem l224:FnOk Tryz.prog ids alts 224 (erFn w224):=⟨Tryz.f42,Tryz.func42,by kernel_rfl⟩
theorem l225:FnOk Tryz.prog ids alts 225 (erFn w225):=⟨Tryz.f68,Tryz.func68,by kernel_rfl⟩
theorem l226:FnOk Tryz.prog ids alts 226 (erFn w226):=⟨Tryz.f141,Tryz.func141,by kernel_rfl⟩
theorem l227:FnOk Tryz.prog ids alts 227 (erFn w227):=⟨Tryz.f74,Tryz.func74,by kernel_rfl⟩
theorem l230:FnOk Tryz.prog ids alts 230 (erFn w230):=⟨Tryz.f67,Tryz.func67,by kernel_rfl⟩
theorem l231:FnOk Tryz.prog ids alts 231 (erFn w231):=⟨Tryz.f69,Tryz.func69,by kernel_rfl⟩
theorem l232:FnOk Tryz.prog ids alts 232 (erFn w232):=⟨Tryz.f70,Tryz.func70,by kernel_rfl⟩
theorem l235:FnOk Tryz.prog ids alts 235 (erFn w235):=⟨Tryz.f34,Tryz.func34,by kernel_rfl⟩
theorem l236:FnOk Tryz.prog ids alts 236 (erFn w236):=⟨Tryz.f38,Tryz.func38,by kernel_rfl⟩
theorem l239:FnOk Tryz.prog ids alts 239 (erFn w239):=⟨Tryz.f36,Tryz.func36,by kernel_rfl⟩
theorem l240:FnOk Tryz.prog ids alts 240 (erFn w240):=⟨Tryz.f33,Tryz.func33,by kernel_rfl⟩
theorem l246:FnOk Tryz.prog ids alts 246 (erFn w246):=⟨Tryz.f47,Tryz.func47,by kernel_rfl⟩
theorem l247:FnOk Tryz.prog ids alts 247 (erFn w247):=⟨Tryz.f81,Tryz.func81,by kernel_rfl⟩
theorem l248:FnOk Tryz.prog ids alts 248 (erFn w248):=⟨Tryz.f143,Tryz.func143,by kernel_rfl⟩
theorem l249:FnOk Tryz.prog ids alts 249 (erFn w249):=⟨Tryz.f90,Tryz.func90,by kernel_rfl⟩
theorem l250:FnOk Tryz.prog ids alts 250 (erFn w250):=⟨Tryz.f91,Tryz.func91,by kernel_rfl⟩
theorem l251:FnOk Tryz.prog ids alts 251 (erFn w251):=⟨Tryz.f119,Tryz.func119,by kernel_rfl⟩
theorem l252:FnOk Tryz.prog ids alts 252 (erFn w252):=⟨Tryz.f120,Tryz.func120,by kernel_rfl⟩
theorem l253:FnOk Tryz.prog ids alts 253 (erFn w253):=⟨Tryz.f60,Tryz.func60,by kernel_rfl⟩
theorem l256:FnOk Tryz.prog ids alts 256 (erFn w256):=⟨Tryz.f18,Tryz.func18,by kernel_rfl⟩
theorem l270:FnOk Tryz.prog ids alts 270 (erFn w270):=⟨Tryz.f31,Tryz.func31,by kernel_rfl⟩
theorem l271:FnOk Tryz.prog ids alts 271 (erFn w271):=⟨Tryz.f32,Tryz.func32,by kernel_rfl⟩
theorem l272:FnOk Tryz.prog ids alts 272 (erFn w272):=⟨Tryz.f121,Tryz.func121,by kernel_rfl⟩
theorem l273:FnOk Tryz.prog ids alts 273 (erFn w273):=⟨Tryz.f88,Tryz.func88,by kernel_rfl⟩
theorem l274:FnOk Tryz.prog ids alts 274 (erFn w274):=⟨Tryz.f55,Tryz.func55,by kernel_rfl⟩
theorem l275:FnOk Tryz.prog ids alts 275 (erFn w275):=⟨Tryz.f56,Tryz.func56,by kernel_rfl⟩
theorem l276:FnOk Tryz.prog ids alts 276 (erFn w276):=⟨Tryz.f57,Tryz.func57,by kernel_rfl⟩
theorem l282:FnOk Tryz.prog ids alts 282 (erFn w282):=⟨Tryz.f155,Tryz.func155,by kernel_rfl⟩
theorem l304:FnOk Tryz.prog ids alts 304 (erFn w304):=⟨Tryz.f122,Tryz.func122,by kernel_rfl⟩
theorem l312:FnOk Tryz.prog ids alts 312 (erFn w312):=⟨Tryz.f82,Tryz.func82,by kernel_rfl⟩
theorem l313:FnOk Tryz.prog ids alts 313 (erFn w313):=⟨Tryz.f116,Tryz.func116,by kernel_rfl⟩
theorem l314:FnOk Tryz.prog ids alts 314 (erFn w314):=⟨Tryz.f83,Tryz.func83,by kernel_rfl⟩
theorem l318:FnOk Tryz.prog ids alts 318 (erFn w318):=⟨Tryz.f41,Tryz.func41,by kernel_rfl⟩
theorem l319:FnOk Tryz.prog ids alts 319 (erFn w319):=⟨Tryz.f50,Tryz.func50,by kernel_rfl⟩
theorem l321:FnOk Tryz.prog ids alts 321 (erFn w321):=⟨Tryz.f23,Tryz.func23,by kernel_rfl⟩
theorem l322:FnOk Tryz.prog ids alts 322 (erFn w322):=⟨Tryz.f115,Tryz.func115,by kernel_rfl⟩
theorem l323:FnOk Tryz.prog ids alts 323 (erFn w323):=⟨Tryz.f59,Tryz.func59,by kernel_rfl⟩
theorem l327:FnOk Tryz.prog ids alts 327 (erFn w327):=⟨Tryz.f24,Tryz.func24,by kernel_rfl⟩
theorem l340:FnOk Tryz.prog ids alts 340 (erFn w340):=⟨Tryz.f157,Tryz.func157,by kernel_rfl⟩
theorem l344:FnOk Tryz.prog ids alts 344 (erFn w344):=⟨Tryz.f11,Tryz.func11,by kernel_rfl⟩
theorem l347:FnOk Tryz.prog ids alts 347 (erFn w347):=⟨Tryz.f17,Tryz.func17,by kernel_rfl⟩
theorem l348:FnOk Tryz.prog ids alts 348 (erFn w348):=⟨Tryz.f14,Tryz.func14,by kernel_rfl⟩
theorem l349:FnOk Tryz.prog ids alts 349 (erFn w349):=⟨Tryz.f21,Tryz.func21,by kernel_rfl⟩
theorem l350:FnOk Tryz.prog ids alts 350 (erFn w350):=⟨Tryz.f16,Tryz.func16,by kernel_rfl⟩
theorem l351:FnOk Tryz.prog ids alts 351 (erFn w351):=⟨Tryz.f12,Tryz.func12,by kernel_rfl⟩
theorem l352:FnOk Tryz.prog ids alts 352 (erFn w352):=⟨Tryz.f29,Tryz.func29,by kernel_rfl⟩
theorem l367:FnOk Tryz.prog ids alts 367 (erFn w367):=⟨Tryz.f156,Tryz.func156,by kernel_rfl⟩
theorem l379:FnOk Tryz.prog ids alts 379 (erFn w379):=⟨Tryz.f76,Tryz.func76,by kernel_rfl⟩
theorem l398:FnOk Tryz.prog ids alts 398 (erFn w398):=⟨Tryz.f72,Tryz.func72,by kernel_rfl⟩
theorem l399:FnOk Tryz.prog ids alts 399 (erFn w399):=⟨Tryz.f73,Tryz.func73,by kernel_rfl⟩
theorem l400:FnOk Tryz.prog ids alts 400 (erFn w400):=⟨Tryz.f142,Tryz.func142,by kernel_rfl⟩
theorem l402:FnOk Tryz.prog ids alts 402 (erFn w402):=⟨Tryz.f77,Tryz.func77,by kernel_rfl⟩
theorem l403:FnOk Tryz.prog ids alts 403 (erFn w403):=⟨Tryz.f78,Tryz.func78,by kernel_rfl⟩
theorem l404:FnOk Tryz.prog ids alts 404 (erFn w404):=⟨Tryz.f98,Tryz.func98,by kernel_rfl⟩
theorem l405:FnOk Tryz.prog ids alts 405 (erFn w405):=⟨Tryz.f99,Tryz.func99,by kernel_rfl⟩
theorem l406:FnOk Tryz.prog ids alts 406 (erFn w406):=⟨Tryz.f65,Tryz.func65,by kernel_rfl⟩
theorem l407:FnOk Tryz.prog ids alts 407 (erFn w407):=⟨Tryz.f53,Tryz.func53,by kernel_rfl⟩
theorem l408:FnOk Tryz.prog ids alts 408 (erFn w408):=⟨Tryz.f71,Tryz.func71,by kernel_rfl⟩
theorem l411:FnOk Tryz.prog ids alts 411 (erFn w411):=⟨Tryz.f117,Tryz.func117,by kernel_rfl⟩
theorem l412:FnOk Tryz.prog ids alts 412 (erFn w412):=⟨Tryz.f118,Tryz.func118,by kernel_rfl⟩
theorem l422:FnOk Tryz.prog ids alts 422 (erFn w422):=⟨Tryz.f61,Tryz.func61,by kernel_rfl⟩
theorem l423:FnOk Tryz.prog ids alts 423 (erFn w423):=⟨Tryz.f62,Tryz.func62,by kernel_rfl⟩
theorem l424:FnOk Tryz.prog ids alts 424 (erFn w424):=⟨Tryz.f63,Tryz.func63,by kernel_rfl⟩
theorem l425:FnOk Tryz.prog ids alts 425 (erFn w425):=⟨Tryz.f64,Tryz.func64,by kernel_rfl⟩
theorem l426:FnOk Tryz.prog ids alts 426 (erFn w426):=⟨Tryz.f89,Tryz.func89,by kernel_rfl⟩
theorem l433:FnOk Tryz.prog ids alts 433 (erFn w433):=⟨Tryz.f163,Tryz.func163,by kernel_rfl⟩
theorem l434:FnOk Tryz.prog ids alts 434 (erFn w434):=⟨Tryz.f164,Tryz.func164,by kernel_rfl⟩
theorem l439:FnOk Tryz.prog ids alts 439 (erFn w439):=⟨Tryz.f160,Tryz.func160,by kernel_rfl⟩
theorem l441:FnOk Tryz.prog ids alts 441 (erFn w441):=⟨Tryz.f96,Tryz.func96,by kernel_rfl⟩
theorem l442:FnOk Tryz.prog ids alts 442 (erFn w442):=⟨Tryz.f97,Tryz.func97,by kernel_rfl⟩
theorem l459:FnOk Tryz.prog ids alts 459 (erFn w459):=⟨Tryz.f165,Tryz.func165,by kernel_rfl⟩
theorem l460:FnOk Tryz.prog ids alts 460 (erFn w460):=⟨Tryz.f166,Tryz.func166,by kernel_rfl⟩
theorem l464:FnOk Tryz.prog ids alts 464 (erFn w464):=⟨Tryz.f9,Tryz.func9,by kernel_rfl⟩
theorem l465:FnOk Tryz.prog ids alts 465 (erFn w465):=⟨Tryz.f13,Tryz.func13,by kernel_rfl⟩
theorem l466:FnOk Tryz.prog ids alts 466 (erFn w466):=⟨Tryz.f43,Tryz.func43,by kernel_rfl⟩
theorem l467:FnOk Tryz.prog ids alts 467 (erFn w467):=⟨Tryz.f44,Tryz.func44,by kernel_rfl⟩
theorem l494:FnOk Tryz.prog ids alts 494 (erFn w494):=⟨Tryz.f101,Tryz.func101,by kernel_rfl⟩
theorem l495:FnOk Tryz.prog ids alts 495 (erFn w495):=⟨Tryz.f102,Tryz.func102,by kernel_rfl⟩
theorem l496:FnOk Tryz.prog ids alts 496 (erFn w496):=⟨Tryz.f103,Tryz.func103,by kernel_rfl⟩
theorem l497:FnOk Tryz.prog ids alts 497 (erFn w497):=⟨Tryz.f104,Tryz.func104,by kernel_rfl⟩
theorem l498:FnOk Tryz.prog ids alts 498 (erFn w498):=⟨Tryz.f105,Tryz.func105,by kernel_rfl⟩
theorem l499:FnOk Tryz.prog ids alts 499 (erFn w499):=⟨Tryz.f106,Tryz.func106,by kernel_rfl⟩
theorem l500:FnOk Tryz.prog ids alts 500 (erFn w500):=⟨Tryz.f107,Tryz.func107,by kernel_rfl⟩
theorem l501:FnOk Tryz.prog ids alts 501 (erFn w501):=⟨Tryz.f108,Tryz.func108,by kernel_rfl⟩
theorem l502:FnOk Tryz.prog ids alts 502 (erFn w502):=⟨Tryz.f129,Tryz.func129,by kernel_rfl⟩
theorem l503:FnOk Tryz.prog ids alts 503 (erFn w503):=⟨Tryz.f130,Tryz.func130,by kernel_rfl⟩
theorem l504:FnOk Tryz.prog ids alts 504 (erFn w504):=⟨Tryz.f86,Tryz.func86,by kernel_rfl⟩
theorem l505:FnOk Tryz.prog ids alts 505 (erFn w505):=⟨Tryz.f100,Tryz.func100,by kernel_rfl⟩
theorem l510:FnOk Tryz.prog ids alts 510 (erFn w510):=⟨Tryz.f92,Tryz.func92,by kernel_rfl⟩
theorem l511:FnOk Tryz.prog ids alts 511 (erFn w511):=⟨Tryz.f93,Tryz.func93,by kernel_rfl⟩
theorem l512:FnOk Tryz.prog ids alts 512 (erFn w512):=⟨Tryz.f94,Tryz.func94,by kernel_rfl⟩
theorem l513:FnOk Tryz.prog ids alts 513 (erFn w513):=⟨Tryz.f95,Tryz.func95,by kernel_rfl⟩
theorem l516:FnOk Tryz.prog ids alts 516 (erFn w516):=⟨Tryz.f167,Tryz.func167,by kernel_rfl⟩
theorem l517:FnOk Tryz.prog ids alts 517 (erFn w517):=⟨Tryz.f168,Tryz.func168,by kernel_rfl⟩
theorem l518:FnOk Tryz.prog ids alts 518 (erFn w518):=⟨Tryz.f169,Tryz.func169,by kernel_rfl⟩
theorem l519:FnOk Tryz.prog ids alts 519 (erFn w519):=⟨Tryz.f170,Tryz.func170,by kernel_rfl⟩
theorem l520:FnOk Tryz.prog ids alts 520 (erFn w520):=⟨Tryz.f128,Tryz.func128,by kernel_rfl⟩
theorem l543:FnOk Tryz.prog ids alts 543 (erFn w543):=⟨Tryz.f132,Tryz.func132,by kernel_rfl⟩
theorem l544:FnOk Tryz.prog ids alts 544 (erFn w544):=⟨Tryz.f133,Tryz.func133,by kernel_rfl⟩
theorem l545:FnOk Tryz.prog ids alts 545 (erFn w545):=⟨Tryz.f134,Tryz.func134,by kernel_rfl⟩
theorem l546:FnOk Tryz.prog ids alts 546 (erFn w546):=⟨Tryz.f135,Tryz.func135,by kernel_rfl⟩
theorem l547:FnOk Tryz.prog ids alts 547 (erFn w547):=⟨Tryz.f136,Tryz.func136,by kernel_rfl⟩
theorem l548:FnOk Tryz.prog ids alts 548 (erFn w548):=⟨Tryz.f145,Tryz.func145,by kernel_rfl⟩
theorem l549:FnOk Tryz.prog ids alts 549 (erFn w549):=⟨Tryz.f146,Tryz.func146,by kernel_rfl⟩
theorem l550:FnOk Tryz.prog ids alts 550 (erFn w550):=⟨Tryz.f131,Tryz.func131,by kernel_rfl⟩
theorem l556:FnOk Tryz.prog ids alts 556 (erFn w556):=⟨Tryz.f124,Tryz.func124,by kernel_rfl⟩
theorem l557:FnOk Tryz.prog ids alts 557 (erFn w557):=⟨Tryz.f125,Tryz.func125,by kernel_rfl⟩
theorem l558:FnOk Tryz.prog ids alts 558 (erFn w558):=⟨Tryz.f126,Tryz.func126,by kernel_rfl⟩
theorem l559:FnOk Tryz.prog ids alts 559 (erFn w559):=⟨Tryz.f127,Tryz.func127,by kernel_rfl⟩
theorem l560:FnOk Tryz.prog ids alts 560 (erFn w560):=⟨Tryz.f171,Tryz.func171,by kernel_rfl⟩
theorem l561:FnOk Tryz.prog ids alts 561 (erFn w561):=⟨Tryz.f172,Tryz.func172,by kernel_rfl⟩
theorem l562:FnOk Tryz.prog ids alts 562 (erFn w562):=⟨Tryz.f173,Tryz.func173,by kernel_rfl⟩
theorem l563:FnOk Tryz.prog ids alts 563 (erFn w563):=⟨Tryz.f144,Tryz.func144,by kernel_rfl⟩
theorem l578:FnOk Tryz.prog ids alts 578 (erFn w578):=⟨Tryz.f148,Tryz.func148,by kernel_rfl⟩
theorem l579:FnOk Tryz.prog ids alts 579 (erFn w579):=⟨Tryz.f149,Tryz.func149,by kernel_rfl⟩
theorem l580:FnOk Tryz.prog ids alts 580 (erFn w580):=⟨Tryz.f150,Tryz.func150,by kernel_rfl⟩
theorem l581:FnOk Tryz.prog ids alts 581 (erFn w581):=⟨Tryz.f151,Tryz.func151,by kernel_rfl⟩
theorem l582:FnOk Tryz.prog ids alts 582 (erFn w582):=⟨Tryz.f152,Tryz.func152,by kernel_rfl⟩
theorem l583:FnOk Tryz.prog ids alts 583 (erFn w583):=⟨Tryz.f153,Tryz.func153,by kernel_rfl⟩
theorem l584:FnOk Tryz.prog ids alts 584 (erFn w584):=⟨Tryz.f154,Tryz.func154,by kernel_rfl⟩
theorem l585:FnOk Tryz.prog ids alts 585 (erFn w585):=⟨Tryz.f158,Tryz.func158,by kernel_rfl⟩
theorem l586:FnOk Tryz.prog ids alts 586 (erFn w586):=⟨Tryz.f147,Tryz.func147,by kernel_rfl⟩
theorem l592:FnOk Tryz.prog ids alts 592 (erFn w592):=⟨Tryz.f161,Tryz.func161,by kernel_rfl⟩
theorem l593:FnOk Tryz.prog ids alts 593 (erFn w593):=⟨Tryz.f162,Tryz.func162,by kernel_rfl⟩
theorem l594:FnOk Tryz.prog ids alts 594 (erFn w594):=⟨Tryz.f159,Tryz.func159,by kernel_rfl⟩
theorem l2016:FnOk Tryz.prog ids alts 2016 (erFn w97):=⟨Tryz.f75,Tryz.func75,by kernel_rfl⟩
theorem l2004:FnOk Tryz.prog ids alts 2004 (erFn w2004):=⟨Tryz.f54,Tryz.func54,by kernel_rfl⟩
theorem l2005:FnOk Tryz.prog ids alts 2005 (erFn w274):=⟨Tryz.f55,Tryz.func55,by kernel_rfl⟩
theorem l2006:FnOk Tryz.prog ids alts 2006 (erFn w275):=⟨Tryz.f56,Tryz.func56,by kernel_rfl⟩
theorem l4002:FnOk Tryz.prog ids alts 4002 (erFn w274):=⟨Tryz.f55,Tryz.func55,by kernel_rfl⟩
theorem l4001:FnOk Tryz.prog ids alts 4001 (erFn w4001):=⟨Tryz.f22,Tryz.func22,by kernel_rfl⟩
theorem l3004:FnOk Tryz.prog ids alts 3004 (erFn w226):=⟨Tryz.f141,Tryz.func141,by kernel_rfl⟩
theorem l3003:FnOk Tryz.prog ids alts 3003 (erFn w3003):=⟨Tryz.f111,Tryz.func111,by kernel_rfl⟩
theorem l3002:FnOk Tryz.prog ids alts 3002 (erFn w3002):=⟨Tryz.f79,Tryz.func79,by kernel_rfl⟩
theorem l3001:FnOk Tryz.prog ids alts 3001 (erFn w3001):=⟨Tryz.f45,Tryz.func45,by kernel_rfl⟩
theorem l2019:FnOk Tryz.prog ids alts 2019 (erFn w2019):=⟨Tryz.f46,Tryz.func46,by kernel_rfl⟩
theorem l1102:FnOk Tryz.prog ids alts 1102 (erFn w102):=⟨Tryz.f138,Tryz.func138,by kernel_rfl⟩
theorem l1191:FnOk Tryz.prog ids alts 1191 (erFn w191):=⟨Tryz.f139,Tryz.func139,by kernel_rfl⟩
theorem l1100:FnOk Tryz.prog ids alts 1100 (erFn w1100):=⟨Tryz.f109,Tryz.func109,by kernel_rfl⟩
def prog:WProg:=⟨tree,Go.D.inlB,Go.D.ppB⟩
theorem all:TreeAll (FnOk Tryz.prog ids alts) (erProg prog).fns:=⟨⟨⟨⟨⟨⟨⟨⟨trivial,l0,trivial⟩,l97,trivial⟩,l99,⟨⟨trivial,l102,trivial⟩,l111,trivial⟩⟩,l112,⟨⟨⟨trivial,l115,trivial⟩,l120,trivial⟩,l121,⟨trivial,l122,trivial⟩⟩⟩,l126,⟨⟨⟨⟨trivial,l130,trivial⟩,l131,trivial⟩,l132,⟨⟨trivial,l133,trivial⟩,l135,trivial⟩⟩,l137,⟨⟨⟨trivial,l140,trivial⟩,l149,trivial⟩,l160,⟨trivial,l161,trivial⟩⟩⟩⟩,l172,⟨⟨⟨⟨⟨trivial,l173,trivial⟩,l174,trivial⟩,l175,⟨⟨trivial,l176,trivial⟩,l178,trivial⟩⟩,l191,⟨⟨⟨trivial,l192,trivial⟩,l201,trivial⟩,l219,⟨trivial,l221,trivial⟩⟩⟩,l222,⟨⟨⟨⟨trivial,l223,trivial⟩,l224,trivial⟩,l225,⟨⟨trivial,l226,trivial⟩,l227,trivial⟩⟩,l230,⟨⟨⟨trivial,l231,trivial⟩,l232,trivial⟩,l235,⟨trivial,l236,trivial⟩⟩⟩⟩⟩,l239,⟨⟨⟨⟨⟨⟨trivial,l240,trivial⟩,l246,trivial⟩,l247,⟨⟨trivial,l248,trivial⟩,l249,trivial⟩⟩,l250,⟨⟨⟨trivial,l251,trivial⟩,l252,trivial⟩,l253,⟨trivial,l256,trivial⟩⟩⟩,l270,⟨⟨⟨⟨trivial,l271,trivial⟩,l272,trivial⟩,l273,⟨⟨trivial,l274,trivial⟩,l275,trivial⟩⟩,l276,⟨⟨⟨trivial,l282,trivial⟩,l304,trivial⟩,l312,⟨trivial,l313,trivial⟩⟩⟩⟩,l314,⟨⟨⟨⟨⟨trivial,l318,trivial⟩,l319,trivial⟩,l321,⟨⟨trivial,l322,trivial⟩,l323,trivial⟩⟩,l327,⟨⟨⟨trivial,l340,trivial⟩,l344,trivial⟩,l347,⟨trivial,l348,trivial⟩⟩⟩,l349,⟨⟨⟨⟨trivial,l350,trivial⟩,l351,trivial⟩,l352,⟨trivial,l367,trivial⟩⟩,l379,⟨⟨⟨trivial,l398,trivial⟩,l399,trivial⟩,l400,⟨trivial,l402,trivial⟩⟩⟩⟩⟩⟩,l403,⟨⟨⟨⟨⟨⟨⟨trivial,l404,trivial⟩,l405,trivial⟩,l406,⟨⟨trivial,l407,trivial⟩,l408,trivial⟩⟩,l411,⟨⟨⟨trivial,l412,trivial⟩,l422,trivial⟩,l423,⟨trivial,l424,trivial⟩⟩⟩,l425,⟨⟨⟨⟨trivial,l426,trivial⟩,l433,trivial⟩,l434,⟨⟨trivial,l439,trivial⟩,l441,trivial⟩⟩,l442,⟨⟨⟨trivial,l459,trivial⟩,l460,trivial⟩,l464,⟨trivial,l465,trivial⟩⟩⟩⟩,l466,⟨⟨⟨⟨⟨trivial,l467,trivial⟩,l494,trivial⟩,l495,⟨⟨trivial,l496,trivial⟩,l497,trivial⟩⟩,l498,⟨⟨⟨trivial,l499,trivial⟩,l500,trivial⟩,l501,⟨trivial,l502,trivial⟩⟩⟩,l503,⟨⟨⟨⟨trivial,l504,trivial⟩,l505,trivial⟩,l510,⟨⟨trivial,l511,trivial⟩,l512,trivial⟩⟩,l513,⟨⟨⟨trivial,l516,trivial⟩,l517,trivial⟩,l518,⟨trivial,l519,trivial⟩⟩⟩⟩⟩,l520,⟨⟨⟨⟨⟨⟨trivial,l543,trivial⟩,l544,trivial⟩,l545,⟨⟨trivial,l546,trivial⟩,l547,trivial⟩⟩,l548,⟨⟨⟨trivial,l549,trivial⟩,l550,trivial⟩,l556,⟨trivial,l557,trivial⟩⟩⟩,l558,⟨⟨⟨⟨trivial,l559,trivial⟩,l560,trivial⟩,l561,⟨⟨trivial,l562,trivial⟩,l563,trivial⟩⟩,l578,⟨⟨⟨trivial,l579,trivial⟩,l580,trivial⟩,l581,⟨trivial,l582,trivial⟩⟩⟩⟩,l583,⟨⟨⟨⟨⟨trivial,l584,trivial⟩,l585,trivial⟩,l586,⟨⟨trivial,l592,trivial⟩,l593,trivial⟩⟩,l594,⟨⟨⟨trivial,l1100,trivial⟩,l1102,trivial⟩,l1191,⟨trivial,l2004,trivial⟩⟩⟩,l2005,⟨⟨⟨⟨trivial,l2006,trivial⟩,l2016,trivial⟩,l2019,⟨trivial,l3001,trivial⟩⟩,l3002,⟨⟨⟨trivial,l3003,trivial⟩,l3004,trivial⟩,l4001,⟨trivial,l4002,trivial⟩⟩⟩⟩⟩⟩⟩
theorem okT:okTree prog.fns=true:=by kernel_rfl
theorem link:Linked Tryz.prog (phiG ids alts) (psiOf ids) (erProg prog):=linked (by kernel_rfl) (by kernel_rfl) all (by kernel_rfl)
end P
end
section
namespace Go.Pw
open Go Go.Pav
inductive CT where
 | bool
 | int (k:IntKind)
 | str
 | slice (ts:List CT)
inductive Ty:CT→AV→Prop
 | bool (b:Bool):Ty .bool (.bool b)
 | int (k:IntKind) (n:Int) (h1:k.min≤n) (h2:n≤k.max):Ty (.int k) (.int k n)
 | str (s:List UInt8) (h:s.length < 2 ^ 63):Ty .str (.str s)
 | slice (ts:List CT) (es:List (List AV)) (ex:Bool) (hn:es.length < 2 ^ 63) (hw:∀ (i:Nat) (e:List AV),es[i]?=some e→e.length=ts.length)
  (h:∀ (i:Nat) (e:List AV) (j:Nat) (ct:CT) (x:AV),es[i]?=some e→ts[j]?=some ct→e[j]?=some x→Ty ct x):Ty (.slice ts) (.ro ts.length es ex)
theorem Ty.isC {ct:CT} {a:AV} (h:Ty ct a):Pw.isC a=true:=by cases h <;> rfl
def fieldsT (F:TypeId→Option (List CT)) (P:Program):List Field→Nat→Option (List CT)
 | [],_=>some []
 | f::r,off=>(F f.type).bind fun ts=>if f.offset=off∧ts.length=P.cellsOf f.type then (fieldsT F P r (off+ts.length)).map (ts++·) else none
def flatT (P:Program):Nat→TypeId→Option (List CT)
 | 0,_=>none
 | n+1,t=>match P.underlying t with
  | some .bool=>some [.bool]
  | some (.int k)=>some [.int k]
  | some .string=>some [.str]
  | some (.slice e)=>(flatT P n e).bind fun ts=>if ts.length=P.cellsOf e∧0 < ts.length then some [.slice ts] else none
  | some (.struct fs)=>(fieldsT (flatT P n) P fs.toList 0).bind fun ts=>if ts.length=P.cellsOf t then some ts else none
  | some (.array m e)=>(flatT P n e).bind fun ts=>if ts.length=P.cellsOf e∧m * ts.length=P.cellsOf t then some (List.replicate m ts).flatten else none
  | _=>none
theorem flatten_rep {α:Type} (ts:List α):∀ (m j:Nat),j < m * ts.length→(List.replicate m ts).flatten[j]?=ts[j % ts.length]?
 | 0,j,h=>by simp at h
 | m+1,j,h=>by
  rw [List.replicate_succ,List.flatten_cons]
  rcases Nat.lt_or_ge j ts.length with hl | hl
  · rw [List.getElem?_append_left hl,Nat.mod_eq_of_lt hl]
  · rw [List.getElem?_append_right hl,flatten_rep ts m (j - ts.length) (by rw [Nat.add_mul] at h;omega),Nat.mod_eq_sub_mod hl]
theorem trod_array {H:Type} {enc:TypeId × Value→H} {P:Program} {w:World} {base:Nat} {spare:Nat→Bool} {held:Bool} {fuel:Nat} {t:TypeId} {cs:List Value} {x:DataW H × List MemPlace} {m:Nat} {e:TypeId}
 (ht:P.underlying t=some (.array m e)) (h:DataW.trod enc P w base spare held fuel t cs=some x) :
 ∃ (xs:List (DataW H × List MemPlace)) (n:Nat),fuel=n+1∧cs.length=P.cellsOf t∧xs.length=m ∧
  ∀ i,i < m→DataW.trod enc P w base spare held n e ((cs.drop (i * P.cellsOf e)).take (P.cellsOf e))=xs[i]?:=by
 cases fuel with
 | zero=>simp [DataW.trod] at h
 | succ n =>
  unfold DataW.trod at h
  rw [ht] at h
  split at h <;> simp_all
  obtain ⟨hl,xs,hp,hd⟩:=h
  exact ⟨xs,by simpa using mapM_some_length hp,fun i hi=>mapM_some_get hp i i (List.getElem?_range hi)⟩
def CellOk (ψ:Nat→FuncId) (W:World) (ct:CT) (v:Value):Prop :=
 ∃ a a',Ty ct a∧VD id (fun _=>False) a a'∧a'.cell=true∧VR ψ W (fun c=>c < W.heap.size) (fun _=>(0,0)) (fun _=>False) a' v
section
variable {H:Type} {enc:TypeId × Value→H} {P:Program} {W:World} {ψ:Nat→FuncId}
theorem fields_open {F:TypeId→Option (List CT)} {n:Nat} {cs:List Value}
 (hF:∀ t cs x ts,F t=some ts→DataW.trod enc P W 0 (fun _=>true) true n t cs=some x→cs.length=ts.length∧∀ (j:Nat) (ct:CT),ts[j]?=some ct→∃ v,cs[j]?=some v∧CellOk ψ W ct v) :
 ∀ (fs:List Field) (off:Nat) (ts:List CT),fieldsT F P fs off=some ts→(∀ f ∈ fs,∃ x,DataW.trod enc P W 0 (fun _=>true) true n f.type ((cs.drop f.offset).take (P.cellsOf f.type))=some x) →
  ∀ (j:Nat) (ct:CT),ts[j]?=some ct→∃ v,cs[off+j]?=some v∧CellOk ψ W ct v:=by
 intro fs
 induction fs with
 | nil=>intro off ts h _ j ct hj;simp only [fieldsT,Option.some.injEq] at h;subst h;simp at hj
 | cons f r ih =>
  intro off ts h hx j ct hj
  simp only [fieldsT,Option.bind_eq_some_iff] at h
  obtain ⟨t1,h1,h⟩:=h
  split at h
  · rename_i hc
    simp only [Option.map_eq_some_iff] at h
    obtain ⟨t2,h2,rfl⟩:=h
    rcases Nat.lt_or_ge j t1.length with hl | hl
    · rw [List.getElem?_append_left hl] at hj
      obtain ⟨x,q⟩:=hx f (by simp)
      obtain ⟨v,q1,q2⟩:=(hF _ _ _ _ h1 q).2 j ct hj
      refine ⟨v,?_,q2⟩
      rw [List.getElem?_take] at q1
      split at q1
      · rw [List.getElem?_drop] at q1;rw [← hc.1];exact q1
      · cases q1
    · rw [List.getElem?_append_right hl] at hj
      obtain ⟨v,q1,q2⟩:=ih _ _ h2 (fun f hf=>hx f (by simp [hf])) _ ct hj
      exact ⟨v,by rw [← q1];congr 1;omega,q2⟩
  · cases h
theorem cells_open:∀ (n k:Nat) (t:TypeId) (cs:List Value) (x:DataW H × List MemPlace) (ts:List CT),flatT P k t=some ts→DataW.trod enc P W 0 (fun _=>true) true n t cs=some x →
 cs.length=ts.length∧∀ (j:Nat) (ct:CT),ts[j]?=some ct→∃ v,cs[j]?=some v∧CellOk ψ W ct v:=by
 intro n
 induction n with
 | zero=>intro k t cs x ts _ h;simp [DataW.trod] at h
 | succ n ih =>
  intro k t cs x ts hf h
  cases k with
  | zero=>simp [flatT] at hf
  | succ k =>
   have one:∀ {v:Value} {ct:CT},cs=[v]→ts=[ct]→CellOk ψ W ct v→cs.length=ts.length∧∀ (j:Nat) (ct:CT),ts[j]?=some ct→∃ v,cs[j]?=some v∧CellOk ψ W ct v:=by
    intro v ct h1 h2 h3
    subst h1;subst h2
    refine ⟨rfl,fun j ct' hj=>?_⟩
    cases j with
    | zero=>simp only [List.getElem?_cons_zero,Option.some.injEq] at hj;subst hj;exact ⟨v,rfl,h3⟩
    | succ j=>simp at hj
   unfold flatT at hf
   split at hf
   · rename_i ht
     cases hf
     obtain ⟨b,e,_⟩:=DataW.trod_bool ht h
     exact one e rfl ⟨_,_,.bool b,.bool b,rfl,.bool b⟩
   · rename_i k' ht
     cases hf
     obtain ⟨m,e,_,hw⟩:=DataW.trod_int ht h
     simp only [Lit.wf,Bool.and_eq_true,decide_eq_true_eq] at hw
     exact one e rfl ⟨_,_,.int k' m hw.1 hw.2,.int k' m,rfl,.int k' m⟩
   · rename_i ht
     cases hf
     obtain ⟨s,e,_,hw⟩:=DataW.trod_string ht h
     refine one e rfl ⟨.str s.data.toList,_,.str _ ?_,.str _,rfl,?_⟩
     · simp only [maxLen] at hw
       have:s.data.toList.length=s.size:=rfl
       omega
     · have:=VR.str (ψ:=ψ) (w:=W) (S:=fun c=>c < W.heap.size) (m:=fun _=>(0,0)) (A:=fun _=>False) s.data.toList
       exact this
   · rename_i el ht
     simp only [Option.bind_eq_some_iff] at hf
     obtain ⟨us,hu,hf⟩:=hf
     split at hf
     · rename_i hz
       obtain ⟨hz,hz0⟩:=hz
       cases hf
       rcases DataW.trod_slice ht h with ⟨e,_⟩ | ⟨a,len,cap,elems,rest,n',hn,e,_,_,hl,hm,hlen,hel,hsp,_⟩
       · exact one e rfl ⟨.ro us.length [] true,.nils,.slice us [] true (by simp) (by simp) (by simp),.ronil _ _,rfl,.nils⟩
       · cases hn
         refine one e rfl ?_
         have row:∀ i,i < cap→∃ vs y,W.cells? 0 (a.add (i * us.length)) us.length=some vs∧DataW.trod enc P W 0 (fun _=>true) true n el vs=some y:=by
          intro i hi
          rcases Nat.lt_or_ge i len with hil | hil
          · have:=hel i hil
            rw [List.getElem?_eq_getElem (by omega),Option.bind_eq_some_iff,← hz] at this
            obtain ⟨vs,q1,q2⟩:=this
            exact ⟨vs,_,q1,q2⟩
          · obtain ⟨q0,q⟩:=hsp rfl
            have:=q (i - len) (by omega)
            rw [List.getElem?_eq_getElem (by omega),Option.bind_eq_some_iff,← hz,show len+(i - len)=i by omega] at this
            obtain ⟨vs,q1,q2⟩:=this
            exact ⟨vs,_,q1,q2⟩
         rcases Nat.eq_zero_or_pos cap with hc0 | hc0
         · subst hc0
           obtain rfl:len=0:=by omega
           exact ⟨.ro us.length [] true,.ro us.length [] true,.slice us [] true (by simp) (by simp) (by simp),.ro _ [] [] true true (by simp) rfl id (by simp) (by simp),rfl,.roe _ _ _⟩
         · obtain ⟨b,off,spot⟩:=a
           have hfirst:∃ v,W.cell? ⟨b,off,spot⟩=some v:=by
            obtain ⟨vs,_,q1,_⟩:=row 0 hc0
            obtain ⟨_,q2,q3⟩:=World.cells?_some q1
            have:=q3 0 hz0
            rw [List.getElem?_eq_getElem (by omega)] at this
            exact ⟨_,by simpa [Addr.add] using this⟩
           obtain ⟨v0,hv0⟩:=hfirst
           obtain rfl:spot=none:=World.cell?_spot hv0
           have hS:b < W.heap.size:=by
            unfold World.cell? at hv0
            split at hv0
            · rename_i hb;exact (Array.getElem?_eq_some_iff.1 hb).1
            · cases hv0
           have key:∀ p:Nat × Nat,∃ q:Value × AV × AV,p.1 < len→∀ ct,us[p.2]?=some ct→W.cell? ⟨b,off+p.1 * us.length+p.2,none⟩=some q.1∧Ty ct q.2.1∧VD id (fun _=>False) q.2.1 q.2.2∧q.2.2.cell=true ∧
            VR ψ W (fun c=>c < W.heap.size) (fun _=>(0,0)) (fun _=>False) q.2.2 q.1:=by
            intro ⟨i,j⟩
            by_cases hi:i < len
            · cases hj:us[j]? with
              | none=>exact ⟨default,fun _ ct q=>by cases q⟩
              | some ct =>
               obtain ⟨vs,y,q1,q2⟩:=row i (by omega)
               obtain ⟨v,q3,c1,c2,q4,q5,q6,q7⟩:=(ih _ _ _ _ _ hu q2).2 j ct hj
               refine ⟨(v,c1,c2),fun _ ct' q=>?_⟩
               cases q
               refine ⟨?_,q4,q5,q6,q7⟩
               obtain ⟨_,r1,r2⟩:=World.cells?_some q1
               have hjl:j < us.length:=(List.getElem?_eq_some_iff.1 hj).1
               have:=r2 j hjl
               rw [q3] at this
               rw [← this]
               congr 1
               simp only [Addr.add]
               split <;> split <;> simp_all <;> omega
            · exact ⟨default,fun q=>absurd q hi⟩
           obtain ⟨F,hF⟩:=Classical.axiomOfChoice key
           let es:List (List AV):=(List.range len).map fun i=>(List.range us.length).map fun j=>(F (i,j)).2.1
           let es':List (List AV):=(List.range len).map fun i=>(List.range us.length).map fun j=>(F (i,j)).2.2
           have g1:∀ (i:Nat) (e:List AV),es[i]?=some e→i < len∧e=(List.range us.length).map fun j=>(F (i,j)).2.1:=by
            intro i e he
            simp only [es,List.getElem?_map,Option.map_eq_some_iff] at he
            obtain ⟨i',q1,q2⟩:=he
            have:=List.getElem?_eq_some_iff.1 q1
            obtain ⟨q3,q4⟩:=this
            simp at q3 q4
            subst q4
            exact ⟨q3,q2.symm⟩
           have g1':∀ (i:Nat) (e:List AV),es'[i]?=some e→i < len∧e=(List.range us.length).map fun j=>(F (i,j)).2.2:=by
            intro i e he
            simp only [es',List.getElem?_map,Option.map_eq_some_iff] at he
            obtain ⟨i',q1,q2⟩:=he
            have:=List.getElem?_eq_some_iff.1 q1
            obtain ⟨q3,q4⟩:=this
            simp at q3 q4
            subst q4
            exact ⟨q3,q2.symm⟩
           have g2:∀ (G:Nat→AV) (j:Nat) (x:AV),((List.range us.length).map G)[j]?=some x→∃ ct,us[j]?=some ct∧x=G j:=by
            intro G j x hx
            simp only [List.getElem?_map,Option.map_eq_some_iff] at hx
            obtain ⟨j',q1,q2⟩:=hx
            obtain ⟨q3,q4⟩:=List.getElem?_eq_some_iff.1 q1
            simp at q3 q4
            subst q4
            exact ⟨us[j],List.getElem?_eq_getElem q3,q2.symm⟩
           have l1:es.length=len:=by simp [es]
           have l2:es'.length=len:=by simp [es']
           refine ⟨.ro us.length es (decide (cap=len)),.ro us.length es' (decide (cap=len)),.slice us es _ ?_ ?_ ?_,.ro _ es es' _ _ ?_ (by rw [l1,l2]) id ?_ ?_,rfl,?_⟩
           · rw [l1];simp only [maxLen] at hm;omega
           · intro i e he;rw [(g1 i e he).2];simp
           · intro i e j ct y he hct hy
             obtain ⟨q1,rfl⟩:=g1 i e he
             obtain ⟨ct',q2,rfl⟩:=g2 _ j y hy
             rw [hct] at q2
             cases q2
             exact (hF (i,j) q1 ct hct).2.1
           · intro e he y hy
             obtain ⟨i,he⟩:=List.getElem?_of_mem he
             obtain ⟨j,hy⟩:=List.getElem?_of_mem hy
             obtain ⟨q1,rfl⟩:=g1 i e he
             obtain ⟨ct',q2,rfl⟩:=g2 _ j y hy
             exact (hF (i,j) q1 ct' q2).2.1.isC
           · intro i e e' he he'
             rw [(g1 i e he).2,(g1' i e' he').2];simp
           · intro i e e' j y y' he he' hy hy'
             obtain ⟨q1,rfl⟩:=g1 i e he
             obtain ⟨_,rfl⟩:=g1' i e' he'
             obtain ⟨ct',q2,rfl⟩:=g2 _ j y hy
             obtain ⟨_,_,rfl⟩:=g2 _ j y' hy'
             exact (hF (i,j) q1 ct' q2).2.2.1
           · have:=VR.ro (ψ:=ψ) (w:=W) (S:=fun c=>c < W.heap.size) (m:=fun _=>(0,0)) (A:=fun _=>False) us.length es' (decide (cap=len)) b off cap (fun i j=>(F (i,j)).1) hS
              (fun i e he=>by rw [(g1' i e he).2];simp) (by rw [l2];exact hl) (fun q=>by rw [l2];simpa using q)
              (fun i e j y he hy=>by
               obtain ⟨q1,rfl⟩:=g1' i e he
               obtain ⟨ct',q2,rfl⟩:=g2 _ j y hy
               have:=hF (i,j) q1 ct' q2
               exact ⟨this.2.2.2.1,this.1⟩)
              (fun i e j y he hy=>by
               obtain ⟨q1,rfl⟩:=g1' i e he
               obtain ⟨ct',q2,rfl⟩:=g2 _ j y hy
               exact (hF (i,j) q1 ct' q2).2.2.2.2)
             rw [l2] at this
             exact this
     · cases hf
   · rename_i fs ht
     simp only [Option.bind_eq_some_iff] at hf
     obtain ⟨us,hu,hf⟩:=hf
     split at hf
     · rename_i hz
       cases hf
       obtain ⟨xs,n',hn,_,hcl,hxl,hx⟩:=DataW.trod_struct ht h
       cases hn
       refine ⟨by rw [hcl,hz],fun j ct hj=>?_⟩
       have:=fields_open (cs:=cs) (F:=flatT P k) (n:=n) (fun t cs x ts h1 h2=>ih k t cs x ts h1 h2) fs.toList 0 _ hu (fun f hf=>by
        obtain ⟨i,hi⟩:=List.getElem?_of_mem hf
        have hi':fs[i]?=some f:=by simpa using hi
        have hlt:i < fs.size:=(Array.getElem?_eq_some_iff.1 hi').1
        have:=hx i f hi'
        rw [List.getElem?_eq_getElem (by omega)] at this
        exact ⟨_,this⟩) j ct hj
       simpa using this
     · cases hf
   · rename_i m' e ht
     simp only [Option.bind_eq_some_iff] at hf
     obtain ⟨us,hu,hf⟩:=hf
     split at hf
     · rename_i hz
       obtain ⟨hz1,hz2⟩:=hz
       cases hf
       obtain ⟨xs,n',hn,hcl,hxl,hx⟩:=trod_array ht h
       cases hn
       have hlen:(List.replicate m' us).flatten.length=m' * us.length:=by simp
       refine ⟨by rw [hcl,hlen,hz2],fun j ct hj=>?_⟩
       have hjl:j < m' * us.length:=by rw [← hlen];exact (List.getElem?_eq_some_iff.1 hj).1
       have hk:0 < us.length:=by
        rcases Nat.eq_zero_or_pos us.length with q | q
        · rw [q,Nat.mul_zero] at hjl;omega
        · exact q
       rw [flatten_rep us m' j hjl] at hj
       have hq:j / us.length < m':=Nat.div_lt_of_lt_mul (by rw [Nat.mul_comm];exact hjl)
       have hxq:=hx (j / us.length) hq
       rw [List.getElem?_eq_getElem (by omega)] at hxq
       obtain ⟨v,q1,q2⟩:=(ih k e _ _ us hu hxq).2 (j % us.length) ct hj
       refine ⟨v,?_,q2⟩
       rw [List.getElem?_take] at q1
       split at q1
       · rw [List.getElem?_drop,← hz1] at q1
         rw [← q1];congr 1
         exact (Nat.div_add_mod' j us.length).symm
       · cases q1
     · cases hf
   · cases hf
inductive AT where
 | c (ct:CT)
 | g (ts:List CT)
def AT.has:AT→AV→Prop
 | .c ct,a=>Ty ct a
 | .g ts,a=>∃ es,a=.agg es∧es.length=ts.length∧∀ (j:Nat) (ct:CT) (x:AV),ts[j]?=some ct→es[j]?=some x→Ty ct x
def argT (P:Program) (t:TypeId):Option AT :=
 match P.underlying t with
 | some (.struct _)=>(flatT P 20 t).map .g
 | some (.array _ _)=>(flatT P 20 t).map .g
 | some .bool | some (.int _) | some .string | some (.slice _)=>match flatT P 20 t with | some [ct]=>some (.c ct) | _=>none
 | _=>none
theorem cells_plain {t:TypeId} {base:Nat} {v:Value} (hu:P.underlying t=some .bool∨(∃ k,P.underlying t=some (.int k))∨P.underlying t=some .string∨∃ e,P.underlying t=some (.slice e)) (h:Value.okWide P W .any base t v) :
 v.cells=#[v]:=by
 cases v <;> try rfl
 rcases hu with hu | ⟨k,hu⟩ | hu | ⟨e,hu⟩ <;> simp [Value.okWide,hu,Cell.okWide,Cell.ok] at h
theorem arg_open {t:TypeId} {at_:AT} (ha:argT P t=some at_) {base:Nat} {v:Value} (hv:Value.okWide P W .any base t v) {d:DataW H} {p:List MemPlace} (h:DataW.Trod enc P W 0 (fun _=>true) true t v d p) :
 ∃ a a',at_.has a∧VD id (fun _=>False) a a'∧VR ψ W (fun c=>c < W.heap.size) (fun _=>(0,0)) (fun _=>False) a' v:=by
 obtain ⟨fuel,h⟩:=h
 have plain:(P.underlying t=some .bool∨(∃ k,P.underlying t=some (.int k))∨P.underlying t=some .string∨∃ e,P.underlying t=some (.slice e)) →
  (match flatT P 20 t with | some [ct]=>some (AT.c ct) | _=>none)=some at_→∃ a a',at_.has a∧VD id (fun _=>False) a a'∧VR ψ W (fun c=>c < W.heap.size) (fun _=>(0,0)) (fun _=>False) a' v:=by
  intro hu he
  split at he
  · rename_i ct hf
    cases he
    rw [cells_plain hu hv] at h
    obtain ⟨_,q⟩:=cells_open (ψ:=ψ) _ _ _ _ _ _ hf h
    obtain ⟨v',q1,a,a',q2,q3,_,q4⟩:=q 0 ct rfl
    simp only [List.getElem?_cons_zero,Option.some.injEq] at q1
    subst q1
    exact ⟨a,a',q2,q3,q4⟩
  · cases he
 have whole:(∃ cs,v=.agg cs)→(flatT P 20 t).map AT.g=some at_→∃ a a',at_.has a∧VD id (fun _=>False) a a'∧VR ψ W (fun c=>c < W.heap.size) (fun _=>(0,0)) (fun _=>False) a' v:=by
  rintro ⟨cs,rfl⟩ ha
  simp only [Option.map_eq_some_iff] at ha
  obtain ⟨ts,hf,rfl⟩:=ha
  obtain ⟨hl,q⟩:=cells_open (ψ:=ψ) _ _ _ _ _ _ hf h
  simp only [Value.cells] at hl q
  have key:∀ j:Nat,∃ x:AV × AV,∀ ct,ts[j]?=some ct→Ty ct x.1∧VD id (fun _=>False) x.1 x.2∧x.2.cell=true∧∃ v,cs.toList[j]?=some v∧VR ψ W (fun c=>c < W.heap.size) (fun _=>(0,0)) (fun _=>False) x.2 v:=by
   intro j
   cases hj:ts[j]? with
   | none=>exact ⟨default,fun _ q=>by cases q⟩
   | some ct =>
    obtain ⟨v,q1,a,a',q2,q3,q4,q5⟩:=q j ct hj
    exact ⟨(a,a'),fun ct' e=>by cases e;exact ⟨q2,q3,q4,v,q1,q5⟩⟩
  obtain ⟨F,hF⟩:=Classical.axiomOfChoice key
  have g2:∀ (G:Nat→AV) (j:Nat) (x:AV),((List.range ts.length).map G)[j]?=some x→∃ ct,ts[j]?=some ct∧x=G j:=by
   intro G j x hx
   simp only [List.getElem?_map,Option.map_eq_some_iff] at hx
   obtain ⟨j',q1,q2⟩:=hx
   obtain ⟨q3,q4⟩:=List.getElem?_eq_some_iff.1 q1
   simp at q3 q4
   subst q4
   exact ⟨ts[j],List.getElem?_eq_getElem q3,q2.symm⟩
  refine ⟨.agg ((List.range ts.length).map fun j=>(F j).1),.agg ((List.range ts.length).map fun j=>(F j).2),⟨_,rfl,by simp,?_⟩,.agg _ _ (by simp) ?_,.agg _ _ ?_ ?_ ?_⟩
  · intro j ct x hct hx
    obtain ⟨ct',q1,rfl⟩:=g2 _ j x hx
    exact (hF j ct hct).1
  · intro j x x' hx hx'
    obtain ⟨ct,q1,rfl⟩:=g2 _ j x hx
    obtain ⟨_,_,rfl⟩:=g2 _ j x' hx'
    exact (hF j ct q1).2.1
  · simp only [List.length_map,List.length_range]
    rw [← hl];simp
  · intro j x hx
    obtain ⟨ct,q1,rfl⟩:=g2 _ j x hx
    exact (hF j ct q1).2.2.1
  · intro j x hx
    obtain ⟨ct,q1,rfl⟩:=g2 _ j x hx
    obtain ⟨v,q2,q3⟩:=(hF j ct q1).2.2.2
    have e:cs[j]?=some v:=by simpa using q2
    rw [Array.getD_eq_getD_getElem?,e]
    exact q3
 unfold argT at ha
 split at ha
 · rename_i fs ht
   simp only [Value.okWide,ht] at hv
   obtain ⟨cs,hv,_,_⟩:=hv
   exact whole ⟨cs,hv⟩ ha
 · rename_i m e ht
   simp only [Value.okWide,ht] at hv
   obtain ⟨cs,hv,_,_⟩:=hv
   exact whole ⟨cs,hv⟩ ha
 · rename_i ht;exact plain (.inl ht) ha
 · rename_i k ht;exact plain (.inr (.inl ⟨k,ht⟩)) ha
 · rename_i ht;exact plain (.inr (.inr (.inl ht))) ha
 · rename_i e ht;exact plain (.inr (.inr (.inr ⟨e,ht⟩))) ha
 · cases ha
def TyAll:List AT→List AV→Prop
 | [],[]=>True
 | a::r,x::s=>a.has x∧TyAll r s
 | _,_=>False
theorem args_open {base:Nat}:∀ {ts:List TypeId} {ats:List AT} {vs:List Value} {ds:List (DataW H)} {p:List MemPlace},ts.map (argT P)=ats.map some →
 (∀ (j:Nat) (t:TypeId) (v:Value),ts[j]?=some t→vs[j]?=some v→Value.okWide P W .any base t v)→DataW.TrodAll enc P W 0 (fun _=>true) true ts vs ds p →
 ∃ us us',TyAll ats us∧Rel2 (VD id fun _=>False) us us'∧us'.length=vs.length∧∀ (j:Nat) (x:AV) (v:Value),us'[j]?=some x→vs[j]?=some v→VR ψ W (fun c=>c < W.heap.size) (fun _=>(0,0)) (fun _=>False) x v
 | [],[],vs,ds,p,_,_,h=>by
  obtain ⟨rfl,_,_⟩:=ChangeShapes.trodAll_nil h
  exact ⟨[],[],trivial,⟨rfl,by simp⟩,rfl,by simp⟩
 | t::ts,at_::ats,_,_,_,hm,hv,h=>by
  obtain ⟨v,vs1,d,ds1,p1,q1,rfl,rfl,rfl,h1,h2⟩:=ChangeShapes.trodAll_cons h
  simp only [List.map_cons,List.cons.injEq] at hm
  obtain ⟨a,a',r1,r2,r3⟩:=arg_open (ψ:=ψ) hm.1 (hv 0 t v rfl rfl) h1
  obtain ⟨us,us',s1,s2,s3,s4⟩:=args_open hm.2 (fun j t v e1 e2=>hv (j+1) t v e1 e2) h2
  refine ⟨a::us,a'::us',⟨r1,s1⟩,⟨by simp [s2.1],fun j x x' e1 e2=>?_⟩,by simp [s3],fun j x v' e1 e2=>?_⟩
  · cases j with
    | zero=>cases e1;cases e2;exact r2
    | succ j=>exact s2.2 j x x' e1 e2
  · cases j with
    | zero=>cases e1;cases e2;exact r3
    | succ j=>exact s4 j x v' e1 e2
 | [],_::_,_,_,_,hm,_,_=>by simp at hm
 | _::_,[],_,_,_,hm,_,_=>by simp at hm
theorem law_calls {Φ:Nat→FuncId→Option Nat} {D:WProg} (hL:Linked P Φ ψ (erProg D)) (hok:okTree D.fns=true) {f:Nat} {ts:List TypeId} {ats:List AT} (hts:ts.map (argT P)=ats.map some)
 (core:∀ us,TyAll ats us→FnW D f us=some (.bool true)) {base:Nat} {args:Array Value} {ds:List (DataW H)} {p:List MemPlace}
 (hv:∀ (j:Nat) (t:TypeId) (v:Value),ts[j]?=some t→args[j]?=some v→Value.okWide P W .any base t v) (hA:DataW.TrodAll enc P W 0 (fun _=>true) true ts args.toList ds p) :
 Calls P (ψ f) args W fun e W'=>e=.returned (.bool true)∧(∀ c,c < W.heap.size→W'.heap[c]?=W.heap[c]?)∧W.heap.size≤W'.heap.size∧W'.os=W.os∧W'.output=W.output:=by
 obtain ⟨us,us',h1,h2,h3,h4⟩:=args_open (ψ:=ψ) hts (fun j t v e1 e2=>hv j t v e1 (by simpa using e2)) hA
 obtain ⟨n,hc⟩:=fnW_call.1 (core us h1)
 obtain ⟨v',hc',hvd⟩:=callW_ok hok h2 hc
 rw [hvd.bool_inv] at hc'
 refine (callF_ok hL hc' (w:=W) (S:=fun c=>c < W.heap.size) (m:=fun _=>(0,0)) (cargs:=args) (fun _ h=>h) (by rw [h3];simp) fun j x hx=>?_).mono ?_
 · have hj:j < args.size:=by have:=(List.getElem?_eq_some_iff.1 hx).1;rw [h3] at this;simpa using this
   rw [Array.getD_eq_getD_getElem?,Array.getElem?_eq_getElem hj]
   exact h4 j x _ hx (by simp [hj])
 · rintro e W' ⟨cv,S',m',rfl,hr,q1,q2,q3,q4⟩
   rw [hr.inv_bool]
   exact ⟨rfl,q1,q2,q3,q4⟩
theorem trodAll_old {W':World} (hh:∀ c,c < W.heap.size→W'.heap[c]?=W.heap[c]?) {base:Nat} {sp:Nat→Bool} {held:Bool}:∀ {ts:List TypeId} {vs:List Value} {ds:List (DataW H)} {ps:List MemPlace},
 DataW.TrodAll enc P W base sp held ts vs ds ps→(∀ p ∈ ps,p.block < W.heap.size)→DataW.TrodAll enc P W' base sp held ts vs ds ps
 | [],[],[],_,h,_=>h
 | _::_,_::_,_::_,_,⟨p,q,⟨n,h1⟩,h2,e⟩,hs=>⟨p,q,⟨n,DataW.trod_carry n _ _ _ h1 fun x hx=>by
  have hlt:=hs x (by rw [e];exact List.mem_append_left _ hx)
  cases x with
  | cell b off=>simp only [World.sameAt,World.cell?];rw [hh b hlt]
  | map b=>exact hh b hlt⟩,trodAll_old hh h2 (fun x hx=>hs x (by rw [e];exact List.mem_append_right _ hx)),e⟩
theorem keptBut_old {W':World} (hh:∀ c,c < W.heap.size→W'.heap[c]?=W.heap[c]?) (ho:W'.os=W.os) (hp:W'.output=W.output) (may:MemPlace→Prop):W.keptBut W' may:=by
 have h:=World.keptBut_refl W may
 refine ⟨ho,hp,fun i hi=>?_⟩
 have:=h.2.2 i hi
 rw [hh i hi]
 exact this
theorem law_post {f:Func} {s:ChangeSpec} {fresh handsOn again:Bool} {W':World} {args:Array Value} {ds gs:List (DataW H)} {before:List MemPlace} {tb:TypeId}
 (kids:Kids P (· < P.types.size)) (full:∀ t e,t < P.types.size→P.underlying t=some (.slice e)→0 < P.cellsOf e)
 (hvars0:s.vars=[]) (hW:DataW.Whole enc P f.params.toList s.vars false W args.toList ds gs before) (hfn:s.fn H (ds++gs)={ results:=[.lit (.bool true)],args:=ds })
 (hps:∀ t ∈ f.params.toList,t < P.types.size) (hr:f.resultTypes=#[tb]) (htb:P.underlying tb=some .bool)
 (hh:∀ c,c < W.heap.size→W'.heap[c]?=W.heap[c]?) (_hsz:W.heap.size≤W'.heap.size) (ho:W'.os=W.os) (hp:W'.output=W.output) :
 s.post enc P f false fresh handsOn again W args (.bool true) W':=by
 have hlt:∀ p ∈ before,p.block < W.heap.size:=hW.lt
 have hW':=hW
 obtain ⟨p,q,hA,hV,rfl,hz,_⟩:=hW
 rw [hvars0] at hV
 obtain ⟨rfl,rfl⟩:=ChangeShapes.trodVars_none hV
 simp only [List.append_nil] at hlt hz hW' hfn
 have hargs:∀ sp:Nat→Bool,(∀ x ∈ p,sp x.block=true)→DataW.TrodAll enc P W' 0 sp true f.params.toList args.toList ds p:=fun sp hsp =>
  trodAll_old hh (DataW.TrodAll.respare kids full hps hA hsp) hlt
 have hvars:∀ sp:Nat→Bool,DataW.TrodVars enc P W' sp s.vars [] []:=fun sp=>by rw [hvars0];rfl
 have hres:∀ (b:Nat) (sp:Nat→Bool) (hd:Bool),DataW.TrodAll enc P W' b sp hd f.resultTypes.toList ((Value.bool true).resultList f.resultTypes.size) [.lit (.bool true)] []:=fun b sp hd=>by
  rw [hr];exact ChangeShapes.trodAll_mk1 (RowKit.shut_bool htb true)
 have hok:∀ (j:Nat) (t:TypeId) (r:Value),f.resultTypes[j]?=some t→((Value.bool true).resultList f.resultTypes.size)[j]?=some r→Value.okWide P W' .any 0 t r :=
  RowKit.ok_one hr rfl (by simp [Value.okWide,htb,Cell.okWide,Cell.ok])
 have hold:∀ x ∈ p,(fun b=>decide (b < W.heap.size)) x.block=true:=fun x hx=>by simpa using hlt x hx
 refine ⟨ds,[],p,[],p,[],hW',?_,?_,?_,keptBut_old hh ho hp _,fun _=>⟨hok,[.lit (.bool true)]++ds,[],([]++p)++[],⟨[]++p,[],?_,hvars _,rfl,?_,fun h=>by cases h⟩,?_⟩⟩
 · rw [List.append_nil,hfn];exact hres _ _ _
 · rw [List.append_nil,hfn];exact hargs _ hold
 · rw [List.append_nil,hfn];exact hvars _
 · exact ChangeShapes.trodAll_append (hargs _ fun _ _=>rfl) (hres _ _ _)
 · intro b off hb
   simp only [List.nil_append,List.append_nil] at hb
   have:=hz b off hb
   unfold World.frozen? at this ⊢
   rw [hh b (hlt _ hb)]
   exact this
 · intro x hx _
   simpa using hx
theorem trodAll_len {base:Nat} {sp:Nat→Bool} {held:Bool}:∀ {ts:List TypeId} {vs:List Value} {ds:List (DataW H)} {ps:List MemPlace},DataW.TrodAll enc P W base sp held ts vs ds ps→ds.length=ts.length
 | [],[],[],_,_=>rfl
 | _::_,_::_,_::_,_,⟨_,_,_,h2,_⟩=>by simp [trodAll_len h2]
def isTrue:Option AV→Bool
 | some (.bool true)=>true
 | _=>false
theorem isTrue_eq {o:Option AV} (h:isTrue o=true):o=some (.bool true):=by
 unfold isTrue at h
 split at h
 · rfl
 · cases h
end
end Go.Pw
end
section
namespace Go.Pw
open Go Go.Pav
theorem ty_map2 {α:Type} {g:α→List AV} {Q:List AV→Prop} {R:α→Prop} (h:∀ a,Q a→∃ x,a=g x∧R x):∀ (xs:List (List AV)),(∀ x ∈ xs,Q x)→∃ ys:List α,xs=ys.map g∧∀ y ∈ ys,R y:=by
 intro xs
 induction xs with
 | nil=>intro _;exact ⟨[],rfl,by simp⟩
 | cons a r ih =>
  intro hx
  obtain ⟨y,rfl,hy⟩:=h a (hx a (by simp))
  obtain ⟨ys,rfl,hys⟩:=ih fun x q=>hx x (by simp [q])
  exact ⟨y::ys,rfl,by simpa using ⟨hy,hys⟩⟩
theorem ty_slice {ts:List CT} {a:AV} (h:Ty (.slice ts) a):∃ (es:List (List AV)) (e:Bool),a=.ro ts.length es e∧es.length < 2 ^ 63∧∀ x ∈ es,x.length=ts.length∧∀ (j:Nat) (ct:CT) (v:AV),ts[j]?=some ct→x[j]?=some v→Ty ct v:=by
 cases h with
 | slice ts es ex hn hw h =>
  refine ⟨es,ex,rfl,hn,fun x hx=>?_⟩
  obtain ⟨i,hi⟩:=List.getElem?_of_mem hx
  exact ⟨hw i x hi,fun j ct v e1 e2=>h i x j ct v hi e1 e2⟩
theorem ty_u8 {v:AV} (h:Ty (.int .u8) v):∃ n:Int,v=.int .u8 n∧0≤n∧n≤255:=by
 cases h with
 | int k n h1 h2=>exact ⟨n,rfl,h1,h2⟩
end Go.Pw
end
section
namespace Go.Proofs.YtcekmcchienbfaaGreat
open Go.ChangeShapes Go.WideShapes Go.ChangeAt Go.RowKit Go.Pav Go.Pw P
theorem own_:ownKnob Tryz.prog.godebug=none:=by kernel_rfl
theorem kids_:Kids Tryz.prog (· < Tryz.prog.types.size):=kids_rows (by kernel_rfl) (by kernel_rfl)
theorem full_:∀ t e,t < Tryz.prog.types.size→Tryz.prog.underlying t=some (.slice e)→0 < Tryz.prog.cellsOf e:=slices_full_of Tryz.prog (by kernel_rfl)
end Go.Proofs.YtcekmcchienbfaaGreat
end
section
namespace Go.D
open Go Go.Pav Go.Pw P
attribute [-simp] List.getElem_cons_drop
variable {C:WProg}
structure It where
 (k t:Int) (x:List UInt8) (m:List (List UInt8)) (e:Bool)
abbrev eIt (i:It):AV:=.agg [.int .u64 i.k,.int .u8 i.t,.str i.x,.ro 1 (i.m.map eS) i.e]
structure HasI (C:WProg):Prop extends HasS C where
 f398:C.fns.get 398=some w398
 f424:C.fns.get 424=some w424
 f494:C.fns.get 494=some w494
 f496:C.fns.get 496=some w496
 f497:C.fns.get 497=some w497
 f498:C.fns.get 498=some w498
 f499:C.fns.get 499=some w499
 f544:C.fns.get 544=some w544
theorem name_loop (H:HasS C) (s:List UInt8) (hl:s.length≤16):∀ n i,n+i=s.length →
 w511_K0 C ⟨[(3,.int .i64 i),(0,.str s)],[],0⟩=some (.int .i64 (if (s.drop i).all inN=true then 1 else 0)):=by
 intro n
 induction n with
 | zero =>
  intro i hi
  simp only [w511_K0];rw [ck_unf w511_B0.eq_1]
  have h1:s.drop i=[]:=List.drop_eq_nil_of_le (by omega)
  have h3:¬ i < s.length:=by omega
  simp [ck_unf w511_c0.eq_1,h1,h3]
 | succ n ih =>
  intro i hi
  have h1:i < s.length:=by omega
  have:=ih (i+1) (by omega)
  simp only [w511_K0] at this ⊢;rw [ck_unf w511_B0.eq_1]
  rw [drop_cons h1]
  generalize hX:((s.drop (i+1)).all inN)=X at *
  simp at this
  rw [List.all_cons,hX]
  have key:=inN_cases s[i]
  by_cases q1:97≤s[i].toNat <;> by_cases q2:s[i].toNat≤122 <;> by_cases q3:48≤s[i].toNat <;> by_cases q4:s[i].toNat≤57 <;> first
   | (exfalso;omega)
   | (have c : inN s[i] = true := by rcases key with ⟨c, _⟩ | ⟨_, q⟩ <;> first | exact c | (exfalso; omega)
      simp (disch:=omega) [h1,wI64,c,q1,q2,q3,q4,this];done)
   | (have c : inN s[i] = false := by rcases key with ⟨_, q⟩ | ⟨c, _⟩ <;> first | exact c | (exfalso; omega)
      simp (disch:=omega) [h1,wI64,c,q1,q2,q3,q4];done)
theorem name_ok (H:HasS C) (s:List UInt8):FnW C 511 [.str s]=some (.int .i64 (if isName s=true then 1 else 0)):=by
 rw [fnW_eq H.f511 rfl]
 unfold isName
 by_cases c1:1≤s.length
 · by_cases c2:s.length≤16
   · have:=name_loop H s c2 s.length 0 (by simp)
     simp only [w511_K0] at this
     simp only [List.drop_zero] at this
     generalize hX:s.all inN=X at *
     simp at this
     have c3:¬ ((s.length:Int) < 1):=by omega
     have c4:¬ (16 < (s.length:Int)):=by omega
     simp [w511,c1,c2,c3,c4,this]
   · have c3:¬ ((s.length:Int) < 1):=by omega
     have c4:(16 < (s.length:Int)):=by omega
     simp [w511,c1,c2,c3,c4]
 · have c3:((s.length:Int) < 1):=by omega
   simp [w511,c1,c3]
theorem pred496 (H:HasI C):Pred C 496 inT where
 asc b hb:=by
  rw [fnW_eq H.f496 rfl]
  by_cases c1:32≤b.toNat <;> by_cases c2:126 < b.toNat
  · have c:inT b=false:=decide_eq_false (fun q=>by omega)
    simp [w496,c,c1,c2]
  · have c:inT b=true:=decide_eq_true ⟨c1,by omega⟩
    simp [w496,c,c1,c2]
  · omega
  · have c:inT b=false:=decide_eq_false (fun q=>c1 q.1)
    simp [w496,c,c1,c2]
 high r hr:=by
  rw [fnW_eq H.f496 rfl]
  have h1:32≤r:=by omega
  have h2:126 < r:=by omega
  simp [w496,h1,h2]
 qh b hb:=decide_eq_false (fun q=>by omega)
 ne:=by rfl
 ni:=by rfl
structure PredS (C:WProg) (g:Nat) (Q:List UInt8→Bool):Prop where
 ok:∀ s,FnW C g [.str s]=some (.bool (!Q s))
 ne:ppB g=false
 ni:inlB g=false
theorem indexS_loop (H:HasI C) {g:Nat} {Q:List UInt8→Bool} (G:PredS C g Q) (l:List (List UInt8)) (e:Bool) (hl:l.length≤1000000):∀ n i,n+i=l.length →
 ∃ v:Int,w544_K0 C ⟨[(8,.int .i64 i),(7,.int .i64 l.length),(1,.fn g []),(0,.ro 1 (l.map eS) e)],[],0⟩=some (.int .i64 v)∧decide (v < 0)=(l.drop i).all Q:=by
 intro n
 induction n with
 | zero =>
  intro i hi
  simp only [w544_K0];rw [ck_unf w544_B0.eq_1]
  have h1:l.drop i=[]:=List.drop_eq_nil_of_le (by omega)
  have h3:¬ i < l.length:=by omega
  exact ⟨-1,by simp [ck_unf w544_c0.eq_1,h3],by simp [h1]⟩
 | succ n ih =>
  intro i hi
  have h1:i < l.length:=by omega
  have hN:=G.ne;have hI:=G.ni
  have hb:=G.ok l[i]
  rw [drop_cons h1]
  by_cases c:Q l[i]=true
  · obtain ⟨v,hv,hq⟩:=ih (i+1) (by omega)
    refine ⟨v,?_,by simp [hq,c]⟩
    simp only [w544_K0] at hv ⊢;rw [ck_unf w544_B0.eq_1]
    simp at hv
    simp (disch:=omega) [h1,wI64,hb,c,H.inl,hI,H.pp,hN,hv]
  · refine ⟨i,?_,by simp [c]⟩
    simp only [w544_K0];rw [ck_unf w544_B0.eq_1]
    simp (disch:=omega) [h1,hb,c,H.inl,hI,H.pp,hN]
theorem containsS_ok (H:HasI C) {g:Nat} {Q:List UInt8→Bool} (G:PredS C g Q) (l:List (List UInt8)) (e:Bool) (hl:l.length≤1000000) :
 FnW C 498 [.ro 1 (l.map eS) e,.fn g []]=some (.bool (!l.all Q)):=by
 obtain ⟨v,h,q⟩:=indexS_loop H G l e hl l.length 0 (by simp)
 simp at q
 have h2:FnW C 544 [.ro 1 (l.map eS) e,.fn g []]=some (.int .i64 v):=by
  rw [fnW_eq H.f544 rfl]
  simp only [w544_K0] at h
  simp at h
  simp [w544,h]
 rw [fnW_eq H.f498 rfl]
 have q':decide (v < 0)=l.all Q:=by simpa using q
 rw [← q']
 by_cases c:v < 0
 · have c':¬ 0≤v:=by omega
   simp [w498,H.inl,inlB,H.pp,ppB,h2,c,c']
 · have c':0≤v:=by omega
   simp [w498,H.inl,inlB,H.pp,ppB,h2,c,c']
theorem pred499 (H:HasI C):PredS C 499 isName where
 ok s:=by
  have:=iname_ok H.toHasS s
  rw [fnW_eq H.f499 rfl]
  simp [w499,H.inl,inlB,H.pp,ppB,this]
 ne:=by rfl
 ni:=by rfl
def itOk (n:Int) (i:It):Bool:=decide (i.k≠0)&&decide (i.t < n)&&isText i.x&&(decide (i.m.length≤8)&&i.m.all isName)
theorem icheck_ok (H:HasI C) (i:It) (n:Int) (ht:0≤i.t∧i.t≤255):FnW C 398 [eIt i,.int .i64 n]=some (.int .i64 (if itOk n i=true then 0 else 6)):=by
 have h1:FnW C 494 [.rop [.int .u64 i.k,.int .u8 i.t,.str i.x,.ro 1 (i.m.map eS) i.e]]=some (.bool (isText i.x)):=by
  have:=contains_ok H.toHasS (pred496 H) i.x
  rw [fnW_eq H.f494 rfl]
  unfold isText
  by_cases c2:i.x.length≤64
  · have c4:(i.x.length:Int)≤64:=by omega
    simp [w494,c2,c4,H.inl,inlB,H.pp,ppB,this]
  · have c4:¬ ((i.x.length:Int)≤64):=by omega
    simp [w494,c2,c4]
 have h2:FnW C 497 [.rop [.int .u64 i.k,.int .u8 i.t,.str i.x,.ro 1 (i.m.map eS) i.e]]=some (.bool (decide (i.m.length≤8)&&i.m.all isName)):=by
  rw [fnW_eq H.f497 rfl]
  by_cases c2:i.m.length≤8
  · have:=containsS_ok H (pred499 H) i.m i.e (by omega)
    have c4:(i.m.length:Int)≤8:=by omega
    simp [w497,c2,c4,H.inl,inlB,H.pp,ppB,this]
  · have c4:¬ ((i.m.length:Int)≤8):=by omega
    simp [w497,c2,c4]
 rw [fnW_eq H.f398 rfl]
 unfold itOk
 generalize isText i.x=X at *
 generalize (decide (i.m.length≤8)&&i.m.all isName)=M at *
 by_cases c1:i.k=0
 · simp [w398,c1]
 · by_cases c2:n≤i.t
   · have c3:¬ i.t < n:=by omega
     simp (disch:=omega) [w398,c1,c2,c3,wI64]
   · have c3:i.t < n:=by omega
     cases X
     · simp (disch:=omega) [w398,c1,c2,c3,wI64,H.inl,inlB,H.pp,ppB,h1]
     · cases M <;> simp (disch:=omega) [w398,c1,c2,c3,wI64,H.inl,inlB,H.pp,ppB,h1,h2]
theorem rcheck_loop (H:HasI C) (k t:Int) (x:List UInt8) (m:List (List UInt8)) (e:Bool) (hl:m.length≤1000000):∀ n i,n+i=m.length→∀ ok:Bool,
 w424_K0 C ⟨[(6,.int .i64 i),(5,.int .i64 (if ok=true then 1 else 0)),(2,.ptr 0 0 0)],[(0,.cells 4 [[.int .u64 k,.int .u8 t,.str x,.ro 1 (m.map eS) e]] true true)],1⟩ =
  some (.int .i64 (if (ok&&(m.drop i).all isName)=true then 0 else 6)):=by
 intro n
 induction n with
 | zero =>
  intro i hi ok
  simp only [w424_K0];rw [ck_unf w424_B0.eq_1]
  have h1:m.drop i=[]:=List.drop_eq_nil_of_le (by omega)
  have h3:¬ i < m.length:=by omega
  cases ok <;> simp [ck_unf w424_c0.eq_1,h1,h3]
 | succ n ih =>
  intro i hi ok
  have h1:i < m.length:=by omega
  have:=ih (i+1) (by omega) (ok&&isName m[i])
  have hb:=name_ok H.toHasS m[i]
  rw [drop_cons h1]
  generalize hX:(m.drop (i+1)).all isName=X at *
  rw [List.all_cons,hX]
  simp only [w424_K0] at this ⊢;rw [ck_unf w424_B0.eq_1]
  cases ok <;> cases hn:isName m[i] <;> rw [hn] at this hb <;> simp at this hb <;> simp (disch:=omega) [h1,wI64,hb,H.inl,inlB,H.pp,ppB,this]
theorem rcheck_ok (H:HasI C) (i:It) (n:Int) (ht:0≤i.t∧i.t≤255) (hl:i.m.length≤1000000):FnW C 424 [eIt i,.int .i64 n]=some (.int .i64 (if itOk n i=true then 0 else 6)):=by
 have hw:=words_ok H.toHasS i.x
 have hA:=rcheck_loop H i.k i.t i.x i.m i.e hl i.m.length 0 (by simp)
 have h0:=hA false
 have h1:=hA true
 rw [fnW_eq H.f424 rfl]
 unfold itOk
 simp only [List.drop_zero,Bool.false_and,Bool.true_and] at h0 h1
 generalize i.m.all isName=M at *
 generalize isText i.x=X at *
 simp only [w424_K0] at h0 h1
 simp at h0 h1
 by_cases c1:i.k=0
 · simp [w424,eq_true c1,H.inl,inlB,H.pp,ppB,hw,h0]
 · by_cases c2:n≤i.t
   · have c3:¬ i.t < n:=by omega
     simp (disch:=omega) [w424,c1,c2,c3,wI64,H.inl,inlB,H.pp,ppB,hw,h0]
   · have c3:i.t < n:=by omega
     by_cases c4:i.m.length≤8
     · have c5:¬ (8 < (i.m.length:Int)):=by omega
       cases X
       · simp (disch:=omega) [w424,c1,c2,c3,c4,c5,wI64,H.inl,inlB,H.pp,ppB,hw,h0]
       · simp (disch:=omega) [w424,c1,c2,c3,c4,c5,wI64,H.inl,inlB,H.pp,ppB,hw,h1]
     · have c5:(8 < (i.m.length:Int)):=by omega
       simp (disch:=omega) [w424,c1,c2,c3,c4,c5,wI64,H.inl,inlB,H.pp,ppB,hw,h0]
abbrev Bs:=List UInt8
@[simp] def eA (a:Bs × Bs):List AV:=[.str a.1,.str a.2]
structure Nd where
 k:Int
 t:Bs
 y:Bs
 a:List (Bs × Bs)
 ae:Bool
 x:Bs
 ch:List Nd
 ce:Bool
mutual
def Nd.c:Nd→List AV
 | ⟨k,t,y,a,ae,x,ch,ce⟩=>[.int .u8 k,.str t,.str y,.ro 2 (a.map eA) ae,.str x,.ro 6 (Nd.cs ch) ce]
def Nd.cs:List Nd→List (List AV)
 | []=>[]
 | n::r=>n.c::Nd.cs r
end
theorem Nd.cs_eq:∀ l:List Nd,Nd.cs l=l.map Nd.c
 | []=>rfl
 | n::r=>by rw [Nd.cs,Nd.cs_eq r];rfl
theorem Nd.c_eq (n:Nd):n.c=[.int .u8 n.k,.str n.t,.str n.y,.ro 2 (n.a.map eA) n.ae,.str n.x,.ro 6 (n.ch.map Nd.c) n.ce]:=by
 cases n;rw [Nd.c,Nd.cs_eq]
@[simp] theorem Nd.c_len (n:Nd):n.c.length=6:=by rw [Nd.c_eq];rfl
@[simp] theorem Nd.c_take (n:Nd):n.c.take 6=n.c:=List.take_of_length_le (by simp)
@[simp] theorem Nd.c0 (n:Nd):n.c[0]?=some (.int .u8 n.k):=by rw [Nd.c_eq];rfl
@[simp] theorem Nd.c1 (n:Nd):n.c[1]?=some (.str n.t):=by rw [Nd.c_eq];rfl
@[simp] theorem Nd.c2 (n:Nd):n.c[2]?=some (.str n.y):=by rw [Nd.c_eq];rfl
@[simp] theorem Nd.c3 (n:Nd):n.c[3]?=some (.ro 2 (n.a.map eA) n.ae):=by rw [Nd.c_eq];rfl
@[simp] theorem Nd.c4 (n:Nd):n.c[4]?=some (.str n.x):=by rw [Nd.c_eq];rfl
@[simp] theorem Nd.c5 (n:Nd):n.c[5]?=some (.ro 6 (n.ch.map Nd.c) n.ce):=by rw [Nd.c_eq];rfl
@[simp] theorem Nd.g0 (n:Nd) (h:0 < n.c.length):n.c[0]=.int .u8 n.k:=Option.some.inj ((List.getElem?_eq_getElem h).symm.trans n.c0)
@[simp] theorem Nd.g1 (n:Nd) (h:1 < n.c.length):n.c[1]=.str n.t:=Option.some.inj ((List.getElem?_eq_getElem h).symm.trans n.c1)
@[simp] theorem Nd.g2 (n:Nd) (h:2 < n.c.length):n.c[2]=.str n.y:=Option.some.inj ((List.getElem?_eq_getElem h).symm.trans n.c2)
@[simp] theorem Nd.g3 (n:Nd) (h:3 < n.c.length):n.c[3]=.ro 2 (n.a.map eA) n.ae:=Option.some.inj ((List.getElem?_eq_getElem h).symm.trans n.c3)
@[simp] theorem Nd.g4 (n:Nd) (h:4 < n.c.length):n.c[4]=.str n.x:=Option.some.inj ((List.getElem?_eq_getElem h).symm.trans n.c4)
@[simp] theorem Nd.g5 (n:Nd) (h:5 < n.c.length):n.c[5]=.ro 6 (n.ch.map Nd.c) n.ce:=Option.some.inj ((List.getElem?_eq_getElem h).symm.trans n.c5)
@[simp] theorem Nd.hd (n:Nd):n.c.head?=some (.int .u8 n.k):=by rw [Nd.c_eq];rfl
@[simp] theorem Nd.c_ptr (n:Nd):hasPtrL n.c=false:=by rw [Nd.c_eq];rfl
@[simp] theorem Nd.c_frz (n:Nd) (h:WHeap) (k:Nat):mapO (frzW h (k+1)) n.c=some n.c:=by rw [Nd.c_eq];rfl
@[simp] theorem Nd.c_reach (n:Nd) (h:WHeap) (k:Nat):n.c.flatMap (reachW h (k+1))=[]:=by rw [Nd.c_eq];rfl
@[simp] theorem Nd.c_ren (n:Nd) (π:Nat→Option Nat):renL π n.c=some n.c:=by rw [Nd.c_eq];rfl
@[simp] theorem Nd.c_refs (n:Nd):refsL n.c=[]:=by rw [Nd.c_eq];rfl
@[simp] theorem Nd.c_isC (n:Nd):n.c.all isC=true:=by rw [Nd.c_eq];rfl
@[simp] theorem Nd.c_cell (n:Nd):n.c.all AV.cell=true:=by rw [Nd.c_eq];rfl
def after:Option Bs→Bs→Bool
 | none,_=>true
 | some p,a=>decide (p < a)
def atOk:Option Bs→List (Bs × Bs)→Bool
 | _,[]=>true
 | p,a::r=>isName a.1&&isText a.2&&after p a.1&&atOk (some a.1) r
def keysOk:List Bs→List Bs→Bool
 | _,[]=>true
 | p,k::r=>!(decide (k≠[])&&p.contains k)&&keysOk (p++[k]) r
def alone (n:Nd):Bool :=
 if n.k=2 then isText n.x&&decide (n.t=[])&&decide (n.y=[])&&decide (n.a=[])&&decide (n.ch=[])
 else decide (n.k=1)&&isName n.t&&(decide (n.y=[])||isName n.y)&&decide (n.x=[])&&decide (n.a.length≤8)&&decide (n.ch.length≤16)&&atOk none n.a&&keysOk [] (n.ch.map Nd.y)
structure HasN (C:WProg):Prop extends HasS C where
 f434:C.fns.get 434=some w434
 f519:C.fns.get 519=some w519
 f518:C.fns.get 518=some w518
 f562:C.fns.get 562=some w562
theorem k519 (H:HasN C) (n:Nd) (c:Nd):FnW C 519 [.agg n.c,.rop c.c]=some (.bool (decide (n.y=c.y))):=by
 rw [fnW_eq H.f519 rfl,Nd.c_eq,Nd.c_eq]
 by_cases h:n.y=c.y
 · simp [w519,h]
 · simp [w519,h]
theorem indexN_loop (H:HasN C) (c:Nd) (l:List Nd) (e:Bool) (hl:l.length≤1000000):∀ n i,n+i=l.length →
 ∃ v:Int,w562_K0 C ⟨[(8,.int .i64 i),(7,.int .i64 l.length),(1,.fn 519 [.rop c.c]),(0,.ro 6 (l.map Nd.c) e)],[],0⟩=some (.int .i64 v)∧decide (v < 0)=!((l.drop i).map Nd.y).contains c.y:=by
 intro n
 induction n with
 | zero =>
  intro i hi
  simp only [w562_K0];rw [ck_unf w562_B0.eq_1]
  have h1:l.drop i=[]:=List.drop_eq_nil_of_le (by omega)
  have h3:¬ i < l.length:=by omega
  exact ⟨-1,by simp [ck_unf w562_c0.eq_1,h3],by simp [h1]⟩
 | succ n ih =>
  intro i hi
  have h1:i < l.length:=by omega
  have hb:=k519 H l[i] c
  rw [drop_cons h1]
  by_cases q:l[i].y=c.y
  · refine ⟨i,?_,by simp [q]⟩
    simp only [w562_K0];rw [ck_unf w562_B0.eq_1]
    simp (disch:=omega) [h1,hb,q,H.inl,inlB,H.pp,ppB]
  · obtain ⟨v,hv,hq⟩:=ih (i+1) (by omega)
    refine ⟨v,?_,?_⟩
    · simp only [w562_K0] at hv ⊢;rw [ck_unf w562_B0.eq_1]
      simp at hv
      simp (disch:=omega) [h1,wI64,hb,q,H.inl,inlB,H.pp,ppB,hv]
    · have q':¬ c.y=l[i].y:=fun h=>q h.symm
      simp [hq,q']
theorem containsN_ok (H:HasN C) (c:Nd) (l:List Nd) (e:Bool) (hl:l.length≤1000000):FnW C 518 [.ro 6 (l.map Nd.c) e,.fn 519 [.rop c.c]]=some (.bool ((l.map Nd.y).contains c.y)):=by
 obtain ⟨v,h,q⟩:=indexN_loop H c l e hl l.length 0 (by simp)
 rw [List.drop_zero] at q
 have h2:FnW C 562 [.ro 6 (l.map Nd.c) e,.fn 519 [.rop c.c]]=some (.int .i64 v):=by
  rw [fnW_eq H.f562 rfl]
  simp only [w562_K0] at h
  simp at h
  simp [w562,h]
 have q':(l.map Nd.y).contains c.y=!decide (v < 0):=by rw [q];simp
 rw [fnW_eq H.f518 rfl,q']
 by_cases c:v < 0
 · have c':¬ 0≤v:=by omega
   simp [w518,H.inl,inlB,H.pp,ppB,h2,c,c']
 · have c':0≤v:=by omega
   simp [w518,H.inl,inlB,H.pp,ppB,h2,c,c']
theorem blt_eq:∀ x y:Bs,Pav.bytesLess x y=decide (x < y)
 | [],[]=>by simp [Pav.bytesLess]
 | [],_::_=>by simp [Pav.bytesLess]
 | _::_,[]=>by simp [Pav.bytesLess]
 | a::x,b::y=>by
  rw [Pav.bytesLess,blt_eq x y]
  by_cases h:a < b
  · simp [h,List.cons_lt_cons_iff]
  · by_cases q:a=b
    · simp [h,q,List.cons_lt_cons_iff]
    · simp [h,q,List.cons_lt_cons_iff]
theorem leq_eq (x y:Bs):(Pav.bytesLess x y||x == y)=!decide (y < x):=by
 rw [blt_eq]
 by_cases h:y < x
 · have h1:¬ x < y:=fun q=>List.lt_irrefl x (List.lt_trans q h)
   have h2:¬ x=y:=fun q=>by subst q;exact List.lt_irrefl x h
   simp [h,h1,h2]
 · rcases Decidable.em (x=y) with q | q
   · simp [h,q]
   · have h1:x < y:=Classical.byContradiction fun p=>q (List.le_antisymm (List.not_lt.1 h) (List.not_lt.1 p))
     simp [h,h1]
theorem keys_loop (H:HasN C) (k:Int) (t y x:Bs) (a:List (Bs × Bs)) (ae ce:Bool) (ch:List Nd) (hl:ch.length≤1000000):∀ n i,n+i=ch.length →
 w434_K0 C ⟨[(142,.int .i64 i),(141,.int .i64 ch.length),(140,.ro 6 (ch.map Nd.c) ce),(0,.rop [.int .u8 k,.str t,.str y,.ro 2 (a.map eA) ae,.str x,.ro 6 (ch.map Nd.c) ce])],[],0⟩ =
  some (.bool (keysOk ((ch.map Nd.y).take i) ((ch.map Nd.y).drop i))):=by
 intro n
 induction n with
 | zero =>
  intro i hi
  simp only [w434_K0];rw [ck_unf w434_B0.eq_1]
  have h1:(ch.map Nd.y).drop i=[]:=List.drop_eq_nil_of_le (by simp;omega)
  have h3:¬ i < ch.length:=by omega
  simp [ck_unf w434_c0.eq_1,h1,h3,keysOk,-List.map_drop]
 | succ n ih =>
  intro i hi
  have h1:i < ch.length:=by omega
  have h2:i < (ch.map Nd.y).length:=by simp;omega
  have hb:=containsN_ok H ch[i] (ch.take i) false (by simp;omega)
  have:=ih (i+1) (by omega)
  rw [List.take_succ_eq_append_getElem h2] at this
  rw [drop_cons h2,keysOk]
  have hy:(ch.map Nd.y)[i]=ch[i].y:=by simp
  rw [List.map_take,List.map_take] at hb
  rw [hy] at this ⊢
  have hne:¬ i=ch.length:=by omega
  have hle:i≤ch.length:=by omega
  simp only [w434_K0] at this ⊢;rw [ck_unf w434_B0.eq_1]
  generalize hP:(ch.map Nd.y).take i=P at *
  generalize hQ:(ch.map Nd.y).drop (i+1)=Q at *
  simp at this
  by_cases c1:ch[i].y=[]
  · rw [c1] at this
    simp (disch:=omega) [h1,wI64,c1,H.inl,inlB,H.pp,ppB,this]
  · by_cases c2:P.contains ch[i].y=true
    · rw [c2] at hb
      have c2':ch[i].y ∈ P:=by simpa using c2
      simp (disch:=omega) [h1,hne,hle,wI64,c1,c2',hb,H.inl,inlB,H.pp,ppB,this]
    · have c2':¬ ch[i].y ∈ P:=by simpa using c2
      have c3:P.contains ch[i].y=false:=by simpa using c2
      rw [c3] at hb
      simp (disch:=omega) [h1,hne,hle,wI64,c1,c2',hb,H.inl,inlB,H.pp,ppB,this]
theorem attrs_loop (H:HasN C) (k:Int) (t y x:Bs) (a:List (Bs × Bs)) (ae ce:Bool) (ch:List Nd) (hl:ch.length≤1000000) (ha:a.length≤1000000):∀ n i,n+i=a.length →
 w434_K1 C ⟨[(103,.int .i64 i),(102,.int .i64 a.length),(101,.ro 2 (a.map eA) ae),(0,.rop [.int .u8 k,.str t,.str y,.ro 2 (a.map eA) ae,.str x,.ro 6 (ch.map Nd.c) ce])],[],0⟩ =
  some (.bool (atOk (if i=0 then none else (a[i - 1]?).map Prod.fst) (a.drop i)&&keysOk [] (ch.map Nd.y))):=by
 intro n
 induction n with
 | zero =>
  intro i hi
  have hk:=keys_loop H k t y x a ae ce ch hl ch.length 0 (by simp)
  simp only [List.take_zero,List.drop_zero] at hk
  generalize keysOk [] (ch.map Nd.y)=K at *
  simp only [w434_K0] at hk
  simp at hk
  simp only [w434_K1];rw [ck_unf w434_B1.eq_1]
  have h1:a.drop i=[]:=List.drop_eq_nil_of_le (by omega)
  have h3:¬ i < a.length:=by omega
  simp [ck_unf w434_c1.eq_1,h1,h3,atOk,hk]
 | succ n ih =>
  intro i hi
  have h1:i < a.length:=by omega
  have hb:=named_ok H.toHasS a[i].1
  have hc:=text_ok H.toHasS a[i].2
  have:=ih (i+1) (by omega)
  rw [if_neg (by omega),show i+1 - 1=i from rfl,List.getElem?_eq_getElem h1] at this
  rw [drop_cons h1,atOk]
  generalize hK:keysOk [] (ch.map Nd.y)=K at *
  simp only [w434_K1] at this ⊢;rw [ck_unf w434_B1.eq_1]
  simp only [Option.map_some] at this
  generalize atOk (some a[i].1) (a.drop (i+1))=R at *
  simp at this
  cases q1:isName a[i].1
  · rw [q1] at hb
    simp (disch:=omega) [h1,wI64,hb,H.inl,inlB,H.pp,ppB]
  · cases q2:isText a[i].2
    · rw [q1] at hb;rw [q2] at hc
      simp (disch:=omega) [h1,wI64,hb,hc,H.inl,inlB,H.pp,ppB]
    · rw [q1] at hb;rw [q2] at hc
      cases i with
      | zero =>
       simp at this
       simp (disch:=omega) [h1,wI64,hb,hc,H.inl,inlB,H.pp,ppB,this,after]
      | succ i =>
       have h4:i < a.length:=by omega
       have h5:(i:Int)+1 < a.length:=by omega
       simp at this
       by_cases q3:a[i].1 < a[i+1].1
       · have q4:¬ a[i+1].1≤a[i].1:=List.not_le.2 q3
         simp (disch:=omega) [h1,h4,h5,wI64,hb,hc,H.inl,inlB,H.pp,ppB,this,leq_eq,after,q3,q4]
       · have q4:a[i+1].1≤a[i].1:=List.not_lt.1 q3
         simp (disch:=omega) [h1,h4,h5,wI64,hb,hc,H.inl,inlB,H.pp,ppB,this,leq_eq,after,q3,q4]
theorem alone_ok (H:HasN C) (n:Nd):FnW C 434 [.rop n.c]=some (.bool (alone n)):=by
 obtain ⟨k,t,y,a,ae,x,ch,ce⟩:=n
 rw [fnW_eq H.f434 rfl,Nd.c_eq]
 simp only []
 unfold alone
 simp only []
 have ht:=named_ok H.toHasS t
 have hy:=named_ok H.toHasS y
 have hx:=text_ok H.toHasS x
 by_cases k2:k=2
 · rw [if_pos k2]
   generalize isText x=X at *
   cases X
   · simp [w434,k2,hx,H.inl,inlB,H.pp,ppB]
   · by_cases c1:t=[] <;> by_cases c2:y=[] <;> by_cases c3:a=[] <;> by_cases c4:ch=[] <;> simp [w434,k2,hx,H.inl,inlB,H.pp,ppB,c1,c2,c3,c4]
 · rw [if_neg k2]
   by_cases k1:k=1
   · cases q1:isName t
     · rw [q1] at ht;simp [w434,k1,ht,H.inl,inlB,H.pp,ppB]
     · rw [q1] at ht
       by_cases c2:y=[]
       · subst c2
         by_cases c3:x=[]
         · subst c3
           by_cases c4:a.length≤8
           · by_cases c5:ch.length≤16
             · have c6:¬ 8 < (a.length:Int):=by omega
               have c7:¬ 16 < (ch.length:Int):=by omega
               have hl:=attrs_loop H 1 t [] [] a ae ce ch (by omega) (by omega) a.length 0 (by simp)
               simp only [w434_K1,if_true,List.drop_zero] at hl
               generalize atOk none a=A at *
               generalize keysOk [] (ch.map Nd.y)=K at *
               simp at hl
               simp [w434,k1,ht,H.inl,inlB,H.pp,ppB,c4,c5,c6,c7,hl]
             · have c6:¬ 8 < (a.length:Int):=by omega
               have c7:16 < (ch.length:Int):=by omega
               simp [w434,k1,ht,H.inl,inlB,H.pp,ppB,c4,c5,c6,c7]
           · have c6:8 < (a.length:Int):=by omega
             simp [w434,k1,ht,H.inl,inlB,H.pp,ppB,c4,c6]
         · simp [w434,k1,ht,H.inl,inlB,H.pp,ppB,c3]
       · cases q2:isName y
         · rw [q2] at hy;simp [w434,k1,ht,hy,H.inl,inlB,H.pp,ppB,c2]
         · rw [q2] at hy
           by_cases c3:x=[]
           · subst c3
             by_cases c4:a.length≤8
             · by_cases c5:ch.length≤16
               · have c6:¬ 8 < (a.length:Int):=by omega
                 have c7:¬ 16 < (ch.length:Int):=by omega
                 have hl:=attrs_loop H 1 t y [] a ae ce ch (by omega) (by omega) a.length 0 (by simp)
                 simp only [w434_K1,if_true,List.drop_zero] at hl
                 generalize atOk none a=A at *
                 generalize keysOk [] (ch.map Nd.y)=K at *
                 simp at hl
                 simp [w434,k1,ht,hy,H.inl,inlB,H.pp,ppB,c2,c4,c5,c6,c7,hl]
               · have c6:¬ 8 < (a.length:Int):=by omega
                 have c7:16 < (ch.length:Int):=by omega
                 simp [w434,k1,ht,hy,H.inl,inlB,H.pp,ppB,c2,c4,c5,c6,c7]
             · have c6:8 < (a.length:Int):=by omega
               simp [w434,k1,ht,hy,H.inl,inlB,H.pp,ppB,c2,c4,c6]
           · simp [w434,k1,ht,hy,H.inl,inlB,H.pp,ppB,c2,c3]
   · simp [w434,k1,k2,H.inl,inlB,H.pp,ppB]
end Go.D
end
section
namespace Go.D
open Go Go.Pav Go.Pw P
attribute [-simp] List.getElem_cons_drop
variable {C:WProg}
mutual
/-- The walk below a node: whether it ends well, how many nodes, how many levels. -/
def wk:Nd→Nat→Nat × Nat→Bool × (Nat × Nat)
 | ⟨k,t,y,a,ae,x,ch,ce⟩,lv,(c,d)=>if 6 < lv∨64 < c+1∨alone ⟨k,t,y,a,ae,x,ch,ce⟩=false then (false,(c+1,max d lv)) else wks ch (lv+1) (c+1,max d lv)
def wks:List Nd→Nat→Nat × Nat→Bool × (Nat × Nat)
 | [],_,s=>(true,s)
 | m::r,lv,s=>if (wk m lv s).1=true then wks r lv (wk m lv s).2 else (false,(wk m lv s).2)
end
theorem wk_eq (n:Nd) (lv c d:Nat):wk n lv (c,d)=if 6 < lv∨64 < c+1∨alone n=false then (false,(c+1,max d lv)) else wks n.ch (lv+1) (c+1,max d lv):=by cases n;rw [wk]
structure HasM (C:WProg):Prop extends HasN C where
 f433:C.fns.get 433=some w433
 f282:C.fns.get 282=some w282
 f140:C.fns.get 140=some w140
 f439:C.fns.get 439=some w439
abbrev hpM (root:Nd) (s:Nat × Nat):WHeap:=[(0,.cells 6 [root.c] true true),(1,.cells 1 [[.int .i64 s.1]] true true),(2,.cells 1 [[.int .i64 s.2]] true true),(3,.cells 1 [[.fn 433 [.ptr 1 0 0,.ptr 2 0 0,.ptr 3 0 0]]] true false)]
mutual
theorem wk_bd:∀ (n:Nd) (lv c d:Nat),lv≤7→c≤64→d≤7→((wk n lv (c,d)).1=true→(wk n lv (c,d)).2.1≤64)∧(wk n lv (c,d)).2.2≤7
 | ⟨k,t,y,a,ae,x,ch,ce⟩,lv,c,d,h1,h2,h3=>by
  rw [wk]
  split
  · exact ⟨fun q=>by simp at q,by simp only;omega⟩
  · rename_i h
    exact wks_bd ch (lv+1) (c+1) (max d lv) (by omega) (by omega) (by omega)
theorem wks_bd:∀ (l:List Nd) (lv c d:Nat),lv≤7→c≤64→d≤7→((wks l lv (c,d)).1=true→(wks l lv (c,d)).2.1≤64)∧(wks l lv (c,d)).2.2≤7
 | [],lv,c,d,h1,h2,h3=>by rw [wks];exact ⟨fun _=>h2,h3⟩
 | m::r,lv,c,d,h1,h2,h3=>by
  have h4:=wk_bd m lv c d h1 h2 h3
  rw [wks]
  split
  · rename_i h
    exact wks_bd r lv _ _ h1 (h4.1 h) h4.2
  · exact ⟨fun q=>by simp at q,h4.2⟩
end
def Walks (C:WProg) (root nd:Nd):Prop:=∀ (lv c d n:Nat),4≤n→c≤64→d≤7→lv≤7 →
 ∃ n',RnW C 433 [.rop nd.c,.int .i64 lv,.ptr 1 0 0,.ptr 2 0 0,.ptr 3 0 0] (hpM root (c,d)) n=some (.bool (wk nd lv (c,d)).1,hpM root (wk nd lv (c,d)).2,n')
theorem imax_cast (d lv:Nat):imax d lv=((max d lv:Nat):Int):=by
 by_cases h:lv≤d
 · rw [imax_l (by omega),Nat.max_eq_left h]
 · rw [imax_r (by omega),Nat.max_eq_right (by omega)]
theorem walk_loop (H:HasM C) (root nd:Nd) (X:AV) (hX:X=.rop nd.c∨X=.ptr 0 0 0∧root=nd) (lv n:Nat) (hn:4≤n) (hlv:lv≤6) (hl:nd.ch.length≤16) (ih:∀ m ∈ nd.ch,Walks C root m):∀ j i,j+i=nd.ch.length→∀ c d,c≤64→d≤7 →
 ∃ n',CK C n (fnEndW [.tmp 7]) [.sq w433_L0,.bk 0 ⟨true,[],[]⟩,.sq w433_c0] w433_B0 ⟨[(30,.int .i64 i),(29,.int .i64 nd.ch.length),(4,.ptr 3 0 0),(1,.int .i64 lv),(0,X)],hpM root (c,d),n⟩ =
  some (.bool (wks (nd.ch.drop i) (lv+1) (c,d)).1,hpM root (wks (nd.ch.drop i) (lv+1) (c,d)).2,n'):=by
 have n0:0 < n:=by omega
 have n1:1 < n:=by omega
 have n2:2 < n:=by omega
 have n3:3 < n:=by omega
 intro j
 induction j with
 | zero =>
  intro i hi c d hc hd
  have h1:nd.ch.drop i=[]:=List.drop_eq_nil_of_le (by omega)
  have h3:¬ i < nd.ch.length:=by omega
  rw [h1,wks,ck_unf w433_B0.eq_1]
  refine ⟨?_,?_⟩
  rotate_left
  · rcases hX with rfl | ⟨rfl,rfl⟩
    · simp (disch:=omega) [ck_unf w433_c0.eq_1,n0,n1,n2,n3,h3]
      rfl
    · simp (disch:=omega) [ck_unf w433_c0.eq_1,n0,n1,n2,n3,h3]
 | succ j ihj =>
  intro i hi c d hc hd
  have h1:i < nd.ch.length:=by omega
  obtain ⟨n',hw⟩:=ih _ (List.getElem_mem h1) (lv+1) c d (n+1+1+1+11) (by omega) hc hd (by omega)
  have hb:=wk_bd nd.ch[i] (lv+1) c d (by omega) hc hd
  rw [drop_cons h1,wks]
  generalize hR:wk nd.ch[i] (lv+1) (c,d)=R at *
  obtain ⟨r,c',d'⟩:=R
  cases r with
  | true =>
   obtain ⟨n2',hw2⟩:=ihj (i+1) (by omega) c' d' (hb.1 rfl) hb.2
   refine ⟨n2',?_⟩
   rw [if_pos rfl]
   rw [ck_unf w433_B0.eq_1]
   simp at hw hw2
   rcases hX with rfl | ⟨rfl,rfl⟩
   · simp (disch:=omega) [wI64,H.inl,inlB,H.pp,ppB,n0,n1,n2,n3,h1,hw,hw2]
   · simp (disch:=omega) [wI64,H.inl,inlB,H.pp,ppB,n0,n1,n2,n3,h1,hw,hw2]
  | false =>
   rw [if_neg (by simp)]
   rw [ck_unf w433_B0.eq_1]
   simp at hw
   refine ⟨?_,?_⟩
   rotate_left
   · rcases hX with rfl | ⟨rfl,rfl⟩
     · simp (disch:=omega) [wI64,H.inl,inlB,H.pp,ppB,n0,n1,n2,n3,h1,hw]
       rfl
     · simp (disch:=omega) [wI64,H.inl,inlB,H.pp,ppB,n0,n1,n2,n3,h1,hw]
theorem walk_step (H:HasM C) (root nd:Nd) (X:AV) (hX:X=.rop nd.c∨X=.ptr 0 0 0∧root=nd) (ih:∀ m ∈ nd.ch,Walks C root m) (lv c d n:Nat) (hn:4≤n) (hc:c≤64) (hd:d≤7) (hlv:lv≤7) :
 ∃ n',RnW C 433 [X,.int .i64 lv,.ptr 1 0 0,.ptr 2 0 0,.ptr 3 0 0] (hpM root (c,d)) n=some (.bool (wk nd lv (c,d)).1,hpM root (wk nd lv (c,d)).2,n'):=by
 rw [rnW_eq (args:=[X,.int .i64 lv,.ptr 1 0 0,.ptr 2 0 0,.ptr 3 0 0]) H.f433 rfl (hpM root (c,d)) n,wk_eq]
 have ha:=alone_ok H.toHasN nd
 have n0:0 < n:=by omega
 have n1:1 < n:=by omega
 have n2:2 < n:=by omega
 have n3:3 < n:=by omega
 by_cases b1:6 < lv
 · rw [if_pos (.inl b1)]
   refine ⟨?_,?_⟩
   rotate_left
   · rcases hX with rfl | ⟨rfl,rfl⟩
     · simp (disch:=omega) [w433,wI64,H.inl,inlB,H.pp,ppB,b1,n0,n1,n2,n3,imax_cast]
       rfl
     · simp (disch:=omega) [w433,wI64,H.inl,inlB,H.pp,ppB,b1,n0,n1,n2,n3,imax_cast]
 · by_cases b2:64 < c+1
   · rw [if_pos (.inr (.inl b2))]
     have b2':64 < (c:Int)+1:=by omega
     refine ⟨?_,?_⟩
     rotate_left
     · rcases hX with rfl | ⟨rfl,rfl⟩
       · simp (disch:=omega) [w433,wI64,H.inl,inlB,H.pp,ppB,b1,b2',n0,n1,n2,n3,imax_cast]
         rfl
       · simp (disch:=omega) [w433,wI64,H.inl,inlB,H.pp,ppB,b1,b2',n0,n1,n2,n3,imax_cast]
   · have b2':¬ 64 < (c:Int)+1:=by omega
     cases b3:alone nd with
     | false =>
      rw [if_pos (.inr (.inr rfl))]
      rw [b3] at ha
      refine ⟨?_,?_⟩
      rotate_left
      · rcases hX with rfl | ⟨rfl,rfl⟩
        · simp (disch:=omega) [w433,wI64,H.inl,inlB,H.pp,ppB,b1,b2',ha,n0,n1,n2,n3,imax_cast]
          rfl
        · simp (disch:=omega) [w433,wI64,H.inl,inlB,H.pp,ppB,b1,b2',ha,n0,n1,n2,n3,imax_cast]
     | true =>
      rw [if_neg (by simp;omega)]
      have hl:nd.ch.length≤16:=by
       unfold alone at b3
       split at b3
       · simp at b3;rw [b3.2];simp
       · simp at b3;omega
      rw [b3] at ha
      obtain ⟨n',hw⟩:=walk_loop H root nd X hX lv n hn (by omega) hl ih nd.ch.length 0 (by simp) (c+1) (max d lv) (by omega) (by omega)
      refine ⟨n',?_⟩
      rw [List.drop_zero] at hw
      have hI:=imax_cast d lv
      generalize max d lv=D at *
      generalize wks nd.ch (lv+1) (c+1,D)=R at *
      simp only [hpM] at hw ⊢
      simp at hw
      rcases hX with rfl | ⟨rfl,rfl⟩
      · simp (disch:=omega) [w433,wI64,H.inl,inlB,H.pp,ppB,b1,b2',ha,n0,n1,n2,n3,hI,hw]
      · simp (disch:=omega) [w433,wI64,H.inl,inlB,H.pp,ppB,b1,b2',ha,n0,n1,n2,n3,hI,hw]
theorem size_ch (n:Nd):SizeOf.sizeOf n.ch < SizeOf.sizeOf n:=by cases n;simp;omega
theorem walks (H:HasM C) (root nd:Nd):Walks C root nd :=
 fun lv c d n hn hc hd hlv=>walk_step H root nd (.rop nd.c) (.inl rfl) (fun m hm=>walks H root m) lv c d n hn hc hd hlv
termination_by SizeOf.sizeOf nd
decreasing_by
 have:=List.sizeOf_lt_of_mem hm
 have:=size_ch nd
 omega
def cnt (n:Nd):Nat:=if (wk n 1 (0,0)).1=true then (wk n 1 (0,0)).2.1 else 0
def dep (n:Nd):Nat:=if (wk n 1 (0,0)).1=true then (wk n 1 (0,0)).2.2 else 0
theorem measure_ok (H:HasM C) (n:Nd):FnW C 282 [.agg n.c]=some (.tup [.int .i64 (cnt n),.int .i64 (dep n)]):=by
 rw [fnW_eq H.f282 rfl]
 have hw:=fun k hk=>walk_step H n n (.ptr 0 0 0) (.inr ⟨rfl,rfl⟩) (fun m _=>walks H n m) 1 0 0 k hk (by omega) (by omega) (by omega)
 unfold cnt dep
 generalize wk n 1 (0,0)=R at *
 obtain ⟨r,c,d⟩:=R
 obtain ⟨n',h⟩:=hw 8 (by omega)
 simp only [hpM] at h
 simp at h
 cases r <;> simp [w282,H.inl,inlB,H.pp,ppB,h]
theorem count_ok (H:HasM C) (n:Nd):FnW C 140 [.agg n.c]=some (.int .i64 (cnt n)):=by
 have h:=measure_ok H n
 rw [fnW_eq H.f140 rfl]
 simp [w140,H.inl,inlB,H.pp,ppB,h]
theorem check_ok (H:HasM C) (n:Nd):FnW C 439 [.agg n.c]=some (.int .i64 (if cnt n=0 then 14 else 0)):=by
 have h:=count_ok H n
 rw [fnW_eq H.f439 rfl]
 by_cases c:cnt n=0
 · simp [w439,H.inl,inlB,H.pp,ppB,h,c]
 · simp [w439,H.inl,inlB,H.pp,ppB,h,c]
end Go.D
end
