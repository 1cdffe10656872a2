/- Part of the theory that the claims of this work use: PwP, PwLib, D01, PavLink, L24, PwGlue, PwGlue2, G00, D02, D03. No conditions of its own. -/
import Derived.Test.YtcekmcchienbfaaGreatT4
import Derived.Laws.RangeAny
import Derived.Test.YtcekmcchienbfaaGreatChecked
import Derived.KernelRfl
import Derived.ChangeSame
import Derived.ChangeArms
import Derived.ReadAgain
import Derived.Handed
import Derived.JoinedOf
import Derived.RowKit
import Derived.Test.YtcekmcchienbfaaGreatRows
import Derived.ProofKit
import Derived.Sort.Walk0
set_option linter.unusedVariables false
set_option linter.unusedSimpArgs false
set_option maxHeartbeats 4000000
set_option maxRecDepth 10000
section
set_option maxRecDepth 100000
namespace P
open Go Go.Pav Go.Pw Go.Pw.Z Go.Pw.ZC
def w0:WFn:=⟨0,[],zd (O 0 [E .fail])⟩
def FY:ay:=zd (s (O 261 [h 2 7,f 0 20,h 1 262,f 1 20,l 1 264,f 2 9,l 1 266,f 3 9,l 1 268,ca 135 [261,263,265,267,269],d 260 (m 270),ex 0 260,ex 1 260,d 32 (m 271),d 33 (m 272)]) (s (s (U 273 [m 33,nei 273 0,m 274,z 275 (m 32),z 275 (ln 1 276),z 275 (gti 277 0),po 275 278,m 279,z 280 (f 2 20),z 280 (l 1 281),z 280 (m 29),z 280 (gt 282 283),po 280 284,m 285,z 286 (f 2 20),z 286 (l 1 287),z 286 (m 30),z 286 (gt 288 289),po 286 290,m 291,z 292 (f 0 20),z 292 (h 1 293),z 292 (f 1 20),z 292 (l 1 295),z 292 (h 2 13),z 292 (ca 321 [294,296,297]),z 292 (nt 298),z 292 (m 299),y 300 (f 1 20),y 300 (l 1 301),y 300 (nei 302 0),z 292 (pa 300 303),z 292 (m 304),y 305 (f 1 20),y 305 (l 1 306),y 305 (f 0 20),y 305 (f 0 308),y 305 (l 1 309),y 305 (f 2 9),y 305 (l 1 311),y 305 (ca 327 [310,312]),y 305 (ne 307 313),z 292 (pa 305 314),po 292 315] [(34,40)] [316,20,13,10,9,8,3]) (c 316 (r (O 6 [ff])))) (s (O 318 [h 5 9,f 0 20,h 1 319,h 2 13,m 10,ca 174 [318,320,321,322],d 317 (m 323),ex 0 317,ex 1 317,d 34 (E (.alloc [.ro 6 [] true,.int .i64 0,.int .i64 0])),n (st 3 34 324),d 35 (m 325)]) (s (s (Q 326 [m 35,nei 326 0,m 327,z 328 (f 2 34),z 328 (l 1 329),z 328 (nei 330 0),po 328 331,m 332,z 333 (f 1 34),z 333 (l 1 334),z 333 (f 1 20),z 333 (l 1 336),z 333 (ne 335 337),po 333 338,m 339,z 340 (f 0 34),z 340 (f 0 341),z 340 (l 1 342),z 340 (f 0 20),z 340 (f 0 344),z 340 (l 1 345),z 340 (ca 172 [343,346]),z 340 (eqi 347 0),po 340 348] [349,8,3]) (c 349 (r (O 6 [ff])))) (s (O 351 [h 3 3,ca 130 [351],d 350 (m 352),ex 0 350,ex 1 350,d 36 (E (.alloc [.ro 9 [] true,.int .i64 0])),d 37 (E (.alloc [.ro 6 [] true])),n (st 2 36 353),n (st 1 37 354)]) (r (O 355 [f 0 8,l 1 355,f 0 37,l 1 357,ca 172 [356,358],eqi 359 1,m 360,y 361 (ca 178 []),pa 361 362,d 6 (m 363)])))))))
def Aa:ay:=zd (s (s (O 197 [m 31,f 0 8,l 1 198,ln 1 199,lt 197 200]) (cc 201 (w .skip) (ee 0))) (s (B 1 (s (s (O 204 [f 0 8,l 1 204,m 31,ix 6 205 206,f 5 207,l 1 208,nt 209]) (c 210 (O 211 [m 29,adi 211 1,d 29 (m 212)]))) (s (U 213 [f 0 8,l 1 213,m 31,ix 6 214 215,f 5 216,l 1 217,f 0 20,f 0 219,l 1 220,m 31,ix 6 221 222,f 5 223,l 1 224,E (.eqv 5 [] true (T 218) (T 225))] [] [226,31,30,29,20,13,10,9,8,7,3]) (cc 226 (s (O 227 [m 30,adi 227 1,d 30 (m 228)]) (s (U 229 [f 0 20,f 0 229,l 1 230,m 31,ix 6 231 232,f 4 233,l 1 234,h 5 9,f 0 8,l 1 237,m 31,ix 6 238 239,f 0 240,h 4 241,m 10,ca 351 [236,242,243],ne 235 244] [(2,15),(6,15)] [245,31,30,29,20,13,10,9,8,7,3]) (c 245 (r (O 6 [ff]))))) (s (V 246 [f 0 8,l 1 246,m 31,ix 6 247 248,f 4 249,l 1 250,f 0 20,f 0 252,l 1 253,m 31,ix 6 254 255,f 4 256,l 1 257,ne 251 258] [] ⟨false,[],[]⟩) (c 259 (r (O 6 [ff])))))))) (O 202 [m 31,adi 202 1,d 31 (m 203)])))
def NR:ay:=.loop ⟨true,[31,30,29,20,13,10,9,8,7,3],[]⟩ Aa
def XG:WFn:=⟨3,[.tmp 6],zd (s (O 3 [bx 0,bx 1,bx 2,ff]) (s (O 39 [h 3 3,ca 130 [39],d 38 (m 40),ex 0 38,ex 1 38,d 7 (E (.alloc [.ro 9 [] true,.int .i64 0])),d 8 (E (.alloc [.ro 6 [] true])),n (st 2 7 41),n (st 1 8 42)]) (s (O 44 [h 4 4,h 2 7,ca 347 [44,45],d 43 (m 46),ex 0 43,ex 1 43,d 9 (E (.alloc [.ro 9 [] true,.int .i64 0,.int .i64 0,.int .i64 0,.int .i64 0])),n (st 5 9 47),d 10 (m 48)]) (s (Q 50 [f 0 4,h 2 50,h 1 8,ca 256 [51,52],d 49 (m 53),ex 0 49,ex 1 49,d 11 (m 54),d 12 (m 55)] [11,10,9,8,7,5,3]) (s (O 57 [h 1 8,m 11,ca 160 [57,58],d 56 (m 59),ex 0 56,ex 1 56,d 13 (E (.alloc [.int .u64 0,.int .i64 0])),n (st 2 13 60),d 14 (m 61)]) (s (s (O 62 [m 14,nei 62 0]) (c 63 (r (O 6 [ff])))) (s (s (O 64 [E (.kZ 2 1 (T 5) (N 1)),l 1 64,E (.cvt .i64 (T 65)),d 15 (m 66)]) (s (Q 67 [f 0 8,l 1 67,ln 1 68,gti 69 0] [70,15,13,10,9,8,7,5,3]) (c 70 (s (s (O 71 [m 15,f 0 8,l 1 72,ln 1 73,lt 71 74]) (c 75 (O 76 [f 0 8,l 1 76,m 15,ix 6 77 78,f 0 79,f 0 80,l 1 81,f 0 13,n (st 1 83 82)]))) (O 84 [f 1 13,l 1 84,E (.kZ 2 1 (T 5) (N 0)),l 1 86,E (.bin .rem (T 87) (.c (.int .u8 64))),E (.cvt .i64 (T 88)),ad 85 89,f 1 13,n (st 1 91 90)]))))) (s (Q 93 [h 5 9,f 0 8,l 1 94,h 2 13,m 10,ca 348 [93,95,96,97],d 92 (m 98),ex 0 92,ex 1 92,ex 2 92,ex 3 92,d 16 (m 99),d 17 (m 100),d 18 (m 101),d 19 (m 102)] [19,18,17,16,13,10,9,8,7,3]) (s (O 104 [h 5 9,h 1 8,h 2 13,m 10,ca 174 [104,105,106,107],d 103 (m 108),ex 0 103,ex 1 103,d 20 (E (.alloc [.ro 6 [] true,.int .i64 0,.int .i64 0])),n (st 3 20 109),d 21 (m 110)]) (s (s (Q 111 [m 19,nei 111 0,m 112,z 113 (m 21),z 113 (nei 114 0),po 113 115,m 116,z 117 (f 0 20),z 117 (f 0 118),z 117 (l 1 119),z 117 (m 16),z 117 (ca 172 [120,121]),z 117 (eqi 122 0),po 117 123,m 124,z 125 (f 1 20),z 125 (l 1 126),z 125 (m 17),z 125 (ne 127 128),po 125 129,m 130,z 131 (f 2 20),z 131 (l 1 132),z 131 (m 18),z 131 (ne 133 134),po 131 135,m 136,z 137 (f 0 20),z 137 (f 0 138),z 137 (l 1 139),z 137 (E (.cap (T 140))),z 137 (f 0 20),z 137 (f 0 142),z 137 (l 1 143),z 137 (ln 1 144),z 137 (ne 141 145),po 137 146] [147,20,13,10,9,8,7,3]) (c 147 (r (O 6 [ff])))) (s (Q 149 [h 5 9,f 0 8,l 1 150,h 2 13,m 10,ca 349 [149,151,152,153],d 148 (m 154),ex 0 148,ex 1 148,ex 2 148,ex 3 148,d 22 (m 155),d 23 (m 156),d 24 (m 157),d 25 (m 158)] [24,23,22,20,13,10,9,8,7,3]) (s (O 160 [h 5 9,h 1 8,h 2 13,m 10,ca 350 [160,161,162,163],d 159 (m 164),ex 0 159,ex 1 159,ex 2 159,d 26 (E (.alloc [.ro 6 [] true,.int .i64 0,.int .i64 0])),n (st 3 26 165),d 27 (m 166),d 28 (m 167)]) (s (s (Q 168 [m 28,nei 168 0,m 169,z 170 (f 0 26),z 170 (f 0 171),z 170 (l 1 172),z 170 (m 22),z 170 (ca 172 [173,174]),z 170 (eqi 175 0),po 170 176,m 177,z 178 (f 1 26),z 178 (l 1 179),z 178 (m 23),z 178 (ne 180 181),po 178 182,m 183,z 184 (m 27),z 184 (m 24),z 184 (gti 186 0),z 184 (E (.eqv 5 [] true (T 185) (T 187))),po 184 188,m 189,z 190 (f 2 26),z 190 (l 1 191),z 190 (m 24),z 190 (E (.mn (T 193) (N 1))),z 190 (ne 192 194),po 190 195] [196,20,13,10,9,8,7,3]) (c 196 (r (O 6 [ff])))) (s (O 29 [i 0,i 0]) (s (s (O 31 [i 0]) (bk 0 NR ⟨true,[30,29,20,13,10,9,8,7,3],[]⟩)) FY)))))))))))))))⟩
@[simp] theorem anC:ZL NR Aa ⟨true,[31,30,29,20,13,10,9,8,7,3],[]⟩:=bf rfl
noncomputable abbrev E8 (C:aG) (s:WSt):Option AV:=CK C 0 (aN [.tmp 6]) [.sq NR,.bk 0 ⟨true,[30,29,20,13,10,9,8,7,3],[]⟩,.sq FY] Aa s
def VO:ay:=zd (s (s (O 294 [E (.build [.int .u64 0,.int .i64 0] [(1,1,N 1)]),ca 176 [294],nei 295 1,m 296,z 297 (E (.call 177 [.c (.ro 1 [] true),N 0])),z 297 (nei 298 0),po 297 299]) (c 300 (r (O 0 [ff])))) (r (O 301 [ca 178 [],d 0 (m 301)])))
def Gl:ay:=zd (s (s (O 240 [m 12,lti 240 100]) (cc 241 (w .skip) (ee 4))) (s (B 5 (s (Q 244 [E (.build [.int .u8 0,.int .u8 0,.int .u8 0,.int .u8 0] [(0,1,.c (.int .u8 1)),(1,1,.c (.int .u8 1)),(2,1,.c (.int .u8 1)),(3,1,.c (.int .u8 0))]),E (.build [.int .u8 0,.int .u8 0,.int .u8 0,.int .u8 0] [(0,1,.c (.int .u8 2)),(1,1,.c (.int .u8 0)),(2,1,.c (.int .u8 2)),(3,1,.c (.int .u8 1))]),E (.build [.int .u8 0,.int .u8 0,.int .u8 0,.int .u8 0] [(0,1,.c (.int .u8 3)),(1,1,.c (.int .u8 2)),(2,1,.c (.int .u8 3)),(3,1,.c (.int .u8 2))]),E (.build [.int .u8 0,.int .u8 0,.int .u8 0,.int .u8 0] [(0,1,.c (.int .u8 4)),(1,1,.c (.int .u8 1)),(2,1,.c (.int .u8 4)),(3,1,.c (.int .u8 3))]),E (.build [.int .u8 0,.int .u8 0,.int .u8 0,.int .u8 0] [(0,1,.c (.int .u8 5)),(1,1,.c (.int .u8 0)),(2,1,.c (.int .u8 5)),(3,1,.c (.int .u8 0))]),E (.build [.int .u8 0,.int .u8 0,.int .u8 0,.int .u8 0] [(0,1,.c (.int .u8 6)),(1,1,.c (.int .u8 1)),(2,1,.c (.int .u8 6)),(3,1,.c (.int .u8 0))]),E (.aV [.int .u8 0,.int .u8 0,.int .u8 0,.int .u8 0] 6 [(0,T 244),(1,T 245),(2,T 246),(3,T 247),(4,T 248),(5,T 249)]),E (.build [.ro 4 [] true] [(0,1,T 250)]),m 12,E (.bin .rem (T 252) (N 3)),E (.cvt .u8 (T 253)),m 12,E (.cvt .u8 (T 255)),m 12,E (.bin .quo (T 257) (N 9)),E (.cvt .u8 (T 258)),E (.aV [.int .u8 0] 6 [(0,T 254),(1,.c (.int .u8 0)),(2,T 256),(3,.c (.int .u8 0)),(4,.c (.int .u8 0)),(5,T 259)]),m 12,E (.cvt .u8 (T 261)),E (.build [.ro 4 [] true,.ro 1 [] true,.int .u8 0] [(0,1,T 251),(1,1,T 260),(2,1,T 262)]),d 13 (E (.alloc [.ro 4 [] true,.ro 1 [] true,.int .u8 0])),n (st 3 13 263)] [13,12]) (s (O 264 [m 12,E (.bin .rem (T 264) (N 40)),E (.cvt .u8 (T 265)),m 12,E (.cvt .u16 (T 267)),E (.build [.int .u8 0,.int .u16 0] [(0,1,T 266),(1,1,T 268)]),m 12,E (.bin .quo (T 270) (N 8)),E (.cvt .u8 (T 271)),m 12,E (.cvt .u8 (T 273)),E (.build [.int .u8 0,.int .u8 0] [(0,1,.c (.int .u8 1)),(1,1,T 274)]),E (.build [.int .u8 0,.int .u8 0] [(0,1,.c (.int .u8 2)),(1,1,.c (.int .u8 0))]),E (.build [.int .u8 0,.int .u8 0] [(0,1,.c (.int .u8 3)),(1,1,.c (.int .u8 40))]),m 12,E (.bin .mul (T 278) (N 7)),E (.cvt .u8 (T 279)),E (.build [.int .u8 0,.int .u8 0] [(0,1,.c (.int .u8 4)),(1,1,T 280)]),E (.aV [.int .u8 0,.int .u8 0] 4 [(0,T 275),(1,T 276),(2,T 277),(3,T 281)]),E (.build [.int .u8 0,.int .u16 0,.int .u8 0,.ro 2 [] true] [(0,2,T 269),(2,1,T 272),(3,1,T 282)]),d 14 (E (.alloc [.int .u8 0,.int .u16 0,.int .u8 0,.ro 2 [] true])),n (st 4 14 283)]) (s (Q 284 [h 3 13,h 4 14,m 12,E (.cvt .u8 (T 286)),m 12,E (.bin .rem (T 288) (N 9)),E (.cvt .u8 (T 289)),E (.build [.int .u8 0,.int .u8 0] [(0,1,T 287),(1,1,T 290)]),ca 175 [284,285,291],nt 292] [293,12]) (c 293 (r (O 0 [ff]))))))) (O 242 [m 12,adi 242 1,d 12 (m 243)])))
def TN:ay:=.loop ⟨true,[12],[]⟩ Gl
def KC:ay:=zd (s (O 183 [f 2 1,n (E (.store 1 (T 183) (N 1000)))]) (s (O 184 [f 3 1,n (E (.store 1 (T 184) (N 16)))]) (s (O 186 [h 5 1,h 1 3,E (.build [.int .u64 0,.int .i64 0] [(0,1,.c (.int .u64 150))]),E (.build [.int .u64 0,.int .i64 0] [(0,1,.c (.int .u64 151)),(1,1,N 1099511627776)]),E (.aV [.int .u64 0,.int .i64 0] 1 [(0,T 189)]),ca 174 [186,187,188,190],d 185 (m 191),ex 0 185,ex 1 185,n (st 3 6 192),d 7 (m 193)]) (s (s (Q 194 [m 7,nei 194 0,m 195,z 196 (f 1 6),z 196 (l 1 197),z 196 (nei 198 1490),po 196 199,m 200,z 201 (f 2 6),z 201 (l 1 202),z 201 (nei 203 1),po 201 204,m 205,z 206 (f 0 6),z 206 (f 0 207),z 206 (l 1 208),z 206 (E (.idxs 6 (T 209) (N 132))),z 206 (f 5 210),z 206 (l 1 211),po 206 212,m 213,z 214 (f 0 6),z 214 (f 0 215),z 214 (l 1 216),z 214 (E (.idxs 6 (T 217) (N 133))),z 214 (f 5 218),z 214 (l 1 219),z 214 (nt 220),po 214 221,m 222,z 223 (f 0 6),z 223 (f 0 224),z 223 (l 1 225),z 223 (E (.idxs 6 (T 226) (N 264))),z 223 (f 5 227),z 223 (l 1 228),z 223 (nt 229),po 223 230,m 231,z 232 (f 0 6),z 232 (f 0 233),z 232 (l 1 234),z 232 (E (.idxs 6 (T 235) (N 265))),z 232 (f 5 236),z 232 (l 1 237),po 232 238] [239]) (c 239 (r (O 0 [ff])))) (s (s (O 12 [i 0]) (bk 4 TN ⟨true,[],[]⟩)) VO)))))
def BR:ay:=zd (s (s (O 169 [m 11,lti 169 300]) (cc 170 (w .skip) (ee 2))) (s (B 3 (Q 173 [f 0 3,l 1 173,m 11,adi 175 1,E (.cvt .u64 (T 176)),E (.build [.int .u64 0,.int .u8 0,.str [],.ro 1 [] true] [(0,1,T 177)]),E (.build [.int .u64 0,.int .u8 0,.str [],.ro 1 [] true,.int .i64 0,.bool false] [(0,4,T 178),(4,1,N 10)]),E (.aV [.int .u64 0,.int .u8 0,.str [],.ro 1 [] true,.int .i64 0,.bool false] 1 [(0,T 179)]),E (.app [.int .u64 0,.int .u8 0,.str [],.ro 1 [] true,.int .i64 0,.bool false] 72 false (T 174) (T 180)),f 0 3,n (st 1 182 181)] [11,6,3,1])) (O 171 [m 11,adi 171 1,d 11 (m 172)])))
def Vf:ay:=.loop ⟨true,[11,6,3,1],[]⟩ BR
def Vl:ay:=zd (s (O 41 [h 5 1,h 1 3,E (.build [.int .u64 0,.int .i64 0] [(0,1,.c (.int .u64 1))]),m 4,ca 174 [41,42,43,44],d 40 (m 45),ex 0 40,ex 1 40,d 6 (E (.alloc [.ro 6 [] true,.int .i64 0,.int .i64 0])),n (st 3 6 46),d 7 (m 47)]) (s (s (Q 48 [m 7,nei 48 0,m 49,z 50 (f 2 6),z 50 (l 1 51),z 50 (nei 52 10),po 50 53,m 54,z 55 (f 1 6),z 55 (l 1 56),z 55 (nei 57 0),po 55 58,m 59,z 60 (f 0 6),z 60 (h 1 61),z 60 (ca 111 [62]),z 60 (nei 63 30),po 60 64,m 65,z 66 (f 0 6),z 66 (f 0 67),z 66 (l 1 68),z 66 (E (.idxs 6 (T 69) (N 9))),z 66 (f 5 70),z 66 (l 1 71),z 66 (nt 72),po 66 73,m 74,z 75 (f 0 6),z 75 (f 0 76),z 75 (l 1 77),z 75 (E (.idxs 6 (T 78) (N 10))),z 75 (f 5 79),z 75 (l 1 80),po 75 81] [82,6,4,3,1]) (c 82 (r (O 0 [ff])))) (s (O 84 [h 5 1,h 1 3,E (.build [.int .u64 0,.int .i64 0] [(0,1,.c (.int .u64 12)),(1,1,N 9)]),m 4,ca 174 [84,85,86,87],d 83 (m 88),ex 0 83,ex 1 83,n (st 3 6 89),d 7 (m 90)]) (s (s (Q 91 [m 7,nei 91 0,m 92,z 93 (f 0 6),z 93 (h 1 94),z 93 (ca 111 [95]),z 93 (nei 96 30),po 93 97,m 98,z 99 (f 1 6),z 99 (l 1 100),z 99 (nei 101 20),po 99 102,m 103,z 104 (f 2 6),z 104 (l 1 105),z 104 (nei 106 10),po 104 107,m 108,z 109 (f 0 6),z 109 (f 0 110),z 109 (l 1 111),z 109 (E (.idxs 6 (T 112) (N 1))),z 109 (f 5 113),z 109 (l 1 114),po 109 115,m 116,z 117 (f 0 6),z 117 (f 0 118),z 117 (l 1 119),z 117 (E (.idxs 6 (T 120) (N 2))),z 117 (f 5 121),z 117 (l 1 122),z 117 (nt 123),po 117 124] [125,6,3,1]) (c 125 (r (Q 0 [ff] [0])))) (s (O 126 [E (.build [.int .u64 0,.int .i64 0] [(0,1,.c (.int .u64 1)),(1,1,N 2305843009213693952)]),E (.build [.int .u64 0,.int .i64 0] [(0,1,.c (.int .u64 2)),(1,1,N 2305843009213693952)]),E (.build [.int .u64 0,.int .i64 0] [(0,1,.c (.int .u64 3)),(1,1,N 2305843009213693952)]),E (.aV [.int .u64 0,.int .i64 0] 3 [(0,T 126),(1,T 127),(2,T 128)]),d 8 (m 129)]) (s (O 131 [E (.call 173 [N 30]),d 130 (m 131),ex 0 130,ex 1 130,d 9 (E (.alloc [.ro 6 [] true])),n (st 5 1 132),n (st 1 9 133)]) (s (O 135 [h 5 1,h 1 9,E (.build [.int .u64 0,.int .i64 0] [(0,1,.c (.int .u64 1))]),m 8,ca 174 [135,136,137,138],d 134 (m 139),ex 0 134,ex 1 134,d 7 (m 141)]) (s (O 142 [f 2 1,n (E (.store 1 (T 142) (N 5)))]) (s (Q 144 [h 5 1,h 1 9,E (.build [.int .u64 0,.int .i64 0] [(0,1,.c (.int .u64 1))]),m 8,ca 174 [144,145,146,147],d 143 (m 148),ex 0 143,ex 1 143,n (st 3 6 149),d 10 (m 150)] [10,7,6,3,1]) (s (s (O 151 [m 7,nei 151 13,m 152,z 153 (m 10),z 153 (nei 154 0),po 153 155,m 156,z 157 (f 0 6),z 157 (h 1 158),z 157 (ca 111 [159]),z 157 (nei 160 2305843009213693982),po 157 161,m 162,z 163 (f 2 6),z 163 (l 1 164),z 163 (nei 165 1),po 163 166]) (c 167 (r (O 0 [ff])))) (s (O 168 [f 0 3,n (E (.store 1 (T 168) (.c (.ro 6 [] true))))]) (s (s (O 11 [i 0]) (bk 2 Vf ⟨true,[6,3,1],[]⟩)) KC))))))))))))
def U2:ay:=zd (s (s (O 19 [m 5,lti 19 12]) (cc 20 (w .skip) (ee 0))) (s (B 1 (s (Q 23 [f 0 3,l 1 23,m 5,adi 25 1,E (.cvt .u64 (T 26)),E (.build [.int .u64 0,.int .u8 0,.str [],.ro 1 [] true] [(0,1,T 27)]),E (.build [.int .u64 0,.int .u8 0,.str [],.ro 1 [] true,.int .i64 0,.bool false] [(0,4,T 28),(4,1,N 10)]),E (.aV [.int .u64 0,.int .u8 0,.str [],.ro 1 [] true,.int .i64 0,.bool false] 1 [(0,T 29)]),E (.app [.int .u64 0,.int .u8 0,.str [],.ro 1 [] true,.int .i64 0,.bool false] 72 false (T 24) (T 30)),f 0 3,n (st 1 32 31)] [5,4,3,1]) (O 33 [m 4,m 5,adi 34 1,E (.cvt .u64 (T 35)),E (.build [.int .u64 0,.int .i64 0] [(0,1,T 36),(1,1,N 1)]),E (.aV [.int .u64 0,.int .i64 0] 1 [(0,T 37)]),E (.app [.int .u64 0,.int .i64 0] 16 false (T 33) (T 38)),d 4 (m 39)]))) (O 21 [m 5,adi 21 1,d 5 (m 22)])))
def abe:ay:=.loop ⟨true,[5,4,3,1],[]⟩ U2
def w92:WFn:=⟨0,[.tmp 0],zd (s (O 0 [ff]) (s (O 16 [E (.call 173 [N 10]),d 15 (m 16),ex 0 15,ex 1 15,d 1 (E (.alloc [.ro 9 [] true,.int .i64 0,.int .i64 0,.int .i64 0,.int .i64 0])),d 2 (E (.alloc [.ro 6 [] true])),n (st 5 1 17),n (st 1 2 18)]) (s (O 3 [E (.alloc [.ro 6 [] true])]) (s (R 4 [E (.mv (.c (.ro 2 [] true)))] ⟨true,[4,3,1],[(4,2)]⟩) (s (s (O 5 [i 0]) (bk 0 abe ⟨true,[4,3,1],[]⟩)) Vl)))))⟩
@[simp] theorem aqS:ZL TN Gl ⟨true,[12],[]⟩:=bf rfl
noncomputable abbrev uo (C:aG) (s:WSt):Option AV:=CK C 0 (aN [.tmp 0]) [.sq TN,.bk 4 ⟨true,[],[]⟩,.sq VO] Gl s
@[simp] theorem aq4:ZL Vf BR ⟨true,[11,6,3,1],[]⟩:=bf rfl
noncomputable abbrev CV (C:aG) (s:WSt):Option AV:=CK C 0 (aN [.tmp 0]) [.sq Vf,.bk 2 ⟨true,[6,3,1],[]⟩,.sq KC] BR s
@[simp] theorem aqj:ZL abe U2 ⟨true,[5,4,3,1],[]⟩:=bf rfl
def amS:WFn:=⟨0,[.tmp 0],zd (s (O 0 [ff]) (s (O 11 [E (.build [.int .u64 0,.int .i64 0] [(0,1,.c (.int .u64 2)),(1,1,N 25)]),E (.aV [.int .u64 0,.int .i64 0] 1 [(0,T 11)]),d 1 (m 12)]) (s (O 13 [E (.build [.int .u64 0,.int .i64 0] [(0,1,.c (.int .u64 2)),(1,1,N 25)]),E (.build [.int .u64 0,.int .i64 0] [(0,1,.c (.int .u64 4)),(1,1,N 1)]),E (.aV [.int .u64 0,.int .i64 0] 2 [(0,T 13),(1,T 14)]),d 2 (m 15)]) (s (s (Q 16 [E (.build [.int .u64 0,.int .i64 0] [(0,1,.c (.int .u64 1))]),m 1,E (.build [.int .i64 0,.int .i64 0,.int .i64 0,.int .i64 0] [(0,1,N 10),(1,1,N 25),(2,1,N 10),(3,1,N 10)]),E (.build [.int .i64 0,.int .i64 0,.int .i64 0,.int .i64 0] [(0,1,N 1),(1,1,N 1),(2,1,N 0),(3,1,N 0)]),E (.call 352 [T 16,T 17,T 18,T 19,N 0,N 1]),eqi 20 0,m 21,z 22 (E (.build [.int .u64 0,.int .i64 0] [(0,1,.c (.int .u64 2)),(1,1,N 5)])),z 22 (m 1),z 22 (E (.build [.int .i64 0,.int .i64 0,.int .i64 0,.int .i64 0] [(0,1,N 10),(1,1,N 25),(2,1,N 10),(3,1,N 10)])),z 22 (E (.build [.int .i64 0,.int .i64 0,.int .i64 0,.int .i64 0] [(0,1,N 0),(1,1,N 1),(2,1,N 1),(3,1,N 1)])),z 22 (E (.call 352 [T 23,T 24,T 25,T 26,N 15,N 1])),z 22 (eqi 27 0),po 22 28,m 29,z 30 (E (.build [.int .u64 0,.int .i64 0] [(0,1,.c (.int .u64 4))])),z 30 (m 1),z 30 (E (.build [.int .i64 0,.int .i64 0,.int .i64 0,.int .i64 0] [(0,1,N 10),(1,1,N 10),(2,1,N 10),(3,1,N 10)])),z 30 (E (.build [.int .i64 0,.int .i64 0,.int .i64 0,.int .i64 0] [(0,1,N 0),(1,1,N 0),(2,1,N 1),(3,1,N 1)])),z 30 (E (.call 352 [T 31,T 32,T 33,T 34,N 20,N 1])),z 30 (eqi 35 0),po 30 36,m 37,z 38 (E (.build [.int .u64 0,.int .i64 0] [(0,1,.c (.int .u64 4))])),z 38 (m 2),z 38 (E (.build [.int .i64 0,.int .i64 0,.int .i64 0,.int .i64 0] [(0,1,N 10),(1,1,N 25),(2,1,N 10),(3,1,N 1)])),z 38 (E (.build [.int .i64 0,.int .i64 0,.int .i64 0,.int .i64 0] [(0,1,N 0),(1,1,N 1),(2,1,N 1),(3,1,N 1)])),z 38 (E (.call 352 [T 39,T 40,T 41,T 42,N 26,N 2])),z 38 (eqi 43 0),po 38 44] [45]) (c 45 (r (O 0 [ff])))) (s (Q 47 [E (.call 173 [N 0]),d 46 (m 47),ex 0 46,ex 1 46,d 3 (E (.alloc [.ro 9 [] true,.int .i64 0,.int .i64 0,.int .i64 0,.int .i64 0])),d 4 (E (.alloc [.ro 6 [] true])),n (st 5 3 48),n (st 1 4 49)] [4,3]) (s (O 51 [h 5 3,h 1 4,E (.build [.int .u64 0,.int .i64 0] []),E (.call 174 [T 51,T 52,T 53,.c (.ro 2 [] true)]),d 50 (m 54),ex 0 50,ex 1 50,d 5 (E (.alloc [.ro 6 [] true,.int .i64 0,.int .i64 0])),n (st 3 5 55),d 6 (m 56)]) (s (O 57 [f 2 3,n (E (.store 1 (T 57) (N 1)))]) (s (O 59 [h 5 3,h 1 4,E (.build [.int .u64 0,.int .i64 0] [(0,1,.c (.int .u64 9))]),E (.call 174 [T 59,T 60,T 61,.c (.ro 2 [] true)]),d 58 (m 62),ex 0 58,ex 1 58,d 7 (E (.alloc [.ro 6 [] true,.int .i64 0,.int .i64 0])),n (st 3 7 63),d 8 (m 64)]) (s (Q 66 [h 5 3,h 1 4,E (.build [.int .u64 0,.int .i64 0] [(0,1,.c (.int .u64 1))]),E (.build [.int .u64 0,.int .i64 0] [(0,1,.c (.int .u64 2)),(1,1,N 25)]),E (.build [.int .u64 0,.int .i64 0] [(0,1,.c (.int .u64 2)),(1,1,N 26)]),E (.aV [.int .u64 0,.int .i64 0] 2 [(0,T 69),(1,T 70)]),ca 174 [66,67,68,71],d 65 (m 72),ex 0 65,ex 1 65,d 9 (E (.alloc [.ro 6 [] true,.int .i64 0,.int .i64 0])),n (st 3 9 73),d 10 (m 74)] [10,8,6]) (r (O 75 [m 6,eqi 75 1,m 76,y 77 (m 8),y 77 (eqi 78 11),pa 77 79,m 80,y 81 (m 10),y 81 (eqi 82 8),pa 81 83,d 0 (m 84)])))))))))))⟩
def EJ:ay:=zd (r (V 68 [h 2 4,h 1 6,n (st 2 2 68),n (st 1 3 69)] [(1,2)] ⟨false,[],[]⟩))
def ji:ay:=zd (s (s (O 17 [m 7,m 5,ln 1 18,lt 17 19]) (cc 20 (w .skip) (ee 0))) (s (B 1 (s (s (V 23 [h 2 4,m 5,m 7,ix 4 24 25,h 4 26,E (.call 271 [T 23,T 27,N 0]),gti 28 0] [] ⟨false,[],[]⟩) (c 29 (ee 1))) (s (U 30 [h 2 4,m 5,m 7,ix 4 31 32,h 4 33,ca 240 [30,34],d 8 (E (.alloc [.int .u64 0,.int .u8 0,.str [],.ro 1 [] true,.int .i64 0,.bool false])),n (st 6 8 35)] [(0,6),(4,6),(5,6)] [8,7,6,5,4,3,2,1]) (s (s (O 36 [f 0 6,l 1 36,ln 1 37,d 9 (m 38)]) (s (O 39 [m 9,f 1 1,l 1 40,ln 1 41,lt 39 42,m 43,y 44 (f 1 1),y 44 (l 1 45),y 44 (m 9),y 44 (ix 1 46 47),y 44 (l 1 48),y 44 (E (.bin .gtr (T 49) (.c (.int .u8 0)))),pa 44 50]) (c 51 (s (Q 52 [f 1 1,l 1 52,m 9,ix 1 53 54,l 1 55,E (.bin .rem (T 56) (.c (.int .u8 40))),E (.cvt .i64 (T 57)),E (.bin .add (N 1) (T 58)),f 4 8,n (st 1 60 59)] [8,7,6,5,4,3,2,1]) (O 61 [f 5 8,n (E (.store 1 (T 61) (.c (.bool true))))]))))) (O 62 [f 0 6,l 1 62,h 6 8,E (.aV [.int .u64 0,.int .u8 0,.str [],.ro 1 [] true,.int .i64 0,.bool false] 1 [(0,T 64)]),E (.app [.int .u64 0,.int .u8 0,.str [],.ro 1 [] true,.int .i64 0,.bool false] 72 false (T 63) (T 65)),f 0 6,n (st 1 67 66)]))))) (O 21 [m 7,adi 21 1,d 7 (m 22)])))
def Ot:ay:=.loop ⟨true,[7,6,5,4,3,2,1],[]⟩ ji
def ag2:WFn:=⟨1,[.cell 2 2 true,.cell 3 1 true],zd (s (Q 1 [bx 0,E (.alloc [.ro 9 [] true,.int .i64 0]),E (.alloc [.ro 6 [] true])] [3,2,1]) (s (O 10 [f 2 1,l 1 10,ca 126 [11],E (.build [.ro 9 [] true,.int .i64 0] [(0,1,T 12),(1,1,N 12)]),d 4 (E (.alloc [.ro 9 [] true,.int .i64 0])),n (st 2 4 13)]) (s (O 14 [f 0 1,h 1 14,ca 270 [15],d 5 (m 16)]) (s (O 6 [E (.alloc [.ro 6 [] true])]) (s (s (O 7 [i 0]) (bk 0 Ot ⟨true,[6,4,3,2],[]⟩)) EJ)))))⟩
@[simp] theorem ao5:ZL Ot ji ⟨true,[7,6,5,4,3,2,1],[]⟩:=bf rfl
noncomputable abbrev iC (C:aG) (s:WSt):Option AV:=CK C 0 (aN [.cell 2 2 true,.cell 3 1 true]) [.sq Ot,.bk 0 ⟨true,[6,4,3,2],[]⟩,.sq EJ] ji s
def Gx:WFn:=⟨1,[.tmp 2],zd (s (O 1 [bx 0,i 0]) (s (B 0 (s (O 4 [f 0 1,h 2 4,ca 115 [5],nei 6 0,d 3 (m 7)]) (cc 3 (r (O 2 [i 7])) (s (Q 9 [f 2 1,l 1 9,lti 10 1,m 11,z 12 (f 2 1),z 12 (l 1 13),z 12 (gti 14 2147483648),po 12 15,m 16,z 17 (f 3 1),z 17 (l 1 18),z 17 (lti 19 0),po 17 20,m 21,z 22 (f 3 1),z 22 (l 1 23),z 22 (gti 24 16),po 22 25,m 26,z 27 (f 4 1),z 27 (l 1 28),z 27 (lti 29 1),po 27 30,m 31,z 32 (f 4 1),z 32 (l 1 33),z 32 (gti 34 2305843009213693952),po 32 35,d 8 (m 36)] [8]) (c 8 (r (O 2 [i 1]))))))) (r (O 2 [i 0]))))⟩
def IX:WFn:=⟨4,[.tmp 8],zd (s (O 4 [bx 0,bx 1,bx 2,d 8 (i 0)]) (s (s (O 16 [h 5 4,ca 464 [16],d 9 (m 17)]) (s (O 18 [m 9,nei 18 0]) (c 19 (r (Q 20 [m 9,d 8 (m 20)] [8]))))) (s (s (O 21 [f 0 4,h 2 21,h 1 5,ca 223 [22,23],d 10 (m 24)]) (s (O 25 [m 10,nei 25 0]) (c 26 (r (O 27 [m 10,d 8 (m 27)]))))) (s (s (O 29 [m 3,f 4 4,l 1 30,ca 201 [29,31],d 28 (m 32),ex 0 28,ex 1 28,d 11 (m 33),d 12 (m 34)]) (s (O 35 [m 12,nei 35 0]) (c 36 (r (O 37 [m 12,d 8 (m 37)]))))) (s (s (Q 38 [h 2 6,ca 318 [38],d 13 (m 39)] [13,6,5]) (s (O 40 [m 13,nei 40 0]) (c 41 (r (O 42 [m 13,d 8 (m 42)]))))) (s (s (O 44 [h 1 5,f 0 6,l 1 45,ca 224 [44,46],d 43 (m 47),ex 0 43,ex 1 43,d 14 (m 48),d 15 (m 49)]) (s (O 50 [f 0 6,l 1 50,E (.bin .neq (T 51) (.c (.int .u64 0))),m 52,y 53 (m 15),y 53 (nt 54),pa 53 55]) (c 56 (r (O 8 [i 11]))))) (r (O 8 [i 0]))))))))⟩
def Yz:WFn:=⟨3,[.tmp 6],zd (s (O 3 [bx 0,bx 1,d 6 (i 0)]) (s (s (O 8 [m 2,E (.jK 467 [T 4]),ca 466 [8,9],d 7 (m 10)]) (s (O 11 [m 7,gei 11 0]) (c 12 (r (Q 13 [m 2,m 7,ix 2 13 14,f 1 15,l 1 16,d 6 (m 17)] [6]))))) (s (s (O 18 [f 1 4,l 1 18,E (.cvt .i64 (T 19)),f 0 3,f 0 21,l 1 22,ln 1 23,lt 20 24]) (c 25 (r (O 26 [f 0 3,f 0 26,l 1 27,f 1 4,l 1 29,ix 9 28 30,f 6 31,l 1 32,d 6 (m 33)])))) (r (O 6 [i 0])))))⟩
def D9:ay:=zd (s (s (O 27 [f 0 3,f 0 27,l 1 28,ln 1 29,f 1 4,l 1 31,E (.cvt .i64 (T 32)),gt 30 33]) (c 34 (r (O 35 [f 0 3,f 0 35,l 1 36,f 1 4,l 1 38,ix 9 37 39,f 6 40,l 1 41,d 6 (m 42)])))) (r (O 6 [i 0])))
def wu:ay:=zd (s (s (O 8 [m 7,m 2,ln 1 9,lt 8 10]) (cc 11 (w .skip) (ee 0))) (s (B 1 (s (V 14 [m 2,m 7,ix 2 14 15,f 0 16,l 1 17,f 0 4,l 1 19,eq 18 20] [] ⟨false,[],[]⟩) (c 21 (r (Q 22 [m 2,m 7,ix 2 22 23,f 1 24,l 1 25,d 6 (m 26)] [6]))))) (O 12 [m 7,adi 12 1,d 7 (m 13)])))
def Ox:ay:=.loop ⟨true,[7,4,3,2],[]⟩ wu
def aeU:WFn:=⟨3,[.tmp 6],zd (s (O 3 [bx 0,bx 1,d 6 (i 0)]) (s (s (O 7 [i 0]) (bk 0 Ox ⟨true,[4,3],[]⟩)) D9))⟩
@[simp] theorem anO:ZL Ox wu ⟨true,[7,4,3,2],[]⟩:=bf rfl
noncomputable abbrev yZ (C:aG) (s:WSt):Option AV:=CK C 0 (aN [.tmp 6]) [.sq Ox,.bk 0 ⟨true,[4,3],[]⟩,.sq D9] wu s
def vO:ay:=zd (B 1 (s (Q 18 [h 5 4,m 1,h 2 6,m 3,ca 349 [18,19,20,21],d 17 (m 22),ex 0 17,ex 1 17,ex 2 17,ex 3 17,d 13 (m 23),d 14 (m 24),d 15 (m 25),d 16 (m 26)] [16,15,14,13,12,6,4,3]) (s (s (O 27 [m 16,gti 27 0]) (c 28 (r (O 8 [d 29 (m 16),E (.mv (.c (.ro 6 [] true))),i 0,i 0,m 29])))) (s (s (O 30 [m 15,eqi 30 0]) (c 31 (r (O 8 [d 32 (m 13),d 33 (m 14),d 34 (m 12),m 32,m 33,m 34,i 0])))) (s (O 35 [m 13,d 1 (m 35)]) (O 36 [m 12,adi 36 1,d 12 (m 37)]))))))
def MW:ay:=.loop ⟨true,[12,6,4,3,1],[]⟩ vO
def afZ:WFn:=⟨4,[.tmp 8,.tmp 9,.tmp 10,.tmp 11],zd (s (O 8 [d 4 (bx 0),d 6 (bx 2),E (.mv (.c (.ro 6 [] true))),i 0,i 0,i 0]) (s (O 12 [i 0]) (bk 0 MW ⟨true,[11,10,9,8],[]⟩)))⟩
@[simp] theorem aob:ZL MW vO ⟨true,[12,6,4,3,1],[]⟩:=bf rfl
noncomputable abbrev y7 (C:aG) (s:WSt):Option AV:=CK C 0 (aN [.tmp 8,.tmp 9,.tmp 10,.tmp 11]) [.sq MW,.bk 0 ⟨true,[11,10,9,8],[]⟩] vO s
def qZ:ay:=zd (B 1000000 (s (s (Q 28 [h 5 4,f 0 11,h 1 29,h 2 6,m 3,ca 2019 [28,30,31,32],d 27 (m 33),ex 0 27,ex 1 27,ex 2 27,f 1 11,n (st 1 37 34),d 12 (m 35),d 13 (m 36)] [13,12,11,8,6,4,3]) (s (s (O 38 [m 13,nei 38 0]) (c 39 (r (O 40 [E (.build [.ro 6 [] true,.int .i64 0,.int .i64 0] []),m 13,n (st 3 8 40),d 9 (m 41)])))) (s (s (O 42 [m 12,gti 42 0]) (c 43 (s (O 44 [f 2 11,l 1 44,adi 45 1,f 2 11,n (st 1 47 46)]) (ee 1000000)))) (r (O 48 [h 3 11,n (st 3 8 48),d 9 (i 0)]))))) (ee 1000001)))
def LW:ay:=.loop ⟨true,[11,8,6,4,3],[]⟩ qZ
def acW:WFn:=⟨4,[.cell 8 3 true,.tmp 9],zd (s (Q 4 [bx 0,bx 1,bx 2,d 8 (E (.alloc [.ro 6 [] true,.int .i64 0,.int .i64 0])),d 9 (i 0)] [8,6,5,4,3]) (s (s (O 14 [h 5 4,h 1 5,h 2 6,m 3,ca 344 [14,15,16,17],d 10 (m 18)]) (s (O 19 [m 10,nei 19 0]) (c 20 (r (O 21 [E (.build [.ro 6 [] true,.int .i64 0,.int .i64 0] []),m 10,n (st 3 8 21),d 9 (m 22)]))))) (s (O 23 [h 5 4,h 1 5,ca 3001 [23,24],E (.build [.ro 6 [] true,.int .i64 0,.int .i64 0] [(0,1,T 25)]),d 11 (E (.alloc [.ro 6 [] true,.int .i64 0,.int .i64 0])),n (st 3 11 26)]) (s (O 12 [i 0]) (s (O 13 [i 0]) (bk 1000001 LW ⟨true,[9,8],[]⟩))))))⟩
@[simp] theorem aoW:ZL LW qZ ⟨true,[11,8,6,4,3],[]⟩:=bf rfl
noncomputable abbrev Bg (C:aG) (s:WSt):Option AV:=CK C 0 (aN [.cell 8 3 true,.tmp 9]) [.sq LW,.bk 1000001 ⟨true,[9,8],[]⟩] qZ s
def NV:WFn:=⟨4,[.cell 8 3 true,.tmp 9,.tmp 10],zd (s (Q 8 [d 4 (bx 0),d 5 (bx 1),d 6 (bx 2),E (.alloc [.ro 6 [] true,.int .i64 0,.int .i64 0]),ff,i 0] [8,6,5,4,3]) (s (s (O 15 [h 5 4,h 1 5,h 2 6,m 3,ca 344 [15,16,17,18],d 11 (m 19)]) (s (O 20 [m 11,nei 20 0]) (c 21 (r (O 22 [E (.build [.ro 6 [] true,.int .i64 0,.int .i64 0] []),m 11,n (st 3 8 22),d 9 ff,d 10 (m 23)]))))) (s (Q 24 [h 5 4,h 1 5,ca 3001 [24,25],d 12 (E (.alloc [.ro 6 [] true])),n (st 1 12 26)] [12,8,6,4,3]) (s (Q 28 [h 5 4,h 1 12,h 2 6,m 3,ca 2019 [28,29,30,31],d 27 (m 32),ex 0 27,ex 1 27,ex 2 27,d 13 (m 33),d 14 (m 34),d 10 (m 35)] [14,13,12,10,8]) (s (s (O 36 [m 10,nei 36 0]) (c 37 (r (O 38 [E (.build [.ro 6 [] true,.int .i64 0,.int .i64 0] []),m 10,n (st 3 8 38),d 9 ff,d 10 (m 39)])))) (r (O 40 [h 1 12,m 13,m 14,E (.mn (T 42) (N 1)),E (.build [.ro 6 [] true,.int .i64 0,.int .i64 0] [(0,1,T 40),(1,1,T 41),(2,1,T 43)]),m 14,gti 45 0,n (st 3 8 44),d 9 (m 46),d 10 (i 0)])))))))⟩
def uQ:ay:=zd (r (O 77 [h 5 6,m 7,n (st 5 4 77),d 5 (m 78)]))
def FD:ay:=zd (O 33 [m 8,adi 33 1,d 8 (m 34)])
def FH:ay:=zd (s (O 71 [m 10,nt 71]) (c 72 (O 73 [m 7,h 2 9,E (.aV [.int .u64 0,.int .i64 0] 1 [(0,T 74)]),E (.app [.int .u64 0,.int .i64 0] 16 false (T 73) (T 75)),d 7 (m 76)])))
def wZ:ay:=zd (s (s (O 54 [m 11,m 7,ln 1 55,lt 54 56]) (cc 57 (w .skip) (ee 2))) (s (B 3 (U 60 [m 10,m 60,z 61 (m 7),z 61 (m 11),z 61 (ix 2 62 63),z 61 (f 0 64),z 61 (l 1 65),z 61 (f 0 9),z 61 (l 1 67),z 61 (eq 66 68),po 61 69,d 10 (m 70)] [] [11,10,9,8,7,6,4,2])) (O 58 [m 11,adi 58 1,d 11 (m 59)])))
def Na:ay:=.loop ⟨true,[11,10,9,8,7,6,4,2],[]⟩ wZ
def vW:ay:=zd (s (s (O 24 [m 8,f 3 2,l 1 25,ln 1 26,lt 24 27,m 28,y 29 (m 8),y 29 (lti 30 12),pa 29 31]) (cc 32 (w .skip) (ee 0))) (s (bk 1 (s (U 35 [f 3 2,l 1 35,m 8,ix 2 36 37,E (.kZ 2 1 (T 38) (N 0)),l 1 39,E (.bin .rem (T 40) (.c (.int .u8 12))),E (.cvt .u64 (T 41)),E (.bin .add (.c (.int .u64 1)) (T 42)),f 3 2,l 1 44,m 8,ix 2 45 46,E (.kZ 2 1 (T 47) (N 1)),l 1 48,E (.bin .rem (T 49) (.c (.int .u8 50))),E (.cvt .i64 (T 50)),E (.bin .add (N 1) (T 51)),E (.build [.int .u64 0,.int .i64 0] [(0,1,T 43),(1,1,T 52)]),d 9 (E (.alloc [.int .u64 0,.int .i64 0])),n (st 2 9 53)] [(1,19),(5,19),(10,19),(14,19)] [9,8,7,6,4,2]) (s (O 10 [ff]) (s (s (O 11 [i 0]) (bk 2 Na ⟨true,[10,9,8,7,6,4,2],[]⟩)) FH))) ⟨true,[8,7,6,4,2],[]⟩) FD))
def Eb:ay:=.loop ⟨true,[8,7,6,4,2],[]⟩ vW
def afR:WFn:=⟨2,[.cell 4 5 true,.tmp 5],zd (s (O 2 [bx 0,bx 1,E (.alloc [.ro 9 [] true,.int .i64 0,.int .i64 0,.int .i64 0,.int .i64 0]),E (.mv (.c (.ro 2 [] true)))]) (s (Q 12 [h 2 3,f 0 2,f 0 13,l 1 14,E (.bin .rem (T 15) (.c (.int .u8 200))),E (.cvt .i64 (T 16)),E (.bin .add (N 1) (T 17)),f 2 2,l 1 19,E (.bin .rem (T 20) (.c (.int .u8 4))),E (.cvt .i64 (T 21)),E (.build [.ro 9 [] true,.int .i64 0,.int .i64 0,.int .i64 0,.int .i64 0] [(0,2,T 12),(2,1,T 18),(3,1,T 22),(4,1,N 1)]),d 6 (E (.alloc [.ro 9 [] true,.int .i64 0,.int .i64 0,.int .i64 0,.int .i64 0])),n (st 5 6 23)] [6,4,2]) (s (R 7 [E (.mv (.c (.ro 2 [] true)))] ⟨true,[7,6,4,2],[(7,2)]⟩) (s (s (O 8 [i 0]) (bk 0 Eb ⟨true,[7,6,4],[]⟩)) uQ))))⟩
@[simp] theorem an8:ZL Na wZ ⟨true,[11,10,9,8,7,6,4,2],[]⟩:=bf rfl
noncomputable abbrev yS (C:aG) (s:WSt):Option AV:=CK C 0 (aN [.cell 4 5 true,.tmp 5]) [.sq Na,.bk 2 ⟨true,[10,9,8,7,6,4,2],[]⟩,.sq FH,.bk 1 ⟨true,[8,7,6,4,2],[]⟩,.sq FD,.sq Eb,.bk 0 ⟨true,[7,6,4],[]⟩,.sq uQ] wZ s
@[simp] theorem anA:ZL Eb vW ⟨true,[8,7,6,4,2],[]⟩:=bf rfl
noncomputable abbrev pW (C:aG) (s:WSt):Option AV:=CK C 0 (aN [.cell 4 5 true,.tmp 5]) [.sq Eb,.bk 0 ⟨true,[7,6,4],[]⟩,.sq uQ] vW s
def afV:WFn:=⟨2,[.tmp 4,.tmp 5],zd (s (O 2 [bx 0,bx 1,i 0,i 0]) (s (O 6 [f 0 2,l 1 6,E (.bin .rem (T 7) (.c (.int .u8 200))),E (.cvt .i64 (T 8)),E (.bin .add (N 1) (T 9)),d 5 (m 10)]) (r (V 11 [f 1 2,l 1 11,E (.cvt .i64 (T 12)),f 0 3,l 1 14,m 5,ca 327 [15,16],adi 17 1,E (.bin .rem (T 13) (T 18)),m 5,d 4 (m 19),d 5 (m 20)] [(1,6)] ⟨false,[],[]⟩))))⟩
def acV:WFn:=⟨2,[.cell 4 2 true,.tmp 5],zd (s (O 4 [d 2 (bx 0),E (.alloc [.int .u64 0,.int .i64 0]),i 0]) (s (O 10 [h 1 2,ca 246 [10],d 9 (m 11),ex 0 9,ex 1 9,d 6 (m 12),d 7 (m 13)]) (s (s (O 14 [m 7,nei 14 0]) (c 15 (r (Q 16 [E (.build [.int .u64 0,.int .i64 0] []),m 7,n (st 2 4 16),d 5 (m 17)] [5,4])))) (s (s (O 18 [m 1,lti 18 0,m 19,z 20 (m 1),z 20 (h 1 2),z 20 (ca 111 [22]),z 20 (sbi 23 1),z 20 (E (.mx (N 0) (T 24))),z 20 (gt 21 25),po 20 26]) (c 27 (r (O 28 [E (.build [.int .u64 0,.int .i64 0] []),n (st 2 4 28),d 5 (i 4)])))) (s (s (O 29 [f 0 2,l 1 29,ln 1 30,eqi 31 0]) (c 32 (r (O 33 [E (.build [.int .u64 0,.int .i64 0] []),n (st 2 4 33),d 5 (i 0)])))) (s (Q 35 [h 1 2,m 1,ca 120 [35,36],d 34 (m 37),ex 0 34,ex 1 34,d 8 (m 38),d 7 (m 39)] [8,7,6,4,2,1]) (r (V 40 [f 0 2,l 1 40,m 8,ix 6 41 42,f 0 43,f 0 44,l 1 45,m 1,m 6,m 8,ix 1 48 49,l 1 50,sb 47 51,E (.build [.int .u64 0,.int .i64 0] [(0,1,T 46),(1,1,T 52)]),m 7,n (st 2 4 53),d 5 (m 54)] [] ⟨false,[],[]⟩))))))))⟩
def Oo:ay:=zd (r (O 4 [i 1]))
def oZ:ay:=zd (s (s (O 11 [m 5,m 0,ln 1 12,lt 11 13]) (cc 14 (w .skip) (ee 0))) (s (B 1 (s (U 17 [m 0,m 5,ix 6 17 18,f 4 19,l 1 20,m 1,m 5,ix 6 22 23,f 4 24,l 1 25,ne 21 26,m 27,z 28 (m 0),z 28 (m 5),z 28 (ix 6 29 30),z 28 (f 5 31),z 28 (l 1 32),z 28 (m 1),z 28 (m 5),z 28 (ix 6 34 35),z 28 (f 5 36),z 28 (l 1 37),z 28 (E (.eqv 5 [] true (T 33) (T 38))),po 28 39,m 40,z 41 (m 0),z 41 (m 5),z 41 (ix 6 42 43),z 41 (f 0 44),z 41 (h 4 45),z 41 (m 1),z 41 (m 5),z 41 (ix 6 47 48),z 41 (f 0 49),z 41 (h 4 50),z 41 (ca 112 [46,51]),z 41 (eqi 52 0),po 41 53] [] [54,5,1,0]) (c 54 (r (O 4 [i 0]))))) (O 15 [m 5,adi 15 1,d 5 (m 16)])))
def MC:ay:=.loop ⟨true,[5,1,0],[]⟩ oZ
def aa6:WFn:=⟨2,[.tmp 4],zd (s (O 4 [i 0]) (s (s (O 6 [m 0,ln 1 6,m 1,ln 1 8,ne 7 9]) (c 10 (r (O 4 [i 0])))) (s (s (O 5 [i 0]) (bk 0 MC ⟨true,[],[]⟩)) Oo)))⟩
@[simp] theorem an6:ZL MC oZ ⟨true,[5,1,0],[]⟩:=bf rfl
noncomputable abbrev su (C:aG) (s:WSt):Option AV:=CK C 0 (aN [.tmp 4]) [.sq MC,.bk 0 ⟨true,[],[]⟩,.sq Oo] oZ s
def J7:ay:=zd (r (O 90 [m 17,m 12,m 16,ln 1 92,d 8 (m 90),d 9 (m 91),d 10 (m 93),d 11 (i 0)]))
def vI:ay:=zd (s (s (O 56 [m 19,m 16,ln 1 57,lt 56 58]) (cc 59 (w .skip) (ee 2))) (s (B 3 (s (V 62 [m 17,m 16,m 19,ix 1 63 64,l 1 65,h 5 4,m 17,m 16,m 19,ix 1 69 70,l 1 71,ix 6 68 72,f 0 73,h 4 74,m 3,ca 465 [67,75,76],ix 6 62 66,f 4 78,n (st 1 79 77)] [(4,15)] ⟨false,[],[]⟩) (s (Q 80 [m 17,m 16,m 19,ix 1 81 82,l 1 83,ix 6 80 84,f 5 85,n (E (.store 1 (T 86) (.c (.bool true))))] [19,17,16,12,4,3]) (s (O 87 [m 17,ca 407 [87],gti 88 0]) (c 89 (r (O 8 [E (.mv (.c (.ro 6 [] true))),i 0,i 0,i 13]))))))) (O 60 [m 19,adi 60 1,d 19 (m 61)])))
def LP:ay:=.loop ⟨true,[19,17,16,12,4,3],[]⟩ vI
def Np:ay:=zd (s (s (Q 19 [i 0] [19,17,16,12,4,3]) (bk 2 LP ⟨true,[17,16,12],[]⟩)) J7)
def AL:ay:=zd (s (s (O 43 [m 18,m 1,ln 1 44,lt 43 45]) (cc 46 (w .skip) (ee 0))) (s (B 1 (O 49 [m 17,m 1,m 18,ix 6 50 51,h 6 52,E (.aV [.int .u64 0,.int .u8 0,.str [],.ro 1 [] true,.int .i64 0,.bool false] 1 [(0,T 53)]),E (.app [.int .u64 0,.int .u8 0,.str [],.ro 1 [] true,.int .i64 0,.bool false] 72 false (T 49) (T 54)),d 17 (m 55)])) (O 47 [m 18,adi 47 1,d 18 (m 48)])))
def MG:ay:=.loop ⟨true,[18,17,16,12,4,3,1],[]⟩ AL
def aey:WFn:=⟨4,[.tmp 8,.tmp 9,.tmp 10,.tmp 11],zd (s (O 8 [d 4 (bx 0),d 6 (bx 2),E (.mv (.c (.ro 6 [] true))),i 0,i 0,i 0]) (s (O 21 [m 1,f 2 4,l 1 22,h 2 6,ca 319 [21,23,24],d 20 (m 25),ex 0 20,ex 1 20,d 12 (m 26),d 13 (m 27)]) (s (Q 29 [f 0 4,h 2 29,m 1,m 12,f 2 4,l 1 33,f 3 4,l 1 35,ca 133 [30,31,32,34,36],d 28 (m 37),ex 0 28,ex 1 28,d 14 (m 38),d 15 (m 39)] [14,12,4,3,1]) (s (O 40 [m 1,m 14,ca 137 [40,41],d 16 (m 42)]) (s (R 17 [E (.mv (.c (.ro 6 [] true)))] ⟨true,[17,16,12,4,3,1],[(17,6)]⟩) (s (s (O 18 [i 0]) (bk 0 MG ⟨true,[17,16,12,4,3],[]⟩)) Np))))))⟩
@[simp] theorem aoh:ZL LP vI ⟨true,[19,17,16,12,4,3],[]⟩:=bf rfl
noncomputable abbrev AB (C:aG) (s:WSt):Option AV:=CK C 0 (aN [.tmp 8,.tmp 9,.tmp 10,.tmp 11]) [.sq LP,.bk 2 ⟨true,[17,16,12],[]⟩,.sq J7] vI s
@[simp] theorem aor:ZL MG AL ⟨true,[18,17,16,12,4,3,1],[]⟩:=bf rfl
noncomputable abbrev FC (C:aG) (s:WSt):Option AV:=CK C 0 (aN [.tmp 8,.tmp 9,.tmp 10,.tmp 11]) [.sq MG,.bk 0 ⟨true,[17,16,12,4,3],[]⟩,.sq Np] AL s
def abw:WFn:=⟨5,[.tmp 10,.tmp 11],zd (s (R 10 [d 5 (bx 0),d 6 (bx 1),E (.mv (.c (.ro 1 [] true))),i 0] ⟨true,[6,5,4,3,2],[(5,65536),(6,65536)]⟩) (s (O 15 [h 2 5,h 1 6,m 2,m 3,m 4,ca 2004 [15,16,17,18,19],d 14 (m 20),ex 0 14,ex 1 14,d 12 (m 21),d 13 (m 22)]) (s (s (O 23 [m 13,nei 23 0]) (c 24 (r (O 10 [d 25 (m 13),E (.mv (.c (.ro 1 [] true))),m 25])))) (r (O 26 [m 12,E (.jK 276 [T 6]),ca 2006 [26,27],ca 274 [28],d 10 (m 29),d 11 (i 0)])))))⟩
def JX:WFn:=⟨5,[.tmp 10,.tmp 11],zd (s (R 10 [d 5 (bx 0),d 6 (bx 1),E (.mv (.c (.ro 1 [] true))),i 0] ⟨true,[6,5,4,3,2],[(5,65536),(6,65536)]⟩) (s (O 15 [h 2 5,h 1 6,m 2,m 3,m 4,ca 2004 [15,16,17,18,19],d 14 (m 20),ex 0 14,ex 1 14,d 12 (m 21),d 13 (m 22)]) (s (s (O 23 [m 13,nei 23 0]) (c 24 (r (O 10 [d 25 (m 13),E (.mv (.c (.ro 1 [] true))),m 25])))) (r (O 26 [m 12,E (.jK 276 [T 6]),ca 2006 [26,27],ca 4002 [28],d 10 (m 29),d 11 (i 0)])))))⟩
def UA:WFn:=⟨3,[.tmp 6],zd (s (O 5 [d 3 (bx 0),bx 2,ff]) (s (s (O 9 [h 1 3,ca 122 [9],nei 10 0]) (c 11 (r (O 6 [ff])))) (s (s (O 12 [f 0 5,l 1 12,E (.bin .eql (T 13) (.c (.int .u64 0)))]) (c 14 (r (O 6 [tt])))) (s (Q 16 [h 1 3,f 0 5,l 1 17,ca 323 [16,18],d 15 (m 19),ex 0 15,ex 1 15,d 7 (m 20),d 8 (m 21)] [8,7,5,1]) (r (O 22 [m 8,m 22,y 23 (m 1),y 23 (m 7),y 23 (ge 24 25),pa 23 26,m 27,y 28 (m 1),y 28 (m 7),y 28 (sb 29 30),y 28 (f 1 5),y 28 (l 1 32),y 28 (eq 31 33),pa 28 34,d 6 (m 35)]))))))⟩
def ac0:WFn:=⟨2,[.tmp 4],zd (s (O 4 [i 0]) (s (s (O 5 [m 0,m 0,ln 1 6,ca 253 [5,7],m 1,lt 8 9]) (c 10 (r (O 4 [i 0])))) (r (O 11 [m 0,m 0,ln 1 12,ca 253 [11,13],m 1,sb 14 15,d 4 (m 16)]))))⟩
def Xj:ay:=zd (r (V 27 [h 5 4,h 1 5,n (st 5 2 27),n (st 1 3 28)] [(1,2)] ⟨false,[],[]⟩))
def LX:ay:=zd (s (s (O 13 [m 6,lti 13 4]) (cc 14 (w .skip) (ee 0))) (s (B 1 (O 17 [f 0 5,l 1 17,m 6,adi 19 1,E (.cvt .u64 (T 20)),E (.build [.int .u64 0,.int .u8 0,.str [],.ro 1 [] true] [(0,1,T 21)]),E (.build [.int .u64 0,.int .u8 0,.str [],.ro 1 [] true,.int .i64 0,.bool false] [(0,4,T 22),(4,1,N 10)]),E (.aV [.int .u64 0,.int .u8 0,.str [],.ro 1 [] true,.int .i64 0,.bool false] 1 [(0,T 23)]),E (.app [.int .u64 0,.int .u8 0,.str [],.ro 1 [] true,.int .i64 0,.bool false] 72 false (T 18) (T 24)),f 0 5,n (st 1 26 25)])) (O 15 [m 6,adi 15 1,d 6 (m 16)])))
def Wv:ay:=.loop ⟨true,[6,5,4,3,2],[]⟩ LX
def ahv:WFn:=⟨1,[.cell 2 5 true,.cell 3 1 true],zd (s (O 2 [E (.alloc [.ro 9 [] true,.int .i64 0,.int .i64 0,.int .i64 0,.int .i64 0]),E (.alloc [.ro 6 [] true])]) (s (Q 7 [E (.build [.int .u8 0,.str [],.str [],.ro 3 [] true,.str [],.ro 6 [] true] [(0,1,.c (.int .u8 1)),(1,1,.c (.str [114,111,119]))]),E (.build [.int .u8 0,.str [],.str [],.ro 3 [] true,.str [],.ro 6 [] true,.int .i64 0,.bool false,.int .i64 0] [(0,6,T 7),(6,1,N 10)]),E (.aV [.int .u8 0,.str [],.str [],.ro 3 [] true,.str [],.ro 6 [] true,.int .i64 0,.bool false,.int .i64 0] 1 [(0,T 8)]),E (.build [.ro 9 [] true,.int .i64 0] [(0,1,T 9),(1,1,N 1)]),m 0,E (.build [.ro 9 [] true,.int .i64 0,.int .i64 0,.int .i64 0,.int .i64 0] [(0,2,T 10),(2,1,T 11),(4,1,N 1)]),d 4 (E (.alloc [.ro 9 [] true,.int .i64 0,.int .i64 0,.int .i64 0,.int .i64 0])),n (st 5 4 12)] [4,3,2]) (s (O 5 [E (.alloc [.ro 6 [] true])]) (s (s (O 6 [i 0]) (bk 0 Wv ⟨true,[5,4,3,2],[]⟩)) Xj))))⟩
@[simp] theorem aov:ZL Wv LX ⟨true,[6,5,4,3,2],[]⟩:=bf rfl
def KR:ay:=zd (r (O 25 [m 3,d 2 (m 25)]))
def xB:ay:=zd (s (O 11 [lt 10 9]) (s (cc 11 (w .skip) (ee 0)) (s (B 1 (s (O 12 [ix 6 8 10,h 6 12,d 5 (E (.alloc [.int .u64 0,.int .u8 0,.str [],.ro 1 [] true,.int .i64 0,.bool false])),n (st 6 5 13)]) (s (O 14 [f 4 5,l 1 14,E (.mx (T 15) (N 0)),d 6 (m 16)]) (s (s (O 17 [m 6,m 3,E (.bin .sub (N 4611686018427387904) (T 18)),gt 17 19]) (c 20 (r (O 2 [i 4611686018427387905])))) (O 21 [m 3,m 6,ad 21 22,d 3 (m 23)]))))) (O 24 [adi 10 1,d 10 (m 24)]))))
def KP:ay:=.loop ⟨true,[10,9,8,3],[]⟩ xB
def af5:WFn:=⟨1,[.tmp 2],zd (s (O 1 [bx 0,i 0]) (s (O 3 [i 0]) (s (s (Q 7 [f 0 1,l 1 7,ln 1 8,i 0] [10,9,8,3]) (bk 0 KP ⟨true,[3],[]⟩)) KR)))⟩
@[simp] theorem anQ:ZL KP xB ⟨true,[10,9,8,3],[]⟩:=bf rfl
noncomputable abbrev Ai (C:aG) (s:WSt):Option AV:=CK C 0 (aN [.tmp 2]) [.sq KP,.bk 0 ⟨true,[3],[]⟩,.sq KR] xB s
def QC:WFn:=⟨1,[.tmp 2],zd (s (O 1 [bx 0,i 0]) (s (s (Q 3 [f 0 1,l 1 3,E (.bin .eql (T 4) (.c (.int .u64 0))),m 5,y 6 (f 1 1),y 6 (l 1 7),y 6 (eqi 8 0),pa 6 9,m 10,z 11 (f 0 1),z 11 (l 1 12),z 11 (E (.bin .gtr (T 13) (.c (.int .u64 0)))),z 11 (m 14),y 15 (f 1 1),y 15 (l 1 16),y 15 (gei 17 0),z 11 (pa 15 18),z 11 (m 19),y 20 (f 1 1),y 20 (l 1 21),y 20 (lei 22 2305843009213693952),z 11 (pa 20 23),po 11 24] [25]) (c 25 (r (O 2 [i 0])))) (r (O 2 [i 1]))))⟩
def Lh:ay:=zd (r (O 4 [i 0]))
def vN:ay:=zd (s (s (O 6 [m 5,m 0,ln 1 7,lt 6 8]) (cc 9 (w .skip) (ee 0))) (s (B 1 (s (O 12 [m 0,m 5,ix 1 12 13,l 1 14,m 1,eq 15 16]) (c 17 (r (O 4 [i 1]))))) (O 10 [m 5,adi 10 1,d 5 (m 11)])))
def NP:ay:=.loop ⟨true,[5,1,0],[]⟩ vN
def agd:WFn:=⟨2,[.tmp 4],zd (s (O 4 [i 0]) (s (s (O 5 [i 0]) (bk 0 NP ⟨true,[],[]⟩)) Lh))⟩
@[simp] theorem aox:ZL NP vN ⟨true,[5,1,0],[]⟩:=bf rfl
noncomputable abbrev Bj (C:aG) (s:WSt):Option AV:=CK C 0 (aN [.tmp 4]) [.sq NP,.bk 0 ⟨true,[],[]⟩,.sq Lh] vN s
def afs:ay:=zd (r (O 12 [i 1]))
def Xx:ay:=zd (s (s (O 51 [m 17,lti 51 4]) (cc 52 (w .skip) (ee 0))) (s (B 1 (s (U 55 [f 0 15,f 0 55,l 1 56,m 17,ix 6 57 58,f 4 59,l 1 60,m 17,E (.kZ 4 1 (T 8) (T 62)),l 1 63,ne 61 64,m 65,z 66 (f 0 15),z 66 (f 0 67),z 66 (l 1 68),z 66 (m 17),z 66 (ix 6 69 70),z 66 (f 5 71),z 66 (l 1 72),z 66 (m 17),z 66 (E (.kZ 4 1 (T 9) (T 74))),z 66 (l 1 75),z 66 (eqi 76 1),z 66 (E (.eqv 5 [] true (T 73) (T 77))),po 66 78] [] [79,17,15,9,8]) (c 79 (r (O 12 [i 0]))))) (O 53 [m 17,adi 53 1,d 17 (m 54)])))
def V8:ay:=.loop ⟨true,[17,15,9,8],[]⟩ Xx
def al5:WFn:=⟨6,[.tmp 12],zd (s (O 8 [d 6 (bx 0),bx 2,bx 3,d 12 (i 0)]) (s (O 19 [E (.call 173 [N 20]),d 18 (m 19),ex 0 18,ex 1 18,d 13 (E (.alloc [.ro 9 [] true,.int .i64 0,.int .i64 0,.int .i64 0,.int .i64 0])),d 14 (E (.alloc [.ro 6 [] true])),n (st 5 13 20),n (st 1 14 21)]) (s (O 23 [h 5 13,h 1 14,h 2 6,m 1,ca 174 [23,24,25,26],d 22 (m 27),ex 0 22,ex 1 22,d 15 (E (.alloc [.ro 6 [] true,.int .i64 0,.int .i64 0])),n (st 3 15 28),d 16 (m 29)]) (s (s (Q 30 [m 16,nei 30 0,m 31,z 32 (f 0 15),z 32 (f 0 33),z 32 (l 1 34),z 32 (ln 1 35),z 32 (nei 36 4),po 32 37,m 38,z 39 (f 1 15),z 39 (l 1 40),z 39 (m 4),z 39 (ne 41 42),po 39 43,m 44,z 45 (f 2 15),z 45 (l 1 46),z 45 (m 5),z 45 (ne 47 48),po 45 49] [50,15,9,8]) (c 50 (r (O 12 [i 0])))) (s (s (O 17 [i 0]) (bk 0 V8 ⟨true,[],[]⟩)) afs)))))⟩
@[simp] theorem ao7:ZL V8 Xx ⟨true,[17,15,9,8],[]⟩:=bf rfl
def aeK:WFn:=⟨1,[.tmp 2],zd (s (O 2 [E (.mv (.c (.ro 9 [] true)))]) (s (Q 6 [E (.build [.str [],.int .u8 0,.str []] [(0,1,.c (.str [110])),(1,1,.c (.int .u8 3))]),E (.build [.str [],.int .u8 0,.str []] [(0,1,.c (.str [116,101,120,116])),(1,1,.c (.int .u8 1))]),E (.aV [.str [],.int .u8 0,.str []] 2 [(0,T 6),(1,T 7)]),E (.build [.int .u8 0,.str [],.str [],.ro 3 [] true,.str [],.ro 6 [] true] [(0,1,.c (.int .u8 3))]),E (.aV [.int .u8 0,.str [],.str [],.ro 3 [] true,.str [],.ro 6 [] true] 1 [(0,T 9)]),E (.build [.int .u8 0,.str [],.str [],.ro 3 [] true,.str [],.ro 6 [] true] [(0,1,.c (.int .u8 1)),(1,1,.c (.str [114,111,119])),(3,1,T 8),(5,1,T 10)]),d 3 (E (.alloc [.int .u8 0,.str [],.str [],.ro 3 [] true,.str [],.ro 6 [] true])),n (st 6 3 11)] [3,0]) (s (O 12 [E (.build [.str [],.int .u8 0,.str []] [(0,1,.c (.str [105,100])),(1,1,.c (.int .u8 2))]),E (.aV [.str [],.int .u8 0,.str []] 1 [(0,T 12)]),E (.build [.int .u8 0,.str [],.str [],.ro 3 [] true,.str [],.ro 6 [] true] [(0,1,.c (.int .u8 2)),(4,1,.c (.str [35]))]),E (.build [.int .u8 0,.str [],.str [],.ro 3 [] true,.str [],.ro 6 [] true] [(0,1,.c (.int .u8 4))]),E (.aV [.int .u8 0,.str [],.str [],.ro 3 [] true,.str [],.ro 6 [] true] 2 [(0,T 14),(1,T 15)]),E (.build [.int .u8 0,.str [],.str [],.ro 3 [] true,.str [],.ro 6 [] true] [(0,1,.c (.int .u8 1)),(1,1,.c (.str [104,101,97,100])),(2,1,.c (.str [104])),(3,1,T 13),(5,1,T 16)]),d 4 (E (.alloc [.int .u8 0,.str [],.str [],.ro 3 [] true,.str [],.ro 6 [] true])),n (st 6 4 17)]) (s (O 18 [E (.build [.int .u8 0,.str [],.str [],.ro 3 [] true,.str [],.ro 6 [] true] [(0,1,.c (.int .u8 3))]),E (.aV [.int .u8 0,.str [],.str [],.ro 3 [] true,.str [],.ro 6 [] true] 1 [(0,T 18)]),E (.build [.int .u8 0,.str [],.str [],.ro 3 [] true,.str [],.ro 6 [] true] [(0,1,.c (.int .u8 1)),(1,1,.c (.str [98])),(2,1,.c (.str [98,50])),(5,1,T 19)]),E (.build [.str [],.int .u8 0,.str []] [(0,1,.c (.str [111,102])),(1,1,.c (.int .u8 2))]),E (.aV [.str [],.int .u8 0,.str []] 1 [(0,T 21)]),E (.build [.int .u8 0,.str [],.str [],.ro 3 [] true,.str [],.ro 6 [] true] [(0,1,.c (.int .u8 5)),(1,1,.c (.str [116,97,103])),(3,1,T 22)]),E (.aV [.int .u8 0,.str [],.str [],.ro 3 [] true,.str [],.ro 6 [] true] 2 [(0,T 20),(1,T 23)]),E (.build [.int .u8 0,.str [],.str [],.ro 3 [] true,.str [],.ro 6 [] true] [(0,1,.c (.int .u8 1)),(1,1,.c (.str [114,111,119])),(5,1,T 24)]),d 5 (E (.alloc [.int .u8 0,.str [],.str [],.ro 3 [] true,.str [],.ro 6 [] true])),n (st 6 5 25)]) (r (Q 26 [h 6 3,m 0,E (.bin .rem (T 27) (.c (.int .u8 7))),E (.cvt .i64 (T 28)),E (.bin .add (N 10) (T 29)),m 0,E (.bin .rem (T 31) (.c (.int .u8 4))),E (.cvt .i64 (T 32)),E (.build [.int .u8 0,.str [],.str [],.ro 3 [] true,.str [],.ro 6 [] true,.int .i64 0,.bool false,.int .i64 0] [(0,6,T 26),(6,1,T 30),(8,1,T 33)]),h 6 4,m 0,E (.bin .rem (T 36) (.c (.int .u8 3))),E (.cvt .i64 (T 37)),E (.bin .add (N 6) (T 38)),m 0,E (.bin .quo (T 40) (.c (.int .u8 4))),E (.bin .rem (T 41) (.c (.int .u8 3))),E (.cvt .i64 (T 42)),E (.build [.int .u8 0,.str [],.str [],.ro 3 [] true,.str [],.ro 6 [] true,.int .i64 0,.bool false,.int .i64 0] [(0,6,T 35),(6,1,T 39),(7,1,.c (.bool true)),(8,1,T 43)]),h 6 5,m 0,E (.bin .rem (T 46) (.c (.int .u8 16))),E (.bin .eql (T 47) (.c (.int .u8 15))),m 0,E (.bin .quo (T 49) (.c (.int .u8 8))),E (.bin .rem (T 50) (.c (.int .u8 3))),E (.cvt .i64 (T 51)),E (.build [.int .u8 0,.str [],.str [],.ro 3 [] true,.str [],.ro 6 [] true,.int .i64 0,.bool false,.int .i64 0] [(0,6,T 45),(6,1,N 20),(7,1,T 48),(8,1,T 52)]),E (.aV [.int .u8 0,.str [],.str [],.ro 3 [] true,.str [],.ro 6 [] true,.int .i64 0,.bool false,.int .i64 0] 3 [(0,T 34),(1,T 44),(2,T 53)]),d 2 (m 54)] [2]))))))⟩
def Ei:ay:=zd (r (O 32 [m 3,d 2 (m 32)]))
def vF:ay:=zd (s (s (Q 6 [m 4,f 0 1,l 1 7,ln 1 8,lt 6 9,m 10,y 11 (m 4),y 11 (lti 12 12),pa 11 13] [14,4,3,1]) (cc 14 (w .skip) (ee 0))) (s (B 1 (s (O 17 [f 0 1,l 1 17,m 4,ix 4 18 19,h 4 20,ca 422 [21],d 5 (E (.alloc [.int .u64 0,.int .u8 0,.str [],.ro 1 [] true])),n (st 4 5 22)]) (s (O 23 [m 3,f 0 5,l 1 24,ca 423 [23,25],lti 26 0]) (c 27 (O 28 [m 3,h 4 5,E (.aV [.int .u64 0,.int .u8 0,.str [],.ro 1 [] true] 1 [(0,T 29)]),E (.app [.int .u64 0,.int .u8 0,.str [],.ro 1 [] true] 56 false (T 28) (T 30)),d 3 (m 31)]))))) (O 15 [m 4,adi 15 1,d 4 (m 16)])))
def O7:ay:=.loop ⟨true,[4,3,1],[]⟩ vF
def ad7:WFn:=⟨1,[.tmp 2],zd (s (O 1 [bx 0,E (.mv (.c (.ro 4 [] true)))]) (s (R 3 [E (.mv (.c (.ro 4 [] true)))] ⟨true,[3,1],[(3,4)]⟩) (s (s (O 4 [i 0]) (bk 0 O7 ⟨true,[3],[]⟩)) Ei)))⟩
@[simp] theorem aoD:ZL O7 vF ⟨true,[4,3,1],[]⟩:=bf rfl
noncomputable abbrev zU (C:aG) (s:WSt):Option AV:=CK C 0 (aN [.tmp 2]) [.sq O7,.bk 0 ⟨true,[3],[]⟩,.sq Ei] vF s
def UF:WFn:=⟨3,[.tmp 6],zd (s (O 3 [bx 0,bx 1,d 6 (i 0)]) (s (s (O 9 [h 4 4,f 0 3,l 1 10,ln 1 11,ca 424 [9,12],gti 13 0]) (c 14 (r (O 6 [i 6])))) (s (s (Q 15 [m 2,eqi 15 1] [16,4,3]) (c 16 (r (O 6 [i 8])))) (s (V 18 [f 0 3,l 1 18,f 1 4,l 1 20,ix 9 19 21,f 0 22,h 6 23,h 4 4,f 1 3,l 1 26,ca 425 [24,25,27],d 17 (m 28),ex 0 17,ex 1 17,d 7 (E (.alloc [.int .u8 0,.str [],.str [],.ro 2 [] true,.str [],.ro 6 [] true])),n (st 6 7 29),d 8 (m 30)] [(1,14),(3,14),(6,14),(7,14),(9,14),(10,14)] ⟨false,[],[]⟩) (s (s (O 31 [m 8,gti 31 0]) (c 32 (r (O 6 [i 14])))) (r (O 6 [i 0])))))))⟩
def af2:WFn:=⟨2,[.cell 4 6 true],zd (s (O 2 [bx 0,bx 1,E (.alloc [.int .u64 0,.int .u8 0,.str [],.ro 1 [] true,.int .i64 0,.bool false])]) (r (V 5 [h 4 3,f 0 2,l 1 6,f 1 3,l 1 8,ix 9 7 9,f 6 10,l 1 11,E (.build [.int .u64 0,.int .u8 0,.str [],.ro 1 [] true,.int .i64 0,.bool false] [(0,4,T 5),(4,1,T 12)]),n (st 6 4 13)] [] ⟨false,[],[]⟩)))⟩
def Ku:ay:=zd (r (O 82 [m 1,ca 407 [82],d 4 (m 83)]))
def lY:ay:=zd (s (s (O 13 [m 5,m 1,ln 1 14,lt 13 15]) (cc 16 (w .skip) (ee 0))) (s (B 1 (s (U 19 [h 2 2,m 1,m 5,ix 6 20 21,f 0 22,h 4 23,m 1,m 5,E (.slice 6 (T 25) none (some (T 26)) none),m 1,m 5,ix 6 28 29,f 0 30,f 0 31,l 1 32,ca 239 [27,33],gei 34 0,ca 406 [35],ca 271 [19,24,36],d 6 (m 37)] [(0,15),(5,15),(0,17),(5,17)] [6,5,2,1]) (s (s (O 38 [m 6,gti 38 0]) (c 39 (r (O 40 [m 6,d 4 (m 40)])))) (s (U 41 [m 1,m 5,ix 6 41 42,f 4 43,l 1 44,lti 45 1,m 46,z 47 (m 1),z 47 (m 5),z 47 (ix 6 48 49),z 47 (f 4 50),z 47 (l 1 51),z 47 (gti 52 2305843009213693952),po 47 53,m 54,z 55 (m 1),z 55 (m 5),z 55 (ix 6 56 57),z 55 (f 5 58),z 55 (l 1 59),z 55 (nt 60),z 55 (m 61),y 62 (m 1),y 62 (m 5),y 62 (ix 6 63 64),y 62 (f 4 65),y 62 (l 1 66),y 62 (f 0 2),y 62 (l 1 68),y 62 (m 1),y 62 (m 5),y 62 (ix 6 70 71),y 62 (f 0 72),y 62 (f 1 73),y 62 (l 1 74),y 62 (ix 9 69 75),y 62 (f 6 76),y 62 (l 1 77),y 62 (ne 67 78),z 55 (pa 62 79),po 55 80] [] [81,5,2,1]) (c 81 (r (O 4 [i 12]))))))) (O 17 [m 5,adi 17 1,d 5 (m 18)])))
def L9:ay:=.loop ⟨true,[5,2,1],[]⟩ lY
def Ym:WFn:=⟨2,[.tmp 4],zd (s (O 4 [d 2 (bx 0),i 0]) (s (s (O 7 [h 2 2,ca 236 [7],gti 8 0]) (c 9 (r (O 4 [i 7])))) (s (s (O 10 [m 1,ln 1 10,gti 11 1024]) (c 12 (r (O 4 [i 3])))) (s (s (O 5 [i 0]) (bk 0 L9 ⟨true,[1],[]⟩)) Ku))))⟩
@[simp] theorem ant:ZL L9 lY ⟨true,[5,2,1],[]⟩:=bf rfl
noncomputable abbrev nV (C:aG) (s:WSt):Option AV:=CK C 0 (aN [.tmp 4]) [.sq L9,.bk 0 ⟨true,[1],[]⟩,.sq Ku] lY s
def Nu:ay:=zd (r (O 4 [i (-1)]))
def vH:ay:=zd (s (s (O 6 [m 5,m 0,ln 1 7,lt 6 8]) (cc 9 (w .skip) (ee 0))) (s (B 1 (s (O 12 [m 0,m 5,ix 6 12 13,f 0 14,f 0 15,l 1 16,m 1,eq 17 18]) (c 19 (r (O 20 [m 5,d 4 (m 20)]))))) (O 10 [m 5,adi 10 1,d 5 (m 11)])))
def Oe:ay:=.loop ⟨true,[5,1,0],[]⟩ vH
def afq:WFn:=⟨2,[.tmp 4],zd (s (O 4 [i 0]) (s (s (O 5 [i 0]) (bk 0 Oe ⟨true,[],[]⟩)) Nu))⟩
@[simp] theorem anx:ZL Oe vH ⟨true,[5,1,0],[]⟩:=bf rfl
noncomputable abbrev zB (C:aG) (s:WSt):Option AV:=CK C 0 (aN [.tmp 4]) [.sq Oe,.bk 0 ⟨true,[],[]⟩,.sq Nu] vH s
def Ny:WFn:=⟨1,[.tmp 2],zd (s (O 1 [bx 0,i 0]) (s (O 3 [E (.mv (.c (.fn 230 [])))]) (s (s (Q 4 [f 0 1,l 1 4,ln 1 5,lti 6 1,m 7,z 8 (f 0 1),z 8 (l 1 9),z 8 (ln 1 10),z 8 (gti 11 8),po 8 12,m 13,z 14 (f 1 1),z 14 (l 1 15),z 14 (lti 16 1),po 14 17,m 18,z 19 (f 1 1),z 19 (l 1 20),z 19 (gti 21 64),po 19 22,m 23,z 24 (f 0 1),z 24 (l 1 25),z 24 (m 3),z 24 (ca 232 [26,27]),po 24 28] [29]) (c 29 (r (O 2 [i 7])))) (r (O 2 [i 0])))))⟩
def NC:ay:=zd (r (O 2 [i 0]))
def A8:ay:=zd (s (s (O 24 [m 3,f 0 1,l 1 25,ln 1 26,lt 24 27]) (cc 28 (w .skip) (ee 0))) (s (B 1 (s (Q 31 [f 0 1,l 1 31,m 3,ix 9 32 33,f 6 34,l 1 35,lti 36 1,m 37,z 38 (f 0 1),z 38 (l 1 39),z 38 (m 3),z 38 (ix 9 40 41),z 38 (f 6 42),z 38 (l 1 43),z 38 (gti 44 2305843009213693952),po 38 45,m 46,z 47 (f 0 1),z 47 (l 1 48),z 47 (m 3),z 47 (ix 9 49 50),z 47 (f 0 51),z 47 (h 6 52),z 47 (ca 408 [53]),z 47 (gti 54 0),po 47 55] [56,3,1]) (c 56 (r (O 2 [i 7]))))) (O 29 [m 3,adi 29 1,d 3 (m 30)])))
def Oy:ay:=.loop ⟨true,[3,1],[]⟩ A8
def Qc:WFn:=⟨1,[.tmp 2],zd (s (O 1 [bx 0,i 0]) (s (s (Q 4 [f 0 1,l 1 4,ln 1 5,eqi 6 0,m 7,z 8 (f 0 1),z 8 (l 1 9),z 8 (ln 1 10),z 8 (gti 11 8),po 8 12,m 13,z 14 (f 1 1),z 14 (l 1 15),z 14 (lti 16 1),po 14 17,m 18,z 19 (f 1 1),z 19 (l 1 20),z 19 (gti 21 64),po 19 22] [23,1]) (c 23 (r (O 2 [i 7])))) (s (s (O 3 [i 0]) (bk 0 Oy ⟨true,[],[]⟩)) NC)))⟩
@[simp] theorem apd:ZL Oy A8 ⟨true,[3,1],[]⟩:=bf rfl
noncomputable abbrev Ep (C:aG) (s:WSt):Option AV:=CK C 0 (aN [.tmp 2]) [.sq Oy,.bk 0 ⟨true,[],[]⟩,.sq NC] A8 s
def Oj:ay:=zd (r (O 79 [h 1 3,ca 227 [79],d 4 (m 80)]))
def kD:ay:=zd (s (O 26 [lt 25 24]) (s (cc 26 (w .skip) (ee 0)) (s (B 1 (s (O 27 [ix 6 23 25,h 6 27,d 8 (E (.alloc [.int .u64 0,.int .u8 0,.str [],.ro 1 [] true,.int .i64 0,.bool false])),n (st 6 8 28)]) (s (s (O 29 [f 0 8,h 4 29,f 0 2,l 1 31,ln 1 32,ca 398 [30,33],d 9 (m 34)]) (s (O 35 [m 9,nei 35 0]) (c 36 (r (O 37 [m 9,d 4 (m 37)]))))) (s (s (Q 38 [m 6,f 0 8,f 0 39,l 1 40,E (.look 0 (.bool false) false (T 38) (T 41))] [42,25,24,23,8,6,3,2]) (c 42 (r (O 4 [i 8])))) (s (O 43 [m 6,f 0 8,f 0 44,l 1 45,n (E (.upd 0 (T 43) (T 46) (.c (.bool true))))]) (s (s (O 48 [h 2 2,f 0 8,h 4 49,ca 399 [48,50],d 47 (m 51),ex 0 47,ex 1 47,d 10 (E (.alloc [.int .u8 0,.str [],.str [],.ro 2 [] true,.str [],.ro 6 [] true])),n (st 6 10 52),d 11 (m 53)]) (s (O 54 [m 11,nei 54 0]) (c 55 (r (O 4 [i 14]))))) (s (U 56 [f 4 8,l 1 56,ca 225 [57],nt 58,m 59,z 60 (f 5 8),z 60 (l 1 61),z 60 (nt 62),z 60 (m 63),y 64 (f 4 8),y 64 (l 1 65),y 64 (f 0 2),y 64 (l 1 67),y 64 (f 0 8),y 64 (f 1 69),y 64 (l 1 70),y 64 (ix 9 68 71),y 64 (f 6 72),y 64 (l 1 73),y 64 (ne 66 74),z 60 (pa 64 75),po 60 76] [] [77,25,24,23,6,3,2]) (c 77 (r (O 4 [i 12])))))))))) (O 78 [adi 25 1,d 25 (m 78)]))))
def Nj:ay:=.loop ⟨true,[25,24,23,6,3,2],[]⟩ kD
def Yb:WFn:=⟨2,[.tmp 4],zd (s (O 2 [bx 0,bx 1,i 0]) (s (s (O 12 [h 2 2,ca 115 [12],d 5 (m 13)]) (s (O 14 [m 5,nei 14 0]) (c 15 (r (O 16 [m 5,d 4 (m 16)]))))) (s (s (Q 17 [f 0 3,l 1 17,ln 1 18,gti 19 1024] [20,3,2]) (c 20 (r (O 4 [i 3])))) (s (O 21 [E .mV,d 6 (m 21)]) (s (s (O 22 [f 0 3,l 1 22,ln 1 23,i 0]) (bk 0 Nj ⟨true,[3],[]⟩)) Oj)))))⟩
@[simp] theorem an9:ZL Nj kD ⟨true,[25,24,23,6,3,2],[]⟩:=bf rfl
noncomputable abbrev lX (C:aG) (s:WSt):Option AV:=CK C 0 (aN [.tmp 4]) [.sq Nj,.bk 0 ⟨true,[3],[]⟩,.sq Oj] kD s
def EH:ay:=zd (r (O 4 [i 0,i 0]))
def mJ:ay:=zd (s (O 25 [lt 24 23]) (s (cc 25 (w .skip) (ee 1)) (s (B 2 (s (O 26 [m 24,ix 2 22 24,h 2 27,d 8 (E (.alloc [.int .u64 0,.int .i64 0])),d 7 (m 26),n (st 2 8 28)]) (s (O 29 [h 2 8,m 1,m 6,ca 379 [29,30,31],d 9 (m 32)]) (s (O 33 [m 9,nei 33 0]) (c 34 (r (O 35 [m 7,m 9,d 4 (m 35),d 5 (m 36)]))))))) (O 37 [adi 24 1,d 24 (m 37)]))))
def KF:ay:=.loop ⟨true,[24,23,22,6,1],[]⟩ mJ
def Tc:WFn:=⟨2,[.tmp 4,.tmp 5],zd (s (O 4 [i 0,i 0]) (s (B 0 (s (O 11 [m 1,lti 11 1,m 12,z 13 (m 1),z 13 (gti 14 2305843009213693952),po 13 15,d 10 (m 16)]) (cc 10 (r (O 4 [i 0,i 1])) (s (O 18 [m 0,ln 1 18,gti 19 256,d 17 (m 20)]) (c 17 (r (O 4 [i 0,i 3]))))))) (s (O 21 [ca 2016 [],d 6 (m 21)]) (s (s (Q 22 [m 0,ln 1 22,i 0] [24,23,22,6,1]) (bk 1 KF ⟨true,[],[]⟩)) EH))))⟩
@[simp] theorem anT:ZL KF mJ ⟨true,[24,23,22,6,1],[]⟩:=bf rfl
noncomputable abbrev mg (C:aG) (s:WSt):Option AV:=CK C 0 (aN [.tmp 4,.tmp 5]) [.sq KF,.bk 1 ⟨true,[],[]⟩,.sq EH] mJ s
def QZ:WFn:=⟨1,[.tmp 2],zd (s (O 1 [bx 0,i 0]) (s (s (O 3 [f 1 1,l 1 3,lti 4 0,m 5,z 6 (f 1 1),z 6 (l 1 7),z 6 (gti 8 2305843009213693952),po 6 9,m 10,z 11 (f 0 1),z 11 (l 1 12),z 11 (E (.bin .eql (T 13) (.c (.int .u64 0)))),z 11 (m 14),y 15 (f 1 1),y 15 (l 1 16),y 15 (gti 17 0),z 11 (pa 15 18),po 11 19]) (c 20 (r (O 2 [i 1])))) (r (O 2 [i 0]))))⟩
def agK:WFn:=⟨2,[.tmp 4,.tmp 5],zd (s (O 2 [bx 0,bx 1,i 0,ff]) (s (O 6 [f 0 2,l 1 6,E (.jK 403 [T 3]),ca 402 [7,8],d 4 (m 9)]) (r (O 10 [m 4,E (.mx (T 10) (N 0)),m 4,gei 12 0,d 4 (m 11),d 5 (m 13)]))))⟩
def NQ:ay:=zd (r (O 4 [i (-1)]))
def wC:ay:=zd (s (O 9 [lt 8 7]) (s (cc 9 (w .skip) (ee 0)) (s (B 1 (s (O 10 [m 8,d 5 (m 10)]) (s (O 11 [m 1,m 0,m 5,ix 2 12 13,h 2 14,E (.dU (T 11) [T 15])]) (c 16 (r (O 17 [m 5,d 4 (m 17)])))))) (O 18 [adi 8 1,d 8 (m 18)]))))
def KQ:ay:=.loop ⟨true,[8,7,1,0],[]⟩ wC
def ad9:WFn:=⟨2,[.tmp 4],zd (s (O 4 [i 0]) (s (s (O 6 [m 0,ln 1 6,i 0]) (bk 0 KQ ⟨true,[],[]⟩)) NQ))⟩
@[simp] theorem anJ:ZL KQ wC ⟨true,[8,7,1,0],[]⟩:=bf rfl
noncomputable abbrev zu (C:aG) (s:WSt):Option AV:=CK C 0 (aN [.tmp 4]) [.sq KQ,.bk 0 ⟨true,[],[]⟩,.sq NQ] wC s
def acZ:WFn:=⟨2,[.tmp 3],zd (s (O 2 [bx 0,ff]) (r (O 4 [f 0 2,l 1 4,f 0 1,l 1 6,eq 5 7,d 3 (m 8)])))⟩
def Qu:WFn:=⟨2,[.cell 4 1 true],zd (s (O 2 [bx 0,bx 1,E (.alloc [.ro 6 [] true])]) (s (O 8 [f 0 2,h 2 8,h 1 3,E (.call 3002 [T 9,T 10,N 0,N 0]),d 7 (m 11),ex 0 7,ex 1 7,d 5 (E (.alloc [.ro 6 [] true])),n (st 1 5 12),d 6 (m 13)]) (r (O 14 [h 1 5,n (st 1 4 14)]))))⟩
def kV:ay:=zd (r (O 68 [m 8,m 11,ln 1 69,d 8 (m 68),d 9 (m 70),d 10 (i 0)]))
def fU:ay:=zd (s (O 44 [lt 43 42]) (s (cc 44 (w .skip) (ee 0)) (s (B 1 (s (O 45 [ix 1 41 43,l 1 45,d 13 (m 46)]) (s (O 47 [f 0 5,l 1 47,m 13,ix 6 48 49,d 14 (m 50)]) (s (U 51 [m 14,m 14,h 5 4,m 14,nk 54,f 0 55,h 4 56,m 3,ca 351 [53,57,58],nk 51,f 4 60,n (st 1 61 59),nk 52,f 5 62,n (E (.store 1 (T 63) (.c (.bool true))))] [] [43,42,41,11,8,5,4,3]) (s (O 64 [h 1 5,ca 111 [64],gti 65 4611686018427387904]) (c 66 (r (O 8 [i 0,i 0,i 13])))))))) (O 67 [adi 43 1,d 43 (m 67)]))))
def yV:ay:=.loop ⟨true,[43,42,41,11,8,5,4,3],[]⟩ fU
def Az:WFn:=⟨4,[.tmp 8,.tmp 9,.tmp 10],zd (s (O 8 [d 4 (bx 0),d 5 (bx 1),d 6 (bx 2),i 0,i 0,i 0]) (s (O 16 [h 1 5,f 2 4,l 1 17,h 2 6,ca 161 [16,18,19],d 15 (m 20),ex 0 15,ex 1 15,d 8 (m 21),d 10 (m 22)]) (s (s (O 23 [m 10,nei 23 0]) (c 24 (r (O 8 [d 25 (m 10),i 0,i 0,m 25])))) (s (Q 27 [f 0 4,h 2 27,h 1 5,m 8,f 2 4,l 1 31,f 3 4,l 1 33,ca 4001 [28,29,30,32,34],d 26 (m 35),ex 0 26,ex 1 26,d 11 (m 36),d 10 (m 37)] [11,10,8,5,4,3]) (s (s (O 38 [m 10,nei 38 0]) (c 39 (r (O 8 [d 40 (m 10),i 0,i 0,m 40])))) (s (s (O 41 [m 11,ln 1 41,i 0]) (bk 0 yV ⟨true,[11,8],[]⟩)) kV))))))⟩
@[simp] theorem amk:ZL yV fU ⟨true,[43,42,41,11,8,5,4,3],[]⟩:=bf rfl
def Nq:ay:=zd (r (O 2 [d 39 (m 5),m 39,i 0]))
def yN:ay:=zd (s (Q 21 [lt 20 19] [21,20,19,5,1]) (s (cc 21 (w .skip) (ee 0)) (s (B 1 (s (O 22 [m 20,d 6 (m 22)]) (V 23 [m 5,m 6,adi 24 1,m 5,m 6,ix 1 26 27,l 1 28,f 0 1,l 1 30,m 6,ix 6 31 32,f 4 33,l 1 34,ad 29 35,ix 1 23 25,n (st 1 37 36)] [] ⟨false,[],[]⟩))) (O 38 [adi 20 1,d 20 (m 38)]))))
def OE:ay:=.loop ⟨true,[20,19,5,1],[]⟩ yN
def abu:WFn:=⟨1,[.tmp 2,.tmp 3],zd (s (O 1 [bx 0,E (.mv (.c (.ro 1 [] true))),i 0]) (s (s (O 7 [h 1 1,ca 122 [7],d 4 (m 8)]) (s (O 9 [m 4,nei 9 0]) (c 10 (r (O 2 [d 11 (m 4),E (.mv (.c (.ro 1 [] true))),m 11]))))) (s (O 12 [f 0 1,l 1 12,ln 1 13,adi 14 1,E (.mX [.int .i64 0] 8 (T 15) (T 15)),d 5 (m 16)]) (s (s (O 17 [f 0 1,l 1 17,ln 1 18,i 0]) (bk 0 OE ⟨true,[5],[]⟩)) Nq))))⟩
@[simp] theorem an4:ZL OE yN ⟨true,[20,19,5,1],[]⟩:=bf rfl
noncomputable abbrev EF (C:aG) (s:WSt):Option AV:=CK C 0 (aN [.tmp 2,.tmp 3]) [.sq OE,.bk 0 ⟨true,[5],[]⟩,.sq Nq] yN s
def Uf:WFn:=⟨2,[.tmp 4,.tmp 5],zd (s (O 4 [d 2 (bx 0),i 0,i 0]) (s (O 9 [h 1 2,ca 246 [9],d 8 (m 10),ex 0 8,ex 1 8,d 6 (m 11),d 7 (m 12)]) (s (s (Q 13 [m 7,nei 13 0] [14,7,6,1]) (c 14 (r (O 4 [d 15 (m 7),i 0,m 15])))) (s (s (O 16 [m 1,lti 16 0,m 17,z 18 (m 1),z 18 (m 6),z 18 (m 6),z 18 (ln 1 21),z 18 (sbi 22 1),z 18 (ix 1 20 23),z 18 (l 1 24),z 18 (ge 19 25),po 18 26]) (c 27 (r (O 4 [i 0,i 4])))) (r (O 28 [m 6,m 1,ca 247 [28,29],d 4 (m 30),d 5 (i 0)]))))))⟩
def Oa:ay:=zd (r (O 4 [i 1]))
def wB:ay:=zd (s (s (O 34 [m 5,f 3 2,l 1 35,ln 1 36,lt 34 37]) (cc 38 (w .skip) (ee 0))) (s (B 1 (s (V 41 [f 3 2,l 1 41,m 5,ix 1 42 43,l 1 44,f 3 3,l 1 46,m 5,ix 1 47 48,l 1 49,ne 45 50] [] ⟨false,[],[]⟩) (c 51 (r (O 4 [i 0]))))) (O 39 [m 5,adi 39 1,d 5 (m 40)])))
def OB:ay:=.loop ⟨true,[5,3,2],[]⟩ wB
def QI:WFn:=⟨2,[.tmp 4],zd (s (O 2 [bx 0,bx 1,i 0]) (s (s (Q 6 [f 0 2,l 1 6,f 0 3,l 1 8,ne 7 9,m 10,z 11 (f 1 2),z 11 (l 1 12),z 11 (f 1 3),z 11 (l 1 14),z 11 (ne 13 15),po 11 16,m 17,z 18 (f 2 2),z 18 (l 1 19),z 18 (f 2 3),z 18 (l 1 21),z 18 (ne 20 22),po 18 23,m 24,z 25 (f 3 2),z 25 (l 1 26),z 25 (ln 1 27),z 25 (f 3 3),z 25 (l 1 29),z 25 (ln 1 30),z 25 (ne 28 31),po 25 32] [33,3,2]) (c 33 (r (O 4 [i 0])))) (s (s (O 5 [i 0]) (bk 0 OB ⟨true,[],[]⟩)) Oa)))⟩
@[simp] theorem anu:ZL OB wB ⟨true,[5,3,2],[]⟩:=bf rfl
noncomputable abbrev AQ (C:aG) (s:WSt):Option AV:=CK C 0 (aN [.tmp 4]) [.sq OB,.bk 0 ⟨true,[],[]⟩,.sq Oa] wB s
def abQ:WFn:=⟨3,[.tmp 6,.tmp 7],zd (s (O 5 [bx 2,i 0,i 0]) (s (s (O 9 [m 0,m 1,ca 312 [9,10],gti 11 0]) (c 12 (r (O 13 [m 0,m 1,ca 312 [13,14],d 6 (i 0),d 7 (m 15)])))) (s (s (O 16 [h 2 5,ca 176 [16],gti 17 0]) (c 18 (r (O 6 [i 0,i 1])))) (s (s (Q 19 [f 0 5,l 1 19,E (.bin .eql (T 20) (.c (.int .u64 0)))] [21,5,1,0]) (c 21 (r (O 6 [i 0,i 0])))) (s (O 22 [m 0,f 0 5,l 1 23,ca 239 [22,24],d 8 (m 25)]) (s (s (O 26 [m 8,lti 26 0]) (c 27 (r (O 6 [i 0,i 11])))) (r (V 28 [m 0,m 1,m 0,m 8,ca 253 [30,31],f 1 5,l 1 33,ad 32 34,ca 314 [28,29,35],d 6 (m 36),d 7 (i 0)] [(4,6)] ⟨false,[],[]⟩))))))))⟩
def OO:ay:=zd (r (O 10 [d 62 (m 15),m 62,i 0]))
def nK:ay:=zd (s (s (O 36 [m 16,m 1,ln 1 37,lt 36 38]) (cc 39 (w .skip) (ee 0))) (s (B 1 (s (Q 42 [m 16,m 12,ge 42 43,m 44,y 45 (m 16),y 45 (m 13),y 45 (lt 46 47),pa 45 48,m 49,z 50 (m 16),z 50 (h 2 5),z 50 (m 1),z 50 (m 2),z 50 (ca 149 [52,53,54]),z 50 (eq 51 55),po 50 56] [57,16,15,13,12,5,2,1]) (c 57 (O 58 [m 15,m 16,E (.aV [.int .i64 0] 1 [(0,T 59)]),E (.app [.int .i64 0] 8 false (T 58) (T 60)),d 15 (m 61)])))) (O 40 [m 16,adi 40 1,d 16 (m 41)])))
def Ph:ay:=.loop ⟨true,[16,15,13,12,5,2,1],[]⟩ nK
def agQ:WFn:=⟨5,[.tmp 10,.tmp 11],zd (s (O 10 [d 5 (bx 0),E (.mv (.c (.ro 1 [] true))),i 0]) (s (s (O 17 [h 2 5,m 1,ca 235 [17,18],gti 19 0]) (c 20 (r (Q 21 [h 2 5,m 1,ca 235 [21,22],d 10 (E (.mv (.c (.ro 1 [] true)))),d 11 (m 23)] [11,10])))) (s (O 25 [m 1,m 2,m 3,m 4,ca 131 [25,26,27,28],d 24 (m 29),ex 0 24,ex 1 24,ex 2 24,d 12 (m 30),d 13 (m 31),d 14 (m 32)]) (s (s (O 33 [m 14,gti 33 0]) (c 34 (r (O 10 [d 35 (m 14),E (.mv (.c (.ro 1 [] true))),m 35])))) (s (R 15 [E (.mv (.c (.ro 1 [] true)))] ⟨true,[15,13,12,5,2,1],[(15,1)]⟩) (s (s (O 16 [i 0]) (bk 0 Ph ⟨true,[15],[]⟩)) OO))))))⟩
@[simp] theorem aog:ZL Ph nK ⟨true,[16,15,13,12,5,2,1],[]⟩:=bf rfl
noncomputable abbrev pR (C:aG) (s:WSt):Option AV:=CK C 0 (aN [.tmp 10,.tmp 11]) [.sq Ph,.bk 0 ⟨true,[15],[]⟩,.sq OO] nK s
def Lr:ay:=zd (r (O 29 [m 5,d 4 (m 29)]))
def vK:ay:=zd (s (s (Q 7 [m 6,m 1,ln 1 8,lt 7 9] [10,6,5,1,0]) (cc 10 (w .skip) (ee 0))) (s (B 1 (s (O 13 [m 0,m 1,m 6,ix 1 14 15,l 1 16,ix 6 13 17,f 5 18,l 1 19,nt 20]) (c 21 (O 22 [m 5,m 1,m 6,ix 1 23 24,l 1 25,E (.aV [.int .i64 0] 1 [(0,T 26)]),E (.app [.int .i64 0] 8 false (T 22) (T 27)),d 5 (m 28)])))) (O 11 [m 6,adi 11 1,d 6 (m 12)])))
def NU:ay:=.loop ⟨true,[6,5,1,0],[]⟩ vK
def ag4:WFn:=⟨2,[.tmp 4],zd (s (O 4 [E (.mv (.c (.ro 1 [] true)))]) (s (R 5 [E (.mv (.c (.ro 1 [] true)))] ⟨true,[5,1,0],[(5,1)]⟩) (s (s (O 6 [i 0]) (bk 0 NU ⟨true,[5],[]⟩)) Lr)))⟩
@[simp] theorem ao3:ZL NU vK ⟨true,[6,5,1,0],[]⟩:=bf rfl
noncomputable abbrev zk (C:aG) (s:WSt):Option AV:=CK C 0 (aN [.tmp 4]) [.sq NU,.bk 0 ⟨true,[5],[]⟩,.sq Lr] vK s
def aaC:WFn:=⟨1,[.tmp 2],zd (s (O 2 [i 0]) (s (s (O 3 [m 0,ca 504 [3],gti 4 4611686018427387904]) (c 5 (r (O 2 [i 13])))) (r (O 2 [i 0]))))⟩
def zM:ay:=zd (r (O 70 [m 15,m 15,ln 1 71,m 15,ln 1 73,E (.slice 1 (T 70) none (some (T 72)) (some (T 74))),ca 2005 [75],d 10 (m 76),d 11 (i 0)]))
def qF:ay:=zd (s (s (O 60 [m 17,f 1 13,l 1 61,lt 60 62]) (cc 63 (w .skip) (ee 0))) (s (B 1 (O 66 [m 15,m 17,E (.aV [.int .i64 0] 1 [(0,T 67)]),E (.app [.int .i64 0] 8 false (T 66) (T 68)),d 15 (m 69)])) (O 64 [m 17,adi 64 1,d 17 (m 65)])))
def Gg:ay:=.loop ⟨true,[17,15,13],[]⟩ qF
def JK:WFn:=⟨5,[.tmp 10,.tmp 11],zd (s (O 10 [d 5 (bx 0),d 6 (bx 1),E (.mv (.c (.ro 1 [] true))),i 0]) (s (s (Q 18 [h 2 5,h 1 6,ca 223 [18,19],d 12 (m 20)] [12,6,5,4,3,2]) (s (O 21 [m 12,nei 21 0]) (c 22 (r (O 10 [d 23 (m 12),E (.mv (.c (.ro 1 [] true))),m 23]))))) (s (O 25 [h 1 6,m 2,m 3,m 4,ca 132 [25,26,27,28],d 24 (m 29),ex 0 24,ex 1 24,d 13 (E (.alloc [.int .i64 0,.int .i64 0])),n (st 2 13 30),d 14 (m 31)]) (s (s (O 32 [m 14,nei 32 0]) (c 33 (r (O 10 [d 34 (m 14),E (.mv (.c (.ro 1 [] true))),m 34])))) (s (Q 35 [f 1 13,l 1 35,f 0 13,l 1 37,sb 36 38,adi 39 1,E (.mX [.int .i64 0] 8 (N 0) (T 40)),d 15 (m 41)] [15,13,6,5,2]) (s (s (O 42 [h 2 5,h 1 6,m 2,ca 273 [42,43,44],d 16 (m 45)]) (s (O 46 [m 16,gei 46 0,m 47,y 48 (m 16),y 48 (f 0 13),y 48 (l 1 50),y 48 (lt 49 51),pa 48 52]) (c 53 (O 54 [m 15,m 16,E (.aV [.int .i64 0] 1 [(0,T 55)]),E (.app [.int .i64 0] 8 false (T 54) (T 56)),d 15 (m 57)])))) (s (s (Q 58 [f 0 13,l 1 58,d 17 (m 59)] [17,15,13]) (bk 0 Gg ⟨true,[15],[]⟩)) zM)))))))⟩
@[simp] theorem alP:ZL Gg qF ⟨true,[17,15,13],[]⟩:=bf rfl
def yB:WFn:=⟨1,[.tmp 2],zd (s (O 2 [E (.mv (.c (.ro 1 [] true)))]) (s (s (O 4 [m 0,ln 1 4,eqi 5 0]) (c 6 (r (O 2 [E (.mv (.c (.ro 1 [] true)))])))) (s (O 7 [m 0,ln 1 7,E (.mX [.int .i64 0] 8 (T 8) (T 8)),d 3 (m 9)]) (s (O 10 [m 3,m 0,E (.cpy 1 (T 10) (T 11))]) (r (O 13 [m 3,d 2 (m 13)]))))))⟩
def MR:ay:=zd (s (O 36 [m 0,m 5,E (.slice 1 (T 36) (some (T 37)) none none),n (E (.clr [.int .i64 0] (T 38)))]) (r (O 39 [m 0,m 5,E (.slice 1 (T 39) none (some (T 40)) none),d 4 (m 41)])))
def vX:ay:=zd (s (s (O 16 [m 6,m 0,ln 1 17,lt 16 18]) (cc 19 (w .skip) (ee 0))) (s (B 1 (s (Q 22 [m 0,m 6,ix 1 22 23,l 1 24,d 7 (m 25)] [7,6,5,1,0]) (s (O 26 [m 1,m 7,E (.dU (T 26) [T 27]),nt 28]) (c 29 (s (O 30 [m 0,m 5,m 7,ix 1 30 31,n (st 1 33 32)]) (O 34 [m 5,adi 34 1,d 5 (m 35)])))))) (O 20 [m 6,adi 20 1,d 6 (m 21)])))
def Pz:ay:=.loop ⟨true,[6,5,1,0],[]⟩ vX
def Lj:WFn:=⟨2,[.tmp 4],zd (s (O 4 [E (.mv (.c (.ro 1 [] true)))]) (s (O 8 [m 0,m 1,ca 426 [8,9],d 5 (m 10)]) (s (s (O 11 [m 5,eqi 11 (-1)]) (c 12 (r (O 13 [m 0,d 4 (m 13)])))) (s (s (O 14 [m 5,adi 14 1,d 6 (m 15)]) (bk 0 Pz ⟨true,[5,0],[]⟩)) MR))))⟩
@[simp] theorem aom:ZL Pz vX ⟨true,[6,5,1,0],[]⟩:=bf rfl
def ahh:WFn:=⟨2,[.tmp 3],zd (s (O 3 [ff]) (r (O 4 [f 0 1,l 1 4,m 0,ix 6 5 6,f 5 7,l 1 8,d 3 (m 9)])))⟩
def ZJ:WFn:=⟨1,[.tmp 2],zd (s (O 1 [bx 0,i 0]) (s (s (O 3 [f 0 1,l 1 3,ln 1 4,gti 5 1024]) (c 6 (r (O 2 [i 3])))) (s (s (O 7 [f 0 1,l 1 7,E (.call 249 [T 8,.c (.fn 250 [])])]) (c 9 (r (O 2 [i 12])))) (s (s (O 10 [h 1 1,ca 111 [10],gti 11 4611686018427387904]) (c 12 (r (O 2 [i 13])))) (r (O 2 [i 0]))))))⟩
def aeE:WFn:=⟨2,[.tmp 4,.tmp 5],zd (s (Q 4 [d 2 (bx 0),i 0,ff] [2,1]) (s (O 11 [h 1 2,m 1,ca 224 [11,12],d 10 (m 13),ex 0 10,ex 1 10,d 6 (m 14),d 7 (m 15)]) (s (O 17 [h 1 2,ca 246 [17],d 16 (m 18),ex 0 16,ex 1 16,d 8 (m 19),d 9 (m 20)]) (r (O 21 [m 8,m 6,ix 1 21 22,l 1 23,m 7,d 4 (m 24),d 5 (m 25)])))))⟩
def ML:ay:=zd (r (O 19 [m 5,d 4 (m 19)]))
def Aw:ay:=zd (s (s (O 7 [m 6,m 1,lt 7 8]) (cc 9 (w .skip) (ee 0))) (s (B 1 (O 12 [m 5,m 0,m 6,ix 6 13 14,f 4 15,l 1 16,ad 12 17,d 5 (m 18)])) (O 10 [m 6,adi 10 1,d 6 (m 11)])))
def Me:ay:=.loop ⟨true,[6,5,1,0],[]⟩ Aw
def agD:WFn:=⟨2,[.tmp 4],zd (s (O 4 [i 0]) (s (O 5 [i 0]) (s (s (O 6 [i 0]) (bk 0 Me ⟨true,[5],[]⟩)) ML)))⟩
@[simp] theorem ao2:ZL Me Aw ⟨true,[6,5,1,0],[]⟩:=bf rfl
noncomputable abbrev EY (C:aG) (s:WSt):Option AV:=CK C 0 (aN [.tmp 4]) [.sq Me,.bk 0 ⟨true,[5],[]⟩,.sq ML] Aw s
def uV:ay:=zd (s (s (O 45 [E (.kZ 4 1 (T 1) (N 3)),l 1 45,E (.bin .geq (T 46) (.c (.int .u8 240)))]) (c 47 (O 48 [f 3 3,l 1 48,E (.aV [.str []] 2 [(0,.c (.str [97])),(1,.c (.str [97]))]),E (.app [.str []] 16 false (T 49) (T 50)),f 3 3,n (st 1 52 51)]))) (r (O 53 [h 4 3,n (st 4 2 53)])))
def jM:ay:=zd (s (s (O 20 [m 4,lti 20 3]) (cc 21 (w .skip) (ee 0))) (s (B 1 (s (O 24 [E (.kZ 4 1 (T 1) (N 3)),l 1 24,m 4,E (.bin .shr (T 25) (T 26)),E (.bin .and (T 27) (.c (.int .u8 1))),E (.bin .gtr (T 28) (.c (.int .u8 0)))]) (c 29 (U 30 [f 3 3,l 1 30,E (.aV [.str []] 3 [(0,.c (.str [97])),(1,.c (.str [98,50])),(2,.c (.str [107,101,121]))]),m 4,E (.kZ 4 1 (T 1) (N 3)),l 1 34,E (.bin .quo (T 35) (.c (.int .u8 8))),E (.cvt .i64 (T 36)),ad 33 37,E (.bin .rem (T 38) (N 3)),ix 1 32 39,l 1 40,E (.aV [.str []] 1 [(0,T 41)]),E (.app [.str []] 16 false (T 31) (T 42)),f 3 3,n (st 1 44 43)] [(1,2),(2,5),(1,12)] [4,3,2,1])))) (O 22 [m 4,adi 22 1,d 4 (m 23)])))
def O6:ay:=.loop ⟨true,[4,3,2,1],[]⟩ jM
def GH:WFn:=⟨1,[.cell 2 4 true],zd (s (O 1 [bx 0,E (.alloc [.int .u64 0,.int .u8 0,.str [],.ro 1 [] true])]) (s (U 5 [E (.kZ 4 1 (T 1) (N 0)),l 1 5,E (.bin .rem (T 6) (.c (.int .u8 60))),E (.cvt .u64 (T 7)),E (.bin .add (.c (.int .u64 1)) (T 8)),E (.kZ 4 1 (T 1) (N 1)),l 1 10,E (.bin .rem (T 11) (.c (.int .u8 3))),E (.aV [.str []] 8 [(0,.c (.str [])),(1,.c (.str [97])),(2,.c (.str [114,111,119])),(3,.c (.str [116,119,111,32,119,111,114,100,115])),(4,.c (.str [32,32])),(5,.c (.str [126,33,45,44])),(6,.c (.str [97,32,108,111,110,103,101,114,32,116,101,120,116,32,111,102,32,116,104,105,115,32,107,105,110,100])),(7,.c (.str [57]))]),E (.kZ 4 1 (T 1) (N 2)),l 1 14,E (.bin .rem (T 15) (.c (.int .u8 8))),ix 1 13 16,l 1 17,E (.build [.int .u64 0,.int .u8 0,.str [],.ro 1 [] true] [(0,1,T 9),(1,1,T 12),(2,1,T 18)]),d 3 (E (.alloc [.int .u64 0,.int .u8 0,.str [],.ro 1 [] true])),n (st 4 3 19)] [(1,8),(6,8),(8,10),(1,15),(6,15),(8,15),(10,15),(13,15)] [3,2,1]) (s (s (O 4 [i 0]) (bk 0 O6 ⟨true,[3,2,1],[]⟩)) uV)))⟩
@[simp] theorem apa:ZL O6 jM ⟨true,[4,3,2,1],[]⟩:=bf rfl
noncomputable abbrev bU (C:aG) (s:WSt):Option AV:=CK C 0 (aN [.cell 2 4 true]) [.sq O6,.bk 0 ⟨true,[3,2,1],[]⟩,.sq uV] jM s
def NY:ay:=zd (r (O 4 [i (-1)]))
def wK:ay:=zd (s (s (O 6 [m 5,m 0,ln 1 7,lt 6 8]) (cc 9 (w .skip) (ee 0))) (s (B 1 (s (O 12 [m 0,m 5,ix 4 12 13,f 0 14,l 1 15,m 1,eq 16 17]) (c 18 (r (O 19 [m 5,d 4 (m 19)]))))) (O 10 [m 5,adi 10 1,d 5 (m 11)])))
def Kq:ay:=.loop ⟨true,[5,1,0],[]⟩ wK
def aei:WFn:=⟨2,[.tmp 4],zd (s (O 4 [i 0]) (s (s (O 5 [i 0]) (bk 0 Kq ⟨true,[],[]⟩)) NY))⟩
@[simp] theorem aph:ZL Kq wK ⟨true,[5,1,0],[]⟩:=bf rfl
noncomputable abbrev Aq (C:aG) (s:WSt):Option AV:=CK C 0 (aN [.tmp 4]) [.sq Kq,.bk 0 ⟨true,[],[]⟩,.sq NY] wK s
def Px:ay:=zd (s (s (O 41 [m 5,eqi 41 1]) (c 42 (r (O 4 [i 0])))) (r (O 4 [i 6])))
def yO:ay:=zd (s (s (O 26 [m 6,f 3 2,l 1 27,ln 1 28,lt 26 29]) (cc 30 (w .skip) (ee 0))) (s (B 1 (O 33 [m 5,f 3 2,l 1 34,m 6,ix 1 35 36,l 1 37,ca 511 [38],E (.bin .mul (T 33) (T 39)),d 5 (m 40)])) (O 31 [m 6,adi 31 1,d 6 (m 32)])))
def KX:ay:=.loop ⟨true,[6,5,2],[]⟩ yO
def Q9:WFn:=⟨2,[.tmp 4],zd (s (O 4 [d 2 (bx 0),i 0]) (s (O 7 [f 2 2,l 1 7,ca 510 [8],d 5 (m 9)]) (s (s (Q 10 [f 0 2,l 1 10,E (.bin .eql (T 11) (.c (.int .u64 0))),m 12,z 13 (m 1),z 13 (f 1 2),z 13 (l 1 15),z 13 (E (.cvt .i64 (T 16))),z 13 (le 14 17),po 13 18,m 19,z 20 (f 3 2),z 20 (l 1 21),z 20 (ln 1 22),z 20 (gti 23 8),po 20 24] [25,5,2]) (c 25 (O 5 [i 0]))) (s (s (O 6 [i 0]) (bk 0 KX ⟨true,[5],[]⟩)) Px))))⟩
@[simp] theorem anU:ZL KX yO ⟨true,[6,5,2],[]⟩:=bf rfl
noncomputable abbrev EM (C:aG) (s:WSt):Option AV:=CK C 0 (aN [.tmp 4]) [.sq KX,.bk 0 ⟨true,[5],[]⟩,.sq Px] yO s
def Jb:WFn:=⟨3,[.cell 6 6 true,.tmp 7],zd (s (Q 6 [d 3 (bx 0),d 4 (bx 1),E (.alloc [.int .u8 0,.str [],.str [],.ro 2 [] true,.str [],.ro 6 [] true]),i 0] [6,4,3,2]) (s (s (O 9 [m 2,lti 9 1,m 10,z 11 (m 2),z 11 (gti 12 64),po 11 13]) (c 14 (r (O 15 [E (.build [.int .u8 0,.str [],.str [],.ro 2 [] true,.str [],.ro 6 [] true] []),n (st 6 6 15),d 7 (i 1)])))) (s (s (O 16 [h 6 3,ca 408 [16],nei 17 0]) (c 18 (r (O 19 [E (.build [.int .u8 0,.str [],.str [],.ro 2 [] true,.str [],.ro 6 [] true] []),h 6 3,ca 408 [20],n (st 6 6 19),d 7 (m 21)])))) (s (s (O 22 [h 4 4,ca 512 [22],nei 23 0]) (c 24 (r (Q 25 [E (.build [.int .u8 0,.str [],.str [],.ro 2 [] true,.str [],.ro 6 [] true] []),h 4 4,ca 512 [26],n (st 6 6 25),d 7 (m 27)] [7,6])))) (s (O 28 [h 6 3,h 4 4,ca 513 [28,29],E (.idxs 6 (T 30) (N 0)),h 6 31,d 8 (E (.alloc [.int .u8 0,.str [],.str [],.ro 2 [] true,.str [],.ro 6 [] true])),n (st 6 8 32)]) (s (s (O 33 [h 6 8,ca 441 [33],nei 34 0,m 35,z 36 (h 6 8),z 36 (ca 442 [37]),z 36 (m 2),z 36 (gt 38 39),po 36 40]) (c 41 (r (O 42 [E (.build [.int .u8 0,.str [],.str [],.ro 2 [] true,.str [],.ro 6 [] true] []),n (st 6 6 42),d 7 (i 14)])))) (r (O 43 [h 6 8,n (st 6 6 43),d 7 (i 0)]))))))))⟩
def adZ:WFn:=⟨1,[.tmp 2],zd (s (O 2 [i 0]) (s (s (O 3 [m 0]) (c 3 (r (O 2 [i 1])))) (r (O 2 [i 0]))))⟩
def XH:WFn:=⟨1,[.tmp 2],zd (s (O 1 [bx 0,ff]) (r (O 3 [f 6 1,l 1 3,ca 225 [4],nt 5,m 6,z 7 (f 0 1),z 7 (h 6 8),z 7 (ca 231 [9]),z 7 (nei 10 0),po 7 11,d 2 (m 12)])))⟩
def agw:WFn:=⟨1,[.tmp 2],zd (s (O 2 [ff]) (r (O 3 [m 0,gei 3 1,m 4,y 5 (m 0),y 5 (lei 6 2305843009213693952),pa 5 7,d 2 (m 8)])))⟩
def acE:WFn:=⟨1,[.tmp 2],zd (s (O 1 [bx 0,i 0]) (s (s (O 3 [h 6 1,ca 404 [3],eqi 4 0]) (c 5 (r (O 2 [i 14])))) (r (O 2 [i 0]))))⟩
def aaS:WFn:=⟨2,[.tmp 4],zd (s (O 4 [ff]) (r (O 5 [m 0,m 1,ca 405 [5,6],gei 7 0,d 4 (m 8)])))⟩
def aav:WFn:=⟨1,[.tmp 2],zd (s (O 1 [bx 0,i 0]) (s (s (O 3 [h 6 1,ca 505 [3],eqi 4 0]) (c 5 (r (O 2 [i 14])))) (r (O 2 [i 0]))))⟩
def Td:WFn:=⟨2,[.tmp 4],zd (s (O 4 [d 2 (bx 0),i 0]) (s (O 7 [E (.jK 494 [T 2]),d 5 (m 7)]) (s (Q 8 [E (.jK 497 [T 2]),d 6 (m 8)] [6,5,2,1]) (s (s (O 9 [f 0 2,l 1 9,E (.bin .eql (T 10) (.c (.int .u64 0))),m 11,z 12 (f 1 2),z 12 (l 1 13),z 12 (E (.cvt .i64 (T 14))),z 12 (m 1),z 12 (ge 15 16),po 12 17,m 18,z 19 (m 5),z 19 (E (.dU (T 20) [])),z 19 (nt 21),po 19 22,m 23,z 24 (m 6),z 24 (E (.dU (T 25) [])),z 24 (nt 26),po 24 27]) (c 28 (r (O 4 [i 6])))) (r (O 4 [i 0]))))))⟩
def aft:WFn:=⟨2,[.cell 4 6 true,.tmp 5],zd (s (O 2 [bx 0,bx 1,E (.alloc [.int .u8 0,.str [],.str [],.ro 2 [] true,.str [],.ro 6 [] true]),i 0]) (r (V 6 [f 0 2,l 1 6,f 1 3,l 1 8,ix 9 7 9,f 0 10,h 6 11,h 4 3,f 1 2,l 1 14,ca 501 [12,13,15],ex 0 16,ex 1 16,n (st 6 4 17),d 5 (m 18)] [] ⟨false,[],[]⟩)))⟩
def afC:WFn:=⟨1,[.tmp 2],zd (s (O 1 [bx 0,i 0]) (s (s (O 3 [h 1 1,ca 111 [3],gti 4 4611686018427387904]) (c 5 (r (O 2 [i 13])))) (r (O 2 [i 0]))))⟩
def w97:WFn:=⟨0,[.tmp 0],zd (s (O 0 [E (.mv (.c .dP))]) (r (O 1 [E (.build [.ro 3 [] true,.int .i64 0,.int .i64 0] []),bx 1,d 0 (m 2)])))⟩
def BM:WFn:=⟨3,[.tmp 6],zd (s (O 6 [d 3 (bx 0),i 0]) (s (O 10 [m 2,f 0 3,l 1 11,ca 1100 [10,12],d 9 (m 13),ex 0 9,ex 1 9,d 7 (m 14),d 8 (m 15)]) (s (B 0 (s (Q 17 [f 0 3,l 1 17,E (.bin .eql (T 18) (.c (.int .u64 0))),d 16 (m 19)] [16,8,3,2,1]) (cc 16 (r (O 6 [i 9])) (s (O 21 [f 1 3,l 1 21,m 1,lt 22 23,m 24,z 25 (f 1 3),z 25 (l 1 26),z 25 (gti 27 2305843009213693952),po 25 28,d 20 (m 29)]) (cc 20 (r (O 6 [i 12])) (s (O 31 [m 8,d 30 (m 31)]) (c 30 (r (O 6 [i 8]))))))))) (r (O 32 [m 2,f 0 3,l 1 33,E (.call 99 [T 32,T 34,N 0]),d 6 (m 35)])))))⟩
def Fq:ay:=zd (r (O 4 [i (-1)]))
def nX:ay:=zd (s (O 9 [lt 8 7]) (s (cc 9 (w .skip) (ee 0)) (s (B 1 (s (O 10 [m 8,d 5 (m 10)]) (s (O 11 [m 1,m 0,m 5,ix 6 12 13,h 6 14,E (.dU (T 11) [T 15])]) (c 16 (r (O 17 [m 5,d 4 (m 17)])))))) (O 18 [adi 8 1,d 8 (m 18)]))))
def N7:ay:=.loop ⟨true,[8,7,1,0],[]⟩ nX
def acp:WFn:=⟨2,[.tmp 4],zd (s (O 4 [i 0]) (s (s (O 6 [m 0,ln 1 6,i 0]) (bk 0 N7 ⟨true,[],[]⟩)) Fq))⟩
@[simp] theorem aoe:ZL N7 nX ⟨true,[8,7,1,0],[]⟩:=bf rfl
noncomputable abbrev l9 (C:aG) (s:WSt):Option AV:=CK C 0 (aN [.tmp 4]) [.sq N7,.bk 0 ⟨true,[],[]⟩,.sq Fq] nX s
def agW:WFn:=⟨2,[.tmp 3],zd (s (O 2 [bx 0,ff]) (r (O 4 [f 0 2,f 0 4,l 1 5,l 1 1,eq 6 7,d 3 (m 8)])))⟩
def Qa:WFn:=⟨4,[.cell 8 1 true,.tmp 9],zd (s (R 4 [bx 0,bx 1,bx 2,bx 3,E (.alloc [.ro 6 [] true]),i 0] ⟨true,[8,7,6,5,4],[(4,65536),(5,65536),(6,65536),(7,65536)]⟩) (r (V 10 [h 2 4,h 1 5,l 1 6,l 1 7,f 0 5,l 1 14,ln 1 15,ca 219 [12,13,16],E (.jK 222 [T 5,T 6,T 7]),E (.build [.bool false,.int .i64 0,.ro 4 [] true,.dK,.dK] [(0,1,T 17),(4,1,T 18)]),ca 3003 [10,11,19],ex 0 20,ex 1 20,n (st 1 8 21),d 9 (m 22)] [(0,7),(1,7)] ⟨false,[],[]⟩)))⟩
def abg:WFn:=⟨3,[.tmp 6,.tmp 7],zd (s (Q 5 [d 3 (bx 0),bx 2,i 0,i 0] [5,3,1]) (s (s (O 12 [h 1 3,m 1,ca 322 [12,13],d 8 (m 14)]) (s (O 15 [m 8,nei 15 0]) (c 16 (r (O 6 [d 17 (m 8),i 0,m 17]))))) (s (s (O 18 [h 2 5,ca 318 [18],d 9 (m 19)]) (s (O 20 [m 9,nei 20 0]) (c 21 (r (O 6 [d 22 (m 9),i 0,m 22]))))) (s (s (O 23 [f 0 5,l 1 23,E (.bin .eql (T 24) (.c (.int .u64 0)))]) (c 25 (r (O 6 [i 0,i 0])))) (s (Q 27 [h 1 3,f 0 5,l 1 28,ca 323 [27,29],d 26 (m 30),ex 0 26,ex 1 26,d 10 (m 31),d 11 (m 32)] [11,10,5,3,1]) (s (s (O 33 [m 11,nt 33]) (c 34 (r (O 6 [i 0,i 11])))) (r (O 35 [h 1 3,m 1,m 10,f 1 5,l 1 38,ad 37 39,ca 313 [35,36,40],ex 0 41,ex 1 41,d 6 (m 42),d 7 (m 43)]))))))))⟩
def agP:WFn:=⟨2,[.tmp 4],zd (s (O 2 [bx 0,bx 1,i 0]) (r (O 5 [l 1 2,ln 1 5,sbi 6 1,E (.jK 412 [T 2,T 3]),ca 411 [7,8],d 4 (m 9)])))⟩
def aeM:WFn:=⟨2,[.tmp 4],zd (s (O 4 [i 0]) (s (s (O 5 [m 0,ca 251 [5],gti 6 0]) (c 7 (r (O 8 [m 0,ca 251 [8],d 4 (m 9)])))) (s (s (O 10 [m 1,lti 10 1,m 11,z 12 (m 1),z 12 (gti 13 2147483648),po 12 14]) (c 15 (r (O 4 [i 1])))) (r (O 4 [i 0])))))⟩
def Zh:WFn:=⟨3,[.tmp 6],zd (s (O 6 [i 0]) (s (O 8 [m 0,m 1,ca 327 [8,9],d 7 (m 10)]) (s (s (O 11 [m 2,m 7,gt 11 12]) (c 13 (r (O 14 [m 7,d 6 (m 14)])))) (s (s (O 15 [m 2,lti 15 0]) (c 16 (r (O 6 [i 0])))) (r (O 17 [m 2,d 6 (m 17)]))))))⟩
def Bd:ay:=zd (r (O 68 [m 11,m 11,m 12,ad 69 70,d 8 (m 68),d 9 (m 71),d 10 (i 0)]))
def ES:ay:=zd (O 36 [m 13,sbi 36 1,d 13 (m 37)])
def FP:ay:=zd (s (O 63 [m 14,gti 63 0]) (c 64 (s (O 65 [m 13,d 11 (m 65)]) (O 66 [m 12,adi 66 1,d 12 (m 67)]))))
def qc:ay:=zd (s (s (O 38 [m 15,m 0,ln 1 39,lt 38 40]) (cc 41 (w .skip) (ee 2))) (s (B 3 (s (O 44 [m 15,m 13,sb 44 45,m 3,le 46 47,m 48,y 49 (m 13),y 49 (m 15),y 49 (sb 50 51),y 49 (m 3),y 49 (le 52 53),pa 49 54]) (c 55 (Q 56 [m 14,m 0,m 1,m 2,m 15,ca 272 [57,58,59,60],ad 56 61,d 14 (m 62)] [15,14,13,12,11,3,2,1,0])))) (O 42 [m 15,adi 42 1,d 15 (m 43)])))
def ND:ay:=.loop ⟨true,[15,14,13,12,11,3,2,1,0],[]⟩ qc
def wz:ay:=zd (s (s (O 34 [m 13,gei 34 0]) (cc 35 (w .skip) (ee 0))) (s (bk 1 (s (O 14 [i 0]) (s (s (O 15 [i 0]) (bk 2 ND ⟨true,[14,13,12,11,3,2,1,0],[]⟩)) FP)) ⟨true,[13,12,11,3,2,1,0],[]⟩) ES))
def Fe:ay:=.loop ⟨true,[13,12,11,3,2,1,0],[]⟩ wz
def abh:WFn:=⟨4,[.tmp 8,.tmp 9,.tmp 10],zd (s (Q 8 [i 0,i 0,i 0] [3,2,1,0]) (s (s (O 16 [m 0,m 1,m 2,ca 252 [16,17,18],gti 19 0]) (c 20 (r (O 21 [m 0,m 1,m 2,ca 252 [21,22,23],d 8 (i 0),d 9 (i 0),d 10 (m 24)])))) (s (s (O 25 [m 3,lti 25 0,m 26,z 27 (m 3),z 27 (gti 28 16),po 27 29]) (c 30 (r (O 8 [i 0,i 0,i 1])))) (s (O 11 [i 0,i 0]) (s (s (Q 31 [m 0,ln 1 31,sbi 32 1,d 13 (m 33)] [13,12,11,3,2,1,0]) (bk 0 Fe ⟨true,[12,11],[]⟩)) Bd)))))⟩
@[simp] theorem aoP:ZL ND qc ⟨true,[15,14,13,12,11,3,2,1,0],[]⟩:=bf rfl
noncomputable abbrev rY (C:aG) (s:WSt):Option AV:=CK C 0 (aN [.tmp 8,.tmp 9,.tmp 10]) [.sq ND,.bk 2 ⟨true,[14,13,12,11,3,2,1,0],[]⟩,.sq FP,.bk 1 ⟨true,[13,12,11,3,2,1,0],[]⟩,.sq ES,.sq Fe,.bk 0 ⟨true,[12,11],[]⟩,.sq Bd] qc s
@[simp] theorem aoS:ZL Fe wz ⟨true,[13,12,11,3,2,1,0],[]⟩:=bf rfl
noncomputable abbrev wJ (C:aG) (s:WSt):Option AV:=CK C 0 (aN [.tmp 8,.tmp 9,.tmp 10]) [.sq Fe,.bk 0 ⟨true,[12,11],[]⟩,.sq Bd] wz s
def Mc:ay:=zd (r (O 30 [m 7,d 6 (m 30)]))
def rP:ay:=zd (s (s (Q 9 [m 8,m 1,ln 1 10,lt 9 11] [12,8,7,3,2,1]) (cc 12 (w .skip) (ee 0))) (s (B 1 (s (V 15 [h 2 3,m 1,m 8,ix 6 16 17,h 6 18,ca 304 [15,19],eqi 20 1,m 21,y 22 (m 1),y 22 (m 8),y 22 (ca 253 [23,24]),y 22 (m 2),y 22 (le 25 26),pa 22 27] [] ⟨false,[],[]⟩) (c 28 (O 29 [m 8,d 7 (m 29)])))) (O 13 [m 8,adi 13 1,d 8 (m 14)])))
def OL:ay:=.loop ⟨true,[8,7,3,2,1],[]⟩ rP
def ag3:WFn:=⟨3,[.tmp 6],zd (s (O 6 [d 3 (bx 0),i 0]) (s (O 7 [i (-1)]) (s (s (O 8 [i 0]) (bk 0 OL ⟨true,[7],[]⟩)) Mc)))⟩
@[simp] theorem aoj:ZL OL rP ⟨true,[8,7,3,2,1],[]⟩:=bf rfl
noncomputable abbrev wI (C:aG) (s:WSt):Option AV:=CK C 0 (aN [.tmp 6]) [.sq OL,.bk 0 ⟨true,[7],[]⟩,.sq Mc] rP s
def Nc:ay:=zd (r (O 27 [m 3,E (.cvt .i64 (T 27)),d 2 (m 28)]))
def qV:ay:=zd (s (s (O 5 [m 4,m 0,ln 1 6,lt 5 7]) (cc 8 (w .skip) (ee 0))) (s (B 1 (s (s (Q 11 [m 0,m 4,ix 6 11 12,f 4 13,l 1 14,gti 15 0] [16,4,3,0]) (c 16 (O 17 [m 3,m 0,m 4,ix 6 18 19,f 4 20,l 1 21,E (.cvt .u64 (T 22)),ad 17 23,d 3 (m 24)]))) (s (O 25 [m 3,E (.bin .gtr (T 25) (.c (.int .u64 4611686018427387904)))]) (c 26 (r (O 2 [i 4611686018427387905])))))) (O 9 [m 4,adi 9 1,d 4 (m 10)])))
def OY:ay:=.loop ⟨true,[4,3,0],[]⟩ qV
def ahm:WFn:=⟨1,[.tmp 2],zd (s (O 2 [i 0]) (s (O 3 [E (.mv (.c (.int .u64 0)))]) (s (s (O 4 [i 0]) (bk 0 OY ⟨true,[3],[]⟩)) Nc)))⟩
@[simp] theorem aoV:ZL OY qV ⟨true,[4,3,0],[]⟩:=bf rfl
noncomputable abbrev xk (C:aG) (s:WSt):Option AV:=CK C 0 (aN [.tmp 2]) [.sq OY,.bk 0 ⟨true,[3],[]⟩,.sq Nc] qV s
def adb:WFn:=⟨4,[.cell 8 2 true,.tmp 9],zd (s (O 8 [d 4 (bx 0),E (.alloc [.int .i64 0,.int .i64 0]),i 0]) (s (Q 15 [h 1 4,m 1,m 2,ca 121 [15,16,17],d 14 (m 18),ex 0 14,ex 1 14,ex 2 14,d 10 (m 19),d 11 (m 20),d 12 (m 21)] [12,11,10,8,4,3]) (s (B 0 (s (O 23 [m 12,nei 23 0,d 22 (m 24)]) (cc 22 (r (O 25 [E (.build [.int .i64 0,.int .i64 0] []),m 12,n (st 2 8 25),d 9 (m 26)])) (s (O 28 [m 3,lti 28 0,m 29,z 30 (m 3),z 30 (gti 31 16),po 30 32,d 27 (m 33)]) (c 27 (r (O 34 [E (.build [.int .i64 0,.int .i64 0] []),n (st 2 8 34),d 9 (i 1)]))))))) (s (Q 35 [m 10,m 11,E (.build [.int .i64 0,.int .i64 0] [(0,1,T 35),(1,1,T 36)]),d 13 (E (.alloc [.int .i64 0,.int .i64 0])),n (st 2 13 37)] [13,11,10,8,4,3]) (s (s (O 38 [h 2 13,E (.build [.int .i64 0,.int .i64 0] []),E (.eqv 4 [0,0] false (T 38) (T 39))]) (c 40 (r (O 41 [h 2 13,n (st 2 8 41),d 9 (i 0)])))) (r (O 42 [m 10,m 3,sb 42 43,E (.mx (N 0) (T 44)),f 0 4,l 1 46,ln 1 47,m 11,m 3,ad 49 50,E (.mn (T 48) (T 51)),E (.build [.int .i64 0,.int .i64 0] [(0,1,T 45),(1,1,T 52)]),n (st 2 8 53),d 9 (i 0)])))))))⟩
def Fg:ay:=zd (r (O 41 [m 9,d 6 (m 41)]))
def sN:ay:=zd (s (O 21 [lt 20 19]) (s (cc 21 (w .skip) (ee 0)) (s (B 1 (s (Q 22 [m 20,ix 6 18 20,h 6 23,d 11 (E (.alloc [.int .u64 0,.int .u8 0,.str [],.ro 1 [] true,.int .i64 0,.bool false])),d 10 (m 22),n (st 6 11 24)] [20,19,18,11,10,9,7,3,2]) (s (s (O 25 [m 7,m 10,ix 1 25 26,l 1 27,m 2,gt 28 29]) (c 30 (ee 0))) (s (O 31 [f 0 3,l 1 31,f 0 11,f 1 33,l 1 34,ix 9 32 35,f 7 36,l 1 37]) (c 38 (O 39 [m 10,d 9 (m 39)])))))) (O 40 [adi 20 1,d 20 (m 40)]))))
def LZ:ay:=.loop ⟨true,[20,19,18,9,7,3,2],[]⟩ sN
def agR:WFn:=⟨3,[.tmp 6],zd (s (O 3 [bx 0,bx 1,d 6 (i 0)]) (s (O 13 [h 1 4,ca 246 [13],d 12 (m 14),ex 0 12,ex 1 12,d 7 (m 15),d 8 (m 16)]) (s (O 9 [i (-1)]) (s (s (O 17 [f 0 4,l 1 17,ln 1 18,i 0]) (bk 0 LZ ⟨true,[9],[]⟩)) Fg))))⟩
@[simp] theorem apf:ZL LZ sN ⟨true,[20,19,18,9,7,3,2],[]⟩:=bf rfl
noncomputable abbrev uY (C:aG) (s:WSt):Option AV:=CK C 0 (aN [.tmp 6]) [.sq LZ,.bk 0 ⟨true,[9],[]⟩,.sq Fg] sN s
def Ou:ay:=zd (r (O 4 [i (-1)]))
def vJ:ay:=zd (s (O 9 [lt 8 7]) (s (cc 9 (w .skip) (ee 0)) (s (B 1 (s (O 10 [m 8,d 5 (m 10)]) (s (O 11 [m 1,m 0,m 5,ix 1 12 13,l 1 14,E (.dU (T 11) [T 15])]) (c 16 (r (O 17 [m 5,d 4 (m 17)])))))) (O 18 [adi 8 1,d 8 (m 18)]))))
def Oz:ay:=.loop ⟨true,[8,7,1,0],[]⟩ vJ
def afx:WFn:=⟨2,[.tmp 4],zd (s (O 4 [i 0]) (s (s (O 6 [m 0,ln 1 6,i 0]) (bk 0 Oz ⟨true,[],[]⟩)) Ou))⟩
@[simp] theorem anZ:ZL Oz vJ ⟨true,[8,7,1,0],[]⟩:=bf rfl
noncomputable abbrev yT (C:aG) (s:WSt):Option AV:=CK C 0 (aN [.tmp 4]) [.sq Oz,.bk 0 ⟨true,[],[]⟩,.sq Ou] vJ s
def ae6:WFn:=⟨2,[.tmp 4],zd (s (O 4 [ff]) (r (O 5 [m 0,m 1,ca 402 [5,6],gei 7 0,d 4 (m 8)])))⟩
def YA:WFn:=⟨1,[.tmp 2],zd (s (O 1 [bx 0,ff]) (r (O 3 [f 4 1,l 1 3,lti 4 1,m 5,z 6 (f 4 1),z 6 (l 1 7),z 6 (gti 8 2305843009213693952),po 6 9,d 2 (m 10)])))⟩
def Og:ay:=zd (r (O 2 [i 1]))
def yM:ay:=zd (s (s (O 7 [m 3,m 0,ln 0 8,lt 7 9]) (cc 10 (w .skip) (ee 0))) (s (B 1 (s (O 13 [m 0,m 3,E (.dX (T 13) (T 14)),E (.bin .lss (T 15) (.c (.int .u8 32))),m 16,z 17 (m 0),z 17 (m 3),z 17 (E (.dX (T 18) (T 19))),z 17 (E (.bin .gtr (T 20) (.c (.int .u8 126)))),po 17 21]) (c 22 (r (O 2 [i 0]))))) (O 11 [m 3,adi 11 1,d 3 (m 12)])))
def Lp:ay:=.loop ⟨true,[3,0],[]⟩ yM
def acJ:WFn:=⟨1,[.tmp 2],zd (s (O 2 [i 0]) (s (s (Q 4 [m 0,ln 0 4,gti 5 64] [6,0]) (c 6 (r (O 2 [i 0])))) (s (s (O 3 [i 0]) (bk 0 Lp ⟨true,[],[]⟩)) Og)))⟩
@[simp] theorem aoH:ZL Lp yM ⟨true,[3,0],[]⟩:=bf rfl
noncomputable abbrev Et (C:aG) (s:WSt):Option AV:=CK C 0 (aN [.tmp 2]) [.sq Lp,.bk 0 ⟨true,[],[]⟩,.sq Og] yM s
def Nr:ay:=zd (r (O 2 [i 1]))
def zO:ay:=zd (s (s (O 13 [m 3,m 0,ln 0 14,lt 13 15]) (cc 16 (w .skip) (ee 0))) (s (B 1 (s (Q 19 [m 0,m 3,E (.dX (T 19) (T 20)),d 4 (m 21)] [4,3,0]) (s (O 22 [m 4,E (.bin .geq (T 22) (.c (.int .u8 97))),m 23,y 24 (m 4),y 24 (E (.bin .leq (T 25) (.c (.int .u8 122)))),pa 24 26,m 27,z 28 (m 4),z 28 (E (.bin .geq (T 29) (.c (.int .u8 48)))),z 28 (m 30),y 31 (m 4),y 31 (E (.bin .leq (T 32) (.c (.int .u8 57)))),z 28 (pa 31 33),po 28 34,nt 35]) (c 36 (r (O 2 [i 0])))))) (O 17 [m 3,adi 17 1,d 3 (m 18)])))
def KO:ay:=.loop ⟨true,[3,0],[]⟩ zO
def X5:WFn:=⟨1,[.tmp 2],zd (s (O 2 [i 0]) (s (s (O 5 [m 0,ln 0 5,lti 6 1,m 7,z 8 (m 0),z 8 (ln 0 9),z 8 (gti 10 16),po 8 11]) (c 12 (r (O 2 [i 0])))) (s (s (O 3 [i 0]) (bk 0 KO ⟨true,[],[]⟩)) Nr)))⟩
@[simp] theorem anw:ZL KO zO ⟨true,[3,0],[]⟩:=bf rfl
noncomputable abbrev Ec (C:aG) (s:WSt):Option AV:=CK C 0 (aN [.tmp 2]) [.sq KO,.bk 0 ⟨true,[],[]⟩,.sq Nr] zO s
def NS:ay:=zd (r (O 2 [i 0]))
def zx:ay:=zd (s (s (O 19 [m 3,f 3 1,l 1 20,ln 1 21,lt 19 22]) (cc 23 (w .skip) (ee 0))) (s (B 1 (s (O 26 [f 3 1,l 1 26,m 3,ix 1 27 28,l 1 29,ca 557 [30],nt 31]) (c 32 (r (O 2 [i 6]))))) (O 24 [m 3,adi 24 1,d 3 (m 25)])))
def NG:ay:=.loop ⟨true,[3,1],[]⟩ zx
def Ua:WFn:=⟨1,[.tmp 2],zd (s (O 1 [bx 0,i 0]) (s (s (Q 4 [f 0 1,l 1 4,E (.bin .eql (T 5) (.c (.int .u64 0))),m 6,z 7 (f 2 1),z 7 (l 1 8),z 7 (ca 556 [9]),z 7 (nt 10),po 7 11,m 12,z 13 (f 3 1),z 13 (l 1 14),z 13 (ln 1 15),z 13 (gti 16 8),po 13 17] [18,1]) (c 18 (r (O 2 [i 6])))) (s (s (O 3 [i 0]) (bk 0 NG ⟨true,[],[]⟩)) NS)))⟩
@[simp] theorem aoJ:ZL NG zx ⟨true,[3,1],[]⟩:=bf rfl
noncomputable abbrev Fj (C:aG) (s:WSt):Option AV:=CK C 0 (aN [.tmp 2]) [.sq NG,.bk 0 ⟨true,[],[]⟩,.sq NS] zx s
def Ed:ay:=zd (r (O 89 [h 6 7,E (.aV [.int .u8 0,.str [],.str [],.ro 2 [] true,.str [],.ro 6 [] true] 1 [(0,T 89)]),d 4 (m 90)]))
def nR:ay:=zd (s (s (O 71 [m 8,f 5 2,l 1 72,ln 1 73,lt 71 74]) (cc 75 (w .skip) (ee 3))) (s (B 4 (V 78 [f 5 7,l 1 78,f 5 2,l 1 80,m 8,ix 6 81 82,h 6 83,h 4 3,ca 513 [84,85],E (.app [.int .u8 0,.str [],.str [],.ro 2 [] true,.str [],.ro 6 [] true] 104 false (T 79) (T 86)),f 5 7,n (st 1 88 87)] [(1,8)] ⟨false,[],[]⟩)) (O 76 [m 8,adi 76 1,d 8 (m 77)])))
def OI:ay:=.loop ⟨true,[8,7,3,2],[]⟩ nR
def Pg:ay:=zd (s (V 62 [f 1 2,l 1 62,f 2 2,l 1 64,f 3 2,l 1 66,h 4 3,ca 559 [67,68],E (.build [.int .u8 0,.str [],.str [],.ro 2 [] true,.str [],.ro 6 [] true] [(0,1,.c (.int .u8 1)),(1,1,T 63),(2,1,T 65),(3,1,T 69)]),d 7 (E (.alloc [.int .u8 0,.str [],.str [],.ro 2 [] true,.str [],.ro 6 [] true])),n (st 6 7 70)] [(1,7),(3,7),(1,9),(3,9),(5,9),(6,9),(7,9)] ⟨false,[],[]⟩) (s (s (Q 8 [i 0] [8,7,3,2]) (bk 3 OI ⟨true,[7],[]⟩)) Ed))
def kW:ay:=zd (r (O 61 [m 5,d 4 (m 61)]))
def jO:ay:=zd (s (s (O 32 [m 6,f 3 3,l 1 33,ln 1 34,lt 32 35]) (cc 36 (w .skip) (ee 1))) (s (B 2 (U 39 [m 5,f 1 2,l 1 40,f 3 3,l 1 42,m 6,ix 1 43 44,l 1 45,f 3 2,l 1 47,h 4 3,ca 559 [48,49],f 3 3,l 1 51,m 6,ix 1 52 53,l 1 54,E (.build [.int .u8 0,.str [],.str [],.ro 2 [] true,.str [],.ro 6 [] true] [(0,1,.c (.int .u8 2)),(4,1,T 55)]),E (.aV [.int .u8 0,.str [],.str [],.ro 2 [] true,.str [],.ro 6 [] true] 1 [(0,T 56)]),E (.build [.int .u8 0,.str [],.str [],.ro 2 [] true,.str [],.ro 6 [] true] [(0,1,.c (.int .u8 1)),(1,1,T 41),(2,1,T 46),(3,1,T 50),(5,1,T 57)]),E (.aV [.int .u8 0,.str [],.str [],.ro 2 [] true,.str [],.ro 6 [] true] 1 [(0,T 58)]),E (.app [.int .u8 0,.str [],.str [],.ro 2 [] true,.str [],.ro 6 [] true] 104 false (T 39) (T 59)),d 5 (m 60)] [(2,11),(4,11),(7,11),(11,13),(11,16),(2,18),(4,18),(7,18),(9,18),(10,18),(11,18)] [6,5,3,2])) (O 37 [m 6,adi 37 1,d 6 (m 38)])))
def Kt:ay:=.loop ⟨true,[6,5,3,2],[]⟩ jO
def SB:WFn:=⟨2,[.tmp 4],zd (s (O 2 [bx 0,bx 1,E (.mv (.c (.ro 6 [] true)))]) (s (s (O 9 [f 0 2,l 1 9]) (bk 0 (s (O 12 [E (.bin .eql (T 10) (.c (.int .u8 2))),d 11 (m 12)]) (cc 11 (r (O 13 [f 4 2,l 1 13,E (.build [.int .u8 0,.str [],.str [],.ro 2 [] true,.str [],.ro 6 [] true] [(0,1,.c (.int .u8 2)),(4,1,T 14)]),E (.aV [.int .u8 0,.str [],.str [],.ro 2 [] true,.str [],.ro 6 [] true] 1 [(0,T 15)]),d 4 (m 16)])) (s (O 18 [E (.bin .eql (T 10) (.c (.int .u8 3))),d 17 (m 18)]) (cc 17 (r (O 19 [f 2 3,l 1 19,E (.build [.int .u8 0,.str [],.str [],.ro 2 [] true,.str [],.ro 6 [] true] [(0,1,.c (.int .u8 2)),(4,1,T 20)]),E (.aV [.int .u8 0,.str [],.str [],.ro 2 [] true,.str [],.ro 6 [] true] 1 [(0,T 21)]),d 4 (m 22)])) (s (O 24 [E (.bin .eql (T 10) (.c (.int .u8 4))),d 23 (m 24)]) (cc 23 (r (Q 25 [f 0 3,l 1 25,ca 558 [26],E (.build [.int .u8 0,.str [],.str [],.ro 2 [] true,.str [],.ro 6 [] true] [(0,1,.c (.int .u8 2)),(4,1,T 27)]),E (.aV [.int .u8 0,.str [],.str [],.ro 2 [] true,.str [],.ro 6 [] true] 1 [(0,T 28)]),d 4 (m 29)] [4])) (s (O 31 [E (.bin .eql (T 10) (.c (.int .u8 5))),d 30 (m 31)]) (c 30 (s (R 5 [E (.mv (.c (.ro 6 [] true)))] ⟨true,[5,3,2],[(5,6)]⟩) (s (s (O 6 [i 0]) (bk 1 Kt ⟨true,[5],[]⟩)) kW)))))))))) ⟨true,[3,2],[]⟩)) Pg))⟩
@[simp] theorem an5:ZL OI nR ⟨true,[8,7,3,2],[]⟩:=bf rfl
noncomputable abbrev nI (C:aG) (s:WSt):Option AV:=CK C 0 (aN [.tmp 4]) [.sq OI,.bk 3 ⟨true,[7],[]⟩,.sq Ed] nR s
@[simp] theorem aoK:ZL Kt jO ⟨true,[6,5,3,2],[]⟩:=bf rfl
noncomputable abbrev cZ (C:aG) (s:WSt):Option AV:=CK C 0 (aN [.tmp 4]) [.sq Kt,.bk 1 ⟨true,[5],[]⟩,.sq kW,.bk 0 ⟨true,[3,2],[]⟩,.sq Pg] jO s
def ac8:WFn:=⟨1,[.tmp 2],zd (s (O 1 [bx 0,i 0]) (s (s (O 3 [h 6 1,ca 442 [3],eqi 4 0]) (c 5 (r (O 2 [i 14])))) (r (O 2 [i 0]))))⟩
def aaq:WFn:=⟨1,[.tmp 2],zd (s (O 1 [bx 0,i 0]) (s (O 4 [h 6 1,E (.call 520 [T 4,N 6]),d 3 (m 5)]) (s (s (O 6 [m 3,gti 6 64]) (c 7 (r (O 2 [i 0])))) (r (O 8 [m 3,d 2 (m 8)])))))⟩
def ags:WFn:=⟨1,[.tmp 2],zd (s (O 1 [bx 0,i 0]) (r (O 3 [E (.call 502 [T 1,.c (.fn 503 [])]),d 2 (m 3)])))⟩
def KN:ay:=zd (r (O 4 [i (-1)]))
def wG:ay:=zd (s (O 9 [lt 8 7]) (s (cc 9 (w .skip) (ee 0)) (s (B 1 (s (O 10 [m 8,d 5 (m 10)]) (s (O 11 [m 1,m 0,m 5,ix 9 12 13,h 9 14,E (.dU (T 11) [T 15])]) (c 16 (r (O 17 [m 5,d 4 (m 17)])))))) (O 18 [adi 8 1,d 8 (m 18)]))))
def Ko:ay:=.loop ⟨true,[8,7,1,0],[]⟩ wG
def agO:WFn:=⟨2,[.tmp 4],zd (s (O 4 [i 0]) (s (s (O 6 [m 0,ln 1 6,i 0]) (bk 0 Ko ⟨true,[],[]⟩)) KN))⟩
@[simp] theorem anV:ZL Ko wG ⟨true,[8,7,1,0],[]⟩:=bf rfl
noncomputable abbrev zf (C:aG) (s:WSt):Option AV:=CK C 0 (aN [.tmp 4]) [.sq Ko,.bk 0 ⟨true,[],[]⟩,.sq KN] wG s
def Zi:WFn:=⟨1,[.tmp 2],zd (s (O 1 [bx 0,i 0]) (s (O 4 [h 6 1,E (.call 550 [T 4,N 6]),d 3 (m 5)]) (s (s (O 6 [f 0 1,l 1 6,E (.bin .neq (T 7) (.c (.int .u8 1))),m 8,z 9 (m 3),z 9 (gti 10 64),po 9 11]) (c 12 (r (O 2 [i 0])))) (r (O 13 [m 3,d 2 (m 13)])))))⟩
def acs:WFn:=⟨1,[.tmp 1],zd (s (O 1 [ff]) (r (O 2 [f 2 0,l 1 2,ln 0 3,lei 4 64,m 5,y 6 (f 2 0),y 6 (l 1 7),y 6 (E (.call 495 [T 8,.c (.fn 496 [])])),y 6 (nt 9),pa 6 10,d 1 (m 11)])))⟩
def aau:WFn:=⟨2,[.tmp 4],zd (s (O 4 [ff]) (r (O 5 [m 0,m 1,ca 543 [5,6],gei 7 0,d 4 (m 8)])))⟩
def TM:WFn:=⟨1,[.tmp 2],zd (s (O 2 [ff]) (r (O 3 [m 0,E (.bin .lss (T 3) (.c (.int .i32 32))),m 4,z 5 (m 0),z 5 (E (.bin .gtr (T 6) (.c (.int .i32 126)))),po 5 7,d 2 (m 8)])))⟩
def adN:WFn:=⟨1,[.tmp 1],zd (s (O 1 [ff]) (r (O 2 [f 3 0,l 1 2,ln 1 3,lei 4 8,m 5,y 6 (f 3 0),y 6 (l 1 7),y 6 (E (.call 498 [T 8,.c (.fn 499 [])])),y 6 (nt 9),pa 6 10,d 1 (m 11)])))⟩
def acd:WFn:=⟨2,[.tmp 4],zd (s (O 4 [ff]) (r (O 5 [m 0,m 1,ca 544 [5,6],gei 7 0,d 4 (m 8)])))⟩
def aen:WFn:=⟨1,[.tmp 2],zd (s (O 2 [ff]) (r (O 3 [m 0,ca 500 [3],nt 4,d 2 (m 5)])))⟩
def Zg:WFn:=⟨1,[.tmp 2],zd (s (O 2 [ff]) (s (O 3 [E (.mv (.c (.fn 545 [])))]) (r (O 4 [m 0,E (.bin .neq (T 4) (.c (.str []))),m 5,y 6 (m 0),y 6 (ln 0 7),y 6 (lei 8 16),pa 6 9,m 10,y 11 (m 0),y 11 (m 3),y 11 (ca 495 [12,13]),y 11 (nt 14),pa 11 15,d 2 (m 16)]))))⟩
def IL:WFn:=⟨3,[.cell 6 6 true,.tmp 7],zd (s (O 6 [d 3 (bx 0),d 4 (bx 1),E (.alloc [.int .u8 0,.str [],.str [],.ro 2 [] true,.str [],.ro 6 [] true]),i 0]) (s (s (Q 12 [m 2,lti 12 1,m 13,z 14 (m 2),z 14 (gti 15 64),po 14 16] [17,6,4,3,2]) (c 17 (r (O 18 [E (.build [.int .u8 0,.str [],.str [],.ro 2 [] true,.str [],.ro 6 [] true] []),n (st 6 6 18),d 7 (i 1)])))) (s (s (O 19 [h 6 3,ca 231 [19],d 8 (m 20)]) (s (O 21 [m 8,nei 21 0]) (c 22 (r (O 23 [E (.build [.int .u8 0,.str [],.str [],.ro 2 [] true,.str [],.ro 6 [] true] []),m 8,n (st 6 6 23),d 7 (m 24)]))))) (s (s (O 25 [h 4 4,ca 546 [25],d 9 (m 26)]) (s (O 27 [m 9,nei 27 0]) (c 28 (r (O 29 [E (.build [.int .u8 0,.str [],.str [],.ro 2 [] true,.str [],.ro 6 [] true] []),m 9,n (st 6 6 29),d 7 (m 30)]))))) (s (Q 31 [h 4 4,E (.build [.int .u64 0,.int .u8 0,.str [],.ro 1 [] true] [(0,4,T 31)]),h 6 3,E (.aV [.int .u8 0,.str [],.str [],.ro 3 [] true,.str [],.ro 6 [] true] 1 [(0,T 33)]),ca 547 [32,34],E (.idxs 6 (T 35) (N 0)),h 6 36,d 10 (E (.alloc [.int .u8 0,.str [],.str [],.ro 2 [] true,.str [],.ro 6 [] true])),n (st 6 10 37)] [10,6,2]) (s (s (O 38 [h 6 10,ca 140 [38],d 11 (m 39)]) (s (O 40 [m 11,eqi 40 0,m 41,z 42 (m 11),z 42 (m 2),z 42 (gt 43 44),po 42 45]) (c 46 (r (O 47 [E (.build [.int .u8 0,.str [],.str [],.ro 2 [] true,.str [],.ro 6 [] true] []),n (st 6 6 47),d 7 (i 14)]))))) (r (O 48 [h 6 10,n (st 6 6 48),d 7 (i 0)]))))))))⟩
def Jm:WFn:=⟨2,[.tmp 4,.tmp 5],zd (s (O 4 [i 0,ff]) (s (s (O 7 [m 0,ca 1102 [7],eqi 8 0]) (c 9 (r (Q 4 [i 0,ff] [5,4])))) (s (O 11 [m 0,m 1,ca 1191 [11,12],d 10 (m 13),ex 0 10,ex 1 10,d 6 (m 14),d 5 (m 15)]) (s (s (O 16 [m 5,nt 16]) (c 17 (r (O 4 [i 0,ff])))) (r (O 18 [m 0,nk 18,f 0 19,l 1 20,m 6,ix 3 21 22,f 2 23,l 1 24,d 4 (m 25),d 5 tt]))))))⟩
def w99:WFn:=⟨3,[.tmp 6],zd (s (O 6 [i 0]) (s (B 0 (s (O 12 [m 0,E (.eqv 2 [] false (T 12) (.c .dP)),d 11 (m 13)]) (cc 11 (r (O 6 [i 2])) (s (O 15 [m 1,E (.bin .eql (T 15) (.c (.int .u64 0))),d 14 (m 16)]) (c 14 (r (O 6 [i 9]))))))) (s (s (Q 17 [m 0,nk 17,f 0 18,l 1 19,ln 1 20,gti 21 0] [22,2,1,0]) (c 22 (s (O 24 [m 0,m 1,ca 1191 [24,25],d 23 (m 26),ex 0 23,ex 1 23,d 7 (m 27),d 8 (m 28)]) (s (O 29 [m 8]) (c 29 (s (O 30 [m 0,nk 30,f 0 31,l 1 32,m 7,m 2,ix 3 33 34,f 2 36,n (st 1 37 35)]) (r (O 6 [i 0])))))))) (s (s (Q 38 [m 0,nk 38,f 1 39,l 1 40,eqi 41 4096] [42,2,1,0]) (c 42 (r (O 6 [i 3])))) (s (s (V 43 [m 0,nk 43,f 1 44,l 1 45,m 0,nk 47,f 2 48,l 1 49,ad 46 50,adi 51 1,E (.bin .mul (N 4) (T 52)),m 0,nk 54,f 0 55,l 1 56,ln 1 57,E (.bin .mul (N 3) (T 58)),gt 53 59] [] ⟨false,[],[]⟩) (c 60 (Q 61 [m 0,m 0,nk 62,f 1 63,l 1 64,adi 65 1,ca 192 [61,66]] [2,1,0]))) (s (O 69 [m 0,m 1,ca 1191 [69,70],d 68 (m 71),ex 0 68,ex 1 68,d 9 (m 72),d 10 (m 73)]) (s (s (O 74 [m 0,nk 74,f 0 75,l 1 76,m 9,ix 3 77 78,f 0 79,l 1 80,E (.bin .eql (T 81) (.c (.int .u8 2)))]) (c 82 (Q 83 [m 0,nk 83,f 2 84,l 1 85,sbi 86 1,nk 83,f 2 88,n (st 1 89 87)] [9,2,1,0]))) (s (O 90 [m 0,nk 90,f 0 91,l 1 92,m 9,m 1,m 2,E (.build [.int .u8 0,.int .u64 0,.int .i64 0] [(0,1,.c (.int .u8 1)),(1,1,T 95),(2,1,T 96)]),ix 3 93 94,n (st 3 98 97)]) (s (O 99 [m 0,nk 99,f 1 100,l 1 101,adi 102 1,nk 99,f 1 104,n (st 1 105 103)]) (r (O 6 [i 0])))))))))))⟩
def IJ:ay:=zd (s (V 64 [f 4 5,l 1 64,h 2 3,f 2 5,l 1 67,ca 400 [66,68],E (.dU (T 65) [T 69]),ca 3004 [70],d 12 (E (.alloc [.ro 6 [] true])),n (st 1 12 71)] [(1,5),(1,8),(2,8),(4,8),(5,8),(6,8),(7,8)] ⟨false,[],[]⟩) (s (s (O 72 [h 1 12,ca 227 [72],d 13 (m 73)]) (s (O 74 [m 13,nei 74 0]) (c 75 (r (O 76 [E (.build [.ro 6 [] true] []),m 13,n (st 1 6 76),d 7 (m 77)]))))) (r (O 78 [h 1 12,n (st 1 6 78),d 7 (i 0)]))))
def AU:ay:=zd (s (O 35 [lt 34 33]) (s (cc 35 (w .skip) (ee 1)) (s (B 2 (s (O 36 [m 34,ix 4 32 34,h 4 37,d 10 (E (.alloc [.int .u64 0,.int .u8 0,.str [],.ro 1 [] true])),d 9 (m 36),n (st 4 10 38)]) (s (Q 39 [h 4 10,f 0 3,l 1 40,ln 1 41,ca 398 [39,42],d 11 (m 43)] [34,33,32,11,10,9,6,5,3]) (s (s (O 44 [m 11,eqi 44 0]) (c 45 (O 46 [f 3 5,l 1 46,m 9,h 4 10,E (.dU (T 47) [T 48,T 49]),d 11 (m 50)]))) (s (s (O 51 [m 11,eqi 51 0]) (c 52 (O 54 [h 2 3,h 4 10,ca 399 [54,55],d 53 (m 56),ex 0 53,ex 1 53,d 11 (m 58)]))) (s (O 59 [m 11,nei 59 0]) (c 60 (r (O 61 [E (.build [.ro 6 [] true] []),m 11,n (st 1 6 61),d 7 (m 62)]))))))))) (Q 63 [adi 34 1,d 34 (m 63)] [34,33,32,6,5,3]))))
def Rz:ay:=.loop ⟨true,[34,33,32,6,5,3],[]⟩ AU
def Sr:WFn:=⟨3,[.cell 6 1 true,.tmp 7],zd (s (O 3 [bx 0,bx 1,bx 2,E (.alloc [.ro 6 [] true]),i 0]) (s (s (O 14 [h 2 3,h 1 4,ca 223 [14,15],d 8 (m 16)]) (s (O 17 [m 8,nei 17 0]) (c 18 (r (O 19 [E (.build [.ro 6 [] true] []),m 8,n (st 1 6 19),d 7 (m 20)]))))) (s (B 0 (s (Q 22 [f 0 5,l 1 22,nt 23,d 21 (m 24)] [21,6,5,3]) (cc 21 (r (O 25 [E (.build [.ro 6 [] true] []),n (st 1 6 25),d 7 (i 4)])) (s (O 27 [f 1 5,l 1 27,gti 28 1024,d 26 (m 29)]) (c 26 (r (O 30 [E (.build [.ro 6 [] true] []),n (st 1 6 30),d 7 (i 3)]))))))) (s (s (O 31 [f 2 5,l 1 31,ln 1 32,i 0]) (bk 1 Rz ⟨true,[6,5,3],[]⟩)) IJ))))⟩
@[simp] theorem alC:ZL Rz AU ⟨true,[34,33,32,6,5,3],[]⟩:=bf rfl
def ZR:WFn:=⟨3,[.tmp 6],zd (s (O 6 [ff]) (r (O 7 [m 0,gei 7 0,m 8,y 9 (m 0),y 9 (m 2),y 9 (le 10 11),pa 9 12,m 13,y 14 (m 1),y 14 (gei 15 0),pa 14 16,m 17,y 18 (m 1),y 18 (m 2),y 18 (m 0),y 18 (sb 20 21),y 18 (le 19 22),pa 18 23,d 6 (m 24)])))⟩
def aez:WFn:=⟨4,[.tmp 5],zd (s (O 5 [E (.mv (.c (.ro 6 [] true)))]) (r (O 6 [f 0 1,l 1 6,l 1 2,l 1 3,E (.call 221 [T 7,T 8,T 9,.c (.ro 6 [] true)]),d 5 (m 10)])))⟩
def aeJ:WFn:=⟨4,[.tmp 8],zd (s (O 8 [E (.mv (.c (.ro 6 [] true)))]) (s (Q 10 [m 0,ln 1 10,m 2,sb 11 12,m 3,ln 1 14,ad 13 15,E (.mX [.int .u64 0,.int .u8 0,.str [],.ro 1 [] true,.int .i64 0,.bool false] 72 (N 0) (T 16)),d 9 (m 17)] [9,3,2,1,0]) (s (O 18 [m 9,m 0,m 1,E (.slice 6 (T 19) none (some (T 20)) none),E (.app [.int .u64 0,.int .u8 0,.str [],.ro 1 [] true,.int .i64 0,.bool false] 72 false (T 18) (T 21)),d 9 (m 22)]) (s (O 23 [m 9,m 3,E (.app [.int .u64 0,.int .u8 0,.str [],.ro 1 [] true,.int .i64 0,.bool false] 72 false (T 23) (T 24)),d 9 (m 25)]) (r (O 26 [m 9,m 0,m 1,m 2,ad 28 29,E (.slice 6 (T 27) (some (T 30)) none none),E (.app [.int .u64 0,.int .u8 0,.str [],.ro 1 [] true,.int .i64 0,.bool false] 72 false (T 26) (T 31)),d 8 (m 32)]))))))⟩
def aeS:WFn:=⟨2,[.tmp 4],zd (s (O 4 [d 2 (bx 0),i 0]) (s (s (O 6 [h 1 2,ca 122 [6],d 5 (m 7)]) (s (O 8 [m 5,nei 8 0]) (c 9 (r (O 10 [m 5,d 4 (m 10)]))))) (s (s (O 11 [m 1,lti 11 1,m 12,z 13 (m 1),z 13 (gti 14 2147483648),po 13 15]) (c 16 (r (O 4 [i 1])))) (r (O 4 [i 0])))))⟩
def aer:WFn:=⟨3,[.tmp 6,.tmp 7],zd (s (O 6 [d 3 (bx 0),i 0,i 0]) (s (s (O 9 [h 1 3,m 1,ca 322 [9,10],d 8 (m 11)]) (s (O 12 [m 8,nei 12 0]) (c 13 (r (O 6 [d 14 (m 8),i 0,m 14]))))) (r (O 15 [m 2,h 1 3,ca 111 [16],m 1,sb 17 18,E (.mn (T 15) (T 19)),E (.mx (N 0) (T 20)),d 6 (m 21),d 7 (i 0)]))))⟩
def Ea:ay:=zd (r (O 25 [m 5,d 4 (m 25)]))
def rX:ay:=zd (s (s (O 9 [m 5,m 6,lt 9 10]) (cc 11 (w .skip) (ee 0))) (B 1 (s (O 12 [m 5,m 6,ad 12 13,E (.cvt .u64 (T 14)),E (.bin .shr (T 15) (.c (.int .u64 1))),E (.cvt .i64 (T 16)),d 7 (m 17)]) (s (O 18 [m 1,m 7,E (.dU (T 18) [T 19]),nt 20]) (cc 21 (O 22 [m 7,adi 22 1,d 5 (m 23)]) (O 24 [m 7,d 6 (m 24)]))))))
def Oq:ay:=.loop ⟨true,[6,5,1],[]⟩ rX
def afE:WFn:=⟨2,[.tmp 4],zd (s (O 4 [i 0]) (s (Q 5 [d 8 (m 0),i 0,m 8] [6,5,1]) (s (bk 0 Oq ⟨true,[5],[]⟩) Ea)))⟩
@[simp] theorem aoZ:ZL Oq rX ⟨true,[6,5,1],[]⟩:=bf rfl
noncomputable abbrev vU (C:aG) (s:WSt):Option AV:=CK C 0 (aN [.tmp 4]) [.sq Oq,.bk 0 ⟨true,[5],[]⟩,.sq Ea] rX s
def agA:WFn:=⟨3,[.tmp 4],zd (s (O 4 [ff]) (r (V 5 [l 1 1,m 0,adi 6 1,ix 1 5 7,l 1 8,l 1 2,gt 9 10,d 4 (m 11)] [] ⟨false,[],[]⟩)))⟩
def OJ:ay:=zd (r (O 27 [m 0,ca 407 [27],d 2 (m 28)]))
def qP:ay:=zd (s (s (Q 7 [m 3,m 0,ln 1 8,lt 7 9] [10,3,0]) (cc 10 (w .skip) (ee 0))) (s (B 1 (s (O 13 [m 0,m 3,ix 6 13 14,f 4 15,l 1 16,lti 17 1,m 18,z 19 (m 0),z 19 (m 3),z 19 (ix 6 20 21),z 19 (f 4 22),z 19 (l 1 23),z 19 (gti 24 2305843009213693952),po 19 25]) (c 26 (r (O 2 [i 12]))))) (O 11 [m 3,adi 11 1,d 3 (m 12)])))
def Oh:ay:=.loop ⟨true,[3,0],[]⟩ qP
def abp:WFn:=⟨1,[.tmp 2],zd (s (O 2 [i 0]) (s (s (O 4 [m 0,ln 1 4,gti 5 1024]) (c 6 (r (O 2 [i 3])))) (s (s (O 3 [i 0]) (bk 0 Oh ⟨true,[0],[]⟩)) OJ)))⟩
@[simp] theorem an3:ZL Oh qP ⟨true,[3,0],[]⟩:=bf rfl
noncomputable abbrev uZ (C:aG) (s:WSt):Option AV:=CK C 0 (aN [.tmp 2]) [.sq Oh,.bk 0 ⟨true,[0],[]⟩,.sq OJ] qP s
def Kr:WFn:=⟨3,[.tmp 6],zd (s (O 6 [i 0]) (s (s (Q 7 [m 0,ca 251 [7],gti 8 0] [9,2,1,0]) (c 9 (r (O 10 [m 0,ca 251 [10],d 6 (m 11)])))) (s (s (O 12 [m 2,lti 12 1,m 13,z 14 (m 2),z 14 (gti 15 2147483648),po 14 16]) (c 17 (r (O 6 [i 1])))) (s (s (O 18 [m 1,lti 18 0,m 19,z 20 (m 1),z 20 (m 0),z 20 (m 2),z 20 (ca 327 [22,23]),z 20 (gt 21 24),po 20 25]) (c 26 (r (O 6 [i 4])))) (r (O 6 [i 0]))))))⟩
def YE:WFn:=⟨4,[.tmp 8],zd (s (O 8 [i 0]) (s (s (O 9 [m 0,m 3,ca 253 [9,10],m 1,m 2,ad 12 13,lt 11 14,m 15,y 16 (m 0),y 16 (m 3),y 16 (adi 18 1),y 16 (ca 253 [17,19]),y 16 (m 1),y 16 (gt 20 21),pa 16 22]) (c 23 (r (O 8 [i 1])))) (r (O 8 [i 0]))))⟩
def afc:WFn:=⟨2,[.tmp 4],zd (s (O 2 [bx 0,bx 1,i 0]) (s (s (O 5 [f 0 2,l 1 5,f 0 3,f 1 7,l 1 8,ix 9 6 9,f 7 10,l 1 11]) (c 12 (r (O 4 [i 1])))) (r (O 4 [i 0]))))⟩
def Zf:WFn:=⟨3,[.tmp 6,.tmp 7,.tmp 8],zd (s (Q 6 [d 3 (bx 0),i 0,i 0,i 0] [3,2,1]) (s (s (O 13 [h 1 3,m 1,m 2,ca 248 [13,14,15],d 9 (m 16)]) (s (O 17 [m 9,nei 17 0]) (c 18 (r (O 6 [d 19 (m 9),i 0,i 0,m 19]))))) (s (O 21 [h 1 3,ca 246 [21],d 20 (m 22),ex 0 20,ex 1 20,d 10 (m 23),d 11 (m 24)]) (s (s (O 25 [m 10,ln 1 25,eqi 26 1]) (c 27 (r (Q 6 [i 0,i 0,i 0] [8,7,6])))) (s (O 28 [m 1,m 2,ad 28 29,m 10,m 10,ln 1 32,sbi 33 1,ix 1 31 34,l 1 35,E (.mn (T 30) (T 36)),d 12 (m 37)]) (r (O 38 [m 10,m 1,ca 247 [38,39],m 10,m 12,sbi 42 1,ca 247 [41,43],adi 44 1,d 6 (m 40),d 7 (m 45),d 8 (i 0)])))))))⟩
def N9:ay:=zd (r (O 2 [tt]))
def zG:ay:=zd (s (s (O 7 [m 3,m 0,ln 0 8,lt 7 9]) (cc 10 (w .skip) (ee 0))) (s (B 1 (s (O 13 [m 0,m 3,E (.dX (T 13) (T 14)),E (.bin .lss (T 15) (.c (.int .u8 32))),m 16,z 17 (m 0),z 17 (m 3),z 17 (E (.dX (T 18) (T 19))),z 17 (E (.bin .gtr (T 20) (.c (.int .u8 126)))),po 17 21]) (c 22 (r (O 2 [ff]))))) (O 11 [m 3,adi 11 1,d 3 (m 12)])))
def Nk:ay:=.loop ⟨true,[3,0],[]⟩ zG
def aaJ:WFn:=⟨1,[.tmp 2],zd (s (O 2 [ff]) (s (s (Q 4 [m 0,ln 0 4,gti 5 64] [6,0]) (c 6 (r (O 2 [ff])))) (s (s (O 3 [i 0]) (bk 0 Nk ⟨true,[],[]⟩)) N9)))⟩
@[simp] theorem an0:ZL Nk zG ⟨true,[3,0],[]⟩:=bf rfl
noncomputable abbrev ER (C:aG) (s:WSt):Option AV:=CK C 0 (aN [.tmp 2]) [.sq Nk,.bk 0 ⟨true,[],[]⟩,.sq N9] zG s
def xJ:ay:=zd (r (O 36 [m 0,ln 0 36,gei 37 1,m 38,y 39 (m 0),y 39 (ln 0 40),y 39 (lei 41 16),pa 39 42,d 2 (m 43)]))
def Ar:ay:=zd (s (s (O 4 [m 3,m 0,ln 0 5,lt 4 6,m 7,y 8 (m 3),y 8 (lti 9 17),pa 8 10]) (cc 11 (w .skip) (ee 0))) (s (B 1 (s (Q 14 [m 0,m 3,E (.dX (T 14) (T 15)),E (.bin .lss (T 16) (.c (.int .u8 97))),m 17,z 18 (m 0),z 18 (m 3),z 18 (E (.dX (T 19) (T 20))),z 18 (E (.bin .gtr (T 21) (.c (.int .u8 122)))),po 18 22,m 23,y 24 (m 0),y 24 (m 3),y 24 (E (.dX (T 25) (T 26))),y 24 (E (.bin .lss (T 27) (.c (.int .u8 48)))),y 24 (m 28),z 29 (m 0),z 29 (m 3),z 29 (E (.dX (T 30) (T 31))),z 29 (E (.bin .gtr (T 32) (.c (.int .u8 57)))),y 24 (po 29 33),pa 24 34] [35,3,0]) (c 35 (r (O 2 [ff]))))) (O 12 [m 3,adi 12 1,d 3 (m 13)])))
def Nz:ay:=.loop ⟨true,[3,0],[]⟩ Ar
def ahf:WFn:=⟨1,[.tmp 2],zd (s (O 2 [ff]) (s (s (O 3 [i 0]) (bk 0 Nz ⟨true,[0],[]⟩)) xJ))⟩
@[simp] theorem apk:ZL Nz Ar ⟨true,[3,0],[]⟩:=bf rfl
noncomputable abbrev FX (C:aG) (s:WSt):Option AV:=CK C 0 (aN [.tmp 2]) [.sq Nz,.bk 0 ⟨true,[0],[]⟩,.sq xJ] Ar s
def acN:WFn:=⟨1,[.tmp 2],zd (s (O 2 [E (.mv (.c (.str [])))]) (s (s (O 3 [m 0,E (.bin .lss (T 3) (.c (.int .u64 10)))]) (c 4 (r (O 5 [m 0,m 0,E (.bin .add (T 6) (.c (.int .u64 1))),E (.slice 0 (.c (.str [48,49,50,51,52,53,54,55,56,57])) (some (T 5)) (some (T 7)) none),d 2 (m 8)])))) (r (O 9 [m 0,E (.bin .quo (T 9) (.c (.int .u64 10))),ca 558 [10],m 0,E (.bin .rem (T 12) (.c (.int .u64 10))),ca 558 [13],ad 11 14,d 2 (m 15)]))))⟩
def Ef:ay:=zd (r (O 50 [m 5,d 4 (m 50)]))
def Bv:ay:=zd (s (s (O 8 [m 6,m 0,ln 1 9,lt 8 10]) (cc 11 (w .skip) (ee 0))) (s (B 1 (s (O 14 [m 0,m 6,ix 3 14 15,f 2 16,l 1 17,d 7 (m 18)]) (s (s (O 19 [m 0,m 6,ix 3 19 20,f 1 21,l 1 22]) (B 2 (s (O 25 [E (.bin .eql (T 23) (.c (.int .u8 1))),d 24 (m 25)]) (cc 24 (O 26 [f 2 3,l 1 26,d 7 (m 27)]) (s (O 29 [E (.bin .eql (T 23) (.c (.int .u8 2))),d 28 (m 29)]) (cc 28 (O 30 [f 0 3,l 1 30,ca 558 [31],d 7 (m 32)]) (s (O 34 [E (.bin .eql (T 23) (.c (.int .u8 3))),d 33 (m 34)]) (c 33 (Q 35 [f 3 3,l 1 35,ln 1 36,E (.cvt .u64 (T 37)),ca 558 [38],d 7 (m 39)] [7,6,5,3,0]))))))))) (O 40 [m 5,m 0,m 6,ix 3 41 42,f 0 43,l 1 44,m 7,E (.build [.str [],.str []] [(0,1,T 45),(1,1,T 46)]),E (.aV [.str [],.str []] 1 [(0,T 47)]),E (.app [.str [],.str []] 32 false (T 40) (T 48)),d 5 (m 49)])))) (O 12 [m 6,adi 12 1,d 6 (m 13)])))
def Ls:ay:=.loop ⟨true,[6,5,3,0],[]⟩ Bv
def afS:WFn:=⟨2,[.tmp 4],zd (s (Q 3 [bx 1,E (.mv (.c (.ro 2 [] true)))] [3,0]) (s (R 5 [E (.mv (.c (.ro 2 [] true)))] ⟨true,[5,3,0],[(5,2)]⟩) (s (s (O 6 [i 0]) (bk 0 Ls ⟨true,[5],[]⟩)) Ef)))⟩
@[simp] theorem an1:ZL Ls Bv ⟨true,[6,5,3,0],[]⟩:=bf rfl
noncomputable abbrev Fb (C:aG) (s:WSt):Option AV:=CK C 0 (aN [.tmp 4]) [.sq Ls,.bk 0 ⟨true,[5],[]⟩,.sq Ef] Bv s
def Eh:ay:=zd (r (O 35 [m 5,d 4 (m 35)]))
def wU:ay:=zd (s (s (Q 14 [m 6,f 5 2,l 1 15,ln 1 16,lt 14 17,m 18,y 19 (m 5),y 19 (lei 20 64),pa 19 21] [22,6,5,2,1]) (cc 22 (w .skip) (ee 0))) (s (B 1 (O 25 [m 5,f 5 2,l 1 26,m 6,ix 6 27 28,h 6 29,m 1,sbi 31 1,ca 520 [30,32],ad 25 33,d 5 (m 34)])) (O 23 [m 6,adi 23 1,d 6 (m 24)])))
def MP:ay:=.loop ⟨true,[6,5,2,1],[]⟩ wU
def Zz:WFn:=⟨2,[.tmp 4],zd (s (O 4 [d 2 (bx 0),i 0]) (s (s (O 7 [m 1,lti 7 1,m 8,z 9 (h 6 2),z 9 (ca 563 [10]),z 9 (nt 11),po 9 12]) (c 13 (r (O 4 [i 1000])))) (s (O 5 [i 1]) (s (s (O 6 [i 0]) (bk 0 MP ⟨true,[5],[]⟩)) Eh))))⟩
@[simp] theorem aoa:ZL MP wU ⟨true,[6,5,2,1],[]⟩:=bf rfl
noncomputable abbrev zK (C:aG) (s:WSt):Option AV:=CK C 0 (aN [.tmp 4]) [.sq MP,.bk 0 ⟨true,[5],[]⟩,.sq Eh] wU s
def aaA:WFn:=⟨2,[.tmp 4],zd (s (O 3 [bx 1,i 0]) (s (s (O 7 [m 0,nk 7,f 0 8,l 1 9,E (.bin .neq (T 10) (.c (.int .u8 1)))]) (c 11 (r (O 4 [i 0])))) (s (O 5 [E (.alloc [.int .i64 0]),n (E (.store 1 (T 5) (N 0)))]) (s (O 6 [E (.alloc [.dK])]) (s (O 12 [E (.jK 548 [T 5,T 3,T 6]),n (st 1 6 12)]) (s (s (O 13 [l 1 6,m 0,E (.dU (T 13) [T 14,N 1]),nt 15]) (c 16 (r (O 4 [i 0])))) (r (O 17 [l 1 5,d 4 (m 17)]))))))))⟩
def afT:WFn:=⟨1,[],zd (w .skip)⟩
def Fv:ay:=zd (r (O 35 [m 5,d 4 (m 35)]))
def wM:ay:=zd (s (s (Q 14 [m 6,f 5 2,l 1 15,ln 1 16,lt 14 17,m 18,y 19 (m 5),y 19 (lei 20 64),pa 19 21] [22,6,5,2,1]) (cc 22 (w .skip) (ee 0))) (s (B 1 (O 25 [m 5,f 5 2,l 1 26,m 6,ix 6 27 28,h 6 29,m 1,sbi 31 1,ca 550 [30,32],ad 25 33,d 5 (m 34)])) (O 23 [m 6,adi 23 1,d 6 (m 24)])))
def OU:ay:=.loop ⟨true,[6,5,2,1],[]⟩ wM
def XP:WFn:=⟨2,[.tmp 4],zd (s (O 4 [d 2 (bx 0),i 0]) (s (s (O 7 [m 1,lti 7 1,m 8,z 9 (h 6 2),z 9 (ca 586 [10]),z 9 (nt 11),po 9 12]) (c 13 (r (O 4 [i 1000])))) (s (O 5 [i 1]) (s (s (O 6 [i 0]) (bk 0 OU ⟨true,[5],[]⟩)) Fv))))⟩
@[simp] theorem aoF:ZL OU wM ⟨true,[6,5,2,1],[]⟩:=bf rfl
noncomputable abbrev Ae (C:aG) (s:WSt):Option AV:=CK C 0 (aN [.tmp 4]) [.sq OU,.bk 0 ⟨true,[5],[]⟩,.sq Fv] wM s
def afa:WFn:=⟨2,[.tmp 4],zd (s (O 4 [i 0]) (r (O 5 [m 0,m 1,E (.call 578 [T 5,T 6,.c (.bool true)]),d 4 (m 7)])))⟩
def OD:ay:=zd (r (O 4 [i (-1)]))
def xE:ay:=zd (s (O 9 [lt 8 7]) (s (cc 9 (w .skip) (ee 0)) (s (B 1 (s (O 10 [m 8,d 5 (m 10)]) (s (O 11 [m 1,m 0,m 5,ix 1 12 13,l 1 14,E (.dU (T 11) [T 15])]) (c 16 (r (O 17 [m 5,d 4 (m 17)])))))) (O 18 [adi 8 1,d 8 (m 18)]))))
def OH:ay:=.loop ⟨true,[8,7,1,0],[]⟩ xE
def ael:WFn:=⟨2,[.tmp 4],zd (s (O 4 [i 0]) (s (s (O 6 [m 0,ln 1 6,i 0]) (bk 0 OH ⟨true,[],[]⟩)) OD))⟩
@[simp] theorem anD:ZL OH xE ⟨true,[8,7,1,0],[]⟩:=bf rfl
noncomputable abbrev zD (C:aG) (s:WSt):Option AV:=CK C 0 (aN [.tmp 4]) [.sq OH,.bk 0 ⟨true,[],[]⟩,.sq OD] xE s
def YZ:WFn:=⟨1,[.tmp 2],zd (s (O 2 [ff]) (r (O 3 [m 0,E (.bin .lss (T 3) (.c (.int .i32 97))),m 4,z 5 (m 0),z 5 (E (.bin .gtr (T 6) (.c (.int .i32 122)))),po 5 7,m 8,y 9 (m 0),y 9 (E (.bin .lss (T 10) (.c (.int .i32 48)))),y 9 (m 11),z 12 (m 0),z 12 (E (.bin .gtr (T 13) (.c (.int .i32 57)))),y 9 (po 12 14),pa 9 15,d 2 (m 16)])))⟩
def Ut:WFn:=⟨1,[.tmp 2],zd (s (Q 1 [bx 0,i 0] [1]) (s (s (O 3 [f 0 1,l 1 3,E (.bin .eql (T 4) (.c (.int .u64 0))),m 5,z 6 (f 2 1),z 6 (l 1 7),z 6 (ca 579 [8]),z 6 (nt 9),po 6 10,m 11,z 12 (f 3 1),z 12 (l 1 13),z 12 (ln 1 14),z 12 (gti 15 8),po 12 16,m 17,z 18 (f 3 1),z 18 (l 1 19),z 18 (E (.call 498 [T 20,.c (.fn 580 [])])),po 18 21]) (c 22 (r (O 2 [i 6])))) (r (O 2 [i 0]))))⟩
def Ad:ay:=zd (r (O 81 [m 5,d 4 (m 81)]))
def qg:ay:=zd (O 80 [adi 12 1,d 12 (m 80)])
def Ak:ay:=zd (s (O 66 [lt 65 64]) (s (cc 66 (w .skip) (ee 3)) (s (B 4 (s (O 67 [ix 1 63 65,l 1 67,d 9 (m 68)]) (U 69 [m 5,h 4 2,h 6 7,m 9,m 9,ca 583 [73],E (.aV [.int .u8 0,.str [],.str [],.ro 2 [] true,.str [],.ro 6 [] true] 1 [(0,T 74)]),ca 582 [70,71,72,75],E (.aV [.int .u8 0,.str [],.str [],.ro 2 [] true,.str [],.ro 6 [] true] 1 [(0,T 76)]),E (.app [.int .u8 0,.str [],.str [],.ro 2 [] true,.str [],.ro 6 [] true] 104 false (T 69) (T 77)),d 5 (m 78)] [(1,5),(2,5),(1,6),(2,6)] [65,64,63,12,11,10,7,5,2]))) (O 79 [adi 65 1,d 65 (m 79)]))))
def OC:ay:=.loop ⟨true,[65,64,63,12,11,10,7,5,2],[]⟩ Ak
def nS:ay:=zd (s (O 13 [lt 12 11]) (s (cc 13 (w .skip) (ee 0)) (s (bk 1 (s (Q 14 [ix 6 10 12,h 6 14,d 7 (E (.alloc [.int .u8 0,.str [],.str [],.ro 3 [] true,.str [],.ro 6 [] true])),n (st 6 7 15)] [12,11,10,7,5,2]) (s (O 16 [f 0 7,l 1 16]) (bk 2 (s (O 19 [E (.bin .eql (T 17) (.c (.int .u8 1))),d 18 (m 19)]) (cc 18 (V 20 [m 5,h 4 2,h 6 7,f 2 7,l 1 23,h 4 2,f 5 7,l 1 26,ca 547 [25,27],ca 582 [21,22,24,28],E (.aV [.int .u8 0,.str [],.str [],.ro 2 [] true,.str [],.ro 6 [] true] 1 [(0,T 29)]),E (.app [.int .u8 0,.str [],.str [],.ro 2 [] true,.str [],.ro 6 [] true] 104 false (T 20) (T 30)),d 5 (m 31)] [(1,8),(2,8),(4,8)] ⟨false,[],[]⟩) (s (O 33 [E (.bin .eql (T 17) (.c (.int .u8 2))),d 32 (m 33)]) (cc 32 (Q 34 [m 5,f 4 7,l 1 35,ca 583 [36],E (.aV [.int .u8 0,.str [],.str [],.ro 2 [] true,.str [],.ro 6 [] true] 1 [(0,T 37)]),E (.app [.int .u8 0,.str [],.str [],.ro 2 [] true,.str [],.ro 6 [] true] 104 false (T 34) (T 38)),d 5 (m 39)] [12,11,10,5,2]) (s (O 41 [E (.bin .eql (T 17) (.c (.int .u8 3))),d 40 (m 41)]) (cc 40 (O 42 [m 5,f 0 2,f 2 43,l 1 44,ca 583 [45],E (.aV [.int .u8 0,.str [],.str [],.ro 2 [] true,.str [],.ro 6 [] true] 1 [(0,T 46)]),E (.app [.int .u8 0,.str [],.str [],.ro 2 [] true,.str [],.ro 6 [] true] 104 false (T 42) (T 47)),d 5 (m 48)]) (s (O 50 [E (.bin .eql (T 17) (.c (.int .u8 4))),d 49 (m 50)]) (cc 49 (O 51 [m 5,f 0 2,f 0 52,l 1 53,ca 584 [54],ca 583 [55],E (.aV [.int .u8 0,.str [],.str [],.ro 2 [] true,.str [],.ro 6 [] true] 1 [(0,T 56)]),E (.app [.int .u8 0,.str [],.str [],.ro 2 [] true,.str [],.ro 6 [] true] 104 false (T 51) (T 57)),d 5 (m 58)]) (s (O 60 [E (.bin .eql (T 17) (.c (.int .u8 5))),d 59 (m 60)]) (c 59 (s (O 61 [f 0 2,f 3 61,l 1 62,ln 1 63,i 0]) (bk 3 OC ⟨true,[12,11,10,5,2],[]⟩)))))))))))) ⟨true,[12,11,10,5,2],[]⟩))) ⟨true,[12,11,10,5,2],[]⟩) qg)))
def Ee:ay:=.loop ⟨true,[12,11,10,5,2],[]⟩ nS
def aeT:WFn:=⟨2,[.tmp 4],zd (s (O 4 [d 2 (bx 0),E (.mv (.c (.ro 6 [] true)))]) (s (R 5 [E (.mv (.c (.ro 6 [] true)))] ⟨true,[5,2,1],[(5,6)]⟩) (s (s (O 10 [m 1,ln 1 10,i 0]) (bk 0 Ee ⟨true,[5],[]⟩)) Ad)))⟩
@[simp] theorem ao1:ZL OC Ak ⟨true,[65,64,63,12,11,10,7,5,2],[]⟩:=bf rfl
noncomputable abbrev Fp (C:aG) (s:WSt):Option AV:=CK C 0 (aN [.tmp 4]) [.sq OC,.bk 3 ⟨true,[12,11,10,5,2],[]⟩,.bk 2 ⟨true,[12,11,10,5,2],[]⟩,.bk 1 ⟨true,[12,11,10,5,2],[]⟩,.sq qg,.sq Ee,.bk 0 ⟨true,[5],[]⟩,.sq Ad] Ak s
@[simp] theorem aoz:ZL Ee nS ⟨true,[12,11,10,5,2],[]⟩:=bf rfl
noncomputable abbrev jP (C:aG) (s:WSt):Option AV:=CK C 0 (aN [.tmp 4]) [.sq Ee,.bk 0 ⟨true,[5],[]⟩,.sq Ad] nS s
def agk:WFn:=⟨1,[.tmp 2],zd (s (O 1 [bx 0,i 0]) (s (O 6 [h 6 1,ca 282 [6],d 5 (m 7),ex 0 5,ex 1 5,d 3 (m 8),d 4 (m 9)]) (r (O 10 [m 3,d 2 (m 10)]))))⟩
def Zj:WFn:=⟨1,[.tmp 2],zd (s (O 2 [i 0]) (s (s (O 3 [m 0,E (.eqv 2 [] false (T 3) (.c .dP))]) (c 4 (r (O 2 [i 0])))) (r (O 5 [m 0,nk 5,f 1 6,l 1 7,d 2 (m 8)]))))⟩
def zS:ay:=zd (B 1000000 (s (s (s (Q 18 [m 0,nk 18,f 0 19,l 1 20,m 4,ix 3 21 22,h 3 23,d 7 (E (.alloc [.int .u8 0,.int .u64 0,.int .i64 0])),n (st 3 7 24)] [7,6,4,1,0]) (B 0 (s (O 26 [f 0 7,l 1 26,E (.bin .eql (T 27) (.c (.int .u8 1))),m 28,y 29 (f 1 7),y 29 (l 1 30),y 29 (m 1),y 29 (eq 31 32),pa 29 33,d 25 (m 34)]) (cc 25 (r (O 4 [d 35 (m 4),m 35,tt])) (s (O 37 [f 0 7,l 1 37,E (.bin .eql (T 38) (.c (.int .u8 0))),m 39,y 40 (m 6),y 40 (gei 41 0),pa 40 42,d 36 (m 43)]) (cc 36 (r (O 4 [d 44 (m 6),m 44,ff])) (s (O 46 [f 0 7,l 1 46,E (.bin .eql (T 47) (.c (.int .u8 0))),d 45 (m 48)]) (cc 45 (r (O 4 [d 49 (m 4),m 49,ff])) (s (Q 51 [f 0 7,l 1 51,E (.bin .eql (T 52) (.c (.int .u8 2))),m 53,y 54 (m 6),y 54 (lti 55 0),pa 54 56,d 50 (m 57)] [50,6,4,1,0]) (c 50 (O 58 [m 4,d 6 (m 58)]))))))))))) (s (O 59 [m 4,adi 59 1,m 0,nk 61,f 0 62,l 1 63,ln 1 64,E (.bin .rem (T 60) (T 65)),d 4 (m 66)]) (ee 1000000))) (ee 1000001)))
def Om:ay:=.loop ⟨true,[6,4,1,0],[]⟩ zS
def Ye:WFn:=⟨2,[.tmp 4,.tmp 5],zd (s (O 4 [i 0,ff]) (s (O 6 [i (-1)]) (s (V 8 [m 1,ca 367 [8],m 0,nk 10,f 0 11,l 1 12,ln 1 13,E (.cvt .u64 (T 14)),E (.bin .rem (T 9) (T 15)),E (.cvt .i64 (T 16)),d 4 (m 17)] [(1,5),(1,6)] ⟨false,[],[]⟩) (bk 1000001 Om ⟨true,[5,4],[]⟩))))⟩
@[simp] theorem aol:ZL Om zS ⟨true,[6,4,1,0],[]⟩:=bf rfl
noncomputable abbrev D8 (C:aG) (s:WSt):Option AV:=CK C 0 (aN [.tmp 4,.tmp 5]) [.sq Om,.bk 1000001 ⟨true,[5,4],[]⟩] zS s
def pJ:ay:=zd (s (O 31 [lt 30 29]) (s (cc 31 (w .skip) (ee 2)) (s (B 3 (s (Q 32 [ix 3 28 30,h 3 32,d 7 (E (.alloc [.int .u8 0,.int .u64 0,.int .i64 0])),n (st 3 7 33)] [30,29,28,7,0]) (s (O 34 [f 0 7,l 1 34,E (.bin .eql (T 35) (.c (.int .u8 1)))]) (c 36 (s (O 38 [m 0,f 1 7,l 1 39,ca 1191 [38,40],d 37 (m 41),ex 0 37,ex 1 37,d 8 (m 42),d 9 (m 43)]) (V 44 [m 0,nk 44,f 0 45,l 1 46,m 8,h 3 7,ix 3 47 48,n (st 3 50 49)] [] ⟨false,[],[]⟩)))))) (O 51 [adi 30 1,d 30 (m 51)]))))
def EO:ay:=.loop ⟨true,[30,29,28,0],[]⟩ pJ
def vT:ay:=zd (s (O 16 [m 0,nk 16,f 0 17,l 1 18,d 5 (m 19)]) (s (O 20 [m 0,m 4,E (.mX [.int .u8 0,.int .u64 0,.int .i64 0] 24 (T 21) (T 21)),nk 20,f 0 23,n (st 1 24 22)]) (s (O 25 [m 0,nk 25,f 2 26,n (E (.store 1 (T 27) (N 0)))]) (s (O 28 [m 5,ln 1 28,i 0]) (bk 2 EO ⟨true,[],[]⟩)))))
def wW:ay:=zd (s (s (Q 10 [m 4,m 1,E (.bin .mul (N 2) (T 11)),lt 10 12] [13,4,1,0]) (cc 13 (w .skip) (ee 0))) (B 1 (O 14 [m 4,E (.bin .mul (T 14) (N 2)),d 4 (m 15)])))
def MN:ay:=.loop ⟨true,[4,1,0],[]⟩ wW
def adp:WFn:=⟨2,[],zd (s (O 4 [i 8]) (s (bk 0 MN ⟨true,[4,0],[]⟩) vT))⟩
@[simp] theorem anX:ZL EO pJ ⟨true,[30,29,28,0],[]⟩:=bf rfl
@[simp] theorem ao6:ZL MN wW ⟨true,[4,1,0],[]⟩:=bf rfl
def Ns:ay:=zd (r (O 32 [m 3,E (.build [.ro 6 [] true] [(0,1,T 32)]),n (st 1 2 33)]))
def zy:ay:=zd (s (O 16 [lt 15 14]) (s (cc 16 (w .skip) (ee 0)) (s (B 1 (s (Q 17 [m 15,ix 6 13 15,h 6 18,d 5 (E (.alloc [.int .u64 0,.int .u8 0,.str [],.ro 1 [] true,.int .i64 0,.bool false])),d 4 (m 17),n (st 6 5 19)] [15,14,13,5,4,3,2]) (s (O 20 [f 0 5,h 4 20,E (.aV [.int .u64 0,.int .u8 0,.str [],.ro 1 [] true] 1 [(0,T 21)]),ca 340 [22],E (.idxs 4 (T 23) (N 0)),h 4 24,f 0 5,n (st 4 26 25)]) (O 27 [m 3,m 4,h 6 5,ix 6 27 28,n (st 6 30 29)])))) (O 31 [adi 15 1,d 15 (m 31)]))))
def Pn:ay:=.loop ⟨true,[15,14,13,3,2],[]⟩ zy
def Ti:WFn:=⟨1,[.cell 2 1 true],zd (s (O 2 [E (.alloc [.ro 6 [] true])]) (s (s (O 6 [m 0,ln 1 6,eqi 7 0]) (c 8 (r (O 9 [E (.build [.ro 6 [] true] []),n (st 1 2 9)])))) (s (O 10 [m 0,ln 1 10,E (.mX [.int .u64 0,.int .u8 0,.str [],.ro 1 [] true,.int .i64 0,.bool false] 72 (T 11) (T 11)),d 3 (m 12)]) (s (s (O 13 [m 0,ln 1 13,i 0]) (bk 0 Pn ⟨true,[3,2],[]⟩)) Ns))))⟩
@[simp] theorem aoo:ZL Pn zy ⟨true,[15,14,13,3,2],[]⟩:=bf rfl
def Fh:ay:=zd (r (O 31 [m 5,d 4 (m 31)]))
def vZ:ay:=zd (s (Q 14 [lt 13 12] [14,13,12,11,5,2]) (s (cc 14 (w .skip) (ee 0)) (s (B 1 (s (O 15 [m 13,ix 4 11 13,h 4 16,d 7 (E (.alloc [.int .u64 0,.int .u8 0,.str [],.ro 1 [] true])),d 6 (m 15),n (st 4 7 17)]) (V 18 [m 5,m 6,h 4 7,f 0 2,l 1 21,f 1 7,l 1 23,ix 9 22 24,f 6 25,l 1 26,E (.build [.int .u64 0,.int .u8 0,.str [],.ro 1 [] true,.int .i64 0,.bool false] [(0,4,T 20),(4,1,T 27)]),ix 6 18 19,n (st 6 29 28)] [] ⟨false,[],[]⟩))) (O 30 [adi 13 1,d 13 (m 30)]))))
def NI:ay:=.loop ⟨true,[13,12,11,5,2],[]⟩ vZ
def abD:WFn:=⟨2,[.tmp 4],zd (s (O 4 [d 2 (bx 0),E (.mv (.c (.ro 6 [] true)))]) (s (O 8 [m 1,ln 1 8,E (.mX [.int .u64 0,.int .u8 0,.str [],.ro 1 [] true,.int .i64 0,.bool false] 72 (T 9) (T 9)),d 5 (m 10)]) (s (s (O 11 [m 1,ln 1 11,i 0]) (bk 0 NI ⟨true,[5],[]⟩)) Fh)))⟩
@[simp] theorem aou:ZL NI vZ ⟨true,[13,12,11,5,2],[]⟩:=bf rfl
noncomputable abbrev EG (C:aG) (s:WSt):Option AV:=CK C 0 (aN [.tmp 4]) [.sq NI,.bk 0 ⟨true,[5],[]⟩,.sq Fh] vZ s
def LU:WFn:=⟨3,[.tmp 6],zd (s (O 6 [d 3 (bx 0),i 0]) (s (s (O 8 [h 1 3,ca 122 [8],d 7 (m 9)]) (s (O 10 [m 7,nei 10 0]) (c 11 (r (Q 12 [m 7,d 6 (m 12)] [6]))))) (s (B 0 (s (O 14 [m 2,lti 14 1,m 15,z 16 (m 2),z 16 (gti 17 2147483648),po 16 18,d 13 (m 19)]) (cc 13 (r (O 6 [i 1])) (s (O 21 [m 1,lti 21 0,m 22,z 23 (m 1),z 23 (h 1 3),z 23 (ca 111 [25]),z 23 (m 2),z 23 (sb 26 27),z 23 (E (.mx (N 0) (T 28))),z 23 (gt 24 29),po 23 30,d 20 (m 31)]) (c 20 (r (O 6 [i 4]))))))) (r (O 6 [i 0])))))⟩
def FI:ay:=zd (r (O 2 [tt]))
def LD:ay:=zd (O 120 [m 5,adi 120 1,d 5 (m 121)])
def Ba:ay:=zd (s (s (O 122 [m 6,m 5,lt 122 123]) (cc 124 (w .skip) (ee 6))) (s (B 7 (s (U 127 [f 5 1,l 1 127,m 5,ix 6 128 129,f 2 130,l 1 131,E (.bin .neq (T 132) (.c (.str []))),m 133,y 134 (f 5 1),y 134 (l 1 135),y 134 (m 5),y 134 (ix 6 136 137),y 134 (f 2 138),y 134 (l 1 139),y 134 (f 5 1),y 134 (l 1 141),y 134 (m 6),y 134 (ix 6 142 143),y 134 (f 2 144),y 134 (l 1 145),y 134 (eq 140 146),pa 134 147] [] [148,6,5,1]) (c 148 (r (O 2 [ff]))))) (O 125 [m 6,adi 125 1,d 6 (m 126)])))
def LQ:ay:=.loop ⟨true,[6,5,1],[]⟩ Ba
def y9:ay:=zd (s (s (O 115 [m 5,f 5 1,l 1 116,ln 1 117,lt 115 118]) (cc 119 (w .skip) (ee 4))) (s (bk 5 (s (O 6 [i 0]) (bk 6 LQ ⟨true,[5,1],[]⟩)) ⟨true,[5,1],[]⟩) LD))
def Ey:ay:=.loop ⟨true,[5,1],[]⟩ y9
def Ew:ay:=zd (s (s (O 5 [i 0]) (bk 4 Ey ⟨true,[],[]⟩)) FI)
def Nh:ay:=zd (O 77 [m 3,adi 77 1,d 3 (m 78)])
def rZ:ay:=zd (s (s (O 97 [m 4,m 3,lt 97 98]) (cc 99 (w .skip) (ee 2))) (s (B 3 (s (U 102 [f 3 1,l 1 102,m 4,ix 2 103 104,f 0 105,l 1 106,f 3 1,l 1 108,m 3,ix 2 109 110,f 0 111,l 1 112,ge 107 113] [] [114,4,3,1]) (c 114 (r (O 2 [ff]))))) (O 100 [m 4,adi 100 1,d 4 (m 101)])))
def O4:ay:=.loop ⟨true,[4,3,1],[]⟩ rZ
def rW:ay:=zd (s (s (Q 72 [m 3,f 3 1,l 1 73,ln 1 74,lt 72 75] [76,3,1]) (cc 76 (w .skip) (ee 0))) (s (bk 1 (s (s (O 79 [f 3 1,l 1 79,m 3,ix 2 80 81,f 0 82,l 1 83,ca 557 [84],nt 85,m 86,z 87 (f 3 1),z 87 (l 1 88),z 87 (m 3),z 87 (ix 2 89 90),z 87 (f 1 91),z 87 (l 1 92),z 87 (ca 556 [93]),z 87 (nt 94),po 87 95]) (c 96 (r (O 2 [ff])))) (s (O 4 [i 0]) (bk 2 O4 ⟨true,[3,1],[]⟩))) ⟨true,[3,1],[]⟩) Nh))
def EU:ay:=.loop ⟨true,[3,1],[]⟩ rW
def xQ:WFn:=⟨1,[.tmp 2],zd (s (O 1 [bx 0,ff]) (s (s (O 7 [f 0 1,l 1 7,E (.bin .eql (T 8) (.c (.int .u8 2)))]) (c 9 (r (Q 10 [f 4 1,l 1 10,ca 556 [11],m 12,y 13 (f 1 1),y 13 (l 1 14),y 13 (E (.bin .eql (T 15) (.c (.str [])))),pa 13 16,m 17,y 18 (f 2 1),y 18 (l 1 19),y 18 (E (.bin .eql (T 20) (.c (.str [])))),pa 18 21,m 22,y 23 (f 3 1),y 23 (l 1 24),y 23 (ln 1 25),y 23 (eqi 26 0),pa 23 27,m 28,y 29 (f 5 1),y 29 (l 1 30),y 29 (ln 1 31),y 29 (eqi 32 0),pa 29 33,d 2 (m 34)] [2])))) (s (s (Q 35 [f 0 1,l 1 35,E (.bin .neq (T 36) (.c (.int .u8 1))),m 37,z 38 (f 1 1),z 38 (l 1 39),z 38 (ca 557 [40]),z 38 (nt 41),po 38 42,m 43,z 44 (f 2 1),z 44 (l 1 45),z 44 (E (.bin .neq (T 46) (.c (.str [])))),z 44 (m 47),y 48 (f 2 1),y 48 (l 1 49),y 48 (ca 557 [50]),y 48 (nt 51),z 44 (pa 48 52),po 44 53,m 54,z 55 (f 4 1),z 55 (l 1 56),z 55 (E (.bin .neq (T 57) (.c (.str [])))),po 55 58,m 59,z 60 (f 3 1),z 60 (l 1 61),z 60 (ln 1 62),z 60 (gti 63 8),po 60 64,m 65,z 66 (f 5 1),z 66 (l 1 67),z 66 (ln 1 68),z 66 (gti 69 16),po 66 70] [71,1]) (c 71 (r (O 2 [ff])))) (s (s (O 3 [i 0]) (bk 0 EU ⟨true,[1],[]⟩)) Ew))))⟩
@[simp] theorem aoE:ZL LQ Ba ⟨true,[6,5,1],[]⟩:=bf rfl
noncomputable abbrev Eo (C:aG) (s:WSt):Option AV:=CK C 0 (aN [.tmp 2]) [.sq LQ,.bk 6 ⟨true,[5,1],[]⟩,.bk 5 ⟨true,[5,1],[]⟩,.sq LD,.sq Ey,.bk 4 ⟨true,[],[]⟩,.sq FI] Ba s
@[simp] theorem anF:ZL Ey y9 ⟨true,[5,1],[]⟩:=bf rfl
noncomputable abbrev wE (C:aG) (s:WSt):Option AV:=CK C 0 (aN [.tmp 2]) [.sq Ey,.bk 4 ⟨true,[],[]⟩,.sq FI] y9 s
@[simp] theorem anH:ZL O4 rZ ⟨true,[4,3,1],[]⟩:=bf rfl
noncomputable abbrev pI (C:aG) (s:WSt):Option AV:=CK C 0 (aN [.tmp 2]) [.sq O4,.bk 2 ⟨true,[3,1],[]⟩,.bk 1 ⟨true,[3,1],[]⟩,.sq Nh,.sq EU,.bk 0 ⟨true,[1],[]⟩,.sq Ew] rZ s
@[simp] theorem anM:ZL EU rW ⟨true,[3,1],[]⟩:=bf rfl
noncomputable abbrev nG (C:aG) (s:WSt):Option AV:=CK C 0 (aN [.tmp 2]) [.sq EU,.bk 0 ⟨true,[1],[]⟩,.sq Ew] rW s
def KZ:ay:=zd (r (O 7 [tt]))
def vY:ay:=zd (s (O 31 [lt 30 29]) (s (cc 31 (w .skip) (ee 0)) (s (B 1 (s (O 32 [m 30,d 8 (m 32)]) (s (V 33 [l 1 4,m 0,nk 34,f 5 35,l 1 36,m 8,ix 6 37 38,m 1,adi 40 1,E (.dU (T 33) [T 39,T 41]),nt 42] [] ⟨false,[],[]⟩) (c 43 (r (O 7 [ff])))))) (O 44 [adi 30 1,d 30 (m 44)]))))
def O5:ay:=.loop ⟨true,[30,29,4,1,0],[]⟩ vY
def TU:WFn:=⟨5,[.tmp 7],zd (s (O 7 [ff]) (s (O 9 [l 1 2,adi 9 1,n (st 1 2 10)]) (s (s (O 11 [m 1,gti 11 6,m 12,z 13 (l 1 2),z 13 (gti 14 64),po 13 15,m 16,z 17 (m 0),z 17 (ca 549 [18]),z 17 (nt 19),po 17 20]) (c 21 (r (O 7 [ff])))) (s (O 22 [l 1 3,m 0,E (.dU (T 22) [T 23])]) (s (s (Q 25 [m 0,nk 25,f 5 26,l 1 27,ln 1 28,i 0] [30,29,4,1,0]) (bk 0 O5 ⟨true,[],[]⟩)) KZ)))))⟩
@[simp] theorem an2:ZL O5 vY ⟨true,[30,29,4,1,0],[]⟩:=bf rfl
def iM:WFn:=⟨1,[.tmp 2],zd (s (O 2 [ff]) (s (O 4 [m 0,nk 4,h 6 5,d 3 (E (.alloc [.int .u8 0,.str [],.str [],.ro 3 [] true,.str [],.ro 6 [] true])),n (st 6 3 6)]) (s (s (O 7 [m 0,nk 7,f 0 8,l 1 9]) (B 0 (s (B 5 (s (B 4 (s (B 3 (s (B 2 (s (B 1 (s (s (s (O 12 [E (.bin .eql (T 10) (.c (.int .u8 1))),d 11 (m 12)]) (c 11 (ee 1))) (s (s (O 14 [E (.bin .eql (T 10) (.c (.int .u8 5))),d 13 (m 14)]) (c 13 (ee 2))) (s (s (O 16 [E (.bin .eql (T 10) (.c (.int .u8 2))),d 15 (m 16)]) (c 15 (ee 3))) (s (s (O 18 [E (.bin .eql (T 10) (.c (.int .u8 3))),d 17 (m 18)]) (cc 17 (w .skip) (O 19 [E (.bin .eql (T 10) (.c (.int .u8 4))),d 17 (m 19)]))) (c 17 (ee 4)))))) (ee 5))) (s (s (Q 20 [m 0,nk 20,f 2 21,l 1 22,E (.bin .neq (T 23) (.c (.str []))),m 24,y 25 (m 0),y 25 (nk 26),y 25 (f 2 27),y 25 (l 1 28),y 25 (ca 581 [29]),y 25 (nt 30),pa 25 31,m 32,z 33 (m 0),z 33 (nk 34),z 33 (f 5 35),z 33 (l 1 36),z 33 (ln 1 37),z 33 (gti 38 16),po 33 39] [40,3,0]) (c 40 (r (O 2 [ff])))) (O 41 [f 2 3,n (E (.store 1 (T 41) (.c (.str [])))),f 5 3,n (E (.store 1 (T 42) (.c (.ro 6 [] true))))])))) (s (s (s (Q 43 [m 0,nk 43,f 1 44,l 1 45,ca 581 [46],nt 47,m 48,z 49 (m 0),z 49 (nk 50),z 49 (f 3 51),z 49 (l 1 52),z 49 (ca 585 [53]),z 49 (nt 54),po 49 55] [56,3]) (c 56 (r (O 2 [ff])))) (O 57 [f 1 3,n (E (.store 1 (T 57) (.c (.str [])))),f 3 3,n (E (.store 1 (T 58) (.c (.ro 3 [] true))))])) (ee 0)))) (s (s (s (O 59 [m 0,nk 59,f 4 60,l 1 61,ca 579 [62],nt 63]) (c 64 (r (O 2 [ff])))) (O 65 [f 4 3,n (E (.store 1 (T 65) (.c (.str []))))])) (ee 0)))) (ee 0))) (s (r (O 2 [ff])) (ee 0))))) (r (Q 66 [f 1 3,l 1 66,E (.bin .eql (T 67) (.c (.str []))),m 68,y 69 (f 2 3),y 69 (l 1 70),y 69 (E (.bin .eql (T 71) (.c (.str [])))),pa 69 72,m 73,y 74 (f 4 3),y 74 (l 1 75),y 74 (E (.bin .eql (T 76) (.c (.str [])))),pa 74 77,m 78,y 79 (f 3 3),y 79 (l 1 80),y 79 (ln 1 81),y 79 (eqi 82 0),pa 79 83,m 84,y 85 (f 5 3),y 85 (l 1 86),y 85 (ln 1 87),y 85 (eqi 88 0),pa 85 89,d 2 (m 90)] [2])))))⟩
def lD:WFn:=⟨1,[.tmp 2],zd (s (O 1 [bx 0,ff]) (s (s (O 3 [f 0 1,l 1 3]) (B 0 (s (O 6 [E (.bin .eql (T 4) (.c (.int .u8 1))),d 5 (m 6)]) (cc 5 (r (Q 7 [f 1 1,l 1 7,ca 557 [8],m 9,y 10 (f 2 1),y 10 (l 1 11),y 10 (E (.bin .eql (T 12) (.c (.str [])))),y 10 (m 13),z 14 (f 2 1),z 14 (l 1 15),z 14 (ca 557 [16]),y 10 (po 14 17),pa 10 18,m 19,y 20 (f 3 1),y 20 (l 1 21),y 20 (ca 594 [22]),pa 20 23,m 24,y 25 (f 4 1),y 25 (l 1 26),y 25 (E (.bin .eql (T 27) (.c (.str [])))),pa 25 28,m 29,y 30 (f 5 1),y 30 (l 1 31),y 30 (ln 1 32),y 30 (lei 33 16),pa 30 34,d 2 (m 35)] [2])) (s (O 37 [E (.bin .eql (T 4) (.c (.int .u8 2))),d 36 (m 37)]) (cc 36 (r (Q 38 [f 4 1,l 1 38,ca 556 [39],m 40,y 41 (f 1 1),y 41 (l 1 42),y 41 (E (.bin .eql (T 43) (.c (.str [])))),pa 41 44,m 45,y 46 (f 2 1),y 46 (l 1 47),y 46 (E (.bin .eql (T 48) (.c (.str [])))),pa 46 49,m 50,y 51 (f 3 1),y 51 (l 1 52),y 51 (ln 1 53),y 51 (f 5 1),y 51 (l 1 55),y 51 (ln 1 56),y 51 (ad 54 57),y 51 (eqi 58 0),pa 51 59,d 2 (m 60)] [2])) (s (s (O 62 [E (.bin .eql (T 4) (.c (.int .u8 3))),d 61 (m 62)]) (cc 61 (w .skip) (O 63 [E (.bin .eql (T 4) (.c (.int .u8 4))),d 61 (m 63)]))) (cc 61 (r (Q 64 [f 4 1,l 1 64,E (.bin .eql (T 65) (.c (.str []))),m 66,y 67 (f 1 1),y 67 (l 1 68),y 67 (E (.bin .eql (T 69) (.c (.str [])))),pa 67 70,m 71,y 72 (f 2 1),y 72 (l 1 73),y 72 (E (.bin .eql (T 74) (.c (.str [])))),pa 72 75,m 76,y 77 (f 3 1),y 77 (l 1 78),y 77 (ln 1 79),y 77 (f 5 1),y 77 (l 1 81),y 77 (ln 1 82),y 77 (ad 80 83),y 77 (eqi 84 0),pa 77 85,d 2 (m 86)] [2])) (s (O 88 [E (.bin .eql (T 4) (.c (.int .u8 5))),d 87 (m 88)]) (c 87 (r (Q 89 [f 1 1,l 1 89,ca 557 [90],m 91,y 92 (f 3 1),y 92 (l 1 93),y 92 (ca 594 [94]),pa 92 95,m 96,y 97 (f 2 1),y 97 (l 1 98),y 97 (E (.bin .eql (T 99) (.c (.str [])))),pa 97 100,m 101,y 102 (f 4 1),y 102 (l 1 103),y 102 (E (.bin .eql (T 104) (.c (.str [])))),pa 102 105,m 106,y 107 (f 5 1),y 107 (l 1 108),y 107 (ln 1 109),y 107 (eqi 110 0),pa 107 111,d 2 (m 112)] [2])))))))))))) (r (O 2 [ff]))))⟩
def LY:ay:=zd (r (O 6 [i (-1)]))
def rQ:ay:=zd (s (O 11 [E (.next (T 10)),ex 0 11]) (s (cc 12 (w .skip) (ee 0)) (B 1 (s (O 13 [ex 1 11,ex 2 11,d 7 (m 13),d 8 (m 14)]) (s (O 15 [m 1,m 8,E (.dU (T 15) [T 16]),m 2,E (.eqv 5 [] false (T 17) (T 18))]) (c 19 (r (O 20 [m 7,d 6 (m 20)]))))))))
def Lm:ay:=.loop ⟨true,[10,2,1],[]⟩ rQ
def agz:WFn:=⟨3,[.tmp 6],zd (s (O 6 [i 0]) (s (s (O 9 [m 0,E (.range (T 9))]) (bk 0 Lm ⟨true,[],[]⟩)) LY))⟩
@[simp] theorem anq:ZL Lm rQ ⟨true,[10,2,1],[]⟩:=bf rfl
noncomputable abbrev wS (C:aG) (s:WSt):Option AV:=CK C 0 (aN [.tmp 6]) [.sq Lm,.bk 0 ⟨true,[],[]⟩,.sq LY] rQ s
def aeA:WFn:=⟨1,[.tmp 2],zd (s (O 2 [ff]) (r (O 3 [m 0,E (.build [.int .u8 0,.str [],.str [],.ro 2 [] true,.str [],.ro 6 [] true] [(0,1,.c (.int .u8 2)),(4,1,T 3)]),ca 439 [4],eqi 5 0,d 2 (m 6)])))⟩
def afv:WFn:=⟨1,[.tmp 2],zd (s (O 2 [ff]) (r (O 3 [m 0,ca 581 [3],nt 4,d 2 (m 5)])))⟩
def afM:WFn:=⟨1,[.tmp 2],zd (s (O 2 [ff]) (r (O 3 [m 0,E (.build [.int .u8 0,.str [],.str [],.ro 2 [] true,.str [],.ro 6 [] true] [(0,1,.c (.int .u8 1)),(1,1,T 3)]),ca 439 [4],eqi 5 0,d 2 (m 6)])))⟩
def ahp:WFn:=⟨4,[.cell 8 6 true],zd (s (O 4 [bx 0,bx 1,d 8 (E (.alloc [.int .u8 0,.str [],.str [],.ro 2 [] true,.str [],.ro 6 [] true]))]) (r (V 9 [f 1 5,l 1 9,m 2,h 4 4,f 3 5,l 1 13,ca 592 [12,14],m 3,ca 593 [16],E (.build [.int .u8 0,.str [],.str [],.ro 2 [] true,.str [],.ro 6 [] true] [(0,1,.c (.int .u8 1)),(1,1,T 10),(2,1,T 11),(3,1,T 15),(5,1,T 17)]),n (st 6 8 18)] [(1,6),(1,8)] ⟨false,[],[]⟩)))⟩
def agj:WFn:=⟨1,[.cell 2 6 true],zd (s (O 2 [E (.alloc [.int .u8 0,.str [],.str [],.ro 2 [] true,.str [],.ro 6 [] true])]) (r (O 3 [m 0,E (.build [.int .u8 0,.str [],.str [],.ro 2 [] true,.str [],.ro 6 [] true] [(0,1,.c (.int .u8 2)),(4,1,T 3)]),n (st 6 2 4)])))⟩
def Aj:ay:=zd (B 1 (s (O 5 [m 4,sbi 5 1,d 4 (m 6)]) (s (O 7 [m 4,m 0,E (.bin .rem (T 8) (.c (.int .u64 10))),E (.dX (.c (.str [48,49,50,51,52,53,54,55,56,57])) (T 9)),E (.kZ 20 1 (T 3) (T 7)),n (st 1 11 10)]) (s (O 12 [m 0,E (.bin .quo (T 12) (.c (.int .u64 10))),d 0 (m 13)]) (s (O 14 [m 0,E (.bin .eql (T 14) (.c (.int .u64 0)))]) (c 15 (r (O 16 [m 4,E (.gu 20 (T 3) (some (T 16)) none),E (.cvb (T 17)),d 2 (m 18)]))))))))
def Ld:ay:=.loop ⟨true,[4,3,0],[]⟩ Aj
def agG:WFn:=⟨1,[.tmp 2],zd (s (O 2 [E (.mv (.c (.str [])))]) (s (O 3 [E (.alloc (rep 20 (.int .u8 0)))]) (s (O 4 [i 20]) (bk 0 Ld ⟨true,[2],[]⟩))))⟩
@[simp] theorem aot:ZL Ld Aj ⟨true,[4,3,0],[]⟩:=bf rfl
noncomputable abbrev Fa (C:aG) (s:WSt):Option AV:=CK C 0 (aN [.tmp 2]) [.sq Ld,.bk 0 ⟨true,[2],[]⟩] Aj s
def ahr:WFn:=⟨1,[.cell 2 1 false,.cell 3 1 false],zd (s (O 1 [bx 0,E (.alloc [.int .i64 0]),E (.alloc [.int .i64 0])]) (s (O 4 [E (.alloc [.dK])]) (s (O 5 [E (.jK 433 [T 2,T 3,T 4]),n (st 1 4 5)]) (s (s (O 6 [l 1 4,E (.dU (T 6) [T 1,N 1]),nt 7]) (c 8 (r (O 0 [n (E (.store 1 (T 2) (N 0))),n (E (.store 1 (T 3) (N 0)))])))) (r (V 9 [l 1 2,l 1 3,n (st 1 2 9),n (st 1 3 10)] [(1,2)] ⟨false,[],[]⟩))))))⟩
def afd:WFn:=⟨1,[.tmp 2],zd (s (O 2 [E (.mv (.c (.int .u64 0)))]) (s (O 3 [m 0,m 0,E (.bin .shr (T 4) (.c (.int .u64 30))),E (.bin .xor (T 3) (T 5)),E (.bin .mul (T 6) (.c (.int .u64 13787848793156543929))),d 0 (m 7)]) (s (O 8 [m 0,m 0,E (.bin .shr (T 9) (.c (.int .u64 27))),E (.bin .xor (T 8) (T 10)),E (.bin .mul (T 11) (.c (.int .u64 10723151780598845931))),d 0 (m 12)]) (r (O 13 [m 0,m 0,E (.bin .shr (T 14) (.c (.int .u64 31))),E (.bin .xor (T 13) (T 15)),d 2 (m 16)])))))⟩
def V4:ay:=zd (r (O 23 [m 3,d 2 (m 23)]))
def J8:ay:=zd (s (O 10 [lt 9 8]) (s (cc 10 (w .skip) (ee 0)) (s (B 1 (s (O 11 [m 9,d 4 (m 11)]) (O 12 [m 3,m 4,m 3,m 4,ix 4 14 15,f 3 16,l 1 17,ca 460 [18],ix 4 12 13,f 3 20,n (st 1 21 19)]))) (O 22 [adi 9 1,d 9 (m 22)]))))
def WY:ay:=.loop ⟨true,[9,8,3],[]⟩ J8
def afA:WFn:=⟨1,[.tmp 2],zd (s (O 2 [E (.mv (.c (.ro 4 [] true)))]) (s (Q 5 [m 0,ca 459 [5],d 3 (m 6)] [3]) (s (s (O 7 [m 3,ln 1 7,i 0]) (bk 0 WY ⟨true,[3],[]⟩)) V4)))⟩
@[simp] theorem aoC:ZL WY J8 ⟨true,[9,8,3],[]⟩:=bf rfl
def OV:ay:=zd (r (O 2 [tt]))
def zC:ay:=zd (s (O 11 [lt 10 9]) (s (cc 11 (w .skip) (ee 0)) (s (B 1 (s (O 12 [m 10,ix 3 8 10,h 3 13,d 4 (E (.alloc [.str [],.int .u8 0,.str []])),d 3 (m 12),n (st 3 4 14)]) (s (U 15 [f 0 4,l 1 15,ca 581 [16],nt 17,m 18,z 19 (f 1 4),z 19 (l 1 20),z 19 (E (.bin .gtr (T 21) (.c (.int .u8 3)))),po 19 22,m 23,z 24 (f 2 4),z 24 (l 1 25),z 24 (ca 579 [26]),z 24 (nt 27),po 24 28,m 29,z 30 (f 1 4),z 30 (l 1 31),z 30 (E (.bin .gtr (T 32) (.c (.int .u8 0)))),z 30 (m 33),y 34 (f 2 4),y 34 (l 1 35),y 34 (E (.bin .neq (T 36) (.c (.str [])))),z 30 (pa 34 37),po 30 38,m 39,z 40 (m 3),z 40 (gti 41 0),z 40 (m 42),y 43 (f 0 4),y 43 (l 1 44),y 43 (m 0),y 43 (m 3),y 43 (sbi 47 1),y 43 (ix 3 46 48),y 43 (f 0 49),y 43 (l 1 50),y 43 (le 45 51),z 40 (pa 43 52),po 40 53] [] [54,10,9,8,0]) (c 54 (r (O 2 [ff])))))) (O 55 [adi 10 1,d 10 (m 55)]))))
def Md:ay:=.loop ⟨true,[10,9,8,0],[]⟩ zC
def adq:WFn:=⟨1,[.tmp 2],zd (s (O 2 [ff]) (s (s (O 5 [m 0,ln 1 5,gti 6 8]) (c 7 (r (O 2 [ff])))) (s (s (O 8 [m 0,ln 1 8,i 0]) (bk 0 Md ⟨true,[],[]⟩)) OV)))⟩
@[simp] theorem anI:ZL Md zC ⟨true,[10,9,8,0],[]⟩:=bf rfl
noncomputable abbrev EI (C:aG) (s:WSt):Option AV:=CK C 0 (aN [.tmp 2]) [.sq Md,.bk 0 ⟨true,[],[]⟩,.sq OV] zC s
def KH:ay:=zd (r (O 2 [tt]))
def Bq:ay:=zd (s (s (O 8 [m 3,m 0,ln 1 9,lt 8 10]) (cc 11 (w .skip) (ee 0))) (s (B 1 (s (O 14 [m 0,m 3,ix 3 14 15,h 3 16,d 4 (E (.alloc [.str [],.int .u8 0,.str []])),n (st 3 4 17)]) (s (U 18 [f 0 4,l 1 18,ca 557 [19],nt 20,m 21,z 22 (f 1 4),z 22 (l 1 23),z 22 (E (.bin .gtr (T 24) (.c (.int .u8 3)))),po 22 25,m 26,z 27 (f 2 4),z 27 (l 1 28),z 27 (ca 556 [29]),z 27 (nt 30),po 27 31,m 32,z 33 (f 1 4),z 33 (l 1 34),z 33 (E (.bin .neq (T 35) (.c (.int .u8 0)))),z 33 (m 36),y 37 (f 2 4),y 37 (l 1 38),y 37 (E (.bin .neq (T 39) (.c (.str [])))),z 33 (pa 37 40),po 33 41,m 42,z 43 (m 3),z 43 (gti 44 0),z 43 (m 45),y 46 (m 0),y 46 (m 3),y 46 (sbi 48 1),y 46 (ix 3 47 49),y 46 (f 0 50),y 46 (l 1 51),y 46 (f 0 4),y 46 (l 1 53),y 46 (ge 52 54),z 43 (pa 46 55),po 43 56] [] [57,3,0]) (c 57 (r (O 2 [ff])))))) (O 12 [m 3,adi 12 1,d 3 (m 13)])))
def MZ:ay:=.loop ⟨true,[3,0],[]⟩ Bq
def abt:WFn:=⟨1,[.tmp 2],zd (s (O 2 [ff]) (s (s (O 5 [m 0,ln 1 5,gti 6 8]) (c 7 (r (O 2 [ff])))) (s (s (O 3 [i 0]) (bk 0 MZ ⟨true,[],[]⟩)) KH)))⟩
@[simp] theorem aoM:ZL MZ Bq ⟨true,[3,0],[]⟩:=bf rfl
noncomputable abbrev EX (C:aG) (s:WSt):Option AV:=CK C 0 (aN [.tmp 2]) [.sq MZ,.bk 0 ⟨true,[],[]⟩,.sq KH] Bq s
def ac3:WFn:=⟨1,[.tmp 2],zd (s (O 1 [bx 0,i 0]) (s (s (O 3 [h 6 1,ca 140 [3],eqi 4 0]) (c 5 (r (O 2 [i 14])))) (r (O 2 [i 0]))))⟩
def FQ:ay:=zd (r (O 44 [m 5,d 4 (m 44)]))
def vV:ay:=zd (s (O 14 [lt 13 12]) (s (cc 14 (w .skip) (ee 0)) (s (B 1 (s (O 15 [m 13,ix 3 11 13,h 3 16,d 7 (E (.alloc [.str [],.int .u8 0,.str []])),d 6 (m 15),n (st 3 7 17)]) (U 18 [m 5,m 6,f 0 7,l 1 20,f 2 7,l 1 22,f 0 2,f 2 24,l 1 25,f 0 2,f 0 27,l 1 28,ca 584 [29],f 0 2,f 3 31,l 1 32,ln 1 33,E (.cvt .u64 (T 34)),ca 584 [35],E (.build [.str [],.str [],.str [],.str []] [(0,1,T 23),(1,1,T 26),(2,1,T 30),(3,1,T 36)]),f 1 7,l 1 38,E (.xO 4 1 false (T 37) (T 39)),E (.build [.str [],.str []] [(0,1,T 21),(1,1,T 40)]),ix 2 18 19,n (st 2 42 41)] [(3,12),(5,12),(8,12),(12,15),(12,16),(3,18),(5,18),(8,18),(12,21),(18,21)] [13,12,11,5,2]))) (O 43 [adi 13 1,d 13 (m 43)]))))
def MX:ay:=.loop ⟨true,[13,12,11,5,2],[]⟩ vV
def acH:WFn:=⟨2,[.tmp 4],zd (s (O 4 [d 2 (bx 0),E (.mv (.c (.ro 2 [] true)))]) (s (O 8 [m 1,ln 1 8,E (.mX [.str [],.str []] 32 (T 9) (T 9)),d 5 (m 10)]) (s (s (O 11 [m 1,ln 1 11,i 0]) (bk 0 MX ⟨true,[5],[]⟩)) FQ)))⟩
@[simp] theorem anG:ZL MX vV ⟨true,[13,12,11,5,2],[]⟩:=bf rfl
noncomputable abbrev EZ (C:aG) (s:WSt):Option AV:=CK C 0 (aN [.tmp 4]) [.sq MX,.bk 0 ⟨true,[5],[]⟩,.sq FQ] vV s
def agZ:WFn:=⟨1,[.tmp 2],zd (s (O 2 [E (.mv (.c (.ro 6 [] true)))]) (r (O 3 [m 0,m 0,ln 1 4,m 0,ln 1 6,E (.slice 6 (T 3) none (some (T 5)) (some (T 7))),d 2 (m 8)])))⟩
def EL:ay:=zd (r (O 7 [tt]))
def wY:ay:=zd (s (O 31 [lt 30 29]) (s (cc 31 (w .skip) (ee 0)) (s (B 1 (s (O 32 [m 30,d 8 (m 32)]) (s (V 33 [l 1 4,m 0,nk 34,f 5 35,l 1 36,m 8,ix 6 37 38,m 1,adi 40 1,E (.dU (T 33) [T 39,T 41]),nt 42] [] ⟨false,[],[]⟩) (c 43 (r (O 7 [ff])))))) (O 44 [adi 30 1,d 30 (m 44)]))))
def Kv:ay:=.loop ⟨true,[30,29,4,1,0],[]⟩ wY
def GV:WFn:=⟨5,[.tmp 7],zd (s (O 7 [ff]) (s (O 9 [l 1 2,adi 9 1,n (st 1 2 10)]) (s (O 11 [l 1 3,m 1,E (.mx (T 11) (T 12)),n (st 1 3 13)]) (s (s (O 14 [m 1,gti 14 6,m 15,z 16 (l 1 2),z 16 (gti 17 64),po 16 18,m 19,z 20 (m 0),z 20 (ca 434 [21]),z 20 (nt 22),po 20 23]) (c 24 (r (O 7 [ff])))) (s (s (Q 25 [m 0,nk 25,f 5 26,l 1 27,ln 1 28,i 0] [30,29,4,1,0]) (bk 0 Kv ⟨true,[],[]⟩)) EL)))))⟩
@[simp] theorem apj:ZL Kv wY ⟨true,[30,29,4,1,0],[]⟩:=bf rfl
def OQ:ay:=zd (r (O 2 [tt]))
def yQ:ay:=zd (s (Q 143 [lt 142 141] [143,142,141,140,0]) (s (cc 143 (w .skip) (ee 2)) (s (B 3 (s (O 144 [m 142,ix 6 140 142,h 6 145,d 6 (E (.alloc [.int .u8 0,.str [],.str [],.ro 2 [] true,.str [],.ro 6 [] true])),d 5 (m 144),n (st 6 6 146)]) (s (O 147 [f 2 6,l 1 147,E (.bin .neq (T 148) (.c (.str []))),m 149,y 150 (m 0),y 150 (nk 151),y 150 (f 5 152),y 150 (l 1 153),y 150 (m 5),y 150 (E (.slice 6 (T 154) none (some (T 155)) none)),y 150 (E (.jK 519 [T 6])),y 150 (ca 518 [156,157]),pa 150 158]) (c 159 (r (O 2 [ff])))))) (O 160 [adi 142 1,d 142 (m 160)]))))
def O1:ay:=.loop ⟨true,[142,141,140,0],[]⟩ yQ
def Nl:ay:=zd (s (s (O 137 [m 0,nk 137,f 5 138,l 1 139,ln 1 140,i 0]) (bk 2 O1 ⟨true,[],[]⟩)) OQ)
def zV:ay:=zd (s (O 104 [lt 103 102]) (s (cc 104 (w .skip) (ee 0)) (s (B 1 (s (O 105 [m 103,ix 2 101 103,h 2 106,d 4 (E (.alloc [.str [],.str []])),d 3 (m 105),n (st 2 4 107)]) (s (U 108 [f 0 4,l 1 108,ca 517 [109],nt 110,m 111,z 112 (f 1 4),z 112 (l 1 113),z 112 (ca 516 [114]),z 112 (nt 115),po 112 116,m 117,z 118 (m 3),z 118 (gti 119 0),z 118 (m 120),y 121 (f 0 4),y 121 (l 1 122),y 121 (m 0),y 121 (nk 124),y 121 (f 3 125),y 121 (l 1 126),y 121 (m 3),y 121 (sbi 128 1),y 121 (ix 2 127 129),y 121 (f 0 130),y 121 (l 1 131),y 121 (le 123 132),z 118 (pa 121 133),po 118 134] [] [135,103,102,101,0]) (c 135 (r (O 2 [ff])))))) (O 136 [adi 103 1,d 103 (m 136)]))))
def MI:ay:=.loop ⟨true,[103,102,101,0],[]⟩ zV
def xR:WFn:=⟨1,[.tmp 2],zd (s (O 2 [ff]) (s (s (O 7 [m 0,nk 7,f 0 8,l 1 9,E (.bin .eql (T 10) (.c (.int .u8 2)))]) (c 11 (r (Q 12 [m 0,nk 12,f 4 13,l 1 14,ca 516 [15],m 16,y 17 (m 0),y 17 (nk 18),y 17 (f 1 19),y 17 (l 1 20),y 17 (E (.bin .eql (T 21) (.c (.str [])))),pa 17 22,m 23,y 24 (m 0),y 24 (nk 25),y 24 (f 2 26),y 24 (l 1 27),y 24 (E (.bin .eql (T 28) (.c (.str [])))),pa 24 29,m 30,y 31 (m 0),y 31 (nk 32),y 31 (f 3 33),y 31 (l 1 34),y 31 (ln 1 35),y 31 (eqi 36 0),pa 31 37,m 38,y 39 (m 0),y 39 (nk 40),y 39 (f 5 41),y 39 (l 1 42),y 39 (ln 1 43),y 39 (eqi 44 0),pa 39 45,d 2 (m 46)] [2])))) (s (s (Q 47 [m 0,nk 47,f 0 48,l 1 49,E (.bin .neq (T 50) (.c (.int .u8 1))),m 51,z 52 (m 0),z 52 (nk 53),z 52 (f 1 54),z 52 (l 1 55),z 52 (ca 517 [56]),z 52 (nt 57),po 52 58,m 59,z 60 (m 0),z 60 (nk 61),z 60 (f 2 62),z 60 (l 1 63),z 60 (E (.bin .neq (T 64) (.c (.str [])))),z 60 (m 65),y 66 (m 0),y 66 (nk 67),y 66 (f 2 68),y 66 (l 1 69),y 66 (ca 517 [70]),y 66 (nt 71),z 60 (pa 66 72),po 60 73,m 74,z 75 (m 0),z 75 (nk 76),z 75 (f 4 77),z 75 (l 1 78),z 75 (E (.bin .neq (T 79) (.c (.str [])))),po 75 80,m 81,z 82 (m 0),z 82 (nk 83),z 82 (f 3 84),z 82 (l 1 85),z 82 (ln 1 86),z 82 (gti 87 8),po 82 88,m 89,z 90 (m 0),z 90 (nk 91),z 90 (f 5 92),z 90 (l 1 93),z 90 (ln 1 94),z 90 (gti 95 16),po 90 96] [97,0]) (c 97 (r (O 2 [ff])))) (s (s (O 98 [m 0,nk 98,f 3 99,l 1 100,ln 1 101,i 0]) (bk 0 MI ⟨true,[0],[]⟩)) Nl))))⟩
@[simp] theorem aos:ZL O1 yQ ⟨true,[142,141,140,0],[]⟩:=bf rfl
noncomputable abbrev EP (C:aG) (s:WSt):Option AV:=CK C 0 (aN [.tmp 2]) [.sq O1,.bk 2 ⟨true,[],[]⟩,.sq OQ] yQ s
@[simp] theorem anz:ZL MI zV ⟨true,[103,102,101,0],[]⟩:=bf rfl
noncomputable abbrev Am (C:aG) (s:WSt):Option AV:=CK C 0 (aN [.tmp 2]) [.sq MI,.bk 0 ⟨true,[0],[]⟩,.sq Nl] zV s
def ag0:WFn:=⟨1,[.tmp 2],zd (s (O 2 [E (.mv (.c (.ro 4 [] true)))]) (s (s (O 4 [m 0,ln 1 4,eqi 5 0]) (c 6 (r (O 2 [E (.mv (.c (.ro 4 [] true)))])))) (s (O 7 [m 0,ln 1 7,E (.mX [.int .u64 0,.int .u8 0,.str [],.ro 1 [] true] 56 (T 8) (T 8)),d 3 (m 9)]) (s (O 10 [m 3,m 0,E (.cpy 4 (T 10) (T 11))]) (r (O 13 [m 3,d 2 (m 13)]))))))⟩
def adG:WFn:=⟨1,[.tmp 2],zd (s (O 2 [E (.mv (.c (.ro 1 [] true)))]) (s (s (O 4 [m 0,ln 1 4,eqi 5 0]) (c 6 (r (O 2 [E (.mv (.c (.ro 1 [] true)))])))) (s (O 7 [m 0,ln 1 7,E (.mX [.str []] 16 (T 8) (T 8)),d 3 (m 9)]) (s (O 10 [m 3,m 0,E (.cpy 1 (T 10) (T 11))]) (r (O 13 [m 3,d 2 (m 13)]))))))⟩
def adx:WFn:=⟨1,[.tmp 2],zd (s (O 2 [ff]) (r (O 3 [m 0,ln 0 3,lei 4 64,m 5,y 6 (m 0),y 6 (E (.call 543 [T 7,.c (.fn 560 [])])),y 6 (lti 8 0),pa 6 9,d 2 (m 10)])))⟩
def MK:ay:=zd (r (O 2 [tt]))
def zJ:ay:=zd (s (O 15 [lt 14 13]) (s (cc 15 (w .skip) (ee 0)) (s (B 1 (s (O 16 [m 14,d 3 (m 16)]) (s (O 17 [m 0,m 3,E (.dX (T 17) (T 18)),ca 561 [19],nt 20]) (c 21 (r (O 2 [ff])))))) (O 22 [adi 14 1,d 14 (m 22)]))))
def NH:ay:=.loop ⟨true,[14,13,0],[]⟩ zJ
def XF:WFn:=⟨1,[.tmp 2],zd (s (O 2 [ff]) (s (s (Q 4 [m 0,ln 0 4,lti 5 1,m 6,z 7 (m 0),z 7 (ln 0 8),z 7 (gti 9 16),po 7 10] [11,0]) (c 11 (r (O 2 [ff])))) (s (s (O 12 [m 0,ln 0 12,i 0]) (bk 0 NH ⟨true,[],[]⟩)) MK)))⟩
@[simp] theorem ao0:ZL NH zJ ⟨true,[14,13,0],[]⟩:=bf rfl
noncomputable abbrev FB (C:aG) (s:WSt):Option AV:=CK C 0 (aN [.tmp 2]) [.sq NH,.bk 0 ⟨true,[],[]⟩,.sq MK] zJ s
def ZM:WFn:=⟨2,[.tmp 4],zd (s (O 4 [ff]) (r (O 5 [m 0,m 1,ca 562 [5,6],gei 7 0,d 4 (m 8)])))⟩
def adW:WFn:=⟨2,[.tmp 3],zd (s (O 2 [bx 0,ff]) (r (O 4 [f 2 2,l 1 4,f 2 1,l 1 6,eq 5 7,d 3 (m 8)])))⟩
def Vo:WFn:=⟨1,[.tmp 2],zd (s (O 2 [ff]) (r (O 3 [m 0,E (.bin .lss (T 3) (.c (.int .i32 32))),m 4,z 5 (m 0),z 5 (E (.bin .gtr (T 6) (.c (.int .i32 126)))),po 5 7,d 2 (m 8)])))⟩
def aeh:WFn:=⟨1,[.tmp 2],zd (s (O 2 [ff]) (r (O 3 [m 0,E (.bin .geq (T 3) (.c (.int .u8 97))),m 4,y 5 (m 0),y 5 (E (.bin .leq (T 6) (.c (.int .u8 122)))),pa 5 7,m 8,z 9 (m 0),z 9 (E (.bin .geq (T 10) (.c (.int .u8 48)))),z 9 (m 11),y 12 (m 0),y 12 (E (.bin .leq (T 13) (.c (.int .u8 57)))),z 9 (pa 12 14),po 9 15,d 2 (m 16)])))⟩
def O9:ay:=zd (r (O 4 [i (-1)]))
def uS:ay:=zd (s (O 9 [lt 8 7]) (s (cc 9 (w .skip) (ee 0)) (s (B 1 (s (O 10 [m 8,d 5 (m 10)]) (s (O 11 [m 1,m 0,m 5,ix 6 12 13,h 6 14,E (.dU (T 11) [T 15])]) (c 16 (r (O 17 [m 5,d 4 (m 17)])))))) (O 18 [adi 8 1,d 8 (m 18)]))))
def OT:ay:=.loop ⟨true,[8,7,1,0],[]⟩ uS
def aeH:WFn:=⟨2,[.tmp 4],zd (s (O 4 [i 0]) (s (s (O 6 [m 0,ln 1 6,i 0]) (bk 0 OT ⟨true,[],[]⟩)) O9))⟩
@[simp] theorem aoX:ZL OT uS ⟨true,[8,7,1,0],[]⟩:=bf rfl
noncomputable abbrev yX (C:aG) (s:WSt):Option AV:=CK C 0 (aN [.tmp 4]) [.sq OT,.bk 0 ⟨true,[],[]⟩,.sq O9] uS s
def tree:qE:=(.node (.node (.node (.node (.node (.node (.node (.node .leaf 0 w0 .leaf) 92 w92 .leaf) 97 w97 (.node (.node .leaf 99 w99 .leaf) 102 Zj .leaf)) 111 af5 (.node (.node (.node .leaf 112 QI .leaf) 115 Ny .leaf) 120 Uf (.node .leaf 121 Zf .leaf))) 122 ZJ (.node (.node (.node (.node .leaf 126 aeK .leaf) 130 ag2 .leaf) 131 abh (.node (.node .leaf 132 adb .leaf) 133 agQ .leaf)) 135 abw (.node (.node (.node .leaf 137 ag4 .leaf) 140 agk .leaf) 149 ag3 (.node .leaf 160 acV .leaf)))) 161 abg (.node (.node (.node (.node (.node .leaf 172 aa6 .leaf) 173 ahv .leaf) 174 acW (.node (.node .leaf 175 XG .leaf) 176 QC .leaf)) 177 agd (.node (.node (.node .leaf 178 amS .leaf) 191 Ye .leaf) 192 adp (.node .leaf 201 Tc .leaf))) 219 ZR (.node (.node (.node (.node .leaf 221 aeJ .leaf) 222 aez .leaf) 223 Yb (.node (.node .leaf 224 agK .leaf) 225 agw .leaf)) 226 Ti (.node (.node (.node .leaf 227 afC .leaf) 230 XH .leaf) 231 acE (.node .leaf 232 aaS .leaf))))) 235 Ym (.node (.node (.node (.node (.node (.node .leaf 236 Qc .leaf) 239 afq .leaf) 240 af2 (.node (.node .leaf 246 abu .leaf) 247 agP .leaf)) 248 LU (.node (.node (.node .leaf 249 ae6 .leaf) 250 YA .leaf) 251 abp (.node .leaf 252 Kr .leaf))) 253 agD (.node (.node (.node (.node .leaf 256 afV .leaf) 270 ad7 .leaf) 271 UF (.node (.node .leaf 272 YE .leaf) 273 agR .leaf)) 274 yB (.node (.node (.node .leaf 275 Lj .leaf) 276 ahh .leaf) 282 ahr (.node .leaf 304 afc .leaf)))) 312 aeM (.node (.node (.node (.node (.node .leaf 313 aer .leaf) 314 Zh .leaf) 318 QZ (.node (.node .leaf 319 abQ .leaf) 321 UA .leaf)) 322 aeS (.node (.node (.node .leaf 323 aeE .leaf) 327 ac0 .leaf) 340 afA (.node .leaf 344 IX .leaf))) 347 afR (.node (.node (.node (.node .leaf 348 afZ .leaf) 349 aey .leaf) 350 NV (.node (.node .leaf 351 Yz .leaf) 352 al5 .leaf)) 367 afd (.node (.node (.node .leaf 379 BM .leaf) 398 Td .leaf) 399 aft (.node .leaf 400 abD .leaf)))))) 402 acp (.node (.node (.node (.node (.node (.node (.node .leaf 403 agW .leaf) 404 ags .leaf) 405 agO (.node (.node .leaf 406 adZ .leaf) 407 aaC .leaf)) 408 aav (.node (.node (.node .leaf 411 afE .leaf) 412 agA .leaf) 422 GH (.node .leaf 423 aei .leaf))) 424 Q9 (.node (.node (.node (.node .leaf 425 Jb .leaf) 426 afx .leaf) 433 GV (.node (.node .leaf 434 xR .leaf) 439 ac3 .leaf)) 441 ac8 (.node (.node (.node .leaf 442 aaq .leaf) 459 ag0 .leaf) 460 adG (.node .leaf 464 Gx .leaf)))) 465 aeU (.node (.node (.node (.node (.node .leaf 466 ad9 .leaf) 467 acZ .leaf) 494 acs (.node (.node .leaf 495 aau .leaf) 496 TM .leaf)) 497 adN (.node (.node (.node .leaf 498 acd .leaf) 499 aen .leaf) 500 Zg (.node .leaf 501 IL .leaf))) 502 aaA (.node (.node (.node (.node .leaf 503 afT .leaf) 504 ahm .leaf) 505 Zi (.node (.node .leaf 510 acJ .leaf) 511 X5 .leaf)) 512 Ua (.node (.node (.node .leaf 513 SB .leaf) 516 adx .leaf) 517 XF (.node .leaf 518 ZM .leaf))))) 519 adW (.node (.node (.node (.node (.node (.node .leaf 520 Zz .leaf) 543 afa .leaf) 544 ael (.node (.node .leaf 545 YZ .leaf) 546 Ut .leaf)) 547 aeT (.node (.node (.node .leaf 548 TU .leaf) 549 iM .leaf) 550 XP (.node .leaf 556 aaJ .leaf))) 557 ahf (.node (.node (.node (.node .leaf 558 acN .leaf) 559 afS .leaf) 560 Vo (.node (.node .leaf 561 aeh .leaf) 562 aeH .leaf)) 563 xQ (.node (.node (.node .leaf 578 agz .leaf) 579 aeA .leaf) 580 afv (.node .leaf 581 afM .leaf)))) 582 ahp (.node (.node (.node (.node (.node .leaf 583 agj .leaf) 584 agG .leaf) 585 adq (.node (.node .leaf 586 lD .leaf) 592 acH .leaf)) 593 agZ (.node (.node (.node .leaf 594 abt .leaf) 1100 Jm .leaf) 1102 Zj (.node .leaf 1191 Ye .leaf))) 2004 JK (.node (.node (.node (.node .leaf 2005 yB .leaf) 2006 Lj .leaf) 2016 w97 (.node (.node .leaf 2019 Az .leaf) 3001 Qu .leaf)) 3002 Qa (.node (.node (.node .leaf 3003 Sr .leaf) 3004 Ti .leaf) 4001 JX (.node .leaf 4002 yB .leaf)))))))
def ids:List (Nat × Nat):=[(0,2),(92,5),(97,75),(99,110),(102,138),(111,26),(112,49),(115,37),(120,48),(121,123),(122,58),(126,30),(130,7),(131,84),(132,87),(133,51),(135,22),(137,52),(140,137),(149,85),(160,19),(161,80),(172,20),(173,25),(174,15),(175,4),(176,27),(177,28),(178,6),(191,139),(192,140),(201,40),(219,112),(221,114),(222,113),(223,39),(224,42),(225,68),(226,141),(227,74),(230,67),(231,69),(232,70),(235,34),(236,38),(239,36),(240,33),(246,47),(247,81),(248,143),(249,90),(250,91),(251,119),(252,120),(253,60),(256,18),(270,31),(271,32),(272,121),(273,88),(274,55),(275,56),(276,57),(282,155),(304,122),(312,82),(313,116),(314,83),(318,41),(319,50),(321,23),(322,115),(323,59),(327,24),(340,157),(344,11),(347,17),(348,14),(349,21),(350,16),(351,12),(352,29),(367,156),(379,76),(398,72),(399,73),(400,142),(402,77),(403,78),(404,98),(405,99),(406,65),(407,53),(408,71),(411,117),(412,118),(422,61),(423,62),(424,63),(425,64),(426,89),(433,163),(434,164),(439,160),(441,96),(442,97),(459,165),(460,166),(464,9),(465,13),(466,43),(467,44),(494,101),(495,102),(496,103),(497,104),(498,105),(499,106),(500,107),(501,108),(502,129),(503,130),(504,86),(505,100),(510,92),(511,93),(512,94),(513,95),(516,167),(517,168),(518,169),(519,170),(520,128),(543,132),(544,133),(545,134),(546,135),(547,136),(548,145),(549,146),(550,131),(556,124),(557,125),(558,126),(559,127),(560,171),(561,172),(562,173),(563,144),(578,148),(579,149),(580,150),(581,151),(582,152),(583,153),(584,154),(585,158),(586,147),(592,161),(593,162),(594,159),(2016,75),(2004,54),(2005,55),(2006,56),(4002,55),(4001,22),(3004,141),(3003,111),(3002,79),(3001,45),(2019,46),(1102,138),(1191,139),(1100,109)]
def alts:List (Nat × Nat × Nat):=[(201,75,2016),(135,54,2004),(2004,55,2005),(135,56,2006),(4001,55,4002),(4001,54,2004),(4001,56,2006),(2019,22,4001),(3003,141,3004),(3002,111,3003),(3001,79,3002),(174,45,3001),(174,46,2019),(350,45,3001),(350,46,2019),(1100,138,1102),(1100,139,1191),(379,109,1100),(99,139,1191),(192,139,1191)]
end P
end
section
namespace Go.Pw
open Go Go.Pav
@[simp] def eI (x:Int):List AV:=[.int .i64 x]
@[simp] def eU8 (x:Int):List AV:=[.int .u8 x]
@[simp] def atI (x:Int):List AV:=[.int .u64 x]
@[simp] def eS (x:List UInt8):List AV:=[.str x]
@[simp] def eB (x:Bool):List AV:=[.bool x]
abbrev L1 (xs:List Int) (e:Bool):AV:=.ro 1 (xs.map eI) e
attribute [simp] Int.natCast_inj
attribute [-simp] List.getElem_cons_drop
section
variable (a n:Nat)
@[simp] theorem ahJ:((no_index (OfNat.ofNat a):Int) < (n:Int))=((no_index (OfNat.ofNat a):Nat) < n):=propext (Int.ofNat_lt (n:=(OfNat.ofNat a:Nat)) (m:=n))
@[simp] theorem ahB:((n:Int) < (no_index (OfNat.ofNat a):Int))=(n < (no_index (OfNat.ofNat a):Nat)):=propext (Int.ofNat_lt (m:=(OfNat.ofNat a:Nat)) (n:=n))
@[simp] theorem ah5:((no_index (OfNat.ofNat a):Int)≤(n:Int))=((no_index (OfNat.ofNat a):Nat)≤n):=propext (Int.ofNat_le (m:=(OfNat.ofNat a:Nat)) (n:=n))
@[simp] theorem ahz:((n:Int)≤(no_index (OfNat.ofNat a):Int))=(n≤(no_index (OfNat.ofNat a):Nat)):=propext (Int.ofNat_le (n:=(OfNat.ofNat a:Nat)) (m:=n))
end
theorem y8 {α β:Type} {f:α→β} {acc:List α} {n i:Nat} {z:β} (h:acc.length=i):(List.map f acc++List.replicate (n+1) z)[i]?=some z:=by
 rw [List.getElem?_append_right (by simp;omega)]
 simp [h]
theorem AO {α β:Type} {f:α→β} {acc:List α} {n i:Nat} {z v:β} (h:acc.length=i):(List.map f acc++List.replicate (n+1) z).set i v=List.map f acc++v::List.replicate n z:=by
 rw [List.set_append,if_neg (by simp;omega)]
 simp [h,List.replicate_succ]
@[simp] theorem aqc (a b:Nat):(a+(b+1)≤a)=False:=eq_false (by omega)
theorem drop_cons {α:Type} {l:List α} {i:Nat} (h:i < l.length):l.drop i=l[i]::l.drop (i+1):=List.drop_eq_getElem_cons h
theorem Je {α:Type} {g:α→Option α}:∀ {l:List α},(∀ x ∈ l,g x=some x)→bG g l=some l
 | [],_=>rfl
 | a::l,h=>by simp only [bG,h a List.mem_cons_self,ob,Je fun x hx=>h x (List.mem_cons_of_mem _ hx),om]
@[simp] theorem ank (h:aK) (n:Nat) (k:IntKind) (l:List Int):bG (bP h (n+1)) (List.map (AV.int k) l)=some (List.map (AV.int k) l) :=
 Je fun x hx=>by obtain ⟨y,_,rfl⟩:=List.mem_map.1 hx;rfl
@[simp] theorem aio (k:IntKind) (l:List Int):l.all (isC ∘ AV.int k)=true:=by simp [isC]
@[simp] theorem aed (l:List Bool):l.all (isC ∘ AV.bool)=true:=by simp [isC]
attribute [simp] qA
@[simp] theorem anB:((fun x:AV=>[x]) ∘ AV.int .i64)=eI:=rfl
@[simp] theorem aeI (a b:Nat):(a+b≤a)=(b=0):=propext (by omega)
theorem isE {α:Type} {l:List α} (h:¬ l=[]):l.isEmpty=false:=by cases l <;> simp_all
end Go.Pw
end
section
namespace Go.D
open Go Go.Pav Go.Pw P
attribute [-simp] List.getElem_cons_drop
variable {C:aG}
def inN (b:UInt8):Bool:=decide (97≤b.toNat∧b.toNat≤122∨48≤b.toNat∧b.toNat≤57)
def inT (b:UInt8):Bool:=decide (32≤b.toNat∧b.toNat≤126)
def isName (s:List UInt8):Bool:=decide (1≤s.length)&&decide (s.length≤16)&&s.all inN
def isText (s:List UInt8):Bool:=decide (s.length≤64)&&s.all inT
def ppB (f:Nat):Bool:=f == 502||f == 494||f == 497||f == 434||f == 518||f == 549||f == 402||f == 411||f == 446||f == 466||f == 429||f == 514||f == 374||f == 480||(decide (1000≤f)&&decide (f < 2000))
def ak (f:Nat):Bool:=f == 217||f == 459||decide (2000≤f)
structure ng (C:aG):Prop where
 ajV:C.fns.get 561=some aeh
 ai6:C.fns.get 517=some XF
 aiV:C.fns.get 557=some ahf
 ajZ:C.fns.get 556=some aaJ
 akb:C.fns.get 511=some X5
 ajN:C.fns.get 510=some acJ
 ad1:C.fns.get 560=some Vo
 ahg:C.fns.get 545=some YZ
 akf:C.fns.get 578=some agz
 ajM:C.fns.get 543=some afa
 aiQ:C.fns.get 495=some aau
 ai4:C.fns.get 516=some adx
 aks:C.fns.get 500=some Zg
 inl:C.inl=ak
 pp:C.pp=ppB
theorem Zx (H:ng C) (b:UInt8):FnW C 561 [.int .u8 b.toNat]=some (.bool (inN b)):=by
 rw [aH H.ajV rfl]
 unfold inN
 by_cases c1:97≤b.toNat <;> by_cases c2:b.toNat≤122 <;> by_cases c3:48≤b.toNat <;> by_cases c4:b.toNat≤57 <;> simp [aeh,c1,c2,c3,c4]
theorem VF (H:ng C) (s:List UInt8) (hl:s.length≤16):∀ n i,n+i=s.length →
 FB C ⟨[(14,.int .i64 i),(13,.int .i64 s.length),(0,.str s)],[],0⟩=some (.bool ((s.drop i).all inN)):=by
 intro n
 induction n with
 | zero =>
  intro i hi
  simp only [FB];rw [aj zJ.eq_1]
  have h1:s.drop i=[]:=List.drop_eq_nil_of_le (by omega)
  have h3:¬ i < s.length:=by omega
  simp [aj MK.eq_1,h1,h3]
 | succ n ih =>
  intro i hi
  have h1:i < s.length:=by omega
  have:=ih (i+1) (by omega)
  have hb:=Zx H s[i]
  simp only [FB] at this ⊢;rw [aj zJ.eq_1]
  rw [drop_cons h1]
  simp at this
  by_cases c:inN s[i]=true
  · simp (disch:=omega) [h1,aB,hb,c,H.inl,ak,H.pp,ppB,this]
  · simp (disch:=omega) [h1,aB,hb,c,H.inl,ak,H.pp,ppB]
theorem named_ok (H:ng C) (s:List UInt8):FnW C 517 [.str s]=some (.bool (isName s)):=by
 rw [aH H.ai6 rfl]
 unfold isName
 by_cases c1:1≤s.length
 · by_cases c2:s.length≤16
   · have:=VF H s c2 s.length 0 (by simp)
     simp only [FB] at this
     simp at this
     have c3:¬ ((s.length:Int) < 1):=by omega
     have c4:¬ (16 < (s.length:Int)):=by omega
     simp [XF,c1,c2,c3,c4,this]
   · have c3:¬ ((s.length:Int) < 1):=by omega
     have c4:(16 < (s.length:Int)):=by omega
     simp [XF,c1,c2,c3,c4]
 · have c3:((s.length:Int) < 1):=by omega
   simp [XF,c1,c3]
theorem BG (b:UInt8):(inN b=true∧(97≤b.toNat∧b.toNat≤122∨¬ 97≤b.toNat∧48≤b.toNat∧b.toNat≤57))∨(inN b=false∧(¬ 97≤b.toNat∧(¬ 48≤b.toNat∨¬ b.toNat≤57)∨¬ b.toNat≤122∧¬ b.toNat≤57)):=by
 unfold inN
 by_cases c:97≤b.toNat∧b.toNat≤122∨48≤b.toNat∧b.toNat≤57
 · left;exact ⟨decide_eq_true c,by omega⟩
 · right;exact ⟨decide_eq_false c,by omega⟩
theorem UD (H:ng C) (s:List UInt8) (hl:s.length≤16∨True):∀ n i,n+i=min s.length 17 →
 FX C ⟨[(3,.int .i64 i),(0,.str s)],[],0⟩=some (.bool (((s.take 17).drop i).all inN&&decide (1≤s.length)&&decide (s.length≤16))):=by
 intro n
 induction n with
 | zero =>
  intro i hi
  simp only [FX];rw [aj Ar.eq_1]
  have h1:(s.take 17).drop i=[]:=List.drop_eq_nil_of_le (by simp;omega)
  by_cases h3:i < s.length
  · have h4:¬ i < 17:=by omega
    have h4':¬ (i:Int) < 17:=by omega
    have h5:¬ s.length≤16:=by omega
    have h6:¬ (s.length:Int)≤16:=by omega
    have h7:1≤(s.length:Int):=by omega
    simp [aj xJ.eq_1,h1,h3,h4,h4',h5,h6,h7]
  · by_cases h5:s.length≤16 <;> by_cases h6:1≤s.length
    · have h7:(s.length:Int)≤16:=by omega
      have h8:1≤(s.length:Int):=by omega
      simp [aj xJ.eq_1,h1,h3,h5,h6,h7,h8]
    · have h7:(s.length:Int)≤16:=by omega
      have h8:¬ 1≤(s.length:Int):=by omega
      simp [aj xJ.eq_1,h1,h3,h5,h6,h7,h8]
    · have h7:¬ (s.length:Int)≤16:=by omega
      have h8:1≤(s.length:Int):=by omega
      simp [aj xJ.eq_1,h1,h3,h5,h6,h7,h8]
    · omega
 | succ n ih =>
  intro i hi
  have h1:i < s.length:=by omega
  have h2:(i:Int) < 17:=by omega
  have:=ih (i+1) (by omega)
  have hd:(s.take 17).drop i=s[i]::(s.take 17).drop (i+1):=by
   rw [drop_cons (show i < (s.take 17).length by simp;omega)];simp
  rw [hd]
  simp only [FX] at this ⊢;rw [aj Ar.eq_1]
  simp at this
  have key:=BG s[i]
  by_cases q1:97≤s[i].toNat <;> by_cases q2:122 < s[i].toNat <;> by_cases q3:48≤s[i].toNat <;> by_cases q4:57 < s[i].toNat <;> first
   | (exfalso;omega)
   | (have c : inN s[i] = true := by rcases key with ⟨c, _⟩ | ⟨_, q⟩ <;> first | exact c | (exfalso; omega)
      simp (disch:=omega) [h1,h2,aB,c,q1,q2,q3,q4,this];done)
   | (have c : inN s[i] = false := by rcases key with ⟨_, q⟩ | ⟨c, _⟩ <;> first | exact c | (exfalso; omega)
      simp (disch:=omega) [h1,h2,aB,c,q1,q2,q3,q4];done)
theorem oD (H:ng C) (s:List UInt8):FnW C 557 [.str s]=some (.bool (isName s)):=by
 rw [aH H.aiV rfl]
 have:=UD H s (.inr trivial) (min s.length 17) 0 (by simp)
 simp only [FX] at this
 simp only [List.drop_zero] at this
 have e:((s.take 17).all inN&&decide (1≤s.length)&&decide (s.length≤16))=isName s:=by
  unfold isName
  by_cases c:s.length≤16
  · rw [List.take_of_length_le (by omega)];simp [c];rw [Bool.and_comm]
  · simp [c]
 rw [e] at this
 simp at this
 simp [ahf,this]
theorem Zc (H:ng C) (s:List UInt8) (hl:s.length≤64):∀ n i,n+i=s.length →
 ER C ⟨[(3,.int .i64 i),(0,.str s)],[],0⟩=some (.bool ((s.drop i).all inT)):=by
 intro n
 induction n with
 | zero =>
  intro i hi
  simp only [ER];rw [aj zG.eq_1]
  have h1:s.drop i=[]:=List.drop_eq_nil_of_le (by omega)
  have h3:¬ i < s.length:=by omega
  simp [aj N9.eq_1,h1,h3]
 | succ n ih =>
  intro i hi
  have h1:i < s.length:=by omega
  have:=ih (i+1) (by omega)
  simp only [ER] at this ⊢;rw [aj zG.eq_1]
  rw [drop_cons h1]
  simp at this
  by_cases c1:32≤s[i].toNat <;> by_cases c2:126 < s[i].toNat
  · have c:inT s[i]=false:=decide_eq_false (fun q=>by omega)
    simp (disch:=omega) [h1,aB,c,c1,c2]
  · have c:inT s[i]=true:=decide_eq_true ⟨c1,by omega⟩
    simp (disch:=omega) [h1,aB,c,c1,c2,this]
  · omega
  · have c:inT s[i]=false:=decide_eq_false (fun q=>c1 q.1)
    simp (disch:=omega) [h1,aB,c,c1,c2]
theorem Bo (H:ng C) (s:List UInt8):FnW C 556 [.str s]=some (.bool (isText s)):=by
 rw [aH H.ajZ rfl]
 unfold isText
 by_cases c2:s.length≤64
 · have:=Zc H s c2 s.length 0 (by simp)
   simp only [ER] at this
   simp at this
   have c4:¬ (64 < (s.length:Int)):=by omega
   simp [aaJ,c2,c4,this]
 · have c4:(64 < (s.length:Int)):=by omega
   simp [aaJ,c2,c4]
theorem Ul (H:ng C) (s:List UInt8) (hl:s.length≤64):∀ n i,n+i=s.length →
 Et C ⟨[(3,.int .i64 i),(0,.str s)],[],0⟩=some (.int .i64 (if (s.drop i).all inT=true then 1 else 0)):=by
 intro n
 induction n with
 | zero =>
  intro i hi
  simp only [Et];rw [aj yM.eq_1]
  have h1:s.drop i=[]:=List.drop_eq_nil_of_le (by omega)
  have h3:¬ i < s.length:=by omega
  simp [aj Og.eq_1,h1,h3]
 | succ n ih =>
  intro i hi
  have h1:i < s.length:=by omega
  have:=ih (i+1) (by omega)
  simp only [Et] at this ⊢;rw [aj yM.eq_1]
  rw [drop_cons h1]
  generalize hX:((s.drop (i+1)).all inT)=X at *
  simp at this
  rw [List.all_cons,hX]
  by_cases c1:32≤s[i].toNat <;> by_cases c2:126 < s[i].toNat
  · have c:inT s[i]=false:=decide_eq_false (fun q=>by omega)
    simp (disch:=omega) [h1,aB,c,c1,c2]
  · have c:inT s[i]=true:=decide_eq_true ⟨c1,by omega⟩
    simp (disch:=omega) [h1,aB,c,c1,c2,this]
  · omega
  · have c:inT s[i]=false:=decide_eq_false (fun q=>c1 q.1)
    simp (disch:=omega) [h1,aB,c,c1,c2]
theorem acf (H:ng C) (s:List UInt8):FnW C 510 [.str s]=some (.int .i64 (if isText s=true then 1 else 0)):=by
 rw [aH H.ajN rfl]
 unfold isText
 by_cases c2:s.length≤64
 · have:=Ul H s c2 s.length 0 (by simp)
   simp only [Et] at this
   simp only [List.drop_zero] at this
   generalize hX:s.all inT=X at *
   simp at this
   have c4:¬ (64 < (s.length:Int)):=by omega
   simp [acJ,c2,c4,this]
 · have c4:(64 < (s.length:Int)):=by omega
   simp [acJ,c2,c4]
structure Pred (C:aG) (g:Nat) (Q:UInt8→Bool):Prop where
 asc:∀ b:UInt8,b.toNat < 128→FnW C g [.int .i32 b.toNat]=some (.bool (!Q b))
 high:∀ r:Nat,128≤r→FnW C g [.int .i32 r]=some (.bool true)
 qh:∀ b:UInt8,128≤b.toNat→Q b=false
 ne:ppB g=false
 ni:ak g=false
theorem XM (s:List UInt8) (pos:Nat) (h:pos < s.length) (ha:s[pos].toNat < 128):Utf8.decode ⟨⟨s⟩⟩ pos=(s[pos].toNat,1):=decode_ascii ⟨⟨s⟩⟩ pos h ha
theorem adA (s:List UInt8) (pos:Nat) (h:pos < s.length) (ha:128≤s[pos].toNat):128≤(Utf8.decode ⟨⟨s⟩⟩ pos).1∧1≤(Utf8.decode ⟨⟨s⟩⟩ pos).2:=decode_high ⟨⟨s⟩⟩ pos h ha
theorem Ub (H:ng C) {g:Nat} {Q:UInt8→Bool} (G:Pred C g Q) (s:List UInt8):∀ n pos,n+pos=s.length →
 ∃ v:Int,wS C ⟨[(10,.ptr 0 0 0),(2,.bool true),(1,.fn g [])],[(0,.iter s pos)],1⟩=some (.int .i64 v)∧decide (v < 0)=(s.drop pos).all Q:=by
 intro n
 induction n with
 | zero =>
  intro pos hp
  simp only [wS];rw [aj rQ.eq_1]
  have h1:s.drop pos=[]:=List.drop_eq_nil_of_le (by omega)
  have h3:¬ pos < s.length:=by omega
  exact ⟨-1,by simp [aj LY.eq_1,h3],by simp [h1]⟩
 | succ n ih =>
  intro pos hp
  have h1:pos < s.length:=by omega
  have hN:=G.ne;have hI:=G.ni
  rw [drop_cons h1]
  by_cases ha:s[pos].toNat < 128
  · have hd:=XM s pos h1 ha
    have hb:=G.asc s[pos] ha
    by_cases c:Q s[pos]=true
    · obtain ⟨v,hv,hq⟩:=ih (pos+1) (by omega)
      refine ⟨v,?_,by simp [hq,c]⟩
      simp only [wS] at hv ⊢;rw [aj rQ.eq_1]
      simp (disch:=omega) [h1,hd,hb,c,H.inl,hI,H.pp,hN,hv]
    · refine ⟨pos,?_,by simp [c]⟩
      simp only [wS];rw [aj rQ.eq_1]
      simp (disch:=omega) [h1,hd,hb,c,H.inl,hI,H.pp,hN]
  · have hd:=adA s pos h1 (by omega)
    have hb:=G.high (Utf8.decode ⟨⟨s⟩⟩ pos).1 hd.1
    have hq:=G.qh s[pos] (by omega)
    refine ⟨pos,?_,by simp [hq]⟩
    simp only [wS];rw [aj rQ.eq_1]
    obtain ⟨D,hD⟩:∃ D,Utf8.decode ⟨⟨s⟩⟩ pos=D:=⟨_,rfl⟩
    rw [hD] at hb
    simp (disch:=omega) [h1,hD,hb,H.inl,hI,H.pp,hN]
theorem Ah (H:ng C) {g:Nat} {Q:UInt8→Bool} (G:Pred C g Q) (s:List UInt8) :
 ∃ v:Int,FnW C 543 [.str s,.fn g []]=some (.int .i64 v)∧decide (v < 0)=s.all Q:=by
 obtain ⟨v,h,q⟩:=Ub H G s s.length 0 (by simp)
 refine ⟨v,?_,q⟩
 have h2:FnW C 578 [.str s,.fn g [],.bool true]=some (.int .i64 v):=by
  rw [aH H.akf rfl]
  simp only [wS] at h
  simp [agz,h]
 rw [aH H.ajM rfl]
 simp [afa,H.inl,ak,H.pp,ppB,h2]
theorem DV (H:ng C) {g:Nat} {Q:UInt8→Bool} (G:Pred C g Q) (s:List UInt8) :
 FnW C 495 [.str s,.fn g []]=some (.bool (!s.all Q)):=by
 obtain ⟨v,h,q⟩:=Ah H G s
 rw [aH H.aiQ rfl,← q]
 by_cases c:v < 0
 · have c':¬ 0≤v:=by omega
   simp [aau,H.inl,ak,H.pp,ppB,h,c,c']
 · have c':0≤v:=by omega
   simp [aau,H.inl,ak,H.pp,ppB,h,c,c']
theorem ae1 (H:ng C):Pred C 560 inT where
 asc b hb:=by
  rw [aH H.ad1 rfl]
  by_cases c1:32≤b.toNat <;> by_cases c2:126 < b.toNat
  · have c:inT b=false:=decide_eq_false (fun q=>by omega)
    simp [Vo,c,c1,c2]
  · have c:inT b=true:=decide_eq_true ⟨c1,by omega⟩
    simp [Vo,c,c1,c2]
  · omega
  · have c:inT b=false:=decide_eq_false (fun q=>c1 q.1)
    simp [Vo,c,c1,c2]
 high r hr:=by
  rw [aH H.ad1 rfl]
  have h1:32≤r:=by omega
  have h2:126 < r:=by omega
  simp [Vo,h1,h2]
 qh b hb:=decide_eq_false (fun q=>by omega)
 ne:=by rfl
 ni:=by rfl
theorem afG (H:ng C):Pred C 545 inN where
 asc b hb:=by
  rw [aH H.ahg rfl]
  have key:=BG b
  by_cases q1:97≤b.toNat <;> by_cases q2:122 < b.toNat <;> by_cases q3:48≤b.toNat <;> by_cases q4:57 < b.toNat <;> first
   | (exfalso;omega)
   | (have c : inN b = true := by rcases key with ⟨c, _⟩ | ⟨_, q⟩ <;> first | exact c | (exfalso; omega)
      simp [YZ,c,q1,q2,q3,q4];done)
   | (have c : inN b = false := by rcases key with ⟨_, q⟩ | ⟨c, _⟩ <;> first | exact c | (exfalso; omega)
      simp [YZ,c,q1,q2,q3,q4];done)
 high r hr:=by
  rw [aH H.ahg rfl]
  have h1:97≤r:=by omega
  have h2:122 < r:=by omega
  have h3:48≤r:=by omega
  have h4:57 < r:=by omega
  simp [YZ,h1,h2,h3,h4]
 qh b hb:=by unfold inN;exact decide_eq_false (fun q=>by omega)
 ne:=by rfl
 ni:=by rfl
theorem Xl (H:ng C) (s:List UInt8):FnW C 516 [.str s]=some (.bool (isText s)):=by
 obtain ⟨v,h,q⟩:=Ah H (ae1 H) s
 rw [aH H.ai4 rfl]
 unfold isText
 rw [← q]
 by_cases c2:s.length≤64
 · have c4:(s.length:Int)≤64:=by omega
   simp [adx,c2,c4,H.inl,ak,H.pp,ppB,h]
 · have c4:¬ ((s.length:Int)≤64):=by omega
   simp [adx,c2,c4]
theorem acT (H:ng C) (s:List UInt8):FnW C 500 [.str s]=some (.bool (isName s)):=by
 have h:=DV H (afG H) s
 rw [aH H.aks rfl]
 unfold isName
 by_cases c1:s=[]
 · subst c1;simp [Zg]
 · have c3:1≤s.length:=List.length_pos_iff.2 c1
   by_cases c2:s.length≤16
   · have c4:(s.length:Int)≤16:=by omega
     simp [Zg,c1,c2,c3,c4,H.inl,ak,H.pp,ppB,h]
   · have c4:¬ ((s.length:Int)≤16):=by omega
     simp [Zg,c1,c2,c4]
end Go.D
end
section
namespace Go.Pav
open Go
def JL (ids:List (Nat × Nat)) (f:FuncId):Option Nat :=
 match ids with
 | []=>none
 | (g,k)::r=>if k=f then some g else JL r f
def Gf (ids:List (Nat × Nat)) (g:Nat):FuncId :=
 match get ids g with
 | some k=>k
 | none=>0
theorem Yq:∀ {ids:List (Nat × Nat)} {f:FuncId} {g:Nat},JL ids f=some g→(g,f) ∈ ids:=by
 intro ids
 induction ids with
 | nil=>intro f g h;simp [JL] at h
 | cons x r ih =>
  intro f g h
  obtain ⟨a,k⟩:=x
  simp only [JL] at h
  split at h
  · rename_i hk
    cases h;subst hk;exact List.mem_cons_self
  · exact List.mem_cons_of_mem _ (ih h)
theorem ae2 {ids:List (Nat × Nat)} (hc:(ids.all fun x=>decide (Gf ids x.1=x.2))=true):∀ f g,JL ids f=some g→Gf ids g=f:=by
 intro f g h
 have:=List.all_eq_true.1 hc _ (Yq h)
 simpa using this
def wR (p:Nat→CFn→Prop):Tree→Prop
 | .leaf=>True
 | .node l k f r=>wR p l∧p k f∧wR p r
theorem wR.get {p:Nat→CFn→Prop}:∀ {t:Tree},wR p t→∀ {g:Nat} {cf:CFn},t.get g=some cf→p g cf:=by
 intro t
 induction t with
 | leaf=>intro _ g cf h;simp [Tree.get] at h
 | node l k f r ihl ihr =>
  intro ⟨h1,h2,h3⟩ g cf h
  simp only [Tree.get] at h
  split at h
  · rename_i hk;cases h;subst hk;exact h2
  · split at h
    · exact ihl h1 h
    · exact ihr h3 h
def Qb:List (Nat × FuncId × Nat)→Nat→FuncId→Option Nat
 | [],_,_=>none
 | (g,f,k)::r,g',f'=>if g=g'∧f=f' then some k else Qb r g' f'
theorem Ze:∀ {alts:List (Nat × FuncId × Nat)} {g:Nat} {f:FuncId} {k:Nat},Qb alts g f=some k→(g,f,k) ∈ alts:=by
 intro alts
 induction alts with
 | nil=>intro g f k h;simp [Qb] at h
 | cons x r ih =>
  intro g f k h
  obtain ⟨a,b,c⟩:=x
  simp only [Qb] at h
  split at h
  · rename_i hk
    obtain ⟨rfl,rfl⟩:=hk
    cases h;exact List.mem_cons_self
  · exact List.mem_cons_of_mem _ (ih h)
def agf (ids:List (Nat × Nat)) (alts:List (Nat × FuncId × Nat)) (g:Nat) (f:FuncId):Option Nat :=
 match Qb alts g f with
 | some k=>some k
 | none=>JL ids f
def aP (P:Program) (ids:List (Nat × Nat)) (alts:List (Nat × FuncId × Nat)) (g:Nat) (cf:CFn):Prop:=∃ fn,P.funcs[Gf ids g]?=some fn∧(cFn P (agf ids alts g) fn).map GY=some (GY cf)
theorem linked {P:Program} {ids:List (Nat × Nat)} {alts:List (Nat × FuncId × Nat)} {C:Prog} (hc:(ids.all fun x=>decide (Gf ids x.1=x.2))=true) (ha:(alts.all fun x=>decide (Gf ids x.2.2=x.2.1))=true)
 (ht:wR (aP P ids alts) C.fns) (hm:P.follows .mixedOrders=true):Linked P (agf ids alts) (Gf ids) C:=by
 refine ⟨fun g f k h=>?_,fun _ _ h=>ht.get h,hm⟩
 unfold agf at h
 split at h
 · rename_i k' hk
   cases h
   simpa using List.all_eq_true.1 ha _ (Ze hk)
 · exact ae2 hc _ _ h
end Go.Pav
end
section
set_option maxRecDepth 100000
namespace P
open Go Go.Pav Go.Pw Go.Proofs
theorem l0:aP Tryz.prog ids alts 0 (aO w0):=⟨Tryz.f2,Tryz.func2,by kernel_rfl⟩
theorem l92:aP Tryz.prog ids alts 92 (aO w92):=⟨Tryz.f5,Tryz.func5,by kernel_rfl⟩
theorem l97:aP Tryz.prog ids alts 97 (aO w97):=⟨Tryz.f75,Tryz.func75,by kernel_rfl⟩
theorem l99:aP Tryz.prog ids alts 99 (aO w99):=⟨Tryz.f110,Tryz.func110,by kernel_rfl⟩
theorem apS:aP Tryz.prog ids alts 102 (aO Zj):=⟨Tryz.f138,Tryz.func138,by kernel_rfl⟩
theorem apL:aP Tryz.prog ids alts 111 (aO af5):=⟨Tryz.f26,Tryz.func26,by kernel_rfl⟩
theorem ata:aP Tryz.prog ids alts 112 (aO QI):=⟨Tryz.f49,Tryz.func49,by kernel_rfl⟩
theorem aqL:aP Tryz.prog ids alts 115 (aO Ny):=⟨Tryz.f37,Tryz.func37,by kernel_rfl⟩
theorem asf:aP Tryz.prog ids alts 120 (aO Uf):=⟨Tryz.f48,Tryz.func48,by kernel_rfl⟩
theorem arT:aP Tryz.prog ids alts 121 (aO Zf):=⟨Tryz.f123,Tryz.func123,by kernel_rfl⟩
theorem apK:aP Tryz.prog ids alts 122 (aO ZJ):=⟨Tryz.f58,Tryz.func58,by kernel_rfl⟩
theorem asu:aP Tryz.prog ids alts 126 (aO aeK):=⟨Tryz.f30,Tryz.func30,by kernel_rfl⟩
theorem apF:aP Tryz.prog ids alts 130 (aO ag2):=⟨Tryz.f7,Tryz.func7,by kernel_rfl⟩
theorem aqX:aP Tryz.prog ids alts 131 (aO abh):=⟨Tryz.f84,Tryz.func84,by kernel_rfl⟩
theorem arW:aP Tryz.prog ids alts 132 (aO adb):=⟨Tryz.f87,Tryz.func87,by kernel_rfl⟩
theorem apy:aP Tryz.prog ids alts 133 (aO agQ):=⟨Tryz.f51,Tryz.func51,by kernel_rfl⟩
theorem apV:aP Tryz.prog ids alts 135 (aO abw):=⟨Tryz.f22,Tryz.func22,by kernel_rfl⟩
theorem aqn:aP Tryz.prog ids alts 137 (aO ag4):=⟨Tryz.f52,Tryz.func52,by kernel_rfl⟩
theorem aps:aP Tryz.prog ids alts 140 (aO agk):=⟨Tryz.f137,Tryz.func137,by kernel_rfl⟩
theorem aq0:aP Tryz.prog ids alts 149 (aO ag3):=⟨Tryz.f85,Tryz.func85,by kernel_rfl⟩
theorem aqu:aP Tryz.prog ids alts 160 (aO acV):=⟨Tryz.f19,Tryz.func19,by kernel_rfl⟩
theorem aqo:aP Tryz.prog ids alts 161 (aO abg):=⟨Tryz.f80,Tryz.func80,by kernel_rfl⟩
theorem aqr:aP Tryz.prog ids alts 172 (aO aa6):=⟨Tryz.f20,Tryz.func20,by kernel_rfl⟩
theorem ap4:aP Tryz.prog ids alts 173 (aO ahv):=⟨Tryz.f25,Tryz.func25,by kernel_rfl⟩
theorem apU:aP Tryz.prog ids alts 174 (aO acW):=⟨Tryz.f15,Tryz.func15,by kernel_rfl⟩
theorem arQ:aP Tryz.prog ids alts 175 (aO XG):=⟨Tryz.f4,Tryz.func4,by kernel_rfl⟩
theorem arX:aP Tryz.prog ids alts 176 (aO QC):=⟨Tryz.f27,Tryz.func27,by kernel_rfl⟩
theorem ap5:aP Tryz.prog ids alts 177 (aO agd):=⟨Tryz.f28,Tryz.func28,by kernel_rfl⟩
theorem arl:aP Tryz.prog ids alts 178 (aO amS):=⟨Tryz.f6,Tryz.func6,by kernel_rfl⟩
theorem apM:aP Tryz.prog ids alts 191 (aO Ye):=⟨Tryz.f139,Tryz.func139,by kernel_rfl⟩
theorem apH:aP Tryz.prog ids alts 192 (aO adp):=⟨Tryz.f140,Tryz.func140,by kernel_rfl⟩
theorem asI:aP Tryz.prog ids alts 201 (aO Tc):=⟨Tryz.f40,Tryz.func40,by kernel_rfl⟩
theorem aq8:aP Tryz.prog ids alts 219 (aO ZR):=⟨Tryz.f112,Tryz.func112,by kernel_rfl⟩
theorem aqK:aP Tryz.prog ids alts 221 (aO aeJ):=⟨Tryz.f114,Tryz.func114,by kernel_rfl⟩
theorem apD:aP Tryz.prog ids alts 222 (aO aez):=⟨Tryz.f113,Tryz.func113,by kernel_rfl⟩
theorem arY:aP Tryz.prog ids alts 223 (aO Yb):=⟨Tryz.f39,Tryz.func39,by kernel_rfl⟩
theorem aqz:aP Tryz.prog ids alts 224 (aO agK):=⟨Tryz.f42,Tryz.func42,by kernel_rfl⟩
theorem asj:aP Tryz.prog ids alts 225 (aO agw):=⟨Tryz.f68,Tryz.func68,by kernel_rfl⟩
theorem apZ:aP Tryz.prog ids alts 226 (aO Ti):=⟨Tryz.f141,Tryz.func141,by kernel_rfl⟩
theorem asg:aP Tryz.prog ids alts 227 (aO afC):=⟨Tryz.f74,Tryz.func74,by kernel_rfl⟩
theorem apl:aP Tryz.prog ids alts 230 (aO XH):=⟨Tryz.f67,Tryz.func67,by kernel_rfl⟩
theorem apx:aP Tryz.prog ids alts 231 (aO acE):=⟨Tryz.f69,Tryz.func69,by kernel_rfl⟩
theorem asQ:aP Tryz.prog ids alts 232 (aO aaS):=⟨Tryz.f70,Tryz.func70,by kernel_rfl⟩
theorem asU:aP Tryz.prog ids alts 235 (aO Ym):=⟨Tryz.f34,Tryz.func34,by kernel_rfl⟩
theorem ap1:aP Tryz.prog ids alts 236 (aO Qc):=⟨Tryz.f38,Tryz.func38,by kernel_rfl⟩
theorem arx:aP Tryz.prog ids alts 239 (aO afq):=⟨Tryz.f36,Tryz.func36,by kernel_rfl⟩
theorem apI:aP Tryz.prog ids alts 240 (aO af2):=⟨Tryz.f33,Tryz.func33,by kernel_rfl⟩
theorem arJ:aP Tryz.prog ids alts 246 (aO abu):=⟨Tryz.f47,Tryz.func47,by kernel_rfl⟩
theorem apo:aP Tryz.prog ids alts 247 (aO agP):=⟨Tryz.f81,Tryz.func81,by kernel_rfl⟩
theorem arv:aP Tryz.prog ids alts 248 (aO LU):=⟨Tryz.f143,Tryz.func143,by kernel_rfl⟩
theorem apX:aP Tryz.prog ids alts 249 (aO ae6):=⟨Tryz.f90,Tryz.func90,by kernel_rfl⟩
theorem asq:aP Tryz.prog ids alts 250 (aO YA):=⟨Tryz.f91,Tryz.func91,by kernel_rfl⟩
theorem apP:aP Tryz.prog ids alts 251 (aO abp):=⟨Tryz.f119,Tryz.func119,by kernel_rfl⟩
theorem asY:aP Tryz.prog ids alts 252 (aO Kr):=⟨Tryz.f120,Tryz.func120,by kernel_rfl⟩
theorem atb:aP Tryz.prog ids alts 253 (aO agD):=⟨Tryz.f60,Tryz.func60,by kernel_rfl⟩
theorem apT:aP Tryz.prog ids alts 256 (aO afV):=⟨Tryz.f18,Tryz.func18,by kernel_rfl⟩
theorem ard:aP Tryz.prog ids alts 270 (aO ad7):=⟨Tryz.f31,Tryz.func31,by kernel_rfl⟩
theorem asJ:aP Tryz.prog ids alts 271 (aO UF):=⟨Tryz.f32,Tryz.func32,by kernel_rfl⟩
theorem l272:aP Tryz.prog ids alts 272 (aO YE):=⟨Tryz.f121,Tryz.func121,by kernel_rfl⟩
theorem ate:aP Tryz.prog ids alts 273 (aO agR):=⟨Tryz.f88,Tryz.func88,by kernel_rfl⟩
theorem ar0:aP Tryz.prog ids alts 274 (aO yB):=⟨Tryz.f55,Tryz.func55,by kernel_rfl⟩
theorem asy:aP Tryz.prog ids alts 275 (aO Lj):=⟨Tryz.f56,Tryz.func56,by kernel_rfl⟩
theorem arF:aP Tryz.prog ids alts 276 (aO ahh):=⟨Tryz.f57,Tryz.func57,by kernel_rfl⟩
theorem aqk:aP Tryz.prog ids alts 282 (aO ahr):=⟨Tryz.f155,Tryz.func155,by kernel_rfl⟩
theorem as8:aP Tryz.prog ids alts 304 (aO afc):=⟨Tryz.f122,Tryz.func122,by kernel_rfl⟩
theorem atf:aP Tryz.prog ids alts 312 (aO aeM):=⟨Tryz.f82,Tryz.func82,by kernel_rfl⟩
theorem arD:aP Tryz.prog ids alts 313 (aO aer):=⟨Tryz.f116,Tryz.func116,by kernel_rfl⟩
theorem arp:aP Tryz.prog ids alts 314 (aO Zh):=⟨Tryz.f83,Tryz.func83,by kernel_rfl⟩
theorem aqC:aP Tryz.prog ids alts 318 (aO QZ):=⟨Tryz.f41,Tryz.func41,by kernel_rfl⟩
theorem aq2:aP Tryz.prog ids alts 319 (aO abQ):=⟨Tryz.f50,Tryz.func50,by kernel_rfl⟩
theorem ap3:aP Tryz.prog ids alts 321 (aO UA):=⟨Tryz.f23,Tryz.func23,by kernel_rfl⟩
theorem ar1:aP Tryz.prog ids alts 322 (aO aeS):=⟨Tryz.f115,Tryz.func115,by kernel_rfl⟩
theorem aqa:aP Tryz.prog ids alts 323 (aO aeE):=⟨Tryz.f59,Tryz.func59,by kernel_rfl⟩
theorem asM:aP Tryz.prog ids alts 327 (aO ac0):=⟨Tryz.f24,Tryz.func24,by kernel_rfl⟩
theorem ars:aP Tryz.prog ids alts 340 (aO afA):=⟨Tryz.f157,Tryz.func157,by kernel_rfl⟩
theorem apC:aP Tryz.prog ids alts 344 (aO IX):=⟨Tryz.f11,Tryz.func11,by kernel_rfl⟩
theorem aq5:aP Tryz.prog ids alts 347 (aO afR):=⟨Tryz.f17,Tryz.func17,by kernel_rfl⟩
theorem arq:aP Tryz.prog ids alts 348 (aO afZ):=⟨Tryz.f14,Tryz.func14,by kernel_rfl⟩
theorem apt:aP Tryz.prog ids alts 349 (aO aey):=⟨Tryz.f21,Tryz.func21,by kernel_rfl⟩
theorem ar5:aP Tryz.prog ids alts 350 (aO NV):=⟨Tryz.f16,Tryz.func16,by kernel_rfl⟩
theorem arP:aP Tryz.prog ids alts 351 (aO Yz):=⟨Tryz.f12,Tryz.func12,by kernel_rfl⟩
theorem aqb:aP Tryz.prog ids alts 352 (aO al5):=⟨Tryz.f29,Tryz.func29,by kernel_rfl⟩
theorem atg:aP Tryz.prog ids alts 367 (aO afd):=⟨Tryz.f156,Tryz.func156,by kernel_rfl⟩
theorem aqR:aP Tryz.prog ids alts 379 (aO BM):=⟨Tryz.f76,Tryz.func76,by kernel_rfl⟩
theorem aq3:aP Tryz.prog ids alts 398 (aO Td):=⟨Tryz.f72,Tryz.func72,by kernel_rfl⟩
theorem ar4:aP Tryz.prog ids alts 399 (aO aft):=⟨Tryz.f73,Tryz.func73,by kernel_rfl⟩
theorem asH:aP Tryz.prog ids alts 400 (aO abD):=⟨Tryz.f142,Tryz.func142,by kernel_rfl⟩
theorem ark:aP Tryz.prog ids alts 402 (aO acp):=⟨Tryz.f77,Tryz.func77,by kernel_rfl⟩
theorem aru:aP Tryz.prog ids alts 403 (aO agW):=⟨Tryz.f78,Tryz.func78,by kernel_rfl⟩
theorem apE:aP Tryz.prog ids alts 404 (aO ags):=⟨Tryz.f98,Tryz.func98,by kernel_rfl⟩
theorem aqe:aP Tryz.prog ids alts 405 (aO agO):=⟨Tryz.f99,Tryz.func99,by kernel_rfl⟩
theorem arf:aP Tryz.prog ids alts 406 (aO adZ):=⟨Tryz.f65,Tryz.func65,by kernel_rfl⟩
theorem aqF:aP Tryz.prog ids alts 407 (aO aaC):=⟨Tryz.f53,Tryz.func53,by kernel_rfl⟩
theorem asZ:aP Tryz.prog ids alts 408 (aO aav):=⟨Tryz.f71,Tryz.func71,by kernel_rfl⟩
theorem arN:aP Tryz.prog ids alts 411 (aO afE):=⟨Tryz.f117,Tryz.func117,by kernel_rfl⟩
theorem asN:aP Tryz.prog ids alts 412 (aO agA):=⟨Tryz.f118,Tryz.func118,by kernel_rfl⟩
theorem aqQ:aP Tryz.prog ids alts 422 (aO GH):=⟨Tryz.f61,Tryz.func61,by kernel_rfl⟩
theorem arI:aP Tryz.prog ids alts 423 (aO aei):=⟨Tryz.f62,Tryz.func62,by kernel_rfl⟩
theorem asn:aP Tryz.prog ids alts 424 (aO Q9):=⟨Tryz.f63,Tryz.func63,by kernel_rfl⟩
theorem arb:aP Tryz.prog ids alts 425 (aO Jb):=⟨Tryz.f64,Tryz.func64,by kernel_rfl⟩
theorem ash:aP Tryz.prog ids alts 426 (aO afx):=⟨Tryz.f89,Tryz.func89,by kernel_rfl⟩
theorem as4:aP Tryz.prog ids alts 433 (aO GV):=⟨Tryz.f163,Tryz.func163,by kernel_rfl⟩
theorem asC:aP Tryz.prog ids alts 434 (aO xR):=⟨Tryz.f164,Tryz.func164,by kernel_rfl⟩
theorem asF:aP Tryz.prog ids alts 439 (aO ac3):=⟨Tryz.f160,Tryz.func160,by kernel_rfl⟩
theorem aqi:aP Tryz.prog ids alts 441 (aO ac8):=⟨Tryz.f96,Tryz.func96,by kernel_rfl⟩
theorem aqm:aP Tryz.prog ids alts 442 (aO aaq):=⟨Tryz.f97,Tryz.func97,by kernel_rfl⟩
theorem aqH:aP Tryz.prog ids alts 459 (aO ag0):=⟨Tryz.f165,Tryz.func165,by kernel_rfl⟩
theorem asr:aP Tryz.prog ids alts 460 (aO adG):=⟨Tryz.f166,Tryz.func166,by kernel_rfl⟩
theorem arw:aP Tryz.prog ids alts 464 (aO Gx):=⟨Tryz.f9,Tryz.func9,by kernel_rfl⟩
theorem as7:aP Tryz.prog ids alts 465 (aO aeU):=⟨Tryz.f13,Tryz.func13,by kernel_rfl⟩
theorem as6:aP Tryz.prog ids alts 466 (aO ad9):=⟨Tryz.f43,Tryz.func43,by kernel_rfl⟩
theorem ase:aP Tryz.prog ids alts 467 (aO acZ):=⟨Tryz.f44,Tryz.func44,by kernel_rfl⟩
theorem aqh:aP Tryz.prog ids alts 494 (aO acs):=⟨Tryz.f101,Tryz.func101,by kernel_rfl⟩
theorem aqy:aP Tryz.prog ids alts 495 (aO aau):=⟨Tryz.f102,Tryz.func102,by kernel_rfl⟩
theorem aqt:aP Tryz.prog ids alts 496 (aO TM):=⟨Tryz.f103,Tryz.func103,by kernel_rfl⟩
theorem ap6:aP Tryz.prog ids alts 497 (aO adN):=⟨Tryz.f104,Tryz.func104,by kernel_rfl⟩
theorem aqN:aP Tryz.prog ids alts 498 (aO acd):=⟨Tryz.f105,Tryz.func105,by kernel_rfl⟩
theorem aqA:aP Tryz.prog ids alts 499 (aO aen):=⟨Tryz.f106,Tryz.func106,by kernel_rfl⟩
theorem aqw:aP Tryz.prog ids alts 500 (aO Zg):=⟨Tryz.f107,Tryz.func107,by kernel_rfl⟩
theorem asR:aP Tryz.prog ids alts 501 (aO IL):=⟨Tryz.f108,Tryz.func108,by kernel_rfl⟩
theorem ap8:aP Tryz.prog ids alts 502 (aO aaA):=⟨Tryz.f129,Tryz.func129,by kernel_rfl⟩
theorem ap7:aP Tryz.prog ids alts 503 (aO afT):=⟨Tryz.f130,Tryz.func130,by kernel_rfl⟩
theorem aqE:aP Tryz.prog ids alts 504 (aO ahm):=⟨Tryz.f86,Tryz.func86,by kernel_rfl⟩
theorem arM:aP Tryz.prog ids alts 505 (aO Zi):=⟨Tryz.f100,Tryz.func100,by kernel_rfl⟩
theorem apG:aP Tryz.prog ids alts 510 (aO acJ):=⟨Tryz.f92,Tryz.func92,by kernel_rfl⟩
theorem arS:aP Tryz.prog ids alts 511 (aO X5):=⟨Tryz.f93,Tryz.func93,by kernel_rfl⟩
theorem aqB:aP Tryz.prog ids alts 512 (aO Ua):=⟨Tryz.f94,Tryz.func94,by kernel_rfl⟩
theorem aqZ:aP Tryz.prog ids alts 513 (aO SB):=⟨Tryz.f95,Tryz.func95,by kernel_rfl⟩
theorem asK:aP Tryz.prog ids alts 516 (aO adx):=⟨Tryz.f167,Tryz.func167,by kernel_rfl⟩
theorem asA:aP Tryz.prog ids alts 517 (aO XF):=⟨Tryz.f168,Tryz.func168,by kernel_rfl⟩
theorem arj:aP Tryz.prog ids alts 518 (aO ZM):=⟨Tryz.f169,Tryz.func169,by kernel_rfl⟩
theorem arG:aP Tryz.prog ids alts 519 (aO adW):=⟨Tryz.f170,Tryz.func170,by kernel_rfl⟩
theorem arE:aP Tryz.prog ids alts 520 (aO Zz):=⟨Tryz.f128,Tryz.func128,by kernel_rfl⟩
theorem ari:aP Tryz.prog ids alts 543 (aO afa):=⟨Tryz.f132,Tryz.func132,by kernel_rfl⟩
theorem aqp:aP Tryz.prog ids alts 544 (aO ael):=⟨Tryz.f133,Tryz.func133,by kernel_rfl⟩
theorem aqV:aP Tryz.prog ids alts 545 (aO YZ):=⟨Tryz.f134,Tryz.func134,by kernel_rfl⟩
theorem apn:aP Tryz.prog ids alts 546 (aO Ut):=⟨Tryz.f135,Tryz.func135,by kernel_rfl⟩
theorem ath:aP Tryz.prog ids alts 547 (aO aeT):=⟨Tryz.f136,Tryz.func136,by kernel_rfl⟩
theorem asB:aP Tryz.prog ids alts 548 (aO TU):=⟨Tryz.f145,Tryz.func145,by kernel_rfl⟩
theorem aqJ:aP Tryz.prog ids alts 549 (aO iM):=⟨Tryz.f146,Tryz.func146,by kernel_rfl⟩
theorem aql:aP Tryz.prog ids alts 550 (aO XP):=⟨Tryz.f131,Tryz.func131,by kernel_rfl⟩
theorem as9:aP Tryz.prog ids alts 556 (aO aaJ):=⟨Tryz.f124,Tryz.func124,by kernel_rfl⟩
theorem apA:aP Tryz.prog ids alts 557 (aO ahf):=⟨Tryz.f125,Tryz.func125,by kernel_rfl⟩
theorem arR:aP Tryz.prog ids alts 558 (aO acN):=⟨Tryz.f126,Tryz.func126,by kernel_rfl⟩
theorem ap2:aP Tryz.prog ids alts 559 (aO afS):=⟨Tryz.f127,Tryz.func127,by kernel_rfl⟩
theorem arn:aP Tryz.prog ids alts 560 (aO Vo):=⟨Tryz.f171,Tryz.func171,by kernel_rfl⟩
theorem aq6:aP Tryz.prog ids alts 561 (aO aeh):=⟨Tryz.f172,Tryz.func172,by kernel_rfl⟩
theorem aqd:aP Tryz.prog ids alts 562 (aO aeH):=⟨Tryz.f173,Tryz.func173,by kernel_rfl⟩
theorem apY:aP Tryz.prog ids alts 563 (aO xQ):=⟨Tryz.f144,Tryz.func144,by kernel_rfl⟩
theorem aq9:aP Tryz.prog ids alts 578 (aO agz):=⟨Tryz.f148,Tryz.func148,by kernel_rfl⟩
theorem aqI:aP Tryz.prog ids alts 579 (aO aeA):=⟨Tryz.f149,Tryz.func149,by kernel_rfl⟩
theorem arA:aP Tryz.prog ids alts 580 (aO afv):=⟨Tryz.f150,Tryz.func150,by kernel_rfl⟩
theorem aqO:aP Tryz.prog ids alts 581 (aO afM):=⟨Tryz.f151,Tryz.func151,by kernel_rfl⟩
theorem apO:aP Tryz.prog ids alts 582 (aO ahp):=⟨Tryz.f152,Tryz.func152,by kernel_rfl⟩
theorem asb:aP Tryz.prog ids alts 583 (aO agj):=⟨Tryz.f153,Tryz.func153,by kernel_rfl⟩
theorem aqW:aP Tryz.prog ids alts 584 (aO agG):=⟨Tryz.f154,Tryz.func154,by kernel_rfl⟩
theorem asl:aP Tryz.prog ids alts 585 (aO adq):=⟨Tryz.f158,Tryz.func158,by kernel_rfl⟩
theorem aqY:aP Tryz.prog ids alts 586 (aO lD):=⟨Tryz.f147,Tryz.func147,by kernel_rfl⟩
theorem aqx:aP Tryz.prog ids alts 592 (aO acH):=⟨Tryz.f161,Tryz.func161,by kernel_rfl⟩
theorem asa:aP Tryz.prog ids alts 593 (aO agZ):=⟨Tryz.f162,Tryz.func162,by kernel_rfl⟩
theorem ap9:aP Tryz.prog ids alts 594 (aO abt):=⟨Tryz.f159,Tryz.func159,by kernel_rfl⟩
theorem alS:aP Tryz.prog ids alts 2016 (aO w97):=⟨Tryz.f75,Tryz.func75,by kernel_rfl⟩
theorem amm:aP Tryz.prog ids alts 2004 (aO JK):=⟨Tryz.f54,Tryz.func54,by kernel_rfl⟩
theorem am5:aP Tryz.prog ids alts 2005 (aO yB):=⟨Tryz.f55,Tryz.func55,by kernel_rfl⟩
theorem al0:aP Tryz.prog ids alts 2006 (aO Lj):=⟨Tryz.f56,Tryz.func56,by kernel_rfl⟩
theorem al8:aP Tryz.prog ids alts 4002 (aO yB):=⟨Tryz.f55,Tryz.func55,by kernel_rfl⟩
theorem amT:aP Tryz.prog ids alts 4001 (aO JX):=⟨Tryz.f22,Tryz.func22,by kernel_rfl⟩
theorem alM:aP Tryz.prog ids alts 3004 (aO Ti):=⟨Tryz.f141,Tryz.func141,by kernel_rfl⟩
theorem aml:aP Tryz.prog ids alts 3003 (aO Sr):=⟨Tryz.f111,Tryz.func111,by kernel_rfl⟩
theorem al9:aP Tryz.prog ids alts 3002 (aO Qa):=⟨Tryz.f79,Tryz.func79,by kernel_rfl⟩
theorem amJ:aP Tryz.prog ids alts 3001 (aO Qu):=⟨Tryz.f45,Tryz.func45,by kernel_rfl⟩
theorem alz:aP Tryz.prog ids alts 2019 (aO Az):=⟨Tryz.f46,Tryz.func46,by kernel_rfl⟩
theorem alK:aP Tryz.prog ids alts 1102 (aO Zj):=⟨Tryz.f138,Tryz.func138,by kernel_rfl⟩
theorem amV:aP Tryz.prog ids alts 1191 (aO Ye):=⟨Tryz.f139,Tryz.func139,by kernel_rfl⟩
theorem amc:aP Tryz.prog ids alts 1100 (aO Jm):=⟨Tryz.f109,Tryz.func109,by kernel_rfl⟩
def prog:aG:=⟨tree,Go.D.ak,Go.D.ppB⟩
theorem all:wR (aP Tryz.prog ids alts) (fF prog).fns:=⟨⟨⟨⟨⟨⟨⟨⟨trivial,l0,trivial⟩,l92,trivial⟩,l97,⟨⟨trivial,l99,trivial⟩,apS,trivial⟩⟩,apL,⟨⟨⟨trivial,ata,trivial⟩,aqL,trivial⟩,asf,⟨trivial,arT,trivial⟩⟩⟩,apK,⟨⟨⟨⟨trivial,asu,trivial⟩,apF,trivial⟩,aqX,⟨⟨trivial,arW,trivial⟩,apy,trivial⟩⟩,apV,⟨⟨⟨trivial,aqn,trivial⟩,aps,trivial⟩,aq0,⟨trivial,aqu,trivial⟩⟩⟩⟩,aqo,⟨⟨⟨⟨⟨trivial,aqr,trivial⟩,ap4,trivial⟩,apU,⟨⟨trivial,arQ,trivial⟩,arX,trivial⟩⟩,ap5,⟨⟨⟨trivial,arl,trivial⟩,apM,trivial⟩,apH,⟨trivial,asI,trivial⟩⟩⟩,aq8,⟨⟨⟨⟨trivial,aqK,trivial⟩,apD,trivial⟩,arY,⟨⟨trivial,aqz,trivial⟩,asj,trivial⟩⟩,apZ,⟨⟨⟨trivial,asg,trivial⟩,apl,trivial⟩,apx,⟨trivial,asQ,trivial⟩⟩⟩⟩⟩,asU,⟨⟨⟨⟨⟨⟨trivial,ap1,trivial⟩,arx,trivial⟩,apI,⟨⟨trivial,arJ,trivial⟩,apo,trivial⟩⟩,arv,⟨⟨⟨trivial,apX,trivial⟩,asq,trivial⟩,apP,⟨trivial,asY,trivial⟩⟩⟩,atb,⟨⟨⟨⟨trivial,apT,trivial⟩,ard,trivial⟩,asJ,⟨⟨trivial,l272,trivial⟩,ate,trivial⟩⟩,ar0,⟨⟨⟨trivial,asy,trivial⟩,arF,trivial⟩,aqk,⟨trivial,as8,trivial⟩⟩⟩⟩,atf,⟨⟨⟨⟨⟨trivial,arD,trivial⟩,arp,trivial⟩,aqC,⟨⟨trivial,aq2,trivial⟩,ap3,trivial⟩⟩,ar1,⟨⟨⟨trivial,aqa,trivial⟩,asM,trivial⟩,ars,⟨trivial,apC,trivial⟩⟩⟩,aq5,⟨⟨⟨⟨trivial,arq,trivial⟩,apt,trivial⟩,ar5,⟨⟨trivial,arP,trivial⟩,aqb,trivial⟩⟩,atg,⟨⟨⟨trivial,aqR,trivial⟩,aq3,trivial⟩,ar4,⟨trivial,asH,trivial⟩⟩⟩⟩⟩⟩,ark,⟨⟨⟨⟨⟨⟨⟨trivial,aru,trivial⟩,apE,trivial⟩,aqe,⟨⟨trivial,arf,trivial⟩,aqF,trivial⟩⟩,asZ,⟨⟨⟨trivial,arN,trivial⟩,asN,trivial⟩,aqQ,⟨trivial,arI,trivial⟩⟩⟩,asn,⟨⟨⟨⟨trivial,arb,trivial⟩,ash,trivial⟩,as4,⟨⟨trivial,asC,trivial⟩,asF,trivial⟩⟩,aqi,⟨⟨⟨trivial,aqm,trivial⟩,aqH,trivial⟩,asr,⟨trivial,arw,trivial⟩⟩⟩⟩,as7,⟨⟨⟨⟨⟨trivial,as6,trivial⟩,ase,trivial⟩,aqh,⟨⟨trivial,aqy,trivial⟩,aqt,trivial⟩⟩,ap6,⟨⟨⟨trivial,aqN,trivial⟩,aqA,trivial⟩,aqw,⟨trivial,asR,trivial⟩⟩⟩,ap8,⟨⟨⟨⟨trivial,ap7,trivial⟩,aqE,trivial⟩,arM,⟨⟨trivial,apG,trivial⟩,arS,trivial⟩⟩,aqB,⟨⟨⟨trivial,aqZ,trivial⟩,asK,trivial⟩,asA,⟨trivial,arj,trivial⟩⟩⟩⟩⟩,arG,⟨⟨⟨⟨⟨⟨trivial,arE,trivial⟩,ari,trivial⟩,aqp,⟨⟨trivial,aqV,trivial⟩,apn,trivial⟩⟩,ath,⟨⟨⟨trivial,asB,trivial⟩,aqJ,trivial⟩,aql,⟨trivial,as9,trivial⟩⟩⟩,apA,⟨⟨⟨⟨trivial,arR,trivial⟩,ap2,trivial⟩,arn,⟨⟨trivial,aq6,trivial⟩,aqd,trivial⟩⟩,apY,⟨⟨⟨trivial,aq9,trivial⟩,aqI,trivial⟩,arA,⟨trivial,aqO,trivial⟩⟩⟩⟩,apO,⟨⟨⟨⟨⟨trivial,asb,trivial⟩,aqW,trivial⟩,asl,⟨⟨trivial,aqY,trivial⟩,aqx,trivial⟩⟩,asa,⟨⟨⟨trivial,ap9,trivial⟩,amc,trivial⟩,alK,⟨trivial,amV,trivial⟩⟩⟩,amm,⟨⟨⟨⟨trivial,am5,trivial⟩,al0,trivial⟩,alS,⟨⟨trivial,alz,trivial⟩,amJ,trivial⟩⟩,al9,⟨⟨⟨trivial,aml,trivial⟩,alM,trivial⟩,amT,⟨trivial,al8,trivial⟩⟩⟩⟩⟩⟩⟩
theorem okT:rO prog.fns=true:=by kernel_rfl
theorem link:Linked Tryz.prog (agf ids alts) (Gf ids) (fF prog):=linked (by kernel_rfl) (by kernel_rfl) all (by kernel_rfl)
end P
end
section
namespace Go.Pw
open Go Go.Pav
inductive CT where
 | bool
 | int (k:IntKind)
 | str
 | slice (ts:List CT)
inductive Ty:CT→AV→Prop
 | bool (b:Bool):Ty .bool (.bool b)
 | int (k:IntKind) (n:Int) (h1:k.min≤n) (h2:n≤k.max):Ty (.int k) (.int k n)
 | str (s:List UInt8) (h:s.length < 2 ^ 63):Ty .str (.str s)
 | slice (ts:List CT) (es:List (List AV)) (ex:Bool) (hn:es.length < 2 ^ 63) (hw:∀ (i:Nat) (e:List AV),es[i]?=some e→e.length=ts.length)
  (h:∀ (i:Nat) (e:List AV) (j:Nat) (ct:CT) (x:AV),es[i]?=some e→ts[j]?=some ct→e[j]?=some x→Ty ct x):Ty (.slice ts) (.ro ts.length es ex)
theorem Ty.isC {ct:CT} {a:AV} (h:Ty ct a):Pw.isC a=true:=by cases h <;> rfl
def zq (F:TypeId→Option (List CT)) (P:Program):List Field→Nat→Option (List CT)
 | [],_=>some []
 | f::r,off=>(F f.type).bind fun ts=>if f.offset=off∧ts.length=P.cellsOf f.type then (zq F P r (off+ts.length)).map (ts++·) else none
def sW (P:Program):Nat→TypeId→Option (List CT)
 | 0,_=>none
 | n+1,t=>match P.underlying t with
  | some .bool=>some [.bool]
  | some (.int k)=>some [.int k]
  | some .string=>some [.str]
  | some (.slice e)=>(sW P n e).bind fun ts=>if ts.length=P.cellsOf e∧0 < ts.length then some [.slice ts] else none
  | some (.struct fs)=>(zq (sW P n) P fs.toList 0).bind fun ts=>if ts.length=P.cellsOf t then some ts else none
  | some (.array m e)=>(sW P n e).bind fun ts=>if ts.length=P.cellsOf e∧m * ts.length=P.cellsOf t then some (List.replicate m ts).flatten else none
  | _=>none
theorem Dp {α:Type} (ts:List α):∀ (m j:Nat),j < m * ts.length→(List.replicate m ts).flatten[j]?=ts[j % ts.length]?
 | 0,j,h=>by simp at h
 | m+1,j,h=>by
  rw [List.replicate_succ,List.flatten_cons]
  rcases Nat.lt_or_ge j ts.length with hl | hl
  · rw [List.getElem?_append_left hl,Nat.mod_eq_of_lt hl]
  · rw [List.getElem?_append_right hl,Dp ts m (j - ts.length) (by rw [Nat.add_mul] at h;omega),Nat.mod_eq_sub_mod hl]
theorem trod_array {H:Type} {enc:TypeId × Value→H} {P:Program} {w:World} {base:Nat} {spare:Nat→Bool} {held:Bool} {fuel:Nat} {t:TypeId} {cs:List Value} {x:DataW H × List MemPlace} {m:Nat} {e:TypeId}
 (ht:P.underlying t=some (.array m e)) (h:DataW.trod enc P w base spare held fuel t cs=some x) :
 ∃ (xs:List (DataW H × List MemPlace)) (n:Nat),fuel=n+1∧cs.length=P.cellsOf t∧xs.length=m ∧
  ∀ i,i < m→DataW.trod enc P w base spare held n e ((cs.drop (i * P.cellsOf e)).take (P.cellsOf e))=xs[i]?:=by
 cases fuel with
 | zero=>simp [DataW.trod] at h
 | succ n =>
  unfold DataW.trod at h
  rw [ht] at h
  split at h <;> simp_all
  obtain ⟨hl,xs,hp,hd⟩:=h
  exact ⟨xs,by simpa using mapM_some_length hp,fun i hi=>mapM_some_get hp i i (List.getElem?_range hi)⟩
def F7 (ψ:Nat→FuncId) (W:World) (ct:CT) (v:Value):Prop :=
 ∃ a a',Ty ct a∧VD id (fun _=>False) a a'∧a'.cell=true∧VR ψ W (fun c=>c < W.heap.size) (fun _=>(0,0)) (fun _=>False) a' v
section
variable {H:Type} {enc:TypeId × Value→H} {P:Program} {W:World} {ψ:Nat→FuncId}
theorem RV {F:TypeId→Option (List CT)} {n:Nat} {cs:List Value}
 (hF:∀ t cs x ts,F t=some ts→DataW.trod enc P W 0 (fun _=>true) true n t cs=some x→cs.length=ts.length∧∀ (j:Nat) (ct:CT),ts[j]?=some ct→∃ v,cs[j]?=some v∧F7 ψ W ct v) :
 ∀ (fs:List Field) (off:Nat) (ts:List CT),zq F P fs off=some ts→(∀ f ∈ fs,∃ x,DataW.trod enc P W 0 (fun _=>true) true n f.type ((cs.drop f.offset).take (P.cellsOf f.type))=some x) →
  ∀ (j:Nat) (ct:CT),ts[j]?=some ct→∃ v,cs[off+j]?=some v∧F7 ψ W ct v:=by
 intro fs
 induction fs with
 | nil=>intro off ts h _ j ct hj;simp only [zq,Option.some.injEq] at h;subst h;simp at hj
 | cons f r ih =>
  intro off ts h hx j ct hj
  simp only [zq,Option.bind_eq_some_iff] at h
  obtain ⟨t1,h1,h⟩:=h
  split at h
  · rename_i hc
    simp only [Option.map_eq_some_iff] at h
    obtain ⟨t2,h2,rfl⟩:=h
    rcases Nat.lt_or_ge j t1.length with hl | hl
    · rw [List.getElem?_append_left hl] at hj
      obtain ⟨x,q⟩:=hx f (by simp)
      obtain ⟨v,q1,q2⟩:=(hF _ _ _ _ h1 q).2 j ct hj
      refine ⟨v,?_,q2⟩
      rw [List.getElem?_take] at q1
      split at q1
      · rw [List.getElem?_drop] at q1;rw [← hc.1];exact q1
      · cases q1
    · rw [List.getElem?_append_right hl] at hj
      obtain ⟨v,q1,q2⟩:=ih _ _ h2 (fun f hf=>hx f (by simp [hf])) _ ct hj
      exact ⟨v,by rw [← q1];congr 1;omega,q2⟩
  · cases h
theorem II:∀ (n k:Nat) (t:TypeId) (cs:List Value) (x:DataW H × List MemPlace) (ts:List CT),sW P k t=some ts→DataW.trod enc P W 0 (fun _=>true) true n t cs=some x →
 cs.length=ts.length∧∀ (j:Nat) (ct:CT),ts[j]?=some ct→∃ v,cs[j]?=some v∧F7 ψ W ct v:=by
 intro n
 induction n with
 | zero=>intro k t cs x ts _ h;simp [DataW.trod] at h
 | succ n ih =>
  intro k t cs x ts hf h
  cases k with
  | zero=>simp [sW] at hf
  | succ k =>
   have one:∀ {v:Value} {ct:CT},cs=[v]→ts=[ct]→F7 ψ W ct v→cs.length=ts.length∧∀ (j:Nat) (ct:CT),ts[j]?=some ct→∃ v,cs[j]?=some v∧F7 ψ W ct v:=by
    intro v ct h1 h2 h3
    subst h1;subst h2
    refine ⟨rfl,fun j ct' hj=>?_⟩
    cases j with
    | zero=>simp only [List.getElem?_cons_zero,Option.some.injEq] at hj;subst hj;exact ⟨v,rfl,h3⟩
    | succ j=>simp at hj
   unfold sW at hf
   split at hf
   · rename_i ht
     cases hf
     obtain ⟨b,e,_⟩:=DataW.trod_bool ht h
     exact one e rfl ⟨_,_,.bool b,.bool b,rfl,.bool b⟩
   · rename_i k' ht
     cases hf
     obtain ⟨m,e,_,hw⟩:=DataW.trod_int ht h
     simp only [Lit.wf,Bool.and_eq_true,decide_eq_true_eq] at hw
     exact one e rfl ⟨_,_,.int k' m hw.1 hw.2,.int k' m,rfl,.int k' m⟩
   · rename_i ht
     cases hf
     obtain ⟨s,e,_,hw⟩:=DataW.trod_string ht h
     refine one e rfl ⟨.str s.data.toList,_,.str _ ?_,.str _,rfl,?_⟩
     · simp only [maxLen] at hw
       have:s.data.toList.length=s.size:=rfl
       omega
     · have:=VR.str (ψ:=ψ) (w:=W) (S:=fun c=>c < W.heap.size) (m:=fun _=>(0,0)) (A:=fun _=>False) s.data.toList
       exact this
   · rename_i el ht
     simp only [Option.bind_eq_some_iff] at hf
     obtain ⟨us,hu,hf⟩:=hf
     split at hf
     · rename_i hz
       obtain ⟨hz,hz0⟩:=hz
       cases hf
       rcases DataW.trod_slice ht h with ⟨e,_⟩ | ⟨a,len,cap,elems,rest,n',hn,e,_,_,hl,hm,hlen,hel,hsp,_⟩
       · exact one e rfl ⟨.ro us.length [] true,.bC,.slice us [] true (by simp) (by simp) (by simp),.kX _ _,rfl,.bC⟩
       · cases hn
         refine one e rfl ?_
         have row:∀ i,i < cap→∃ vs y,W.cells? 0 (a.add (i * us.length)) us.length=some vs∧DataW.trod enc P W 0 (fun _=>true) true n el vs=some y:=by
          intro i hi
          rcases Nat.lt_or_ge i len with hil | hil
          · have:=hel i hil
            rw [List.getElem?_eq_getElem (by omega),Option.bind_eq_some_iff,← hz] at this
            obtain ⟨vs,q1,q2⟩:=this
            exact ⟨vs,_,q1,q2⟩
          · obtain ⟨q0,q⟩:=hsp rfl
            have:=q (i - len) (by omega)
            rw [List.getElem?_eq_getElem (by omega),Option.bind_eq_some_iff,← hz,show len+(i - len)=i by omega] at this
            obtain ⟨vs,q1,q2⟩:=this
            exact ⟨vs,_,q1,q2⟩
         rcases Nat.eq_zero_or_pos cap with hc0 | hc0
         · subst hc0
           obtain rfl:len=0:=by omega
           exact ⟨.ro us.length [] true,.ro us.length [] true,.slice us [] true (by simp) (by simp) (by simp),.ro _ [] [] true true (by simp) rfl id (by simp) (by simp),rfl,.roe _ _ _⟩
         · obtain ⟨b,off,spot⟩:=a
           have hfirst:∃ v,W.cell? ⟨b,off,spot⟩=some v:=by
            obtain ⟨vs,_,q1,_⟩:=row 0 hc0
            obtain ⟨_,q2,q3⟩:=World.cells?_some q1
            have:=q3 0 hz0
            rw [List.getElem?_eq_getElem (by omega)] at this
            exact ⟨_,by simpa [Addr.add] using this⟩
           obtain ⟨v0,hv0⟩:=hfirst
           obtain rfl:spot=none:=World.cell?_spot hv0
           have hS:b < W.heap.size:=by
            unfold World.cell? at hv0
            split at hv0
            · rename_i hb;exact (Array.getElem?_eq_some_iff.1 hb).1
            · cases hv0
           have key:∀ p:Nat × Nat,∃ q:Value × AV × AV,p.1 < len→∀ ct,us[p.2]?=some ct→W.cell? ⟨b,off+p.1 * us.length+p.2,none⟩=some q.1∧Ty ct q.2.1∧VD id (fun _=>False) q.2.1 q.2.2∧q.2.2.cell=true ∧
            VR ψ W (fun c=>c < W.heap.size) (fun _=>(0,0)) (fun _=>False) q.2.2 q.1:=by
            intro ⟨i,j⟩
            by_cases hi:i < len
            · cases hj:us[j]? with
              | none=>exact ⟨default,fun _ ct q=>by cases q⟩
              | some ct =>
               obtain ⟨vs,y,q1,q2⟩:=row i (by omega)
               obtain ⟨v,q3,c1,c2,q4,q5,q6,q7⟩:=(ih _ _ _ _ _ hu q2).2 j ct hj
               refine ⟨(v,c1,c2),fun _ ct' q=>?_⟩
               cases q
               refine ⟨?_,q4,q5,q6,q7⟩
               obtain ⟨_,r1,r2⟩:=World.cells?_some q1
               have hjl:j < us.length:=(List.getElem?_eq_some_iff.1 hj).1
               have:=r2 j hjl
               rw [q3] at this
               rw [← this]
               congr 1
               simp only [Addr.add]
               split <;> split <;> simp_all <;> omega
            · exact ⟨default,fun q=>absurd q hi⟩
           obtain ⟨F,hF⟩:=Classical.axiomOfChoice key
           let es:List (List AV):=(List.range len).map fun i=>(List.range us.length).map fun j=>(F (i,j)).2.1
           let es':List (List AV):=(List.range len).map fun i=>(List.range us.length).map fun j=>(F (i,j)).2.2
           have g1:∀ (i:Nat) (e:List AV),es[i]?=some e→i < len∧e=(List.range us.length).map fun j=>(F (i,j)).2.1:=by
            intro i e he
            simp only [es,List.getElem?_map,Option.map_eq_some_iff] at he
            obtain ⟨i',q1,q2⟩:=he
            have:=List.getElem?_eq_some_iff.1 q1
            obtain ⟨q3,q4⟩:=this
            simp at q3 q4
            subst q4
            exact ⟨q3,q2.symm⟩
           have g1':∀ (i:Nat) (e:List AV),es'[i]?=some e→i < len∧e=(List.range us.length).map fun j=>(F (i,j)).2.2:=by
            intro i e he
            simp only [es',List.getElem?_map,Option.map_eq_some_iff] at he
            obtain ⟨i',q1,q2⟩:=he
            have:=List.getElem?_eq_some_iff.1 q1
            obtain ⟨q3,q4⟩:=this
            simp at q3 q4
            subst q4
            exact ⟨q3,q2.symm⟩
           have g2:∀ (G:Nat→AV) (j:Nat) (x:AV),((List.range us.length).map G)[j]?=some x→∃ ct,us[j]?=some ct∧x=G j:=by
            intro G j x hx
            simp only [List.getElem?_map,Option.map_eq_some_iff] at hx
            obtain ⟨j',q1,q2⟩:=hx
            obtain ⟨q3,q4⟩:=List.getElem?_eq_some_iff.1 q1
            simp at q3 q4
            subst q4
            exact ⟨us[j],List.getElem?_eq_getElem q3,q2.symm⟩
           have l1:es.length=len:=by simp [es]
           have l2:es'.length=len:=by simp [es']
           refine ⟨.ro us.length es (decide (cap=len)),.ro us.length es' (decide (cap=len)),.slice us es _ ?_ ?_ ?_,.ro _ es es' _ _ ?_ (by rw [l1,l2]) id ?_ ?_,rfl,?_⟩
           · rw [l1];simp only [maxLen] at hm;omega
           · intro i e he;rw [(g1 i e he).2];simp
           · intro i e j ct y he hct hy
             obtain ⟨q1,rfl⟩:=g1 i e he
             obtain ⟨ct',q2,rfl⟩:=g2 _ j y hy
             rw [hct] at q2
             cases q2
             exact (hF (i,j) q1 ct hct).2.1
           · intro e he y hy
             obtain ⟨i,he⟩:=List.getElem?_of_mem he
             obtain ⟨j,hy⟩:=List.getElem?_of_mem hy
             obtain ⟨q1,rfl⟩:=g1 i e he
             obtain ⟨ct',q2,rfl⟩:=g2 _ j y hy
             exact (hF (i,j) q1 ct' q2).2.1.isC
           · intro i e e' he he'
             rw [(g1 i e he).2,(g1' i e' he').2];simp
           · intro i e e' j y y' he he' hy hy'
             obtain ⟨q1,rfl⟩:=g1 i e he
             obtain ⟨_,rfl⟩:=g1' i e' he'
             obtain ⟨ct',q2,rfl⟩:=g2 _ j y hy
             obtain ⟨_,_,rfl⟩:=g2 _ j y' hy'
             exact (hF (i,j) q1 ct' q2).2.2.1
           · have:=VR.ro (ψ:=ψ) (w:=W) (S:=fun c=>c < W.heap.size) (m:=fun _=>(0,0)) (A:=fun _=>False) us.length es' (decide (cap=len)) b off cap (fun i j=>(F (i,j)).1) hS
              (fun i e he=>by rw [(g1' i e he).2];simp) (by rw [l2];exact hl) (fun q=>by rw [l2];simpa using q)
              (fun i e j y he hy=>by
               obtain ⟨q1,rfl⟩:=g1' i e he
               obtain ⟨ct',q2,rfl⟩:=g2 _ j y hy
               have:=hF (i,j) q1 ct' q2
               exact ⟨this.2.2.2.1,this.1⟩)
              (fun i e j y he hy=>by
               obtain ⟨q1,rfl⟩:=g1' i e he
               obtain ⟨ct',q2,rfl⟩:=g2 _ j y hy
               exact (hF (i,j) q1 ct' q2).2.2.2.2)
             rw [l2] at this
             exact this
     · cases hf
   · rename_i fs ht
     simp only [Option.bind_eq_some_iff] at hf
     obtain ⟨us,hu,hf⟩:=hf
     split at hf
     · rename_i hz
       cases hf
       obtain ⟨xs,n',hn,_,hcl,hxl,hx⟩:=DataW.trod_struct ht h
       cases hn
       refine ⟨by rw [hcl,hz],fun j ct hj=>?_⟩
       have:=RV (cs:=cs) (F:=sW P k) (n:=n) (fun t cs x ts h1 h2=>ih k t cs x ts h1 h2) fs.toList 0 _ hu (fun f hf=>by
        obtain ⟨i,hi⟩:=List.getElem?_of_mem hf
        have hi':fs[i]?=some f:=by simpa using hi
        have hlt:i < fs.size:=(Array.getElem?_eq_some_iff.1 hi').1
        have:=hx i f hi'
        rw [List.getElem?_eq_getElem (by omega)] at this
        exact ⟨_,this⟩) j ct hj
       simpa using this
     · cases hf
   · rename_i m' e ht
     simp only [Option.bind_eq_some_iff] at hf
     obtain ⟨us,hu,hf⟩:=hf
     split at hf
     · rename_i hz
       obtain ⟨hz1,hz2⟩:=hz
       cases hf
       obtain ⟨xs,n',hn,hcl,hxl,hx⟩:=trod_array ht h
       cases hn
       have hlen:(List.replicate m' us).flatten.length=m' * us.length:=by simp
       refine ⟨by rw [hcl,hlen,hz2],fun j ct hj=>?_⟩
       have hjl:j < m' * us.length:=by rw [← hlen];exact (List.getElem?_eq_some_iff.1 hj).1
       have hk:0 < us.length:=by
        rcases Nat.eq_zero_or_pos us.length with q | q
        · rw [q,Nat.mul_zero] at hjl;omega
        · exact q
       rw [Dp us m' j hjl] at hj
       have hq:j / us.length < m':=Nat.div_lt_of_lt_mul (by rw [Nat.mul_comm];exact hjl)
       have hxq:=hx (j / us.length) hq
       rw [List.getElem?_eq_getElem (by omega)] at hxq
       obtain ⟨v,q1,q2⟩:=(ih k e _ _ us hu hxq).2 (j % us.length) ct hj
       refine ⟨v,?_,q2⟩
       rw [List.getElem?_take] at q1
       split at q1
       · rw [List.getElem?_drop,← hz1] at q1
         rw [← q1];congr 1
         exact (Nat.div_add_mod' j us.length).symm
       · cases q1
     · cases hf
   · cases hf
inductive AT where
 | c (ct:CT)
 | g (ts:List CT)
def AT.has:AT→AV→Prop
 | .c ct,a=>Ty ct a
 | .g ts,a=>∃ es,a=.agg es∧es.length=ts.length∧∀ (j:Nat) (ct:CT) (x:AV),ts[j]?=some ct→es[j]?=some x→Ty ct x
def abM (P:Program) (t:TypeId):Option AT :=
 match P.underlying t with
 | some (.struct _)=>(sW P 20 t).map .g
 | some (.array _ _)=>(sW P 20 t).map .g
 | some .bool | some (.int _) | some .string | some (.slice _)=>match sW P 20 t with | some [ct]=>some (.c ct) | _=>none
 | _=>none
theorem Rt {t:TypeId} {base:Nat} {v:Value} (hu:P.underlying t=some .bool∨(∃ k,P.underlying t=some (.int k))∨P.underlying t=some .string∨∃ e,P.underlying t=some (.slice e)) (h:Value.okWide P W .any base t v) :
 v.cells=#[v]:=by
 cases v <;> try rfl
 rcases hu with hu | ⟨k,hu⟩ | hu | ⟨e,hu⟩ <;> simp [Value.okWide,hu,Cell.okWide,Cell.ok] at h
theorem aaz {t:TypeId} {at_:AT} (ha:abM P t=some at_) {base:Nat} {v:Value} (hv:Value.okWide P W .any base t v) {d:DataW H} {p:List MemPlace} (h:DataW.Trod enc P W 0 (fun _=>true) true t v d p) :
 ∃ a a',at_.has a∧VD id (fun _=>False) a a'∧VR ψ W (fun c=>c < W.heap.size) (fun _=>(0,0)) (fun _=>False) a' v:=by
 obtain ⟨fuel,h⟩:=h
 have plain:(P.underlying t=some .bool∨(∃ k,P.underlying t=some (.int k))∨P.underlying t=some .string∨∃ e,P.underlying t=some (.slice e)) →
  (match sW P 20 t with | some [ct]=>some (AT.c ct) | _=>none)=some at_→∃ a a',at_.has a∧VD id (fun _=>False) a a'∧VR ψ W (fun c=>c < W.heap.size) (fun _=>(0,0)) (fun _=>False) a' v:=by
  intro hu he
  split at he
  · rename_i ct hf
    cases he
    rw [Rt hu hv] at h
    obtain ⟨_,q⟩:=II (ψ:=ψ) _ _ _ _ _ _ hf h
    obtain ⟨v',q1,a,a',q2,q3,_,q4⟩:=q 0 ct rfl
    simp only [List.getElem?_cons_zero,Option.some.injEq] at q1
    subst q1
    exact ⟨a,a',q2,q3,q4⟩
  · cases he
 have whole:(∃ cs,v=.agg cs)→(sW P 20 t).map AT.g=some at_→∃ a a',at_.has a∧VD id (fun _=>False) a a'∧VR ψ W (fun c=>c < W.heap.size) (fun _=>(0,0)) (fun _=>False) a' v:=by
  rintro ⟨cs,rfl⟩ ha
  simp only [Option.map_eq_some_iff] at ha
  obtain ⟨ts,hf,rfl⟩:=ha
  obtain ⟨hl,q⟩:=II (ψ:=ψ) _ _ _ _ _ _ hf h
  simp only [Value.cells] at hl q
  have key:∀ j:Nat,∃ x:AV × AV,∀ ct,ts[j]?=some ct→Ty ct x.1∧VD id (fun _=>False) x.1 x.2∧x.2.cell=true∧∃ v,cs.toList[j]?=some v∧VR ψ W (fun c=>c < W.heap.size) (fun _=>(0,0)) (fun _=>False) x.2 v:=by
   intro j
   cases hj:ts[j]? with
   | none=>exact ⟨default,fun _ q=>by cases q⟩
   | some ct =>
    obtain ⟨v,q1,a,a',q2,q3,q4,q5⟩:=q j ct hj
    exact ⟨(a,a'),fun ct' e=>by cases e;exact ⟨q2,q3,q4,v,q1,q5⟩⟩
  obtain ⟨F,hF⟩:=Classical.axiomOfChoice key
  have g2:∀ (G:Nat→AV) (j:Nat) (x:AV),((List.range ts.length).map G)[j]?=some x→∃ ct,ts[j]?=some ct∧x=G j:=by
   intro G j x hx
   simp only [List.getElem?_map,Option.map_eq_some_iff] at hx
   obtain ⟨j',q1,q2⟩:=hx
   obtain ⟨q3,q4⟩:=List.getElem?_eq_some_iff.1 q1
   simp at q3 q4
   subst q4
   exact ⟨ts[j],List.getElem?_eq_getElem q3,q2.symm⟩
  refine ⟨.agg ((List.range ts.length).map fun j=>(F j).1),.agg ((List.range ts.length).map fun j=>(F j).2),⟨_,rfl,by simp,?_⟩,.agg _ _ (by simp) ?_,.agg _ _ ?_ ?_ ?_⟩
  · intro j ct x hct hx
    obtain ⟨ct',q1,rfl⟩:=g2 _ j x hx
    exact (hF j ct hct).1
  · intro j x x' hx hx'
    obtain ⟨ct,q1,rfl⟩:=g2 _ j x hx
    obtain ⟨_,_,rfl⟩:=g2 _ j x' hx'
    exact (hF j ct q1).2.1
  · simp only [List.length_map,List.length_range]
    rw [← hl];simp
  · intro j x hx
    obtain ⟨ct,q1,rfl⟩:=g2 _ j x hx
    exact (hF j ct q1).2.2.1
  · intro j x hx
    obtain ⟨ct,q1,rfl⟩:=g2 _ j x hx
    obtain ⟨v,q2,q3⟩:=(hF j ct q1).2.2.2
    have e:cs[j]?=some v:=by simpa using q2
    rw [Array.getD_eq_getD_getElem?,e]
    exact q3
 unfold abM at ha
 split at ha
 · rename_i fs ht
   simp only [Value.okWide,ht] at hv
   obtain ⟨cs,hv,_,_⟩:=hv
   exact whole ⟨cs,hv⟩ ha
 · rename_i m e ht
   simp only [Value.okWide,ht] at hv
   obtain ⟨cs,hv,_,_⟩:=hv
   exact whole ⟨cs,hv⟩ ha
 · rename_i ht;exact plain (.inl ht) ha
 · rename_i k ht;exact plain (.inr (.inl ⟨k,ht⟩)) ha
 · rename_i ht;exact plain (.inr (.inr (.inl ht))) ha
 · rename_i e ht;exact plain (.inr (.inr (.inr ⟨e,ht⟩))) ha
 · cases ha
def Ws:List AT→List AV→Prop
 | [],[]=>True
 | a::r,x::s=>a.has x∧Ws r s
 | _,_=>False
theorem Jq {base:Nat}:∀ {ts:List TypeId} {ats:List AT} {vs:List Value} {ds:List (DataW H)} {p:List MemPlace},ts.map (abM P)=ats.map some →
 (∀ (j:Nat) (t:TypeId) (v:Value),ts[j]?=some t→vs[j]?=some v→Value.okWide P W .any base t v)→DataW.TrodAll enc P W 0 (fun _=>true) true ts vs ds p →
 ∃ us us',Ws ats us∧bn (VD id fun _=>False) us us'∧us'.length=vs.length∧∀ (j:Nat) (x:AV) (v:Value),us'[j]?=some x→vs[j]?=some v→VR ψ W (fun c=>c < W.heap.size) (fun _=>(0,0)) (fun _=>False) x v
 | [],[],vs,ds,p,_,_,h=>by
  obtain ⟨rfl,_,_⟩:=ChangeShapes.trodAll_nil h
  exact ⟨[],[],trivial,⟨rfl,by simp⟩,rfl,by simp⟩
 | t::ts,at_::ats,_,_,_,hm,hv,h=>by
  obtain ⟨v,vs1,d,ds1,p1,q1,rfl,rfl,rfl,h1,h2⟩:=ChangeShapes.trodAll_cons h
  simp only [List.map_cons,List.cons.injEq] at hm
  obtain ⟨a,a',r1,r2,r3⟩:=aaz (ψ:=ψ) hm.1 (hv 0 t v rfl rfl) h1
  obtain ⟨us,us',s1,s2,s3,s4⟩:=Jq hm.2 (fun j t v e1 e2=>hv (j+1) t v e1 e2) h2
  refine ⟨a::us,a'::us',⟨r1,s1⟩,⟨by simp [s2.1],fun j x x' e1 e2=>?_⟩,by simp [s3],fun j x v' e1 e2=>?_⟩
  · cases j with
    | zero=>cases e1;cases e2;exact r2
    | succ j=>exact s2.2 j x x' e1 e2
  · cases j with
    | zero=>cases e1;cases e2;exact r3
    | succ j=>exact s4 j x v' e1 e2
 | [],_::_,_,_,_,hm,_,_=>by simp at hm
 | _::_,[],_,_,_,hm,_,_=>by simp at hm
theorem YW {Φ:Nat→FuncId→Option Nat} {D:aG} (hL:Linked P Φ ψ (fF D)) (hok:rO D.fns=true) {f:Nat} {ts:List TypeId} {ats:List AT} (hts:ts.map (abM P)=ats.map some)
 (core:∀ us,Ws ats us→FnW D f us=some (.bool true)) {base:Nat} {args:Array Value} {ds:List (DataW H)} {p:List MemPlace}
 (hv:∀ (j:Nat) (t:TypeId) (v:Value),ts[j]?=some t→args[j]?=some v→Value.okWide P W .any base t v) (hA:DataW.TrodAll enc P W 0 (fun _=>true) true ts args.toList ds p) :
 Calls P (ψ f) args W fun e W'=>e=.returned (.bool true)∧(∀ c,c < W.heap.size→W'.heap[c]?=W.heap[c]?)∧W.heap.size≤W'.heap.size∧W'.os=W.os∧W'.output=W.output:=by
 obtain ⟨us,us',h1,h2,h3,h4⟩:=Jq (ψ:=ψ) hts (fun j t v e1 e2=>hv j t v e1 (by simpa using e2)) hA
 obtain ⟨n,hc⟩:=Qr.1 (core us h1)
 obtain ⟨v',hc',hvd⟩:=abo hok h2 hc
 rw [hvd.fB] at hc'
 refine (ade hL hc' (w:=W) (S:=fun c=>c < W.heap.size) (m:=fun _=>(0,0)) (cargs:=args) (fun _ h=>h) (by rw [h3];simp) fun j x hx=>?_).mono ?_
 · have hj:j < args.size:=by have:=(List.getElem?_eq_some_iff.1 hx).1;rw [h3] at this;simpa using this
   rw [Array.getD_eq_getD_getElem?,Array.getElem?_eq_getElem hj]
   exact h4 j x _ hx (by simp [hj])
 · rintro e W' ⟨cv,S',m',rfl,hr,q1,q2,q3,q4⟩
   rw [hr.gX]
   exact ⟨rfl,q1,q2,q3,q4⟩
theorem Dw {W':World} (hh:∀ c,c < W.heap.size→W'.heap[c]?=W.heap[c]?) {base:Nat} {sp:Nat→Bool} {held:Bool}:∀ {ts:List TypeId} {vs:List Value} {ds:List (DataW H)} {ps:List MemPlace},
 DataW.TrodAll enc P W base sp held ts vs ds ps→(∀ p ∈ ps,p.block < W.heap.size)→DataW.TrodAll enc P W' base sp held ts vs ds ps
 | [],[],[],_,h,_=>h
 | _::_,_::_,_::_,_,⟨p,q,⟨n,h1⟩,h2,e⟩,hs=>⟨p,q,⟨n,DataW.trod_carry n _ _ _ h1 fun x hx=>by
  have hlt:=hs x (by rw [e];exact List.mem_append_left _ hx)
  cases x with
  | cell b off=>simp only [World.sameAt,World.cell?];rw [hh b hlt]
  | map b=>exact hh b hlt⟩,Dw hh h2 (fun x hx=>hs x (by rw [e];exact List.mem_append_right _ hx)),e⟩
theorem keptBut_old {W':World} (hh:∀ c,c < W.heap.size→W'.heap[c]?=W.heap[c]?) (ho:W'.os=W.os) (hp:W'.output=W.output) (may:MemPlace→Prop):W.keptBut W' may:=by
 have h:=World.keptBut_refl W may
 refine ⟨ho,hp,fun i hi=>?_⟩
 have:=h.2.2 i hi
 rw [hh i hi]
 exact this
theorem aci {f:Func} {s:ChangeSpec} {fresh handsOn again:Bool} {W':World} {args:Array Value} {ds gs:List (DataW H)} {before:List MemPlace} {tb:TypeId}
 (kids:Kids P (· < P.types.size)) (full:∀ t e,t < P.types.size→P.underlying t=some (.slice e)→0 < P.cellsOf e)
 (hvars0:s.vars=[]) (hW:DataW.Whole enc P f.params.toList s.vars false W args.toList ds gs before) (hfn:s.fn H (ds++gs)={ results:=[.lit (.bool true)],args:=ds })
 (hps:∀ t ∈ f.params.toList,t < P.types.size) (hr:f.resultTypes=#[tb]) (htb:P.underlying tb=some .bool)
 (hh:∀ c,c < W.heap.size→W'.heap[c]?=W.heap[c]?) (_hsz:W.heap.size≤W'.heap.size) (ho:W'.os=W.os) (hp:W'.output=W.output) :
 s.post enc P f false fresh handsOn again W args (.bool true) W':=by
 have hlt:∀ p ∈ before,p.block < W.heap.size:=hW.lt
 have hW':=hW
 obtain ⟨p,q,hA,hV,rfl,hz,_⟩:=hW
 rw [hvars0] at hV
 obtain ⟨rfl,rfl⟩:=ChangeShapes.trodVars_none hV
 simp only [List.append_nil] at hlt hz hW' hfn
 have hargs:∀ sp:Nat→Bool,(∀ x ∈ p,sp x.block=true)→DataW.TrodAll enc P W' 0 sp true f.params.toList args.toList ds p:=fun sp hsp =>
  Dw hh (DataW.TrodAll.respare kids full hps hA hsp) hlt
 have hvars:∀ sp:Nat→Bool,DataW.TrodVars enc P W' sp s.vars [] []:=fun sp=>by rw [hvars0];rfl
 have hres:∀ (b:Nat) (sp:Nat→Bool) (hd:Bool),DataW.TrodAll enc P W' b sp hd f.resultTypes.toList ((Value.bool true).resultList f.resultTypes.size) [.lit (.bool true)] []:=fun b sp hd=>by
  rw [hr];exact ChangeShapes.trodAll_mk1 (RowKit.shut_bool htb true)
 have hok:∀ (j:Nat) (t:TypeId) (r:Value),f.resultTypes[j]?=some t→((Value.bool true).resultList f.resultTypes.size)[j]?=some r→Value.okWide P W' .any 0 t r :=
  RowKit.ok_one hr rfl (by simp [Value.okWide,htb,Cell.okWide,Cell.ok])
 have hold:∀ x ∈ p,(fun b=>decide (b < W.heap.size)) x.block=true:=fun x hx=>by simpa using hlt x hx
 refine ⟨ds,[],p,[],p,[],hW',?_,?_,?_,keptBut_old hh ho hp _,fun _=>⟨hok,[.lit (.bool true)]++ds,[],([]++p)++[],⟨[]++p,[],?_,hvars _,rfl,?_,fun h=>by cases h⟩,?_⟩⟩
 · rw [List.append_nil,hfn];exact hres _ _ _
 · rw [List.append_nil,hfn];exact hargs _ hold
 · rw [List.append_nil,hfn];exact hvars _
 · exact ChangeShapes.trodAll_append (hargs _ fun _ _=>rfl) (hres _ _ _)
 · intro b off hb
   simp only [List.nil_append,List.append_nil] at hb
   have:=hz b off hb
   unfold World.frozen? at this ⊢
   rw [hh b (hlt _ hb)]
   exact this
 · intro x hx _
   simpa using hx
theorem Dt {base:Nat} {sp:Nat→Bool} {held:Bool}:∀ {ts:List TypeId} {vs:List Value} {ds:List (DataW H)} {ps:List MemPlace},DataW.TrodAll enc P W base sp held ts vs ds ps→ds.length=ts.length
 | [],[],[],_,_=>rfl
 | _::_,_::_,_::_,_,⟨_,_,_,h2,_⟩=>by simp [Dt h2]
def isTrue:Option AV→Bool
 | some (.bool true)=>true
 | _=>false
theorem XJ {o:Option AV} (h:isTrue o=true):o=some (.bool true):=by
 unfold isTrue at h
 split at h
 · rfl
 · cases h
end
end Go.Pw
end
section
namespace Go.Proofs.YtcekmcchienbfaaGreat
open Go.ChangeShapes Go.WideShapes Go.ChangeAt Go.RowKit Go.Pav Go.Pw P
theorem aqT:ownKnob Tryz.prog.godebug=none:=by kernel_rfl
theorem al3:Kids Tryz.prog (· < Tryz.prog.types.size):=kids_rows (by kernel_rfl) (by kernel_rfl)
theorem amq:∀ t e,t < Tryz.prog.types.size→Tryz.prog.underlying t=some (.slice e)→0 < Tryz.prog.cellsOf e:=slices_full_of Tryz.prog (by kernel_rfl)
end Go.Proofs.YtcekmcchienbfaaGreat
end
section
namespace Go.D
open Go Go.Pav Go.Pw P
attribute [-simp] List.getElem_cons_drop
variable {C:aG}
structure It where
 (k t:Int) (x:List UInt8) (m:List (List UInt8)) (e:Bool)
abbrev eIt (i:It):AV:=.agg [.int .u64 i.k,.int .u8 i.t,.str i.x,.ro 1 (i.m.map eS) i.e]
structure RJ (C:aG):Prop extends ng C where
 aju:C.fns.get 398=some Td
 aiu:C.fns.get 424=some Q9
 ajy:C.fns.get 494=some acs
 agI:C.fns.get 496=some TM
 aiF:C.fns.get 497=some adN
 aiw:C.fns.get 498=some acd
 akH:C.fns.get 499=some aen
 akQ:C.fns.get 544=some ael
theorem Y0 (H:ng C) (s:List UInt8) (hl:s.length≤16):∀ n i,n+i=s.length →
 Ec C ⟨[(3,.int .i64 i),(0,.str s)],[],0⟩=some (.int .i64 (if (s.drop i).all inN=true then 1 else 0)):=by
 intro n
 induction n with
 | zero =>
  intro i hi
  simp only [Ec];rw [aj zO.eq_1]
  have h1:s.drop i=[]:=List.drop_eq_nil_of_le (by omega)
  have h3:¬ i < s.length:=by omega
  simp [aj Nr.eq_1,h1,h3]
 | succ n ih =>
  intro i hi
  have h1:i < s.length:=by omega
  have:=ih (i+1) (by omega)
  simp only [Ec] at this ⊢;rw [aj zO.eq_1]
  rw [drop_cons h1]
  generalize hX:((s.drop (i+1)).all inN)=X at *
  simp at this
  rw [List.all_cons,hX]
  have key:=BG s[i]
  by_cases q1:97≤s[i].toNat <;> by_cases q2:s[i].toNat≤122 <;> by_cases q3:48≤s[i].toNat <;> by_cases q4:s[i].toNat≤57 <;> first
   | (exfalso;omega)
   | (have c : inN s[i] = true := by rcases key with ⟨c, _⟩ | ⟨_, q⟩ <;> first | exact c | (exfalso; omega)
      simp (disch:=omega) [h1,aB,c,q1,q2,q3,q4,this];done)
   | (have c : inN s[i] = false := by rcases key with ⟨_, q⟩ | ⟨c, _⟩ <;> first | exact c | (exfalso; omega)
      simp (disch:=omega) [h1,aB,c,q1,q2,q3,q4];done)
theorem aeo (H:ng C) (s:List UInt8):FnW C 511 [.str s]=some (.int .i64 (if isName s=true then 1 else 0)):=by
 rw [aH H.akb rfl]
 unfold isName
 by_cases c1:1≤s.length
 · by_cases c2:s.length≤16
   · have:=Y0 H s c2 s.length 0 (by simp)
     simp only [Ec] at this
     simp only [List.drop_zero] at this
     generalize hX:s.all inN=X at *
     simp at this
     have c3:¬ ((s.length:Int) < 1):=by omega
     have c4:¬ (16 < (s.length:Int)):=by omega
     simp [X5,c1,c2,c3,c4,this]
   · have c3:¬ ((s.length:Int) < 1):=by omega
     have c4:(16 < (s.length:Int)):=by omega
     simp [X5,c1,c2,c3,c4]
 · have c3:((s.length:Int) < 1):=by omega
   simp [X5,c1,c3]
theorem ae7 (H:RJ C):Pred C 496 inT where
 asc b hb:=by
  rw [aH H.agI rfl]
  by_cases c1:32≤b.toNat <;> by_cases c2:126 < b.toNat
  · have c:inT b=false:=decide_eq_false (fun q=>by omega)
    simp [TM,c,c1,c2]
  · have c:inT b=true:=decide_eq_true ⟨c1,by omega⟩
    simp [TM,c,c1,c2]
  · omega
  · have c:inT b=false:=decide_eq_false (fun q=>c1 q.1)
    simp [TM,c,c1,c2]
 high r hr:=by
  rw [aH H.agI rfl]
  have h1:32≤r:=by omega
  have h2:126 < r:=by omega
  simp [TM,h1,h2]
 qh b hb:=decide_eq_false (fun q=>by omega)
 ne:=by rfl
 ni:=by rfl
structure Xv (C:aG) (g:Nat) (Q:List UInt8→Bool):Prop where
 ok:∀ s,FnW C g [.str s]=some (.bool (!Q s))
 ne:ppB g=false
 ni:ak g=false
theorem P6 (H:RJ C) {g:Nat} {Q:List UInt8→Bool} (G:Xv C g Q) (l:List (List UInt8)) (e:Bool) (hl:l.length≤1000000):∀ n i,n+i=l.length →
 ∃ v:Int,zD C ⟨[(8,.int .i64 i),(7,.int .i64 l.length),(1,.fn g []),(0,.ro 1 (l.map eS) e)],[],0⟩=some (.int .i64 v)∧decide (v < 0)=(l.drop i).all Q:=by
 intro n
 induction n with
 | zero =>
  intro i hi
  simp only [zD];rw [aj xE.eq_1]
  have h1:l.drop i=[]:=List.drop_eq_nil_of_le (by omega)
  have h3:¬ i < l.length:=by omega
  exact ⟨-1,by simp [aj OD.eq_1,h3],by simp [h1]⟩
 | succ n ih =>
  intro i hi
  have h1:i < l.length:=by omega
  have hN:=G.ne;have hI:=G.ni
  have hb:=G.ok l[i]
  rw [drop_cons h1]
  by_cases c:Q l[i]=true
  · obtain ⟨v,hv,hq⟩:=ih (i+1) (by omega)
    refine ⟨v,?_,by simp [hq,c]⟩
    simp only [zD] at hv ⊢;rw [aj xE.eq_1]
    simp at hv
    simp (disch:=omega) [h1,aB,hb,c,H.inl,hI,H.pp,hN,hv]
  · refine ⟨i,?_,by simp [c]⟩
    simp only [zD];rw [aj xE.eq_1]
    simp (disch:=omega) [h1,hb,c,H.inl,hI,H.pp,hN]
theorem Bz (H:RJ C) {g:Nat} {Q:List UInt8→Bool} (G:Xv C g Q) (l:List (List UInt8)) (e:Bool) (hl:l.length≤1000000) :
 FnW C 498 [.ro 1 (l.map eS) e,.fn g []]=some (.bool (!l.all Q)):=by
 obtain ⟨v,h,q⟩:=P6 H G l e hl l.length 0 (by simp)
 simp at q
 have h2:FnW C 544 [.ro 1 (l.map eS) e,.fn g []]=some (.int .i64 v):=by
  rw [aH H.akQ rfl]
  simp only [zD] at h
  simp at h
  simp [ael,h]
 rw [aH H.aiw rfl]
 have q':decide (v < 0)=l.all Q:=by simpa using q
 rw [← q']
 by_cases c:v < 0
 · have c':¬ 0≤v:=by omega
   simp [acd,H.inl,ak,H.pp,ppB,h2,c,c']
 · have c':0≤v:=by omega
   simp [acd,H.inl,ak,H.pp,ppB,h2,c,c']
theorem ahd (H:RJ C):Xv C 499 isName where
 ok s:=by
  have:=acT H.tong s
  rw [aH H.akH rfl]
  simp [aen,H.inl,ak,H.pp,ppB,this]
 ne:=by rfl
 ni:=by rfl
def uI (n:Int) (i:It):Bool:=decide (i.k≠0)&&decide (i.t < n)&&isText i.x&&(decide (i.m.length≤8)&&i.m.all isName)
theorem Yt (H:RJ C) (i:It) (n:Int) (ht:0≤i.t∧i.t≤255):FnW C 398 [eIt i,.int .i64 n]=some (.int .i64 (if uI n i=true then 0 else 6)):=by
 have h1:FnW C 494 [.rop [.int .u64 i.k,.int .u8 i.t,.str i.x,.ro 1 (i.m.map eS) i.e]]=some (.bool (isText i.x)):=by
  have:=DV H.tong (ae7 H) i.x
  rw [aH H.ajy rfl]
  unfold isText
  by_cases c2:i.x.length≤64
  · have c4:(i.x.length:Int)≤64:=by omega
    simp [acs,c2,c4,H.inl,ak,H.pp,ppB,this]
  · have c4:¬ ((i.x.length:Int)≤64):=by omega
    simp [acs,c2,c4]
 have h2:FnW C 497 [.rop [.int .u64 i.k,.int .u8 i.t,.str i.x,.ro 1 (i.m.map eS) i.e]]=some (.bool (decide (i.m.length≤8)&&i.m.all isName)):=by
  rw [aH H.aiF rfl]
  by_cases c2:i.m.length≤8
  · have:=Bz H (ahd H) i.m i.e (by omega)
    have c4:(i.m.length:Int)≤8:=by omega
    simp [adN,c2,c4,H.inl,ak,H.pp,ppB,this]
  · have c4:¬ ((i.m.length:Int)≤8):=by omega
    simp [adN,c2,c4]
 rw [aH H.aju rfl]
 unfold uI
 generalize isText i.x=X at *
 generalize (decide (i.m.length≤8)&&i.m.all isName)=M at *
 by_cases c1:i.k=0
 · simp [Td,c1]
 · by_cases c2:n≤i.t
   · have c3:¬ i.t < n:=by omega
     simp (disch:=omega) [Td,c1,c2,c3,aB]
   · have c3:i.t < n:=by omega
     cases X
     · simp (disch:=omega) [Td,c1,c2,c3,aB,H.inl,ak,H.pp,ppB,h1]
     · cases M <;> simp (disch:=omega) [Td,c1,c2,c3,aB,H.inl,ak,H.pp,ppB,h1,h2]
theorem Qm (H:RJ C) (k t:Int) (x:List UInt8) (m:List (List UInt8)) (e:Bool) (hl:m.length≤1000000):∀ n i,n+i=m.length→∀ ok:Bool,
 EM C ⟨[(6,.int .i64 i),(5,.int .i64 (if ok=true then 1 else 0)),(2,.ptr 0 0 0)],[(0,.cells 4 [[.int .u64 k,.int .u8 t,.str x,.ro 1 (m.map eS) e]] true true)],1⟩ =
  some (.int .i64 (if (ok&&(m.drop i).all isName)=true then 0 else 6)):=by
 intro n
 induction n with
 | zero =>
  intro i hi ok
  simp only [EM];rw [aj yO.eq_1]
  have h1:m.drop i=[]:=List.drop_eq_nil_of_le (by omega)
  have h3:¬ i < m.length:=by omega
  cases ok <;> simp [aj Px.eq_1,h1,h3]
 | succ n ih =>
  intro i hi ok
  have h1:i < m.length:=by omega
  have:=ih (i+1) (by omega) (ok&&isName m[i])
  have hb:=aeo H.tong m[i]
  rw [drop_cons h1]
  generalize hX:(m.drop (i+1)).all isName=X at *
  rw [List.all_cons,hX]
  simp only [EM] at this ⊢;rw [aj yO.eq_1]
  cases ok <;> cases hn:isName m[i] <;> rw [hn] at this hb <;> simp at this hb <;> simp (disch:=omega) [h1,aB,hb,H.inl,ak,H.pp,ppB,this]
theorem YF (H:RJ C) (i:It) (n:Int) (ht:0≤i.t∧i.t≤255) (hl:i.m.length≤1000000):FnW C 424 [eIt i,.int .i64 n]=some (.int .i64 (if uI n i=true then 0 else 6)):=by
 have hw:=acf H.tong i.x
 have hA:=Qm H i.k i.t i.x i.m i.e hl i.m.length 0 (by simp)
 have h0:=hA false
 have h1:=hA true
 rw [aH H.aiu rfl]
 unfold uI
 simp only [List.drop_zero,Bool.false_and,Bool.true_and] at h0 h1
 generalize i.m.all isName=M at *
 generalize isText i.x=X at *
 simp only [EM] at h0 h1
 simp at h0 h1
 by_cases c1:i.k=0
 · simp [Q9,eq_true c1,H.inl,ak,H.pp,ppB,hw,h0]
 · by_cases c2:n≤i.t
   · have c3:¬ i.t < n:=by omega
     simp (disch:=omega) [Q9,c1,c2,c3,aB,H.inl,ak,H.pp,ppB,hw,h0]
   · have c3:i.t < n:=by omega
     by_cases c4:i.m.length≤8
     · have c5:¬ (8 < (i.m.length:Int)):=by omega
       cases X
       · simp (disch:=omega) [Q9,c1,c2,c3,c4,c5,aB,H.inl,ak,H.pp,ppB,hw,h0]
       · simp (disch:=omega) [Q9,c1,c2,c3,c4,c5,aB,H.inl,ak,H.pp,ppB,hw,h1]
     · have c5:(8 < (i.m.length:Int)):=by omega
       simp (disch:=omega) [Q9,c1,c2,c3,c4,c5,aB,H.inl,ak,H.pp,ppB,hw,h0]
abbrev Bs:=List UInt8
@[simp] def eA (a:Bs × Bs):List AV:=[.str a.1,.str a.2]
structure Nd where
 k:Int
 t:Bs
 y:Bs
 a:List (Bs × Bs)
 ae:Bool
 x:Bs
 ch:List Nd
 ce:Bool
mutual
def Nd.c:Nd→List AV
 | ⟨k,t,y,a,ae,x,ch,ce⟩=>[.int .u8 k,.str t,.str y,.ro 2 (a.map eA) ae,.str x,.ro 6 (Nd.cs ch) ce]
def Nd.cs:List Nd→List (List AV)
 | []=>[]
 | n::r=>n.c::Nd.cs r
end
theorem Nd.SL:∀ l:List Nd,Nd.cs l=l.map Nd.c
 | []=>rfl
 | n::r=>by rw [Nd.cs,Nd.SL r];rfl
theorem Nd.dY (n:Nd):n.c=[.int .u8 n.k,.str n.t,.str n.y,.ro 2 (n.a.map eA) n.ae,.str n.x,.ro 6 (n.ch.map Nd.c) n.ce]:=by
 cases n;rw [Nd.c,Nd.SL]
@[simp] theorem Nd.am1 (n:Nd):n.c.length=6:=by rw [Nd.dY];rfl
@[simp] theorem Nd.aiR (n:Nd):n.c.take 6=n.c:=List.take_of_length_le (by simp)
@[simp] theorem Nd.c0 (n:Nd):n.c[0]?=some (.int .u8 n.k):=by rw [Nd.dY];rfl
@[simp] theorem Nd.c1 (n:Nd):n.c[1]?=some (.str n.t):=by rw [Nd.dY];rfl
@[simp] theorem Nd.c2 (n:Nd):n.c[2]?=some (.str n.y):=by rw [Nd.dY];rfl
@[simp] theorem Nd.c3 (n:Nd):n.c[3]?=some (.ro 2 (n.a.map eA) n.ae):=by rw [Nd.dY];rfl
@[simp] theorem Nd.c4 (n:Nd):n.c[4]?=some (.str n.x):=by rw [Nd.dY];rfl
@[simp] theorem Nd.c5 (n:Nd):n.c[5]?=some (.ro 6 (n.ch.map Nd.c) n.ce):=by rw [Nd.dY];rfl
@[simp] theorem Nd.g0 (n:Nd) (h:0 < n.c.length):n.c[0]=.int .u8 n.k:=Option.some.inj ((List.getElem?_eq_getElem h).symm.trans n.c0)
@[simp] theorem Nd.g1 (n:Nd) (h:1 < n.c.length):n.c[1]=.str n.t:=Option.some.inj ((List.getElem?_eq_getElem h).symm.trans n.c1)
@[simp] theorem Nd.g2 (n:Nd) (h:2 < n.c.length):n.c[2]=.str n.y:=Option.some.inj ((List.getElem?_eq_getElem h).symm.trans n.c2)
@[simp] theorem Nd.g3 (n:Nd) (h:3 < n.c.length):n.c[3]=.ro 2 (n.a.map eA) n.ae:=Option.some.inj ((List.getElem?_eq_getElem h).symm.trans n.c3)
@[simp] theorem Nd.g4 (n:Nd) (h:4 < n.c.length):n.c[4]=.str n.x:=Option.some.inj ((List.getElem?_eq_getElem h).symm.trans n.c4)
@[simp] theorem Nd.g5 (n:Nd) (h:5 < n.c.length):n.c[5]=.ro 6 (n.ch.map Nd.c) n.ce:=Option.some.inj ((List.getElem?_eq_getElem h).symm.trans n.c5)
@[simp] theorem Nd.hd (n:Nd):n.c.head?=some (.int .u8 n.k):=by rw [Nd.dY];rfl
@[simp] theorem Nd.amh (n:Nd):bQ n.c=false:=by rw [Nd.dY];rfl
@[simp] theorem Nd.ani (n:Nd) (h:aK) (k:Nat):bG (bP h (k+1)) n.c=some n.c:=by rw [Nd.dY];rfl
@[simp] theorem Nd.aew (n:Nd) (h:aK) (k:Nat):n.c.flatMap (aY h (k+1))=[]:=by rw [Nd.dY];rfl
@[simp] theorem Nd.ane (n:Nd) (π:Nat→Option Nat):lG π n.c=some n.c:=by rw [Nd.dY];rfl
@[simp] theorem Nd.akU (n:Nd):DI n.c=[]:=by rw [Nd.dY];rfl
@[simp] theorem Nd.alJ (n:Nd):n.c.all isC=true:=by rw [Nd.dY];rfl
@[simp] theorem Nd.aiG (n:Nd):n.c.all AV.cell=true:=by rw [Nd.dY];rfl
def after:Option Bs→Bs→Bool
 | none,_=>true
 | some p,a=>decide (p < a)
def atOk:Option Bs→List (Bs × Bs)→Bool
 | _,[]=>true
 | p,a::r=>isName a.1&&isText a.2&&after p a.1&&atOk (some a.1) r
def iy:List Bs→List Bs→Bool
 | _,[]=>true
 | p,k::r=>!(decide (k≠[])&&p.contains k)&&iy (p++[k]) r
def alone (n:Nd):Bool :=
 if n.k=2 then isText n.x&&decide (n.t=[])&&decide (n.y=[])&&decide (n.a=[])&&decide (n.ch=[])
 else decide (n.k=1)&&isName n.t&&(decide (n.y=[])||isName n.y)&&decide (n.x=[])&&decide (n.a.length≤8)&&decide (n.ch.length≤16)&&atOk none n.a&&iy [] (n.ch.map Nd.y)
structure VL (C:aG):Prop extends ng C where
 akF:C.fns.get 434=some xR
 ajk:C.fns.get 519=some adW
 ajf:C.fns.get 518=some ZM
 aj2:C.fns.get 562=some aeH
theorem aq7 (H:VL C) (n:Nd) (c:Nd):FnW C 519 [.agg n.c,.rop c.c]=some (.bool (decide (n.y=c.y))):=by
 rw [aH H.ajk rfl,Nd.dY,Nd.dY]
 by_cases h:n.y=c.y
 · simp [adW,h]
 · simp [adW,h]
theorem SX (H:VL C) (c:Nd) (l:List Nd) (e:Bool) (hl:l.length≤1000000):∀ n i,n+i=l.length →
 ∃ v:Int,yX C ⟨[(8,.int .i64 i),(7,.int .i64 l.length),(1,.fn 519 [.rop c.c]),(0,.ro 6 (l.map Nd.c) e)],[],0⟩=some (.int .i64 v)∧decide (v < 0)=!((l.drop i).map Nd.y).contains c.y:=by
 intro n
 induction n with
 | zero =>
  intro i hi
  simp only [yX];rw [aj uS.eq_1]
  have h1:l.drop i=[]:=List.drop_eq_nil_of_le (by omega)
  have h3:¬ i < l.length:=by omega
  exact ⟨-1,by simp [aj O9.eq_1,h3],by simp [h1]⟩
 | succ n ih =>
  intro i hi
  have h1:i < l.length:=by omega
  have hb:=aq7 H l[i] c
  rw [drop_cons h1]
  by_cases q:l[i].y=c.y
  · refine ⟨i,?_,by simp [q]⟩
    simp only [yX];rw [aj uS.eq_1]
    simp (disch:=omega) [h1,hb,q,H.inl,ak,H.pp,ppB]
  · obtain ⟨v,hv,hq⟩:=ih (i+1) (by omega)
    refine ⟨v,?_,?_⟩
    · simp only [yX] at hv ⊢;rw [aj uS.eq_1]
      simp at hv
      simp (disch:=omega) [h1,aB,hb,q,H.inl,ak,H.pp,ppB,hv]
    · have q':¬ c.y=l[i].y:=fun h=>q h.symm
      simp [hq,q']
theorem Pq (H:VL C) (c:Nd) (l:List Nd) (e:Bool) (hl:l.length≤1000000):FnW C 518 [.ro 6 (l.map Nd.c) e,.fn 519 [.rop c.c]]=some (.bool ((l.map Nd.y).contains c.y)):=by
 obtain ⟨v,h,q⟩:=SX H c l e hl l.length 0 (by simp)
 rw [List.drop_zero] at q
 have h2:FnW C 562 [.ro 6 (l.map Nd.c) e,.fn 519 [.rop c.c]]=some (.int .i64 v):=by
  rw [aH H.aj2 rfl]
  simp only [yX] at h
  simp at h
  simp [aeH,h]
 have q':(l.map Nd.y).contains c.y=!decide (v < 0):=by rw [q];simp
 rw [aH H.ajf rfl,q']
 by_cases c:v < 0
 · have c':¬ 0≤v:=by omega
   simp [ZM,H.inl,ak,H.pp,ppB,h2,c,c']
 · have c':0≤v:=by omega
   simp [ZM,H.inl,ak,H.pp,ppB,h2,c,c']
theorem blt_eq:∀ x y:Bs,Pav.bytesLess x y=decide (x < y)
 | [],[]=>by simp [Pav.bytesLess]
 | [],_::_=>by simp [Pav.bytesLess]
 | _::_,[]=>by simp [Pav.bytesLess]
 | a::x,b::y=>by
  rw [Pav.bytesLess,blt_eq x y]
  by_cases h:a < b
  · simp [h,List.cons_lt_cons_iff]
  · by_cases q:a=b
    · simp [h,q,List.cons_lt_cons_iff]
    · simp [h,q,List.cons_lt_cons_iff]
theorem BX (x y:Bs):(Pav.bytesLess x y||x == y)=!decide (y < x):=by
 rw [blt_eq]
 by_cases h:y < x
 · have h1:¬ x < y:=fun q=>List.lt_irrefl x (List.lt_trans q h)
   have h2:¬ x=y:=fun q=>by subst q;exact List.lt_irrefl x h
   simp [h,h1,h2]
 · rcases Decidable.em (x=y) with q | q
   · simp [h,q]
   · have h1:x < y:=Classical.byContradiction fun p=>q (List.le_antisymm (List.not_lt.1 h) (List.not_lt.1 p))
     simp [h,h1]
theorem YB (H:VL C) (k:Int) (t y x:Bs) (a:List (Bs × Bs)) (ae ce:Bool) (ch:List Nd) (hl:ch.length≤1000000):∀ n i,n+i=ch.length →
 EP C ⟨[(142,.int .i64 i),(141,.int .i64 ch.length),(140,.ro 6 (ch.map Nd.c) ce),(0,.rop [.int .u8 k,.str t,.str y,.ro 2 (a.map eA) ae,.str x,.ro 6 (ch.map Nd.c) ce])],[],0⟩ =
  some (.bool (iy ((ch.map Nd.y).take i) ((ch.map Nd.y).drop i))):=by
 intro n
 induction n with
 | zero =>
  intro i hi
  simp only [EP];rw [aj yQ.eq_1]
  have h1:(ch.map Nd.y).drop i=[]:=List.drop_eq_nil_of_le (by simp;omega)
  have h3:¬ i < ch.length:=by omega
  simp [aj OQ.eq_1,h1,h3,iy,-List.map_drop]
 | succ n ih =>
  intro i hi
  have h1:i < ch.length:=by omega
  have h2:i < (ch.map Nd.y).length:=by simp;omega
  have hb:=Pq H ch[i] (ch.take i) false (by simp;omega)
  have:=ih (i+1) (by omega)
  rw [List.take_succ_eq_append_getElem h2] at this
  rw [drop_cons h2,iy]
  have hy:(ch.map Nd.y)[i]=ch[i].y:=by simp
  rw [List.map_take,List.map_take] at hb
  rw [hy] at this ⊢
  have hne:¬ i=ch.length:=by omega
  have hle:i≤ch.length:=by omega
  simp only [EP] at this ⊢;rw [aj yQ.eq_1]
  generalize hP:(ch.map Nd.y).take i=P at *
  generalize hQ:(ch.map Nd.y).drop (i+1)=Q at *
  simp at this
  by_cases c1:ch[i].y=[]
  · rw [c1] at this
    simp (disch:=omega) [h1,aB,c1,H.inl,ak,H.pp,ppB,this]
  · by_cases c2:P.contains ch[i].y=true
    · rw [c2] at hb
      have c2':ch[i].y ∈ P:=by simpa using c2
      simp (disch:=omega) [h1,hne,hle,aB,c1,c2',hb,H.inl,ak,H.pp,ppB,this]
    · have c2':¬ ch[i].y ∈ P:=by simpa using c2
      have c3:P.contains ch[i].y=false:=by simpa using c2
      rw [c3] at hb
      simp (disch:=omega) [h1,hne,hle,aB,c1,c2',hb,H.inl,ak,H.pp,ppB,this]
theorem Hy (H:VL C) (k:Int) (t y x:Bs) (a:List (Bs × Bs)) (ae ce:Bool) (ch:List Nd) (hl:ch.length≤1000000) (ha:a.length≤1000000):∀ n i,n+i=a.length →
 Am C ⟨[(103,.int .i64 i),(102,.int .i64 a.length),(101,.ro 2 (a.map eA) ae),(0,.rop [.int .u8 k,.str t,.str y,.ro 2 (a.map eA) ae,.str x,.ro 6 (ch.map Nd.c) ce])],[],0⟩ =
  some (.bool (atOk (if i=0 then none else (a[i - 1]?).map Prod.fst) (a.drop i)&&iy [] (ch.map Nd.y))):=by
 intro n
 induction n with
 | zero =>
  intro i hi
  have hk:=YB H k t y x a ae ce ch hl ch.length 0 (by simp)
  simp only [List.take_zero,List.drop_zero] at hk
  generalize iy [] (ch.map Nd.y)=K at *
  simp only [EP] at hk
  simp at hk
  simp only [Am];rw [aj zV.eq_1]
  have h1:a.drop i=[]:=List.drop_eq_nil_of_le (by omega)
  have h3:¬ i < a.length:=by omega
  simp [aj Nl.eq_1,h1,h3,atOk,hk]
 | succ n ih =>
  intro i hi
  have h1:i < a.length:=by omega
  have hb:=named_ok H.tong a[i].1
  have hc:=Xl H.tong a[i].2
  have:=ih (i+1) (by omega)
  rw [if_neg (by omega),show i+1 - 1=i from rfl,List.getElem?_eq_getElem h1] at this
  rw [drop_cons h1,atOk]
  generalize hK:iy [] (ch.map Nd.y)=K at *
  simp only [Am] at this ⊢;rw [aj zV.eq_1]
  simp only [Option.map_some] at this
  generalize atOk (some a[i].1) (a.drop (i+1))=R at *
  simp at this
  cases q1:isName a[i].1
  · rw [q1] at hb
    simp (disch:=omega) [h1,aB,hb,H.inl,ak,H.pp,ppB]
  · cases q2:isText a[i].2
    · rw [q1] at hb;rw [q2] at hc
      simp (disch:=omega) [h1,aB,hb,hc,H.inl,ak,H.pp,ppB]
    · rw [q1] at hb;rw [q2] at hc
      cases i with
      | zero =>
       simp at this
       simp (disch:=omega) [h1,aB,hb,hc,H.inl,ak,H.pp,ppB,this,after]
      | succ i =>
       have h4:i < a.length:=by omega
       have h5:(i:Int)+1 < a.length:=by omega
       simp at this
       by_cases q3:a[i].1 < a[i+1].1
       · have q4:¬ a[i+1].1≤a[i].1:=List.not_le.2 q3
         simp (disch:=omega) [h1,h4,h5,aB,hb,hc,H.inl,ak,H.pp,ppB,this,BX,after,q3,q4]
       · have q4:a[i+1].1≤a[i].1:=List.not_lt.1 q3
         simp (disch:=omega) [h1,h4,h5,aB,hb,hc,H.inl,ak,H.pp,ppB,this,BX,after,q3,q4]
theorem adL (H:VL C) (n:Nd):FnW C 434 [.rop n.c]=some (.bool (alone n)):=by
 obtain ⟨k,t,y,a,ae,x,ch,ce⟩:=n
 rw [aH H.akF rfl,Nd.dY]
 simp only []
 unfold alone
 simp only []
 have ht:=named_ok H.tong t
 have hy:=named_ok H.tong y
 have hx:=Xl H.tong x
 by_cases k2:k=2
 · rw [if_pos k2]
   generalize isText x=X at *
   cases X
   · simp [xR,k2,hx,H.inl,ak,H.pp,ppB]
   · by_cases c1:t=[] <;> by_cases c2:y=[] <;> by_cases c3:a=[] <;> by_cases c4:ch=[] <;> simp [xR,k2,hx,H.inl,ak,H.pp,ppB,c1,c2,c3,c4]
 · rw [if_neg k2]
   by_cases k1:k=1
   · cases q1:isName t
     · rw [q1] at ht;simp [xR,k1,ht,H.inl,ak,H.pp,ppB]
     · rw [q1] at ht
       by_cases c2:y=[]
       · subst c2
         by_cases c3:x=[]
         · subst c3
           by_cases c4:a.length≤8
           · by_cases c5:ch.length≤16
             · have c6:¬ 8 < (a.length:Int):=by omega
               have c7:¬ 16 < (ch.length:Int):=by omega
               have hl:=Hy H 1 t [] [] a ae ce ch (by omega) (by omega) a.length 0 (by simp)
               simp only [Am,if_true,List.drop_zero] at hl
               generalize atOk none a=A at *
               generalize iy [] (ch.map Nd.y)=K at *
               simp at hl
               simp [xR,k1,ht,H.inl,ak,H.pp,ppB,c4,c5,c6,c7,hl]
             · have c6:¬ 8 < (a.length:Int):=by omega
               have c7:16 < (ch.length:Int):=by omega
               simp [xR,k1,ht,H.inl,ak,H.pp,ppB,c4,c5,c6,c7]
           · have c6:8 < (a.length:Int):=by omega
             simp [xR,k1,ht,H.inl,ak,H.pp,ppB,c4,c6]
         · simp [xR,k1,ht,H.inl,ak,H.pp,ppB,c3]
       · cases q2:isName y
         · rw [q2] at hy;simp [xR,k1,ht,hy,H.inl,ak,H.pp,ppB,c2]
         · rw [q2] at hy
           by_cases c3:x=[]
           · subst c3
             by_cases c4:a.length≤8
             · by_cases c5:ch.length≤16
               · have c6:¬ 8 < (a.length:Int):=by omega
                 have c7:¬ 16 < (ch.length:Int):=by omega
                 have hl:=Hy H 1 t y [] a ae ce ch (by omega) (by omega) a.length 0 (by simp)
                 simp only [Am,if_true,List.drop_zero] at hl
                 generalize atOk none a=A at *
                 generalize iy [] (ch.map Nd.y)=K at *
                 simp at hl
                 simp [xR,k1,ht,hy,H.inl,ak,H.pp,ppB,c2,c4,c5,c6,c7,hl]
               · have c6:¬ 8 < (a.length:Int):=by omega
                 have c7:16 < (ch.length:Int):=by omega
                 simp [xR,k1,ht,hy,H.inl,ak,H.pp,ppB,c2,c4,c5,c6,c7]
             · have c6:8 < (a.length:Int):=by omega
               simp [xR,k1,ht,hy,H.inl,ak,H.pp,ppB,c2,c4,c6]
           · simp [xR,k1,ht,hy,H.inl,ak,H.pp,ppB,c2,c3]
   · simp [xR,k1,k2,H.inl,ak,H.pp,ppB]
end Go.D
end
