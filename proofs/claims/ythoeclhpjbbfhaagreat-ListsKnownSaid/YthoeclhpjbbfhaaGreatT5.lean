/- Part of the theory that the claims of this work use: PwP, PwLib, D01, PavLink, L24, PwGlue, PwGlue2, G00, D02, D03, D04, D05. No conditions of its own. -/
import Derived.Test.YthoeclhpjbbfhaaGreatT4
import Derived.Laws.RangeAny
import Derived.Test.YthoeclhpjbbfhaaGreatChecked
import Derived.KernelRfl
import Derived.ChangeSame
import Derived.ChangeArms
import Derived.ReadAgain
import Derived.Handed
import Derived.JoinedOf
import Derived.RowKit
import Derived.Test.YthoeclhpjbbfhaaGreatRows
import Derived.ProofKit
import Derived.Sort.Walk0
set_option linter.unusedVariables false
set_option linter.unusedSimpArgs false
set_option maxHeartbeats 4000000
set_option maxRecDepth 10000
section
set_option maxRecDepth 100000
namespace P
open Go Go.Pav Go.Pw Go.Pw.Z Go.Pw.ZC
def w0:WFn:=⟨0,[],zd (O 0 [E .fail])⟩
def w85_c0:WCode:=zd (r (O 339 [ca 119 [],d 0 (m 339)]))
def w85_B0:WCode:=zd (s (s (O 269 [m 22,lti 269 120]) (cc 270 (w .skip) (ee 7))) (s (B 8 (s (Q 273 [m 22,E (.cvt .u8 (T 273)),m 22,E (.cvt .u8 (T 275)),m 22,E (.cvt .u8 (T 277)),E (.build [.int .u8 0,.int .u8 0,.int .u8 0,.int .u8 0] [(0,1,T 274),(1,1,T 276),(2,1,.c (.int .u8 1)),(3,1,T 278)]),m 22,adi 280 1,E (.cvt .u8 (T 281)),m 22,E (.cvt .u8 (T 283)),m 22,E (.bin .mul (T 285) (N 3)),E (.cvt .u8 (T 286)),E (.build [.int .u8 0,.int .u8 0,.int .u8 0,.int .u8 0] [(0,1,T 282),(1,1,.c (.int .u8 2)),(2,1,T 284),(3,1,T 287)]),m 22,adi 289 2,E (.cvt .u8 (T 290)),E (.build [.int .u8 0,.int .u8 0,.int .u8 0,.int .u8 0] [(0,1,T 291),(1,1,.c (.int .u8 1)),(2,1,.c (.int .u8 0)),(3,1,.c (.int .u8 9))]),E (.buildS [.int .u8 0,.int .u8 0,.int .u8 0,.int .u8 0] 3 [(0,T 279),(1,T 288),(2,T 292)]),E (.build [.ro 4 [] true] [(0,1,T 293)]),m 22,E (.cvt .u8 (T 295)),E (.buildS [.int .u8 0] 3 [(0,T 296),(1,.c (.int .u8 0)),(2,.c (.int .u8 7))]),m 22,E (.cvt .u8 (T 298)),E (.build [.ro 4 [] true,.ro 1 [] true,.int .u8 0] [(0,1,T 294),(1,1,T 297),(2,1,T 299)]),d 23 (E (.alloc [.ro 4 [] true,.ro 1 [] true,.int .u8 0])),n (st 3 23 300)] [23,22]) (s (O 301 [m 22,adi 301 30,E (.cvt .u8 (T 302)),m 22,E (.cvt .u8 (T 304)),E (.build [.int .u8 0,.int .u8 0,.int .u8 0,.int .u8 0] [(0,1,T 303),(1,1,.c (.int .u8 2)),(2,1,.c (.int .u8 3)),(3,1,T 305)]),m 22,adi 307 1,E (.cvt .u8 (T 308)),E (.build [.int .u8 0,.int .u8 0,.int .u8 0,.int .u8 0] [(0,1,T 309),(1,1,.c (.int .u8 0)),(2,1,.c (.int .u8 1)),(3,1,.c (.int .u8 1))]),E (.buildS [.int .u8 0,.int .u8 0,.int .u8 0,.int .u8 0] 2 [(0,T 306),(1,T 310)]),E (.build [.ro 4 [] true] [(0,1,T 311)]),E (.build [.ro 4 [] true,.ro 1 [] true,.int .u8 0] [(0,1,T 312)]),d 24 (E (.alloc [.ro 4 [] true,.ro 1 [] true,.int .u8 0])),n (st 3 24 313)]) (s (Q 314 [h 3 23,h 3 24,m 22,E (.cvt .u8 (T 316)),m 22,E (.bin .quo (T 318) (N 2)),E (.cvt .u8 (T 319)),m 22,E (.bin .quo (T 321) (N 3)),E (.cvt .u8 (T 322)),E (.build [.int .u8 0,.int .u8 0,.int .u8 0] [(0,1,T 317),(1,1,T 320),(2,1,T 323)]),ca 117 [314,315,324],nt 325,m 326,z 327 (h 3 23),z 327 (m 22),z 327 (E (.bin .rem (T 329) (N 4))),z 327 (m 22),z 327 (E (.bin .rem (T 331) (N 3))),z 327 (m 22),z 327 (E (.bin .rem (T 333) (N 2))),z 327 (E (.build [.int .i64 0,.int .i64 0,.int .i64 0] [(0,1,T 330),(1,1,T 332),(2,1,T 334)])),z 327 (ca 118 [328,335]),z 327 (nt 336),po 327 337] [338,22]) (c 338 (r (O 0 [ff]))))))) (O 271 [m 22,adi 271 1,d 22 (m 272)])))
def w85_L0:WCode:=.loop ⟨true,[22],[]⟩ w85_B0
def w85_c1:WCode:=zd (s (s (O 22 [i 0]) (bk 7 w85_L0 ⟨true,[],[]⟩)) w85_c0)
def w85_c2:WCode:=zd (O 207 [m 19,adi 207 1,d 19 (m 208)])
def w85_c3:WCode:=zd (s (O 260 [h 2 20,ca 115 [260],nei 261 7,m 262,z 263 (h 2 20),z 263 (E (.build [.ro 6 [] true] [])),z 263 (ca 116 [264,265]),z 263 (nt 266),po 263 267]) (c 268 (r (O 0 [ff]))))
def w85_B2:WCode:=zd (s (s (O 223 [m 21,lti 223 9]) (cc 224 (w .skip) (ee 5))) (s (B 6 (U 227 [f 0 20,l 1 227,m 21,ca 3107 [],E (.fldv 0 1 false (T 230)),E (.idxs 9 (T 231) (N 0)),h 9 232,ix 9 228 229,n (st 9 234 233)] [(1,3)] [21,20,19])) (O 225 [m 21,adi 225 1,d 21 (m 226)])))
def w85_L2:WCode:=.loop ⟨true,[21,20,19],[]⟩ w85_B2
def w85_B1:WCode:=zd (s (s (O 205 [m 19,lti 205 8]) (cc 206 (w .skip) (ee 2))) (s (bk 3 (s (Q 209 [ca 3107 [],d 20 (E (.alloc [.ro 9 [] true,.int .i64 0])),n (st 2 20 209)] [20,19]) (s (s (O 210 [m 19]) (bk 4 (s (O 217 [eqi 210 0,d 216 (m 217)]) (cc 216 (O 218 [f 0 20,n (E (.store 1 (T 218) (.c (.ro 9 [] true))))]) (s (O 220 [eqi 210 1,d 219 (m 220)]) (cc 219 (s (O 221 [E (.mksl [.int .u8 0,.str [],.str [],.ro 3 [] true,.str [],.ro 6 [] true,.int .i64 0,.bool false,.int .i64 0] 128 (N 9) (N 9)),f 0 20,n (st 1 222 221)]) (s (O 21 [i 0]) (bk 5 w85_L2 ⟨true,[20,19],[]⟩))) (s (O 236 [eqi 210 2,d 235 (m 236)]) (cc 235 (O 237 [f 1 20,n (E (.store 1 (T 237) (N 0)))]) (s (O 239 [eqi 210 3,d 238 (m 239)]) (cc 238 (O 240 [f 1 20,n (E (.store 1 (T 240) (N 65)))]) (s (O 242 [eqi 210 4,d 241 (m 242)]) (cc 241 (O 243 [f 0 20,l 1 243,E (.idxs 9 (T 244) (N 1)),f 6 245,n (E (.store 1 (T 246) (N 0)))]) (s (O 248 [eqi 210 5,d 247 (m 248)]) (cc 247 (O 249 [f 0 20,l 1 249,E (.idxs 9 (T 250) (N 0)),f 6 251,n (E (.store 1 (T 252) (N 2305843009213693953)))]) (s (O 254 [eqi 210 6,d 253 (m 254)]) (cc 253 (Q 255 [f 0 20,l 1 255,E (.idxs 9 (T 256) (N 1)),f 0 257,f 0 258,n (E (.store 1 (T 259) (.c (.int .u8 2))))] [20,19]) (O 211 [f 0 20,l 1 211,E (.idxs 9 (T 212) (N 0)),f 0 213,f 1 214,n (E (.store 1 (T 215) (.c (.str []))))]))))))))))))))) ⟨true,[20,19],[]⟩)) w85_c3)) ⟨true,[19],[]⟩) w85_c2))
def w85_L1:WCode:=.loop ⟨true,[19],[]⟩ w85_B1
def w85_c4:WCode:=zd (s (O 41 [h 2 1,E (.build [.ro 6 [] true] []),m 2,ca 4108 [41,42,43],d 40 (m 44),ex 0 40,ex 1 40,d 4 (E (.alloc [.ro 6 [] true])),n (st 1 4 45),d 5 (m 46)]) (s (O 48 [h 2 1,h 1 4,E (.build [.int .u64 0,.int .u8 0,.str [],.ro 1 [] true] [(0,1,.c (.int .u64 2000))]),E (.buildS [.int .u64 0,.int .u8 0,.str [],.ro 1 [] true] 1 [(0,T 50)]),E (.call 4109 [T 48,T 49,N 1024,T 51]),d 47 (m 52),ex 0 47,ex 1 47,d 6 (E (.alloc [.ro 6 [] true])),n (st 1 6 53),d 7 (m 54)]) (s (U 56 [h 2 1,h 1 4,m 2,E (.build [.int .u64 0,.int .u8 0,.str [],.ro 1 [] true] [(0,1,.c (.int .u64 2000))]),E (.buildS [.int .u64 0,.int .u8 0,.str [],.ro 1 [] true] 1 [(0,T 59)]),E (.app [.int .u64 0,.int .u8 0,.str [],.ro 1 [] true] 1125899906842680 false (T 58) (T 60)),ca 4108 [56,57,61],d 55 (m 62),ex 0 55,ex 1 55,d 8 (E (.alloc [.ro 6 [] true])),n (st 1 8 63),d 9 (m 64)] [(0,4),(1,4),(0,5),(1,5),(0,10),(1,10),(4,10),(5,10),(6,10)] [9,7,5,4,2,1]) (s (O 66 [h 2 1,h 1 4,E (.call 4110 [T 66,T 67,N 0,N 1]),d 65 (m 68),ex 0 65,ex 1 65,d 10 (E (.alloc [.ro 6 [] true])),n (st 1 10 69),d 11 (m 70)]) (s (O 72 [h 2 1,h 1 10,E (.build [.int .u64 0,.int .u8 0,.str [],.ro 1 [] true] [(0,1,.c (.int .u64 1))]),E (.buildS [.int .u64 0,.int .u8 0,.str [],.ro 1 [] true] 1 [(0,T 74)]),E (.call 4109 [T 72,T 73,N 1023,T 75]),d 71 (m 76),ex 0 71,ex 1 71,d 12 (E (.alloc [.ro 6 [] true])),n (st 1 12 77),d 13 (m 78)]) (s (s (U 79 [m 5,nei 79 0,m 80,z 81 (m 7),z 81 (nei 82 3),po 81 83,m 84,z 85 (m 9),z 85 (nei 86 3),po 85 87,m 88,z 89 (m 11),z 89 (nei 90 0),po 89 91,m 92,z 93 (m 13),z 93 (nei 94 0),po 93 95,m 96,z 97 (h 1 4),z 97 (ca 111 [98]),z 97 (nei 99 15360),po 97 100,m 101,z 102 (f 0 12),z 102 (l 1 103),z 102 (ln 1 104),z 102 (nei 105 1024),po 102 106,m 107,z 108 (m 2),z 108 (ln 1 109),z 108 (gti 110 0),z 108 (m 111),y 112 (f 0 12),y 112 (l 1 113),y 112 (E (.idxs 6 (T 114) (N 1023))),y 112 (f 0 115),y 112 (h 4 116),y 112 (m 2),y 112 (E (.idxs 4 (T 118) (N 0))),y 112 (h 4 119),y 112 (ca 112 [117,120]),y 112 (eqi 121 0),z 108 (pa 112 122),po 108 123] [] [124,1]) (c 124 (r (O 0 [ff])))) (s (O 125 [f 0 1,l 1 125,E (.idxs 9 (T 126) (N 1)),f 6 127,n (E (.store 1 (T 128) (N 2305843009213693952)))]) (s (Q 130 [h 2 1,E (.build [.ro 6 [] true] []),E (.build [.int .u64 0,.int .u8 0,.str [],.ro 1 [] true] [(0,1,.c (.int .u64 1)),(1,1,.c (.int .u8 1))]),E (.build [.int .u64 0,.int .u8 0,.str [],.ro 1 [] true] [(0,1,.c (.int .u64 2)),(1,1,.c (.int .u8 1))]),E (.buildS [.int .u64 0,.int .u8 0,.str [],.ro 1 [] true] 2 [(0,T 132),(1,T 133)]),E (.call 4109 [T 130,T 131,N 0,T 134]),d 129 (m 135),ex 0 129,ex 1 129,d 14 (E (.alloc [.ro 6 [] true])),n (st 1 14 136),d 5 (m 137)] [14,5,1]) (s (O 139 [h 2 1,h 1 14,E (.build [.int .u64 0,.int .u8 0,.str [],.ro 1 [] true] [(0,1,.c (.int .u64 3))]),E (.buildS [.int .u64 0,.int .u8 0,.str [],.ro 1 [] true] 1 [(0,T 141)]),E (.call 4109 [T 139,T 140,N 1,T 142]),d 138 (m 143),ex 0 138,ex 1 138,d 7 (m 145)]) (s (O 147 [h 2 1,h 1 14,E (.build [.int .u64 0,.int .u8 0,.str [],.ro 1 [] true] [(0,1,.c (.int .u64 3))]),E (.build [.int .u64 0,.int .u8 0,.str [],.ro 1 [] true] [(0,1,.c (.int .u64 1)),(1,1,.c (.int .u8 1))]),E (.build [.int .u64 0,.int .u8 0,.str [],.ro 1 [] true] [(0,1,.c (.int .u64 2)),(1,1,.c (.int .u8 1))]),E (.buildS [.int .u64 0,.int .u8 0,.str [],.ro 1 [] true] 3 [(0,T 149),(1,T 150),(2,T 151)]),ca 4108 [147,148,152],d 146 (m 153),ex 0 146,ex 1 146,d 9 (m 155)]) (s (Q 157 [h 2 1,h 1 14,E (.call 113 [T 157,T 158,.c (.int .u64 1),N 2305843009213693942]),d 156 (m 159),ex 0 156,ex 1 156,d 15 (E (.alloc [.ro 6 [] true])),n (st 1 15 160),d 11 (m 161)] [15,11,9,7,5,1]) (s (O 163 [h 2 1,h 1 15,E (.build [.int .u64 0,.int .u8 0,.str [],.ro 1 [] true] [(0,1,.c (.int .u64 3))]),E (.buildS [.int .u64 0,.int .u8 0,.str [],.ro 1 [] true] 1 [(0,T 165)]),E (.call 4109 [T 163,T 164,N 0,T 166]),d 162 (m 167),ex 0 162,ex 1 162,d 16 (E (.alloc [.ro 6 [] true])),n (st 1 16 168),d 13 (m 169)]) (s (O 171 [h 2 1,h 1 16,E (.build [.int .u64 0,.int .u8 0,.str [],.ro 1 [] true] [(0,1,.c (.int .u64 1)),(1,1,.c (.int .u8 1))]),E (.buildS [.int .u64 0,.int .u8 0,.str [],.ro 1 [] true] 1 [(0,T 173)]),E (.call 114 [T 171,T 172,N 1,T 174]),d 170 (m 175),ex 0 170,ex 1 170,d 17 (E (.alloc [.ro 6 [] true])),n (st 1 17 176),d 18 (m 177)]) (s (s (Q 178 [m 5,nei 178 0,m 179,z 180 (m 7),z 180 (nei 181 13),po 180 182,m 183,z 184 (m 9),z 184 (nei 185 13),po 184 186,m 187,z 188 (m 11),z 188 (nei 189 0),po 188 190,m 191,z 192 (m 13),z 192 (nei 193 0),po 192 194,m 195,z 196 (m 18),z 196 (nei 197 13),po 196 198,m 199,z 200 (h 1 16),z 200 (ca 111 [201]),z 200 (nei 202 4611686018427387904),po 200 203] [204]) (c 204 (r (O 0 [ff])))) (s (s (O 19 [i 0]) (bk 2 w85_L1 ⟨true,[],[]⟩)) w85_c1)))))))))))))))
def w85_B3:WCode:=zd (s (s (O 26 [m 3,lti 26 1024]) (cc 27 (w .skip) (ee 0))) (s (B 1 (O 30 [m 2,m 3,adi 31 1,E (.cvt .u64 (T 32)),m 3,E (.bin .rem (T 34) (N 2)),E (.cvt .u8 (T 35)),E (.build [.int .u64 0,.int .u8 0,.str [],.ro 1 [] true] [(0,1,T 33),(1,1,T 36)]),E (.buildS [.int .u64 0,.int .u8 0,.str [],.ro 1 [] true] 1 [(0,T 37)]),E (.app [.int .u64 0,.int .u8 0,.str [],.ro 1 [] true] 56 false (T 30) (T 38)),d 2 (m 39)])) (Q 28 [m 3,adi 28 1,d 3 (m 29)] [3,2,1])))
def w85_L3:WCode:=.loop ⟨true,[3,2,1],[]⟩ w85_B3
def w85:WFn:=⟨0,[.tmp 0],zd (s (O 0 [ff]) (s (O 25 [ca 3107 [],d 1 (E (.alloc [.ro 9 [] true,.int .i64 0])),n (st 2 1 25)]) (s (R 2 [E (.mv (.c (.ro 4 [] true)))] ⟨true,[2,1],[(2,4)]⟩) (s (s (O 3 [i 0]) (bk 0 w85_L3 ⟨true,[2,1],[]⟩)) w85_c4))))⟩
@[simp] theorem w85_E0:ZL w85_L0 w85_B0 ⟨true,[22],[]⟩:=ck_lp rfl
@[simp] theorem w85_E2:ZL w85_L2 w85_B2 ⟨true,[21,20,19],[]⟩:=ck_lp rfl
@[simp] theorem w85_E1:ZL w85_L1 w85_B1 ⟨true,[19],[]⟩:=ck_lp rfl
@[simp] theorem w85_E3:ZL w85_L3 w85_B3 ⟨true,[3,2,1],[]⟩:=ck_lp rfl
def w107:WFn:=⟨0,[.cell 0 2 true],zd (s (O 0 [E (.alloc [.ro 9 [] true,.int .i64 0])]) (s (O 2 [E (.build [.int .u8 0,.str [],.str [],.ro 3 [] true,.str [],.ro 6 [] true] [(0,1,.c (.int .u8 1)),(1,1,.c (.str [114,111,119]))]),d 1 (E (.alloc [.int .u8 0,.str [],.str [],.ro 3 [] true,.str [],.ro 6 [] true])),n (st 6 1 2)]) (r (O 3 [h 6 1,E (.build [.int .u8 0,.str [],.str [],.ro 3 [] true,.str [],.ro 6 [] true,.int .i64 0,.bool false,.int .i64 0] [(0,6,T 3),(6,1,N 10)]),h 6 1,E (.build [.int .u8 0,.str [],.str [],.ro 3 [] true,.str [],.ro 6 [] true,.int .i64 0,.bool false,.int .i64 0] [(0,6,T 5),(6,1,N 20)]),E (.buildS [.int .u8 0,.str [],.str [],.ro 3 [] true,.str [],.ro 6 [] true,.int .i64 0,.bool false,.int .i64 0] 2 [(0,T 4),(1,T 6)]),E (.build [.ro 9 [] true,.int .i64 0] [(0,1,T 7),(1,1,N 1)]),n (st 2 0 8)]))))⟩
def w3107:WFn:=⟨0,[.cell 0 2 true],zd (s (O 0 [E (.alloc [.ro 9 [] true,.int .i64 0])]) (s (O 2 [E (.build [.int .u8 0,.str [],.str [],.ro 3 [] true,.str [],.ro 6 [] true] [(0,1,.c (.int .u8 1)),(1,1,.c (.str [114,111,119]))]),d 1 (E (.alloc [.int .u8 0,.str [],.str [],.ro 3 [] true,.str [],.ro 6 [] true])),n (st 6 1 2)]) (r (O 3 [h 6 1,E (.build [.int .u8 0,.str [],.str [],.ro 3 [] true,.str [],.ro 6 [] true,.int .i64 0,.bool false,.int .i64 0] [(0,6,T 3),(6,1,N 10)]),h 6 1,E (.build [.int .u8 0,.str [],.str [],.ro 3 [] true,.str [],.ro 6 [] true,.int .i64 0,.bool false,.int .i64 0] [(0,6,T 5),(6,1,N 20)]),E (.buildS [.int .u8 0,.str [],.str [],.ro 3 [] true,.str [],.ro 6 [] true,.int .i64 0,.bool false,.int .i64 0] 2 [(0,T 4),(1,T 6)]),E (.build [.ro 9 [] true,.int .i64 0] [(0,1,T 7),(1,1,N 1)]),n (st 2 0 8)]))))⟩
def w108:WFn:=⟨3,[.cell 6 1 true,.tmp 7],zd (s (R 6 [d 3 (bx 0),d 4 (bx 1),E (.alloc [.ro 6 [] true]),i 0] ⟨true,[6,4,3,2],[(3,65536),(4,65536)]⟩) (r (V 8 [h 2 3,h 1 4,m 2,ln 1 10,m 2,E (.call 217 [.c (.ro 6 [] true)]),E (.build [.bool false,.int .i64 0,.ro 4 [] true,.nilf,.nilf] [(0,1,.c (.bool true)),(1,1,T 11),(2,1,T 12),(3,1,T 13),(4,1,.c (.fn 218 []))]),ca 216 [8,9,14],ex 0 15,ex 1 15,n (st 1 6 16),d 7 (m 17)] [(0,5),(1,5),(3,5)] ⟨false,[],[]⟩)))⟩
def w4108:WFn:=⟨3,[.cell 6 1 true,.tmp 7],zd (s (R 6 [d 3 (bx 0),d 4 (bx 1),E (.alloc [.ro 6 [] true]),i 0] ⟨true,[6,4,3,2],[(3,65536),(4,65536)]⟩) (r (V 8 [h 2 3,h 1 4,m 2,ln 1 10,m 2,E (.call 217 [.c (.ro 6 [] true)]),E (.build [.bool false,.int .i64 0,.ro 4 [] true,.nilf,.nilf] [(0,1,.c (.bool true)),(1,1,T 11),(2,1,T 12),(3,1,T 13),(4,1,.c (.fn 218 []))]),ca 2043 [8,9,14],ex 0 15,ex 1 15,n (st 1 6 16),d 7 (m 17)] [(0,5),(1,5),(3,5)] ⟨false,[],[]⟩)))⟩
def w109:WFn:=⟨4,[.cell 8 1 true,.tmp 9],zd (s (R 4 [bx 0,bx 1,bx 2,d 8 (E (.alloc [.ro 6 [] true])),d 9 (i 0)] ⟨true,[8,6,5,4,3],[(4,65536),(5,65536),(6,65536)]⟩) (r (U 10 [h 2 4,h 1 5,l 1 6,f 0 5,l 1 13,ln 1 14,E (.call 219 [T 12,N 0,T 15]),f 0 5,l 1 17,ln 1 18,m 3,ln 1 20,ad 19 21,m 3,f 0 5,l 1 24,ca 217 [25],E (.mkfn 220 [T 5,T 6]),E (.build [.bool false,.int .i64 0,.ro 4 [] true,.nilf,.nilf] [(0,1,T 16),(1,1,T 22),(2,1,T 23),(3,1,T 26),(4,1,T 27)]),ca 216 [10,11,28],ex 0 29,ex 1 29,n (st 1 8 30),d 9 (m 31)] [(0,6),(1,6),(6,8),(6,9),(6,11),(6,15),(0,16),(1,16),(8,16),(9,16),(11,16)] [9,8])))⟩
def w4109:WFn:=⟨4,[.cell 8 1 true,.tmp 9],zd (s (R 4 [bx 0,bx 1,bx 2,d 8 (E (.alloc [.ro 6 [] true])),d 9 (i 0)] ⟨true,[8,6,5,4,3],[(4,65536),(5,65536),(6,65536)]⟩) (r (V 10 [h 2 4,h 1 5,l 1 6,f 0 5,l 1 13,ln 1 14,E (.call 219 [T 12,N 0,T 15]),f 0 5,l 1 17,ln 1 18,m 3,ln 1 20,ad 19 21,m 3,f 0 5,l 1 24,ca 217 [25],E (.mkfn 220 [T 5,T 6]),E (.build [.bool false,.int .i64 0,.ro 4 [] true,.nilf,.nilf] [(0,1,T 16),(1,1,T 22),(2,1,T 23),(3,1,T 26),(4,1,T 27)]),ca 2043 [10,11,28],ex 0 29,ex 1 29,n (st 1 8 30),d 9 (m 31)] [(0,6),(1,6),(6,8),(6,9),(6,11),(6,15),(0,16),(1,16),(8,16),(9,16),(11,16)] ⟨false,[],[]⟩)))⟩
def w110:WFn:=⟨4,[.cell 8 1 true,.tmp 9],zd (s (R 4 [bx 0,bx 1,bx 2,bx 3,E (.alloc [.ro 6 [] true]),i 0] ⟨true,[8,7,6,5,4],[(4,65536),(5,65536),(6,65536),(7,65536)]⟩) (r (V 10 [h 2 4,h 1 5,l 1 6,l 1 7,f 0 5,l 1 14,ln 1 15,ca 219 [12,13,16],E (.mkfn 222 [T 5,T 6,T 7]),E (.build [.bool false,.int .i64 0,.ro 4 [] true,.nilf,.nilf] [(0,1,T 17),(4,1,T 18)]),ca 216 [10,11,19],ex 0 20,ex 1 20,n (st 1 8 21),d 9 (m 22)] [(0,7),(1,7)] ⟨false,[],[]⟩)))⟩
def w4110:WFn:=⟨4,[.cell 8 1 true,.tmp 9],zd (s (R 4 [bx 0,bx 1,bx 2,bx 3,E (.alloc [.ro 6 [] true]),i 0] ⟨true,[8,7,6,5,4],[(4,65536),(5,65536),(6,65536),(7,65536)]⟩) (r (V 10 [h 2 4,h 1 5,l 1 6,l 1 7,f 0 5,l 1 14,ln 1 15,ca 219 [12,13,16],E (.mkfn 222 [T 5,T 6,T 7]),E (.build [.bool false,.int .i64 0,.ro 4 [] true,.nilf,.nilf] [(0,1,T 17),(4,1,T 18)]),ca 3003 [10,11,19],ex 0 20,ex 1 20,n (st 1 8 21),d 9 (m 22)] [(0,7),(1,7)] ⟨false,[],[]⟩)))⟩
def w111_c0:WCode:=zd (r (O 25 [m 3,d 2 (m 25)]))
def w111_B0:WCode:=zd (s (O 11 [lt 10 9]) (s (cc 11 (w .skip) (ee 0)) (s (B 1 (s (O 12 [ix 6 8 10,h 6 12,d 5 (E (.alloc [.int .u64 0,.int .u8 0,.str [],.ro 1 [] true,.int .i64 0,.bool false])),n (st 6 5 13)]) (s (O 14 [f 4 5,l 1 14,E (.mx (T 15) (N 0)),d 6 (m 16)]) (s (s (O 17 [m 6,m 3,E (.bin .sub (N 4611686018427387904) (T 18)),gt 17 19]) (c 20 (r (O 2 [i 4611686018427387905])))) (O 21 [m 3,m 6,ad 21 22,d 3 (m 23)]))))) (O 24 [adi 10 1,d 10 (m 24)]))))
def w111_L0:WCode:=.loop ⟨true,[10,9,8,3],[]⟩ w111_B0
def w111:WFn:=⟨1,[.tmp 2],zd (s (O 1 [bx 0,i 0]) (s (O 3 [i 0]) (s (s (Q 7 [f 0 1,l 1 7,ln 1 8,i 0] [10,9,8,3]) (bk 0 w111_L0 ⟨true,[3],[]⟩)) w111_c0)))⟩
@[simp] theorem w111_E0:ZL w111_L0 w111_B0 ⟨true,[10,9,8,3],[]⟩:=ck_lp rfl
noncomputable abbrev w111_K0 (C:WProg) (s:WSt):Option AV:=CK C 0 (pureFin [.tmp 2]) [.sq w111_L0,.bk 0 ⟨true,[3],[]⟩,.sq w111_c0] w111_B0 s
def w112_c0:WCode:=zd (r (O 4 [i 1]))
def w112_B0:WCode:=zd (s (s (O 34 [m 5,f 3 2,l 1 35,ln 1 36,lt 34 37]) (cc 38 (w .skip) (ee 0))) (s (B 1 (s (V 41 [f 3 2,l 1 41,m 5,ix 1 42 43,l 1 44,f 3 3,l 1 46,m 5,ix 1 47 48,l 1 49,ne 45 50] [] ⟨false,[],[]⟩) (c 51 (r (O 4 [i 0]))))) (O 39 [m 5,adi 39 1,d 5 (m 40)])))
def w112_L0:WCode:=.loop ⟨true,[5,3,2],[]⟩ w112_B0
def w112:WFn:=⟨2,[.tmp 4],zd (s (O 2 [bx 0,bx 1,i 0]) (s (s (Q 6 [f 0 2,l 1 6,f 0 3,l 1 8,ne 7 9,m 10,z 11 (f 1 2),z 11 (l 1 12),z 11 (f 1 3),z 11 (l 1 14),z 11 (ne 13 15),po 11 16,m 17,z 18 (f 2 2),z 18 (l 1 19),z 18 (f 2 3),z 18 (l 1 21),z 18 (ne 20 22),po 18 23,m 24,z 25 (f 3 2),z 25 (l 1 26),z 25 (ln 1 27),z 25 (f 3 3),z 25 (l 1 29),z 25 (ln 1 30),z 25 (ne 28 31),po 25 32] [33,3,2]) (c 33 (r (O 4 [i 0])))) (s (s (O 5 [i 0]) (bk 0 w112_L0 ⟨true,[],[]⟩)) w112_c0)))⟩
@[simp] theorem w112_E0:ZL w112_L0 w112_B0 ⟨true,[5,3,2],[]⟩:=ck_lp rfl
noncomputable abbrev w112_K0 (C:WProg) (s:WSt):Option AV:=CK C 0 (pureFin [.tmp 4]) [.sq w112_L0,.bk 0 ⟨true,[],[]⟩,.sq w112_c0] w112_B0 s
def w113:WFn:=⟨4,[.cell 8 1 true,.tmp 9],zd (s (O 8 [d 4 (bx 0),d 5 (bx 1),E (.alloc [.ro 6 [] true]),i 0]) (s (s (O 15 [h 2 4,h 1 5,ca 223 [15,16],d 10 (m 17)]) (s (O 18 [m 10,nei 18 0]) (c 19 (r (O 20 [E (.build [.ro 6 [] true] []),m 10,n (st 1 8 20),d 9 (m 21)]))))) (s (Q 23 [h 1 5,m 2,ca 224 [23,24],d 22 (m 25),ex 0 22,ex 1 22,d 11 (m 26),d 12 (m 27)] [12,11,8,5,3]) (s (B 0 (s (O 29 [m 12,nt 29,d 28 (m 30)]) (cc 28 (r (O 31 [E (.build [.ro 6 [] true] []),n (st 1 8 31),d 9 (i 11)])) (s (O 33 [m 3,ca 225 [33],nt 34,d 32 (m 35)]) (c 32 (r (O 36 [E (.build [.ro 6 [] true] []),n (st 1 8 36),d 9 (i 12)]))))))) (s (O 37 [f 0 5,l 1 37,ca 2001 [38],d 13 (E (.alloc [.ro 6 [] true])),n (st 1 13 39)]) (s (U 40 [f 0 13,l 1 40,m 11,f 0 13,l 1 43,m 11,m 3,ix 6 41 42,f 4 47,n (st 1 48 46),ix 6 44 45,f 5 49,n (E (.store 1 (T 50) (.c (.bool true))))] [(4,9)] [13,8]) (s (s (O 51 [h 1 13,ca 227 [51],d 14 (m 52)]) (s (O 53 [m 14,nei 53 0]) (c 54 (r (O 55 [E (.build [.ro 6 [] true] []),m 14,n (st 1 8 55),d 9 (m 56)]))))) (r (O 57 [h 1 13,n (st 1 8 57),d 9 (i 0)])))))))))⟩
def w114:WFn:=⟨4,[.cell 8 1 true,.tmp 9],zd (s (R 4 [bx 0,bx 1,bx 2,bx 3,E (.alloc [.ro 6 [] true]),i 0] ⟨true,[8,7,6,5,4],[(4,65536),(5,65536),(6,65536),(7,65536)]⟩) (s (O 11 [E (.mkfn 228 [T 5,T 6]),d 10 (m 11)]) (r (V 12 [h 2 4,h 1 5,l 1 6,l 1 7,ln 1 15,f 0 5,l 1 17,ln 1 18,ca 219 [14,16,19],l 1 7,m 10,E (.mkfn 229 [T 5,T 6,T 7]),E (.build [.bool false,.int .i64 0,.ro 4 [] true,.nilf,.nilf] [(0,1,T 20),(1,1,N 0),(2,1,T 21),(3,1,T 22),(4,1,T 23)]),ca 216 [12,13,24],ex 0 25,ex 1 25,n (st 1 8 26),d 9 (m 27)] [(0,8),(1,8),(8,9)] ⟨false,[],[]⟩))))⟩
def w115:WFn:=⟨1,[.tmp 2],zd (s (O 1 [bx 0,i 0]) (s (O 3 [E (.mv (.c (.fn 230 [])))]) (s (s (Q 4 [f 0 1,l 1 4,ln 1 5,lti 6 1,m 7,z 8 (f 0 1),z 8 (l 1 9),z 8 (ln 1 10),z 8 (gti 11 8),po 8 12,m 13,z 14 (f 1 1),z 14 (l 1 15),z 14 (lti 16 1),po 14 17,m 18,z 19 (f 1 1),z 19 (l 1 20),z 19 (gti 21 64),po 19 22,m 23,z 24 (f 0 1),z 24 (l 1 25),z 24 (m 3),z 24 (ca 232 [26,27]),po 24 28] [29]) (c 29 (r (O 2 [i 7])))) (r (O 2 [i 0])))))⟩
def w116_c0:WCode:=zd (s (s (O 64 [f 0 2,l 1 64,ln 1 65,gti 66 10,m 67,z 68 (m 5),z 68 (gti 69 80),po 68 70,m 71,z 72 (m 7),z 72 (ca 234 [73]),z 72 (eqi 74 0),po 72 75]) (c 76 (r (O 77 [ca 119 [],d 4 (m 77)])))) (s (O 78 [h 2 2,f 0 3,l 1 79,ca 235 [78,80],d 9 (m 81)]) (s (s (U 82 [h 2 2,ca 115 [82],h 2 2,ca 236 [84],ne 83 85,m 86,z 87 (h 2 2),z 87 (h 1 3),z 87 (ca 223 [88,89]),z 87 (m 9),z 87 (ne 90 91),po 87 92] [(1,2)] [93,9,3,2]) (c 93 (r (O 4 [ff])))) (s (s (O 94 [m 9,eqi 94 0]) (c 95 (r (O 96 [ca 119 [],d 4 (m 96)])))) (s (O 98 [h 2 2,h 1 3,E (.call 109 [T 98,T 99,N 0,.c (.ro 4 [] true)]),d 97 (m 100),ex 0 97,ex 1 97,d 10 (E (.alloc [.ro 6 [] true])),n (st 1 10 101),d 11 (m 102)]) (s (Q 104 [h 2 2,h 1 3,E (.call 110 [T 104,T 105,N 0,N 0]),d 103 (m 106),ex 0 103,ex 1 103,d 12 (E (.alloc [.ro 6 [] true])),n (st 1 12 107),d 13 (m 108)] [13,12,11,10,9,3,2]) (s (O 110 [h 2 2,h 1 3,E (.call 237 [T 110,T 111,N 0,N 0,N 0]),d 109 (m 112),ex 0 109,ex 1 109,d 14 (E (.alloc [.ro 6 [] true])),n (st 1 14 113),d 15 (m 114)]) (s (O 116 [h 2 2,h 1 3,E (.call 114 [T 116,T 117,N 0,.c (.ro 4 [] true)]),d 115 (m 118),ex 0 115,ex 1 115,d 16 (E (.alloc [.ro 6 [] true])),n (st 1 16 119),d 17 (m 120)]) (s (Q 122 [h 2 2,h 1 3,E (.call 108 [T 122,T 123,.c (.ro 4 [] true)]),d 121 (m 124),ex 0 121,ex 1 121,d 18 (E (.alloc [.ro 6 [] true])),n (st 1 18 125),d 19 (m 126)] [19,18,17,16,15,14,13,12,11,10,9,3,2]) (s (O 128 [h 2 2,h 1 3,E (.call 113 [T 128,T 129,.c (.int .u64 1),N 1]),d 127 (m 130),ex 0 127,ex 1 127,d 20 (E (.alloc [.ro 6 [] true])),n (st 1 20 131),d 21 (m 132)]) (s (O 134 [h 2 2,h 1 3,E (.call 238 [T 134,T 135,N 0]),d 133 (m 136),ex 0 133,ex 1 133,d 22 (E (.alloc [.int .u8 0,.str [],.str [],.ro 2 [] true,.str [],.ro 6 [] true])),n (st 6 22 137),d 23 (m 138)]) (s (s (Q 139 [m 11,m 9,ne 139 140,m 141,z 142 (m 13),z 142 (m 9),z 142 (ne 143 144),po 142 145,m 146,z 147 (m 15),z 147 (m 9),z 147 (ne 148 149),po 147 150,m 151,z 152 (m 17),z 152 (m 9),z 152 (ne 153 154),po 152 155,m 156,z 157 (m 19),z 157 (m 9),z 157 (ne 158 159),po 157 160,m 161,z 162 (m 21),z 162 (m 9),z 162 (ne 163 164),po 162 165,m 166,z 167 (m 23),z 167 (m 9),z 167 (ne 168 169),po 167 170] [171,22,20,18,16,14,12,10]) (c 171 (r (O 4 [ff])))) (r (Q 172 [f 0 10,l 1 172,ln 1 173,f 0 12,l 1 175,ln 1 176,ad 174 177,f 0 14,l 1 179,ln 1 180,ad 178 181,f 0 16,l 1 183,ln 1 184,ad 182 185,f 0 18,l 1 187,ln 1 188,ad 186 189,f 0 20,l 1 191,ln 1 192,ad 190 193,f 0 22,l 1 195,E (.cvt .i64 (T 196)),ad 194 197,eqi 198 0,m 199,y 200 (ca 119 []),pa 200 201,d 4 (m 202)] [4]))))))))))))))
def w116_B0:WCode:=zd (s (s (O 44 [m 8,f 0 3,l 1 45,ln 1 46,lt 44 47,m 48,y 49 (m 8),y 49 (lti 50 21),pa 49 51]) (cc 52 (w .skip) (ee 2))) (s (B 3 (Q 55 [m 7,f 0 3,l 1 56,m 8,ix 6 57 58,f 0 59,h 4 60,E (.buildS [.int .u64 0,.int .u8 0,.str [],.ro 1 [] true] 1 [(0,T 61)]),E (.app [.int .u64 0,.int .u8 0,.str [],.ro 1 [] true] 56 false (T 55) (T 62)),d 7 (m 63)] [8,7,5,3,2])) (O 53 [m 8,adi 53 1,d 8 (m 54)])))
def w116_L0:WCode:=.loop ⟨true,[8,7,5,3,2],[]⟩ w116_B0
def w116_c1:WCode:=zd (s (R 7 [E (.mv (.c (.ro 4 [] true)))] ⟨true,[7,5,3,2],[(7,4)]⟩) (s (s (O 8 [i 0]) (bk 2 w116_L0 ⟨true,[7,5,3,2],[(7,65536)]⟩)) w116_c0))
def w116_B1:WCode:=zd (s (s (O 24 [m 6,f 0 2,l 1 25,ln 1 26,lt 24 27,m 28,y 29 (m 6),y 29 (lti 30 11),pa 29 31]) (cc 32 (w .skip) (ee 0))) (s (B 1 (Q 35 [m 5,f 0 2,l 1 36,m 6,ix 9 37 38,f 0 39,h 6 40,E (.call 233 [T 41,N 80]),ad 35 42,d 5 (m 43)] [6,5,3,2])) (O 33 [m 6,adi 33 1,d 6 (m 34)])))
def w116_L1:WCode:=.loop ⟨true,[6,5,3,2],[]⟩ w116_B1
def w116:WFn:=⟨2,[.tmp 4],zd (s (O 2 [bx 0,bx 1,ff]) (s (O 5 [i 0]) (s (s (O 6 [i 0]) (bk 0 w116_L1 ⟨true,[5,3,2],[]⟩)) w116_c1)))⟩
@[simp] theorem w116_E0:ZL w116_L0 w116_B0 ⟨true,[8,7,5,3,2],[]⟩:=ck_lp rfl
@[simp] theorem w116_E1:ZL w116_L1 w116_B1 ⟨true,[6,5,3,2],[]⟩:=ck_lp rfl
def w117_c0:WCode:=zd (r (O 240 [ca 119 [],d 6 (m 240)]))
def w117_B0:WCode:=zd (s (s (O 204 [m 24,f 0 8,l 1 205,ln 1 206,lt 204 207]) (cc 208 (w .skip) (ee 4))) (s (B 5 (s (O 211 [f 0 8,l 1 211,m 24,ix 6 212 213,h 6 214,d 25 (E (.alloc [.int .u64 0,.int .u8 0,.str [],.ro 1 [] true,.int .i64 0,.bool false])),n (st 6 25 215)]) (s (s (Q 216 [m 24,m 11,ge 216 217,m 218,y 219 (m 24),y 219 (m 11),y 219 (m 18),y 219 (ad 221 222),y 219 (lt 220 223),pa 219 224] [225,25,24,23,18,11,8,7]) (c 225 (O 226 [h 2 7,f 0 25,h 4 227,ca 240 [226,228],n (st 6 25 229)]))) (s (V 230 [f 0 23,l 1 230,m 24,m 24,adi 233 1,E (.slice 6 (T 231) (some (T 232)) (some (T 234)) none),h 6 25,E (.buildS [.int .u64 0,.int .u8 0,.str [],.ro 1 [] true,.int .i64 0,.bool false] 1 [(0,T 236)]),ca 172 [235,237],eqi 238 0] [(1,7)] ⟨false,[],[]⟩) (c 239 (r (O 6 [ff]))))))) (O 209 [m 24,adi 209 1,d 24 (m 210)])))
def w117_L0:WCode:=.loop ⟨true,[24,23,18,11,8,7],[]⟩ w117_B0
def w117_c1:WCode:=zd (s (O 186 [h 2 7,h 1 8,m 11,m 21,ca 114 [186,187,188,189],d 185 (m 190),ex 0 185,ex 1 185,d 23 (E (.alloc [.ro 6 [] true])),n (st 1 23 191),d 15 (m 192)]) (s (s (Q 193 [m 15,nei 193 0,m 194,z 195 (f 0 23),z 195 (l 1 196),z 195 (ln 1 197),z 195 (f 0 8),z 195 (l 1 199),z 195 (ln 1 200),z 195 (ne 198 201),po 195 202] [203,23,18,11,8,7]) (c 203 (r (O 6 [ff])))) (s (s (O 24 [i 0]) (bk 4 w117_L0 ⟨true,[],[]⟩)) w117_c0)))
def w117_B1:WCode:=zd (s (s (O 169 [m 22,m 18,lt 169 170]) (cc 171 (w .skip) (ee 2))) (s (B 3 (Q 174 [m 21,f 0 8,l 1 175,m 11,m 22,ad 177 178,ix 6 176 179,f 0 180,h 4 181,E (.buildS [.int .u64 0,.int .u8 0,.str [],.ro 1 [] true] 1 [(0,T 182)]),E (.app [.int .u64 0,.int .u8 0,.str [],.ro 1 [] true] 56 false (T 174) (T 183)),d 21 (m 184)] [22,21,18,11,8,7])) (O 172 [m 22,adi 172 1,d 22 (m 173)])))
def w117_L1:WCode:=.loop ⟨true,[22,21,18,11,8,7],[]⟩ w117_B1
def w117_c2:WCode:=zd (s (O 75 [h 2 7,h 1 8,m 11,m 12,ca 109 [75,76,77,78],d 74 (m 79),ex 0 74,ex 1 74,d 14 (E (.alloc [.ro 6 [] true])),n (st 1 14 80),d 15 (m 81)]) (s (O 83 [h 2 7,h 1 14,m 11,m 12,ln 1 86,ca 110 [83,84,85,87],d 82 (m 88),ex 0 82,ex 1 82,d 16 (E (.alloc [.ro 6 [] true])),n (st 1 16 89),d 17 (m 90)]) (s (s (Q 91 [m 15,nei 91 0,m 92,z 93 (m 17),z 93 (nei 94 0),po 93 95,m 96,z 97 (h 2 7),z 97 (h 1 14),z 97 (ca 223 [98,99]),z 97 (nei 100 0),po 97 101,m 102,z 103 (f 0 16),z 103 (l 1 104),z 103 (f 0 8),z 103 (l 1 106),z 103 (ca 172 [105,107]),z 103 (eqi 108 0),po 103 109] [110,16,11,8,7,5]) (c 110 (r (O 6 [ff])))) (s (O 111 [E (.idxa 3 1 (T 5) (N 1)),l 1 111,E (.cvt .i64 (T 112)),f 0 8,l 1 114,ln 1 115,m 11,sb 116 117,adi 118 1,E (.bin .rem (T 113) (T 119)),d 18 (m 120)]) (s (Q 121 [E (.idxa 3 1 (T 5) (N 2)),l 1 121,E (.cvt .i64 (T 122)),f 0 8,l 1 124,ln 1 125,m 18,sb 126 127,adi 128 1,E (.bin .rem (T 123) (T 129)),d 19 (m 130)] [19,18,16,11,8,7]) (s (O 132 [h 2 7,h 1 8,m 11,m 18,m 19,ca 237 [132,133,134,135,136],d 131 (m 137),ex 0 131,ex 1 131,d 20 (E (.alloc [.ro 6 [] true])),n (st 1 20 138),d 15 (m 139)]) (s (O 141 [h 2 7,h 1 20,m 19,m 18,m 11,ca 237 [141,142,143,144,145],d 140 (m 146),ex 0 140,ex 1 140,n (st 1 16 147),d 17 (m 148)]) (s (s (Q 149 [m 15,nei 149 0,m 150,z 151 (m 17),z 151 (nei 152 0),po 151 153,m 154,z 155 (h 2 7),z 155 (h 1 20),z 155 (ca 223 [156,157]),z 155 (nei 158 0),po 155 159,m 160,z 161 (f 0 16),z 161 (l 1 162),z 161 (f 0 8),z 161 (l 1 164),z 161 (ca 172 [163,165]),z 161 (eqi 166 0),po 161 167] [168,18,11,8,7]) (c 168 (r (O 6 [ff])))) (s (R 21 [E (.mv (.c (.ro 4 [] true)))] ⟨true,[21,18,11,8,7],[(21,4)]⟩) (s (s (O 22 [i 0]) (bk 2 w117_L1 ⟨true,[21,18,11,8,7],[(21,65536)]⟩)) w117_c1))))))))))
def w117_B2:WCode:=zd (s (s (Q 47 [m 13,f 0 10,l 1 48,ln 1 49,lt 47 50] [51,13,12,11,10,8,7,5]) (cc 51 (w .skip) (ee 0))) (s (B 1 (s (V 54 [f 0 8,l 1 54,f 0 10,l 1 56,m 13,ix 6 57 58,f 0 59,f 0 60,l 1 61,ca 239 [55,62],lti 63 0] [] ⟨false,[],[]⟩) (c 64 (O 65 [m 12,f 0 10,l 1 66,m 13,ix 6 67 68,f 0 69,h 4 70,E (.buildS [.int .u64 0,.int .u8 0,.str [],.ro 1 [] true] 1 [(0,T 71)]),E (.app [.int .u64 0,.int .u8 0,.str [],.ro 1 [] true] 56 false (T 65) (T 72)),d 12 (m 73)])))) (Q 52 [m 13,adi 52 1,d 13 (m 53)] [13,12,11,10,8,7,5])))
def w117_L2:WCode:=.loop ⟨true,[13,12,11,10,8,7,5],[]⟩ w117_B2
def w117:WFn:=⟨3,[.tmp 6],zd (s (O 3 [bx 0,bx 1,bx 2,ff]) (s (O 26 [f 2 3,l 1 26,f 2 4,n (st 1 28 27)]) (s (Q 30 [h 3 3,ca 130 [30],d 29 (m 31),ex 0 29,ex 1 29,d 7 (E (.alloc [.ro 9 [] true,.int .i64 0])),d 8 (E (.alloc [.ro 6 [] true])),n (st 2 7 32),n (st 1 8 33)] [8,7,5,4]) (s (O 35 [h 3 4,ca 130 [35],d 34 (m 36),ex 0 34,ex 1 34,d 9 (E (.alloc [.ro 9 [] true,.int .i64 0])),d 10 (E (.alloc [.ro 6 [] true])),n (st 2 9 37),n (st 1 10 38)]) (s (O 39 [E (.idxa 3 1 (T 5) (N 0)),l 1 39,E (.cvt .i64 (T 40)),f 0 8,l 1 42,ln 1 43,adi 44 1,E (.bin .rem (T 41) (T 45)),d 11 (m 46)]) (s (R 12 [E (.mv (.c (.ro 4 [] true)))] ⟨true,[12,11,10,8,7,5],[(12,4)]⟩) (s (s (O 13 [i 0]) (bk 0 w117_L2 ⟨true,[12,11,8,7,5],[(12,65536)]⟩)) w117_c2)))))))⟩
@[simp] theorem w117_E0:ZL w117_L0 w117_B0 ⟨true,[24,23,18,11,8,7],[]⟩:=ck_lp rfl
noncomputable abbrev w117_K0 (C:WProg) (s:WSt):Option AV:=CK C 0 (pureFin [.tmp 6]) [.sq w117_L0,.bk 4 ⟨true,[],[]⟩,.sq w117_c0] w117_B0 s
@[simp] theorem w117_E1:ZL w117_L1 w117_B1 ⟨true,[22,21,18,11,8,7],[]⟩:=ck_lp rfl
noncomputable abbrev w117_K1 (C:WProg) (s:WSt):Option AV:=CK C 0 (pureFin [.tmp 6]) [.sq w117_L1,.bk 2 ⟨true,[21,18,11,8,7],[(21,65536)]⟩,.sq w117_c1] w117_B1 s
@[simp] theorem w117_E2:ZL w117_L2 w117_B2 ⟨true,[13,12,11,10,8,7,5],[]⟩:=ck_lp rfl
noncomputable abbrev w117_K2 (C:WProg) (s:WSt):Option AV:=CK C 0 (pureFin [.tmp 6]) [.sq w117_L2,.bk 0 ⟨true,[12,11,8,7,5],[(12,65536)]⟩,.sq w117_c2] w117_B2 s
def w118:WFn:=⟨2,[.tmp 4],zd (s (O 2 [bx 0,bx 1,ff]) (s (O 18 [h 3 2,ca 130 [18],d 17 (m 19),ex 0 17,ex 1 17,d 5 (E (.alloc [.ro 9 [] true,.int .i64 0])),d 6 (E (.alloc [.ro 6 [] true])),n (st 2 5 20),n (st 1 6 21)]) (s (Q 23 [f 0 6,l 1 23,E (.idxa 3 1 (T 3) (N 0)),l 1 25,E (.idxa 3 1 (T 3) (N 1)),l 1 27,ca 241 [24,26,28],d 22 (m 29),ex 0 22,ex 1 22,d 7 (m 30),d 8 (m 31)] [8,7,6,5,3,2]) (s (O 33 [h 2 5,h 1 6,E (.idxa 3 1 (T 3) (N 0)),l 1 35,E (.idxa 3 1 (T 3) (N 1)),l 1 37,ca 110 [33,34,36,38],d 32 (m 39),ex 0 32,ex 1 32,d 9 (E (.alloc [.ro 6 [] true])),n (st 1 9 40),d 10 (m 41)]) (s (Q 43 [f 0 6,l 1 43,E (.idxa 3 1 (T 3) (N 0)),l 1 45,E (.idxa 3 1 (T 3) (N 1)),l 1 47,E (.idxa 3 1 (T 3) (N 2)),l 1 49,ca 242 [44,46,48,50],d 42 (m 51),ex 0 42,ex 1 42,d 11 (m 52),d 12 (m 53)] [12,11,10,9,8,7,6,5,3,2]) (s (O 55 [h 2 5,h 1 6,E (.idxa 3 1 (T 3) (N 0)),l 1 57,E (.idxa 3 1 (T 3) (N 1)),l 1 59,E (.idxa 3 1 (T 3) (N 2)),l 1 61,ca 237 [55,56,58,60,62],d 54 (m 63),ex 0 54,ex 1 54,d 13 (E (.alloc [.ro 6 [] true])),n (st 1 13 64),d 14 (m 65)]) (s (s (U 66 [h 1 9,m 10,m 7,m 8,ca 243 [66,67,68,69],h 1 13,m 14,m 11,m 12,ca 243 [71,72,73,74],E (.bin .mul (T 70) (T 75)),eqi 76 0] [(4,5)] [77,6,2]) (c 77 (r (O 4 [ff])))) (s (O 79 [h 3 2,ca 130 [79],d 78 (m 80),ex 0 78,ex 1 78,d 15 (E (.alloc [.ro 9 [] true,.int .i64 0])),d 16 (E (.alloc [.ro 6 [] true])),n (st 2 15 81),n (st 1 16 82)]) (r (O 83 [f 0 6,l 1 83,f 0 16,l 1 85,ca 172 [84,86],eqi 87 1,m 88,y 89 (ca 119 []),pa 89 90,d 4 (m 91)]))))))))))⟩
def w119:WFn:=⟨0,[.tmp 0],zd (s (O 0 [ff]) (s (O 21 [ca 107 [],d 1 (E (.alloc [.ro 9 [] true,.int .i64 0])),n (st 2 1 21)]) (s (U 23 [h 2 1,E (.build [.ro 6 [] true] []),ca 244 [],E (.call 109 [T 23,T 24,N 0,T 25]),d 22 (m 26),ex 0 22,ex 1 22,d 2 (E (.alloc [.ro 6 [] true])),n (st 1 2 27),d 3 (m 28)] [(0,2),(0,7),(2,7),(3,7)] [3,2,1]) (s (O 30 [h 2 1,h 1 2,E (.call 113 [T 30,T 31,.c (.int .u64 2),N 25]),d 29 (m 32),ex 0 29,ex 1 29,d 4 (E (.alloc [.ro 6 [] true])),n (st 1 4 33),d 5 (m 34)]) (s (V 36 [h 2 1,h 1 4,ca 244 [],E (.slice 4 (T 38) (some (N 1)) (some (N 2)) none),E (.call 114 [T 36,T 37,N 1,T 39]),d 35 (m 40),ex 0 35,ex 1 35,d 6 (E (.alloc [.ro 6 [] true])),n (st 1 6 41),d 7 (m 42)] [(0,2),(1,2),(0,8),(1,8),(2,8),(4,8)] ⟨false,[],[]⟩) (s (s (U 43 [m 3,nei 43 0,m 44,z 45 (m 5),z 45 (nei 46 0),po 45 47,m 48,z 49 (m 7),z 49 (nei 50 0),po 49 51,m 52,z 53 (h 1 2),z 53 (E (.buildS [.int .u64 0] 3 [(0,.c (.int .u64 1)),(1,.c (.int .u64 2)),(2,.c (.int .u64 3))])),z 53 (ca 245 [54,55]),z 53 (h 1 6),z 53 (E (.buildS [.int .u64 0] 3 [(0,.c (.int .u64 1)),(1,.c (.int .u64 2)),(2,.c (.int .u64 3))])),z 53 (ca 245 [57,58]),z 53 (E (.bin .mul (T 56) (T 59))),z 53 (eqi 60 0),po 53 61,m 62,z 63 (h 1 2),z 63 (ca 111 [64]),z 63 (nei 65 40),po 63 66,m 67,z 68 (h 1 4),z 68 (ca 111 [69]),z 68 (nei 70 45),po 68 71,m 72,z 73 (f 0 6),z 73 (l 1 74),z 73 (E (.idxs 6 (T 75) (N 1))),z 73 (f 4 76),z 73 (l 1 77),z 73 (nei 78 20),po 73 79,m 80,z 81 (f 0 6),z 81 (l 1 82),z 81 (E (.idxs 6 (T 83) (N 1))),z 81 (f 5 84),z 81 (l 1 85),po 81 86,m 87,z 88 (f 0 4),z 88 (l 1 89),z 88 (E (.idxs 6 (T 90) (N 1))),z 88 (f 5 91),z 88 (l 1 92),z 88 (nt 93),po 88 94] [(11,12),(12,14),(13,14),(11,15),(12,15),(13,15),(14,15)] [95,2,1]) (c 95 (r (O 0 [ff])))) (s (Q 97 [h 2 1,h 1 2,E (.call 237 [T 97,T 98,N 0,N 2,N 1]),d 96 (m 99),ex 0 96,ex 1 96,d 8 (E (.alloc [.ro 6 [] true])),n (st 1 8 100),d 3 (m 101)] [8,3,2,1]) (s (O 103 [h 2 1,h 1 2,E (.call 237 [T 103,T 104,N 1,N 1,N 0]),d 102 (m 105),ex 0 102,ex 1 102,d 9 (E (.alloc [.ro 6 [] true])),n (st 1 9 106),d 5 (m 107)]) (s (O 109 [h 2 1,h 1 2,E (.build [.int .u64 0,.int .u8 0,.str [],.ro 1 [] true] [(0,1,.c (.int .u64 3))]),E (.build [.int .u64 0,.int .u8 0,.str [],.ro 1 [] true] [(0,1,.c (.int .u64 1))]),E (.buildS [.int .u64 0,.int .u8 0,.str [],.ro 1 [] true] 2 [(0,T 111),(1,T 112)]),ca 108 [109,110,113],d 108 (m 114),ex 0 108,ex 1 108,d 10 (E (.alloc [.ro 6 [] true])),n (st 1 10 115),d 7 (m 116)]) (s (s (U 117 [m 3,nei 117 0,m 118,z 119 (m 5),z 119 (nei 120 0),po 119 121,m 122,z 123 (m 7),z 123 (nei 124 0),po 123 125,m 126,z 127 (h 1 8),z 127 (E (.buildS [.int .u64 0] 3 [(0,.c (.int .u64 3)),(1,.c (.int .u64 1)),(2,.c (.int .u64 2))])),z 127 (ca 245 [128,129]),z 127 (h 1 9),z 127 (E (.buildS [.int .u64 0] 3 [(0,.c (.int .u64 2)),(1,.c (.int .u64 1)),(2,.c (.int .u64 3))])),z 127 (ca 245 [131,132]),z 127 (E (.bin .mul (T 130) (T 133))),z 127 (h 1 10),z 127 (E (.buildS [.int .u64 0] 2 [(0,.c (.int .u64 3)),(1,.c (.int .u64 1))])),z 127 (ca 245 [135,136]),z 127 (E (.bin .mul (T 134) (T 137))),z 127 (eqi 138 0),po 127 139] [(11,12),(12,14),(13,14),(11,15),(12,15),(13,15),(14,15),(12,18),(13,18),(15,18),(16,18),(11,19),(12,19),(13,19),(14,19),(15,19),(16,19),(18,19)] [140,2,1]) (c 140 (r (O 0 [ff])))) (s (O 142 [h 2 1,h 1 2,E (.call 109 [T 142,T 143,N 4,.c (.ro 4 [] true)]),d 141 (m 144),ex 0 141,ex 1 141,d 3 (m 146)]) (s (V 148 [h 2 1,h 1 2,ca 244 [],E (.slice 4 (T 150) (some (N 1)) (some (N 2)) none),E (.call 109 [T 148,T 149,N 0,T 151]),d 147 (m 152),ex 0 147,ex 1 147,d 5 (m 154)] [(0,2),(1,2)] ⟨false,[],[]⟩) (s (Q 156 [h 2 1,h 1 2,E (.call 110 [T 156,T 157,N 2,N 2]),d 155 (m 158),ex 0 155,ex 1 155,d 7 (m 160)] [7,5,3,2,1]) (s (V 162 [h 2 1,h 1 2,ca 244 [],E (.slice 4 (T 164) (some (N 1)) (some (N 2)) none),E (.call 114 [T 162,T 163,N 0,T 165]),d 161 (m 166),ex 0 161,ex 1 161,d 11 (E (.alloc [.ro 6 [] true])),n (st 1 11 167),d 12 (m 168)] [(0,2),(1,2),(0,8),(1,8),(2,8),(4,8)] ⟨false,[],[]⟩) (s (O 170 [h 2 1,h 1 2,E (.call 113 [T 170,T 171,.c (.int .u64 9),N 1]),d 169 (m 172),ex 0 169,ex 1 169,d 13 (E (.alloc [.ro 6 [] true])),n (st 1 13 173),d 14 (m 174)]) (s (Q 176 [h 2 1,h 1 2,E (.call 113 [T 176,T 177,.c (.int .u64 1),N 0]),d 175 (m 178),ex 0 175,ex 1 175,d 15 (E (.alloc [.ro 6 [] true])),n (st 1 15 179),d 16 (m 180)] [16,14,12,7,5,3,2,1]) (s (O 182 [h 2 1,h 1 2,E (.call 113 [T 182,T 183,.c (.int .u64 1),N 2305843009213693952]),d 181 (m 184),ex 0 181,ex 1 181,d 17 (E (.alloc [.ro 6 [] true])),n (st 1 17 185),d 18 (m 186)]) (s (O 188 [h 2 1,h 1 17,E (.call 113 [T 188,T 189,.c (.int .u64 2),N 2305843009213693952]),d 187 (m 190),ex 0 187,ex 1 187,d 19 (E (.alloc [.ro 6 [] true])),n (st 1 19 191),d 20 (m 192)]) (r (Q 193 [m 3,eqi 193 4,m 194,y 195 (m 5),y 195 (eqi 196 8),pa 195 197,m 198,y 199 (m 7),y 199 (eqi 200 4),pa 199 201,m 202,y 203 (m 12),y 203 (eqi 204 9),pa 203 205,m 206,y 207 (m 14),y 207 (eqi 208 11),pa 207 209,m 210,y 211 (m 16),y 211 (eqi 212 12),pa 211 213,m 214,y 215 (m 18),y 215 (eqi 216 0),pa 215 217,m 218,y 219 (m 20),y 219 (eqi 220 13),pa 219 221,d 0 (m 222)] [0]))))))))))))))))))))⟩
def w130_c0:WCode:=zd (r (V 68 [h 2 4,h 1 6,n (st 2 2 68),n (st 1 3 69)] [(1,2)] ⟨false,[],[]⟩))
def w130_B0:WCode:=zd (s (s (O 17 [m 7,m 5,ln 1 18,lt 17 19]) (cc 20 (w .skip) (ee 0))) (s (B 1 (s (s (V 23 [h 2 4,m 5,m 7,ix 4 24 25,h 4 26,E (.call 271 [T 23,T 27,N 0]),gti 28 0] [] ⟨false,[],[]⟩) (c 29 (ee 1))) (s (U 30 [h 2 4,m 5,m 7,ix 4 31 32,h 4 33,ca 240 [30,34],d 8 (E (.alloc [.int .u64 0,.int .u8 0,.str [],.ro 1 [] true,.int .i64 0,.bool false])),n (st 6 8 35)] [(0,6),(4,6),(5,6)] [8,7,6,5,4,3,2,1]) (s (s (O 36 [f 0 6,l 1 36,ln 1 37,d 9 (m 38)]) (s (O 39 [m 9,f 1 1,l 1 40,ln 1 41,lt 39 42,m 43,y 44 (f 1 1),y 44 (l 1 45),y 44 (m 9),y 44 (ix 1 46 47),y 44 (l 1 48),y 44 (E (.bin .gtr (T 49) (.c (.int .u8 0)))),pa 44 50]) (c 51 (s (Q 52 [f 1 1,l 1 52,m 9,ix 1 53 54,l 1 55,E (.bin .rem (T 56) (.c (.int .u8 40))),E (.cvt .i64 (T 57)),E (.bin .add (N 1) (T 58)),f 4 8,n (st 1 60 59)] [8,7,6,5,4,3,2,1]) (O 61 [f 5 8,n (E (.store 1 (T 61) (.c (.bool true))))]))))) (O 62 [f 0 6,l 1 62,h 6 8,E (.buildS [.int .u64 0,.int .u8 0,.str [],.ro 1 [] true,.int .i64 0,.bool false] 1 [(0,T 64)]),E (.app [.int .u64 0,.int .u8 0,.str [],.ro 1 [] true,.int .i64 0,.bool false] 72 false (T 63) (T 65)),f 0 6,n (st 1 67 66)]))))) (O 21 [m 7,adi 21 1,d 7 (m 22)])))
def w130_L0:WCode:=.loop ⟨true,[7,6,5,4,3,2,1],[]⟩ w130_B0
def w130:WFn:=⟨1,[.cell 2 2 true,.cell 3 1 true],zd (s (Q 1 [bx 0,E (.alloc [.ro 9 [] true,.int .i64 0]),E (.alloc [.ro 6 [] true])] [3,2,1]) (s (O 10 [f 2 1,l 1 10,ca 126 [11],E (.build [.ro 9 [] true,.int .i64 0] [(0,1,T 12),(1,1,N 12)]),d 4 (E (.alloc [.ro 9 [] true,.int .i64 0])),n (st 2 4 13)]) (s (O 14 [f 0 1,h 1 14,ca 270 [15],d 5 (m 16)]) (s (O 6 [E (.alloc [.ro 6 [] true])]) (s (s (O 7 [i 0]) (bk 0 w130_L0 ⟨true,[6,4,3,2],[]⟩)) w130_c0)))))⟩
@[simp] theorem w130_E0:ZL w130_L0 w130_B0 ⟨true,[7,6,5,4,3,2,1],[]⟩:=ck_lp rfl
noncomputable abbrev w130_K0 (C:WProg) (s:WSt):Option AV:=CK C 0 (pureFin [.cell 2 2 true,.cell 3 1 true]) [.sq w130_L0,.bk 0 ⟨true,[6,4,3,2],[]⟩,.sq w130_c0] w130_B0 s
def w216_c0:WCode:=zd (s (V 64 [f 4 5,l 1 64,h 2 3,f 2 5,l 1 67,ca 400 [66,68],E (.callv (T 65) [T 69]),ca 226 [70],d 12 (E (.alloc [.ro 6 [] true])),n (st 1 12 71)] [(1,5),(1,8),(2,8),(4,8),(5,8),(6,8),(7,8)] ⟨false,[],[]⟩) (s (s (O 72 [h 1 12,ca 227 [72],d 13 (m 73)]) (s (O 74 [m 13,nei 74 0]) (c 75 (r (O 76 [E (.build [.ro 6 [] true] []),m 13,n (st 1 6 76),d 7 (m 77)]))))) (r (O 78 [h 1 12,n (st 1 6 78),d 7 (i 0)]))))
def w216_B0:WCode:=zd (s (O 35 [lt 34 33]) (s (cc 35 (w .skip) (ee 1)) (s (B 2 (s (O 36 [m 34,ix 4 32 34,h 4 37,d 10 (E (.alloc [.int .u64 0,.int .u8 0,.str [],.ro 1 [] true])),d 9 (m 36),n (st 4 10 38)]) (s (Q 39 [h 4 10,f 0 3,l 1 40,ln 1 41,ca 398 [39,42],d 11 (m 43)] [34,33,32,11,10,9,6,5,3]) (s (s (O 44 [m 11,eqi 44 0]) (c 45 (O 46 [f 3 5,l 1 46,m 9,h 4 10,E (.callv (T 47) [T 48,T 49]),d 11 (m 50)]))) (s (s (O 51 [m 11,eqi 51 0]) (c 52 (O 54 [h 2 3,h 4 10,ca 399 [54,55],d 53 (m 56),ex 0 53,ex 1 53,d 11 (m 58)]))) (s (O 59 [m 11,nei 59 0]) (c 60 (r (O 61 [E (.build [.ro 6 [] true] []),m 11,n (st 1 6 61),d 7 (m 62)]))))))))) (Q 63 [adi 34 1,d 34 (m 63)] [34,33,32,6,5,3]))))
def w216_L0:WCode:=.loop ⟨true,[34,33,32,6,5,3],[]⟩ w216_B0
def w216:WFn:=⟨3,[.cell 6 1 true,.tmp 7],zd (s (O 3 [bx 0,bx 1,bx 2,E (.alloc [.ro 6 [] true]),i 0]) (s (s (O 14 [h 2 3,h 1 4,ca 223 [14,15],d 8 (m 16)]) (s (O 17 [m 8,nei 17 0]) (c 18 (r (O 19 [E (.build [.ro 6 [] true] []),m 8,n (st 1 6 19),d 7 (m 20)]))))) (s (B 0 (s (Q 22 [f 0 5,l 1 22,nt 23,d 21 (m 24)] [21,6,5,3]) (cc 21 (r (O 25 [E (.build [.ro 6 [] true] []),n (st 1 6 25),d 7 (i 4)])) (s (O 27 [f 1 5,l 1 27,gti 28 1024,d 26 (m 29)]) (c 26 (r (O 30 [E (.build [.ro 6 [] true] []),n (st 1 6 30),d 7 (i 3)]))))))) (s (s (O 31 [f 2 5,l 1 31,ln 1 32,i 0]) (bk 1 w216_L0 ⟨true,[6,5,3],[]⟩)) w216_c0))))⟩
@[simp] theorem w216_E0:ZL w216_L0 w216_B0 ⟨true,[34,33,32,6,5,3],[]⟩:=ck_lp rfl
noncomputable abbrev w216_K0 (C:WProg) (s:WSt):Option AV:=CK C 0 (pureFin [.cell 6 1 true,.tmp 7]) [.sq w216_L0,.bk 1 ⟨true,[6,5,3],[]⟩,.sq w216_c0] w216_B0 s
def w2043_c0:WCode:=zd (s (V 64 [f 4 5,l 1 64,h 2 3,f 2 5,l 1 67,ca 400 [66,68],E (.callv (T 65) [T 69]),ca 3004 [70],d 12 (E (.alloc [.ro 6 [] true])),n (st 1 12 71)] [(1,5),(1,8),(2,8),(4,8),(5,8),(6,8),(7,8)] ⟨false,[],[]⟩) (s (s (O 72 [h 1 12,ca 227 [72],d 13 (m 73)]) (s (O 74 [m 13,nei 74 0]) (c 75 (r (O 76 [E (.build [.ro 6 [] true] []),m 13,n (st 1 6 76),d 7 (m 77)]))))) (r (O 78 [h 1 12,n (st 1 6 78),d 7 (i 0)]))))
def w2043_B0:WCode:=zd (s (O 35 [lt 34 33]) (s (cc 35 (w .skip) (ee 1)) (s (B 2 (s (O 36 [m 34,ix 4 32 34,h 4 37,d 10 (E (.alloc [.int .u64 0,.int .u8 0,.str [],.ro 1 [] true])),d 9 (m 36),n (st 4 10 38)]) (s (Q 39 [h 4 10,f 0 3,l 1 40,ln 1 41,ca 398 [39,42],d 11 (m 43)] [34,33,32,11,10,9,6,5,3]) (s (s (O 44 [m 11,eqi 44 0]) (c 45 (O 46 [f 3 5,l 1 46,m 9,h 4 10,E (.callv (T 47) [T 48,T 49]),d 11 (m 50)]))) (s (s (O 51 [m 11,eqi 51 0]) (c 52 (O 54 [h 2 3,h 4 10,ca 399 [54,55],d 53 (m 56),ex 0 53,ex 1 53,d 11 (m 58)]))) (s (O 59 [m 11,nei 59 0]) (c 60 (r (O 61 [E (.build [.ro 6 [] true] []),m 11,n (st 1 6 61),d 7 (m 62)]))))))))) (Q 63 [adi 34 1,d 34 (m 63)] [34,33,32,6,5,3]))))
def w2043_L0:WCode:=.loop ⟨true,[34,33,32,6,5,3],[]⟩ w2043_B0
def w2043:WFn:=⟨3,[.cell 6 1 true,.tmp 7],zd (s (O 3 [bx 0,bx 1,bx 2,E (.alloc [.ro 6 [] true]),i 0]) (s (s (O 14 [h 2 3,h 1 4,ca 223 [14,15],d 8 (m 16)]) (s (O 17 [m 8,nei 17 0]) (c 18 (r (O 19 [E (.build [.ro 6 [] true] []),m 8,n (st 1 6 19),d 7 (m 20)]))))) (s (B 0 (s (Q 22 [f 0 5,l 1 22,nt 23,d 21 (m 24)] [21,6,5,3]) (cc 21 (r (O 25 [E (.build [.ro 6 [] true] []),n (st 1 6 25),d 7 (i 4)])) (s (O 27 [f 1 5,l 1 27,gti 28 1024,d 26 (m 29)]) (c 26 (r (O 30 [E (.build [.ro 6 [] true] []),n (st 1 6 30),d 7 (i 3)]))))))) (s (s (O 31 [f 2 5,l 1 31,ln 1 32,i 0]) (bk 1 w2043_L0 ⟨true,[6,5,3],[]⟩)) w2043_c0))))⟩
@[simp] theorem w2043_E0:ZL w2043_L0 w2043_B0 ⟨true,[34,33,32,6,5,3],[]⟩:=ck_lp rfl
def w3003_c0:WCode:=zd (s (V 64 [f 4 5,l 1 64,h 2 3,f 2 5,l 1 67,ca 400 [66,68],E (.callv (T 65) [T 69]),ca 3004 [70],d 12 (E (.alloc [.ro 6 [] true])),n (st 1 12 71)] [(1,5),(1,8),(2,8),(4,8),(5,8),(6,8),(7,8)] ⟨false,[],[]⟩) (s (s (O 72 [h 1 12,ca 227 [72],d 13 (m 73)]) (s (O 74 [m 13,nei 74 0]) (c 75 (r (O 76 [E (.build [.ro 6 [] true] []),m 13,n (st 1 6 76),d 7 (m 77)]))))) (r (O 78 [h 1 12,n (st 1 6 78),d 7 (i 0)]))))
def w3003_B0:WCode:=zd (s (O 35 [lt 34 33]) (s (cc 35 (w .skip) (ee 1)) (s (B 2 (s (O 36 [m 34,ix 4 32 34,h 4 37,d 10 (E (.alloc [.int .u64 0,.int .u8 0,.str [],.ro 1 [] true])),d 9 (m 36),n (st 4 10 38)]) (s (Q 39 [h 4 10,f 0 3,l 1 40,ln 1 41,ca 398 [39,42],d 11 (m 43)] [34,33,32,11,10,9,6,5,3]) (s (s (O 44 [m 11,eqi 44 0]) (c 45 (O 46 [f 3 5,l 1 46,m 9,h 4 10,E (.callv (T 47) [T 48,T 49]),d 11 (m 50)]))) (s (s (O 51 [m 11,eqi 51 0]) (c 52 (O 54 [h 2 3,h 4 10,ca 399 [54,55],d 53 (m 56),ex 0 53,ex 1 53,d 11 (m 58)]))) (s (O 59 [m 11,nei 59 0]) (c 60 (r (O 61 [E (.build [.ro 6 [] true] []),m 11,n (st 1 6 61),d 7 (m 62)]))))))))) (Q 63 [adi 34 1,d 34 (m 63)] [34,33,32,6,5,3]))))
def w3003_L0:WCode:=.loop ⟨true,[34,33,32,6,5,3],[]⟩ w3003_B0
def w3003:WFn:=⟨3,[.cell 6 1 true,.tmp 7],zd (s (O 3 [bx 0,bx 1,bx 2,E (.alloc [.ro 6 [] true]),i 0]) (s (s (O 14 [h 2 3,h 1 4,ca 223 [14,15],d 8 (m 16)]) (s (O 17 [m 8,nei 17 0]) (c 18 (r (O 19 [E (.build [.ro 6 [] true] []),m 8,n (st 1 6 19),d 7 (m 20)]))))) (s (B 0 (s (Q 22 [f 0 5,l 1 22,nt 23,d 21 (m 24)] [21,6,5,3]) (cc 21 (r (O 25 [E (.build [.ro 6 [] true] []),n (st 1 6 25),d 7 (i 4)])) (s (O 27 [f 1 5,l 1 27,gti 28 1024,d 26 (m 29)]) (c 26 (r (O 30 [E (.build [.ro 6 [] true] []),n (st 1 6 30),d 7 (i 3)]))))))) (s (s (O 31 [f 2 5,l 1 31,ln 1 32,i 0]) (bk 1 w3003_L0 ⟨true,[6,5,3],[]⟩)) w3003_c0))))⟩
@[simp] theorem w3003_E0:ZL w3003_L0 w3003_B0 ⟨true,[34,33,32,6,5,3],[]⟩:=ck_lp rfl
def w217_c0:WCode:=zd (r (O 18 [E (.mkfn 401 [T 3]),d 2 (m 18)]))
def w217_B0:WCode:=zd (s (O 10 [lt 9 8]) (s (cc 10 (w .skip) (ee 0)) (s (B 1 (s (O 11 [ix 6 7 9,h 6 11,d 5 (E (.alloc [.int .u64 0,.int .u8 0,.str [],.ro 1 [] true,.int .i64 0,.bool false])),n (st 6 5 12)]) (O 13 [l 1 3,f 0 5,f 0 14,l 1 15,n (E (.upd 0 (T 13) (T 16) (.c (.bool true))))]))) (O 17 [adi 9 1,d 9 (m 17)]))))
def w217_L0:WCode:=.loop ⟨true,[9,8,7,3],[]⟩ w217_B0
def w217:WFn:=⟨1,[.tmp 2],zd (s (O 2 [E (.mv (.c .nilf))]) (s (O 6 [E .mkmap,d 3 (E (.alloc [.nilm])),n (st 1 3 6)]) (s (s (O 7 [m 0,ln 1 7,i 0]) (bk 0 w217_L0 ⟨true,[3],[]⟩)) w217_c0)))⟩
@[simp] theorem w217_E0:ZL w217_L0 w217_B0 ⟨true,[9,8,7,3],[]⟩:=ck_lp rfl
def w218:WFn:=⟨1,[.tmp 2],zd (s (O 2 [E (.mv (.c (.ro 6 [] true)))]) (r (O 3 [m 0,d 2 (m 3)])))⟩
def w219:WFn:=⟨3,[.tmp 6],zd (s (O 6 [ff]) (r (O 7 [m 0,gei 7 0,m 8,y 9 (m 0),y 9 (m 2),y 9 (le 10 11),pa 9 12,m 13,y 14 (m 1),y 14 (gei 15 0),pa 14 16,m 17,y 18 (m 1),y 18 (m 2),y 18 (m 0),y 18 (sb 20 21),y 18 (le 19 22),pa 18 23,d 6 (m 24)])))⟩
def w220:WFn:=⟨3,[.tmp 4],zd (s (O 4 [E (.mv (.c (.ro 6 [] true)))]) (r (O 5 [f 0 1,l 1 5,l 1 2,m 0,E (.call 221 [T 6,T 7,N 0,T 8]),d 4 (m 9)])))⟩
def w221:WFn:=⟨4,[.tmp 8],zd (s (O 8 [E (.mv (.c (.ro 6 [] true)))]) (s (Q 10 [m 0,ln 1 10,m 2,sb 11 12,m 3,ln 1 14,ad 13 15,E (.mksl [.int .u64 0,.int .u8 0,.str [],.ro 1 [] true,.int .i64 0,.bool false] 72 (N 0) (T 16)),d 9 (m 17)] [9,3,2,1,0]) (s (O 18 [m 9,m 0,m 1,E (.slice 6 (T 19) none (some (T 20)) none),E (.app [.int .u64 0,.int .u8 0,.str [],.ro 1 [] true,.int .i64 0,.bool false] 72 false (T 18) (T 21)),d 9 (m 22)]) (s (O 23 [m 9,m 3,E (.app [.int .u64 0,.int .u8 0,.str [],.ro 1 [] true,.int .i64 0,.bool false] 72 false (T 23) (T 24)),d 9 (m 25)]) (r (O 26 [m 9,m 0,m 1,m 2,ad 28 29,E (.slice 6 (T 27) (some (T 30)) none none),E (.app [.int .u64 0,.int .u8 0,.str [],.ro 1 [] true,.int .i64 0,.bool false] 72 false (T 26) (T 31)),d 8 (m 32)]))))))⟩
def w222:WFn:=⟨4,[.tmp 5],zd (s (O 5 [E (.mv (.c (.ro 6 [] true)))]) (r (O 6 [f 0 1,l 1 6,l 1 2,l 1 3,E (.call 221 [T 7,T 8,T 9,.c (.ro 6 [] true)]),d 5 (m 10)])))⟩
def w223_c0:WCode:=zd (r (O 79 [h 1 3,ca 227 [79],d 4 (m 80)]))
def w223_B0:WCode:=zd (s (O 26 [lt 25 24]) (s (cc 26 (w .skip) (ee 0)) (s (B 1 (s (O 27 [ix 6 23 25,h 6 27,d 8 (E (.alloc [.int .u64 0,.int .u8 0,.str [],.ro 1 [] true,.int .i64 0,.bool false])),n (st 6 8 28)]) (s (s (O 29 [f 0 8,h 4 29,f 0 2,l 1 31,ln 1 32,ca 398 [30,33],d 9 (m 34)]) (s (O 35 [m 9,nei 35 0]) (c 36 (r (O 37 [m 9,d 4 (m 37)]))))) (s (s (Q 38 [m 6,f 0 8,f 0 39,l 1 40,E (.look 0 (.bool false) false (T 38) (T 41))] [42,25,24,23,8,6,3,2]) (c 42 (r (O 4 [i 8])))) (s (O 43 [m 6,f 0 8,f 0 44,l 1 45,n (E (.upd 0 (T 43) (T 46) (.c (.bool true))))]) (s (s (O 48 [h 2 2,f 0 8,h 4 49,ca 399 [48,50],d 47 (m 51),ex 0 47,ex 1 47,d 10 (E (.alloc [.int .u8 0,.str [],.str [],.ro 2 [] true,.str [],.ro 6 [] true])),n (st 6 10 52),d 11 (m 53)]) (s (O 54 [m 11,nei 54 0]) (c 55 (r (O 4 [i 14]))))) (s (U 56 [f 4 8,l 1 56,ca 225 [57],nt 58,m 59,z 60 (f 5 8),z 60 (l 1 61),z 60 (nt 62),z 60 (m 63),y 64 (f 4 8),y 64 (l 1 65),y 64 (f 0 2),y 64 (l 1 67),y 64 (f 0 8),y 64 (f 1 69),y 64 (l 1 70),y 64 (ix 9 68 71),y 64 (f 6 72),y 64 (l 1 73),y 64 (ne 66 74),z 60 (pa 64 75),po 60 76] [] [77,25,24,23,6,3,2]) (c 77 (r (O 4 [i 12])))))))))) (O 78 [adi 25 1,d 25 (m 78)]))))
def w223_L0:WCode:=.loop ⟨true,[25,24,23,6,3,2],[]⟩ w223_B0
def w223:WFn:=⟨2,[.tmp 4],zd (s (O 2 [bx 0,bx 1,i 0]) (s (s (O 12 [h 2 2,ca 115 [12],d 5 (m 13)]) (s (O 14 [m 5,nei 14 0]) (c 15 (r (O 16 [m 5,d 4 (m 16)]))))) (s (s (Q 17 [f 0 3,l 1 17,ln 1 18,gti 19 1024] [20,3,2]) (c 20 (r (O 4 [i 3])))) (s (O 21 [E .mkmap,d 6 (m 21)]) (s (s (O 22 [f 0 3,l 1 22,ln 1 23,i 0]) (bk 0 w223_L0 ⟨true,[3],[]⟩)) w223_c0)))))⟩
@[simp] theorem w223_E0:ZL w223_L0 w223_B0 ⟨true,[25,24,23,6,3,2],[]⟩:=ck_lp rfl
noncomputable abbrev w223_K0 (C:WProg) (s:WSt):Option AV:=CK C 0 (pureFin [.tmp 4]) [.sq w223_L0,.bk 0 ⟨true,[3],[]⟩,.sq w223_c0] w223_B0 s
def w224:WFn:=⟨2,[.tmp 4,.tmp 5],zd (s (O 2 [bx 0,bx 1,i 0,ff]) (s (O 6 [f 0 2,l 1 6,E (.mkfn 403 [T 3]),ca 402 [7,8],d 4 (m 9)]) (r (O 10 [m 4,E (.mx (T 10) (N 0)),m 4,gei 12 0,d 4 (m 11),d 5 (m 13)]))))⟩
def w225:WFn:=⟨1,[.tmp 2],zd (s (O 2 [ff]) (r (O 3 [m 0,gei 3 1,m 4,y 5 (m 0),y 5 (lei 6 2305843009213693952),pa 5 7,d 2 (m 8)])))⟩
def w226_c0:WCode:=zd (r (O 32 [m 3,E (.build [.ro 6 [] true] [(0,1,T 32)]),n (st 1 2 33)]))
def w226_B0:WCode:=zd (s (O 16 [lt 15 14]) (s (cc 16 (w .skip) (ee 0)) (s (B 1 (s (Q 17 [m 15,ix 6 13 15,h 6 18,d 5 (E (.alloc [.int .u64 0,.int .u8 0,.str [],.ro 1 [] true,.int .i64 0,.bool false])),d 4 (m 17),n (st 6 5 19)] [15,14,13,5,4,3,2]) (s (O 20 [f 0 5,h 4 20,E (.buildS [.int .u64 0,.int .u8 0,.str [],.ro 1 [] true] 1 [(0,T 21)]),ca 340 [22],E (.idxs 4 (T 23) (N 0)),h 4 24,f 0 5,n (st 4 26 25)]) (O 27 [m 3,m 4,h 6 5,ix 6 27 28,n (st 6 30 29)])))) (O 31 [adi 15 1,d 15 (m 31)]))))
def w226_L0:WCode:=.loop ⟨true,[15,14,13,3,2],[]⟩ w226_B0
def w226:WFn:=⟨1,[.cell 2 1 true],zd (s (O 2 [E (.alloc [.ro 6 [] true])]) (s (s (O 6 [m 0,ln 1 6,eqi 7 0]) (c 8 (r (O 9 [E (.build [.ro 6 [] true] []),n (st 1 2 9)])))) (s (O 10 [m 0,ln 1 10,E (.mksl [.int .u64 0,.int .u8 0,.str [],.ro 1 [] true,.int .i64 0,.bool false] 72 (T 11) (T 11)),d 3 (m 12)]) (s (s (O 13 [m 0,ln 1 13,i 0]) (bk 0 w226_L0 ⟨true,[3,2],[]⟩)) w226_c0))))⟩
@[simp] theorem w226_E0:ZL w226_L0 w226_B0 ⟨true,[15,14,13,3,2],[]⟩:=ck_lp rfl
noncomputable abbrev w226_K0 (C:WProg) (s:WSt):Option AV:=CK C 0 (pureFin [.cell 2 1 true]) [.sq w226_L0,.bk 0 ⟨true,[3,2],[]⟩,.sq w226_c0] w226_B0 s
def w227:WFn:=⟨1,[.tmp 2],zd (s (O 1 [bx 0,i 0]) (s (s (O 3 [h 1 1,ca 111 [3],gti 4 4611686018427387904]) (c 5 (r (O 2 [i 13])))) (r (O 2 [i 0]))))⟩
def w228:WFn:=⟨4,[.tmp 6],zd (s (O 5 [bx 1,i 0]) (s (s (V 7 [f 0 2,l 1 7,l 1 3,m 0,ad 9 10,ix 6 8 11,f 0 12,f 0 13,l 1 14,f 0 5,l 1 16,ne 15 17] [] ⟨false,[],[]⟩) (c 18 (r (O 6 [i 9])))) (r (O 6 [i 0]))))⟩
def w229:WFn:=⟨4,[.tmp 5],zd (s (O 5 [E (.mv (.c (.ro 6 [] true)))]) (r (O 6 [f 0 1,l 1 6,l 1 2,l 1 3,ln 1 9,m 0,ca 221 [7,8,10,11],d 5 (m 12)])))⟩
def w230:WFn:=⟨1,[.tmp 2],zd (s (O 1 [bx 0,ff]) (r (O 3 [f 6 1,l 1 3,ca 225 [4],nt 5,m 6,z 7 (f 0 1),z 7 (h 6 8),z 7 (ca 231 [9]),z 7 (nei 10 0),po 7 11,d 2 (m 12)])))⟩
def w231:WFn:=⟨1,[.tmp 2],zd (s (O 1 [bx 0,i 0]) (s (s (O 3 [h 6 1,ca 404 [3],eqi 4 0]) (c 5 (r (O 2 [i 14])))) (r (O 2 [i 0]))))⟩
def w232:WFn:=⟨2,[.tmp 4],zd (s (O 4 [ff]) (r (O 5 [m 0,m 1,ca 405 [5,6],gei 7 0,d 4 (m 8)])))⟩
def w233_c0:WCode:=zd (r (O 30 [m 5,d 4 (m 30)]))
def w233_B0:WCode:=zd (s (s (Q 7 [m 6,f 5 2,l 1 8,ln 1 9,lt 7 10,m 11,y 12 (m 5),y 12 (m 1),y 12 (le 13 14),pa 12 15] [16,6,5,2,1]) (cc 16 (w .skip) (ee 0))) (s (B 1 (O 19 [m 5,f 5 2,l 1 20,m 6,ix 6 21 22,h 6 23,m 1,m 5,sb 25 26,ca 233 [24,27],ad 19 28,d 5 (m 29)])) (O 17 [m 6,adi 17 1,d 6 (m 18)])))
def w233_L0:WCode:=.loop ⟨true,[6,5,2,1],[]⟩ w233_B0
def w233:WFn:=⟨2,[.tmp 4],zd (s (O 4 [d 2 (bx 0),i 0]) (s (O 5 [i 1]) (s (s (O 6 [i 0]) (bk 0 w233_L0 ⟨true,[5],[]⟩)) w233_c0)))⟩
@[simp] theorem w233_E0:ZL w233_L0 w233_B0 ⟨true,[6,5,2,1],[]⟩:=ck_lp rfl
def w234_c0:WCode:=zd (r (O 2 [i 1]))
def w234_c1:WCode:=zd (O 12 [m 3,adi 12 1,d 3 (m 13)])
def w234_B1:WCode:=zd (s (s (Q 30 [m 4,m 0,m 3,ix 4 31 32,f 3 33,l 1 34,ln 1 35,lt 30 36] [37,4,3,0]) (cc 37 (w .skip) (ee 2))) (s (B 3 (s (O 40 [m 0,m 3,ix 4 40 41,f 3 42,l 1 43,m 4,ix 1 44 45,l 1 46,ln 0 47,gti 48 20]) (c 49 (r (O 2 [i 0]))))) (O 38 [m 4,adi 38 1,d 4 (m 39)])))
def w234_L1:WCode:=.loop ⟨true,[4,3,0],[]⟩ w234_B1
def w234_B0:WCode:=zd (s (s (O 8 [m 3,m 0,ln 1 9,lt 8 10]) (cc 11 (w .skip) (ee 0))) (s (bk 1 (s (s (O 14 [m 0,m 3,ix 4 14 15,f 2 16,l 1 17,ln 0 18,gti 19 70,m 20,z 21 (m 0),z 21 (m 3),z 21 (ix 4 22 23),z 21 (f 3 24),z 21 (l 1 25),z 21 (ln 1 26),z 21 (gti 27 12),po 21 28]) (c 29 (r (O 2 [i 0])))) (s (O 4 [i 0]) (bk 2 w234_L1 ⟨true,[3,0],[]⟩))) ⟨true,[3,0],[]⟩) w234_c1))
def w234_L0:WCode:=.loop ⟨true,[3,0],[]⟩ w234_B0
def w234:WFn:=⟨1,[.tmp 2],zd (s (O 2 [i 0]) (s (s (O 5 [m 0,ln 1 5,gti 6 20]) (c 7 (r (Q 2 [i 0] [2])))) (s (s (O 3 [i 0]) (bk 0 w234_L0 ⟨true,[],[]⟩)) w234_c0)))⟩
@[simp] theorem w234_E1:ZL w234_L1 w234_B1 ⟨true,[4,3,0],[]⟩:=ck_lp rfl
@[simp] theorem w234_E0:ZL w234_L0 w234_B0 ⟨true,[3,0],[]⟩:=ck_lp rfl
def w235_c0:WCode:=zd (r (O 82 [m 1,ca 407 [82],d 4 (m 83)]))
def w235_B0:WCode:=zd (s (s (O 13 [m 5,m 1,ln 1 14,lt 13 15]) (cc 16 (w .skip) (ee 0))) (s (B 1 (s (U 19 [h 2 2,m 1,m 5,ix 6 20 21,f 0 22,h 4 23,m 1,m 5,E (.slice 6 (T 25) none (some (T 26)) none),m 1,m 5,ix 6 28 29,f 0 30,f 0 31,l 1 32,ca 239 [27,33],gei 34 0,ca 406 [35],ca 271 [19,24,36],d 6 (m 37)] [(0,15),(5,15),(0,17),(5,17)] [6,5,2,1]) (s (s (O 38 [m 6,gti 38 0]) (c 39 (r (O 40 [m 6,d 4 (m 40)])))) (s (U 41 [m 1,m 5,ix 6 41 42,f 4 43,l 1 44,lti 45 1,m 46,z 47 (m 1),z 47 (m 5),z 47 (ix 6 48 49),z 47 (f 4 50),z 47 (l 1 51),z 47 (gti 52 2305843009213693952),po 47 53,m 54,z 55 (m 1),z 55 (m 5),z 55 (ix 6 56 57),z 55 (f 5 58),z 55 (l 1 59),z 55 (nt 60),z 55 (m 61),y 62 (m 1),y 62 (m 5),y 62 (ix 6 63 64),y 62 (f 4 65),y 62 (l 1 66),y 62 (f 0 2),y 62 (l 1 68),y 62 (m 1),y 62 (m 5),y 62 (ix 6 70 71),y 62 (f 0 72),y 62 (f 1 73),y 62 (l 1 74),y 62 (ix 9 69 75),y 62 (f 6 76),y 62 (l 1 77),y 62 (ne 67 78),z 55 (pa 62 79),po 55 80] [] [81,5,2,1]) (c 81 (r (O 4 [i 12]))))))) (O 17 [m 5,adi 17 1,d 5 (m 18)])))
def w235_L0:WCode:=.loop ⟨true,[5,2,1],[]⟩ w235_B0
def w235:WFn:=⟨2,[.tmp 4],zd (s (O 4 [d 2 (bx 0),i 0]) (s (s (O 7 [h 2 2,ca 236 [7],gti 8 0]) (c 9 (r (O 4 [i 7])))) (s (s (O 10 [m 1,ln 1 10,gti 11 1024]) (c 12 (r (O 4 [i 3])))) (s (s (O 5 [i 0]) (bk 0 w235_L0 ⟨true,[1],[]⟩)) w235_c0))))⟩
@[simp] theorem w235_E0:ZL w235_L0 w235_B0 ⟨true,[5,2,1],[]⟩:=ck_lp rfl
def w236_c0:WCode:=zd (r (O 2 [i 0]))
def w236_B0:WCode:=zd (s (s (O 24 [m 3,f 0 1,l 1 25,ln 1 26,lt 24 27]) (cc 28 (w .skip) (ee 0))) (s (B 1 (s (Q 31 [f 0 1,l 1 31,m 3,ix 9 32 33,f 6 34,l 1 35,lti 36 1,m 37,z 38 (f 0 1),z 38 (l 1 39),z 38 (m 3),z 38 (ix 9 40 41),z 38 (f 6 42),z 38 (l 1 43),z 38 (gti 44 2305843009213693952),po 38 45,m 46,z 47 (f 0 1),z 47 (l 1 48),z 47 (m 3),z 47 (ix 9 49 50),z 47 (f 0 51),z 47 (h 6 52),z 47 (ca 408 [53]),z 47 (gti 54 0),po 47 55] [56,3,1]) (c 56 (r (O 2 [i 7]))))) (O 29 [m 3,adi 29 1,d 3 (m 30)])))
def w236_L0:WCode:=.loop ⟨true,[3,1],[]⟩ w236_B0
def w236:WFn:=⟨1,[.tmp 2],zd (s (O 1 [bx 0,i 0]) (s (s (Q 4 [f 0 1,l 1 4,ln 1 5,eqi 6 0,m 7,z 8 (f 0 1),z 8 (l 1 9),z 8 (ln 1 10),z 8 (gti 11 8),po 8 12,m 13,z 14 (f 1 1),z 14 (l 1 15),z 14 (lti 16 1),po 14 17,m 18,z 19 (f 1 1),z 19 (l 1 20),z 19 (gti 21 64),po 19 22] [23,1]) (c 23 (r (O 2 [i 7])))) (s (s (O 3 [i 0]) (bk 0 w236_L0 ⟨true,[],[]⟩)) w236_c0)))⟩
@[simp] theorem w236_E0:ZL w236_L0 w236_B0 ⟨true,[3,1],[]⟩:=ck_lp rfl
def w237:WFn:=⟨5,[.cell 10 1 true,.tmp 11],zd (s (R 5 [bx 0,bx 1,bx 2,bx 3,bx 4,E (.alloc [.ro 6 [] true]),i 0] ⟨true,[10,9,8,7,6,5],[(5,65536),(6,65536),(7,65536),(8,65536),(9,65536)]⟩) (s (Q 13 [l 1 7,l 1 8,f 0 6,l 1 15,ln 1 16,ca 219 [13,14,17],d 12 (m 18)] [12,10,9,8,7,6,5]) (r (V 19 [h 2 5,h 1 6,m 12,m 21,y 22 (l 1 9),y 22 (f 0 6),y 22 (l 1 24),y 22 (ln 1 25),y 22 (l 1 8),y 22 (sb 26 27),y 22 (E (.call 219 [T 23,N 0,T 28])),pa 22 29,E (.mkfn 409 [T 6,T 7,T 8,T 9]),E (.build [.bool false,.int .i64 0,.ro 4 [] true,.nilf,.nilf] [(0,1,T 30),(4,1,T 31)]),ca 216 [19,20,32],ex 0 33,ex 1 33,n (st 1 10 34),d 11 (m 35)] [(0,10),(1,10)] ⟨false,[],[]⟩))))⟩
def w238:WFn:=⟨3,[.cell 6 6 true,.tmp 7],zd (s (O 6 [d 3 (bx 0),d 4 (bx 1),E (.alloc [.int .u8 0,.str [],.str [],.ro 2 [] true,.str [],.ro 6 [] true]),i 0]) (s (s (O 9 [h 2 3,h 1 4,ca 223 [9,10],d 8 (m 11)]) (s (O 12 [m 8,nei 12 0]) (c 13 (r (O 14 [E (.build [.int .u8 0,.str [],.str [],.ro 2 [] true,.str [],.ro 6 [] true] []),m 8,n (st 6 6 14),d 7 (m 15)]))))) (s (s (Q 16 [m 2,lti 16 0,m 17,z 18 (m 2),z 18 (f 0 4),z 18 (l 1 20),z 18 (ln 1 21),z 18 (ge 19 22),po 18 23] [24,6,4,3,2]) (c 24 (r (O 25 [E (.build [.int .u8 0,.str [],.str [],.ro 2 [] true,.str [],.ro 6 [] true] []),n (st 6 6 25),d 7 (i 4)])))) (r (V 26 [h 2 3,f 0 4,l 1 27,m 2,ix 6 28 29,f 0 30,h 4 31,ca 399 [26,32],ex 0 33,ex 1 33,n (st 6 6 34),d 7 (m 35)] [] ⟨false,[],[]⟩)))))⟩
def w239_c0:WCode:=zd (r (O 4 [i (-1)]))
def w239_B0:WCode:=zd (s (s (O 6 [m 5,m 0,ln 1 7,lt 6 8]) (cc 9 (w .skip) (ee 0))) (s (B 1 (s (O 12 [m 0,m 5,ix 6 12 13,f 0 14,f 0 15,l 1 16,m 1,eq 17 18]) (c 19 (r (O 20 [m 5,d 4 (m 20)]))))) (O 10 [m 5,adi 10 1,d 5 (m 11)])))
def w239_L0:WCode:=.loop ⟨true,[5,1,0],[]⟩ w239_B0
def w239:WFn:=⟨2,[.tmp 4],zd (s (O 4 [i 0]) (s (s (O 5 [i 0]) (bk 0 w239_L0 ⟨true,[],[]⟩)) w239_c0))⟩
@[simp] theorem w239_E0:ZL w239_L0 w239_B0 ⟨true,[5,1,0],[]⟩:=ck_lp rfl
noncomputable abbrev w239_K0 (C:WProg) (s:WSt):Option AV:=CK C 0 (pureFin [.tmp 4]) [.sq w239_L0,.bk 0 ⟨true,[],[]⟩,.sq w239_c0] w239_B0 s
def w172_c0:WCode:=zd (r (O 4 [i 1]))
def w172_B0:WCode:=zd (s (s (O 11 [m 5,m 0,ln 1 12,lt 11 13]) (cc 14 (w .skip) (ee 0))) (s (B 1 (s (U 17 [m 0,m 5,ix 6 17 18,f 4 19,l 1 20,m 1,m 5,ix 6 22 23,f 4 24,l 1 25,ne 21 26,m 27,z 28 (m 0),z 28 (m 5),z 28 (ix 6 29 30),z 28 (f 5 31),z 28 (l 1 32),z 28 (m 1),z 28 (m 5),z 28 (ix 6 34 35),z 28 (f 5 36),z 28 (l 1 37),z 28 (E (.eqv 5 [] true (T 33) (T 38))),po 28 39,m 40,z 41 (m 0),z 41 (m 5),z 41 (ix 6 42 43),z 41 (f 0 44),z 41 (h 4 45),z 41 (m 1),z 41 (m 5),z 41 (ix 6 47 48),z 41 (f 0 49),z 41 (h 4 50),z 41 (ca 112 [46,51]),z 41 (eqi 52 0),po 41 53] [] [54,5,1,0]) (c 54 (r (O 4 [i 0]))))) (O 15 [m 5,adi 15 1,d 5 (m 16)])))
def w172_L0:WCode:=.loop ⟨true,[5,1,0],[]⟩ w172_B0
def w172:WFn:=⟨2,[.tmp 4],zd (s (O 4 [i 0]) (s (s (O 6 [m 0,ln 1 6,m 1,ln 1 8,ne 7 9]) (c 10 (r (O 4 [i 0])))) (s (s (O 5 [i 0]) (bk 0 w172_L0 ⟨true,[],[]⟩)) w172_c0)))⟩
@[simp] theorem w172_E0:ZL w172_L0 w172_B0 ⟨true,[5,1,0],[]⟩:=ck_lp rfl
noncomputable abbrev w172_K0 (C:WProg) (s:WSt):Option AV:=CK C 0 (pureFin [.tmp 4]) [.sq w172_L0,.bk 0 ⟨true,[],[]⟩,.sq w172_c0] w172_B0 s
def w240:WFn:=⟨2,[.cell 4 6 true],zd (s (O 2 [bx 0,bx 1,E (.alloc [.int .u64 0,.int .u8 0,.str [],.ro 1 [] true,.int .i64 0,.bool false])]) (r (V 5 [h 4 3,f 0 2,l 1 6,f 1 3,l 1 8,ix 9 7 9,f 6 10,l 1 11,E (.build [.int .u64 0,.int .u8 0,.str [],.ro 1 [] true,.int .i64 0,.bool false] [(0,4,T 5),(4,1,T 12)]),n (st 6 4 13)] [] ⟨false,[],[]⟩)))⟩
def w241_c0:WCode:=zd (r (O 6 [d 39 (m 8),m 39,i 0]))
def w241_B0:WCode:=zd (s (s (O 16 [m 9,m 0,ln 1 17,lt 16 18]) (cc 19 (w .skip) (ee 0))) (s (B 1 (s (Q 22 [m 9,m 1,lt 22 23,m 24,z 25 (m 9),z 25 (m 1),z 25 (m 2),z 25 (ad 27 28),z 25 (ge 26 29),po 25 30] [31,9,8,2,1,0]) (c 31 (O 32 [m 8,m 0,m 9,ix 6 33 34,h 6 35,E (.buildS [.int .u64 0,.int .u8 0,.str [],.ro 1 [] true,.int .i64 0,.bool false] 1 [(0,T 36)]),E (.app [.int .u64 0,.int .u8 0,.str [],.ro 1 [] true,.int .i64 0,.bool false] 72 false (T 32) (T 37)),d 8 (m 38)])))) (O 20 [m 9,adi 20 1,d 9 (m 21)])))
def w241_L0:WCode:=.loop ⟨true,[9,8,2,1,0],[]⟩ w241_B0
def w241:WFn:=⟨3,[.tmp 6,.tmp 7],zd (s (O 6 [E (.mv (.c (.ro 6 [] true))),i 0]) (s (s (O 10 [m 1,m 2,m 0,ln 1 12,ca 410 [10,11,13],eqi 14 0]) (c 15 (r (O 6 [E (.mv (.c (.ro 6 [] true))),i 4])))) (s (R 8 [E (.mv (.c (.ro 6 [] true)))] ⟨true,[8,2,1,0],[(8,6)]⟩) (s (s (O 9 [i 0]) (bk 0 w241_L0 ⟨true,[8],[]⟩)) w241_c0))))⟩
@[simp] theorem w241_E0:ZL w241_L0 w241_B0 ⟨true,[9,8,2,1,0],[]⟩:=ck_lp rfl
noncomputable abbrev w241_K0 (C:WProg) (s:WSt):Option AV:=CK C 0 (pureFin [.tmp 6,.tmp 7]) [.sq w241_L0,.bk 0 ⟨true,[8],[]⟩,.sq w241_c0] w241_B0 s
def w242_c0:WCode:=zd (r (O 8 [d 73 (m 12),m 73,i 0]))
def w242_c1:WCode:=zd (O 41 [m 13,adi 41 1,d 13 (m 42)])
def w242_c2:WCode:=zd (s (O 62 [m 13,m 10,ln 1 63,lt 62 64]) (c 65 (O 66 [m 12,m 10,m 13,ix 6 67 68,h 6 69,E (.buildS [.int .u64 0,.int .u8 0,.str [],.ro 1 [] true,.int .i64 0,.bool false] 1 [(0,T 70)]),E (.app [.int .u64 0,.int .u8 0,.str [],.ro 1 [] true,.int .i64 0,.bool false] 72 false (T 66) (T 71)),d 12 (m 72)])))
def w242_B1:WCode:=zd (s (s (O 43 [m 13,m 3,eq 43 44,m 45,y 46 (m 14),y 46 (m 2),y 46 (lt 47 48),pa 46 49]) (cc 50 (w .skip) (ee 2))) (s (B 3 (Q 53 [m 12,m 0,m 1,m 14,ad 55 56,ix 6 54 57,h 6 58,E (.buildS [.int .u64 0,.int .u8 0,.str [],.ro 1 [] true,.int .i64 0,.bool false] 1 [(0,T 59)]),E (.app [.int .u64 0,.int .u8 0,.str [],.ro 1 [] true,.int .i64 0,.bool false] 72 false (T 53) (T 60)),d 12 (m 61)] [14,13,12,10,3,2,1,0])) (O 51 [m 14,adi 51 1,d 14 (m 52)])))
def w242_L1:WCode:=.loop ⟨true,[14,13,12,10,3,2,1,0],[]⟩ w242_B1
def w242_B0:WCode:=zd (s (s (O 37 [m 13,m 10,ln 1 38,le 37 39]) (cc 40 (w .skip) (ee 0))) (s (bk 1 (s (s (O 14 [i 0]) (bk 2 w242_L1 ⟨true,[13,12,10,3,2,1,0],[]⟩)) w242_c2) ⟨true,[13,12,10,3,2,1,0],[]⟩) w242_c1))
def w242_L0:WCode:=.loop ⟨true,[13,12,10,3,2,1,0],[]⟩ w242_B0
def w242:WFn:=⟨4,[.tmp 8,.tmp 9],zd (s (O 8 [E (.mv (.c (.ro 6 [] true))),i 0]) (s (s (O 15 [m 1,m 2,m 0,ln 1 17,ca 410 [15,16,18],eqi 19 0,m 20,z 21 (m 3),z 21 (m 0),z 21 (ln 1 23),z 21 (m 2),z 21 (sb 24 25),z 21 (E (.call 410 [T 22,N 0,T 26])),z 21 (eqi 27 0),po 21 28]) (c 29 (r (O 8 [E (.mv (.c (.ro 6 [] true))),i 4])))) (s (Q 31 [m 0,m 1,m 2,ca 241 [31,32,33],d 30 (m 34),ex 0 30,ex 1 30,d 10 (m 35),d 11 (m 36)] [10,3,2,1,0]) (s (R 12 [E (.mv (.c (.ro 6 [] true)))] ⟨true,[12,10,3,2,1,0],[(12,6)]⟩) (s (s (O 13 [i 0]) (bk 0 w242_L0 ⟨true,[12],[]⟩)) w242_c0)))))⟩
@[simp] theorem w242_E1:ZL w242_L1 w242_B1 ⟨true,[14,13,12,10,3,2,1,0],[]⟩:=ck_lp rfl
noncomputable abbrev w242_K1 (C:WProg) (s:WSt):Option AV:=CK C 0 (pureFin [.tmp 8,.tmp 9]) [.sq w242_L1,.bk 2 ⟨true,[13,12,10,3,2,1,0],[]⟩,.sq w242_c2,.bk 1 ⟨true,[13,12,10,3,2,1,0],[]⟩,.sq w242_c1,.sq w242_L0,.bk 0 ⟨true,[12],[]⟩,.sq w242_c0] w242_B1 s
@[simp] theorem w242_E0:ZL w242_L0 w242_B0 ⟨true,[13,12,10,3,2,1,0],[]⟩:=ck_lp rfl
noncomputable abbrev w242_K0 (C:WProg) (s:WSt):Option AV:=CK C 0 (pureFin [.tmp 8,.tmp 9]) [.sq w242_L0,.bk 0 ⟨true,[12],[]⟩,.sq w242_c0] w242_B0 s
def w243:WFn:=⟨4,[.tmp 8],zd (s (O 8 [d 4 (bx 0),i 0]) (s (s (O 9 [m 1,m 3,ne 9 10,m 11,z 12 (f 0 4),z 12 (l 1 13),z 12 (E (.cap (T 14))),z 12 (f 0 4),z 12 (l 1 16),z 12 (ln 1 17),z 12 (ne 15 18),po 12 19]) (c 20 (r (O 8 [i 0])))) (r (O 21 [f 0 4,l 1 21,m 2,ca 172 [22,23],d 8 (m 24)]))))⟩
def w244:WFn:=⟨0,[.tmp 0],zd (s (O 0 [E (.mv (.c (.ro 4 [] true)))]) (r (O 1 [E (.build [.int .u64 0,.int .u8 0,.str [],.ro 1 [] true] [(0,1,.c (.int .u64 1))]),E (.build [.int .u64 0,.int .u8 0,.str [],.ro 1 [] true] [(0,1,.c (.int .u64 2)),(1,1,.c (.int .u8 1))]),E (.build [.int .u64 0,.int .u8 0,.str [],.ro 1 [] true] [(0,1,.c (.int .u64 3))]),E (.buildS [.int .u64 0,.int .u8 0,.str [],.ro 1 [] true] 3 [(0,T 1),(1,T 2),(2,T 3)]),d 0 (m 4)])))⟩
def w245_c0:WCode:=zd (r (O 4 [i 1]))
def w245_B0:WCode:=zd (s (s (O 12 [m 5,m 1,ln 1 13,lt 12 14]) (cc 15 (w .skip) (ee 0))) (s (B 1 (s (V 18 [f 0 2,l 1 18,m 5,ix 6 19 20,f 0 21,f 0 22,l 1 23,m 1,m 5,ix 1 25 26,l 1 27,ne 24 28] [] ⟨false,[],[]⟩) (c 29 (r (O 4 [i 0]))))) (O 16 [m 5,adi 16 1,d 5 (m 17)])))
def w245_L0:WCode:=.loop ⟨true,[5,2,1],[]⟩ w245_B0
def w245:WFn:=⟨2,[.tmp 4],zd (s (O 4 [d 2 (bx 0),i 0]) (s (s (Q 6 [f 0 2,l 1 6,ln 1 7,m 1,ln 1 9,ne 8 10] [11,2,1]) (c 11 (r (O 4 [i 0])))) (s (s (O 5 [i 0]) (bk 0 w245_L0 ⟨true,[],[]⟩)) w245_c0)))⟩
@[simp] theorem w245_E0:ZL w245_L0 w245_B0 ⟨true,[5,2,1],[]⟩:=ck_lp rfl
def w340_c0:WCode:=zd (r (O 23 [m 3,d 2 (m 23)]))
def w340_B0:WCode:=zd (s (O 10 [lt 9 8]) (s (cc 10 (w .skip) (ee 0)) (s (B 1 (s (O 11 [m 9,d 4 (m 11)]) (O 12 [m 3,m 4,m 3,m 4,ix 4 14 15,f 3 16,l 1 17,ca 460 [18],ix 4 12 13,f 3 20,n (st 1 21 19)]))) (O 22 [adi 9 1,d 9 (m 22)]))))
def w340_L0:WCode:=.loop ⟨true,[9,8,3],[]⟩ w340_B0
def w340:WFn:=⟨1,[.tmp 2],zd (s (O 2 [E (.mv (.c (.ro 4 [] true)))]) (s (Q 5 [m 0,ca 459 [5],d 3 (m 6)] [3]) (s (s (O 7 [m 3,ln 1 7,i 0]) (bk 0 w340_L0 ⟨true,[3],[]⟩)) w340_c0)))⟩
@[simp] theorem w340_E0:ZL w340_L0 w340_B0 ⟨true,[9,8,3],[]⟩:=ck_lp rfl
def w126:WFn:=⟨1,[.tmp 2],zd (s (O 2 [E (.mv (.c (.ro 9 [] true)))]) (s (Q 6 [E (.build [.str [],.int .u8 0,.str []] [(0,1,.c (.str [110])),(1,1,.c (.int .u8 3))]),E (.build [.str [],.int .u8 0,.str []] [(0,1,.c (.str [116,101,120,116])),(1,1,.c (.int .u8 1))]),E (.buildS [.str [],.int .u8 0,.str []] 2 [(0,T 6),(1,T 7)]),E (.build [.int .u8 0,.str [],.str [],.ro 3 [] true,.str [],.ro 6 [] true] [(0,1,.c (.int .u8 3))]),E (.buildS [.int .u8 0,.str [],.str [],.ro 3 [] true,.str [],.ro 6 [] true] 1 [(0,T 9)]),E (.build [.int .u8 0,.str [],.str [],.ro 3 [] true,.str [],.ro 6 [] true] [(0,1,.c (.int .u8 1)),(1,1,.c (.str [114,111,119])),(3,1,T 8),(5,1,T 10)]),d 3 (E (.alloc [.int .u8 0,.str [],.str [],.ro 3 [] true,.str [],.ro 6 [] true])),n (st 6 3 11)] [3,0]) (s (O 12 [E (.build [.str [],.int .u8 0,.str []] [(0,1,.c (.str [105,100])),(1,1,.c (.int .u8 2))]),E (.buildS [.str [],.int .u8 0,.str []] 1 [(0,T 12)]),E (.build [.int .u8 0,.str [],.str [],.ro 3 [] true,.str [],.ro 6 [] true] [(0,1,.c (.int .u8 2)),(4,1,.c (.str [35]))]),E (.build [.int .u8 0,.str [],.str [],.ro 3 [] true,.str [],.ro 6 [] true] [(0,1,.c (.int .u8 4))]),E (.buildS [.int .u8 0,.str [],.str [],.ro 3 [] true,.str [],.ro 6 [] true] 2 [(0,T 14),(1,T 15)]),E (.build [.int .u8 0,.str [],.str [],.ro 3 [] true,.str [],.ro 6 [] true] [(0,1,.c (.int .u8 1)),(1,1,.c (.str [104,101,97,100])),(2,1,.c (.str [104])),(3,1,T 13),(5,1,T 16)]),d 4 (E (.alloc [.int .u8 0,.str [],.str [],.ro 3 [] true,.str [],.ro 6 [] true])),n (st 6 4 17)]) (s (O 18 [E (.build [.int .u8 0,.str [],.str [],.ro 3 [] true,.str [],.ro 6 [] true] [(0,1,.c (.int .u8 3))]),E (.buildS [.int .u8 0,.str [],.str [],.ro 3 [] true,.str [],.ro 6 [] true] 1 [(0,T 18)]),E (.build [.int .u8 0,.str [],.str [],.ro 3 [] true,.str [],.ro 6 [] true] [(0,1,.c (.int .u8 1)),(1,1,.c (.str [98])),(2,1,.c (.str [98,50])),(5,1,T 19)]),E (.build [.str [],.int .u8 0,.str []] [(0,1,.c (.str [111,102])),(1,1,.c (.int .u8 2))]),E (.buildS [.str [],.int .u8 0,.str []] 1 [(0,T 21)]),E (.build [.int .u8 0,.str [],.str [],.ro 3 [] true,.str [],.ro 6 [] true] [(0,1,.c (.int .u8 5)),(1,1,.c (.str [116,97,103])),(3,1,T 22)]),E (.buildS [.int .u8 0,.str [],.str [],.ro 3 [] true,.str [],.ro 6 [] true] 2 [(0,T 20),(1,T 23)]),E (.build [.int .u8 0,.str [],.str [],.ro 3 [] true,.str [],.ro 6 [] true] [(0,1,.c (.int .u8 1)),(1,1,.c (.str [114,111,119])),(5,1,T 24)]),d 5 (E (.alloc [.int .u8 0,.str [],.str [],.ro 3 [] true,.str [],.ro 6 [] true])),n (st 6 5 25)]) (r (Q 26 [h 6 3,m 0,E (.bin .rem (T 27) (.c (.int .u8 7))),E (.cvt .i64 (T 28)),E (.bin .add (N 10) (T 29)),m 0,E (.bin .rem (T 31) (.c (.int .u8 4))),E (.cvt .i64 (T 32)),E (.build [.int .u8 0,.str [],.str [],.ro 3 [] true,.str [],.ro 6 [] true,.int .i64 0,.bool false,.int .i64 0] [(0,6,T 26),(6,1,T 30),(8,1,T 33)]),h 6 4,m 0,E (.bin .rem (T 36) (.c (.int .u8 3))),E (.cvt .i64 (T 37)),E (.bin .add (N 6) (T 38)),m 0,E (.bin .quo (T 40) (.c (.int .u8 4))),E (.bin .rem (T 41) (.c (.int .u8 3))),E (.cvt .i64 (T 42)),E (.build [.int .u8 0,.str [],.str [],.ro 3 [] true,.str [],.ro 6 [] true,.int .i64 0,.bool false,.int .i64 0] [(0,6,T 35),(6,1,T 39),(7,1,.c (.bool true)),(8,1,T 43)]),h 6 5,m 0,E (.bin .rem (T 46) (.c (.int .u8 16))),E (.bin .eql (T 47) (.c (.int .u8 15))),m 0,E (.bin .quo (T 49) (.c (.int .u8 8))),E (.bin .rem (T 50) (.c (.int .u8 3))),E (.cvt .i64 (T 51)),E (.build [.int .u8 0,.str [],.str [],.ro 3 [] true,.str [],.ro 6 [] true,.int .i64 0,.bool false,.int .i64 0] [(0,6,T 45),(6,1,N 20),(7,1,T 48),(8,1,T 52)]),E (.buildS [.int .u8 0,.str [],.str [],.ro 3 [] true,.str [],.ro 6 [] true,.int .i64 0,.bool false,.int .i64 0] 3 [(0,T 34),(1,T 44),(2,T 53)]),d 2 (m 54)] [2]))))))⟩
def w270_c0:WCode:=zd (r (O 32 [m 3,d 2 (m 32)]))
def w270_B0:WCode:=zd (s (s (Q 6 [m 4,f 0 1,l 1 7,ln 1 8,lt 6 9,m 10,y 11 (m 4),y 11 (lti 12 12),pa 11 13] [14,4,3,1]) (cc 14 (w .skip) (ee 0))) (s (B 1 (s (O 17 [f 0 1,l 1 17,m 4,ix 4 18 19,h 4 20,ca 422 [21],d 5 (E (.alloc [.int .u64 0,.int .u8 0,.str [],.ro 1 [] true])),n (st 4 5 22)]) (s (O 23 [m 3,f 0 5,l 1 24,ca 423 [23,25],lti 26 0]) (c 27 (O 28 [m 3,h 4 5,E (.buildS [.int .u64 0,.int .u8 0,.str [],.ro 1 [] true] 1 [(0,T 29)]),E (.app [.int .u64 0,.int .u8 0,.str [],.ro 1 [] true] 56 false (T 28) (T 30)),d 3 (m 31)]))))) (O 15 [m 4,adi 15 1,d 4 (m 16)])))
def w270_L0:WCode:=.loop ⟨true,[4,3,1],[]⟩ w270_B0
def w270:WFn:=⟨1,[.tmp 2],zd (s (O 1 [bx 0,E (.mv (.c (.ro 4 [] true)))]) (s (R 3 [E (.mv (.c (.ro 4 [] true)))] ⟨true,[3,1],[(3,4)]⟩) (s (s (O 4 [i 0]) (bk 0 w270_L0 ⟨true,[3],[]⟩)) w270_c0)))⟩
@[simp] theorem w270_E0:ZL w270_L0 w270_B0 ⟨true,[4,3,1],[]⟩:=ck_lp rfl
noncomputable abbrev w270_K0 (C:WProg) (s:WSt):Option AV:=CK C 0 (pureFin [.tmp 2]) [.sq w270_L0,.bk 0 ⟨true,[3],[]⟩,.sq w270_c0] w270_B0 s
def w271:WFn:=⟨3,[.tmp 6],zd (s (O 3 [bx 0,bx 1,d 6 (i 0)]) (s (s (O 9 [h 4 4,f 0 3,l 1 10,ln 1 11,ca 424 [9,12],gti 13 0]) (c 14 (r (O 6 [i 6])))) (s (s (Q 15 [m 2,eqi 15 1] [16,4,3]) (c 16 (r (O 6 [i 8])))) (s (V 18 [f 0 3,l 1 18,f 1 4,l 1 20,ix 9 19 21,f 0 22,h 6 23,h 4 4,f 1 3,l 1 26,ca 425 [24,25,27],d 17 (m 28),ex 0 17,ex 1 17,d 7 (E (.alloc [.int .u8 0,.str [],.str [],.ro 2 [] true,.str [],.ro 6 [] true])),n (st 6 7 29),d 8 (m 30)] [(1,14),(3,14),(6,14),(7,14),(9,14),(10,14)] ⟨false,[],[]⟩) (s (s (O 31 [m 8,gti 31 0]) (c 32 (r (O 6 [i 14])))) (r (O 6 [i 0])))))))⟩
def w398:WFn:=⟨2,[.tmp 4],zd (s (O 4 [d 2 (bx 0),i 0]) (s (O 7 [E (.mkfn 494 [T 2]),d 5 (m 7)]) (s (Q 8 [E (.mkfn 497 [T 2]),d 6 (m 8)] [6,5,2,1]) (s (s (O 9 [f 0 2,l 1 9,E (.bin .eql (T 10) (.c (.int .u64 0))),m 11,z 12 (f 1 2),z 12 (l 1 13),z 12 (E (.cvt .i64 (T 14))),z 12 (m 1),z 12 (ge 15 16),po 12 17,m 18,z 19 (m 5),z 19 (E (.callv (T 20) [])),z 19 (nt 21),po 19 22,m 23,z 24 (m 6),z 24 (E (.callv (T 25) [])),z 24 (nt 26),po 24 27]) (c 28 (r (O 4 [i 6])))) (r (O 4 [i 0]))))))⟩
def w399:WFn:=⟨2,[.cell 4 6 true,.tmp 5],zd (s (O 2 [bx 0,bx 1,E (.alloc [.int .u8 0,.str [],.str [],.ro 2 [] true,.str [],.ro 6 [] true]),i 0]) (r (V 6 [f 0 2,l 1 6,f 1 3,l 1 8,ix 9 7 9,f 0 10,h 6 11,h 4 3,f 1 2,l 1 14,ca 501 [12,13,15],ex 0 16,ex 1 16,n (st 6 4 17),d 5 (m 18)] [] ⟨false,[],[]⟩)))⟩
def w400_c0:WCode:=zd (r (O 31 [m 5,d 4 (m 31)]))
def w400_B0:WCode:=zd (s (Q 14 [lt 13 12] [14,13,12,11,5,2]) (s (cc 14 (w .skip) (ee 0)) (s (B 1 (s (O 15 [m 13,ix 4 11 13,h 4 16,d 7 (E (.alloc [.int .u64 0,.int .u8 0,.str [],.ro 1 [] true])),d 6 (m 15),n (st 4 7 17)]) (V 18 [m 5,m 6,h 4 7,f 0 2,l 1 21,f 1 7,l 1 23,ix 9 22 24,f 6 25,l 1 26,E (.build [.int .u64 0,.int .u8 0,.str [],.ro 1 [] true,.int .i64 0,.bool false] [(0,4,T 20),(4,1,T 27)]),ix 6 18 19,n (st 6 29 28)] [] ⟨false,[],[]⟩))) (O 30 [adi 13 1,d 13 (m 30)]))))
def w400_L0:WCode:=.loop ⟨true,[13,12,11,5,2],[]⟩ w400_B0
def w400:WFn:=⟨2,[.tmp 4],zd (s (O 4 [d 2 (bx 0),E (.mv (.c (.ro 6 [] true)))]) (s (O 8 [m 1,ln 1 8,E (.mksl [.int .u64 0,.int .u8 0,.str [],.ro 1 [] true,.int .i64 0,.bool false] 72 (T 9) (T 9)),d 5 (m 10)]) (s (s (O 11 [m 1,ln 1 11,i 0]) (bk 0 w400_L0 ⟨true,[5],[]⟩)) w400_c0)))⟩
@[simp] theorem w400_E0:ZL w400_L0 w400_B0 ⟨true,[13,12,11,5,2],[]⟩:=ck_lp rfl
noncomputable abbrev w400_K0 (C:WProg) (s:WSt):Option AV:=CK C 0 (pureFin [.tmp 4]) [.sq w400_L0,.bk 0 ⟨true,[5],[]⟩,.sq w400_c0] w400_B0 s
def w401:WFn:=⟨3,[.tmp 5],zd (s (O 4 [bx 1,i 0]) (s (s (O 6 [l 1 2,f 0 4,l 1 7,E (.look 0 (.bool false) false (T 6) (T 8))]) (c 9 (r (O 5 [i 8])))) (s (O 10 [l 1 2,f 0 4,l 1 11,n (E (.upd 0 (T 10) (T 12) (.c (.bool true))))]) (r (O 5 [i 0])))))⟩
def w402_c0:WCode:=zd (r (O 4 [i (-1)]))
def w402_B0:WCode:=zd (s (O 9 [lt 8 7]) (s (cc 9 (w .skip) (ee 0)) (s (B 1 (s (O 10 [m 8,d 5 (m 10)]) (s (O 11 [m 1,m 0,m 5,ix 6 12 13,h 6 14,E (.callv (T 11) [T 15])]) (c 16 (r (O 17 [m 5,d 4 (m 17)])))))) (O 18 [adi 8 1,d 8 (m 18)]))))
def w402_L0:WCode:=.loop ⟨true,[8,7,1,0],[]⟩ w402_B0
def w402:WFn:=⟨2,[.tmp 4],zd (s (O 4 [i 0]) (s (s (O 6 [m 0,ln 1 6,i 0]) (bk 0 w402_L0 ⟨true,[],[]⟩)) w402_c0))⟩
@[simp] theorem w402_E0:ZL w402_L0 w402_B0 ⟨true,[8,7,1,0],[]⟩:=ck_lp rfl
def w403:WFn:=⟨2,[.tmp 3],zd (s (O 2 [bx 0,ff]) (r (O 4 [f 0 2,f 0 4,l 1 5,l 1 1,eq 6 7,d 3 (m 8)])))⟩
def w404:WFn:=⟨1,[.tmp 2],zd (s (O 1 [bx 0,i 0]) (r (O 3 [E (.call 502 [T 1,.c (.fn 503 [])]),d 2 (m 3)])))⟩
def w405_c0:WCode:=zd (r (O 4 [i (-1)]))
def w405_B0:WCode:=zd (s (O 9 [lt 8 7]) (s (cc 9 (w .skip) (ee 0)) (s (B 1 (s (O 10 [m 8,d 5 (m 10)]) (s (O 11 [m 1,m 0,m 5,ix 9 12 13,h 9 14,E (.callv (T 11) [T 15])]) (c 16 (r (O 17 [m 5,d 4 (m 17)])))))) (O 18 [adi 8 1,d 8 (m 18)]))))
def w405_L0:WCode:=.loop ⟨true,[8,7,1,0],[]⟩ w405_B0
def w405:WFn:=⟨2,[.tmp 4],zd (s (O 4 [i 0]) (s (s (O 6 [m 0,ln 1 6,i 0]) (bk 0 w405_L0 ⟨true,[],[]⟩)) w405_c0))⟩
@[simp] theorem w405_E0:ZL w405_L0 w405_B0 ⟨true,[8,7,1,0],[]⟩:=ck_lp rfl
noncomputable abbrev w405_K0 (C:WProg) (s:WSt):Option AV:=CK C 0 (pureFin [.tmp 4]) [.sq w405_L0,.bk 0 ⟨true,[],[]⟩,.sq w405_c0] w405_B0 s
def w406:WFn:=⟨1,[.tmp 2],zd (s (O 2 [i 0]) (s (s (O 3 [m 0]) (c 3 (r (O 2 [i 1])))) (r (O 2 [i 0]))))⟩
def w407:WFn:=⟨1,[.tmp 2],zd (s (O 2 [i 0]) (s (s (O 3 [m 0,ca 504 [3],gti 4 4611686018427387904]) (c 5 (r (O 2 [i 13])))) (r (O 2 [i 0]))))⟩
def w408:WFn:=⟨1,[.tmp 2],zd (s (O 1 [bx 0,i 0]) (s (s (O 3 [h 6 1,ca 505 [3],eqi 4 0]) (c 5 (r (O 2 [i 14])))) (r (O 2 [i 0]))))⟩
def w409:WFn:=⟨5,[.tmp 6],zd (s (O 6 [E (.mv (.c (.ro 6 [] true)))]) (r (V 7 [f 0 1,l 1 7,l 1 2,l 1 3,E (.call 221 [T 8,T 9,T 10,.c (.ro 6 [] true)]),l 1 4,f 0 1,l 1 13,l 1 2,l 1 2,l 1 3,ad 16 17,E (.slice 6 (T 14) (some (T 15)) (some (T 18)) none),E (.call 221 [T 11,T 12,N 0,T 19]),d 6 (m 20)] [(4,5),(4,7),(4,8),(4,9),(4,10)] ⟨false,[],[]⟩)))⟩
def w410:WFn:=⟨3,[.tmp 6],zd (s (O 6 [i 0]) (r (O 7 [m 0,gei 7 0,m 8,y 9 (m 0),y 9 (m 2),y 9 (le 10 11),pa 9 12,m 13,y 14 (m 1),y 14 (gei 15 0),pa 14 16,m 17,y 18 (m 1),y 18 (m 2),y 18 (m 0),y 18 (sb 20 21),y 18 (le 19 22),pa 18 23,ca 406 [24],d 6 (m 25)])))⟩
def w459:WFn:=⟨1,[.tmp 2],zd (s (O 2 [E (.mv (.c (.ro 4 [] true)))]) (s (s (O 4 [m 0,ln 1 4,eqi 5 0]) (c 6 (r (O 2 [E (.mv (.c (.ro 4 [] true)))])))) (s (O 7 [m 0,ln 1 7,E (.mksl [.int .u64 0,.int .u8 0,.str [],.ro 1 [] true] 56 (T 8) (T 8)),d 3 (m 9)]) (s (O 10 [m 3,m 0,E (.cpy 4 (T 10) (T 11))]) (r (O 13 [m 3,d 2 (m 13)]))))))⟩
def w460:WFn:=⟨1,[.tmp 2],zd (s (O 2 [E (.mv (.c (.ro 1 [] true)))]) (s (s (O 4 [m 0,ln 1 4,eqi 5 0]) (c 6 (r (O 2 [E (.mv (.c (.ro 1 [] true)))])))) (s (O 7 [m 0,ln 1 7,E (.mksl [.str []] 16 (T 8) (T 8)),d 3 (m 9)]) (s (O 10 [m 3,m 0,E (.cpy 1 (T 10) (T 11))]) (r (O 13 [m 3,d 2 (m 13)]))))))⟩
def w422_c0:WCode:=zd (s (s (O 45 [E (.idxa 4 1 (T 1) (N 3)),l 1 45,E (.bin .geq (T 46) (.c (.int .u8 240)))]) (c 47 (O 48 [f 3 3,l 1 48,E (.buildS [.str []] 2 [(0,.c (.str [97])),(1,.c (.str [97]))]),E (.app [.str []] 16 false (T 49) (T 50)),f 3 3,n (st 1 52 51)]))) (r (O 53 [h 4 3,n (st 4 2 53)])))
def w422_B0:WCode:=zd (s (s (O 20 [m 4,lti 20 3]) (cc 21 (w .skip) (ee 0))) (s (B 1 (s (O 24 [E (.idxa 4 1 (T 1) (N 3)),l 1 24,m 4,E (.bin .shr (T 25) (T 26)),E (.bin .and (T 27) (.c (.int .u8 1))),E (.bin .gtr (T 28) (.c (.int .u8 0)))]) (c 29 (U 30 [f 3 3,l 1 30,E (.buildS [.str []] 3 [(0,.c (.str [97])),(1,.c (.str [98,50])),(2,.c (.str [107,101,121]))]),m 4,E (.idxa 4 1 (T 1) (N 3)),l 1 34,E (.bin .quo (T 35) (.c (.int .u8 8))),E (.cvt .i64 (T 36)),ad 33 37,E (.bin .rem (T 38) (N 3)),ix 1 32 39,l 1 40,E (.buildS [.str []] 1 [(0,T 41)]),E (.app [.str []] 16 false (T 31) (T 42)),f 3 3,n (st 1 44 43)] [(1,2),(2,5),(1,12)] [4,3,2,1])))) (O 22 [m 4,adi 22 1,d 4 (m 23)])))
def w422_L0:WCode:=.loop ⟨true,[4,3,2,1],[]⟩ w422_B0
def w422:WFn:=⟨1,[.cell 2 4 true],zd (s (O 1 [bx 0,E (.alloc [.int .u64 0,.int .u8 0,.str [],.ro 1 [] true])]) (s (U 5 [E (.idxa 4 1 (T 1) (N 0)),l 1 5,E (.bin .rem (T 6) (.c (.int .u8 60))),E (.cvt .u64 (T 7)),E (.bin .add (.c (.int .u64 1)) (T 8)),E (.idxa 4 1 (T 1) (N 1)),l 1 10,E (.bin .rem (T 11) (.c (.int .u8 3))),E (.buildS [.str []] 8 [(0,.c (.str [])),(1,.c (.str [97])),(2,.c (.str [114,111,119])),(3,.c (.str [116,119,111,32,119,111,114,100,115])),(4,.c (.str [32,32])),(5,.c (.str [126,33,45,44])),(6,.c (.str [97,32,108,111,110,103,101,114,32,116,101,120,116,32,111,102,32,116,104,105,115,32,107,105,110,100])),(7,.c (.str [57]))]),E (.idxa 4 1 (T 1) (N 2)),l 1 14,E (.bin .rem (T 15) (.c (.int .u8 8))),ix 1 13 16,l 1 17,E (.build [.int .u64 0,.int .u8 0,.str [],.ro 1 [] true] [(0,1,T 9),(1,1,T 12),(2,1,T 18)]),d 3 (E (.alloc [.int .u64 0,.int .u8 0,.str [],.ro 1 [] true])),n (st 4 3 19)] [(1,8),(6,8),(8,10),(1,15),(6,15),(8,15),(10,15),(13,15)] [3,2,1]) (s (s (O 4 [i 0]) (bk 0 w422_L0 ⟨true,[3,2,1],[]⟩)) w422_c0)))⟩
@[simp] theorem w422_E0:ZL w422_L0 w422_B0 ⟨true,[4,3,2,1],[]⟩:=ck_lp rfl
noncomputable abbrev w422_K0 (C:WProg) (s:WSt):Option AV:=CK C 0 (pureFin [.cell 2 4 true]) [.sq w422_L0,.bk 0 ⟨true,[3,2,1],[]⟩,.sq w422_c0] w422_B0 s
def w423_c0:WCode:=zd (r (O 4 [i (-1)]))
def w423_B0:WCode:=zd (s (s (O 6 [m 5,m 0,ln 1 7,lt 6 8]) (cc 9 (w .skip) (ee 0))) (s (B 1 (s (O 12 [m 0,m 5,ix 4 12 13,f 0 14,l 1 15,m 1,eq 16 17]) (c 18 (r (O 19 [m 5,d 4 (m 19)]))))) (O 10 [m 5,adi 10 1,d 5 (m 11)])))
def w423_L0:WCode:=.loop ⟨true,[5,1,0],[]⟩ w423_B0
def w423:WFn:=⟨2,[.tmp 4],zd (s (O 4 [i 0]) (s (s (O 5 [i 0]) (bk 0 w423_L0 ⟨true,[],[]⟩)) w423_c0))⟩
@[simp] theorem w423_E0:ZL w423_L0 w423_B0 ⟨true,[5,1,0],[]⟩:=ck_lp rfl
noncomputable abbrev w423_K0 (C:WProg) (s:WSt):Option AV:=CK C 0 (pureFin [.tmp 4]) [.sq w423_L0,.bk 0 ⟨true,[],[]⟩,.sq w423_c0] w423_B0 s
def w424_c0:WCode:=zd (s (s (O 41 [m 5,eqi 41 1]) (c 42 (r (O 4 [i 0])))) (r (O 4 [i 6])))
def w424_B0:WCode:=zd (s (s (O 26 [m 6,f 3 2,l 1 27,ln 1 28,lt 26 29]) (cc 30 (w .skip) (ee 0))) (s (B 1 (O 33 [m 5,f 3 2,l 1 34,m 6,ix 1 35 36,l 1 37,ca 511 [38],E (.bin .mul (T 33) (T 39)),d 5 (m 40)])) (O 31 [m 6,adi 31 1,d 6 (m 32)])))
def w424_L0:WCode:=.loop ⟨true,[6,5,2],[]⟩ w424_B0
def w424:WFn:=⟨2,[.tmp 4],zd (s (O 4 [d 2 (bx 0),i 0]) (s (O 7 [f 2 2,l 1 7,ca 510 [8],d 5 (m 9)]) (s (s (Q 10 [f 0 2,l 1 10,E (.bin .eql (T 11) (.c (.int .u64 0))),m 12,z 13 (m 1),z 13 (f 1 2),z 13 (l 1 15),z 13 (E (.cvt .i64 (T 16))),z 13 (le 14 17),po 13 18,m 19,z 20 (f 3 2),z 20 (l 1 21),z 20 (ln 1 22),z 20 (gti 23 8),po 20 24] [25,5,2]) (c 25 (O 5 [i 0]))) (s (s (O 6 [i 0]) (bk 0 w424_L0 ⟨true,[5],[]⟩)) w424_c0))))⟩
@[simp] theorem w424_E0:ZL w424_L0 w424_B0 ⟨true,[6,5,2],[]⟩:=ck_lp rfl
noncomputable abbrev w424_K0 (C:WProg) (s:WSt):Option AV:=CK C 0 (pureFin [.tmp 4]) [.sq w424_L0,.bk 0 ⟨true,[5],[]⟩,.sq w424_c0] w424_B0 s
def w425:WFn:=⟨3,[.cell 6 6 true,.tmp 7],zd (s (Q 6 [d 3 (bx 0),d 4 (bx 1),E (.alloc [.int .u8 0,.str [],.str [],.ro 2 [] true,.str [],.ro 6 [] true]),i 0] [6,4,3,2]) (s (s (O 9 [m 2,lti 9 1,m 10,z 11 (m 2),z 11 (gti 12 64),po 11 13]) (c 14 (r (O 15 [E (.build [.int .u8 0,.str [],.str [],.ro 2 [] true,.str [],.ro 6 [] true] []),n (st 6 6 15),d 7 (i 1)])))) (s (s (O 16 [h 6 3,ca 408 [16],nei 17 0]) (c 18 (r (O 19 [E (.build [.int .u8 0,.str [],.str [],.ro 2 [] true,.str [],.ro 6 [] true] []),h 6 3,ca 408 [20],n (st 6 6 19),d 7 (m 21)])))) (s (s (O 22 [h 4 4,ca 512 [22],nei 23 0]) (c 24 (r (Q 25 [E (.build [.int .u8 0,.str [],.str [],.ro 2 [] true,.str [],.ro 6 [] true] []),h 4 4,ca 512 [26],n (st 6 6 25),d 7 (m 27)] [7,6])))) (s (O 28 [h 6 3,h 4 4,ca 513 [28,29],E (.idxs 6 (T 30) (N 0)),h 6 31,d 8 (E (.alloc [.int .u8 0,.str [],.str [],.ro 2 [] true,.str [],.ro 6 [] true])),n (st 6 8 32)]) (s (s (O 33 [h 6 8,ca 441 [33],nei 34 0,m 35,z 36 (h 6 8),z 36 (ca 442 [37]),z 36 (m 2),z 36 (gt 38 39),po 36 40]) (c 41 (r (O 42 [E (.build [.int .u8 0,.str [],.str [],.ro 2 [] true,.str [],.ro 6 [] true] []),n (st 6 6 42),d 7 (i 14)])))) (r (O 43 [h 6 8,n (st 6 6 43),d 7 (i 0)]))))))))⟩
def w494:WFn:=⟨1,[.tmp 1],zd (s (O 1 [ff]) (r (O 2 [f 2 0,l 1 2,ln 0 3,lei 4 64,m 5,y 6 (f 2 0),y 6 (l 1 7),y 6 (E (.call 495 [T 8,.c (.fn 496 [])])),y 6 (nt 9),pa 6 10,d 1 (m 11)])))⟩
def w495:WFn:=⟨2,[.tmp 4],zd (s (O 4 [ff]) (r (O 5 [m 0,m 1,ca 543 [5,6],gei 7 0,d 4 (m 8)])))⟩
def w496:WFn:=⟨1,[.tmp 2],zd (s (O 2 [ff]) (r (O 3 [m 0,E (.bin .lss (T 3) (.c (.int .i32 32))),m 4,z 5 (m 0),z 5 (E (.bin .gtr (T 6) (.c (.int .i32 126)))),po 5 7,d 2 (m 8)])))⟩
def w497:WFn:=⟨1,[.tmp 1],zd (s (O 1 [ff]) (r (O 2 [f 3 0,l 1 2,ln 1 3,lei 4 8,m 5,y 6 (f 3 0),y 6 (l 1 7),y 6 (E (.call 498 [T 8,.c (.fn 499 [])])),y 6 (nt 9),pa 6 10,d 1 (m 11)])))⟩
def w498:WFn:=⟨2,[.tmp 4],zd (s (O 4 [ff]) (r (O 5 [m 0,m 1,ca 544 [5,6],gei 7 0,d 4 (m 8)])))⟩
def w499:WFn:=⟨1,[.tmp 2],zd (s (O 2 [ff]) (r (O 3 [m 0,ca 500 [3],nt 4,d 2 (m 5)])))⟩
def w500:WFn:=⟨1,[.tmp 2],zd (s (O 2 [ff]) (s (O 3 [E (.mv (.c (.fn 545 [])))]) (r (O 4 [m 0,E (.bin .neq (T 4) (.c (.str []))),m 5,y 6 (m 0),y 6 (ln 0 7),y 6 (lei 8 16),pa 6 9,m 10,y 11 (m 0),y 11 (m 3),y 11 (ca 495 [12,13]),y 11 (nt 14),pa 11 15,d 2 (m 16)]))))⟩
def w501:WFn:=⟨3,[.cell 6 6 true,.tmp 7],zd (s (O 6 [d 3 (bx 0),d 4 (bx 1),E (.alloc [.int .u8 0,.str [],.str [],.ro 2 [] true,.str [],.ro 6 [] true]),i 0]) (s (s (Q 12 [m 2,lti 12 1,m 13,z 14 (m 2),z 14 (gti 15 64),po 14 16] [17,6,4,3,2]) (c 17 (r (O 18 [E (.build [.int .u8 0,.str [],.str [],.ro 2 [] true,.str [],.ro 6 [] true] []),n (st 6 6 18),d 7 (i 1)])))) (s (s (O 19 [h 6 3,ca 231 [19],d 8 (m 20)]) (s (O 21 [m 8,nei 21 0]) (c 22 (r (O 23 [E (.build [.int .u8 0,.str [],.str [],.ro 2 [] true,.str [],.ro 6 [] true] []),m 8,n (st 6 6 23),d 7 (m 24)]))))) (s (s (O 25 [h 4 4,ca 546 [25],d 9 (m 26)]) (s (O 27 [m 9,nei 27 0]) (c 28 (r (O 29 [E (.build [.int .u8 0,.str [],.str [],.ro 2 [] true,.str [],.ro 6 [] true] []),m 9,n (st 6 6 29),d 7 (m 30)]))))) (s (Q 31 [h 4 4,E (.build [.int .u64 0,.int .u8 0,.str [],.ro 1 [] true] [(0,4,T 31)]),h 6 3,E (.buildS [.int .u8 0,.str [],.str [],.ro 3 [] true,.str [],.ro 6 [] true] 1 [(0,T 33)]),ca 547 [32,34],E (.idxs 6 (T 35) (N 0)),h 6 36,d 10 (E (.alloc [.int .u8 0,.str [],.str [],.ro 2 [] true,.str [],.ro 6 [] true])),n (st 6 10 37)] [10,6,2]) (s (s (O 38 [h 6 10,ca 140 [38],d 11 (m 39)]) (s (O 40 [m 11,eqi 40 0,m 41,z 42 (m 11),z 42 (m 2),z 42 (gt 43 44),po 42 45]) (c 46 (r (O 47 [E (.build [.int .u8 0,.str [],.str [],.ro 2 [] true,.str [],.ro 6 [] true] []),n (st 6 6 47),d 7 (i 14)]))))) (r (O 48 [h 6 10,n (st 6 6 48),d 7 (i 0)]))))))))⟩
def w502:WFn:=⟨2,[.tmp 4],zd (s (O 3 [bx 1,i 0]) (s (s (O 7 [m 0,nk 7,f 0 8,l 1 9,E (.bin .neq (T 10) (.c (.int .u8 1)))]) (c 11 (r (O 4 [i 0])))) (s (O 5 [E (.alloc [.int .i64 0]),n (E (.store 1 (T 5) (N 0)))]) (s (O 6 [E (.alloc [.nilf])]) (s (O 12 [E (.mkfn 548 [T 5,T 3,T 6]),n (st 1 6 12)]) (s (s (O 13 [l 1 6,m 0,E (.callv (T 13) [T 14,N 1]),nt 15]) (c 16 (r (O 4 [i 0])))) (r (O 17 [l 1 5,d 4 (m 17)]))))))))⟩
def w503:WFn:=⟨1,[],zd (w .skip)⟩
def w504_c0:WCode:=zd (r (O 27 [m 3,E (.cvt .i64 (T 27)),d 2 (m 28)]))
def w504_B0:WCode:=zd (s (s (O 5 [m 4,m 0,ln 1 6,lt 5 7]) (cc 8 (w .skip) (ee 0))) (s (B 1 (s (s (Q 11 [m 0,m 4,ix 6 11 12,f 4 13,l 1 14,gti 15 0] [16,4,3,0]) (c 16 (O 17 [m 3,m 0,m 4,ix 6 18 19,f 4 20,l 1 21,E (.cvt .u64 (T 22)),ad 17 23,d 3 (m 24)]))) (s (O 25 [m 3,E (.bin .gtr (T 25) (.c (.int .u64 4611686018427387904)))]) (c 26 (r (O 2 [i 4611686018427387905])))))) (O 9 [m 4,adi 9 1,d 4 (m 10)])))
def w504_L0:WCode:=.loop ⟨true,[4,3,0],[]⟩ w504_B0
def w504:WFn:=⟨1,[.tmp 2],zd (s (O 2 [i 0]) (s (O 3 [E (.mv (.c (.int .u64 0)))]) (s (s (O 4 [i 0]) (bk 0 w504_L0 ⟨true,[3],[]⟩)) w504_c0)))⟩
@[simp] theorem w504_E0:ZL w504_L0 w504_B0 ⟨true,[4,3,0],[]⟩:=ck_lp rfl
def w505:WFn:=⟨1,[.tmp 2],zd (s (O 1 [bx 0,i 0]) (s (O 4 [h 6 1,E (.call 550 [T 4,N 6]),d 3 (m 5)]) (s (s (O 6 [f 0 1,l 1 6,E (.bin .neq (T 7) (.c (.int .u8 1))),m 8,z 9 (m 3),z 9 (gti 10 64),po 9 11]) (c 12 (r (O 2 [i 0])))) (r (O 13 [m 3,d 2 (m 13)])))))⟩
def w510_c0:WCode:=zd (r (O 2 [i 1]))
def w510_B0:WCode:=zd (s (s (O 7 [m 3,m 0,ln 0 8,lt 7 9]) (cc 10 (w .skip) (ee 0))) (s (B 1 (s (O 13 [m 0,m 3,E (.idxstr (T 13) (T 14)),E (.bin .lss (T 15) (.c (.int .u8 32))),m 16,z 17 (m 0),z 17 (m 3),z 17 (E (.idxstr (T 18) (T 19))),z 17 (E (.bin .gtr (T 20) (.c (.int .u8 126)))),po 17 21]) (c 22 (r (O 2 [i 0]))))) (O 11 [m 3,adi 11 1,d 3 (m 12)])))
def w510_L0:WCode:=.loop ⟨true,[3,0],[]⟩ w510_B0
def w510:WFn:=⟨1,[.tmp 2],zd (s (O 2 [i 0]) (s (s (Q 4 [m 0,ln 0 4,gti 5 64] [6,0]) (c 6 (r (O 2 [i 0])))) (s (s (O 3 [i 0]) (bk 0 w510_L0 ⟨true,[],[]⟩)) w510_c0)))⟩
@[simp] theorem w510_E0:ZL w510_L0 w510_B0 ⟨true,[3,0],[]⟩:=ck_lp rfl
noncomputable abbrev w510_K0 (C:WProg) (s:WSt):Option AV:=CK C 0 (pureFin [.tmp 2]) [.sq w510_L0,.bk 0 ⟨true,[],[]⟩,.sq w510_c0] w510_B0 s
def w511_c0:WCode:=zd (r (O 2 [i 1]))
def w511_B0:WCode:=zd (s (s (O 13 [m 3,m 0,ln 0 14,lt 13 15]) (cc 16 (w .skip) (ee 0))) (s (B 1 (s (Q 19 [m 0,m 3,E (.idxstr (T 19) (T 20)),d 4 (m 21)] [4,3,0]) (s (O 22 [m 4,E (.bin .geq (T 22) (.c (.int .u8 97))),m 23,y 24 (m 4),y 24 (E (.bin .leq (T 25) (.c (.int .u8 122)))),pa 24 26,m 27,z 28 (m 4),z 28 (E (.bin .geq (T 29) (.c (.int .u8 48)))),z 28 (m 30),y 31 (m 4),y 31 (E (.bin .leq (T 32) (.c (.int .u8 57)))),z 28 (pa 31 33),po 28 34,nt 35]) (c 36 (r (O 2 [i 0])))))) (O 17 [m 3,adi 17 1,d 3 (m 18)])))
def w511_L0:WCode:=.loop ⟨true,[3,0],[]⟩ w511_B0
def w511:WFn:=⟨1,[.tmp 2],zd (s (O 2 [i 0]) (s (s (O 5 [m 0,ln 0 5,lti 6 1,m 7,z 8 (m 0),z 8 (ln 0 9),z 8 (gti 10 16),po 8 11]) (c 12 (r (O 2 [i 0])))) (s (s (O 3 [i 0]) (bk 0 w511_L0 ⟨true,[],[]⟩)) w511_c0)))⟩
@[simp] theorem w511_E0:ZL w511_L0 w511_B0 ⟨true,[3,0],[]⟩:=ck_lp rfl
noncomputable abbrev w511_K0 (C:WProg) (s:WSt):Option AV:=CK C 0 (pureFin [.tmp 2]) [.sq w511_L0,.bk 0 ⟨true,[],[]⟩,.sq w511_c0] w511_B0 s
def w512_c0:WCode:=zd (r (O 2 [i 0]))
def w512_B0:WCode:=zd (s (s (O 19 [m 3,f 3 1,l 1 20,ln 1 21,lt 19 22]) (cc 23 (w .skip) (ee 0))) (s (B 1 (s (O 26 [f 3 1,l 1 26,m 3,ix 1 27 28,l 1 29,ca 557 [30],nt 31]) (c 32 (r (O 2 [i 6]))))) (O 24 [m 3,adi 24 1,d 3 (m 25)])))
def w512_L0:WCode:=.loop ⟨true,[3,1],[]⟩ w512_B0
def w512:WFn:=⟨1,[.tmp 2],zd (s (O 1 [bx 0,i 0]) (s (s (Q 4 [f 0 1,l 1 4,E (.bin .eql (T 5) (.c (.int .u64 0))),m 6,z 7 (f 2 1),z 7 (l 1 8),z 7 (ca 556 [9]),z 7 (nt 10),po 7 11,m 12,z 13 (f 3 1),z 13 (l 1 14),z 13 (ln 1 15),z 13 (gti 16 8),po 13 17] [18,1]) (c 18 (r (O 2 [i 6])))) (s (s (O 3 [i 0]) (bk 0 w512_L0 ⟨true,[],[]⟩)) w512_c0)))⟩
@[simp] theorem w512_E0:ZL w512_L0 w512_B0 ⟨true,[3,1],[]⟩:=ck_lp rfl
noncomputable abbrev w512_K0 (C:WProg) (s:WSt):Option AV:=CK C 0 (pureFin [.tmp 2]) [.sq w512_L0,.bk 0 ⟨true,[],[]⟩,.sq w512_c0] w512_B0 s
def w513_c0:WCode:=zd (r (O 89 [h 6 7,E (.buildS [.int .u8 0,.str [],.str [],.ro 2 [] true,.str [],.ro 6 [] true] 1 [(0,T 89)]),d 4 (m 90)]))
def w513_B0:WCode:=zd (s (s (O 71 [m 8,f 5 2,l 1 72,ln 1 73,lt 71 74]) (cc 75 (w .skip) (ee 3))) (s (B 4 (V 78 [f 5 7,l 1 78,f 5 2,l 1 80,m 8,ix 6 81 82,h 6 83,h 4 3,ca 513 [84,85],E (.app [.int .u8 0,.str [],.str [],.ro 2 [] true,.str [],.ro 6 [] true] 104 false (T 79) (T 86)),f 5 7,n (st 1 88 87)] [(1,8)] ⟨false,[],[]⟩)) (O 76 [m 8,adi 76 1,d 8 (m 77)])))
def w513_L0:WCode:=.loop ⟨true,[8,7,3,2],[]⟩ w513_B0
def w513_c1:WCode:=zd (s (V 62 [f 1 2,l 1 62,f 2 2,l 1 64,f 3 2,l 1 66,h 4 3,ca 559 [67,68],E (.build [.int .u8 0,.str [],.str [],.ro 2 [] true,.str [],.ro 6 [] true] [(0,1,.c (.int .u8 1)),(1,1,T 63),(2,1,T 65),(3,1,T 69)]),d 7 (E (.alloc [.int .u8 0,.str [],.str [],.ro 2 [] true,.str [],.ro 6 [] true])),n (st 6 7 70)] [(1,7),(3,7),(1,9),(3,9),(5,9),(6,9),(7,9)] ⟨false,[],[]⟩) (s (s (Q 8 [i 0] [8,7,3,2]) (bk 3 w513_L0 ⟨true,[7],[]⟩)) w513_c0))
def w513_c2:WCode:=zd (r (O 61 [m 5,d 4 (m 61)]))
def w513_B1:WCode:=zd (s (s (O 32 [m 6,f 3 3,l 1 33,ln 1 34,lt 32 35]) (cc 36 (w .skip) (ee 1))) (s (B 2 (U 39 [m 5,f 1 2,l 1 40,f 3 3,l 1 42,m 6,ix 1 43 44,l 1 45,f 3 2,l 1 47,h 4 3,ca 559 [48,49],f 3 3,l 1 51,m 6,ix 1 52 53,l 1 54,E (.build [.int .u8 0,.str [],.str [],.ro 2 [] true,.str [],.ro 6 [] true] [(0,1,.c (.int .u8 2)),(4,1,T 55)]),E (.buildS [.int .u8 0,.str [],.str [],.ro 2 [] true,.str [],.ro 6 [] true] 1 [(0,T 56)]),E (.build [.int .u8 0,.str [],.str [],.ro 2 [] true,.str [],.ro 6 [] true] [(0,1,.c (.int .u8 1)),(1,1,T 41),(2,1,T 46),(3,1,T 50),(5,1,T 57)]),E (.buildS [.int .u8 0,.str [],.str [],.ro 2 [] true,.str [],.ro 6 [] true] 1 [(0,T 58)]),E (.app [.int .u8 0,.str [],.str [],.ro 2 [] true,.str [],.ro 6 [] true] 104 false (T 39) (T 59)),d 5 (m 60)] [(2,11),(4,11),(7,11),(11,13),(11,16),(2,18),(4,18),(7,18),(9,18),(10,18),(11,18)] [6,5,3,2])) (O 37 [m 6,adi 37 1,d 6 (m 38)])))
def w513_L1:WCode:=.loop ⟨true,[6,5,3,2],[]⟩ w513_B1
def w513:WFn:=⟨2,[.tmp 4],zd (s (O 2 [bx 0,bx 1,E (.mv (.c (.ro 6 [] true)))]) (s (s (O 9 [f 0 2,l 1 9]) (bk 0 (s (O 12 [E (.bin .eql (T 10) (.c (.int .u8 2))),d 11 (m 12)]) (cc 11 (r (O 13 [f 4 2,l 1 13,E (.build [.int .u8 0,.str [],.str [],.ro 2 [] true,.str [],.ro 6 [] true] [(0,1,.c (.int .u8 2)),(4,1,T 14)]),E (.buildS [.int .u8 0,.str [],.str [],.ro 2 [] true,.str [],.ro 6 [] true] 1 [(0,T 15)]),d 4 (m 16)])) (s (O 18 [E (.bin .eql (T 10) (.c (.int .u8 3))),d 17 (m 18)]) (cc 17 (r (O 19 [f 2 3,l 1 19,E (.build [.int .u8 0,.str [],.str [],.ro 2 [] true,.str [],.ro 6 [] true] [(0,1,.c (.int .u8 2)),(4,1,T 20)]),E (.buildS [.int .u8 0,.str [],.str [],.ro 2 [] true,.str [],.ro 6 [] true] 1 [(0,T 21)]),d 4 (m 22)])) (s (O 24 [E (.bin .eql (T 10) (.c (.int .u8 4))),d 23 (m 24)]) (cc 23 (r (Q 25 [f 0 3,l 1 25,ca 558 [26],E (.build [.int .u8 0,.str [],.str [],.ro 2 [] true,.str [],.ro 6 [] true] [(0,1,.c (.int .u8 2)),(4,1,T 27)]),E (.buildS [.int .u8 0,.str [],.str [],.ro 2 [] true,.str [],.ro 6 [] true] 1 [(0,T 28)]),d 4 (m 29)] [4])) (s (O 31 [E (.bin .eql (T 10) (.c (.int .u8 5))),d 30 (m 31)]) (c 30 (s (R 5 [E (.mv (.c (.ro 6 [] true)))] ⟨true,[5,3,2],[(5,6)]⟩) (s (s (O 6 [i 0]) (bk 1 w513_L1 ⟨true,[5],[]⟩)) w513_c2)))))))))) ⟨true,[3,2],[]⟩)) w513_c1))⟩
@[simp] theorem w513_E0:ZL w513_L0 w513_B0 ⟨true,[8,7,3,2],[]⟩:=ck_lp rfl
noncomputable abbrev w513_K0 (C:WProg) (s:WSt):Option AV:=CK C 0 (pureFin [.tmp 4]) [.sq w513_L0,.bk 3 ⟨true,[7],[]⟩,.sq w513_c0] w513_B0 s
@[simp] theorem w513_E1:ZL w513_L1 w513_B1 ⟨true,[6,5,3,2],[]⟩:=ck_lp rfl
noncomputable abbrev w513_K1 (C:WProg) (s:WSt):Option AV:=CK C 0 (pureFin [.tmp 4]) [.sq w513_L1,.bk 1 ⟨true,[5],[]⟩,.sq w513_c2,.bk 0 ⟨true,[3,2],[]⟩,.sq w513_c1] w513_B1 s
def w441:WFn:=⟨1,[.tmp 2],zd (s (O 1 [bx 0,i 0]) (s (s (O 3 [h 6 1,ca 442 [3],eqi 4 0]) (c 5 (r (O 2 [i 14])))) (r (O 2 [i 0]))))⟩
def w442:WFn:=⟨1,[.tmp 2],zd (s (O 1 [bx 0,i 0]) (s (O 4 [h 6 1,E (.call 520 [T 4,N 6]),d 3 (m 5)]) (s (s (O 6 [m 3,gti 6 64]) (c 7 (r (O 2 [i 0])))) (r (O 8 [m 3,d 2 (m 8)])))))⟩
def w543:WFn:=⟨2,[.tmp 4],zd (s (O 4 [i 0]) (r (O 5 [m 0,m 1,E (.call 578 [T 5,T 6,.c (.bool true)]),d 4 (m 7)])))⟩
def w544_c0:WCode:=zd (r (O 4 [i (-1)]))
def w544_B0:WCode:=zd (s (O 9 [lt 8 7]) (s (cc 9 (w .skip) (ee 0)) (s (B 1 (s (O 10 [m 8,d 5 (m 10)]) (s (O 11 [m 1,m 0,m 5,ix 1 12 13,l 1 14,E (.callv (T 11) [T 15])]) (c 16 (r (O 17 [m 5,d 4 (m 17)])))))) (O 18 [adi 8 1,d 8 (m 18)]))))
def w544_L0:WCode:=.loop ⟨true,[8,7,1,0],[]⟩ w544_B0
def w544:WFn:=⟨2,[.tmp 4],zd (s (O 4 [i 0]) (s (s (O 6 [m 0,ln 1 6,i 0]) (bk 0 w544_L0 ⟨true,[],[]⟩)) w544_c0))⟩
@[simp] theorem w544_E0:ZL w544_L0 w544_B0 ⟨true,[8,7,1,0],[]⟩:=ck_lp rfl
noncomputable abbrev w544_K0 (C:WProg) (s:WSt):Option AV:=CK C 0 (pureFin [.tmp 4]) [.sq w544_L0,.bk 0 ⟨true,[],[]⟩,.sq w544_c0] w544_B0 s
def w545:WFn:=⟨1,[.tmp 2],zd (s (O 2 [ff]) (r (O 3 [m 0,E (.bin .lss (T 3) (.c (.int .i32 97))),m 4,z 5 (m 0),z 5 (E (.bin .gtr (T 6) (.c (.int .i32 122)))),po 5 7,m 8,y 9 (m 0),y 9 (E (.bin .lss (T 10) (.c (.int .i32 48)))),y 9 (m 11),z 12 (m 0),z 12 (E (.bin .gtr (T 13) (.c (.int .i32 57)))),y 9 (po 12 14),pa 9 15,d 2 (m 16)])))⟩
def w546:WFn:=⟨1,[.tmp 2],zd (s (Q 1 [bx 0,i 0] [1]) (s (s (O 3 [f 0 1,l 1 3,E (.bin .eql (T 4) (.c (.int .u64 0))),m 5,z 6 (f 2 1),z 6 (l 1 7),z 6 (ca 579 [8]),z 6 (nt 9),po 6 10,m 11,z 12 (f 3 1),z 12 (l 1 13),z 12 (ln 1 14),z 12 (gti 15 8),po 12 16,m 17,z 18 (f 3 1),z 18 (l 1 19),z 18 (E (.call 498 [T 20,.c (.fn 580 [])])),po 18 21]) (c 22 (r (O 2 [i 6])))) (r (O 2 [i 0]))))⟩
def w547_c0:WCode:=zd (r (O 81 [m 5,d 4 (m 81)]))
def w547_c1:WCode:=zd (O 80 [adi 12 1,d 12 (m 80)])
def w547_B1:WCode:=zd (s (O 66 [lt 65 64]) (s (cc 66 (w .skip) (ee 3)) (s (B 4 (s (O 67 [ix 1 63 65,l 1 67,d 9 (m 68)]) (U 69 [m 5,h 4 2,h 6 7,m 9,m 9,ca 583 [73],E (.buildS [.int .u8 0,.str [],.str [],.ro 2 [] true,.str [],.ro 6 [] true] 1 [(0,T 74)]),ca 582 [70,71,72,75],E (.buildS [.int .u8 0,.str [],.str [],.ro 2 [] true,.str [],.ro 6 [] true] 1 [(0,T 76)]),E (.app [.int .u8 0,.str [],.str [],.ro 2 [] true,.str [],.ro 6 [] true] 104 false (T 69) (T 77)),d 5 (m 78)] [(1,5),(2,5),(1,6),(2,6)] [65,64,63,12,11,10,7,5,2]))) (O 79 [adi 65 1,d 65 (m 79)]))))
def w547_L1:WCode:=.loop ⟨true,[65,64,63,12,11,10,7,5,2],[]⟩ w547_B1
def w547_B0:WCode:=zd (s (O 13 [lt 12 11]) (s (cc 13 (w .skip) (ee 0)) (s (bk 1 (s (Q 14 [ix 6 10 12,h 6 14,d 7 (E (.alloc [.int .u8 0,.str [],.str [],.ro 3 [] true,.str [],.ro 6 [] true])),n (st 6 7 15)] [12,11,10,7,5,2]) (s (O 16 [f 0 7,l 1 16]) (bk 2 (s (O 19 [E (.bin .eql (T 17) (.c (.int .u8 1))),d 18 (m 19)]) (cc 18 (V 20 [m 5,h 4 2,h 6 7,f 2 7,l 1 23,h 4 2,f 5 7,l 1 26,ca 547 [25,27],ca 582 [21,22,24,28],E (.buildS [.int .u8 0,.str [],.str [],.ro 2 [] true,.str [],.ro 6 [] true] 1 [(0,T 29)]),E (.app [.int .u8 0,.str [],.str [],.ro 2 [] true,.str [],.ro 6 [] true] 104 false (T 20) (T 30)),d 5 (m 31)] [(1,8),(2,8),(4,8)] ⟨false,[],[]⟩) (s (O 33 [E (.bin .eql (T 17) (.c (.int .u8 2))),d 32 (m 33)]) (cc 32 (Q 34 [m 5,f 4 7,l 1 35,ca 583 [36],E (.buildS [.int .u8 0,.str [],.str [],.ro 2 [] true,.str [],.ro 6 [] true] 1 [(0,T 37)]),E (.app [.int .u8 0,.str [],.str [],.ro 2 [] true,.str [],.ro 6 [] true] 104 false (T 34) (T 38)),d 5 (m 39)] [12,11,10,5,2]) (s (O 41 [E (.bin .eql (T 17) (.c (.int .u8 3))),d 40 (m 41)]) (cc 40 (O 42 [m 5,f 0 2,f 2 43,l 1 44,ca 583 [45],E (.buildS [.int .u8 0,.str [],.str [],.ro 2 [] true,.str [],.ro 6 [] true] 1 [(0,T 46)]),E (.app [.int .u8 0,.str [],.str [],.ro 2 [] true,.str [],.ro 6 [] true] 104 false (T 42) (T 47)),d 5 (m 48)]) (s (O 50 [E (.bin .eql (T 17) (.c (.int .u8 4))),d 49 (m 50)]) (cc 49 (O 51 [m 5,f 0 2,f 0 52,l 1 53,ca 584 [54],ca 583 [55],E (.buildS [.int .u8 0,.str [],.str [],.ro 2 [] true,.str [],.ro 6 [] true] 1 [(0,T 56)]),E (.app [.int .u8 0,.str [],.str [],.ro 2 [] true,.str [],.ro 6 [] true] 104 false (T 51) (T 57)),d 5 (m 58)]) (s (O 60 [E (.bin .eql (T 17) (.c (.int .u8 5))),d 59 (m 60)]) (c 59 (s (O 61 [f 0 2,f 3 61,l 1 62,ln 1 63,i 0]) (bk 3 w547_L1 ⟨true,[12,11,10,5,2],[]⟩)))))))))))) ⟨true,[12,11,10,5,2],[]⟩))) ⟨true,[12,11,10,5,2],[]⟩) w547_c1)))
def w547_L0:WCode:=.loop ⟨true,[12,11,10,5,2],[]⟩ w547_B0
def w547:WFn:=⟨2,[.tmp 4],zd (s (O 4 [d 2 (bx 0),E (.mv (.c (.ro 6 [] true)))]) (s (R 5 [E (.mv (.c (.ro 6 [] true)))] ⟨true,[5,2,1],[(5,6)]⟩) (s (s (O 10 [m 1,ln 1 10,i 0]) (bk 0 w547_L0 ⟨true,[5],[]⟩)) w547_c0)))⟩
@[simp] theorem w547_E1:ZL w547_L1 w547_B1 ⟨true,[65,64,63,12,11,10,7,5,2],[]⟩:=ck_lp rfl
noncomputable abbrev w547_K1 (C:WProg) (s:WSt):Option AV:=CK C 0 (pureFin [.tmp 4]) [.sq w547_L1,.bk 3 ⟨true,[12,11,10,5,2],[]⟩,.bk 2 ⟨true,[12,11,10,5,2],[]⟩,.bk 1 ⟨true,[12,11,10,5,2],[]⟩,.sq w547_c1,.sq w547_L0,.bk 0 ⟨true,[5],[]⟩,.sq w547_c0] w547_B1 s
@[simp] theorem w547_E0:ZL w547_L0 w547_B0 ⟨true,[12,11,10,5,2],[]⟩:=ck_lp rfl
noncomputable abbrev w547_K0 (C:WProg) (s:WSt):Option AV:=CK C 0 (pureFin [.tmp 4]) [.sq w547_L0,.bk 0 ⟨true,[5],[]⟩,.sq w547_c0] w547_B0 s
def w140:WFn:=⟨1,[.tmp 2],zd (s (O 1 [bx 0,i 0]) (s (O 6 [h 6 1,ca 282 [6],d 5 (m 7),ex 0 5,ex 1 5,d 3 (m 8),d 4 (m 9)]) (r (O 10 [m 3,d 2 (m 10)]))))⟩
def w548_c0:WCode:=zd (r (O 7 [tt]))
def w548_B0:WCode:=zd (s (O 31 [lt 30 29]) (s (cc 31 (w .skip) (ee 0)) (s (B 1 (s (O 32 [m 30,d 8 (m 32)]) (s (V 33 [l 1 4,m 0,nk 34,f 5 35,l 1 36,m 8,ix 6 37 38,m 1,adi 40 1,E (.callv (T 33) [T 39,T 41]),nt 42] [] ⟨false,[],[]⟩) (c 43 (r (O 7 [ff])))))) (O 44 [adi 30 1,d 30 (m 44)]))))
def w548_L0:WCode:=.loop ⟨true,[30,29,4,1,0],[]⟩ w548_B0
def w548:WFn:=⟨5,[.tmp 7],zd (s (O 7 [ff]) (s (O 9 [l 1 2,adi 9 1,n (st 1 2 10)]) (s (s (O 11 [m 1,gti 11 6,m 12,z 13 (l 1 2),z 13 (gti 14 64),po 13 15,m 16,z 17 (m 0),z 17 (ca 549 [18]),z 17 (nt 19),po 17 20]) (c 21 (r (O 7 [ff])))) (s (O 22 [l 1 3,m 0,E (.callv (T 22) [T 23])]) (s (s (Q 25 [m 0,nk 25,f 5 26,l 1 27,ln 1 28,i 0] [30,29,4,1,0]) (bk 0 w548_L0 ⟨true,[],[]⟩)) w548_c0)))))⟩
@[simp] theorem w548_E0:ZL w548_L0 w548_B0 ⟨true,[30,29,4,1,0],[]⟩:=ck_lp rfl
def w549:WFn:=⟨1,[.tmp 2],zd (s (O 2 [ff]) (s (O 4 [m 0,nk 4,h 6 5,d 3 (E (.alloc [.int .u8 0,.str [],.str [],.ro 3 [] true,.str [],.ro 6 [] true])),n (st 6 3 6)]) (s (s (O 7 [m 0,nk 7,f 0 8,l 1 9]) (B 0 (s (B 5 (s (B 4 (s (B 3 (s (B 2 (s (B 1 (s (s (s (O 12 [E (.bin .eql (T 10) (.c (.int .u8 1))),d 11 (m 12)]) (c 11 (ee 1))) (s (s (O 14 [E (.bin .eql (T 10) (.c (.int .u8 5))),d 13 (m 14)]) (c 13 (ee 2))) (s (s (O 16 [E (.bin .eql (T 10) (.c (.int .u8 2))),d 15 (m 16)]) (c 15 (ee 3))) (s (s (O 18 [E (.bin .eql (T 10) (.c (.int .u8 3))),d 17 (m 18)]) (cc 17 (w .skip) (O 19 [E (.bin .eql (T 10) (.c (.int .u8 4))),d 17 (m 19)]))) (c 17 (ee 4)))))) (ee 5))) (s (s (Q 20 [m 0,nk 20,f 2 21,l 1 22,E (.bin .neq (T 23) (.c (.str []))),m 24,y 25 (m 0),y 25 (nk 26),y 25 (f 2 27),y 25 (l 1 28),y 25 (ca 581 [29]),y 25 (nt 30),pa 25 31,m 32,z 33 (m 0),z 33 (nk 34),z 33 (f 5 35),z 33 (l 1 36),z 33 (ln 1 37),z 33 (gti 38 16),po 33 39] [40,3,0]) (c 40 (r (O 2 [ff])))) (O 41 [f 2 3,n (E (.store 1 (T 41) (.c (.str [])))),f 5 3,n (E (.store 1 (T 42) (.c (.ro 6 [] true))))])))) (s (s (s (Q 43 [m 0,nk 43,f 1 44,l 1 45,ca 581 [46],nt 47,m 48,z 49 (m 0),z 49 (nk 50),z 49 (f 3 51),z 49 (l 1 52),z 49 (ca 585 [53]),z 49 (nt 54),po 49 55] [56,3]) (c 56 (r (O 2 [ff])))) (O 57 [f 1 3,n (E (.store 1 (T 57) (.c (.str [])))),f 3 3,n (E (.store 1 (T 58) (.c (.ro 3 [] true))))])) (ee 0)))) (s (s (s (O 59 [m 0,nk 59,f 4 60,l 1 61,ca 579 [62],nt 63]) (c 64 (r (O 2 [ff])))) (O 65 [f 4 3,n (E (.store 1 (T 65) (.c (.str []))))])) (ee 0)))) (ee 0))) (s (r (O 2 [ff])) (ee 0))))) (r (Q 66 [f 1 3,l 1 66,E (.bin .eql (T 67) (.c (.str []))),m 68,y 69 (f 2 3),y 69 (l 1 70),y 69 (E (.bin .eql (T 71) (.c (.str [])))),pa 69 72,m 73,y 74 (f 4 3),y 74 (l 1 75),y 74 (E (.bin .eql (T 76) (.c (.str [])))),pa 74 77,m 78,y 79 (f 3 3),y 79 (l 1 80),y 79 (ln 1 81),y 79 (eqi 82 0),pa 79 83,m 84,y 85 (f 5 3),y 85 (l 1 86),y 85 (ln 1 87),y 85 (eqi 88 0),pa 85 89,d 2 (m 90)] [2])))))⟩
def w550_c0:WCode:=zd (r (O 35 [m 5,d 4 (m 35)]))
def w550_B0:WCode:=zd (s (s (Q 14 [m 6,f 5 2,l 1 15,ln 1 16,lt 14 17,m 18,y 19 (m 5),y 19 (lei 20 64),pa 19 21] [22,6,5,2,1]) (cc 22 (w .skip) (ee 0))) (s (B 1 (O 25 [m 5,f 5 2,l 1 26,m 6,ix 6 27 28,h 6 29,m 1,sbi 31 1,ca 550 [30,32],ad 25 33,d 5 (m 34)])) (O 23 [m 6,adi 23 1,d 6 (m 24)])))
def w550_L0:WCode:=.loop ⟨true,[6,5,2,1],[]⟩ w550_B0
def w550:WFn:=⟨2,[.tmp 4],zd (s (O 4 [d 2 (bx 0),i 0]) (s (s (O 7 [m 1,lti 7 1,m 8,z 9 (h 6 2),z 9 (ca 586 [10]),z 9 (nt 11),po 9 12]) (c 13 (r (O 4 [i 1000])))) (s (O 5 [i 1]) (s (s (O 6 [i 0]) (bk 0 w550_L0 ⟨true,[5],[]⟩)) w550_c0))))⟩
@[simp] theorem w550_E0:ZL w550_L0 w550_B0 ⟨true,[6,5,2,1],[]⟩:=ck_lp rfl
noncomputable abbrev w550_K0 (C:WProg) (s:WSt):Option AV:=CK C 0 (pureFin [.tmp 4]) [.sq w550_L0,.bk 0 ⟨true,[5],[]⟩,.sq w550_c0] w550_B0 s
def w556_c0:WCode:=zd (r (O 2 [tt]))
def w556_B0:WCode:=zd (s (s (O 7 [m 3,m 0,ln 0 8,lt 7 9]) (cc 10 (w .skip) (ee 0))) (s (B 1 (s (O 13 [m 0,m 3,E (.idxstr (T 13) (T 14)),E (.bin .lss (T 15) (.c (.int .u8 32))),m 16,z 17 (m 0),z 17 (m 3),z 17 (E (.idxstr (T 18) (T 19))),z 17 (E (.bin .gtr (T 20) (.c (.int .u8 126)))),po 17 21]) (c 22 (r (O 2 [ff]))))) (O 11 [m 3,adi 11 1,d 3 (m 12)])))
def w556_L0:WCode:=.loop ⟨true,[3,0],[]⟩ w556_B0
def w556:WFn:=⟨1,[.tmp 2],zd (s (O 2 [ff]) (s (s (Q 4 [m 0,ln 0 4,gti 5 64] [6,0]) (c 6 (r (O 2 [ff])))) (s (s (O 3 [i 0]) (bk 0 w556_L0 ⟨true,[],[]⟩)) w556_c0)))⟩
@[simp] theorem w556_E0:ZL w556_L0 w556_B0 ⟨true,[3,0],[]⟩:=ck_lp rfl
noncomputable abbrev w556_K0 (C:WProg) (s:WSt):Option AV:=CK C 0 (pureFin [.tmp 2]) [.sq w556_L0,.bk 0 ⟨true,[],[]⟩,.sq w556_c0] w556_B0 s
def w557_c0:WCode:=zd (r (O 36 [m 0,ln 0 36,gei 37 1,m 38,y 39 (m 0),y 39 (ln 0 40),y 39 (lei 41 16),pa 39 42,d 2 (m 43)]))
def w557_B0:WCode:=zd (s (s (O 4 [m 3,m 0,ln 0 5,lt 4 6,m 7,y 8 (m 3),y 8 (lti 9 17),pa 8 10]) (cc 11 (w .skip) (ee 0))) (s (B 1 (s (Q 14 [m 0,m 3,E (.idxstr (T 14) (T 15)),E (.bin .lss (T 16) (.c (.int .u8 97))),m 17,z 18 (m 0),z 18 (m 3),z 18 (E (.idxstr (T 19) (T 20))),z 18 (E (.bin .gtr (T 21) (.c (.int .u8 122)))),po 18 22,m 23,y 24 (m 0),y 24 (m 3),y 24 (E (.idxstr (T 25) (T 26))),y 24 (E (.bin .lss (T 27) (.c (.int .u8 48)))),y 24 (m 28),z 29 (m 0),z 29 (m 3),z 29 (E (.idxstr (T 30) (T 31))),z 29 (E (.bin .gtr (T 32) (.c (.int .u8 57)))),y 24 (po 29 33),pa 24 34] [35,3,0]) (c 35 (r (O 2 [ff]))))) (O 12 [m 3,adi 12 1,d 3 (m 13)])))
def w557_L0:WCode:=.loop ⟨true,[3,0],[]⟩ w557_B0
def w557:WFn:=⟨1,[.tmp 2],zd (s (O 2 [ff]) (s (s (O 3 [i 0]) (bk 0 w557_L0 ⟨true,[0],[]⟩)) w557_c0))⟩
@[simp] theorem w557_E0:ZL w557_L0 w557_B0 ⟨true,[3,0],[]⟩:=ck_lp rfl
noncomputable abbrev w557_K0 (C:WProg) (s:WSt):Option AV:=CK C 0 (pureFin [.tmp 2]) [.sq w557_L0,.bk 0 ⟨true,[0],[]⟩,.sq w557_c0] w557_B0 s
def w558:WFn:=⟨1,[.tmp 2],zd (s (O 2 [E (.mv (.c (.str [])))]) (s (s (O 3 [m 0,E (.bin .lss (T 3) (.c (.int .u64 10)))]) (c 4 (r (O 5 [m 0,m 0,E (.bin .add (T 6) (.c (.int .u64 1))),E (.slice 0 (.c (.str [48,49,50,51,52,53,54,55,56,57])) (some (T 5)) (some (T 7)) none),d 2 (m 8)])))) (r (O 9 [m 0,E (.bin .quo (T 9) (.c (.int .u64 10))),ca 558 [10],m 0,E (.bin .rem (T 12) (.c (.int .u64 10))),ca 558 [13],ad 11 14,d 2 (m 15)]))))⟩
def w559_c0:WCode:=zd (r (O 50 [m 5,d 4 (m 50)]))
def w559_B0:WCode:=zd (s (s (O 8 [m 6,m 0,ln 1 9,lt 8 10]) (cc 11 (w .skip) (ee 0))) (s (B 1 (s (O 14 [m 0,m 6,ix 3 14 15,f 2 16,l 1 17,d 7 (m 18)]) (s (s (O 19 [m 0,m 6,ix 3 19 20,f 1 21,l 1 22]) (B 2 (s (O 25 [E (.bin .eql (T 23) (.c (.int .u8 1))),d 24 (m 25)]) (cc 24 (O 26 [f 2 3,l 1 26,d 7 (m 27)]) (s (O 29 [E (.bin .eql (T 23) (.c (.int .u8 2))),d 28 (m 29)]) (cc 28 (O 30 [f 0 3,l 1 30,ca 558 [31],d 7 (m 32)]) (s (O 34 [E (.bin .eql (T 23) (.c (.int .u8 3))),d 33 (m 34)]) (c 33 (Q 35 [f 3 3,l 1 35,ln 1 36,E (.cvt .u64 (T 37)),ca 558 [38],d 7 (m 39)] [7,6,5,3,0]))))))))) (O 40 [m 5,m 0,m 6,ix 3 41 42,f 0 43,l 1 44,m 7,E (.build [.str [],.str []] [(0,1,T 45),(1,1,T 46)]),E (.buildS [.str [],.str []] 1 [(0,T 47)]),E (.app [.str [],.str []] 32 false (T 40) (T 48)),d 5 (m 49)])))) (O 12 [m 6,adi 12 1,d 6 (m 13)])))
def w559_L0:WCode:=.loop ⟨true,[6,5,3,0],[]⟩ w559_B0
def w559:WFn:=⟨2,[.tmp 4],zd (s (Q 3 [bx 1,E (.mv (.c (.ro 2 [] true)))] [3,0]) (s (R 5 [E (.mv (.c (.ro 2 [] true)))] ⟨true,[5,3,0],[(5,2)]⟩) (s (s (O 6 [i 0]) (bk 0 w559_L0 ⟨true,[5],[]⟩)) w559_c0)))⟩
@[simp] theorem w559_E0:ZL w559_L0 w559_B0 ⟨true,[6,5,3,0],[]⟩:=ck_lp rfl
noncomputable abbrev w559_K0 (C:WProg) (s:WSt):Option AV:=CK C 0 (pureFin [.tmp 4]) [.sq w559_L0,.bk 0 ⟨true,[5],[]⟩,.sq w559_c0] w559_B0 s
def w520_c0:WCode:=zd (r (O 35 [m 5,d 4 (m 35)]))
def w520_B0:WCode:=zd (s (s (Q 14 [m 6,f 5 2,l 1 15,ln 1 16,lt 14 17,m 18,y 19 (m 5),y 19 (lei 20 64),pa 19 21] [22,6,5,2,1]) (cc 22 (w .skip) (ee 0))) (s (B 1 (O 25 [m 5,f 5 2,l 1 26,m 6,ix 6 27 28,h 6 29,m 1,sbi 31 1,ca 520 [30,32],ad 25 33,d 5 (m 34)])) (O 23 [m 6,adi 23 1,d 6 (m 24)])))
def w520_L0:WCode:=.loop ⟨true,[6,5,2,1],[]⟩ w520_B0
def w520:WFn:=⟨2,[.tmp 4],zd (s (O 4 [d 2 (bx 0),i 0]) (s (s (O 7 [m 1,lti 7 1,m 8,z 9 (h 6 2),z 9 (ca 563 [10]),z 9 (nt 11),po 9 12]) (c 13 (r (O 4 [i 1000])))) (s (O 5 [i 1]) (s (s (O 6 [i 0]) (bk 0 w520_L0 ⟨true,[5],[]⟩)) w520_c0))))⟩
@[simp] theorem w520_E0:ZL w520_L0 w520_B0 ⟨true,[6,5,2,1],[]⟩:=ck_lp rfl
noncomputable abbrev w520_K0 (C:WProg) (s:WSt):Option AV:=CK C 0 (pureFin [.tmp 4]) [.sq w520_L0,.bk 0 ⟨true,[5],[]⟩,.sq w520_c0] w520_B0 s
def w578_c0:WCode:=zd (r (O 6 [i (-1)]))
def w578_B0:WCode:=zd (s (O 11 [E (.next (T 10)),ex 0 11]) (s (cc 12 (w .skip) (ee 0)) (B 1 (s (O 13 [ex 1 11,ex 2 11,d 7 (m 13),d 8 (m 14)]) (s (O 15 [m 1,m 8,E (.callv (T 15) [T 16]),m 2,E (.eqv 5 [] false (T 17) (T 18))]) (c 19 (r (O 20 [m 7,d 6 (m 20)]))))))))
def w578_L0:WCode:=.loop ⟨true,[10,2,1],[]⟩ w578_B0
def w578:WFn:=⟨3,[.tmp 6],zd (s (O 6 [i 0]) (s (s (O 9 [m 0,E (.range (T 9))]) (bk 0 w578_L0 ⟨true,[],[]⟩)) w578_c0))⟩
@[simp] theorem w578_E0:ZL w578_L0 w578_B0 ⟨true,[10,2,1],[]⟩:=ck_lp rfl
noncomputable abbrev w578_K0 (C:WProg) (s:WSt):Option AV:=CK C 0 (pureFin [.tmp 6]) [.sq w578_L0,.bk 0 ⟨true,[],[]⟩,.sq w578_c0] w578_B0 s
def w579:WFn:=⟨1,[.tmp 2],zd (s (O 2 [ff]) (r (O 3 [m 0,E (.build [.int .u8 0,.str [],.str [],.ro 2 [] true,.str [],.ro 6 [] true] [(0,1,.c (.int .u8 2)),(4,1,T 3)]),ca 439 [4],eqi 5 0,d 2 (m 6)])))⟩
def w580:WFn:=⟨1,[.tmp 2],zd (s (O 2 [ff]) (r (O 3 [m 0,ca 581 [3],nt 4,d 2 (m 5)])))⟩
def w581:WFn:=⟨1,[.tmp 2],zd (s (O 2 [ff]) (r (O 3 [m 0,E (.build [.int .u8 0,.str [],.str [],.ro 2 [] true,.str [],.ro 6 [] true] [(0,1,.c (.int .u8 1)),(1,1,T 3)]),ca 439 [4],eqi 5 0,d 2 (m 6)])))⟩
def w582:WFn:=⟨4,[.cell 8 6 true],zd (s (O 4 [bx 0,bx 1,d 8 (E (.alloc [.int .u8 0,.str [],.str [],.ro 2 [] true,.str [],.ro 6 [] true]))]) (r (V 9 [f 1 5,l 1 9,m 2,h 4 4,f 3 5,l 1 13,ca 592 [12,14],m 3,ca 593 [16],E (.build [.int .u8 0,.str [],.str [],.ro 2 [] true,.str [],.ro 6 [] true] [(0,1,.c (.int .u8 1)),(1,1,T 10),(2,1,T 11),(3,1,T 15),(5,1,T 17)]),n (st 6 8 18)] [(1,6),(1,8)] ⟨false,[],[]⟩)))⟩
def w583:WFn:=⟨1,[.cell 2 6 true],zd (s (O 2 [E (.alloc [.int .u8 0,.str [],.str [],.ro 2 [] true,.str [],.ro 6 [] true])]) (r (O 3 [m 0,E (.build [.int .u8 0,.str [],.str [],.ro 2 [] true,.str [],.ro 6 [] true] [(0,1,.c (.int .u8 2)),(4,1,T 3)]),n (st 6 2 4)])))⟩
def w584_B0:WCode:=zd (B 1 (s (O 5 [m 4,sbi 5 1,d 4 (m 6)]) (s (O 7 [m 4,m 0,E (.bin .rem (T 8) (.c (.int .u64 10))),E (.idxstr (.c (.str [48,49,50,51,52,53,54,55,56,57])) (T 9)),E (.idxa 20 1 (T 3) (T 7)),n (st 1 11 10)]) (s (O 12 [m 0,E (.bin .quo (T 12) (.c (.int .u64 10))),d 0 (m 13)]) (s (O 14 [m 0,E (.bin .eql (T 14) (.c (.int .u64 0)))]) (c 15 (r (O 16 [m 4,E (.sliceA 20 (T 3) (some (T 16)) none),E (.cvb (T 17)),d 2 (m 18)]))))))))
def w584_L0:WCode:=.loop ⟨true,[4,3,0],[]⟩ w584_B0
def w584:WFn:=⟨1,[.tmp 2],zd (s (O 2 [E (.mv (.c (.str [])))]) (s (O 3 [E (.alloc (rep 20 (.int .u8 0)))]) (s (O 4 [i 20]) (bk 0 w584_L0 ⟨true,[2],[]⟩))))⟩
@[simp] theorem w584_E0:ZL w584_L0 w584_B0 ⟨true,[4,3,0],[]⟩:=ck_lp rfl
noncomputable abbrev w584_K0 (C:WProg) (s:WSt):Option AV:=CK C 0 (pureFin [.tmp 2]) [.sq w584_L0,.bk 0 ⟨true,[2],[]⟩] w584_B0 s
def w282:WFn:=⟨1,[.cell 2 1 false,.cell 3 1 false],zd (s (O 1 [bx 0,E (.alloc [.int .i64 0]),E (.alloc [.int .i64 0])]) (s (O 4 [E (.alloc [.nilf])]) (s (O 5 [E (.mkfn 433 [T 2,T 3,T 4]),n (st 1 4 5)]) (s (s (O 6 [l 1 4,E (.callv (T 6) [T 1,N 1]),nt 7]) (c 8 (r (O 0 [n (E (.store 1 (T 2) (N 0))),n (E (.store 1 (T 3) (N 0)))])))) (r (V 9 [l 1 2,l 1 3,n (st 1 2 9),n (st 1 3 10)] [(1,2)] ⟨false,[],[]⟩))))))⟩
def w585_c0:WCode:=zd (r (O 2 [tt]))
def w585_B0:WCode:=zd (s (O 11 [lt 10 9]) (s (cc 11 (w .skip) (ee 0)) (s (B 1 (s (O 12 [m 10,ix 3 8 10,h 3 13,d 4 (E (.alloc [.str [],.int .u8 0,.str []])),d 3 (m 12),n (st 3 4 14)]) (s (U 15 [f 0 4,l 1 15,ca 581 [16],nt 17,m 18,z 19 (f 1 4),z 19 (l 1 20),z 19 (E (.bin .gtr (T 21) (.c (.int .u8 3)))),po 19 22,m 23,z 24 (f 2 4),z 24 (l 1 25),z 24 (ca 579 [26]),z 24 (nt 27),po 24 28,m 29,z 30 (f 1 4),z 30 (l 1 31),z 30 (E (.bin .gtr (T 32) (.c (.int .u8 0)))),z 30 (m 33),y 34 (f 2 4),y 34 (l 1 35),y 34 (E (.bin .neq (T 36) (.c (.str [])))),z 30 (pa 34 37),po 30 38,m 39,z 40 (m 3),z 40 (gti 41 0),z 40 (m 42),y 43 (f 0 4),y 43 (l 1 44),y 43 (m 0),y 43 (m 3),y 43 (sbi 47 1),y 43 (ix 3 46 48),y 43 (f 0 49),y 43 (l 1 50),y 43 (le 45 51),z 40 (pa 43 52),po 40 53] [] [54,10,9,8,0]) (c 54 (r (O 2 [ff])))))) (O 55 [adi 10 1,d 10 (m 55)]))))
def w585_L0:WCode:=.loop ⟨true,[10,9,8,0],[]⟩ w585_B0
def w585:WFn:=⟨1,[.tmp 2],zd (s (O 2 [ff]) (s (s (O 5 [m 0,ln 1 5,gti 6 8]) (c 7 (r (O 2 [ff])))) (s (s (O 8 [m 0,ln 1 8,i 0]) (bk 0 w585_L0 ⟨true,[],[]⟩)) w585_c0)))⟩
@[simp] theorem w585_E0:ZL w585_L0 w585_B0 ⟨true,[10,9,8,0],[]⟩:=ck_lp rfl
noncomputable abbrev w585_K0 (C:WProg) (s:WSt):Option AV:=CK C 0 (pureFin [.tmp 2]) [.sq w585_L0,.bk 0 ⟨true,[],[]⟩,.sq w585_c0] w585_B0 s
def w586:WFn:=⟨1,[.tmp 2],zd (s (O 1 [bx 0,ff]) (s (s (O 3 [f 0 1,l 1 3]) (B 0 (s (O 6 [E (.bin .eql (T 4) (.c (.int .u8 1))),d 5 (m 6)]) (cc 5 (r (Q 7 [f 1 1,l 1 7,ca 557 [8],m 9,y 10 (f 2 1),y 10 (l 1 11),y 10 (E (.bin .eql (T 12) (.c (.str [])))),y 10 (m 13),z 14 (f 2 1),z 14 (l 1 15),z 14 (ca 557 [16]),y 10 (po 14 17),pa 10 18,m 19,y 20 (f 3 1),y 20 (l 1 21),y 20 (ca 594 [22]),pa 20 23,m 24,y 25 (f 4 1),y 25 (l 1 26),y 25 (E (.bin .eql (T 27) (.c (.str [])))),pa 25 28,m 29,y 30 (f 5 1),y 30 (l 1 31),y 30 (ln 1 32),y 30 (lei 33 16),pa 30 34,d 2 (m 35)] [2])) (s (O 37 [E (.bin .eql (T 4) (.c (.int .u8 2))),d 36 (m 37)]) (cc 36 (r (Q 38 [f 4 1,l 1 38,ca 556 [39],m 40,y 41 (f 1 1),y 41 (l 1 42),y 41 (E (.bin .eql (T 43) (.c (.str [])))),pa 41 44,m 45,y 46 (f 2 1),y 46 (l 1 47),y 46 (E (.bin .eql (T 48) (.c (.str [])))),pa 46 49,m 50,y 51 (f 3 1),y 51 (l 1 52),y 51 (ln 1 53),y 51 (f 5 1),y 51 (l 1 55),y 51 (ln 1 56),y 51 (ad 54 57),y 51 (eqi 58 0),pa 51 59,d 2 (m 60)] [2])) (s (s (O 62 [E (.bin .eql (T 4) (.c (.int .u8 3))),d 61 (m 62)]) (cc 61 (w .skip) (O 63 [E (.bin .eql (T 4) (.c (.int .u8 4))),d 61 (m 63)]))) (cc 61 (r (Q 64 [f 4 1,l 1 64,E (.bin .eql (T 65) (.c (.str []))),m 66,y 67 (f 1 1),y 67 (l 1 68),y 67 (E (.bin .eql (T 69) (.c (.str [])))),pa 67 70,m 71,y 72 (f 2 1),y 72 (l 1 73),y 72 (E (.bin .eql (T 74) (.c (.str [])))),pa 72 75,m 76,y 77 (f 3 1),y 77 (l 1 78),y 77 (ln 1 79),y 77 (f 5 1),y 77 (l 1 81),y 77 (ln 1 82),y 77 (ad 80 83),y 77 (eqi 84 0),pa 77 85,d 2 (m 86)] [2])) (s (O 88 [E (.bin .eql (T 4) (.c (.int .u8 5))),d 87 (m 88)]) (c 87 (r (Q 89 [f 1 1,l 1 89,ca 557 [90],m 91,y 92 (f 3 1),y 92 (l 1 93),y 92 (ca 594 [94]),pa 92 95,m 96,y 97 (f 2 1),y 97 (l 1 98),y 97 (E (.bin .eql (T 99) (.c (.str [])))),pa 97 100,m 101,y 102 (f 4 1),y 102 (l 1 103),y 102 (E (.bin .eql (T 104) (.c (.str [])))),pa 102 105,m 106,y 107 (f 5 1),y 107 (l 1 108),y 107 (ln 1 109),y 107 (eqi 110 0),pa 107 111,d 2 (m 112)] [2])))))))))))) (r (O 2 [ff]))))⟩
def w563_c0:WCode:=zd (r (O 2 [tt]))
def w563_c1:WCode:=zd (O 120 [m 5,adi 120 1,d 5 (m 121)])
def w563_B1:WCode:=zd (s (s (O 122 [m 6,m 5,lt 122 123]) (cc 124 (w .skip) (ee 6))) (s (B 7 (s (U 127 [f 5 1,l 1 127,m 5,ix 6 128 129,f 2 130,l 1 131,E (.bin .neq (T 132) (.c (.str []))),m 133,y 134 (f 5 1),y 134 (l 1 135),y 134 (m 5),y 134 (ix 6 136 137),y 134 (f 2 138),y 134 (l 1 139),y 134 (f 5 1),y 134 (l 1 141),y 134 (m 6),y 134 (ix 6 142 143),y 134 (f 2 144),y 134 (l 1 145),y 134 (eq 140 146),pa 134 147] [] [148,6,5,1]) (c 148 (r (O 2 [ff]))))) (O 125 [m 6,adi 125 1,d 6 (m 126)])))
def w563_L1:WCode:=.loop ⟨true,[6,5,1],[]⟩ w563_B1
def w563_B0:WCode:=zd (s (s (O 115 [m 5,f 5 1,l 1 116,ln 1 117,lt 115 118]) (cc 119 (w .skip) (ee 4))) (s (bk 5 (s (O 6 [i 0]) (bk 6 w563_L1 ⟨true,[5,1],[]⟩)) ⟨true,[5,1],[]⟩) w563_c1))
def w563_L0:WCode:=.loop ⟨true,[5,1],[]⟩ w563_B0
def w563_c2:WCode:=zd (s (s (O 5 [i 0]) (bk 4 w563_L0 ⟨true,[],[]⟩)) w563_c0)
def w563_c3:WCode:=zd (O 77 [m 3,adi 77 1,d 3 (m 78)])
def w563_B3:WCode:=zd (s (s (O 97 [m 4,m 3,lt 97 98]) (cc 99 (w .skip) (ee 2))) (s (B 3 (s (U 102 [f 3 1,l 1 102,m 4,ix 2 103 104,f 0 105,l 1 106,f 3 1,l 1 108,m 3,ix 2 109 110,f 0 111,l 1 112,ge 107 113] [] [114,4,3,1]) (c 114 (r (O 2 [ff]))))) (O 100 [m 4,adi 100 1,d 4 (m 101)])))
def w563_L3:WCode:=.loop ⟨true,[4,3,1],[]⟩ w563_B3
def w563_B2:WCode:=zd (s (s (Q 72 [m 3,f 3 1,l 1 73,ln 1 74,lt 72 75] [76,3,1]) (cc 76 (w .skip) (ee 0))) (s (bk 1 (s (s (O 79 [f 3 1,l 1 79,m 3,ix 2 80 81,f 0 82,l 1 83,ca 557 [84],nt 85,m 86,z 87 (f 3 1),z 87 (l 1 88),z 87 (m 3),z 87 (ix 2 89 90),z 87 (f 1 91),z 87 (l 1 92),z 87 (ca 556 [93]),z 87 (nt 94),po 87 95]) (c 96 (r (O 2 [ff])))) (s (O 4 [i 0]) (bk 2 w563_L3 ⟨true,[3,1],[]⟩))) ⟨true,[3,1],[]⟩) w563_c3))
def w563_L2:WCode:=.loop ⟨true,[3,1],[]⟩ w563_B2
def w563:WFn:=⟨1,[.tmp 2],zd (s (O 1 [bx 0,ff]) (s (s (O 7 [f 0 1,l 1 7,E (.bin .eql (T 8) (.c (.int .u8 2)))]) (c 9 (r (Q 10 [f 4 1,l 1 10,ca 556 [11],m 12,y 13 (f 1 1),y 13 (l 1 14),y 13 (E (.bin .eql (T 15) (.c (.str [])))),pa 13 16,m 17,y 18 (f 2 1),y 18 (l 1 19),y 18 (E (.bin .eql (T 20) (.c (.str [])))),pa 18 21,m 22,y 23 (f 3 1),y 23 (l 1 24),y 23 (ln 1 25),y 23 (eqi 26 0),pa 23 27,m 28,y 29 (f 5 1),y 29 (l 1 30),y 29 (ln 1 31),y 29 (eqi 32 0),pa 29 33,d 2 (m 34)] [2])))) (s (s (Q 35 [f 0 1,l 1 35,E (.bin .neq (T 36) (.c (.int .u8 1))),m 37,z 38 (f 1 1),z 38 (l 1 39),z 38 (ca 557 [40]),z 38 (nt 41),po 38 42,m 43,z 44 (f 2 1),z 44 (l 1 45),z 44 (E (.bin .neq (T 46) (.c (.str [])))),z 44 (m 47),y 48 (f 2 1),y 48 (l 1 49),y 48 (ca 557 [50]),y 48 (nt 51),z 44 (pa 48 52),po 44 53,m 54,z 55 (f 4 1),z 55 (l 1 56),z 55 (E (.bin .neq (T 57) (.c (.str [])))),po 55 58,m 59,z 60 (f 3 1),z 60 (l 1 61),z 60 (ln 1 62),z 60 (gti 63 8),po 60 64,m 65,z 66 (f 5 1),z 66 (l 1 67),z 66 (ln 1 68),z 66 (gti 69 16),po 66 70] [71,1]) (c 71 (r (O 2 [ff])))) (s (s (O 3 [i 0]) (bk 0 w563_L2 ⟨true,[1],[]⟩)) w563_c2))))⟩
@[simp] theorem w563_E1:ZL w563_L1 w563_B1 ⟨true,[6,5,1],[]⟩:=ck_lp rfl
noncomputable abbrev w563_K1 (C:WProg) (s:WSt):Option AV:=CK C 0 (pureFin [.tmp 2]) [.sq w563_L1,.bk 6 ⟨true,[5,1],[]⟩,.bk 5 ⟨true,[5,1],[]⟩,.sq w563_c1,.sq w563_L0,.bk 4 ⟨true,[],[]⟩,.sq w563_c0] w563_B1 s
@[simp] theorem w563_E0:ZL w563_L0 w563_B0 ⟨true,[5,1],[]⟩:=ck_lp rfl
noncomputable abbrev w563_K0 (C:WProg) (s:WSt):Option AV:=CK C 0 (pureFin [.tmp 2]) [.sq w563_L0,.bk 4 ⟨true,[],[]⟩,.sq w563_c0] w563_B0 s
@[simp] theorem w563_E3:ZL w563_L3 w563_B3 ⟨true,[4,3,1],[]⟩:=ck_lp rfl
noncomputable abbrev w563_K3 (C:WProg) (s:WSt):Option AV:=CK C 0 (pureFin [.tmp 2]) [.sq w563_L3,.bk 2 ⟨true,[3,1],[]⟩,.bk 1 ⟨true,[3,1],[]⟩,.sq w563_c3,.sq w563_L2,.bk 0 ⟨true,[1],[]⟩,.sq w563_c2] w563_B3 s
@[simp] theorem w563_E2:ZL w563_L2 w563_B2 ⟨true,[3,1],[]⟩:=ck_lp rfl
noncomputable abbrev w563_K2 (C:WProg) (s:WSt):Option AV:=CK C 0 (pureFin [.tmp 2]) [.sq w563_L2,.bk 0 ⟨true,[1],[]⟩,.sq w563_c2] w563_B2 s
def w439:WFn:=⟨1,[.tmp 2],zd (s (O 1 [bx 0,i 0]) (s (s (O 3 [h 6 1,ca 140 [3],eqi 4 0]) (c 5 (r (O 2 [i 14])))) (r (O 2 [i 0]))))⟩
def w592_c0:WCode:=zd (r (O 44 [m 5,d 4 (m 44)]))
def w592_B0:WCode:=zd (s (O 14 [lt 13 12]) (s (cc 14 (w .skip) (ee 0)) (s (B 1 (s (O 15 [m 13,ix 3 11 13,h 3 16,d 7 (E (.alloc [.str [],.int .u8 0,.str []])),d 6 (m 15),n (st 3 7 17)]) (U 18 [m 5,m 6,f 0 7,l 1 20,f 2 7,l 1 22,f 0 2,f 2 24,l 1 25,f 0 2,f 0 27,l 1 28,ca 584 [29],f 0 2,f 3 31,l 1 32,ln 1 33,E (.cvt .u64 (T 34)),ca 584 [35],E (.build [.str [],.str [],.str [],.str []] [(0,1,T 23),(1,1,T 26),(2,1,T 30),(3,1,T 36)]),f 1 7,l 1 38,E (.idxv 4 1 false (T 37) (T 39)),E (.build [.str [],.str []] [(0,1,T 21),(1,1,T 40)]),ix 2 18 19,n (st 2 42 41)] [(3,12),(5,12),(8,12),(12,15),(12,16),(3,18),(5,18),(8,18),(12,21),(18,21)] [13,12,11,5,2]))) (O 43 [adi 13 1,d 13 (m 43)]))))
def w592_L0:WCode:=.loop ⟨true,[13,12,11,5,2],[]⟩ w592_B0
def w592:WFn:=⟨2,[.tmp 4],zd (s (O 4 [d 2 (bx 0),E (.mv (.c (.ro 2 [] true)))]) (s (O 8 [m 1,ln 1 8,E (.mksl [.str [],.str []] 32 (T 9) (T 9)),d 5 (m 10)]) (s (s (O 11 [m 1,ln 1 11,i 0]) (bk 0 w592_L0 ⟨true,[5],[]⟩)) w592_c0)))⟩
@[simp] theorem w592_E0:ZL w592_L0 w592_B0 ⟨true,[13,12,11,5,2],[]⟩:=ck_lp rfl
noncomputable abbrev w592_K0 (C:WProg) (s:WSt):Option AV:=CK C 0 (pureFin [.tmp 4]) [.sq w592_L0,.bk 0 ⟨true,[5],[]⟩,.sq w592_c0] w592_B0 s
def w593:WFn:=⟨1,[.tmp 2],zd (s (O 2 [E (.mv (.c (.ro 6 [] true)))]) (r (O 3 [m 0,m 0,ln 1 4,m 0,ln 1 6,E (.slice 6 (T 3) none (some (T 5)) (some (T 7))),d 2 (m 8)])))⟩
def w433_c0:WCode:=zd (r (O 7 [tt]))
def w433_B0:WCode:=zd (s (O 31 [lt 30 29]) (s (cc 31 (w .skip) (ee 0)) (s (B 1 (s (O 32 [m 30,d 8 (m 32)]) (s (V 33 [l 1 4,m 0,nk 34,f 5 35,l 1 36,m 8,ix 6 37 38,m 1,adi 40 1,E (.callv (T 33) [T 39,T 41]),nt 42] [] ⟨false,[],[]⟩) (c 43 (r (O 7 [ff])))))) (O 44 [adi 30 1,d 30 (m 44)]))))
def w433_L0:WCode:=.loop ⟨true,[30,29,4,1,0],[]⟩ w433_B0
def w433:WFn:=⟨5,[.tmp 7],zd (s (O 7 [ff]) (s (O 9 [l 1 2,adi 9 1,n (st 1 2 10)]) (s (O 11 [l 1 3,m 1,E (.mx (T 11) (T 12)),n (st 1 3 13)]) (s (s (O 14 [m 1,gti 14 6,m 15,z 16 (l 1 2),z 16 (gti 17 64),po 16 18,m 19,z 20 (m 0),z 20 (ca 434 [21]),z 20 (nt 22),po 20 23]) (c 24 (r (O 7 [ff])))) (s (s (Q 25 [m 0,nk 25,f 5 26,l 1 27,ln 1 28,i 0] [30,29,4,1,0]) (bk 0 w433_L0 ⟨true,[],[]⟩)) w433_c0)))))⟩
@[simp] theorem w433_E0:ZL w433_L0 w433_B0 ⟨true,[30,29,4,1,0],[]⟩:=ck_lp rfl
def w434_c0:WCode:=zd (r (O 2 [tt]))
def w434_B0:WCode:=zd (s (Q 143 [lt 142 141] [143,142,141,140,0]) (s (cc 143 (w .skip) (ee 2)) (s (B 3 (s (O 144 [m 142,ix 6 140 142,h 6 145,d 6 (E (.alloc [.int .u8 0,.str [],.str [],.ro 2 [] true,.str [],.ro 6 [] true])),d 5 (m 144),n (st 6 6 146)]) (s (O 147 [f 2 6,l 1 147,E (.bin .neq (T 148) (.c (.str []))),m 149,y 150 (m 0),y 150 (nk 151),y 150 (f 5 152),y 150 (l 1 153),y 150 (m 5),y 150 (E (.slice 6 (T 154) none (some (T 155)) none)),y 150 (E (.mkfn 519 [T 6])),y 150 (ca 518 [156,157]),pa 150 158]) (c 159 (r (O 2 [ff])))))) (O 160 [adi 142 1,d 142 (m 160)]))))
def w434_L0:WCode:=.loop ⟨true,[142,141,140,0],[]⟩ w434_B0
def w434_c1:WCode:=zd (s (s (O 137 [m 0,nk 137,f 5 138,l 1 139,ln 1 140,i 0]) (bk 2 w434_L0 ⟨true,[],[]⟩)) w434_c0)
def w434_B1:WCode:=zd (s (O 104 [lt 103 102]) (s (cc 104 (w .skip) (ee 0)) (s (B 1 (s (O 105 [m 103,ix 2 101 103,h 2 106,d 4 (E (.alloc [.str [],.str []])),d 3 (m 105),n (st 2 4 107)]) (s (U 108 [f 0 4,l 1 108,ca 517 [109],nt 110,m 111,z 112 (f 1 4),z 112 (l 1 113),z 112 (ca 516 [114]),z 112 (nt 115),po 112 116,m 117,z 118 (m 3),z 118 (gti 119 0),z 118 (m 120),y 121 (f 0 4),y 121 (l 1 122),y 121 (m 0),y 121 (nk 124),y 121 (f 3 125),y 121 (l 1 126),y 121 (m 3),y 121 (sbi 128 1),y 121 (ix 2 127 129),y 121 (f 0 130),y 121 (l 1 131),y 121 (le 123 132),z 118 (pa 121 133),po 118 134] [] [135,103,102,101,0]) (c 135 (r (O 2 [ff])))))) (O 136 [adi 103 1,d 103 (m 136)]))))
def w434_L1:WCode:=.loop ⟨true,[103,102,101,0],[]⟩ w434_B1
def w434:WFn:=⟨1,[.tmp 2],zd (s (O 2 [ff]) (s (s (O 7 [m 0,nk 7,f 0 8,l 1 9,E (.bin .eql (T 10) (.c (.int .u8 2)))]) (c 11 (r (Q 12 [m 0,nk 12,f 4 13,l 1 14,ca 516 [15],m 16,y 17 (m 0),y 17 (nk 18),y 17 (f 1 19),y 17 (l 1 20),y 17 (E (.bin .eql (T 21) (.c (.str [])))),pa 17 22,m 23,y 24 (m 0),y 24 (nk 25),y 24 (f 2 26),y 24 (l 1 27),y 24 (E (.bin .eql (T 28) (.c (.str [])))),pa 24 29,m 30,y 31 (m 0),y 31 (nk 32),y 31 (f 3 33),y 31 (l 1 34),y 31 (ln 1 35),y 31 (eqi 36 0),pa 31 37,m 38,y 39 (m 0),y 39 (nk 40),y 39 (f 5 41),y 39 (l 1 42),y 39 (ln 1 43),y 39 (eqi 44 0),pa 39 45,d 2 (m 46)] [2])))) (s (s (Q 47 [m 0,nk 47,f 0 48,l 1 49,E (.bin .neq (T 50) (.c (.int .u8 1))),m 51,z 52 (m 0),z 52 (nk 53),z 52 (f 1 54),z 52 (l 1 55),z 52 (ca 517 [56]),z 52 (nt 57),po 52 58,m 59,z 60 (m 0),z 60 (nk 61),z 60 (f 2 62),z 60 (l 1 63),z 60 (E (.bin .neq (T 64) (.c (.str [])))),z 60 (m 65),y 66 (m 0),y 66 (nk 67),y 66 (f 2 68),y 66 (l 1 69),y 66 (ca 517 [70]),y 66 (nt 71),z 60 (pa 66 72),po 60 73,m 74,z 75 (m 0),z 75 (nk 76),z 75 (f 4 77),z 75 (l 1 78),z 75 (E (.bin .neq (T 79) (.c (.str [])))),po 75 80,m 81,z 82 (m 0),z 82 (nk 83),z 82 (f 3 84),z 82 (l 1 85),z 82 (ln 1 86),z 82 (gti 87 8),po 82 88,m 89,z 90 (m 0),z 90 (nk 91),z 90 (f 5 92),z 90 (l 1 93),z 90 (ln 1 94),z 90 (gti 95 16),po 90 96] [97,0]) (c 97 (r (O 2 [ff])))) (s (s (O 98 [m 0,nk 98,f 3 99,l 1 100,ln 1 101,i 0]) (bk 0 w434_L1 ⟨true,[0],[]⟩)) w434_c1))))⟩
@[simp] theorem w434_E0:ZL w434_L0 w434_B0 ⟨true,[142,141,140,0],[]⟩:=ck_lp rfl
noncomputable abbrev w434_K0 (C:WProg) (s:WSt):Option AV:=CK C 0 (pureFin [.tmp 2]) [.sq w434_L0,.bk 2 ⟨true,[],[]⟩,.sq w434_c0] w434_B0 s
@[simp] theorem w434_E1:ZL w434_L1 w434_B1 ⟨true,[103,102,101,0],[]⟩:=ck_lp rfl
noncomputable abbrev w434_K1 (C:WProg) (s:WSt):Option AV:=CK C 0 (pureFin [.tmp 2]) [.sq w434_L1,.bk 0 ⟨true,[0],[]⟩,.sq w434_c1] w434_B1 s
def w594_c0:WCode:=zd (r (O 2 [tt]))
def w594_B0:WCode:=zd (s (s (O 8 [m 3,m 0,ln 1 9,lt 8 10]) (cc 11 (w .skip) (ee 0))) (s (B 1 (s (O 14 [m 0,m 3,ix 3 14 15,h 3 16,d 4 (E (.alloc [.str [],.int .u8 0,.str []])),n (st 3 4 17)]) (s (U 18 [f 0 4,l 1 18,ca 557 [19],nt 20,m 21,z 22 (f 1 4),z 22 (l 1 23),z 22 (E (.bin .gtr (T 24) (.c (.int .u8 3)))),po 22 25,m 26,z 27 (f 2 4),z 27 (l 1 28),z 27 (ca 556 [29]),z 27 (nt 30),po 27 31,m 32,z 33 (f 1 4),z 33 (l 1 34),z 33 (E (.bin .neq (T 35) (.c (.int .u8 0)))),z 33 (m 36),y 37 (f 2 4),y 37 (l 1 38),y 37 (E (.bin .neq (T 39) (.c (.str [])))),z 33 (pa 37 40),po 33 41,m 42,z 43 (m 3),z 43 (gti 44 0),z 43 (m 45),y 46 (m 0),y 46 (m 3),y 46 (sbi 48 1),y 46 (ix 3 47 49),y 46 (f 0 50),y 46 (l 1 51),y 46 (f 0 4),y 46 (l 1 53),y 46 (ge 52 54),z 43 (pa 46 55),po 43 56] [] [57,3,0]) (c 57 (r (O 2 [ff])))))) (O 12 [m 3,adi 12 1,d 3 (m 13)])))
def w594_L0:WCode:=.loop ⟨true,[3,0],[]⟩ w594_B0
def w594:WFn:=⟨1,[.tmp 2],zd (s (O 2 [ff]) (s (s (O 5 [m 0,ln 1 5,gti 6 8]) (c 7 (r (O 2 [ff])))) (s (s (O 3 [i 0]) (bk 0 w594_L0 ⟨true,[],[]⟩)) w594_c0)))⟩
@[simp] theorem w594_E0:ZL w594_L0 w594_B0 ⟨true,[3,0],[]⟩:=ck_lp rfl
noncomputable abbrev w594_K0 (C:WProg) (s:WSt):Option AV:=CK C 0 (pureFin [.tmp 2]) [.sq w594_L0,.bk 0 ⟨true,[],[]⟩,.sq w594_c0] w594_B0 s
def w516:WFn:=⟨1,[.tmp 2],zd (s (O 2 [ff]) (r (O 3 [m 0,ln 0 3,lei 4 64,m 5,y 6 (m 0),y 6 (E (.call 543 [T 7,.c (.fn 560 [])])),y 6 (lti 8 0),pa 6 9,d 2 (m 10)])))⟩
def w517_c0:WCode:=zd (r (O 2 [tt]))
def w517_B0:WCode:=zd (s (O 15 [lt 14 13]) (s (cc 15 (w .skip) (ee 0)) (s (B 1 (s (O 16 [m 14,d 3 (m 16)]) (s (O 17 [m 0,m 3,E (.idxstr (T 17) (T 18)),ca 561 [19],nt 20]) (c 21 (r (O 2 [ff])))))) (O 22 [adi 14 1,d 14 (m 22)]))))
def w517_L0:WCode:=.loop ⟨true,[14,13,0],[]⟩ w517_B0
def w517:WFn:=⟨1,[.tmp 2],zd (s (O 2 [ff]) (s (s (Q 4 [m 0,ln 0 4,lti 5 1,m 6,z 7 (m 0),z 7 (ln 0 8),z 7 (gti 9 16),po 7 10] [11,0]) (c 11 (r (O 2 [ff])))) (s (s (O 12 [m 0,ln 0 12,i 0]) (bk 0 w517_L0 ⟨true,[],[]⟩)) w517_c0)))⟩
@[simp] theorem w517_E0:ZL w517_L0 w517_B0 ⟨true,[14,13,0],[]⟩:=ck_lp rfl
noncomputable abbrev w517_K0 (C:WProg) (s:WSt):Option AV:=CK C 0 (pureFin [.tmp 2]) [.sq w517_L0,.bk 0 ⟨true,[],[]⟩,.sq w517_c0] w517_B0 s
def w518:WFn:=⟨2,[.tmp 4],zd (s (O 4 [ff]) (r (O 5 [m 0,m 1,ca 562 [5,6],gei 7 0,d 4 (m 8)])))⟩
def w519:WFn:=⟨2,[.tmp 3],zd (s (O 2 [bx 0,ff]) (r (O 4 [f 2 2,l 1 4,f 2 1,l 1 6,eq 5 7,d 3 (m 8)])))⟩
def w560:WFn:=⟨1,[.tmp 2],zd (s (O 2 [ff]) (r (O 3 [m 0,E (.bin .lss (T 3) (.c (.int .i32 32))),m 4,z 5 (m 0),z 5 (E (.bin .gtr (T 6) (.c (.int .i32 126)))),po 5 7,d 2 (m 8)])))⟩
def w561:WFn:=⟨1,[.tmp 2],zd (s (O 2 [ff]) (r (O 3 [m 0,E (.bin .geq (T 3) (.c (.int .u8 97))),m 4,y 5 (m 0),y 5 (E (.bin .leq (T 6) (.c (.int .u8 122)))),pa 5 7,m 8,z 9 (m 0),z 9 (E (.bin .geq (T 10) (.c (.int .u8 48)))),z 9 (m 11),y 12 (m 0),y 12 (E (.bin .leq (T 13) (.c (.int .u8 57)))),z 9 (pa 12 14),po 9 15,d 2 (m 16)])))⟩
def w562_c0:WCode:=zd (r (O 4 [i (-1)]))
def w562_B0:WCode:=zd (s (O 9 [lt 8 7]) (s (cc 9 (w .skip) (ee 0)) (s (B 1 (s (O 10 [m 8,d 5 (m 10)]) (s (O 11 [m 1,m 0,m 5,ix 6 12 13,h 6 14,E (.callv (T 11) [T 15])]) (c 16 (r (O 17 [m 5,d 4 (m 17)])))))) (O 18 [adi 8 1,d 8 (m 18)]))))
def w562_L0:WCode:=.loop ⟨true,[8,7,1,0],[]⟩ w562_B0
def w562:WFn:=⟨2,[.tmp 4],zd (s (O 4 [i 0]) (s (s (O 6 [m 0,ln 1 6,i 0]) (bk 0 w562_L0 ⟨true,[],[]⟩)) w562_c0))⟩
@[simp] theorem w562_E0:ZL w562_L0 w562_B0 ⟨true,[8,7,1,0],[]⟩:=ck_lp rfl
noncomputable abbrev w562_K0 (C:WProg) (s:WSt):Option AV:=CK C 0 (pureFin [.tmp 4]) [.sq w562_L0,.bk 0 ⟨true,[],[]⟩,.sq w562_c0] w562_B0 s
def tree:WTree:=(.node (.node (.node (.node (.node (.node (.node (.node .leaf 0 w0 .leaf) 85 w85 .leaf) 107 w107 (.node .leaf 108 w108 .leaf)) 109 w109 (.node (.node .leaf 110 w110 .leaf) 111 w111 (.node .leaf 112 w112 .leaf))) 113 w113 (.node (.node (.node .leaf 114 w114 .leaf) 115 w115 (.node .leaf 116 w116 .leaf)) 117 w117 (.node (.node .leaf 118 w118 .leaf) 119 w119 (.node .leaf 126 w126 .leaf)))) 130 w130 (.node (.node (.node (.node (.node .leaf 140 w140 .leaf) 172 w172 .leaf) 216 w216 (.node .leaf 217 w217 .leaf)) 218 w218 (.node (.node .leaf 219 w219 .leaf) 220 w220 (.node .leaf 221 w221 .leaf))) 222 w222 (.node (.node (.node .leaf 223 w223 .leaf) 224 w224 (.node .leaf 225 w225 .leaf)) 226 w226 (.node (.node .leaf 227 w227 .leaf) 228 w228 (.node .leaf 229 w229 .leaf))))) 230 w230 (.node (.node (.node (.node (.node (.node .leaf 231 w231 .leaf) 232 w232 .leaf) 233 w233 (.node .leaf 234 w234 .leaf)) 235 w235 (.node (.node .leaf 236 w236 .leaf) 237 w237 (.node .leaf 238 w238 .leaf))) 239 w239 (.node (.node (.node .leaf 240 w240 .leaf) 241 w241 (.node .leaf 242 w242 .leaf)) 243 w243 (.node (.node .leaf 244 w244 .leaf) 245 w245 (.node .leaf 270 w270 .leaf)))) 271 w271 (.node (.node (.node (.node (.node .leaf 282 w282 .leaf) 340 w340 .leaf) 398 w398 (.node .leaf 399 w399 .leaf)) 400 w400 (.node (.node .leaf 401 w401 .leaf) 402 w402 (.node .leaf 403 w403 .leaf))) 404 w404 (.node (.node (.node .leaf 405 w405 .leaf) 406 w406 (.node .leaf 407 w407 .leaf)) 408 w408 (.node (.node .leaf 409 w409 .leaf) 410 w410 (.node .leaf 422 w422 .leaf)))))) 423 w423 (.node (.node (.node (.node (.node (.node (.node .leaf 424 w424 .leaf) 425 w425 .leaf) 433 w433 (.node .leaf 434 w434 .leaf)) 439 w439 (.node (.node .leaf 441 w441 .leaf) 442 w442 (.node .leaf 459 w459 .leaf))) 460 w460 (.node (.node (.node .leaf 494 w494 .leaf) 495 w495 (.node .leaf 496 w496 .leaf)) 497 w497 (.node (.node .leaf 498 w498 .leaf) 499 w499 (.node .leaf 500 w500 .leaf)))) 501 w501 (.node (.node (.node (.node (.node .leaf 502 w502 .leaf) 503 w503 .leaf) 504 w504 (.node .leaf 505 w505 .leaf)) 510 w510 (.node (.node .leaf 511 w511 .leaf) 512 w512 (.node .leaf 513 w513 .leaf))) 516 w516 (.node (.node (.node .leaf 517 w517 .leaf) 518 w518 (.node .leaf 519 w519 .leaf)) 520 w520 (.node (.node .leaf 543 w543 .leaf) 544 w544 (.node .leaf 545 w545 .leaf))))) 546 w546 (.node (.node (.node (.node (.node (.node .leaf 547 w547 .leaf) 548 w548 .leaf) 549 w549 (.node .leaf 550 w550 .leaf)) 556 w556 (.node (.node .leaf 557 w557 .leaf) 558 w558 (.node .leaf 559 w559 .leaf))) 560 w560 (.node (.node (.node .leaf 561 w561 .leaf) 562 w562 (.node .leaf 563 w563 .leaf)) 578 w578 (.node (.node .leaf 579 w579 .leaf) 580 w580 (.node .leaf 581 w581 .leaf)))) 582 w582 (.node (.node (.node (.node .leaf 583 w583 .leaf) 584 w584 (.node .leaf 585 w585 .leaf)) 586 w586 (.node (.node .leaf 592 w592 .leaf) 593 w593 (.node .leaf 594 w594 .leaf))) 2001 w226 (.node (.node (.node .leaf 2043 w2043 .leaf) 3003 w3003 (.node .leaf 3004 w226 .leaf)) 3107 w3107 (.node (.node .leaf 4108 w4108 .leaf) 4109 w4109 (.node .leaf 4110 w4110 .leaf)))))))
def ids:List (Nat × Nat):=[(0,2),(85,3),(107,5),(108,6),(109,7),(110,8),(111,9),(112,10),(113,11),(114,12),(115,13),(116,14),(117,15),(118,16),(119,17),(126,78),(130,27),(140,172),(172,57),(216,33),(217,34),(218,35),(219,36),(220,37),(221,38),(222,39),(223,40),(224,41),(225,42),(226,43),(227,44),(228,45),(229,46),(230,47),(231,48),(232,49),(233,50),(234,51),(235,52),(236,53),(237,54),(238,55),(239,56),(240,58),(241,59),(242,60),(243,61),(244,62),(245,63),(270,79),(271,80),(282,189),(340,77),(398,92),(399,93),(400,94),(401,95),(402,96),(403,97),(404,98),(405,99),(406,100),(407,101),(408,102),(409,103),(410,104),(422,124),(423,125),(424,126),(425,127),(433,196),(434,197),(439,193),(441,162),(442,163),(459,122),(460,123),(494,135),(495,136),(496,137),(497,138),(498,139),(499,140),(500,141),(501,142),(502,143),(503,144),(504,145),(505,146),(510,158),(511,159),(512,160),(513,161),(516,199),(517,200),(518,201),(519,202),(520,181),(543,167),(544,168),(545,169),(546,170),(547,171),(548,173),(549,174),(550,175),(556,177),(557,178),(558,179),(559,180),(560,203),(561,204),(562,205),(563,192),(578,182),(579,183),(580,184),(581,185),(582,186),(583,187),(584,188),(585,190),(586,191),(592,194),(593,195),(594,198),(2001,43),(3004,43),(3003,33),(2043,33),(3107,5),(4108,6),(4109,7),(4110,8),(800058,999999999)]
def alts:List (Nat × Nat × Nat):=[(113,43,2001),(3003,43,3004),(2043,43,3004),(4110,33,3003),(4108,33,2043),(4109,33,2043),(85,5,3107),(85,6,4108),(85,7,4109),(85,8,4110),(85,999999999,800058)]
end P
end
section
namespace Go.Pw
open Go Go.Pav
@[simp] def eI (x:Int):List AV:=[.int .i64 x]
@[simp] def eU8 (x:Int):List AV:=[.int .u8 x]
@[simp] def eU64 (x:Int):List AV:=[.int .u64 x]
@[simp] def eS (x:List UInt8):List AV:=[.str x]
@[simp] def eB (x:Bool):List AV:=[.bool x]
attribute [simp] Int.natCast_inj
attribute [-simp] List.getElem_cons_drop
section
variable (a n:Nat)
@[simp] theorem lit_lt_cast:((no_index (OfNat.ofNat a):Int) < (n:Int))=((no_index (OfNat.ofNat a):Nat) < n):=propext (Int.ofNat_lt (n:=(OfNat.ofNat a:Nat)) (m:=n))
@[simp] theorem cast_lt_lit:((n:Int) < (no_index (OfNat.ofNat a):Int))=(n < (no_index (OfNat.ofNat a):Nat)):=propext (Int.ofNat_lt (m:=(OfNat.ofNat a:Nat)) (n:=n))
@[simp] theorem lit_le_cast:((no_index (OfNat.ofNat a):Int)≤(n:Int))=((no_index (OfNat.ofNat a):Nat)≤n):=propext (Int.ofNat_le (m:=(OfNat.ofNat a:Nat)) (n:=n))
@[simp] theorem cast_le_lit:((n:Int)≤(no_index (OfNat.ofNat a):Int))=(n≤(no_index (OfNat.ofNat a):Nat)):=propext (Int.ofNat_le (n:=(OfNat.ofNat a:Nat)) (m:=n))
end
theorem eF {α β:Type} {f:α→β} {acc:List α} {n i:Nat} {z:β} (h:acc.length=i):(List.map f acc++List.replicate (n+1) z)[i]?=some z:=by
 rw [List.getElem?_append_right (by simp;omega)]
 simp [h]
theorem eu {α β:Type} {f:α→β} {acc:List α} {n i:Nat} {z v:β} (h:acc.length=i):(List.map f acc++List.replicate (n+1) z).set i v=List.map f acc++v::List.replicate n z:=by
 rw [List.set_append,if_neg (by simp;omega)]
 simp [h,List.replicate_succ]
@[simp] theorem app_le (a b:Nat):(a+(b+1)≤a)=False:=eq_false (by omega)
theorem drop_cons {α:Type} {l:List α} {i:Nat} (h:i < l.length):l.drop i=l[i]::l.drop (i+1):=List.drop_eq_getElem_cons h
theorem mapO_self {α:Type} {g:α→Option α}:∀ {l:List α},(∀ x ∈ l,g x=some x)→mapO g l=some l
 | [],_=>rfl
 | a::l,h=>by simp only [mapO,h a List.mem_cons_self,ob,mapO_self fun x hx=>h x (List.mem_cons_of_mem _ hx),om]
@[simp] theorem frz_ints (h:WHeap) (n:Nat) (k:IntKind) (l:List Int):mapO (frzW h (n+1)) (List.map (AV.int k) l)=some (List.map (AV.int k) l) :=
 mapO_self fun x hx=>by obtain ⟨y,_,rfl⟩:=List.mem_map.1 hx;rfl
@[simp] theorem all_isC_int (k:IntKind) (l:List Int):l.all (isC ∘ AV.int k)=true:=by simp [isC]
@[simp] theorem all_isC_bool (l:List Bool):l.all (isC ∘ AV.bool)=true:=by simp [isC]
attribute [simp] isLeaf
@[simp] theorem comp_eI:((fun x:AV=>[x]) ∘ AV.int .i64)=eI:=rfl
@[simp] theorem add_le_self' (a b:Nat):(a+b≤a)=(b=0):=propext (by omega)
theorem isE {α:Type} {l:List α} (h:¬ l=[]):l.isEmpty=false:=by cases l <;> simp_all
end Go.Pw
end
section
namespace Go.D
open Go Go.Pav Go.Pw P
attribute [-simp] List.getElem_cons_drop
variable {C:WProg}
def inN (b:UInt8):Bool:=decide (97≤b.toNat∧b.toNat≤122∨48≤b.toNat∧b.toNat≤57)
def inT (b:UInt8):Bool:=decide (32≤b.toNat∧b.toNat≤126)
def isName (s:List UInt8):Bool:=decide (1≤s.length)&&decide (s.length≤16)&&s.all inN
def isText (s:List UInt8):Bool:=decide (s.length≤64)&&s.all inT
def ppB (f:Nat):Bool:=f == 502||f == 494||f == 497||f == 434||f == 518||f == 549||f == 402||f == 411||f == 446||f == 466||f == 429||f == 514||f == 374||f == 480||(decide (1000≤f)&&decide (f < 2000))
def inlB (f:Nat):Bool:=f == 217||f == 459||decide (2000≤f)
structure HasS (C:WProg):Prop where
 yg:C.fns.get 561=some w561
 xg:C.fns.get 517=some w517
 vY:C.fns.get 557=some w557
 yM:C.fns.get 556=some w556
 xY:C.fns.get 511=some w511
 xJ:C.fns.get 510=some w510
 rY:C.fns.get 560=some w560
 uj:C.fns.get 545=some w545
 f578:C.fns.get 578=some w578
 f543:C.fns.get 543=some w543
 xw:C.fns.get 495=some w495
 wo:C.fns.get 516=some w516
 xk:C.fns.get 500=some w500
 inl:C.inl=inlB
 pp:C.pp=ppB
theorem nH (H:HasS C) (b:UInt8):FnW C 561 [.int .u8 b.toNat]=some (.bool (inN b)):=by
 rw [fnW_eq H.yg rfl]
 unfold inN
 by_cases c1:97≤b.toNat <;> by_cases c2:b.toNat≤122 <;> by_cases c3:48≤b.toNat <;> by_cases c4:b.toNat≤57 <;> simp [w561,c1,c2,c3,c4]
theorem kL (H:HasS C) (s:List UInt8) (hl:s.length≤16):∀ n i,n+i=s.length →
 w517_K0 C ⟨[(14,.int .i64 i),(13,.int .i64 s.length),(0,.str s)],[],0⟩=some (.bool ((s.drop i).all inN)):=by
 intro n
 induction n with
 | zero =>
  intro i hi
  simp only [w517_K0];rw [ck_unf w517_B0.eq_1]
  have h1:s.drop i=[]:=List.drop_eq_nil_of_le (by omega)
  have h3:¬ i < s.length:=by omega
  simp [ck_unf w517_c0.eq_1,h1,h3]
 | succ n ih =>
  intro i hi
  have h1:i < s.length:=by omega
  have:=ih (i+1) (by omega)
  have hb:=nH H s[i]
  simp only [w517_K0] at this ⊢;rw [ck_unf w517_B0.eq_1]
  rw [drop_cons h1]
  simp at this
  by_cases c:inN s[i]=true
  · simp (disch:=omega) [h1,ak,hb,c,H.inl,inlB,H.pp,ppB,this]
  · simp (disch:=omega) [h1,ak,hb,c,H.inl,inlB,H.pp,ppB]
theorem named_ok (H:HasS C) (s:List UInt8):FnW C 517 [.str s]=some (.bool (isName s)):=by
 rw [fnW_eq H.xg rfl]
 unfold isName
 by_cases c1:1≤s.length
 · by_cases c2:s.length≤16
   · have:=kL H s c2 s.length 0 (by simp)
     simp only [w517_K0] at this
     simp at this
     have c3:¬ ((s.length:Int) < 1):=by omega
     have c4:¬ (16 < (s.length:Int)):=by omega
     simp [w517,c1,c2,c3,c4,this]
   · have c3:¬ ((s.length:Int) < 1):=by omega
     have c4:(16 < (s.length:Int)):=by omega
     simp [w517,c1,c2,c3,c4]
 · have c3:((s.length:Int) < 1):=by omega
   simp [w517,c1,c3]
theorem eP (b:UInt8):(inN b=true∧(97≤b.toNat∧b.toNat≤122∨¬ 97≤b.toNat∧48≤b.toNat∧b.toNat≤57))∨(inN b=false∧(¬ 97≤b.toNat∧(¬ 48≤b.toNat∨¬ b.toNat≤57)∨¬ b.toNat≤122∧¬ b.toNat≤57)):=by
 unfold inN
 by_cases c:97≤b.toNat∧b.toNat≤122∨48≤b.toNat∧b.toNat≤57
 · left;exact ⟨decide_eq_true c,by omega⟩
 · right;exact ⟨decide_eq_false c,by omega⟩
theorem jV (H:HasS C) (s:List UInt8) (hl:s.length≤16∨True):∀ n i,n+i=min s.length 17 →
 w557_K0 C ⟨[(3,.int .i64 i),(0,.str s)],[],0⟩=some (.bool (((s.take 17).drop i).all inN&&decide (1≤s.length)&&decide (s.length≤16))):=by
 intro n
 induction n with
 | zero =>
  intro i hi
  simp only [w557_K0];rw [ck_unf w557_B0.eq_1]
  have h1:(s.take 17).drop i=[]:=List.drop_eq_nil_of_le (by simp;omega)
  by_cases h3:i < s.length
  · have h4:¬ i < 17:=by omega
    have h4':¬ (i:Int) < 17:=by omega
    have h5:¬ s.length≤16:=by omega
    have h6:¬ (s.length:Int)≤16:=by omega
    have h7:1≤(s.length:Int):=by omega
    simp [ck_unf w557_c0.eq_1,h1,h3,h4,h4',h5,h6,h7]
  · by_cases h5:s.length≤16 <;> by_cases h6:1≤s.length
    · have h7:(s.length:Int)≤16:=by omega
      have h8:1≤(s.length:Int):=by omega
      simp [ck_unf w557_c0.eq_1,h1,h3,h5,h6,h7,h8]
    · have h7:(s.length:Int)≤16:=by omega
      have h8:¬ 1≤(s.length:Int):=by omega
      simp [ck_unf w557_c0.eq_1,h1,h3,h5,h6,h7,h8]
    · have h7:¬ (s.length:Int)≤16:=by omega
      have h8:1≤(s.length:Int):=by omega
      simp [ck_unf w557_c0.eq_1,h1,h3,h5,h6,h7,h8]
    · omega
 | succ n ih =>
  intro i hi
  have h1:i < s.length:=by omega
  have h2:(i:Int) < 17:=by omega
  have:=ih (i+1) (by omega)
  have hd:(s.take 17).drop i=s[i]::(s.take 17).drop (i+1):=by
   rw [drop_cons (show i < (s.take 17).length by simp;omega)];simp
  rw [hd]
  simp only [w557_K0] at this ⊢;rw [ck_unf w557_B0.eq_1]
  simp at this
  have key:=eP s[i]
  by_cases q1:97≤s[i].toNat <;> by_cases q2:122 < s[i].toNat <;> by_cases q3:48≤s[i].toNat <;> by_cases q4:57 < s[i].toNat <;> first
   | (exfalso;omega)
   | (
    have c:inN s[i]=true:=by rcases key with ⟨c,_⟩ | ⟨_,q⟩ <;> first | exact c | (exfalso;omega)
    simp (disch:=omega) [h1,h2,ak,c,q1,q2,q3,q4,this];done)
   | (
    have c:inN s[i]=false:=by rcases key with ⟨_,q⟩ | ⟨c,_⟩ <;> first | exact c | (exfalso;omega)
    simp (disch:=omega) [h1,h2,ak,c,q1,q2,q3,q4];done)
theorem bT (H:HasS C) (s:List UInt8):FnW C 557 [.str s]=some (.bool (isName s)):=by
 rw [fnW_eq H.vY rfl]
 have:=jV H s (.inr trivial) (min s.length 17) 0 (by simp)
 simp only [w557_K0] at this
 simp only [List.drop_zero] at this
 have e:((s.take 17).all inN&&decide (1≤s.length)&&decide (s.length≤16))=isName s:=by
  unfold isName
  by_cases c:s.length≤16
  · rw [List.take_of_length_le (by omega)];simp [c];rw [Bool.and_comm]
  · simp [c]
 rw [e] at this
 simp at this
 simp [w557,this]
theorem nX (H:HasS C) (s:List UInt8) (hl:s.length≤64):∀ n i,n+i=s.length →
 w556_K0 C ⟨[(3,.int .i64 i),(0,.str s)],[],0⟩=some (.bool ((s.drop i).all inT)):=by
 intro n
 induction n with
 | zero =>
  intro i hi
  simp only [w556_K0];rw [ck_unf w556_B0.eq_1]
  have h1:s.drop i=[]:=List.drop_eq_nil_of_le (by omega)
  have h3:¬ i < s.length:=by omega
  simp [ck_unf w556_c0.eq_1,h1,h3]
 | succ n ih =>
  intro i hi
  have h1:i < s.length:=by omega
  have:=ih (i+1) (by omega)
  simp only [w556_K0] at this ⊢;rw [ck_unf w556_B0.eq_1]
  rw [drop_cons h1]
  simp at this
  by_cases c1:32≤s[i].toNat <;> by_cases c2:126 < s[i].toNat
  · have c:inT s[i]=false:=decide_eq_false (fun q=>by omega)
    simp (disch:=omega) [h1,ak,c,c1,c2]
  · have c:inT s[i]=true:=decide_eq_true ⟨c1,by omega⟩
    simp (disch:=omega) [h1,ak,c,c1,c2,this]
  · omega
  · have c:inT s[i]=false:=decide_eq_false (fun q=>c1 q.1)
    simp (disch:=omega) [h1,ak,c,c1,c2]
theorem eH (H:HasS C) (s:List UInt8):FnW C 556 [.str s]=some (.bool (isText s)):=by
 rw [fnW_eq H.yM rfl]
 unfold isText
 by_cases c2:s.length≤64
 · have:=nX H s c2 s.length 0 (by simp)
   simp only [w556_K0] at this
   simp at this
   have c4:¬ (64 < (s.length:Int)):=by omega
   simp [w556,c2,c4,this]
 · have c4:(64 < (s.length:Int)):=by omega
   simp [w556,c2,c4]
theorem kT (H:HasS C) (s:List UInt8) (hl:s.length≤64):∀ n i,n+i=s.length →
 w510_K0 C ⟨[(3,.int .i64 i),(0,.str s)],[],0⟩=some (.int .i64 (if (s.drop i).all inT=true then 1 else 0)):=by
 intro n
 induction n with
 | zero =>
  intro i hi
  simp only [w510_K0];rw [ck_unf w510_B0.eq_1]
  have h1:s.drop i=[]:=List.drop_eq_nil_of_le (by omega)
  have h3:¬ i < s.length:=by omega
  simp [ck_unf w510_c0.eq_1,h1,h3]
 | succ n ih =>
  intro i hi
  have h1:i < s.length:=by omega
  have:=ih (i+1) (by omega)
  simp only [w510_K0] at this ⊢;rw [ck_unf w510_B0.eq_1]
  rw [drop_cons h1]
  generalize hX:((s.drop (i+1)).all inT)=X at *
  simp at this
  rw [List.all_cons,hX]
  by_cases c1:32≤s[i].toNat <;> by_cases c2:126 < s[i].toNat
  · have c:inT s[i]=false:=decide_eq_false (fun q=>by omega)
    simp (disch:=omega) [h1,ak,c,c1,c2]
  · have c:inT s[i]=true:=decide_eq_true ⟨c1,by omega⟩
    simp (disch:=omega) [h1,ak,c,c1,c2,this]
  · omega
  · have c:inT s[i]=false:=decide_eq_false (fun q=>c1 q.1)
    simp (disch:=omega) [h1,ak,c,c1,c2]
theorem qV (H:HasS C) (s:List UInt8):FnW C 510 [.str s]=some (.int .i64 (if isText s=true then 1 else 0)):=by
 rw [fnW_eq H.xJ rfl]
 unfold isText
 by_cases c2:s.length≤64
 · have:=kT H s c2 s.length 0 (by simp)
   simp only [w510_K0] at this
   simp only [List.drop_zero] at this
   generalize hX:s.all inT=X at *
   simp at this
   have c4:¬ (64 < (s.length:Int)):=by omega
   simp [w510,c2,c4,this]
 · have c4:(64 < (s.length:Int)):=by omega
   simp [w510,c2,c4]
structure Pred (C:WProg) (g:Nat) (Q:UInt8→Bool):Prop where
 asc:∀ b:UInt8,b.toNat < 128→FnW C g [.int .i32 b.toNat]=some (.bool (!Q b))
 high:∀ r:Nat,128≤r→FnW C g [.int .i32 r]=some (.bool true)
 qh:∀ b:UInt8,128≤b.toNat→Q b=false
 ne:ppB g=false
 ni:inlB g=false
theorem dec_ascii (s:List UInt8) (pos:Nat) (h:pos < s.length) (ha:s[pos].toNat < 128):Utf8.decode ⟨⟨s⟩⟩ pos=(s[pos].toNat,1):=decode_ascii ⟨⟨s⟩⟩ pos h ha
theorem dec_high (s:List UInt8) (pos:Nat) (h:pos < s.length) (ha:128≤s[pos].toNat):128≤(Utf8.decode ⟨⟨s⟩⟩ pos).1∧1≤(Utf8.decode ⟨⟨s⟩⟩ pos).2:=decode_high ⟨⟨s⟩⟩ pos h ha
theorem index_loop (H:HasS C) {g:Nat} {Q:UInt8→Bool} (G:Pred C g Q) (s:List UInt8):∀ n pos,n+pos=s.length →
 ∃ v:Int,w578_K0 C ⟨[(10,.ptr 0 0 0),(2,.bool true),(1,.fn g [])],[(0,.iter s pos)],1⟩=some (.int .i64 v)∧decide (v < 0)=(s.drop pos).all Q:=by
 intro n
 induction n with
 | zero =>
  intro pos hp
  simp only [w578_K0];rw [ck_unf w578_B0.eq_1]
  have h1:s.drop pos=[]:=List.drop_eq_nil_of_le (by omega)
  have h3:¬ pos < s.length:=by omega
  exact ⟨-1,by simp [ck_unf w578_c0.eq_1,h3],by simp [h1]⟩
 | succ n ih =>
  intro pos hp
  have h1:pos < s.length:=by omega
  have hN:=G.ne;have hI:=G.ni
  rw [drop_cons h1]
  by_cases ha:s[pos].toNat < 128
  · have hd:=dec_ascii s pos h1 ha
    have hb:=G.asc s[pos] ha
    by_cases c:Q s[pos]=true
    · obtain ⟨v,hv,hq⟩:=ih (pos+1) (by omega)
      refine ⟨v,?_,by simp [hq,c]⟩
      simp only [w578_K0] at hv ⊢;rw [ck_unf w578_B0.eq_1]
      simp (disch:=omega) [h1,hd,hb,c,H.inl,hI,H.pp,hN,hv]
    · refine ⟨pos,?_,by simp [c]⟩
      simp only [w578_K0];rw [ck_unf w578_B0.eq_1]
      simp (disch:=omega) [h1,hd,hb,c,H.inl,hI,H.pp,hN]
  · have hd:=dec_high s pos h1 (by omega)
    have hb:=G.high (Utf8.decode ⟨⟨s⟩⟩ pos).1 hd.1
    have hq:=G.qh s[pos] (by omega)
    refine ⟨pos,?_,by simp [hq]⟩
    simp only [w578_K0];rw [ck_unf w578_B0.eq_1]
    obtain ⟨D,hD⟩:∃ D,Utf8.decode ⟨⟨s⟩⟩ pos=D:=⟨_,rfl⟩
    rw [hD] at hb
    simp (disch:=omega) [h1,hD,hb,H.inl,hI,H.pp,hN]
theorem index_ok (H:HasS C) {g:Nat} {Q:UInt8→Bool} (G:Pred C g Q) (s:List UInt8) :
 ∃ v:Int,FnW C 543 [.str s,.fn g []]=some (.int .i64 v)∧decide (v < 0)=s.all Q:=by
 obtain ⟨v,h,q⟩:=index_loop H G s s.length 0 (by simp)
 refine ⟨v,?_,q⟩
 have h2:FnW C 578 [.str s,.fn g [],.bool true]=some (.int .i64 v):=by
  rw [fnW_eq H.f578 rfl]
  simp only [w578_K0] at h
  simp [w578,h]
 rw [fnW_eq H.f543 rfl]
 simp [w543,H.inl,inlB,H.pp,ppB,h2]
theorem fH (H:HasS C) {g:Nat} {Q:UInt8→Bool} (G:Pred C g Q) (s:List UInt8) :
 FnW C 495 [.str s,.fn g []]=some (.bool (!s.all Q)):=by
 obtain ⟨v,h,q⟩:=index_ok H G s
 rw [fnW_eq H.xw rfl,← q]
 by_cases c:v < 0
 · have c':¬ 0≤v:=by omega
   simp [w495,H.inl,inlB,H.pp,ppB,h,c,c']
 · have c':0≤v:=by omega
   simp [w495,H.inl,inlB,H.pp,ppB,h,c,c']
theorem uy (H:HasS C):Pred C 560 inT where
 asc b hb:=by
  rw [fnW_eq H.rY rfl]
  by_cases c1:32≤b.toNat <;> by_cases c2:126 < b.toNat
  · have c:inT b=false:=decide_eq_false (fun q=>by omega)
    simp [w560,c,c1,c2]
  · have c:inT b=true:=decide_eq_true ⟨c1,by omega⟩
    simp [w560,c,c1,c2]
  · omega
  · have c:inT b=false:=decide_eq_false (fun q=>c1 q.1)
    simp [w560,c,c1,c2]
 high r hr:=by
  rw [fnW_eq H.rY rfl]
  have h1:32≤r:=by omega
  have h2:126 < r:=by omega
  simp [w560,h1,h2]
 qh b hb:=decide_eq_false (fun q=>by omega)
 ne:=by rfl
 ni:=by rfl
theorem sF (H:HasS C):Pred C 545 inN where
 asc b hb:=by
  rw [fnW_eq H.uj rfl]
  have key:=eP b
  by_cases q1:97≤b.toNat <;> by_cases q2:122 < b.toNat <;> by_cases q3:48≤b.toNat <;> by_cases q4:57 < b.toNat <;> first
   | (exfalso;omega)
   | (
    have c:inN b=true:=by rcases key with ⟨c,_⟩ | ⟨_,q⟩ <;> first | exact c | (exfalso;omega)
    simp [w545,c,q1,q2,q3,q4];done)
   | (
    have c:inN b=false:=by rcases key with ⟨_,q⟩ | ⟨c,_⟩ <;> first | exact c | (exfalso;omega)
    simp [w545,c,q1,q2,q3,q4];done)
 high r hr:=by
  rw [fnW_eq H.uj rfl]
  have h1:97≤r:=by omega
  have h2:122 < r:=by omega
  have h3:48≤r:=by omega
  have h4:57 < r:=by omega
  simp [w545,h1,h2,h3,h4]
 qh b hb:=by unfold inN;exact decide_eq_false (fun q=>by omega)
 ne:=by rfl
 ni:=by rfl
theorem lV (H:HasS C) (s:List UInt8):FnW C 516 [.str s]=some (.bool (isText s)):=by
 obtain ⟨v,h,q⟩:=index_ok H (uy H) s
 rw [fnW_eq H.wo rfl]
 unfold isText
 rw [← q]
 by_cases c2:s.length≤64
 · have c4:(s.length:Int)≤64:=by omega
   simp [w516,c2,c4,H.inl,inlB,H.pp,ppB,h]
 · have c4:¬ ((s.length:Int)≤64):=by omega
   simp [w516,c2,c4]
theorem rW (H:HasS C) (s:List UInt8):FnW C 500 [.str s]=some (.bool (isName s)):=by
 have h:=fH H (sF H) s
 rw [fnW_eq H.xk rfl]
 unfold isName
 by_cases c1:s=[]
 · subst c1;simp [w500]
 · have c3:1≤s.length:=List.length_pos_iff.2 c1
   by_cases c2:s.length≤16
   · have c4:(s.length:Int)≤16:=by omega
     simp [w500,c1,c2,c3,c4,H.inl,inlB,H.pp,ppB,h]
   · have c4:¬ ((s.length:Int)≤16):=by omega
     simp [w500,c1,c2,c4]
end Go.D
end
section
namespace Go.Pav
open Go
def phiOf (ids:List (Nat × Nat)) (f:FuncId):Option Nat :=
 match ids with
 | []=>none
 | (g,k)::r=>if k=f then some g else phiOf r f
def psiOf (ids:List (Nat × Nat)) (g:Nat):FuncId :=
 match get ids g with
 | some k=>k
 | none=>0
theorem phiOf_mem:∀ {ids:List (Nat × Nat)} {f:FuncId} {g:Nat},phiOf ids f=some g→(g,f) ∈ ids:=by
 intro ids
 induction ids with
 | nil=>intro f g h;simp [phiOf] at h
 | cons x r ih =>
  intro f g h
  obtain ⟨a,k⟩:=x
  simp only [phiOf] at h
  split at h
  · rename_i hk
    cases h;subst hk;exact List.mem_cons_self
  · exact List.mem_cons_of_mem _ (ih h)
theorem psi_phi {ids:List (Nat × Nat)} (hc:(ids.all fun x=>decide (psiOf ids x.1=x.2))=true):∀ f g,phiOf ids f=some g→psiOf ids g=f:=by
 intro f g h
 have:=List.all_eq_true.1 hc _ (phiOf_mem h)
 simpa using this
def TreeAll (p:Nat→CFn→Prop):Tree→Prop
 | .leaf=>True
 | .node l k f r=>TreeAll p l∧p k f∧TreeAll p r
theorem TreeAll.get {p:Nat→CFn→Prop}:∀ {t:Tree},TreeAll p t→∀ {g:Nat} {cf:CFn},t.get g=some cf→p g cf:=by
 intro t
 induction t with
 | leaf=>intro _ g cf h;simp [Tree.get] at h
 | node l k f r ihl ihr =>
  intro ⟨h1,h2,h3⟩ g cf h
  simp only [Tree.get] at h
  split at h
  · rename_i hk;cases h;subst hk;exact h2
  · split at h
    · exact ihl h1 h
    · exact ihr h3 h
def altOf:List (Nat × FuncId × Nat)→Nat→FuncId→Option Nat
 | [],_,_=>none
 | (g,f,k)::r,g',f'=>if g=g'∧f=f' then some k else altOf r g' f'
theorem altOf_mem:∀ {alts:List (Nat × FuncId × Nat)} {g:Nat} {f:FuncId} {k:Nat},altOf alts g f=some k→(g,f,k) ∈ alts:=by
 intro alts
 induction alts with
 | nil=>intro g f k h;simp [altOf] at h
 | cons x r ih =>
  intro g f k h
  obtain ⟨a,b,c⟩:=x
  simp only [altOf] at h
  split at h
  · rename_i hk
    obtain ⟨rfl,rfl⟩:=hk
    cases h;exact List.mem_cons_self
  · exact List.mem_cons_of_mem _ (ih h)
def phiG (ids:List (Nat × Nat)) (alts:List (Nat × FuncId × Nat)) (g:Nat) (f:FuncId):Option Nat :=
 match altOf alts g f with
 | some k=>some k
 | none=>phiOf ids f
def FnOk (P:Program) (lay:Nat→Option Obj) (ids:List (Nat × Nat)) (alts:List (Nat × FuncId × Nat)) (g:Nat) (cf:CFn):Prop:=(∃ fn,P.funcs[psiOf ids g]?=some fn∧(cFn P (phiG ids alts g) fn).map stripF=some (stripF cf))∨RuleOk P ⟨psiOf ids,lay⟩ g cf
def treeLt:Tree→Bool
 | .leaf=>true
 | .node l k _ r=>treeLt l&&(decide (k < 1000000)&&treeLt r)
theorem treeLt_get:∀ {t:Tree},treeLt t=true→∀ {g:Nat} {cf:CFn},t.get g=some cf→g < 1000000
 | .leaf,_,_,_,h=>by cases h
 | .node l k f r,ht,g,cf,h=>by
  simp only [treeLt,Bool.and_eq_true,decide_eq_true_eq] at ht
  simp only [Tree.get] at h
  split at h
  · omega
  · split at h
    · exact treeLt_get ht.1 h
    · exact treeLt_get ht.2.2 h
theorem linked {P:Program} {lay:Nat→Option Obj} {ids:List (Nat × Nat)} {alts:List (Nat × FuncId × Nat)} {C:Prog} (hc:(ids.all fun x=>decide (psiOf ids x.1=x.2))=true) (ha:(alts.all fun x=>decide (psiOf ids x.2.2=x.2.1))=true)
 (ht:TreeAll (FnOk P lay ids alts) C.fns) (hl:treeLt C.fns=true) (hm:P.follows .mixedOrders=true):Linked P (phiG ids alts) ⟨psiOf ids,lay⟩ C:=by
 refine ⟨fun g f k h=>?_,fun _ _ h=>ht.get h,fun _ _ h=>treeLt_get hl h,hm⟩
 unfold phiG at h
 split at h
 · rename_i k' hk
   cases h
   simpa using List.all_eq_true.1 ha _ (altOf_mem hk)
 · exact psi_phi hc _ _ h
end Go.Pav
end
section
set_option maxRecDepth 100000
namespace P
open Go Go.Pav Go.Pw Go.Proofs
theorem l0:FnOk Tryz.prog aj ids alts 0 (erFn w0):=.inl ⟨Tryz.f2,Tryz.func2,by kernel_rfl⟩
theorem l85:FnOk Tryz.prog aj ids alts 85 (erFn w85):=.inl ⟨Tryz.f3,Tryz.func3,by kernel_rfl⟩
theorem AZ:FnOk Tryz.prog aj ids alts 107 (erFn w107):=.inl ⟨Tryz.f5,Tryz.func5,by kernel_rfl⟩
theorem l108:FnOk Tryz.prog aj ids alts 108 (erFn w108):=.inl ⟨Tryz.f6,Tryz.func6,by kernel_rfl⟩
theorem l109:FnOk Tryz.prog aj ids alts 109 (erFn w109):=.inl ⟨Tryz.f7,Tryz.func7,by kernel_rfl⟩
theorem l110:FnOk Tryz.prog aj ids alts 110 (erFn w110):=.inl ⟨Tryz.f8,Tryz.func8,by kernel_rfl⟩
theorem l111:FnOk Tryz.prog aj ids alts 111 (erFn w111):=.inl ⟨Tryz.f9,Tryz.func9,by kernel_rfl⟩
theorem BX:FnOk Tryz.prog aj ids alts 112 (erFn w112):=.inl ⟨Tryz.f10,Tryz.func10,by kernel_rfl⟩
theorem l113:FnOk Tryz.prog aj ids alts 113 (erFn w113):=.inl ⟨Tryz.f11,Tryz.func11,by kernel_rfl⟩
theorem l114:FnOk Tryz.prog aj ids alts 114 (erFn w114):=.inl ⟨Tryz.f12,Tryz.func12,by kernel_rfl⟩
theorem l115:FnOk Tryz.prog aj ids alts 115 (erFn w115):=.inl ⟨Tryz.f13,Tryz.func13,by kernel_rfl⟩
theorem Ba:FnOk Tryz.prog aj ids alts 116 (erFn w116):=.inl ⟨Tryz.f14,Tryz.func14,by kernel_rfl⟩
theorem Ae:FnOk Tryz.prog aj ids alts 117 (erFn w117):=.inl ⟨Tryz.f15,Tryz.func15,by kernel_rfl⟩
theorem A8:FnOk Tryz.prog aj ids alts 118 (erFn w118):=.inl ⟨Tryz.f16,Tryz.func16,by kernel_rfl⟩
theorem AB:FnOk Tryz.prog aj ids alts 119 (erFn w119):=.inl ⟨Tryz.f17,Tryz.func17,by kernel_rfl⟩
theorem BI:FnOk Tryz.prog aj ids alts 126 (erFn w126):=.inl ⟨Tryz.f78,Tryz.func78,by kernel_rfl⟩
theorem Cj:FnOk Tryz.prog aj ids alts 130 (erFn w130):=.inl ⟨Tryz.f27,Tryz.func27,by kernel_rfl⟩
theorem l140:FnOk Tryz.prog aj ids alts 140 (erFn w140):=.inl ⟨Tryz.f172,Tryz.func172,by kernel_rfl⟩
theorem zW:FnOk Tryz.prog aj ids alts 172 (erFn w172):=.inl ⟨Tryz.f57,Tryz.func57,by kernel_rfl⟩
theorem l216:FnOk Tryz.prog aj ids alts 216 (erFn w216):=.inl ⟨Tryz.f33,Tryz.func33,by kernel_rfl⟩
theorem l217:FnOk Tryz.prog aj ids alts 217 (erFn w217):=.inl ⟨Tryz.f34,Tryz.func34,by kernel_rfl⟩
theorem l218:FnOk Tryz.prog aj ids alts 218 (erFn w218):=.inl ⟨Tryz.f35,Tryz.func35,by kernel_rfl⟩
theorem l219:FnOk Tryz.prog aj ids alts 219 (erFn w219):=.inl ⟨Tryz.f36,Tryz.func36,by kernel_rfl⟩
theorem l220:FnOk Tryz.prog aj ids alts 220 (erFn w220):=.inl ⟨Tryz.f37,Tryz.func37,by kernel_rfl⟩
theorem l221:FnOk Tryz.prog aj ids alts 221 (erFn w221):=.inl ⟨Tryz.f38,Tryz.func38,by kernel_rfl⟩
theorem l222:FnOk Tryz.prog aj ids alts 222 (erFn w222):=.inl ⟨Tryz.f39,Tryz.func39,by kernel_rfl⟩
theorem l223:FnOk Tryz.prog aj ids alts 223 (erFn w223):=.inl ⟨Tryz.f40,Tryz.func40,by kernel_rfl⟩
theorem l224:FnOk Tryz.prog aj ids alts 224 (erFn w224):=.inl ⟨Tryz.f41,Tryz.func41,by kernel_rfl⟩
theorem l225:FnOk Tryz.prog aj ids alts 225 (erFn w225):=.inl ⟨Tryz.f42,Tryz.func42,by kernel_rfl⟩
theorem l226:FnOk Tryz.prog aj ids alts 226 (erFn w226):=.inl ⟨Tryz.f43,Tryz.func43,by kernel_rfl⟩
theorem l227:FnOk Tryz.prog aj ids alts 227 (erFn w227):=.inl ⟨Tryz.f44,Tryz.func44,by kernel_rfl⟩
theorem l228:FnOk Tryz.prog aj ids alts 228 (erFn w228):=.inl ⟨Tryz.f45,Tryz.func45,by kernel_rfl⟩
theorem l229:FnOk Tryz.prog aj ids alts 229 (erFn w229):=.inl ⟨Tryz.f46,Tryz.func46,by kernel_rfl⟩
theorem l230:FnOk Tryz.prog aj ids alts 230 (erFn w230):=.inl ⟨Tryz.f47,Tryz.func47,by kernel_rfl⟩
theorem l231:FnOk Tryz.prog aj ids alts 231 (erFn w231):=.inl ⟨Tryz.f48,Tryz.func48,by kernel_rfl⟩
theorem l232:FnOk Tryz.prog aj ids alts 232 (erFn w232):=.inl ⟨Tryz.f49,Tryz.func49,by kernel_rfl⟩
theorem CZ:FnOk Tryz.prog aj ids alts 233 (erFn w233):=.inl ⟨Tryz.f50,Tryz.func50,by kernel_rfl⟩
theorem Bo:FnOk Tryz.prog aj ids alts 234 (erFn w234):=.inl ⟨Tryz.f51,Tryz.func51,by kernel_rfl⟩
theorem Ak:FnOk Tryz.prog aj ids alts 235 (erFn w235):=.inl ⟨Tryz.f52,Tryz.func52,by kernel_rfl⟩
theorem zZ:FnOk Tryz.prog aj ids alts 236 (erFn w236):=.inl ⟨Tryz.f53,Tryz.func53,by kernel_rfl⟩
theorem l237:FnOk Tryz.prog aj ids alts 237 (erFn w237):=.inl ⟨Tryz.f54,Tryz.func54,by kernel_rfl⟩
theorem l238:FnOk Tryz.prog aj ids alts 238 (erFn w238):=.inl ⟨Tryz.f55,Tryz.func55,by kernel_rfl⟩
theorem CU:FnOk Tryz.prog aj ids alts 239 (erFn w239):=.inl ⟨Tryz.f56,Tryz.func56,by kernel_rfl⟩
theorem Bz:FnOk Tryz.prog aj ids alts 240 (erFn w240):=.inl ⟨Tryz.f58,Tryz.func58,by kernel_rfl⟩
theorem Bv:FnOk Tryz.prog aj ids alts 241 (erFn w241):=.inl ⟨Tryz.f59,Tryz.func59,by kernel_rfl⟩
theorem BG:FnOk Tryz.prog aj ids alts 242 (erFn w242):=.inl ⟨Tryz.f60,Tryz.func60,by kernel_rfl⟩
theorem C9:FnOk Tryz.prog aj ids alts 243 (erFn w243):=.inl ⟨Tryz.f61,Tryz.func61,by kernel_rfl⟩
theorem AP:FnOk Tryz.prog aj ids alts 244 (erFn w244):=.inl ⟨Tryz.f62,Tryz.func62,by kernel_rfl⟩
theorem Ad:FnOk Tryz.prog aj ids alts 245 (erFn w245):=.inl ⟨Tryz.f63,Tryz.func63,by kernel_rfl⟩
theorem Cb:FnOk Tryz.prog aj ids alts 270 (erFn w270):=.inl ⟨Tryz.f79,Tryz.func79,by kernel_rfl⟩
theorem Dl:FnOk Tryz.prog aj ids alts 271 (erFn w271):=.inl ⟨Tryz.f80,Tryz.func80,by kernel_rfl⟩
theorem l282:FnOk Tryz.prog aj ids alts 282 (erFn w282):=.inl ⟨Tryz.f189,Tryz.func189,by kernel_rfl⟩
theorem l340:FnOk Tryz.prog aj ids alts 340 (erFn w340):=.inl ⟨Tryz.f77,Tryz.func77,by kernel_rfl⟩
theorem l398:FnOk Tryz.prog aj ids alts 398 (erFn w398):=.inl ⟨Tryz.f92,Tryz.func92,by kernel_rfl⟩
theorem l399:FnOk Tryz.prog aj ids alts 399 (erFn w399):=.inl ⟨Tryz.f93,Tryz.func93,by kernel_rfl⟩
theorem l400:FnOk Tryz.prog aj ids alts 400 (erFn w400):=.inl ⟨Tryz.f94,Tryz.func94,by kernel_rfl⟩
theorem l401:FnOk Tryz.prog aj ids alts 401 (erFn w401):=.inl ⟨Tryz.f95,Tryz.func95,by kernel_rfl⟩
theorem l402:FnOk Tryz.prog aj ids alts 402 (erFn w402):=.inl ⟨Tryz.f96,Tryz.func96,by kernel_rfl⟩
theorem l403:FnOk Tryz.prog aj ids alts 403 (erFn w403):=.inl ⟨Tryz.f97,Tryz.func97,by kernel_rfl⟩
theorem l404:FnOk Tryz.prog aj ids alts 404 (erFn w404):=.inl ⟨Tryz.f98,Tryz.func98,by kernel_rfl⟩
theorem l405:FnOk Tryz.prog aj ids alts 405 (erFn w405):=.inl ⟨Tryz.f99,Tryz.func99,by kernel_rfl⟩
theorem Ar:FnOk Tryz.prog aj ids alts 406 (erFn w406):=.inl ⟨Tryz.f100,Tryz.func100,by kernel_rfl⟩
theorem Am:FnOk Tryz.prog aj ids alts 407 (erFn w407):=.inl ⟨Tryz.f101,Tryz.func101,by kernel_rfl⟩
theorem CG:FnOk Tryz.prog aj ids alts 408 (erFn w408):=.inl ⟨Tryz.f102,Tryz.func102,by kernel_rfl⟩
theorem l409:FnOk Tryz.prog aj ids alts 409 (erFn w409):=.inl ⟨Tryz.f103,Tryz.func103,by kernel_rfl⟩
theorem BD:FnOk Tryz.prog aj ids alts 410 (erFn w410):=.inl ⟨Tryz.f104,Tryz.func104,by kernel_rfl⟩
theorem Ah:FnOk Tryz.prog aj ids alts 422 (erFn w422):=.inl ⟨Tryz.f124,Tryz.func124,by kernel_rfl⟩
theorem Dj:FnOk Tryz.prog aj ids alts 423 (erFn w423):=.inl ⟨Tryz.f125,Tryz.func125,by kernel_rfl⟩
theorem Bq:FnOk Tryz.prog aj ids alts 424 (erFn w424):=.inl ⟨Tryz.f126,Tryz.func126,by kernel_rfl⟩
theorem Aj:FnOk Tryz.prog aj ids alts 425 (erFn w425):=.inl ⟨Tryz.f127,Tryz.func127,by kernel_rfl⟩
theorem l433:FnOk Tryz.prog aj ids alts 433 (erFn w433):=.inl ⟨Tryz.f196,Tryz.func196,by kernel_rfl⟩
theorem l434:FnOk Tryz.prog aj ids alts 434 (erFn w434):=.inl ⟨Tryz.f197,Tryz.func197,by kernel_rfl⟩
theorem l439:FnOk Tryz.prog aj ids alts 439 (erFn w439):=.inl ⟨Tryz.f193,Tryz.func193,by kernel_rfl⟩
theorem Bc:FnOk Tryz.prog aj ids alts 441 (erFn w441):=.inl ⟨Tryz.f162,Tryz.func162,by kernel_rfl⟩
theorem Dn:FnOk Tryz.prog aj ids alts 442 (erFn w442):=.inl ⟨Tryz.f163,Tryz.func163,by kernel_rfl⟩
theorem l459:FnOk Tryz.prog aj ids alts 459 (erFn w459):=.inl ⟨Tryz.f122,Tryz.func122,by kernel_rfl⟩
theorem l460:FnOk Tryz.prog aj ids alts 460 (erFn w460):=.inl ⟨Tryz.f123,Tryz.func123,by kernel_rfl⟩
theorem l494:FnOk Tryz.prog aj ids alts 494 (erFn w494):=.inl ⟨Tryz.f135,Tryz.func135,by kernel_rfl⟩
theorem l495:FnOk Tryz.prog aj ids alts 495 (erFn w495):=.inl ⟨Tryz.f136,Tryz.func136,by kernel_rfl⟩
theorem l496:FnOk Tryz.prog aj ids alts 496 (erFn w496):=.inl ⟨Tryz.f137,Tryz.func137,by kernel_rfl⟩
theorem l497:FnOk Tryz.prog aj ids alts 497 (erFn w497):=.inl ⟨Tryz.f138,Tryz.func138,by kernel_rfl⟩
theorem l498:FnOk Tryz.prog aj ids alts 498 (erFn w498):=.inl ⟨Tryz.f139,Tryz.func139,by kernel_rfl⟩
theorem l499:FnOk Tryz.prog aj ids alts 499 (erFn w499):=.inl ⟨Tryz.f140,Tryz.func140,by kernel_rfl⟩
theorem l500:FnOk Tryz.prog aj ids alts 500 (erFn w500):=.inl ⟨Tryz.f141,Tryz.func141,by kernel_rfl⟩
theorem l501:FnOk Tryz.prog aj ids alts 501 (erFn w501):=.inl ⟨Tryz.f142,Tryz.func142,by kernel_rfl⟩
theorem l502:FnOk Tryz.prog aj ids alts 502 (erFn w502):=.inl ⟨Tryz.f143,Tryz.func143,by kernel_rfl⟩
theorem l503:FnOk Tryz.prog aj ids alts 503 (erFn w503):=.inl ⟨Tryz.f144,Tryz.func144,by kernel_rfl⟩
theorem BA:FnOk Tryz.prog aj ids alts 504 (erFn w504):=.inl ⟨Tryz.f145,Tryz.func145,by kernel_rfl⟩
theorem BJ:FnOk Tryz.prog aj ids alts 505 (erFn w505):=.inl ⟨Tryz.f146,Tryz.func146,by kernel_rfl⟩
theorem Bj:FnOk Tryz.prog aj ids alts 510 (erFn w510):=.inl ⟨Tryz.f158,Tryz.func158,by kernel_rfl⟩
theorem CQ:FnOk Tryz.prog aj ids alts 511 (erFn w511):=.inl ⟨Tryz.f159,Tryz.func159,by kernel_rfl⟩
theorem Dh:FnOk Tryz.prog aj ids alts 512 (erFn w512):=.inl ⟨Tryz.f160,Tryz.func160,by kernel_rfl⟩
theorem Bh:FnOk Tryz.prog aj ids alts 513 (erFn w513):=.inl ⟨Tryz.f161,Tryz.func161,by kernel_rfl⟩
theorem l516:FnOk Tryz.prog aj ids alts 516 (erFn w516):=.inl ⟨Tryz.f199,Tryz.func199,by kernel_rfl⟩
theorem l517:FnOk Tryz.prog aj ids alts 517 (erFn w517):=.inl ⟨Tryz.f200,Tryz.func200,by kernel_rfl⟩
theorem l518:FnOk Tryz.prog aj ids alts 518 (erFn w518):=.inl ⟨Tryz.f201,Tryz.func201,by kernel_rfl⟩
theorem l519:FnOk Tryz.prog aj ids alts 519 (erFn w519):=.inl ⟨Tryz.f202,Tryz.func202,by kernel_rfl⟩
theorem BN:FnOk Tryz.prog aj ids alts 520 (erFn w520):=.inl ⟨Tryz.f181,Tryz.func181,by kernel_rfl⟩
theorem l543:FnOk Tryz.prog aj ids alts 543 (erFn w543):=.inl ⟨Tryz.f167,Tryz.func167,by kernel_rfl⟩
theorem l544:FnOk Tryz.prog aj ids alts 544 (erFn w544):=.inl ⟨Tryz.f168,Tryz.func168,by kernel_rfl⟩
theorem l545:FnOk Tryz.prog aj ids alts 545 (erFn w545):=.inl ⟨Tryz.f169,Tryz.func169,by kernel_rfl⟩
theorem l546:FnOk Tryz.prog aj ids alts 546 (erFn w546):=.inl ⟨Tryz.f170,Tryz.func170,by kernel_rfl⟩
theorem l547:FnOk Tryz.prog aj ids alts 547 (erFn w547):=.inl ⟨Tryz.f171,Tryz.func171,by kernel_rfl⟩
theorem l548:FnOk Tryz.prog aj ids alts 548 (erFn w548):=.inl ⟨Tryz.f173,Tryz.func173,by kernel_rfl⟩
theorem l549:FnOk Tryz.prog aj ids alts 549 (erFn w549):=.inl ⟨Tryz.f174,Tryz.func174,by kernel_rfl⟩
theorem BZ:FnOk Tryz.prog aj ids alts 550 (erFn w550):=.inl ⟨Tryz.f175,Tryz.func175,by kernel_rfl⟩
theorem AY:FnOk Tryz.prog aj ids alts 556 (erFn w556):=.inl ⟨Tryz.f177,Tryz.func177,by kernel_rfl⟩
theorem Bd:FnOk Tryz.prog aj ids alts 557 (erFn w557):=.inl ⟨Tryz.f178,Tryz.func178,by kernel_rfl⟩
theorem CY:FnOk Tryz.prog aj ids alts 558 (erFn w558):=.inl ⟨Tryz.f179,Tryz.func179,by kernel_rfl⟩
theorem Ac:FnOk Tryz.prog aj ids alts 559 (erFn w559):=.inl ⟨Tryz.f180,Tryz.func180,by kernel_rfl⟩
theorem l560:FnOk Tryz.prog aj ids alts 560 (erFn w560):=.inl ⟨Tryz.f203,Tryz.func203,by kernel_rfl⟩
theorem l561:FnOk Tryz.prog aj ids alts 561 (erFn w561):=.inl ⟨Tryz.f204,Tryz.func204,by kernel_rfl⟩
theorem l562:FnOk Tryz.prog aj ids alts 562 (erFn w562):=.inl ⟨Tryz.f205,Tryz.func205,by kernel_rfl⟩
theorem Dk:FnOk Tryz.prog aj ids alts 563 (erFn w563):=.inl ⟨Tryz.f192,Tryz.func192,by kernel_rfl⟩
theorem l578:FnOk Tryz.prog aj ids alts 578 (erFn w578):=.inl ⟨Tryz.f182,Tryz.func182,by kernel_rfl⟩
theorem l579:FnOk Tryz.prog aj ids alts 579 (erFn w579):=.inl ⟨Tryz.f183,Tryz.func183,by kernel_rfl⟩
theorem l580:FnOk Tryz.prog aj ids alts 580 (erFn w580):=.inl ⟨Tryz.f184,Tryz.func184,by kernel_rfl⟩
theorem l581:FnOk Tryz.prog aj ids alts 581 (erFn w581):=.inl ⟨Tryz.f185,Tryz.func185,by kernel_rfl⟩
theorem l582:FnOk Tryz.prog aj ids alts 582 (erFn w582):=.inl ⟨Tryz.f186,Tryz.func186,by kernel_rfl⟩
theorem l583:FnOk Tryz.prog aj ids alts 583 (erFn w583):=.inl ⟨Tryz.f187,Tryz.func187,by kernel_rfl⟩
theorem l584:FnOk Tryz.prog aj ids alts 584 (erFn w584):=.inl ⟨Tryz.f188,Tryz.func188,by kernel_rfl⟩
theorem l585:FnOk Tryz.prog aj ids alts 585 (erFn w585):=.inl ⟨Tryz.f190,Tryz.func190,by kernel_rfl⟩
theorem Cm:FnOk Tryz.prog aj ids alts 586 (erFn w586):=.inl ⟨Tryz.f191,Tryz.func191,by kernel_rfl⟩
theorem l592:FnOk Tryz.prog aj ids alts 592 (erFn w592):=.inl ⟨Tryz.f194,Tryz.func194,by kernel_rfl⟩
theorem l593:FnOk Tryz.prog aj ids alts 593 (erFn w593):=.inl ⟨Tryz.f195,Tryz.func195,by kernel_rfl⟩
theorem BP:FnOk Tryz.prog aj ids alts 594 (erFn w594):=.inl ⟨Tryz.f198,Tryz.func198,by kernel_rfl⟩
theorem l2001:FnOk Tryz.prog aj ids alts 2001 (erFn w226):=.inl ⟨Tryz.f43,Tryz.func43,by kernel_rfl⟩
theorem l3004:FnOk Tryz.prog aj ids alts 3004 (erFn w226):=.inl ⟨Tryz.f43,Tryz.func43,by kernel_rfl⟩
theorem l3003:FnOk Tryz.prog aj ids alts 3003 (erFn w3003):=.inl ⟨Tryz.f33,Tryz.func33,by kernel_rfl⟩
theorem zB:FnOk Tryz.prog aj ids alts 2043 (erFn w2043):=.inl ⟨Tryz.f33,Tryz.func33,by kernel_rfl⟩
theorem zq:FnOk Tryz.prog aj ids alts 3107 (erFn w3107):=.inl ⟨Tryz.f5,Tryz.func5,by kernel_rfl⟩
theorem zV:FnOk Tryz.prog aj ids alts 4108 (erFn w4108):=.inl ⟨Tryz.f6,Tryz.func6,by kernel_rfl⟩
theorem zC:FnOk Tryz.prog aj ids alts 4109 (erFn w4109):=.inl ⟨Tryz.f7,Tryz.func7,by kernel_rfl⟩
theorem zu:FnOk Tryz.prog aj ids alts 4110 (erFn w4110):=.inl ⟨Tryz.f8,Tryz.func8,by kernel_rfl⟩
def prog:WProg:=⟨tree,Go.D.inlB,Go.D.ppB⟩
theorem all:TreeAll (FnOk Tryz.prog aj ids alts) (erProg prog).fns:=⟨⟨⟨⟨⟨⟨⟨⟨trivial,l0,trivial⟩,l85,trivial⟩,AZ,⟨trivial,l108,trivial⟩⟩,l109,⟨⟨trivial,l110,trivial⟩,l111,⟨trivial,BX,trivial⟩⟩⟩,l113,⟨⟨⟨trivial,l114,trivial⟩,l115,⟨trivial,Ba,trivial⟩⟩,Ae,⟨⟨trivial,A8,trivial⟩,AB,⟨trivial,BI,trivial⟩⟩⟩⟩,Cj,⟨⟨⟨⟨⟨trivial,l140,trivial⟩,zW,trivial⟩,l216,⟨trivial,l217,trivial⟩⟩,l218,⟨⟨trivial,l219,trivial⟩,l220,⟨trivial,l221,trivial⟩⟩⟩,l222,⟨⟨⟨trivial,l223,trivial⟩,l224,⟨trivial,l225,trivial⟩⟩,l226,⟨⟨trivial,l227,trivial⟩,l228,⟨trivial,l229,trivial⟩⟩⟩⟩⟩,l230,⟨⟨⟨⟨⟨⟨trivial,l231,trivial⟩,l232,trivial⟩,CZ,⟨trivial,Bo,trivial⟩⟩,Ak,⟨⟨trivial,zZ,trivial⟩,l237,⟨trivial,l238,trivial⟩⟩⟩,CU,⟨⟨⟨trivial,Bz,trivial⟩,Bv,⟨trivial,BG,trivial⟩⟩,C9,⟨⟨trivial,AP,trivial⟩,Ad,⟨trivial,Cb,trivial⟩⟩⟩⟩,Dl,⟨⟨⟨⟨⟨trivial,l282,trivial⟩,l340,trivial⟩,l398,⟨trivial,l399,trivial⟩⟩,l400,⟨⟨trivial,l401,trivial⟩,l402,⟨trivial,l403,trivial⟩⟩⟩,l404,⟨⟨⟨trivial,l405,trivial⟩,Ar,⟨trivial,Am,trivial⟩⟩,CG,⟨⟨trivial,l409,trivial⟩,BD,⟨trivial,Ah,trivial⟩⟩⟩⟩⟩⟩,Dj,⟨⟨⟨⟨⟨⟨⟨trivial,Bq,trivial⟩,Aj,trivial⟩,l433,⟨trivial,l434,trivial⟩⟩,l439,⟨⟨trivial,Bc,trivial⟩,Dn,⟨trivial,l459,trivial⟩⟩⟩,l460,⟨⟨⟨trivial,l494,trivial⟩,l495,⟨trivial,l496,trivial⟩⟩,l497,⟨⟨trivial,l498,trivial⟩,l499,⟨trivial,l500,trivial⟩⟩⟩⟩,l501,⟨⟨⟨⟨⟨trivial,l502,trivial⟩,l503,trivial⟩,BA,⟨trivial,BJ,trivial⟩⟩,Bj,⟨⟨trivial,CQ,trivial⟩,Dh,⟨trivial,Bh,trivial⟩⟩⟩,l516,⟨⟨⟨trivial,l517,trivial⟩,l518,⟨trivial,l519,trivial⟩⟩,BN,⟨⟨trivial,l543,trivial⟩,l544,⟨trivial,l545,trivial⟩⟩⟩⟩⟩,l546,⟨⟨⟨⟨⟨⟨trivial,l547,trivial⟩,l548,trivial⟩,l549,⟨trivial,BZ,trivial⟩⟩,AY,⟨⟨trivial,Bd,trivial⟩,CY,⟨trivial,Ac,trivial⟩⟩⟩,l560,⟨⟨⟨trivial,l561,trivial⟩,l562,⟨trivial,Dk,trivial⟩⟩,l578,⟨⟨trivial,l579,trivial⟩,l580,⟨trivial,l581,trivial⟩⟩⟩⟩,l582,⟨⟨⟨⟨trivial,l583,trivial⟩,l584,⟨trivial,l585,trivial⟩⟩,Cm,⟨⟨trivial,l592,trivial⟩,l593,⟨trivial,BP,trivial⟩⟩⟩,l2001,⟨⟨⟨trivial,zB,trivial⟩,l3003,⟨trivial,l3004,trivial⟩⟩,zq,⟨⟨trivial,zV,trivial⟩,zC,⟨trivial,zu,trivial⟩⟩⟩⟩⟩⟩⟩
theorem okT:okTree prog.fns=true:=by kernel_rfl
theorem link:Linked Tryz.prog (phiG ids alts) ⟨psiOf ids,aj⟩ (erProg prog):=linked (by kernel_rfl) (by kernel_rfl) (all) (by kernel_rfl) (by kernel_rfl)
end P
end
section
namespace Go.Pw
open Go Go.Pav
inductive CT where
 | bool
 | int (k:IntKind)
 | str
 | slice (ts:List CT)
inductive Ty:CT→AV→Prop
 | bool (b:Bool):Ty .bool (.bool b)
 | int (k:IntKind) (n:Int) (h1:k.min≤n) (h2:n≤k.max):Ty (.int k) (.int k n)
 | str (s:List UInt8) (h:s.length < 2 ^ 63):Ty .str (.str s)
 | slice (ts:List CT) (es:List (List AV)) (ex:Bool) (hn:es.length < 2 ^ 63) (hw:∀ (i:Nat) (e:List AV),es[i]?=some e→e.length=ts.length)
  (h:∀ (i:Nat) (e:List AV) (j:Nat) (ct:CT) (x:AV),es[i]?=some e→ts[j]?=some ct→e[j]?=some x→Ty ct x):Ty (.slice ts) (.ro ts.length es ex)
theorem Ty.isC {ct:CT} {a:AV} (h:Ty ct a):Pw.isC a=true:=by cases h <;> rfl
def fieldsT (F:TypeId→Option (List CT)) (P:Program):List Field→Nat→Option (List CT)
 | [],_=>some []
 | f::r,off=>(F f.type).bind fun ts=>if f.offset=off∧ts.length=P.cellsOf f.type then (fieldsT F P r (off+ts.length)).map (ts++·) else none
def flatT (P:Program):Nat→TypeId→Option (List CT)
 | 0,_=>none
 | n+1,t=>match P.underlying t with
  | some .bool=>some [.bool]
  | some (.int k)=>some [.int k]
  | some .string=>some [.str]
  | some (.slice e)=>(flatT P n e).bind fun ts=>if ts.length=P.cellsOf e∧0 < ts.length then some [.slice ts] else none
  | some (.struct fs)=>(fieldsT (flatT P n) P fs.toList 0).bind fun ts=>if ts.length=P.cellsOf t then some ts else none
  | some (.array m e)=>(flatT P n e).bind fun ts=>if ts.length=P.cellsOf e∧m * ts.length=P.cellsOf t then some (List.replicate m ts).flatten else none
  | _=>none
theorem flatten_rep {α:Type} (ts:List α):∀ (m j:Nat),j < m * ts.length→(List.replicate m ts).flatten[j]?=ts[j % ts.length]?
 | 0,j,h=>by simp at h
 | m+1,j,h=>by
  rw [List.replicate_succ,List.flatten_cons]
  rcases Nat.lt_or_ge j ts.length with hl | hl
  · rw [List.getElem?_append_left hl,Nat.mod_eq_of_lt hl]
  · rw [List.getElem?_append_right hl,flatten_rep ts m (j - ts.length) (by rw [Nat.add_mul] at h;omega),Nat.mod_eq_sub_mod hl]
theorem trod_array {H:Type} {enc:TypeId × Value→H} {P:Program} {w:World} {base:Nat} {spare:Nat→Bool} {held:Bool} {fuel:Nat} {t:TypeId} {cs:List Value} {x:DataW H × List MemPlace} {m:Nat} {e:TypeId}
 (ht:P.underlying t=some (.array m e)) (h:DataW.trod enc P w base spare held fuel t cs=some x) :
 ∃ (xs:List (DataW H × List MemPlace)) (n:Nat),fuel=n+1∧cs.length=P.cellsOf t∧xs.length=m ∧
  ∀ i,i < m→DataW.trod enc P w base spare held n e ((cs.drop (i * P.cellsOf e)).take (P.cellsOf e))=xs[i]?:=by
 cases fuel with
 | zero=>simp [DataW.trod] at h
 | succ n =>
  unfold DataW.trod at h
  rw [ht] at h
  split at h <;> simp_all
  obtain ⟨hl,xs,hp,hd⟩:=h
  exact ⟨xs,by simpa using mapM_some_length hp,fun i hi=>mapM_some_get hp i i (List.getElem?_range hi)⟩
def CellOk (ψ:Psi) (W:World) (ct:CT) (v:Value):Prop :=
 ∃ a a',Ty ct a∧VD id (fun _=>False) a a'∧a'.cell=true∧VR ψ W (fun c=>c < W.heap.size) (fun _=>(0,0)) (fun _=>False) a' v
section
variable {H:Type} {enc:TypeId × Value→H} {P:Program} {W:World} {ψ:Psi}
theorem fields_open {F:TypeId→Option (List CT)} {n:Nat} {cs:List Value}
 (hF:∀ t cs x ts,F t=some ts→DataW.trod enc P W 0 (fun _=>true) true n t cs=some x→cs.length=ts.length∧∀ (j:Nat) (ct:CT),ts[j]?=some ct→∃ v,cs[j]?=some v∧CellOk ψ W ct v) :
 ∀ (fs:List Field) (off:Nat) (ts:List CT),fieldsT F P fs off=some ts→(∀ f ∈ fs,∃ x,DataW.trod enc P W 0 (fun _=>true) true n f.type ((cs.drop f.offset).take (P.cellsOf f.type))=some x) →
  ∀ (j:Nat) (ct:CT),ts[j]?=some ct→∃ v,cs[off+j]?=some v∧CellOk ψ W ct v:=by
 intro fs
 induction fs with
 | nil=>intro off ts h _ j ct hj;simp only [fieldsT,Option.some.injEq] at h;subst h;simp at hj
 | cons f r ih =>
  intro off ts h hx j ct hj
  simp only [fieldsT,Option.bind_eq_some_iff] at h
  obtain ⟨t1,h1,h⟩:=h
  split at h
  · rename_i hc
    simp only [Option.map_eq_some_iff] at h
    obtain ⟨t2,h2,rfl⟩:=h
    rcases Nat.lt_or_ge j t1.length with hl | hl
    · rw [List.getElem?_append_left hl] at hj
      obtain ⟨x,q⟩:=hx f (by simp)
      obtain ⟨v,q1,q2⟩:=(hF _ _ _ _ h1 q).2 j ct hj
      refine ⟨v,?_,q2⟩
      rw [List.getElem?_take] at q1
      split at q1
      · rw [List.getElem?_drop] at q1;rw [← hc.1];exact q1
      · cases q1
    · rw [List.getElem?_append_right hl] at hj
      obtain ⟨v,q1,q2⟩:=ih _ _ h2 (fun f hf=>hx f (by simp [hf])) _ ct hj
      exact ⟨v,by rw [← q1];congr 1;omega,q2⟩
  · cases h
theorem cells_open:∀ (n k:Nat) (t:TypeId) (cs:List Value) (x:DataW H × List MemPlace) (ts:List CT),flatT P k t=some ts→DataW.trod enc P W 0 (fun _=>true) true n t cs=some x →
 cs.length=ts.length∧∀ (j:Nat) (ct:CT),ts[j]?=some ct→∃ v,cs[j]?=some v∧CellOk ψ W ct v:=by
 intro n
 induction n with
 | zero=>intro k t cs x ts _ h;simp [DataW.trod] at h
 | succ n ih =>
  intro k t cs x ts hf h
  cases k with
  | zero=>simp [flatT] at hf
  | succ k =>
   have one:∀ {v:Value} {ct:CT},cs=[v]→ts=[ct]→CellOk ψ W ct v→cs.length=ts.length∧∀ (j:Nat) (ct:CT),ts[j]?=some ct→∃ v,cs[j]?=some v∧CellOk ψ W ct v:=by
    intro v ct h1 h2 h3
    subst h1;subst h2
    refine ⟨rfl,fun j ct' hj=>?_⟩
    cases j with
    | zero=>simp only [List.getElem?_cons_zero,Option.some.injEq] at hj;subst hj;exact ⟨v,rfl,h3⟩
    | succ j=>simp at hj
   unfold flatT at hf
   split at hf
   · rename_i ht
     cases hf
     obtain ⟨b,e,_⟩:=DataW.trod_bool ht h
     exact one e rfl ⟨_,_,.bool b,.bool b,rfl,.bool b⟩
   · rename_i k' ht
     cases hf
     obtain ⟨m,e,_,hw⟩:=DataW.trod_int ht h
     simp only [Lit.wf,Bool.and_eq_true,decide_eq_true_eq] at hw
     exact one e rfl ⟨_,_,.int k' m hw.1 hw.2,.int k' m,rfl,.int k' m⟩
   · rename_i ht
     cases hf
     obtain ⟨s,e,_,hw⟩:=DataW.trod_string ht h
     refine one e rfl ⟨.str s.data.toList,_,.str _ ?_,.str _,rfl,?_⟩
     · simp only [maxLen] at hw
       have:s.data.toList.length=s.size:=rfl
       omega
     · have:=VR.str (ψ:=ψ) (w:=W) (S:=fun c=>c < W.heap.size) (m:=fun _=>(0,0)) (A:=fun _=>False) s.data.toList
       exact this
   · rename_i el ht
     simp only [Option.bind_eq_some_iff] at hf
     obtain ⟨us,hu,hf⟩:=hf
     split at hf
     · rename_i hz
       obtain ⟨hz,hz0⟩:=hz
       cases hf
       rcases DataW.trod_slice ht h with ⟨e,_⟩ | ⟨a,len,cap,elems,rest,n',hn,e,_,_,hl,hm,hlen,hel,hsp,_⟩
       · exact one e rfl ⟨.ro us.length [] true,.nils,.slice us [] true (by simp) (by simp) (by simp),.ronil _ _,rfl,.nils⟩
       · cases hn
         refine one e rfl ?_
         have row:∀ i,i < cap→∃ vs y,W.cells? 0 (a.add (i * us.length)) us.length=some vs∧DataW.trod enc P W 0 (fun _=>true) true n el vs=some y:=by
          intro i hi
          rcases Nat.lt_or_ge i len with hil | hil
          · have:=hel i hil
            rw [List.getElem?_eq_getElem (by omega),Option.bind_eq_some_iff,← hz] at this
            obtain ⟨vs,q1,q2⟩:=this
            exact ⟨vs,_,q1,q2⟩
          · obtain ⟨q0,q⟩:=hsp rfl
            have:=q (i - len) (by omega)
            rw [List.getElem?_eq_getElem (by omega),Option.bind_eq_some_iff,← hz,show len+(i - len)=i by omega] at this
            obtain ⟨vs,q1,q2⟩:=this
            exact ⟨vs,_,q1,q2⟩
         rcases Nat.eq_zero_or_pos cap with hc0 | hc0
         · subst hc0
           obtain rfl:len=0:=by omega
           exact ⟨.ro us.length [] true,.ro us.length [] true,.slice us [] true (by simp) (by simp) (by simp),.ro _ [] [] true true (by simp) rfl id (by simp) (by simp),rfl,.roe _ _ _ 0 (fun _=>rfl)⟩
         · obtain ⟨b,off,spot⟩:=a
           have hfirst:∃ v,W.cell? ⟨b,off,spot⟩=some v:=by
            obtain ⟨vs,_,q1,_⟩:=row 0 hc0
            obtain ⟨_,q2,q3⟩:=World.cells?_some q1
            have:=q3 0 hz0
            rw [List.getElem?_eq_getElem (by omega)] at this
            exact ⟨_,by simpa [Addr.add] using this⟩
           obtain ⟨v0,hv0⟩:=hfirst
           obtain rfl:spot=none:=World.cell?_spot hv0
           have hS:b < W.heap.size:=by
            unfold World.cell? at hv0
            split at hv0
            · rename_i hb;exact (Array.getElem?_eq_some_iff.1 hb).1
            · cases hv0
           have key:∀ p:Nat × Nat,∃ q:Value × AV × AV,p.1 < len→∀ ct,us[p.2]?=some ct→W.cell? ⟨b,off+p.1 * us.length+p.2,none⟩=some q.1∧Ty ct q.2.1∧VD id (fun _=>False) q.2.1 q.2.2∧q.2.2.cell=true ∧
            VR ψ W (fun c=>c < W.heap.size) (fun _=>(0,0)) (fun _=>False) q.2.2 q.1:=by
            intro ⟨i,j⟩
            by_cases hi:i < len
            · cases hj:us[j]? with
              | none=>exact ⟨default,fun _ ct q=>by cases q⟩
              | some ct =>
               obtain ⟨vs,y,q1,q2⟩:=row i (by omega)
               obtain ⟨v,q3,c1,c2,q4,q5,q6,q7⟩:=(ih _ _ _ _ _ hu q2).2 j ct hj
               refine ⟨(v,c1,c2),fun _ ct' q=>?_⟩
               cases q
               refine ⟨?_,q4,q5,q6,q7⟩
               obtain ⟨_,r1,r2⟩:=World.cells?_some q1
               have hjl:j < us.length:=(List.getElem?_eq_some_iff.1 hj).1
               have:=r2 j hjl
               rw [q3] at this
               rw [← this]
               congr 1
               simp only [Addr.add]
               split <;> split <;> simp_all <;> omega
            · exact ⟨default,fun q=>absurd q hi⟩
           obtain ⟨F,hF⟩:=Classical.axiomOfChoice key
           let es:List (List AV):=(List.range len).map fun i=>(List.range us.length).map fun j=>(F (i,j)).2.1
           let es':List (List AV):=(List.range len).map fun i=>(List.range us.length).map fun j=>(F (i,j)).2.2
           have g1:∀ (i:Nat) (e:List AV),es[i]?=some e→i < len∧e=(List.range us.length).map fun j=>(F (i,j)).2.1:=by
            intro i e he
            simp only [es,List.getElem?_map,Option.map_eq_some_iff] at he
            obtain ⟨i',q1,q2⟩:=he
            have:=List.getElem?_eq_some_iff.1 q1
            obtain ⟨q3,q4⟩:=this
            simp at q3 q4
            subst q4
            exact ⟨q3,q2.symm⟩
           have g1':∀ (i:Nat) (e:List AV),es'[i]?=some e→i < len∧e=(List.range us.length).map fun j=>(F (i,j)).2.2:=by
            intro i e he
            simp only [es',List.getElem?_map,Option.map_eq_some_iff] at he
            obtain ⟨i',q1,q2⟩:=he
            have:=List.getElem?_eq_some_iff.1 q1
            obtain ⟨q3,q4⟩:=this
            simp at q3 q4
            subst q4
            exact ⟨q3,q2.symm⟩
           have g2:∀ (G:Nat→AV) (j:Nat) (x:AV),((List.range us.length).map G)[j]?=some x→∃ ct,us[j]?=some ct∧x=G j:=by
            intro G j x hx
            simp only [List.getElem?_map,Option.map_eq_some_iff] at hx
            obtain ⟨j',q1,q2⟩:=hx
            obtain ⟨q3,q4⟩:=List.getElem?_eq_some_iff.1 q1
            simp at q3 q4
            subst q4
            exact ⟨us[j],List.getElem?_eq_getElem q3,q2.symm⟩
           have l1:es.length=len:=by simp [es]
           have l2:es'.length=len:=by simp [es']
           refine ⟨.ro us.length es (decide (cap=len)),.ro us.length es' (decide (cap=len)),.slice us es _ ?_ ?_ ?_,.ro _ es es' _ _ ?_ (by rw [l1,l2]) id ?_ ?_,rfl,?_⟩
           · rw [l1];simp only [maxLen] at hm;omega
           · intro i e he;rw [(g1 i e he).2];simp
           · intro i e j ct y he hct hy
             obtain ⟨q1,rfl⟩:=g1 i e he
             obtain ⟨ct',q2,rfl⟩:=g2 _ j y hy
             rw [hct] at q2
             cases q2
             exact (hF (i,j) q1 ct hct).2.1
           · intro e he y hy
             obtain ⟨i,he⟩:=List.getElem?_of_mem he
             obtain ⟨j,hy⟩:=List.getElem?_of_mem hy
             obtain ⟨q1,rfl⟩:=g1 i e he
             obtain ⟨ct',q2,rfl⟩:=g2 _ j y hy
             exact (hF (i,j) q1 ct' q2).2.1.isC
           · intro i e e' he he'
             rw [(g1 i e he).2,(g1' i e' he').2];simp
           · intro i e e' j y y' he he' hy hy'
             obtain ⟨q1,rfl⟩:=g1 i e he
             obtain ⟨_,rfl⟩:=g1' i e' he'
             obtain ⟨ct',q2,rfl⟩:=g2 _ j y hy
             obtain ⟨_,_,rfl⟩:=g2 _ j y' hy'
             exact (hF (i,j) q1 ct' q2).2.2.1
           · have:=VR.ro (ψ:=ψ) (w:=W) (S:=fun c=>c < W.heap.size) (m:=fun _=>(0,0)) (A:=fun _=>False) us.length es' (decide (cap=len)) b off cap (fun i j=>(F (i,j)).1) hS
              (fun i e he=>by rw [(g1' i e he).2];simp) (by rw [l2];exact hl) (fun q=>by rw [l2];simpa using q)
              (fun i e j y he hy=>by
               obtain ⟨q1,rfl⟩:=g1' i e he
               obtain ⟨ct',q2,rfl⟩:=g2 _ j y hy
               have:=hF (i,j) q1 ct' q2
               exact ⟨this.2.2.2.1,this.1⟩)
              (fun i e j y he hy=>by
               obtain ⟨q1,rfl⟩:=g1' i e he
               obtain ⟨ct',q2,rfl⟩:=g2 _ j y hy
               exact (hF (i,j) q1 ct' q2).2.2.2.2)
             rw [l2] at this
             exact this
     · cases hf
   · rename_i fs ht
     simp only [Option.bind_eq_some_iff] at hf
     obtain ⟨us,hu,hf⟩:=hf
     split at hf
     · rename_i hz
       cases hf
       obtain ⟨xs,n',hn,_,hcl,hxl,hx⟩:=DataW.trod_struct ht h
       cases hn
       refine ⟨by rw [hcl,hz],fun j ct hj=>?_⟩
       have:=fields_open (cs:=cs) (F:=flatT P k) (n:=n) (fun t cs x ts h1 h2=>ih k t cs x ts h1 h2) fs.toList 0 _ hu (fun f hf=>by
        obtain ⟨i,hi⟩:=List.getElem?_of_mem hf
        have hi':fs[i]?=some f:=by simpa using hi
        have hlt:i < fs.size:=(Array.getElem?_eq_some_iff.1 hi').1
        have:=hx i f hi'
        rw [List.getElem?_eq_getElem (by omega)] at this
        exact ⟨_,this⟩) j ct hj
       simpa using this
     · cases hf
   · rename_i m' e ht
     simp only [Option.bind_eq_some_iff] at hf
     obtain ⟨us,hu,hf⟩:=hf
     split at hf
     · rename_i hz
       obtain ⟨hz1,hz2⟩:=hz
       cases hf
       obtain ⟨xs,n',hn,hcl,hxl,hx⟩:=trod_array ht h
       cases hn
       have hlen:(List.replicate m' us).flatten.length=m' * us.length:=by simp
       refine ⟨by rw [hcl,hlen,hz2],fun j ct hj=>?_⟩
       have hjl:j < m' * us.length:=by rw [← hlen];exact (List.getElem?_eq_some_iff.1 hj).1
       have hk:0 < us.length:=by
        rcases Nat.eq_zero_or_pos us.length with q | q
        · rw [q,Nat.mul_zero] at hjl;omega
        · exact q
       rw [flatten_rep us m' j hjl] at hj
       have hq:j / us.length < m':=Nat.div_lt_of_lt_mul (by rw [Nat.mul_comm];exact hjl)
       have hxq:=hx (j / us.length) hq
       rw [List.getElem?_eq_getElem (by omega)] at hxq
       obtain ⟨v,q1,q2⟩:=(ih k e _ _ us hu hxq).2 (j % us.length) ct hj
       refine ⟨v,?_,q2⟩
       rw [List.getElem?_take] at q1
       split at q1
       · rw [List.getElem?_drop,← hz1] at q1
         rw [← q1];congr 1
         exact (Nat.div_add_mod' j us.length).symm
       · cases q1
     · cases hf
   · cases hf
inductive AT where
 | c (ct:CT)
 | g (ts:List CT)
def AT.has:AT→AV→Prop
 | .c ct,a=>Ty ct a
 | .g ts,a=>∃ es,a=.agg es∧es.length=ts.length∧∀ (j:Nat) (ct:CT) (x:AV),ts[j]?=some ct→es[j]?=some x→Ty ct x
def argT (P:Program) (t:TypeId):Option AT :=
 match P.underlying t with
 | some (.struct _)=>(flatT P 20 t).map .g
 | some (.array _ _)=>(flatT P 20 t).map .g
 | some .bool | some (.int _) | some .string | some (.slice _)=>match flatT P 20 t with | some [ct]=>some (.c ct) | _=>none
 | _=>none
theorem cells_plain {t:TypeId} {base:Nat} {v:Value} (hu:P.underlying t=some .bool∨(∃ k,P.underlying t=some (.int k))∨P.underlying t=some .string∨∃ e,P.underlying t=some (.slice e)) (h:Value.okWide P W .any base t v) :
 v.cells=#[v]:=by
 cases v <;> try rfl
 rcases hu with hu | ⟨k,hu⟩ | hu | ⟨e,hu⟩ <;> simp [Value.okWide,hu,Cell.okWide,Cell.ok] at h
theorem arg_open {t:TypeId} {at_:AT} (ha:argT P t=some at_) {base:Nat} {v:Value} (hv:Value.okWide P W .any base t v) {d:DataW H} {p:List MemPlace} (h:DataW.Trod enc P W 0 (fun _=>true) true t v d p) :
 ∃ a a',at_.has a∧VD id (fun _=>False) a a'∧VR ψ W (fun c=>c < W.heap.size) (fun _=>(0,0)) (fun _=>False) a' v:=by
 obtain ⟨fuel,h⟩:=h
 have plain:(P.underlying t=some .bool∨(∃ k,P.underlying t=some (.int k))∨P.underlying t=some .string∨∃ e,P.underlying t=some (.slice e)) →
  (match flatT P 20 t with | some [ct]=>some (AT.c ct) | _=>none)=some at_→∃ a a',at_.has a∧VD id (fun _=>False) a a'∧VR ψ W (fun c=>c < W.heap.size) (fun _=>(0,0)) (fun _=>False) a' v:=by
  intro hu he
  split at he
  · rename_i ct hf
    cases he
    rw [cells_plain hu hv] at h
    obtain ⟨_,q⟩:=cells_open (ψ:=ψ) _ _ _ _ _ _ hf h
    obtain ⟨v',q1,a,a',q2,q3,_,q4⟩:=q 0 ct rfl
    simp only [List.getElem?_cons_zero,Option.some.injEq] at q1
    subst q1
    exact ⟨a,a',q2,q3,q4⟩
  · cases he
 have whole:(∃ cs,v=.agg cs)→(flatT P 20 t).map AT.g=some at_→∃ a a',at_.has a∧VD id (fun _=>False) a a'∧VR ψ W (fun c=>c < W.heap.size) (fun _=>(0,0)) (fun _=>False) a' v:=by
  rintro ⟨cs,rfl⟩ ha
  simp only [Option.map_eq_some_iff] at ha
  obtain ⟨ts,hf,rfl⟩:=ha
  obtain ⟨hl,q⟩:=cells_open (ψ:=ψ) _ _ _ _ _ _ hf h
  simp only [Value.cells] at hl q
  have key:∀ j:Nat,∃ x:AV × AV,∀ ct,ts[j]?=some ct→Ty ct x.1∧VD id (fun _=>False) x.1 x.2∧x.2.cell=true∧∃ v,cs.toList[j]?=some v∧VR ψ W (fun c=>c < W.heap.size) (fun _=>(0,0)) (fun _=>False) x.2 v:=by
   intro j
   cases hj:ts[j]? with
   | none=>exact ⟨default,fun _ q=>by cases q⟩
   | some ct =>
    obtain ⟨v,q1,a,a',q2,q3,q4,q5⟩:=q j ct hj
    exact ⟨(a,a'),fun ct' e=>by cases e;exact ⟨q2,q3,q4,v,q1,q5⟩⟩
  obtain ⟨F,hF⟩:=Classical.axiomOfChoice key
  have g2:∀ (G:Nat→AV) (j:Nat) (x:AV),((List.range ts.length).map G)[j]?=some x→∃ ct,ts[j]?=some ct∧x=G j:=by
   intro G j x hx
   simp only [List.getElem?_map,Option.map_eq_some_iff] at hx
   obtain ⟨j',q1,q2⟩:=hx
   obtain ⟨q3,q4⟩:=List.getElem?_eq_some_iff.1 q1
   simp at q3 q4
   subst q4
   exact ⟨ts[j],List.getElem?_eq_getElem q3,q2.symm⟩
  refine ⟨.agg ((List.range ts.length).map fun j=>(F j).1),.agg ((List.range ts.length).map fun j=>(F j).2),⟨_,rfl,by simp,?_⟩,.agg _ _ (by simp) ?_,.agg _ _ ?_ ?_ ?_⟩
  · intro j ct x hct hx
    obtain ⟨ct',q1,rfl⟩:=g2 _ j x hx
    exact (hF j ct hct).1
  · intro j x x' hx hx'
    obtain ⟨ct,q1,rfl⟩:=g2 _ j x hx
    obtain ⟨_,_,rfl⟩:=g2 _ j x' hx'
    exact (hF j ct q1).2.1
  · simp only [List.length_map,List.length_range]
    rw [← hl];simp
  · intro j x hx
    obtain ⟨ct,q1,rfl⟩:=g2 _ j x hx
    exact (hF j ct q1).2.2.1
  · intro j x hx
    obtain ⟨ct,q1,rfl⟩:=g2 _ j x hx
    obtain ⟨v,q2,q3⟩:=(hF j ct q1).2.2.2
    have e:cs[j]?=some v:=by simpa using q2
    rw [Array.getD_eq_getD_getElem?,e]
    exact q3
 unfold argT at ha
 split at ha
 · rename_i fs ht
   simp only [Value.okWide,ht] at hv
   obtain ⟨cs,hv,_,_⟩:=hv
   exact whole ⟨cs,hv⟩ ha
 · rename_i m e ht
   simp only [Value.okWide,ht] at hv
   obtain ⟨cs,hv,_,_⟩:=hv
   exact whole ⟨cs,hv⟩ ha
 · rename_i ht;exact plain (.inl ht) ha
 · rename_i k ht;exact plain (.inr (.inl ⟨k,ht⟩)) ha
 · rename_i ht;exact plain (.inr (.inr (.inl ht))) ha
 · rename_i e ht;exact plain (.inr (.inr (.inr ⟨e,ht⟩))) ha
 · cases ha
def TyAll:List AT→List AV→Prop
 | [],[]=>True
 | a::r,x::s=>a.has x∧TyAll r s
 | _,_=>False
theorem args_open {base:Nat}:∀ {ts:List TypeId} {ats:List AT} {vs:List Value} {ds:List (DataW H)} {p:List MemPlace},ts.map (argT P)=ats.map some →
 (∀ (j:Nat) (t:TypeId) (v:Value),ts[j]?=some t→vs[j]?=some v→Value.okWide P W .any base t v)→DataW.TrodAll enc P W 0 (fun _=>true) true ts vs ds p →
 ∃ us us',TyAll ats us∧Rel2 (VD id fun _=>False) us us'∧us'.length=vs.length∧∀ (j:Nat) (x:AV) (v:Value),us'[j]?=some x→vs[j]?=some v→VR ψ W (fun c=>c < W.heap.size) (fun _=>(0,0)) (fun _=>False) x v
 | [],[],vs,ds,p,_,_,h=>by
  obtain ⟨rfl,_,_⟩:=ChangeShapes.trodAll_nil h
  exact ⟨[],[],trivial,⟨rfl,by simp⟩,rfl,by simp⟩
 | t::ts,at_::ats,_,_,_,hm,hv,h=>by
  obtain ⟨v,vs1,d,ds1,p1,q1,rfl,rfl,rfl,h1,h2⟩:=ChangeShapes.trodAll_cons h
  simp only [List.map_cons,List.cons.injEq] at hm
  obtain ⟨a,a',r1,r2,r3⟩:=arg_open (ψ:=ψ) hm.1 (hv 0 t v rfl rfl) h1
  obtain ⟨us,us',s1,s2,s3,s4⟩:=args_open hm.2 (fun j t v e1 e2=>hv (j+1) t v e1 e2) h2
  refine ⟨a::us,a'::us',⟨r1,s1⟩,⟨by simp [s2.1],fun j x x' e1 e2=>?_⟩,by simp [s3],fun j x v' e1 e2=>?_⟩
  · cases j with
    | zero=>cases e1;cases e2;exact r2
    | succ j=>exact s2.2 j x x' e1 e2
  · cases j with
    | zero=>cases e1;cases e2;exact r3
    | succ j=>exact s4 j x v' e1 e2
 | [],_::_,_,_,_,hm,_,_=>by simp at hm
 | _::_,[],_,_,_,hm,_,_=>by simp at hm
theorem law_callsL {Φ:Nat→FuncId→Option Nat} {D:WProg} (hL:Linked P Φ ψ (erProg D)) (hok:okTree D.fns=true) (hlay:∀ c o,ψ.laid c=some o→c < W.heap.size∧W.heap[c]?=some o) {f:Nat} {ts:List TypeId} {ats:List AT} (hts:ts.map (argT P)=ats.map some)
 (core:∀ us,TyAll ats us→FnW D f us=some (.bool true)) {base:Nat} {args:Array Value} {ds:List (DataW H)} {p:List MemPlace}
 (hv:∀ (j:Nat) (t:TypeId) (v:Value),ts[j]?=some t→args[j]?=some v→Value.okWide P W .any base t v) (hA:DataW.TrodAll enc P W 0 (fun _=>true) true ts args.toList ds p) :
 Calls P (ψ f) args W fun e W'=>e=.returned (.bool true)∧(∀ c,c < W.heap.size→W'.heap[c]?=W.heap[c]?)∧W.heap.size≤W'.heap.size∧W'.os=W.os∧W'.output=W.output:=by
 obtain ⟨us,us',h1,h2,h3,h4⟩:=args_open (ψ:=ψ) hts (fun j t v e1 e2=>hv j t v e1 (by simpa using e2)) hA
 obtain ⟨n,hc⟩:=fnW_call.1 (core us h1)
 obtain ⟨v',hc',hvd⟩:=callW_ok hok h2 hc
 rw [hvd.bool_inv] at hc'
 refine (callF_ok hL hc' (w:=W) (S:=fun c=>c < W.heap.size) (m:=fun _=>(0,0)) (cargs:=args) hlay (fun _ h=>h) (by rw [h3];simp) fun j x hx=>?_).mono ?_
 · have hj:j < args.size:=by have:=(List.getElem?_eq_some_iff.1 hx).1;rw [h3] at this;simpa using this
   rw [Array.getD_eq_getD_getElem?,Array.getElem?_eq_getElem hj]
   exact h4 j x _ hx (by simp [hj])
 · rintro e W' ⟨cv,S',m',rfl,hr,q1,q2,q3,q4⟩
   rw [hr.inv_bool]
   exact ⟨rfl,q1,q2,q3,q4⟩
theorem nZ {ψf:Nat→FuncId} {Φ:Nat→FuncId→Option Nat} {D:WProg} (hL:Linked P Φ ⟨ψf,aj⟩ (erProg D)) (hok:okTree D.fns=true) {f:Nat} {ts:List TypeId} {ats:List AT} (hts:ts.map (argT P)=ats.map some)
 (core:∀ us,TyAll ats us→FnW D f us=some (.bool true)) {base:Nat} {args:Array Value} {ds:List (DataW H)} {p:List MemPlace}
 (hv:∀ (j:Nat) (t:TypeId) (v:Value),ts[j]?=some t→args[j]?=some v→Value.okWide P W .any base t v) (hA:DataW.TrodAll enc P W 0 (fun _=>true) true ts args.toList ds p) :
 Calls P (ψf f) args W fun e W'=>e=.returned (.bool true)∧(∀ c,c < W.heap.size→W'.heap[c]?=W.heap[c]?)∧W.heap.size≤W'.heap.size∧W'.os=W.os∧W'.output=W.output :=
 law_callsL hL hok (fun _ _ h=>by cases h) hts core hv hA
theorem trodAll_old {W':World} (hh:∀ c,c < W.heap.size→W'.heap[c]?=W.heap[c]?) {base:Nat} {sp:Nat→Bool} {held:Bool}:∀ {ts:List TypeId} {vs:List Value} {ds:List (DataW H)} {ps:List MemPlace},
 DataW.TrodAll enc P W base sp held ts vs ds ps→(∀ p ∈ ps,p.block < W.heap.size)→DataW.TrodAll enc P W' base sp held ts vs ds ps
 | [],[],[],_,h,_=>h
 | _::_,_::_,_::_,_,⟨p,q,⟨n,h1⟩,h2,e⟩,hs=>⟨p,q,⟨n,DataW.trod_carry n _ _ _ h1 fun x hx=>by
  have hlt:=hs x (by rw [e];exact List.mem_append_left _ hx)
  cases x with
  | cell b off=>simp only [World.sameAt,World.cell?];rw [hh b hlt]
  | map b=>exact hh b hlt⟩,trodAll_old hh h2 (fun x hx=>hs x (by rw [e];exact List.mem_append_right _ hx)),e⟩
theorem keptBut_old {W':World} (hh:∀ c,c < W.heap.size→W'.heap[c]?=W.heap[c]?) (ho:W'.os=W.os) (hp:W'.output=W.output) (may:MemPlace→Prop):W.keptBut W' may:=by
 have h:=World.keptBut_refl W may
 refine ⟨ho,hp,fun i hi=>?_⟩
 have:=h.2.2 i hi
 rw [hh i hi]
 exact this
theorem law_post {f:Func} {s:ChangeSpec} {fresh handsOn again:Bool} {W':World} {args:Array Value} {ds gs:List (DataW H)} {before:List MemPlace} {tb:TypeId}
 (kids:Kids P (· < P.types.size)) (full:∀ t e,t < P.types.size→P.underlying t=some (.slice e)→0 < P.cellsOf e)
 (hvars0:s.vars=[]) (hW:DataW.Whole enc P f.params.toList s.vars false W args.toList ds gs before) (hfn:s.fn H (ds++gs)={ results:=[.lit (.bool true)],args:=ds })
 (hps:∀ t ∈ f.params.toList,t < P.types.size) (hr:f.resultTypes=#[tb]) (htb:P.underlying tb=some .bool)
 (hh:∀ c,c < W.heap.size→W'.heap[c]?=W.heap[c]?) (_hsz:W.heap.size≤W'.heap.size) (ho:W'.os=W.os) (hp:W'.output=W.output) :
 s.post enc P f false fresh handsOn again W args (.bool true) W':=by
 have hlt:∀ p ∈ before,p.block < W.heap.size:=hW.lt
 have hW':=hW
 obtain ⟨p,q,hA,hV,rfl,hz,_⟩:=hW
 rw [hvars0] at hV
 obtain ⟨rfl,rfl⟩:=ChangeShapes.trodVars_none hV
 simp only [List.append_nil] at hlt hz hW' hfn
 have hargs:∀ sp:Nat→Bool,(∀ x ∈ p,sp x.block=true)→DataW.TrodAll enc P W' 0 sp true f.params.toList args.toList ds p:=fun sp hsp =>
  trodAll_old hh (DataW.TrodAll.respare kids full hps hA hsp) hlt
 have hvars:∀ sp:Nat→Bool,DataW.TrodVars enc P W' sp s.vars [] []:=fun sp=>by rw [hvars0];rfl
 have hres:∀ (b:Nat) (sp:Nat→Bool) (hd:Bool),DataW.TrodAll enc P W' b sp hd f.resultTypes.toList ((Value.bool true).resultList f.resultTypes.size) [.lit (.bool true)] []:=fun b sp hd=>by
  rw [hr];exact ChangeShapes.trodAll_mk1 (RowKit.shut_bool htb true)
 have hok:∀ (j:Nat) (t:TypeId) (r:Value),f.resultTypes[j]?=some t→((Value.bool true).resultList f.resultTypes.size)[j]?=some r→Value.okWide P W' .any 0 t r :=
  RowKit.ok_one hr rfl (by simp [Value.okWide,htb,Cell.okWide,Cell.ok])
 have hold:∀ x ∈ p,(fun b=>decide (b < W.heap.size)) x.block=true:=fun x hx=>by simpa using hlt x hx
 refine ⟨ds,[],p,[],p,[],hW',?_,?_,?_,keptBut_old hh ho hp _,fun _=>⟨hok,[.lit (.bool true)]++ds,[],([]++p)++[],⟨[]++p,[],?_,hvars _,rfl,?_,fun h=>by cases h⟩,?_⟩⟩
 · rw [List.append_nil,hfn];exact hres _ _ _
 · rw [List.append_nil,hfn];exact hargs _ hold
 · rw [List.append_nil,hfn];exact hvars _
 · exact ChangeShapes.trodAll_append (hargs _ fun _ _=>rfl) (hres _ _ _)
 · intro b off hb
   simp only [List.nil_append,List.append_nil] at hb
   have:=hz b off hb
   unfold World.frozen? at this ⊢
   rw [hh b (hlt _ hb)]
   exact this
 · intro x hx _
   simpa using hx
theorem trodAll_len {base:Nat} {sp:Nat→Bool} {held:Bool}:∀ {ts:List TypeId} {vs:List Value} {ds:List (DataW H)} {ps:List MemPlace},DataW.TrodAll enc P W base sp held ts vs ds ps→ds.length=ts.length
 | [],[],[],_,_=>rfl
 | _::_,_::_,_::_,_,⟨_,_,_,h2,_⟩=>by simp [trodAll_len h2]
def isTrue:Option AV→Bool
 | some (.bool true)=>true
 | _=>false
theorem isTrue_eq {o:Option AV} (h:isTrue o=true):o=some (.bool true):=by
 unfold isTrue at h
 split at h
 · rfl
 · cases h
end
end Go.Pw
end
section
namespace Go.Proofs.YthoeclhpjbbfhaaGreat
open Go.ChangeShapes Go.WideShapes Go.ChangeAt Go.RowKit Go.Pav Go.Pw P
theorem own_:ownKnob Tryz.prog.godebug=none:=by kernel_rfl
theorem kids_:Kids Tryz.prog (· < Tryz.prog.types.size):=kids_rows (by kernel_rfl) (by kernel_rfl)
theorem full_:∀ t e,t < Tryz.prog.types.size→Tryz.prog.underlying t=some (.slice e)→0 < Tryz.prog.cellsOf e:=slices_full_of Tryz.prog (by kernel_rfl)
end Go.Proofs.YthoeclhpjbbfhaaGreat
end
section
namespace Go.D
open Go Go.Pav Go.Pw P
attribute [-simp] List.getElem_cons_drop
variable {C:WProg}
structure It where
 (k t:Int) (x:List UInt8) (m:List (List UInt8)) (e:Bool)
abbrev eIt (i:It):AV:=.agg [.int .u64 i.k,.int .u8 i.t,.str i.x,.ro 1 (i.m.map eS) i.e]
structure jm (C:WProg):Prop extends HasS C where
 wX:C.fns.get 398=some w398
 wQ:C.fns.get 424=some w424
 wO:C.fns.get 494=some w494
 tN:C.fns.get 496=some w496
 yT:C.fns.get 497=some w497
 xK:C.fns.get 498=some w498
 wL:C.fns.get 499=some w499
 xu:C.fns.get 544=some w544
theorem mY (H:HasS C) (s:List UInt8) (hl:s.length≤16):∀ n i,n+i=s.length →
 w511_K0 C ⟨[(3,.int .i64 i),(0,.str s)],[],0⟩=some (.int .i64 (if (s.drop i).all inN=true then 1 else 0)):=by
 intro n
 induction n with
 | zero =>
  intro i hi
  simp only [w511_K0];rw [ck_unf w511_B0.eq_1]
  have h1:s.drop i=[]:=List.drop_eq_nil_of_le (by omega)
  have h3:¬ i < s.length:=by omega
  simp [ck_unf w511_c0.eq_1,h1,h3]
 | succ n ih =>
  intro i hi
  have h1:i < s.length:=by omega
  have:=ih (i+1) (by omega)
  simp only [w511_K0] at this ⊢;rw [ck_unf w511_B0.eq_1]
  rw [drop_cons h1]
  generalize hX:((s.drop (i+1)).all inN)=X at *
  simp at this
  rw [List.all_cons,hX]
  have key:=eP s[i]
  by_cases q1:97≤s[i].toNat <;> by_cases q2:s[i].toNat≤122 <;> by_cases q3:48≤s[i].toNat <;> by_cases q4:s[i].toNat≤57 <;> first
   | (exfalso;omega)
   | (
    have c:inN s[i]=true:=by rcases key with ⟨c,_⟩ | ⟨_,q⟩ <;> first | exact c | (exfalso;omega)
    simp (disch:=omega) [h1,ak,c,q1,q2,q3,q4,this];done)
   | (
    have c:inN s[i]=false:=by rcases key with ⟨_,q⟩ | ⟨c,_⟩ <;> first | exact c | (exfalso;omega)
    simp (disch:=omega) [h1,ak,c,q1,q2,q3,q4];done)
theorem uN (H:HasS C) (s:List UInt8):FnW C 511 [.str s]=some (.int .i64 (if isName s=true then 1 else 0)):=by
 rw [fnW_eq H.xY rfl]
 unfold isName
 by_cases c1:1≤s.length
 · by_cases c2:s.length≤16
   · have:=mY H s c2 s.length 0 (by simp)
     simp only [w511_K0] at this
     simp only [List.drop_zero] at this
     generalize hX:s.all inN=X at *
     simp at this
     have c3:¬ ((s.length:Int) < 1):=by omega
     have c4:¬ (16 < (s.length:Int)):=by omega
     simp [w511,c1,c2,c3,c4,this]
   · have c3:¬ ((s.length:Int) < 1):=by omega
     have c4:(16 < (s.length:Int)):=by omega
     simp [w511,c1,c2,c3,c4]
 · have c3:((s.length:Int) < 1):=by omega
   simp [w511,c1,c3]
theorem uf (H:jm C):Pred C 496 inT where
 asc b hb:=by
  rw [fnW_eq H.tN rfl]
  by_cases c1:32≤b.toNat <;> by_cases c2:126 < b.toNat
  · have c:inT b=false:=decide_eq_false (fun q=>by omega)
    simp [w496,c,c1,c2]
  · have c:inT b=true:=decide_eq_true ⟨c1,by omega⟩
    simp [w496,c,c1,c2]
  · omega
  · have c:inT b=false:=decide_eq_false (fun q=>c1 q.1)
    simp [w496,c,c1,c2]
 high r hr:=by
  rw [fnW_eq H.tN rfl]
  have h1:32≤r:=by omega
  have h2:126 < r:=by omega
  simp [w496,h1,h2]
 qh b hb:=decide_eq_false (fun q=>by omega)
 ne:=by rfl
 ni:=by rfl
structure lQ (C:WProg) (g:Nat) (Q:List UInt8→Bool):Prop where
 ok:∀ s,FnW C g [.str s]=some (.bool (!Q s))
 ne:ppB g=false
 ni:inlB g=false
theorem jD (H:jm C) {g:Nat} {Q:List UInt8→Bool} (G:lQ C g Q) (l:List (List UInt8)) (e:Bool) (hl:l.length≤1000000):∀ n i,n+i=l.length →
 ∃ v:Int,w544_K0 C ⟨[(8,.int .i64 i),(7,.int .i64 l.length),(1,.fn g []),(0,.ro 1 (l.map eS) e)],[],0⟩=some (.int .i64 v)∧decide (v < 0)=(l.drop i).all Q:=by
 intro n
 induction n with
 | zero =>
  intro i hi
  simp only [w544_K0];rw [ck_unf w544_B0.eq_1]
  have h1:l.drop i=[]:=List.drop_eq_nil_of_le (by omega)
  have h3:¬ i < l.length:=by omega
  exact ⟨-1,by simp [ck_unf w544_c0.eq_1,h3],by simp [h1]⟩
 | succ n ih =>
  intro i hi
  have h1:i < l.length:=by omega
  have hN:=G.ne;have hI:=G.ni
  have hb:=G.ok l[i]
  rw [drop_cons h1]
  by_cases c:Q l[i]=true
  · obtain ⟨v,hv,hq⟩:=ih (i+1) (by omega)
    refine ⟨v,?_,by simp [hq,c]⟩
    simp only [w544_K0] at hv ⊢;rw [ck_unf w544_B0.eq_1]
    simp at hv
    simp (disch:=omega) [h1,ak,hb,c,H.inl,hI,H.pp,hN,hv]
  · refine ⟨i,?_,by simp [c]⟩
    simp only [w544_K0];rw [ck_unf w544_B0.eq_1]
    simp (disch:=omega) [h1,hb,c,H.inl,hI,H.pp,hN]
theorem dX (H:jm C) {g:Nat} {Q:List UInt8→Bool} (G:lQ C g Q) (l:List (List UInt8)) (e:Bool) (hl:l.length≤1000000) :
 FnW C 498 [.ro 1 (l.map eS) e,.fn g []]=some (.bool (!l.all Q)):=by
 obtain ⟨v,h,q⟩:=jD H G l e hl l.length 0 (by simp)
 simp at q
 have h2:FnW C 544 [.ro 1 (l.map eS) e,.fn g []]=some (.int .i64 v):=by
  rw [fnW_eq H.xu rfl]
  simp only [w544_K0] at h
  simp at h
  simp [w544,h]
 rw [fnW_eq H.xK rfl]
 have q':decide (v < 0)=l.all Q:=by simpa using q
 rw [← q']
 by_cases c:v < 0
 · have c':¬ 0≤v:=by omega
   simp [w498,H.inl,inlB,H.pp,ppB,h2,c,c']
 · have c':0≤v:=by omega
   simp [w498,H.inl,inlB,H.pp,ppB,h2,c,c']
theorem uQ (H:jm C):lQ C 499 isName where
 ok s:=by
  have:=rW H.toHasS s
  rw [fnW_eq H.wL rfl]
  simp [w499,H.inl,inlB,H.pp,ppB,this]
 ne:=by rfl
 ni:=by rfl
def aP (n:Int) (i:It):Bool:=decide (i.k≠0)&&decide (i.t < n)&&isText i.x&&(decide (i.m.length≤8)&&i.m.all isName)
theorem dh (H:jm C) (i:It) (n:Int) (ht:0≤i.t∧i.t≤255):FnW C 398 [eIt i,.int .i64 n]=some (.int .i64 (if aP n i=true then 0 else 6)):=by
 have h1:FnW C 494 [.rop [.int .u64 i.k,.int .u8 i.t,.str i.x,.ro 1 (i.m.map eS) i.e]]=some (.bool (isText i.x)):=by
  have:=fH H.toHasS (uf H) i.x
  rw [fnW_eq H.wO rfl]
  unfold isText
  by_cases c2:i.x.length≤64
  · have c4:(i.x.length:Int)≤64:=by omega
    simp [w494,c2,c4,H.inl,inlB,H.pp,ppB,this]
  · have c4:¬ ((i.x.length:Int)≤64):=by omega
    simp [w494,c2,c4]
 have h2:FnW C 497 [.rop [.int .u64 i.k,.int .u8 i.t,.str i.x,.ro 1 (i.m.map eS) i.e]]=some (.bool (decide (i.m.length≤8)&&i.m.all isName)):=by
  rw [fnW_eq H.yT rfl]
  by_cases c2:i.m.length≤8
  · have:=dX H (uQ H) i.m i.e (by omega)
    have c4:(i.m.length:Int)≤8:=by omega
    simp [w497,c2,c4,H.inl,inlB,H.pp,ppB,this]
  · have c4:¬ ((i.m.length:Int)≤8):=by omega
    simp [w497,c2,c4]
 rw [fnW_eq H.wX rfl]
 unfold aP
 generalize isText i.x=X at *
 generalize (decide (i.m.length≤8)&&i.m.all isName)=M at *
 by_cases c1:i.k=0
 · simp [w398,c1]
 · by_cases c2:n≤i.t
   · have c3:¬ i.t < n:=by omega
     simp (disch:=omega) [w398,c1,c2,c3,ak]
   · have c3:i.t < n:=by omega
     cases X
     · simp (disch:=omega) [w398,c1,c2,c3,ak,H.inl,inlB,H.pp,ppB,h1]
     · cases M <;> simp (disch:=omega) [w398,c1,c2,c3,ak,H.inl,inlB,H.pp,ppB,h1,h2]
theorem jS (H:jm C) (k t:Int) (x:List UInt8) (m:List (List UInt8)) (e:Bool) (hl:m.length≤1000000):∀ n i,n+i=m.length→∀ ok:Bool,
 w424_K0 C ⟨[(6,.int .i64 i),(5,.int .i64 (if ok=true then 1 else 0)),(2,.ptr 0 0 0)],[(0,.cells 4 [[.int .u64 k,.int .u8 t,.str x,.ro 1 (m.map eS) e]] true true)],1⟩ =
  some (.int .i64 (if (ok&&(m.drop i).all isName)=true then 0 else 6)):=by
 intro n
 induction n with
 | zero =>
  intro i hi ok
  simp only [w424_K0];rw [ck_unf w424_B0.eq_1]
  have h1:m.drop i=[]:=List.drop_eq_nil_of_le (by omega)
  have h3:¬ i < m.length:=by omega
  cases ok <;> simp [ck_unf w424_c0.eq_1,h1,h3]
 | succ n ih =>
  intro i hi ok
  have h1:i < m.length:=by omega
  have:=ih (i+1) (by omega) (ok&&isName m[i])
  have hb:=uN H.toHasS m[i]
  rw [drop_cons h1]
  generalize hX:(m.drop (i+1)).all isName=X at *
  rw [List.all_cons,hX]
  simp only [w424_K0] at this ⊢;rw [ck_unf w424_B0.eq_1]
  cases ok <;> cases hn:isName m[i] <;> rw [hn] at this hb <;> simp at this hb <;> simp (disch:=omega) [h1,ak,hb,H.inl,inlB,H.pp,ppB,this]
theorem nG (H:jm C) (i:It) (n:Int) (ht:0≤i.t∧i.t≤255) (hl:i.m.length≤1000000):FnW C 424 [eIt i,.int .i64 n]=some (.int .i64 (if aP n i=true then 0 else 6)):=by
 have hw:=qV H.toHasS i.x
 have hA:=jS H i.k i.t i.x i.m i.e hl i.m.length 0 (by simp)
 have h0:=hA false
 have h1:=hA true
 rw [fnW_eq H.wQ rfl]
 unfold aP
 simp only [List.drop_zero,Bool.false_and,Bool.true_and] at h0 h1
 generalize i.m.all isName=M at *
 generalize isText i.x=X at *
 simp only [w424_K0] at h0 h1
 simp at h0 h1
 by_cases c1:i.k=0
 · simp [w424,eq_true c1,H.inl,inlB,H.pp,ppB,hw,h0]
 · by_cases c2:n≤i.t
   · have c3:¬ i.t < n:=by omega
     simp (disch:=omega) [w424,c1,c2,c3,ak,H.inl,inlB,H.pp,ppB,hw,h0]
   · have c3:i.t < n:=by omega
     by_cases c4:i.m.length≤8
     · have c5:¬ (8 < (i.m.length:Int)):=by omega
       cases X
       · simp (disch:=omega) [w424,c1,c2,c3,c4,c5,ak,H.inl,inlB,H.pp,ppB,hw,h0]
       · simp (disch:=omega) [w424,c1,c2,c3,c4,c5,ak,H.inl,inlB,H.pp,ppB,hw,h1]
     · have c5:(8 < (i.m.length:Int)):=by omega
       simp (disch:=omega) [w424,c1,c2,c3,c4,c5,ak,H.inl,inlB,H.pp,ppB,hw,h0]
abbrev Bs:=List UInt8
@[simp] def eA (a:Bs × Bs):List AV:=[.str a.1,.str a.2]
structure Nd where
 k:Int
 t:Bs
 y:Bs
 a:List (Bs × Bs)
 ae:Bool
 x:Bs
 ch:List Nd
 ce:Bool
mutual
def Nd.c:Nd→List AV
 | ⟨k,t,y,a,ae,x,ch,ce⟩=>[.int .u8 k,.str t,.str y,.ro 2 (a.map eA) ae,.str x,.ro 6 (Nd.cs ch) ce]
def Nd.cs:List Nd→List (List AV)
 | []=>[]
 | n::r=>n.c::Nd.cs r
end
theorem Nd.jy:∀ l:List Nd,Nd.cs l=l.map Nd.c
 | []=>rfl
 | n::r=>by rw [Nd.cs,Nd.jy r];rfl
theorem Nd.aJ (n:Nd):n.c=[.int .u8 n.k,.str n.t,.str n.y,.ro 2 (n.a.map eA) n.ae,.str n.x,.ro 6 (n.ch.map Nd.c) n.ce]:=by
 cases n;rw [Nd.c,Nd.jy]
@[simp] theorem Nd.zh (n:Nd):n.c.length=6:=by rw [Nd.aJ];rfl
@[simp] theorem Nd.vX (n:Nd):n.c.take 6=n.c:=List.take_of_length_le (by simp)
@[simp] theorem Nd.c0 (n:Nd):n.c[0]?=some (.int .u8 n.k):=by rw [Nd.aJ];rfl
@[simp] theorem Nd.c1 (n:Nd):n.c[1]?=some (.str n.t):=by rw [Nd.aJ];rfl
@[simp] theorem Nd.c2 (n:Nd):n.c[2]?=some (.str n.y):=by rw [Nd.aJ];rfl
@[simp] theorem Nd.c3 (n:Nd):n.c[3]?=some (.ro 2 (n.a.map eA) n.ae):=by rw [Nd.aJ];rfl
@[simp] theorem Nd.c4 (n:Nd):n.c[4]?=some (.str n.x):=by rw [Nd.aJ];rfl
@[simp] theorem Nd.c5 (n:Nd):n.c[5]?=some (.ro 6 (n.ch.map Nd.c) n.ce):=by rw [Nd.aJ];rfl
@[simp] theorem Nd.g0 (n:Nd) (h:0 < n.c.length):n.c[0]=.int .u8 n.k:=Option.some.inj ((List.getElem?_eq_getElem h).symm.trans n.c0)
@[simp] theorem Nd.g1 (n:Nd) (h:1 < n.c.length):n.c[1]=.str n.t:=Option.some.inj ((List.getElem?_eq_getElem h).symm.trans n.c1)
@[simp] theorem Nd.g2 (n:Nd) (h:2 < n.c.length):n.c[2]=.str n.y:=Option.some.inj ((List.getElem?_eq_getElem h).symm.trans n.c2)
@[simp] theorem Nd.g3 (n:Nd) (h:3 < n.c.length):n.c[3]=.ro 2 (n.a.map eA) n.ae:=Option.some.inj ((List.getElem?_eq_getElem h).symm.trans n.c3)
@[simp] theorem Nd.g4 (n:Nd) (h:4 < n.c.length):n.c[4]=.str n.x:=Option.some.inj ((List.getElem?_eq_getElem h).symm.trans n.c4)
@[simp] theorem Nd.g5 (n:Nd) (h:5 < n.c.length):n.c[5]=.ro 6 (n.ch.map Nd.c) n.ce:=Option.some.inj ((List.getElem?_eq_getElem h).symm.trans n.c5)
@[simp] theorem Nd.hd (n:Nd):n.c.head?=some (.int .u8 n.k):=by rw [Nd.aJ];rfl
@[simp] theorem Nd.y7 (n:Nd):hasPtrL n.c=false:=by rw [Nd.aJ];rfl
@[simp] theorem Nd.yV (n:Nd) (h:WHeap) (k:Nat):mapO (frzW h (k+1)) n.c=some n.c:=by rw [Nd.aJ];rfl
@[simp] theorem Nd.sD (n:Nd) (h:WHeap) (k:Nat):n.c.flatMap (reachW h (k+1))=[]:=by rw [Nd.aJ];rfl
@[simp] theorem Nd.zK (n:Nd) (π:Nat→Option Nat):renL π n.c=some n.c:=by rw [Nd.aJ];rfl
@[simp] theorem Nd.wu (n:Nd):refsL n.c=[]:=by rw [Nd.aJ];rfl
@[simp] theorem Nd.zH (n:Nd):n.c.all isC=true:=by rw [Nd.aJ];rfl
@[simp] theorem Nd.yu (n:Nd):n.c.all AV.cell=true:=by rw [Nd.aJ];rfl
def after:Option Bs→Bs→Bool
 | none,_=>true
 | some p,a=>decide (p < a)
def atOk:Option Bs→List (Bs × Bs)→Bool
 | _,[]=>true
 | p,a::r=>isName a.1&&isText a.2&&after p a.1&&atOk (some a.1) r
def aQ:List Bs→List Bs→Bool
 | _,[]=>true
 | p,k::r=>!(decide (k≠[])&&p.contains k)&&aQ (p++[k]) r
def alone (n:Nd):Bool :=
 if n.k=2 then isText n.x&&decide (n.t=[])&&decide (n.y=[])&&decide (n.a=[])&&decide (n.ch=[])
 else decide (n.k=1)&&isName n.t&&(decide (n.y=[])||isName n.y)&&decide (n.x=[])&&decide (n.a.length≤8)&&decide (n.ch.length≤16)&&atOk none n.a&&aQ [] (n.ch.map Nd.y)
structure jZ (C:WProg):Prop extends HasS C where
 wW:C.fns.get 434=some w434
 wZ:C.fns.get 519=some w519
 xA:C.fns.get 518=some w518
 yF:C.fns.get 562=some w562
theorem AO (H:jZ C) (n:Nd) (c:Nd):FnW C 519 [.agg n.c,.rop c.c]=some (.bool (decide (n.y=c.y))):=by
 rw [fnW_eq H.wZ rfl,Nd.aJ,Nd.aJ]
 by_cases h:n.y=c.y
 · simp [w519,h]
 · simp [w519,h]
theorem ji (H:jZ C) (c:Nd) (l:List Nd) (e:Bool) (hl:l.length≤1000000):∀ n i,n+i=l.length →
 ∃ v:Int,w562_K0 C ⟨[(8,.int .i64 i),(7,.int .i64 l.length),(1,.fn 519 [.rop c.c]),(0,.ro 6 (l.map Nd.c) e)],[],0⟩=some (.int .i64 v)∧decide (v < 0)=!((l.drop i).map Nd.y).contains c.y:=by
 intro n
 induction n with
 | zero =>
  intro i hi
  simp only [w562_K0];rw [ck_unf w562_B0.eq_1]
  have h1:l.drop i=[]:=List.drop_eq_nil_of_le (by omega)
  have h3:¬ i < l.length:=by omega
  exact ⟨-1,by simp [ck_unf w562_c0.eq_1,h3],by simp [h1]⟩
 | succ n ih =>
  intro i hi
  have h1:i < l.length:=by omega
  have hb:=AO H l[i] c
  rw [drop_cons h1]
  by_cases q:l[i].y=c.y
  · refine ⟨i,?_,by simp [q]⟩
    simp only [w562_K0];rw [ck_unf w562_B0.eq_1]
    simp (disch:=omega) [h1,hb,q,H.inl,inlB,H.pp,ppB]
  · obtain ⟨v,hv,hq⟩:=ih (i+1) (by omega)
    refine ⟨v,?_,?_⟩
    · simp only [w562_K0] at hv ⊢;rw [ck_unf w562_B0.eq_1]
      simp at hv
      simp (disch:=omega) [h1,ak,hb,q,H.inl,inlB,H.pp,ppB,hv]
    · have q':¬ c.y=l[i].y:=fun h=>q h.symm
      simp [hq,q']
theorem iY (H:jZ C) (c:Nd) (l:List Nd) (e:Bool) (hl:l.length≤1000000):FnW C 518 [.ro 6 (l.map Nd.c) e,.fn 519 [.rop c.c]]=some (.bool ((l.map Nd.y).contains c.y)):=by
 obtain ⟨v,h,q⟩:=ji H c l e hl l.length 0 (by simp)
 rw [List.drop_zero] at q
 have h2:FnW C 562 [.ro 6 (l.map Nd.c) e,.fn 519 [.rop c.c]]=some (.int .i64 v):=by
  rw [fnW_eq H.yF rfl]
  simp only [w562_K0] at h
  simp at h
  simp [w562,h]
 have q':(l.map Nd.y).contains c.y=!decide (v < 0):=by rw [q];simp
 rw [fnW_eq H.xA rfl,q']
 by_cases c:v < 0
 · have c':¬ 0≤v:=by omega
   simp [w518,H.inl,inlB,H.pp,ppB,h2,c,c']
 · have c':0≤v:=by omega
   simp [w518,H.inl,inlB,H.pp,ppB,h2,c,c']
theorem blt_eq:∀ x y:Bs,Pav.bytesLess x y=decide (x < y)
 | [],[]=>by simp [Pav.bytesLess]
 | [],_::_=>by simp [Pav.bytesLess]
 | _::_,[]=>by simp [Pav.bytesLess]
 | a::x,b::y=>by
  rw [Pav.bytesLess,blt_eq x y]
  by_cases h:a < b
  · simp [h,List.cons_lt_cons_iff]
  · by_cases q:a=b
    · simp [h,q,List.cons_lt_cons_iff]
    · simp [h,q,List.cons_lt_cons_iff]
theorem fE (x y:Bs):(Pav.bytesLess x y||x == y)=!decide (y < x):=by
 rw [blt_eq]
 by_cases h:y < x
 · have h1:¬ x < y:=fun q=>List.lt_irrefl x (List.lt_trans q h)
   have h2:¬ x=y:=fun q=>by subst q;exact List.lt_irrefl x h
   simp [h,h1,h2]
 · rcases Decidable.em (x=y) with q | q
   · simp [h,q]
   · have h1:x < y:=Classical.byContradiction fun p=>q (List.le_antisymm (List.not_lt.1 h) (List.not_lt.1 p))
     simp [h,h1]
theorem nK (H:jZ C) (k:Int) (t y x:Bs) (a:List (Bs × Bs)) (ae ce:Bool) (ch:List Nd) (hl:ch.length≤1000000):∀ n i,n+i=ch.length →
 w434_K0 C ⟨[(142,.int .i64 i),(141,.int .i64 ch.length),(140,.ro 6 (ch.map Nd.c) ce),(0,.rop [.int .u8 k,.str t,.str y,.ro 2 (a.map eA) ae,.str x,.ro 6 (ch.map Nd.c) ce])],[],0⟩ =
  some (.bool (aQ ((ch.map Nd.y).take i) ((ch.map Nd.y).drop i))):=by
 intro n
 induction n with
 | zero =>
  intro i hi
  simp only [w434_K0];rw [ck_unf w434_B0.eq_1]
  have h1:(ch.map Nd.y).drop i=[]:=List.drop_eq_nil_of_le (by simp;omega)
  have h3:¬ i < ch.length:=by omega
  simp [ck_unf w434_c0.eq_1,h1,h3,aQ,-List.map_drop]
 | succ n ih =>
  intro i hi
  have h1:i < ch.length:=by omega
  have h2:i < (ch.map Nd.y).length:=by simp;omega
  have hb:=iY H ch[i] (ch.take i) false (by simp;omega)
  have:=ih (i+1) (by omega)
  rw [List.take_succ_eq_append_getElem h2] at this
  rw [drop_cons h2,aQ]
  have hy:(ch.map Nd.y)[i]=ch[i].y:=by simp
  rw [List.map_take,List.map_take] at hb
  rw [hy] at this ⊢
  have hne:¬ i=ch.length:=by omega
  have hle:i≤ch.length:=by omega
  simp only [w434_K0] at this ⊢;rw [ck_unf w434_B0.eq_1]
  generalize hP:(ch.map Nd.y).take i=P at *
  generalize hQ:(ch.map Nd.y).drop (i+1)=Q at *
  simp at this
  by_cases c1:ch[i].y=[]
  · rw [c1] at this
    simp (disch:=omega) [h1,ak,c1,H.inl,inlB,H.pp,ppB,this]
  · by_cases c2:P.contains ch[i].y=true
    · rw [c2] at hb
      have c2':ch[i].y ∈ P:=by simpa using c2
      simp (disch:=omega) [h1,hne,hle,ak,c1,c2',hb,H.inl,inlB,H.pp,ppB,this]
    · have c2':¬ ch[i].y ∈ P:=by simpa using c2
      have c3:P.contains ch[i].y=false:=by simpa using c2
      rw [c3] at hb
      simp (disch:=omega) [h1,hne,hle,ak,c1,c2',hb,H.inl,inlB,H.pp,ppB,this]
theorem gU (H:jZ C) (k:Int) (t y x:Bs) (a:List (Bs × Bs)) (ae ce:Bool) (ch:List Nd) (hl:ch.length≤1000000) (ha:a.length≤1000000):∀ n i,n+i=a.length →
 w434_K1 C ⟨[(103,.int .i64 i),(102,.int .i64 a.length),(101,.ro 2 (a.map eA) ae),(0,.rop [.int .u8 k,.str t,.str y,.ro 2 (a.map eA) ae,.str x,.ro 6 (ch.map Nd.c) ce])],[],0⟩ =
  some (.bool (atOk (if i=0 then none else (a[i - 1]?).map Prod.fst) (a.drop i)&&aQ [] (ch.map Nd.y))):=by
 intro n
 induction n with
 | zero =>
  intro i hi
  have hk:=nK H k t y x a ae ce ch hl ch.length 0 (by simp)
  simp only [List.take_zero,List.drop_zero] at hk
  generalize aQ [] (ch.map Nd.y)=K at *
  simp only [w434_K0] at hk
  simp at hk
  simp only [w434_K1];rw [ck_unf w434_B1.eq_1]
  have h1:a.drop i=[]:=List.drop_eq_nil_of_le (by omega)
  have h3:¬ i < a.length:=by omega
  simp [ck_unf w434_c1.eq_1,h1,h3,atOk,hk]
 | succ n ih =>
  intro i hi
  have h1:i < a.length:=by omega
  have hb:=named_ok H.toHasS a[i].1
  have hc:=lV H.toHasS a[i].2
  have:=ih (i+1) (by omega)
  rw [if_neg (by omega),show i+1 - 1=i from rfl,List.getElem?_eq_getElem h1] at this
  rw [drop_cons h1,atOk]
  generalize hK:aQ [] (ch.map Nd.y)=K at *
  simp only [w434_K1] at this ⊢;rw [ck_unf w434_B1.eq_1]
  simp only [Option.map_some] at this
  generalize atOk (some a[i].1) (a.drop (i+1))=R at *
  simp at this
  cases q1:isName a[i].1
  · rw [q1] at hb
    simp (disch:=omega) [h1,ak,hb,H.inl,inlB,H.pp,ppB]
  · cases q2:isText a[i].2
    · rw [q1] at hb;rw [q2] at hc
      simp (disch:=omega) [h1,ak,hb,hc,H.inl,inlB,H.pp,ppB]
    · rw [q1] at hb;rw [q2] at hc
      cases i with
      | zero =>
       simp at this
       simp (disch:=omega) [h1,ak,hb,hc,H.inl,inlB,H.pp,ppB,this,after]
      | succ i =>
       have h4:i < a.length:=by omega
       have h5:(i:Int)+1 < a.length:=by omega
       simp at this
       by_cases q3:a[i].1 < a[i+1].1
       · have q4:¬ a[i+1].1≤a[i].1:=List.not_le.2 q3
         simp (disch:=omega) [h1,h4,h5,ak,hb,hc,H.inl,inlB,H.pp,ppB,this,fE,after,q3,q4]
       · have q4:a[i+1].1≤a[i].1:=List.not_lt.1 q3
         simp (disch:=omega) [h1,h4,h5,ak,hb,hc,H.inl,inlB,H.pp,ppB,this,fE,after,q3,q4]
theorem oI (H:jZ C) (n:Nd):FnW C 434 [.rop n.c]=some (.bool (alone n)):=by
 obtain ⟨k,t,y,a,ae,x,ch,ce⟩:=n
 rw [fnW_eq H.wW rfl,Nd.aJ]
 simp only []
 unfold alone
 simp only []
 have ht:=named_ok H.toHasS t
 have hy:=named_ok H.toHasS y
 have hx:=lV H.toHasS x
 by_cases k2:k=2
 · rw [if_pos k2]
   generalize isText x=X at *
   cases X
   · simp [w434,k2,hx,H.inl,inlB,H.pp,ppB]
   · by_cases c1:t=[] <;> by_cases c2:y=[] <;> by_cases c3:a=[] <;> by_cases c4:ch=[] <;> simp [w434,k2,hx,H.inl,inlB,H.pp,ppB,c1,c2,c3,c4]
 · rw [if_neg k2]
   by_cases k1:k=1
   · cases q1:isName t
     · rw [q1] at ht;simp [w434,k1,ht,H.inl,inlB,H.pp,ppB]
     · rw [q1] at ht
       by_cases c2:y=[]
       · subst c2
         by_cases c3:x=[]
         · subst c3
           by_cases c4:a.length≤8
           · by_cases c5:ch.length≤16
             · have c6:¬ 8 < (a.length:Int):=by omega
               have c7:¬ 16 < (ch.length:Int):=by omega
               have hl:=gU H 1 t [] [] a ae ce ch (by omega) (by omega) a.length 0 (by simp)
               simp only [w434_K1,if_true,List.drop_zero] at hl
               generalize atOk none a=A at *
               generalize aQ [] (ch.map Nd.y)=K at *
               simp at hl
               simp [w434,k1,ht,H.inl,inlB,H.pp,ppB,c4,c5,c6,c7,hl]
             · have c6:¬ 8 < (a.length:Int):=by omega
               have c7:16 < (ch.length:Int):=by omega
               simp [w434,k1,ht,H.inl,inlB,H.pp,ppB,c4,c5,c6,c7]
           · have c6:8 < (a.length:Int):=by omega
             simp [w434,k1,ht,H.inl,inlB,H.pp,ppB,c4,c6]
         · simp [w434,k1,ht,H.inl,inlB,H.pp,ppB,c3]
       · cases q2:isName y
         · rw [q2] at hy;simp [w434,k1,ht,hy,H.inl,inlB,H.pp,ppB,c2]
         · rw [q2] at hy
           by_cases c3:x=[]
           · subst c3
             by_cases c4:a.length≤8
             · by_cases c5:ch.length≤16
               · have c6:¬ 8 < (a.length:Int):=by omega
                 have c7:¬ 16 < (ch.length:Int):=by omega
                 have hl:=gU H 1 t y [] a ae ce ch (by omega) (by omega) a.length 0 (by simp)
                 simp only [w434_K1,if_true,List.drop_zero] at hl
                 generalize atOk none a=A at *
                 generalize aQ [] (ch.map Nd.y)=K at *
                 simp at hl
                 simp [w434,k1,ht,hy,H.inl,inlB,H.pp,ppB,c2,c4,c5,c6,c7,hl]
               · have c6:¬ 8 < (a.length:Int):=by omega
                 have c7:16 < (ch.length:Int):=by omega
                 simp [w434,k1,ht,hy,H.inl,inlB,H.pp,ppB,c2,c4,c5,c6,c7]
             · have c6:8 < (a.length:Int):=by omega
               simp [w434,k1,ht,hy,H.inl,inlB,H.pp,ppB,c2,c4,c6]
           · simp [w434,k1,ht,hy,H.inl,inlB,H.pp,ppB,c2,c3]
   · simp [w434,k1,k2,H.inl,inlB,H.pp,ppB]
end Go.D
end
section
namespace Go.D
open Go Go.Pav Go.Pw P
attribute [-simp] List.getElem_cons_drop
variable {C:WProg}
mutual
/-- The walk below a node: whether it ends well, how many nodes, how many levels. -/
def wk:Nd→Nat→Nat × Nat→Bool × (Nat × Nat)
 | ⟨k,t,y,a,ae,x,ch,ce⟩,lv,(c,d)=>if 6 < lv∨64 < c+1∨alone ⟨k,t,y,a,ae,x,ch,ce⟩=false then (false,(c+1,max d lv)) else wks ch (lv+1) (c+1,max d lv)
def wks:List Nd→Nat→Nat × Nat→Bool × (Nat × Nat)
 | [],_,s=>(true,s)
 | m::r,lv,s=>if (wk m lv s).1=true then wks r lv (wk m lv s).2 else (false,(wk m lv s).2)
end
theorem pq (n:Nd) (lv c d:Nat):wk n lv (c,d)=if 6 < lv∨64 < c+1∨alone n=false then (false,(c+1,max d lv)) else wks n.ch (lv+1) (c+1,max d lv):=by cases n;rw [wk]
structure jl (C:WProg):Prop extends jZ C where
 wC:C.fns.get 433=some w433
 f282:C.fns.get 282=some w282
 f140:C.fns.get 140=some w140
 xR:C.fns.get 439=some w439
abbrev hpM (root:Nd) (s:Nat × Nat):WHeap:=[(0,.cells 6 [root.c] true true),(1,.cells 1 [[.int .i64 s.1]] true true),(2,.cells 1 [[.int .i64 s.2]] true true),(3,.cells 1 [[.fn 433 [.ptr 1 0 0,.ptr 2 0 0,.ptr 3 0 0]]] true false)]
mutual
theorem vI:∀ (n:Nd) (lv c d:Nat),lv≤7→c≤64→d≤7→((wk n lv (c,d)).1=true→(wk n lv (c,d)).2.1≤64)∧(wk n lv (c,d)).2.2≤7
 | ⟨k,t,y,a,ae,x,ch,ce⟩,lv,c,d,h1,h2,h3=>by
  rw [wk]
  split
  · exact ⟨fun q=>by simp at q,by simp only;omega⟩
  · rename_i h
    exact qB ch (lv+1) (c+1) (max d lv) (by omega) (by omega) (by omega)
theorem qB:∀ (l:List Nd) (lv c d:Nat),lv≤7→c≤64→d≤7→((wks l lv (c,d)).1=true→(wks l lv (c,d)).2.1≤64)∧(wks l lv (c,d)).2.2≤7
 | [],lv,c,d,h1,h2,h3=>by rw [wks];exact ⟨fun _=>h2,h3⟩
 | m::r,lv,c,d,h1,h2,h3=>by
  have h4:=vI m lv c d h1 h2 h3
  rw [wks]
  split
  · rename_i h
    exact qB r lv _ _ h1 (h4.1 h) h4.2
  · exact ⟨fun q=>by simp at q,h4.2⟩
end
def Walks (C:WProg) (root nd:Nd):Prop:=∀ (lv c d n:Nat),4≤n→c≤64→d≤7→lv≤7 →
 ∃ n',RnW C 433 [.rop nd.c,.int .i64 lv,.ptr 1 0 0,.ptr 2 0 0,.ptr 3 0 0] (hpM root (c,d)) n=some (.bool (wk nd lv (c,d)).1,hpM root (wk nd lv (c,d)).2,n')
theorem bg (d lv:Nat):imax d lv=((max d lv:Nat):Int):=by
 by_cases h:lv≤d
 · rw [rH (by omega),Nat.max_eq_left h]
 · rw [xZ (by omega),Nat.max_eq_right (by omega)]
theorem nS (H:jl C) (root nd:Nd) (X:AV) (hX:X=.rop nd.c∨X=.ptr 0 0 0∧root=nd) (lv n:Nat) (hn:4≤n) (hlv:lv≤6) (hl:nd.ch.length≤16) (ih:∀ m ∈ nd.ch,Walks C root m):∀ j i,j+i=nd.ch.length→∀ c d,c≤64→d≤7 →
 ∃ n',CK C n (fnEndW [.tmp 7]) [.sq w433_L0,.bk 0 ⟨true,[],[]⟩,.sq w433_c0] w433_B0 ⟨[(30,.int .i64 i),(29,.int .i64 nd.ch.length),(4,.ptr 3 0 0),(1,.int .i64 lv),(0,X)],hpM root (c,d),n⟩ =
  some (.bool (wks (nd.ch.drop i) (lv+1) (c,d)).1,hpM root (wks (nd.ch.drop i) (lv+1) (c,d)).2,n'):=by
 have n0:0 < n:=by omega
 have n1:1 < n:=by omega
 have n2:2 < n:=by omega
 have n3:3 < n:=by omega
 intro j
 induction j with
 | zero =>
  intro i hi c d hc hd
  have h1:nd.ch.drop i=[]:=List.drop_eq_nil_of_le (by omega)
  have h3:¬ i < nd.ch.length:=by omega
  rw [h1,wks,ck_unf w433_B0.eq_1]
  refine ⟨?_,?_⟩
  rotate_left
  · rcases hX with rfl | ⟨rfl,rfl⟩
    · simp (disch:=omega) [ck_unf w433_c0.eq_1,n0,n1,n2,n3,h3]
      rfl
    · simp (disch:=omega) [ck_unf w433_c0.eq_1,n0,n1,n2,n3,h3]
 | succ j ihj =>
  intro i hi c d hc hd
  have h1:i < nd.ch.length:=by omega
  obtain ⟨n',hw⟩:=ih _ (List.getElem_mem h1) (lv+1) c d (n+1+1+1+11) (by omega) hc hd (by omega)
  have hb:=vI nd.ch[i] (lv+1) c d (by omega) hc hd
  rw [drop_cons h1,wks]
  generalize hR:wk nd.ch[i] (lv+1) (c,d)=R at *
  obtain ⟨r,c',d'⟩:=R
  cases r with
  | true =>
   obtain ⟨n2',hw2⟩:=ihj (i+1) (by omega) c' d' (hb.1 rfl) hb.2
   refine ⟨n2',?_⟩
   rw [if_pos rfl]
   rw [ck_unf w433_B0.eq_1]
   simp at hw hw2
   rcases hX with rfl | ⟨rfl,rfl⟩
   · simp (disch:=omega) [ak,H.inl,inlB,H.pp,ppB,n0,n1,n2,n3,h1,hw,hw2]
   · simp (disch:=omega) [ak,H.inl,inlB,H.pp,ppB,n0,n1,n2,n3,h1,hw,hw2]
  | false =>
   rw [if_neg (by simp)]
   rw [ck_unf w433_B0.eq_1]
   simp at hw
   refine ⟨?_,?_⟩
   rotate_left
   · rcases hX with rfl | ⟨rfl,rfl⟩
     · simp (disch:=omega) [ak,H.inl,inlB,H.pp,ppB,n0,n1,n2,n3,h1,hw]
       rfl
     · simp (disch:=omega) [ak,H.inl,inlB,H.pp,ppB,n0,n1,n2,n3,h1,hw]
theorem gZ (H:jl C) (root nd:Nd) (X:AV) (hX:X=.rop nd.c∨X=.ptr 0 0 0∧root=nd) (ih:∀ m ∈ nd.ch,Walks C root m) (lv c d n:Nat) (hn:4≤n) (hc:c≤64) (hd:d≤7) (hlv:lv≤7) :
 ∃ n',RnW C 433 [X,.int .i64 lv,.ptr 1 0 0,.ptr 2 0 0,.ptr 3 0 0] (hpM root (c,d)) n=some (.bool (wk nd lv (c,d)).1,hpM root (wk nd lv (c,d)).2,n'):=by
 rw [aS (args:=[X,.int .i64 lv,.ptr 1 0 0,.ptr 2 0 0,.ptr 3 0 0]) H.wC rfl (hpM root (c,d)) n,pq]
 have ha:=oI H.tojZ nd
 have n0:0 < n:=by omega
 have n1:1 < n:=by omega
 have n2:2 < n:=by omega
 have n3:3 < n:=by omega
 by_cases b1:6 < lv
 · rw [if_pos (.inl b1)]
   refine ⟨?_,?_⟩
   rotate_left
   · rcases hX with rfl | ⟨rfl,rfl⟩
     · simp (disch:=omega) [w433,ak,H.inl,inlB,H.pp,ppB,b1,n0,n1,n2,n3,bg]
       rfl
     · simp (disch:=omega) [w433,ak,H.inl,inlB,H.pp,ppB,b1,n0,n1,n2,n3,bg]
 · by_cases b2:64 < c+1
   · rw [if_pos (.inr (.inl b2))]
     have b2':64 < (c:Int)+1:=by omega
     refine ⟨?_,?_⟩
     rotate_left
     · rcases hX with rfl | ⟨rfl,rfl⟩
       · simp (disch:=omega) [w433,ak,H.inl,inlB,H.pp,ppB,b1,b2',n0,n1,n2,n3,bg]
         rfl
       · simp (disch:=omega) [w433,ak,H.inl,inlB,H.pp,ppB,b1,b2',n0,n1,n2,n3,bg]
   · have b2':¬ 64 < (c:Int)+1:=by omega
     cases b3:alone nd with
     | false =>
      rw [if_pos (.inr (.inr rfl))]
      rw [b3] at ha
      refine ⟨?_,?_⟩
      rotate_left
      · rcases hX with rfl | ⟨rfl,rfl⟩
        · simp (disch:=omega) [w433,ak,H.inl,inlB,H.pp,ppB,b1,b2',ha,n0,n1,n2,n3,bg]
          rfl
        · simp (disch:=omega) [w433,ak,H.inl,inlB,H.pp,ppB,b1,b2',ha,n0,n1,n2,n3,bg]
     | true =>
      rw [if_neg (by simp;omega)]
      have hl:nd.ch.length≤16:=by
       unfold alone at b3
       split at b3
       · simp at b3;rw [b3.2];simp
       · simp at b3;omega
      rw [b3] at ha
      obtain ⟨n',hw⟩:=nS H root nd X hX lv n hn (by omega) hl ih nd.ch.length 0 (by simp) (c+1) (max d lv) (by omega) (by omega)
      refine ⟨n',?_⟩
      rw [List.drop_zero] at hw
      have hI:=bg d lv
      generalize max d lv=D at *
      generalize wks nd.ch (lv+1) (c+1,D)=R at *
      simp only [hpM] at hw ⊢
      simp at hw
      rcases hX with rfl | ⟨rfl,rfl⟩
      · simp (disch:=omega) [w433,ak,H.inl,inlB,H.pp,ppB,b1,b2',ha,n0,n1,n2,n3,hI,hw]
      · simp (disch:=omega) [w433,ak,H.inl,inlB,H.pp,ppB,b1,b2',ha,n0,n1,n2,n3,hI,hw]
theorem dL (n:Nd):SizeOf.sizeOf n.ch < SizeOf.sizeOf n:=by cases n;simp;omega
theorem walks (H:jl C) (root nd:Nd):Walks C root nd :=
 fun lv c d n hn hc hd hlv=>gZ H root nd (.rop nd.c) (.inl rfl) (fun m hm=>walks H root m) lv c d n hn hc hd hlv
termination_by SizeOf.sizeOf nd
decreasing_by
 have:=List.sizeOf_lt_of_mem hm
 have:=dL nd
 omega
def cnt (n:Nd):Nat:=if (wk n 1 (0,0)).1=true then (wk n 1 (0,0)).2.1 else 0
def dep (n:Nd):Nat:=if (wk n 1 (0,0)).1=true then (wk n 1 (0,0)).2.2 else 0
theorem kQ (H:jl C) (n:Nd):FnW C 282 [.agg n.c]=some (.tup [.int .i64 (cnt n),.int .i64 (dep n)]):=by
 rw [fnW_eq H.f282 rfl]
 have hw:=fun k hk=>gZ H n n (.ptr 0 0 0) (.inr ⟨rfl,rfl⟩) (fun m _=>walks H n m) 1 0 0 k hk (by omega) (by omega) (by omega)
 unfold cnt dep
 generalize wk n 1 (0,0)=R at *
 obtain ⟨r,c,d⟩:=R
 obtain ⟨n',h⟩:=hw 8 (by omega)
 simp only [hpM] at h
 simp at h
 cases r <;> simp [w282,H.inl,inlB,H.pp,ppB,h]
theorem jT (H:jl C) (n:Nd):FnW C 140 [.agg n.c]=some (.int .i64 (cnt n)):=by
 have h:=kQ H n
 rw [fnW_eq H.f140 rfl]
 simp [w140,H.inl,inlB,H.pp,ppB,h]
theorem jM (H:jl C) (n:Nd):FnW C 439 [.agg n.c]=some (.int .i64 (if cnt n=0 then 14 else 0)):=by
 have h:=jT H n
 rw [fnW_eq H.xR rfl]
 by_cases c:cnt n=0
 · simp [w439,H.inl,inlB,H.pp,ppB,h,c]
 · simp [w439,H.inl,inlB,H.pp,ppB,h,c]
end Go.D
end
section
namespace Go.D
open Go Go.Pav Go.Pw P
attribute [-simp] List.getElem_cons_drop
variable {C:WProg}
structure jR (C:WProg):Prop extends jl C where
 ru:C.fns.get 563=some w563
 xq:C.fns.get 520=some w520
 yA:C.fns.get 442=some w442
 xB:C.fns.get 441=some w441
abbrev hp1 (n:Nd):WHeap:=[(0,.cells 6 [n.c] true true)]
theorem qU (n:Nd) (i:Nat) (hi:i < n.ch.length) (hl:n.ch.length≤16) (R:AV)
 (hout:w563_K0 C ⟨[(5,.int .i64 (i+1:Nat)),(1,.ptr 0 0 0)],hp1 n,1⟩=some R):∀ j k,j+k=i →
 w563_K1 C ⟨[(6,.int .i64 k),(5,.int .i64 i),(1,.ptr 0 0 0)],hp1 n,1⟩=some (if decide (n.ch[i].y≠[])&&(((n.ch.map Nd.y).take i).drop k).contains n.ch[i].y then .bool false else R):=by
 intro j
 induction j with
 | zero =>
  intro k hk
  have h1:((n.ch.map Nd.y).take i).drop k=[]:=List.drop_eq_nil_of_le (by simp;omega)
  have h3:¬ k < i:=by omega
  simp only [w563_K0] at hout
  simp only [w563_K1];rw [ck_unf w563_B1.eq_1]
  simp at hout
  simp (disch:=omega) [ck_unf w563_c1.eq_1,h1,h3,ak,hout]
 | succ j ih =>
  intro k hk
  have h1:k < i:=by omega
  have h2:k < n.ch.length:=by omega
  have hlt:k < ((n.ch.map Nd.y).take i).length:=by simp;omega
  have:=ih (k+1) (by omega)
  rw [drop_cons hlt]
  have hy:((n.ch.map Nd.y).take i)[k]=n.ch[k].y:=by simp
  rw [hy]
  generalize (((n.ch.map Nd.y).take i).drop (k+1))=Q at *
  simp only [w563_K1] at this ⊢;rw [ck_unf w563_B1.eq_1]
  simp at this
  by_cases c1:n.ch[i].y=[]
  · simp [c1] at this
    simp (disch:=omega) [h1,h2,hi,ak,c1,this]
  · by_cases c2:n.ch[i].y=n.ch[k].y
    · have c3:¬ n.ch[k].y=[]:=by rw [← c2];exact c1
      simp (disch:=omega) [h1,h2,hi,ak,c1,c2,c3]
    · simp [c1] at this
      simp (disch:=omega) [h1,h2,hi,ak,c1,c2,this]
theorem nV (n:Nd) (hl:n.ch.length≤16):∀ j i,j+i=n.ch.length →
 w563_K0 C ⟨[(5,.int .i64 i),(1,.ptr 0 0 0)],hp1 n,1⟩=some (.bool (aQ ((n.ch.map Nd.y).take i) ((n.ch.map Nd.y).drop i))):=by
 intro j
 induction j with
 | zero =>
  intro i hi
  simp only [w563_K0];rw [ck_unf w563_B0.eq_1]
  have h1:(n.ch.map Nd.y).drop i=[]:=List.drop_eq_nil_of_le (by simp;omega)
  have h3:¬ i < n.ch.length:=by omega
  simp [ck_unf w563_c0.eq_1,h1,h3,aQ,-List.map_drop]
 | succ j ih =>
  intro i hi
  have h1:i < n.ch.length:=by omega
  have h2:i < (n.ch.map Nd.y).length:=by simp;omega
  have hin:=qU n i h1 hl _ (ih (i+1) (by omega)) i 0 (by simp)
  have hy:(n.ch.map Nd.y)[i]=n.ch[i].y:=by simp
  rw [List.take_succ_eq_append_getElem h2,List.drop_zero,hy] at hin
  rw [drop_cons h2,aQ,hy]
  generalize (n.ch.map Nd.y).take i=P at *
  generalize (n.ch.map Nd.y).drop (i+1)=Q at *
  simp only [w563_K0,w563_K1] at hin ⊢;rw [ck_unf w563_B0.eq_1]
  simp at hin
  by_cases c1:n.ch[i].y=[]
  · simp [c1] at hin
    simp (disch:=omega) [h1,hin,c1]
  · by_cases c2:n.ch[i].y ∈ P
    · simp [c1,c2] at hin
      simp (disch:=omega) [h1,hin,c1,c2]
    · simp [c1,c2] at hin
      simp (disch:=omega) [h1,hin,c1,c2]
theorem qF (n:Nd) (i:Nat) (hi:i < n.a.length) (hl:n.a.length≤8) (R:AV)
 (hout:w563_K2 C ⟨[(3,.int .i64 (i+1:Nat)),(1,.ptr 0 0 0)],hp1 n,1⟩=some R):∀ j k,j+k=i →
 w563_K3 C ⟨[(4,.int .i64 k),(3,.int .i64 i),(1,.ptr 0 0 0)],hp1 n,1⟩=some (if ((n.a.take i).drop k).all (fun b=>decide (b.1 < n.a[i].1))=true then R else .bool false):=by
 intro j
 induction j with
 | zero =>
  intro k hk
  have h1:(n.a.take i).drop k=[]:=List.drop_eq_nil_of_le (by simp;omega)
  have h3:¬ k < i:=by omega
  simp only [w563_K2] at hout
  simp only [w563_K3];rw [ck_unf w563_B3.eq_1]
  simp at hout
  simp (disch:=omega) [ck_unf w563_c3.eq_1,h1,h3,ak,hout]
 | succ j ih =>
  intro k hk
  have h1:k < i:=by omega
  have h2:k < n.a.length:=by omega
  have hlt:k < (n.a.take i).length:=by simp;omega
  have:=ih (k+1) (by omega)
  rw [drop_cons hlt]
  have hy:(n.a.take i)[k]=n.a[k]:=by simp
  rw [hy]
  generalize ((n.a.take i).drop (k+1))=Q at *
  simp only [w563_K3] at this ⊢;rw [ck_unf w563_B3.eq_1]
  simp at this
  by_cases c1:n.a[k].1 < n.a[i].1
  · rw [List.all_cons,decide_eq_true c1,Bool.true_and]
    simp (disch:=omega) [h1,h2,hi,ak,blt_eq,c1,this]
  · rw [List.all_cons,decide_eq_false c1,Bool.false_and]
    have c2:n.a[i].1≤n.a[k].1:=List.not_lt.1 c1
    simp (disch:=omega) [h1,h2,hi,ak,blt_eq,c1,c2]
theorem nC (n:Nd) (i:Nat) (hi:i < n.a.length) (hl:n.a.length≤8):∀ j k,j+k=i→((n.a.take i).drop k).all (fun b=>decide (b.1 < n.a[i].1))=false →
 w563_K3 C ⟨[(4,.int .i64 k),(3,.int .i64 i),(1,.ptr 0 0 0)],hp1 n,1⟩=some (.bool false):=by
 intro j
 induction j with
 | zero =>
  intro k hk hf
  have h1:(n.a.take i).drop k=[]:=List.drop_eq_nil_of_le (by simp;omega)
  rw [h1] at hf
  simp at hf
 | succ j ih =>
  intro k hk hf
  have h1:k < i:=by omega
  have h2:k < n.a.length:=by omega
  have hlt:k < (n.a.take i).length:=by simp;omega
  rw [drop_cons hlt] at hf
  have hy:(n.a.take i)[k]=n.a[k]:=by simp
  rw [hy,List.all_cons] at hf
  by_cases c1:n.a[k].1 < n.a[i].1
  · rw [decide_eq_true c1,Bool.true_and] at hf
    have:=ih (k+1) (by omega) hf
    simp only [w563_K3] at this ⊢;rw [ck_unf w563_B3.eq_1]
    simp at this
    simp (disch:=omega) [h1,h2,hi,ak,blt_eq,c1,this]
  · have c2:n.a[i].1≤n.a[k].1:=List.not_lt.1 c1
    simp only [w563_K3];rw [ck_unf w563_B3.eq_1]
    simp (disch:=omega) [h1,h2,hi,ak,blt_eq,c1,c2]
theorem nT (H:jR C) (n:Nd) (hl:n.a.length≤8) (hl2:n.ch.length≤16):∀ j i,j+i=n.a.length→(∀ (p q:Nat) (hp:p < n.a.length) (hq:q < n.a.length),p < q→q < i→n.a[p].1 < n.a[q].1) →
 w563_K2 C ⟨[(3,.int .i64 i),(1,.ptr 0 0 0)],hp1 n,1⟩=some (.bool (atOk (if i=0 then none else (n.a[i - 1]?).map Prod.fst) (n.a.drop i)&&aQ [] (n.ch.map Nd.y))):=by
 intro j
 induction j with
 | zero =>
  intro i hi hs
  have hk:=nV (C:=C) n hl2 n.ch.length 0 (by simp)
  simp only [List.take_zero,List.drop_zero] at hk
  generalize aQ [] (n.ch.map Nd.y)=K at *
  simp only [w563_K0] at hk
  simp at hk
  simp only [w563_K2];rw [ck_unf w563_B2.eq_1]
  have h1:n.a.drop i=[]:=List.drop_eq_nil_of_le (by omega)
  have h3:¬ i < n.a.length:=by omega
  simp [ck_unf w563_c2.eq_1,h1,h3,atOk,hk]
 | succ j ih =>
  intro i hi hs
  have h1:i < n.a.length:=by omega
  have hb:=bT H.toHasS n.a[i].1
  have hc:=eH H.toHasS n.a[i].2
  rw [drop_cons h1,atOk]
  generalize hK:aQ [] (n.ch.map Nd.y)=K at *
  cases q1:isName n.a[i].1
  · rw [q1] at hb
    simp only [w563_K2];rw [ck_unf w563_B2.eq_1]
    simp (disch:=omega) [h1,ak,hb,H.inl,inlB,H.pp,ppB]
  · cases q2:isText n.a[i].2
    · rw [q1] at hb;rw [q2] at hc
      simp only [w563_K2];rw [ck_unf w563_B2.eq_1]
      simp (disch:=omega) [h1,ak,hb,hc,H.inl,inlB,H.pp,ppB]
    · rw [q1] at hb;rw [q2] at hc
      have key:(n.a.take i).all (fun b=>decide (b.1 < n.a[i].1))=after (if i=0 then none else (n.a[i - 1]?).map Prod.fst) n.a[i].1:=by
       cases i with
       | zero=>simp [after]
       | succ i =>
        have h4:i < n.a.length:=by omega
        rw [if_neg (by omega),show i+1 - 1=i from rfl,List.getElem?_eq_getElem h4]
        simp only [Option.map_some,after]
        by_cases q3:n.a[i].1 < n.a[i+1].1
        · rw [decide_eq_true q3,List.all_eq_true]
          intro b hb
          obtain ⟨p,hp,rfl⟩:=List.getElem_of_mem hb
          simp at hp
          rw [List.getElem_take]
          apply decide_eq_true
          by_cases e:p=i
          · subst e;exact q3
          · exact List.lt_trans (hs p i (by omega) h4 (by omega) (by omega)) q3
        · rw [decide_eq_false q3,List.all_eq_false]
          exact ⟨n.a[i],List.mem_take_iff_getElem.2 ⟨i,by omega,rfl⟩,by simp [q3]⟩
      have step:∀ R,w563_K3 C ⟨[(4,.int .i64 (0:Nat)),(3,.int .i64 i),(1,.ptr 0 0 0)],hp1 n,1⟩=some R→w563_K2 C ⟨[(3,.int .i64 i),(1,.ptr 0 0 0)],hp1 n,1⟩=some R:=by
       intro R hR
       simp only [w563_K2,w563_K3] at hR ⊢;rw [ck_unf w563_B2.eq_1]
       simp at hR
       simp (disch:=omega) [h1,ak,hb,hc,H.inl,inlB,H.pp,ppB,hR]
      by_cases q3:(n.a.take i).all (fun b=>decide (b.1 < n.a[i].1))=true
      · have:=ih (i+1) (by omega) (fun p q hp hq h5 h6=>by
         by_cases e:q=i
         · subst e
           have:=List.all_eq_true.1 q3 n.a[p] (List.mem_take_iff_getElem.2 ⟨p,by omega,rfl⟩)
           simpa using this
         · exact hs p q hp hq h5 (by omega))
        rw [if_neg (by omega),show i+1 - 1=i from rfl,List.getElem?_eq_getElem h1] at this
        have hin:=qF n i h1 hl _ this i 0 (by simp)
        rw [List.drop_zero,if_pos q3] at hin
        rw [step _ hin,← key,q3]
        simp
      · have q4:(n.a.take i).all (fun b=>decide (b.1 < n.a[i].1))=false:=Bool.eq_false_iff.2 q3
        rw [← key,q4]
        simp only [Bool.and_false,Bool.false_and]
        exact step _ (nC n i h1 hl i 0 (by simp) (by rw [List.drop_zero];exact q4))
theorem yK (H:jR C) (n:Nd):FnW C 563 [.agg n.c]=some (.bool (alone n)):=by
 rw [fnW_eq H.ru rfl]
 unfold alone
 have ht:=bT H.toHasS n.t
 have hy:=bT H.toHasS n.y
 have hx:=eH H.toHasS n.x
 by_cases k2:n.k=2
 · rw [if_pos k2]
   generalize isText n.x=X at *
   cases X
   · simp [w563,k2,hx,H.inl,inlB,H.pp,ppB]
   · by_cases c1:n.t=[] <;> by_cases c2:n.y=[] <;> by_cases c3:n.a=[] <;> by_cases c4:n.ch=[] <;> simp [w563,k2,hx,H.inl,inlB,H.pp,ppB,c1,c2,c3,c4]
 · rw [if_neg k2]
   by_cases k1:n.k=1
   · cases q1:isName n.t
     · rw [q1] at ht;simp [w563,k1,ht,H.inl,inlB,H.pp,ppB]
     · rw [q1] at ht
       have rest:(n.y=[]∨n.y≠[]∧isName n.y=true)→FnW C 563 [.agg n.c]=some (.bool (decide (n.x=[])&&decide (n.a.length≤8)&&decide (n.ch.length≤16)&&atOk none n.a&&aQ [] (n.ch.map Nd.y))):=by
        intro hyy
        rw [fnW_eq H.ru rfl]
        by_cases c3:n.x=[]
        · by_cases c4:n.a.length≤8
          · by_cases c5:n.ch.length≤16
            · have c6:¬ 8 < (n.a.length:Int):=by omega
              have c7:¬ 16 < (n.ch.length:Int):=by omega
              have hl:=nT H n c4 c5 n.a.length 0 (by simp) (by omega)
              simp only [w563_K2,if_true,List.drop_zero] at hl
              generalize atOk none n.a=A at *
              generalize aQ [] (n.ch.map Nd.y)=K at *
              simp at hl
              rcases hyy with c2 | ⟨c2,q2⟩
              · simp [w563,k1,ht,H.inl,inlB,H.pp,ppB,eq_true c2,eq_true c3,c4,c5,c6,c7,hl]
              · rw [q2] at hy
                simp [w563,k1,ht,hy,H.inl,inlB,H.pp,ppB,c2,eq_true c3,c4,c5,c6,c7,hl]
            · have c6:¬ 8 < (n.a.length:Int):=by omega
              have c7:16 < (n.ch.length:Int):=by omega
              rcases hyy with c2 | ⟨c2,q2⟩
              · simp [w563,k1,ht,H.inl,inlB,H.pp,ppB,eq_true c2,eq_true c3,c4,c5,c6,c7]
              · rw [q2] at hy
                simp [w563,k1,ht,hy,H.inl,inlB,H.pp,ppB,c2,eq_true c3,c4,c5,c6,c7]
          · have c6:8 < (n.a.length:Int):=by omega
            rcases hyy with c2 | ⟨c2,q2⟩
            · simp [w563,k1,ht,H.inl,inlB,H.pp,ppB,eq_true c2,eq_true c3,c4,c6]
            · rw [q2] at hy
              simp [w563,k1,ht,hy,H.inl,inlB,H.pp,ppB,c2,eq_true c3,c4,c6]
        · rcases hyy with c2 | ⟨c2,q2⟩
          · simp [w563,k1,ht,H.inl,inlB,H.pp,ppB,eq_true c2,c3]
          · rw [q2] at hy
            simp [w563,k1,ht,hy,H.inl,inlB,H.pp,ppB,c2,c3]
       rw [fnW_eq H.ru rfl] at rest
       by_cases c2:n.y=[]
       · rw [rest (.inl c2)];simp [k1,c2]
       · cases q2:isName n.y
         · rw [q2] at hy;simp [w563,k1,ht,hy,H.inl,inlB,H.pp,ppB,c2]
         · rw [rest (.inr ⟨c2,q2⟩)];simp [k1]
   · simp [w563,k1,k2,H.inl,inlB,H.pp,ppB]
end Go.D
end
