/- Part of the theory that the claims of this work use: PwP, PwLib, D01, PavLink, L24, PwGlue, PwGlue2, G00, D02. No conditions of its own. -/
import Derived.Test.YtlkfpgggbjlfgaaGreatT4
import Derived.Laws.RangeAny
import Derived.Test.YtlkfpgggbjlfgaaGreatChecked
import Derived.KernelRfl
import Derived.ChangeSame
import Derived.ChangeArms
import Derived.ReadAgain
import Derived.Handed
import Derived.JoinedOf
import Derived.RowKit
import Derived.Test.YtlkfpgggbjlfgaaGreatRows
import Derived.ProofKit
set_option linter.unusedVariables false
set_option linter.unusedSimpArgs false
set_option maxHeartbeats 4000000
set_option maxRecDepth 10000
section
set_option maxRecDepth 100000
namespace P
open Go Go.Pav Go.Pw Go.Pw.Z Go.Pw.ZC
def w0:WFn:=⟨0,[],zd (O 0 [E .fail])⟩
def Jv:aB:=zd (r (O 288 [ca 145 [],d 0 (m 288)]))
def mD:aB:=zd (s (s (O 211 [m 16,lti 211 80]) (cc 212 (w .skip) (ee 2))) (s (B 3 (s (Q 215 [E (.build [.int .u8 0,.int .u8 0,.int .u8 0,.int .u8 0] [(0,1,.c (.int .u8 1)),(1,1,.c (.int .u8 0)),(2,1,.c (.int .u8 1)),(3,1,.c (.int .u8 1))]),E (.build [.int .u8 0,.int .u8 0,.int .u8 0,.int .u8 0] [(0,1,.c (.int .u8 2)),(1,1,.c (.int .u8 1)),(2,1,.c (.int .u8 2)),(3,1,.c (.int .u8 2))]),m 16,E (.bin .rem (T 217) (N 8)),E (.cvt .u8 (T 218)),E (.build [.int .u8 0,.int .u8 0,.int .u8 0,.int .u8 0] [(0,1,.c (.int .u8 3)),(1,1,.c (.int .u8 2)),(2,1,.c (.int .u8 3)),(3,1,T 219)]),E (.build [.int .u8 0,.int .u8 0,.int .u8 0,.int .u8 0] [(0,1,.c (.int .u8 4)),(1,1,.c (.int .u8 0)),(2,1,.c (.int .u8 0)),(3,1,.c (.int .u8 0))]),E (.build [.int .u8 0,.int .u8 0,.int .u8 0,.int .u8 0] [(0,1,.c (.int .u8 5)),(1,1,.c (.int .u8 2)),(2,1,.c (.int .u8 2)),(3,1,.c (.int .u8 7))]),E (.aW [.int .u8 0,.int .u8 0,.int .u8 0,.int .u8 0] 5 [(0,T 215),(1,T 216),(2,T 220),(3,T 221),(4,T 222)]),E (.build [.ro 4 [] true] [(0,1,T 223)]),m 16,E (.cvt .u8 (T 225)),E (.build [.ro 4 [] true,.ro 1 [] true,.int .u8 0] [(0,1,T 224),(2,1,T 226)]),m 16,E (.cvt .u8 (T 228)),E (.build [.int .u8 0,.int .u8 0,.int .u8 0,.int .u8 0] [(0,1,.c (.int .u8 3)),(1,1,T 229),(2,1,.c (.int .u8 1)),(3,1,.c (.int .u8 1))]),E (.build [.int .u8 0,.int .u8 0,.int .u8 0,.int .u8 0] [(0,1,.c (.int .u8 2)),(1,1,.c (.int .u8 1)),(2,1,.c (.int .u8 2)),(3,1,.c (.int .u8 3))]),E (.build [.int .u8 0,.int .u8 0,.int .u8 0,.int .u8 0] [(0,1,.c (.int .u8 7)),(1,1,.c (.int .u8 2)),(2,1,.c (.int .u8 3)),(3,1,.c (.int .u8 5))]),E (.aW [.int .u8 0,.int .u8 0,.int .u8 0,.int .u8 0] 3 [(0,T 230),(1,T 231),(2,T 232)]),E (.build [.ro 4 [] true] [(0,1,T 233)]),E (.build [.ro 4 [] true,.ro 1 [] true,.int .u8 0] [(0,1,T 234)]),m 16,E (.cvt .u16 (T 236)),E (.build [.int .u16 0,.int .u16 0] [(0,1,.c (.int .u16 0)),(1,1,T 237)]),E (.build [.int .u16 0,.int .u16 0] [(0,1,.c (.int .u16 1)),(1,1,.c (.int .u16 7))]),m 16,E (.bin .mul (T 240) (N 7)),E (.cvt .u16 (T 241)),E (.build [.int .u16 0,.int .u16 0] [(0,1,.c (.int .u16 0)),(1,1,T 242)]),m 16,E (.cvt .u16 (T 244)),E (.build [.int .u16 0,.int .u16 0] [(0,1,.c (.int .u16 1)),(1,1,T 245)]),E (.aW [.int .u16 0,.int .u16 0] 4 [(0,T 238),(1,T 239),(2,T 243),(3,T 246)]),E (.build [.ro 4 [] true,.ro 1 [] true,.int .u8 0,.ro 4 [] true,.ro 1 [] true,.int .u8 0,.ro 2 [] true] [(0,3,T 227),(3,3,T 235),(6,1,T 247)]),d 17 (E (.alloc [.ro 4 [] true,.ro 1 [] true,.int .u8 0,.ro 4 [] true,.ro 1 [] true,.int .u8 0,.ro 2 [] true])),n (st 7 17 248)] [17,16]) (s (Q 249 [h 7 17,m 16,E (.bin .quo (T 250) (N 2)),E (.cvt .u16 (T 251)),m 16,E (.bin .mul (T 253) (N 3)),E (.cvt .u16 (T 254)),E (.build [.int .u16 0,.int .u16 0] [(0,1,T 252),(1,1,T 255)]),ca 141 [249,256],nt 257,m 258,z 259 (h 7 17),z 259 (m 16),z 259 (E (.bin .rem (T 261) (N 3))),z 259 (m 16),z 259 (E (.bin .rem (T 263) (N 4))),z 259 (E (.build [.int .i64 0,.int .i64 0] [(0,1,T 262),(1,1,T 264)])),z 259 (ca 142 [260,265]),z 259 (nt 266),po 259 267,m 268,z 269 (h 7 17),z 269 (m 16),z 269 (E (.cvt .u16 (T 271))),z 269 (E (.build [.int .u16 0,.int .u16 0] [(0,1,T 272),(1,1,.c (.int .u16 31))])),z 269 (m 16),z 269 (E (.bin .rem (T 274) (N 5))),z 269 (sbi 275 3),z 269 (E (.cvt .i8 (T 276))),z 269 (ca 143 [270,273,277]),z 269 (nt 278),po 269 279,m 280,z 281 (h 7 17),z 281 (E (.build [.int .u64 0,.int .u8 0,.int .u8 0,.str [],.str [],.ro 2 [] true,.str [],.ro 6 [] true,.int .u8 0,.int .u8 0,.int .i64 0,.int .i64 0,.int .i64 0] [])),z 281 (E (.aW [.int .i64 0] 2 [(0,N 0),(1,N 1)])),z 281 (ca 144 [282,283,284]),z 281 (nt 285),po 281 286] [287,16]) (c 287 (r (O 0 [ff])))))) (O 213 [m 16,adi 213 1,d 16 (m 214)])))
def abX:aB:=.loop ⟨true,[16],[]⟩ mD
def lC:aB:=zd (s (O 46 [h 7 2,ca 138 [46],d 45 (m 47),ex 0 45,ex 1 45,d 6 (E (.alloc [.ro 8 [] true,.ro 1 [] true])),n (st 2 6 48),d 7 (m 49)]) (s (Q 51 [h 7 2,h 2 6,h 1 3,m 4,ca 6032 [51,52,53,54],d 50 (m 55),ex 0 50,ex 1 50,ex 2 50,d 8 (E (.alloc [.ro 8 [] true,.ro 1 [] true])),d 9 (E (.alloc [.int .i64 0,.int .i64 0,.int .i64 0,.int .i64 0])),n (st 2 8 56),n (st 4 9 57),d 10 (m 58)] [10,9,8,7,3,2]) (s (O 60 [h 7 2,h 2 8,h 1 3,E (.call 6032 [T 60,T 61,T 62,.c (.ro 1 [] true)]),d 59 (m 63),ex 0 59,ex 1 59,ex 2 59,d 11 (E (.alloc [.ro 8 [] true,.ro 1 [] true])),d 12 (E (.alloc [.int .i64 0,.int .i64 0,.int .i64 0,.int .i64 0])),n (st 2 11 64),n (st 4 12 65),d 13 (m 66)]) (s (s (Q 67 [m 7,nei 67 0,m 68,z 69 (m 10),z 69 (nei 70 0),po 69 71,m 72,z 73 (m 13),z 73 (nei 74 0),po 73 75,m 76,z 77 (h 4 9),z 77 (E (.build [.int .i64 0,.int .i64 0,.int .i64 0,.int .i64 0] [(1,1,N 20),(3,1,N 41)])),z 77 (E (.eqv 4 [0,0,0,0] true (T 78) (T 79))),po 77 80,m 81,z 82 (h 4 12),z 82 (E (.build [.int .i64 0,.int .i64 0,.int .i64 0,.int .i64 0] [(2,1,N 4),(3,1,N 33)])),z 82 (E (.eqv 4 [0,0,0,0] true (T 83) (T 84))),po 82 85,m 86,z 87 (f 1 11),z 87 (l 1 88),z 87 (ln 1 89),z 87 (nei 90 2),po 87 91,m 92,z 93 (f 1 11),z 93 (l 1 94),z 93 (E (.idxs 1 (T 95) (N 0))),z 93 (l 1 96),z 93 (ln 1 97),z 93 (nei 98 16),po 93 99,m 100,z 101 (f 1 11),z 101 (l 1 102),z 101 (E (.idxs 1 (T 103) (N 0))),z 101 (l 1 104),z 101 (E (.idxs 8 (T 105) (N 0))),z 101 (f 0 106),z 101 (l 1 107),z 101 (E (.bin .neq (T 108) (.c (.int .u64 1)))),po 101 109,m 110,z 111 (f 1 11),z 111 (l 1 112),z 111 (E (.idxs 1 (T 113) (N 0))),z 111 (l 1 114),z 111 (E (.idxs 8 (T 115) (N 15))),z 111 (f 0 116),z 111 (l 1 117),z 111 (E (.bin .neq (T 118) (.c (.int .u64 16)))),po 111 119] [120,11,9,3,2]) (c 120 (r (O 0 [ff])))) (s (O 122 [h 7 2,h 2 11,h 1 3,E (.aW [.int .i64 0] 2 [(0,N 3),(1,N 17)]),ca 6032 [122,123,124,125],d 121 (m 126),ex 0 121,ex 1 121,ex 2 121,d 14 (E (.alloc [.ro 8 [] true,.ro 1 [] true])),n (st 2 14 127),n (st 4 9 128),d 7 (m 129)]) (s (s (Q 130 [m 7,nei 130 0,m 131,z 132 (h 4 9),z 132 (E (.build [.int .i64 0,.int .i64 0,.int .i64 0,.int .i64 0] [(0,1,N 2),(3,1,N 33)])),z 132 (E (.eqv 4 [0,0,0,0] true (T 133) (T 134))),po 132 135,m 136,z 137 (f 1 14),z 137 (l 1 138),z 137 (E (.idxs 1 (T 139) (N 0))),z 137 (l 1 140),z 137 (ln 1 141),z 137 (nei 142 14),po 137 143,m 144,z 145 (f 1 14),z 145 (l 1 146),z 145 (E (.idxs 1 (T 147) (N 0))),z 145 (l 1 148),z 145 (E (.idxs 8 (T 149) (N 13))),z 145 (f 0 150),z 145 (l 1 151),z 145 (E (.bin .neq (T 152) (.c (.int .u64 14)))),po 145 153,m 154,z 155 (f 0 14),z 155 (l 1 156),z 155 (E (.idxs 8 (T 157) (N 0))),z 155 (f 2 158),z 155 (h 6 159),z 155 (ca 140 [160]),z 155 (nei 161 2),po 155 162] [163,14,9,3,2]) (c 163 (r (O 0 [ff])))) (s (O 164 [f 0 3,l 1 164,E (.idxs 6 (T 165) (N 3)),f 0 166,f 1 167,n (E (.store 1 (T 168) (.c (.int .u8 1))))]) (s (O 170 [h 7 2,h 2 14,h 1 3,E (.aW [.int .i64 0] 2 [(0,N 3),(1,N 17)]),ca 6032 [170,171,172,173],d 169 (m 174),ex 0 169,ex 1 169,ex 2 169,d 15 (E (.alloc [.ro 8 [] true,.ro 1 [] true])),n (st 2 15 175),n (st 4 9 176),d 7 (m 177)]) (s (s (Q 178 [m 7,nei 178 0,m 179,z 180 (h 4 9),z 180 (E (.build [.int .i64 0,.int .i64 0,.int .i64 0,.int .i64 0] [(1,1,N 1),(3,1,N 35)])),z 180 (E (.eqv 4 [0,0,0,0] true (T 181) (T 182))),po 180 183,m 184,z 185 (f 1 15),z 185 (l 1 186),z 185 (E (.idxs 1 (T 187) (N 0))),z 185 (l 1 188),z 185 (ln 1 189),z 185 (nei 190 15),po 185 191,m 192,z 193 (f 1 15),z 193 (l 1 194),z 193 (E (.idxs 1 (T 195) (N 0))),z 193 (l 1 196),z 193 (E (.idxs 8 (T 197) (N 14))),z 193 (f 0 198),z 193 (l 1 199),z 193 (E (.bin .neq (T 200) (.c (.int .u64 4)))),po 193 201,m 202,z 203 (f 0 15),z 203 (l 1 204),z 203 (E (.idxs 8 (T 205) (N 0))),z 203 (f 1 206),z 203 (l 1 207),z 203 (E (.bin .neq (T 208) (.c (.int .u8 1)))),po 203 209] [210]) (c 210 (r (O 0 [ff])))) (s (s (O 16 [i 0]) (bk 2 abX ⟨true,[],[]⟩)) Jv))))))))))
def vS:aB:=zd (s (s (O 27 [m 5,lti 27 20]) (cc 28 (w .skip) (ee 0))) (s (B 1 (s (Q 31 [f 0 3,l 1 31,m 5,adi 33 1,E (.cvt .u64 (T 34)),E (.build [.int .u64 0,.int .u8 0,.str [],.ro 1 [] true] [(0,1,T 35),(2,1,.c (.str [120]))]),E (.build [.int .u64 0,.int .u8 0,.str [],.ro 1 [] true,.int .i64 0,.bool false] [(0,4,T 36),(4,1,N 1)]),E (.aW [.int .u64 0,.int .u8 0,.str [],.ro 1 [] true,.int .i64 0,.bool false] 1 [(0,T 37)]),E (.app [.int .u64 0,.int .u8 0,.str [],.ro 1 [] true,.int .i64 0,.bool false] 72 false (T 32) (T 38)),f 0 3,n (st 1 40 39)] [5,4,3,2]) (O 41 [m 4,m 5,E (.aW [.int .i64 0] 1 [(0,T 42)]),E (.app [.int .i64 0] 8 false (T 41) (T 43)),d 4 (m 44)]))) (O 29 [m 5,adi 29 1,d 5 (m 30)])))
def acM:aB:=.loop ⟨true,[5,4,3,2],[]⟩ vS
def w88:WFn:=⟨0,[.tmp 0],zd (s (O 0 [ff]) (s (O 18 [E (.build [.int .u8 0,.str [],.str [],.ro 3 [] true,.str [],.ro 6 [] true] [(0,1,.c (.int .u8 3))]),E (.aW [.int .u8 0,.str [],.str [],.ro 3 [] true,.str [],.ro 6 [] true] 1 [(0,T 18)]),E (.build [.int .u8 0,.str [],.str [],.ro 3 [] true,.str [],.ro 6 [] true] [(0,1,.c (.int .u8 1)),(1,1,.c (.str [114,111,119])),(5,1,T 19)]),d 1 (E (.alloc [.int .u8 0,.str [],.str [],.ro 3 [] true,.str [],.ro 6 [] true])),n (st 6 1 20)]) (s (O 21 [h 6 1,E (.build [.int .u8 0,.str [],.str [],.ro 3 [] true,.str [],.ro 6 [] true,.int .i64 0,.bool false,.int .i64 0] [(0,6,T 21),(6,1,N 1),(8,1,N 16)]),h 6 1,E (.build [.int .u8 0,.str [],.str [],.ro 3 [] true,.str [],.ro 6 [] true,.int .i64 0,.bool false,.int .i64 0] [(0,6,T 23),(6,1,N 1),(8,1,N 2)]),E (.aW [.int .u8 0,.str [],.str [],.ro 3 [] true,.str [],.ro 6 [] true,.int .i64 0,.bool false,.int .i64 0] 2 [(0,T 22),(1,T 24)]),E (.build [.int .i64 0,.int .i64 0,.int .i64 0,.ro 9 [] true,.int .i64 0,.int .i64 0,.int .u8 0] [(3,1,T 25),(4,1,N 2),(5,1,N 100)]),d 2 (E (.alloc [.int .i64 0,.int .i64 0,.int .i64 0,.ro 9 [] true,.int .i64 0,.int .i64 0,.int .u8 0])),n (st 7 2 26)]) (s (O 3 [E (.alloc [.ro 6 [] true])]) (s (R 4 [E (.mv (.c (.ro 1 [] true)))] ⟨true,[4,3,2],[(4,1)]⟩) (s (s (O 5 [i 0]) (bk 0 acM ⟨true,[4,3,2],[]⟩)) lC))))))⟩
@[simp] theorem avh:ZL abX mD ⟨true,[16],[]⟩:=bg rfl
@[simp] theorem auw:ZL acM vS ⟨true,[5,4,3,2],[]⟩:=bg rfl
def GL:aB:=zd (r (V 68 [h 2 4,h 1 6,n (st 2 2 68),n (st 1 3 69)] [(1,2)] ⟨false,[],[]⟩))
def jD:aB:=zd (s (s (O 17 [m 7,m 5,ln 1 18,lt 17 19]) (cc 20 (w .skip) (ee 0))) (s (B 1 (s (s (V 23 [h 2 4,m 5,m 7,ix 4 24 25,h 4 26,E (.call 271 [T 23,T 27,N 0]),gti 28 0] [] ⟨false,[],[]⟩) (c 29 (ee 1))) (s (U 30 [h 2 4,m 5,m 7,ix 4 31 32,h 4 33,ca 240 [30,34],d 8 (E (.alloc [.int .u64 0,.int .u8 0,.str [],.ro 1 [] true,.int .i64 0,.bool false])),n (st 6 8 35)] [(0,6),(4,6),(5,6)] [8,7,6,5,4,3,2,1]) (s (s (O 36 [f 0 6,l 1 36,ln 1 37,d 9 (m 38)]) (s (O 39 [m 9,f 1 1,l 1 40,ln 1 41,lt 39 42,m 43,y 44 (f 1 1),y 44 (l 1 45),y 44 (m 9),y 44 (ix 1 46 47),y 44 (l 1 48),y 44 (E (.bin .gtr (T 49) (.c (.int .u8 0)))),pa 44 50]) (c 51 (s (Q 52 [f 1 1,l 1 52,m 9,ix 1 53 54,l 1 55,E (.bin .rem (T 56) (.c (.int .u8 40))),E (.cvt .i64 (T 57)),E (.bin .add (N 1) (T 58)),f 4 8,n (st 1 60 59)] [8,7,6,5,4,3,2,1]) (O 61 [f 5 8,n (E (.store 1 (T 61) (.c (.bool true))))]))))) (O 62 [f 0 6,l 1 62,h 6 8,E (.aW [.int .u64 0,.int .u8 0,.str [],.ro 1 [] true,.int .i64 0,.bool false] 1 [(0,T 64)]),E (.app [.int .u64 0,.int .u8 0,.str [],.ro 1 [] true,.int .i64 0,.bool false] 72 false (T 63) (T 65)),f 0 6,n (st 1 67 66)]))))) (O 21 [m 7,adi 21 1,d 7 (m 22)])))
def P6:aB:=.loop ⟨true,[7,6,5,4,3,2,1],[]⟩ jD
def aie:WFn:=⟨1,[.cell 2 2 true,.cell 3 1 true],zd (s (Q 1 [bx 0,E (.alloc [.ro 9 [] true,.int .i64 0]),E (.alloc [.ro 6 [] true])] [3,2,1]) (s (O 10 [f 2 1,l 1 10,ca 126 [11],E (.build [.ro 9 [] true,.int .i64 0] [(0,1,T 12),(1,1,N 12)]),d 4 (E (.alloc [.ro 9 [] true,.int .i64 0])),n (st 2 4 13)]) (s (O 14 [f 0 1,h 1 14,ca 270 [15],d 5 (m 16)]) (s (O 6 [E (.alloc [.ro 6 [] true])]) (s (s (O 7 [i 0]) (bk 0 P6 ⟨true,[6,4,3,2],[]⟩)) GL)))))⟩
@[simp] theorem aqy:ZL P6 jD ⟨true,[7,6,5,4,3,2,1],[]⟩:=bg rfl
noncomputable abbrev iO(C:aJ)(s:WSt):Option AV:=CK C 0 (aO [.cell 2 2 true,.cell 3 1 true]) [.sq P6,.bk 0 ⟨true,[6,4,3,2],[]⟩,.sq GL] jD s
def Qz:aB:=zd (r (O 4 [i (-1)]))
def yU:aB:=zd (s (s (O 6 [m 5,m 0,ln 1 7,lt 6 8]) (cc 9 (w .skip) (ee 0))) (s (B 1 (s (O 12 [m 0,m 5,ix 6 12 13,f 0 14,f 0 15,l 1 16,m 1,eq 17 18]) (c 19 (r (O 20 [m 5,d 4 (m 20)]))))) (O 10 [m 5,adi 10 1,d 5 (m 11)])))
def O8:aB:=.loop ⟨true,[5,1,0],[]⟩ yU
def aiI:WFn:=⟨2,[.tmp 4],zd (s (O 4 [i 0]) (s (s (O 5 [i 0]) (bk 0 O8 ⟨true,[],[]⟩)) Qz))⟩
@[simp] theorem aqt:ZL O8 yU ⟨true,[5,1,0],[]⟩:=bg rfl
noncomputable abbrev Aq(C:aJ)(s:WSt):Option AV:=CK C 0 (aO [.tmp 4]) [.sq O8,.bk 0 ⟨true,[],[]⟩,.sq Qz] yU s
def OI:aB:=zd (r (O 25 [m 3,d 2 (m 25)]))
def xI:aB:=zd (s (O 11 [lt 10 9]) (s (cc 11 (w .skip) (ee 0)) (s (B 1 (s (O 12 [ix 6 8 10,h 6 12,d 5 (E (.alloc [.int .u64 0,.int .u8 0,.str [],.ro 1 [] true,.int .i64 0,.bool false])),n (st 6 5 13)]) (s (O 14 [f 4 5,l 1 14,E (.mx (T 15) (N 0)),d 6 (m 16)]) (s (s (O 17 [m 6,m 3,E (.bin .sub (N 4611686018427387904) (T 18)),gt 17 19]) (c 20 (r (O 2 [i 4611686018427387905])))) (O 21 [m 3,m 6,ad 21 22,d 3 (m 23)]))))) (O 24 [adi 10 1,d 10 (m 24)]))))
def Ox:aB:=.loop ⟨true,[10,9,8,3],[]⟩ xI
def ahG:WFn:=⟨1,[.tmp 2],zd (s (O 1 [bx 0,i 0]) (s (O 3 [i 0]) (s (s (Q 7 [f 0 1,l 1 7,ln 1 8,i 0] [10,9,8,3]) (bk 0 Ox ⟨true,[3],[]⟩)) OI)))⟩
@[simp] theorem aqX:ZL Ox xI ⟨true,[10,9,8,3],[]⟩:=bg rfl
noncomputable abbrev Bg(C:aJ)(s:WSt):Option AV:=CK C 0 (aO [.tmp 2]) [.sq Ox,.bk 0 ⟨true,[3],[]⟩,.sq OI] xI s
def Rj:WFn:=⟨1,[.tmp 2],zd (s (O 1 [bx 0,i 0]) (s (O 3 [E (.mv (.c (.fn 230 [])))]) (s (s (Q 4 [f 0 1,l 1 4,ln 1 5,lti 6 1,m 7,z 8 (f 0 1),z 8 (l 1 9),z 8 (ln 1 10),z 8 (gti 11 8),po 8 12,m 13,z 14 (f 1 1),z 14 (l 1 15),z 14 (lti 16 1),po 14 17,m 18,z 19 (f 1 1),z 19 (l 1 20),z 19 (gti 21 64),po 19 22,m 23,z 24 (f 0 1),z 24 (l 1 25),z 24 (m 3),z 24 (ca 232 [26,27]),po 24 28] [29]) (c 29 (r (O 2 [i 7])))) (r (O 2 [i 0])))))⟩
def aiu:WFn:=⟨1,[.tmp 2],zd (s (O 2 [E (.mv (.c (.ro 9 [] true)))]) (s (Q 6 [E (.build [.str [],.int .u8 0,.str []] [(0,1,.c (.str [110])),(1,1,.c (.int .u8 3))]),E (.build [.str [],.int .u8 0,.str []] [(0,1,.c (.str [116,101,120,116])),(1,1,.c (.int .u8 1))]),E (.aW [.str [],.int .u8 0,.str []] 2 [(0,T 6),(1,T 7)]),E (.build [.int .u8 0,.str [],.str [],.ro 3 [] true,.str [],.ro 6 [] true] [(0,1,.c (.int .u8 3))]),E (.aW [.int .u8 0,.str [],.str [],.ro 3 [] true,.str [],.ro 6 [] true] 1 [(0,T 9)]),E (.build [.int .u8 0,.str [],.str [],.ro 3 [] true,.str [],.ro 6 [] true] [(0,1,.c (.int .u8 1)),(1,1,.c (.str [114,111,119])),(3,1,T 8),(5,1,T 10)]),d 3 (E (.alloc [.int .u8 0,.str [],.str [],.ro 3 [] true,.str [],.ro 6 [] true])),n (st 6 3 11)] [3,0]) (s (O 12 [E (.build [.str [],.int .u8 0,.str []] [(0,1,.c (.str [105,100])),(1,1,.c (.int .u8 2))]),E (.aW [.str [],.int .u8 0,.str []] 1 [(0,T 12)]),E (.build [.int .u8 0,.str [],.str [],.ro 3 [] true,.str [],.ro 6 [] true] [(0,1,.c (.int .u8 2)),(4,1,.c (.str [35]))]),E (.build [.int .u8 0,.str [],.str [],.ro 3 [] true,.str [],.ro 6 [] true] [(0,1,.c (.int .u8 4))]),E (.aW [.int .u8 0,.str [],.str [],.ro 3 [] true,.str [],.ro 6 [] true] 2 [(0,T 14),(1,T 15)]),E (.build [.int .u8 0,.str [],.str [],.ro 3 [] true,.str [],.ro 6 [] true] [(0,1,.c (.int .u8 1)),(1,1,.c (.str [104,101,97,100])),(2,1,.c (.str [104])),(3,1,T 13),(5,1,T 16)]),d 4 (E (.alloc [.int .u8 0,.str [],.str [],.ro 3 [] true,.str [],.ro 6 [] true])),n (st 6 4 17)]) (s (O 18 [E (.build [.int .u8 0,.str [],.str [],.ro 3 [] true,.str [],.ro 6 [] true] [(0,1,.c (.int .u8 3))]),E (.aW [.int .u8 0,.str [],.str [],.ro 3 [] true,.str [],.ro 6 [] true] 1 [(0,T 18)]),E (.build [.int .u8 0,.str [],.str [],.ro 3 [] true,.str [],.ro 6 [] true] [(0,1,.c (.int .u8 1)),(1,1,.c (.str [98])),(2,1,.c (.str [98,50])),(5,1,T 19)]),E (.build [.str [],.int .u8 0,.str []] [(0,1,.c (.str [111,102])),(1,1,.c (.int .u8 2))]),E (.aW [.str [],.int .u8 0,.str []] 1 [(0,T 21)]),E (.build [.int .u8 0,.str [],.str [],.ro 3 [] true,.str [],.ro 6 [] true] [(0,1,.c (.int .u8 5)),(1,1,.c (.str [116,97,103])),(3,1,T 22)]),E (.aW [.int .u8 0,.str [],.str [],.ro 3 [] true,.str [],.ro 6 [] true] 2 [(0,T 20),(1,T 23)]),E (.build [.int .u8 0,.str [],.str [],.ro 3 [] true,.str [],.ro 6 [] true] [(0,1,.c (.int .u8 1)),(1,1,.c (.str [114,111,119])),(5,1,T 24)]),d 5 (E (.alloc [.int .u8 0,.str [],.str [],.ro 3 [] true,.str [],.ro 6 [] true])),n (st 6 5 25)]) (r (Q 26 [h 6 3,m 0,E (.bin .rem (T 27) (.c (.int .u8 7))),E (.cvt .i64 (T 28)),E (.bin .add (N 10) (T 29)),m 0,E (.bin .rem (T 31) (.c (.int .u8 4))),E (.cvt .i64 (T 32)),E (.build [.int .u8 0,.str [],.str [],.ro 3 [] true,.str [],.ro 6 [] true,.int .i64 0,.bool false,.int .i64 0] [(0,6,T 26),(6,1,T 30),(8,1,T 33)]),h 6 4,m 0,E (.bin .rem (T 36) (.c (.int .u8 3))),E (.cvt .i64 (T 37)),E (.bin .add (N 6) (T 38)),m 0,E (.bin .quo (T 40) (.c (.int .u8 4))),E (.bin .rem (T 41) (.c (.int .u8 3))),E (.cvt .i64 (T 42)),E (.build [.int .u8 0,.str [],.str [],.ro 3 [] true,.str [],.ro 6 [] true,.int .i64 0,.bool false,.int .i64 0] [(0,6,T 35),(6,1,T 39),(7,1,.c (.bool true)),(8,1,T 43)]),h 6 5,m 0,E (.bin .rem (T 46) (.c (.int .u8 16))),E (.bin .eql (T 47) (.c (.int .u8 15))),m 0,E (.bin .quo (T 49) (.c (.int .u8 8))),E (.bin .rem (T 50) (.c (.int .u8 3))),E (.cvt .i64 (T 51)),E (.build [.int .u8 0,.str [],.str [],.ro 3 [] true,.str [],.ro 6 [] true,.int .i64 0,.bool false,.int .i64 0] [(0,6,T 45),(6,1,N 20),(7,1,T 48),(8,1,T 52)]),E (.aW [.int .u8 0,.str [],.str [],.ro 3 [] true,.str [],.ro 6 [] true,.int .i64 0,.bool false,.int .i64 0] 3 [(0,T 34),(1,T 44),(2,T 53)]),d 2 (m 54)] [2]))))))⟩
def agE:WFn:=⟨1,[.cell 2 2 true,.tmp 3],zd (s (O 1 [bx 0,E (.alloc [.ro 8 [] true,.ro 1 [] true]),i 0]) (s (s (O 5 [h 7 1,ca 277 [5],d 4 (m 6)]) (s (O 7 [m 4,nei 7 0]) (c 8 (r (O 9 [E (.build [.ro 8 [] true,.ro 1 [] true] []),m 4,n (st 2 2 9),d 3 (m 10)]))))) (r (O 11 [f 3 1,l 1 11,ln 1 12,E (.nK [.ro 8 [] true] 24 (T 13) (T 13)),E (.build [.ro 8 [] true,.ro 1 [] true] [(1,1,T 14)]),n (st 2 2 15),d 3 (i 0)]))))⟩
def yL:aB:=zd (s (Q 67 [h 7 4,h 2 5,h 1 6,m 3,ca 280 [67,68,69,70],d 66 (m 71),ex 0 66,ex 1 66,d 15 (E (.alloc [.ro 8 [] true,.ro 1 [] true])),d 16 (E (.alloc [.int .i64 0,.int .i64 0,.int .i64 0,.int .i64 0])),n (st 2 15 72),n (st 4 16 73)] [16,15,9,8,4]) (s (s (O 74 [f 3 16,l 1 74,f 5 4,l 1 76,gt 75 77]) (c 78 (r (O 79 [E (.build [.ro 8 [] true,.ro 1 [] true] []),E (.build [.int .i64 0,.int .i64 0,.int .i64 0,.int .i64 0] []),n (st 2 8 79),n (st 4 9 80),d 10 (i 15)])))) (r (V 81 [h 2 15,ca 281 [81],h 4 16,n (st 2 8 82),n (st 4 9 83),d 10 (i 0)] [(1,2),(2,3)] ⟨false,[],[]⟩))))
def uJ:aB:=zd (s (O 37 [lt 36 35]) (s (cc 37 (w .skip) (ee 0)) (s (B 1 (s (O 38 [m 36,ix 1 34 36,l 1 39,d 13 (m 38),d 14 (m 40)]) (s (Q 41 [m 14,lti 41 0,m 42,z 43 (m 14),z 43 (f 0 6),z 43 (l 1 45),z 43 (ln 1 46),z 43 (ge 44 47),po 43 48,m 49,z 50 (m 13),z 50 (gti 51 0),z 50 (m 52),y 53 (m 14),y 53 (m 3),y 53 (m 13),y 53 (sbi 56 1),y 53 (ix 1 55 57),y 53 (l 1 58),y 53 (le 54 59),z 50 (pa 53 60),po 50 61] [62,36,35,34,9,8,6,5,4,3]) (c 62 (r (O 63 [E (.build [.ro 8 [] true,.ro 1 [] true] []),E (.build [.int .i64 0,.int .i64 0,.int .i64 0,.int .i64 0] []),n (st 2 8 63),n (st 4 9 64),d 10 (i 1)])))))) (O 65 [adi 36 1,d 36 (m 65)]))))
def PD:aB:=.loop ⟨true,[36,35,34,9,8,6,5,4,3],[]⟩ uJ
def XC:WFn:=⟨4,[.cell 8 2 true,.cell 9 4 true,.tmp 10],zd (s (O 8 [d 4 (bx 0),d 5 (bx 1),d 6 (bx 2),E (.alloc [.ro 8 [] true,.ro 1 [] true]),E (.alloc [.int .i64 0,.int .i64 0,.int .i64 0,.int .i64 0]),i 0]) (s (s (O 17 [h 7 4,h 2 5,ca 278 [17,18],d 11 (m 19)]) (s (O 20 [m 11,nei 20 0]) (c 21 (r (Q 22 [E (.build [.ro 8 [] true,.ro 1 [] true] []),E (.build [.int .i64 0,.int .i64 0,.int .i64 0,.int .i64 0] []),m 11,n (st 2 8 22),n (st 4 9 23),d 10 (m 24)] [10,9,8]))))) (s (s (V 25 [h 7 4,ca 279 [25],h 1 6,ca 223 [26,27],d 12 (m 28)] [(1,2)] ⟨false,[],[]⟩) (s (O 29 [m 12,nei 29 0]) (c 30 (r (O 31 [E (.build [.ro 8 [] true,.ro 1 [] true] []),E (.build [.int .i64 0,.int .i64 0,.int .i64 0,.int .i64 0] []),m 12,n (st 2 8 31),n (st 4 9 32),d 10 (m 33)]))))) (s (s (O 34 [m 3,ln 1 34,i 0]) (bk 0 PD ⟨true,[9,8,6,5,4,3],[]⟩)) yL))))⟩
@[simp] theorem apM:ZL PD uJ ⟨true,[36,35,34,9,8,6,5,4,3],[]⟩:=bg rfl
def ab8:aB:=zd (s (R 67 [h 7 4,h 2 5,h 1 6,m 3,ca 280 [67,68,69,70],d 66 (m 71),ex 0 66,ex 1 66,d 15 (E (.alloc [.ro 8 [] true,.ro 1 [] true])),d 16 (E (.alloc [.int .i64 0,.int .i64 0,.int .i64 0,.int .i64 0])),n (st 2 15 72),n (st 4 16 73)] ⟨true,[16,15,9,8,4],[(9999,65537)]⟩) (s (s (O 74 [f 3 16,l 1 74,f 5 4,l 1 76,gt 75 77]) (c 78 (r (O 79 [E (.build [.ro 8 [] true,.ro 1 [] true] []),E (.build [.int .i64 0,.int .i64 0,.int .i64 0,.int .i64 0] []),n (st 2 8 79),n (st 4 9 80),d 10 (i 15)])))) (r (V 81 [h 2 15,ca 5033 [81],h 4 16,n (st 2 8 82),n (st 4 9 83),d 10 (i 0)] [(1,2),(2,3)] ⟨false,[],[]⟩))))
def Vj:aB:=zd (s (O 37 [lt 36 35]) (s (cc 37 (w .skip) (ee 0)) (s (B 1 (s (O 38 [m 36,ix 1 34 36,l 1 39,d 13 (m 38),d 14 (m 40)]) (s (R 41 [m 14,lti 41 0,m 42,z 43 (m 14),z 43 (f 0 6),z 43 (l 1 45),z 43 (ln 1 46),z 43 (ge 44 47),po 43 48,m 49,z 50 (m 13),z 50 (gti 51 0),z 50 (m 52),y 53 (m 14),y 53 (m 3),y 53 (m 13),y 53 (sbi 56 1),y 53 (ix 1 55 57),y 53 (l 1 58),y 53 (le 54 59),z 50 (pa 53 60),po 50 61] ⟨true,[62,36,35,34,9,8,6,5,4,3],[(9999,65537)]⟩) (c 62 (r (O 63 [E (.build [.ro 8 [] true,.ro 1 [] true] []),E (.build [.int .i64 0,.int .i64 0,.int .i64 0,.int .i64 0] []),n (st 2 8 63),n (st 4 9 64),d 10 (i 1)])))))) (O 65 [adi 36 1,d 36 (m 65)]))))
def UR:aB:=.loop ⟨true,[36,35,34,9,8,6,5,4,3],[(9999,65537)]⟩ Vj
def ajX:WFn:=⟨4,[.cell 8 2 true,.cell 9 4 true,.tmp 10],zd (s (O 8 [d 4 (bx 0),d 5 (bx 1),d 6 (bx 2),E (.alloc [.ro 8 [] true,.ro 1 [] true]),E (.alloc [.int .i64 0,.int .i64 0,.int .i64 0,.int .i64 0]),i 0]) (s (s (O 17 [h 7 4,h 2 5,ca 278 [17,18],d 11 (m 19)]) (s (O 20 [m 11,nei 20 0]) (c 21 (r (R 22 [E (.build [.ro 8 [] true,.ro 1 [] true] []),E (.build [.int .i64 0,.int .i64 0,.int .i64 0,.int .i64 0] []),m 11,n (st 2 8 22),n (st 4 9 23),d 10 (m 24)] ⟨true,[10,9,8],[(9999,65537)]⟩))))) (s (s (V 25 [h 7 4,ca 279 [25],h 1 6,ca 223 [26,27],d 12 (m 28)] [(1,2)] ⟨false,[],[]⟩) (s (O 29 [m 12,nei 29 0]) (c 30 (r (O 31 [E (.build [.ro 8 [] true,.ro 1 [] true] []),E (.build [.int .i64 0,.int .i64 0,.int .i64 0,.int .i64 0] []),m 12,n (st 2 8 31),n (st 4 9 32),d 10 (m 33)]))))) (s (s (O 34 [m 3,ln 1 34,i 0]) (bk 0 UR ⟨true,[9,8,6,5,4,3],[(9999,65537)]⟩)) ab8))))⟩
@[simp] theorem an4:ZL UR Vj ⟨true,[36,35,34,9,8,6,5,4,3],[(9999,65537)]⟩:=bg rfl
def Cm:aB:=zd (s (R 67 [h 7 4,h 2 5,h 1 6,m 3,ca 280 [67,68,69,70],d 66 (m 71),ex 0 66,ex 1 66,d 15 (E (.alloc [.ro 8 [] true,.ro 1 [] true])),d 16 (E (.alloc [.int .i64 0,.int .i64 0,.int .i64 0,.int .i64 0])),n (st 2 15 72),n (st 4 16 73)] ⟨true,[16,15,9,8,4],[(9999,65537)]⟩) (s (s (O 74 [f 3 16,l 1 74,f 5 4,l 1 76,gt 75 77]) (c 78 (r (O 79 [E (.build [.ro 8 [] true,.ro 1 [] true] []),E (.build [.int .i64 0,.int .i64 0,.int .i64 0,.int .i64 0] []),n (st 2 8 79),n (st 4 9 80),d 10 (i 15)])))) (r (V 81 [h 2 15,ca 5033 [81],h 4 16,n (st 2 8 82),n (st 4 9 83),d 10 (i 0)] [(1,2),(2,3)] ⟨false,[],[]⟩))))
def wJ:aB:=zd (s (O 37 [lt 36 35]) (s (cc 37 (w .skip) (ee 0)) (s (B 1 (s (O 38 [m 36,ix 1 34 36,l 1 39,d 13 (m 38),d 14 (m 40)]) (s (R 41 [m 14,lti 41 0,m 42,z 43 (m 14),z 43 (f 0 6),z 43 (l 1 45),z 43 (ln 1 46),z 43 (ge 44 47),po 43 48,m 49,z 50 (m 13),z 50 (gti 51 0),z 50 (m 52),y 53 (m 14),y 53 (m 3),y 53 (m 13),y 53 (sbi 56 1),y 53 (ix 1 55 57),y 53 (l 1 58),y 53 (le 54 59),z 50 (pa 53 60),po 50 61] ⟨true,[62,36,35,34,9,8,6,5,4,3],[(9999,65537)]⟩) (c 62 (r (O 63 [E (.build [.ro 8 [] true,.ro 1 [] true] []),E (.build [.int .i64 0,.int .i64 0,.int .i64 0,.int .i64 0] []),n (st 2 8 63),n (st 4 9 64),d 10 (i 1)])))))) (O 65 [adi 36 1,d 36 (m 65)]))))
def KU:aB:=.loop ⟨true,[36,35,34,9,8,6,5,4,3],[(9999,65537)]⟩ wJ
def Yt:WFn:=⟨4,[.cell 8 2 true,.cell 9 4 true,.tmp 10],zd (s (O 8 [d 4 (bx 0),d 5 (bx 1),d 6 (bx 2),E (.alloc [.ro 8 [] true,.ro 1 [] true]),E (.alloc [.int .i64 0,.int .i64 0,.int .i64 0,.int .i64 0]),i 0]) (s (s (O 17 [h 7 4,h 2 5,ca 278 [17,18],d 11 (m 19)]) (s (O 20 [m 11,nei 20 0]) (c 21 (r (R 22 [E (.build [.ro 8 [] true,.ro 1 [] true] []),E (.build [.int .i64 0,.int .i64 0,.int .i64 0,.int .i64 0] []),m 11,n (st 2 8 22),n (st 4 9 23),d 10 (m 24)] ⟨true,[10,9,8],[(9999,65537)]⟩))))) (s (s (V 25 [h 7 4,ca 279 [25],h 1 6,ca 223 [26,27],d 12 (m 28)] [(1,2)] ⟨false,[],[]⟩) (s (O 29 [m 12,nei 29 0]) (c 30 (r (O 31 [E (.build [.ro 8 [] true,.ro 1 [] true] []),E (.build [.int .i64 0,.int .i64 0,.int .i64 0,.int .i64 0] []),m 12,n (st 2 8 31),n (st 4 9 32),d 10 (m 33)]))))) (s (s (O 34 [m 3,ln 1 34,i 0]) (bk 0 KU ⟨true,[9,8,6,5,4,3],[(9999,65537)]⟩)) Cm))))⟩
@[simp] theorem apv:ZL KU wJ ⟨true,[36,35,34,9,8,6,5,4,3],[(9999,65537)]⟩:=bg rfl
def agi:WFn:=⟨1,[.tmp 2],zd (s (O 1 [bx 0,i 0]) (s (O 6 [h 6 1,ca 282 [6],d 5 (m 7),ex 0 5,ex 1 5,d 3 (m 8),d 4 (m 9)]) (r (O 10 [m 3,d 2 (m 10)]))))⟩
def jE:aB:=zd (s (R 188 [h 7 2,ca 283 [188],d 187 (m 189),ex 0 187,ex 1 187,ex 2 187,d 21 (E (.alloc [.int .i64 0,.int .i64 0,.int .i64 0,.ro 9 [] true,.int .i64 0,.int .i64 0,.int .u8 0])),d 22 (E (.alloc [.ro 8 [] true,.ro 1 [] true])),d 23 (E (.alloc [.ro 6 [] true,.ro 6 [] true])),n (st 7 21 190),n (st 2 22 191),n (st 2 23 192)] ⟨true,[22,13,10,6],[(9999,65537)]⟩) (r (V 193 [h 2 13,h 2 10,ca 286 [193,194],h 2 6,h 2 22,ca 286 [196,197],E (.bin .mul (T 195) (T 198)),eqi 199 1,m 200,y 201 (ca 145 []),pa 201 202,d 4 (m 203)] [(2,3),(2,4)] ⟨false,[],[]⟩)))
def G8:aB:=zd (O 157 [m 19,adi 157 1,d 19 (m 158)])
def xB:aB:=zd (s (s (R 165 [m 20,f 0 16,l 1 166,m 19,ix 8 167 168,f 2 169,f 5 170,l 1 171,ln 1 172,lt 165 173] ⟨true,[174,20,19,16,13,10,6,2],[(9999,65537)]⟩) (cc 174 (w .skip) (ee 2))) (s (B 3 (O 177 [f 0 16,l 1 177,m 19,ix 8 178 179,f 2 180,f 5 181,l 1 182,m 20,ix 6 183 184,f 4 185,n (E (.store 1 (T 186) (.c (.str [111,116,104,101,114]))))])) (O 175 [m 20,adi 175 1,d 20 (m 176)])))
def Ia:aB:=.loop ⟨true,[20,19,16,13,10,6,2],[(9999,65537)]⟩ xB
def mV:aB:=zd (s (s (O 152 [m 19,f 0 16,l 1 153,ln 1 154,lt 152 155]) (cc 156 (w .skip) (ee 0))) (s (bk 1 (s (O 159 [f 0 16,l 1 159,m 19,ix 8 160 161,f 2 162,f 1 163,n (E (.store 1 (T 164) (.c (.str [111,116,104,101,114]))))]) (s (O 20 [i 0]) (bk 2 Ia ⟨true,[19,16,13,10,6,2],[(9999,65537)]⟩))) ⟨true,[19,16,13,10,6,2],[(9999,65537)]⟩) G8))
def oQ:aB:=.loop ⟨true,[19,16,13,10,6,2],[(9999,65537)]⟩ mV
def aiM:WFn:=⟨2,[.tmp 4],zd (s (O 2 [bx 0,bx 1,ff]) (s (R 25 [h 7 2,ca 283 [25],d 24 (m 26),ex 0 24,ex 1 24,ex 2 24,d 5 (E (.alloc [.int .i64 0,.int .i64 0,.int .i64 0,.ro 9 [] true,.int .i64 0,.int .i64 0,.int .u8 0])),d 6 (E (.alloc [.ro 8 [] true,.ro 1 [] true])),d 7 (E (.alloc [.ro 6 [] true,.ro 6 [] true])),n (st 7 5 27),n (st 2 6 28),n (st 2 7 29)] ⟨true,[7,6,5,3,2],[(9999,65537)]⟩) (s (O 30 [E (.gG 2 1 (T 3) (N 0)),l 1 30,E (.bin .rem (T 31) (.c (.int .u16 2))),E (.cvt .i64 (T 32)),E (.gG 2 1 (T 7) (T 33)),h 1 34,d 8 (E (.alloc [.ro 6 [] true])),n (st 1 8 35)]) (s (O 36 [E (.gG 2 1 (T 3) (N 1)),l 1 36,f 0 8,l 1 38,ln 1 39,ca 284 [37,40],d 9 (m 41)]) (s (R 43 [h 7 5,h 2 6,f 0 8,l 1 45,m 9,ca 285 [43,44,46,47],d 42 (m 48),ex 0 42,ex 1 42,ex 2 42,d 10 (E (.alloc [.ro 8 [] true,.ro 1 [] true])),d 11 (E (.alloc [.int .i64 0,.int .i64 0,.int .i64 0,.int .i64 0])),n (st 2 10 49),n (st 4 11 50),d 12 (m 51)] ⟨true,[12,11,10,9,8,6,5,2],[(9999,65537)]⟩) (s (R 53 [h 7 5,h 2 6,h 1 8,m 9,ca 5032 [53,54,55,56],d 52 (m 57),ex 0 52,ex 1 52,ex 2 52,d 13 (E (.alloc [.ro 8 [] true,.ro 1 [] true])),d 14 (E (.alloc [.int .i64 0,.int .i64 0,.int .i64 0,.int .i64 0])),n (st 2 13 58),n (st 4 14 59),d 15 (m 60)] ⟨true,[15,14,13,12,11,10,9,8,6,5,2],[(13,65536),(9999,65537)]⟩) (s (s (V 61 [m 12,nei 61 0,m 62,z 63 (m 15),z 63 (nei 64 0),po 63 65,m 66,z 67 (h 4 14),z 67 (h 4 11),z 67 (E (.eqv 4 [0,0,0,0] true (T 68) (T 69))),po 67 70,m 71,z 72 (h 2 13),z 72 (h 2 10),z 72 (ca 286 [73,74]),z 72 (h 2 13),z 72 (ca 287 [76]),z 72 (E (.bin .mul (T 75) (T 77))),z 72 (eqi 78 0),po 72 79,m 80,z 81 (h 7 5),z 81 (h 2 13),z 81 (ca 278 [82,83]),z 81 (nei 84 0),po 81 85] [(14,15)] ⟨true,[86,14,13,10,9,8,6,5,2],[(9999,65537)]⟩) (c 86 (r (O 4 [ff])))) (s (s (V 87 [f 0 6,l 1 87,ln 1 88,h 2 6,ca 288 [90],ad 89 91,f 1 14,l 1 93,ad 92 94,f 0 13,l 1 96,ln 1 97,h 2 13,ca 288 [99],ad 98 100,f 2 14,l 1 102,ad 101 103,ne 95 104,m 105,z 106 (f 3 14),z 106 (l 1 107),z 106 (h 2 13),z 106 (ca 289 [109]),z 106 (ne 108 110),po 106 111,m 112,z 113 (f 3 14),z 113 (l 1 114),z 113 (f 0 13),z 113 (l 1 116),z 113 (ln 1 117),z 113 (h 2 13),z 113 (ca 288 [119]),z 113 (ad 118 120),z 113 (f 4 5),z 113 (l 1 122),z 113 (E (.bin .mul (T 121) (T 123))),z 113 (E (.bin .add (N 1) (T 124))),z 113 (gt 115 125),po 113 126] [(1,4),(2,4),(4,7),(4,10),(4,11),(4,12),(1,13),(2,13),(7,13),(10,13),(11,13),(4,16),(13,16),(21,23),(28,33),(30,33),(31,33),(33,36)] ⟨true,[127,14,13,10,9,8,6,5,2],[(9999,65537)]⟩) (c 127 (r (O 4 [ff])))) (s (O 129 [h 7 5,h 2 13,h 1 8,m 9,ca 5032 [129,130,131,132],d 128 (m 133),ex 0 128,ex 1 128,ex 2 128,d 16 (E (.alloc [.ro 8 [] true,.ro 1 [] true])),d 17 (E (.alloc [.int .i64 0,.int .i64 0,.int .i64 0,.int .i64 0])),n (st 2 16 134),n (st 4 17 135),d 18 (m 136)]) (s (s (R 137 [m 18,nei 137 0,m 138,z 139 (h 4 17),z 139 (f 3 14),z 139 (l 1 141),z 139 (E (.build [.int .i64 0,.int .i64 0,.int .i64 0,.int .i64 0] [(3,1,T 142)])),z 139 (E (.eqv 4 [0,0,0,0] true (T 140) (T 143))),po 139 144,m 145,z 146 (h 2 16),z 146 (h 2 13),z 146 (ca 286 [147,148]),z 146 (eqi 149 0),po 146 150] ⟨true,[151,16,13,10,6,2],[(9999,65537)]⟩) (c 151 (r (O 4 [ff])))) (s (s (O 19 [i 0]) (bk 0 oQ ⟨true,[13,10,6,2],[(9999,65537)]⟩)) jE)))))))))))⟩
@[simp] theorem aqH:ZL Ia xB ⟨true,[20,19,16,13,10,6,2],[(9999,65537)]⟩:=bg rfl
@[simp] theorem aqB:ZL oQ mV ⟨true,[19,16,13,10,6,2],[(9999,65537)]⟩:=bg rfl
def O9:WFn:=⟨2,[.tmp 4],zd (s (O 2 [bx 0,bx 1,ff]) (s (Q 19 [h 7 2,ca 283 [19],d 18 (m 20),ex 0 18,ex 1 18,ex 2 18,d 5 (E (.alloc [.int .i64 0,.int .i64 0,.int .i64 0,.ro 9 [] true,.int .i64 0,.int .i64 0,.int .u8 0])),d 6 (E (.alloc [.ro 8 [] true,.ro 1 [] true])),d 7 (E (.alloc [.ro 6 [] true,.ro 6 [] true])),n (st 7 5 21),n (st 2 6 22),n (st 2 7 23)] [6,5,3]) (s (O 25 [h 7 5,h 2 6,E (.gG 2 1 (T 3) (N 0)),l 1 27,ca 290 [25,26,28],d 24 (m 29),ex 0 24,ex 1 24,ex 2 24,d 8 (E (.alloc [.ro 8 [] true,.ro 1 [] true])),n (st 2 8 30),d 9 (m 31),d 10 (m 32)]) (s (s (O 33 [E (.gG 2 1 (T 3) (N 0)),l 1 33,lti 34 0,m 35,z 36 (E (.gG 2 1 (T 3) (N 0))),z 36 (l 1 37),z 36 (gti 38 16),po 36 39]) (c 40 (r (Q 41 [m 10,eqi 41 4,m 42,y 43 (m 9),y 43 (eqi 44 0),pa 43 45,m 46,y 47 (h 2 8),y 47 (E (.build [.ro 8 [] true,.ro 1 [] true] [])),y 47 (ca 286 [48,49]),y 47 (eqi 50 1),pa 47 51,m 52,y 53 (ca 145 []),pa 53 54,d 4 (m 55)] [4])))) (s (O 57 [h 2 6,E (.gG 2 1 (T 3) (N 0)),l 1 58,ca 291 [57,59],d 56 (m 60),ex 0 56,ex 1 56,d 11 (E (.alloc [.ro 8 [] true,.ro 1 [] true])),n (st 2 11 61),d 12 (m 62)]) (s (s (U 63 [m 10,nei 63 0,m 64,z 65 (m 9),z 65 (m 12),z 65 (ne 66 67),po 65 68,m 69,z 70 (h 2 8),z 70 (h 2 11),z 70 (ca 286 [71,72]),z 70 (h 2 8),z 70 (ca 287 [74]),z 70 (E (.bin .mul (T 73) (T 75))),z 70 (eqi 76 0),po 70 77,m 78,z 79 (h 7 5),z 79 (h 2 8),z 79 (ca 278 [80,81]),z 79 (nei 82 0),po 79 83,m 84,z 85 (h 2 8),z 85 (ca 288 [86]),z 85 (m 9),z 85 (ad 87 88),z 85 (h 2 6),z 85 (ca 288 [90]),z 85 (ne 89 91),po 85 92] [(10,11),(24,27)] [93,9,8,6,5,3]) (c 93 (r (Q 4 [ff] [4])))) (s (s (O 94 [E (.gG 2 1 (T 3) (N 1)),l 1 94,lti 95 0,m 96,z 97 (E (.gG 2 1 (T 3) (N 1))),z 97 (l 1 98),z 97 (gti 99 16),po 97 100]) (c 101 (r (O 102 [ca 145 [],d 4 (m 102)])))) (s (O 104 [h 7 5,h 2 8,E (.gG 2 1 (T 3) (N 1)),l 1 106,ca 290 [104,105,107],d 103 (m 108),ex 0 103,ex 1 103,ex 2 103,d 13 (E (.alloc [.ro 8 [] true,.ro 1 [] true])),n (st 2 13 109),d 14 (m 110),d 15 (m 111)]) (s (Q 113 [h 2 6,E (.gG 2 1 (T 3) (N 0)),l 1 114,E (.gG 2 1 (T 3) (N 1)),l 1 116,E (.mn (T 115) (T 117)),ca 291 [113,118],d 112 (m 119),ex 0 112,ex 1 112,d 16 (E (.alloc [.ro 8 [] true,.ro 1 [] true])),n (st 2 16 120),d 17 (m 121)] [17,16,15,14,13,9]) (r (O 122 [m 15,eqi 122 0,m 123,y 124 (m 9),y 124 (m 14),y 124 (ad 125 126),y 124 (m 17),y 124 (eq 127 128),pa 124 129,m 130,y 131 (h 2 13),y 131 (h 2 16),y 131 (ca 286 [132,133]),y 131 (eqi 134 1),pa 131 135,m 136,y 137 (ca 145 []),pa 137 138,d 4 (m 139)])))))))))))⟩
def VN:WFn:=⟨3,[.tmp 6],zd (s (O 3 [bx 0,bx 1,d 6 ff]) (s (O 22 [h 7 3,ca 283 [22],d 21 (m 23),ex 0 21,ex 1 21,ex 2 21,d 7 (E (.alloc [.int .i64 0,.int .i64 0,.int .i64 0,.ro 9 [] true,.int .i64 0,.int .i64 0,.int .u8 0])),d 8 (E (.alloc [.ro 8 [] true,.ro 1 [] true])),d 9 (E (.alloc [.ro 6 [] true,.ro 6 [] true])),n (st 7 7 24),n (st 2 8 25),n (st 2 9 26)]) (s (O 27 [E (.gG 2 1 (T 4) (N 0)),l 1 27,E (.bin .rem (T 28) (.c (.int .u16 2))),E (.cvt .i64 (T 29)),E (.gG 2 1 (T 9) (T 30)),h 1 31,d 10 (E (.alloc [.ro 6 [] true])),n (st 1 10 32)]) (s (Q 33 [E (.gG 2 1 (T 4) (N 1)),l 1 33,f 0 10,l 1 35,ln 1 36,ca 284 [34,37],d 11 (m 38)] [11,10,8,7,2]) (s (O 40 [h 7 7,h 2 8,f 0 10,l 1 42,m 11,ca 285 [40,41,43,44],d 39 (m 45),ex 0 39,ex 1 39,ex 2 39,d 12 (E (.alloc [.ro 8 [] true,.ro 1 [] true])),d 13 (E (.alloc [.int .i64 0,.int .i64 0,.int .i64 0,.int .i64 0])),n (st 2 12 46),n (st 4 13 47),d 14 (m 48)]) (s (O 49 [f 3 13,l 1 49,m 2,E (.cvt .i64 (T 51)),ad 50 52,E (.mx (N 1) (T 53)),f 5 7,n (st 1 55 54)]) (s (Q 57 [h 7 7,h 2 8,f 0 10,l 1 59,m 11,ca 285 [57,58,60,61],d 56 (m 62),ex 0 56,ex 1 56,ex 2 56,d 15 (E (.alloc [.ro 8 [] true,.ro 1 [] true])),d 16 (E (.alloc [.int .i64 0,.int .i64 0,.int .i64 0,.int .i64 0])),n (st 2 15 63),n (st 4 16 64),d 17 (m 65)] [17,16,15,13,11,10,8,7]) (s (O 67 [h 7 7,h 2 8,h 1 10,m 11,ca 139 [67,68,69,70],d 66 (m 71),ex 0 66,ex 1 66,ex 2 66,d 18 (E (.alloc [.ro 8 [] true,.ro 1 [] true])),d 19 (E (.alloc [.int .i64 0,.int .i64 0,.int .i64 0,.int .i64 0])),n (st 2 18 72),n (st 4 19 73),d 20 (m 74)]) (r (Q 75 [m 20,m 17,eq 75 76,m 77,y 78 (m 17),y 78 (eqi 79 15),y 78 (f 3 13),y 78 (l 1 81),y 78 (f 5 7),y 78 (l 1 83),y 78 (gt 82 84),y 78 (E (.eqv 5 [] false (T 80) (T 85))),pa 78 86,m 87,y 88 (h 4 19),y 88 (h 4 16),y 88 (E (.eqv 4 [0,0,0,0] false (T 89) (T 90))),pa 88 91,m 92,y 93 (h 2 18),y 93 (h 2 15),y 93 (ca 286 [94,95]),y 93 (eqi 96 1),pa 93 97,m 98,y 99 (ca 145 []),pa 99 100,d 6 (m 101)] [6]))))))))))⟩
def abH:WFn:=⟨3,[.tmp 6],zd (s (O 3 [bx 0,bx 1,d 6 ff]) (s (s (O 23 [f 0 4,f 2 23,h 6 24,E (.call 292 [T 25,N 80]),gti 26 80,m 27,z 28 (m 2),z 28 (ln 1 29),z 28 (gti 30 20),po 28 31]) (c 32 (r (Q 33 [ca 145 [],d 6 (m 33)] [6])))) (s (O 35 [h 7 3,ca 283 [35],d 34 (m 36),ex 0 34,ex 1 34,ex 2 34,d 7 (E (.alloc [.int .i64 0,.int .i64 0,.int .i64 0,.ro 9 [] true,.int .i64 0,.int .i64 0,.int .u8 0])),d 8 (E (.alloc [.ro 8 [] true,.ro 1 [] true])),d 9 (E (.alloc [.ro 6 [] true,.ro 6 [] true])),n (st 7 7 37),n (st 2 8 38),n (st 2 9 39)]) (s (s (O 40 [f 10 4,l 1 40,nei 41 0]) (c 42 (O 43 [f 10 4,l 1 43,f 5 7,n (st 1 45 44)]))) (s (s (O 46 [f 11 4,l 1 46,nei 47 0]) (c 48 (U 49 [f 3 7,l 1 49,f 9 4,l 1 51,E (.cvt .i64 (T 52)),f 3 7,l 1 54,ln 1 55,E (.bin .rem (T 53) (T 56)),f 11 4,l 1 58,ix 9 50 57,f 8 60,n (st 1 61 59)] [] [9,8,7,4,2]))) (s (s (O 62 [f 12 4,l 1 62,nei 63 0]) (c 64 (O 65 [f 12 4,l 1 65,f 4 7,n (st 1 67 66)]))) (s (s (O 68 [f 9 4,l 1 68,E (.cvt .i64 (T 69)),E (.bin .rem (T 70) (N 8)),d 10 (m 71)]) (s (O 72 [m 10,gti 72 0]) (c 73 (s (O 74 [h 2 8,ca 293 [74],n (st 2 8 75)]) (B 0 (s (Q 77 [m 10,lti 77 3,m 78,y 79 (f 0 8),y 79 (l 1 80),y 79 (ln 1 81),y 79 (gti 82 0),pa 79 83,d 76 (m 84)] [76,10,9,8,7,4,2]) (cc 76 (U 85 [f 0 8,l 1 85,f 8 4,l 1 87,E (.cvt .i64 (T 88)),f 0 8,l 1 90,ln 1 91,E (.bin .rem (T 89) (T 92)),f 0 4,h 8 94,ix 8 86 93,n (st 8 96 95)] [] [9,8,7,2]) (s (O 98 [m 10,lti 98 5,d 97 (m 99)]) (cc 97 (s (O 100 [f 8 4,l 1 100,E (.cvt .i64 (T 101)),f 1 8,l 1 103,ln 1 104,E (.bin .rem (T 102) (T 105)),d 11 (m 106)]) (V 107 [f 1 8,l 1 107,m 11,f 1 8,l 1 110,m 11,ix 1 111 112,l 1 113,f 0 4,h 8 115,E (.aW [.int .u64 0,.int .u8 0,.int .u8 0,.str [],.str [],.ro 2 [] true,.str [],.ro 6 [] true] 1 [(0,T 116)]),E (.app [.int .u64 0,.int .u8 0,.int .u8 0,.str [],.str [],.ro 2 [] true,.str [],.ro 6 [] true] 120 false (T 114) (T 117)),ix 1 108 109,n (st 1 119 118)] [(1,10),(4,10),(7,10),(1,11)] ⟨false,[],[]⟩)) (s (O 121 [m 10,eqi 121 5,d 120 (m 122)]) (cc 120 (Q 123 [f 1 8,l 1 123,E (.aW [.ro 8 [] true] 1 [(0,.c (.ro 8 [] true))]),E (.app [.ro 8 [] true] 24 false (T 124) (T 125)),f 1 8,n (st 1 127 126)] [9,8,7,2]) (s (O 129 [m 10,eqi 129 6,d 128 (m 130)]) (c 128 (O 131 [f 0 8,l 1 131,f 0 8,l 1 133,E (.app [.int .u64 0,.int .u8 0,.int .u8 0,.str [],.str [],.ro 2 [] true,.str [],.ro 6 [] true] 120 false (T 132) (T 134)),f 0 8,n (st 1 136 135)])))))))))))))) (s (O 137 [h 7 7,h 2 8,ca 294 [137,138],d 12 (m 139)]) (s (O 141 [h 7 7,ca 138 [141],d 140 (m 142),ex 0 140,ex 1 140,d 13 (E (.alloc [.ro 8 [] true,.ro 1 [] true])),n (st 2 13 143),d 14 (m 144)]) (s (O 145 [h 7 7,ca 295 [145],d 15 (m 146)]) (s (O 147 [E (.build [.ro 8 [] true,.ro 1 [] true] []),d 16 (E (.alloc [.ro 8 [] true,.ro 1 [] true])),n (st 2 16 147)]) (s (s (O 148 [m 15,eqi 148 0]) (c 149 (O 150 [h 7 7,ca 296 [150],n (st 2 16 151)]))) (s (s (U 152 [h 7 7,ca 277 [152],m 15,ne 153 154,m 155,z 156 (m 14),z 156 (m 15),z 156 (ne 157 158),po 156 159,m 160,z 161 (h 2 13),z 161 (h 2 16),z 161 (ca 286 [162,163]),z 161 (eqi 164 0),po 161 165,m 166,z 167 (h 7 7),z 167 (h 2 8),z 167 (ca 278 [168,169]),z 167 (m 12),z 167 (ne 170 171),po 167 172,m 173,z 174 (h 2 8),z 174 (ca 289 [175]),z 174 (h 2 8),z 174 (ca 297 [177]),z 174 (ne 176 178),po 174 179,m 180,z 181 (h 2 8),z 181 (h 2 8),z 181 (ca 298 [182,183]),z 181 (nt 184),po 181 185] [(24,25)] [186,12,9,8,7,2]) (c 186 (r (O 6 [ff])))) (s (Q 188 [h 7 7,h 2 8,E (.call 290 [T 188,T 189,N (-1)]),d 187 (m 190),ex 0 187,ex 1 187,ex 2 187,d 17 (E (.alloc [.ro 8 [] true,.ro 1 [] true])),n (st 2 17 191),d 18 (m 192),d 19 (m 193)] [19,12,9,8,7,2]) (s (O 195 [h 7 7,h 2 8,E (.gG 2 1 (T 9) (N 0)),h 1 197,m 2,ca 139 [195,196,198,199],d 194 (m 200),ex 0 194,ex 1 194,ex 2 194,d 20 (E (.alloc [.ro 8 [] true,.ro 1 [] true])),d 21 (E (.alloc [.int .i64 0,.int .i64 0,.int .i64 0,.int .i64 0])),n (st 2 20 201),n (st 4 21 202),d 22 (m 203)]) (s (s (O 204 [m 12,nei 204 0]) (c 205 (r (Q 206 [m 19,m 12,eq 206 207,m 208,y 209 (m 22),y 209 (m 12),y 209 (eq 210 211),pa 209 212,m 213,y 214 (h 4 21),y 214 (E (.build [.int .i64 0,.int .i64 0,.int .i64 0,.int .i64 0] [])),y 214 (E (.eqv 4 [0,0,0,0] false (T 215) (T 216))),pa 214 217,m 218,y 219 (h 2 20),y 219 (E (.build [.ro 8 [] true,.ro 1 [] true] [])),y 219 (ca 286 [220,221]),y 219 (eqi 222 1),pa 219 223,m 224,y 225 (ca 145 []),pa 225 226,d 6 (m 227)] [6])))) (s (V 228 [h 7 7,ca 299 [228],E (.gG 2 1 (T 9) (N 0)),f 0 230,l 1 231,ca 235 [229,232],d 12 (m 233)] [(1,4)] ⟨false,[],[]⟩) (s (s (O 234 [m 12,eqi 234 0,m 235,y 236 (m 2),y 236 (E (.gG 2 1 (T 9) (N 0))),y 236 (f 0 238),y 236 (l 1 239),y 236 (ln 1 240),y 236 (ca 300 [237,241]),y 236 (eqi 242 0),pa 236 243]) (c 244 (O 12 [i 1]))) (s (s (O 245 [m 12,eqi 245 0]) (c 246 (Q 248 [h 7 7,h 2 8,E (.gG 2 1 (T 9) (N 0)),f 0 250,l 1 251,m 2,ca 285 [248,249,252,253],d 247 (m 254),ex 0 247,ex 1 247,ex 2 247,d 12 (m 257)] [22,20,19,12]))) (r (O 258 [m 19,eqi 258 4,m 259,y 260 (m 22),y 260 (m 12),y 260 (eq 261 262),pa 260 263,m 264,y 265 (m 12),y 265 (eqi 266 0),y 265 (m 267),z 268 (h 2 20),z 268 (E (.build [.ro 8 [] true,.ro 1 [] true] [])),z 268 (ca 286 [269,270]),z 268 (eqi 271 1),y 265 (po 268 272),pa 265 273,m 274,y 275 (ca 145 []),pa 275 276,d 6 (m 277)])))))))))))))))))))))⟩
def apo:WFn:=⟨0,[.tmp 0],zd (s (O 0 [ff]) (s (Q 20 [ca 301 [],d 19 (m 20),ex 0 19,ex 1 19,d 1 (E (.alloc [.int .i64 0,.int .i64 0,.int .i64 0,.ro 9 [] true,.int .i64 0,.int .i64 0,.int .u8 0])),d 2 (E (.alloc [.ro 6 [] true])),n (st 7 1 21),n (st 1 2 22)] [2,1]) (s (O 24 [h 7 1,ca 138 [24],d 23 (m 25),ex 0 23,ex 1 23,d 3 (E (.alloc [.ro 8 [] true,.ro 1 [] true])),n (st 2 3 26),d 4 (m 27)]) (s (O 29 [h 7 1,h 2 3,h 1 2,E (.aW [.int .i64 0] 3 [(0,N 0),(1,N 1),(2,N 3)]),ca 139 [29,30,31,32],d 28 (m 33),ex 0 28,ex 1 28,ex 2 28,d 5 (E (.alloc [.ro 8 [] true,.ro 1 [] true])),d 6 (E (.alloc [.int .i64 0,.int .i64 0,.int .i64 0,.int .i64 0])),n (st 2 5 34),n (st 4 6 35),d 7 (m 36)]) (s (Q 38 [h 7 1,h 2 5,h 1 2,E (.aW [.int .i64 0] 1 [(0,N 2)]),ca 139 [38,39,40,41],d 37 (m 42),ex 0 37,ex 1 37,ex 2 37,d 8 (E (.alloc [.ro 8 [] true,.ro 1 [] true])),d 9 (E (.alloc [.int .i64 0,.int .i64 0,.int .i64 0,.int .i64 0])),n (st 2 8 43),n (st 4 9 44),d 10 (m 45)] [10,9,8,7,6,5,4,3,2,1]) (s (O 47 [h 7 1,h 2 5,h 1 2,E (.call 139 [T 47,T 48,T 49,.c (.ro 1 [] true)]),d 46 (m 50),ex 0 46,ex 1 46,ex 2 46,d 11 (E (.alloc [.ro 8 [] true,.ro 1 [] true])),d 12 (E (.alloc [.int .i64 0,.int .i64 0,.int .i64 0,.int .i64 0])),n (st 2 11 51),n (st 4 12 52),d 13 (m 53)]) (s (s (Q 54 [m 4,nei 54 0,m 55,z 56 (m 7),z 56 (nei 57 0),po 56 58,m 59,z 60 (m 10),z 60 (nei 61 0),po 60 62,m 63,z 64 (m 13),z 64 (nei 65 0),po 64 66,m 67,z 68 (f 1 3),z 68 (l 1 69),z 68 (ln 1 70),z 68 (nei 71 2),po 68 72,m 73,z 74 (f 1 8),z 74 (l 1 75),z 74 (ln 1 76),z 74 (nei 77 2),po 74 78,m 79,z 80 (f 1 11),z 80 (l 1 81),z 80 (ln 1 82),z 80 (nei 83 2),po 80 84] [85,12,11,9,8,6,5,3,2,1]) (c 85 (r (O 0 [ff])))) (s (s (U 86 [f 0 5,l 1 86,E (.aW [.int .u64 0] 3 [(0,.c (.int .u64 1)),(1,.c (.int .u64 2)),(2,.c (.int .u64 4))]),ca 302 [87,88],f 0 8,l 1 90,E (.aW [.int .u64 0] 1 [(0,.c (.int .u64 3))]),ca 302 [91,92],E (.bin .mul (T 89) (T 93)),f 1 8,l 1 95,E (.idxs 1 (T 96) (N 0)),l 1 97,E (.call 302 [T 98,.c (.ro 1 [] true)]),E (.bin .mul (T 94) (T 99)),f 1 8,l 1 101,E (.idxs 1 (T 102) (N 1)),l 1 103,E (.call 302 [T 104,.c (.ro 1 [] true)]),E (.bin .mul (T 100) (T 105)),f 0 11,l 1 107,E (.call 302 [T 108,.c (.ro 1 [] true)]),E (.bin .mul (T 106) (T 109)),f 1 11,l 1 111,E (.idxs 1 (T 112) (N 0)),l 1 113,E (.aW [.int .u64 0] 1 [(0,.c (.int .u64 1))]),ca 302 [114,115],E (.bin .mul (T 110) (T 116)),f 1 11,l 1 118,E (.idxs 1 (T 119) (N 1)),l 1 120,E (.call 302 [T 121,.c (.ro 1 [] true)]),E (.bin .mul (T 117) (T 122)),eqi 123 0,m 124,z 125 (h 4 6),z 125 (E (.build [.int .i64 0,.int .i64 0,.int .i64 0,.int .i64 0] [(1,1,N 3),(3,1,N 4)])),z 125 (E (.eqv 4 [0,0,0,0] true (T 126) (T 127))),po 125 128,m 129,z 130 (h 4 9),z 130 (E (.build [.int .i64 0,.int .i64 0,.int .i64 0,.int .i64 0] [(0,1,N 1),(2,1,N 2),(3,1,N 2)])),z 130 (E (.eqv 4 [0,0,0,0] true (T 131) (T 132))),po 130 133,m 134,z 135 (h 4 12),z 135 (E (.build [.int .i64 0,.int .i64 0,.int .i64 0,.int .i64 0] [(2,1,N 2),(3,1,N 2)])),z 135 (E (.eqv 4 [0,0,0,0] true (T 136) (T 137))),po 135 138] [(1,2),(2,5),(3,5),(1,6),(2,6),(3,6),(5,6),(2,10),(3,10),(6,10),(7,10),(2,12),(3,12),(6,12),(7,12),(2,16),(3,16),(6,16),(7,16),(13,16),(2,18),(3,18),(6,18),(7,18),(13,18),(2,22),(3,22),(6,22),(7,22),(13,22),(19,22),(2,26),(3,26),(6,26),(7,26),(13,26),(19,26),(23,26),(2,28),(3,28),(6,28),(7,28),(13,28),(19,28),(23,28),(1,29),(2,29),(3,29),(5,29),(6,29),(7,29),(10,29),(12,29),(13,29),(16,29),(18,29),(19,29),(22,29),(23,29),(26,29),(28,29),(2,33),(3,33),(6,33),(7,33),(13,33),(19,33),(23,33),(29,33),(30,33),(2,35),(3,35),(6,35),(7,35),(13,35),(19,35),(23,35),(29,35),(30,35)] [139,11,3,2,1]) (c 139 (r (O 0 [ff])))) (s (O 141 [h 7 1,h 2 11,E (.call 290 [T 141,T 142,N 0]),d 140 (m 143),ex 0 140,ex 1 140,ex 2 140,d 14 (E (.alloc [.ro 8 [] true,.ro 1 [] true])),n (st 2 14 144),d 15 (m 145),d 4 (m 146)]) (s (Q 148 [h 7 1,h 2 11,E (.call 290 [T 148,T 149,N 17]),d 147 (m 150),ex 0 147,ex 1 147,ex 2 147,d 7 (m 153)] [15,7,4,3,2,1]) (s (O 155 [h 7 1,h 2 3,h 1 2,E (.aW [.int .i64 0] 2 [(0,N 1),(1,N 0)]),ca 139 [155,156,157,158],d 154 (m 159),ex 0 154,ex 1 154,ex 2 154,d 10 (m 162)]) (s (O 164 [h 7 1,h 2 3,h 1 2,E (.aW [.int .i64 0] 1 [(0,N 4)]),ca 139 [164,165,166,167],d 163 (m 168),ex 0 163,ex 1 163,ex 2 163,d 13 (m 171)]) (s (O 172 [f 5 1,n (E (.store 1 (T 172) (N 3)))]) (s (Q 174 [h 7 1,h 2 3,h 1 2,E (.aW [.int .i64 0] 3 [(0,N 0),(1,N 1),(2,N 3)]),ca 139 [174,175,176,177],d 173 (m 178),ex 0 173,ex 1 173,ex 2 173,d 16 (E (.alloc [.ro 8 [] true,.ro 1 [] true])),d 17 (E (.alloc [.int .i64 0,.int .i64 0,.int .i64 0,.int .i64 0])),n (st 2 16 179),n (st 4 17 180),d 18 (m 181)] [18,15,13,10,7,4]) (r (O 182 [m 4,eqi 182 0,m 183,y 184 (m 15),y 184 (eqi 185 1),pa 184 186,m 187,y 188 (m 7),y 188 (eqi 189 4),pa 188 190,m 191,y 192 (m 10),y 192 (eqi 193 1),pa 192 194,m 195,y 196 (m 13),y 196 (eqi 197 1),pa 196 198,m 199,y 200 (m 18),y 200 (eqi 201 15),pa 200 202,d 0 (m 203)]))))))))))))))))⟩
def Jb:aB:=zd (r (O 32 [m 3,d 2 (m 32)]))
def xE:aB:=zd (s (s (Q 6 [m 4,f 0 1,l 1 7,ln 1 8,lt 6 9,m 10,y 11 (m 4),y 11 (lti 12 12),pa 11 13] [14,4,3,1]) (cc 14 (w .skip) (ee 0))) (s (B 1 (s (O 17 [f 0 1,l 1 17,m 4,ix 4 18 19,h 4 20,ca 422 [21],d 5 (E (.alloc [.int .u64 0,.int .u8 0,.str [],.ro 1 [] true])),n (st 4 5 22)]) (s (O 23 [m 3,f 0 5,l 1 24,ca 423 [23,25],lti 26 0]) (c 27 (O 28 [m 3,h 4 5,E (.aW [.int .u64 0,.int .u8 0,.str [],.ro 1 [] true] 1 [(0,T 29)]),E (.app [.int .u64 0,.int .u8 0,.str [],.ro 1 [] true] 56 false (T 28) (T 30)),d 3 (m 31)]))))) (O 15 [m 4,adi 15 1,d 4 (m 16)])))
def OT:aB:=.loop ⟨true,[4,3,1],[]⟩ xE
def aiw:WFn:=⟨1,[.tmp 2],zd (s (O 1 [bx 0,E (.mv (.c (.ro 4 [] true)))]) (s (R 3 [E (.mv (.c (.ro 4 [] true)))] ⟨true,[3,1],[(3,4)]⟩) (s (s (O 4 [i 0]) (bk 0 OT ⟨true,[3],[]⟩)) Jb)))⟩
@[simp] theorem aqU:ZL OT xE ⟨true,[4,3,1],[]⟩:=bg rfl
noncomputable abbrev DW(C:aJ)(s:WSt):Option AV:=CK C 0 (aO [.tmp 2]) [.sq OT,.bk 0 ⟨true,[3],[]⟩,.sq Jb] xE s
def V9:WFn:=⟨3,[.tmp 6],zd (s (O 3 [bx 0,bx 1,d 6 (i 0)]) (s (s (O 9 [h 4 4,f 0 3,l 1 10,ln 1 11,ca 424 [9,12],gti 13 0]) (c 14 (r (O 6 [i 6])))) (s (s (Q 15 [m 2,eqi 15 1] [16,4,3]) (c 16 (r (O 6 [i 8])))) (s (V 18 [f 0 3,l 1 18,f 1 4,l 1 20,ix 9 19 21,f 0 22,h 6 23,h 4 4,f 1 3,l 1 26,ca 425 [24,25,27],d 17 (m 28),ex 0 17,ex 1 17,d 7 (E (.alloc [.int .u8 0,.str [],.str [],.ro 2 [] true,.str [],.ro 6 [] true])),n (st 6 7 29),d 8 (m 30)] [(1,14),(3,14),(6,14),(7,14),(9,14),(10,14)] ⟨false,[],[]⟩) (s (s (O 31 [m 8,gti 31 0]) (c 32 (r (O 6 [i 14])))) (r (O 6 [i 0])))))))⟩
def aje:WFn:=⟨2,[.cell 4 6 true],zd (s (O 2 [bx 0,bx 1,E (.alloc [.int .u64 0,.int .u8 0,.str [],.ro 1 [] true,.int .i64 0,.bool false])]) (r (V 5 [h 4 3,f 0 2,l 1 6,f 1 3,l 1 8,ix 9 7 9,f 6 10,l 1 11,E (.build [.int .u64 0,.int .u8 0,.str [],.ro 1 [] true,.int .i64 0,.bool false] [(0,4,T 5),(4,1,T 12)]),n (st 6 4 13)] [] ⟨false,[],[]⟩)))⟩
def Ry:aB:=zd (r (O 79 [h 1 3,ca 227 [79],d 4 (m 80)]))
def kZ:aB:=zd (s (O 26 [lt 25 24]) (s (cc 26 (w .skip) (ee 0)) (s (B 1 (s (O 27 [ix 6 23 25,h 6 27,d 8 (E (.alloc [.int .u64 0,.int .u8 0,.str [],.ro 1 [] true,.int .i64 0,.bool false])),n (st 6 8 28)]) (s (s (O 29 [f 0 8,h 4 29,f 0 2,l 1 31,ln 1 32,ca 398 [30,33],d 9 (m 34)]) (s (O 35 [m 9,nei 35 0]) (c 36 (r (O 37 [m 9,d 4 (m 37)]))))) (s (s (Q 38 [m 6,f 0 8,f 0 39,l 1 40,E (.look 0 (.bool false) false (T 38) (T 41))] [42,25,24,23,8,6,3,2]) (c 42 (r (O 4 [i 8])))) (s (O 43 [m 6,f 0 8,f 0 44,l 1 45,n (E (.upd 0 (T 43) (T 46) (.c (.bool true))))]) (s (s (O 48 [h 2 2,f 0 8,h 4 49,ca 399 [48,50],d 47 (m 51),ex 0 47,ex 1 47,d 10 (E (.alloc [.int .u8 0,.str [],.str [],.ro 2 [] true,.str [],.ro 6 [] true])),n (st 6 10 52),d 11 (m 53)]) (s (O 54 [m 11,nei 54 0]) (c 55 (r (O 4 [i 14]))))) (s (U 56 [f 4 8,l 1 56,ca 225 [57],nt 58,m 59,z 60 (f 5 8),z 60 (l 1 61),z 60 (nt 62),z 60 (m 63),y 64 (f 4 8),y 64 (l 1 65),y 64 (f 0 2),y 64 (l 1 67),y 64 (f 0 8),y 64 (f 1 69),y 64 (l 1 70),y 64 (ix 9 68 71),y 64 (f 6 72),y 64 (l 1 73),y 64 (ne 66 74),z 60 (pa 64 75),po 60 76] [] [77,25,24,23,6,3,2]) (c 77 (r (O 4 [i 12])))))))))) (O 78 [adi 25 1,d 25 (m 78)]))))
def Qg:aB:=.loop ⟨true,[25,24,23,6,3,2],[]⟩ kZ
def aah:WFn:=⟨2,[.tmp 4],zd (s (O 2 [bx 0,bx 1,i 0]) (s (s (O 12 [h 2 2,ca 115 [12],d 5 (m 13)]) (s (O 14 [m 5,nei 14 0]) (c 15 (r (O 16 [m 5,d 4 (m 16)]))))) (s (s (Q 17 [f 0 3,l 1 17,ln 1 18,gti 19 1024] [20,3,2]) (c 20 (r (O 4 [i 3])))) (s (O 21 [E .kP,d 6 (m 21)]) (s (s (O 22 [f 0 3,l 1 22,ln 1 23,i 0]) (bk 0 Qg ⟨true,[3],[]⟩)) Ry)))))⟩
@[simp] theorem ara:ZL Qg kZ ⟨true,[25,24,23,6,3,2],[]⟩:=bg rfl
noncomputable abbrev nH(C:aJ)(s:WSt):Option AV:=CK C 0 (aO [.tmp 4]) [.sq Qg,.bk 0 ⟨true,[3],[]⟩,.sq Ry] kZ s
def ahn:WFn:=⟨1,[.tmp 2],zd (s (O 2 [ff]) (r (O 3 [m 0,gei 3 1,m 4,y 5 (m 0),y 5 (lei 6 2305843009213693952),pa 5 7,d 2 (m 8)])))⟩
def agq:WFn:=⟨1,[.tmp 2],zd (s (O 1 [bx 0,i 0]) (s (s (O 3 [h 1 1,ca 111 [3],gti 4 4611686018427387904]) (c 5 (r (O 2 [i 13])))) (r (O 2 [i 0]))))⟩
def aaH:WFn:=⟨1,[.tmp 2],zd (s (O 1 [bx 0,ff]) (r (O 3 [f 6 1,l 1 3,ca 225 [4],nt 5,m 6,z 7 (f 0 1),z 7 (h 6 8),z 7 (ca 231 [9]),z 7 (nei 10 0),po 7 11,d 2 (m 12)])))⟩
def acf:WFn:=⟨1,[.tmp 2],zd (s (O 1 [bx 0,i 0]) (s (s (O 3 [h 6 1,ca 404 [3],eqi 4 0]) (c 5 (r (O 2 [i 14])))) (r (O 2 [i 0]))))⟩
def aax:WFn:=⟨2,[.tmp 4],zd (s (O 4 [ff]) (r (O 5 [m 0,m 1,ca 405 [5,6],gei 7 0,d 4 (m 8)])))⟩
def PL:aB:=zd (r (O 82 [m 1,ca 407 [82],d 4 (m 83)]))
def nG:aB:=zd (s (s (O 13 [m 5,m 1,ln 1 14,lt 13 15]) (cc 16 (w .skip) (ee 0))) (s (B 1 (s (U 19 [h 2 2,m 1,m 5,ix 6 20 21,f 0 22,h 4 23,m 1,m 5,E (.slice 6 (T 25) none (some (T 26)) none),m 1,m 5,ix 6 28 29,f 0 30,f 0 31,l 1 32,ca 239 [27,33],gei 34 0,ca 406 [35],ca 271 [19,24,36],d 6 (m 37)] [(0,15),(5,15),(0,17),(5,17)] [6,5,2,1]) (s (s (O 38 [m 6,gti 38 0]) (c 39 (r (O 40 [m 6,d 4 (m 40)])))) (s (U 41 [m 1,m 5,ix 6 41 42,f 4 43,l 1 44,lti 45 1,m 46,z 47 (m 1),z 47 (m 5),z 47 (ix 6 48 49),z 47 (f 4 50),z 47 (l 1 51),z 47 (gti 52 2305843009213693952),po 47 53,m 54,z 55 (m 1),z 55 (m 5),z 55 (ix 6 56 57),z 55 (f 5 58),z 55 (l 1 59),z 55 (nt 60),z 55 (m 61),y 62 (m 1),y 62 (m 5),y 62 (ix 6 63 64),y 62 (f 4 65),y 62 (l 1 66),y 62 (f 0 2),y 62 (l 1 68),y 62 (m 1),y 62 (m 5),y 62 (ix 6 70 71),y 62 (f 0 72),y 62 (f 1 73),y 62 (l 1 74),y 62 (ix 9 69 75),y 62 (f 6 76),y 62 (l 1 77),y 62 (ne 67 78),z 55 (pa 62 79),po 55 80] [] [81,5,2,1]) (c 81 (r (O 4 [i 12]))))))) (O 17 [m 5,adi 17 1,d 5 (m 18)])))
def RV:aB:=.loop ⟨true,[5,2,1],[]⟩ nG
def aaR:WFn:=⟨2,[.tmp 4],zd (s (O 4 [d 2 (bx 0),i 0]) (s (s (O 7 [h 2 2,ca 236 [7],gti 8 0]) (c 9 (r (O 4 [i 7])))) (s (s (O 10 [m 1,ln 1 10,gti 11 1024]) (c 12 (r (O 4 [i 3])))) (s (s (O 5 [i 0]) (bk 0 RV ⟨true,[1],[]⟩)) PL))))⟩
@[simp] theorem aqc:ZL RV nG ⟨true,[5,2,1],[]⟩:=bg rfl
noncomputable abbrev oG(C:aJ)(s:WSt):Option AV:=CK C 0 (aO [.tmp 4]) [.sq RV,.bk 0 ⟨true,[1],[]⟩,.sq PL] nG s
def P8:aB:=zd (r (O 2 [i 0]))
def D8:aB:=zd (s (s (O 24 [m 3,f 0 1,l 1 25,ln 1 26,lt 24 27]) (cc 28 (w .skip) (ee 0))) (s (B 1 (s (Q 31 [f 0 1,l 1 31,m 3,ix 9 32 33,f 6 34,l 1 35,lti 36 1,m 37,z 38 (f 0 1),z 38 (l 1 39),z 38 (m 3),z 38 (ix 9 40 41),z 38 (f 6 42),z 38 (l 1 43),z 38 (gti 44 2305843009213693952),po 38 45,m 46,z 47 (f 0 1),z 47 (l 1 48),z 47 (m 3),z 47 (ix 9 49 50),z 47 (f 0 51),z 47 (h 6 52),z 47 (ca 408 [53]),z 47 (gti 54 0),po 47 55] [56,3,1]) (c 56 (r (O 2 [i 7]))))) (O 29 [m 3,adi 29 1,d 3 (m 30)])))
def Qm:aB:=.loop ⟨true,[3,1],[]⟩ D8
def Tj:WFn:=⟨1,[.tmp 2],zd (s (O 1 [bx 0,i 0]) (s (s (Q 4 [f 0 1,l 1 4,ln 1 5,eqi 6 0,m 7,z 8 (f 0 1),z 8 (l 1 9),z 8 (ln 1 10),z 8 (gti 11 8),po 8 12,m 13,z 14 (f 1 1),z 14 (l 1 15),z 14 (lti 16 1),po 14 17,m 18,z 19 (f 1 1),z 19 (l 1 20),z 19 (gti 21 64),po 19 22] [23,1]) (c 23 (r (O 2 [i 7])))) (s (s (O 3 [i 0]) (bk 0 Qm ⟨true,[],[]⟩)) P8)))⟩
@[simp] theorem aqJ:ZL Qm D8 ⟨true,[3,1],[]⟩:=bg rfl
noncomputable abbrev IL(C:aJ)(s:WSt):Option AV:=CK C 0 (aO [.tmp 2]) [.sq Qm,.bk 0 ⟨true,[],[]⟩,.sq P8] D8 s
def agA:WFn:=⟨3,[.cell 6 6 true,.tmp 7],zd (s (O 6 [d 3 (bx 0),d 4 (bx 1),E (.alloc [.int .u8 0,.str [],.str [],.ro 2 [] true,.str [],.ro 6 [] true]),i 0]) (s (s (O 9 [h 2 3,h 1 4,ca 223 [9,10],d 8 (m 11)]) (s (O 12 [m 8,nei 12 0]) (c 13 (r (O 14 [E (.build [.int .u8 0,.str [],.str [],.ro 2 [] true,.str [],.ro 6 [] true] []),m 8,n (st 6 6 14),d 7 (m 15)]))))) (s (s (Q 16 [m 2,lti 16 0,m 17,z 18 (m 2),z 18 (f 0 4),z 18 (l 1 20),z 18 (ln 1 21),z 18 (ge 19 22),po 18 23] [24,6,4,3,2]) (c 24 (r (O 25 [E (.build [.int .u8 0,.str [],.str [],.ro 2 [] true,.str [],.ro 6 [] true] []),n (st 6 6 25),d 7 (i 4)])))) (r (V 26 [h 2 3,f 0 4,l 1 27,m 2,ix 6 28 29,f 0 30,h 4 31,ca 399 [26,32],ex 0 33,ex 1 33,n (st 6 6 34),d 7 (m 35)] [] ⟨false,[],[]⟩)))))⟩
def aiD:WFn:=⟨1,[.tmp 2],zd (s (Q 1 [bx 0,i 0] [1]) (s (O 3 [E (.mv (.c (.fn 427 [])))]) (s (s (O 4 [h 7 1,ca 279 [4],ca 115 [5],nei 6 0,m 7,z 8 (f 5 1),z 8 (l 1 9),z 8 (lti 10 1),po 8 11,m 12,z 13 (f 5 1),z 13 (l 1 14),z 13 (gti 15 65536),po 13 16,m 17,z 18 (f 3 1),z 18 (l 1 19),z 18 (m 3),z 18 (ca 232 [20,21]),po 18 22]) (c 23 (r (O 2 [i 7])))) (r (O 2 [i 0])))))⟩
def Om:aB:=zd (r (O 4 [i 0]))
def Ar:aB:=zd (s (O 55 [lt 54 53]) (s (cc 55 (w .skip) (ee 2)) (s (B 3 (s (Q 56 [m 54,ix 1 52 54,l 1 57,d 9 (E (.alloc [.int .i64 0])),n (st 1 9 56),d 10 (m 58)] [54,53,52,10,9,2]) (s (O 59 [m 10,ln 1 59,f 3 2,l 1 61,l 1 9,ix 9 62 63,f 8 64,l 1 65,gt 60 66,m 67,z 68 (m 10),z 68 (E (.lN 430 [T 9,T 2])),z 68 (ca 429 [69,70]),po 68 71]) (c 72 (r (O 4 [i 10])))))) (O 73 [adi 54 1,d 54 (m 73)]))))
def QF:aB:=.loop ⟨true,[54,53,52,2],[]⟩ Ar
def Iu:aB:=zd (s (s (O 51 [f 1 3,l 1 51,ln 1 52,i 0]) (bk 2 QF ⟨true,[],[]⟩)) Om)
def C9:aB:=zd (s (O 34 [lt 33 32]) (s (cc 34 (w .skip) (ee 0)) (s (B 1 (s (Q 35 [ix 8 31 33,h 8 35,d 8 (E (.alloc [.int .u64 0,.int .u8 0,.int .u8 0,.str [],.str [],.ro 2 [] true,.str [],.ro 6 [] true])),n (st 8 8 36)] [33,32,31,8,6,3,2]) (s (s (O 37 [h 7 2,h 8 8,ca 428 [37,38],nt 39,m 40,z 41 (m 6),z 41 (f 0 8),z 41 (l 1 43),z 41 (E (.look 0 (.bool false) false (T 42) (T 44))),po 41 45]) (c 46 (r (O 4 [i 10])))) (O 47 [m 6,f 0 8,l 1 48,n (E (.upd 0 (T 47) (T 49) (.c (.bool true))))])))) (O 50 [adi 33 1,d 33 (m 50)]))))
def Qo:aB:=.loop ⟨true,[33,32,31,6,3,2],[]⟩ C9
def ahP:WFn:=⟨2,[.tmp 4],zd (s (O 2 [bx 0,bx 1,i 0]) (s (s (O 11 [h 7 2,ca 277 [11],d 5 (m 12)]) (s (Q 13 [m 5,nei 13 0] [14,5,3,2]) (c 14 (r (O 15 [m 5,d 4 (m 15)]))))) (s (s (O 16 [f 0 3,l 1 16,ln 1 17,gti 18 1024,m 19,z 20 (f 1 3),z 20 (l 1 21),z 20 (ln 1 22),z 20 (f 3 2),z 20 (l 1 24),z 20 (ln 1 25),z 20 (ne 23 26),po 20 27]) (c 28 (r (O 4 [i 10])))) (s (O 29 [E .kP,d 6 (m 29)]) (s (s (O 30 [f 0 3,l 1 30,ln 1 31,i 0]) (bk 0 Qo ⟨true,[3,2],[]⟩)) Iu)))))⟩
@[simp] theorem arj:ZL QF Ar ⟨true,[54,53,52,2],[]⟩:=bg rfl
noncomputable abbrev GY(C:aJ)(s:WSt):Option AV:=CK C 0 (aO [.tmp 4]) [.sq QF,.bk 2 ⟨true,[],[]⟩,.sq Om] Ar s
@[simp] theorem ap2:ZL Qo C9 ⟨true,[33,32,31,6,3,2],[]⟩:=bg rfl
noncomputable abbrev Hw(C:aJ)(s:WSt):Option AV:=CK C 0 (aO [.tmp 4]) [.sq Qo,.bk 0 ⟨true,[3,2],[]⟩,.sq Iu] C9 s
def ahQ:WFn:=⟨1,[.cell 2 2 true],zd (s (O 1 [bx 0,E (.alloc [.ro 9 [] true,.int .i64 0])]) (r (O 3 [f 3 1,l 1 3,f 4 1,l 1 5,E (.build [.ro 9 [] true,.int .i64 0] [(0,1,T 4),(1,1,T 6)]),n (st 2 2 7)])))⟩
def yT:aB:=zd (s (O 199 [h 2 8,ca 289 [199],f 3 9,n (st 1 201 200)]) (r (V 202 [h 2 8,h 4 9,n (st 2 8 202),n (st 4 9 203)] [(1,2)] ⟨false,[],[]⟩)))
def rD:aB:=zd (s (O 128 [lt 127 126]) (s (cc 128 (w .skip) (ee 7)) (s (B 8 (s (O 129 [ix 1 125 127,l 1 129,d 23 (m 130)]) (s (O 131 [f 0 6,l 1 131,m 23,ix 6 132 133,f 0 134,h 4 135,d 24 (E (.alloc [.int .u64 0,.int .u8 0,.str [],.ro 1 [] true])),n (st 4 24 136)]) (s (V 138 [h 7 4,ca 279 [138],f 0 6,l 1 140,m 23,m 23,adi 143 1,m 23,adi 145 1,E (.slice 6 (T 141) (some (T 142)) (some (T 144)) (some (T 146))),E (.build [.ro 6 [] true] [(0,1,T 147)]),E (.call 238 [T 139,T 148,N 0]),d 137 (m 149),ex 0 137,ex 1 137,d 25 (E (.alloc [.int .u8 0,.str [],.str [],.ro 2 [] true,.str [],.ro 6 [] true])),n (st 6 25 150),d 26 (m 151)] [(1,3),(0,15),(1,15),(3,15),(11,15)] ⟨true,[127,126,125,25,24,16,9,8,6,4],[(9999,65537)]⟩) (s (O 152 [f 0 8,l 1 152,f 0 24,l 1 154,f 1 24,l 1 156,h 6 25,E (.build [.int .u64 0,.int .u8 0,.int .u8 0,.str [],.str [],.ro 2 [] true,.str [],.ro 6 [] true] [(0,1,T 155),(1,1,T 157),(2,6,T 158)]),E (.aW [.int .u64 0,.int .u8 0,.int .u8 0,.str [],.str [],.ro 2 [] true,.str [],.ro 6 [] true] 1 [(0,T 159)]),E (.app [.int .u64 0,.int .u8 0,.int .u8 0,.str [],.str [],.ro 2 [] true,.str [],.ro 6 [] true] 120 false (T 153) (T 160)),f 0 8,n (st 1 162 161)]) (s (R 163 [f 1 8,l 1 163,f 1 24,l 1 165,ix 1 164 166,d 27 (m 167)] ⟨true,[127,126,125,27,24,16,9,8,6,4],[(9999,65537)]⟩) (s (O 168 [m 27,nk 168,l 1 169,ln 1 170,d 28 (m 171)]) (B 9 (s (O 177 [m 16,f 0 24,l 1 178,E (.look 0 (.bool false) false (T 177) (T 179)),d 176 (m 180)]) (cc 176 (w .skip) (s (O 182 [m 28,gti 182 0,d 181 (m 183)]) (cc 181 (s (R 184 [m 27,m 27,nk 185,l 1 186,m 28,sbi 188 1,m 28,sbi 190 1,E (.slice 8 (T 187) none (some (T 189)) (some (T 191))),nk 184,n (st 1 193 192)] ⟨true,[127,126,125,16,9,8,6,4],[(9999,65537)]⟩) (O 194 [f 0 9,l 1 194,adi 195 1,f 0 9,n (st 1 197 196)])) (O 172 [f 1 9,l 1 172,adi 173 1,f 1 9,n (st 1 175 174)]))))))))))))) (O 198 [adi 127 1,d 127 (m 198)]))))
def AX:aB:=.loop ⟨true,[127,126,125,16,9,8,6,4],[(9999,65537)]⟩ rD
def Io:aB:=zd (s (s (O 125 [m 3,ln 1 125,i 0]) (bk 7 AX ⟨true,[9,8],[(9999,65537)]⟩)) yT)
def rF:aB:=zd (s (O 73 [lt 72 71]) (s (cc 73 (w .skip) (ee 4)) (s (B 5 (s (O 74 [ix 8 70 72,h 8 74,d 18 (E (.alloc [.int .u64 0,.int .u8 0,.int .u8 0,.str [],.str [],.ro 2 [] true,.str [],.ro 6 [] true])),n (st 8 18 75)]) (s (O 76 [f 1 8,l 1 76,f 1 18,l 1 78,ix 1 77 79,d 19 (m 80)]) (s (O 82 [m 10,f 0 18,l 1 83,E (.look 0 (.int .u8 0) true (T 82) (T 84)),d 81 (m 85),ex 0 81,ex 1 81,d 20 (m 86),d 21 (m 87)]) (B 6 (s (R 93 [m 21,m 93,y 94 (m 20),y 94 (f 1 18),y 94 (l 1 96),y 94 (eq 95 97),pa 94 98,d 92 (m 99)] ⟨true,[92,72,71,70,19,18,16,10,9,8,6,4,3],[(9999,65537)]⟩) (cc 92 (O 100 [m 16,f 0 18,l 1 101,n (E (.upd 0 (T 100) (T 102) (.c (.bool true))))]) (s (V 104 [m 19,nk 104,l 1 105,ln 1 106,f 3 4,l 1 108,f 1 18,l 1 110,ix 9 109 111,f 8 112,l 1 113,lt 107 114,d 103 (m 115)] [] ⟨false,[],[]⟩) (cc 103 (V 116 [m 19,m 19,nk 117,l 1 118,h 8 18,E (.aW [.int .u64 0,.int .u8 0,.int .u8 0,.str [],.str [],.ro 2 [] true,.str [],.ro 6 [] true] 1 [(0,T 120)]),E (.app [.int .u64 0,.int .u8 0,.int .u8 0,.str [],.str [],.ro 2 [] true,.str [],.ro 6 [] true] 120 false (T 119) (T 121)),nk 116,n (st 1 123 122)] [(3,5)] ⟨true,[72,71,70,16,10,9,8,6,4,3],[(9999,65537)]⟩) (O 88 [f 2 9,l 1 88,adi 89 1,f 2 9,n (st 1 91 90)])))))))))) (O 124 [adi 72 1,d 72 (m 124)]))))
def QN:aB:=.loop ⟨true,[72,71,70,16,10,9,8,6,4,3],[(9999,65537)]⟩ rF
def GN:aB:=zd (s (O 68 [E .kP,d 16 (m 68)]) (s (s (R 69 [f 0 5,l 1 69,ln 1 70,i 0] ⟨true,[72,71,70,16,10,9,8,6,4,3],[(9999,65537)]⟩) (bk 4 QN ⟨true,[16,9,8,6,4,3],[(9999,65537)]⟩)) Io))
def xg:aB:=zd (s (O 57 [lt 56 55]) (s (cc 57 (w .skip) (ee 2)) (s (B 3 (s (O 58 [m 56,ix 1 54 56,l 1 59,d 14 (m 58),d 15 (m 60)]) (V 61 [f 1 8,l 1 61,m 14,m 15,ca 3009 [64],ix 1 62 63,n (st 1 66 65)] [(1,4)] ⟨false,[],[]⟩))) (O 67 [adi 56 1,d 56 (m 67)]))))
def O1:aB:=.loop ⟨true,[56,55,54,10,9,8,6,5,4,3],[(9999,65537)]⟩ xg
def Ht:aB:=zd (s (R 48 [f 1 5,l 1 48,ln 1 49,E (.nK [.ro 8 [] true] 24 (T 50) (T 50)),f 1 8,n (st 1 52 51)] ⟨true,[10,9,8,6,5,4,3],[(9999,65537)]⟩) (s (s (O 53 [f 1 5,l 1 53,ln 1 54,i 0]) (bk 2 O1 ⟨true,[10,9,8,6,5,4,3],[(9999,65537)]⟩)) GN))
def BZ:aB:=zd (s (O 33 [lt 32 31]) (s (cc 33 (w .skip) (ee 0)) (s (B 1 (s (O 34 [ix 1 30 32,l 1 34,d 12 (m 35)]) (s (O 36 [f 0 6,l 1 36,m 12,ix 6 37 38,f 0 39,h 4 40,d 13 (E (.alloc [.int .u64 0,.int .u8 0,.str [],.ro 1 [] true])),n (st 4 13 41)]) (O 42 [m 10,f 0 13,l 1 43,f 1 13,l 1 45,n (E (.upd 0 (T 42) (T 44) (T 46)))])))) (O 47 [adi 32 1,d 32 (m 47)]))))
def Qr:aB:=.loop ⟨true,[32,31,30,10,9,8,6,5,4,3],[(9999,65537)]⟩ BZ
def aau:WFn:=⟨4,[.cell 8 2 true,.cell 9 4 true],zd (s (O 4 [bx 0,bx 1,bx 2,d 8 (E (.alloc [.ro 8 [] true,.ro 1 [] true])),d 9 (E (.alloc [.int .i64 0,.int .i64 0,.int .i64 0,.int .i64 0]))]) (s (R 29 [E .kP,d 10 (m 29)] ⟨true,[10,9,8,6,5,4,3],[(9999,65537)]⟩) (s (s (O 30 [m 3,ln 1 30,i 0]) (bk 0 Qr ⟨true,[10,9,8,6,5,4,3],[(9999,65537)]⟩)) Ht)))⟩
@[simp] theorem apO:ZL AX rD ⟨true,[127,126,125,16,9,8,6,4],[(9999,65537)]⟩:=bg rfl
@[simp] theorem aq3:ZL QN rF ⟨true,[72,71,70,16,10,9,8,6,4,3],[(9999,65537)]⟩:=bg rfl
@[simp] theorem arz:ZL O1 xg ⟨true,[56,55,54,10,9,8,6,5,4,3],[(9999,65537)]⟩:=bg rfl
@[simp] theorem apV:ZL Qr BZ ⟨true,[32,31,30,10,9,8,6,5,4,3],[(9999,65537)]⟩:=bg rfl
def DI:aB:=zd (r (O 29 [h 2 3,n (st 2 2 29)]))
def qF:aB:=zd (s (O 18 [lt 17 16]) (s (cc 18 (w .skip) (ee 0)) (s (B 1 (s (O 19 [m 17,ix 1 15 17,l 1 20,d 4 (m 19),d 5 (m 21)]) (V 22 [f 1 3,l 1 22,m 4,m 5,ca 432 [25],ix 1 23 24,n (st 1 27 26)] [(1,4)] ⟨false,[],[]⟩))) (O 28 [adi 17 1,d 17 (m 28)]))))
def H9:aB:=.loop ⟨true,[17,16,15,3,2],[]⟩ qF
def Ux:WFn:=⟨1,[.cell 2 2 true],zd (s (O 1 [bx 0,E (.alloc [.ro 8 [] true,.ro 1 [] true])]) (s (U 6 [f 0 1,l 1 6,ca 432 [7],f 1 1,l 1 9,ln 1 10,E (.nK [.ro 8 [] true] 24 (T 11) (T 11)),E (.build [.ro 8 [] true,.ro 1 [] true] [(0,1,T 8),(1,1,T 12)]),d 3 (E (.alloc [.ro 8 [] true,.ro 1 [] true])),n (st 2 3 13)] [(2,4),(2,5),(1,6),(2,6),(1,8),(2,8),(4,8),(5,8),(6,8)] [3,2,1]) (s (s (O 14 [f 1 1,l 1 14,ln 1 15,i 0]) (bk 0 H9 ⟨true,[3,2],[]⟩)) DI)))⟩
@[simp] theorem aqN:ZL H9 qF ⟨true,[17,16,15,3,2],[]⟩:=bg rfl
noncomputable abbrev GZ(C:aJ)(s:WSt):Option AV:=CK C 0 (aO [.cell 2 2 true]) [.sq H9,.bk 0 ⟨true,[3,2],[]⟩,.sq DI] qF s
def wL:aB:=zd (r (O 29 [h 2 3,n (st 2 2 29)]))
def pY:aB:=zd (s (O 18 [lt 17 16]) (s (cc 18 (w .skip) (ee 0)) (s (B 1 (s (O 19 [m 17,ix 1 15 17,l 1 20,d 4 (m 19),d 5 (m 21)]) (V 22 [f 1 3,l 1 22,m 4,m 5,ca 5034 [25],ix 1 23 24,n (st 1 27 26)] [(1,4)] ⟨false,[],[]⟩))) (O 28 [adi 17 1,d 17 (m 28)]))))
def AZ:aB:=.loop ⟨true,[17,16,15,3,2],[(9999,65537)]⟩ pY
def UU:WFn:=⟨1,[.cell 2 2 true],zd (s (O 1 [bx 0,E (.alloc [.ro 8 [] true,.ro 1 [] true])]) (s (V 6 [f 0 1,l 1 6,ca 5034 [7],f 1 1,l 1 9,ln 1 10,E (.nK [.ro 8 [] true] 24 (T 11) (T 11)),E (.build [.ro 8 [] true,.ro 1 [] true] [(0,1,T 8),(1,1,T 12)]),d 3 (E (.alloc [.ro 8 [] true,.ro 1 [] true])),n (st 2 3 13)] [(2,4),(2,5),(1,6),(2,6),(1,8),(2,8),(4,8),(5,8),(6,8)] ⟨true,[3,2,1],[(9999,65537)]⟩) (s (s (O 14 [f 1 1,l 1 14,ln 1 15,i 0]) (bk 0 AZ ⟨true,[3,2],[(9999,65537)]⟩)) wL)))⟩
@[simp] theorem an3:ZL AZ pY ⟨true,[17,16,15,3,2],[(9999,65537)]⟩:=bg rfl
def ag2:WFn:=⟨1,[.cell 2 1 false,.cell 3 1 false],zd (s (O 1 [bx 0,E (.alloc [.int .i64 0]),E (.alloc [.int .i64 0])]) (s (O 4 [E (.alloc [.dW])]) (s (O 5 [E (.lN 433 [T 2,T 3,T 4]),n (st 1 4 5)]) (s (s (O 6 [l 1 4,E (.dY (T 6) [T 1,N 1]),nt 7]) (c 8 (r (O 0 [n (E (.store 1 (T 2) (N 0))),n (E (.store 1 (T 3) (N 0)))])))) (r (V 9 [l 1 2,l 1 3,n (st 1 2 9),n (st 1 3 10)] [(1,2)] ⟨false,[],[]⟩))))))⟩
def GI:aB:=zd (r (V 81 [h 7 9,h 2 11,h 2 10,n (st 7 2 81),n (st 2 3 82),n (st 2 4 83)] [(1,3),(2,3),(2,4)] ⟨false,[],[]⟩))
def xQ:aB:=zd (s (s (O 41 [m 12,f 6 1,l 1 42,ln 1 43,lt 41 44,m 45,y 46 (m 12),y 46 (lti 47 8),pa 46 48]) (cc 49 (w .skip) (ee 0))) (s (B 1 (s (O 52 [f 6 1,l 1 52,m 12,ix 2 53 54,E (.gG 2 1 (T 55) (N 0)),l 1 56,E (.bin .rem (T 57) (.c (.int .u16 2))),E (.cvt .i64 (T 58)),E (.gG 2 1 (T 10) (T 59)),h 1 60,d 13 (E (.alloc [.ro 6 [] true])),n (st 1 13 61)]) (U 63 [h 7 9,h 2 11,f 0 13,l 1 65,f 6 1,l 1 67,m 12,ix 2 68 69,E (.gG 2 1 (T 70) (N 1)),l 1 71,f 0 13,l 1 73,ln 1 74,ca 284 [72,75],ca 285 [63,64,66,76],d 62 (m 77),ex 0 62,ex 1 62,ex 2 62,n (st 2 11 78)] [(0,13),(1,13),(3,13)] [12,11,10,9,4,3,2,1]))) (O 50 [m 12,adi 50 1,d 12 (m 51)])))
def Sv:aB:=.loop ⟨true,[12,11,10,9,4,3,2,1],[]⟩ xQ
def aiB:WFn:=⟨1,[.cell 2 7 true,.cell 3 2 true,.cell 4 2 true],zd (s (O 1 [bx 0,E (.alloc [.int .i64 0,.int .i64 0,.int .i64 0,.ro 9 [] true,.int .i64 0,.int .i64 0,.int .u8 0]),E (.alloc [.ro 8 [] true,.ro 1 [] true]),E (.alloc [.ro 6 [] true,.ro 6 [] true])]) (s (O 14 [f 0 1,f 2 14,l 1 15,f 3 1,f 2 17,n (st 1 18 16)]) (s (Q 20 [f 0 1,h 3 20,ca 130 [21],d 19 (m 22),ex 0 19,ex 1 19,d 5 (E (.alloc [.ro 9 [] true,.int .i64 0])),d 6 (E (.alloc [.ro 6 [] true])),n (st 2 5 23),n (st 1 6 24)] [6,5,4,3,2,1]) (s (O 26 [f 3 1,h 3 26,ca 130 [27],d 25 (m 28),ex 0 25,ex 1 25,d 7 (E (.alloc [.ro 9 [] true,.int .i64 0])),d 8 (E (.alloc [.ro 6 [] true])),n (st 2 7 29),n (st 1 8 30)]) (s (O 31 [f 0 5,l 1 31,f 1 5,l 1 33,E (.build [.int .i64 0,.int .i64 0,.int .i64 0,.ro 9 [] true,.int .i64 0,.int .i64 0,.int .u8 0] [(0,1,N 100),(1,1,N 1),(2,1,N 1),(3,1,T 32),(4,1,T 34),(5,1,N 65536)]),d 9 (E (.alloc [.int .i64 0,.int .i64 0,.int .i64 0,.ro 9 [] true,.int .i64 0,.int .i64 0,.int .u8 0])),n (st 7 9 35)]) (s (O 36 [h 1 6,h 1 8,E (.build [.ro 6 [] true,.ro 6 [] true] [(0,1,T 36),(1,1,T 37)]),d 10 (E (.alloc [.ro 6 [] true,.ro 6 [] true])),n (st 2 10 38)]) (s (Q 39 [h 7 9,ca 296 [39],d 11 (E (.alloc [.ro 8 [] true,.ro 1 [] true])),n (st 2 11 40)] [11,10,9,4,3,2,1]) (s (s (O 12 [i 0]) (bk 0 Sv ⟨true,[11,10,9,4,3,2],[]⟩)) GI))))))))⟩
@[simp] theorem apT:ZL Sv xQ ⟨true,[12,11,10,9,4,3,2,1],[]⟩:=bg rfl
noncomputable abbrev Dk(C:aJ)(s:WSt):Option AV:=CK C 0 (aO [.cell 2 7 true,.cell 3 2 true,.cell 4 2 true]) [.sq Sv,.bk 0 ⟨true,[11,10,9,4,3,2],[]⟩,.sq GI] xQ s
def Ij:aB:=zd (r (O 25 [m 5,d 4 (m 25)]))
def Bq:aB:=zd (s (s (O 7 [m 6,m 1,lt 7 8,m 9,y 10 (m 6),y 10 (lti 11 16),pa 10 12]) (cc 13 (w .skip) (ee 0))) (s (B 1 (s (O 16 [m 0,m 6,E (.bin .shr (T 16) (T 17)),E (.bin .rem (T 18) (.c (.int .u16 2))),E (.bin .gtr (T 19) (.c (.int .u16 0)))]) (c 20 (O 21 [m 5,m 6,E (.aW [.int .i64 0] 1 [(0,T 22)]),E (.app [.int .i64 0] 8 false (T 21) (T 23)),d 5 (m 24)])))) (O 14 [m 6,adi 14 1,d 6 (m 15)])))
def NU:aB:=.loop ⟨true,[6,5,1,0],[]⟩ Bq
def ajc:WFn:=⟨2,[.tmp 4],zd (s (O 4 [E (.mv (.c (.ro 1 [] true)))]) (s (R 5 [E (.mv (.c (.ro 1 [] true)))] ⟨true,[5,1,0],[(5,1)]⟩) (s (s (O 6 [i 0]) (bk 0 NU ⟨true,[5],[]⟩)) Ij)))⟩
@[simp] theorem aqv:ZL NU Bq ⟨true,[6,5,1,0],[]⟩:=bg rfl
noncomputable abbrev H8(C:aJ)(s:WSt):Option AV:=CK C 0 (aO [.tmp 4]) [.sq NU,.bk 0 ⟨true,[5],[]⟩,.sq Ij] Bq s
def uN:aB:=zd (s (O 155 [h 2 11,ca 297 [155],f 3 12,n (st 1 157 156)]) (s (s (O 158 [f 3 12,l 1 158,f 5 4,l 1 160,gt 159 161]) (c 162 (r (O 163 [E (.build [.ro 8 [] true,.ro 1 [] true] []),E (.build [.int .i64 0,.int .i64 0,.int .i64 0,.int .i64 0] []),n (st 2 8 163),n (st 4 9 164),d 10 (i 15)])))) (r (V 165 [h 2 11,h 4 12,n (st 2 8 165),n (st 4 9 166),d 10 (i 0)] [(1,2)] ⟨false,[],[]⟩))))
def qG:aB:=zd (s (s (O 73 [m 15,m 3,ln 1 74,lt 73 75]) (cc 76 (w .skip) (ee 2))) (s (B 3 (s (O 79 [m 2,m 3,m 15,ix 1 80 81,l 1 82,ix 6 79 83,f 0 84,h 4 85,d 16 (E (.alloc [.int .u64 0,.int .u8 0,.str [],.ro 1 [] true])),n (st 4 16 86)]) (s (V 87 [f 0 16,l 1 87,f 1 16,l 1 89,h 7 4,ca 299 [91],m 2,m 3,m 15,ix 1 94 95,l 1 96,ca 417 [92,93,97],E (.build [.int .u64 0,.int .u8 0,.int .u8 0,.str [],.str [],.ro 2 [] true,.str [],.ro 6 [] true] [(0,1,T 88),(1,1,T 90),(2,6,T 98)]),d 17 (E (.alloc [.int .u64 0,.int .u8 0,.int .u8 0,.str [],.str [],.ro 2 [] true,.str [],.ro 6 [] true])),n (st 8 17 99)] [(1,5),(3,5),(5,10),(1,11),(3,11),(1,13),(3,13),(4,13),(5,13),(10,13),(11,13)] ⟨true,[17,16,15,12,11,9,8,5,4,3,2],[(9999,65537)]⟩) (s (O 100 [f 0 11,l 1 100,h 8 17,E (.aW [.int .u64 0,.int .u8 0,.int .u8 0,.str [],.str [],.ro 2 [] true,.str [],.ro 6 [] true] 1 [(0,T 102)]),E (.app [.int .u64 0,.int .u8 0,.int .u8 0,.str [],.str [],.ro 2 [] true,.str [],.ro 6 [] true] 120 false (T 101) (T 103)),f 0 11,n (st 1 105 104)]) (s (O 106 [f 0 5,l 1 106,f 0 16,l 1 108,ca 436 [107,109],d 18 (m 110)]) (s (s (V 111 [m 18,gei 111 0,m 112,y 113 (f 0 5),y 113 (l 1 114),y 113 (m 18),y 113 (ix 8 115 116),y 113 (f 1 117),y 113 (l 1 118),y 113 (f 1 16),y 113 (l 1 120),y 113 (eq 119 121),pa 113 122] [] ⟨true,[123,16,15,12,11,9,8,5,4,3,2],[(9999,65537)]⟩) (c 123 (ee 3))) (s (O 124 [f 1 11,l 1 124,f 1 16,l 1 126,ix 1 125 127,l 1 128,ln 1 129,d 19 (m 130)]) (s (s (O 131 [m 19,eqi 131 0]) (c 132 (s (O 133 [f 1 12,l 1 133,adi 134 1,f 1 12,n (st 1 136 135)]) (ee 3)))) (s (O 137 [f 0 12,l 1 137,adi 138 1,f 0 12,n (st 1 140 139)]) (V 141 [f 1 11,l 1 141,f 1 16,l 1 143,f 1 11,l 1 145,f 1 16,l 1 147,ix 1 146 148,l 1 149,m 19,sbi 151 1,E (.slice 8 (T 150) none (some (T 152)) none),ix 1 142 144,n (st 1 154 153)] [] ⟨true,[15,12,11,9,8,5,4,3,2],[(9999,65537)]⟩)))))))))) (O 77 [m 15,adi 77 1,d 15 (m 78)])))
def BG:aB:=.loop ⟨true,[15,12,11,9,8,5,4,3,2],[(9999,65537)]⟩ qG
def Bl:aB:=zd (s (s (O 15 [i 0]) (bk 2 BG ⟨true,[12,11,9,8,4],[(9999,65537)]⟩)) uN)
def oH:aB:=zd (s (s (O 23 [m 13,f 0 5,l 1 24,ln 1 25,lt 23 26]) (cc 27 (w .skip) (ee 0))) (s (B 1 (s (O 30 [f 0 5,l 1 30,m 13,ix 8 31 32,h 8 33,d 14 (E (.alloc [.int .u64 0,.int .u8 0,.int .u8 0,.str [],.str [],.ro 2 [] true,.str [],.ro 6 [] true])),n (st 8 14 34)]) (s (s (R 35 [h 8 14,m 2,m 3,ca 435 [35,36,37],eqi 38 1] ⟨true,[39,14,13,12,11,9,8,5,4,3,2],[(9999,65537)]⟩) (c 39 (ee 1))) (s (s (V 40 [f 1 11,l 1 40,f 1 14,l 1 42,ix 1 41 43,l 1 44,ln 1 45,f 3 4,l 1 47,f 1 14,l 1 49,ix 9 48 50,f 8 51,l 1 52,eq 46 53] [] ⟨false,[],[]⟩) (c 54 (s (O 55 [f 2 12,l 1 55,adi 56 1,f 2 12,n (st 1 58 57)]) (ee 1)))) (V 59 [f 1 11,l 1 59,f 1 14,l 1 61,f 1 11,l 1 63,f 1 14,l 1 65,ix 1 64 66,l 1 67,h 8 14,E (.aW [.int .u64 0,.int .u8 0,.int .u8 0,.str [],.str [],.ro 2 [] true,.str [],.ro 6 [] true] 1 [(0,T 69)]),E (.app [.int .u64 0,.int .u8 0,.int .u8 0,.str [],.str [],.ro 2 [] true,.str [],.ro 6 [] true] 120 false (T 68) (T 70)),ix 1 60 62,n (st 1 72 71)] [(1,11),(3,11),(5,11),(7,11),(9,11),(1,12),(3,12)] ⟨true,[13,12,11,9,8,5,4,3,2],[(9999,65537)]⟩))))) (O 28 [m 13,adi 28 1,d 13 (m 29)])))
def IY:aB:=.loop ⟨true,[13,12,11,9,8,5,4,3,2],[(9999,65537)]⟩ oH
def XT:WFn:=⟨4,[.cell 8 2 true,.cell 9 4 true,.tmp 10],zd (s (R 8 [d 4 (bx 0),d 5 (bx 1),E (.alloc [.ro 8 [] true,.ro 1 [] true]),E (.alloc [.int .i64 0,.int .i64 0,.int .i64 0,.int .i64 0]),i 0] ⟨true,[9,8,5,4,3,2],[(9999,65537)]⟩) (s (O 20 [h 2 5,ca 2031 [20],d 11 (E (.alloc [.ro 8 [] true,.ro 1 [] true])),n (st 2 11 21)]) (s (O 22 [f 0 11,n (E (.store 1 (T 22) (.c (.ro 8 [] true))))]) (s (O 12 [E (.alloc [.int .i64 0,.int .i64 0,.int .i64 0,.int .i64 0])]) (s (s (O 13 [i 0]) (bk 0 IY ⟨true,[12,11,9,8,5,4,3,2],[(9999,65537)]⟩)) Bl)))))⟩
@[simp] theorem ap3:ZL BG qG ⟨true,[15,12,11,9,8,5,4,3,2],[(9999,65537)]⟩:=bg rfl
@[simp] theorem aqL:ZL IY oH ⟨true,[13,12,11,9,8,5,4,3,2],[(9999,65537)]⟩:=bg rfl
def Ov:aB:=zd (r (O 4 [i 1]))
def Bj:aB:=zd (s (s (O 21 [m 5,f 1 2,l 1 22,ln 1 23,lt 21 24]) (cc 25 (w .skip) (ee 0))) (s (B 1 (s (V 28 [f 1 2,l 1 28,m 5,ix 1 29 30,l 1 31,f 1 3,l 1 33,m 5,ix 1 34 35,l 1 36,ca 437 [32,37],eqi 38 0] [] ⟨false,[],[]⟩) (c 39 (r (O 4 [i 0]))))) (O 26 [m 5,adi 26 1,d 5 (m 27)])))
def NZ:aB:=.loop ⟨true,[5,3,2],[]⟩ Bj
def aai:WFn:=⟨2,[.tmp 4],zd (s (O 2 [bx 0,bx 1,i 0]) (s (s (O 6 [f 0 2,l 1 6,f 0 3,l 1 8,ca 437 [7,9],eqi 10 0,m 11,z 12 (f 1 2),z 12 (l 1 13),z 12 (ln 1 14),z 12 (f 1 3),z 12 (l 1 16),z 12 (ln 1 17),z 12 (ne 15 18),po 12 19]) (c 20 (r (Q 4 [i 0] [4])))) (s (s (O 5 [i 0]) (bk 0 NZ ⟨true,[],[]⟩)) Ov)))⟩
@[simp] theorem ap6:ZL NZ Bj ⟨true,[5,3,2],[]⟩:=bg rfl
noncomputable abbrev IU(C:aJ)(s:WSt):Option AV:=CK C 0 (aO [.tmp 4]) [.sq NZ,.bk 0 ⟨true,[],[]⟩,.sq Ov] Bj s
def Pn:aB:=zd (r (O 2 [i 1]))
def AQ:aB:=zd (s (s (O 20 [m 3,f 1 1,l 1 21,ln 1 22,lt 20 23]) (cc 24 (w .skip) (ee 0))) (s (B 1 (s (V 27 [f 1 1,l 1 27,m 3,ix 1 28 29,l 1 30,E (.cap (T 31)),f 1 1,l 1 33,m 3,ix 1 34 35,l 1 36,ln 1 37,ne 32 38] [] ⟨false,[],[]⟩) (c 39 (r (O 2 [i 0]))))) (O 25 [m 3,adi 25 1,d 3 (m 26)])))
def Sm:aB:=.loop ⟨true,[3,1],[]⟩ AQ
def ahF:WFn:=⟨1,[.tmp 2],zd (s (O 1 [bx 0,i 0]) (s (s (O 4 [f 0 1,l 1 4,E (.cap (T 5)),f 0 1,l 1 7,ln 1 8,ne 6 9,m 10,z 11 (f 1 1),z 11 (l 1 12),z 11 (E (.cap (T 13))),z 11 (f 1 1),z 11 (l 1 15),z 11 (ln 1 16),z 11 (ne 14 17),po 11 18]) (c 19 (r (O 2 [i 0])))) (s (s (Q 3 [i 0] [3,1]) (bk 0 Sm ⟨true,[],[]⟩)) Pn)))⟩
@[simp] theorem aq6:ZL Sm AQ ⟨true,[3,1],[]⟩:=bg rfl
noncomputable abbrev IW(C:aJ)(s:WSt):Option AV:=CK C 0 (aO [.tmp 2]) [.sq Sm,.bk 0 ⟨true,[],[]⟩,.sq Pn] AQ s
def Ot:aB:=zd (r (O 20 [m 3,d 2 (m 20)]))
def Bv:aB:=zd (s (s (O 5 [m 4,f 1 1,l 1 6,ln 1 7,lt 5 8]) (cc 9 (w .skip) (ee 0))) (s (B 1 (O 12 [m 3,f 1 1,l 1 13,m 4,ix 1 14 15,l 1 16,ln 1 17,ad 12 18,d 3 (m 19)])) (O 10 [m 4,adi 10 1,d 4 (m 11)])))
def OB:aB:=.loop ⟨true,[4,3,1],[]⟩ Bv
def ajj:WFn:=⟨1,[.tmp 2],zd (s (O 1 [bx 0,i 0]) (s (O 3 [i 0]) (s (s (O 4 [i 0]) (bk 0 OB ⟨true,[3],[]⟩)) Ot)))⟩
@[simp] theorem aq0:ZL OB Bv ⟨true,[4,3,1],[]⟩:=bg rfl
noncomputable abbrev I8(C:aJ)(s:WSt):Option AV:=CK C 0 (aO [.tmp 2]) [.sq OB,.bk 0 ⟨true,[3],[]⟩,.sq Ot] Bv s
def adb:WFn:=⟨1,[.tmp 2],zd (s (O 1 [bx 0,i 0]) (s (O 3 [E (.alloc [.int .i64 0]),E (.alloc [.bool false]),n (E (.store 1 (T 3) (N 1))),n (E (.store 1 (T 4) (.c (.bool true))))]) (s (O 5 [E (.alloc [.dW])]) (s (O 6 [E (.lN 438 [T 4,T 3,T 5]),n (st 1 5 6)]) (s (O 7 [l 1 5,f 0 1,l 1 8,E (.aW [.ro 8 [] true] 1 [(0,T 9)]),E (.dY (T 7) [T 10])]) (s (O 12 [l 1 5,f 1 1,l 1 13,E (.dY (T 12) [T 14])]) (s (s (O 16 [l 1 4,nt 16]) (c 17 (r (O 2 [i 0])))) (r (O 18 [l 1 3,d 2 (m 18)])))))))))⟩
def Qx:aB:=zd (r (O 56 [h 2 10,m 11,n (st 2 6 56),d 7 (m 57),d 8 (i 0)]))
def CB:aB:=zd (s (O 35 [lt 34 33]) (s (cc 35 (w .skip) (ee 0)) (s (B 1 (s (O 36 [m 34,ix 1 32 34,l 1 37,d 12 (m 36),d 13 (m 38)]) (s (Q 39 [m 13,ln 1 39,m 2,sb 40 41,E (.mx (N 0) (T 42)),d 14 (m 43)] [34,33,32,14,13,12,11,10,6,2]) (s (V 44 [f 1 10,l 1 44,m 12,m 13,m 14,E (.slice 8 (T 47) (some (T 48)) none none),ca 432 [49],ix 1 45 46,n (st 1 51 50)] [(1,6)] ⟨false,[],[]⟩) (O 52 [m 11,m 14,ad 52 53,d 11 (m 54)]))))) (O 55 [adi 34 1,d 34 (m 55)]))))
def PN:aB:=.loop ⟨true,[34,33,32,11,10,6,2],[]⟩ CB
def aam:WFn:=⟨3,[.cell 6 2 true,.tmp 7,.tmp 8],zd (s (O 6 [d 3 (bx 0),d 4 (bx 1),E (.alloc [.ro 8 [] true,.ro 1 [] true]),i 0,i 0]) (s (s (O 15 [h 7 3,h 2 4,ca 278 [15,16],d 9 (m 17)]) (s (O 18 [m 9,nei 18 0]) (c 19 (r (O 20 [E (.build [.ro 8 [] true,.ro 1 [] true] []),m 9,n (st 2 6 20),d 7 (i 0),d 8 (m 21)]))))) (s (s (Q 22 [m 2,lti 22 0,m 23,z 24 (m 2),z 24 (gti 25 16),po 24 26] [27,6,4,2]) (c 27 (r (O 7 [d 28 (E (.build [.ro 8 [] true,.ro 1 [] true] [])),n (st 2 6 28),i 0,i 4])))) (s (O 29 [h 2 4,ca 3008 [29],d 10 (E (.alloc [.ro 8 [] true,.ro 1 [] true])),n (st 2 10 30),d 11 (i 0)]) (s (s (O 31 [f 1 10,l 1 31,ln 1 32,i 0]) (bk 0 PN ⟨true,[11,10,6],[]⟩)) Qx)))))⟩
@[simp] theorem arp:ZL PN CB ⟨true,[34,33,32,11,10,6,2],[]⟩:=bg rfl
noncomputable abbrev Ja(C:aJ)(s:WSt):Option AV:=CK C 0 (aO [.cell 6 2 true,.tmp 7,.tmp 8]) [.sq PN,.bk 0 ⟨true,[11,10,6],[]⟩,.sq Qx] CB s
def xw:aB:=zd (r (O 38 [h 2 6,m 7,n (st 2 4 38),d 5 (m 39)]))
def IE:aB:=zd (O 16 [m 8,adi 16 1,d 8 (m 17)])
def Ah:aB:=zd (s (s (R 18 [f 1 6,l 1 18,m 8,ix 1 19 20,l 1 21,ln 1 22,m 1,gt 23 24] ⟨true,[25,8,7,6,4,1],[(9999,65537)]⟩) (cc 25 (w .skip) (ee 2))) (B 3 (s (V 26 [f 1 6,l 1 26,m 8,f 1 6,l 1 29,m 8,ix 1 30 31,l 1 32,E (.slice 8 (T 33) (some (N 1)) none none),ix 1 27 28,n (st 1 35 34)] [] ⟨false,[],[]⟩) (O 36 [m 7,adi 36 1,d 7 (m 37)]))))
def OJ:aB:=.loop ⟨true,[8,7,6,4,1],[(9999,65537)]⟩ Ah
def AB:aB:=zd (s (s (O 11 [m 8,f 1 6,l 1 12,ln 1 13,lt 11 14]) (cc 15 (w .skip) (ee 0))) (s (bk 1 (bk 2 OJ ⟨true,[8,7,6,4,1],[(9999,65537)]⟩) ⟨true,[8,7,6,4,1],[(9999,65537)]⟩) IE))
def Au:aB:=.loop ⟨true,[8,7,6,4,1],[(9999,65537)]⟩ AB
def acT:WFn:=⟨2,[.cell 4 2 true,.tmp 5],zd (s (O 4 [d 2 (bx 0),E (.alloc [.ro 8 [] true,.ro 1 [] true]),i 0]) (s (O 9 [h 2 2,ca 2031 [9],d 6 (E (.alloc [.ro 8 [] true,.ro 1 [] true])),n (st 2 6 10)]) (s (O 7 [i 0]) (s (s (O 8 [i 0]) (bk 0 Au ⟨true,[7,6,4],[(9999,65537)]⟩)) xw))))⟩
@[simp] theorem aqT:ZL OJ Ah ⟨true,[8,7,6,4,1],[(9999,65537)]⟩:=bg rfl
@[simp] theorem aqo:ZL Au AB ⟨true,[8,7,6,4,1],[(9999,65537)]⟩:=bg rfl
def ah4:aB:=zd (r (O 30 [m 5,d 4 (m 30)]))
def Y6:aB:=zd (s (s (Q 7 [m 6,f 5 2,l 1 8,ln 1 9,lt 7 10,m 11,y 12 (m 5),y 12 (m 1),y 12 (le 13 14),pa 12 15] [16,6,5,2,1]) (cc 16 (w .skip) (ee 0))) (s (B 1 (O 19 [m 5,f 5 2,l 1 20,m 6,ix 6 21 22,h 6 23,m 1,m 5,sb 25 26,ca 292 [24,27],ad 19 28,d 5 (m 29)])) (O 17 [m 6,adi 17 1,d 6 (m 18)])))
def X9:aB:=.loop ⟨true,[6,5,2,1],[]⟩ Y6
def aoo:WFn:=⟨2,[.tmp 4],zd (s (O 4 [d 2 (bx 0),i 0]) (s (O 5 [i 1]) (s (s (O 6 [i 0]) (bk 0 X9 ⟨true,[5],[]⟩)) ah4)))⟩
@[simp] theorem ap4:ZL X9 Y6 ⟨true,[6,5,2,1],[]⟩:=bg rfl
def Bf:aB:=zd (r (O 30 [h 2 3,n (st 2 2 30)]))
def rG:aB:=zd (s (s (O 11 [m 4,f 1 1,l 1 12,ln 1 13,lt 11 14]) (cc 15 (w .skip) (ee 0))) (s (B 1 (V 18 [f 1 3,l 1 18,E (.aW [.int .u64 0,.int .u8 0,.int .u8 0,.str [],.str [],.ro 2 [] true,.str [],.ro 6 [] true] 0 []),f 1 1,l 1 21,m 4,ix 1 22 23,l 1 24,E (.app [.int .u64 0,.int .u8 0,.int .u8 0,.str [],.str [],.ro 2 [] true,.str [],.ro 6 [] true] 120 false (T 20) (T 25)),E (.aW [.ro 8 [] true] 1 [(0,T 26)]),E (.app [.ro 8 [] true] 24 false (T 19) (T 27)),f 1 3,n (st 1 29 28)] [(1,2),(2,4),(2,7),(1,8),(1,9)] ⟨false,[],[]⟩)) (O 16 [m 4,adi 16 1,d 4 (m 17)])))
def He:aB:=.loop ⟨true,[4,3,2,1],[(9999,65537)]⟩ rG
def Xi:WFn:=⟨1,[.cell 2 2 true],zd (s (O 1 [bx 0,E (.alloc [.ro 8 [] true,.ro 1 [] true])]) (s (O 3 [E (.alloc [.ro 8 [] true,.ro 1 [] true])]) (s (O 5 [f 0 3,l 1 5,f 0 1,l 1 7,E (.app [.int .u64 0,.int .u8 0,.int .u8 0,.str [],.str [],.ro 2 [] true,.str [],.ro 6 [] true] 120 false (T 6) (T 8)),f 0 3,n (st 1 10 9)]) (s (s (R 4 [i 0] ⟨true,[4,3,2,1],[(9999,65537)]⟩) (bk 0 He ⟨true,[3,2],[(9999,65537)]⟩)) Bf))))⟩
@[simp] theorem apZ:ZL He rG ⟨true,[4,3,2,1],[(9999,65537)]⟩:=bg rfl
def Gy:aB:=zd (r (O 4 [i 0]))
def QL:aB:=zd (O 65 [m 6,adi 65 1,d 6 (m 66)])
def DU:aB:=zd (s (s (Q 80 [m 7,f 1 3,l 1 81,m 6,ix 1 82 83,l 1 84,ln 1 85,lt 80 86] [87,7,6,3,2]) (cc 87 (w .skip) (ee 4))) (s (B 5 (s (V 90 [h 7 2,f 1 3,l 1 91,m 6,ix 1 92 93,l 1 94,m 7,ix 8 95 96,h 8 97,m 6,ca 440 [90,98,99],eqi 100 0] [] ⟨false,[],[]⟩) (c 101 (r (O 4 [i 10]))))) (O 88 [m 7,adi 88 1,d 7 (m 89)])))
def OO:aB:=.loop ⟨true,[7,6,3,2],[]⟩ DU
def Dl:aB:=zd (s (s (O 60 [m 6,f 1 3,l 1 61,ln 1 62,lt 60 63]) (cc 64 (w .skip) (ee 2))) (s (bk 3 (s (s (V 67 [f 1 3,l 1 67,m 6,ix 1 68 69,l 1 70,ln 1 71,f 3 2,l 1 73,m 6,ix 9 74 75,f 8 76,l 1 77,gt 72 78] [] ⟨false,[],[]⟩) (c 79 (r (O 4 [i 10])))) (s (O 7 [i 0]) (bk 4 OO ⟨true,[6,3,2],[]⟩))) ⟨true,[6,3,2],[]⟩) QL))
def I5:aB:=.loop ⟨true,[6,3,2],[]⟩ Dl
def G6:aB:=zd (s (s (O 6 [i 0]) (bk 2 I5 ⟨true,[],[]⟩)) Gy)
def Ai:aB:=zd (s (s (O 24 [m 5,f 0 3,l 1 25,ln 1 26,lt 24 27]) (cc 28 (w .skip) (ee 0))) (s (B 1 (s (U 31 [h 7 2,f 0 3,l 1 32,m 5,ix 8 33 34,h 8 35,f 0 3,l 1 37,m 5,ix 8 38 39,f 1 40,l 1 41,E (.cvt .i64 (T 42)),ca 440 [31,36,43],eqi 44 0,m 45,z 46 (f 0 3),z 46 (l 1 47),z 46 (m 5),z 46 (E (.slice 8 (T 48) none (some (T 49)) none)),z 46 (f 0 3),z 46 (l 1 51),z 46 (m 5),z 46 (ix 8 52 53),z 46 (f 0 54),z 46 (l 1 55),z 46 (ca 436 [50,56]),z 46 (gei 57 0),po 46 58] [] [59,5,3,2]) (c 59 (r (O 4 [i 10]))))) (Q 29 [m 5,adi 29 1,d 5 (m 30)] [5,3,2])))
def OU:aB:=.loop ⟨true,[5,3,2],[]⟩ Ai
def ahf:WFn:=⟨2,[.tmp 4],zd (s (O 2 [bx 0,bx 1,i 0]) (s (s (Q 8 [h 7 2,ca 295 [8],gti 9 0] [10,3,2]) (c 10 (r (O 4 [i 7])))) (s (s (O 11 [f 0 3,l 1 11,ln 1 12,gti 13 1024,m 14,z 15 (f 1 3),z 15 (l 1 16),z 15 (ln 1 17),z 15 (f 3 2),z 15 (l 1 19),z 15 (ln 1 20),z 15 (ne 18 21),po 15 22]) (c 23 (r (O 4 [i 10])))) (s (s (O 5 [i 0]) (bk 0 OU ⟨true,[3,2],[]⟩)) G6))))⟩
@[simp] theorem aqx:ZL OO DU ⟨true,[7,6,3,2],[]⟩:=bg rfl
noncomputable abbrev Gu(C:aJ)(s:WSt):Option AV:=CK C 0 (aO [.tmp 4]) [.sq OO,.bk 4 ⟨true,[6,3,2],[]⟩,.bk 3 ⟨true,[6,3,2],[]⟩,.sq QL,.sq I5,.bk 2 ⟨true,[],[]⟩,.sq Gy] DU s
@[simp] theorem apS:ZL I5 Dl ⟨true,[6,3,2],[]⟩:=bg rfl
noncomputable abbrev yN(C:aJ)(s:WSt):Option AV:=CK C 0 (aO [.tmp 4]) [.sq I5,.bk 2 ⟨true,[],[]⟩,.sq Gy] Dl s
@[simp] theorem apB:ZL OU Ai ⟨true,[5,3,2],[]⟩:=bg rfl
noncomputable abbrev Iq(C:aJ)(s:WSt):Option AV:=CK C 0 (aO [.tmp 4]) [.sq OU,.bk 0 ⟨true,[3,2],[]⟩,.sq G6] Ai s
def RD:aB:=zd (r (O 2 [i 0]))
def DJ:aB:=zd (s (s (Q 18 [m 3,f 3 1,l 1 19,ln 1 20,lt 18 21] [22,3,1]) (cc 22 (w .skip) (ee 0))) (s (B 1 (s (O 25 [f 3 1,l 1 25,m 3,ix 9 26 27,f 8 28,l 1 29,lti 30 0,m 31,z 32 (f 3 1),z 32 (l 1 33),z 32 (m 3),z 32 (ix 9 34 35),z 32 (f 8 36),z 32 (l 1 37),z 32 (gti 38 16),po 32 39]) (c 40 (r (O 2 [i 7]))))) (O 23 [m 3,adi 23 1,d 3 (m 24)])))
def Sj:aB:=.loop ⟨true,[3,1],[]⟩ DJ
def ahw:WFn:=⟨1,[.tmp 2],zd (s (O 1 [bx 0,i 0]) (s (s (O 4 [h 7 1,ca 299 [4],ca 236 [5],gti 6 0,m 7,z 8 (f 5 1),z 8 (l 1 9),z 8 (lti 10 1),po 8 11,m 12,z 13 (f 5 1),z 13 (l 1 14),z 13 (gti 15 65536),po 13 16]) (c 17 (r (O 2 [i 7])))) (s (s (O 3 [i 0]) (bk 0 Sj ⟨true,[],[]⟩)) RD)))⟩
@[simp] theorem arl:ZL Sj DJ ⟨true,[3,1],[]⟩:=bg rfl
noncomputable abbrev GX(C:aJ)(s:WSt):Option AV:=CK C 0 (aO [.tmp 2]) [.sq Sj,.bk 0 ⟨true,[],[]⟩,.sq RD] DJ s
def Zb:aB:=zd (r (O 17 [h 2 3,n (st 2 2 17)]))
def yc:aB:=zd (s (s (O 5 [m 4,f 3 1,l 1 6,ln 1 7,lt 5 8]) (cc 9 (w .skip) (ee 0))) (s (B 1 (O 12 [f 1 3,l 1 12,E (.aW [.ro 8 [] true] 1 [(0,.c (.ro 8 [] true))]),E (.app [.ro 8 [] true] 24 false (T 13) (T 14)),f 1 3,n (st 1 16 15)])) (O 10 [m 4,adi 10 1,d 4 (m 11)])))
def YW:aB:=.loop ⟨true,[4,3,2,1],[]⟩ yc
def P5:WFn:=⟨1,[.cell 2 2 true],zd (s (O 1 [bx 0,E (.alloc [.ro 8 [] true,.ro 1 [] true])]) (s (O 3 [E (.alloc [.ro 8 [] true,.ro 1 [] true])]) (s (s (O 4 [i 0]) (bk 0 YW ⟨true,[3,2],[]⟩)) Zb)))⟩
@[simp] theorem aqK:ZL YW yc ⟨true,[4,3,2,1],[]⟩:=bg rfl
def D6:aB:=zd (r (O 44 [m 3,d 2 (m 44)]))
def Bz:aB:=zd (O 12 [m 4,adi 12 1,d 4 (m 13)])
def yK:aB:=zd (s (s (O 23 [m 6,m 5,ln 1 24,lt 23 25]) (cc 26 (w .skip) (ee 2))) (s (B 3 (s (s (Q 29 [m 5,m 6,ix 8 29 30,f 2 31,h 6 32,ca 441 [33],gti 34 0] [35,6,5,4,3,1]) (c 35 (r (O 2 [i 0])))) (O 36 [m 3,m 5,m 6,ix 8 37 38,f 2 39,h 6 40,ca 442 [41],ad 36 42,d 3 (m 43)]))) (O 27 [m 6,adi 27 1,d 6 (m 28)])))
def Rh:aB:=.loop ⟨true,[6,5,4,3,1],[]⟩ yK
def uT:aB:=zd (s (s (O 7 [m 4,f 1 1,l 1 8,ln 1 9,lt 7 10]) (cc 11 (w .skip) (ee 0))) (s (bk 1 (s (O 14 [f 0 1,l 1 14,d 5 (m 15)]) (s (s (O 16 [m 4,gei 16 0]) (c 17 (O 18 [f 1 1,l 1 18,m 4,ix 1 19 20,l 1 21,d 5 (m 22)]))) (s (O 6 [i 0]) (bk 2 Rh ⟨true,[4,3,1],[]⟩)))) ⟨true,[4,3,1],[]⟩) Bz))
def DR:aB:=.loop ⟨true,[4,3,1],[]⟩ uT
def aeN:WFn:=⟨1,[.tmp 2],zd (s (Q 1 [bx 0,i 0] [1]) (s (O 3 [i 1]) (s (s (O 4 [i (-1)]) (bk 0 DR ⟨true,[3],[]⟩)) D6)))⟩
@[simp] theorem apU:ZL Rh yK ⟨true,[6,5,4,3,1],[]⟩:=bg rfl
noncomputable abbrev ug(C:aJ)(s:WSt):Option AV:=CK C 0 (aO [.tmp 2]) [.sq Rh,.bk 2 ⟨true,[4,3,1],[]⟩,.bk 1 ⟨true,[4,3,1],[]⟩,.sq Bz,.sq DR,.bk 0 ⟨true,[3],[]⟩,.sq D6] yK s
@[simp] theorem aq9:ZL DR uT ⟨true,[4,3,1],[]⟩:=bg rfl
noncomputable abbrev Dy(C:aJ)(s:WSt):Option AV:=CK C 0 (aO [.tmp 2]) [.sq DR,.bk 0 ⟨true,[3],[]⟩,.sq D6] uT s
def acw:WFn:=⟨2,[.tmp 4],zd (s (O 2 [bx 0,bx 1,ff]) (r (O 5 [f 0 2,l 1 5,f 0 3,l 1 7,ca 443 [6,8],m 9,y 10 (f 1 2),y 10 (l 1 11),y 10 (f 1 3),y 10 (l 1 13),y 10 (E (.call 444 [T 12,T 14,.c (.fn 443 [])])),pa 10 15,d 4 (m 16)])))⟩
def aif:WFn:=⟨1,[.cell 2 2 true],zd (s (O 1 [bx 0,E (.alloc [.ro 9 [] true,.int .i64 0])]) (r (O 3 [f 3 1,l 1 3,f 4 1,l 1 5,E (.build [.ro 9 [] true,.int .i64 0] [(0,1,T 4),(1,1,T 6)]),n (st 2 2 7)])))⟩
def adZ:WFn:=⟨2,[.tmp 4],zd (s (O 4 [i 0]) (s (s (O 5 [m 0,ca 445 [5],eqi 6 0,m 7,z 8 (m 0),z 8 (ln 1 9),z 8 (gti 10 0),z 8 (m 11),y 12 (m 0),y 12 (m 0),y 12 (ln 1 14),y 12 (sbi 15 1),y 12 (ix 1 13 16),y 12 (l 1 17),y 12 (m 1),y 12 (ge 18 19),z 8 (pa 12 20),po 8 21]) (c 22 (r (O 4 [i 0])))) (r (O 4 [i 1]))))⟩
def ahI:aB:=zd (r (V 30 [h 7 3,h 1 4,n (st 7 0 30),n (st 1 1 31)] [(1,2)] ⟨false,[],[]⟩))
def YR:aB:=zd (s (s (O 13 [m 5,lti 13 4]) (cc 14 (w .skip) (ee 0))) (s (B 1 (O 17 [f 0 4,l 1 17,m 5,adi 19 1,E (.cvt .u64 (T 20)),m 5,E (.bin .quo (T 22) (N 3)),E (.cvt .u8 (T 23)),E (.build [.int .u64 0,.int .u8 0,.str [],.ro 1 [] true] [(0,1,T 21),(1,1,T 24)]),E (.build [.int .u64 0,.int .u8 0,.str [],.ro 1 [] true,.int .i64 0,.bool false] [(0,4,T 25),(4,1,N 1)]),E (.aW [.int .u64 0,.int .u8 0,.str [],.ro 1 [] true,.int .i64 0,.bool false] 1 [(0,T 26)]),E (.app [.int .u64 0,.int .u8 0,.str [],.ro 1 [] true,.int .i64 0,.bool false] 72 false (T 18) (T 27)),f 0 4,n (st 1 29 28)])) (O 15 [m 5,adi 15 1,d 5 (m 16)])))
def YF:aB:=.loop ⟨true,[5,4,3,1,0],[]⟩ YR
def ao1:WFn:=⟨0,[.cell 0 7 true,.cell 1 1 true],zd (s (O 0 [E (.alloc [.int .i64 0,.int .i64 0,.int .i64 0,.ro 9 [] true,.int .i64 0,.int .i64 0,.int .u8 0]),E (.alloc [.ro 6 [] true])]) (s (O 6 [E (.build [.int .u8 0,.str [],.str [],.ro 3 [] true,.str [],.ro 6 [] true] [(0,1,.c (.int .u8 1)),(1,1,.c (.str [114,111,119]))]),d 2 (E (.alloc [.int .u8 0,.str [],.str [],.ro 3 [] true,.str [],.ro 6 [] true])),n (st 6 2 6)]) (s (O 7 [h 6 2,E (.build [.int .u8 0,.str [],.str [],.ro 3 [] true,.str [],.ro 6 [] true,.int .i64 0,.bool false,.int .i64 0] [(0,6,T 7),(6,1,N 1),(8,1,N 1)]),h 6 2,E (.build [.int .u8 0,.str [],.str [],.ro 3 [] true,.str [],.ro 6 [] true,.int .i64 0,.bool false,.int .i64 0] [(0,6,T 9),(6,1,N 1)]),E (.aW [.int .u8 0,.str [],.str [],.ro 3 [] true,.str [],.ro 6 [] true,.int .i64 0,.bool false,.int .i64 0] 2 [(0,T 8),(1,T 10)]),E (.build [.int .i64 0,.int .i64 0,.int .i64 0,.ro 9 [] true,.int .i64 0,.int .i64 0,.int .u8 0] [(3,1,T 11),(4,1,N 1),(5,1,N 100)]),d 3 (E (.alloc [.int .i64 0,.int .i64 0,.int .i64 0,.ro 9 [] true,.int .i64 0,.int .i64 0,.int .u8 0])),n (st 7 3 12)]) (s (O 4 [E (.alloc [.ro 6 [] true])]) (s (s (Q 5 [i 0] [5,4,3,1,0]) (bk 0 YF ⟨true,[4,3,1,0],[]⟩)) ahI)))))⟩
@[simp] theorem aq7:ZL YF YR ⟨true,[5,4,3,1,0],[]⟩:=bg rfl
def ahh:aB:=zd (r (O 4 [i 1]))
def Y2:aB:=zd (s (s (O 11 [m 5,m 0,ln 1 12,lt 11 13]) (cc 14 (w .skip) (ee 0))) (s (B 1 (s (V 17 [m 0,m 5,ix 8 17 18,f 0 19,l 1 20,m 1,m 5,ix 1 22 23,l 1 24,ne 21 25] [] ⟨false,[],[]⟩) (c 26 (r (O 4 [i 0]))))) (O 15 [m 5,adi 15 1,d 5 (m 16)])))
def YN:aB:=.loop ⟨true,[5,1,0],[]⟩ Y2
def aoq:WFn:=⟨2,[.tmp 4],zd (s (O 4 [i 0]) (s (s (Q 6 [m 0,ln 1 6,m 1,ln 1 8,ne 7 9] [10,1,0]) (c 10 (r (O 4 [i 0])))) (s (s (O 5 [i 0]) (bk 0 YN ⟨true,[],[]⟩)) ahh)))⟩
@[simp] theorem aqi:ZL YN Y2 ⟨true,[5,1,0],[]⟩:=bg rfl
def wZ:aB:=zd (s (s (O 45 [E (.gG 4 1 (T 1) (N 3)),l 1 45,E (.bin .geq (T 46) (.c (.int .u8 240)))]) (c 47 (O 48 [f 3 3,l 1 48,E (.aW [.str []] 2 [(0,.c (.str [97])),(1,.c (.str [97]))]),E (.app [.str []] 16 false (T 49) (T 50)),f 3 3,n (st 1 52 51)]))) (r (O 53 [h 4 3,n (st 4 2 53)])))
def kC:aB:=zd (s (s (O 20 [m 4,lti 20 3]) (cc 21 (w .skip) (ee 0))) (s (B 1 (s (O 24 [E (.gG 4 1 (T 1) (N 3)),l 1 24,m 4,E (.bin .shr (T 25) (T 26)),E (.bin .and (T 27) (.c (.int .u8 1))),E (.bin .gtr (T 28) (.c (.int .u8 0)))]) (c 29 (U 30 [f 3 3,l 1 30,E (.aW [.str []] 3 [(0,.c (.str [97])),(1,.c (.str [98,50])),(2,.c (.str [107,101,121]))]),m 4,E (.gG 4 1 (T 1) (N 3)),l 1 34,E (.bin .quo (T 35) (.c (.int .u8 8))),E (.cvt .i64 (T 36)),ad 33 37,E (.bin .rem (T 38) (N 3)),ix 1 32 39,l 1 40,E (.aW [.str []] 1 [(0,T 41)]),E (.app [.str []] 16 false (T 31) (T 42)),f 3 3,n (st 1 44 43)] [(1,2),(2,5),(1,12)] [4,3,2,1])))) (O 22 [m 4,adi 22 1,d 4 (m 23)])))
def Pq:aB:=.loop ⟨true,[4,3,2,1],[]⟩ kC
def KC:WFn:=⟨1,[.cell 2 4 true],zd (s (O 1 [bx 0,E (.alloc [.int .u64 0,.int .u8 0,.str [],.ro 1 [] true])]) (s (U 5 [E (.gG 4 1 (T 1) (N 0)),l 1 5,E (.bin .rem (T 6) (.c (.int .u8 60))),E (.cvt .u64 (T 7)),E (.bin .add (.c (.int .u64 1)) (T 8)),E (.gG 4 1 (T 1) (N 1)),l 1 10,E (.bin .rem (T 11) (.c (.int .u8 3))),E (.aW [.str []] 8 [(0,.c (.str [])),(1,.c (.str [97])),(2,.c (.str [114,111,119])),(3,.c (.str [116,119,111,32,119,111,114,100,115])),(4,.c (.str [32,32])),(5,.c (.str [126,33,45,44])),(6,.c (.str [97,32,108,111,110,103,101,114,32,116,101,120,116,32,111,102,32,116,104,105,115,32,107,105,110,100])),(7,.c (.str [57]))]),E (.gG 4 1 (T 1) (N 2)),l 1 14,E (.bin .rem (T 15) (.c (.int .u8 8))),ix 1 13 16,l 1 17,E (.build [.int .u64 0,.int .u8 0,.str [],.ro 1 [] true] [(0,1,T 9),(1,1,T 12),(2,1,T 18)]),d 3 (E (.alloc [.int .u64 0,.int .u8 0,.str [],.ro 1 [] true])),n (st 4 3 19)] [(1,8),(6,8),(8,10),(1,15),(6,15),(8,15),(10,15),(13,15)] [3,2,1]) (s (s (O 4 [i 0]) (bk 0 Pq ⟨true,[3,2,1],[]⟩)) wZ)))⟩
@[simp] theorem ap9:ZL Pq kC ⟨true,[4,3,2,1],[]⟩:=bg rfl
noncomputable abbrev dh(C:aJ)(s:WSt):Option AV:=CK C 0 (aO [.cell 2 4 true]) [.sq Pq,.bk 0 ⟨true,[3,2,1],[]⟩,.sq wZ] kC s
def Pm:aB:=zd (r (O 4 [i (-1)]))
def xC:aB:=zd (s (s (O 6 [m 5,m 0,ln 1 7,lt 6 8]) (cc 9 (w .skip) (ee 0))) (s (B 1 (s (O 12 [m 0,m 5,ix 4 12 13,f 0 14,l 1 15,m 1,eq 16 17]) (c 18 (r (O 19 [m 5,d 4 (m 19)]))))) (O 10 [m 5,adi 10 1,d 5 (m 11)])))
def PX:aB:=.loop ⟨true,[5,1,0],[]⟩ xC
def aht:WFn:=⟨2,[.tmp 4],zd (s (O 4 [i 0]) (s (s (O 5 [i 0]) (bk 0 PX ⟨true,[],[]⟩)) Pm))⟩
@[simp] theorem aq8:ZL PX xC ⟨true,[5,1,0],[]⟩:=bg rfl
noncomputable abbrev CP(C:aJ)(s:WSt):Option AV:=CK C 0 (aO [.tmp 4]) [.sq PX,.bk 0 ⟨true,[],[]⟩,.sq Pm] xC s
def Qd:aB:=zd (s (s (O 41 [m 5,eqi 41 1]) (c 42 (r (O 4 [i 0])))) (r (O 4 [i 6])))
def Cb:aB:=zd (s (s (O 26 [m 6,f 3 2,l 1 27,ln 1 28,lt 26 29]) (cc 30 (w .skip) (ee 0))) (s (B 1 (O 33 [m 5,f 3 2,l 1 34,m 6,ix 1 35 36,l 1 37,ca 511 [38],E (.bin .mul (T 33) (T 39)),d 5 (m 40)])) (O 31 [m 6,adi 31 1,d 6 (m 32)])))
def QE:aB:=.loop ⟨true,[6,5,2],[]⟩ Cb
def Vf:WFn:=⟨2,[.tmp 4],zd (s (O 4 [d 2 (bx 0),i 0]) (s (O 7 [f 2 2,l 1 7,ca 510 [8],d 5 (m 9)]) (s (s (Q 10 [f 0 2,l 1 10,E (.bin .eql (T 11) (.c (.int .u64 0))),m 12,z 13 (m 1),z 13 (f 1 2),z 13 (l 1 15),z 13 (E (.cvt .i64 (T 16))),z 13 (le 14 17),po 13 18,m 19,z 20 (f 3 2),z 20 (l 1 21),z 20 (ln 1 22),z 20 (gti 23 8),po 20 24] [25,5,2]) (c 25 (O 5 [i 0]))) (s (s (O 6 [i 0]) (bk 0 QE ⟨true,[5],[]⟩)) Qd))))⟩
@[simp] theorem apW:ZL QE Cb ⟨true,[6,5,2],[]⟩:=bg rfl
noncomputable abbrev Gw(C:aJ)(s:WSt):Option AV:=CK C 0 (aO [.tmp 4]) [.sq QE,.bk 0 ⟨true,[5],[]⟩,.sq Qd] Cb s
def LU:WFn:=⟨3,[.cell 6 6 true,.tmp 7],zd (s (Q 6 [d 3 (bx 0),d 4 (bx 1),E (.alloc [.int .u8 0,.str [],.str [],.ro 2 [] true,.str [],.ro 6 [] true]),i 0] [6,4,3,2]) (s (s (O 9 [m 2,lti 9 1,m 10,z 11 (m 2),z 11 (gti 12 64),po 11 13]) (c 14 (r (O 15 [E (.build [.int .u8 0,.str [],.str [],.ro 2 [] true,.str [],.ro 6 [] true] []),n (st 6 6 15),d 7 (i 1)])))) (s (s (O 16 [h 6 3,ca 408 [16],nei 17 0]) (c 18 (r (O 19 [E (.build [.int .u8 0,.str [],.str [],.ro 2 [] true,.str [],.ro 6 [] true] []),h 6 3,ca 408 [20],n (st 6 6 19),d 7 (m 21)])))) (s (s (O 22 [h 4 4,ca 512 [22],nei 23 0]) (c 24 (r (Q 25 [E (.build [.int .u8 0,.str [],.str [],.ro 2 [] true,.str [],.ro 6 [] true] []),h 4 4,ca 512 [26],n (st 6 6 25),d 7 (m 27)] [7,6])))) (s (O 28 [h 6 3,h 4 4,ca 513 [28,29],E (.idxs 6 (T 30) (N 0)),h 6 31,d 8 (E (.alloc [.int .u8 0,.str [],.str [],.ro 2 [] true,.str [],.ro 6 [] true])),n (st 6 8 32)]) (s (s (O 33 [h 6 8,ca 441 [33],nei 34 0,m 35,z 36 (h 6 8),z 36 (ca 442 [37]),z 36 (m 2),z 36 (gt 38 39),po 36 40]) (c 41 (r (O 42 [E (.build [.int .u8 0,.str [],.str [],.ro 2 [] true,.str [],.ro 6 [] true] []),n (st 6 6 42),d 7 (i 14)])))) (r (O 43 [h 6 8,n (st 6 6 43),d 7 (i 0)]))))))))⟩
def VF:WFn:=⟨2,[.tmp 4],zd (s (O 4 [d 2 (bx 0),i 0]) (s (O 7 [E (.lN 494 [T 2]),d 5 (m 7)]) (s (Q 8 [E (.lN 497 [T 2]),d 6 (m 8)] [6,5,2,1]) (s (s (O 9 [f 0 2,l 1 9,E (.bin .eql (T 10) (.c (.int .u64 0))),m 11,z 12 (f 1 2),z 12 (l 1 13),z 12 (E (.cvt .i64 (T 14))),z 12 (m 1),z 12 (ge 15 16),po 12 17,m 18,z 19 (m 5),z 19 (E (.dY (T 20) [])),z 19 (nt 21),po 19 22,m 23,z 24 (m 6),z 24 (E (.dY (T 25) [])),z 24 (nt 26),po 24 27]) (c 28 (r (O 4 [i 6])))) (r (O 4 [i 0]))))))⟩
def ahX:WFn:=⟨2,[.cell 4 6 true,.tmp 5],zd (s (O 2 [bx 0,bx 1,E (.alloc [.int .u8 0,.str [],.str [],.ro 2 [] true,.str [],.ro 6 [] true]),i 0]) (r (V 6 [f 0 2,l 1 6,f 1 3,l 1 8,ix 9 7 9,f 0 10,h 6 11,h 4 3,f 1 2,l 1 14,ca 501 [12,13,15],ex 0 16,ex 1 16,n (st 6 4 17),d 5 (m 18)] [] ⟨false,[],[]⟩)))⟩
def aiS:WFn:=⟨1,[.tmp 2],zd (s (O 2 [i 0]) (s (s (O 3 [m 0,ca 504 [3],gti 4 4611686018427387904]) (c 5 (r (O 2 [i 13])))) (r (O 2 [i 0]))))⟩
def I4:aB:=zd (r (O 31 [m 5,d 4 (m 31)]))
def xY:aB:=zd (s (Q 14 [lt 13 12] [14,13,12,11,5,2]) (s (cc 14 (w .skip) (ee 0)) (s (B 1 (s (O 15 [m 13,ix 4 11 13,h 4 16,d 7 (E (.alloc [.int .u64 0,.int .u8 0,.str [],.ro 1 [] true])),d 6 (m 15),n (st 4 7 17)]) (V 18 [m 5,m 6,h 4 7,f 0 2,l 1 21,f 1 7,l 1 23,ix 9 22 24,f 6 25,l 1 26,E (.build [.int .u64 0,.int .u8 0,.str [],.ro 1 [] true,.int .i64 0,.bool false] [(0,4,T 20),(4,1,T 27)]),ix 6 18 19,n (st 6 29 28)] [] ⟨false,[],[]⟩))) (O 30 [adi 13 1,d 13 (m 30)]))))
def OL:aB:=.loop ⟨true,[13,12,11,5,2],[]⟩ xY
def aeg:WFn:=⟨2,[.tmp 4],zd (s (O 4 [d 2 (bx 0),E (.mv (.c (.ro 6 [] true)))]) (s (O 8 [m 1,ln 1 8,E (.nK [.int .u64 0,.int .u8 0,.str [],.ro 1 [] true,.int .i64 0,.bool false] 72 (T 9) (T 9)),d 5 (m 10)]) (s (s (O 11 [m 1,ln 1 11,i 0]) (bk 0 OL ⟨true,[5],[]⟩)) I4)))⟩
@[simp] theorem apH:ZL OL xY ⟨true,[13,12,11,5,2],[]⟩:=bg rfl
noncomputable abbrev IV(C:aJ)(s:WSt):Option AV:=CK C 0 (aO [.tmp 4]) [.sq OL,.bk 0 ⟨true,[5],[]⟩,.sq I4] xY s
def aiv:WFn:=⟨1,[.tmp 2],zd (s (O 1 [bx 0,i 0]) (r (O 3 [E (.call 502 [T 1,.c (.fn 503 [])]),d 2 (m 3)])))⟩
def IZ:aB:=zd (r (O 4 [i (-1)]))
def qX:aB:=zd (s (O 9 [lt 8 7]) (s (cc 9 (w .skip) (ee 0)) (s (B 1 (s (O 10 [m 8,d 5 (m 10)]) (s (O 11 [m 1,m 0,m 5,ix 9 12 13,h 9 14,E (.dY (T 11) [T 15])]) (c 16 (r (O 17 [m 5,d 4 (m 17)])))))) (O 18 [adi 8 1,d 8 (m 18)]))))
def OX:aB:=.loop ⟨true,[8,7,1,0],[]⟩ qX
def ae6:WFn:=⟨2,[.tmp 4],zd (s (O 4 [i 0]) (s (s (O 6 [m 0,ln 1 6,i 0]) (bk 0 OX ⟨true,[],[]⟩)) IZ))⟩
@[simp] theorem aqf:ZL OX qX ⟨true,[8,7,1,0],[]⟩:=bg rfl
noncomputable abbrev oK(C:aJ)(s:WSt):Option AV:=CK C 0 (aO [.tmp 4]) [.sq OX,.bk 0 ⟨true,[],[]⟩,.sq IZ] qX s
def ajp:WFn:=⟨1,[.tmp 2],zd (s (O 2 [i 0]) (s (s (O 3 [m 0]) (c 3 (r (O 2 [i 1])))) (r (O 2 [i 0]))))⟩
def aeE:WFn:=⟨1,[.tmp 2],zd (s (O 1 [bx 0,i 0]) (s (s (O 3 [h 6 1,ca 505 [3],eqi 4 0]) (c 5 (r (O 2 [i 14])))) (r (O 2 [i 0]))))⟩
def Qb:aB:=zd (r (O 4 [i 1]))
def yA:aB:=zd (s (s (O 69 [m 6,f 5 2,l 1 70,ln 1 71,lt 69 72]) (cc 73 (w .skip) (ee 2))) (s (B 3 (s (V 76 [f 5 2,l 1 76,m 6,ix 6 77 78,h 6 79,f 5 3,l 1 81,m 6,ix 6 82 83,h 6 84,ca 415 [80,85],eqi 86 0] [] ⟨false,[],[]⟩) (c 87 (r (O 4 [i 0]))))) (O 74 [m 6,adi 74 1,d 6 (m 75)])))
def QS:aB:=.loop ⟨true,[6,3,2],[]⟩ yA
def Qc:aB:=zd (s (s (O 6 [i 0]) (bk 2 QS ⟨true,[],[]⟩)) Qb)
def uX:aB:=zd (s (s (O 51 [m 5,f 3 2,l 1 52,ln 1 53,lt 51 54]) (cc 55 (w .skip) (ee 0))) (s (B 1 (s (V 58 [f 3 2,l 1 58,m 5,ix 2 59 60,h 2 61,f 3 3,l 1 63,m 5,ix 2 64 65,h 2 66,E (.eqv 4 [1,1] true (T 62) (T 67))] [] ⟨false,[],[]⟩) (c 68 (r (O 4 [i 0]))))) (Q 56 [m 5,adi 56 1,d 5 (m 57)] [5,3,2])))
def O6:aB:=.loop ⟨true,[5,3,2],[]⟩ uX
def LC:WFn:=⟨2,[.tmp 4],zd (s (O 2 [bx 0,bx 1,i 0]) (s (s (Q 7 [f 0 2,l 1 7,f 0 3,l 1 9,ne 8 10,m 11,z 12 (f 1 2),z 12 (l 1 13),z 12 (f 1 3),z 12 (l 1 15),z 12 (ne 14 16),po 12 17,m 18,z 19 (f 2 2),z 19 (l 1 20),z 19 (f 2 3),z 19 (l 1 22),z 19 (ne 21 23),po 19 24,m 25,z 26 (f 4 2),z 26 (l 1 27),z 26 (f 4 3),z 26 (l 1 29),z 26 (ne 28 30),po 26 31,m 32,z 33 (f 3 2),z 33 (l 1 34),z 33 (ln 1 35),z 33 (f 3 3),z 33 (l 1 37),z 33 (ln 1 38),z 33 (ne 36 39),po 33 40,m 41,z 42 (f 5 2),z 42 (l 1 43),z 42 (ln 1 44),z 42 (f 5 3),z 42 (l 1 46),z 42 (ln 1 47),z 42 (ne 45 48),po 42 49] [50,3,2]) (c 50 (r (O 4 [i 0])))) (s (s (O 5 [i 0]) (bk 0 O6 ⟨true,[3,2],[]⟩)) Qc)))⟩
@[simp] theorem aqF:ZL QS yA ⟨true,[6,3,2],[]⟩:=bg rfl
noncomputable abbrev yO(C:aJ)(s:WSt):Option AV:=CK C 0 (aO [.tmp 4]) [.sq QS,.bk 2 ⟨true,[],[]⟩,.sq Qb] yA s
@[simp] theorem ap1:ZL O6 uX ⟨true,[5,3,2],[]⟩:=bg rfl
noncomputable abbrev xH(C:aJ)(s:WSt):Option AV:=CK C 0 (aO [.tmp 4]) [.sq O6,.bk 0 ⟨true,[3,2],[]⟩,.sq Qc] uX s
def ahU:WFn:=⟨3,[.cell 6 6 true],zd (s (O 6 [d 3 (bx 0),E (.alloc [.int .u8 0,.str [],.str [],.ro 2 [] true,.str [],.ro 6 [] true])]) (s (U 10 [f 0 3,l 1 10,m 1,m 2,ix 6 12 13,f 0 14,f 1 15,l 1 16,ix 9 11 17,f 0 18,h 6 19,m 1,m 2,ix 6 21 22,f 0 23,h 4 24,f 1 3,l 1 26,ca 425 [20,25,27],d 9 (m 28),ex 0 9,ex 1 9,d 7 (E (.alloc [.int .u8 0,.str [],.str [],.ro 2 [] true,.str [],.ro 6 [] true])),n (st 6 7 29),d 8 (m 30)] [(1,22),(7,22),(10,22),(15,22),(17,22),(18,22)] [7,6]) (r (O 31 [h 6 7,n (st 6 6 31)]))))⟩
def aiO:WFn:=⟨1,[.tmp 2],zd (s (O 1 [bx 0,ff]) (r (O 3 [f 8 1,l 1 3,lti 4 0,m 5,z 6 (f 8 1),z 6 (l 1 7),z 6 (gti 8 16),po 6 9,d 2 (m 10)])))⟩
def agF:WFn:=⟨2,[.tmp 4],zd (s (O 2 [bx 0,bx 1,ff]) (s (s (U 6 [f 0 3,l 1 6,E (.bin .eql (T 7) (.c (.int .u64 0))),m 8,z 9 (f 1 3),z 9 (l 1 10),z 9 (E (.cvt .i64 (T 11))),z 9 (f 3 2),z 9 (l 1 13),z 9 (ln 1 14),z 9 (ge 12 15),po 9 16,m 17,z 18 (f 2 3),z 18 (h 6 19),z 18 (ca 439 [20]),z 18 (nei 21 0),po 18 22,m 23,z 24 (f 2 3),z 24 (h 6 25),z 24 (ca 140 [26]),z 24 (f 4 2),z 24 (l 1 28),z 24 (gt 27 29),po 24 30] [(21,23)] [31,3,2]) (c 31 (r (O 4 [ff])))) (s (Q 32 [f 3 2,l 1 32,f 1 3,l 1 34,ix 9 33 35,f 0 36,h 6 37,d 5 (E (.alloc [.int .u8 0,.str [],.str [],.ro 3 [] true,.str [],.ro 6 [] true])),n (st 6 5 38)] [5,3]) (r (O 39 [f 2 3,f 0 39,l 1 40,f 0 5,l 1 42,eq 41 43,m 44,y 45 (f 2 3),y 45 (f 1 46),y 45 (l 1 47),y 45 (f 1 5),y 45 (l 1 49),y 45 (eq 48 50),pa 45 51,d 4 (m 52)])))))⟩
def ahz:WFn:=⟨2,[.tmp 4],zd (s (O 4 [ff]) (r (O 5 [m 0,m 1,ca 514 [5,6],gei 7 0,d 4 (m 8)])))⟩
def ahB:WFn:=⟨3,[.tmp 4],zd (s (O 3 [bx 0,ff]) (r (O 5 [f 1 3,l 1 5,E (.cvt .i64 (T 6)),l 1 1,ne 7 8,m 9,z 10 (h 7 2),z 10 (h 8 3),z 10 (ca 428 [11,12]),z 10 (nt 13),po 10 14,d 4 (m 15)])))⟩
def Xv:WFn:=⟨1,[.tmp 2],zd (w (.cln [.int .u64 0,.int .u8 0,.int .u8 0,.str [],.str [],.ro 2 [] true,.str [],.ro 6 [] true] 8 120))⟩
def RX:aB:=zd (r (O 28 [m 3,d 2 (m 28)]))
def D9:aB:=zd (s (O 15 [lt 14 13]) (s (cc 15 (w .skip) (ee 0)) (s (B 1 (s (O 16 [m 14,ix 8 12 14,h 8 17,d 5 (E (.alloc [.int .u64 0,.int .u8 0,.int .u8 0,.str [],.str [],.ro 2 [] true,.str [],.ro 6 [] true])),d 4 (m 16),n (st 8 5 18)]) (s (O 19 [f 2 5,h 6 19,ca 515 [20],f 2 5,n (st 6 22 21)]) (O 23 [m 3,m 4,h 8 5,ix 8 23 24,n (st 8 26 25)])))) (O 27 [adi 14 1,d 14 (m 27)]))))
def QI:aB:=.loop ⟨true,[14,13,12,3],[]⟩ D9
def acV:WFn:=⟨1,[.tmp 2],zd (s (O 2 [E (.mv (.c (.ro 8 [] true)))]) (s (s (O 6 [m 0,ln 1 6,eqi 7 0]) (c 8 (r (O 2 [E (.mv (.c (.ro 8 [] true)))])))) (s (O 9 [m 0,ln 1 9,E (.nK [.int .u64 0,.int .u8 0,.int .u8 0,.str [],.str [],.ro 2 [] true,.str [],.ro 6 [] true] 120 (T 10) (T 10)),d 3 (m 11)]) (s (s (Q 12 [m 0,ln 1 12,i 0] [14,13,12,3]) (bk 0 QI ⟨true,[3],[]⟩)) RX))))⟩
@[simp] theorem ap8:ZL QI D9 ⟨true,[14,13,12,3],[]⟩:=bg rfl
noncomputable abbrev Ib(C:aJ)(s:WSt):Option AV:=CK C 0 (aO [.tmp 2]) [.sq QI,.bk 0 ⟨true,[3],[]⟩,.sq RX] D9 s
def J4:aB:=zd (r (O 28 [m 3,d 2 (m 28)]))
def wQ:aB:=zd (s (O 15 [lt 14 13]) (s (cc 15 (w .skip) (ee 0)) (s (B 1 (s (O 16 [m 14,ix 8 12 14,h 8 17,d 5 (E (.alloc [.int .u64 0,.int .u8 0,.int .u8 0,.str [],.str [],.ro 2 [] true,.str [],.ro 6 [] true])),d 4 (m 16),n (st 8 5 18)]) (s (O 19 [f 2 5,h 6 19,ca 5035 [20],f 2 5,n (st 6 22 21)]) (O 23 [m 3,m 4,h 8 5,ix 8 23 24,n (st 8 26 25)])))) (O 27 [adi 14 1,d 14 (m 27)]))))
def JJ:aB:=.loop ⟨true,[14,13,12,3],[(9999,65537)]⟩ wQ
def Ud:WFn:=⟨1,[.tmp 2],zd (s (O 2 [E (.mv (.c (.ro 8 [] true)))]) (s (s (O 6 [m 0,ln 1 6,eqi 7 0]) (c 8 (r (O 2 [E (.mv (.c (.ro 8 [] true)))])))) (s (O 9 [m 0,ln 1 9,E (.nK [.int .u64 0,.int .u8 0,.int .u8 0,.str [],.str [],.ro 2 [] true,.str [],.ro 6 [] true] 120 (T 10) (T 10)),d 3 (m 11)]) (s (s (R 12 [m 0,ln 1 12,i 0] ⟨true,[14,13,12,3],[(9999,65537)]⟩) (bk 0 JJ ⟨true,[3],[(9999,65537)]⟩)) J4))))⟩
@[simp] theorem an2:ZL JJ wQ ⟨true,[14,13,12,3],[(9999,65537)]⟩:=bg rfl
def Ho:aB:=zd (r (O 7 [tt]))
def yt:aB:=zd (s (O 31 [lt 30 29]) (s (cc 31 (w .skip) (ee 0)) (s (B 1 (s (O 32 [m 30,d 8 (m 32)]) (s (V 33 [l 1 4,m 0,nk 34,f 5 35,l 1 36,m 8,ix 6 37 38,m 1,adi 40 1,E (.dY (T 33) [T 39,T 41]),nt 42] [] ⟨false,[],[]⟩) (c 43 (r (O 7 [ff])))))) (O 44 [adi 30 1,d 30 (m 44)]))))
def Oe:aB:=.loop ⟨true,[30,29,4,1,0],[]⟩ yt
def Jz:WFn:=⟨5,[.tmp 7],zd (s (O 7 [ff]) (s (O 9 [l 1 2,adi 9 1,n (st 1 2 10)]) (s (O 11 [l 1 3,m 1,E (.mx (T 11) (T 12)),n (st 1 3 13)]) (s (s (O 14 [m 1,gti 14 6,m 15,z 16 (l 1 2),z 16 (gti 17 64),po 16 18,m 19,z 20 (m 0),z 20 (ca 434 [21]),z 20 (nt 22),po 20 23]) (c 24 (r (O 7 [ff])))) (s (s (Q 25 [m 0,nk 25,f 5 26,l 1 27,ln 1 28,i 0] [30,29,4,1,0]) (bk 0 Oe ⟨true,[],[]⟩)) Ho)))))⟩
@[simp] theorem aqP:ZL Oe yt ⟨true,[30,29,4,1,0],[]⟩:=bg rfl
def QX:aB:=zd (r (O 2 [tt]))
def Dj:aB:=zd (s (Q 143 [lt 142 141] [143,142,141,140,0]) (s (cc 143 (w .skip) (ee 2)) (s (B 3 (s (O 144 [m 142,ix 6 140 142,h 6 145,d 6 (E (.alloc [.int .u8 0,.str [],.str [],.ro 2 [] true,.str [],.ro 6 [] true])),d 5 (m 144),n (st 6 6 146)]) (s (O 147 [f 2 6,l 1 147,E (.bin .neq (T 148) (.c (.str []))),m 149,y 150 (m 0),y 150 (nk 151),y 150 (f 5 152),y 150 (l 1 153),y 150 (m 5),y 150 (E (.slice 6 (T 154) none (some (T 155)) none)),y 150 (E (.lN 519 [T 6])),y 150 (ca 518 [156,157]),pa 150 158]) (c 159 (r (O 2 [ff])))))) (O 160 [adi 142 1,d 142 (m 160)]))))
def Qh:aB:=.loop ⟨true,[142,141,140,0],[]⟩ Dj
def SA:aB:=zd (s (s (O 137 [m 0,nk 137,f 5 138,l 1 139,ln 1 140,i 0]) (bk 2 Qh ⟨true,[],[]⟩)) QX)
def AY:aB:=zd (s (O 104 [lt 103 102]) (s (cc 104 (w .skip) (ee 0)) (s (B 1 (s (O 105 [m 103,ix 2 101 103,h 2 106,d 4 (E (.alloc [.str [],.str []])),d 3 (m 105),n (st 2 4 107)]) (s (U 108 [f 0 4,l 1 108,ca 517 [109],nt 110,m 111,z 112 (f 1 4),z 112 (l 1 113),z 112 (ca 516 [114]),z 112 (nt 115),po 112 116,m 117,z 118 (m 3),z 118 (gti 119 0),z 118 (m 120),y 121 (f 0 4),y 121 (l 1 122),y 121 (m 0),y 121 (nk 124),y 121 (f 3 125),y 121 (l 1 126),y 121 (m 3),y 121 (sbi 128 1),y 121 (ix 2 127 129),y 121 (f 0 130),y 121 (l 1 131),y 121 (le 123 132),z 118 (pa 121 133),po 118 134] [] [135,103,102,101,0]) (c 135 (r (O 2 [ff])))))) (O 136 [adi 103 1,d 103 (m 136)]))))
def Pz:aB:=.loop ⟨true,[103,102,101,0],[]⟩ AY
def zh:WFn:=⟨1,[.tmp 2],zd (s (O 2 [ff]) (s (s (O 7 [m 0,nk 7,f 0 8,l 1 9,E (.bin .eql (T 10) (.c (.int .u8 2)))]) (c 11 (r (Q 12 [m 0,nk 12,f 4 13,l 1 14,ca 516 [15],m 16,y 17 (m 0),y 17 (nk 18),y 17 (f 1 19),y 17 (l 1 20),y 17 (E (.bin .eql (T 21) (.c (.str [])))),pa 17 22,m 23,y 24 (m 0),y 24 (nk 25),y 24 (f 2 26),y 24 (l 1 27),y 24 (E (.bin .eql (T 28) (.c (.str [])))),pa 24 29,m 30,y 31 (m 0),y 31 (nk 32),y 31 (f 3 33),y 31 (l 1 34),y 31 (ln 1 35),y 31 (eqi 36 0),pa 31 37,m 38,y 39 (m 0),y 39 (nk 40),y 39 (f 5 41),y 39 (l 1 42),y 39 (ln 1 43),y 39 (eqi 44 0),pa 39 45,d 2 (m 46)] [2])))) (s (s (Q 47 [m 0,nk 47,f 0 48,l 1 49,E (.bin .neq (T 50) (.c (.int .u8 1))),m 51,z 52 (m 0),z 52 (nk 53),z 52 (f 1 54),z 52 (l 1 55),z 52 (ca 517 [56]),z 52 (nt 57),po 52 58,m 59,z 60 (m 0),z 60 (nk 61),z 60 (f 2 62),z 60 (l 1 63),z 60 (E (.bin .neq (T 64) (.c (.str [])))),z 60 (m 65),y 66 (m 0),y 66 (nk 67),y 66 (f 2 68),y 66 (l 1 69),y 66 (ca 517 [70]),y 66 (nt 71),z 60 (pa 66 72),po 60 73,m 74,z 75 (m 0),z 75 (nk 76),z 75 (f 4 77),z 75 (l 1 78),z 75 (E (.bin .neq (T 79) (.c (.str [])))),po 75 80,m 81,z 82 (m 0),z 82 (nk 83),z 82 (f 3 84),z 82 (l 1 85),z 82 (ln 1 86),z 82 (gti 87 8),po 82 88,m 89,z 90 (m 0),z 90 (nk 91),z 90 (f 5 92),z 90 (l 1 93),z 90 (ln 1 94),z 90 (gti 95 16),po 90 96] [97,0]) (c 97 (r (O 2 [ff])))) (s (s (O 98 [m 0,nk 98,f 3 99,l 1 100,ln 1 101,i 0]) (bk 0 Pz ⟨true,[0],[]⟩)) SA))))⟩
@[simp] theorem aqY:ZL Qh Dj ⟨true,[142,141,140,0],[]⟩:=bg rfl
noncomputable abbrev I7(C:aJ)(s:WSt):Option AV:=CK C 0 (aO [.tmp 2]) [.sq Qh,.bk 2 ⟨true,[],[]⟩,.sq QX] Dj s
@[simp] theorem ard:ZL Pz AY ⟨true,[103,102,101,0],[]⟩:=bg rfl
noncomputable abbrev CU(C:aJ)(s:WSt):Option AV:=CK C 0 (aO [.tmp 2]) [.sq Pz,.bk 0 ⟨true,[0],[]⟩,.sq SA] AY s
def OG:aB:=zd (r (O 6 [i 0]))
def DV:aB:=zd (s (s (O 8 [m 7,m 2,ln 1 9,lt 8 10]) (cc 11 (w .skip) (ee 0))) (s (B 1 (s (U 14 [m 1,m 2,m 7,ix 1 15 16,l 1 17,ix 6 14 18,f 0 19,f 0 20,l 1 21,f 0 3,l 1 23,eq 22 24,m 25,y 26 (m 1),y 26 (m 2),y 26 (m 7),y 26 (ix 1 28 29),y 26 (l 1 30),y 26 (ix 6 27 31),y 26 (f 0 32),y 26 (f 1 33),y 26 (l 1 34),y 26 (f 1 3),y 26 (l 1 36),y 26 (eq 35 37),pa 26 38] [] [39,7,3,2,1]) (c 39 (r (O 6 [i 1]))))) (O 12 [m 7,adi 12 1,d 7 (m 13)])))
def RU:aB:=.loop ⟨true,[7,3,2,1],[]⟩ DV
def agc:WFn:=⟨3,[.tmp 6],zd (s (O 6 [d 3 (bx 0),i 0]) (s (s (O 7 [i 0]) (bk 0 RU ⟨true,[],[]⟩)) OG))⟩
@[simp] theorem arv:ZL RU DV ⟨true,[7,3,2,1],[]⟩:=bg rfl
noncomputable abbrev Hq(C:aJ)(s:WSt):Option AV:=CK C 0 (aO [.tmp 6]) [.sq RU,.bk 0 ⟨true,[],[]⟩,.sq OG] DV s
def Qy:aB:=zd (r (O 4 [i (-1)]))
def BQ:aB:=zd (s (s (O 6 [m 5,m 0,ln 1 7,lt 6 8]) (cc 9 (w .skip) (ee 0))) (s (B 1 (s (O 12 [m 0,m 5,ix 8 12 13,f 0 14,l 1 15,m 1,eq 16 17]) (c 18 (r (O 19 [m 5,d 4 (m 19)]))))) (O 10 [m 5,adi 10 1,d 5 (m 11)])))
def SB:aB:=.loop ⟨true,[5,1,0],[]⟩ BQ
def ah2:WFn:=⟨2,[.tmp 4],zd (s (O 4 [i 0]) (s (s (O 5 [i 0]) (bk 0 SB ⟨true,[],[]⟩)) Qy))⟩
@[simp] theorem ap5:ZL SB BQ ⟨true,[5,1,0],[]⟩:=bg rfl
noncomputable abbrev Il(C:aJ)(s:WSt):Option AV:=CK C 0 (aO [.tmp 4]) [.sq SB,.bk 0 ⟨true,[],[]⟩,.sq Qy] BQ s
def Ru:aB:=zd (r (O 4 [i 1]))
def Dq:aB:=zd (s (s (O 11 [m 5,m 0,ln 1 12,lt 11 13]) (cc 14 (w .skip) (ee 0))) (s (B 1 (s (U 17 [m 0,m 5,ix 8 17 18,f 0 19,l 1 20,m 1,m 5,ix 8 22 23,f 0 24,l 1 25,ne 21 26,m 27,z 28 (m 0),z 28 (m 5),z 28 (ix 8 29 30),z 28 (f 1 31),z 28 (l 1 32),z 28 (m 1),z 28 (m 5),z 28 (ix 8 34 35),z 28 (f 1 36),z 28 (l 1 37),z 28 (ne 33 38),po 28 39,m 40,z 41 (m 0),z 41 (m 5),z 41 (ix 8 42 43),z 41 (f 2 44),z 41 (h 6 45),z 41 (m 1),z 41 (m 5),z 41 (ix 8 47 48),z 41 (f 2 49),z 41 (h 6 50),z 41 (ca 415 [46,51]),z 41 (eqi 52 0),po 41 53] [] [54,5,1,0]) (c 54 (r (O 4 [i 0]))))) (O 15 [m 5,adi 15 1,d 5 (m 16)])))
def QD:aB:=.loop ⟨true,[5,1,0],[]⟩ Dq
def afN:WFn:=⟨2,[.tmp 4],zd (s (O 4 [i 0]) (s (s (O 6 [m 0,ln 1 6,m 1,ln 1 8,ne 7 9]) (c 10 (r (O 4 [i 0])))) (s (s (O 5 [i 0]) (bk 0 QD ⟨true,[],[]⟩)) Ru)))⟩
@[simp] theorem arw:ZL QD Dq ⟨true,[5,1,0],[]⟩:=bg rfl
noncomputable abbrev IG(C:aJ)(s:WSt):Option AV:=CK C 0 (aO [.tmp 4]) [.sq QD,.bk 0 ⟨true,[],[]⟩,.sq Ru] Dq s
def Dx:aB:=zd (V 31 [l 1 3,m 0,E (.slice 1 (T 32) (some (N 1)) none none),E (.dY (T 31) [T 33])] [] ⟨false,[],[]⟩)
def Af:aB:=zd (s (O 15 [lt 14 13]) (s (cc 15 (w .skip) (ee 0)) (s (B 1 (s (Q 16 [ix 8 12 14,h 8 16,d 6 (E (.alloc [.int .u64 0,.int .u8 0,.int .u8 0,.str [],.str [],.ro 2 [] true,.str [],.ro 6 [] true])),n (st 8 6 17)] [14,13,12,6,3,2,1,0]) (s (O 18 [l 1 1,m 18,y 19 (f 2 6),y 19 (h 6 20),y 19 (ca 439 [21]),y 19 (eqi 22 0),pa 19 23,n (st 1 1 24)]) (V 25 [l 1 2,f 2 6,h 6 26,ca 140 [27],ad 25 28,n (st 1 2 29)] [(0,3)] ⟨false,[],[]⟩)))) (O 30 [adi 14 1,d 14 (m 30)]))))
def Og:aB:=.loop ⟨true,[14,13,12,3,2,1,0],[]⟩ Af
def Qa:WFn:=⟨4,[],zd (s (s (O 7 [m 0,ln 1 7,eqi 8 0]) (c 9 (w .ret))) (s (s (O 10 [m 0,E (.idxs 1 (T 10) (N 0)),l 1 11,ln 1 12,i 0]) (bk 0 Og ⟨true,[3,0],[]⟩)) Dx))⟩
@[simp] theorem aqA:ZL Og Af ⟨true,[14,13,12,3,2,1,0],[]⟩:=bg rfl
def afy:WFn:=⟨1,[.tmp 2],zd (s (O 1 [bx 0,i 0]) (s (s (O 3 [h 6 1,ca 140 [3],eqi 4 0]) (c 5 (r (O 2 [i 14])))) (r (O 2 [i 0]))))⟩
def agW:WFn:=⟨3,[.tmp 6],zd (s (O 3 [bx 0,bx 1,d 6 (i 0)]) (s (s (Q 7 [f 0 4,l 1 7,E (.bin .eql (T 8) (.c (.int .u64 0))),m 9,z 10 (f 1 4),z 10 (l 1 11),z 10 (E (.cvt .i64 (T 12))),z 10 (m 2),z 10 (ne 13 14),po 10 15,m 16,z 17 (m 2),z 17 (f 3 3),z 17 (l 1 19),z 17 (ln 1 20),z 17 (ge 18 21),po 17 22,m 23,z 24 (f 2 4),z 24 (h 6 25),z 24 (ca 441 [26]),z 24 (gti 27 0),po 24 28] [29,4,3,2]) (c 29 (r (O 6 [i 0])))) (s (s (U 30 [f 2 4,h 6 30,ca 442 [31],f 4 3,l 1 33,gt 32 34,m 35,z 36 (f 2 4),z 36 (f 0 37),z 36 (l 1 38),z 36 (f 3 3),z 36 (l 1 40),z 36 (m 2),z 36 (ix 9 41 42),z 36 (f 0 43),z 36 (f 0 44),z 36 (l 1 45),z 36 (ne 39 46),po 36 47,m 48,z 49 (f 2 4),z 49 (f 1 50),z 49 (l 1 51),z 49 (f 3 3),z 49 (l 1 53),z 49 (m 2),z 49 (ix 9 54 55),z 49 (f 0 56),z 49 (f 1 57),z 49 (l 1 58),z 49 (ne 52 59),po 49 60] [(2,4)] [61]) (c 61 (r (O 6 [i 0])))) (r (O 6 [i 1])))))⟩
def afU:WFn:=⟨1,[.tmp 2],zd (s (O 1 [bx 0,i 0]) (s (s (O 3 [h 6 1,ca 442 [3],eqi 4 0]) (c 5 (r (O 2 [i 14])))) (r (O 2 [i 0]))))⟩
def adH:WFn:=⟨1,[.tmp 2],zd (s (O 1 [bx 0,i 0]) (s (O 4 [h 6 1,E (.call 520 [T 4,N 6]),d 3 (m 5)]) (s (s (O 6 [m 3,gti 6 64]) (c 7 (r (O 2 [i 0])))) (r (O 8 [m 3,d 2 (m 8)])))))⟩
def aiW:WFn:=⟨2,[.tmp 4],zd (s (O 4 [ff]) (r (O 5 [m 0,m 1,E (.call 521 [T 5,T 6,.c (.fn 522 [])]),d 4 (m 7)])))⟩
def OD:aB:=zd (r (O 6 [tt]))
def xJ:aB:=zd (s (O 18 [lt 17 16]) (s (cc 18 (w .skip) (ee 0)) (s (B 1 (s (O 19 [m 17,ix 1 15 17,l 1 20,d 7 (m 19),d 8 (m 21)]) (s (O 22 [m 1,m 7,ix 1 22 23,l 1 24,d 9 (m 25)]) (s (O 26 [m 2,m 8,m 9,E (.dY (T 26) [T 27,T 28]),nt 29]) (c 30 (r (O 6 [ff]))))))) (O 31 [adi 17 1,d 17 (m 31)]))))
def QC:aB:=.loop ⟨true,[17,16,15,2,1],[]⟩ xJ
def aci:WFn:=⟨3,[.tmp 6],zd (s (O 6 [ff]) (s (s (O 10 [m 0,ln 1 10,m 1,ln 1 12,ne 11 13]) (c 14 (r (Q 6 [ff] [6])))) (s (s (O 15 [m 0,ln 1 15,i 0]) (bk 0 QC ⟨true,[],[]⟩)) OD)))⟩
@[simp] theorem aqu:ZL QC xJ ⟨true,[17,16,15,2,1],[]⟩:=bg rfl
noncomputable abbrev Di(C:aJ)(s:WSt):Option AV:=CK C 0 (aO [.tmp 6]) [.sq QC,.bk 0 ⟨true,[],[]⟩,.sq OD] xJ s
def ahO:aB:=zd (r (O 2 [i 1]))
def YV:aB:=zd (s (s (O 4 [m 3,m 0,ln 1 5,lt 4 6]) (cc 7 (w .skip) (ee 0))) (s (B 1 (s (U 10 [m 0,m 3,ix 1 10 11,l 1 12,lti 13 0,m 14,z 15 (m 3),z 15 (gti 16 0),z 15 (m 17),y 18 (m 0),y 18 (m 3),y 18 (sbi 20 1),y 18 (ix 1 19 21),y 18 (l 1 22),y 18 (m 0),y 18 (m 3),y 18 (ix 1 24 25),y 18 (l 1 26),y 18 (ge 23 27),z 15 (pa 18 28),po 15 29] [] [30,3,0]) (c 30 (r (O 2 [i 0]))))) (O 8 [m 3,adi 8 1,d 3 (m 9)])))
def Zg:aB:=.loop ⟨true,[3,0],[]⟩ YV
def an1:WFn:=⟨1,[.tmp 2],zd (s (O 2 [i 0]) (s (s (O 3 [i 0]) (bk 0 Zg ⟨true,[],[]⟩)) ahO))⟩
@[simp] theorem apI:ZL Zg YV ⟨true,[3,0],[]⟩:=bg rfl
def PG:aB:=zd (r (O 2 [i 1]))
def Bd:aB:=zd (s (s (O 7 [m 3,m 0,ln 0 8,lt 7 9]) (cc 10 (w .skip) (ee 0))) (s (B 1 (s (O 13 [m 0,m 3,E (.fE (T 13) (T 14)),E (.bin .lss (T 15) (.c (.int .u8 32))),m 16,z 17 (m 0),z 17 (m 3),z 17 (E (.fE (T 18) (T 19))),z 17 (E (.bin .gtr (T 20) (.c (.int .u8 126)))),po 17 21]) (c 22 (r (O 2 [i 0]))))) (O 11 [m 3,adi 11 1,d 3 (m 12)])))
def Qn:aB:=.loop ⟨true,[3,0],[]⟩ Bd
def aeA:WFn:=⟨1,[.tmp 2],zd (s (O 2 [i 0]) (s (s (Q 4 [m 0,ln 0 4,gti 5 64] [6,0]) (c 6 (r (O 2 [i 0])))) (s (s (O 3 [i 0]) (bk 0 Qn ⟨true,[],[]⟩)) PG)))⟩
@[simp] theorem apz:ZL Qn Bd ⟨true,[3,0],[]⟩:=bg rfl
noncomputable abbrev Hg(C:aJ)(s:WSt):Option AV:=CK C 0 (aO [.tmp 2]) [.sq Qn,.bk 0 ⟨true,[],[]⟩,.sq PG] Bd s
def O5:aB:=zd (r (O 2 [i 1]))
def Cj:aB:=zd (s (s (O 13 [m 3,m 0,ln 0 14,lt 13 15]) (cc 16 (w .skip) (ee 0))) (s (B 1 (s (Q 19 [m 0,m 3,E (.fE (T 19) (T 20)),d 4 (m 21)] [4,3,0]) (s (O 22 [m 4,E (.bin .geq (T 22) (.c (.int .u8 97))),m 23,y 24 (m 4),y 24 (E (.bin .leq (T 25) (.c (.int .u8 122)))),pa 24 26,m 27,z 28 (m 4),z 28 (E (.bin .geq (T 29) (.c (.int .u8 48)))),z 28 (m 30),y 31 (m 4),y 31 (E (.bin .leq (T 32) (.c (.int .u8 57)))),z 28 (pa 31 33),po 28 34,nt 35]) (c 36 (r (O 2 [i 0])))))) (O 17 [m 3,adi 17 1,d 3 (m 18)])))
def OZ:aB:=.loop ⟨true,[3,0],[]⟩ Cj
def aaE:WFn:=⟨1,[.tmp 2],zd (s (O 2 [i 0]) (s (s (O 5 [m 0,ln 0 5,lti 6 1,m 7,z 8 (m 0),z 8 (ln 0 9),z 8 (gti 10 16),po 8 11]) (c 12 (r (O 2 [i 0])))) (s (s (O 3 [i 0]) (bk 0 OZ ⟨true,[],[]⟩)) O5)))⟩
@[simp] theorem aqE:ZL OZ Cj ⟨true,[3,0],[]⟩:=bg rfl
noncomputable abbrev GV(C:aJ)(s:WSt):Option AV:=CK C 0 (aO [.tmp 2]) [.sq OZ,.bk 0 ⟨true,[],[]⟩,.sq O5] Cj s
def NP:aB:=zd (r (O 2 [i 0]))
def BJ:aB:=zd (s (s (O 19 [m 3,f 3 1,l 1 20,ln 1 21,lt 19 22]) (cc 23 (w .skip) (ee 0))) (s (B 1 (s (O 26 [f 3 1,l 1 26,m 3,ix 1 27 28,l 1 29,ca 557 [30],nt 31]) (c 32 (r (O 2 [i 6]))))) (O 24 [m 3,adi 24 1,d 3 (m 25)])))
def Rx:aB:=.loop ⟨true,[3,1],[]⟩ BJ
def X0:WFn:=⟨1,[.tmp 2],zd (s (O 1 [bx 0,i 0]) (s (s (Q 4 [f 0 1,l 1 4,E (.bin .eql (T 5) (.c (.int .u64 0))),m 6,z 7 (f 2 1),z 7 (l 1 8),z 7 (ca 556 [9]),z 7 (nt 10),po 7 11,m 12,z 13 (f 3 1),z 13 (l 1 14),z 13 (ln 1 15),z 13 (gti 16 8),po 13 17] [18,1]) (c 18 (r (O 2 [i 6])))) (s (s (O 3 [i 0]) (bk 0 Rx ⟨true,[],[]⟩)) NP)))⟩
@[simp] theorem aqz:ZL Rx BJ ⟨true,[3,1],[]⟩:=bg rfl
noncomputable abbrev H7(C:aJ)(s:WSt):Option AV:=CK C 0 (aO [.tmp 2]) [.sq Rx,.bk 0 ⟨true,[],[]⟩,.sq NP] BJ s
def H6:aB:=zd (r (O 89 [h 6 7,E (.aW [.int .u8 0,.str [],.str [],.ro 2 [] true,.str [],.ro 6 [] true] 1 [(0,T 89)]),d 4 (m 90)]))
def oI:aB:=zd (s (s (O 71 [m 8,f 5 2,l 1 72,ln 1 73,lt 71 74]) (cc 75 (w .skip) (ee 3))) (s (B 4 (V 78 [f 5 7,l 1 78,f 5 2,l 1 80,m 8,ix 6 81 82,h 6 83,h 4 3,ca 513 [84,85],E (.app [.int .u8 0,.str [],.str [],.ro 2 [] true,.str [],.ro 6 [] true] 104 false (T 79) (T 86)),f 5 7,n (st 1 88 87)] [(1,8)] ⟨false,[],[]⟩)) (O 76 [m 8,adi 76 1,d 8 (m 77)])))
def SC:aB:=.loop ⟨true,[8,7,3,2],[]⟩ oI
def Qv:aB:=zd (s (V 62 [f 1 2,l 1 62,f 2 2,l 1 64,f 3 2,l 1 66,h 4 3,ca 559 [67,68],E (.build [.int .u8 0,.str [],.str [],.ro 2 [] true,.str [],.ro 6 [] true] [(0,1,.c (.int .u8 1)),(1,1,T 63),(2,1,T 65),(3,1,T 69)]),d 7 (E (.alloc [.int .u8 0,.str [],.str [],.ro 2 [] true,.str [],.ro 6 [] true])),n (st 6 7 70)] [(1,7),(3,7),(1,9),(3,9),(5,9),(6,9),(7,9)] ⟨false,[],[]⟩) (s (s (Q 8 [i 0] [8,7,3,2]) (bk 3 SC ⟨true,[7],[]⟩)) H6))
def lJ:aB:=zd (r (O 61 [m 5,d 4 (m 61)]))
def kD:aB:=zd (s (s (O 32 [m 6,f 3 3,l 1 33,ln 1 34,lt 32 35]) (cc 36 (w .skip) (ee 1))) (s (B 2 (U 39 [m 5,f 1 2,l 1 40,f 3 3,l 1 42,m 6,ix 1 43 44,l 1 45,f 3 2,l 1 47,h 4 3,ca 559 [48,49],f 3 3,l 1 51,m 6,ix 1 52 53,l 1 54,E (.build [.int .u8 0,.str [],.str [],.ro 2 [] true,.str [],.ro 6 [] true] [(0,1,.c (.int .u8 2)),(4,1,T 55)]),E (.aW [.int .u8 0,.str [],.str [],.ro 2 [] true,.str [],.ro 6 [] true] 1 [(0,T 56)]),E (.build [.int .u8 0,.str [],.str [],.ro 2 [] true,.str [],.ro 6 [] true] [(0,1,.c (.int .u8 1)),(1,1,T 41),(2,1,T 46),(3,1,T 50),(5,1,T 57)]),E (.aW [.int .u8 0,.str [],.str [],.ro 2 [] true,.str [],.ro 6 [] true] 1 [(0,T 58)]),E (.app [.int .u8 0,.str [],.str [],.ro 2 [] true,.str [],.ro 6 [] true] 104 false (T 39) (T 59)),d 5 (m 60)] [(2,11),(4,11),(7,11),(11,13),(11,16),(2,18),(4,18),(7,18),(9,18),(10,18),(11,18)] [6,5,3,2])) (O 37 [m 6,adi 37 1,d 6 (m 38)])))
def Py:aB:=.loop ⟨true,[6,5,3,2],[]⟩ kD
def Vs:WFn:=⟨2,[.tmp 4],zd (s (O 2 [bx 0,bx 1,E (.mv (.c (.ro 6 [] true)))]) (s (s (O 9 [f 0 2,l 1 9]) (bk 0 (s (O 12 [E (.bin .eql (T 10) (.c (.int .u8 2))),d 11 (m 12)]) (cc 11 (r (O 13 [f 4 2,l 1 13,E (.build [.int .u8 0,.str [],.str [],.ro 2 [] true,.str [],.ro 6 [] true] [(0,1,.c (.int .u8 2)),(4,1,T 14)]),E (.aW [.int .u8 0,.str [],.str [],.ro 2 [] true,.str [],.ro 6 [] true] 1 [(0,T 15)]),d 4 (m 16)])) (s (O 18 [E (.bin .eql (T 10) (.c (.int .u8 3))),d 17 (m 18)]) (cc 17 (r (O 19 [f 2 3,l 1 19,E (.build [.int .u8 0,.str [],.str [],.ro 2 [] true,.str [],.ro 6 [] true] [(0,1,.c (.int .u8 2)),(4,1,T 20)]),E (.aW [.int .u8 0,.str [],.str [],.ro 2 [] true,.str [],.ro 6 [] true] 1 [(0,T 21)]),d 4 (m 22)])) (s (O 24 [E (.bin .eql (T 10) (.c (.int .u8 4))),d 23 (m 24)]) (cc 23 (r (Q 25 [f 0 3,l 1 25,ca 558 [26],E (.build [.int .u8 0,.str [],.str [],.ro 2 [] true,.str [],.ro 6 [] true] [(0,1,.c (.int .u8 2)),(4,1,T 27)]),E (.aW [.int .u8 0,.str [],.str [],.ro 2 [] true,.str [],.ro 6 [] true] 1 [(0,T 28)]),d 4 (m 29)] [4])) (s (O 31 [E (.bin .eql (T 10) (.c (.int .u8 5))),d 30 (m 31)]) (c 30 (s (R 5 [E (.mv (.c (.ro 6 [] true)))] ⟨true,[5,3,2],[(5,6)]⟩) (s (s (O 6 [i 0]) (bk 1 Py ⟨true,[5],[]⟩)) lJ)))))))))) ⟨true,[3,2],[]⟩)) Qv))⟩
@[simp] theorem arh:ZL SC oI ⟨true,[8,7,3,2],[]⟩:=bg rfl
noncomputable abbrev oC(C:aJ)(s:WSt):Option AV:=CK C 0 (aO [.tmp 4]) [.sq SC,.bk 3 ⟨true,[7],[]⟩,.sq H6] oI s
@[simp] theorem apx:ZL Py kD ⟨true,[6,5,3,2],[]⟩:=bg rfl
noncomputable abbrev dF(C:aJ)(s:WSt):Option AV:=CK C 0 (aO [.tmp 4]) [.sq Py,.bk 1 ⟨true,[5],[]⟩,.sq lJ,.bk 0 ⟨true,[3,2],[]⟩,.sq Qv] kD s
def ach:WFn:=⟨1,[.tmp 1],zd (s (O 1 [ff]) (r (O 2 [f 2 0,l 1 2,ln 0 3,lei 4 64,m 5,y 6 (f 2 0),y 6 (l 1 7),y 6 (E (.call 495 [T 8,.c (.fn 496 [])])),y 6 (nt 9),pa 6 10,d 1 (m 11)])))⟩
def acF:WFn:=⟨2,[.tmp 4],zd (s (O 4 [ff]) (r (O 5 [m 0,m 1,ca 543 [5,6],gei 7 0,d 4 (m 8)])))⟩
def XE:WFn:=⟨1,[.tmp 2],zd (s (O 2 [ff]) (r (O 3 [m 0,E (.bin .lss (T 3) (.c (.int .i32 32))),m 4,z 5 (m 0),z 5 (E (.bin .gtr (T 6) (.c (.int .i32 126)))),po 5 7,d 2 (m 8)])))⟩
def afJ:WFn:=⟨1,[.tmp 1],zd (s (O 1 [ff]) (r (O 2 [f 3 0,l 1 2,ln 1 3,lei 4 8,m 5,y 6 (f 3 0),y 6 (l 1 7),y 6 (E (.call 498 [T 8,.c (.fn 499 [])])),y 6 (nt 9),pa 6 10,d 1 (m 11)])))⟩
def abY:WFn:=⟨2,[.tmp 4],zd (s (O 4 [ff]) (r (O 5 [m 0,m 1,ca 544 [5,6],gei 7 0,d 4 (m 8)])))⟩
def ag8:WFn:=⟨1,[.tmp 2],zd (s (O 2 [ff]) (r (O 3 [m 0,ca 500 [3],nt 4,d 2 (m 5)])))⟩
def aat:WFn:=⟨1,[.tmp 2],zd (s (O 2 [ff]) (s (O 3 [E (.mv (.c (.fn 545 [])))]) (r (O 4 [m 0,E (.bin .neq (T 4) (.c (.str []))),m 5,y 6 (m 0),y 6 (ln 0 7),y 6 (lei 8 16),pa 6 9,m 10,y 11 (m 0),y 11 (m 3),y 11 (ca 495 [12,13]),y 11 (nt 14),pa 11 15,d 2 (m 16)]))))⟩
def LP:WFn:=⟨3,[.cell 6 6 true,.tmp 7],zd (s (O 6 [d 3 (bx 0),d 4 (bx 1),E (.alloc [.int .u8 0,.str [],.str [],.ro 2 [] true,.str [],.ro 6 [] true]),i 0]) (s (s (Q 12 [m 2,lti 12 1,m 13,z 14 (m 2),z 14 (gti 15 64),po 14 16] [17,6,4,3,2]) (c 17 (r (O 18 [E (.build [.int .u8 0,.str [],.str [],.ro 2 [] true,.str [],.ro 6 [] true] []),n (st 6 6 18),d 7 (i 1)])))) (s (s (O 19 [h 6 3,ca 231 [19],d 8 (m 20)]) (s (O 21 [m 8,nei 21 0]) (c 22 (r (O 23 [E (.build [.int .u8 0,.str [],.str [],.ro 2 [] true,.str [],.ro 6 [] true] []),m 8,n (st 6 6 23),d 7 (m 24)]))))) (s (s (O 25 [h 4 4,ca 546 [25],d 9 (m 26)]) (s (O 27 [m 9,nei 27 0]) (c 28 (r (O 29 [E (.build [.int .u8 0,.str [],.str [],.ro 2 [] true,.str [],.ro 6 [] true] []),m 9,n (st 6 6 29),d 7 (m 30)]))))) (s (Q 31 [h 4 4,E (.build [.int .u64 0,.int .u8 0,.str [],.ro 1 [] true] [(0,4,T 31)]),h 6 3,E (.aW [.int .u8 0,.str [],.str [],.ro 3 [] true,.str [],.ro 6 [] true] 1 [(0,T 33)]),ca 547 [32,34],E (.idxs 6 (T 35) (N 0)),h 6 36,d 10 (E (.alloc [.int .u8 0,.str [],.str [],.ro 2 [] true,.str [],.ro 6 [] true])),n (st 6 10 37)] [10,6,2]) (s (s (O 38 [h 6 10,ca 140 [38],d 11 (m 39)]) (s (O 40 [m 11,eqi 40 0,m 41,z 42 (m 11),z 42 (m 2),z 42 (gt 43 44),po 42 45]) (c 46 (r (O 47 [E (.build [.int .u8 0,.str [],.str [],.ro 2 [] true,.str [],.ro 6 [] true] []),n (st 6 6 47),d 7 (i 14)]))))) (r (O 48 [h 6 10,n (st 6 6 48),d 7 (i 0)]))))))))⟩
def Rz:aB:=zd (r (O 27 [m 3,E (.cvt .i64 (T 27)),d 2 (m 28)]))
def uQ:aB:=zd (s (s (O 5 [m 4,m 0,ln 1 6,lt 5 7]) (cc 8 (w .skip) (ee 0))) (s (B 1 (s (s (Q 11 [m 0,m 4,ix 6 11 12,f 4 13,l 1 14,gti 15 0] [16,4,3,0]) (c 16 (O 17 [m 3,m 0,m 4,ix 6 18 19,f 4 20,l 1 21,E (.cvt .u64 (T 22)),ad 17 23,d 3 (m 24)]))) (s (O 25 [m 3,E (.bin .gtr (T 25) (.c (.int .u64 4611686018427387904)))]) (c 26 (r (O 2 [i 4611686018427387905])))))) (O 9 [m 4,adi 9 1,d 4 (m 10)])))
def N7:aB:=.loop ⟨true,[4,3,0],[]⟩ uQ
def aiG:WFn:=⟨1,[.tmp 2],zd (s (O 2 [i 0]) (s (O 3 [E (.mv (.c (.int .u64 0)))]) (s (s (O 4 [i 0]) (bk 0 N7 ⟨true,[3],[]⟩)) Rz)))⟩
@[simp] theorem arA:ZL N7 uQ ⟨true,[4,3,0],[]⟩:=bg rfl
noncomputable abbrev xk(C:aJ)(s:WSt):Option AV:=CK C 0 (aO [.tmp 2]) [.sq N7,.bk 0 ⟨true,[3],[]⟩,.sq Rz] uQ s
def aes:WFn:=⟨2,[.tmp 4],zd (s (O 3 [bx 1,i 0]) (s (s (O 7 [m 0,nk 7,f 0 8,l 1 9,E (.bin .neq (T 10) (.c (.int .u8 1)))]) (c 11 (r (O 4 [i 0])))) (s (O 5 [E (.alloc [.int .i64 0]),n (E (.store 1 (T 5) (N 0)))]) (s (O 6 [E (.alloc [.dW])]) (s (O 12 [E (.lN 548 [T 5,T 3,T 6]),n (st 1 6 12)]) (s (s (O 13 [l 1 6,m 0,E (.dY (T 13) [T 14,N 1]),nt 15]) (c 16 (r (O 4 [i 0])))) (r (O 17 [l 1 5,d 4 (m 17)]))))))))⟩
def ahC:WFn:=⟨1,[],zd (w .skip)⟩
def aaV:WFn:=⟨1,[.tmp 2],zd (s (O 1 [bx 0,i 0]) (s (O 4 [h 6 1,E (.call 550 [T 4,N 6]),d 3 (m 5)]) (s (s (O 6 [f 0 1,l 1 6,E (.bin .neq (T 7) (.c (.int .u8 1))),m 8,z 9 (m 3),z 9 (gti 10 64),po 9 11]) (c 12 (r (O 2 [i 0])))) (r (O 13 [m 3,d 2 (m 13)])))))⟩
def Pg:aB:=zd (s (O 35 [m 5,f 5 2,n (st 1 36 35)]) (r (O 37 [h 6 2,n (st 6 4 37)])))
def CO:aB:=zd (s (O 24 [lt 23 22]) (s (cc 24 (w .skip) (ee 0)) (s (B 1 (s (O 25 [m 23,ix 6 21 23,h 6 26,d 7 (E (.alloc [.int .u8 0,.str [],.str [],.ro 2 [] true,.str [],.ro 6 [] true])),d 6 (m 25),n (st 6 7 27)]) (O 28 [m 5,m 6,h 6 7,m 1,ca 507 [30,31],ix 6 28 29,n (st 6 33 32)]))) (O 34 [adi 23 1,d 23 (m 34)]))))
def OH:aB:=.loop ⟨true,[23,22,21,5,4,2,1],[]⟩ CO
def aiC:WFn:=⟨2,[.cell 4 6 true],zd (s (O 4 [d 2 (bx 0),E (.alloc [.int .u8 0,.str [],.str [],.ro 2 [] true,.str [],.ro 6 [] true])]) (s (s (O 8 [m 1,nt 8]) (c 9 (O 10 [f 2 2,n (E (.store 1 (T 10) (.c (.str []))))]))) (s (O 11 [f 3 2,l 1 11,ca 554 [12],ca 553 [13],f 3 2,n (st 1 15 14)]) (s (O 16 [f 5 2,l 1 16,ln 1 17,E (.nK [.int .u8 0,.str [],.str [],.ro 2 [] true,.str [],.ro 6 [] true] 104 (T 18) (T 18)),d 5 (m 19)]) (s (s (Q 20 [f 5 2,l 1 20,ln 1 21,i 0] [23,22,21,5,4,2,1]) (bk 0 OH ⟨true,[5,4,2],[]⟩)) Pg)))))⟩
@[simp] theorem aqQ:ZL OH CO ⟨true,[23,22,21,5,4,2,1],[]⟩:=bg rfl
noncomputable abbrev Ip(C:aJ)(s:WSt):Option AV:=CK C 0 (aO [.cell 4 6 true]) [.sq OH,.bk 0 ⟨true,[5,4,2],[]⟩,.sq Pg] CO s
def Jh:aB:=zd (s (O 35 [m 5,f 5 2,n (st 1 36 35)]) (r (O 37 [h 6 2,n (st 6 4 37)])))
def wK:aB:=zd (s (O 24 [lt 23 22]) (s (cc 24 (w .skip) (ee 0)) (s (B 1 (s (O 25 [m 23,ix 6 21 23,h 6 26,d 7 (E (.alloc [.int .u8 0,.str [],.str [],.ro 2 [] true,.str [],.ro 6 [] true])),d 6 (m 25),n (st 6 7 27)]) (O 28 [m 5,m 6,h 6 7,m 1,ca 507 [30,31],ix 6 28 29,n (st 6 33 32)]))) (O 34 [adi 23 1,d 23 (m 34)]))))
def Ji:aB:=.loop ⟨true,[23,22,21,5,4,2,1],[(9999,65537)]⟩ wK
def Y5:WFn:=⟨2,[.cell 4 6 true],zd (s (O 4 [d 2 (bx 0),E (.alloc [.int .u8 0,.str [],.str [],.ro 2 [] true,.str [],.ro 6 [] true])]) (s (s (O 8 [m 1,nt 8]) (c 9 (O 10 [f 2 2,n (E (.store 1 (T 10) (.c (.str []))))]))) (s (O 11 [f 3 2,l 1 11,ca 554 [12],ca 553 [13],f 3 2,n (st 1 15 14)]) (s (O 16 [f 5 2,l 1 16,ln 1 17,E (.nK [.int .u8 0,.str [],.str [],.ro 2 [] true,.str [],.ro 6 [] true] 104 (T 18) (T 18)),d 5 (m 19)]) (s (s (R 20 [f 5 2,l 1 20,ln 1 21,i 0] ⟨true,[23,22,21,5,4,2,1],[(9999,65537)]⟩) (bk 0 Ji ⟨true,[5,4,2],[(9999,65537)]⟩)) Jh)))))⟩
@[simp] theorem an7:ZL Ji wK ⟨true,[23,22,21,5,4,2,1],[(9999,65537)]⟩:=bg rfl
def OM:aB:=zd (r (O 4 [i (-1)]))
def DL:aB:=zd (s (O 9 [lt 8 7]) (s (cc 9 (w .skip) (ee 0)) (s (B 1 (s (O 10 [m 8,d 5 (m 10)]) (s (O 11 [m 1,m 0,m 5,ix 8 12 13,h 8 14,E (.dY (T 11) [T 15])]) (c 16 (r (O 17 [m 5,d 4 (m 17)])))))) (O 18 [adi 8 1,d 8 (m 18)]))))
def RQ:aB:=.loop ⟨true,[8,7,1,0],[]⟩ DL
def aiP:WFn:=⟨2,[.tmp 4],zd (s (O 4 [i 0]) (s (s (O 6 [m 0,ln 1 6,i 0]) (bk 0 RQ ⟨true,[],[]⟩)) OM))⟩
@[simp] theorem arq:ZL RQ DL ⟨true,[8,7,1,0],[]⟩:=bg rfl
noncomputable abbrev IB(C:aJ)(s:WSt):Option AV:=CK C 0 (aO [.tmp 4]) [.sq RQ,.bk 0 ⟨true,[],[]⟩,.sq OM] DL s
def agX:WFn:=⟨1,[.cell 2 6 true],zd (s (O 1 [bx 0,E (.alloc [.int .u8 0,.str [],.str [],.ro 2 [] true,.str [],.ro 6 [] true])]) (s (s (O 3 [h 6 1,ca 439 [3],nei 4 0]) (c 5 (r (O 6 [E (.build [.int .u8 0,.str [],.str [],.ro 2 [] true,.str [],.ro 6 [] true] []),n (st 6 2 6)])))) (r (O 7 [h 6 1,E (.call 507 [T 7,.c (.bool true)]),n (st 6 2 8)]))))⟩
def Yy:WFn:=⟨1,[.cell 2 6 true],zd (s (O 1 [bx 0,E (.alloc [.int .u8 0,.str [],.str [],.ro 2 [] true,.str [],.ro 6 [] true])]) (s (s (O 3 [h 6 1,ca 439 [3],nei 4 0]) (c 5 (r (O 6 [E (.build [.int .u8 0,.str [],.str [],.ro 2 [] true,.str [],.ro 6 [] true] []),n (st 6 2 6)])))) (r (O 7 [h 6 1,E (.call 5036 [T 7,.c (.bool true)]),n (st 6 2 8)]))))⟩
def adE:WFn:=⟨1,[.tmp 2],zd (s (O 2 [ff]) (r (O 3 [m 0,ln 0 3,lei 4 64,m 5,y 6 (m 0),y 6 (E (.call 543 [T 7,.c (.fn 560 [])])),y 6 (lti 8 0),pa 6 9,d 2 (m 10)])))⟩
def Ol:aB:=zd (r (O 2 [tt]))
def Bo:aB:=zd (s (O 15 [lt 14 13]) (s (cc 15 (w .skip) (ee 0)) (s (B 1 (s (O 16 [m 14,d 3 (m 16)]) (s (O 17 [m 0,m 3,E (.fE (T 17) (T 18)),ca 561 [19],nt 20]) (c 21 (r (O 2 [ff])))))) (O 22 [adi 14 1,d 14 (m 22)]))))
def RI:aB:=.loop ⟨true,[14,13,0],[]⟩ Bo
def ZT:WFn:=⟨1,[.tmp 2],zd (s (O 2 [ff]) (s (s (Q 4 [m 0,ln 0 4,lti 5 1,m 6,z 7 (m 0),z 7 (ln 0 8),z 7 (gti 9 16),po 7 10] [11,0]) (c 11 (r (O 2 [ff])))) (s (s (O 12 [m 0,ln 0 12,i 0]) (bk 0 RI ⟨true,[],[]⟩)) Ol)))⟩
@[simp] theorem aqD:ZL RI Bo ⟨true,[14,13,0],[]⟩:=bg rfl
noncomputable abbrev IX(C:aJ)(s:WSt):Option AV:=CK C 0 (aO [.tmp 2]) [.sq RI,.bk 0 ⟨true,[],[]⟩,.sq Ol] Bo s
def afK:WFn:=⟨2,[.tmp 4],zd (s (O 4 [ff]) (r (O 5 [m 0,m 1,ca 562 [5,6],gei 7 0,d 4 (m 8)])))⟩
def afw:WFn:=⟨2,[.tmp 3],zd (s (O 2 [bx 0,ff]) (r (O 4 [f 2 2,l 1 4,f 2 1,l 1 6,eq 5 7,d 3 (m 8)])))⟩
def Hl:aB:=zd (r (O 35 [m 5,d 4 (m 35)]))
def yM:aB:=zd (s (s (Q 14 [m 6,f 5 2,l 1 15,ln 1 16,lt 14 17,m 18,y 19 (m 5),y 19 (lei 20 64),pa 19 21] [22,6,5,2,1]) (cc 22 (w .skip) (ee 0))) (s (B 1 (O 25 [m 5,f 5 2,l 1 26,m 6,ix 6 27 28,h 6 29,m 1,sbi 31 1,ca 520 [30,32],ad 25 33,d 5 (m 34)])) (O 23 [m 6,adi 23 1,d 6 (m 24)])))
def PU:aB:=.loop ⟨true,[6,5,2,1],[]⟩ yM
def aaI:WFn:=⟨2,[.tmp 4],zd (s (O 4 [d 2 (bx 0),i 0]) (s (s (O 7 [m 1,lti 7 1,m 8,z 9 (h 6 2),z 9 (ca 563 [10]),z 9 (nt 11),po 9 12]) (c 13 (r (O 4 [i 1000])))) (s (O 5 [i 1]) (s (s (O 6 [i 0]) (bk 0 PU ⟨true,[5],[]⟩)) Hl))))⟩
@[simp] theorem aqC:ZL PU yM ⟨true,[6,5,2,1],[]⟩:=bg rfl
noncomputable abbrev CX(C:aJ)(s:WSt):Option AV:=CK C 0 (aO [.tmp 4]) [.sq PU,.bk 0 ⟨true,[5],[]⟩,.sq Hl] yM s
def QY:aB:=zd (r (O 6 [tt]))
def xG:aB:=zd (s (O 18 [lt 17 16]) (s (cc 18 (w .skip) (ee 0)) (s (B 1 (s (O 19 [m 17,ix 8 15 17,h 8 20,d 8 (E (.alloc [.int .u64 0,.int .u8 0,.int .u8 0,.str [],.str [],.ro 2 [] true,.str [],.ro 6 [] true])),d 7 (m 19),n (st 8 8 21)]) (s (O 22 [m 1,m 7,ix 8 22 23,h 8 24,d 9 (E (.alloc [.int .u64 0,.int .u8 0,.int .u8 0,.str [],.str [],.ro 2 [] true,.str [],.ro 6 [] true])),n (st 8 9 25)]) (s (O 26 [m 2,h 8 8,h 8 9,E (.dY (T 26) [T 27,T 28]),nt 29]) (c 30 (r (O 6 [ff]))))))) (O 31 [adi 17 1,d 17 (m 31)]))))
def Rf:aB:=.loop ⟨true,[17,16,15,2,1],[]⟩ xG
def acj:WFn:=⟨3,[.tmp 6],zd (s (O 6 [ff]) (s (s (O 10 [m 0,ln 1 10,m 1,ln 1 12,ne 11 13]) (c 14 (r (O 6 [ff])))) (s (s (Q 15 [m 0,ln 1 15,i 0] [17,16,15,2,1]) (bk 0 Rf ⟨true,[],[]⟩)) QY)))⟩
@[simp] theorem aq1:ZL Rf xG ⟨true,[17,16,15,2,1],[]⟩:=bg rfl
noncomputable abbrev Ci(C:aJ)(s:WSt):Option AV:=CK C 0 (aO [.tmp 6]) [.sq Rf,.bk 0 ⟨true,[],[]⟩,.sq QY] xG s
def ZP:WFn:=⟨2,[.tmp 4],zd (s (O 2 [bx 0,bx 1,ff]) (r (O 5 [f 0 2,l 1 5,f 0 3,l 1 7,eq 6 8,m 9,y 10 (f 1 2),y 10 (l 1 11),y 10 (f 1 3),y 10 (l 1 13),y 10 (eq 12 14),pa 10 15,m 16,y 17 (f 2 2),y 17 (h 6 18),y 17 (f 2 3),y 17 (h 6 20),y 17 (ca 523 [19,21]),pa 17 22,d 4 (m 23)])))⟩
def N8:WFn:=⟨2,[.tmp 4],zd (s (O 2 [bx 0,bx 1,ff]) (r (Q 5 [f 0 2,l 1 5,f 0 3,l 1 7,eq 6 8,m 9,y 10 (f 1 2),y 10 (l 1 11),y 10 (f 1 3),y 10 (l 1 13),y 10 (eq 12 14),pa 10 15,m 16,y 17 (f 2 2),y 17 (l 1 18),y 17 (f 2 3),y 17 (l 1 20),y 17 (eq 19 21),pa 17 22,m 23,y 24 (f 4 2),y 24 (l 1 25),y 24 (f 4 3),y 24 (l 1 27),y 24 (eq 26 28),pa 24 29,m 30,y 31 (f 3 2),y 31 (l 1 32),y 31 (f 3 3),y 31 (l 1 34),y 31 (ca 551 [33,35]),pa 31 36,m 37,y 38 (f 5 2),y 38 (l 1 39),y 38 (f 5 3),y 38 (l 1 41),y 38 (E (.call 552 [T 40,T 42,.c (.fn 523 [])])),pa 38 43,d 4 (m 44)] [4])))⟩
def Oy:aB:=zd (r (O 2 [tt]))
def Ba:aB:=zd (s (s (O 7 [m 3,m 0,ln 0 8,lt 7 9]) (cc 10 (w .skip) (ee 0))) (s (B 1 (s (O 13 [m 0,m 3,E (.fE (T 13) (T 14)),E (.bin .lss (T 15) (.c (.int .u8 32))),m 16,z 17 (m 0),z 17 (m 3),z 17 (E (.fE (T 18) (T 19))),z 17 (E (.bin .gtr (T 20) (.c (.int .u8 126)))),po 17 21]) (c 22 (r (O 2 [ff]))))) (O 11 [m 3,adi 11 1,d 3 (m 12)])))
def RZ:aB:=.loop ⟨true,[3,0],[]⟩ Ba
def abU:WFn:=⟨1,[.tmp 2],zd (s (O 2 [ff]) (s (s (Q 4 [m 0,ln 0 4,gti 5 64] [6,0]) (c 6 (r (O 2 [ff])))) (s (s (O 3 [i 0]) (bk 0 RZ ⟨true,[],[]⟩)) Oy)))⟩
@[simp] theorem apL:ZL RZ Ba ⟨true,[3,0],[]⟩:=bg rfl
noncomputable abbrev Ii(C:aJ)(s:WSt):Option AV:=CK C 0 (aO [.tmp 2]) [.sq RZ,.bk 0 ⟨true,[],[]⟩,.sq Oy] Ba s
def yD:aB:=zd (r (O 36 [m 0,ln 0 36,gei 37 1,m 38,y 39 (m 0),y 39 (ln 0 40),y 39 (lei 41 16),pa 39 42,d 2 (m 43)]))
def Eb:aB:=zd (s (s (O 4 [m 3,m 0,ln 0 5,lt 4 6,m 7,y 8 (m 3),y 8 (lti 9 17),pa 8 10]) (cc 11 (w .skip) (ee 0))) (s (B 1 (s (Q 14 [m 0,m 3,E (.fE (T 14) (T 15)),E (.bin .lss (T 16) (.c (.int .u8 97))),m 17,z 18 (m 0),z 18 (m 3),z 18 (E (.fE (T 19) (T 20))),z 18 (E (.bin .gtr (T 21) (.c (.int .u8 122)))),po 18 22,m 23,y 24 (m 0),y 24 (m 3),y 24 (E (.fE (T 25) (T 26))),y 24 (E (.bin .lss (T 27) (.c (.int .u8 48)))),y 24 (m 28),z 29 (m 0),z 29 (m 3),z 29 (E (.fE (T 30) (T 31))),z 29 (E (.bin .gtr (T 32) (.c (.int .u8 57)))),y 24 (po 29 33),pa 24 34] [35,3,0]) (c 35 (r (O 2 [ff]))))) (O 12 [m 3,adi 12 1,d 3 (m 13)])))
def Qp:aB:=.loop ⟨true,[3,0],[]⟩ Eb
def ah1:WFn:=⟨1,[.tmp 2],zd (s (O 2 [ff]) (s (s (O 3 [i 0]) (bk 0 Qp ⟨true,[0],[]⟩)) yD))⟩
@[simp] theorem apA:ZL Qp Eb ⟨true,[3,0],[]⟩:=bg rfl
noncomputable abbrev Gs(C:aJ)(s:WSt):Option AV:=CK C 0 (aO [.tmp 2]) [.sq Qp,.bk 0 ⟨true,[0],[]⟩,.sq yD] Eb s
def afm:WFn:=⟨1,[.tmp 2],zd (s (O 2 [E (.mv (.c (.str [])))]) (s (s (O 3 [m 0,E (.bin .lss (T 3) (.c (.int .u64 10)))]) (c 4 (r (O 5 [m 0,m 0,E (.bin .add (T 6) (.c (.int .u64 1))),E (.slice 0 (.c (.str [48,49,50,51,52,53,54,55,56,57])) (some (T 5)) (some (T 7)) none),d 2 (m 8)])))) (r (O 9 [m 0,E (.bin .quo (T 9) (.c (.int .u64 10))),ca 558 [10],m 0,E (.bin .rem (T 12) (.c (.int .u64 10))),ca 558 [13],ad 11 14,d 2 (m 15)]))))⟩
def Ic:aB:=zd (r (O 50 [m 5,d 4 (m 50)]))
def Ae:aB:=zd (s (s (O 8 [m 6,m 0,ln 1 9,lt 8 10]) (cc 11 (w .skip) (ee 0))) (s (B 1 (s (O 14 [m 0,m 6,ix 3 14 15,f 2 16,l 1 17,d 7 (m 18)]) (s (s (O 19 [m 0,m 6,ix 3 19 20,f 1 21,l 1 22]) (B 2 (s (O 25 [E (.bin .eql (T 23) (.c (.int .u8 1))),d 24 (m 25)]) (cc 24 (O 26 [f 2 3,l 1 26,d 7 (m 27)]) (s (O 29 [E (.bin .eql (T 23) (.c (.int .u8 2))),d 28 (m 29)]) (cc 28 (O 30 [f 0 3,l 1 30,ca 558 [31],d 7 (m 32)]) (s (O 34 [E (.bin .eql (T 23) (.c (.int .u8 3))),d 33 (m 34)]) (c 33 (Q 35 [f 3 3,l 1 35,ln 1 36,E (.cvt .u64 (T 37)),ca 558 [38],d 7 (m 39)] [7,6,5,3,0]))))))))) (O 40 [m 5,m 0,m 6,ix 3 41 42,f 0 43,l 1 44,m 7,E (.build [.str [],.str []] [(0,1,T 45),(1,1,T 46)]),E (.aW [.str [],.str []] 1 [(0,T 47)]),E (.app [.str [],.str []] 32 false (T 40) (T 48)),d 5 (m 49)])))) (O 12 [m 6,adi 12 1,d 6 (m 13)])))
def Po:aB:=.loop ⟨true,[6,5,3,0],[]⟩ Ae
def ah9:WFn:=⟨2,[.tmp 4],zd (s (Q 3 [bx 1,E (.mv (.c (.ro 2 [] true)))] [3,0]) (s (R 5 [E (.mv (.c (.ro 2 [] true)))] ⟨true,[5,3,0],[(5,2)]⟩) (s (s (O 6 [i 0]) (bk 0 Po ⟨true,[5],[]⟩)) Ic)))⟩
@[simp] theorem aqR:ZL Po Ae ⟨true,[6,5,3,0],[]⟩:=bg rfl
noncomputable abbrev Ir(C:aJ)(s:WSt):Option AV:=CK C 0 (aO [.tmp 4]) [.sq Po,.bk 0 ⟨true,[5],[]⟩,.sq Ic] Ae s
def agZ:WFn:=⟨2,[.tmp 4],zd (s (O 4 [i 0]) (r (O 5 [m 0,m 1,E (.call 578 [T 5,T 6,.c (.bool true)]),d 4 (m 7)])))⟩
def OQ:aB:=zd (r (O 4 [i (-1)]))
def yR:aB:=zd (s (O 9 [lt 8 7]) (s (cc 9 (w .skip) (ee 0)) (s (B 1 (s (O 10 [m 8,d 5 (m 10)]) (s (O 11 [m 1,m 0,m 5,ix 1 12 13,l 1 14,E (.dY (T 11) [T 15])]) (c 16 (r (O 17 [m 5,d 4 (m 17)])))))) (O 18 [adi 8 1,d 8 (m 18)]))))
def Q9:aB:=.loop ⟨true,[8,7,1,0],[]⟩ yR
def ahk:WFn:=⟨2,[.tmp 4],zd (s (O 4 [i 0]) (s (s (O 6 [m 0,ln 1 6,i 0]) (bk 0 Q9 ⟨true,[],[]⟩)) OQ))⟩
@[simp] theorem aqm:ZL Q9 yR ⟨true,[8,7,1,0],[]⟩:=bg rfl
noncomputable abbrev BU(C:aJ)(s:WSt):Option AV:=CK C 0 (aO [.tmp 4]) [.sq Q9,.bk 0 ⟨true,[],[]⟩,.sq OQ] yR s
def ZU:WFn:=⟨1,[.tmp 2],zd (s (O 2 [ff]) (r (O 3 [m 0,E (.bin .lss (T 3) (.c (.int .i32 97))),m 4,z 5 (m 0),z 5 (E (.bin .gtr (T 6) (.c (.int .i32 122)))),po 5 7,m 8,y 9 (m 0),y 9 (E (.bin .lss (T 10) (.c (.int .i32 48)))),y 9 (m 11),z 12 (m 0),z 12 (E (.bin .gtr (T 13) (.c (.int .i32 57)))),y 9 (po 12 14),pa 9 15,d 2 (m 16)])))⟩
def X6:WFn:=⟨1,[.tmp 2],zd (s (Q 1 [bx 0,i 0] [1]) (s (s (O 3 [f 0 1,l 1 3,E (.bin .eql (T 4) (.c (.int .u64 0))),m 5,z 6 (f 2 1),z 6 (l 1 7),z 6 (ca 579 [8]),z 6 (nt 9),po 6 10,m 11,z 12 (f 3 1),z 12 (l 1 13),z 12 (ln 1 14),z 12 (gti 15 8),po 12 16,m 17,z 18 (f 3 1),z 18 (l 1 19),z 18 (E (.call 498 [T 20,.c (.fn 580 [])])),po 18 21]) (c 22 (r (O 2 [i 6])))) (r (O 2 [i 0]))))⟩
def Bh:aB:=zd (r (O 81 [m 5,d 4 (m 81)]))
def rC:aB:=zd (O 80 [adi 12 1,d 12 (m 80)])
def Ap:aB:=zd (s (O 66 [lt 65 64]) (s (cc 66 (w .skip) (ee 3)) (s (B 4 (s (O 67 [ix 1 63 65,l 1 67,d 9 (m 68)]) (U 69 [m 5,h 4 2,h 6 7,m 9,m 9,ca 583 [73],E (.aW [.int .u8 0,.str [],.str [],.ro 2 [] true,.str [],.ro 6 [] true] 1 [(0,T 74)]),ca 582 [70,71,72,75],E (.aW [.int .u8 0,.str [],.str [],.ro 2 [] true,.str [],.ro 6 [] true] 1 [(0,T 76)]),E (.app [.int .u8 0,.str [],.str [],.ro 2 [] true,.str [],.ro 6 [] true] 104 false (T 69) (T 77)),d 5 (m 78)] [(1,5),(2,5),(1,6),(2,6)] [65,64,63,12,11,10,7,5,2]))) (O 79 [adi 65 1,d 65 (m 79)]))))
def Ou:aB:=.loop ⟨true,[65,64,63,12,11,10,7,5,2],[]⟩ Ap
def oJ:aB:=zd (s (O 13 [lt 12 11]) (s (cc 13 (w .skip) (ee 0)) (s (bk 1 (s (Q 14 [ix 6 10 12,h 6 14,d 7 (E (.alloc [.int .u8 0,.str [],.str [],.ro 3 [] true,.str [],.ro 6 [] true])),n (st 6 7 15)] [12,11,10,7,5,2]) (s (O 16 [f 0 7,l 1 16]) (bk 2 (s (O 19 [E (.bin .eql (T 17) (.c (.int .u8 1))),d 18 (m 19)]) (cc 18 (V 20 [m 5,h 4 2,h 6 7,f 2 7,l 1 23,h 4 2,f 5 7,l 1 26,ca 547 [25,27],ca 582 [21,22,24,28],E (.aW [.int .u8 0,.str [],.str [],.ro 2 [] true,.str [],.ro 6 [] true] 1 [(0,T 29)]),E (.app [.int .u8 0,.str [],.str [],.ro 2 [] true,.str [],.ro 6 [] true] 104 false (T 20) (T 30)),d 5 (m 31)] [(1,8),(2,8),(4,8)] ⟨false,[],[]⟩) (s (O 33 [E (.bin .eql (T 17) (.c (.int .u8 2))),d 32 (m 33)]) (cc 32 (Q 34 [m 5,f 4 7,l 1 35,ca 583 [36],E (.aW [.int .u8 0,.str [],.str [],.ro 2 [] true,.str [],.ro 6 [] true] 1 [(0,T 37)]),E (.app [.int .u8 0,.str [],.str [],.ro 2 [] true,.str [],.ro 6 [] true] 104 false (T 34) (T 38)),d 5 (m 39)] [12,11,10,5,2]) (s (O 41 [E (.bin .eql (T 17) (.c (.int .u8 3))),d 40 (m 41)]) (cc 40 (O 42 [m 5,f 0 2,f 2 43,l 1 44,ca 583 [45],E (.aW [.int .u8 0,.str [],.str [],.ro 2 [] true,.str [],.ro 6 [] true] 1 [(0,T 46)]),E (.app [.int .u8 0,.str [],.str [],.ro 2 [] true,.str [],.ro 6 [] true] 104 false (T 42) (T 47)),d 5 (m 48)]) (s (O 50 [E (.bin .eql (T 17) (.c (.int .u8 4))),d 49 (m 50)]) (cc 49 (O 51 [m 5,f 0 2,f 0 52,l 1 53,ca 584 [54],ca 583 [55],E (.aW [.int .u8 0,.str [],.str [],.ro 2 [] true,.str [],.ro 6 [] true] 1 [(0,T 56)]),E (.app [.int .u8 0,.str [],.str [],.ro 2 [] true,.str [],.ro 6 [] true] 104 false (T 51) (T 57)),d 5 (m 58)]) (s (O 60 [E (.bin .eql (T 17) (.c (.int .u8 5))),d 59 (m 60)]) (c 59 (s (O 61 [f 0 2,f 3 61,l 1 62,ln 1 63,i 0]) (bk 3 Ou ⟨true,[12,11,10,5,2],[]⟩)))))))))))) ⟨true,[12,11,10,5,2],[]⟩))) ⟨true,[12,11,10,5,2],[]⟩) rC)))
def Iy:aB:=.loop ⟨true,[12,11,10,5,2],[]⟩ oJ
def aib:WFn:=⟨2,[.tmp 4],zd (s (O 4 [d 2 (bx 0),E (.mv (.c (.ro 6 [] true)))]) (s (R 5 [E (.mv (.c (.ro 6 [] true)))] ⟨true,[5,2,1],[(5,6)]⟩) (s (s (O 10 [m 1,ln 1 10,i 0]) (bk 0 Iy ⟨true,[5],[]⟩)) Bh)))⟩
@[simp] theorem aqs:ZL Ou Ap ⟨true,[65,64,63,12,11,10,7,5,2],[]⟩:=bg rfl
noncomputable abbrev GH(C:aJ)(s:WSt):Option AV:=CK C 0 (aO [.tmp 4]) [.sq Ou,.bk 3 ⟨true,[12,11,10,5,2],[]⟩,.bk 2 ⟨true,[12,11,10,5,2],[]⟩,.bk 1 ⟨true,[12,11,10,5,2],[]⟩,.sq rC,.sq Iy,.bk 0 ⟨true,[5],[]⟩,.sq Bh] Ap s
@[simp] theorem aqV:ZL Iy oJ ⟨true,[12,11,10,5,2],[]⟩:=bg rfl
noncomputable abbrev kE(C:aJ)(s:WSt):Option AV:=CK C 0 (aO [.tmp 4]) [.sq Iy,.bk 0 ⟨true,[5],[]⟩,.sq Bh] oJ s
def PS:aB:=zd (r (O 7 [tt]))
def yh:aB:=zd (s (O 31 [lt 30 29]) (s (cc 31 (w .skip) (ee 0)) (s (B 1 (s (O 32 [m 30,d 8 (m 32)]) (s (V 33 [l 1 4,m 0,nk 34,f 5 35,l 1 36,m 8,ix 6 37 38,m 1,adi 40 1,E (.dY (T 33) [T 39,T 41]),nt 42] [] ⟨false,[],[]⟩) (c 43 (r (O 7 [ff])))))) (O 44 [adi 30 1,d 30 (m 44)]))))
def OC:aB:=.loop ⟨true,[30,29,4,1,0],[]⟩ yh
def W9:WFn:=⟨5,[.tmp 7],zd (s (O 7 [ff]) (s (O 9 [l 1 2,adi 9 1,n (st 1 2 10)]) (s (s (O 11 [m 1,gti 11 6,m 12,z 13 (l 1 2),z 13 (gti 14 64),po 13 15,m 16,z 17 (m 0),z 17 (ca 549 [18]),z 17 (nt 19),po 17 20]) (c 21 (r (O 7 [ff])))) (s (O 22 [l 1 3,m 0,E (.dY (T 22) [T 23])]) (s (s (Q 25 [m 0,nk 25,f 5 26,l 1 27,ln 1 28,i 0] [30,29,4,1,0]) (bk 0 OC ⟨true,[],[]⟩)) PS)))))⟩
@[simp] theorem aqd:ZL OC yh ⟨true,[30,29,4,1,0],[]⟩:=bg rfl
def je:WFn:=⟨1,[.tmp 2],zd (s (O 2 [ff]) (s (O 4 [m 0,nk 4,h 6 5,d 3 (E (.alloc [.int .u8 0,.str [],.str [],.ro 3 [] true,.str [],.ro 6 [] true])),n (st 6 3 6)]) (s (s (O 7 [m 0,nk 7,f 0 8,l 1 9]) (B 0 (s (B 5 (s (B 4 (s (B 3 (s (B 2 (s (B 1 (s (s (s (O 12 [E (.bin .eql (T 10) (.c (.int .u8 1))),d 11 (m 12)]) (c 11 (ee 1))) (s (s (O 14 [E (.bin .eql (T 10) (.c (.int .u8 5))),d 13 (m 14)]) (c 13 (ee 2))) (s (s (O 16 [E (.bin .eql (T 10) (.c (.int .u8 2))),d 15 (m 16)]) (c 15 (ee 3))) (s (s (O 18 [E (.bin .eql (T 10) (.c (.int .u8 3))),d 17 (m 18)]) (cc 17 (w .skip) (O 19 [E (.bin .eql (T 10) (.c (.int .u8 4))),d 17 (m 19)]))) (c 17 (ee 4)))))) (ee 5))) (s (s (Q 20 [m 0,nk 20,f 2 21,l 1 22,E (.bin .neq (T 23) (.c (.str []))),m 24,y 25 (m 0),y 25 (nk 26),y 25 (f 2 27),y 25 (l 1 28),y 25 (ca 581 [29]),y 25 (nt 30),pa 25 31,m 32,z 33 (m 0),z 33 (nk 34),z 33 (f 5 35),z 33 (l 1 36),z 33 (ln 1 37),z 33 (gti 38 16),po 33 39] [40,3,0]) (c 40 (r (O 2 [ff])))) (O 41 [f 2 3,n (E (.store 1 (T 41) (.c (.str [])))),f 5 3,n (E (.store 1 (T 42) (.c (.ro 6 [] true))))])))) (s (s (s (Q 43 [m 0,nk 43,f 1 44,l 1 45,ca 581 [46],nt 47,m 48,z 49 (m 0),z 49 (nk 50),z 49 (f 3 51),z 49 (l 1 52),z 49 (ca 585 [53]),z 49 (nt 54),po 49 55] [56,3]) (c 56 (r (O 2 [ff])))) (O 57 [f 1 3,n (E (.store 1 (T 57) (.c (.str [])))),f 3 3,n (E (.store 1 (T 58) (.c (.ro 3 [] true))))])) (ee 0)))) (s (s (s (O 59 [m 0,nk 59,f 4 60,l 1 61,ca 579 [62],nt 63]) (c 64 (r (O 2 [ff])))) (O 65 [f 4 3,n (E (.store 1 (T 65) (.c (.str []))))])) (ee 0)))) (ee 0))) (s (r (O 2 [ff])) (ee 0))))) (r (Q 66 [f 1 3,l 1 66,E (.bin .eql (T 67) (.c (.str []))),m 68,y 69 (f 2 3),y 69 (l 1 70),y 69 (E (.bin .eql (T 71) (.c (.str [])))),pa 69 72,m 73,y 74 (f 4 3),y 74 (l 1 75),y 74 (E (.bin .eql (T 76) (.c (.str [])))),pa 74 77,m 78,y 79 (f 3 3),y 79 (l 1 80),y 79 (ln 1 81),y 79 (eqi 82 0),pa 79 83,m 84,y 85 (f 5 3),y 85 (l 1 86),y 85 (ln 1 87),y 85 (eqi 88 0),pa 85 89,d 2 (m 90)] [2])))))⟩
def Iz:aB:=zd (r (O 35 [m 5,d 4 (m 35)]))
def xW:aB:=zd (s (s (Q 14 [m 6,f 5 2,l 1 15,ln 1 16,lt 14 17,m 18,y 19 (m 5),y 19 (lei 20 64),pa 19 21] [22,6,5,2,1]) (cc 22 (w .skip) (ee 0))) (s (B 1 (O 25 [m 5,f 5 2,l 1 26,m 6,ix 6 27 28,h 6 29,m 1,sbi 31 1,ca 550 [30,32],ad 25 33,d 5 (m 34)])) (O 23 [m 6,adi 23 1,d 6 (m 24)])))
def QV:aB:=.loop ⟨true,[6,5,2,1],[]⟩ xW
def aa6:WFn:=⟨2,[.tmp 4],zd (s (O 4 [d 2 (bx 0),i 0]) (s (s (O 7 [m 1,lti 7 1,m 8,z 9 (h 6 2),z 9 (ca 586 [10]),z 9 (nt 11),po 9 12]) (c 13 (r (O 4 [i 1000])))) (s (O 5 [i 1]) (s (s (O 6 [i 0]) (bk 0 QV ⟨true,[5],[]⟩)) Iz))))⟩
@[simp] theorem aqe:ZL QV xW ⟨true,[6,5,2,1],[]⟩:=bg rfl
noncomputable abbrev DX(C:aJ)(s:WSt):Option AV:=CK C 0 (aO [.tmp 4]) [.sq QV,.bk 0 ⟨true,[5],[]⟩,.sq Iz] xW s
def Oc:aB:=zd (r (O 4 [tt]))
def tN:aB:=zd (s (O 14 [lt 13 12]) (s (cc 14 (w .skip) (ee 0)) (s (B 1 (s (O 15 [m 13,d 5 (m 15)]) (s (V 16 [m 0,m 5,ix 2 16 17,h 2 18,m 1,m 5,ix 2 20 21,h 2 22,E (.eqv 4 [1,1] true (T 19) (T 23))] [] ⟨false,[],[]⟩) (c 24 (r (O 4 [ff])))))) (O 25 [adi 13 1,d 13 (m 25)]))))
def Q5:aB:=.loop ⟨true,[13,12,1,0],[]⟩ tN
def aeZ:WFn:=⟨2,[.tmp 4],zd (s (O 4 [ff]) (s (s (Q 6 [m 0,ln 1 6,m 1,ln 1 8,ne 7 9] [10,1,0]) (c 10 (r (O 4 [ff])))) (s (s (O 11 [m 0,ln 1 11,i 0]) (bk 0 Q5 ⟨true,[],[]⟩)) Oc)))⟩
@[simp] theorem aqZ:ZL Q5 tN ⟨true,[13,12,1,0],[]⟩:=bg rfl
noncomputable abbrev yS(C:aJ)(s:WSt):Option AV:=CK C 0 (aO [.tmp 4]) [.sq Q5,.bk 0 ⟨true,[],[]⟩,.sq Oc] tN s
def Qe:aB:=zd (r (O 6 [tt]))
def yC:aB:=zd (s (O 18 [lt 17 16]) (s (cc 18 (w .skip) (ee 0)) (s (B 1 (s (O 19 [m 17,ix 6 15 17,h 6 20,d 8 (E (.alloc [.int .u8 0,.str [],.str [],.ro 2 [] true,.str [],.ro 6 [] true])),d 7 (m 19),n (st 6 8 21)]) (s (O 22 [m 1,m 7,ix 6 22 23,h 6 24,d 9 (E (.alloc [.int .u8 0,.str [],.str [],.ro 2 [] true,.str [],.ro 6 [] true])),n (st 6 9 25)]) (s (O 26 [m 2,h 6 8,h 6 9,E (.dY (T 26) [T 27,T 28]),nt 29]) (c 30 (r (O 6 [ff]))))))) (O 31 [adi 17 1,d 17 (m 31)]))))
def RY:aB:=.loop ⟨true,[17,16,15,2,1],[]⟩ yC
def aem:WFn:=⟨3,[.tmp 6],zd (s (O 6 [ff]) (s (s (O 10 [m 0,ln 1 10,m 1,ln 1 12,ne 11 13]) (c 14 (r (O 6 [ff])))) (s (s (Q 15 [m 0,ln 1 15,i 0] [17,16,15,2,1]) (bk 0 RY ⟨true,[],[]⟩)) Qe)))⟩
@[simp] theorem ap0:ZL RY yC ⟨true,[17,16,15,2,1],[]⟩:=bg rfl
noncomputable abbrev Dz(C:aJ)(s:WSt):Option AV:=CK C 0 (aO [.tmp 6]) [.sq RY,.bk 0 ⟨true,[],[]⟩,.sq Qe] yC s
def agG:WFn:=⟨1,[.tmp 2],zd (s (O 2 [E (.mv (.c (.ro 2 [] true)))]) (r (O 3 [m 0,m 0,ln 1 4,m 0,ln 1 6,E (.slice 2 (T 3) none (some (T 5)) (some (T 7))),d 2 (m 8)])))⟩
def aek:WFn:=⟨1,[.tmp 2],zd (w (.cln [.str [],.str []] 2 32))⟩
def WI:WFn:=⟨1,[.tmp 2],zd (s (O 2 [ff]) (r (O 3 [m 0,E (.bin .lss (T 3) (.c (.int .i32 32))),m 4,z 5 (m 0),z 5 (E (.bin .gtr (T 6) (.c (.int .i32 126)))),po 5 7,d 2 (m 8)])))⟩
def aio:WFn:=⟨1,[.tmp 2],zd (s (O 2 [ff]) (r (O 3 [m 0,E (.bin .geq (T 3) (.c (.int .u8 97))),m 4,y 5 (m 0),y 5 (E (.bin .leq (T 6) (.c (.int .u8 122)))),pa 5 7,m 8,z 9 (m 0),z 9 (E (.bin .geq (T 10) (.c (.int .u8 48)))),z 9 (m 11),y 12 (m 0),y 12 (E (.bin .leq (T 13) (.c (.int .u8 57)))),z 9 (pa 12 14),po 9 15,d 2 (m 16)])))⟩
def RG:aB:=zd (r (O 4 [i (-1)]))
def xK:aB:=zd (s (O 9 [lt 8 7]) (s (cc 9 (w .skip) (ee 0)) (s (B 1 (s (O 10 [m 8,d 5 (m 10)]) (s (O 11 [m 1,m 0,m 5,ix 6 12 13,h 6 14,E (.dY (T 11) [T 15])]) (c 16 (r (O 17 [m 5,d 4 (m 17)])))))) (O 18 [adi 8 1,d 8 (m 18)]))))
def QZ:aB:=.loop ⟨true,[8,7,1,0],[]⟩ xK
def agt:WFn:=⟨2,[.tmp 4],zd (s (O 4 [i 0]) (s (s (O 6 [m 0,ln 1 6,i 0]) (bk 0 QZ ⟨true,[],[]⟩)) RG))⟩
@[simp] theorem aqp:ZL QZ xK ⟨true,[8,7,1,0],[]⟩:=bg rfl
noncomputable abbrev BX(C:aJ)(s:WSt):Option AV:=CK C 0 (aO [.tmp 4]) [.sq QZ,.bk 0 ⟨true,[],[]⟩,.sq RG] xK s
def IQ:aB:=zd (r (O 2 [tt]))
def QA:aB:=zd (O 120 [m 5,adi 120 1,d 5 (m 121)])
def Az:aB:=zd (s (s (O 122 [m 6,m 5,lt 122 123]) (cc 124 (w .skip) (ee 6))) (s (B 7 (s (U 127 [f 5 1,l 1 127,m 5,ix 6 128 129,f 2 130,l 1 131,E (.bin .neq (T 132) (.c (.str []))),m 133,y 134 (f 5 1),y 134 (l 1 135),y 134 (m 5),y 134 (ix 6 136 137),y 134 (f 2 138),y 134 (l 1 139),y 134 (f 5 1),y 134 (l 1 141),y 134 (m 6),y 134 (ix 6 142 143),y 134 (f 2 144),y 134 (l 1 145),y 134 (eq 140 146),pa 134 147] [] [148,6,5,1]) (c 148 (r (O 2 [ff]))))) (O 125 [m 6,adi 125 1,d 6 (m 126)])))
def NY:aB:=.loop ⟨true,[6,5,1],[]⟩ Az
def Dv:aB:=zd (s (s (O 115 [m 5,f 5 1,l 1 116,ln 1 117,lt 115 118]) (cc 119 (w .skip) (ee 4))) (s (bk 5 (s (O 6 [i 0]) (bk 6 NY ⟨true,[5,1],[]⟩)) ⟨true,[5,1],[]⟩) QA))
def Hy:aB:=.loop ⟨true,[5,1],[]⟩ Dv
def HY:aB:=zd (s (s (O 5 [i 0]) (bk 4 Hy ⟨true,[],[]⟩)) IQ)
def Rl:aB:=zd (O 77 [m 3,adi 77 1,d 3 (m 78)])
def uf:aB:=zd (s (s (O 97 [m 4,m 3,lt 97 98]) (cc 99 (w .skip) (ee 2))) (s (B 3 (s (U 102 [f 3 1,l 1 102,m 4,ix 2 103 104,f 0 105,l 1 106,f 3 1,l 1 108,m 3,ix 2 109 110,f 0 111,l 1 112,ge 107 113] [] [114,4,3,1]) (c 114 (r (O 2 [ff]))))) (O 100 [m 4,adi 100 1,d 4 (m 101)])))
def PZ:aB:=.loop ⟨true,[4,3,1],[]⟩ uf
def um:aB:=zd (s (s (Q 72 [m 3,f 3 1,l 1 73,ln 1 74,lt 72 75] [76,3,1]) (cc 76 (w .skip) (ee 0))) (s (bk 1 (s (s (O 79 [f 3 1,l 1 79,m 3,ix 2 80 81,f 0 82,l 1 83,ca 557 [84],nt 85,m 86,z 87 (f 3 1),z 87 (l 1 88),z 87 (m 3),z 87 (ix 2 89 90),z 87 (f 1 91),z 87 (l 1 92),z 87 (ca 556 [93]),z 87 (nt 94),po 87 95]) (c 96 (r (O 2 [ff])))) (s (O 4 [i 0]) (bk 2 PZ ⟨true,[3,1],[]⟩))) ⟨true,[3,1],[]⟩) Rl))
def Gx:aB:=.loop ⟨true,[3,1],[]⟩ um
def zi:WFn:=⟨1,[.tmp 2],zd (s (O 1 [bx 0,ff]) (s (s (O 7 [f 0 1,l 1 7,E (.bin .eql (T 8) (.c (.int .u8 2)))]) (c 9 (r (Q 10 [f 4 1,l 1 10,ca 556 [11],m 12,y 13 (f 1 1),y 13 (l 1 14),y 13 (E (.bin .eql (T 15) (.c (.str [])))),pa 13 16,m 17,y 18 (f 2 1),y 18 (l 1 19),y 18 (E (.bin .eql (T 20) (.c (.str [])))),pa 18 21,m 22,y 23 (f 3 1),y 23 (l 1 24),y 23 (ln 1 25),y 23 (eqi 26 0),pa 23 27,m 28,y 29 (f 5 1),y 29 (l 1 30),y 29 (ln 1 31),y 29 (eqi 32 0),pa 29 33,d 2 (m 34)] [2])))) (s (s (Q 35 [f 0 1,l 1 35,E (.bin .neq (T 36) (.c (.int .u8 1))),m 37,z 38 (f 1 1),z 38 (l 1 39),z 38 (ca 557 [40]),z 38 (nt 41),po 38 42,m 43,z 44 (f 2 1),z 44 (l 1 45),z 44 (E (.bin .neq (T 46) (.c (.str [])))),z 44 (m 47),y 48 (f 2 1),y 48 (l 1 49),y 48 (ca 557 [50]),y 48 (nt 51),z 44 (pa 48 52),po 44 53,m 54,z 55 (f 4 1),z 55 (l 1 56),z 55 (E (.bin .neq (T 57) (.c (.str [])))),po 55 58,m 59,z 60 (f 3 1),z 60 (l 1 61),z 60 (ln 1 62),z 60 (gti 63 8),po 60 64,m 65,z 66 (f 5 1),z 66 (l 1 67),z 66 (ln 1 68),z 66 (gti 69 16),po 66 70] [71,1]) (c 71 (r (O 2 [ff])))) (s (s (O 3 [i 0]) (bk 0 Gx ⟨true,[1],[]⟩)) HY))))⟩
@[simp] theorem ari:ZL NY Az ⟨true,[6,5,1],[]⟩:=bg rfl
noncomputable abbrev GR(C:aJ)(s:WSt):Option AV:=CK C 0 (aO [.tmp 2]) [.sq NY,.bk 6 ⟨true,[5,1],[]⟩,.bk 5 ⟨true,[5,1],[]⟩,.sq QA,.sq Hy,.bk 4 ⟨true,[],[]⟩,.sq IQ] Az s
@[simp] theorem apy:ZL Hy Dv ⟨true,[5,1],[]⟩:=bg rfl
noncomputable abbrev xq(C:aJ)(s:WSt):Option AV:=CK C 0 (aO [.tmp 2]) [.sq Hy,.bk 4 ⟨true,[],[]⟩,.sq IQ] Dv s
@[simp] theorem apG:ZL PZ uf ⟨true,[4,3,1],[]⟩:=bg rfl
noncomputable abbrev qP(C:aJ)(s:WSt):Option AV:=CK C 0 (aO [.tmp 2]) [.sq PZ,.bk 2 ⟨true,[3,1],[]⟩,.bk 1 ⟨true,[3,1],[]⟩,.sq Rl,.sq Gx,.bk 0 ⟨true,[1],[]⟩,.sq HY] uf s
@[simp] theorem aqk:ZL Gx um ⟨true,[3,1],[]⟩:=bg rfl
noncomputable abbrev oV(C:aJ)(s:WSt):Option AV:=CK C 0 (aO [.tmp 2]) [.sq Gx,.bk 0 ⟨true,[1],[]⟩,.sq HY] um s
def QJ:aB:=zd (r (O 6 [i (-1)]))
def uS:aB:=zd (s (O 11 [E (.next (T 10)),ex 0 11]) (s (cc 12 (w .skip) (ee 0)) (B 1 (s (O 13 [ex 1 11,ex 2 11,d 7 (m 13),d 8 (m 14)]) (s (O 15 [m 1,m 8,E (.dY (T 15) [T 16]),m 2,E (.eqv 5 [] false (T 17) (T 18))]) (c 19 (r (O 20 [m 7,d 6 (m 20)]))))))))
def SE:aB:=.loop ⟨true,[10,2,1],[]⟩ uS
def ahY:WFn:=⟨3,[.tmp 6],zd (s (O 6 [i 0]) (s (s (O 9 [m 0,E (.range (T 9))]) (bk 0 SE ⟨true,[],[]⟩)) QJ))⟩
@[simp] theorem aqa:ZL SE uS ⟨true,[10,2,1],[]⟩:=bg rfl
noncomputable abbrev xu(C:aJ)(s:WSt):Option AV:=CK C 0 (aO [.tmp 6]) [.sq SE,.bk 0 ⟨true,[],[]⟩,.sq QJ] uS s
def ait:WFn:=⟨1,[.tmp 2],zd (s (O 2 [ff]) (r (O 3 [m 0,E (.build [.int .u8 0,.str [],.str [],.ro 2 [] true,.str [],.ro 6 [] true] [(0,1,.c (.int .u8 2)),(4,1,T 3)]),ca 439 [4],eqi 5 0,d 2 (m 6)])))⟩
def agm:WFn:=⟨1,[.tmp 2],zd (s (O 2 [ff]) (r (O 3 [m 0,ca 581 [3],nt 4,d 2 (m 5)])))⟩
def ahp:WFn:=⟨1,[.tmp 2],zd (s (O 2 [ff]) (r (O 3 [m 0,E (.build [.int .u8 0,.str [],.str [],.ro 2 [] true,.str [],.ro 6 [] true] [(0,1,.c (.int .u8 1)),(1,1,T 3)]),ca 439 [4],eqi 5 0,d 2 (m 6)])))⟩
def ahm:WFn:=⟨4,[.cell 8 6 true],zd (s (O 4 [bx 0,bx 1,d 8 (E (.alloc [.int .u8 0,.str [],.str [],.ro 2 [] true,.str [],.ro 6 [] true]))]) (r (V 9 [f 1 5,l 1 9,m 2,h 4 4,f 3 5,l 1 13,ca 592 [12,14],m 3,ca 593 [16],E (.build [.int .u8 0,.str [],.str [],.ro 2 [] true,.str [],.ro 6 [] true] [(0,1,.c (.int .u8 1)),(1,1,T 10),(2,1,T 11),(3,1,T 15),(5,1,T 17)]),n (st 6 8 18)] [(1,6),(1,8)] ⟨false,[],[]⟩)))⟩
def ah6:WFn:=⟨1,[.cell 2 6 true],zd (s (O 2 [E (.alloc [.int .u8 0,.str [],.str [],.ro 2 [] true,.str [],.ro 6 [] true])]) (r (O 3 [m 0,E (.build [.int .u8 0,.str [],.str [],.ro 2 [] true,.str [],.ro 6 [] true] [(0,1,.c (.int .u8 2)),(4,1,T 3)]),n (st 6 2 4)])))⟩
def BP:aB:=zd (B 1 (s (O 5 [m 4,sbi 5 1,d 4 (m 6)]) (s (O 7 [m 4,m 0,E (.bin .rem (T 8) (.c (.int .u64 10))),E (.fE (.c (.str [48,49,50,51,52,53,54,55,56,57])) (T 9)),E (.gG 20 1 (T 3) (T 7)),n (st 1 11 10)]) (s (O 12 [m 0,E (.bin .quo (T 12) (.c (.int .u64 10))),d 0 (m 13)]) (s (O 14 [m 0,E (.bin .eql (T 14) (.c (.int .u64 0)))]) (c 15 (r (O 16 [m 4,E (.gW 20 (T 3) (some (T 16)) none),E (.cvb (T 17)),d 2 (m 18)]))))))))
def OA:aB:=.loop ⟨true,[4,3,0],[]⟩ BP
def ai3:WFn:=⟨1,[.tmp 2],zd (s (O 2 [E (.mv (.c (.str [])))]) (s (O 3 [E (.alloc (rep 20 (.int .u8 0)))]) (s (O 4 [i 20]) (bk 0 OA ⟨true,[2],[]⟩))))⟩
@[simp] theorem apX:ZL OA BP ⟨true,[4,3,0],[]⟩:=bg rfl
noncomputable abbrev Gz(C:aJ)(s:WSt):Option AV:=CK C 0 (aO [.tmp 2]) [.sq OA,.bk 0 ⟨true,[2],[]⟩] BP s
def Qq:aB:=zd (r (O 2 [tt]))
def CW:aB:=zd (s (O 11 [lt 10 9]) (s (cc 11 (w .skip) (ee 0)) (s (B 1 (s (O 12 [m 10,ix 3 8 10,h 3 13,d 4 (E (.alloc [.str [],.int .u8 0,.str []])),d 3 (m 12),n (st 3 4 14)]) (s (U 15 [f 0 4,l 1 15,ca 581 [16],nt 17,m 18,z 19 (f 1 4),z 19 (l 1 20),z 19 (E (.bin .gtr (T 21) (.c (.int .u8 3)))),po 19 22,m 23,z 24 (f 2 4),z 24 (l 1 25),z 24 (ca 579 [26]),z 24 (nt 27),po 24 28,m 29,z 30 (f 1 4),z 30 (l 1 31),z 30 (E (.bin .gtr (T 32) (.c (.int .u8 0)))),z 30 (m 33),y 34 (f 2 4),y 34 (l 1 35),y 34 (E (.bin .neq (T 36) (.c (.str [])))),z 30 (pa 34 37),po 30 38,m 39,z 40 (m 3),z 40 (gti 41 0),z 40 (m 42),y 43 (f 0 4),y 43 (l 1 44),y 43 (m 0),y 43 (m 3),y 43 (sbi 47 1),y 43 (ix 3 46 48),y 43 (f 0 49),y 43 (l 1 50),y 43 (le 45 51),z 40 (pa 43 52),po 40 53] [] [54,10,9,8,0]) (c 54 (r (O 2 [ff])))))) (O 55 [adi 10 1,d 10 (m 55)]))))
def Ql:aB:=.loop ⟨true,[10,9,8,0],[]⟩ CW
def aee:WFn:=⟨1,[.tmp 2],zd (s (O 2 [ff]) (s (s (O 5 [m 0,ln 1 5,gti 6 8]) (c 7 (r (O 2 [ff])))) (s (s (O 8 [m 0,ln 1 8,i 0]) (bk 0 Ql ⟨true,[],[]⟩)) Qq)))⟩
@[simp] theorem apY:ZL Ql CW ⟨true,[10,9,8,0],[]⟩:=bg rfl
noncomputable abbrev IC(C:aJ)(s:WSt):Option AV:=CK C 0 (aO [.tmp 2]) [.sq Ql,.bk 0 ⟨true,[],[]⟩,.sq Qq] CW s
def mG:WFn:=⟨1,[.tmp 2],zd (s (O 1 [bx 0,ff]) (s (s (O 3 [f 0 1,l 1 3]) (B 0 (s (O 6 [E (.bin .eql (T 4) (.c (.int .u8 1))),d 5 (m 6)]) (cc 5 (r (Q 7 [f 1 1,l 1 7,ca 557 [8],m 9,y 10 (f 2 1),y 10 (l 1 11),y 10 (E (.bin .eql (T 12) (.c (.str [])))),y 10 (m 13),z 14 (f 2 1),z 14 (l 1 15),z 14 (ca 557 [16]),y 10 (po 14 17),pa 10 18,m 19,y 20 (f 3 1),y 20 (l 1 21),y 20 (ca 594 [22]),pa 20 23,m 24,y 25 (f 4 1),y 25 (l 1 26),y 25 (E (.bin .eql (T 27) (.c (.str [])))),pa 25 28,m 29,y 30 (f 5 1),y 30 (l 1 31),y 30 (ln 1 32),y 30 (lei 33 16),pa 30 34,d 2 (m 35)] [2])) (s (O 37 [E (.bin .eql (T 4) (.c (.int .u8 2))),d 36 (m 37)]) (cc 36 (r (Q 38 [f 4 1,l 1 38,ca 556 [39],m 40,y 41 (f 1 1),y 41 (l 1 42),y 41 (E (.bin .eql (T 43) (.c (.str [])))),pa 41 44,m 45,y 46 (f 2 1),y 46 (l 1 47),y 46 (E (.bin .eql (T 48) (.c (.str [])))),pa 46 49,m 50,y 51 (f 3 1),y 51 (l 1 52),y 51 (ln 1 53),y 51 (f 5 1),y 51 (l 1 55),y 51 (ln 1 56),y 51 (ad 54 57),y 51 (eqi 58 0),pa 51 59,d 2 (m 60)] [2])) (s (s (O 62 [E (.bin .eql (T 4) (.c (.int .u8 3))),d 61 (m 62)]) (cc 61 (w .skip) (O 63 [E (.bin .eql (T 4) (.c (.int .u8 4))),d 61 (m 63)]))) (cc 61 (r (Q 64 [f 4 1,l 1 64,E (.bin .eql (T 65) (.c (.str []))),m 66,y 67 (f 1 1),y 67 (l 1 68),y 67 (E (.bin .eql (T 69) (.c (.str [])))),pa 67 70,m 71,y 72 (f 2 1),y 72 (l 1 73),y 72 (E (.bin .eql (T 74) (.c (.str [])))),pa 72 75,m 76,y 77 (f 3 1),y 77 (l 1 78),y 77 (ln 1 79),y 77 (f 5 1),y 77 (l 1 81),y 77 (ln 1 82),y 77 (ad 80 83),y 77 (eqi 84 0),pa 77 85,d 2 (m 86)] [2])) (s (O 88 [E (.bin .eql (T 4) (.c (.int .u8 5))),d 87 (m 88)]) (c 87 (r (Q 89 [f 1 1,l 1 89,ca 557 [90],m 91,y 92 (f 3 1),y 92 (l 1 93),y 92 (ca 594 [94]),pa 92 95,m 96,y 97 (f 2 1),y 97 (l 1 98),y 97 (E (.bin .eql (T 99) (.c (.str [])))),pa 97 100,m 101,y 102 (f 4 1),y 102 (l 1 103),y 102 (E (.bin .eql (T 104) (.c (.str [])))),pa 102 105,m 106,y 107 (f 5 1),y 107 (l 1 108),y 107 (ln 1 109),y 107 (eqi 110 0),pa 107 111,d 2 (m 112)] [2])))))))))))) (r (O 2 [ff]))))⟩
def Iw:aB:=zd (r (O 44 [m 5,d 4 (m 44)]))
def yw:aB:=zd (s (O 14 [lt 13 12]) (s (cc 14 (w .skip) (ee 0)) (s (B 1 (s (O 15 [m 13,ix 3 11 13,h 3 16,d 7 (E (.alloc [.str [],.int .u8 0,.str []])),d 6 (m 15),n (st 3 7 17)]) (U 18 [m 5,m 6,f 0 7,l 1 20,f 2 7,l 1 22,f 0 2,f 2 24,l 1 25,f 0 2,f 0 27,l 1 28,ca 584 [29],f 0 2,f 3 31,l 1 32,ln 1 33,E (.cvt .u64 (T 34)),ca 584 [35],E (.build [.str [],.str [],.str [],.str []] [(0,1,T 23),(1,1,T 26),(2,1,T 30),(3,1,T 36)]),f 1 7,l 1 38,E (.y8 4 1 false (T 37) (T 39)),E (.build [.str [],.str []] [(0,1,T 21),(1,1,T 40)]),ix 2 18 19,n (st 2 42 41)] [(3,12),(5,12),(8,12),(12,15),(12,16),(3,18),(5,18),(8,18),(12,21),(18,21)] [13,12,11,5,2]))) (O 43 [adi 13 1,d 13 (m 43)]))))
def Oo:aB:=.loop ⟨true,[13,12,11,5,2],[]⟩ yw
def ac8:WFn:=⟨2,[.tmp 4],zd (s (O 4 [d 2 (bx 0),E (.mv (.c (.ro 2 [] true)))]) (s (O 8 [m 1,ln 1 8,E (.nK [.str [],.str []] 32 (T 9) (T 9)),d 5 (m 10)]) (s (s (O 11 [m 1,ln 1 11,i 0]) (bk 0 Oo ⟨true,[5],[]⟩)) Iw)))⟩
@[simp] theorem apD:ZL Oo yw ⟨true,[13,12,11,5,2],[]⟩:=bg rfl
noncomputable abbrev GU(C:aJ)(s:WSt):Option AV:=CK C 0 (aO [.tmp 4]) [.sq Oo,.bk 0 ⟨true,[5],[]⟩,.sq Iw] yw s
def air:WFn:=⟨1,[.tmp 2],zd (s (O 2 [E (.mv (.c (.ro 6 [] true)))]) (r (O 3 [m 0,m 0,ln 1 4,m 0,ln 1 6,E (.slice 6 (T 3) none (some (T 5)) (some (T 7))),d 2 (m 8)])))⟩
def OY:aB:=zd (r (O 2 [tt]))
def CZ:aB:=zd (s (s (O 8 [m 3,m 0,ln 1 9,lt 8 10]) (cc 11 (w .skip) (ee 0))) (s (B 1 (s (O 14 [m 0,m 3,ix 3 14 15,h 3 16,d 4 (E (.alloc [.str [],.int .u8 0,.str []])),n (st 3 4 17)]) (s (U 18 [f 0 4,l 1 18,ca 557 [19],nt 20,m 21,z 22 (f 1 4),z 22 (l 1 23),z 22 (E (.bin .gtr (T 24) (.c (.int .u8 3)))),po 22 25,m 26,z 27 (f 2 4),z 27 (l 1 28),z 27 (ca 556 [29]),z 27 (nt 30),po 27 31,m 32,z 33 (f 1 4),z 33 (l 1 34),z 33 (E (.bin .neq (T 35) (.c (.int .u8 0)))),z 33 (m 36),y 37 (f 2 4),y 37 (l 1 38),y 37 (E (.bin .neq (T 39) (.c (.str [])))),z 33 (pa 37 40),po 33 41,m 42,z 43 (m 3),z 43 (gti 44 0),z 43 (m 45),y 46 (m 0),y 46 (m 3),y 46 (sbi 48 1),y 46 (ix 3 47 49),y 46 (f 0 50),y 46 (l 1 51),y 46 (f 0 4),y 46 (l 1 53),y 46 (ge 52 54),z 43 (pa 46 55),po 43 56] [] [57,3,0]) (c 57 (r (O 2 [ff])))))) (O 12 [m 3,adi 12 1,d 3 (m 13)])))
def QO:aB:=.loop ⟨true,[3,0],[]⟩ CZ
def ae5:WFn:=⟨1,[.tmp 2],zd (s (O 2 [ff]) (s (s (O 5 [m 0,ln 1 5,gti 6 8]) (c 7 (r (O 2 [ff])))) (s (s (O 3 [i 0]) (bk 0 QO ⟨true,[],[]⟩)) OY)))⟩
@[simp] theorem arf:ZL QO CZ ⟨true,[3,0],[]⟩:=bg rfl
noncomputable abbrev Ig(C:aJ)(s:WSt):Option AV:=CK C 0 (aO [.tmp 2]) [.sq QO,.bk 0 ⟨true,[],[]⟩,.sq OY] CZ s
def tree:sO:=(.node (.node (.node (.node (.node (.node (.node (.node .leaf 0 w0 .leaf) 88 w88 .leaf) 111 ahG (.node .leaf 115 Rj .leaf)) 126 aiu (.node (.node (.node .leaf 130 aie .leaf) 138 agE .leaf) 139 XC (.node .leaf 140 agi .leaf))) 141 aiM (.node (.node (.node (.node .leaf 142 O9 .leaf) 143 VN .leaf) 144 abH (.node .leaf 145 apo .leaf)) 223 aah (.node (.node (.node .leaf 225 ahn .leaf) 227 agq .leaf) 230 aaH (.node .leaf 231 acf .leaf)))) 232 aax (.node (.node (.node (.node (.node .leaf 235 aaR .leaf) 236 Tj .leaf) 238 agA (.node .leaf 239 aiI .leaf)) 240 aje (.node (.node (.node .leaf 270 aiw .leaf) 271 V9 .leaf) 277 aiD (.node .leaf 278 ahP .leaf))) 279 ahQ (.node (.node (.node (.node .leaf 280 aau .leaf) 281 Ux .leaf) 282 ag2 (.node .leaf 283 aiB .leaf)) 284 ajc (.node (.node .leaf 285 XT .leaf) 286 aai (.node .leaf 287 ahF .leaf))))) 288 ajj (.node (.node (.node (.node (.node (.node .leaf 289 adb .leaf) 290 aam .leaf) 291 acT (.node .leaf 292 aoo .leaf)) 293 Xi (.node (.node (.node .leaf 294 ahf .leaf) 295 ahw .leaf) 296 P5 (.node .leaf 297 aeN .leaf))) 298 acw (.node (.node (.node (.node .leaf 299 aif .leaf) 300 adZ .leaf) 301 ao1 (.node .leaf 302 aoq .leaf)) 398 VF (.node (.node (.node .leaf 399 ahX .leaf) 400 aeg .leaf) 404 aiv (.node .leaf 405 ae6 .leaf)))) 406 ajp (.node (.node (.node (.node (.node .leaf 407 aiS .leaf) 408 aeE .leaf) 415 LC (.node .leaf 417 ahU .leaf)) 422 KC (.node (.node (.node .leaf 423 aht .leaf) 424 Vf .leaf) 425 LU (.node .leaf 427 aiO .leaf))) 428 agF (.node (.node (.node (.node .leaf 429 ahz .leaf) 430 ahB .leaf) 431 Xv (.node .leaf 432 acV .leaf)) 433 Jz (.node (.node .leaf 434 zh .leaf) 435 agc (.node .leaf 436 ah2 .leaf)))))) 437 afN (.node (.node (.node (.node (.node (.node (.node .leaf 438 Qa .leaf) 439 afy .leaf) 440 agW (.node .leaf 441 afU .leaf)) 442 adH (.node (.node (.node .leaf 443 aiW .leaf) 444 aci .leaf) 445 an1 (.node .leaf 494 ach .leaf))) 495 acF (.node (.node (.node (.node .leaf 496 XE .leaf) 497 afJ .leaf) 498 abY (.node .leaf 499 ag8 .leaf)) 500 aat (.node (.node (.node .leaf 501 LP .leaf) 502 aes .leaf) 503 ahC (.node .leaf 504 aiG .leaf)))) 505 aaV (.node (.node (.node (.node (.node .leaf 507 aiC .leaf) 510 aeA .leaf) 511 aaE (.node .leaf 512 X0 .leaf)) 513 Vs (.node (.node (.node .leaf 514 aiP .leaf) 515 agX .leaf) 516 adE (.node .leaf 517 ZT .leaf))) 518 afK (.node (.node (.node (.node .leaf 519 afw .leaf) 520 aaI .leaf) 521 acj (.node .leaf 522 ZP .leaf)) 523 N8 (.node (.node .leaf 543 agZ .leaf) 544 ahk (.node .leaf 545 ZU .leaf))))) 546 X6 (.node (.node (.node (.node (.node (.node .leaf 547 aib .leaf) 548 W9 .leaf) 549 je (.node .leaf 550 aa6 .leaf)) 551 aeZ (.node (.node (.node .leaf 552 aem .leaf) 553 agG .leaf) 554 aek (.node .leaf 556 abU .leaf))) 557 ah1 (.node (.node (.node (.node .leaf 558 afm .leaf) 559 ah9 .leaf) 560 WI (.node .leaf 561 aio .leaf)) 562 agt (.node (.node .leaf 563 zi .leaf) 578 ahY (.node .leaf 579 ait .leaf)))) 580 agm (.node (.node (.node (.node (.node .leaf 581 ahp .leaf) 582 ahm .leaf) 583 ah6 (.node .leaf 584 ai3 .leaf)) 585 aee (.node (.node (.node .leaf 586 mG .leaf) 592 ac8 .leaf) 593 air (.node .leaf 594 ae5 .leaf))) 2031 Xi (.node (.node (.node (.node .leaf 3008 Ux .leaf) 3009 Xv .leaf) 5032 Yt (.node .leaf 5033 UU .leaf)) 5034 Ud (.node (.node .leaf 5035 Yy .leaf) 5036 Y5 (.node .leaf 6032 ajX .leaf)))))))
def ids:List (Nat×Nat):=[(0,2),(88,9),(111,49),(115,53),(126,64),(130,10),(138,67),(139,68),(140,69),(141,70),(142,71),(143,72),(144,73),(145,74),(223,88),(225,126),(227,128),(230,131),(231,132),(232,133),(235,136),(236,137),(238,139),(239,41),(240,77),(270,75),(271,76),(277,162),(278,163),(279,164),(280,165),(281,166),(282,167),(283,168),(284,169),(285,170),(286,171),(287,172),(288,173),(289,174),(290,175),(291,176),(292,177),(293,178),(294,179),(295,180),(296,181),(297,182),(298,183),(299,184),(300,185),(301,186),(302,187),(398,207),(399,208),(400,221),(404,223),(405,224),(406,225),(407,220),(408,226),(415,235),(417,237),(422,188),(423,189),(424,190),(425,191),(427,239),(428,240),(429,241),(430,242),(431,243),(432,244),(433,245),(434,246),(435,247),(436,248),(437,249),(438,250),(439,251),(440,252),(441,253),(442,254),(443,255),(444,256),(445,257),(494,268),(495,269),(496,270),(497,271),(498,272),(499,273),(500,274),(501,275),(502,283),(503,284),(504,282),(505,285),(507,288),(510,258),(511,259),(512,260),(513,261),(514,289),(515,290),(516,291),(517,292),(518,293),(519,294),(520,295),(521,296),(522,297),(523,298),(543,303),(544,304),(545,305),(546,306),(547,307),(548,309),(549,310),(550,311),(551,312),(552,313),(553,314),(554,315),(556,299),(557,300),(558,301),(559,302),(560,316),(561,317),(562,318),(563,319),(578,320),(579,321),(580,322),(581,323),(582,324),(583,325),(584,326),(585,327),(586,328),(592,329),(593,330),(594,331),(3008,166),(3009,243),(2031,178),(5036,288),(5035,290),(5034,244),(5033,166),(5032,68),(6032,68)]
def alts:List (Nat×Nat×Nat):=[(290,166,3008),(280,243,3009),(285,178,2031),(291,178,2031),(5035,288,5036),(5034,290,5035),(5033,244,5034),(5032,166,5033),(141,68,5032),(6032,166,5033),(88,68,6032)]
end P
end
section
namespace Go.Pw
open Go Go.Pav
@[simp] def eI(x:Int):List AV:=[.int .i64 x]
@[simp] def eU8(x:Int):List AV:=[.int .u8 x]
@[simp] def avw(x:Int):List AV:=[.int .u64 x]
@[simp] def eS(x:List UInt8):List AV:=[.str x]
@[simp] def eB(x:Bool):List AV:=[.bool x]
abbrev L1(xs:List Int)(e:Bool):AV:=.ro 1 (xs.map eI) e
attribute [simp] Int.natCast_inj
attribute [-simp] List.getElem_cons_drop
section
variable (a n:Nat)
@[simp] theorem ajP:((no_index (OfNat.ofNat a):Int)<(n:Int))=((no_index (OfNat.ofNat a):Nat)<n):=propext (Int.ofNat_lt (n:=(OfNat.ofNat a:Nat)) (m:=n))
@[simp] theorem akm:((n:Int)<(no_index (OfNat.ofNat a):Int))=(n<(no_index (OfNat.ofNat a):Nat)):=propext (Int.ofNat_lt (m:=(OfNat.ofNat a:Nat)) (n:=n))
@[simp] theorem ajW:((no_index (OfNat.ofNat a):Int)<=(n:Int))=((no_index (OfNat.ofNat a):Nat)<=n):=propext (Int.ofNat_le (m:=(OfNat.ofNat a:Nat)) (n:=n))
@[simp] theorem ajA:((n:Int)<=(no_index (OfNat.ofNat a):Int))=(n<=(no_index (OfNat.ofNat a):Nat)):=propext (Int.ofNat_le (n:=(OfNat.ofNat a:Nat)) (m:=n))
end
theorem UE{α β:Type}{f:α->β}{acc:List α}{n i:Nat}{z:β}(h:acc.length=i):(List.map f acc++List.replicate (n+1) z)[i]?=some z:=by rw[qax qqx];simp[h]
theorem Ub{α β:Type}{f:α->β}{acc:List α}{n i:Nat}{z v:β}(h:acc.length=i):(List.map f acc++List.replicate (n+1) z).set i v=List.map f acc++v::List.replicate n z:=by rw[List.set_append,qwx qqx];simp[h,qej]
@[simp] theorem asW(a b:Nat):(a+(b+1)<=a)=False:=zQz qqq
theorem drop_cons{α:Type}{l:List α}{i:Nat}(h:i<l.length):l.drop i=l[i]::l.drop (i+1):=zqz h
theorem ND{α:Type}{g:α->Option α}:∀{l:List α},(∀x∈l,g x=some x)->aZ g l=some l
 |[],_=>rfl
 |a::l,h=>by simp only[aZ,h a qVx,ob,ND λx hx=>h x (qyj _ hx),om]
@[simp] theorem apc(h:aI)(n:Nat)(k:IntKind)(l:List Int):aZ (bD h (n+1)) (List.map (AV.int k) l)=some (List.map (AV.int k) l) :=ND λx hx=>by obtain⟨y,_,rfl⟩:=qkx.1 hx;rfl
@[simp] theorem ajN(k:IntKind)(l:List Int):l.all (isC ∘ AV.int k)=true:=by simp[isC]
@[simp] theorem agn(l:List Bool):l.all (isC ∘ AV.bool)=true:=by simp[isC]
attribute [simp] rV
@[simp] theorem arn:((λx:AV=>[x]) ∘ AV.int .i64)=eI:=rfl
@[simp] theorem ahE(a b:Nat):(a+b<=a)=(b=0):=propext qqq
theorem isE{α:Type}{l:List α}(h:¬l=[]):l.isEmpty=false:=by cases l<;>simp_all
end Go.Pw
end
section
namespace Go.D
open Go Go.Pav Go.Pw P
attribute [-simp] List.getElem_cons_drop
variable {C:aJ}
def inN(b:UInt8):Bool:=decide (97<=b.toNat/\b.toNat<=122\/48<=b.toNat/\b.toNat<=57)
def inT(b:UInt8):Bool:=decide (32<=b.toNat/\b.toNat<=126)
def isName(s:List UInt8):Bool:=decide (1<=s.length)&&decide (s.length<=16)&&s.all inN
def isText(s:List UInt8):Bool:=decide (s.length<=64)&&s.all inT
def ppB(f:Nat):Bool:=f == 502||f == 494||f == 497||f == 434||f == 518||f == 549||f == 402||f == 411||f == 446||f == 466||f == 429||f == 514||f == 374||f == 480||(decide (1000<=f)&&decide (f<2000))
def aG(f:Nat):Bool:=f == 217||f == 459||decide (2000<=f)
abbrev GwC(C:aJ)(n:Nat)(w:WFn):=C.fns.get n=some w
structure ql(C:aJ):Prop where
 akT:GwC C 561 aio
 akY:GwC C 517 ZT
 alV:GwC C 557 ah1
 ak1:GwC C 556 abU
 ams:GwC C 511 aaE
 alv:GwC C 510 aeA
 aiA:GwC C 560 WI
 ajt:GwC C 545 ZU
 alP:GwC C 578 ahY
 akB:GwC C 543 agZ
 alm:GwC C 495 acF
 alq:GwC C 516 adE
 al5:GwC C 500 aat
 inl:C.inl=aG
 pp:C.pp=ppB
theorem ql.kk{C:aJ}(H:ql C):(∀f,C.inl f=(f == 217||f == 459||decide (2000<=f)))/\∀f,C.pp f=(f == 502||f == 494||f == 497||f == 434||f == 518||f == 549||f == 402||f == 411||f == 446||f == 466||f == 429||f == 514||f == 374||f == 480||(decide (1000<=f)&&decide (f<2000))):=⟨λf=>by rw[H.inl];rfl,λf=>by rw[H.pp];rfl⟩
theorem ZK(H:ql C)(b:UInt8):FnW C 561 [.int .u8 b.toNat]=some (.bool (inN b)):=by rw[aN H.akT rfl];unfold inN;by_cases c1:97<=b.toNat<;>by_cases c2:b.toNat<=122<;>by_cases c3:48<=b.toNat<;>by_cases c4:b.toNat<=57<;>simp[aio,c1,c2,c3,c4]
theorem XI(H:ql C)(s:List UInt8)(hl:s.length<=16):∀n i,n+i=s.length ->
 IX C ⟨[(14,.int .i64 i),(13,.int .i64 s.length),(0,.str s)],[],0⟩=some (.bool ((s.drop i).all inN)):=by
 intro n;induction n with
 |zero=>
  intro i hi;simp only[IX];rw[au Bo.eq_1];have h1:s.drop i=[]:=qzx qqq;have h3:¬i<s.length:=by omega
  simp[au Ol.eq_1,h1,h3]
 |succ n ih=>
  intro i hi;have h1:i<s.length:=by omega
  have:=ih (i+1) qqq;have hb:=ZK H s[i];simp only[IX]at this |-;rw[au Bo.eq_1];rw[drop_cons h1];simp at this;by_cases c:inN s[i]=true
  ·simp(disch:=omega) [h1,aK,hb,c,H.kk,this]
  ·simp(disch:=omega) [h1,aK,hb,c,H.kk]
theorem named_ok(H:ql C)(s:List UInt8):FnW C 517 [.str s]=some (.bool (isName s)):=by
 rw[aN H.akY rfl];unfold isName;by_cases c1:1<=s.length
 ·by_cases c2:s.length<=16
  ·have:=XI H s c2 s.length 0 qqz;simp only[IX]at this;simp at this;have c3:¬((s.length:Int)<1):=by omega
   have c4:¬(16<(s.length:Int)):=by omega
   simp[ZT,c1,c2,c3,c4,this]
  ·have c3:¬((s.length:Int)<1):=by omega
   have c4:(16<(s.length:Int)):=by omega
   simp[ZT,c1,c2,c3,c4]
 ·have c3:((s.length:Int)<1):=by omega
  simp[ZT,c1,c3]
theorem Fa(b:UInt8):(inN b=true/\(97<=b.toNat/\b.toNat<=122\/¬97<=b.toNat/\48<=b.toNat/\b.toNat<=57))\/(inN b=false/\(¬97<=b.toNat/\(¬48<=b.toNat\/¬b.toNat<=57)\/¬b.toNat<=122/\¬b.toNat<=57)):=by
 unfold inN;by_cases c:97<=b.toNat/\b.toNat<=122\/48<=b.toNat/\b.toNat<=57
 ·left;exact⟨qgj c,by omega⟩
 ·right;exact⟨qKj c,by omega⟩
theorem V3(H:ql C)(s:List UInt8)(hl:s.length<=16\/True):∀n i,n+i=min s.length 17 ->
 Gs C ⟨[(3,.int .i64 i),(0,.str s)],[],0⟩=some (.bool (((s.take 17).drop i).all inN&&decide (1<=s.length)&&decide (s.length<=16))):=by
 intro n;induction n with
 |zero=>
  intro i hi;simp only[Gs];rw[au Eb.eq_1];have h1:(s.take 17).drop i=[]:=qzx qqx;by_cases h3:i<s.length
  ·have h4:¬i<17:=by omega
   have h4':¬(i:Int)<17:=by omega
   have h5:¬s.length<=16:=by omega
   have h6:¬(s.length:Int)<=16:=by omega
   have h7:1<=(s.length:Int):=by omega
   simp[au yD.eq_1,h1,h3,h4,h4',h5,h6,h7]
  ·by_cases h5:s.length<=16<;>by_cases h6:1<=s.length
   ·have h7:(s.length:Int)<=16:=by omega
    have h8:1<=(s.length:Int):=by omega
    simp[au yD.eq_1,h1,h3,h5,h6,h7,h8]
   ·have h7:(s.length:Int)<=16:=by omega
    have h8:¬1<=(s.length:Int):=by omega
    simp[au yD.eq_1,h1,h3,h5,h6,h7,h8]
   ·have h7:¬(s.length:Int)<=16:=by omega
    have h8:1<=(s.length:Int):=by omega
    simp[au yD.eq_1,h1,h3,h5,h6,h7,h8]
   ·omega
 |succ n ih=>
  intro i hi;have h1:i<s.length:=by omega
  have h2:(i:Int)<17:=by omega
  have:=ih (i+1) qqq;have hd:(s.take 17).drop i=s[i]::(s.take 17).drop (i+1):=by rw[drop_cons (show i<(s.take 17).length by simp;omega)];simp
  rw[hd];simp only[Gs]at this |-;rw[au Eb.eq_1];simp at this;have key:=Fa s[i];by_cases q1:97<=s[i].toNat<;>by_cases q2:122<s[i].toNat<;>by_cases q3:48<=s[i].toNat<;>by_cases q4:57<s[i].toNat<;>first
   |(exfalso;omega)
   |(
    have c:inN s[i]=true:=by rcases key with⟨c,_⟩|⟨_,q⟩<;>first | exact c | (exfalso;omega)
    simp(disch:=omega) [h1,h2,aK,c,q1,q2,q3,q4,this];done)
   |(
    have c:inN s[i]=false:=by rcases key with⟨_,q⟩|⟨c,_⟩<;>first | exact c | (exfalso;omega)
    simp(disch:=omega) [h1,h2,aK,c,q1,q2,q3,q4];done)
theorem pR(H:ql C)(s:List UInt8):FnW C 557 [.str s]=some (.bool (isName s)):=by
 rw[aN H.alV rfl];have:=V3 H s (.inr trivial) (min s.length 17) 0 qqz;simp only[Gs]at this;simp only[qjz]at this;have e:((s.take 17).all inN&&decide (1<=s.length)&&decide (s.length<=16))=isName s:=by
  unfold isName;by_cases c:s.length<=16
  ·rw[qxz qqq];simp[c];rw[Bool.and_comm]
  ·simp[c]
 rw[e]at this;simp at this;simp[ah1,this]
theorem aaU(H:ql C)(s:List UInt8)(hl:s.length<=64):∀n i,n+i=s.length ->
 Ii C ⟨[(3,.int .i64 i),(0,.str s)],[],0⟩=some (.bool ((s.drop i).all inT)):=by
 intro n;induction n with
 |zero=>
  intro i hi;simp only[Ii];rw[au Ba.eq_1];have h1:s.drop i=[]:=qzx qqq;have h3:¬i<s.length:=by omega
  simp[au Oy.eq_1,h1,h3]
 |succ n ih=>
  intro i hi;have h1:i<s.length:=by omega
  have:=ih (i+1) qqq;simp only[Ii]at this |-;rw[au Ba.eq_1];rw[drop_cons h1];simp at this;by_cases c1:32<=s[i].toNat<;>by_cases c2:126<s[i].toNat
  ·have c:inT s[i]=false:=qKj (λq=>by omega);simp(disch:=omega) [h1,aK,c,c1,c2]
  ·have c:inT s[i]=true:=qgj ⟨c1,by omega⟩;simp(disch:=omega) [h1,aK,c,c1,c2,this]
  ·omega
  ·have c:inT s[i]=false:=qKj (λq=>c1 q.1);simp(disch:=omega) [h1,aK,c,c1,c2]
theorem AO(H:ql C)(s:List UInt8):FnW C 556 [.str s]=some (.bool (isText s)):=by
 rw[aN H.ak1 rfl];unfold isText;by_cases c2:s.length<=64
 ·have:=aaU H s c2 s.length 0 qqz;simp only[Ii]at this;simp at this;have c4:¬(64<(s.length:Int)):=by omega
  simp[abU,c2,c4,this]
 ·have c4:(64<(s.length:Int)):=by omega
  simp[abU,c2,c4]
theorem V4(H:ql C)(s:List UInt8)(hl:s.length<=64):∀n i,n+i=s.length ->
 Hg C ⟨[(3,.int .i64 i),(0,.str s)],[],0⟩=some (.int .i64 (if (s.drop i).all inT=true then 1 else 0)):=by
 intro n;induction n with
 |zero=>
  intro i hi;simp only[Hg];rw[au Bd.eq_1];have h1:s.drop i=[]:=qzx qqq;have h3:¬i<s.length:=by omega
  simp[au PG.eq_1,h1,h3]
 |succ n ih=>
  intro i hi;have h1:i<s.length:=by omega
  have:=ih (i+1) qqq;simp only[Hg]at this |-;rw[au Bd.eq_1];rw[drop_cons h1];generalize hX:((s.drop (i+1)).all inT)=X at *;simp at this;rw[qYj,hX];by_cases c1:32<=s[i].toNat<;>by_cases c2:126<s[i].toNat
  ·have c:inT s[i]=false:=qKj (λq=>by omega);simp(disch:=omega) [h1,aK,c,c1,c2]
  ·have c:inT s[i]=true:=qgj ⟨c1,by omega⟩;simp(disch:=omega) [h1,aK,c,c1,c2,this]
  ·omega
  ·have c:inT s[i]=false:=qKj (λq=>c1 q.1);simp(disch:=omega) [h1,aK,c,c1,c2]
theorem ab7(H:ql C)(s:List UInt8):FnW C 510 [.str s]=some (.int .i64 (if isText s=true then 1 else 0)):=by
 rw[aN H.alv rfl];unfold isText;by_cases c2:s.length<=64
 ·have:=V4 H s c2 s.length 0 qqz;simp only[Hg]at this;simp only[qjz]at this;generalize hX:s.all inT=X at *;simp at this;have c4:¬(64<(s.length:Int)):=by omega
  simp[aeA,c2,c4,this]
 ·have c4:(64<(s.length:Int)):=by omega
  simp[aeA,c2,c4]
structure Pred(C:aJ)(g:Nat)(Q:UInt8->Bool):Prop where
 asc:∀b:UInt8,b.toNat<128->FnW C g [.int .i32 b.toNat]=some (.bool (!Q b))
 high:∀r:Nat,128<=r->FnW C g [.int .i32 r]=some (.bool true)
 qh:∀b:UInt8,128<=b.toNat->Q b=false
 ne:ppB g=false
 ni:aG g=false
theorem aay(s:List UInt8)(pos:Nat)(h:pos<s.length)(ha:s[pos].toNat<128):Utf8.decode ⟨⟨s⟩⟩ pos=(s[pos].toNat,1):=decode_ascii ⟨⟨s⟩⟩ pos h ha
theorem afE(s:List UInt8)(pos:Nat)(h:pos<s.length)(ha:128<=s[pos].toNat):128<=(Utf8.decode ⟨⟨s⟩⟩ pos).1/\1<=(Utf8.decode ⟨⟨s⟩⟩ pos).2:=decode_high ⟨⟨s⟩⟩ pos h ha
theorem X8(H:ql C){g:Nat}{Q:UInt8->Bool}(G:Pred C g Q)(s:List UInt8):∀n pos,n+pos=s.length ->
 ∃v:Int,xu C ⟨[(10,.ptr 0 0 0),(2,.bool true),(1,.fn g [])],[(0,.iter s pos)],1⟩=some (.int .i64 v)/\decide (v<0)=(s.drop pos).all Q:=by
 intro n;induction n with
 |zero=>
  intro pos hp;simp only[xu];rw[au uS.eq_1];have h1:s.drop pos=[]:=qzx qqq;have h3:¬pos<s.length:=by omega
  exact⟨-1,by simp[au QJ.eq_1,h3],by simp[h1]⟩
 |succ n ih=>
  intro pos hp;have h1:pos<s.length:=by omega
  have hN:=G.ne;have hI:=G.ni;rw[drop_cons h1];by_cases ha:s[pos].toNat<128
  ·have hd:=aay s pos h1 ha;have hb:=G.asc s[pos] ha;by_cases c:Q s[pos]=true
   ·obtain⟨v,hv,hq⟩:=ih (pos+1) qqq;refine⟨v,?_,by simp[hq,c]⟩;simp only[xu]at hv |-;rw[au uS.eq_1];simp(disch:=omega) [h1,hd,hb,c,H.inl,hI,H.pp,hN,hv]
   ·refine⟨pos,?_,by simp[c]⟩;simp only[xu];rw[au uS.eq_1];simp(disch:=omega) [h1,hd,hb,c,H.inl,hI,H.pp,hN]
  ·have hd:=afE s pos h1 qqq;have hb:=G.high (Utf8.decode ⟨⟨s⟩⟩ pos).1 hd.1;have hq:=G.qh s[pos] qqq;refine⟨pos,?_,by simp[hq]⟩;simp only[xu];rw[au uS.eq_1];obtain⟨D,hD⟩:∃D,Utf8.decode ⟨⟨s⟩⟩ pos=D:=⟨_,rfl⟩;rw[hD]at hb;simp(disch:=omega) [h1,hD,hb,H.inl,hI,H.pp,hN]
theorem Bc(H:ql C){g:Nat}{Q:UInt8->Bool}(G:Pred C g Q)(s:List UInt8) :
 ∃v:Int,FnW C 543 [.str s,.fn g []]=some (.int .i64 v)/\decide (v<0)=s.all Q:=by
 obtain⟨v,h,q⟩:=X8 H G s s.length 0 qqz;refine⟨v,?_,q⟩;have h2:FnW C 578 [.str s,.fn g [],.bool true]=some (.int .i64 v):=by rw[aN H.alP rfl];simp only[xu]at h;simp[ahY,h]
 rw[aN H.akB rfl];simp[agZ,H.kk,h2]
theorem FY(H:ql C){g:Nat}{Q:UInt8->Bool}(G:Pred C g Q)(s:List UInt8) :
 FnW C 495 [.str s,.fn g []]=some (.bool (!s.all Q)):=by
 obtain⟨v,h,q⟩:=Bc H G s;rw[aN H.alm rfl,<- q];by_cases c:v<0
 ·have c':¬0<=v:=by omega
  simp[acF,H.kk,h,c,c']
 ·have c':0<=v:=by omega
  simp[acF,H.kk,h,c,c']
theorem ai5(H:ql C):Pred C 560 inT where
 asc b hb:=by
  rw[aN H.aiA rfl];by_cases c1:32<=b.toNat<;>by_cases c2:126<b.toNat
  ·have c:inT b=false:=qKj (λq=>by omega);simp[WI,c,c1,c2]
  ·have c:inT b=true:=qgj ⟨c1,by omega⟩;simp[WI,c,c1,c2]
  ·omega
  ·have c:inT b=false:=qKj (λq=>c1 q.1);simp[WI,c,c1,c2]
 high r hr:=by
  rw[aN H.aiA rfl];have h1:32<=r:=by omega
  have h2:126<r:=by omega
  simp[WI,h1,h2]
 qh b hb:=qKj (λq=>by omega)
 ne:=by rfl
 ni:=by rfl
theorem ahW(H:ql C):Pred C 545 inN where
 asc b hb:=by
  rw[aN H.ajt rfl];have key:=Fa b;by_cases q1:97<=b.toNat<;>by_cases q2:122<b.toNat<;>by_cases q3:48<=b.toNat<;>by_cases q4:57<b.toNat<;>first
   |(exfalso;omega)
   |(
    have c:inN b=true:=by rcases key with⟨c,_⟩|⟨_,q⟩<;>first | exact c | (exfalso;omega)
    simp[ZU,c,q1,q2,q3,q4];done)
   |(
    have c:inN b=false:=by rcases key with⟨_,q⟩|⟨c,_⟩<;>first | exact c | (exfalso;omega)
    simp[ZU,c,q1,q2,q3,q4];done)
 high r hr:=by
  rw[aN H.ajt rfl];have h1:97<=r:=by omega
  have h2:122<r:=by omega
  have h3:48<=r:=by omega
  have h4:57<r:=by omega
  simp[ZU,h1,h2,h3,h4]
 qh b hb:=by unfold inN;exact qKj (λq=>by omega)
 ne:=by rfl
 ni:=by rfl
theorem Yf(H:ql C)(s:List UInt8):FnW C 516 [.str s]=some (.bool (isText s)):=by
 obtain⟨v,h,q⟩:=Bc H (ai5 H) s;rw[aN H.alq rfl];unfold isText;rw[<- q];by_cases c2:s.length<=64
 ·have c4:(s.length:Int)<=64:=by omega
  simp[adE,c2,c4,H.kk,h]
 ·have c4:¬((s.length:Int)<=64):=by omega
  simp[adE,c2,c4]
theorem aeP(H:ql C)(s:List UInt8):FnW C 500 [.str s]=some (.bool (isName s)):=by
 have h:=FY H (ahW H) s;rw[aN H.al5 rfl];unfold isName;by_cases c1:s=[]
 ·subst c1;simp[aat]
 ·have c3:1<=s.length:=List.length_pos_iff.2 c1;by_cases c2:s.length<=16
  ·have c4:(s.length:Int)<=16:=by omega
   simp[aat,c1,c2,c3,c4,H.kk,h]
  ·have c4:¬((s.length:Int)<=16):=by omega
   simp[aat,c1,c2,c4]
end Go.D
end
section
namespace Go.Pav
open Go
def MH(ids:List (Nat×Nat))(f:FuncId):Option Nat :=
 match ids with
 |[]=>none
 |(g,k)::r=>if k=f then some g else MH r f
def FU(ids:List (Nat×Nat))(g:Nat):FuncId :=
 match get ids g with
 |some k=>k
 |none=>0
theorem abk:∀{ids:List (Nat×Nat)}{f:FuncId}{g:Nat},MH ids f=some g->(g,f)∈ids:=by
 intro ids;induction ids with
 |nil=>intro f g h;simp[MH]at h
 |cons x r ih=>
  intro f g h;obtain⟨a,k⟩:=x;simp only[MH]at h;split at h
  ·rename_i hk;cases h;subst hk;exact qVx
  ·exact qyj _ (ih h)
theorem agp{ids:List (Nat×Nat)}(hc:(ids.all λx=>decide (FU ids x.1=x.2))=true):∀f g,MH ids f=some g->FU ids g=f:=by intro f g h;have:=qkz.1 hc _ (abk h);simpa using this
def xO(p:Nat->CFn->Prop):Tree->Prop
 |.leaf=>True
 |.node l k f r=>xO p l/\p k f/\xO p r
theorem xO.get{p:Nat->CFn->Prop}:∀{t:Tree},xO p t->∀{g:Nat}{cf:CFn},t.get g=some cf->p g cf:=by
 intro t;induction t with
 |leaf=>intro _ g cf h;simp[Tree.get]at h
 |node l k f r ihl ihr=>
  intro ⟨h1,h2,h3⟩ g cf h;simp only[Tree.get]at h;split at h
  ·rename_i hk;cases h;subst hk;exact h2
  ·split at h
   ·exact ihl h1 h
   ·exact ihr h3 h
def U9:List (Nat×FuncId×Nat)->Nat->FuncId->Option Nat
 |[],_,_=>none
 |(g,f,k)::r,g',f'=>if g=g'/\f=f' then some k else U9 r g' f'
theorem aap:∀{alts:List (Nat×FuncId×Nat)}{g:Nat}{f:FuncId}{k:Nat},U9 alts g f=some k->(g,f,k)∈alts:=by
 intro alts;induction alts with
 |nil=>intro g f k h;simp[U9]at h
 |cons x r ih=>
  intro g f k h;obtain⟨a,b,c⟩:=x;simp only[U9]at h;split at h
  ·rename_i hk;obtain⟨rfl,rfl⟩:=hk;cases h;exact qVx
  ·exact qyj _ (ih h)
def agN(ids:List (Nat×Nat))(alts:List (Nat×FuncId×Nat))(g:Nat)(f:FuncId):Option Nat :=
 match U9 alts g f with
 |some k=>some k
 |none=>MH ids f
def aV(P:Program)(ids:List (Nat×Nat))(alts:List (Nat×FuncId×Nat))(g:Nat)(cf:CFn):Prop:=(∃fn,P.funcs[FU ids g]?=some fn/\(cFn P (agN ids alts g) fn).map J7=some (J7 cf))\/abQ P (FU ids) g cf
theorem linked{P:Program}{ids:List (Nat×Nat)}{alts:List (Nat×FuncId×Nat)}{C:Prog}(hc:(ids.all λx=>decide (FU ids x.1=x.2))=true)(ha:(alts.all λx=>decide (FU ids x.2.2=x.2.1))=true)
 (ht:xO (aV P ids alts) C.fns) (hm:P.follows .mixedOrders=true):Linked P (agN ids alts) (FU ids) C:=by
 refine⟨λg f k h=>?_,λ_ _ h=>ht.get h,hm⟩;unfold agN at h;split at h
 ·rename_i k' hk;cases h;simpa using qkz.1 ha _ (aap hk)
 ·exact agp hc _ _ h
end Go.Pav
end
section
set_option maxRecDepth 100000
namespace P
open Go Go.Pav Go.Pw Go.Proofs
open Tryz
abbrev lkk (g:Nat) (c:WFn):=aV Tryz.prog ids alts g (aU c)
theorem l0:lkk 0 w0:=.inl ⟨f2,func2,by kernel_rfl⟩
theorem l88:lkk 88 w88:=.inl ⟨f9,func9,by kernel_rfl⟩
theorem auy:lkk 111 ahG:=.inl ⟨f49,func49,by kernel_rfl⟩
theorem atC:lkk 115 Rj:=.inl ⟨f53,func53,by kernel_rfl⟩
theorem aus:lkk 126 aiu:=.inl ⟨f64,func64,by kernel_rfl⟩
theorem arJ:lkk 130 aie:=.inl ⟨f10,func10,by kernel_rfl⟩
theorem avd:lkk 138 agE:=.inl ⟨f67,func67,by kernel_rfl⟩
theorem atM:lkk 139 XC:=.inl ⟨f68,func68,by kernel_rfl⟩
theorem asv:lkk 140 agi:=.inl ⟨f69,func69,by kernel_rfl⟩
theorem asf:lkk 141 aiM:=.inl ⟨f70,func70,by kernel_rfl⟩
theorem asZ:lkk 142 O9:=.inl ⟨f71,func71,by kernel_rfl⟩
theorem atX:lkk 143 VN:=.inl ⟨f72,func72,by kernel_rfl⟩
theorem atO:lkk 144 abH:=.inl ⟨f73,func73,by kernel_rfl⟩
theorem auS:lkk 145 apo:=.inl ⟨f74,func74,by kernel_rfl⟩
theorem atI:lkk 223 aah:=.inl ⟨f88,func88,by kernel_rfl⟩
theorem atZ:lkk 225 ahn:=.inl ⟨f126,func126,by kernel_rfl⟩
theorem auM:lkk 227 agq:=.inl ⟨f128,func128,by kernel_rfl⟩
theorem ate:lkk 230 aaH:=.inl ⟨f131,func131,by kernel_rfl⟩
theorem aun:lkk 231 acf:=.inl ⟨f132,func132,by kernel_rfl⟩
theorem arI:lkk 232 aax:=.inl ⟨f133,func133,by kernel_rfl⟩
theorem auT:lkk 235 aaR:=.inl ⟨f136,func136,by kernel_rfl⟩
theorem auV:lkk 236 Tj:=.inl ⟨f137,func137,by kernel_rfl⟩
theorem l238:lkk 238 agA:=.inl ⟨f139,func139,by kernel_rfl⟩
theorem arH:lkk 239 aiI:=.inl ⟨f41,func41,by kernel_rfl⟩
theorem asb:lkk 240 aje:=.inl ⟨f77,func77,by kernel_rfl⟩
theorem aty:lkk 270 aiw:=.inl ⟨f75,func75,by kernel_rfl⟩
theorem auu:lkk 271 V9:=.inl ⟨f76,func76,by kernel_rfl⟩
theorem arY:lkk 277 aiD:=.inl ⟨f162,func162,by kernel_rfl⟩
theorem au1:lkk 278 ahP:=.inl ⟨f163,func163,by kernel_rfl⟩
theorem atW:lkk 279 ahQ:=.inl ⟨f164,func164,by kernel_rfl⟩
theorem asU:lkk 280 aau:=.inl ⟨f165,func165,by kernel_rfl⟩
theorem auv:lkk 281 Ux:=.inl ⟨f166,func166,by kernel_rfl⟩
theorem aup:lkk 282 ag2:=.inl ⟨f167,func167,by kernel_rfl⟩
theorem as5:lkk 283 aiB:=.inl ⟨f168,func168,by kernel_rfl⟩
theorem auB:lkk 284 ajc:=.inl ⟨f169,func169,by kernel_rfl⟩
theorem atg:lkk 285 XT:=.inl ⟨f170,func170,by kernel_rfl⟩
theorem arT:lkk 286 aai:=.inl ⟨f171,func171,by kernel_rfl⟩
theorem asB:lkk 287 ahF:=.inl ⟨f172,func172,by kernel_rfl⟩
theorem au5:lkk 288 ajj:=.inl ⟨f173,func173,by kernel_rfl⟩
theorem arC:lkk 289 adb:=.inl ⟨f174,func174,by kernel_rfl⟩
theorem asV:lkk 290 aam:=.inl ⟨f175,func175,by kernel_rfl⟩
theorem asT:lkk 291 acT:=.inl ⟨f176,func176,by kernel_rfl⟩
theorem atA:lkk 292 aoo:=.inl ⟨f177,func177,by kernel_rfl⟩
theorem asP:lkk 293 Xi:=.inl ⟨f178,func178,by kernel_rfl⟩
theorem atj:lkk 294 ahf:=.inl ⟨f179,func179,by kernel_rfl⟩
theorem aue:lkk 295 ahw:=.inl ⟨f180,func180,by kernel_rfl⟩
theorem asr:lkk 296 P5:=.inl ⟨f181,func181,by kernel_rfl⟩
theorem aum:lkk 297 aeN:=.inl ⟨f182,func182,by kernel_rfl⟩
theorem auj:lkk 298 acw:=.inl ⟨f183,func183,by kernel_rfl⟩
theorem auq:lkk 299 aif:=.inl ⟨f184,func184,by kernel_rfl⟩
theorem att:lkk 300 adZ:=.inl ⟨f185,func185,by kernel_rfl⟩
theorem asG:lkk 301 ao1:=.inl ⟨f186,func186,by kernel_rfl⟩
theorem auO:lkk 302 aoq:=.inl ⟨f187,func187,by kernel_rfl⟩
theorem atY:lkk 398 VF:=.inl ⟨f207,func207,by kernel_rfl⟩
theorem at7:lkk 399 ahX:=.inl ⟨f208,func208,by kernel_rfl⟩
theorem auY:lkk 400 aeg:=.inl ⟨f221,func221,by kernel_rfl⟩
theorem atQ:lkk 404 aiv:=.inl ⟨f223,func223,by kernel_rfl⟩
theorem ava:lkk 405 ae6:=.inl ⟨f224,func224,by kernel_rfl⟩
theorem arL:lkk 406 ajp:=.inl ⟨f225,func225,by kernel_rfl⟩
theorem asj:lkk 407 aiS:=.inl ⟨f220,func220,by kernel_rfl⟩
theorem asy:lkk 408 aeE:=.inl ⟨f226,func226,by kernel_rfl⟩
theorem au2:lkk 415 LC:=.inl ⟨f235,func235,by kernel_rfl⟩
theorem atx:lkk 417 ahU:=.inl ⟨f237,func237,by kernel_rfl⟩
theorem as6:lkk 422 KC:=.inl ⟨f188,func188,by kernel_rfl⟩
theorem asI:lkk 423 aht:=.inl ⟨f189,func189,by kernel_rfl⟩
theorem au0:lkk 424 Vf:=.inl ⟨f190,func190,by kernel_rfl⟩
theorem auD:lkk 425 LU:=.inl ⟨f191,func191,by kernel_rfl⟩
theorem aul:lkk 427 aiO:=.inl ⟨f239,func239,by kernel_rfl⟩
theorem avg:lkk 428 agF:=.inl ⟨f240,func240,by kernel_rfl⟩
theorem atf:lkk 429 ahz:=.inl ⟨f241,func241,by kernel_rfl⟩
theorem arQ:lkk 430 ahB:=.inl ⟨f242,func242,by kernel_rfl⟩
theorem ata:lkk 431 Xv:=.inl ⟨f243,func243,by kernel_rfl⟩
theorem avb:lkk 432 acV:=.inl ⟨f244,func244,by kernel_rfl⟩
theorem atv:lkk 433 Jz:=.inl ⟨f245,func245,by kernel_rfl⟩
theorem atS:lkk 434 zh:=.inl ⟨f246,func246,by kernel_rfl⟩
theorem atN:lkk 435 agc:=.inl ⟨f247,func247,by kernel_rfl⟩
theorem ar4:lkk 436 ah2:=.inl ⟨f248,func248,by kernel_rfl⟩
theorem arS:lkk 437 afN:=.inl ⟨f249,func249,by kernel_rfl⟩
theorem arP:lkk 438 Qa:=.inl ⟨f250,func250,by kernel_rfl⟩
theorem atu:lkk 439 afy:=.inl ⟨f251,func251,by kernel_rfl⟩
theorem as4:lkk 440 agW:=.inl ⟨f252,func252,by kernel_rfl⟩
theorem asl:lkk 441 afU:=.inl ⟨f253,func253,by kernel_rfl⟩
theorem ath:lkk 442 adH:=.inl ⟨f254,func254,by kernel_rfl⟩
theorem atq:lkk 443 aiW:=.inl ⟨f255,func255,by kernel_rfl⟩
theorem atb:lkk 444 aci:=.inl ⟨f256,func256,by kernel_rfl⟩
theorem avi:lkk 445 an1:=.inl ⟨f257,func257,by kernel_rfl⟩
theorem asQ:lkk 494 ach:=.inl ⟨f268,func268,by kernel_rfl⟩
theorem auR:lkk 495 acF:=.inl ⟨f269,func269,by kernel_rfl⟩
theorem atP:lkk 496 XE:=.inl ⟨f270,func270,by kernel_rfl⟩
theorem au9:lkk 497 afJ:=.inl ⟨f271,func271,by kernel_rfl⟩
theorem ase:lkk 498 abY:=.inl ⟨f272,func272,by kernel_rfl⟩
theorem auQ:lkk 499 ag8:=.inl ⟨f273,func273,by kernel_rfl⟩
theorem aua:lkk 500 aat:=.inl ⟨f274,func274,by kernel_rfl⟩
theorem aub:lkk 501 LP:=.inl ⟨f275,func275,by kernel_rfl⟩
theorem auC:lkk 502 aes:=.inl ⟨f283,func283,by kernel_rfl⟩
theorem asN:lkk 503 ahC:=.inl ⟨f284,func284,by kernel_rfl⟩
theorem asM:lkk 504 aiG:=.inl ⟨f282,func282,by kernel_rfl⟩
theorem auW:lkk 505 aaV:=.inl ⟨f285,func285,by kernel_rfl⟩
theorem ar8:lkk 507 aiC:=.inl ⟨f288,func288,by kernel_rfl⟩
theorem asq:lkk 510 aeA:=.inl ⟨f258,func258,by kernel_rfl⟩
theorem auE:lkk 511 aaE:=.inl ⟨f259,func259,by kernel_rfl⟩
theorem asA:lkk 512 X0:=.inl ⟨f260,func260,by kernel_rfl⟩
theorem ar6:lkk 513 Vs:=.inl ⟨f261,func261,by kernel_rfl⟩
theorem atG:lkk 514 aiP:=.inl ⟨f289,func289,by kernel_rfl⟩
theorem ar7:lkk 515 agX:=.inl ⟨f290,func290,by kernel_rfl⟩
theorem asY:lkk 516 adE:=.inl ⟨f291,func291,by kernel_rfl⟩
theorem arF:lkk 517 ZT:=.inl ⟨f292,func292,by kernel_rfl⟩
theorem auK:lkk 518 afK:=.inl ⟨f293,func293,by kernel_rfl⟩
theorem ar1:lkk 519 afw:=.inl ⟨f294,func294,by kernel_rfl⟩
theorem auh:lkk 520 aaI:=.inl ⟨f295,func295,by kernel_rfl⟩
theorem arM:lkk 521 acj:=.inl ⟨f296,func296,by kernel_rfl⟩
theorem ash:lkk 522 ZP:=.inl ⟨f297,func297,by kernel_rfl⟩
theorem auc:lkk 523 N8:=.inl ⟨f298,func298,by kernel_rfl⟩
theorem as3:lkk 543 agZ:=.inl ⟨f303,func303,by kernel_rfl⟩
theorem atL:lkk 544 ahk:=.inl ⟨f304,func304,by kernel_rfl⟩
theorem arW:lkk 545 ZU:=.inl ⟨f305,func305,by kernel_rfl⟩
theorem ato:lkk 546 X6:=.inl ⟨f306,func306,by kernel_rfl⟩
theorem atT:lkk 547 aib:=.inl ⟨f307,func307,by kernel_rfl⟩
theorem ar5:lkk 548 W9:=.inl ⟨f309,func309,by kernel_rfl⟩
theorem atl:lkk 549 je:=.inl ⟨f310,func310,by kernel_rfl⟩
theorem asL:lkk 550 aa6:=.inl ⟨f311,func311,by kernel_rfl⟩
theorem auG:lkk 551 aeZ:=.inl ⟨f312,func312,by kernel_rfl⟩
theorem asw:lkk 552 aem:=.inl ⟨f313,func313,by kernel_rfl⟩
theorem arN:lkk 553 agG:=.inl ⟨f314,func314,by kernel_rfl⟩
theorem au4:lkk 554 aek:=.inl ⟨f315,func315,by kernel_rfl⟩
theorem asz:lkk 556 abU:=.inl ⟨f299,func299,by kernel_rfl⟩
theorem atr:lkk 557 ah1:=.inl ⟨f300,func300,by kernel_rfl⟩
theorem arD:lkk 558 afm:=.inl ⟨f301,func301,by kernel_rfl⟩
theorem auH:lkk 559 ah9:=.inl ⟨f302,func302,by kernel_rfl⟩
theorem asi:lkk 560 WI:=.inl ⟨f316,func316,by kernel_rfl⟩
theorem arG:lkk 561 aio:=.inl ⟨f317,func317,by kernel_rfl⟩
theorem atJ:lkk 562 agt:=.inl ⟨f318,func318,by kernel_rfl⟩
theorem atK:lkk 563 zi:=.inl ⟨f319,func319,by kernel_rfl⟩
theorem at6:lkk 578 ahY:=.inl ⟨f320,func320,by kernel_rfl⟩
theorem as1:lkk 579 ait:=.inl ⟨f321,func321,by kernel_rfl⟩
theorem arV:lkk 580 agm:=.inl ⟨f322,func322,by kernel_rfl⟩
theorem atH:lkk 581 ahp:=.inl ⟨f323,func323,by kernel_rfl⟩
theorem arU:lkk 582 ahm:=.inl ⟨f324,func324,by kernel_rfl⟩
theorem atn:lkk 583 ah6:=.inl ⟨f325,func325,by kernel_rfl⟩
theorem auI:lkk 584 ai3:=.inl ⟨f326,func326,by kernel_rfl⟩
theorem atz:lkk 585 aee:=.inl ⟨f327,func327,by kernel_rfl⟩
theorem arE:lkk 586 mG:=.inl ⟨f328,func328,by kernel_rfl⟩
theorem avf:lkk 592 ac8:=.inl ⟨f329,func329,by kernel_rfl⟩
theorem asX:lkk 593 air:=.inl ⟨f330,func330,by kernel_rfl⟩
theorem arR:lkk 594 ae5:=.inl ⟨f331,func331,by kernel_rfl⟩
theorem aob:lkk 3008 Ux:=.inl ⟨f166,func166,by kernel_rfl⟩
theorem aps:lkk 3009 Xv:=.inl ⟨f243,func243,by kernel_rfl⟩
theorem aoK:lkk 2031 Xi:=.inl ⟨f178,func178,by kernel_rfl⟩
theorem an0:lkk 5036 Y5:=.inl ⟨f288,func288,by kernel_rfl⟩
theorem apl:lkk 5035 Yy:=.inl ⟨f290,func290,by kernel_rfl⟩
theorem anM:lkk 5034 Ud:=.inl ⟨f244,func244,by kernel_rfl⟩
theorem ao4:lkk 5033 UU:=.inl ⟨f166,func166,by kernel_rfl⟩
theorem anD:lkk 5032 Yt:=.inl ⟨f68,func68,by kernel_rfl⟩
theorem anI:lkk 6032 ajX:=.inl ⟨f68,func68,by kernel_rfl⟩
def prog:aJ:=⟨tree,Go.D.aG,Go.D.ppB⟩
theorem all:xO (aV Tryz.prog ids alts) (fK prog).fns:=⟨⟨⟨⟨⟨⟨⟨⟨trivial,l0,trivial⟩,l88,trivial⟩,auy,⟨trivial,atC,trivial⟩⟩,aus,⟨⟨⟨trivial,arJ,trivial⟩,avd,trivial⟩,atM,⟨trivial,asv,trivial⟩⟩⟩,asf,⟨⟨⟨⟨trivial,asZ,trivial⟩,atX,trivial⟩,atO,⟨trivial,auS,trivial⟩⟩,atI,⟨⟨⟨trivial,atZ,trivial⟩,auM,trivial⟩,ate,⟨trivial,aun,trivial⟩⟩⟩⟩,arI,⟨⟨⟨⟨⟨trivial,auT,trivial⟩,auV,trivial⟩,l238,⟨trivial,arH,trivial⟩⟩,asb,⟨⟨⟨trivial,aty,trivial⟩,auu,trivial⟩,arY,⟨trivial,au1,trivial⟩⟩⟩,atW,⟨⟨⟨⟨trivial,asU,trivial⟩,auv,trivial⟩,aup,⟨trivial,as5,trivial⟩⟩,auB,⟨⟨trivial,atg,trivial⟩,arT,⟨trivial,asB,trivial⟩⟩⟩⟩⟩,au5,⟨⟨⟨⟨⟨⟨trivial,arC,trivial⟩,asV,trivial⟩,asT,⟨trivial,atA,trivial⟩⟩,asP,⟨⟨⟨trivial,atj,trivial⟩,aue,trivial⟩,asr,⟨trivial,aum,trivial⟩⟩⟩,auj,⟨⟨⟨⟨trivial,auq,trivial⟩,att,trivial⟩,asG,⟨trivial,auO,trivial⟩⟩,atY,⟨⟨⟨trivial,at7,trivial⟩,auY,trivial⟩,atQ,⟨trivial,ava,trivial⟩⟩⟩⟩,arL,⟨⟨⟨⟨⟨trivial,asj,trivial⟩,asy,trivial⟩,au2,⟨trivial,atx,trivial⟩⟩,as6,⟨⟨⟨trivial,asI,trivial⟩,au0,trivial⟩,auD,⟨trivial,aul,trivial⟩⟩⟩,avg,⟨⟨⟨⟨trivial,atf,trivial⟩,arQ,trivial⟩,ata,⟨trivial,avb,trivial⟩⟩,atv,⟨⟨trivial,atS,trivial⟩,atN,⟨trivial,ar4,trivial⟩⟩⟩⟩⟩⟩,arS,⟨⟨⟨⟨⟨⟨⟨trivial,arP,trivial⟩,atu,trivial⟩,as4,⟨trivial,asl,trivial⟩⟩,ath,⟨⟨⟨trivial,atq,trivial⟩,atb,trivial⟩,avi,⟨trivial,asQ,trivial⟩⟩⟩,auR,⟨⟨⟨⟨trivial,atP,trivial⟩,au9,trivial⟩,ase,⟨trivial,auQ,trivial⟩⟩,aua,⟨⟨⟨trivial,aub,trivial⟩,auC,trivial⟩,asN,⟨trivial,asM,trivial⟩⟩⟩⟩,auW,⟨⟨⟨⟨⟨trivial,ar8,trivial⟩,asq,trivial⟩,auE,⟨trivial,asA,trivial⟩⟩,ar6,⟨⟨⟨trivial,atG,trivial⟩,ar7,trivial⟩,asY,⟨trivial,arF,trivial⟩⟩⟩,auK,⟨⟨⟨⟨trivial,ar1,trivial⟩,auh,trivial⟩,arM,⟨trivial,ash,trivial⟩⟩,auc,⟨⟨trivial,as3,trivial⟩,atL,⟨trivial,arW,trivial⟩⟩⟩⟩⟩,ato,⟨⟨⟨⟨⟨⟨trivial,atT,trivial⟩,ar5,trivial⟩,atl,⟨trivial,asL,trivial⟩⟩,auG,⟨⟨⟨trivial,asw,trivial⟩,arN,trivial⟩,au4,⟨trivial,asz,trivial⟩⟩⟩,atr,⟨⟨⟨⟨trivial,arD,trivial⟩,auH,trivial⟩,asi,⟨trivial,arG,trivial⟩⟩,atJ,⟨⟨trivial,atK,trivial⟩,at6,⟨trivial,as1,trivial⟩⟩⟩⟩,arV,⟨⟨⟨⟨⟨trivial,atH,trivial⟩,arU,trivial⟩,atn,⟨trivial,auI,trivial⟩⟩,atz,⟨⟨⟨trivial,arE,trivial⟩,avf,trivial⟩,asX,⟨trivial,arR,trivial⟩⟩⟩,aoK,⟨⟨⟨⟨trivial,aob,trivial⟩,aps,trivial⟩,anD,⟨trivial,ao4,trivial⟩⟩,anM,⟨⟨trivial,apl,trivial⟩,an0,⟨trivial,anI,trivial⟩⟩⟩⟩⟩⟩⟩
theorem okT:uy prog.fns=true:=by kernel_rfl
theorem link:Linked Tryz.prog (agN ids alts) (FU ids) (fK prog):=linked (by kernel_rfl) (by kernel_rfl) all (by kernel_rfl)
end P
end
section
namespace Go.Pw
open Go Go.Pav
inductive CT where
 |bool
 |int (k:IntKind)
 |str
 |slice (ts:List CT)
inductive Ty:CT->AV->Prop
 |bool (b:Bool):Ty .bool (.bool b)
 |int (k:IntKind) (n:Int) (h1:k.min<=n) (h2:n<=k.max):Ty (.int k) (.int k n)
 |str (s:List UInt8) (h:s.length<2 ^ 63):Ty .str (.str s)
 |slice (ts:List CT) (es:List (List AV)) (ex:Bool) (hn:es.length<2 ^ 63) (hw:∀(i:Nat) (e:List AV),es[i]?=some e->e.length=ts.length)
  (h:∀(i:Nat) (e:List AV) (j:Nat) (ct:CT) (x:AV),es[i]?=some e->ts[j]?=some ct->e[j]?=some x->Ty ct x):Ty (.slice ts) (.ro ts.length es ex)
theorem Ty.isC{ct:CT}{a:AV}(h:Ty ct a):Pw.isC a=true:=by cases h<;>rfl
def DC(F:TypeId->Option (List CT))(P:Program):List Field->Nat->Option (List CT)
 |[],_=>some []
 |f::r,off=>(F f.type).bind λts=>if f.offset=off/\ts.length=P.cellsOf f.type then(DC F P r (off+ts.length)).map (ts++·)else none
def vI(P:Program):Nat->TypeId->Option (List CT)
 |0,_=>none
 |n+1,t=>match P.underlying t with
  |some .bool=>some [.bool]
  |some (.int k)=>some [.int k]
  |some .string=>some [.str]
  |some (.slice e)=>(vI P n e).bind λts=>if ts.length=P.cellsOf e/\0<ts.length then some [.slice ts]else none
  |some (.struct fs)=>(DC (vI P n) P fs.toList 0).bind λts=>if ts.length=P.cellsOf t then some ts else none
  |some (.array m e)=>(vI P n e).bind λts=>if ts.length=P.cellsOf e/\m*ts.length=P.cellsOf t then some (List.replicate m ts).flatten else none
  |_=>none
theorem Fz{α:Type}(ts:List α):∀(m j:Nat),j<m*ts.length->(List.replicate m ts).flatten[j]?=ts[j % ts.length]?
 |0,j,h=>by simp at h
 |m+1,j,h=>by
  rw[qej,List.flatten_cons];rcases qrx j ts.length with hl | hl
  ·rw[qJj hl,Nat.mod_eq_of_lt hl]
  ·rw[qax hl,Fz ts m (j-ts.length) (by rw[qYq]at h;omega),Nat.mod_eq_sub_mod hl]
theorem trod_array{H:Type}{enc:TypeId×Value->H}{P:Program}{w:World}{base:Nat}{spare:Nat->Bool}{held:Bool}{fuel:Nat}{t:TypeId}{cs:List Value}{x:DataW H×List MemPlace}{m:Nat}{e:TypeId}
 (ht:P.underlying t=some (.array m e)) (h:DataW.trod enc P w base spare held fuel t cs=some x) :
 ∃(xs:List (DataW H×List MemPlace)) (n:Nat),fuel=n+1/\cs.length=P.cellsOf t/\xs.length=m /\
  ∀i,i<m->DataW.trod enc P w base spare held n e ((cs.drop (i*P.cellsOf e)).take (P.cellsOf e))=xs[i]?:=by
 cases fuel with
 |zero=>simp[DataW.trod]at h
 |succ n=>unfold DataW.trod at h;rw[ht]at h;split at h<;>simp_all;obtain⟨hl,xs,hp,hd⟩:=h;exact⟨xs,by simpa using mapM_some_length hp,λi hi=>mapM_some_get hp i i (List.getElem?_range hi)⟩
def Jp(ψ:Nat->FuncId)(W:World)(ct:CT)(v:Value):Prop :=∃a a',Ty ct a/\VD id (λ_=>False) a a'/\a'.cell=true/\VR ψ W (λc=>c<W.heap.size) (λ_=>(0,0)) (λ_=>False) a' v
section
variable {H:Type}{enc:TypeId×Value->H}{P:Program}{W:World}{ψ:Nat->FuncId}
theorem TN{F:TypeId->Option (List CT)}{n:Nat}{cs:List Value}
 (hF:∀t cs x ts,F t=some ts->DataW.trod enc P W 0 (λ_=>true) true n t cs=some x->cs.length=ts.length/\∀(j:Nat) (ct:CT),ts[j]?=some ct->∃v,cs[j]?=some v/\Jp ψ W ct v) :
 ∀(fs:List Field) (off:Nat) (ts:List CT),DC F P fs off=some ts->(∀f∈fs,∃x,DataW.trod enc P W 0 (λ_=>true) true n f.type ((cs.drop f.offset).take (P.cellsOf f.type))=some x) ->
  ∀(j:Nat) (ct:CT),ts[j]?=some ct->∃v,cs[off+j]?=some v/\Jp ψ W ct v:=by
 intro fs;induction fs with
 |nil=>intro off ts h _ j ct hj;simp only[DC,qwq]at h;subst h;simp at hj
 |cons f r ih=>
  intro off ts h hx j ct hj;simp only[DC,qzz]at h;obtain⟨t1,h1,h⟩:=h;split at h
  ·rename_i hc;simp only[qyz]at h;obtain⟨t2,h2,rfl⟩:=h;rcases qrx j t1.length with hl | hl
   ·rw[qJj hl]at hj;obtain⟨x,q⟩:=hx f qqz;obtain⟨v,q1,q2⟩:=(hF _ _ _ _ h1 q).2 j ct hj;refine⟨v,?_,q2⟩;rw[qJz]at q1;split at q1
    ·rw[qVz]at q1;rw[<- hc.1];exact q1
    ·cases q1
   ·rw[qax hl]at hj;obtain⟨v,q1,q2⟩:=ih _ _ h2 (λf hf=>hx f (by simp[hf])) _ ct hj;exact⟨v,by rw[<- q1];congr 1;omega,q2⟩
  ·cases h
theorem Jq:∀(n k:Nat) (t:TypeId) (cs:List Value) (x:DataW H×List MemPlace) (ts:List CT),vI P k t=some ts->DataW.trod enc P W 0 (λ_=>true) true n t cs=some x ->
 cs.length=ts.length/\∀(j:Nat) (ct:CT),ts[j]?=some ct->∃v,cs[j]?=some v/\Jp ψ W ct v:=by
 intro n;induction n with
 |zero=>intro k t cs x ts _ h;simp[DataW.trod]at h
 |succ n ih=>
  intro k t cs x ts hf h;cases k with
  |zero=>simp[vI]at hf
  |succ k=>
   have one:∀{v:Value}{ct:CT},cs=[v]->ts=[ct]->Jp ψ W ct v->cs.length=ts.length/\∀(j:Nat) (ct:CT),ts[j]?=some ct->∃v,cs[j]?=some v/\Jp ψ W ct v:=by
    intro v ct h1 h2 h3;subst h1;subst h2;refine⟨rfl,λj ct' hj=>?_⟩;cases j with
    |zero=>simp only[List.getElem?_cons_zero,qwq]at hj;subst hj;exact⟨v,rfl,h3⟩
    |succ j=>simp at hj
   unfold vI at hf;split at hf
   ·rename_i ht;cases hf;obtain⟨b,e,_⟩:=DataW.trod_bool ht h;exact one e rfl ⟨_,_,.bool b,.bool b,rfl,.bool b⟩
   ·rename_i k' ht;cases hf;obtain⟨m,e,_,hw⟩:=DataW.trod_int ht h;simp only[Lit.wf,qwz,qkj]at hw;exact one e rfl ⟨_,_,.int k' m hw.1 hw.2,.int k' m,rfl,.int k' m⟩
   ·rename_i ht;cases hf;obtain⟨s,e,_,hw⟩:=DataW.trod_string ht h;refine one e rfl ⟨.str s.data.toList,_,.str _ ?_,.str _,rfl,?_⟩
    ·simp only[maxLen]at hw;have:s.data.toList.length=s.size:=rfl;omega
    ·have:=VR.str (ψ:=ψ) (w:=W) (S:=λc=>c<W.heap.size) (m:=λ_=>(0,0)) (A:=λ_=>False) s.data.toList;exact this
   ·rename_i el ht;simp only[qzz]at hf;obtain⟨us,hu,hf⟩:=hf;split at hf
    ·rename_i hz;obtain⟨hz,hz0⟩:=hz;cases hf;rcases DataW.trod_slice ht h with⟨e,_⟩|⟨a,len,cap,elems,rest,n',hn,e,_,_,hl,hm,hlen,hel,hsp,_⟩
     ·exact one e rfl ⟨.ro us.length [] true,.bG,.slice us [] true qqz qqz qqz,.jh _ _,rfl,.bG⟩
     ·cases hn;refine one e rfl ?_;have row:∀i,i<cap->∃vs y,W.cells? 0 (a.add (i*us.length)) us.length=some vs/\DataW.trod enc P W 0 (λ_=>true) true n el vs=some y:=by
       intro i hi;rcases qrx i len with hil | hil
       ·have:=hel i hil;rw[qqj qqq,qzz,<- hz]at this;obtain⟨vs,q1,q2⟩:=this;exact⟨vs,_,q1,q2⟩
       ·obtain⟨q0,q⟩:=hsp rfl;have:=q (i-len) qqq;rw[qqj qqq,qzz,<- hz,show len+(i-len)=i by omega]at this;obtain⟨vs,q1,q2⟩:=this;exact⟨vs,_,q1,q2⟩
      rcases Nat.eq_zero_or_pos cap with hc0 | hc0
      ·subst hc0;obtain rfl:len=0:=by omega
       exact⟨.ro us.length [] true,.ro us.length [] true,.slice us [] true qqz qqz qqz,.ro _ [] [] true true qqz rfl id qqz qqz,rfl,.roe _ _ _ 0 (λ_=>rfl)⟩
      ·obtain⟨b,off,spot⟩:=a;have hfirst:∃v,W.cell? ⟨b,off,spot⟩=some v:=by obtain⟨vs,_,q1,_⟩:=row 0 hc0;obtain⟨_,q2,q3⟩:=World.cells?_some q1;have:=q3 0 hz0;rw[qqj qqq]at this;exact⟨_,by simpa [Addr.add]using this⟩
       obtain⟨v0,hv0⟩:=hfirst;obtain rfl:spot=none:=World.cell?_spot hv0;have hS:b<W.heap.size:=by
        unfold World.cell? at hv0;split at hv0
        ·rename_i hb;exact(qWz.1 hb).1
        ·cases hv0
       have key:∀p:Nat×Nat,∃q:Value×AV×AV,p.1<len->∀ct,us[p.2]?=some ct->W.cell? ⟨b,off+p.1*us.length+p.2,none⟩=some q.1/\Ty ct q.2.1/\VD id (λ_=>False) q.2.1 q.2.2/\q.2.2.cell=true /\
        VR ψ W (λc=>c<W.heap.size) (λ_=>(0,0)) (λ_=>False) q.2.2 q.1:=by
        intro ⟨i,j⟩;by_cases hi:i<len
        ·cases hj:us[j]? with
         |none=>exact⟨default,λ_ ct q=>by cases q⟩
         |some ct=>obtain⟨vs,y,q1,q2⟩:=row i qqq;obtain⟨v,q3,c1,c2,q4,q5,q6,q7⟩:=(ih _ _ _ _ _ hu q2).2 j ct hj;refine⟨(v,c1,c2),λ_ ct' q=>?_⟩;cases q;refine⟨?_,q4,q5,q6,q7⟩;obtain⟨_,r1,r2⟩:=World.cells?_some q1;have hjl:j<us.length:=(qzj.1 hj).1;have:=r2 j hjl;rw[q3]at this;rw[<- this];congr 1;simp only[Addr.add];split<;>split<;>simp_all<;>omega
        ·exact⟨default,λq=>absurd q hi⟩
       obtain⟨F,hF⟩:=zxq key;let es:List (List AV):=(List.range len).map λi=>(List.range us.length).map λj=>(F (i,j)).2.1;let es':List (List AV):=(List.range len).map λi=>(List.range us.length).map λj=>(F (i,j)).2.2;have g1:∀(i:Nat) (e:List AV),es[i]?=some e->i<len/\e=(List.range us.length).map λj=>(F (i,j)).2.1:=by intro i e he;simp only[es,qQq,qyz]at he;obtain⟨i',q1,q2⟩:=he;have:=qzj.1 q1;obtain⟨q3,q4⟩:=this;simp at q3 q4;subst q4;exact⟨q3,q2.symm⟩
       have g1':∀(i:Nat) (e:List AV),es'[i]?=some e->i<len/\e=(List.range us.length).map λj=>(F (i,j)).2.2:=by intro i e he;simp only[es',qQq,qyz]at he;obtain⟨i',q1,q2⟩:=he;have:=qzj.1 q1;obtain⟨q3,q4⟩:=this;simp at q3 q4;subst q4;exact⟨q3,q2.symm⟩
       have g2:∀(G:Nat->AV) (j:Nat) (x:AV),((List.range us.length).map G)[j]?=some x->∃ct,us[j]?=some ct/\x=G j:=by intro G j x hx;simp only[qQq,qyz]at hx;obtain⟨j',q1,q2⟩:=hx;obtain⟨q3,q4⟩:=qzj.1 q1;simp at q3 q4;subst q4;exact⟨us[j],qqj q3,q2.symm⟩
       have l1:es.length=len:=by simp[es]
       have l2:es'.length=len:=by simp[es']
       refine⟨.ro us.length es (decide (cap=len)),.ro us.length es' (decide (cap=len)),.slice us es _ ?_ ?_ ?_,.ro _ es es' _ _ ?_ (by rw[l1,l2]) id ?_ ?_,rfl,?_⟩
       ·rw[l1];simp only[maxLen]at hm;omega
       ·intro i e he;rw[(g1 i e he).2];simp
       ·intro i e j ct y he hct hy;obtain⟨q1,rfl⟩:=g1 i e he;obtain⟨ct',q2,rfl⟩:=g2 _ j y hy;rw[hct]at q2;cases q2;exact(hF (i,j) q1 ct hct).2.1
       ·intro e he y hy;obtain⟨i,he⟩:=q6x he;obtain⟨j,hy⟩:=q6x hy;obtain⟨q1,rfl⟩:=g1 i e he;obtain⟨ct',q2,rfl⟩:=g2 _ j y hy;exact(hF (i,j) q1 ct' q2).2.1.isC
       ·intro i e e' he he';rw[(g1 i e he).2,(g1' i e' he').2];simp
       ·intro i e e' j y y' he he' hy hy';obtain⟨q1,rfl⟩:=g1 i e he;obtain⟨_,rfl⟩:=g1' i e' he';obtain⟨ct',q2,rfl⟩:=g2 _ j y hy;obtain⟨_,_,rfl⟩:=g2 _ j y' hy';exact(hF (i,j) q1 ct' q2).2.2.1
       ·have:=VR.ro (ψ:=ψ) (w:=W) (S:=λc=>c<W.heap.size) (m:=λ_=>(0,0)) (A:=λ_=>False) us.length es' (decide (cap=len)) b off cap (λi j=>(F (i,j)).1) hS
         (λi e he=>by rw[(g1' i e he).2];simp) (by rw[l2];exact hl) (λq=>by rw[l2];simpa using q)
         (λi e j y he hy=>by obtain⟨q1,rfl⟩:=g1' i e he;obtain⟨ct',q2,rfl⟩:=g2 _ j y hy;have:=hF (i,j) q1 ct' q2;exact⟨this.2.2.2.1,this.1⟩)
         (λi e j y he hy=>by obtain⟨q1,rfl⟩:=g1' i e he;obtain⟨ct',q2,rfl⟩:=g2 _ j y hy;exact(hF (i,j) q1 ct' q2).2.2.2.2)
        rw[l2]at this;exact this
    ·cases hf
   ·rename_i fs ht;simp only[qzz]at hf;obtain⟨us,hu,hf⟩:=hf;split at hf
    ·rename_i hz;cases hf;obtain⟨xs,n',hn,_,hcl,hxl,hx⟩:=DataW.trod_struct ht h;cases hn;refine⟨by rw[hcl,hz],λj ct hj=>?_⟩;have:=TN (cs:=cs) (F:=vI P k) (n:=n) (λt cs x ts h1 h2=>ih k t cs x ts h1 h2) fs.toList 0 _ hu (λf hf=>by
      obtain⟨i,hi⟩:=q6x hf;have hi':fs[i]?=some f:=by simpa using hi
      have hlt:i<fs.size:=(qWz.1 hi').1;have:=hx i f hi';rw[qqj qqq]at this;exact⟨_,this⟩) j ct hj
     simpa using this
    ·cases hf
   ·rename_i m' e ht;simp only[qzz]at hf;obtain⟨us,hu,hf⟩:=hf;split at hf
    ·rename_i hz;obtain⟨hz1,hz2⟩:=hz;cases hf;obtain⟨xs,n',hn,hcl,hxl,hx⟩:=trod_array ht h;cases hn;have hlen:(List.replicate m' us).flatten.length=m' * us.length:=by simp
     refine⟨by rw[hcl,hlen,hz2],λj ct hj=>?_⟩;have hjl:j<m' * us.length:=by rw[<- hlen];exact(qzj.1 hj).1
     have hk:0<us.length:=by
      rcases Nat.eq_zero_or_pos us.length with q | q
      ·rw[q,Nat.mul_zero]at hjl;omega
      ·exact q
     rw[Fz us m' j hjl]at hj;have hq:j / us.length<m':=q5j (by rw[qtq];exact hjl);have hxq:=hx (j / us.length) hq;rw[qqj qqq]at hxq;obtain⟨v,q1,q2⟩:=(ih k e _ _ us hu hxq).2 (j % us.length) ct hj;refine⟨v,?_,q2⟩;rw[qJz]at q1;split at q1
     ·rw[qVz,<- hz1]at q1;rw[<- q1];congr 1;exact(Nat.div_add_mod' j us.length).symm
     ·cases q1
    ·cases hf
   ·cases hf
inductive AT where
 |c (ct:CT)
 |g (ts:List CT)
def AT.has:AT->AV->Prop
 |.c ct,a=>Ty ct a
 |.g ts,a=>∃es,a=.agg es/\es.length=ts.length/\∀(j:Nat) (ct:CT) (x:AV),ts[j]?=some ct->es[j]?=some x->Ty ct x
def afH(P:Program)(t:TypeId):Option AT :=
 match P.underlying t with
 |some (.struct _)=>(vI P 20 t).map .g
 |some (.array _ _)=>(vI P 20 t).map .g
 |some .bool | some (.int _) | some .string | some (.slice _)=>match vI P 20 t with | some [ct]=>some (.c ct) | _=>none
 |_=>none
theorem U3{t:TypeId}{base:Nat}{v:Value}(hu:P.underlying t=some .bool\/(∃k,P.underlying t=some (.int k))\/P.underlying t=some .string\/∃e,P.underlying t=some (.slice e))(h:Value.okWide P W .any base t v) :
 v.cells=#[v]:=by
 cases v<;>try rfl
 rcases hu with hu|⟨k,hu⟩ | hu|⟨e,hu⟩<;>simp[Value.okWide,hu,Cell.okWide,Cell.ok]at h
theorem ad7{t:TypeId}{at_:AT}(ha:afH P t=some at_){base:Nat}{v:Value}(hv:Value.okWide P W .any base t v){d:DataW H}{p:List MemPlace}(h:DataW.Trod enc P W 0 (λ_=>true) true t v d p) :
 ∃a a',at_.has a/\VD id (λ_=>False) a a'/\VR ψ W (λc=>c<W.heap.size) (λ_=>(0,0)) (λ_=>False) a' v:=by
 obtain⟨fuel,h⟩:=h;have plain:(P.underlying t=some .bool\/(∃k,P.underlying t=some (.int k))\/P.underlying t=some .string\/∃e,P.underlying t=some (.slice e)) ->
  (match vI P 20 t with | some [ct]=>some (AT.c ct) | _=>none)=some at_->∃a a',at_.has a/\VD id (λ_=>False) a a'/\VR ψ W (λc=>c<W.heap.size) (λ_=>(0,0)) (λ_=>False) a' v:=by
  intro hu he;split at he
  ·rename_i ct hf;cases he;rw[U3 hu hv]at h;obtain⟨_,q⟩:=Jq (ψ:=ψ) _ _ _ _ _ _ hf h;obtain⟨v',q1,a,a',q2,q3,_,q4⟩:=q 0 ct rfl;simp only[List.getElem?_cons_zero,qwq]at q1;subst q1;exact⟨a,a',q2,q3,q4⟩
  ·cases he
 have whole:(∃cs,v=.agg cs)->(vI P 20 t).map AT.g=some at_->∃a a',at_.has a/\VD id (λ_=>False) a a'/\VR ψ W (λc=>c<W.heap.size) (λ_=>(0,0)) (λ_=>False) a' v:=by
  rintro⟨cs,rfl⟩ ha;simp only[qyz]at ha;obtain⟨ts,hf,rfl⟩:=ha;obtain⟨hl,q⟩:=Jq (ψ:=ψ) _ _ _ _ _ _ hf h;simp only[Value.cells]at hl q;have key:∀j:Nat,∃x:AV×AV,∀ct,ts[j]?=some ct->Ty ct x.1/\VD id (λ_=>False) x.1 x.2/\x.2.cell=true/\∃v,cs.toList[j]?=some v/\VR ψ W (λc=>c<W.heap.size) (λ_=>(0,0)) (λ_=>False) x.2 v:=by
   intro j;cases hj:ts[j]? with
   |none=>exact⟨default,λ_ q=>by cases q⟩
   |some ct=>obtain⟨v,q1,a,a',q2,q3,q4,q5⟩:=q j ct hj;exact⟨(a,a'),λct' e=>by cases e;exact⟨q2,q3,q4,v,q1,q5⟩⟩
  obtain⟨F,hF⟩:=zxq key;have g2:∀(G:Nat->AV) (j:Nat) (x:AV),((List.range ts.length).map G)[j]?=some x->∃ct,ts[j]?=some ct/\x=G j:=by intro G j x hx;simp only[qQq,qyz]at hx;obtain⟨j',q1,q2⟩:=hx;obtain⟨q3,q4⟩:=qzj.1 q1;simp at q3 q4;subst q4;exact⟨ts[j],qqj q3,q2.symm⟩
  refine⟨.agg ((List.range ts.length).map λj=>(F j).1),.agg ((List.range ts.length).map λj=>(F j).2),⟨_,rfl,by simp,?_⟩,.agg _ _ qqz ?_,.agg _ _ ?_ ?_ ?_⟩
  ·intro j ct x hct hx;obtain⟨ct',q1,rfl⟩:=g2 _ j x hx;exact(hF j ct hct).1
  ·intro j x x' hx hx';obtain⟨ct,q1,rfl⟩:=g2 _ j x hx;obtain⟨_,_,rfl⟩:=g2 _ j x' hx';exact(hF j ct q1).2.1
  ·simp only[qQj,List.length_range];rw[<- hl];simp
  ·intro j x hx;obtain⟨ct,q1,rfl⟩:=g2 _ j x hx;exact(hF j ct q1).2.2.1
  ·intro j x hx;obtain⟨ct,q1,rfl⟩:=g2 _ j x hx;obtain⟨v,q2,q3⟩:=(hF j ct q1).2.2.2;have e:cs[j]?=some v:=by simpa using q2
   rw[qjq,e];exact q3
 unfold afH at ha;split at ha
 ·rename_i fs ht;simp only[Value.okWide,ht]at hv;obtain⟨cs,hv,_,_⟩:=hv;exact whole ⟨cs,hv⟩ ha
 ·rename_i m e ht;simp only[Value.okWide,ht]at hv;obtain⟨cs,hv,_,_⟩:=hv;exact whole ⟨cs,hv⟩ ha
 ·rename_i ht;exact plain (.inl ht) ha
 ·rename_i k ht;exact plain (.inr (.inl ⟨k,ht⟩)) ha
 ·rename_i ht;exact plain (.inr (.inr (.inl ht))) ha
 ·rename_i e ht;exact plain (.inr (.inr (.inr ⟨e,ht⟩))) ha
 ·cases ha
def YA:List AT->List AV->Prop
 |[],[]=>True
 |a::r,x::s=>a.has x/\YA r s
 |_,_=>False
theorem NI{base:Nat}:∀{ts:List TypeId}{ats:List AT}{vs:List Value}{ds:List (DataW H)}{p:List MemPlace},ts.map (afH P)=ats.map some ->
 (∀(j:Nat) (t:TypeId) (v:Value),ts[j]?=some t->vs[j]?=some v->Value.okWide P W .any base t v)->DataW.TrodAll enc P W 0 (λ_=>true) true ts vs ds p ->
 ∃us us',YA ats us/\bF (VD id λ_=>False) us us'/\us'.length=vs.length/\∀(j:Nat) (x:AV) (v:Value),us'[j]?=some x->vs[j]?=some v->VR ψ W (λc=>c<W.heap.size) (λ_=>(0,0)) (λ_=>False) x v
 |[],[],vs,ds,p,_,_,h=>by obtain⟨rfl,_,_⟩:=ChangeShapes.trodAll_nil h;exact⟨[],[],trivial,⟨rfl,by simp⟩,rfl,by simp⟩
 |t::ts,at_::ats,_,_,_,hm,hv,h=>by
  obtain⟨v,vs1,d,ds1,p1,q1,rfl,rfl,rfl,h1,h2⟩:=ChangeShapes.trodAll_cons h;simp only[qvj,qlz]at hm;obtain⟨a,a',r1,r2,r3⟩:=ad7 (ψ:=ψ) hm.1 (hv 0 t v rfl rfl) h1;obtain⟨us,us',s1,s2,s3,s4⟩:=NI hm.2 (λj t v e1 e2=>hv (j+1) t v e1 e2) h2;refine⟨a::us,a'::us',⟨r1,s1⟩,⟨by simp[s2.1],λj x x' e1 e2=>?_⟩,by simp[s3],λj x v' e1 e2=>?_⟩
  ·cases j with
   |zero=>cases e1;cases e2;exact r2
   |succ j=>exact s2.2 j x x' e1 e2
  ·cases j with
   |zero=>cases e1;cases e2;exact r3
   |succ j=>exact s4 j x v' e1 e2
 |[],_::_,_,_,_,hm,_,_=>by simp at hm
 |_::_,[],_,_,_,hm,_,_=>by simp at hm
theorem aaq{Φ:Nat->FuncId->Option Nat}{D:aJ}(hL:Linked P Φ ψ (fK D))(hok:uy D.fns=true){f:Nat}{ts:List TypeId}{ats:List AT}(hts:ts.map (afH P)=ats.map some)
 (core:∀us,YA ats us->FnW D f us=some (.bool true)) {base:Nat}{args:Array Value}{ds:List (DataW H)}{p:List MemPlace}
 (hv:∀(j:Nat) (t:TypeId) (v:Value),ts[j]?=some t->args[j]?=some v->Value.okWide P W .any base t v) (hA:DataW.TrodAll enc P W 0 (λ_=>true) true ts args.toList ds p) :
 Calls P (ψ f) args W λe W'=>e=.returned (.bool true)/\(∀c,c<W.heap.size->W'.heap[c]?=W.heap[c]?)/\W.heap.size<=W'.heap.size/\W'.os=W.os/\W'.output=W.output:=by
 obtain⟨us,us',h1,h2,h3,h4⟩:=NI (ψ:=ψ) hts (λj t v e1 e2=>hv j t v e1 (by simpa using e2)) hA;obtain⟨n,hc⟩:=aeT.1 (core us h1);obtain⟨v',hc',hvd⟩:=adF hok h2 hc;rw[hvd.fU]at hc';refine(aep hL hc' (w:=W) (S:=λc=>c<W.heap.size) (m:=λ_=>(0,0)) (cargs:=args) (λ_ h=>h) (by rw[h3];simp) λj x hx=>?_).mono ?_
 ·have hj:j<args.size:=by have:=(qzj.1 hx).1;rw[h3]at this;simpa using this
  rw[qjq,qhz hj];exact h4 j x _ hx (by simp[hj])
 ·rintro e W' ⟨cv,S',m',rfl,hr,q1,q2,q3,q4⟩;rw[hr.iG];exact⟨rfl,q1,q2,q3,q4⟩
theorem F5{W':World}(hh:∀c,c<W.heap.size->W'.heap[c]?=W.heap[c]?){base:Nat}{sp:Nat->Bool}{held:Bool}:∀{ts:List TypeId}{vs:List Value}{ds:List (DataW H)}{ps:List MemPlace},
 DataW.TrodAll enc P W base sp held ts vs ds ps->(∀p∈ps,p.block<W.heap.size)->DataW.TrodAll enc P W' base sp held ts vs ds ps
 |[],[],[],_,h,_=>h
 |_::_,_::_,_::_,_,⟨p,q,⟨n,h1⟩,h2,e⟩,hs=>⟨p,q,⟨n,DataW.trod_carry n _ _ _ h1 λx hx=>by
  have hlt:=hs x (by rw[e];exact qiq _ hx);cases x with
  |cell b off=>simp only[World.sameAt,World.cell?];rw[hh b hlt]
  |map b=>exact hh b hlt⟩,F5 hh h2 (λx hx=>hs x (by rw[e];exact qsq _ hx)),e⟩
theorem keptBut_old{W':World}(hh:∀c,c<W.heap.size->W'.heap[c]?=W.heap[c]?)(ho:W'.os=W.os)(hp:W'.output=W.output)(may:MemPlace->Prop):W.keptBut W' may:=by have h:=World.keptBut_refl W may;refine⟨ho,hp,λi hi=>?_⟩;have:=h.2.2 i hi;rw[hh i hi];exact this
theorem ac7{f:Func}{s:ChangeSpec}{fresh handsOn again:Bool}{W':World}{args:Array Value}{ds gs:List (DataW H)}{before:List MemPlace}{tb:TypeId}
 (kids:Kids P (·<P.types.size)) (full:∀t e,t<P.types.size->P.underlying t=some (.slice e)->0<P.cellsOf e)
 (hvars0:s.vars=[]) (hW:DataW.Whole enc P f.params.toList s.vars false W args.toList ds gs before) (hfn:s.fn H (ds++gs)={ results:=[.lit (.bool true)],args:=ds })
 (hps:∀t∈f.params.toList,t<P.types.size) (hr:f.resultTypes=#[tb]) (htb:P.underlying tb=some .bool)
 (hh:∀c,c<W.heap.size->W'.heap[c]?=W.heap[c]?) (_hsz:W.heap.size<=W'.heap.size) (ho:W'.os=W.os) (hp:W'.output=W.output) :
 s.post enc P f false fresh handsOn again W args (.bool true) W':=by
 have hlt:∀p∈before,p.block<W.heap.size:=hW.lt;have hW':=hW;obtain⟨p,q,hA,hV,rfl,hz,_⟩:=hW;rw[hvars0]at hV;obtain⟨rfl,rfl⟩:=ChangeShapes.trodVars_none hV;simp only[qKz]at hlt hz hW' hfn;have hargs:∀sp:Nat->Bool,(∀x∈p,sp x.block=true)->DataW.TrodAll enc P W' 0 sp true f.params.toList args.toList ds p:=λsp hsp =>F5 hh (DataW.TrodAll.respare kids full hps hA hsp) hlt;have hvars:∀sp:Nat->Bool,DataW.TrodVars enc P W' sp s.vars [] []:=λsp=>by rw[hvars0];rfl
 have hres:∀(b:Nat) (sp:Nat->Bool) (hd:Bool),DataW.TrodAll enc P W' b sp hd f.resultTypes.toList ((Value.bool true).resultList f.resultTypes.size) [.lit (.bool true)] []:=λb sp hd=>by rw[hr];exact ChangeShapes.trodAll_mk1 (RowKit.shut_bool htb true)
 have hok:∀(j:Nat) (t:TypeId) (r:Value),f.resultTypes[j]?=some t->((Value.bool true).resultList f.resultTypes.size)[j]?=some r->Value.okWide P W' .any 0 t r :=RowKit.ok_one hr rfl (by simp[Value.okWide,htb,Cell.okWide,Cell.ok]);have hold:∀x∈p,(λb=>decide (b<W.heap.size)) x.block=true:=λx hx=>by simpa using hlt x hx
 refine⟨ds,[],p,[],p,[],hW',?_,?_,?_,keptBut_old hh ho hp _,λ_=>⟨hok,[.lit (.bool true)]++ds,[],([]++p)++[],⟨[]++p,[],?_,hvars _,rfl,?_,λh=>by cases h⟩,?_⟩⟩
 ·rw[qKz,hfn];exact hres _ _ _
 ·rw[qKz,hfn];exact hargs _ hold
 ·rw[qKz,hfn];exact hvars _
 ·exact ChangeShapes.trodAll_append (hargs _ λ_ _=>rfl) (hres _ _ _)
 ·intro b off hb;simp only[qYz,qKz]at hb;have:=hz b off hb;unfold World.frozen? at this |-;rw[hh b (hlt _ hb)];exact this
 ·intro x hx _;simpa using hx
theorem FC{base:Nat}{sp:Nat->Bool}{held:Bool}:∀{ts:List TypeId}{vs:List Value}{ds:List (DataW H)}{ps:List MemPlace},DataW.TrodAll enc P W base sp held ts vs ds ps->ds.length=ts.length
 |[],[],[],_,_=>rfl
 |_::_,_::_,_::_,_,⟨_,_,_,h2,_⟩=>by simp[FC h2]
end
end Go.Pw
end
section
namespace Go.Proofs.YtlkfpgggbjlfgaaGreat
open Go.ChangeShapes Go.WideShapes Go.ChangeAt Go.RowKit Go.Pav Go.Pw P
theorem au8:ownKnob Tryz.prog.godebug=none:=by kernel_rfl
theorem ao5:Kids Tryz.prog (·<Tryz.prog.types.size):=kids_rows (by kernel_rfl) (by kernel_rfl)
theorem aoW:∀t e,t<Tryz.prog.types.size->Tryz.prog.underlying t=some (.slice e)->0<Tryz.prog.cellsOf e:=slices_full_of Tryz.prog (by kernel_rfl)
end Go.Proofs.YtlkfpgggbjlfgaaGreat
end
section
namespace Go.D
open Go Go.Pav Go.Pw P
attribute [-simp] List.getElem_cons_drop
variable {C:aJ}
structure It where
 (k t:Int) (x:List UInt8) (m:List (List UInt8)) (e:Bool)
abbrev eIt(i:It):AV:=.agg [.int .u64 i.k,.int .u8 i.t,.str i.x,.ro 1 (i.m.map eS) i.e]
structure TG(C:aJ):Prop extends ql C where
 alU:GwC C 398 VF
 amd:GwC C 424 Vf
 amf:GwC C 494 ach
 ajs:GwC C 496 XE
 alS:GwC C 497 afJ
 aml:GwC C 498 abY
 akD:GwC C 499 ag8
 aln:GwC C 544 ahk
theorem aaG(H:ql C)(s:List UInt8)(hl:s.length<=16):∀n i,n+i=s.length ->
 GV C ⟨[(3,.int .i64 i),(0,.str s)],[],0⟩=some (.int .i64 (if (s.drop i).all inN=true then 1 else 0)):=by
 intro n;induction n with
 |zero=>
  intro i hi;simp only[GV];rw[au Cj.eq_1];have h1:s.drop i=[]:=qzx qqq;have h3:¬i<s.length:=by omega
  simp[au O5.eq_1,h1,h3]
 |succ n ih=>
  intro i hi;have h1:i<s.length:=by omega
  have:=ih (i+1) qqq;simp only[GV]at this |-;rw[au Cj.eq_1];rw[drop_cons h1];generalize hX:((s.drop (i+1)).all inN)=X at *;simp at this;rw[qYj,hX];have key:=Fa s[i];by_cases q1:97<=s[i].toNat<;>by_cases q2:s[i].toNat<=122<;>by_cases q3:48<=s[i].toNat<;>by_cases q4:s[i].toNat<=57<;>first
   |(exfalso;omega)
   |(
    have c:inN s[i]=true:=by rcases key with⟨c,_⟩|⟨_,q⟩<;>first | exact c | (exfalso;omega)
    simp(disch:=omega) [h1,aK,c,q1,q2,q3,q4,this];done)
   |(
    have c:inN s[i]=false:=by rcases key with⟨_,q⟩|⟨c,_⟩<;>first | exact c | (exfalso;omega)
    simp(disch:=omega) [h1,aK,c,q1,q2,q3,q4];done)
theorem af9(H:ql C)(s:List UInt8):FnW C 511 [.str s]=some (.int .i64 (if isName s=true then 1 else 0)):=by
 rw[aN H.ams rfl];unfold isName;by_cases c1:1<=s.length
 ·by_cases c2:s.length<=16
  ·have:=aaG H s c2 s.length 0 qqz;simp only[GV]at this;simp only[qjz]at this;generalize hX:s.all inN=X at *;simp at this;have c3:¬((s.length:Int)<1):=by omega
   have c4:¬(16<(s.length:Int)):=by omega
   simp[aaE,c1,c2,c3,c4,this]
  ·have c3:¬((s.length:Int)<1):=by omega
   have c4:(16<(s.length:Int)):=by omega
   simp[aaE,c1,c2,c3,c4]
 ·have c3:((s.length:Int)<1):=by omega
  simp[aaE,c1,c3]
theorem agU(H:TG C):Pred C 496 inT where
 asc b hb:=by
  rw[aN H.ajs rfl];by_cases c1:32<=b.toNat<;>by_cases c2:126<b.toNat
  ·have c:inT b=false:=qKj (λq=>by omega);simp[XE,c,c1,c2]
  ·have c:inT b=true:=qgj ⟨c1,by omega⟩;simp[XE,c,c1,c2]
  ·omega
  ·have c:inT b=false:=qKj (λq=>c1 q.1);simp[XE,c,c1,c2]
 high r hr:=by
  rw[aN H.ajs rfl];have h1:32<=r:=by omega
  have h2:126<r:=by omega
  simp[XE,h1,h2]
 qh b hb:=qKj (λq=>by omega)
 ne:=by rfl
 ni:=by rfl
structure Y4(C:aJ)(g:Nat)(Q:List UInt8->Bool):Prop where
 ok:∀s,FnW C g [.str s]=some (.bool (!Q s))
 ne:ppB g=false
 ni:aG g=false
theorem U5(H:TG C){g:Nat}{Q:List UInt8->Bool}(G:Y4 C g Q)(l:List (List UInt8))(e:Bool)(hl:l.length<=1000000):∀n i,n+i=l.length ->
 ∃v:Int,BU C ⟨[(8,.int .i64 i),(7,.int .i64 l.length),(1,.fn g []),(0,.ro 1 (l.map eS) e)],[],0⟩=some (.int .i64 v)/\decide (v<0)=(l.drop i).all Q:=by
 intro n;induction n with
 |zero=>
  intro i hi;simp only[BU];rw[au yR.eq_1];have h1:l.drop i=[]:=qzx qqq;have h3:¬i<l.length:=by omega
  exact⟨-1,by simp[au OQ.eq_1,h3],by simp[h1]⟩
 |succ n ih=>
  intro i hi;have h1:i<l.length:=by omega
  have hN:=G.ne;have hI:=G.ni;have hb:=G.ok l[i];rw[drop_cons h1];by_cases c:Q l[i]=true
  ·obtain⟨v,hv,hq⟩:=ih (i+1) qqq;refine⟨v,?_,by simp[hq,c]⟩;simp only[BU]at hv |-;rw[au yR.eq_1];simp at hv;simp(disch:=omega) [h1,aK,hb,c,H.inl,hI,H.pp,hN,hv]
  ·refine⟨i,?_,by simp[c]⟩;simp only[BU];rw[au yR.eq_1];simp(disch:=omega) [h1,hb,c,H.inl,hI,H.pp,hN]
theorem BK(H:TG C){g:Nat}{Q:List UInt8->Bool}(G:Y4 C g Q)(l:List (List UInt8))(e:Bool)(hl:l.length<=1000000) :
 FnW C 498 [.ro 1 (l.map eS) e,.fn g []]=some (.bool (!l.all Q)):=by
 obtain⟨v,h,q⟩:=U5 H G l e hl l.length 0 qqz;simp at q;have h2:FnW C 544 [.ro 1 (l.map eS) e,.fn g []]=some (.int .i64 v):=by rw[aN H.aln rfl];simp only[BU]at h;simp at h;simp[ahk,h]
 rw[aN H.aml rfl];have q':decide (v<0)=l.all Q:=by simpa using q
 rw[<- q'];by_cases c:v<0
 ·have c':¬0<=v:=by omega
  simp[abY,H.kk,h2,c,c']
 ·have c':0<=v:=by omega
  simp[abY,H.kk,h2,c,c']
theorem ahl(H:TG C):Y4 C 499 isName where
 ok s:=by have:=aeP H.toql s;rw[aN H.akD rfl];simp[ag8,H.kk,this]
 ne:=by rfl
 ni:=by rfl
def zq(n:Int)(i:It):Bool:=decide (i.k≠0)&&decide (i.t<n)&&isText i.x&&(decide (i.m.length<=8)&&i.m.all isName)
theorem aa5(H:TG C)(i:It)(n:Int)(ht:0<=i.t/\i.t<=255):FnW C 398 [eIt i,.int .i64 n]=some (.int .i64 (if zq n i=true then 0 else 6)):=by
 have h1:FnW C 494 [.rop [.int .u64 i.k,.int .u8 i.t,.str i.x,.ro 1 (i.m.map eS) i.e]]=some (.bool (isText i.x)):=by
  have:=FY H.toql (agU H) i.x;rw[aN H.amf rfl];unfold isText;by_cases c2:i.x.length<=64
  ·have c4:(i.x.length:Int)<=64:=by omega
   simp[ach,c2,c4,H.kk,this]
  ·have c4:¬((i.x.length:Int)<=64):=by omega
   simp[ach,c2,c4]
 have h2:FnW C 497 [.rop [.int .u64 i.k,.int .u8 i.t,.str i.x,.ro 1 (i.m.map eS) i.e]]=some (.bool (decide (i.m.length<=8)&&i.m.all isName)):=by
  rw[aN H.alS rfl];by_cases c2:i.m.length<=8
  ·have:=BK H (ahl H) i.m i.e qqq;have c4:(i.m.length:Int)<=8:=by omega
   simp[afJ,c2,c4,H.kk,this]
  ·have c4:¬((i.m.length:Int)<=8):=by omega
   simp[afJ,c2,c4]
 rw[aN H.alU rfl];unfold zq;generalize isText i.x=X at *;generalize (decide (i.m.length<=8)&&i.m.all isName)=M at *;by_cases c1:i.k=0
 ·simp[VF,c1]
 ·by_cases c2:n<=i.t
  ·have c3:¬i.t<n:=by omega
   simp(disch:=omega) [VF,c1,c2,c3,aK]
  ·have c3:i.t<n:=by omega
   cases X
   ·simp(disch:=omega) [VF,c1,c2,c3,aK,H.kk,h1]
   ·cases M<;>simp(disch:=omega) [VF,c1,c2,c3,aK,H.kk,h1,h2]
theorem S9(H:TG C)(k t:Int)(x:List UInt8)(m:List (List UInt8))(e:Bool)(hl:m.length<=1000000):∀n i,n+i=m.length->∀ok:Bool,
 Gw C ⟨[(6,.int .i64 i),(5,.int .i64 (if ok=true then 1 else 0)),(2,.ptr 0 0 0)],[(0,.cells 4 [[.int .u64 k,.int .u8 t,.str x,.ro 1 (m.map eS) e]] true true)],1⟩ =
  some (.int .i64 (if (ok&&(m.drop i).all isName)=true then 0 else 6)):=by
 intro n;induction n with
 |zero=>
  intro i hi ok;simp only[Gw];rw[au Cb.eq_1];have h1:m.drop i=[]:=qzx qqq;have h3:¬i<m.length:=by omega
  cases ok<;>simp[au Qd.eq_1,h1,h3]
 |succ n ih=>
  intro i hi ok;have h1:i<m.length:=by omega
  have:=ih (i+1) qqq (ok&&isName m[i]);have hb:=af9 H.toql m[i];rw[drop_cons h1];generalize hX:(m.drop (i+1)).all isName=X at *;rw[qYj,hX];simp only[Gw]at this |-;rw[au Cb.eq_1];cases ok<;>cases hn:isName m[i]<;>rw[hn]at this hb<;>simp at this hb<;>simp(disch:=omega) [h1,aK,hb,H.kk,this]
theorem aaP(H:TG C)(i:It)(n:Int)(ht:0<=i.t/\i.t<=255)(hl:i.m.length<=1000000):FnW C 424 [eIt i,.int .i64 n]=some (.int .i64 (if zq n i=true then 0 else 6)):=by
 have hw:=ab7 H.toql i.x;have hA:=S9 H i.k i.t i.x i.m i.e hl i.m.length 0 qqz;have h0:=hA false;have h1:=hA true;rw[aN H.amd rfl];unfold zq;simp only[qjz,qiz,qlx]at h0 h1;generalize i.m.all isName=M at *;generalize isText i.x=X at *;simp only[Gw]at h0 h1;simp at h0 h1;by_cases c1:i.k=0
 ·simp[Vf,qQz c1,H.kk,hw,h0]
 ·by_cases c2:n<=i.t
  ·have c3:¬i.t<n:=by omega
   simp(disch:=omega) [Vf,c1,c2,c3,aK,H.kk,hw,h0]
  ·have c3:i.t<n:=by omega
   by_cases c4:i.m.length<=8
   ·have c5:¬(8<(i.m.length:Int)):=by omega
    cases X
    ·simp(disch:=omega) [Vf,c1,c2,c3,c4,c5,aK,H.kk,hw,h0]
    ·simp(disch:=omega) [Vf,c1,c2,c3,c4,c5,aK,H.kk,hw,h1]
   ·have c5:(8<(i.m.length:Int)):=by omega
    simp(disch:=omega) [Vf,c1,c2,c3,c4,c5,aK,H.kk,hw,h0]
end Go.D
end
