/- Part of the theory that the claims of this work use: PwP, PwLib, D01, PavLink, L24, PwGlue, PwGlue2, G00, D02, D03, D04. No conditions of its own. -/
import Derived.Test.YtlkfpgggbjlfgaaGreatT4
import Derived.Laws.RangeAny
import Derived.Test.YtlkfpgggbjlfgaaGreatChecked
import Derived.KernelRfl
import Derived.ChangeSame
import Derived.ChangeArms
import Derived.ReadAgain
import Derived.Handed
import Derived.JoinedOf
import Derived.RowKit
import Derived.Test.YtlkfpgggbjlfgaaGreatRows
import Derived.ProofKit
import Derived.Sort.Walk0
set_option linter.unusedVariables false
set_option linter.unusedSimpArgs false
set_option maxHeartbeats 4000000
set_option maxRecDepth 10000
section
set_option maxRecDepth 100000
namespace P
open Go Go.Pav Go.Pw Go.Pw.Z Go.Pw.ZC
def w0:WFn:=⟨0,[],zd (O 0 [E .fail])⟩
def BF:WFn:=⟨3,[.tmp 6],zd (s (O 3 [bx 0,bx 1,bx 2,ff]) (s (O 23 [h 3 3,ca 130 [23],d 22 (m 24),ex 0 22,ex 1 22,d 7 (E (.alloc [.ro 9 [] true,.int .i64 0])),d 8 (E (.alloc [.ro 6 [] true])),n (st 2 7 25),n (st 1 8 26)]) (s (Q 28 [h 2 4,h 1 8,ca 256 [28,29],d 27 (m 30),ex 0 27,ex 1 27,d 9 (m 31),d 10 (m 32)] [10,9,8,7,5]) (s (O 34 [h 1 8,m 9,ca 160 [34,35],d 33 (m 36),ex 0 33,ex 1 33,d 11 (E (.alloc [.int .u64 0,.int .i64 0])),n (st 2 11 37),d 12 (m 38)]) (s (O 40 [h 1 8,m 10,h 2 11,ca 161 [40,41,42],d 39 (m 43),ex 0 39,ex 1 39,d 13 (m 44),d 14 (m 45)]) (s (s (Q 46 [m 12,nei 46 0,m 47,z 48 (m 14),z 48 (nei 49 0),po 48 50,m 51,z 52 (m 13),z 52 (m 9),z 52 (ne 53 54),po 52 55,m 56,z 57 (h 1 8),z 57 (m 9),z 57 (h 2 11),z 57 (ca 321 [58,59,60]),z 57 (nt 61),po 57 62,m 63,z 64 (h 2 11),z 64 (ca 318 [65]),z 64 (nei 66 0),po 64 67] [68,11,10,8,7,5]) (c 68 (r (O 6 [ff])))) (s (V 70 [h 2 7,h 1 8,h 1 5,h 2 7,h 1 8,ca 326 [72,73,74],ca 171 [70,71,75],d 69 (m 76),ex 0 69,ex 1 69,ex 2 69,d 15 (E (.alloc [.ro 6 [] true])),n (st 1 15 77),d 16 (m 78),d 17 (m 79)] [(0,5),(1,5),(0,11),(1,11),(2,11),(3,11),(4,11),(5,11),(6,11)] ⟨false,[],[]⟩) (s (s (O 80 [m 17,nei 80 0]) (c 81 (r (O 82 [ca 164 [],d 6 (m 82)])))) (s (Q 83 [h 1 8,h 1 15,h 2 11,ca 324 [83,84,85],d 18 (E (.alloc [.int .u64 0,.int .i64 0])),n (st 2 18 86)] [18,15,11,10,8]) (s (O 88 [h 1 15,m 10,h 2 18,ca 161 [88,89,90],d 87 (m 91),ex 0 87,ex 1 87,d 19 (m 92),d 20 (m 93)]) (s (s (O 94 [m 20,nei 94 0,m 95,z 96 (h 2 18),z 96 (ca 318 [97]),z 96 (nei 98 0),po 96 99]) (c 100 (r (O 6 [ff])))) (s (O 101 [f 0 15,l 1 101,m 10,ca 327 [102,103],d 21 (m 104)]) (s (s (Q 105 [m 19,lti 105 0,m 106,z 107 (m 19),z 107 (m 21),z 107 (gt 108 109),po 107 110,m 111,z 112 (h 1 15),z 112 (m 19),z 112 (h 2 18),z 112 (ca 321 [113,114,115]),z 112 (nt 116),z 112 (m 117),y 118 (m 19),y 118 (nei 119 0),z 112 (pa 118 120),z 112 (m 121),y 122 (m 19),y 122 (m 21),y 122 (ne 123 124),z 112 (pa 122 125),po 112 126] [127,18,15,11,8]) (c 127 (r (O 6 [ff])))) (s (s (O 128 [f 0 8,l 1 128,ln 1 129,gti 130 0,m 131,y 132 (f 0 15),y 132 (l 1 133),y 132 (f 0 11),y 132 (l 1 135),y 132 (ca 239 [134,136]),y 132 (gei 137 0),pa 132 138,m 139,y 140 (h 2 18),y 140 (h 2 11),y 140 (E (.eqv 4 [0,0] true (T 141) (T 142))),pa 140 143]) (c 144 (r (O 6 [ff])))) (r (O 145 [ca 164 [],d 6 (m 145)]))))))))))))))))⟩
def G7:aB:=zd (r (O 183 [ca 164 [],d 0 (m 183)]))
def jk:aB:=zd (s (s (Q 133 [m 17,lti 133 160] [134,17]) (cc 134 (w .skip) (ee 10))) (s (B 11 (s (O 137 [m 17,E (.cvt .u8 (T 137)),m 17,E (.bin .quo (T 139) (N 3)),E (.cvt .u8 (T 140)),m 17,E (.cvt .u8 (T 142)),m 17,E (.bin .mul (T 144) (N 3)),E (.cvt .u8 (T 145)),m 17,E (.cvt .u8 (T 147)),E (.build [.int .u8 0,.int .u8 0,.int .u8 0,.int .u8 0,.int .u8 0] [(0,1,T 138),(1,1,T 141),(2,1,T 143),(3,1,T 146),(4,1,T 148)]),m 17,E (.bin .quo (T 150) (N 2)),E (.cvt .u8 (T 151)),m 17,E (.cvt .u8 (T 153)),E (.build [.int .u8 0,.int .u8 0,.int .u8 0,.int .u8 0,.int .u8 0] [(0,1,T 152),(1,1,.c (.int .u8 1)),(2,1,.c (.int .u8 2)),(3,1,T 154),(4,1,.c (.int .u8 3))]),E (.aO [.int .u8 0,.int .u8 0,.int .u8 0,.int .u8 0,.int .u8 0] 2 [(0,T 149),(1,T 155)]),E (.build [.ro 5 [] true] [(0,1,T 156)]),d 18 (E (.alloc [.ro 5 [] true])),n (st 1 18 157)]) (s (Q 158 [E (.build [.int .u8 0,.int .u8 0,.int .u8 0,.int .u8 0] [(0,1,.c (.int .u8 1)),(1,1,.c (.int .u8 0)),(2,1,.c (.int .u8 1)),(3,1,.c (.int .u8 1))]),E (.build [.int .u8 0,.int .u8 0,.int .u8 0,.int .u8 0] [(0,1,.c (.int .u8 2)),(1,1,.c (.int .u8 1)),(2,1,.c (.int .u8 2)),(3,1,.c (.int .u8 2))]),m 17,E (.bin .rem (T 160) (N 8)),E (.cvt .u8 (T 161)),E (.build [.int .u8 0,.int .u8 0,.int .u8 0,.int .u8 0] [(0,1,.c (.int .u8 3)),(1,1,.c (.int .u8 2)),(2,1,.c (.int .u8 3)),(3,1,T 162)]),E (.build [.int .u8 0,.int .u8 0,.int .u8 0,.int .u8 0] [(0,1,.c (.int .u8 4)),(1,1,.c (.int .u8 0)),(2,1,.c (.int .u8 0)),(3,1,.c (.int .u8 0))]),E (.aO [.int .u8 0,.int .u8 0,.int .u8 0,.int .u8 0] 4 [(0,T 158),(1,T 159),(2,T 163),(3,T 164)]),E (.build [.ro 4 [] true] [(0,1,T 165)]),m 17,E (.cvt .u8 (T 167)),E (.aO [.int .u8 0] 3 [(0,.c (.int .u8 9)),(1,.c (.int .u8 0)),(2,T 168)]),m 17,E (.cvt .u8 (T 170)),E (.build [.ro 4 [] true,.ro 1 [] true,.int .u8 0] [(0,1,T 166),(1,1,T 169),(2,1,T 171)]),d 19 (E (.alloc [.ro 4 [] true,.ro 1 [] true,.int .u8 0])),n (st 3 19 172)] [19,18,17]) (s (O 173 [h 3 19,m 17,E (.bin .rem (T 174) (N 50)),E (.cvt .u8 (T 175)),m 17,E (.cvt .u16 (T 177)),E (.build [.int .u8 0,.int .u16 0] [(0,1,T 176),(1,1,T 178)]),h 1 18,ca 163 [173,179,180],nt 181]) (c 182 (r (O 0 [ff]))))))) (O 135 [m 17,adi 135 1,d 17 (m 136)])))
def aa3:aB:=.loop ⟨true,[17],[]⟩ jk
def GL:aB:=zd (s (s (O 17 [i 0]) (bk 10 aa3 ⟨true,[],[]⟩)) G7)
def aij:aB:=zd (O 103 [m 13,adi 103 1,d 13 (m 104)])
def ajY:aB:=zd (O 107 [m 14,adi 107 1,d 14 (m 108)])
def ais:aB:=zd (s (V 124 [h 1 12,m 15,ca 159 [125],m 13,adi 127 1,E (.cvt .u64 (T 128)),E (.build [.int .u64 0,.int .i64 0] [(0,1,T 129),(1,1,N 3)]),ca 162 [124,126,130],nt 131] [(0,2)] ⟨false,[],[]⟩) (c 132 (r (O 0 [ff]))))
def Zw:aB:=zd (s (s (O 109 [m 16,lti 109 4]) (cc 110 (w .skip) (ee 8))) (s (B 9 (s (O 113 [m 14,m 16,E (.bin .shr (T 113) (T 114)),E (.bin .rem (T 115) (N 2)),eqi 116 0]) (c 117 (Q 118 [m 15,m 16,adi 119 1,E (.cvt .u64 (T 120)),E (.aO [.int .u64 0] 1 [(0,T 121)]),E (.app [.int .u64 0] 8 false (T 118) (T 122)),d 15 (m 123)] [16,15,14,13,12])))) (O 111 [m 16,adi 111 1,d 16 (m 112)])))
def acE:aB:=.loop ⟨true,[16,15,14,13,12],[]⟩ Zw
def Y6:aB:=zd (s (s (O 105 [m 14,lti 105 16]) (cc 106 (w .skip) (ee 6))) (s (bk 7 (s (R 15 [E (.mv (.c (.ro 1 [] true)))] ⟨true,[15,14,13,12],[(15,1)]⟩) (s (s (O 16 [i 0]) (bk 8 acE ⟨true,[15,14,13,12],[]⟩)) ais)) ⟨true,[14,13,12],[]⟩) ajY))
def acR:aB:=.loop ⟨true,[14,13,12],[]⟩ Y6
def lU:aB:=zd (s (s (O 101 [m 13,lti 101 4]) (cc 102 (w .skip) (ee 4))) (s (bk 5 (s (O 14 [i 0]) (bk 6 acR ⟨true,[13,12],[]⟩)) ⟨true,[13,12],[]⟩) aij))
def Zb:aB:=.loop ⟨true,[13,12],[]⟩ lU
def oI:aB:=zd (s (O 53 [E (.build [.int .u64 0,.int .u8 0,.str [],.ro 1 [] true] [(0,1,.c (.int .u64 1))]),E (.build [.int .u64 0,.int .u8 0,.str [],.ro 1 [] true,.int .i64 0,.bool false] [(0,4,T 53),(4,1,N 2305843009213693952)]),E (.build [.int .u64 0,.int .u8 0,.str [],.ro 1 [] true] [(0,1,.c (.int .u64 2))]),E (.build [.int .u64 0,.int .u8 0,.str [],.ro 1 [] true,.int .i64 0,.bool false] [(0,4,T 55),(4,1,N 2305843009213693952)]),E (.aO [.int .u64 0,.int .u8 0,.str [],.ro 1 [] true,.int .i64 0,.bool false] 2 [(0,T 54),(1,T 56)]),E (.build [.ro 6 [] true] [(0,1,T 57)]),d 5 (E (.alloc [.ro 6 [] true])),n (st 1 5 58)]) (s (Q 60 [h 1 5,E (.call 160 [T 60,N 4611686018427387903]),d 59 (m 61),ex 0 59,ex 1 59,d 6 (E (.alloc [.int .u64 0,.int .i64 0])),n (st 2 6 62),d 7 (m 63)] [7,6,5]) (s (O 65 [h 1 5,h 2 6,E (.call 161 [T 65,N 1,T 66]),d 64 (m 67),ex 0 64,ex 1 64,d 8 (m 68),d 9 (m 69)]) (s (O 71 [h 1 5,E (.build [.int .u64 0,.int .i64 0] [(0,1,.c (.int .u64 2)),(1,1,N 2305843009213693952)]),E (.call 161 [T 71,N 1,T 72]),d 70 (m 73),ex 0 70,ex 1 70,d 10 (m 74),d 11 (m 75)]) (s (s (Q 76 [m 7,nei 76 0,m 77,z 78 (h 2 6),z 78 (E (.build [.int .u64 0,.int .i64 0] [(0,1,.c (.int .u64 2)),(1,1,N 2305843009213693951)])),z 78 (E (.eqv 4 [0,0] true (T 79) (T 80))),po 78 81,m 82,z 83 (m 9),z 83 (nei 84 0),po 83 85,m 86,z 87 (m 8),z 87 (nei 88 4611686018427387903),po 87 89,m 90,z 91 (m 11),z 91 (nei 92 0),po 91 93,m 94,z 95 (m 10),z 95 (nei 96 4611686018427387903),po 95 97] [98]) (c 98 (r (O 0 [ff])))) (s (O 99 [E (.aO [.int .u64 0] 4 [(0,.c (.int .u64 1)),(1,.c (.int .u64 2)),(2,.c (.int .u64 3)),(3,.c (.int .u64 4))]),ca 159 [99],d 12 (E (.alloc [.ro 6 [] true])),n (st 1 12 100)]) (s (s (O 13 [i 0]) (bk 4 Zb ⟨true,[],[]⟩)) GL)))))))
def ah8:aB:=zd (O 52 [adi 22 1,d 22 (m 52)])
def ab1:aB:=zd (s (O 29 [lt 28 27]) (s (cc 29 (w .skip) (ee 2)) (s (B 3 (s (O 30 [ix 1 26 28,l 1 30,d 4 (m 31)]) (s (Q 32 [E (.aO [.int .u64 0] 2 [(0,.c (.int .u64 1)),(1,.c (.int .u64 2))]),ca 159 [32],m 2,m 4,E (.build [.int .i64 0,.int .i64 0,.int .i64 0] [(0,1,N 5),(1,1,T 34),(2,1,T 35)]),m 4,E (.build [.int .u64 0,.int .i64 0] [(0,1,.c (.int .u64 2)),(1,1,T 37)]),ca 158 [33,36,38],nt 39,m 40,z 41 (E (.call 159 [.c (.ro 1 [] true)])),z 41 (m 2),z 41 (m 4),z 41 (E (.build [.int .i64 0,.int .i64 0,.int .i64 0] [(0,1,N 1),(1,1,T 43),(2,1,T 44)])),z 41 (m 2),z 41 (E (.build [.int .u64 0,.int .i64 0] [(1,1,T 46)])),z 41 (ca 158 [42,45,47]),z 41 (nt 48),po 41 49] [50,28,27,26,22,21,20,2]) (c 50 (r (O 0 [ff])))))) (O 51 [adi 28 1,d 28 (m 51)]))))
def aai:aB:=.loop ⟨true,[28,27,26,22,21,20,2],[]⟩ ab1
def jL:aB:=zd (s (O 23 [lt 22 21]) (s (cc 23 (w .skip) (ee 0)) (s (bk 1 (s (O 24 [ix 1 20 22,l 1 24,d 2 (m 25)]) (s (O 26 [E (.aO [.int .i64 0] 7 [(0,N 9223372036854775807),(1,N 2),(2,N 1),(3,N 0),(4,N (-1)),(5,N (-2)),(6,N (-9223372036854775808))]),ln 1 26,i 0]) (bk 2 aai ⟨true,[22,21,20],[]⟩))) ⟨true,[22,21,20],[]⟩) ah8)))
def abV:aB:=.loop ⟨true,[22,21,20],[]⟩ jL
def w90:WFn:=⟨0,[.tmp 0],zd (s (O 0 [ff]) (s (s (O 20 [E (.aO [.int .i64 0] 7 [(0,N 9223372036854775807),(1,N 9223372036854775806),(2,N 1),(3,N 0),(4,N (-1)),(5,N (-9223372036854775807)),(6,N (-9223372036854775808))]),ln 1 20,i 0]) (bk 0 abV ⟨true,[],[]⟩)) oI))⟩
@[simp] theorem arN:ZL aa3 jk ⟨true,[17],[]⟩:=bn rfl
@[simp] theorem aov:ZL acE Zw ⟨true,[16,15,14,13,12],[]⟩:=bn rfl
@[simp] theorem asb:ZL acR Y6 ⟨true,[14,13,12],[]⟩:=bn rfl
@[simp] theorem arw:ZL Zb lU ⟨true,[13,12],[]⟩:=bn rfl
@[simp] theorem arB:ZL aai ab1 ⟨true,[28,27,26,22,21,20,2],[]⟩:=bn rfl
@[simp] theorem apJ:ZL abV jL ⟨true,[22,21,20],[]⟩:=bn rfl
def Ea:aB:=zd (r (V 68 [h 2 4,h 1 6,n (st 2 2 68),n (st 1 3 69)] [(1,2)] ⟨false,[],[]⟩))
def jD:aB:=zd (s (s (O 17 [m 7,m 5,ln 1 18,lt 17 19]) (cc 20 (w .skip) (ee 0))) (s (B 1 (s (s (V 23 [h 2 4,m 5,m 7,ix 4 24 25,h 4 26,E (.call 271 [T 23,T 27,N 0]),gti 28 0] [] ⟨false,[],[]⟩) (c 29 (ee 1))) (s (U 30 [h 2 4,m 5,m 7,ix 4 31 32,h 4 33,ca 240 [30,34],d 8 (E (.alloc [.int .u64 0,.int .u8 0,.str [],.ro 1 [] true,.int .i64 0,.bool false])),n (st 6 8 35)] [(0,6),(4,6),(5,6)] [8,7,6,5,4,3,2,1]) (s (s (O 36 [f 0 6,l 1 36,ln 1 37,d 9 (m 38)]) (s (O 39 [m 9,f 1 1,l 1 40,ln 1 41,lt 39 42,m 43,y 44 (f 1 1),y 44 (l 1 45),y 44 (m 9),y 44 (ix 1 46 47),y 44 (l 1 48),y 44 (E (.bin .gtr (T 49) (.c (.int .u8 0)))),pa 44 50]) (c 51 (s (Q 52 [f 1 1,l 1 52,m 9,ix 1 53 54,l 1 55,E (.bin .rem (T 56) (.c (.int .u8 40))),E (.cvt .i64 (T 57)),E (.bin .add (N 1) (T 58)),f 4 8,n (st 1 60 59)] [8,7,6,5,4,3,2,1]) (O 61 [f 5 8,n (E (.store 1 (T 61) (.c (.bool true))))]))))) (O 62 [f 0 6,l 1 62,h 6 8,E (.aO [.int .u64 0,.int .u8 0,.str [],.ro 1 [] true,.int .i64 0,.bool false] 1 [(0,T 64)]),E (.app [.int .u64 0,.int .u8 0,.str [],.ro 1 [] true,.int .i64 0,.bool false] 72 false (T 63) (T 65)),f 0 6,n (st 1 67 66)]))))) (O 21 [m 7,adi 21 1,d 7 (m 22)])))
def KQ:aB:=.loop ⟨true,[7,6,5,4,3,2,1],[]⟩ jD
def ac7:WFn:=⟨1,[.cell 2 2 true,.cell 3 1 true],zd (s (Q 1 [bx 0,E (.alloc [.ro 9 [] true,.int .i64 0]),E (.alloc [.ro 6 [] true])] [3,2,1]) (s (O 10 [f 2 1,l 1 10,ca 126 [11],E (.build [.ro 9 [] true,.int .i64 0] [(0,1,T 12),(1,1,N 12)]),d 4 (E (.alloc [.ro 9 [] true,.int .i64 0])),n (st 2 4 13)]) (s (O 14 [f 0 1,h 1 14,ca 270 [15],d 5 (m 16)]) (s (O 6 [E (.alloc [.ro 6 [] true])]) (s (s (O 7 [i 0]) (bk 0 KQ ⟨true,[6,4,3,2],[]⟩)) Ea)))))⟩
@[simp] theorem an3:ZL KQ jD ⟨true,[7,6,5,4,3,2,1],[]⟩:=bn rfl
noncomputable abbrev iF (C:aI) (s:WSt):Option AV:=CK C 0 (aT [.cell 2 2 true,.cell 3 1 true]) [.sq KQ,.bk 0 ⟨true,[6,4,3,2],[]⟩,.sq Ea] jD s
def D6:aB:=zd (r (O 48 [m 7,d 6 (m 48)]))
def wH:aB:=zd (s (s (O 15 [m 9,f 0 3,l 1 16,ln 1 17,lt 15 18,m 19,y 20 (m 9),y 20 (lti 21 6),pa 20 22]) (cc 23 (w .skip) (ee 0))) (s (B 1 (s (Q 26 [f 0 3,l 1 26,m 9,ix 5 27 28,h 5 29,m 8,m 9,ca 452 [30,31,32],d 10 (E (.alloc [.int .u8 0,.int .i64 0,.int .i64 0,.int .i64 0,.ro 4 [] true])),n (st 5 10 33)] [10,9,8,7,4,3]) (s (O 34 [m 7,h 5 10,E (.aO [.int .u8 0,.int .i64 0,.int .i64 0,.int .i64 0,.ro 4 [] true] 1 [(0,T 35)]),E (.app [.int .u8 0,.int .i64 0,.int .i64 0,.int .i64 0,.ro 4 [] true] 56 false (T 34) (T 36)),d 7 (m 37)]) (s (O 39 [h 2 4,m 8,h 5 10,ca 342 [39,40,41],d 38 (m 42),ex 0 38,ex 1 38,d 11 (m 43),d 12 (m 44)]) (s (O 45 [m 12,eqi 45 0]) (c 46 (O 47 [m 11,d 8 (m 47)]))))))) (O 24 [m 9,adi 24 1,d 9 (m 25)])))
def KF:aB:=.loop ⟨true,[9,8,7,4,3],[]⟩ wH
def aff:WFn:=⟨3,[.tmp 6],zd (s (O 3 [bx 0,bx 1,bx 2,E (.mv (.c (.ro 5 [] true)))]) (s (R 7 [E (.mv (.c (.ro 5 [] true)))] ⟨true,[7,5,4,3],[(7,5)]⟩) (s (O 13 [f 0 5,l 1 13,d 8 (m 14)]) (s (s (O 9 [i 0]) (bk 0 KF ⟨true,[7],[]⟩)) D6))))⟩
@[simp] theorem anM:ZL KF wH ⟨true,[9,8,7,4,3],[]⟩:=bn rfl
noncomputable abbrev xB (C:aI) (s:WSt):Option AV:=CK C 0 (aT [.tmp 6]) [.sq KF,.bk 0 ⟨true,[7],[]⟩,.sq D6] wH s
def afq:WFn:=⟨2,[.tmp 4,.tmp 5],zd (s (O 2 [bx 0,bx 1,i 0,i 0]) (s (O 6 [f 0 2,l 1 6,E (.bin .rem (T 7) (.c (.int .u8 200))),E (.cvt .i64 (T 8)),E (.bin .add (N 1) (T 9)),d 5 (m 10)]) (r (V 11 [f 1 2,l 1 11,E (.cvt .i64 (T 12)),f 0 3,l 1 14,m 5,ca 327 [15,16],adi 17 1,E (.bin .rem (T 13) (T 18)),m 5,d 4 (m 19),d 5 (m 20)] [(1,6)] ⟨false,[],[]⟩))))⟩
def YP:WFn:=⟨2,[.cell 4 2 true,.tmp 5],zd (s (O 4 [d 2 (bx 0),E (.alloc [.int .u64 0,.int .i64 0]),i 0]) (s (O 10 [h 1 2,ca 246 [10],d 9 (m 11),ex 0 9,ex 1 9,d 6 (m 12),d 7 (m 13)]) (s (s (O 14 [m 7,nei 14 0]) (c 15 (r (Q 16 [E (.build [.int .u64 0,.int .i64 0] []),m 7,n (st 2 4 16),d 5 (m 17)] [5,4])))) (s (s (O 18 [m 1,lti 18 0,m 19,z 20 (m 1),z 20 (h 1 2),z 20 (ca 111 [22]),z 20 (sbi 23 1),z 20 (E (.mx (N 0) (T 24))),z 20 (gt 21 25),po 20 26]) (c 27 (r (O 28 [E (.build [.int .u64 0,.int .i64 0] []),n (st 2 4 28),d 5 (i 4)])))) (s (s (O 29 [f 0 2,l 1 29,ln 1 30,eqi 31 0]) (c 32 (r (O 33 [E (.build [.int .u64 0,.int .i64 0] []),n (st 2 4 33),d 5 (i 0)])))) (s (Q 35 [h 1 2,m 1,ca 120 [35,36],d 34 (m 37),ex 0 34,ex 1 34,d 8 (m 38),d 7 (m 39)] [8,7,6,4,2,1]) (r (V 40 [f 0 2,l 1 40,m 8,ix 6 41 42,f 0 43,f 0 44,l 1 45,m 1,m 6,m 8,ix 1 48 49,l 1 50,sb 47 51,E (.build [.int .u64 0,.int .i64 0] [(0,1,T 46),(1,1,T 52)]),m 7,n (st 2 4 53),d 5 (m 54)] [] ⟨false,[],[]⟩))))))))⟩
def acz:WFn:=⟨3,[.tmp 6,.tmp 7],zd (s (Q 5 [d 3 (bx 0),bx 2,i 0,i 0] [5,3,1]) (s (s (O 12 [h 1 3,m 1,ca 322 [12,13],d 8 (m 14)]) (s (O 15 [m 8,nei 15 0]) (c 16 (r (O 6 [d 17 (m 8),i 0,m 17]))))) (s (s (O 18 [h 2 5,ca 318 [18],d 9 (m 19)]) (s (O 20 [m 9,nei 20 0]) (c 21 (r (O 6 [d 22 (m 9),i 0,m 22]))))) (s (s (O 23 [f 0 5,l 1 23,E (.bin .eql (T 24) (.c (.int .u64 0)))]) (c 25 (r (O 6 [i 0,i 0])))) (s (Q 27 [h 1 3,f 0 5,l 1 28,ca 323 [27,29],d 26 (m 30),ex 0 26,ex 1 26,d 10 (m 31),d 11 (m 32)] [11,10,5,3,1]) (s (s (O 33 [m 11,nt 33]) (c 34 (r (O 6 [i 0,i 11])))) (r (O 35 [h 1 3,m 1,m 10,f 1 5,l 1 38,ad 37 39,ca 313 [35,36,40],ex 0 41,ex 1 41,d 6 (m 42),d 7 (m 43)]))))))))⟩
def Tc:WFn:=⟨3,[.tmp 6],zd (s (O 5 [d 3 (bx 0),bx 2,ff]) (s (s (O 9 [h 1 3,ca 122 [9],nei 10 0]) (c 11 (r (O 6 [ff])))) (s (s (O 12 [f 0 5,l 1 12,E (.bin .eql (T 13) (.c (.int .u64 0)))]) (c 14 (r (O 6 [tt])))) (s (Q 16 [h 1 3,f 0 5,l 1 17,ca 323 [16,18],d 15 (m 19),ex 0 15,ex 1 15,d 7 (m 20),d 8 (m 21)] [8,7,5,1]) (r (O 22 [m 8,m 22,y 23 (m 1),y 23 (m 7),y 23 (ge 24 25),pa 23 26,m 27,y 28 (m 1),y 28 (m 7),y 28 (sb 29 30),y 28 (f 1 5),y 28 (l 1 32),y 28 (eq 31 33),pa 28 34,d 6 (m 35)]))))))⟩
def Oc:WFn:=⟨1,[.tmp 2],zd (s (O 1 [bx 0,i 0]) (s (s (O 3 [f 1 1,l 1 3,lti 4 0,m 5,z 6 (f 1 1),z 6 (l 1 7),z 6 (gti 8 2305843009213693952),po 6 9,m 10,z 11 (f 0 1),z 11 (l 1 12),z 11 (E (.bin .eql (T 13) (.c (.int .u64 0)))),z 11 (m 14),y 15 (f 1 1),y 15 (l 1 16),y 15 (gti 17 0),z 11 (pa 15 18),po 11 19]) (c 20 (r (O 2 [i 1])))) (r (O 2 [i 0]))))⟩
def JZ:aB:=zd (r (O 49 [h 1 6,m 2,ln 1 50,m 8,n (st 1 6 49),d 7 (m 51),d 8 (m 52)]))
def Ac:aB:=zd (s (O 32 [lt 31 30]) (s (cc 32 (w .skip) (ee 0)) (s (B 1 (s (O 33 [m 31,ix 5 29 31,h 5 34,d 11 (E (.alloc [.int .u8 0,.int .i64 0,.int .i64 0,.int .i64 0,.ro 4 [] true])),d 10 (m 33),n (st 5 11 35)]) (s (Q 37 [h 2 3,h 1 6,h 5 11,ca 343 [37,38,39],d 36 (m 40),ex 0 36,ex 1 36,n (st 1 6 41),d 8 (m 42)] [31,30,29,10,8,6,3,2]) (s (O 43 [m 8,nei 43 0]) (c 44 (r (O 45 [E (.build [.ro 6 [] true] []),m 10,m 8,n (st 1 6 45),d 7 (m 46),d 8 (m 47)]))))))) (O 48 [adi 31 1,d 31 (m 48)]))))
def Nl:aB:=.loop ⟨true,[31,30,29,8,6,3,2],[]⟩ Ac
def X4:WFn:=⟨3,[.cell 6 1 true,.tmp 7,.tmp 8],zd (s (O 6 [d 3 (bx 0),d 4 (bx 1),E (.alloc [.ro 6 [] true]),i 0,i 0]) (s (s (O 12 [h 2 3,h 1 4,ca 223 [12,13],d 9 (m 14)]) (s (O 15 [m 9,nei 15 0]) (c 16 (r (O 17 [E (.build [.ro 6 [] true] []),m 9,n (st 1 6 17),d 7 (i 0),d 8 (m 18)]))))) (s (s (Q 19 [m 2,ln 1 19,gti 20 32] [21,6,4,3,2]) (c 21 (r (O 7 [d 22 (E (.build [.ro 6 [] true] [])),n (st 1 6 22),i 0,i 3])))) (s (O 24 [h 2 3,h 1 4,E (.call 110 [T 24,T 25,N 0,N 0]),d 23 (m 26),ex 0 23,ex 1 23,n (st 1 6 27),d 8 (m 28)]) (s (s (O 29 [m 2,ln 1 29,i 0]) (bk 0 Nl ⟨true,[8,6,2],[]⟩)) JZ)))))⟩
@[simp] theorem anO:ZL Nl Ac ⟨true,[31,30,29,8,6,3,2],[]⟩:=bn rfl
noncomputable abbrev Ah (C:aI) (s:WSt):Option AV:=CK C 0 (aT [.cell 6 1 true,.tmp 7,.tmp 8]) [.sq Nl,.bk 0 ⟨true,[8,6,2],[]⟩,.sq JZ] Ac s
def agS:aB:=zd (s (s (U 118 [h 1 1,E (.aO [.int .u64 0] 3 [(0,.c (.int .u64 1)),(1,.c (.int .u64 4)),(2,.c (.int .u64 3))]),ca 159 [119],h 2 2,ca 324 [118,120,121],E (.build [.int .u64 0,.int .i64 0] [(0,1,.c (.int .u64 3))]),E (.eqv 4 [0,0] true (T 122) (T 123)),m 124,z 125 (h 1 1),z 125 (E (.aO [.int .u64 0] 1 [(0,.c (.int .u64 1))])),z 125 (ca 159 [127]),z 125 (h 2 2),z 125 (ca 324 [126,128,129]),z 125 (E (.build [.int .u64 0,.int .i64 0] [(0,1,.c (.int .u64 1))])),z 125 (E (.eqv 4 [0,0] true (T 130) (T 131))),po 125 132,m 133,z 134 (h 1 1),z 134 (E (.call 159 [.c (.ro 1 [] true)])),z 134 (h 2 2),z 134 (ca 324 [135,136,137]),z 134 (E (.build [.int .u64 0,.int .i64 0] [])),z 134 (E (.eqv 4 [0,0] true (T 138) (T 139))),po 134 140,m 141,z 142 (h 1 1),z 142 (E (.aO [.int .u64 0] 2 [(0,.c (.int .u64 4)),(1,.c (.int .u64 2))])),z 142 (ca 159 [144]),z 142 (h 2 2),z 142 (ca 324 [143,145,146]),z 142 (h 2 2),z 142 (E (.eqv 4 [0,0] true (T 147) (T 148))),po 142 149,m 150,z 151 (E (.call 159 [.c (.ro 1 [] true)])),z 151 (E (.aO [.int .u64 0] 2 [(0,.c (.int .u64 4)),(1,.c (.int .u64 2))])),z 151 (ca 159 [153]),z 151 (E (.build [.int .u64 0,.int .i64 0] [])),z 151 (ca 324 [152,154,155]),z 151 (E (.build [.int .u64 0,.int .i64 0] [(0,1,.c (.int .u64 4))])),z 151 (E (.eqv 4 [0,0] true (T 156) (T 157))),po 151 158] [(0,1),(0,2),(1,3),(2,3),(8,9),(8,10),(9,11),(10,11),(17,18),(18,19),(25,26),(25,27),(26,28),(27,28),(26,30),(27,30),(29,30),(34,35)] [159,2,1]) (c 159 (r (O 0 [ff])))) (r (O 160 [h 1 1,h 2 2,E (.call 321 [T 160,N 29,T 161]),m 162,y 163 (h 1 1),y 163 (h 2 2),y 163 (E (.call 321 [T 164,N 5,T 165])),y 163 (nt 166),pa 163 167,d 0 (m 168)])))
def V6:aB:=zd (s (s (O 52 [m 6,lti 52 3]) (cc 53 (w .skip) (ee 2))) (s (B 3 (s (U 57 [h 1 1,E (.aO [.int .i64 0] 3 [(0,N 40),(1,N 40),(2,N 100)]),m 6,ix 1 58 59,l 1 60,E (.aO [.int .i64 0] 3 [(0,N 70),(1,N (-3)),(2,N 70)]),m 6,ix 1 62 63,l 1 64,ca 313 [57,61,65],d 56 (m 66),ex 0 56,ex 1 56,d 7 (m 67),d 8 (m 68)] [(0,1),(0,5),(1,5),(4,5),(1,8)] [8,7,6,2,1]) (s (V 70 [h 1 1,E (.aO [.int .i64 0] 3 [(0,N 20),(1,N 60),(2,N 20)]),m 6,ix 1 71 72,l 1 73,h 2 2,h 2 2,E (.build [.int .u64 0,.int .i64 0] [(0,1,.c (.int .u64 9))]),E (.aO [.int .u64 0,.int .i64 0] 3 [(0,T 75),(1,T 76),(2,T 77)]),m 6,ix 2 78 79,h 2 80,ca 161 [70,74,81],d 69 (m 82),ex 0 69,ex 1 69,d 9 (m 83),d 10 (m 84)] [(0,1),(1,5),(1,6),(0,8),(1,8),(4,8),(1,11)] ⟨false,[],[]⟩) (s (Q 85 [m 8,nei 85 0,m 86,z 87 (m 7),z 87 (E (.aO [.int .i64 0] 3 [(0,N 25),(1,N 0),(2,N 0)])),z 87 (m 6),z 87 (ix 1 89 90),z 87 (l 1 91),z 87 (ne 88 92),po 87 93,m 94,z 95 (m 9),z 95 (E (.aO [.int .i64 0] 3 [(0,N 29),(1,N 5),(2,N 0)])),z 95 (m 6),z 95 (ix 1 97 98),z 95 (l 1 99),z 95 (ne 96 100),po 95 101,m 102,z 103 (m 10),z 103 (eqi 104 0),z 103 (m 6),z 103 (lti 106 2),z 103 (E (.eqv 5 [] true (T 105) (T 107))),po 103 108,m 109,z 110 (m 6),z 110 (eqi 111 2),z 110 (m 112),y 113 (m 10),y 113 (nei 114 11),z 110 (pa 113 115),po 110 116] [117,6,2,1]) (c 117 (r (O 0 [ff]))))))) (O 54 [m 6,adi 54 1,d 6 (m 55)])))
def Vw:aB:=.loop ⟨true,[6,2,1],[]⟩ V6
def ags:aB:=zd (s (s (O 6 [i 0]) (bk 2 Vw ⟨true,[2,1],[]⟩)) agS)
def VN:aB:=zd (s (s (O 14 [m 3,lti 14 4]) (cc 15 (w .skip) (ee 0))) (s (B 1 (s (V 19 [h 1 1,E (.aO [.int .i64 0] 4 [(0,N 0),(1,N 29),(2,N 30),(3,N 65)]),m 3,ix 1 20 21,l 1 22,ca 160 [19,23],d 18 (m 24),ex 0 18,ex 1 18,d 4 (E (.alloc [.int .u64 0,.int .i64 0])),n (st 2 4 25),d 5 (m 26)] [(0,1),(0,9),(1,9),(4,9),(5,9)] ⟨false,[],[]⟩) (s (U 27 [h 2 4,E (.build [.int .u64 0,.int .i64 0] [(0,1,.c (.int .u64 1))]),h 2 2,E (.build [.int .u64 0,.int .i64 0] [(0,1,.c (.int .u64 3))]),E (.build [.int .u64 0,.int .i64 0] []),E (.aO [.int .u64 0,.int .i64 0] 4 [(0,T 28),(1,T 29),(2,T 30),(3,T 31)]),m 3,ix 2 32 33,h 2 34,E (.eqv 4 [0,0] true (T 27) (T 35)),m 36,z 37 (m 5),z 37 (eqi 38 0),z 37 (m 3),z 37 (lti 40 3),z 37 (E (.eqv 5 [] true (T 39) (T 41))),po 37 42,m 43,z 44 (m 3),z 44 (eqi 45 3),z 44 (m 46),y 47 (m 5),y 47 (nei 48 4),z 44 (pa 47 49),po 44 50] [(0,5)] [51,3,2,1]) (c 51 (r (O 0 [ff])))))) (O 16 [m 3,adi 16 1,d 3 (m 17)])))
def Vk:aB:=.loop ⟨true,[3,2,1],[]⟩ VN
def akQ:WFn:=⟨0,[.tmp 0],zd (s (O 0 [ff]) (s (O 11 [E (.aO [.int .u64 0] 4 [(0,.c (.int .u64 1)),(1,.c (.int .u64 2)),(2,.c (.int .u64 3)),(3,.c (.int .u64 4))]),ca 159 [11],d 1 (E (.alloc [.ro 6 [] true])),n (st 1 1 12)]) (s (O 13 [E (.build [.int .u64 0,.int .i64 0] [(0,1,.c (.int .u64 2)),(1,1,N 19)]),d 2 (E (.alloc [.int .u64 0,.int .i64 0])),n (st 2 2 13)]) (s (s (O 3 [i 0]) (bk 0 Vk ⟨true,[2,1],[]⟩)) ags))))⟩
@[simp] theorem amL:ZL Vw V6 ⟨true,[6,2,1],[]⟩:=bn rfl
@[simp] theorem amR:ZL Vk VN ⟨true,[3,2,1],[]⟩:=bn rfl
def aav:WFn:=ahu 0
def acy:WFn:=⟨2,[.tmp 4],zd (s (O 4 [i 0]) (s (s (O 5 [m 0,m 0,ln 1 6,ca 253 [5,7],m 1,lt 8 9]) (c 10 (r (O 4 [i 0])))) (r (O 11 [m 0,m 0,ln 1 12,ca 253 [11,13],m 1,sb 14 15,d 4 (m 16)]))))⟩
def Lu:aB:=zd (r (O 4 [i (-1)]))
def xO:aB:=zd (s (s (O 6 [m 5,m 0,ln 1 7,lt 6 8]) (cc 9 (w .skip) (ee 0))) (s (B 1 (s (O 12 [m 0,m 5,ix 6 12 13,f 0 14,f 0 15,l 1 16,m 1,eq 17 18]) (c 19 (r (O 20 [m 5,d 4 (m 20)]))))) (O 10 [m 5,adi 10 1,d 5 (m 11)])))
def Nu:aB:=.loop ⟨true,[5,1,0],[]⟩ xO
def aeW:WFn:=⟨2,[.tmp 4],zd (s (O 4 [i 0]) (s (s (O 5 [i 0]) (bk 0 Nu ⟨true,[],[]⟩)) Lu))⟩
@[simp] theorem anP:ZL Nu xO ⟨true,[5,1,0],[]⟩:=bn rfl
noncomputable abbrev zF (C:aI) (s:WSt):Option AV:=CK C 0 (aT [.tmp 4]) [.sq Nu,.bk 0 ⟨true,[],[]⟩,.sq Lu] xO s
def alf:WFn:=⟨3,[.tmp 6],zd (s (O 3 [bx 0,bx 1,bx 2,ff]) (s (s (Q 21 [f 0 3,l 1 21,ln 1 22,gti 23 40] [24,5,4,3]) (c 24 (r (O 25 [ca 164 [],d 6 (m 25)])))) (s (V 26 [E (.fK 3 1 (T 4) (N 0)),l 1 26,E (.fK 3 1 (T 4) (N 1)),l 1 28,d 7 (m 27),d 8 (m 29)] [] ⟨false,[],[]⟩) (s (O 30 [f 0 3,l 1 30,m 7,ca 312 [31,32],d 9 (m 33)]) (s (O 35 [h 1 3,m 7,m 8,ca 313 [35,36,37],d 34 (m 38),ex 0 34,ex 1 34,d 10 (m 39),d 11 (m 40)]) (s (s (U 41 [m 11,m 9,ne 41 42,m 43,z 44 (m 9),z 44 (eqi 45 0),z 44 (m 46),y 47 (m 10),y 47 (f 0 3),y 47 (l 1 49),y 47 (m 7),y 47 (m 8),y 47 (ca 314 [50,51,52]),y 47 (ne 48 53),z 44 (pa 47 54),po 44 55,m 56,z 57 (m 9),z 57 (nei 58 0),z 57 (m 59),y 60 (m 10),y 60 (nei 61 0),z 57 (pa 60 62),po 57 63,m 64,z 65 (m 8),z 65 (E (.fK 3 1 (T 4) (N 2))),z 65 (l 1 67),z 65 (ca 315 [66,68]),z 65 (m 8),z 65 (E (.fK 3 1 (T 4) (N 2))),z 65 (l 1 71),z 65 (ca 316 [70,72]),z 65 (ne 69 73),po 65 74] [(28,31)] [75,8,7,5,3]) (c 75 (r (O 6 [ff])))) (s (O 77 [f 0 3,l 1 77,m 8,ca 317 [78,79],d 76 (m 80),ex 0 76,ex 1 76,d 12 (E (.alloc [.int .u64 0,.int .i64 0])),n (st 2 12 81),d 13 (m 82)]) (s (O 84 [h 1 3,m 8,ca 160 [84,85],d 83 (m 86),ex 0 83,ex 1 83,d 14 (E (.alloc [.int .u64 0,.int .i64 0])),n (st 2 14 87),d 15 (m 88)]) (s (s (U 89 [h 2 14,h 2 12,E (.eqv 4 [0,0] true (T 89) (T 90)),m 91,z 92 (m 15),z 92 (m 13),z 92 (ne 93 94),po 92 95,m 96,z 97 (h 2 5),z 97 (ca 318 [98]),z 97 (h 2 5),z 97 (ca 176 [100]),z 97 (ne 99 101),po 97 102] [(10,11)] [103,8,7,5,3]) (c 103 (r (O 6 [ff])))) (s (O 105 [f 0 3,l 1 105,m 7,h 2 5,ca 319 [106,107,108],d 104 (m 109),ex 0 104,ex 1 104,d 16 (m 110),d 17 (m 111)]) (s (O 113 [h 1 3,m 7,h 2 5,ca 161 [113,114,115],d 112 (m 116),ex 0 112,ex 1 112,d 18 (m 117),d 19 (m 118)]) (s (Q 119 [f 0 3,l 1 119,ca 251 [120],eqi 121 0,m 122,y 123 (f 0 3),y 123 (l 1 124),y 123 (m 8),y 123 (h 2 5),y 123 (ca 320 [125,126,127]),y 123 (eqi 128 1),pa 123 129,d 20 (m 130)] [20,19,18,17,16,8,5,3]) (r (O 131 [m 18,m 16,eq 131 132,m 133,y 134 (m 19),y 134 (m 17),y 134 (eq 135 136),pa 134 137,m 138,y 139 (h 1 3),y 139 (m 8),y 139 (h 2 5),y 139 (ca 321 [140,141,142]),y 139 (m 20),y 139 (E (.eqv 5 [] false (T 143) (T 144))),pa 139 145,m 146,y 147 (ca 164 []),pa 147 148,d 6 (m 149)]))))))))))))))⟩
def agp:aB:=zd (r (O 32 [h 1 3,n (st 1 2 32)]))
def Uz:aB:=zd (s (s (O 5 [m 4,m 0,ln 1 6,lt 5 7]) (cc 8 (w .skip) (ee 0))) (s (B 1 (U 11 [f 0 3,l 1 11,m 0,m 4,ix 1 13 14,l 1 15,E (.build [.int .u64 0,.int .u8 0,.str [],.ro 1 [] true] [(0,1,T 16)]),E (.aO [.int .i64 0] 4 [(0,N 10),(1,N 20),(2,N 5),(3,N 30)]),m 0,m 4,ix 1 19 20,l 1 21,E (.cvt .i64 (T 22)),adi 23 3,E (.bin .rem (T 24) (N 4)),ix 1 18 25,l 1 26,E (.build [.int .u64 0,.int .u8 0,.str [],.ro 1 [] true,.int .i64 0,.bool false] [(0,4,T 17),(4,1,T 27)]),E (.aO [.int .u64 0,.int .u8 0,.str [],.ro 1 [] true,.int .i64 0,.bool false] 1 [(0,T 28)]),E (.app [.int .u64 0,.int .u8 0,.str [],.ro 1 [] true,.int .i64 0,.bool false] 72 false (T 12) (T 29)),f 0 3,n (st 1 31 30)] [(1,7),(5,7),(7,11),(1,18)] [4,3,2,0])) (O 9 [m 4,adi 9 1,d 4 (m 10)])))
def Uu:aB:=.loop ⟨true,[4,3,2,0],[]⟩ Uz
def al8:WFn:=⟨1,[.cell 2 1 true],zd (s (O 2 [E (.alloc [.ro 6 [] true])]) (s (O 3 [E (.alloc [.ro 6 [] true])]) (s (s (O 4 [i 0]) (bk 0 Uu ⟨true,[3,2],[]⟩)) agp)))⟩
@[simp] theorem anu:ZL Uu Uz ⟨true,[4,3,2,0],[]⟩:=bn rfl
def akZ:WFn:=⟨3,[.tmp 6],zd (s (O 3 [bx 0,bx 1,bx 2,ff]) (s (s (O 8 [f 0 3,l 1 8,ln 1 9,gti 10 40,m 11,z 12 (f 0 4),z 12 (l 1 13),z 12 (ln 1 14),z 12 (gti 15 40),po 12 16]) (c 17 (r (O 18 [ca 164 [],d 6 (m 18)])))) (s (O 19 [h 1 3,h 1 4,h 2 5,ca 324 [19,20,21],d 7 (E (.alloc [.int .u64 0,.int .i64 0])),n (st 2 7 22)]) (s (s (U 23 [h 2 7,f 0 3,l 1 24,f 0 4,l 1 26,h 2 5,ca 325 [25,27,28],E (.eqv 4 [0,0] true (T 23) (T 29))] [(0,6)] [30,7,5,4]) (c 30 (r (O 6 [ff])))) (s (s (O 31 [f 0 5,l 1 31,E (.bin .gtr (T 32) (.c (.int .u64 0))),m 33,y 34 (f 0 4),y 34 (l 1 35),y 34 (f 0 5),y 34 (l 1 37),y 34 (ca 239 [36,38]),y 34 (gei 39 0),pa 34 40]) (c 41 (r (O 42 [h 2 7,h 2 5,E (.eqv 4 [0,0] false (T 42) (T 43)),m 44,y 45 (ca 164 []),pa 45 46,d 6 (m 47)])))) (r (Q 48 [f 1 7,l 1 48,eqi 49 0,m 50,y 51 (f 0 4),y 51 (l 1 52),y 51 (ln 1 53),y 51 (eqi 54 0),y 51 (m 55),y 56 (f 0 7),y 56 (l 1 57),y 56 (E (.bin .eql (T 58) (.c (.int .u64 0)))),y 51 (pa 56 59),y 51 (m 60),z 61 (f 0 4),z 61 (l 1 62),z 61 (f 0 7),z 61 (l 1 64),z 61 (ca 239 [63,65]),z 61 (gei 66 0),y 51 (po 61 67),pa 51 68,m 69,y 70 (ca 164 []),pa 70 71,d 6 (m 72)] [6])))))))⟩
def aeZ:WFn:=⟨3,[.cell 6 1 true,.tmp 7],zd (s (R 6 [d 3 (bx 0),d 4 (bx 1),E (.alloc [.ro 6 [] true]),i 0] ⟨true,[6,4,3,2],[(3,65536),(4,65536)]⟩) (r (V 8 [h 2 3,h 1 4,m 2,ln 1 10,m 2,E (.call 217 [.c (.ro 6 [] true)]),E (.build [.bool false,.int .i64 0,.ro 4 [] true,.bK,.bK] [(0,1,.c (.bool true)),(1,1,T 11),(2,1,T 12),(3,1,T 13),(4,1,.c (.fn 218 []))]),ca 216 [8,9,14],ex 0 15,ex 1 15,n (st 1 6 16),d 7 (m 17)] [(0,5),(1,5),(3,5)] ⟨false,[],[]⟩)))⟩
def agD:WFn:=⟨4,[.cell 8 1 true,.tmp 9],zd (s (R 4 [bx 0,bx 1,bx 2,d 8 (E (.alloc [.ro 6 [] true])),d 9 (i 0)] ⟨true,[8,6,5,4,3],[(4,65536),(5,65536),(6,65536)]⟩) (r (U 10 [h 2 4,h 1 5,l 1 6,f 0 5,l 1 13,ln 1 14,E (.call 219 [T 12,N 0,T 15]),f 0 5,l 1 17,ln 1 18,m 3,ln 1 20,ad 19 21,m 3,f 0 5,l 1 24,ca 217 [25],E (.jE 220 [T 5,T 6]),E (.build [.bool false,.int .i64 0,.ro 4 [] true,.bK,.bK] [(0,1,T 16),(1,1,T 22),(2,1,T 23),(3,1,T 26),(4,1,T 27)]),ca 216 [10,11,28],ex 0 29,ex 1 29,n (st 1 8 30),d 9 (m 31)] [(0,6),(1,6),(6,8),(6,9),(6,11),(6,15),(0,16),(1,16),(8,16),(9,16),(11,16)] [9,8])))⟩
def afo:WFn:=⟨4,[.cell 8 1 true,.tmp 9],zd (s (R 4 [bx 0,bx 1,bx 2,bx 3,E (.alloc [.ro 6 [] true]),i 0] ⟨true,[8,7,6,5,4],[(4,65536),(5,65536),(6,65536),(7,65536)]⟩) (r (V 10 [h 2 4,h 1 5,l 1 6,l 1 7,f 0 5,l 1 14,ln 1 15,ca 219 [12,13,16],E (.jE 222 [T 5,T 6,T 7]),E (.build [.bool false,.int .i64 0,.ro 4 [] true,.bK,.bK] [(0,1,T 17),(4,1,T 18)]),ca 216 [10,11,19],ex 0 20,ex 1 20,n (st 1 8 21),d 9 (m 22)] [(0,7),(1,7)] ⟨false,[],[]⟩)))⟩
def Lr:aB:=zd (r (O 25 [m 3,d 2 (m 25)]))
def wS:aB:=zd (s (O 11 [lt 10 9]) (s (cc 11 (w .skip) (ee 0)) (s (B 1 (s (O 12 [ix 6 8 10,h 6 12,d 5 (E (.alloc [.int .u64 0,.int .u8 0,.str [],.ro 1 [] true,.int .i64 0,.bool false])),n (st 6 5 13)]) (s (O 14 [f 4 5,l 1 14,E (.mx (T 15) (N 0)),d 6 (m 16)]) (s (s (O 17 [m 6,m 3,E (.bin .sub (N 4611686018427387904) (T 18)),gt 17 19]) (c 20 (r (O 2 [i 4611686018427387905])))) (O 21 [m 3,m 6,ad 21 22,d 3 (m 23)]))))) (O 24 [adi 10 1,d 10 (m 24)]))))
def NS:aB:=.loop ⟨true,[10,9,8,3],[]⟩ wS
def aeC:WFn:=⟨1,[.tmp 2],zd (s (O 1 [bx 0,i 0]) (s (O 3 [i 0]) (s (s (Q 7 [f 0 1,l 1 7,ln 1 8,i 0] [10,9,8,3]) (bk 0 NS ⟨true,[3],[]⟩)) Lr)))⟩
@[simp] theorem anH:ZL NS wS ⟨true,[10,9,8,3],[]⟩:=bn rfl
noncomputable abbrev Bl (C:aI) (s:WSt):Option AV:=CK C 0 (aT [.tmp 2]) [.sq NS,.bk 0 ⟨true,[3],[]⟩,.sq Lr] wS s
def ac6:WFn:=⟨4,[.cell 8 1 true,.tmp 9],zd (s (R 4 [bx 0,bx 1,bx 2,bx 3,E (.alloc [.ro 6 [] true]),i 0] ⟨true,[8,7,6,5,4],[(4,65536),(5,65536),(6,65536),(7,65536)]⟩) (s (O 11 [E (.jE 228 [T 5,T 6]),d 10 (m 11)]) (r (V 12 [h 2 4,h 1 5,l 1 6,l 1 7,ln 1 15,f 0 5,l 1 17,ln 1 18,ca 219 [14,16,19],l 1 7,m 10,E (.jE 229 [T 5,T 6,T 7]),E (.build [.bool false,.int .i64 0,.ro 4 [] true,.bK,.bK] [(0,1,T 20),(1,1,N 0),(2,1,T 21),(3,1,T 22),(4,1,T 23)]),ca 216 [12,13,24],ex 0 25,ex 1 25,n (st 1 8 26),d 9 (m 27)] [(0,8),(1,8),(8,9)] ⟨false,[],[]⟩))))⟩
def KY:WFn:=⟨1,[.tmp 2],zd (s (O 1 [bx 0,i 0]) (s (O 3 [E (.mv (.c (.fn 230 [])))]) (s (s (Q 4 [f 0 1,l 1 4,ln 1 5,lti 6 1,m 7,z 8 (f 0 1),z 8 (l 1 9),z 8 (ln 1 10),z 8 (gti 11 8),po 8 12,m 13,z 14 (f 1 1),z 14 (l 1 15),z 14 (lti 16 1),po 14 17,m 18,z 19 (f 1 1),z 19 (l 1 20),z 19 (gti 21 64),po 19 22,m 23,z 24 (f 0 1),z 24 (l 1 25),z 24 (m 3),z 24 (ca 232 [26,27]),po 24 28] [29]) (c 29 (r (O 2 [i 7])))) (r (O 2 [i 0])))))⟩
def Ud:WFn:=⟨2,[.tmp 4,.tmp 5],zd (s (O 4 [d 2 (bx 0),i 0,i 0]) (s (O 9 [h 1 2,ca 246 [9],d 8 (m 10),ex 0 8,ex 1 8,d 6 (m 11),d 7 (m 12)]) (s (s (Q 13 [m 7,nei 13 0] [14,7,6,1]) (c 14 (r (O 4 [d 15 (m 7),i 0,m 15])))) (s (s (O 16 [m 1,lti 16 0,m 17,z 18 (m 1),z 18 (m 6),z 18 (m 6),z 18 (ln 1 21),z 18 (sbi 22 1),z 18 (ix 1 20 23),z 18 (l 1 24),z 18 (ge 19 25),po 18 26]) (c 27 (r (O 4 [i 0,i 4])))) (r (O 28 [m 6,m 1,ca 247 [28,29],d 4 (m 30),d 5 (i 0)]))))))⟩
def Yi:WFn:=⟨1,[.tmp 2],zd (s (O 1 [bx 0,i 0]) (s (s (O 3 [f 0 1,l 1 3,ln 1 4,gti 5 1024]) (c 6 (r (O 2 [i 3])))) (s (s (O 7 [f 0 1,l 1 7,E (.call 249 [T 8,.c (.fn 250 [])])]) (c 9 (r (O 2 [i 12])))) (s (s (O 10 [h 1 1,ca 111 [10],gti 11 4611686018427387904]) (c 12 (r (O 2 [i 13])))) (r (O 2 [i 0]))))))⟩
def adJ:WFn:=⟨1,[.tmp 2],zd (s (O 2 [E (.mv (.c (.ro 9 [] true)))]) (s (Q 6 [E (.build [.str [],.int .u8 0,.str []] [(0,1,.c (.str [110])),(1,1,.c (.int .u8 3))]),E (.build [.str [],.int .u8 0,.str []] [(0,1,.c (.str [116,101,120,116])),(1,1,.c (.int .u8 1))]),E (.aO [.str [],.int .u8 0,.str []] 2 [(0,T 6),(1,T 7)]),E (.build [.int .u8 0,.str [],.str [],.ro 3 [] true,.str [],.ro 6 [] true] [(0,1,.c (.int .u8 3))]),E (.aO [.int .u8 0,.str [],.str [],.ro 3 [] true,.str [],.ro 6 [] true] 1 [(0,T 9)]),E (.build [.int .u8 0,.str [],.str [],.ro 3 [] true,.str [],.ro 6 [] true] [(0,1,.c (.int .u8 1)),(1,1,.c (.str [114,111,119])),(3,1,T 8),(5,1,T 10)]),d 3 (E (.alloc [.int .u8 0,.str [],.str [],.ro 3 [] true,.str [],.ro 6 [] true])),n (st 6 3 11)] [3,0]) (s (O 12 [E (.build [.str [],.int .u8 0,.str []] [(0,1,.c (.str [105,100])),(1,1,.c (.int .u8 2))]),E (.aO [.str [],.int .u8 0,.str []] 1 [(0,T 12)]),E (.build [.int .u8 0,.str [],.str [],.ro 3 [] true,.str [],.ro 6 [] true] [(0,1,.c (.int .u8 2)),(4,1,.c (.str [35]))]),E (.build [.int .u8 0,.str [],.str [],.ro 3 [] true,.str [],.ro 6 [] true] [(0,1,.c (.int .u8 4))]),E (.aO [.int .u8 0,.str [],.str [],.ro 3 [] true,.str [],.ro 6 [] true] 2 [(0,T 14),(1,T 15)]),E (.build [.int .u8 0,.str [],.str [],.ro 3 [] true,.str [],.ro 6 [] true] [(0,1,.c (.int .u8 1)),(1,1,.c (.str [104,101,97,100])),(2,1,.c (.str [104])),(3,1,T 13),(5,1,T 16)]),d 4 (E (.alloc [.int .u8 0,.str [],.str [],.ro 3 [] true,.str [],.ro 6 [] true])),n (st 6 4 17)]) (s (O 18 [E (.build [.int .u8 0,.str [],.str [],.ro 3 [] true,.str [],.ro 6 [] true] [(0,1,.c (.int .u8 3))]),E (.aO [.int .u8 0,.str [],.str [],.ro 3 [] true,.str [],.ro 6 [] true] 1 [(0,T 18)]),E (.build [.int .u8 0,.str [],.str [],.ro 3 [] true,.str [],.ro 6 [] true] [(0,1,.c (.int .u8 1)),(1,1,.c (.str [98])),(2,1,.c (.str [98,50])),(5,1,T 19)]),E (.build [.str [],.int .u8 0,.str []] [(0,1,.c (.str [111,102])),(1,1,.c (.int .u8 2))]),E (.aO [.str [],.int .u8 0,.str []] 1 [(0,T 21)]),E (.build [.int .u8 0,.str [],.str [],.ro 3 [] true,.str [],.ro 6 [] true] [(0,1,.c (.int .u8 5)),(1,1,.c (.str [116,97,103])),(3,1,T 22)]),E (.aO [.int .u8 0,.str [],.str [],.ro 3 [] true,.str [],.ro 6 [] true] 2 [(0,T 20),(1,T 23)]),E (.build [.int .u8 0,.str [],.str [],.ro 3 [] true,.str [],.ro 6 [] true] [(0,1,.c (.int .u8 1)),(1,1,.c (.str [114,111,119])),(5,1,T 24)]),d 5 (E (.alloc [.int .u8 0,.str [],.str [],.ro 3 [] true,.str [],.ro 6 [] true])),n (st 6 5 25)]) (r (Q 26 [h 6 3,m 0,E (.bin .rem (T 27) (.c (.int .u8 7))),E (.cvt .i64 (T 28)),E (.bin .add (N 10) (T 29)),m 0,E (.bin .rem (T 31) (.c (.int .u8 4))),E (.cvt .i64 (T 32)),E (.build [.int .u8 0,.str [],.str [],.ro 3 [] true,.str [],.ro 6 [] true,.int .i64 0,.bool false,.int .i64 0] [(0,6,T 26),(6,1,T 30),(8,1,T 33)]),h 6 4,m 0,E (.bin .rem (T 36) (.c (.int .u8 3))),E (.cvt .i64 (T 37)),E (.bin .add (N 6) (T 38)),m 0,E (.bin .quo (T 40) (.c (.int .u8 4))),E (.bin .rem (T 41) (.c (.int .u8 3))),E (.cvt .i64 (T 42)),E (.build [.int .u8 0,.str [],.str [],.ro 3 [] true,.str [],.ro 6 [] true,.int .i64 0,.bool false,.int .i64 0] [(0,6,T 35),(6,1,T 39),(7,1,.c (.bool true)),(8,1,T 43)]),h 6 5,m 0,E (.bin .rem (T 46) (.c (.int .u8 16))),E (.bin .eql (T 47) (.c (.int .u8 15))),m 0,E (.bin .quo (T 49) (.c (.int .u8 8))),E (.bin .rem (T 50) (.c (.int .u8 3))),E (.cvt .i64 (T 51)),E (.build [.int .u8 0,.str [],.str [],.ro 3 [] true,.str [],.ro 6 [] true,.int .i64 0,.bool false,.int .i64 0] [(0,6,T 45),(6,1,N 20),(7,1,T 48),(8,1,T 52)]),E (.aO [.int .u8 0,.str [],.str [],.ro 3 [] true,.str [],.ro 6 [] true,.int .i64 0,.bool false,.int .i64 0] 3 [(0,T 34),(1,T 44),(2,T 53)]),d 2 (m 54)] [2]))))))⟩
def afR:WFn:=⟨1,[.tmp 2],zd (s (O 1 [bx 0,i 0]) (s (O 6 [h 6 1,ca 282 [6],d 5 (m 7),ex 0 5,ex 1 5,d 3 (m 8),d 4 (m 9)]) (r (O 10 [m 3,d 2 (m 10)]))))⟩
def E5:aB:=zd (r (O 32 [m 3,d 2 (m 32)]))
def xg:aB:=zd (s (s (Q 6 [m 4,f 0 1,l 1 7,ln 1 8,lt 6 9,m 10,y 11 (m 4),y 11 (lti 12 12),pa 11 13] [14,4,3,1]) (cc 14 (w .skip) (ee 0))) (s (B 1 (s (O 17 [f 0 1,l 1 17,m 4,ix 4 18 19,h 4 20,ca 422 [21],d 5 (E (.alloc [.int .u64 0,.int .u8 0,.str [],.ro 1 [] true])),n (st 4 5 22)]) (s (O 23 [m 3,f 0 5,l 1 24,ca 423 [23,25],lti 26 0]) (c 27 (O 28 [m 3,h 4 5,E (.aO [.int .u64 0,.int .u8 0,.str [],.ro 1 [] true] 1 [(0,T 29)]),E (.app [.int .u64 0,.int .u8 0,.str [],.ro 1 [] true] 56 false (T 28) (T 30)),d 3 (m 31)]))))) (O 15 [m 4,adi 15 1,d 4 (m 16)])))
def KJ:aB:=.loop ⟨true,[4,3,1],[]⟩ xg
def aga:WFn:=⟨1,[.tmp 2],zd (s (O 1 [bx 0,E (.mv (.c (.ro 4 [] true)))]) (s (R 3 [E (.mv (.c (.ro 4 [] true)))] ⟨true,[3,1],[(3,4)]⟩) (s (s (O 4 [i 0]) (bk 0 KJ ⟨true,[3],[]⟩)) E5)))⟩
@[simp] theorem amE:ZL KJ xg ⟨true,[4,3,1],[]⟩:=bn rfl
noncomputable abbrev zn (C:aI) (s:WSt):Option AV:=CK C 0 (aT [.tmp 2]) [.sq KJ,.bk 0 ⟨true,[3],[]⟩,.sq E5] xg s
def RU:WFn:=⟨3,[.tmp 6],zd (s (O 3 [bx 0,bx 1,d 6 (i 0)]) (s (s (O 9 [h 4 4,f 0 3,l 1 10,ln 1 11,ca 424 [9,12],gti 13 0]) (c 14 (r (O 6 [i 6])))) (s (s (Q 15 [m 2,eqi 15 1] [16,4,3]) (c 16 (r (O 6 [i 8])))) (s (V 18 [f 0 3,l 1 18,f 1 4,l 1 20,ix 9 19 21,f 0 22,h 6 23,h 4 4,f 1 3,l 1 26,ca 425 [24,25,27],d 17 (m 28),ex 0 17,ex 1 17,d 7 (E (.alloc [.int .u8 0,.str [],.str [],.ro 2 [] true,.str [],.ro 6 [] true])),n (st 6 7 29),d 8 (m 30)] [(1,14),(3,14),(6,14),(7,14),(9,14),(10,14)] ⟨false,[],[]⟩) (s (s (O 31 [m 8,gti 31 0]) (c 32 (r (O 6 [i 14])))) (r (O 6 [i 0])))))))⟩
def agK:WFn:=⟨2,[.cell 4 6 true],zd (s (O 2 [bx 0,bx 1,E (.alloc [.int .u64 0,.int .u8 0,.str [],.ro 1 [] true,.int .i64 0,.bool false])]) (r (V 5 [h 4 3,f 0 2,l 1 6,f 1 3,l 1 8,ix 9 7 9,f 6 10,l 1 11,E (.build [.int .u64 0,.int .u8 0,.str [],.ro 1 [] true,.int .i64 0,.bool false] [(0,4,T 5),(4,1,T 12)]),n (st 6 4 13)] [] ⟨false,[],[]⟩)))⟩
def FC:aB:=zd (r (O 208 [m 7,m 9,E (.fK 5 1 (T 3) (N 4)),l 1 210,E (.build [.int .u64 0,.int .u8 0,.str [],.ro 1 [] true] [(1,1,T 211)]),E (.aO [.int .u64 0,.int .u8 0,.str [],.ro 1 [] true] 1 [(0,T 212)]),E (.app [.int .u64 0,.int .u8 0,.str [],.ro 1 [] true] 56 false (T 209) (T 213)),E (.build [.int .u8 0,.int .i64 0,.int .i64 0,.int .i64 0,.ro 4 [] true] [(0,1,.c (.int .u8 1)),(1,1,T 208),(4,1,T 214)]),n (st 5 6 215)]))
def wX:aB:=zd (r (O 132 [h 5 13,n (st 5 6 132)]))
def tH:aB:=zd (s (s (O 100 [m 14,m 8,E (.mn (T 101) (N 3)),lt 100 102]) (cc 103 (w .skip) (ee 3))) (s (B 4 (s (Q 106 [E (.fK 5 1 (T 3) (N 3)),l 1 106,m 14,E (.cvt .u8 (T 108)),ad 107 109,E (.fK 5 1 (T 3) (N 4)),l 1 111,E (.fK 5 1 (T 3) (N 4)),l 1 113,E (.build [.int .u8 0,.int .u8 0,.int .u8 0,.int .u8 0] [(0,1,.c (.int .u8 0)),(1,1,T 110),(2,1,T 112),(3,1,T 114)]),ca 422 [115],d 15 (E (.alloc [.int .u64 0,.int .u8 0,.str [],.ro 1 [] true])),n (st 4 15 116)] [15,14,13,8,7,6,3,1]) (s (O 117 [m 1,m 7,m 14,ad 118 119,ix 6 117 120,f 0 121,f 0 122,l 1 123,f 0 15,n (st 1 125 124)]) (O 126 [f 4 13,l 1 126,h 4 15,E (.aO [.int .u64 0,.int .u8 0,.str [],.ro 1 [] true] 1 [(0,T 128)]),E (.app [.int .u64 0,.int .u8 0,.str [],.ro 1 [] true] 56 false (T 127) (T 129)),f 4 13,n (st 1 131 130)])))) (O 104 [m 14,adi 104 1,d 14 (m 105)])))
def KD:aB:=.loop ⟨true,[14,13,8,7,6,3,1],[]⟩ tH
def NV:aB:=zd (r (O 151 [m 9,E (.build [.int .u8 0,.int .i64 0,.int .i64 0,.int .i64 0,.ro 4 [] true] [(0,1,.c (.int .u8 5)),(4,1,T 151)]),n (st 5 6 152)]))
def Af:aB:=zd (s (s (O 136 [m 16,m 8,lt 136 137]) (cc 138 (w .skip) (ee 5))) (s (B 6 (Q 141 [m 9,m 1,m 7,m 16,ad 143 144,ix 6 142 145,f 0 146,h 4 147,E (.aO [.int .u64 0,.int .u8 0,.str [],.ro 1 [] true] 1 [(0,T 148)]),E (.app [.int .u64 0,.int .u8 0,.str [],.ro 1 [] true] 56 false (T 141) (T 149)),d 9 (m 150)] [16,9,8,7,6,1])) (O 139 [m 16,adi 139 1,d 16 (m 140)])))
def ML:aB:=.loop ⟨true,[16,9,8,7,6,1],[]⟩ Af
def Eu:aB:=zd (s (s (O 64 [E (.fK 5 1 (T 3) (N 0)),l 1 64,E (.bin .rem (T 65) (.c (.int .u8 16))),d 12 (m 66)]) (bk 2 (s (O 68 [m 12,E (.bin .lss (T 68) (.c (.int .u8 4))),d 67 (m 69)]) (cc 67 (r (O 70 [m 7,m 9,E (.build [.int .u8 0,.int .i64 0,.int .i64 0,.int .i64 0,.ro 4 [] true] [(0,1,.c (.int .u8 1)),(1,1,T 70),(4,1,T 71)]),n (st 5 6 72)])) (s (O 74 [m 12,E (.bin .lss (T 74) (.c (.int .u8 6))),d 73 (m 75)]) (cc 73 (r (O 76 [m 7,m 8,E (.mn (T 77) (N 3)),E (.build [.int .u8 0,.int .i64 0,.int .i64 0,.int .i64 0,.ro 4 [] true] [(0,1,.c (.int .u8 2)),(1,1,T 76),(2,1,T 78)]),n (st 5 6 79)])) (s (O 81 [m 12,E (.bin .lss (T 81) (.c (.int .u8 8))),d 80 (m 82)]) (cc 80 (r (Q 83 [m 7,m 8,E (.fK 5 1 (T 3) (N 3)),l 1 85,E (.cvt .i64 (T 86)),m 1,ln 1 88,m 8,sb 89 90,adi 91 1,E (.bin .rem (T 87) (T 92)),E (.build [.int .u8 0,.int .i64 0,.int .i64 0,.int .i64 0,.ro 4 [] true] [(0,1,.c (.int .u8 3)),(1,1,T 83),(2,1,T 84),(3,1,T 93)]),n (st 5 6 94)] [6])) (s (O 96 [m 12,E (.bin .lss (T 96) (.c (.int .u8 10))),d 95 (m 97)]) (cc 95 (s (O 98 [m 7,E (.build [.int .u8 0,.int .i64 0,.int .i64 0,.int .i64 0,.ro 4 [] true] [(0,1,.c (.int .u8 4)),(1,1,T 98)]),d 13 (E (.alloc [.int .u8 0,.int .i64 0,.int .i64 0,.int .i64 0,.ro 4 [] true])),n (st 5 13 99)]) (s (s (O 14 [i 0]) (bk 3 KD ⟨true,[13,6],[]⟩)) wX)) (s (O 134 [m 12,E (.bin .lss (T 134) (.c (.int .u8 11))),d 133 (m 135)]) (cc 133 (s (s (O 16 [i 0]) (bk 5 ML ⟨true,[9,6],[]⟩)) NV) (s (Q 154 [m 12,E (.bin .lss (T 154) (.c (.int .u8 12))),d 153 (m 155)] [153,12,9,8,7,6,3]) (cc 153 (r (O 156 [m 7,m 9,E (.fK 5 1 (T 3) (N 1)),l 1 158,E (.fK 5 1 (T 3) (N 2)),l 1 160,E (.fK 5 1 (T 3) (N 3)),l 1 162,E (.fK 5 1 (T 3) (N 4)),l 1 164,E (.build [.int .u8 0,.int .u8 0,.int .u8 0,.int .u8 0] [(0,1,T 159),(1,1,T 161),(2,1,T 163),(3,1,T 165)]),ca 422 [166],E (.aO [.int .u64 0,.int .u8 0,.str [],.ro 1 [] true] 1 [(0,T 167)]),E (.app [.int .u64 0,.int .u8 0,.str [],.ro 1 [] true] 56 false (T 157) (T 168)),E (.build [.int .u8 0,.int .i64 0,.int .i64 0,.int .i64 0,.ro 4 [] true] [(0,1,.c (.int .u8 1)),(1,1,T 156),(4,1,T 169)]),n (st 5 6 170)])) (s (O 172 [m 12,E (.bin .eql (T 172) (.c (.int .u8 12))),d 171 (m 173)]) (cc 171 (r (Q 174 [E (.fK 5 1 (T 3) (N 1)),l 1 174,E (.bin .rem (T 175) (.c (.int .u8 8))),E (.fK 5 1 (T 3) (N 2)),l 1 177,E (.bin .rem (T 178) (.c (.int .u8 8))),E (.cvt .i64 (T 179)),sbi 180 2,E (.fK 5 1 (T 3) (N 3)),l 1 182,E (.bin .rem (T 183) (.c (.int .u8 4))),E (.cvt .i64 (T 184)),sbi 185 1,E (.fK 5 1 (T 3) (N 4)),l 1 187,E (.bin .rem (T 188) (.c (.int .u8 3))),E (.cvt .i64 (T 189)),E (.build [.int .u8 0,.int .i64 0,.int .i64 0,.int .i64 0,.ro 4 [] true] [(0,1,T 176),(1,1,T 181),(2,1,T 186),(3,1,T 190)]),n (st 5 6 191)] [6])) (s (O 193 [m 12,E (.bin .eql (T 193) (.c (.int .u8 13))),d 192 (m 194)]) (cc 192 (r (O 195 [m 7,m 8,adi 196 1,E (.build [.int .u8 0,.int .i64 0,.int .i64 0,.int .i64 0,.ro 4 [] true] [(0,1,.c (.int .u8 2)),(1,1,T 195),(2,1,T 197)]),n (st 5 6 198)])) (s (O 200 [m 12,E (.bin .eql (T 200) (.c (.int .u8 14))),d 199 (m 201)]) (c 199 (r (O 202 [m 7,m 9,E (.build [.int .u64 0,.int .u8 0,.str [],.ro 1 [] true] [(0,1,.c (.int .u64 1))]),E (.aO [.int .u64 0,.int .u8 0,.str [],.ro 1 [] true] 1 [(0,T 204)]),E (.app [.int .u64 0,.int .u8 0,.str [],.ro 1 [] true] 56 false (T 203) (T 205)),E (.build [.int .u8 0,.int .i64 0,.int .i64 0,.int .i64 0,.ro 4 [] true] [(0,1,.c (.int .u8 4)),(1,1,T 202),(4,1,T 206)]),n (st 5 6 207)])))))))))))))))))))) ⟨true,[9,7,6,3],[]⟩)) FC)
def yX:aB:=zd (s (s (Q 33 [m 10,E (.fK 5 1 (T 3) (N 2)),l 1 34,E (.bin .rem (T 35) (.c (.int .u8 4))),E (.cvt .i64 (T 36)),lt 33 37] [38,10,9,8,7,6,3,2,1]) (cc 38 (w .skip) (ee 0))) (s (B 1 (s (O 41 [E (.fK 5 1 (T 3) (N 4)),l 1 41,m 10,E (.cvt .u8 (T 43)),ad 42 44,E (.fK 5 1 (T 3) (N 3)),l 1 46,E (.fK 5 1 (T 3) (N 4)),l 1 48,E (.bin .quo (T 49) (.c (.int .u8 2))),E (.build [.int .u8 0,.int .u8 0,.int .u8 0,.int .u8 0] [(0,1,.c (.int .u8 0)),(1,1,T 45),(2,1,T 47),(3,1,T 50)]),ca 422 [51],d 11 (E (.alloc [.int .u64 0,.int .u8 0,.str [],.ro 1 [] true])),n (st 4 11 52)]) (s (O 53 [m 2,E (.bin .mul (N 10) (T 53)),m 10,ad 54 55,E (.cvt .u64 (T 56)),E (.bin .add (.c (.int .u64 100)) (T 57)),f 0 11,n (st 1 59 58)]) (Q 60 [m 9,h 4 11,E (.aO [.int .u64 0,.int .u8 0,.str [],.ro 1 [] true] 1 [(0,T 61)]),E (.app [.int .u64 0,.int .u8 0,.str [],.ro 1 [] true] 56 false (T 60) (T 62)),d 9 (m 63)] [10,9,8,7,6,3,2,1])))) (O 39 [m 10,adi 39 1,d 10 (m 40)])))
def KU:aB:=.loop ⟨true,[10,9,8,7,6,3,2,1],[]⟩ yX
def ady:WFn:=⟨3,[.cell 6 5 true],zd (s (O 6 [d 3 (bx 0),E (.alloc [.int .u8 0,.int .i64 0,.int .i64 0,.int .i64 0,.ro 4 [] true])]) (s (O 17 [E (.fK 5 1 (T 3) (N 1)),l 1 17,E (.cvt .i64 (T 18)),m 1,ln 1 20,adi 21 1,E (.bin .rem (T 19) (T 22)),d 7 (m 23)]) (s (O 24 [E (.fK 5 1 (T 3) (N 2)),l 1 24,E (.cvt .i64 (T 25)),m 1,ln 1 27,m 7,sb 28 29,adi 30 1,E (.bin .rem (T 26) (T 31)),d 8 (m 32)]) (s (R 9 [E (.mv (.c (.ro 4 [] true)))] ⟨true,[9,8,7,6,3,2,1],[(9,4)]⟩) (s (s (O 10 [i 0]) (bk 0 KU ⟨true,[9,8,7,6,3,1],[]⟩)) Eu)))))⟩
@[simp] theorem anK:ZL KD tH ⟨true,[14,13,8,7,6,3,1],[]⟩:=bn rfl
noncomputable abbrev tN (C:aI) (s:WSt):Option AV:=CK C 0 (aT [.cell 6 5 true]) [.sq KD,.bk 3 ⟨true,[13,6],[]⟩,.sq wX,.bk 2 ⟨true,[9,7,6,3],[]⟩,.sq FC] tH s
@[simp] theorem anT:ZL ML Af ⟨true,[16,9,8,7,6,1],[]⟩:=bn rfl
noncomputable abbrev Fb (C:aI) (s:WSt):Option AV:=CK C 0 (aT [.cell 6 5 true]) [.sq ML,.bk 5 ⟨true,[9,6],[]⟩,.sq NV,.bk 2 ⟨true,[9,7,6,3],[]⟩,.sq FC] Af s
@[simp] theorem anC:ZL KU yX ⟨true,[10,9,8,7,6,3,2,1],[]⟩:=bn rfl
noncomputable abbrev EH (C:aI) (s:WSt):Option AV:=CK C 0 (aT [.cell 6 5 true]) [.sq KU,.bk 0 ⟨true,[9,8,7,6,3,1],[]⟩,.sq Eu] yX s
def YU:WFn:=⟨3,[.tmp 6,.tmp 7],zd (s (O 5 [d 3 (bx 0),bx 2,E (.mv (.c (.ro 6 [] true))),i 0]) (s (s (O 8 [h 5 5,ca 333 [8],gti 9 0]) (c 10 (r (O 11 [h 5 5,ca 333 [11],d 6 (E (.mv (.c (.ro 6 [] true)))),d 7 (m 12)])))) (s (s (O 13 [f 0 5,l 1 13]) (B 0 (s (O 16 [E (.bin .eql (T 14) (.c (.int .u8 1))),d 15 (m 16)]) (cc 15 (r (O 17 [h 2 3,m 1,f 1 5,l 1 19,f 4 5,l 1 21,ca 461 [17,18,20,22],ex 0 23,ex 1 23,d 6 (m 24),d 7 (m 25)])) (s (O 27 [E (.bin .eql (T 14) (.c (.int .u8 2))),d 26 (m 27)]) (cc 26 (r (Q 28 [m 1,f 1 5,l 1 29,f 2 5,l 1 31,ca 241 [28,30,32],ex 0 33,ex 1 33,d 6 (m 34),d 7 (m 35)] [7,6])) (s (O 37 [E (.bin .eql (T 14) (.c (.int .u8 3))),d 36 (m 37)]) (cc 36 (r (O 38 [m 1,f 1 5,l 1 39,f 2 5,l 1 41,f 3 5,l 1 43,ca 242 [38,40,42,44],ex 0 45,ex 1 45,d 6 (m 46),d 7 (m 47)])) (s (Q 49 [E (.bin .eql (T 14) (.c (.int .u8 4))),d 48 (m 49)] [48,5,3,1]) (c 48 (r (O 50 [h 2 3,m 1,f 1 5,l 1 52,f 4 5,l 1 54,ca 462 [50,51,53,55],ex 0 56,ex 1 56,d 6 (m 57),d 7 (m 58)])))))))))))) (r (O 59 [h 2 3,f 4 5,l 1 60,ca 463 [59,61],ex 0 62,ex 1 62,d 6 (m 63),d 7 (m 64)])))))⟩
def Nr:aB:=zd (r (O 79 [h 1 3,ca 227 [79],d 4 (m 80)]))
def lq:aB:=zd (s (O 26 [lt 25 24]) (s (cc 26 (w .skip) (ee 0)) (s (B 1 (s (O 27 [ix 6 23 25,h 6 27,d 8 (E (.alloc [.int .u64 0,.int .u8 0,.str [],.ro 1 [] true,.int .i64 0,.bool false])),n (st 6 8 28)]) (s (s (O 29 [f 0 8,h 4 29,f 0 2,l 1 31,ln 1 32,ca 398 [30,33],d 9 (m 34)]) (s (O 35 [m 9,nei 35 0]) (c 36 (r (O 37 [m 9,d 4 (m 37)]))))) (s (s (Q 38 [m 6,f 0 8,f 0 39,l 1 40,E (.look 0 (.bool false) false (T 38) (T 41))] [42,25,24,23,8,6,3,2]) (c 42 (r (O 4 [i 8])))) (s (O 43 [m 6,f 0 8,f 0 44,l 1 45,n (E (.upd 0 (T 43) (T 46) (.c (.bool true))))]) (s (s (O 48 [h 2 2,f 0 8,h 4 49,ca 399 [48,50],d 47 (m 51),ex 0 47,ex 1 47,d 10 (E (.alloc [.int .u8 0,.str [],.str [],.ro 2 [] true,.str [],.ro 6 [] true])),n (st 6 10 52),d 11 (m 53)]) (s (O 54 [m 11,nei 54 0]) (c 55 (r (O 4 [i 14]))))) (s (U 56 [f 4 8,l 1 56,ca 225 [57],nt 58,m 59,z 60 (f 5 8),z 60 (l 1 61),z 60 (nt 62),z 60 (m 63),y 64 (f 4 8),y 64 (l 1 65),y 64 (f 0 2),y 64 (l 1 67),y 64 (f 0 8),y 64 (f 1 69),y 64 (l 1 70),y 64 (ix 9 68 71),y 64 (f 6 72),y 64 (l 1 73),y 64 (ne 66 74),z 60 (pa 64 75),po 60 76] [] [77,25,24,23,6,3,2]) (c 77 (r (O 4 [i 12])))))))))) (O 78 [adi 25 1,d 25 (m 78)]))))
def MP:aB:=.loop ⟨true,[25,24,23,6,3,2],[]⟩ lq
def Yl:WFn:=⟨2,[.tmp 4],zd (s (O 2 [bx 0,bx 1,i 0]) (s (s (O 12 [h 2 2,ca 115 [12],d 5 (m 13)]) (s (O 14 [m 5,nei 14 0]) (c 15 (r (O 16 [m 5,d 4 (m 16)]))))) (s (s (Q 17 [f 0 3,l 1 17,ln 1 18,gti 19 1024] [20,3,2]) (c 20 (r (O 4 [i 3])))) (s (O 21 [E .lF,d 6 (m 21)]) (s (s (O 22 [f 0 3,l 1 22,ln 1 23,i 0]) (bk 0 MP ⟨true,[3],[]⟩)) Nr)))))⟩
@[simp] theorem an1:ZL MP lq ⟨true,[25,24,23,6,3,2],[]⟩:=bn rfl
noncomputable abbrev mg (C:aI) (s:WSt):Option AV:=CK C 0 (aT [.tmp 4]) [.sq MP,.bk 0 ⟨true,[3],[]⟩,.sq Nr] lq s
def Vd:aB:=zd (r (O 23 [m 3,d 2 (m 23)]))
def Nk:aB:=zd (s (O 10 [lt 9 8]) (s (cc 10 (w .skip) (ee 0)) (s (B 1 (s (O 11 [m 9,d 4 (m 11)]) (O 12 [m 3,m 4,m 3,m 4,ix 4 14 15,f 3 16,l 1 17,ca 460 [18],ix 4 12 13,f 3 20,n (st 1 21 19)]))) (O 22 [adi 9 1,d 9 (m 22)]))))
def U2:aB:=.loop ⟨true,[9,8,3],[]⟩ Nk
def ac4:WFn:=⟨1,[.tmp 2],zd (s (O 2 [E (.mv (.c (.ro 4 [] true)))]) (s (Q 5 [m 0,ca 459 [5],d 3 (m 6)] [3]) (s (s (O 7 [m 3,ln 1 7,i 0]) (bk 0 U2 ⟨true,[3],[]⟩)) Vd)))⟩
@[simp] theorem aoa:ZL U2 Nk ⟨true,[9,8,3],[]⟩:=bn rfl
def xX:aB:=zd (r (O 2 [i 0]))
def tJ:aB:=zd (s (s (O 16 [m 4,lti 16 4]) (cc 17 (w .skip) (ee 0))) (s (B 1 (s (Q 20 [m 4,E (.fK 4 1 (T 3) (T 20)),l 1 21,eqi 22 0,m 23,y 24 (f 1 1),y 24 (l 1 25),y 24 (f 2 1),y 24 (l 1 27),y 24 (f 3 1),y 24 (l 1 29),y 24 (f 4 1),y 24 (l 1 31),y 24 (ln 1 32),y 24 (E (.aO [.int .i64 0] 4 [(0,T 26),(1,T 28),(2,T 30),(3,T 33)])),y 24 (m 4),y 24 (ix 1 34 35),y 24 (l 1 36),y 24 (nei 37 0),pa 24 38] [39,4,3,1]) (c 39 (r (O 2 [i 5]))))) (O 18 [m 4,adi 18 1,d 4 (m 19)])))
def UH:aB:=.loop ⟨true,[4,3,1],[]⟩ tJ
def Iq:WFn:=⟨1,[.tmp 2],zd (s (O 1 [bx 0,i 0]) (s (s (O 5 [f 0 1,l 1 5,E (.bin .lss (T 6) (.c (.int .u8 1))),m 7,z 8 (f 0 1),z 8 (l 1 9),z 8 (E (.bin .gtr (T 10) (.c (.int .u8 5)))),po 8 11]) (c 12 (r (O 2 [i 1])))) (s (O 13 [f 0 1,l 1 13,ca 455 [14],d 3 (E (.alloc [.int .i64 0,.int .i64 0,.int .i64 0,.int .i64 0])),n (st 4 3 15)]) (s (s (O 4 [i 0]) (bk 0 UH ⟨true,[],[]⟩)) xX))))⟩
@[simp] theorem amV:ZL UH tJ ⟨true,[4,3,1],[]⟩:=bn rfl
def Ii:WFn:=⟨1,[.tmp 2],zd (s (O 1 [bx 0,i 0]) (s (s (O 4 [f 0 1,l 1 4,E (.bin .lss (T 5) (.c (.int .u8 1))),m 6,z 7 (f 0 1),z 7 (l 1 8),z 7 (E (.bin .gtr (T 9) (.c (.int .u8 5)))),po 7 10]) (c 11 (r (O 2 [i 1])))) (s (V 12 [ca 457 [],f 0 1,l 1 13,E (.uP 6 6 true (T 12) (T 14)),d 3 (E (.alloc [.str [],.bool false,.bool false,.bool false,.bool false,.bK])),n (st 6 3 15)] [(0,2),(0,4),(2,4)] ⟨false,[],[]⟩) (s (s (Q 16 [f 1 3,l 1 16,nt 17,m 18,y 19 (f 1 1),y 19 (l 1 20),y 19 (nei 21 0),pa 19 22,m 23,z 24 (f 2 3),z 24 (l 1 25),z 24 (nt 26),z 24 (m 27),y 28 (f 2 1),y 28 (l 1 29),y 28 (nei 30 0),z 24 (pa 28 31),po 24 32,m 33,z 34 (f 3 3),z 34 (l 1 35),z 34 (nt 36),z 34 (m 37),y 38 (f 3 1),y 38 (l 1 39),y 38 (nei 40 0),z 34 (pa 38 41),po 34 42,m 43,z 44 (f 4 3),z 44 (l 1 45),z 44 (nt 46),z 44 (m 47),y 48 (f 4 1),y 48 (l 1 49),y 48 (ln 1 50),y 48 (gti 51 0),z 44 (pa 48 52),po 44 53] [54]) (c 54 (r (O 2 [i 5])))) (r (O 2 [i 0]))))))⟩
def LH:aB:=zd (r (O 2 [d 39 (m 5),m 39,i 0]))
def Ad:aB:=zd (s (Q 21 [lt 20 19] [21,20,19,5,1]) (s (cc 21 (w .skip) (ee 0)) (s (B 1 (s (O 22 [m 20,d 6 (m 22)]) (V 23 [m 5,m 6,adi 24 1,m 5,m 6,ix 1 26 27,l 1 28,f 0 1,l 1 30,m 6,ix 6 31 32,f 4 33,l 1 34,ad 29 35,ix 1 23 25,n (st 1 37 36)] [] ⟨false,[],[]⟩))) (O 38 [adi 20 1,d 20 (m 38)]))))
def MS:aB:=.loop ⟨true,[20,19,5,1],[]⟩ Ad
def acJ:WFn:=⟨1,[.tmp 2,.tmp 3],zd (s (O 1 [bx 0,E (.mv (.c (.ro 1 [] true))),i 0]) (s (s (O 7 [h 1 1,ca 122 [7],d 4 (m 8)]) (s (O 9 [m 4,nei 9 0]) (c 10 (r (O 2 [d 11 (m 4),E (.mv (.c (.ro 1 [] true))),m 11]))))) (s (O 12 [f 0 1,l 1 12,ln 1 13,adi 14 1,E (.oQ [.int .i64 0] 8 (T 15) (T 15)),d 5 (m 16)]) (s (s (O 17 [f 0 1,l 1 17,ln 1 18,i 0]) (bk 0 MS ⟨true,[5],[]⟩)) LH))))⟩
@[simp] theorem anX:ZL MS Ad ⟨true,[20,19,5,1],[]⟩:=bn rfl
noncomputable abbrev Es (C:aI) (s:WSt):Option AV:=CK C 0 (aT [.tmp 2,.tmp 3]) [.sq MS,.bk 0 ⟨true,[5],[]⟩,.sq LH] Ad s
def agd:WFn:=⟨2,[.tmp 4],zd (s (O 4 [d 2 (bx 0),i 0]) (s (s (O 6 [h 1 2,ca 122 [6],d 5 (m 7)]) (s (O 8 [m 5,nei 8 0]) (c 9 (r (O 10 [m 5,d 4 (m 10)]))))) (s (s (O 11 [m 1,lti 11 1,m 12,z 13 (m 1),z 13 (gti 14 2147483648),po 13 15]) (c 16 (r (O 4 [i 1])))) (r (O 4 [i 0])))))⟩
def af6:WFn:=⟨2,[.tmp 4,.tmp 5],zd (s (Q 4 [d 2 (bx 0),i 0,ff] [2,1]) (s (O 11 [h 1 2,m 1,ca 224 [11,12],d 10 (m 13),ex 0 10,ex 1 10,d 6 (m 14),d 7 (m 15)]) (s (O 17 [h 1 2,ca 246 [17],d 16 (m 18),ex 0 16,ex 1 16,d 8 (m 19),d 9 (m 20)]) (r (O 21 [m 8,m 6,ix 1 21 22,l 1 23,m 7,d 4 (m 24),d 5 (m 25)])))))⟩
def adF:WFn:=⟨3,[.tmp 6,.tmp 7],zd (s (O 6 [d 3 (bx 0),i 0,i 0]) (s (s (O 9 [h 1 3,m 1,ca 322 [9,10],d 8 (m 11)]) (s (O 12 [m 8,nei 12 0]) (c 13 (r (O 6 [d 14 (m 8),i 0,m 14]))))) (r (O 15 [m 2,h 1 3,ca 111 [16],m 1,sb 17 18,E (.mn (T 15) (T 19)),E (.mx (N 0) (T 20)),d 6 (m 21),d 7 (i 0)]))))⟩
def Lp:WFn:=⟨3,[.cell 6 1 true,.tmp 7],zd (s (O 3 [bx 0,bx 1,bx 2,E (.alloc [.ro 6 [] true]),i 0]) (s (s (O 10 [h 2 3,h 1 4,ca 223 [10,11],d 8 (m 12)]) (s (O 13 [m 8,nei 13 0]) (c 14 (r (Q 15 [E (.build [.ro 6 [] true] []),m 8,n (st 1 6 15),d 7 (m 16)] [7,6]))))) (s (s (O 17 [h 5 5,ca 336 [17],d 9 (m 18)]) (s (O 19 [m 9,nei 19 0]) (c 20 (r (O 21 [E (.build [.ro 6 [] true] []),m 9,n (st 1 6 21),d 7 (m 22)]))))) (r (V 23 [ca 457 [],f 0 5,l 1 24,E (.uP 6 6 true (T 23) (T 25)),E (.x9 5 1 false (T 26)),h 2 3,h 1 4,h 5 5,E (.eu (T 27) [T 28,T 29,T 30]),ex 0 31,ex 1 31,n (st 1 6 32),d 7 (m 33)] [(0,2),(0,5),(0,6),(0,7)] ⟨false,[],[]⟩)))))⟩
def adx:WFn:=⟨2,[.tmp 4,.tmp 5],zd (s (O 2 [bx 0,bx 1,i 0,ff]) (s (O 6 [f 0 2,l 1 6,E (.jE 403 [T 3]),ca 402 [7,8],d 4 (m 9)]) (r (O 10 [m 4,E (.mx (T 10) (N 0)),m 4,gei 12 0,d 4 (m 11),d 5 (m 13)]))))⟩
def JI:aB:=zd (r (O 19 [m 5,d 4 (m 19)]))
def AO:aB:=zd (s (s (O 7 [m 6,m 1,lt 7 8]) (cc 9 (w .skip) (ee 0))) (s (B 1 (O 12 [m 5,m 0,m 6,ix 6 13 14,f 4 15,l 1 16,ad 12 17,d 5 (m 18)])) (O 10 [m 6,adi 10 1,d 6 (m 11)])))
def KX:aB:=.loop ⟨true,[6,5,1,0],[]⟩ AO
def afA:WFn:=⟨2,[.tmp 4],zd (s (O 4 [i 0]) (s (O 5 [i 0]) (s (s (O 6 [i 0]) (bk 0 KX ⟨true,[5],[]⟩)) JI)))⟩
@[simp] theorem amK:ZL KX AO ⟨true,[6,5,1,0],[]⟩:=bn rfl
noncomputable abbrev Ef (C:aI) (s:WSt):Option AV:=CK C 0 (aT [.tmp 4]) [.sq KX,.bk 0 ⟨true,[5],[]⟩,.sq JI] AO s
def alR:WFn:=⟨2,[.tmp 4],zd (s (O 4 [i 0]) (s (s (O 5 [m 0,ca 251 [5],gti 6 0]) (c 7 (r (O 8 [m 0,ca 251 [8],d 4 (m 9)])))) (s (s (O 10 [m 1,lti 10 1,m 11,z 12 (m 1),z 12 (gti 13 2147483648),po 12 14]) (c 15 (r (O 4 [i 1])))) (r (O 4 [i 0])))))⟩
def alZ:WFn:=⟨3,[.tmp 6],zd (s (O 6 [i 0]) (s (O 8 [m 0,m 1,ca 327 [8,9],d 7 (m 10)]) (s (s (O 11 [m 2,m 7,gt 11 12]) (c 13 (r (O 14 [m 7,d 6 (m 14)])))) (s (s (O 15 [m 2,lti 15 0]) (c 16 (r (O 6 [i 0])))) (r (O 17 [m 2,d 6 (m 17)]))))))⟩
def alK:WFn:=⟨2,[.tmp 4],zd (s (O 4 [i 0]) (s (B 0 (s (Q 6 [m 1,gti 6 0,m 7,y 8 (m 0),y 8 (m 1),y 8 (E (.bin .sub (N 9223372036854775807) (T 10))),y 8 (gt 9 11),pa 8 12,d 5 (m 13)] [5,1,0]) (cc 5 (r (O 4 [i 9223372036854775807])) (s (O 15 [m 1,lti 15 0,m 16,y 17 (m 0),y 17 (m 1),y 17 (E (.bin .sub (N (-9223372036854775808)) (T 19))),y 17 (lt 18 20),pa 17 21,d 14 (m 22)]) (c 14 (r (O 4 [i (-9223372036854775808)]))))))) (r (O 23 [m 0,m 1,ad 23 24,d 4 (m 25)]))))⟩
def alC:WFn:=⟨2,[.tmp 4],zd (s (O 4 [i 0]) (s (s (O 5 [m 0,gei 5 0,m 6,y 7 (m 1),y 7 (m 0),y 7 (E (.bin .sub (N 9223372036854775807) (T 9))),y 7 (gt 8 10),pa 7 11]) (c 12 (r (O 4 [i 9223372036854775807])))) (s (s (O 13 [m 0,lti 13 0,m 14,y 15 (m 1),y 15 (m 0),y 15 (E (.bin .sub (N (-9223372036854775808)) (T 17))),y 15 (lt 16 18),pa 15 19]) (c 20 (r (O 4 [i (-9223372036854775808)])))) (r (O 21 [m 0,m 1,ad 21 22,d 4 (m 23)])))))⟩
def akU:WFn:=⟨2,[.cell 4 2 true,.tmp 5],zd (s (O 4 [E (.alloc [.int .u64 0,.int .i64 0]),i 0]) (s (s (O 7 [m 0,ca 251 [7],gti 8 0]) (c 9 (r (O 10 [E (.build [.int .u64 0,.int .i64 0] []),m 0,ca 251 [11],n (st 2 4 10),d 5 (m 12)])))) (s (O 13 [m 0,m 1,ca 254 [13,14],d 6 (m 15)]) (s (s (O 16 [m 6,gei 16 0]) (c 17 (r (U 18 [m 0,m 6,ix 6 18 19,f 0 20,f 0 21,l 1 22,m 1,m 0,m 6,ca 253 [25,26],sb 24 27,E (.build [.int .u64 0,.int .i64 0] [(0,1,T 23),(1,1,T 28)]),n (st 2 4 29),d 5 (i 0)] [(5,9)] [5,4])))) (s (s (O 30 [m 0,ln 1 30,eqi 31 0,m 32,y 33 (m 1),y 33 (eqi 34 0),pa 33 35]) (c 36 (r (O 37 [E (.build [.int .u64 0,.int .i64 0] []),n (st 2 4 37),d 5 (i 0)])))) (r (O 38 [E (.build [.int .u64 0,.int .i64 0] []),n (st 2 4 38),d 5 (i 4)])))))))⟩
def ak2:WFn:=⟨1,[.tmp 2],zd (s (O 1 [bx 0,i 0]) (s (s (Q 3 [f 0 1,l 1 3,E (.bin .eql (T 4) (.c (.int .u64 0))),m 5,y 6 (f 1 1),y 6 (l 1 7),y 6 (eqi 8 0),pa 6 9,m 10,z 11 (f 0 1),z 11 (l 1 12),z 11 (E (.bin .gtr (T 13) (.c (.int .u64 0)))),z 11 (m 14),y 15 (f 1 1),y 15 (l 1 16),y 15 (gei 17 0),z 11 (pa 15 18),z 11 (m 19),y 20 (f 1 1),y 20 (l 1 21),y 20 (lei 22 2305843009213693952),z 11 (pa 20 23),po 11 24] [25]) (c 25 (r (O 2 [i 0])))) (r (O 2 [i 1]))))⟩
def ak8:WFn:=⟨3,[.tmp 6,.tmp 7],zd (s (O 5 [bx 2,i 0,i 0]) (s (s (O 9 [m 0,m 1,ca 312 [9,10],gti 11 0]) (c 12 (r (O 13 [m 0,m 1,ca 312 [13,14],d 6 (i 0),d 7 (m 15)])))) (s (s (O 16 [h 2 5,ca 176 [16],gti 17 0]) (c 18 (r (O 6 [i 0,i 1])))) (s (s (Q 19 [f 0 5,l 1 19,E (.bin .eql (T 20) (.c (.int .u64 0)))] [21,5,1,0]) (c 21 (r (O 6 [i 0,i 0])))) (s (O 22 [m 0,f 0 5,l 1 23,ca 239 [22,24],d 8 (m 25)]) (s (s (O 26 [m 8,lti 26 0]) (c 27 (r (O 6 [i 0,i 11])))) (r (V 28 [m 0,m 1,m 0,m 8,ca 253 [30,31],f 1 5,l 1 33,ad 32 34,ca 314 [28,29,35],d 6 (m 36),d 7 (i 0)] [(4,6)] ⟨false,[],[]⟩))))))))⟩
def aec:aB:=zd (r (O 27 [m 0,ca 407 [27],d 2 (m 28)]))
def UG:aB:=zd (s (s (Q 7 [m 3,m 0,ln 1 8,lt 7 9] [10,3,0]) (cc 10 (w .skip) (ee 0))) (s (B 1 (s (O 13 [m 0,m 3,ix 6 13 14,f 4 15,l 1 16,lti 17 1,m 18,z 19 (m 0),z 19 (m 3),z 19 (ix 6 20 21),z 19 (f 4 22),z 19 (l 1 23),z 19 (gti 24 2305843009213693952),po 19 25]) (c 26 (r (O 2 [i 12]))))) (O 11 [m 3,adi 11 1,d 3 (m 12)])))
def UC:aB:=.loop ⟨true,[3,0],[]⟩ UG
def alY:WFn:=⟨1,[.tmp 2],zd (s (O 2 [i 0]) (s (s (O 4 [m 0,ln 1 4,gti 5 1024]) (c 6 (r (O 2 [i 3])))) (s (s (O 3 [i 0]) (bk 0 UC ⟨true,[0],[]⟩)) aec)))⟩
@[simp] theorem aob:ZL UC UG ⟨true,[3,0],[]⟩:=bn rfl
def alg:WFn:=⟨3,[.tmp 6],zd (s (O 5 [bx 2,i 0]) (s (s (O 8 [f 0 5,l 1 8,E (.bin .eql (T 9) (.c (.int .u64 0)))]) (c 10 (r (O 6 [i 1])))) (s (Q 11 [m 0,f 0 5,l 1 12,ca 239 [11,13],d 7 (m 14)] [7,5,1,0]) (s (s (V 15 [m 7,gei 15 0,m 16,y 17 (m 1),y 17 (m 0),y 17 (m 7),y 17 (ca 253 [19,20]),y 17 (ge 18 21),pa 17 22,m 23,y 24 (m 1),y 24 (m 0),y 24 (m 7),y 24 (ca 253 [26,27]),y 24 (sb 25 28),y 24 (f 1 5),y 24 (l 1 30),y 24 (eq 29 31),pa 24 32] [(13,16)] ⟨false,[],[]⟩) (c 33 (r (O 6 [i 1])))) (r (O 6 [i 0]))))))⟩
def afQ:aB:=zd (s (s (O 78 [m 1,ln 1 78,gti 79 0]) (c 80 (r (O 81 [m 1,E (.idxs 6 (T 81) (N 0)),f 0 82,f 0 83,l 1 84,E (.build [.int .u64 0,.int .i64 0] [(0,1,T 85)]),n (st 2 6 86)])))) (r (O 87 [E (.build [.int .u64 0,.int .i64 0] []),n (st 2 6 87)])))
def UM:aB:=zd (s (s (O 58 [m 9,gei 58 0]) (cc 59 (w .skip) (ee 2))) (s (B 3 (s (Q 62 [m 1,m 0,m 9,ix 6 63 64,f 0 65,f 0 66,l 1 67,ca 239 [62,68],gei 69 0] [70,9,6,1,0]) (c 70 (r (O 71 [m 0,m 9,ix 6 71 72,f 0 73,f 0 74,l 1 75,E (.build [.int .u64 0,.int .i64 0] [(0,1,T 76)]),n (st 2 6 77)]))))) (O 60 [m 9,sbi 60 1,d 9 (m 61)])))
def Vb:aB:=.loop ⟨true,[9,6,1,0],[]⟩ UM
def aeU:aB:=zd (s (O 56 [m 7,sbi 56 1,d 9 (m 57)]) (bk 2 Vb ⟨true,[6,1],[]⟩))
def U0:aB:=zd (s (s (O 34 [m 8,m 0,ln 1 35,lt 34 36]) (cc 37 (w .skip) (ee 0))) (s (B 1 (s (Q 40 [m 1,m 0,m 8,ix 6 41 42,f 0 43,f 0 44,l 1 45,ca 239 [40,46],gei 47 0] [48,8,7,6,1,0]) (c 48 (r (O 49 [m 0,m 8,ix 6 49 50,f 0 51,f 0 52,l 1 53,E (.build [.int .u64 0,.int .i64 0] [(0,1,T 54)]),n (st 2 6 55)]))))) (O 38 [m 8,adi 38 1,d 8 (m 39)])))
def Vx:aB:=.loop ⟨true,[8,7,6,1,0],[]⟩ U0
def alL:WFn:=⟨3,[.cell 6 2 true],zd (s (O 5 [bx 2,E (.alloc [.int .u64 0,.int .i64 0])]) (s (s (Q 10 [f 0 5,l 1 10,E (.bin .gtr (T 11) (.c (.int .u64 0))),m 12,y 13 (m 1),y 13 (f 0 5),y 13 (l 1 15),y 13 (ca 239 [14,16]),y 13 (gei 17 0),pa 13 18] [19,6,5,1,0]) (c 19 (r (O 20 [h 2 5,n (st 2 6 20)])))) (s (O 21 [m 0,f 0 5,l 1 22,ca 239 [21,23],d 7 (m 24)]) (s (s (O 25 [f 0 5,l 1 25,E (.bin .gtr (T 26) (.c (.int .u64 0))),m 27,y 28 (m 7),y 28 (gei 29 0),pa 28 30]) (c 31 (s (s (O 32 [m 7,adi 32 1,d 8 (m 33)]) (bk 0 Vx ⟨true,[7,6,1,0],[]⟩)) aeU))) afQ))))⟩
@[simp] theorem ank:ZL Vb UM ⟨true,[9,6,1,0],[]⟩:=bn rfl
@[simp] theorem anU:ZL Vx U0 ⟨true,[8,7,6,1,0],[]⟩:=bn rfl
def jg:aB:=zd (s (V 64 [f 4 5,l 1 64,h 2 3,f 2 5,l 1 67,ca 400 [66,68],E (.eu (T 65) [T 69]),ca 226 [70],d 12 (E (.alloc [.ro 6 [] true])),n (st 1 12 71)] [(1,5),(1,8),(2,8),(4,8),(5,8),(6,8),(7,8)] ⟨false,[],[]⟩) (s (s (O 72 [h 1 12,ca 227 [72],d 13 (m 73)]) (s (O 74 [m 13,nei 74 0]) (c 75 (r (O 76 [E (.build [.ro 6 [] true] []),m 13,n (st 1 6 76),d 7 (m 77)]))))) (r (O 78 [h 1 12,n (st 1 6 78),d 7 (i 0)]))))
def dJ:aB:=zd (s (O 35 [lt 34 33]) (s (cc 35 (w .skip) (ee 1)) (s (B 2 (s (O 36 [m 34,ix 4 32 34,h 4 37,d 10 (E (.alloc [.int .u64 0,.int .u8 0,.str [],.ro 1 [] true])),d 9 (m 36),n (st 4 10 38)]) (s (Q 39 [h 4 10,f 0 3,l 1 40,ln 1 41,ca 398 [39,42],d 11 (m 43)] [34,33,32,11,10,9,6,5,3]) (s (s (O 44 [m 11,eqi 44 0]) (c 45 (O 46 [f 3 5,l 1 46,m 9,h 4 10,E (.eu (T 47) [T 48,T 49]),d 11 (m 50)]))) (s (s (O 51 [m 11,eqi 51 0]) (c 52 (O 54 [h 2 3,h 4 10,ca 399 [54,55],d 53 (m 56),ex 0 53,ex 1 53,d 11 (m 58)]))) (s (O 59 [m 11,nei 59 0]) (c 60 (r (O 61 [E (.build [.ro 6 [] true] []),m 11,n (st 1 6 61),d 7 (m 62)]))))))))) (Q 63 [adi 34 1,d 34 (m 63)] [34,33,32,6,5,3]))))
def AB:aB:=.loop ⟨true,[34,33,32,6,5,3],[]⟩ dJ
def qU:WFn:=⟨3,[.cell 6 1 true,.tmp 7],zd (s (O 3 [bx 0,bx 1,bx 2,E (.alloc [.ro 6 [] true]),i 0]) (s (s (O 14 [h 2 3,h 1 4,ca 223 [14,15],d 8 (m 16)]) (s (O 17 [m 8,nei 17 0]) (c 18 (r (O 19 [E (.build [.ro 6 [] true] []),m 8,n (st 1 6 19),d 7 (m 20)]))))) (s (B 0 (s (Q 22 [f 0 5,l 1 22,nt 23,d 21 (m 24)] [21,6,5,3]) (cc 21 (r (O 25 [E (.build [.ro 6 [] true] []),n (st 1 6 25),d 7 (i 4)])) (s (O 27 [f 1 5,l 1 27,gti 28 1024,d 26 (m 29)]) (c 26 (r (O 30 [E (.build [.ro 6 [] true] []),n (st 1 6 30),d 7 (i 3)]))))))) (s (s (O 31 [f 2 5,l 1 31,ln 1 32,i 0]) (bk 1 AB ⟨true,[6,5,3],[]⟩)) jg))))⟩
@[simp] theorem amU:ZL AB dJ ⟨true,[34,33,32,6,5,3],[]⟩:=bn rfl
noncomputable abbrev rZ (C:aI) (s:WSt):Option AV:=CK C 0 (aT [.cell 6 1 true,.tmp 7]) [.sq AB,.bk 1 ⟨true,[6,5,3],[]⟩,.sq jg] dJ s
def AX:aB:=zd (r (O 18 [E (.jE 401 [T 3]),d 2 (m 18)]))
def qm:aB:=zd (s (O 10 [lt 9 8]) (s (cc 10 (w .skip) (ee 0)) (s (B 1 (s (O 11 [ix 6 7 9,h 6 11,d 5 (E (.alloc [.int .u64 0,.int .u8 0,.str [],.ro 1 [] true,.int .i64 0,.bool false])),n (st 6 5 12)]) (O 13 [l 1 3,f 0 5,f 0 14,l 1 15,n (E (.upd 0 (T 13) (T 16) (.c (.bool true))))]))) (O 17 [adi 9 1,d 9 (m 17)]))))
def D8:aB:=.loop ⟨true,[9,8,7,3],[]⟩ qm
def YL:WFn:=⟨1,[.tmp 2],zd (s (O 2 [E (.mv (.c .bK))]) (s (O 6 [E .lF,d 3 (E (.alloc [.dN])),n (st 1 3 6)]) (s (s (O 7 [m 0,ln 1 7,i 0]) (bk 0 D8 ⟨true,[3],[]⟩)) AX)))⟩
@[simp] theorem amF:ZL D8 qm ⟨true,[9,8,7,3],[]⟩:=bn rfl
def aei:WFn:=⟨1,[.tmp 2],zd (s (O 2 [E (.mv (.c (.ro 6 [] true)))]) (r (O 3 [m 0,d 2 (m 3)])))⟩
def aaE:WFn:=⟨3,[.tmp 6],zd (s (O 6 [ff]) (r (O 7 [m 0,gei 7 0,m 8,y 9 (m 0),y 9 (m 2),y 9 (le 10 11),pa 9 12,m 13,y 14 (m 1),y 14 (gei 15 0),pa 14 16,m 17,y 18 (m 1),y 18 (m 2),y 18 (m 0),y 18 (sb 20 21),y 18 (le 19 22),pa 18 23,d 6 (m 24)])))⟩
def adH:WFn:=⟨3,[.tmp 4],zd (s (O 4 [E (.mv (.c (.ro 6 [] true)))]) (r (O 5 [f 0 1,l 1 5,l 1 2,m 0,E (.call 221 [T 6,T 7,N 0,T 8]),d 4 (m 9)])))⟩
def agv:WFn:=⟨4,[.tmp 8],zd (s (O 8 [E (.mv (.c (.ro 6 [] true)))]) (s (Q 10 [m 0,ln 1 10,m 2,sb 11 12,m 3,ln 1 14,ad 13 15,E (.oQ [.int .u64 0,.int .u8 0,.str [],.ro 1 [] true,.int .i64 0,.bool false] 72 (N 0) (T 16)),d 9 (m 17)] [9,3,2,1,0]) (s (O 18 [m 9,m 0,m 1,E (.slice 6 (T 19) none (some (T 20)) none),E (.app [.int .u64 0,.int .u8 0,.str [],.ro 1 [] true,.int .i64 0,.bool false] 72 false (T 18) (T 21)),d 9 (m 22)]) (s (O 23 [m 9,m 3,E (.app [.int .u64 0,.int .u8 0,.str [],.ro 1 [] true,.int .i64 0,.bool false] 72 false (T 23) (T 24)),d 9 (m 25)]) (r (O 26 [m 9,m 0,m 1,m 2,ad 28 29,E (.slice 6 (T 27) (some (T 30)) none none),E (.app [.int .u64 0,.int .u8 0,.str [],.ro 1 [] true,.int .i64 0,.bool false] 72 false (T 26) (T 31)),d 8 (m 32)]))))))⟩
def aeK:WFn:=⟨4,[.tmp 5],zd (s (O 5 [E (.mv (.c (.ro 6 [] true)))]) (r (O 6 [f 0 1,l 1 6,l 1 2,l 1 3,E (.call 221 [T 7,T 8,T 9,.c (.ro 6 [] true)]),d 5 (m 10)])))⟩
def adl:WFn:=⟨1,[.tmp 2],zd (s (O 2 [ff]) (r (O 3 [m 0,gei 3 1,m 4,y 5 (m 0),y 5 (lei 6 2305843009213693952),pa 5 7,d 2 (m 8)])))⟩
def NT:aB:=zd (r (O 32 [m 3,E (.build [.ro 6 [] true] [(0,1,T 32)]),n (st 1 2 33)]))
def Aw:aB:=zd (s (O 16 [lt 15 14]) (s (cc 16 (w .skip) (ee 0)) (s (B 1 (s (Q 17 [m 15,ix 6 13 15,h 6 18,d 5 (E (.alloc [.int .u64 0,.int .u8 0,.str [],.ro 1 [] true,.int .i64 0,.bool false])),d 4 (m 17),n (st 6 5 19)] [15,14,13,5,4,3,2]) (s (O 20 [f 0 5,h 4 20,E (.aO [.int .u64 0,.int .u8 0,.str [],.ro 1 [] true] 1 [(0,T 21)]),ca 340 [22],E (.idxs 4 (T 23) (N 0)),h 4 24,f 0 5,n (st 4 26 25)]) (O 27 [m 3,m 4,h 6 5,ix 6 27 28,n (st 6 30 29)])))) (O 31 [adi 15 1,d 15 (m 31)]))))
def MW:aB:=.loop ⟨true,[15,14,13,3,2],[]⟩ Aw
def abH:WFn:=⟨1,[.cell 2 1 true],zd (s (O 2 [E (.alloc [.ro 6 [] true])]) (s (s (O 6 [m 0,ln 1 6,eqi 7 0]) (c 8 (r (O 9 [E (.build [.ro 6 [] true] []),n (st 1 2 9)])))) (s (O 10 [m 0,ln 1 10,E (.oQ [.int .u64 0,.int .u8 0,.str [],.ro 1 [] true,.int .i64 0,.bool false] 72 (T 11) (T 11)),d 3 (m 12)]) (s (s (O 13 [m 0,ln 1 13,i 0]) (bk 0 MW ⟨true,[3,2],[]⟩)) NT))))⟩
@[simp] theorem anA:ZL MW Aw ⟨true,[15,14,13,3,2],[]⟩:=bn rfl
noncomputable abbrev ES (C:aI) (s:WSt):Option AV:=CK C 0 (aT [.cell 2 1 true]) [.sq MW,.bk 0 ⟨true,[3,2],[]⟩,.sq NT] Aw s
def adt:WFn:=⟨1,[.tmp 2],zd (s (O 1 [bx 0,i 0]) (s (s (O 3 [h 1 1,ca 111 [3],gti 4 4611686018427387904]) (c 5 (r (O 2 [i 13])))) (r (O 2 [i 0]))))⟩
def YD:WFn:=⟨4,[.tmp 6],zd (s (O 5 [bx 1,i 0]) (s (s (V 7 [f 0 2,l 1 7,l 1 3,m 0,ad 9 10,ix 6 8 11,f 0 12,f 0 13,l 1 14,f 0 5,l 1 16,ne 15 17] [] ⟨false,[],[]⟩) (c 18 (r (O 6 [i 9])))) (r (O 6 [i 0]))))⟩
def adf:WFn:=⟨4,[.tmp 5],zd (s (O 5 [E (.mv (.c (.ro 6 [] true)))]) (r (O 6 [f 0 1,l 1 6,l 1 2,l 1 3,ln 1 9,m 0,ca 221 [7,8,10,11],d 5 (m 12)])))⟩
def Xx:WFn:=⟨1,[.tmp 2],zd (s (O 1 [bx 0,ff]) (r (O 3 [f 6 1,l 1 3,ca 225 [4],nt 5,m 6,z 7 (f 0 1),z 7 (h 6 8),z 7 (ca 231 [9]),z 7 (nei 10 0),po 7 11,d 2 (m 12)])))⟩
def acP:WFn:=⟨1,[.tmp 2],zd (s (O 1 [bx 0,i 0]) (s (s (O 3 [h 6 1,ca 404 [3],eqi 4 0]) (c 5 (r (O 2 [i 14])))) (r (O 2 [i 0]))))⟩
def Zj:WFn:=⟨2,[.tmp 4],zd (s (O 4 [ff]) (r (O 5 [m 0,m 1,ca 405 [5,6],gei 7 0,d 4 (m 8)])))⟩
def ab2:WFn:=⟨5,[.cell 10 1 true,.tmp 11],zd (s (R 5 [bx 0,bx 1,bx 2,bx 3,bx 4,E (.alloc [.ro 6 [] true]),i 0] ⟨true,[10,9,8,7,6,5],[(5,65536),(6,65536),(7,65536),(8,65536),(9,65536)]⟩) (s (Q 13 [l 1 7,l 1 8,f 0 6,l 1 15,ln 1 16,ca 219 [13,14,17],d 12 (m 18)] [12,10,9,8,7,6,5]) (r (V 19 [h 2 5,h 1 6,m 12,m 21,y 22 (l 1 9),y 22 (f 0 6),y 22 (l 1 24),y 22 (ln 1 25),y 22 (l 1 8),y 22 (sb 26 27),y 22 (E (.call 219 [T 23,N 0,T 28])),pa 22 29,E (.jE 409 [T 6,T 7,T 8,T 9]),E (.build [.bool false,.int .i64 0,.ro 4 [] true,.bK,.bK] [(0,1,T 30),(4,1,T 31)]),ca 216 [19,20,32],ex 0 33,ex 1 33,n (st 1 10 34),d 11 (m 35)] [(0,10),(1,10)] ⟨false,[],[]⟩))))⟩
def EN:aB:=zd (r (O 6 [d 39 (m 8),m 39,i 0]))
def sQ:aB:=zd (s (s (O 16 [m 9,m 0,ln 1 17,lt 16 18]) (cc 19 (w .skip) (ee 0))) (s (B 1 (s (Q 22 [m 9,m 1,lt 22 23,m 24,z 25 (m 9),z 25 (m 1),z 25 (m 2),z 25 (ad 27 28),z 25 (ge 26 29),po 25 30] [31,9,8,2,1,0]) (c 31 (O 32 [m 8,m 0,m 9,ix 6 33 34,h 6 35,E (.aO [.int .u64 0,.int .u8 0,.str [],.ro 1 [] true,.int .i64 0,.bool false] 1 [(0,T 36)]),E (.app [.int .u64 0,.int .u8 0,.str [],.ro 1 [] true,.int .i64 0,.bool false] 72 false (T 32) (T 37)),d 8 (m 38)])))) (O 20 [m 9,adi 20 1,d 9 (m 21)])))
def MI:aB:=.loop ⟨true,[9,8,2,1,0],[]⟩ sQ
def YB:WFn:=⟨3,[.tmp 6,.tmp 7],zd (s (O 6 [E (.mv (.c (.ro 6 [] true))),i 0]) (s (s (O 10 [m 1,m 2,m 0,ln 1 12,ca 410 [10,11,13],eqi 14 0]) (c 15 (r (O 6 [E (.mv (.c (.ro 6 [] true))),i 4])))) (s (R 8 [E (.mv (.c (.ro 6 [] true)))] ⟨true,[8,2,1,0],[(8,6)]⟩) (s (s (O 9 [i 0]) (bk 0 MI ⟨true,[8],[]⟩)) EN))))⟩
@[simp] theorem amA:ZL MI sQ ⟨true,[9,8,2,1,0],[]⟩:=bn rfl
noncomputable abbrev wC (C:aI) (s:WSt):Option AV:=CK C 0 (aT [.tmp 6,.tmp 7]) [.sq MI,.bk 0 ⟨true,[8],[]⟩,.sq EN] sQ s
def Bj:aB:=zd (r (O 8 [d 73 (m 12),m 73,i 0]))
def wW:aB:=zd (O 41 [m 13,adi 41 1,d 13 (m 42)])
def vZ:aB:=zd (s (O 62 [m 13,m 10,ln 1 63,lt 62 64]) (c 65 (O 66 [m 12,m 10,m 13,ix 6 67 68,h 6 69,E (.aO [.int .u64 0,.int .u8 0,.str [],.ro 1 [] true,.int .i64 0,.bool false] 1 [(0,T 70)]),E (.app [.int .u64 0,.int .u8 0,.str [],.ro 1 [] true,.int .i64 0,.bool false] 72 false (T 66) (T 71)),d 12 (m 72)])))
def wF:aB:=zd (s (s (O 43 [m 13,m 3,eq 43 44,m 45,y 46 (m 14),y 46 (m 2),y 46 (lt 47 48),pa 46 49]) (cc 50 (w .skip) (ee 2))) (s (B 3 (Q 53 [m 12,m 0,m 1,m 14,ad 55 56,ix 6 54 57,h 6 58,E (.aO [.int .u64 0,.int .u8 0,.str [],.ro 1 [] true,.int .i64 0,.bool false] 1 [(0,T 59)]),E (.app [.int .u64 0,.int .u8 0,.str [],.ro 1 [] true,.int .i64 0,.bool false] 72 false (T 53) (T 60)),d 12 (m 61)] [14,13,12,10,3,2,1,0])) (O 51 [m 14,adi 51 1,d 14 (m 52)])))
def JD:aB:=.loop ⟨true,[14,13,12,10,3,2,1,0],[]⟩ wF
def yL:aB:=zd (s (s (O 37 [m 13,m 10,ln 1 38,le 37 39]) (cc 40 (w .skip) (ee 0))) (s (bk 1 (s (s (O 14 [i 0]) (bk 2 JD ⟨true,[13,12,10,3,2,1,0],[]⟩)) vZ) ⟨true,[13,12,10,3,2,1,0],[]⟩) wW))
def Fv:aB:=.loop ⟨true,[13,12,10,3,2,1,0],[]⟩ yL
def WM:WFn:=⟨4,[.tmp 8,.tmp 9],zd (s (O 8 [E (.mv (.c (.ro 6 [] true))),i 0]) (s (s (O 15 [m 1,m 2,m 0,ln 1 17,ca 410 [15,16,18],eqi 19 0,m 20,z 21 (m 3),z 21 (m 0),z 21 (ln 1 23),z 21 (m 2),z 21 (sb 24 25),z 21 (E (.call 410 [T 22,N 0,T 26])),z 21 (eqi 27 0),po 21 28]) (c 29 (r (O 8 [E (.mv (.c (.ro 6 [] true))),i 4])))) (s (Q 31 [m 0,m 1,m 2,ca 241 [31,32,33],d 30 (m 34),ex 0 30,ex 1 30,d 10 (m 35),d 11 (m 36)] [10,3,2,1,0]) (s (R 12 [E (.mv (.c (.ro 6 [] true)))] ⟨true,[12,10,3,2,1,0],[(12,6)]⟩) (s (s (O 13 [i 0]) (bk 0 Fv ⟨true,[12],[]⟩)) Bj)))))⟩
@[simp] theorem anb:ZL JD wF ⟨true,[14,13,12,10,3,2,1,0],[]⟩:=bn rfl
noncomputable abbrev tY (C:aI) (s:WSt):Option AV:=CK C 0 (aT [.tmp 8,.tmp 9]) [.sq JD,.bk 2 ⟨true,[13,12,10,3,2,1,0],[]⟩,.sq vZ,.bk 1 ⟨true,[13,12,10,3,2,1,0],[]⟩,.sq wW,.sq Fv,.bk 0 ⟨true,[12],[]⟩,.sq Bj] wF s
@[simp] theorem aml:ZL Fv yL ⟨true,[13,12,10,3,2,1,0],[]⟩:=bn rfl
noncomputable abbrev mV (C:aI) (s:WSt):Option AV:=CK C 0 (aT [.tmp 8,.tmp 9]) [.sq Fv,.bk 0 ⟨true,[12],[]⟩,.sq Bj] yL s
def adR:WFn:=⟨2,[.tmp 4],zd (s (O 2 [bx 0,bx 1,i 0]) (r (O 5 [l 1 2,ln 1 5,sbi 6 1,E (.jE 412 [T 2,T 3]),ca 411 [7,8],d 4 (m 9)])))⟩
def ae2:WFn:=⟨2,[.tmp 4],zd (s (O 4 [ff]) (r (O 5 [m 0,m 1,ca 402 [5,6],gei 7 0,d 4 (m 8)])))⟩
def XD:WFn:=⟨1,[.tmp 2],zd (s (O 1 [bx 0,ff]) (r (O 3 [f 4 1,l 1 3,lti 4 1,m 5,z 6 (f 4 1),z 6 (l 1 7),z 6 (gti 8 2305843009213693952),po 6 9,d 2 (m 10)])))⟩
def afm:aB:=zd (r (O 4 [i (-1)]))
def UZ:aB:=zd (s (s (O 6 [m 5,m 0,ln 1 7,lt 6 8]) (cc 9 (w .skip) (ee 0))) (s (B 1 (s (O 12 [m 0,m 5,ca 253 [12,13],m 1,le 14 15,m 16,y 17 (m 1),y 17 (m 0),y 17 (m 5),y 17 (adi 20 1),y 17 (ca 253 [19,21]),y 17 (lt 18 22),pa 17 23]) (c 24 (r (O 25 [m 5,d 4 (m 25)]))))) (O 10 [m 5,adi 10 1,d 5 (m 11)])))
def V5:aB:=.loop ⟨true,[5,1,0],[]⟩ UZ
def amd:WFn:=⟨2,[.tmp 4],zd (s (O 4 [i 0]) (s (s (Q 5 [i 0] [5,1,0]) (bk 0 V5 ⟨true,[],[]⟩)) afm))⟩
@[simp] theorem amZ:ZL V5 UZ ⟨true,[5,1,0],[]⟩:=bn rfl
def adE:WFn:=⟨1,[.cell 2 1 false,.cell 3 1 false],zd (s (O 1 [bx 0,E (.alloc [.int .i64 0]),E (.alloc [.int .i64 0])]) (s (O 4 [E (.alloc [.bK])]) (s (O 5 [E (.jE 433 [T 2,T 3,T 4]),n (st 1 4 5)]) (s (s (O 6 [l 1 4,E (.eu (T 6) [T 1,N 1]),nt 7]) (c 8 (r (O 0 [n (E (.store 1 (T 2) (N 0))),n (E (.store 1 (T 3) (N 0)))])))) (r (V 9 [l 1 2,l 1 3,n (st 1 2 9),n (st 1 3 10)] [(1,2)] ⟨false,[],[]⟩))))))⟩
def wz:aB:=zd (s (s (O 45 [E (.fK 4 1 (T 1) (N 3)),l 1 45,E (.bin .geq (T 46) (.c (.int .u8 240)))]) (c 47 (O 48 [f 3 3,l 1 48,E (.aO [.str []] 2 [(0,.c (.str [97])),(1,.c (.str [97]))]),E (.app [.str []] 16 false (T 49) (T 50)),f 3 3,n (st 1 52 51)]))) (r (O 53 [h 4 3,n (st 4 2 53)])))
def jW:aB:=zd (s (s (O 20 [m 4,lti 20 3]) (cc 21 (w .skip) (ee 0))) (s (B 1 (s (O 24 [E (.fK 4 1 (T 1) (N 3)),l 1 24,m 4,E (.bin .shr (T 25) (T 26)),E (.bin .and (T 27) (.c (.int .u8 1))),E (.bin .gtr (T 28) (.c (.int .u8 0)))]) (c 29 (U 30 [f 3 3,l 1 30,E (.aO [.str []] 3 [(0,.c (.str [97])),(1,.c (.str [98,50])),(2,.c (.str [107,101,121]))]),m 4,E (.fK 4 1 (T 1) (N 3)),l 1 34,E (.bin .quo (T 35) (.c (.int .u8 8))),E (.cvt .i64 (T 36)),ad 33 37,E (.bin .rem (T 38) (N 3)),ix 1 32 39,l 1 40,E (.aO [.str []] 1 [(0,T 41)]),E (.app [.str []] 16 false (T 31) (T 42)),f 3 3,n (st 1 44 43)] [(1,2),(2,5),(1,12)] [4,3,2,1])))) (O 22 [m 4,adi 22 1,d 4 (m 23)])))
def JB:aB:=.loop ⟨true,[4,3,2,1],[]⟩ jW
def GH:WFn:=⟨1,[.cell 2 4 true],zd (s (O 1 [bx 0,E (.alloc [.int .u64 0,.int .u8 0,.str [],.ro 1 [] true])]) (s (U 5 [E (.fK 4 1 (T 1) (N 0)),l 1 5,E (.bin .rem (T 6) (.c (.int .u8 60))),E (.cvt .u64 (T 7)),E (.bin .add (.c (.int .u64 1)) (T 8)),E (.fK 4 1 (T 1) (N 1)),l 1 10,E (.bin .rem (T 11) (.c (.int .u8 3))),E (.aO [.str []] 8 [(0,.c (.str [])),(1,.c (.str [97])),(2,.c (.str [114,111,119])),(3,.c (.str [116,119,111,32,119,111,114,100,115])),(4,.c (.str [32,32])),(5,.c (.str [126,33,45,44])),(6,.c (.str [97,32,108,111,110,103,101,114,32,116,101,120,116,32,111,102,32,116,104,105,115,32,107,105,110,100])),(7,.c (.str [57]))]),E (.fK 4 1 (T 1) (N 2)),l 1 14,E (.bin .rem (T 15) (.c (.int .u8 8))),ix 1 13 16,l 1 17,E (.build [.int .u64 0,.int .u8 0,.str [],.ro 1 [] true] [(0,1,T 9),(1,1,T 12),(2,1,T 18)]),d 3 (E (.alloc [.int .u64 0,.int .u8 0,.str [],.ro 1 [] true])),n (st 4 3 19)] [(1,8),(6,8),(8,10),(1,15),(6,15),(8,15),(10,15),(13,15)] [3,2,1]) (s (s (O 4 [i 0]) (bk 0 JB ⟨true,[3,2,1],[]⟩)) wz)))⟩
@[simp] theorem anZ:ZL JB jW ⟨true,[4,3,2,1],[]⟩:=bn rfl
noncomputable abbrev bZ (C:aI) (s:WSt):Option AV:=CK C 0 (aT [.cell 2 4 true]) [.sq JB,.bk 0 ⟨true,[3,2,1],[]⟩,.sq wz] jW s
def KO:aB:=zd (r (O 4 [i (-1)]))
def xJ:aB:=zd (s (s (O 6 [m 5,m 0,ln 1 7,lt 6 8]) (cc 9 (w .skip) (ee 0))) (s (B 1 (s (O 12 [m 0,m 5,ix 4 12 13,f 0 14,l 1 15,m 1,eq 16 17]) (c 18 (r (O 19 [m 5,d 4 (m 19)]))))) (O 10 [m 5,adi 10 1,d 5 (m 11)])))
def Ls:aB:=.loop ⟨true,[5,1,0],[]⟩ xJ
def adY:WFn:=⟨2,[.tmp 4],zd (s (O 4 [i 0]) (s (s (O 5 [i 0]) (bk 0 Ls ⟨true,[],[]⟩)) KO))⟩
@[simp] theorem am3:ZL Ls xJ ⟨true,[5,1,0],[]⟩:=bn rfl
noncomputable abbrev zY (C:aI) (s:WSt):Option AV:=CK C 0 (aT [.tmp 4]) [.sq Ls,.bk 0 ⟨true,[],[]⟩,.sq KO] xJ s
def JO:aB:=zd (s (s (O 41 [m 5,eqi 41 1]) (c 42 (r (O 4 [i 0])))) (r (O 4 [i 6])))
def zS:aB:=zd (s (s (O 26 [m 6,f 3 2,l 1 27,ln 1 28,lt 26 29]) (cc 30 (w .skip) (ee 0))) (s (B 1 (O 33 [m 5,f 3 2,l 1 34,m 6,ix 1 35 36,l 1 37,ca 511 [38],E (.bin .mul (T 33) (T 39)),d 5 (m 40)])) (O 31 [m 6,adi 31 1,d 6 (m 32)])))
def JC:aB:=.loop ⟨true,[6,5,2],[]⟩ zS
def PD:WFn:=⟨2,[.tmp 4],zd (s (O 4 [d 2 (bx 0),i 0]) (s (O 7 [f 2 2,l 1 7,ca 510 [8],d 5 (m 9)]) (s (s (Q 10 [f 0 2,l 1 10,E (.bin .eql (T 11) (.c (.int .u64 0))),m 12,z 13 (m 1),z 13 (f 1 2),z 13 (l 1 15),z 13 (E (.cvt .i64 (T 16))),z 13 (le 14 17),po 13 18,m 19,z 20 (f 3 2),z 20 (l 1 21),z 20 (ln 1 22),z 20 (gti 23 8),po 20 24] [25,5,2]) (c 25 (O 5 [i 0]))) (s (s (O 6 [i 0]) (bk 0 JC ⟨true,[5],[]⟩)) JO))))⟩
@[simp] theorem an8:ZL JC zS ⟨true,[6,5,2],[]⟩:=bn rfl
noncomputable abbrev Fh (C:aI) (s:WSt):Option AV:=CK C 0 (aT [.tmp 4]) [.sq JC,.bk 0 ⟨true,[5],[]⟩,.sq JO] zS s
def Ip:WFn:=⟨3,[.cell 6 6 true,.tmp 7],zd (s (Q 6 [d 3 (bx 0),d 4 (bx 1),E (.alloc [.int .u8 0,.str [],.str [],.ro 2 [] true,.str [],.ro 6 [] true]),i 0] [6,4,3,2]) (s (s (O 9 [m 2,lti 9 1,m 10,z 11 (m 2),z 11 (gti 12 64),po 11 13]) (c 14 (r (O 15 [E (.build [.int .u8 0,.str [],.str [],.ro 2 [] true,.str [],.ro 6 [] true] []),n (st 6 6 15),d 7 (i 1)])))) (s (s (O 16 [h 6 3,ca 408 [16],nei 17 0]) (c 18 (r (O 19 [E (.build [.int .u8 0,.str [],.str [],.ro 2 [] true,.str [],.ro 6 [] true] []),h 6 3,ca 408 [20],n (st 6 6 19),d 7 (m 21)])))) (s (s (O 22 [h 4 4,ca 512 [22],nei 23 0]) (c 24 (r (Q 25 [E (.build [.int .u8 0,.str [],.str [],.ro 2 [] true,.str [],.ro 6 [] true] []),h 4 4,ca 512 [26],n (st 6 6 25),d 7 (m 27)] [7,6])))) (s (O 28 [h 6 3,h 4 4,ca 513 [28,29],E (.idxs 6 (T 30) (N 0)),h 6 31,d 8 (E (.alloc [.int .u8 0,.str [],.str [],.ro 2 [] true,.str [],.ro 6 [] true])),n (st 6 8 32)]) (s (s (O 33 [h 6 8,ca 441 [33],nei 34 0,m 35,z 36 (h 6 8),z 36 (ca 442 [37]),z 36 (m 2),z 36 (gt 38 39),po 36 40]) (c 41 (r (O 42 [E (.build [.int .u8 0,.str [],.str [],.ro 2 [] true,.str [],.ro 6 [] true] []),n (st 6 6 42),d 7 (i 14)])))) (r (O 43 [h 6 8,n (st 6 6 43),d 7 (i 0)]))))))))⟩
def mJ:aB:=zd (s (s (O 71 [m 10,ca 407 [71],gti 72 0]) (c 73 (r (O 8 [E (.mv (.c (.ro 6 [] true))),i 13])))) (r (O 8 [d 74 (m 10),m 74,i 0])))
def qH:aB:=zd (O 40 [m 11,adi 40 1,d 11 (m 41)])
def pY:aB:=zd (s (O 60 [m 11,m 1,ln 1 61,lt 60 62]) (c 63 (O 64 [m 10,m 1,m 11,ix 6 65 66,h 6 67,E (.aO [.int .u64 0,.int .u8 0,.str [],.ro 1 [] true,.int .i64 0,.bool false] 1 [(0,T 68)]),E (.app [.int .u64 0,.int .u8 0,.str [],.ro 1 [] true,.int .i64 0,.bool false] 72 false (T 64) (T 69)),d 10 (m 70)])))
def zy:aB:=zd (s (s (O 45 [m 12,m 3,ln 1 46,lt 45 47]) (cc 48 (w .skip) (ee 2))) (s (B 3 (V 51 [m 10,h 2 4,m 3,m 12,ix 4 53 54,h 4 55,ca 240 [52,56],E (.aO [.int .u64 0,.int .u8 0,.str [],.ro 1 [] true,.int .i64 0,.bool false] 1 [(0,T 57)]),E (.app [.int .u64 0,.int .u8 0,.str [],.ro 1 [] true,.int .i64 0,.bool false] 72 false (T 51) (T 58)),d 10 (m 59)] [] ⟨false,[],[]⟩)) (Q 49 [m 12,adi 49 1,d 12 (m 50)] [12,11,10,4,3,2,1])))
def L8:aB:=.loop ⟨true,[12,11,10,4,3,2,1],[]⟩ zy
def uh:aB:=zd (s (s (O 36 [m 11,m 1,ln 1 37,le 36 38]) (cc 39 (w .skip) (ee 0))) (s (bk 1 (s (s (O 42 [m 11,m 2,eq 42 43]) (c 44 (s (O 12 [i 0]) (bk 2 L8 ⟨true,[11,10,4,3,2,1],[]⟩)))) pY) ⟨true,[11,10,4,3,2,1],[]⟩) qH))
def wU:aB:=.loop ⟨true,[11,10,4,3,2,1],[]⟩ uh
def Qz:WFn:=⟨4,[.tmp 8,.tmp 9],zd (s (O 8 [d 4 (bx 0),E (.mv (.c (.ro 6 [] true))),i 0]) (s (s (Q 13 [m 2,lti 13 0,m 14,z 15 (m 2),z 15 (m 1),z 15 (ln 1 17),z 15 (gt 16 18),po 15 19] [20,4,3,2,1]) (c 20 (r (O 8 [E (.mv (.c (.ro 6 [] true))),i 4])))) (s (s (O 21 [m 1,ln 1 21,m 3,ln 1 23,ad 22 24,gti 25 1024]) (c 26 (r (O 8 [E (.mv (.c (.ro 6 [] true))),i 3])))) (s (s (O 27 [h 2 4,m 1,m 3,ca 532 [27,28,29],gti 30 0]) (c 31 (r (O 32 [h 2 4,m 1,m 3,ca 532 [32,33,34],d 8 (E (.mv (.c (.ro 6 [] true)))),d 9 (m 35)])))) (s (R 10 [E (.mv (.c (.ro 6 [] true)))] ⟨true,[10,4,3,2,1],[(10,6)]⟩) (s (s (O 11 [i 0]) (bk 0 wU ⟨true,[10],[]⟩)) mJ))))))⟩
@[simp] theorem amr:ZL L8 zy ⟨true,[12,11,10,4,3,2,1],[]⟩:=bn rfl
noncomputable abbrev Et (C:aI) (s:WSt):Option AV:=CK C 0 (aT [.tmp 8,.tmp 9]) [.sq L8,.bk 2 ⟨true,[11,10,4,3,2,1],[]⟩,.sq pY,.bk 1 ⟨true,[11,10,4,3,2,1],[]⟩,.sq qH,.sq wU,.bk 0 ⟨true,[10],[]⟩,.sq mJ] zy s
@[simp] theorem amD:ZL wU uh ⟨true,[11,10,4,3,2,1],[]⟩:=bn rfl
noncomputable abbrev qG (C:aI) (s:WSt):Option AV:=CK C 0 (aT [.tmp 8,.tmp 9]) [.sq wU,.bk 0 ⟨true,[10],[]⟩,.sq mJ] uh s
def EF:aB:=zd (s (s (O 76 [m 10,ca 407 [76],gti 77 0]) (c 78 (r (O 8 [E (.mv (.c (.ro 6 [] true))),i 13])))) (r (O 8 [d 79 (m 10),m 79,i 0])))
def qL:aB:=zd (s (s (O 34 [m 12,m 3,ln 1 35,lt 34 36]) (cc 37 (w .skip) (ee 2))) (s (B 3 (s (U 40 [h 2 4,m 3,m 12,ix 4 41 42,h 4 43,E (.call 271 [T 40,T 44,N 0]),d 13 (m 45)] [] [13,12,10,4,3,2,1]) (s (s (O 46 [m 13,eqi 46 6]) (c 47 (r (O 8 [E (.mv (.c (.ro 6 [] true))),i 6])))) (s (s (V 48 [m 1,m 2,m 12,ad 49 50,ix 6 48 51,f 0 52,f 0 53,l 1 54,m 3,m 12,ix 4 56 57,f 0 58,l 1 59,ne 55 60] [] ⟨false,[],[]⟩) (c 61 (r (O 8 [E (.mv (.c (.ro 6 [] true))),i 9])))) (s (s (O 62 [m 13,gti 62 0]) (c 63 (r (Q 8 [d 64 (m 13),E (.mv (.c (.ro 6 [] true))),m 64] [9,8])))) (V 65 [m 10,m 2,m 12,ad 66 67,h 2 4,m 3,m 12,ix 4 70 71,h 4 72,ca 240 [69,73],ix 6 65 68,n (st 6 75 74)] [] ⟨false,[],[]⟩)))))) (O 38 [m 12,adi 38 1,d 12 (m 39)])))
def Oa:aB:=.loop ⟨true,[12,10,4,3,2,1],[]⟩ qL
def LQ:aB:=zd (s (s (O 12 [i 0]) (bk 2 Oa ⟨true,[10],[]⟩)) EF)
def zW:aB:=zd (s (s (O 21 [m 11,m 1,ln 1 22,lt 21 23]) (cc 24 (w .skip) (ee 0))) (s (B 1 (O 27 [m 10,m 1,m 11,ix 6 28 29,h 6 30,E (.aO [.int .u64 0,.int .u8 0,.str [],.ro 1 [] true,.int .i64 0,.bool false] 1 [(0,T 31)]),E (.app [.int .u64 0,.int .u8 0,.str [],.ro 1 [] true,.int .i64 0,.bool false] 72 false (T 27) (T 32)),d 10 (m 33)])) (O 25 [m 11,adi 25 1,d 11 (m 26)])))
def NR:aB:=.loop ⟨true,[11,10,4,3,2,1],[]⟩ zW
def aa2:WFn:=⟨4,[.tmp 8,.tmp 9],zd (s (O 8 [d 4 (bx 0),E (.mv (.c (.ro 6 [] true))),i 0]) (s (s (O 14 [m 2,m 3,ln 1 15,m 1,ln 1 17,ca 410 [14,16,18],eqi 19 0]) (c 20 (r (Q 8 [E (.mv (.c (.ro 6 [] true))),i 4] [9,8])))) (s (R 10 [E (.mv (.c (.ro 6 [] true)))] ⟨true,[10,4,3,2,1],[(10,6)]⟩) (s (s (O 11 [i 0]) (bk 0 NR ⟨true,[10,4,3,2,1],[]⟩)) LQ))))⟩
@[simp] theorem anx:ZL Oa qL ⟨true,[12,10,4,3,2,1],[]⟩:=bn rfl
noncomputable abbrev tK (C:aI) (s:WSt):Option AV:=CK C 0 (aT [.tmp 8,.tmp 9]) [.sq Oa,.bk 2 ⟨true,[10],[]⟩,.sq EF] qL s
@[simp] theorem anD:ZL NR zW ⟨true,[11,10,4,3,2,1],[]⟩:=bn rfl
noncomputable abbrev EL (C:aI) (s:WSt):Option AV:=CK C 0 (aT [.tmp 8,.tmp 9]) [.sq NR,.bk 0 ⟨true,[10,4,3,2,1],[]⟩,.sq LQ] zW s
def agL:WFn:=⟨2,[.tmp 4,.tmp 5],zd (s (O 4 [d 2 (bx 0),E (.mv (.c (.ro 6 [] true))),i 0]) (r (O 6 [h 2 2,m 1,E (.call 461 [T 6,.c (.ro 6 [] true),N 0,T 7]),ex 0 8,ex 1 8,d 4 (m 9),d 5 (m 10)])))⟩
def TF:WFn:=⟨2,[.tmp 4],zd (s (O 4 [d 2 (bx 0),i 0]) (s (O 7 [E (.jE 494 [T 2]),d 5 (m 7)]) (s (Q 8 [E (.jE 497 [T 2]),d 6 (m 8)] [6,5,2,1]) (s (s (O 9 [f 0 2,l 1 9,E (.bin .eql (T 10) (.c (.int .u64 0))),m 11,z 12 (f 1 2),z 12 (l 1 13),z 12 (E (.cvt .i64 (T 14))),z 12 (m 1),z 12 (ge 15 16),po 12 17,m 18,z 19 (m 5),z 19 (E (.eu (T 20) [])),z 19 (nt 21),po 19 22,m 23,z 24 (m 6),z 24 (E (.eu (T 25) [])),z 24 (nt 26),po 24 27]) (c 28 (r (O 4 [i 6])))) (r (O 4 [i 0]))))))⟩
def ac0:WFn:=⟨2,[.cell 4 6 true,.tmp 5],zd (s (O 2 [bx 0,bx 1,E (.alloc [.int .u8 0,.str [],.str [],.ro 2 [] true,.str [],.ro 6 [] true]),i 0]) (r (V 6 [f 0 2,l 1 6,f 1 3,l 1 8,ix 9 7 9,f 0 10,h 6 11,h 4 3,f 1 2,l 1 14,ca 501 [12,13,15],ex 0 16,ex 1 16,n (st 6 4 17),d 5 (m 18)] [] ⟨false,[],[]⟩)))⟩
def agh:WFn:=⟨1,[.tmp 2],zd (s (O 2 [E (.mv (.c (.ro 4 [] true)))]) (s (s (O 4 [m 0,ln 1 4,eqi 5 0]) (c 6 (r (O 2 [E (.mv (.c (.ro 4 [] true)))])))) (s (O 7 [m 0,ln 1 7,E (.oQ [.int .u64 0,.int .u8 0,.str [],.ro 1 [] true] 56 (T 8) (T 8)),d 3 (m 9)]) (s (O 10 [m 3,m 0,E (.cpy 4 (T 10) (T 11))]) (r (O 13 [m 3,d 2 (m 13)]))))))⟩
def ZX:WFn:=⟨1,[.tmp 2],zd (s (O 2 [E (.mv (.c (.ro 1 [] true)))]) (s (s (O 4 [m 0,ln 1 4,eqi 5 0]) (c 6 (r (O 2 [E (.mv (.c (.ro 1 [] true)))])))) (s (O 7 [m 0,ln 1 7,E (.oQ [.str []] 16 (T 8) (T 8)),d 3 (m 9)]) (s (O 10 [m 3,m 0,E (.cpy 1 (T 10) (T 11))]) (r (O 13 [m 3,d 2 (m 13)]))))))⟩
def ac5:WFn:=⟨1,[.cell 2 4 true],zd (s (O 2 [E (.alloc [.int .i64 0,.int .i64 0,.int .i64 0,.int .i64 0])]) (s (s (O 3 [m 0]) (B 0 (s (s (O 5 [E (.bin .eql (T 3) (.c (.int .u8 1))),d 4 (m 5)]) (cc 4 (w .skip) (O 6 [E (.bin .eql (T 3) (.c (.int .u8 4))),d 4 (m 6)]))) (cc 4 (r (O 7 [E (.build [.int .i64 0,.int .i64 0,.int .i64 0,.int .i64 0] [(0,1,N 1),(1,1,N 0),(2,1,N 0),(3,1,N 1)]),n (st 4 2 7)])) (s (O 9 [E (.bin .eql (T 3) (.c (.int .u8 2))),d 8 (m 9)]) (cc 8 (r (O 10 [E (.build [.int .i64 0,.int .i64 0,.int .i64 0,.int .i64 0] [(0,1,N 1),(1,1,N 1),(2,1,N 0),(3,1,N 0)]),n (st 4 2 10)])) (s (O 12 [E (.bin .eql (T 3) (.c (.int .u8 3))),d 11 (m 12)]) (cc 11 (r (O 13 [E (.build [.int .i64 0,.int .i64 0,.int .i64 0,.int .i64 0] [(0,1,N 1),(1,1,N 1),(2,1,N 1),(3,1,N 0)]),n (st 4 2 13)])) (s (O 15 [E (.bin .eql (T 3) (.c (.int .u8 5))),d 14 (m 15)]) (c 14 (r (O 16 [E (.build [.int .i64 0,.int .i64 0,.int .i64 0,.int .i64 0] [(0,1,N 0),(1,1,N 0),(2,1,N 0),(3,1,N 1)]),n (st 4 2 16)])))))))))))) (r (O 17 [E (.build [.int .i64 0,.int .i64 0,.int .i64 0,.int .i64 0] []),n (st 4 2 17)]))))⟩
def acM:WFn:=⟨3,[.tmp 6],zd (s (O 6 [i 0]) (r (O 7 [m 0,gei 7 0,m 8,y 9 (m 0),y 9 (m 2),y 9 (le 10 11),pa 9 12,m 13,y 14 (m 1),y 14 (gei 15 0),pa 14 16,m 17,y 18 (m 1),y 18 (m 2),y 18 (m 0),y 18 (sb 20 21),y 18 (le 19 22),pa 18 23,ca 406 [24],d 6 (m 25)])))⟩
def adL:WFn:=⟨0,[.cell 0 36 true],zd (s (O 0 [E (.alloc [.str [],.bool false,.bool false,.bool false,.bool false,.bK,.str [],.bool false,.bool false,.bool false,.bool false,.bK,.str [],.bool false,.bool false,.bool false,.bool false,.bK,.str [],.bool false,.bool false,.bool false,.bool false,.bK,.str [],.bool false,.bool false,.bool false,.bool false,.bK,.str [],.bool false,.bool false,.bool false,.bool false,.bK])]) (r (O 1 [E (.build [.str [],.bool false,.bool false,.bool false,.bool false,.bK] [(0,1,.c (.str [105,110,115,101,114,116])),(1,1,.c (.bool true)),(2,1,.c (.bool false)),(3,1,.c (.bool false)),(4,1,.c (.bool true)),(5,1,.c (.fn 526 []))]),E (.build [.str [],.bool false,.bool false,.bool false,.bool false,.bK] [(0,1,.c (.str [114,101,109,111,118,101])),(1,1,.c (.bool true)),(2,1,.c (.bool true)),(3,1,.c (.bool false)),(4,1,.c (.bool false)),(5,1,.c (.fn 527 []))]),E (.build [.str [],.bool false,.bool false,.bool false,.bool false,.bK] [(0,1,.c (.str [109,111,118,101])),(1,1,.c (.bool true)),(2,1,.c (.bool true)),(3,1,.c (.bool true)),(4,1,.c (.bool false)),(5,1,.c (.fn 528 []))]),E (.build [.str [],.bool false,.bool false,.bool false,.bool false,.bK] [(0,1,.c (.str [99,104,97,110,103,101])),(1,1,.c (.bool true)),(2,1,.c (.bool false)),(3,1,.c (.bool false)),(4,1,.c (.bool true)),(5,1,.c (.fn 529 []))]),E (.build [.str [],.bool false,.bool false,.bool false,.bool false,.bK] [(0,1,.c (.str [114,101,115,101,116])),(1,1,.c (.bool false)),(2,1,.c (.bool false)),(3,1,.c (.bool false)),(4,1,.c (.bool true)),(5,1,.c (.fn 530 []))]),E (.build [.str [],.bool false,.bool false,.bool false,.bool false,.bK,.str [],.bool false,.bool false,.bool false,.bool false,.bK,.str [],.bool false,.bool false,.bool false,.bool false,.bK,.str [],.bool false,.bool false,.bool false,.bool false,.bK,.str [],.bool false,.bool false,.bool false,.bool false,.bK,.str [],.bool false,.bool false,.bool false,.bool false,.bK] [(6,6,T 1),(12,6,T 2),(18,6,T 3),(24,6,T 4),(30,6,T 5)]),n (st 36 0 6)])))⟩
def Ez:aB:=zd (r (O 4 [i (-1)]))
def nX:aB:=zd (s (O 9 [lt 8 7]) (s (cc 9 (w .skip) (ee 0)) (s (B 1 (s (O 10 [m 8,d 5 (m 10)]) (s (O 11 [m 1,m 0,m 5,ix 6 12 13,h 6 14,E (.eu (T 11) [T 15])]) (c 16 (r (O 17 [m 5,d 4 (m 17)])))))) (O 18 [adi 8 1,d 8 (m 18)]))))
def J5:aB:=.loop ⟨true,[8,7,1,0],[]⟩ nX
def ab7:WFn:=⟨2,[.tmp 4],zd (s (O 4 [i 0]) (s (s (O 6 [m 0,ln 1 6,i 0]) (bk 0 J5 ⟨true,[],[]⟩)) Ez))⟩
@[simp] theorem anw:ZL J5 nX ⟨true,[8,7,1,0],[]⟩:=bn rfl
noncomputable abbrev mW (C:aI) (s:WSt):Option AV:=CK C 0 (aT [.tmp 4]) [.sq J5,.bk 0 ⟨true,[],[]⟩,.sq Ez] nX s
def agn:WFn:=⟨2,[.tmp 3],zd (s (O 2 [bx 0,ff]) (r (O 4 [f 0 2,f 0 4,l 1 5,l 1 1,eq 6 7,d 3 (m 8)])))⟩
def agt:WFn:=⟨1,[.tmp 2],zd (s (O 2 [i 0]) (s (s (O 3 [m 0,ca 504 [3],gti 4 4611686018427387904]) (c 5 (r (O 2 [i 13])))) (r (O 2 [i 0]))))⟩
def Ew:aB:=zd (r (O 31 [m 5,d 4 (m 31)]))
def wI:aB:=zd (s (Q 14 [lt 13 12] [14,13,12,11,5,2]) (s (cc 14 (w .skip) (ee 0)) (s (B 1 (s (O 15 [m 13,ix 4 11 13,h 4 16,d 7 (E (.alloc [.int .u64 0,.int .u8 0,.str [],.ro 1 [] true])),d 6 (m 15),n (st 4 7 17)]) (V 18 [m 5,m 6,h 4 7,f 0 2,l 1 21,f 1 7,l 1 23,ix 9 22 24,f 6 25,l 1 26,E (.build [.int .u64 0,.int .u8 0,.str [],.ro 1 [] true,.int .i64 0,.bool false] [(0,4,T 20),(4,1,T 27)]),ix 6 18 19,n (st 6 29 28)] [] ⟨false,[],[]⟩))) (O 30 [adi 13 1,d 13 (m 30)]))))
def JL:aB:=.loop ⟨true,[13,12,11,5,2],[]⟩ wI
def abd:WFn:=⟨2,[.tmp 4],zd (s (O 4 [d 2 (bx 0),E (.mv (.c (.ro 6 [] true)))]) (s (O 8 [m 1,ln 1 8,E (.oQ [.int .u64 0,.int .u8 0,.str [],.ro 1 [] true,.int .i64 0,.bool false] 72 (T 9) (T 9)),d 5 (m 10)]) (s (s (O 11 [m 1,ln 1 11,i 0]) (bk 0 JL ⟨true,[5],[]⟩)) Ew)))⟩
@[simp] theorem anR:ZL JL wI ⟨true,[13,12,11,5,2],[]⟩:=bn rfl
noncomputable abbrev E8 (C:aI) (s:WSt):Option AV:=CK C 0 (aT [.tmp 4]) [.sq JL,.bk 0 ⟨true,[5],[]⟩,.sq Ew] wI s
def KL:WFn:=⟨3,[.tmp 5],zd (s (O 4 [bx 1,i 0]) (s (s (O 6 [l 1 2,f 0 4,l 1 7,E (.look 0 (.bool false) false (T 6) (T 8))]) (c 9 (r (O 5 [i 8])))) (s (O 10 [l 1 2,f 0 4,l 1 11,n (E (.upd 0 (T 10) (T 12) (.c (.bool true))))]) (r (O 5 [i 0])))))⟩
def aeg:WFn:=⟨1,[.tmp 2],zd (s (O 1 [bx 0,i 0]) (r (O 3 [E (.call 502 [T 1,.c (.fn 503 [])]),d 2 (m 3)])))⟩
def MQ:aB:=zd (r (O 4 [i (-1)]))
def wG:aB:=zd (s (O 9 [lt 8 7]) (s (cc 9 (w .skip) (ee 0)) (s (B 1 (s (O 10 [m 8,d 5 (m 10)]) (s (O 11 [m 1,m 0,m 5,ix 9 12 13,h 9 14,E (.eu (T 11) [T 15])]) (c 16 (r (O 17 [m 5,d 4 (m 17)])))))) (O 18 [adi 8 1,d 8 (m 18)]))))
def MN:aB:=.loop ⟨true,[8,7,1,0],[]⟩ wG
def agm:WFn:=⟨2,[.tmp 4],zd (s (O 4 [i 0]) (s (s (O 6 [m 0,ln 1 6,i 0]) (bk 0 MN ⟨true,[],[]⟩)) MQ))⟩
@[simp] theorem anr:ZL MN wG ⟨true,[8,7,1,0],[]⟩:=bn rfl
noncomputable abbrev yR (C:aI) (s:WSt):Option AV:=CK C 0 (aT [.tmp 4]) [.sq MN,.bk 0 ⟨true,[],[]⟩,.sq MQ] wG s
def aeO:WFn:=⟨1,[.tmp 2],zd (s (O 2 [i 0]) (s (s (O 3 [m 0]) (c 3 (r (O 2 [i 1])))) (r (O 2 [i 0]))))⟩
def abf:WFn:=⟨1,[.tmp 2],zd (s (O 1 [bx 0,i 0]) (s (s (O 3 [h 6 1,ca 505 [3],eqi 4 0]) (c 5 (r (O 2 [i 14])))) (r (O 2 [i 0]))))⟩
def aen:WFn:=⟨5,[.tmp 6],zd (s (O 6 [E (.mv (.c (.ro 6 [] true)))]) (r (V 7 [f 0 1,l 1 7,l 1 2,l 1 3,E (.call 221 [T 8,T 9,T 10,.c (.ro 6 [] true)]),l 1 4,f 0 1,l 1 13,l 1 2,l 1 2,l 1 3,ad 16 17,E (.slice 6 (T 14) (some (T 15)) (some (T 18)) none),E (.call 221 [T 11,T 12,N 0,T 19]),d 6 (m 20)] [(4,5),(4,7),(4,8),(4,9),(4,10)] ⟨false,[],[]⟩)))⟩
def EU:aB:=zd (r (O 25 [m 5,d 4 (m 25)]))
def tX:aB:=zd (s (s (O 9 [m 5,m 6,lt 9 10]) (cc 11 (w .skip) (ee 0))) (B 1 (s (O 12 [m 5,m 6,ad 12 13,E (.cvt .u64 (T 14)),E (.bin .shr (T 15) (.c (.int .u64 1))),E (.cvt .i64 (T 16)),d 7 (m 17)]) (s (O 18 [m 1,m 7,E (.eu (T 18) [T 19]),nt 20]) (cc 21 (O 22 [m 7,adi 22 1,d 5 (m 23)]) (O 24 [m 7,d 6 (m 24)]))))))
def KH:aB:=.loop ⟨true,[6,5,1],[]⟩ tX
def adk:WFn:=⟨2,[.tmp 4],zd (s (O 4 [i 0]) (s (Q 5 [d 8 (m 0),i 0,m 8] [6,5,1]) (s (bk 0 KH ⟨true,[5],[]⟩) EU)))⟩
@[simp] theorem anW:ZL KH tX ⟨true,[6,5,1],[]⟩:=bn rfl
noncomputable abbrev wE (C:aI) (s:WSt):Option AV:=CK C 0 (aT [.tmp 4]) [.sq KH,.bk 0 ⟨true,[5],[]⟩,.sq EU] tX s
def afK:WFn:=⟨3,[.tmp 4],zd (s (O 4 [ff]) (r (V 5 [l 1 1,m 0,adi 6 1,ix 1 5 7,l 1 8,l 1 2,gt 9 10,d 4 (m 11)] [] ⟨false,[],[]⟩)))⟩
def EM:aB:=zd (r (O 7 [tt]))
def xR:aB:=zd (s (O 31 [lt 30 29]) (s (cc 31 (w .skip) (ee 0)) (s (B 1 (s (O 32 [m 30,d 8 (m 32)]) (s (V 33 [l 1 4,m 0,nk 34,f 5 35,l 1 36,m 8,ix 6 37 38,m 1,adi 40 1,E (.eu (T 33) [T 39,T 41]),nt 42] [] ⟨false,[],[]⟩) (c 43 (r (O 7 [ff])))))) (O 44 [adi 30 1,d 30 (m 44)]))))
def J8:aB:=.loop ⟨true,[30,29,4,1,0],[]⟩ xR
def Ie:WFn:=⟨5,[.tmp 7],zd (s (O 7 [ff]) (s (O 9 [l 1 2,adi 9 1,n (st 1 2 10)]) (s (O 11 [l 1 3,m 1,E (.mx (T 11) (T 12)),n (st 1 3 13)]) (s (s (O 14 [m 1,gti 14 6,m 15,z 16 (l 1 2),z 16 (gti 17 64),po 16 18,m 19,z 20 (m 0),z 20 (ca 434 [21]),z 20 (nt 22),po 20 23]) (c 24 (r (O 7 [ff])))) (s (s (Q 25 [m 0,nk 25,f 5 26,l 1 27,ln 1 28,i 0] [30,29,4,1,0]) (bk 0 J8 ⟨true,[],[]⟩)) EM)))))⟩
@[simp] theorem amn:ZL J8 xR ⟨true,[30,29,4,1,0],[]⟩:=bn rfl
def Lh:aB:=zd (r (O 2 [tt]))
def zB:aB:=zd (s (Q 143 [lt 142 141] [143,142,141,140,0]) (s (cc 143 (w .skip) (ee 2)) (s (B 3 (s (O 144 [m 142,ix 6 140 142,h 6 145,d 6 (E (.alloc [.int .u8 0,.str [],.str [],.ro 2 [] true,.str [],.ro 6 [] true])),d 5 (m 144),n (st 6 6 146)]) (s (O 147 [f 2 6,l 1 147,E (.bin .neq (T 148) (.c (.str []))),m 149,y 150 (m 0),y 150 (nk 151),y 150 (f 5 152),y 150 (l 1 153),y 150 (m 5),y 150 (E (.slice 6 (T 154) none (some (T 155)) none)),y 150 (E (.jE 519 [T 6])),y 150 (ca 518 [156,157]),pa 150 158]) (c 159 (r (O 2 [ff])))))) (O 160 [adi 142 1,d 142 (m 160)]))))
def LJ:aB:=.loop ⟨true,[142,141,140,0],[]⟩ zB
def JR:aB:=zd (s (s (O 137 [m 0,nk 137,f 5 138,l 1 139,ln 1 140,i 0]) (bk 2 LJ ⟨true,[],[]⟩)) Lh)
def yV:aB:=zd (s (O 104 [lt 103 102]) (s (cc 104 (w .skip) (ee 0)) (s (B 1 (s (O 105 [m 103,ix 2 101 103,h 2 106,d 4 (E (.alloc [.str [],.str []])),d 3 (m 105),n (st 2 4 107)]) (s (U 108 [f 0 4,l 1 108,ca 517 [109],nt 110,m 111,z 112 (f 1 4),z 112 (l 1 113),z 112 (ca 516 [114]),z 112 (nt 115),po 112 116,m 117,z 118 (m 3),z 118 (gti 119 0),z 118 (m 120),y 121 (f 0 4),y 121 (l 1 122),y 121 (m 0),y 121 (nk 124),y 121 (f 3 125),y 121 (l 1 126),y 121 (m 3),y 121 (sbi 128 1),y 121 (ix 2 127 129),y 121 (f 0 130),y 121 (l 1 131),y 121 (le 123 132),z 118 (pa 121 133),po 118 134] [] [135,103,102,101,0]) (c 135 (r (O 2 [ff])))))) (O 136 [adi 103 1,d 103 (m 136)]))))
def JQ:aB:=.loop ⟨true,[103,102,101,0],[]⟩ yV
def yg:WFn:=⟨1,[.tmp 2],zd (s (O 2 [ff]) (s (s (O 7 [m 0,nk 7,f 0 8,l 1 9,E (.bin .eql (T 10) (.c (.int .u8 2)))]) (c 11 (r (Q 12 [m 0,nk 12,f 4 13,l 1 14,ca 516 [15],m 16,y 17 (m 0),y 17 (nk 18),y 17 (f 1 19),y 17 (l 1 20),y 17 (E (.bin .eql (T 21) (.c (.str [])))),pa 17 22,m 23,y 24 (m 0),y 24 (nk 25),y 24 (f 2 26),y 24 (l 1 27),y 24 (E (.bin .eql (T 28) (.c (.str [])))),pa 24 29,m 30,y 31 (m 0),y 31 (nk 32),y 31 (f 3 33),y 31 (l 1 34),y 31 (ln 1 35),y 31 (eqi 36 0),pa 31 37,m 38,y 39 (m 0),y 39 (nk 40),y 39 (f 5 41),y 39 (l 1 42),y 39 (ln 1 43),y 39 (eqi 44 0),pa 39 45,d 2 (m 46)] [2])))) (s (s (Q 47 [m 0,nk 47,f 0 48,l 1 49,E (.bin .neq (T 50) (.c (.int .u8 1))),m 51,z 52 (m 0),z 52 (nk 53),z 52 (f 1 54),z 52 (l 1 55),z 52 (ca 517 [56]),z 52 (nt 57),po 52 58,m 59,z 60 (m 0),z 60 (nk 61),z 60 (f 2 62),z 60 (l 1 63),z 60 (E (.bin .neq (T 64) (.c (.str [])))),z 60 (m 65),y 66 (m 0),y 66 (nk 67),y 66 (f 2 68),y 66 (l 1 69),y 66 (ca 517 [70]),y 66 (nt 71),z 60 (pa 66 72),po 60 73,m 74,z 75 (m 0),z 75 (nk 76),z 75 (f 4 77),z 75 (l 1 78),z 75 (E (.bin .neq (T 79) (.c (.str [])))),po 75 80,m 81,z 82 (m 0),z 82 (nk 83),z 82 (f 3 84),z 82 (l 1 85),z 82 (ln 1 86),z 82 (gti 87 8),po 82 88,m 89,z 90 (m 0),z 90 (nk 91),z 90 (f 5 92),z 90 (l 1 93),z 90 (ln 1 94),z 90 (gti 95 16),po 90 96] [97,0]) (c 97 (r (O 2 [ff])))) (s (s (O 98 [m 0,nk 98,f 3 99,l 1 100,ln 1 101,i 0]) (bk 0 JQ ⟨true,[0],[]⟩)) JR))))⟩
@[simp] theorem anN:ZL LJ zB ⟨true,[142,141,140,0],[]⟩:=bn rfl
noncomputable abbrev Ee (C:aI) (s:WSt):Option AV:=CK C 0 (aT [.tmp 2]) [.sq LJ,.bk 2 ⟨true,[],[]⟩,.sq Lh] zB s
@[simp] theorem am9:ZL JQ yV ⟨true,[103,102,101,0],[]⟩:=bn rfl
noncomputable abbrev Az (C:aI) (s:WSt):Option AV:=CK C 0 (aT [.tmp 2]) [.sq JQ,.bk 0 ⟨true,[0],[]⟩,.sq JR] yV s
def Zt:WFn:=⟨1,[.tmp 2],zd (s (O 1 [bx 0,i 0]) (s (s (O 3 [h 6 1,ca 140 [3],eqi 4 0]) (c 5 (r (O 2 [i 14])))) (r (O 2 [i 0]))))⟩
def Zk:WFn:=⟨1,[.tmp 2],zd (s (O 1 [bx 0,i 0]) (s (s (O 3 [h 6 1,ca 442 [3],eqi 4 0]) (c 5 (r (O 2 [i 14])))) (r (O 2 [i 0]))))⟩
def aaS:WFn:=⟨1,[.tmp 2],zd (s (O 1 [bx 0,i 0]) (s (O 4 [h 6 1,E (.call 520 [T 4,N 6]),d 3 (m 5)]) (s (s (O 6 [m 3,gti 6 64]) (c 7 (r (O 2 [i 0])))) (r (O 8 [m 3,d 2 (m 8)])))))⟩
def JG:aB:=zd (r (O 2 [i 1]))
def zC:aB:=zd (s (s (O 7 [m 3,m 0,ln 0 8,lt 7 9]) (cc 10 (w .skip) (ee 0))) (s (B 1 (s (O 13 [m 0,m 3,E (.eU (T 13) (T 14)),E (.bin .lss (T 15) (.c (.int .u8 32))),m 16,z 17 (m 0),z 17 (m 3),z 17 (E (.eU (T 18) (T 19))),z 17 (E (.bin .gtr (T 20) (.c (.int .u8 126)))),po 17 21]) (c 22 (r (O 2 [i 0]))))) (O 11 [m 3,adi 11 1,d 3 (m 12)])))
def Kr:aB:=.loop ⟨true,[3,0],[]⟩ zC
def aam:WFn:=⟨1,[.tmp 2],zd (s (O 2 [i 0]) (s (s (Q 4 [m 0,ln 0 4,gti 5 64] [6,0]) (c 6 (r (O 2 [i 0])))) (s (s (O 3 [i 0]) (bk 0 Kr ⟨true,[],[]⟩)) JG)))⟩
@[simp] theorem ana:ZL Kr zC ⟨true,[3,0],[]⟩:=bn rfl
noncomputable abbrev D7 (C:aI) (s:WSt):Option AV:=CK C 0 (aT [.tmp 2]) [.sq Kr,.bk 0 ⟨true,[],[]⟩,.sq JG] zC s
def LW:aB:=zd (r (O 2 [i 1]))
def Bd:aB:=zd (s (s (O 13 [m 3,m 0,ln 0 14,lt 13 15]) (cc 16 (w .skip) (ee 0))) (s (B 1 (s (Q 19 [m 0,m 3,E (.eU (T 19) (T 20)),d 4 (m 21)] [4,3,0]) (s (O 22 [m 4,E (.bin .geq (T 22) (.c (.int .u8 97))),m 23,y 24 (m 4),y 24 (E (.bin .leq (T 25) (.c (.int .u8 122)))),pa 24 26,m 27,z 28 (m 4),z 28 (E (.bin .geq (T 29) (.c (.int .u8 48)))),z 28 (m 30),y 31 (m 4),y 31 (E (.bin .leq (T 32) (.c (.int .u8 57)))),z 28 (pa 31 33),po 28 34,nt 35]) (c 36 (r (O 2 [i 0])))))) (O 17 [m 3,adi 17 1,d 3 (m 18)])))
def L9:aB:=.loop ⟨true,[3,0],[]⟩ Bd
def XZ:WFn:=⟨1,[.tmp 2],zd (s (O 2 [i 0]) (s (s (O 5 [m 0,ln 0 5,lti 6 1,m 7,z 8 (m 0),z 8 (ln 0 9),z 8 (gti 10 16),po 8 11]) (c 12 (r (O 2 [i 0])))) (s (s (O 3 [i 0]) (bk 0 L9 ⟨true,[],[]⟩)) LW)))⟩
@[simp] theorem an0:ZL L9 Bd ⟨true,[3,0],[]⟩:=bn rfl
noncomputable abbrev Eb (C:aI) (s:WSt):Option AV:=CK C 0 (aT [.tmp 2]) [.sq L9,.bk 0 ⟨true,[],[]⟩,.sq LW] Bd s
def Na:aB:=zd (r (O 2 [i 0]))
def zu:aB:=zd (s (s (O 19 [m 3,f 3 1,l 1 20,ln 1 21,lt 19 22]) (cc 23 (w .skip) (ee 0))) (s (B 1 (s (O 26 [f 3 1,l 1 26,m 3,ix 1 27 28,l 1 29,ca 557 [30],nt 31]) (c 32 (r (O 2 [i 6]))))) (O 24 [m 3,adi 24 1,d 3 (m 25)])))
def NY:aB:=.loop ⟨true,[3,1],[]⟩ zu
def Ro:WFn:=⟨1,[.tmp 2],zd (s (O 1 [bx 0,i 0]) (s (s (Q 4 [f 0 1,l 1 4,E (.bin .eql (T 5) (.c (.int .u64 0))),m 6,z 7 (f 2 1),z 7 (l 1 8),z 7 (ca 556 [9]),z 7 (nt 10),po 7 11,m 12,z 13 (f 3 1),z 13 (l 1 14),z 13 (ln 1 15),z 13 (gti 16 8),po 13 17] [18,1]) (c 18 (r (O 2 [i 6])))) (s (s (O 3 [i 0]) (bk 0 NY ⟨true,[],[]⟩)) Na)))⟩
@[simp] theorem anQ:ZL NY zu ⟨true,[3,1],[]⟩:=bn rfl
noncomputable abbrev FB (C:aI) (s:WSt):Option AV:=CK C 0 (aT [.tmp 2]) [.sq NY,.bk 0 ⟨true,[],[]⟩,.sq Na] zu s
def Eh:aB:=zd (r (O 89 [h 6 7,E (.aO [.int .u8 0,.str [],.str [],.ro 2 [] true,.str [],.ro 6 [] true] 1 [(0,T 89)]),d 4 (m 90)]))
def oD:aB:=zd (s (s (O 71 [m 8,f 5 2,l 1 72,ln 1 73,lt 71 74]) (cc 75 (w .skip) (ee 3))) (s (B 4 (V 78 [f 5 7,l 1 78,f 5 2,l 1 80,m 8,ix 6 81 82,h 6 83,h 4 3,ca 513 [84,85],E (.app [.int .u8 0,.str [],.str [],.ro 2 [] true,.str [],.ro 6 [] true] 104 false (T 79) (T 86)),f 5 7,n (st 1 88 87)] [(1,8)] ⟨false,[],[]⟩)) (O 76 [m 8,adi 76 1,d 8 (m 77)])))
def KC:aB:=.loop ⟨true,[8,7,3,2],[]⟩ oD
def N7:aB:=zd (s (V 62 [f 1 2,l 1 62,f 2 2,l 1 64,f 3 2,l 1 66,h 4 3,ca 559 [67,68],E (.build [.int .u8 0,.str [],.str [],.ro 2 [] true,.str [],.ro 6 [] true] [(0,1,.c (.int .u8 1)),(1,1,T 63),(2,1,T 65),(3,1,T 69)]),d 7 (E (.alloc [.int .u8 0,.str [],.str [],.ro 2 [] true,.str [],.ro 6 [] true])),n (st 6 7 70)] [(1,7),(3,7),(1,9),(3,9),(5,9),(6,9),(7,9)] ⟨false,[],[]⟩) (s (s (Q 8 [i 0] [8,7,3,2]) (bk 3 KC ⟨true,[7],[]⟩)) Eh))
def kY:aB:=zd (r (O 61 [m 5,d 4 (m 61)]))
def jU:aB:=zd (s (s (O 32 [m 6,f 3 3,l 1 33,ln 1 34,lt 32 35]) (cc 36 (w .skip) (ee 1))) (s (B 2 (U 39 [m 5,f 1 2,l 1 40,f 3 3,l 1 42,m 6,ix 1 43 44,l 1 45,f 3 2,l 1 47,h 4 3,ca 559 [48,49],f 3 3,l 1 51,m 6,ix 1 52 53,l 1 54,E (.build [.int .u8 0,.str [],.str [],.ro 2 [] true,.str [],.ro 6 [] true] [(0,1,.c (.int .u8 2)),(4,1,T 55)]),E (.aO [.int .u8 0,.str [],.str [],.ro 2 [] true,.str [],.ro 6 [] true] 1 [(0,T 56)]),E (.build [.int .u8 0,.str [],.str [],.ro 2 [] true,.str [],.ro 6 [] true] [(0,1,.c (.int .u8 1)),(1,1,T 41),(2,1,T 46),(3,1,T 50),(5,1,T 57)]),E (.aO [.int .u8 0,.str [],.str [],.ro 2 [] true,.str [],.ro 6 [] true] 1 [(0,T 58)]),E (.app [.int .u8 0,.str [],.str [],.ro 2 [] true,.str [],.ro 6 [] true] 104 false (T 39) (T 59)),d 5 (m 60)] [(2,11),(4,11),(7,11),(11,13),(11,16),(2,18),(4,18),(7,18),(9,18),(10,18),(11,18)] [6,5,3,2])) (O 37 [m 6,adi 37 1,d 6 (m 38)])))
def MB:aB:=.loop ⟨true,[6,5,3,2],[]⟩ jU
def Ph:WFn:=⟨2,[.tmp 4],zd (s (O 2 [bx 0,bx 1,E (.mv (.c (.ro 6 [] true)))]) (s (s (O 9 [f 0 2,l 1 9]) (bk 0 (s (O 12 [E (.bin .eql (T 10) (.c (.int .u8 2))),d 11 (m 12)]) (cc 11 (r (O 13 [f 4 2,l 1 13,E (.build [.int .u8 0,.str [],.str [],.ro 2 [] true,.str [],.ro 6 [] true] [(0,1,.c (.int .u8 2)),(4,1,T 14)]),E (.aO [.int .u8 0,.str [],.str [],.ro 2 [] true,.str [],.ro 6 [] true] 1 [(0,T 15)]),d 4 (m 16)])) (s (O 18 [E (.bin .eql (T 10) (.c (.int .u8 3))),d 17 (m 18)]) (cc 17 (r (O 19 [f 2 3,l 1 19,E (.build [.int .u8 0,.str [],.str [],.ro 2 [] true,.str [],.ro 6 [] true] [(0,1,.c (.int .u8 2)),(4,1,T 20)]),E (.aO [.int .u8 0,.str [],.str [],.ro 2 [] true,.str [],.ro 6 [] true] 1 [(0,T 21)]),d 4 (m 22)])) (s (O 24 [E (.bin .eql (T 10) (.c (.int .u8 4))),d 23 (m 24)]) (cc 23 (r (Q 25 [f 0 3,l 1 25,ca 558 [26],E (.build [.int .u8 0,.str [],.str [],.ro 2 [] true,.str [],.ro 6 [] true] [(0,1,.c (.int .u8 2)),(4,1,T 27)]),E (.aO [.int .u8 0,.str [],.str [],.ro 2 [] true,.str [],.ro 6 [] true] 1 [(0,T 28)]),d 4 (m 29)] [4])) (s (O 31 [E (.bin .eql (T 10) (.c (.int .u8 5))),d 30 (m 31)]) (c 30 (s (R 5 [E (.mv (.c (.ro 6 [] true)))] ⟨true,[5,3,2],[(5,6)]⟩) (s (s (O 6 [i 0]) (bk 1 MB ⟨true,[5],[]⟩)) kY)))))))))) ⟨true,[3,2],[]⟩)) N7))⟩
@[simp] theorem amO:ZL KC oD ⟨true,[8,7,3,2],[]⟩:=bn rfl
noncomputable abbrev nU (C:aI) (s:WSt):Option AV:=CK C 0 (aT [.tmp 4]) [.sq KC,.bk 3 ⟨true,[7],[]⟩,.sq Eh] oD s
@[simp] theorem am8:ZL MB jU ⟨true,[6,5,3,2],[]⟩:=bn rfl
noncomputable abbrev dw (C:aI) (s:WSt):Option AV:=CK C 0 (aT [.tmp 4]) [.sq MB,.bk 1 ⟨true,[5],[]⟩,.sq kY,.bk 0 ⟨true,[3,2],[]⟩,.sq N7] jU s
def J7:aB:=zd (r (O 6 [i 0]))
def mD:aB:=zd (s (s (O 9 [m 7,m 2,ln 1 10,lt 9 11]) (cc 12 (w .skip) (ee 0))) (s (B 1 (s (U 15 [m 1,m 2,m 7,ix 4 16 17,f 0 18,l 1 19,ca 239 [15,20],gei 21 0,m 22,z 23 (m 2),z 23 (m 7),z 23 (E (.slice 4 (T 24) none (some (T 25)) none)),z 23 (m 2),z 23 (m 7),z 23 (ix 4 27 28),z 23 (f 0 29),z 23 (l 1 30),z 23 (ca 423 [26,31]),z 23 (gei 32 0),po 23 33,ca 406 [34],d 8 (m 35)] [] [8,7,3,2,1]) (s (V 36 [h 2 3,m 2,m 7,ix 4 37 38,h 4 39,m 8,ca 271 [36,40,41],gti 42 0] [] ⟨false,[],[]⟩) (c 43 (r (V 44 [h 2 3,m 2,m 7,ix 4 45 46,h 4 47,m 8,ca 271 [44,48,49],d 6 (m 50)] [] ⟨false,[],[]⟩)))))) (O 13 [m 7,adi 13 1,d 7 (m 14)])))
def Mc:aB:=.loop ⟨true,[7,3,2,1],[]⟩ mD
def ae1:WFn:=⟨3,[.tmp 6],zd (s (O 6 [d 3 (bx 0),i 0]) (s (s (O 7 [i 0]) (bk 0 Mc ⟨true,[],[]⟩)) J7))⟩
@[simp] theorem am7:ZL Mc mD ⟨true,[7,3,2,1],[]⟩:=bn rfl
noncomputable abbrev nR (C:aI) (s:WSt):Option AV:=CK C 0 (aT [.tmp 6]) [.sq Mc,.bk 0 ⟨true,[],[]⟩,.sq J7] mD s
def acj:WFn:=⟨1,[.tmp 1],zd (s (O 1 [ff]) (r (O 2 [f 2 0,l 1 2,ln 0 3,lei 4 64,m 5,y 6 (f 2 0),y 6 (l 1 7),y 6 (E (.call 495 [T 8,.c (.fn 496 [])])),y 6 (nt 9),pa 6 10,d 1 (m 11)])))⟩
def YG:WFn:=⟨2,[.tmp 4],zd (s (O 4 [ff]) (r (O 5 [m 0,m 1,ca 543 [5,6],gei 7 0,d 4 (m 8)])))⟩
def Si:WFn:=⟨1,[.tmp 2],zd (s (O 2 [ff]) (r (O 3 [m 0,E (.bin .lss (T 3) (.c (.int .i32 32))),m 4,z 5 (m 0),z 5 (E (.bin .gtr (T 6) (.c (.int .i32 126)))),po 5 7,d 2 (m 8)])))⟩
def aaT:WFn:=⟨1,[.tmp 1],zd (s (O 1 [ff]) (r (O 2 [f 3 0,l 1 2,ln 1 3,lei 4 8,m 5,y 6 (f 3 0),y 6 (l 1 7),y 6 (E (.call 498 [T 8,.c (.fn 499 [])])),y 6 (nt 9),pa 6 10,d 1 (m 11)])))⟩
def abX:WFn:=⟨2,[.tmp 4],zd (s (O 4 [ff]) (r (O 5 [m 0,m 1,ca 544 [5,6],gei 7 0,d 4 (m 8)])))⟩
def agH:WFn:=⟨1,[.tmp 2],zd (s (O 2 [ff]) (r (O 3 [m 0,ca 500 [3],nt 4,d 2 (m 5)])))⟩
def Ye:WFn:=⟨1,[.tmp 2],zd (s (O 2 [ff]) (s (O 3 [E (.mv (.c (.fn 545 [])))]) (r (O 4 [m 0,E (.bin .neq (T 4) (.c (.str []))),m 5,y 6 (m 0),y 6 (ln 0 7),y 6 (lei 8 16),pa 6 9,m 10,y 11 (m 0),y 11 (m 3),y 11 (ca 495 [12,13]),y 11 (nt 14),pa 11 15,d 2 (m 16)]))))⟩
def Ij:WFn:=⟨3,[.cell 6 6 true,.tmp 7],zd (s (O 6 [d 3 (bx 0),d 4 (bx 1),E (.alloc [.int .u8 0,.str [],.str [],.ro 2 [] true,.str [],.ro 6 [] true]),i 0]) (s (s (Q 12 [m 2,lti 12 1,m 13,z 14 (m 2),z 14 (gti 15 64),po 14 16] [17,6,4,3,2]) (c 17 (r (O 18 [E (.build [.int .u8 0,.str [],.str [],.ro 2 [] true,.str [],.ro 6 [] true] []),n (st 6 6 18),d 7 (i 1)])))) (s (s (O 19 [h 6 3,ca 231 [19],d 8 (m 20)]) (s (O 21 [m 8,nei 21 0]) (c 22 (r (O 23 [E (.build [.int .u8 0,.str [],.str [],.ro 2 [] true,.str [],.ro 6 [] true] []),m 8,n (st 6 6 23),d 7 (m 24)]))))) (s (s (O 25 [h 4 4,ca 546 [25],d 9 (m 26)]) (s (O 27 [m 9,nei 27 0]) (c 28 (r (O 29 [E (.build [.int .u8 0,.str [],.str [],.ro 2 [] true,.str [],.ro 6 [] true] []),m 9,n (st 6 6 29),d 7 (m 30)]))))) (s (Q 31 [h 4 4,E (.build [.int .u64 0,.int .u8 0,.str [],.ro 1 [] true] [(0,4,T 31)]),h 6 3,E (.aO [.int .u8 0,.str [],.str [],.ro 3 [] true,.str [],.ro 6 [] true] 1 [(0,T 33)]),ca 547 [32,34],E (.idxs 6 (T 35) (N 0)),h 6 36,d 10 (E (.alloc [.int .u8 0,.str [],.str [],.ro 2 [] true,.str [],.ro 6 [] true])),n (st 6 10 37)] [10,6,2]) (s (s (O 38 [h 6 10,ca 140 [38],d 11 (m 39)]) (s (O 40 [m 11,eqi 40 0,m 41,z 42 (m 11),z 42 (m 2),z 42 (gt 43 44),po 42 45]) (c 46 (r (O 47 [E (.build [.int .u8 0,.str [],.str [],.ro 2 [] true,.str [],.ro 6 [] true] []),n (st 6 6 47),d 7 (i 14)]))))) (r (O 48 [h 6 10,n (st 6 6 48),d 7 (i 0)]))))))))⟩
def ae0:WFn:=⟨3,[.cell 6 1 true,.tmp 7],zd (s (O 3 [bx 0,bx 1,bx 2,E (.alloc [.ro 6 [] true]),i 0]) (r (O 8 [h 2 3,h 1 4,f 1 5,l 1 10,f 4 5,l 1 12,ca 109 [8,9,11,13],ex 0 14,ex 1 14,n (st 1 6 15),d 7 (m 16)])))⟩
def af0:WFn:=⟨3,[.cell 6 1 true,.tmp 7],zd (s (O 3 [bx 0,bx 1,bx 2,E (.alloc [.ro 6 [] true]),i 0]) (r (O 8 [h 2 3,h 1 4,f 1 5,l 1 10,f 2 5,l 1 12,ca 110 [8,9,11,13],ex 0 14,ex 1 14,n (st 1 6 15),d 7 (m 16)])))⟩
def adh:WFn:=⟨3,[.cell 6 1 true,.tmp 7],zd (s (O 3 [bx 0,bx 1,bx 2,E (.alloc [.ro 6 [] true]),i 0]) (r (O 8 [h 2 3,h 1 4,f 1 5,l 1 10,f 2 5,l 1 12,f 3 5,l 1 14,ca 237 [8,9,11,13,15],ex 0 16,ex 1 16,n (st 1 6 17),d 7 (m 18)])))⟩
def afF:WFn:=⟨3,[.cell 6 1 true,.tmp 7],zd (s (O 3 [bx 0,bx 1,bx 2,E (.alloc [.ro 6 [] true]),i 0]) (r (O 8 [h 2 3,h 1 4,f 1 5,l 1 10,f 4 5,l 1 12,ca 114 [8,9,11,13],ex 0 14,ex 1 14,n (st 1 6 15),d 7 (m 16)])))⟩
def adr:WFn:=⟨3,[.cell 6 1 true,.tmp 7],zd (s (O 3 [bx 0,bx 1,bx 2,E (.alloc [.ro 6 [] true]),i 0]) (r (O 8 [h 2 3,h 1 4,f 4 5,l 1 10,ca 108 [8,9,11],ex 0 12,ex 1 12,n (st 1 6 13),d 7 (m 14)])))⟩
def MR:aB:=zd (r (O 27 [m 3,E (.cvt .i64 (T 27)),d 2 (m 28)]))
def sW:aB:=zd (s (s (O 5 [m 4,m 0,ln 1 6,lt 5 7]) (cc 8 (w .skip) (ee 0))) (s (B 1 (s (s (Q 11 [m 0,m 4,ix 6 11 12,f 4 13,l 1 14,gti 15 0] [16,4,3,0]) (c 16 (O 17 [m 3,m 0,m 4,ix 6 18 19,f 4 20,l 1 21,E (.cvt .u64 (T 22)),ad 17 23,d 3 (m 24)]))) (s (O 25 [m 3,E (.bin .gtr (T 25) (.c (.int .u64 4611686018427387904)))]) (c 26 (r (O 2 [i 4611686018427387905])))))) (O 9 [m 4,adi 9 1,d 4 (m 10)])))
def MC:aB:=.loop ⟨true,[4,3,0],[]⟩ sW
def afe:WFn:=⟨1,[.tmp 2],zd (s (O 2 [i 0]) (s (O 3 [E (.mv (.c (.int .u64 0)))]) (s (s (O 4 [i 0]) (bk 0 MC ⟨true,[3],[]⟩)) MR)))⟩
@[simp] theorem am2:ZL MC sW ⟨true,[4,3,0],[]⟩:=bn rfl
noncomputable abbrev xw (C:aI) (s:WSt):Option AV:=CK C 0 (aT [.tmp 2]) [.sq MC,.bk 0 ⟨true,[3],[]⟩,.sq MR] sW s
def ZB:WFn:=⟨2,[.tmp 4],zd (s (O 3 [bx 1,i 0]) (s (s (O 7 [m 0,nk 7,f 0 8,l 1 9,E (.bin .neq (T 10) (.c (.int .u8 1)))]) (c 11 (r (O 4 [i 0])))) (s (O 5 [E (.alloc [.int .i64 0]),n (E (.store 1 (T 5) (N 0)))]) (s (O 6 [E (.alloc [.bK])]) (s (O 12 [E (.jE 548 [T 5,T 3,T 6]),n (st 1 6 12)]) (s (s (O 13 [l 1 6,m 0,E (.eu (T 13) [T 14,N 1]),nt 15]) (c 16 (r (O 4 [i 0])))) (r (O 17 [l 1 5,d 4 (m 17)]))))))))⟩
def afS:WFn:=⟨1,[],zd (w .skip)⟩
def Wp:WFn:=⟨1,[.tmp 2],zd (s (O 1 [bx 0,i 0]) (s (O 4 [h 6 1,E (.call 550 [T 4,N 6]),d 3 (m 5)]) (s (s (O 6 [f 0 1,l 1 6,E (.bin .neq (T 7) (.c (.int .u8 1))),m 8,z 9 (m 3),z 9 (gti 10 64),po 9 11]) (c 12 (r (O 2 [i 0])))) (r (O 13 [m 3,d 2 (m 13)])))))⟩
def YC:WFn:=⟨1,[.tmp 2],zd (s (O 2 [ff]) (r (O 3 [m 0,ln 0 3,lei 4 64,m 5,y 6 (m 0),y 6 (E (.call 543 [T 7,.c (.fn 560 [])])),y 6 (lti 8 0),pa 6 9,d 2 (m 10)])))⟩
def ND:aB:=zd (r (O 2 [tt]))
def yN:aB:=zd (s (O 15 [lt 14 13]) (s (cc 15 (w .skip) (ee 0)) (s (B 1 (s (O 16 [m 14,d 3 (m 16)]) (s (O 17 [m 0,m 3,E (.eU (T 17) (T 18)),ca 561 [19],nt 20]) (c 21 (r (O 2 [ff])))))) (O 22 [adi 14 1,d 14 (m 22)]))))
def Lc:aB:=.loop ⟨true,[14,13,0],[]⟩ yN
def WS:WFn:=⟨1,[.tmp 2],zd (s (O 2 [ff]) (s (s (Q 4 [m 0,ln 0 4,lti 5 1,m 6,z 7 (m 0),z 7 (ln 0 8),z 7 (gti 9 16),po 7 10] [11,0]) (c 11 (r (O 2 [ff])))) (s (s (O 12 [m 0,ln 0 12,i 0]) (bk 0 Lc ⟨true,[],[]⟩)) ND)))⟩
@[simp] theorem amY:ZL Lc yN ⟨true,[14,13,0],[]⟩:=bn rfl
noncomputable abbrev Ej (C:aI) (s:WSt):Option AV:=CK C 0 (aT [.tmp 2]) [.sq Lc,.bk 0 ⟨true,[],[]⟩,.sq ND] yN s
def ZG:WFn:=⟨2,[.tmp 4],zd (s (O 4 [ff]) (r (O 5 [m 0,m 1,ca 562 [5,6],gei 7 0,d 4 (m 8)])))⟩
def aac:WFn:=⟨2,[.tmp 3],zd (s (O 2 [bx 0,ff]) (r (O 4 [f 2 2,l 1 4,f 2 1,l 1 6,eq 5 7,d 3 (m 8)])))⟩
def Ey:aB:=zd (r (O 35 [m 5,d 4 (m 35)]))
def xC:aB:=zd (s (s (Q 14 [m 6,f 5 2,l 1 15,ln 1 16,lt 14 17,m 18,y 19 (m 5),y 19 (lei 20 64),pa 19 21] [22,6,5,2,1]) (cc 22 (w .skip) (ee 0))) (s (B 1 (O 25 [m 5,f 5 2,l 1 26,m 6,ix 6 27 28,h 6 29,m 1,sbi 31 1,ca 520 [30,32],ad 25 33,d 5 (m 34)])) (O 23 [m 6,adi 23 1,d 6 (m 24)])))
def KT:aB:=.loop ⟨true,[6,5,2,1],[]⟩ xC
def Xu:WFn:=⟨2,[.tmp 4],zd (s (O 4 [d 2 (bx 0),i 0]) (s (s (O 7 [m 1,lti 7 1,m 8,z 9 (h 6 2),z 9 (ca 563 [10]),z 9 (nt 11),po 9 12]) (c 13 (r (O 4 [i 1000])))) (s (O 5 [i 1]) (s (s (O 6 [i 0]) (bk 0 KT ⟨true,[5],[]⟩)) Ey))))⟩
@[simp] theorem amG:ZL KT xC ⟨true,[6,5,2,1],[]⟩:=bn rfl
noncomputable abbrev zq (C:aI) (s:WSt):Option AV:=CK C 0 (aT [.tmp 4]) [.sq KT,.bk 0 ⟨true,[5],[]⟩,.sq Ey] xC s
def LV:aB:=zd (r (O 2 [tt]))
def yS:aB:=zd (s (s (O 7 [m 3,m 0,ln 0 8,lt 7 9]) (cc 10 (w .skip) (ee 0))) (s (B 1 (s (O 13 [m 0,m 3,E (.eU (T 13) (T 14)),E (.bin .lss (T 15) (.c (.int .u8 32))),m 16,z 17 (m 0),z 17 (m 3),z 17 (E (.eU (T 18) (T 19))),z 17 (E (.bin .gtr (T 20) (.c (.int .u8 126)))),po 17 21]) (c 22 (r (O 2 [ff]))))) (O 11 [m 3,adi 11 1,d 3 (m 12)])))
def NW:aB:=.loop ⟨true,[3,0],[]⟩ yS
def Zh:WFn:=⟨1,[.tmp 2],zd (s (O 2 [ff]) (s (s (Q 4 [m 0,ln 0 4,gti 5 64] [6,0]) (c 6 (r (O 2 [ff])))) (s (s (O 3 [i 0]) (bk 0 NW ⟨true,[],[]⟩)) LV)))⟩
@[simp] theorem anj:ZL NW yS ⟨true,[3,0],[]⟩:=bn rfl
noncomputable abbrev ET (C:aI) (s:WSt):Option AV:=CK C 0 (aT [.tmp 2]) [.sq NW,.bk 0 ⟨true,[],[]⟩,.sq LV] yS s
def xW:aB:=zd (r (O 36 [m 0,ln 0 36,gei 37 1,m 38,y 39 (m 0),y 39 (ln 0 40),y 39 (lei 41 16),pa 39 42,d 2 (m 43)]))
def zi:aB:=zd (s (s (O 4 [m 3,m 0,ln 0 5,lt 4 6,m 7,y 8 (m 3),y 8 (lti 9 17),pa 8 10]) (cc 11 (w .skip) (ee 0))) (s (B 1 (s (Q 14 [m 0,m 3,E (.eU (T 14) (T 15)),E (.bin .lss (T 16) (.c (.int .u8 97))),m 17,z 18 (m 0),z 18 (m 3),z 18 (E (.eU (T 19) (T 20))),z 18 (E (.bin .gtr (T 21) (.c (.int .u8 122)))),po 18 22,m 23,y 24 (m 0),y 24 (m 3),y 24 (E (.eU (T 25) (T 26))),y 24 (E (.bin .lss (T 27) (.c (.int .u8 48)))),y 24 (m 28),z 29 (m 0),z 29 (m 3),z 29 (E (.eU (T 30) (T 31))),z 29 (E (.bin .gtr (T 32) (.c (.int .u8 57)))),y 24 (po 29 33),pa 24 34] [35,3,0]) (c 35 (r (O 2 [ff]))))) (O 12 [m 3,adi 12 1,d 3 (m 13)])))
def Ko:aB:=.loop ⟨true,[3,0],[]⟩ zi
def agJ:WFn:=⟨1,[.tmp 2],zd (s (O 2 [ff]) (s (s (O 3 [i 0]) (bk 0 Ko ⟨true,[0],[]⟩)) xW))⟩
@[simp] theorem am6:ZL Ko zi ⟨true,[3,0],[]⟩:=bn rfl
noncomputable abbrev Ep (C:aI) (s:WSt):Option AV:=CK C 0 (aT [.tmp 2]) [.sq Ko,.bk 0 ⟨true,[0],[]⟩,.sq xW] zi s
def acI:WFn:=⟨1,[.tmp 2],zd (s (O 2 [E (.mv (.c (.str [])))]) (s (s (O 3 [m 0,E (.bin .lss (T 3) (.c (.int .u64 10)))]) (c 4 (r (O 5 [m 0,m 0,E (.bin .add (T 6) (.c (.int .u64 1))),E (.slice 0 (.c (.str [48,49,50,51,52,53,54,55,56,57])) (some (T 5)) (some (T 7)) none),d 2 (m 8)])))) (r (O 9 [m 0,E (.bin .quo (T 9) (.c (.int .u64 10))),ca 558 [10],m 0,E (.bin .rem (T 12) (.c (.int .u64 10))),ca 558 [13],ad 11 14,d 2 (m 15)]))))⟩
def Fj:aB:=zd (r (O 50 [m 5,d 4 (m 50)]))
def Ap:aB:=zd (s (s (O 8 [m 6,m 0,ln 1 9,lt 8 10]) (cc 11 (w .skip) (ee 0))) (s (B 1 (s (O 14 [m 0,m 6,ix 3 14 15,f 2 16,l 1 17,d 7 (m 18)]) (s (s (O 19 [m 0,m 6,ix 3 19 20,f 1 21,l 1 22]) (B 2 (s (O 25 [E (.bin .eql (T 23) (.c (.int .u8 1))),d 24 (m 25)]) (cc 24 (O 26 [f 2 3,l 1 26,d 7 (m 27)]) (s (O 29 [E (.bin .eql (T 23) (.c (.int .u8 2))),d 28 (m 29)]) (cc 28 (O 30 [f 0 3,l 1 30,ca 558 [31],d 7 (m 32)]) (s (O 34 [E (.bin .eql (T 23) (.c (.int .u8 3))),d 33 (m 34)]) (c 33 (Q 35 [f 3 3,l 1 35,ln 1 36,E (.cvt .u64 (T 37)),ca 558 [38],d 7 (m 39)] [7,6,5,3,0]))))))))) (O 40 [m 5,m 0,m 6,ix 3 41 42,f 0 43,l 1 44,m 7,E (.build [.str [],.str []] [(0,1,T 45),(1,1,T 46)]),E (.aO [.str [],.str []] 1 [(0,T 47)]),E (.app [.str [],.str []] 32 false (T 40) (T 48)),d 5 (m 49)])))) (O 12 [m 6,adi 12 1,d 6 (m 13)])))
def JW:aB:=.loop ⟨true,[6,5,3,0],[]⟩ Ap
def adX:WFn:=⟨2,[.tmp 4],zd (s (Q 3 [bx 1,E (.mv (.c (.ro 2 [] true)))] [3,0]) (s (R 5 [E (.mv (.c (.ro 2 [] true)))] ⟨true,[5,3,0],[(5,2)]⟩) (s (s (O 6 [i 0]) (bk 0 JW ⟨true,[5],[]⟩)) Fj)))⟩
@[simp] theorem amy:ZL JW Ap ⟨true,[6,5,3,0],[]⟩:=bn rfl
noncomputable abbrev Em (C:aI) (s:WSt):Option AV:=CK C 0 (aT [.tmp 4]) [.sq JW,.bk 0 ⟨true,[5],[]⟩,.sq Fj] Ap s
def aeQ:WFn:=⟨2,[.tmp 4],zd (s (O 4 [i 0]) (r (O 5 [m 0,m 1,E (.call 578 [T 5,T 6,.c (.bool true)]),d 4 (m 7)])))⟩
def Ob:aB:=zd (r (O 4 [i (-1)]))
def vX:aB:=zd (s (O 9 [lt 8 7]) (s (cc 9 (w .skip) (ee 0)) (s (B 1 (s (O 10 [m 8,d 5 (m 10)]) (s (O 11 [m 1,m 0,m 5,ix 1 12 13,l 1 14,E (.eu (T 11) [T 15])]) (c 16 (r (O 17 [m 5,d 4 (m 17)])))))) (O 18 [adi 8 1,d 8 (m 18)]))))
def Ld:aB:=.loop ⟨true,[8,7,1,0],[]⟩ vX
def aee:WFn:=⟨2,[.tmp 4],zd (s (O 4 [i 0]) (s (s (O 6 [m 0,ln 1 6,i 0]) (bk 0 Ld ⟨true,[],[]⟩)) Ob))⟩
@[simp] theorem ang:ZL Ld vX ⟨true,[8,7,1,0],[]⟩:=bn rfl
noncomputable abbrev Aj (C:aI) (s:WSt):Option AV:=CK C 0 (aT [.tmp 4]) [.sq Ld,.bk 0 ⟨true,[],[]⟩,.sq Ob] vX s
def WR:WFn:=⟨1,[.tmp 2],zd (s (O 2 [ff]) (r (O 3 [m 0,E (.bin .lss (T 3) (.c (.int .i32 97))),m 4,z 5 (m 0),z 5 (E (.bin .gtr (T 6) (.c (.int .i32 122)))),po 5 7,m 8,y 9 (m 0),y 9 (E (.bin .lss (T 10) (.c (.int .i32 48)))),y 9 (m 11),z 12 (m 0),z 12 (E (.bin .gtr (T 13) (.c (.int .i32 57)))),y 9 (po 12 14),pa 9 15,d 2 (m 16)])))⟩
def Ti:WFn:=⟨1,[.tmp 2],zd (s (Q 1 [bx 0,i 0] [1]) (s (s (O 3 [f 0 1,l 1 3,E (.bin .eql (T 4) (.c (.int .u64 0))),m 5,z 6 (f 2 1),z 6 (l 1 7),z 6 (ca 579 [8]),z 6 (nt 9),po 6 10,m 11,z 12 (f 3 1),z 12 (l 1 13),z 12 (ln 1 14),z 12 (gti 15 8),po 12 16,m 17,z 18 (f 3 1),z 18 (l 1 19),z 18 (E (.call 498 [T 20,.c (.fn 580 [])])),po 18 21]) (c 22 (r (O 2 [i 6])))) (r (O 2 [i 0]))))⟩
def Ar:aB:=zd (r (O 81 [m 5,d 4 (m 81)]))
def qF:aB:=zd (O 80 [adi 12 1,d 12 (m 80)])
def yT:aB:=zd (s (O 66 [lt 65 64]) (s (cc 66 (w .skip) (ee 3)) (s (B 4 (s (O 67 [ix 1 63 65,l 1 67,d 9 (m 68)]) (U 69 [m 5,h 4 2,h 6 7,m 9,m 9,ca 583 [73],E (.aO [.int .u8 0,.str [],.str [],.ro 2 [] true,.str [],.ro 6 [] true] 1 [(0,T 74)]),ca 582 [70,71,72,75],E (.aO [.int .u8 0,.str [],.str [],.ro 2 [] true,.str [],.ro 6 [] true] 1 [(0,T 76)]),E (.app [.int .u8 0,.str [],.str [],.ro 2 [] true,.str [],.ro 6 [] true] 104 false (T 69) (T 77)),d 5 (m 78)] [(1,5),(2,5),(1,6),(2,6)] [65,64,63,12,11,10,7,5,2]))) (O 79 [adi 65 1,d 65 (m 79)]))))
def LM:aB:=.loop ⟨true,[65,64,63,12,11,10,7,5,2],[]⟩ yT
def oq:aB:=zd (s (O 13 [lt 12 11]) (s (cc 13 (w .skip) (ee 0)) (s (bk 1 (s (Q 14 [ix 6 10 12,h 6 14,d 7 (E (.alloc [.int .u8 0,.str [],.str [],.ro 3 [] true,.str [],.ro 6 [] true])),n (st 6 7 15)] [12,11,10,7,5,2]) (s (O 16 [f 0 7,l 1 16]) (bk 2 (s (O 19 [E (.bin .eql (T 17) (.c (.int .u8 1))),d 18 (m 19)]) (cc 18 (V 20 [m 5,h 4 2,h 6 7,f 2 7,l 1 23,h 4 2,f 5 7,l 1 26,ca 547 [25,27],ca 582 [21,22,24,28],E (.aO [.int .u8 0,.str [],.str [],.ro 2 [] true,.str [],.ro 6 [] true] 1 [(0,T 29)]),E (.app [.int .u8 0,.str [],.str [],.ro 2 [] true,.str [],.ro 6 [] true] 104 false (T 20) (T 30)),d 5 (m 31)] [(1,8),(2,8),(4,8)] ⟨false,[],[]⟩) (s (O 33 [E (.bin .eql (T 17) (.c (.int .u8 2))),d 32 (m 33)]) (cc 32 (Q 34 [m 5,f 4 7,l 1 35,ca 583 [36],E (.aO [.int .u8 0,.str [],.str [],.ro 2 [] true,.str [],.ro 6 [] true] 1 [(0,T 37)]),E (.app [.int .u8 0,.str [],.str [],.ro 2 [] true,.str [],.ro 6 [] true] 104 false (T 34) (T 38)),d 5 (m 39)] [12,11,10,5,2]) (s (O 41 [E (.bin .eql (T 17) (.c (.int .u8 3))),d 40 (m 41)]) (cc 40 (O 42 [m 5,f 0 2,f 2 43,l 1 44,ca 583 [45],E (.aO [.int .u8 0,.str [],.str [],.ro 2 [] true,.str [],.ro 6 [] true] 1 [(0,T 46)]),E (.app [.int .u8 0,.str [],.str [],.ro 2 [] true,.str [],.ro 6 [] true] 104 false (T 42) (T 47)),d 5 (m 48)]) (s (O 50 [E (.bin .eql (T 17) (.c (.int .u8 4))),d 49 (m 50)]) (cc 49 (O 51 [m 5,f 0 2,f 0 52,l 1 53,ca 584 [54],ca 583 [55],E (.aO [.int .u8 0,.str [],.str [],.ro 2 [] true,.str [],.ro 6 [] true] 1 [(0,T 56)]),E (.app [.int .u8 0,.str [],.str [],.ro 2 [] true,.str [],.ro 6 [] true] 104 false (T 51) (T 57)),d 5 (m 58)]) (s (O 60 [E (.bin .eql (T 17) (.c (.int .u8 5))),d 59 (m 60)]) (c 59 (s (O 61 [f 0 2,f 3 61,l 1 62,ln 1 63,i 0]) (bk 3 LM ⟨true,[12,11,10,5,2],[]⟩)))))))))))) ⟨true,[12,11,10,5,2],[]⟩))) ⟨true,[12,11,10,5,2],[]⟩) qF)))
def EG:aB:=.loop ⟨true,[12,11,10,5,2],[]⟩ oq
def afG:WFn:=⟨2,[.tmp 4],zd (s (O 4 [d 2 (bx 0),E (.mv (.c (.ro 6 [] true)))]) (s (R 5 [E (.mv (.c (.ro 6 [] true)))] ⟨true,[5,2,1],[(5,6)]⟩) (s (s (O 10 [m 1,ln 1 10,i 0]) (bk 0 EG ⟨true,[5],[]⟩)) Ar)))⟩
@[simp] theorem ant:ZL LM yT ⟨true,[65,64,63,12,11,10,7,5,2],[]⟩:=bn rfl
noncomputable abbrev EX (C:aI) (s:WSt):Option AV:=CK C 0 (aT [.tmp 4]) [.sq LM,.bk 3 ⟨true,[12,11,10,5,2],[]⟩,.bk 2 ⟨true,[12,11,10,5,2],[]⟩,.bk 1 ⟨true,[12,11,10,5,2],[]⟩,.sq qF,.sq EG,.bk 0 ⟨true,[5],[]⟩,.sq Ar] yT s
@[simp] theorem anF:ZL EG oq ⟨true,[12,11,10,5,2],[]⟩:=bn rfl
noncomputable abbrev jT (C:aI) (s:WSt):Option AV:=CK C 0 (aT [.tmp 4]) [.sq EG,.bk 0 ⟨true,[5],[]⟩,.sq Ar] oq s
def LX:aB:=zd (r (O 7 [tt]))
def wQ:aB:=zd (s (O 31 [lt 30 29]) (s (cc 31 (w .skip) (ee 0)) (s (B 1 (s (O 32 [m 30,d 8 (m 32)]) (s (V 33 [l 1 4,m 0,nk 34,f 5 35,l 1 36,m 8,ix 6 37 38,m 1,adi 40 1,E (.eu (T 33) [T 39,T 41]),nt 42] [] ⟨false,[],[]⟩) (c 43 (r (O 7 [ff])))))) (O 44 [adi 30 1,d 30 (m 44)]))))
def La:aB:=.loop ⟨true,[30,29,4,1,0],[]⟩ wQ
def Rz:WFn:=⟨5,[.tmp 7],zd (s (O 7 [ff]) (s (O 9 [l 1 2,adi 9 1,n (st 1 2 10)]) (s (s (O 11 [m 1,gti 11 6,m 12,z 13 (l 1 2),z 13 (gti 14 64),po 13 15,m 16,z 17 (m 0),z 17 (ca 549 [18]),z 17 (nt 19),po 17 20]) (c 21 (r (O 7 [ff])))) (s (O 22 [l 1 3,m 0,E (.eu (T 22) [T 23])]) (s (s (Q 25 [m 0,nk 25,f 5 26,l 1 27,ln 1 28,i 0] [30,29,4,1,0]) (bk 0 La ⟨true,[],[]⟩)) LX)))))⟩
@[simp] theorem amW:ZL La wQ ⟨true,[30,29,4,1,0],[]⟩:=bn rfl
def iW:WFn:=⟨1,[.tmp 2],zd (s (O 2 [ff]) (s (O 4 [m 0,nk 4,h 6 5,d 3 (E (.alloc [.int .u8 0,.str [],.str [],.ro 3 [] true,.str [],.ro 6 [] true])),n (st 6 3 6)]) (s (s (O 7 [m 0,nk 7,f 0 8,l 1 9]) (B 0 (s (B 5 (s (B 4 (s (B 3 (s (B 2 (s (B 1 (s (s (s (O 12 [E (.bin .eql (T 10) (.c (.int .u8 1))),d 11 (m 12)]) (c 11 (ee 1))) (s (s (O 14 [E (.bin .eql (T 10) (.c (.int .u8 5))),d 13 (m 14)]) (c 13 (ee 2))) (s (s (O 16 [E (.bin .eql (T 10) (.c (.int .u8 2))),d 15 (m 16)]) (c 15 (ee 3))) (s (s (O 18 [E (.bin .eql (T 10) (.c (.int .u8 3))),d 17 (m 18)]) (cc 17 (w .skip) (O 19 [E (.bin .eql (T 10) (.c (.int .u8 4))),d 17 (m 19)]))) (c 17 (ee 4)))))) (ee 5))) (s (s (Q 20 [m 0,nk 20,f 2 21,l 1 22,E (.bin .neq (T 23) (.c (.str []))),m 24,y 25 (m 0),y 25 (nk 26),y 25 (f 2 27),y 25 (l 1 28),y 25 (ca 581 [29]),y 25 (nt 30),pa 25 31,m 32,z 33 (m 0),z 33 (nk 34),z 33 (f 5 35),z 33 (l 1 36),z 33 (ln 1 37),z 33 (gti 38 16),po 33 39] [40,3,0]) (c 40 (r (O 2 [ff])))) (O 41 [f 2 3,n (E (.store 1 (T 41) (.c (.str [])))),f 5 3,n (E (.store 1 (T 42) (.c (.ro 6 [] true))))])))) (s (s (s (Q 43 [m 0,nk 43,f 1 44,l 1 45,ca 581 [46],nt 47,m 48,z 49 (m 0),z 49 (nk 50),z 49 (f 3 51),z 49 (l 1 52),z 49 (ca 585 [53]),z 49 (nt 54),po 49 55] [56,3]) (c 56 (r (O 2 [ff])))) (O 57 [f 1 3,n (E (.store 1 (T 57) (.c (.str [])))),f 3 3,n (E (.store 1 (T 58) (.c (.ro 3 [] true))))])) (ee 0)))) (s (s (s (O 59 [m 0,nk 59,f 4 60,l 1 61,ca 579 [62],nt 63]) (c 64 (r (O 2 [ff])))) (O 65 [f 4 3,n (E (.store 1 (T 65) (.c (.str []))))])) (ee 0)))) (ee 0))) (s (r (O 2 [ff])) (ee 0))))) (r (Q 66 [f 1 3,l 1 66,E (.bin .eql (T 67) (.c (.str []))),m 68,y 69 (f 2 3),y 69 (l 1 70),y 69 (E (.bin .eql (T 71) (.c (.str [])))),pa 69 72,m 73,y 74 (f 4 3),y 74 (l 1 75),y 74 (E (.bin .eql (T 76) (.c (.str [])))),pa 74 77,m 78,y 79 (f 3 3),y 79 (l 1 80),y 79 (ln 1 81),y 79 (eqi 82 0),pa 79 83,m 84,y 85 (f 5 3),y 85 (l 1 86),y 85 (ln 1 87),y 85 (eqi 88 0),pa 85 89,d 2 (m 90)] [2])))))⟩
def Ed:aB:=zd (r (O 35 [m 5,d 4 (m 35)]))
def wo:aB:=zd (s (s (Q 14 [m 6,f 5 2,l 1 15,ln 1 16,lt 14 17,m 18,y 19 (m 5),y 19 (lei 20 64),pa 19 21] [22,6,5,2,1]) (cc 22 (w .skip) (ee 0))) (s (B 1 (O 25 [m 5,f 5 2,l 1 26,m 6,ix 6 27 28,h 6 29,m 1,sbi 31 1,ca 550 [30,32],ad 25 33,d 5 (m 34)])) (O 23 [m 6,adi 23 1,d 6 (m 24)])))
def L6:aB:=.loop ⟨true,[6,5,2,1],[]⟩ wo
def Xw:WFn:=⟨2,[.tmp 4],zd (s (O 4 [d 2 (bx 0),i 0]) (s (s (O 7 [m 1,lti 7 1,m 8,z 9 (h 6 2),z 9 (ca 586 [10]),z 9 (nt 11),po 9 12]) (c 13 (r (O 4 [i 1000])))) (s (O 5 [i 1]) (s (s (O 6 [i 0]) (bk 0 L6 ⟨true,[5],[]⟩)) Ed))))⟩
@[simp] theorem amm:ZL L6 wo ⟨true,[6,5,2,1],[]⟩:=bn rfl
noncomputable abbrev zK (C:aI) (s:WSt):Option AV:=CK C 0 (aT [.tmp 4]) [.sq L6,.bk 0 ⟨true,[5],[]⟩,.sq Ed] wo s
def TT:WFn:=⟨1,[.tmp 2],zd (s (O 2 [ff]) (r (O 3 [m 0,E (.bin .lss (T 3) (.c (.int .i32 32))),m 4,z 5 (m 0),z 5 (E (.bin .gtr (T 6) (.c (.int .i32 126)))),po 5 7,d 2 (m 8)])))⟩
def aer:WFn:=⟨1,[.tmp 2],zd (s (O 2 [ff]) (r (O 3 [m 0,E (.bin .geq (T 3) (.c (.int .u8 97))),m 4,y 5 (m 0),y 5 (E (.bin .leq (T 6) (.c (.int .u8 122)))),pa 5 7,m 8,z 9 (m 0),z 9 (E (.bin .geq (T 10) (.c (.int .u8 48)))),z 9 (m 11),y 12 (m 0),y 12 (E (.bin .leq (T 13) (.c (.int .u8 57)))),z 9 (pa 12 14),po 9 15,d 2 (m 16)])))⟩
def JY:aB:=zd (r (O 4 [i (-1)]))
def vV:aB:=zd (s (O 9 [lt 8 7]) (s (cc 9 (w .skip) (ee 0)) (s (B 1 (s (O 10 [m 8,d 5 (m 10)]) (s (O 11 [m 1,m 0,m 5,ix 6 12 13,h 6 14,E (.eu (T 11) [T 15])]) (c 16 (r (O 17 [m 5,d 4 (m 17)])))))) (O 18 [adi 8 1,d 8 (m 18)]))))
def Kt:aB:=.loop ⟨true,[8,7,1,0],[]⟩ vV
def aeo:WFn:=⟨2,[.tmp 4],zd (s (O 4 [i 0]) (s (s (O 6 [m 0,ln 1 6,i 0]) (bk 0 Kt ⟨true,[],[]⟩)) JY))⟩
@[simp] theorem amQ:ZL Kt vV ⟨true,[8,7,1,0],[]⟩:=bn rfl
noncomputable abbrev zO (C:aI) (s:WSt):Option AV:=CK C 0 (aT [.tmp 4]) [.sq Kt,.bk 0 ⟨true,[],[]⟩,.sq JY] vV s
def Ec:aB:=zd (r (O 2 [tt]))
def JJ:aB:=zd (O 120 [m 5,adi 120 1,d 5 (m 121)])
def AZ:aB:=zd (s (s (O 122 [m 6,m 5,lt 122 123]) (cc 124 (w .skip) (ee 6))) (s (B 7 (s (U 127 [f 5 1,l 1 127,m 5,ix 6 128 129,f 2 130,l 1 131,E (.bin .neq (T 132) (.c (.str []))),m 133,y 134 (f 5 1),y 134 (l 1 135),y 134 (m 5),y 134 (ix 6 136 137),y 134 (f 2 138),y 134 (l 1 139),y 134 (f 5 1),y 134 (l 1 141),y 134 (m 6),y 134 (ix 6 142 143),y 134 (f 2 144),y 134 (l 1 145),y 134 (eq 140 146),pa 134 147] [] [148,6,5,1]) (c 148 (r (O 2 [ff]))))) (O 125 [m 6,adi 125 1,d 6 (m 126)])))
def MH:aB:=.loop ⟨true,[6,5,1],[]⟩ AZ
def yM:aB:=zd (s (s (O 115 [m 5,f 5 1,l 1 116,ln 1 117,lt 115 118]) (cc 119 (w .skip) (ee 4))) (s (bk 5 (s (O 6 [i 0]) (bk 6 MH ⟨true,[5,1],[]⟩)) ⟨true,[5,1],[]⟩) JJ))
def Fg:aB:=.loop ⟨true,[5,1],[]⟩ yM
def EP:aB:=zd (s (s (O 5 [i 0]) (bk 4 Fg ⟨true,[],[]⟩)) Ec)
def LC:aB:=zd (O 77 [m 3,adi 77 1,d 3 (m 78)])
def sH:aB:=zd (s (s (O 97 [m 4,m 3,lt 97 98]) (cc 99 (w .skip) (ee 2))) (s (B 3 (s (U 102 [f 3 1,l 1 102,m 4,ix 2 103 104,f 0 105,l 1 106,f 3 1,l 1 108,m 3,ix 2 109 110,f 0 111,l 1 112,ge 107 113] [] [114,4,3,1]) (c 114 (r (O 2 [ff]))))) (O 100 [m 4,adi 100 1,d 4 (m 101)])))
def Kv:aB:=.loop ⟨true,[4,3,1],[]⟩ sH
def uJ:aB:=zd (s (s (Q 72 [m 3,f 3 1,l 1 73,ln 1 74,lt 72 75] [76,3,1]) (cc 76 (w .skip) (ee 0))) (s (bk 1 (s (s (O 79 [f 3 1,l 1 79,m 3,ix 2 80 81,f 0 82,l 1 83,ca 557 [84],nt 85,m 86,z 87 (f 3 1),z 87 (l 1 88),z 87 (m 3),z 87 (ix 2 89 90),z 87 (f 1 91),z 87 (l 1 92),z 87 (ca 556 [93]),z 87 (nt 94),po 87 95]) (c 96 (r (O 2 [ff])))) (s (O 4 [i 0]) (bk 2 Kv ⟨true,[3,1],[]⟩))) ⟨true,[3,1],[]⟩) LC))
def D5:aB:=.loop ⟨true,[3,1],[]⟩ uJ
def xZ:WFn:=⟨1,[.tmp 2],zd (s (O 1 [bx 0,ff]) (s (s (O 7 [f 0 1,l 1 7,E (.bin .eql (T 8) (.c (.int .u8 2)))]) (c 9 (r (Q 10 [f 4 1,l 1 10,ca 556 [11],m 12,y 13 (f 1 1),y 13 (l 1 14),y 13 (E (.bin .eql (T 15) (.c (.str [])))),pa 13 16,m 17,y 18 (f 2 1),y 18 (l 1 19),y 18 (E (.bin .eql (T 20) (.c (.str [])))),pa 18 21,m 22,y 23 (f 3 1),y 23 (l 1 24),y 23 (ln 1 25),y 23 (eqi 26 0),pa 23 27,m 28,y 29 (f 5 1),y 29 (l 1 30),y 29 (ln 1 31),y 29 (eqi 32 0),pa 29 33,d 2 (m 34)] [2])))) (s (s (Q 35 [f 0 1,l 1 35,E (.bin .neq (T 36) (.c (.int .u8 1))),m 37,z 38 (f 1 1),z 38 (l 1 39),z 38 (ca 557 [40]),z 38 (nt 41),po 38 42,m 43,z 44 (f 2 1),z 44 (l 1 45),z 44 (E (.bin .neq (T 46) (.c (.str [])))),z 44 (m 47),y 48 (f 2 1),y 48 (l 1 49),y 48 (ca 557 [50]),y 48 (nt 51),z 44 (pa 48 52),po 44 53,m 54,z 55 (f 4 1),z 55 (l 1 56),z 55 (E (.bin .neq (T 57) (.c (.str [])))),po 55 58,m 59,z 60 (f 3 1),z 60 (l 1 61),z 60 (ln 1 62),z 60 (gti 63 8),po 60 64,m 65,z 66 (f 5 1),z 66 (l 1 67),z 66 (ln 1 68),z 66 (gti 69 16),po 66 70] [71,1]) (c 71 (r (O 2 [ff])))) (s (s (O 3 [i 0]) (bk 0 D5 ⟨true,[1],[]⟩)) EP))))⟩
@[simp] theorem anV:ZL MH AZ ⟨true,[6,5,1],[]⟩:=bn rfl
noncomputable abbrev EC (C:aI) (s:WSt):Option AV:=CK C 0 (aT [.tmp 2]) [.sq MH,.bk 6 ⟨true,[5,1],[]⟩,.bk 5 ⟨true,[5,1],[]⟩,.sq JJ,.sq Fg,.bk 4 ⟨true,[],[]⟩,.sq Ec] AZ s
@[simp] theorem anq:ZL Fg yM ⟨true,[5,1],[]⟩:=bn rfl
noncomputable abbrev wK (C:aI) (s:WSt):Option AV:=CK C 0 (aT [.tmp 2]) [.sq Fg,.bk 4 ⟨true,[],[]⟩,.sq Ec] yM s
@[simp] theorem amP:ZL Kv sH ⟨true,[4,3,1],[]⟩:=bn rfl
noncomputable abbrev ql (C:aI) (s:WSt):Option AV:=CK C 0 (aT [.tmp 2]) [.sq Kv,.bk 2 ⟨true,[3,1],[]⟩,.bk 1 ⟨true,[3,1],[]⟩,.sq LC,.sq D5,.bk 0 ⟨true,[1],[]⟩,.sq EP] sH s
@[simp] theorem anB:ZL D5 uJ ⟨true,[3,1],[]⟩:=bn rfl
noncomputable abbrev oC (C:aI) (s:WSt):Option AV:=CK C 0 (aT [.tmp 2]) [.sq D5,.bk 0 ⟨true,[1],[]⟩,.sq EP] uJ s
def KE:aB:=zd (r (O 6 [i (-1)]))
def tu:aB:=zd (s (O 11 [E (.next (T 10)),ex 0 11]) (s (cc 12 (w .skip) (ee 0)) (B 1 (s (O 13 [ex 1 11,ex 2 11,d 7 (m 13),d 8 (m 14)]) (s (O 15 [m 1,m 8,E (.eu (T 15) [T 16]),m 2,E (.eqv 5 [] false (T 17) (T 18))]) (c 19 (r (O 20 [m 7,d 6 (m 20)]))))))))
def Ns:aB:=.loop ⟨true,[10,2,1],[]⟩ tu
def adG:WFn:=⟨3,[.tmp 6],zd (s (O 6 [i 0]) (s (s (O 9 [m 0,E (.range (T 9))]) (bk 0 Ns ⟨true,[],[]⟩)) KE))⟩
@[simp] theorem amT:ZL Ns tu ⟨true,[10,2,1],[]⟩:=bn rfl
noncomputable abbrev vY (C:aI) (s:WSt):Option AV:=CK C 0 (aT [.tmp 6]) [.sq Ns,.bk 0 ⟨true,[],[]⟩,.sq KE] tu s
def aeL:WFn:=⟨1,[.tmp 2],zd (s (O 2 [ff]) (r (O 3 [m 0,E (.build [.int .u8 0,.str [],.str [],.ro 2 [] true,.str [],.ro 6 [] true] [(0,1,.c (.int .u8 2)),(4,1,T 3)]),ca 439 [4],eqi 5 0,d 2 (m 6)])))⟩
def afk:WFn:=⟨1,[.tmp 2],zd (s (O 2 [ff]) (r (O 3 [m 0,ca 581 [3],nt 4,d 2 (m 5)])))⟩
def aeb:WFn:=⟨1,[.tmp 2],zd (s (O 2 [ff]) (r (O 3 [m 0,E (.build [.int .u8 0,.str [],.str [],.ro 2 [] true,.str [],.ro 6 [] true] [(0,1,.c (.int .u8 1)),(1,1,T 3)]),ca 439 [4],eqi 5 0,d 2 (m 6)])))⟩
def aeh:WFn:=⟨4,[.cell 8 6 true],zd (s (O 4 [bx 0,bx 1,d 8 (E (.alloc [.int .u8 0,.str [],.str [],.ro 2 [] true,.str [],.ro 6 [] true]))]) (r (V 9 [f 1 5,l 1 9,m 2,h 4 4,f 3 5,l 1 13,ca 592 [12,14],m 3,ca 593 [16],E (.build [.int .u8 0,.str [],.str [],.ro 2 [] true,.str [],.ro 6 [] true] [(0,1,.c (.int .u8 1)),(1,1,T 10),(2,1,T 11),(3,1,T 15),(5,1,T 17)]),n (st 6 8 18)] [(1,6),(1,8)] ⟨false,[],[]⟩)))⟩
def agA:WFn:=⟨1,[.cell 2 6 true],zd (s (O 2 [E (.alloc [.int .u8 0,.str [],.str [],.ro 2 [] true,.str [],.ro 6 [] true])]) (r (O 3 [m 0,E (.build [.int .u8 0,.str [],.str [],.ro 2 [] true,.str [],.ro 6 [] true] [(0,1,.c (.int .u8 2)),(4,1,T 3)]),n (st 6 2 4)])))⟩
def yQ:aB:=zd (B 1 (s (O 5 [m 4,sbi 5 1,d 4 (m 6)]) (s (O 7 [m 4,m 0,E (.bin .rem (T 8) (.c (.int .u64 10))),E (.eU (.c (.str [48,49,50,51,52,53,54,55,56,57])) (T 9)),E (.fK 20 1 (T 3) (T 7)),n (st 1 11 10)]) (s (O 12 [m 0,E (.bin .quo (T 12) (.c (.int .u64 10))),d 0 (m 13)]) (s (O 14 [m 0,E (.bin .eql (T 14) (.c (.int .u64 0)))]) (c 15 (r (O 16 [m 4,E (.gJ 20 (T 3) (some (T 16)) none),E (.cvb (T 17)),d 2 (m 18)]))))))))
def MF:aB:=.loop ⟨true,[4,3,0],[]⟩ yQ
def afN:WFn:=⟨1,[.tmp 2],zd (s (O 2 [E (.mv (.c (.str [])))]) (s (O 3 [E (.alloc (rep 20 (.int .u8 0)))]) (s (O 4 [i 20]) (bk 0 MF ⟨true,[2],[]⟩))))⟩
@[simp] theorem amH:ZL MF yQ ⟨true,[4,3,0],[]⟩:=bn rfl
noncomputable abbrev EI (C:aI) (s:WSt):Option AV:=CK C 0 (aT [.tmp 2]) [.sq MF,.bk 0 ⟨true,[2],[]⟩] yQ s
def Kz:aB:=zd (r (O 2 [tt]))
def AU:aB:=zd (s (O 11 [lt 10 9]) (s (cc 11 (w .skip) (ee 0)) (s (B 1 (s (O 12 [m 10,ix 3 8 10,h 3 13,d 4 (E (.alloc [.str [],.int .u8 0,.str []])),d 3 (m 12),n (st 3 4 14)]) (s (U 15 [f 0 4,l 1 15,ca 581 [16],nt 17,m 18,z 19 (f 1 4),z 19 (l 1 20),z 19 (E (.bin .gtr (T 21) (.c (.int .u8 3)))),po 19 22,m 23,z 24 (f 2 4),z 24 (l 1 25),z 24 (ca 579 [26]),z 24 (nt 27),po 24 28,m 29,z 30 (f 1 4),z 30 (l 1 31),z 30 (E (.bin .gtr (T 32) (.c (.int .u8 0)))),z 30 (m 33),y 34 (f 2 4),y 34 (l 1 35),y 34 (E (.bin .neq (T 36) (.c (.str [])))),z 30 (pa 34 37),po 30 38,m 39,z 40 (m 3),z 40 (gti 41 0),z 40 (m 42),y 43 (f 0 4),y 43 (l 1 44),y 43 (m 0),y 43 (m 3),y 43 (sbi 47 1),y 43 (ix 3 46 48),y 43 (f 0 49),y 43 (l 1 50),y 43 (le 45 51),z 40 (pa 43 52),po 40 53] [] [54,10,9,8,0]) (c 54 (r (O 2 [ff])))))) (O 55 [adi 10 1,d 10 (m 55)]))))
def Nw:aB:=.loop ⟨true,[10,9,8,0],[]⟩ AU
def acH:WFn:=⟨1,[.tmp 2],zd (s (O 2 [ff]) (s (s (O 5 [m 0,ln 1 5,gti 6 8]) (c 7 (r (O 2 [ff])))) (s (s (O 8 [m 0,ln 1 8,i 0]) (bk 0 Nw ⟨true,[],[]⟩)) Kz)))⟩
@[simp] theorem anm:ZL Nw AU ⟨true,[10,9,8,0],[]⟩:=bn rfl
noncomputable abbrev EJ (C:aI) (s:WSt):Option AV:=CK C 0 (aT [.tmp 2]) [.sq Nw,.bk 0 ⟨true,[],[]⟩,.sq Kz] AU s
def lZ:WFn:=⟨1,[.tmp 2],zd (s (O 1 [bx 0,ff]) (s (s (O 3 [f 0 1,l 1 3]) (B 0 (s (O 6 [E (.bin .eql (T 4) (.c (.int .u8 1))),d 5 (m 6)]) (cc 5 (r (Q 7 [f 1 1,l 1 7,ca 557 [8],m 9,y 10 (f 2 1),y 10 (l 1 11),y 10 (E (.bin .eql (T 12) (.c (.str [])))),y 10 (m 13),z 14 (f 2 1),z 14 (l 1 15),z 14 (ca 557 [16]),y 10 (po 14 17),pa 10 18,m 19,y 20 (f 3 1),y 20 (l 1 21),y 20 (ca 594 [22]),pa 20 23,m 24,y 25 (f 4 1),y 25 (l 1 26),y 25 (E (.bin .eql (T 27) (.c (.str [])))),pa 25 28,m 29,y 30 (f 5 1),y 30 (l 1 31),y 30 (ln 1 32),y 30 (lei 33 16),pa 30 34,d 2 (m 35)] [2])) (s (O 37 [E (.bin .eql (T 4) (.c (.int .u8 2))),d 36 (m 37)]) (cc 36 (r (Q 38 [f 4 1,l 1 38,ca 556 [39],m 40,y 41 (f 1 1),y 41 (l 1 42),y 41 (E (.bin .eql (T 43) (.c (.str [])))),pa 41 44,m 45,y 46 (f 2 1),y 46 (l 1 47),y 46 (E (.bin .eql (T 48) (.c (.str [])))),pa 46 49,m 50,y 51 (f 3 1),y 51 (l 1 52),y 51 (ln 1 53),y 51 (f 5 1),y 51 (l 1 55),y 51 (ln 1 56),y 51 (ad 54 57),y 51 (eqi 58 0),pa 51 59,d 2 (m 60)] [2])) (s (s (O 62 [E (.bin .eql (T 4) (.c (.int .u8 3))),d 61 (m 62)]) (cc 61 (w .skip) (O 63 [E (.bin .eql (T 4) (.c (.int .u8 4))),d 61 (m 63)]))) (cc 61 (r (Q 64 [f 4 1,l 1 64,E (.bin .eql (T 65) (.c (.str []))),m 66,y 67 (f 1 1),y 67 (l 1 68),y 67 (E (.bin .eql (T 69) (.c (.str [])))),pa 67 70,m 71,y 72 (f 2 1),y 72 (l 1 73),y 72 (E (.bin .eql (T 74) (.c (.str [])))),pa 72 75,m 76,y 77 (f 3 1),y 77 (l 1 78),y 77 (ln 1 79),y 77 (f 5 1),y 77 (l 1 81),y 77 (ln 1 82),y 77 (ad 80 83),y 77 (eqi 84 0),pa 77 85,d 2 (m 86)] [2])) (s (O 88 [E (.bin .eql (T 4) (.c (.int .u8 5))),d 87 (m 88)]) (c 87 (r (Q 89 [f 1 1,l 1 89,ca 557 [90],m 91,y 92 (f 3 1),y 92 (l 1 93),y 92 (ca 594 [94]),pa 92 95,m 96,y 97 (f 2 1),y 97 (l 1 98),y 97 (E (.bin .eql (T 99) (.c (.str [])))),pa 97 100,m 101,y 102 (f 4 1),y 102 (l 1 103),y 102 (E (.bin .eql (T 104) (.c (.str [])))),pa 102 105,m 106,y 107 (f 5 1),y 107 (l 1 108),y 107 (ln 1 109),y 107 (eqi 110 0),pa 107 111,d 2 (m 112)] [2])))))))))))) (r (O 2 [ff]))))⟩
def Fq:aB:=zd (r (O 44 [m 5,d 4 (m 44)]))
def wu:aB:=zd (s (O 14 [lt 13 12]) (s (cc 14 (w .skip) (ee 0)) (s (B 1 (s (O 15 [m 13,ix 3 11 13,h 3 16,d 7 (E (.alloc [.str [],.int .u8 0,.str []])),d 6 (m 15),n (st 3 7 17)]) (U 18 [m 5,m 6,f 0 7,l 1 20,f 2 7,l 1 22,f 0 2,f 2 24,l 1 25,f 0 2,f 0 27,l 1 28,ca 584 [29],f 0 2,f 3 31,l 1 32,ln 1 33,E (.cvt .u64 (T 34)),ca 584 [35],E (.build [.str [],.str [],.str [],.str []] [(0,1,T 23),(1,1,T 26),(2,1,T 30),(3,1,T 36)]),f 1 7,l 1 38,E (.uP 4 1 false (T 37) (T 39)),E (.build [.str [],.str []] [(0,1,T 21),(1,1,T 40)]),ix 2 18 19,n (st 2 42 41)] [(3,12),(5,12),(8,12),(12,15),(12,16),(3,18),(5,18),(8,18),(12,21),(18,21)] [13,12,11,5,2]))) (O 43 [adi 13 1,d 13 (m 43)]))))
def JH:aB:=.loop ⟨true,[13,12,11,5,2],[]⟩ wu
def Ze:WFn:=⟨2,[.tmp 4],zd (s (O 4 [d 2 (bx 0),E (.mv (.c (.ro 2 [] true)))]) (s (O 8 [m 1,ln 1 8,E (.oQ [.str [],.str []] 32 (T 9) (T 9)),d 5 (m 10)]) (s (s (O 11 [m 1,ln 1 11,i 0]) (bk 0 JH ⟨true,[5],[]⟩)) Fq)))⟩
@[simp] theorem an5:ZL JH wu ⟨true,[13,12,11,5,2],[]⟩:=bn rfl
noncomputable abbrev Fz (C:aI) (s:WSt):Option AV:=CK C 0 (aT [.tmp 4]) [.sq JH,.bk 0 ⟨true,[5],[]⟩,.sq Fq] wu s
def adb:WFn:=⟨1,[.tmp 2],zd (s (O 2 [E (.mv (.c (.ro 6 [] true)))]) (r (O 3 [m 0,m 0,ln 1 4,m 0,ln 1 6,E (.slice 6 (T 3) none (some (T 5)) (some (T 7))),d 2 (m 8)])))⟩
def NC:aB:=zd (r (O 2 [tt]))
def zf:aB:=zd (s (s (O 8 [m 3,m 0,ln 1 9,lt 8 10]) (cc 11 (w .skip) (ee 0))) (s (B 1 (s (O 14 [m 0,m 3,ix 3 14 15,h 3 16,d 4 (E (.alloc [.str [],.int .u8 0,.str []])),n (st 3 4 17)]) (s (U 18 [f 0 4,l 1 18,ca 557 [19],nt 20,m 21,z 22 (f 1 4),z 22 (l 1 23),z 22 (E (.bin .gtr (T 24) (.c (.int .u8 3)))),po 22 25,m 26,z 27 (f 2 4),z 27 (l 1 28),z 27 (ca 556 [29]),z 27 (nt 30),po 27 31,m 32,z 33 (f 1 4),z 33 (l 1 34),z 33 (E (.bin .neq (T 35) (.c (.int .u8 0)))),z 33 (m 36),y 37 (f 2 4),y 37 (l 1 38),y 37 (E (.bin .neq (T 39) (.c (.str [])))),z 33 (pa 37 40),po 33 41,m 42,z 43 (m 3),z 43 (gti 44 0),z 43 (m 45),y 46 (m 0),y 46 (m 3),y 46 (sbi 48 1),y 46 (ix 3 47 49),y 46 (f 0 50),y 46 (l 1 51),y 46 (f 0 4),y 46 (l 1 53),y 46 (ge 52 54),z 43 (pa 46 55),po 43 56] [] [57,3,0]) (c 57 (r (O 2 [ff])))))) (O 12 [m 3,adi 12 1,d 3 (m 13)])))
def NH:aB:=.loop ⟨true,[3,0],[]⟩ zf
def Y4:WFn:=⟨1,[.tmp 2],zd (s (O 2 [ff]) (s (s (O 5 [m 0,ln 1 5,gti 6 8]) (c 7 (r (O 2 [ff])))) (s (s (O 3 [i 0]) (bk 0 NH ⟨true,[],[]⟩)) NC)))⟩
@[simp] theorem anG:ZL NH zf ⟨true,[3,0],[]⟩:=bn rfl
noncomputable abbrev EY (C:aI) (s:WSt):Option AV:=CK C 0 (aT [.tmp 2]) [.sq NH,.bk 0 ⟨true,[],[]⟩,.sq NC] zf s
def tree:rM:=(.node (.node (.node (.node (.node (.node (.node (.node .leaf 0 w0 .leaf) 90 w90 .leaf) 108 aeZ (.node (.node .leaf 109 agD .leaf) 110 afo .leaf)) 111 aeC (.node (.node (.node .leaf 114 ac6 .leaf) 115 KY .leaf) 120 Ud (.node .leaf 122 Yi .leaf))) 126 adJ (.node (.node (.node (.node .leaf 130 ac7 .leaf) 140 afR .leaf) 158 alf (.node .leaf 159 al8 .leaf)) 160 YP (.node (.node (.node .leaf 161 acz .leaf) 162 akZ .leaf) 163 BF (.node .leaf 164 akQ .leaf)))) 171 X4 (.node (.node (.node (.node (.node .leaf 176 ak2 .leaf) 216 qU .leaf) 217 YL (.node .leaf 218 aei .leaf)) 219 aaE (.node (.node (.node .leaf 220 adH .leaf) 221 agv .leaf) 222 aeK (.node .leaf 223 Yl .leaf))) 224 adx (.node (.node (.node (.node .leaf 225 adl .leaf) 226 abH .leaf) 227 adt (.node .leaf 228 YD .leaf)) 229 adf (.node (.node (.node .leaf 230 Xx .leaf) 231 acP .leaf) 232 Zj (.node .leaf 237 ab2 .leaf))))) 239 aeW (.node (.node (.node (.node (.node (.node .leaf 240 agK .leaf) 241 YB .leaf) 242 WM (.node (.node .leaf 246 acJ .leaf) 247 adR .leaf)) 249 ae2 (.node (.node (.node .leaf 250 XD .leaf) 251 alY .leaf) 253 afA (.node .leaf 254 amd .leaf))) 256 afq (.node (.node (.node (.node .leaf 270 aga .leaf) 271 RU .leaf) 282 adE (.node .leaf 312 alR .leaf)) 313 adF (.node (.node (.node .leaf 314 alZ .leaf) 315 alK .leaf) 316 alC (.node .leaf 317 akU .leaf)))) 318 Oc (.node (.node (.node (.node (.node .leaf 319 ak8 .leaf) 320 alg .leaf) 321 Tc (.node .leaf 322 agd .leaf)) 323 af6 (.node (.node (.node .leaf 324 aav .leaf) 325 alL .leaf) 326 aff (.node .leaf 327 acy .leaf))) 333 Iq (.node (.node (.node (.node .leaf 336 Ii .leaf) 340 ac4 .leaf) 342 YU (.node .leaf 343 Lp .leaf)) 398 TF (.node (.node (.node .leaf 399 ac0 .leaf) 400 abd .leaf) 401 KL (.node .leaf 402 ab7 .leaf)))))) 403 agn (.node (.node (.node (.node (.node (.node (.node .leaf 404 aeg .leaf) 405 agm .leaf) 406 aeO (.node (.node .leaf 407 agt .leaf) 408 abf .leaf)) 409 aen (.node (.node (.node .leaf 410 acM .leaf) 411 adk .leaf) 412 afK (.node .leaf 422 GH .leaf))) 423 adY (.node (.node (.node (.node .leaf 424 PD .leaf) 425 Ip .leaf) 433 Ie (.node .leaf 434 yg .leaf)) 439 Zt (.node (.node (.node .leaf 441 Zk .leaf) 442 aaS .leaf) 452 ady (.node .leaf 455 ac5 .leaf)))) 457 adL (.node (.node (.node (.node (.node .leaf 459 agh .leaf) 460 ZX .leaf) 461 Qz (.node .leaf 462 aa2 .leaf)) 463 agL (.node (.node (.node .leaf 494 acj .leaf) 495 YG .leaf) 496 Si (.node .leaf 497 aaT .leaf))) 498 abX (.node (.node (.node (.node .leaf 499 agH .leaf) 500 Ye .leaf) 501 Ij (.node .leaf 502 ZB .leaf)) 503 afS (.node (.node (.node .leaf 504 afe .leaf) 505 Wp .leaf) 510 aam (.node .leaf 511 XZ .leaf))))) 512 Ro (.node (.node (.node (.node (.node (.node .leaf 513 Ph .leaf) 516 YC .leaf) 517 WS (.node (.node .leaf 518 ZG .leaf) 519 aac .leaf)) 520 Xu (.node (.node (.node .leaf 526 ae0 .leaf) 527 af0 .leaf) 528 adh (.node .leaf 529 afF .leaf))) 530 adr (.node (.node (.node (.node .leaf 532 ae1 .leaf) 543 aeQ .leaf) 544 aee (.node .leaf 545 WR .leaf)) 546 Ti (.node (.node (.node .leaf 547 afG .leaf) 548 Rz .leaf) 549 iW (.node .leaf 550 Xw .leaf)))) 556 Zh (.node (.node (.node (.node (.node .leaf 557 agJ .leaf) 558 acI .leaf) 559 adX (.node .leaf 560 TT .leaf)) 561 aer (.node (.node (.node .leaf 562 aeo .leaf) 563 xZ .leaf) 578 adG (.node .leaf 579 aeL .leaf))) 580 afk (.node (.node (.node (.node .leaf 581 aeb .leaf) 582 aeh .leaf) 583 agA (.node .leaf 584 afN .leaf)) 585 acH (.node (.node (.node .leaf 586 lZ .leaf) 592 Ze .leaf) 593 adb (.node .leaf 594 Y4 .leaf)))))))
def ids:List (Nat × Nat):=[(0,2),(90,6),(108,46),(109,47),(110,48),(111,49),(114,52),(115,53),(120,58),(122,60),(126,64),(130,10),(140,69),(158,42),(159,43),(160,33),(161,34),(162,44),(163,5),(164,38),(171,37),(176,114),(216,119),(217,120),(218,121),(219,122),(220,123),(221,124),(222,125),(223,88),(224,106),(225,126),(226,127),(227,128),(228,129),(229,130),(230,131),(231,132),(232,133),(237,138),(239,41),(240,77),(241,140),(242,141),(246,101),(247,145),(249,147),(250,148),(251,116),(253,108),(254,150),(256,32),(270,75),(271,76),(282,167),(312,109),(313,104),(314,110),(315,111),(316,112),(317,113),(318,36),(319,115),(320,117),(321,35),(322,102),(323,103),(324,39),(325,118),(326,11),(327,40),(333,92),(336,95),(340,89),(342,79),(343,105),(398,207),(399,208),(400,221),(401,222),(402,217),(403,218),(404,223),(405,224),(406,225),(407,220),(408,226),(409,227),(410,213),(411,228),(412,229),(422,188),(423,189),(424,190),(425,191),(433,245),(434,246),(439,251),(441,253),(442,254),(452,78),(455,211),(457,214),(459,209),(460,210),(461,192),(462,193),(463,194),(494,268),(495,269),(496,270),(497,271),(498,272),(499,273),(500,274),(501,275),(502,283),(503,284),(504,282),(505,285),(510,258),(511,259),(512,260),(513,261),(516,291),(517,292),(518,293),(519,294),(520,295),(526,276),(527,277),(528,278),(529,279),(530,280),(532,262),(543,303),(544,304),(545,305),(546,306),(547,307),(548,309),(549,310),(550,311),(556,299),(557,300),(558,301),(559,302),(560,316),(561,317),(562,318),(563,319),(578,320),(579,321),(580,322),(581,323),(582,324),(583,325),(584,326),(585,327),(586,328),(592,329),(593,330),(594,331)]
def alts:List (Nat × Nat × Nat):=[]
end P
end
section
namespace Go.Pw
open Go Go.Pav
@[simp] def eI (x:Int):List AV:=[.int .i64 x]
@[simp] def eU8 (x:Int):List AV:=[.int .u8 x]
@[simp] def asD (x:Int):List AV:=[.int .u64 x]
@[simp] def eS (x:List UInt8):List AV:=[.str x]
@[simp] def eB (x:Bool):List AV:=[.bool x]
attribute [simp] Int.natCast_inj
attribute [-simp] List.getElem_cons_drop
section
variable (a n:Nat)
@[simp] theorem ahe:((no_index (OfNat.ofNat a):Int) < (n:Int))=((no_index (OfNat.ofNat a):Nat) < n):=propext (Int.ofNat_lt (n:=(OfNat.ofNat a:Nat)) (m:=n))
@[simp] theorem ag6:((n:Int) < (no_index (OfNat.ofNat a):Int))=(n < (no_index (OfNat.ofNat a):Nat)):=propext (Int.ofNat_lt (m:=(OfNat.ofNat a:Nat)) (n:=n))
@[simp] theorem ahf:((no_index (OfNat.ofNat a):Int)≤(n:Int))=((no_index (OfNat.ofNat a):Nat)≤n):=propext (Int.ofNat_le (m:=(OfNat.ofNat a:Nat)) (n:=n))
@[simp] theorem ahn:((n:Int)≤(no_index (OfNat.ofNat a):Int))=(n≤(no_index (OfNat.ofNat a):Nat)):=propext (Int.ofNat_le (n:=(OfNat.ofNat a:Nat)) (m:=n))
end
theorem Bg {α β:Type} {f:α→β} {acc:List α} {n i:Nat} {z:β} (h:acc.length=i):(List.map f acc++List.replicate (n+1) z)[i]?=some z:=by
 rw [List.getElem?_append_right (by simp;omega)]
 simp [h]
theorem Am {α β:Type} {f:α→β} {acc:List α} {n i:Nat} {z v:β} (h:acc.length=i):(List.map f acc++List.replicate (n+1) z).set i v=List.map f acc++v::List.replicate n z:=by
 rw [List.set_append,if_neg (by simp;omega)]
 simp [h,List.replicate_succ]
@[simp] theorem asf (a b:Nat):(a+(b+1)≤a)=False:=eq_false (by omega)
theorem drop_cons {α:Type} {l:List α} {i:Nat} (h:i < l.length):l.drop i=l[i]::l.drop (i+1):=List.drop_eq_getElem_cons h
theorem I8 {α:Type} {g:α→Option α}:∀ {l:List α},(∀ x ∈ l,g x=some x)→bg g l=some l
 | [],_=>rfl
 | a::l,h=>by simp only [bg,h a List.mem_cons_self,ob,I8 fun x hx=>h x (List.mem_cons_of_mem _ hx),om]
@[simp] theorem amb (h:aJ) (n:Nat) (k:IntKind) (l:List Int):bg (bJ h (n+1)) (List.map (AV.int k) l)=some (List.map (AV.int k) l) :=
 I8 fun x hx=>by obtain ⟨y,_,rfl⟩:=List.mem_map.1 hx;rfl
@[simp] theorem agU (k:IntKind) (l:List Int):l.all (isC ∘ AV.int k)=true:=by simp [isC]
@[simp] theorem aeN (l:List Bool):l.all (isC ∘ AV.bool)=true:=by simp [isC]
attribute [simp] qN
@[simp] theorem amC:((fun x:AV=>[x]) ∘ AV.int .i64)=eI:=rfl
@[simp] theorem ac2 (a b:Nat):(a+b≤a)=(b=0):=propext (by omega)
theorem isE {α:Type} {l:List α} (h:¬ l=[]):l.isEmpty=false:=by cases l <;> simp_all
end Go.Pw
end
section
namespace Go.D
open Go Go.Pav Go.Pw P
attribute [-simp] List.getElem_cons_drop
variable {C:aI}
def inN (b:UInt8):Bool:=decide (97≤b.toNat∧b.toNat≤122∨48≤b.toNat∧b.toNat≤57)
def inT (b:UInt8):Bool:=decide (32≤b.toNat∧b.toNat≤126)
def isName (s:List UInt8):Bool:=decide (1≤s.length)&&decide (s.length≤16)&&s.all inN
def isText (s:List UInt8):Bool:=decide (s.length≤64)&&s.all inT
def ppB (f:Nat):Bool:=f == 502||f == 494||f == 497||f == 434||f == 518||f == 549||f == 402||f == 411||f == 446||f == 466||f == 429||f == 514||f == 374||f == 480||(decide (1000≤f)&&decide (f < 2000))
def ay (f:Nat):Bool:=f == 217||f == 459||decide (2000≤f)
structure pR (C:aI):Prop where
 aiE:C.fns.get 561=some aer
 aiH:C.fns.get 517=some WS
 aiS:C.fns.get 557=some agJ
 ajr:C.fns.get 556=some Zh
 ah2:C.fns.get 511=some XZ
 ajS:C.fns.get 510=some aam
 afi:C.fns.get 560=some TT
 afW:C.fns.get 545=some WR
 ajZ:C.fns.get 578=some adG
 ahV:C.fns.get 543=some aeQ
 ah3:C.fns.get 495=some YG
 aiC:C.fns.get 516=some YC
 ahZ:C.fns.get 500=some Ye
 inl:C.inl=ay
 pp:C.pp=ppB
theorem WE (H:pR C) (b:UInt8):FnW C 561 [.int .u8 b.toNat]=some (.bool (inN b)):=by
 rw [aF H.aiE rfl]
 unfold inN
 by_cases c1:97≤b.toNat <;> by_cases c2:b.toNat≤122 <;> by_cases c3:48≤b.toNat <;> by_cases c4:b.toNat≤57 <;> simp [aer,c1,c2,c3,c4]
theorem Rj (H:pR C) (s:List UInt8) (hl:s.length≤16):∀ n i,n+i=s.length →
 Ej C ⟨[(14,.int .i64 i),(13,.int .i64 s.length),(0,.str s)],[],0⟩=some (.bool ((s.drop i).all inN)):=by
 intro n
 induction n with
 | zero =>
  intro i hi
  simp only [Ej];rw [aj yN.eq_1]
  have h1:s.drop i=[]:=List.drop_eq_nil_of_le (by omega)
  have h3:¬ i < s.length:=by omega
  simp [aj ND.eq_1,h1,h3]
 | succ n ih =>
  intro i hi
  have h1:i < s.length:=by omega
  have:=ih (i+1) (by omega)
  have hb:=WE H s[i]
  simp only [Ej] at this ⊢;rw [aj yN.eq_1]
  rw [drop_cons h1]
  simp at this
  by_cases c:inN s[i]=true
  · simp (disch:=omega) [h1,aG,hb,c,H.inl,ay,H.pp,ppB,this]
  · simp (disch:=omega) [h1,aG,hb,c,H.inl,ay,H.pp,ppB]
theorem named_ok (H:pR C) (s:List UInt8):FnW C 517 [.str s]=some (.bool (isName s)):=by
 rw [aF H.aiH rfl]
 unfold isName
 by_cases c1:1≤s.length
 · by_cases c2:s.length≤16
   · have:=Rj H s c2 s.length 0 (by simp)
     simp only [Ej] at this
     simp at this
     have c3:¬ ((s.length:Int) < 1):=by omega
     have c4:¬ (16 < (s.length:Int)):=by omega
     simp [WS,c1,c2,c3,c4,this]
   · have c3:¬ ((s.length:Int) < 1):=by omega
     have c4:(16 < (s.length:Int)):=by omega
     simp [WS,c1,c2,c3,c4]
 · have c3:((s.length:Int) < 1):=by omega
   simp [WS,c1,c3]
theorem Cj (b:UInt8):(inN b=true∧(97≤b.toNat∧b.toNat≤122∨¬ 97≤b.toNat∧48≤b.toNat∧b.toNat≤57))∨(inN b=false∧(¬ 97≤b.toNat∧(¬ 48≤b.toNat∨¬ b.toNat≤57)∨¬ b.toNat≤122∧¬ b.toNat≤57)):=by
 unfold inN
 by_cases c:97≤b.toNat∧b.toNat≤122∨48≤b.toNat∧b.toNat≤57
 · left;exact ⟨decide_eq_true c,by omega⟩
 · right;exact ⟨decide_eq_false c,by omega⟩
theorem RH (H:pR C) (s:List UInt8) (hl:s.length≤16∨True):∀ n i,n+i=min s.length 17 →
 Ep C ⟨[(3,.int .i64 i),(0,.str s)],[],0⟩=some (.bool (((s.take 17).drop i).all inN&&decide (1≤s.length)&&decide (s.length≤16))):=by
 intro n
 induction n with
 | zero =>
  intro i hi
  simp only [Ep];rw [aj zi.eq_1]
  have h1:(s.take 17).drop i=[]:=List.drop_eq_nil_of_le (by simp;omega)
  by_cases h3:i < s.length
  · have h4:¬ i < 17:=by omega
    have h4':¬ (i:Int) < 17:=by omega
    have h5:¬ s.length≤16:=by omega
    have h6:¬ (s.length:Int)≤16:=by omega
    have h7:1≤(s.length:Int):=by omega
    simp [aj xW.eq_1,h1,h3,h4,h4',h5,h6,h7]
  · by_cases h5:s.length≤16 <;> by_cases h6:1≤s.length
    · have h7:(s.length:Int)≤16:=by omega
      have h8:1≤(s.length:Int):=by omega
      simp [aj xW.eq_1,h1,h3,h5,h6,h7,h8]
    · have h7:(s.length:Int)≤16:=by omega
      have h8:¬ 1≤(s.length:Int):=by omega
      simp [aj xW.eq_1,h1,h3,h5,h6,h7,h8]
    · have h7:¬ (s.length:Int)≤16:=by omega
      have h8:1≤(s.length:Int):=by omega
      simp [aj xW.eq_1,h1,h3,h5,h6,h7,h8]
    · omega
 | succ n ih =>
  intro i hi
  have h1:i < s.length:=by omega
  have h2:(i:Int) < 17:=by omega
  have:=ih (i+1) (by omega)
  have hd:(s.take 17).drop i=s[i]::(s.take 17).drop (i+1):=by
   rw [drop_cons (show i < (s.take 17).length by simp;omega)];simp
  rw [hd]
  simp only [Ep] at this ⊢;rw [aj zi.eq_1]
  simp at this
  have key:=Cj s[i]
  by_cases q1:97≤s[i].toNat <;> by_cases q2:122 < s[i].toNat <;> by_cases q3:48≤s[i].toNat <;> by_cases q4:57 < s[i].toNat <;> first
   | (exfalso;omega)
   | (
    have c:inN s[i]=true:=by rcases key with ⟨c,_⟩ | ⟨_,q⟩ <;> first | exact c | (exfalso;omega)
    simp (disch:=omega) [h1,h2,aG,c,q1,q2,q3,q4,this];done)
   | (
    have c:inN s[i]=false:=by rcases key with ⟨_,q⟩ | ⟨c,_⟩ <;> first | exact c | (exfalso;omega)
    simp (disch:=omega) [h1,h2,aG,c,q1,q2,q3,q4];done)
theorem oZ (H:pR C) (s:List UInt8):FnW C 557 [.str s]=some (.bool (isName s)):=by
 rw [aF H.aiS rfl]
 have:=RH H s (.inr trivial) (min s.length 17) 0 (by simp)
 simp only [Ep] at this
 simp only [List.drop_zero] at this
 have e:((s.take 17).all inN&&decide (1≤s.length)&&decide (s.length≤16))=isName s:=by
  unfold isName
  by_cases c:s.length≤16
  · rw [List.take_of_length_le (by omega)];simp [c];rw [Bool.and_comm]
  · simp [c]
 rw [e] at this
 simp at this
 simp [agJ,this]
theorem Wu (H:pR C) (s:List UInt8) (hl:s.length≤64):∀ n i,n+i=s.length →
 ET C ⟨[(3,.int .i64 i),(0,.str s)],[],0⟩=some (.bool ((s.drop i).all inT)):=by
 intro n
 induction n with
 | zero =>
  intro i hi
  simp only [ET];rw [aj yS.eq_1]
  have h1:s.drop i=[]:=List.drop_eq_nil_of_le (by omega)
  have h3:¬ i < s.length:=by omega
  simp [aj LV.eq_1,h1,h3]
 | succ n ih =>
  intro i hi
  have h1:i < s.length:=by omega
  have:=ih (i+1) (by omega)
  simp only [ET] at this ⊢;rw [aj yS.eq_1]
  rw [drop_cons h1]
  simp at this
  by_cases c1:32≤s[i].toNat <;> by_cases c2:126 < s[i].toNat
  · have c:inT s[i]=false:=decide_eq_false (fun q=>by omega)
    simp (disch:=omega) [h1,aG,c,c1,c2]
  · have c:inT s[i]=true:=decide_eq_true ⟨c1,by omega⟩
    simp (disch:=omega) [h1,aG,c,c1,c2,this]
  · omega
  · have c:inT s[i]=false:=decide_eq_false (fun q=>c1 q.1)
    simp (disch:=omega) [h1,aG,c,c1,c2]
theorem zA (H:pR C) (s:List UInt8):FnW C 556 [.str s]=some (.bool (isText s)):=by
 rw [aF H.ajr rfl]
 unfold isText
 by_cases c2:s.length≤64
 · have:=Wu H s c2 s.length 0 (by simp)
   simp only [ET] at this
   simp at this
   have c4:¬ (64 < (s.length:Int)):=by omega
   simp [Zh,c2,c4,this]
 · have c4:(64 < (s.length:Int)):=by omega
   simp [Zh,c2,c4]
theorem Rq (H:pR C) (s:List UInt8) (hl:s.length≤64):∀ n i,n+i=s.length →
 D7 C ⟨[(3,.int .i64 i),(0,.str s)],[],0⟩=some (.int .i64 (if (s.drop i).all inT=true then 1 else 0)):=by
 intro n
 induction n with
 | zero =>
  intro i hi
  simp only [D7];rw [aj zC.eq_1]
  have h1:s.drop i=[]:=List.drop_eq_nil_of_le (by omega)
  have h3:¬ i < s.length:=by omega
  simp [aj JG.eq_1,h1,h3]
 | succ n ih =>
  intro i hi
  have h1:i < s.length:=by omega
  have:=ih (i+1) (by omega)
  simp only [D7] at this ⊢;rw [aj zC.eq_1]
  rw [drop_cons h1]
  generalize hX:((s.drop (i+1)).all inT)=X at *
  simp at this
  rw [List.all_cons,hX]
  by_cases c1:32≤s[i].toNat <;> by_cases c2:126 < s[i].toNat
  · have c:inT s[i]=false:=decide_eq_false (fun q=>by omega)
    simp (disch:=omega) [h1,aG,c,c1,c2]
  · have c:inT s[i]=true:=decide_eq_true ⟨c1,by omega⟩
    simp (disch:=omega) [h1,aG,c,c1,c2,this]
  · omega
  · have c:inT s[i]=false:=decide_eq_false (fun q=>c1 q.1)
    simp (disch:=omega) [h1,aG,c,c1,c2]
theorem ZR (H:pR C) (s:List UInt8):FnW C 510 [.str s]=some (.int .i64 (if isText s=true then 1 else 0)):=by
 rw [aF H.ajS rfl]
 unfold isText
 by_cases c2:s.length≤64
 · have:=Rq H s c2 s.length 0 (by simp)
   simp only [D7] at this
   simp only [List.drop_zero] at this
   generalize hX:s.all inT=X at *
   simp at this
   have c4:¬ (64 < (s.length:Int)):=by omega
   simp [aam,c2,c4,this]
 · have c4:(64 < (s.length:Int)):=by omega
   simp [aam,c2,c4]
structure Pred (C:aI) (g:Nat) (Q:UInt8→Bool):Prop where
 asc:∀ b:UInt8,b.toNat < 128→FnW C g [.int .i32 b.toNat]=some (.bool (!Q b))
 high:∀ r:Nat,128≤r→FnW C g [.int .i32 r]=some (.bool true)
 qh:∀ b:UInt8,128≤b.toNat→Q b=false
 ne:ppB g=false
 ni:ay g=false
theorem Xt (s:List UInt8) (pos:Nat) (h:pos < s.length) (ha:s[pos].toNat < 128):Utf8.decode ⟨⟨s⟩⟩ pos=(s[pos].toNat,1):=decode_ascii ⟨⟨s⟩⟩ pos h ha
theorem aaA (s:List UInt8) (pos:Nat) (h:pos < s.length) (ha:128≤s[pos].toNat):128≤(Utf8.decode ⟨⟨s⟩⟩ pos).1∧1≤(Utf8.decode ⟨⟨s⟩⟩ pos).2:=decode_high ⟨⟨s⟩⟩ pos h ha
theorem TS (H:pR C) {g:Nat} {Q:UInt8→Bool} (G:Pred C g Q) (s:List UInt8):∀ n pos,n+pos=s.length →
 ∃ v:Int,vY C ⟨[(10,.ptr 0 0 0),(2,.bool true),(1,.fn g [])],[(0,.iter s pos)],1⟩=some (.int .i64 v)∧decide (v < 0)=(s.drop pos).all Q:=by
 intro n
 induction n with
 | zero =>
  intro pos hp
  simp only [vY];rw [aj tu.eq_1]
  have h1:s.drop pos=[]:=List.drop_eq_nil_of_le (by omega)
  have h3:¬ pos < s.length:=by omega
  exact ⟨-1,by simp [aj KE.eq_1,h3],by simp [h1]⟩
 | succ n ih =>
  intro pos hp
  have h1:pos < s.length:=by omega
  have hN:=G.ne;have hI:=G.ni
  rw [drop_cons h1]
  by_cases ha:s[pos].toNat < 128
  · have hd:=Xt s pos h1 ha
    have hb:=G.asc s[pos] ha
    by_cases c:Q s[pos]=true
    · obtain ⟨v,hv,hq⟩:=ih (pos+1) (by omega)
      refine ⟨v,?_,by simp [hq,c]⟩
      simp only [vY] at hv ⊢;rw [aj tu.eq_1]
      simp (disch:=omega) [h1,hd,hb,c,H.inl,hI,H.pp,hN,hv]
    · refine ⟨pos,?_,by simp [c]⟩
      simp only [vY];rw [aj tu.eq_1]
      simp (disch:=omega) [h1,hd,hb,c,H.inl,hI,H.pp,hN]
  · have hd:=aaA s pos h1 (by omega)
    have hb:=G.high (Utf8.decode ⟨⟨s⟩⟩ pos).1 hd.1
    have hq:=G.qh s[pos] (by omega)
    refine ⟨pos,?_,by simp [hq]⟩
    simp only [vY];rw [aj tu.eq_1]
    obtain ⟨D,hD⟩:∃ D,Utf8.decode ⟨⟨s⟩⟩ pos=D:=⟨_,rfl⟩
    rw [hD] at hb
    simp (disch:=omega) [h1,hD,hb,H.inl,hI,H.pp,hN]
theorem zX (H:pR C) {g:Nat} {Q:UInt8→Bool} (G:Pred C g Q) (s:List UInt8) :
 ∃ v:Int,FnW C 543 [.str s,.fn g []]=some (.int .i64 v)∧decide (v < 0)=s.all Q:=by
 obtain ⟨v,h,q⟩:=TS H G s s.length 0 (by simp)
 refine ⟨v,?_,q⟩
 have h2:FnW C 578 [.str s,.fn g [],.bool true]=some (.int .i64 v):=by
  rw [aF H.ajZ rfl]
  simp only [vY] at h
  simp [adG,h]
 rw [aF H.ahV rfl]
 simp [aeQ,H.inl,ay,H.pp,ppB,h2]
theorem Dw (H:pR C) {g:Nat} {Q:UInt8→Bool} (G:Pred C g Q) (s:List UInt8) :
 FnW C 495 [.str s,.fn g []]=some (.bool (!s.all Q)):=by
 obtain ⟨v,h,q⟩:=zX H G s
 rw [aF H.ah3 rfl,← q]
 by_cases c:v < 0
 · have c':¬ 0≤v:=by omega
   simp [YG,H.inl,ay,H.pp,ppB,h,c,c']
 · have c':0≤v:=by omega
   simp [YG,H.inl,ay,H.pp,ppB,h,c,c']
theorem aeP (H:pR C):Pred C 560 inT where
 asc b hb:=by
  rw [aF H.afi rfl]
  by_cases c1:32≤b.toNat <;> by_cases c2:126 < b.toNat
  · have c:inT b=false:=decide_eq_false (fun q=>by omega)
    simp [TT,c,c1,c2]
  · have c:inT b=true:=decide_eq_true ⟨c1,by omega⟩
    simp [TT,c,c1,c2]
  · omega
  · have c:inT b=false:=decide_eq_false (fun q=>c1 q.1)
    simp [TT,c,c1,c2]
 high r hr:=by
  rw [aF H.afi rfl]
  have h1:32≤r:=by omega
  have h2:126 < r:=by omega
  simp [TT,h1,h2]
 qh b hb:=decide_eq_false (fun q=>by omega)
 ne:=by rfl
 ni:=by rfl
theorem adz (H:pR C):Pred C 545 inN where
 asc b hb:=by
  rw [aF H.afW rfl]
  have key:=Cj b
  by_cases q1:97≤b.toNat <;> by_cases q2:122 < b.toNat <;> by_cases q3:48≤b.toNat <;> by_cases q4:57 < b.toNat <;> first
   | (exfalso;omega)
   | (
    have c:inN b=true:=by rcases key with ⟨c,_⟩ | ⟨_,q⟩ <;> first | exact c | (exfalso;omega)
    simp [WR,c,q1,q2,q3,q4];done)
   | (
    have c:inN b=false:=by rcases key with ⟨_,q⟩ | ⟨c,_⟩ <;> first | exact c | (exfalso;omega)
    simp [WR,c,q1,q2,q3,q4];done)
 high r hr:=by
  rw [aF H.afW rfl]
  have h1:97≤r:=by omega
  have h2:122 < r:=by omega
  have h3:48≤r:=by omega
  have h4:57 < r:=by omega
  simp [WR,h1,h2,h3,h4]
 qh b hb:=by unfold inN;exact decide_eq_false (fun q=>by omega)
 ne:=by rfl
 ni:=by rfl
theorem VY (H:pR C) (s:List UInt8):FnW C 516 [.str s]=some (.bool (isText s)):=by
 obtain ⟨v,h,q⟩:=zX H (aeP H) s
 rw [aF H.aiC rfl]
 unfold isText
 rw [← q]
 by_cases c2:s.length≤64
 · have c4:(s.length:Int)≤64:=by omega
   simp [YC,c2,c4,H.inl,ay,H.pp,ppB,h]
 · have c4:¬ ((s.length:Int)≤64):=by omega
   simp [YC,c2,c4]
theorem Zc (H:pR C) (s:List UInt8):FnW C 500 [.str s]=some (.bool (isName s)):=by
 have h:=Dw H (adz H) s
 rw [aF H.ahZ rfl]
 unfold isName
 by_cases c1:s=[]
 · subst c1;simp [Ye]
 · have c3:1≤s.length:=List.length_pos_iff.2 c1
   by_cases c2:s.length≤16
   · have c4:(s.length:Int)≤16:=by omega
     simp [Ye,c1,c2,c3,c4,H.inl,ay,H.pp,ppB,h]
   · have c4:¬ ((s.length:Int)≤16):=by omega
     simp [Ye,c1,c2,c4]
end Go.D
end
section
namespace Go.Pav
open Go
def Jf (ids:List (Nat × Nat)) (f:FuncId):Option Nat :=
 match ids with
 | []=>none
 | (g,k)::r=>if k=f then some g else Jf r f
def Dy (ids:List (Nat × Nat)) (g:Nat):FuncId :=
 match get ids g with
 | some k=>k
 | none=>0
theorem Yd:∀ {ids:List (Nat × Nat)} {f:FuncId} {g:Nat},Jf ids f=some g→(g,f) ∈ ids:=by
 intro ids
 induction ids with
 | nil=>intro f g h;simp [Jf] at h
 | cons x r ih =>
  intro f g h
  obtain ⟨a,k⟩:=x
  simp only [Jf] at h
  split at h
  · rename_i hk
    cases h;subst hk;exact List.mem_cons_self
  · exact List.mem_cons_of_mem _ (ih h)
theorem afI {ids:List (Nat × Nat)} (hc:(ids.all fun x=>decide (Dy ids x.1=x.2))=true):∀ f g,Jf ids f=some g→Dy ids g=f:=by
 intro f g h
 have:=List.all_eq_true.1 hc _ (Yd h)
 simpa using this
def xG (p:Nat→CFn→Prop):Tree→Prop
 | .leaf=>True
 | .node l k f r=>xG p l∧p k f∧xG p r
theorem xG.get {p:Nat→CFn→Prop}:∀ {t:Tree},xG p t→∀ {g:Nat} {cf:CFn},t.get g=some cf→p g cf:=by
 intro t
 induction t with
 | leaf=>intro _ g cf h;simp [Tree.get] at h
 | node l k f r ihl ihr =>
  intro ⟨h1,h2,h3⟩ g cf h
  simp only [Tree.get] at h
  split at h
  · rename_i hk;cases h;subst hk;exact h2
  · split at h
    · exact ihl h1 h
    · exact ihr h3 h
def Qi:List (Nat × FuncId × Nat)→Nat→FuncId→Option Nat
 | [],_,_=>none
 | (g,f,k)::r,g',f'=>if g=g'∧f=f' then some k else Qi r g' f'
theorem WJ:∀ {alts:List (Nat × FuncId × Nat)} {g:Nat} {f:FuncId} {k:Nat},Qi alts g f=some k→(g,f,k) ∈ alts:=by
 intro alts
 induction alts with
 | nil=>intro g f k h;simp [Qi] at h
 | cons x r ih =>
  intro g f k h
  obtain ⟨a,b,c⟩:=x
  simp only [Qi] at h
  split at h
  · rename_i hk
    obtain ⟨rfl,rfl⟩:=hk
    cases h;exact List.mem_cons_self
  · exact List.mem_cons_of_mem _ (ih h)
def aem (ids:List (Nat × Nat)) (alts:List (Nat × FuncId × Nat)) (g:Nat) (f:FuncId):Option Nat :=
 match Qi alts g f with
 | some k=>some k
 | none=>Jf ids f
def aS (P:Program) (ids:List (Nat × Nat)) (alts:List (Nat × FuncId × Nat)) (g:Nat) (cf:CFn):Prop:=(∃ fn,P.funcs[Dy ids g]?=some fn∧(cFn P (aem ids alts g) fn).map GX=some (GX cf))∨Ru P (Dy ids) g cf
theorem linked {P:Program} {ids:List (Nat × Nat)} {alts:List (Nat × FuncId × Nat)} {C:Prog} (hc:(ids.all fun x=>decide (Dy ids x.1=x.2))=true) (ha:(alts.all fun x=>decide (Dy ids x.2.2=x.2.1))=true)
 (ht:xG (aS P ids alts) C.fns) (hm:P.follows .mixedOrders=true):Linked P (aem ids alts) (Dy ids) C:=by
 refine ⟨fun g f k h=>?_,fun _ _ h=>ht.get h,hm⟩
 unfold aem at h
 split at h
 · rename_i k' hk
   cases h
   simpa using List.all_eq_true.1 ha _ (WJ hk)
 · exact afI hc _ _ h
end Go.Pav
end
section
set_option maxRecDepth 100000
namespace P
open Go Go.Pav Go.Pw Go.Proofs
theorem l0:aS Tryz.prog ids alts 0 (aP w0):=.inl ⟨Tryz.f2,Tryz.func2,by kernel_rfl⟩
theorem l90:aS Tryz.prog ids alts 90 (aP w90):=.inl ⟨Tryz.f6,Tryz.func6,by kernel_rfl⟩
theorem apf:aS Tryz.prog ids alts 108 (aP aeZ):=.inl ⟨Tryz.f46,Tryz.func46,by kernel_rfl⟩
theorem ao6:aS Tryz.prog ids alts 109 (aP agD):=.inl ⟨Tryz.f47,Tryz.func47,by kernel_rfl⟩
theorem aoK:aS Tryz.prog ids alts 110 (aP afo):=.inl ⟨Tryz.f48,Tryz.func48,by kernel_rfl⟩
theorem aqI:aS Tryz.prog ids alts 111 (aP aeC):=.inl ⟨Tryz.f49,Tryz.func49,by kernel_rfl⟩
theorem aqJ:aS Tryz.prog ids alts 114 (aP ac6):=.inl ⟨Tryz.f52,Tryz.func52,by kernel_rfl⟩
theorem aow:aS Tryz.prog ids alts 115 (aP KY):=.inl ⟨Tryz.f53,Tryz.func53,by kernel_rfl⟩
theorem apy:aS Tryz.prog ids alts 120 (aP Ud):=.inl ⟨Tryz.f58,Tryz.func58,by kernel_rfl⟩
theorem aps:aS Tryz.prog ids alts 122 (aP Yi):=.inl ⟨Tryz.f60,Tryz.func60,by kernel_rfl⟩
theorem aoQ:aS Tryz.prog ids alts 126 (aP adJ):=.inl ⟨Tryz.f64,Tryz.func64,by kernel_rfl⟩
theorem ap2:aS Tryz.prog ids alts 130 (aP ac7):=.inl ⟨Tryz.f10,Tryz.func10,by kernel_rfl⟩
theorem ar7:aS Tryz.prog ids alts 140 (aP afR):=.inl ⟨Tryz.f69,Tryz.func69,by kernel_rfl⟩
theorem aqX:aS Tryz.prog ids alts 158 (aP alf):=.inl ⟨Tryz.f42,Tryz.func42,by kernel_rfl⟩
theorem aoe:aS Tryz.prog ids alts 159 (aP al8):=.inl ⟨Tryz.f43,Tryz.func43,by kernel_rfl⟩
theorem apq:aS Tryz.prog ids alts 160 (aP YP):=.inl ⟨Tryz.f33,Tryz.func33,by kernel_rfl⟩
theorem aoD:aS Tryz.prog ids alts 161 (aP acz):=.inl ⟨Tryz.f34,Tryz.func34,by kernel_rfl⟩
theorem ao8:aS Tryz.prog ids alts 162 (aP akZ):=.inl ⟨Tryz.f44,Tryz.func44,by kernel_rfl⟩
theorem apY:aS Tryz.prog ids alts 163 (aP BF):=.inl ⟨Tryz.f5,Tryz.func5,by kernel_rfl⟩
theorem aoA:aS Tryz.prog ids alts 164 (aP akQ):=.inl ⟨Tryz.f38,Tryz.func38,by kernel_rfl⟩
theorem ap7:aS Tryz.prog ids alts 171 (aP X4):=.inl ⟨Tryz.f37,Tryz.func37,by kernel_rfl⟩
theorem arb:aS Tryz.prog ids alts 176 (aP ak2):=.inl ⟨Tryz.f114,Tryz.func114,by kernel_rfl⟩
theorem arf:aS Tryz.prog ids alts 216 (aP qU):=.inl ⟨Tryz.f119,Tryz.func119,by kernel_rfl⟩
theorem aqc:aS Tryz.prog ids alts 217 (aP YL):=.inl ⟨Tryz.f120,Tryz.func120,by kernel_rfl⟩
theorem aqm:aS Tryz.prog ids alts 218 (aP aei):=.inl ⟨Tryz.f121,Tryz.func121,by kernel_rfl⟩
theorem apx:aS Tryz.prog ids alts 219 (aP aaE):=.inl ⟨Tryz.f122,Tryz.func122,by kernel_rfl⟩
theorem aoI:aS Tryz.prog ids alts 220 (aP adH):=.inl ⟨Tryz.f123,Tryz.func123,by kernel_rfl⟩
theorem arK:aS Tryz.prog ids alts 221 (aP agv):=.inl ⟨Tryz.f124,Tryz.func124,by kernel_rfl⟩
theorem ar2:aS Tryz.prog ids alts 222 (aP aeK):=.inl ⟨Tryz.f125,Tryz.func125,by kernel_rfl⟩
theorem aq1:aS Tryz.prog ids alts 223 (aP Yl):=.inl ⟨Tryz.f88,Tryz.func88,by kernel_rfl⟩
theorem ap4:aS Tryz.prog ids alts 224 (aP adx):=.inl ⟨Tryz.f106,Tryz.func106,by kernel_rfl⟩
theorem ap1:aS Tryz.prog ids alts 225 (aP adl):=.inl ⟨Tryz.f126,Tryz.func126,by kernel_rfl⟩
theorem aqo:aS Tryz.prog ids alts 226 (aP abH):=.inl ⟨Tryz.f127,Tryz.func127,by kernel_rfl⟩
theorem apI:aS Tryz.prog ids alts 227 (aP adt):=.inl ⟨Tryz.f128,Tryz.func128,by kernel_rfl⟩
theorem aqa:aS Tryz.prog ids alts 228 (aP YD):=.inl ⟨Tryz.f129,Tryz.func129,by kernel_rfl⟩
theorem aqv:aS Tryz.prog ids alts 229 (aP adf):=.inl ⟨Tryz.f130,Tryz.func130,by kernel_rfl⟩
theorem apD:aS Tryz.prog ids alts 230 (aP Xx):=.inl ⟨Tryz.f131,Tryz.func131,by kernel_rfl⟩
theorem aoP:aS Tryz.prog ids alts 231 (aP acP):=.inl ⟨Tryz.f132,Tryz.func132,by kernel_rfl⟩
theorem aq3:aS Tryz.prog ids alts 232 (aP Zj):=.inl ⟨Tryz.f133,Tryz.func133,by kernel_rfl⟩
theorem l237:aS Tryz.prog ids alts 237 (aP ab2):=.inl ⟨Tryz.f138,Tryz.func138,by kernel_rfl⟩
theorem aqU:aS Tryz.prog ids alts 239 (aP aeW):=.inl ⟨Tryz.f41,Tryz.func41,by kernel_rfl⟩
theorem arX:aS Tryz.prog ids alts 240 (aP agK):=.inl ⟨Tryz.f77,Tryz.func77,by kernel_rfl⟩
theorem aqY:aS Tryz.prog ids alts 241 (aP YB):=.inl ⟨Tryz.f140,Tryz.func140,by kernel_rfl⟩
theorem aqe:aS Tryz.prog ids alts 242 (aP WM):=.inl ⟨Tryz.f141,Tryz.func141,by kernel_rfl⟩
theorem aoi:aS Tryz.prog ids alts 246 (aP acJ):=.inl ⟨Tryz.f101,Tryz.func101,by kernel_rfl⟩
theorem aoW:aS Tryz.prog ids alts 247 (aP adR):=.inl ⟨Tryz.f145,Tryz.func145,by kernel_rfl⟩
theorem aom:aS Tryz.prog ids alts 249 (aP ae2):=.inl ⟨Tryz.f147,Tryz.func147,by kernel_rfl⟩
theorem apM:aS Tryz.prog ids alts 250 (aP XD):=.inl ⟨Tryz.f148,Tryz.func148,by kernel_rfl⟩
theorem aoy:aS Tryz.prog ids alts 251 (aP alY):=.inl ⟨Tryz.f116,Tryz.func116,by kernel_rfl⟩
theorem aoC:aS Tryz.prog ids alts 253 (aP afA):=.inl ⟨Tryz.f108,Tryz.func108,by kernel_rfl⟩
theorem arx:aS Tryz.prog ids alts 254 (aP amd):=.inl ⟨Tryz.f150,Tryz.func150,by kernel_rfl⟩
theorem apN:aS Tryz.prog ids alts 256 (aP afq):=.inl ⟨Tryz.f32,Tryz.func32,by kernel_rfl⟩
theorem apa:aS Tryz.prog ids alts 270 (aP aga):=.inl ⟨Tryz.f75,Tryz.func75,by kernel_rfl⟩
theorem arG:aS Tryz.prog ids alts 271 (aP RU):=.inl ⟨Tryz.f76,Tryz.func76,by kernel_rfl⟩
theorem apR:aS Tryz.prog ids alts 282 (aP adE):=.inl ⟨Tryz.f167,Tryz.func167,by kernel_rfl⟩
theorem aoU:aS Tryz.prog ids alts 312 (aP alR):=.inl ⟨Tryz.f109,Tryz.func109,by kernel_rfl⟩
theorem apc:aS Tryz.prog ids alts 313 (aP adF):=.inl ⟨Tryz.f104,Tryz.func104,by kernel_rfl⟩
theorem aoE:aS Tryz.prog ids alts 314 (aP alZ):=.inl ⟨Tryz.f110,Tryz.func110,by kernel_rfl⟩
theorem arV:aS Tryz.prog ids alts 315 (aP alK):=.inl ⟨Tryz.f111,Tryz.func111,by kernel_rfl⟩
theorem aqF:aS Tryz.prog ids alts 316 (aP alC):=.inl ⟨Tryz.f112,Tryz.func112,by kernel_rfl⟩
theorem apd:aS Tryz.prog ids alts 317 (aP akU):=.inl ⟨Tryz.f113,Tryz.func113,by kernel_rfl⟩
theorem aq7:aS Tryz.prog ids alts 318 (aP Oc):=.inl ⟨Tryz.f36,Tryz.func36,by kernel_rfl⟩
theorem aoc:aS Tryz.prog ids alts 319 (aP ak8):=.inl ⟨Tryz.f115,Tryz.func115,by kernel_rfl⟩
theorem aqy:aS Tryz.prog ids alts 320 (aP alg):=.inl ⟨Tryz.f117,Tryz.func117,by kernel_rfl⟩
theorem asa:aS Tryz.prog ids alts 321 (aP Tc):=.inl ⟨Tryz.f35,Tryz.func35,by kernel_rfl⟩
theorem ao0:aS Tryz.prog ids alts 322 (aP agd):=.inl ⟨Tryz.f102,Tryz.func102,by kernel_rfl⟩
theorem apA:aS Tryz.prog ids alts 323 (aP af6):=.inl ⟨Tryz.f103,Tryz.func103,by kernel_rfl⟩
theorem arS:aS Tryz.prog ids alts 324 (aP aav):=.inr (Go.Proofs.H28.QJ _ _ (by decide))
theorem arP:aS Tryz.prog ids alts 325 (aP alL):=.inl ⟨Tryz.f118,Tryz.func118,by kernel_rfl⟩
theorem aqu:aS Tryz.prog ids alts 326 (aP aff):=.inl ⟨Tryz.f11,Tryz.func11,by kernel_rfl⟩
theorem aql:aS Tryz.prog ids alts 327 (aP acy):=.inl ⟨Tryz.f40,Tryz.func40,by kernel_rfl⟩
theorem arA:aS Tryz.prog ids alts 333 (aP Iq):=.inl ⟨Tryz.f92,Tryz.func92,by kernel_rfl⟩
theorem aqL:aS Tryz.prog ids alts 336 (aP Ii):=.inl ⟨Tryz.f95,Tryz.func95,by kernel_rfl⟩
theorem aqN:aS Tryz.prog ids alts 340 (aP ac4):=.inl ⟨Tryz.f89,Tryz.func89,by kernel_rfl⟩
theorem aqw:aS Tryz.prog ids alts 342 (aP YU):=.inl ⟨Tryz.f79,Tryz.func79,by kernel_rfl⟩
theorem ar9:aS Tryz.prog ids alts 343 (aP Lp):=.inl ⟨Tryz.f105,Tryz.func105,by kernel_rfl⟩
theorem aqb:aS Tryz.prog ids alts 398 (aP TF):=.inl ⟨Tryz.f207,Tryz.func207,by kernel_rfl⟩
theorem arh:aS Tryz.prog ids alts 399 (aP ac0):=.inl ⟨Tryz.f208,Tryz.func208,by kernel_rfl⟩
theorem arY:aS Tryz.prog ids alts 400 (aP abd):=.inl ⟨Tryz.f221,Tryz.func221,by kernel_rfl⟩
theorem aoF:aS Tryz.prog ids alts 401 (aP KL):=.inl ⟨Tryz.f222,Tryz.func222,by kernel_rfl⟩
theorem apO:aS Tryz.prog ids alts 402 (aP ab7):=.inl ⟨Tryz.f217,Tryz.func217,by kernel_rfl⟩
theorem ar1:aS Tryz.prog ids alts 403 (aP agn):=.inl ⟨Tryz.f218,Tryz.func218,by kernel_rfl⟩
theorem apk:aS Tryz.prog ids alts 404 (aP aeg):=.inl ⟨Tryz.f223,Tryz.func223,by kernel_rfl⟩
theorem aoZ:aS Tryz.prog ids alts 405 (aP agm):=.inl ⟨Tryz.f224,Tryz.func224,by kernel_rfl⟩
theorem aq5:aS Tryz.prog ids alts 406 (aP aeO):=.inl ⟨Tryz.f225,Tryz.func225,by kernel_rfl⟩
theorem aqr:aS Tryz.prog ids alts 407 (aP agt):=.inl ⟨Tryz.f220,Tryz.func220,by kernel_rfl⟩
theorem aoV:aS Tryz.prog ids alts 408 (aP abf):=.inl ⟨Tryz.f226,Tryz.func226,by kernel_rfl⟩
theorem aru:aS Tryz.prog ids alts 409 (aP aen):=.inl ⟨Tryz.f227,Tryz.func227,by kernel_rfl⟩
theorem ash:aS Tryz.prog ids alts 410 (aP acM):=.inl ⟨Tryz.f213,Tryz.func213,by kernel_rfl⟩
theorem aos:aS Tryz.prog ids alts 411 (aP adk):=.inl ⟨Tryz.f228,Tryz.func228,by kernel_rfl⟩
theorem apm:aS Tryz.prog ids alts 412 (aP afK):=.inl ⟨Tryz.f229,Tryz.func229,by kernel_rfl⟩
theorem aqD:aS Tryz.prog ids alts 422 (aP GH):=.inl ⟨Tryz.f188,Tryz.func188,by kernel_rfl⟩
theorem aqz:aS Tryz.prog ids alts 423 (aP adY):=.inl ⟨Tryz.f189,Tryz.func189,by kernel_rfl⟩
theorem apt:aS Tryz.prog ids alts 424 (aP PD):=.inl ⟨Tryz.f190,Tryz.func190,by kernel_rfl⟩
theorem arT:aS Tryz.prog ids alts 425 (aP Ip):=.inl ⟨Tryz.f191,Tryz.func191,by kernel_rfl⟩
theorem aof:aS Tryz.prog ids alts 433 (aP Ie):=.inl ⟨Tryz.f245,Tryz.func245,by kernel_rfl⟩
theorem ap9:aS Tryz.prog ids alts 434 (aP yg):=.inl ⟨Tryz.f246,Tryz.func246,by kernel_rfl⟩
theorem ao7:aS Tryz.prog ids alts 439 (aP Zt):=.inl ⟨Tryz.f251,Tryz.func251,by kernel_rfl⟩
theorem aqi:aS Tryz.prog ids alts 441 (aP Zk):=.inl ⟨Tryz.f253,Tryz.func253,by kernel_rfl⟩
theorem aon:aS Tryz.prog ids alts 442 (aP aaS):=.inl ⟨Tryz.f254,Tryz.func254,by kernel_rfl⟩
theorem aop:aS Tryz.prog ids alts 452 (aP ady):=.inl ⟨Tryz.f78,Tryz.func78,by kernel_rfl⟩
theorem apg:aS Tryz.prog ids alts 455 (aP ac5):=.inl ⟨Tryz.f211,Tryz.func211,by kernel_rfl⟩
theorem aqW:aS Tryz.prog ids alts 457 (aP adL):=.inl ⟨Tryz.f214,Tryz.func214,by kernel_rfl⟩
theorem aox:aS Tryz.prog ids alts 459 (aP agh):=.inl ⟨Tryz.f209,Tryz.func209,by kernel_rfl⟩
theorem ars:aS Tryz.prog ids alts 460 (aP ZX):=.inl ⟨Tryz.f210,Tryz.func210,by kernel_rfl⟩
theorem apG:aS Tryz.prog ids alts 461 (aP Qz):=.inl ⟨Tryz.f192,Tryz.func192,by kernel_rfl⟩
theorem aq4:aS Tryz.prog ids alts 462 (aP aa2):=.inl ⟨Tryz.f193,Tryz.func193,by kernel_rfl⟩
theorem aoL:aS Tryz.prog ids alts 463 (aP agL):=.inl ⟨Tryz.f194,Tryz.func194,by kernel_rfl⟩
theorem apX:aS Tryz.prog ids alts 494 (aP acj):=.inl ⟨Tryz.f268,Tryz.func268,by kernel_rfl⟩
theorem aot:aS Tryz.prog ids alts 495 (aP YG):=.inl ⟨Tryz.f269,Tryz.func269,by kernel_rfl⟩
theorem ap6:aS Tryz.prog ids alts 496 (aP Si):=.inl ⟨Tryz.f270,Tryz.func270,by kernel_rfl⟩
theorem aqQ:aS Tryz.prog ids alts 497 (aP aaT):=.inl ⟨Tryz.f271,Tryz.func271,by kernel_rfl⟩
theorem aqE:aS Tryz.prog ids alts 498 (aP abX):=.inl ⟨Tryz.f272,Tryz.func272,by kernel_rfl⟩
theorem ark:aS Tryz.prog ids alts 499 (aP agH):=.inl ⟨Tryz.f273,Tryz.func273,by kernel_rfl⟩
theorem apb:aS Tryz.prog ids alts 500 (aP Ye):=.inl ⟨Tryz.f274,Tryz.func274,by kernel_rfl⟩
theorem aoH:aS Tryz.prog ids alts 501 (aP Ij):=.inl ⟨Tryz.f275,Tryz.func275,by kernel_rfl⟩
theorem aod:aS Tryz.prog ids alts 502 (aP ZB):=.inl ⟨Tryz.f283,Tryz.func283,by kernel_rfl⟩
theorem aoN:aS Tryz.prog ids alts 503 (aP afS):=.inl ⟨Tryz.f284,Tryz.func284,by kernel_rfl⟩
theorem asg:aS Tryz.prog ids alts 504 (aP afe):=.inl ⟨Tryz.f282,Tryz.func282,by kernel_rfl⟩
theorem aqp:aS Tryz.prog ids alts 505 (aP Wp):=.inl ⟨Tryz.f285,Tryz.func285,by kernel_rfl⟩
theorem aol:aS Tryz.prog ids alts 510 (aP aam):=.inl ⟨Tryz.f258,Tryz.func258,by kernel_rfl⟩
theorem aoT:aS Tryz.prog ids alts 511 (aP XZ):=.inl ⟨Tryz.f259,Tryz.func259,by kernel_rfl⟩
theorem aqf:aS Tryz.prog ids alts 512 (aP Ro):=.inl ⟨Tryz.f260,Tryz.func260,by kernel_rfl⟩
theorem ar8:aS Tryz.prog ids alts 513 (aP Ph):=.inl ⟨Tryz.f261,Tryz.func261,by kernel_rfl⟩
theorem ari:aS Tryz.prog ids alts 516 (aP YC):=.inl ⟨Tryz.f291,Tryz.func291,by kernel_rfl⟩
theorem aou:aS Tryz.prog ids alts 517 (aP WS):=.inl ⟨Tryz.f292,Tryz.func292,by kernel_rfl⟩
theorem aqn:aS Tryz.prog ids alts 518 (aP ZG):=.inl ⟨Tryz.f293,Tryz.func293,by kernel_rfl⟩
theorem arl:aS Tryz.prog ids alts 519 (aP aac):=.inl ⟨Tryz.f294,Tryz.func294,by kernel_rfl⟩
theorem aqk:aS Tryz.prog ids alts 520 (aP Xu):=.inl ⟨Tryz.f295,Tryz.func295,by kernel_rfl⟩
theorem ap5:aS Tryz.prog ids alts 526 (aP ae0):=.inl ⟨Tryz.f276,Tryz.func276,by kernel_rfl⟩
theorem apP:aS Tryz.prog ids alts 527 (aP af0):=.inl ⟨Tryz.f277,Tryz.func277,by kernel_rfl⟩
theorem ar4:aS Tryz.prog ids alts 528 (aP adh):=.inl ⟨Tryz.f278,Tryz.func278,by kernel_rfl⟩
theorem aog:aS Tryz.prog ids alts 529 (aP afF):=.inl ⟨Tryz.f279,Tryz.func279,by kernel_rfl⟩
theorem aqx:aS Tryz.prog ids alts 530 (aP adr):=.inl ⟨Tryz.f280,Tryz.func280,by kernel_rfl⟩
theorem aoG:aS Tryz.prog ids alts 532 (aP ae1):=.inl ⟨Tryz.f262,Tryz.func262,by kernel_rfl⟩
theorem aqC:aS Tryz.prog ids alts 543 (aP aeQ):=.inl ⟨Tryz.f303,Tryz.func303,by kernel_rfl⟩
theorem aqT:aS Tryz.prog ids alts 544 (aP aee):=.inl ⟨Tryz.f304,Tryz.func304,by kernel_rfl⟩
theorem aqO:aS Tryz.prog ids alts 545 (aP WR):=.inl ⟨Tryz.f305,Tryz.func305,by kernel_rfl⟩
theorem ard:aS Tryz.prog ids alts 546 (aP Ti):=.inl ⟨Tryz.f306,Tryz.func306,by kernel_rfl⟩
theorem aqH:aS Tryz.prog ids alts 547 (aP afG):=.inl ⟨Tryz.f307,Tryz.func307,by kernel_rfl⟩
theorem arU:aS Tryz.prog ids alts 548 (aP Rz):=.inl ⟨Tryz.f309,Tryz.func309,by kernel_rfl⟩
theorem aqg:aS Tryz.prog ids alts 549 (aP iW):=.inl ⟨Tryz.f310,Tryz.func310,by kernel_rfl⟩
theorem ap3:aS Tryz.prog ids alts 550 (aP Xw):=.inl ⟨Tryz.f311,Tryz.func311,by kernel_rfl⟩
theorem arq:aS Tryz.prog ids alts 556 (aP Zh):=.inl ⟨Tryz.f299,Tryz.func299,by kernel_rfl⟩
theorem aq8:aS Tryz.prog ids alts 557 (aP agJ):=.inl ⟨Tryz.f300,Tryz.func300,by kernel_rfl⟩
theorem apz:aS Tryz.prog ids alts 558 (aP acI):=.inl ⟨Tryz.f301,Tryz.func301,by kernel_rfl⟩
theorem aqP:aS Tryz.prog ids alts 559 (aP adX):=.inl ⟨Tryz.f302,Tryz.func302,by kernel_rfl⟩
theorem aph:aS Tryz.prog ids alts 560 (aP TT):=.inl ⟨Tryz.f316,Tryz.func316,by kernel_rfl⟩
theorem ao2:aS Tryz.prog ids alts 561 (aP aer):=.inl ⟨Tryz.f317,Tryz.func317,by kernel_rfl⟩
theorem aq6:aS Tryz.prog ids alts 562 (aP aeo):=.inl ⟨Tryz.f318,Tryz.func318,by kernel_rfl⟩
theorem arL:aS Tryz.prog ids alts 563 (aP xZ):=.inl ⟨Tryz.f319,Tryz.func319,by kernel_rfl⟩
theorem aqZ:aS Tryz.prog ids alts 578 (aP adG):=.inl ⟨Tryz.f320,Tryz.func320,by kernel_rfl⟩
theorem aq9:aS Tryz.prog ids alts 579 (aP aeL):=.inl ⟨Tryz.f321,Tryz.func321,by kernel_rfl⟩
theorem arn:aS Tryz.prog ids alts 580 (aP afk):=.inl ⟨Tryz.f322,Tryz.func322,by kernel_rfl⟩
theorem aok:aS Tryz.prog ids alts 581 (aP aeb):=.inl ⟨Tryz.f323,Tryz.func323,by kernel_rfl⟩
theorem arz:aS Tryz.prog ids alts 582 (aP aeh):=.inl ⟨Tryz.f324,Tryz.func324,by kernel_rfl⟩
theorem aqK:aS Tryz.prog ids alts 583 (aP agA):=.inl ⟨Tryz.f325,Tryz.func325,by kernel_rfl⟩
theorem apZ:aS Tryz.prog ids alts 584 (aP afN):=.inl ⟨Tryz.f326,Tryz.func326,by kernel_rfl⟩
theorem aoO:aS Tryz.prog ids alts 585 (aP acH):=.inl ⟨Tryz.f327,Tryz.func327,by kernel_rfl⟩
theorem aqB:aS Tryz.prog ids alts 586 (aP lZ):=.inl ⟨Tryz.f328,Tryz.func328,by kernel_rfl⟩
theorem apW:aS Tryz.prog ids alts 592 (aP Ze):=.inl ⟨Tryz.f329,Tryz.func329,by kernel_rfl⟩
theorem aoS:aS Tryz.prog ids alts 593 (aP adb):=.inl ⟨Tryz.f330,Tryz.func330,by kernel_rfl⟩
theorem arv:aS Tryz.prog ids alts 594 (aP Y4):=.inl ⟨Tryz.f331,Tryz.func331,by kernel_rfl⟩
def prog:aI:=⟨tree,Go.D.ay,Go.D.ppB⟩
theorem all:xG (aS Tryz.prog ids alts) (fG prog).fns:=⟨⟨⟨⟨⟨⟨⟨⟨trivial,l0,trivial⟩,l90,trivial⟩,apf,⟨⟨trivial,ao6,trivial⟩,aoK,trivial⟩⟩,aqI,⟨⟨⟨trivial,aqJ,trivial⟩,aow,trivial⟩,apy,⟨trivial,aps,trivial⟩⟩⟩,aoQ,⟨⟨⟨⟨trivial,ap2,trivial⟩,ar7,trivial⟩,aqX,⟨trivial,aoe,trivial⟩⟩,apq,⟨⟨⟨trivial,aoD,trivial⟩,ao8,trivial⟩,apY,⟨trivial,aoA,trivial⟩⟩⟩⟩,ap7,⟨⟨⟨⟨⟨trivial,arb,trivial⟩,arf,trivial⟩,aqc,⟨trivial,aqm,trivial⟩⟩,apx,⟨⟨⟨trivial,aoI,trivial⟩,arK,trivial⟩,ar2,⟨trivial,aq1,trivial⟩⟩⟩,ap4,⟨⟨⟨⟨trivial,ap1,trivial⟩,aqo,trivial⟩,apI,⟨trivial,aqa,trivial⟩⟩,aqv,⟨⟨⟨trivial,apD,trivial⟩,aoP,trivial⟩,aq3,⟨trivial,l237,trivial⟩⟩⟩⟩⟩,aqU,⟨⟨⟨⟨⟨⟨trivial,arX,trivial⟩,aqY,trivial⟩,aqe,⟨⟨trivial,aoi,trivial⟩,aoW,trivial⟩⟩,aom,⟨⟨⟨trivial,apM,trivial⟩,aoy,trivial⟩,aoC,⟨trivial,arx,trivial⟩⟩⟩,apN,⟨⟨⟨⟨trivial,apa,trivial⟩,arG,trivial⟩,apR,⟨trivial,aoU,trivial⟩⟩,apc,⟨⟨⟨trivial,aoE,trivial⟩,arV,trivial⟩,aqF,⟨trivial,apd,trivial⟩⟩⟩⟩,aq7,⟨⟨⟨⟨⟨trivial,aoc,trivial⟩,aqy,trivial⟩,asa,⟨trivial,ao0,trivial⟩⟩,apA,⟨⟨⟨trivial,arS,trivial⟩,arP,trivial⟩,aqu,⟨trivial,aql,trivial⟩⟩⟩,arA,⟨⟨⟨⟨trivial,aqL,trivial⟩,aqN,trivial⟩,aqw,⟨trivial,ar9,trivial⟩⟩,aqb,⟨⟨⟨trivial,arh,trivial⟩,arY,trivial⟩,aoF,⟨trivial,apO,trivial⟩⟩⟩⟩⟩⟩,ar1,⟨⟨⟨⟨⟨⟨⟨trivial,apk,trivial⟩,aoZ,trivial⟩,aq5,⟨⟨trivial,aqr,trivial⟩,aoV,trivial⟩⟩,aru,⟨⟨⟨trivial,ash,trivial⟩,aos,trivial⟩,apm,⟨trivial,aqD,trivial⟩⟩⟩,aqz,⟨⟨⟨⟨trivial,apt,trivial⟩,arT,trivial⟩,aof,⟨trivial,ap9,trivial⟩⟩,ao7,⟨⟨⟨trivial,aqi,trivial⟩,aon,trivial⟩,aop,⟨trivial,apg,trivial⟩⟩⟩⟩,aqW,⟨⟨⟨⟨⟨trivial,aox,trivial⟩,ars,trivial⟩,apG,⟨trivial,aq4,trivial⟩⟩,aoL,⟨⟨⟨trivial,apX,trivial⟩,aot,trivial⟩,ap6,⟨trivial,aqQ,trivial⟩⟩⟩,aqE,⟨⟨⟨⟨trivial,ark,trivial⟩,apb,trivial⟩,aoH,⟨trivial,aod,trivial⟩⟩,aoN,⟨⟨⟨trivial,asg,trivial⟩,aqp,trivial⟩,aol,⟨trivial,aoT,trivial⟩⟩⟩⟩⟩,aqf,⟨⟨⟨⟨⟨⟨trivial,ar8,trivial⟩,ari,trivial⟩,aou,⟨⟨trivial,aqn,trivial⟩,arl,trivial⟩⟩,aqk,⟨⟨⟨trivial,ap5,trivial⟩,apP,trivial⟩,ar4,⟨trivial,aog,trivial⟩⟩⟩,aqx,⟨⟨⟨⟨trivial,aoG,trivial⟩,aqC,trivial⟩,aqT,⟨trivial,aqO,trivial⟩⟩,ard,⟨⟨⟨trivial,aqH,trivial⟩,arU,trivial⟩,aqg,⟨trivial,ap3,trivial⟩⟩⟩⟩,arq,⟨⟨⟨⟨⟨trivial,aq8,trivial⟩,apz,trivial⟩,aqP,⟨trivial,aph,trivial⟩⟩,ao2,⟨⟨⟨trivial,aq6,trivial⟩,arL,trivial⟩,aqZ,⟨trivial,aq9,trivial⟩⟩⟩,arn,⟨⟨⟨⟨trivial,aok,trivial⟩,arz,trivial⟩,aqK,⟨trivial,apZ,trivial⟩⟩,aoO,⟨⟨⟨trivial,aqB,trivial⟩,apW,trivial⟩,aoS,⟨trivial,arv,trivial⟩⟩⟩⟩⟩⟩⟩
theorem okT:tq prog.fns=true:=by kernel_rfl
theorem link:Linked Tryz.prog (aem ids alts) (Dy ids) (fG prog):=linked (by kernel_rfl) (by kernel_rfl) all (by kernel_rfl)
end P
end
section
namespace Go.Pw
open Go Go.Pav
inductive CT where
 | bool
 | int (k:IntKind)
 | str
 | slice (ts:List CT)
inductive Ty:CT→AV→Prop
 | bool (b:Bool):Ty .bool (.bool b)
 | int (k:IntKind) (n:Int) (h1:k.min≤n) (h2:n≤k.max):Ty (.int k) (.int k n)
 | str (s:List UInt8) (h:s.length < 2 ^ 63):Ty .str (.str s)
 | slice (ts:List CT) (es:List (List AV)) (ex:Bool) (hn:es.length < 2 ^ 63) (hw:∀ (i:Nat) (e:List AV),es[i]?=some e→e.length=ts.length)
  (h:∀ (i:Nat) (e:List AV) (j:Nat) (ct:CT) (x:AV),es[i]?=some e→ts[j]?=some ct→e[j]?=some x→Ty ct x):Ty (.slice ts) (.ro ts.length es ex)
theorem Ty.isC {ct:CT} {a:AV} (h:Ty ct a):Pw.isC a=true:=by cases h <;> rfl
def zT (F:TypeId→Option (List CT)) (P:Program):List Field→Nat→Option (List CT)
 | [],_=>some []
 | f::r,off=>(F f.type).bind fun ts=>if f.offset=off∧ts.length=P.cellsOf f.type then (zT F P r (off+ts.length)).map (ts++·) else none
def uM (P:Program):Nat→TypeId→Option (List CT)
 | 0,_=>none
 | n+1,t=>match P.underlying t with
  | some .bool=>some [.bool]
  | some (.int k)=>some [.int k]
  | some .string=>some [.str]
  | some (.slice e)=>(uM P n e).bind fun ts=>if ts.length=P.cellsOf e∧0 < ts.length then some [.slice ts] else none
  | some (.struct fs)=>(zT (uM P n) P fs.toList 0).bind fun ts=>if ts.length=P.cellsOf t then some ts else none
  | some (.array m e)=>(uM P n e).bind fun ts=>if ts.length=P.cellsOf e∧m * ts.length=P.cellsOf t then some (List.replicate m ts).flatten else none
  | _=>none
theorem DC {α:Type} (ts:List α):∀ (m j:Nat),j < m * ts.length→(List.replicate m ts).flatten[j]?=ts[j % ts.length]?
 | 0,j,h=>by simp at h
 | m+1,j,h=>by
  rw [List.replicate_succ,List.flatten_cons]
  rcases Nat.lt_or_ge j ts.length with hl | hl
  · rw [List.getElem?_append_left hl,Nat.mod_eq_of_lt hl]
  · rw [List.getElem?_append_right hl,DC ts m (j - ts.length) (by rw [Nat.add_mul] at h;omega),Nat.mod_eq_sub_mod hl]
theorem trod_array {H:Type} {enc:TypeId × Value→H} {P:Program} {w:World} {base:Nat} {spare:Nat→Bool} {held:Bool} {fuel:Nat} {t:TypeId} {cs:List Value} {x:DataW H × List MemPlace} {m:Nat} {e:TypeId}
 (ht:P.underlying t=some (.array m e)) (h:DataW.trod enc P w base spare held fuel t cs=some x) :
 ∃ (xs:List (DataW H × List MemPlace)) (n:Nat),fuel=n+1∧cs.length=P.cellsOf t∧xs.length=m ∧
  ∀ i,i < m→DataW.trod enc P w base spare held n e ((cs.drop (i * P.cellsOf e)).take (P.cellsOf e))=xs[i]?:=by
 cases fuel with
 | zero=>simp [DataW.trod] at h
 | succ n =>
  unfold DataW.trod at h
  rw [ht] at h
  split at h <;> simp_all
  obtain ⟨hl,xs,hp,hd⟩:=h
  exact ⟨xs,by simpa using mapM_some_length hp,fun i hi=>mapM_some_get hp i i (List.getElem?_range hi)⟩
def Gh (ψ:Nat→FuncId) (W:World) (ct:CT) (v:Value):Prop :=
 ∃ a a',Ty ct a∧VD id (fun _=>False) a a'∧a'.cell=true∧VR ψ W (fun c=>c < W.heap.size) (fun _=>(0,0)) (fun _=>False) a' v
section
variable {H:Type} {enc:TypeId × Value→H} {P:Program} {W:World} {ψ:Nat→FuncId}
theorem Ot {F:TypeId→Option (List CT)} {n:Nat} {cs:List Value}
 (hF:∀ t cs x ts,F t=some ts→DataW.trod enc P W 0 (fun _=>true) true n t cs=some x→cs.length=ts.length∧∀ (j:Nat) (ct:CT),ts[j]?=some ct→∃ v,cs[j]?=some v∧Gh ψ W ct v) :
 ∀ (fs:List Field) (off:Nat) (ts:List CT),zT F P fs off=some ts→(∀ f ∈ fs,∃ x,DataW.trod enc P W 0 (fun _=>true) true n f.type ((cs.drop f.offset).take (P.cellsOf f.type))=some x) →
  ∀ (j:Nat) (ct:CT),ts[j]?=some ct→∃ v,cs[off+j]?=some v∧Gh ψ W ct v:=by
 intro fs
 induction fs with
 | nil=>intro off ts h _ j ct hj;simp only [zT,Option.some.injEq] at h;subst h;simp at hj
 | cons f r ih =>
  intro off ts h hx j ct hj
  simp only [zT,Option.bind_eq_some_iff] at h
  obtain ⟨t1,h1,h⟩:=h
  split at h
  · rename_i hc
    simp only [Option.map_eq_some_iff] at h
    obtain ⟨t2,h2,rfl⟩:=h
    rcases Nat.lt_or_ge j t1.length with hl | hl
    · rw [List.getElem?_append_left hl] at hj
      obtain ⟨x,q⟩:=hx f (by simp)
      obtain ⟨v,q1,q2⟩:=(hF _ _ _ _ h1 q).2 j ct hj
      refine ⟨v,?_,q2⟩
      rw [List.getElem?_take] at q1
      split at q1
      · rw [List.getElem?_drop] at q1;rw [← hc.1];exact q1
      · cases q1
    · rw [List.getElem?_append_right hl] at hj
      obtain ⟨v,q1,q2⟩:=ih _ _ h2 (fun f hf=>hx f (by simp [hf])) _ ct hj
      exact ⟨v,by rw [← q1];congr 1;omega,q2⟩
  · cases h
theorem F6:∀ (n k:Nat) (t:TypeId) (cs:List Value) (x:DataW H × List MemPlace) (ts:List CT),uM P k t=some ts→DataW.trod enc P W 0 (fun _=>true) true n t cs=some x →
 cs.length=ts.length∧∀ (j:Nat) (ct:CT),ts[j]?=some ct→∃ v,cs[j]?=some v∧Gh ψ W ct v:=by
 intro n
 induction n with
 | zero=>intro k t cs x ts _ h;simp [DataW.trod] at h
 | succ n ih =>
  intro k t cs x ts hf h
  cases k with
  | zero=>simp [uM] at hf
  | succ k =>
   have one:∀ {v:Value} {ct:CT},cs=[v]→ts=[ct]→Gh ψ W ct v→cs.length=ts.length∧∀ (j:Nat) (ct:CT),ts[j]?=some ct→∃ v,cs[j]?=some v∧Gh ψ W ct v:=by
    intro v ct h1 h2 h3
    subst h1;subst h2
    refine ⟨rfl,fun j ct' hj=>?_⟩
    cases j with
    | zero=>simp only [List.getElem?_cons_zero,Option.some.injEq] at hj;subst hj;exact ⟨v,rfl,h3⟩
    | succ j=>simp at hj
   unfold uM at hf
   split at hf
   · rename_i ht
     cases hf
     obtain ⟨b,e,_⟩:=DataW.trod_bool ht h
     exact one e rfl ⟨_,_,.bool b,.bool b,rfl,.bool b⟩
   · rename_i k' ht
     cases hf
     obtain ⟨m,e,_,hw⟩:=DataW.trod_int ht h
     simp only [Lit.wf,Bool.and_eq_true,decide_eq_true_eq] at hw
     exact one e rfl ⟨_,_,.int k' m hw.1 hw.2,.int k' m,rfl,.int k' m⟩
   · rename_i ht
     cases hf
     obtain ⟨s,e,_,hw⟩:=DataW.trod_string ht h
     refine one e rfl ⟨.str s.data.toList,_,.str _ ?_,.str _,rfl,?_⟩
     · simp only [maxLen] at hw
       have:s.data.toList.length=s.size:=rfl
       omega
     · have:=VR.str (ψ:=ψ) (w:=W) (S:=fun c=>c < W.heap.size) (m:=fun _=>(0,0)) (A:=fun _=>False) s.data.toList
       exact this
   · rename_i el ht
     simp only [Option.bind_eq_some_iff] at hf
     obtain ⟨us,hu,hf⟩:=hf
     split at hf
     · rename_i hz
       obtain ⟨hz,hz0⟩:=hz
       cases hf
       rcases DataW.trod_slice ht h with ⟨e,_⟩ | ⟨a,len,cap,elems,rest,n',hn,e,_,_,hl,hm,hlen,hel,hsp,_⟩
       · exact one e rfl ⟨.ro us.length [] true,.aZ,.slice us [] true (by simp) (by simp) (by simp),.je _ _,rfl,.aZ⟩
       · cases hn
         refine one e rfl ?_
         have row:∀ i,i < cap→∃ vs y,W.cells? 0 (a.add (i * us.length)) us.length=some vs∧DataW.trod enc P W 0 (fun _=>true) true n el vs=some y:=by
          intro i hi
          rcases Nat.lt_or_ge i len with hil | hil
          · have:=hel i hil
            rw [List.getElem?_eq_getElem (by omega),Option.bind_eq_some_iff,← hz] at this
            obtain ⟨vs,q1,q2⟩:=this
            exact ⟨vs,_,q1,q2⟩
          · obtain ⟨q0,q⟩:=hsp rfl
            have:=q (i - len) (by omega)
            rw [List.getElem?_eq_getElem (by omega),Option.bind_eq_some_iff,← hz,show len+(i - len)=i by omega] at this
            obtain ⟨vs,q1,q2⟩:=this
            exact ⟨vs,_,q1,q2⟩
         rcases Nat.eq_zero_or_pos cap with hc0 | hc0
         · subst hc0
           obtain rfl:len=0:=by omega
           exact ⟨.ro us.length [] true,.ro us.length [] true,.slice us [] true (by simp) (by simp) (by simp),.ro _ [] [] true true (by simp) rfl id (by simp) (by simp),rfl,.roe _ _ _ 0 (fun _=>rfl)⟩
         · obtain ⟨b,off,spot⟩:=a
           have hfirst:∃ v,W.cell? ⟨b,off,spot⟩=some v:=by
            obtain ⟨vs,_,q1,_⟩:=row 0 hc0
            obtain ⟨_,q2,q3⟩:=World.cells?_some q1
            have:=q3 0 hz0
            rw [List.getElem?_eq_getElem (by omega)] at this
            exact ⟨_,by simpa [Addr.add] using this⟩
           obtain ⟨v0,hv0⟩:=hfirst
           obtain rfl:spot=none:=World.cell?_spot hv0
           have hS:b < W.heap.size:=by
            unfold World.cell? at hv0
            split at hv0
            · rename_i hb;exact (Array.getElem?_eq_some_iff.1 hb).1
            · cases hv0
           have key:∀ p:Nat × Nat,∃ q:Value × AV × AV,p.1 < len→∀ ct,us[p.2]?=some ct→W.cell? ⟨b,off+p.1 * us.length+p.2,none⟩=some q.1∧Ty ct q.2.1∧VD id (fun _=>False) q.2.1 q.2.2∧q.2.2.cell=true ∧
            VR ψ W (fun c=>c < W.heap.size) (fun _=>(0,0)) (fun _=>False) q.2.2 q.1:=by
            intro ⟨i,j⟩
            by_cases hi:i < len
            · cases hj:us[j]? with
              | none=>exact ⟨default,fun _ ct q=>by cases q⟩
              | some ct =>
               obtain ⟨vs,y,q1,q2⟩:=row i (by omega)
               obtain ⟨v,q3,c1,c2,q4,q5,q6,q7⟩:=(ih _ _ _ _ _ hu q2).2 j ct hj
               refine ⟨(v,c1,c2),fun _ ct' q=>?_⟩
               cases q
               refine ⟨?_,q4,q5,q6,q7⟩
               obtain ⟨_,r1,r2⟩:=World.cells?_some q1
               have hjl:j < us.length:=(List.getElem?_eq_some_iff.1 hj).1
               have:=r2 j hjl
               rw [q3] at this
               rw [← this]
               congr 1
               simp only [Addr.add]
               split <;> split <;> simp_all <;> omega
            · exact ⟨default,fun q=>absurd q hi⟩
           obtain ⟨F,hF⟩:=Classical.axiomOfChoice key
           let es:List (List AV):=(List.range len).map fun i=>(List.range us.length).map fun j=>(F (i,j)).2.1
           let es':List (List AV):=(List.range len).map fun i=>(List.range us.length).map fun j=>(F (i,j)).2.2
           have g1:∀ (i:Nat) (e:List AV),es[i]?=some e→i < len∧e=(List.range us.length).map fun j=>(F (i,j)).2.1:=by
            intro i e he
            simp only [es,List.getElem?_map,Option.map_eq_some_iff] at he
            obtain ⟨i',q1,q2⟩:=he
            have:=List.getElem?_eq_some_iff.1 q1
            obtain ⟨q3,q4⟩:=this
            simp at q3 q4
            subst q4
            exact ⟨q3,q2.symm⟩
           have g1':∀ (i:Nat) (e:List AV),es'[i]?=some e→i < len∧e=(List.range us.length).map fun j=>(F (i,j)).2.2:=by
            intro i e he
            simp only [es',List.getElem?_map,Option.map_eq_some_iff] at he
            obtain ⟨i',q1,q2⟩:=he
            have:=List.getElem?_eq_some_iff.1 q1
            obtain ⟨q3,q4⟩:=this
            simp at q3 q4
            subst q4
            exact ⟨q3,q2.symm⟩
           have g2:∀ (G:Nat→AV) (j:Nat) (x:AV),((List.range us.length).map G)[j]?=some x→∃ ct,us[j]?=some ct∧x=G j:=by
            intro G j x hx
            simp only [List.getElem?_map,Option.map_eq_some_iff] at hx
            obtain ⟨j',q1,q2⟩:=hx
            obtain ⟨q3,q4⟩:=List.getElem?_eq_some_iff.1 q1
            simp at q3 q4
            subst q4
            exact ⟨us[j],List.getElem?_eq_getElem q3,q2.symm⟩
           have l1:es.length=len:=by simp [es]
           have l2:es'.length=len:=by simp [es']
           refine ⟨.ro us.length es (decide (cap=len)),.ro us.length es' (decide (cap=len)),.slice us es _ ?_ ?_ ?_,.ro _ es es' _ _ ?_ (by rw [l1,l2]) id ?_ ?_,rfl,?_⟩
           · rw [l1];simp only [maxLen] at hm;omega
           · intro i e he;rw [(g1 i e he).2];simp
           · intro i e j ct y he hct hy
             obtain ⟨q1,rfl⟩:=g1 i e he
             obtain ⟨ct',q2,rfl⟩:=g2 _ j y hy
             rw [hct] at q2
             cases q2
             exact (hF (i,j) q1 ct hct).2.1
           · intro e he y hy
             obtain ⟨i,he⟩:=List.getElem?_of_mem he
             obtain ⟨j,hy⟩:=List.getElem?_of_mem hy
             obtain ⟨q1,rfl⟩:=g1 i e he
             obtain ⟨ct',q2,rfl⟩:=g2 _ j y hy
             exact (hF (i,j) q1 ct' q2).2.1.isC
           · intro i e e' he he'
             rw [(g1 i e he).2,(g1' i e' he').2];simp
           · intro i e e' j y y' he he' hy hy'
             obtain ⟨q1,rfl⟩:=g1 i e he
             obtain ⟨_,rfl⟩:=g1' i e' he'
             obtain ⟨ct',q2,rfl⟩:=g2 _ j y hy
             obtain ⟨_,_,rfl⟩:=g2 _ j y' hy'
             exact (hF (i,j) q1 ct' q2).2.2.1
           · have:=VR.ro (ψ:=ψ) (w:=W) (S:=fun c=>c < W.heap.size) (m:=fun _=>(0,0)) (A:=fun _=>False) us.length es' (decide (cap=len)) b off cap (fun i j=>(F (i,j)).1) hS
              (fun i e he=>by rw [(g1' i e he).2];simp) (by rw [l2];exact hl) (fun q=>by rw [l2];simpa using q)
              (fun i e j y he hy=>by
               obtain ⟨q1,rfl⟩:=g1' i e he
               obtain ⟨ct',q2,rfl⟩:=g2 _ j y hy
               have:=hF (i,j) q1 ct' q2
               exact ⟨this.2.2.2.1,this.1⟩)
              (fun i e j y he hy=>by
               obtain ⟨q1,rfl⟩:=g1' i e he
               obtain ⟨ct',q2,rfl⟩:=g2 _ j y hy
               exact (hF (i,j) q1 ct' q2).2.2.2.2)
             rw [l2] at this
             exact this
     · cases hf
   · rename_i fs ht
     simp only [Option.bind_eq_some_iff] at hf
     obtain ⟨us,hu,hf⟩:=hf
     split at hf
     · rename_i hz
       cases hf
       obtain ⟨xs,n',hn,_,hcl,hxl,hx⟩:=DataW.trod_struct ht h
       cases hn
       refine ⟨by rw [hcl,hz],fun j ct hj=>?_⟩
       have:=Ot (cs:=cs) (F:=uM P k) (n:=n) (fun t cs x ts h1 h2=>ih k t cs x ts h1 h2) fs.toList 0 _ hu (fun f hf=>by
        obtain ⟨i,hi⟩:=List.getElem?_of_mem hf
        have hi':fs[i]?=some f:=by simpa using hi
        have hlt:i < fs.size:=(Array.getElem?_eq_some_iff.1 hi').1
        have:=hx i f hi'
        rw [List.getElem?_eq_getElem (by omega)] at this
        exact ⟨_,this⟩) j ct hj
       simpa using this
     · cases hf
   · rename_i m' e ht
     simp only [Option.bind_eq_some_iff] at hf
     obtain ⟨us,hu,hf⟩:=hf
     split at hf
     · rename_i hz
       obtain ⟨hz1,hz2⟩:=hz
       cases hf
       obtain ⟨xs,n',hn,hcl,hxl,hx⟩:=trod_array ht h
       cases hn
       have hlen:(List.replicate m' us).flatten.length=m' * us.length:=by simp
       refine ⟨by rw [hcl,hlen,hz2],fun j ct hj=>?_⟩
       have hjl:j < m' * us.length:=by rw [← hlen];exact (List.getElem?_eq_some_iff.1 hj).1
       have hk:0 < us.length:=by
        rcases Nat.eq_zero_or_pos us.length with q | q
        · rw [q,Nat.mul_zero] at hjl;omega
        · exact q
       rw [DC us m' j hjl] at hj
       have hq:j / us.length < m':=Nat.div_lt_of_lt_mul (by rw [Nat.mul_comm];exact hjl)
       have hxq:=hx (j / us.length) hq
       rw [List.getElem?_eq_getElem (by omega)] at hxq
       obtain ⟨v,q1,q2⟩:=(ih k e _ _ us hu hxq).2 (j % us.length) ct hj
       refine ⟨v,?_,q2⟩
       rw [List.getElem?_take] at q1
       split at q1
       · rw [List.getElem?_drop,← hz1] at q1
         rw [← q1];congr 1
         exact (Nat.div_add_mod' j us.length).symm
       · cases q1
     · cases hf
   · cases hf
inductive AT where
 | c (ct:CT)
 | g (ts:List CT)
def AT.has:AT→AV→Prop
 | .c ct,a=>Ty ct a
 | .g ts,a=>∃ es,a=.agg es∧es.length=ts.length∧∀ (j:Nat) (ct:CT) (x:AV),ts[j]?=some ct→es[j]?=some x→Ty ct x
def aaU (P:Program) (t:TypeId):Option AT :=
 match P.underlying t with
 | some (.struct _)=>(uM P 20 t).map .g
 | some (.array _ _)=>(uM P 20 t).map .g
 | some .bool | some (.int _) | some .string | some (.slice _)=>match uM P 20 t with | some [ct]=>some (.c ct) | _=>none
 | _=>none
theorem Pj {t:TypeId} {base:Nat} {v:Value} (hu:P.underlying t=some .bool∨(∃ k,P.underlying t=some (.int k))∨P.underlying t=some .string∨∃ e,P.underlying t=some (.slice e)) (h:Value.okWide P W .any base t v) :
 v.cells=#[v]:=by
 cases v <;> try rfl
 rcases hu with hu | ⟨k,hu⟩ | hu | ⟨e,hu⟩ <;> simp [Value.okWide,hu,Cell.okWide,Cell.ok] at h
theorem aby {t:TypeId} {at_:AT} (ha:aaU P t=some at_) {base:Nat} {v:Value} (hv:Value.okWide P W .any base t v) {d:DataW H} {p:List MemPlace} (h:DataW.Trod enc P W 0 (fun _=>true) true t v d p) :
 ∃ a a',at_.has a∧VD id (fun _=>False) a a'∧VR ψ W (fun c=>c < W.heap.size) (fun _=>(0,0)) (fun _=>False) a' v:=by
 obtain ⟨fuel,h⟩:=h
 have plain:(P.underlying t=some .bool∨(∃ k,P.underlying t=some (.int k))∨P.underlying t=some .string∨∃ e,P.underlying t=some (.slice e)) →
  (match uM P 20 t with | some [ct]=>some (AT.c ct) | _=>none)=some at_→∃ a a',at_.has a∧VD id (fun _=>False) a a'∧VR ψ W (fun c=>c < W.heap.size) (fun _=>(0,0)) (fun _=>False) a' v:=by
  intro hu he
  split at he
  · rename_i ct hf
    cases he
    rw [Pj hu hv] at h
    obtain ⟨_,q⟩:=F6 (ψ:=ψ) _ _ _ _ _ _ hf h
    obtain ⟨v',q1,a,a',q2,q3,_,q4⟩:=q 0 ct rfl
    simp only [List.getElem?_cons_zero,Option.some.injEq] at q1
    subst q1
    exact ⟨a,a',q2,q3,q4⟩
  · cases he
 have whole:(∃ cs,v=.agg cs)→(uM P 20 t).map AT.g=some at_→∃ a a',at_.has a∧VD id (fun _=>False) a a'∧VR ψ W (fun c=>c < W.heap.size) (fun _=>(0,0)) (fun _=>False) a' v:=by
  rintro ⟨cs,rfl⟩ ha
  simp only [Option.map_eq_some_iff] at ha
  obtain ⟨ts,hf,rfl⟩:=ha
  obtain ⟨hl,q⟩:=F6 (ψ:=ψ) _ _ _ _ _ _ hf h
  simp only [Value.cells] at hl q
  have key:∀ j:Nat,∃ x:AV × AV,∀ ct,ts[j]?=some ct→Ty ct x.1∧VD id (fun _=>False) x.1 x.2∧x.2.cell=true∧∃ v,cs.toList[j]?=some v∧VR ψ W (fun c=>c < W.heap.size) (fun _=>(0,0)) (fun _=>False) x.2 v:=by
   intro j
   cases hj:ts[j]? with
   | none=>exact ⟨default,fun _ q=>by cases q⟩
   | some ct =>
    obtain ⟨v,q1,a,a',q2,q3,q4,q5⟩:=q j ct hj
    exact ⟨(a,a'),fun ct' e=>by cases e;exact ⟨q2,q3,q4,v,q1,q5⟩⟩
  obtain ⟨F,hF⟩:=Classical.axiomOfChoice key
  have g2:∀ (G:Nat→AV) (j:Nat) (x:AV),((List.range ts.length).map G)[j]?=some x→∃ ct,ts[j]?=some ct∧x=G j:=by
   intro G j x hx
   simp only [List.getElem?_map,Option.map_eq_some_iff] at hx
   obtain ⟨j',q1,q2⟩:=hx
   obtain ⟨q3,q4⟩:=List.getElem?_eq_some_iff.1 q1
   simp at q3 q4
   subst q4
   exact ⟨ts[j],List.getElem?_eq_getElem q3,q2.symm⟩
  refine ⟨.agg ((List.range ts.length).map fun j=>(F j).1),.agg ((List.range ts.length).map fun j=>(F j).2),⟨_,rfl,by simp,?_⟩,.agg _ _ (by simp) ?_,.agg _ _ ?_ ?_ ?_⟩
  · intro j ct x hct hx
    obtain ⟨ct',q1,rfl⟩:=g2 _ j x hx
    exact (hF j ct hct).1
  · intro j x x' hx hx'
    obtain ⟨ct,q1,rfl⟩:=g2 _ j x hx
    obtain ⟨_,_,rfl⟩:=g2 _ j x' hx'
    exact (hF j ct q1).2.1
  · simp only [List.length_map,List.length_range]
    rw [← hl];simp
  · intro j x hx
    obtain ⟨ct,q1,rfl⟩:=g2 _ j x hx
    exact (hF j ct q1).2.2.1
  · intro j x hx
    obtain ⟨ct,q1,rfl⟩:=g2 _ j x hx
    obtain ⟨v,q2,q3⟩:=(hF j ct q1).2.2.2
    have e:cs[j]?=some v:=by simpa using q2
    rw [Array.getD_eq_getD_getElem?,e]
    exact q3
 unfold aaU at ha
 split at ha
 · rename_i fs ht
   simp only [Value.okWide,ht] at hv
   obtain ⟨cs,hv,_,_⟩:=hv
   exact whole ⟨cs,hv⟩ ha
 · rename_i m e ht
   simp only [Value.okWide,ht] at hv
   obtain ⟨cs,hv,_,_⟩:=hv
   exact whole ⟨cs,hv⟩ ha
 · rename_i ht;exact plain (.inl ht) ha
 · rename_i k ht;exact plain (.inr (.inl ⟨k,ht⟩)) ha
 · rename_i ht;exact plain (.inr (.inr (.inl ht))) ha
 · rename_i e ht;exact plain (.inr (.inr (.inr ⟨e,ht⟩))) ha
 · cases ha
def UF:List AT→List AV→Prop
 | [],[]=>True
 | a::r,x::s=>a.has x∧UF r s
 | _,_=>False
theorem I4 {base:Nat}:∀ {ts:List TypeId} {ats:List AT} {vs:List Value} {ds:List (DataW H)} {p:List MemPlace},ts.map (aaU P)=ats.map some →
 (∀ (j:Nat) (t:TypeId) (v:Value),ts[j]?=some t→vs[j]?=some v→Value.okWide P W .any base t v)→DataW.TrodAll enc P W 0 (fun _=>true) true ts vs ds p →
 ∃ us us',UF ats us∧bf (VD id fun _=>False) us us'∧us'.length=vs.length∧∀ (j:Nat) (x:AV) (v:Value),us'[j]?=some x→vs[j]?=some v→VR ψ W (fun c=>c < W.heap.size) (fun _=>(0,0)) (fun _=>False) x v
 | [],[],vs,ds,p,_,_,h=>by
  obtain ⟨rfl,_,_⟩:=ChangeShapes.trodAll_nil h
  exact ⟨[],[],trivial,⟨rfl,by simp⟩,rfl,by simp⟩
 | t::ts,at_::ats,_,_,_,hm,hv,h=>by
  obtain ⟨v,vs1,d,ds1,p1,q1,rfl,rfl,rfl,h1,h2⟩:=ChangeShapes.trodAll_cons h
  simp only [List.map_cons,List.cons.injEq] at hm
  obtain ⟨a,a',r1,r2,r3⟩:=aby (ψ:=ψ) hm.1 (hv 0 t v rfl rfl) h1
  obtain ⟨us,us',s1,s2,s3,s4⟩:=I4 hm.2 (fun j t v e1 e2=>hv (j+1) t v e1 e2) h2
  refine ⟨a::us,a'::us',⟨r1,s1⟩,⟨by simp [s2.1],fun j x x' e1 e2=>?_⟩,by simp [s3],fun j x v' e1 e2=>?_⟩
  · cases j with
    | zero=>cases e1;cases e2;exact r2
    | succ j=>exact s2.2 j x x' e1 e2
  · cases j with
    | zero=>cases e1;cases e2;exact r3
    | succ j=>exact s4 j x v' e1 e2
 | [],_::_,_,_,_,hm,_,_=>by simp at hm
 | _::_,[],_,_,_,hm,_,_=>by simp at hm
theorem Xm {Φ:Nat→FuncId→Option Nat} {D:aI} (hL:Linked P Φ ψ (fG D)) (hok:tq D.fns=true) {f:Nat} {ts:List TypeId} {ats:List AT} (hts:ts.map (aaU P)=ats.map some)
 (core:∀ us,UF ats us→FnW D f us=some (.bool true)) {base:Nat} {args:Array Value} {ds:List (DataW H)} {p:List MemPlace}
 (hv:∀ (j:Nat) (t:TypeId) (v:Value),ts[j]?=some t→args[j]?=some v→Value.okWide P W .any base t v) (hA:DataW.TrodAll enc P W 0 (fun _=>true) true ts args.toList ds p) :
 Calls P (ψ f) args W fun e W'=>e=.returned (.bool true)∧(∀ c,c < W.heap.size→W'.heap[c]?=W.heap[c]?)∧W.heap.size≤W'.heap.size∧W'.os=W.os∧W'.output=W.output:=by
 obtain ⟨us,us',h1,h2,h3,h4⟩:=I4 (ψ:=ψ) hts (fun j t v e1 e2=>hv j t v e1 (by simpa using e2)) hA
 obtain ⟨n,hc⟩:=O1.1 (core us h1)
 obtain ⟨v',hc',hvd⟩:=abO hok h2 hc
 rw [hvd.fJ] at hc'
 refine (acd hL hc' (w:=W) (S:=fun c=>c < W.heap.size) (m:=fun _=>(0,0)) (cargs:=args) (fun _ h=>h) (by rw [h3];simp) fun j x hx=>?_).mono ?_
 · have hj:j < args.size:=by have:=(List.getElem?_eq_some_iff.1 hx).1;rw [h3] at this;simpa using this
   rw [Array.getD_eq_getD_getElem?,Array.getElem?_eq_getElem hj]
   exact h4 j x _ hx (by simp [hj])
 · rintro e W' ⟨cv,S',m',rfl,hr,q1,q2,q3,q4⟩
   rw [hr.iq]
   exact ⟨rfl,q1,q2,q3,q4⟩
theorem Df {W':World} (hh:∀ c,c < W.heap.size→W'.heap[c]?=W.heap[c]?) {base:Nat} {sp:Nat→Bool} {held:Bool}:∀ {ts:List TypeId} {vs:List Value} {ds:List (DataW H)} {ps:List MemPlace},
 DataW.TrodAll enc P W base sp held ts vs ds ps→(∀ p ∈ ps,p.block < W.heap.size)→DataW.TrodAll enc P W' base sp held ts vs ds ps
 | [],[],[],_,h,_=>h
 | _::_,_::_,_::_,_,⟨p,q,⟨n,h1⟩,h2,e⟩,hs=>⟨p,q,⟨n,DataW.trod_carry n _ _ _ h1 fun x hx=>by
  have hlt:=hs x (by rw [e];exact List.mem_append_left _ hx)
  cases x with
  | cell b off=>simp only [World.sameAt,World.cell?];rw [hh b hlt]
  | map b=>exact hh b hlt⟩,Df hh h2 (fun x hx=>hs x (by rw [e];exact List.mem_append_right _ hx)),e⟩
theorem keptBut_old {W':World} (hh:∀ c,c < W.heap.size→W'.heap[c]?=W.heap[c]?) (ho:W'.os=W.os) (hp:W'.output=W.output) (may:MemPlace→Prop):W.keptBut W' may:=by
 have h:=World.keptBut_refl W may
 refine ⟨ho,hp,fun i hi=>?_⟩
 have:=h.2.2 i hi
 rw [hh i hi]
 exact this
theorem acr {f:Func} {s:ChangeSpec} {fresh handsOn again:Bool} {W':World} {args:Array Value} {ds gs:List (DataW H)} {before:List MemPlace} {tb:TypeId}
 (kids:Kids P (· < P.types.size)) (full:∀ t e,t < P.types.size→P.underlying t=some (.slice e)→0 < P.cellsOf e)
 (hvars0:s.vars=[]) (hW:DataW.Whole enc P f.params.toList s.vars false W args.toList ds gs before) (hfn:s.fn H (ds++gs)={ results:=[.lit (.bool true)],args:=ds })
 (hps:∀ t ∈ f.params.toList,t < P.types.size) (hr:f.resultTypes=#[tb]) (htb:P.underlying tb=some .bool)
 (hh:∀ c,c < W.heap.size→W'.heap[c]?=W.heap[c]?) (_hsz:W.heap.size≤W'.heap.size) (ho:W'.os=W.os) (hp:W'.output=W.output) :
 s.post enc P f false fresh handsOn again W args (.bool true) W':=by
 have hlt:∀ p ∈ before,p.block < W.heap.size:=hW.lt
 have hW':=hW
 obtain ⟨p,q,hA,hV,rfl,hz,_⟩:=hW
 rw [hvars0] at hV
 obtain ⟨rfl,rfl⟩:=ChangeShapes.trodVars_none hV
 simp only [List.append_nil] at hlt hz hW' hfn
 have hargs:∀ sp:Nat→Bool,(∀ x ∈ p,sp x.block=true)→DataW.TrodAll enc P W' 0 sp true f.params.toList args.toList ds p:=fun sp hsp =>
  Df hh (DataW.TrodAll.respare kids full hps hA hsp) hlt
 have hvars:∀ sp:Nat→Bool,DataW.TrodVars enc P W' sp s.vars [] []:=fun sp=>by rw [hvars0];rfl
 have hres:∀ (b:Nat) (sp:Nat→Bool) (hd:Bool),DataW.TrodAll enc P W' b sp hd f.resultTypes.toList ((Value.bool true).resultList f.resultTypes.size) [.lit (.bool true)] []:=fun b sp hd=>by
  rw [hr];exact ChangeShapes.trodAll_mk1 (RowKit.shut_bool htb true)
 have hok:∀ (j:Nat) (t:TypeId) (r:Value),f.resultTypes[j]?=some t→((Value.bool true).resultList f.resultTypes.size)[j]?=some r→Value.okWide P W' .any 0 t r :=
  RowKit.ok_one hr rfl (by simp [Value.okWide,htb,Cell.okWide,Cell.ok])
 have hold:∀ x ∈ p,(fun b=>decide (b < W.heap.size)) x.block=true:=fun x hx=>by simpa using hlt x hx
 refine ⟨ds,[],p,[],p,[],hW',?_,?_,?_,keptBut_old hh ho hp _,fun _=>⟨hok,[.lit (.bool true)]++ds,[],([]++p)++[],⟨[]++p,[],?_,hvars _,rfl,?_,fun h=>by cases h⟩,?_⟩⟩
 · rw [List.append_nil,hfn];exact hres _ _ _
 · rw [List.append_nil,hfn];exact hargs _ hold
 · rw [List.append_nil,hfn];exact hvars _
 · exact ChangeShapes.trodAll_append (hargs _ fun _ _=>rfl) (hres _ _ _)
 · intro b off hb
   simp only [List.nil_append,List.append_nil] at hb
   have:=hz b off hb
   unfold World.frozen? at this ⊢
   rw [hh b (hlt _ hb)]
   exact this
 · intro x hx _
   simpa using hx
theorem Dk {base:Nat} {sp:Nat→Bool} {held:Bool}:∀ {ts:List TypeId} {vs:List Value} {ds:List (DataW H)} {ps:List MemPlace},DataW.TrodAll enc P W base sp held ts vs ds ps→ds.length=ts.length
 | [],[],[],_,_=>rfl
 | _::_,_::_,_::_,_,⟨_,_,_,h2,_⟩=>by simp [Dk h2]
def isTrue:Option AV→Bool
 | some (.bool true)=>true
 | _=>false
theorem XB {o:Option AV} (h:isTrue o=true):o=some (.bool true):=by
 unfold isTrue at h
 split at h
 · rfl
 · cases h
end
end Go.Pw
end
section
namespace Go.Proofs.YtlkfpgggbjlfgaaGreat
open Go.ChangeShapes Go.WideShapes Go.ChangeAt Go.RowKit Go.Pav Go.Pw P
theorem arZ:ownKnob Tryz.prog.godebug=none:=by kernel_rfl
theorem alc:Kids Tryz.prog (· < Tryz.prog.types.size):=kids_rows (by kernel_rfl) (by kernel_rfl)
theorem alB:∀ t e,t < Tryz.prog.types.size→Tryz.prog.underlying t=some (.slice e)→0 < Tryz.prog.cellsOf e:=slices_full_of Tryz.prog (by kernel_rfl)
end Go.Proofs.YtlkfpgggbjlfgaaGreat
end
section
namespace Go.D
open Go Go.Pav Go.Pw P
attribute [-simp] List.getElem_cons_drop
variable {C:aI}
structure It where
 (k t:Int) (x:List UInt8) (m:List (List UInt8)) (e:Bool)
abbrev eIt (i:It):AV:=.agg [.int .u64 i.k,.int .u8 i.t,.str i.x,.ro 1 (i.m.map eS) i.e]
structure OX (C:aI):Prop extends pR C where
 ahR:C.fns.get 398=some TF
 aiM:C.fns.get 424=some PD
 ajs:C.fns.get 494=some acj
 adW:C.fns.get 496=some Si
 aix:C.fns.get 497=some aaT
 ajt:C.fns.get 498=some abX
 ajD:C.fns.get 499=some agH
 ahI:C.fns.get 544=some aee
theorem Yg (H:pR C) (s:List UInt8) (hl:s.length≤16):∀ n i,n+i=s.length →
 Eb C ⟨[(3,.int .i64 i),(0,.str s)],[],0⟩=some (.int .i64 (if (s.drop i).all inN=true then 1 else 0)):=by
 intro n
 induction n with
 | zero =>
  intro i hi
  simp only [Eb];rw [aj Bd.eq_1]
  have h1:s.drop i=[]:=List.drop_eq_nil_of_le (by omega)
  have h3:¬ i < s.length:=by omega
  simp [aj LW.eq_1,h1,h3]
 | succ n ih =>
  intro i hi
  have h1:i < s.length:=by omega
  have:=ih (i+1) (by omega)
  simp only [Eb] at this ⊢;rw [aj Bd.eq_1]
  rw [drop_cons h1]
  generalize hX:((s.drop (i+1)).all inN)=X at *
  simp at this
  rw [List.all_cons,hX]
  have key:=Cj s[i]
  by_cases q1:97≤s[i].toNat <;> by_cases q2:s[i].toNat≤122 <;> by_cases q3:48≤s[i].toNat <;> by_cases q4:s[i].toNat≤57 <;> first
   | (exfalso;omega)
   | (
    have c:inN s[i]=true:=by rcases key with ⟨c,_⟩ | ⟨_,q⟩ <;> first | exact c | (exfalso;omega)
    simp (disch:=omega) [h1,aG,c,q1,q2,q3,q4,this];done)
   | (
    have c:inN s[i]=false:=by rcases key with ⟨_,q⟩ | ⟨c,_⟩ <;> first | exact c | (exfalso;omega)
    simp (disch:=omega) [h1,aG,c,q1,q2,q3,q4];done)
theorem afE (H:pR C) (s:List UInt8):FnW C 511 [.str s]=some (.int .i64 (if isName s=true then 1 else 0)):=by
 rw [aF H.ah2 rfl]
 unfold isName
 by_cases c1:1≤s.length
 · by_cases c2:s.length≤16
   · have:=Yg H s c2 s.length 0 (by simp)
     simp only [Eb] at this
     simp only [List.drop_zero] at this
     generalize hX:s.all inN=X at *
     simp at this
     have c3:¬ ((s.length:Int) < 1):=by omega
     have c4:¬ (16 < (s.length:Int)):=by omega
     simp [XZ,c1,c2,c3,c4,this]
   · have c3:¬ ((s.length:Int) < 1):=by omega
     have c4:(16 < (s.length:Int)):=by omega
     simp [XZ,c1,c2,c3,c4]
 · have c3:((s.length:Int) < 1):=by omega
   simp [XZ,c1,c3]
theorem agl (H:OX C):Pred C 496 inT where
 asc b hb:=by
  rw [aF H.adW rfl]
  by_cases c1:32≤b.toNat <;> by_cases c2:126 < b.toNat
  · have c:inT b=false:=decide_eq_false (fun q=>by omega)
    simp [Si,c,c1,c2]
  · have c:inT b=true:=decide_eq_true ⟨c1,by omega⟩
    simp [Si,c,c1,c2]
  · omega
  · have c:inT b=false:=decide_eq_false (fun q=>c1 q.1)
    simp [Si,c,c1,c2]
 high r hr:=by
  rw [aF H.adW rfl]
  have h1:32≤r:=by omega
  have h2:126 < r:=by omega
  simp [Si,h1,h2]
 qh b hb:=decide_eq_false (fun q=>by omega)
 ne:=by rfl
 ni:=by rfl
structure VZ (C:aI) (g:Nat) (Q:List UInt8→Bool):Prop where
 ok:∀ s,FnW C g [.str s]=some (.bool (!Q s))
 ne:ppB g=false
 ni:ay g=false
theorem P9 (H:OX C) {g:Nat} {Q:List UInt8→Bool} (G:VZ C g Q) (l:List (List UInt8)) (e:Bool) (hl:l.length≤1000000):∀ n i,n+i=l.length →
 ∃ v:Int,Aj C ⟨[(8,.int .i64 i),(7,.int .i64 l.length),(1,.fn g []),(0,.ro 1 (l.map eS) e)],[],0⟩=some (.int .i64 v)∧decide (v < 0)=(l.drop i).all Q:=by
 intro n
 induction n with
 | zero =>
  intro i hi
  simp only [Aj];rw [aj vX.eq_1]
  have h1:l.drop i=[]:=List.drop_eq_nil_of_le (by omega)
  have h3:¬ i < l.length:=by omega
  exact ⟨-1,by simp [aj Ob.eq_1,h3],by simp [h1]⟩
 | succ n ih =>
  intro i hi
  have h1:i < l.length:=by omega
  have hN:=G.ne;have hI:=G.ni
  have hb:=G.ok l[i]
  rw [drop_cons h1]
  by_cases c:Q l[i]=true
  · obtain ⟨v,hv,hq⟩:=ih (i+1) (by omega)
    refine ⟨v,?_,by simp [hq,c]⟩
    simp only [Aj] at hv ⊢;rw [aj vX.eq_1]
    simp at hv
    simp (disch:=omega) [h1,aG,hb,c,H.inl,hI,H.pp,hN,hv]
  · refine ⟨i,?_,by simp [c]⟩
    simp only [Aj];rw [aj vX.eq_1]
    simp (disch:=omega) [h1,hb,c,H.inl,hI,H.pp,hN]
theorem zH (H:OX C) {g:Nat} {Q:List UInt8→Bool} (G:VZ C g Q) (l:List (List UInt8)) (e:Bool) (hl:l.length≤1000000) :
 FnW C 498 [.ro 1 (l.map eS) e,.fn g []]=some (.bool (!l.all Q)):=by
 obtain ⟨v,h,q⟩:=P9 H G l e hl l.length 0 (by simp)
 simp at q
 have h2:FnW C 544 [.ro 1 (l.map eS) e,.fn g []]=some (.int .i64 v):=by
  rw [aF H.ahI rfl]
  simp only [Aj] at h
  simp at h
  simp [aee,h]
 rw [aF H.ajt rfl]
 have q':decide (v < 0)=l.all Q:=by simpa using q
 rw [← q']
 by_cases c:v < 0
 · have c':¬ 0≤v:=by omega
   simp [abX,H.inl,ay,H.pp,ppB,h2,c,c']
 · have c':0≤v:=by omega
   simp [abX,H.inl,ay,H.pp,ppB,h2,c,c']
theorem agE (H:OX C):VZ C 499 isName where
 ok s:=by
  have:=Zc H.topR s
  rw [aF H.ajD rfl]
  simp [agH,H.inl,ay,H.pp,ppB,this]
 ne:=by rfl
 ni:=by rfl
def fF (n:Int) (i:It):Bool:=decide (i.k≠0)&&decide (i.t < n)&&isText i.x&&(decide (i.m.length≤8)&&i.m.all isName)
theorem wZ (H:OX C) (i:It) (n:Int) (ht:0≤i.t∧i.t≤255):FnW C 398 [eIt i,.int .i64 n]=some (.int .i64 (if fF n i=true then 0 else 6)):=by
 have h1:FnW C 494 [.rop [.int .u64 i.k,.int .u8 i.t,.str i.x,.ro 1 (i.m.map eS) i.e]]=some (.bool (isText i.x)):=by
  have:=Dw H.topR (agl H) i.x
  rw [aF H.ajs rfl]
  unfold isText
  by_cases c2:i.x.length≤64
  · have c4:(i.x.length:Int)≤64:=by omega
    simp [acj,c2,c4,H.inl,ay,H.pp,ppB,this]
  · have c4:¬ ((i.x.length:Int)≤64):=by omega
    simp [acj,c2,c4]
 have h2:FnW C 497 [.rop [.int .u64 i.k,.int .u8 i.t,.str i.x,.ro 1 (i.m.map eS) i.e]]=some (.bool (decide (i.m.length≤8)&&i.m.all isName)):=by
  rw [aF H.aix rfl]
  by_cases c2:i.m.length≤8
  · have:=zH H (agE H) i.m i.e (by omega)
    have c4:(i.m.length:Int)≤8:=by omega
    simp [aaT,c2,c4,H.inl,ay,H.pp,ppB,this]
  · have c4:¬ ((i.m.length:Int)≤8):=by omega
    simp [aaT,c2,c4]
 rw [aF H.ahR rfl]
 unfold fF
 generalize isText i.x=X at *
 generalize (decide (i.m.length≤8)&&i.m.all isName)=M at *
 by_cases c1:i.k=0
 · simp [TF,c1]
 · by_cases c2:n≤i.t
   · have c3:¬ i.t < n:=by omega
     simp (disch:=omega) [TF,c1,c2,c3,aG]
   · have c3:i.t < n:=by omega
     cases X
     · simp (disch:=omega) [TF,c1,c2,c3,aG,H.inl,ay,H.pp,ppB,h1]
     · cases M <;> simp (disch:=omega) [TF,c1,c2,c3,aG,H.inl,ay,H.pp,ppB,h1,h2]
theorem P8 (H:OX C) (k t:Int) (x:List UInt8) (m:List (List UInt8)) (e:Bool) (hl:m.length≤1000000):∀ n i,n+i=m.length→∀ ok:Bool,
 Fh C ⟨[(6,.int .i64 i),(5,.int .i64 (if ok=true then 1 else 0)),(2,.ptr 0 0 0)],[(0,.cells 4 [[.int .u64 k,.int .u8 t,.str x,.ro 1 (m.map eS) e]] true true)],1⟩ =
  some (.int .i64 (if (ok&&(m.drop i).all isName)=true then 0 else 6)):=by
 intro n
 induction n with
 | zero =>
  intro i hi ok
  simp only [Fh];rw [aj zS.eq_1]
  have h1:m.drop i=[]:=List.drop_eq_nil_of_le (by omega)
  have h3:¬ i < m.length:=by omega
  cases ok <;> simp [aj JO.eq_1,h1,h3]
 | succ n ih =>
  intro i hi ok
  have h1:i < m.length:=by omega
  have:=ih (i+1) (by omega) (ok&&isName m[i])
  have hb:=afE H.topR m[i]
  rw [drop_cons h1]
  generalize hX:(m.drop (i+1)).all isName=X at *
  rw [List.all_cons,hX]
  simp only [Fh] at this ⊢;rw [aj zS.eq_1]
  cases ok <;> cases hn:isName m[i] <;> rw [hn] at this hb <;> simp at this hb <;> simp (disch:=omega) [h1,aG,hb,H.inl,ay,H.pp,ppB,this]
theorem Xk (H:OX C) (i:It) (n:Int) (ht:0≤i.t∧i.t≤255) (hl:i.m.length≤1000000):FnW C 424 [eIt i,.int .i64 n]=some (.int .i64 (if fF n i=true then 0 else 6)):=by
 have hw:=ZR H.topR i.x
 have hA:=P8 H i.k i.t i.x i.m i.e hl i.m.length 0 (by simp)
 have h0:=hA false
 have h1:=hA true
 rw [aF H.aiM rfl]
 unfold fF
 simp only [List.drop_zero,Bool.false_and,Bool.true_and] at h0 h1
 generalize i.m.all isName=M at *
 generalize isText i.x=X at *
 simp only [Fh] at h0 h1
 simp at h0 h1
 by_cases c1:i.k=0
 · simp [PD,eq_true c1,H.inl,ay,H.pp,ppB,hw,h0]
 · by_cases c2:n≤i.t
   · have c3:¬ i.t < n:=by omega
     simp (disch:=omega) [PD,c1,c2,c3,aG,H.inl,ay,H.pp,ppB,hw,h0]
   · have c3:i.t < n:=by omega
     by_cases c4:i.m.length≤8
     · have c5:¬ (8 < (i.m.length:Int)):=by omega
       cases X
       · simp (disch:=omega) [PD,c1,c2,c3,c4,c5,aG,H.inl,ay,H.pp,ppB,hw,h0]
       · simp (disch:=omega) [PD,c1,c2,c3,c4,c5,aG,H.inl,ay,H.pp,ppB,hw,h1]
     · have c5:(8 < (i.m.length:Int)):=by omega
       simp (disch:=omega) [PD,c1,c2,c3,c4,c5,aG,H.inl,ay,H.pp,ppB,hw,h0]
abbrev Bs:=List UInt8
@[simp] def eA (a:Bs × Bs):List AV:=[.str a.1,.str a.2]
structure Nd where
 k:Int
 t:Bs
 y:Bs
 a:List (Bs × Bs)
 ae:Bool
 x:Bs
 ch:List Nd
 ce:Bool
mutual
def Nd.c:Nd→List AV
 | ⟨k,t,y,a,ae,x,ch,ce⟩=>[.int .u8 k,.str t,.str y,.ro 2 (a.map eA) ae,.str x,.ro 6 (Nd.cs ch) ce]
def Nd.cs:List Nd→List (List AV)
 | []=>[]
 | n::r=>n.c::Nd.cs r
end
theorem Nd.QA:∀ l:List Nd,Nd.cs l=l.map Nd.c
 | []=>rfl
 | n::r=>by rw [Nd.cs,Nd.QA r];rfl
theorem Nd.fD (n:Nd):n.c=[.int .u8 n.k,.str n.t,.str n.y,.ro 2 (n.a.map eA) n.ae,.str n.x,.ro 6 (n.ch.map Nd.c) n.ce]:=by
 cases n;rw [Nd.c,Nd.QA]
@[simp] theorem Nd.akW (n:Nd):n.c.length=6:=by rw [Nd.fD];rfl
@[simp] theorem Nd.aiZ (n:Nd):n.c.take 6=n.c:=List.take_of_length_le (by simp)
@[simp] theorem Nd.c0 (n:Nd):n.c[0]?=some (.int .u8 n.k):=by rw [Nd.fD];rfl
@[simp] theorem Nd.c1 (n:Nd):n.c[1]?=some (.str n.t):=by rw [Nd.fD];rfl
@[simp] theorem Nd.c2 (n:Nd):n.c[2]?=some (.str n.y):=by rw [Nd.fD];rfl
@[simp] theorem Nd.c3 (n:Nd):n.c[3]?=some (.ro 2 (n.a.map eA) n.ae):=by rw [Nd.fD];rfl
@[simp] theorem Nd.c4 (n:Nd):n.c[4]?=some (.str n.x):=by rw [Nd.fD];rfl
@[simp] theorem Nd.c5 (n:Nd):n.c[5]?=some (.ro 6 (n.ch.map Nd.c) n.ce):=by rw [Nd.fD];rfl
@[simp] theorem Nd.g0 (n:Nd) (h:0 < n.c.length):n.c[0]=.int .u8 n.k:=Option.some.inj ((List.getElem?_eq_getElem h).symm.trans n.c0)
@[simp] theorem Nd.g1 (n:Nd) (h:1 < n.c.length):n.c[1]=.str n.t:=Option.some.inj ((List.getElem?_eq_getElem h).symm.trans n.c1)
@[simp] theorem Nd.g2 (n:Nd) (h:2 < n.c.length):n.c[2]=.str n.y:=Option.some.inj ((List.getElem?_eq_getElem h).symm.trans n.c2)
@[simp] theorem Nd.g3 (n:Nd) (h:3 < n.c.length):n.c[3]=.ro 2 (n.a.map eA) n.ae:=Option.some.inj ((List.getElem?_eq_getElem h).symm.trans n.c3)
@[simp] theorem Nd.g4 (n:Nd) (h:4 < n.c.length):n.c[4]=.str n.x:=Option.some.inj ((List.getElem?_eq_getElem h).symm.trans n.c4)
@[simp] theorem Nd.g5 (n:Nd) (h:5 < n.c.length):n.c[5]=.ro 6 (n.ch.map Nd.c) n.ce:=Option.some.inj ((List.getElem?_eq_getElem h).symm.trans n.c5)
@[simp] theorem Nd.hd (n:Nd):n.c.head?=some (.int .u8 n.k):=by rw [Nd.fD];rfl
@[simp] theorem Nd.alI (n:Nd):bP n.c=false:=by rw [Nd.fD];rfl
@[simp] theorem Nd.alW (n:Nd) (h:aJ) (k:Nat):bg (bJ h (k+1)) n.c=some n.c:=by rw [Nd.fD];rfl
@[simp] theorem Nd.adg (n:Nd) (h:aJ) (k:Nat):n.c.flatMap (aK h (k+1))=[]:=by rw [Nd.fD];rfl
@[simp] theorem Nd.alP (n:Nd) (π:Nat→Option Nat):lK π n.c=some n.c:=by rw [Nd.fD];rfl
@[simp] theorem Nd.aif (n:Nd):CX n.c=[]:=by rw [Nd.fD];rfl
@[simp] theorem Nd.akN (n:Nd):n.c.all isC=true:=by rw [Nd.fD];rfl
@[simp] theorem Nd.ahL (n:Nd):n.c.all AV.cell=true:=by rw [Nd.fD];rfl
def after:Option Bs→Bs→Bool
 | none,_=>true
 | some p,a=>decide (p < a)
def atOk:Option Bs→List (Bs × Bs)→Bool
 | _,[]=>true
 | p,a::r=>isName a.1&&isText a.2&&after p a.1&&atOk (some a.1) r
def iI:List Bs→List Bs→Bool
 | _,[]=>true
 | p,k::r=>!(decide (k≠[])&&p.contains k)&&iI (p++[k]) r
def alone (n:Nd):Bool :=
 if n.k=2 then isText n.x&&decide (n.t=[])&&decide (n.y=[])&&decide (n.a=[])&&decide (n.ch=[])
 else decide (n.k=1)&&isName n.t&&(decide (n.y=[])||isName n.y)&&decide (n.x=[])&&decide (n.a.length≤8)&&decide (n.ch.length≤16)&&atOk none n.a&&iI [] (n.ch.map Nd.y)
structure QU (C:aI):Prop extends pR C where
 aiU:C.fns.get 434=some yg
 ajU:C.fns.get 519=some aac
 ahJ:C.fns.get 518=some ZG
 aj1:C.fns.get 562=some aeo
theorem aqs (H:QU C) (n:Nd) (c:Nd):FnW C 519 [.agg n.c,.rop c.c]=some (.bool (decide (n.y=c.y))):=by
 rw [aF H.ajU rfl,Nd.fD,Nd.fD]
 by_cases h:n.y=c.y
 · simp [aac,h]
 · simp [aac,h]
theorem Py (H:QU C) (c:Nd) (l:List Nd) (e:Bool) (hl:l.length≤1000000):∀ n i,n+i=l.length →
 ∃ v:Int,zO C ⟨[(8,.int .i64 i),(7,.int .i64 l.length),(1,.fn 519 [.rop c.c]),(0,.ro 6 (l.map Nd.c) e)],[],0⟩=some (.int .i64 v)∧decide (v < 0)=!((l.drop i).map Nd.y).contains c.y:=by
 intro n
 induction n with
 | zero =>
  intro i hi
  simp only [zO];rw [aj vV.eq_1]
  have h1:l.drop i=[]:=List.drop_eq_nil_of_le (by omega)
  have h3:¬ i < l.length:=by omega
  exact ⟨-1,by simp [aj JY.eq_1,h3],by simp [h1]⟩
 | succ n ih =>
  intro i hi
  have h1:i < l.length:=by omega
  have hb:=aqs H l[i] c
  rw [drop_cons h1]
  by_cases q:l[i].y=c.y
  · refine ⟨i,?_,by simp [q]⟩
    simp only [zO];rw [aj vV.eq_1]
    simp (disch:=omega) [h1,hb,q,H.inl,ay,H.pp,ppB]
  · obtain ⟨v,hv,hq⟩:=ih (i+1) (by omega)
    refine ⟨v,?_,?_⟩
    · simp only [zO] at hv ⊢;rw [aj vV.eq_1]
      simp at hv
      simp (disch:=omega) [h1,aG,hb,q,H.inl,ay,H.pp,ppB,hv]
    · have q':¬ c.y=l[i].y:=fun h=>q h.symm
      simp [hq,q']
theorem JA (H:QU C) (c:Nd) (l:List Nd) (e:Bool) (hl:l.length≤1000000):FnW C 518 [.ro 6 (l.map Nd.c) e,.fn 519 [.rop c.c]]=some (.bool ((l.map Nd.y).contains c.y)):=by
 obtain ⟨v,h,q⟩:=Py H c l e hl l.length 0 (by simp)
 rw [List.drop_zero] at q
 have h2:FnW C 562 [.ro 6 (l.map Nd.c) e,.fn 519 [.rop c.c]]=some (.int .i64 v):=by
  rw [aF H.aj1 rfl]
  simp only [zO] at h
  simp at h
  simp [aeo,h]
 have q':(l.map Nd.y).contains c.y=!decide (v < 0):=by rw [q];simp
 rw [aF H.ahJ rfl,q']
 by_cases c:v < 0
 · have c':¬ 0≤v:=by omega
   simp [ZG,H.inl,ay,H.pp,ppB,h2,c,c']
 · have c':0≤v:=by omega
   simp [ZG,H.inl,ay,H.pp,ppB,h2,c,c']
theorem blt_eq:∀ x y:Bs,Pav.bytesLess x y=decide (x < y)
 | [],[]=>by simp [Pav.bytesLess]
 | [],_::_=>by simp [Pav.bytesLess]
 | _::_,[]=>by simp [Pav.bytesLess]
 | a::x,b::y=>by
  rw [Pav.bytesLess,blt_eq x y]
  by_cases h:a < b
  · simp [h,List.cons_lt_cons_iff]
  · by_cases q:a=b
    · simp [h,q,List.cons_lt_cons_iff]
    · simp [h,q,List.cons_lt_cons_iff]
theorem BX (x y:Bs):(Pav.bytesLess x y||x == y)=!decide (y < x):=by
 rw [blt_eq]
 by_cases h:y < x
 · have h1:¬ x < y:=fun q=>List.lt_irrefl x (List.lt_trans q h)
   have h2:¬ x=y:=fun q=>by subst q;exact List.lt_irrefl x h
   simp [h,h1,h2]
 · rcases Decidable.em (x=y) with q | q
   · simp [h,q]
   · have h1:x < y:=Classical.byContradiction fun p=>q (List.le_antisymm (List.not_lt.1 h) (List.not_lt.1 p))
     simp [h,h1]
theorem Xz (H:QU C) (k:Int) (t y x:Bs) (a:List (Bs × Bs)) (ae ce:Bool) (ch:List Nd) (hl:ch.length≤1000000):∀ n i,n+i=ch.length →
 Ee C ⟨[(142,.int .i64 i),(141,.int .i64 ch.length),(140,.ro 6 (ch.map Nd.c) ce),(0,.rop [.int .u8 k,.str t,.str y,.ro 2 (a.map eA) ae,.str x,.ro 6 (ch.map Nd.c) ce])],[],0⟩ =
  some (.bool (iI ((ch.map Nd.y).take i) ((ch.map Nd.y).drop i))):=by
 intro n
 induction n with
 | zero =>
  intro i hi
  simp only [Ee];rw [aj zB.eq_1]
  have h1:(ch.map Nd.y).drop i=[]:=List.drop_eq_nil_of_le (by simp;omega)
  have h3:¬ i < ch.length:=by omega
  simp [aj Lh.eq_1,h1,h3,iI,-List.map_drop]
 | succ n ih =>
  intro i hi
  have h1:i < ch.length:=by omega
  have h2:i < (ch.map Nd.y).length:=by simp;omega
  have hb:=JA H ch[i] (ch.take i) false (by simp;omega)
  have:=ih (i+1) (by omega)
  rw [List.take_succ_eq_append_getElem h2] at this
  rw [drop_cons h2,iI]
  have hy:(ch.map Nd.y)[i]=ch[i].y:=by simp
  rw [List.map_take,List.map_take] at hb
  rw [hy] at this ⊢
  have hne:¬ i=ch.length:=by omega
  have hle:i≤ch.length:=by omega
  simp only [Ee] at this ⊢;rw [aj zB.eq_1]
  generalize hP:(ch.map Nd.y).take i=P at *
  generalize hQ:(ch.map Nd.y).drop (i+1)=Q at *
  simp at this
  by_cases c1:ch[i].y=[]
  · rw [c1] at this
    simp (disch:=omega) [h1,aG,c1,H.inl,ay,H.pp,ppB,this]
  · by_cases c2:P.contains ch[i].y=true
    · rw [c2] at hb
      have c2':ch[i].y ∈ P:=by simpa using c2
      simp (disch:=omega) [h1,hne,hle,aG,c1,c2',hb,H.inl,ay,H.pp,ppB,this]
    · have c2':¬ ch[i].y ∈ P:=by simpa using c2
      have c3:P.contains ch[i].y=false:=by simpa using c2
      rw [c3] at hb
      simp (disch:=omega) [h1,hne,hle,aG,c1,c2',hb,H.inl,ay,H.pp,ppB,this]
theorem Hy (H:QU C) (k:Int) (t y x:Bs) (a:List (Bs × Bs)) (ae ce:Bool) (ch:List Nd) (hl:ch.length≤1000000) (ha:a.length≤1000000):∀ n i,n+i=a.length →
 Az C ⟨[(103,.int .i64 i),(102,.int .i64 a.length),(101,.ro 2 (a.map eA) ae),(0,.rop [.int .u8 k,.str t,.str y,.ro 2 (a.map eA) ae,.str x,.ro 6 (ch.map Nd.c) ce])],[],0⟩ =
  some (.bool (atOk (if i=0 then none else (a[i - 1]?).map Prod.fst) (a.drop i)&&iI [] (ch.map Nd.y))):=by
 intro n
 induction n with
 | zero =>
  intro i hi
  have hk:=Xz H k t y x a ae ce ch hl ch.length 0 (by simp)
  simp only [List.take_zero,List.drop_zero] at hk
  generalize iI [] (ch.map Nd.y)=K at *
  simp only [Ee] at hk
  simp at hk
  simp only [Az];rw [aj yV.eq_1]
  have h1:a.drop i=[]:=List.drop_eq_nil_of_le (by omega)
  have h3:¬ i < a.length:=by omega
  simp [aj JR.eq_1,h1,h3,atOk,hk]
 | succ n ih =>
  intro i hi
  have h1:i < a.length:=by omega
  have hb:=named_ok H.topR a[i].1
  have hc:=VY H.topR a[i].2
  have:=ih (i+1) (by omega)
  rw [if_neg (by omega),show i+1 - 1=i from rfl,List.getElem?_eq_getElem h1] at this
  rw [drop_cons h1,atOk]
  generalize hK:iI [] (ch.map Nd.y)=K at *
  simp only [Az] at this ⊢;rw [aj yV.eq_1]
  simp only [Option.map_some] at this
  generalize atOk (some a[i].1) (a.drop (i+1))=R at *
  simp at this
  cases q1:isName a[i].1
  · rw [q1] at hb
    simp (disch:=omega) [h1,aG,hb,H.inl,ay,H.pp,ppB]
  · cases q2:isText a[i].2
    · rw [q1] at hb;rw [q2] at hc
      simp (disch:=omega) [h1,aG,hb,hc,H.inl,ay,H.pp,ppB]
    · rw [q1] at hb;rw [q2] at hc
      cases i with
      | zero =>
       simp at this
       simp (disch:=omega) [h1,aG,hb,hc,H.inl,ay,H.pp,ppB,this,after]
      | succ i =>
       have h4:i < a.length:=by omega
       have h5:(i:Int)+1 < a.length:=by omega
       simp at this
       by_cases q3:a[i].1 < a[i+1].1
       · have q4:¬ a[i+1].1≤a[i].1:=List.not_le.2 q3
         simp (disch:=omega) [h1,h4,h5,aG,hb,hc,H.inl,ay,H.pp,ppB,this,BX,after,q3,q4]
       · have q4:a[i+1].1≤a[i].1:=List.not_lt.1 q3
         simp (disch:=omega) [h1,h4,h5,aG,hb,hc,H.inl,ay,H.pp,ppB,this,BX,after,q3,q4]
theorem acL (H:QU C) (n:Nd):FnW C 434 [.rop n.c]=some (.bool (alone n)):=by
 obtain ⟨k,t,y,a,ae,x,ch,ce⟩:=n
 rw [aF H.aiU rfl,Nd.fD]
 simp only []
 unfold alone
 simp only []
 have ht:=named_ok H.topR t
 have hy:=named_ok H.topR y
 have hx:=VY H.topR x
 by_cases k2:k=2
 · rw [if_pos k2]
   generalize isText x=X at *
   cases X
   · simp [yg,k2,hx,H.inl,ay,H.pp,ppB]
   · by_cases c1:t=[] <;> by_cases c2:y=[] <;> by_cases c3:a=[] <;> by_cases c4:ch=[] <;> simp [yg,k2,hx,H.inl,ay,H.pp,ppB,c1,c2,c3,c4]
 · rw [if_neg k2]
   by_cases k1:k=1
   · cases q1:isName t
     · rw [q1] at ht;simp [yg,k1,ht,H.inl,ay,H.pp,ppB]
     · rw [q1] at ht
       by_cases c2:y=[]
       · subst c2
         by_cases c3:x=[]
         · subst c3
           by_cases c4:a.length≤8
           · by_cases c5:ch.length≤16
             · have c6:¬ 8 < (a.length:Int):=by omega
               have c7:¬ 16 < (ch.length:Int):=by omega
               have hl:=Hy H 1 t [] [] a ae ce ch (by omega) (by omega) a.length 0 (by simp)
               simp only [Az,if_true,List.drop_zero] at hl
               generalize atOk none a=A at *
               generalize iI [] (ch.map Nd.y)=K at *
               simp at hl
               simp [yg,k1,ht,H.inl,ay,H.pp,ppB,c4,c5,c6,c7,hl]
             · have c6:¬ 8 < (a.length:Int):=by omega
               have c7:16 < (ch.length:Int):=by omega
               simp [yg,k1,ht,H.inl,ay,H.pp,ppB,c4,c5,c6,c7]
           · have c6:8 < (a.length:Int):=by omega
             simp [yg,k1,ht,H.inl,ay,H.pp,ppB,c4,c6]
         · simp [yg,k1,ht,H.inl,ay,H.pp,ppB,c3]
       · cases q2:isName y
         · rw [q2] at hy;simp [yg,k1,ht,hy,H.inl,ay,H.pp,ppB,c2]
         · rw [q2] at hy
           by_cases c3:x=[]
           · subst c3
             by_cases c4:a.length≤8
             · by_cases c5:ch.length≤16
               · have c6:¬ 8 < (a.length:Int):=by omega
                 have c7:¬ 16 < (ch.length:Int):=by omega
                 have hl:=Hy H 1 t y [] a ae ce ch (by omega) (by omega) a.length 0 (by simp)
                 simp only [Az,if_true,List.drop_zero] at hl
                 generalize atOk none a=A at *
                 generalize iI [] (ch.map Nd.y)=K at *
                 simp at hl
                 simp [yg,k1,ht,hy,H.inl,ay,H.pp,ppB,c2,c4,c5,c6,c7,hl]
               · have c6:¬ 8 < (a.length:Int):=by omega
                 have c7:16 < (ch.length:Int):=by omega
                 simp [yg,k1,ht,hy,H.inl,ay,H.pp,ppB,c2,c4,c5,c6,c7]
             · have c6:8 < (a.length:Int):=by omega
               simp [yg,k1,ht,hy,H.inl,ay,H.pp,ppB,c2,c4,c6]
           · simp [yg,k1,ht,hy,H.inl,ay,H.pp,ppB,c2,c3]
   · simp [yg,k1,k2,H.inl,ay,H.pp,ppB]
end Go.D
end
section
namespace Go.D
open Go Go.Pav Go.Pw P
attribute [-simp] List.getElem_cons_drop
variable {C:aI}
mutual
/-- The walk below a node: whether it ends well, how many nodes, how many levels. -/
def wk:Nd→Nat→Nat × Nat→Bool × (Nat × Nat)
 | ⟨k,t,y,a,ae,x,ch,ce⟩,lv,(c,d)=>if 6 < lv∨64 < c+1∨alone ⟨k,t,y,a,ae,x,ch,ce⟩=false then (false,(c+1,max d lv)) else wks ch (lv+1) (c+1,max d lv)
def wks:List Nd→Nat→Nat × Nat→Bool × (Nat × Nat)
 | [],_,s=>(true,s)
 | m::r,lv,s=>if (wk m lv s).1=true then wks r lv (wk m lv s).2 else (false,(wk m lv s).2)
end
theorem ZF (n:Nd) (lv c d:Nat):wk n lv (c,d)=if 6 < lv∨64 < c+1∨alone n=false then (false,(c+1,max d lv)) else wks n.ch (lv+1) (c+1,max d lv):=by cases n;rw [wk]
structure OY (C:aI):Prop extends QU C where
 ajC:C.fns.get 433=some Ie
 f282:C.fns.get 282=some adE
 f140:C.fns.get 140=some afR
 akf:C.fns.get 439=some Zt
abbrev hpM (root:Nd) (s:Nat × Nat):aJ:=[(0,.cells 6 [root.c] true true),(1,.cells 1 [[.int .i64 s.1]] true true),(2,.cells 1 [[.int .i64 s.2]] true true),(3,.cells 1 [[.fn 433 [.ptr 1 0 0,.ptr 2 0 0,.ptr 3 0 0]]] true false)]
mutual
theorem ahD:∀ (n:Nd) (lv c d:Nat),lv≤7→c≤64→d≤7→((wk n lv (c,d)).1=true→(wk n lv (c,d)).2.1≤64)∧(wk n lv (c,d)).2.2≤7
 | ⟨k,t,y,a,ae,x,ch,ce⟩,lv,c,d,h1,h2,h3=>by
  rw [wk]
  split
  · exact ⟨fun q=>by simp at q,by simp only;omega⟩
  · rename_i h
    exact YK ch (lv+1) (c+1) (max d lv) (by omega) (by omega) (by omega)
theorem YK:∀ (l:List Nd) (lv c d:Nat),lv≤7→c≤64→d≤7→((wks l lv (c,d)).1=true→(wks l lv (c,d)).2.1≤64)∧(wks l lv (c,d)).2.2≤7
 | [],lv,c,d,h1,h2,h3=>by rw [wks];exact ⟨fun _=>h2,h3⟩
 | m::r,lv,c,d,h1,h2,h3=>by
  have h4:=ahD m lv c d h1 h2 h3
  rw [wks]
  split
  · rename_i h
    exact YK r lv _ _ h1 (h4.1 h) h4.2
  · exact ⟨fun q=>by simp at q,h4.2⟩
end
def Walks (C:aI) (root nd:Nd):Prop:=∀ (lv c d n:Nat),4≤n→c≤64→d≤7→lv≤7 →
 ∃ n',RnW C 433 [.rop nd.c,.int .i64 lv,.ptr 1 0 0,.ptr 2 0 0,.ptr 3 0 0] (hpM root (c,d)) n=some (.bool (wk nd lv (c,d)).1,hpM root (wk nd lv (c,d)).2,n')
theorem lT (d lv:Nat):imax d lv=((max d lv:Nat):Int):=by
 by_cases h:lv≤d
 · rw [Lj (by omega),Nat.max_eq_left h]
 · rw [abW (by omega),Nat.max_eq_right (by omega)]
theorem Xp (H:OY C) (root nd:Nd) (X:AV) (hX:X=.rop nd.c∨X=.ptr 0 0 0∧root=nd) (lv n:Nat) (hn:4≤n) (hlv:lv≤6) (hl:nd.ch.length≤16) (ih:∀ m ∈ nd.ch,Walks C root m):∀ j i,j+i=nd.ch.length→∀ c d,c≤64→d≤7 →
 ∃ n',CK C n (kS [.tmp 7]) [.sq J8,.bk 0 ⟨true,[],[]⟩,.sq EM] xR ⟨[(30,.int .i64 i),(29,.int .i64 nd.ch.length),(4,.ptr 3 0 0),(1,.int .i64 lv),(0,X)],hpM root (c,d),n⟩ =
  some (.bool (wks (nd.ch.drop i) (lv+1) (c,d)).1,hpM root (wks (nd.ch.drop i) (lv+1) (c,d)).2,n'):=by
 have n0:0 < n:=by omega
 have n1:1 < n:=by omega
 have n2:2 < n:=by omega
 have n3:3 < n:=by omega
 intro j
 induction j with
 | zero =>
  intro i hi c d hc hd
  have h1:nd.ch.drop i=[]:=List.drop_eq_nil_of_le (by omega)
  have h3:¬ i < nd.ch.length:=by omega
  rw [h1,wks,aj xR.eq_1]
  refine ⟨?_,?_⟩
  rotate_left
  · rcases hX with rfl | ⟨rfl,rfl⟩
    · simp (disch:=omega) [aj EM.eq_1,n0,n1,n2,n3,h3]
      rfl
    · simp (disch:=omega) [aj EM.eq_1,n0,n1,n2,n3,h3]
 | succ j ihj =>
  intro i hi c d hc hd
  have h1:i < nd.ch.length:=by omega
  obtain ⟨n',hw⟩:=ih _ (List.getElem_mem h1) (lv+1) c d (n+1+1+1+11) (by omega) hc hd (by omega)
  have hb:=ahD nd.ch[i] (lv+1) c d (by omega) hc hd
  rw [drop_cons h1,wks]
  generalize hR:wk nd.ch[i] (lv+1) (c,d)=R at *
  obtain ⟨r,c',d'⟩:=R
  cases r with
  | true =>
   obtain ⟨n2',hw2⟩:=ihj (i+1) (by omega) c' d' (hb.1 rfl) hb.2
   refine ⟨n2',?_⟩
   rw [if_pos rfl]
   rw [aj xR.eq_1]
   simp at hw hw2
   rcases hX with rfl | ⟨rfl,rfl⟩
   · simp (disch:=omega) [aG,H.inl,ay,H.pp,ppB,n0,n1,n2,n3,h1,hw,hw2]
   · simp (disch:=omega) [aG,H.inl,ay,H.pp,ppB,n0,n1,n2,n3,h1,hw,hw2]
  | false =>
   rw [if_neg (by simp)]
   rw [aj xR.eq_1]
   simp at hw
   refine ⟨?_,?_⟩
   rotate_left
   · rcases hX with rfl | ⟨rfl,rfl⟩
     · simp (disch:=omega) [aG,H.inl,ay,H.pp,ppB,n0,n1,n2,n3,h1,hw]
       rfl
     · simp (disch:=omega) [aG,H.inl,ay,H.pp,ppB,n0,n1,n2,n3,h1,hw]
theorem IZ (H:OY C) (root nd:Nd) (X:AV) (hX:X=.rop nd.c∨X=.ptr 0 0 0∧root=nd) (ih:∀ m ∈ nd.ch,Walks C root m) (lv c d n:Nat) (hn:4≤n) (hc:c≤64) (hd:d≤7) (hlv:lv≤7) :
 ∃ n',RnW C 433 [X,.int .i64 lv,.ptr 1 0 0,.ptr 2 0 0,.ptr 3 0 0] (hpM root (c,d)) n=some (.bool (wk nd lv (c,d)).1,hpM root (wk nd lv (c,d)).2,n'):=by
 rw [um (args:=[X,.int .i64 lv,.ptr 1 0 0,.ptr 2 0 0,.ptr 3 0 0]) H.ajC rfl (hpM root (c,d)) n,ZF]
 have ha:=acL H.toQU nd
 have n0:0 < n:=by omega
 have n1:1 < n:=by omega
 have n2:2 < n:=by omega
 have n3:3 < n:=by omega
 by_cases b1:6 < lv
 · rw [if_pos (.inl b1)]
   refine ⟨?_,?_⟩
   rotate_left
   · rcases hX with rfl | ⟨rfl,rfl⟩
     · simp (disch:=omega) [Ie,aG,H.inl,ay,H.pp,ppB,b1,n0,n1,n2,n3,lT]
       rfl
     · simp (disch:=omega) [Ie,aG,H.inl,ay,H.pp,ppB,b1,n0,n1,n2,n3,lT]
 · by_cases b2:64 < c+1
   · rw [if_pos (.inr (.inl b2))]
     have b2':64 < (c:Int)+1:=by omega
     refine ⟨?_,?_⟩
     rotate_left
     · rcases hX with rfl | ⟨rfl,rfl⟩
       · simp (disch:=omega) [Ie,aG,H.inl,ay,H.pp,ppB,b1,b2',n0,n1,n2,n3,lT]
         rfl
       · simp (disch:=omega) [Ie,aG,H.inl,ay,H.pp,ppB,b1,b2',n0,n1,n2,n3,lT]
   · have b2':¬ 64 < (c:Int)+1:=by omega
     cases b3:alone nd with
     | false =>
      rw [if_pos (.inr (.inr rfl))]
      rw [b3] at ha
      refine ⟨?_,?_⟩
      rotate_left
      · rcases hX with rfl | ⟨rfl,rfl⟩
        · simp (disch:=omega) [Ie,aG,H.inl,ay,H.pp,ppB,b1,b2',ha,n0,n1,n2,n3,lT]
          rfl
        · simp (disch:=omega) [Ie,aG,H.inl,ay,H.pp,ppB,b1,b2',ha,n0,n1,n2,n3,lT]
     | true =>
      rw [if_neg (by simp;omega)]
      have hl:nd.ch.length≤16:=by
       unfold alone at b3
       split at b3
       · simp at b3;rw [b3.2];simp
       · simp at b3;omega
      rw [b3] at ha
      obtain ⟨n',hw⟩:=Xp H root nd X hX lv n hn (by omega) hl ih nd.ch.length 0 (by simp) (c+1) (max d lv) (by omega) (by omega)
      refine ⟨n',?_⟩
      rw [List.drop_zero] at hw
      have hI:=lT d lv
      generalize max d lv=D at *
      generalize wks nd.ch (lv+1) (c+1,D)=R at *
      simp only [hpM] at hw ⊢
      simp at hw
      rcases hX with rfl | ⟨rfl,rfl⟩
      · simp (disch:=omega) [Ie,aG,H.inl,ay,H.pp,ppB,b1,b2',ha,n0,n1,n2,n3,hI,hw]
      · simp (disch:=omega) [Ie,aG,H.inl,ay,H.pp,ppB,b1,b2',ha,n0,n1,n2,n3,hI,hw]
theorem xq (n:Nd):SizeOf.sizeOf n.ch < SizeOf.sizeOf n:=by cases n;simp;omega
theorem walks (H:OY C) (root nd:Nd):Walks C root nd :=
 fun lv c d n hn hc hd hlv=>IZ H root nd (.rop nd.c) (.inl rfl) (fun m hm=>walks H root m) lv c d n hn hc hd hlv
termination_by SizeOf.sizeOf nd
decreasing_by
 have:=List.sizeOf_lt_of_mem hm
 have:=xq nd
 omega
def cnt (n:Nd):Nat:=if (wk n 1 (0,0)).1=true then (wk n 1 (0,0)).2.1 else 0
def dep (n:Nd):Nat:=if (wk n 1 (0,0)).1=true then (wk n 1 (0,0)).2.2 else 0
theorem SH (H:OY C) (n:Nd):FnW C 282 [.agg n.c]=some (.tup [.int .i64 (cnt n),.int .i64 (dep n)]):=by
 rw [aF H.f282 rfl]
 have hw:=fun k hk=>IZ H n n (.ptr 0 0 0) (.inr ⟨rfl,rfl⟩) (fun m _=>walks H n m) 1 0 0 k hk (by omega) (by omega) (by omega)
 unfold cnt dep
 generalize wk n 1 (0,0)=R at *
 obtain ⟨r,c,d⟩:=R
 obtain ⟨n',h⟩:=hw 8 (by omega)
 simp only [hpM] at h
 simp at h
 cases r <;> simp [adE,H.inl,ay,H.pp,ppB,h]
theorem Qw (H:OY C) (n:Nd):FnW C 140 [.agg n.c]=some (.int .i64 (cnt n)):=by
 have h:=SH H n
 rw [aF H.f140 rfl]
 simp [afR,H.inl,ay,H.pp,ppB,h]
theorem OZ (H:OY C) (n:Nd):FnW C 439 [.agg n.c]=some (.int .i64 (if cnt n=0 then 14 else 0)):=by
 have h:=Qw H n
 rw [aF H.akf rfl]
 by_cases c:cnt n=0
 · simp [Zt,H.inl,ay,H.pp,ppB,h,c]
 · simp [Zt,H.inl,ay,H.pp,ppB,h,c]
end Go.D
end
