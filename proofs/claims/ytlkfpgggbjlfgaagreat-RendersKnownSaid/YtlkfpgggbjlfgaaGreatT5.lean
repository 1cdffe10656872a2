/- Part of the theory that the claims of this work use: PwP, PwLib, D01, PavLink, L24, PwGlue, PwGlue2, G00, D02, D03, D04, D05, D06. No conditions of its own. -/
import Derived.Test.YtlkfpgggbjlfgaaGreatT4
import Derived.Laws.RangeAny
import Derived.Test.YtlkfpgggbjlfgaaGreatChecked
import Derived.KernelRfl
import Derived.ChangeSame
import Derived.ChangeArms
import Derived.ReadAgain
import Derived.Handed
import Derived.JoinedOf
import Derived.RowKit
import Derived.Test.YtlkfpgggbjlfgaaGreatRows
import Derived.ProofKit
import Derived.Sort.Walk0
set_option linter.unusedVariables false
set_option linter.unusedSimpArgs false
set_option maxHeartbeats 4000000
set_option maxRecDepth 10000
section
set_option maxRecDepth 100000
namespace P
open Go Go.Pav Go.Pw Go.Pw.Z Go.Pw.ZC
def w0:WFn:=⟨0,[],zd (O 0 [E .fail])⟩
def MO:aC:=zd (s (O 176 [E (.call 126 [.c (.int .u8 0)]),E (.build [.ro 9 [] true,.int .i64 0] [(0,1,T 176),(1,1,N 1)]),E (.build [.ro 6 [] true] []),E (.call 125 [T 177,T 178,N 0,N 1]),d 175 (m 179),ex 0 175,ex 1 175,d 15 (E (.alloc [.int .i64 0,.ro 9 [] true,.bool false,.int .u64 0,.int .i64 0,.int .i64 0,.int .u8 0,.str [],.str [],.ro 2 [] true,.str [],.ro 6 [] true])),n (st 12 15 180),d 16 (m 181)]) (r (O 182 [m 16,eqi 182 0,m 183,y 184 (h 12 15),y 184 (E (.build [.int .i64 0,.ro 9 [] true,.bool false,.int .u64 0,.int .i64 0,.int .i64 0,.int .u8 0,.str [],.str [],.ro 2 [] true,.str [],.ro 6 [] true] [])),y 184 (ca 127 [185,186]),y 184 (eqi 187 1),pa 184 188,m 189,y 190 (ca 128 []),pa 190 191,d 0 (m 192)])))
def E8:aC:=zd (s (s (O 154 [m 14,lti 154 60]) (cc 155 (w .skip) (ee 4))) (s (B 5 (s (O 158 [h 3 13,m 14,E (.cvt .u16 (T 159)),E (.build [.int .u8 0,.int .u16 0] [(0,1,.c (.int .u8 24)),(1,1,T 160)]),ca 124 [158,161],nt 162,m 163,z 164 (h 3 13),z 164 (m 14),z 164 (E (.bin .mul (T 166) (N 4))),z 164 (E (.cvt .u8 (T 167))),z 164 (m 14),z 164 (E (.cvt .u16 (T 169))),z 164 (E (.build [.int .u8 0,.int .u16 0] [(0,1,T 168),(1,1,T 170)])),z 164 (ca 124 [165,171]),z 164 (nt 172),po 164 173]) (c 174 (r (O 0 [ff]))))) (Q 156 [m 14,adi 156 1,d 14 (m 157)] [14,13])))
def Tv:aC:=.loop ⟨true,[14,13],[]⟩ E8
def JX:aC:=zd (s (Q 144 [E (.build [.int .u8 0,.int .u8 0,.int .u8 0,.int .u8 0] [(0,1,.c (.int .u8 1)),(1,1,.c (.int .u8 1)),(2,1,.c (.int .u8 1)),(3,1,.c (.int .u8 0))]),E (.build [.int .u8 0,.int .u8 0,.int .u8 0,.int .u8 0] [(0,1,.c (.int .u8 2)),(1,1,.c (.int .u8 0)),(2,1,.c (.int .u8 2)),(3,1,.c (.int .u8 1))]),E (.build [.int .u8 0,.int .u8 0,.int .u8 0,.int .u8 0] [(0,1,.c (.int .u8 3)),(1,1,.c (.int .u8 2)),(2,1,.c (.int .u8 3)),(3,1,.c (.int .u8 2))]),E (.build [.int .u8 0,.int .u8 0,.int .u8 0,.int .u8 0] [(0,1,.c (.int .u8 4)),(1,1,.c (.int .u8 1)),(2,1,.c (.int .u8 4)),(3,1,.c (.int .u8 3))]),E (.build [.int .u8 0,.int .u8 0,.int .u8 0,.int .u8 0] [(0,1,.c (.int .u8 5)),(1,1,.c (.int .u8 0)),(2,1,.c (.int .u8 5)),(3,1,.c (.int .u8 0))]),E (.build [.int .u8 0,.int .u8 0,.int .u8 0,.int .u8 0] [(0,1,.c (.int .u8 6)),(1,1,.c (.int .u8 1)),(2,1,.c (.int .u8 6)),(3,1,.c (.int .u8 0))]),E (.aU [.int .u8 0,.int .u8 0,.int .u8 0,.int .u8 0] 6 [(0,T 144),(1,T 145),(2,T 146),(3,T 147),(4,T 148),(5,T 149)]),E (.build [.ro 4 [] true] [(0,1,T 150)]),E (.aU [.int .u8 0] 6 [(0,.c (.int .u8 8)),(1,.c (.int .u8 11)),(2,.c (.int .u8 0)),(3,.c (.int .u8 3)),(4,.c (.int .u8 6)),(5,.c (.int .u8 9))]),E (.build [.ro 4 [] true,.ro 1 [] true,.int .u8 0] [(0,1,T 151),(1,1,T 152)]),d 13 (E (.alloc [.ro 4 [] true,.ro 1 [] true,.int .u8 0])),n (st 3 13 153)] [13]) (s (s (O 14 [i 0]) (bk 4 Tv ⟨true,[],[]⟩)) MO))
def Fz:aC:=zd (s (s (O 119 [m 12,lti 119 3]) (cc 120 (w .skip) (ee 2))) (s (B 3 (s (Q 123 [m 11,E (.build [.ro 6 [] true] [(0,1,T 123)]),m 12,E (.bin .sub (N 4611686018427387904) (T 125)),m 12,E (.bin .add (N 4611686018427387903) (T 127)),sbi 128 1,m 12,E (.build [.int .i64 0,.int .i64 0] [(0,1,T 129),(1,1,T 130)]),ca 123 [124,126,131],nt 132,m 133,z 134 (E (.build [.ro 6 [] true] [])),z 134 (m 12),z 134 (m 12),z 134 (m 12),z 134 (E (.bin .add (N 2147483648) (T 138))),z 134 (E (.build [.int .i64 0,.int .i64 0] [(0,1,T 137),(1,1,T 139)])),z 134 (ca 123 [135,136,140]),z 134 (nt 141),po 134 142] [143,12,11]) (c 143 (r (O 0 [ff]))))) (O 121 [m 12,adi 121 1,d 12 (m 122)])))
def Sj:aC:=.loop ⟨true,[12,11],[]⟩ Fz
def Nh:aC:=zd (s (Q 28 [h 1 1,E (.call 120 [T 28,N 4611686018427387903]),d 27 (m 29),ex 0 27,ex 1 27,d 3 (m 30),d 4 (m 31)] [4,3,1]) (s (O 33 [h 1 1,E (.call 121 [T 33,N 4611686016279904256,N 2147483648]),d 32 (m 34),ex 0 32,ex 1 32,ex 2 32,d 5 (m 35),d 6 (m 36),d 7 (m 37)]) (s (O 39 [h 1 1,E (.call 121 [T 39,N 4611686016279904257,N 2147483648]),d 38 (m 40),ex 0 38,ex 1 38,ex 2 38,d 8 (m 41),d 9 (m 42),d 10 (m 43)]) (s (s (w (.iso [⟨some 44,none,.mv (T 4)⟩,⟨some 45,none,.bin .neq (T 44) (N 0)⟩,⟨some 46,none,.mv (T 45)⟩,⟨some 47,some (46,false),.mv (T 3)⟩,⟨some 48,some (46,false),.bin .neq (T 47) (N 1023)⟩,⟨some 49,none,.pick (T 46) (.c (.bool true)) (T 48)⟩,⟨some 50,none,.mv (T 49)⟩,⟨some 51,some (50,false),.mv (T 7)⟩,⟨some 52,some (50,false),.bin .neq (T 51) (N 0)⟩,⟨some 53,none,.pick (T 50) (.c (.bool true)) (T 52)⟩,⟨some 54,none,.mv (T 53)⟩,⟨some 55,some (54,false),.mv (T 5)⟩,⟨some 56,some (54,false),.bin .neq (T 55) (N 1023)⟩,⟨some 57,none,.pick (T 54) (.c (.bool true)) (T 56)⟩,⟨some 58,none,.mv (T 57)⟩,⟨some 59,some (58,false),.mv (T 6)⟩,⟨some 60,some (58,false),.bin .neq (T 59) (N 1024)⟩,⟨some 61,none,.pick (T 58) (.c (.bool true)) (T 60)⟩,⟨some 62,none,.mv (T 61)⟩,⟨some 63,some (62,false),.mv (T 10)⟩,⟨some 64,some (62,false),.bin .neq (T 63) (N 4)⟩,⟨some 65,none,.pick (T 62) (.c (.bool true)) (T 64)⟩,⟨some 66,none,.mv (T 65)⟩,⟨some 67,some (66,false),.fld 0 (T 1)⟩,⟨some 68,some (66,false),.load 1 false (T 67)⟩,⟨some 69,some (66,false),.build [.int .u64 0,.int .u8 0,.str [],.ro 1 [] true,.int .i64 0,.bool false] [(4,1,N 1)]⟩,⟨some 70,some (66,false),.aU [.int .u64 0,.int .u8 0,.str [],.ro 1 [] true,.int .i64 0,.bool false] 1 [(0,T 69)]⟩] ⟨some 71,some (66,false),.app [.int .u64 0,.int .u8 0,.str [],.ro 1 [] true,.int .i64 0,.bool false] 72 false (T 68) (T 70)⟩ [⟨some 72,some (66,false),.build [.ro 6 [] true] [(0,1,T 71)]⟩,⟨some 73,some (66,false),.call 122 [T 72]⟩,⟨some 74,some (66,false),.bin .neq (T 73) (N 3)⟩,⟨some 75,none,.pick (T 66) (.c (.bool true)) (T 74)⟩] ⟨true,[75,1],[]⟩)) (c 75 (r (O 0 [ff])))) (s (O 76 [f 0 1,l 1 76,E (.idxs 6 (T 77) (N 5)),f 4 78,l 1 79,adi 80 1,E (.idxs 6 (T 77) (N 5)),f 4 82,n (st 1 83 81)]) (s (O 84 [E (.build [.int .u64 0,.int .u8 0,.str [],.ro 1 [] true,.int .i64 0,.bool false] [(4,1,N 2305843009213693952)]),E (.build [.int .u64 0,.int .u8 0,.str [],.ro 1 [] true,.int .i64 0,.bool false] [(4,1,N 2305843009213693952)]),E (.aU [.int .u64 0,.int .u8 0,.str [],.ro 1 [] true,.int .i64 0,.bool false] 2 [(0,T 84),(1,T 85)]),d 11 (m 86)]) (s (s (Q 87 [h 1 1,ca 122 [87],nei 88 13,m 89,z 90 (m 11),z 90 (E (.build [.ro 6 [] true] [(0,1,T 91)])),z 90 (ca 122 [92]),z 90 (nei 93 0),po 90 94,m 95,z 96 (m 11),z 96 (E (.build [.int .u64 0,.int .u8 0,.str [],.ro 1 [] true,.int .i64 0,.bool false] [(4,1,N 1)])),z 96 (E (.aU [.int .u64 0,.int .u8 0,.str [],.ro 1 [] true,.int .i64 0,.bool false] 1 [(0,T 98)])),z 96 (E (.app [.int .u64 0,.int .u8 0,.str [],.ro 1 [] true,.int .i64 0,.bool false] 72 false (T 97) (T 99))),z 96 (E (.build [.ro 6 [] true] [(0,1,T 100)])),z 96 (ca 122 [101]),z 96 (nei 102 13),po 96 103,m 104,z 105 (E (.build [.int .u64 0,.int .u8 0,.str [],.ro 1 [] true,.int .i64 0,.bool false] [(4,1,N 2305843009213693953)])),z 105 (E (.aU [.int .u64 0,.int .u8 0,.str [],.ro 1 [] true,.int .i64 0,.bool false] 1 [(0,T 106)])),z 105 (E (.build [.ro 6 [] true] [(0,1,T 107)])),z 105 (ca 122 [108]),z 105 (nei 109 12),po 105 110,m 111,z 112 (E (.build [.int .u64 0,.int .u8 0,.str [],.ro 1 [] true,.int .i64 0,.bool false] [])),z 112 (E (.aU [.int .u64 0,.int .u8 0,.str [],.ro 1 [] true,.int .i64 0,.bool false] 1 [(0,T 113)])),z 112 (E (.build [.ro 6 [] true] [(0,1,T 114)])),z 112 (ca 122 [115]),z 112 (nei 116 12),po 112 117] [118,11]) (c 118 (r (O 0 [ff])))) (s (s (O 12 [i (-1)]) (bk 2 Sj ⟨true,[],[]⟩)) JX))))))))
def BG:aC:=zd (s (s (O 17 [m 2,lti 17 1024]) (cc 18 (w .skip) (ee 0))) (s (B 1 (O 21 [f 0 1,l 1 21,E (.build [.int .u64 0,.int .u8 0,.str [],.ro 1 [] true,.int .i64 0,.bool false] [(4,1,N 4503599627370496)]),E (.aU [.int .u64 0,.int .u8 0,.str [],.ro 1 [] true,.int .i64 0,.bool false] 1 [(0,T 23)]),E (.app [.int .u64 0,.int .u8 0,.str [],.ro 1 [] true,.int .i64 0,.bool false] 72 false (T 22) (T 24)),f 0 1,n (st 1 26 25)])) (O 19 [m 2,adi 19 1,d 2 (m 20)])))
def TS:aC:=.loop ⟨true,[2,1],[]⟩ BG
def w86:WFn:=⟨0,[.tmp 0],zd (s (O 0 [ff]) (s (O 1 [E (.alloc [.ro 6 [] true])]) (s (s (O 2 [i 0]) (bk 0 TS ⟨true,[1],[]⟩)) Nh)))⟩
@[simp] theorem am8:ZL Tv E8 ⟨true,[14,13],[]⟩:=bC rfl
noncomputable abbrev MH (C:aG) (s:WSt):Option AV:=CK C 0 (aP [.tmp 0]) [.sq Tv,.bk 4 ⟨true,[],[]⟩,.sq MO] E8 s
@[simp] theorem am0:ZL Sj Fz ⟨true,[12,11],[]⟩:=bC rfl
noncomputable abbrev L8 (C:aG) (s:WSt):Option AV:=CK C 0 (aP [.tmp 0]) [.sq Sj,.bk 2 ⟨true,[],[]⟩,.sq JX] Fz s
@[simp] theorem aoo:ZL TS BG ⟨true,[2,1],[]⟩:=bC rfl
noncomputable abbrev BI (C:aG) (s:WSt):Option AV:=CK C 0 (aP [.tmp 0]) [.sq TS,.bk 0 ⟨true,[1],[]⟩,.sq Nh] BG s
def D6:aC:=zd (r (V 68 [h 2 4,h 1 6,n (st 2 2 68),n (st 1 3 69)] [(1,2)] ⟨false,[],[]⟩))
def jv:aC:=zd (s (s (O 17 [m 7,m 5,ln 1 18,lt 17 19]) (cc 20 (w .skip) (ee 0))) (s (B 1 (s (s (V 23 [h 2 4,m 5,m 7,ix 4 24 25,h 4 26,E (.call 271 [T 23,T 27,N 0]),gti 28 0] [] ⟨false,[],[]⟩) (c 29 (ee 1))) (s (U 30 [h 2 4,m 5,m 7,ix 4 31 32,h 4 33,ca 240 [30,34],d 8 (E (.alloc [.int .u64 0,.int .u8 0,.str [],.ro 1 [] true,.int .i64 0,.bool false])),n (st 6 8 35)] [(0,6),(4,6),(5,6)] [8,7,6,5,4,3,2,1]) (s (s (O 36 [f 0 6,l 1 36,ln 1 37,d 9 (m 38)]) (s (O 39 [m 9,f 1 1,l 1 40,ln 1 41,lt 39 42,m 43,y 44 (f 1 1),y 44 (l 1 45),y 44 (m 9),y 44 (ix 1 46 47),y 44 (l 1 48),y 44 (E (.bin .gtr (T 49) (.c (.int .u8 0)))),pa 44 50]) (c 51 (s (Q 52 [f 1 1,l 1 52,m 9,ix 1 53 54,l 1 55,E (.bin .rem (T 56) (.c (.int .u8 40))),E (.cvt .i64 (T 57)),E (.bin .add (N 1) (T 58)),f 4 8,n (st 1 60 59)] [8,7,6,5,4,3,2,1]) (O 61 [f 5 8,n (E (.store 1 (T 61) (.c (.bool true))))]))))) (O 62 [f 0 6,l 1 62,h 6 8,E (.aU [.int .u64 0,.int .u8 0,.str [],.ro 1 [] true,.int .i64 0,.bool false] 1 [(0,T 64)]),E (.app [.int .u64 0,.int .u8 0,.str [],.ro 1 [] true,.int .i64 0,.bool false] 72 false (T 63) (T 65)),f 0 6,n (st 1 67 66)]))))) (O 21 [m 7,adi 21 1,d 7 (m 22)])))
def Nk:aC:=.loop ⟨true,[7,6,5,4,3,2,1],[]⟩ jv
def adT:WFn:=⟨1,[.cell 2 2 true,.cell 3 1 true],zd (s (Q 1 [bx 0,E (.alloc [.ro 9 [] true,.int .i64 0]),E (.alloc [.ro 6 [] true])] [3,2,1]) (s (O 10 [f 2 1,l 1 10,ca 126 [11],E (.build [.ro 9 [] true,.int .i64 0] [(0,1,T 12),(1,1,N 12)]),d 4 (E (.alloc [.ro 9 [] true,.int .i64 0])),n (st 2 4 13)]) (s (O 14 [f 0 1,h 1 14,ca 270 [15],d 5 (m 16)]) (s (O 6 [E (.alloc [.ro 6 [] true])]) (s (s (O 7 [i 0]) (bk 0 Nk ⟨true,[6,4,3,2],[]⟩)) D6)))))⟩
@[simp] theorem alb:ZL Nk jv ⟨true,[7,6,5,4,3,2,1],[]⟩:=bC rfl
noncomputable abbrev iF (C:aG) (s:WSt):Option AV:=CK C 0 (aP [.cell 2 2 true,.cell 3 1 true]) [.sq Nk,.bk 0 ⟨true,[6,4,3,2],[]⟩,.sq D6] jv s
def acN:WFn:=⟨2,[.tmp 4,.tmp 5],zd (s (O 2 [bx 0,bx 1,i 0,i 0]) (s (O 6 [f 0 2,l 1 6,E (.bin .rem (T 7) (.c (.int .u8 200))),E (.cvt .i64 (T 8)),E (.bin .add (N 1) (T 9)),d 5 (m 10)]) (r (V 11 [f 1 2,l 1 11,E (.cvt .i64 (T 12)),f 0 3,l 1 14,m 5,ca 327 [15,16],adi 17 1,E (.bin .rem (T 13) (T 18)),m 5,d 4 (m 19),d 5 (m 20)] [(1,6)] ⟨false,[],[]⟩))))⟩
def aac:WFn:=⟨2,[.tmp 4],zd (s (O 4 [i 0]) (s (s (O 5 [m 0,m 0,ln 1 6,ca 253 [5,7],m 1,lt 8 9]) (c 10 (r (O 4 [i 0])))) (r (O 11 [m 0,m 0,ln 1 12,ca 253 [11,13],m 1,sb 14 15,d 4 (m 16)]))))⟩
def LW:aC:=zd (r (O 25 [m 3,d 2 (m 25)]))
def wV:aC:=zd (s (O 11 [lt 10 9]) (s (cc 11 (w .skip) (ee 0)) (s (B 1 (s (O 12 [ix 6 8 10,h 6 12,d 5 (E (.alloc [.int .u64 0,.int .u8 0,.str [],.ro 1 [] true,.int .i64 0,.bool false])),n (st 6 5 13)]) (s (O 14 [f 4 5,l 1 14,E (.mx (T 15) (N 0)),d 6 (m 16)]) (s (s (O 17 [m 6,m 3,E (.bin .sub (N 4611686018427387904) (T 18)),gt 17 19]) (c 20 (r (O 2 [i 4611686018427387905])))) (O 21 [m 3,m 6,ad 21 22,d 3 (m 23)]))))) (O 24 [adi 10 1,d 10 (m 24)]))))
def Jp:aC:=.loop ⟨true,[10,9,8,3],[]⟩ wV
def acU:WFn:=⟨1,[.tmp 2],zd (s (O 1 [bx 0,i 0]) (s (O 3 [i 0]) (s (s (Q 7 [f 0 1,l 1 7,ln 1 8,i 0] [10,9,8,3]) (bk 0 Jp ⟨true,[3],[]⟩)) LW)))⟩
@[simp] theorem al7:ZL Jp wV ⟨true,[10,9,8,3],[]⟩:=bC rfl
noncomputable abbrev Bd (C:aG) (s:WSt):Option AV:=CK C 0 (aP [.tmp 2]) [.sq Jp,.bk 0 ⟨true,[3],[]⟩,.sq LW] wV s
def JQ:WFn:=⟨1,[.tmp 2],zd (s (O 1 [bx 0,i 0]) (s (O 3 [E (.mv (.c (.fn 230 [])))]) (s (s (Q 4 [f 0 1,l 1 4,ln 1 5,lti 6 1,m 7,z 8 (f 0 1),z 8 (l 1 9),z 8 (ln 1 10),z 8 (gti 11 8),po 8 12,m 13,z 14 (f 1 1),z 14 (l 1 15),z 14 (lti 16 1),po 14 17,m 18,z 19 (f 1 1),z 19 (l 1 20),z 19 (gti 21 64),po 19 22,m 23,z 24 (f 0 1),z 24 (l 1 25),z 24 (m 3),z 24 (ca 232 [26,27]),po 24 28] [29]) (c 29 (r (O 2 [i 7])))) (r (O 2 [i 0])))))⟩
def Ue:WFn:=⟨2,[.tmp 4,.tmp 5],zd (s (O 4 [d 2 (bx 0),i 0,i 0]) (s (O 9 [h 1 2,ca 246 [9],d 8 (m 10),ex 0 8,ex 1 8,d 6 (m 11),d 7 (m 12)]) (s (s (Q 13 [m 7,nei 13 0] [14,7,6,1]) (c 14 (r (O 4 [d 15 (m 7),i 0,m 15])))) (s (s (O 16 [m 1,lti 16 0,m 17,z 18 (m 1),z 18 (m 6),z 18 (m 6),z 18 (ln 1 21),z 18 (sbi 22 1),z 18 (ix 1 20 23),z 18 (l 1 24),z 18 (ge 19 25),po 18 26]) (c 27 (r (O 4 [i 0,i 4])))) (r (O 28 [m 6,m 1,ca 247 [28,29],d 4 (m 30),d 5 (i 0)]))))))⟩
def WY:WFn:=⟨3,[.tmp 6,.tmp 7,.tmp 8],zd (s (Q 6 [d 3 (bx 0),i 0,i 0,i 0] [3,2,1]) (s (s (O 13 [h 1 3,m 1,m 2,ca 248 [13,14,15],d 9 (m 16)]) (s (O 17 [m 9,nei 17 0]) (c 18 (r (O 6 [d 19 (m 9),i 0,i 0,m 19]))))) (s (O 21 [h 1 3,ca 246 [21],d 20 (m 22),ex 0 20,ex 1 20,d 10 (m 23),d 11 (m 24)]) (s (s (O 25 [m 10,ln 1 25,eqi 26 1]) (c 27 (r (Q 6 [i 0,i 0,i 0] [8,7,6])))) (s (O 28 [m 1,m 2,ad 28 29,m 10,m 10,ln 1 32,sbi 33 1,ix 1 31 34,l 1 35,E (.mn (T 30) (T 36)),d 12 (m 37)]) (r (O 38 [m 10,m 1,ca 247 [38,39],m 10,m 12,sbi 42 1,ca 247 [41,43],adi 44 1,d 6 (m 40),d 7 (m 45),d 8 (i 0)])))))))⟩
def Wj:WFn:=⟨1,[.tmp 2],zd (s (O 1 [bx 0,i 0]) (s (s (O 3 [f 0 1,l 1 3,ln 1 4,gti 5 1024]) (c 6 (r (O 2 [i 3])))) (s (s (O 7 [f 0 1,l 1 7,E (.call 249 [T 8,.c (.fn 250 [])])]) (c 9 (r (O 2 [i 12])))) (s (s (O 10 [h 1 1,ca 111 [10],gti 11 4611686018427387904]) (c 12 (r (O 2 [i 13])))) (r (O 2 [i 0]))))))⟩
def wB:aC:=zd (s (O 134 [f 0 3,l 1 134,m 1,ca 254 [135,136],d 17 (m 137)]) (s (s (Q 138 [m 17,lti 138 0,m 139,y 140 (m 11),y 140 (nei 141 4),y 140 (m 142),z 143 (m 10),z 143 (nei 144 0),y 140 (po 143 145),pa 140 146,m 147,z 148 (m 17),z 148 (gei 149 0),z 148 (m 150),y 151 (m 11),y 151 (nei 152 0),y 151 (m 153),z 154 (m 10),z 154 (m 17),z 154 (ne 155 156),y 151 (po 154 157),z 148 (pa 151 158),po 148 159] [160,15,13,12,5,3]) (c 160 (r (O 6 [ff])))) (s (O 18 [i 0,i 0]) (s (s (O 161 [m 15,eqi 161 0]) (c 162 (Q 164 [f 0 3,l 1 164,E (.kD 2 1 (T 5) (N 0)),l 1 166,E (.kD 2 1 (T 5) (N 1)),l 1 168,ca 255 [165,167,169],d 163 (m 170),ex 0 163,ex 1 163,d 18 (m 171),d 19 (m 172)] [19,18,13,12]))) (r (O 173 [m 12,m 18,eq 173 174,m 175,y 176 (m 13),y 176 (m 19),y 176 (eq 177 178),pa 176 179,m 180,y 181 (ca 128 []),pa 181 182,d 6 (m 183)]))))))
def pI:aC:=zd (s (s (O 119 [m 16,m 8,ln 1 120,lt 119 121]) (cc 122 (w .skip) (ee 0))) (s (B 1 (s (V 125 [m 8,m 16,ix 1 125 126,l 1 127,f 0 3,l 1 129,m 16,ca 253 [130,131],ne 128 132] [(3,7)] ⟨false,[],[]⟩) (c 133 (r (O 6 [ff]))))) (O 123 [m 16,adi 123 1,d 16 (m 124)])))
def NI:aC:=.loop ⟨true,[16,15,13,12,11,10,8,5,3,1],[]⟩ pI
def Xb:WFn:=⟨3,[.tmp 6],zd (s (O 5 [d 3 (bx 0),bx 2,ff]) (s (s (O 20 [f 0 3,l 1 20,ln 1 21,gti 22 40]) (c 23 (r (O 24 [ca 128 [],d 6 (m 24)])))) (s (O 25 [f 0 3,l 1 25,ca 251 [26],d 7 (m 27)]) (s (O 29 [h 1 3,ca 246 [29],d 28 (m 30),ex 0 28,ex 1 28,d 8 (m 31),d 9 (m 32)]) (s (Q 34 [h 1 3,m 1,ca 120 [34,35],d 33 (m 36),ex 0 33,ex 1 33,d 10 (m 37),d 11 (m 38)] [11,10,9,8,7,5,3,1]) (s (O 40 [h 1 3,E (.kD 2 1 (T 5) (N 0)),l 1 41,E (.kD 2 1 (T 5) (N 1)),l 1 43,ca 121 [40,42,44],d 39 (m 45),ex 0 39,ex 1 39,ex 2 39,d 12 (m 46),d 13 (m 47),d 14 (m 48)]) (s (O 49 [f 0 3,l 1 49,E (.kD 2 1 (T 5) (N 0)),l 1 51,E (.kD 2 1 (T 5) (N 1)),l 1 53,ca 252 [50,52,54],d 15 (m 55)]) (s (s (Q 56 [h 1 3,ca 122 [56],m 7,ne 57 58,m 59,z 60 (m 9),z 60 (m 7),z 60 (ne 61 62),po 60 63,m 64,z 65 (h 1 3),z 65 (E (.kD 2 1 (T 5) (N 0))),z 65 (l 1 67),z 65 (E (.kD 2 1 (T 5) (N 1))),z 65 (l 1 69),z 65 (ca 248 [66,68,70]),z 65 (m 15),z 65 (ne 71 72),po 65 73,m 74,z 75 (m 14),z 75 (m 15),z 75 (ne 76 77),po 75 78] [79,15,13,12,11,10,8,7,5,3,1]) (c 79 (r (O 6 [ff])))) (s (s (O 80 [m 7,nei 80 0]) (c 81 (r (Q 82 [m 11,m 7,eq 82 83,m 84,y 85 (m 8),y 85 (ln 1 86),y 85 (eqi 87 0),pa 85 88,m 89,y 90 (m 10),y 90 (eqi 91 0),pa 90 92,m 93,y 94 (m 12),y 94 (eqi 95 0),pa 94 96,m 97,y 98 (m 13),y 98 (eqi 99 0),pa 98 100,m 101,y 102 (ca 128 []),pa 102 103,d 6 (m 104)] [6])))) (s (s (O 105 [m 8,ln 1 105,f 0 3,l 1 107,ln 1 108,adi 109 1,ne 106 110,m 111,z 112 (m 8),z 112 (E (.cap (T 113))),z 112 (m 8),z 112 (ln 1 115),z 112 (ne 114 116),po 112 117]) (c 118 (r (Q 6 [ff] [6])))) (s (s (O 16 [i 0]) (bk 0 NI ⟨true,[15,13,12,11,10,5,3,1],[]⟩)) wB)))))))))))⟩
@[simp] theorem ak5:ZL NI pI ⟨true,[16,15,13,12,11,10,8,5,3,1],[]⟩:=bC rfl
noncomputable abbrev qY (C:aG) (s:WSt):Option AV:=CK C 0 (aP [.tmp 6]) [.sq NI,.bk 0 ⟨true,[15,13,12,11,10,5,3,1],[]⟩,.sq wB] pI s
def ER:aC:=zd (r (Q 239 [m 16,f 1 9,l 1 240,ln 1 241,eq 239 242,m 243,y 244 (f 2 9),y 244 (l 1 245),y 244 (nt 246),y 244 (m 247),z 248 (f 3 9),z 248 (f 1 249),z 248 (l 1 250),z 248 (lei 251 0),z 248 (m 252),y 253 (f 3 9),y 253 (f 1 254),y 253 (l 1 255),y 253 (f 3 9),y 253 (f 2 257),y 253 (l 1 258),y 253 (E (.un .neg (T 259))),y 253 (gt 256 260),z 248 (pa 253 261),y 244 (po 248 262),pa 244 263,m 264,y 265 (ca 128 []),pa 265 266,d 4 (m 267)] [4]))
def vZ:aC:=zd (s (s (O 195 [m 17,m 15,lt 195 196]) (cc 197 (w .skip) (ee 2))) (s (B 3 (s (s (V 200 [f 2 9,l 1 200,m 201,y 202 (m 11),y 202 (m 17),y 202 (ix 9 203 204),y 202 (f 0 205),y 202 (l 1 206),y 202 (f 3 9),y 202 (f 0 208),y 202 (l 1 209),y 202 (eq 207 210),pa 202 211] [] ⟨false,[],[]⟩) (c 212 (ee 3))) (s (O 213 [m 11,m 17,ix 9 213 214,h 9 215,d 18 (E (.alloc [.int .u64 0,.int .i64 0,.int .i64 0,.int .u8 0,.str [],.str [],.ro 2 [] true,.str [],.ro 6 [] true])),n (st 9 18 216)]) (s (Q 217 [f 1 18,l 1 217,m 7,sb 218 219,f 1 18,n (st 1 221 220)] [18,17,16,15,11,9,7]) (s (s (V 222 [m 16,f 1 9,l 1 223,ln 1 224,ge 222 225,m 226,z 227 (f 1 9),z 227 (l 1 228),z 227 (m 16),z 227 (ix 9 229 230),z 227 (h 9 231),z 227 (h 9 18),z 227 (ca 260 [232,233]),z 227 (eqi 234 0),po 227 235] [] ⟨false,[],[]⟩) (c 236 (r (O 4 [ff])))) (O 237 [m 16,adi 237 1,d 16 (m 238)])))))) (O 198 [m 17,adi 198 1,d 17 (m 199)])))
def Oa:aC:=.loop ⟨true,[17,16,15,11,9,7],[]⟩ vZ
def yR:aC:=zd (s (s (O 122 [m 12,h 1 6,ca 111 [123],ne 122 124]) (c 125 (r (O 4 [ff])))) (s (O 127 [h 1 6,m 7,m 8,ca 121 [127,128,129],d 126 (m 130),ex 0 126,ex 1 126,ex 2 126,d 14 (m 131),d 15 (m 132),d 10 (m 133)]) (s (s (U 134 [m 10,nei 134 0,m 135,z 136 (m 11),z 136 (ln 1 137),z 136 (gti 138 0),z 136 (m 139),y 140 (m 14),y 140 (m 15),y 140 (ge 141 142),y 140 (m 143),z 144 (m 11),z 144 (m 14),z 144 (ix 9 145 146),z 144 (f 1 147),z 144 (l 1 148),z 144 (m 7),z 144 (gt 149 150),y 140 (po 144 151),y 140 (m 152),z 153 (m 11),z 153 (m 14),z 153 (ix 9 154 155),z 153 (f 1 156),z 153 (l 1 157),z 153 (m 11),z 153 (m 14),z 153 (ix 9 159 160),z 153 (f 2 161),z 153 (l 1 162),z 153 (ad 158 163),z 153 (m 7),z 153 (le 164 165),y 140 (po 153 166),y 140 (m 167),z 168 (m 12),z 168 (m 8),z 168 (ge 169 170),z 168 (m 171),y 172 (m 11),y 172 (m 15),y 172 (sbi 174 1),y 172 (ix 9 173 175),y 172 (f 1 176),y 172 (l 1 177),y 172 (m 11),y 172 (m 15),y 172 (sbi 180 1),y 172 (ix 9 179 181),y 172 (f 2 182),y 172 (l 1 183),y 172 (ad 178 184),y 172 (m 7),y 172 (m 8),y 172 (ad 186 187),y 172 (lt 185 188),z 168 (pa 172 189),y 140 (po 168 190),z 136 (pa 140 191),po 136 192] [] [193,15,14,11,9,7]) (c 193 (r (O 4 [ff])))) (s (O 16 [i 0]) (s (s (Q 194 [m 14,d 17 (m 194)] [17,16,15,11,9,7]) (bk 2 Oa ⟨true,[16,9],[]⟩)) ER)))))
def sK:aC:=zd (s (s (Q 89 [m 13,m 11,ln 1 90,lt 89 91] [92,13,12,11,9,8,7,6,5]) (cc 92 (w .skip) (ee 0))) (s (B 1 (s (s (V 95 [m 11,m 13,ix 9 95 96,h 9 97,h 2 5,f 0 6,l 1 100,m 13,ca 261 [99,101,102],ca 260 [98,103],eqi 104 0,m 105,z 106 (m 11),z 106 (m 13),z 106 (ix 9 107 108),z 106 (f 1 109),z 106 (l 1 110),z 106 (m 12),z 106 (ne 111 112),po 106 113] [(3,8)] ⟨false,[],[]⟩) (c 114 (r (O 4 [ff])))) (Q 115 [m 12,m 11,m 13,ix 9 116 117,f 2 118,l 1 119,ad 115 120,d 12 (m 121)] [13,12,11,9,8,7,6,5]))) (O 93 [m 13,adi 93 1,d 13 (m 94)])))
def KJ:aC:=.loop ⟨true,[13,12,11,9,8,7,6,5],[]⟩ sK
def aeE:WFn:=⟨2,[.tmp 4],zd (s (O 2 [bx 0,bx 1,ff]) (s (Q 20 [h 3 2,ca 130 [20],d 19 (m 21),ex 0 19,ex 1 19,d 5 (E (.alloc [.ro 9 [] true,.int .i64 0])),d 6 (E (.alloc [.ro 6 [] true])),n (st 2 5 22),n (st 1 6 23)] [6,5,3]) (s (O 25 [h 2 3,h 1 6,ca 256 [25,26],d 24 (m 27),ex 0 24,ex 1 24,d 7 (m 28),d 8 (m 29)]) (s (O 31 [h 2 5,h 1 6,m 7,m 8,ca 125 [31,32,33,34],d 30 (m 35),ex 0 30,ex 1 30,d 9 (E (.alloc [.int .i64 0,.ro 9 [] true,.bool false,.int .u64 0,.int .i64 0,.int .i64 0,.int .u8 0,.str [],.str [],.ro 2 [] true,.str [],.ro 6 [] true])),n (st 12 9 36),d 10 (m 37)]) (s (s (U 38 [m 10,nei 38 0,m 39,z 40 (h 12 9),z 40 (h 2 5),z 40 (f 0 6),z 40 (l 1 43),z 40 (m 7),z 40 (m 8),z 40 (ca 257 [42,44,45,46]),z 40 (ca 127 [41,47]),z 40 (eqi 48 0),po 40 49,m 50,z 51 (f 1 9),z 51 (l 1 52),z 51 (E (.cap (T 53))),z 51 (f 1 9),z 51 (l 1 55),z 51 (ln 1 56),z 51 (ne 54 57),po 51 58,m 59,z 60 (h 12 9),z 60 (h 12 9),z 60 (ca 258 [61,62]),z 60 (nt 63),po 60 64] [(3,9)] [65,9,8,7,6,5]) (c 65 (r (O 4 [ff])))) (s (Q 67 [h 2 5,h 1 6,ca 259 [67,68],d 66 (m 69),ex 0 66,ex 1 66,d 11 (m 70),d 10 (m 71)] [11,10,9,8,7,6,5]) (s (s (O 72 [m 10,nei 72 0,m 73,z 74 (m 11),z 74 (ln 1 75),z 74 (f 0 6),z 74 (l 1 77),z 74 (ln 1 78),z 74 (ne 76 79),po 74 80,m 81,z 82 (m 11),z 82 (E (.cap (T 83))),z 82 (m 11),z 82 (ln 1 85),z 82 (ne 84 86),po 82 87]) (c 88 (r (O 4 [ff])))) (s (O 12 [i 0]) (s (s (O 13 [i 0]) (bk 0 KJ ⟨true,[12,11,9,8,7,6],[]⟩)) yR)))))))))⟩
@[simp] theorem alL:ZL Oa vZ ⟨true,[17,16,15,11,9,7],[]⟩:=bC rfl
noncomputable abbrev zk (C:aG) (s:WSt):Option AV:=CK C 0 (aP [.tmp 4]) [.sq Oa,.bk 2 ⟨true,[16,9],[]⟩,.sq ER] vZ s
@[simp] theorem amK:ZL KJ sK ⟨true,[13,12,11,9,8,7,6,5],[]⟩:=bC rfl
noncomputable abbrev wL (C:aG) (s:WSt):Option AV:=CK C 0 (aP [.tmp 4]) [.sq KJ,.bk 0 ⟨true,[12,11,9,8,7,6],[]⟩,.sq yR] sK s
def Ei:aC:=zd (s (O 90 [f 1 14,l 1 90,ca 265 [91],ca 264 [92],f 1 14,n (st 1 94 93)]) (r (O 95 [h 12 14,n (st 12 8 95),d 9 (i 0)])))
def nC:aC:=zd (s (O 69 [lt 68 67]) (s (cc 69 (w .skip) (ee 0)) (s (B 1 (s (O 70 [m 68,ix 9 66 68,h 9 71,d 18 (E (.alloc [.int .u64 0,.int .i64 0,.int .i64 0,.int .u8 0,.str [],.str [],.ro 2 [] true,.str [],.ro 6 [] true])),d 17 (m 70),n (st 9 18 72)]) (s (O 73 [m 11,m 17,ad 73 74,m 15,ne 75 76]) (c 77 (s (Q 78 [f 1 18,l 1 78,m 2,sb 79 80,f 1 18,n (st 1 82 81)] [68,67,66,18,15,14,11,8,2]) (O 83 [f 1 14,l 1 83,h 9 18,E (.aU [.int .u64 0,.int .i64 0,.int .i64 0,.int .u8 0,.str [],.str [],.ro 2 [] true,.str [],.ro 6 [] true] 1 [(0,T 85)]),E (.app [.int .u64 0,.int .i64 0,.int .i64 0,.int .u8 0,.str [],.str [],.ro 2 [] true,.str [],.ro 6 [] true] 128 false (T 84) (T 86)),f 1 14,n (st 1 88 87)])))))) (O 89 [adi 68 1,d 68 (m 89)]))))
def Jk:aC:=.loop ⟨true,[68,67,66,15,14,11,8,2],[]⟩ nC
def V8:WFn:=⟨4,[.cell 8 12 true,.tmp 9],zd (s (O 8 [d 4 (bx 0),d 5 (bx 1),E (.alloc [.int .i64 0,.ro 9 [] true,.bool false,.int .u64 0,.int .i64 0,.int .i64 0,.int .u8 0,.str [],.str [],.ro 2 [] true,.str [],.ro 6 [] true]),i 0]) (s (s (O 19 [h 2 4,h 1 5,ca 223 [19,20],d 10 (m 21)]) (s (O 22 [m 10,nei 22 0]) (c 23 (r (O 24 [E (.build [.int .i64 0,.ro 9 [] true,.bool false,.int .u64 0,.int .i64 0,.int .i64 0,.int .u8 0,.str [],.str [],.ro 2 [] true,.str [],.ro 6 [] true] []),m 10,n (st 12 8 24),d 9 (m 25)]))))) (s (Q 27 [h 1 5,m 2,m 3,ca 121 [27,28,29],d 26 (m 30),ex 0 26,ex 1 26,ex 2 26,d 11 (m 31),d 12 (m 32),d 13 (m 33)] [13,12,11,8,5,4,2]) (s (s (O 34 [m 13,nei 34 0]) (c 35 (r (O 36 [E (.build [.int .i64 0,.ro 9 [] true,.bool false,.int .u64 0,.int .i64 0,.int .i64 0,.int .u8 0,.str [],.str [],.ro 2 [] true,.str [],.ro 6 [] true] []),m 13,n (st 12 8 36),d 9 (m 37)])))) (s (O 38 [m 2,E (.build [.int .i64 0,.ro 9 [] true,.bool false,.int .u64 0,.int .i64 0,.int .i64 0,.int .u8 0,.str [],.str [],.ro 2 [] true,.str [],.ro 6 [] true] [(0,1,T 38)]),d 14 (E (.alloc [.int .i64 0,.ro 9 [] true,.bool false,.int .u64 0,.int .i64 0,.int .i64 0,.int .u8 0,.str [],.str [],.ro 2 [] true,.str [],.ro 6 [] true])),n (st 12 14 39)]) (s (O 41 [h 2 4,h 1 5,m 2,ca 262 [41,42,43],d 40 (m 44),ex 0 40,ex 1 40,d 15 (m 45),d 16 (m 46)]) (s (s (O 47 [m 15,gei 47 0]) (c 48 (s (O 49 [f 2 14,n (E (.store 1 (T 49) (.c (.bool true))))]) (s (Q 50 [h 2 4,h 1 5,m 15,m 15,adi 53 1,ca 263 [50,51,52,54],E (.idxs 9 (T 55) (N 0)),h 9 56,f 3 14,n (st 9 58 57)] [16,15,14,12,11,8,5,4,2]) (O 59 [m 16,f 3 14,f 1 60,n (st 1 61 59)]))))) (s (s (O 62 [h 2 4,h 1 5,m 11,m 12,ca 263 [62,63,64,65],ln 1 66,i 0]) (bk 0 Jk ⟨true,[14,8],[]⟩)) Ei))))))))⟩
@[simp] theorem alm:ZL Jk nC ⟨true,[68,67,66,15,14,11,8,2],[]⟩:=bC rfl
noncomputable abbrev kJ (C:aG) (s:WSt):Option AV:=CK C 0 (aP [.cell 8 12 true,.tmp 9]) [.sq Jk,.bk 0 ⟨true,[14,8],[]⟩,.sq Ei] nC s
def aeF:WFn:=⟨1,[.tmp 2],zd (s (O 2 [E (.mv (.c (.ro 9 [] true)))]) (s (Q 6 [E (.build [.str [],.int .u8 0,.str []] [(0,1,.c (.str [110])),(1,1,.c (.int .u8 3))]),E (.build [.str [],.int .u8 0,.str []] [(0,1,.c (.str [116,101,120,116])),(1,1,.c (.int .u8 1))]),E (.aU [.str [],.int .u8 0,.str []] 2 [(0,T 6),(1,T 7)]),E (.build [.int .u8 0,.str [],.str [],.ro 3 [] true,.str [],.ro 6 [] true] [(0,1,.c (.int .u8 3))]),E (.aU [.int .u8 0,.str [],.str [],.ro 3 [] true,.str [],.ro 6 [] true] 1 [(0,T 9)]),E (.build [.int .u8 0,.str [],.str [],.ro 3 [] true,.str [],.ro 6 [] true] [(0,1,.c (.int .u8 1)),(1,1,.c (.str [114,111,119])),(3,1,T 8),(5,1,T 10)]),d 3 (E (.alloc [.int .u8 0,.str [],.str [],.ro 3 [] true,.str [],.ro 6 [] true])),n (st 6 3 11)] [3,0]) (s (O 12 [E (.build [.str [],.int .u8 0,.str []] [(0,1,.c (.str [105,100])),(1,1,.c (.int .u8 2))]),E (.aU [.str [],.int .u8 0,.str []] 1 [(0,T 12)]),E (.build [.int .u8 0,.str [],.str [],.ro 3 [] true,.str [],.ro 6 [] true] [(0,1,.c (.int .u8 2)),(4,1,.c (.str [35]))]),E (.build [.int .u8 0,.str [],.str [],.ro 3 [] true,.str [],.ro 6 [] true] [(0,1,.c (.int .u8 4))]),E (.aU [.int .u8 0,.str [],.str [],.ro 3 [] true,.str [],.ro 6 [] true] 2 [(0,T 14),(1,T 15)]),E (.build [.int .u8 0,.str [],.str [],.ro 3 [] true,.str [],.ro 6 [] true] [(0,1,.c (.int .u8 1)),(1,1,.c (.str [104,101,97,100])),(2,1,.c (.str [104])),(3,1,T 13),(5,1,T 16)]),d 4 (E (.alloc [.int .u8 0,.str [],.str [],.ro 3 [] true,.str [],.ro 6 [] true])),n (st 6 4 17)]) (s (O 18 [E (.build [.int .u8 0,.str [],.str [],.ro 3 [] true,.str [],.ro 6 [] true] [(0,1,.c (.int .u8 3))]),E (.aU [.int .u8 0,.str [],.str [],.ro 3 [] true,.str [],.ro 6 [] true] 1 [(0,T 18)]),E (.build [.int .u8 0,.str [],.str [],.ro 3 [] true,.str [],.ro 6 [] true] [(0,1,.c (.int .u8 1)),(1,1,.c (.str [98])),(2,1,.c (.str [98,50])),(5,1,T 19)]),E (.build [.str [],.int .u8 0,.str []] [(0,1,.c (.str [111,102])),(1,1,.c (.int .u8 2))]),E (.aU [.str [],.int .u8 0,.str []] 1 [(0,T 21)]),E (.build [.int .u8 0,.str [],.str [],.ro 3 [] true,.str [],.ro 6 [] true] [(0,1,.c (.int .u8 5)),(1,1,.c (.str [116,97,103])),(3,1,T 22)]),E (.aU [.int .u8 0,.str [],.str [],.ro 3 [] true,.str [],.ro 6 [] true] 2 [(0,T 20),(1,T 23)]),E (.build [.int .u8 0,.str [],.str [],.ro 3 [] true,.str [],.ro 6 [] true] [(0,1,.c (.int .u8 1)),(1,1,.c (.str [114,111,119])),(5,1,T 24)]),d 5 (E (.alloc [.int .u8 0,.str [],.str [],.ro 3 [] true,.str [],.ro 6 [] true])),n (st 6 5 25)]) (r (Q 26 [h 6 3,m 0,E (.bin .rem (T 27) (.c (.int .u8 7))),E (.cvt .i64 (T 28)),E (.bin .add (N 10) (T 29)),m 0,E (.bin .rem (T 31) (.c (.int .u8 4))),E (.cvt .i64 (T 32)),E (.build [.int .u8 0,.str [],.str [],.ro 3 [] true,.str [],.ro 6 [] true,.int .i64 0,.bool false,.int .i64 0] [(0,6,T 26),(6,1,T 30),(8,1,T 33)]),h 6 4,m 0,E (.bin .rem (T 36) (.c (.int .u8 3))),E (.cvt .i64 (T 37)),E (.bin .add (N 6) (T 38)),m 0,E (.bin .quo (T 40) (.c (.int .u8 4))),E (.bin .rem (T 41) (.c (.int .u8 3))),E (.cvt .i64 (T 42)),E (.build [.int .u8 0,.str [],.str [],.ro 3 [] true,.str [],.ro 6 [] true,.int .i64 0,.bool false,.int .i64 0] [(0,6,T 35),(6,1,T 39),(7,1,.c (.bool true)),(8,1,T 43)]),h 6 5,m 0,E (.bin .rem (T 46) (.c (.int .u8 16))),E (.bin .eql (T 47) (.c (.int .u8 15))),m 0,E (.bin .quo (T 49) (.c (.int .u8 8))),E (.bin .rem (T 50) (.c (.int .u8 3))),E (.cvt .i64 (T 51)),E (.build [.int .u8 0,.str [],.str [],.ro 3 [] true,.str [],.ro 6 [] true,.int .i64 0,.bool false,.int .i64 0] [(0,6,T 45),(6,1,N 20),(7,1,T 48),(8,1,T 52)]),E (.aU [.int .u8 0,.str [],.str [],.ro 3 [] true,.str [],.ro 6 [] true,.int .i64 0,.bool false,.int .i64 0] 3 [(0,T 34),(1,T 44),(2,T 53)]),d 2 (m 54)] [2]))))))⟩
def KX:aC:=zd (r (O 46 [f 3 2,h 9 46,f 3 3,h 9 48,ca 260 [47,49],d 4 (m 50)]))
def vY:aC:=zd (s (s (Q 27 [m 5,f 1 2,l 1 28,ln 1 29,lt 27 30] [31,5,3,2]) (cc 31 (w .skip) (ee 0))) (s (B 1 (s (V 34 [f 1 2,l 1 34,m 5,ix 9 35 36,h 9 37,f 1 3,l 1 39,m 5,ix 9 40 41,h 9 42,ca 260 [38,43],eqi 44 0] [] ⟨false,[],[]⟩) (c 45 (r (O 4 [i 0]))))) (O 32 [m 5,adi 32 1,d 5 (m 33)])))
def LV:aC:=.loop ⟨true,[5,3,2],[]⟩ vY
def Ru:WFn:=⟨2,[.tmp 4],zd (s (Q 2 [bx 0,bx 1,i 0] [3,2]) (s (s (O 6 [f 0 2,l 1 6,f 0 3,l 1 8,ne 7 9,m 10,z 11 (f 2 2),z 11 (l 1 12),z 11 (f 2 3),z 11 (l 1 14),z 11 (E (.eqv 5 [] true (T 13) (T 15))),po 11 16,m 17,z 18 (f 1 2),z 18 (l 1 19),z 18 (ln 1 20),z 18 (f 1 3),z 18 (l 1 22),z 18 (ln 1 23),z 18 (ne 21 24),po 18 25]) (c 26 (r (O 4 [i 0])))) (s (s (O 5 [i 0]) (bk 0 LV ⟨true,[3,2],[]⟩)) KX)))⟩
@[simp] theorem ak9:ZL LV vY ⟨true,[5,3,2],[]⟩:=bC rfl
noncomputable abbrev zB (C:aG) (s:WSt):Option AV:=CK C 0 (aP [.tmp 4]) [.sq LV,.bk 0 ⟨true,[3,2],[]⟩,.sq KX] vY s
def aeZ:aC:=zd (s (O 166 [h 2 1,h 1 2,E (.call 125 [T 166,T 167,N 15,N 20]),d 165 (m 168),ex 0 165,ex 1 165,d 15 (E (.alloc [.int .i64 0,.ro 9 [] true,.bool false,.int .u64 0,.int .i64 0,.int .i64 0,.int .u8 0,.str [],.str [],.ro 2 [] true,.str [],.ro 6 [] true])),n (st 12 15 169),d 4 (m 170)]) (r (Q 171 [m 4,eqi 171 0,m 172,y 173 (f 1 15),y 173 (l 1 174),y 173 (ln 1 175),y 173 (eqi 176 2),pa 173 177,m 178,y 179 (f 1 15),y 179 (l 1 180),y 179 (E (.idxs 9 (T 181) (N 0))),y 179 (f 1 182),y 179 (l 1 183),y 179 (eqi 184 (-5)),pa 179 185,m 186,y 187 (f 1 15),y 187 (l 1 188),y 187 (E (.idxs 9 (T 189) (N 0))),y 187 (f 0 190),y 187 (l 1 191),y 187 (E (.bin .eql (T 192) (.c (.int .u64 2)))),pa 187 193,m 194,y 195 (f 1 15),y 195 (l 1 196),y 195 (E (.idxs 9 (T 197) (N 1))),y 195 (f 1 198),y 195 (l 1 199),y 195 (eqi 200 15),pa 195 201,m 202,y 203 (f 1 15),y 203 (l 1 204),y 203 (E (.idxs 9 (T 205) (N 1))),y 203 (f 0 206),y 203 (l 1 207),y 203 (E (.bin .eql (T 208) (.c (.int .u64 3)))),pa 203 209,m 210,y 211 (f 3 15),y 211 (f 0 212),y 211 (l 1 213),y 211 (E (.bin .eql (T 214) (.c (.int .u64 1)))),pa 211 215,m 216,y 217 (f 3 15),y 217 (f 1 218),y 217 (l 1 219),y 217 (eqi 220 0),pa 217 221,d 0 (m 222)] [0])))
def UO:aC:=zd (s (s (O 124 [m 12,lti 124 5]) (cc 125 (w .skip) (ee 4))) (s (B 5 (s (V 129 [h 2 1,h 1 2,E (.aU [.int .i64 0] 5 [(0,N 0),(1,N 15),(2,N 24),(3,N 29),(4,N 30)]),m 12,ix 1 131 132,l 1 133,E (.call 125 [T 129,T 130,T 134,N 5]),d 128 (m 135),ex 0 128,ex 1 128,d 13 (E (.alloc [.int .i64 0,.ro 9 [] true,.bool false,.int .u64 0,.int .i64 0,.int .i64 0,.int .u8 0,.str [],.str [],.ro 2 [] true,.str [],.ro 6 [] true])),n (st 12 13 136),d 14 (m 137)] [(0,2),(1,2),(0,10),(1,10),(2,10),(5,10),(6,10)] ⟨false,[],[]⟩) (s (U 138 [m 14,nei 138 0,m 139,z 140 (f 2 13),z 140 (l 1 141),z 140 (nt 142),po 140 143,m 144,z 145 (f 3 13),z 145 (f 0 146),z 145 (l 1 147),z 145 (E (.aU [.int .u64 0] 5 [(0,.c (.int .u64 1)),(1,.c (.int .u64 1)),(2,.c (.int .u64 1)),(3,.c (.int .u64 1)),(4,.c (.int .u64 3))])),z 145 (m 12),z 145 (ix 1 149 150),z 145 (l 1 151),z 145 (ne 148 152),po 145 153,m 154,z 155 (f 3 13),z 155 (f 1 156),z 155 (l 1 157),z 155 (E (.aU [.int .i64 0] 5 [(0,N 0),(1,N 0),(2,N (-4)),(3,N (-9)),(4,N 0)])),z 155 (m 12),z 155 (ix 1 159 160),z 155 (l 1 161),z 155 (ne 158 162),po 155 163] [(10,11),(20,21)] [164,12,2,1]) (c 164 (r (O 0 [ff])))))) (O 126 [m 12,adi 126 1,d 12 (m 127)])))
def Vl:aC:=.loop ⟨true,[12,2,1],[]⟩ UO
def aeg:aC:=zd (s (s (O 12 [i 0]) (bk 4 Vl ⟨true,[2,1],[]⟩)) aeZ)
def U8:aC:=zd (s (s (O 77 [m 8,lti 77 4]) (cc 78 (w .skip) (ee 2))) (s (B 3 (s (V 82 [h 1 2,E (.aU [.int .i64 0] 4 [(0,N 0),(1,N 9),(2,N 30),(3,N 31)]),m 8,ix 1 83 84,l 1 85,E (.aU [.int .i64 0] 4 [(0,N 10),(1,N 2),(2,N 35),(3,N 35)]),m 8,ix 1 87 88,l 1 89,ca 121 [82,86,90],d 81 (m 91),ex 0 81,ex 1 81,ex 2 81,d 9 (m 92),d 10 (m 93),d 11 (m 94)] [(0,1),(0,5),(1,5),(4,5),(1,8)] ⟨false,[],[]⟩) (s (Q 95 [m 9,E (.aU [.int .i64 0] 4 [(0,N 0),(1,N 0),(2,N 2),(3,N 0)]),m 8,ix 1 96 97,l 1 98,ne 95 99,m 100,z 101 (m 10),z 101 (E (.aU [.int .i64 0] 4 [(0,N 1),(1,N 2),(2,N 4),(3,N 0)])),z 101 (m 8),z 101 (ix 1 103 104),z 101 (l 1 105),z 101 (ne 102 106),po 101 107,m 108,z 109 (m 11),z 109 (eqi 110 0),z 109 (m 8),z 109 (lti 112 3),z 109 (E (.eqv 5 [] true (T 111) (T 113))),po 109 114,m 115,z 116 (m 8),z 116 (eqi 117 3),z 116 (m 118),y 119 (m 11),y 119 (nei 120 4),z 116 (pa 119 121),po 116 122] [123,8,2,1]) (c 123 (r (O 0 [ff])))))) (O 79 [m 8,adi 79 1,d 8 (m 80)])))
def Ut:aC:=.loop ⟨true,[8,2,1],[]⟩ U8
def acR:aC:=zd (s (s (O 8 [i 0]) (bk 2 Ut ⟨true,[2,1],[]⟩)) aeg)
def VI:aC:=zd (s (s (O 32 [m 5,lti 32 5]) (cc 33 (w .skip) (ee 0))) (s (B 1 (s (V 37 [h 1 2,E (.aU [.int .i64 0] 5 [(0,N 0),(1,N 9),(2,N 10),(3,N 64),(4,N 65)]),m 5,ix 1 38 39,l 1 40,ca 120 [37,41],d 36 (m 42),ex 0 36,ex 1 36,d 6 (m 43),d 7 (m 44)] [(0,1)] ⟨false,[],[]⟩) (s (U 45 [m 3,m 5,ix 1 45 46,l 1 47,E (.aU [.int .i64 0] 5 [(0,N 0),(1,N 10),(2,N 30),(3,N 35),(4,N 65)]),m 5,ix 1 49 50,l 1 51,ne 48 52,m 53,z 54 (m 6),z 54 (E (.aU [.int .i64 0] 5 [(0,N 0),(1,N 0),(2,N 1),(3,N 3),(4,N 0)])),z 54 (m 5),z 54 (ix 1 56 57),z 54 (l 1 58),z 54 (ne 55 59),po 54 60,m 61,z 62 (m 7),z 62 (eqi 63 0),z 62 (m 5),z 62 (lti 65 4),z 62 (E (.eqv 5 [] true (T 64) (T 66))),po 62 67,m 68,z 69 (m 5),z 69 (eqi 70 4),z 69 (m 71),y 72 (m 7),y 72 (nei 73 4),z 69 (pa 72 74),po 69 75] [(3,4)] [76,5,3,2,1]) (c 76 (r (Q 0 [ff] [0])))))) (O 34 [m 5,adi 34 1,d 5 (m 35)])))
def Vs:aC:=.loop ⟨true,[5,3,2,1],[]⟩ VI
def akf:WFn:=⟨0,[.tmp 0],zd (s (O 0 [ff]) (s (O 17 [ca 266 [],d 16 (m 17),ex 0 16,ex 1 16,d 1 (E (.alloc [.ro 9 [] true,.int .i64 0])),d 2 (E (.alloc [.ro 6 [] true])),n (st 2 1 18),n (st 1 2 19)]) (s (Q 21 [h 1 2,ca 246 [21],d 20 (m 22),ex 0 20,ex 1 20,d 3 (m 23),d 4 (m 24)] [4,3,2,1]) (s (s (O 25 [m 4,nei 25 0,m 26,z 27 (m 3),z 27 (ln 1 28),z 27 (nei 29 5),po 27 30]) (c 31 (r (O 0 [ff])))) (s (s (O 5 [i 0]) (bk 0 Vs ⟨true,[2,1],[]⟩)) acR)))))⟩
@[simp] theorem ald:ZL Vl UO ⟨true,[12,2,1],[]⟩:=bC rfl
@[simp] theorem alq:ZL Ut U8 ⟨true,[8,2,1],[]⟩:=bC rfl
@[simp] theorem alU:ZL Vs VI ⟨true,[5,3,2,1],[]⟩:=bC rfl
def acO:WFn:=⟨1,[.tmp 2],zd (s (O 1 [bx 0,i 0]) (s (O 6 [h 6 1,ca 282 [6],d 5 (m 7),ex 0 5,ex 1 5,d 3 (m 8),d 4 (m 9)]) (r (O 10 [m 3,d 2 (m 10)]))))⟩
def EF:aC:=zd (r (O 32 [m 3,d 2 (m 32)]))
def wZ:aC:=zd (s (s (Q 6 [m 4,f 0 1,l 1 7,ln 1 8,lt 6 9,m 10,y 11 (m 4),y 11 (lti 12 12),pa 11 13] [14,4,3,1]) (cc 14 (w .skip) (ee 0))) (s (B 1 (s (O 17 [f 0 1,l 1 17,m 4,ix 4 18 19,h 4 20,ca 422 [21],d 5 (E (.alloc [.int .u64 0,.int .u8 0,.str [],.ro 1 [] true])),n (st 4 5 22)]) (s (O 23 [m 3,f 0 5,l 1 24,ca 423 [23,25],lti 26 0]) (c 27 (O 28 [m 3,h 4 5,E (.aU [.int .u64 0,.int .u8 0,.str [],.ro 1 [] true] 1 [(0,T 29)]),E (.app [.int .u64 0,.int .u8 0,.str [],.ro 1 [] true] 56 false (T 28) (T 30)),d 3 (m 31)]))))) (O 15 [m 4,adi 15 1,d 4 (m 16)])))
def L9:aC:=.loop ⟨true,[4,3,1],[]⟩ wZ
def afm:WFn:=⟨1,[.tmp 2],zd (s (O 1 [bx 0,E (.mv (.c (.ro 4 [] true)))]) (s (R 3 [E (.mv (.c (.ro 4 [] true)))] ⟨true,[3,1],[(3,4)]⟩) (s (s (O 4 [i 0]) (bk 0 L9 ⟨true,[3],[]⟩)) EF)))⟩
@[simp] theorem alj:ZL L9 wZ ⟨true,[4,3,1],[]⟩:=bC rfl
noncomputable abbrev zV (C:aG) (s:WSt):Option AV:=CK C 0 (aP [.tmp 2]) [.sq L9,.bk 0 ⟨true,[3],[]⟩,.sq EF] wZ s
def Uc:WFn:=⟨3,[.tmp 6],zd (s (O 3 [bx 0,bx 1,d 6 (i 0)]) (s (s (O 9 [h 4 4,f 0 3,l 1 10,ln 1 11,ca 424 [9,12],gti 13 0]) (c 14 (r (O 6 [i 6])))) (s (s (Q 15 [m 2,eqi 15 1] [16,4,3]) (c 16 (r (O 6 [i 8])))) (s (V 18 [f 0 3,l 1 18,f 1 4,l 1 20,ix 9 19 21,f 0 22,h 6 23,h 4 4,f 1 3,l 1 26,ca 425 [24,25,27],d 17 (m 28),ex 0 17,ex 1 17,d 7 (E (.alloc [.int .u8 0,.str [],.str [],.ro 2 [] true,.str [],.ro 6 [] true])),n (st 6 7 29),d 8 (m 30)] [(1,14),(3,14),(6,14),(7,14),(9,14),(10,14)] ⟨false,[],[]⟩) (s (s (O 31 [m 8,gti 31 0]) (c 32 (r (O 6 [i 14])))) (r (O 6 [i 0])))))))⟩
def ae7:WFn:=⟨2,[.cell 4 6 true],zd (s (O 2 [bx 0,bx 1,E (.alloc [.int .u64 0,.int .u8 0,.str [],.ro 1 [] true,.int .i64 0,.bool false])]) (r (V 5 [h 4 3,f 0 2,l 1 6,f 1 3,l 1 8,ix 9 7 9,f 6 10,l 1 11,E (.build [.int .u64 0,.int .u8 0,.str [],.ro 1 [] true,.int .i64 0,.bool false] [(0,4,T 5),(4,1,T 12)]),n (st 6 4 13)] [] ⟨false,[],[]⟩)))⟩
def NT:aC:=zd (r (O 79 [h 1 3,ca 227 [79],d 4 (m 80)]))
def kN:aC:=zd (s (O 26 [lt 25 24]) (s (cc 26 (w .skip) (ee 0)) (s (B 1 (s (O 27 [ix 6 23 25,h 6 27,d 8 (E (.alloc [.int .u64 0,.int .u8 0,.str [],.ro 1 [] true,.int .i64 0,.bool false])),n (st 6 8 28)]) (s (s (O 29 [f 0 8,h 4 29,f 0 2,l 1 31,ln 1 32,ca 398 [30,33],d 9 (m 34)]) (s (O 35 [m 9,nei 35 0]) (c 36 (r (O 37 [m 9,d 4 (m 37)]))))) (s (s (Q 38 [m 6,f 0 8,f 0 39,l 1 40,E (.look 0 (.bool false) false (T 38) (T 41))] [42,25,24,23,8,6,3,2]) (c 42 (r (O 4 [i 8])))) (s (O 43 [m 6,f 0 8,f 0 44,l 1 45,n (E (.upd 0 (T 43) (T 46) (.c (.bool true))))]) (s (s (O 48 [h 2 2,f 0 8,h 4 49,ca 399 [48,50],d 47 (m 51),ex 0 47,ex 1 47,d 10 (E (.alloc [.int .u8 0,.str [],.str [],.ro 2 [] true,.str [],.ro 6 [] true])),n (st 6 10 52),d 11 (m 53)]) (s (O 54 [m 11,nei 54 0]) (c 55 (r (O 4 [i 14]))))) (s (U 56 [f 4 8,l 1 56,ca 225 [57],nt 58,m 59,z 60 (f 5 8),z 60 (l 1 61),z 60 (nt 62),z 60 (m 63),y 64 (f 4 8),y 64 (l 1 65),y 64 (f 0 2),y 64 (l 1 67),y 64 (f 0 8),y 64 (f 1 69),y 64 (l 1 70),y 64 (ix 9 68 71),y 64 (f 6 72),y 64 (l 1 73),y 64 (ne 66 74),z 60 (pa 64 75),po 60 76] [] [77,25,24,23,6,3,2]) (c 77 (r (O 4 [i 12])))))))))) (O 78 [adi 25 1,d 25 (m 78)]))))
def NZ:aC:=.loop ⟨true,[25,24,23,6,3,2],[]⟩ kN
def XC:WFn:=⟨2,[.tmp 4],zd (s (O 2 [bx 0,bx 1,i 0]) (s (s (O 12 [h 2 2,ca 115 [12],d 5 (m 13)]) (s (O 14 [m 5,nei 14 0]) (c 15 (r (O 16 [m 5,d 4 (m 16)]))))) (s (s (Q 17 [f 0 3,l 1 17,ln 1 18,gti 19 1024] [20,3,2]) (c 20 (r (O 4 [i 3])))) (s (O 21 [E .mG,d 6 (m 21)]) (s (s (O 22 [f 0 3,l 1 22,ln 1 23,i 0]) (bk 0 NZ ⟨true,[3],[]⟩)) NT)))))⟩
@[simp] theorem amh:ZL NZ kN ⟨true,[25,24,23,6,3,2],[]⟩:=bC rfl
noncomputable abbrev lX (C:aG) (s:WSt):Option AV:=CK C 0 (aP [.tmp 4]) [.sq NZ,.bk 0 ⟨true,[3],[]⟩,.sq NT] kN s
def KC:aC:=zd (r (O 2 [d 39 (m 5),m 39,i 0]))
def Ar:aC:=zd (s (Q 21 [lt 20 19] [21,20,19,5,1]) (s (cc 21 (w .skip) (ee 0)) (s (B 1 (s (O 22 [m 20,d 6 (m 22)]) (V 23 [m 5,m 6,adi 24 1,m 5,m 6,ix 1 26 27,l 1 28,f 0 1,l 1 30,m 6,ix 6 31 32,f 4 33,l 1 34,ad 29 35,ix 1 23 25,n (st 1 37 36)] [] ⟨false,[],[]⟩))) (O 38 [adi 20 1,d 20 (m 38)]))))
def Ny:aC:=.loop ⟨true,[20,19,5,1],[]⟩ Ar
def abu:WFn:=⟨1,[.tmp 2,.tmp 3],zd (s (O 1 [bx 0,E (.mv (.c (.ro 1 [] true))),i 0]) (s (s (O 7 [h 1 1,ca 122 [7],d 4 (m 8)]) (s (O 9 [m 4,nei 9 0]) (c 10 (r (O 2 [d 11 (m 4),E (.mv (.c (.ro 1 [] true))),m 11]))))) (s (O 12 [f 0 1,l 1 12,ln 1 13,adi 14 1,E (.qo [.int .i64 0] 8 (T 15) (T 15)),d 5 (m 16)]) (s (s (O 17 [f 0 1,l 1 17,ln 1 18,i 0]) (bk 0 Ny ⟨true,[5],[]⟩)) KC))))⟩
@[simp] theorem amC:ZL Ny Ar ⟨true,[20,19,5,1],[]⟩:=bC rfl
noncomputable abbrev Eb (C:aG) (s:WSt):Option AV:=CK C 0 (aP [.tmp 2,.tmp 3]) [.sq Ny,.bk 0 ⟨true,[5],[]⟩,.sq KC] Ar s
def MQ:aC:=zd (r (O 19 [m 5,d 4 (m 19)]))
def AA:aC:=zd (s (s (O 7 [m 6,m 1,lt 7 8]) (cc 9 (w .skip) (ee 0))) (s (B 1 (O 12 [m 5,m 0,m 6,ix 6 13 14,f 4 15,l 1 16,ad 12 17,d 5 (m 18)])) (O 10 [m 6,adi 10 1,d 6 (m 11)])))
def J3:aC:=.loop ⟨true,[6,5,1,0],[]⟩ AA
def aeX:WFn:=⟨2,[.tmp 4],zd (s (O 4 [i 0]) (s (O 5 [i 0]) (s (s (O 6 [i 0]) (bk 0 J3 ⟨true,[5],[]⟩)) MQ)))⟩
@[simp] theorem ak0:ZL J3 AA ⟨true,[6,5,1,0],[]⟩:=bC rfl
noncomputable abbrev D8 (C:aG) (s:WSt):Option AV:=CK C 0 (aP [.tmp 4]) [.sq J3,.bk 0 ⟨true,[5],[]⟩,.sq MQ] AA s
def Nb:aC:=zd (r (O 27 [m 0,ca 407 [27],d 2 (m 28)]))
def sJ:aC:=zd (s (s (Q 7 [m 3,m 0,ln 1 8,lt 7 9] [10,3,0]) (cc 10 (w .skip) (ee 0))) (s (B 1 (s (O 13 [m 0,m 3,ix 6 13 14,f 4 15,l 1 16,lti 17 1,m 18,z 19 (m 0),z 19 (m 3),z 19 (ix 6 20 21),z 19 (f 4 22),z 19 (l 1 23),z 19 (gti 24 2305843009213693952),po 19 25]) (c 26 (r (O 2 [i 12]))))) (O 11 [m 3,adi 11 1,d 3 (m 12)])))
def J5:aC:=.loop ⟨true,[3,0],[]⟩ sJ
def Ze:WFn:=⟨1,[.tmp 2],zd (s (O 2 [i 0]) (s (s (O 4 [m 0,ln 1 4,gti 5 1024]) (c 6 (r (O 2 [i 3])))) (s (s (O 3 [i 0]) (bk 0 J5 ⟨true,[0],[]⟩)) Nb)))⟩
@[simp] theorem alG:ZL J5 sJ ⟨true,[3,0],[]⟩:=bC rfl
noncomputable abbrev wW (C:aG) (s:WSt):Option AV:=CK C 0 (aP [.tmp 2]) [.sq J5,.bk 0 ⟨true,[0],[]⟩,.sq Nb] sJ s
def aer:WFn:=⟨1,[.tmp 2],zd (s (O 2 [ff]) (r (O 3 [m 0,gei 3 1,m 4,y 5 (m 0),y 5 (lei 6 2305843009213693952),pa 5 7,d 2 (m 8)])))⟩
def acH:WFn:=⟨1,[.tmp 2],zd (s (O 1 [bx 0,i 0]) (s (s (O 3 [h 1 1,ca 111 [3],gti 4 4611686018427387904]) (c 5 (r (O 2 [i 13])))) (r (O 2 [i 0]))))⟩
def XU:WFn:=⟨1,[.tmp 2],zd (s (O 1 [bx 0,ff]) (r (O 3 [f 6 1,l 1 3,ca 225 [4],nt 5,m 6,z 7 (f 0 1),z 7 (h 6 8),z 7 (ca 231 [9]),z 7 (nei 10 0),po 7 11,d 2 (m 12)])))⟩
def Y9:WFn:=⟨1,[.tmp 2],zd (s (O 1 [bx 0,i 0]) (s (s (O 3 [h 6 1,ca 404 [3],eqi 4 0]) (c 5 (r (O 2 [i 14])))) (r (O 2 [i 0]))))⟩
def ab4:WFn:=⟨2,[.tmp 4],zd (s (O 4 [ff]) (r (O 5 [m 0,m 1,ca 405 [5,6],gei 7 0,d 4 (m 8)])))⟩
def acS:WFn:=⟨3,[.cell 6 6 true,.tmp 7],zd (s (O 6 [d 3 (bx 0),d 4 (bx 1),E (.alloc [.int .u8 0,.str [],.str [],.ro 2 [] true,.str [],.ro 6 [] true]),i 0]) (s (s (O 9 [h 2 3,h 1 4,ca 223 [9,10],d 8 (m 11)]) (s (O 12 [m 8,nei 12 0]) (c 13 (r (O 14 [E (.build [.int .u8 0,.str [],.str [],.ro 2 [] true,.str [],.ro 6 [] true] []),m 8,n (st 6 6 14),d 7 (m 15)]))))) (s (s (Q 16 [m 2,lti 16 0,m 17,z 18 (m 2),z 18 (f 0 4),z 18 (l 1 20),z 18 (ln 1 21),z 18 (ge 19 22),po 18 23] [24,6,4,3,2]) (c 24 (r (O 25 [E (.build [.int .u8 0,.str [],.str [],.ro 2 [] true,.str [],.ro 6 [] true] []),n (st 6 6 25),d 7 (i 4)])))) (r (V 26 [h 2 3,f 0 4,l 1 27,m 2,ix 6 28 29,f 0 30,h 4 31,ca 399 [26,32],ex 0 33,ex 1 33,n (st 6 6 34),d 7 (m 35)] [] ⟨false,[],[]⟩)))))⟩
def afe:WFn:=⟨2,[.tmp 4],zd (s (O 2 [bx 0,bx 1,i 0]) (r (O 5 [l 1 2,ln 1 5,sbi 6 1,E (.kY 412 [T 2,T 3]),ca 411 [7,8],d 4 (m 9)])))⟩
def MX:WFn:=⟨3,[.tmp 6],zd (s (O 6 [d 3 (bx 0),i 0]) (s (s (O 8 [h 1 3,ca 122 [8],d 7 (m 9)]) (s (O 10 [m 7,nei 10 0]) (c 11 (r (Q 12 [m 7,d 6 (m 12)] [6]))))) (s (B 0 (s (O 14 [m 2,lti 14 1,m 15,z 16 (m 2),z 16 (gti 17 2147483648),po 16 18,d 13 (m 19)]) (cc 13 (r (O 6 [i 1])) (s (O 21 [m 1,lti 21 0,m 22,z 23 (m 1),z 23 (h 1 3),z 23 (ca 111 [25]),z 23 (m 2),z 23 (sb 26 27),z 23 (E (.mx (N 0) (T 28))),z 23 (gt 24 29),po 23 30,d 20 (m 31)]) (c 20 (r (O 6 [i 4]))))))) (r (O 6 [i 0])))))⟩
def ae6:WFn:=⟨2,[.tmp 4],zd (s (O 4 [ff]) (r (O 5 [m 0,m 1,ca 402 [5,6],gei 7 0,d 4 (m 8)])))⟩
def WU:WFn:=⟨1,[.tmp 2],zd (s (O 1 [bx 0,ff]) (r (O 3 [f 4 1,l 1 3,lti 4 1,m 5,z 6 (f 4 1),z 6 (l 1 7),z 6 (gti 8 2305843009213693952),po 6 9,d 2 (m 10)])))⟩
def Ju:WFn:=⟨3,[.tmp 6],zd (s (O 6 [i 0]) (s (s (Q 7 [m 0,ca 251 [7],gti 8 0] [9,2,1,0]) (c 9 (r (O 10 [m 0,ca 251 [10],d 6 (m 11)])))) (s (s (O 12 [m 2,lti 12 1,m 13,z 14 (m 2),z 14 (gti 15 2147483648),po 14 16]) (c 17 (r (O 6 [i 1])))) (s (s (O 18 [m 1,lti 18 0,m 19,z 20 (m 1),z 20 (m 0),z 20 (m 2),z 20 (ca 327 [22,23]),z 20 (gt 21 24),po 20 25]) (c 26 (r (O 6 [i 4])))) (r (O 6 [i 0]))))))⟩
def MN:aC:=zd (r (O 4 [i (-1)]))
def tX:aC:=zd (s (s (O 6 [m 5,m 0,ln 1 7,lt 6 8]) (cc 9 (w .skip) (ee 0))) (s (B 1 (s (O 12 [m 0,m 5,ca 253 [12,13],m 1,le 14 15,m 16,y 17 (m 1),y 17 (m 0),y 17 (m 5),y 17 (adi 20 1),y 17 (ca 253 [19,21]),y 17 (lt 18 22),pa 17 23]) (c 24 (r (O 25 [m 5,d 4 (m 25)]))))) (O 10 [m 5,adi 10 1,d 5 (m 11)])))
def KL:aC:=.loop ⟨true,[5,1,0],[]⟩ tX
def ade:WFn:=⟨2,[.tmp 4],zd (s (O 4 [i 0]) (s (s (Q 5 [i 0] [5,1,0]) (bk 0 KL ⟨true,[],[]⟩)) MN))⟩
@[simp] theorem alf:ZL KL tX ⟨true,[5,1,0],[]⟩:=bC rfl
noncomputable abbrev wu (C:aG) (s:WSt):Option AV:=CK C 0 (aP [.tmp 4]) [.sq KL,.bk 0 ⟨true,[],[]⟩,.sq MN] tX s
def EH:aC:=zd (r (O 27 [m 8,m 8,m 9,ad 28 29,d 6 (m 27),d 7 (m 30)]))
def qj:aC:=zd (s (s (O 14 [m 10,gei 14 0]) (cc 15 (w .skip) (ee 0))) (s (B 1 (s (O 18 [m 0,m 1,m 2,m 10,ca 272 [18,19,20,21],eqi 22 1]) (c 23 (s (O 24 [m 10,d 8 (m 24)]) (O 25 [m 9,adi 25 1,d 9 (m 26)]))))) (O 16 [m 10,sbi 16 1,d 10 (m 17)])))
def KR:aC:=.loop ⟨true,[10,9,8,2,1,0],[]⟩ qj
def ZI:WFn:=⟨3,[.tmp 6,.tmp 7],zd (s (O 6 [i 0,i 0]) (s (O 8 [i 0,i 0]) (s (s (Q 11 [m 0,ln 1 11,sbi 12 1,d 10 (m 13)] [10,9,8,2,1,0]) (bk 0 KR ⟨true,[9,8],[]⟩)) EH)))⟩
@[simp] theorem alZ:ZL KR qj ⟨true,[10,9,8,2,1,0],[]⟩:=bC rfl
noncomputable abbrev wE (C:aG) (s:WSt):Option AV:=CK C 0 (aP [.tmp 6,.tmp 7]) [.sq KR,.bk 0 ⟨true,[9,8],[]⟩,.sq EH] qj s
def vM:aC:=zd (s (s (O 51 [m 10,gei 51 0]) (c 52 (s (O 53 [f 2 9,n (E (.store 1 (T 53) (.c (.bool true))))]) (s (O 54 [h 2 4,m 1,m 10,ca 261 [54,55,56],f 3 9,n (st 9 58 57)]) (O 59 [h 2 4,m 1,m 2,m 10,ca 151 [59,60,61,62],f 3 9,f 1 64,n (st 1 65 63)]))))) (r (O 66 [h 12 9,n (st 12 8 66)])))
def jl:aC:=zd (s (s (Q 19 [m 11,m 1,ln 1 20,lt 19 21] [22,11,10,9,8,4,3,2,1]) (cc 22 (w .skip) (ee 0))) (s (B 1 (s (O 25 [m 11,m 10,ne 25 26,m 27,y 28 (m 1),y 28 (m 2),y 28 (m 3),y 28 (m 11),y 28 (ca 272 [29,30,31,32]),y 28 (eqi 33 1),pa 28 34]) (c 35 (s (O 36 [h 2 4,m 1,m 11,ca 261 [36,37,38],d 12 (E (.alloc [.int .u64 0,.int .i64 0,.int .i64 0,.int .u8 0,.str [],.str [],.ro 2 [] true,.str [],.ro 6 [] true])),n (st 9 12 39)]) (s (O 40 [f 1 12,l 1 40,m 2,sb 41 42,f 1 12,n (st 1 44 43)]) (Q 45 [f 1 9,l 1 45,h 9 12,E (.aU [.int .u64 0,.int .i64 0,.int .i64 0,.int .u8 0,.str [],.str [],.ro 2 [] true,.str [],.ro 6 [] true] 1 [(0,T 47)]),E (.app [.int .u64 0,.int .i64 0,.int .i64 0,.int .u8 0,.str [],.str [],.ro 2 [] true,.str [],.ro 6 [] true] 128 false (T 46) (T 48)),f 1 9,n (st 1 50 49)] [11,10,9,8,4,3,2,1])))))) (O 23 [m 11,adi 23 1,d 11 (m 24)])))
def JF:aC:=.loop ⟨true,[11,10,9,8,4,3,2,1],[]⟩ jl
def afu:WFn:=⟨4,[.cell 8 12 true],zd (s (O 8 [d 4 (bx 0),E (.alloc [.int .i64 0,.ro 9 [] true,.bool false,.int .u64 0,.int .i64 0,.int .i64 0,.int .u8 0,.str [],.str [],.ro 2 [] true,.str [],.ro 6 [] true])]) (s (O 13 [m 2,E (.build [.int .i64 0,.ro 9 [] true,.bool false,.int .u64 0,.int .i64 0,.int .i64 0,.int .u8 0,.str [],.str [],.ro 2 [] true,.str [],.ro 6 [] true] [(0,1,T 13)]),d 9 (E (.alloc [.int .i64 0,.ro 9 [] true,.bool false,.int .u64 0,.int .i64 0,.int .i64 0,.int .u8 0,.str [],.str [],.ro 2 [] true,.str [],.ro 6 [] true])),n (st 12 9 14)]) (s (O 15 [h 2 4,m 1,m 2,ca 149 [15,16,17],d 10 (m 18)]) (s (s (O 11 [i 0]) (bk 0 JF ⟨true,[10,9,8,4,2,1],[]⟩)) vM))))⟩
@[simp] theorem amf:ZL JF jl ⟨true,[11,10,9,8,4,3,2,1],[]⟩:=bC rfl
noncomputable abbrev ji (C:aG) (s:WSt):Option AV:=CK C 0 (aP [.cell 8 12 true]) [.sq JF,.bk 0 ⟨true,[10,9,8,4,2,1],[]⟩,.sq vM] jl s
def TJ:WFn:=⟨2,[.tmp 4],zd (s (O 2 [bx 0,bx 1,ff]) (r (Q 5 [f 0 2,l 1 5,f 0 3,l 1 7,eq 6 8,m 9,y 10 (f 2 2),y 10 (l 1 11),y 10 (f 2 3),y 10 (l 1 13),y 10 (E (.eqv 5 [] false (T 12) (T 14))),pa 10 15,m 16,y 17 (f 3 2),y 17 (h 9 18),y 17 (f 3 3),y 17 (h 9 20),y 17 (ca 413 [19,21]),pa 17 22,m 23,y 24 (f 1 2),y 24 (l 1 25),y 24 (f 1 3),y 24 (l 1 27),y 24 (E (.call 414 [T 26,T 28,.c (.fn 413 [])])),pa 24 29,d 4 (m 30)] [4])))⟩
def adA:WFn:=⟨2,[.tmp 4,.tmp 5],zd (s (O 2 [bx 0,bx 1,E (.mv (.c (.ro 9 [] true))),i 0]) (s (s (O 7 [h 2 2,h 1 3,ca 223 [7,8],d 6 (m 9)]) (s (O 10 [m 6,nei 10 0]) (c 11 (r (O 4 [d 12 (m 6),E (.mv (.c (.ro 9 [] true))),m 12]))))) (r (O 13 [h 2 2,h 1 3,f 0 3,l 1 15,ln 1 16,E (.call 263 [T 13,T 14,N 0,T 17]),d 4 (m 18),d 5 (i 0)]))))⟩
def RI:WFn:=⟨2,[.tmp 4],zd (s (O 2 [bx 0,bx 1,i 0]) (s (s (Q 5 [f 0 2,l 1 5,f 0 3,l 1 7,ne 6 8,m 9,z 10 (f 1 2),z 10 (l 1 11),z 10 (f 1 3),z 10 (l 1 13),z 10 (ne 12 14),po 10 15,m 16,z 17 (f 2 2),z 17 (l 1 18),z 17 (f 2 3),z 17 (l 1 20),z 17 (ne 19 21),po 17 22] [23,3,2]) (c 23 (r (O 4 [i 0])))) (r (O 24 [f 3 2,h 6 24,f 3 3,h 6 26,ca 415 [25,27],d 4 (m 28)]))))⟩
def adM:WFn:=⟨3,[.cell 6 9 true],zd (s (O 6 [d 3 (bx 0),E (.alloc [.int .u64 0,.int .i64 0,.int .i64 0,.int .u8 0,.str [],.str [],.ro 2 [] true,.str [],.ro 6 [] true])]) (r (V 7 [m 1,m 2,ix 6 7 8,f 0 9,f 0 10,l 1 11,m 1,m 2,ca 253 [13,14],m 1,m 2,ix 6 16 17,f 4 18,l 1 19,h 2 3,m 1,m 2,ca 417 [21,22,23],ca 416 [24],E (.build [.int .u64 0,.int .i64 0,.int .i64 0,.int .u8 0,.str [],.str [],.ro 2 [] true,.str [],.ro 6 [] true] [(0,1,T 12),(1,1,T 15),(2,1,T 20),(3,6,T 25)]),n (st 9 6 26)] [(5,8),(8,13),(8,14),(5,17),(13,17),(5,18),(13,18)] ⟨false,[],[]⟩)))⟩
def zW:aC:=zd (r (O 58 [m 6,m 7,d 6 (m 58),d 7 (m 59)]))
def pV:aC:=zd (s (O 21 [lt 20 19]) (s (cc 21 (w .skip) (ee 0)) (s (B 1 (s (O 22 [m 20,ix 6 18 20,h 6 23,d 11 (E (.alloc [.int .u64 0,.int .u8 0,.str [],.ro 1 [] true,.int .i64 0,.bool false])),d 10 (m 22),n (st 6 11 24)]) (s (s (O 25 [f 0 3,l 1 25,f 0 11,f 1 27,l 1 28,ix 9 26 29,f 7 30,l 1 31,nt 32]) (c 33 (ee 1))) (s (s (O 34 [m 8,m 10,ix 1 34 35,l 1 36,m 2,gt 37 38]) (c 39 (s (s (Q 40 [m 6,gei 40 0] [41,10,8,7,6,4,2]) (c 41 (V 42 [m 8,m 10,ix 1 42 43,l 1 44,m 2,sb 45 46,f 0 4,l 1 48,m 6,ix 6 49 50,f 4 51,l 1 52,sb 47 53,E (.mn (N 0) (T 54)),d 7 (m 55)] [] ⟨false,[],[]⟩))) (ee 0)))) (O 56 [m 10,d 6 (m 56)]))))) (O 57 [adi 20 1,d 20 (m 57)]))))
def Jm:aC:=.loop ⟨true,[20,19,18,8,7,6,4,3,2],[]⟩ pV
def acZ:WFn:=⟨3,[.tmp 6,.tmp 7],zd (s (O 6 [d 3 (bx 0),d 4 (bx 1),i 0,i 0]) (s (O 13 [h 1 4,ca 246 [13],d 12 (m 14),ex 0 12,ex 1 12,d 8 (m 15),d 9 (m 16)]) (s (O 6 [i (-1)]) (s (s (Q 17 [f 0 4,l 1 17,ln 1 18,i 0] [20,19,18,8,7,6,4,3,2]) (bk 0 Jm ⟨true,[7,6],[]⟩)) zW))))⟩
@[simp] theorem al5:ZL Jm pV ⟨true,[20,19,18,8,7,6,4,3,2],[]⟩:=bC rfl
noncomputable abbrev tC (C:aG) (s:WSt):Option AV:=CK C 0 (aP [.tmp 6,.tmp 7]) [.sq Jm,.bk 0 ⟨true,[7,6],[]⟩,.sq zW] pV s
def JJ:aC:=zd (r (O 67 [m 11,d 8 (m 67)]))
def zM:aC:=zd (s (O 32 [lt 31 30]) (s (cc 32 (w .skip) (ee 0)) (s (B 1 (s (O 33 [m 31,d 12 (m 33)]) (s (O 34 [f 0 5,l 1 34,m 2,m 12,ad 36 37,ix 6 35 38,h 6 39,d 13 (E (.alloc [.int .u64 0,.int .u8 0,.str [],.ro 1 [] true,.int .i64 0,.bool false])),n (st 6 13 40)]) (s (Q 42 [h 2 4,h 6 13,E (.aU [.int .u64 0,.int .u8 0,.str [],.ro 1 [] true,.int .i64 0,.bool false] 1 [(0,T 43)]),E (.build [.ro 6 [] true] [(0,1,T 44)]),E (.call 238 [T 42,T 45,N 0]),d 41 (m 46),ex 0 41,ex 1 41,d 14 (E (.alloc [.int .u8 0,.str [],.str [],.ro 2 [] true,.str [],.ro 6 [] true])),n (st 6 14 47),d 15 (m 48)] [31,30,14,13,12,11,9,5,4,2]) (V 49 [m 11,m 12,f 0 13,f 0 51,l 1 52,m 9,m 2,m 12,ad 55 56,ix 1 54 57,l 1 58,f 4 13,l 1 60,h 6 14,ca 418 [62],E (.build [.int .u64 0,.int .i64 0,.int .i64 0,.int .u8 0,.str [],.str [],.ro 2 [] true,.str [],.ro 6 [] true] [(0,1,T 53),(1,1,T 59),(2,1,T 61),(3,6,T 63)]),ix 9 49 50,n (st 9 65 64)] [(4,14),(10,14),(12,14)] ⟨false,[],[]⟩))))) (O 66 [adi 31 1,d 31 (m 66)]))))
def JK:aC:=.loop ⟨true,[31,30,11,9,5,4,2],[]⟩ zM
def XT:WFn:=⟨4,[.tmp 8],zd (s (O 4 [bx 0,bx 1,d 8 (E (.mv (.c (.ro 9 [] true))))]) (s (s (O 16 [m 2,m 3,eq 16 17]) (c 18 (r (O 8 [E (.mv (.c (.ro 9 [] true)))])))) (s (Q 20 [h 1 5,ca 246 [20],d 19 (m 21),ex 0 19,ex 1 19,d 9 (m 22),d 10 (m 23)] [9,5,4,3,2]) (s (O 24 [m 3,m 2,sb 24 25,E (.qo [.int .u64 0,.int .i64 0,.int .i64 0,.int .u8 0,.str [],.str [],.ro 2 [] true,.str [],.ro 6 [] true] 128 (T 26) (T 26)),d 11 (m 27)]) (s (s (O 28 [m 3,m 2,sb 28 29,i 0]) (bk 0 JK ⟨true,[11],[]⟩)) JJ)))))⟩
@[simp] theorem akZ:ZL JK zM ⟨true,[31,30,11,9,5,4,2],[]⟩:=bC rfl
noncomputable abbrev DR (C:aG) (s:WSt):Option AV:=CK C 0 (aP [.tmp 8]) [.sq JK,.bk 0 ⟨true,[11],[]⟩,.sq JJ] zM s
def aee:WFn:=⟨1,[.tmp 2],zd (s (O 2 [E (.mv (.c (.ro 9 [] true)))]) (r (O 3 [m 0,m 0,ln 1 4,m 0,ln 1 6,E (.slice 9 (T 3) none (some (T 5)) (some (T 7))),d 2 (m 8)])))⟩
def Zg:WFn:=⟨1,[.tmp 2],zd (w (.cln [.int .u64 0,.int .i64 0,.int .i64 0,.int .u8 0,.str [],.str [],.ro 2 [] true,.str [],.ro 6 [] true] 9 128))⟩
def aeA:aC:=zd (r (V 35 [h 2 3,h 1 4,n (st 2 0 35),n (st 1 1 36)] [(1,2)] ⟨false,[],[]⟩))
def VE:aC:=zd (s (s (O 13 [m 5,lti 13 4]) (cc 14 (w .skip) (ee 0))) (s (B 1 (U 17 [f 0 4,l 1 17,m 5,adi 19 1,E (.cvt .u64 (T 20)),m 5,E (.bin .rem (T 22) (N 2)),E (.bin .sub (N 1) (T 23)),E (.cvt .u8 (T 24)),E (.build [.int .u64 0,.int .u8 0,.str [],.ro 1 [] true] [(0,1,T 21),(1,1,T 25)]),E (.aU [.int .i64 0] 4 [(0,N 10),(1,N 20),(2,N 5),(3,N 30)]),m 5,ix 1 27 28,l 1 29,E (.build [.int .u64 0,.int .u8 0,.str [],.ro 1 [] true,.int .i64 0,.bool false] [(0,4,T 26),(4,1,T 30),(5,1,.c (.bool true))]),E (.aU [.int .u64 0,.int .u8 0,.str [],.ro 1 [] true,.int .i64 0,.bool false] 1 [(0,T 31)]),E (.app [.int .u64 0,.int .u8 0,.str [],.ro 1 [] true,.int .i64 0,.bool false] 72 false (T 18) (T 32)),f 0 4,n (st 1 34 33)] [(1,10),(1,15)] [5,4,3,1,0])) (O 15 [m 5,adi 15 1,d 5 (m 16)])))
def Ve:aC:=.loop ⟨true,[5,4,3,1,0],[]⟩ VE
def akJ:WFn:=⟨0,[.cell 0 2 true,.cell 1 1 true],zd (s (O 0 [E (.alloc [.ro 9 [] true,.int .i64 0]),E (.alloc [.ro 6 [] true])]) (s (O 6 [E (.build [.int .u8 0,.str [],.str [],.ro 3 [] true,.str [],.ro 6 [] true] [(0,1,.c (.int .u8 1)),(1,1,.c (.str [114,111,119]))]),d 2 (E (.alloc [.int .u8 0,.str [],.str [],.ro 3 [] true,.str [],.ro 6 [] true])),n (st 6 2 6)]) (s (O 7 [h 6 2,E (.build [.int .u8 0,.str [],.str [],.ro 3 [] true,.str [],.ro 6 [] true,.int .i64 0,.bool false,.int .i64 0] [(0,6,T 7),(6,1,N 1)]),h 6 2,E (.build [.int .u8 0,.str [],.str [],.ro 3 [] true,.str [],.ro 6 [] true,.int .i64 0,.bool false,.int .i64 0] [(0,6,T 9),(6,1,N 1),(7,1,.c (.bool true))]),E (.aU [.int .u8 0,.str [],.str [],.ro 3 [] true,.str [],.ro 6 [] true,.int .i64 0,.bool false,.int .i64 0] 2 [(0,T 8),(1,T 10)]),E (.build [.ro 9 [] true,.int .i64 0] [(0,1,T 11),(1,1,N 1)]),d 3 (E (.alloc [.ro 9 [] true,.int .i64 0])),n (st 2 3 12)]) (s (O 4 [E (.alloc [.ro 6 [] true])]) (s (s (O 5 [i 0]) (bk 0 Ve ⟨true,[4,3,1,0],[]⟩)) aeA)))))⟩
@[simp] theorem alg:ZL Ve VE ⟨true,[5,4,3,1,0],[]⟩:=bC rfl
def aeY:WFn:=⟨1,[.cell 2 1 false,.cell 3 1 false],zd (s (O 1 [bx 0,E (.alloc [.int .i64 0]),E (.alloc [.int .i64 0])]) (s (O 4 [E (.alloc [.dG])]) (s (O 5 [E (.kY 433 [T 2,T 3,T 4]),n (st 1 4 5)]) (s (s (O 6 [l 1 4,E (.dS (T 6) [T 1,N 1]),nt 7]) (c 8 (r (O 0 [n (E (.store 1 (T 2) (N 0))),n (E (.store 1 (T 3) (N 0)))])))) (r (V 9 [l 1 2,l 1 3,n (st 1 2 9),n (st 1 3 10)] [(1,2)] ⟨false,[],[]⟩))))))⟩
def vT:aC:=zd (s (s (O 45 [E (.kD 4 1 (T 1) (N 3)),l 1 45,E (.bin .geq (T 46) (.c (.int .u8 240)))]) (c 47 (O 48 [f 3 3,l 1 48,E (.aU [.str []] 2 [(0,.c (.str [97])),(1,.c (.str [97]))]),E (.app [.str []] 16 false (T 49) (T 50)),f 3 3,n (st 1 52 51)]))) (r (O 53 [h 4 3,n (st 4 2 53)])))
def jO:aC:=zd (s (s (O 20 [m 4,lti 20 3]) (cc 21 (w .skip) (ee 0))) (s (B 1 (s (O 24 [E (.kD 4 1 (T 1) (N 3)),l 1 24,m 4,E (.bin .shr (T 25) (T 26)),E (.bin .and (T 27) (.c (.int .u8 1))),E (.bin .gtr (T 28) (.c (.int .u8 0)))]) (c 29 (U 30 [f 3 3,l 1 30,E (.aU [.str []] 3 [(0,.c (.str [97])),(1,.c (.str [98,50])),(2,.c (.str [107,101,121]))]),m 4,E (.kD 4 1 (T 1) (N 3)),l 1 34,E (.bin .quo (T 35) (.c (.int .u8 8))),E (.cvt .i64 (T 36)),ad 33 37,E (.bin .rem (T 38) (N 3)),ix 1 32 39,l 1 40,E (.aU [.str []] 1 [(0,T 41)]),E (.app [.str []] 16 false (T 31) (T 42)),f 3 3,n (st 1 44 43)] [(1,2),(2,5),(1,12)] [4,3,2,1])))) (O 22 [m 4,adi 22 1,d 4 (m 23)])))
def NS:aC:=.loop ⟨true,[4,3,2,1],[]⟩ jO
def Hf:WFn:=⟨1,[.cell 2 4 true],zd (s (O 1 [bx 0,E (.alloc [.int .u64 0,.int .u8 0,.str [],.ro 1 [] true])]) (s (U 5 [E (.kD 4 1 (T 1) (N 0)),l 1 5,E (.bin .rem (T 6) (.c (.int .u8 60))),E (.cvt .u64 (T 7)),E (.bin .add (.c (.int .u64 1)) (T 8)),E (.kD 4 1 (T 1) (N 1)),l 1 10,E (.bin .rem (T 11) (.c (.int .u8 3))),E (.aU [.str []] 8 [(0,.c (.str [])),(1,.c (.str [97])),(2,.c (.str [114,111,119])),(3,.c (.str [116,119,111,32,119,111,114,100,115])),(4,.c (.str [32,32])),(5,.c (.str [126,33,45,44])),(6,.c (.str [97,32,108,111,110,103,101,114,32,116,101,120,116,32,111,102,32,116,104,105,115,32,107,105,110,100])),(7,.c (.str [57]))]),E (.kD 4 1 (T 1) (N 2)),l 1 14,E (.bin .rem (T 15) (.c (.int .u8 8))),ix 1 13 16,l 1 17,E (.build [.int .u64 0,.int .u8 0,.str [],.ro 1 [] true] [(0,1,T 9),(1,1,T 12),(2,1,T 18)]),d 3 (E (.alloc [.int .u64 0,.int .u8 0,.str [],.ro 1 [] true])),n (st 4 3 19)] [(1,8),(6,8),(8,10),(1,15),(6,15),(8,15),(10,15),(13,15)] [3,2,1]) (s (s (O 4 [i 0]) (bk 0 NS ⟨true,[3,2,1],[]⟩)) vT)))⟩
@[simp] theorem amD:ZL NS jO ⟨true,[4,3,2,1],[]⟩:=bC rfl
noncomputable abbrev bW (C:aG) (s:WSt):Option AV:=CK C 0 (aP [.cell 2 4 true]) [.sq NS,.bk 0 ⟨true,[3,2,1],[]⟩,.sq vT] jO s
def NG:aC:=zd (r (O 4 [i (-1)]))
def vW:aC:=zd (s (s (O 6 [m 5,m 0,ln 1 7,lt 6 8]) (cc 9 (w .skip) (ee 0))) (s (B 1 (s (O 12 [m 0,m 5,ix 4 12 13,f 0 14,l 1 15,m 1,eq 16 17]) (c 18 (r (O 19 [m 5,d 4 (m 19)]))))) (O 10 [m 5,adi 10 1,d 5 (m 11)])))
def Nz:aC:=.loop ⟨true,[5,1,0],[]⟩ vW
def acB:WFn:=⟨2,[.tmp 4],zd (s (O 4 [i 0]) (s (s (O 5 [i 0]) (bk 0 Nz ⟨true,[],[]⟩)) NG))⟩
@[simp] theorem amk:ZL Nz vW ⟨true,[5,1,0],[]⟩:=bC rfl
noncomputable abbrev zT (C:aG) (s:WSt):Option AV:=CK C 0 (aP [.tmp 4]) [.sq Nz,.bk 0 ⟨true,[],[]⟩,.sq NG] vW s
def Ll:aC:=zd (s (s (O 41 [m 5,eqi 41 1]) (c 42 (r (O 4 [i 0])))) (r (O 4 [i 6])))
def Aj:aC:=zd (s (s (O 26 [m 6,f 3 2,l 1 27,ln 1 28,lt 26 29]) (cc 30 (w .skip) (ee 0))) (s (B 1 (O 33 [m 5,f 3 2,l 1 34,m 6,ix 1 35 36,l 1 37,ca 511 [38],E (.bin .mul (T 33) (T 39)),d 5 (m 40)])) (O 31 [m 6,adi 31 1,d 6 (m 32)])))
def JL:aC:=.loop ⟨true,[6,5,2],[]⟩ Aj
def Ol:WFn:=⟨2,[.tmp 4],zd (s (O 4 [d 2 (bx 0),i 0]) (s (O 7 [f 2 2,l 1 7,ca 510 [8],d 5 (m 9)]) (s (s (Q 10 [f 0 2,l 1 10,E (.bin .eql (T 11) (.c (.int .u64 0))),m 12,z 13 (m 1),z 13 (f 1 2),z 13 (l 1 15),z 13 (E (.cvt .i64 (T 16))),z 13 (le 14 17),po 13 18,m 19,z 20 (f 3 2),z 20 (l 1 21),z 20 (ln 1 22),z 20 (gti 23 8),po 20 24] [25,5,2]) (c 25 (O 5 [i 0]))) (s (s (O 6 [i 0]) (bk 0 JL ⟨true,[5],[]⟩)) Ll))))⟩
@[simp] theorem ami:ZL JL Aj ⟨true,[6,5,2],[]⟩:=bC rfl
noncomputable abbrev Em (C:aG) (s:WSt):Option AV:=CK C 0 (aP [.tmp 4]) [.sq JL,.bk 0 ⟨true,[5],[]⟩,.sq Ll] Aj s
def H7:WFn:=⟨3,[.cell 6 6 true,.tmp 7],zd (s (Q 6 [d 3 (bx 0),d 4 (bx 1),E (.alloc [.int .u8 0,.str [],.str [],.ro 2 [] true,.str [],.ro 6 [] true]),i 0] [6,4,3,2]) (s (s (O 9 [m 2,lti 9 1,m 10,z 11 (m 2),z 11 (gti 12 64),po 11 13]) (c 14 (r (O 15 [E (.build [.int .u8 0,.str [],.str [],.ro 2 [] true,.str [],.ro 6 [] true] []),n (st 6 6 15),d 7 (i 1)])))) (s (s (O 16 [h 6 3,ca 408 [16],nei 17 0]) (c 18 (r (O 19 [E (.build [.int .u8 0,.str [],.str [],.ro 2 [] true,.str [],.ro 6 [] true] []),h 6 3,ca 408 [20],n (st 6 6 19),d 7 (m 21)])))) (s (s (O 22 [h 4 4,ca 512 [22],nei 23 0]) (c 24 (r (Q 25 [E (.build [.int .u8 0,.str [],.str [],.ro 2 [] true,.str [],.ro 6 [] true] []),h 4 4,ca 512 [26],n (st 6 6 25),d 7 (m 27)] [7,6])))) (s (O 28 [h 6 3,h 4 4,ca 513 [28,29],E (.idxs 6 (T 30) (N 0)),h 6 31,d 8 (E (.alloc [.int .u8 0,.str [],.str [],.ro 2 [] true,.str [],.ro 6 [] true])),n (st 6 8 32)]) (s (s (O 33 [h 6 8,ca 441 [33],nei 34 0,m 35,z 36 (h 6 8),z 36 (ca 442 [37]),z 36 (m 2),z 36 (gt 38 39),po 36 40]) (c 41 (r (O 42 [E (.build [.int .u8 0,.str [],.str [],.ro 2 [] true,.str [],.ro 6 [] true] []),n (st 6 6 42),d 7 (i 14)])))) (r (O 43 [h 6 8,n (st 6 6 43),d 7 (i 0)]))))))))⟩
def Tf:WFn:=⟨2,[.tmp 4],zd (s (O 4 [d 2 (bx 0),i 0]) (s (O 7 [E (.kY 494 [T 2]),d 5 (m 7)]) (s (Q 8 [E (.kY 497 [T 2]),d 6 (m 8)] [6,5,2,1]) (s (s (O 9 [f 0 2,l 1 9,E (.bin .eql (T 10) (.c (.int .u64 0))),m 11,z 12 (f 1 2),z 12 (l 1 13),z 12 (E (.cvt .i64 (T 14))),z 12 (m 1),z 12 (ge 15 16),po 12 17,m 18,z 19 (m 5),z 19 (E (.dS (T 20) [])),z 19 (nt 21),po 19 22,m 23,z 24 (m 6),z 24 (E (.dS (T 25) [])),z 24 (nt 26),po 24 27]) (c 28 (r (O 4 [i 6])))) (r (O 4 [i 0]))))))⟩
def aeV:WFn:=⟨2,[.cell 4 6 true,.tmp 5],zd (s (O 2 [bx 0,bx 1,E (.alloc [.int .u8 0,.str [],.str [],.ro 2 [] true,.str [],.ro 6 [] true]),i 0]) (r (V 6 [f 0 2,l 1 6,f 1 3,l 1 8,ix 9 7 9,f 0 10,h 6 11,h 4 3,f 1 2,l 1 14,ca 501 [12,13,15],ex 0 16,ex 1 16,n (st 6 4 17),d 5 (m 18)] [] ⟨false,[],[]⟩)))⟩
def J4:aC:=zd (r (O 4 [i (-1)]))
def xM:aC:=zd (s (O 9 [lt 8 7]) (s (cc 9 (w .skip) (ee 0)) (s (B 1 (s (O 10 [m 8,d 5 (m 10)]) (s (O 11 [m 1,m 0,m 5,ix 6 12 13,h 6 14,E (.dS (T 11) [T 15])]) (c 16 (r (O 17 [m 5,d 4 (m 17)])))))) (O 18 [adi 8 1,d 8 (m 18)]))))
def KA:aC:=.loop ⟨true,[8,7,1,0],[]⟩ xM
def adn:WFn:=⟨2,[.tmp 4],zd (s (O 4 [i 0]) (s (s (O 6 [m 0,ln 1 6,i 0]) (bk 0 KA ⟨true,[],[]⟩)) J4))⟩
@[simp] theorem alQ:ZL KA xM ⟨true,[8,7,1,0],[]⟩:=bC rfl
noncomputable abbrev Ap (C:aG) (s:WSt):Option AV:=CK C 0 (aP [.tmp 4]) [.sq KA,.bk 0 ⟨true,[],[]⟩,.sq J4] xM s
def acA:WFn:=⟨1,[.tmp 2],zd (s (O 2 [i 0]) (s (s (O 3 [m 0,ca 504 [3],gti 4 4611686018427387904]) (c 5 (r (O 2 [i 13])))) (r (O 2 [i 0]))))⟩
def EM:aC:=zd (r (O 31 [m 5,d 4 (m 31)]))
def vG:aC:=zd (s (Q 14 [lt 13 12] [14,13,12,11,5,2]) (s (cc 14 (w .skip) (ee 0)) (s (B 1 (s (O 15 [m 13,ix 4 11 13,h 4 16,d 7 (E (.alloc [.int .u64 0,.int .u8 0,.str [],.ro 1 [] true])),d 6 (m 15),n (st 4 7 17)]) (V 18 [m 5,m 6,h 4 7,f 0 2,l 1 21,f 1 7,l 1 23,ix 9 22 24,f 6 25,l 1 26,E (.build [.int .u64 0,.int .u8 0,.str [],.ro 1 [] true,.int .i64 0,.bool false] [(0,4,T 20),(4,1,T 27)]),ix 6 18 19,n (st 6 29 28)] [] ⟨false,[],[]⟩))) (O 30 [adi 13 1,d 13 (m 30)]))))
def KH:aC:=.loop ⟨true,[13,12,11,5,2],[]⟩ vG
def ZF:WFn:=⟨2,[.tmp 4],zd (s (O 4 [d 2 (bx 0),E (.mv (.c (.ro 6 [] true)))]) (s (O 8 [m 1,ln 1 8,E (.qo [.int .u64 0,.int .u8 0,.str [],.ro 1 [] true,.int .i64 0,.bool false] 72 (T 9) (T 9)),d 5 (m 10)]) (s (s (O 11 [m 1,ln 1 11,i 0]) (bk 0 KH ⟨true,[5],[]⟩)) EM)))⟩
@[simp] theorem alD:ZL KH vG ⟨true,[13,12,11,5,2],[]⟩:=bC rfl
noncomputable abbrev Ez (C:aG) (s:WSt):Option AV:=CK C 0 (aP [.tmp 4]) [.sq KH,.bk 0 ⟨true,[5],[]⟩,.sq EM] vG s
def adp:WFn:=⟨1,[.tmp 2],zd (s (O 1 [bx 0,i 0]) (r (O 3 [E (.call 502 [T 1,.c (.fn 503 [])]),d 2 (m 3)])))⟩
def LQ:aC:=zd (r (O 4 [i (-1)]))
def vX:aC:=zd (s (O 9 [lt 8 7]) (s (cc 9 (w .skip) (ee 0)) (s (B 1 (s (O 10 [m 8,d 5 (m 10)]) (s (O 11 [m 1,m 0,m 5,ix 9 12 13,h 9 14,E (.dS (T 11) [T 15])]) (c 16 (r (O 17 [m 5,d 4 (m 17)])))))) (O 18 [adi 8 1,d 8 (m 18)]))))
def LH:aC:=.loop ⟨true,[8,7,1,0],[]⟩ vX
def afi:WFn:=⟨2,[.tmp 4],zd (s (O 4 [i 0]) (s (s (O 6 [m 0,ln 1 6,i 0]) (bk 0 LH ⟨true,[],[]⟩)) LQ))⟩
@[simp] theorem als:ZL LH vX ⟨true,[8,7,1,0],[]⟩:=bC rfl
noncomputable abbrev yZ (C:aG) (s:WSt):Option AV:=CK C 0 (aP [.tmp 4]) [.sq LH,.bk 0 ⟨true,[],[]⟩,.sq LQ] vX s
def ZX:WFn:=⟨1,[.tmp 2],zd (s (O 1 [bx 0,i 0]) (s (s (O 3 [h 6 1,ca 505 [3],eqi 4 0]) (c 5 (r (O 2 [i 14])))) (r (O 2 [i 0]))))⟩
def Et:aC:=zd (r (O 25 [m 5,d 4 (m 25)]))
def sW:aC:=zd (s (s (O 9 [m 5,m 6,lt 9 10]) (cc 11 (w .skip) (ee 0))) (B 1 (s (O 12 [m 5,m 6,ad 12 13,E (.cvt .u64 (T 14)),E (.bin .shr (T 15) (.c (.int .u64 1))),E (.cvt .i64 (T 16)),d 7 (m 17)]) (s (O 18 [m 1,m 7,E (.dS (T 18) [T 19]),nt 20]) (cc 21 (O 22 [m 7,adi 22 1,d 5 (m 23)]) (O 24 [m 7,d 6 (m 24)]))))))
def Jq:aC:=.loop ⟨true,[6,5,1],[]⟩ sW
def ab9:WFn:=⟨2,[.tmp 4],zd (s (O 4 [i 0]) (s (Q 5 [d 8 (m 0),i 0,m 8] [6,5,1]) (s (bk 0 Jq ⟨true,[5],[]⟩) Et)))⟩
@[simp] theorem akX:ZL Jq sW ⟨true,[6,5,1],[]⟩:=bC rfl
noncomputable abbrev vI (C:aG) (s:WSt):Option AV:=CK C 0 (aP [.tmp 4]) [.sq Jq,.bk 0 ⟨true,[5],[]⟩,.sq Et] sW s
def afc:WFn:=⟨3,[.tmp 4],zd (s (O 4 [ff]) (r (V 5 [l 1 1,m 0,adi 6 1,ix 1 5 7,l 1 8,l 1 2,gt 9 10,d 4 (m 11)] [] ⟨false,[],[]⟩)))⟩
def X0:WFn:=⟨4,[.tmp 8],zd (s (O 8 [i 0]) (s (s (O 9 [m 0,m 3,ca 253 [9,10],m 1,m 2,ad 12 13,lt 11 14,m 15,y 16 (m 0),y 16 (m 3),y 16 (adi 18 1),y 16 (ca 253 [17,19]),y 16 (m 1),y 16 (gt 20 21),pa 16 22]) (c 23 (r (O 8 [i 1])))) (r (O 8 [i 0]))))⟩
def JZ:aC:=zd (r (O 30 [m 7,d 6 (m 30)]))
def rP:aC:=zd (s (s (Q 9 [m 8,m 1,ln 1 10,lt 9 11] [12,8,7,3,2,1]) (cc 12 (w .skip) (ee 0))) (s (B 1 (s (V 15 [h 2 3,m 1,m 8,ix 6 16 17,h 6 18,ca 304 [15,19],eqi 20 1,m 21,y 22 (m 1),y 22 (m 8),y 22 (ca 253 [23,24]),y 22 (m 2),y 22 (le 25 26),pa 22 27] [] ⟨false,[],[]⟩) (c 28 (O 29 [m 8,d 7 (m 29)])))) (O 13 [m 8,adi 13 1,d 8 (m 14)])))
def Oi:aC:=.loop ⟨true,[8,7,3,2,1],[]⟩ rP
def acn:WFn:=⟨3,[.tmp 6],zd (s (O 6 [d 3 (bx 0),i 0]) (s (O 7 [i (-1)]) (s (s (O 8 [i 0]) (bk 0 Oi ⟨true,[7],[]⟩)) JZ)))⟩
@[simp] theorem amJ:ZL Oi rP ⟨true,[8,7,3,2,1],[]⟩:=bC rfl
noncomputable abbrev vS (C:aG) (s:WSt):Option AV:=CK C 0 (aP [.tmp 6]) [.sq Oi,.bk 0 ⟨true,[7],[]⟩,.sq JZ] rP s
def LY:aC:=zd (r (O 8 [i 0]))
def rZ:aC:=zd (s (s (O 13 [m 9,m 1,ln 1 14,lt 13 15]) (cc 16 (w .skip) (ee 0))) (s (B 1 (s (U 19 [h 2 4,m 1,m 9,ix 6 20 21,h 6 22,ca 304 [19,23],eqi 24 1] [] [25,9,4,3,2,1]) (c 25 (s (V 26 [m 1,m 9,ca 253 [26,27],m 2,sb 28 29,m 1,m 3,ix 6 31 32,f 4 33,l 1 34,sb 30 35,d 10 (m 36)] [(2,9)] ⟨false,[],[]⟩) (s (s (O 37 [m 10,lti 37 0]) (c 38 (r (O 39 [m 10,d 8 (m 39)])))) (r (O 8 [i 0]))))))) (O 17 [m 9,adi 17 1,d 9 (m 18)])))
def Ld:aC:=.loop ⟨true,[9,4,3,2,1],[]⟩ rZ
def aeD:WFn:=⟨4,[.tmp 8],zd (s (O 8 [d 4 (bx 0),i 0]) (s (s (O 11 [m 3,adi 11 1,d 9 (m 12)]) (bk 0 Ld ⟨true,[],[]⟩)) LY))⟩
@[simp] theorem alW:ZL Ld rZ ⟨true,[9,4,3,2,1],[]⟩:=bC rfl
noncomputable abbrev wX (C:aG) (s:WSt):Option AV:=CK C 0 (aP [.tmp 8]) [.sq Ld,.bk 0 ⟨true,[],[]⟩,.sq LY] rZ s
def Ti:WFn:=⟨2,[.tmp 4],zd (s (O 2 [bx 0,bx 1,ff]) (r (Q 5 [f 0 2,l 1 5,f 0 3,l 1 7,eq 6 8,m 9,y 10 (f 1 2),y 10 (l 1 11),y 10 (f 1 3),y 10 (l 1 13),y 10 (eq 12 14),pa 10 15,m 16,y 17 (f 2 2),y 17 (l 1 18),y 17 (f 2 3),y 17 (l 1 20),y 17 (eq 19 21),pa 17 22,m 23,y 24 (f 3 2),y 24 (h 6 25),y 24 (f 3 3),y 24 (h 6 27),y 24 (ca 506 [26,28]),pa 24 29,d 4 (m 30)] [4])))⟩
def KE:aC:=zd (r (O 6 [tt]))
def xg:aC:=zd (s (O 18 [lt 17 16]) (s (cc 18 (w .skip) (ee 0)) (s (B 1 (s (O 19 [m 17,ix 9 15 17,h 9 20,d 8 (E (.alloc [.int .u64 0,.int .i64 0,.int .i64 0,.int .u8 0,.str [],.str [],.ro 2 [] true,.str [],.ro 6 [] true])),d 7 (m 19),n (st 9 8 21)]) (s (O 22 [m 1,m 7,ix 9 22 23,h 9 24,d 9 (E (.alloc [.int .u64 0,.int .i64 0,.int .i64 0,.int .u8 0,.str [],.str [],.ro 2 [] true,.str [],.ro 6 [] true])),n (st 9 9 25)]) (s (O 26 [m 2,h 9 8,h 9 9,E (.dS (T 26) [T 27,T 28]),nt 29]) (c 30 (r (O 6 [ff]))))))) (O 31 [adi 17 1,d 17 (m 31)]))))
def MF:aC:=.loop ⟨true,[17,16,15,2,1],[]⟩ xg
def abr:WFn:=⟨3,[.tmp 6],zd (s (O 6 [ff]) (s (s (O 10 [m 0,ln 1 10,m 1,ln 1 12,ne 11 13]) (c 14 (r (O 6 [ff])))) (s (s (Q 15 [m 0,ln 1 15,i 0] [17,16,15,2,1]) (bk 0 MF ⟨true,[],[]⟩)) KE)))⟩
@[simp] theorem alS:ZL MF xg ⟨true,[17,16,15,2,1],[]⟩:=bC rfl
noncomputable abbrev zD (C:aG) (s:WSt):Option AV:=CK C 0 (aP [.tmp 6]) [.sq MF,.bk 0 ⟨true,[],[]⟩,.sq KE] xg s
def NH:aC:=zd (r (O 4 [i 1]))
def wQ:aC:=zd (s (s (O 69 [m 6,f 5 2,l 1 70,ln 1 71,lt 69 72]) (cc 73 (w .skip) (ee 2))) (s (B 3 (s (V 76 [f 5 2,l 1 76,m 6,ix 6 77 78,h 6 79,f 5 3,l 1 81,m 6,ix 6 82 83,h 6 84,ca 415 [80,85],eqi 86 0] [] ⟨false,[],[]⟩) (c 87 (r (O 4 [i 0]))))) (O 74 [m 6,adi 74 1,d 6 (m 75)])))
def Jw:aC:=.loop ⟨true,[6,3,2],[]⟩ wQ
def MR:aC:=zd (s (s (O 6 [i 0]) (bk 2 Jw ⟨true,[],[]⟩)) NH)
def sQ:aC:=zd (s (s (O 51 [m 5,f 3 2,l 1 52,ln 1 53,lt 51 54]) (cc 55 (w .skip) (ee 0))) (s (B 1 (s (V 58 [f 3 2,l 1 58,m 5,ix 2 59 60,h 2 61,f 3 3,l 1 63,m 5,ix 2 64 65,h 2 66,E (.eqv 4 [1,1] true (T 62) (T 67))] [] ⟨false,[],[]⟩) (c 68 (r (O 4 [i 0]))))) (Q 56 [m 5,adi 56 1,d 5 (m 57)] [5,3,2])))
def Kv:aC:=.loop ⟨true,[5,3,2],[]⟩ sQ
def H8:WFn:=⟨2,[.tmp 4],zd (s (O 2 [bx 0,bx 1,i 0]) (s (s (Q 7 [f 0 2,l 1 7,f 0 3,l 1 9,ne 8 10,m 11,z 12 (f 1 2),z 12 (l 1 13),z 12 (f 1 3),z 12 (l 1 15),z 12 (ne 14 16),po 12 17,m 18,z 19 (f 2 2),z 19 (l 1 20),z 19 (f 2 3),z 19 (l 1 22),z 19 (ne 21 23),po 19 24,m 25,z 26 (f 4 2),z 26 (l 1 27),z 26 (f 4 3),z 26 (l 1 29),z 26 (ne 28 30),po 26 31,m 32,z 33 (f 3 2),z 33 (l 1 34),z 33 (ln 1 35),z 33 (f 3 3),z 33 (l 1 37),z 33 (ln 1 38),z 33 (ne 36 39),po 33 40,m 41,z 42 (f 5 2),z 42 (l 1 43),z 42 (ln 1 44),z 42 (f 5 3),z 42 (l 1 46),z 42 (ln 1 47),z 42 (ne 45 48),po 42 49] [50,3,2]) (c 50 (r (O 4 [i 0])))) (s (s (O 5 [i 0]) (bk 0 Kv ⟨true,[3,2],[]⟩)) MR)))⟩
@[simp] theorem ak6:ZL Jw wQ ⟨true,[6,3,2],[]⟩:=bC rfl
noncomputable abbrev wP (C:aG) (s:WSt):Option AV:=CK C 0 (aP [.tmp 4]) [.sq Jw,.bk 2 ⟨true,[],[]⟩,.sq NH] wQ s
@[simp] theorem amd:ZL Kv sQ ⟨true,[5,3,2],[]⟩:=bC rfl
noncomputable abbrev vV (C:aG) (s:WSt):Option AV:=CK C 0 (aP [.tmp 4]) [.sq Kv,.bk 0 ⟨true,[3,2],[]⟩,.sq MR] sQ s
def vH:aC:=zd (r (O 52 [h 6 3,n (st 6 2 52)]))
def kW:aC:=zd (s (s (O 34 [m 5,f 5 1,l 1 35,ln 1 36,lt 34 37]) (cc 38 (w .skip) (ee 2))) (s (B 3 (V 41 [f 5 3,l 1 41,f 5 1,l 1 43,m 5,ix 6 44 45,h 6 46,ca 416 [47],E (.aU [.int .u8 0,.str [],.str [],.ro 2 [] true,.str [],.ro 6 [] true] 1 [(0,T 48)]),E (.app [.int .u8 0,.str [],.str [],.ro 2 [] true,.str [],.ro 6 [] true] 104 false (T 42) (T 49)),f 5 3,n (st 1 51 50)] [(1,7),(1,8)] ⟨false,[],[]⟩)) (O 39 [m 5,adi 39 1,d 5 (m 40)])))
def JI:aC:=.loop ⟨true,[5,3,2,1],[]⟩ kW
def Ep:aC:=zd (s (s (O 5 [i 0]) (bk 2 JI ⟨true,[3,2],[]⟩)) vH)
def rC:aC:=zd (s (s (O 17 [m 4,f 3 1,l 1 18,ln 1 19,lt 17 20]) (cc 21 (w .skip) (ee 0))) (s (B 1 (V 24 [f 3 3,l 1 24,f 3 1,l 1 26,m 4,ix 2 27 28,h 2 29,E (.aU [.str [],.str []] 1 [(0,T 30)]),E (.app [.str [],.str []] 32 false (T 25) (T 31)),f 3 3,n (st 1 33 32)] [(1,7)] ⟨false,[],[]⟩)) (Q 22 [m 4,adi 22 1,d 4 (m 23)] [4,3,2,1])))
def Oh:aC:=.loop ⟨true,[4,3,2,1],[]⟩ rC
def aef:WFn:=⟨1,[.cell 2 6 true],zd (s (O 1 [bx 0,E (.alloc [.int .u8 0,.str [],.str [],.ro 2 [] true,.str [],.ro 6 [] true])]) (s (s (O 6 [h 6 1,ca 441 [6],nei 7 0]) (c 8 (r (O 9 [E (.build [.int .u8 0,.str [],.str [],.ro 2 [] true,.str [],.ro 6 [] true] []),n (st 6 2 9)])))) (s (Q 10 [f 0 1,l 1 10,f 1 1,l 1 12,f 4 1,l 1 14,E (.build [.int .u8 0,.str [],.str [],.ro 2 [] true,.str [],.ro 6 [] true] [(0,1,T 11),(1,1,T 13),(4,1,T 15)]),d 3 (E (.alloc [.int .u8 0,.str [],.str [],.ro 2 [] true,.str [],.ro 6 [] true])),n (st 6 3 16)] [3,2,1]) (s (s (O 4 [i 0]) (bk 0 Oh ⟨true,[3,2,1],[]⟩)) Ep))))⟩
@[simp] theorem amr:ZL JI kW ⟨true,[5,3,2,1],[]⟩:=bC rfl
noncomputable abbrev iC (C:aG) (s:WSt):Option AV:=CK C 0 (aP [.cell 2 6 true]) [.sq JI,.bk 2 ⟨true,[3,2],[]⟩,.sq vH] kW s
@[simp] theorem amn:ZL Oh rC ⟨true,[4,3,2,1],[]⟩:=bC rfl
noncomputable abbrev tq (C:aG) (s:WSt):Option AV:=CK C 0 (aP [.cell 2 6 true]) [.sq Oh,.bk 0 ⟨true,[3,2,1],[]⟩,.sq Ep] rC s
def ab8:WFn:=⟨3,[.cell 6 6 true],zd (s (O 6 [d 3 (bx 0),E (.alloc [.int .u8 0,.str [],.str [],.ro 2 [] true,.str [],.ro 6 [] true])]) (s (U 10 [f 0 3,l 1 10,m 1,m 2,ix 6 12 13,f 0 14,f 1 15,l 1 16,ix 9 11 17,f 0 18,h 6 19,m 1,m 2,ix 6 21 22,f 0 23,h 4 24,f 1 3,l 1 26,ca 425 [20,25,27],d 9 (m 28),ex 0 9,ex 1 9,d 7 (E (.alloc [.int .u8 0,.str [],.str [],.ro 2 [] true,.str [],.ro 6 [] true])),n (st 6 7 29),d 8 (m 30)] [(1,22),(7,22),(10,22),(15,22),(17,22),(18,22)] [7,6]) (r (O 31 [h 6 7,n (st 6 6 31)]))))⟩
def aft:WFn:=⟨1,[.cell 2 6 true],zd (s (O 1 [bx 0,E (.alloc [.int .u8 0,.str [],.str [],.ro 2 [] true,.str [],.ro 6 [] true])]) (s (s (O 3 [h 6 1,ca 439 [3],nei 4 0]) (c 5 (r (O 6 [E (.build [.int .u8 0,.str [],.str [],.ro 2 [] true,.str [],.ro 6 [] true] []),n (st 6 2 6)])))) (r (O 7 [h 6 1,E (.call 507 [T 7,.c (.bool false)]),n (st 6 2 8)]))))⟩
def DU:aC:=zd (r (O 7 [tt]))
def wI:aC:=zd (s (O 31 [lt 30 29]) (s (cc 31 (w .skip) (ee 0)) (s (B 1 (s (O 32 [m 30,d 8 (m 32)]) (s (V 33 [l 1 4,m 0,nk 34,f 5 35,l 1 36,m 8,ix 6 37 38,m 1,adi 40 1,E (.dS (T 33) [T 39,T 41]),nt 42] [] ⟨false,[],[]⟩) (c 43 (r (O 7 [ff])))))) (O 44 [adi 30 1,d 30 (m 44)]))))
def Kz:aC:=.loop ⟨true,[30,29,4,1,0],[]⟩ wI
def Fj:WFn:=⟨5,[.tmp 7],zd (s (O 7 [ff]) (s (O 9 [l 1 2,adi 9 1,n (st 1 2 10)]) (s (O 11 [l 1 3,m 1,E (.mx (T 11) (T 12)),n (st 1 3 13)]) (s (s (O 14 [m 1,gti 14 6,m 15,z 16 (l 1 2),z 16 (gti 17 64),po 16 18,m 19,z 20 (m 0),z 20 (ca 434 [21]),z 20 (nt 22),po 20 23]) (c 24 (r (O 7 [ff])))) (s (s (Q 25 [m 0,nk 25,f 5 26,l 1 27,ln 1 28,i 0] [30,29,4,1,0]) (bk 0 Kz ⟨true,[],[]⟩)) DU)))))⟩
@[simp] theorem amc:ZL Kz wI ⟨true,[30,29,4,1,0],[]⟩:=bC rfl
def Ko:aC:=zd (r (O 2 [tt]))
def AU:aC:=zd (s (Q 143 [lt 142 141] [143,142,141,140,0]) (s (cc 143 (w .skip) (ee 2)) (s (B 3 (s (O 144 [m 142,ix 6 140 142,h 6 145,d 6 (E (.alloc [.int .u8 0,.str [],.str [],.ro 2 [] true,.str [],.ro 6 [] true])),d 5 (m 144),n (st 6 6 146)]) (s (O 147 [f 2 6,l 1 147,E (.bin .neq (T 148) (.c (.str []))),m 149,y 150 (m 0),y 150 (nk 151),y 150 (f 5 152),y 150 (l 1 153),y 150 (m 5),y 150 (E (.slice 6 (T 154) none (some (T 155)) none)),y 150 (E (.kY 519 [T 6])),y 150 (ca 518 [156,157]),pa 150 158]) (c 159 (r (O 2 [ff])))))) (O 160 [adi 142 1,d 142 (m 160)]))))
def ML:aC:=.loop ⟨true,[142,141,140,0],[]⟩ AU
def Kr:aC:=zd (s (s (O 137 [m 0,nk 137,f 5 138,l 1 139,ln 1 140,i 0]) (bk 2 ML ⟨true,[],[]⟩)) Ko)
def Ag:aC:=zd (s (O 104 [lt 103 102]) (s (cc 104 (w .skip) (ee 0)) (s (B 1 (s (O 105 [m 103,ix 2 101 103,h 2 106,d 4 (E (.alloc [.str [],.str []])),d 3 (m 105),n (st 2 4 107)]) (s (U 108 [f 0 4,l 1 108,ca 517 [109],nt 110,m 111,z 112 (f 1 4),z 112 (l 1 113),z 112 (ca 516 [114]),z 112 (nt 115),po 112 116,m 117,z 118 (m 3),z 118 (gti 119 0),z 118 (m 120),y 121 (f 0 4),y 121 (l 1 122),y 121 (m 0),y 121 (nk 124),y 121 (f 3 125),y 121 (l 1 126),y 121 (m 3),y 121 (sbi 128 1),y 121 (ix 2 127 129),y 121 (f 0 130),y 121 (l 1 131),y 121 (le 123 132),z 118 (pa 121 133),po 118 134] [] [135,103,102,101,0]) (c 135 (r (O 2 [ff])))))) (O 136 [adi 103 1,d 103 (m 136)]))))
def NP:aC:=.loop ⟨true,[103,102,101,0],[]⟩ Ag
def xQ:WFn:=⟨1,[.tmp 2],zd (s (O 2 [ff]) (s (s (O 7 [m 0,nk 7,f 0 8,l 1 9,E (.bin .eql (T 10) (.c (.int .u8 2)))]) (c 11 (r (Q 12 [m 0,nk 12,f 4 13,l 1 14,ca 516 [15],m 16,y 17 (m 0),y 17 (nk 18),y 17 (f 1 19),y 17 (l 1 20),y 17 (E (.bin .eql (T 21) (.c (.str [])))),pa 17 22,m 23,y 24 (m 0),y 24 (nk 25),y 24 (f 2 26),y 24 (l 1 27),y 24 (E (.bin .eql (T 28) (.c (.str [])))),pa 24 29,m 30,y 31 (m 0),y 31 (nk 32),y 31 (f 3 33),y 31 (l 1 34),y 31 (ln 1 35),y 31 (eqi 36 0),pa 31 37,m 38,y 39 (m 0),y 39 (nk 40),y 39 (f 5 41),y 39 (l 1 42),y 39 (ln 1 43),y 39 (eqi 44 0),pa 39 45,d 2 (m 46)] [2])))) (s (s (Q 47 [m 0,nk 47,f 0 48,l 1 49,E (.bin .neq (T 50) (.c (.int .u8 1))),m 51,z 52 (m 0),z 52 (nk 53),z 52 (f 1 54),z 52 (l 1 55),z 52 (ca 517 [56]),z 52 (nt 57),po 52 58,m 59,z 60 (m 0),z 60 (nk 61),z 60 (f 2 62),z 60 (l 1 63),z 60 (E (.bin .neq (T 64) (.c (.str [])))),z 60 (m 65),y 66 (m 0),y 66 (nk 67),y 66 (f 2 68),y 66 (l 1 69),y 66 (ca 517 [70]),y 66 (nt 71),z 60 (pa 66 72),po 60 73,m 74,z 75 (m 0),z 75 (nk 76),z 75 (f 4 77),z 75 (l 1 78),z 75 (E (.bin .neq (T 79) (.c (.str [])))),po 75 80,m 81,z 82 (m 0),z 82 (nk 83),z 82 (f 3 84),z 82 (l 1 85),z 82 (ln 1 86),z 82 (gti 87 8),po 82 88,m 89,z 90 (m 0),z 90 (nk 91),z 90 (f 5 92),z 90 (l 1 93),z 90 (ln 1 94),z 90 (gti 95 16),po 90 96] [97,0]) (c 97 (r (O 2 [ff])))) (s (s (O 98 [m 0,nk 98,f 3 99,l 1 100,ln 1 101,i 0]) (bk 0 NP ⟨true,[0],[]⟩)) Kr))))⟩
@[simp] theorem alH:ZL ML AU ⟨true,[142,141,140,0],[]⟩:=bC rfl
noncomputable abbrev ED (C:aG) (s:WSt):Option AV:=CK C 0 (aP [.tmp 2]) [.sq ML,.bk 2 ⟨true,[],[]⟩,.sq Ko] AU s
@[simp] theorem amv:ZL NP Ag ⟨true,[103,102,101,0],[]⟩:=bC rfl
noncomputable abbrev zS (C:aG) (s:WSt):Option AV:=CK C 0 (aP [.tmp 2]) [.sq NP,.bk 0 ⟨true,[0],[]⟩,.sq Kr] Ag s
def Yq:WFn:=⟨1,[.tmp 2],zd (s (O 1 [bx 0,i 0]) (s (s (O 3 [h 6 1,ca 140 [3],eqi 4 0]) (c 5 (r (O 2 [i 14])))) (r (O 2 [i 0]))))⟩
def Yi:WFn:=⟨1,[.tmp 2],zd (s (O 1 [bx 0,i 0]) (s (s (O 3 [h 6 1,ca 442 [3],eqi 4 0]) (c 5 (r (O 2 [i 14])))) (r (O 2 [i 0]))))⟩
def abm:WFn:=⟨1,[.tmp 2],zd (s (O 1 [bx 0,i 0]) (s (O 4 [h 6 1,E (.call 520 [T 4,N 6]),d 3 (m 5)]) (s (s (O 6 [m 3,gti 6 64]) (c 7 (r (O 2 [i 0])))) (r (O 8 [m 3,d 2 (m 8)])))))⟩
def Nj:aC:=zd (r (O 2 [i 1]))
def Ah:aC:=zd (s (s (O 7 [m 3,m 0,ln 0 8,lt 7 9]) (cc 10 (w .skip) (ee 0))) (s (B 1 (s (O 13 [m 0,m 3,E (.dW (T 13) (T 14)),E (.bin .lss (T 15) (.c (.int .u8 32))),m 16,z 17 (m 0),z 17 (m 3),z 17 (E (.dW (T 18) (T 19))),z 17 (E (.bin .gtr (T 20) (.c (.int .u8 126)))),po 17 21]) (c 22 (r (O 2 [i 0]))))) (O 11 [m 3,adi 11 1,d 3 (m 12)])))
def KY:aC:=.loop ⟨true,[3,0],[]⟩ Ah
def abb:WFn:=⟨1,[.tmp 2],zd (s (O 2 [i 0]) (s (s (Q 4 [m 0,ln 0 4,gti 5 64] [6,0]) (c 6 (r (O 2 [i 0])))) (s (s (O 3 [i 0]) (bk 0 KY ⟨true,[],[]⟩)) Nj)))⟩
@[simp] theorem ak3:ZL KY Ah ⟨true,[3,0],[]⟩:=bC rfl
noncomputable abbrev EI (C:aG) (s:WSt):Option AV:=CK C 0 (aP [.tmp 2]) [.sq KY,.bk 0 ⟨true,[],[]⟩,.sq Nj] Ah s
def Ku:aC:=zd (r (O 2 [i 1]))
def Aa:aC:=zd (s (s (O 13 [m 3,m 0,ln 0 14,lt 13 15]) (cc 16 (w .skip) (ee 0))) (s (B 1 (s (Q 19 [m 0,m 3,E (.dW (T 19) (T 20)),d 4 (m 21)] [4,3,0]) (s (O 22 [m 4,E (.bin .geq (T 22) (.c (.int .u8 97))),m 23,y 24 (m 4),y 24 (E (.bin .leq (T 25) (.c (.int .u8 122)))),pa 24 26,m 27,z 28 (m 4),z 28 (E (.bin .geq (T 29) (.c (.int .u8 48)))),z 28 (m 30),y 31 (m 4),y 31 (E (.bin .leq (T 32) (.c (.int .u8 57)))),z 28 (pa 31 33),po 28 34,nt 35]) (c 36 (r (O 2 [i 0])))))) (O 17 [m 3,adi 17 1,d 3 (m 18)])))
def Js:aC:=.loop ⟨true,[3,0],[]⟩ Aa
def WM:WFn:=⟨1,[.tmp 2],zd (s (O 2 [i 0]) (s (s (O 5 [m 0,ln 0 5,lti 6 1,m 7,z 8 (m 0),z 8 (ln 0 9),z 8 (gti 10 16),po 8 11]) (c 12 (r (O 2 [i 0])))) (s (s (O 3 [i 0]) (bk 0 Js ⟨true,[],[]⟩)) Ku)))⟩
@[simp] theorem alB:ZL Js Aa ⟨true,[3,0],[]⟩:=bC rfl
noncomputable abbrev Eh (C:aG) (s:WSt):Option AV:=CK C 0 (aP [.tmp 2]) [.sq Js,.bk 0 ⟨true,[],[]⟩,.sq Ku] Aa s
def Lh:aC:=zd (r (O 2 [i 0]))
def Ak:aC:=zd (s (s (O 19 [m 3,f 3 1,l 1 20,ln 1 21,lt 19 22]) (cc 23 (w .skip) (ee 0))) (s (B 1 (s (O 26 [f 3 1,l 1 26,m 3,ix 1 27 28,l 1 29,ca 557 [30],nt 31]) (c 32 (r (O 2 [i 6]))))) (O 24 [m 3,adi 24 1,d 3 (m 25)])))
def Oe:aC:=.loop ⟨true,[3,1],[]⟩ Ak
def TP:WFn:=⟨1,[.tmp 2],zd (s (O 1 [bx 0,i 0]) (s (s (Q 4 [f 0 1,l 1 4,E (.bin .eql (T 5) (.c (.int .u64 0))),m 6,z 7 (f 2 1),z 7 (l 1 8),z 7 (ca 556 [9]),z 7 (nt 10),po 7 11,m 12,z 13 (f 3 1),z 13 (l 1 14),z 13 (ln 1 15),z 13 (gti 16 8),po 13 17] [18,1]) (c 18 (r (O 2 [i 6])))) (s (s (O 3 [i 0]) (bk 0 Oe ⟨true,[],[]⟩)) Lh)))⟩
@[simp] theorem alx:ZL Oe Ak ⟨true,[3,1],[]⟩:=bC rfl
noncomputable abbrev D7 (C:aG) (s:WSt):Option AV:=CK C 0 (aP [.tmp 2]) [.sq Oe,.bk 0 ⟨true,[],[]⟩,.sq Lh] Ak s
def Ec:aC:=zd (r (O 89 [h 6 7,E (.aU [.int .u8 0,.str [],.str [],.ro 2 [] true,.str [],.ro 6 [] true] 1 [(0,T 89)]),d 4 (m 90)]))
def nH:aC:=zd (s (s (O 71 [m 8,f 5 2,l 1 72,ln 1 73,lt 71 74]) (cc 75 (w .skip) (ee 3))) (s (B 4 (V 78 [f 5 7,l 1 78,f 5 2,l 1 80,m 8,ix 6 81 82,h 6 83,h 4 3,ca 513 [84,85],E (.app [.int .u8 0,.str [],.str [],.ro 2 [] true,.str [],.ro 6 [] true] 104 false (T 79) (T 86)),f 5 7,n (st 1 88 87)] [(1,8)] ⟨false,[],[]⟩)) (O 76 [m 8,adi 76 1,d 8 (m 77)])))
def JY:aC:=.loop ⟨true,[8,7,3,2],[]⟩ nH
def MS:aC:=zd (s (V 62 [f 1 2,l 1 62,f 2 2,l 1 64,f 3 2,l 1 66,h 4 3,ca 559 [67,68],E (.build [.int .u8 0,.str [],.str [],.ro 2 [] true,.str [],.ro 6 [] true] [(0,1,.c (.int .u8 1)),(1,1,T 63),(2,1,T 65),(3,1,T 69)]),d 7 (E (.alloc [.int .u8 0,.str [],.str [],.ro 2 [] true,.str [],.ro 6 [] true])),n (st 6 7 70)] [(1,7),(3,7),(1,9),(3,9),(5,9),(6,9),(7,9)] ⟨false,[],[]⟩) (s (s (Q 8 [i 0] [8,7,3,2]) (bk 3 JY ⟨true,[7],[]⟩)) Ec))
def kR:aC:=zd (r (O 61 [m 5,d 4 (m 61)]))
def jS:aC:=zd (s (s (O 32 [m 6,f 3 3,l 1 33,ln 1 34,lt 32 35]) (cc 36 (w .skip) (ee 1))) (s (B 2 (U 39 [m 5,f 1 2,l 1 40,f 3 3,l 1 42,m 6,ix 1 43 44,l 1 45,f 3 2,l 1 47,h 4 3,ca 559 [48,49],f 3 3,l 1 51,m 6,ix 1 52 53,l 1 54,E (.build [.int .u8 0,.str [],.str [],.ro 2 [] true,.str [],.ro 6 [] true] [(0,1,.c (.int .u8 2)),(4,1,T 55)]),E (.aU [.int .u8 0,.str [],.str [],.ro 2 [] true,.str [],.ro 6 [] true] 1 [(0,T 56)]),E (.build [.int .u8 0,.str [],.str [],.ro 2 [] true,.str [],.ro 6 [] true] [(0,1,.c (.int .u8 1)),(1,1,T 41),(2,1,T 46),(3,1,T 50),(5,1,T 57)]),E (.aU [.int .u8 0,.str [],.str [],.ro 2 [] true,.str [],.ro 6 [] true] 1 [(0,T 58)]),E (.app [.int .u8 0,.str [],.str [],.ro 2 [] true,.str [],.ro 6 [] true] 104 false (T 39) (T 59)),d 5 (m 60)] [(2,11),(4,11),(7,11),(11,13),(11,16),(2,18),(4,18),(7,18),(9,18),(10,18),(11,18)] [6,5,3,2])) (O 37 [m 6,adi 37 1,d 6 (m 38)])))
def Jr:aC:=.loop ⟨true,[6,5,3,2],[]⟩ jS
def PL:WFn:=⟨2,[.tmp 4],zd (s (O 2 [bx 0,bx 1,E (.mv (.c (.ro 6 [] true)))]) (s (s (O 9 [f 0 2,l 1 9]) (bk 0 (s (O 12 [E (.bin .eql (T 10) (.c (.int .u8 2))),d 11 (m 12)]) (cc 11 (r (O 13 [f 4 2,l 1 13,E (.build [.int .u8 0,.str [],.str [],.ro 2 [] true,.str [],.ro 6 [] true] [(0,1,.c (.int .u8 2)),(4,1,T 14)]),E (.aU [.int .u8 0,.str [],.str [],.ro 2 [] true,.str [],.ro 6 [] true] 1 [(0,T 15)]),d 4 (m 16)])) (s (O 18 [E (.bin .eql (T 10) (.c (.int .u8 3))),d 17 (m 18)]) (cc 17 (r (O 19 [f 2 3,l 1 19,E (.build [.int .u8 0,.str [],.str [],.ro 2 [] true,.str [],.ro 6 [] true] [(0,1,.c (.int .u8 2)),(4,1,T 20)]),E (.aU [.int .u8 0,.str [],.str [],.ro 2 [] true,.str [],.ro 6 [] true] 1 [(0,T 21)]),d 4 (m 22)])) (s (O 24 [E (.bin .eql (T 10) (.c (.int .u8 4))),d 23 (m 24)]) (cc 23 (r (Q 25 [f 0 3,l 1 25,ca 558 [26],E (.build [.int .u8 0,.str [],.str [],.ro 2 [] true,.str [],.ro 6 [] true] [(0,1,.c (.int .u8 2)),(4,1,T 27)]),E (.aU [.int .u8 0,.str [],.str [],.ro 2 [] true,.str [],.ro 6 [] true] 1 [(0,T 28)]),d 4 (m 29)] [4])) (s (O 31 [E (.bin .eql (T 10) (.c (.int .u8 5))),d 30 (m 31)]) (c 30 (s (R 5 [E (.mv (.c (.ro 6 [] true)))] ⟨true,[5,3,2],[(5,6)]⟩) (s (s (O 6 [i 0]) (bk 1 Jr ⟨true,[5],[]⟩)) kR)))))))))) ⟨true,[3,2],[]⟩)) MS))⟩
@[simp] theorem aly:ZL JY nH ⟨true,[8,7,3,2],[]⟩:=bC rfl
noncomputable abbrev ny (C:aG) (s:WSt):Option AV:=CK C 0 (aP [.tmp 4]) [.sq JY,.bk 3 ⟨true,[7],[]⟩,.sq Ec] nH s
@[simp] theorem al0:ZL Jr jS ⟨true,[6,5,3,2],[]⟩:=bC rfl
noncomputable abbrev dh (C:aG) (s:WSt):Option AV:=CK C 0 (aP [.tmp 4]) [.sq Jr,.bk 1 ⟨true,[5],[]⟩,.sq kR,.bk 0 ⟨true,[3,2],[]⟩,.sq MS] jS s
def ZT:WFn:=⟨1,[.tmp 1],zd (s (O 1 [ff]) (r (O 2 [f 2 0,l 1 2,ln 0 3,lei 4 64,m 5,y 6 (f 2 0),y 6 (l 1 7),y 6 (E (.call 495 [T 8,.c (.fn 496 [])])),y 6 (nt 9),pa 6 10,d 1 (m 11)])))⟩
def aa3:WFn:=⟨2,[.tmp 4],zd (s (O 4 [ff]) (r (O 5 [m 0,m 1,ca 543 [5,6],gei 7 0,d 4 (m 8)])))⟩
def Ur:WFn:=⟨1,[.tmp 2],zd (s (O 2 [ff]) (r (O 3 [m 0,E (.bin .lss (T 3) (.c (.int .i32 32))),m 4,z 5 (m 0),z 5 (E (.bin .gtr (T 6) (.c (.int .i32 126)))),po 5 7,d 2 (m 8)])))⟩
def aaG:WFn:=⟨1,[.tmp 1],zd (s (O 1 [ff]) (r (O 2 [f 3 0,l 1 2,ln 1 3,lei 4 8,m 5,y 6 (f 3 0),y 6 (l 1 7),y 6 (E (.call 498 [T 8,.c (.fn 499 [])])),y 6 (nt 9),pa 6 10,d 1 (m 11)])))⟩
def YX:WFn:=⟨2,[.tmp 4],zd (s (O 4 [ff]) (r (O 5 [m 0,m 1,ca 544 [5,6],gei 7 0,d 4 (m 8)])))⟩
def aff:WFn:=⟨1,[.tmp 2],zd (s (O 2 [ff]) (r (O 3 [m 0,ca 500 [3],nt 4,d 2 (m 5)])))⟩
def WA:WFn:=⟨1,[.tmp 2],zd (s (O 2 [ff]) (s (O 3 [E (.mv (.c (.fn 545 [])))]) (r (O 4 [m 0,E (.bin .neq (T 4) (.c (.str []))),m 5,y 6 (m 0),y 6 (ln 0 7),y 6 (lei 8 16),pa 6 9,m 10,y 11 (m 0),y 11 (m 3),y 11 (ca 495 [12,13]),y 11 (nt 14),pa 11 15,d 2 (m 16)]))))⟩
def Hz:WFn:=⟨3,[.cell 6 6 true,.tmp 7],zd (s (O 6 [d 3 (bx 0),d 4 (bx 1),E (.alloc [.int .u8 0,.str [],.str [],.ro 2 [] true,.str [],.ro 6 [] true]),i 0]) (s (s (Q 12 [m 2,lti 12 1,m 13,z 14 (m 2),z 14 (gti 15 64),po 14 16] [17,6,4,3,2]) (c 17 (r (O 18 [E (.build [.int .u8 0,.str [],.str [],.ro 2 [] true,.str [],.ro 6 [] true] []),n (st 6 6 18),d 7 (i 1)])))) (s (s (O 19 [h 6 3,ca 231 [19],d 8 (m 20)]) (s (O 21 [m 8,nei 21 0]) (c 22 (r (O 23 [E (.build [.int .u8 0,.str [],.str [],.ro 2 [] true,.str [],.ro 6 [] true] []),m 8,n (st 6 6 23),d 7 (m 24)]))))) (s (s (O 25 [h 4 4,ca 546 [25],d 9 (m 26)]) (s (O 27 [m 9,nei 27 0]) (c 28 (r (O 29 [E (.build [.int .u8 0,.str [],.str [],.ro 2 [] true,.str [],.ro 6 [] true] []),m 9,n (st 6 6 29),d 7 (m 30)]))))) (s (Q 31 [h 4 4,E (.build [.int .u64 0,.int .u8 0,.str [],.ro 1 [] true] [(0,4,T 31)]),h 6 3,E (.aU [.int .u8 0,.str [],.str [],.ro 3 [] true,.str [],.ro 6 [] true] 1 [(0,T 33)]),ca 547 [32,34],E (.idxs 6 (T 35) (N 0)),h 6 36,d 10 (E (.alloc [.int .u8 0,.str [],.str [],.ro 2 [] true,.str [],.ro 6 [] true])),n (st 6 10 37)] [10,6,2]) (s (s (O 38 [h 6 10,ca 140 [38],d 11 (m 39)]) (s (O 40 [m 11,eqi 40 0,m 41,z 42 (m 11),z 42 (m 2),z 42 (gt 43 44),po 42 45]) (c 46 (r (O 47 [E (.build [.int .u8 0,.str [],.str [],.ro 2 [] true,.str [],.ro 6 [] true] []),n (st 6 6 47),d 7 (i 14)]))))) (r (O 48 [h 6 10,n (st 6 6 48),d 7 (i 0)]))))))))⟩
def Og:aC:=zd (r (O 27 [m 3,E (.cvt .i64 (T 27)),d 2 (m 28)]))
def sD:aC:=zd (s (s (O 5 [m 4,m 0,ln 1 6,lt 5 7]) (cc 8 (w .skip) (ee 0))) (s (B 1 (s (s (Q 11 [m 0,m 4,ix 6 11 12,f 4 13,l 1 14,gti 15 0] [16,4,3,0]) (c 16 (O 17 [m 3,m 0,m 4,ix 6 18 19,f 4 20,l 1 21,E (.cvt .u64 (T 22)),ad 17 23,d 3 (m 24)]))) (s (O 25 [m 3,E (.bin .gtr (T 25) (.c (.int .u64 4611686018427387904)))]) (c 26 (r (O 2 [i 4611686018427387905])))))) (O 9 [m 4,adi 9 1,d 4 (m 10)])))
def LD:aC:=.loop ⟨true,[4,3,0],[]⟩ sD
def ach:WFn:=⟨1,[.tmp 2],zd (s (O 2 [i 0]) (s (O 3 [E (.mv (.c (.int .u64 0)))]) (s (s (O 4 [i 0]) (bk 0 LD ⟨true,[3],[]⟩)) Og)))⟩
@[simp] theorem ala:ZL LD sD ⟨true,[4,3,0],[]⟩:=bC rfl
noncomputable abbrev xH (C:aG) (s:WSt):Option AV:=CK C 0 (aP [.tmp 2]) [.sq LD,.bk 0 ⟨true,[3],[]⟩,.sq Og] sD s
def aao:WFn:=⟨2,[.tmp 4],zd (s (O 3 [bx 1,i 0]) (s (s (O 7 [m 0,nk 7,f 0 8,l 1 9,E (.bin .neq (T 10) (.c (.int .u8 1)))]) (c 11 (r (O 4 [i 0])))) (s (O 5 [E (.alloc [.int .i64 0]),n (E (.store 1 (T 5) (N 0)))]) (s (O 6 [E (.alloc [.dG])]) (s (O 12 [E (.kY 548 [T 5,T 3,T 6]),n (st 1 6 12)]) (s (s (O 13 [l 1 6,m 0,E (.dS (T 13) [T 14,N 1]),nt 15]) (c 16 (r (O 4 [i 0])))) (r (O 17 [l 1 5,d 4 (m 17)]))))))))⟩
def acL:WFn:=⟨1,[],zd (w .skip)⟩
def XD:WFn:=⟨1,[.tmp 2],zd (s (O 1 [bx 0,i 0]) (s (O 4 [h 6 1,E (.call 550 [T 4,N 6]),d 3 (m 5)]) (s (s (O 6 [f 0 1,l 1 6,E (.bin .neq (T 7) (.c (.int .u8 1))),m 8,z 9 (m 3),z 9 (gti 10 64),po 9 11]) (c 12 (r (O 2 [i 0])))) (r (O 13 [m 3,d 2 (m 13)])))))⟩
def acT:WFn:=⟨2,[.tmp 4],zd (s (O 2 [bx 0,bx 1,i 0]) (s (s (O 5 [f 0 2,l 1 5,f 0 3,f 1 7,l 1 8,ix 9 6 9,f 7 10,l 1 11]) (c 12 (r (O 4 [i 1])))) (r (O 4 [i 0]))))⟩
def Lu:WFn:=⟨2,[.tmp 4],zd (s (O 2 [bx 0,bx 1,ff]) (r (Q 5 [f 0 2,l 1 5,f 0 3,l 1 7,eq 6 8,m 9,y 10 (f 1 2),y 10 (l 1 11),y 10 (f 1 3),y 10 (l 1 13),y 10 (eq 12 14),pa 10 15,m 16,y 17 (f 2 2),y 17 (l 1 18),y 17 (f 2 3),y 17 (l 1 20),y 17 (eq 19 21),pa 17 22,m 23,y 24 (f 4 2),y 24 (l 1 25),y 24 (f 4 3),y 24 (l 1 27),y 24 (eq 26 28),pa 24 29,m 30,y 31 (f 3 2),y 31 (l 1 32),y 31 (f 3 3),y 31 (l 1 34),y 31 (ca 551 [33,35]),pa 31 36,m 37,y 38 (f 5 2),y 38 (l 1 39),y 38 (f 5 3),y 38 (l 1 41),y 38 (E (.call 552 [T 40,T 42,.c (.fn 506 [])])),pa 38 43,d 4 (m 44)] [4])))⟩
def NU:aC:=zd (s (O 35 [m 5,f 5 2,n (st 1 36 35)]) (r (O 37 [h 6 2,n (st 6 4 37)])))
def Az:aC:=zd (s (O 24 [lt 23 22]) (s (cc 24 (w .skip) (ee 0)) (s (B 1 (s (O 25 [m 23,ix 6 21 23,h 6 26,d 7 (E (.alloc [.int .u8 0,.str [],.str [],.ro 2 [] true,.str [],.ro 6 [] true])),d 6 (m 25),n (st 6 7 27)]) (O 28 [m 5,m 6,h 6 7,m 1,ca 507 [30,31],ix 6 28 29,n (st 6 33 32)]))) (O 34 [adi 23 1,d 23 (m 34)]))))
def MB:aC:=.loop ⟨true,[23,22,21,5,4,2,1],[]⟩ Az
def aey:WFn:=⟨2,[.cell 4 6 true],zd (s (O 4 [d 2 (bx 0),E (.alloc [.int .u8 0,.str [],.str [],.ro 2 [] true,.str [],.ro 6 [] true])]) (s (s (O 8 [m 1,nt 8]) (c 9 (O 10 [f 2 2,n (E (.store 1 (T 10) (.c (.str []))))]))) (s (O 11 [f 3 2,l 1 11,ca 554 [12],ca 553 [13],f 3 2,n (st 1 15 14)]) (s (O 16 [f 5 2,l 1 16,ln 1 17,E (.qo [.int .u8 0,.str [],.str [],.ro 2 [] true,.str [],.ro 6 [] true] 104 (T 18) (T 18)),d 5 (m 19)]) (s (s (Q 20 [f 5 2,l 1 20,ln 1 21,i 0] [23,22,21,5,4,2,1]) (bk 0 MB ⟨true,[5,4,2],[]⟩)) NU)))))⟩
@[simp] theorem alY:ZL MB Az ⟨true,[23,22,21,5,4,2,1],[]⟩:=bC rfl
noncomputable abbrev EP (C:aG) (s:WSt):Option AV:=CK C 0 (aP [.cell 4 6 true]) [.sq MB,.bk 0 ⟨true,[5,4,2],[]⟩,.sq NU] Az s
def abx:WFn:=⟨1,[.tmp 2],zd (s (O 2 [ff]) (r (O 3 [m 0,ln 0 3,lei 4 64,m 5,y 6 (m 0),y 6 (E (.call 543 [T 7,.c (.fn 560 [])])),y 6 (lti 8 0),pa 6 9,d 2 (m 10)])))⟩
def MW:aC:=zd (r (O 2 [tt]))
def zX:aC:=zd (s (O 15 [lt 14 13]) (s (cc 15 (w .skip) (ee 0)) (s (B 1 (s (O 16 [m 14,d 3 (m 16)]) (s (O 17 [m 0,m 3,E (.dW (T 17) (T 18)),ca 561 [19],nt 20]) (c 21 (r (O 2 [ff])))))) (O 22 [adi 14 1,d 14 (m 22)]))))
def MK:aC:=.loop ⟨true,[14,13,0],[]⟩ zX
def Wp:WFn:=⟨1,[.tmp 2],zd (s (O 2 [ff]) (s (s (Q 4 [m 0,ln 0 4,lti 5 1,m 6,z 7 (m 0),z 7 (ln 0 8),z 7 (gti 9 16),po 7 10] [11,0]) (c 11 (r (O 2 [ff])))) (s (s (O 12 [m 0,ln 0 12,i 0]) (bk 0 MK ⟨true,[],[]⟩)) MW)))⟩
@[simp] theorem al6:ZL MK zX ⟨true,[14,13,0],[]⟩:=bC rfl
noncomputable abbrev DZ (C:aG) (s:WSt):Option AV:=CK C 0 (aP [.tmp 2]) [.sq MK,.bk 0 ⟨true,[],[]⟩,.sq MW] zX s
def ZY:WFn:=⟨2,[.tmp 4],zd (s (O 4 [ff]) (r (O 5 [m 0,m 1,ca 562 [5,6],gei 7 0,d 4 (m 8)])))⟩
def Z5:WFn:=⟨2,[.tmp 3],zd (s (O 2 [bx 0,ff]) (r (O 4 [f 2 2,l 1 4,f 2 1,l 1 6,eq 5 7,d 3 (m 8)])))⟩
def DN:aC:=zd (r (O 35 [m 5,d 4 (m 35)]))
def wY:aC:=zd (s (s (Q 14 [m 6,f 5 2,l 1 15,ln 1 16,lt 14 17,m 18,y 19 (m 5),y 19 (lei 20 64),pa 19 21] [22,6,5,2,1]) (cc 22 (w .skip) (ee 0))) (s (B 1 (O 25 [m 5,f 5 2,l 1 26,m 6,ix 6 27 28,h 6 29,m 1,sbi 31 1,ca 520 [30,32],ad 25 33,d 5 (m 34)])) (O 23 [m 6,adi 23 1,d 6 (m 24)])))
def J7:aC:=.loop ⟨true,[6,5,2,1],[]⟩ wY
def XJ:WFn:=⟨2,[.tmp 4],zd (s (O 4 [d 2 (bx 0),i 0]) (s (s (O 7 [m 1,lti 7 1,m 8,z 9 (h 6 2),z 9 (ca 563 [10]),z 9 (nt 11),po 9 12]) (c 13 (r (O 4 [i 1000])))) (s (O 5 [i 1]) (s (s (O 6 [i 0]) (bk 0 J7 ⟨true,[5],[]⟩)) DN))))⟩
@[simp] theorem amB:ZL J7 wY ⟨true,[6,5,2,1],[]⟩:=bC rfl
noncomputable abbrev yS (C:aG) (s:WSt):Option AV:=CK C 0 (aP [.tmp 4]) [.sq J7,.bk 0 ⟨true,[5],[]⟩,.sq DN] wY s
def J6:aC:=zd (r (O 2 [tt]))
def AP:aC:=zd (s (s (O 7 [m 3,m 0,ln 0 8,lt 7 9]) (cc 10 (w .skip) (ee 0))) (s (B 1 (s (O 13 [m 0,m 3,E (.dW (T 13) (T 14)),E (.bin .lss (T 15) (.c (.int .u8 32))),m 16,z 17 (m 0),z 17 (m 3),z 17 (E (.dW (T 18) (T 19))),z 17 (E (.bin .gtr (T 20) (.c (.int .u8 126)))),po 17 21]) (c 22 (r (O 2 [ff]))))) (O 11 [m 3,adi 11 1,d 3 (m 12)])))
def NC:aC:=.loop ⟨true,[3,0],[]⟩ AP
def YJ:WFn:=⟨1,[.tmp 2],zd (s (O 2 [ff]) (s (s (Q 4 [m 0,ln 0 4,gti 5 64] [6,0]) (c 6 (r (O 2 [ff])))) (s (s (O 3 [i 0]) (bk 0 NC ⟨true,[],[]⟩)) J6)))⟩
@[simp] theorem ama:ZL NC AP ⟨true,[3,0],[]⟩:=bC rfl
noncomputable abbrev DV (C:aG) (s:WSt):Option AV:=CK C 0 (aP [.tmp 2]) [.sq NC,.bk 0 ⟨true,[],[]⟩,.sq J6] AP s
def wR:aC:=zd (r (O 36 [m 0,ln 0 36,gei 37 1,m 38,y 39 (m 0),y 39 (ln 0 40),y 39 (lei 41 16),pa 39 42,d 2 (m 43)]))
def AZ:aC:=zd (s (s (O 4 [m 3,m 0,ln 0 5,lt 4 6,m 7,y 8 (m 3),y 8 (lti 9 17),pa 8 10]) (cc 11 (w .skip) (ee 0))) (s (B 1 (s (Q 14 [m 0,m 3,E (.dW (T 14) (T 15)),E (.bin .lss (T 16) (.c (.int .u8 97))),m 17,z 18 (m 0),z 18 (m 3),z 18 (E (.dW (T 19) (T 20))),z 18 (E (.bin .gtr (T 21) (.c (.int .u8 122)))),po 18 22,m 23,y 24 (m 0),y 24 (m 3),y 24 (E (.dW (T 25) (T 26))),y 24 (E (.bin .lss (T 27) (.c (.int .u8 48)))),y 24 (m 28),z 29 (m 0),z 29 (m 3),z 29 (E (.dW (T 30) (T 31))),z 29 (E (.bin .gtr (T 32) (.c (.int .u8 57)))),y 24 (po 29 33),pa 24 34] [35,3,0]) (c 35 (r (O 2 [ff]))))) (O 12 [m 3,adi 12 1,d 3 (m 13)])))
def LM:aC:=.loop ⟨true,[3,0],[]⟩ AZ
def acy:WFn:=⟨1,[.tmp 2],zd (s (O 2 [ff]) (s (s (O 3 [i 0]) (bk 0 LM ⟨true,[0],[]⟩)) wR))⟩
@[simp] theorem amE:ZL LM AZ ⟨true,[3,0],[]⟩:=bC rfl
noncomputable abbrev ES (C:aG) (s:WSt):Option AV:=CK C 0 (aP [.tmp 2]) [.sq LM,.bk 0 ⟨true,[0],[]⟩,.sq wR] AZ s
def YU:WFn:=⟨1,[.tmp 2],zd (s (O 2 [E (.mv (.c (.str [])))]) (s (s (O 3 [m 0,E (.bin .lss (T 3) (.c (.int .u64 10)))]) (c 4 (r (O 5 [m 0,m 0,E (.bin .add (T 6) (.c (.int .u64 1))),E (.slice 0 (.c (.str [48,49,50,51,52,53,54,55,56,57])) (some (T 5)) (some (T 7)) none),d 2 (m 8)])))) (r (O 9 [m 0,E (.bin .quo (T 9) (.c (.int .u64 10))),ca 558 [10],m 0,E (.bin .rem (T 12) (.c (.int .u64 10))),ca 558 [13],ad 11 14,d 2 (m 15)]))))⟩
def EZ:aC:=zd (r (O 50 [m 5,d 4 (m 50)]))
def AB:aC:=zd (s (s (O 8 [m 6,m 0,ln 1 9,lt 8 10]) (cc 11 (w .skip) (ee 0))) (s (B 1 (s (O 14 [m 0,m 6,ix 3 14 15,f 2 16,l 1 17,d 7 (m 18)]) (s (s (O 19 [m 0,m 6,ix 3 19 20,f 1 21,l 1 22]) (B 2 (s (O 25 [E (.bin .eql (T 23) (.c (.int .u8 1))),d 24 (m 25)]) (cc 24 (O 26 [f 2 3,l 1 26,d 7 (m 27)]) (s (O 29 [E (.bin .eql (T 23) (.c (.int .u8 2))),d 28 (m 29)]) (cc 28 (O 30 [f 0 3,l 1 30,ca 558 [31],d 7 (m 32)]) (s (O 34 [E (.bin .eql (T 23) (.c (.int .u8 3))),d 33 (m 34)]) (c 33 (Q 35 [f 3 3,l 1 35,ln 1 36,E (.cvt .u64 (T 37)),ca 558 [38],d 7 (m 39)] [7,6,5,3,0]))))))))) (O 40 [m 5,m 0,m 6,ix 3 41 42,f 0 43,l 1 44,m 7,E (.build [.str [],.str []] [(0,1,T 45),(1,1,T 46)]),E (.aU [.str [],.str []] 1 [(0,T 47)]),E (.app [.str [],.str []] 32 false (T 40) (T 48)),d 5 (m 49)])))) (O 12 [m 6,adi 12 1,d 6 (m 13)])))
def NR:aC:=.loop ⟨true,[6,5,3,0],[]⟩ AB
def ad8:WFn:=⟨2,[.tmp 4],zd (s (Q 3 [bx 1,E (.mv (.c (.ro 2 [] true)))] [3,0]) (s (R 5 [E (.mv (.c (.ro 2 [] true)))] ⟨true,[5,3,0],[(5,2)]⟩) (s (s (O 6 [i 0]) (bk 0 NR ⟨true,[5],[]⟩)) EZ)))⟩
@[simp] theorem aln:ZL NR AB ⟨true,[6,5,3,0],[]⟩:=bC rfl
noncomputable abbrev ET (C:aG) (s:WSt):Option AV:=CK C 0 (aP [.tmp 4]) [.sq NR,.bk 0 ⟨true,[5],[]⟩,.sq EZ] AB s
def adx:WFn:=⟨2,[.tmp 4],zd (s (O 4 [i 0]) (r (O 5 [m 0,m 1,E (.call 578 [T 5,T 6,.c (.bool true)]),d 4 (m 7)])))⟩
def KZ:aC:=zd (r (O 4 [i (-1)]))
def vU:aC:=zd (s (O 9 [lt 8 7]) (s (cc 9 (w .skip) (ee 0)) (s (B 1 (s (O 10 [m 8,d 5 (m 10)]) (s (O 11 [m 1,m 0,m 5,ix 1 12 13,l 1 14,E (.dS (T 11) [T 15])]) (c 16 (r (O 17 [m 5,d 4 (m 17)])))))) (O 18 [adi 8 1,d 8 (m 18)]))))
def JB:aC:=.loop ⟨true,[8,7,1,0],[]⟩ vU
def adG:WFn:=⟨2,[.tmp 4],zd (s (O 4 [i 0]) (s (s (O 6 [m 0,ln 1 6,i 0]) (bk 0 JB ⟨true,[],[]⟩)) KZ))⟩
@[simp] theorem al4:ZL JB vU ⟨true,[8,7,1,0],[]⟩:=bC rfl
noncomputable abbrev Bf (C:aG) (s:WSt):Option AV:=CK C 0 (aP [.tmp 4]) [.sq JB,.bk 0 ⟨true,[],[]⟩,.sq KZ] vU s
def XR:WFn:=⟨1,[.tmp 2],zd (s (O 2 [ff]) (r (O 3 [m 0,E (.bin .lss (T 3) (.c (.int .i32 97))),m 4,z 5 (m 0),z 5 (E (.bin .gtr (T 6) (.c (.int .i32 122)))),po 5 7,m 8,y 9 (m 0),y 9 (E (.bin .lss (T 10) (.c (.int .i32 48)))),y 9 (m 11),z 12 (m 0),z 12 (E (.bin .gtr (T 13) (.c (.int .i32 57)))),y 9 (po 12 14),pa 9 15,d 2 (m 16)])))⟩
def RN:WFn:=⟨1,[.tmp 2],zd (s (Q 1 [bx 0,i 0] [1]) (s (s (O 3 [f 0 1,l 1 3,E (.bin .eql (T 4) (.c (.int .u64 0))),m 5,z 6 (f 2 1),z 6 (l 1 7),z 6 (ca 579 [8]),z 6 (nt 9),po 6 10,m 11,z 12 (f 3 1),z 12 (l 1 13),z 12 (ln 1 14),z 12 (gti 15 8),po 12 16,m 17,z 18 (f 3 1),z 18 (l 1 19),z 18 (E (.call 498 [T 20,.c (.fn 580 [])])),po 18 21]) (c 22 (r (O 2 [i 6])))) (r (O 2 [i 0]))))⟩
def zL:aC:=zd (r (O 81 [m 5,d 4 (m 81)]))
def ql:aC:=zd (O 80 [adi 12 1,d 12 (m 80)])
def zh:aC:=zd (s (O 66 [lt 65 64]) (s (cc 66 (w .skip) (ee 3)) (s (B 4 (s (O 67 [ix 1 63 65,l 1 67,d 9 (m 68)]) (U 69 [m 5,h 4 2,h 6 7,m 9,m 9,ca 583 [73],E (.aU [.int .u8 0,.str [],.str [],.ro 2 [] true,.str [],.ro 6 [] true] 1 [(0,T 74)]),ca 582 [70,71,72,75],E (.aU [.int .u8 0,.str [],.str [],.ro 2 [] true,.str [],.ro 6 [] true] 1 [(0,T 76)]),E (.app [.int .u8 0,.str [],.str [],.ro 2 [] true,.str [],.ro 6 [] true] 104 false (T 69) (T 77)),d 5 (m 78)] [(1,5),(2,5),(1,6),(2,6)] [65,64,63,12,11,10,7,5,2]))) (O 79 [adi 65 1,d 65 (m 79)]))))
def Ob:aC:=.loop ⟨true,[65,64,63,12,11,10,7,5,2],[]⟩ zh
def nM:aC:=zd (s (O 13 [lt 12 11]) (s (cc 13 (w .skip) (ee 0)) (s (bk 1 (s (Q 14 [ix 6 10 12,h 6 14,d 7 (E (.alloc [.int .u8 0,.str [],.str [],.ro 3 [] true,.str [],.ro 6 [] true])),n (st 6 7 15)] [12,11,10,7,5,2]) (s (O 16 [f 0 7,l 1 16]) (bk 2 (s (O 19 [E (.bin .eql (T 17) (.c (.int .u8 1))),d 18 (m 19)]) (cc 18 (V 20 [m 5,h 4 2,h 6 7,f 2 7,l 1 23,h 4 2,f 5 7,l 1 26,ca 547 [25,27],ca 582 [21,22,24,28],E (.aU [.int .u8 0,.str [],.str [],.ro 2 [] true,.str [],.ro 6 [] true] 1 [(0,T 29)]),E (.app [.int .u8 0,.str [],.str [],.ro 2 [] true,.str [],.ro 6 [] true] 104 false (T 20) (T 30)),d 5 (m 31)] [(1,8),(2,8),(4,8)] ⟨false,[],[]⟩) (s (O 33 [E (.bin .eql (T 17) (.c (.int .u8 2))),d 32 (m 33)]) (cc 32 (Q 34 [m 5,f 4 7,l 1 35,ca 583 [36],E (.aU [.int .u8 0,.str [],.str [],.ro 2 [] true,.str [],.ro 6 [] true] 1 [(0,T 37)]),E (.app [.int .u8 0,.str [],.str [],.ro 2 [] true,.str [],.ro 6 [] true] 104 false (T 34) (T 38)),d 5 (m 39)] [12,11,10,5,2]) (s (O 41 [E (.bin .eql (T 17) (.c (.int .u8 3))),d 40 (m 41)]) (cc 40 (O 42 [m 5,f 0 2,f 2 43,l 1 44,ca 583 [45],E (.aU [.int .u8 0,.str [],.str [],.ro 2 [] true,.str [],.ro 6 [] true] 1 [(0,T 46)]),E (.app [.int .u8 0,.str [],.str [],.ro 2 [] true,.str [],.ro 6 [] true] 104 false (T 42) (T 47)),d 5 (m 48)]) (s (O 50 [E (.bin .eql (T 17) (.c (.int .u8 4))),d 49 (m 50)]) (cc 49 (O 51 [m 5,f 0 2,f 0 52,l 1 53,ca 584 [54],ca 583 [55],E (.aU [.int .u8 0,.str [],.str [],.ro 2 [] true,.str [],.ro 6 [] true] 1 [(0,T 56)]),E (.app [.int .u8 0,.str [],.str [],.ro 2 [] true,.str [],.ro 6 [] true] 104 false (T 51) (T 57)),d 5 (m 58)]) (s (O 60 [E (.bin .eql (T 17) (.c (.int .u8 5))),d 59 (m 60)]) (c 59 (s (O 61 [f 0 2,f 3 61,l 1 62,ln 1 63,i 0]) (bk 3 Ob ⟨true,[12,11,10,5,2],[]⟩)))))))))))) ⟨true,[12,11,10,5,2],[]⟩))) ⟨true,[12,11,10,5,2],[]⟩) ql)))
def Ew:aC:=.loop ⟨true,[12,11,10,5,2],[]⟩ nM
def adY:WFn:=⟨2,[.tmp 4],zd (s (O 4 [d 2 (bx 0),E (.mv (.c (.ro 6 [] true)))]) (s (R 5 [E (.mv (.c (.ro 6 [] true)))] ⟨true,[5,2,1],[(5,6)]⟩) (s (s (O 10 [m 1,ln 1 10,i 0]) (bk 0 Ew ⟨true,[5],[]⟩)) zL)))⟩
@[simp] theorem amH:ZL Ob zh ⟨true,[65,64,63,12,11,10,7,5,2],[]⟩:=bC rfl
noncomputable abbrev Es (C:aG) (s:WSt):Option AV:=CK C 0 (aP [.tmp 4]) [.sq Ob,.bk 3 ⟨true,[12,11,10,5,2],[]⟩,.bk 2 ⟨true,[12,11,10,5,2],[]⟩,.bk 1 ⟨true,[12,11,10,5,2],[]⟩,.sq ql,.sq Ew,.bk 0 ⟨true,[5],[]⟩,.sq zL] zh s
@[simp] theorem alT:ZL Ew nM ⟨true,[12,11,10,5,2],[]⟩:=bC rfl
noncomputable abbrev jQ (C:aG) (s:WSt):Option AV:=CK C 0 (aP [.tmp 4]) [.sq Ew,.bk 0 ⟨true,[5],[]⟩,.sq zL] nM s
def Jv:aC:=zd (r (O 7 [tt]))
def vP:aC:=zd (s (O 31 [lt 30 29]) (s (cc 31 (w .skip) (ee 0)) (s (B 1 (s (O 32 [m 30,d 8 (m 32)]) (s (V 33 [l 1 4,m 0,nk 34,f 5 35,l 1 36,m 8,ix 6 37 38,m 1,adi 40 1,E (.dS (T 33) [T 39,T 41]),nt 42] [] ⟨false,[],[]⟩) (c 43 (r (O 7 [ff])))))) (O 44 [adi 30 1,d 30 (m 44)]))))
def NY:aC:=.loop ⟨true,[30,29,4,1,0],[]⟩ vP
def Rj:WFn:=⟨5,[.tmp 7],zd (s (O 7 [ff]) (s (O 9 [l 1 2,adi 9 1,n (st 1 2 10)]) (s (s (O 11 [m 1,gti 11 6,m 12,z 13 (l 1 2),z 13 (gti 14 64),po 13 15,m 16,z 17 (m 0),z 17 (ca 549 [18]),z 17 (nt 19),po 17 20]) (c 21 (r (O 7 [ff])))) (s (O 22 [l 1 3,m 0,E (.dS (T 22) [T 23])]) (s (s (Q 25 [m 0,nk 25,f 5 26,l 1 27,ln 1 28,i 0] [30,29,4,1,0]) (bk 0 NY ⟨true,[],[]⟩)) Jv)))))⟩
@[simp] theorem alu:ZL NY vP ⟨true,[30,29,4,1,0],[]⟩:=bC rfl
def iP:WFn:=⟨1,[.tmp 2],zd (s (O 2 [ff]) (s (O 4 [m 0,nk 4,h 6 5,d 3 (E (.alloc [.int .u8 0,.str [],.str [],.ro 3 [] true,.str [],.ro 6 [] true])),n (st 6 3 6)]) (s (s (O 7 [m 0,nk 7,f 0 8,l 1 9]) (B 0 (s (B 5 (s (B 4 (s (B 3 (s (B 2 (s (B 1 (s (s (s (O 12 [E (.bin .eql (T 10) (.c (.int .u8 1))),d 11 (m 12)]) (c 11 (ee 1))) (s (s (O 14 [E (.bin .eql (T 10) (.c (.int .u8 5))),d 13 (m 14)]) (c 13 (ee 2))) (s (s (O 16 [E (.bin .eql (T 10) (.c (.int .u8 2))),d 15 (m 16)]) (c 15 (ee 3))) (s (s (O 18 [E (.bin .eql (T 10) (.c (.int .u8 3))),d 17 (m 18)]) (cc 17 (w .skip) (O 19 [E (.bin .eql (T 10) (.c (.int .u8 4))),d 17 (m 19)]))) (c 17 (ee 4)))))) (ee 5))) (s (s (Q 20 [m 0,nk 20,f 2 21,l 1 22,E (.bin .neq (T 23) (.c (.str []))),m 24,y 25 (m 0),y 25 (nk 26),y 25 (f 2 27),y 25 (l 1 28),y 25 (ca 581 [29]),y 25 (nt 30),pa 25 31,m 32,z 33 (m 0),z 33 (nk 34),z 33 (f 5 35),z 33 (l 1 36),z 33 (ln 1 37),z 33 (gti 38 16),po 33 39] [40,3,0]) (c 40 (r (O 2 [ff])))) (O 41 [f 2 3,n (E (.store 1 (T 41) (.c (.str [])))),f 5 3,n (E (.store 1 (T 42) (.c (.ro 6 [] true))))])))) (s (s (s (Q 43 [m 0,nk 43,f 1 44,l 1 45,ca 581 [46],nt 47,m 48,z 49 (m 0),z 49 (nk 50),z 49 (f 3 51),z 49 (l 1 52),z 49 (ca 585 [53]),z 49 (nt 54),po 49 55] [56,3]) (c 56 (r (O 2 [ff])))) (O 57 [f 1 3,n (E (.store 1 (T 57) (.c (.str [])))),f 3 3,n (E (.store 1 (T 58) (.c (.ro 3 [] true))))])) (ee 0)))) (s (s (s (O 59 [m 0,nk 59,f 4 60,l 1 61,ca 579 [62],nt 63]) (c 64 (r (O 2 [ff])))) (O 65 [f 4 3,n (E (.store 1 (T 65) (.c (.str []))))])) (ee 0)))) (ee 0))) (s (r (O 2 [ff])) (ee 0))))) (r (Q 66 [f 1 3,l 1 66,E (.bin .eql (T 67) (.c (.str []))),m 68,y 69 (f 2 3),y 69 (l 1 70),y 69 (E (.bin .eql (T 71) (.c (.str [])))),pa 69 72,m 73,y 74 (f 4 3),y 74 (l 1 75),y 74 (E (.bin .eql (T 76) (.c (.str [])))),pa 74 77,m 78,y 79 (f 3 3),y 79 (l 1 80),y 79 (ln 1 81),y 79 (eqi 82 0),pa 79 83,m 84,y 85 (f 5 3),y 85 (l 1 86),y 85 (ln 1 87),y 85 (eqi 88 0),pa 85 89,d 2 (m 90)] [2])))))⟩
def D5:aC:=zd (r (O 35 [m 5,d 4 (m 35)]))
def wH:aC:=zd (s (s (Q 14 [m 6,f 5 2,l 1 15,ln 1 16,lt 14 17,m 18,y 19 (m 5),y 19 (lei 20 64),pa 19 21] [22,6,5,2,1]) (cc 22 (w .skip) (ee 0))) (s (B 1 (O 25 [m 5,f 5 2,l 1 26,m 6,ix 6 27 28,h 6 29,m 1,sbi 31 1,ca 550 [30,32],ad 25 33,d 5 (m 34)])) (O 23 [m 6,adi 23 1,d 6 (m 24)])))
def Nu:aC:=.loop ⟨true,[6,5,2,1],[]⟩ wH
def Xy:WFn:=⟨2,[.tmp 4],zd (s (O 4 [d 2 (bx 0),i 0]) (s (s (O 7 [m 1,lti 7 1,m 8,z 9 (h 6 2),z 9 (ca 586 [10]),z 9 (nt 11),po 9 12]) (c 13 (r (O 4 [i 1000])))) (s (O 5 [i 1]) (s (s (O 6 [i 0]) (bk 0 Nu ⟨true,[5],[]⟩)) D5))))⟩
@[simp] theorem amg:ZL Nu wH ⟨true,[6,5,2,1],[]⟩:=bC rfl
noncomputable abbrev Ad (C:aG) (s:WSt):Option AV:=CK C 0 (aP [.tmp 4]) [.sq Nu,.bk 0 ⟨true,[5],[]⟩,.sq D5] wH s
def Oj:aC:=zd (r (O 4 [tt]))
def rM:aC:=zd (s (O 14 [lt 13 12]) (s (cc 14 (w .skip) (ee 0)) (s (B 1 (s (O 15 [m 13,d 5 (m 15)]) (s (V 16 [m 0,m 5,ix 2 16 17,h 2 18,m 1,m 5,ix 2 20 21,h 2 22,E (.eqv 4 [1,1] true (T 19) (T 23))] [] ⟨false,[],[]⟩) (c 24 (r (O 4 [ff])))))) (O 25 [adi 13 1,d 13 (m 25)]))))
def La:aC:=.loop ⟨true,[13,12,1,0],[]⟩ rM
def Zo:WFn:=⟨2,[.tmp 4],zd (s (O 4 [ff]) (s (s (Q 6 [m 0,ln 1 6,m 1,ln 1 8,ne 7 9] [10,1,0]) (c 10 (r (O 4 [ff])))) (s (s (O 11 [m 0,ln 1 11,i 0]) (bk 0 La ⟨true,[],[]⟩)) Oj)))⟩
@[simp] theorem alz:ZL La rM ⟨true,[13,12,1,0],[]⟩:=bC rfl
noncomputable abbrev wJ (C:aG) (s:WSt):Option AV:=CK C 0 (aP [.tmp 4]) [.sq La,.bk 0 ⟨true,[],[]⟩,.sq Oj] rM s
def Mc:aC:=zd (r (O 6 [tt]))
def xA:aC:=zd (s (O 18 [lt 17 16]) (s (cc 18 (w .skip) (ee 0)) (s (B 1 (s (O 19 [m 17,ix 6 15 17,h 6 20,d 8 (E (.alloc [.int .u8 0,.str [],.str [],.ro 2 [] true,.str [],.ro 6 [] true])),d 7 (m 19),n (st 6 8 21)]) (s (O 22 [m 1,m 7,ix 6 22 23,h 6 24,d 9 (E (.alloc [.int .u8 0,.str [],.str [],.ro 2 [] true,.str [],.ro 6 [] true])),n (st 6 9 25)]) (s (O 26 [m 2,h 6 8,h 6 9,E (.dS (T 26) [T 27,T 28]),nt 29]) (c 30 (r (O 6 [ff]))))))) (O 31 [adi 17 1,d 17 (m 31)]))))
def JU:aC:=.loop ⟨true,[17,16,15,2,1],[]⟩ xA
def Zj:WFn:=⟨3,[.tmp 6],zd (s (O 6 [ff]) (s (s (O 10 [m 0,ln 1 10,m 1,ln 1 12,ne 11 13]) (c 14 (r (O 6 [ff])))) (s (s (Q 15 [m 0,ln 1 15,i 0] [17,16,15,2,1]) (bk 0 JU ⟨true,[],[]⟩)) Mc)))⟩
@[simp] theorem alI:ZL JU xA ⟨true,[17,16,15,2,1],[]⟩:=bC rfl
noncomputable abbrev zx (C:aG) (s:WSt):Option AV:=CK C 0 (aP [.tmp 6]) [.sq JU,.bk 0 ⟨true,[],[]⟩,.sq Mc] xA s
def aeu:WFn:=⟨1,[.tmp 2],zd (s (O 2 [E (.mv (.c (.ro 2 [] true)))]) (r (O 3 [m 0,m 0,ln 1 4,m 0,ln 1 6,E (.slice 2 (T 3) none (some (T 5)) (some (T 7))),d 2 (m 8)])))⟩
def aas:WFn:=⟨1,[.tmp 2],zd (w (.cln [.str [],.str []] 2 32))⟩
def Sz:WFn:=⟨1,[.tmp 2],zd (s (O 2 [ff]) (r (O 3 [m 0,E (.bin .lss (T 3) (.c (.int .i32 32))),m 4,z 5 (m 0),z 5 (E (.bin .gtr (T 6) (.c (.int .i32 126)))),po 5 7,d 2 (m 8)])))⟩
def afl:WFn:=⟨1,[.tmp 2],zd (s (O 2 [ff]) (r (O 3 [m 0,E (.bin .geq (T 3) (.c (.int .u8 97))),m 4,y 5 (m 0),y 5 (E (.bin .leq (T 6) (.c (.int .u8 122)))),pa 5 7,m 8,z 9 (m 0),z 9 (E (.bin .geq (T 10) (.c (.int .u8 48)))),z 9 (m 11),y 12 (m 0),y 12 (E (.bin .leq (T 13) (.c (.int .u8 57)))),z 9 (pa 12 14),po 9 15,d 2 (m 16)])))⟩
def Oc:aC:=zd (r (O 4 [i (-1)]))
def vK:aC:=zd (s (O 9 [lt 8 7]) (s (cc 9 (w .skip) (ee 0)) (s (B 1 (s (O 10 [m 8,d 5 (m 10)]) (s (O 11 [m 1,m 0,m 5,ix 6 12 13,h 6 14,E (.dS (T 11) [T 15])]) (c 16 (r (O 17 [m 5,d 4 (m 17)])))))) (O 18 [adi 8 1,d 8 (m 18)]))))
def LC:aC:=.loop ⟨true,[8,7,1,0],[]⟩ vK
def adh:WFn:=⟨2,[.tmp 4],zd (s (O 4 [i 0]) (s (s (O 6 [m 0,ln 1 6,i 0]) (bk 0 LC ⟨true,[],[]⟩)) Oc))⟩
@[simp] theorem alC:ZL LC vK ⟨true,[8,7,1,0],[]⟩:=bC rfl
noncomputable abbrev zC (C:aG) (s:WSt):Option AV:=CK C 0 (aP [.tmp 4]) [.sq LC,.bk 0 ⟨true,[],[]⟩,.sq Oc] vK s
def Eu:aC:=zd (r (O 2 [tt]))
def Lm:aC:=zd (O 120 [m 5,adi 120 1,d 5 (m 121)])
def zf:aC:=zd (s (s (O 122 [m 6,m 5,lt 122 123]) (cc 124 (w .skip) (ee 6))) (s (B 7 (s (U 127 [f 5 1,l 1 127,m 5,ix 6 128 129,f 2 130,l 1 131,E (.bin .neq (T 132) (.c (.str []))),m 133,y 134 (f 5 1),y 134 (l 1 135),y 134 (m 5),y 134 (ix 6 136 137),y 134 (f 2 138),y 134 (l 1 139),y 134 (f 5 1),y 134 (l 1 141),y 134 (m 6),y 134 (ix 6 142 143),y 134 (f 2 144),y 134 (l 1 145),y 134 (eq 140 146),pa 134 147] [] [148,6,5,1]) (c 148 (r (O 2 [ff]))))) (O 125 [m 6,adi 125 1,d 6 (m 126)])))
def Md:aC:=.loop ⟨true,[6,5,1],[]⟩ zf
def Aw:aC:=zd (s (s (O 115 [m 5,f 5 1,l 1 116,ln 1 117,lt 115 118]) (cc 119 (w .skip) (ee 4))) (s (bk 5 (s (O 6 [i 0]) (bk 6 Md ⟨true,[5,1],[]⟩)) ⟨true,[5,1],[]⟩) Lm))
def EL:aC:=.loop ⟨true,[5,1],[]⟩ Aw
def EY:aC:=zd (s (s (O 5 [i 0]) (bk 4 EL ⟨true,[],[]⟩)) Eu)
def LU:aC:=zd (O 77 [m 3,adi 77 1,d 3 (m 78)])
def rX:aC:=zd (s (s (O 97 [m 4,m 3,lt 97 98]) (cc 99 (w .skip) (ee 2))) (s (B 3 (s (U 102 [f 3 1,l 1 102,m 4,ix 2 103 104,f 0 105,l 1 106,f 3 1,l 1 108,m 3,ix 2 109 110,f 0 111,l 1 112,ge 107 113] [] [114,4,3,1]) (c 114 (r (O 2 [ff]))))) (O 100 [m 4,adi 100 1,d 4 (m 101)])))
def NQ:aC:=.loop ⟨true,[4,3,1],[]⟩ rX
def tJ:aC:=zd (s (s (Q 72 [m 3,f 3 1,l 1 73,ln 1 74,lt 72 75] [76,3,1]) (cc 76 (w .skip) (ee 0))) (s (bk 1 (s (s (O 79 [f 3 1,l 1 79,m 3,ix 2 80 81,f 0 82,l 1 83,ca 557 [84],nt 85,m 86,z 87 (f 3 1),z 87 (l 1 88),z 87 (m 3),z 87 (ix 2 89 90),z 87 (f 1 91),z 87 (l 1 92),z 87 (ca 556 [93]),z 87 (nt 94),po 87 95]) (c 96 (r (O 2 [ff])))) (s (O 4 [i 0]) (bk 2 NQ ⟨true,[3,1],[]⟩))) ⟨true,[3,1],[]⟩) LU))
def EU:aC:=.loop ⟨true,[3,1],[]⟩ tJ
def xU:WFn:=⟨1,[.tmp 2],zd (s (O 1 [bx 0,ff]) (s (s (O 7 [f 0 1,l 1 7,E (.bin .eql (T 8) (.c (.int .u8 2)))]) (c 9 (r (Q 10 [f 4 1,l 1 10,ca 556 [11],m 12,y 13 (f 1 1),y 13 (l 1 14),y 13 (E (.bin .eql (T 15) (.c (.str [])))),pa 13 16,m 17,y 18 (f 2 1),y 18 (l 1 19),y 18 (E (.bin .eql (T 20) (.c (.str [])))),pa 18 21,m 22,y 23 (f 3 1),y 23 (l 1 24),y 23 (ln 1 25),y 23 (eqi 26 0),pa 23 27,m 28,y 29 (f 5 1),y 29 (l 1 30),y 29 (ln 1 31),y 29 (eqi 32 0),pa 29 33,d 2 (m 34)] [2])))) (s (s (Q 35 [f 0 1,l 1 35,E (.bin .neq (T 36) (.c (.int .u8 1))),m 37,z 38 (f 1 1),z 38 (l 1 39),z 38 (ca 557 [40]),z 38 (nt 41),po 38 42,m 43,z 44 (f 2 1),z 44 (l 1 45),z 44 (E (.bin .neq (T 46) (.c (.str [])))),z 44 (m 47),y 48 (f 2 1),y 48 (l 1 49),y 48 (ca 557 [50]),y 48 (nt 51),z 44 (pa 48 52),po 44 53,m 54,z 55 (f 4 1),z 55 (l 1 56),z 55 (E (.bin .neq (T 57) (.c (.str [])))),po 55 58,m 59,z 60 (f 3 1),z 60 (l 1 61),z 60 (ln 1 62),z 60 (gti 63 8),po 60 64,m 65,z 66 (f 5 1),z 66 (l 1 67),z 66 (ln 1 68),z 66 (gti 69 16),po 66 70] [71,1]) (c 71 (r (O 2 [ff])))) (s (s (O 3 [i 0]) (bk 0 EU ⟨true,[1],[]⟩)) EY))))⟩
@[simp] theorem ak8:ZL Md zf ⟨true,[6,5,1],[]⟩:=bC rfl
noncomputable abbrev DW (C:aG) (s:WSt):Option AV:=CK C 0 (aP [.tmp 2]) [.sq Md,.bk 6 ⟨true,[5,1],[]⟩,.bk 5 ⟨true,[5,1],[]⟩,.sq Lm,.sq EL,.bk 4 ⟨true,[],[]⟩,.sq Eu] zf s
@[simp] theorem ame:ZL EL Aw ⟨true,[5,1],[]⟩:=bC rfl
noncomputable abbrev xJ (C:aG) (s:WSt):Option AV:=CK C 0 (aP [.tmp 2]) [.sq EL,.bk 4 ⟨true,[],[]⟩,.sq Eu] Aw s
@[simp] theorem al3:ZL NQ rX ⟨true,[4,3,1],[]⟩:=bC rfl
noncomputable abbrev oW (C:aG) (s:WSt):Option AV:=CK C 0 (aP [.tmp 2]) [.sq NQ,.bk 2 ⟨true,[3,1],[]⟩,.bk 1 ⟨true,[3,1],[]⟩,.sq LU,.sq EU,.bk 0 ⟨true,[1],[]⟩,.sq EY] rX s
@[simp] theorem ak2:ZL EU tJ ⟨true,[3,1],[]⟩:=bC rfl
noncomputable abbrev mZ (C:aG) (s:WSt):Option AV:=CK C 0 (aP [.tmp 2]) [.sq EU,.bk 0 ⟨true,[1],[]⟩,.sq EY] tJ s
def MP:aC:=zd (r (O 6 [i (-1)]))
def rH:aC:=zd (s (O 11 [E (.next (T 10)),ex 0 11]) (s (cc 12 (w .skip) (ee 0)) (B 1 (s (O 13 [ex 1 11,ex 2 11,d 7 (m 13),d 8 (m 14)]) (s (O 15 [m 1,m 8,E (.dS (T 15) [T 16]),m 2,E (.eqv 5 [] false (T 17) (T 18))]) (c 19 (r (O 20 [m 7,d 6 (m 20)]))))))))
def KI:aC:=.loop ⟨true,[10,2,1],[]⟩ rH
def acf:WFn:=⟨3,[.tmp 6],zd (s (O 6 [i 0]) (s (s (O 9 [m 0,E (.range (T 9))]) (bk 0 KI ⟨true,[],[]⟩)) MP))⟩
@[simp] theorem alh:ZL KI rH ⟨true,[10,2,1],[]⟩:=bC rfl
noncomputable abbrev wM (C:aG) (s:WSt):Option AV:=CK C 0 (aP [.tmp 6]) [.sq KI,.bk 0 ⟨true,[],[]⟩,.sq MP] rH s
def aeG:WFn:=⟨1,[.tmp 2],zd (s (O 2 [ff]) (r (O 3 [m 0,E (.build [.int .u8 0,.str [],.str [],.ro 2 [] true,.str [],.ro 6 [] true] [(0,1,.c (.int .u8 2)),(4,1,T 3)]),ca 439 [4],eqi 5 0,d 2 (m 6)])))⟩
def ado:WFn:=⟨1,[.tmp 2],zd (s (O 2 [ff]) (r (O 3 [m 0,ca 581 [3],nt 4,d 2 (m 5)])))⟩
def adV:WFn:=⟨1,[.tmp 2],zd (s (O 2 [ff]) (r (O 3 [m 0,E (.build [.int .u8 0,.str [],.str [],.ro 2 [] true,.str [],.ro 6 [] true] [(0,1,.c (.int .u8 1)),(1,1,T 3)]),ca 439 [4],eqi 5 0,d 2 (m 6)])))⟩
def ac9:WFn:=⟨4,[.cell 8 6 true],zd (s (O 4 [bx 0,bx 1,d 8 (E (.alloc [.int .u8 0,.str [],.str [],.ro 2 [] true,.str [],.ro 6 [] true]))]) (r (V 9 [f 1 5,l 1 9,m 2,h 4 4,f 3 5,l 1 13,ca 592 [12,14],m 3,ca 593 [16],E (.build [.int .u8 0,.str [],.str [],.ro 2 [] true,.str [],.ro 6 [] true] [(0,1,.c (.int .u8 1)),(1,1,T 10),(2,1,T 11),(3,1,T 15),(5,1,T 17)]),n (st 6 8 18)] [(1,6),(1,8)] ⟨false,[],[]⟩)))⟩
def acd:WFn:=⟨1,[.cell 2 6 true],zd (s (O 2 [E (.alloc [.int .u8 0,.str [],.str [],.ro 2 [] true,.str [],.ro 6 [] true])]) (r (O 3 [m 0,E (.build [.int .u8 0,.str [],.str [],.ro 2 [] true,.str [],.ro 6 [] true] [(0,1,.c (.int .u8 2)),(4,1,T 3)]),n (st 6 2 4)])))⟩
def zF:aC:=zd (B 1 (s (O 5 [m 4,sbi 5 1,d 4 (m 6)]) (s (O 7 [m 4,m 0,E (.bin .rem (T 8) (.c (.int .u64 10))),E (.dW (.c (.str [48,49,50,51,52,53,54,55,56,57])) (T 9)),E (.kD 20 1 (T 3) (T 7)),n (st 1 11 10)]) (s (O 12 [m 0,E (.bin .quo (T 12) (.c (.int .u64 10))),d 0 (m 13)]) (s (O 14 [m 0,E (.bin .eql (T 14) (.c (.int .u64 0)))]) (c 15 (r (O 16 [m 4,E (.gu 20 (T 3) (some (T 16)) none),E (.cvb (T 17)),d 2 (m 18)]))))))))
def JR:aC:=.loop ⟨true,[4,3,0],[]⟩ zF
def afb:WFn:=⟨1,[.tmp 2],zd (s (O 2 [E (.mv (.c (.str [])))]) (s (O 3 [E (.alloc (rep 20 (.int .u8 0)))]) (s (O 4 [i 20]) (bk 0 JR ⟨true,[2],[]⟩))))⟩
@[simp] theorem alk:ZL JR zF ⟨true,[4,3,0],[]⟩:=bC rfl
noncomputable abbrev Ey (C:aG) (s:WSt):Option AV:=CK C 0 (aP [.tmp 2]) [.sq JR,.bk 0 ⟨true,[2],[]⟩] zF s
def Lc:aC:=zd (r (O 2 [tt]))
def zZ:aC:=zd (s (O 11 [lt 10 9]) (s (cc 11 (w .skip) (ee 0)) (s (B 1 (s (O 12 [m 10,ix 3 8 10,h 3 13,d 4 (E (.alloc [.str [],.int .u8 0,.str []])),d 3 (m 12),n (st 3 4 14)]) (s (U 15 [f 0 4,l 1 15,ca 581 [16],nt 17,m 18,z 19 (f 1 4),z 19 (l 1 20),z 19 (E (.bin .gtr (T 21) (.c (.int .u8 3)))),po 19 22,m 23,z 24 (f 2 4),z 24 (l 1 25),z 24 (ca 579 [26]),z 24 (nt 27),po 24 28,m 29,z 30 (f 1 4),z 30 (l 1 31),z 30 (E (.bin .gtr (T 32) (.c (.int .u8 0)))),z 30 (m 33),y 34 (f 2 4),y 34 (l 1 35),y 34 (E (.bin .neq (T 36) (.c (.str [])))),z 30 (pa 34 37),po 30 38,m 39,z 40 (m 3),z 40 (gti 41 0),z 40 (m 42),y 43 (f 0 4),y 43 (l 1 44),y 43 (m 0),y 43 (m 3),y 43 (sbi 47 1),y 43 (ix 3 46 48),y 43 (f 0 49),y 43 (l 1 50),y 43 (le 45 51),z 40 (pa 43 52),po 40 53] [] [54,10,9,8,0]) (c 54 (r (O 2 [ff])))))) (O 55 [adi 10 1,d 10 (m 55)]))))
def JG:aC:=.loop ⟨true,[10,9,8,0],[]⟩ zZ
def aaV:WFn:=⟨1,[.tmp 2],zd (s (O 2 [ff]) (s (s (O 5 [m 0,ln 1 5,gti 6 8]) (c 7 (r (O 2 [ff])))) (s (s (O 8 [m 0,ln 1 8,i 0]) (bk 0 JG ⟨true,[],[]⟩)) Lc)))⟩
@[simp] theorem alX:ZL JG zZ ⟨true,[10,9,8,0],[]⟩:=bC rfl
noncomputable abbrev DY (C:aG) (s:WSt):Option AV:=CK C 0 (aP [.tmp 2]) [.sq JG,.bk 0 ⟨true,[],[]⟩,.sq Lc] zZ s
def lU:WFn:=⟨1,[.tmp 2],zd (s (O 1 [bx 0,ff]) (s (s (O 3 [f 0 1,l 1 3]) (B 0 (s (O 6 [E (.bin .eql (T 4) (.c (.int .u8 1))),d 5 (m 6)]) (cc 5 (r (Q 7 [f 1 1,l 1 7,ca 557 [8],m 9,y 10 (f 2 1),y 10 (l 1 11),y 10 (E (.bin .eql (T 12) (.c (.str [])))),y 10 (m 13),z 14 (f 2 1),z 14 (l 1 15),z 14 (ca 557 [16]),y 10 (po 14 17),pa 10 18,m 19,y 20 (f 3 1),y 20 (l 1 21),y 20 (ca 594 [22]),pa 20 23,m 24,y 25 (f 4 1),y 25 (l 1 26),y 25 (E (.bin .eql (T 27) (.c (.str [])))),pa 25 28,m 29,y 30 (f 5 1),y 30 (l 1 31),y 30 (ln 1 32),y 30 (lei 33 16),pa 30 34,d 2 (m 35)] [2])) (s (O 37 [E (.bin .eql (T 4) (.c (.int .u8 2))),d 36 (m 37)]) (cc 36 (r (Q 38 [f 4 1,l 1 38,ca 556 [39],m 40,y 41 (f 1 1),y 41 (l 1 42),y 41 (E (.bin .eql (T 43) (.c (.str [])))),pa 41 44,m 45,y 46 (f 2 1),y 46 (l 1 47),y 46 (E (.bin .eql (T 48) (.c (.str [])))),pa 46 49,m 50,y 51 (f 3 1),y 51 (l 1 52),y 51 (ln 1 53),y 51 (f 5 1),y 51 (l 1 55),y 51 (ln 1 56),y 51 (ad 54 57),y 51 (eqi 58 0),pa 51 59,d 2 (m 60)] [2])) (s (s (O 62 [E (.bin .eql (T 4) (.c (.int .u8 3))),d 61 (m 62)]) (cc 61 (w .skip) (O 63 [E (.bin .eql (T 4) (.c (.int .u8 4))),d 61 (m 63)]))) (cc 61 (r (Q 64 [f 4 1,l 1 64,E (.bin .eql (T 65) (.c (.str []))),m 66,y 67 (f 1 1),y 67 (l 1 68),y 67 (E (.bin .eql (T 69) (.c (.str [])))),pa 67 70,m 71,y 72 (f 2 1),y 72 (l 1 73),y 72 (E (.bin .eql (T 74) (.c (.str [])))),pa 72 75,m 76,y 77 (f 3 1),y 77 (l 1 78),y 77 (ln 1 79),y 77 (f 5 1),y 77 (l 1 81),y 77 (ln 1 82),y 77 (ad 80 83),y 77 (eqi 84 0),pa 77 85,d 2 (m 86)] [2])) (s (O 88 [E (.bin .eql (T 4) (.c (.int .u8 5))),d 87 (m 88)]) (c 87 (r (Q 89 [f 1 1,l 1 89,ca 557 [90],m 91,y 92 (f 3 1),y 92 (l 1 93),y 92 (ca 594 [94]),pa 92 95,m 96,y 97 (f 2 1),y 97 (l 1 98),y 97 (E (.bin .eql (T 99) (.c (.str [])))),pa 97 100,m 101,y 102 (f 4 1),y 102 (l 1 103),y 102 (E (.bin .eql (T 104) (.c (.str [])))),pa 102 105,m 106,y 107 (f 5 1),y 107 (l 1 108),y 107 (ln 1 109),y 107 (eqi 110 0),pa 107 111,d 2 (m 112)] [2])))))))))))) (r (O 2 [ff]))))⟩
def Ej:aC:=zd (r (O 44 [m 5,d 4 (m 44)]))
def vO:aC:=zd (s (O 14 [lt 13 12]) (s (cc 14 (w .skip) (ee 0)) (s (B 1 (s (O 15 [m 13,ix 3 11 13,h 3 16,d 7 (E (.alloc [.str [],.int .u8 0,.str []])),d 6 (m 15),n (st 3 7 17)]) (U 18 [m 5,m 6,f 0 7,l 1 20,f 2 7,l 1 22,f 0 2,f 2 24,l 1 25,f 0 2,f 0 27,l 1 28,ca 584 [29],f 0 2,f 3 31,l 1 32,ln 1 33,E (.cvt .u64 (T 34)),ca 584 [35],E (.build [.str [],.str [],.str [],.str []] [(0,1,T 23),(1,1,T 26),(2,1,T 30),(3,1,T 36)]),f 1 7,l 1 38,E (.xR 4 1 false (T 37) (T 39)),E (.build [.str [],.str []] [(0,1,T 21),(1,1,T 40)]),ix 2 18 19,n (st 2 42 41)] [(3,12),(5,12),(8,12),(12,15),(12,16),(3,18),(5,18),(8,18),(12,21),(18,21)] [13,12,11,5,2]))) (O 43 [adi 13 1,d 13 (m 43)]))))
def KW:aC:=.loop ⟨true,[13,12,11,5,2],[]⟩ vO
def aaH:WFn:=⟨2,[.tmp 4],zd (s (O 4 [d 2 (bx 0),E (.mv (.c (.ro 2 [] true)))]) (s (O 8 [m 1,ln 1 8,E (.qo [.str [],.str []] 32 (T 9) (T 9)),d 5 (m 10)]) (s (s (O 11 [m 1,ln 1 11,i 0]) (bk 0 KW ⟨true,[5],[]⟩)) Ej)))⟩
@[simp] theorem ale:ZL KW vO ⟨true,[13,12,11,5,2],[]⟩:=bC rfl
noncomputable abbrev DX (C:aG) (s:WSt):Option AV:=CK C 0 (aP [.tmp 4]) [.sq KW,.bk 0 ⟨true,[5],[]⟩,.sq Ej] vO s
def adN:WFn:=⟨1,[.tmp 2],zd (s (O 2 [E (.mv (.c (.ro 6 [] true)))]) (r (O 3 [m 0,m 0,ln 1 4,m 0,ln 1 6,E (.slice 6 (T 3) none (some (T 5)) (some (T 7))),d 2 (m 8)])))⟩
def ND:aC:=zd (r (O 2 [tt]))
def y9:aC:=zd (s (s (O 8 [m 3,m 0,ln 1 9,lt 8 10]) (cc 11 (w .skip) (ee 0))) (s (B 1 (s (O 14 [m 0,m 3,ix 3 14 15,h 3 16,d 4 (E (.alloc [.str [],.int .u8 0,.str []])),n (st 3 4 17)]) (s (U 18 [f 0 4,l 1 18,ca 557 [19],nt 20,m 21,z 22 (f 1 4),z 22 (l 1 23),z 22 (E (.bin .gtr (T 24) (.c (.int .u8 3)))),po 22 25,m 26,z 27 (f 2 4),z 27 (l 1 28),z 27 (ca 556 [29]),z 27 (nt 30),po 27 31,m 32,z 33 (f 1 4),z 33 (l 1 34),z 33 (E (.bin .neq (T 35) (.c (.int .u8 0)))),z 33 (m 36),y 37 (f 2 4),y 37 (l 1 38),y 37 (E (.bin .neq (T 39) (.c (.str [])))),z 33 (pa 37 40),po 33 41,m 42,z 43 (m 3),z 43 (gti 44 0),z 43 (m 45),y 46 (m 0),y 46 (m 3),y 46 (sbi 48 1),y 46 (ix 3 47 49),y 46 (f 0 50),y 46 (l 1 51),y 46 (f 0 4),y 46 (l 1 53),y 46 (ge 52 54),z 43 (pa 46 55),po 43 56] [] [57,3,0]) (c 57 (r (O 2 [ff])))))) (O 12 [m 3,adi 12 1,d 3 (m 13)])))
def Jz:aC:=.loop ⟨true,[3,0],[]⟩ y9
def YF:WFn:=⟨1,[.tmp 2],zd (s (O 2 [ff]) (s (s (O 5 [m 0,ln 1 5,gti 6 8]) (c 7 (r (O 2 [ff])))) (s (s (O 3 [i 0]) (bk 0 Jz ⟨true,[],[]⟩)) ND)))⟩
@[simp] theorem al2:ZL Jz y9 ⟨true,[3,0],[]⟩:=bC rfl
noncomputable abbrev EO (C:aG) (s:WSt):Option AV:=CK C 0 (aP [.tmp 2]) [.sq Jz,.bk 0 ⟨true,[],[]⟩,.sq ND] y9 s
def tree:qW:=(.node (.node (.node (.node (.node (.node (.node (.node .leaf 0 w0 .leaf) 86 w86 .leaf) 111 acU (.node .leaf 115 JQ .leaf)) 120 Ue (.node (.node .leaf 121 WY .leaf) 122 Wj (.node .leaf 123 Xb .leaf))) 124 aeE (.node (.node (.node .leaf 125 V8 .leaf) 126 aeF (.node .leaf 127 Ru .leaf)) 128 akf (.node (.node .leaf 130 adT .leaf) 140 acO (.node .leaf 149 acn .leaf)))) 151 aeD (.node (.node (.node (.node (.node .leaf 223 XC .leaf) 225 aer .leaf) 227 acH (.node .leaf 230 XU .leaf)) 231 Y9 (.node (.node .leaf 232 ab4 .leaf) 238 acS (.node .leaf 240 ae7 .leaf))) 246 abu (.node (.node (.node .leaf 247 afe .leaf) 248 MX (.node .leaf 249 ae6 .leaf)) 250 WU (.node (.node .leaf 251 Ze .leaf) 252 Ju (.node .leaf 253 aeX .leaf))))) 254 ade (.node (.node (.node (.node (.node (.node .leaf 255 ZI .leaf) 256 acN .leaf) 257 afu (.node .leaf 258 TJ .leaf)) 259 adA (.node (.node .leaf 260 RI .leaf) 261 adM (.node .leaf 262 acZ .leaf))) 263 XT (.node (.node (.node .leaf 264 aee .leaf) 265 Zg (.node .leaf 266 akJ .leaf)) 270 afm (.node (.node .leaf 271 Uc .leaf) 272 X0 (.node .leaf 282 aeY .leaf)))) 304 acT (.node (.node (.node (.node .leaf 327 aac .leaf) 398 Tf (.node .leaf 399 aeV .leaf)) 400 ZF (.node (.node .leaf 402 adn .leaf) 404 adp (.node .leaf 405 afi .leaf))) 407 acA (.node (.node (.node .leaf 408 ZX .leaf) 411 ab9 (.node .leaf 412 afc .leaf)) 413 Ti (.node (.node .leaf 414 abr .leaf) 415 H8 (.node .leaf 416 aef .leaf)))))) 417 ab8 (.node (.node (.node (.node (.node (.node (.node .leaf 418 aft .leaf) 422 Hf .leaf) 423 acB (.node .leaf 424 Ol .leaf)) 425 H7 (.node (.node .leaf 433 Fj .leaf) 434 xQ (.node .leaf 439 Yq .leaf))) 441 Yi (.node (.node (.node .leaf 442 abm .leaf) 494 ZT (.node .leaf 495 aa3 .leaf)) 496 Ur (.node (.node .leaf 497 aaG .leaf) 498 YX (.node .leaf 499 aff .leaf)))) 500 WA (.node (.node (.node (.node .leaf 501 Hz .leaf) 502 aao (.node .leaf 503 acL .leaf)) 504 ach (.node (.node .leaf 505 XD .leaf) 506 Lu (.node .leaf 507 aey .leaf))) 510 abb (.node (.node (.node .leaf 511 WM .leaf) 512 TP (.node .leaf 513 PL .leaf)) 516 abx (.node (.node .leaf 517 Wp .leaf) 518 ZY (.node .leaf 519 Z5 .leaf))))) 520 XJ (.node (.node (.node (.node (.node (.node .leaf 543 adx .leaf) 544 adG .leaf) 545 XR (.node .leaf 546 RN .leaf)) 547 adY (.node (.node .leaf 548 Rj .leaf) 549 iP (.node .leaf 550 Xy .leaf))) 551 Zo (.node (.node (.node .leaf 552 Zj .leaf) 553 aeu (.node .leaf 554 aas .leaf)) 556 YJ (.node (.node .leaf 557 acy .leaf) 558 YU (.node .leaf 559 ad8 .leaf)))) 560 Sz (.node (.node (.node (.node .leaf 561 afl .leaf) 562 adh (.node .leaf 563 xU .leaf)) 578 acf (.node (.node .leaf 579 aeG .leaf) 580 ado (.node .leaf 581 adV .leaf))) 582 ac9 (.node (.node (.node .leaf 583 acd .leaf) 584 afb (.node .leaf 585 aaV .leaf)) 586 lU (.node (.node .leaf 592 aaH .leaf) 593 adN (.node .leaf 594 YF .leaf)))))))
def ids:List (Nat × Nat):=[(0,2),(86,8),(111,49),(115,53),(120,58),(121,59),(122,60),(123,61),(124,62),(125,63),(126,64),(127,65),(128,66),(130,10),(140,69),(149,231),(151,232),(223,88),(225,126),(227,128),(230,131),(231,132),(232,133),(238,139),(240,77),(246,101),(247,145),(248,146),(249,147),(250,148),(251,116),(252,149),(253,108),(254,150),(255,151),(256,32),(257,152),(258,153),(259,154),(260,155),(261,156),(262,157),(263,158),(264,159),(265,160),(266,161),(270,75),(271,76),(272,230),(282,167),(304,286),(327,40),(398,207),(399,208),(400,221),(402,217),(404,223),(405,224),(407,220),(408,226),(411,228),(412,229),(413,233),(414,234),(415,235),(416,236),(417,237),(418,238),(422,188),(423,189),(424,190),(425,191),(433,245),(434,246),(439,251),(441,253),(442,254),(494,268),(495,269),(496,270),(497,271),(498,272),(499,273),(500,274),(501,275),(502,283),(503,284),(504,282),(505,285),(506,287),(507,288),(510,258),(511,259),(512,260),(513,261),(516,291),(517,292),(518,293),(519,294),(520,295),(543,303),(544,304),(545,305),(546,306),(547,307),(548,309),(549,310),(550,311),(551,312),(552,313),(553,314),(554,315),(556,299),(557,300),(558,301),(559,302),(560,316),(561,317),(562,318),(563,319),(578,320),(579,321),(580,322),(581,323),(582,324),(583,325),(584,326),(585,327),(586,328),(592,329),(593,330),(594,331)]
def alts:List (Nat × Nat × Nat):=[]
end P
end
section
namespace Go.Pw
open Go Go.Pav
@[simp] def eI (x:Int):List AV:=[.int .i64 x]
@[simp] def eU8 (x:Int):List AV:=[.int .u8 x]
@[simp] def aqj (x:Int):List AV:=[.int .u64 x]
@[simp] def eS (x:List UInt8):List AV:=[.str x]
@[simp] def eB (x:Bool):List AV:=[.bool x]
attribute [simp] Int.natCast_inj
attribute [-simp] List.getElem_cons_drop
section
variable (a n:Nat)
@[simp] theorem afF:((no_index (OfNat.ofNat a):Int) < (n:Int))=((no_index (OfNat.ofNat a):Nat) < n):=propext (Int.ofNat_lt (n:=(OfNat.ofNat a:Nat)) (m:=n))
@[simp] theorem afI:((n:Int) < (no_index (OfNat.ofNat a):Int))=(n < (no_index (OfNat.ofNat a):Nat)):=propext (Int.ofNat_lt (m:=(OfNat.ofNat a:Nat)) (n:=n))
@[simp] theorem afA:((no_index (OfNat.ofNat a):Int)≤(n:Int))=((no_index (OfNat.ofNat a):Nat)≤n):=propext (Int.ofNat_le (m:=(OfNat.ofNat a:Nat)) (n:=n))
@[simp] theorem afX:((n:Int)≤(no_index (OfNat.ofNat a):Int))=(n≤(no_index (OfNat.ofNat a):Nat)):=propext (Int.ofNat_le (n:=(OfNat.ofNat a:Nat)) (m:=n))
end
theorem Fp {α β:Type} {f:α→β} {acc:List α} {n i:Nat} {z:β} (h:acc.length=i):(List.map f acc++List.replicate (n+1) z)[i]?=some z:=by
 rw [List.getElem?_append_right (by simp;omega)]
 simp [h]
theorem F6 {α β:Type} {f:α→β} {acc:List α} {n i:Nat} {z v:β} (h:acc.length=i):(List.map f acc++List.replicate (n+1) z).set i v=List.map f acc++v::List.replicate n z:=by
 rw [List.set_append,if_neg (by simp;omega)]
 simp [h,List.replicate_succ]
@[simp] theorem anj (a b:Nat):(a+(b+1)≤a)=False:=eq_false (by omega)
theorem drop_cons {α:Type} {l:List α} {i:Nat} (h:i < l.length):l.drop i=l[i]::l.drop (i+1):=List.drop_eq_getElem_cons h
theorem Iz {α:Type} {g:α→Option α}:∀ {l:List α},(∀ x ∈ l,g x=some x)→bn g l=some l
 | [],_=>rfl
 | a::l,h=>by simp only [bn,h a List.mem_cons_self,ob,Iz fun x hx=>h x (List.mem_cons_of_mem _ hx),om]
@[simp] theorem ajD (h:aJ) (n:Nat) (k:IntKind) (l:List Int):bn (bM h (n+1)) (List.map (AV.int k) l)=some (List.map (AV.int k) l) :=
 Iz fun x hx=>by obtain ⟨y,_,rfl⟩:=List.mem_map.1 hx;rfl
@[simp] theorem aga (k:IntKind) (l:List Int):l.all (isC ∘ AV.int k)=true:=by simp [isC]
@[simp] theorem aco (l:List Bool):l.all (isC ∘ AV.bool)=true:=by simp [isC]
attribute [simp] qp
@[simp] theorem alr:((fun x:AV=>[x]) ∘ AV.int .i64)=eI:=rfl
@[simp] theorem acW (a b:Nat):(a+b≤a)=(b=0):=propext (by omega)
theorem isE {α:Type} {l:List α} (h:¬ l=[]):l.isEmpty=false:=by cases l <;> simp_all
end Go.Pw
end
section
namespace Go.D
open Go Go.Pav Go.Pw P
attribute [-simp] List.getElem_cons_drop
variable {C:aG}
def inN (b:UInt8):Bool:=decide (97≤b.toNat∧b.toNat≤122∨48≤b.toNat∧b.toNat≤57)
def inT (b:UInt8):Bool:=decide (32≤b.toNat∧b.toNat≤126)
def isName (s:List UInt8):Bool:=decide (1≤s.length)&&decide (s.length≤16)&&s.all inN
def isText (s:List UInt8):Bool:=decide (s.length≤64)&&s.all inT
def ppB (f:Nat):Bool:=f == 502||f == 494||f == 497||f == 434||f == 518||f == 549||f == 402||f == 411||f == 446||f == 466||f == 429||f == 514||f == 374||f == 480||(decide (1000≤f)&&decide (f < 2000))
def aB (f:Nat):Bool:=f == 217||f == 459||decide (2000≤f)
structure oG (C:aG):Prop where
 aha:C.fns.get 561=some afl
 ahq:C.fns.get 517=some Wp
 ahb:C.fns.get 557=some acy
 aie:C.fns.get 556=some YJ
 ahx:C.fns.get 511=some WM
 agH:C.fns.get 510=some abb
 ad9:C.fns.get 560=some Sz
 aeK:C.fns.get 545=some XR
 ahs:C.fns.get 578=some acf
 ahn:C.fns.get 543=some adx
 aiY:C.fns.get 495=some aa3
 ag3:C.fns.get 516=some abx
 aiC:C.fns.get 500=some WA
 inl:C.inl=aB
 pp:C.pp=ppB
theorem XB (H:oG C) (b:UInt8):FnW C 561 [.int .u8 b.toNat]=some (.bool (inN b)):=by
 rw [aF H.aha rfl]
 unfold inN
 by_cases c1:97≤b.toNat <;> by_cases c2:b.toNat≤122 <;> by_cases c3:48≤b.toNat <;> by_cases c4:b.toNat≤57 <;> simp [afl,c1,c2,c3,c4]
theorem Ug (H:oG C) (s:List UInt8) (hl:s.length≤16):∀ n i,n+i=s.length →
 DZ C ⟨[(14,.int .i64 i),(13,.int .i64 s.length),(0,.str s)],[],0⟩=some (.bool ((s.drop i).all inN)):=by
 intro n
 induction n with
 | zero =>
  intro i hi
  simp only [DZ];rw [aj zX.eq_1]
  have h1:s.drop i=[]:=List.drop_eq_nil_of_le (by omega)
  have h3:¬ i < s.length:=by omega
  simp [aj MW.eq_1,h1,h3]
 | succ n ih =>
  intro i hi
  have h1:i < s.length:=by omega
  have:=ih (i+1) (by omega)
  have hb:=XB H s[i]
  simp only [DZ] at this ⊢;rw [aj zX.eq_1]
  rw [drop_cons h1]
  simp at this
  by_cases c:inN s[i]=true
  · simp (disch:=omega) [h1,aI,hb,c,H.inl,aB,H.pp,ppB,this]
  · simp (disch:=omega) [h1,aI,hb,c,H.inl,aB,H.pp,ppB]
theorem named_ok (H:oG C) (s:List UInt8):FnW C 517 [.str s]=some (.bool (isName s)):=by
 rw [aF H.ahq rfl]
 unfold isName
 by_cases c1:1≤s.length
 · by_cases c2:s.length≤16
   · have:=Ug H s c2 s.length 0 (by simp)
     simp only [DZ] at this
     simp at this
     have c3:¬ ((s.length:Int) < 1):=by omega
     have c4:¬ (16 < (s.length:Int)):=by omega
     simp [Wp,c1,c2,c3,c4,this]
   · have c3:¬ ((s.length:Int) < 1):=by omega
     have c4:(16 < (s.length:Int)):=by omega
     simp [Wp,c1,c2,c3,c4]
 · have c3:((s.length:Int) < 1):=by omega
   simp [Wp,c1,c3]
theorem Cj (b:UInt8):(inN b=true∧(97≤b.toNat∧b.toNat≤122∨¬ 97≤b.toNat∧48≤b.toNat∧b.toNat≤57))∨(inN b=false∧(¬ 97≤b.toNat∧(¬ 48≤b.toNat∨¬ b.toNat≤57)∨¬ b.toNat≤122∧¬ b.toNat≤57)):=by
 unfold inN
 by_cases c:97≤b.toNat∧b.toNat≤122∨48≤b.toNat∧b.toNat≤57
 · left;exact ⟨decide_eq_true c,by omega⟩
 · right;exact ⟨decide_eq_false c,by omega⟩
theorem TD (H:oG C) (s:List UInt8) (hl:s.length≤16∨True):∀ n i,n+i=min s.length 17 →
 ES C ⟨[(3,.int .i64 i),(0,.str s)],[],0⟩=some (.bool (((s.take 17).drop i).all inN&&decide (1≤s.length)&&decide (s.length≤16))):=by
 intro n
 induction n with
 | zero =>
  intro i hi
  simp only [ES];rw [aj AZ.eq_1]
  have h1:(s.take 17).drop i=[]:=List.drop_eq_nil_of_le (by simp;omega)
  by_cases h3:i < s.length
  · have h4:¬ i < 17:=by omega
    have h4':¬ (i:Int) < 17:=by omega
    have h5:¬ s.length≤16:=by omega
    have h6:¬ (s.length:Int)≤16:=by omega
    have h7:1≤(s.length:Int):=by omega
    simp [aj wR.eq_1,h1,h3,h4,h4',h5,h6,h7]
  · by_cases h5:s.length≤16 <;> by_cases h6:1≤s.length
    · have h7:(s.length:Int)≤16:=by omega
      have h8:1≤(s.length:Int):=by omega
      simp [aj wR.eq_1,h1,h3,h5,h6,h7,h8]
    · have h7:(s.length:Int)≤16:=by omega
      have h8:¬ 1≤(s.length:Int):=by omega
      simp [aj wR.eq_1,h1,h3,h5,h6,h7,h8]
    · have h7:¬ (s.length:Int)≤16:=by omega
      have h8:1≤(s.length:Int):=by omega
      simp [aj wR.eq_1,h1,h3,h5,h6,h7,h8]
    · omega
 | succ n ih =>
  intro i hi
  have h1:i < s.length:=by omega
  have h2:(i:Int) < 17:=by omega
  have:=ih (i+1) (by omega)
  have hd:(s.take 17).drop i=s[i]::(s.take 17).drop (i+1):=by
   rw [drop_cons (show i < (s.take 17).length by simp;omega)];simp
  rw [hd]
  simp only [ES] at this ⊢;rw [aj AZ.eq_1]
  simp at this
  have key:=Cj s[i]
  by_cases q1:97≤s[i].toNat <;> by_cases q2:122 < s[i].toNat <;> by_cases q3:48≤s[i].toNat <;> by_cases q4:57 < s[i].toNat <;> first
   | (exfalso;omega)
   | (
    have c:inN s[i]=true:=by rcases key with ⟨c,_⟩ | ⟨_,q⟩ <;> first | exact c | (exfalso;omega)
    simp (disch:=omega) [h1,h2,aI,c,q1,q2,q3,q4,this];done)
   | (
    have c:inN s[i]=false:=by rcases key with ⟨_,q⟩ | ⟨c,_⟩ <;> first | exact c | (exfalso;omega)
    simp (disch:=omega) [h1,h2,aI,c,q1,q2,q3,q4];done)
theorem oh (H:oG C) (s:List UInt8):FnW C 557 [.str s]=some (.bool (isName s)):=by
 rw [aF H.ahb rfl]
 have:=TD H s (.inr trivial) (min s.length 17) 0 (by simp)
 simp only [ES] at this
 simp only [List.drop_zero] at this
 have e:((s.take 17).all inN&&decide (1≤s.length)&&decide (s.length≤16))=isName s:=by
  unfold isName
  by_cases c:s.length≤16
  · rw [List.take_of_length_le (by omega)];simp [c];rw [Bool.and_comm]
  · simp [c]
 rw [e] at this
 simp at this
 simp [acy,this]
theorem WQ (H:oG C) (s:List UInt8) (hl:s.length≤64):∀ n i,n+i=s.length →
 DV C ⟨[(3,.int .i64 i),(0,.str s)],[],0⟩=some (.bool ((s.drop i).all inT)):=by
 intro n
 induction n with
 | zero =>
  intro i hi
  simp only [DV];rw [aj AP.eq_1]
  have h1:s.drop i=[]:=List.drop_eq_nil_of_le (by omega)
  have h3:¬ i < s.length:=by omega
  simp [aj J6.eq_1,h1,h3]
 | succ n ih =>
  intro i hi
  have h1:i < s.length:=by omega
  have:=ih (i+1) (by omega)
  simp only [DV] at this ⊢;rw [aj AP.eq_1]
  rw [drop_cons h1]
  simp at this
  by_cases c1:32≤s[i].toNat <;> by_cases c2:126 < s[i].toNat
  · have c:inT s[i]=false:=decide_eq_false (fun q=>by omega)
    simp (disch:=omega) [h1,aI,c,c1,c2]
  · have c:inT s[i]=true:=decide_eq_true ⟨c1,by omega⟩
    simp (disch:=omega) [h1,aI,c,c1,c2,this]
  · omega
  · have c:inT s[i]=false:=decide_eq_false (fun q=>c1 q.1)
    simp (disch:=omega) [h1,aI,c,c1,c2]
theorem Ai (H:oG C) (s:List UInt8):FnW C 556 [.str s]=some (.bool (isText s)):=by
 rw [aF H.aie rfl]
 unfold isText
 by_cases c2:s.length≤64
 · have:=WQ H s c2 s.length 0 (by simp)
   simp only [DV] at this
   simp at this
   have c4:¬ (64 < (s.length:Int)):=by omega
   simp [YJ,c2,c4,this]
 · have c4:(64 < (s.length:Int)):=by omega
   simp [YJ,c2,c4]
theorem TT (H:oG C) (s:List UInt8) (hl:s.length≤64):∀ n i,n+i=s.length →
 EI C ⟨[(3,.int .i64 i),(0,.str s)],[],0⟩=some (.int .i64 (if (s.drop i).all inT=true then 1 else 0)):=by
 intro n
 induction n with
 | zero =>
  intro i hi
  simp only [EI];rw [aj Ah.eq_1]
  have h1:s.drop i=[]:=List.drop_eq_nil_of_le (by omega)
  have h3:¬ i < s.length:=by omega
  simp [aj Nj.eq_1,h1,h3]
 | succ n ih =>
  intro i hi
  have h1:i < s.length:=by omega
  have:=ih (i+1) (by omega)
  simp only [EI] at this ⊢;rw [aj Ah.eq_1]
  rw [drop_cons h1]
  generalize hX:((s.drop (i+1)).all inT)=X at *
  simp at this
  rw [List.all_cons,hX]
  by_cases c1:32≤s[i].toNat <;> by_cases c2:126 < s[i].toNat
  · have c:inT s[i]=false:=decide_eq_false (fun q=>by omega)
    simp (disch:=omega) [h1,aI,c,c1,c2]
  · have c:inT s[i]=true:=decide_eq_true ⟨c1,by omega⟩
    simp (disch:=omega) [h1,aI,c,c1,c2,this]
  · omega
  · have c:inT s[i]=false:=decide_eq_false (fun q=>c1 q.1)
    simp (disch:=omega) [h1,aI,c,c1,c2]
theorem Yj (H:oG C) (s:List UInt8):FnW C 510 [.str s]=some (.int .i64 (if isText s=true then 1 else 0)):=by
 rw [aF H.agH rfl]
 unfold isText
 by_cases c2:s.length≤64
 · have:=TT H s c2 s.length 0 (by simp)
   simp only [EI] at this
   simp only [List.drop_zero] at this
   generalize hX:s.all inT=X at *
   simp at this
   have c4:¬ (64 < (s.length:Int)):=by omega
   simp [abb,c2,c4,this]
 · have c4:(64 < (s.length:Int)):=by omega
   simp [abb,c2,c4]
structure Pred (C:aG) (g:Nat) (Q:UInt8→Bool):Prop where
 asc:∀ b:UInt8,b.toNat < 128→FnW C g [.int .i32 b.toNat]=some (.bool (!Q b))
 high:∀ r:Nat,128≤r→FnW C g [.int .i32 r]=some (.bool true)
 qh:∀ b:UInt8,128≤b.toNat→Q b=false
 ne:ppB g=false
 ni:aB g=false
theorem XG (s:List UInt8) (pos:Nat) (h:pos < s.length) (ha:s[pos].toNat < 128):Utf8.decode ⟨⟨s⟩⟩ pos=(s[pos].toNat,1):=decode_ascii ⟨⟨s⟩⟩ pos h ha
theorem aah (s:List UInt8) (pos:Nat) (h:pos < s.length) (ha:128≤s[pos].toNat):128≤(Utf8.decode ⟨⟨s⟩⟩ pos).1∧1≤(Utf8.decode ⟨⟨s⟩⟩ pos).2:=decode_high ⟨⟨s⟩⟩ pos h ha
theorem SV (H:oG C) {g:Nat} {Q:UInt8→Bool} (G:Pred C g Q) (s:List UInt8):∀ n pos,n+pos=s.length →
 ∃ v:Int,wM C ⟨[(10,.ptr 0 0 0),(2,.bool true),(1,.fn g [])],[(0,.iter s pos)],1⟩=some (.int .i64 v)∧decide (v < 0)=(s.drop pos).all Q:=by
 intro n
 induction n with
 | zero =>
  intro pos hp
  simp only [wM];rw [aj rH.eq_1]
  have h1:s.drop pos=[]:=List.drop_eq_nil_of_le (by omega)
  have h3:¬ pos < s.length:=by omega
  exact ⟨-1,by simp [aj MP.eq_1,h3],by simp [h1]⟩
 | succ n ih =>
  intro pos hp
  have h1:pos < s.length:=by omega
  have hN:=G.ne;have hI:=G.ni
  rw [drop_cons h1]
  by_cases ha:s[pos].toNat < 128
  · have hd:=XG s pos h1 ha
    have hb:=G.asc s[pos] ha
    by_cases c:Q s[pos]=true
    · obtain ⟨v,hv,hq⟩:=ih (pos+1) (by omega)
      refine ⟨v,?_,by simp [hq,c]⟩
      simp only [wM] at hv ⊢;rw [aj rH.eq_1]
      simp (disch:=omega) [h1,hd,hb,c,H.inl,hI,H.pp,hN,hv]
    · refine ⟨pos,?_,by simp [c]⟩
      simp only [wM];rw [aj rH.eq_1]
      simp (disch:=omega) [h1,hd,hb,c,H.inl,hI,H.pp,hN]
  · have hd:=aah s pos h1 (by omega)
    have hb:=G.high (Utf8.decode ⟨⟨s⟩⟩ pos).1 hd.1
    have hq:=G.qh s[pos] (by omega)
    refine ⟨pos,?_,by simp [hq]⟩
    simp only [wM];rw [aj rH.eq_1]
    obtain ⟨D,hD⟩:∃ D,Utf8.decode ⟨⟨s⟩⟩ pos=D:=⟨_,rfl⟩
    rw [hD] at hb
    simp (disch:=omega) [h1,hD,hb,H.inl,hI,H.pp,hN]
theorem Am (H:oG C) {g:Nat} {Q:UInt8→Bool} (G:Pred C g Q) (s:List UInt8) :
 ∃ v:Int,FnW C 543 [.str s,.fn g []]=some (.int .i64 v)∧decide (v < 0)=s.all Q:=by
 obtain ⟨v,h,q⟩:=SV H G s s.length 0 (by simp)
 refine ⟨v,?_,q⟩
 have h2:FnW C 578 [.str s,.fn g [],.bool true]=some (.int .i64 v):=by
  rw [aF H.ahs rfl]
  simp only [wM] at h
  simp [acf,h]
 rw [aF H.ahn rfl]
 simp [adx,H.inl,aB,H.pp,ppB,h2]
theorem CO (H:oG C) {g:Nat} {Q:UInt8→Bool} (G:Pred C g Q) (s:List UInt8) :
 FnW C 495 [.str s,.fn g []]=some (.bool (!s.all Q)):=by
 obtain ⟨v,h,q⟩:=Am H G s
 rw [aF H.aiY rfl,← q]
 by_cases c:v < 0
 · have c':¬ 0≤v:=by omega
   simp [aa3,H.inl,aB,H.pp,ppB,h,c,c']
 · have c':0≤v:=by omega
   simp [aa3,H.inl,aB,H.pp,ppB,h,c,c']
theorem aed (H:oG C):Pred C 560 inT where
 asc b hb:=by
  rw [aF H.ad9 rfl]
  by_cases c1:32≤b.toNat <;> by_cases c2:126 < b.toNat
  · have c:inT b=false:=decide_eq_false (fun q=>by omega)
    simp [Sz,c,c1,c2]
  · have c:inT b=true:=decide_eq_true ⟨c1,by omega⟩
    simp [Sz,c,c1,c2]
  · omega
  · have c:inT b=false:=decide_eq_false (fun q=>c1 q.1)
    simp [Sz,c,c1,c2]
 high r hr:=by
  rw [aF H.ad9 rfl]
  have h1:32≤r:=by omega
  have h2:126 < r:=by omega
  simp [Sz,h1,h2]
 qh b hb:=decide_eq_false (fun q=>by omega)
 ne:=by rfl
 ni:=by rfl
theorem afr (H:oG C):Pred C 545 inN where
 asc b hb:=by
  rw [aF H.aeK rfl]
  have key:=Cj b
  by_cases q1:97≤b.toNat <;> by_cases q2:122 < b.toNat <;> by_cases q3:48≤b.toNat <;> by_cases q4:57 < b.toNat <;> first
   | (exfalso;omega)
   | (
    have c:inN b=true:=by rcases key with ⟨c,_⟩ | ⟨_,q⟩ <;> first | exact c | (exfalso;omega)
    simp [XR,c,q1,q2,q3,q4];done)
   | (
    have c:inN b=false:=by rcases key with ⟨_,q⟩ | ⟨c,_⟩ <;> first | exact c | (exfalso;omega)
    simp [XR,c,q1,q2,q3,q4];done)
 high r hr:=by
  rw [aF H.aeK rfl]
  have h1:97≤r:=by omega
  have h2:122 < r:=by omega
  have h3:48≤r:=by omega
  have h4:57 < r:=by omega
  simp [XR,h1,h2,h3,h4]
 qh b hb:=by unfold inN;exact decide_eq_false (fun q=>by omega)
 ne:=by rfl
 ni:=by rfl
theorem UA (H:oG C) (s:List UInt8):FnW C 516 [.str s]=some (.bool (isText s)):=by
 obtain ⟨v,h,q⟩:=Am H (aed H) s
 rw [aF H.ag3 rfl]
 unfold isText
 rw [← q]
 by_cases c2:s.length≤64
 · have c4:(s.length:Int)≤64:=by omega
   simp [abx,c2,c4,H.inl,aB,H.pp,ppB,h]
 · have c4:¬ ((s.length:Int)≤64):=by omega
   simp [abx,c2,c4]
theorem YK (H:oG C) (s:List UInt8):FnW C 500 [.str s]=some (.bool (isName s)):=by
 have h:=CO H (afr H) s
 rw [aF H.aiC rfl]
 unfold isName
 by_cases c1:s=[]
 · subst c1;simp [WA]
 · have c3:1≤s.length:=List.length_pos_iff.2 c1
   by_cases c2:s.length≤16
   · have c4:(s.length:Int)≤16:=by omega
     simp [WA,c1,c2,c3,c4,H.inl,aB,H.pp,ppB,h]
   · have c4:¬ ((s.length:Int)≤16):=by omega
     simp [WA,c1,c2,c4]
end Go.D
end
section
namespace Go.Pav
open Go
def IW (ids:List (Nat × Nat)) (f:FuncId):Option Nat :=
 match ids with
 | []=>none
 | (g,k)::r=>if k=f then some g else IW r f
def Di (ids:List (Nat × Nat)) (g:Nat):FuncId :=
 match get ids g with
 | some k=>k
 | none=>0
theorem V9:∀ {ids:List (Nat × Nat)} {f:FuncId} {g:Nat},IW ids f=some g→(g,f) ∈ ids:=by
 intro ids
 induction ids with
 | nil=>intro f g h;simp [IW] at h
 | cons x r ih =>
  intro f g h
  obtain ⟨a,k⟩:=x
  simp only [IW] at h
  split at h
  · rename_i hk
    cases h;subst hk;exact List.mem_cons_self
  · exact List.mem_cons_of_mem _ (ih h)
theorem aea {ids:List (Nat × Nat)} (hc:(ids.all fun x=>decide (Di ids x.1=x.2))=true):∀ f g,IW ids f=some g→Di ids g=f:=by
 intro f g h
 have:=List.all_eq_true.1 hc _ (V9 h)
 simpa using this
def vN (p:Nat→CFn→Prop):Tree→Prop
 | .leaf=>True
 | .node l k f r=>vN p l∧p k f∧vN p r
theorem vN.get {p:Nat→CFn→Prop}:∀ {t:Tree},vN p t→∀ {g:Nat} {cf:CFn},t.get g=some cf→p g cf:=by
 intro t
 induction t with
 | leaf=>intro _ g cf h;simp [Tree.get] at h
 | node l k f r ihl ihr =>
  intro ⟨h1,h2,h3⟩ g cf h
  simp only [Tree.get] at h
  split at h
  · rename_i hk;cases h;subst hk;exact h2
  · split at h
    · exact ihl h1 h
    · exact ihr h3 h
def PO:List (Nat × FuncId × Nat)→Nat→FuncId→Option Nat
 | [],_,_=>none
 | (g,f,k)::r,g',f'=>if g=g'∧f=f' then some k else PO r g' f'
theorem XH:∀ {alts:List (Nat × FuncId × Nat)} {g:Nat} {f:FuncId} {k:Nat},PO alts g f=some k→(g,f,k) ∈ alts:=by
 intro alts
 induction alts with
 | nil=>intro g f k h;simp [PO] at h
 | cons x r ih =>
  intro g f k h
  obtain ⟨a,b,c⟩:=x
  simp only [PO] at h
  split at h
  · rename_i hk
    obtain ⟨rfl,rfl⟩:=hk
    cases h;exact List.mem_cons_self
  · exact List.mem_cons_of_mem _ (ih h)
def ad1 (ids:List (Nat × Nat)) (alts:List (Nat × FuncId × Nat)) (g:Nat) (f:FuncId):Option Nat :=
 match PO alts g f with
 | some k=>some k
 | none=>IW ids f
def aW (P:Program) (ids:List (Nat × Nat)) (alts:List (Nat × FuncId × Nat)) (g:Nat) (cf:CFn):Prop:=(∃ fn,P.funcs[Di ids g]?=some fn∧(cFn P (ad1 ids alts g) fn).map Fg=some (Fg cf))∨abP P (Di ids) g cf
theorem linked {P:Program} {ids:List (Nat × Nat)} {alts:List (Nat × FuncId × Nat)} {C:Prog} (hc:(ids.all fun x=>decide (Di ids x.1=x.2))=true) (ha:(alts.all fun x=>decide (Di ids x.2.2=x.2.1))=true)
 (ht:vN (aW P ids alts) C.fns) (hm:P.follows .mixedOrders=true):Linked P (ad1 ids alts) (Di ids) C:=by
 refine ⟨fun g f k h=>?_,fun _ _ h=>ht.get h,hm⟩
 unfold ad1 at h
 split at h
 · rename_i k' hk
   cases h
   simpa using List.all_eq_true.1 ha _ (XH hk)
 · exact aea hc _ _ h
end Go.Pav
end
section
set_option maxRecDepth 100000
namespace P
open Go Go.Pav Go.Pw Go.Proofs
theorem l0:aW Tryz.prog ids alts 0 (aV w0):=.inl ⟨Tryz.f2,Tryz.func2,by kernel_rfl⟩
theorem l86:aW Tryz.prog ids alts 86 (aV w86):=.inl ⟨Tryz.f8,Tryz.func8,by kernel_rfl⟩
theorem an4:aW Tryz.prog ids alts 111 (aV acU):=.inl ⟨Tryz.f49,Tryz.func49,by kernel_rfl⟩
theorem amY:aW Tryz.prog ids alts 115 (aV JQ):=.inl ⟨Tryz.f53,Tryz.func53,by kernel_rfl⟩
theorem ao0:aW Tryz.prog ids alts 120 (aV Ue):=.inl ⟨Tryz.f58,Tryz.func58,by kernel_rfl⟩
theorem aoe:aW Tryz.prog ids alts 121 (aV WY):=.inl ⟨Tryz.f59,Tryz.func59,by kernel_rfl⟩
theorem aoX:aW Tryz.prog ids alts 122 (aV Wj):=.inl ⟨Tryz.f60,Tryz.func60,by kernel_rfl⟩
theorem aoJ:aW Tryz.prog ids alts 123 (aV Xb):=.inl ⟨Tryz.f61,Tryz.func61,by kernel_rfl⟩
theorem aol:aW Tryz.prog ids alts 124 (aV aeE):=.inl ⟨Tryz.f62,Tryz.func62,by kernel_rfl⟩
theorem apK:aW Tryz.prog ids alts 125 (aV V8):=.inl ⟨Tryz.f63,Tryz.func63,by kernel_rfl⟩
theorem amN:aW Tryz.prog ids alts 126 (aV aeF):=.inl ⟨Tryz.f64,Tryz.func64,by kernel_rfl⟩
theorem aps:aW Tryz.prog ids alts 127 (aV Ru):=.inl ⟨Tryz.f65,Tryz.func65,by kernel_rfl⟩
theorem anr:aW Tryz.prog ids alts 128 (aV akf):=.inl ⟨Tryz.f66,Tryz.func66,by kernel_rfl⟩
theorem am9:aW Tryz.prog ids alts 130 (aV adT):=.inl ⟨Tryz.f10,Tryz.func10,by kernel_rfl⟩
theorem ao9:aW Tryz.prog ids alts 140 (aV acO):=.inl ⟨Tryz.f69,Tryz.func69,by kernel_rfl⟩
theorem an7:aW Tryz.prog ids alts 149 (aV acn):=.inl ⟨Tryz.f231,Tryz.func231,by kernel_rfl⟩
theorem aoN:aW Tryz.prog ids alts 151 (aV aeD):=.inl ⟨Tryz.f232,Tryz.func232,by kernel_rfl⟩
theorem apR:aW Tryz.prog ids alts 223 (aV XC):=.inl ⟨Tryz.f88,Tryz.func88,by kernel_rfl⟩
theorem apS:aW Tryz.prog ids alts 225 (aV aer):=.inl ⟨Tryz.f126,Tryz.func126,by kernel_rfl⟩
theorem aom:aW Tryz.prog ids alts 227 (aV acH):=.inl ⟨Tryz.f128,Tryz.func128,by kernel_rfl⟩
theorem anw:aW Tryz.prog ids alts 230 (aV XU):=.inl ⟨Tryz.f131,Tryz.func131,by kernel_rfl⟩
theorem am4:aW Tryz.prog ids alts 231 (aV Y9):=.inl ⟨Tryz.f132,Tryz.func132,by kernel_rfl⟩
theorem an0:aW Tryz.prog ids alts 232 (aV ab4):=.inl ⟨Tryz.f133,Tryz.func133,by kernel_rfl⟩
theorem l238:aW Tryz.prog ids alts 238 (aV acS):=.inl ⟨Tryz.f139,Tryz.func139,by kernel_rfl⟩
theorem apL:aW Tryz.prog ids alts 240 (aV ae7):=.inl ⟨Tryz.f77,Tryz.func77,by kernel_rfl⟩
theorem anJ:aW Tryz.prog ids alts 246 (aV abu):=.inl ⟨Tryz.f101,Tryz.func101,by kernel_rfl⟩
theorem ant:aW Tryz.prog ids alts 247 (aV afe):=.inl ⟨Tryz.f145,Tryz.func145,by kernel_rfl⟩
theorem aow:aW Tryz.prog ids alts 248 (aV MX):=.inl ⟨Tryz.f146,Tryz.func146,by kernel_rfl⟩
theorem anL:aW Tryz.prog ids alts 249 (aV ae6):=.inl ⟨Tryz.f147,Tryz.func147,by kernel_rfl⟩
theorem am7:aW Tryz.prog ids alts 250 (aV WU):=.inl ⟨Tryz.f148,Tryz.func148,by kernel_rfl⟩
theorem ang:aW Tryz.prog ids alts 251 (aV Ze):=.inl ⟨Tryz.f116,Tryz.func116,by kernel_rfl⟩
theorem apd:aW Tryz.prog ids alts 252 (aV Ju):=.inl ⟨Tryz.f149,Tryz.func149,by kernel_rfl⟩
theorem anF:aW Tryz.prog ids alts 253 (aV aeX):=.inl ⟨Tryz.f108,Tryz.func108,by kernel_rfl⟩
theorem aoG:aW Tryz.prog ids alts 254 (aV ade):=.inl ⟨Tryz.f150,Tryz.func150,by kernel_rfl⟩
theorem anq:aW Tryz.prog ids alts 255 (aV ZI):=.inl ⟨Tryz.f151,Tryz.func151,by kernel_rfl⟩
theorem an5:aW Tryz.prog ids alts 256 (aV acN):=.inl ⟨Tryz.f32,Tryz.func32,by kernel_rfl⟩
theorem amQ:aW Tryz.prog ids alts 257 (aV afu):=.inl ⟨Tryz.f152,Tryz.func152,by kernel_rfl⟩
theorem ape:aW Tryz.prog ids alts 258 (aV TJ):=.inl ⟨Tryz.f153,Tryz.func153,by kernel_rfl⟩
theorem aoY:aW Tryz.prog ids alts 259 (aV adA):=.inl ⟨Tryz.f154,Tryz.func154,by kernel_rfl⟩
theorem aoU:aW Tryz.prog ids alts 260 (aV RI):=.inl ⟨Tryz.f155,Tryz.func155,by kernel_rfl⟩
theorem aog:aW Tryz.prog ids alts 261 (aV adM):=.inl ⟨Tryz.f156,Tryz.func156,by kernel_rfl⟩
theorem am1:aW Tryz.prog ids alts 262 (aV acZ):=.inl ⟨Tryz.f157,Tryz.func157,by kernel_rfl⟩
theorem aoA:aW Tryz.prog ids alts 263 (aV XT):=.inl ⟨Tryz.f158,Tryz.func158,by kernel_rfl⟩
theorem am3:aW Tryz.prog ids alts 264 (aV aee):=.inl ⟨Tryz.f159,Tryz.func159,by kernel_rfl⟩
theorem aoc:aW Tryz.prog ids alts 265 (aV Zg):=.inl ⟨Tryz.f160,Tryz.func160,by kernel_rfl⟩
theorem anG:aW Tryz.prog ids alts 266 (aV akJ):=.inl ⟨Tryz.f161,Tryz.func161,by kernel_rfl⟩
theorem aoQ:aW Tryz.prog ids alts 270 (aV afm):=.inl ⟨Tryz.f75,Tryz.func75,by kernel_rfl⟩
theorem anB:aW Tryz.prog ids alts 271 (aV Uc):=.inl ⟨Tryz.f76,Tryz.func76,by kernel_rfl⟩
theorem l272:aW Tryz.prog ids alts 272 (aV X0):=.inl ⟨Tryz.f230,Tryz.func230,by kernel_rfl⟩
theorem apH:aW Tryz.prog ids alts 282 (aV aeY):=.inl ⟨Tryz.f167,Tryz.func167,by kernel_rfl⟩
theorem anX:aW Tryz.prog ids alts 304 (aV acT):=.inl ⟨Tryz.f286,Tryz.func286,by kernel_rfl⟩
theorem anE:aW Tryz.prog ids alts 327 (aV aac):=.inl ⟨Tryz.f40,Tryz.func40,by kernel_rfl⟩
theorem apr:aW Tryz.prog ids alts 398 (aV Tf):=.inl ⟨Tryz.f207,Tryz.func207,by kernel_rfl⟩
theorem apg:aW Tryz.prog ids alts 399 (aV aeV):=.inl ⟨Tryz.f208,Tryz.func208,by kernel_rfl⟩
theorem anP:aW Tryz.prog ids alts 400 (aV ZF):=.inl ⟨Tryz.f221,Tryz.func221,by kernel_rfl⟩
theorem amS:aW Tryz.prog ids alts 402 (aV adn):=.inl ⟨Tryz.f217,Tryz.func217,by kernel_rfl⟩
theorem apx:aW Tryz.prog ids alts 404 (aV adp):=.inl ⟨Tryz.f223,Tryz.func223,by kernel_rfl⟩
theorem aon:aW Tryz.prog ids alts 405 (aV afi):=.inl ⟨Tryz.f224,Tryz.func224,by kernel_rfl⟩
theorem am5:aW Tryz.prog ids alts 407 (aV acA):=.inl ⟨Tryz.f220,Tryz.func220,by kernel_rfl⟩
theorem aoZ:aW Tryz.prog ids alts 408 (aV ZX):=.inl ⟨Tryz.f226,Tryz.func226,by kernel_rfl⟩
theorem apD:aW Tryz.prog ids alts 411 (aV ab9):=.inl ⟨Tryz.f228,Tryz.func228,by kernel_rfl⟩
theorem apV:aW Tryz.prog ids alts 412 (aV afc):=.inl ⟨Tryz.f229,Tryz.func229,by kernel_rfl⟩
theorem anU:aW Tryz.prog ids alts 413 (aV Ti):=.inl ⟨Tryz.f233,Tryz.func233,by kernel_rfl⟩
theorem apf:aW Tryz.prog ids alts 414 (aV abr):=.inl ⟨Tryz.f234,Tryz.func234,by kernel_rfl⟩
theorem apW:aW Tryz.prog ids alts 415 (aV H8):=.inl ⟨Tryz.f235,Tryz.func235,by kernel_rfl⟩
theorem apw:aW Tryz.prog ids alts 416 (aV aef):=.inl ⟨Tryz.f236,Tryz.func236,by kernel_rfl⟩
theorem amR:aW Tryz.prog ids alts 417 (aV ab8):=.inl ⟨Tryz.f237,Tryz.func237,by kernel_rfl⟩
theorem ani:aW Tryz.prog ids alts 418 (aV aft):=.inl ⟨Tryz.f238,Tryz.func238,by kernel_rfl⟩
theorem aob:aW Tryz.prog ids alts 422 (aV Hf):=.inl ⟨Tryz.f188,Tryz.func188,by kernel_rfl⟩
theorem apN:aW Tryz.prog ids alts 423 (aV acB):=.inl ⟨Tryz.f189,Tryz.func189,by kernel_rfl⟩
theorem aoM:aW Tryz.prog ids alts 424 (aV Ol):=.inl ⟨Tryz.f190,Tryz.func190,by kernel_rfl⟩
theorem apM:aW Tryz.prog ids alts 425 (aV H7):=.inl ⟨Tryz.f191,Tryz.func191,by kernel_rfl⟩
theorem apQ:aW Tryz.prog ids alts 433 (aV Fj):=.inl ⟨Tryz.f245,Tryz.func245,by kernel_rfl⟩
theorem apy:aW Tryz.prog ids alts 434 (aV xQ):=.inl ⟨Tryz.f246,Tryz.func246,by kernel_rfl⟩
theorem anZ:aW Tryz.prog ids alts 439 (aV Yq):=.inl ⟨Tryz.f251,Tryz.func251,by kernel_rfl⟩
theorem aoq:aW Tryz.prog ids alts 441 (aV Yi):=.inl ⟨Tryz.f253,Tryz.func253,by kernel_rfl⟩
theorem apa:aW Tryz.prog ids alts 442 (aV abm):=.inl ⟨Tryz.f254,Tryz.func254,by kernel_rfl⟩
theorem aoa:aW Tryz.prog ids alts 494 (aV ZT):=.inl ⟨Tryz.f268,Tryz.func268,by kernel_rfl⟩
theorem anM:aW Tryz.prog ids alts 495 (aV aa3):=.inl ⟨Tryz.f269,Tryz.func269,by kernel_rfl⟩
theorem ao5:aW Tryz.prog ids alts 496 (aV Ur):=.inl ⟨Tryz.f270,Tryz.func270,by kernel_rfl⟩
theorem apI:aW Tryz.prog ids alts 497 (aV aaG):=.inl ⟨Tryz.f271,Tryz.func271,by kernel_rfl⟩
theorem anR:aW Tryz.prog ids alts 498 (aV YX):=.inl ⟨Tryz.f272,Tryz.func272,by kernel_rfl⟩
theorem aoS:aW Tryz.prog ids alts 499 (aV aff):=.inl ⟨Tryz.f273,Tryz.func273,by kernel_rfl⟩
theorem ao2:aW Tryz.prog ids alts 500 (aV WA):=.inl ⟨Tryz.f274,Tryz.func274,by kernel_rfl⟩
theorem apX:aW Tryz.prog ids alts 501 (aV Hz):=.inl ⟨Tryz.f275,Tryz.func275,by kernel_rfl⟩
theorem aoK:aW Tryz.prog ids alts 502 (aV aao):=.inl ⟨Tryz.f283,Tryz.func283,by kernel_rfl⟩
theorem aoF:aW Tryz.prog ids alts 503 (aV acL):=.inl ⟨Tryz.f284,Tryz.func284,by kernel_rfl⟩
theorem amO:aW Tryz.prog ids alts 504 (aV ach):=.inl ⟨Tryz.f282,Tryz.func282,by kernel_rfl⟩
theorem apJ:aW Tryz.prog ids alts 505 (aV XD):=.inl ⟨Tryz.f285,Tryz.func285,by kernel_rfl⟩
theorem apv:aW Tryz.prog ids alts 506 (aV Lu):=.inl ⟨Tryz.f287,Tryz.func287,by kernel_rfl⟩
theorem aoR:aW Tryz.prog ids alts 507 (aV aey):=.inl ⟨Tryz.f288,Tryz.func288,by kernel_rfl⟩
theorem anK:aW Tryz.prog ids alts 510 (aV abb):=.inl ⟨Tryz.f258,Tryz.func258,by kernel_rfl⟩
theorem apO:aW Tryz.prog ids alts 511 (aV WM):=.inl ⟨Tryz.f259,Tryz.func259,by kernel_rfl⟩
theorem aoP:aW Tryz.prog ids alts 512 (aV TP):=.inl ⟨Tryz.f260,Tryz.func260,by kernel_rfl⟩
theorem ao4:aW Tryz.prog ids alts 513 (aV PL):=.inl ⟨Tryz.f261,Tryz.func261,by kernel_rfl⟩
theorem amW:aW Tryz.prog ids alts 516 (aV abx):=.inl ⟨Tryz.f291,Tryz.func291,by kernel_rfl⟩
theorem anC:aW Tryz.prog ids alts 517 (aV Wp):=.inl ⟨Tryz.f292,Tryz.func292,by kernel_rfl⟩
theorem aoW:aW Tryz.prog ids alts 518 (aV ZY):=.inl ⟨Tryz.f293,Tryz.func293,by kernel_rfl⟩
theorem anx:aW Tryz.prog ids alts 519 (aV Z5):=.inl ⟨Tryz.f294,Tryz.func294,by kernel_rfl⟩
theorem apF:aW Tryz.prog ids alts 520 (aV XJ):=.inl ⟨Tryz.f295,Tryz.func295,by kernel_rfl⟩
theorem anA:aW Tryz.prog ids alts 543 (aV adx):=.inl ⟨Tryz.f303,Tryz.func303,by kernel_rfl⟩
theorem anv:aW Tryz.prog ids alts 544 (aV adG):=.inl ⟨Tryz.f304,Tryz.func304,by kernel_rfl⟩
theorem anh:aW Tryz.prog ids alts 545 (aV XR):=.inl ⟨Tryz.f305,Tryz.func305,by kernel_rfl⟩
theorem ao8:aW Tryz.prog ids alts 546 (aV RN):=.inl ⟨Tryz.f306,Tryz.func306,by kernel_rfl⟩
theorem anI:aW Tryz.prog ids alts 547 (aV adY):=.inl ⟨Tryz.f307,Tryz.func307,by kernel_rfl⟩
theorem aoy:aW Tryz.prog ids alts 548 (aV Rj):=.inl ⟨Tryz.f309,Tryz.func309,by kernel_rfl⟩
theorem aoO:aW Tryz.prog ids alts 549 (aV iP):=.inl ⟨Tryz.f310,Tryz.func310,by kernel_rfl⟩
theorem anT:aW Tryz.prog ids alts 550 (aV Xy):=.inl ⟨Tryz.f311,Tryz.func311,by kernel_rfl⟩
theorem apb:aW Tryz.prog ids alts 551 (aV Zo):=.inl ⟨Tryz.f312,Tryz.func312,by kernel_rfl⟩
theorem anS:aW Tryz.prog ids alts 552 (aV Zj):=.inl ⟨Tryz.f313,Tryz.func313,by kernel_rfl⟩
theorem anz:aW Tryz.prog ids alts 553 (aV aeu):=.inl ⟨Tryz.f314,Tryz.func314,by kernel_rfl⟩
theorem amU:aW Tryz.prog ids alts 554 (aV aas):=.inl ⟨Tryz.f315,Tryz.func315,by kernel_rfl⟩
theorem apq:aW Tryz.prog ids alts 556 (aV YJ):=.inl ⟨Tryz.f299,Tryz.func299,by kernel_rfl⟩
theorem aox:aW Tryz.prog ids alts 557 (aV acy):=.inl ⟨Tryz.f300,Tryz.func300,by kernel_rfl⟩
theorem apn:aW Tryz.prog ids alts 558 (aV YU):=.inl ⟨Tryz.f301,Tryz.func301,by kernel_rfl⟩
theorem ao7:aW Tryz.prog ids alts 559 (aV ad8):=.inl ⟨Tryz.f302,Tryz.func302,by kernel_rfl⟩
theorem apl:aW Tryz.prog ids alts 560 (aV Sz):=.inl ⟨Tryz.f316,Tryz.func316,by kernel_rfl⟩
theorem apk:aW Tryz.prog ids alts 561 (aV afl):=.inl ⟨Tryz.f317,Tryz.func317,by kernel_rfl⟩
theorem apz:aW Tryz.prog ids alts 562 (aV adh):=.inl ⟨Tryz.f318,Tryz.func318,by kernel_rfl⟩
theorem amP:aW Tryz.prog ids alts 563 (aV xU):=.inl ⟨Tryz.f319,Tryz.func319,by kernel_rfl⟩
theorem anY:aW Tryz.prog ids alts 578 (aV acf):=.inl ⟨Tryz.f320,Tryz.func320,by kernel_rfl⟩
theorem anO:aW Tryz.prog ids alts 579 (aV aeG):=.inl ⟨Tryz.f321,Tryz.func321,by kernel_rfl⟩
theorem aof:aW Tryz.prog ids alts 580 (aV ado):=.inl ⟨Tryz.f322,Tryz.func322,by kernel_rfl⟩
theorem amV:aW Tryz.prog ids alts 581 (aV adV):=.inl ⟨Tryz.f323,Tryz.func323,by kernel_rfl⟩
theorem apU:aW Tryz.prog ids alts 582 (aV ac9):=.inl ⟨Tryz.f324,Tryz.func324,by kernel_rfl⟩
theorem an2:aW Tryz.prog ids alts 583 (aV acd):=.inl ⟨Tryz.f325,Tryz.func325,by kernel_rfl⟩
theorem amZ:aW Tryz.prog ids alts 584 (aV afb):=.inl ⟨Tryz.f326,Tryz.func326,by kernel_rfl⟩
theorem aoT:aW Tryz.prog ids alts 585 (aV aaV):=.inl ⟨Tryz.f327,Tryz.func327,by kernel_rfl⟩
theorem anN:aW Tryz.prog ids alts 586 (aV lU):=.inl ⟨Tryz.f328,Tryz.func328,by kernel_rfl⟩
theorem apm:aW Tryz.prog ids alts 592 (aV aaH):=.inl ⟨Tryz.f329,Tryz.func329,by kernel_rfl⟩
theorem ao3:aW Tryz.prog ids alts 593 (aV adN):=.inl ⟨Tryz.f330,Tryz.func330,by kernel_rfl⟩
theorem aod:aW Tryz.prog ids alts 594 (aV YF):=.inl ⟨Tryz.f331,Tryz.func331,by kernel_rfl⟩
def prog:aG:=⟨tree,Go.D.aB,Go.D.ppB⟩
theorem all:vN (aW Tryz.prog ids alts) (eu prog).fns:=⟨⟨⟨⟨⟨⟨⟨⟨trivial,l0,trivial⟩,l86,trivial⟩,an4,⟨trivial,amY,trivial⟩⟩,ao0,⟨⟨trivial,aoe,trivial⟩,aoX,⟨trivial,aoJ,trivial⟩⟩⟩,aol,⟨⟨⟨trivial,apK,trivial⟩,amN,⟨trivial,aps,trivial⟩⟩,anr,⟨⟨trivial,am9,trivial⟩,ao9,⟨trivial,an7,trivial⟩⟩⟩⟩,aoN,⟨⟨⟨⟨⟨trivial,apR,trivial⟩,apS,trivial⟩,aom,⟨trivial,anw,trivial⟩⟩,am4,⟨⟨trivial,an0,trivial⟩,l238,⟨trivial,apL,trivial⟩⟩⟩,anJ,⟨⟨⟨trivial,ant,trivial⟩,aow,⟨trivial,anL,trivial⟩⟩,am7,⟨⟨trivial,ang,trivial⟩,apd,⟨trivial,anF,trivial⟩⟩⟩⟩⟩,aoG,⟨⟨⟨⟨⟨⟨trivial,anq,trivial⟩,an5,trivial⟩,amQ,⟨trivial,ape,trivial⟩⟩,aoY,⟨⟨trivial,aoU,trivial⟩,aog,⟨trivial,am1,trivial⟩⟩⟩,aoA,⟨⟨⟨trivial,am3,trivial⟩,aoc,⟨trivial,anG,trivial⟩⟩,aoQ,⟨⟨trivial,anB,trivial⟩,l272,⟨trivial,apH,trivial⟩⟩⟩⟩,anX,⟨⟨⟨⟨trivial,anE,trivial⟩,apr,⟨trivial,apg,trivial⟩⟩,anP,⟨⟨trivial,amS,trivial⟩,apx,⟨trivial,aon,trivial⟩⟩⟩,am5,⟨⟨⟨trivial,aoZ,trivial⟩,apD,⟨trivial,apV,trivial⟩⟩,anU,⟨⟨trivial,apf,trivial⟩,apW,⟨trivial,apw,trivial⟩⟩⟩⟩⟩⟩,amR,⟨⟨⟨⟨⟨⟨⟨trivial,ani,trivial⟩,aob,trivial⟩,apN,⟨trivial,aoM,trivial⟩⟩,apM,⟨⟨trivial,apQ,trivial⟩,apy,⟨trivial,anZ,trivial⟩⟩⟩,aoq,⟨⟨⟨trivial,apa,trivial⟩,aoa,⟨trivial,anM,trivial⟩⟩,ao5,⟨⟨trivial,apI,trivial⟩,anR,⟨trivial,aoS,trivial⟩⟩⟩⟩,ao2,⟨⟨⟨⟨trivial,apX,trivial⟩,aoK,⟨trivial,aoF,trivial⟩⟩,amO,⟨⟨trivial,apJ,trivial⟩,apv,⟨trivial,aoR,trivial⟩⟩⟩,anK,⟨⟨⟨trivial,apO,trivial⟩,aoP,⟨trivial,ao4,trivial⟩⟩,amW,⟨⟨trivial,anC,trivial⟩,aoW,⟨trivial,anx,trivial⟩⟩⟩⟩⟩,apF,⟨⟨⟨⟨⟨⟨trivial,anA,trivial⟩,anv,trivial⟩,anh,⟨trivial,ao8,trivial⟩⟩,anI,⟨⟨trivial,aoy,trivial⟩,aoO,⟨trivial,anT,trivial⟩⟩⟩,apb,⟨⟨⟨trivial,anS,trivial⟩,anz,⟨trivial,amU,trivial⟩⟩,apq,⟨⟨trivial,aox,trivial⟩,apn,⟨trivial,ao7,trivial⟩⟩⟩⟩,apl,⟨⟨⟨⟨trivial,apk,trivial⟩,apz,⟨trivial,amP,trivial⟩⟩,anY,⟨⟨trivial,anO,trivial⟩,aof,⟨trivial,amV,trivial⟩⟩⟩,apU,⟨⟨⟨trivial,an2,trivial⟩,amZ,⟨trivial,aoT,trivial⟩⟩,anN,⟨⟨trivial,apm,trivial⟩,ao3,⟨trivial,aod,trivial⟩⟩⟩⟩⟩⟩⟩
theorem okT:tH prog.fns=true:=by kernel_rfl
theorem link:Linked Tryz.prog (ad1 ids alts) (Di ids) (eu prog):=linked (by kernel_rfl) (by kernel_rfl) all (by kernel_rfl)
end P
end
section
namespace Go.Pw
open Go Go.Pav
inductive CT where
 | bool
 | int (k:IntKind)
 | str
 | slice (ts:List CT)
inductive Ty:CT→AV→Prop
 | bool (b:Bool):Ty .bool (.bool b)
 | int (k:IntKind) (n:Int) (h1:k.min≤n) (h2:n≤k.max):Ty (.int k) (.int k n)
 | str (s:List UInt8) (h:s.length < 2 ^ 63):Ty .str (.str s)
 | slice (ts:List CT) (es:List (List AV)) (ex:Bool) (hn:es.length < 2 ^ 63) (hw:∀ (i:Nat) (e:List AV),es[i]?=some e→e.length=ts.length)
  (h:∀ (i:Nat) (e:List AV) (j:Nat) (ct:CT) (x:AV),es[i]?=some e→ts[j]?=some ct→e[j]?=some x→Ty ct x):Ty (.slice ts) (.ro ts.length es ex)
theorem Ty.isC {ct:CT} {a:AV} (h:Ty ct a):Pw.isC a=true:=by cases h <;> rfl
def zI (F:TypeId→Option (List CT)) (P:Program):List Field→Nat→Option (List CT)
 | [],_=>some []
 | f::r,off=>(F f.type).bind fun ts=>if f.offset=off∧ts.length=P.cellsOf f.type then (zI F P r (off+ts.length)).map (ts++·) else none
def tZ (P:Program):Nat→TypeId→Option (List CT)
 | 0,_=>none
 | n+1,t=>match P.underlying t with
  | some .bool=>some [.bool]
  | some (.int k)=>some [.int k]
  | some .string=>some [.str]
  | some (.slice e)=>(tZ P n e).bind fun ts=>if ts.length=P.cellsOf e∧0 < ts.length then some [.slice ts] else none
  | some (.struct fs)=>(zI (tZ P n) P fs.toList 0).bind fun ts=>if ts.length=P.cellsOf t then some ts else none
  | some (.array m e)=>(tZ P n e).bind fun ts=>if ts.length=P.cellsOf e∧m * ts.length=P.cellsOf t then some (List.replicate m ts).flatten else none
  | _=>none
theorem CX {α:Type} (ts:List α):∀ (m j:Nat),j < m * ts.length→(List.replicate m ts).flatten[j]?=ts[j % ts.length]?
 | 0,j,h=>by simp at h
 | m+1,j,h=>by
  rw [List.replicate_succ,List.flatten_cons]
  rcases Nat.lt_or_ge j ts.length with hl | hl
  · rw [List.getElem?_append_left hl,Nat.mod_eq_of_lt hl]
  · rw [List.getElem?_append_right hl,CX ts m (j - ts.length) (by rw [Nat.add_mul] at h;omega),Nat.mod_eq_sub_mod hl]
theorem trod_array {H:Type} {enc:TypeId × Value→H} {P:Program} {w:World} {base:Nat} {spare:Nat→Bool} {held:Bool} {fuel:Nat} {t:TypeId} {cs:List Value} {x:DataW H × List MemPlace} {m:Nat} {e:TypeId}
 (ht:P.underlying t=some (.array m e)) (h:DataW.trod enc P w base spare held fuel t cs=some x) :
 ∃ (xs:List (DataW H × List MemPlace)) (n:Nat),fuel=n+1∧cs.length=P.cellsOf t∧xs.length=m ∧
  ∀ i,i < m→DataW.trod enc P w base spare held n e ((cs.drop (i * P.cellsOf e)).take (P.cellsOf e))=xs[i]?:=by
 cases fuel with
 | zero=>simp [DataW.trod] at h
 | succ n =>
  unfold DataW.trod at h
  rw [ht] at h
  split at h <;> simp_all
  obtain ⟨hl,xs,hp,hd⟩:=h
  exact ⟨xs,by simpa using mapM_some_length hp,fun i hi=>mapM_some_get hp i i (List.getElem?_range hi)⟩
def GZ (ψ:Nat→FuncId) (W:World) (ct:CT) (v:Value):Prop :=
 ∃ a a',Ty ct a∧VD id (fun _=>False) a a'∧a'.cell=true∧VR ψ W (fun c=>c < W.heap.size) (fun _=>(0,0)) (fun _=>False) a' v
section
variable {H:Type} {enc:TypeId × Value→H} {P:Program} {W:World} {ψ:Nat→FuncId}
theorem Py {F:TypeId→Option (List CT)} {n:Nat} {cs:List Value}
 (hF:∀ t cs x ts,F t=some ts→DataW.trod enc P W 0 (fun _=>true) true n t cs=some x→cs.length=ts.length∧∀ (j:Nat) (ct:CT),ts[j]?=some ct→∃ v,cs[j]?=some v∧GZ ψ W ct v) :
 ∀ (fs:List Field) (off:Nat) (ts:List CT),zI F P fs off=some ts→(∀ f ∈ fs,∃ x,DataW.trod enc P W 0 (fun _=>true) true n f.type ((cs.drop f.offset).take (P.cellsOf f.type))=some x) →
  ∀ (j:Nat) (ct:CT),ts[j]?=some ct→∃ v,cs[off+j]?=some v∧GZ ψ W ct v:=by
 intro fs
 induction fs with
 | nil=>intro off ts h _ j ct hj;simp only [zI,Option.some.injEq] at h;subst h;simp at hj
 | cons f r ih =>
  intro off ts h hx j ct hj
  simp only [zI,Option.bind_eq_some_iff] at h
  obtain ⟨t1,h1,h⟩:=h
  split at h
  · rename_i hc
    simp only [Option.map_eq_some_iff] at h
    obtain ⟨t2,h2,rfl⟩:=h
    rcases Nat.lt_or_ge j t1.length with hl | hl
    · rw [List.getElem?_append_left hl] at hj
      obtain ⟨x,q⟩:=hx f (by simp)
      obtain ⟨v,q1,q2⟩:=(hF _ _ _ _ h1 q).2 j ct hj
      refine ⟨v,?_,q2⟩
      rw [List.getElem?_take] at q1
      split at q1
      · rw [List.getElem?_drop] at q1;rw [← hc.1];exact q1
      · cases q1
    · rw [List.getElem?_append_right hl] at hj
      obtain ⟨v,q1,q2⟩:=ih _ _ h2 (fun f hf=>hx f (by simp [hf])) _ ct hj
      exact ⟨v,by rw [← q1];congr 1;omega,q2⟩
  · cases h
theorem G9:∀ (n k:Nat) (t:TypeId) (cs:List Value) (x:DataW H × List MemPlace) (ts:List CT),tZ P k t=some ts→DataW.trod enc P W 0 (fun _=>true) true n t cs=some x →
 cs.length=ts.length∧∀ (j:Nat) (ct:CT),ts[j]?=some ct→∃ v,cs[j]?=some v∧GZ ψ W ct v:=by
 intro n
 induction n with
 | zero=>intro k t cs x ts _ h;simp [DataW.trod] at h
 | succ n ih =>
  intro k t cs x ts hf h
  cases k with
  | zero=>simp [tZ] at hf
  | succ k =>
   have one:∀ {v:Value} {ct:CT},cs=[v]→ts=[ct]→GZ ψ W ct v→cs.length=ts.length∧∀ (j:Nat) (ct:CT),ts[j]?=some ct→∃ v,cs[j]?=some v∧GZ ψ W ct v:=by
    intro v ct h1 h2 h3
    subst h1;subst h2
    refine ⟨rfl,fun j ct' hj=>?_⟩
    cases j with
    | zero=>simp only [List.getElem?_cons_zero,Option.some.injEq] at hj;subst hj;exact ⟨v,rfl,h3⟩
    | succ j=>simp at hj
   unfold tZ at hf
   split at hf
   · rename_i ht
     cases hf
     obtain ⟨b,e,_⟩:=DataW.trod_bool ht h
     exact one e rfl ⟨_,_,.bool b,.bool b,rfl,.bool b⟩
   · rename_i k' ht
     cases hf
     obtain ⟨m,e,_,hw⟩:=DataW.trod_int ht h
     simp only [Lit.wf,Bool.and_eq_true,decide_eq_true_eq] at hw
     exact one e rfl ⟨_,_,.int k' m hw.1 hw.2,.int k' m,rfl,.int k' m⟩
   · rename_i ht
     cases hf
     obtain ⟨s,e,_,hw⟩:=DataW.trod_string ht h
     refine one e rfl ⟨.str s.data.toList,_,.str _ ?_,.str _,rfl,?_⟩
     · simp only [maxLen] at hw
       have:s.data.toList.length=s.size:=rfl
       omega
     · have:=VR.str (ψ:=ψ) (w:=W) (S:=fun c=>c < W.heap.size) (m:=fun _=>(0,0)) (A:=fun _=>False) s.data.toList
       exact this
   · rename_i el ht
     simp only [Option.bind_eq_some_iff] at hf
     obtain ⟨us,hu,hf⟩:=hf
     split at hf
     · rename_i hz
       obtain ⟨hz,hz0⟩:=hz
       cases hf
       rcases DataW.trod_slice ht h with ⟨e,_⟩ | ⟨a,len,cap,elems,rest,n',hn,e,_,_,hl,hm,hlen,hel,hsp,_⟩
       · exact one e rfl ⟨.ro us.length [] true,.aZ,.slice us [] true (by simp) (by simp) (by simp),.iU _ _,rfl,.aZ⟩
       · cases hn
         refine one e rfl ?_
         have row:∀ i,i < cap→∃ vs y,W.cells? 0 (a.add (i * us.length)) us.length=some vs∧DataW.trod enc P W 0 (fun _=>true) true n el vs=some y:=by
          intro i hi
          rcases Nat.lt_or_ge i len with hil | hil
          · have:=hel i hil
            rw [List.getElem?_eq_getElem (by omega),Option.bind_eq_some_iff,← hz] at this
            obtain ⟨vs,q1,q2⟩:=this
            exact ⟨vs,_,q1,q2⟩
          · obtain ⟨q0,q⟩:=hsp rfl
            have:=q (i - len) (by omega)
            rw [List.getElem?_eq_getElem (by omega),Option.bind_eq_some_iff,← hz,show len+(i - len)=i by omega] at this
            obtain ⟨vs,q1,q2⟩:=this
            exact ⟨vs,_,q1,q2⟩
         rcases Nat.eq_zero_or_pos cap with hc0 | hc0
         · subst hc0
           obtain rfl:len=0:=by omega
           exact ⟨.ro us.length [] true,.ro us.length [] true,.slice us [] true (by simp) (by simp) (by simp),.ro _ [] [] true true (by simp) rfl id (by simp) (by simp),rfl,.roe _ _ _ 0 (fun _=>rfl)⟩
         · obtain ⟨b,off,spot⟩:=a
           have hfirst:∃ v,W.cell? ⟨b,off,spot⟩=some v:=by
            obtain ⟨vs,_,q1,_⟩:=row 0 hc0
            obtain ⟨_,q2,q3⟩:=World.cells?_some q1
            have:=q3 0 hz0
            rw [List.getElem?_eq_getElem (by omega)] at this
            exact ⟨_,by simpa [Addr.add] using this⟩
           obtain ⟨v0,hv0⟩:=hfirst
           obtain rfl:spot=none:=World.cell?_spot hv0
           have hS:b < W.heap.size:=by
            unfold World.cell? at hv0
            split at hv0
            · rename_i hb;exact (Array.getElem?_eq_some_iff.1 hb).1
            · cases hv0
           have key:∀ p:Nat × Nat,∃ q:Value × AV × AV,p.1 < len→∀ ct,us[p.2]?=some ct→W.cell? ⟨b,off+p.1 * us.length+p.2,none⟩=some q.1∧Ty ct q.2.1∧VD id (fun _=>False) q.2.1 q.2.2∧q.2.2.cell=true ∧
            VR ψ W (fun c=>c < W.heap.size) (fun _=>(0,0)) (fun _=>False) q.2.2 q.1:=by
            intro ⟨i,j⟩
            by_cases hi:i < len
            · cases hj:us[j]? with
              | none=>exact ⟨default,fun _ ct q=>by cases q⟩
              | some ct =>
               obtain ⟨vs,y,q1,q2⟩:=row i (by omega)
               obtain ⟨v,q3,c1,c2,q4,q5,q6,q7⟩:=(ih _ _ _ _ _ hu q2).2 j ct hj
               refine ⟨(v,c1,c2),fun _ ct' q=>?_⟩
               cases q
               refine ⟨?_,q4,q5,q6,q7⟩
               obtain ⟨_,r1,r2⟩:=World.cells?_some q1
               have hjl:j < us.length:=(List.getElem?_eq_some_iff.1 hj).1
               have:=r2 j hjl
               rw [q3] at this
               rw [← this]
               congr 1
               simp only [Addr.add]
               split <;> split <;> simp_all <;> omega
            · exact ⟨default,fun q=>absurd q hi⟩
           obtain ⟨F,hF⟩:=Classical.axiomOfChoice key
           let es:List (List AV):=(List.range len).map fun i=>(List.range us.length).map fun j=>(F (i,j)).2.1
           let es':List (List AV):=(List.range len).map fun i=>(List.range us.length).map fun j=>(F (i,j)).2.2
           have g1:∀ (i:Nat) (e:List AV),es[i]?=some e→i < len∧e=(List.range us.length).map fun j=>(F (i,j)).2.1:=by
            intro i e he
            simp only [es,List.getElem?_map,Option.map_eq_some_iff] at he
            obtain ⟨i',q1,q2⟩:=he
            have:=List.getElem?_eq_some_iff.1 q1
            obtain ⟨q3,q4⟩:=this
            simp at q3 q4
            subst q4
            exact ⟨q3,q2.symm⟩
           have g1':∀ (i:Nat) (e:List AV),es'[i]?=some e→i < len∧e=(List.range us.length).map fun j=>(F (i,j)).2.2:=by
            intro i e he
            simp only [es',List.getElem?_map,Option.map_eq_some_iff] at he
            obtain ⟨i',q1,q2⟩:=he
            have:=List.getElem?_eq_some_iff.1 q1
            obtain ⟨q3,q4⟩:=this
            simp at q3 q4
            subst q4
            exact ⟨q3,q2.symm⟩
           have g2:∀ (G:Nat→AV) (j:Nat) (x:AV),((List.range us.length).map G)[j]?=some x→∃ ct,us[j]?=some ct∧x=G j:=by
            intro G j x hx
            simp only [List.getElem?_map,Option.map_eq_some_iff] at hx
            obtain ⟨j',q1,q2⟩:=hx
            obtain ⟨q3,q4⟩:=List.getElem?_eq_some_iff.1 q1
            simp at q3 q4
            subst q4
            exact ⟨us[j],List.getElem?_eq_getElem q3,q2.symm⟩
           have l1:es.length=len:=by simp [es]
           have l2:es'.length=len:=by simp [es']
           refine ⟨.ro us.length es (decide (cap=len)),.ro us.length es' (decide (cap=len)),.slice us es _ ?_ ?_ ?_,.ro _ es es' _ _ ?_ (by rw [l1,l2]) id ?_ ?_,rfl,?_⟩
           · rw [l1];simp only [maxLen] at hm;omega
           · intro i e he;rw [(g1 i e he).2];simp
           · intro i e j ct y he hct hy
             obtain ⟨q1,rfl⟩:=g1 i e he
             obtain ⟨ct',q2,rfl⟩:=g2 _ j y hy
             rw [hct] at q2
             cases q2
             exact (hF (i,j) q1 ct hct).2.1
           · intro e he y hy
             obtain ⟨i,he⟩:=List.getElem?_of_mem he
             obtain ⟨j,hy⟩:=List.getElem?_of_mem hy
             obtain ⟨q1,rfl⟩:=g1 i e he
             obtain ⟨ct',q2,rfl⟩:=g2 _ j y hy
             exact (hF (i,j) q1 ct' q2).2.1.isC
           · intro i e e' he he'
             rw [(g1 i e he).2,(g1' i e' he').2];simp
           · intro i e e' j y y' he he' hy hy'
             obtain ⟨q1,rfl⟩:=g1 i e he
             obtain ⟨_,rfl⟩:=g1' i e' he'
             obtain ⟨ct',q2,rfl⟩:=g2 _ j y hy
             obtain ⟨_,_,rfl⟩:=g2 _ j y' hy'
             exact (hF (i,j) q1 ct' q2).2.2.1
           · have:=VR.ro (ψ:=ψ) (w:=W) (S:=fun c=>c < W.heap.size) (m:=fun _=>(0,0)) (A:=fun _=>False) us.length es' (decide (cap=len)) b off cap (fun i j=>(F (i,j)).1) hS
              (fun i e he=>by rw [(g1' i e he).2];simp) (by rw [l2];exact hl) (fun q=>by rw [l2];simpa using q)
              (fun i e j y he hy=>by
               obtain ⟨q1,rfl⟩:=g1' i e he
               obtain ⟨ct',q2,rfl⟩:=g2 _ j y hy
               have:=hF (i,j) q1 ct' q2
               exact ⟨this.2.2.2.1,this.1⟩)
              (fun i e j y he hy=>by
               obtain ⟨q1,rfl⟩:=g1' i e he
               obtain ⟨ct',q2,rfl⟩:=g2 _ j y hy
               exact (hF (i,j) q1 ct' q2).2.2.2.2)
             rw [l2] at this
             exact this
     · cases hf
   · rename_i fs ht
     simp only [Option.bind_eq_some_iff] at hf
     obtain ⟨us,hu,hf⟩:=hf
     split at hf
     · rename_i hz
       cases hf
       obtain ⟨xs,n',hn,_,hcl,hxl,hx⟩:=DataW.trod_struct ht h
       cases hn
       refine ⟨by rw [hcl,hz],fun j ct hj=>?_⟩
       have:=Py (cs:=cs) (F:=tZ P k) (n:=n) (fun t cs x ts h1 h2=>ih k t cs x ts h1 h2) fs.toList 0 _ hu (fun f hf=>by
        obtain ⟨i,hi⟩:=List.getElem?_of_mem hf
        have hi':fs[i]?=some f:=by simpa using hi
        have hlt:i < fs.size:=(Array.getElem?_eq_some_iff.1 hi').1
        have:=hx i f hi'
        rw [List.getElem?_eq_getElem (by omega)] at this
        exact ⟨_,this⟩) j ct hj
       simpa using this
     · cases hf
   · rename_i m' e ht
     simp only [Option.bind_eq_some_iff] at hf
     obtain ⟨us,hu,hf⟩:=hf
     split at hf
     · rename_i hz
       obtain ⟨hz1,hz2⟩:=hz
       cases hf
       obtain ⟨xs,n',hn,hcl,hxl,hx⟩:=trod_array ht h
       cases hn
       have hlen:(List.replicate m' us).flatten.length=m' * us.length:=by simp
       refine ⟨by rw [hcl,hlen,hz2],fun j ct hj=>?_⟩
       have hjl:j < m' * us.length:=by rw [← hlen];exact (List.getElem?_eq_some_iff.1 hj).1
       have hk:0 < us.length:=by
        rcases Nat.eq_zero_or_pos us.length with q | q
        · rw [q,Nat.mul_zero] at hjl;omega
        · exact q
       rw [CX us m' j hjl] at hj
       have hq:j / us.length < m':=Nat.div_lt_of_lt_mul (by rw [Nat.mul_comm];exact hjl)
       have hxq:=hx (j / us.length) hq
       rw [List.getElem?_eq_getElem (by omega)] at hxq
       obtain ⟨v,q1,q2⟩:=(ih k e _ _ us hu hxq).2 (j % us.length) ct hj
       refine ⟨v,?_,q2⟩
       rw [List.getElem?_take] at q1
       split at q1
       · rw [List.getElem?_drop,← hz1] at q1
         rw [← q1];congr 1
         exact (Nat.div_add_mod' j us.length).symm
       · cases q1
     · cases hf
   · cases hf
inductive AT where
 | c (ct:CT)
 | g (ts:List CT)
def AT.has:AT→AV→Prop
 | .c ct,a=>Ty ct a
 | .g ts,a=>∃ es,a=.agg es∧es.length=ts.length∧∀ (j:Nat) (ct:CT) (x:AV),ts[j]?=some ct→es[j]?=some x→Ty ct x
def YC (P:Program) (t:TypeId):Option AT :=
 match P.underlying t with
 | some (.struct _)=>(tZ P 20 t).map .g
 | some (.array _ _)=>(tZ P 20 t).map .g
 | some .bool | some (.int _) | some .string | some (.slice _)=>match tZ P 20 t with | some [ct]=>some (.c ct) | _=>none
 | _=>none
theorem PS {t:TypeId} {base:Nat} {v:Value} (hu:P.underlying t=some .bool∨(∃ k,P.underlying t=some (.int k))∨P.underlying t=some .string∨∃ e,P.underlying t=some (.slice e)) (h:Value.okWide P W .any base t v) :
 v.cells=#[v]:=by
 cases v <;> try rfl
 rcases hu with hu | ⟨k,hu⟩ | hu | ⟨e,hu⟩ <;> simp [Value.okWide,hu,Cell.okWide,Cell.ok] at h
theorem Zq {t:TypeId} {at_:AT} (ha:YC P t=some at_) {base:Nat} {v:Value} (hv:Value.okWide P W .any base t v) {d:DataW H} {p:List MemPlace} (h:DataW.Trod enc P W 0 (fun _=>true) true t v d p) :
 ∃ a a',at_.has a∧VD id (fun _=>False) a a'∧VR ψ W (fun c=>c < W.heap.size) (fun _=>(0,0)) (fun _=>False) a' v:=by
 obtain ⟨fuel,h⟩:=h
 have plain:(P.underlying t=some .bool∨(∃ k,P.underlying t=some (.int k))∨P.underlying t=some .string∨∃ e,P.underlying t=some (.slice e)) →
  (match tZ P 20 t with | some [ct]=>some (AT.c ct) | _=>none)=some at_→∃ a a',at_.has a∧VD id (fun _=>False) a a'∧VR ψ W (fun c=>c < W.heap.size) (fun _=>(0,0)) (fun _=>False) a' v:=by
  intro hu he
  split at he
  · rename_i ct hf
    cases he
    rw [PS hu hv] at h
    obtain ⟨_,q⟩:=G9 (ψ:=ψ) _ _ _ _ _ _ hf h
    obtain ⟨v',q1,a,a',q2,q3,_,q4⟩:=q 0 ct rfl
    simp only [List.getElem?_cons_zero,Option.some.injEq] at q1
    subst q1
    exact ⟨a,a',q2,q3,q4⟩
  · cases he
 have whole:(∃ cs,v=.agg cs)→(tZ P 20 t).map AT.g=some at_→∃ a a',at_.has a∧VD id (fun _=>False) a a'∧VR ψ W (fun c=>c < W.heap.size) (fun _=>(0,0)) (fun _=>False) a' v:=by
  rintro ⟨cs,rfl⟩ ha
  simp only [Option.map_eq_some_iff] at ha
  obtain ⟨ts,hf,rfl⟩:=ha
  obtain ⟨hl,q⟩:=G9 (ψ:=ψ) _ _ _ _ _ _ hf h
  simp only [Value.cells] at hl q
  have key:∀ j:Nat,∃ x:AV × AV,∀ ct,ts[j]?=some ct→Ty ct x.1∧VD id (fun _=>False) x.1 x.2∧x.2.cell=true∧∃ v,cs.toList[j]?=some v∧VR ψ W (fun c=>c < W.heap.size) (fun _=>(0,0)) (fun _=>False) x.2 v:=by
   intro j
   cases hj:ts[j]? with
   | none=>exact ⟨default,fun _ q=>by cases q⟩
   | some ct =>
    obtain ⟨v,q1,a,a',q2,q3,q4,q5⟩:=q j ct hj
    exact ⟨(a,a'),fun ct' e=>by cases e;exact ⟨q2,q3,q4,v,q1,q5⟩⟩
  obtain ⟨F,hF⟩:=Classical.axiomOfChoice key
  have g2:∀ (G:Nat→AV) (j:Nat) (x:AV),((List.range ts.length).map G)[j]?=some x→∃ ct,ts[j]?=some ct∧x=G j:=by
   intro G j x hx
   simp only [List.getElem?_map,Option.map_eq_some_iff] at hx
   obtain ⟨j',q1,q2⟩:=hx
   obtain ⟨q3,q4⟩:=List.getElem?_eq_some_iff.1 q1
   simp at q3 q4
   subst q4
   exact ⟨ts[j],List.getElem?_eq_getElem q3,q2.symm⟩
  refine ⟨.agg ((List.range ts.length).map fun j=>(F j).1),.agg ((List.range ts.length).map fun j=>(F j).2),⟨_,rfl,by simp,?_⟩,.agg _ _ (by simp) ?_,.agg _ _ ?_ ?_ ?_⟩
  · intro j ct x hct hx
    obtain ⟨ct',q1,rfl⟩:=g2 _ j x hx
    exact (hF j ct hct).1
  · intro j x x' hx hx'
    obtain ⟨ct,q1,rfl⟩:=g2 _ j x hx
    obtain ⟨_,_,rfl⟩:=g2 _ j x' hx'
    exact (hF j ct q1).2.1
  · simp only [List.length_map,List.length_range]
    rw [← hl];simp
  · intro j x hx
    obtain ⟨ct,q1,rfl⟩:=g2 _ j x hx
    exact (hF j ct q1).2.2.1
  · intro j x hx
    obtain ⟨ct,q1,rfl⟩:=g2 _ j x hx
    obtain ⟨v,q2,q3⟩:=(hF j ct q1).2.2.2
    have e:cs[j]?=some v:=by simpa using q2
    rw [Array.getD_eq_getD_getElem?,e]
    exact q3
 unfold YC at ha
 split at ha
 · rename_i fs ht
   simp only [Value.okWide,ht] at hv
   obtain ⟨cs,hv,_,_⟩:=hv
   exact whole ⟨cs,hv⟩ ha
 · rename_i m e ht
   simp only [Value.okWide,ht] at hv
   obtain ⟨cs,hv,_,_⟩:=hv
   exact whole ⟨cs,hv⟩ ha
 · rename_i ht;exact plain (.inl ht) ha
 · rename_i k ht;exact plain (.inr (.inl ⟨k,ht⟩)) ha
 · rename_i ht;exact plain (.inr (.inr (.inl ht))) ha
 · rename_i e ht;exact plain (.inr (.inr (.inr ⟨e,ht⟩))) ha
 · cases ha
def U3:List AT→List AV→Prop
 | [],[]=>True
 | a::r,x::s=>a.has x∧U3 r s
 | _,_=>False
theorem I4 {base:Nat}:∀ {ts:List TypeId} {ats:List AT} {vs:List Value} {ds:List (DataW H)} {p:List MemPlace},ts.map (YC P)=ats.map some →
 (∀ (j:Nat) (t:TypeId) (v:Value),ts[j]?=some t→vs[j]?=some v→Value.okWide P W .any base t v)→DataW.TrodAll enc P W 0 (fun _=>true) true ts vs ds p →
 ∃ us us',U3 ats us∧bf (VD id fun _=>False) us us'∧us'.length=vs.length∧∀ (j:Nat) (x:AV) (v:Value),us'[j]?=some x→vs[j]?=some v→VR ψ W (fun c=>c < W.heap.size) (fun _=>(0,0)) (fun _=>False) x v
 | [],[],vs,ds,p,_,_,h=>by
  obtain ⟨rfl,_,_⟩:=ChangeShapes.trodAll_nil h
  exact ⟨[],[],trivial,⟨rfl,by simp⟩,rfl,by simp⟩
 | t::ts,at_::ats,_,_,_,hm,hv,h=>by
  obtain ⟨v,vs1,d,ds1,p1,q1,rfl,rfl,rfl,h1,h2⟩:=ChangeShapes.trodAll_cons h
  simp only [List.map_cons,List.cons.injEq] at hm
  obtain ⟨a,a',r1,r2,r3⟩:=Zq (ψ:=ψ) hm.1 (hv 0 t v rfl rfl) h1
  obtain ⟨us,us',s1,s2,s3,s4⟩:=I4 hm.2 (fun j t v e1 e2=>hv (j+1) t v e1 e2) h2
  refine ⟨a::us,a'::us',⟨r1,s1⟩,⟨by simp [s2.1],fun j x x' e1 e2=>?_⟩,by simp [s3],fun j x v' e1 e2=>?_⟩
  · cases j with
    | zero=>cases e1;cases e2;exact r2
    | succ j=>exact s2.2 j x x' e1 e2
  · cases j with
    | zero=>cases e1;cases e2;exact r3
    | succ j=>exact s4 j x v' e1 e2
 | [],_::_,_,_,_,hm,_,_=>by simp at hm
 | _::_,[],_,_,_,hm,_,_=>by simp at hm
theorem Xm {Φ:Nat→FuncId→Option Nat} {D:aG} (hL:Linked P Φ ψ (eu D)) (hok:tH D.fns=true) {f:Nat} {ts:List TypeId} {ats:List AT} (hts:ts.map (YC P)=ats.map some)
 (core:∀ us,U3 ats us→FnW D f us=some (.bool true)) {base:Nat} {args:Array Value} {ds:List (DataW H)} {p:List MemPlace}
 (hv:∀ (j:Nat) (t:TypeId) (v:Value),ts[j]?=some t→args[j]?=some v→Value.okWide P W .any base t v) (hA:DataW.TrodAll enc P W 0 (fun _=>true) true ts args.toList ds p) :
 Calls P (ψ f) args W fun e W'=>e=.returned (.bool true)∧(∀ c,c < W.heap.size→W'.heap[c]?=W.heap[c]?)∧W.heap.size≤W'.heap.size∧W'.os=W.os∧W'.output=W.output:=by
 obtain ⟨us,us',h1,h2,h3,h4⟩:=I4 (ψ:=ψ) hts (fun j t v e1 e2=>hv j t v e1 (by simpa using e2)) hA
 obtain ⟨n,hc⟩:=Pn.1 (core us h1)
 obtain ⟨v',hc',hvd⟩:=aag hok h2 hc
 rw [hvd.fB] at hc'
 refine (Yg hL hc' (w:=W) (S:=fun c=>c < W.heap.size) (m:=fun _=>(0,0)) (cargs:=args) (fun _ h=>h) (by rw [h3];simp) fun j x hx=>?_).mono ?_
 · have hj:j < args.size:=by have:=(List.getElem?_eq_some_iff.1 hx).1;rw [h3] at this;simpa using this
   rw [Array.getD_eq_getD_getElem?,Array.getElem?_eq_getElem hj]
   exact h4 j x _ hx (by simp [hj])
 · rintro e W' ⟨cv,S',m',rfl,hr,q1,q2,q3,q4⟩
   rw [hr.gQ]
   exact ⟨rfl,q1,q2,q3,q4⟩
theorem CY {W':World} (hh:∀ c,c < W.heap.size→W'.heap[c]?=W.heap[c]?) {base:Nat} {sp:Nat→Bool} {held:Bool}:∀ {ts:List TypeId} {vs:List Value} {ds:List (DataW H)} {ps:List MemPlace},
 DataW.TrodAll enc P W base sp held ts vs ds ps→(∀ p ∈ ps,p.block < W.heap.size)→DataW.TrodAll enc P W' base sp held ts vs ds ps
 | [],[],[],_,h,_=>h
 | _::_,_::_,_::_,_,⟨p,q,⟨n,h1⟩,h2,e⟩,hs=>⟨p,q,⟨n,DataW.trod_carry n _ _ _ h1 fun x hx=>by
  have hlt:=hs x (by rw [e];exact List.mem_append_left _ hx)
  cases x with
  | cell b off=>simp only [World.sameAt,World.cell?];rw [hh b hlt]
  | map b=>exact hh b hlt⟩,CY hh h2 (fun x hx=>hs x (by rw [e];exact List.mem_append_right _ hx)),e⟩
theorem keptBut_old {W':World} (hh:∀ c,c < W.heap.size→W'.heap[c]?=W.heap[c]?) (ho:W'.os=W.os) (hp:W'.output=W.output) (may:MemPlace→Prop):W.keptBut W' may:=by
 have h:=World.keptBut_refl W may
 refine ⟨ho,hp,fun i hi=>?_⟩
 have:=h.2.2 i hi
 rw [hh i hi]
 exact this
theorem abK {f:Func} {s:ChangeSpec} {fresh handsOn again:Bool} {W':World} {args:Array Value} {ds gs:List (DataW H)} {before:List MemPlace} {tb:TypeId}
 (kids:Kids P (· < P.types.size)) (full:∀ t e,t < P.types.size→P.underlying t=some (.slice e)→0 < P.cellsOf e)
 (hvars0:s.vars=[]) (hW:DataW.Whole enc P f.params.toList s.vars false W args.toList ds gs before) (hfn:s.fn H (ds++gs)={ results:=[.lit (.bool true)],args:=ds })
 (hps:∀ t ∈ f.params.toList,t < P.types.size) (hr:f.resultTypes=#[tb]) (htb:P.underlying tb=some .bool)
 (hh:∀ c,c < W.heap.size→W'.heap[c]?=W.heap[c]?) (_hsz:W.heap.size≤W'.heap.size) (ho:W'.os=W.os) (hp:W'.output=W.output) :
 s.post enc P f false fresh handsOn again W args (.bool true) W':=by
 have hlt:∀ p ∈ before,p.block < W.heap.size:=hW.lt
 have hW':=hW
 obtain ⟨p,q,hA,hV,rfl,hz,_⟩:=hW
 rw [hvars0] at hV
 obtain ⟨rfl,rfl⟩:=ChangeShapes.trodVars_none hV
 simp only [List.append_nil] at hlt hz hW' hfn
 have hargs:∀ sp:Nat→Bool,(∀ x ∈ p,sp x.block=true)→DataW.TrodAll enc P W' 0 sp true f.params.toList args.toList ds p:=fun sp hsp =>
  CY hh (DataW.TrodAll.respare kids full hps hA hsp) hlt
 have hvars:∀ sp:Nat→Bool,DataW.TrodVars enc P W' sp s.vars [] []:=fun sp=>by rw [hvars0];rfl
 have hres:∀ (b:Nat) (sp:Nat→Bool) (hd:Bool),DataW.TrodAll enc P W' b sp hd f.resultTypes.toList ((Value.bool true).resultList f.resultTypes.size) [.lit (.bool true)] []:=fun b sp hd=>by
  rw [hr];exact ChangeShapes.trodAll_mk1 (RowKit.shut_bool htb true)
 have hok:∀ (j:Nat) (t:TypeId) (r:Value),f.resultTypes[j]?=some t→((Value.bool true).resultList f.resultTypes.size)[j]?=some r→Value.okWide P W' .any 0 t r :=
  RowKit.ok_one hr rfl (by simp [Value.okWide,htb,Cell.okWide,Cell.ok])
 have hold:∀ x ∈ p,(fun b=>decide (b < W.heap.size)) x.block=true:=fun x hx=>by simpa using hlt x hx
 refine ⟨ds,[],p,[],p,[],hW',?_,?_,?_,keptBut_old hh ho hp _,fun _=>⟨hok,[.lit (.bool true)]++ds,[],([]++p)++[],⟨[]++p,[],?_,hvars _,rfl,?_,fun h=>by cases h⟩,?_⟩⟩
 · rw [List.append_nil,hfn];exact hres _ _ _
 · rw [List.append_nil,hfn];exact hargs _ hold
 · rw [List.append_nil,hfn];exact hvars _
 · exact ChangeShapes.trodAll_append (hargs _ fun _ _=>rfl) (hres _ _ _)
 · intro b off hb
   simp only [List.nil_append,List.append_nil] at hb
   have:=hz b off hb
   unfold World.frozen? at this ⊢
   rw [hh b (hlt _ hb)]
   exact this
 · intro x hx _
   simpa using hx
theorem Dw {base:Nat} {sp:Nat→Bool} {held:Bool}:∀ {ts:List TypeId} {vs:List Value} {ds:List (DataW H)} {ps:List MemPlace},DataW.TrodAll enc P W base sp held ts vs ds ps→ds.length=ts.length
 | [],[],[],_,_=>rfl
 | _::_,_::_,_::_,_,⟨_,_,_,h2,_⟩=>by simp [Dw h2]
def isTrue:Option AV→Bool
 | some (.bool true)=>true
 | _=>false
theorem X3 {o:Option AV} (h:isTrue o=true):o=some (.bool true):=by
 unfold isTrue at h
 split at h
 · rfl
 · cases h
end
end Go.Pw
end
section
namespace Go.Proofs.YtlkfpgggbjlfgaaGreat
open Go.ChangeShapes Go.WideShapes Go.ChangeAt Go.RowKit Go.Pav Go.Pw P
theorem aoH:ownKnob Tryz.prog.godebug=none:=by kernel_rfl
theorem akg:Kids Tryz.prog (· < Tryz.prog.types.size):=kids_rows (by kernel_rfl) (by kernel_rfl)
theorem aky:∀ t e,t < Tryz.prog.types.size→Tryz.prog.underlying t=some (.slice e)→0 < Tryz.prog.cellsOf e:=slices_full_of Tryz.prog (by kernel_rfl)
end Go.Proofs.YtlkfpgggbjlfgaaGreat
end
section
namespace Go.D
open Go Go.Pav Go.Pw P
attribute [-simp] List.getElem_cons_drop
variable {C:aG}
structure It where
 (k t:Int) (x:List UInt8) (m:List (List UInt8)) (e:Bool)
abbrev eIt (i:It):AV:=.agg [.int .u64 i.k,.int .u8 i.t,.str i.x,.ro 1 (i.m.map eS) i.e]
structure OL (C:aG):Prop extends oG C where
 agI:C.fns.get 398=some Tf
 aiB:C.fns.get 424=some Ol
 aiz:C.fns.get 494=some ZT
 adU:C.fns.get 496=some Ur
 ahT:C.fns.get 497=some aaG
 ahu:C.fns.get 498=some YX
 aip:C.fns.get 499=some aff
 ah5:C.fns.get 544=some adG
theorem WW (H:oG C) (s:List UInt8) (hl:s.length≤16):∀ n i,n+i=s.length →
 Eh C ⟨[(3,.int .i64 i),(0,.str s)],[],0⟩=some (.int .i64 (if (s.drop i).all inN=true then 1 else 0)):=by
 intro n
 induction n with
 | zero =>
  intro i hi
  simp only [Eh];rw [aj Aa.eq_1]
  have h1:s.drop i=[]:=List.drop_eq_nil_of_le (by omega)
  have h3:¬ i < s.length:=by omega
  simp [aj Ku.eq_1,h1,h3]
 | succ n ih =>
  intro i hi
  have h1:i < s.length:=by omega
  have:=ih (i+1) (by omega)
  simp only [Eh] at this ⊢;rw [aj Aa.eq_1]
  rw [drop_cons h1]
  generalize hX:((s.drop (i+1)).all inN)=X at *
  simp at this
  rw [List.all_cons,hX]
  have key:=Cj s[i]
  by_cases q1:97≤s[i].toNat <;> by_cases q2:s[i].toNat≤122 <;> by_cases q3:48≤s[i].toNat <;> by_cases q4:s[i].toNat≤57 <;> first
   | (exfalso;omega)
   | (
    have c:inN s[i]=true:=by rcases key with ⟨c,_⟩ | ⟨_,q⟩ <;> first | exact c | (exfalso;omega)
    simp (disch:=omega) [h1,aI,c,q1,q2,q3,q4,this];done)
   | (
    have c:inN s[i]=false:=by rcases key with ⟨_,q⟩ | ⟨c,_⟩ <;> first | exact c | (exfalso;omega)
    simp (disch:=omega) [h1,aI,c,q1,q2,q3,q4];done)
theorem acj (H:oG C) (s:List UInt8):FnW C 511 [.str s]=some (.int .i64 (if isName s=true then 1 else 0)):=by
 rw [aF H.ahx rfl]
 unfold isName
 by_cases c1:1≤s.length
 · by_cases c2:s.length≤16
   · have:=WW H s c2 s.length 0 (by simp)
     simp only [Eh] at this
     simp only [List.drop_zero] at this
     generalize hX:s.all inN=X at *
     simp at this
     have c3:¬ ((s.length:Int) < 1):=by omega
     have c4:¬ (16 < (s.length:Int)):=by omega
     simp [WM,c1,c2,c3,c4,this]
   · have c3:¬ ((s.length:Int) < 1):=by omega
     have c4:(16 < (s.length:Int)):=by omega
     simp [WM,c1,c2,c3,c4]
 · have c3:((s.length:Int) < 1):=by omega
   simp [WM,c1,c3]
theorem aeP (H:OL C):Pred C 496 inT where
 asc b hb:=by
  rw [aF H.adU rfl]
  by_cases c1:32≤b.toNat <;> by_cases c2:126 < b.toNat
  · have c:inT b=false:=decide_eq_false (fun q=>by omega)
    simp [Ur,c,c1,c2]
  · have c:inT b=true:=decide_eq_true ⟨c1,by omega⟩
    simp [Ur,c,c1,c2]
  · omega
  · have c:inT b=false:=decide_eq_false (fun q=>c1 q.1)
    simp [Ur,c,c1,c2]
 high r hr:=by
  rw [aF H.adU rfl]
  have h1:32≤r:=by omega
  have h2:126 < r:=by omega
  simp [Ur,h1,h2]
 qh b hb:=decide_eq_false (fun q=>by omega)
 ne:=by rfl
 ni:=by rfl
structure U5 (C:aG) (g:Nat) (Q:List UInt8→Bool):Prop where
 ok:∀ s,FnW C g [.str s]=some (.bool (!Q s))
 ne:ppB g=false
 ni:aB g=false
theorem Qm (H:OL C) {g:Nat} {Q:List UInt8→Bool} (G:U5 C g Q) (l:List (List UInt8)) (e:Bool) (hl:l.length≤1000000):∀ n i,n+i=l.length →
 ∃ v:Int,Bf C ⟨[(8,.int .i64 i),(7,.int .i64 l.length),(1,.fn g []),(0,.ro 1 (l.map eS) e)],[],0⟩=some (.int .i64 v)∧decide (v < 0)=(l.drop i).all Q:=by
 intro n
 induction n with
 | zero =>
  intro i hi
  simp only [Bf];rw [aj vU.eq_1]
  have h1:l.drop i=[]:=List.drop_eq_nil_of_le (by omega)
  have h3:¬ i < l.length:=by omega
  exact ⟨-1,by simp [aj KZ.eq_1,h3],by simp [h1]⟩
 | succ n ih =>
  intro i hi
  have h1:i < l.length:=by omega
  have hN:=G.ne;have hI:=G.ni
  have hb:=G.ok l[i]
  rw [drop_cons h1]
  by_cases c:Q l[i]=true
  · obtain ⟨v,hv,hq⟩:=ih (i+1) (by omega)
    refine ⟨v,?_,by simp [hq,c]⟩
    simp only [Bf] at hv ⊢;rw [aj vU.eq_1]
    simp at hv
    simp (disch:=omega) [h1,aI,hb,c,H.inl,hI,H.pp,hN,hv]
  · refine ⟨i,?_,by simp [c]⟩
    simp only [Bf];rw [aj vU.eq_1]
    simp (disch:=omega) [h1,hb,c,H.inl,hI,H.pp,hN]
theorem AY (H:OL C) {g:Nat} {Q:List UInt8→Bool} (G:U5 C g Q) (l:List (List UInt8)) (e:Bool) (hl:l.length≤1000000) :
 FnW C 498 [.ro 1 (l.map eS) e,.fn g []]=some (.bool (!l.all Q)):=by
 obtain ⟨v,h,q⟩:=Qm H G l e hl l.length 0 (by simp)
 simp at q
 have h2:FnW C 544 [.ro 1 (l.map eS) e,.fn g []]=some (.int .i64 v):=by
  rw [aF H.ah5 rfl]
  simp only [Bf] at h
  simp at h
  simp [adG,h]
 rw [aF H.ahu rfl]
 have q':decide (v < 0)=l.all Q:=by simpa using q
 rw [← q']
 by_cases c:v < 0
 · have c':¬ 0≤v:=by omega
   simp [YX,H.inl,aB,H.pp,ppB,h2,c,c']
 · have c':0≤v:=by omega
   simp [YX,H.inl,aB,H.pp,ppB,h2,c,c']
theorem adD (H:OL C):U5 C 499 isName where
 ok s:=by
  have:=YK H.tooG s
  rw [aF H.aip rfl]
  simp [aff,H.inl,aB,H.pp,ppB,this]
 ne:=by rfl
 ni:=by rfl
def yC (n:Int) (i:It):Bool:=decide (i.k≠0)&&decide (i.t < n)&&isText i.x&&(decide (i.m.length≤8)&&i.m.all isName)
theorem Wu (H:OL C) (i:It) (n:Int) (ht:0≤i.t∧i.t≤255):FnW C 398 [eIt i,.int .i64 n]=some (.int .i64 (if yC n i=true then 0 else 6)):=by
 have h1:FnW C 494 [.rop [.int .u64 i.k,.int .u8 i.t,.str i.x,.ro 1 (i.m.map eS) i.e]]=some (.bool (isText i.x)):=by
  have:=CO H.tooG (aeP H) i.x
  rw [aF H.aiz rfl]
  unfold isText
  by_cases c2:i.x.length≤64
  · have c4:(i.x.length:Int)≤64:=by omega
    simp [ZT,c2,c4,H.inl,aB,H.pp,ppB,this]
  · have c4:¬ ((i.x.length:Int)≤64):=by omega
    simp [ZT,c2,c4]
 have h2:FnW C 497 [.rop [.int .u64 i.k,.int .u8 i.t,.str i.x,.ro 1 (i.m.map eS) i.e]]=some (.bool (decide (i.m.length≤8)&&i.m.all isName)):=by
  rw [aF H.ahT rfl]
  by_cases c2:i.m.length≤8
  · have:=AY H (adD H) i.m i.e (by omega)
    have c4:(i.m.length:Int)≤8:=by omega
    simp [aaG,c2,c4,H.inl,aB,H.pp,ppB,this]
  · have c4:¬ ((i.m.length:Int)≤8):=by omega
    simp [aaG,c2,c4]
 rw [aF H.agI rfl]
 unfold yC
 generalize isText i.x=X at *
 generalize (decide (i.m.length≤8)&&i.m.all isName)=M at *
 by_cases c1:i.k=0
 · simp [Tf,c1]
 · by_cases c2:n≤i.t
   · have c3:¬ i.t < n:=by omega
     simp (disch:=omega) [Tf,c1,c2,c3,aI]
   · have c3:i.t < n:=by omega
     cases X
     · simp (disch:=omega) [Tf,c1,c2,c3,aI,H.inl,aB,H.pp,ppB,h1]
     · cases M <;> simp (disch:=omega) [Tf,c1,c2,c3,aI,H.inl,aB,H.pp,ppB,h1,h2]
theorem Qj (H:OL C) (k t:Int) (x:List UInt8) (m:List (List UInt8)) (e:Bool) (hl:m.length≤1000000):∀ n i,n+i=m.length→∀ ok:Bool,
 Em C ⟨[(6,.int .i64 i),(5,.int .i64 (if ok=true then 1 else 0)),(2,.ptr 0 0 0)],[(0,.cells 4 [[.int .u64 k,.int .u8 t,.str x,.ro 1 (m.map eS) e]] true true)],1⟩ =
  some (.int .i64 (if (ok&&(m.drop i).all isName)=true then 0 else 6)):=by
 intro n
 induction n with
 | zero =>
  intro i hi ok
  simp only [Em];rw [aj Aj.eq_1]
  have h1:m.drop i=[]:=List.drop_eq_nil_of_le (by omega)
  have h3:¬ i < m.length:=by omega
  cases ok <;> simp [aj Ll.eq_1,h1,h3]
 | succ n ih =>
  intro i hi ok
  have h1:i < m.length:=by omega
  have:=ih (i+1) (by omega) (ok&&isName m[i])
  have hb:=acj H.tooG m[i]
  rw [drop_cons h1]
  generalize hX:(m.drop (i+1)).all isName=X at *
  rw [List.all_cons,hX]
  simp only [Em] at this ⊢;rw [aj Aj.eq_1]
  cases ok <;> cases hn:isName m[i] <;> rw [hn] at this hb <;> simp at this hb <;> simp (disch:=omega) [h1,aI,hb,H.inl,aB,H.pp,ppB,this]
theorem VP (H:OL C) (i:It) (n:Int) (ht:0≤i.t∧i.t≤255) (hl:i.m.length≤1000000):FnW C 424 [eIt i,.int .i64 n]=some (.int .i64 (if yC n i=true then 0 else 6)):=by
 have hw:=Yj H.tooG i.x
 have hA:=Qj H i.k i.t i.x i.m i.e hl i.m.length 0 (by simp)
 have h0:=hA false
 have h1:=hA true
 rw [aF H.aiB rfl]
 unfold yC
 simp only [List.drop_zero,Bool.false_and,Bool.true_and] at h0 h1
 generalize i.m.all isName=M at *
 generalize isText i.x=X at *
 simp only [Em] at h0 h1
 simp at h0 h1
 by_cases c1:i.k=0
 · simp [Ol,eq_true c1,H.inl,aB,H.pp,ppB,hw,h0]
 · by_cases c2:n≤i.t
   · have c3:¬ i.t < n:=by omega
     simp (disch:=omega) [Ol,c1,c2,c3,aI,H.inl,aB,H.pp,ppB,hw,h0]
   · have c3:i.t < n:=by omega
     by_cases c4:i.m.length≤8
     · have c5:¬ (8 < (i.m.length:Int)):=by omega
       cases X
       · simp (disch:=omega) [Ol,c1,c2,c3,c4,c5,aI,H.inl,aB,H.pp,ppB,hw,h0]
       · simp (disch:=omega) [Ol,c1,c2,c3,c4,c5,aI,H.inl,aB,H.pp,ppB,hw,h1]
     · have c5:(8 < (i.m.length:Int)):=by omega
       simp (disch:=omega) [Ol,c1,c2,c3,c4,c5,aI,H.inl,aB,H.pp,ppB,hw,h0]
abbrev Bs:=List UInt8
@[simp] def eA (a:Bs × Bs):List AV:=[.str a.1,.str a.2]
structure Nd where
 k:Int
 t:Bs
 y:Bs
 a:List (Bs × Bs)
 ae:Bool
 x:Bs
 ch:List Nd
 ce:Bool
mutual
def Nd.c:Nd→List AV
 | ⟨k,t,y,a,ae,x,ch,ce⟩=>[.int .u8 k,.str t,.str y,.ro 2 (a.map eA) ae,.str x,.ro 6 (Nd.cs ch) ce]
def Nd.cs:List Nd→List (List AV)
 | []=>[]
 | n::r=>n.c::Nd.cs r
end
theorem Nd.P5:∀ l:List Nd,Nd.cs l=l.map Nd.c
 | []=>rfl
 | n::r=>by rw [Nd.cs,Nd.P5 r];rfl
theorem Nd.dD (n:Nd):n.c=[.int .u8 n.k,.str n.t,.str n.y,.ro 2 (n.a.map eA) n.ae,.str n.x,.ro 6 (n.ch.map Nd.c) n.ce]:=by
 cases n;rw [Nd.c,Nd.P5]
@[simp] theorem Nd.ajI (n:Nd):n.c.length=6:=by rw [Nd.dD];rfl
@[simp] theorem Nd.agL (n:Nd):n.c.take 6=n.c:=List.take_of_length_le (by simp)
@[simp] theorem Nd.c0 (n:Nd):n.c[0]?=some (.int .u8 n.k):=by rw [Nd.dD];rfl
@[simp] theorem Nd.c1 (n:Nd):n.c[1]?=some (.str n.t):=by rw [Nd.dD];rfl
@[simp] theorem Nd.c2 (n:Nd):n.c[2]?=some (.str n.y):=by rw [Nd.dD];rfl
@[simp] theorem Nd.c3 (n:Nd):n.c[3]?=some (.ro 2 (n.a.map eA) n.ae):=by rw [Nd.dD];rfl
@[simp] theorem Nd.c4 (n:Nd):n.c[4]?=some (.str n.x):=by rw [Nd.dD];rfl
@[simp] theorem Nd.c5 (n:Nd):n.c[5]?=some (.ro 6 (n.ch.map Nd.c) n.ce):=by rw [Nd.dD];rfl
@[simp] theorem Nd.g0 (n:Nd) (h:0 < n.c.length):n.c[0]=.int .u8 n.k:=Option.some.inj ((List.getElem?_eq_getElem h).symm.trans n.c0)
@[simp] theorem Nd.g1 (n:Nd) (h:1 < n.c.length):n.c[1]=.str n.t:=Option.some.inj ((List.getElem?_eq_getElem h).symm.trans n.c1)
@[simp] theorem Nd.g2 (n:Nd) (h:2 < n.c.length):n.c[2]=.str n.y:=Option.some.inj ((List.getElem?_eq_getElem h).symm.trans n.c2)
@[simp] theorem Nd.g3 (n:Nd) (h:3 < n.c.length):n.c[3]=.ro 2 (n.a.map eA) n.ae:=Option.some.inj ((List.getElem?_eq_getElem h).symm.trans n.c3)
@[simp] theorem Nd.g4 (n:Nd) (h:4 < n.c.length):n.c[4]=.str n.x:=Option.some.inj ((List.getElem?_eq_getElem h).symm.trans n.c4)
@[simp] theorem Nd.g5 (n:Nd) (h:5 < n.c.length):n.c[5]=.ro 6 (n.ch.map Nd.c) n.ce:=Option.some.inj ((List.getElem?_eq_getElem h).symm.trans n.c5)
@[simp] theorem Nd.hd (n:Nd):n.c.head?=some (.int .u8 n.k):=by rw [Nd.dD];rfl
@[simp] theorem Nd.ajL (n:Nd):bQ n.c=false:=by rw [Nd.dD];rfl
@[simp] theorem Nd.akm (n:Nd) (h:aJ) (k:Nat):bn (bM h (k+1)) n.c=some n.c:=by rw [Nd.dD];rfl
@[simp] theorem Nd.adC (n:Nd) (h:aJ) (k:Nat):n.c.flatMap (aN h (k+1))=[]:=by rw [Nd.dD];rfl
@[simp] theorem Nd.aki (n:Nd) (π:Nat→Option Nat):lM π n.c=some n.c:=by rw [Nd.dD];rfl
@[simp] theorem Nd.ah0 (n:Nd):CJ n.c=[]:=by rw [Nd.dD];rfl
@[simp] theorem Nd.ajt (n:Nd):n.c.all isC=true:=by rw [Nd.dD];rfl
@[simp] theorem Nd.ahv (n:Nd):n.c.all AV.cell=true:=by rw [Nd.dD];rfl
def after:Option Bs→Bs→Bool
 | none,_=>true
 | some p,a=>decide (p < a)
def atOk:Option Bs→List (Bs × Bs)→Bool
 | _,[]=>true
 | p,a::r=>isName a.1&&isText a.2&&after p a.1&&atOk (some a.1) r
def iq:List Bs→List Bs→Bool
 | _,[]=>true
 | p,k::r=>!(decide (k≠[])&&p.contains k)&&iq (p++[k]) r
def alone (n:Nd):Bool :=
 if n.k=2 then isText n.x&&decide (n.t=[])&&decide (n.y=[])&&decide (n.a=[])&&decide (n.ch=[])
 else decide (n.k=1)&&isName n.t&&(decide (n.y=[])||isName n.y)&&decide (n.x=[])&&decide (n.a.length≤8)&&decide (n.ch.length≤16)&&atOk none n.a&&iq [] (n.ch.map Nd.y)
structure Tj (C:aG):Prop extends oG C where
 ahN:C.fns.get 434=some xQ
 agw:C.fns.get 519=some Z5
 ahl:C.fns.get 518=some ZY
 ag8:C.fns.get 562=some adh
theorem apP (H:Tj C) (n:Nd) (c:Nd):FnW C 519 [.agg n.c,.rop c.c]=some (.bool (decide (n.y=c.y))):=by
 rw [aF H.agw rfl,Nd.dD,Nd.dD]
 by_cases h:n.y=c.y
 · simp [Z5,h]
 · simp [Z5,h]
theorem Ov (H:Tj C) (c:Nd) (l:List Nd) (e:Bool) (hl:l.length≤1000000):∀ n i,n+i=l.length →
 ∃ v:Int,zC C ⟨[(8,.int .i64 i),(7,.int .i64 l.length),(1,.fn 519 [.rop c.c]),(0,.ro 6 (l.map Nd.c) e)],[],0⟩=some (.int .i64 v)∧decide (v < 0)=!((l.drop i).map Nd.y).contains c.y:=by
 intro n
 induction n with
 | zero =>
  intro i hi
  simp only [zC];rw [aj vK.eq_1]
  have h1:l.drop i=[]:=List.drop_eq_nil_of_le (by omega)
  have h3:¬ i < l.length:=by omega
  exact ⟨-1,by simp [aj Oc.eq_1,h3],by simp [h1]⟩
 | succ n ih =>
  intro i hi
  have h1:i < l.length:=by omega
  have hb:=apP H l[i] c
  rw [drop_cons h1]
  by_cases q:l[i].y=c.y
  · refine ⟨i,?_,by simp [q]⟩
    simp only [zC];rw [aj vK.eq_1]
    simp (disch:=omega) [h1,hb,q,H.inl,aB,H.pp,ppB]
  · obtain ⟨v,hv,hq⟩:=ih (i+1) (by omega)
    refine ⟨v,?_,?_⟩
    · simp only [zC] at hv ⊢;rw [aj vK.eq_1]
      simp at hv
      simp (disch:=omega) [h1,aI,hb,q,H.inl,aB,H.pp,ppB,hv]
    · have q':¬ c.y=l[i].y:=fun h=>q h.symm
      simp [hq,q']
theorem NM (H:Tj C) (c:Nd) (l:List Nd) (e:Bool) (hl:l.length≤1000000):FnW C 518 [.ro 6 (l.map Nd.c) e,.fn 519 [.rop c.c]]=some (.bool ((l.map Nd.y).contains c.y)):=by
 obtain ⟨v,h,q⟩:=Ov H c l e hl l.length 0 (by simp)
 rw [List.drop_zero] at q
 have h2:FnW C 562 [.ro 6 (l.map Nd.c) e,.fn 519 [.rop c.c]]=some (.int .i64 v):=by
  rw [aF H.ag8 rfl]
  simp only [zC] at h
  simp at h
  simp [adh,h]
 have q':(l.map Nd.y).contains c.y=!decide (v < 0):=by rw [q];simp
 rw [aF H.ahl rfl,q']
 by_cases c:v < 0
 · have c':¬ 0≤v:=by omega
   simp [ZY,H.inl,aB,H.pp,ppB,h2,c,c']
 · have c':0≤v:=by omega
   simp [ZY,H.inl,aB,H.pp,ppB,h2,c,c']
theorem blt_eq:∀ x y:Bs,Pav.bytesLess x y=decide (x < y)
 | [],[]=>by simp [Pav.bytesLess]
 | [],_::_=>by simp [Pav.bytesLess]
 | _::_,[]=>by simp [Pav.bytesLess]
 | a::x,b::y=>by
  rw [Pav.bytesLess,blt_eq x y]
  by_cases h:a < b
  · simp [h,List.cons_lt_cons_iff]
  · by_cases q:a=b
    · simp [h,q,List.cons_lt_cons_iff]
    · simp [h,q,List.cons_lt_cons_iff]
theorem Ce (x y:Bs):(Pav.bytesLess x y||x == y)=!decide (y < x):=by
 rw [blt_eq]
 by_cases h:y < x
 · have h1:¬ x < y:=fun q=>List.lt_irrefl x (List.lt_trans q h)
   have h2:¬ x=y:=fun q=>by subst q;exact List.lt_irrefl x h
   simp [h,h1,h2]
 · rcases Decidable.em (x=y) with q | q
   · simp [h,q]
   · have h1:x < y:=Classical.byContradiction fun p=>q (List.le_antisymm (List.not_lt.1 h) (List.not_lt.1 p))
     simp [h,h1]
theorem X7 (H:Tj C) (k:Int) (t y x:Bs) (a:List (Bs × Bs)) (ae ce:Bool) (ch:List Nd) (hl:ch.length≤1000000):∀ n i,n+i=ch.length →
 ED C ⟨[(142,.int .i64 i),(141,.int .i64 ch.length),(140,.ro 6 (ch.map Nd.c) ce),(0,.rop [.int .u8 k,.str t,.str y,.ro 2 (a.map eA) ae,.str x,.ro 6 (ch.map Nd.c) ce])],[],0⟩ =
  some (.bool (iq ((ch.map Nd.y).take i) ((ch.map Nd.y).drop i))):=by
 intro n
 induction n with
 | zero =>
  intro i hi
  simp only [ED];rw [aj AU.eq_1]
  have h1:(ch.map Nd.y).drop i=[]:=List.drop_eq_nil_of_le (by simp;omega)
  have h3:¬ i < ch.length:=by omega
  simp [aj Ko.eq_1,h1,h3,iq,-List.map_drop]
 | succ n ih =>
  intro i hi
  have h1:i < ch.length:=by omega
  have h2:i < (ch.map Nd.y).length:=by simp;omega
  have hb:=NM H ch[i] (ch.take i) false (by simp;omega)
  have:=ih (i+1) (by omega)
  rw [List.take_succ_eq_append_getElem h2] at this
  rw [drop_cons h2,iq]
  have hy:(ch.map Nd.y)[i]=ch[i].y:=by simp
  rw [List.map_take,List.map_take] at hb
  rw [hy] at this ⊢
  have hne:¬ i=ch.length:=by omega
  have hle:i≤ch.length:=by omega
  simp only [ED] at this ⊢;rw [aj AU.eq_1]
  generalize hP:(ch.map Nd.y).take i=P at *
  generalize hQ:(ch.map Nd.y).drop (i+1)=Q at *
  simp at this
  by_cases c1:ch[i].y=[]
  · rw [c1] at this
    simp (disch:=omega) [h1,aI,c1,H.inl,aB,H.pp,ppB,this]
  · by_cases c2:P.contains ch[i].y=true
    · rw [c2] at hb
      have c2':ch[i].y ∈ P:=by simpa using c2
      simp (disch:=omega) [h1,hne,hle,aI,c1,c2',hb,H.inl,aB,H.pp,ppB,this]
    · have c2':¬ ch[i].y ∈ P:=by simpa using c2
      have c3:P.contains ch[i].y=false:=by simpa using c2
      rw [c3] at hb
      simp (disch:=omega) [h1,hne,hle,aI,c1,c2',hb,H.inl,aB,H.pp,ppB,this]
theorem Hg (H:Tj C) (k:Int) (t y x:Bs) (a:List (Bs × Bs)) (ae ce:Bool) (ch:List Nd) (hl:ch.length≤1000000) (ha:a.length≤1000000):∀ n i,n+i=a.length →
 zS C ⟨[(103,.int .i64 i),(102,.int .i64 a.length),(101,.ro 2 (a.map eA) ae),(0,.rop [.int .u8 k,.str t,.str y,.ro 2 (a.map eA) ae,.str x,.ro 6 (ch.map Nd.c) ce])],[],0⟩ =
  some (.bool (atOk (if i=0 then none else (a[i - 1]?).map Prod.fst) (a.drop i)&&iq [] (ch.map Nd.y))):=by
 intro n
 induction n with
 | zero =>
  intro i hi
  have hk:=X7 H k t y x a ae ce ch hl ch.length 0 (by simp)
  simp only [List.take_zero,List.drop_zero] at hk
  generalize iq [] (ch.map Nd.y)=K at *
  simp only [ED] at hk
  simp at hk
  simp only [zS];rw [aj Ag.eq_1]
  have h1:a.drop i=[]:=List.drop_eq_nil_of_le (by omega)
  have h3:¬ i < a.length:=by omega
  simp [aj Kr.eq_1,h1,h3,atOk,hk]
 | succ n ih =>
  intro i hi
  have h1:i < a.length:=by omega
  have hb:=named_ok H.tooG a[i].1
  have hc:=UA H.tooG a[i].2
  have:=ih (i+1) (by omega)
  rw [if_neg (by omega),show i+1 - 1=i from rfl,List.getElem?_eq_getElem h1] at this
  rw [drop_cons h1,atOk]
  generalize hK:iq [] (ch.map Nd.y)=K at *
  simp only [zS] at this ⊢;rw [aj Ag.eq_1]
  simp only [Option.map_some] at this
  generalize atOk (some a[i].1) (a.drop (i+1))=R at *
  simp at this
  cases q1:isName a[i].1
  · rw [q1] at hb
    simp (disch:=omega) [h1,aI,hb,H.inl,aB,H.pp,ppB]
  · cases q2:isText a[i].2
    · rw [q1] at hb;rw [q2] at hc
      simp (disch:=omega) [h1,aI,hb,hc,H.inl,aB,H.pp,ppB]
    · rw [q1] at hb;rw [q2] at hc
      cases i with
      | zero =>
       simp at this
       simp (disch:=omega) [h1,aI,hb,hc,H.inl,aB,H.pp,ppB,this,after]
      | succ i =>
       have h4:i < a.length:=by omega
       have h5:(i:Int)+1 < a.length:=by omega
       simp at this
       by_cases q3:a[i].1 < a[i+1].1
       · have q4:¬ a[i+1].1≤a[i].1:=List.not_le.2 q3
         simp (disch:=omega) [h1,h4,h5,aI,hb,hc,H.inl,aB,H.pp,ppB,this,Ce,after,q3,q4]
       · have q4:a[i+1].1≤a[i].1:=List.not_lt.1 q3
         simp (disch:=omega) [h1,h4,h5,aI,hb,hc,H.inl,aB,H.pp,ppB,this,Ce,after,q3,q4]
theorem aaO (H:Tj C) (n:Nd):FnW C 434 [.rop n.c]=some (.bool (alone n)):=by
 obtain ⟨k,t,y,a,ae,x,ch,ce⟩:=n
 rw [aF H.ahN rfl,Nd.dD]
 simp only []
 unfold alone
 simp only []
 have ht:=named_ok H.tooG t
 have hy:=named_ok H.tooG y
 have hx:=UA H.tooG x
 by_cases k2:k=2
 · rw [if_pos k2]
   generalize isText x=X at *
   cases X
   · simp [xQ,k2,hx,H.inl,aB,H.pp,ppB]
   · by_cases c1:t=[] <;> by_cases c2:y=[] <;> by_cases c3:a=[] <;> by_cases c4:ch=[] <;> simp [xQ,k2,hx,H.inl,aB,H.pp,ppB,c1,c2,c3,c4]
 · rw [if_neg k2]
   by_cases k1:k=1
   · cases q1:isName t
     · rw [q1] at ht;simp [xQ,k1,ht,H.inl,aB,H.pp,ppB]
     · rw [q1] at ht
       by_cases c2:y=[]
       · subst c2
         by_cases c3:x=[]
         · subst c3
           by_cases c4:a.length≤8
           · by_cases c5:ch.length≤16
             · have c6:¬ 8 < (a.length:Int):=by omega
               have c7:¬ 16 < (ch.length:Int):=by omega
               have hl:=Hg H 1 t [] [] a ae ce ch (by omega) (by omega) a.length 0 (by simp)
               simp only [zS,if_true,List.drop_zero] at hl
               generalize atOk none a=A at *
               generalize iq [] (ch.map Nd.y)=K at *
               simp at hl
               simp [xQ,k1,ht,H.inl,aB,H.pp,ppB,c4,c5,c6,c7,hl]
             · have c6:¬ 8 < (a.length:Int):=by omega
               have c7:16 < (ch.length:Int):=by omega
               simp [xQ,k1,ht,H.inl,aB,H.pp,ppB,c4,c5,c6,c7]
           · have c6:8 < (a.length:Int):=by omega
             simp [xQ,k1,ht,H.inl,aB,H.pp,ppB,c4,c6]
         · simp [xQ,k1,ht,H.inl,aB,H.pp,ppB,c3]
       · cases q2:isName y
         · rw [q2] at hy;simp [xQ,k1,ht,hy,H.inl,aB,H.pp,ppB,c2]
         · rw [q2] at hy
           by_cases c3:x=[]
           · subst c3
             by_cases c4:a.length≤8
             · by_cases c5:ch.length≤16
               · have c6:¬ 8 < (a.length:Int):=by omega
                 have c7:¬ 16 < (ch.length:Int):=by omega
                 have hl:=Hg H 1 t y [] a ae ce ch (by omega) (by omega) a.length 0 (by simp)
                 simp only [zS,if_true,List.drop_zero] at hl
                 generalize atOk none a=A at *
                 generalize iq [] (ch.map Nd.y)=K at *
                 simp at hl
                 simp [xQ,k1,ht,hy,H.inl,aB,H.pp,ppB,c2,c4,c5,c6,c7,hl]
               · have c6:¬ 8 < (a.length:Int):=by omega
                 have c7:16 < (ch.length:Int):=by omega
                 simp [xQ,k1,ht,hy,H.inl,aB,H.pp,ppB,c2,c4,c5,c6,c7]
             · have c6:8 < (a.length:Int):=by omega
               simp [xQ,k1,ht,hy,H.inl,aB,H.pp,ppB,c2,c4,c6]
           · simp [xQ,k1,ht,hy,H.inl,aB,H.pp,ppB,c2,c3]
   · simp [xQ,k1,k2,H.inl,aB,H.pp,ppB]
end Go.D
end
section
namespace Go.D
open Go Go.Pav Go.Pw P
attribute [-simp] List.getElem_cons_drop
variable {C:aG}
mutual
/-- The walk below a node: whether it ends well, how many nodes, how many levels. -/
def wk:Nd→Nat→Nat × Nat→Bool × (Nat × Nat)
 | ⟨k,t,y,a,ae,x,ch,ce⟩,lv,(c,d)=>if 6 < lv∨64 < c+1∨alone ⟨k,t,y,a,ae,x,ch,ce⟩=false then (false,(c+1,max d lv)) else wks ch (lv+1) (c+1,max d lv)
def wks:List Nd→Nat→Nat × Nat→Bool × (Nat × Nat)
 | [],_,s=>(true,s)
 | m::r,lv,s=>if (wk m lv s).1=true then wks r lv (wk m lv s).2 else (false,(wk m lv s).2)
end
theorem Yl (n:Nd) (lv c d:Nat):wk n lv (c,d)=if 6 < lv∨64 < c+1∨alone n=false then (false,(c+1,max d lv)) else wks n.ch (lv+1) (c+1,max d lv):=by cases n;rw [wk]
structure QF (C:aG):Prop extends Tj C where
 ahP:C.fns.get 433=some Fj
 f282:C.fns.get 282=some aeY
 f140:C.fns.get 140=some acO
 aiq:C.fns.get 439=some Yq
abbrev hpM (root:Nd) (s:Nat × Nat):aJ:=[(0,.cells 6 [root.c] true true),(1,.cells 1 [[.int .i64 s.1]] true true),(2,.cells 1 [[.int .i64 s.2]] true true),(3,.cells 1 [[.fn 433 [.ptr 1 0 0,.ptr 2 0 0,.ptr 3 0 0]]] true false)]
mutual
theorem af7:∀ (n:Nd) (lv c d:Nat),lv≤7→c≤64→d≤7→((wk n lv (c,d)).1=true→(wk n lv (c,d)).2.1≤64)∧(wk n lv (c,d)).2.2≤7
 | ⟨k,t,y,a,ae,x,ch,ce⟩,lv,c,d,h1,h2,h3=>by
  rw [wk]
  split
  · exact ⟨fun q=>by simp at q,by simp only;omega⟩
  · rename_i h
    exact aaL ch (lv+1) (c+1) (max d lv) (by omega) (by omega) (by omega)
theorem aaL:∀ (l:List Nd) (lv c d:Nat),lv≤7→c≤64→d≤7→((wks l lv (c,d)).1=true→(wks l lv (c,d)).2.1≤64)∧(wks l lv (c,d)).2.2≤7
 | [],lv,c,d,h1,h2,h3=>by rw [wks];exact ⟨fun _=>h2,h3⟩
 | m::r,lv,c,d,h1,h2,h3=>by
  have h4:=af7 m lv c d h1 h2 h3
  rw [wks]
  split
  · rename_i h
    exact aaL r lv _ _ h1 (h4.1 h) h4.2
  · exact ⟨fun q=>by simp at q,h4.2⟩
end
def Walks (C:aG) (root nd:Nd):Prop:=∀ (lv c d n:Nat),4≤n→c≤64→d≤7→lv≤7 →
 ∃ n',RnW C 433 [.rop nd.c,.int .i64 lv,.ptr 1 0 0,.ptr 2 0 0,.ptr 3 0 0] (hpM root (c,d)) n=some (.bool (wk nd lv (c,d)).1,hpM root (wk nd lv (c,d)).2,n')
theorem lG (d lv:Nat):imax d lv=((max d lv:Nat):Int):=by
 by_cases h:lv≤d
 · rw [NW (by omega),Nat.max_eq_left h]
 · rw [Zm (by omega),Nat.max_eq_right (by omega)]
theorem Xx (H:QF C) (root nd:Nd) (X:AV) (hX:X=.rop nd.c∨X=.ptr 0 0 0∧root=nd) (lv n:Nat) (hn:4≤n) (hlv:lv≤6) (hl:nd.ch.length≤16) (ih:∀ m ∈ nd.ch,Walks C root m):∀ j i,j+i=nd.ch.length→∀ c d,c≤64→d≤7 →
 ∃ n',CK C n (yF [.tmp 7]) [.sq Kz,.bk 0 ⟨true,[],[]⟩,.sq DU] wI ⟨[(30,.int .i64 i),(29,.int .i64 nd.ch.length),(4,.ptr 3 0 0),(1,.int .i64 lv),(0,X)],hpM root (c,d),n⟩ =
  some (.bool (wks (nd.ch.drop i) (lv+1) (c,d)).1,hpM root (wks (nd.ch.drop i) (lv+1) (c,d)).2,n'):=by
 have n0:0 < n:=by omega
 have n1:1 < n:=by omega
 have n2:2 < n:=by omega
 have n3:3 < n:=by omega
 intro j
 induction j with
 | zero =>
  intro i hi c d hc hd
  have h1:nd.ch.drop i=[]:=List.drop_eq_nil_of_le (by omega)
  have h3:¬ i < nd.ch.length:=by omega
  rw [h1,wks,aj wI.eq_1]
  refine ⟨?_,?_⟩
  rotate_left
  · rcases hX with rfl | ⟨rfl,rfl⟩
    · simp (disch:=omega) [aj DU.eq_1,n0,n1,n2,n3,h3]
      rfl
    · simp (disch:=omega) [aj DU.eq_1,n0,n1,n2,n3,h3]
 | succ j ihj =>
  intro i hi c d hc hd
  have h1:i < nd.ch.length:=by omega
  obtain ⟨n',hw⟩:=ih _ (List.getElem_mem h1) (lv+1) c d (n+1+1+1+11) (by omega) hc hd (by omega)
  have hb:=af7 nd.ch[i] (lv+1) c d (by omega) hc hd
  rw [drop_cons h1,wks]
  generalize hR:wk nd.ch[i] (lv+1) (c,d)=R at *
  obtain ⟨r,c',d'⟩:=R
  cases r with
  | true =>
   obtain ⟨n2',hw2⟩:=ihj (i+1) (by omega) c' d' (hb.1 rfl) hb.2
   refine ⟨n2',?_⟩
   rw [if_pos rfl]
   rw [aj wI.eq_1]
   simp at hw hw2
   rcases hX with rfl | ⟨rfl,rfl⟩
   · simp (disch:=omega) [aI,H.inl,aB,H.pp,ppB,n0,n1,n2,n3,h1,hw,hw2]
   · simp (disch:=omega) [aI,H.inl,aB,H.pp,ppB,n0,n1,n2,n3,h1,hw,hw2]
  | false =>
   rw [if_neg (by simp)]
   rw [aj wI.eq_1]
   simp at hw
   refine ⟨?_,?_⟩
   rotate_left
   · rcases hX with rfl | ⟨rfl,rfl⟩
     · simp (disch:=omega) [aI,H.inl,aB,H.pp,ppB,n0,n1,n2,n3,h1,hw]
       rfl
     · simp (disch:=omega) [aI,H.inl,aB,H.pp,ppB,n0,n1,n2,n3,h1,hw]
theorem Ji (H:QF C) (root nd:Nd) (X:AV) (hX:X=.rop nd.c∨X=.ptr 0 0 0∧root=nd) (ih:∀ m ∈ nd.ch,Walks C root m) (lv c d n:Nat) (hn:4≤n) (hc:c≤64) (hd:d≤7) (hlv:lv≤7) :
 ∃ n',RnW C 433 [X,.int .i64 lv,.ptr 1 0 0,.ptr 2 0 0,.ptr 3 0 0] (hpM root (c,d)) n=some (.bool (wk nd lv (c,d)).1,hpM root (wk nd lv (c,d)).2,n'):=by
 rw [aaY (args:=[X,.int .i64 lv,.ptr 1 0 0,.ptr 2 0 0,.ptr 3 0 0]) H.ahP rfl (hpM root (c,d)) n,Yl]
 have ha:=aaO H.toTj nd
 have n0:0 < n:=by omega
 have n1:1 < n:=by omega
 have n2:2 < n:=by omega
 have n3:3 < n:=by omega
 by_cases b1:6 < lv
 · rw [if_pos (.inl b1)]
   refine ⟨?_,?_⟩
   rotate_left
   · rcases hX with rfl | ⟨rfl,rfl⟩
     · simp (disch:=omega) [Fj,aI,H.inl,aB,H.pp,ppB,b1,n0,n1,n2,n3,lG]
       rfl
     · simp (disch:=omega) [Fj,aI,H.inl,aB,H.pp,ppB,b1,n0,n1,n2,n3,lG]
 · by_cases b2:64 < c+1
   · rw [if_pos (.inr (.inl b2))]
     have b2':64 < (c:Int)+1:=by omega
     refine ⟨?_,?_⟩
     rotate_left
     · rcases hX with rfl | ⟨rfl,rfl⟩
       · simp (disch:=omega) [Fj,aI,H.inl,aB,H.pp,ppB,b1,b2',n0,n1,n2,n3,lG]
         rfl
       · simp (disch:=omega) [Fj,aI,H.inl,aB,H.pp,ppB,b1,b2',n0,n1,n2,n3,lG]
   · have b2':¬ 64 < (c:Int)+1:=by omega
     cases b3:alone nd with
     | false =>
      rw [if_pos (.inr (.inr rfl))]
      rw [b3] at ha
      refine ⟨?_,?_⟩
      rotate_left
      · rcases hX with rfl | ⟨rfl,rfl⟩
        · simp (disch:=omega) [Fj,aI,H.inl,aB,H.pp,ppB,b1,b2',ha,n0,n1,n2,n3,lG]
          rfl
        · simp (disch:=omega) [Fj,aI,H.inl,aB,H.pp,ppB,b1,b2',ha,n0,n1,n2,n3,lG]
     | true =>
      rw [if_neg (by simp;omega)]
      have hl:nd.ch.length≤16:=by
       unfold alone at b3
       split at b3
       · simp at b3;rw [b3.2];simp
       · simp at b3;omega
      rw [b3] at ha
      obtain ⟨n',hw⟩:=Xx H root nd X hX lv n hn (by omega) hl ih nd.ch.length 0 (by simp) (c+1) (max d lv) (by omega) (by omega)
      refine ⟨n',?_⟩
      rw [List.drop_zero] at hw
      have hI:=lG d lv
      generalize max d lv=D at *
      generalize wks nd.ch (lv+1) (c+1,D)=R at *
      simp only [hpM] at hw ⊢
      simp at hw
      rcases hX with rfl | ⟨rfl,rfl⟩
      · simp (disch:=omega) [Fj,aI,H.inl,aB,H.pp,ppB,b1,b2',ha,n0,n1,n2,n3,hI,hw]
      · simp (disch:=omega) [Fj,aI,H.inl,aB,H.pp,ppB,b1,b2',ha,n0,n1,n2,n3,hI,hw]
theorem xw (n:Nd):SizeOf.sizeOf n.ch < SizeOf.sizeOf n:=by cases n;simp;omega
theorem walks (H:QF C) (root nd:Nd):Walks C root nd :=
 fun lv c d n hn hc hd hlv=>Ji H root nd (.rop nd.c) (.inl rfl) (fun m hm=>walks H root m) lv c d n hn hc hd hlv
termination_by SizeOf.sizeOf nd
decreasing_by
 have:=List.sizeOf_lt_of_mem hm
 have:=xw nd
 omega
def cnt (n:Nd):Nat:=if (wk n 1 (0,0)).1=true then (wk n 1 (0,0)).2.1 else 0
def dep (n:Nd):Nat:=if (wk n 1 (0,0)).1=true then (wk n 1 (0,0)).2.2 else 0
theorem TB (H:QF C) (n:Nd):FnW C 282 [.agg n.c]=some (.tup [.int .i64 (cnt n),.int .i64 (dep n)]):=by
 rw [aF H.f282 rfl]
 have hw:=fun k hk=>Ji H n n (.ptr 0 0 0) (.inr ⟨rfl,rfl⟩) (fun m _=>walks H n m) 1 0 0 k hk (by omega) (by omega) (by omega)
 unfold cnt dep
 generalize wk n 1 (0,0)=R at *
 obtain ⟨r,c,d⟩:=R
 obtain ⟨n',h⟩:=hw 8 (by omega)
 simp only [hpM] at h
 simp at h
 cases r <;> simp [aeY,H.inl,aB,H.pp,ppB,h]
theorem Pj (H:QF C) (n:Nd):FnW C 140 [.agg n.c]=some (.int .i64 (cnt n)):=by
 have h:=TB H n
 rw [aF H.f140 rfl]
 simp [acO,H.inl,aB,H.pp,ppB,h]
theorem Fq (H:QF C) (n:Nd):FnW C 439 [.agg n.c]=some (.int .i64 (if cnt n=0 then 14 else 0)):=by
 have h:=Pj H n
 rw [aF H.aiq rfl]
 by_cases c:cnt n=0
 · simp [Yq,H.inl,aB,H.pp,ppB,h,c]
 · simp [Yq,H.inl,aB,H.pp,ppB,h,c]
end Go.D
end
section
namespace Go.D
open Go Go.Pav Go.Pw P
attribute [-simp] List.getElem_cons_drop
variable {C:aG}
structure OC (C:aG):Prop extends QF C where
 Zk:C.fns.get 563=some xU
 ahJ:C.fns.get 520=some XJ
 agS:C.fns.get 442=some abm
 agN:C.fns.get 441=some Yi
abbrev hp1 (n:Nd):aJ:=[(0,.cells 6 [n.c] true true)]
theorem abG (n:Nd) (i:Nat) (hi:i < n.ch.length) (hl:n.ch.length≤16) (R:AV)
 (hout:xJ C ⟨[(5,.int .i64 (i+1:Nat)),(1,.ptr 0 0 0)],hp1 n,1⟩=some R):∀ j k,j+k=i →
 DW C ⟨[(6,.int .i64 k),(5,.int .i64 i),(1,.ptr 0 0 0)],hp1 n,1⟩=some (if decide (n.ch[i].y≠[])&&(((n.ch.map Nd.y).take i).drop k).contains n.ch[i].y then .bool false else R):=by
 intro j
 induction j with
 | zero =>
  intro k hk
  have h1:((n.ch.map Nd.y).take i).drop k=[]:=List.drop_eq_nil_of_le (by simp;omega)
  have h3:¬ k < i:=by omega
  simp only [xJ] at hout
  simp only [DW];rw [aj zf.eq_1]
  simp at hout
  simp (disch:=omega) [aj Lm.eq_1,h1,h3,aI,hout]
 | succ j ih =>
  intro k hk
  have h1:k < i:=by omega
  have h2:k < n.ch.length:=by omega
  have hlt:k < ((n.ch.map Nd.y).take i).length:=by simp;omega
  have:=ih (k+1) (by omega)
  rw [drop_cons hlt]
  have hy:((n.ch.map Nd.y).take i)[k]=n.ch[k].y:=by simp
  rw [hy]
  generalize (((n.ch.map Nd.y).take i).drop (k+1))=Q at *
  simp only [DW] at this ⊢;rw [aj zf.eq_1]
  simp at this
  by_cases c1:n.ch[i].y=[]
  · simp [c1] at this
    simp (disch:=omega) [h1,h2,hi,aI,c1,this]
  · by_cases c2:n.ch[i].y=n.ch[k].y
    · have c3:¬ n.ch[k].y=[]:=by rw [← c2];exact c1
      simp (disch:=omega) [h1,h2,hi,aI,c1,c2,c3]
    · simp [c1] at this
      simp (disch:=omega) [h1,h2,hi,aI,c1,c2,this]
theorem XI (n:Nd) (hl:n.ch.length≤16):∀ j i,j+i=n.ch.length →
 xJ C ⟨[(5,.int .i64 i),(1,.ptr 0 0 0)],hp1 n,1⟩=some (.bool (iq ((n.ch.map Nd.y).take i) ((n.ch.map Nd.y).drop i))):=by
 intro j
 induction j with
 | zero =>
  intro i hi
  simp only [xJ];rw [aj Aw.eq_1]
  have h1:(n.ch.map Nd.y).drop i=[]:=List.drop_eq_nil_of_le (by simp;omega)
  have h3:¬ i < n.ch.length:=by omega
  simp [aj Eu.eq_1,h1,h3,iq,-List.map_drop]
 | succ j ih =>
  intro i hi
  have h1:i < n.ch.length:=by omega
  have h2:i < (n.ch.map Nd.y).length:=by simp;omega
  have hin:=abG n i h1 hl _ (ih (i+1) (by omega)) i 0 (by simp)
  have hy:(n.ch.map Nd.y)[i]=n.ch[i].y:=by simp
  rw [List.take_succ_eq_append_getElem h2,List.drop_zero,hy] at hin
  rw [drop_cons h2,iq,hy]
  generalize (n.ch.map Nd.y).take i=P at *
  generalize (n.ch.map Nd.y).drop (i+1)=Q at *
  simp only [xJ,DW] at hin ⊢;rw [aj Aw.eq_1]
  simp at hin
  by_cases c1:n.ch[i].y=[]
  · simp [c1] at hin
    simp (disch:=omega) [h1,hin,c1]
  · by_cases c2:n.ch[i].y ∈ P
    · simp [c1,c2] at hin
      simp (disch:=omega) [h1,hin,c1,c2]
    · simp [c1,c2] at hin
      simp (disch:=omega) [h1,hin,c1,c2]
theorem Zi (n:Nd) (i:Nat) (hi:i < n.a.length) (hl:n.a.length≤8) (R:AV)
 (hout:mZ C ⟨[(3,.int .i64 (i+1:Nat)),(1,.ptr 0 0 0)],hp1 n,1⟩=some R):∀ j k,j+k=i →
 oW C ⟨[(4,.int .i64 k),(3,.int .i64 i),(1,.ptr 0 0 0)],hp1 n,1⟩=some (if ((n.a.take i).drop k).all (fun b=>decide (b.1 < n.a[i].1))=true then R else .bool false):=by
 intro j
 induction j with
 | zero =>
  intro k hk
  have h1:(n.a.take i).drop k=[]:=List.drop_eq_nil_of_le (by simp;omega)
  have h3:¬ k < i:=by omega
  simp only [mZ] at hout
  simp only [oW];rw [aj rX.eq_1]
  simp at hout
  simp (disch:=omega) [aj LU.eq_1,h1,h3,aI,hout]
 | succ j ih =>
  intro k hk
  have h1:k < i:=by omega
  have h2:k < n.a.length:=by omega
  have hlt:k < (n.a.take i).length:=by simp;omega
  have:=ih (k+1) (by omega)
  rw [drop_cons hlt]
  have hy:(n.a.take i)[k]=n.a[k]:=by simp
  rw [hy]
  generalize ((n.a.take i).drop (k+1))=Q at *
  simp only [oW] at this ⊢;rw [aj rX.eq_1]
  simp at this
  by_cases c1:n.a[k].1 < n.a[i].1
  · rw [List.all_cons,decide_eq_true c1,Bool.true_and]
    simp (disch:=omega) [h1,h2,hi,aI,blt_eq,c1,this]
  · rw [List.all_cons,decide_eq_false c1,Bool.false_and]
    have c2:n.a[i].1≤n.a[k].1:=List.not_lt.1 c1
    simp (disch:=omega) [h1,h2,hi,aI,blt_eq,c1,c2]
theorem Xe (n:Nd) (i:Nat) (hi:i < n.a.length) (hl:n.a.length≤8):∀ j k,j+k=i→((n.a.take i).drop k).all (fun b=>decide (b.1 < n.a[i].1))=false →
 oW C ⟨[(4,.int .i64 k),(3,.int .i64 i),(1,.ptr 0 0 0)],hp1 n,1⟩=some (.bool false):=by
 intro j
 induction j with
 | zero =>
  intro k hk hf
  have h1:(n.a.take i).drop k=[]:=List.drop_eq_nil_of_le (by simp;omega)
  rw [h1] at hf
  simp at hf
 | succ j ih =>
  intro k hk hf
  have h1:k < i:=by omega
  have h2:k < n.a.length:=by omega
  have hlt:k < (n.a.take i).length:=by simp;omega
  rw [drop_cons hlt] at hf
  have hy:(n.a.take i)[k]=n.a[k]:=by simp
  rw [hy,List.all_cons] at hf
  by_cases c1:n.a[k].1 < n.a[i].1
  · rw [decide_eq_true c1,Bool.true_and] at hf
    have:=ih (k+1) (by omega) hf
    simp only [oW] at this ⊢;rw [aj rX.eq_1]
    simp at this
    simp (disch:=omega) [h1,h2,hi,aI,blt_eq,c1,this]
  · have c2:n.a[i].1≤n.a[k].1:=List.not_lt.1 c1
    simp only [oW];rw [aj rX.eq_1]
    simp (disch:=omega) [h1,h2,hi,aI,blt_eq,c1,c2]
theorem XA (H:OC C) (n:Nd) (hl:n.a.length≤8) (hl2:n.ch.length≤16):∀ j i,j+i=n.a.length→(∀ (p q:Nat) (hp:p < n.a.length) (hq:q < n.a.length),p < q→q < i→n.a[p].1 < n.a[q].1) →
 mZ C ⟨[(3,.int .i64 i),(1,.ptr 0 0 0)],hp1 n,1⟩=some (.bool (atOk (if i=0 then none else (n.a[i - 1]?).map Prod.fst) (n.a.drop i)&&iq [] (n.ch.map Nd.y))):=by
 intro j
 induction j with
 | zero =>
  intro i hi hs
  have hk:=XI (C:=C) n hl2 n.ch.length 0 (by simp)
  simp only [List.take_zero,List.drop_zero] at hk
  generalize iq [] (n.ch.map Nd.y)=K at *
  simp only [xJ] at hk
  simp at hk
  simp only [mZ];rw [aj tJ.eq_1]
  have h1:n.a.drop i=[]:=List.drop_eq_nil_of_le (by omega)
  have h3:¬ i < n.a.length:=by omega
  simp [aj EY.eq_1,h1,h3,atOk,hk]
 | succ j ih =>
  intro i hi hs
  have h1:i < n.a.length:=by omega
  have hb:=oh H.tooG n.a[i].1
  have hc:=Ai H.tooG n.a[i].2
  rw [drop_cons h1,atOk]
  generalize hK:iq [] (n.ch.map Nd.y)=K at *
  cases q1:isName n.a[i].1
  · rw [q1] at hb
    simp only [mZ];rw [aj tJ.eq_1]
    simp (disch:=omega) [h1,aI,hb,H.inl,aB,H.pp,ppB]
  · cases q2:isText n.a[i].2
    · rw [q1] at hb;rw [q2] at hc
      simp only [mZ];rw [aj tJ.eq_1]
      simp (disch:=omega) [h1,aI,hb,hc,H.inl,aB,H.pp,ppB]
    · rw [q1] at hb;rw [q2] at hc
      have key:(n.a.take i).all (fun b=>decide (b.1 < n.a[i].1))=after (if i=0 then none else (n.a[i - 1]?).map Prod.fst) n.a[i].1:=by
       cases i with
       | zero=>simp [after]
       | succ i =>
        have h4:i < n.a.length:=by omega
        rw [if_neg (by omega),show i+1 - 1=i from rfl,List.getElem?_eq_getElem h4]
        simp only [Option.map_some,after]
        by_cases q3:n.a[i].1 < n.a[i+1].1
        · rw [decide_eq_true q3,List.all_eq_true]
          intro b hb
          obtain ⟨p,hp,rfl⟩:=List.getElem_of_mem hb
          simp at hp
          rw [List.getElem_take]
          apply decide_eq_true
          by_cases e:p=i
          · subst e;exact q3
          · exact List.lt_trans (hs p i (by omega) h4 (by omega) (by omega)) q3
        · rw [decide_eq_false q3,List.all_eq_false]
          exact ⟨n.a[i],List.mem_take_iff_getElem.2 ⟨i,by omega,rfl⟩,by simp [q3]⟩
      have step:∀ R,oW C ⟨[(4,.int .i64 (0:Nat)),(3,.int .i64 i),(1,.ptr 0 0 0)],hp1 n,1⟩=some R→mZ C ⟨[(3,.int .i64 i),(1,.ptr 0 0 0)],hp1 n,1⟩=some R:=by
       intro R hR
       simp only [mZ,oW] at hR ⊢;rw [aj tJ.eq_1]
       simp at hR
       simp (disch:=omega) [h1,aI,hb,hc,H.inl,aB,H.pp,ppB,hR]
      by_cases q3:(n.a.take i).all (fun b=>decide (b.1 < n.a[i].1))=true
      · have:=ih (i+1) (by omega) (fun p q hp hq h5 h6=>by
         by_cases e:q=i
         · subst e
           have:=List.all_eq_true.1 q3 n.a[p] (List.mem_take_iff_getElem.2 ⟨p,by omega,rfl⟩)
           simpa using this
         · exact hs p q hp hq h5 (by omega))
        rw [if_neg (by omega),show i+1 - 1=i from rfl,List.getElem?_eq_getElem h1] at this
        have hin:=Zi n i h1 hl _ this i 0 (by simp)
        rw [List.drop_zero,if_pos q3] at hin
        rw [step _ hin,← key,q3]
        simp
      · have q4:(n.a.take i).all (fun b=>decide (b.1 < n.a[i].1))=false:=Bool.eq_false_iff.2 q3
        rw [← key,q4]
        simp only [Bool.and_false,Bool.false_and]
        exact step _ (Xe n i h1 hl i 0 (by simp) (by rw [List.drop_zero];exact q4))
theorem agJ (H:OC C) (n:Nd):FnW C 563 [.agg n.c]=some (.bool (alone n)):=by
 rw [aF H.Zk rfl]
 unfold alone
 have ht:=oh H.tooG n.t
 have hy:=oh H.tooG n.y
 have hx:=Ai H.tooG n.x
 by_cases k2:n.k=2
 · rw [if_pos k2]
   generalize isText n.x=X at *
   cases X
   · simp [xU,k2,hx,H.inl,aB,H.pp,ppB]
   · by_cases c1:n.t=[] <;> by_cases c2:n.y=[] <;> by_cases c3:n.a=[] <;> by_cases c4:n.ch=[] <;> simp [xU,k2,hx,H.inl,aB,H.pp,ppB,c1,c2,c3,c4]
 · rw [if_neg k2]
   by_cases k1:n.k=1
   · cases q1:isName n.t
     · rw [q1] at ht;simp [xU,k1,ht,H.inl,aB,H.pp,ppB]
     · rw [q1] at ht
       have rest:(n.y=[]∨n.y≠[]∧isName n.y=true)→FnW C 563 [.agg n.c]=some (.bool (decide (n.x=[])&&decide (n.a.length≤8)&&decide (n.ch.length≤16)&&atOk none n.a&&iq [] (n.ch.map Nd.y))):=by
        intro hyy
        rw [aF H.Zk rfl]
        by_cases c3:n.x=[]
        · by_cases c4:n.a.length≤8
          · by_cases c5:n.ch.length≤16
            · have c6:¬ 8 < (n.a.length:Int):=by omega
              have c7:¬ 16 < (n.ch.length:Int):=by omega
              have hl:=XA H n c4 c5 n.a.length 0 (by simp) (by omega)
              simp only [mZ,if_true,List.drop_zero] at hl
              generalize atOk none n.a=A at *
              generalize iq [] (n.ch.map Nd.y)=K at *
              simp at hl
              rcases hyy with c2 | ⟨c2,q2⟩
              · simp [xU,k1,ht,H.inl,aB,H.pp,ppB,eq_true c2,eq_true c3,c4,c5,c6,c7,hl]
              · rw [q2] at hy
                simp [xU,k1,ht,hy,H.inl,aB,H.pp,ppB,c2,eq_true c3,c4,c5,c6,c7,hl]
            · have c6:¬ 8 < (n.a.length:Int):=by omega
              have c7:16 < (n.ch.length:Int):=by omega
              rcases hyy with c2 | ⟨c2,q2⟩
              · simp [xU,k1,ht,H.inl,aB,H.pp,ppB,eq_true c2,eq_true c3,c4,c5,c6,c7]
              · rw [q2] at hy
                simp [xU,k1,ht,hy,H.inl,aB,H.pp,ppB,c2,eq_true c3,c4,c5,c6,c7]
          · have c6:8 < (n.a.length:Int):=by omega
            rcases hyy with c2 | ⟨c2,q2⟩
            · simp [xU,k1,ht,H.inl,aB,H.pp,ppB,eq_true c2,eq_true c3,c4,c6]
            · rw [q2] at hy
              simp [xU,k1,ht,hy,H.inl,aB,H.pp,ppB,c2,eq_true c3,c4,c6]
        · rcases hyy with c2 | ⟨c2,q2⟩
          · simp [xU,k1,ht,H.inl,aB,H.pp,ppB,eq_true c2,c3]
          · rw [q2] at hy
            simp [xU,k1,ht,hy,H.inl,aB,H.pp,ppB,c2,c3]
       rw [aF H.Zk rfl] at rest
       by_cases c2:n.y=[]
       · rw [rest (.inl c2)];simp [k1,c2]
       · cases q2:isName n.y
         · rw [q2] at hy;simp [xU,k1,ht,hy,H.inl,aB,H.pp,ppB,c2]
         · rw [rest (.inr ⟨c2,q2⟩)];simp [k1]
   · simp [xU,k1,k2,H.inl,aB,H.pp,ppB]
mutual
/-- The specification's count, with so many levels. -/
def rc:Nd→Nat→Nat
 | _,0=>1000
 | ⟨k,t,y,a,ae,x,ch,ce⟩,lv+1=>if alone ⟨k,t,y,a,ae,x,ch,ce⟩=true then rcs ch lv 1 else 1000
def rcs:List Nd→Nat→Nat→Nat
 | [],_,c=>c
 | m::r,lv,c=>if c≤64 then rcs r lv (c+rc m lv) else c
end
theorem aiv (n:Nd):rc n 0=1000:=by cases n;rw [rc]
theorem adR (n:Nd) (lv:Nat):rc n (lv+1)=if alone n=true then rcs n.ch lv 1 else 1000:=by cases n;rw [rc]
theorem Hl:∀ (l:List Nd) (lv c:Nat),c≤rcs l lv c
 | [],lv,c=>by rw [rcs];exact Nat.le_refl _
 | m::r,lv,c=>by
  rw [rcs]
  split
  · have:=Hl r lv (c+rc m lv);omega
  · exact Nat.le_refl _
theorem afV (n:Nd) (lv:Nat):1≤rc n lv:=by
 cases lv with
 | zero=>rw [aiv];omega
 | succ lv =>
  rw [adR]
  split
  · exact Hl _ _ _
  · omega
mutual
theorem afH:∀ (n:Nd) (lv:Nat),rc n lv≤1000+64 * lv
 | ⟨k,t,y,a,ae,x,ch,ce⟩,0=>by rw [rc];omega
 | ⟨k,t,y,a,ae,x,ch,ce⟩,lv+1=>by
  rw [rc]
  split
  · have:=aaZ ch lv 1 (by omega);omega
  · omega
theorem aaZ:∀ (l:List Nd) (lv c:Nat),c≤1064+64 * lv→rcs l lv c≤1064+64 * lv
 | [],lv,c,h=>by rw [rcs];exact h
 | m::r,lv,c,h=>by
  rw [rcs]
  split
  · have h2:=afH m lv
    exact aaZ r lv _ (by omega)
  · exact h
end
mutual
theorem afY:∀ (n:Nd) (lv L c d:Nat),lv+L=7→c≤64→((wk n L (c,d)).1=true→(wk n L (c,d)).2.1=c+rc n lv∧c+rc n lv≤64)∧((wk n L (c,d)).1=false→64 < c+rc n lv)
 | ⟨k,t,y,a,ae,x,ch,ce⟩,lv,L,c,d,h1,h2=>by
  have hge:=afV ⟨k,t,y,a,ae,x,ch,ce⟩ lv
  rw [wk]
  by_cases q:6 < L∨64 < c+1∨alone ⟨k,t,y,a,ae,x,ch,ce⟩=false
  · rw [if_pos q]
    refine ⟨fun r=>by simp at r,fun _=>?_⟩
    rcases q with q | q | q
    · have:lv=0:=by omega
      subst this
      rw [rc];omega
    · omega
    · cases lv with
      | zero=>rw [rc];omega
      | succ lv=>rw [rc,if_neg (by simp [q])];omega
  · rw [if_neg q]
    cases lv with
    | zero=>omega
    | succ lv =>
     rw [rc,if_pos (by simpa using fun r=>q (.inr (.inr r)))]
     exact aaz ch lv (L+1) c 1 (max d L) (by omega) (by omega)
theorem aaz:∀ (l:List Nd) (lv L g c d:Nat),lv+L=7→g+c≤64→((wks l L (g+c,d)).1=true→(wks l L (g+c,d)).2.1=g+rcs l lv c∧g+rcs l lv c≤64)∧((wks l L (g+c,d)).1=false→64 < g+rcs l lv c)
 | [],lv,L,g,c,d,h1,h2=>by
  rw [wks,rcs];exact ⟨fun _=>⟨rfl,h2⟩,fun r=>by simp at r⟩
 | m::r,lv,L,g,c,d,h1,h2=>by
  have hm:=afY m lv L (g+c) d h1 h2
  have hr:rcs (m::r) lv c=rcs r lv (c+rc m lv):=by rw [rcs,if_pos (by omega)]
  rw [wks,hr]
  generalize wk m L (g+c,d)=R at *
  obtain ⟨b,c',d'⟩:=R
  cases b with
  | true =>
   obtain ⟨e1,e2⟩:=hm.1 rfl
   rw [if_pos rfl]
   simp only at e1
   rw [e1,Nat.add_assoc]
   exact aaz r lv L g (c+rc m lv) d' h1 (by omega)
  | false =>
   have e:=hm.2 rfl
   rw [if_neg (by simp)]
   refine ⟨fun q=>by simp at q,fun _=>?_⟩
   have:=Hl r lv (c+rc m lv)
   omega
end
theorem LZ (n:Nd):cnt n=if 64 < rc n 6 then 0 else rc n 6:=by
 have h:=afY n 6 1 0 0 rfl (by omega)
 unfold cnt
 generalize wk n 1 (0,0)=R at *
 obtain ⟨b,c,d⟩:=R
 cases b with
 | true =>
  obtain ⟨e1,e2⟩:=h.1 rfl
  simp only at e1
  rw [if_pos rfl,if_neg (by omega)];simp only;omega
 | false =>
  have e:=h.2 rfl
  rw [if_neg (by simp),if_pos (by omega)]
theorem Qk (H:OC C) (n:Nd) (lv:Nat) (hlv:lv≤5) (hl:n.ch.length≤16) (ih:∀ m ∈ n.ch,FnW C 520 [.agg m.c,.int .i64 lv]=some (.int .i64 (rc m lv))):∀ j i,j+i=n.ch.length→∀ c,c≤1064+64 * lv →
 yS C ⟨[(6,.int .i64 i),(5,.int .i64 c),(2,.ptr 0 0 0),(1,.int .i64 (lv+1:Nat))],hp1 n,1⟩=some (.int .i64 (rcs (n.ch.drop i) lv c)):=by
 intro j
 induction j with
 | zero =>
  intro i hi c hc
  simp only [yS];rw [aj wY.eq_1]
  have h1:n.ch.drop i=[]:=List.drop_eq_nil_of_le (by omega)
  have h3:¬ i < n.ch.length:=by omega
  rw [h1,rcs]
  simp [aj DN.eq_1,h3]
 | succ j ihj =>
  intro i hi c hc
  have h1:i < n.ch.length:=by omega
  have hm:=ih _ (List.getElem_mem h1)
  have hle:=afH n.ch[i] lv
  rw [drop_cons h1,rcs]
  by_cases c1:c≤64
  · have:=ihj (i+1) (by omega) (c+rc n.ch[i] lv) (by omega)
    rw [if_pos c1]
    have c2:(c:Int)≤64:=by omega
    simp only [yS] at this ⊢;rw [aj wY.eq_1]
    simp at this
    simp (disch:=omega) [h1,c1,c2,aI,hm,H.inl,aB,H.pp,ppB,this]
  · rw [if_neg c1]
    have c2:¬ (c:Int)≤64:=by omega
    simp only [yS];rw [aj wY.eq_1]
    simp (disch:=omega) [aj DN.eq_1,h1,c1,c2]
theorem Ot (H:OC C) (n:Nd) (ih:∀ m ∈ n.ch,∀ lv:Nat,lv≤6→FnW C 520 [.agg m.c,.int .i64 lv]=some (.int .i64 (rc m lv))) (lv:Nat) (hlv:lv≤6):FnW C 520 [.agg n.c,.int .i64 lv]=some (.int .i64 (rc n lv)):=by
 have ho:=agJ H n
 rw [aF H.ahJ rfl]
 cases lv with
 | zero=>rw [aiv];simp [XJ]
 | succ lv =>
  rw [adR]
  have c1:¬ (lv:Int)+1 < 1:=by omega
  cases ha:alone n with
  | false=>rw [ha] at ho;simp [XJ,c1,ho,H.inl,aB,H.pp,ppB]
  | true =>
   rw [ha] at ho
   have hl:n.ch.length≤16:=by
    unfold alone at ha
    split at ha
    · simp at ha;rw [ha.2];simp
    · simp at ha;omega
   have hr:=Qk H n lv (by omega) hl (fun m hm=>ih m hm lv (by omega)) n.ch.length 0 (by simp) 1 (by omega)
   rw [List.drop_zero] at hr
   simp only [yS] at hr
   simp at hr
   simp [XJ,c1,ho,H.inl,aB,H.pp,ppB,hr]
theorem I8 (H:OC C) (n:Nd) (lv:Nat) (hlv:lv≤6):FnW C 520 [.agg n.c,.int .i64 lv]=some (.int .i64 (rc n lv)) :=
 Ot H n (fun m hm lv hlv=>I8 H m lv hlv) lv hlv
termination_by SizeOf.sizeOf n
decreasing_by
 have:=List.sizeOf_lt_of_mem hm
 have:=xw n
 omega
theorem IE (H:OC C) (n:Nd):FnW C 442 [.agg n.c]=some (.int .i64 (cnt n)):=by
 have h:=I8 H n 6 (by omega)
 rw [aF H.agS rfl,LZ]
 generalize rc n 6=R at *
 simp at h
 by_cases c:64 < R
 · have c1:64 < (R:Int):=by omega
   simp [abm,H.inl,aB,H.pp,ppB,h,c,c1]
 · have c1:¬ 64 < (R:Int):=by omega
   simp [abm,H.inl,aB,H.pp,ppB,h,c,c1]
theorem IC (H:OC C) (n:Nd):FnW C 441 [.agg n.c]=some (.int .i64 (if cnt n=0 then 14 else 0)):=by
 have h:=IE H n
 rw [aF H.agN rfl]
 by_cases c:cnt n=0
 · simp [Yi,H.inl,aB,H.pp,ppB,h,c]
 · simp [Yi,H.inl,aB,H.pp,ppB,h,c]
end Go.D
end
