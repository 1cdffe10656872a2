/- Part of the theory that the claims of this work use: PwP, PwLib, D01, PavLink, L24, PwGlue, PwGlue2, G00, D02, D03, D04, D05, D06. No conditions of its own. -/
import Derived.Test.YtfkdbfgdncamdaaGreatT4
import Derived.Laws.RangeAny
import Derived.Test.YtfkdbfgdncamdaaGreatChecked
import Derived.KernelRfl
import Derived.ChangeSame
import Derived.ChangeArms
import Derived.ReadAgain
import Derived.Handed
import Derived.JoinedOf
import Derived.RowKit
import Derived.Test.YtfkdbfgdncamdaaGreatRows
import Derived.ProofKit
import Derived.Sort.Walk0
set_option linter.unusedVariables false
set_option linter.unusedSimpArgs false
set_option maxHeartbeats 4000000
set_option maxRecDepth 10000
section
set_option maxRecDepth 100000
namespace P
open Go Go.Pav Go.Pw Go.Pw.Z Go.Pw.ZC
def w0:WFn:=⟨0,[],zd (O 0 [E .fail])⟩
def iY:aC:=zd (s (R 188 [h 7 2,ca 283 [188],d 187 (m 189),ex 0 187,ex 1 187,ex 2 187,d 21 (E (.alloc [.int .i64 0,.int .i64 0,.int .i64 0,.ro 9 [] true,.int .i64 0,.int .i64 0,.int .u8 0])),d 22 (E (.alloc [.ro 8 [] true,.ro 1 [] true])),d 23 (E (.alloc [.ro 6 [] true,.ro 6 [] true])),n (st 7 21 190),n (st 2 22 191),n (st 2 23 192)] ⟨true,[22,13,10,6],[(9999,65537)]⟩) (r (V 193 [h 2 13,h 2 10,ca 286 [193,194],h 2 6,h 2 22,ca 286 [196,197],E (.bin .mul (T 195) (T 198)),eqi 199 1,m 200,y 201 (ca 145 []),pa 201 202,d 4 (m 203)] [(2,3),(2,4)] ⟨false,[],[]⟩)))
def D9:aC:=zd (O 157 [m 19,adi 157 1,d 19 (m 158)])
def wG:aC:=zd (s (s (R 165 [m 20,f 0 16,l 1 166,m 19,ix 8 167 168,f 2 169,f 5 170,l 1 171,ln 1 172,lt 165 173] ⟨true,[174,20,19,16,13,10,6,2],[(9999,65537)]⟩) (cc 174 (w .skip) (ee 2))) (s (B 3 (O 177 [f 0 16,l 1 177,m 19,ix 8 178 179,f 2 180,f 5 181,l 1 182,m 20,ix 6 183 184,f 4 185,n (E (.store 1 (T 186) (.c (.str [111,116,104,101,114]))))])) (O 175 [m 20,adi 175 1,d 20 (m 176)])))
def DI:aC:=.loop ⟨true,[20,19,16,13,10,6,2],[(9999,65537)]⟩ wG
def lT:aC:=zd (s (s (O 152 [m 19,f 0 16,l 1 153,ln 1 154,lt 152 155]) (cc 156 (w .skip) (ee 0))) (s (bk 1 (s (O 159 [f 0 16,l 1 159,m 19,ix 8 160 161,f 2 162,f 1 163,n (E (.store 1 (T 164) (.c (.str [111,116,104,101,114]))))]) (s (O 20 [i 0]) (bk 2 DI ⟨true,[19,16,13,10,6,2],[(9999,65537)]⟩))) ⟨true,[19,16,13,10,6,2],[(9999,65537)]⟩) D9))
def nK:aC:=.loop ⟨true,[19,16,13,10,6,2],[(9999,65537)]⟩ lT
def adM:WFn:=⟨2,[.tmp 4],zd (s (O 2 [bx 0,bx 1,ff]) (s (R 25 [h 7 2,ca 283 [25],d 24 (m 26),ex 0 24,ex 1 24,ex 2 24,d 5 (E (.alloc [.int .i64 0,.int .i64 0,.int .i64 0,.ro 9 [] true,.int .i64 0,.int .i64 0,.int .u8 0])),d 6 (E (.alloc [.ro 8 [] true,.ro 1 [] true])),d 7 (E (.alloc [.ro 6 [] true,.ro 6 [] true])),n (st 7 5 27),n (st 2 6 28),n (st 2 7 29)] ⟨true,[7,6,5,3,2],[(9999,65537)]⟩) (s (O 30 [E (.kV 2 1 (T 3) (N 0)),l 1 30,E (.bin .rem (T 31) (.c (.int .u16 2))),E (.cvt .i64 (T 32)),E (.kV 2 1 (T 7) (T 33)),h 1 34,d 8 (E (.alloc [.ro 6 [] true])),n (st 1 8 35)]) (s (O 36 [E (.kV 2 1 (T 3) (N 1)),l 1 36,f 0 8,l 1 38,ln 1 39,ca 284 [37,40],d 9 (m 41)]) (s (R 43 [h 7 5,h 2 6,f 0 8,l 1 45,m 9,ca 285 [43,44,46,47],d 42 (m 48),ex 0 42,ex 1 42,ex 2 42,d 10 (E (.alloc [.ro 8 [] true,.ro 1 [] true])),d 11 (E (.alloc [.int .i64 0,.int .i64 0,.int .i64 0,.int .i64 0])),n (st 2 10 49),n (st 4 11 50),d 12 (m 51)] ⟨true,[12,11,10,9,8,6,5,2],[(9999,65537)]⟩) (s (R 53 [h 7 5,h 2 6,h 1 8,m 9,ca 5032 [53,54,55,56],d 52 (m 57),ex 0 52,ex 1 52,ex 2 52,d 13 (E (.alloc [.ro 8 [] true,.ro 1 [] true])),d 14 (E (.alloc [.int .i64 0,.int .i64 0,.int .i64 0,.int .i64 0])),n (st 2 13 58),n (st 4 14 59),d 15 (m 60)] ⟨true,[15,14,13,12,11,10,9,8,6,5,2],[(13,65536),(9999,65537)]⟩) (s (s (V 61 [m 12,nei 61 0,m 62,z 63 (m 15),z 63 (nei 64 0),po 63 65,m 66,z 67 (h 4 14),z 67 (h 4 11),z 67 (E (.eqv 4 [0,0,0,0] true (T 68) (T 69))),po 67 70,m 71,z 72 (h 2 13),z 72 (h 2 10),z 72 (ca 286 [73,74]),z 72 (h 2 13),z 72 (ca 287 [76]),z 72 (E (.bin .mul (T 75) (T 77))),z 72 (eqi 78 0),po 72 79,m 80,z 81 (h 7 5),z 81 (h 2 13),z 81 (ca 278 [82,83]),z 81 (nei 84 0),po 81 85] [(14,15)] ⟨true,[86,14,13,10,9,8,6,5,2],[(9999,65537)]⟩) (c 86 (r (O 4 [ff])))) (s (s (V 87 [f 0 6,l 1 87,ln 1 88,h 2 6,ca 288 [90],ad 89 91,f 1 14,l 1 93,ad 92 94,f 0 13,l 1 96,ln 1 97,h 2 13,ca 288 [99],ad 98 100,f 2 14,l 1 102,ad 101 103,ne 95 104,m 105,z 106 (f 3 14),z 106 (l 1 107),z 106 (h 2 13),z 106 (ca 289 [109]),z 106 (ne 108 110),po 106 111,m 112,z 113 (f 3 14),z 113 (l 1 114),z 113 (f 0 13),z 113 (l 1 116),z 113 (ln 1 117),z 113 (h 2 13),z 113 (ca 288 [119]),z 113 (ad 118 120),z 113 (f 4 5),z 113 (l 1 122),z 113 (E (.bin .mul (T 121) (T 123))),z 113 (E (.bin .add (N 1) (T 124))),z 113 (gt 115 125),po 113 126] [(1,4),(2,4),(4,7),(4,10),(4,11),(4,12),(1,13),(2,13),(7,13),(10,13),(11,13),(4,16),(13,16),(21,23),(28,33),(30,33),(31,33),(33,36)] ⟨true,[127,14,13,10,9,8,6,5,2],[(9999,65537)]⟩) (c 127 (r (O 4 [ff])))) (s (O 129 [h 7 5,h 2 13,h 1 8,m 9,ca 5032 [129,130,131,132],d 128 (m 133),ex 0 128,ex 1 128,ex 2 128,d 16 (E (.alloc [.ro 8 [] true,.ro 1 [] true])),d 17 (E (.alloc [.int .i64 0,.int .i64 0,.int .i64 0,.int .i64 0])),n (st 2 16 134),n (st 4 17 135),d 18 (m 136)]) (s (s (R 137 [m 18,nei 137 0,m 138,z 139 (h 4 17),z 139 (f 3 14),z 139 (l 1 141),z 139 (E (.build [.int .i64 0,.int .i64 0,.int .i64 0,.int .i64 0] [(3,1,T 142)])),z 139 (E (.eqv 4 [0,0,0,0] true (T 140) (T 143))),po 139 144,m 145,z 146 (h 2 16),z 146 (h 2 13),z 146 (ca 286 [147,148]),z 146 (eqi 149 0),po 146 150] ⟨true,[151,16,13,10,6,2],[(9999,65537)]⟩) (c 151 (r (O 4 [ff])))) (s (s (O 19 [i 0]) (bk 0 nK ⟨true,[13,10,6,2],[(9999,65537)]⟩)) iY)))))))))))⟩
@[simp] theorem al6:ZL DI wG ⟨true,[20,19,16,13,10,6,2],[(9999,65537)]⟩:=bF rfl
@[simp] theorem al8:ZL nK lT ⟨true,[19,16,13,10,6,2],[(9999,65537)]⟩:=bF rfl
def EM:aC:=zd (r (V 81 [h 7 9,h 2 11,h 2 10,n (st 7 2 81),n (st 2 3 82),n (st 2 4 83)] [(1,3),(2,3),(2,4)] ⟨false,[],[]⟩))
def wH:aC:=zd (s (s (O 41 [m 12,f 6 1,l 1 42,ln 1 43,lt 41 44,m 45,y 46 (m 12),y 46 (lti 47 8),pa 46 48]) (cc 49 (w .skip) (ee 0))) (s (B 1 (s (O 52 [f 6 1,l 1 52,m 12,ix 2 53 54,E (.kV 2 1 (T 55) (N 0)),l 1 56,E (.bin .rem (T 57) (.c (.int .u16 2))),E (.cvt .i64 (T 58)),E (.kV 2 1 (T 10) (T 59)),h 1 60,d 13 (E (.alloc [.ro 6 [] true])),n (st 1 13 61)]) (U 63 [h 7 9,h 2 11,f 0 13,l 1 65,f 6 1,l 1 67,m 12,ix 2 68 69,E (.kV 2 1 (T 70) (N 1)),l 1 71,f 0 13,l 1 73,ln 1 74,ca 284 [72,75],ca 285 [63,64,66,76],d 62 (m 77),ex 0 62,ex 1 62,ex 2 62,n (st 2 11 78)] [(0,13),(1,13),(3,13)] [12,11,10,9,4,3,2,1]))) (O 50 [m 12,adi 50 1,d 12 (m 51)])))
def LY:aC:=.loop ⟨true,[12,11,10,9,4,3,2,1],[]⟩ wH
def acg:WFn:=⟨1,[.cell 2 7 true,.cell 3 2 true,.cell 4 2 true],zd (s (O 1 [bx 0,E (.alloc [.int .i64 0,.int .i64 0,.int .i64 0,.ro 9 [] true,.int .i64 0,.int .i64 0,.int .u8 0]),E (.alloc [.ro 8 [] true,.ro 1 [] true]),E (.alloc [.ro 6 [] true,.ro 6 [] true])]) (s (O 14 [f 0 1,f 2 14,l 1 15,f 3 1,f 2 17,n (st 1 18 16)]) (s (Q 20 [f 0 1,h 3 20,ca 130 [21],d 19 (m 22),ex 0 19,ex 1 19,d 5 (E (.alloc [.ro 9 [] true,.int .i64 0])),d 6 (E (.alloc [.ro 6 [] true])),n (st 2 5 23),n (st 1 6 24)] [6,5,4,3,2,1]) (s (O 26 [f 3 1,h 3 26,ca 130 [27],d 25 (m 28),ex 0 25,ex 1 25,d 7 (E (.alloc [.ro 9 [] true,.int .i64 0])),d 8 (E (.alloc [.ro 6 [] true])),n (st 2 7 29),n (st 1 8 30)]) (s (O 31 [f 0 5,l 1 31,f 1 5,l 1 33,E (.build [.int .i64 0,.int .i64 0,.int .i64 0,.ro 9 [] true,.int .i64 0,.int .i64 0,.int .u8 0] [(0,1,N 100),(1,1,N 1),(2,1,N 1),(3,1,T 32),(4,1,T 34),(5,1,N 65536)]),d 9 (E (.alloc [.int .i64 0,.int .i64 0,.int .i64 0,.ro 9 [] true,.int .i64 0,.int .i64 0,.int .u8 0])),n (st 7 9 35)]) (s (O 36 [h 1 6,h 1 8,E (.build [.ro 6 [] true,.ro 6 [] true] [(0,1,T 36),(1,1,T 37)]),d 10 (E (.alloc [.ro 6 [] true,.ro 6 [] true])),n (st 2 10 38)]) (s (Q 39 [h 7 9,ca 296 [39],d 11 (E (.alloc [.ro 8 [] true,.ro 1 [] true])),n (st 2 11 40)] [11,10,9,4,3,2,1]) (s (s (O 12 [i 0]) (bk 0 LY ⟨true,[11,10,9,4,3,2],[]⟩)) EM))))))))⟩
@[simp] theorem alZ:ZL LY wH ⟨true,[12,11,10,9,4,3,2,1],[]⟩:=bF rfl
noncomputable abbrev Af (C:aJ) (s:WSt):Option AV:=CK C 0 (aP [.cell 2 7 true,.cell 3 2 true,.cell 4 2 true]) [.sq LY,.bk 0 ⟨true,[11,10,9,4,3,2],[]⟩,.sq EM] wH s
def E8:aC:=zd (r (O 25 [m 5,d 4 (m 25)]))
def zO:aC:=zd (s (s (O 7 [m 6,m 1,lt 7 8,m 9,y 10 (m 6),y 10 (lti 11 16),pa 10 12]) (cc 13 (w .skip) (ee 0))) (s (B 1 (s (O 16 [m 0,m 6,E (.bin .shr (T 16) (T 17)),E (.bin .rem (T 18) (.c (.int .u16 2))),E (.bin .gtr (T 19) (.c (.int .u16 0)))]) (c 20 (O 21 [m 5,m 6,E (.aZ [.int .i64 0] 1 [(0,T 22)]),E (.app [.int .i64 0] 8 false (T 21) (T 23)),d 5 (m 24)])))) (O 14 [m 6,adi 14 1,d 6 (m 15)])))
def J7:aC:=.loop ⟨true,[6,5,1,0],[]⟩ zO
def adx:WFn:=⟨2,[.tmp 4],zd (s (O 4 [E (.mv (.c (.ro 1 [] true)))]) (s (R 5 [E (.mv (.c (.ro 1 [] true)))] ⟨true,[5,1,0],[(5,1)]⟩) (s (s (O 6 [i 0]) (bk 0 J7 ⟨true,[5],[]⟩)) E8)))⟩
@[simp] theorem ak1:ZL J7 zO ⟨true,[6,5,1,0],[]⟩:=bF rfl
noncomputable abbrev DC (C:aJ) (s:WSt):Option AV:=CK C 0 (aP [.tmp 4]) [.sq J7,.bk 0 ⟨true,[5],[]⟩,.sq E8] zO s
def rV:aC:=zd (s (O 155 [h 2 11,ca 297 [155],f 3 12,n (st 1 157 156)]) (s (s (O 158 [f 3 12,l 1 158,f 5 4,l 1 160,gt 159 161]) (c 162 (r (O 163 [E (.build [.ro 8 [] true,.ro 1 [] true] []),E (.build [.int .i64 0,.int .i64 0,.int .i64 0,.int .i64 0] []),n (st 2 8 163),n (st 4 9 164),d 10 (i 15)])))) (r (V 165 [h 2 11,h 4 12,n (st 2 8 165),n (st 4 9 166),d 10 (i 0)] [(1,2)] ⟨false,[],[]⟩))))
def oZ:aC:=zd (s (s (O 73 [m 15,m 3,ln 1 74,lt 73 75]) (cc 76 (w .skip) (ee 2))) (s (B 3 (s (O 79 [m 2,m 3,m 15,ix 1 80 81,l 1 82,ix 6 79 83,f 0 84,h 4 85,d 16 (E (.alloc [.int .u64 0,.int .u8 0,.str [],.ro 1 [] true])),n (st 4 16 86)]) (s (V 87 [f 0 16,l 1 87,f 1 16,l 1 89,h 7 4,ca 299 [91],m 2,m 3,m 15,ix 1 94 95,l 1 96,ca 417 [92,93,97],E (.build [.int .u64 0,.int .u8 0,.int .u8 0,.str [],.str [],.ro 2 [] true,.str [],.ro 6 [] true] [(0,1,T 88),(1,1,T 90),(2,6,T 98)]),d 17 (E (.alloc [.int .u64 0,.int .u8 0,.int .u8 0,.str [],.str [],.ro 2 [] true,.str [],.ro 6 [] true])),n (st 8 17 99)] [(1,5),(3,5),(5,10),(1,11),(3,11),(1,13),(3,13),(4,13),(5,13),(10,13),(11,13)] ⟨true,[17,16,15,12,11,9,8,5,4,3,2],[(9999,65537)]⟩) (s (O 100 [f 0 11,l 1 100,h 8 17,E (.aZ [.int .u64 0,.int .u8 0,.int .u8 0,.str [],.str [],.ro 2 [] true,.str [],.ro 6 [] true] 1 [(0,T 102)]),E (.app [.int .u64 0,.int .u8 0,.int .u8 0,.str [],.str [],.ro 2 [] true,.str [],.ro 6 [] true] 120 false (T 101) (T 103)),f 0 11,n (st 1 105 104)]) (s (O 106 [f 0 5,l 1 106,f 0 16,l 1 108,ca 436 [107,109],d 18 (m 110)]) (s (s (V 111 [m 18,gei 111 0,m 112,y 113 (f 0 5),y 113 (l 1 114),y 113 (m 18),y 113 (ix 8 115 116),y 113 (f 1 117),y 113 (l 1 118),y 113 (f 1 16),y 113 (l 1 120),y 113 (eq 119 121),pa 113 122] [] ⟨true,[123,16,15,12,11,9,8,5,4,3,2],[(9999,65537)]⟩) (c 123 (ee 3))) (s (O 124 [f 1 11,l 1 124,f 1 16,l 1 126,ix 1 125 127,l 1 128,ln 1 129,d 19 (m 130)]) (s (s (O 131 [m 19,eqi 131 0]) (c 132 (s (O 133 [f 1 12,l 1 133,adi 134 1,f 1 12,n (st 1 136 135)]) (ee 3)))) (s (O 137 [f 0 12,l 1 137,adi 138 1,f 0 12,n (st 1 140 139)]) (V 141 [f 1 11,l 1 141,f 1 16,l 1 143,f 1 11,l 1 145,f 1 16,l 1 147,ix 1 146 148,l 1 149,m 19,sbi 151 1,E (.slice 8 (T 150) none (some (T 152)) none),ix 1 142 144,n (st 1 154 153)] [] ⟨true,[15,12,11,9,8,5,4,3,2],[(9999,65537)]⟩)))))))))) (O 77 [m 15,adi 77 1,d 15 (m 78)])))
def yt:aC:=.loop ⟨true,[15,12,11,9,8,5,4,3,2],[(9999,65537)]⟩ oZ
def yK:aC:=zd (s (s (O 15 [i 0]) (bk 2 yt ⟨true,[12,11,9,8,4],[(9999,65537)]⟩)) rV)
def nN:aC:=zd (s (s (O 23 [m 13,f 0 5,l 1 24,ln 1 25,lt 23 26]) (cc 27 (w .skip) (ee 0))) (s (B 1 (s (O 30 [f 0 5,l 1 30,m 13,ix 8 31 32,h 8 33,d 14 (E (.alloc [.int .u64 0,.int .u8 0,.int .u8 0,.str [],.str [],.ro 2 [] true,.str [],.ro 6 [] true])),n (st 8 14 34)]) (s (s (R 35 [h 8 14,m 2,m 3,ca 435 [35,36,37],eqi 38 1] ⟨true,[39,14,13,12,11,9,8,5,4,3,2],[(9999,65537)]⟩) (c 39 (ee 1))) (s (s (V 40 [f 1 11,l 1 40,f 1 14,l 1 42,ix 1 41 43,l 1 44,ln 1 45,f 3 4,l 1 47,f 1 14,l 1 49,ix 9 48 50,f 8 51,l 1 52,eq 46 53] [] ⟨false,[],[]⟩) (c 54 (s (O 55 [f 2 12,l 1 55,adi 56 1,f 2 12,n (st 1 58 57)]) (ee 1)))) (V 59 [f 1 11,l 1 59,f 1 14,l 1 61,f 1 11,l 1 63,f 1 14,l 1 65,ix 1 64 66,l 1 67,h 8 14,E (.aZ [.int .u64 0,.int .u8 0,.int .u8 0,.str [],.str [],.ro 2 [] true,.str [],.ro 6 [] true] 1 [(0,T 69)]),E (.app [.int .u64 0,.int .u8 0,.int .u8 0,.str [],.str [],.ro 2 [] true,.str [],.ro 6 [] true] 120 false (T 68) (T 70)),ix 1 60 62,n (st 1 72 71)] [(1,11),(3,11),(5,11),(7,11),(9,11),(1,12),(3,12)] ⟨true,[13,12,11,9,8,5,4,3,2],[(9999,65537)]⟩))))) (O 28 [m 13,adi 28 1,d 13 (m 29)])))
def EI:aC:=.loop ⟨true,[13,12,11,9,8,5,4,3,2],[(9999,65537)]⟩ nN
def Tt:WFn:=⟨4,[.cell 8 2 true,.cell 9 4 true,.tmp 10],zd (s (R 8 [d 4 (bx 0),d 5 (bx 1),E (.alloc [.ro 8 [] true,.ro 1 [] true]),E (.alloc [.int .i64 0,.int .i64 0,.int .i64 0,.int .i64 0]),i 0] ⟨true,[9,8,5,4,3,2],[(9999,65537)]⟩) (s (O 20 [h 2 5,ca 2031 [20],d 11 (E (.alloc [.ro 8 [] true,.ro 1 [] true])),n (st 2 11 21)]) (s (O 22 [f 0 11,n (E (.store 1 (T 22) (.c (.ro 8 [] true))))]) (s (O 12 [E (.alloc [.int .i64 0,.int .i64 0,.int .i64 0,.int .i64 0])]) (s (s (O 13 [i 0]) (bk 0 EI ⟨true,[12,11,9,8,5,4,3,2],[(9999,65537)]⟩)) yK)))))⟩
@[simp] theorem ak0:ZL yt oZ ⟨true,[15,12,11,9,8,5,4,3,2],[(9999,65537)]⟩:=bF rfl
@[simp] theorem amb:ZL EI nN ⟨true,[13,12,11,9,8,5,4,3,2],[(9999,65537)]⟩:=bF rfl
def aey:aC:=zd (s (Q 67 [h 7 4,h 2 5,h 1 6,m 3,ca 280 [67,68,69,70],d 66 (m 71),ex 0 66,ex 1 66,d 15 (E (.alloc [.ro 8 [] true,.ro 1 [] true])),d 16 (E (.alloc [.int .i64 0,.int .i64 0,.int .i64 0,.int .i64 0])),n (st 2 15 72),n (st 4 16 73)] [16,15,9,8,4]) (s (s (O 74 [f 3 16,l 1 74,f 5 4,l 1 76,gt 75 77]) (c 78 (r (O 79 [E (.build [.ro 8 [] true,.ro 1 [] true] []),E (.build [.int .i64 0,.int .i64 0,.int .i64 0,.int .i64 0] []),n (st 2 8 79),n (st 4 9 80),d 10 (i 15)])))) (r (V 81 [h 2 15,ca 281 [81],h 4 16,n (st 2 8 82),n (st 4 9 83),d 10 (i 0)] [(1,2),(2,3)] ⟨false,[],[]⟩))))
def Ui:aC:=zd (s (O 37 [lt 36 35]) (s (cc 37 (w .skip) (ee 0)) (s (B 1 (s (O 38 [m 36,ix 1 34 36,l 1 39,d 13 (m 38),d 14 (m 40)]) (s (Q 41 [m 14,lti 41 0,m 42,z 43 (m 14),z 43 (f 0 6),z 43 (l 1 45),z 43 (ln 1 46),z 43 (ge 44 47),po 43 48,m 49,z 50 (m 13),z 50 (gti 51 0),z 50 (m 52),y 53 (m 14),y 53 (m 3),y 53 (m 13),y 53 (sbi 56 1),y 53 (ix 1 55 57),y 53 (l 1 58),y 53 (le 54 59),z 50 (pa 53 60),po 50 61] [62,36,35,34,9,8,6,5,4,3]) (c 62 (r (O 63 [E (.build [.ro 8 [] true,.ro 1 [] true] []),E (.build [.int .i64 0,.int .i64 0,.int .i64 0,.int .i64 0] []),n (st 2 8 63),n (st 4 9 64),d 10 (i 1)])))))) (O 65 [adi 36 1,d 36 (m 65)]))))
def Vd:aC:=.loop ⟨true,[36,35,34,9,8,6,5,4,3],[]⟩ Ui
def aj7:WFn:=⟨4,[.cell 8 2 true,.cell 9 4 true,.tmp 10],zd (s (O 8 [d 4 (bx 0),d 5 (bx 1),d 6 (bx 2),E (.alloc [.ro 8 [] true,.ro 1 [] true]),E (.alloc [.int .i64 0,.int .i64 0,.int .i64 0,.int .i64 0]),i 0]) (s (s (O 17 [h 7 4,h 2 5,ca 278 [17,18],d 11 (m 19)]) (s (O 20 [m 11,nei 20 0]) (c 21 (r (Q 22 [E (.build [.ro 8 [] true,.ro 1 [] true] []),E (.build [.int .i64 0,.int .i64 0,.int .i64 0,.int .i64 0] []),m 11,n (st 2 8 22),n (st 4 9 23),d 10 (m 24)] [10,9,8]))))) (s (s (V 25 [h 7 4,ca 279 [25],h 1 6,ca 223 [26,27],d 12 (m 28)] [(1,2)] ⟨false,[],[]⟩) (s (O 29 [m 12,nei 29 0]) (c 30 (r (O 31 [E (.build [.ro 8 [] true,.ro 1 [] true] []),E (.build [.int .i64 0,.int .i64 0,.int .i64 0,.int .i64 0] []),m 12,n (st 2 8 31),n (st 4 9 32),d 10 (m 33)]))))) (s (s (O 34 [m 3,ln 1 34,i 0]) (bk 0 Vd ⟨true,[9,8,6,5,4,3],[]⟩)) aey))))⟩
@[simp] theorem akI:ZL Vd Ui ⟨true,[36,35,34,9,8,6,5,4,3],[]⟩:=bF rfl
def Aq:aC:=zd (s (R 67 [h 7 4,h 2 5,h 1 6,m 3,ca 280 [67,68,69,70],d 66 (m 71),ex 0 66,ex 1 66,d 15 (E (.alloc [.ro 8 [] true,.ro 1 [] true])),d 16 (E (.alloc [.int .i64 0,.int .i64 0,.int .i64 0,.int .i64 0])),n (st 2 15 72),n (st 4 16 73)] ⟨true,[16,15,9,8,4],[(9999,65537)]⟩) (s (s (O 74 [f 3 16,l 1 74,f 5 4,l 1 76,gt 75 77]) (c 78 (r (O 79 [E (.build [.ro 8 [] true,.ro 1 [] true] []),E (.build [.int .i64 0,.int .i64 0,.int .i64 0,.int .i64 0] []),n (st 2 8 79),n (st 4 9 80),d 10 (i 15)])))) (r (V 81 [h 2 15,ca 5033 [81],h 4 16,n (st 2 8 82),n (st 4 9 83),d 10 (i 0)] [(1,2),(2,3)] ⟨false,[],[]⟩))))
def uq:aC:=zd (s (O 37 [lt 36 35]) (s (cc 37 (w .skip) (ee 0)) (s (B 1 (s (O 38 [m 36,ix 1 34 36,l 1 39,d 13 (m 38),d 14 (m 40)]) (s (R 41 [m 14,lti 41 0,m 42,z 43 (m 14),z 43 (f 0 6),z 43 (l 1 45),z 43 (ln 1 46),z 43 (ge 44 47),po 43 48,m 49,z 50 (m 13),z 50 (gti 51 0),z 50 (m 52),y 53 (m 14),y 53 (m 3),y 53 (m 13),y 53 (sbi 56 1),y 53 (ix 1 55 57),y 53 (l 1 58),y 53 (le 54 59),z 50 (pa 53 60),po 50 61] ⟨true,[62,36,35,34,9,8,6,5,4,3],[(9999,65537)]⟩) (c 62 (r (O 63 [E (.build [.ro 8 [] true,.ro 1 [] true] []),E (.build [.int .i64 0,.int .i64 0,.int .i64 0,.int .i64 0] []),n (st 2 8 63),n (st 4 9 64),d 10 (i 1)])))))) (O 65 [adi 36 1,d 36 (m 65)]))))
def FH:aC:=.loop ⟨true,[36,35,34,9,8,6,5,4,3],[(9999,65537)]⟩ uq
def Vl:WFn:=⟨4,[.cell 8 2 true,.cell 9 4 true,.tmp 10],zd (s (O 8 [d 4 (bx 0),d 5 (bx 1),d 6 (bx 2),E (.alloc [.ro 8 [] true,.ro 1 [] true]),E (.alloc [.int .i64 0,.int .i64 0,.int .i64 0,.int .i64 0]),i 0]) (s (s (O 17 [h 7 4,h 2 5,ca 278 [17,18],d 11 (m 19)]) (s (O 20 [m 11,nei 20 0]) (c 21 (r (R 22 [E (.build [.ro 8 [] true,.ro 1 [] true] []),E (.build [.int .i64 0,.int .i64 0,.int .i64 0,.int .i64 0] []),m 11,n (st 2 8 22),n (st 4 9 23),d 10 (m 24)] ⟨true,[10,9,8],[(9999,65537)]⟩))))) (s (s (V 25 [h 7 4,ca 279 [25],h 1 6,ca 223 [26,27],d 12 (m 28)] [(1,2)] ⟨false,[],[]⟩) (s (O 29 [m 12,nei 29 0]) (c 30 (r (O 31 [E (.build [.ro 8 [] true,.ro 1 [] true] []),E (.build [.int .i64 0,.int .i64 0,.int .i64 0,.int .i64 0] []),m 12,n (st 2 8 31),n (st 4 9 32),d 10 (m 33)]))))) (s (s (O 34 [m 3,ln 1 34,i 0]) (bk 0 FH ⟨true,[9,8,6,5,4,3],[(9999,65537)]⟩)) Aq))))⟩
@[simp] theorem aji:ZL FH uq ⟨true,[36,35,34,9,8,6,5,4,3],[(9999,65537)]⟩:=bF rfl
def KH:aC:=zd (r (O 4 [i 1]))
def zf:aC:=zd (s (s (O 21 [m 5,f 1 2,l 1 22,ln 1 23,lt 21 24]) (cc 25 (w .skip) (ee 0))) (s (B 1 (s (V 28 [f 1 2,l 1 28,m 5,ix 1 29 30,l 1 31,f 1 3,l 1 33,m 5,ix 1 34 35,l 1 36,ca 437 [32,37],eqi 38 0] [] ⟨false,[],[]⟩) (c 39 (r (O 4 [i 0]))))) (O 26 [m 5,adi 26 1,d 5 (m 27)])))
def Ko:aC:=.loop ⟨true,[5,3,2],[]⟩ zf
def WE:WFn:=⟨2,[.tmp 4],zd (s (O 2 [bx 0,bx 1,i 0]) (s (s (O 6 [f 0 2,l 1 6,f 0 3,l 1 8,ca 437 [7,9],eqi 10 0,m 11,z 12 (f 1 2),z 12 (l 1 13),z 12 (ln 1 14),z 12 (f 1 3),z 12 (l 1 16),z 12 (ln 1 17),z 12 (ne 15 18),po 12 19]) (c 20 (r (Q 4 [i 0] [4])))) (s (s (O 5 [i 0]) (bk 0 Ko ⟨true,[],[]⟩)) KH)))⟩
@[simp] theorem aly:ZL Ko zf ⟨true,[5,3,2],[]⟩:=bF rfl
noncomputable abbrev DR (C:aJ) (s:WSt):Option AV:=CK C 0 (aP [.tmp 4]) [.sq Ko,.bk 0 ⟨true,[],[]⟩,.sq KH] zf s
def MN:aC:=zd (r (O 2 [i 1]))
def yA:aC:=zd (s (s (O 20 [m 3,f 1 1,l 1 21,ln 1 22,lt 20 23]) (cc 24 (w .skip) (ee 0))) (s (B 1 (s (V 27 [f 1 1,l 1 27,m 3,ix 1 28 29,l 1 30,E (.cap (T 31)),f 1 1,l 1 33,m 3,ix 1 34 35,l 1 36,ln 1 37,ne 32 38] [] ⟨false,[],[]⟩) (c 39 (r (O 2 [i 0]))))) (O 25 [m 3,adi 25 1,d 3 (m 26)])))
def Nc:aC:=.loop ⟨true,[3,1],[]⟩ yA
def aeG:WFn:=⟨1,[.tmp 2],zd (s (O 1 [bx 0,i 0]) (s (s (O 4 [f 0 1,l 1 4,E (.cap (T 5)),f 0 1,l 1 7,ln 1 8,ne 6 9,m 10,z 11 (f 1 1),z 11 (l 1 12),z 11 (E (.cap (T 13))),z 11 (f 1 1),z 11 (l 1 15),z 11 (ln 1 16),z 11 (ne 14 17),po 11 18]) (c 19 (r (O 2 [i 0])))) (s (s (Q 3 [i 0] [3,1]) (bk 0 Nc ⟨true,[],[]⟩)) MN)))⟩
@[simp] theorem alX:ZL Nc yA ⟨true,[3,1],[]⟩:=bF rfl
noncomputable abbrev Em (C:aJ) (s:WSt):Option AV:=CK C 0 (aP [.tmp 2]) [.sq Nc,.bk 0 ⟨true,[],[]⟩,.sq MN] yA s
def Ll:aC:=zd (r (O 4 [i 0]))
def AA:aC:=zd (s (O 55 [lt 54 53]) (s (cc 55 (w .skip) (ee 2)) (s (B 3 (s (Q 56 [m 54,ix 1 52 54,l 1 57,d 9 (E (.alloc [.int .i64 0])),n (st 1 9 56),d 10 (m 58)] [54,53,52,10,9,2]) (s (O 59 [m 10,ln 1 59,f 3 2,l 1 61,l 1 9,ix 9 62 63,f 8 64,l 1 65,gt 60 66,m 67,z 68 (m 10),z 68 (E (.kX 430 [T 9,T 2])),z 68 (ca 429 [69,70]),po 68 71]) (c 72 (r (O 4 [i 10])))))) (O 73 [adi 54 1,d 54 (m 73)]))))
def Jz:aC:=.loop ⟨true,[54,53,52,2],[]⟩ AA
def ES:aC:=zd (s (s (O 51 [f 1 3,l 1 51,ln 1 52,i 0]) (bk 2 Jz ⟨true,[],[]⟩)) Ll)
def yD:aC:=zd (s (O 34 [lt 33 32]) (s (cc 34 (w .skip) (ee 0)) (s (B 1 (s (Q 35 [ix 8 31 33,h 8 35,d 8 (E (.alloc [.int .u64 0,.int .u8 0,.int .u8 0,.str [],.str [],.ro 2 [] true,.str [],.ro 6 [] true])),n (st 8 8 36)] [33,32,31,8,6,3,2]) (s (s (O 37 [h 7 2,h 8 8,ca 428 [37,38],nt 39,m 40,z 41 (m 6),z 41 (f 0 8),z 41 (l 1 43),z 41 (E (.look 0 (.bool false) false (T 42) (T 44))),po 41 45]) (c 46 (r (O 4 [i 10])))) (O 47 [m 6,f 0 8,l 1 48,n (E (.upd 0 (T 47) (T 49) (.c (.bool true))))])))) (O 50 [adi 33 1,d 33 (m 50)]))))
def Lh:aC:=.loop ⟨true,[33,32,31,6,3,2],[]⟩ yD
def acz:WFn:=⟨2,[.tmp 4],zd (s (O 2 [bx 0,bx 1,i 0]) (s (s (O 11 [h 7 2,ca 277 [11],d 5 (m 12)]) (s (Q 13 [m 5,nei 13 0] [14,5,3,2]) (c 14 (r (O 15 [m 5,d 4 (m 15)]))))) (s (s (O 16 [f 0 3,l 1 16,ln 1 17,gti 18 1024,m 19,z 20 (f 1 3),z 20 (l 1 21),z 20 (ln 1 22),z 20 (f 3 2),z 20 (l 1 24),z 20 (ln 1 25),z 20 (ne 23 26),po 20 27]) (c 28 (r (O 4 [i 10])))) (s (O 29 [E .jX,d 6 (m 29)]) (s (s (O 30 [f 0 3,l 1 30,ln 1 31,i 0]) (bk 0 Lh ⟨true,[3,2],[]⟩)) ES)))))⟩
@[simp] theorem ald:ZL Jz AA ⟨true,[54,53,52,2],[]⟩:=bF rfl
noncomputable abbrev Dt (C:aJ) (s:WSt):Option AV:=CK C 0 (aP [.tmp 4]) [.sq Jz,.bk 2 ⟨true,[],[]⟩,.sq Ll] AA s
@[simp] theorem alz:ZL Lh yD ⟨true,[33,32,31,6,3,2],[]⟩:=bF rfl
noncomputable abbrev D6 (C:aJ) (s:WSt):Option AV:=CK C 0 (aP [.tmp 4]) [.sq Lh,.bk 0 ⟨true,[3,2],[]⟩,.sq ES] yD s
def J5:aC:=zd (r (O 20 [m 3,d 2 (m 20)]))
def yE:aC:=zd (s (s (O 5 [m 4,f 1 1,l 1 6,ln 1 7,lt 5 8]) (cc 9 (w .skip) (ee 0))) (s (B 1 (O 12 [m 3,f 1 1,l 1 13,m 4,ix 1 14 15,l 1 16,ln 1 17,ad 12 18,d 3 (m 19)])) (O 10 [m 4,adi 10 1,d 4 (m 11)])))
def J6:aC:=.loop ⟨true,[4,3,1],[]⟩ yE
def acN:WFn:=⟨1,[.tmp 2],zd (s (O 1 [bx 0,i 0]) (s (O 3 [i 0]) (s (s (O 4 [i 0]) (bk 0 J6 ⟨true,[3],[]⟩)) J5)))⟩
@[simp] theorem alA:ZL J6 yE ⟨true,[4,3,1],[]⟩:=bF rfl
noncomputable abbrev Ey (C:aJ) (s:WSt):Option AV:=CK C 0 (aP [.tmp 2]) [.sq J6,.bk 0 ⟨true,[3],[]⟩,.sq J5] yE s
def ZY:WFn:=⟨1,[.tmp 2],zd (s (O 1 [bx 0,i 0]) (s (O 3 [E (.alloc [.int .i64 0]),E (.alloc [.bool false]),n (E (.store 1 (T 3) (N 1))),n (E (.store 1 (T 4) (.c (.bool true))))]) (s (O 5 [E (.alloc [.dV])]) (s (O 6 [E (.kX 438 [T 4,T 3,T 5]),n (st 1 5 6)]) (s (O 7 [l 1 5,f 0 1,l 1 8,E (.aZ [.ro 8 [] true] 1 [(0,T 9)]),E (.dW (T 7) [T 10])]) (s (O 12 [l 1 5,f 1 1,l 1 13,E (.dW (T 12) [T 14])]) (s (s (O 16 [l 1 4,nt 16]) (c 17 (r (O 2 [i 0])))) (r (O 18 [l 1 3,d 2 (m 18)])))))))))⟩
def akp:WFn:=⟨0,[.tmp 0],zd (s (O 0 [ff]) (s (Q 20 [ca 301 [],d 19 (m 20),ex 0 19,ex 1 19,d 1 (E (.alloc [.int .i64 0,.int .i64 0,.int .i64 0,.ro 9 [] true,.int .i64 0,.int .i64 0,.int .u8 0])),d 2 (E (.alloc [.ro 6 [] true])),n (st 7 1 21),n (st 1 2 22)] [2,1]) (s (O 24 [h 7 1,ca 138 [24],d 23 (m 25),ex 0 23,ex 1 23,d 3 (E (.alloc [.ro 8 [] true,.ro 1 [] true])),n (st 2 3 26),d 4 (m 27)]) (s (O 29 [h 7 1,h 2 3,h 1 2,E (.aZ [.int .i64 0] 3 [(0,N 0),(1,N 1),(2,N 3)]),ca 139 [29,30,31,32],d 28 (m 33),ex 0 28,ex 1 28,ex 2 28,d 5 (E (.alloc [.ro 8 [] true,.ro 1 [] true])),d 6 (E (.alloc [.int .i64 0,.int .i64 0,.int .i64 0,.int .i64 0])),n (st 2 5 34),n (st 4 6 35),d 7 (m 36)]) (s (Q 38 [h 7 1,h 2 5,h 1 2,E (.aZ [.int .i64 0] 1 [(0,N 2)]),ca 139 [38,39,40,41],d 37 (m 42),ex 0 37,ex 1 37,ex 2 37,d 8 (E (.alloc [.ro 8 [] true,.ro 1 [] true])),d 9 (E (.alloc [.int .i64 0,.int .i64 0,.int .i64 0,.int .i64 0])),n (st 2 8 43),n (st 4 9 44),d 10 (m 45)] [10,9,8,7,6,5,4,3,2,1]) (s (O 47 [h 7 1,h 2 5,h 1 2,E (.call 139 [T 47,T 48,T 49,.c (.ro 1 [] true)]),d 46 (m 50),ex 0 46,ex 1 46,ex 2 46,d 11 (E (.alloc [.ro 8 [] true,.ro 1 [] true])),d 12 (E (.alloc [.int .i64 0,.int .i64 0,.int .i64 0,.int .i64 0])),n (st 2 11 51),n (st 4 12 52),d 13 (m 53)]) (s (s (Q 54 [m 4,nei 54 0,m 55,z 56 (m 7),z 56 (nei 57 0),po 56 58,m 59,z 60 (m 10),z 60 (nei 61 0),po 60 62,m 63,z 64 (m 13),z 64 (nei 65 0),po 64 66,m 67,z 68 (f 1 3),z 68 (l 1 69),z 68 (ln 1 70),z 68 (nei 71 2),po 68 72,m 73,z 74 (f 1 8),z 74 (l 1 75),z 74 (ln 1 76),z 74 (nei 77 2),po 74 78,m 79,z 80 (f 1 11),z 80 (l 1 81),z 80 (ln 1 82),z 80 (nei 83 2),po 80 84] [85,12,11,9,8,6,5,3,2,1]) (c 85 (r (O 0 [ff])))) (s (s (U 86 [f 0 5,l 1 86,E (.aZ [.int .u64 0] 3 [(0,.c (.int .u64 1)),(1,.c (.int .u64 2)),(2,.c (.int .u64 4))]),ca 302 [87,88],f 0 8,l 1 90,E (.aZ [.int .u64 0] 1 [(0,.c (.int .u64 3))]),ca 302 [91,92],E (.bin .mul (T 89) (T 93)),f 1 8,l 1 95,E (.idxs 1 (T 96) (N 0)),l 1 97,E (.call 302 [T 98,.c (.ro 1 [] true)]),E (.bin .mul (T 94) (T 99)),f 1 8,l 1 101,E (.idxs 1 (T 102) (N 1)),l 1 103,E (.call 302 [T 104,.c (.ro 1 [] true)]),E (.bin .mul (T 100) (T 105)),f 0 11,l 1 107,E (.call 302 [T 108,.c (.ro 1 [] true)]),E (.bin .mul (T 106) (T 109)),f 1 11,l 1 111,E (.idxs 1 (T 112) (N 0)),l 1 113,E (.aZ [.int .u64 0] 1 [(0,.c (.int .u64 1))]),ca 302 [114,115],E (.bin .mul (T 110) (T 116)),f 1 11,l 1 118,E (.idxs 1 (T 119) (N 1)),l 1 120,E (.call 302 [T 121,.c (.ro 1 [] true)]),E (.bin .mul (T 117) (T 122)),eqi 123 0,m 124,z 125 (h 4 6),z 125 (E (.build [.int .i64 0,.int .i64 0,.int .i64 0,.int .i64 0] [(1,1,N 3),(3,1,N 4)])),z 125 (E (.eqv 4 [0,0,0,0] true (T 126) (T 127))),po 125 128,m 129,z 130 (h 4 9),z 130 (E (.build [.int .i64 0,.int .i64 0,.int .i64 0,.int .i64 0] [(0,1,N 1),(2,1,N 2),(3,1,N 2)])),z 130 (E (.eqv 4 [0,0,0,0] true (T 131) (T 132))),po 130 133,m 134,z 135 (h 4 12),z 135 (E (.build [.int .i64 0,.int .i64 0,.int .i64 0,.int .i64 0] [(2,1,N 2),(3,1,N 2)])),z 135 (E (.eqv 4 [0,0,0,0] true (T 136) (T 137))),po 135 138] [(1,2),(2,5),(3,5),(1,6),(2,6),(3,6),(5,6),(2,10),(3,10),(6,10),(7,10),(2,12),(3,12),(6,12),(7,12),(2,16),(3,16),(6,16),(7,16),(13,16),(2,18),(3,18),(6,18),(7,18),(13,18),(2,22),(3,22),(6,22),(7,22),(13,22),(19,22),(2,26),(3,26),(6,26),(7,26),(13,26),(19,26),(23,26),(2,28),(3,28),(6,28),(7,28),(13,28),(19,28),(23,28),(1,29),(2,29),(3,29),(5,29),(6,29),(7,29),(10,29),(12,29),(13,29),(16,29),(18,29),(19,29),(22,29),(23,29),(26,29),(28,29),(2,33),(3,33),(6,33),(7,33),(13,33),(19,33),(23,33),(29,33),(30,33),(2,35),(3,35),(6,35),(7,35),(13,35),(19,35),(23,35),(29,35),(30,35)] [139,11,3,2,1]) (c 139 (r (O 0 [ff])))) (s (O 141 [h 7 1,h 2 11,E (.call 290 [T 141,T 142,N 0]),d 140 (m 143),ex 0 140,ex 1 140,ex 2 140,d 14 (E (.alloc [.ro 8 [] true,.ro 1 [] true])),n (st 2 14 144),d 15 (m 145),d 4 (m 146)]) (s (Q 148 [h 7 1,h 2 11,E (.call 290 [T 148,T 149,N 17]),d 147 (m 150),ex 0 147,ex 1 147,ex 2 147,d 7 (m 153)] [15,7,4,3,2,1]) (s (O 155 [h 7 1,h 2 3,h 1 2,E (.aZ [.int .i64 0] 2 [(0,N 1),(1,N 0)]),ca 139 [155,156,157,158],d 154 (m 159),ex 0 154,ex 1 154,ex 2 154,d 10 (m 162)]) (s (O 164 [h 7 1,h 2 3,h 1 2,E (.aZ [.int .i64 0] 1 [(0,N 4)]),ca 139 [164,165,166,167],d 163 (m 168),ex 0 163,ex 1 163,ex 2 163,d 13 (m 171)]) (s (O 172 [f 5 1,n (E (.store 1 (T 172) (N 3)))]) (s (Q 174 [h 7 1,h 2 3,h 1 2,E (.aZ [.int .i64 0] 3 [(0,N 0),(1,N 1),(2,N 3)]),ca 139 [174,175,176,177],d 173 (m 178),ex 0 173,ex 1 173,ex 2 173,d 16 (E (.alloc [.ro 8 [] true,.ro 1 [] true])),d 17 (E (.alloc [.int .i64 0,.int .i64 0,.int .i64 0,.int .i64 0])),n (st 2 16 179),n (st 4 17 180),d 18 (m 181)] [18,15,13,10,7,4]) (r (O 182 [m 4,eqi 182 0,m 183,y 184 (m 15),y 184 (eqi 185 1),pa 184 186,m 187,y 188 (m 7),y 188 (eqi 189 4),pa 188 190,m 191,y 192 (m 10),y 192 (eqi 193 1),pa 192 194,m 195,y 196 (m 13),y 196 (eqi 197 1),pa 196 198,m 199,y 200 (m 18),y 200 (eqi 201 15),pa 200 202,d 0 (m 203)]))))))))))))))))⟩
def aeR:aC:=zd (r (O 56 [h 2 10,m 11,n (st 2 6 56),d 7 (m 57),d 8 (i 0)]))
def VI:aC:=zd (s (O 35 [lt 34 33]) (s (cc 35 (w .skip) (ee 0)) (s (B 1 (s (O 36 [m 34,ix 1 32 34,l 1 37,d 12 (m 36),d 13 (m 38)]) (s (Q 39 [m 13,ln 1 39,m 2,sb 40 41,E (.mx (N 0) (T 42)),d 14 (m 43)] [34,33,32,14,13,12,11,10,6,2]) (s (V 44 [f 1 10,l 1 44,m 12,m 13,m 14,E (.slice 8 (T 47) (some (T 48)) none none),ca 432 [49],ix 1 45 46,n (st 1 51 50)] [(1,6)] ⟨false,[],[]⟩) (O 52 [m 11,m 14,ad 52 53,d 11 (m 54)]))))) (O 55 [adi 34 1,d 34 (m 55)]))))
def UF:aC:=.loop ⟨true,[34,33,32,11,10,6,2],[]⟩ VI
def akx:WFn:=⟨3,[.cell 6 2 true,.tmp 7,.tmp 8],zd (s (O 6 [d 3 (bx 0),d 4 (bx 1),E (.alloc [.ro 8 [] true,.ro 1 [] true]),i 0,i 0]) (s (s (O 15 [h 7 3,h 2 4,ca 278 [15,16],d 9 (m 17)]) (s (O 18 [m 9,nei 18 0]) (c 19 (r (O 20 [E (.build [.ro 8 [] true,.ro 1 [] true] []),m 9,n (st 2 6 20),d 7 (i 0),d 8 (m 21)]))))) (s (s (Q 22 [m 2,lti 22 0,m 23,z 24 (m 2),z 24 (gti 25 16),po 24 26] [27,6,4,2]) (c 27 (r (O 7 [d 28 (E (.build [.ro 8 [] true,.ro 1 [] true] [])),n (st 2 6 28),i 0,i 4])))) (s (O 29 [h 2 4,ca 3008 [29],d 10 (E (.alloc [.ro 8 [] true,.ro 1 [] true])),n (st 2 10 30),d 11 (i 0)]) (s (s (O 31 [f 1 10,l 1 31,ln 1 32,i 0]) (bk 0 UF ⟨true,[11,10,6],[]⟩)) aeR)))))⟩
@[simp] theorem akE:ZL UF VI ⟨true,[34,33,32,11,10,6,2],[]⟩:=bF rfl
def zn:aC:=zd (r (O 44 [m 3,d 2 (m 44)]))
def Ak:aC:=zd (O 12 [m 4,adi 12 1,d 4 (m 13)])
def wJ:aC:=zd (s (s (O 23 [m 6,m 5,ln 1 24,lt 23 25]) (cc 26 (w .skip) (ee 2))) (s (B 3 (s (s (Q 29 [m 5,m 6,ix 8 29 30,f 2 31,h 6 32,ca 441 [33],gti 34 0] [35,6,5,4,3,1]) (c 35 (r (O 2 [i 0])))) (O 36 [m 3,m 5,m 6,ix 8 37 38,f 2 39,h 6 40,ca 442 [41],ad 36 42,d 3 (m 43)]))) (O 27 [m 6,adi 27 1,d 6 (m 28)])))
def J3:aC:=.loop ⟨true,[6,5,4,3,1],[]⟩ wJ
def rU:aC:=zd (s (s (O 7 [m 4,f 1 1,l 1 8,ln 1 9,lt 7 10]) (cc 11 (w .skip) (ee 0))) (s (bk 1 (s (O 14 [f 0 1,l 1 14,d 5 (m 15)]) (s (s (O 16 [m 4,gei 16 0]) (c 17 (O 18 [f 1 1,l 1 18,m 4,ix 1 19 20,l 1 21,d 5 (m 22)]))) (s (O 6 [i 0]) (bk 2 J3 ⟨true,[4,3,1],[]⟩)))) ⟨true,[4,3,1],[]⟩) Ak))
def Am:aC:=.loop ⟨true,[4,3,1],[]⟩ rU
def ZQ:WFn:=⟨1,[.tmp 2],zd (s (Q 1 [bx 0,i 0] [1]) (s (O 3 [i 1]) (s (s (O 4 [i (-1)]) (bk 0 Am ⟨true,[3],[]⟩)) zn)))⟩
@[simp] theorem ak6:ZL J3 wJ ⟨true,[6,5,4,3,1],[]⟩:=bF rfl
noncomputable abbrev rZ (C:aJ) (s:WSt):Option AV:=CK C 0 (aP [.tmp 2]) [.sq J3,.bk 2 ⟨true,[4,3,1],[]⟩,.bk 1 ⟨true,[4,3,1],[]⟩,.sq Ak,.sq Am,.bk 0 ⟨true,[3],[]⟩,.sq zn] wJ s
@[simp] theorem akM:ZL Am rU ⟨true,[4,3,1],[]⟩:=bF rfl
noncomputable abbrev yN (C:aJ) (s:WSt):Option AV:=CK C 0 (aP [.tmp 2]) [.sq Am,.bk 0 ⟨true,[3],[]⟩,.sq zn] rU s
def akk:WFn:=⟨1,[.cell 2 2 true,.tmp 3],zd (s (O 1 [bx 0,E (.alloc [.ro 8 [] true,.ro 1 [] true]),i 0]) (s (s (O 5 [h 7 1,ca 277 [5],d 4 (m 6)]) (s (O 7 [m 4,nei 7 0]) (c 8 (r (O 9 [E (.build [.ro 8 [] true,.ro 1 [] true] []),m 4,n (st 2 2 9),d 3 (m 10)]))))) (r (O 11 [f 3 1,l 1 11,ln 1 12,E (.mD [.ro 8 [] true] 24 (T 13) (T 13)),E (.build [.ro 8 [] true,.ro 1 [] true] [(1,1,T 14)]),n (st 2 2 15),d 3 (i 0)]))))⟩
def aeY:WFn:=⟨1,[.tmp 2],zd (s (O 1 [bx 0,i 0]) (s (O 6 [h 6 1,ca 282 [6],d 5 (m 7),ex 0 5,ex 1 5,d 3 (m 8),d 4 (m 9)]) (r (O 10 [m 3,d 2 (m 10)]))))⟩
def EO:aC:=zd (r (V 68 [h 2 4,h 1 6,n (st 2 2 68),n (st 1 3 69)] [(1,2)] ⟨false,[],[]⟩))
def jc:aC:=zd (s (s (O 17 [m 7,m 5,ln 1 18,lt 17 19]) (cc 20 (w .skip) (ee 0))) (s (B 1 (s (s (V 23 [h 2 4,m 5,m 7,ix 4 24 25,h 4 26,E (.call 271 [T 23,T 27,N 0]),gti 28 0] [] ⟨false,[],[]⟩) (c 29 (ee 1))) (s (U 30 [h 2 4,m 5,m 7,ix 4 31 32,h 4 33,ca 240 [30,34],d 8 (E (.alloc [.int .u64 0,.int .u8 0,.str [],.ro 1 [] true,.int .i64 0,.bool false])),n (st 6 8 35)] [(0,6),(4,6),(5,6)] [8,7,6,5,4,3,2,1]) (s (s (O 36 [f 0 6,l 1 36,ln 1 37,d 9 (m 38)]) (s (O 39 [m 9,f 1 1,l 1 40,ln 1 41,lt 39 42,m 43,y 44 (f 1 1),y 44 (l 1 45),y 44 (m 9),y 44 (ix 1 46 47),y 44 (l 1 48),y 44 (E (.bin .gtr (T 49) (.c (.int .u8 0)))),pa 44 50]) (c 51 (s (Q 52 [f 1 1,l 1 52,m 9,ix 1 53 54,l 1 55,E (.bin .rem (T 56) (.c (.int .u8 40))),E (.cvt .i64 (T 57)),E (.bin .add (N 1) (T 58)),f 4 8,n (st 1 60 59)] [8,7,6,5,4,3,2,1]) (O 61 [f 5 8,n (E (.store 1 (T 61) (.c (.bool true))))]))))) (O 62 [f 0 6,l 1 62,h 6 8,E (.aZ [.int .u64 0,.int .u8 0,.str [],.ro 1 [] true,.int .i64 0,.bool false] 1 [(0,T 64)]),E (.app [.int .u64 0,.int .u8 0,.str [],.ro 1 [] true,.int .i64 0,.bool false] 72 false (T 63) (T 65)),f 0 6,n (st 1 67 66)]))))) (O 21 [m 7,adi 21 1,d 7 (m 22)])))
def JG:aC:=.loop ⟨true,[7,6,5,4,3,2,1],[]⟩ jc
def ad1:WFn:=⟨1,[.cell 2 2 true,.cell 3 1 true],zd (s (Q 1 [bx 0,E (.alloc [.ro 9 [] true,.int .i64 0]),E (.alloc [.ro 6 [] true])] [3,2,1]) (s (O 10 [f 2 1,l 1 10,ca 126 [11],E (.build [.ro 9 [] true,.int .i64 0] [(0,1,T 12),(1,1,N 12)]),d 4 (E (.alloc [.ro 9 [] true,.int .i64 0])),n (st 2 4 13)]) (s (O 14 [f 0 1,h 1 14,ca 270 [15],d 5 (m 16)]) (s (O 6 [E (.alloc [.ro 6 [] true])]) (s (s (O 7 [i 0]) (bk 0 JG ⟨true,[6,4,3,2],[]⟩)) EO)))))⟩
@[simp] theorem alH:ZL JG jc ⟨true,[7,6,5,4,3,2,1],[]⟩:=bF rfl
noncomputable abbrev gX (C:aJ) (s:WSt):Option AV:=CK C 0 (aP [.cell 2 2 true,.cell 3 1 true]) [.sq JG,.bk 0 ⟨true,[6,4,3,2],[]⟩,.sq EO] jc s
def Un:aC:=zd (r (O 17 [h 2 3,n (st 2 2 17)]))
def uY:aC:=zd (s (s (O 5 [m 4,f 3 1,l 1 6,ln 1 7,lt 5 8]) (cc 9 (w .skip) (ee 0))) (s (B 1 (O 12 [f 1 3,l 1 12,E (.aZ [.ro 8 [] true] 1 [(0,.c (.ro 8 [] true))]),E (.app [.ro 8 [] true] 24 false (T 13) (T 14)),f 1 3,n (st 1 16 15)])) (O 10 [m 4,adi 10 1,d 4 (m 11)])))
def VF:aC:=.loop ⟨true,[4,3,2,1],[]⟩ uY
def Ls:WFn:=⟨1,[.cell 2 2 true],zd (s (O 1 [bx 0,E (.alloc [.ro 8 [] true,.ro 1 [] true])]) (s (O 3 [E (.alloc [.ro 8 [] true,.ro 1 [] true])]) (s (s (O 4 [i 0]) (bk 0 VF ⟨true,[3,2],[]⟩)) Un)))⟩
@[simp] theorem alJ:ZL VF uY ⟨true,[4,3,2,1],[]⟩:=bF rfl
def yV:aC:=zd (r (O 30 [h 2 3,n (st 2 2 30)]))
def qc:aC:=zd (s (s (O 11 [m 4,f 1 1,l 1 12,ln 1 13,lt 11 14]) (cc 15 (w .skip) (ee 0))) (s (B 1 (V 18 [f 1 3,l 1 18,E (.aZ [.int .u64 0,.int .u8 0,.int .u8 0,.str [],.str [],.ro 2 [] true,.str [],.ro 6 [] true] 0 []),f 1 1,l 1 21,m 4,ix 1 22 23,l 1 24,E (.app [.int .u64 0,.int .u8 0,.int .u8 0,.str [],.str [],.ro 2 [] true,.str [],.ro 6 [] true] 120 false (T 20) (T 25)),E (.aZ [.ro 8 [] true] 1 [(0,T 26)]),E (.app [.ro 8 [] true] 24 false (T 19) (T 27)),f 1 3,n (st 1 29 28)] [(1,2),(2,4),(2,7),(1,8),(1,9)] ⟨false,[],[]⟩)) (O 16 [m 4,adi 16 1,d 4 (m 17)])))
def DN:aC:=.loop ⟨true,[4,3,2,1],[(9999,65537)]⟩ qc
def QZ:WFn:=⟨1,[.cell 2 2 true],zd (s (O 1 [bx 0,E (.alloc [.ro 8 [] true,.ro 1 [] true])]) (s (O 3 [E (.alloc [.ro 8 [] true,.ro 1 [] true])]) (s (O 5 [f 0 3,l 1 5,f 0 1,l 1 7,E (.app [.int .u64 0,.int .u8 0,.int .u8 0,.str [],.str [],.ro 2 [] true,.str [],.ro 6 [] true] 120 false (T 6) (T 8)),f 0 3,n (st 1 10 9)]) (s (s (R 4 [i 0] ⟨true,[4,3,2,1],[(9999,65537)]⟩) (bk 0 DN ⟨true,[3,2],[(9999,65537)]⟩)) yV))))⟩
@[simp] theorem al3:ZL DN qc ⟨true,[4,3,2,1],[(9999,65537)]⟩:=bF rfl
def JH:aC:=zd (r (O 6 [i 0]))
def yI:aC:=zd (s (s (O 8 [m 7,m 2,ln 1 9,lt 8 10]) (cc 11 (w .skip) (ee 0))) (s (B 1 (s (U 14 [m 1,m 2,m 7,ix 1 15 16,l 1 17,ix 6 14 18,f 0 19,f 0 20,l 1 21,f 0 3,l 1 23,eq 22 24,m 25,y 26 (m 1),y 26 (m 2),y 26 (m 7),y 26 (ix 1 28 29),y 26 (l 1 30),y 26 (ix 6 27 31),y 26 (f 0 32),y 26 (f 1 33),y 26 (l 1 34),y 26 (f 1 3),y 26 (l 1 36),y 26 (eq 35 37),pa 26 38] [] [39,7,3,2,1]) (c 39 (r (O 6 [i 1]))))) (O 12 [m 7,adi 12 1,d 7 (m 13)])))
def KW:aC:=.loop ⟨true,[7,3,2,1],[]⟩ yI
def ab4:WFn:=⟨3,[.tmp 6],zd (s (O 6 [d 3 (bx 0),i 0]) (s (s (O 7 [i 0]) (bk 0 KW ⟨true,[],[]⟩)) JH))⟩
@[simp] theorem alB:ZL KW yI ⟨true,[7,3,2,1],[]⟩:=bF rfl
noncomputable abbrev DF (C:aJ) (s:WSt):Option AV:=CK C 0 (aP [.tmp 6]) [.sq KW,.bk 0 ⟨true,[],[]⟩,.sq JH] yI s
def adF:WFn:=⟨3,[.cell 6 6 true],zd (s (O 6 [d 3 (bx 0),E (.alloc [.int .u8 0,.str [],.str [],.ro 2 [] true,.str [],.ro 6 [] true])]) (s (U 10 [f 0 3,l 1 10,m 1,m 2,ix 6 12 13,f 0 14,f 1 15,l 1 16,ix 9 11 17,f 0 18,h 6 19,m 1,m 2,ix 6 21 22,f 0 23,h 4 24,f 1 3,l 1 26,ca 425 [20,25,27],d 9 (m 28),ex 0 9,ex 1 9,d 7 (E (.alloc [.int .u8 0,.str [],.str [],.ro 2 [] true,.str [],.ro 6 [] true])),n (st 6 7 29),d 8 (m 30)] [(1,22),(7,22),(10,22),(15,22),(17,22),(18,22)] [7,6]) (r (O 31 [h 6 7,n (st 6 6 31)]))))⟩
def ab3:WFn:=⟨1,[.cell 2 2 true],zd (s (O 1 [bx 0,E (.alloc [.ro 9 [] true,.int .i64 0])]) (r (O 3 [f 3 1,l 1 3,f 4 1,l 1 5,E (.build [.ro 9 [] true,.int .i64 0] [(0,1,T 4),(1,1,T 6)]),n (st 2 2 7)])))⟩
def KL:aC:=zd (r (O 4 [i (-1)]))
def zU:aC:=zd (s (s (O 6 [m 5,m 0,ln 1 7,lt 6 8]) (cc 9 (w .skip) (ee 0))) (s (B 1 (s (O 12 [m 0,m 5,ix 8 12 13,f 0 14,l 1 15,m 1,eq 16 17]) (c 18 (r (O 19 [m 5,d 4 (m 19)]))))) (O 10 [m 5,adi 10 1,d 5 (m 11)])))
def Nh:aC:=.loop ⟨true,[5,1,0],[]⟩ zU
def adU:WFn:=⟨2,[.tmp 4],zd (s (O 4 [i 0]) (s (s (O 5 [i 0]) (bk 0 Nh ⟨true,[],[]⟩)) KL))⟩
@[simp] theorem alm:ZL Nh zU ⟨true,[5,1,0],[]⟩:=bF rfl
noncomputable abbrev EH (C:aJ) (s:WSt):Option AV:=CK C 0 (aP [.tmp 4]) [.sq Nh,.bk 0 ⟨true,[],[]⟩,.sq KL] zU s
def MP:aC:=zd (r (O 79 [h 1 3,ca 227 [79],d 4 (m 80)]))
def kP:aC:=zd (s (O 26 [lt 25 24]) (s (cc 26 (w .skip) (ee 0)) (s (B 1 (s (O 27 [ix 6 23 25,h 6 27,d 8 (E (.alloc [.int .u64 0,.int .u8 0,.str [],.ro 1 [] true,.int .i64 0,.bool false])),n (st 6 8 28)]) (s (s (O 29 [f 0 8,h 4 29,f 0 2,l 1 31,ln 1 32,ca 398 [30,33],d 9 (m 34)]) (s (O 35 [m 9,nei 35 0]) (c 36 (r (O 37 [m 9,d 4 (m 37)]))))) (s (s (Q 38 [m 6,f 0 8,f 0 39,l 1 40,E (.look 0 (.bool false) false (T 38) (T 41))] [42,25,24,23,8,6,3,2]) (c 42 (r (O 4 [i 8])))) (s (O 43 [m 6,f 0 8,f 0 44,l 1 45,n (E (.upd 0 (T 43) (T 46) (.c (.bool true))))]) (s (s (O 48 [h 2 2,f 0 8,h 4 49,ca 399 [48,50],d 47 (m 51),ex 0 47,ex 1 47,d 10 (E (.alloc [.int .u8 0,.str [],.str [],.ro 2 [] true,.str [],.ro 6 [] true])),n (st 6 10 52),d 11 (m 53)]) (s (O 54 [m 11,nei 54 0]) (c 55 (r (O 4 [i 14]))))) (s (U 56 [f 4 8,l 1 56,ca 225 [57],nt 58,m 59,z 60 (f 5 8),z 60 (l 1 61),z 60 (nt 62),z 60 (m 63),y 64 (f 4 8),y 64 (l 1 65),y 64 (f 0 2),y 64 (l 1 67),y 64 (f 0 8),y 64 (f 1 69),y 64 (l 1 70),y 64 (ix 9 68 71),y 64 (f 6 72),y 64 (l 1 73),y 64 (ne 66 74),z 60 (pa 64 75),po 60 76] [] [77,25,24,23,6,3,2]) (c 77 (r (O 4 [i 12])))))))))) (O 78 [adi 25 1,d 25 (m 78)]))))
def KZ:aC:=.loop ⟨true,[25,24,23,6,3,2],[]⟩ kP
def XZ:WFn:=⟨2,[.tmp 4],zd (s (O 2 [bx 0,bx 1,i 0]) (s (s (O 12 [h 2 2,ca 115 [12],d 5 (m 13)]) (s (O 14 [m 5,nei 14 0]) (c 15 (r (O 16 [m 5,d 4 (m 16)]))))) (s (s (Q 17 [f 0 3,l 1 17,ln 1 18,gti 19 1024] [20,3,2]) (c 20 (r (O 4 [i 3])))) (s (O 21 [E .jX,d 6 (m 21)]) (s (s (O 22 [f 0 3,l 1 22,ln 1 23,i 0]) (bk 0 KZ ⟨true,[3],[]⟩)) MP)))))⟩
@[simp] theorem akZ:ZL KZ kP ⟨true,[25,24,23,6,3,2],[]⟩:=bF rfl
noncomputable abbrev mg (C:aJ) (s:WSt):Option AV:=CK C 0 (aP [.tmp 4]) [.sq KZ,.bk 0 ⟨true,[3],[]⟩,.sq MP] kP s
def ad7:WFn:=⟨1,[.cell 2 2 true],zd (s (O 1 [bx 0,E (.alloc [.ro 9 [] true,.int .i64 0])]) (r (O 3 [f 3 1,l 1 3,f 4 1,l 1 5,E (.build [.ro 9 [] true,.int .i64 0] [(0,1,T 4),(1,1,T 6)]),n (st 2 2 7)])))⟩
def vS:aC:=zd (s (O 199 [h 2 8,ca 289 [199],f 3 9,n (st 1 201 200)]) (r (V 202 [h 2 8,h 4 9,n (st 2 8 202),n (st 4 9 203)] [(1,2)] ⟨false,[],[]⟩)))
def o9:aC:=zd (s (O 128 [lt 127 126]) (s (cc 128 (w .skip) (ee 7)) (s (B 8 (s (O 129 [ix 1 125 127,l 1 129,d 23 (m 130)]) (s (O 131 [f 0 6,l 1 131,m 23,ix 6 132 133,f 0 134,h 4 135,d 24 (E (.alloc [.int .u64 0,.int .u8 0,.str [],.ro 1 [] true])),n (st 4 24 136)]) (s (V 138 [h 7 4,ca 279 [138],f 0 6,l 1 140,m 23,m 23,adi 143 1,m 23,adi 145 1,E (.slice 6 (T 141) (some (T 142)) (some (T 144)) (some (T 146))),E (.build [.ro 6 [] true] [(0,1,T 147)]),E (.call 238 [T 139,T 148,N 0]),d 137 (m 149),ex 0 137,ex 1 137,d 25 (E (.alloc [.int .u8 0,.str [],.str [],.ro 2 [] true,.str [],.ro 6 [] true])),n (st 6 25 150),d 26 (m 151)] [(1,3),(0,15),(1,15),(3,15),(11,15)] ⟨true,[127,126,125,25,24,16,9,8,6,4],[(9999,65537)]⟩) (s (O 152 [f 0 8,l 1 152,f 0 24,l 1 154,f 1 24,l 1 156,h 6 25,E (.build [.int .u64 0,.int .u8 0,.int .u8 0,.str [],.str [],.ro 2 [] true,.str [],.ro 6 [] true] [(0,1,T 155),(1,1,T 157),(2,6,T 158)]),E (.aZ [.int .u64 0,.int .u8 0,.int .u8 0,.str [],.str [],.ro 2 [] true,.str [],.ro 6 [] true] 1 [(0,T 159)]),E (.app [.int .u64 0,.int .u8 0,.int .u8 0,.str [],.str [],.ro 2 [] true,.str [],.ro 6 [] true] 120 false (T 153) (T 160)),f 0 8,n (st 1 162 161)]) (s (R 163 [f 1 8,l 1 163,f 1 24,l 1 165,ix 1 164 166,d 27 (m 167)] ⟨true,[127,126,125,27,24,16,9,8,6,4],[(9999,65537)]⟩) (s (O 168 [m 27,nk 168,l 1 169,ln 1 170,d 28 (m 171)]) (B 9 (s (O 177 [m 16,f 0 24,l 1 178,E (.look 0 (.bool false) false (T 177) (T 179)),d 176 (m 180)]) (cc 176 (w .skip) (s (O 182 [m 28,gti 182 0,d 181 (m 183)]) (cc 181 (s (R 184 [m 27,m 27,nk 185,l 1 186,m 28,sbi 188 1,m 28,sbi 190 1,E (.slice 8 (T 187) none (some (T 189)) (some (T 191))),nk 184,n (st 1 193 192)] ⟨true,[127,126,125,16,9,8,6,4],[(9999,65537)]⟩) (O 194 [f 0 9,l 1 194,adi 195 1,f 0 9,n (st 1 197 196)])) (O 172 [f 1 9,l 1 172,adi 173 1,f 1 9,n (st 1 175 174)]))))))))))))) (O 198 [adi 127 1,d 127 (m 198)]))))
def Ae:aC:=.loop ⟨true,[127,126,125,16,9,8,6,4],[(9999,65537)]⟩ o9
def EP:aC:=zd (s (s (O 125 [m 3,ln 1 125,i 0]) (bk 7 Ae ⟨true,[9,8],[(9999,65537)]⟩)) vS)
def oV:aC:=zd (s (O 73 [lt 72 71]) (s (cc 73 (w .skip) (ee 4)) (s (B 5 (s (O 74 [ix 8 70 72,h 8 74,d 18 (E (.alloc [.int .u64 0,.int .u8 0,.int .u8 0,.str [],.str [],.ro 2 [] true,.str [],.ro 6 [] true])),n (st 8 18 75)]) (s (O 76 [f 1 8,l 1 76,f 1 18,l 1 78,ix 1 77 79,d 19 (m 80)]) (s (O 82 [m 10,f 0 18,l 1 83,E (.look 0 (.int .u8 0) true (T 82) (T 84)),d 81 (m 85),ex 0 81,ex 1 81,d 20 (m 86),d 21 (m 87)]) (B 6 (s (R 93 [m 21,m 93,y 94 (m 20),y 94 (f 1 18),y 94 (l 1 96),y 94 (eq 95 97),pa 94 98,d 92 (m 99)] ⟨true,[92,72,71,70,19,18,16,10,9,8,6,4,3],[(9999,65537)]⟩) (cc 92 (O 100 [m 16,f 0 18,l 1 101,n (E (.upd 0 (T 100) (T 102) (.c (.bool true))))]) (s (V 104 [m 19,nk 104,l 1 105,ln 1 106,f 3 4,l 1 108,f 1 18,l 1 110,ix 9 109 111,f 8 112,l 1 113,lt 107 114,d 103 (m 115)] [] ⟨false,[],[]⟩) (cc 103 (V 116 [m 19,m 19,nk 117,l 1 118,h 8 18,E (.aZ [.int .u64 0,.int .u8 0,.int .u8 0,.str [],.str [],.ro 2 [] true,.str [],.ro 6 [] true] 1 [(0,T 120)]),E (.app [.int .u64 0,.int .u8 0,.int .u8 0,.str [],.str [],.ro 2 [] true,.str [],.ro 6 [] true] 120 false (T 119) (T 121)),nk 116,n (st 1 123 122)] [(3,5)] ⟨true,[72,71,70,16,10,9,8,6,4,3],[(9999,65537)]⟩) (O 88 [f 2 9,l 1 88,adi 89 1,f 2 9,n (st 1 91 90)])))))))))) (O 124 [adi 72 1,d 72 (m 124)]))))
def N7:aC:=.loop ⟨true,[72,71,70,16,10,9,8,6,4,3],[(9999,65537)]⟩ oV
def Ec:aC:=zd (s (O 68 [E .jX,d 16 (m 68)]) (s (s (R 69 [f 0 5,l 1 69,ln 1 70,i 0] ⟨true,[72,71,70,16,10,9,8,6,4,3],[(9999,65537)]⟩) (bk 4 N7 ⟨true,[16,9,8,6,4,3],[(9999,65537)]⟩)) EP))
def vU:aC:=zd (s (O 57 [lt 56 55]) (s (cc 57 (w .skip) (ee 2)) (s (B 3 (s (O 58 [m 56,ix 1 54 56,l 1 59,d 14 (m 58),d 15 (m 60)]) (V 61 [f 1 8,l 1 61,m 14,m 15,ca 3009 [64],ix 1 62 63,n (st 1 66 65)] [(1,4)] ⟨false,[],[]⟩))) (O 67 [adi 56 1,d 56 (m 67)]))))
def Na:aC:=.loop ⟨true,[56,55,54,10,9,8,6,5,4,3],[(9999,65537)]⟩ vU
def DT:aC:=zd (s (R 48 [f 1 5,l 1 48,ln 1 49,E (.mD [.ro 8 [] true] 24 (T 50) (T 50)),f 1 8,n (st 1 52 51)] ⟨true,[10,9,8,6,5,4,3],[(9999,65537)]⟩) (s (s (O 53 [f 1 5,l 1 53,ln 1 54,i 0]) (bk 2 Na ⟨true,[10,9,8,6,5,4,3],[(9999,65537)]⟩)) Ec))
def zM:aC:=zd (s (O 33 [lt 32 31]) (s (cc 33 (w .skip) (ee 0)) (s (B 1 (s (O 34 [ix 1 30 32,l 1 34,d 12 (m 35)]) (s (O 36 [f 0 6,l 1 36,m 12,ix 6 37 38,f 0 39,h 4 40,d 13 (E (.alloc [.int .u64 0,.int .u8 0,.str [],.ro 1 [] true])),n (st 4 13 41)]) (O 42 [m 10,f 0 13,l 1 43,f 1 13,l 1 45,n (E (.upd 0 (T 42) (T 44) (T 46)))])))) (O 47 [adi 32 1,d 32 (m 47)]))))
def JZ:aC:=.loop ⟨true,[32,31,30,10,9,8,6,5,4,3],[(9999,65537)]⟩ zM
def Xl:WFn:=⟨4,[.cell 8 2 true,.cell 9 4 true],zd (s (O 4 [bx 0,bx 1,bx 2,d 8 (E (.alloc [.ro 8 [] true,.ro 1 [] true])),d 9 (E (.alloc [.int .i64 0,.int .i64 0,.int .i64 0,.int .i64 0]))]) (s (R 29 [E .jX,d 10 (m 29)] ⟨true,[10,9,8,6,5,4,3],[(9999,65537)]⟩) (s (s (O 30 [m 3,ln 1 30,i 0]) (bk 0 JZ ⟨true,[10,9,8,6,5,4,3],[(9999,65537)]⟩)) DT)))⟩
@[simp] theorem akH:ZL Ae o9 ⟨true,[127,126,125,16,9,8,6,4],[(9999,65537)]⟩:=bF rfl
@[simp] theorem alk:ZL N7 oV ⟨true,[72,71,70,16,10,9,8,6,4,3],[(9999,65537)]⟩:=bF rfl
@[simp] theorem alC:ZL Na vU ⟨true,[56,55,54,10,9,8,6,5,4,3],[(9999,65537)]⟩:=bF rfl
@[simp] theorem ala:ZL JZ zM ⟨true,[32,31,30,10,9,8,6,5,4,3],[(9999,65537)]⟩:=bF rfl
def adJ:aC:=zd (r (O 29 [h 2 3,n (st 2 2 29)]))
def UH:aC:=zd (s (O 18 [lt 17 16]) (s (cc 18 (w .skip) (ee 0)) (s (B 1 (s (O 19 [m 17,ix 1 15 17,l 1 20,d 4 (m 19),d 5 (m 21)]) (V 22 [f 1 3,l 1 22,m 4,m 5,ca 432 [25],ix 1 23 24,n (st 1 27 26)] [(1,4)] ⟨false,[],[]⟩))) (O 28 [adi 17 1,d 17 (m 28)]))))
def Vh:aC:=.loop ⟨true,[17,16,15,3,2],[]⟩ UH
def adD:WFn:=⟨1,[.cell 2 2 true],zd (s (O 1 [bx 0,E (.alloc [.ro 8 [] true,.ro 1 [] true])]) (s (U 6 [f 0 1,l 1 6,ca 432 [7],f 1 1,l 1 9,ln 1 10,E (.mD [.ro 8 [] true] 24 (T 11) (T 11)),E (.build [.ro 8 [] true,.ro 1 [] true] [(0,1,T 8),(1,1,T 12)]),d 3 (E (.alloc [.ro 8 [] true,.ro 1 [] true])),n (st 2 3 13)] [(2,4),(2,5),(1,6),(2,6),(1,8),(2,8),(4,8),(5,8),(6,8)] [3,2,1]) (s (s (O 14 [f 1 1,l 1 14,ln 1 15,i 0]) (bk 0 Vh ⟨true,[3,2],[]⟩)) adJ)))⟩
@[simp] theorem ama:ZL Vh UH ⟨true,[17,16,15,3,2],[]⟩:=bF rfl
def ug:aC:=zd (r (O 29 [h 2 3,n (st 2 2 29)]))
def oh:aC:=zd (s (O 18 [lt 17 16]) (s (cc 18 (w .skip) (ee 0)) (s (B 1 (s (O 19 [m 17,ix 1 15 17,l 1 20,d 4 (m 19),d 5 (m 21)]) (V 22 [f 1 3,l 1 22,m 4,m 5,ca 5034 [25],ix 1 23 24,n (st 1 27 26)] [(1,4)] ⟨false,[],[]⟩))) (O 28 [adi 17 1,d 17 (m 28)]))))
def yS:aC:=.loop ⟨true,[17,16,15,3,2],[(9999,65537)]⟩ oh
def QB:WFn:=⟨1,[.cell 2 2 true],zd (s (O 1 [bx 0,E (.alloc [.ro 8 [] true,.ro 1 [] true])]) (s (V 6 [f 0 1,l 1 6,ca 5034 [7],f 1 1,l 1 9,ln 1 10,E (.mD [.ro 8 [] true] 24 (T 11) (T 11)),E (.build [.ro 8 [] true,.ro 1 [] true] [(0,1,T 8),(1,1,T 12)]),d 3 (E (.alloc [.ro 8 [] true,.ro 1 [] true])),n (st 2 3 13)] [(2,4),(2,5),(1,6),(2,6),(1,8),(2,8),(4,8),(5,8),(6,8)] ⟨true,[3,2,1],[(9999,65537)]⟩) (s (s (O 14 [f 1 1,l 1 14,ln 1 15,i 0]) (bk 0 yS ⟨true,[3,2],[(9999,65537)]⟩)) ug)))⟩
@[simp] theorem aki:ZL yS oh ⟨true,[17,16,15,3,2],[(9999,65537)]⟩:=bF rfl
def LV:aC:=zd (r (O 4 [i 1]))
def yO:aC:=zd (s (s (O 11 [m 5,m 0,ln 1 12,lt 11 13]) (cc 14 (w .skip) (ee 0))) (s (B 1 (s (U 17 [m 0,m 5,ix 8 17 18,f 0 19,l 1 20,m 1,m 5,ix 8 22 23,f 0 24,l 1 25,ne 21 26,m 27,z 28 (m 0),z 28 (m 5),z 28 (ix 8 29 30),z 28 (f 1 31),z 28 (l 1 32),z 28 (m 1),z 28 (m 5),z 28 (ix 8 34 35),z 28 (f 1 36),z 28 (l 1 37),z 28 (ne 33 38),po 28 39,m 40,z 41 (m 0),z 41 (m 5),z 41 (ix 8 42 43),z 41 (f 2 44),z 41 (h 6 45),z 41 (m 1),z 41 (m 5),z 41 (ix 8 47 48),z 41 (f 2 49),z 41 (h 6 50),z 41 (ca 415 [46,51]),z 41 (eqi 52 0),po 41 53] [] [54,5,1,0]) (c 54 (r (O 4 [i 0]))))) (O 15 [m 5,adi 15 1,d 5 (m 16)])))
def LJ:aC:=.loop ⟨true,[5,1,0],[]⟩ yO
def YO:WFn:=⟨2,[.tmp 4],zd (s (O 4 [i 0]) (s (s (O 6 [m 0,ln 1 6,m 1,ln 1 8,ne 7 9]) (c 10 (r (O 4 [i 0])))) (s (s (O 5 [i 0]) (bk 0 LJ ⟨true,[],[]⟩)) LV)))⟩
@[simp] theorem akU:ZL LJ yO ⟨true,[5,1,0],[]⟩:=bF rfl
noncomputable abbrev Ea (C:aJ) (s:WSt):Option AV:=CK C 0 (aP [.tmp 4]) [.sq LJ,.bk 0 ⟨true,[],[]⟩,.sq LV] yO s
def acI:WFn:=⟨1,[.tmp 2],zd (s (Q 1 [bx 0,i 0] [1]) (s (O 3 [E (.mv (.c (.fn 427 [])))]) (s (s (O 4 [h 7 1,ca 279 [4],ca 115 [5],nei 6 0,m 7,z 8 (f 5 1),z 8 (l 1 9),z 8 (lti 10 1),po 8 11,m 12,z 13 (f 5 1),z 13 (l 1 14),z 13 (gti 15 65536),po 13 16,m 17,z 18 (f 3 1),z 18 (l 1 19),z 18 (m 3),z 18 (ca 232 [20,21]),po 18 22]) (c 23 (r (O 2 [i 7])))) (r (O 2 [i 0])))))⟩
def acA:WFn:=⟨2,[.tmp 4],zd (s (O 2 [bx 0,bx 1,ff]) (s (s (U 6 [f 0 3,l 1 6,E (.bin .eql (T 7) (.c (.int .u64 0))),m 8,z 9 (f 1 3),z 9 (l 1 10),z 9 (E (.cvt .i64 (T 11))),z 9 (f 3 2),z 9 (l 1 13),z 9 (ln 1 14),z 9 (ge 12 15),po 9 16,m 17,z 18 (f 2 3),z 18 (h 6 19),z 18 (ca 439 [20]),z 18 (nei 21 0),po 18 22,m 23,z 24 (f 2 3),z 24 (h 6 25),z 24 (ca 140 [26]),z 24 (f 4 2),z 24 (l 1 28),z 24 (gt 27 29),po 24 30] [(21,23)] [31,3,2]) (c 31 (r (O 4 [ff])))) (s (Q 32 [f 3 2,l 1 32,f 1 3,l 1 34,ix 9 33 35,f 0 36,h 6 37,d 5 (E (.alloc [.int .u8 0,.str [],.str [],.ro 3 [] true,.str [],.ro 6 [] true])),n (st 6 5 38)] [5,3]) (r (O 39 [f 2 3,f 0 39,l 1 40,f 0 5,l 1 42,eq 41 43,m 44,y 45 (f 2 3),y 45 (f 1 46),y 45 (l 1 47),y 45 (f 1 5),y 45 (l 1 49),y 45 (eq 48 50),pa 45 51,d 4 (m 52)])))))⟩
def adL:WFn:=⟨2,[.tmp 4],zd (s (O 4 [ff]) (r (O 5 [m 0,m 1,ca 514 [5,6],gei 7 0,d 4 (m 8)])))⟩
def ab9:WFn:=⟨3,[.tmp 4],zd (s (O 3 [bx 0,ff]) (r (O 5 [f 1 3,l 1 5,E (.cvt .i64 (T 6)),l 1 1,ne 7 8,m 9,z 10 (h 7 2),z 10 (h 8 3),z 10 (ca 428 [11,12]),z 10 (nt 13),po 10 14,d 4 (m 15)])))⟩
def yZ:aC:=zd (V 31 [l 1 3,m 0,E (.slice 1 (T 32) (some (N 1)) none none),E (.dW (T 31) [T 33])] [] ⟨false,[],[]⟩)
def zX:aC:=zd (s (O 15 [lt 14 13]) (s (cc 15 (w .skip) (ee 0)) (s (B 1 (s (Q 16 [ix 8 12 14,h 8 16,d 6 (E (.alloc [.int .u64 0,.int .u8 0,.int .u8 0,.str [],.str [],.ro 2 [] true,.str [],.ro 6 [] true])),n (st 8 6 17)] [14,13,12,6,3,2,1,0]) (s (O 18 [l 1 1,m 18,y 19 (f 2 6),y 19 (h 6 20),y 19 (ca 439 [21]),y 19 (eqi 22 0),pa 19 23,n (st 1 1 24)]) (V 25 [l 1 2,f 2 6,h 6 26,ca 140 [27],ad 25 28,n (st 1 2 29)] [(0,3)] ⟨false,[],[]⟩)))) (O 30 [adi 14 1,d 14 (m 30)]))))
def Me:aC:=.loop ⟨true,[14,13,12,3,2,1,0],[]⟩ zX
def Mc:WFn:=⟨4,[],zd (s (s (O 7 [m 0,ln 1 7,eqi 8 0]) (c 9 (w .ret))) (s (s (O 10 [m 0,E (.idxs 1 (T 10) (N 0)),l 1 11,ln 1 12,i 0]) (bk 0 Me ⟨true,[3,0],[]⟩)) yZ))⟩
@[simp] theorem akB:ZL Me zX ⟨true,[14,13,12,3,2,1,0],[]⟩:=bF rfl
def aaf:WFn:=⟨1,[.tmp 2],zd (s (O 1 [bx 0,i 0]) (s (s (O 3 [h 6 1,ca 140 [3],eqi 4 0]) (c 5 (r (O 2 [i 14])))) (r (O 2 [i 0]))))⟩
def aeX:aC:=zd (r (V 30 [h 7 3,h 1 4,n (st 7 0 30),n (st 1 1 31)] [(1,2)] ⟨false,[],[]⟩))
def Ut:aC:=zd (s (s (O 13 [m 5,lti 13 4]) (cc 14 (w .skip) (ee 0))) (s (B 1 (O 17 [f 0 4,l 1 17,m 5,adi 19 1,E (.cvt .u64 (T 20)),m 5,E (.bin .quo (T 22) (N 3)),E (.cvt .u8 (T 23)),E (.build [.int .u64 0,.int .u8 0,.str [],.ro 1 [] true] [(0,1,T 21),(1,1,T 24)]),E (.build [.int .u64 0,.int .u8 0,.str [],.ro 1 [] true,.int .i64 0,.bool false] [(0,4,T 25),(4,1,N 1)]),E (.aZ [.int .u64 0,.int .u8 0,.str [],.ro 1 [] true,.int .i64 0,.bool false] 1 [(0,T 26)]),E (.app [.int .u64 0,.int .u8 0,.str [],.ro 1 [] true,.int .i64 0,.bool false] 72 false (T 18) (T 27)),f 0 4,n (st 1 29 28)])) (O 15 [m 5,adi 15 1,d 5 (m 16)])))
def UE:aC:=.loop ⟨true,[5,4,3,1,0],[]⟩ Ut
def ajr:WFn:=⟨0,[.cell 0 7 true,.cell 1 1 true],zd (s (O 0 [E (.alloc [.int .i64 0,.int .i64 0,.int .i64 0,.ro 9 [] true,.int .i64 0,.int .i64 0,.int .u8 0]),E (.alloc [.ro 6 [] true])]) (s (O 6 [E (.build [.int .u8 0,.str [],.str [],.ro 3 [] true,.str [],.ro 6 [] true] [(0,1,.c (.int .u8 1)),(1,1,.c (.str [114,111,119]))]),d 2 (E (.alloc [.int .u8 0,.str [],.str [],.ro 3 [] true,.str [],.ro 6 [] true])),n (st 6 2 6)]) (s (O 7 [h 6 2,E (.build [.int .u8 0,.str [],.str [],.ro 3 [] true,.str [],.ro 6 [] true,.int .i64 0,.bool false,.int .i64 0] [(0,6,T 7),(6,1,N 1),(8,1,N 1)]),h 6 2,E (.build [.int .u8 0,.str [],.str [],.ro 3 [] true,.str [],.ro 6 [] true,.int .i64 0,.bool false,.int .i64 0] [(0,6,T 9),(6,1,N 1)]),E (.aZ [.int .u8 0,.str [],.str [],.ro 3 [] true,.str [],.ro 6 [] true,.int .i64 0,.bool false,.int .i64 0] 2 [(0,T 8),(1,T 10)]),E (.build [.int .i64 0,.int .i64 0,.int .i64 0,.ro 9 [] true,.int .i64 0,.int .i64 0,.int .u8 0] [(3,1,T 11),(4,1,N 1),(5,1,N 100)]),d 3 (E (.alloc [.int .i64 0,.int .i64 0,.int .i64 0,.ro 9 [] true,.int .i64 0,.int .i64 0,.int .u8 0])),n (st 7 3 12)]) (s (O 4 [E (.alloc [.ro 6 [] true])]) (s (s (Q 5 [i 0] [5,4,3,1,0]) (bk 0 UE ⟨true,[4,3,1,0],[]⟩)) aeX)))))⟩
@[simp] theorem ale:ZL UE Ut ⟨true,[5,4,3,1,0],[]⟩:=bF rfl
def aeV:aC:=zd (r (O 4 [i 1]))
def VG:aC:=zd (s (s (O 11 [m 5,m 0,ln 1 12,lt 11 13]) (cc 14 (w .skip) (ee 0))) (s (B 1 (s (V 17 [m 0,m 5,ix 8 17 18,f 0 19,l 1 20,m 1,m 5,ix 1 22 23,l 1 24,ne 21 25] [] ⟨false,[],[]⟩) (c 26 (r (O 4 [i 0]))))) (O 15 [m 5,adi 15 1,d 5 (m 16)])))
def UR:aC:=.loop ⟨true,[5,1,0],[]⟩ VG
def ajs:WFn:=⟨2,[.tmp 4],zd (s (O 4 [i 0]) (s (s (Q 6 [m 0,ln 1 6,m 1,ln 1 8,ne 7 9] [10,1,0]) (c 10 (r (O 4 [i 0])))) (s (s (O 5 [i 0]) (bk 0 UR ⟨true,[],[]⟩)) aeV)))⟩
@[simp] theorem ame:ZL UR VG ⟨true,[5,1,0],[]⟩:=bF rfl
def ae6:aC:=zd (r (O 28 [m 3,d 2 (m 28)]))
def Vf:aC:=zd (s (O 15 [lt 14 13]) (s (cc 15 (w .skip) (ee 0)) (s (B 1 (s (O 16 [m 14,ix 8 12 14,h 8 17,d 5 (E (.alloc [.int .u64 0,.int .u8 0,.int .u8 0,.str [],.str [],.ro 2 [] true,.str [],.ro 6 [] true])),d 4 (m 16),n (st 8 5 18)]) (s (O 19 [f 2 5,h 6 19,ca 515 [20],f 2 5,n (st 6 22 21)]) (O 23 [m 3,m 4,h 8 5,ix 8 23 24,n (st 8 26 25)])))) (O 27 [adi 14 1,d 14 (m 27)]))))
def UJ:aC:=.loop ⟨true,[14,13,12,3],[]⟩ Vf
def ai1:WFn:=⟨1,[.tmp 2],zd (s (O 2 [E (.mv (.c (.ro 8 [] true)))]) (s (s (O 6 [m 0,ln 1 6,eqi 7 0]) (c 8 (r (O 2 [E (.mv (.c (.ro 8 [] true)))])))) (s (O 9 [m 0,ln 1 9,E (.mD [.int .u64 0,.int .u8 0,.int .u8 0,.str [],.str [],.ro 2 [] true,.str [],.ro 6 [] true] 120 (T 10) (T 10)),d 3 (m 11)]) (s (s (Q 12 [m 0,ln 1 12,i 0] [14,13,12,3]) (bk 0 UJ ⟨true,[3],[]⟩)) ae6))))⟩
@[simp] theorem alq:ZL UJ Vf ⟨true,[14,13,12,3],[]⟩:=bF rfl
def FT:aC:=zd (r (O 28 [m 3,d 2 (m 28)]))
def um:aC:=zd (s (O 15 [lt 14 13]) (s (cc 15 (w .skip) (ee 0)) (s (B 1 (s (O 16 [m 14,ix 8 12 14,h 8 17,d 5 (E (.alloc [.int .u64 0,.int .u8 0,.int .u8 0,.str [],.str [],.ro 2 [] true,.str [],.ro 6 [] true])),d 4 (m 16),n (st 8 5 18)]) (s (O 19 [f 2 5,h 6 19,ca 5035 [20],f 2 5,n (st 6 22 21)]) (O 23 [m 3,m 4,h 8 5,ix 8 23 24,n (st 8 26 25)])))) (O 27 [adi 14 1,d 14 (m 27)]))))
def Gp:aC:=.loop ⟨true,[14,13,12,3],[(9999,65537)]⟩ um
def Pg:WFn:=⟨1,[.tmp 2],zd (s (O 2 [E (.mv (.c (.ro 8 [] true)))]) (s (s (O 6 [m 0,ln 1 6,eqi 7 0]) (c 8 (r (O 2 [E (.mv (.c (.ro 8 [] true)))])))) (s (O 9 [m 0,ln 1 9,E (.mD [.int .u64 0,.int .u8 0,.int .u8 0,.str [],.str [],.ro 2 [] true,.str [],.ro 6 [] true] 120 (T 10) (T 10)),d 3 (m 11)]) (s (s (R 12 [m 0,ln 1 12,i 0] ⟨true,[14,13,12,3],[(9999,65537)]⟩) (bk 0 Gp ⟨true,[3],[(9999,65537)]⟩)) FT))))⟩
@[simp] theorem ajF:ZL Gp um ⟨true,[14,13,12,3],[(9999,65537)]⟩:=bF rfl
def aa7:WFn:=⟨1,[.tmp 2],zd (s (O 1 [bx 0,i 0]) (s (s (O 3 [h 6 1,ca 442 [3],eqi 4 0]) (c 5 (r (O 2 [i 14])))) (r (O 2 [i 0]))))⟩
def Y5:WFn:=⟨1,[.tmp 2],zd (s (O 1 [bx 0,i 0]) (s (O 4 [h 6 1,E (.call 520 [T 4,N 6]),d 3 (m 5)]) (s (s (O 6 [m 3,gti 6 64]) (c 7 (r (O 2 [i 0])))) (r (O 8 [m 3,d 2 (m 8)])))))⟩
def ad5:WFn:=⟨1,[.cell 2 1 false,.cell 3 1 false],zd (s (O 1 [bx 0,E (.alloc [.int .i64 0]),E (.alloc [.int .i64 0])]) (s (O 4 [E (.alloc [.dV])]) (s (O 5 [E (.kX 433 [T 2,T 3,T 4]),n (st 1 4 5)]) (s (s (O 6 [l 1 4,E (.dW (T 6) [T 1,N 1]),nt 7]) (c 8 (r (O 0 [n (E (.store 1 (T 2) (N 0))),n (E (.store 1 (T 3) (N 0)))])))) (r (V 9 [l 1 2,l 1 3,n (st 1 2 9),n (st 1 3 10)] [(1,2)] ⟨false,[],[]⟩))))))⟩
def ac7:WFn:=⟨1,[.tmp 2],zd (s (O 2 [E (.mv (.c (.ro 9 [] true)))]) (s (Q 6 [E (.build [.str [],.int .u8 0,.str []] [(0,1,.c (.str [110])),(1,1,.c (.int .u8 3))]),E (.build [.str [],.int .u8 0,.str []] [(0,1,.c (.str [116,101,120,116])),(1,1,.c (.int .u8 1))]),E (.aZ [.str [],.int .u8 0,.str []] 2 [(0,T 6),(1,T 7)]),E (.build [.int .u8 0,.str [],.str [],.ro 3 [] true,.str [],.ro 6 [] true] [(0,1,.c (.int .u8 3))]),E (.aZ [.int .u8 0,.str [],.str [],.ro 3 [] true,.str [],.ro 6 [] true] 1 [(0,T 9)]),E (.build [.int .u8 0,.str [],.str [],.ro 3 [] true,.str [],.ro 6 [] true] [(0,1,.c (.int .u8 1)),(1,1,.c (.str [114,111,119])),(3,1,T 8),(5,1,T 10)]),d 3 (E (.alloc [.int .u8 0,.str [],.str [],.ro 3 [] true,.str [],.ro 6 [] true])),n (st 6 3 11)] [3,0]) (s (O 12 [E (.build [.str [],.int .u8 0,.str []] [(0,1,.c (.str [105,100])),(1,1,.c (.int .u8 2))]),E (.aZ [.str [],.int .u8 0,.str []] 1 [(0,T 12)]),E (.build [.int .u8 0,.str [],.str [],.ro 3 [] true,.str [],.ro 6 [] true] [(0,1,.c (.int .u8 2)),(4,1,.c (.str [35]))]),E (.build [.int .u8 0,.str [],.str [],.ro 3 [] true,.str [],.ro 6 [] true] [(0,1,.c (.int .u8 4))]),E (.aZ [.int .u8 0,.str [],.str [],.ro 3 [] true,.str [],.ro 6 [] true] 2 [(0,T 14),(1,T 15)]),E (.build [.int .u8 0,.str [],.str [],.ro 3 [] true,.str [],.ro 6 [] true] [(0,1,.c (.int .u8 1)),(1,1,.c (.str [104,101,97,100])),(2,1,.c (.str [104])),(3,1,T 13),(5,1,T 16)]),d 4 (E (.alloc [.int .u8 0,.str [],.str [],.ro 3 [] true,.str [],.ro 6 [] true])),n (st 6 4 17)]) (s (O 18 [E (.build [.int .u8 0,.str [],.str [],.ro 3 [] true,.str [],.ro 6 [] true] [(0,1,.c (.int .u8 3))]),E (.aZ [.int .u8 0,.str [],.str [],.ro 3 [] true,.str [],.ro 6 [] true] 1 [(0,T 18)]),E (.build [.int .u8 0,.str [],.str [],.ro 3 [] true,.str [],.ro 6 [] true] [(0,1,.c (.int .u8 1)),(1,1,.c (.str [98])),(2,1,.c (.str [98,50])),(5,1,T 19)]),E (.build [.str [],.int .u8 0,.str []] [(0,1,.c (.str [111,102])),(1,1,.c (.int .u8 2))]),E (.aZ [.str [],.int .u8 0,.str []] 1 [(0,T 21)]),E (.build [.int .u8 0,.str [],.str [],.ro 3 [] true,.str [],.ro 6 [] true] [(0,1,.c (.int .u8 5)),(1,1,.c (.str [116,97,103])),(3,1,T 22)]),E (.aZ [.int .u8 0,.str [],.str [],.ro 3 [] true,.str [],.ro 6 [] true] 2 [(0,T 20),(1,T 23)]),E (.build [.int .u8 0,.str [],.str [],.ro 3 [] true,.str [],.ro 6 [] true] [(0,1,.c (.int .u8 1)),(1,1,.c (.str [114,111,119])),(5,1,T 24)]),d 5 (E (.alloc [.int .u8 0,.str [],.str [],.ro 3 [] true,.str [],.ro 6 [] true])),n (st 6 5 25)]) (r (Q 26 [h 6 3,m 0,E (.bin .rem (T 27) (.c (.int .u8 7))),E (.cvt .i64 (T 28)),E (.bin .add (N 10) (T 29)),m 0,E (.bin .rem (T 31) (.c (.int .u8 4))),E (.cvt .i64 (T 32)),E (.build [.int .u8 0,.str [],.str [],.ro 3 [] true,.str [],.ro 6 [] true,.int .i64 0,.bool false,.int .i64 0] [(0,6,T 26),(6,1,T 30),(8,1,T 33)]),h 6 4,m 0,E (.bin .rem (T 36) (.c (.int .u8 3))),E (.cvt .i64 (T 37)),E (.bin .add (N 6) (T 38)),m 0,E (.bin .quo (T 40) (.c (.int .u8 4))),E (.bin .rem (T 41) (.c (.int .u8 3))),E (.cvt .i64 (T 42)),E (.build [.int .u8 0,.str [],.str [],.ro 3 [] true,.str [],.ro 6 [] true,.int .i64 0,.bool false,.int .i64 0] [(0,6,T 35),(6,1,T 39),(7,1,.c (.bool true)),(8,1,T 43)]),h 6 5,m 0,E (.bin .rem (T 46) (.c (.int .u8 16))),E (.bin .eql (T 47) (.c (.int .u8 15))),m 0,E (.bin .quo (T 49) (.c (.int .u8 8))),E (.bin .rem (T 50) (.c (.int .u8 3))),E (.cvt .i64 (T 51)),E (.build [.int .u8 0,.str [],.str [],.ro 3 [] true,.str [],.ro 6 [] true,.int .i64 0,.bool false,.int .i64 0] [(0,6,T 45),(6,1,N 20),(7,1,T 48),(8,1,T 52)]),E (.aZ [.int .u8 0,.str [],.str [],.ro 3 [] true,.str [],.ro 6 [] true,.int .i64 0,.bool false,.int .i64 0] 3 [(0,T 34),(1,T 44),(2,T 53)]),d 2 (m 54)] [2]))))))⟩
def EZ:aC:=zd (r (O 32 [m 3,d 2 (m 32)]))
def wE:aC:=zd (s (s (Q 6 [m 4,f 0 1,l 1 7,ln 1 8,lt 6 9,m 10,y 11 (m 4),y 11 (lti 12 12),pa 11 13] [14,4,3,1]) (cc 14 (w .skip) (ee 0))) (s (B 1 (s (O 17 [f 0 1,l 1 17,m 4,ix 4 18 19,h 4 20,ca 422 [21],d 5 (E (.alloc [.int .u64 0,.int .u8 0,.str [],.ro 1 [] true])),n (st 4 5 22)]) (s (O 23 [m 3,f 0 5,l 1 24,ca 423 [23,25],lti 26 0]) (c 27 (O 28 [m 3,h 4 5,E (.aZ [.int .u64 0,.int .u8 0,.str [],.ro 1 [] true] 1 [(0,T 29)]),E (.app [.int .u64 0,.int .u8 0,.str [],.ro 1 [] true] 56 false (T 28) (T 30)),d 3 (m 31)]))))) (O 15 [m 4,adi 15 1,d 4 (m 16)])))
def NW:aC:=.loop ⟨true,[4,3,1],[]⟩ wE
def adT:WFn:=⟨1,[.tmp 2],zd (s (O 1 [bx 0,E (.mv (.c (.ro 4 [] true)))]) (s (R 3 [E (.mv (.c (.ro 4 [] true)))] ⟨true,[3,1],[(3,4)]⟩) (s (s (O 4 [i 0]) (bk 0 NW ⟨true,[3],[]⟩)) EZ)))⟩
@[simp] theorem alr:ZL NW wE ⟨true,[4,3,1],[]⟩:=bF rfl
noncomputable abbrev zY (C:aJ) (s:WSt):Option AV:=CK C 0 (aP [.tmp 2]) [.sq NW,.bk 0 ⟨true,[3],[]⟩,.sq EZ] wE s
def Rt:WFn:=⟨3,[.tmp 6],zd (s (O 3 [bx 0,bx 1,d 6 (i 0)]) (s (s (O 9 [h 4 4,f 0 3,l 1 10,ln 1 11,ca 424 [9,12],gti 13 0]) (c 14 (r (O 6 [i 6])))) (s (s (Q 15 [m 2,eqi 15 1] [16,4,3]) (c 16 (r (O 6 [i 8])))) (s (V 18 [f 0 3,l 1 18,f 1 4,l 1 20,ix 9 19 21,f 0 22,h 6 23,h 4 4,f 1 3,l 1 26,ca 425 [24,25,27],d 17 (m 28),ex 0 17,ex 1 17,d 7 (E (.alloc [.int .u8 0,.str [],.str [],.ro 2 [] true,.str [],.ro 6 [] true])),n (st 6 7 29),d 8 (m 30)] [(1,14),(3,14),(6,14),(7,14),(9,14),(10,14)] ⟨false,[],[]⟩) (s (s (O 31 [m 8,gti 31 0]) (c 32 (r (O 6 [i 14])))) (r (O 6 [i 0])))))))⟩
def aco:WFn:=⟨2,[.cell 4 6 true],zd (s (O 2 [bx 0,bx 1,E (.alloc [.int .u64 0,.int .u8 0,.str [],.ro 1 [] true,.int .i64 0,.bool false])]) (r (V 5 [h 4 3,f 0 2,l 1 6,f 1 3,l 1 8,ix 9 7 9,f 6 10,l 1 11,E (.build [.int .u64 0,.int .u8 0,.str [],.ro 1 [] true,.int .i64 0,.bool false] [(0,4,T 5),(4,1,T 12)]),n (st 6 4 13)] [] ⟨false,[],[]⟩)))⟩
def Nw:aC:=zd (r (O 25 [m 3,d 2 (m 25)]))
def uQ:aC:=zd (s (O 11 [lt 10 9]) (s (cc 11 (w .skip) (ee 0)) (s (B 1 (s (O 12 [ix 6 8 10,h 6 12,d 5 (E (.alloc [.int .u64 0,.int .u8 0,.str [],.ro 1 [] true,.int .i64 0,.bool false])),n (st 6 5 13)]) (s (O 14 [f 4 5,l 1 14,E (.mx (T 15) (N 0)),d 6 (m 16)]) (s (s (O 17 [m 6,m 3,E (.bin .sub (N 4611686018427387904) (T 18)),gt 17 19]) (c 20 (r (O 2 [i 4611686018427387905])))) (O 21 [m 3,m 6,ad 21 22,d 3 (m 23)]))))) (O 24 [adi 10 1,d 10 (m 24)]))))
def Nr:aC:=.loop ⟨true,[10,9,8,3],[]⟩ uQ
def adV:WFn:=⟨1,[.tmp 2],zd (s (O 1 [bx 0,i 0]) (s (O 3 [i 0]) (s (s (Q 7 [f 0 1,l 1 7,ln 1 8,i 0] [10,9,8,3]) (bk 0 Nr ⟨true,[3],[]⟩)) Nw)))⟩
@[simp] theorem amc:ZL Nr uQ ⟨true,[10,9,8,3],[]⟩:=bF rfl
noncomputable abbrev yj (C:aJ) (s:WSt):Option AV:=CK C 0 (aP [.tmp 2]) [.sq Nr,.bk 0 ⟨true,[3],[]⟩,.sq Nw] uQ s
def Io:WFn:=⟨3,[.cell 6 6 true,.tmp 7],zd (s (Q 6 [d 3 (bx 0),d 4 (bx 1),E (.alloc [.int .u8 0,.str [],.str [],.ro 2 [] true,.str [],.ro 6 [] true]),i 0] [6,4,3,2]) (s (s (O 9 [m 2,lti 9 1,m 10,z 11 (m 2),z 11 (gti 12 64),po 11 13]) (c 14 (r (O 15 [E (.build [.int .u8 0,.str [],.str [],.ro 2 [] true,.str [],.ro 6 [] true] []),n (st 6 6 15),d 7 (i 1)])))) (s (s (O 16 [h 6 3,ca 408 [16],nei 17 0]) (c 18 (r (O 19 [E (.build [.int .u8 0,.str [],.str [],.ro 2 [] true,.str [],.ro 6 [] true] []),h 6 3,ca 408 [20],n (st 6 6 19),d 7 (m 21)])))) (s (s (O 22 [h 4 4,ca 512 [22],nei 23 0]) (c 24 (r (Q 25 [E (.build [.int .u8 0,.str [],.str [],.ro 2 [] true,.str [],.ro 6 [] true] []),h 4 4,ca 512 [26],n (st 6 6 25),d 7 (m 27)] [7,6])))) (s (O 28 [h 6 3,h 4 4,ca 513 [28,29],E (.idxs 6 (T 30) (N 0)),h 6 31,d 8 (E (.alloc [.int .u8 0,.str [],.str [],.ro 2 [] true,.str [],.ro 6 [] true])),n (st 6 8 32)]) (s (s (O 33 [h 6 8,ca 441 [33],nei 34 0,m 35,z 36 (h 6 8),z 36 (ca 442 [37]),z 36 (m 2),z 36 (gt 38 39),po 36 40]) (c 41 (r (O 42 [E (.build [.int .u8 0,.str [],.str [],.ro 2 [] true,.str [],.ro 6 [] true] []),n (st 6 6 42),d 7 (i 14)])))) (r (O 43 [h 6 8,n (st 6 6 43),d 7 (i 0)]))))))))⟩
def KE:WFn:=⟨1,[.tmp 2],zd (s (O 1 [bx 0,i 0]) (s (O 3 [E (.mv (.c (.fn 230 [])))]) (s (s (Q 4 [f 0 1,l 1 4,ln 1 5,lti 6 1,m 7,z 8 (f 0 1),z 8 (l 1 9),z 8 (ln 1 10),z 8 (gti 11 8),po 8 12,m 13,z 14 (f 1 1),z 14 (l 1 15),z 14 (lti 16 1),po 14 17,m 18,z 19 (f 1 1),z 19 (l 1 20),z 19 (gti 21 64),po 19 22,m 23,z 24 (f 0 1),z 24 (l 1 25),z 24 (m 3),z 24 (ca 232 [26,27]),po 24 28] [29]) (c 29 (r (O 2 [i 7])))) (r (O 2 [i 0])))))⟩
def Rh:WFn:=⟨2,[.tmp 4],zd (s (O 4 [d 2 (bx 0),i 0]) (s (O 7 [E (.kX 494 [T 2]),d 5 (m 7)]) (s (Q 8 [E (.kX 497 [T 2]),d 6 (m 8)] [6,5,2,1]) (s (s (O 9 [f 0 2,l 1 9,E (.bin .eql (T 10) (.c (.int .u64 0))),m 11,z 12 (f 1 2),z 12 (l 1 13),z 12 (E (.cvt .i64 (T 14))),z 12 (m 1),z 12 (ge 15 16),po 12 17,m 18,z 19 (m 5),z 19 (E (.dW (T 20) [])),z 19 (nt 21),po 19 22,m 23,z 24 (m 6),z 24 (E (.dW (T 25) [])),z 24 (nt 26),po 24 27]) (c 28 (r (O 4 [i 6])))) (r (O 4 [i 0]))))))⟩
def acv:WFn:=⟨2,[.cell 4 6 true,.tmp 5],zd (s (O 2 [bx 0,bx 1,E (.alloc [.int .u8 0,.str [],.str [],.ro 2 [] true,.str [],.ro 6 [] true]),i 0]) (r (V 6 [f 0 2,l 1 6,f 1 3,l 1 8,ix 9 7 9,f 0 10,h 6 11,h 4 3,f 1 2,l 1 14,ca 501 [12,13,15],ex 0 16,ex 1 16,n (st 6 4 17),d 5 (m 18)] [] ⟨false,[],[]⟩)))⟩
def ae2:WFn:=⟨1,[.tmp 2],zd (s (O 2 [ff]) (r (O 3 [m 0,gei 3 1,m 4,y 5 (m 0),y 5 (lei 6 2305843009213693952),pa 5 7,d 2 (m 8)])))⟩
def aeT:WFn:=⟨1,[.tmp 2],zd (s (O 1 [bx 0,i 0]) (s (s (O 3 [h 1 1,ca 111 [3],gti 4 4611686018427387904]) (c 5 (r (O 2 [i 13])))) (r (O 2 [i 0]))))⟩
def RF:WFn:=⟨1,[.tmp 2],zd (w (.cln [.int .u64 0,.int .u8 0,.int .u8 0,.str [],.str [],.ro 2 [] true,.str [],.ro 6 [] true] 8 120))⟩
def aeI:WFn:=⟨3,[.cell 6 6 true,.tmp 7],zd (s (O 6 [d 3 (bx 0),d 4 (bx 1),E (.alloc [.int .u8 0,.str [],.str [],.ro 2 [] true,.str [],.ro 6 [] true]),i 0]) (s (s (O 9 [h 2 3,h 1 4,ca 223 [9,10],d 8 (m 11)]) (s (O 12 [m 8,nei 12 0]) (c 13 (r (O 14 [E (.build [.int .u8 0,.str [],.str [],.ro 2 [] true,.str [],.ro 6 [] true] []),m 8,n (st 6 6 14),d 7 (m 15)]))))) (s (s (Q 16 [m 2,lti 16 0,m 17,z 18 (m 2),z 18 (f 0 4),z 18 (l 1 20),z 18 (ln 1 21),z 18 (ge 19 22),po 18 23] [24,6,4,3,2]) (c 24 (r (O 25 [E (.build [.int .u8 0,.str [],.str [],.ro 2 [] true,.str [],.ro 6 [] true] []),n (st 6 6 25),d 7 (i 4)])))) (r (V 26 [h 2 3,f 0 4,l 1 27,m 2,ix 6 28 29,f 0 30,h 4 31,ca 399 [26,32],ex 0 33,ex 1 33,n (st 6 6 34),d 7 (m 35)] [] ⟨false,[],[]⟩)))))⟩
def LP:aC:=zd (r (O 4 [i 1]))
def vY:aC:=zd (s (s (O 69 [m 6,f 5 2,l 1 70,ln 1 71,lt 69 72]) (cc 73 (w .skip) (ee 2))) (s (B 3 (s (V 76 [f 5 2,l 1 76,m 6,ix 6 77 78,h 6 79,f 5 3,l 1 81,m 6,ix 6 82 83,h 6 84,ca 415 [80,85],eqi 86 0] [] ⟨false,[],[]⟩) (c 87 (r (O 4 [i 0]))))) (O 74 [m 6,adi 74 1,d 6 (m 75)])))
def Ld:aC:=.loop ⟨true,[6,3,2],[]⟩ vY
def MH:aC:=zd (s (s (O 6 [i 0]) (bk 2 Ld ⟨true,[],[]⟩)) LP)
def rC:aC:=zd (s (s (O 51 [m 5,f 3 2,l 1 52,ln 1 53,lt 51 54]) (cc 55 (w .skip) (ee 0))) (s (B 1 (s (V 58 [f 3 2,l 1 58,m 5,ix 2 59 60,h 2 61,f 3 3,l 1 63,m 5,ix 2 64 65,h 2 66,E (.eqv 4 [1,1] true (T 62) (T 67))] [] ⟨false,[],[]⟩) (c 68 (r (O 4 [i 0]))))) (Q 56 [m 5,adi 56 1,d 5 (m 57)] [5,3,2])))
def Nv:aC:=.loop ⟨true,[5,3,2],[]⟩ rC
def Ig:WFn:=⟨2,[.tmp 4],zd (s (O 2 [bx 0,bx 1,i 0]) (s (s (Q 7 [f 0 2,l 1 7,f 0 3,l 1 9,ne 8 10,m 11,z 12 (f 1 2),z 12 (l 1 13),z 12 (f 1 3),z 12 (l 1 15),z 12 (ne 14 16),po 12 17,m 18,z 19 (f 2 2),z 19 (l 1 20),z 19 (f 2 3),z 19 (l 1 22),z 19 (ne 21 23),po 19 24,m 25,z 26 (f 4 2),z 26 (l 1 27),z 26 (f 4 3),z 26 (l 1 29),z 26 (ne 28 30),po 26 31,m 32,z 33 (f 3 2),z 33 (l 1 34),z 33 (ln 1 35),z 33 (f 3 3),z 33 (l 1 37),z 33 (ln 1 38),z 33 (ne 36 39),po 33 40,m 41,z 42 (f 5 2),z 42 (l 1 43),z 42 (ln 1 44),z 42 (f 5 3),z 42 (l 1 46),z 42 (ln 1 47),z 42 (ne 45 48),po 42 49] [50,3,2]) (c 50 (r (O 4 [i 0])))) (s (s (O 5 [i 0]) (bk 0 Nv ⟨true,[3,2],[]⟩)) MH)))⟩
@[simp] theorem alT:ZL Ld vY ⟨true,[6,3,2],[]⟩:=bF rfl
noncomputable abbrev vN (C:aJ) (s:WSt):Option AV:=CK C 0 (aP [.tmp 4]) [.sq Ld,.bk 2 ⟨true,[],[]⟩,.sq LP] vY s
@[simp] theorem alR:ZL Nv rC ⟨true,[5,3,2],[]⟩:=bF rfl
noncomputable abbrev uS (C:aJ) (s:WSt):Option AV:=CK C 0 (aP [.tmp 4]) [.sq Nv,.bk 0 ⟨true,[3,2],[]⟩,.sq MH] rC s
def aef:WFn:=⟨1,[.tmp 2],zd (s (O 1 [bx 0,ff]) (r (O 3 [f 8 1,l 1 3,lti 4 0,m 5,z 6 (f 8 1),z 6 (l 1 7),z 6 (gti 8 16),po 6 9,d 2 (m 10)])))⟩
def WX:WFn:=⟨2,[.tmp 4],zd (s (O 4 [ff]) (r (O 5 [m 0,m 1,ca 405 [5,6],gei 7 0,d 4 (m 8)])))⟩
def MK:aC:=zd (r (O 4 [i (-1)]))
def Aj:aC:=zd (s (O 9 [lt 8 7]) (s (cc 9 (w .skip) (ee 0)) (s (B 1 (s (O 10 [m 8,d 5 (m 10)]) (s (O 11 [m 1,m 0,m 5,ix 8 12 13,h 8 14,E (.dW (T 11) [T 15])]) (c 16 (r (O 17 [m 5,d 4 (m 17)])))))) (O 18 [adi 8 1,d 8 (m 18)]))))
def LD:aC:=.loop ⟨true,[8,7,1,0],[]⟩ Aj
def aeA:WFn:=⟨2,[.tmp 4],zd (s (O 4 [i 0]) (s (s (O 6 [m 0,ln 1 6,i 0]) (bk 0 LD ⟨true,[],[]⟩)) MK))⟩
@[simp] theorem alY:ZL LD Aj ⟨true,[8,7,1,0],[]⟩:=bF rfl
noncomputable abbrev ER (C:aJ) (s:WSt):Option AV:=CK C 0 (aP [.tmp 4]) [.sq LD,.bk 0 ⟨true,[],[]⟩,.sq MK] Aj s
def akw:WFn:=⟨1,[.cell 2 6 true],zd (s (O 1 [bx 0,E (.alloc [.int .u8 0,.str [],.str [],.ro 2 [] true,.str [],.ro 6 [] true])]) (s (s (O 3 [h 6 1,ca 439 [3],nei 4 0]) (c 5 (r (O 6 [E (.build [.int .u8 0,.str [],.str [],.ro 2 [] true,.str [],.ro 6 [] true] []),n (st 6 2 6)])))) (r (O 7 [h 6 1,E (.call 507 [T 7,.c (.bool true)]),n (st 6 2 8)]))))⟩
def U8:WFn:=⟨1,[.cell 2 6 true],zd (s (O 1 [bx 0,E (.alloc [.int .u8 0,.str [],.str [],.ro 2 [] true,.str [],.ro 6 [] true])]) (s (s (O 3 [h 6 1,ca 439 [3],nei 4 0]) (c 5 (r (O 6 [E (.build [.int .u8 0,.str [],.str [],.ro 2 [] true,.str [],.ro 6 [] true] []),n (st 6 2 6)])))) (r (O 7 [h 6 1,E (.call 5036 [T 7,.c (.bool true)]),n (st 6 2 8)]))))⟩
def Ed:aC:=zd (r (O 35 [m 5,d 4 (m 35)]))
def vF:aC:=zd (s (s (Q 14 [m 6,f 5 2,l 1 15,ln 1 16,lt 14 17,m 18,y 19 (m 5),y 19 (lei 20 64),pa 19 21] [22,6,5,2,1]) (cc 22 (w .skip) (ee 0))) (s (B 1 (O 25 [m 5,f 5 2,l 1 26,m 6,ix 6 27 28,h 6 29,m 1,sbi 31 1,ca 520 [30,32],ad 25 33,d 5 (m 34)])) (O 23 [m 6,adi 23 1,d 6 (m 24)])))
def Nl:aC:=.loop ⟨true,[6,5,2,1],[]⟩ vF
def XB:WFn:=⟨2,[.tmp 4],zd (s (O 4 [d 2 (bx 0),i 0]) (s (s (O 7 [m 1,lti 7 1,m 8,z 9 (h 6 2),z 9 (ca 563 [10]),z 9 (nt 11),po 9 12]) (c 13 (r (O 4 [i 1000])))) (s (O 5 [i 1]) (s (s (O 6 [i 0]) (bk 0 Nl ⟨true,[5],[]⟩)) Ed))))⟩
@[simp] theorem alc:ZL Nl vF ⟨true,[6,5,2,1],[]⟩:=bF rfl
noncomputable abbrev zA (C:aJ) (s:WSt):Option AV:=CK C 0 (aP [.tmp 4]) [.sq Nl,.bk 0 ⟨true,[5],[]⟩,.sq Ed] vF s
def DL:aC:=zd (r (O 7 [tt]))
def vI:aC:=zd (s (O 31 [lt 30 29]) (s (cc 31 (w .skip) (ee 0)) (s (B 1 (s (O 32 [m 30,d 8 (m 32)]) (s (V 33 [l 1 4,m 0,nk 34,f 5 35,l 1 36,m 8,ix 6 37 38,m 1,adi 40 1,E (.dW (T 33) [T 39,T 41]),nt 42] [] ⟨false,[],[]⟩) (c 43 (r (O 7 [ff])))))) (O 44 [adi 30 1,d 30 (m 44)]))))
def MX:aC:=.loop ⟨true,[30,29,4,1,0],[]⟩ vI
def Ht:WFn:=⟨5,[.tmp 7],zd (s (O 7 [ff]) (s (O 9 [l 1 2,adi 9 1,n (st 1 2 10)]) (s (O 11 [l 1 3,m 1,E (.mx (T 11) (T 12)),n (st 1 3 13)]) (s (s (O 14 [m 1,gti 14 6,m 15,z 16 (l 1 2),z 16 (gti 17 64),po 16 18,m 19,z 20 (m 0),z 20 (ca 434 [21]),z 20 (nt 22),po 20 23]) (c 24 (r (O 7 [ff])))) (s (s (Q 25 [m 0,nk 25,f 5 26,l 1 27,ln 1 28,i 0] [30,29,4,1,0]) (bk 0 MX ⟨true,[],[]⟩)) DL)))))⟩
@[simp] theorem alj:ZL MX vI ⟨true,[30,29,4,1,0],[]⟩:=bF rfl
def ND:aC:=zd (r (O 2 [tt]))
def yY:aC:=zd (s (Q 143 [lt 142 141] [143,142,141,140,0]) (s (cc 143 (w .skip) (ee 2)) (s (B 3 (s (O 144 [m 142,ix 6 140 142,h 6 145,d 6 (E (.alloc [.int .u8 0,.str [],.str [],.ro 2 [] true,.str [],.ro 6 [] true])),d 5 (m 144),n (st 6 6 146)]) (s (O 147 [f 2 6,l 1 147,E (.bin .neq (T 148) (.c (.str []))),m 149,y 150 (m 0),y 150 (nk 151),y 150 (f 5 152),y 150 (l 1 153),y 150 (m 5),y 150 (E (.slice 6 (T 154) none (some (T 155)) none)),y 150 (E (.kX 519 [T 6])),y 150 (ca 518 [156,157]),pa 150 158]) (c 159 (r (O 2 [ff])))))) (O 160 [adi 142 1,d 142 (m 160)]))))
def JW:aC:=.loop ⟨true,[142,141,140,0],[]⟩ yY
def Md:aC:=zd (s (s (O 137 [m 0,nk 137,f 5 138,l 1 139,ln 1 140,i 0]) (bk 2 JW ⟨true,[],[]⟩)) ND)
def zQ:aC:=zd (s (O 104 [lt 103 102]) (s (cc 104 (w .skip) (ee 0)) (s (B 1 (s (O 105 [m 103,ix 2 101 103,h 2 106,d 4 (E (.alloc [.str [],.str []])),d 3 (m 105),n (st 2 4 107)]) (s (U 108 [f 0 4,l 1 108,ca 517 [109],nt 110,m 111,z 112 (f 1 4),z 112 (l 1 113),z 112 (ca 516 [114]),z 112 (nt 115),po 112 116,m 117,z 118 (m 3),z 118 (gti 119 0),z 118 (m 120),y 121 (f 0 4),y 121 (l 1 122),y 121 (m 0),y 121 (nk 124),y 121 (f 3 125),y 121 (l 1 126),y 121 (m 3),y 121 (sbi 128 1),y 121 (ix 2 127 129),y 121 (f 0 130),y 121 (l 1 131),y 121 (le 123 132),z 118 (pa 121 133),po 118 134] [] [135,103,102,101,0]) (c 135 (r (O 2 [ff])))))) (O 136 [adi 103 1,d 103 (m 136)]))))
def MB:aC:=.loop ⟨true,[103,102,101,0],[]⟩ zQ
def wQ:WFn:=⟨1,[.tmp 2],zd (s (O 2 [ff]) (s (s (O 7 [m 0,nk 7,f 0 8,l 1 9,E (.bin .eql (T 10) (.c (.int .u8 2)))]) (c 11 (r (Q 12 [m 0,nk 12,f 4 13,l 1 14,ca 516 [15],m 16,y 17 (m 0),y 17 (nk 18),y 17 (f 1 19),y 17 (l 1 20),y 17 (E (.bin .eql (T 21) (.c (.str [])))),pa 17 22,m 23,y 24 (m 0),y 24 (nk 25),y 24 (f 2 26),y 24 (l 1 27),y 24 (E (.bin .eql (T 28) (.c (.str [])))),pa 24 29,m 30,y 31 (m 0),y 31 (nk 32),y 31 (f 3 33),y 31 (l 1 34),y 31 (ln 1 35),y 31 (eqi 36 0),pa 31 37,m 38,y 39 (m 0),y 39 (nk 40),y 39 (f 5 41),y 39 (l 1 42),y 39 (ln 1 43),y 39 (eqi 44 0),pa 39 45,d 2 (m 46)] [2])))) (s (s (Q 47 [m 0,nk 47,f 0 48,l 1 49,E (.bin .neq (T 50) (.c (.int .u8 1))),m 51,z 52 (m 0),z 52 (nk 53),z 52 (f 1 54),z 52 (l 1 55),z 52 (ca 517 [56]),z 52 (nt 57),po 52 58,m 59,z 60 (m 0),z 60 (nk 61),z 60 (f 2 62),z 60 (l 1 63),z 60 (E (.bin .neq (T 64) (.c (.str [])))),z 60 (m 65),y 66 (m 0),y 66 (nk 67),y 66 (f 2 68),y 66 (l 1 69),y 66 (ca 517 [70]),y 66 (nt 71),z 60 (pa 66 72),po 60 73,m 74,z 75 (m 0),z 75 (nk 76),z 75 (f 4 77),z 75 (l 1 78),z 75 (E (.bin .neq (T 79) (.c (.str [])))),po 75 80,m 81,z 82 (m 0),z 82 (nk 83),z 82 (f 3 84),z 82 (l 1 85),z 82 (ln 1 86),z 82 (gti 87 8),po 82 88,m 89,z 90 (m 0),z 90 (nk 91),z 90 (f 5 92),z 90 (l 1 93),z 90 (ln 1 94),z 90 (gti 95 16),po 90 96] [97,0]) (c 97 (r (O 2 [ff])))) (s (s (O 98 [m 0,nk 98,f 3 99,l 1 100,ln 1 101,i 0]) (bk 0 MB ⟨true,[0],[]⟩)) Md))))⟩
@[simp] theorem alu:ZL JW yY ⟨true,[142,141,140,0],[]⟩:=bF rfl
noncomputable abbrev Et (C:aJ) (s:WSt):Option AV:=CK C 0 (aP [.tmp 2]) [.sq JW,.bk 2 ⟨true,[],[]⟩,.sq ND] yY s
@[simp] theorem amf:ZL MB zQ ⟨true,[103,102,101,0],[]⟩:=bF rfl
noncomputable abbrev zh (C:aJ) (s:WSt):Option AV:=CK C 0 (aP [.tmp 2]) [.sq MB,.bk 0 ⟨true,[0],[]⟩,.sq Md] zQ s
def wC:aC:=zd (s (s (O 45 [E (.kV 4 1 (T 1) (N 3)),l 1 45,E (.bin .geq (T 46) (.c (.int .u8 240)))]) (c 47 (O 48 [f 3 3,l 1 48,E (.aZ [.str []] 2 [(0,.c (.str [97])),(1,.c (.str [97]))]),E (.app [.str []] 16 false (T 49) (T 50)),f 3 3,n (st 1 52 51)]))) (r (O 53 [h 4 3,n (st 4 2 53)])))
def jI:aC:=zd (s (s (O 20 [m 4,lti 20 3]) (cc 21 (w .skip) (ee 0))) (s (B 1 (s (O 24 [E (.kV 4 1 (T 1) (N 3)),l 1 24,m 4,E (.bin .shr (T 25) (T 26)),E (.bin .and (T 27) (.c (.int .u8 1))),E (.bin .gtr (T 28) (.c (.int .u8 0)))]) (c 29 (U 30 [f 3 3,l 1 30,E (.aZ [.str []] 3 [(0,.c (.str [97])),(1,.c (.str [98,50])),(2,.c (.str [107,101,121]))]),m 4,E (.kV 4 1 (T 1) (N 3)),l 1 34,E (.bin .quo (T 35) (.c (.int .u8 8))),E (.cvt .i64 (T 36)),ad 33 37,E (.bin .rem (T 38) (N 3)),ix 1 32 39,l 1 40,E (.aZ [.str []] 1 [(0,T 41)]),E (.app [.str []] 16 false (T 31) (T 42)),f 3 3,n (st 1 44 43)] [(1,2),(2,5),(1,12)] [4,3,2,1])))) (O 22 [m 4,adi 22 1,d 4 (m 23)])))
def MI:aC:=.loop ⟨true,[4,3,2,1],[]⟩ jI
def Hg:WFn:=⟨1,[.cell 2 4 true],zd (s (O 1 [bx 0,E (.alloc [.int .u64 0,.int .u8 0,.str [],.ro 1 [] true])]) (s (U 5 [E (.kV 4 1 (T 1) (N 0)),l 1 5,E (.bin .rem (T 6) (.c (.int .u8 60))),E (.cvt .u64 (T 7)),E (.bin .add (.c (.int .u64 1)) (T 8)),E (.kV 4 1 (T 1) (N 1)),l 1 10,E (.bin .rem (T 11) (.c (.int .u8 3))),E (.aZ [.str []] 8 [(0,.c (.str [])),(1,.c (.str [97])),(2,.c (.str [114,111,119])),(3,.c (.str [116,119,111,32,119,111,114,100,115])),(4,.c (.str [32,32])),(5,.c (.str [126,33,45,44])),(6,.c (.str [97,32,108,111,110,103,101,114,32,116,101,120,116,32,111,102,32,116,104,105,115,32,107,105,110,100])),(7,.c (.str [57]))]),E (.kV 4 1 (T 1) (N 2)),l 1 14,E (.bin .rem (T 15) (.c (.int .u8 8))),ix 1 13 16,l 1 17,E (.build [.int .u64 0,.int .u8 0,.str [],.ro 1 [] true] [(0,1,T 9),(1,1,T 12),(2,1,T 18)]),d 3 (E (.alloc [.int .u64 0,.int .u8 0,.str [],.ro 1 [] true])),n (st 4 3 19)] [(1,8),(6,8),(8,10),(1,15),(6,15),(8,15),(10,15),(13,15)] [3,2,1]) (s (s (O 4 [i 0]) (bk 0 MI ⟨true,[3,2,1],[]⟩)) wC)))⟩
@[simp] theorem alN:ZL MI jI ⟨true,[4,3,2,1],[]⟩:=bF rfl
noncomputable abbrev cu (C:aJ) (s:WSt):Option AV:=CK C 0 (aP [.cell 2 4 true]) [.sq MI,.bk 0 ⟨true,[3,2,1],[]⟩,.sq wC] jI s
def JR:aC:=zd (r (O 4 [i (-1)]))
def wB:aC:=zd (s (s (O 6 [m 5,m 0,ln 1 7,lt 6 8]) (cc 9 (w .skip) (ee 0))) (s (B 1 (s (O 12 [m 0,m 5,ix 4 12 13,f 0 14,l 1 15,m 1,eq 16 17]) (c 18 (r (O 19 [m 5,d 4 (m 19)]))))) (O 10 [m 5,adi 10 1,d 5 (m 11)])))
def JU:aC:=.loop ⟨true,[5,1,0],[]⟩ wB
def ac6:WFn:=⟨2,[.tmp 4],zd (s (O 4 [i 0]) (s (s (O 5 [i 0]) (bk 0 JU ⟨true,[],[]⟩)) JR))⟩
@[simp] theorem alb:ZL JU wB ⟨true,[5,1,0],[]⟩:=bF rfl
noncomputable abbrev Ah (C:aJ) (s:WSt):Option AV:=CK C 0 (aP [.tmp 4]) [.sq JU,.bk 0 ⟨true,[],[]⟩,.sq JR] wB s
def KU:aC:=zd (s (s (O 41 [m 5,eqi 41 1]) (c 42 (r (O 4 [i 0])))) (r (O 4 [i 6])))
def x9:aC:=zd (s (s (O 26 [m 6,f 3 2,l 1 27,ln 1 28,lt 26 29]) (cc 30 (w .skip) (ee 0))) (s (B 1 (O 33 [m 5,f 3 2,l 1 34,m 6,ix 1 35 36,l 1 37,ca 511 [38],E (.bin .mul (T 33) (T 39)),d 5 (m 40)])) (O 31 [m 6,adi 31 1,d 6 (m 32)])))
def NU:aC:=.loop ⟨true,[6,5,2],[]⟩ x9
def OM:WFn:=⟨2,[.tmp 4],zd (s (O 4 [d 2 (bx 0),i 0]) (s (O 7 [f 2 2,l 1 7,ca 510 [8],d 5 (m 9)]) (s (s (Q 10 [f 0 2,l 1 10,E (.bin .eql (T 11) (.c (.int .u64 0))),m 12,z 13 (m 1),z 13 (f 1 2),z 13 (l 1 15),z 13 (E (.cvt .i64 (T 16))),z 13 (le 14 17),po 13 18,m 19,z 20 (f 3 2),z 20 (l 1 21),z 20 (ln 1 22),z 20 (gti 23 8),po 20 24] [25,5,2]) (c 25 (O 5 [i 0]))) (s (s (O 6 [i 0]) (bk 0 NU ⟨true,[5],[]⟩)) KU))))⟩
@[simp] theorem amg:ZL NU x9 ⟨true,[6,5,2],[]⟩:=bF rfl
noncomputable abbrev EN (C:aJ) (s:WSt):Option AV:=CK C 0 (aP [.tmp 4]) [.sq NU,.bk 0 ⟨true,[5],[]⟩,.sq KU] x9 s
def abD:WFn:=⟨1,[.tmp 2],zd (s (O 1 [bx 0,i 0]) (s (s (O 3 [h 6 1,ca 505 [3],eqi 4 0]) (c 5 (r (O 2 [i 14])))) (r (O 2 [i 0]))))⟩
def Lr:aC:=zd (r (O 2 [i 0]))
def Ap:aC:=zd (s (s (O 19 [m 3,f 3 1,l 1 20,ln 1 21,lt 19 22]) (cc 23 (w .skip) (ee 0))) (s (B 1 (s (O 26 [f 3 1,l 1 26,m 3,ix 1 27 28,l 1 29,ca 557 [30],nt 31]) (c 32 (r (O 2 [i 6]))))) (O 24 [m 3,adi 24 1,d 3 (m 25)])))
def MG:aC:=.loop ⟨true,[3,1],[]⟩ Ap
def Ue:WFn:=⟨1,[.tmp 2],zd (s (O 1 [bx 0,i 0]) (s (s (Q 4 [f 0 1,l 1 4,E (.bin .eql (T 5) (.c (.int .u64 0))),m 6,z 7 (f 2 1),z 7 (l 1 8),z 7 (ca 556 [9]),z 7 (nt 10),po 7 11,m 12,z 13 (f 3 1),z 13 (l 1 14),z 13 (ln 1 15),z 13 (gti 16 8),po 13 17] [18,1]) (c 18 (r (O 2 [i 6])))) (s (s (O 3 [i 0]) (bk 0 MG ⟨true,[],[]⟩)) Lr)))⟩
@[simp] theorem alK:ZL MG Ap ⟨true,[3,1],[]⟩:=bF rfl
noncomputable abbrev Ep (C:aJ) (s:WSt):Option AV:=CK C 0 (aP [.tmp 2]) [.sq MG,.bk 0 ⟨true,[],[]⟩,.sq Lr] Ap s
def E5:aC:=zd (r (O 89 [h 6 7,E (.aZ [.int .u8 0,.str [],.str [],.ro 2 [] true,.str [],.ro 6 [] true] 1 [(0,T 89)]),d 4 (m 90)]))
def nD:aC:=zd (s (s (O 71 [m 8,f 5 2,l 1 72,ln 1 73,lt 71 74]) (cc 75 (w .skip) (ee 3))) (s (B 4 (V 78 [f 5 7,l 1 78,f 5 2,l 1 80,m 8,ix 6 81 82,h 6 83,h 4 3,ca 513 [84,85],E (.app [.int .u8 0,.str [],.str [],.ro 2 [] true,.str [],.ro 6 [] true] 104 false (T 79) (T 86)),f 5 7,n (st 1 88 87)] [(1,8)] ⟨false,[],[]⟩)) (O 76 [m 8,adi 76 1,d 8 (m 77)])))
def NT:aC:=.loop ⟨true,[8,7,3,2],[]⟩ nD
def Ky:aC:=zd (s (V 62 [f 1 2,l 1 62,f 2 2,l 1 64,f 3 2,l 1 66,h 4 3,ca 559 [67,68],E (.build [.int .u8 0,.str [],.str [],.ro 2 [] true,.str [],.ro 6 [] true] [(0,1,.c (.int .u8 1)),(1,1,T 63),(2,1,T 65),(3,1,T 69)]),d 7 (E (.alloc [.int .u8 0,.str [],.str [],.ro 2 [] true,.str [],.ro 6 [] true])),n (st 6 7 70)] [(1,7),(3,7),(1,9),(3,9),(5,9),(6,9),(7,9)] ⟨false,[],[]⟩) (s (s (Q 8 [i 0] [8,7,3,2]) (bk 3 NT ⟨true,[7],[]⟩)) E5))
def kN:aC:=zd (r (O 61 [m 5,d 4 (m 61)]))
def jG:aC:=zd (s (s (O 32 [m 6,f 3 3,l 1 33,ln 1 34,lt 32 35]) (cc 36 (w .skip) (ee 1))) (s (B 2 (U 39 [m 5,f 1 2,l 1 40,f 3 3,l 1 42,m 6,ix 1 43 44,l 1 45,f 3 2,l 1 47,h 4 3,ca 559 [48,49],f 3 3,l 1 51,m 6,ix 1 52 53,l 1 54,E (.build [.int .u8 0,.str [],.str [],.ro 2 [] true,.str [],.ro 6 [] true] [(0,1,.c (.int .u8 2)),(4,1,T 55)]),E (.aZ [.int .u8 0,.str [],.str [],.ro 2 [] true,.str [],.ro 6 [] true] 1 [(0,T 56)]),E (.build [.int .u8 0,.str [],.str [],.ro 2 [] true,.str [],.ro 6 [] true] [(0,1,.c (.int .u8 1)),(1,1,T 41),(2,1,T 46),(3,1,T 50),(5,1,T 57)]),E (.aZ [.int .u8 0,.str [],.str [],.ro 2 [] true,.str [],.ro 6 [] true] 1 [(0,T 58)]),E (.app [.int .u8 0,.str [],.str [],.ro 2 [] true,.str [],.ro 6 [] true] 104 false (T 39) (T 59)),d 5 (m 60)] [(2,11),(4,11),(7,11),(11,13),(11,16),(2,18),(4,18),(7,18),(9,18),(10,18),(11,18)] [6,5,3,2])) (O 37 [m 6,adi 37 1,d 6 (m 38)])))
def KF:aC:=.loop ⟨true,[6,5,3,2],[]⟩ jG
def QA:WFn:=⟨2,[.tmp 4],zd (s (O 2 [bx 0,bx 1,E (.mv (.c (.ro 6 [] true)))]) (s (s (O 9 [f 0 2,l 1 9]) (bk 0 (s (O 12 [E (.bin .eql (T 10) (.c (.int .u8 2))),d 11 (m 12)]) (cc 11 (r (O 13 [f 4 2,l 1 13,E (.build [.int .u8 0,.str [],.str [],.ro 2 [] true,.str [],.ro 6 [] true] [(0,1,.c (.int .u8 2)),(4,1,T 14)]),E (.aZ [.int .u8 0,.str [],.str [],.ro 2 [] true,.str [],.ro 6 [] true] 1 [(0,T 15)]),d 4 (m 16)])) (s (O 18 [E (.bin .eql (T 10) (.c (.int .u8 3))),d 17 (m 18)]) (cc 17 (r (O 19 [f 2 3,l 1 19,E (.build [.int .u8 0,.str [],.str [],.ro 2 [] true,.str [],.ro 6 [] true] [(0,1,.c (.int .u8 2)),(4,1,T 20)]),E (.aZ [.int .u8 0,.str [],.str [],.ro 2 [] true,.str [],.ro 6 [] true] 1 [(0,T 21)]),d 4 (m 22)])) (s (O 24 [E (.bin .eql (T 10) (.c (.int .u8 4))),d 23 (m 24)]) (cc 23 (r (Q 25 [f 0 3,l 1 25,ca 558 [26],E (.build [.int .u8 0,.str [],.str [],.ro 2 [] true,.str [],.ro 6 [] true] [(0,1,.c (.int .u8 2)),(4,1,T 27)]),E (.aZ [.int .u8 0,.str [],.str [],.ro 2 [] true,.str [],.ro 6 [] true] 1 [(0,T 28)]),d 4 (m 29)] [4])) (s (O 31 [E (.bin .eql (T 10) (.c (.int .u8 5))),d 30 (m 31)]) (c 30 (s (R 5 [E (.mv (.c (.ro 6 [] true)))] ⟨true,[5,3,2],[(5,6)]⟩) (s (s (O 6 [i 0]) (bk 1 KF ⟨true,[5],[]⟩)) kN)))))))))) ⟨true,[3,2],[]⟩)) Ky))⟩
@[simp] theorem alS:ZL NT nD ⟨true,[8,7,3,2],[]⟩:=bF rfl
noncomputable abbrev nI (C:aJ) (s:WSt):Option AV:=CK C 0 (aP [.tmp 4]) [.sq NT,.bk 3 ⟨true,[7],[]⟩,.sq E5] nD s
@[simp] theorem ak4:ZL KF jG ⟨true,[6,5,3,2],[]⟩:=bF rfl
noncomputable abbrev dw (C:aJ) (s:WSt):Option AV:=CK C 0 (aP [.tmp 4]) [.sq KF,.bk 1 ⟨true,[5],[]⟩,.sq kN,.bk 0 ⟨true,[3,2],[]⟩,.sq Ky] jG s
def VZ:WFn:=⟨1,[.tmp 2],zd (s (O 1 [bx 0,ff]) (r (O 3 [f 6 1,l 1 3,ca 225 [4],nt 5,m 6,z 7 (f 0 1),z 7 (h 6 8),z 7 (ca 231 [9]),z 7 (nei 10 0),po 7 11,d 2 (m 12)])))⟩
def abg:WFn:=⟨1,[.tmp 2],zd (s (O 1 [bx 0,i 0]) (s (s (O 3 [h 6 1,ca 404 [3],eqi 4 0]) (c 5 (r (O 2 [i 14])))) (r (O 2 [i 0]))))⟩
def aaq:WFn:=⟨1,[.tmp 1],zd (s (O 1 [ff]) (r (O 2 [f 2 0,l 1 2,ln 0 3,lei 4 64,m 5,y 6 (f 2 0),y 6 (l 1 7),y 6 (E (.call 495 [T 8,.c (.fn 496 [])])),y 6 (nt 9),pa 6 10,d 1 (m 11)])))⟩
def aaH:WFn:=⟨2,[.tmp 4],zd (s (O 4 [ff]) (r (O 5 [m 0,m 1,ca 543 [5,6],gei 7 0,d 4 (m 8)])))⟩
def RG:WFn:=⟨1,[.tmp 2],zd (s (O 2 [ff]) (r (O 3 [m 0,E (.bin .lss (T 3) (.c (.int .i32 32))),m 4,z 5 (m 0),z 5 (E (.bin .gtr (T 6) (.c (.int .i32 126)))),po 5 7,d 2 (m 8)])))⟩
def Zx:WFn:=⟨1,[.tmp 1],zd (s (O 1 [ff]) (r (O 2 [f 3 0,l 1 2,ln 1 3,lei 4 8,m 5,y 6 (f 3 0),y 6 (l 1 7),y 6 (E (.call 498 [T 8,.c (.fn 499 [])])),y 6 (nt 9),pa 6 10,d 1 (m 11)])))⟩
def YQ:WFn:=⟨2,[.tmp 4],zd (s (O 4 [ff]) (r (O 5 [m 0,m 1,ca 544 [5,6],gei 7 0,d 4 (m 8)])))⟩
def acs:WFn:=⟨1,[.tmp 2],zd (s (O 2 [ff]) (r (O 3 [m 0,ca 500 [3],nt 4,d 2 (m 5)])))⟩
def V8:WFn:=⟨1,[.tmp 2],zd (s (O 2 [ff]) (s (O 3 [E (.mv (.c (.fn 545 [])))]) (r (O 4 [m 0,E (.bin .neq (T 4) (.c (.str []))),m 5,y 6 (m 0),y 6 (ln 0 7),y 6 (lei 8 16),pa 6 9,m 10,y 11 (m 0),y 11 (m 3),y 11 (ca 495 [12,13]),y 11 (nt 14),pa 11 15,d 2 (m 16)]))))⟩
def Ii:WFn:=⟨3,[.cell 6 6 true,.tmp 7],zd (s (O 6 [d 3 (bx 0),d 4 (bx 1),E (.alloc [.int .u8 0,.str [],.str [],.ro 2 [] true,.str [],.ro 6 [] true]),i 0]) (s (s (Q 12 [m 2,lti 12 1,m 13,z 14 (m 2),z 14 (gti 15 64),po 14 16] [17,6,4,3,2]) (c 17 (r (O 18 [E (.build [.int .u8 0,.str [],.str [],.ro 2 [] true,.str [],.ro 6 [] true] []),n (st 6 6 18),d 7 (i 1)])))) (s (s (O 19 [h 6 3,ca 231 [19],d 8 (m 20)]) (s (O 21 [m 8,nei 21 0]) (c 22 (r (O 23 [E (.build [.int .u8 0,.str [],.str [],.ro 2 [] true,.str [],.ro 6 [] true] []),m 8,n (st 6 6 23),d 7 (m 24)]))))) (s (s (O 25 [h 4 4,ca 546 [25],d 9 (m 26)]) (s (O 27 [m 9,nei 27 0]) (c 28 (r (O 29 [E (.build [.int .u8 0,.str [],.str [],.ro 2 [] true,.str [],.ro 6 [] true] []),m 9,n (st 6 6 29),d 7 (m 30)]))))) (s (Q 31 [h 4 4,E (.build [.int .u64 0,.int .u8 0,.str [],.ro 1 [] true] [(0,4,T 31)]),h 6 3,E (.aZ [.int .u8 0,.str [],.str [],.ro 3 [] true,.str [],.ro 6 [] true] 1 [(0,T 33)]),ca 547 [32,34],E (.idxs 6 (T 35) (N 0)),h 6 36,d 10 (E (.alloc [.int .u8 0,.str [],.str [],.ro 2 [] true,.str [],.ro 6 [] true])),n (st 6 10 37)] [10,6,2]) (s (s (O 38 [h 6 10,ca 140 [38],d 11 (m 39)]) (s (O 40 [m 11,eqi 40 0,m 41,z 42 (m 11),z 42 (m 2),z 42 (gt 43 44),po 42 45]) (c 46 (r (O 47 [E (.build [.int .u8 0,.str [],.str [],.ro 2 [] true,.str [],.ro 6 [] true] []),n (st 6 6 47),d 7 (i 14)]))))) (r (O 48 [h 6 10,n (st 6 6 48),d 7 (i 0)]))))))))⟩
def Ee:aC:=zd (r (O 4 [i (-1)]))
def oW:aC:=zd (s (O 9 [lt 8 7]) (s (cc 9 (w .skip) (ee 0)) (s (B 1 (s (O 10 [m 8,d 5 (m 10)]) (s (O 11 [m 1,m 0,m 5,ix 9 12 13,h 9 14,E (.dW (T 11) [T 15])]) (c 16 (r (O 17 [m 5,d 4 (m 17)])))))) (O 18 [adi 8 1,d 8 (m 18)]))))
def NY:aC:=.loop ⟨true,[8,7,1,0],[]⟩ oW
def Ye:WFn:=⟨2,[.tmp 4],zd (s (O 4 [i 0]) (s (s (O 6 [m 0,ln 1 6,i 0]) (bk 0 NY ⟨true,[],[]⟩)) Ee))⟩
@[simp] theorem al7:ZL NY oW ⟨true,[8,7,1,0],[]⟩:=bF rfl
noncomputable abbrev nJ (C:aJ) (s:WSt):Option AV:=CK C 0 (aP [.tmp 4]) [.sq NY,.bk 0 ⟨true,[],[]⟩,.sq Ee] oW s
def J8:aC:=zd (s (O 35 [m 5,f 5 2,n (st 1 36 35)]) (r (O 37 [h 6 2,n (st 6 4 37)])))
def yw:aC:=zd (s (O 24 [lt 23 22]) (s (cc 24 (w .skip) (ee 0)) (s (B 1 (s (O 25 [m 23,ix 6 21 23,h 6 26,d 7 (E (.alloc [.int .u8 0,.str [],.str [],.ro 2 [] true,.str [],.ro 6 [] true])),d 6 (m 25),n (st 6 7 27)]) (O 28 [m 5,m 6,h 6 7,m 1,ca 507 [30,31],ix 6 28 29,n (st 6 33 32)]))) (O 34 [adi 23 1,d 23 (m 34)]))))
def Ku:aC:=.loop ⟨true,[23,22,21,5,4,2,1],[]⟩ yw
def aex:WFn:=⟨2,[.cell 4 6 true],zd (s (O 4 [d 2 (bx 0),E (.alloc [.int .u8 0,.str [],.str [],.ro 2 [] true,.str [],.ro 6 [] true])]) (s (s (O 8 [m 1,nt 8]) (c 9 (O 10 [f 2 2,n (E (.store 1 (T 10) (.c (.str []))))]))) (s (O 11 [f 3 2,l 1 11,ca 554 [12],ca 553 [13],f 3 2,n (st 1 15 14)]) (s (O 16 [f 5 2,l 1 16,ln 1 17,E (.mD [.int .u8 0,.str [],.str [],.ro 2 [] true,.str [],.ro 6 [] true] 104 (T 18) (T 18)),d 5 (m 19)]) (s (s (Q 20 [f 5 2,l 1 20,ln 1 21,i 0] [23,22,21,5,4,2,1]) (bk 0 Ku ⟨true,[5,4,2],[]⟩)) J8)))))⟩
@[simp] theorem alQ:ZL Ku yw ⟨true,[23,22,21,5,4,2,1],[]⟩:=bF rfl
noncomputable abbrev Eh (C:aJ) (s:WSt):Option AV:=CK C 0 (aP [.cell 4 6 true]) [.sq Ku,.bk 0 ⟨true,[5,4,2],[]⟩,.sq J8] yw s
def Gf:aC:=zd (s (O 35 [m 5,f 5 2,n (st 1 36 35)]) (r (O 37 [h 6 2,n (st 6 4 37)])))
def uG:aC:=zd (s (O 24 [lt 23 22]) (s (cc 24 (w .skip) (ee 0)) (s (B 1 (s (O 25 [m 23,ix 6 21 23,h 6 26,d 7 (E (.alloc [.int .u8 0,.str [],.str [],.ro 2 [] true,.str [],.ro 6 [] true])),d 6 (m 25),n (st 6 7 27)]) (O 28 [m 5,m 6,h 6 7,m 1,ca 507 [30,31],ix 6 28 29,n (st 6 33 32)]))) (O 34 [adi 23 1,d 23 (m 34)]))))
def G5:aC:=.loop ⟨true,[23,22,21,5,4,2,1],[(9999,65537)]⟩ uG
def Uz:WFn:=⟨2,[.cell 4 6 true],zd (s (O 4 [d 2 (bx 0),E (.alloc [.int .u8 0,.str [],.str [],.ro 2 [] true,.str [],.ro 6 [] true])]) (s (s (O 8 [m 1,nt 8]) (c 9 (O 10 [f 2 2,n (E (.store 1 (T 10) (.c (.str []))))]))) (s (O 11 [f 3 2,l 1 11,ca 554 [12],ca 553 [13],f 3 2,n (st 1 15 14)]) (s (O 16 [f 5 2,l 1 16,ln 1 17,E (.mD [.int .u8 0,.str [],.str [],.ro 2 [] true,.str [],.ro 6 [] true] 104 (T 18) (T 18)),d 5 (m 19)]) (s (s (R 20 [f 5 2,l 1 20,ln 1 21,i 0] ⟨true,[23,22,21,5,4,2,1],[(9999,65537)]⟩) (bk 0 G5 ⟨true,[5,4,2],[(9999,65537)]⟩)) Gf)))))⟩
@[simp] theorem ajq:ZL G5 uG ⟨true,[23,22,21,5,4,2,1],[(9999,65537)]⟩:=bF rfl
def DJ:aC:=zd (r (O 2 [tt]))
def JI:aC:=zd (O 120 [m 5,adi 120 1,d 5 (m 121)])
def yL:aC:=zd (s (s (O 122 [m 6,m 5,lt 122 123]) (cc 124 (w .skip) (ee 6))) (s (B 7 (s (U 127 [f 5 1,l 1 127,m 5,ix 6 128 129,f 2 130,l 1 131,E (.bin .neq (T 132) (.c (.str []))),m 133,y 134 (f 5 1),y 134 (l 1 135),y 134 (m 5),y 134 (ix 6 136 137),y 134 (f 2 138),y 134 (l 1 139),y 134 (f 5 1),y 134 (l 1 141),y 134 (m 6),y 134 (ix 6 142 143),y 134 (f 2 144),y 134 (l 1 145),y 134 (eq 140 146),pa 134 147] [] [148,6,5,1]) (c 148 (r (O 2 [ff]))))) (O 125 [m 6,adi 125 1,d 6 (m 126)])))
def NV:aC:=.loop ⟨true,[6,5,1],[]⟩ yL
def Ai:aC:=zd (s (s (O 115 [m 5,f 5 1,l 1 116,ln 1 117,lt 115 118]) (cc 119 (w .skip) (ee 4))) (s (bk 5 (s (O 6 [i 0]) (bk 6 NV ⟨true,[5,1],[]⟩)) ⟨true,[5,1],[]⟩) JI))
def Ej:aC:=.loop ⟨true,[5,1],[]⟩ Ai
def EF:aC:=zd (s (s (O 5 [i 0]) (bk 4 Ej ⟨true,[],[]⟩)) DJ)
def Kz:aC:=zd (O 77 [m 3,adi 77 1,d 3 (m 78)])
def sF:aC:=zd (s (s (O 97 [m 4,m 3,lt 97 98]) (cc 99 (w .skip) (ee 2))) (s (B 3 (s (U 102 [f 3 1,l 1 102,m 4,ix 2 103 104,f 0 105,l 1 106,f 3 1,l 1 108,m 3,ix 2 109 110,f 0 111,l 1 112,ge 107 113] [] [114,4,3,1]) (c 114 (r (O 2 [ff]))))) (O 100 [m 4,adi 100 1,d 4 (m 101)])))
def JV:aC:=.loop ⟨true,[4,3,1],[]⟩ sF
def sO:aC:=zd (s (s (Q 72 [m 3,f 3 1,l 1 73,ln 1 74,lt 72 75] [76,3,1]) (cc 76 (w .skip) (ee 0))) (s (bk 1 (s (s (O 79 [f 3 1,l 1 79,m 3,ix 2 80 81,f 0 82,l 1 83,ca 557 [84],nt 85,m 86,z 87 (f 3 1),z 87 (l 1 88),z 87 (m 3),z 87 (ix 2 89 90),z 87 (f 1 91),z 87 (l 1 92),z 87 (ca 556 [93]),z 87 (nt 94),po 87 95]) (c 96 (r (O 2 [ff])))) (s (O 4 [i 0]) (bk 2 JV ⟨true,[3,1],[]⟩))) ⟨true,[3,1],[]⟩) Kz))
def ED:aC:=.loop ⟨true,[3,1],[]⟩ sO
def wV:WFn:=⟨1,[.tmp 2],zd (s (O 1 [bx 0,ff]) (s (s (O 7 [f 0 1,l 1 7,E (.bin .eql (T 8) (.c (.int .u8 2)))]) (c 9 (r (Q 10 [f 4 1,l 1 10,ca 556 [11],m 12,y 13 (f 1 1),y 13 (l 1 14),y 13 (E (.bin .eql (T 15) (.c (.str [])))),pa 13 16,m 17,y 18 (f 2 1),y 18 (l 1 19),y 18 (E (.bin .eql (T 20) (.c (.str [])))),pa 18 21,m 22,y 23 (f 3 1),y 23 (l 1 24),y 23 (ln 1 25),y 23 (eqi 26 0),pa 23 27,m 28,y 29 (f 5 1),y 29 (l 1 30),y 29 (ln 1 31),y 29 (eqi 32 0),pa 29 33,d 2 (m 34)] [2])))) (s (s (Q 35 [f 0 1,l 1 35,E (.bin .neq (T 36) (.c (.int .u8 1))),m 37,z 38 (f 1 1),z 38 (l 1 39),z 38 (ca 557 [40]),z 38 (nt 41),po 38 42,m 43,z 44 (f 2 1),z 44 (l 1 45),z 44 (E (.bin .neq (T 46) (.c (.str [])))),z 44 (m 47),y 48 (f 2 1),y 48 (l 1 49),y 48 (ca 557 [50]),y 48 (nt 51),z 44 (pa 48 52),po 44 53,m 54,z 55 (f 4 1),z 55 (l 1 56),z 55 (E (.bin .neq (T 57) (.c (.str [])))),po 55 58,m 59,z 60 (f 3 1),z 60 (l 1 61),z 60 (ln 1 62),z 60 (gti 63 8),po 60 64,m 65,z 66 (f 5 1),z 66 (l 1 67),z 66 (ln 1 68),z 66 (gti 69 16),po 66 70] [71,1]) (c 71 (r (O 2 [ff])))) (s (s (O 3 [i 0]) (bk 0 ED ⟨true,[1],[]⟩)) EF))))⟩
@[simp] theorem akz:ZL NV yL ⟨true,[6,5,1],[]⟩:=bF rfl
noncomputable abbrev Ew (C:aJ) (s:WSt):Option AV:=CK C 0 (aP [.tmp 2]) [.sq NV,.bk 6 ⟨true,[5,1],[]⟩,.bk 5 ⟨true,[5,1],[]⟩,.sq JI,.sq Ej,.bk 4 ⟨true,[],[]⟩,.sq DJ] yL s
@[simp] theorem akS:ZL Ej Ai ⟨true,[5,1],[]⟩:=bF rfl
noncomputable abbrev vX (C:aJ) (s:WSt):Option AV:=CK C 0 (aP [.tmp 2]) [.sq Ej,.bk 4 ⟨true,[],[]⟩,.sq DJ] Ai s
@[simp] theorem alG:ZL JV sF ⟨true,[4,3,1],[]⟩:=bF rfl
noncomputable abbrev pX (C:aJ) (s:WSt):Option AV:=CK C 0 (aP [.tmp 2]) [.sq JV,.bk 2 ⟨true,[3,1],[]⟩,.bk 1 ⟨true,[3,1],[]⟩,.sq Kz,.sq ED,.bk 0 ⟨true,[1],[]⟩,.sq EF] sF s
@[simp] theorem ali:ZL ED sO ⟨true,[3,1],[]⟩:=bF rfl
noncomputable abbrev nO (C:aJ) (s:WSt):Option AV:=CK C 0 (aP [.tmp 2]) [.sq ED,.bk 0 ⟨true,[1],[]⟩,.sq EF] sO s
def aa4:WFn:=⟨1,[.tmp 2],zd (s (O 2 [ff]) (r (O 3 [m 0,ln 0 3,lei 4 64,m 5,y 6 (m 0),y 6 (E (.call 543 [T 7,.c (.fn 560 [])])),y 6 (lti 8 0),pa 6 9,d 2 (m 10)])))⟩
def NJ:aC:=zd (r (O 2 [tt]))
def zS:aC:=zd (s (O 15 [lt 14 13]) (s (cc 15 (w .skip) (ee 0)) (s (B 1 (s (O 16 [m 14,d 3 (m 16)]) (s (O 17 [m 0,m 3,E (.dZ (T 17) (T 18)),ca 561 [19],nt 20]) (c 21 (r (O 2 [ff])))))) (O 22 [adi 14 1,d 14 (m 22)]))))
def JJ:aC:=.loop ⟨true,[14,13,0],[]⟩ zS
def WH:WFn:=⟨1,[.tmp 2],zd (s (O 2 [ff]) (s (s (Q 4 [m 0,ln 0 4,lti 5 1,m 6,z 7 (m 0),z 7 (ln 0 8),z 7 (gti 9 16),po 7 10] [11,0]) (c 11 (r (O 2 [ff])))) (s (s (O 12 [m 0,ln 0 12,i 0]) (bk 0 JJ ⟨true,[],[]⟩)) NJ)))⟩
@[simp] theorem akQ:ZL JJ zS ⟨true,[14,13,0],[]⟩:=bF rfl
noncomputable abbrev DW (C:aJ) (s:WSt):Option AV:=CK C 0 (aP [.tmp 2]) [.sq JJ,.bk 0 ⟨true,[],[]⟩,.sq NJ] zS s
def aap:WFn:=⟨2,[.tmp 4],zd (s (O 4 [ff]) (r (O 5 [m 0,m 1,ca 562 [5,6],gei 7 0,d 4 (m 8)])))⟩
def aaJ:WFn:=⟨2,[.tmp 3],zd (s (O 2 [bx 0,ff]) (r (O 4 [f 2 2,l 1 4,f 2 1,l 1 6,eq 5 7,d 3 (m 8)])))⟩
def JK:aC:=zd (r (O 2 [i 1]))
def yF:aC:=zd (s (s (O 7 [m 3,m 0,ln 0 8,lt 7 9]) (cc 10 (w .skip) (ee 0))) (s (B 1 (s (O 13 [m 0,m 3,E (.dZ (T 13) (T 14)),E (.bin .lss (T 15) (.c (.int .u8 32))),m 16,z 17 (m 0),z 17 (m 3),z 17 (E (.dZ (T 18) (T 19))),z 17 (E (.bin .gtr (T 20) (.c (.int .u8 126)))),po 17 21]) (c 22 (r (O 2 [i 0]))))) (O 11 [m 3,adi 11 1,d 3 (m 12)])))
def MV:aC:=.loop ⟨true,[3,0],[]⟩ yF
def aaW:WFn:=⟨1,[.tmp 2],zd (s (O 2 [i 0]) (s (s (Q 4 [m 0,ln 0 4,gti 5 64] [6,0]) (c 6 (r (O 2 [i 0])))) (s (s (O 3 [i 0]) (bk 0 MV ⟨true,[],[]⟩)) JK)))⟩
@[simp] theorem amd:ZL MV yF ⟨true,[3,0],[]⟩:=bF rfl
noncomputable abbrev Eo (C:aJ) (s:WSt):Option AV:=CK C 0 (aP [.tmp 2]) [.sq MV,.bk 0 ⟨true,[],[]⟩,.sq JK] yF s
def MW:aC:=zd (r (O 2 [i 1]))
def zq:aC:=zd (s (s (O 13 [m 3,m 0,ln 0 14,lt 13 15]) (cc 16 (w .skip) (ee 0))) (s (B 1 (s (Q 19 [m 0,m 3,E (.dZ (T 19) (T 20)),d 4 (m 21)] [4,3,0]) (s (O 22 [m 4,E (.bin .geq (T 22) (.c (.int .u8 97))),m 23,y 24 (m 4),y 24 (E (.bin .leq (T 25) (.c (.int .u8 122)))),pa 24 26,m 27,z 28 (m 4),z 28 (E (.bin .geq (T 29) (.c (.int .u8 48)))),z 28 (m 30),y 31 (m 4),y 31 (E (.bin .leq (T 32) (.c (.int .u8 57)))),z 28 (pa 31 33),po 28 34,nt 35]) (c 36 (r (O 2 [i 0])))))) (O 17 [m 3,adi 17 1,d 3 (m 18)])))
def Lu:aC:=.loop ⟨true,[3,0],[]⟩ zq
def XQ:WFn:=⟨1,[.tmp 2],zd (s (O 2 [i 0]) (s (s (O 5 [m 0,ln 0 5,lti 6 1,m 7,z 8 (m 0),z 8 (ln 0 9),z 8 (gti 10 16),po 8 11]) (c 12 (r (O 2 [i 0])))) (s (s (O 3 [i 0]) (bk 0 Lu ⟨true,[],[]⟩)) MW)))⟩
@[simp] theorem alE:ZL Lu zq ⟨true,[3,0],[]⟩:=bF rfl
noncomputable abbrev Ei (C:aJ) (s:WSt):Option AV:=CK C 0 (aP [.tmp 2]) [.sq Lu,.bk 0 ⟨true,[],[]⟩,.sq MW] zq s
def EC:aC:=zd (r (O 31 [m 5,d 4 (m 31)]))
def uP:aC:=zd (s (Q 14 [lt 13 12] [14,13,12,11,5,2]) (s (cc 14 (w .skip) (ee 0)) (s (B 1 (s (O 15 [m 13,ix 4 11 13,h 4 16,d 7 (E (.alloc [.int .u64 0,.int .u8 0,.str [],.ro 1 [] true])),d 6 (m 15),n (st 4 7 17)]) (V 18 [m 5,m 6,h 4 7,f 0 2,l 1 21,f 1 7,l 1 23,ix 9 22 24,f 6 25,l 1 26,E (.build [.int .u64 0,.int .u8 0,.str [],.ro 1 [] true,.int .i64 0,.bool false] [(0,4,T 20),(4,1,T 27)]),ix 6 18 19,n (st 6 29 28)] [] ⟨false,[],[]⟩))) (O 30 [adi 13 1,d 13 (m 30)]))))
def JL:aC:=.loop ⟨true,[13,12,11,5,2],[]⟩ uP
def Zi:WFn:=⟨2,[.tmp 4],zd (s (O 4 [d 2 (bx 0),E (.mv (.c (.ro 6 [] true)))]) (s (O 8 [m 1,ln 1 8,E (.mD [.int .u64 0,.int .u8 0,.str [],.ro 1 [] true,.int .i64 0,.bool false] 72 (T 9) (T 9)),d 5 (m 10)]) (s (s (O 11 [m 1,ln 1 11,i 0]) (bk 0 JL ⟨true,[5],[]⟩)) EC)))⟩
@[simp] theorem ak3:ZL JL uP ⟨true,[13,12,11,5,2],[]⟩:=bF rfl
noncomputable abbrev EX (C:aJ) (s:WSt):Option AV:=CK C 0 (aP [.tmp 4]) [.sq JL,.bk 0 ⟨true,[5],[]⟩,.sq EC] uP s
def Xm:WFn:=⟨1,[.tmp 2],zd (s (O 1 [bx 0,i 0]) (s (O 4 [h 6 1,E (.call 550 [T 4,N 6]),d 3 (m 5)]) (s (s (O 6 [f 0 1,l 1 6,E (.bin .neq (T 7) (.c (.int .u8 1))),m 8,z 9 (m 3),z 9 (gti 10 64),po 9 11]) (c 12 (r (O 2 [i 0])))) (r (O 13 [m 3,d 2 (m 13)])))))⟩
def JX:aC:=zd (r (O 2 [tt]))
def xX:aC:=zd (s (s (O 7 [m 3,m 0,ln 0 8,lt 7 9]) (cc 10 (w .skip) (ee 0))) (s (B 1 (s (O 13 [m 0,m 3,E (.dZ (T 13) (T 14)),E (.bin .lss (T 15) (.c (.int .u8 32))),m 16,z 17 (m 0),z 17 (m 3),z 17 (E (.dZ (T 18) (T 19))),z 17 (E (.bin .gtr (T 20) (.c (.int .u8 126)))),po 17 21]) (c 22 (r (O 2 [ff]))))) (O 11 [m 3,adi 11 1,d 3 (m 12)])))
def LQ:aC:=.loop ⟨true,[3,0],[]⟩ xX
def aaI:WFn:=⟨1,[.tmp 2],zd (s (O 2 [ff]) (s (s (Q 4 [m 0,ln 0 4,gti 5 64] [6,0]) (c 6 (r (O 2 [ff])))) (s (s (O 3 [i 0]) (bk 0 LQ ⟨true,[],[]⟩)) JX)))⟩
@[simp] theorem alf:ZL LQ xX ⟨true,[3,0],[]⟩:=bF rfl
noncomputable abbrev EY (C:aJ) (s:WSt):Option AV:=CK C 0 (aP [.tmp 2]) [.sq LQ,.bk 0 ⟨true,[],[]⟩,.sq JX] xX s
def vP:aC:=zd (r (O 36 [m 0,ln 0 36,gei 37 1,m 38,y 39 (m 0),y 39 (ln 0 40),y 39 (lei 41 16),pa 39 42,d 2 (m 43)]))
def xZ:aC:=zd (s (s (O 4 [m 3,m 0,ln 0 5,lt 4 6,m 7,y 8 (m 3),y 8 (lti 9 17),pa 8 10]) (cc 11 (w .skip) (ee 0))) (s (B 1 (s (Q 14 [m 0,m 3,E (.dZ (T 14) (T 15)),E (.bin .lss (T 16) (.c (.int .u8 97))),m 17,z 18 (m 0),z 18 (m 3),z 18 (E (.dZ (T 19) (T 20))),z 18 (E (.bin .gtr (T 21) (.c (.int .u8 122)))),po 18 22,m 23,y 24 (m 0),y 24 (m 3),y 24 (E (.dZ (T 25) (T 26))),y 24 (E (.bin .lss (T 27) (.c (.int .u8 48)))),y 24 (m 28),z 29 (m 0),z 29 (m 3),z 29 (E (.dZ (T 30) (T 31))),z 29 (E (.bin .gtr (T 32) (.c (.int .u8 57)))),y 24 (po 29 33),pa 24 34] [35,3,0]) (c 35 (r (O 2 [ff]))))) (O 12 [m 3,adi 12 1,d 3 (m 13)])))
def L9:aC:=.loop ⟨true,[3,0],[]⟩ xZ
def aem:WFn:=⟨1,[.tmp 2],zd (s (O 2 [ff]) (s (s (O 3 [i 0]) (bk 0 L9 ⟨true,[0],[]⟩)) vP))⟩
@[simp] theorem alU:ZL L9 xZ ⟨true,[3,0],[]⟩:=bF rfl
noncomputable abbrev D5 (C:aJ) (s:WSt):Option AV:=CK C 0 (aP [.tmp 2]) [.sq L9,.bk 0 ⟨true,[0],[]⟩,.sq vP] xZ s
def YL:WFn:=⟨1,[.tmp 2],zd (s (O 2 [E (.mv (.c (.str [])))]) (s (s (O 3 [m 0,E (.bin .lss (T 3) (.c (.int .u64 10)))]) (c 4 (r (O 5 [m 0,m 0,E (.bin .add (T 6) (.c (.int .u64 1))),E (.slice 0 (.c (.str [48,49,50,51,52,53,54,55,56,57])) (some (T 5)) (some (T 7)) none),d 2 (m 8)])))) (r (O 9 [m 0,E (.bin .quo (T 9) (.c (.int .u64 10))),ca 558 [10],m 0,E (.bin .rem (T 12) (.c (.int .u64 10))),ca 558 [13],ad 11 14,d 2 (m 15)]))))⟩
def D8:aC:=zd (r (O 50 [m 5,d 4 (m 50)]))
def y8:aC:=zd (s (s (O 8 [m 6,m 0,ln 1 9,lt 8 10]) (cc 11 (w .skip) (ee 0))) (s (B 1 (s (O 14 [m 0,m 6,ix 3 14 15,f 2 16,l 1 17,d 7 (m 18)]) (s (s (O 19 [m 0,m 6,ix 3 19 20,f 1 21,l 1 22]) (B 2 (s (O 25 [E (.bin .eql (T 23) (.c (.int .u8 1))),d 24 (m 25)]) (cc 24 (O 26 [f 2 3,l 1 26,d 7 (m 27)]) (s (O 29 [E (.bin .eql (T 23) (.c (.int .u8 2))),d 28 (m 29)]) (cc 28 (O 30 [f 0 3,l 1 30,ca 558 [31],d 7 (m 32)]) (s (O 34 [E (.bin .eql (T 23) (.c (.int .u8 3))),d 33 (m 34)]) (c 33 (Q 35 [f 3 3,l 1 35,ln 1 36,E (.cvt .u64 (T 37)),ca 558 [38],d 7 (m 39)] [7,6,5,3,0]))))))))) (O 40 [m 5,m 0,m 6,ix 3 41 42,f 0 43,l 1 44,m 7,E (.build [.str [],.str []] [(0,1,T 45),(1,1,T 46)]),E (.aZ [.str [],.str []] 1 [(0,T 47)]),E (.app [.str [],.str []] 32 false (T 40) (T 48)),d 5 (m 49)])))) (O 12 [m 6,adi 12 1,d 6 (m 13)])))
def NH:aC:=.loop ⟨true,[6,5,3,0],[]⟩ y8
def acO:WFn:=⟨2,[.tmp 4],zd (s (Q 3 [bx 1,E (.mv (.c (.ro 2 [] true)))] [3,0]) (s (R 5 [E (.mv (.c (.ro 2 [] true)))] ⟨true,[5,3,0],[(5,2)]⟩) (s (s (O 6 [i 0]) (bk 0 NH ⟨true,[5],[]⟩)) D8)))⟩
@[simp] theorem alP:ZL NH y8 ⟨true,[6,5,3,0],[]⟩:=bF rfl
noncomputable abbrev D7 (C:aJ) (s:WSt):Option AV:=CK C 0 (aP [.tmp 4]) [.sq NH,.bk 0 ⟨true,[5],[]⟩,.sq D8] y8 s
def ae4:WFn:=⟨1,[.tmp 2],zd (s (O 1 [bx 0,i 0]) (r (O 3 [E (.call 502 [T 1,.c (.fn 503 [])]),d 2 (m 3)])))⟩
def adO:WFn:=⟨2,[.tmp 4],zd (s (O 4 [i 0]) (r (O 5 [m 0,m 1,E (.call 578 [T 5,T 6,.c (.bool true)]),d 4 (m 7)])))⟩
def LW:aC:=zd (r (O 4 [i (-1)]))
def uT:aC:=zd (s (O 9 [lt 8 7]) (s (cc 9 (w .skip) (ee 0)) (s (B 1 (s (O 10 [m 8,d 5 (m 10)]) (s (O 11 [m 1,m 0,m 5,ix 1 12 13,l 1 14,E (.dW (T 11) [T 15])]) (c 16 (r (O 17 [m 5,d 4 (m 17)])))))) (O 18 [adi 8 1,d 8 (m 18)]))))
def MS:aC:=.loop ⟨true,[8,7,1,0],[]⟩ uT
def aeN:WFn:=⟨2,[.tmp 4],zd (s (O 4 [i 0]) (s (s (O 6 [m 0,ln 1 6,i 0]) (bk 0 MS ⟨true,[],[]⟩)) LW))⟩
@[simp] theorem al9:ZL MS uT ⟨true,[8,7,1,0],[]⟩:=bF rfl
noncomputable abbrev Aw (C:aJ) (s:WSt):Option AV:=CK C 0 (aP [.tmp 4]) [.sq MS,.bk 0 ⟨true,[],[]⟩,.sq LW] uT s
def XD:WFn:=⟨1,[.tmp 2],zd (s (O 2 [ff]) (r (O 3 [m 0,E (.bin .lss (T 3) (.c (.int .i32 97))),m 4,z 5 (m 0),z 5 (E (.bin .gtr (T 6) (.c (.int .i32 122)))),po 5 7,m 8,y 9 (m 0),y 9 (E (.bin .lss (T 10) (.c (.int .i32 48)))),y 9 (m 11),z 12 (m 0),z 12 (E (.bin .gtr (T 13) (.c (.int .i32 57)))),y 9 (po 12 14),pa 9 15,d 2 (m 16)])))⟩
def QX:WFn:=⟨1,[.tmp 2],zd (s (Q 1 [bx 0,i 0] [1]) (s (s (O 3 [f 0 1,l 1 3,E (.bin .eql (T 4) (.c (.int .u64 0))),m 5,z 6 (f 2 1),z 6 (l 1 7),z 6 (ca 579 [8]),z 6 (nt 9),po 6 10,m 11,z 12 (f 3 1),z 12 (l 1 13),z 12 (ln 1 14),z 12 (gti 15 8),po 12 16,m 17,z 18 (f 3 1),z 18 (l 1 19),z 18 (E (.call 498 [T 20,.c (.fn 580 [])])),po 18 21]) (c 22 (r (O 2 [i 6])))) (r (O 2 [i 0]))))⟩
def zB:aC:=zd (r (O 81 [m 5,d 4 (m 81)]))
def pq:aC:=zd (O 80 [adi 12 1,d 12 (m 80)])
def zx:aC:=zd (s (O 66 [lt 65 64]) (s (cc 66 (w .skip) (ee 3)) (s (B 4 (s (O 67 [ix 1 63 65,l 1 67,d 9 (m 68)]) (U 69 [m 5,h 4 2,h 6 7,m 9,m 9,ca 583 [73],E (.aZ [.int .u8 0,.str [],.str [],.ro 2 [] true,.str [],.ro 6 [] true] 1 [(0,T 74)]),ca 582 [70,71,72,75],E (.aZ [.int .u8 0,.str [],.str [],.ro 2 [] true,.str [],.ro 6 [] true] 1 [(0,T 76)]),E (.app [.int .u8 0,.str [],.str [],.ro 2 [] true,.str [],.ro 6 [] true] 104 false (T 69) (T 77)),d 5 (m 78)] [(1,5),(2,5),(1,6),(2,6)] [65,64,63,12,11,10,7,5,2]))) (O 79 [adi 65 1,d 65 (m 79)]))))
def KX:aC:=.loop ⟨true,[65,64,63,12,11,10,7,5,2],[]⟩ zx
def nP:aC:=zd (s (O 13 [lt 12 11]) (s (cc 13 (w .skip) (ee 0)) (s (bk 1 (s (Q 14 [ix 6 10 12,h 6 14,d 7 (E (.alloc [.int .u8 0,.str [],.str [],.ro 3 [] true,.str [],.ro 6 [] true])),n (st 6 7 15)] [12,11,10,7,5,2]) (s (O 16 [f 0 7,l 1 16]) (bk 2 (s (O 19 [E (.bin .eql (T 17) (.c (.int .u8 1))),d 18 (m 19)]) (cc 18 (V 20 [m 5,h 4 2,h 6 7,f 2 7,l 1 23,h 4 2,f 5 7,l 1 26,ca 547 [25,27],ca 582 [21,22,24,28],E (.aZ [.int .u8 0,.str [],.str [],.ro 2 [] true,.str [],.ro 6 [] true] 1 [(0,T 29)]),E (.app [.int .u8 0,.str [],.str [],.ro 2 [] true,.str [],.ro 6 [] true] 104 false (T 20) (T 30)),d 5 (m 31)] [(1,8),(2,8),(4,8)] ⟨false,[],[]⟩) (s (O 33 [E (.bin .eql (T 17) (.c (.int .u8 2))),d 32 (m 33)]) (cc 32 (Q 34 [m 5,f 4 7,l 1 35,ca 583 [36],E (.aZ [.int .u8 0,.str [],.str [],.ro 2 [] true,.str [],.ro 6 [] true] 1 [(0,T 37)]),E (.app [.int .u8 0,.str [],.str [],.ro 2 [] true,.str [],.ro 6 [] true] 104 false (T 34) (T 38)),d 5 (m 39)] [12,11,10,5,2]) (s (O 41 [E (.bin .eql (T 17) (.c (.int .u8 3))),d 40 (m 41)]) (cc 40 (O 42 [m 5,f 0 2,f 2 43,l 1 44,ca 583 [45],E (.aZ [.int .u8 0,.str [],.str [],.ro 2 [] true,.str [],.ro 6 [] true] 1 [(0,T 46)]),E (.app [.int .u8 0,.str [],.str [],.ro 2 [] true,.str [],.ro 6 [] true] 104 false (T 42) (T 47)),d 5 (m 48)]) (s (O 50 [E (.bin .eql (T 17) (.c (.int .u8 4))),d 49 (m 50)]) (cc 49 (O 51 [m 5,f 0 2,f 0 52,l 1 53,ca 584 [54],ca 583 [55],E (.aZ [.int .u8 0,.str [],.str [],.ro 2 [] true,.str [],.ro 6 [] true] 1 [(0,T 56)]),E (.app [.int .u8 0,.str [],.str [],.ro 2 [] true,.str [],.ro 6 [] true] 104 false (T 51) (T 57)),d 5 (m 58)]) (s (O 60 [E (.bin .eql (T 17) (.c (.int .u8 5))),d 59 (m 60)]) (c 59 (s (O 61 [f 0 2,f 3 61,l 1 62,ln 1 63,i 0]) (bk 3 KX ⟨true,[12,11,10,5,2],[]⟩)))))))))))) ⟨true,[12,11,10,5,2],[]⟩))) ⟨true,[12,11,10,5,2],[]⟩) pq)))
def DZ:aC:=.loop ⟨true,[12,11,10,5,2],[]⟩ nP
def adN:WFn:=⟨2,[.tmp 4],zd (s (O 4 [d 2 (bx 0),E (.mv (.c (.ro 6 [] true)))]) (s (R 5 [E (.mv (.c (.ro 6 [] true)))] ⟨true,[5,2,1],[(5,6)]⟩) (s (s (O 10 [m 1,ln 1 10,i 0]) (bk 0 DZ ⟨true,[5],[]⟩)) zB)))⟩
@[simp] theorem akA:ZL KX zx ⟨true,[65,64,63,12,11,10,7,5,2],[]⟩:=bF rfl
noncomputable abbrev Dq (C:aJ) (s:WSt):Option AV:=CK C 0 (aP [.tmp 4]) [.sq KX,.bk 3 ⟨true,[12,11,10,5,2],[]⟩,.bk 2 ⟨true,[12,11,10,5,2],[]⟩,.bk 1 ⟨true,[12,11,10,5,2],[]⟩,.sq pq,.sq DZ,.bk 0 ⟨true,[5],[]⟩,.sq zB] zx s
@[simp] theorem akW:ZL DZ nP ⟨true,[12,11,10,5,2],[]⟩:=bF rfl
noncomputable abbrev jJ (C:aJ) (s:WSt):Option AV:=CK C 0 (aP [.tmp 4]) [.sq DZ,.bk 0 ⟨true,[5],[]⟩,.sq zB] nP s
def aej:WFn:=⟨1,[.tmp 2],zd (s (O 2 [E (.mv (.c (.ro 2 [] true)))]) (r (O 3 [m 0,m 0,ln 1 4,m 0,ln 1 6,E (.slice 2 (T 3) none (some (T 5)) (some (T 7))),d 2 (m 8)])))⟩
def abJ:WFn:=⟨1,[.tmp 2],zd (w (.cln [.str [],.str []] 2 32))⟩
def TY:WFn:=⟨1,[.tmp 2],zd (s (O 2 [ff]) (r (O 3 [m 0,E (.bin .lss (T 3) (.c (.int .i32 32))),m 4,z 5 (m 0),z 5 (E (.bin .gtr (T 6) (.c (.int .i32 126)))),po 5 7,d 2 (m 8)])))⟩
def ac9:WFn:=⟨1,[.tmp 2],zd (s (O 2 [ff]) (r (O 3 [m 0,E (.bin .geq (T 3) (.c (.int .u8 97))),m 4,y 5 (m 0),y 5 (E (.bin .leq (T 6) (.c (.int .u8 122)))),pa 5 7,m 8,z 9 (m 0),z 9 (E (.bin .geq (T 10) (.c (.int .u8 48)))),z 9 (m 11),y 12 (m 0),y 12 (E (.bin .leq (T 13) (.c (.int .u8 57)))),z 9 (pa 12 14),po 9 15,d 2 (m 16)])))⟩
def JQ:aC:=zd (r (O 4 [i (-1)]))
def wu:aC:=zd (s (O 9 [lt 8 7]) (s (cc 9 (w .skip) (ee 0)) (s (B 1 (s (O 10 [m 8,d 5 (m 10)]) (s (O 11 [m 1,m 0,m 5,ix 6 12 13,h 6 14,E (.dW (T 11) [T 15])]) (c 16 (r (O 17 [m 5,d 4 (m 17)])))))) (O 18 [adi 8 1,d 8 (m 18)]))))
def KT:aC:=.loop ⟨true,[8,7,1,0],[]⟩ wu
def adl:WFn:=⟨2,[.tmp 4],zd (s (O 4 [i 0]) (s (s (O 6 [m 0,ln 1 6,i 0]) (bk 0 KT ⟨true,[],[]⟩)) JQ))⟩
@[simp] theorem ak2:ZL KT wu ⟨true,[8,7,1,0],[]⟩:=bF rfl
noncomputable abbrev yC (C:aJ) (s:WSt):Option AV:=CK C 0 (aP [.tmp 4]) [.sq KT,.bk 0 ⟨true,[],[]⟩,.sq JQ] wu s
def Eb:aC:=zd (r (O 35 [m 5,d 4 (m 35)]))
def vC:aC:=zd (s (s (Q 14 [m 6,f 5 2,l 1 15,ln 1 16,lt 14 17,m 18,y 19 (m 5),y 19 (lei 20 64),pa 19 21] [22,6,5,2,1]) (cc 22 (w .skip) (ee 0))) (s (B 1 (O 25 [m 5,f 5 2,l 1 26,m 6,ix 6 27 28,h 6 29,m 1,sbi 31 1,ca 550 [30,32],ad 25 33,d 5 (m 34)])) (O 23 [m 6,adi 23 1,d 6 (m 24)])))
def LX:aC:=.loop ⟨true,[6,5,2,1],[]⟩ vC
def WM:WFn:=⟨2,[.tmp 4],zd (s (O 4 [d 2 (bx 0),i 0]) (s (s (O 7 [m 1,lti 7 1,m 8,z 9 (h 6 2),z 9 (ca 586 [10]),z 9 (nt 11),po 9 12]) (c 13 (r (O 4 [i 1000])))) (s (O 5 [i 1]) (s (s (O 6 [i 0]) (bk 0 LX ⟨true,[5],[]⟩)) Eb))))⟩
@[simp] theorem akG:ZL LX vC ⟨true,[6,5,2,1],[]⟩:=bF rfl
noncomputable abbrev yg (C:aJ) (s:WSt):Option AV:=CK C 0 (aP [.tmp 4]) [.sq LX,.bk 0 ⟨true,[5],[]⟩,.sq Eb] vC s
def aaZ:WFn:=⟨2,[.tmp 4],zd (s (O 3 [bx 1,i 0]) (s (s (O 7 [m 0,nk 7,f 0 8,l 1 9,E (.bin .neq (T 10) (.c (.int .u8 1)))]) (c 11 (r (O 4 [i 0])))) (s (O 5 [E (.alloc [.int .i64 0]),n (E (.store 1 (T 5) (N 0)))]) (s (O 6 [E (.alloc [.dV])]) (s (O 12 [E (.kX 548 [T 5,T 3,T 6]),n (st 1 6 12)]) (s (s (O 13 [l 1 6,m 0,E (.dW (T 13) [T 14,N 1]),nt 15]) (c 16 (r (O 4 [i 0])))) (r (O 17 [l 1 5,d 4 (m 17)]))))))))⟩
def acW:WFn:=⟨1,[],zd (w .skip)⟩
def MQ:aC:=zd (r (O 6 [i (-1)]))
def ru:aC:=zd (s (O 11 [E (.next (T 10)),ex 0 11]) (s (cc 12 (w .skip) (ee 0)) (B 1 (s (O 13 [ex 1 11,ex 2 11,d 7 (m 13),d 8 (m 14)]) (s (O 15 [m 1,m 8,E (.dW (T 15) [T 16]),m 2,E (.eqv 5 [] false (T 17) (T 18))]) (c 19 (r (O 20 [m 7,d 6 (m 20)]))))))))
def LH:aC:=.loop ⟨true,[10,2,1],[]⟩ ru
def ae5:WFn:=⟨3,[.tmp 6],zd (s (O 6 [i 0]) (s (s (O 9 [m 0,E (.range (T 9))]) (bk 0 LH ⟨true,[],[]⟩)) MQ))⟩
@[simp] theorem alp:ZL LH ru ⟨true,[10,2,1],[]⟩:=bF rfl
noncomputable abbrev wI (C:aJ) (s:WSt):Option AV:=CK C 0 (aP [.tmp 6]) [.sq LH,.bk 0 ⟨true,[],[]⟩,.sq MQ] ru s
def acn:WFn:=⟨1,[.tmp 2],zd (s (O 2 [ff]) (r (O 3 [m 0,E (.build [.int .u8 0,.str [],.str [],.ro 2 [] true,.str [],.ro 6 [] true] [(0,1,.c (.int .u8 2)),(4,1,T 3)]),ca 439 [4],eqi 5 0,d 2 (m 6)])))⟩
def aep:WFn:=⟨1,[.tmp 2],zd (s (O 2 [ff]) (r (O 3 [m 0,ca 581 [3],nt 4,d 2 (m 5)])))⟩
def aeo:WFn:=⟨1,[.tmp 2],zd (s (O 2 [ff]) (r (O 3 [m 0,E (.build [.int .u8 0,.str [],.str [],.ro 2 [] true,.str [],.ro 6 [] true] [(0,1,.c (.int .u8 1)),(1,1,T 3)]),ca 439 [4],eqi 5 0,d 2 (m 6)])))⟩
def adh:WFn:=⟨4,[.cell 8 6 true],zd (s (O 4 [bx 0,bx 1,d 8 (E (.alloc [.int .u8 0,.str [],.str [],.ro 2 [] true,.str [],.ro 6 [] true]))]) (r (V 9 [f 1 5,l 1 9,m 2,h 4 4,f 3 5,l 1 13,ca 592 [12,14],m 3,ca 593 [16],E (.build [.int .u8 0,.str [],.str [],.ro 2 [] true,.str [],.ro 6 [] true] [(0,1,.c (.int .u8 1)),(1,1,T 10),(2,1,T 11),(3,1,T 15),(5,1,T 17)]),n (st 6 8 18)] [(1,6),(1,8)] ⟨false,[],[]⟩)))⟩
def adH:WFn:=⟨1,[.cell 2 6 true],zd (s (O 2 [E (.alloc [.int .u8 0,.str [],.str [],.ro 2 [] true,.str [],.ro 6 [] true])]) (r (O 3 [m 0,E (.build [.int .u8 0,.str [],.str [],.ro 2 [] true,.str [],.ro 6 [] true] [(0,1,.c (.int .u8 2)),(4,1,T 3)]),n (st 6 2 4)])))⟩
def yR:aC:=zd (B 1 (s (O 5 [m 4,sbi 5 1,d 4 (m 6)]) (s (O 7 [m 4,m 0,E (.bin .rem (T 8) (.c (.int .u64 10))),E (.dZ (.c (.str [48,49,50,51,52,53,54,55,56,57])) (T 9)),E (.kV 20 1 (T 3) (T 7)),n (st 1 11 10)]) (s (O 12 [m 0,E (.bin .quo (T 12) (.c (.int .u64 10))),d 0 (m 13)]) (s (O 14 [m 0,E (.bin .eql (T 14) (.c (.int .u64 0)))]) (c 15 (r (O 16 [m 4,E (.fV 20 (T 3) (some (T 16)) none),E (.cvb (T 17)),d 2 (m 18)]))))))))
def Lp:aC:=.loop ⟨true,[4,3,0],[]⟩ yR
def adR:WFn:=⟨1,[.tmp 2],zd (s (O 2 [E (.mv (.c (.str [])))]) (s (O 3 [E (.alloc (rep 20 (.int .u8 0)))]) (s (O 4 [i 20]) (bk 0 Lp ⟨true,[2],[]⟩))))⟩
@[simp] theorem al1:ZL Lp yR ⟨true,[4,3,0],[]⟩:=bF rfl
noncomputable abbrev Ef (C:aJ) (s:WSt):Option AV:=CK C 0 (aP [.tmp 2]) [.sq Lp,.bk 0 ⟨true,[2],[]⟩] yR s
def lD:WFn:=⟨1,[.tmp 2],zd (s (O 1 [bx 0,ff]) (s (s (O 3 [f 0 1,l 1 3]) (B 0 (s (O 6 [E (.bin .eql (T 4) (.c (.int .u8 1))),d 5 (m 6)]) (cc 5 (r (Q 7 [f 1 1,l 1 7,ca 557 [8],m 9,y 10 (f 2 1),y 10 (l 1 11),y 10 (E (.bin .eql (T 12) (.c (.str [])))),y 10 (m 13),z 14 (f 2 1),z 14 (l 1 15),z 14 (ca 557 [16]),y 10 (po 14 17),pa 10 18,m 19,y 20 (f 3 1),y 20 (l 1 21),y 20 (ca 594 [22]),pa 20 23,m 24,y 25 (f 4 1),y 25 (l 1 26),y 25 (E (.bin .eql (T 27) (.c (.str [])))),pa 25 28,m 29,y 30 (f 5 1),y 30 (l 1 31),y 30 (ln 1 32),y 30 (lei 33 16),pa 30 34,d 2 (m 35)] [2])) (s (O 37 [E (.bin .eql (T 4) (.c (.int .u8 2))),d 36 (m 37)]) (cc 36 (r (Q 38 [f 4 1,l 1 38,ca 556 [39],m 40,y 41 (f 1 1),y 41 (l 1 42),y 41 (E (.bin .eql (T 43) (.c (.str [])))),pa 41 44,m 45,y 46 (f 2 1),y 46 (l 1 47),y 46 (E (.bin .eql (T 48) (.c (.str [])))),pa 46 49,m 50,y 51 (f 3 1),y 51 (l 1 52),y 51 (ln 1 53),y 51 (f 5 1),y 51 (l 1 55),y 51 (ln 1 56),y 51 (ad 54 57),y 51 (eqi 58 0),pa 51 59,d 2 (m 60)] [2])) (s (s (O 62 [E (.bin .eql (T 4) (.c (.int .u8 3))),d 61 (m 62)]) (cc 61 (w .skip) (O 63 [E (.bin .eql (T 4) (.c (.int .u8 4))),d 61 (m 63)]))) (cc 61 (r (Q 64 [f 4 1,l 1 64,E (.bin .eql (T 65) (.c (.str []))),m 66,y 67 (f 1 1),y 67 (l 1 68),y 67 (E (.bin .eql (T 69) (.c (.str [])))),pa 67 70,m 71,y 72 (f 2 1),y 72 (l 1 73),y 72 (E (.bin .eql (T 74) (.c (.str [])))),pa 72 75,m 76,y 77 (f 3 1),y 77 (l 1 78),y 77 (ln 1 79),y 77 (f 5 1),y 77 (l 1 81),y 77 (ln 1 82),y 77 (ad 80 83),y 77 (eqi 84 0),pa 77 85,d 2 (m 86)] [2])) (s (O 88 [E (.bin .eql (T 4) (.c (.int .u8 5))),d 87 (m 88)]) (c 87 (r (Q 89 [f 1 1,l 1 89,ca 557 [90],m 91,y 92 (f 3 1),y 92 (l 1 93),y 92 (ca 594 [94]),pa 92 95,m 96,y 97 (f 2 1),y 97 (l 1 98),y 97 (E (.bin .eql (T 99) (.c (.str [])))),pa 97 100,m 101,y 102 (f 4 1),y 102 (l 1 103),y 102 (E (.bin .eql (T 104) (.c (.str [])))),pa 102 105,m 106,y 107 (f 5 1),y 107 (l 1 108),y 107 (ln 1 109),y 107 (eqi 110 0),pa 107 111,d 2 (m 112)] [2])))))))))))) (r (O 2 [ff]))))⟩
def Kr:aC:=zd (r (O 7 [tt]))
def wM:aC:=zd (s (O 31 [lt 30 29]) (s (cc 31 (w .skip) (ee 0)) (s (B 1 (s (O 32 [m 30,d 8 (m 32)]) (s (V 33 [l 1 4,m 0,nk 34,f 5 35,l 1 36,m 8,ix 6 37 38,m 1,adi 40 1,E (.dW (T 33) [T 39,T 41]),nt 42] [] ⟨false,[],[]⟩) (c 43 (r (O 7 [ff])))))) (O 44 [adi 30 1,d 30 (m 44)]))))
def KO:aC:=.loop ⟨true,[30,29,4,1,0],[]⟩ wM
def SS:WFn:=⟨5,[.tmp 7],zd (s (O 7 [ff]) (s (O 9 [l 1 2,adi 9 1,n (st 1 2 10)]) (s (s (O 11 [m 1,gti 11 6,m 12,z 13 (l 1 2),z 13 (gti 14 64),po 13 15,m 16,z 17 (m 0),z 17 (ca 549 [18]),z 17 (nt 19),po 17 20]) (c 21 (r (O 7 [ff])))) (s (O 22 [l 1 3,m 0,E (.dW (T 22) [T 23])]) (s (s (Q 25 [m 0,nk 25,f 5 26,l 1 27,ln 1 28,i 0] [30,29,4,1,0]) (bk 0 KO ⟨true,[],[]⟩)) Kr)))))⟩
@[simp] theorem ak9:ZL KO wM ⟨true,[30,29,4,1,0],[]⟩:=bF rfl
def iI:WFn:=⟨1,[.tmp 2],zd (s (O 2 [ff]) (s (O 4 [m 0,nk 4,h 6 5,d 3 (E (.alloc [.int .u8 0,.str [],.str [],.ro 3 [] true,.str [],.ro 6 [] true])),n (st 6 3 6)]) (s (s (O 7 [m 0,nk 7,f 0 8,l 1 9]) (B 0 (s (B 5 (s (B 4 (s (B 3 (s (B 2 (s (B 1 (s (s (s (O 12 [E (.bin .eql (T 10) (.c (.int .u8 1))),d 11 (m 12)]) (c 11 (ee 1))) (s (s (O 14 [E (.bin .eql (T 10) (.c (.int .u8 5))),d 13 (m 14)]) (c 13 (ee 2))) (s (s (O 16 [E (.bin .eql (T 10) (.c (.int .u8 2))),d 15 (m 16)]) (c 15 (ee 3))) (s (s (O 18 [E (.bin .eql (T 10) (.c (.int .u8 3))),d 17 (m 18)]) (cc 17 (w .skip) (O 19 [E (.bin .eql (T 10) (.c (.int .u8 4))),d 17 (m 19)]))) (c 17 (ee 4)))))) (ee 5))) (s (s (Q 20 [m 0,nk 20,f 2 21,l 1 22,E (.bin .neq (T 23) (.c (.str []))),m 24,y 25 (m 0),y 25 (nk 26),y 25 (f 2 27),y 25 (l 1 28),y 25 (ca 581 [29]),y 25 (nt 30),pa 25 31,m 32,z 33 (m 0),z 33 (nk 34),z 33 (f 5 35),z 33 (l 1 36),z 33 (ln 1 37),z 33 (gti 38 16),po 33 39] [40,3,0]) (c 40 (r (O 2 [ff])))) (O 41 [f 2 3,n (E (.store 1 (T 41) (.c (.str [])))),f 5 3,n (E (.store 1 (T 42) (.c (.ro 6 [] true))))])))) (s (s (s (Q 43 [m 0,nk 43,f 1 44,l 1 45,ca 581 [46],nt 47,m 48,z 49 (m 0),z 49 (nk 50),z 49 (f 3 51),z 49 (l 1 52),z 49 (ca 585 [53]),z 49 (nt 54),po 49 55] [56,3]) (c 56 (r (O 2 [ff])))) (O 57 [f 1 3,n (E (.store 1 (T 57) (.c (.str [])))),f 3 3,n (E (.store 1 (T 58) (.c (.ro 3 [] true))))])) (ee 0)))) (s (s (s (O 59 [m 0,nk 59,f 4 60,l 1 61,ca 579 [62],nt 63]) (c 64 (r (O 2 [ff])))) (O 65 [f 4 3,n (E (.store 1 (T 65) (.c (.str []))))])) (ee 0)))) (ee 0))) (s (r (O 2 [ff])) (ee 0))))) (r (Q 66 [f 1 3,l 1 66,E (.bin .eql (T 67) (.c (.str []))),m 68,y 69 (f 2 3),y 69 (l 1 70),y 69 (E (.bin .eql (T 71) (.c (.str [])))),pa 69 72,m 73,y 74 (f 4 3),y 74 (l 1 75),y 74 (E (.bin .eql (T 76) (.c (.str [])))),pa 74 77,m 78,y 79 (f 3 3),y 79 (l 1 80),y 79 (ln 1 81),y 79 (eqi 82 0),pa 79 83,m 84,y 85 (f 5 3),y 85 (l 1 86),y 85 (ln 1 87),y 85 (eqi 88 0),pa 85 89,d 2 (m 90)] [2])))))⟩
def Eu:aC:=zd (r (O 44 [m 5,d 4 (m 44)]))
def uV:aC:=zd (s (O 14 [lt 13 12]) (s (cc 14 (w .skip) (ee 0)) (s (B 1 (s (O 15 [m 13,ix 3 11 13,h 3 16,d 7 (E (.alloc [.str [],.int .u8 0,.str []])),d 6 (m 15),n (st 3 7 17)]) (U 18 [m 5,m 6,f 0 7,l 1 20,f 2 7,l 1 22,f 0 2,f 2 24,l 1 25,f 0 2,f 0 27,l 1 28,ca 584 [29],f 0 2,f 3 31,l 1 32,ln 1 33,E (.cvt .u64 (T 34)),ca 584 [35],E (.build [.str [],.str [],.str [],.str []] [(0,1,T 23),(1,1,T 26),(2,1,T 30),(3,1,T 36)]),f 1 7,l 1 38,E (.wR 4 1 false (T 37) (T 39)),E (.build [.str [],.str []] [(0,1,T 21),(1,1,T 40)]),ix 2 18 19,n (st 2 42 41)] [(3,12),(5,12),(8,12),(12,15),(12,16),(3,18),(5,18),(8,18),(12,21),(18,21)] [13,12,11,5,2]))) (O 43 [adi 13 1,d 13 (m 43)]))))
def KI:aC:=.loop ⟨true,[13,12,11,5,2],[]⟩ uV
def YD:WFn:=⟨2,[.tmp 4],zd (s (O 4 [d 2 (bx 0),E (.mv (.c (.ro 2 [] true)))]) (s (O 8 [m 1,ln 1 8,E (.mD [.str [],.str []] 32 (T 9) (T 9)),d 5 (m 10)]) (s (s (O 11 [m 1,ln 1 11,i 0]) (bk 0 KI ⟨true,[5],[]⟩)) Eu)))⟩
@[simp] theorem al5:ZL KI uV ⟨true,[13,12,11,5,2],[]⟩:=bF rfl
noncomputable abbrev Dx (C:aJ) (s:WSt):Option AV:=CK C 0 (aP [.tmp 4]) [.sq KI,.bk 0 ⟨true,[5],[]⟩,.sq Eu] uV s
def adA:WFn:=⟨1,[.tmp 2],zd (s (O 2 [E (.mv (.c (.ro 6 [] true)))]) (r (O 3 [m 0,m 0,ln 1 4,m 0,ln 1 6,E (.slice 6 (T 3) none (some (T 5)) (some (T 7))),d 2 (m 8)])))⟩
def Ny:aC:=zd (r (O 2 [tt]))
def zZ:aC:=zd (s (s (O 8 [m 3,m 0,ln 1 9,lt 8 10]) (cc 11 (w .skip) (ee 0))) (s (B 1 (s (O 14 [m 0,m 3,ix 3 14 15,h 3 16,d 4 (E (.alloc [.str [],.int .u8 0,.str []])),n (st 3 4 17)]) (s (U 18 [f 0 4,l 1 18,ca 557 [19],nt 20,m 21,z 22 (f 1 4),z 22 (l 1 23),z 22 (E (.bin .gtr (T 24) (.c (.int .u8 3)))),po 22 25,m 26,z 27 (f 2 4),z 27 (l 1 28),z 27 (ca 556 [29]),z 27 (nt 30),po 27 31,m 32,z 33 (f 1 4),z 33 (l 1 34),z 33 (E (.bin .neq (T 35) (.c (.int .u8 0)))),z 33 (m 36),y 37 (f 2 4),y 37 (l 1 38),y 37 (E (.bin .neq (T 39) (.c (.str [])))),z 33 (pa 37 40),po 33 41,m 42,z 43 (m 3),z 43 (gti 44 0),z 43 (m 45),y 46 (m 0),y 46 (m 3),y 46 (sbi 48 1),y 46 (ix 3 47 49),y 46 (f 0 50),y 46 (l 1 51),y 46 (f 0 4),y 46 (l 1 53),y 46 (ge 52 54),z 43 (pa 46 55),po 43 56] [] [57,3,0]) (c 57 (r (O 2 [ff])))))) (O 12 [m 3,adi 12 1,d 3 (m 13)])))
def J4:aC:=.loop ⟨true,[3,0],[]⟩ zZ
def abT:WFn:=⟨1,[.tmp 2],zd (s (O 2 [ff]) (s (s (O 5 [m 0,ln 1 5,gti 6 8]) (c 7 (r (O 2 [ff])))) (s (s (O 3 [i 0]) (bk 0 J4 ⟨true,[],[]⟩)) Ny)))⟩
@[simp] theorem als:ZL J4 zZ ⟨true,[3,0],[]⟩:=bF rfl
noncomputable abbrev Ez (C:aJ) (s:WSt):Option AV:=CK C 0 (aP [.tmp 2]) [.sq J4,.bk 0 ⟨true,[],[]⟩,.sq Ny] zZ s
def MC:aC:=zd (r (O 2 [tt]))
def yU:aC:=zd (s (O 11 [lt 10 9]) (s (cc 11 (w .skip) (ee 0)) (s (B 1 (s (O 12 [m 10,ix 3 8 10,h 3 13,d 4 (E (.alloc [.str [],.int .u8 0,.str []])),d 3 (m 12),n (st 3 4 14)]) (s (U 15 [f 0 4,l 1 15,ca 581 [16],nt 17,m 18,z 19 (f 1 4),z 19 (l 1 20),z 19 (E (.bin .gtr (T 21) (.c (.int .u8 3)))),po 19 22,m 23,z 24 (f 2 4),z 24 (l 1 25),z 24 (ca 579 [26]),z 24 (nt 27),po 24 28,m 29,z 30 (f 1 4),z 30 (l 1 31),z 30 (E (.bin .gtr (T 32) (.c (.int .u8 0)))),z 30 (m 33),y 34 (f 2 4),y 34 (l 1 35),y 34 (E (.bin .neq (T 36) (.c (.str [])))),z 30 (pa 34 37),po 30 38,m 39,z 40 (m 3),z 40 (gti 41 0),z 40 (m 42),y 43 (f 0 4),y 43 (l 1 44),y 43 (m 0),y 43 (m 3),y 43 (sbi 47 1),y 43 (ix 3 46 48),y 43 (f 0 49),y 43 (l 1 50),y 43 (le 45 51),z 40 (pa 43 52),po 40 53] [] [54,10,9,8,0]) (c 54 (r (O 2 [ff])))))) (O 55 [adi 10 1,d 10 (m 55)]))))
def LU:aC:=.loop ⟨true,[10,9,8,0],[]⟩ yU
def Zk:WFn:=⟨1,[.tmp 2],zd (s (O 2 [ff]) (s (s (O 5 [m 0,ln 1 5,gti 6 8]) (c 7 (r (O 2 [ff])))) (s (s (O 8 [m 0,ln 1 8,i 0]) (bk 0 LU ⟨true,[],[]⟩)) MC)))⟩
@[simp] theorem akV:ZL LU yU ⟨true,[10,9,8,0],[]⟩:=bF rfl
noncomputable abbrev Dv (C:aJ) (s:WSt):Option AV:=CK C 0 (aP [.tmp 2]) [.sq LU,.bk 0 ⟨true,[],[]⟩,.sq MC] yU s
def tree:qQ:=(.node (.node (.node (.node (.node (.node (.node (.node .leaf 0 w0 .leaf) 111 adV .leaf) 115 KE (.node .leaf 126 ac7 .leaf)) 130 ad1 (.node (.node .leaf 138 akk .leaf) 139 aj7 (.node .leaf 140 aeY .leaf))) 141 adM (.node (.node (.node .leaf 145 akp .leaf) 223 XZ (.node .leaf 225 ae2 .leaf)) 227 aeT (.node (.node .leaf 230 VZ .leaf) 231 abg (.node .leaf 232 WX .leaf)))) 238 aeI (.node (.node (.node (.node .leaf 240 aco .leaf) 270 adT (.node .leaf 271 Rt .leaf)) 277 acI (.node (.node .leaf 278 acz .leaf) 279 ad7 (.node .leaf 280 Xl .leaf))) 281 adD (.node (.node (.node .leaf 282 ad5 .leaf) 283 acg (.node .leaf 284 adx .leaf)) 285 Tt (.node (.node .leaf 286 WE .leaf) 287 aeG (.node .leaf 288 acN .leaf))))) 289 ZY (.node (.node (.node (.node (.node .leaf 290 akx .leaf) 293 QZ (.node .leaf 296 Ls .leaf)) 297 ZQ (.node (.node .leaf 299 ab3 .leaf) 301 ajr (.node .leaf 302 ajs .leaf))) 398 Rh (.node (.node (.node .leaf 399 acv .leaf) 400 Zi (.node .leaf 404 ae4 .leaf)) 405 Ye (.node (.node .leaf 408 abD .leaf) 415 Ig (.node .leaf 417 adF .leaf)))) 422 Hg (.node (.node (.node (.node .leaf 423 ac6 .leaf) 424 OM (.node .leaf 425 Io .leaf)) 427 aef (.node (.node .leaf 428 acA .leaf) 429 adL (.node .leaf 430 ab9 .leaf))) 431 RF (.node (.node (.node .leaf 432 ai1 .leaf) 433 Ht (.node .leaf 434 wQ .leaf)) 435 ab4 (.node (.node .leaf 436 adU .leaf) 437 YO (.node .leaf 438 Mc .leaf)))))) 439 aaf (.node (.node (.node (.node (.node (.node .leaf 441 aa7 .leaf) 442 Y5 (.node .leaf 494 aaq .leaf)) 495 aaH (.node (.node .leaf 496 RG .leaf) 497 Zx (.node .leaf 498 YQ .leaf))) 499 acs (.node (.node (.node .leaf 500 V8 .leaf) 501 Ii (.node .leaf 502 aaZ .leaf)) 503 acW (.node (.node .leaf 505 Xm .leaf) 507 aex (.node .leaf 510 aaW .leaf)))) 511 XQ (.node (.node (.node (.node .leaf 512 Ue .leaf) 513 QA (.node .leaf 514 aeA .leaf)) 515 akw (.node (.node .leaf 516 aa4 .leaf) 517 WH (.node .leaf 518 aap .leaf))) 519 aaJ (.node (.node (.node .leaf 520 XB .leaf) 543 adO (.node .leaf 544 aeN .leaf)) 545 XD (.node (.node .leaf 546 QX .leaf) 547 adN (.node .leaf 548 SS .leaf))))) 549 iI (.node (.node (.node (.node (.node .leaf 550 WM .leaf) 553 aej (.node .leaf 554 abJ .leaf)) 556 aaI (.node (.node .leaf 557 aem .leaf) 558 YL (.node .leaf 559 acO .leaf))) 560 TY (.node (.node (.node .leaf 561 ac9 .leaf) 562 adl (.node .leaf 563 wV .leaf)) 578 ae5 (.node (.node .leaf 579 acn .leaf) 580 aep (.node .leaf 581 aeo .leaf)))) 582 adh (.node (.node (.node (.node .leaf 583 adH .leaf) 584 adR (.node .leaf 585 Zk .leaf)) 586 lD (.node (.node .leaf 592 YD .leaf) 593 adA (.node .leaf 594 abT .leaf))) 2031 QZ (.node (.node (.node .leaf 3008 adD .leaf) 3009 RF (.node .leaf 5032 Vl .leaf)) 5033 QB (.node (.node .leaf 5034 Pg .leaf) 5035 U8 (.node .leaf 5036 Uz .leaf)))))))
def ids:List (Nat × Nat):=[(0,2),(111,77),(115,101),(126,72),(130,27),(138,24),(139,13),(140,25),(141,3),(145,19),(223,48),(225,104),(227,105),(230,149),(231,150),(232,110),(238,107),(240,75),(270,73),(271,74),(277,53),(278,16),(279,49),(280,50),(281,51),(282,66),(283,10),(284,11),(285,12),(286,14),(287,15),(288,17),(289,18),(290,20),(293,43),(296,42),(297,23),(299,46),(301,59),(302,60),(398,102),(399,103),(400,174),(404,192),(405,159),(408,146),(415,108),(417,45),(422,124),(423,125),(424,126),(425,100),(427,109),(428,54),(429,55),(430,56),(431,106),(432,61),(433,117),(434,118),(435,44),(436,47),(437,52),(438,57),(439,58),(441,64),(442,65),(494,151),(495,152),(496,153),(497,154),(498,155),(499,156),(500,157),(501,158),(502,211),(503,212),(505,187),(507,160),(510,169),(511,170),(512,147),(513,148),(514,111),(515,112),(516,164),(517,165),(518,166),(519,167),(520,116),(543,193),(544,194),(545,195),(546,196),(547,197),(548,224),(549,225),(550,210),(553,198),(554,199),(556,188),(557,189),(558,190),(559,191),(560,200),(561,201),(562,202),(563,163),(578,213),(579,214),(580,215),(581,216),(582,217),(583,218),(584,219),(585,229),(586,223),(592,226),(593,227),(594,228),(3008,51),(3009,106),(2031,43),(5036,160),(5035,112),(5034,61),(5033,51),(5032,13)]
def alts:List (Nat × Nat × Nat):=[(290,51,3008),(280,106,3009),(285,43,2031),(5035,160,5036),(5034,112,5035),(5033,61,5034),(5032,51,5033),(141,13,5032)]
end P
end
section
namespace Go.Pw
open Go Go.Pav
@[simp] def eI (x:Int):List AV:=[.int .i64 x]
@[simp] def eU8 (x:Int):List AV:=[.int .u8 x]
@[simp] def apA (x:Int):List AV:=[.int .u64 x]
@[simp] def eS (x:List UInt8):List AV:=[.str x]
@[simp] def eB (x:Bool):List AV:=[.bool x]
abbrev L1 (xs:List Int) (e:Bool):AV:=.ro 1 (xs.map eI) e
attribute [simp] Int.natCast_inj
attribute [-simp] List.getElem_cons_drop
section
variable (a n:Nat)
@[simp] theorem afI:((no_index (OfNat.ofNat a):Int) < (n:Int))=((no_index (OfNat.ofNat a):Nat) < n):=propext (Int.ofNat_lt (n:=(OfNat.ofNat a:Nat)) (m:=n))
@[simp] theorem af5:((n:Int) < (no_index (OfNat.ofNat a):Int))=(n < (no_index (OfNat.ofNat a):Nat)):=propext (Int.ofNat_lt (m:=(OfNat.ofNat a:Nat)) (n:=n))
@[simp] theorem af8:((no_index (OfNat.ofNat a):Int)≤(n:Int))=((no_index (OfNat.ofNat a):Nat)≤n):=propext (Int.ofNat_le (m:=(OfNat.ofNat a:Nat)) (n:=n))
@[simp] theorem afA:((n:Int)≤(no_index (OfNat.ofNat a):Int))=(n≤(no_index (OfNat.ofNat a):Nat)):=propext (Int.ofNat_le (n:=(OfNat.ofNat a:Nat)) (m:=n))
end
theorem OZ {α β:Type} {f:α→β} {acc:List α} {n i:Nat} {z:β} (h:acc.length=i):(List.map f acc++List.replicate (n+1) z)[i]?=some z:=by
 rw [List.getElem?_append_right (by simp;omega)]
 simp [h]
theorem Qn {α β:Type} {f:α→β} {acc:List α} {n i:Nat} {z v:β} (h:acc.length=i):(List.map f acc++List.replicate (n+1) z).set i v=List.map f acc++v::List.replicate n z:=by
 rw [List.set_append,if_neg (by simp;omega)]
 simp [h,List.replicate_succ]
@[simp] theorem aoG (a b:Nat):(a+(b+1)≤a)=False:=eq_false (by omega)
theorem drop_cons {α:Type} {l:List α} {i:Nat} (h:i < l.length):l.drop i=l[i]::l.drop (i+1):=List.drop_eq_getElem_cons h
theorem Ju {α:Type} {g:α→Option α}:∀ {l:List α},(∀ x ∈ l,g x=some x)→aX g l=some l
 | [],_=>rfl
 | a::l,h=>by simp only [aX,h a List.mem_cons_self,ob,Ju fun x hx=>h x (List.mem_cons_of_mem _ hx),om]
@[simp] theorem ajU (h:aI) (n:Nat) (k:IntKind) (l:List Int):aX (bD h (n+1)) (List.map (AV.int k) l)=some (List.map (AV.int k) l) :=
 Ju fun x hx=>by obtain ⟨y,_,rfl⟩:=List.mem_map.1 hx;rfl
@[simp] theorem afU (k:IntKind) (l:List Int):l.all (isC ∘ AV.int k)=true:=by simp [isC]
@[simp] theorem adG (l:List Bool):l.all (isC ∘ AV.bool)=true:=by simp [isC]
attribute [simp] qo
@[simp] theorem amj:((fun x:AV=>[x]) ∘ AV.int .i64)=eI:=rfl
@[simp] theorem acd (a b:Nat):(a+b≤a)=(b=0):=propext (by omega)
theorem isE {α:Type} {l:List α} (h:¬ l=[]):l.isEmpty=false:=by cases l <;> simp_all
end Go.Pw
end
section
namespace Go.D
open Go Go.Pav Go.Pw P
attribute [-simp] List.getElem_cons_drop
variable {C:aJ}
def inN (b:UInt8):Bool:=decide (97≤b.toNat∧b.toNat≤122∨48≤b.toNat∧b.toNat≤57)
def inT (b:UInt8):Bool:=decide (32≤b.toNat∧b.toNat≤126)
def isName (s:List UInt8):Bool:=decide (1≤s.length)&&decide (s.length≤16)&&s.all inN
def isText (s:List UInt8):Bool:=decide (s.length≤64)&&s.all inT
def ppB (f:Nat):Bool:=f == 502||f == 494||f == 497||f == 434||f == 518||f == 549||f == 402||f == 411||f == 446||f == 466||f == 429||f == 514||f == 374||f == 480||(decide (1000≤f)&&decide (f < 2000))
def aH (f:Nat):Bool:=f == 217||f == 459||decide (2000≤f)
structure nU (C:aJ):Prop where
 ahs:C.fns.get 561=some ac9
 agQ:C.fns.get 517=some WH
 ahk:C.fns.get 557=some aem
 agZ:C.fns.get 556=some aaI
 ahO:C.fns.get 511=some XQ
 agz:C.fns.get 510=some aaW
 ae3:C.fns.get 560=some TY
 aeh:C.fns.get 545=some XD
 aho:C.fns.get 578=some ae5
 ag5:C.fns.get 543=some adO
 aii:C.fns.get 495=some aaH
 ag0:C.fns.get 516=some aa4
 agu:C.fns.get 500=some V8
 inl:C.inl=aH
 pp:C.pp=ppB
theorem Xd (H:nU C) (b:UInt8):FnW C 561 [.int .u8 b.toNat]=some (.bool (inN b)):=by
 rw [aO H.ahs rfl]
 unfold inN
 by_cases c1:97≤b.toNat <;> by_cases c2:b.toNat≤122 <;> by_cases c3:48≤b.toNat <;> by_cases c4:b.toNat≤57 <;> simp [ac9,c1,c2,c3,c4]
theorem Q9 (H:nU C) (s:List UInt8) (hl:s.length≤16):∀ n i,n+i=s.length →
 DW C ⟨[(14,.int .i64 i),(13,.int .i64 s.length),(0,.str s)],[],0⟩=some (.bool ((s.drop i).all inN)):=by
 intro n
 induction n with
 | zero =>
  intro i hi
  simp only [DW];rw [au zS.eq_1]
  have h1:s.drop i=[]:=List.drop_eq_nil_of_le (by omega)
  have h3:¬ i < s.length:=by omega
  simp [au NJ.eq_1,h1,h3]
 | succ n ih =>
  intro i hi
  have h1:i < s.length:=by omega
  have:=ih (i+1) (by omega)
  have hb:=Xd H s[i]
  simp only [DW] at this ⊢;rw [au zS.eq_1]
  rw [drop_cons h1]
  simp at this
  by_cases c:inN s[i]=true
  · simp (disch:=omega) [h1,aN,hb,c,H.inl,aH,H.pp,ppB,this]
  · simp (disch:=omega) [h1,aN,hb,c,H.inl,aH,H.pp,ppB]
theorem named_ok (H:nU C) (s:List UInt8):FnW C 517 [.str s]=some (.bool (isName s)):=by
 rw [aO H.agQ rfl]
 unfold isName
 by_cases c1:1≤s.length
 · by_cases c2:s.length≤16
   · have:=Q9 H s c2 s.length 0 (by simp)
     simp only [DW] at this
     simp at this
     have c3:¬ ((s.length:Int) < 1):=by omega
     have c4:¬ (16 < (s.length:Int)):=by omega
     simp [WH,c1,c2,c3,c4,this]
   · have c3:¬ ((s.length:Int) < 1):=by omega
     have c4:(16 < (s.length:Int)):=by omega
     simp [WH,c1,c2,c3,c4]
 · have c3:((s.length:Int) < 1):=by omega
   simp [WH,c1,c3]
theorem BU (b:UInt8):(inN b=true∧(97≤b.toNat∧b.toNat≤122∨¬ 97≤b.toNat∧48≤b.toNat∧b.toNat≤57))∨(inN b=false∧(¬ 97≤b.toNat∧(¬ 48≤b.toNat∨¬ b.toNat≤57)∨¬ b.toNat≤122∧¬ b.toNat≤57)):=by
 unfold inN
 by_cases c:97≤b.toNat∧b.toNat≤122∨48≤b.toNat∧b.toNat≤57
 · left;exact ⟨decide_eq_true c,by omega⟩
 · right;exact ⟨decide_eq_false c,by omega⟩
theorem Tv (H:nU C) (s:List UInt8) (hl:s.length≤16∨True):∀ n i,n+i=min s.length 17 →
 D5 C ⟨[(3,.int .i64 i),(0,.str s)],[],0⟩=some (.bool (((s.take 17).drop i).all inN&&decide (1≤s.length)&&decide (s.length≤16))):=by
 intro n
 induction n with
 | zero =>
  intro i hi
  simp only [D5];rw [au xZ.eq_1]
  have h1:(s.take 17).drop i=[]:=List.drop_eq_nil_of_le (by simp;omega)
  by_cases h3:i < s.length
  · have h4:¬ i < 17:=by omega
    have h4':¬ (i:Int) < 17:=by omega
    have h5:¬ s.length≤16:=by omega
    have h6:¬ (s.length:Int)≤16:=by omega
    have h7:1≤(s.length:Int):=by omega
    simp [au vP.eq_1,h1,h3,h4,h4',h5,h6,h7]
  · by_cases h5:s.length≤16 <;> by_cases h6:1≤s.length
    · have h7:(s.length:Int)≤16:=by omega
      have h8:1≤(s.length:Int):=by omega
      simp [au vP.eq_1,h1,h3,h5,h6,h7,h8]
    · have h7:(s.length:Int)≤16:=by omega
      have h8:¬ 1≤(s.length:Int):=by omega
      simp [au vP.eq_1,h1,h3,h5,h6,h7,h8]
    · have h7:¬ (s.length:Int)≤16:=by omega
      have h8:1≤(s.length:Int):=by omega
      simp [au vP.eq_1,h1,h3,h5,h6,h7,h8]
    · omega
 | succ n ih =>
  intro i hi
  have h1:i < s.length:=by omega
  have h2:(i:Int) < 17:=by omega
  have:=ih (i+1) (by omega)
  have hd:(s.take 17).drop i=s[i]::(s.take 17).drop (i+1):=by
   rw [drop_cons (show i < (s.take 17).length by simp;omega)];simp
  rw [hd]
  simp only [D5] at this ⊢;rw [au xZ.eq_1]
  simp at this
  have key:=BU s[i]
  by_cases q1:97≤s[i].toNat <;> by_cases q2:122 < s[i].toNat <;> by_cases q3:48≤s[i].toNat <;> by_cases q4:57 < s[i].toNat <;> first
   | (exfalso;omega)
   | (have c : inN s[i] = true := by rcases key with ⟨c, _⟩ | ⟨_, q⟩ <;> first | exact c | (exfalso; omega)
      simp (disch:=omega) [h1,h2,aN,c,q1,q2,q3,q4,this];done)
   | (have c : inN s[i] = false := by rcases key with ⟨_, q⟩ | ⟨c, _⟩ <;> first | exact c | (exfalso; omega)
      simp (disch:=omega) [h1,h2,aN,c,q1,q2,q3,q4];done)
theorem oK (H:nU C) (s:List UInt8):FnW C 557 [.str s]=some (.bool (isName s)):=by
 rw [aO H.ahk rfl]
 have:=Tv H s (.inr trivial) (min s.length 17) 0 (by simp)
 simp only [D5] at this
 simp only [List.drop_zero] at this
 have e:((s.take 17).all inN&&decide (1≤s.length)&&decide (s.length≤16))=isName s:=by
  unfold isName
  by_cases c:s.length≤16
  · rw [List.take_of_length_le (by omega)];simp [c];rw [Bool.and_comm]
  · simp [c]
 rw [e] at this
 simp at this
 simp [aem,this]
theorem Wj (H:nU C) (s:List UInt8) (hl:s.length≤64):∀ n i,n+i=s.length →
 EY C ⟨[(3,.int .i64 i),(0,.str s)],[],0⟩=some (.bool ((s.drop i).all inT)):=by
 intro n
 induction n with
 | zero =>
  intro i hi
  simp only [EY];rw [au xX.eq_1]
  have h1:s.drop i=[]:=List.drop_eq_nil_of_le (by omega)
  have h3:¬ i < s.length:=by omega
  simp [au JX.eq_1,h1,h3]
 | succ n ih =>
  intro i hi
  have h1:i < s.length:=by omega
  have:=ih (i+1) (by omega)
  simp only [EY] at this ⊢;rw [au xX.eq_1]
  rw [drop_cons h1]
  simp at this
  by_cases c1:32≤s[i].toNat <;> by_cases c2:126 < s[i].toNat
  · have c:inT s[i]=false:=decide_eq_false (fun q=>by omega)
    simp (disch:=omega) [h1,aN,c,c1,c2]
  · have c:inT s[i]=true:=decide_eq_true ⟨c1,by omega⟩
    simp (disch:=omega) [h1,aN,c,c1,c2,this]
  · omega
  · have c:inT s[i]=false:=decide_eq_false (fun q=>c1 q.1)
    simp (disch:=omega) [h1,aN,c,c1,c2]
theorem zi (H:nU C) (s:List UInt8):FnW C 556 [.str s]=some (.bool (isText s)):=by
 rw [aO H.agZ rfl]
 unfold isText
 by_cases c2:s.length≤64
 · have:=Wj H s c2 s.length 0 (by simp)
   simp only [EY] at this
   simp at this
   have c4:¬ (64 < (s.length:Int)):=by omega
   simp [aaI,c2,c4,this]
 · have c4:(64 < (s.length:Int)):=by omega
   simp [aaI,c2,c4]
theorem QI (H:nU C) (s:List UInt8) (hl:s.length≤64):∀ n i,n+i=s.length →
 Eo C ⟨[(3,.int .i64 i),(0,.str s)],[],0⟩=some (.int .i64 (if (s.drop i).all inT=true then 1 else 0)):=by
 intro n
 induction n with
 | zero =>
  intro i hi
  simp only [Eo];rw [au yF.eq_1]
  have h1:s.drop i=[]:=List.drop_eq_nil_of_le (by omega)
  have h3:¬ i < s.length:=by omega
  simp [au JK.eq_1,h1,h3]
 | succ n ih =>
  intro i hi
  have h1:i < s.length:=by omega
  have:=ih (i+1) (by omega)
  simp only [Eo] at this ⊢;rw [au yF.eq_1]
  rw [drop_cons h1]
  generalize hX:((s.drop (i+1)).all inT)=X at *
  simp at this
  rw [List.all_cons,hX]
  by_cases c1:32≤s[i].toNat <;> by_cases c2:126 < s[i].toNat
  · have c:inT s[i]=false:=decide_eq_false (fun q=>by omega)
    simp (disch:=omega) [h1,aN,c,c1,c2]
  · have c:inT s[i]=true:=decide_eq_true ⟨c1,by omega⟩
    simp (disch:=omega) [h1,aN,c,c1,c2,this]
  · omega
  · have c:inT s[i]=false:=decide_eq_false (fun q=>c1 q.1)
    simp (disch:=omega) [h1,aN,c,c1,c2]
theorem abu (H:nU C) (s:List UInt8):FnW C 510 [.str s]=some (.int .i64 (if isText s=true then 1 else 0)):=by
 rw [aO H.agz rfl]
 unfold isText
 by_cases c2:s.length≤64
 · have:=QI H s c2 s.length 0 (by simp)
   simp only [Eo] at this
   simp only [List.drop_zero] at this
   generalize hX:s.all inT=X at *
   simp at this
   have c4:¬ (64 < (s.length:Int)):=by omega
   simp [aaW,c2,c4,this]
 · have c4:(64 < (s.length:Int)):=by omega
   simp [aaW,c2,c4]
structure Pred (C:aJ) (g:Nat) (Q:UInt8→Bool):Prop where
 asc:∀ b:UInt8,b.toNat < 128→FnW C g [.int .i32 b.toNat]=some (.bool (!Q b))
 high:∀ r:Nat,128≤r→FnW C g [.int .i32 r]=some (.bool true)
 qh:∀ b:UInt8,128≤b.toNat→Q b=false
 ne:ppB g=false
 ni:aH g=false
theorem XP (s:List UInt8) (pos:Nat) (h:pos < s.length) (ha:s[pos].toNat < 128):Utf8.decode ⟨⟨s⟩⟩ pos=(s[pos].toNat,1):=decode_ascii ⟨⟨s⟩⟩ pos h ha
theorem aa2 (s:List UInt8) (pos:Nat) (h:pos < s.length) (ha:128≤s[pos].toNat):128≤(Utf8.decode ⟨⟨s⟩⟩ pos).1∧1≤(Utf8.decode ⟨⟨s⟩⟩ pos).2:=decode_high ⟨⟨s⟩⟩ pos h ha
theorem TI (H:nU C) {g:Nat} {Q:UInt8→Bool} (G:Pred C g Q) (s:List UInt8):∀ n pos,n+pos=s.length →
 ∃ v:Int,wI C ⟨[(10,.ptr 0 0 0),(2,.bool true),(1,.fn g [])],[(0,.iter s pos)],1⟩=some (.int .i64 v)∧decide (v < 0)=(s.drop pos).all Q:=by
 intro n
 induction n with
 | zero =>
  intro pos hp
  simp only [wI];rw [au ru.eq_1]
  have h1:s.drop pos=[]:=List.drop_eq_nil_of_le (by omega)
  have h3:¬ pos < s.length:=by omega
  exact ⟨-1,by simp [au MQ.eq_1,h3],by simp [h1]⟩
 | succ n ih =>
  intro pos hp
  have h1:pos < s.length:=by omega
  have hN:=G.ne;have hI:=G.ni
  rw [drop_cons h1]
  by_cases ha:s[pos].toNat < 128
  · have hd:=XP s pos h1 ha
    have hb:=G.asc s[pos] ha
    by_cases c:Q s[pos]=true
    · obtain ⟨v,hv,hq⟩:=ih (pos+1) (by omega)
      refine ⟨v,?_,by simp [hq,c]⟩
      simp only [wI] at hv ⊢;rw [au ru.eq_1]
      simp (disch:=omega) [h1,hd,hb,c,H.inl,hI,H.pp,hN,hv]
    · refine ⟨pos,?_,by simp [c]⟩
      simp only [wI];rw [au ru.eq_1]
      simp (disch:=omega) [h1,hd,hb,c,H.inl,hI,H.pp,hN]
  · have hd:=aa2 s pos h1 (by omega)
    have hb:=G.high (Utf8.decode ⟨⟨s⟩⟩ pos).1 hd.1
    have hq:=G.qh s[pos] (by omega)
    refine ⟨pos,?_,by simp [hq]⟩
    simp only [wI];rw [au ru.eq_1]
    obtain ⟨D,hD⟩:∃ D,Utf8.decode ⟨⟨s⟩⟩ pos=D:=⟨_,rfl⟩
    rw [hD] at hb
    simp (disch:=omega) [h1,hD,hb,H.inl,hI,H.pp,hN]
theorem zK (H:nU C) {g:Nat} {Q:UInt8→Bool} (G:Pred C g Q) (s:List UInt8) :
 ∃ v:Int,FnW C 543 [.str s,.fn g []]=some (.int .i64 v)∧decide (v < 0)=s.all Q:=by
 obtain ⟨v,h,q⟩:=TI H G s s.length 0 (by simp)
 refine ⟨v,?_,q⟩
 have h2:FnW C 578 [.str s,.fn g [],.bool true]=some (.int .i64 v):=by
  rw [aO H.aho rfl]
  simp only [wI] at h
  simp [ae5,h]
 rw [aO H.ag5 rfl]
 simp [adO,H.inl,aH,H.pp,ppB,h2]
theorem CZ (H:nU C) {g:Nat} {Q:UInt8→Bool} (G:Pred C g Q) (s:List UInt8) :
 FnW C 495 [.str s,.fn g []]=some (.bool (!s.all Q)):=by
 obtain ⟨v,h,q⟩:=zK H G s
 rw [aO H.aii rfl,← q]
 by_cases c:v < 0
 · have c':¬ 0≤v:=by omega
   simp [aaH,H.inl,aH,H.pp,ppB,h,c,c']
 · have c':0≤v:=by omega
   simp [aaH,H.inl,aH,H.pp,ppB,h,c,c']
theorem aeL (H:nU C):Pred C 560 inT where
 asc b hb:=by
  rw [aO H.ae3 rfl]
  by_cases c1:32≤b.toNat <;> by_cases c2:126 < b.toNat
  · have c:inT b=false:=decide_eq_false (fun q=>by omega)
    simp [TY,c,c1,c2]
  · have c:inT b=true:=decide_eq_true ⟨c1,by omega⟩
    simp [TY,c,c1,c2]
  · omega
  · have c:inT b=false:=decide_eq_false (fun q=>c1 q.1)
    simp [TY,c,c1,c2]
 high r hr:=by
  rw [aO H.ae3 rfl]
  have h1:32≤r:=by omega
  have h2:126 < r:=by omega
  simp [TY,h1,h2]
 qh b hb:=decide_eq_false (fun q=>by omega)
 ne:=by rfl
 ni:=by rfl
theorem aeU (H:nU C):Pred C 545 inN where
 asc b hb:=by
  rw [aO H.aeh rfl]
  have key:=BU b
  by_cases q1:97≤b.toNat <;> by_cases q2:122 < b.toNat <;> by_cases q3:48≤b.toNat <;> by_cases q4:57 < b.toNat <;> first
   | (exfalso;omega)
   | (have c : inN b = true := by rcases key with ⟨c, _⟩ | ⟨_, q⟩ <;> first | exact c | (exfalso; omega)
      simp [XD,c,q1,q2,q3,q4];done)
   | (have c : inN b = false := by rcases key with ⟨_, q⟩ | ⟨c, _⟩ <;> first | exact c | (exfalso; omega)
      simp [XD,c,q1,q2,q3,q4];done)
 high r hr:=by
  rw [aO H.aeh rfl]
  have h1:97≤r:=by omega
  have h2:122 < r:=by omega
  have h3:48≤r:=by omega
  have h4:57 < r:=by omega
  simp [XD,h1,h2,h3,h4]
 qh b hb:=by unfold inN;exact decide_eq_false (fun q=>by omega)
 ne:=by rfl
 ni:=by rfl
theorem Vu (H:nU C) (s:List UInt8):FnW C 516 [.str s]=some (.bool (isText s)):=by
 obtain ⟨v,h,q⟩:=zK H (aeL H) s
 rw [aO H.ag0 rfl]
 unfold isText
 rw [← q]
 by_cases c2:s.length≤64
 · have c4:(s.length:Int)≤64:=by omega
   simp [aa4,c2,c4,H.inl,aH,H.pp,ppB,h]
 · have c4:¬ ((s.length:Int)≤64):=by omega
   simp [aa4,c2,c4]
theorem ZT (H:nU C) (s:List UInt8):FnW C 500 [.str s]=some (.bool (isName s)):=by
 have h:=CZ H (aeU H) s
 rw [aO H.agu rfl]
 unfold isName
 by_cases c1:s=[]
 · subst c1;simp [V8]
 · have c3:1≤s.length:=List.length_pos_iff.2 c1
   by_cases c2:s.length≤16
   · have c4:(s.length:Int)≤16:=by omega
     simp [V8,c1,c2,c3,c4,H.inl,aH,H.pp,ppB,h]
   · have c4:¬ ((s.length:Int)≤16):=by omega
     simp [V8,c1,c2,c4]
end Go.D
end
section
namespace Go.Pav
open Go
def Jw (ids:List (Nat × Nat)) (f:FuncId):Option Nat :=
 match ids with
 | []=>none
 | (g,k)::r=>if k=f then some g else Jw r f
def Gm (ids:List (Nat × Nat)) (g:Nat):FuncId :=
 match get ids g with
 | some k=>k
 | none=>0
theorem X3:∀ {ids:List (Nat × Nat)} {f:FuncId} {g:Nat},Jw ids f=some g→(g,f) ∈ ids:=by
 intro ids
 induction ids with
 | nil=>intro f g h;simp [Jw] at h
 | cons x r ih =>
  intro f g h
  obtain ⟨a,k⟩:=x
  simp only [Jw] at h
  split at h
  · rename_i hk
    cases h;subst hk;exact List.mem_cons_self
  · exact List.mem_cons_of_mem _ (ih h)
theorem ac8 {ids:List (Nat × Nat)} (hc:(ids.all fun x=>decide (Gm ids x.1=x.2))=true):∀ f g,Jw ids f=some g→Gm ids g=f:=by
 intro f g h
 have:=List.all_eq_true.1 hc _ (X3 h)
 simpa using this
def wL (p:Nat→CFn→Prop):Tree→Prop
 | .leaf=>True
 | .node l k f r=>wL p l∧p k f∧wL p r
theorem wL.get {p:Nat→CFn→Prop}:∀ {t:Tree},wL p t→∀ {g:Nat} {cf:CFn},t.get g=some cf→p g cf:=by
 intro t
 induction t with
 | leaf=>intro _ g cf h;simp [Tree.get] at h
 | node l k f r ihl ihr =>
  intro ⟨h1,h2,h3⟩ g cf h
  simp only [Tree.get] at h
  split at h
  · rename_i hk;cases h;subst hk;exact h2
  · split at h
    · exact ihl h1 h
    · exact ihr h3 h
def P6:List (Nat × FuncId × Nat)→Nat→FuncId→Option Nat
 | [],_,_=>none
 | (g,f,k)::r,g',f'=>if g=g'∧f=f' then some k else P6 r g' f'
theorem XV:∀ {alts:List (Nat × FuncId × Nat)} {g:Nat} {f:FuncId} {k:Nat},P6 alts g f=some k→(g,f,k) ∈ alts:=by
 intro alts
 induction alts with
 | nil=>intro g f k h;simp [P6] at h
 | cons x r ih =>
  intro g f k h
  obtain ⟨a,b,c⟩:=x
  simp only [P6] at h
  split at h
  · rename_i hk
    obtain ⟨rfl,rfl⟩:=hk
    cases h;exact List.mem_cons_self
  · exact List.mem_cons_of_mem _ (ih h)
def acT (ids:List (Nat × Nat)) (alts:List (Nat × FuncId × Nat)) (g:Nat) (f:FuncId):Option Nat :=
 match P6 alts g f with
 | some k=>some k
 | none=>Jw ids f
def bf (P:Program) (ids:List (Nat × Nat)) (alts:List (Nat × FuncId × Nat)) (g:Nat) (cf:CFn):Prop:=∃ fn,P.funcs[Gm ids g]?=some fn∧(cFn P (acT ids alts g) fn).map F9=some (F9 cf)
theorem linked {P:Program} {ids:List (Nat × Nat)} {alts:List (Nat × FuncId × Nat)} {C:Prog} (hc:(ids.all fun x=>decide (Gm ids x.1=x.2))=true) (ha:(alts.all fun x=>decide (Gm ids x.2.2=x.2.1))=true)
 (ht:wL (bf P ids alts) C.fns) (hm:P.follows .mixedOrders=true):Linked P (acT ids alts) (Gm ids) C:=by
 refine ⟨fun g f k h=>?_,fun _ _ h=>ht.get h,hm⟩
 unfold acT at h
 split at h
 · rename_i k' hk
   cases h
   simpa using List.all_eq_true.1 ha _ (XV hk)
 · exact ac8 hc _ _ h
end Go.Pav
end
section
set_option maxRecDepth 100000
namespace P
open Go Go.Pav Go.Pw Go.Proofs
theorem l0:bf Tryz.prog ids alts 0 (aY w0):=⟨Tryz.f2,Tryz.func2,by kernel_rfl⟩
theorem aoP:bf Tryz.prog ids alts 111 (aY adV):=⟨Tryz.f77,Tryz.func77,by kernel_rfl⟩
theorem an1:bf Tryz.prog ids alts 115 (aY KE):=⟨Tryz.f101,Tryz.func101,by kernel_rfl⟩
theorem anz:bf Tryz.prog ids alts 126 (aY ac7):=⟨Tryz.f72,Tryz.func72,by kernel_rfl⟩
theorem apd:bf Tryz.prog ids alts 130 (aY ad1):=⟨Tryz.f27,Tryz.func27,by kernel_rfl⟩
theorem am7:bf Tryz.prog ids alts 138 (aY akk):=⟨Tryz.f24,Tryz.func24,by kernel_rfl⟩
theorem ank:bf Tryz.prog ids alts 139 (aY aj7):=⟨Tryz.f13,Tryz.func13,by kernel_rfl⟩
theorem aoC:bf Tryz.prog ids alts 140 (aY aeY):=⟨Tryz.f25,Tryz.func25,by kernel_rfl⟩
theorem aoj:bf Tryz.prog ids alts 141 (aY adM):=⟨Tryz.f3,Tryz.func3,by kernel_rfl⟩
theorem aok:bf Tryz.prog ids alts 145 (aY akp):=⟨Tryz.f19,Tryz.func19,by kernel_rfl⟩
theorem anM:bf Tryz.prog ids alts 223 (aY XZ):=⟨Tryz.f48,Tryz.func48,by kernel_rfl⟩
theorem aoT:bf Tryz.prog ids alts 225 (aY ae2):=⟨Tryz.f104,Tryz.func104,by kernel_rfl⟩
theorem amk:bf Tryz.prog ids alts 227 (aY aeT):=⟨Tryz.f105,Tryz.func105,by kernel_rfl⟩
theorem an0:bf Tryz.prog ids alts 230 (aY VZ):=⟨Tryz.f149,Tryz.func149,by kernel_rfl⟩
theorem am8:bf Tryz.prog ids alts 231 (aY abg):=⟨Tryz.f150,Tryz.func150,by kernel_rfl⟩
theorem aoe:bf Tryz.prog ids alts 232 (aY WX):=⟨Tryz.f110,Tryz.func110,by kernel_rfl⟩
theorem l238:bf Tryz.prog ids alts 238 (aY aeI):=⟨Tryz.f107,Tryz.func107,by kernel_rfl⟩
theorem amL:bf Tryz.prog ids alts 240 (aY aco):=⟨Tryz.f75,Tryz.func75,by kernel_rfl⟩
theorem apc:bf Tryz.prog ids alts 270 (aY adT):=⟨Tryz.f73,Tryz.func73,by kernel_rfl⟩
theorem an7:bf Tryz.prog ids alts 271 (aY Rt):=⟨Tryz.f74,Tryz.func74,by kernel_rfl⟩
theorem apb:bf Tryz.prog ids alts 277 (aY acI):=⟨Tryz.f53,Tryz.func53,by kernel_rfl⟩
theorem an9:bf Tryz.prog ids alts 278 (aY acz):=⟨Tryz.f16,Tryz.func16,by kernel_rfl⟩
theorem am6:bf Tryz.prog ids alts 279 (aY ad7):=⟨Tryz.f49,Tryz.func49,by kernel_rfl⟩
theorem anA:bf Tryz.prog ids alts 280 (aY Xl):=⟨Tryz.f50,Tryz.func50,by kernel_rfl⟩
theorem am2:bf Tryz.prog ids alts 281 (aY adD):=⟨Tryz.f51,Tryz.func51,by kernel_rfl⟩
theorem anH:bf Tryz.prog ids alts 282 (aY ad5):=⟨Tryz.f66,Tryz.func66,by kernel_rfl⟩
theorem an2:bf Tryz.prog ids alts 283 (aY acg):=⟨Tryz.f10,Tryz.func10,by kernel_rfl⟩
theorem amR:bf Tryz.prog ids alts 284 (aY adx):=⟨Tryz.f11,Tryz.func11,by kernel_rfl⟩
theorem aml:bf Tryz.prog ids alts 285 (aY Tt):=⟨Tryz.f12,Tryz.func12,by kernel_rfl⟩
theorem anG:bf Tryz.prog ids alts 286 (aY WE):=⟨Tryz.f14,Tryz.func14,by kernel_rfl⟩
theorem amH:bf Tryz.prog ids alts 287 (aY aeG):=⟨Tryz.f15,Tryz.func15,by kernel_rfl⟩
theorem amU:bf Tryz.prog ids alts 288 (aY acN):=⟨Tryz.f17,Tryz.func17,by kernel_rfl⟩
theorem aoB:bf Tryz.prog ids alts 289 (aY ZY):=⟨Tryz.f18,Tryz.func18,by kernel_rfl⟩
theorem an8:bf Tryz.prog ids alts 290 (aY akx):=⟨Tryz.f20,Tryz.func20,by kernel_rfl⟩
theorem aoZ:bf Tryz.prog ids alts 293 (aY QZ):=⟨Tryz.f43,Tryz.func43,by kernel_rfl⟩
theorem aos:bf Tryz.prog ids alts 296 (aY Ls):=⟨Tryz.f42,Tryz.func42,by kernel_rfl⟩
theorem anm:bf Tryz.prog ids alts 297 (aY ZQ):=⟨Tryz.f23,Tryz.func23,by kernel_rfl⟩
theorem an3:bf Tryz.prog ids alts 299 (aY ab3):=⟨Tryz.f46,Tryz.func46,by kernel_rfl⟩
theorem ape:bf Tryz.prog ids alts 301 (aY ajr):=⟨Tryz.f59,Tryz.func59,by kernel_rfl⟩
theorem anF:bf Tryz.prog ids alts 302 (aY ajs):=⟨Tryz.f60,Tryz.func60,by kernel_rfl⟩
theorem amy:bf Tryz.prog ids alts 398 (aY Rh):=⟨Tryz.f102,Tryz.func102,by kernel_rfl⟩
theorem aoy:bf Tryz.prog ids alts 399 (aY acv):=⟨Tryz.f103,Tryz.func103,by kernel_rfl⟩
theorem amV:bf Tryz.prog ids alts 400 (aY Zi):=⟨Tryz.f174,Tryz.func174,by kernel_rfl⟩
theorem anK:bf Tryz.prog ids alts 404 (aY ae4):=⟨Tryz.f192,Tryz.func192,by kernel_rfl⟩
theorem aoX:bf Tryz.prog ids alts 405 (aY Ye):=⟨Tryz.f159,Tryz.func159,by kernel_rfl⟩
theorem anq:bf Tryz.prog ids alts 408 (aY abD):=⟨Tryz.f146,Tryz.func146,by kernel_rfl⟩
theorem an6:bf Tryz.prog ids alts 415 (aY Ig):=⟨Tryz.f108,Tryz.func108,by kernel_rfl⟩
theorem aoD:bf Tryz.prog ids alts 417 (aY adF):=⟨Tryz.f45,Tryz.func45,by kernel_rfl⟩
theorem aot:bf Tryz.prog ids alts 422 (aY Hg):=⟨Tryz.f124,Tryz.func124,by kernel_rfl⟩
theorem aoQ:bf Tryz.prog ids alts 423 (aY ac6):=⟨Tryz.f125,Tryz.func125,by kernel_rfl⟩
theorem aou:bf Tryz.prog ids alts 424 (aY OM):=⟨Tryz.f126,Tryz.func126,by kernel_rfl⟩
theorem anS:bf Tryz.prog ids alts 425 (aY Io):=⟨Tryz.f100,Tryz.func100,by kernel_rfl⟩
theorem amA:bf Tryz.prog ids alts 427 (aY aef):=⟨Tryz.f109,Tryz.func109,by kernel_rfl⟩
theorem aoV:bf Tryz.prog ids alts 428 (aY acA):=⟨Tryz.f54,Tryz.func54,by kernel_rfl⟩
theorem aom:bf Tryz.prog ids alts 429 (aY adL):=⟨Tryz.f55,Tryz.func55,by kernel_rfl⟩
theorem aoH:bf Tryz.prog ids alts 430 (aY ab9):=⟨Tryz.f56,Tryz.func56,by kernel_rfl⟩
theorem amE:bf Tryz.prog ids alts 431 (aY RF):=⟨Tryz.f106,Tryz.func106,by kernel_rfl⟩
theorem anx:bf Tryz.prog ids alts 432 (aY ai1):=⟨Tryz.f61,Tryz.func61,by kernel_rfl⟩
theorem aoA:bf Tryz.prog ids alts 433 (aY Ht):=⟨Tryz.f117,Tryz.func117,by kernel_rfl⟩
theorem anB:bf Tryz.prog ids alts 434 (aY wQ):=⟨Tryz.f118,Tryz.func118,by kernel_rfl⟩
theorem aoK:bf Tryz.prog ids alts 435 (aY ab4):=⟨Tryz.f44,Tryz.func44,by kernel_rfl⟩
theorem ant:bf Tryz.prog ids alts 436 (aY adU):=⟨Tryz.f47,Tryz.func47,by kernel_rfl⟩
theorem amT:bf Tryz.prog ids alts 437 (aY YO):=⟨Tryz.f52,Tryz.func52,by kernel_rfl⟩
theorem anT:bf Tryz.prog ids alts 438 (aY Mc):=⟨Tryz.f57,Tryz.func57,by kernel_rfl⟩
theorem ang:bf Tryz.prog ids alts 439 (aY aaf):=⟨Tryz.f58,Tryz.func58,by kernel_rfl⟩
theorem amq:bf Tryz.prog ids alts 441 (aY aa7):=⟨Tryz.f64,Tryz.func64,by kernel_rfl⟩
theorem anf:bf Tryz.prog ids alts 442 (aY Y5):=⟨Tryz.f65,Tryz.func65,by kernel_rfl⟩
theorem aoJ:bf Tryz.prog ids alts 494 (aY aaq):=⟨Tryz.f151,Tryz.func151,by kernel_rfl⟩
theorem aoa:bf Tryz.prog ids alts 495 (aY aaH):=⟨Tryz.f152,Tryz.func152,by kernel_rfl⟩
theorem ana:bf Tryz.prog ids alts 496 (aY RG):=⟨Tryz.f153,Tryz.func153,by kernel_rfl⟩
theorem ao7:bf Tryz.prog ids alts 497 (aY Zx):=⟨Tryz.f154,Tryz.func154,by kernel_rfl⟩
theorem amm:bf Tryz.prog ids alts 498 (aY YQ):=⟨Tryz.f155,Tryz.func155,by kernel_rfl⟩
theorem aoO:bf Tryz.prog ids alts 499 (aY acs):=⟨Tryz.f156,Tryz.func156,by kernel_rfl⟩
theorem anD:bf Tryz.prog ids alts 500 (aY V8):=⟨Tryz.f157,Tryz.func157,by kernel_rfl⟩
theorem ao5:bf Tryz.prog ids alts 501 (aY Ii):=⟨Tryz.f158,Tryz.func158,by kernel_rfl⟩
theorem anu:bf Tryz.prog ids alts 502 (aY aaZ):=⟨Tryz.f211,Tryz.func211,by kernel_rfl⟩
theorem amQ:bf Tryz.prog ids alts 503 (aY acW):=⟨Tryz.f212,Tryz.func212,by kernel_rfl⟩
theorem anw:bf Tryz.prog ids alts 505 (aY Xm):=⟨Tryz.f187,Tryz.func187,by kernel_rfl⟩
theorem amr:bf Tryz.prog ids alts 507 (aY aex):=⟨Tryz.f160,Tryz.func160,by kernel_rfl⟩
theorem anv:bf Tryz.prog ids alts 510 (aY aaW):=⟨Tryz.f169,Tryz.func169,by kernel_rfl⟩
theorem amu:bf Tryz.prog ids alts 511 (aY XQ):=⟨Tryz.f170,Tryz.func170,by kernel_rfl⟩
theorem aoI:bf Tryz.prog ids alts 512 (aY Ue):=⟨Tryz.f147,Tryz.func147,by kernel_rfl⟩
theorem aov:bf Tryz.prog ids alts 513 (aY QA):=⟨Tryz.f148,Tryz.func148,by kernel_rfl⟩
theorem anQ:bf Tryz.prog ids alts 514 (aY aeA):=⟨Tryz.f111,Tryz.func111,by kernel_rfl⟩
theorem aoL:bf Tryz.prog ids alts 515 (aY akw):=⟨Tryz.f112,Tryz.func112,by kernel_rfl⟩
theorem am5:bf Tryz.prog ids alts 516 (aY aa4):=⟨Tryz.f164,Tryz.func164,by kernel_rfl⟩
theorem apa:bf Tryz.prog ids alts 517 (aY WH):=⟨Tryz.f165,Tryz.func165,by kernel_rfl⟩
theorem amC:bf Tryz.prog ids alts 518 (aY aap):=⟨Tryz.f166,Tryz.func166,by kernel_rfl⟩
theorem aoM:bf Tryz.prog ids alts 519 (aY aaJ):=⟨Tryz.f167,Tryz.func167,by kernel_rfl⟩
theorem aog:bf Tryz.prog ids alts 520 (aY XB):=⟨Tryz.f116,Tryz.func116,by kernel_rfl⟩
theorem amD:bf Tryz.prog ids alts 543 (aY adO):=⟨Tryz.f193,Tryz.func193,by kernel_rfl⟩
theorem aox:bf Tryz.prog ids alts 544 (aY aeN):=⟨Tryz.f194,Tryz.func194,by kernel_rfl⟩
theorem aoq:bf Tryz.prog ids alts 545 (aY XD):=⟨Tryz.f195,Tryz.func195,by kernel_rfl⟩
theorem anZ:bf Tryz.prog ids alts 546 (aY QX):=⟨Tryz.f196,Tryz.func196,by kernel_rfl⟩
theorem aoc:bf Tryz.prog ids alts 547 (aY adN):=⟨Tryz.f197,Tryz.func197,by kernel_rfl⟩
theorem amv:bf Tryz.prog ids alts 548 (aY SS):=⟨Tryz.f224,Tryz.func224,by kernel_rfl⟩
theorem ao9:bf Tryz.prog ids alts 549 (aY iI):=⟨Tryz.f225,Tryz.func225,by kernel_rfl⟩
theorem aoz:bf Tryz.prog ids alts 550 (aY WM):=⟨Tryz.f210,Tryz.func210,by kernel_rfl⟩
theorem aoi:bf Tryz.prog ids alts 553 (aY aej):=⟨Tryz.f198,Tryz.func198,by kernel_rfl⟩
theorem aor:bf Tryz.prog ids alts 554 (aY abJ):=⟨Tryz.f199,Tryz.func199,by kernel_rfl⟩
theorem anj:bf Tryz.prog ids alts 556 (aY aaI):=⟨Tryz.f188,Tryz.func188,by kernel_rfl⟩
theorem amG:bf Tryz.prog ids alts 557 (aY aem):=⟨Tryz.f189,Tryz.func189,by kernel_rfl⟩
theorem aoR:bf Tryz.prog ids alts 558 (aY YL):=⟨Tryz.f190,Tryz.func190,by kernel_rfl⟩
theorem an5:bf Tryz.prog ids alts 559 (aY acO):=⟨Tryz.f191,Tryz.func191,by kernel_rfl⟩
theorem amN:bf Tryz.prog ids alts 560 (aY TY):=⟨Tryz.f200,Tryz.func200,by kernel_rfl⟩
theorem anU:bf Tryz.prog ids alts 561 (aY ac9):=⟨Tryz.f201,Tryz.func201,by kernel_rfl⟩
theorem ane:bf Tryz.prog ids alts 562 (aY adl):=⟨Tryz.f202,Tryz.func202,by kernel_rfl⟩
theorem anJ:bf Tryz.prog ids alts 563 (aY wV):=⟨Tryz.f163,Tryz.func163,by kernel_rfl⟩
theorem anC:bf Tryz.prog ids alts 578 (aY ae5):=⟨Tryz.f213,Tryz.func213,by kernel_rfl⟩
theorem amS:bf Tryz.prog ids alts 579 (aY acn):=⟨Tryz.f214,Tryz.func214,by kernel_rfl⟩
theorem ao8:bf Tryz.prog ids alts 580 (aY aep):=⟨Tryz.f215,Tryz.func215,by kernel_rfl⟩
theorem am9:bf Tryz.prog ids alts 581 (aY aeo):=⟨Tryz.f216,Tryz.func216,by kernel_rfl⟩
theorem amX:bf Tryz.prog ids alts 582 (aY adh):=⟨Tryz.f217,Tryz.func217,by kernel_rfl⟩
theorem anI:bf Tryz.prog ids alts 583 (aY adH):=⟨Tryz.f218,Tryz.func218,by kernel_rfl⟩
theorem aoW:bf Tryz.prog ids alts 584 (aY adR):=⟨Tryz.f219,Tryz.func219,by kernel_rfl⟩
theorem anY:bf Tryz.prog ids alts 585 (aY Zk):=⟨Tryz.f229,Tryz.func229,by kernel_rfl⟩
theorem ao2:bf Tryz.prog ids alts 586 (aY lD):=⟨Tryz.f223,Tryz.func223,by kernel_rfl⟩
theorem amW:bf Tryz.prog ids alts 592 (aY YD):=⟨Tryz.f226,Tryz.func226,by kernel_rfl⟩
theorem ano:bf Tryz.prog ids alts 593 (aY adA):=⟨Tryz.f227,Tryz.func227,by kernel_rfl⟩
theorem aoo:bf Tryz.prog ids alts 594 (aY abT):=⟨Tryz.f228,Tryz.func228,by kernel_rfl⟩
theorem ajv:bf Tryz.prog ids alts 3008 (aY adD):=⟨Tryz.f51,Tryz.func51,by kernel_rfl⟩
theorem ajn:bf Tryz.prog ids alts 3009 (aY RF):=⟨Tryz.f106,Tryz.func106,by kernel_rfl⟩
theorem ai4:bf Tryz.prog ids alts 2031 (aY QZ):=⟨Tryz.f43,Tryz.func43,by kernel_rfl⟩
theorem ajb:bf Tryz.prog ids alts 5036 (aY Uz):=⟨Tryz.f160,Tryz.func160,by kernel_rfl⟩
theorem ajw:bf Tryz.prog ids alts 5035 (aY U8):=⟨Tryz.f112,Tryz.func112,by kernel_rfl⟩
theorem ajD:bf Tryz.prog ids alts 5034 (aY Pg):=⟨Tryz.f61,Tryz.func61,by kernel_rfl⟩
theorem aku:bf Tryz.prog ids alts 5033 (aY QB):=⟨Tryz.f51,Tryz.func51,by kernel_rfl⟩
theorem akg:bf Tryz.prog ids alts 5032 (aY Vl):=⟨Tryz.f13,Tryz.func13,by kernel_rfl⟩
def prog:aJ:=⟨tree,Go.D.aH,Go.D.ppB⟩
theorem all:wL (bf Tryz.prog ids alts) (fD prog).fns:=⟨⟨⟨⟨⟨⟨⟨⟨trivial,l0,trivial⟩,aoP,trivial⟩,an1,⟨trivial,anz,trivial⟩⟩,apd,⟨⟨trivial,am7,trivial⟩,ank,⟨trivial,aoC,trivial⟩⟩⟩,aoj,⟨⟨⟨trivial,aok,trivial⟩,anM,⟨trivial,aoT,trivial⟩⟩,amk,⟨⟨trivial,an0,trivial⟩,am8,⟨trivial,aoe,trivial⟩⟩⟩⟩,l238,⟨⟨⟨⟨trivial,amL,trivial⟩,apc,⟨trivial,an7,trivial⟩⟩,apb,⟨⟨trivial,an9,trivial⟩,am6,⟨trivial,anA,trivial⟩⟩⟩,am2,⟨⟨⟨trivial,anH,trivial⟩,an2,⟨trivial,amR,trivial⟩⟩,aml,⟨⟨trivial,anG,trivial⟩,amH,⟨trivial,amU,trivial⟩⟩⟩⟩⟩,aoB,⟨⟨⟨⟨⟨trivial,an8,trivial⟩,aoZ,⟨trivial,aos,trivial⟩⟩,anm,⟨⟨trivial,an3,trivial⟩,ape,⟨trivial,anF,trivial⟩⟩⟩,amy,⟨⟨⟨trivial,aoy,trivial⟩,amV,⟨trivial,anK,trivial⟩⟩,aoX,⟨⟨trivial,anq,trivial⟩,an6,⟨trivial,aoD,trivial⟩⟩⟩⟩,aot,⟨⟨⟨⟨trivial,aoQ,trivial⟩,aou,⟨trivial,anS,trivial⟩⟩,amA,⟨⟨trivial,aoV,trivial⟩,aom,⟨trivial,aoH,trivial⟩⟩⟩,amE,⟨⟨⟨trivial,anx,trivial⟩,aoA,⟨trivial,anB,trivial⟩⟩,aoK,⟨⟨trivial,ant,trivial⟩,amT,⟨trivial,anT,trivial⟩⟩⟩⟩⟩⟩,ang,⟨⟨⟨⟨⟨⟨trivial,amq,trivial⟩,anf,⟨trivial,aoJ,trivial⟩⟩,aoa,⟨⟨trivial,ana,trivial⟩,ao7,⟨trivial,amm,trivial⟩⟩⟩,aoO,⟨⟨⟨trivial,anD,trivial⟩,ao5,⟨trivial,anu,trivial⟩⟩,amQ,⟨⟨trivial,anw,trivial⟩,amr,⟨trivial,anv,trivial⟩⟩⟩⟩,amu,⟨⟨⟨⟨trivial,aoI,trivial⟩,aov,⟨trivial,anQ,trivial⟩⟩,aoL,⟨⟨trivial,am5,trivial⟩,apa,⟨trivial,amC,trivial⟩⟩⟩,aoM,⟨⟨⟨trivial,aog,trivial⟩,amD,⟨trivial,aox,trivial⟩⟩,aoq,⟨⟨trivial,anZ,trivial⟩,aoc,⟨trivial,amv,trivial⟩⟩⟩⟩⟩,ao9,⟨⟨⟨⟨⟨trivial,aoz,trivial⟩,aoi,⟨trivial,aor,trivial⟩⟩,anj,⟨⟨trivial,amG,trivial⟩,aoR,⟨trivial,an5,trivial⟩⟩⟩,amN,⟨⟨⟨trivial,anU,trivial⟩,ane,⟨trivial,anJ,trivial⟩⟩,anC,⟨⟨trivial,amS,trivial⟩,ao8,⟨trivial,am9,trivial⟩⟩⟩⟩,amX,⟨⟨⟨⟨trivial,anI,trivial⟩,aoW,⟨trivial,anY,trivial⟩⟩,ao2,⟨⟨trivial,amW,trivial⟩,ano,⟨trivial,aoo,trivial⟩⟩⟩,ai4,⟨⟨⟨trivial,ajv,trivial⟩,ajn,⟨trivial,akg,trivial⟩⟩,aku,⟨⟨trivial,ajD,trivial⟩,ajw,⟨trivial,ajb,trivial⟩⟩⟩⟩⟩⟩⟩
theorem okT:rM prog.fns=true:=by kernel_rfl
theorem link:Linked Tryz.prog (acT ids alts) (Gm ids) (fD prog):=linked (by kernel_rfl) (by kernel_rfl) all (by kernel_rfl)
end P
end
section
namespace Go.Pw
open Go Go.Pav
inductive CT where
 | bool
 | int (k:IntKind)
 | str
 | slice (ts:List CT)
inductive Ty:CT→AV→Prop
 | bool (b:Bool):Ty .bool (.bool b)
 | int (k:IntKind) (n:Int) (h1:k.min≤n) (h2:n≤k.max):Ty (.int k) (.int k n)
 | str (s:List UInt8) (h:s.length < 2 ^ 63):Ty .str (.str s)
 | slice (ts:List CT) (es:List (List AV)) (ex:Bool) (hn:es.length < 2 ^ 63) (hw:∀ (i:Nat) (e:List AV),es[i]?=some e→e.length=ts.length)
  (h:∀ (i:Nat) (e:List AV) (j:Nat) (ct:CT) (x:AV),es[i]?=some e→ts[j]?=some ct→e[j]?=some x→Ty ct x):Ty (.slice ts) (.ro ts.length es ex)
theorem Ty.isC {ct:CT} {a:AV} (h:Ty ct a):Pw.isC a=true:=by cases h <;> rfl
def zG (F:TypeId→Option (List CT)) (P:Program):List Field→Nat→Option (List CT)
 | [],_=>some []
 | f::r,off=>(F f.type).bind fun ts=>if f.offset=off∧ts.length=P.cellsOf f.type then (zG F P r (off+ts.length)).map (ts++·) else none
def tq (P:Program):Nat→TypeId→Option (List CT)
 | 0,_=>none
 | n+1,t=>match P.underlying t with
  | some .bool=>some [.bool]
  | some (.int k)=>some [.int k]
  | some .string=>some [.str]
  | some (.slice e)=>(tq P n e).bind fun ts=>if ts.length=P.cellsOf e∧0 < ts.length then some [.slice ts] else none
  | some (.struct fs)=>(zG (tq P n) P fs.toList 0).bind fun ts=>if ts.length=P.cellsOf t then some ts else none
  | some (.array m e)=>(tq P n e).bind fun ts=>if ts.length=P.cellsOf e∧m * ts.length=P.cellsOf t then some (List.replicate m ts).flatten else none
  | _=>none
theorem CY {α:Type} (ts:List α):∀ (m j:Nat),j < m * ts.length→(List.replicate m ts).flatten[j]?=ts[j % ts.length]?
 | 0,j,h=>by simp at h
 | m+1,j,h=>by
  rw [List.replicate_succ,List.flatten_cons]
  rcases Nat.lt_or_ge j ts.length with hl | hl
  · rw [List.getElem?_append_left hl,Nat.mod_eq_of_lt hl]
  · rw [List.getElem?_append_right hl,CY ts m (j - ts.length) (by rw [Nat.add_mul] at h;omega),Nat.mod_eq_sub_mod hl]
theorem trod_array {H:Type} {enc:TypeId × Value→H} {P:Program} {w:World} {base:Nat} {spare:Nat→Bool} {held:Bool} {fuel:Nat} {t:TypeId} {cs:List Value} {x:DataW H × List MemPlace} {m:Nat} {e:TypeId}
 (ht:P.underlying t=some (.array m e)) (h:DataW.trod enc P w base spare held fuel t cs=some x) :
 ∃ (xs:List (DataW H × List MemPlace)) (n:Nat),fuel=n+1∧cs.length=P.cellsOf t∧xs.length=m ∧
  ∀ i,i < m→DataW.trod enc P w base spare held n e ((cs.drop (i * P.cellsOf e)).take (P.cellsOf e))=xs[i]?:=by
 cases fuel with
 | zero=>simp [DataW.trod] at h
 | succ n =>
  unfold DataW.trod at h
  rw [ht] at h
  split at h <;> simp_all
  obtain ⟨hl,xs,hp,hd⟩:=h
  exact ⟨xs,by simpa using mapM_some_length hp,fun i hi=>mapM_some_get hp i i (List.getElem?_range hi)⟩
def FY (ψ:Nat→FuncId) (W:World) (ct:CT) (v:Value):Prop :=
 ∃ a a',Ty ct a∧VD id (fun _=>False) a a'∧a'.cell=true∧VR ψ W (fun c=>c < W.heap.size) (fun _=>(0,0)) (fun _=>False) a' v
section
variable {H:Type} {enc:TypeId × Value→H} {P:Program} {W:World} {ψ:Nat→FuncId}
theorem OB {F:TypeId→Option (List CT)} {n:Nat} {cs:List Value}
 (hF:∀ t cs x ts,F t=some ts→DataW.trod enc P W 0 (fun _=>true) true n t cs=some x→cs.length=ts.length∧∀ (j:Nat) (ct:CT),ts[j]?=some ct→∃ v,cs[j]?=some v∧FY ψ W ct v) :
 ∀ (fs:List Field) (off:Nat) (ts:List CT),zG F P fs off=some ts→(∀ f ∈ fs,∃ x,DataW.trod enc P W 0 (fun _=>true) true n f.type ((cs.drop f.offset).take (P.cellsOf f.type))=some x) →
  ∀ (j:Nat) (ct:CT),ts[j]?=some ct→∃ v,cs[off+j]?=some v∧FY ψ W ct v:=by
 intro fs
 induction fs with
 | nil=>intro off ts h _ j ct hj;simp only [zG,Option.some.injEq] at h;subst h;simp at hj
 | cons f r ih =>
  intro off ts h hx j ct hj
  simp only [zG,Option.bind_eq_some_iff] at h
  obtain ⟨t1,h1,h⟩:=h
  split at h
  · rename_i hc
    simp only [Option.map_eq_some_iff] at h
    obtain ⟨t2,h2,rfl⟩:=h
    rcases Nat.lt_or_ge j t1.length with hl | hl
    · rw [List.getElem?_append_left hl] at hj
      obtain ⟨x,q⟩:=hx f (by simp)
      obtain ⟨v,q1,q2⟩:=(hF _ _ _ _ h1 q).2 j ct hj
      refine ⟨v,?_,q2⟩
      rw [List.getElem?_take] at q1
      split at q1
      · rw [List.getElem?_drop] at q1;rw [← hc.1];exact q1
      · cases q1
    · rw [List.getElem?_append_right hl] at hj
      obtain ⟨v,q1,q2⟩:=ih _ _ h2 (fun f hf=>hx f (by simp [hf])) _ ct hj
      exact ⟨v,by rw [← q1];congr 1;omega,q2⟩
  · cases h
theorem Hl:∀ (n k:Nat) (t:TypeId) (cs:List Value) (x:DataW H × List MemPlace) (ts:List CT),tq P k t=some ts→DataW.trod enc P W 0 (fun _=>true) true n t cs=some x →
 cs.length=ts.length∧∀ (j:Nat) (ct:CT),ts[j]?=some ct→∃ v,cs[j]?=some v∧FY ψ W ct v:=by
 intro n
 induction n with
 | zero=>intro k t cs x ts _ h;simp [DataW.trod] at h
 | succ n ih =>
  intro k t cs x ts hf h
  cases k with
  | zero=>simp [tq] at hf
  | succ k =>
   have one:∀ {v:Value} {ct:CT},cs=[v]→ts=[ct]→FY ψ W ct v→cs.length=ts.length∧∀ (j:Nat) (ct:CT),ts[j]?=some ct→∃ v,cs[j]?=some v∧FY ψ W ct v:=by
    intro v ct h1 h2 h3
    subst h1;subst h2
    refine ⟨rfl,fun j ct' hj=>?_⟩
    cases j with
    | zero=>simp only [List.getElem?_cons_zero,Option.some.injEq] at hj;subst hj;exact ⟨v,rfl,h3⟩
    | succ j=>simp at hj
   unfold tq at hf
   split at hf
   · rename_i ht
     cases hf
     obtain ⟨b,e,_⟩:=DataW.trod_bool ht h
     exact one e rfl ⟨_,_,.bool b,.bool b,rfl,.bool b⟩
   · rename_i k' ht
     cases hf
     obtain ⟨m,e,_,hw⟩:=DataW.trod_int ht h
     simp only [Lit.wf,Bool.and_eq_true,decide_eq_true_eq] at hw
     exact one e rfl ⟨_,_,.int k' m hw.1 hw.2,.int k' m,rfl,.int k' m⟩
   · rename_i ht
     cases hf
     obtain ⟨s,e,_,hw⟩:=DataW.trod_string ht h
     refine one e rfl ⟨.str s.data.toList,_,.str _ ?_,.str _,rfl,?_⟩
     · simp only [maxLen] at hw
       have:s.data.toList.length=s.size:=rfl
       omega
     · have:=VR.str (ψ:=ψ) (w:=W) (S:=fun c=>c < W.heap.size) (m:=fun _=>(0,0)) (A:=fun _=>False) s.data.toList
       exact this
   · rename_i el ht
     simp only [Option.bind_eq_some_iff] at hf
     obtain ⟨us,hu,hf⟩:=hf
     split at hf
     · rename_i hz
       obtain ⟨hz,hz0⟩:=hz
       cases hf
       rcases DataW.trod_slice ht h with ⟨e,_⟩ | ⟨a,len,cap,elems,rest,n',hn,e,_,_,hl,hm,hlen,hel,hsp,_⟩
       · exact one e rfl ⟨.ro us.length [] true,.bH,.slice us [] true (by simp) (by simp) (by simp),.kJ _ _,rfl,.bH⟩
       · cases hn
         refine one e rfl ?_
         have row:∀ i,i < cap→∃ vs y,W.cells? 0 (a.add (i * us.length)) us.length=some vs∧DataW.trod enc P W 0 (fun _=>true) true n el vs=some y:=by
          intro i hi
          rcases Nat.lt_or_ge i len with hil | hil
          · have:=hel i hil
            rw [List.getElem?_eq_getElem (by omega),Option.bind_eq_some_iff,← hz] at this
            obtain ⟨vs,q1,q2⟩:=this
            exact ⟨vs,_,q1,q2⟩
          · obtain ⟨q0,q⟩:=hsp rfl
            have:=q (i - len) (by omega)
            rw [List.getElem?_eq_getElem (by omega),Option.bind_eq_some_iff,← hz,show len+(i - len)=i by omega] at this
            obtain ⟨vs,q1,q2⟩:=this
            exact ⟨vs,_,q1,q2⟩
         rcases Nat.eq_zero_or_pos cap with hc0 | hc0
         · subst hc0
           obtain rfl:len=0:=by omega
           exact ⟨.ro us.length [] true,.ro us.length [] true,.slice us [] true (by simp) (by simp) (by simp),.ro _ [] [] true true (by simp) rfl id (by simp) (by simp),rfl,.roe _ _ _ 0 (fun _=>rfl)⟩
         · obtain ⟨b,off,spot⟩:=a
           have hfirst:∃ v,W.cell? ⟨b,off,spot⟩=some v:=by
            obtain ⟨vs,_,q1,_⟩:=row 0 hc0
            obtain ⟨_,q2,q3⟩:=World.cells?_some q1
            have:=q3 0 hz0
            rw [List.getElem?_eq_getElem (by omega)] at this
            exact ⟨_,by simpa [Addr.add] using this⟩
           obtain ⟨v0,hv0⟩:=hfirst
           obtain rfl:spot=none:=World.cell?_spot hv0
           have hS:b < W.heap.size:=by
            unfold World.cell? at hv0
            split at hv0
            · rename_i hb;exact (Array.getElem?_eq_some_iff.1 hb).1
            · cases hv0
           have key:∀ p:Nat × Nat,∃ q:Value × AV × AV,p.1 < len→∀ ct,us[p.2]?=some ct→W.cell? ⟨b,off+p.1 * us.length+p.2,none⟩=some q.1∧Ty ct q.2.1∧VD id (fun _=>False) q.2.1 q.2.2∧q.2.2.cell=true ∧
            VR ψ W (fun c=>c < W.heap.size) (fun _=>(0,0)) (fun _=>False) q.2.2 q.1:=by
            intro ⟨i,j⟩
            by_cases hi:i < len
            · cases hj:us[j]? with
              | none=>exact ⟨default,fun _ ct q=>by cases q⟩
              | some ct =>
               obtain ⟨vs,y,q1,q2⟩:=row i (by omega)
               obtain ⟨v,q3,c1,c2,q4,q5,q6,q7⟩:=(ih _ _ _ _ _ hu q2).2 j ct hj
               refine ⟨(v,c1,c2),fun _ ct' q=>?_⟩
               cases q
               refine ⟨?_,q4,q5,q6,q7⟩
               obtain ⟨_,r1,r2⟩:=World.cells?_some q1
               have hjl:j < us.length:=(List.getElem?_eq_some_iff.1 hj).1
               have:=r2 j hjl
               rw [q3] at this
               rw [← this]
               congr 1
               simp only [Addr.add]
               split <;> split <;> simp_all <;> omega
            · exact ⟨default,fun q=>absurd q hi⟩
           obtain ⟨F,hF⟩:=Classical.axiomOfChoice key
           let es:List (List AV):=(List.range len).map fun i=>(List.range us.length).map fun j=>(F (i,j)).2.1
           let es':List (List AV):=(List.range len).map fun i=>(List.range us.length).map fun j=>(F (i,j)).2.2
           have g1:∀ (i:Nat) (e:List AV),es[i]?=some e→i < len∧e=(List.range us.length).map fun j=>(F (i,j)).2.1:=by
            intro i e he
            simp only [es,List.getElem?_map,Option.map_eq_some_iff] at he
            obtain ⟨i',q1,q2⟩:=he
            have:=List.getElem?_eq_some_iff.1 q1
            obtain ⟨q3,q4⟩:=this
            simp at q3 q4
            subst q4
            exact ⟨q3,q2.symm⟩
           have g1':∀ (i:Nat) (e:List AV),es'[i]?=some e→i < len∧e=(List.range us.length).map fun j=>(F (i,j)).2.2:=by
            intro i e he
            simp only [es',List.getElem?_map,Option.map_eq_some_iff] at he
            obtain ⟨i',q1,q2⟩:=he
            have:=List.getElem?_eq_some_iff.1 q1
            obtain ⟨q3,q4⟩:=this
            simp at q3 q4
            subst q4
            exact ⟨q3,q2.symm⟩
           have g2:∀ (G:Nat→AV) (j:Nat) (x:AV),((List.range us.length).map G)[j]?=some x→∃ ct,us[j]?=some ct∧x=G j:=by
            intro G j x hx
            simp only [List.getElem?_map,Option.map_eq_some_iff] at hx
            obtain ⟨j',q1,q2⟩:=hx
            obtain ⟨q3,q4⟩:=List.getElem?_eq_some_iff.1 q1
            simp at q3 q4
            subst q4
            exact ⟨us[j],List.getElem?_eq_getElem q3,q2.symm⟩
           have l1:es.length=len:=by simp [es]
           have l2:es'.length=len:=by simp [es']
           refine ⟨.ro us.length es (decide (cap=len)),.ro us.length es' (decide (cap=len)),.slice us es _ ?_ ?_ ?_,.ro _ es es' _ _ ?_ (by rw [l1,l2]) id ?_ ?_,rfl,?_⟩
           · rw [l1];simp only [maxLen] at hm;omega
           · intro i e he;rw [(g1 i e he).2];simp
           · intro i e j ct y he hct hy
             obtain ⟨q1,rfl⟩:=g1 i e he
             obtain ⟨ct',q2,rfl⟩:=g2 _ j y hy
             rw [hct] at q2
             cases q2
             exact (hF (i,j) q1 ct hct).2.1
           · intro e he y hy
             obtain ⟨i,he⟩:=List.getElem?_of_mem he
             obtain ⟨j,hy⟩:=List.getElem?_of_mem hy
             obtain ⟨q1,rfl⟩:=g1 i e he
             obtain ⟨ct',q2,rfl⟩:=g2 _ j y hy
             exact (hF (i,j) q1 ct' q2).2.1.isC
           · intro i e e' he he'
             rw [(g1 i e he).2,(g1' i e' he').2];simp
           · intro i e e' j y y' he he' hy hy'
             obtain ⟨q1,rfl⟩:=g1 i e he
             obtain ⟨_,rfl⟩:=g1' i e' he'
             obtain ⟨ct',q2,rfl⟩:=g2 _ j y hy
             obtain ⟨_,_,rfl⟩:=g2 _ j y' hy'
             exact (hF (i,j) q1 ct' q2).2.2.1
           · have:=VR.ro (ψ:=ψ) (w:=W) (S:=fun c=>c < W.heap.size) (m:=fun _=>(0,0)) (A:=fun _=>False) us.length es' (decide (cap=len)) b off cap (fun i j=>(F (i,j)).1) hS
              (fun i e he=>by rw [(g1' i e he).2];simp) (by rw [l2];exact hl) (fun q=>by rw [l2];simpa using q)
              (fun i e j y he hy=>by
               obtain ⟨q1,rfl⟩:=g1' i e he
               obtain ⟨ct',q2,rfl⟩:=g2 _ j y hy
               have:=hF (i,j) q1 ct' q2
               exact ⟨this.2.2.2.1,this.1⟩)
              (fun i e j y he hy=>by
               obtain ⟨q1,rfl⟩:=g1' i e he
               obtain ⟨ct',q2,rfl⟩:=g2 _ j y hy
               exact (hF (i,j) q1 ct' q2).2.2.2.2)
             rw [l2] at this
             exact this
     · cases hf
   · rename_i fs ht
     simp only [Option.bind_eq_some_iff] at hf
     obtain ⟨us,hu,hf⟩:=hf
     split at hf
     · rename_i hz
       cases hf
       obtain ⟨xs,n',hn,_,hcl,hxl,hx⟩:=DataW.trod_struct ht h
       cases hn
       refine ⟨by rw [hcl,hz],fun j ct hj=>?_⟩
       have:=OB (cs:=cs) (F:=tq P k) (n:=n) (fun t cs x ts h1 h2=>ih k t cs x ts h1 h2) fs.toList 0 _ hu (fun f hf=>by
        obtain ⟨i,hi⟩:=List.getElem?_of_mem hf
        have hi':fs[i]?=some f:=by simpa using hi
        have hlt:i < fs.size:=(Array.getElem?_eq_some_iff.1 hi').1
        have:=hx i f hi'
        rw [List.getElem?_eq_getElem (by omega)] at this
        exact ⟨_,this⟩) j ct hj
       simpa using this
     · cases hf
   · rename_i m' e ht
     simp only [Option.bind_eq_some_iff] at hf
     obtain ⟨us,hu,hf⟩:=hf
     split at hf
     · rename_i hz
       obtain ⟨hz1,hz2⟩:=hz
       cases hf
       obtain ⟨xs,n',hn,hcl,hxl,hx⟩:=trod_array ht h
       cases hn
       have hlen:(List.replicate m' us).flatten.length=m' * us.length:=by simp
       refine ⟨by rw [hcl,hlen,hz2],fun j ct hj=>?_⟩
       have hjl:j < m' * us.length:=by rw [← hlen];exact (List.getElem?_eq_some_iff.1 hj).1
       have hk:0 < us.length:=by
        rcases Nat.eq_zero_or_pos us.length with q | q
        · rw [q,Nat.mul_zero] at hjl;omega
        · exact q
       rw [CY us m' j hjl] at hj
       have hq:j / us.length < m':=Nat.div_lt_of_lt_mul (by rw [Nat.mul_comm];exact hjl)
       have hxq:=hx (j / us.length) hq
       rw [List.getElem?_eq_getElem (by omega)] at hxq
       obtain ⟨v,q1,q2⟩:=(ih k e _ _ us hu hxq).2 (j % us.length) ct hj
       refine ⟨v,?_,q2⟩
       rw [List.getElem?_take] at q1
       split at q1
       · rw [List.getElem?_drop,← hz1] at q1
         rw [← q1];congr 1
         exact (Nat.div_add_mod' j us.length).symm
       · cases q1
     · cases hf
   · cases hf
inductive AT where
 | c (ct:CT)
 | g (ts:List CT)
def AT.has:AT→AV→Prop
 | .c ct,a=>Ty ct a
 | .g ts,a=>∃ es,a=.agg es∧es.length=ts.length∧∀ (j:Nat) (ct:CT) (x:AV),ts[j]?=some ct→es[j]?=some x→Ty ct x
def aaP (P:Program) (t:TypeId):Option AT :=
 match P.underlying t with
 | some (.struct _)=>(tq P 20 t).map .g
 | some (.array _ _)=>(tq P 20 t).map .g
 | some .bool | some (.int _) | some .string | some (.slice _)=>match tq P 20 t with | some [ct]=>some (.c ct) | _=>none
 | _=>none
theorem Ou {t:TypeId} {base:Nat} {v:Value} (hu:P.underlying t=some .bool∨(∃ k,P.underlying t=some (.int k))∨P.underlying t=some .string∨∃ e,P.underlying t=some (.slice e)) (h:Value.okWide P W .any base t v) :
 v.cells=#[v]:=by
 cases v <;> try rfl
 rcases hu with hu | ⟨k,hu⟩ | hu | ⟨e,hu⟩ <;> simp [Value.okWide,hu,Cell.okWide,Cell.ok] at h
theorem ZE {t:TypeId} {at_:AT} (ha:aaP P t=some at_) {base:Nat} {v:Value} (hv:Value.okWide P W .any base t v) {d:DataW H} {p:List MemPlace} (h:DataW.Trod enc P W 0 (fun _=>true) true t v d p) :
 ∃ a a',at_.has a∧VD id (fun _=>False) a a'∧VR ψ W (fun c=>c < W.heap.size) (fun _=>(0,0)) (fun _=>False) a' v:=by
 obtain ⟨fuel,h⟩:=h
 have plain:(P.underlying t=some .bool∨(∃ k,P.underlying t=some (.int k))∨P.underlying t=some .string∨∃ e,P.underlying t=some (.slice e)) →
  (match tq P 20 t with | some [ct]=>some (AT.c ct) | _=>none)=some at_→∃ a a',at_.has a∧VD id (fun _=>False) a a'∧VR ψ W (fun c=>c < W.heap.size) (fun _=>(0,0)) (fun _=>False) a' v:=by
  intro hu he
  split at he
  · rename_i ct hf
    cases he
    rw [Ou hu hv] at h
    obtain ⟨_,q⟩:=Hl (ψ:=ψ) _ _ _ _ _ _ hf h
    obtain ⟨v',q1,a,a',q2,q3,_,q4⟩:=q 0 ct rfl
    simp only [List.getElem?_cons_zero,Option.some.injEq] at q1
    subst q1
    exact ⟨a,a',q2,q3,q4⟩
  · cases he
 have whole:(∃ cs,v=.agg cs)→(tq P 20 t).map AT.g=some at_→∃ a a',at_.has a∧VD id (fun _=>False) a a'∧VR ψ W (fun c=>c < W.heap.size) (fun _=>(0,0)) (fun _=>False) a' v:=by
  rintro ⟨cs,rfl⟩ ha
  simp only [Option.map_eq_some_iff] at ha
  obtain ⟨ts,hf,rfl⟩:=ha
  obtain ⟨hl,q⟩:=Hl (ψ:=ψ) _ _ _ _ _ _ hf h
  simp only [Value.cells] at hl q
  have key:∀ j:Nat,∃ x:AV × AV,∀ ct,ts[j]?=some ct→Ty ct x.1∧VD id (fun _=>False) x.1 x.2∧x.2.cell=true∧∃ v,cs.toList[j]?=some v∧VR ψ W (fun c=>c < W.heap.size) (fun _=>(0,0)) (fun _=>False) x.2 v:=by
   intro j
   cases hj:ts[j]? with
   | none=>exact ⟨default,fun _ q=>by cases q⟩
   | some ct =>
    obtain ⟨v,q1,a,a',q2,q3,q4,q5⟩:=q j ct hj
    exact ⟨(a,a'),fun ct' e=>by cases e;exact ⟨q2,q3,q4,v,q1,q5⟩⟩
  obtain ⟨F,hF⟩:=Classical.axiomOfChoice key
  have g2:∀ (G:Nat→AV) (j:Nat) (x:AV),((List.range ts.length).map G)[j]?=some x→∃ ct,ts[j]?=some ct∧x=G j:=by
   intro G j x hx
   simp only [List.getElem?_map,Option.map_eq_some_iff] at hx
   obtain ⟨j',q1,q2⟩:=hx
   obtain ⟨q3,q4⟩:=List.getElem?_eq_some_iff.1 q1
   simp at q3 q4
   subst q4
   exact ⟨ts[j],List.getElem?_eq_getElem q3,q2.symm⟩
  refine ⟨.agg ((List.range ts.length).map fun j=>(F j).1),.agg ((List.range ts.length).map fun j=>(F j).2),⟨_,rfl,by simp,?_⟩,.agg _ _ (by simp) ?_,.agg _ _ ?_ ?_ ?_⟩
  · intro j ct x hct hx
    obtain ⟨ct',q1,rfl⟩:=g2 _ j x hx
    exact (hF j ct hct).1
  · intro j x x' hx hx'
    obtain ⟨ct,q1,rfl⟩:=g2 _ j x hx
    obtain ⟨_,_,rfl⟩:=g2 _ j x' hx'
    exact (hF j ct q1).2.1
  · simp only [List.length_map,List.length_range]
    rw [← hl];simp
  · intro j x hx
    obtain ⟨ct,q1,rfl⟩:=g2 _ j x hx
    exact (hF j ct q1).2.2.1
  · intro j x hx
    obtain ⟨ct,q1,rfl⟩:=g2 _ j x hx
    obtain ⟨v,q2,q3⟩:=(hF j ct q1).2.2.2
    have e:cs[j]?=some v:=by simpa using q2
    rw [Array.getD_eq_getD_getElem?,e]
    exact q3
 unfold aaP at ha
 split at ha
 · rename_i fs ht
   simp only [Value.okWide,ht] at hv
   obtain ⟨cs,hv,_,_⟩:=hv
   exact whole ⟨cs,hv⟩ ha
 · rename_i m e ht
   simp only [Value.okWide,ht] at hv
   obtain ⟨cs,hv,_,_⟩:=hv
   exact whole ⟨cs,hv⟩ ha
 · rename_i ht;exact plain (.inl ht) ha
 · rename_i k ht;exact plain (.inr (.inl ⟨k,ht⟩)) ha
 · rename_i ht;exact plain (.inr (.inr (.inl ht))) ha
 · rename_i e ht;exact plain (.inr (.inr (.inr ⟨e,ht⟩))) ha
 · cases ha
def Uj:List AT→List AV→Prop
 | [],[]=>True
 | a::r,x::s=>a.has x∧Uj r s
 | _,_=>False
theorem Jo {base:Nat}:∀ {ts:List TypeId} {ats:List AT} {vs:List Value} {ds:List (DataW H)} {p:List MemPlace},ts.map (aaP P)=ats.map some →
 (∀ (j:Nat) (t:TypeId) (v:Value),ts[j]?=some t→vs[j]?=some v→Value.okWide P W .any base t v)→DataW.TrodAll enc P W 0 (fun _=>true) true ts vs ds p →
 ∃ us us',Uj ats us∧bC (VD id fun _=>False) us us'∧us'.length=vs.length∧∀ (j:Nat) (x:AV) (v:Value),us'[j]?=some x→vs[j]?=some v→VR ψ W (fun c=>c < W.heap.size) (fun _=>(0,0)) (fun _=>False) x v
 | [],[],vs,ds,p,_,_,h=>by
  obtain ⟨rfl,_,_⟩:=ChangeShapes.trodAll_nil h
  exact ⟨[],[],trivial,⟨rfl,by simp⟩,rfl,by simp⟩
 | t::ts,at_::ats,_,_,_,hm,hv,h=>by
  obtain ⟨v,vs1,d,ds1,p1,q1,rfl,rfl,rfl,h1,h2⟩:=ChangeShapes.trodAll_cons h
  simp only [List.map_cons,List.cons.injEq] at hm
  obtain ⟨a,a',r1,r2,r3⟩:=ZE (ψ:=ψ) hm.1 (hv 0 t v rfl rfl) h1
  obtain ⟨us,us',s1,s2,s3,s4⟩:=Jo hm.2 (fun j t v e1 e2=>hv (j+1) t v e1 e2) h2
  refine ⟨a::us,a'::us',⟨r1,s1⟩,⟨by simp [s2.1],fun j x x' e1 e2=>?_⟩,by simp [s3],fun j x v' e1 e2=>?_⟩
  · cases j with
    | zero=>cases e1;cases e2;exact r2
    | succ j=>exact s2.2 j x x' e1 e2
  · cases j with
    | zero=>cases e1;cases e2;exact r3
    | succ j=>exact s4 j x v' e1 e2
 | [],_::_,_,_,_,hm,_,_=>by simp at hm
 | _::_,[],_,_,_,hm,_,_=>by simp at hm
theorem Xu {Φ:Nat→FuncId→Option Nat} {D:aJ} (hL:Linked P Φ ψ (fD D)) (hok:rM D.fns=true) {f:Nat} {ts:List TypeId} {ats:List AT} (hts:ts.map (aaP P)=ats.map some)
 (core:∀ us,Uj ats us→FnW D f us=some (.bool true)) {base:Nat} {args:Array Value} {ds:List (DataW H)} {p:List MemPlace}
 (hv:∀ (j:Nat) (t:TypeId) (v:Value),ts[j]?=some t→args[j]?=some v→Value.okWide P W .any base t v) (hA:DataW.TrodAll enc P W 0 (fun _=>true) true ts args.toList ds p) :
 Calls P (ψ f) args W fun e W'=>e=.returned (.bool true)∧(∀ c,c < W.heap.size→W'.heap[c]?=W.heap[c]?)∧W.heap.size≤W'.heap.size∧W'.os=W.os∧W'.output=W.output:=by
 obtain ⟨us,us',h1,h2,h3,h4⟩:=Jo (ψ:=ψ) hts (fun j t v e1 e2=>hv j t v e1 (by simpa using e2)) hA
 obtain ⟨n,hc⟩:=OT.1 (core us h1)
 obtain ⟨v',hc',hvd⟩:=abC hok h2 hc
 rw [hvd.fC] at hc'
 refine (abS hL hc' (w:=W) (S:=fun c=>c < W.heap.size) (m:=fun _=>(0,0)) (cargs:=args) (fun _ h=>h) (by rw [h3];simp) fun j x hx=>?_).mono ?_
 · have hj:j < args.size:=by have:=(List.getElem?_eq_some_iff.1 hx).1;rw [h3] at this;simpa using this
   rw [Array.getD_eq_getD_getElem?,Array.getElem?_eq_getElem hj]
   exact h4 j x _ hx (by simp [hj])
 · rintro e W' ⟨cv,S',m',rfl,hr,q1,q2,q3,q4⟩
   rw [hr.gU]
   exact ⟨rfl,q1,q2,q3,q4⟩
theorem CP {W':World} (hh:∀ c,c < W.heap.size→W'.heap[c]?=W.heap[c]?) {base:Nat} {sp:Nat→Bool} {held:Bool}:∀ {ts:List TypeId} {vs:List Value} {ds:List (DataW H)} {ps:List MemPlace},
 DataW.TrodAll enc P W base sp held ts vs ds ps→(∀ p ∈ ps,p.block < W.heap.size)→DataW.TrodAll enc P W' base sp held ts vs ds ps
 | [],[],[],_,h,_=>h
 | _::_,_::_,_::_,_,⟨p,q,⟨n,h1⟩,h2,e⟩,hs=>⟨p,q,⟨n,DataW.trod_carry n _ _ _ h1 fun x hx=>by
  have hlt:=hs x (by rw [e];exact List.mem_append_left _ hx)
  cases x with
  | cell b off=>simp only [World.sameAt,World.cell?];rw [hh b hlt]
  | map b=>exact hh b hlt⟩,CP hh h2 (fun x hx=>hs x (by rw [e];exact List.mem_append_right _ hx)),e⟩
theorem keptBut_old {W':World} (hh:∀ c,c < W.heap.size→W'.heap[c]?=W.heap[c]?) (ho:W'.os=W.os) (hp:W'.output=W.output) (may:MemPlace→Prop):W.keptBut W' may:=by
 have h:=World.keptBut_refl W may
 refine ⟨ho,hp,fun i hi=>?_⟩
 have:=h.2.2 i hi
 rw [hh i hi]
 exact this
theorem Ya {f:Func} {s:ChangeSpec} {fresh handsOn again:Bool} {W':World} {args:Array Value} {ds gs:List (DataW H)} {before:List MemPlace} {tb:TypeId}
 (kids:Kids P (· < P.types.size)) (full:∀ t e,t < P.types.size→P.underlying t=some (.slice e)→0 < P.cellsOf e)
 (hvars0:s.vars=[]) (hW:DataW.Whole enc P f.params.toList s.vars false W args.toList ds gs before) (hfn:s.fn H (ds++gs)={ results:=[.lit (.bool true)],args:=ds })
 (hps:∀ t ∈ f.params.toList,t < P.types.size) (hr:f.resultTypes=#[tb]) (htb:P.underlying tb=some .bool)
 (hh:∀ c,c < W.heap.size→W'.heap[c]?=W.heap[c]?) (_hsz:W.heap.size≤W'.heap.size) (ho:W'.os=W.os) (hp:W'.output=W.output) :
 s.post enc P f false fresh handsOn again W args (.bool true) W':=by
 have hlt:∀ p ∈ before,p.block < W.heap.size:=hW.lt
 have hW':=hW
 obtain ⟨p,q,hA,hV,rfl,hz,_⟩:=hW
 rw [hvars0] at hV
 obtain ⟨rfl,rfl⟩:=ChangeShapes.trodVars_none hV
 simp only [List.append_nil] at hlt hz hW' hfn
 have hargs:∀ sp:Nat→Bool,(∀ x ∈ p,sp x.block=true)→DataW.TrodAll enc P W' 0 sp true f.params.toList args.toList ds p:=fun sp hsp =>
  CP hh (DataW.TrodAll.respare kids full hps hA hsp) hlt
 have hvars:∀ sp:Nat→Bool,DataW.TrodVars enc P W' sp s.vars [] []:=fun sp=>by rw [hvars0];rfl
 have hres:∀ (b:Nat) (sp:Nat→Bool) (hd:Bool),DataW.TrodAll enc P W' b sp hd f.resultTypes.toList ((Value.bool true).resultList f.resultTypes.size) [.lit (.bool true)] []:=fun b sp hd=>by
  rw [hr];exact ChangeShapes.trodAll_mk1 (RowKit.shut_bool htb true)
 have hok:∀ (j:Nat) (t:TypeId) (r:Value),f.resultTypes[j]?=some t→((Value.bool true).resultList f.resultTypes.size)[j]?=some r→Value.okWide P W' .any 0 t r :=
  RowKit.ok_one hr rfl (by simp [Value.okWide,htb,Cell.okWide,Cell.ok])
 have hold:∀ x ∈ p,(fun b=>decide (b < W.heap.size)) x.block=true:=fun x hx=>by simpa using hlt x hx
 refine ⟨ds,[],p,[],p,[],hW',?_,?_,?_,keptBut_old hh ho hp _,fun _=>⟨hok,[.lit (.bool true)]++ds,[],([]++p)++[],⟨[]++p,[],?_,hvars _,rfl,?_,fun h=>by cases h⟩,?_⟩⟩
 · rw [List.append_nil,hfn];exact hres _ _ _
 · rw [List.append_nil,hfn];exact hargs _ hold
 · rw [List.append_nil,hfn];exact hvars _
 · exact ChangeShapes.trodAll_append (hargs _ fun _ _=>rfl) (hres _ _ _)
 · intro b off hb
   simp only [List.nil_append,List.append_nil] at hb
   have:=hz b off hb
   unfold World.frozen? at this ⊢
   rw [hh b (hlt _ hb)]
   exact this
 · intro x hx _
   simpa using hx
theorem Ci {base:Nat} {sp:Nat→Bool} {held:Bool}:∀ {ts:List TypeId} {vs:List Value} {ds:List (DataW H)} {ps:List MemPlace},DataW.TrodAll enc P W base sp held ts vs ds ps→ds.length=ts.length
 | [],[],[],_,_=>rfl
 | _::_,_::_,_::_,_,⟨_,_,_,h2,_⟩=>by simp [Ci h2]
def isTrue:Option AV→Bool
 | some (.bool true)=>true
 | _=>false
theorem XK {o:Option AV} (h:isTrue o=true):o=some (.bool true):=by
 unfold isTrue at h
 split at h
 · rfl
 · cases h
end
end Go.Pw
end
section
namespace Go.Pw
open Go Go.Pav
theorem NS {α:Type} {g:α→List AV} {Q:List AV→Prop} {R:α→Prop} (h:∀ a,Q a→∃ x,a=g x∧R x):∀ (xs:List (List AV)),(∀ x ∈ xs,Q x)→∃ ys:List α,xs=ys.map g∧∀ y ∈ ys,R y:=by
 intro xs
 induction xs with
 | nil=>intro _;exact ⟨[],rfl,by simp⟩
 | cons a r ih =>
  intro hx
  obtain ⟨y,rfl,hy⟩:=h a (hx a (by simp))
  obtain ⟨ys,rfl,hys⟩:=ih fun x q=>hx x (by simp [q])
  exact ⟨y::ys,rfl,by simpa using ⟨hy,hys⟩⟩
theorem GH {ts:List CT} {a:AV} (h:Ty (.slice ts) a):∃ (es:List (List AV)) (e:Bool),a=.ro ts.length es e∧es.length < 2 ^ 63∧∀ x ∈ es,x.length=ts.length∧∀ (j:Nat) (ct:CT) (v:AV),ts[j]?=some ct→x[j]?=some v→Ty ct v:=by
 cases h with
 | slice ts es ex hn hw h =>
  refine ⟨es,ex,rfl,hn,fun x hx=>?_⟩
  obtain ⟨i,hi⟩:=List.getElem?_of_mem hx
  exact ⟨hw i x hi,fun j ct v e1 e2=>h i x j ct v hi e1 e2⟩
theorem F5 {v:AV} (h:Ty (.int .u8) v):∃ n:Int,v=.int .u8 n∧0≤n∧n≤255:=by
 cases h with
 | int k n h1 h2=>exact ⟨n,rfl,h1,h2⟩
end Go.Pw
end
section
namespace Go.Proofs.YtfkdbfgdncamdaaGreat
open Go.ChangeShapes Go.WideShapes Go.ChangeAt Go.RowKit Go.Pav Go.Pw P
theorem aoF:ownKnob Tryz.prog.godebug=none:=by kernel_rfl
theorem ajX:Kids Tryz.prog (· < Tryz.prog.types.size):=kids_rows (by kernel_rfl) (by kernel_rfl)
theorem aju:∀ t e,t < Tryz.prog.types.size→Tryz.prog.underlying t=some (.slice e)→0 < Tryz.prog.cellsOf e:=slices_full_of Tryz.prog (by kernel_rfl)
end Go.Proofs.YtfkdbfgdncamdaaGreat
end
section
namespace Go.D
open Go Go.Pav Go.Pw P
attribute [-simp] List.getElem_cons_drop
variable {C:aJ}
structure It where
 (k t:Int) (x:List UInt8) (m:List (List UInt8)) (e:Bool)
abbrev eIt (i:It):AV:=.agg [.int .u64 i.k,.int .u8 i.t,.str i.x,.ro 1 (i.m.map eS) i.e]
structure QD (C:aJ):Prop extends nU C where
 agp:C.fns.get 398=some Rh
 agY:C.fns.get 424=some OM
 ahD:C.fns.get 494=some aaq
 acS:C.fns.get 496=some RG
 agT:C.fns.get 497=some Zx
 ais:C.fns.get 498=some YQ
 agO:C.fns.get 499=some acs
 ahx:C.fns.get 544=some aeN
theorem VO (H:nU C) (s:List UInt8) (hl:s.length≤16):∀ n i,n+i=s.length →
 Ei C ⟨[(3,.int .i64 i),(0,.str s)],[],0⟩=some (.int .i64 (if (s.drop i).all inN=true then 1 else 0)):=by
 intro n
 induction n with
 | zero =>
  intro i hi
  simp only [Ei];rw [au zq.eq_1]
  have h1:s.drop i=[]:=List.drop_eq_nil_of_le (by omega)
  have h3:¬ i < s.length:=by omega
  simp [au MW.eq_1,h1,h3]
 | succ n ih =>
  intro i hi
  have h1:i < s.length:=by omega
  have:=ih (i+1) (by omega)
  simp only [Ei] at this ⊢;rw [au zq.eq_1]
  rw [drop_cons h1]
  generalize hX:((s.drop (i+1)).all inN)=X at *
  simp at this
  rw [List.all_cons,hX]
  have key:=BU s[i]
  by_cases q1:97≤s[i].toNat <;> by_cases q2:s[i].toNat≤122 <;> by_cases q3:48≤s[i].toNat <;> by_cases q4:s[i].toNat≤57 <;> first
   | (exfalso;omega)
   | (have c : inN s[i] = true := by rcases key with ⟨c, _⟩ | ⟨_, q⟩ <;> first | exact c | (exfalso; omega)
      simp (disch:=omega) [h1,aN,c,q1,q2,q3,q4,this];done)
   | (have c : inN s[i] = false := by rcases key with ⟨_, q⟩ | ⟨c, _⟩ <;> first | exact c | (exfalso; omega)
      simp (disch:=omega) [h1,aN,c,q1,q2,q3,q4];done)
theorem acp (H:nU C) (s:List UInt8):FnW C 511 [.str s]=some (.int .i64 (if isName s=true then 1 else 0)):=by
 rw [aO H.ahO rfl]
 unfold isName
 by_cases c1:1≤s.length
 · by_cases c2:s.length≤16
   · have:=VO H s c2 s.length 0 (by simp)
     simp only [Ei] at this
     simp only [List.drop_zero] at this
     generalize hX:s.all inN=X at *
     simp at this
     have c3:¬ ((s.length:Int) < 1):=by omega
     have c4:¬ (16 < (s.length:Int)):=by omega
     simp [XQ,c1,c2,c3,c4,this]
   · have c3:¬ ((s.length:Int) < 1):=by omega
     have c4:(16 < (s.length:Int)):=by omega
     simp [XQ,c1,c2,c3,c4]
 · have c3:((s.length:Int) < 1):=by omega
   simp [XQ,c1,c3]
theorem ad6 (H:QD C):Pred C 496 inT where
 asc b hb:=by
  rw [aO H.acS rfl]
  by_cases c1:32≤b.toNat <;> by_cases c2:126 < b.toNat
  · have c:inT b=false:=decide_eq_false (fun q=>by omega)
    simp [RG,c,c1,c2]
  · have c:inT b=true:=decide_eq_true ⟨c1,by omega⟩
    simp [RG,c,c1,c2]
  · omega
  · have c:inT b=false:=decide_eq_false (fun q=>c1 q.1)
    simp [RG,c,c1,c2]
 high r hr:=by
  rw [aO H.acS rfl]
  have h1:32≤r:=by omega
  have h2:126 < r:=by omega
  simp [RG,h1,h2]
 qh b hb:=decide_eq_false (fun q=>by omega)
 ne:=by rfl
 ni:=by rfl
structure U5 (C:aJ) (g:Nat) (Q:List UInt8→Bool):Prop where
 ok:∀ s,FnW C g [.str s]=some (.bool (!Q s))
 ne:ppB g=false
 ni:aH g=false
theorem Qa (H:QD C) {g:Nat} {Q:List UInt8→Bool} (G:U5 C g Q) (l:List (List UInt8)) (e:Bool) (hl:l.length≤1000000):∀ n i,n+i=l.length →
 ∃ v:Int,Aw C ⟨[(8,.int .i64 i),(7,.int .i64 l.length),(1,.fn g []),(0,.ro 1 (l.map eS) e)],[],0⟩=some (.int .i64 v)∧decide (v < 0)=(l.drop i).all Q:=by
 intro n
 induction n with
 | zero =>
  intro i hi
  simp only [Aw];rw [au uT.eq_1]
  have h1:l.drop i=[]:=List.drop_eq_nil_of_le (by omega)
  have h3:¬ i < l.length:=by omega
  exact ⟨-1,by simp [au LW.eq_1,h3],by simp [h1]⟩
 | succ n ih =>
  intro i hi
  have h1:i < l.length:=by omega
  have hN:=G.ne;have hI:=G.ni
  have hb:=G.ok l[i]
  rw [drop_cons h1]
  by_cases c:Q l[i]=true
  · obtain ⟨v,hv,hq⟩:=ih (i+1) (by omega)
    refine ⟨v,?_,by simp [hq,c]⟩
    simp only [Aw] at hv ⊢;rw [au uT.eq_1]
    simp at hv
    simp (disch:=omega) [h1,aN,hb,c,H.inl,hI,H.pp,hN,hv]
  · refine ⟨i,?_,by simp [c]⟩
    simp only [Aw];rw [au uT.eq_1]
    simp (disch:=omega) [h1,hb,c,H.inl,hI,H.pp,hN]
theorem y7 (H:QD C) {g:Nat} {Q:List UInt8→Bool} (G:U5 C g Q) (l:List (List UInt8)) (e:Bool) (hl:l.length≤1000000) :
 FnW C 498 [.ro 1 (l.map eS) e,.fn g []]=some (.bool (!l.all Q)):=by
 obtain ⟨v,h,q⟩:=Qa H G l e hl l.length 0 (by simp)
 simp at q
 have h2:FnW C 544 [.ro 1 (l.map eS) e,.fn g []]=some (.int .i64 v):=by
  rw [aO H.ahx rfl]
  simp only [Aw] at h
  simp at h
  simp [aeN,h]
 rw [aO H.ais rfl]
 have q':decide (v < 0)=l.all Q:=by simpa using q
 rw [← q']
 by_cases c:v < 0
 · have c':¬ 0≤v:=by omega
   simp [YQ,H.inl,aH,H.pp,ppB,h2,c,c']
 · have c':0≤v:=by omega
   simp [YQ,H.inl,aH,H.pp,ppB,h2,c,c']
theorem acu (H:QD C):U5 C 499 isName where
 ok s:=by
  have:=ZT H.tonU s
  rw [aO H.agO rfl]
  simp [acs,H.inl,aH,H.pp,ppB,this]
 ne:=by rfl
 ni:=by rfl
def xB (n:Int) (i:It):Bool:=decide (i.k≠0)&&decide (i.t < n)&&isText i.x&&(decide (i.m.length≤8)&&i.m.all isName)
theorem WQ (H:QD C) (i:It) (n:Int) (ht:0≤i.t∧i.t≤255):FnW C 398 [eIt i,.int .i64 n]=some (.int .i64 (if xB n i=true then 0 else 6)):=by
 have h1:FnW C 494 [.rop [.int .u64 i.k,.int .u8 i.t,.str i.x,.ro 1 (i.m.map eS) i.e]]=some (.bool (isText i.x)):=by
  have:=CZ H.tonU (ad6 H) i.x
  rw [aO H.ahD rfl]
  unfold isText
  by_cases c2:i.x.length≤64
  · have c4:(i.x.length:Int)≤64:=by omega
    simp [aaq,c2,c4,H.inl,aH,H.pp,ppB,this]
  · have c4:¬ ((i.x.length:Int)≤64):=by omega
    simp [aaq,c2,c4]
 have h2:FnW C 497 [.rop [.int .u64 i.k,.int .u8 i.t,.str i.x,.ro 1 (i.m.map eS) i.e]]=some (.bool (decide (i.m.length≤8)&&i.m.all isName)):=by
  rw [aO H.agT rfl]
  by_cases c2:i.m.length≤8
  · have:=y7 H (acu H) i.m i.e (by omega)
    have c4:(i.m.length:Int)≤8:=by omega
    simp [Zx,c2,c4,H.inl,aH,H.pp,ppB,this]
  · have c4:¬ ((i.m.length:Int)≤8):=by omega
    simp [Zx,c2,c4]
 rw [aO H.agp rfl]
 unfold xB
 generalize isText i.x=X at *
 generalize (decide (i.m.length≤8)&&i.m.all isName)=M at *
 by_cases c1:i.k=0
 · simp [Rh,c1]
 · by_cases c2:n≤i.t
   · have c3:¬ i.t < n:=by omega
     simp (disch:=omega) [Rh,c1,c2,c3,aN]
   · have c3:i.t < n:=by omega
     cases X
     · simp (disch:=omega) [Rh,c1,c2,c3,aN,H.inl,aH,H.pp,ppB,h1]
     · cases M <;> simp (disch:=omega) [Rh,c1,c2,c3,aN,H.inl,aH,H.pp,ppB,h1,h2]
theorem Qu (H:QD C) (k t:Int) (x:List UInt8) (m:List (List UInt8)) (e:Bool) (hl:m.length≤1000000):∀ n i,n+i=m.length→∀ ok:Bool,
 EN C ⟨[(6,.int .i64 i),(5,.int .i64 (if ok=true then 1 else 0)),(2,.ptr 0 0 0)],[(0,.cells 4 [[.int .u64 k,.int .u8 t,.str x,.ro 1 (m.map eS) e]] true true)],1⟩ =
  some (.int .i64 (if (ok&&(m.drop i).all isName)=true then 0 else 6)):=by
 intro n
 induction n with
 | zero =>
  intro i hi ok
  simp only [EN];rw [au x9.eq_1]
  have h1:m.drop i=[]:=List.drop_eq_nil_of_le (by omega)
  have h3:¬ i < m.length:=by omega
  cases ok <;> simp [au KU.eq_1,h1,h3]
 | succ n ih =>
  intro i hi ok
  have h1:i < m.length:=by omega
  have:=ih (i+1) (by omega) (ok&&isName m[i])
  have hb:=acp H.tonU m[i]
  rw [drop_cons h1]
  generalize hX:(m.drop (i+1)).all isName=X at *
  rw [List.all_cons,hX]
  simp only [EN] at this ⊢;rw [au x9.eq_1]
  cases ok <;> cases hn:isName m[i] <;> rw [hn] at this hb <;> simp at this hb <;> simp (disch:=omega) [h1,aN,hb,H.inl,aH,H.pp,ppB,this]
theorem XF (H:QD C) (i:It) (n:Int) (ht:0≤i.t∧i.t≤255) (hl:i.m.length≤1000000):FnW C 424 [eIt i,.int .i64 n]=some (.int .i64 (if xB n i=true then 0 else 6)):=by
 have hw:=abu H.tonU i.x
 have hA:=Qu H i.k i.t i.x i.m i.e hl i.m.length 0 (by simp)
 have h0:=hA false
 have h1:=hA true
 rw [aO H.agY rfl]
 unfold xB
 simp only [List.drop_zero,Bool.false_and,Bool.true_and] at h0 h1
 generalize i.m.all isName=M at *
 generalize isText i.x=X at *
 simp only [EN] at h0 h1
 simp at h0 h1
 by_cases c1:i.k=0
 · simp [OM,eq_true c1,H.inl,aH,H.pp,ppB,hw,h0]
 · by_cases c2:n≤i.t
   · have c3:¬ i.t < n:=by omega
     simp (disch:=omega) [OM,c1,c2,c3,aN,H.inl,aH,H.pp,ppB,hw,h0]
   · have c3:i.t < n:=by omega
     by_cases c4:i.m.length≤8
     · have c5:¬ (8 < (i.m.length:Int)):=by omega
       cases X
       · simp (disch:=omega) [OM,c1,c2,c3,c4,c5,aN,H.inl,aH,H.pp,ppB,hw,h0]
       · simp (disch:=omega) [OM,c1,c2,c3,c4,c5,aN,H.inl,aH,H.pp,ppB,hw,h1]
     · have c5:(8 < (i.m.length:Int)):=by omega
       simp (disch:=omega) [OM,c1,c2,c3,c4,c5,aN,H.inl,aH,H.pp,ppB,hw,h0]
abbrev Bs:=List UInt8
@[simp] def eA (a:Bs × Bs):List AV:=[.str a.1,.str a.2]
structure Nd where
 k:Int
 t:Bs
 y:Bs
 a:List (Bs × Bs)
 ae:Bool
 x:Bs
 ch:List Nd
 ce:Bool
mutual
def Nd.c:Nd→List AV
 | ⟨k,t,y,a,ae,x,ch,ce⟩=>[.int .u8 k,.str t,.str y,.ro 2 (a.map eA) ae,.str x,.ro 6 (Nd.cs ch) ce]
def Nd.cs:List Nd→List (List AV)
 | []=>[]
 | n::r=>n.c::Nd.cs r
end
theorem Nd.Oo:∀ l:List Nd,Nd.cs l=l.map Nd.c
 | []=>rfl
 | n::r=>by rw [Nd.cs,Nd.Oo r];rfl
theorem Nd.bZ (n:Nd):n.c=[.int .u8 n.k,.str n.t,.str n.y,.ro 2 (n.a.map eA) n.ae,.str n.x,.ro 6 (n.ch.map Nd.c) n.ce]:=by
 cases n;rw [Nd.c,Nd.Oo]
@[simp] theorem Nd.akl (n:Nd):n.c.length=6:=by rw [Nd.bZ];rfl
@[simp] theorem Nd.ahc (n:Nd):n.c.take 6=n.c:=List.take_of_length_le (by simp)
@[simp] theorem Nd.c0 (n:Nd):n.c[0]?=some (.int .u8 n.k):=by rw [Nd.bZ];rfl
@[simp] theorem Nd.c1 (n:Nd):n.c[1]?=some (.str n.t):=by rw [Nd.bZ];rfl
@[simp] theorem Nd.c2 (n:Nd):n.c[2]?=some (.str n.y):=by rw [Nd.bZ];rfl
@[simp] theorem Nd.c3 (n:Nd):n.c[3]?=some (.ro 2 (n.a.map eA) n.ae):=by rw [Nd.bZ];rfl
@[simp] theorem Nd.c4 (n:Nd):n.c[4]?=some (.str n.x):=by rw [Nd.bZ];rfl
@[simp] theorem Nd.c5 (n:Nd):n.c[5]?=some (.ro 6 (n.ch.map Nd.c) n.ce):=by rw [Nd.bZ];rfl
@[simp] theorem Nd.g0 (n:Nd) (h:0 < n.c.length):n.c[0]=.int .u8 n.k:=Option.some.inj ((List.getElem?_eq_getElem h).symm.trans n.c0)
@[simp] theorem Nd.g1 (n:Nd) (h:1 < n.c.length):n.c[1]=.str n.t:=Option.some.inj ((List.getElem?_eq_getElem h).symm.trans n.c1)
@[simp] theorem Nd.g2 (n:Nd) (h:2 < n.c.length):n.c[2]=.str n.y:=Option.some.inj ((List.getElem?_eq_getElem h).symm.trans n.c2)
@[simp] theorem Nd.g3 (n:Nd) (h:3 < n.c.length):n.c[3]=.ro 2 (n.a.map eA) n.ae:=Option.some.inj ((List.getElem?_eq_getElem h).symm.trans n.c3)
@[simp] theorem Nd.g4 (n:Nd) (h:4 < n.c.length):n.c[4]=.str n.x:=Option.some.inj ((List.getElem?_eq_getElem h).symm.trans n.c4)
@[simp] theorem Nd.g5 (n:Nd) (h:5 < n.c.length):n.c[5]=.ro 6 (n.ch.map Nd.c) n.ce:=Option.some.inj ((List.getElem?_eq_getElem h).symm.trans n.c5)
@[simp] theorem Nd.hd (n:Nd):n.c.head?=some (.int .u8 n.k):=by rw [Nd.bZ];rfl
@[simp] theorem Nd.ajx (n:Nd):bT n.c=false:=by rw [Nd.bZ];rfl
@[simp] theorem Nd.afP (n:Nd) (h:aI) (k:Nat):aX (bD h (k+1)) n.c=some n.c:=by rw [Nd.bZ];rfl
@[simp] theorem Nd.adS (n:Nd) (h:aI) (k:Nat):n.c.flatMap (aT h (k+1))=[]:=by rw [Nd.bZ];rfl
@[simp] theorem Nd.ajo (n:Nd) (π:Nat→Option Nat):lH π n.c=some n.c:=by rw [Nd.bZ];rfl
@[simp] theorem Nd.ahQ (n:Nd):CX n.c=[]:=by rw [Nd.bZ];rfl
@[simp] theorem Nd.ai6 (n:Nd):n.c.all isC=true:=by rw [Nd.bZ];rfl
@[simp] theorem Nd.agA (n:Nd):n.c.all AV.cell=true:=by rw [Nd.bZ];rfl
def after:Option Bs→Bs→Bool
 | none,_=>true
 | some p,a=>decide (p < a)
def atOk:Option Bs→List (Bs × Bs)→Bool
 | _,[]=>true
 | p,a::r=>isName a.1&&isText a.2&&after p a.1&&atOk (some a.1) r
def ig:List Bs→List Bs→Bool
 | _,[]=>true
 | p,k::r=>!(decide (k≠[])&&p.contains k)&&ig (p++[k]) r
def alone (n:Nd):Bool :=
 if n.k=2 then isText n.x&&decide (n.t=[])&&decide (n.y=[])&&decide (n.a=[])&&decide (n.ch=[])
 else decide (n.k=1)&&isName n.t&&(decide (n.y=[])||isName n.y)&&decide (n.x=[])&&decide (n.a.length≤8)&&decide (n.ch.length≤16)&&atOk none n.a&&ig [] (n.ch.map Nd.y)
structure Ti (C:aJ):Prop extends nU C where
 agx:C.fns.get 434=some wQ
 ag1:C.fns.get 519=some aaJ
 ain:C.fns.get 518=some aap
 agU:C.fns.get 562=some adl
theorem amY (H:Ti C) (n:Nd) (c:Nd):FnW C 519 [.agg n.c,.rop c.c]=some (.bool (decide (n.y=c.y))):=by
 rw [aO H.ag1 rfl,Nd.bZ,Nd.bZ]
 by_cases h:n.y=c.y
 · simp [aaJ,h]
 · simp [aaJ,h]
theorem Qm (H:Ti C) (c:Nd) (l:List Nd) (e:Bool) (hl:l.length≤1000000):∀ n i,n+i=l.length →
 ∃ v:Int,yC C ⟨[(8,.int .i64 i),(7,.int .i64 l.length),(1,.fn 519 [.rop c.c]),(0,.ro 6 (l.map Nd.c) e)],[],0⟩=some (.int .i64 v)∧decide (v < 0)=!((l.drop i).map Nd.y).contains c.y:=by
 intro n
 induction n with
 | zero =>
  intro i hi
  simp only [yC];rw [au wu.eq_1]
  have h1:l.drop i=[]:=List.drop_eq_nil_of_le (by omega)
  have h3:¬ i < l.length:=by omega
  exact ⟨-1,by simp [au JQ.eq_1,h3],by simp [h1]⟩
 | succ n ih =>
  intro i hi
  have h1:i < l.length:=by omega
  have hb:=amY H l[i] c
  rw [drop_cons h1]
  by_cases q:l[i].y=c.y
  · refine ⟨i,?_,by simp [q]⟩
    simp only [yC];rw [au wu.eq_1]
    simp (disch:=omega) [h1,hb,q,H.inl,aH,H.pp,ppB]
  · obtain ⟨v,hv,hq⟩:=ih (i+1) (by omega)
    refine ⟨v,?_,?_⟩
    · simp only [yC] at hv ⊢;rw [au wu.eq_1]
      simp at hv
      simp (disch:=omega) [h1,aN,hb,q,H.inl,aH,H.pp,ppB,hv]
    · have q':¬ c.y=l[i].y:=fun h=>q h.symm
      simp [hq,q']
theorem Nq (H:Ti C) (c:Nd) (l:List Nd) (e:Bool) (hl:l.length≤1000000):FnW C 518 [.ro 6 (l.map Nd.c) e,.fn 519 [.rop c.c]]=some (.bool ((l.map Nd.y).contains c.y)):=by
 obtain ⟨v,h,q⟩:=Qm H c l e hl l.length 0 (by simp)
 rw [List.drop_zero] at q
 have h2:FnW C 562 [.ro 6 (l.map Nd.c) e,.fn 519 [.rop c.c]]=some (.int .i64 v):=by
  rw [aO H.agU rfl]
  simp only [yC] at h
  simp at h
  simp [adl,h]
 have q':(l.map Nd.y).contains c.y=!decide (v < 0):=by rw [q];simp
 rw [aO H.ain rfl,q']
 by_cases c:v < 0
 · have c':¬ 0≤v:=by omega
   simp [aap,H.inl,aH,H.pp,ppB,h2,c,c']
 · have c':0≤v:=by omega
   simp [aap,H.inl,aH,H.pp,ppB,h2,c,c']
theorem blt_eq:∀ x y:Bs,Pav.bytesLess x y=decide (x < y)
 | [],[]=>by simp [Pav.bytesLess]
 | [],_::_=>by simp [Pav.bytesLess]
 | _::_,[]=>by simp [Pav.bytesLess]
 | a::x,b::y=>by
  rw [Pav.bytesLess,blt_eq x y]
  by_cases h:a < b
  · simp [h,List.cons_lt_cons_iff]
  · by_cases q:a=b
    · simp [h,q,List.cons_lt_cons_iff]
    · simp [h,q,List.cons_lt_cons_iff]
theorem BJ (x y:Bs):(Pav.bytesLess x y||x == y)=!decide (y < x):=by
 rw [blt_eq]
 by_cases h:y < x
 · have h1:¬ x < y:=fun q=>List.lt_irrefl x (List.lt_trans q h)
   have h2:¬ x=y:=fun q=>by subst q;exact List.lt_irrefl x h
   simp [h,h1,h2]
 · rcases Decidable.em (x=y) with q | q
   · simp [h,q]
   · have h1:x < y:=Classical.byContradiction fun p=>q (List.le_antisymm (List.not_lt.1 h) (List.not_lt.1 p))
     simp [h,h1]
theorem X4 (H:Ti C) (k:Int) (t y x:Bs) (a:List (Bs × Bs)) (ae ce:Bool) (ch:List Nd) (hl:ch.length≤1000000):∀ n i,n+i=ch.length →
 Et C ⟨[(142,.int .i64 i),(141,.int .i64 ch.length),(140,.ro 6 (ch.map Nd.c) ce),(0,.rop [.int .u8 k,.str t,.str y,.ro 2 (a.map eA) ae,.str x,.ro 6 (ch.map Nd.c) ce])],[],0⟩ =
  some (.bool (ig ((ch.map Nd.y).take i) ((ch.map Nd.y).drop i))):=by
 intro n
 induction n with
 | zero =>
  intro i hi
  simp only [Et];rw [au yY.eq_1]
  have h1:(ch.map Nd.y).drop i=[]:=List.drop_eq_nil_of_le (by simp;omega)
  have h3:¬ i < ch.length:=by omega
  simp [au ND.eq_1,h1,h3,ig,-List.map_drop]
 | succ n ih =>
  intro i hi
  have h1:i < ch.length:=by omega
  have h2:i < (ch.map Nd.y).length:=by simp;omega
  have hb:=Nq H ch[i] (ch.take i) false (by simp;omega)
  have:=ih (i+1) (by omega)
  rw [List.take_succ_eq_append_getElem h2] at this
  rw [drop_cons h2,ig]
  have hy:(ch.map Nd.y)[i]=ch[i].y:=by simp
  rw [List.map_take,List.map_take] at hb
  rw [hy] at this ⊢
  have hne:¬ i=ch.length:=by omega
  have hle:i≤ch.length:=by omega
  simp only [Et] at this ⊢;rw [au yY.eq_1]
  generalize hP:(ch.map Nd.y).take i=P at *
  generalize hQ:(ch.map Nd.y).drop (i+1)=Q at *
  simp at this
  by_cases c1:ch[i].y=[]
  · rw [c1] at this
    simp (disch:=omega) [h1,aN,c1,H.inl,aH,H.pp,ppB,this]
  · by_cases c2:P.contains ch[i].y=true
    · rw [c2] at hb
      have c2':ch[i].y ∈ P:=by simpa using c2
      simp (disch:=omega) [h1,hne,hle,aN,c1,c2',hb,H.inl,aH,H.pp,ppB,this]
    · have c2':¬ ch[i].y ∈ P:=by simpa using c2
      have c3:P.contains ch[i].y=false:=by simpa using c2
      rw [c3] at hb
      simp (disch:=omega) [h1,hne,hle,aN,c1,c2',hb,H.inl,aH,H.pp,ppB,this]
theorem Gh (H:Ti C) (k:Int) (t y x:Bs) (a:List (Bs × Bs)) (ae ce:Bool) (ch:List Nd) (hl:ch.length≤1000000) (ha:a.length≤1000000):∀ n i,n+i=a.length →
 zh C ⟨[(103,.int .i64 i),(102,.int .i64 a.length),(101,.ro 2 (a.map eA) ae),(0,.rop [.int .u8 k,.str t,.str y,.ro 2 (a.map eA) ae,.str x,.ro 6 (ch.map Nd.c) ce])],[],0⟩ =
  some (.bool (atOk (if i=0 then none else (a[i - 1]?).map Prod.fst) (a.drop i)&&ig [] (ch.map Nd.y))):=by
 intro n
 induction n with
 | zero =>
  intro i hi
  have hk:=X4 H k t y x a ae ce ch hl ch.length 0 (by simp)
  simp only [List.take_zero,List.drop_zero] at hk
  generalize ig [] (ch.map Nd.y)=K at *
  simp only [Et] at hk
  simp at hk
  simp only [zh];rw [au zQ.eq_1]
  have h1:a.drop i=[]:=List.drop_eq_nil_of_le (by omega)
  have h3:¬ i < a.length:=by omega
  simp [au Md.eq_1,h1,h3,atOk,hk]
 | succ n ih =>
  intro i hi
  have h1:i < a.length:=by omega
  have hb:=named_ok H.tonU a[i].1
  have hc:=Vu H.tonU a[i].2
  have:=ih (i+1) (by omega)
  rw [if_neg (by omega),show i+1 - 1=i from rfl,List.getElem?_eq_getElem h1] at this
  rw [drop_cons h1,atOk]
  generalize hK:ig [] (ch.map Nd.y)=K at *
  simp only [zh] at this ⊢;rw [au zQ.eq_1]
  simp only [Option.map_some] at this
  generalize atOk (some a[i].1) (a.drop (i+1))=R at *
  simp at this
  cases q1:isName a[i].1
  · rw [q1] at hb
    simp (disch:=omega) [h1,aN,hb,H.inl,aH,H.pp,ppB]
  · cases q2:isText a[i].2
    · rw [q1] at hb;rw [q2] at hc
      simp (disch:=omega) [h1,aN,hb,hc,H.inl,aH,H.pp,ppB]
    · rw [q1] at hb;rw [q2] at hc
      cases i with
      | zero =>
       simp at this
       simp (disch:=omega) [h1,aN,hb,hc,H.inl,aH,H.pp,ppB,this,after]
      | succ i =>
       have h4:i < a.length:=by omega
       have h5:(i:Int)+1 < a.length:=by omega
       simp at this
       by_cases q3:a[i].1 < a[i+1].1
       · have q4:¬ a[i+1].1≤a[i].1:=List.not_le.2 q3
         simp (disch:=omega) [h1,h4,h5,aN,hb,hc,H.inl,aH,H.pp,ppB,this,BJ,after,q3,q4]
       · have q4:a[i+1].1≤a[i].1:=List.not_lt.1 q3
         simp (disch:=omega) [h1,h4,h5,aN,hb,hc,H.inl,aH,H.pp,ppB,this,BJ,after,q3,q4]
theorem Yh (H:Ti C) (n:Nd):FnW C 434 [.rop n.c]=some (.bool (alone n)):=by
 obtain ⟨k,t,y,a,ae,x,ch,ce⟩:=n
 rw [aO H.agx rfl,Nd.bZ]
 simp only []
 unfold alone
 simp only []
 have ht:=named_ok H.tonU t
 have hy:=named_ok H.tonU y
 have hx:=Vu H.tonU x
 by_cases k2:k=2
 · rw [if_pos k2]
   generalize isText x=X at *
   cases X
   · simp [wQ,k2,hx,H.inl,aH,H.pp,ppB]
   · by_cases c1:t=[] <;> by_cases c2:y=[] <;> by_cases c3:a=[] <;> by_cases c4:ch=[] <;> simp [wQ,k2,hx,H.inl,aH,H.pp,ppB,c1,c2,c3,c4]
 · rw [if_neg k2]
   by_cases k1:k=1
   · cases q1:isName t
     · rw [q1] at ht;simp [wQ,k1,ht,H.inl,aH,H.pp,ppB]
     · rw [q1] at ht
       by_cases c2:y=[]
       · subst c2
         by_cases c3:x=[]
         · subst c3
           by_cases c4:a.length≤8
           · by_cases c5:ch.length≤16
             · have c6:¬ 8 < (a.length:Int):=by omega
               have c7:¬ 16 < (ch.length:Int):=by omega
               have hl:=Gh H 1 t [] [] a ae ce ch (by omega) (by omega) a.length 0 (by simp)
               simp only [zh,if_true,List.drop_zero] at hl
               generalize atOk none a=A at *
               generalize ig [] (ch.map Nd.y)=K at *
               simp at hl
               simp [wQ,k1,ht,H.inl,aH,H.pp,ppB,c4,c5,c6,c7,hl]
             · have c6:¬ 8 < (a.length:Int):=by omega
               have c7:16 < (ch.length:Int):=by omega
               simp [wQ,k1,ht,H.inl,aH,H.pp,ppB,c4,c5,c6,c7]
           · have c6:8 < (a.length:Int):=by omega
             simp [wQ,k1,ht,H.inl,aH,H.pp,ppB,c4,c6]
         · simp [wQ,k1,ht,H.inl,aH,H.pp,ppB,c3]
       · cases q2:isName y
         · rw [q2] at hy;simp [wQ,k1,ht,hy,H.inl,aH,H.pp,ppB,c2]
         · rw [q2] at hy
           by_cases c3:x=[]
           · subst c3
             by_cases c4:a.length≤8
             · by_cases c5:ch.length≤16
               · have c6:¬ 8 < (a.length:Int):=by omega
                 have c7:¬ 16 < (ch.length:Int):=by omega
                 have hl:=Gh H 1 t y [] a ae ce ch (by omega) (by omega) a.length 0 (by simp)
                 simp only [zh,if_true,List.drop_zero] at hl
                 generalize atOk none a=A at *
                 generalize ig [] (ch.map Nd.y)=K at *
                 simp at hl
                 simp [wQ,k1,ht,hy,H.inl,aH,H.pp,ppB,c2,c4,c5,c6,c7,hl]
               · have c6:¬ 8 < (a.length:Int):=by omega
                 have c7:16 < (ch.length:Int):=by omega
                 simp [wQ,k1,ht,hy,H.inl,aH,H.pp,ppB,c2,c4,c5,c6,c7]
             · have c6:8 < (a.length:Int):=by omega
               simp [wQ,k1,ht,hy,H.inl,aH,H.pp,ppB,c2,c4,c6]
           · simp [wQ,k1,ht,hy,H.inl,aH,H.pp,ppB,c2,c3]
   · simp [wQ,k1,k2,H.inl,aH,H.pp,ppB]
end Go.D
end
section
namespace Go.D
open Go Go.Pav Go.Pw P
attribute [-simp] List.getElem_cons_drop
variable {C:aJ}
mutual
/-- The walk below a node: whether it ends well, how many nodes, how many levels. -/
def wk:Nd→Nat→Nat × Nat→Bool × (Nat × Nat)
 | ⟨k,t,y,a,ae,x,ch,ce⟩,lv,(c,d)=>if 6 < lv∨64 < c+1∨alone ⟨k,t,y,a,ae,x,ch,ce⟩=false then (false,(c+1,max d lv)) else wks ch (lv+1) (c+1,max d lv)
def wks:List Nd→Nat→Nat × Nat→Bool × (Nat × Nat)
 | [],_,s=>(true,s)
 | m::r,lv,s=>if (wk m lv s).1=true then wks r lv (wk m lv s).2 else (false,(wk m lv s).2)
end
theorem aaw (n:Nd) (lv c d:Nat):wk n lv (c,d)=if 6 < lv∨64 < c+1∨alone n=false then (false,(c+1,max d lv)) else wks n.ch (lv+1) (c+1,max d lv):=by cases n;rw [wk]
structure Ot (C:aJ):Prop extends Ti C where
 agI:C.fns.get 433=some Ht
 f282:C.fns.get 282=some ad5
 f140:C.fns.get 140=some aeY
 ahE:C.fns.get 439=some aaf
abbrev hpM (root:Nd) (s:Nat × Nat):aI:=[(0,.cells 6 [root.c] true true),(1,.cells 1 [[.int .i64 s.1]] true true),(2,.cells 1 [[.int .i64 s.2]] true true),(3,.cells 1 [[.fn 433 [.ptr 1 0 0,.ptr 2 0 0,.ptr 3 0 0]]] true false)]
mutual
theorem afs:∀ (n:Nd) (lv c d:Nat),lv≤7→c≤64→d≤7→((wk n lv (c,d)).1=true→(wk n lv (c,d)).2.1≤64)∧(wk n lv (c,d)).2.2≤7
 | ⟨k,t,y,a,ae,x,ch,ce⟩,lv,c,d,h1,h2,h3=>by
  rw [wk]
  split
  · exact ⟨fun q=>by simp at q,by simp only;omega⟩
  · rename_i h
    exact abt ch (lv+1) (c+1) (max d lv) (by omega) (by omega) (by omega)
theorem abt:∀ (l:List Nd) (lv c d:Nat),lv≤7→c≤64→d≤7→((wks l lv (c,d)).1=true→(wks l lv (c,d)).2.1≤64)∧(wks l lv (c,d)).2.2≤7
 | [],lv,c,d,h1,h2,h3=>by rw [wks];exact ⟨fun _=>h2,h3⟩
 | m::r,lv,c,d,h1,h2,h3=>by
  have h4:=afs m lv c d h1 h2 h3
  rw [wks]
  split
  · rename_i h
    exact abt r lv _ _ h1 (h4.1 h) h4.2
  · exact ⟨fun q=>by simp at q,h4.2⟩
end
def Walks (C:aJ) (root nd:Nd):Prop:=∀ (lv c d n:Nat),4≤n→c≤64→d≤7→lv≤7 →
 ∃ n',RnW C 433 [.rop nd.c,.int .i64 lv,.ptr 1 0 0,.ptr 2 0 0,.ptr 3 0 0] (hpM root (c,d)) n=some (.bool (wk nd lv (c,d)).1,hpM root (wk nd lv (c,d)).2,n')
theorem lM (d lv:Nat):imax d lv=((max d lv:Nat):Int):=by
 by_cases h:lv≤d
 · rw [QY (by omega),Nat.max_eq_left h]
 · rw [ahS (by omega),Nat.max_eq_right (by omega)]
theorem Xr (H:Ot C) (root nd:Nd) (X:AV) (hX:X=.rop nd.c∨X=.ptr 0 0 0∧root=nd) (lv n:Nat) (hn:4≤n) (hlv:lv≤6) (hl:nd.ch.length≤16) (ih:∀ m ∈ nd.ch,Walks C root m):∀ j i,j+i=nd.ch.length→∀ c d,c≤64→d≤7 →
 ∃ n',CK C n (iR [.tmp 7]) [.sq MX,.bk 0 ⟨true,[],[]⟩,.sq DL] vI ⟨[(30,.int .i64 i),(29,.int .i64 nd.ch.length),(4,.ptr 3 0 0),(1,.int .i64 lv),(0,X)],hpM root (c,d),n⟩ =
  some (.bool (wks (nd.ch.drop i) (lv+1) (c,d)).1,hpM root (wks (nd.ch.drop i) (lv+1) (c,d)).2,n'):=by
 have n0:0 < n:=by omega
 have n1:1 < n:=by omega
 have n2:2 < n:=by omega
 have n3:3 < n:=by omega
 intro j
 induction j with
 | zero =>
  intro i hi c d hc hd
  have h1:nd.ch.drop i=[]:=List.drop_eq_nil_of_le (by omega)
  have h3:¬ i < nd.ch.length:=by omega
  rw [h1,wks,au vI.eq_1]
  refine ⟨?_,?_⟩
  rotate_left
  · rcases hX with rfl | ⟨rfl,rfl⟩
    · simp (disch:=omega) [au DL.eq_1,n0,n1,n2,n3,h3]
      rfl
    · simp (disch:=omega) [au DL.eq_1,n0,n1,n2,n3,h3]
 | succ j ihj =>
  intro i hi c d hc hd
  have h1:i < nd.ch.length:=by omega
  obtain ⟨n',hw⟩:=ih _ (List.getElem_mem h1) (lv+1) c d (n+1+1+1+11) (by omega) hc hd (by omega)
  have hb:=afs nd.ch[i] (lv+1) c d (by omega) hc hd
  rw [drop_cons h1,wks]
  generalize hR:wk nd.ch[i] (lv+1) (c,d)=R at *
  obtain ⟨r,c',d'⟩:=R
  cases r with
  | true =>
   obtain ⟨n2',hw2⟩:=ihj (i+1) (by omega) c' d' (hb.1 rfl) hb.2
   refine ⟨n2',?_⟩
   rw [if_pos rfl]
   rw [au vI.eq_1]
   simp at hw hw2
   rcases hX with rfl | ⟨rfl,rfl⟩
   · simp (disch:=omega) [aN,H.inl,aH,H.pp,ppB,n0,n1,n2,n3,h1,hw,hw2]
   · simp (disch:=omega) [aN,H.inl,aH,H.pp,ppB,n0,n1,n2,n3,h1,hw,hw2]
  | false =>
   rw [if_neg (by simp)]
   rw [au vI.eq_1]
   simp at hw
   refine ⟨?_,?_⟩
   rotate_left
   · rcases hX with rfl | ⟨rfl,rfl⟩
     · simp (disch:=omega) [aN,H.inl,aH,H.pp,ppB,n0,n1,n2,n3,h1,hw]
       rfl
     · simp (disch:=omega) [aN,H.inl,aH,H.pp,ppB,n0,n1,n2,n3,h1,hw]
theorem Jh (H:Ot C) (root nd:Nd) (X:AV) (hX:X=.rop nd.c∨X=.ptr 0 0 0∧root=nd) (ih:∀ m ∈ nd.ch,Walks C root m) (lv c d n:Nat) (hn:4≤n) (hc:c≤64) (hd:d≤7) (hlv:lv≤7) :
 ∃ n',RnW C 433 [X,.int .i64 lv,.ptr 1 0 0,.ptr 2 0 0,.ptr 3 0 0] (hpM root (c,d)) n=some (.bool (wk nd lv (c,d)).1,hpM root (wk nd lv (c,d)).2,n'):=by
 rw [jR (args:=[X,.int .i64 lv,.ptr 1 0 0,.ptr 2 0 0,.ptr 3 0 0]) H.agI rfl (hpM root (c,d)) n,aaw]
 have ha:=Yh H.toTi nd
 have n0:0 < n:=by omega
 have n1:1 < n:=by omega
 have n2:2 < n:=by omega
 have n3:3 < n:=by omega
 by_cases b1:6 < lv
 · rw [if_pos (.inl b1)]
   refine ⟨?_,?_⟩
   rotate_left
   · rcases hX with rfl | ⟨rfl,rfl⟩
     · simp (disch:=omega) [Ht,aN,H.inl,aH,H.pp,ppB,b1,n0,n1,n2,n3,lM]
       rfl
     · simp (disch:=omega) [Ht,aN,H.inl,aH,H.pp,ppB,b1,n0,n1,n2,n3,lM]
 · by_cases b2:64 < c+1
   · rw [if_pos (.inr (.inl b2))]
     have b2':64 < (c:Int)+1:=by omega
     refine ⟨?_,?_⟩
     rotate_left
     · rcases hX with rfl | ⟨rfl,rfl⟩
       · simp (disch:=omega) [Ht,aN,H.inl,aH,H.pp,ppB,b1,b2',n0,n1,n2,n3,lM]
         rfl
       · simp (disch:=omega) [Ht,aN,H.inl,aH,H.pp,ppB,b1,b2',n0,n1,n2,n3,lM]
   · have b2':¬ 64 < (c:Int)+1:=by omega
     cases b3:alone nd with
     | false =>
      rw [if_pos (.inr (.inr rfl))]
      rw [b3] at ha
      refine ⟨?_,?_⟩
      rotate_left
      · rcases hX with rfl | ⟨rfl,rfl⟩
        · simp (disch:=omega) [Ht,aN,H.inl,aH,H.pp,ppB,b1,b2',ha,n0,n1,n2,n3,lM]
          rfl
        · simp (disch:=omega) [Ht,aN,H.inl,aH,H.pp,ppB,b1,b2',ha,n0,n1,n2,n3,lM]
     | true =>
      rw [if_neg (by simp;omega)]
      have hl:nd.ch.length≤16:=by
       unfold alone at b3
       split at b3
       · simp at b3;rw [b3.2];simp
       · simp at b3;omega
      rw [b3] at ha
      obtain ⟨n',hw⟩:=Xr H root nd X hX lv n hn (by omega) hl ih nd.ch.length 0 (by simp) (c+1) (max d lv) (by omega) (by omega)
      refine ⟨n',?_⟩
      rw [List.drop_zero] at hw
      have hI:=lM d lv
      generalize max d lv=D at *
      generalize wks nd.ch (lv+1) (c+1,D)=R at *
      simp only [hpM] at hw ⊢
      simp at hw
      rcases hX with rfl | ⟨rfl,rfl⟩
      · simp (disch:=omega) [Ht,aN,H.inl,aH,H.pp,ppB,b1,b2',ha,n0,n1,n2,n3,hI,hw]
      · simp (disch:=omega) [Ht,aN,H.inl,aH,H.pp,ppB,b1,b2',ha,n0,n1,n2,n3,hI,hw]
theorem vM (n:Nd):SizeOf.sizeOf n.ch < SizeOf.sizeOf n:=by cases n;simp;omega
theorem walks (H:Ot C) (root nd:Nd):Walks C root nd :=
 fun lv c d n hn hc hd hlv=>Jh H root nd (.rop nd.c) (.inl rfl) (fun m hm=>walks H root m) lv c d n hn hc hd hlv
termination_by SizeOf.sizeOf nd
decreasing_by
 have:=List.sizeOf_lt_of_mem hm
 have:=vM nd
 omega
def cnt (n:Nd):Nat:=if (wk n 1 (0,0)).1=true then (wk n 1 (0,0)).2.1 else 0
def dep (n:Nd):Nat:=if (wk n 1 (0,0)).1=true then (wk n 1 (0,0)).2.2 else 0
theorem TD (H:Ot C) (n:Nd):FnW C 282 [.agg n.c]=some (.tup [.int .i64 (cnt n),.int .i64 (dep n)]):=by
 rw [aO H.f282 rfl]
 have hw:=fun k hk=>Jh H n n (.ptr 0 0 0) (.inr ⟨rfl,rfl⟩) (fun m _=>walks H n m) 1 0 0 k hk (by omega) (by omega) (by omega)
 unfold cnt dep
 generalize wk n 1 (0,0)=R at *
 obtain ⟨r,c,d⟩:=R
 obtain ⟨n',h⟩:=hw 8 (by omega)
 simp only [hpM] at h
 simp at h
 cases r <;> simp [ad5,H.inl,aH,H.pp,ppB,h]
theorem zD (H:Ot C) (n:Nd):FnW C 140 [.agg n.c]=some (.int .i64 (cnt n)):=by
 have h:=TD H n
 rw [aO H.f140 rfl]
 simp [aeY,H.inl,aH,H.pp,ppB,h]
theorem tY (H:Ot C) (n:Nd):FnW C 439 [.agg n.c]=some (.int .i64 (if cnt n=0 then 14 else 0)):=by
 have h:=zD H n
 rw [aO H.ahE rfl]
 by_cases c:cnt n=0
 · simp [aaf,H.inl,aH,H.pp,ppB,h,c]
 · simp [aaf,H.inl,aH,H.pp,ppB,h,c]
end Go.D
end
section
namespace Go.D
open Go Go.Pav Go.Pw P
attribute [-simp] List.getElem_cons_drop
variable {C:aJ}
structure Nb (C:aJ):Prop extends Ot C where
 abQ:C.fns.get 563=some wV
 ahg:C.fns.get 520=some XB
 aic:C.fns.get 442=some Y5
 agN:C.fns.get 441=some aa7
abbrev hp1 (n:Nd):aI:=[(0,.cells 6 [n.c] true true)]
theorem Yc (n:Nd) (i:Nat) (hi:i < n.ch.length) (hl:n.ch.length≤16) (R:AV)
 (hout:vX C ⟨[(5,.int .i64 (i+1:Nat)),(1,.ptr 0 0 0)],hp1 n,1⟩=some R):∀ j k,j+k=i →
 Ew C ⟨[(6,.int .i64 k),(5,.int .i64 i),(1,.ptr 0 0 0)],hp1 n,1⟩=some (if decide (n.ch[i].y≠[])&&(((n.ch.map Nd.y).take i).drop k).contains n.ch[i].y then .bool false else R):=by
 intro j
 induction j with
 | zero =>
  intro k hk
  have h1:((n.ch.map Nd.y).take i).drop k=[]:=List.drop_eq_nil_of_le (by simp;omega)
  have h3:¬ k < i:=by omega
  simp only [vX] at hout
  simp only [Ew];rw [au yL.eq_1]
  simp at hout
  simp (disch:=omega) [au JI.eq_1,h1,h3,aN,hout]
 | succ j ih =>
  intro k hk
  have h1:k < i:=by omega
  have h2:k < n.ch.length:=by omega
  have hlt:k < ((n.ch.map Nd.y).take i).length:=by simp;omega
  have:=ih (k+1) (by omega)
  rw [drop_cons hlt]
  have hy:((n.ch.map Nd.y).take i)[k]=n.ch[k].y:=by simp
  rw [hy]
  generalize (((n.ch.map Nd.y).take i).drop (k+1))=Q at *
  simp only [Ew] at this ⊢;rw [au yL.eq_1]
  simp at this
  by_cases c1:n.ch[i].y=[]
  · simp [c1] at this
    simp (disch:=omega) [h1,h2,hi,aN,c1,this]
  · by_cases c2:n.ch[i].y=n.ch[k].y
    · have c3:¬ n.ch[k].y=[]:=by rw [← c2];exact c1
      simp (disch:=omega) [h1,h2,hi,aN,c1,c2,c3]
    · simp [c1] at this
      simp (disch:=omega) [h1,h2,hi,aN,c1,c2,this]
theorem WT (n:Nd) (hl:n.ch.length≤16):∀ j i,j+i=n.ch.length →
 vX C ⟨[(5,.int .i64 i),(1,.ptr 0 0 0)],hp1 n,1⟩=some (.bool (ig ((n.ch.map Nd.y).take i) ((n.ch.map Nd.y).drop i))):=by
 intro j
 induction j with
 | zero =>
  intro i hi
  simp only [vX];rw [au Ai.eq_1]
  have h1:(n.ch.map Nd.y).drop i=[]:=List.drop_eq_nil_of_le (by simp;omega)
  have h3:¬ i < n.ch.length:=by omega
  simp [au DJ.eq_1,h1,h3,ig,-List.map_drop]
 | succ j ih =>
  intro i hi
  have h1:i < n.ch.length:=by omega
  have h2:i < (n.ch.map Nd.y).length:=by simp;omega
  have hin:=Yc n i h1 hl _ (ih (i+1) (by omega)) i 0 (by simp)
  have hy:(n.ch.map Nd.y)[i]=n.ch[i].y:=by simp
  rw [List.take_succ_eq_append_getElem h2,List.drop_zero,hy] at hin
  rw [drop_cons h2,ig,hy]
  generalize (n.ch.map Nd.y).take i=P at *
  generalize (n.ch.map Nd.y).drop (i+1)=Q at *
  simp only [vX,Ew] at hin ⊢;rw [au Ai.eq_1]
  simp at hin
  by_cases c1:n.ch[i].y=[]
  · simp [c1] at hin
    simp (disch:=omega) [h1,hin,c1]
  · by_cases c2:n.ch[i].y ∈ P
    · simp [c1,c2] at hin
      simp (disch:=omega) [h1,hin,c1,c2]
    · simp [c1,c2] at hin
      simp (disch:=omega) [h1,hin,c1,c2]
theorem abx (n:Nd) (i:Nat) (hi:i < n.a.length) (hl:n.a.length≤8) (R:AV)
 (hout:nO C ⟨[(3,.int .i64 (i+1:Nat)),(1,.ptr 0 0 0)],hp1 n,1⟩=some R):∀ j k,j+k=i →
 pX C ⟨[(4,.int .i64 k),(3,.int .i64 i),(1,.ptr 0 0 0)],hp1 n,1⟩=some (if ((n.a.take i).drop k).all (fun b=>decide (b.1 < n.a[i].1))=true then R else .bool false):=by
 intro j
 induction j with
 | zero =>
  intro k hk
  have h1:(n.a.take i).drop k=[]:=List.drop_eq_nil_of_le (by simp;omega)
  have h3:¬ k < i:=by omega
  simp only [nO] at hout
  simp only [pX];rw [au sF.eq_1]
  simp at hout
  simp (disch:=omega) [au Kz.eq_1,h1,h3,aN,hout]
 | succ j ih =>
  intro k hk
  have h1:k < i:=by omega
  have h2:k < n.a.length:=by omega
  have hlt:k < (n.a.take i).length:=by simp;omega
  have:=ih (k+1) (by omega)
  rw [drop_cons hlt]
  have hy:(n.a.take i)[k]=n.a[k]:=by simp
  rw [hy]
  generalize ((n.a.take i).drop (k+1))=Q at *
  simp only [pX] at this ⊢;rw [au sF.eq_1]
  simp at this
  by_cases c1:n.a[k].1 < n.a[i].1
  · rw [List.all_cons,decide_eq_true c1,Bool.true_and]
    simp (disch:=omega) [h1,h2,hi,aN,blt_eq,c1,this]
  · rw [List.all_cons,decide_eq_false c1,Bool.false_and]
    have c2:n.a[i].1≤n.a[k].1:=List.not_lt.1 c1
    simp (disch:=omega) [h1,h2,hi,aN,blt_eq,c1,c2]
theorem WZ (n:Nd) (i:Nat) (hi:i < n.a.length) (hl:n.a.length≤8):∀ j k,j+k=i→((n.a.take i).drop k).all (fun b=>decide (b.1 < n.a[i].1))=false →
 pX C ⟨[(4,.int .i64 k),(3,.int .i64 i),(1,.ptr 0 0 0)],hp1 n,1⟩=some (.bool false):=by
 intro j
 induction j with
 | zero =>
  intro k hk hf
  have h1:(n.a.take i).drop k=[]:=List.drop_eq_nil_of_le (by simp;omega)
  rw [h1] at hf
  simp at hf
 | succ j ih =>
  intro k hk hf
  have h1:k < i:=by omega
  have h2:k < n.a.length:=by omega
  have hlt:k < (n.a.take i).length:=by simp;omega
  rw [drop_cons hlt] at hf
  have hy:(n.a.take i)[k]=n.a[k]:=by simp
  rw [hy,List.all_cons] at hf
  by_cases c1:n.a[k].1 < n.a[i].1
  · rw [decide_eq_true c1,Bool.true_and] at hf
    have:=ih (k+1) (by omega) hf
    simp only [pX] at this ⊢;rw [au sF.eq_1]
    simp at this
    simp (disch:=omega) [h1,h2,hi,aN,blt_eq,c1,this]
  · have c2:n.a[i].1≤n.a[k].1:=List.not_lt.1 c1
    simp only [pX];rw [au sF.eq_1]
    simp (disch:=omega) [h1,h2,hi,aN,blt_eq,c1,c2]
theorem Xo (H:Nb C) (n:Nd) (hl:n.a.length≤8) (hl2:n.ch.length≤16):∀ j i,j+i=n.a.length→(∀ (p q:Nat) (hp:p < n.a.length) (hq:q < n.a.length),p < q→q < i→n.a[p].1 < n.a[q].1) →
 nO C ⟨[(3,.int .i64 i),(1,.ptr 0 0 0)],hp1 n,1⟩=some (.bool (atOk (if i=0 then none else (n.a[i - 1]?).map Prod.fst) (n.a.drop i)&&ig [] (n.ch.map Nd.y))):=by
 intro j
 induction j with
 | zero =>
  intro i hi hs
  have hk:=WT (C:=C) n hl2 n.ch.length 0 (by simp)
  simp only [List.take_zero,List.drop_zero] at hk
  generalize ig [] (n.ch.map Nd.y)=K at *
  simp only [vX] at hk
  simp at hk
  simp only [nO];rw [au sO.eq_1]
  have h1:n.a.drop i=[]:=List.drop_eq_nil_of_le (by omega)
  have h3:¬ i < n.a.length:=by omega
  simp [au EF.eq_1,h1,h3,atOk,hk]
 | succ j ih =>
  intro i hi hs
  have h1:i < n.a.length:=by omega
  have hb:=oK H.tonU n.a[i].1
  have hc:=zi H.tonU n.a[i].2
  rw [drop_cons h1,atOk]
  generalize hK:ig [] (n.ch.map Nd.y)=K at *
  cases q1:isName n.a[i].1
  · rw [q1] at hb
    simp only [nO];rw [au sO.eq_1]
    simp (disch:=omega) [h1,aN,hb,H.inl,aH,H.pp,ppB]
  · cases q2:isText n.a[i].2
    · rw [q1] at hb;rw [q2] at hc
      simp only [nO];rw [au sO.eq_1]
      simp (disch:=omega) [h1,aN,hb,hc,H.inl,aH,H.pp,ppB]
    · rw [q1] at hb;rw [q2] at hc
      have key:(n.a.take i).all (fun b=>decide (b.1 < n.a[i].1))=after (if i=0 then none else (n.a[i - 1]?).map Prod.fst) n.a[i].1:=by
       cases i with
       | zero=>simp [after]
       | succ i =>
        have h4:i < n.a.length:=by omega
        rw [if_neg (by omega),show i+1 - 1=i from rfl,List.getElem?_eq_getElem h4]
        simp only [Option.map_some,after]
        by_cases q3:n.a[i].1 < n.a[i+1].1
        · rw [decide_eq_true q3,List.all_eq_true]
          intro b hb
          obtain ⟨p,hp,rfl⟩:=List.getElem_of_mem hb
          simp at hp
          rw [List.getElem_take]
          apply decide_eq_true
          by_cases e:p=i
          · subst e;exact q3
          · exact List.lt_trans (hs p i (by omega) h4 (by omega) (by omega)) q3
        · rw [decide_eq_false q3,List.all_eq_false]
          exact ⟨n.a[i],List.mem_take_iff_getElem.2 ⟨i,by omega,rfl⟩,by simp [q3]⟩
      have step:∀ R,pX C ⟨[(4,.int .i64 (0:Nat)),(3,.int .i64 i),(1,.ptr 0 0 0)],hp1 n,1⟩=some R→nO C ⟨[(3,.int .i64 i),(1,.ptr 0 0 0)],hp1 n,1⟩=some R:=by
       intro R hR
       simp only [nO,pX] at hR ⊢;rw [au sO.eq_1]
       simp at hR
       simp (disch:=omega) [h1,aN,hb,hc,H.inl,aH,H.pp,ppB,hR]
      by_cases q3:(n.a.take i).all (fun b=>decide (b.1 < n.a[i].1))=true
      · have:=ih (i+1) (by omega) (fun p q hp hq h5 h6=>by
         by_cases e:q=i
         · subst e
           have:=List.all_eq_true.1 q3 n.a[p] (List.mem_take_iff_getElem.2 ⟨p,by omega,rfl⟩)
           simpa using this
         · exact hs p q hp hq h5 (by omega))
        rw [if_neg (by omega),show i+1 - 1=i from rfl,List.getElem?_eq_getElem h1] at this
        have hin:=abx n i h1 hl _ this i 0 (by simp)
        rw [List.drop_zero,if_pos q3] at hin
        rw [step _ hin,← key,q3]
        simp
      · have q4:(n.a.take i).all (fun b=>decide (b.1 < n.a[i].1))=false:=Bool.eq_false_iff.2 q3
        rw [← key,q4]
        simp only [Bool.and_false,Bool.false_and]
        exact step _ (WZ n i h1 hl i 0 (by simp) (by rw [List.drop_zero];exact q4))
theorem ahu (H:Nb C) (n:Nd):FnW C 563 [.agg n.c]=some (.bool (alone n)):=by
 rw [aO H.abQ rfl]
 unfold alone
 have ht:=oK H.tonU n.t
 have hy:=oK H.tonU n.y
 have hx:=zi H.tonU n.x
 by_cases k2:n.k=2
 · rw [if_pos k2]
   generalize isText n.x=X at *
   cases X
   · simp [wV,k2,hx,H.inl,aH,H.pp,ppB]
   · by_cases c1:n.t=[] <;> by_cases c2:n.y=[] <;> by_cases c3:n.a=[] <;> by_cases c4:n.ch=[] <;> simp [wV,k2,hx,H.inl,aH,H.pp,ppB,c1,c2,c3,c4]
 · rw [if_neg k2]
   by_cases k1:n.k=1
   · cases q1:isName n.t
     · rw [q1] at ht;simp [wV,k1,ht,H.inl,aH,H.pp,ppB]
     · rw [q1] at ht
       have rest:(n.y=[]∨n.y≠[]∧isName n.y=true)→FnW C 563 [.agg n.c]=some (.bool (decide (n.x=[])&&decide (n.a.length≤8)&&decide (n.ch.length≤16)&&atOk none n.a&&ig [] (n.ch.map Nd.y))):=by
        intro hyy
        rw [aO H.abQ rfl]
        by_cases c3:n.x=[]
        · by_cases c4:n.a.length≤8
          · by_cases c5:n.ch.length≤16
            · have c6:¬ 8 < (n.a.length:Int):=by omega
              have c7:¬ 16 < (n.ch.length:Int):=by omega
              have hl:=Xo H n c4 c5 n.a.length 0 (by simp) (by omega)
              simp only [nO,if_true,List.drop_zero] at hl
              generalize atOk none n.a=A at *
              generalize ig [] (n.ch.map Nd.y)=K at *
              simp at hl
              rcases hyy with c2 | ⟨c2,q2⟩
              · simp [wV,k1,ht,H.inl,aH,H.pp,ppB,eq_true c2,eq_true c3,c4,c5,c6,c7,hl]
              · rw [q2] at hy
                simp [wV,k1,ht,hy,H.inl,aH,H.pp,ppB,c2,eq_true c3,c4,c5,c6,c7,hl]
            · have c6:¬ 8 < (n.a.length:Int):=by omega
              have c7:16 < (n.ch.length:Int):=by omega
              rcases hyy with c2 | ⟨c2,q2⟩
              · simp [wV,k1,ht,H.inl,aH,H.pp,ppB,eq_true c2,eq_true c3,c4,c5,c6,c7]
              · rw [q2] at hy
                simp [wV,k1,ht,hy,H.inl,aH,H.pp,ppB,c2,eq_true c3,c4,c5,c6,c7]
          · have c6:8 < (n.a.length:Int):=by omega
            rcases hyy with c2 | ⟨c2,q2⟩
            · simp [wV,k1,ht,H.inl,aH,H.pp,ppB,eq_true c2,eq_true c3,c4,c6]
            · rw [q2] at hy
              simp [wV,k1,ht,hy,H.inl,aH,H.pp,ppB,c2,eq_true c3,c4,c6]
        · rcases hyy with c2 | ⟨c2,q2⟩
          · simp [wV,k1,ht,H.inl,aH,H.pp,ppB,eq_true c2,c3]
          · rw [q2] at hy
            simp [wV,k1,ht,hy,H.inl,aH,H.pp,ppB,c2,c3]
       rw [aO H.abQ rfl] at rest
       by_cases c2:n.y=[]
       · rw [rest (.inl c2)];simp [k1,c2]
       · cases q2:isName n.y
         · rw [q2] at hy;simp [wV,k1,ht,hy,H.inl,aH,H.pp,ppB,c2]
         · rw [rest (.inr ⟨c2,q2⟩)];simp [k1]
   · simp [wV,k1,k2,H.inl,aH,H.pp,ppB]
mutual
/-- The specification's count, with so many levels. -/
def rc:Nd→Nat→Nat
 | _,0=>1000
 | ⟨k,t,y,a,ae,x,ch,ce⟩,lv+1=>if alone ⟨k,t,y,a,ae,x,ch,ce⟩=true then rcs ch lv 1 else 1000
def rcs:List Nd→Nat→Nat→Nat
 | [],_,c=>c
 | m::r,lv,c=>if c≤64 then rcs r lv (c+rc m lv) else c
end
theorem aiq (n:Nd):rc n 0=1000:=by cases n;rw [rc]
theorem aez (n:Nd) (lv:Nat):rc n (lv+1)=if alone n=true then rcs n.ch lv 1 else 1000:=by cases n;rw [rc]
theorem Fe:∀ (l:List Nd) (lv c:Nat),c≤rcs l lv c
 | [],lv,c=>by rw [rcs];exact Nat.le_refl _
 | m::r,lv,c=>by
  rw [rcs]
  split
  · have:=Fe r lv (c+rc m lv);omega
  · exact Nat.le_refl _
theorem afx (n:Nd) (lv:Nat):1≤rc n lv:=by
 cases lv with
 | zero=>rw [aiq];omega
 | succ lv =>
  rw [aez]
  split
  · exact Fe _ _ _
  · omega
mutual
theorem afE:∀ (n:Nd) (lv:Nat),rc n lv≤1000+64 * lv
 | ⟨k,t,y,a,ae,x,ch,ce⟩,0=>by rw [rc];omega
 | ⟨k,t,y,a,ae,x,ch,ce⟩,lv+1=>by
  rw [rc]
  split
  · have:=YV ch lv 1 (by omega);omega
  · omega
theorem YV:∀ (l:List Nd) (lv c:Nat),c≤1064+64 * lv→rcs l lv c≤1064+64 * lv
 | [],lv,c,h=>by rw [rcs];exact h
 | m::r,lv,c,h=>by
  rw [rcs]
  split
  · have h2:=afE m lv
    exact YV r lv _ (by omega)
  · exact h
end
mutual
theorem agc:∀ (n:Nd) (lv L c d:Nat),lv+L=7→c≤64→((wk n L (c,d)).1=true→(wk n L (c,d)).2.1=c+rc n lv∧c+rc n lv≤64)∧((wk n L (c,d)).1=false→64 < c+rc n lv)
 | ⟨k,t,y,a,ae,x,ch,ce⟩,lv,L,c,d,h1,h2=>by
  have hge:=afx ⟨k,t,y,a,ae,x,ch,ce⟩ lv
  rw [wk]
  by_cases q:6 < L∨64 < c+1∨alone ⟨k,t,y,a,ae,x,ch,ce⟩=false
  · rw [if_pos q]
    refine ⟨fun r=>by simp at r,fun _=>?_⟩
    rcases q with q | q | q
    · have:lv=0:=by omega
      subst this
      rw [rc];omega
    · omega
    · cases lv with
      | zero=>rw [rc];omega
      | succ lv=>rw [rc,if_neg (by simp [q])];omega
  · rw [if_neg q]
    cases lv with
    | zero=>omega
    | succ lv =>
     rw [rc,if_pos (by simpa using fun r=>q (.inr (.inr r)))]
     exact Zu ch lv (L+1) c 1 (max d L) (by omega) (by omega)
theorem Zu:∀ (l:List Nd) (lv L g c d:Nat),lv+L=7→g+c≤64→((wks l L (g+c,d)).1=true→(wks l L (g+c,d)).2.1=g+rcs l lv c∧g+rcs l lv c≤64)∧((wks l L (g+c,d)).1=false→64 < g+rcs l lv c)
 | [],lv,L,g,c,d,h1,h2=>by
  rw [wks,rcs];exact ⟨fun _=>⟨rfl,h2⟩,fun r=>by simp at r⟩
 | m::r,lv,L,g,c,d,h1,h2=>by
  have hm:=agc m lv L (g+c) d h1 h2
  have hr:rcs (m::r) lv c=rcs r lv (c+rc m lv):=by rw [rcs,if_pos (by omega)]
  rw [wks,hr]
  generalize wk m L (g+c,d)=R at *
  obtain ⟨b,c',d'⟩:=R
  cases b with
  | true =>
   obtain ⟨e1,e2⟩:=hm.1 rfl
   rw [if_pos rfl]
   simp only at e1
   rw [e1,Nat.add_assoc]
   exact Zu r lv L g (c+rc m lv) d' h1 (by omega)
  | false =>
   have e:=hm.2 rfl
   rw [if_neg (by simp)]
   refine ⟨fun q=>by simp at q,fun _=>?_⟩
   have:=Fe r lv (c+rc m lv)
   omega
end
theorem GN (n:Nd):cnt n=if 64 < rc n 6 then 0 else rc n 6:=by
 have h:=agc n 6 1 0 0 rfl (by omega)
 unfold cnt
 generalize wk n 1 (0,0)=R at *
 obtain ⟨b,c,d⟩:=R
 cases b with
 | true =>
  obtain ⟨e1,e2⟩:=h.1 rfl
  simp only at e1
  rw [if_pos rfl,if_neg (by omega)];simp only;omega
 | false =>
  have e:=h.2 rfl
  rw [if_neg (by simp),if_pos (by omega)]
theorem PN (H:Nb C) (n:Nd) (lv:Nat) (hlv:lv≤5) (hl:n.ch.length≤16) (ih:∀ m ∈ n.ch,FnW C 520 [.agg m.c,.int .i64 lv]=some (.int .i64 (rc m lv))):∀ j i,j+i=n.ch.length→∀ c,c≤1064+64 * lv →
 zA C ⟨[(6,.int .i64 i),(5,.int .i64 c),(2,.ptr 0 0 0),(1,.int .i64 (lv+1:Nat))],hp1 n,1⟩=some (.int .i64 (rcs (n.ch.drop i) lv c)):=by
 intro j
 induction j with
 | zero =>
  intro i hi c hc
  simp only [zA];rw [au vF.eq_1]
  have h1:n.ch.drop i=[]:=List.drop_eq_nil_of_le (by omega)
  have h3:¬ i < n.ch.length:=by omega
  rw [h1,rcs]
  simp [au Ed.eq_1,h3]
 | succ j ihj =>
  intro i hi c hc
  have h1:i < n.ch.length:=by omega
  have hm:=ih _ (List.getElem_mem h1)
  have hle:=afE n.ch[i] lv
  rw [drop_cons h1,rcs]
  by_cases c1:c≤64
  · have:=ihj (i+1) (by omega) (c+rc n.ch[i] lv) (by omega)
    rw [if_pos c1]
    have c2:(c:Int)≤64:=by omega
    simp only [zA] at this ⊢;rw [au vF.eq_1]
    simp at this
    simp (disch:=omega) [h1,c1,c2,aN,hm,H.inl,aH,H.pp,ppB,this]
  · rw [if_neg c1]
    have c2:¬ (c:Int)≤64:=by omega
    simp only [zA];rw [au vF.eq_1]
    simp (disch:=omega) [au Ed.eq_1,h1,c1,c2]
theorem Oq (H:Nb C) (n:Nd) (ih:∀ m ∈ n.ch,∀ lv:Nat,lv≤6→FnW C 520 [.agg m.c,.int .i64 lv]=some (.int .i64 (rc m lv))) (lv:Nat) (hlv:lv≤6):FnW C 520 [.agg n.c,.int .i64 lv]=some (.int .i64 (rc n lv)):=by
 have ho:=ahu H n
 rw [aO H.ahg rfl]
 cases lv with
 | zero=>rw [aiq];simp [XB]
 | succ lv =>
  rw [aez]
  have c1:¬ (lv:Int)+1 < 1:=by omega
  cases ha:alone n with
  | false=>rw [ha] at ho;simp [XB,c1,ho,H.inl,aH,H.pp,ppB]
  | true =>
   rw [ha] at ho
   have hl:n.ch.length≤16:=by
    unfold alone at ha
    split at ha
    · simp at ha;rw [ha.2];simp
    · simp at ha;omega
   have hr:=PN H n lv (by omega) hl (fun m hm=>ih m hm lv (by omega)) n.ch.length 0 (by simp) 1 (by omega)
   rw [List.drop_zero] at hr
   simp only [zA] at hr
   simp at hr
   simp [XB,c1,ho,H.inl,aH,H.pp,ppB,hr]
theorem Ja (H:Nb C) (n:Nd) (lv:Nat) (hlv:lv≤6):FnW C 520 [.agg n.c,.int .i64 lv]=some (.int .i64 (rc n lv)) :=
 Oq H n (fun m hm lv hlv=>Ja H m lv hlv) lv hlv
termination_by SizeOf.sizeOf n
decreasing_by
 have:=List.sizeOf_lt_of_mem hm
 have:=vM n
 omega
theorem BX (H:Nb C) (n:Nd):FnW C 442 [.agg n.c]=some (.int .i64 (cnt n)):=by
 have h:=Ja H n 6 (by omega)
 rw [aO H.aic rfl,GN]
 generalize rc n 6=R at *
 simp at h
 by_cases c:64 < R
 · have c1:64 < (R:Int):=by omega
   simp [Y5,H.inl,aH,H.pp,ppB,h,c,c1]
 · have c1:¬ 64 < (R:Int):=by omega
   simp [Y5,H.inl,aH,H.pp,ppB,h,c,c1]
theorem Jy (H:Nb C) (n:Nd):FnW C 441 [.agg n.c]=some (.int .i64 (if cnt n=0 then 14 else 0)):=by
 have h:=BX H n
 rw [aO H.agN rfl]
 by_cases c:cnt n=0
 · simp [aa7,H.inl,aH,H.pp,ppB,h,c]
 · simp [aa7,H.inl,aH,H.pp,ppB,h,c]
end Go.D
end
