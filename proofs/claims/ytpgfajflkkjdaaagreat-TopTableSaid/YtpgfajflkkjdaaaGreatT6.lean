/- Part of the theory that the claims of this work use: PwP, PwLib, D01, L24, PwGlue, PwGlue2, G00, O01, O02, O03, O04, O06, O05, O07, O08. No conditions of its own. -/
import Derived.Test.YtpgfajflkkjdaaaGreatT5
import Derived.Laws.RangeAny
import Derived.Test.YtpgfajflkkjdaaaGreatChecked
import Derived.KernelRfl
import Derived.ChangeSame
import Derived.ChangeArms
import Derived.ReadAgain
import Derived.Handed
import Derived.JoinedOf
import Derived.RowKit
import Derived.Test.YtpgfajflkkjdaaaGreatRows
import Derived.ProofKit
set_option linter.unusedVariables false
set_option linter.unusedSimpArgs false
set_option maxHeartbeats 4000000
set_option maxRecDepth 10000
section
set_option maxRecDepth 100000
namespace P
open Go Go.Pav Go.Pw Go.Pw.Z Go.Pw.ZC
def w0:WFn:=⟨0,[],zd (O 0 [E .fail])⟩
def w84_c0:WCode:=zd (r (O 157 [ca 106 [],d 6 (m 157)]))
def w84_B0:WCode:=zd (s (s (O 100 [m 18,m 8,ln 1 101,lt 100 102]) (cc 103 (w .skip) (ee 4))) (s (B 5 (s (O 107 [m 9,m 2,E (.cvt .u64 (T 108)),m 18,E (.cvt .u64 (T 110)),ad 109 111,E (.bin .add (T 112) (.c (.int .u64 1))),ca 103 [107,113],d 106 (m 114),ex 0 106,ex 1 106,d 19 (m 115),d 20 (m 116)]) (s (s (Q 117 [m 20,nt 117] [118,20,19,18,9,8,7,2]) (c 118 (O 119 [m 8,m 18,ix 2 119 120,f 0 121,l 1 122,d 19 (m 123)]))) (s (O 125 [h 2 7,m 18,ca 104 [125,126],d 124 (m 127),ex 0 124,ex 1 124,d 21 (m 128),d 22 (m 129)]) (s (O 131 [h 2 7,m 18,ca 105 [131,132],d 130 (m 133),ex 0 130,ex 1 130,d 23 (m 134),d 24 (m 135)]) (s (Q 136 [m 22,m 24,ad 136 137,nei 138 0,m 139,z 140 (m 21),z 140 (m 19),z 140 (ne 141 142),po 140 143,m 144,z 145 (m 23),z 145 (m 20),z 145 (m 147),z 148 (m 8),z 148 (m 18),z 148 (ix 2 149 150),z 148 (f 1 151),z 148 (l 1 152),z 145 (po 148 153),z 145 (E (.eqv 5 [] true (T 146) (T 154))),po 145 155] [156,18,9,8,7,2]) (c 156 (r (O 6 [ff]))))))))) (O 104 [m 18,adi 104 1,d 18 (m 105)])))
def w84_L0:WCode:=.loop ⟨true,[18,9,8,7,2],[]⟩ w84_B0
def w84_c1:WCode:=zd (s (s (Q 82 [h 2 7,ca 98 [82],m 8,ln 1 84,ne 83 85,m 86,z 87 (m 10),z 87 (ca 1102 [88]),z 87 (m 8),z 87 (ln 1 90),z 87 (ne 89 91),po 87 92,m 93,z 94 (m 12),z 94 (m 9),z 94 (ln 1 96),z 94 (gt 95 97),po 94 98] [99,9,8,7,2]) (c 99 (r (O 6 [ff])))) (s (s (O 18 [i 0]) (bk 4 w84_L0 ⟨true,[],[]⟩)) w84_c0))
def w84_B1:WCode:=zd (s (s (O 48 [m 13,m 9,ln 1 49,lt 48 50]) (cc 51 (w .skip) (ee 2))) (s (B 3 (s (O 55 [m 10,m 9,m 13,ix 2 56 57,f 0 58,l 1 59,ca 1100 [55,60],d 54 (m 61),ex 0 54,ex 1 54,d 14 (m 62),d 15 (m 63)]) (s (s (O 64 [m 15,nt 64]) (c 65 (ee 3))) (s (U 67 [h 2 7,m 14,m 9,m 13,ix 2 69 70,f 1 71,l 1 72,E (.call 101 [T 67,T 68,T 73,.c (.bool true)]),d 66 (m 74),ex 0 66,ex 1 66,d 16 (E (.alloc [.nilp,.ro 2 [] true])),n (st 2 16 75),d 17 (m 76)] [(0,11),(6,11),(7,11)] [17,16,13,12,10,9,8,7,2]) (s (s (O 77 [m 17,nei 77 0]) (c 78 (r (O 6 [ff])))) (s (O 79 [h 2 16,n (st 2 7 79)]) (O 80 [m 12,adi 80 1,d 12 (m 81)]))))))) (O 52 [m 13,adi 52 1,d 13 (m 53)])))
def w84_L1:WCode:=.loop ⟨true,[13,12,10,9,8,7,2],[]⟩ w84_B1
def w84_c2:WCode:=zd (s (O 12 [i 0]) (s (s (O 13 [i 0]) (bk 2 w84_L1 ⟨true,[12,10,9,8,7,2],[]⟩)) w84_c1))
def w84_B2:WCode:=zd (s (s (O 32 [m 11,h 2 7,ca 98 [33],lt 32 34]) (cc 35 (w .skip) (ee 0))) (s (B 1 (s (O 38 [m 10,m 2,E (.cvt .u64 (T 39)),m 11,E (.cvt .u64 (T 41)),ad 40 42,E (.bin .add (T 43) (.c (.int .u64 1))),m 11,ca 99 [38,44,45],nei 46 0]) (c 47 (r (Q 6 [ff] [6]))))) (O 36 [m 11,adi 36 1,d 11 (m 37)])))
def w84_L2:WCode:=.loop ⟨true,[11,10,9,8,7,2],[]⟩ w84_B2
def w84:WFn:=⟨3,[.tmp 6],zd (s (O 3 [bx 0,bx 1,d 6 ff]) (s (Q 25 [h 2 3,ca 94 [25],d 7 (E (.alloc [.nilp,.ro 2 [] true])),n (st 2 7 26)] [7,4,3,2]) (s (O 27 [h 2 3,ca 95 [27],d 8 (m 28)]) (s (O 29 [h 1 4,ca 96 [29],d 9 (m 30)]) (s (O 31 [ca 2016 [],d 10 (m 31)]) (s (s (O 11 [i 0]) (bk 0 w84_L2 ⟨true,[10,9,8,7,2],[]⟩)) w84_c2))))))⟩
@[simp] theorem w84_E0:ZL w84_L0 w84_B0 ⟨true,[18,9,8,7,2],[]⟩:=ck_lp rfl
noncomputable abbrev w84_K0 (C:WProg) (s:WSt):Option AV:=CK C 0 (pureFin [.tmp 6]) [.sq w84_L0,.bk 4 ⟨true,[],[]⟩,.sq w84_c0] w84_B0 s
@[simp] theorem w84_E1:ZL w84_L1 w84_B1 ⟨true,[13,12,10,9,8,7,2],[]⟩:=ck_lp rfl
noncomputable abbrev w84_K1 (C:WProg) (s:WSt):Option AV:=CK C 0 (pureFin [.tmp 6]) [.sq w84_L1,.bk 2 ⟨true,[12,10,9,8,7,2],[]⟩,.sq w84_c1] w84_B1 s
@[simp] theorem w84_E2:ZL w84_L2 w84_B2 ⟨true,[11,10,9,8,7,2],[]⟩:=ck_lp rfl
noncomputable abbrev w84_K2 (C:WProg) (s:WSt):Option AV:=CK C 0 (pureFin [.tmp 6]) [.sq w84_L2,.bk 0 ⟨true,[10,9,8,7,2],[]⟩,.sq w84_c2] w84_B2 s
def w94_c0:WCode:=zd (r (O 38 [h 2 4,n (st 2 2 38)]))
def w94_B0:WCode:=zd (s (s (O 11 [m 5,m 3,ln 1 12,lt 11 13]) (cc 14 (w .skip) (ee 0))) (s (B 1 (s (U 18 [h 2 4,m 5,m 3,m 5,ix 2 20 21,f 0 22,l 1 23,E (.buildS [.int .i64 0] 1 [(0,T 24)]),m 3,m 5,ix 2 26 27,f 1 28,l 1 29,ca 188 [18,19,25,30],d 17 (m 31),ex 0 17,ex 1 17,d 6 (E (.alloc [.nilp,.ro 2 [] true])),n (st 2 6 32),d 7 (m 33)] [(0,7),(7,12),(0,17),(6,17),(7,17),(12,17),(13,17)] [7,6,5,4,3,2]) (s (s (O 34 [m 7,nei 34 0]) (c 35 (r (O 36 [ca 187 [],n (st 2 2 36)])))) (O 37 [h 2 6,n (st 2 4 37)])))) (O 15 [m 5,adi 15 1,d 5 (m 16)])))
def w94_L0:WCode:=.loop ⟨true,[5,4,3,2],[]⟩ w94_B0
def w94:WFn:=⟨1,[.cell 2 2 true],zd (s (O 1 [bx 0,E (.alloc [.nilp,.ro 2 [] true])]) (s (O 8 [h 2 1,ca 95 [8],d 3 (m 9)]) (s (O 10 [ca 187 [],d 4 (E (.alloc [.nilp,.ro 2 [] true])),n (st 2 4 10)]) (s (s (O 5 [i 0]) (bk 0 w94_L0 ⟨true,[4,2],[]⟩)) w94_c0))))⟩
@[simp] theorem w94_E0:ZL w94_L0 w94_B0 ⟨true,[5,4,3,2],[]⟩:=ck_lp rfl
noncomputable abbrev w94_K0 (C:WProg) (s:WSt):Option AV:=CK C 0 (pureFin [.cell 2 2 true]) [.sq w94_L0,.bk 0 ⟨true,[4,2],[]⟩,.sq w94_c0] w94_B0 s
def w95_c0:WCode:=zd (s (s (O 34 [f 1 1,l 1 34,m 35,y 36 (m 3),y 36 (ln 1 37),y 36 (gti 38 0),pa 36 39]) (c 40 (O 41 [m 3,E (.idxs 2 (T 41) (N 0)),f 0 42,n (E (.store 1 (T 43) (N 2305843009213693952)))]))) (r (O 44 [m 3,d 2 (m 44)])))
def w95_B0:WCode:=zd (s (s (O 5 [m 4,f 0 1,l 1 6,ln 1 7,lt 5 8,m 9,y 10 (m 4),y 10 (lti 11 60),pa 10 12]) (cc 13 (w .skip) (ee 0))) (s (B 1 (U 16 [m 3,f 0 1,l 1 17,m 4,ix 1 18 19,l 1 20,E (.bin .rem (T 21) (.c (.int .u8 16))),E (.cvt .i64 (T 22)),E (.bin .add (N 1) (T 23)),f 0 1,l 1 25,m 4,ix 1 26 27,l 1 28,E (.bin .gtr (T 29) (.c (.int .u8 127))),E (.build [.int .i64 0,.bool false] [(0,1,T 24),(1,1,T 30)]),E (.buildS [.int .i64 0,.bool false] 1 [(0,T 31)]),E (.app [.int .i64 0,.bool false] 16 false (T 16) (T 32)),d 3 (m 33)] [] [4,3,1])) (O 14 [m 4,adi 14 1,d 4 (m 15)])))
def w95_L0:WCode:=.loop ⟨true,[4,3,1],[]⟩ w95_B0
def w95:WFn:=⟨1,[.tmp 2],zd (s (O 1 [bx 0,E (.mv (.c (.ro 2 [] true)))]) (s (R 3 [E (.mv (.c (.ro 2 [] true)))] ⟨true,[3,1],[(3,2)]⟩) (s (s (O 4 [i 0]) (bk 0 w95_L0 ⟨true,[3,1],[]⟩)) w95_c0)))⟩
@[simp] theorem w95_E0:ZL w95_L0 w95_B0 ⟨true,[4,3,1],[]⟩:=ck_lp rfl
noncomputable abbrev w95_K0 (C:WProg) (s:WSt):Option AV:=CK C 0 (pureFin [.tmp 2]) [.sq w95_L0,.bk 0 ⟨true,[3,1],[]⟩,.sq w95_c0] w95_B0 s
def w96_c0:WCode:=zd (r (O 45 [m 3,d 2 (m 45)]))
def w96_B0:WCode:=zd (s (s (O 6 [m 4,f 0 1,l 1 7,ln 1 8,lt 6 9,m 10,y 11 (m 4),y 11 (lti 12 100),pa 11 13]) (cc 14 (w .skip) (ee 0))) (s (B 1 (s (U 17 [f 0 1,l 1 17,m 4,ix 2 18 19,E (.idxa 2 1 (T 20) (N 0)),l 1 21,E (.bin .rem (T 22) (.c (.int .u8 40))),E (.cvt .u64 (T 23)),E (.bin .add (.c (.int .u64 1)) (T 24)),f 0 1,l 1 26,m 4,ix 2 27 28,E (.idxa 2 1 (T 29) (N 1)),l 1 30,E (.bin .rem (T 31) (.c (.int .u8 40))),E (.cvt .i64 (T 32)),E (.bin .add (N 1) (T 33)),E (.build [.int .u64 0,.int .i64 0] [(0,1,T 25),(1,1,T 34)]),d 5 (E (.alloc [.int .u64 0,.int .i64 0])),n (st 2 5 35)] [(1,19),(5,19),(10,19),(14,19)] [5,4,3,1]) (s (O 36 [m 3,f 0 5,l 1 37,ca 189 [36,38],lti 39 0]) (c 40 (O 41 [m 3,h 2 5,E (.buildS [.int .u64 0,.int .i64 0] 1 [(0,T 42)]),E (.app [.int .u64 0,.int .i64 0] 16 false (T 41) (T 43)),d 3 (m 44)]))))) (O 15 [m 4,adi 15 1,d 4 (m 16)])))
def w96_L0:WCode:=.loop ⟨true,[4,3,1],[]⟩ w96_B0
def w96:WFn:=⟨1,[.tmp 2],zd (s (O 1 [bx 0,E (.mv (.c (.ro 2 [] true)))]) (s (R 3 [E (.mv (.c (.ro 2 [] true)))] ⟨true,[3,1],[(3,2)]⟩) (s (s (O 4 [i 0]) (bk 0 w96_L0 ⟨true,[3],[]⟩)) w96_c0)))⟩
@[simp] theorem w96_E0:ZL w96_L0 w96_B0 ⟨true,[4,3,1],[]⟩:=ck_lp rfl
noncomputable abbrev w96_K0 (C:WProg) (s:WSt):Option AV:=CK C 0 (pureFin [.tmp 2]) [.sq w96_L0,.bk 0 ⟨true,[3],[]⟩,.sq w96_c0] w96_B0 s
def w97:WFn:=⟨0,[.tmp 0],zd (s (O 0 [E (.mv (.c .nilp))]) (r (O 1 [E (.build [.ro 3 [] true,.int .i64 0,.int .i64 0] []),bx 1,d 0 (m 2)])))⟩
def w98:WFn:=⟨1,[.tmp 2],zd (s (O 1 [bx 0,i 0]) (r (O 3 [f 0 1,f 0 3,h 1 4,ca 190 [5],d 2 (m 6)])))⟩
def w99:WFn:=⟨3,[.tmp 6],zd (s (O 6 [i 0]) (s (B 0 (s (O 12 [m 0,E (.eqv 2 [] false (T 12) (.c .nilp)),d 11 (m 13)]) (cc 11 (r (O 6 [i 2])) (s (O 15 [m 1,E (.bin .eql (T 15) (.c (.int .u64 0))),d 14 (m 16)]) (c 14 (r (O 6 [i 9]))))))) (s (s (Q 17 [m 0,nk 17,f 0 18,l 1 19,ln 1 20,gti 21 0] [22,2,1,0]) (c 22 (s (O 24 [m 0,m 1,ca 1191 [24,25],d 23 (m 26),ex 0 23,ex 1 23,d 7 (m 27),d 8 (m 28)]) (s (O 29 [m 8]) (c 29 (s (O 30 [m 0,nk 30,f 0 31,l 1 32,m 7,m 2,ix 3 33 34,f 2 36,n (st 1 37 35)]) (r (O 6 [i 0])))))))) (s (s (Q 38 [m 0,nk 38,f 1 39,l 1 40,eqi 41 4096] [42,2,1,0]) (c 42 (r (O 6 [i 3])))) (s (s (V 43 [m 0,nk 43,f 1 44,l 1 45,m 0,nk 47,f 2 48,l 1 49,ad 46 50,adi 51 1,E (.bin .mul (N 4) (T 52)),m 0,nk 54,f 0 55,l 1 56,ln 1 57,E (.bin .mul (N 3) (T 58)),gt 53 59] [] ⟨false,[],[]⟩) (c 60 (Q 61 [m 0,m 0,nk 62,f 1 63,l 1 64,adi 65 1,ca 192 [61,66]] [2,1,0]))) (s (O 69 [m 0,m 1,ca 1191 [69,70],d 68 (m 71),ex 0 68,ex 1 68,d 9 (m 72),d 10 (m 73)]) (s (s (O 74 [m 0,nk 74,f 0 75,l 1 76,m 9,ix 3 77 78,f 0 79,l 1 80,E (.bin .eql (T 81) (.c (.int .u8 2)))]) (c 82 (Q 83 [m 0,nk 83,f 2 84,l 1 85,sbi 86 1,nk 83,f 2 88,n (st 1 89 87)] [9,2,1,0]))) (s (O 90 [m 0,nk 90,f 0 91,l 1 92,m 9,m 1,m 2,E (.build [.int .u8 0,.int .u64 0,.int .i64 0] [(0,1,.c (.int .u8 1)),(1,1,T 95),(2,1,T 96)]),ix 3 93 94,n (st 3 98 97)]) (s (O 99 [m 0,nk 99,f 1 100,l 1 101,adi 102 1,nk 99,f 1 104,n (st 1 105 103)]) (r (O 6 [i 0])))))))))))⟩
def w1100:WFn:=⟨2,[.tmp 4,.tmp 5],zd (s (O 4 [i 0,ff]) (s (s (O 7 [m 0,ca 1102 [7],eqi 8 0]) (c 9 (r (Q 4 [i 0,ff] [5,4])))) (s (O 11 [m 0,m 1,ca 1191 [11,12],d 10 (m 13),ex 0 10,ex 1 10,d 6 (m 14),d 5 (m 15)]) (s (s (O 16 [m 5,nt 16]) (c 17 (r (O 4 [i 0,ff])))) (r (O 18 [m 0,nk 18,f 0 19,l 1 20,m 6,ix 3 21 22,f 2 23,l 1 24,d 4 (m 25),d 5 tt]))))))⟩
def w101:WFn:=⟨4,[.cell 8 2 true,.tmp 9],zd (s (O 8 [d 4 (bx 0),E (.alloc [.nilp,.ro 2 [] true]),i 0]) (s (s (O 12 [m 1,gei 12 0,m 13,y 14 (m 1),y 14 (h 2 4),y 14 (ca 98 [16]),y 14 (lt 15 17),pa 14 18,m 19,y 20 (m 2),y 20 (ca 193 [21]),pa 20 22]) (c 23 (r (O 24 [E (.build [.nilp,.ro 2 [] true] []),n (st 2 8 24),d 9 (i 12)])))) (s (Q 26 [f 0 4,f 0 26,h 1 27,m 1,m 2,ca 194 [28,29,30],d 25 (m 31),ex 0 25,ex 1 25,d 10 (E (.alloc [.nilp])),n (st 1 10 32),d 11 (m 33)] [11,10,8,4,3,1]) (s (s (O 34 [m 11,nei 34 0]) (c 35 (r (O 36 [E (.build [.nilp,.ro 2 [] true] []),m 11,n (st 2 8 36),d 9 (m 37)])))) (r (V 38 [h 1 10,f 1 4,l 1 39,m 1,m 1,adi 42 1,m 3,ca 196 [40,41,43,44],E (.call 195 [T 38,T 45,N 0]),ex 0 46,ex 1 46,n (st 2 8 47),d 9 (m 48)] [(0,7)] ⟨false,[],[]⟩))))))⟩
def w102:WFn:=⟨1,[.tmp 2],zd (s (O 2 [i 0]) (s (s (O 3 [m 0,E (.eqv 2 [] false (T 3) (.c .nilp))]) (c 4 (r (O 2 [i 0])))) (r (O 5 [m 0,nk 5,f 1 6,l 1 7,d 2 (m 8)]))))⟩
def w103_c0:WCode:=zd (r (O 4 [i 0,ff]))
def w103_B0:WCode:=zd (s (O 11 [lt 10 9]) (s (cc 11 (w .skip) (ee 0)) (s (B 1 (s (O 12 [ix 2 8 10,h 2 12,d 7 (E (.alloc [.int .u64 0,.int .i64 0])),n (st 2 7 13)]) (s (O 14 [f 0 7,l 1 14,m 1,eq 15 16]) (c 17 (r (O 18 [f 1 7,l 1 18,d 4 (m 19),d 5 tt])))))) (O 20 [adi 10 1,d 10 (m 20)]))))
def w103_L0:WCode:=.loop ⟨true,[10,9,8,1],[]⟩ w103_B0
def w103:WFn:=⟨2,[.tmp 4,.tmp 5],zd (s (O 4 [i 0,ff]) (s (s (O 8 [m 0,ln 1 8,i 0]) (bk 0 w103_L0 ⟨true,[],[]⟩)) w103_c0))⟩
@[simp] theorem w103_E0:ZL w103_L0 w103_B0 ⟨true,[10,9,8,1],[]⟩:=ck_lp rfl
noncomputable abbrev w103_K0 (C:WProg) (s:WSt):Option AV:=CK C 0 (pureFin [.tmp 4,.tmp 5]) [.sq w103_L0,.bk 0 ⟨true,[],[]⟩,.sq w103_c0] w103_B0 s
def w104:WFn:=⟨2,[.tmp 4,.tmp 5],zd (s (O 4 [d 2 (bx 0),i 0,i 0]) (r (O 6 [f 0 2,f 0 6,h 1 7,m 1,ca 197 [8,9],ex 0 10,ex 1 10,d 4 (m 11),d 5 (m 12)])))⟩
def w105:WFn:=⟨2,[.tmp 4,.tmp 5],zd (s (O 4 [d 2 (bx 0),ff,i 0]) (s (s (O 6 [m 1,lti 6 0,m 7,z 8 (m 1),z 8 (h 2 2),z 8 (ca 98 [10]),z 8 (ge 9 11),po 8 12]) (c 13 (r (O 4 [ff,i 4])))) (r (O 14 [f 1 2,l 1 14,m 1,ca 198 [15,16],d 4 (m 17),d 5 (i 0)]))))⟩
def w106_c0:WCode:=zd (s (Q 113 [h 2 1,E (.call 202 [T 113,N 0,N 1,N 2]),d 112 (m 114),ex 0 112,ex 1 112,d 17 (E (.alloc [.nilp,.ro 2 [] true])),n (st 2 17 115),d 18 (m 116)] [18,17,11,4,3,2]) (s (O 117 [m 3,E (.call 203 [T 117,N 0,N 1,N 2]),d 19 (m 118)]) (s (O 120 [E (.call 62 [N 3,N 0,N 1,N 2]),d 119 (m 120),ex 0 119,ex 1 119,d 20 (E (.alloc [.int .i64 0,.ro 1 [] true])),n (st 2 20 121),d 21 (m 122)]) (s (O 124 [h 2 17,E (.call 204 [T 124,N 15]),d 123 (m 125),ex 0 123,ex 1 123,ex 2 123,d 22 (m 126),d 23 (m 127),d 24 (m 128)]) (s (s (Q 129 [m 2,m 4,ad 129 130,m 11,ad 131 132,m 18,ad 133 134,m 19,ad 135 136,m 21,ad 137 138,m 24,ad 139 140,nei 141 0,m 142,z 143 (m 22),z 143 (nei 144 2),po 143 145,m 146,z 147 (m 23),z 147 (nei 148 1),po 147 149,m 150,z 151 (f 0 17),z 151 (f 0 152),z 151 (h 1 153),z 151 (ca 205 [154]),z 151 (nei 155 17),po 151 156,m 157,z 158 (f 1 20),z 158 (l 1 159),z 158 (ln 1 160),z 158 (nei 161 3),po 158 162,m 163,z 164 (f 1 20),z 164 (l 1 165),z 164 (E (.idxs 1 (T 166) (N 2))),z 164 (l 1 167),z 164 (nei 168 0),po 164 169] [170,22,3]) (c 170 (r (Q 0 [ff] [0])))) (s (O 172 [m 3,m 22,ca 200 [172,173],d 171 (m 174),ex 0 171,ex 1 171,d 25 (m 175),d 26 (m 176)]) (s (O 178 [E (.buildS [.int .i64 0] 3 [(0,N 10),(1,N 4),(2,N 3)]),ca 206 [178],d 177 (m 179),ex 0 177,ex 1 177,d 27 (m 180),d 28 (m 181)]) (s (O 183 [E (.buildS [.int .i64 0] 3 [(0,N 10),(1,N 4),(2,N 3)]),ca 207 [183],d 182 (m 184),ex 0 182,ex 1 182,d 29 (E (.alloc [.nilp])),n (st 1 29 185),d 30 (m 186)]) (s (Q 188 [E (.buildS [.int .i64 0] 3 [(0,N 10),(1,N 4),(2,N 3)]),ca 208 [188],d 187 (m 189),ex 0 187,ex 1 187,d 31 (m 190),d 32 (m 191)] [32,31,30,29,28,27,26,25]) (s (O 193 [E (.call 2209 [N 3]),d 192 (m 193),ex 0 192,ex 1 192,d 33 (m 194),d 34 (m 195)]) (s (O 197 [E (.buildS [.int .i64 0] 2 [(0,N 1),(1,N 2)]),ca 210 [197],d 196 (m 198),ex 0 196,ex 1 196,d 35 (m 199),d 36 (m 200)]) (s (O 202 [E (.buildS [.int .i64 0] 3 [(0,N 7),(1,N 8),(2,N 9)]),E (.buildS [.int .i64 0] 3 [(0,N 8),(1,N 9),(2,N 7)]),ca 211 [202,203],d 201 (m 204),ex 0 201,ex 1 201,d 37 (m 205),d 38 (m 206)]) (r (Q 207 [m 26,m 28,ad 207 208,m 30,ad 209 210,m 32,ad 211 212,m 34,ad 213 214,m 36,ad 215 216,m 38,ad 217 218,eqi 219 0,m 220,y 221 (m 25),y 221 (E (.bin .eql (T 222) (.c (.int .u64 7)))),pa 221 223,m 224,y 225 (m 27),y 225 (m 27),y 225 (ln 1 227),y 225 (sbi 228 1),y 225 (ix 1 226 229),y 225 (l 1 230),y 225 (eqi 231 17),pa 225 232,m 233,y 234 (h 1 29),y 234 (ca 205 [235]),y 234 (eqi 236 17),pa 234 237,m 238,y 239 (m 31),y 239 (ca 212 [240]),y 239 (eqi 241 17),pa 239 242,m 243,y 244 (m 33),y 244 (E (.call 213 [T 245,N 1,.c (.bool true)])),y 244 (eqi 246 0),pa 244 247,m 248,y 249 (m 33),y 249 (ca 214 [250]),y 249 (eqi 251 1),pa 249 252,m 253,y 254 (m 35),y 254 (ca 215 [255]),y 254 (eqi 256 2),pa 254 257,m 258,y 259 (m 37),y 259 (ln 1 260),y 259 (eqi 261 1),pa 259 262,m 263,y 264 (m 37),y 264 (E (.idxs 2 (T 265) (N 0))),y 264 (f 0 266),y 264 (l 1 267),y 264 (eqi 268 7),pa 264 269,d 0 (m 270)] [0]))))))))))))))
def w106_B0:WCode:=zd (s (s (O 78 [m 12,m 9,ln 1 79,lt 78 80]) (cc 81 (w .skip) (ee 2))) (s (B 3 (s (O 85 [m 5,m 9,m 12,ix 2 86 87,f 0 88,l 1 89,ca 1100 [85,90],d 84 (m 91),ex 0 84,ex 1 84,d 13 (m 92),d 14 (m 93)]) (s (U 95 [h 2 1,m 13,m 9,m 12,ix 2 97 98,f 1 99,l 1 100,E (.call 101 [T 95,T 96,T 101,.c (.bool true)]),d 94 (m 102),ex 0 94,ex 1 94,d 15 (E (.alloc [.nilp,.ro 2 [] true])),n (st 2 15 103),d 16 (m 104)] [(0,11),(6,11),(7,11)] [16,15,14,12,11,9,5,4,3,2,1]) (s (s (O 105 [m 14,nt 105,m 106,z 107 (m 16),z 107 (nei 108 0),po 107 109]) (c 110 (r (O 0 [ff])))) (O 111 [h 2 15,n (st 2 1 111)]))))) (O 82 [m 12,adi 82 1,d 12 (m 83)])))
def w106_L0:WCode:=.loop ⟨true,[12,11,9,5,4,3,2,1],[]⟩ w106_B0
def w106_c1:WCode:=zd (s (O 70 [E (.build [.int .u64 0,.int .i64 0] [(0,1,.c (.int .u64 9)),(1,1,N 4)]),E (.build [.int .u64 0,.int .i64 0] [(0,1,.c (.int .u64 7)),(1,1,N 3)]),E (.buildS [.int .u64 0,.int .i64 0] 2 [(0,T 70),(1,T 71)]),d 9 (m 72)]) (s (Q 74 [m 9,E (.call 201 [T 74,N 1]),d 73 (m 75),ex 0 73,ex 1 73,d 10 (m 76),d 11 (m 77)] [11,9,5,4,3,2,1]) (s (s (O 12 [i 0]) (bk 2 w106_L0 ⟨true,[11,4,3,2,1],[]⟩)) w106_c0)))
def w106_B1:WCode:=zd (s (s (O 51 [m 6,lti 51 3]) (cc 52 (w .skip) (ee 0))) (s (B 1 (s (Q 56 [m 3,m 6,ca 200 [56,57],d 55 (m 58),ex 0 55,ex 1 55,d 7 (m 59),d 8 (m 60)] [8,7,6,5,4,3,2,1]) (s (O 61 [m 8,nei 61 0,m 62,z 63 (m 5),z 63 (m 7),z 63 (m 6),z 63 (ca 99 [64,65,66]),z 63 (nei 67 0),po 63 68]) (c 69 (r (O 0 [ff])))))) (O 53 [m 6,adi 53 1,d 6 (m 54)])))
def w106_L1:WCode:=.loop ⟨true,[6,5,4,3,2,1],[]⟩ w106_B1
def w106:WFn:=⟨0,[.tmp 0],zd (s (O 0 [ff]) (s (O 40 [ca 187 [],E (.buildS [.int .i64 0] 3 [(0,N 10),(1,N 10),(2,N 10)]),E (.call 188 [T 40,N 0,T 41,.c (.bool false)]),d 39 (m 42),ex 0 39,ex 1 39,d 1 (E (.alloc [.nilp,.ro 2 [] true])),n (st 2 1 43),d 2 (m 44)]) (s (O 46 [E (.buildS [.int .u64 0] 3 [(0,.c (.int .u64 7)),(1,.c (.int .u64 8)),(2,.c (.int .u64 9))]),ca 2199 [46],d 45 (m 47),ex 0 45,ex 1 45,d 3 (m 48),d 4 (m 49)]) (s (O 50 [ca 2016 [],d 5 (m 50)]) (s (s (O 6 [i 0]) (bk 0 w106_L1 ⟨true,[5,4,3,2,1],[]⟩)) w106_c1)))))⟩
@[simp] theorem w106_E0:ZL w106_L0 w106_B0 ⟨true,[12,11,9,5,4,3,2,1],[]⟩:=ck_lp rfl
@[simp] theorem w106_E1:ZL w106_L1 w106_B1 ⟨true,[6,5,4,3,2,1],[]⟩:=ck_lp rfl
def w187:WFn:=⟨0,[.cell 0 2 true],zd (s (O 0 [E (.alloc [.nilp,.ro 2 [] true])]) (r (O 1 [E (.build [.nilp,.ro 2 [] true] []),n (st 2 0 1)])))⟩
def w188_c0:WCode:=zd (s (O 55 [f 0 4,f 0 55,h 1 56,m 1,m 2,ca 364 [57,58,59],d 54 (m 60),ex 0 54,ex 1 54,d 13 (E (.alloc [.nilp])),n (st 1 13 61),d 14 (m 62)]) (s (s (O 63 [m 14,nei 63 0]) (c 64 (r (O 65 [E (.build [.nilp,.ro 2 [] true] []),m 14,n (st 2 8 65),d 9 (m 66)])))) (s (Q 68 [f 1 4,l 1 68,m 1,m 2,ln 1 71,ca 365 [69,70,72],d 67 (m 73),ex 0 67,ex 1 67,d 15 (m 74),d 14 (m 75)] [15,14,13,8,3,2,1]) (r (V 76 [h 1 13,m 15,m 1,m 1,m 2,ln 1 80,ad 79 81,m 3,ca 196 [77,78,82,83],m 14,ca 195 [76,84,85],ex 0 86,ex 1 86,n (st 2 8 87),d 9 (m 88)] [(0,8)] ⟨false,[],[]⟩)))))
def w188_B0:WCode:=zd (s (O 37 [lt 36 35]) (s (cc 37 (w .skip) (ee 1)) (s (B 2 (s (O 38 [m 36,ix 1 34 36,l 1 39,d 10 (m 38),d 11 (m 40)]) (s (s (O 41 [m 11,ca 193 [41]]) (c 42 (r (O 43 [E (.build [.nilp,.ro 2 [] true] []),n (st 2 8 43),d 9 (i 12)])))) (s (O 44 [m 2,m 10,adi 45 1,E (.slice 1 (T 44) none (some (T 46)) none),ca 363 [47],d 12 (m 48)]) (s (O 49 [m 12,nei 49 0]) (c 50 (r (Q 51 [E (.build [.nilp,.ro 2 [] true] []),m 12,n (st 2 8 51),d 9 (m 52)] [9,8])))))))) (O 53 [adi 36 1,d 36 (m 53)]))))
def w188_L0:WCode:=.loop ⟨true,[36,35,34,8,4,3,2,1],[]⟩ w188_B0
def w188:WFn:=⟨4,[.cell 8 2 true,.tmp 9],zd (s (O 8 [d 4 (bx 0),E (.alloc [.nilp,.ro 2 [] true]),i 0]) (s (B 0 (s (O 17 [m 1,lti 17 0,m 18,z 19 (m 1),z 19 (h 2 4),z 19 (ca 98 [21]),z 19 (gt 20 22),po 19 23,d 16 (m 24)]) (cc 16 (r (Q 25 [E (.build [.nilp,.ro 2 [] true] []),n (st 2 8 25),d 9 (i 4)] [9,8])) (s (O 27 [m 2,ln 1 27,h 2 4,ca 98 [29],E (.bin .sub (N 1024) (T 30)),gt 28 31,d 26 (m 32)]) (c 26 (r (O 33 [E (.build [.nilp,.ro 2 [] true] []),n (st 2 8 33),d 9 (i 3)]))))))) (s (s (O 34 [m 2,ln 1 34,i 0]) (bk 1 w188_L0 ⟨true,[8,4,3,2,1],[]⟩)) w188_c0)))⟩
@[simp] theorem w188_E0:ZL w188_L0 w188_B0 ⟨true,[36,35,34,8,4,3,2,1],[]⟩:=ck_lp rfl
def w189_c0:WCode:=zd (r (O 4 [i (-1)]))
def w189_B0:WCode:=zd (s (s (O 6 [m 5,m 0,ln 1 7,lt 6 8]) (cc 9 (w .skip) (ee 0))) (s (B 1 (s (O 12 [m 0,m 5,ix 2 12 13,f 0 14,l 1 15,m 1,eq 16 17]) (c 18 (r (O 19 [m 5,d 4 (m 19)]))))) (O 10 [m 5,adi 10 1,d 5 (m 11)])))
def w189_L0:WCode:=.loop ⟨true,[5,1,0],[]⟩ w189_B0
def w189:WFn:=⟨2,[.tmp 4],zd (s (O 4 [i 0]) (s (s (O 5 [i 0]) (bk 0 w189_L0 ⟨true,[],[]⟩)) w189_c0))⟩
@[simp] theorem w189_E0:ZL w189_L0 w189_B0 ⟨true,[5,1,0],[]⟩:=ck_lp rfl
noncomputable abbrev w189_K0 (C:WProg) (s:WSt):Option AV:=CK C 0 (pureFin [.tmp 4]) [.sq w189_L0,.bk 0 ⟨true,[],[]⟩,.sq w189_c0] w189_B0 s
def w190:WFn:=⟨1,[.tmp 2],zd (s (O 1 [bx 0,i 0]) (r (O 3 [f 0 1,l 1 3,ca 366 [4],d 2 (m 5)])))⟩
def w191_B0:WCode:=zd (B 1000000 (s (s (s (Q 18 [m 0,nk 18,f 0 19,l 1 20,m 4,ix 3 21 22,h 3 23,d 7 (E (.alloc [.int .u8 0,.int .u64 0,.int .i64 0])),n (st 3 7 24)] [7,6,4,1,0]) (B 0 (s (O 26 [f 0 7,l 1 26,E (.bin .eql (T 27) (.c (.int .u8 1))),m 28,y 29 (f 1 7),y 29 (l 1 30),y 29 (m 1),y 29 (eq 31 32),pa 29 33,d 25 (m 34)]) (cc 25 (r (O 4 [d 35 (m 4),m 35,tt])) (s (O 37 [f 0 7,l 1 37,E (.bin .eql (T 38) (.c (.int .u8 0))),m 39,y 40 (m 6),y 40 (gei 41 0),pa 40 42,d 36 (m 43)]) (cc 36 (r (O 4 [d 44 (m 6),m 44,ff])) (s (O 46 [f 0 7,l 1 46,E (.bin .eql (T 47) (.c (.int .u8 0))),d 45 (m 48)]) (cc 45 (r (O 4 [d 49 (m 4),m 49,ff])) (s (Q 51 [f 0 7,l 1 51,E (.bin .eql (T 52) (.c (.int .u8 2))),m 53,y 54 (m 6),y 54 (lti 55 0),pa 54 56,d 50 (m 57)] [50,6,4,1,0]) (c 50 (O 58 [m 4,d 6 (m 58)]))))))))))) (s (O 59 [m 4,adi 59 1,m 0,nk 61,f 0 62,l 1 63,ln 1 64,E (.bin .rem (T 60) (T 65)),d 4 (m 66)]) (ee 1000000))) (ee 1000001)))
def w191_L0:WCode:=.loop ⟨true,[6,4,1,0],[]⟩ w191_B0
def w191:WFn:=⟨2,[.tmp 4,.tmp 5],zd (s (O 4 [i 0,ff]) (s (O 6 [i (-1)]) (s (V 8 [m 1,ca 367 [8],m 0,nk 10,f 0 11,l 1 12,ln 1 13,E (.cvt .u64 (T 14)),E (.bin .rem (T 9) (T 15)),E (.cvt .i64 (T 16)),d 4 (m 17)] [(1,5),(1,6)] ⟨false,[],[]⟩) (bk 1000001 w191_L0 ⟨true,[5,4],[]⟩))))⟩
@[simp] theorem w191_E0:ZL w191_L0 w191_B0 ⟨true,[6,4,1,0],[]⟩:=ck_lp rfl
noncomputable abbrev w191_K0 (C:WProg) (s:WSt):Option AV:=CK C 0 (pureFin [.tmp 4,.tmp 5]) [.sq w191_L0,.bk 1000001 ⟨true,[5,4],[]⟩] w191_B0 s
def w192_B0:WCode:=zd (s (O 31 [lt 30 29]) (s (cc 31 (w .skip) (ee 2)) (s (B 3 (s (Q 32 [ix 3 28 30,h 3 32,d 7 (E (.alloc [.int .u8 0,.int .u64 0,.int .i64 0])),n (st 3 7 33)] [30,29,28,7,0]) (s (O 34 [f 0 7,l 1 34,E (.bin .eql (T 35) (.c (.int .u8 1)))]) (c 36 (s (O 38 [m 0,f 1 7,l 1 39,ca 1191 [38,40],d 37 (m 41),ex 0 37,ex 1 37,d 8 (m 42),d 9 (m 43)]) (V 44 [m 0,nk 44,f 0 45,l 1 46,m 8,h 3 7,ix 3 47 48,n (st 3 50 49)] [] ⟨false,[],[]⟩)))))) (O 51 [adi 30 1,d 30 (m 51)]))))
def w192_L0:WCode:=.loop ⟨true,[30,29,28,0],[]⟩ w192_B0
def w192_c0:WCode:=zd (s (O 16 [m 0,nk 16,f 0 17,l 1 18,d 5 (m 19)]) (s (O 20 [m 0,m 4,E (.mksl [.int .u8 0,.int .u64 0,.int .i64 0] 24 (T 21) (T 21)),nk 20,f 0 23,n (st 1 24 22)]) (s (O 25 [m 0,nk 25,f 2 26,n (E (.store 1 (T 27) (N 0)))]) (s (O 28 [m 5,ln 1 28,i 0]) (bk 2 w192_L0 ⟨true,[],[]⟩)))))
def w192_B1:WCode:=zd (s (s (Q 10 [m 4,m 1,E (.bin .mul (N 2) (T 11)),lt 10 12] [13,4,1,0]) (cc 13 (w .skip) (ee 0))) (B 1 (O 14 [m 4,E (.bin .mul (T 14) (N 2)),d 4 (m 15)])))
def w192_L1:WCode:=.loop ⟨true,[4,1,0],[]⟩ w192_B1
def w192:WFn:=⟨2,[],zd (s (O 4 [i 8]) (s (bk 0 w192_L1 ⟨true,[4,0],[]⟩) w192_c0))⟩
@[simp] theorem w192_E0:ZL w192_L0 w192_B0 ⟨true,[30,29,28,0],[]⟩:=ck_lp rfl
@[simp] theorem w192_E1:ZL w192_L1 w192_B1 ⟨true,[4,1,0],[]⟩:=ck_lp rfl
def w193:WFn:=⟨1,[.tmp 2],zd (s (O 2 [ff]) (r (O 3 [m 0,lti 3 1,m 4,z 5 (m 0),z 5 (gti 6 2305843009213693952),po 5 7,d 2 (m 8)])))⟩
def w194:WFn:=⟨3,[.cell 6 1 true,.tmp 7],zd (s (O 6 [d 3 (bx 0),E (.alloc [.nilp]),i 0]) (s (O 13 [h 1 3,m 1,ca 197 [13,14],d 12 (m 15),ex 0 12,ex 1 12,d 8 (m 16),d 9 (m 17)]) (s (B 0 (s (Q 19 [m 9,nei 19 0,d 18 (m 20)] [18,9,8,6,3,2,1]) (cc 18 (r (Q 21 [E (.build [.nilp] []),m 9,n (st 1 6 21),d 7 (m 22)] [7,6])) (s (O 24 [m 2,lti 24 0,m 25,z 26 (m 2),z 26 (gti 27 2305843009213693952),po 26 28,d 23 (m 29)]) (cc 23 (r (O 30 [E (.build [.nilp] []),n (st 1 6 30),d 7 (i 12)])) (s (O 32 [m 2,h 1 3,ca 205 [33],m 8,sb 34 35,E (.bin .sub (N 4611686018427387904) (T 36)),gt 32 37,d 31 (m 38)]) (c 31 (r (O 39 [E (.build [.nilp] []),n (st 1 6 39),d 7 (i 13)]))))))))) (s (O 41 [f 0 3,l 1 41,m 1,ca 368 [42,43],d 40 (m 44),ex 0 40,ex 1 40,d 10 (m 45),d 11 (m 46)]) (s (O 48 [m 11,E (.call 368 [T 48,N 1]),d 47 (m 49),ex 0 47,ex 1 47,d 11 (m 51)]) (r (O 52 [m 10,m 2,m 11,ca 369 [52,53,54],E (.build [.nilp] [(0,1,T 55)]),n (st 1 6 56),d 7 (i 0)])))))))⟩
def w195:WFn:=⟨3,[.cell 6 2 true,.tmp 7],zd (s (O 6 [d 3 (bx 0),E (.alloc [.nilp,.ro 2 [] true]),i 0]) (s (s (O 8 [m 2,nei 8 0]) (c 9 (r (O 10 [E (.build [.nilp,.ro 2 [] true] []),m 2,n (st 2 6 10),d 7 (m 11)])))) (r (O 12 [h 1 3,E (.build [.nilp] [(0,1,T 12)]),m 1,E (.build [.nilp,.ro 2 [] true] [(0,1,T 13),(1,1,T 14)]),n (st 2 6 15),d 7 (i 0)]))))⟩
def w196:WFn:=⟨4,[.tmp 8],zd (s (O 8 [E (.mv (.c (.ro 2 [] true)))]) (s (s (Q 13 [m 1,m 2,eq 13 14] [15,3,2,1,0]) (c 15 (r (O 16 [m 0,d 8 (m 16)])))) (s (O 17 [m 1,m 2,E (.build [.int .i64 0,.int .i64 0] [(0,1,T 17),(1,1,T 18)]),E (.buildS [.int .i64 0,.int .i64 0] 1 [(0,T 19)]),d 9 (m 20)]) (s (O 10 [E (.mv (.c (.fn 370 [])))]) (s (s (O 21 [m 3]) (c 21 (O 10 [E (.mv (.c (.fn 371 [])))]))) (s (O 23 [m 10,m 0,m 9,E (.callv (T 23) [T 24,T 25]),d 22 (m 26),ex 0 22,ex 1 22,d 11 (m 27),d 12 (m 28)]) (r (O 29 [m 11,d 8 (m 29)]))))))))⟩
def w197:WFn:=⟨2,[.tmp 4,.tmp 5],zd (s (O 4 [d 2 (bx 0),i 0,i 0]) (s (s (O 6 [m 1,lti 6 0,m 7,z 8 (m 1),z 8 (h 1 2),z 8 (ca 190 [10]),z 8 (ge 9 11),po 8 12]) (c 13 (r (O 4 [i 0,i 4])))) (r (O 14 [f 0 2,l 1 14,m 1,ca 372 [15,16],nk 17,f 2 18,l 1 19,d 4 (m 20),d 5 (i 0)]))))⟩
def w198:WFn:=⟨2,[.tmp 4],zd (s (O 3 [bx 1,ff]) (r (O 5 [m 0,ca 373 [5],eqi 6 0,m 7,y 8 (m 0),y 8 (E (.mkfn 375 [T 3])),y 8 (ca 374 [9,10]),pa 8 11,d 4 (m 12)])))⟩
def w199:WFn:=⟨1,[.tmp 2,.tmp 3],zd (s (O 2 [E (.mv (.c .nilp)),i 0]) (s (O 6 [E (.build [.ro 1 [] true,.int .i64 0,.int .i64 0] []),bx 6,d 4 (m 7)]) (s (s (O 8 [m 4,m 0,E (.call 376 [T 8,N 0,T 9]),d 5 (m 10)]) (s (O 11 [m 5,nei 11 0]) (c 12 (r (O 2 [d 13 (m 5),E (.mv (.c .nilp)),m 13]))))) (r (O 2 [d 14 (m 4),m 14,i 0])))))⟩
def w200:WFn:=⟨2,[.tmp 4,.tmp 5],zd (s (Q 4 [E (.mv (.c (.int .u64 0))),i 0] [1,0]) (s (s (O 8 [m 0,m 1,E (.call 377 [T 8,T 9,N 1]),d 6 (m 10)]) (s (O 11 [m 6,nei 11 0]) (c 12 (s (O 7 [E (.mv (.c (.int .u64 0)))]) (r (O 13 [m 7,m 6,d 4 (m 13),d 5 (m 14)])))))) (r (V 15 [m 0,nk 15,f 0 16,l 1 17,m 0,m 1,ca 1378 [19,20],ix 1 18 21,l 1 22,d 4 (m 23),d 5 (i 0)] [(3,6)] ⟨false,[],[]⟩))))⟩
def w201_c0:WCode:=zd (r (O 4 [i 0,i 0]))
def w201_B0:WCode:=zd (s (O 25 [lt 24 23]) (s (cc 25 (w .skip) (ee 1)) (s (B 2 (s (O 26 [m 24,ix 2 22 24,h 2 27,d 8 (E (.alloc [.int .u64 0,.int .i64 0])),d 7 (m 26),n (st 2 8 28)]) (s (O 29 [h 2 8,m 1,m 6,ca 379 [29,30,31],d 9 (m 32)]) (s (O 33 [m 9,nei 33 0]) (c 34 (r (O 35 [m 7,m 9,d 4 (m 35),d 5 (m 36)]))))))) (O 37 [adi 24 1,d 24 (m 37)]))))
def w201_L0:WCode:=.loop ⟨true,[24,23,22,6,1],[]⟩ w201_B0
def w201:WFn:=⟨2,[.tmp 4,.tmp 5],zd (s (O 4 [i 0,i 0]) (s (B 0 (s (O 11 [m 1,lti 11 1,m 12,z 13 (m 1),z 13 (gti 14 2305843009213693952),po 13 15,d 10 (m 16)]) (cc 10 (r (O 4 [i 0,i 1])) (s (O 18 [m 0,ln 1 18,gti 19 256,d 17 (m 20)]) (c 17 (r (O 4 [i 0,i 3]))))))) (s (O 21 [ca 2016 [],d 6 (m 21)]) (s (s (Q 22 [m 0,ln 1 22,i 0] [24,23,22,6,1]) (bk 1 w201_L0 ⟨true,[],[]⟩)) w201_c0))))⟩
@[simp] theorem w201_E0:ZL w201_L0 w201_B0 ⟨true,[24,23,22,6,1],[]⟩:=ck_lp rfl
def w202:WFn:=primW 3
def w203_c0:WCode:=zd (s (O 53 [m 0,m 1,m 2,ca 384 [53,54,55]]) (r (O 57 [m 0,m 3,m 10,ca 376 [57,58,59],d 8 (m 60)])))
def w203_B0:WCode:=zd (s (O 36 [lt 35 34]) (s (cc 36 (w .skip) (ee 0)) (s (B 1 (s (O 37 [m 35,d 11 (m 37)]) (U 38 [m 10,m 11,m 0,nk 40,f 0 41,l 1 42,m 0,m 1,m 11,ad 45 46,ca 1378 [44,47],ix 1 43 48,l 1 49,ix 1 38 39,n (st 1 51 50)] [(5,10)] [35,34,10,3,2,1,0]))) (O 52 [adi 35 1,d 35 (m 52)]))))
def w203_L0:WCode:=.loop ⟨true,[35,34,10,3,2,1,0],[]⟩ w203_B0
def w203:WFn:=⟨4,[.tmp 8],zd (s (O 8 [i 0]) (s (s (O 12 [m 0,m 1,m 2,ca 377 [12,13,14],d 9 (m 15)]) (s (O 16 [m 9,nei 16 0]) (c 17 (r (Q 18 [m 9,d 8 (m 18)] [8]))))) (s (s (O 19 [m 3,lti 19 0,m 20,z 21 (m 3),z 21 (m 0),z 21 (ca 383 [23]),z 21 (m 2),z 21 (sb 24 25),z 21 (gt 22 26),po 21 27]) (c 28 (r (O 8 [i 4])))) (s (s (O 29 [m 2,eqi 29 0]) (c 30 (r (O 8 [i 0])))) (s (O 31 [m 2,E (.mksl [.int .u64 0] 8 (T 31) (T 31)),d 10 (m 32)]) (s (s (O 33 [m 10,ln 1 33,i 0]) (bk 0 w203_L0 ⟨true,[10,3,2,1,0],[]⟩)) w203_c0))))))⟩
@[simp] theorem w203_E0:ZL w203_L0 w203_B0 ⟨true,[35,34,10,3,2,1,0],[]⟩:=ck_lp rfl
def w62:WFn:=⟨4,[.cell 8 2 true,.tmp 9],zd (s (O 5 [bx 1,bx 2,bx 3,E (.alloc [.int .i64 0,.ro 1 [] true]),i 0]) (s (s (Q 11 [m 0,ca 77 [11],m 12,z 13 (m 0),z 13 (l 1 5),z 13 (l 1 6),z 13 (ca 78 [14,15,16]),po 13 17,m 18,z 19 (l 1 7),z 19 (lti 20 0),po 19 21,m 22,z 23 (l 1 7),z 23 (m 0),z 23 (l 1 6),z 23 (sb 25 26),z 23 (gt 24 27),po 23 28] [29,8,7,6,5,0]) (c 29 (r (O 30 [E (.build [.int .i64 0,.ro 1 [] true] []),n (st 2 8 30),d 9 (i 4)])))) (s (O 31 [E (.mkfn 79 [T 5,T 6]),d 10 (E (.alloc [.nilf])),n (st 1 10 31)]) (r (O 32 [m 0,m 0,E (.mkfn 80 [T 7,T 10,T 6,T 5]),ca 1073 [32,33,34],ex 0 35,ex 1 35,n (st 2 8 36),d 9 (m 37)])))))⟩
def w204:WFn:=⟨2,[.tmp 4,.tmp 5,.tmp 6],zd (s (O 4 [d 2 (bx 0),i 0,i 0,i 0]) (r (O 7 [f 0 2,f 0 7,h 1 8,m 1,ca 385 [9,10],ex 0 11,ex 1 11,ex 2 11,d 4 (m 12),d 5 (m 13),d 6 (m 14)])))⟩
def w205:WFn:=⟨1,[.tmp 2],zd (s (O 1 [bx 0,i 0]) (r (O 3 [f 0 1,l 1 3,ca 386 [4],d 2 (m 5)])))⟩
def w206_c0:WCode:=zd (r (O 2 [d 47 (m 4),m 47,i 0]))
def w206_B0:WCode:=zd (s (O 17 [lt 16 15]) (s (cc 17 (w .skip) (ee 0)) (s (B 1 (s (O 18 [m 16,ix 1 14 16,l 1 19,d 5 (m 18),d 6 (m 20)]) (s (B 2 (s (O 22 [m 6,lti 22 0,m 23,z 24 (m 6),z 24 (gti 25 2305843009213693952),po 24 26,d 21 (m 27)]) (cc 21 (r (O 2 [E (.mv (.c (.ro 1 [] true))),i 12])) (s (Q 29 [m 6,m 4,m 5,ix 1 30 31,l 1 32,E (.bin .sub (N 4611686018427387904) (T 33)),gt 29 34,d 28 (m 35)] [28,16,15,14,6,5,4]) (c 28 (r (O 2 [E (.mv (.c (.ro 1 [] true))),i 13]))))))) (O 36 [m 4,m 5,adi 37 1,m 4,m 5,ix 1 39 40,l 1 41,m 6,ad 42 43,ix 1 36 38,n (st 1 45 44)])))) (O 46 [adi 16 1,d 16 (m 46)]))))
def w206_L0:WCode:=.loop ⟨true,[16,15,14,4],[]⟩ w206_B0
def w206:WFn:=⟨1,[.tmp 2,.tmp 3],zd (s (O 2 [E (.mv (.c (.ro 1 [] true))),i 0]) (s (s (Q 7 [m 0,ln 1 7,gti 8 4096] [9,0]) (c 9 (r (O 2 [E (.mv (.c (.ro 1 [] true))),i 3])))) (s (O 10 [m 0,ln 1 10,adi 11 1,E (.mksl [.int .i64 0] 8 (T 12) (T 12)),d 4 (m 13)]) (s (s (O 14 [m 0,ln 1 14,i 0]) (bk 0 w206_L0 ⟨true,[4],[]⟩)) w206_c0))))⟩
@[simp] theorem w206_E0:ZL w206_L0 w206_B0 ⟨true,[16,15,14,4],[]⟩:=ck_lp rfl
def w207:WFn:=⟨1,[.cell 2 1 true,.tmp 3],zd (s (O 2 [E (.alloc [.nilp]),i 0]) (s (s (O 5 [m 0,ca 363 [5],d 4 (m 6)]) (s (O 7 [m 4,nei 7 0]) (c 8 (r (O 9 [E (.build [.nilp] []),m 4,n (st 1 2 9),d 3 (m 10)]))))) (r (O 11 [m 0,ca 387 [11],E (.build [.nilp] [(0,1,T 12)]),n (st 1 2 13),d 3 (i 0)]))))⟩
def w208_c0:WCode:=zd (r (O 2 [d 34 (m 5),m 34,i 0]))
def w208_B0:WCode:=zd (s (O 25 [lt 24 23]) (s (cc 25 (w .skip) (ee 0)) (s (B 1 (s (O 26 [m 24,ix 1 22 24,l 1 27,d 6 (m 26),d 7 (m 28)]) (O 29 [m 5,m 6,m 7,ca 388 [29,30,31]]))) (O 33 [adi 24 1,d 24 (m 33)]))))
def w208_L0:WCode:=.loop ⟨true,[24,23,22,5],[]⟩ w208_B0
def w208:WFn:=⟨1,[.tmp 2,.tmp 3],zd (s (O 2 [E (.mv (.c .nilp)),i 0]) (s (s (O 8 [m 0,ca 363 [8],d 4 (m 9)]) (s (O 10 [m 4,nei 10 0]) (c 11 (r (O 2 [d 12 (m 4),E (.mv (.c .nilp)),m 12]))))) (s (U 13 [m 0,ln 1 13,E (.mksl [.int .i64 0] 8 (T 14) (T 14)),m 0,ln 1 16,adi 17 1,E (.mksl [.int .i64 0] 8 (T 18) (T 18)),E (.build [.bool false,.ro 1 [] true,.ro 1 [] true,.int .i64 0] [(0,1,.c (.bool true)),(1,1,T 15),(2,1,T 19)]),bx 20,d 5 (m 21)] [(2,4),(1,6),(2,6)] [5,0]) (s (s (O 22 [m 0,ln 1 22,i 0]) (bk 0 w208_L0 ⟨true,[5],[]⟩)) w208_c0))))⟩
@[simp] theorem w208_E0:ZL w208_L0 w208_B0 ⟨true,[24,23,22,5],[]⟩:=ck_lp rfl
def w209:WFn:=⟨1,[.tmp 2,.tmp 3],zd (s (O 2 [E (.mv (.c .nilp)),i 0]) (s (B 0 (s (O 5 [m 0,lti 5 0,d 4 (m 6)]) (cc 4 (r (O 2 [E (.mv (.c .nilp)),i 4])) (s (O 8 [m 0,gti 8 4096,d 7 (m 9)]) (c 7 (r (O 2 [E (.mv (.c .nilp)),i 3]))))))) (r (O 10 [m 0,E (.build [.int .i64 0,.int .i64 0,.int .u64 0,.int .u64 0,.int .u64 0,.int .u64 0,.int .u64 0,.int .u64 0,.int .u64 0,.int .u64 0,.int .u64 0,.int .u64 0,.int .u64 0,.int .u64 0,.int .u64 0,.int .u64 0,.int .u64 0,.int .u64 0,.int .u64 0,.int .u64 0,.int .u64 0,.int .u64 0,.int .u64 0,.int .u64 0,.int .u64 0,.int .u64 0,.int .u64 0,.int .u64 0,.int .u64 0,.int .u64 0,.int .u64 0,.int .u64 0,.int .u64 0,.int .u64 0,.int .u64 0,.int .u64 0,.int .u64 0,.int .u64 0,.int .u64 0,.int .u64 0,.int .u64 0,.int .u64 0,.int .u64 0,.int .u64 0,.int .u64 0,.int .u64 0,.int .u64 0,.int .u64 0,.int .u64 0,.int .u64 0,.int .u64 0,.int .u64 0,.int .u64 0,.int .u64 0,.int .u64 0,.int .u64 0,.int .u64 0,.int .u64 0,.int .u64 0,.int .u64 0,.int .u64 0,.int .u64 0,.int .u64 0,.int .u64 0,.int .u64 0,.int .u64 0] [(0,1,T 10)]),bx 11,d 2 (m 12),d 3 (i 0)]))))⟩
def w210_c0:WCode:=zd (r (O 41 [m 5,ca 392 [41],ex 0 42,ex 1 42,d 2 (m 43),d 3 (m 44)]))
def w210_B0:WCode:=zd (s (O 32 [lt 31 30]) (s (cc 32 (w .skip) (ee 0)) (s (B 1 (s (O 33 [ix 1 29 31,l 1 33,d 7 (m 34)]) (O 35 [m 5,m 7,m 7,adi 37 1,ca 2391 [35,36,38],d 5 (m 39)]))) (O 40 [adi 31 1,d 31 (m 40)]))))
def w210_L0:WCode:=.loop ⟨true,[31,30,29,5],[]⟩ w210_B0
def w210:WFn:=⟨1,[.tmp 2,.tmp 3],zd (s (Q 2 [E (.mv (.c (.ro 2 [] true))),i 0] [0]) (s (O 8 [m 0,ca 390 [8],ca 389 [9],d 4 (m 10)]) (s (s (O 11 [m 4,ln 1 11,gti 12 0,m 13,y 14 (m 4),y 14 (E (.idxs 1 (T 15) (N 0))),y 14 (l 1 16),y 14 (lti 17 0),y 14 (m 18),z 19 (m 4),z 19 (m 4),z 19 (ln 1 21),z 19 (sbi 22 1),z 19 (ix 1 20 23),z 19 (l 1 24),z 19 (gei 25 1073741824),y 14 (po 19 26),pa 14 27]) (c 28 (r (Q 2 [E (.mv (.c (.ro 2 [] true))),i 4] [3,2])))) (s (O 5 [E (.mv (.c (.ro 2 [] true)))]) (s (s (O 29 [m 4,ln 1 29,i 0]) (bk 0 w210_L0 ⟨true,[5],[]⟩)) w210_c0)))))⟩
@[simp] theorem w210_E0:ZL w210_L0 w210_B0 ⟨true,[31,30,29,5],[]⟩:=ck_lp rfl
def w211:WFn:=primW 2
def w212:WFn:=⟨1,[.tmp 2],zd (s (O 2 [i 0]) (s (s (O 3 [m 0,ca 395 [3]]) (c 4 (r (O 2 [i 0])))) (r (O 5 [m 0,nk 5,f 3 6,l 1 7,d 2 (m 8)]))))⟩
def w213:WFn:=⟨3,[.tmp 6],zd (s (O 6 [i 0]) (s (s (O 8 [m 0,m 1,E (.call 396 [T 8,T 9,N 1]),d 7 (m 10)]) (s (O 11 [m 7,nei 11 0]) (c 12 (r (O 13 [m 7,d 6 (m 13)]))))) (s (O 14 [m 0,m 1,m 2,ca 397 [14,15,16]]) (r (O 6 [i 0])))))⟩
def w214:WFn:=⟨1,[.tmp 2],zd (s (O 2 [i 0]) (s (s (O 3 [m 0,E (.eqv 2 [] false (T 3) (.c .nilp))]) (c 4 (r (O 2 [i 0])))) (r (O 5 [m 0,nk 5,f 1 6,l 1 7,d 2 (m 8)]))))⟩
def w215_c0:WCode:=zd (r (O 23 [m 3,d 2 (m 23)]))
def w215_B0:WCode:=zd (s (O 12 [lt 11 10]) (s (cc 12 (w .skip) (ee 0)) (s (B 1 (s (O 13 [ix 2 9 11,h 2 13,d 5 (E (.alloc [.int .i64 0,.int .i64 0])),n (st 2 5 14)]) (O 15 [m 3,f 1 5,l 1 16,f 0 5,l 1 18,sb 17 19,ad 15 20,d 3 (m 21)]))) (O 22 [adi 11 1,d 11 (m 22)]))))
def w215_L0:WCode:=.loop ⟨true,[11,10,9,3],[]⟩ w215_B0
def w215:WFn:=⟨1,[.tmp 2],zd (s (O 2 [i 0]) (s (Q 3 [i 0] [3,0]) (s (s (O 6 [m 0,ca 373 [6],eqi 7 0]) (c 8 (s (O 9 [m 0,ln 1 9,i 0]) (bk 0 w215_L0 ⟨true,[3],[]⟩)))) w215_c0)))⟩
@[simp] theorem w215_E0:ZL w215_L0 w215_B0 ⟨true,[11,10,9,3],[]⟩:=ck_lp rfl
def w363_c0:WCode:=zd (r (O 2 [i 0]))
def w363_B0:WCode:=zd (s (O 12 [lt 11 10]) (s (cc 12 (w .skip) (ee 0)) (s (B 1 (s (Q 13 [ix 1 9 11,l 1 13,d 5 (m 14)] [11,10,9,5,3]) (s (B 2 (s (O 16 [m 5,lti 16 0,m 17,z 18 (m 5),z 18 (gti 19 2305843009213693952),po 18 20,d 15 (m 21)]) (cc 15 (r (O 2 [i 12])) (s (O 23 [m 5,m 3,E (.bin .sub (N 4611686018427387904) (T 24)),gt 23 25,d 22 (m 26)]) (c 22 (r (O 2 [i 13]))))))) (O 27 [m 3,m 5,ad 27 28,d 3 (m 29)])))) (O 30 [adi 11 1,d 11 (m 30)]))))
def w363_L0:WCode:=.loop ⟨true,[11,10,9,3],[]⟩ w363_B0
def w363:WFn:=⟨1,[.tmp 2],zd (s (O 2 [i 0]) (s (s (O 6 [m 0,ln 1 6,gti 7 4096]) (c 8 (r (O 2 [i 3])))) (s (O 3 [i 0]) (s (s (O 9 [m 0,ln 1 9,i 0]) (bk 0 w363_L0 ⟨true,[],[]⟩)) w363_c0))))⟩
@[simp] theorem w363_E0:ZL w363_L0 w363_B0 ⟨true,[11,10,9,3],[]⟩:=ck_lp rfl
def w364:WFn:=⟨3,[.cell 6 1 true,.tmp 7],zd (s (O 6 [d 3 (bx 0),E (.alloc [.nilp]),i 0]) (s (Q 15 [h 1 3,m 1,ca 470 [15,16],d 14 (m 17),ex 0 14,ex 1 14,ex 2 14,d 8 (E (.alloc [.nilp])),d 9 (E (.alloc [.nilp])),n (st 1 8 18),n (st 1 9 19),d 10 (m 20)] [10,9,8,6,3,2]) (s (s (O 21 [m 10,nei 21 0]) (c 22 (r (O 23 [E (.build [.nilp] []),m 10,n (st 1 6 23),d 7 (m 24)])))) (s (O 26 [m 2,ca 207 [26],d 25 (m 27),ex 0 25,ex 1 25,d 11 (E (.alloc [.nilp])),n (st 1 11 28),d 10 (m 29)]) (s (s (O 30 [m 10,nei 30 0]) (c 31 (r (O 32 [E (.build [.nilp] []),m 10,n (st 1 6 32),d 7 (m 33)])))) (s (s (Q 35 [h 1 3,h 1 11,ca 471 [35,36],d 34 (m 37),ex 0 34,ex 1 34,d 12 (E (.alloc [.nilp])),n (st 1 12 38),d 13 (m 39)] [13,11,9,8,6]) (s (O 40 [m 13,nei 40 0]) (c 41 (r (O 42 [E (.build [.nilp] []),m 13,n (st 1 6 42),d 7 (m 43)]))))) (r (V 44 [f 0 8,l 1 44,f 0 11,l 1 46,ca 472 [45,47],f 0 9,l 1 49,ca 472 [48,50],E (.build [.nilp] [(0,1,T 51)]),n (st 1 6 52),d 7 (i 0)] [(4,6)] ⟨false,[],[]⟩))))))))⟩
def w365_c0:WCode:=zd (r (O 71 [m 10,ca 392 [71],ex 0 72,ex 1 72,d 6 (m 73),d 7 (m 74)]))
def w365_B0:WCode:=zd (s (O 47 [lt 46 45]) (s (cc 47 (w .skip) (ee 0)) (s (B 1 (s (O 48 [ix 2 44 46,h 2 48,d 12 (E (.alloc [.int .i64 0,.int .i64 0])),n (st 2 12 49)]) (s (Q 50 [m 10,f 0 12,l 1 51,f 1 12,l 1 53,m 1,E (.mn (T 54) (T 55)),ca 2391 [50,52,56],d 10 (m 57)] [46,45,44,12,10,2,1]) (O 58 [m 10,f 0 12,l 1 59,m 1,E (.mx (T 60) (T 61)),m 2,ad 62 63,f 1 12,l 1 65,m 2,ad 66 67,ca 2391 [58,64,68],d 10 (m 69)])))) (O 70 [adi 46 1,d 46 (m 70)]))))
def w365_L0:WCode:=.loop ⟨true,[46,45,44,10,2,1],[]⟩ w365_B0
def w365:WFn:=⟨3,[.tmp 6,.tmp 7],zd (s (O 6 [E (.mv (.c (.ro 2 [] true))),i 0]) (s (s (O 13 [m 0,m 1,m 2,ca 473 [13,14,15],d 8 (m 16)]) (s (O 17 [m 8,nei 17 0]) (c 18 (r (O 6 [d 19 (m 8),E (.mv (.c (.ro 2 [] true))),m 19]))))) (s (s (O 20 [m 0,ln 1 20,sbi 21 1,d 9 (m 22)]) (s (Q 23 [m 9,gei 23 0,m 24,y 25 (m 0),y 25 (m 9),y 25 (ix 2 26 27),y 25 (f 1 28),y 25 (l 1 29),y 25 (m 1),y 25 (gt 30 31),pa 25 32,m 33,y 34 (m 0),y 34 (m 9),y 34 (ix 2 35 36),y 34 (f 1 37),y 34 (l 1 38),y 34 (m 2),y 34 (ad 39 40),y 34 (gti 41 1073741824),pa 34 42] [43,2,1,0]) (c 43 (r (O 6 [E (.mv (.c (.ro 2 [] true))),i 4]))))) (s (O 10 [E (.mv (.c (.ro 2 [] true)))]) (s (s (O 44 [m 0,ln 1 44,i 0]) (bk 0 w365_L0 ⟨true,[10],[]⟩)) w365_c0)))))⟩
@[simp] theorem w365_E0:ZL w365_L0 w365_B0 ⟨true,[46,45,44,10,2,1],[]⟩:=ck_lp rfl
noncomputable abbrev w365_K0 (C:WProg) (s:WSt):Option AV:=CK C 0 (pureFin [.tmp 6,.tmp 7]) [.sq w365_L0,.bk 0 ⟨true,[10],[]⟩,.sq w365_c0] w365_B0 s
def w366:WFn:=⟨1,[.tmp 2],zd (s (O 2 [i 0]) (s (s (O 3 [m 0,E (.eqv 2 [] false (T 3) (.c .nilp))]) (c 4 (r (O 2 [i 0])))) (r (O 5 [m 0,nk 5,f 3 6,l 1 7,d 2 (m 8)]))))⟩
def w367:WFn:=⟨1,[.tmp 2],zd (s (O 2 [E (.mv (.c (.int .u64 0)))]) (s (O 3 [m 0,m 0,E (.bin .shr (T 4) (.c (.int .u64 30))),E (.bin .xor (T 3) (T 5)),E (.bin .mul (T 6) (.c (.int .u64 13787848793156543929))),d 0 (m 7)]) (s (O 8 [m 0,m 0,E (.bin .shr (T 9) (.c (.int .u64 27))),E (.bin .xor (T 8) (T 10)),E (.bin .mul (T 11) (.c (.int .u64 10723151780598845931))),d 0 (m 12)]) (r (O 13 [m 0,m 0,E (.bin .shr (T 14) (.c (.int .u64 31))),E (.bin .xor (T 13) (T 15)),d 2 (m 16)])))))⟩
def w368:WFn:=⟨2,[.tmp 4,.tmp 5],zd (s (O 4 [E (.mv (.c .nilp)),E (.mv (.c .nilp))]) (s (s (O 7 [m 0,E (.eqv 2 [] false (T 7) (.c .nilp))]) (c 8 (r (O 4 [E (.mv (.c .nilp)),E (.mv (.c .nilp))])))) (s (s (O 9 [m 0,nk 9,f 0 10,l 1 11,ca 366 [12],d 6 (m 13)]) (s (O 14 [m 1,m 6,gt 14 15]) (c 16 (s (Q 18 [m 0,nk 18,f 1 19,l 1 20,m 1,m 6,sb 22 23,sbi 24 1,ca 368 [21,25],d 17 (m 26),ex 0 17,ex 1 17,d 4 (m 27),d 5 (m 28)] [5,4,0]) (r (V 29 [m 0,nk 29,f 0 30,l 1 31,m 0,nk 33,f 2 34,l 1 35,m 4,ca 369 [32,36,37],m 5,d 4 (m 38),d 5 (m 39)] [] ⟨false,[],[]⟩)))))) (s (Q 41 [m 0,nk 41,f 0 42,l 1 43,m 1,ca 368 [44,45],d 40 (m 46),ex 0 40,ex 1 40,d 4 (m 47),d 5 (m 48)] [5,4,0]) (r (V 49 [m 4,m 5,m 0,nk 51,f 2 52,l 1 53,m 0,nk 55,f 1 56,l 1 57,ca 369 [50,54,58],d 4 (m 49),d 5 (m 59)] [] ⟨false,[],[]⟩))))))⟩
def w369:WFn:=⟨3,[.tmp 6],zd (s (O 6 [E (.mv (.c .nilp))]) (s (B 0 (s (O 8 [m 0,ca 474 [8],m 2,ca 474 [10],adi 11 1,gt 9 12,d 7 (m 13)]) (cc 7 (r (V 14 [m 0,nk 14,f 0 15,l 1 16,m 0,nk 18,f 2 19,l 1 20,m 0,nk 22,f 1 23,l 1 24,m 1,m 2,ca 369 [25,26,27],ca 475 [17,21,28],d 6 (m 29)] [(3,14),(7,14)] ⟨false,[],[]⟩)) (s (O 31 [m 2,ca 474 [31],m 0,ca 474 [33],adi 34 1,gt 32 35,d 30 (m 36)]) (c 30 (r (U 37 [m 0,m 1,m 2,nk 39,f 0 40,l 1 41,ca 369 [37,38,42],m 2,nk 44,f 2 45,l 1 46,m 2,nk 48,f 1 49,l 1 50,ca 475 [43,47,51],d 6 (m 52)] [(6,10),(6,14)] [6]))))))) (r (O 53 [m 0,m 1,m 2,ca 476 [53,54,55],d 6 (m 56)]))))⟩
def w370:WFn:=⟨2,[.tmp 4,.tmp 5],zd (s (O 4 [E (.mv (.c (.ro 2 [] true))),i 0]) (r (O 6 [m 0,m 1,E (.call 477 [T 6,T 7,.c (.fn 478 [])]),ex 0 8,ex 1 8,d 4 (m 9),d 5 (m 10)])))⟩
def w371:WFn:=⟨2,[.tmp 4,.tmp 5],zd (s (O 4 [E (.mv (.c (.ro 2 [] true))),i 0]) (r (O 6 [m 0,m 1,E (.call 477 [T 6,T 7,.c (.fn 479 [])]),ex 0 8,ex 1 8,d 4 (m 9),d 5 (m 10)])))⟩
def w372:WFn:=⟨2,[.tmp 4],zd (s (O 4 [E (.mv (.c .nilp))]) (s (s (O 6 [m 0,nk 6,f 0 7,l 1 8,ca 366 [9],d 5 (m 10)]) (B 0 (s (Q 12 [m 1,m 5,lt 12 13,d 11 (m 14)] [11,5,1,0]) (cc 11 (r (O 15 [m 0,nk 15,f 0 16,l 1 17,m 1,ca 372 [18,19],d 4 (m 20)])) (s (O 22 [m 1,m 5,gt 22 23,d 21 (m 24)]) (c 21 (r (O 25 [m 0,nk 25,f 1 26,l 1 27,m 1,m 5,sb 29 30,sbi 31 1,ca 372 [28,32],d 4 (m 33)])))))))) (r (O 34 [m 0,d 4 (m 34)]))))⟩
def w373_c0:WCode:=zd (r (O 2 [i 0]))
def w373_B0:WCode:=zd (s (O 12 [lt 11 10]) (s (cc 12 (w .skip) (ee 0)) (s (B 1 (s (O 13 [ix 2 9 11,h 2 13,d 5 (E (.alloc [.int .i64 0,.int .i64 0])),n (st 2 5 14)]) (s (B 2 (s (Q 16 [f 0 5,l 1 16,lti 17 0,m 18,z 19 (f 0 5),z 19 (l 1 20),z 19 (f 1 5),z 19 (l 1 22),z 19 (ge 21 23),po 19 24,m 25,z 26 (f 1 5),z 26 (l 1 27),z 26 (gti 28 1073741824),po 26 29,d 15 (m 30)] [15,11,10,9,5,3]) (cc 15 (r (O 2 [i 1])) (s (O 32 [f 0 5,l 1 32,m 3,le 33 34,d 31 (m 35)]) (c 31 (r (O 2 [i 16]))))))) (O 36 [f 1 5,l 1 36,d 3 (m 37)])))) (O 38 [adi 11 1,d 11 (m 38)]))))
def w373_L0:WCode:=.loop ⟨true,[11,10,9,3],[]⟩ w373_B0
def w373:WFn:=⟨1,[.tmp 2],zd (s (O 2 [i 0]) (s (s (O 6 [m 0,ln 1 6,gti 7 4096]) (c 8 (r (O 2 [i 3])))) (s (O 3 [i (-1)]) (s (s (O 9 [m 0,ln 1 9,i 0]) (bk 0 w373_L0 ⟨true,[],[]⟩)) w373_c0))))⟩
@[simp] theorem w373_E0:ZL w373_L0 w373_B0 ⟨true,[11,10,9,3],[]⟩:=ck_lp rfl
noncomputable abbrev w373_K0 (C:WProg) (s:WSt):Option AV:=CK C 0 (pureFin [.tmp 2]) [.sq w373_L0,.bk 0 ⟨true,[],[]⟩,.sq w373_c0] w373_B0 s
def w374:WFn:=⟨2,[.tmp 4],zd (s (O 4 [ff]) (r (O 5 [m 0,m 1,ca 480 [5,6],gei 7 0,d 4 (m 8)])))⟩
def w375:WFn:=⟨2,[.tmp 3],zd (s (O 2 [bx 0,ff]) (r (O 4 [f 0 2,l 1 4,l 1 1,le 5 6,m 7,y 8 (l 1 1),y 8 (f 1 2),y 8 (l 1 10),y 8 (lt 9 11),pa 8 12,d 3 (m 13)])))⟩
def w376:WFn:=⟨3,[.tmp 6],zd (s (O 6 [i 0]) (s (s (Q 8 [m 0,m 1,E (.call 377 [T 8,T 9,N 0]),d 7 (m 10)] [7,2,1,0]) (s (O 11 [m 7,nei 11 0]) (c 12 (r (O 13 [m 7,d 6 (m 13)]))))) (s (s (O 14 [m 2,ln 1 14,m 0,ca 383 [16],E (.bin .sub (N 4096) (T 17)),gt 15 18]) (c 19 (r (O 6 [i 3])))) (s (s (O 20 [m 2,ln 1 20,eqi 21 0]) (c 22 (r (O 6 [i 0])))) (s (O 23 [m 0,m 1,ca 481 [23,24]]) (s (O 26 [m 0,m 2,ln 1 27,ca 482 [26,28]]) (s (U 30 [m 0,nk 30,f 1 31,l 1 32,m 0,nk 34,f 0 35,l 1 36,m 0,nk 38,f 1 39,l 1 40,E (.slice 1 (T 37) (some (T 41)) none none),m 2,E (.cpy 1 (T 42) (T 43)),ad 33 44,nk 30,f 1 46,n (st 1 47 45)] [(3,14)] [2,0]) (s (O 48 [m 0,nk 48,f 2 49,l 1 50,m 2,ln 1 52,sb 51 53,nk 48,f 2 55,n (st 1 56 54)]) (r (O 6 [i 0]))))))))))⟩
def w377:WFn:=⟨3,[.tmp 6],zd (s (O 6 [i 0]) (s (B 0 (s (O 8 [m 0,E (.eqv 2 [] false (T 8) (.c .nilp)),d 7 (m 9)]) (cc 7 (r (O 6 [i 2])) (s (Q 11 [m 1,lti 11 0,m 12,z 13 (m 2),z 13 (lti 14 0),po 13 15,m 16,z 17 (m 1),z 17 (m 0),z 17 (ca 383 [19]),z 17 (gt 18 20),po 17 21,m 22,z 23 (m 2),z 23 (m 0),z 23 (ca 383 [25]),z 23 (m 1),z 23 (sb 26 27),z 23 (gt 24 28),po 23 29,d 10 (m 30)] [10]) (c 10 (r (O 6 [i 4]))))))) (r (O 6 [i 0]))))⟩
def w378:WFn:=⟨2,[.tmp 4],zd (s (O 4 [i 0]) (s (s (O 5 [m 1,m 0,nk 6,f 1 7,l 1 8,ge 5 9]) (c 10 (r (O 11 [m 1,m 0,nk 12,f 2 13,l 1 14,ad 11 15,d 4 (m 16)])))) (r (O 17 [m 1,d 4 (m 17)]))))⟩
def w379:WFn:=⟨3,[.tmp 6],zd (s (O 6 [d 3 (bx 0),i 0]) (s (O 10 [m 2,f 0 3,l 1 11,ca 1100 [10,12],d 9 (m 13),ex 0 9,ex 1 9,d 7 (m 14),d 8 (m 15)]) (s (B 0 (s (Q 17 [f 0 3,l 1 17,E (.bin .eql (T 18) (.c (.int .u64 0))),d 16 (m 19)] [16,8,3,2,1]) (cc 16 (r (O 6 [i 9])) (s (O 21 [f 1 3,l 1 21,m 1,lt 22 23,m 24,z 25 (f 1 3),z 25 (l 1 26),z 25 (gti 27 2305843009213693952),po 25 28,d 20 (m 29)]) (cc 20 (r (O 6 [i 12])) (s (O 31 [m 8,d 30 (m 31)]) (c 30 (r (O 6 [i 8]))))))))) (r (O 32 [m 2,f 0 3,l 1 33,E (.call 99 [T 32,T 34,N 0]),d 6 (m 35)])))))⟩
def w380:WFn:=⟨4,[.cell 8 1 true,.tmp 9],zd (s (O 8 [d 4 (bx 0),E (.alloc [.nilp]),i 0]) (s (Q 17 [h 1 4,m 1,m 2,ca 483 [17,18,19],d 16 (m 20),ex 0 16,ex 1 16,ex 2 16,ex 3 16,d 10 (m 21),d 11 (m 22),d 12 (m 23),d 13 (m 24)] [13,12,11,10,8,4,3,2]) (s (s (O 25 [m 13,eqi 25 0,m 26,y 27 (m 3),y 27 (lti 28 0),y 27 (m 29),z 30 (m 3),z 30 (h 1 4),z 30 (ca 190 [32]),z 30 (m 2),z 30 (sb 33 34),z 30 (gt 31 35),y 27 (po 30 36),pa 27 37]) (c 38 (O 13 [i 4]))) (s (s (Q 39 [m 13,nei 39 0] [40,13,12,11,10,8,3]) (c 40 (r (O 41 [E (.build [.nilp] []),m 13,n (st 1 8 41),d 9 (m 42)])))) (s (O 44 [m 10,m 12,ca 472 [44,45],m 3,ca 368 [46,47],d 43 (m 48),ex 0 43,ex 1 43,d 14 (m 49),d 15 (m 50)]) (r (O 51 [m 14,m 11,ca 472 [51,52],m 15,ca 472 [53,54],E (.build [.nilp] [(0,1,T 55)]),n (st 1 8 56),d 9 (i 0)])))))))⟩
def w381_c0:WCode:=zd (r (O 48 [m 9,ca 392 [48],ex 0 49,ex 1 49,d 6 (m 50),d 7 (m 51)]))
def w381_B0:WCode:=zd (s (O 22 [lt 21 20]) (s (cc 22 (w .skip) (ee 0)) (s (B 1 (s (O 23 [ix 2 19 21,h 2 23,d 11 (E (.alloc [.int .i64 0,.int .i64 0])),n (st 2 11 24)]) (s (Q 25 [m 9,f 0 11,l 1 26,f 1 11,l 1 28,m 1,E (.mn (T 29) (T 30)),ca 2391 [25,27,31],d 9 (m 32)] [21,20,19,11,9,2,1]) (O 33 [m 9,f 0 11,l 1 34,m 1,m 2,ad 36 37,E (.mx (T 35) (T 38)),m 2,sb 39 40,f 1 11,l 1 42,m 2,sb 43 44,ca 2391 [33,41,45],d 9 (m 46)])))) (O 47 [adi 21 1,d 21 (m 47)]))))
def w381_L0:WCode:=.loop ⟨true,[21,20,19,9,2,1],[]⟩ w381_B0
def w381:WFn:=⟨3,[.tmp 6,.tmp 7],zd (s (O 6 [E (.mv (.c (.ro 2 [] true))),i 0]) (s (s (O 12 [m 0,m 1,m 2,ca 473 [12,13,14],d 8 (m 15)]) (s (O 16 [m 8,nei 16 0]) (c 17 (r (O 6 [d 18 (m 8),E (.mv (.c (.ro 2 [] true))),m 18]))))) (s (O 9 [E (.mv (.c (.ro 2 [] true)))]) (s (s (O 19 [m 0,ln 1 19,i 0]) (bk 0 w381_L0 ⟨true,[9],[]⟩)) w381_c0))))⟩
@[simp] theorem w381_E0:ZL w381_L0 w381_B0 ⟨true,[21,20,19,9,2,1],[]⟩:=ck_lp rfl
def w383:WFn:=⟨1,[.tmp 2],zd (s (O 2 [i 0]) (s (s (O 3 [m 0,E (.eqv 2 [] false (T 3) (.c .nilp))]) (c 4 (r (O 2 [i 0])))) (r (V 5 [m 0,nk 5,f 0 6,l 1 7,ln 1 8,m 0,nk 10,f 2 11,l 1 12,sb 9 13,d 2 (m 14)] [] ⟨false,[],[]⟩))))⟩
def w384:WFn:=⟨3,[.tmp 6],zd (s (O 6 [i 0]) (s (s (O 8 [m 0,m 1,m 2,ca 377 [8,9,10],d 7 (m 11)]) (s (O 12 [m 7,nei 12 0,m 13,z 14 (m 2),z 14 (eqi 15 0),po 14 16]) (c 17 (r (O 18 [m 7,d 6 (m 18)]))))) (s (O 19 [m 0,m 1,ca 481 [19,20]]) (s (U 22 [m 0,nk 22,f 0 23,l 1 24,m 1,m 0,nk 27,f 2 28,l 1 29,ad 26 30,m 1,m 0,nk 33,f 2 34,l 1 35,ad 32 36,m 2,ad 37 38,E (.slice 1 (T 25) (some (T 31)) (some (T 39)) none),n (E (.clr [.int .u64 0] (T 40)))] [] [2,0]) (s (O 41 [m 0,nk 41,f 2 42,l 1 43,m 2,ad 44 45,nk 41,f 2 47,n (st 1 48 46)]) (r (O 6 [i 0])))))))⟩
def w77:WFn:=⟨1,[.tmp 2],zd (s (O 2 [ff]) (r (O 3 [m 0,lti 3 0,m 4,z 5 (m 0),z 5 (gti 6 4096),po 5 7,d 2 (m 8)])))⟩
def w78:WFn:=⟨3,[.tmp 6],zd (s (O 6 [ff]) (r (O 7 [m 1,lti 7 0,m 8,z 9 (m 2),z 9 (lti 10 0),po 9 11,m 12,z 13 (m 1),z 13 (m 0),z 13 (gt 14 15),po 13 16,m 17,z 18 (m 2),z 18 (m 0),z 18 (m 1),z 18 (sb 20 21),z 18 (gt 19 22),po 18 23,d 6 (m 24)])))⟩
def w79:WFn:=⟨3,[.tmp 4],zd (s (O 4 [i 0]) (s (s (O 5 [m 0,l 1 1,lt 5 6]) (c 7 (r (O 8 [m 0,d 4 (m 8)])))) (r (O 9 [m 0,l 1 2,ad 9 10,d 4 (m 11)]))))⟩
def w73_c0:WCode:=zd (r (O 31 [h 2 8,n (st 2 6 31),d 7 (i 0)]))
def w73_B0:WCode:=zd (s (O 21 [lt 20 19]) (s (cc 21 (w .skip) (ee 0)) (s (B 1 (s (O 22 [m 20,d 9 (m 22)]) (V 23 [f 1 8,l 1 23,m 9,m 2,m 9,E (.callv (T 26) [T 27]),ix 1 24 25,n (st 1 29 28)] [(1,5)] ⟨false,[],[]⟩))) (O 30 [adi 20 1,d 20 (m 30)]))))
def w73_L0:WCode:=.loop ⟨true,[20,19,8,6,2],[]⟩ w73_B0
def w73:WFn:=⟨3,[.cell 6 2 true,.tmp 7],zd (s (O 6 [E (.alloc [.int .i64 0,.ro 1 [] true]),i 0]) (s (O 10 [m 0,E (.build [.int .i64 0,.ro 1 [] true] [(0,1,T 10)]),d 8 (E (.alloc [.int .i64 0,.ro 1 [] true])),n (st 2 8 11)]) (s (s (O 12 [m 1,gti 12 0]) (c 13 (Q 14 [m 1,E (.mksl [.int .i64 0] 8 (T 14) (T 14)),f 1 8,n (st 1 16 15)] [8,6,2]))) (s (s (O 17 [f 1 8,l 1 17,ln 1 18,i 0]) (bk 0 w73_L0 ⟨true,[8,6],[]⟩)) w73_c0))))⟩
@[simp] theorem w73_E0:ZL w73_L0 w73_B0 ⟨true,[20,19,8,6,2],[]⟩:=ck_lp rfl
def w80:WFn:=⟨5,[.tmp 6],zd (s (O 6 [i 0]) (s (B 0 (s (Q 8 [m 0,l 1 1,lt 8 9,d 7 (m 10)] [7,4,3,2,1,0]) (cc 7 (r (O 11 [l 1 2,m 0,E (.callv (T 11) [T 12]),d 6 (m 13)])) (s (O 15 [m 0,l 1 1,l 1 3,ad 16 17,lt 15 18,d 14 (m 19)]) (c 14 (r (O 20 [l 1 4,m 0,ad 20 21,l 1 1,sb 22 23,d 6 (m 24)]))))))) (r (O 25 [l 1 2,m 0,l 1 3,sb 26 27,E (.callv (T 25) [T 28]),d 6 (m 29)]))))⟩
def w385_c0:WCode:=zd (r (O 4 [i 0,i 0,i 4]))
def w385_B0:WCode:=zd (s (s (O 20 [m 7,E (.eqv 2 [] true (T 20) (.c .nilp))]) (cc 21 (w .skip) (ee 0))) (B 1 (s (O 22 [m 7,nk 22,f 0 23,l 1 24,ca 386 [25],d 8 (m 26)]) (B 2 (s (O 48 [m 5,m 8,lt 48 49,d 47 (m 50)]) (cc 47 (O 51 [m 7,nk 51,f 0 52,l 1 53,d 7 (m 54)]) (s (Q 56 [m 5,m 8,m 7,nk 58,f 2 59,l 1 60,ad 57 61,lt 56 62,d 55 (m 63)] [55,8,7,5,4]) (cc 55 (r (O 64 [m 4,m 7,nk 65,f 0 66,l 1 67,ca 366 [68],ad 64 69,m 5,m 8,sb 71 72,d 4 (m 70),d 5 (m 73),d 6 (i 0)])) (s (O 27 [m 5,m 8,m 7,nk 29,f 2 30,l 1 31,ad 28 32,sb 27 33,d 5 (m 34)]) (s (O 35 [m 4,m 7,nk 36,f 0 37,l 1 38,ca 366 [39],adi 40 1,ad 35 41,d 4 (m 42)]) (Q 43 [m 7,nk 43,f 1 44,l 1 45,d 7 (m 46)] [7,5,4])))))))))))
def w385_L0:WCode:=.loop ⟨true,[7,5,4],[]⟩ w385_B0
def w385:WFn:=⟨2,[.tmp 4,.tmp 5,.tmp 6],zd (s (O 4 [d 2 (bx 0),i 0,i 0,i 0]) (s (s (Q 9 [m 1,lti 9 0,m 10,z 11 (m 1),z 11 (h 1 2),z 11 (ca 205 [13]),z 11 (ge 12 14),po 11 15] [16,4,2,1]) (c 16 (r (O 4 [i 0,i 0,i 4])))) (s (O 17 [m 1,d 5 (m 17)]) (s (s (O 18 [f 0 2,l 1 18,d 7 (m 19)]) (bk 0 w385_L0 ⟨true,[],[]⟩)) w385_c0))))⟩
@[simp] theorem w385_E0:ZL w385_L0 w385_B0 ⟨true,[7,5,4],[]⟩:=ck_lp rfl
def w386:WFn:=⟨1,[.tmp 2],zd (s (O 2 [i 0]) (s (s (O 3 [m 0,E (.eqv 2 [] false (T 3) (.c .nilp))]) (c 4 (r (O 2 [i 0])))) (r (O 5 [m 0,nk 5,f 4 6,l 1 7,d 2 (m 8)]))))⟩
def w387:WFn:=⟨1,[.tmp 2],zd (s (Q 2 [E (.mv (.c .nilp))] [0]) (s (s (O 4 [m 0,ln 1 4,eqi 5 0]) (c 6 (r (O 2 [E (.mv (.c .nilp))])))) (s (O 7 [m 0,ln 1 7,E (.bin .quo (T 8) (N 2)),d 3 (m 9)]) (r (V 10 [m 0,m 3,E (.slice 1 (T 10) none (some (T 11)) none),ca 387 [12],m 0,m 3,ix 1 14 15,l 1 16,m 0,m 3,adi 19 1,E (.slice 1 (T 18) (some (T 20)) none none),ca 387 [21],ca 476 [13,17,22],d 2 (m 23)] [(3,7),(7,12)] ⟨false,[],[]⟩)))))⟩
def w388_B0:WCode:=zd (s (s (O 28 [m 7,m 0,nk 29,f 2 30,l 1 31,ln 1 32,lt 28 33]) (cc 34 (w .skip) (ee 0))) (s (B 1 (O 38 [m 0,nk 38,f 2 39,l 1 40,m 7,ix 1 41 42,l 1 43,m 2,ad 44 45,ix 1 41 42,n (st 1 47 46)])) (O 35 [m 6,m 7,E (.callv (T 35) [T 36]),d 7 (m 37)])))
def w388_L0:WCode:=.loop ⟨true,[7,6,2,0],[]⟩ w388_B0
def w388:WFn:=⟨3,[],zd (s (O 8 [m 0,nk 8,f 1 9,l 1 10,m 1,ix 1 11 12,l 1 13,m 2,ad 14 15,ix 1 11 12,n (st 1 17 16)]) (s (O 18 [m 0,nk 18,f 3 19,l 1 20,m 2,ad 21 22,nk 18,f 3 24,n (st 1 25 23)]) (s (O 6 [E (.mv (.c (.fn 485 [])))]) (s (Q 26 [m 1,adi 26 1,d 7 (m 27)] [7,6,2,0]) (bk 0 w388_L0 ⟨true,[],[]⟩)))))⟩
@[simp] theorem w388_E0:ZL w388_L0 w388_B0 ⟨true,[7,6,2,0],[]⟩:=ck_lp rfl
def w389:WFn:=primW 1
def w390:WFn:=⟨1,[.tmp 2],zd (s (O 1 [bx 0,E (.mv (.c .nilf))]) (r (O 3 [E (.mkfn 488 [T 1]),d 2 (m 3)])))⟩
def w391:WFn:=⟨3,[.tmp 6],zd (s (O 6 [E (.mv (.c (.ro 2 [] true)))]) (s (s (O 8 [m 0,ln 1 8,d 7 (m 9)]) (B 0 (s (O 17 [m 1,m 2,ge 17 18,d 16 (m 19)]) (cc 16 (w .skip) (s (Q 21 [m 7,gti 21 0,m 22,y 23 (m 0),y 23 (m 7),y 23 (sbi 25 1),y 23 (ix 2 24 26),y 23 (f 1 27),y 23 (l 1 28),y 23 (m 1),y 23 (ge 29 30),pa 23 31,d 20 (m 32)] [20,7,2,1,0]) (cc 20 (O 33 [m 0,m 7,sbi 34 1,m 0,m 7,sbi 37 1,ix 2 36 38,f 1 39,l 1 40,m 2,E (.mx (T 41) (T 42)),ix 2 33 35,f 1 44,n (st 1 45 43)]) (O 10 [m 0,m 1,m 2,E (.build [.int .i64 0,.int .i64 0] [(0,1,T 11),(1,1,T 12)]),E (.buildS [.int .i64 0,.int .i64 0] 1 [(0,T 13)]),E (.app [.int .i64 0,.int .i64 0] 16 false (T 10) (T 14)),d 0 (m 15)]))))))) (r (O 46 [m 0,d 6 (m 46)]))))⟩
def w392:WFn:=⟨1,[.tmp 2,.tmp 3],zd (s (O 2 [E (.mv (.c (.ro 2 [] true))),i 0]) (s (s (O 4 [m 0,ln 1 4,gti 5 4096]) (c 6 (r (O 2 [E (.mv (.c (.ro 2 [] true))),i 3])))) (r (O 7 [m 0,ca 489 [7],d 2 (m 8),d 3 (i 0)]))))⟩
def w393_c0:WCode:=zd (s (s (O 71 [m 0,ln 1 71,m 1,ln 1 73,ne 72 74]) (c 75 (r (O 4 [E (.mv (.c (.ro 1 [] true))),i 16])))) (r (O 76 [m 12,ca 491 [76],ex 0 77,ex 1 77,d 4 (m 78),d 5 (m 79)])))
def w393_B0:WCode:=zd (s (O 47 [lt 46 45]) (s (cc 47 (w .skip) (ee 4)) (s (B 5 (s (O 48 [m 46,ix 1 44 46,l 1 49,d 13 (m 48),d 14 (m 50)]) (s (O 52 [m 9,m 14,E (.look 0 (.int .i64 0) true (T 52) (T 53)),d 51 (m 54),ex 0 51,ex 1 51,d 15 (m 55),d 16 (m 56)]) (s (s (Q 57 [m 16,nt 57,m 58,z 59 (m 0),z 59 (ln 1 60),z 59 (m 1),z 59 (ln 1 62),z 59 (ne 61 63),po 59 64] [65,46,45,44,15,13,12,9,1,0]) (c 65 (r (O 4 [E (.mv (.c (.ro 1 [] true))),i 16])))) (O 66 [m 12,m 13,m 15,ix 1 66 67,n (st 1 69 68)]))))) (O 70 [adi 46 1,d 46 (m 70)]))))
def w393_L0:WCode:=.loop ⟨true,[46,45,44,12,9,1,0],[]⟩ w393_B0
def w393_c1:WCode:=zd (s (O 41 [m 1,ln 1 41,E (.mksl [.int .i64 0] 8 (T 42) (T 42)),d 12 (m 43)]) (s (s (O 44 [m 1,ln 1 44,i 0]) (bk 4 w393_L0 ⟨true,[12,1,0],[]⟩)) w393_c0))
def w393_B1:WCode:=zd (s (O 33 [lt 32 31]) (s (cc 33 (w .skip) (ee 2)) (s (B 3 (s (O 34 [m 32,ix 1 30 32,l 1 35,d 10 (m 34),d 11 (m 36)]) (Q 37 [m 9,m 11,m 10,n (E (.upd 0 (T 37) (T 38) (T 39)))] [32,31,30,9,1,0]))) (O 40 [adi 32 1,d 32 (m 40)]))))
def w393_L1:WCode:=.loop ⟨true,[32,31,30,9,1,0],[]⟩ w393_B1
def w393_c2:WCode:=zd (s (O 29 [E .mkmap,d 9 (m 29)]) (s (s (O 30 [m 0,ln 1 30,i 0]) (bk 2 w393_L1 ⟨true,[9,1,0],[]⟩)) w393_c1))
def w393_B2:WCode:=zd (s (Q 21 [lti 20 2] [21,20,19,1,0]) (s (cc 21 (w .skip) (ee 0)) (s (B 1 (s (O 22 [E (.idxv 2 1 false (T 19) (T 20)),d 7 (m 22)]) (s (O 23 [m 7,ca 490 [23],d 8 (m 24)]) (s (O 25 [m 8,nei 25 0]) (c 26 (r (O 4 [d 27 (m 8),E (.mv (.c (.ro 1 [] true))),m 27]))))))) (O 28 [adi 20 1,d 20 (m 28)]))))
def w393_L2:WCode:=.loop ⟨true,[20,19,1,0],[]⟩ w393_B2
def w393:WFn:=⟨2,[.tmp 4,.tmp 5],zd (s (O 4 [E (.mv (.c (.ro 1 [] true))),i 0]) (s (s (O 17 [m 0,m 1,E (.build [.ro 1 [] true,.ro 1 [] true] [(0,1,T 17),(1,1,T 18)]),i 0]) (bk 0 w393_L2 ⟨true,[1,0],[]⟩)) w393_c2))⟩
@[simp] theorem w393_E0:ZL w393_L0 w393_B0 ⟨true,[46,45,44,12,9,1,0],[]⟩:=ck_lp rfl
@[simp] theorem w393_E1:ZL w393_L1 w393_B1 ⟨true,[32,31,30,9,1,0],[]⟩:=ck_lp rfl
@[simp] theorem w393_E2:ZL w393_L2 w393_B2 ⟨true,[20,19,1,0],[]⟩:=ck_lp rfl
def w395:WFn:=⟨1,[.tmp 2],zd (s (O 2 [ff]) (r (O 3 [m 0,E (.eqv 2 [] false (T 3) (.c .nilp)),m 4,z 5 (m 0),z 5 (nk 6),z 5 (f 0 7),z 5 (l 1 8),z 5 (nt 9),po 5 10,d 2 (m 11)])))⟩
def w396:WFn:=⟨3,[.tmp 6],zd (s (O 6 [i 0]) (s (B 0 (s (O 8 [m 0,E (.eqv 2 [] false (T 8) (.c .nilp)),d 7 (m 9)]) (cc 7 (r (O 6 [i 2])) (s (Q 11 [m 1,lti 11 0,m 12,z 13 (m 2),z 13 (lti 14 0),po 13 15,m 16,z 17 (m 1),z 17 (m 0),z 17 (nk 19),z 17 (f 0 20),z 17 (l 1 21),z 17 (gt 18 22),po 17 23,m 24,z 25 (m 2),z 25 (m 0),z 25 (nk 27),z 25 (f 0 28),z 25 (l 1 29),z 25 (m 1),z 25 (sb 30 31),z 25 (gt 26 32),po 25 33,d 10 (m 34)] [10]) (c 10 (r (O 6 [i 4]))))))) (r (O 6 [i 0]))))⟩
def w397:WFn:=⟨3,[],zd (s (O 6 [m 0,m 1,ca 493 [6,7],m 2,E (.eqv 5 [] true (T 8) (T 9))]) (c 10 (s (U 11 [m 0,m 1,E (.bin .quo (T 12) (N 64)),nk 11,f 2 14,E (.idxa 64 1 (T 15) (T 13)),l 1 16,m 1,E (.bin .rem (T 18) (N 64)),E (.bin .shl (.c (.int .u64 1)) (T 19)),E (.bin .xor (T 17) (T 20)),nk 11,f 2 22,E (.idxa 64 1 (T 23) (T 13)),n (st 1 24 21)] [] [2,0]) (s (O 25 [m 2]) (cc 25 (O 26 [m 0,nk 26,f 1 27,l 1 28,adi 29 1,nk 26,f 1 31,n (st 1 32 30)]) (O 33 [m 0,nk 33,f 1 34,l 1 35,sbi 36 1,nk 33,f 1 38,n (st 1 39 37)]))))))⟩
def w470:WFn:=⟨2,[.cell 4 1 true,.cell 5 1 true,.tmp 6],zd (s (O 4 [d 2 (bx 0),E (.alloc [.nilp]),E (.alloc [.nilp]),i 0]) (s (s (Q 9 [m 1,lti 9 0,m 10,z 11 (m 1),z 11 (h 1 2),z 11 (ca 190 [13]),z 11 (gt 12 14),po 11 15] [16,5,4,2,1]) (c 16 (r (O 17 [E (.build [.nilp] []),E (.build [.nilp] []),n (st 1 4 17),n (st 1 5 18),d 6 (i 4)])))) (s (O 20 [f 0 2,l 1 20,m 1,ca 368 [21,22],d 19 (m 23),ex 0 19,ex 1 19,d 7 (m 24),d 8 (m 25)]) (r (O 26 [m 7,E (.build [.nilp] [(0,1,T 26)]),m 8,E (.build [.nilp] [(0,1,T 28)]),n (st 1 4 27),n (st 1 5 29),d 6 (i 0)])))))⟩
def w471:WFn:=⟨2,[.cell 4 1 true,.tmp 5],zd (s (O 2 [bx 0,bx 1,E (.alloc [.nilp]),i 0]) (s (B 0 (s (U 7 [h 1 2,ca 190 [7],h 1 3,ca 190 [9],ad 8 10,gti 11 4096,d 6 (m 12)] [(1,2)] [6,4,3,2]) (cc 6 (r (O 13 [E (.build [.nilp] []),n (st 1 4 13),d 5 (i 3)])) (s (V 15 [h 1 2,ca 205 [15],h 1 3,ca 205 [17],E (.bin .sub (N 4611686018427387904) (T 18)),gt 16 19,d 14 (m 20)] [(1,2)] ⟨false,[],[]⟩) (c 14 (r (O 21 [E (.build [.nilp] []),n (st 1 4 21),d 5 (i 13)]))))))) (r (O 22 [f 0 2,l 1 22,f 0 3,l 1 24,ca 472 [23,25],E (.build [.nilp] [(0,1,T 26)]),n (st 1 4 27),d 5 (i 0)]))))⟩
def w472:WFn:=⟨2,[.tmp 4],zd (s (O 4 [E (.mv (.c .nilp))]) (s (s (O 7 [m 1,E (.eqv 2 [] false (T 7) (.c .nilp))]) (c 8 (r (O 9 [m 0,d 4 (m 9)])))) (s (O 11 [m 1,E (.call 368 [T 11,N 1]),d 10 (m 12),ex 0 10,ex 1 10,d 5 (m 13),d 6 (m 14)]) (r (O 15 [m 0,m 5,nk 16,f 2 17,l 1 18,m 6,ca 369 [15,19,20],d 4 (m 21)])))))⟩
def w473:WFn:=⟨3,[.tmp 6],zd (s (Q 6 [i 0] [2,1,0]) (s (s (O 8 [m 0,ca 373 [8],d 7 (m 9)]) (s (O 10 [m 7,nei 10 0]) (c 11 (r (O 12 [m 7,d 6 (m 12)]))))) (s (s (O 13 [m 1,lti 13 0,m 14,z 15 (m 1),z 15 (gti 16 1073741824),po 15 17,m 18,z 19 (m 2),z 19 (lti 20 0),po 19 21,m 22,z 23 (m 2),z 23 (gti 24 1073741824),po 23 25]) (c 26 (r (O 6 [i 4])))) (r (O 6 [i 0])))))⟩
def w474:WFn:=⟨1,[.tmp 2],zd (s (O 2 [i 0]) (s (s (O 3 [m 0,E (.eqv 2 [] false (T 3) (.c .nilp))]) (c 4 (r (O 2 [i 0])))) (r (O 5 [m 0,nk 5,f 5 6,l 1 7,d 2 (m 8)]))))⟩
def w475:WFn:=⟨3,[.tmp 6],zd (s (O 3 [bx 0,bx 1,bx 2,E (.mv (.c .nilp))]) (s (O 12 [E (.mkfn 533 [T 3,T 4,T 5]),d 7 (m 12)]) (s (Q 13 [E (.mkfn 534 [T 5,T 3,T 4]),d 8 (m 13)] [8,7,5,4,3]) (s (O 14 [E (.mkfn 535 [T 3,T 4,T 5]),d 9 (m 14)]) (s (O 15 [m 7,d 10 (m 15)]) (s (s (V 16 [l 1 5,ca 474 [16],l 1 3,ca 474 [18],sb 17 19,d 11 (m 20)] [(1,2)] ⟨false,[],[]⟩) (B 0 (s (O 22 [m 11,gti 22 1,d 21 (m 23)]) (cc 21 (O 24 [m 8,d 10 (m 24)]) (s (O 26 [m 11,lti 26 (-1),d 25 (m 27)]) (c 25 (O 28 [m 9,d 10 (m 28)]))))))) (r (O 29 [m 10,E (.callv (T 29) []),d 6 (m 30)]))))))))⟩
def w476:WFn:=⟨3,[.tmp 6],zd (s (O 6 [E (.mv (.c .nilp))]) (r (Q 7 [m 0,m 2,m 1,m 0,ca 366 [10],m 2,ca 366 [12],ad 11 13,adi 14 1,m 0,ca 386 [16],m 1,ad 17 18,m 2,ca 386 [20],ad 19 21,m 0,ca 474 [23],m 2,ca 474 [25],E (.mx (T 24) (T 26)),adi 27 1,E (.build [.nilp,.nilp,.int .i64 0,.int .i64 0,.int .i64 0,.int .i64 0] [(0,1,T 7),(1,1,T 8),(2,1,T 9),(3,1,T 15),(4,1,T 22),(5,1,T 28)]),bx 29,d 6 (m 30)] [6])))⟩
def w477_c0:WCode:=zd (r (O 109 [m 9,ca 392 [109],ex 0 110,ex 1 110,d 6 (m 111),d 7 (m 112)]))
def w477_c1:WCode:=zd (s (O 13 [i 1073741824]) (s (O 14 [ff,ff]) (s (s (O 52 [m 11,m 0,ln 1 53,lt 52 54]) (c 55 (s (O 56 [m 0,m 11,ix 2 56 57,f 0 58,l 1 59,m 10,le 60 61,d 14 (m 62)]) (Q 63 [m 13,m 0,m 11,ix 2 64 65,h 2 66,m 10,ca 537 [67,68],E (.mn (T 63) (T 69)),d 13 (m 70)] [15,14,13,12,11,10,9,2,1,0])))) (s (s (O 71 [m 12,m 1,ln 1 72,lt 71 73]) (c 74 (s (O 75 [m 1,m 12,ix 2 75 76,f 0 77,l 1 78,m 10,le 79 80,d 15 (m 81)]) (O 82 [m 13,m 1,m 12,ix 2 83 84,h 2 85,m 10,ca 537 [86,87],E (.mn (T 82) (T 88)),d 13 (m 89)])))) (s (s (Q 90 [m 11,m 0,ln 1 91,eq 90 92,m 93,y 94 (m 12),y 94 (m 1),y 94 (ln 1 96),y 94 (eq 95 97),pa 94 98] [99,15,14,13,12,11,10,9,2,1,0]) (c 99 (ee 0))) (s (s (O 100 [m 2,m 14,m 15,E (.callv (T 100) [T 101,T 102])]) (c 103 (O 104 [m 9,m 10,m 13,ca 2391 [104,105,106],d 9 (m 107)]))) (O 108 [m 13,d 10 (m 108)])))))))
def w477_B1:WCode:=zd (s (s (Q 37 [m 12,m 1,ln 1 38,lt 37 39,m 40,y 41 (m 1),y 41 (m 12),y 41 (ix 2 42 43),y 41 (f 1 44),y 41 (l 1 45),y 41 (m 10),y 41 (le 46 47),pa 41 48] [49,12,11,10,9,2,1,0]) (cc 49 (w .skip) (ee 4))) (B 5 (O 50 [m 12,adi 50 1,d 12 (m 51)])))
def w477_L1:WCode:=.loop ⟨true,[12,11,10,9,2,1,0],[]⟩ w477_B1
def w477_c2:WCode:=zd (s (bk 4 w477_L1 ⟨true,[12,11,10,9,2,1,0],[]⟩) w477_c1)
def w477_B2:WCode:=zd (s (s (O 22 [m 11,m 0,ln 1 23,lt 22 24,m 25,y 26 (m 0),y 26 (m 11),y 26 (ix 2 27 28),y 26 (f 1 29),y 26 (l 1 30),y 26 (m 10),y 26 (le 31 32),pa 26 33]) (cc 34 (w .skip) (ee 2))) (B 3 (O 35 [m 11,adi 35 1,d 11 (m 36)])))
def w477_L2:WCode:=.loop ⟨true,[12,11,10,9,2,1,0],[]⟩ w477_B2
def w477_B0:WCode:=zd (bk 1 (s (bk 2 w477_L2 ⟨true,[12,11,10,9,2,1,0],[]⟩) w477_c2) ⟨true,[12,11,10,9,2,1,0],[]⟩)
def w477_L0:WCode:=.loop ⟨true,[12,11,10,9,2,1,0],[]⟩ w477_B0
def w477:WFn:=⟨3,[.tmp 6,.tmp 7],zd (s (O 6 [E (.mv (.c (.ro 2 [] true))),i 0]) (s (s (s (O 16 [m 0,m 1,ca 536 [16,17],d 8 (m 18)]) (s (Q 19 [m 8,nei 19 0] [20,8,2,1,0]) (c 20 (r (O 6 [d 21 (m 8),E (.mv (.c (.ro 2 [] true))),m 21]))))) (s (O 9 [E (.mv (.c (.ro 2 [] true)))]) (s (O 10 [i 0]) (s (O 11 [i 0,i 0]) (s (w .skip) (s (bk 0 w477_L0 ⟨true,[9],[]⟩) w477_c0)))))) (w .skip)))⟩
@[simp] theorem w477_E1:ZL w477_L1 w477_B1 ⟨true,[12,11,10,9,2,1,0],[]⟩:=ck_lp rfl
noncomputable abbrev w477_K1 (C:WProg) (s:WSt):Option AV:=CK C 0 (pureFin [.tmp 6,.tmp 7]) [.sq w477_L1,.bk 4 ⟨true,[12,11,10,9,2,1,0],[]⟩,.sq w477_c1,.bk 1 ⟨true,[12,11,10,9,2,1,0],[]⟩,.sq w477_L0,.bk 0 ⟨true,[9],[]⟩,.sq w477_c0,.sq .skip] w477_B1 s
@[simp] theorem w477_E2:ZL w477_L2 w477_B2 ⟨true,[12,11,10,9,2,1,0],[]⟩:=ck_lp rfl
noncomputable abbrev w477_K2 (C:WProg) (s:WSt):Option AV:=CK C 0 (pureFin [.tmp 6,.tmp 7]) [.sq w477_L2,.bk 2 ⟨true,[12,11,10,9,2,1,0],[]⟩,.sq w477_c2,.bk 1 ⟨true,[12,11,10,9,2,1,0],[]⟩,.sq w477_L0,.bk 0 ⟨true,[9],[]⟩,.sq w477_c0,.sq .skip] w477_B2 s
@[simp] theorem w477_E0:ZL w477_L0 w477_B0 ⟨true,[12,11,10,9,2,1,0],[]⟩:=ck_lp rfl
noncomputable abbrev w477_K0 (C:WProg) (s:WSt):Option AV:=CK C 0 (pureFin [.tmp 6,.tmp 7]) [.sq w477_L0,.bk 0 ⟨true,[9],[]⟩,.sq w477_c0,.sq .skip] w477_B0 s
def w478:WFn:=⟨2,[.tmp 4],zd (s (O 4 [ff]) (r (O 5 [m 0,m 5,y 6 (m 1),y 6 (nt 7),pa 6 8,d 4 (m 9)])))⟩
def w479:WFn:=⟨2,[.tmp 4],zd (s (O 4 [ff]) (r (O 5 [m 0,m 5,z 6 (m 1),po 6 7,d 4 (m 8)])))⟩
def w480_c0:WCode:=zd (r (O 4 [i (-1)]))
def w480_B0:WCode:=zd (s (O 9 [lt 8 7]) (s (cc 9 (w .skip) (ee 0)) (s (B 1 (s (O 10 [m 8,d 5 (m 10)]) (s (O 11 [m 1,m 0,m 5,ix 2 12 13,h 2 14,E (.callv (T 11) [T 15])]) (c 16 (r (O 17 [m 5,d 4 (m 17)])))))) (O 18 [adi 8 1,d 8 (m 18)]))))
def w480_L0:WCode:=.loop ⟨true,[8,7,1,0],[]⟩ w480_B0
def w480:WFn:=⟨2,[.tmp 4],zd (s (O 4 [i 0]) (s (s (O 6 [m 0,ln 1 6,i 0]) (bk 0 w480_L0 ⟨true,[],[]⟩)) w480_c0))⟩
@[simp] theorem w480_E0:ZL w480_L0 w480_B0 ⟨true,[8,7,1,0],[]⟩:=ck_lp rfl
noncomputable abbrev w480_K0 (C:WProg) (s:WSt):Option AV:=CK C 0 (pureFin [.tmp 4]) [.sq w480_L0,.bk 0 ⟨true,[],[]⟩,.sq w480_c0] w480_B0 s
def w481:WFn:=⟨2,[],zd (s (s (O 4 [m 1,m 0,nk 5,f 1 6,l 1 7,lt 4 8]) (cc 9 (U 10 [m 0,nk 10,f 0 11,l 1 12,m 1,m 0,nk 15,f 2 16,l 1 17,ad 14 18,E (.slice 1 (T 13) (some (T 19)) none none),m 0,nk 21,f 0 22,l 1 23,m 1,m 0,nk 26,f 1 27,l 1 28,E (.slice 1 (T 24) (some (T 25)) (some (T 29)) none),E (.cpy 1 (T 20) (T 30))] [] [1,0]) (U 32 [m 0,nk 32,f 0 33,l 1 34,m 0,nk 36,f 1 37,l 1 38,E (.slice 1 (T 35) (some (T 39)) none none),m 0,nk 41,f 0 42,l 1 43,m 0,nk 45,f 1 46,l 1 47,m 0,nk 49,f 2 50,l 1 51,ad 48 52,m 1,m 0,nk 55,f 2 56,l 1 57,ad 54 58,E (.slice 1 (T 44) (some (T 53)) (some (T 59)) none),E (.cpy 1 (T 40) (T 60))] [] [1,0]))) (s (O 62 [m 0,m 1,nk 62,f 1 64,n (st 1 65 63)]) (V 66 [m 0,nk 66,f 0 67,l 1 68,m 1,m 1,m 0,nk 72,f 2 73,l 1 74,ad 71 75,E (.slice 1 (T 69) (some (T 70)) (some (T 76)) none),n (E (.clr [.int .u64 0] (T 77)))] [] ⟨false,[],[]⟩)))⟩
def w482:WFn:=⟨2,[],zd (s (s (O 6 [m 1,m 0,nk 7,f 2 8,l 1 9,le 6 10]) (c 11 (w .ret))) (s (Q 12 [m 1,m 0,nk 13,f 0 14,l 1 15,ln 1 16,E (.bin .quo (T 17) (N 2)),ad 12 18,adi 19 8,d 4 (m 20)] [4,0]) (s (O 21 [m 0,ca 383 [21],m 4,ad 22 23,E (.mksl [.int .u64 0] 8 (T 24) (T 24)),d 5 (m 25)]) (s (V 26 [m 5,m 0,nk 27,f 0 28,l 1 29,m 0,nk 31,f 1 32,l 1 33,E (.slice 1 (T 30) none (some (T 34)) none),E (.cpy 1 (T 26) (T 35))] [] ⟨false,[],[]⟩) (s (U 37 [m 5,m 0,nk 38,f 1 39,l 1 40,m 4,ad 41 42,E (.slice 1 (T 37) (some (T 43)) none none),m 0,nk 45,f 0 46,l 1 47,m 0,nk 49,f 1 50,l 1 51,m 0,nk 53,f 2 54,l 1 55,ad 52 56,E (.slice 1 (T 48) (some (T 57)) none none),E (.cpy 1 (T 44) (T 58))] [] [5,4,0]) (O 60 [m 0,m 0,m 5,m 4,nk 60,f 0 64,n (st 1 65 62),nk 61,f 2 66,n (st 1 67 63)]))))))⟩
def w483:WFn:=⟨3,[.tmp 6,.tmp 7,.tmp 8,.tmp 9],zd (s (O 6 [d 3 (bx 0),E (.mv (.c .nilp)),E (.mv (.c .nilp)),E (.mv (.c .nilp)),i 0]) (s (s (Q 10 [m 1,lti 10 0,m 11,z 12 (m 2),z 12 (lti 13 0),po 12 14,m 15,z 16 (m 1),z 16 (h 1 3),z 16 (ca 190 [18]),z 16 (gt 17 19),po 16 20,m 21,z 22 (m 2),z 22 (h 1 3),z 22 (ca 190 [24]),z 22 (m 1),z 22 (sb 25 26),z 22 (gt 23 27),po 22 28] [29,3,2,1]) (c 29 (r (O 6 [E (.mv (.c .nilp)),E (.mv (.c .nilp)),E (.mv (.c .nilp)),i 4])))) (s (Q 31 [f 0 3,l 1 31,m 1,ca 368 [32,33],d 30 (m 34),ex 0 30,ex 1 30,d 6 (m 35),d 8 (m 36)] [8,6,2]) (s (O 38 [m 8,m 2,ca 368 [38,39],d 37 (m 40),ex 0 37,ex 1 37,d 7 (m 41),d 8 (m 42)]) (r (O 6 [d 43 (m 6),d 44 (m 7),d 45 (m 8),m 43,m 44,m 45,i 0]))))))⟩
def w485:WFn:=⟨1,[.tmp 2],zd (s (O 2 [i 0]) (r (O 3 [m 0,m 0,m 0,E (.un .neg (T 5)),E (.bin .and (T 4) (T 6)),ad 3 7,d 2 (m 8)])))⟩
def w487:WFn:=⟨1,[],zd (s (O 3 [m 0,ln 1 3,d 2 (m 4)]) (O 5 [m 0,m 2,m 2,E (.cvt .u64 (T 7)),ca 540 [8],E (.call 539 [T 5,N 0,T 6,T 9])]))⟩
def w488_B0:WCode:=zd (s (O 8 [lt 7 6]) (s (cc 8 (w .skip) (ee 0)) (s (B 1 (s (O 9 [ix 1 5 7,l 1 9,d 4 (m 10)]) (s (O 11 [m 0,m 4,E (.callv (T 11) [T 12]),nt 13]) (c 14 (w .ret))))) (O 15 [adi 7 1,d 7 (m 15)]))))
def w488_L0:WCode:=.loop ⟨true,[7,6,5,0],[]⟩ w488_B0
def w488:WFn:=⟨2,[],zd (s (O 5 [l 1 1,ln 1 5,i 0]) (bk 0 w488_L0 ⟨true,[],[]⟩))⟩
@[simp] theorem w488_E0:ZL w488_L0 w488_B0 ⟨true,[7,6,5,0],[]⟩:=ck_lp rfl
def w489:WFn:=⟨1,[.tmp 2],zd (s (O 2 [E (.mv (.c (.ro 2 [] true)))]) (r (O 3 [m 0,m 0,ln 1 4,m 0,ln 1 6,E (.slice 2 (T 3) none (some (T 5)) (some (T 7))),d 2 (m 8)])))⟩
def w490_c0:WCode:=zd (r (O 2 [i 0]))
def w490_B0:WCode:=zd (s (O 13 [lt 12 11]) (s (cc 13 (w .skip) (ee 0)) (s (B 1 (s (O 14 [ix 1 10 12,l 1 14,d 5 (m 15)]) (s (B 2 (s (O 17 [m 5,lti 17 0,d 16 (m 18)]) (cc 16 (r (O 2 [i 1])) (s (O 20 [m 3,m 5,E (.look 0 (.bool false) false (T 20) (T 21)),d 19 (m 22)]) (c 19 (r (O 2 [i 8]))))))) (O 23 [m 3,m 5,n (E (.upd 0 (T 23) (T 24) (.c (.bool true))))])))) (O 25 [adi 12 1,d 12 (m 25)]))))
def w490_L0:WCode:=.loop ⟨true,[12,11,10,3],[]⟩ w490_B0
def w490:WFn:=⟨1,[.tmp 2],zd (s (O 2 [i 0]) (s (s (O 6 [m 0,ln 1 6,gti 7 4096]) (c 8 (r (O 2 [i 3])))) (s (Q 9 [E .mkmap,d 3 (m 9)] [3,0]) (s (s (O 10 [m 0,ln 1 10,i 0]) (bk 0 w490_L0 ⟨true,[],[]⟩)) w490_c0))))⟩
@[simp] theorem w490_E0:ZL w490_L0 w490_B0 ⟨true,[12,11,10,3],[]⟩:=ck_lp rfl
def w491_c0:WCode:=zd (r (O 2 [d 63 (m 6),m 63,i 0]))
def w491_B0:WCode:=zd (s (O 24 [lt 23 22]) (s (cc 24 (w .skip) (ee 0)) (s (B 1 (s (O 25 [m 23,ix 1 21 23,l 1 26,d 7 (m 25),d 8 (m 27)]) (s (B 2 (s (O 29 [m 5,eqi 29 0,d 28 (m 30)]) (cc 28 (ee 0) (s (Q 32 [m 4,m 7,ix 1 32 33,l 1 34,m 5,ne 35 36,m 37,z 38 (m 6),z 38 (ln 1 39),z 38 (gti 40 0),z 38 (m 41),y 42 (m 0),y 42 (m 6),y 42 (m 6),y 42 (ln 1 45),y 42 (sbi 46 1),y 42 (ix 1 44 47),y 42 (l 1 48),y 42 (ix 1 43 49),y 42 (l 1 50),y 42 (m 8),y 42 (ge 51 52),z 38 (pa 42 53),po 38 54,d 31 (m 55)] [31,23,22,21,7,6,5,4,0]) (c 31 (ee 1)))))) (s (O 56 [m 6,m 7,E (.buildS [.int .i64 0] 1 [(0,T 57)]),E (.app [.int .i64 0] 8 false (T 56) (T 58)),d 6 (m 59)]) (O 60 [m 5,sbi 60 1,d 5 (m 61)]))))) (O 62 [adi 23 1,d 23 (m 62)]))))
def w491_L0:WCode:=.loop ⟨true,[23,22,21,6,5,4,0],[]⟩ w491_B0
def w491:WFn:=⟨1,[.tmp 2,.tmp 3],zd (s (O 2 [E (.mv (.c (.ro 1 [] true))),i 0]) (s (s (s (O 9 [m 0,ln 1 9,gti 10 4096]) (c 11 (r (O 2 [E (.mv (.c (.ro 1 [] true))),i 3])))) (s (s (Q 12 [m 0,ln 1 12,eqi 13 0] [14,0]) (c 14 (r (O 2 [E (.mv (.c (.ro 1 [] true))),i 0])))) (s (O 15 [m 0,ca 541 [15],d 4 (m 16)]) (s (O 17 [m 4,ca 542 [17],d 5 (m 18)]) (s (O 19 [m 5,E (.mksl [.int .i64 0] 8 (N 0) (T 19)),d 6 (m 20)]) (s (w .skip) (s (s (O 21 [m 0,ln 1 21,i 0]) (bk 0 w491_L0 ⟨true,[6],[]⟩)) w491_c0))))))) (w .skip)))⟩
@[simp] theorem w491_E0:ZL w491_L0 w491_B0 ⟨true,[23,22,21,6,5,4,0],[]⟩:=ck_lp rfl
def w493:WFn:=⟨2,[.tmp 4],zd (s (O 4 [ff]) (r (O 5 [m 0,m 1,E (.bin .quo (T 6) (N 64)),nk 5,f 2 8,E (.idxa 64 1 (T 9) (T 7)),l 1 10,m 1,E (.bin .rem (T 12) (N 64)),E (.bin .shr (T 11) (T 13)),E (.bin .and (T 14) (.c (.int .u64 1))),E (.bin .eql (T 15) (.c (.int .u64 1))),d 4 (m 16)])))⟩
def w533:WFn:=⟨3,[.tmp 3],zd (s (O 3 [E (.mv (.c .nilp))]) (r (O 4 [l 1 0,l 1 1,l 1 2,ca 476 [4,5,6],d 3 (m 7)])))⟩
def w534:WFn:=⟨3,[.tmp 3],zd (s (O 3 [E (.mv (.c .nilp))]) (s (s (V 5 [l 1 0,nk 5,f 0 6,l 1 7,ca 474 [8],l 1 0,nk 10,f 1 11,l 1 12,ca 474 [13],gt 9 14] [(4,5),(4,8)] ⟨false,[],[]⟩) (c 15 (s (O 16 [l 1 0,nk 16,f 0 17,l 1 18,d 4 (m 19)]) (r (U 20 [l 1 1,l 1 2,m 4,nk 22,f 0 23,l 1 24,ca 476 [20,21,25],m 4,nk 27,f 2 28,l 1 29,m 4,nk 31,f 1 32,l 1 33,l 1 0,nk 35,f 2 36,l 1 37,l 1 0,nk 39,f 1 40,l 1 41,ca 476 [34,38,42],ca 476 [26,30,43],d 3 (m 44)] [(6,10),(6,14),(6,15),(6,18),(6,19),(6,22),(10,23)] [3]))))) (r (V 45 [l 1 1,l 1 2,l 1 0,nk 47,f 0 48,l 1 49,ca 476 [45,46,50],l 1 0,nk 52,f 2 53,l 1 54,l 1 0,nk 56,f 1 57,l 1 58,ca 476 [51,55,59],d 3 (m 60)] [(6,7),(6,10),(6,11),(6,14)] ⟨false,[],[]⟩))))⟩
def w535:WFn:=⟨3,[.tmp 3],zd (s (O 3 [E (.mv (.c .nilp))]) (s (s (V 5 [l 1 0,nk 5,f 1 6,l 1 7,ca 474 [8],l 1 0,nk 10,f 0 11,l 1 12,ca 474 [13],gt 9 14] [(4,5),(4,8)] ⟨false,[],[]⟩) (c 15 (s (O 16 [l 1 0,nk 16,f 1 17,l 1 18,d 4 (m 19)]) (r (U 20 [l 1 0,nk 20,f 0 21,l 1 22,l 1 0,nk 24,f 2 25,l 1 26,m 4,nk 28,f 0 29,l 1 30,ca 476 [23,27,31],m 4,nk 33,f 2 34,l 1 35,m 4,nk 37,f 1 38,l 1 39,l 1 1,l 1 2,ca 476 [40,41,42],ca 476 [32,36,43],d 3 (m 44)] [(12,16),(12,20),(12,21),(12,22),(16,23)] [3]))))) (r (V 45 [l 1 0,nk 45,f 0 46,l 1 47,l 1 0,nk 49,f 2 50,l 1 51,l 1 0,nk 53,f 1 54,l 1 55,l 1 1,l 1 2,ca 476 [56,57,58],ca 476 [48,52,59],d 3 (m 60)] [(0,14),(3,14),(4,14),(7,14)] ⟨false,[],[]⟩))))⟩
def w536:WFn:=⟨2,[.tmp 4],zd (s (O 4 [i 0]) (s (s (O 6 [m 0,ca 373 [6],d 5 (m 7)]) (s (O 8 [m 5,nei 8 0]) (c 9 (r (O 10 [m 5,d 4 (m 10)]))))) (r (O 11 [m 1,ca 373 [11],d 4 (m 12)]))))⟩
def w537:WFn:=⟨2,[.tmp 4],zd (s (O 4 [d 2 (bx 0),i 0]) (s (s (O 5 [f 0 2,l 1 5,m 1,gt 6 7]) (c 8 (r (O 9 [f 0 2,l 1 9,d 4 (m 10)])))) (r (O 11 [f 1 2,l 1 11,d 4 (m 12)]))))⟩
def w539_B0:WCode:=zd (B 1 (s (Q 19 [m 2,m 1,sb 19 20,d 10 (m 21)] [10,9,8,3,2,1,0]) (s (s (O 22 [m 10,lei 22 12]) (c 23 (r (O 24 [m 0,m 1,m 2,ca 567 [24,25,26]])))) (s (s (O 28 [m 3,eqi 28 0]) (c 29 (r (O 30 [m 0,m 1,m 2,ca 568 [30,31,32]])))) (s (s (O 34 [m 8,nt 34]) (c 35 (s (O 36 [m 0,m 1,m 2,ca 569 [36,37,38]]) (O 40 [m 3,sbi 40 1,d 3 (m 41)])))) (s (Q 43 [m 0,m 1,m 2,ca 570 [43,44,45],d 42 (m 46),ex 0 42,ex 1 42,d 11 (m 47),d 12 (m 48)] [12,11,10,9,8,3,2,1,0]) (s (s (O 49 [m 12,eqi 49 2]) (c 50 (s (O 51 [m 0,m 1,m 2,ca 571 [51,52,53]]) (s (O 55 [m 2,sbi 55 1,m 11,m 1,sb 57 58,sb 56 59,d 11 (m 60)]) (O 12 [i 1]))))) (s (s (O 61 [m 8,m 61,y 62 (m 9),pa 62 63,m 64,y 65 (m 12),y 65 (eqi 66 1),pa 65 67]) (c 68 (s (Q 69 [m 0,m 1,m 2,ca 572 [69,70,71]] [72,11,10,9,8,3,2,1,0]) (c 72 (w .ret))))) (s (s (V 73 [m 1,gti 73 0,m 74,y 75 (m 0),y 75 (m 1),y 75 (sbi 77 1),y 75 (ix 1 76 78),y 75 (l 1 79),y 75 (m 0),y 75 (m 11),y 75 (ix 1 81 82),y 75 (l 1 83),y 75 (ca 508 [80,84]),y 75 (nt 85),pa 75 86] [] ⟨false,[],[]⟩) (c 87 (s (O 88 [m 0,m 1,m 2,m 11,ca 573 [88,89,90,91],d 13 (m 92)]) (s (O 93 [m 13,d 1 (m 93)]) (ee 1))))) (s (Q 95 [m 0,m 1,m 2,m 11,ca 574 [95,96,97,98],d 94 (m 99),ex 0 94,ex 1 94,d 14 (m 100),d 15 (m 101)] [15,14,10,3,2,1,0]) (s (O 102 [m 15,d 9 (m 102)]) (s (O 103 [m 14,m 1,sb 103 104,m 2,m 14,sb 106 107,d 16 (m 105),d 17 (m 108)]) (s (O 109 [m 10,E (.bin .quo (T 109) (N 8)),d 18 (m 110)]) (s (O 111 [m 16,m 17,lt 111 112]) (cc 113 (s (O 114 [m 16,m 18,ge 114 115,d 8 (m 116)]) (s (O 117 [m 0,m 1,m 14,m 3,ca 539 [117,118,119,120]]) (O 122 [m 14,adi 122 1,d 1 (m 123)]))) (s (Q 124 [m 17,m 18,ge 124 125,d 8 (m 126)] [14,9,8,3,2,1,0]) (s (O 127 [m 0,m 14,adi 128 1,m 2,m 3,ca 539 [127,129,130,131]]) (O 133 [m 14,d 2 (m 133)]))))))))))))))))))
def w539_L0:WCode:=.loop ⟨true,[9,8,3,2,1,0],[]⟩ w539_B0
def w539:WFn:=⟨4,[],zd (s (O 8 [tt]) (s (O 9 [tt]) (bk 0 w539_L0 ⟨true,[],[]⟩)))⟩
@[simp] theorem w539_E0:ZL w539_L0 w539_B0 ⟨true,[9,8,3,2,1,0],[]⟩:=ck_lp rfl
def w540:WFn:=⟨1,[.tmp 2],zd (s (O 2 [i 0]) (s (cd (.c (.bool false)) (r (O 3 [m 0,E (.cvt .u32 (T 3)),ca 575 [4],d 2 (m 5)])) (w .skip)) (r (O 6 [m 0,ca 576 [6],d 2 (m 7)]))))⟩
def w541_c0:WCode:=zd (r (O 47 [m 3,d 2 (m 47)]))
def w541_B0:WCode:=zd (s (s (O 16 [l 1 5,gei 16 0]) (cc 17 (w .skip) (ee 0))) (s (B 1 (s (O 20 [l 1 4,ln 1 20,E (.mkfn 577 [T 4,T 1,T 5]),ca 411 [21,22],d 6 (m 23)]) (s (s (O 24 [m 6,l 1 4,ln 1 25,eq 24 26]) (c 27 (Q 28 [l 1 4,m 6,adi 29 1,l 1 4,E (.cap (T 31)),E (.slice 1 (T 28) none (some (T 30)) (some (T 32))),n (st 1 4 33)] [6,5,4,3,1]))) (s (V 34 [l 1 4,m 6,l 1 1,l 1 5,ix 1 36 37,l 1 38,ix 1 34 35,n (st 1 40 39)] [] ⟨false,[],[]⟩) (O 41 [m 3,l 1 5,m 6,adi 43 1,ix 1 41 42,n (st 1 45 44)]))))) (s (s (O 46 [l 1 5]) (O 5 [E (.alloc [.int .i64 0]),n (st 1 5 46)])) (O 18 [l 1 5,sbi 18 1,n (st 1 5 19)]))))
def w541_L0:WCode:=.loop ⟨true,[5,4,3,1],[]⟩ w541_B0
def w541:WFn:=⟨1,[.tmp 2],zd (s (O 1 [bx 0,E (.mv (.c (.ro 1 [] true)))]) (s (Q 7 [l 1 1,ln 1 7,E (.mksl [.int .i64 0] 8 (T 8) (T 8)),d 3 (m 9)] [3,1]) (s (O 10 [l 1 1,ln 1 10,E (.mksl [.int .i64 0] 8 (N 0) (T 11)),d 4 (E (.alloc [.ro 1 [] true])),n (st 1 4 12)]) (s (s (O 13 [l 1 1,ln 1 13,sbi 14 1,d 5 (E (.alloc [.int .i64 0])),n (st 1 5 15)]) (bk 0 w541_L0 ⟨true,[3],[]⟩)) w541_c0))))⟩
@[simp] theorem w541_E0:ZL w541_L0 w541_B0 ⟨true,[5,4,3,1],[]⟩:=ck_lp rfl
def w542_c0:WCode:=zd (r (O 24 [m 3,d 2 (m 24)]))
def w542_B0:WCode:=zd (s (s (O 12 [m 4,m 0,ln 1 13,lt 12 14]) (cc 15 (w .skip) (ee 0))) (s (B 1 (O 18 [m 3,m 0,m 4,ix 1 19 20,l 1 21,E (.mx (T 18) (T 22)),d 3 (m 23)])) (O 16 [m 4,adi 16 1,d 4 (m 17)])))
def w542_L0:WCode:=.loop ⟨true,[4,3,0],[]⟩ w542_B0
def w542:WFn:=⟨1,[.tmp 2],zd (s (O 2 [i 0]) (s (s (Q 5 [m 0,ln 1 5,lti 6 1] [7,0]) (c 7 (O 8 [E (.mkfn 1000010 [.c (.str [115,108,105,99,101,115,46,77,97,120,58,32,101,109,112,116,121,32,108,105,115,116])]),n (E .fail)]))) (s (O 9 [m 0,E (.idxs 1 (T 9) (N 0)),l 1 10,d 3 (m 11)]) (s (s (O 4 [i 1]) (bk 0 w542_L0 ⟨true,[3],[]⟩)) w542_c0))))⟩
@[simp] theorem w542_E0:ZL w542_L0 w542_B0 ⟨true,[4,3,0],[]⟩:=ck_lp rfl
def w567_c0:WCode:=zd (O 13 [m 6,adi 13 1,d 6 (m 14)])
def w567_B1:WCode:=zd (s (s (V 16 [m 7,m 1,gt 16 17,m 18,y 19 (m 0),y 19 (m 7),y 19 (ix 1 20 21),y 19 (l 1 22),y 19 (m 0),y 19 (m 7),y 19 (sbi 25 1),y 19 (ix 1 24 26),y 19 (l 1 27),y 19 (ca 508 [23,28]),pa 19 29] [] ⟨false,[],[]⟩) (cc 30 (w .skip) (ee 2))) (s (B 3 (U 33 [m 0,m 7,m 0,m 7,sbi 36 1,m 0,m 7,sbi 39 1,ix 1 38 40,l 1 41,m 0,m 7,ix 1 43 44,l 1 45,ix 1 33 34,n (st 1 47 42),ix 1 35 37,n (st 1 48 46)] [] [7,6,2,1,0])) (O 31 [m 7,sbi 31 1,d 7 (m 32)])))
def w567_L1:WCode:=.loop ⟨true,[7,6,2,1,0],[]⟩ w567_B1
def w567_B0:WCode:=zd (s (s (O 10 [m 6,m 2,lt 10 11]) (cc 12 (w .skip) (ee 0))) (s (bk 1 (s (O 15 [m 6,d 7 (m 15)]) (bk 2 w567_L1 ⟨true,[6,2,1,0],[]⟩)) ⟨true,[6,2,1,0],[]⟩) w567_c0))
def w567_L0:WCode:=.loop ⟨true,[6,2,1,0],[]⟩ w567_B0
def w567:WFn:=⟨3,[],zd (s (O 8 [m 1,adi 8 1,d 6 (m 9)]) (bk 0 w567_L0 ⟨true,[],[]⟩))⟩
@[simp] theorem w567_E1:ZL w567_L1 w567_B1 ⟨true,[7,6,2,1,0],[]⟩:=ck_lp rfl
@[simp] theorem w567_E0:ZL w567_L0 w567_B0 ⟨true,[6,2,1,0],[]⟩:=ck_lp rfl
def w568_B0:WCode:=zd (s (s (O 29 [m 10,gei 29 0]) (cc 30 (w .skip) (ee 2))) (s (B 3 (s (U 33 [m 0,m 6,m 0,m 6,m 10,ad 36 37,m 0,m 6,m 10,ad 40 41,ix 1 39 42,l 1 43,m 0,m 6,ix 1 45 46,l 1 47,ix 1 33 34,n (st 1 49 44),ix 1 35 38,n (st 1 50 48)] [] [10,7,6,0]) (O 51 [m 0,m 7,m 10,m 6,ca 587 [51,52,53,54]]))) (O 31 [m 10,sbi 31 1,d 10 (m 32)])))
def w568_L0:WCode:=.loop ⟨true,[10,7,6,0],[]⟩ w568_B0
def w568_c0:WCode:=zd (s (O 27 [m 8,sbi 27 1,d 10 (m 28)]) (bk 2 w568_L0 ⟨true,[],[]⟩))
def w568_B1:WCode:=zd (s (s (O 18 [m 9,gei 18 0]) (cc 19 (w .skip) (ee 0))) (s (B 1 (O 22 [m 0,m 9,m 8,m 6,ca 587 [22,23,24,25]])) (O 20 [m 9,sbi 20 1,d 9 (m 21)])))
def w568_L1:WCode:=.loop ⟨true,[9,8,7,6,0],[]⟩ w568_B1
def w568:WFn:=⟨3,[],zd (s (O 11 [m 1,d 6 (m 11)]) (s (Q 7 [i 0] [7,6,2,1,0]) (s (O 12 [m 2,m 1,sb 12 13,d 8 (m 14)]) (s (s (O 15 [m 8,sbi 15 1,E (.bin .quo (T 16) (N 2)),d 9 (m 17)]) (bk 0 w568_L1 ⟨true,[8,7,6,0],[]⟩)) w568_c0))))⟩
@[simp] theorem w568_E0:ZL w568_L0 w568_B0 ⟨true,[10,7,6,0],[]⟩:=ck_lp rfl
@[simp] theorem w568_E1:ZL w568_L1 w568_B1 ⟨true,[9,8,7,6,0],[]⟩:=ck_lp rfl
def w569_B0:WCode:=zd (s (s (O 26 [m 9,m 1,m 6,E (.bin .quo (T 28) (N 4)),E (.bin .mul (T 29) (N 2)),ad 27 30,adi 31 1,le 26 32]) (cc 33 (w .skip) (ee 0))) (s (B 1 (s (O 36 [ca 589 [7],m 8,E (.bin .sub (T 37) (.c (.int .u64 1))),E (.bin .and (T 36) (T 38)),E (.cvt .i64 (T 39)),d 10 (m 40)]) (s (s (O 41 [m 10,m 6,ge 41 42]) (c 43 (Q 44 [m 10,m 6,sb 44 45,d 10 (m 46)] [10,9,8,7,6,1,0]))) (V 47 [m 0,m 9,m 0,m 1,m 10,ad 50 51,m 0,m 1,m 10,ad 54 55,ix 1 53 56,l 1 57,m 0,m 9,ix 1 59 60,l 1 61,ix 1 47 48,n (st 1 63 58),ix 1 49 52,n (st 1 64 62)] [] ⟨false,[],[]⟩)))) (O 34 [m 9,adi 34 1,d 9 (m 35)])))
def w569_L0:WCode:=.loop ⟨true,[9,8,7,6,1,0],[]⟩ w569_B0
def w569:WFn:=⟨3,[],zd (s (O 11 [m 2,m 1,sb 11 12,d 6 (m 13)]) (s (O 14 [m 6,gei 14 8]) (c 15 (s (O 16 [m 6,E (.cvt .u64 (T 16)),d 7 (E (.alloc [.int .u64 0])),n (st 1 7 17)]) (s (O 18 [m 6,ca 588 [18],d 8 (m 19)]) (s (Q 20 [m 1,m 6,E (.bin .quo (T 21) (N 4)),E (.bin .mul (T 22) (N 2)),ad 20 23,sbi 24 1,d 9 (m 25)] [9,8,7,6,1,0]) (bk 0 w569_L0 ⟨true,[],[]⟩)))))))⟩
@[simp] theorem w569_E0:ZL w569_L0 w569_B0 ⟨true,[9,8,7,6,1,0],[]⟩:=ck_lp rfl
def w570:WFn:=⟨3,[.tmp 6,.tmp 7],zd (s (O 6 [i 0,i 0]) (s (O 13 [m 2,m 1,sb 13 14,d 8 (m 15)]) (s (O 9 [E (.alloc [.int .i64 0])]) (s (O 16 [m 1,m 8,E (.bin .quo (T 17) (N 4)),E (.bin .mul (T 18) (N 1)),ad 16 19,d 10 (m 20)]) (s (Q 21 [m 1,m 8,E (.bin .quo (T 22) (N 4)),E (.bin .mul (T 23) (N 2)),ad 21 24,d 11 (m 25)] [11,10,9,8,1,0]) (s (O 26 [m 1,m 8,E (.bin .quo (T 27) (N 4)),E (.bin .mul (T 28) (N 3)),ad 26 29,d 12 (m 30)]) (s (s (O 31 [m 8,gei 31 8]) (c 32 (s (s (O 33 [m 8,gei 33 50]) (c 34 (s (O 35 [m 0,m 10,ca 590 [35,36,9],d 10 (m 37)]) (s (O 38 [m 0,m 11,ca 590 [38,39,9],d 11 (m 40)]) (Q 41 [m 0,m 12,ca 590 [41,42,9],d 12 (m 43)] [12,11,10,9,0]))))) (O 44 [m 0,m 10,m 11,m 12,ca 591 [44,45,46,47,9],d 11 (m 48)])))) (s (O 49 [l 1 9]) (B 0 (s (O 52 [eqi 49 0,d 51 (m 52)]) (cc 51 (r (O 6 [d 53 (m 11),m 53,i 1])) (s (O 55 [eqi 49 12,d 54 (m 55)]) (cc 54 (r (O 6 [d 56 (m 11),m 56,i 2])) (r (O 6 [d 50 (m 11),m 50,i 0])))))))))))))))⟩
def w571_B0:WCode:=zd (s (s (Q 11 [m 6,m 7,lt 11 12] [13,7,6,0]) (cc 13 (w .skip) (ee 0))) (B 1 (s (V 14 [m 0,m 6,m 0,m 7,m 0,m 7,ix 1 18 19,l 1 20,m 0,m 6,ix 1 22 23,l 1 24,ix 1 14 15,n (st 1 26 21),ix 1 16 17,n (st 1 27 25)] [] ⟨false,[],[]⟩) (s (O 28 [m 6,adi 28 1,d 6 (m 29)]) (O 30 [m 7,sbi 30 1,d 7 (m 31)])))))
def w571_L0:WCode:=.loop ⟨true,[7,6,0],[]⟩ w571_B0
def w571:WFn:=⟨3,[],zd (s (O 8 [m 1,d 6 (m 8)]) (s (O 9 [m 2,sbi 9 1,d 7 (m 10)]) (bk 0 w571_L0 ⟨true,[],[]⟩)))⟩
@[simp] theorem w571_E0:ZL w571_L0 w571_B0 ⟨true,[7,6,0],[]⟩:=ck_lp rfl
def w572_c0:WCode:=zd (r (O 6 [ff]))
def w572_c1:WCode:=zd (O 15 [m 8,adi 15 1,d 8 (m 16)])
def w572_B1:WCode:=zd (s (s (O 101 [m 10,m 2,lt 101 102]) (cc 103 (w .skip) (ee 6))) (s (B 7 (s (s (V 106 [m 0,m 10,ix 1 106 107,l 1 108,m 0,m 10,sbi 111 1,ix 1 110 112,l 1 113,ca 508 [109,114],nt 115] [] ⟨false,[],[]⟩) (c 116 (ee 6))) (U 117 [m 0,m 10,m 0,m 10,sbi 120 1,m 0,m 10,sbi 123 1,ix 1 122 124,l 1 125,m 0,m 10,ix 1 127 128,l 1 129,ix 1 117 118,n (st 1 131 126),ix 1 119 121,n (st 1 132 130)] [] [10,8,7,2,1,0]))) (O 104 [m 10,adi 104 1,d 10 (m 105)])))
def w572_L1:WCode:=.loop ⟨true,[10,8,7,2,1,0],[]⟩ w572_B1
def w572_c2:WCode:=zd (s (O 95 [m 2,m 7,sb 95 96,gei 97 2]) (c 98 (s (O 99 [m 7,adi 99 1,d 10 (m 100)]) (bk 6 w572_L1 ⟨true,[8,7,2,1,0],[]⟩))))
def w572_B2:WCode:=zd (s (s (O 64 [m 9,gei 64 1]) (cc 65 (w .skip) (ee 4))) (s (B 5 (s (s (U 68 [m 0,m 9,ix 1 68 69,l 1 70,m 0,m 9,sbi 73 1,ix 1 72 74,l 1 75,ca 508 [71,76],nt 77] [] [78,9,8,7,2,1,0]) (c 78 (ee 4))) (V 79 [m 0,m 9,m 0,m 9,sbi 82 1,m 0,m 9,sbi 85 1,ix 1 84 86,l 1 87,m 0,m 9,ix 1 89 90,l 1 91,ix 1 79 80,n (st 1 93 88),ix 1 81 83,n (st 1 94 92)] [] ⟨false,[],[]⟩))) (Q 66 [m 9,sbi 66 1,d 9 (m 67)] [9,8,7,2,1,0])))
def w572_L2:WCode:=.loop ⟨true,[9,8,7,2,1,0],[]⟩ w572_B2
def w572_c3:WCode:=zd (s (s (O 35 [m 7,m 2,eq 35 36]) (c 37 (r (O 6 [tt])))) (s (s (O 38 [m 2,m 1,sb 38 39,lti 40 50]) (c 41 (r (O 6 [ff])))) (s (U 42 [m 0,m 7,m 0,m 7,sbi 45 1,m 0,m 7,sbi 48 1,ix 1 47 49,l 1 50,m 0,m 7,ix 1 52 53,l 1 54,ix 1 42 43,n (st 1 56 51),ix 1 44 46,n (st 1 57 55)] [] [8,7,2,1,0]) (s (s (O 58 [m 7,m 1,sb 58 59,gei 60 2]) (c 61 (s (O 62 [m 7,sbi 62 1,d 9 (m 63)]) (bk 4 w572_L2 ⟨true,[8,7,2,1,0],[]⟩)))) w572_c2))))
def w572_B3:WCode:=zd (s (s (U 17 [m 7,m 2,lt 17 18,m 19,y 20 (m 0),y 20 (m 7),y 20 (ix 1 21 22),y 20 (l 1 23),y 20 (m 0),y 20 (m 7),y 20 (sbi 26 1),y 20 (ix 1 25 27),y 20 (l 1 28),y 20 (ca 508 [24,29]),y 20 (nt 30),pa 20 31] [] [32,8,7,2,1,0]) (cc 32 (w .skip) (ee 2))) (B 3 (O 33 [m 7,adi 33 1,d 7 (m 34)])))
def w572_L3:WCode:=.loop ⟨true,[8,7,2,1,0],[]⟩ w572_B3
def w572_B0:WCode:=zd (s (s (O 13 [m 8,lti 13 5]) (cc 14 (w .skip) (ee 0))) (s (bk 1 (s (bk 2 w572_L3 ⟨true,[8,7,2,1,0],[]⟩) w572_c3) ⟨true,[8,7,2,1,0],[]⟩) w572_c1))
def w572_L0:WCode:=.loop ⟨true,[8,7,2,1,0],[]⟩ w572_B0
def w572:WFn:=⟨3,[.tmp 6],zd (s (O 6 [ff]) (s (O 11 [m 1,adi 11 1,d 7 (m 12)]) (s (s (O 8 [i 0]) (bk 0 w572_L0 ⟨true,[],[]⟩)) w572_c0)))⟩
@[simp] theorem w572_E1:ZL w572_L1 w572_B1 ⟨true,[10,8,7,2,1,0],[]⟩:=ck_lp rfl
@[simp] theorem w572_E2:ZL w572_L2 w572_B2 ⟨true,[9,8,7,2,1,0],[]⟩:=ck_lp rfl
@[simp] theorem w572_E3:ZL w572_L3 w572_B3 ⟨true,[8,7,2,1,0],[]⟩:=ck_lp rfl
@[simp] theorem w572_E0:ZL w572_L0 w572_B0 ⟨true,[8,7,2,1,0],[]⟩:=ck_lp rfl
def w508:WFn:=⟨2,[.tmp 4],zd (s (O 4 [ff]) (r (O 5 [m 0,ca 555 [5],m 6,y 7 (m 1),y 7 (ca 555 [8]),y 7 (nt 9),pa 7 10,m 11,z 12 (m 0),z 12 (m 1),z 12 (lt 13 14),po 12 15,d 4 (m 16)])))⟩
def w573_c0:WCode:=zd (r (O 83 [m 9,d 8 (m 83)]))
def w573_c1:WCode:=zd (s (s (O 62 [m 9,m 10,gt 62 63]) (c 64 (ee 0))) (s (U 65 [m 0,m 9,m 0,m 10,m 0,m 10,ix 1 69 70,l 1 71,m 0,m 9,ix 1 73 74,l 1 75,ix 1 65 66,n (st 1 77 72),ix 1 67 68,n (st 1 78 76)] [] [10,9,1,0]) (s (O 79 [m 9,adi 79 1,d 9 (m 80)]) (O 81 [m 10,sbi 81 1,d 10 (m 82)]))))
def w573_B1:WCode:=zd (s (s (V 46 [m 9,m 10,le 46 47,m 48,y 49 (m 0),y 49 (m 1),y 49 (ix 1 50 51),y 49 (l 1 52),y 49 (m 0),y 49 (m 10),y 49 (ix 1 54 55),y 49 (l 1 56),y 49 (ca 508 [53,57]),pa 49 58] [] ⟨false,[],[]⟩) (cc 59 (w .skip) (ee 4))) (B 5 (O 60 [m 10,sbi 60 1,d 10 (m 61)])))
def w573_L1:WCode:=.loop ⟨true,[10,9,1,0],[]⟩ w573_B1
def w573_c2:WCode:=zd (s (bk 4 w573_L1 ⟨true,[10,9,1,0],[]⟩) w573_c1)
def w573_B2:WCode:=zd (s (s (U 29 [m 9,m 10,le 29 30,m 31,y 32 (m 0),y 32 (m 1),y 32 (ix 1 33 34),y 32 (l 1 35),y 32 (m 0),y 32 (m 9),y 32 (ix 1 37 38),y 32 (l 1 39),y 32 (ca 508 [36,40]),y 32 (nt 41),pa 32 42] [] [43,10,9,1,0]) (cc 43 (w .skip) (ee 2))) (B 3 (O 44 [m 9,adi 44 1,d 9 (m 45)])))
def w573_L2:WCode:=.loop ⟨true,[10,9,1,0],[]⟩ w573_B2
def w573_B0:WCode:=zd (bk 1 (s (bk 2 w573_L2 ⟨true,[10,9,1,0],[]⟩) w573_c2) ⟨true,[10,9,1,0],[]⟩)
def w573_L0:WCode:=.loop ⟨true,[10,9,1,0],[]⟩ w573_B0
def w573:WFn:=⟨4,[.tmp 8],zd (s (O 8 [i 0]) (s (V 11 [m 0,m 1,m 0,m 3,m 0,m 3,ix 1 15 16,l 1 17,m 0,m 1,ix 1 19 20,l 1 21,ix 1 11 12,n (st 1 23 18),ix 1 13 14,n (st 1 24 22)] [] ⟨false,[],[]⟩) (s (O 25 [m 1,adi 25 1,m 2,sbi 27 1,d 9 (m 26),d 10 (m 28)]) (s (bk 0 w573_L0 ⟨true,[9],[]⟩) w573_c0))))⟩
@[simp] theorem w573_E1:ZL w573_L1 w573_B1 ⟨true,[10,9,1,0],[]⟩:=ck_lp rfl
@[simp] theorem w573_E2:ZL w573_L2 w573_B2 ⟨true,[10,9,1,0],[]⟩:=ck_lp rfl
@[simp] theorem w573_E0:ZL w573_L0 w573_B0 ⟨true,[10,9,1,0],[]⟩:=ck_lp rfl
def w574_c0:WCode:=zd (s (V 153 [m 0,m 11,m 0,m 1,m 0,m 1,ix 1 157 158,l 1 159,m 0,m 11,ix 1 161 162,l 1 163,ix 1 153 154,n (st 1 165 160),ix 1 155 156,n (st 1 166 164)] [] ⟨false,[],[]⟩) (r (O 8 [d 167 (m 11),m 167,ff])))
def w574_c1:WCode:=zd (s (s (O 132 [m 10,m 11,gt 132 133]) (c 134 (ee 4))) (s (V 135 [m 0,m 10,m 0,m 11,m 0,m 11,ix 1 139 140,l 1 141,m 0,m 10,ix 1 143 144,l 1 145,ix 1 135 136,n (st 1 147 142),ix 1 137 138,n (st 1 148 146)] [] ⟨false,[],[]⟩) (s (Q 149 [m 10,adi 149 1,d 10 (m 150)] [11,10,1,0]) (O 151 [m 11,sbi 151 1,d 11 (m 152)]))))
def w574_B1:WCode:=zd (s (s (U 115 [m 10,m 11,le 115 116,m 117,y 118 (m 0),y 118 (m 11),y 118 (ix 1 119 120),y 118 (l 1 121),y 118 (m 0),y 118 (m 1),y 118 (ix 1 123 124),y 118 (l 1 125),y 118 (ca 508 [122,126]),y 118 (nt 127),pa 118 128] [] [129,11,10,1,0]) (cc 129 (w .skip) (ee 8))) (B 9 (O 130 [m 11,sbi 130 1,d 11 (m 131)])))
def w574_L1:WCode:=.loop ⟨true,[11,10,1,0],[]⟩ w574_B1
def w574_c2:WCode:=zd (s (bk 8 w574_L1 ⟨true,[11,10,1,0],[]⟩) w574_c1)
def w574_B2:WCode:=zd (s (s (V 99 [m 10,m 11,le 99 100,m 101,y 102 (m 0),y 102 (m 10),y 102 (ix 1 103 104),y 102 (l 1 105),y 102 (m 0),y 102 (m 1),y 102 (ix 1 107 108),y 102 (l 1 109),y 102 (ca 508 [106,110]),pa 102 111] [] ⟨false,[],[]⟩) (cc 112 (w .skip) (ee 6))) (B 7 (O 113 [m 10,adi 113 1,d 10 (m 114)])))
def w574_L2:WCode:=.loop ⟨true,[11,10,1,0],[]⟩ w574_B2
def w574_B0:WCode:=zd (bk 5 (s (bk 6 w574_L2 ⟨true,[11,10,1,0],[]⟩) w574_c2) ⟨true,[11,10,1,0],[]⟩)
def w574_L0:WCode:=.loop ⟨true,[11,10,1,0],[]⟩ w574_B0
def w574_c3:WCode:=zd (s (s (O 63 [m 10,m 11,gt 63 64]) (c 65 (s (V 66 [m 0,m 11,m 0,m 1,m 0,m 1,ix 1 70 71,l 1 72,m 0,m 11,ix 1 74 75,l 1 76,ix 1 66 67,n (st 1 78 73),ix 1 68 69,n (st 1 79 77)] [] ⟨false,[],[]⟩) (r (O 8 [d 80 (m 11),m 80,tt]))))) (s (U 81 [m 0,m 10,m 0,m 11,m 0,m 11,ix 1 85 86,l 1 87,m 0,m 10,ix 1 89 90,l 1 91,ix 1 81 82,n (st 1 93 88),ix 1 83 84,n (st 1 94 92)] [] [11,10,1,0]) (s (O 95 [m 10,adi 95 1,d 10 (m 96)]) (s (O 97 [m 11,sbi 97 1,d 11 (m 98)]) (s (bk 4 w574_L0 ⟨true,[11,1,0],[]⟩) w574_c0)))))
def w574_B3:WCode:=zd (s (s (V 46 [m 10,m 11,le 46 47,m 48,y 49 (m 0),y 49 (m 11),y 49 (ix 1 50 51),y 49 (l 1 52),y 49 (m 0),y 49 (m 1),y 49 (ix 1 54 55),y 49 (l 1 56),y 49 (ca 508 [53,57]),y 49 (nt 58),pa 49 59] [] ⟨false,[],[]⟩) (cc 60 (w .skip) (ee 2))) (B 3 (Q 61 [m 11,sbi 61 1,d 11 (m 62)] [11,10,1,0])))
def w574_L3:WCode:=.loop ⟨true,[11,10,1,0],[]⟩ w574_B3
def w574_c4:WCode:=zd (s (bk 2 w574_L3 ⟨true,[11,10,1,0],[]⟩) w574_c3)
def w574_B4:WCode:=zd (s (s (U 30 [m 10,m 11,le 30 31,m 32,y 33 (m 0),y 33 (m 10),y 33 (ix 1 34 35),y 33 (l 1 36),y 33 (m 0),y 33 (m 1),y 33 (ix 1 38 39),y 33 (l 1 40),y 33 (ca 508 [37,41]),pa 33 42] [] [43,11,10,1,0]) (cc 43 (w .skip) (ee 0))) (B 1 (O 44 [m 10,adi 44 1,d 10 (m 45)])))
def w574_L4:WCode:=.loop ⟨true,[11,10,1,0],[]⟩ w574_B4
def w574:WFn:=⟨4,[.tmp 8,.tmp 9],zd (s (Q 8 [i 0,ff] [3,2,1,0]) (s (V 12 [m 0,m 1,m 0,m 3,m 0,m 3,ix 1 16 17,l 1 18,m 0,m 1,ix 1 20 21,l 1 22,ix 1 12 13,n (st 1 24 19),ix 1 14 15,n (st 1 25 23)] [] ⟨false,[],[]⟩) (s (O 26 [m 1,adi 26 1,m 2,sbi 28 1,d 10 (m 27),d 11 (m 29)]) (s (bk 0 w574_L4 ⟨true,[11,10,1,0],[]⟩) w574_c4))))⟩
@[simp] theorem w574_E1:ZL w574_L1 w574_B1 ⟨true,[11,10,1,0],[]⟩:=ck_lp rfl
@[simp] theorem w574_E2:ZL w574_L2 w574_B2 ⟨true,[11,10,1,0],[]⟩:=ck_lp rfl
@[simp] theorem w574_E0:ZL w574_L0 w574_B0 ⟨true,[11,10,1,0],[]⟩:=ck_lp rfl
@[simp] theorem w574_E3:ZL w574_L3 w574_B3 ⟨true,[11,10,1,0],[]⟩:=ck_lp rfl
@[simp] theorem w574_E4:ZL w574_L4 w574_B4 ⟨true,[11,10,1,0],[]⟩:=ck_lp rfl
def w575:WFn:=⟨1,[.tmp 2],zd (s (O 2 [i 0]) (s (s (O 3 [m 0,E (.bin .geq (T 3) (.c (.int .u32 65536)))]) (c 4 (s (O 5 [m 0,E (.bin .shr (T 5) (.c (.int .u64 16))),d 0 (m 6)]) (O 2 [i 16])))) (s (s (O 7 [m 0,E (.bin .geq (T 7) (.c (.int .u32 256)))]) (c 8 (s (O 9 [m 0,E (.bin .shr (T 9) (.c (.int .u64 8))),d 0 (m 10)]) (O 11 [m 2,adi 11 8,d 2 (m 12)])))) (r (O 13 [m 2,m 0,E (.cvt .u8 (T 14)),E (.idxstr (.c (.str [0,1,2,2,3,3,3,3,4,4,4,4,4,4,4,4,5,5,5,5,5,5,5,5,5,5,5,5,5,5,5,5,6,6,6,6,6,6,6,6,6,6,6,6,6,6,6,6,6,6,6,6,6,6,6,6,6,6,6,6,6,6,6,6,7,7,7,7,7,7,7,7,7,7,7,7,7,7,7,7,7,7,7,7,7,7,7,7,7,7,7,7,7,7,7,7,7,7,7,7,7,7,7,7,7,7,7,7,7,7,7,7,7,7,7,7,7,7,7,7,7,7,7,7,7,7,7,7,8,8,8,8,8,8,8,8,8,8,8,8,8,8,8,8,8,8,8,8,8,8,8,8,8,8,8,8,8,8,8,8,8,8,8,8,8,8,8,8,8,8,8,8,8,8,8,8,8,8,8,8,8,8,8,8,8,8,8,8,8,8,8,8,8,8,8,8,8,8,8,8,8,8,8,8,8,8,8,8,8,8,8,8,8,8,8,8,8,8,8,8,8,8,8,8,8,8,8,8,8,8,8,8,8,8,8,8,8,8,8,8,8,8,8,8,8,8,8,8,8,8,8,8,8,8,8,8])) (T 15)),E (.cvt .i64 (T 16)),ad 13 17,d 2 (m 18)])))))⟩
def w576:WFn:=⟨1,[.tmp 2],zd (s (O 2 [i 0]) (s (s (O 3 [m 0,E (.bin .geq (T 3) (.c (.int .u64 4294967296)))]) (c 4 (s (O 5 [m 0,E (.bin .shr (T 5) (.c (.int .u64 32))),d 0 (m 6)]) (Q 2 [i 32] [2,0])))) (s (s (O 7 [m 0,E (.bin .geq (T 7) (.c (.int .u64 65536)))]) (c 8 (s (O 9 [m 0,E (.bin .shr (T 9) (.c (.int .u64 16))),d 0 (m 10)]) (O 11 [m 2,adi 11 16,d 2 (m 12)])))) (s (s (O 13 [m 0,E (.bin .geq (T 13) (.c (.int .u64 256)))]) (c 14 (s (O 15 [m 0,E (.bin .shr (T 15) (.c (.int .u64 8))),d 0 (m 16)]) (O 17 [m 2,adi 17 8,d 2 (m 18)])))) (r (O 19 [m 2,m 0,E (.cvt .u8 (T 20)),E (.idxstr (.c (.str [0,1,2,2,3,3,3,3,4,4,4,4,4,4,4,4,5,5,5,5,5,5,5,5,5,5,5,5,5,5,5,5,6,6,6,6,6,6,6,6,6,6,6,6,6,6,6,6,6,6,6,6,6,6,6,6,6,6,6,6,6,6,6,6,7,7,7,7,7,7,7,7,7,7,7,7,7,7,7,7,7,7,7,7,7,7,7,7,7,7,7,7,7,7,7,7,7,7,7,7,7,7,7,7,7,7,7,7,7,7,7,7,7,7,7,7,7,7,7,7,7,7,7,7,7,7,7,7,8,8,8,8,8,8,8,8,8,8,8,8,8,8,8,8,8,8,8,8,8,8,8,8,8,8,8,8,8,8,8,8,8,8,8,8,8,8,8,8,8,8,8,8,8,8,8,8,8,8,8,8,8,8,8,8,8,8,8,8,8,8,8,8,8,8,8,8,8,8,8,8,8,8,8,8,8,8,8,8,8,8,8,8,8,8,8,8,8,8,8,8,8,8,8,8,8,8,8,8,8,8,8,8,8,8,8,8,8,8,8,8,8,8,8,8,8,8,8,8,8,8,8,8,8,8,8,8])) (T 21)),E (.cvt .i64 (T 22)),ad 19 23,d 2 (m 24)]))))))⟩
def w411_c0:WCode:=zd (r (O 25 [m 5,d 4 (m 25)]))
def w411_B0:WCode:=zd (s (s (O 9 [m 5,m 6,lt 9 10]) (cc 11 (w .skip) (ee 0))) (B 1 (s (O 12 [m 5,m 6,ad 12 13,E (.cvt .u64 (T 14)),E (.bin .shr (T 15) (.c (.int .u64 1))),E (.cvt .i64 (T 16)),d 7 (m 17)]) (s (O 18 [m 1,m 7,E (.callv (T 18) [T 19]),nt 20]) (cc 21 (O 22 [m 7,adi 22 1,d 5 (m 23)]) (O 24 [m 7,d 6 (m 24)]))))))
def w411_L0:WCode:=.loop ⟨true,[6,5,1],[]⟩ w411_B0
def w411:WFn:=⟨2,[.tmp 4],zd (s (O 4 [i 0]) (s (Q 5 [d 8 (m 0),i 0,m 8] [6,5,1]) (s (bk 0 w411_L0 ⟨true,[5],[]⟩) w411_c0)))⟩
@[simp] theorem w411_E0:ZL w411_L0 w411_B0 ⟨true,[6,5,1],[]⟩:=ck_lp rfl
def w577:WFn:=⟨4,[.tmp 5],zd (s (O 5 [ff]) (r (V 6 [l 1 1,m 0,ix 1 6 7,l 1 8,l 1 2,l 1 3,ix 1 10 11,l 1 12,le 9 13,d 5 (m 14)] [] ⟨false,[],[]⟩)))⟩
def w587_B0:WCode:=zd (B 1 (s (O 11 [m 8,E (.bin .mul (N 2) (T 11)),adi 12 1,d 9 (m 13)]) (s (s (O 14 [m 9,m 2,ge 14 15]) (c 16 (ee 0))) (s (s (U 17 [m 9,adi 17 1,m 2,lt 18 19,m 20,y 21 (m 0),y 21 (m 3),y 21 (m 9),y 21 (ad 23 24),y 21 (ix 1 22 25),y 21 (l 1 26),y 21 (m 0),y 21 (m 3),y 21 (m 9),y 21 (ad 29 30),y 21 (adi 31 1),y 21 (ix 1 28 32),y 21 (l 1 33),y 21 (ca 508 [27,34]),pa 21 35] [] [36,9,8,3,2,0]) (c 36 (O 37 [m 9,adi 37 1,d 9 (m 38)]))) (s (s (V 39 [m 0,m 3,m 8,ad 40 41,ix 1 39 42,l 1 43,m 0,m 3,m 9,ad 46 47,ix 1 45 48,l 1 49,ca 508 [44,50],nt 51] [] ⟨false,[],[]⟩) (c 52 (w .ret))) (s (U 53 [m 0,m 3,m 8,ad 54 55,m 0,m 3,m 9,ad 58 59,m 0,m 3,m 9,ad 62 63,ix 1 61 64,l 1 65,m 0,m 3,m 8,ad 68 69,ix 1 67 70,l 1 71,ix 1 53 56,n (st 1 73 66),ix 1 57 60,n (st 1 74 72)] [] [9,3,2,0]) (O 75 [m 9,d 8 (m 75)])))))))
def w587_L0:WCode:=.loop ⟨true,[8,3,2,0],[]⟩ w587_B0
def w587:WFn:=⟨4,[],zd (s (O 10 [m 1,d 8 (m 10)]) (bk 0 w587_L0 ⟨true,[],[]⟩))⟩
@[simp] theorem w587_E0:ZL w587_L0 w587_B0 ⟨true,[8,3,2,0],[]⟩:=ck_lp rfl
def w588:WFn:=⟨1,[.tmp 2],zd (s (O 2 [E (.mv (.c (.int .u64 0)))]) (r (O 3 [m 0,E (.cvt .u64 (T 3)),ca 540 [4],E (.bin .shl (.c (.int .u64 1)) (T 5)),d 2 (m 6)])))⟩
def w589:WFn:=⟨1,[.tmp 2],zd (s (O 2 [E (.mv (.c (.int .u64 0)))]) (s (V 3 [m 0,nk 3,l 1 4,m 0,nk 6,l 1 7,E (.bin .shl (T 8) (.c (.int .u64 13))),E (.bin .xor (T 5) (T 9)),nk 3,n (st 1 11 10)] [] ⟨false,[],[]⟩) (s (U 12 [m 0,nk 12,l 1 13,m 0,nk 15,l 1 16,E (.bin .shr (T 17) (.c (.int .u64 7))),E (.bin .xor (T 14) (T 18)),nk 12,n (st 1 20 19)] [] [0]) (s (V 21 [m 0,nk 21,l 1 22,m 0,nk 24,l 1 25,E (.bin .shl (T 26) (.c (.int .u64 17))),E (.bin .xor (T 23) (T 27)),nk 21,n (st 1 29 28)] [] ⟨false,[],[]⟩) (r (O 30 [m 0,nk 30,l 1 31,d 2 (m 32)]))))))⟩
def w590:WFn:=⟨3,[.tmp 6],zd (s (O 6 [i 0]) (r (O 7 [m 0,m 1,sbi 8 1,m 1,m 1,adi 11 1,m 2,ca 591 [7,9,10,12,13],d 6 (m 14)])))⟩
def w591:WFn:=⟨5,[.tmp 10],zd (s (O 10 [i 0]) (s (Q 12 [m 0,m 1,m 2,m 4,ca 595 [12,13,14,15],d 11 (m 16),ex 0 11,ex 1 11,d 1 (m 17),d 2 (m 18)] [4,3,2,1,0]) (s (O 20 [m 0,m 2,m 3,m 4,ca 595 [20,21,22,23],d 19 (m 24),ex 0 19,ex 1 19,d 2 (m 25),d 3 (m 26)]) (s (O 28 [m 0,m 1,m 2,m 4,ca 595 [28,29,30,31],d 27 (m 32),ex 0 27,ex 1 27,d 1 (m 33),d 2 (m 34)]) (r (O 35 [m 2,d 10 (m 35)]))))))⟩
def w555:WFn:=⟨1,[.tmp 2],zd (s (O 2 [ff]) (r (O 3 [m 0,m 0,ne 3 4,d 2 (m 5)])))⟩
def w595:WFn:=⟨4,[.tmp 8,.tmp 9],zd (s (Q 8 [i 0,i 0] [3,2,1,0]) (s (s (V 10 [m 0,m 2,ix 1 10 11,l 1 12,m 0,m 1,ix 1 14 15,l 1 16,ca 508 [13,17]] [] ⟨false,[],[]⟩) (c 18 (s (O 19 [m 3,nk 19,l 1 20,adi 21 1,nk 19,n (st 1 23 22)]) (r (O 24 [m 2,m 1,d 8 (m 24),d 9 (m 25)]))))) (r (O 26 [m 1,m 2,d 8 (m 26),d 9 (m 27)]))))⟩
def tree:WTree:=(.node (.node (.node (.node (.node (.node (.node (.node .leaf 0 w0 .leaf) 62 w62 .leaf) 77 w77 (.node .leaf 78 w78 .leaf)) 79 w79 (.node (.node .leaf 80 w80 .leaf) 84 w84 (.node .leaf 94 w94 .leaf))) 95 w95 (.node (.node (.node (.node .leaf 96 w96 .leaf) 97 w97 .leaf) 98 w98 (.node .leaf 99 w99 .leaf)) 101 w101 (.node (.node .leaf 102 w102 .leaf) 103 w103 (.node .leaf 104 w104 .leaf)))) 105 w105 (.node (.node (.node (.node (.node .leaf 106 w106 .leaf) 187 w187 .leaf) 188 w188 (.node .leaf 189 w189 .leaf)) 190 w190 (.node (.node .leaf 191 w191 .leaf) 192 w192 (.node .leaf 193 w193 .leaf))) 194 w194 (.node (.node (.node .leaf 195 w195 .leaf) 196 w196 (.node .leaf 197 w197 .leaf)) 198 w198 (.node (.node .leaf 200 w200 .leaf) 201 w201 (.node .leaf 202 w202 .leaf))))) 203 w203 (.node (.node (.node (.node (.node (.node .leaf 204 w204 .leaf) 205 w205 .leaf) 206 w206 (.node .leaf 207 w207 .leaf)) 208 w208 (.node (.node .leaf 210 w210 .leaf) 211 w211 (.node .leaf 212 w212 .leaf))) 213 w213 (.node (.node (.node .leaf 214 w214 .leaf) 215 w215 (.node .leaf 363 w363 .leaf)) 364 w364 (.node (.node .leaf 365 w365 .leaf) 366 w366 (.node .leaf 367 w367 .leaf)))) 368 w368 (.node (.node (.node (.node (.node .leaf 369 w369 .leaf) 370 w370 .leaf) 371 w371 (.node .leaf 372 w372 .leaf)) 373 w373 (.node (.node .leaf 374 w374 .leaf) 375 w375 (.node .leaf 376 w376 .leaf))) 377 w377 (.node (.node (.node .leaf 379 w379 .leaf) 380 w380 (.node .leaf 381 w381 .leaf)) 383 w383 (.node (.node .leaf 384 w384 .leaf) 385 w385 (.node .leaf 386 w386 .leaf)))))) 387 w387 (.node (.node (.node (.node (.node (.node (.node .leaf 388 w388 .leaf) 389 w389 .leaf) 390 w390 (.node .leaf 391 w391 .leaf)) 392 w392 (.node (.node .leaf 393 w393 .leaf) 395 w395 (.node .leaf 396 w396 .leaf))) 397 w397 (.node (.node (.node (.node .leaf 411 w411 .leaf) 470 w470 .leaf) 471 w471 (.node .leaf 472 w472 .leaf)) 473 w473 (.node (.node .leaf 474 w474 .leaf) 475 w475 (.node .leaf 476 w476 .leaf)))) 477 w477 (.node (.node (.node (.node (.node .leaf 478 w478 .leaf) 479 w479 .leaf) 480 w480 (.node .leaf 481 w481 .leaf)) 482 w482 (.node (.node .leaf 483 w483 .leaf) 485 w485 (.node .leaf 487 w487 .leaf))) 488 w488 (.node (.node (.node .leaf 489 w489 .leaf) 490 w490 (.node .leaf 491 w491 .leaf)) 493 w493 (.node (.node .leaf 508 w508 .leaf) 533 w533 (.node .leaf 534 w534 .leaf))))) 535 w535 (.node (.node (.node (.node (.node (.node .leaf 536 w536 .leaf) 537 w537 .leaf) 539 w539 (.node .leaf 540 w540 .leaf)) 541 w541 (.node (.node .leaf 542 w542 .leaf) 555 w555 (.node .leaf 567 w567 .leaf))) 568 w568 (.node (.node (.node .leaf 569 w569 .leaf) 570 w570 (.node .leaf 571 w571 .leaf)) 572 w572 (.node (.node .leaf 573 w573 .leaf) 574 w574 (.node .leaf 575 w575 .leaf)))) 576 w576 (.node (.node (.node (.node (.node .leaf 577 w577 .leaf) 587 w587 .leaf) 588 w588 (.node .leaf 589 w589 .leaf)) 590 w590 (.node (.node .leaf 591 w591 .leaf) 595 w595 (.node .leaf 1073 w73 .leaf))) 1100 w1100 (.node (.node (.node .leaf 1102 w102 .leaf) 1191 w191 (.node .leaf 1378 w378 .leaf)) 2016 w97 (.node (.node .leaf 2199 w199 .leaf) 2209 w209 (.node .leaf 2391 w391 .leaf)))))))
def ids:List (Nat × Nat):=[(0,2),(62,34),(77,69),(78,70),(79,71),(80,73),(84,3),(94,4),(95,5),(96,6),(97,7),(98,8),(99,9),(101,11),(102,12),(103,13),(104,14),(105,15),(106,16),(187,17),(188,18),(189,19),(190,20),(191,21),(192,22),(193,23),(194,24),(195,25),(196,26),(197,27),(198,28),(200,30),(201,31),(202,32),(203,33),(204,35),(205,36),(206,37),(207,38),(208,39),(210,41),(211,42),(212,43),(213,44),(214,45),(215,46),(363,47),(364,48),(365,49),(366,50),(367,51),(368,52),(369,53),(370,54),(371,55),(372,56),(373,57),(374,58),(375,59),(376,60),(377,61),(379,63),(380,64),(381,65),(383,67),(384,68),(385,74),(386,75),(387,76),(388,77),(389,78),(390,79),(391,80),(392,81),(393,82),(395,84),(396,85),(397,86),(411,132),(470,87),(471,88),(472,89),(473,90),(474,91),(475,92),(476,93),(477,94),(478,95),(479,96),(480,97),(481,98),(482,99),(483,100),(485,102),(487,104),(488,105),(489,106),(490,107),(491,108),(493,110),(508,127),(533,111),(534,112),(535,113),(536,114),(537,115),(539,117),(540,118),(541,119),(542,120),(555,139),(567,121),(568,122),(569,123),(570,124),(571,125),(572,126),(573,128),(574,129),(575,130),(576,131),(577,133),(587,134),(588,135),(589,136),(590,137),(591,138),(595,140),(2016,7),(1102,12),(1191,21),(1100,10),(2199,29),(2209,40),(1378,62),(1073,72),(2391,80)]
def alts:List (Nat × Nat × Nat):=[(201,7,2016),(1100,12,1102),(1100,21,1191),(379,10,1100),(84,10,1100),(106,10,1100),(84,12,1102),(99,21,1191),(192,21,1191),(84,7,2016),(106,7,2016),(106,29,2199),(106,40,2209),(200,62,1378),(203,62,1378),(62,72,1073),(477,80,2391),(365,80,2391),(381,80,2391),(210,80,2391)]
end P
end
section
namespace Go.Pw
open Go Go.Pav
@[simp] def eI (x:Int):List AV:=[.int .i64 x]
@[simp] def eU8 (x:Int):List AV:=[.int .u8 x]
@[simp] def eU64 (x:Int):List AV:=[.int .u64 x]
@[simp] def eS (x:List UInt8):List AV:=[.str x]
@[simp] def eB (x:Bool):List AV:=[.bool x]
abbrev L1 (xs:List Int) (e:Bool):AV:=.ro 1 (xs.map eI) e
attribute [simp] Int.natCast_inj
attribute [-simp] List.getElem_cons_drop
section
variable (a n:Nat)
@[simp] theorem lit_lt_cast:((no_index (OfNat.ofNat a):Int) < (n:Int))=((no_index (OfNat.ofNat a):Nat) < n):=propext (Int.ofNat_lt (n:=(OfNat.ofNat a:Nat)) (m:=n))
@[simp] theorem cast_lt_lit:((n:Int) < (no_index (OfNat.ofNat a):Int))=(n < (no_index (OfNat.ofNat a):Nat)):=propext (Int.ofNat_lt (m:=(OfNat.ofNat a:Nat)) (n:=n))
@[simp] theorem lit_le_cast:((no_index (OfNat.ofNat a):Int)≤(n:Int))=((no_index (OfNat.ofNat a):Nat)≤n):=propext (Int.ofNat_le (m:=(OfNat.ofNat a:Nat)) (n:=n))
@[simp] theorem cast_le_lit:((n:Int)≤(no_index (OfNat.ofNat a):Int))=(n≤(no_index (OfNat.ofNat a):Nat)):=propext (Int.ofNat_le (n:=(OfNat.ofNat a:Nat)) (m:=n))
end
@[simp] theorem app_le (a b:Nat):(a+(b+1)≤a)=False:=eq_false (by omega)
theorem drop_cons {α:Type} {l:List α} {i:Nat} (h:i < l.length):l.drop i=l[i]::l.drop (i+1):=List.drop_eq_getElem_cons h
theorem mapO_self {α:Type} {g:α→Option α}:∀ {l:List α},(∀ x ∈ l,g x=some x)→mapO g l=some l
 | [],_=>rfl
 | a::l,h=>by simp only [mapO,h a List.mem_cons_self,ob,mapO_self fun x hx=>h x (List.mem_cons_of_mem _ hx),om]
@[simp] theorem frz_ints (h:WHeap) (n:Nat) (k:IntKind) (l:List Int):mapO (frzW h (n+1)) (List.map (AV.int k) l)=some (List.map (AV.int k) l) :=
 mapO_self fun x hx=>by obtain ⟨y,_,rfl⟩:=List.mem_map.1 hx;rfl
@[simp] theorem all_isC_int (k:IntKind) (l:List Int):l.all (isC ∘ AV.int k)=true:=by simp [isC]
@[simp] theorem all_isC_bool (l:List Bool):l.all (isC ∘ AV.bool)=true:=by simp [isC]
attribute [simp] isLeaf
@[simp] theorem comp_eI:((fun x:AV=>[x]) ∘ AV.int .i64)=eI:=rfl
@[simp] theorem add_le_self' (a b:Nat):(a+b≤a)=(b=0):=propext (by omega)
end Go.Pw
end
section
namespace Go.D
open Go Go.Pav Go.Pw P
attribute [-simp] List.getElem_cons_drop
variable {C:WProg}
def ppB (f:Nat):Bool:=f == 502||f == 494||f == 497||f == 434||f == 518||f == 549||f == 402||f == 411||f == 446||f == 466||f == 429||f == 514||f == 374||f == 480||(decide (1000≤f)&&decide (f < 2000))
def inlB (f:Nat):Bool:=f == 217||f == 459||decide (2000≤f)
end Go.D
end
section
set_option maxRecDepth 100000
namespace P
open Go Go.Pav Go.Pw Go.Proofs
theorem l0:FnOk Tryz.prog noLaid ids alts 0 (erFn w0):=.inl ⟨Tryz.f2,Tryz.func2,by kernel_rfl⟩
theorem l62:FnOk Tryz.prog noLaid ids alts 62 (erFn w62):=.inl ⟨Tryz.f34,Tryz.func34,by kernel_rfl⟩
theorem l77:FnOk Tryz.prog noLaid ids alts 77 (erFn w77):=.inl ⟨Tryz.f69,Tryz.func69,by kernel_rfl⟩
theorem l78:FnOk Tryz.prog noLaid ids alts 78 (erFn w78):=.inl ⟨Tryz.f70,Tryz.func70,by kernel_rfl⟩
theorem l79:FnOk Tryz.prog noLaid ids alts 79 (erFn w79):=.inl ⟨Tryz.f71,Tryz.func71,by kernel_rfl⟩
theorem l80:FnOk Tryz.prog noLaid ids alts 80 (erFn w80):=.inl ⟨Tryz.f73,Tryz.func73,by kernel_rfl⟩
theorem l84:FnOk Tryz.prog noLaid ids alts 84 (erFn w84):=.inl ⟨Tryz.f3,Tryz.func3,by kernel_rfl⟩
theorem l94:FnOk Tryz.prog noLaid ids alts 94 (erFn w94):=.inl ⟨Tryz.f4,Tryz.func4,by kernel_rfl⟩
theorem l95:FnOk Tryz.prog noLaid ids alts 95 (erFn w95):=.inl ⟨Tryz.f5,Tryz.func5,by kernel_rfl⟩
theorem l96:FnOk Tryz.prog noLaid ids alts 96 (erFn w96):=.inl ⟨Tryz.f6,Tryz.func6,by kernel_rfl⟩
theorem l97:FnOk Tryz.prog noLaid ids alts 97 (erFn w97):=.inl ⟨Tryz.f7,Tryz.func7,by kernel_rfl⟩
theorem l98:FnOk Tryz.prog noLaid ids alts 98 (erFn w98):=.inl ⟨Tryz.f8,Tryz.func8,by kernel_rfl⟩
theorem l99:FnOk Tryz.prog noLaid ids alts 99 (erFn w99):=.inl ⟨Tryz.f9,Tryz.func9,by kernel_rfl⟩
theorem l101:FnOk Tryz.prog noLaid ids alts 101 (erFn w101):=.inl ⟨Tryz.f11,Tryz.func11,by kernel_rfl⟩
theorem l102:FnOk Tryz.prog noLaid ids alts 102 (erFn w102):=.inl ⟨Tryz.f12,Tryz.func12,by kernel_rfl⟩
theorem l103:FnOk Tryz.prog noLaid ids alts 103 (erFn w103):=.inl ⟨Tryz.f13,Tryz.func13,by kernel_rfl⟩
theorem l104:FnOk Tryz.prog noLaid ids alts 104 (erFn w104):=.inl ⟨Tryz.f14,Tryz.func14,by kernel_rfl⟩
theorem l105:FnOk Tryz.prog noLaid ids alts 105 (erFn w105):=.inl ⟨Tryz.f15,Tryz.func15,by kernel_rfl⟩
theorem l106:FnOk Tryz.prog noLaid ids alts 106 (erFn w106):=.inl ⟨Tryz.f16,Tryz.func16,by kernel_rfl⟩
theorem l187:FnOk Tryz.prog noLaid ids alts 187 (erFn w187):=.inl ⟨Tryz.f17,Tryz.func17,by kernel_rfl⟩
theorem l188:FnOk Tryz.prog noLaid ids alts 188 (erFn w188):=.inl ⟨Tryz.f18,Tryz.func18,by kernel_rfl⟩
theorem l189:FnOk Tryz.prog noLaid ids alts 189 (erFn w189):=.inl ⟨Tryz.f19,Tryz.func19,by kernel_rfl⟩
theorem l190:FnOk Tryz.prog noLaid ids alts 190 (erFn w190):=.inl ⟨Tryz.f20,Tryz.func20,by kernel_rfl⟩
theorem l191:FnOk Tryz.prog noLaid ids alts 191 (erFn w191):=.inl ⟨Tryz.f21,Tryz.func21,by kernel_rfl⟩
theorem l192:FnOk Tryz.prog noLaid ids alts 192 (erFn w192):=.inl ⟨Tryz.f22,Tryz.func22,by kernel_rfl⟩
theorem l193:FnOk Tryz.prog noLaid ids alts 193 (erFn w193):=.inl ⟨Tryz.f23,Tryz.func23,by kernel_rfl⟩
theorem l194:FnOk Tryz.prog noLaid ids alts 194 (erFn w194):=.inl ⟨Tryz.f24,Tryz.func24,by kernel_rfl⟩
theorem l195:FnOk Tryz.prog noLaid ids alts 195 (erFn w195):=.inl ⟨Tryz.f25,Tryz.func25,by kernel_rfl⟩
theorem l196:FnOk Tryz.prog noLaid ids alts 196 (erFn w196):=.inl ⟨Tryz.f26,Tryz.func26,by kernel_rfl⟩
theorem l197:FnOk Tryz.prog noLaid ids alts 197 (erFn w197):=.inl ⟨Tryz.f27,Tryz.func27,by kernel_rfl⟩
theorem l198:FnOk Tryz.prog noLaid ids alts 198 (erFn w198):=.inl ⟨Tryz.f28,Tryz.func28,by kernel_rfl⟩
theorem l200:FnOk Tryz.prog noLaid ids alts 200 (erFn w200):=.inl ⟨Tryz.f30,Tryz.func30,by kernel_rfl⟩
theorem l201:FnOk Tryz.prog noLaid ids alts 201 (erFn w201):=.inl ⟨Tryz.f31,Tryz.func31,by kernel_rfl⟩
theorem l203:FnOk Tryz.prog noLaid ids alts 203 (erFn w203):=.inl ⟨Tryz.f33,Tryz.func33,by kernel_rfl⟩
theorem l204:FnOk Tryz.prog noLaid ids alts 204 (erFn w204):=.inl ⟨Tryz.f35,Tryz.func35,by kernel_rfl⟩
theorem l205:FnOk Tryz.prog noLaid ids alts 205 (erFn w205):=.inl ⟨Tryz.f36,Tryz.func36,by kernel_rfl⟩
theorem l206:FnOk Tryz.prog noLaid ids alts 206 (erFn w206):=.inl ⟨Tryz.f37,Tryz.func37,by kernel_rfl⟩
theorem l207:FnOk Tryz.prog noLaid ids alts 207 (erFn w207):=.inl ⟨Tryz.f38,Tryz.func38,by kernel_rfl⟩
theorem l208:FnOk Tryz.prog noLaid ids alts 208 (erFn w208):=.inl ⟨Tryz.f39,Tryz.func39,by kernel_rfl⟩
theorem l210:FnOk Tryz.prog noLaid ids alts 210 (erFn w210):=.inl ⟨Tryz.f41,Tryz.func41,by kernel_rfl⟩
theorem l212:FnOk Tryz.prog noLaid ids alts 212 (erFn w212):=.inl ⟨Tryz.f43,Tryz.func43,by kernel_rfl⟩
theorem l213:FnOk Tryz.prog noLaid ids alts 213 (erFn w213):=.inl ⟨Tryz.f44,Tryz.func44,by kernel_rfl⟩
theorem l214:FnOk Tryz.prog noLaid ids alts 214 (erFn w214):=.inl ⟨Tryz.f45,Tryz.func45,by kernel_rfl⟩
theorem l215:FnOk Tryz.prog noLaid ids alts 215 (erFn w215):=.inl ⟨Tryz.f46,Tryz.func46,by kernel_rfl⟩
theorem l363:FnOk Tryz.prog noLaid ids alts 363 (erFn w363):=.inl ⟨Tryz.f47,Tryz.func47,by kernel_rfl⟩
theorem l364:FnOk Tryz.prog noLaid ids alts 364 (erFn w364):=.inl ⟨Tryz.f48,Tryz.func48,by kernel_rfl⟩
theorem l365:FnOk Tryz.prog noLaid ids alts 365 (erFn w365):=.inl ⟨Tryz.f49,Tryz.func49,by kernel_rfl⟩
theorem l366:FnOk Tryz.prog noLaid ids alts 366 (erFn w366):=.inl ⟨Tryz.f50,Tryz.func50,by kernel_rfl⟩
theorem l367:FnOk Tryz.prog noLaid ids alts 367 (erFn w367):=.inl ⟨Tryz.f51,Tryz.func51,by kernel_rfl⟩
theorem l368:FnOk Tryz.prog noLaid ids alts 368 (erFn w368):=.inl ⟨Tryz.f52,Tryz.func52,by kernel_rfl⟩
theorem l369:FnOk Tryz.prog noLaid ids alts 369 (erFn w369):=.inl ⟨Tryz.f53,Tryz.func53,by kernel_rfl⟩
theorem l370:FnOk Tryz.prog noLaid ids alts 370 (erFn w370):=.inl ⟨Tryz.f54,Tryz.func54,by kernel_rfl⟩
theorem l371:FnOk Tryz.prog noLaid ids alts 371 (erFn w371):=.inl ⟨Tryz.f55,Tryz.func55,by kernel_rfl⟩
theorem l372:FnOk Tryz.prog noLaid ids alts 372 (erFn w372):=.inl ⟨Tryz.f56,Tryz.func56,by kernel_rfl⟩
theorem l373:FnOk Tryz.prog noLaid ids alts 373 (erFn w373):=.inl ⟨Tryz.f57,Tryz.func57,by kernel_rfl⟩
theorem l374:FnOk Tryz.prog noLaid ids alts 374 (erFn w374):=.inl ⟨Tryz.f58,Tryz.func58,by kernel_rfl⟩
theorem l375:FnOk Tryz.prog noLaid ids alts 375 (erFn w375):=.inl ⟨Tryz.f59,Tryz.func59,by kernel_rfl⟩
theorem l376:FnOk Tryz.prog noLaid ids alts 376 (erFn w376):=.inl ⟨Tryz.f60,Tryz.func60,by kernel_rfl⟩
theorem l377:FnOk Tryz.prog noLaid ids alts 377 (erFn w377):=.inl ⟨Tryz.f61,Tryz.func61,by kernel_rfl⟩
theorem l379:FnOk Tryz.prog noLaid ids alts 379 (erFn w379):=.inl ⟨Tryz.f63,Tryz.func63,by kernel_rfl⟩
theorem l380:FnOk Tryz.prog noLaid ids alts 380 (erFn w380):=.inl ⟨Tryz.f64,Tryz.func64,by kernel_rfl⟩
theorem l381:FnOk Tryz.prog noLaid ids alts 381 (erFn w381):=.inl ⟨Tryz.f65,Tryz.func65,by kernel_rfl⟩
theorem l383:FnOk Tryz.prog noLaid ids alts 383 (erFn w383):=.inl ⟨Tryz.f67,Tryz.func67,by kernel_rfl⟩
theorem l384:FnOk Tryz.prog noLaid ids alts 384 (erFn w384):=.inl ⟨Tryz.f68,Tryz.func68,by kernel_rfl⟩
theorem l385:FnOk Tryz.prog noLaid ids alts 385 (erFn w385):=.inl ⟨Tryz.f74,Tryz.func74,by kernel_rfl⟩
theorem l386:FnOk Tryz.prog noLaid ids alts 386 (erFn w386):=.inl ⟨Tryz.f75,Tryz.func75,by kernel_rfl⟩
theorem l387:FnOk Tryz.prog noLaid ids alts 387 (erFn w387):=.inl ⟨Tryz.f76,Tryz.func76,by kernel_rfl⟩
theorem l388:FnOk Tryz.prog noLaid ids alts 388 (erFn w388):=.inl ⟨Tryz.f77,Tryz.func77,by kernel_rfl⟩
theorem l390:FnOk Tryz.prog noLaid ids alts 390 (erFn w390):=.inl ⟨Tryz.f79,Tryz.func79,by kernel_rfl⟩
theorem l391:FnOk Tryz.prog noLaid ids alts 391 (erFn w391):=.inl ⟨Tryz.f80,Tryz.func80,by kernel_rfl⟩
theorem l392:FnOk Tryz.prog noLaid ids alts 392 (erFn w392):=.inl ⟨Tryz.f81,Tryz.func81,by kernel_rfl⟩
theorem l393:FnOk Tryz.prog noLaid ids alts 393 (erFn w393):=.inl ⟨Tryz.f82,Tryz.func82,by kernel_rfl⟩
theorem l395:FnOk Tryz.prog noLaid ids alts 395 (erFn w395):=.inl ⟨Tryz.f84,Tryz.func84,by kernel_rfl⟩
theorem l396:FnOk Tryz.prog noLaid ids alts 396 (erFn w396):=.inl ⟨Tryz.f85,Tryz.func85,by kernel_rfl⟩
theorem l397:FnOk Tryz.prog noLaid ids alts 397 (erFn w397):=.inl ⟨Tryz.f86,Tryz.func86,by kernel_rfl⟩
theorem l411:FnOk Tryz.prog noLaid ids alts 411 (erFn w411):=.inl ⟨Tryz.f132,Tryz.func132,by kernel_rfl⟩
theorem l470:FnOk Tryz.prog noLaid ids alts 470 (erFn w470):=.inl ⟨Tryz.f87,Tryz.func87,by kernel_rfl⟩
theorem l471:FnOk Tryz.prog noLaid ids alts 471 (erFn w471):=.inl ⟨Tryz.f88,Tryz.func88,by kernel_rfl⟩
theorem l472:FnOk Tryz.prog noLaid ids alts 472 (erFn w472):=.inl ⟨Tryz.f89,Tryz.func89,by kernel_rfl⟩
theorem l473:FnOk Tryz.prog noLaid ids alts 473 (erFn w473):=.inl ⟨Tryz.f90,Tryz.func90,by kernel_rfl⟩
theorem l474:FnOk Tryz.prog noLaid ids alts 474 (erFn w474):=.inl ⟨Tryz.f91,Tryz.func91,by kernel_rfl⟩
theorem l475:FnOk Tryz.prog noLaid ids alts 475 (erFn w475):=.inl ⟨Tryz.f92,Tryz.func92,by kernel_rfl⟩
theorem l476:FnOk Tryz.prog noLaid ids alts 476 (erFn w476):=.inl ⟨Tryz.f93,Tryz.func93,by kernel_rfl⟩
theorem l477:FnOk Tryz.prog noLaid ids alts 477 (erFn w477):=.inl ⟨Tryz.f94,Tryz.func94,by kernel_rfl⟩
theorem l478:FnOk Tryz.prog noLaid ids alts 478 (erFn w478):=.inl ⟨Tryz.f95,Tryz.func95,by kernel_rfl⟩
theorem l479:FnOk Tryz.prog noLaid ids alts 479 (erFn w479):=.inl ⟨Tryz.f96,Tryz.func96,by kernel_rfl⟩
theorem l480:FnOk Tryz.prog noLaid ids alts 480 (erFn w480):=.inl ⟨Tryz.f97,Tryz.func97,by kernel_rfl⟩
theorem l481:FnOk Tryz.prog noLaid ids alts 481 (erFn w481):=.inl ⟨Tryz.f98,Tryz.func98,by kernel_rfl⟩
theorem l482:FnOk Tryz.prog noLaid ids alts 482 (erFn w482):=.inl ⟨Tryz.f99,Tryz.func99,by kernel_rfl⟩
theorem l483:FnOk Tryz.prog noLaid ids alts 483 (erFn w483):=.inl ⟨Tryz.f100,Tryz.func100,by kernel_rfl⟩
theorem l485:FnOk Tryz.prog noLaid ids alts 485 (erFn w485):=.inl ⟨Tryz.f102,Tryz.func102,by kernel_rfl⟩
theorem l487:FnOk Tryz.prog noLaid ids alts 487 (erFn w487):=.inl ⟨Tryz.f104,Tryz.func104,by kernel_rfl⟩
theorem l488:FnOk Tryz.prog noLaid ids alts 488 (erFn w488):=.inl ⟨Tryz.f105,Tryz.func105,by kernel_rfl⟩
theorem l489:FnOk Tryz.prog noLaid ids alts 489 (erFn w489):=.inl ⟨Tryz.f106,Tryz.func106,by kernel_rfl⟩
theorem l490:FnOk Tryz.prog noLaid ids alts 490 (erFn w490):=.inl ⟨Tryz.f107,Tryz.func107,by kernel_rfl⟩
theorem l491:FnOk Tryz.prog noLaid ids alts 491 (erFn w491):=.inl ⟨Tryz.f108,Tryz.func108,by kernel_rfl⟩
theorem l493:FnOk Tryz.prog noLaid ids alts 493 (erFn w493):=.inl ⟨Tryz.f110,Tryz.func110,by kernel_rfl⟩
theorem l508:FnOk Tryz.prog noLaid ids alts 508 (erFn w508):=.inl ⟨Tryz.f127,Tryz.func127,by kernel_rfl⟩
theorem l533:FnOk Tryz.prog noLaid ids alts 533 (erFn w533):=.inl ⟨Tryz.f111,Tryz.func111,by kernel_rfl⟩
theorem l534:FnOk Tryz.prog noLaid ids alts 534 (erFn w534):=.inl ⟨Tryz.f112,Tryz.func112,by kernel_rfl⟩
theorem l535:FnOk Tryz.prog noLaid ids alts 535 (erFn w535):=.inl ⟨Tryz.f113,Tryz.func113,by kernel_rfl⟩
theorem l536:FnOk Tryz.prog noLaid ids alts 536 (erFn w536):=.inl ⟨Tryz.f114,Tryz.func114,by kernel_rfl⟩
theorem l537:FnOk Tryz.prog noLaid ids alts 537 (erFn w537):=.inl ⟨Tryz.f115,Tryz.func115,by kernel_rfl⟩
theorem l539:FnOk Tryz.prog noLaid ids alts 539 (erFn w539):=.inl ⟨Tryz.f117,Tryz.func117,by kernel_rfl⟩
theorem l540:FnOk Tryz.prog noLaid ids alts 540 (erFn w540):=.inl ⟨Tryz.f118,Tryz.func118,by kernel_rfl⟩
theorem l541:FnOk Tryz.prog noLaid ids alts 541 (erFn w541):=.inl ⟨Tryz.f119,Tryz.func119,by kernel_rfl⟩
theorem l542:FnOk Tryz.prog noLaid ids alts 542 (erFn w542):=.inl ⟨Tryz.f120,Tryz.func120,by kernel_rfl⟩
theorem l555:FnOk Tryz.prog noLaid ids alts 555 (erFn w555):=.inl ⟨Tryz.f139,Tryz.func139,by kernel_rfl⟩
theorem l567:FnOk Tryz.prog noLaid ids alts 567 (erFn w567):=.inl ⟨Tryz.f121,Tryz.func121,by kernel_rfl⟩
theorem l568:FnOk Tryz.prog noLaid ids alts 568 (erFn w568):=.inl ⟨Tryz.f122,Tryz.func122,by kernel_rfl⟩
theorem l569:FnOk Tryz.prog noLaid ids alts 569 (erFn w569):=.inl ⟨Tryz.f123,Tryz.func123,by kernel_rfl⟩
theorem l570:FnOk Tryz.prog noLaid ids alts 570 (erFn w570):=.inl ⟨Tryz.f124,Tryz.func124,by kernel_rfl⟩
theorem l571:FnOk Tryz.prog noLaid ids alts 571 (erFn w571):=.inl ⟨Tryz.f125,Tryz.func125,by kernel_rfl⟩
theorem l572:FnOk Tryz.prog noLaid ids alts 572 (erFn w572):=.inl ⟨Tryz.f126,Tryz.func126,by kernel_rfl⟩
theorem l573:FnOk Tryz.prog noLaid ids alts 573 (erFn w573):=.inl ⟨Tryz.f128,Tryz.func128,by kernel_rfl⟩
theorem l574:FnOk Tryz.prog noLaid ids alts 574 (erFn w574):=.inl ⟨Tryz.f129,Tryz.func129,by kernel_rfl⟩
theorem l575:FnOk Tryz.prog noLaid ids alts 575 (erFn w575):=.inl ⟨Tryz.f130,Tryz.func130,by kernel_rfl⟩
theorem l576:FnOk Tryz.prog noLaid ids alts 576 (erFn w576):=.inl ⟨Tryz.f131,Tryz.func131,by kernel_rfl⟩
theorem l577:FnOk Tryz.prog noLaid ids alts 577 (erFn w577):=.inl ⟨Tryz.f133,Tryz.func133,by kernel_rfl⟩
theorem l587:FnOk Tryz.prog noLaid ids alts 587 (erFn w587):=.inl ⟨Tryz.f134,Tryz.func134,by kernel_rfl⟩
theorem l588:FnOk Tryz.prog noLaid ids alts 588 (erFn w588):=.inl ⟨Tryz.f135,Tryz.func135,by kernel_rfl⟩
theorem l589:FnOk Tryz.prog noLaid ids alts 589 (erFn w589):=.inl ⟨Tryz.f136,Tryz.func136,by kernel_rfl⟩
theorem l590:FnOk Tryz.prog noLaid ids alts 590 (erFn w590):=.inl ⟨Tryz.f137,Tryz.func137,by kernel_rfl⟩
theorem l591:FnOk Tryz.prog noLaid ids alts 591 (erFn w591):=.inl ⟨Tryz.f138,Tryz.func138,by kernel_rfl⟩
theorem l595:FnOk Tryz.prog noLaid ids alts 595 (erFn w595):=.inl ⟨Tryz.f140,Tryz.func140,by kernel_rfl⟩
theorem l2016:FnOk Tryz.prog noLaid ids alts 2016 (erFn w97):=.inl ⟨Tryz.f7,Tryz.func7,by kernel_rfl⟩
theorem l1102:FnOk Tryz.prog noLaid ids alts 1102 (erFn w102):=.inl ⟨Tryz.f12,Tryz.func12,by kernel_rfl⟩
theorem l1191:FnOk Tryz.prog noLaid ids alts 1191 (erFn w191):=.inl ⟨Tryz.f21,Tryz.func21,by kernel_rfl⟩
theorem l1100:FnOk Tryz.prog noLaid ids alts 1100 (erFn w1100):=.inl ⟨Tryz.f10,Tryz.func10,by kernel_rfl⟩
theorem l2199:FnOk Tryz.prog noLaid ids alts 2199 (erFn w199):=.inl ⟨Tryz.f29,Tryz.func29,by kernel_rfl⟩
theorem l2209:FnOk Tryz.prog noLaid ids alts 2209 (erFn w209):=.inl ⟨Tryz.f40,Tryz.func40,by kernel_rfl⟩
theorem l1378:FnOk Tryz.prog noLaid ids alts 1378 (erFn w378):=.inl ⟨Tryz.f62,Tryz.func62,by kernel_rfl⟩
theorem l1073:FnOk Tryz.prog noLaid ids alts 1073 (erFn w73):=.inl ⟨Tryz.f72,Tryz.func72,by kernel_rfl⟩
theorem l2391:FnOk Tryz.prog noLaid ids alts 2391 (erFn w391):=.inl ⟨Tryz.f80,Tryz.func80,by kernel_rfl⟩
def tree0:WTree:=(.node (.node (.node (.node (.node (.node (.node (.node .leaf 0 w0 .leaf) 62 w62 .leaf) 77 w77 (.node .leaf 78 w78 .leaf)) 79 w79 (.node (.node .leaf 80 w80 .leaf) 84 w84 (.node .leaf 94 w94 .leaf))) 95 w95 (.node (.node (.node .leaf 96 w96 .leaf) 97 w97 (.node .leaf 98 w98 .leaf)) 99 w99 (.node (.node .leaf 101 w101 .leaf) 102 w102 (.node .leaf 103 w103 .leaf)))) 104 w104 (.node (.node (.node (.node (.node .leaf 105 w105 .leaf) 106 w106 .leaf) 187 w187 (.node .leaf 188 w188 .leaf)) 189 w189 (.node (.node .leaf 190 w190 .leaf) 191 w191 (.node .leaf 192 w192 .leaf))) 193 w193 (.node (.node (.node .leaf 194 w194 .leaf) 195 w195 (.node .leaf 196 w196 .leaf)) 197 w197 (.node (.node .leaf 198 w198 .leaf) 200 w200 (.node .leaf 201 w201 .leaf))))) 203 w203 (.node (.node (.node (.node (.node (.node .leaf 204 w204 .leaf) 205 w205 .leaf) 206 w206 (.node .leaf 207 w207 .leaf)) 208 w208 (.node (.node .leaf 210 w210 .leaf) 212 w212 (.node .leaf 213 w213 .leaf))) 214 w214 (.node (.node (.node .leaf 215 w215 .leaf) 363 w363 (.node .leaf 364 w364 .leaf)) 365 w365 (.node (.node .leaf 366 w366 .leaf) 367 w367 (.node .leaf 368 w368 .leaf)))) 369 w369 (.node (.node (.node (.node (.node .leaf 370 w370 .leaf) 371 w371 .leaf) 372 w372 (.node .leaf 373 w373 .leaf)) 374 w374 (.node (.node .leaf 375 w375 .leaf) 376 w376 (.node .leaf 377 w377 .leaf))) 379 w379 (.node (.node (.node .leaf 380 w380 .leaf) 381 w381 (.node .leaf 383 w383 .leaf)) 384 w384 (.node (.node .leaf 385 w385 .leaf) 386 w386 (.node .leaf 387 w387 .leaf)))))) 388 w388 (.node (.node (.node (.node (.node (.node (.node .leaf 390 w390 .leaf) 391 w391 .leaf) 392 w392 (.node .leaf 393 w393 .leaf)) 395 w395 (.node (.node .leaf 396 w396 .leaf) 397 w397 (.node .leaf 411 w411 .leaf))) 470 w470 (.node (.node (.node .leaf 471 w471 .leaf) 472 w472 (.node .leaf 473 w473 .leaf)) 474 w474 (.node (.node .leaf 475 w475 .leaf) 476 w476 (.node .leaf 477 w477 .leaf)))) 478 w478 (.node (.node (.node (.node (.node .leaf 479 w479 .leaf) 480 w480 .leaf) 481 w481 (.node .leaf 482 w482 .leaf)) 483 w483 (.node (.node .leaf 485 w485 .leaf) 487 w487 (.node .leaf 488 w488 .leaf))) 489 w489 (.node (.node (.node .leaf 490 w490 .leaf) 491 w491 (.node .leaf 493 w493 .leaf)) 508 w508 (.node (.node .leaf 533 w533 .leaf) 534 w534 (.node .leaf 535 w535 .leaf))))) 536 w536 (.node (.node (.node (.node (.node (.node .leaf 537 w537 .leaf) 539 w539 .leaf) 540 w540 (.node .leaf 541 w541 .leaf)) 542 w542 (.node (.node .leaf 555 w555 .leaf) 567 w567 (.node .leaf 568 w568 .leaf))) 569 w569 (.node (.node (.node .leaf 570 w570 .leaf) 571 w571 (.node .leaf 572 w572 .leaf)) 573 w573 (.node (.node .leaf 574 w574 .leaf) 575 w575 (.node .leaf 576 w576 .leaf)))) 577 w577 (.node (.node (.node (.node .leaf 587 w587 .leaf) 588 w588 (.node .leaf 589 w589 .leaf)) 590 w590 (.node (.node .leaf 591 w591 .leaf) 595 w595 (.node .leaf 1073 w73 .leaf))) 1100 w1100 (.node (.node (.node .leaf 1102 w102 .leaf) 1191 w191 (.node .leaf 1378 w378 .leaf)) 2016 w97 (.node (.node .leaf 2199 w199 .leaf) 2209 w209 (.node .leaf 2391 w391 .leaf)))))))
def prog0:WProg:=⟨tree0,Go.D.inlB,Go.D.ppB⟩
theorem all0:TreeAll (FnOk Tryz.prog noLaid ids alts) (erProg prog0).fns:=⟨⟨⟨⟨⟨⟨⟨⟨trivial,l0,trivial⟩,l62,trivial⟩,l77,⟨trivial,l78,trivial⟩⟩,l79,⟨⟨trivial,l80,trivial⟩,l84,⟨trivial,l94,trivial⟩⟩⟩,l95,⟨⟨⟨trivial,l96,trivial⟩,l97,⟨trivial,l98,trivial⟩⟩,l99,⟨⟨trivial,l101,trivial⟩,l102,⟨trivial,l103,trivial⟩⟩⟩⟩,l104,⟨⟨⟨⟨⟨trivial,l105,trivial⟩,l106,trivial⟩,l187,⟨trivial,l188,trivial⟩⟩,l189,⟨⟨trivial,l190,trivial⟩,l191,⟨trivial,l192,trivial⟩⟩⟩,l193,⟨⟨⟨trivial,l194,trivial⟩,l195,⟨trivial,l196,trivial⟩⟩,l197,⟨⟨trivial,l198,trivial⟩,l200,⟨trivial,l201,trivial⟩⟩⟩⟩⟩,l203,⟨⟨⟨⟨⟨⟨trivial,l204,trivial⟩,l205,trivial⟩,l206,⟨trivial,l207,trivial⟩⟩,l208,⟨⟨trivial,l210,trivial⟩,l212,⟨trivial,l213,trivial⟩⟩⟩,l214,⟨⟨⟨trivial,l215,trivial⟩,l363,⟨trivial,l364,trivial⟩⟩,l365,⟨⟨trivial,l366,trivial⟩,l367,⟨trivial,l368,trivial⟩⟩⟩⟩,l369,⟨⟨⟨⟨⟨trivial,l370,trivial⟩,l371,trivial⟩,l372,⟨trivial,l373,trivial⟩⟩,l374,⟨⟨trivial,l375,trivial⟩,l376,⟨trivial,l377,trivial⟩⟩⟩,l379,⟨⟨⟨trivial,l380,trivial⟩,l381,⟨trivial,l383,trivial⟩⟩,l384,⟨⟨trivial,l385,trivial⟩,l386,⟨trivial,l387,trivial⟩⟩⟩⟩⟩⟩,l388,⟨⟨⟨⟨⟨⟨⟨trivial,l390,trivial⟩,l391,trivial⟩,l392,⟨trivial,l393,trivial⟩⟩,l395,⟨⟨trivial,l396,trivial⟩,l397,⟨trivial,l411,trivial⟩⟩⟩,l470,⟨⟨⟨trivial,l471,trivial⟩,l472,⟨trivial,l473,trivial⟩⟩,l474,⟨⟨trivial,l475,trivial⟩,l476,⟨trivial,l477,trivial⟩⟩⟩⟩,l478,⟨⟨⟨⟨⟨trivial,l479,trivial⟩,l480,trivial⟩,l481,⟨trivial,l482,trivial⟩⟩,l483,⟨⟨trivial,l485,trivial⟩,l487,⟨trivial,l488,trivial⟩⟩⟩,l489,⟨⟨⟨trivial,l490,trivial⟩,l491,⟨trivial,l493,trivial⟩⟩,l508,⟨⟨trivial,l533,trivial⟩,l534,⟨trivial,l535,trivial⟩⟩⟩⟩⟩,l536,⟨⟨⟨⟨⟨⟨trivial,l537,trivial⟩,l539,trivial⟩,l540,⟨trivial,l541,trivial⟩⟩,l542,⟨⟨trivial,l555,trivial⟩,l567,⟨trivial,l568,trivial⟩⟩⟩,l569,⟨⟨⟨trivial,l570,trivial⟩,l571,⟨trivial,l572,trivial⟩⟩,l573,⟨⟨trivial,l574,trivial⟩,l575,⟨trivial,l576,trivial⟩⟩⟩⟩,l577,⟨⟨⟨⟨trivial,l587,trivial⟩,l588,⟨trivial,l589,trivial⟩⟩,l590,⟨⟨trivial,l591,trivial⟩,l595,⟨trivial,l1073,trivial⟩⟩⟩,l1100,⟨⟨⟨trivial,l1102,trivial⟩,l1191,⟨trivial,l1378,trivial⟩⟩,l2016,⟨⟨trivial,l2199,trivial⟩,l2209,⟨trivial,l2391,trivial⟩⟩⟩⟩⟩⟩⟩
theorem link0:Linked Tryz.prog (phiG ids alts) ⟨psiOf ids,noLaid⟩ (erProg prog0):=linked (by kernel_rfl) (by kernel_rfl) all0 (by kernel_rfl) (by kernel_rfl)
theorem l202:FnOk Tryz.prog noLaid ids alts 202 (erFn w202):=.inr (Go.Proofs.H11.move_prim link0 (by kernel_rfl) (by kernel_rfl) (by kernel_rfl) (by kernel_rfl) (by kernel_rfl) (by kernel_rfl) (by kernel_rfl) (by kernel_rfl) (by kernel_rfl) (by kernel_rfl) (fun c o h=>by cases h) 202 (by kernel_rfl)).rule
theorem l211:FnOk Tryz.prog noLaid ids alts 211 (erFn w211):=.inr (Go.Proofs.H11.moves_prim link0 (by kernel_rfl) (by kernel_rfl) (fun c o h=>by cases h) 211 (by kernel_rfl)).rule
theorem l389:FnOk Tryz.prog noLaid ids alts 389 (erFn w389):=.inr (Go.Proofs.H11.sorted_prim link0 (by kernel_rfl) (by kernel_rfl) (by kernel_rfl) (fun c o h=>by cases h) 389 (by kernel_rfl)).rule
def prog:WProg:=⟨tree,Go.D.inlB,Go.D.ppB⟩
theorem all:TreeAll (FnOk Tryz.prog noLaid ids alts) (erProg prog).fns:=⟨⟨⟨⟨⟨⟨⟨⟨trivial,l0,trivial⟩,l62,trivial⟩,l77,⟨trivial,l78,trivial⟩⟩,l79,⟨⟨trivial,l80,trivial⟩,l84,⟨trivial,l94,trivial⟩⟩⟩,l95,⟨⟨⟨⟨trivial,l96,trivial⟩,l97,trivial⟩,l98,⟨trivial,l99,trivial⟩⟩,l101,⟨⟨trivial,l102,trivial⟩,l103,⟨trivial,l104,trivial⟩⟩⟩⟩,l105,⟨⟨⟨⟨⟨trivial,l106,trivial⟩,l187,trivial⟩,l188,⟨trivial,l189,trivial⟩⟩,l190,⟨⟨trivial,l191,trivial⟩,l192,⟨trivial,l193,trivial⟩⟩⟩,l194,⟨⟨⟨trivial,l195,trivial⟩,l196,⟨trivial,l197,trivial⟩⟩,l198,⟨⟨trivial,l200,trivial⟩,l201,⟨trivial,l202,trivial⟩⟩⟩⟩⟩,l203,⟨⟨⟨⟨⟨⟨trivial,l204,trivial⟩,l205,trivial⟩,l206,⟨trivial,l207,trivial⟩⟩,l208,⟨⟨trivial,l210,trivial⟩,l211,⟨trivial,l212,trivial⟩⟩⟩,l213,⟨⟨⟨trivial,l214,trivial⟩,l215,⟨trivial,l363,trivial⟩⟩,l364,⟨⟨trivial,l365,trivial⟩,l366,⟨trivial,l367,trivial⟩⟩⟩⟩,l368,⟨⟨⟨⟨⟨trivial,l369,trivial⟩,l370,trivial⟩,l371,⟨trivial,l372,trivial⟩⟩,l373,⟨⟨trivial,l374,trivial⟩,l375,⟨trivial,l376,trivial⟩⟩⟩,l377,⟨⟨⟨trivial,l379,trivial⟩,l380,⟨trivial,l381,trivial⟩⟩,l383,⟨⟨trivial,l384,trivial⟩,l385,⟨trivial,l386,trivial⟩⟩⟩⟩⟩⟩,l387,⟨⟨⟨⟨⟨⟨⟨trivial,l388,trivial⟩,l389,trivial⟩,l390,⟨trivial,l391,trivial⟩⟩,l392,⟨⟨trivial,l393,trivial⟩,l395,⟨trivial,l396,trivial⟩⟩⟩,l397,⟨⟨⟨⟨trivial,l411,trivial⟩,l470,trivial⟩,l471,⟨trivial,l472,trivial⟩⟩,l473,⟨⟨trivial,l474,trivial⟩,l475,⟨trivial,l476,trivial⟩⟩⟩⟩,l477,⟨⟨⟨⟨⟨trivial,l478,trivial⟩,l479,trivial⟩,l480,⟨trivial,l481,trivial⟩⟩,l482,⟨⟨trivial,l483,trivial⟩,l485,⟨trivial,l487,trivial⟩⟩⟩,l488,⟨⟨⟨trivial,l489,trivial⟩,l490,⟨trivial,l491,trivial⟩⟩,l493,⟨⟨trivial,l508,trivial⟩,l533,⟨trivial,l534,trivial⟩⟩⟩⟩⟩,l535,⟨⟨⟨⟨⟨⟨trivial,l536,trivial⟩,l537,trivial⟩,l539,⟨trivial,l540,trivial⟩⟩,l541,⟨⟨trivial,l542,trivial⟩,l555,⟨trivial,l567,trivial⟩⟩⟩,l568,⟨⟨⟨trivial,l569,trivial⟩,l570,⟨trivial,l571,trivial⟩⟩,l572,⟨⟨trivial,l573,trivial⟩,l574,⟨trivial,l575,trivial⟩⟩⟩⟩,l576,⟨⟨⟨⟨⟨trivial,l577,trivial⟩,l587,trivial⟩,l588,⟨trivial,l589,trivial⟩⟩,l590,⟨⟨trivial,l591,trivial⟩,l595,⟨trivial,l1073,trivial⟩⟩⟩,l1100,⟨⟨⟨trivial,l1102,trivial⟩,l1191,⟨trivial,l1378,trivial⟩⟩,l2016,⟨⟨trivial,l2199,trivial⟩,l2209,⟨trivial,l2391,trivial⟩⟩⟩⟩⟩⟩⟩
theorem okT:okTree prog.fns=true:=by kernel_rfl
theorem link:Linked Tryz.prog (phiG ids alts) ⟨psiOf ids,noLaid⟩ (erProg prog):=linked (by kernel_rfl) (by kernel_rfl) (all) (by kernel_rfl) (by kernel_rfl)
end P
end
section
namespace Go.Pw
open Go Go.Pav
inductive CT where
 | bool
 | int (k:IntKind)
 | str
 | slice (ts:List CT)
inductive Ty:CT→AV→Prop
 | bool (b:Bool):Ty .bool (.bool b)
 | int (k:IntKind) (n:Int) (h1:k.min≤n) (h2:n≤k.max):Ty (.int k) (.int k n)
 | str (s:List UInt8) (h:s.length < 2 ^ 63):Ty .str (.str s)
 | slice (ts:List CT) (es:List (List AV)) (ex:Bool) (hn:es.length < 2 ^ 63) (hw:∀ (i:Nat) (e:List AV),es[i]?=some e→e.length=ts.length)
  (h:∀ (i:Nat) (e:List AV) (j:Nat) (ct:CT) (x:AV),es[i]?=some e→ts[j]?=some ct→e[j]?=some x→Ty ct x):Ty (.slice ts) (.ro ts.length es ex)
theorem Ty.isC {ct:CT} {a:AV} (h:Ty ct a):Pw.isC a=true:=by cases h <;> rfl
def fieldsT (F:TypeId→Option (List CT)) (P:Program):List Field→Nat→Option (List CT)
 | [],_=>some []
 | f::r,off=>(F f.type).bind fun ts=>if f.offset=off∧ts.length=P.cellsOf f.type then (fieldsT F P r (off+ts.length)).map (ts++·) else none
def flatT (P:Program):Nat→TypeId→Option (List CT)
 | 0,_=>none
 | n+1,t=>match P.underlying t with
  | some .bool=>some [.bool]
  | some (.int k)=>some [.int k]
  | some .string=>some [.str]
  | some (.slice e)=>(flatT P n e).bind fun ts=>if ts.length=P.cellsOf e∧0 < ts.length then some [.slice ts] else none
  | some (.struct fs)=>(fieldsT (flatT P n) P fs.toList 0).bind fun ts=>if ts.length=P.cellsOf t then some ts else none
  | some (.array m e)=>(flatT P n e).bind fun ts=>if ts.length=P.cellsOf e∧m * ts.length=P.cellsOf t then some (List.replicate m ts).flatten else none
  | _=>none
theorem flatten_rep {α:Type} (ts:List α):∀ (m j:Nat),j < m * ts.length→(List.replicate m ts).flatten[j]?=ts[j % ts.length]?
 | 0,j,h=>by simp at h
 | m+1,j,h=>by
  rw [List.replicate_succ,List.flatten_cons]
  rcases Nat.lt_or_ge j ts.length with hl | hl
  · rw [List.getElem?_append_left hl,Nat.mod_eq_of_lt hl]
  · rw [List.getElem?_append_right hl,flatten_rep ts m (j - ts.length) (by rw [Nat.add_mul] at h;omega),Nat.mod_eq_sub_mod hl]
theorem trod_array {H:Type} {enc:TypeId × Value→H} {P:Program} {w:World} {base:Nat} {spare:Nat→Bool} {held:Bool} {fuel:Nat} {t:TypeId} {cs:List Value} {x:DataW H × List MemPlace} {m:Nat} {e:TypeId}
 (ht:P.underlying t=some (.array m e)) (h:DataW.trod enc P w base spare held fuel t cs=some x) :
 ∃ (xs:List (DataW H × List MemPlace)) (n:Nat),fuel=n+1∧cs.length=P.cellsOf t∧xs.length=m ∧
  ∀ i,i < m→DataW.trod enc P w base spare held n e ((cs.drop (i * P.cellsOf e)).take (P.cellsOf e))=xs[i]?:=by
 cases fuel with
 | zero=>simp [DataW.trod] at h
 | succ n =>
  unfold DataW.trod at h
  rw [ht] at h
  split at h <;> simp_all
  obtain ⟨hl,xs,hp,hd⟩:=h
  exact ⟨xs,by simpa using mapM_some_length hp,fun i hi=>mapM_some_get hp i i (List.getElem?_range hi)⟩
def CellOk (ψ:Psi) (W:World) (ct:CT) (v:Value):Prop :=
 ∃ a a',Ty ct a∧VD id (fun _=>False) a a'∧a'.cell=true∧VR ψ W (fun c=>c < W.heap.size) (fun _=>(0,0)) (fun _=>False) a' v
section
variable {H:Type} {enc:TypeId × Value→H} {P:Program} {W:World} {ψ:Psi}
theorem fields_open {F:TypeId→Option (List CT)} {n:Nat} {cs:List Value}
 (hF:∀ t cs x ts,F t=some ts→DataW.trod enc P W 0 (fun _=>true) true n t cs=some x→cs.length=ts.length∧∀ (j:Nat) (ct:CT),ts[j]?=some ct→∃ v,cs[j]?=some v∧CellOk ψ W ct v) :
 ∀ (fs:List Field) (off:Nat) (ts:List CT),fieldsT F P fs off=some ts→(∀ f ∈ fs,∃ x,DataW.trod enc P W 0 (fun _=>true) true n f.type ((cs.drop f.offset).take (P.cellsOf f.type))=some x) →
  ∀ (j:Nat) (ct:CT),ts[j]?=some ct→∃ v,cs[off+j]?=some v∧CellOk ψ W ct v:=by
 intro fs
 induction fs with
 | nil=>intro off ts h _ j ct hj;simp only [fieldsT,Option.some.injEq] at h;subst h;simp at hj
 | cons f r ih =>
  intro off ts h hx j ct hj
  simp only [fieldsT,Option.bind_eq_some_iff] at h
  obtain ⟨t1,h1,h⟩:=h
  split at h
  · rename_i hc
    simp only [Option.map_eq_some_iff] at h
    obtain ⟨t2,h2,rfl⟩:=h
    rcases Nat.lt_or_ge j t1.length with hl | hl
    · rw [List.getElem?_append_left hl] at hj
      obtain ⟨x,q⟩:=hx f (by simp)
      obtain ⟨v,q1,q2⟩:=(hF _ _ _ _ h1 q).2 j ct hj
      refine ⟨v,?_,q2⟩
      rw [List.getElem?_take] at q1
      split at q1
      · rw [List.getElem?_drop] at q1;rw [← hc.1];exact q1
      · cases q1
    · rw [List.getElem?_append_right hl] at hj
      obtain ⟨v,q1,q2⟩:=ih _ _ h2 (fun f hf=>hx f (by simp [hf])) _ ct hj
      exact ⟨v,by rw [← q1];congr 1;omega,q2⟩
  · cases h
theorem cells_open:∀ (n k:Nat) (t:TypeId) (cs:List Value) (x:DataW H × List MemPlace) (ts:List CT),flatT P k t=some ts→DataW.trod enc P W 0 (fun _=>true) true n t cs=some x →
 cs.length=ts.length∧∀ (j:Nat) (ct:CT),ts[j]?=some ct→∃ v,cs[j]?=some v∧CellOk ψ W ct v:=by
 intro n
 induction n with
 | zero=>intro k t cs x ts _ h;simp [DataW.trod] at h
 | succ n ih =>
  intro k t cs x ts hf h
  cases k with
  | zero=>simp [flatT] at hf
  | succ k =>
   have one:∀ {v:Value} {ct:CT},cs=[v]→ts=[ct]→CellOk ψ W ct v→cs.length=ts.length∧∀ (j:Nat) (ct:CT),ts[j]?=some ct→∃ v,cs[j]?=some v∧CellOk ψ W ct v:=by
    intro v ct h1 h2 h3
    subst h1;subst h2
    refine ⟨rfl,fun j ct' hj=>?_⟩
    cases j with
    | zero=>simp only [List.getElem?_cons_zero,Option.some.injEq] at hj;subst hj;exact ⟨v,rfl,h3⟩
    | succ j=>simp at hj
   unfold flatT at hf
   split at hf
   · rename_i ht
     cases hf
     obtain ⟨b,e,_⟩:=DataW.trod_bool ht h
     exact one e rfl ⟨_,_,.bool b,.bool b,rfl,.bool b⟩
   · rename_i k' ht
     cases hf
     obtain ⟨m,e,_,hw⟩:=DataW.trod_int ht h
     simp only [Lit.wf,Bool.and_eq_true,decide_eq_true_eq] at hw
     exact one e rfl ⟨_,_,.int k' m hw.1 hw.2,.int k' m,rfl,.int k' m⟩
   · rename_i ht
     cases hf
     obtain ⟨s,e,_,hw⟩:=DataW.trod_string ht h
     refine one e rfl ⟨.str s.data.toList,_,.str _ ?_,.str _,rfl,?_⟩
     · simp only [maxLen] at hw
       have:s.data.toList.length=s.size:=rfl
       omega
     · have:=VR.str (ψ:=ψ) (w:=W) (S:=fun c=>c < W.heap.size) (m:=fun _=>(0,0)) (A:=fun _=>False) s.data.toList
       exact this
   · rename_i el ht
     simp only [Option.bind_eq_some_iff] at hf
     obtain ⟨us,hu,hf⟩:=hf
     split at hf
     · rename_i hz
       obtain ⟨hz,hz0⟩:=hz
       cases hf
       rcases DataW.trod_slice ht h with ⟨e,_⟩ | ⟨a,len,cap,elems,rest,n',hn,e,_,_,hl,hm,hlen,hel,hsp,_⟩
       · exact one e rfl ⟨.ro us.length [] true,.nils,.slice us [] true (by simp) (by simp) (by simp),.ronil _ _,rfl,.nils⟩
       · cases hn
         refine one e rfl ?_
         have row:∀ i,i < cap→∃ vs y,W.cells? 0 (a.add (i * us.length)) us.length=some vs∧DataW.trod enc P W 0 (fun _=>true) true n el vs=some y:=by
          intro i hi
          rcases Nat.lt_or_ge i len with hil | hil
          · have:=hel i hil
            rw [List.getElem?_eq_getElem (by omega),Option.bind_eq_some_iff,← hz] at this
            obtain ⟨vs,q1,q2⟩:=this
            exact ⟨vs,_,q1,q2⟩
          · obtain ⟨q0,q⟩:=hsp rfl
            have:=q (i - len) (by omega)
            rw [List.getElem?_eq_getElem (by omega),Option.bind_eq_some_iff,← hz,show len+(i - len)=i by omega] at this
            obtain ⟨vs,q1,q2⟩:=this
            exact ⟨vs,_,q1,q2⟩
         rcases Nat.eq_zero_or_pos cap with hc0 | hc0
         · subst hc0
           obtain rfl:len=0:=by omega
           exact ⟨.ro us.length [] true,.ro us.length [] true,.slice us [] true (by simp) (by simp) (by simp),.ro _ [] [] true true (by simp) rfl id (by simp) (by simp),rfl,.roe _ _ _ 0 (fun _=>rfl)⟩
         · obtain ⟨b,off,spot⟩:=a
           have hfirst:∃ v,W.cell? ⟨b,off,spot⟩=some v:=by
            obtain ⟨vs,_,q1,_⟩:=row 0 hc0
            obtain ⟨_,q2,q3⟩:=World.cells?_some q1
            have:=q3 0 hz0
            rw [List.getElem?_eq_getElem (by omega)] at this
            exact ⟨_,by simpa [Addr.add] using this⟩
           obtain ⟨v0,hv0⟩:=hfirst
           obtain rfl:spot=none:=World.cell?_spot hv0
           have hS:b < W.heap.size:=by
            unfold World.cell? at hv0
            split at hv0
            · rename_i hb;exact (Array.getElem?_eq_some_iff.1 hb).1
            · cases hv0
           have key:∀ p:Nat × Nat,∃ q:Value × AV × AV,p.1 < len→∀ ct,us[p.2]?=some ct→W.cell? ⟨b,off+p.1 * us.length+p.2,none⟩=some q.1∧Ty ct q.2.1∧VD id (fun _=>False) q.2.1 q.2.2∧q.2.2.cell=true ∧
            VR ψ W (fun c=>c < W.heap.size) (fun _=>(0,0)) (fun _=>False) q.2.2 q.1:=by
            intro ⟨i,j⟩
            by_cases hi:i < len
            · cases hj:us[j]? with
              | none=>exact ⟨default,fun _ ct q=>by cases q⟩
              | some ct =>
               obtain ⟨vs,y,q1,q2⟩:=row i (by omega)
               obtain ⟨v,q3,c1,c2,q4,q5,q6,q7⟩:=(ih _ _ _ _ _ hu q2).2 j ct hj
               refine ⟨(v,c1,c2),fun _ ct' q=>?_⟩
               cases q
               refine ⟨?_,q4,q5,q6,q7⟩
               obtain ⟨_,r1,r2⟩:=World.cells?_some q1
               have hjl:j < us.length:=(List.getElem?_eq_some_iff.1 hj).1
               have:=r2 j hjl
               rw [q3] at this
               rw [← this]
               congr 1
               simp only [Addr.add]
               split <;> split <;> simp_all <;> omega
            · exact ⟨default,fun q=>absurd q hi⟩
           obtain ⟨F,hF⟩:=Classical.axiomOfChoice key
           let es:List (List AV):=(List.range len).map fun i=>(List.range us.length).map fun j=>(F (i,j)).2.1
           let es':List (List AV):=(List.range len).map fun i=>(List.range us.length).map fun j=>(F (i,j)).2.2
           have g1:∀ (i:Nat) (e:List AV),es[i]?=some e→i < len∧e=(List.range us.length).map fun j=>(F (i,j)).2.1:=by
            intro i e he
            simp only [es,List.getElem?_map,Option.map_eq_some_iff] at he
            obtain ⟨i',q1,q2⟩:=he
            have:=List.getElem?_eq_some_iff.1 q1
            obtain ⟨q3,q4⟩:=this
            simp at q3 q4
            subst q4
            exact ⟨q3,q2.symm⟩
           have g1':∀ (i:Nat) (e:List AV),es'[i]?=some e→i < len∧e=(List.range us.length).map fun j=>(F (i,j)).2.2:=by
            intro i e he
            simp only [es',List.getElem?_map,Option.map_eq_some_iff] at he
            obtain ⟨i',q1,q2⟩:=he
            have:=List.getElem?_eq_some_iff.1 q1
            obtain ⟨q3,q4⟩:=this
            simp at q3 q4
            subst q4
            exact ⟨q3,q2.symm⟩
           have g2:∀ (G:Nat→AV) (j:Nat) (x:AV),((List.range us.length).map G)[j]?=some x→∃ ct,us[j]?=some ct∧x=G j:=by
            intro G j x hx
            simp only [List.getElem?_map,Option.map_eq_some_iff] at hx
            obtain ⟨j',q1,q2⟩:=hx
            obtain ⟨q3,q4⟩:=List.getElem?_eq_some_iff.1 q1
            simp at q3 q4
            subst q4
            exact ⟨us[j],List.getElem?_eq_getElem q3,q2.symm⟩
           have l1:es.length=len:=by simp [es]
           have l2:es'.length=len:=by simp [es']
           refine ⟨.ro us.length es (decide (cap=len)),.ro us.length es' (decide (cap=len)),.slice us es _ ?_ ?_ ?_,.ro _ es es' _ _ ?_ (by rw [l1,l2]) id ?_ ?_,rfl,?_⟩
           · rw [l1];simp only [maxLen] at hm;omega
           · intro i e he;rw [(g1 i e he).2];simp
           · intro i e j ct y he hct hy
             obtain ⟨q1,rfl⟩:=g1 i e he
             obtain ⟨ct',q2,rfl⟩:=g2 _ j y hy
             rw [hct] at q2
             cases q2
             exact (hF (i,j) q1 ct hct).2.1
           · intro e he y hy
             obtain ⟨i,he⟩:=List.getElem?_of_mem he
             obtain ⟨j,hy⟩:=List.getElem?_of_mem hy
             obtain ⟨q1,rfl⟩:=g1 i e he
             obtain ⟨ct',q2,rfl⟩:=g2 _ j y hy
             exact (hF (i,j) q1 ct' q2).2.1.isC
           · intro i e e' he he'
             rw [(g1 i e he).2,(g1' i e' he').2];simp
           · intro i e e' j y y' he he' hy hy'
             obtain ⟨q1,rfl⟩:=g1 i e he
             obtain ⟨_,rfl⟩:=g1' i e' he'
             obtain ⟨ct',q2,rfl⟩:=g2 _ j y hy
             obtain ⟨_,_,rfl⟩:=g2 _ j y' hy'
             exact (hF (i,j) q1 ct' q2).2.2.1
           · have:=VR.ro (ψ:=ψ) (w:=W) (S:=fun c=>c < W.heap.size) (m:=fun _=>(0,0)) (A:=fun _=>False) us.length es' (decide (cap=len)) b off cap (fun i j=>(F (i,j)).1) hS
              (fun i e he=>by rw [(g1' i e he).2];simp) (by rw [l2];exact hl) (fun q=>by rw [l2];simpa using q)
              (fun i e j y he hy=>by
               obtain ⟨q1,rfl⟩:=g1' i e he
               obtain ⟨ct',q2,rfl⟩:=g2 _ j y hy
               have:=hF (i,j) q1 ct' q2
               exact ⟨this.2.2.2.1,this.1⟩)
              (fun i e j y he hy=>by
               obtain ⟨q1,rfl⟩:=g1' i e he
               obtain ⟨ct',q2,rfl⟩:=g2 _ j y hy
               exact (hF (i,j) q1 ct' q2).2.2.2.2)
             rw [l2] at this
             exact this
     · cases hf
   · rename_i fs ht
     simp only [Option.bind_eq_some_iff] at hf
     obtain ⟨us,hu,hf⟩:=hf
     split at hf
     · rename_i hz
       cases hf
       obtain ⟨xs,n',hn,_,hcl,hxl,hx⟩:=DataW.trod_struct ht h
       cases hn
       refine ⟨by rw [hcl,hz],fun j ct hj=>?_⟩
       have:=fields_open (cs:=cs) (F:=flatT P k) (n:=n) (fun t cs x ts h1 h2=>ih k t cs x ts h1 h2) fs.toList 0 _ hu (fun f hf=>by
        obtain ⟨i,hi⟩:=List.getElem?_of_mem hf
        have hi':fs[i]?=some f:=by simpa using hi
        have hlt:i < fs.size:=(Array.getElem?_eq_some_iff.1 hi').1
        have:=hx i f hi'
        rw [List.getElem?_eq_getElem (by omega)] at this
        exact ⟨_,this⟩) j ct hj
       simpa using this
     · cases hf
   · rename_i m' e ht
     simp only [Option.bind_eq_some_iff] at hf
     obtain ⟨us,hu,hf⟩:=hf
     split at hf
     · rename_i hz
       obtain ⟨hz1,hz2⟩:=hz
       cases hf
       obtain ⟨xs,n',hn,hcl,hxl,hx⟩:=trod_array ht h
       cases hn
       have hlen:(List.replicate m' us).flatten.length=m' * us.length:=by simp
       refine ⟨by rw [hcl,hlen,hz2],fun j ct hj=>?_⟩
       have hjl:j < m' * us.length:=by rw [← hlen];exact (List.getElem?_eq_some_iff.1 hj).1
       have hk:0 < us.length:=by
        rcases Nat.eq_zero_or_pos us.length with q | q
        · rw [q,Nat.mul_zero] at hjl;omega
        · exact q
       rw [flatten_rep us m' j hjl] at hj
       have hq:j / us.length < m':=Nat.div_lt_of_lt_mul (by rw [Nat.mul_comm];exact hjl)
       have hxq:=hx (j / us.length) hq
       rw [List.getElem?_eq_getElem (by omega)] at hxq
       obtain ⟨v,q1,q2⟩:=(ih k e _ _ us hu hxq).2 (j % us.length) ct hj
       refine ⟨v,?_,q2⟩
       rw [List.getElem?_take] at q1
       split at q1
       · rw [List.getElem?_drop,← hz1] at q1
         rw [← q1];congr 1
         exact (Nat.div_add_mod' j us.length).symm
       · cases q1
     · cases hf
   · cases hf
inductive AT where
 | c (ct:CT)
 | g (ts:List CT)
def AT.has:AT→AV→Prop
 | .c ct,a=>Ty ct a
 | .g ts,a=>∃ es,a=.agg es∧es.length=ts.length∧∀ (j:Nat) (ct:CT) (x:AV),ts[j]?=some ct→es[j]?=some x→Ty ct x
def argT (P:Program) (t:TypeId):Option AT :=
 match P.underlying t with
 | some (.struct _)=>(flatT P 20 t).map .g
 | some (.array _ _)=>(flatT P 20 t).map .g
 | some .bool | some (.int _) | some .string | some (.slice _)=>match flatT P 20 t with | some [ct]=>some (.c ct) | _=>none
 | _=>none
theorem cells_plain {t:TypeId} {base:Nat} {v:Value} (hu:P.underlying t=some .bool∨(∃ k,P.underlying t=some (.int k))∨P.underlying t=some .string∨∃ e,P.underlying t=some (.slice e)) (h:Value.okWide P W .any base t v) :
 v.cells=#[v]:=by
 cases v <;> try rfl
 rcases hu with hu | ⟨k,hu⟩ | hu | ⟨e,hu⟩ <;> simp [Value.okWide,hu,Cell.okWide,Cell.ok] at h
theorem arg_open {t:TypeId} {at_:AT} (ha:argT P t=some at_) {base:Nat} {v:Value} (hv:Value.okWide P W .any base t v) {d:DataW H} {p:List MemPlace} (h:DataW.Trod enc P W 0 (fun _=>true) true t v d p) :
 ∃ a a',at_.has a∧VD id (fun _=>False) a a'∧VR ψ W (fun c=>c < W.heap.size) (fun _=>(0,0)) (fun _=>False) a' v:=by
 obtain ⟨fuel,h⟩:=h
 have plain:(P.underlying t=some .bool∨(∃ k,P.underlying t=some (.int k))∨P.underlying t=some .string∨∃ e,P.underlying t=some (.slice e)) →
  (match flatT P 20 t with | some [ct]=>some (AT.c ct) | _=>none)=some at_→∃ a a',at_.has a∧VD id (fun _=>False) a a'∧VR ψ W (fun c=>c < W.heap.size) (fun _=>(0,0)) (fun _=>False) a' v:=by
  intro hu he
  split at he
  · rename_i ct hf
    cases he
    rw [cells_plain hu hv] at h
    obtain ⟨_,q⟩:=cells_open (ψ:=ψ) _ _ _ _ _ _ hf h
    obtain ⟨v',q1,a,a',q2,q3,_,q4⟩:=q 0 ct rfl
    simp only [List.getElem?_cons_zero,Option.some.injEq] at q1
    subst q1
    exact ⟨a,a',q2,q3,q4⟩
  · cases he
 have whole:(∃ cs,v=.agg cs)→(flatT P 20 t).map AT.g=some at_→∃ a a',at_.has a∧VD id (fun _=>False) a a'∧VR ψ W (fun c=>c < W.heap.size) (fun _=>(0,0)) (fun _=>False) a' v:=by
  rintro ⟨cs,rfl⟩ ha
  simp only [Option.map_eq_some_iff] at ha
  obtain ⟨ts,hf,rfl⟩:=ha
  obtain ⟨hl,q⟩:=cells_open (ψ:=ψ) _ _ _ _ _ _ hf h
  simp only [Value.cells] at hl q
  have key:∀ j:Nat,∃ x:AV × AV,∀ ct,ts[j]?=some ct→Ty ct x.1∧VD id (fun _=>False) x.1 x.2∧x.2.cell=true∧∃ v,cs.toList[j]?=some v∧VR ψ W (fun c=>c < W.heap.size) (fun _=>(0,0)) (fun _=>False) x.2 v:=by
   intro j
   cases hj:ts[j]? with
   | none=>exact ⟨default,fun _ q=>by cases q⟩
   | some ct =>
    obtain ⟨v,q1,a,a',q2,q3,q4,q5⟩:=q j ct hj
    exact ⟨(a,a'),fun ct' e=>by cases e;exact ⟨q2,q3,q4,v,q1,q5⟩⟩
  obtain ⟨F,hF⟩:=Classical.axiomOfChoice key
  have g2:∀ (G:Nat→AV) (j:Nat) (x:AV),((List.range ts.length).map G)[j]?=some x→∃ ct,ts[j]?=some ct∧x=G j:=by
   intro G j x hx
   simp only [List.getElem?_map,Option.map_eq_some_iff] at hx
   obtain ⟨j',q1,q2⟩:=hx
   obtain ⟨q3,q4⟩:=List.getElem?_eq_some_iff.1 q1
   simp at q3 q4
   subst q4
   exact ⟨ts[j],List.getElem?_eq_getElem q3,q2.symm⟩
  refine ⟨.agg ((List.range ts.length).map fun j=>(F j).1),.agg ((List.range ts.length).map fun j=>(F j).2),⟨_,rfl,by simp,?_⟩,.agg _ _ (by simp) ?_,.agg _ _ ?_ ?_ ?_⟩
  · intro j ct x hct hx
    obtain ⟨ct',q1,rfl⟩:=g2 _ j x hx
    exact (hF j ct hct).1
  · intro j x x' hx hx'
    obtain ⟨ct,q1,rfl⟩:=g2 _ j x hx
    obtain ⟨_,_,rfl⟩:=g2 _ j x' hx'
    exact (hF j ct q1).2.1
  · simp only [List.length_map,List.length_range]
    rw [← hl];simp
  · intro j x hx
    obtain ⟨ct,q1,rfl⟩:=g2 _ j x hx
    exact (hF j ct q1).2.2.1
  · intro j x hx
    obtain ⟨ct,q1,rfl⟩:=g2 _ j x hx
    obtain ⟨v,q2,q3⟩:=(hF j ct q1).2.2.2
    have e:cs[j]?=some v:=by simpa using q2
    rw [Array.getD_eq_getD_getElem?,e]
    exact q3
 unfold argT at ha
 split at ha
 · rename_i fs ht
   simp only [Value.okWide,ht] at hv
   obtain ⟨cs,hv,_,_⟩:=hv
   exact whole ⟨cs,hv⟩ ha
 · rename_i m e ht
   simp only [Value.okWide,ht] at hv
   obtain ⟨cs,hv,_,_⟩:=hv
   exact whole ⟨cs,hv⟩ ha
 · rename_i ht;exact plain (.inl ht) ha
 · rename_i k ht;exact plain (.inr (.inl ⟨k,ht⟩)) ha
 · rename_i ht;exact plain (.inr (.inr (.inl ht))) ha
 · rename_i e ht;exact plain (.inr (.inr (.inr ⟨e,ht⟩))) ha
 · cases ha
def TyAll:List AT→List AV→Prop
 | [],[]=>True
 | a::r,x::s=>a.has x∧TyAll r s
 | _,_=>False
theorem args_open {base:Nat}:∀ {ts:List TypeId} {ats:List AT} {vs:List Value} {ds:List (DataW H)} {p:List MemPlace},ts.map (argT P)=ats.map some →
 (∀ (j:Nat) (t:TypeId) (v:Value),ts[j]?=some t→vs[j]?=some v→Value.okWide P W .any base t v)→DataW.TrodAll enc P W 0 (fun _=>true) true ts vs ds p →
 ∃ us us',TyAll ats us∧Rel2 (VD id fun _=>False) us us'∧us'.length=vs.length∧∀ (j:Nat) (x:AV) (v:Value),us'[j]?=some x→vs[j]?=some v→VR ψ W (fun c=>c < W.heap.size) (fun _=>(0,0)) (fun _=>False) x v
 | [],[],vs,ds,p,_,_,h=>by
  obtain ⟨rfl,_,_⟩:=ChangeShapes.trodAll_nil h
  exact ⟨[],[],trivial,⟨rfl,by simp⟩,rfl,by simp⟩
 | t::ts,at_::ats,_,_,_,hm,hv,h=>by
  obtain ⟨v,vs1,d,ds1,p1,q1,rfl,rfl,rfl,h1,h2⟩:=ChangeShapes.trodAll_cons h
  simp only [List.map_cons,List.cons.injEq] at hm
  obtain ⟨a,a',r1,r2,r3⟩:=arg_open (ψ:=ψ) hm.1 (hv 0 t v rfl rfl) h1
  obtain ⟨us,us',s1,s2,s3,s4⟩:=args_open hm.2 (fun j t v e1 e2=>hv (j+1) t v e1 e2) h2
  refine ⟨a::us,a'::us',⟨r1,s1⟩,⟨by simp [s2.1],fun j x x' e1 e2=>?_⟩,by simp [s3],fun j x v' e1 e2=>?_⟩
  · cases j with
    | zero=>cases e1;cases e2;exact r2
    | succ j=>exact s2.2 j x x' e1 e2
  · cases j with
    | zero=>cases e1;cases e2;exact r3
    | succ j=>exact s4 j x v' e1 e2
 | [],_::_,_,_,_,hm,_,_=>by simp at hm
 | _::_,[],_,_,_,hm,_,_=>by simp at hm
theorem law_callsL {Φ:Nat→FuncId→Option Nat} {D:WProg} (hL:Linked P Φ ψ (erProg D)) (hok:okTree D.fns=true) (hlay:∀ c o,ψ.laid c=some o→c < W.heap.size∧W.heap[c]?=some o) {f:Nat} {ts:List TypeId} {ats:List AT} (hts:ts.map (argT P)=ats.map some)
 (core:∀ us,TyAll ats us→FnW D f us=some (.bool true)) {base:Nat} {args:Array Value} {ds:List (DataW H)} {p:List MemPlace}
 (hv:∀ (j:Nat) (t:TypeId) (v:Value),ts[j]?=some t→args[j]?=some v→Value.okWide P W .any base t v) (hA:DataW.TrodAll enc P W 0 (fun _=>true) true ts args.toList ds p) :
 Calls P (ψ f) args W fun e W'=>e=.returned (.bool true)∧(∀ c,c < W.heap.size→W'.heap[c]?=W.heap[c]?)∧W.heap.size≤W'.heap.size∧W'.os=W.os∧W'.output=W.output:=by
 obtain ⟨us,us',h1,h2,h3,h4⟩:=args_open (ψ:=ψ) hts (fun j t v e1 e2=>hv j t v e1 (by simpa using e2)) hA
 obtain ⟨n,hc⟩:=fnW_call.1 (core us h1)
 obtain ⟨v',hc',hvd⟩:=callW_ok hok h2 hc
 rw [hvd.bool_inv] at hc'
 refine (callF_ok hL hc' (w:=W) (S:=fun c=>c < W.heap.size) (m:=fun _=>(0,0)) (cargs:=args) hlay (fun _ h=>h) (by rw [h3];simp) fun j x hx=>?_).mono ?_
 · have hj:j < args.size:=by have:=(List.getElem?_eq_some_iff.1 hx).1;rw [h3] at this;simpa using this
   rw [Array.getD_eq_getD_getElem?,Array.getElem?_eq_getElem hj]
   exact h4 j x _ hx (by simp [hj])
 · rintro e W' ⟨cv,S',m',rfl,hr,q1,q2,q3,q4⟩
   rw [hr.inv_bool]
   exact ⟨rfl,q1,q2,q3,q4⟩
theorem law_calls {ψf:Nat→FuncId} {Φ:Nat→FuncId→Option Nat} {D:WProg} (hL:Linked P Φ ⟨ψf,noLaid⟩ (erProg D)) (hok:okTree D.fns=true) {f:Nat} {ts:List TypeId} {ats:List AT} (hts:ts.map (argT P)=ats.map some)
 (core:∀ us,TyAll ats us→FnW D f us=some (.bool true)) {base:Nat} {args:Array Value} {ds:List (DataW H)} {p:List MemPlace}
 (hv:∀ (j:Nat) (t:TypeId) (v:Value),ts[j]?=some t→args[j]?=some v→Value.okWide P W .any base t v) (hA:DataW.TrodAll enc P W 0 (fun _=>true) true ts args.toList ds p) :
 Calls P (ψf f) args W fun e W'=>e=.returned (.bool true)∧(∀ c,c < W.heap.size→W'.heap[c]?=W.heap[c]?)∧W.heap.size≤W'.heap.size∧W'.os=W.os∧W'.output=W.output :=
 law_callsL hL hok (fun _ _ h=>by cases h) hts core hv hA
theorem trodAll_old {W':World} (hh:∀ c,c < W.heap.size→W'.heap[c]?=W.heap[c]?) {base:Nat} {sp:Nat→Bool} {held:Bool}:∀ {ts:List TypeId} {vs:List Value} {ds:List (DataW H)} {ps:List MemPlace},
 DataW.TrodAll enc P W base sp held ts vs ds ps→(∀ p ∈ ps,p.block < W.heap.size)→DataW.TrodAll enc P W' base sp held ts vs ds ps
 | [],[],[],_,h,_=>h
 | _::_,_::_,_::_,_,⟨p,q,⟨n,h1⟩,h2,e⟩,hs=>⟨p,q,⟨n,DataW.trod_carry n _ _ _ h1 fun x hx=>by
  have hlt:=hs x (by rw [e];exact List.mem_append_left _ hx)
  cases x with
  | cell b off=>simp only [World.sameAt,World.cell?];rw [hh b hlt]
  | map b=>exact hh b hlt⟩,trodAll_old hh h2 (fun x hx=>hs x (by rw [e];exact List.mem_append_right _ hx)),e⟩
theorem keptBut_old {W':World} (hh:∀ c,c < W.heap.size→W'.heap[c]?=W.heap[c]?) (ho:W'.os=W.os) (hp:W'.output=W.output) (may:MemPlace→Prop):W.keptBut W' may:=by
 have h:=World.keptBut_refl W may
 refine ⟨ho,hp,fun i hi=>?_⟩
 have:=h.2.2 i hi
 rw [hh i hi]
 exact this
theorem law_post {f:Func} {s:ChangeSpec} {fresh handsOn again:Bool} {W':World} {args:Array Value} {ds gs:List (DataW H)} {before:List MemPlace} {tb:TypeId}
 (kids:Kids P (· < P.types.size)) (full:∀ t e,t < P.types.size→P.underlying t=some (.slice e)→0 < P.cellsOf e)
 (hvars0:s.vars=[]) (hW:DataW.Whole enc P f.params.toList s.vars false W args.toList ds gs before) (hfn:s.fn H (ds++gs)={ results:=[.lit (.bool true)],args:=ds })
 (hps:∀ t ∈ f.params.toList,t < P.types.size) (hr:f.resultTypes=#[tb]) (htb:P.underlying tb=some .bool)
 (hh:∀ c,c < W.heap.size→W'.heap[c]?=W.heap[c]?) (_hsz:W.heap.size≤W'.heap.size) (ho:W'.os=W.os) (hp:W'.output=W.output) :
 s.post enc P f false fresh handsOn again W args (.bool true) W':=by
 have hlt:∀ p ∈ before,p.block < W.heap.size:=hW.lt
 have hW':=hW
 obtain ⟨p,q,hA,hV,rfl,hz,_⟩:=hW
 rw [hvars0] at hV
 obtain ⟨rfl,rfl⟩:=ChangeShapes.trodVars_none hV
 simp only [List.append_nil] at hlt hz hW' hfn
 have hargs:∀ sp:Nat→Bool,(∀ x ∈ p,sp x.block=true)→DataW.TrodAll enc P W' 0 sp true f.params.toList args.toList ds p:=fun sp hsp =>
  trodAll_old hh (DataW.TrodAll.respare kids full hps hA hsp) hlt
 have hvars:∀ sp:Nat→Bool,DataW.TrodVars enc P W' sp s.vars [] []:=fun sp=>by rw [hvars0];rfl
 have hres:∀ (b:Nat) (sp:Nat→Bool) (hd:Bool),DataW.TrodAll enc P W' b sp hd f.resultTypes.toList ((Value.bool true).resultList f.resultTypes.size) [.lit (.bool true)] []:=fun b sp hd=>by
  rw [hr];exact ChangeShapes.trodAll_mk1 (RowKit.shut_bool htb true)
 have hok:∀ (j:Nat) (t:TypeId) (r:Value),f.resultTypes[j]?=some t→((Value.bool true).resultList f.resultTypes.size)[j]?=some r→Value.okWide P W' .any 0 t r :=
  RowKit.ok_one hr rfl (by simp [Value.okWide,htb,Cell.okWide,Cell.ok])
 have hold:∀ x ∈ p,(fun b=>decide (b < W.heap.size)) x.block=true:=fun x hx=>by simpa using hlt x hx
 refine ⟨ds,[],p,[],p,[],hW',?_,?_,?_,keptBut_old hh ho hp _,fun _=>⟨hok,[.lit (.bool true)]++ds,[],([]++p)++[],⟨[]++p,[],?_,hvars _,rfl,?_,fun h=>by cases h⟩,?_⟩⟩
 · rw [List.append_nil,hfn];exact hres _ _ _
 · rw [List.append_nil,hfn];exact hargs _ hold
 · rw [List.append_nil,hfn];exact hvars _
 · exact ChangeShapes.trodAll_append (hargs _ fun _ _=>rfl) (hres _ _ _)
 · intro b off hb
   simp only [List.nil_append,List.append_nil] at hb
   have:=hz b off hb
   unfold World.frozen? at this ⊢
   rw [hh b (hlt _ hb)]
   exact this
 · intro x hx _
   simpa using hx
theorem trodAll_len {base:Nat} {sp:Nat→Bool} {held:Bool}:∀ {ts:List TypeId} {vs:List Value} {ds:List (DataW H)} {ps:List MemPlace},DataW.TrodAll enc P W base sp held ts vs ds ps→ds.length=ts.length
 | [],[],[],_,_=>rfl
 | _::_,_::_,_::_,_,⟨_,_,_,h2,_⟩=>by simp [trodAll_len h2]
def isTrue:Option AV→Bool
 | some (.bool true)=>true
 | _=>false
theorem isTrue_eq {o:Option AV} (h:isTrue o=true):o=some (.bool true):=by
 unfold isTrue at h
 split at h
 · rfl
 · cases h
end
end Go.Pw
end
section
namespace Go.Pw
open Go Go.Pav
theorem ty_map2 {α:Type} {g:α→List AV} {Q:List AV→Prop} {R:α→Prop} (h:∀ a,Q a→∃ x,a=g x∧R x):∀ (xs:List (List AV)),(∀ x ∈ xs,Q x)→∃ ys:List α,xs=ys.map g∧∀ y ∈ ys,R y:=by
 intro xs
 induction xs with
 | nil=>intro _;exact ⟨[],rfl,by simp⟩
 | cons a r ih =>
  intro hx
  obtain ⟨y,rfl,hy⟩:=h a (hx a (by simp))
  obtain ⟨ys,rfl,hys⟩:=ih fun x q=>hx x (by simp [q])
  exact ⟨y::ys,rfl,by simpa using ⟨hy,hys⟩⟩
theorem ty_slice {ts:List CT} {a:AV} (h:Ty (.slice ts) a):∃ (es:List (List AV)) (e:Bool),a=.ro ts.length es e∧es.length < 2 ^ 63∧∀ x ∈ es,x.length=ts.length∧∀ (j:Nat) (ct:CT) (v:AV),ts[j]?=some ct→x[j]?=some v→Ty ct v:=by
 cases h with
 | slice ts es ex hn hw h =>
  refine ⟨es,ex,rfl,hn,fun x hx=>?_⟩
  obtain ⟨i,hi⟩:=List.getElem?_of_mem hx
  exact ⟨hw i x hi,fun j ct v e1 e2=>h i x j ct v hi e1 e2⟩
theorem ty_u8 {v:AV} (h:Ty (.int .u8) v):∃ n:Int,v=.int .u8 n∧0≤n∧n≤255:=by
 cases h with
 | int k n h1 h2=>exact ⟨n,rfl,h1,h2⟩
theorem ty_bool {v:AV} (h:Ty .bool v):∃ b:Bool,v=.bool b:=by
 cases h with
 | bool b=>exact ⟨b,rfl⟩
end Go.Pw
end
section
namespace Go.Proofs.YtpgfajflkkjdaaaGreat
open Go.ChangeShapes Go.WideShapes Go.ChangeAt Go.RowKit Go.Pav Go.Pw P
theorem own_:ownKnob Tryz.prog.godebug=none:=by kernel_rfl
theorem kids_:Kids Tryz.prog (· < Tryz.prog.types.size):=kids_rows (by kernel_rfl) (by kernel_rfl)
theorem full_:∀ t e,t < Tryz.prog.types.size→Tryz.prog.underlying t=some (.slice e)→0 < Tryz.prog.cellsOf e:=slices_full_of Tryz.prog (by kernel_rfl)
end Go.Proofs.YtpgfajflkkjdaaaGreat
end
section
namespace Go.O
open Go Go.Pav Go.Pw
inductive Tr where
 | nil
 | node (l r:Tr) (s:Int)
namespace Tr
def cnt:Tr→Nat
 | nil=>0
 | node l r _=>l.cnt+r.cnt+1
def sum:Tr→Int
 | nil=>0
 | node l r s=>l.sum+s+r.sum
def hgt:Tr→Nat
 | nil=>0
 | node l r _=>max l.hgt r.hgt+1
def toL:Tr→List Int
 | nil=>[]
 | node l r s=>l.toL++s::r.toL
def c:Tr→AV
 | nil=>.nilp
 | node l r s=>.rop [l.c,r.c,.int .i64 s,.int .i64 (l.cnt+r.cnt+1:Nat),.int .i64 (l.sum+s+r.sum),.int .i64 (max l.hgt r.hgt+1:Nat)]
@[simp] theorem c_nil:c nil=.nilp:=rfl
theorem cnt_eq:∀ t:Tr,t.cnt=t.toL.length
 | nil=>rfl
 | node l r s=>by rw [cnt,toL,List.length_append,List.length_cons,cnt_eq l,cnt_eq r];omega
theorem sum_eq:∀ t:Tr,t.sum=t.toL.sum
 | nil=>rfl
 | node l r s=>by rw [sum,toL,List.sum_append,List.sum_cons,sum_eq l,sum_eq r];omega
theorem hgt_le:∀ t:Tr,t.hgt≤t.cnt
 | nil=>Nat.le_refl _
 | node l r s=>by have:=hgt_le l;have:=hgt_le r;rw [hgt,cnt];omega
end Tr
structure LB (L:List Int):Prop where
 nn:∀ x ∈ L,0≤x
 sm:L.sum≤4611686018427387904
 ln:L.length≤100000
theorem sum_nn:∀ {L:List Int},(∀ x ∈ L,0≤x)→0≤L.sum
 | [],_=>Int.le_refl _
 | a::r,h=>by
  have h1:=h a (by simp)
  have h2:=sum_nn (L:=r) (fun x hx=>h x (List.mem_cons_of_mem _ hx))
  rw [List.sum_cons];omega
theorem LB.s0 {L:List Int} (h:LB L):0≤L.sum:=sum_nn h.nn
theorem LB.left {A B:List Int} (h:LB (A++B)):LB A:=by
 have h1:=sum_nn (L:=B) (fun x hx=>h.nn x (List.mem_append_right _ hx))
 have h2:=h.sm
 have h3:=h.ln
 rw [List.sum_append] at h2
 rw [List.length_append] at h3
 exact ⟨fun x hx=>h.nn x (List.mem_append_left _ hx),by omega,by omega⟩
theorem LB.right {A B:List Int} (h:LB (A++B)):LB B:=by
 have h1:=sum_nn (L:=A) (fun x hx=>h.nn x (List.mem_append_left _ hx))
 have h2:=h.sm
 have h3:=h.ln
 rw [List.sum_append] at h2
 rw [List.length_append] at h3
 exact ⟨fun x hx=>h.nn x (List.mem_append_right _ hx),by omega,by omega⟩
theorem LB.tl {a:Int} {B:List Int} (h:LB (a::B)):LB B:=LB.right (A:=[a]) h
theorem LB.hd {a:Int} {B:List Int} (h:LB (a::B)):0≤a∧a≤4611686018427387904:=by
 have h1:=(h.tl).s0
 have h2:=h.sm
 rw [List.sum_cons] at h2
 exact ⟨h.nn a (by simp),by omega⟩
theorem LB.tr {t:Tr} (h:LB t.toL):0≤t.sum∧t.sum≤4611686018427387904∧t.cnt≤100000∧t.hgt≤100000:=by
 have h1:=h.s0
 have h2:=h.sm
 have h3:=h.ln
 have h4:=t.hgt_le
 rw [← Tr.sum_eq] at h1 h2
 rw [← Tr.cnt_eq] at h3
 omega
theorem LB.nd {l r:Tr} {s:Int} (h:LB (l.toL++s::r.toL)):LB l.toL∧LB r.toL∧0≤s∧s≤4611686018427387904∧l.sum+s+r.sum≤4611686018427387904∧l.cnt+r.cnt+1≤100000:=by
 have h1:=h.left
 have h2:=h.right
 have h3:=h.sm
 have h4:=h.ln
 rw [List.sum_append,List.sum_cons,← Tr.sum_eq,← Tr.sum_eq] at h3
 rw [List.length_append,List.length_cons,← Tr.cnt_eq,← Tr.cnt_eq] at h4
 exact ⟨h1,h2.tl,h2.hd.1,h2.hd.2,by omega,by omega⟩
end Go.O
end
section
namespace Go.O
open Go Go.Pav Go.Pw P Go.D
attribute [-simp] List.getElem_cons_drop
attribute [-simp] splice fillC AV.cells AV.cell AV.isAg isC
variable {C:WProg}
@[simp] theorem spl_eq (cs:List AV) (off:Nat) (v:List AV):splice cs off v=cs.take off++(v++cs.drop (off+v.length)):=rfl
def fil1 (e:Env) (cs:List AV) (off n:Nat) (r:List (Nat × Nat × Opd)) (v:List AV):Option (List AV):=if v.length=n∧off+n≤cs.length∧v.all AV.cell=true then fillC e (splice cs off v) r else none
@[simp] theorem fil_n (e:Env) (cs:List AV):fillC e cs []=some cs:=rfl
@[simp] theorem fil_c (e:Env) (cs:List AV) (off n:Nat) (x:Opd) (r:List (Nat × Nat × Opd)):fillC e cs ((off,n,x)::r)=fil1 e cs off n r (x.ev e).cells:=rfl
@[simp] theorem fil_1 (e:Env) (cs:List AV) (off:Nat) (r:List (Nat × Nat × Opd)) (v:AV):fil1 e cs off 1 r [v]=if off+1≤cs.length∧v.cell=true then fillC e (splice cs off [v]) r else none:=by simp [fil1]
@[simp] theorem cs_int (k:IntKind) (n:Int):(AV.int k n).cells=[.int k n]:=rfl
@[simp] theorem cs_bool (b:Bool):(AV.bool b).cells=[.bool b]:=rfl
@[simp] theorem cs_nilp:AV.nilp.cells=[.nilp]:=rfl
@[simp] theorem cs_rop (l:List AV):(AV.rop l).cells=[.rop l]:=rfl
@[simp] theorem cs_ro (z:Nat) (l:List (List AV)) (e:Bool):(AV.ro z l e).cells=[.ro z l e]:=rfl
@[simp] theorem cs_agg (l:List AV):(AV.agg l).cells=l:=rfl
@[simp] theorem cs_ptr (a b d:Nat):(AV.ptr a b d).cells=[.ptr a b d]:=rfl
@[simp] theorem cs_sl (a b d g i:Nat) (e:Bool):(AV.sl a b d g i e).cells=[.sl a b d g i e]:=rfl
@[simp] theorem cl_int (k:IntKind) (n:Int):(AV.int k n).cell=true:=rfl
@[simp] theorem cl_bool (b:Bool):(AV.bool b).cell=true:=rfl
@[simp] theorem cl_nilp:AV.nilp.cell=true:=rfl
@[simp] theorem cl_rop (l:List AV):(AV.rop l).cell=true:=rfl
@[simp] theorem cl_ro (z:Nat) (l:List (List AV)) (e:Bool):(AV.ro z l e).cell=true:=rfl
@[simp] theorem cl_agg (l:List AV):(AV.agg l).cell=false:=rfl
@[simp] theorem cl_ptr (a b d:Nat):(AV.ptr a b d).cell=true:=rfl
@[simp] theorem cl_sl (a b d g i:Nat) (e:Bool):(AV.sl a b d g i e).cell=true:=rfl
@[simp] theorem cl_fn (a:Nat) (l:List AV):(AV.fn a l).cell=true:=rfl
@[simp] theorem ag_agg (l:List AV):(AV.agg l).isAg=true:=rfl
@[simp] theorem ag_rop (l:List AV):(AV.rop l).isAg=false:=rfl
@[simp] theorem ic_int (k:IntKind) (n:Int):isC (.int k n)=true:=rfl
@[simp] theorem ic_bool (b:Bool):isC (.bool b)=true:=rfl
@[simp] theorem ic_nilp:isC .nilp=true:=rfl
@[simp] theorem ic_ro (z:Nat) (l:List (List AV)) (e:Bool):isC (.ro z l e)=true:=rfl
@[simp] theorem ic_rop (l:List AV):isC (.rop l)=true:=rfl
@[simp] theorem ic_ptr (a b d:Nat):isC (.ptr a b d)=false:=rfl
@[simp] theorem ic_sl (a b d g i:Nat) (e:Bool):isC (.sl a b d g i e)=false:=rfl
@[simp] theorem ic_agg (l:List AV):isC (.agg l)=false:=rfl
@[simp] theorem ic_fn (f:Nat) (a:AV) (l:List AV):isC (.fn f (a::l))=false:=rfl
@[simp] theorem ic_fn0 (f:Nat):isC (.fn f [])=true:=rfl
structure HasR (C:WProg):Prop where
 f366:C.fns.get 366=some w366
 f386:C.fns.get 386=some w386
 f474:C.fns.get 474=some w474
 f476:C.fns.get 476=some w476
 f475:C.fns.get 475=some w475
 f533:C.fns.get 533=some w533
 f534:C.fns.get 534=some w534
 f535:C.fns.get 535=some w535
 f369:C.fns.get 369=some w369
 f368:C.fns.get 368=some w368
 f472:C.fns.get 472=some w472
 inl:C.inl=inlB
 pp:C.pp=ppB
@[simp] theorem tr_hp (t:Tr):hasPtr t.c=false:=by cases t <;> rfl
@[simp] theorem tr_isC (t:Tr):isC t.c=true:=by cases t <;> rfl
@[simp] theorem tr_frz (h:WHeap) (n:Nat) (t:Tr):frzW h (n+1) t.c=some t.c:=by cases t <;> rfl
@[simp] theorem tr_cells (t:Tr):t.c.cells=[t.c]:=by cases t <;> rfl
@[simp] theorem tr_cell (t:Tr):t.c.cell=true:=by cases t <;> rfl
@[simp] theorem tr_ag (t:Tr):t.c.isAg=false:=by cases t <;> rfl
@[simp] theorem tr_reach (h:WHeap) (n:Nat) (t:Tr):reachW h n t.c=[]:=by cases n <;> cases t <;> rfl
@[simp] theorem tr_refs (t:Tr):refs t.c=[]:=by cases t <;> simp [Tr.c,refs]
@[simp] theorem tr_ren (π:Nat→Option Nat) (t:Tr):ren π t.c=some t.c:=by cases t <;> simp [Tr.c,ren]
theorem cnt_ok (H:HasR C) (t:Tr):FnW C 366 [t.c]=some (.int .i64 t.cnt):=by
 rw [fnW_eq H.f366 rfl]
 cases t <;> simp (disch:=omega) [w366,Tr.c,Tr.cnt,H.inl,inlB,H.pp,ppB]
theorem tot_ok (H:HasR C) (t:Tr):FnW C 386 [t.c]=some (.int .i64 t.sum):=by
 rw [fnW_eq H.f386 rfl]
 cases t <;> simp (disch:=omega) [w386,Tr.c,Tr.sum,H.inl,inlB,H.pp,ppB]
theorem tall_ok (H:HasR C) (t:Tr):FnW C 474 [t.c]=some (.int .i64 t.hgt):=by
 rw [fnW_eq H.f474 rfl]
 cases t <;> simp (disch:=omega) [w474,Tr.c,Tr.hgt,H.inl,inlB,H.pp,ppB]
theorem over_ok (H:HasR C) (l r:Tr) (s:Int) (h:LB (l.toL++s::r.toL)):FnW C 476 [l.c,.int .i64 s,r.c]=some (Tr.node l r s).c:=by
 obtain ⟨h1,h2,h3,h4,h5,h6⟩:=h.nd
 have a:=h1.tr
 have b:=h2.tr
 have c1:=cnt_ok H l
 have c2:=cnt_ok H r
 have t1:=tot_ok H l
 have t2:=tot_ok H r
 have g1:=tall_ok H l
 have g2:=tall_ok H r
 rw [fnW_eq H.f476 rfl,Tr.c]
 by_cases q:l.hgt < r.hgt
 · rw [Nat.max_eq_right (by omega)]
   have q':(l.hgt:Int) < r.hgt:=by omega
   simp (disch:=omega) [w476,c1,c2,t1,t2,g1,g2,imax_l,imax_r,wI64,H.inl,inlB,H.pp,ppB]
 · rw [Nat.max_eq_left (by omega)]
   have q':¬ (l.hgt:Int) < r.hgt:=by omega
   simp (disch:=omega) [w476,c1,c2,t1,t2,g1,g2,imax_l,imax_r,wI64,H.inl,inlB,H.pp,ppB]
end Go.O
end
section
namespace Go.O
open Go Go.Pav Go.Pw P Go.D
attribute [-simp] List.getElem_cons_drop
attribute [-simp] splice fillC AV.cells AV.cell AV.isAg isC
variable {C:WProg}
theorem c_ex (l r:Tr) (s:Int):∃ i j k:Int,(Tr.node l r s).c=.rop [l.c,r.c,.int .i64 s,.int .i64 i,.int .i64 j,.int .i64 k]:=⟨_,_,_,rfl⟩
theorem LB.sub {A B D:List Int} (h:LB (A++B++D)):LB B:=h.left.right
theorem LB.cast {A B:List Int} (h:LB A) (e:A=B):LB B:=e ▸ h
theorem bal_ok (H:HasR C) (l r:Tr) (s:Int) (h:LB (l.toL++s::r.toL)):∃ t:Tr,FnW C 475 [l.c,.int .i64 s,r.c]=some t.c∧t.toL=l.toL++s::r.toL:=by
 obtain ⟨h1,h2,h3,h4,h5,h6⟩:=h.nd
 have a:=h1.tr
 have b:=h2.tr
 have g1:=tall_ok H l
 have g2:=tall_ok H r
 have q3:=fun a b c h n=>rnW_eq (args:=[a,b,c]) H.f533 rfl h n
 have q4:=fun a b c h n=>rnW_eq (args:=[a,b,c]) H.f534 rfl h n
 have q5:=fun a b c h n=>rnW_eq (args:=[a,b,c]) H.f535 rfl h n
 by_cases c1:l.hgt+1 < r.hgt
 · have c1':1 < (r.hgt:Int) - l.hgt:=by omega
   cases r with
   | nil=>simp [Tr.hgt] at c1
   | node rl rr rs =>
    have g3:=tall_ok H rl
    have g4:=tall_ok H rr
    obtain ⟨i,j,k,e1⟩:=c_ex rl rr rs
    by_cases c2:rr.hgt < rl.hgt
    · have c2':(rr.hgt:Int) < rl.hgt:=by omega
      cases rl with
      | nil=>simp [Tr.hgt] at c2
      | node x y m =>
       refine ⟨.node (.node l x s) (.node y rr rs) m,?_,by simp [Tr.toL]⟩
       have o1:=over_ok H l x s (LB.left (B:=m::y.toL++rs::rr.toL) (h.cast (by simp [Tr.toL])))
       have o2:=over_ok H y rr rs (LB.right (A:=l.toL++s::x.toL++[m]) (h.cast (by simp [Tr.toL])))
       have o3:=over_ok H (.node l x s) (.node y rr rs) m (h.cast (by simp [Tr.toL]))
       obtain ⟨i2,j2,k2,e2⟩:=c_ex x y m
       rw [fnW_eq H.f475 rfl]
       rw [e1,e2] at g2 ⊢
       rw [e2] at g3
       simp (disch:=omega) [w475,w533,w534,w535,q3,q4,q5,g1,g2,g3,g4,o1,o2,o3,c1',c2',wI64,H.inl,inlB,H.pp,ppB]
    · have c2':¬ (rr.hgt:Int) < rl.hgt:=by omega
      refine ⟨.node (.node l rl s) rr rs,?_,by simp [Tr.toL]⟩
      have o1:=over_ok H l rl s (LB.left (B:=rs::rr.toL) (h.cast (by simp [Tr.toL])))
      have o3:=over_ok H (.node l rl s) rr rs (h.cast (by simp [Tr.toL]))
      rw [fnW_eq H.f475 rfl]
      rw [e1] at g2 ⊢
      simp (disch:=omega) [w475,w533,w534,w535,q3,q4,q5,g1,g2,g3,g4,o1,o3,c1',c2',wI64,H.inl,inlB,H.pp,ppB]
 · have c1':¬ 1 < (r.hgt:Int) - l.hgt:=by omega
   by_cases c3:r.hgt+1 < l.hgt
   · have c3':(r.hgt:Int) - l.hgt < -1:=by omega
     cases l with
     | nil=>simp [Tr.hgt] at c3
     | node ll lr ls =>
      have g3:=tall_ok H ll
      have g4:=tall_ok H lr
      obtain ⟨i,j,k,e1⟩:=c_ex ll lr ls
      by_cases c2:ll.hgt < lr.hgt
      · have c2':(ll.hgt:Int) < lr.hgt:=by omega
        cases lr with
        | nil=>simp [Tr.hgt] at c2
        | node x y m =>
         refine ⟨.node (.node ll x ls) (.node y r s) m,?_,by simp [Tr.toL]⟩
         have o1:=over_ok H ll x ls (LB.left (B:=m::y.toL++s::r.toL) (h.cast (by simp [Tr.toL])))
         have o2:=over_ok H y r s (LB.right (A:=ll.toL++ls::x.toL++[m]) (h.cast (by simp [Tr.toL])))
         have o3:=over_ok H (.node ll x ls) (.node y r s) m (h.cast (by simp [Tr.toL]))
         obtain ⟨i2,j2,k2,e2⟩:=c_ex x y m
         rw [fnW_eq H.f475 rfl]
         rw [e1,e2] at g1 ⊢
         rw [e2] at g4
         simp (disch:=omega) [w475,w533,w534,w535,q3,q4,q5,g1,g2,g3,g4,o1,o2,o3,c1',c3',c2',wI64,H.inl,inlB,H.pp,ppB]
      · have c2':¬ (ll.hgt:Int) < lr.hgt:=by omega
        refine ⟨.node ll (.node lr r s) ls,?_,by simp [Tr.toL]⟩
        have o1:=over_ok H lr r s (LB.right (A:=ll.toL++[ls]) (h.cast (by simp [Tr.toL])))
        have o3:=over_ok H ll (.node lr r s) ls (h.cast (by simp [Tr.toL]))
        rw [fnW_eq H.f475 rfl]
        rw [e1] at g1 ⊢
        simp (disch:=omega) [w475,w533,w534,w535,q3,q4,q5,g1,g2,g3,g4,o1,o3,c1',c3',c2',wI64,H.inl,inlB,H.pp,ppB]
   · have c3':¬ (r.hgt:Int) - l.hgt < -1:=by omega
     refine ⟨.node l r s,?_,rfl⟩
     have o1:=over_ok H l r s h
     rw [fnW_eq H.f475 rfl]
     simp (disch:=omega) [w475,w533,w534,w535,q3,q4,q5,g1,g2,o1,c1',c3',wI64,H.inl,inlB,H.pp,ppB]
end Go.O
end
section
namespace Go.O
open Go Go.Pav Go.Pw P Go.D
attribute [-simp] List.getElem_cons_drop
attribute [-simp] splice fillC AV.cells AV.cell AV.isAg isC
variable {C:WProg}
structure HasJ (C:WProg):Prop extends HasR C where
 f372:C.fns.get 372=some w372
theorem join_ok (H:HasR C):∀ (n:Nat) (l r:Tr) (s:Int),l.cnt+r.cnt≤n→LB (l.toL++s::r.toL)→∃ t:Tr,FnW C 369 [l.c,.int .i64 s,r.c]=some t.c∧t.toL=l.toL++s::r.toL:=by
 intro n
 induction n with
 | zero =>
  intro l r s hn h
  have e1:=l.hgt_le
  have e2:=r.hgt_le
  have g1:=tall_ok H l
  have g2:=tall_ok H r
  have o:=over_ok H l r s h
  refine ⟨.node l r s,?_,rfl⟩
  have c1:¬ ((r.hgt:Int)+1 < l.hgt):=by omega
  have c2:¬ ((l.hgt:Int)+1 < r.hgt):=by omega
  rw [fnW_eq H.f369 rfl]
  simp (disch:=omega) [w369,g1,g2,o,c1,c2,wI64,H.inl,inlB,H.pp,ppB]
 | succ n ih =>
  intro l r s hn h
  obtain ⟨h1,h2,h3,h4,h5,h6⟩:=h.nd
  have a:=h1.tr
  have b:=h2.tr
  have g1:=tall_ok H l
  have g2:=tall_ok H r
  by_cases c1:r.hgt+1 < l.hgt
  · have c1':(r.hgt:Int)+1 < l.hgt:=by omega
    cases l with
    | nil=>simp [Tr.hgt] at c1
    | node ll lr ls =>
     obtain ⟨i,j,k,e1⟩:=c_ex ll lr ls
     obtain ⟨t1,q1,q2⟩:=ih lr r s (by rw [Tr.cnt] at hn;omega) (LB.right (A:=ll.toL++[ls]) (h.cast (by simp [Tr.toL])))
     obtain ⟨t2,q3,q4⟩:=bal_ok H ll t1 ls (h.cast (by simp [Tr.toL,q2]))
     refine ⟨t2,?_,by rw [q4,q2];simp [Tr.toL]⟩
     rw [fnW_eq H.f369 rfl]
     rw [e1] at g1 ⊢
     simp (disch:=omega) [w369,g1,g2,q1,q3,c1',wI64,H.inl,inlB,H.pp,ppB]
  · have c1':¬ ((r.hgt:Int)+1 < l.hgt):=by omega
    by_cases c2:l.hgt+1 < r.hgt
    · have c2':(l.hgt:Int)+1 < r.hgt:=by omega
      cases r with
      | nil=>simp [Tr.hgt] at c2
      | node rl rr rs =>
       obtain ⟨i,j,k,e1⟩:=c_ex rl rr rs
       obtain ⟨t1,q1,q2⟩:=ih l rl s (by rw [Tr.cnt] at hn;omega) (LB.left (B:=rs::rr.toL) (h.cast (by simp [Tr.toL])))
       obtain ⟨t2,q3,q4⟩:=bal_ok H t1 rr rs (h.cast (by simp [Tr.toL,q2]))
       refine ⟨t2,?_,by rw [q4,q2];simp [Tr.toL]⟩
       rw [fnW_eq H.f369 rfl]
       rw [e1] at g2 ⊢
       simp (disch:=omega) [w369,g1,g2,q1,q3,c1',c2',wI64,H.inl,inlB,H.pp,ppB]
    · have c2':¬ ((l.hgt:Int)+1 < r.hgt):=by omega
      have o:=over_ok H l r s h
      refine ⟨.node l r s,?_,rfl⟩
      rw [fnW_eq H.f369 rfl]
      simp (disch:=omega) [w369,g1,g2,o,c1',c2',wI64,H.inl,inlB,H.pp,ppB]
theorem take_mid (A B:List Int) (s:Int) (k:Nat) (h:A.length < k):(A++s::B).take k=A++s::B.take (k - A.length - 1):=by
 obtain ⟨d,rfl⟩:∃ d,k=A.length+(d+1):=⟨k - A.length - 1,by omega⟩
 rw [List.take_append,List.take_of_length_le (by omega),show A.length+(d+1) - A.length=d+1 by omega,List.take_succ_cons]
 congr
theorem drop_mid (A B:List Int) (s:Int) (k:Nat) (h:A.length < k):(A++s::B).drop k=B.drop (k - A.length - 1):=by
 obtain ⟨d,rfl⟩:∃ d,k=A.length+(d+1):=⟨k - A.length - 1,by omega⟩
 rw [List.drop_append,List.drop_of_length_le (by omega),show A.length+(d+1) - A.length=d+1 by omega,List.drop_succ_cons]
 rfl
theorem split_ok (H:HasR C):∀ (x:Tr) (k:Nat),k≤x.cnt→LB x.toL→∃ l r:Tr,FnW C 368 [x.c,.int .i64 k]=some (.tup [l.c,r.c])∧l.toL=x.toL.take k∧r.toL=x.toL.drop k:=by
 intro x
 induction x with
 | nil =>
  intro k hk h
  refine ⟨.nil,.nil,?_,by simp [Tr.toL],by simp [Tr.toL]⟩
  rw [fnW_eq H.f368 rfl]
  simp (disch:=omega) [w368,wI64,H.inl,inlB,H.pp,ppB]
 | node l r s ihl ihr =>
  intro k hk h
  obtain ⟨h1,h2,h3,h4,h5,h6⟩:=LB.nd (l:=l) (r:=r) (s:=s) h
  obtain ⟨i,j,m,e1⟩:=c_ex l r s
  have g1:=cnt_ok H l
  have hl:=l.cnt_eq
  rw [Tr.cnt] at hk
  by_cases c:l.cnt < k
  · have c':(l.cnt:Int) < k:=by omega
    obtain ⟨u,v,p1,p2,p3⟩:=ihr (k - l.cnt - 1) (by omega) h2
    have hk2:((k:Int) - l.cnt - 1)=((k - l.cnt - 1:Nat):Int):=by omega
    have e2:l.toL++s::u.toL=(l.toL++s::r.toL).take k:=by rw [take_mid _ _ _ _ (by omega),p2,hl]
    have e3:v.toL=(l.toL++s::r.toL).drop k:=by rw [drop_mid _ _ _ _ (by omega),p3,hl]
    obtain ⟨t,q1,q2⟩:=join_ok H _ l u s (Nat.le_refl _) (by rw [e2];exact LB.left (B:=(l.toL++s::r.toL).drop k) (by rw [List.take_append_drop];exact h))
    refine ⟨t,v,?_,by rw [q2,e2];rfl,by rw [e3];rfl⟩
    rw [fnW_eq H.f368 rfl,e1]
    generalize (k - l.cnt - 1)=k2 at *
    simp (disch:=omega) [w368,g1,c',hk2,p1,q1,wI64,H.inl,inlB,H.pp,ppB]
  · have c':¬ (l.cnt:Int) < k:=by omega
    obtain ⟨u,v,p1,p2,p3⟩:=ihl k (by omega) h1
    have e2:u.toL=(l.toL++s::r.toL).take k:=by rw [p2,List.take_append_of_le_length (by omega)]
    have e3:v.toL++s::r.toL=(l.toL++s::r.toL).drop k:=by rw [p3,List.drop_append_of_le_length (by omega)]
    obtain ⟨t,q1,q2⟩:=join_ok H _ v r s (Nat.le_refl _) (by rw [e3];exact LB.right (A:=(l.toL++s::r.toL).take k) (by rw [List.take_append_drop];exact h))
    refine ⟨u,t,?_,by rw [e2];rfl,by rw [q2,e3];rfl⟩
    rw [fnW_eq H.f368 rfl,e1]
    simp (disch:=omega) [w368,g1,c',p1,q1,wI64,H.inl,inlB,H.pp,ppB]
theorem put_ok (H:HasR C) (l r:Tr) (h:LB (l.toL++r.toL)):∃ t:Tr,FnW C 472 [l.c,r.c]=some t.c∧t.toL=l.toL++r.toL:=by
 cases r with
 | nil =>
  refine ⟨l,?_,by simp [Tr.toL]⟩
  rw [fnW_eq H.f472 rfl]
  simp (disch:=omega) [w472,wI64,H.inl,inlB,H.pp,ppB]
 | node rl rr rs =>
  obtain ⟨u,v,p1,p2,p3⟩:=split_ok H (.node rl rr rs) 1 (by rw [Tr.cnt];omega) h.right
  obtain ⟨a,L,hL⟩:∃ a L,(Tr.node rl rr rs).toL=a::L:=by
   rw [Tr.toL]
   cases rl.toL with
   | nil=>exact ⟨_,_,rfl⟩
   | cons x y=>exact ⟨_,_,rfl⟩
  rw [hL] at p2 p3
  simp at p2 p3
  cases u with
  | nil=>simp [Tr.toL] at p2
  | node ul ur us =>
   rw [Tr.toL] at p2
   have e0:ul.toL=[]:=by
    cases hu:ul.toL with
    | nil=>rfl
    | cons x y=>rw [hu] at p2;simp at p2
   rw [e0] at p2
   simp at p2
   obtain ⟨rfl,_⟩:=p2
   obtain ⟨t,q1,q2⟩:=join_ok H _ l v us (Nat.le_refl _) (by rw [p3,← hL];exact h)
   obtain ⟨i,j,m,e1⟩:=c_ex rl rr rs
   obtain ⟨i2,j2,m2,e2⟩:=c_ex ul ur us
   refine ⟨t,?_,by rw [q2,p3,hL]⟩
   rw [fnW_eq H.f472 rfl]
   rw [e2,e1] at p1
   rw [e1]
   simp at p1
   simp (disch:=omega) [w472,p1,q1,wI64,H.inl,inlB,H.pp,ppB]
theorem find_ok (H:HasJ C):∀ (x:Tr) (k:Nat),k < x.cnt→x.cnt≤100000→∃ (l r:Tr) (s:Int),FnW C 372 [x.c,.int .i64 k]=some (Tr.node l r s).c∧x.toL[k]?=some s:=by
 intro x
 induction x with
 | nil=>intro k hk;simp [Tr.cnt] at hk
 | node l r s ihl ihr =>
  intro k hk hb
  rw [Tr.cnt] at hk hb
  obtain ⟨i,j,m,e1⟩:=c_ex l r s
  have g1:=cnt_ok H.toHasR l
  have hl:=l.cnt_eq
  by_cases c:k < l.cnt
  · have c':(k:Int) < l.cnt:=by omega
    obtain ⟨a,b,d,p1,p2⟩:=ihl k c (by omega)
    refine ⟨a,b,d,?_,by rw [Tr.toL,List.getElem?_append_left (by omega)];exact p2⟩
    rw [fnW_eq H.f372 rfl,e1]
    simp (disch:=omega) [w372,g1,c',p1,wI64,H.inl,inlB,H.pp,ppB]
  · have c':¬ (k:Int) < l.cnt:=by omega
    by_cases d:l.cnt < k
    · have d':(l.cnt:Int) < k:=by omega
      obtain ⟨a,b,u,p1,p2⟩:=ihr (k - l.cnt - 1) (by omega) (by omega)
      have hk2:((k:Int) - l.cnt - 1)=((k - l.cnt - 1:Nat):Int):=by omega
      refine ⟨a,b,u,?_,by rw [Tr.toL,List.getElem?_append_right (by omega),← hl,show k - l.cnt=(k - l.cnt - 1)+1 by omega,List.getElem?_cons_succ];exact p2⟩
      rw [fnW_eq H.f372 rfl,e1]
      generalize (k - l.cnt - 1)=k2 at *
      simp (disch:=omega) [w372,g1,c',d',hk2,p1,wI64,H.inl,inlB,H.pp,ppB]
    · have d':¬ (l.cnt:Int) < k:=by omega
      refine ⟨l,r,s,?_,by rw [Tr.toL,List.getElem?_append_right (by omega),← hl,show k - l.cnt=0 by omega];rfl⟩
      rw [fnW_eq H.f372 rfl,e1]
      simp (disch:=omega) [w372,g1,c',d',wI64,H.inl,inlB,H.pp,ppB]
end Go.O
end
section
namespace Go.O
open Go Go.Pav Go.Pw P Go.D
attribute [-simp] List.getElem_cons_drop
attribute [-simp] splice fillC AV.cells AV.cell AV.isAg isC
variable {C:WProg}
structure HasP (C:WProg):Prop extends HasJ C where
 f190:C.fns.get 190=some w190
 f205:C.fns.get 205=some w205
 f197:C.fns.get 197=some w197
 f194:C.fns.get 194=some w194
 f363:C.fns.get 363=some w363
 f387:C.fns.get 387=some w387
 f207:C.fns.get 207=some w207
 f470:C.fns.get 470=some w470
 f471:C.fns.get 471=some w471
 f364:C.fns.get 364=some w364
theorem rlen_ok (H:HasP C) (t:Tr):FnW C 190 [.agg [t.c]]=some (.int .i64 t.cnt):=by
 have h:=cnt_ok H.toHasR t
 rw [fnW_eq H.f190 rfl]
 simp (disch:=omega) [w190,h,wI64,H.inl,inlB,H.pp,ppB]
theorem rtot_ok (H:HasP C) (t:Tr):FnW C 205 [.agg [t.c]]=some (.int .i64 t.sum):=by
 have h:=tot_ok H.toHasR t
 rw [fnW_eq H.f205 rfl]
 simp (disch:=omega) [w205,h,wI64,H.inl,inlB,H.pp,ppB]
theorem rat_ok (H:HasP C) (t:Tr) (k:Nat) (hk:k < t.cnt) (hb:t.cnt≤100000):∃ s:Int,FnW C 197 [.agg [t.c],.int .i64 k]=some (.tup [.int .i64 s,.int .i64 0])∧t.toL[k]?=some s:=by
 have h:=rlen_ok H t
 obtain ⟨l,r,s,p1,p2⟩:=find_ok H.toHasJ t k hk hb
 obtain ⟨i,j,m,e1⟩:=c_ex l r s
 rw [e1] at p1
 refine ⟨s,?_,p2⟩
 have h1:¬ (k:Int) < 0:=by omega
 have h2:¬ (t.cnt:Int)≤k:=by omega
 rw [fnW_eq H.f197 rfl]
 simp (disch:=omega) [w197,h,p1,h1,h2,wI64,H.inl,inlB,H.pp,ppB]
theorem set_eq (L:List Int) (k:Nat) (z:Int) (h:k < L.length):L.set k z=L.take k++z::(L.drop k).drop 1:=by
 rw [List.set_eq_take_append_cons_drop,if_pos h,List.drop_drop]
theorem sum_set (L:List Int) (k:Nat) (z s:Int) (h:L[k]?=some s):(L.set k z).sum=L.sum - s+z:=by
 obtain ⟨h1,h2⟩:=List.getElem?_eq_some_iff.1 h
 have e:L=L.take k++s::L.drop (k+1):=by rw [← h2,← List.drop_eq_getElem_cons h1,List.take_append_drop]
 rw [List.set_eq_take_append_cons_drop,if_pos h1]
 conv=>rhs;rw [e]
 simp [List.sum_append]
 omega
theorem rset_ok (H:HasP C) (t:Tr) (k:Nat) (hk:k < t.cnt) (z:Int) (hz:0≤z) (hz2:z≤2305843009213693952) (h:LB t.toL) (h':LB (t.toL.set k z)) :
 ∃ t':Tr,FnW C 194 [.agg [t.c],.int .i64 k,.int .i64 z]=some (.tup [.agg [t'.c],.int .i64 0])∧t'.toL=t.toL.set k z:=by
 have hb:=h.tr
 obtain ⟨s,p1,p2⟩:=rat_ok H t k hk (by omega)
 have hT:=rtot_ok H t
 have hl:k < t.toL.length:=by rw [← t.cnt_eq];exact hk
 obtain ⟨u,v,q1,q2,q3⟩:=split_ok H.toHasR t k (by omega) h
 have hv:v.cnt=t.cnt - k:=by rw [v.cnt_eq,q3,List.length_drop,← t.cnt_eq]
 obtain ⟨u2,v2,r1,r2,r3⟩:=split_ok H.toHasR v 1 (by omega) (by rw [q3];exact LB.right (A:=t.toL.take k) (by rw [List.take_append_drop];exact h))
 have e:u.toL++z::v2.toL=t.toL.set k z:=by rw [set_eq _ _ _ hl,q2,r3,q3]
 obtain ⟨w,s1,s2⟩:=join_ok H.toHasR _ u v2 z (Nat.le_refl _) (by rw [e];exact h')
 refine ⟨w,?_,by rw [s2,e]⟩
 have hs:=h'.sm
 have hss:=sum_set t.toL k z s p2
 rw [← t.sum_eq] at hss
 have hs0:=h.nn s (List.mem_of_getElem? p2)
 have hs1:s≤t.sum:=by
  have h0:=sum_nn (L:=t.toL.set k 0) (fun x hx=>by
   rcases List.mem_or_eq_of_mem_set hx with q | q
   · exact h.nn x q
   · omega)
  have:=sum_set t.toL k 0 s p2
  rw [← t.sum_eq] at this
  omega
 have c1:¬ (4611686018427387904 - (t.sum - s) < z):=by omega
 have c2:¬ z < 0:=by omega
 have c3:¬ 2305843009213693952 < z:=by omega
 simp at r1
 rw [fnW_eq H.f194 rfl]
 simp (disch:=omega) [w194,p1,hT,q1,r1,s1,c1,c2,c3,wI64,H.inl,inlB,H.pp,ppB]
theorem fchk1_ok (H:HasP C) (s:Int) (h0:0≤s) (h1:s≤2305843009213693952) (f:Bool):FnW C 363 [.ro 1 [[.int .i64 s]] f]=some (.int .i64 0):=by
 have c1:¬ s < 0:=by omega
 have c2:¬ 2305843009213693952 < s:=by omega
 have c3:¬ 4611686018427387904 < s:=by omega
 rw [fnW_eq H.f363 rfl]
 simp (disch:=omega) [w363,ck_unf w363_B0.eq_1,ck_unf w363_c0.eq_1,c1,c2,c3,wI64,H.inl,inlB,H.pp,ppB]
theorem grown0_ok (H:HasP C) (f:Bool):FnW C 387 [.ro 1 [] f]=some .nilp:=by
 rw [fnW_eq H.f387 rfl]
 simp (disch:=omega) [w387,wI64,H.inl,inlB,H.pp,ppB]
theorem grown1_ok (H:HasP C) (s:Int) (h:LB [s]) (f:Bool):FnW C 387 [.ro 1 [[.int .i64 s]] f]=some (Tr.node .nil .nil s).c:=by
 have g:=fun f=>grown0_ok H f
 have o:=over_ok H.toHasR .nil .nil s (by simpa [Tr.toL] using h)
 rw [Tr.c_nil] at o
 rw [fnW_eq H.f387 rfl]
 simp (disch:=omega) [w387,g,o,wI64,H.inl,inlB,H.pp,ppB]
theorem rof1_ok (H:HasP C) (s:Int) (h:LB [s]) (h1:s≤2305843009213693952) (f:Bool):FnW C 207 [.ro 1 [[.int .i64 s]] f]=some (.tup [.agg [(Tr.node .nil .nil s).c],.int .i64 0]):=by
 have g:=fun f=>grown1_ok H s h f
 have o:=fun f=>fchk1_ok H s h.hd.1 h1 f
 rw [fnW_eq H.f207 rfl]
 simp (disch:=omega) [w207,g,o,wI64,H.inl,inlB,H.pp,ppB]
theorem rsplit_ok (H:HasP C) (t:Tr) (h:LB t.toL):∃ l r:Tr,FnW C 470 [.agg [t.c],.int .i64 t.cnt]=some (.tup [.agg [l.c],.agg [r.c],.int .i64 0])∧l.toL=t.toL∧r.toL=[]:=by
 obtain ⟨u,v,q1,q2,q3⟩:=split_ok H.toHasR t t.cnt (Nat.le_refl _) h
 have hl:=rlen_ok H t
 refine ⟨u,v,?_,by rw [q2,t.cnt_eq,List.take_length],by rw [q3,t.cnt_eq,List.drop_length]⟩
 have h1:¬ (t.cnt:Int) < 0:=by omega
 rw [fnW_eq H.f470 rfl]
 simp (disch:=omega) [w470,hl,q1,h1,wI64,H.inl,inlB,H.pp,ppB]
theorem rjoin_ok (H:HasP C) (t u:Tr) (h:LB (t.toL++u.toL)) (hc:t.cnt+u.cnt≤4096):∃ v:Tr,FnW C 471 [.agg [t.c],.agg [u.c]]=some (.tup [.agg [v.c],.int .i64 0])∧v.toL=t.toL++u.toL:=by
 obtain ⟨v,q1,q2⟩:=put_ok H.toHasR t u h
 have l1:=rlen_ok H t
 have l2:=rlen_ok H u
 have t1:=rtot_ok H t
 have t2:=rtot_ok H u
 have s1:=h.left.tr
 have s2:=h.right.tr
 have hs:=h.sm
 rw [List.sum_append,← Tr.sum_eq,← Tr.sum_eq] at hs
 have c1:¬ (4096 < (t.cnt:Int)+u.cnt):=by omega
 have c2:¬ (4611686018427387904 - u.sum < t.sum):=by omega
 refine ⟨v,?_,q2⟩
 rw [fnW_eq H.f471 rfl]
 simp (disch:=omega) [w471,l1,l2,t1,t2,q1,c1,c2,wI64,H.inl,inlB,H.pp,ppB]
theorem rins_ok (H:HasP C) (t:Tr) (s:Int) (h:LB (t.toL++[s])) (h1:s≤2305843009213693952) (hc:t.cnt+1≤4096) (f:Bool) :
 ∃ v:Tr,FnW C 364 [.agg [t.c],.int .i64 t.cnt,.ro 1 [[.int .i64 s]] f]=some (.tup [.agg [v.c],.int .i64 0])∧v.toL=t.toL++[s]:=by
 obtain ⟨l,r,q1,q2,q3⟩:=rsplit_ok H t h.left
 have o:=fun f=>rof1_ok H s h.right h1 f
 obtain ⟨v,j1,j2⟩:=rjoin_ok H t (.node .nil .nil s) (by simpa [Tr.toL] using h) (by simp [Tr.cnt];omega)
 obtain ⟨w,p1,p2⟩:=put_ok H.toHasR l (.node .nil .nil s) (by rw [q2];simpa [Tr.toL] using h)
 obtain ⟨x,p3,p4⟩:=put_ok H.toHasR w r (by rw [p2,q2,q3];simpa [Tr.toL] using h)
 refine ⟨x,?_,by rw [p4,p2,q2,q3];simp [Tr.toL]⟩
 rw [fnW_eq H.f364 rfl]
 simp (disch:=omega) [w364,q1,o,j1,p1,p3,wI64,H.inl,inlB,H.pp,ppB]
end Go.O
end
section
namespace Go.O
open Go Go.Pav Go.Pw
def SV:Nat→List (Nat × Nat)→Prop
 | _,[]=>True
 | lo,s::r=>lo≤s.1∧s.1 < s.2∧SV (s.2+1) r
def inS (L:List (Nat × Nat)) (j:Nat):Prop:=∃ s ∈ L,s.1≤j∧j < s.2
abbrev eS (s:Nat × Nat):List AV:=[.int .i64 s.1,.int .i64 s.2]
theorem SV.mono {lo lo':Nat}:∀ {L:List (Nat × Nat)},SV lo L→lo'≤lo→SV lo' L
 | [],_,_=>trivial
 | s::r,h,hl=>⟨Nat.le_trans hl h.1,h.2.1,h.2.2⟩
theorem SV.ge {lo:Nat}:∀ {L:List (Nat × Nat)},SV lo L→∀ s ∈ L,lo≤s.1∧s.1 < s.2
 | [],_,s,hs=>absurd hs (by simp)
 | a::r,h,s,hs=>by
  rcases List.mem_cons.1 hs with rfl | hs
  · exact ⟨h.1,h.2.1⟩
  · have:=SV.ge h.2.2 s hs
    have h1:=h.1
    have h2:=h.2.1
    exact ⟨by omega,this.2⟩
theorem SV.app {lo:Nat}:∀ {A B:List (Nat × Nat)},SV lo (A++B)→SV lo A∧SV lo B∧∀ s ∈ A,∀ u ∈ B,s.2 < u.1
 | [],B,h=>⟨trivial,h,fun s hs=>absurd hs (by simp)⟩
 | a::A,B,h=>by
  obtain ⟨h1,h2,h3⟩:=h
  obtain ⟨h4,h5,h6⟩:=SV.app (A:=A) h3
  refine ⟨⟨h1,h2,h4⟩,h5.mono (by omega),fun s hs u hu=>?_⟩
  rcases List.mem_cons.1 hs with rfl | hs
  · have:=(SV.ge h5 u hu).1;omega
  · exact h6 s hs u hu
theorem SV.snoc {lo:Nat} {f t:Nat} (hf:lo≤f) (ht:f < t):∀ {L:List (Nat × Nat)},SV lo L→(∀ s ∈ L,s.2 < f)→SV lo (L++[(f,t)])
 | [],_,_=>⟨hf,ht,trivial⟩
 | a::L,h,hs=>⟨h.1,h.2.1,SV.snoc (by have:=hs a (by simp);omega) ht h.2.2 (fun s q=>hs s (List.mem_cons_of_mem _ q))⟩
theorem SV.len {B:Nat}:∀ {lo:Nat} {L:List (Nat × Nat)},SV lo L→(∀ s ∈ L,s.2≤B)→L.length≤B - lo
 | _,[],_,h=>Nat.zero_le _
 | lo,a::L,h,hs=>by
  have h1:=SV.len h.2.2 (fun s q=>hs s (List.mem_cons_of_mem _ q))
  have h2:=hs a (by simp)
  have h3:=h.1
  have h4:=h.2.1
  rw [List.length_cons]
  omega
theorem inS_nil (j:Nat):¬ inS [] j:=by rintro ⟨s,hs,_⟩;simp at hs
theorem inS_cons {s:Nat × Nat} {r:List (Nat × Nat)} {j:Nat}:inS (s::r) j↔(s.1≤j∧j < s.2)∨inS r j:=by
 constructor
 · rintro ⟨u,hu,h⟩
   rcases List.mem_cons.1 hu with rfl | hu
   · exact .inl h
   · exact .inr ⟨u,hu,h⟩
 · rintro (h | ⟨u,hu,h⟩)
   · exact ⟨s,by simp,h⟩
   · exact ⟨u,List.mem_cons_of_mem _ hu,h⟩
theorem inS_app {A B:List (Nat × Nat)} {j:Nat}:inS (A++B) j↔inS A j∨inS B j:=by
 constructor
 · rintro ⟨u,hu,h⟩
   rcases List.mem_append.1 hu with hu | hu
   · exact .inl ⟨u,hu,h⟩
   · exact .inr ⟨u,hu,h⟩
 · rintro (⟨u,hu,h⟩ | ⟨u,hu,h⟩)
   · exact ⟨u,List.mem_append_left _ hu,h⟩
   · exact ⟨u,List.mem_append_right _ hu,h⟩
theorem inS_one {f t j:Nat}:inS [(f,t)] j↔f≤j∧j < t:=by rw [inS_cons];simp [inS_nil]
def pos (p:Nat):List (Nat × Nat)→Nat
 | []=>0
 | s::r=>if s.2≤p then pos p r+1 else 0
theorem pos_le (p:Nat):∀ L,pos p L≤L.length
 | []=>Nat.le_refl _
 | s::r=>by rw [pos,List.length_cons];have:=pos_le p r;split <;> omega
theorem pos_lt {p:Nat}:∀ {L:List (Nat × Nat)} {i:Nat} (h:i < L.length),i < pos p L→L[i].2≤p
 | s::r,i,h,hi=>by
  rw [pos] at hi
  split at hi
  · cases i with
    | zero=>assumption
    | succ i=>exact pos_lt (L:=r) (by simpa using h) (by omega)
  · omega
theorem pos_at {p:Nat}:∀ {L:List (Nat × Nat)} (h:pos p L < L.length),p < (L[pos p L]'h).2
 | s::r,h=>by
  by_cases hc:s.2≤p
  · have e:pos p (s::r)=pos p r+1:=by rw [pos,if_pos hc]
    simp only [e] at h ⊢
    exact pos_at (L:=r) (by simpa using h)
  · have e:pos p (s::r)=0:=by rw [pos,if_neg hc]
    simp only [e]
    simpa using hc
theorem pos_mono {p q:Nat} (h:p≤q):∀ L,pos p L≤pos q L
 | []=>Nat.le_refl _
 | s::r=>by
  have:=pos_mono h r
  rw [pos,pos]
  split <;> split <;> omega
theorem nxt_none {p:Nat}:∀ {L:List (Nat × Nat)},L.length≤pos p L→∀ j,p≤j→¬ inS L j
 | [],_,j,_=>inS_nil j
 | s::r,h,j,hj=>by
  rw [pos,List.length_cons] at h
  split at h
  · rw [inS_cons]
    have:=nxt_none (L:=r) (by omega) j hj
    rintro (q | q)
    · omega
    · exact this q
  · omega
theorem nxt_in {p:Nat}:∀ {L:List (Nat × Nat)} (h:pos p L < L.length),(L[pos p L]'h).1≤p→∀ j,p≤j→j < (L[pos p L]'h).2→inS L j :=
 fun h h1 j h2 h3=>⟨_,List.getElem_mem h,by omega,h3⟩
theorem nxt_out {p:Nat}:∀ {lo:Nat} {L:List (Nat × Nat)},SV lo L→∀ (h:pos p L < L.length),p < (L[pos p L]'h).1→∀ j,p≤j→j < (L[pos p L]'h).1→¬ inS L j
 | lo,s::r,hv,h,h1,j,h2,h3=>by
  rw [inS_cons]
  by_cases hc:s.2≤p
  · have e:pos p (s::r)=pos p r+1:=by rw [pos,if_pos hc]
    simp only [e] at h h1 h3
    have:=nxt_out hv.2.2 (by simpa using h) (by simpa using h1) j h2 (by simpa using h3)
    rintro (q | q)
    · omega
    · exact this q
  · have e:pos p (s::r)=0:=by rw [pos,if_neg hc]
    simp only [e] at h3
    simp at h3
    rintro (q | ⟨u,hu,q⟩)
    · omega
    · have:=(SV.ge hv.2.2 u hu).1
      have:=hv.2.1
      omega
def addF (out:List (Nat × Nat)) (f t:Nat):List (Nat × Nat):=match out.getLast? with
 | some l=>if f≤l.2 then out.dropLast++[(l.1,max l.2 t)] else out++[(f,t)]
 | none=>[(f,t)]
structure RI (P:Nat→Prop) (B:Nat) (out:List (Nat × Nat)) (p:Nat):Prop where
 v:SV 0 out
 t:∀ s ∈ out,s.2≤p
 bd:∀ s ∈ out,s.2≤B
 m:∀ j,inS out j↔j < p∧P j
theorem add_in {out:List (Nat × Nat)} {f t:Nat} (hv:SV 0 out) (ht:∀ s ∈ out,s.2≤f) (hlt:f < t):SV 0 (addF out f t)∧(∀ s ∈ addF out f t,s ∈ out∨s.2=t)∧∀ j,inS (addF out f t) j↔inS out j∨(f≤j∧j < t):=by
 unfold addF
 rcases List.eq_nil_or_concat out with rfl | ⟨i,l,rfl⟩
 · refine ⟨⟨Nat.zero_le _,hlt,trivial⟩,fun s hs=>?_,fun j=>?_⟩
   · simp at hs;subst hs;exact .inr rfl
   · simp [inS_one,inS_nil]
 · rw [List.concat_eq_append] at hv ht ⊢
   rw [List.getLast?_append]
   simp only [List.getLast?_singleton,Option.some_or,List.dropLast_concat]
   have hl:=ht l (by simp)
   obtain ⟨v1,v2,v3⟩:=hv.app
   split
   · have hm:max l.2 t=t:=by omega
     have hle:l.2=f:=by omega
     rw [hm]
     refine ⟨SV.snoc (Nat.zero_le _) (by have:=v2.2.1;omega) v1 (fun s hs=>v3 s hs l (by simp)),fun s hs=>?_,fun j=>?_⟩
     · rcases List.mem_append.1 hs with q | q
       · exact .inl (List.mem_append_left _ q)
       · simp at q;subst q;exact .inr rfl
     · rw [inS_app,inS_app,inS_one,inS_cons]
       have:=v2.2.1
       simp only [inS_nil,or_false]
       constructor
       · rintro (q | q)
         · exact .inl (.inl q)
         · by_cases c:j < f
           · exact .inl (.inr (by omega))
           · exact .inr (by omega)
       · rintro ((q | q) | q)
         · exact .inl q
         · exact .inr (by omega)
         · exact .inr (by omega)
   · refine ⟨SV.snoc (Nat.zero_le _) hlt hv (fun s hs=>?_),fun s hs=>?_,fun j=>?_⟩
     · rcases List.mem_append.1 hs with q | q
       · have:=v3 s q l (by simp)
         have:=v2.2.1
         omega
       · simp at q;subst q;omega
     · rcases List.mem_append.1 hs with q | q
       · exact .inl q
       · simp at q;subst q;exact .inr rfl
     · rw [inS_app,inS_one]
theorem RI.keep {P:Nat→Prop} {B:Nat} {out:List (Nat × Nat)} {p e:Nat} (h:RI P B out p) (he:p < e) (heB:e≤B) (hin:∀ j,p≤j→j < e→P j):RI P B (addF out p e) e:=by
 obtain ⟨h1,h2,h3⟩:=add_in h.v h.t he
 refine ⟨h1,fun s hs=>?_,fun s hs=>?_,fun j=>?_⟩
 · rcases h2 s hs with q | q
   · have:=h.t s q;omega
   · omega
 · rcases h2 s hs with q | q
   · exact h.bd s q
   · omega
 · rw [h3,h.m]
   constructor
   · rintro (q | q)
     · exact ⟨by omega,q.2⟩
     · exact ⟨q.2,hin j q.1 q.2⟩
   · rintro ⟨q1,q2⟩
     by_cases c:j < p
     · exact .inl ⟨c,q2⟩
     · exact .inr ⟨by omega,q1⟩
theorem RI.skip {P:Nat→Prop} {B:Nat} {out:List (Nat × Nat)} {p e:Nat} (h:RI P B out p) (he:p < e) (hin:∀ j,p≤j→j < e→¬ P j):RI P B out e:=by
 refine ⟨h.v,fun s hs=>by have:=h.t s hs;omega,h.bd,fun j=>?_⟩
 rw [h.m]
 constructor
 · rintro ⟨q1,q2⟩;exact ⟨by omega,q2⟩
 · rintro ⟨q1,q2⟩
   by_cases c:j < p
   · exact ⟨c,q2⟩
   · exact absurd q2 (hin j (by omega) q1)
theorem RI.done {P:Nat→Prop} {B:Nat} {out:List (Nat × Nat)} {p:Nat} (h:RI P B out p) (hP:∀ j,p≤j→¬ P j):∀ j,inS out j↔P j:=by
 intro j
 rw [h.m]
 constructor
 · exact fun q=>q.2
 · intro q
   refine ⟨?_,q⟩
   by_cases c:j < p
   · exact c
   · exact absurd q (hP j (by omega))
theorem RI.start (P:Nat→Prop) (B:Nat):RI P B [] 0:=⟨trivial,fun s hs=>absurd hs (by simp),fun s hs=>absurd hs (by simp),fun j=>by simp [inS_nil]⟩
end Go.O
end
section
namespace Go.O
open Go Go.Pav Go.Pw P Go.D
attribute [-simp] List.getElem_cons_drop
attribute [-simp] splice fillC AV.cells AV.cell AV.isAg isC
variable {C:WProg}
structure HasC (C:WProg):Prop where
 f373:C.fns.get 373=some w373
 f536:C.fns.get 536=some w536
 f537:C.fns.get 537=some w537
 f489:C.fns.get 489=some w489
 f392:C.fns.get 392=some w392
 f375:C.fns.get 375=some w375
 f480:C.fns.get 480=some w480
 f374:C.fns.get 374=some w374
 f198:C.fns.get 198=some w198
 inl:C.inl=inlB
 pp:C.pp=ppB
theorem check_loop (H:HasC C) (L:List (Nat × Nat)) (f:Bool) (hl:L.length≤4096) (hm:∀ s ∈ L,s.2≤1073741824):∀ n i lo,n+i=L.length→SV lo (L.drop i) →
 w373_K0 C ⟨[(11,.int .i64 i),(10,.int .i64 L.length),(9,.ro 2 (L.map eS) f),(3,.int .i64 (lo - 1))],[],0⟩=some (.int .i64 0):=by
 intro n
 induction n with
 | zero =>
  intro i lo hi hv
  simp only [w373_K0];rw [ck_unf w373_B0.eq_1]
  have h3:¬ i < L.length:=by omega
  simp (disch:=omega) [ck_unf w373_c0.eq_1,h3]
 | succ n ih =>
  intro i lo hi hv
  have h1:i < L.length:=by omega
  rw [List.drop_eq_getElem_cons h1] at hv
  have hs:=hm L[i] (List.getElem_mem h1)
  have this:=ih (i+1) (L[i].2+1) (by omega) hv.2.2
  have e1:=hv.1
  have e2:=hv.2.1
  have c1:¬ ((L[i].2:Int)≤L[i].1):=by omega
  have c2:¬ (1073741824 < (L[i].2:Int)):=by omega
  have c3:¬ ((L[i].1:Int)≤lo - 1):=by omega
  have c4:¬ ((L[i].1:Int) < 0):=by omega
  have c5:(((L[i].2+1:Nat):Int) - 1)=L[i].2:=by omega
  simp only [w373_K0] at this ⊢;rw [ck_unf w373_B0.eq_1]
  rw [c5] at this
  simp at this
  simp (disch:=omega) [h1,c1,c2,c3,c4,this,wI64,H.inl,inlB,H.pp,ppB]
theorem check_ok (H:HasC C) (L:List (Nat × Nat)) (f:Bool) (hl:L.length≤4096) (hm:∀ s ∈ L,s.2≤1073741824) (hv:SV 0 L):FnW C 373 [.ro 2 (L.map eS) f]=some (.int .i64 0):=by
 have h:=check_loop H L f hl hm L.length 0 0 (by omega) hv
 have c1:¬ (4096 < (L.length:Int)):=by omega
 rw [fnW_eq H.f373 rfl]
 simp only [w373_K0] at h
 simp at h
 simp (disch:=omega) [w373,c1,h,wI64,H.inl,inlB,H.pp,ppB]
theorem both_ok (H:HasC C) (L M:List (Nat × Nat)) (f g:Bool) (hl:L.length≤4096) (hm:∀ s ∈ L,s.2≤1073741824) (hv:SV 0 L) (hl':M.length≤4096) (hm':∀ s ∈ M,s.2≤1073741824) (hv':SV 0 M):FnW C 536 [.ro 2 (L.map eS) f,.ro 2 (M.map eS) g]=some (.int .i64 0):=by
 have h1:=check_ok H L f hl hm hv
 have h2:=check_ok H M g hl' hm' hv'
 rw [fnW_eq H.f536 rfl]
 simp (disch:=omega) [w536,h1,h2,wI64,H.inl,inlB,H.pp,ppB]
theorem edge_ok (H:HasC C) (s:Nat × Nat) (p:Nat):FnW C 537 [.agg (eS s),.int .i64 p]=some (.int .i64 (if s.1≤p then s.2 else s.1:Nat)):=by
 rw [fnW_eq H.f537 rfl]
 by_cases c:s.1≤p
 · have c':¬ ((p:Int) < s.1):=by omega
   rw [if_pos c]
   simp (disch:=omega) [w537,c',wI64,H.inl,inlB,H.pp,ppB]
 · have c':((p:Int) < s.1):=by omega
   rw [if_neg c]
   simp (disch:=omega) [w537,c',wI64,H.inl,inlB,H.pp,ppB]
theorem sclip_ok (H:HasC C) (L:List (Nat × Nat)) (f:Bool):FnW C 489 [.ro 2 (L.map eS) f]=some (.ro 2 (L.map eS) true):=by
 have h4:List.take L.length (L.map eS)=L.map eS:=List.take_of_length_le (by simp)
 rw [fnW_eq H.f489 rfl]
 simp (disch:=omega) [w489,h4,H.inl,inlB,H.pp,ppB]
theorem done_ok (H:HasC C) (L:List (Nat × Nat)) (f:Bool) (hl:L.length≤4096):FnW C 392 [.ro 2 (L.map eS) f]=some (.tup [.ro 2 (L.map eS) true,.int .i64 0]):=by
 have h:=sclip_ok H L f
 have c1:¬ (4096 < (L.length:Int)):=by omega
 rw [fnW_eq H.f392 rfl]
 simp (disch:=omega) [w392,h,c1,wI64,H.inl,inlB,H.pp,ppB]
def inB (j:Nat) (s:Nat × Nat):Bool:=decide (s.1≤j∧j < s.2)
theorem inS_any (L:List (Nat × Nat)) (j:Nat):L.any (inB j)=true↔inS L j:=by
 simp [List.any_eq_true,inB,inS]
theorem has1_ok (H:HasC C) (s:Nat × Nat) (j:Nat):FnW C 375 [.agg (eS s),.rop [.int .i64 j]]=some (.bool (inB j s)):=by
 rw [fnW_eq H.f375 rfl]
 unfold inB
 by_cases c:s.1≤j <;> by_cases d:j < s.2 <;> simp (disch:=omega) [w375,c,d,wI64,H.inl,inlB,H.pp,ppB]
theorem idx_loop (H:HasC C) (L:List (Nat × Nat)) (f:Bool) (hl:L.length≤4096) (j:Nat):∀ n i,n+i=L.length→∃ k:Int,
 w480_K0 C ⟨[(8,.int .i64 i),(7,.int .i64 L.length),(1,.fn 375 [.rop [.int .i64 j]]),(0,.ro 2 (L.map eS) f)],[],0⟩=some (.int .i64 k)∧(0≤k↔(L.drop i).any (inB j)=true):=by
 intro n
 induction n with
 | zero =>
  intro i hi
  have h3:¬ i < L.length:=by omega
  refine ⟨-1,?_,by rw [List.drop_eq_nil_of_le (by omega)];simp⟩
  simp only [w480_K0];rw [ck_unf w480_B0.eq_1]
  simp (disch:=omega) [ck_unf w480_c0.eq_1,h3]
 | succ n ih =>
  intro i hi
  have h1:i < L.length:=by omega
  have hb:=has1_ok H L[i] j
  rw [List.drop_eq_getElem_cons h1,List.any_cons]
  cases hc:inB j L[i]
  · obtain ⟨k,q1,q2⟩:=ih (i+1) (by omega)
    refine ⟨k,?_,by rw [q2];simp⟩
    rw [hc] at hb
    simp only [w480_K0] at q1 ⊢;rw [ck_unf w480_B0.eq_1]
    simp at q1
    simp (disch:=omega) [h1,hb,q1,wI64,H.inl,inlB,H.pp,ppB]
  · refine ⟨i,?_,by simp⟩
    rw [hc] at hb
    simp only [w480_K0];rw [ck_unf w480_B0.eq_1]
    simp (disch:=omega) [h1,hb,wI64,H.inl,inlB,H.pp,ppB]
theorem has_ok (H:HasC C) (L:List (Nat × Nat)) (f:Bool) (hl:L.length≤4096) (hm:∀ s ∈ L,s.2≤1073741824) (hv:SV 0 L) (j:Nat):FnW C 198 [.ro 2 (L.map eS) f,.int .i64 j]=some (.bool (L.any (inB j))):=by
 have hc:=check_ok H L f hl hm hv
 obtain ⟨k,q1,q2⟩:=idx_loop H L f hl j L.length 0 (by omega)
 rw [List.drop_zero] at q2
 have h480:FnW C 480 [.ro 2 (L.map eS) f,.fn 375 [.rop [.int .i64 j]]]=some (.int .i64 k):=by
  rw [fnW_eq H.f480 rfl]
  simp only [w480_K0] at q1
  simp at q1
  simp (disch:=omega) [w480,q1,wI64,H.inl,inlB,H.pp,ppB]
 have h374:FnW C 374 [.ro 2 (L.map eS) f,.fn 375 [.rop [.int .i64 j]]]=some (.bool (L.any (inB j))):=by
  rw [fnW_eq H.f374 rfl]
  by_cases c:0≤k
  · rw [q2.1 c]
    simp (disch:=omega) [w374,h480,c,wI64,H.inl,inlB,H.pp,ppB]
  · have c':L.any (inB j)=false:=by
     cases e:L.any (inB j)
     · rfl
     · exact absurd (q2.2 e) c
    rw [c']
    simp (disch:=omega) [w374,h480,c,wI64,H.inl,inlB,H.pp,ppB]
 rw [fnW_eq H.f198 rfl]
 simp (disch:=omega) [w198,hc,h374,wI64,H.inl,inlB,H.pp,ppB]
end Go.O
end
section
namespace Go.O
open Go Go.Pav Go.Pw P Go.D
attribute [-simp] List.getElem_cons_drop
attribute [-simp] splice fillC AV.cells AV.cell AV.isAg isC
variable {C:WProg}
structure HasM (C:WProg):Prop extends HasC C where
 f477:C.fns.get 477=some w477
 f2391:C.fns.get 2391=some w391
 f479:C.fns.get 479=some w479
 f478:C.fns.get 478=some w478
 f370:C.fns.get 370=some w370
 f371:C.fns.get 371=some w371
theorem keep_ok (H:HasM C) (x y:Bool):FnW C 479 [.bool x,.bool y]=some (.bool (x||y)):=by
 rw [fnW_eq H.f479 rfl]
 cases x <;> cases y <;> simp (disch:=omega) [w479,wI64,H.inl,inlB,H.pp,ppB]
theorem keep2_ok (H:HasM C) (x y:Bool):FnW C 478 [.bool x,.bool y]=some (.bool (x&&!y)):=by
 rw [fnW_eq H.f478 rfl]
 cases x <;> cases y <;> simp (disch:=omega) [w478,wI64,H.inl,inlB,H.pp,ppB]
def Sh (o:AV) (hp:WHeap) (nx:Nat) (X:List (Nat × Nat)):Prop:=(X=[]∧o=.ro 2 [] true∧hp=[]∧nx=0) ∨
 ∃ Y l,X=Y++[l]∧o=.sl 0 2 0 (Y.length+1) (Y.length+1) false∧hp=[(0,.cells 2 (Y.map eS++[eS l]) true true)]∧nx=1
theorem Sh.nil:Sh (.ro 2 [] true) [] 0 []:=.inl ⟨rfl,rfl,rfl,rfl⟩
theorem Sh.snoc (Y:List (Nat × Nat)) (l:Nat × Nat):Sh (.sl 0 2 0 (Y.length+1) (Y.length+1) false) [(0,.cells 2 (Y.map eS++[eS l]) true true)] 1 (Y++[l]):=.inr ⟨Y,l,rfl,rfl,rfl,rfl⟩
theorem addF_in (Y:List (Nat × Nat)) (l:Nat × Nat) (f t:Nat) (h:f≤l.2):addF (Y++[l]) f t=Y++[(l.1,max l.2 t)]:=by simp [addF,h]
theorem addF_out (Y:List (Nat × Nat)) (l:Nat × Nat) (f t:Nat) (h:¬ f≤l.2):addF (Y++[l]) f t=(Y++[l])++[(f,t)]:=by simp [addF,h]
theorem set_last (Y:List (Nat × Nat)) (r r':List AV):(Y.map eS++[r]).set Y.length r'=Y.map eS++[r']:=by
 rw [List.set_append_right _ _ (by simp)];simp
theorem get_last (Y:List (Nat × Nat)) (r:List AV) (h:Y.length < (Y.map eS++[r]).length):(Y.map eS++[r])[Y.length]'h=r:=by
 rw [List.getElem_append_right (by simp)];simp
theorem gq_last (Y:List (Nat × Nat)) (r:List AV):(Y.map eS++[r])[Y.length]?=some r:=by
 rw [List.getElem?_append_right (by simp)];simp
theorem take_all (Y:List (Nat × Nat)) (r:List AV):(Y.map eS++[r]).take (Y.length+1)=Y.map eS++[r]:=List.take_of_length_le (by simp)
theorem mA (H:HasM C) (κ:Nat) (hκ:κ=478∨κ=479) (K:Bool→Bool→Bool) (hK:∀ x y,FnW C κ [.bool x,.bool y]=some (.bool (K x y))) (a b:List (Nat × Nat)) (f g:Bool) (p i k:Nat) (hi:i < a.length) (x:Bool) (hx:decide (a[i].1≤p)=x) (e:Nat) (he:(if a[i].1≤p then a[i].2 else a[i].1)=e) (hM:e≤1073741824) (hpe:p < e) (hk:k=b.length) (ha:p < a[i].2) (hp0:p≤1073741824) (X:List (Nat × Nat)) (hXl:X.length≤100000) (hXb:∀ s ∈ X,s.2≤p) (o:AV) (hp:WHeap) (nx:Nat) (hS:Sh o hp nx X) (R:Option AV)
 (next:∀ o hp nx,Sh o hp nx (if K x false=true then addF X p e else X)→w477_K0 C ⟨[(12,.int .i64 k),(11,.int .i64 i),(10,.int .i64 e),(9,o),(2,.fn κ []),(1,.ro 2 (b.map eS) g),(0,.ro 2 (a.map eS) f)],hp,nx⟩=R) :
 w477_K1 C ⟨[(12,.int .i64 k),(11,.int .i64 i),(10,.int .i64 p),(9,o),(2,.fn κ []),(1,.ro 2 (b.map eS) g),(0,.ro 2 (a.map eS) f)],hp,nx⟩=R:=by
 have q:=fun a b c h n=>rnW_eq (args:=[a,b,c]) H.f2391 rfl h n
 have hed:=edge_ok H.toHasC a[i] p
 rw [he] at hed
 have hin:¬ i=a.length:=by omega
 subst hk
 have hax:¬ (a[i].2≤p):=by omega
 have hpE:¬ (e≤p):=by omega
 have hz:∀ v:Bool,K x false=v→w477_K1 C ⟨[(12,.int .i64 b.length),(11,.int .i64 i),(10,.int .i64 p),(9,o),(2,.fn κ []),(1,.ro 2 (b.map eS) g),(0,.ro 2 (a.map eS) f)],hp,nx⟩=R:=by
  intro v hv
  have hcall:=hK x false
  rw [hv] at next hcall
  rcases hS with ⟨rfl,rfl,rfl,rfl⟩ | ⟨Y,l,rfl,rfl,rfl,rfl⟩
  · cases v
    · have this:=next _ _ _ Sh.nil
      simp only [w477_K0] at this
      try simp [eS] at this
      rcases hκ with rfl | rfl <;>
      (simp only [w477_K1];rw [ck_unf w477_B1.eq_1];simp (disch:=omega) [hcall,ck_unf w477_c1.eq_1,hi,hx,hed,hin,hax,hpE,q,w391,imin_l,imin_r,imax_l,imax_r,set_last,get_last,gq_last,take_all,wI64,H.inl,inlB,H.pp,ppB,this])
    · have this:=next _ _ _ (Sh.snoc [] (p,e))
      simp only [w477_K0] at this
      try simp [eS] at this
      rcases hκ with rfl | rfl <;>
      (simp only [w477_K1];rw [ck_unf w477_B1.eq_1];simp (disch:=omega) [hcall,ck_unf w477_c1.eq_1,hi,hx,hed,hin,hax,hpE,q,w391,imin_l,imin_r,imax_l,imax_r,set_last,get_last,gq_last,take_all,wI64,H.inl,inlB,H.pp,ppB,this])
  · have hl2:=hXb l (by simp)
    have hYl:Y.length+1≤100000:=by simpa using hXl
    have hmk:(Y.length+1+1) * 17≤35184372088832:=by omega
    cases v
    · have this:=next _ _ _ (Sh.snoc Y l)
      simp only [w477_K0] at this
      try simp [eS] at this
      rcases hκ with rfl | rfl <;>
      (simp only [w477_K1];rw [ck_unf w477_B1.eq_1];simp (disch:=omega) [hcall,ck_unf w477_c1.eq_1,hi,hx,hed,hin,hax,hpE,q,w391,imin_l,imin_r,imax_l,imax_r,set_last,get_last,gq_last,take_all,wI64,H.inl,inlB,H.pp,ppB,this])
    · by_cases hc:p≤l.2
      · have this:=next _ _ _ (by rw [if_pos rfl,addF_in _ _ _ _ hc];exact Sh.snoc Y (l.1,max l.2 e))
        have hmx:max l.2 e=e:=by omega
        rw [hmx] at this
        simp only [w477_K0] at this
        try simp [eS] at this
        rcases hκ with rfl | rfl <;>
        (simp only [w477_K1];rw [ck_unf w477_B1.eq_1];simp (disch:=omega) [hcall,hc,ck_unf w477_c1.eq_1,hi,hx,hed,hin,hax,hpE,q,w391,imin_l,imin_r,imax_l,imax_r,set_last,get_last,gq_last,take_all,wI64,H.inl,inlB,H.pp,ppB,this])
      · have this:=next _ _ _ (by rw [if_pos rfl,addF_out _ _ _ _ hc];exact Sh.snoc (Y++[l]) (p,e))
        simp only [w477_K0] at this
        try simp [eS] at this
        rcases hκ with rfl | rfl <;>
        (simp only [w477_K1];rw [ck_unf w477_B1.eq_1];simp (disch:=omega) [hcall,hc,hmk,eS,ck_unf w477_c1.eq_1,hi,hx,hed,hin,hax,hpE,q,w391,imin_l,imin_r,imax_l,imax_r,set_last,get_last,gq_last,take_all,wI64,H.inl,inlB,H.pp,ppB,this])
 exact hz _ rfl
theorem mB (H:HasM C) (κ:Nat) (hκ:κ=478∨κ=479) (K:Bool→Bool→Bool) (hK:∀ x y,FnW C κ [.bool x,.bool y]=some (.bool (K x y))) (a b:List (Nat × Nat)) (f g:Bool) (p i k:Nat) (hi:i=a.length) (hk:k < b.length) (y:Bool) (hy:decide (b[k].1≤p)=y) (u:Nat) (hu:(if b[k].1≤p then b[k].2 else b[k].1)=u) (hN:u≤1073741824) (hpu:p < u) (hb:p < b[k].2) (hp0:p≤1073741824) (X:List (Nat × Nat)) (hXl:X.length≤100000) (hXb:∀ s ∈ X,s.2≤p) (o:AV) (hp:WHeap) (nx:Nat) (hS:Sh o hp nx X) (R:Option AV)
 (next:∀ o hp nx,Sh o hp nx (if K false y=true then addF X p u else X)→w477_K0 C ⟨[(12,.int .i64 k),(11,.int .i64 i),(10,.int .i64 u),(9,o),(2,.fn κ []),(1,.ro 2 (b.map eS) g),(0,.ro 2 (a.map eS) f)],hp,nx⟩=R) :
 w477_K1 C ⟨[(12,.int .i64 k),(11,.int .i64 i),(10,.int .i64 p),(9,o),(2,.fn κ []),(1,.ro 2 (b.map eS) g),(0,.ro 2 (a.map eS) f)],hp,nx⟩=R:=by
 have q:=fun a b c h n=>rnW_eq (args:=[a,b,c]) H.f2391 rfl h n
 subst hi
 have heu:=edge_ok H.toHasC b[k] p
 rw [hu] at heu
 have hkn:¬ k=b.length:=by omega
 have hbx:¬ (b[k].2≤p):=by omega
 have hpE:¬ (u≤p):=by omega
 have hz:∀ v:Bool,K false y=v→w477_K1 C ⟨[(12,.int .i64 k),(11,.int .i64 a.length),(10,.int .i64 p),(9,o),(2,.fn κ []),(1,.ro 2 (b.map eS) g),(0,.ro 2 (a.map eS) f)],hp,nx⟩=R:=by
  intro v hv
  have hcall:=hK false y
  rw [hv] at next hcall
  rcases hS with ⟨rfl,rfl,rfl,rfl⟩ | ⟨Y,l,rfl,rfl,rfl,rfl⟩
  · cases v
    · have this:=next _ _ _ Sh.nil
      simp only [w477_K0] at this
      try simp [eS] at this
      rcases hκ with rfl | rfl <;>
      (simp only [w477_K1];rw [ck_unf w477_B1.eq_1];simp (disch:=omega) [hcall,ck_unf w477_c1.eq_1,hk,hy,heu,hkn,hbx,hpE,q,w391,imin_l,imin_r,imax_l,imax_r,set_last,get_last,gq_last,take_all,wI64,H.inl,inlB,H.pp,ppB,this])
    · have this:=next _ _ _ (Sh.snoc [] (p,u))
      simp only [w477_K0] at this
      try simp [eS] at this
      rcases hκ with rfl | rfl <;>
      (simp only [w477_K1];rw [ck_unf w477_B1.eq_1];simp (disch:=omega) [hcall,ck_unf w477_c1.eq_1,hk,hy,heu,hkn,hbx,hpE,q,w391,imin_l,imin_r,imax_l,imax_r,set_last,get_last,gq_last,take_all,wI64,H.inl,inlB,H.pp,ppB,this])
  · have hl2:=hXb l (by simp)
    have hYl:Y.length+1≤100000:=by simpa using hXl
    have hmk:(Y.length+1+1) * 17≤35184372088832:=by omega
    cases v
    · have this:=next _ _ _ (Sh.snoc Y l)
      simp only [w477_K0] at this
      try simp [eS] at this
      rcases hκ with rfl | rfl <;>
      (simp only [w477_K1];rw [ck_unf w477_B1.eq_1];simp (disch:=omega) [hcall,ck_unf w477_c1.eq_1,hk,hy,heu,hkn,hbx,hpE,q,w391,imin_l,imin_r,imax_l,imax_r,set_last,get_last,gq_last,take_all,wI64,H.inl,inlB,H.pp,ppB,this])
    · by_cases hc:p≤l.2
      · have this:=next _ _ _ (by rw [if_pos rfl,addF_in _ _ _ _ hc];exact Sh.snoc Y (l.1,max l.2 u))
        have hmx:max l.2 u=u:=by omega
        rw [hmx] at this
        simp only [w477_K0] at this
        try simp [eS] at this
        rcases hκ with rfl | rfl <;>
        (simp only [w477_K1];rw [ck_unf w477_B1.eq_1];simp (disch:=omega) [hcall,hc,ck_unf w477_c1.eq_1,hk,hy,heu,hkn,hbx,hpE,q,w391,imin_l,imin_r,imax_l,imax_r,set_last,get_last,gq_last,take_all,wI64,H.inl,inlB,H.pp,ppB,this])
      · have this:=next _ _ _ (by rw [if_pos rfl,addF_out _ _ _ _ hc];exact Sh.snoc (Y++[l]) (p,u))
        simp only [w477_K0] at this
        try simp [eS] at this
        rcases hκ with rfl | rfl <;>
        (simp only [w477_K1];rw [ck_unf w477_B1.eq_1];simp (disch:=omega) [hcall,hc,hmk,eS,ck_unf w477_c1.eq_1,hk,hy,heu,hkn,hbx,hpE,q,w391,imin_l,imin_r,imax_l,imax_r,set_last,get_last,gq_last,take_all,wI64,H.inl,inlB,H.pp,ppB,this])
 exact hz _ rfl
theorem mD (H:HasM C) (κ:Nat) (hκ:κ=478∨κ=479) (K:Bool→Bool→Bool) (hK:∀ x y,FnW C κ [.bool x,.bool y]=some (.bool (K x y))) (a b:List (Nat × Nat)) (f g:Bool) (p i k:Nat) (hi:i < a.length) (x:Bool) (hx:decide (a[i].1≤p)=x) (e:Nat) (he:(if a[i].1≤p then a[i].2 else a[i].1)=e) (hM:e≤1073741824) (hpe:p < e) (hk:k < b.length) (y:Bool) (hy:decide (b[k].1≤p)=y) (u:Nat) (hu:(if b[k].1≤p then b[k].2 else b[k].1)=u) (hN:u≤1073741824) (hpu:p < u) (hd:e≤u) (ha:p < a[i].2) (hb:p < b[k].2) (hp0:p≤1073741824) (X:List (Nat × Nat)) (hXl:X.length≤100000) (hXb:∀ s ∈ X,s.2≤p) (o:AV) (hp:WHeap) (nx:Nat) (hS:Sh o hp nx X) (R:Option AV)
 (next:∀ o hp nx,Sh o hp nx (if K x y=true then addF X p e else X)→w477_K0 C ⟨[(12,.int .i64 k),(11,.int .i64 i),(10,.int .i64 e),(9,o),(2,.fn κ []),(1,.ro 2 (b.map eS) g),(0,.ro 2 (a.map eS) f)],hp,nx⟩=R) :
 w477_K1 C ⟨[(12,.int .i64 k),(11,.int .i64 i),(10,.int .i64 p),(9,o),(2,.fn κ []),(1,.ro 2 (b.map eS) g),(0,.ro 2 (a.map eS) f)],hp,nx⟩=R:=by
 have q:=fun a b c h n=>rnW_eq (args:=[a,b,c]) H.f2391 rfl h n
 have hed:=edge_ok H.toHasC a[i] p
 rw [he] at hed
 have hin:¬ i=a.length:=by omega
 have heu:=edge_ok H.toHasC b[k] p
 rw [hu] at heu
 have hkn:¬ k=b.length:=by omega
 have hax:¬ (a[i].2≤p):=by omega
 have hbx:¬ (b[k].2≤p):=by omega
 have hpE:¬ (e≤p):=by omega
 have hz:∀ v:Bool,K x y=v→w477_K1 C ⟨[(12,.int .i64 k),(11,.int .i64 i),(10,.int .i64 p),(9,o),(2,.fn κ []),(1,.ro 2 (b.map eS) g),(0,.ro 2 (a.map eS) f)],hp,nx⟩=R:=by
  intro v hv
  have hcall:=hK x y
  rw [hv] at next hcall
  rcases hS with ⟨rfl,rfl,rfl,rfl⟩ | ⟨Y,l,rfl,rfl,rfl,rfl⟩
  · cases v
    · have this:=next _ _ _ Sh.nil
      simp only [w477_K0] at this
      try simp [eS] at this
      rcases hκ with rfl | rfl <;>
      (simp only [w477_K1];rw [ck_unf w477_B1.eq_1];simp (disch:=omega) [hcall,ck_unf w477_c1.eq_1,hi,hx,hed,hin,hk,hy,heu,hkn,hax,hbx,hpE,q,w391,imin_l,imin_r,imax_l,imax_r,set_last,get_last,gq_last,take_all,wI64,H.inl,inlB,H.pp,ppB,this])
    · have this:=next _ _ _ (Sh.snoc [] (p,e))
      simp only [w477_K0] at this
      try simp [eS] at this
      rcases hκ with rfl | rfl <;>
      (simp only [w477_K1];rw [ck_unf w477_B1.eq_1];simp (disch:=omega) [hcall,ck_unf w477_c1.eq_1,hi,hx,hed,hin,hk,hy,heu,hkn,hax,hbx,hpE,q,w391,imin_l,imin_r,imax_l,imax_r,set_last,get_last,gq_last,take_all,wI64,H.inl,inlB,H.pp,ppB,this])
  · have hl2:=hXb l (by simp)
    have hYl:Y.length+1≤100000:=by simpa using hXl
    have hmk:(Y.length+1+1) * 17≤35184372088832:=by omega
    cases v
    · have this:=next _ _ _ (Sh.snoc Y l)
      simp only [w477_K0] at this
      try simp [eS] at this
      rcases hκ with rfl | rfl <;>
      (simp only [w477_K1];rw [ck_unf w477_B1.eq_1];simp (disch:=omega) [hcall,ck_unf w477_c1.eq_1,hi,hx,hed,hin,hk,hy,heu,hkn,hax,hbx,hpE,q,w391,imin_l,imin_r,imax_l,imax_r,set_last,get_last,gq_last,take_all,wI64,H.inl,inlB,H.pp,ppB,this])
    · by_cases hc:p≤l.2
      · have this:=next _ _ _ (by rw [if_pos rfl,addF_in _ _ _ _ hc];exact Sh.snoc Y (l.1,max l.2 e))
        have hmx:max l.2 e=e:=by omega
        rw [hmx] at this
        simp only [w477_K0] at this
        try simp [eS] at this
        rcases hκ with rfl | rfl <;>
        (simp only [w477_K1];rw [ck_unf w477_B1.eq_1];simp (disch:=omega) [hcall,hc,ck_unf w477_c1.eq_1,hi,hx,hed,hin,hk,hy,heu,hkn,hax,hbx,hpE,q,w391,imin_l,imin_r,imax_l,imax_r,set_last,get_last,gq_last,take_all,wI64,H.inl,inlB,H.pp,ppB,this])
      · have this:=next _ _ _ (by rw [if_pos rfl,addF_out _ _ _ _ hc];exact Sh.snoc (Y++[l]) (p,e))
        simp only [w477_K0] at this
        try simp [eS] at this
        rcases hκ with rfl | rfl <;>
        (simp only [w477_K1];rw [ck_unf w477_B1.eq_1];simp (disch:=omega) [hcall,hc,hmk,eS,ck_unf w477_c1.eq_1,hi,hx,hed,hin,hk,hy,heu,hkn,hax,hbx,hpE,q,w391,imin_l,imin_r,imax_l,imax_r,set_last,get_last,gq_last,take_all,wI64,H.inl,inlB,H.pp,ppB,this])
 exact hz _ rfl
theorem mE (H:HasM C) (κ:Nat) (hκ:κ=478∨κ=479) (K:Bool→Bool→Bool) (hK:∀ x y,FnW C κ [.bool x,.bool y]=some (.bool (K x y))) (a b:List (Nat × Nat)) (f g:Bool) (p i k:Nat) (hi:i < a.length) (x:Bool) (hx:decide (a[i].1≤p)=x) (e:Nat) (he:(if a[i].1≤p then a[i].2 else a[i].1)=e) (hM:e≤1073741824) (hpe:p < e) (hk:k < b.length) (y:Bool) (hy:decide (b[k].1≤p)=y) (u:Nat) (hu:(if b[k].1≤p then b[k].2 else b[k].1)=u) (hN:u≤1073741824) (hpu:p < u) (hd:u < e) (ha:p < a[i].2) (hb:p < b[k].2) (hp0:p≤1073741824) (X:List (Nat × Nat)) (hXl:X.length≤100000) (hXb:∀ s ∈ X,s.2≤p) (o:AV) (hp:WHeap) (nx:Nat) (hS:Sh o hp nx X) (R:Option AV)
 (next:∀ o hp nx,Sh o hp nx (if K x y=true then addF X p u else X)→w477_K0 C ⟨[(12,.int .i64 k),(11,.int .i64 i),(10,.int .i64 u),(9,o),(2,.fn κ []),(1,.ro 2 (b.map eS) g),(0,.ro 2 (a.map eS) f)],hp,nx⟩=R) :
 w477_K1 C ⟨[(12,.int .i64 k),(11,.int .i64 i),(10,.int .i64 p),(9,o),(2,.fn κ []),(1,.ro 2 (b.map eS) g),(0,.ro 2 (a.map eS) f)],hp,nx⟩=R:=by
 have q:=fun a b c h n=>rnW_eq (args:=[a,b,c]) H.f2391 rfl h n
 have hed:=edge_ok H.toHasC a[i] p
 rw [he] at hed
 have hin:¬ i=a.length:=by omega
 have heu:=edge_ok H.toHasC b[k] p
 rw [hu] at heu
 have hkn:¬ k=b.length:=by omega
 have hax:¬ (a[i].2≤p):=by omega
 have hbx:¬ (b[k].2≤p):=by omega
 have hpE:¬ (u≤p):=by omega
 have hz:∀ v:Bool,K x y=v→w477_K1 C ⟨[(12,.int .i64 k),(11,.int .i64 i),(10,.int .i64 p),(9,o),(2,.fn κ []),(1,.ro 2 (b.map eS) g),(0,.ro 2 (a.map eS) f)],hp,nx⟩=R:=by
  intro v hv
  have hcall:=hK x y
  rw [hv] at next hcall
  rcases hS with ⟨rfl,rfl,rfl,rfl⟩ | ⟨Y,l,rfl,rfl,rfl,rfl⟩
  · cases v
    · have this:=next _ _ _ Sh.nil
      simp only [w477_K0] at this
      try simp [eS] at this
      rcases hκ with rfl | rfl <;>
      (simp only [w477_K1];rw [ck_unf w477_B1.eq_1];simp (disch:=omega) [hcall,ck_unf w477_c1.eq_1,hi,hx,hed,hin,hk,hy,heu,hkn,hax,hbx,hpE,q,w391,imin_l,imin_r,imax_l,imax_r,set_last,get_last,gq_last,take_all,wI64,H.inl,inlB,H.pp,ppB,this])
    · have this:=next _ _ _ (Sh.snoc [] (p,u))
      simp only [w477_K0] at this
      try simp [eS] at this
      rcases hκ with rfl | rfl <;>
      (simp only [w477_K1];rw [ck_unf w477_B1.eq_1];simp (disch:=omega) [hcall,ck_unf w477_c1.eq_1,hi,hx,hed,hin,hk,hy,heu,hkn,hax,hbx,hpE,q,w391,imin_l,imin_r,imax_l,imax_r,set_last,get_last,gq_last,take_all,wI64,H.inl,inlB,H.pp,ppB,this])
  · have hl2:=hXb l (by simp)
    have hYl:Y.length+1≤100000:=by simpa using hXl
    have hmk:(Y.length+1+1) * 17≤35184372088832:=by omega
    cases v
    · have this:=next _ _ _ (Sh.snoc Y l)
      simp only [w477_K0] at this
      try simp [eS] at this
      rcases hκ with rfl | rfl <;>
      (simp only [w477_K1];rw [ck_unf w477_B1.eq_1];simp (disch:=omega) [hcall,ck_unf w477_c1.eq_1,hi,hx,hed,hin,hk,hy,heu,hkn,hax,hbx,hpE,q,w391,imin_l,imin_r,imax_l,imax_r,set_last,get_last,gq_last,take_all,wI64,H.inl,inlB,H.pp,ppB,this])
    · by_cases hc:p≤l.2
      · have this:=next _ _ _ (by rw [if_pos rfl,addF_in _ _ _ _ hc];exact Sh.snoc Y (l.1,max l.2 u))
        have hmx:max l.2 u=u:=by omega
        rw [hmx] at this
        simp only [w477_K0] at this
        try simp [eS] at this
        rcases hκ with rfl | rfl <;>
        (simp only [w477_K1];rw [ck_unf w477_B1.eq_1];simp (disch:=omega) [hcall,hc,ck_unf w477_c1.eq_1,hi,hx,hed,hin,hk,hy,heu,hkn,hax,hbx,hpE,q,w391,imin_l,imin_r,imax_l,imax_r,set_last,get_last,gq_last,take_all,wI64,H.inl,inlB,H.pp,ppB,this])
      · have this:=next _ _ _ (by rw [if_pos rfl,addF_out _ _ _ _ hc];exact Sh.snoc (Y++[l]) (p,u))
        simp only [w477_K0] at this
        try simp [eS] at this
        rcases hκ with rfl | rfl <;>
        (simp only [w477_K1];rw [ck_unf w477_B1.eq_1];simp (disch:=omega) [hcall,hc,hmk,eS,ck_unf w477_c1.eq_1,hi,hx,hed,hin,hk,hy,heu,hkn,hax,hbx,hpE,q,w391,imin_l,imin_r,imax_l,imax_r,set_last,get_last,gq_last,take_all,wI64,H.inl,inlB,H.pp,ppB,this])
 exact hz _ rfl
end Go.O
end
