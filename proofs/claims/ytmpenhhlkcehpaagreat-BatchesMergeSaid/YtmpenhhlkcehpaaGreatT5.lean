/- Part of the theory that the claims of this work use: PwP, PwLib, D01, PavLink, L24, PwGlue, PwGlue2, G00, D02, D03. No conditions of its own. -/
import Derived.Test.YtmpenhhlkcehpaaGreatT4
import Derived.Laws.RangeAny
import Derived.Test.YtmpenhhlkcehpaaGreatChecked
import Derived.KernelRfl
import Derived.ChangeSame
import Derived.ChangeArms
import Derived.ReadAgain
import Derived.Handed
import Derived.JoinedOf
import Derived.RowKit
import Derived.Test.YtmpenhhlkcehpaaGreatRows
import Derived.ProofKit
import Derived.Sort.Walk0
set_option linter.unusedVariables false
set_option linter.unusedSimpArgs false
set_option maxHeartbeats 4000000
set_option maxRecDepth 10000
section
set_option maxRecDepth 100000
namespace P
open Go Go.Pav Go.Pw Go.Pw.Z Go.Pw.ZC
def w0:WFn:=⟨0,[],zd (O 0 [E .fail])⟩
def w91_c0:WCode:=zd (s (s (O 59 [m 1,ln 1 59,gti 60 40]) (c 61 (r (O 62 [ca 166 [],d 4 (m 62)])))) (s (O 64 [m 1,ca 167 [64],d 63 (m 65),ex 0 63,ex 1 63,d 7 (m 66),d 8 (m 67)]) (s (O 69 [m 1,ca 168 [69],d 68 (m 70),ex 0 68,ex 1 68,d 9 (m 71),d 10 (m 72)]) (s (s (Q 73 [m 10,m 8,ne 73 74,m 75,z 76 (m 9),z 76 (m 7),z 76 (ca 169 [77,78]),z 76 (eqi 79 0),po 76 80,m 81,z 82 (m 9),z 82 (E (.cap (T 83))),z 82 (m 9),z 82 (ln 1 85),z 82 (ne 84 86),po 82 87,m 88,z 89 (m 9),z 89 (ln 1 90),z 89 (m 1),z 89 (ln 1 92),z 89 (gt 91 93),po 89 94] [95,9,8,2,1]) (c 95 (r (O 4 [ff])))) (s (Q 97 [h 3 2,ca 130 [97],d 96 (m 98),ex 0 96,ex 1 96,d 11 (E (.alloc [.ro 9 [] true,.int .i64 0])),d 12 (E (.alloc [.ro 6 [] true])),n (st 2 11 99),n (st 1 12 100)] [12,11,9,8,1]) (s (O 102 [h 2 11,f 0 12,l 1 103,m 1,ca 170 [102,104,105],d 101 (m 106),ex 0 101,ex 1 101,ex 2 101,d 13 (m 107),d 14 (m 108),d 15 (m 109)]) (s (s (O 110 [m 8,nei 110 0,m 111,z 112 (m 15),z 112 (nei 113 0),po 112 114]) (c 115 (r (O 116 [ca 166 [],d 4 (m 116)])))) (s (Q 118 [h 2 11,h 1 12,m 9,ca 171 [118,119,120],d 117 (m 121),ex 0 117,ex 1 117,ex 2 117,d 16 (E (.alloc [.ro 6 [] true])),n (st 1 16 122),d 17 (m 123),d 18 (m 124)] [18,17,16,13,9]) (r (O 125 [m 18,eqi 125 0,m 126,y 127 (m 17),y 127 (m 9),y 127 (ln 1 129),y 127 (eq 128 130),pa 127 131,m 132,y 133 (f 0 16),y 133 (l 1 134),y 133 (m 13),y 133 (ca 172 [135,136]),y 133 (eqi 137 1),pa 133 138,m 139,y 140 (ca 166 []),pa 140 141,d 4 (m 142)]))))))))))
def w91_B0:WCode:=zd (s (s (O 19 [m 6,m 1,ln 1 20,lt 19 21,m 22,y 23 (m 6),y 23 (lti 24 41),pa 23 25]) (cc 26 (w .skip) (ee 0))) (s (B 1 (s (Q 29 [m 5,m 1,m 6,ix 5 30 31,f 4 32,l 1 33,ln 1 34,ad 29 35,d 5 (m 36)] [6,5,2,1]) (s (O 37 [m 1,m 6,ix 5 37 38,f 4 39,l 1 40,ln 1 41,gti 42 20,m 43,z 44 (m 5),z 44 (gti 45 60),po 44 46,m 47,z 48 (m 1),z 48 (m 6),z 48 (ix 5 49 50),z 48 (f 4 51),z 48 (l 1 52),z 48 (E (.build [.int .i64 0,.ro 1 [] true,.ro 1 [] true,.ro 4 [] true] [(3,1,T 53)])),z 48 (ca 165 [54]),z 48 (eqi 55 0),po 48 56]) (c 57 (r (Q 58 [ca 166 [],d 4 (m 58)] [4])))))) (O 27 [m 6,adi 27 1,d 6 (m 28)])))
def w91_L0:WCode:=.loop ⟨true,[6,5,2,1],[]⟩ w91_B0
def w91:WFn:=⟨2,[.tmp 4],zd (s (O 4 [d 2 (bx 0),ff]) (s (O 5 [i 0]) (s (s (O 6 [i 0]) (bk 0 w91_L0 ⟨true,[2,1],[]⟩)) w91_c0)))⟩
@[simp] theorem w91_E0:ZL w91_L0 w91_B0 ⟨true,[6,5,2,1],[]⟩:=ck_lp rfl
noncomputable abbrev w91_K0 (C:WProg) (s:WSt):Option AV:=CK C 0 (pureFin [.tmp 4]) [.sq w91_L0,.bk 0 ⟨true,[2,1],[]⟩,.sq w91_c0] w91_B0 s
def w130_c0:WCode:=zd (r (V 68 [h 2 4,h 1 6,n (st 2 2 68),n (st 1 3 69)] [(1,2)] ⟨false,[],[]⟩))
def w130_B0:WCode:=zd (s (s (O 17 [m 7,m 5,ln 1 18,lt 17 19]) (cc 20 (w .skip) (ee 0))) (s (B 1 (s (s (V 23 [h 2 4,m 5,m 7,ix 4 24 25,h 4 26,E (.call 271 [T 23,T 27,N 0]),gti 28 0] [] ⟨false,[],[]⟩) (c 29 (ee 1))) (s (U 30 [h 2 4,m 5,m 7,ix 4 31 32,h 4 33,ca 240 [30,34],d 8 (E (.alloc [.int .u64 0,.int .u8 0,.str [],.ro 1 [] true,.int .i64 0,.bool false])),n (st 6 8 35)] [(0,6),(4,6),(5,6)] [8,7,6,5,4,3,2,1]) (s (s (O 36 [f 0 6,l 1 36,ln 1 37,d 9 (m 38)]) (s (O 39 [m 9,f 1 1,l 1 40,ln 1 41,lt 39 42,m 43,y 44 (f 1 1),y 44 (l 1 45),y 44 (m 9),y 44 (ix 1 46 47),y 44 (l 1 48),y 44 (E (.bin .gtr (T 49) (.c (.int .u8 0)))),pa 44 50]) (c 51 (s (Q 52 [f 1 1,l 1 52,m 9,ix 1 53 54,l 1 55,E (.bin .rem (T 56) (.c (.int .u8 40))),E (.cvt .i64 (T 57)),E (.bin .add (N 1) (T 58)),f 4 8,n (st 1 60 59)] [8,7,6,5,4,3,2,1]) (O 61 [f 5 8,n (E (.store 1 (T 61) (.c (.bool true))))]))))) (O 62 [f 0 6,l 1 62,h 6 8,E (.buildS [.int .u64 0,.int .u8 0,.str [],.ro 1 [] true,.int .i64 0,.bool false] 1 [(0,T 64)]),E (.app [.int .u64 0,.int .u8 0,.str [],.ro 1 [] true,.int .i64 0,.bool false] 72 false (T 63) (T 65)),f 0 6,n (st 1 67 66)]))))) (O 21 [m 7,adi 21 1,d 7 (m 22)])))
def w130_L0:WCode:=.loop ⟨true,[7,6,5,4,3,2,1],[]⟩ w130_B0
def w130:WFn:=⟨1,[.cell 2 2 true,.cell 3 1 true],zd (s (Q 1 [bx 0,E (.alloc [.ro 9 [] true,.int .i64 0]),E (.alloc [.ro 6 [] true])] [3,2,1]) (s (O 10 [f 2 1,l 1 10,ca 126 [11],E (.build [.ro 9 [] true,.int .i64 0] [(0,1,T 12),(1,1,N 12)]),d 4 (E (.alloc [.ro 9 [] true,.int .i64 0])),n (st 2 4 13)]) (s (O 14 [f 0 1,h 1 14,ca 270 [15],d 5 (m 16)]) (s (O 6 [E (.alloc [.ro 6 [] true])]) (s (s (O 7 [i 0]) (bk 0 w130_L0 ⟨true,[6,4,3,2],[]⟩)) w130_c0)))))⟩
@[simp] theorem w130_E0:ZL w130_L0 w130_B0 ⟨true,[7,6,5,4,3,2,1],[]⟩:=ck_lp rfl
noncomputable abbrev w130_K0 (C:WProg) (s:WSt):Option AV:=CK C 0 (pureFin [.cell 2 2 true,.cell 3 1 true]) [.sq w130_L0,.bk 0 ⟨true,[6,4,3,2],[]⟩,.sq w130_c0] w130_B0 s
def w171_c0:WCode:=zd (r (O 49 [h 1 6,m 2,ln 1 50,m 8,n (st 1 6 49),d 7 (m 51),d 8 (m 52)]))
def w171_B0:WCode:=zd (s (O 32 [lt 31 30]) (s (cc 32 (w .skip) (ee 0)) (s (B 1 (s (O 33 [m 31,ix 5 29 31,h 5 34,d 11 (E (.alloc [.int .u8 0,.int .i64 0,.int .i64 0,.int .i64 0,.ro 4 [] true])),d 10 (m 33),n (st 5 11 35)]) (s (Q 37 [h 2 3,h 1 6,h 5 11,ca 343 [37,38,39],d 36 (m 40),ex 0 36,ex 1 36,n (st 1 6 41),d 8 (m 42)] [31,30,29,10,8,6,3,2]) (s (O 43 [m 8,nei 43 0]) (c 44 (r (O 45 [E (.build [.ro 6 [] true] []),m 10,m 8,n (st 1 6 45),d 7 (m 46),d 8 (m 47)]))))))) (O 48 [adi 31 1,d 31 (m 48)]))))
def w171_L0:WCode:=.loop ⟨true,[31,30,29,8,6,3,2],[]⟩ w171_B0
def w171:WFn:=⟨3,[.cell 6 1 true,.tmp 7,.tmp 8],zd (s (O 6 [d 3 (bx 0),d 4 (bx 1),E (.alloc [.ro 6 [] true]),i 0,i 0]) (s (s (O 12 [h 2 3,h 1 4,ca 223 [12,13],d 9 (m 14)]) (s (O 15 [m 9,nei 15 0]) (c 16 (r (O 17 [E (.build [.ro 6 [] true] []),m 9,n (st 1 6 17),d 7 (i 0),d 8 (m 18)]))))) (s (s (Q 19 [m 2,ln 1 19,gti 20 32] [21,6,4,3,2]) (c 21 (r (O 7 [d 22 (E (.build [.ro 6 [] true] [])),n (st 1 6 22),i 0,i 3])))) (s (O 24 [h 2 3,h 1 4,E (.call 110 [T 24,T 25,N 0,N 0]),d 23 (m 26),ex 0 23,ex 1 23,n (st 1 6 27),d 8 (m 28)]) (s (s (O 29 [m 2,ln 1 29,i 0]) (bk 0 w171_L0 ⟨true,[8,6,2],[]⟩)) w171_c0)))))⟩
@[simp] theorem w171_E0:ZL w171_L0 w171_B0 ⟨true,[31,30,29,8,6,3,2],[]⟩:=ck_lp rfl
noncomputable abbrev w171_K0 (C:WProg) (s:WSt):Option AV:=CK C 0 (pureFin [.cell 6 1 true,.tmp 7,.tmp 8]) [.sq w171_L0,.bk 0 ⟨true,[8,6,2],[]⟩,.sq w171_c0] w171_B0 s
def w239_c0:WCode:=zd (r (O 4 [i (-1)]))
def w239_B0:WCode:=zd (s (s (O 6 [m 5,m 0,ln 1 7,lt 6 8]) (cc 9 (w .skip) (ee 0))) (s (B 1 (s (O 12 [m 0,m 5,ix 6 12 13,f 0 14,f 0 15,l 1 16,m 1,eq 17 18]) (c 19 (r (O 20 [m 5,d 4 (m 20)]))))) (O 10 [m 5,adi 10 1,d 5 (m 11)])))
def w239_L0:WCode:=.loop ⟨true,[5,1,0],[]⟩ w239_B0
def w239:WFn:=⟨2,[.tmp 4],zd (s (O 4 [i 0]) (s (s (O 5 [i 0]) (bk 0 w239_L0 ⟨true,[],[]⟩)) w239_c0))⟩
@[simp] theorem w239_E0:ZL w239_L0 w239_B0 ⟨true,[5,1,0],[]⟩:=ck_lp rfl
noncomputable abbrev w239_K0 (C:WProg) (s:WSt):Option AV:=CK C 0 (pureFin [.tmp 4]) [.sq w239_L0,.bk 0 ⟨true,[],[]⟩,.sq w239_c0] w239_B0 s
def w165_c0:WCode:=zd (r (O 2 [i 1]))
def w165_c1:WCode:=zd (O 27 [m 3,adi 27 1,d 3 (m 28)])
def w165_B1:WCode:=zd (s (s (Q 47 [m 4,f 3 1,l 1 48,m 3,ix 4 49 50,f 3 51,l 1 52,ln 1 53,lt 47 54] [55,4,3,1]) (cc 55 (w .skip) (ee 2))) (s (B 3 (s (O 58 [f 3 1,l 1 58,m 3,ix 4 59 60,f 3 61,l 1 62,m 4,ix 1 63 64,l 1 65,ln 0 66,gti 67 20]) (c 68 (r (O 2 [i 0]))))) (O 56 [m 4,adi 56 1,d 4 (m 57)])))
def w165_L1:WCode:=.loop ⟨true,[4,3,1],[]⟩ w165_B1
def w165_B0:WCode:=zd (s (s (Q 22 [m 3,f 3 1,l 1 23,ln 1 24,lt 22 25] [26,3,1]) (cc 26 (w .skip) (ee 0))) (s (bk 1 (s (s (O 29 [f 3 1,l 1 29,m 3,ix 4 30 31,f 2 32,l 1 33,ln 0 34,gti 35 70,m 36,z 37 (f 3 1),z 37 (l 1 38),z 37 (m 3),z 37 (ix 4 39 40),z 37 (f 3 41),z 37 (l 1 42),z 37 (ln 1 43),z 37 (gti 44 12),po 37 45]) (c 46 (r (O 2 [i 0])))) (s (O 4 [i 0]) (bk 2 w165_L1 ⟨true,[3,1],[]⟩))) ⟨true,[3,1],[]⟩) w165_c1))
def w165_L0:WCode:=.loop ⟨true,[3,1],[]⟩ w165_B0
def w165:WFn:=⟨1,[.tmp 2],zd (s (O 1 [bx 0,i 0]) (s (s (O 5 [f 0 1,f 1 5,l 1 6,ln 1 7,gti 8 40,m 9,z 10 (f 2 1),z 10 (l 1 11),z 10 (ln 1 12),z 10 (gti 13 40),po 10 14,m 15,z 16 (f 3 1),z 16 (l 1 17),z 16 (ln 1 18),z 16 (gti 19 20),po 16 20]) (c 21 (r (O 2 [i 0])))) (s (s (O 3 [i 0]) (bk 0 w165_L0 ⟨true,[],[]⟩)) w165_c0)))⟩
@[simp] theorem w165_E1:ZL w165_L1 w165_B1 ⟨true,[4,3,1],[]⟩:=ck_lp rfl
noncomputable abbrev w165_K1 (C:WProg) (s:WSt):Option AV:=CK C 0 (pureFin [.tmp 2]) [.sq w165_L1,.bk 2 ⟨true,[3,1],[]⟩,.bk 1 ⟨true,[3,1],[]⟩,.sq w165_c1,.sq w165_L0,.bk 0 ⟨true,[],[]⟩,.sq w165_c0] w165_B1 s
@[simp] theorem w165_E0:ZL w165_L0 w165_B0 ⟨true,[3,1],[]⟩:=ck_lp rfl
noncomputable abbrev w165_K0 (C:WProg) (s:WSt):Option AV:=CK C 0 (pureFin [.tmp 2]) [.sq w165_L0,.bk 0 ⟨true,[],[]⟩,.sq w165_c0] w165_B0 s
def w166:WFn:=⟨0,[.tmp 0],zd (s (O 0 [ff]) (s (O 2 [E (.build [.int .u8 0,.int .i64 0,.int .i64 0,.int .i64 0,.ro 4 [] true] [(0,1,.c (.int .u8 3)),(2,1,N 1),(3,1,N 2)]),E (.buildS [.int .u64 0] 1 [(0,.c (.int .u64 2))]),ca 328 [3],E (.build [.int .u8 0,.int .i64 0,.int .i64 0,.int .i64 0,.ro 4 [] true] [(0,1,.c (.int .u8 4)),(4,1,T 4)]),E (.buildS [.int .u8 0,.int .i64 0,.int .i64 0,.int .i64 0,.ro 4 [] true] 2 [(0,T 2),(1,T 5)]),d 1 (m 6)]) (s (s (Q 7 [E (.call 330 [N 0,N 1]),E (.buildS [.int .u64 0] 1 [(0,.c (.int .u64 9))]),E (.call 331 [N 2,T 8]),E (.buildS [.int .u8 0,.int .i64 0,.int .i64 0,.int .i64 0,.ro 4 [] true] 2 [(0,T 7),(1,T 9)]),E (.buildS [.int .i64 0] 3 [(0,N 1),(1,N 2),(2,N (-1))]),E (.buildS [.int .i64 0] 3 [(0,N 0),(1,N 0),(2,N 1)]),ca 329 [10,11,12],m 1,E (.buildS [.int .i64 0] 3 [(0,N 1),(1,N 2),(2,N 0)]),E (.buildS [.int .i64 0] 3 [(0,N 1),(1,N 0),(2,N 0)]),ca 329 [14,15,16],E (.bin .mul (T 13) (T 17)),E (.call 330 [N 0,N 1]),E (.buildS [.int .u64 0] 1 [(0,.c (.int .u64 1))]),E (.call 331 [N 0,T 20]),E (.buildS [.int .u8 0,.int .i64 0,.int .i64 0,.int .i64 0,.ro 4 [] true] 2 [(0,T 19),(1,T 21)]),E (.buildS [.int .i64 0] 3 [(0,N (-1)),(1,N 1),(2,N 2)]),E (.buildS [.int .i64 0] 3 [(0,N 1),(1,N 0),(2,N 0)]),ca 329 [22,23,24],E (.bin .mul (T 18) (T 25)),eqi 26 0] [27]) (c 27 (r (O 0 [ff])))) (s (s (O 28 [E (.buildS [.int .u64 0] 2 [(0,.c (.int .u64 5)),(1,.c (.int .u64 6))]),E (.call 331 [N 1,T 28]),E (.buildS [.int .u64 0] 1 [(0,.c (.int .u64 7))]),E (.call 331 [N 2,T 30]),E (.call 330 [N 0,N 0]),E (.build [.int .u8 0,.int .i64 0,.int .i64 0,.int .i64 0,.ro 4 [] true] [(0,1,.c (.int .u8 3)),(1,1,N 3),(2,1,N 1),(3,1,N 3)]),E (.buildS [.int .u8 0,.int .i64 0,.int .i64 0,.int .i64 0,.ro 4 [] true] 4 [(0,T 29),(1,T 31),(2,T 32),(3,T 33)]),E (.buildS [.int .u64 0] 3 [(0,.c (.int .u64 5)),(1,.c (.int .u64 7)),(2,.c (.int .u64 6))]),E (.call 331 [N 1,T 35]),E (.buildS [.int .u8 0,.int .i64 0,.int .i64 0,.int .i64 0,.ro 4 [] true] 1 [(0,T 36)]),ca 332 [34,37],eqi 38 0]) (c 39 (r (O 0 [ff])))) (s (s (Q 40 [E (.call 330 [N 4,N 2]),E (.call 330 [N 3,N 1]),E (.buildS [.int .u8 0,.int .i64 0,.int .i64 0,.int .i64 0,.ro 4 [] true] 2 [(0,T 40),(1,T 41)]),E (.call 330 [N 3,N 3]),E (.buildS [.int .u8 0,.int .i64 0,.int .i64 0,.int .i64 0,.ro 4 [] true] 1 [(0,T 43)]),ca 332 [42,44],E (.call 330 [N 4,N 2]),E (.call 330 [N 4,N 1]),E (.buildS [.int .u8 0,.int .i64 0,.int .i64 0,.int .i64 0,.ro 4 [] true] 2 [(0,T 46),(1,T 47)]),E (.call 330 [N 4,N 3]),E (.buildS [.int .u8 0,.int .i64 0,.int .i64 0,.int .i64 0,.ro 4 [] true] 1 [(0,T 49)]),ca 332 [48,50],E (.bin .mul (T 45) (T 51)),E (.call 330 [N 4,N 2]),E (.call 330 [N 2,N 1]),E (.buildS [.int .u8 0,.int .i64 0,.int .i64 0,.int .i64 0,.ro 4 [] true] 2 [(0,T 53),(1,T 54)]),E (.call 330 [N 4,N 2]),E (.call 330 [N 2,N 1]),E (.buildS [.int .u8 0,.int .i64 0,.int .i64 0,.int .i64 0,.ro 4 [] true] 2 [(0,T 56),(1,T 57)]),ca 332 [55,58],E (.bin .mul (T 52) (T 59)),eqi 60 0] [61]) (c 61 (r (O 0 [ff])))) (r (O 62 [E (.call 330 [N 0,N 1]),E (.buildS [.int .u64 0] 2 [(0,.c (.int .u64 1)),(1,.c (.int .u64 2))]),ca 328 [63],E (.build [.int .u8 0,.int .i64 0,.int .i64 0,.int .i64 0,.ro 4 [] true] [(0,1,.c (.int .u8 5)),(4,1,T 64)]),E (.buildS [.int .u64 0] 1 [(0,.c (.int .u64 3))]),E (.call 331 [N 1,T 66]),E (.call 330 [N 0,N 1]),E (.buildS [.int .u8 0,.int .i64 0,.int .i64 0,.int .i64 0,.ro 4 [] true] 4 [(0,T 62),(1,T 65),(2,T 67),(3,T 68)]),E (.buildS [.int .u64 0] 2 [(0,.c (.int .u64 3)),(1,.c (.int .u64 2))]),ca 328 [70],E (.build [.int .u8 0,.int .i64 0,.int .i64 0,.int .i64 0,.ro 4 [] true] [(0,1,.c (.int .u8 5)),(4,1,T 71)]),E (.buildS [.int .u8 0,.int .i64 0,.int .i64 0,.int .i64 0,.ro 4 [] true] 1 [(0,T 72)]),ca 332 [69,73],eqi 74 1,d 0 (m 75)])))))))⟩
def w167_c0:WCode:=zd (r (O 2 [d 84 (m 5),m 84,i 0]))
def w167_B0:WCode:=zd (s (s (Q 29 [m 6,m 0,ln 1 30,lt 29 31] [32,6,5,0]) (cc 32 (w .skip) (ee 2))) (s (B 3 (s (s (O 35 [m 0,m 6,ix 5 35 36,h 5 37,ca 334 [38],eqi 39 1]) (c 40 (ee 3))) (s (s (O 41 [m 0,m 6,ix 5 41 42,f 0 43,l 1 44,E (.bin .eql (T 45) (.c (.int .u8 5)))]) (c 46 (s (O 47 [m 0,m 6,ix 5 47 48,h 5 49,E (.buildS [.int .u8 0,.int .i64 0,.int .i64 0,.int .i64 0,.ro 4 [] true] 1 [(0,T 50)]),d 5 (m 51)]) (ee 3)))) (s (s (O 52 [m 5,ln 1 52,gti 53 0]) (c 54 (s (U 56 [m 5,m 5,ln 1 57,sbi 58 1,ix 5 56 59,h 5 60,m 0,m 6,ix 5 62 63,h 5 64,ca 335 [61,65],d 55 (m 66),ex 0 55,ex 1 55,d 7 (E (.alloc [.int .u8 0,.int .i64 0,.int .i64 0,.int .i64 0,.ro 4 [] true])),n (st 5 7 67),d 8 (m 68)] [(2,14),(5,14),(9,14),(10,14)] [8,7,6,5,0]) (s (O 69 [m 8,eqi 69 1]) (c 70 (s (O 71 [m 5,m 5,ln 1 72,sbi 73 1,h 5 7,ix 5 71 74,n (st 5 76 75)]) (ee 3))))))) (O 77 [m 5,m 0,m 6,ix 5 78 79,h 5 80,E (.buildS [.int .u8 0,.int .i64 0,.int .i64 0,.int .i64 0,.ro 4 [] true] 1 [(0,T 81)]),E (.app [.int .u8 0,.int .i64 0,.int .i64 0,.int .i64 0,.ro 4 [] true] 56 false (T 77) (T 82)),d 5 (m 83)]))))) (O 33 [m 6,adi 33 1,d 6 (m 34)])))
def w167_L0:WCode:=.loop ⟨true,[6,5,0],[]⟩ w167_B0
def w167_c1:WCode:=zd (s (R 5 [E (.mv (.c (.ro 5 [] true)))] ⟨true,[5,0],[(5,5)]⟩) (s (s (O 6 [i 0]) (bk 2 w167_L0 ⟨true,[5],[]⟩)) w167_c0))
def w167_B1:WCode:=zd (s (s (O 12 [m 4,m 0,ln 1 13,lt 12 14]) (cc 15 (w .skip) (ee 0))) (s (B 1 (s (O 18 [m 0,m 4,ix 5 18 19,h 5 20,ca 333 [21],gti 22 0]) (c 23 (r (O 24 [m 0,m 4,ix 5 24 25,h 5 26,ca 333 [27],d 2 (E (.mv (.c (.ro 5 [] true)))),d 3 (m 28)]))))) (O 16 [m 4,adi 16 1,d 4 (m 17)])))
def w167_L1:WCode:=.loop ⟨true,[4,0],[]⟩ w167_B1
def w167:WFn:=⟨1,[.tmp 2,.tmp 3],zd (s (O 2 [E (.mv (.c (.ro 5 [] true))),i 0]) (s (s (O 9 [m 0,ln 1 9,gti 10 32]) (c 11 (r (Q 2 [E (.mv (.c (.ro 5 [] true))),i 3] [3,2])))) (s (s (O 4 [i 0]) (bk 0 w167_L1 ⟨true,[0],[]⟩)) w167_c1)))⟩
@[simp] theorem w167_E0:ZL w167_L0 w167_B0 ⟨true,[6,5,0],[]⟩:=ck_lp rfl
noncomputable abbrev w167_K0 (C:WProg) (s:WSt):Option AV:=CK C 0 (pureFin [.tmp 2,.tmp 3]) [.sq w167_L0,.bk 2 ⟨true,[5],[]⟩,.sq w167_c0] w167_B0 s
@[simp] theorem w167_E1:ZL w167_L1 w167_B1 ⟨true,[4,0],[]⟩:=ck_lp rfl
noncomputable abbrev w167_K1 (C:WProg) (s:WSt):Option AV:=CK C 0 (pureFin [.tmp 2,.tmp 3]) [.sq w167_L1,.bk 0 ⟨true,[0],[]⟩,.sq w167_c1] w167_B1 s
def w168_c0:WCode:=zd (r (O 2 [d 86 (m 7),m 86,i 0]))
def w168_B0:WCode:=zd (s (O 73 [lt 72 71]) (s (cc 73 (w .skip) (ee 5)) (s (B 6 (s (O 74 [m 72,d 12 (m 74)]) (O 75 [m 7,m 12,m 7,m 12,ix 5 77 78,f 4 79,l 1 80,ca 340 [81],ix 5 75 76,f 4 83,n (st 1 84 82)]))) (O 85 [adi 72 1,d 72 (m 85)]))))
def w168_L0:WCode:=.loop ⟨true,[72,71,7],[]⟩ w168_B0
def w168_c1:WCode:=zd (s (Q 68 [m 7,ca 3007 [68],d 7 (m 69)] [7]) (s (s (O 70 [m 7,ln 1 70,i 0]) (bk 5 w168_L0 ⟨true,[7],[]⟩)) w168_c0))
def w168_B1:WCode:=zd (s (O 31 [lt 30 29]) (s (cc 31 (w .skip) (ee 2)) (s (B 3 (s (O 32 [ix 5 28 30,h 5 32,d 9 (E (.alloc [.int .u8 0,.int .i64 0,.int .i64 0,.int .i64 0,.ro 4 [] true])),n (st 5 9 33)]) (s (B 4 (s (O 35 [h 5 9,ca 337 [35],d 34 (m 36)]) (cc 34 (ee 3) (s (O 38 [f 0 9,l 1 38,E (.bin .eql (T 39) (.c (.int .u8 5))),d 37 (m 40)]) (cc 37 (R 7 [E (.mv (.c (.ro 5 [] true)))] ⟨true,[30,29,28,9,7],[(7,5)]⟩) (s (O 42 [m 7,ln 1 42,gti 43 0,d 41 (m 44)]) (c 41 (s (U 46 [m 7,m 7,ln 1 47,sbi 48 1,ix 5 46 49,h 5 50,h 5 9,ca 338 [51,52],d 45 (m 53),ex 0 45,ex 1 45,d 10 (E (.alloc [.int .u8 0,.int .i64 0,.int .i64 0,.int .i64 0,.ro 4 [] true])),n (st 5 10 54),d 11 (m 55)] [(2,11),(5,11),(6,11),(7,11)] [30,29,28,11,10,9,7]) (s (O 56 [m 11]) (c 56 (s (O 57 [m 7,m 7,ln 1 58,sbi 59 1,h 5 10,ix 5 57 60,n (st 5 62 61)]) (ee 3)))))))))))) (O 63 [m 7,h 5 9,E (.buildS [.int .u8 0,.int .i64 0,.int .i64 0,.int .i64 0,.ro 4 [] true] 1 [(0,T 64)]),E (.app [.int .u8 0,.int .i64 0,.int .i64 0,.int .i64 0,.ro 4 [] true] 56 false (T 63) (T 65)),d 7 (m 66)])))) (O 67 [adi 30 1,d 30 (m 67)]))))
def w168_L1:WCode:=.loop ⟨true,[30,29,28,7],[]⟩ w168_B1
def w168_c2:WCode:=zd (s (R 7 [E (.mv (.c (.ro 5 [] true)))] ⟨true,[7,0],[(7,5)]⟩) (s (s (O 28 [m 0,ln 1 28,i 0]) (bk 2 w168_L1 ⟨true,[7],[]⟩)) w168_c1))
def w168_B2:WCode:=zd (s (O 19 [lt 18 17]) (s (cc 19 (w .skip) (ee 0)) (s (B 1 (s (O 20 [ix 5 16 18,h 5 20,d 5 (E (.alloc [.int .u8 0,.int .i64 0,.int .i64 0,.int .i64 0,.ro 4 [] true])),n (st 5 5 21)]) (s (O 22 [h 5 5,ca 336 [22],d 6 (m 23)]) (s (O 24 [m 6,nei 24 0]) (c 25 (r (Q 2 [d 26 (m 6),E (.mv (.c (.ro 5 [] true))),m 26] [3,2]))))))) (O 27 [adi 18 1,d 18 (m 27)]))))
def w168_L2:WCode:=.loop ⟨true,[18,17,16,0],[]⟩ w168_B2
def w168:WFn:=⟨1,[.tmp 2,.tmp 3],zd (s (O 2 [E (.mv (.c (.ro 5 [] true))),i 0]) (s (s (O 13 [m 0,ln 1 13,gti 14 32]) (c 15 (r (O 2 [E (.mv (.c (.ro 5 [] true))),i 3])))) (s (s (O 16 [m 0,ln 1 16,i 0]) (bk 0 w168_L2 ⟨true,[0],[]⟩)) w168_c2)))⟩
@[simp] theorem w168_E0:ZL w168_L0 w168_B0 ⟨true,[72,71,7],[]⟩:=ck_lp rfl
noncomputable abbrev w168_K0 (C:WProg) (s:WSt):Option AV:=CK C 0 (pureFin [.tmp 2,.tmp 3]) [.sq w168_L0,.bk 5 ⟨true,[7],[]⟩,.sq w168_c0] w168_B0 s
@[simp] theorem w168_E1:ZL w168_L1 w168_B1 ⟨true,[30,29,28,7],[]⟩:=ck_lp rfl
noncomputable abbrev w168_K1 (C:WProg) (s:WSt):Option AV:=CK C 0 (pureFin [.tmp 2,.tmp 3]) [.sq w168_L1,.bk 2 ⟨true,[7],[]⟩,.sq w168_c1] w168_B1 s
@[simp] theorem w168_E2:ZL w168_L2 w168_B2 ⟨true,[18,17,16,0],[]⟩:=ck_lp rfl
noncomputable abbrev w168_K2 (C:WProg) (s:WSt):Option AV:=CK C 0 (pureFin [.tmp 2,.tmp 3]) [.sq w168_L2,.bk 0 ⟨true,[0],[]⟩,.sq w168_c2] w168_B2 s
def w169_c0:WCode:=zd (r (O 4 [i 1]))
def w169_B0:WCode:=zd (s (s (O 11 [m 5,m 0,ln 1 12,lt 11 13]) (cc 14 (w .skip) (ee 0))) (s (B 1 (s (V 17 [m 0,m 5,ix 5 17 18,h 5 19,m 1,m 5,ix 5 21 22,h 5 23,ca 341 [20,24],eqi 25 0] [] ⟨false,[],[]⟩) (c 26 (r (O 4 [i 0]))))) (O 15 [m 5,adi 15 1,d 5 (m 16)])))
def w169_L0:WCode:=.loop ⟨true,[5,1,0],[]⟩ w169_B0
def w169:WFn:=⟨2,[.tmp 4],zd (s (O 4 [i 0]) (s (s (Q 6 [m 0,ln 1 6,m 1,ln 1 8,ne 7 9] [10,1,0]) (c 10 (r (O 4 [i 0])))) (s (s (O 5 [i 0]) (bk 0 w169_L0 ⟨true,[],[]⟩)) w169_c0)))⟩
@[simp] theorem w169_E0:ZL w169_L0 w169_B0 ⟨true,[5,1,0],[]⟩:=ck_lp rfl
noncomputable abbrev w169_K0 (C:WProg) (s:WSt):Option AV:=CK C 0 (pureFin [.tmp 4]) [.sq w169_L0,.bk 0 ⟨true,[],[]⟩,.sq w169_c0] w169_B0 s
def w170_c0:WCode:=zd (r (O 36 [m 1,m 2,ln 1 37,d 6 (m 36),d 7 (m 38),d 8 (i 0)]))
def w170_B0:WCode:=zd (s (s (O 15 [m 9,m 2,ln 1 16,lt 15 17]) (cc 18 (w .skip) (ee 0))) (s (B 1 (s (U 22 [h 2 3,m 1,m 2,m 9,ix 5 24 25,h 5 26,ca 342 [22,23,27],d 21 (m 28),ex 0 21,ex 1 21,d 10 (m 29),d 11 (m 30)] [] [11,10,9,3,2]) (s (s (O 31 [m 11,gti 31 0]) (c 32 (r (O 6 [d 33 (m 9),d 34 (m 11),E (.mv (.c (.ro 6 [] true))),m 33,m 34])))) (O 35 [m 10,d 1 (m 35)])))) (O 19 [m 9,adi 19 1,d 9 (m 20)])))
def w170_L0:WCode:=.loop ⟨true,[9,3,2,1],[]⟩ w170_B0
def w170:WFn:=⟨3,[.tmp 6,.tmp 7,.tmp 8],zd (s (O 6 [d 3 (bx 0),E (.mv (.c (.ro 6 [] true))),i 0,i 0]) (s (s (O 12 [m 2,ln 1 12,gti 13 32]) (c 14 (r (O 6 [E (.mv (.c (.ro 6 [] true))),i 0,i 3])))) (s (s (O 9 [i 0]) (bk 0 w170_L0 ⟨true,[2,1],[]⟩)) w170_c0)))⟩
@[simp] theorem w170_E0:ZL w170_L0 w170_B0 ⟨true,[9,3,2,1],[]⟩:=ck_lp rfl
noncomputable abbrev w170_K0 (C:WProg) (s:WSt):Option AV:=CK C 0 (pureFin [.tmp 6,.tmp 7,.tmp 8]) [.sq w170_L0,.bk 0 ⟨true,[2,1],[]⟩,.sq w170_c0] w170_B0 s
def w172_c0:WCode:=zd (r (O 4 [i 1]))
def w172_B0:WCode:=zd (s (s (O 11 [m 5,m 0,ln 1 12,lt 11 13]) (cc 14 (w .skip) (ee 0))) (s (B 1 (s (U 17 [m 0,m 5,ix 6 17 18,f 4 19,l 1 20,m 1,m 5,ix 6 22 23,f 4 24,l 1 25,ne 21 26,m 27,z 28 (m 0),z 28 (m 5),z 28 (ix 6 29 30),z 28 (f 5 31),z 28 (l 1 32),z 28 (m 1),z 28 (m 5),z 28 (ix 6 34 35),z 28 (f 5 36),z 28 (l 1 37),z 28 (E (.eqv 5 [] true (T 33) (T 38))),po 28 39,m 40,z 41 (m 0),z 41 (m 5),z 41 (ix 6 42 43),z 41 (f 0 44),z 41 (h 4 45),z 41 (m 1),z 41 (m 5),z 41 (ix 6 47 48),z 41 (f 0 49),z 41 (h 4 50),z 41 (ca 112 [46,51]),z 41 (eqi 52 0),po 41 53] [] [54,5,1,0]) (c 54 (r (O 4 [i 0]))))) (O 15 [m 5,adi 15 1,d 5 (m 16)])))
def w172_L0:WCode:=.loop ⟨true,[5,1,0],[]⟩ w172_B0
def w172:WFn:=⟨2,[.tmp 4],zd (s (O 4 [i 0]) (s (s (O 6 [m 0,ln 1 6,m 1,ln 1 8,ne 7 9]) (c 10 (r (O 4 [i 0])))) (s (s (O 5 [i 0]) (bk 0 w172_L0 ⟨true,[],[]⟩)) w172_c0)))⟩
@[simp] theorem w172_E0:ZL w172_L0 w172_B0 ⟨true,[5,1,0],[]⟩:=ck_lp rfl
noncomputable abbrev w172_K0 (C:WProg) (s:WSt):Option AV:=CK C 0 (pureFin [.tmp 4]) [.sq w172_L0,.bk 0 ⟨true,[],[]⟩,.sq w172_c0] w172_B0 s
def w454_c0:WCode:=zd (r (O 94 [h 2 10,m 12,f 0 9,l 1 96,ca 360 [94,95,97],m 7,n (st 4 6 98),d 7 (m 99),d 8 (i 0)]))
def w454_c1:WCode:=zd (O 93 [adi 46 1,d 46 (m 93)])
def w454_c2:WCode:=zd (s (O 87 [h 2 10,h 2 15,ca 52 [87,88],d 86 (m 89),ex 0 86,ex 1 86,n (st 2 10 90)]) (O 92 [m 17,d 12 (m 92)]))
def w454_B1:WCode:=zd (s (O 65 [lt 64 63]) (s (cc 65 (w .skip) (ee 2)) (s (B 3 (s (O 66 [m 64,ix 1 62 64,l 1 67,d 18 (m 66),d 19 (m 68)]) (Q 69 [m 17,m 18,m 19,lti 71 0,m 72,z 73 (m 12),z 73 (m 19),z 73 (ix 1 74 75),z 73 (l 1 76),po 73 77,m 78,z 79 (m 16),z 79 (m 18),z 79 (E (.callv (T 80) [T 81])),po 79 82,ix 1 69 70,n (st 1 84 83)] [64,63,62,46,45,44,17,16,15,12,10,9,7,6]))) (O 85 [adi 64 1,d 64 (m 85)]))))
def w454_L1:WCode:=.loop ⟨true,[64,63,62,46,45,44,17,16,15,12,10,9,7,6],[]⟩ w454_B1
def w454_B0:WCode:=zd (s (O 47 [lt 46 45]) (s (cc 47 (w .skip) (ee 0)) (s (bk 1 (s (O 48 [ix 5 44 46,h 5 48,d 14 (E (.alloc [.int .u8 0,.int .i64 0,.int .i64 0,.int .i64 0,.ro 4 [] true])),n (st 5 14 49)]) (s (Q 51 [h 5 14,m 12,ln 1 52,ca 525 [51,53],d 50 (m 54),ex 0 50,ex 1 50,d 15 (E (.alloc [.int .i64 0,.ro 1 [] true])),n (st 2 15 55),d 16 (m 56)] [46,45,44,16,15,12,10,9,7,6]) (s (O 57 [f 1 15,l 1 57,ln 1 58,E (.mksl [.bool false] 1 (T 59) (T 59)),d 17 (m 60)]) (s (s (O 61 [f 1 15,l 1 61,ln 1 62,i 0]) (bk 2 w454_L1 ⟨true,[46,45,44,17,15,10,9,7,6],[]⟩)) w454_c2)))) ⟨true,[46,45,44,12,10,9,7,6],[]⟩) w454_c1)))
def w454_L0:WCode:=.loop ⟨true,[46,45,44,12,10,9,7,6],[]⟩ w454_B0
def w454:WFn:=⟨3,[.cell 6 4 true,.tmp 7,.tmp 8],zd (s (O 6 [d 3 (bx 0),d 4 (bx 1),E (.alloc [.int .i64 0,.ro 1 [] true,.ro 1 [] true,.ro 4 [] true]),i 0,i 0]) (s (O 21 [h 2 3,h 1 4,m 2,ca 171 [21,22,23],d 20 (m 24),ex 0 20,ex 1 20,ex 2 20,d 9 (E (.alloc [.ro 6 [] true])),n (st 1 9 25),d 7 (m 26),d 8 (m 27)]) (s (s (O 28 [m 8,nei 28 0]) (c 29 (r (Q 30 [E (.build [.int .i64 0,.ro 1 [] true,.ro 1 [] true,.ro 4 [] true] []),m 7,m 8,n (st 4 6 30),d 7 (m 31),d 8 (m 32)] [8,7,6])))) (s (O 34 [f 0 4,l 1 34,ln 1 35,ca 65 [36],d 33 (m 37),ex 0 33,ex 1 33,d 10 (E (.alloc [.int .i64 0,.ro 1 [] true])),n (st 2 10 38),d 11 (m 39)]) (s (O 40 [f 0 4,l 1 40,ln 1 41,E (.mksl [.bool false] 1 (T 42) (T 42)),d 12 (m 43)]) (s (s (O 44 [m 2,ln 1 44,i 0]) (bk 0 w454_L0 ⟨true,[12,10,9,7,6],[]⟩)) w454_c0))))))⟩
@[simp] theorem w454_E1:ZL w454_L1 w454_B1 ⟨true,[64,63,62,46,45,44,17,16,15,12,10,9,7,6],[]⟩:=ck_lp rfl
@[simp] theorem w454_E0:ZL w454_L0 w454_B0 ⟨true,[46,45,44,12,10,9,7,6],[]⟩:=ck_lp rfl
def w111_c0:WCode:=zd (r (O 25 [m 3,d 2 (m 25)]))
def w111_B0:WCode:=zd (s (O 11 [lt 10 9]) (s (cc 11 (w .skip) (ee 0)) (s (B 1 (s (O 12 [ix 6 8 10,h 6 12,d 5 (E (.alloc [.int .u64 0,.int .u8 0,.str [],.ro 1 [] true,.int .i64 0,.bool false])),n (st 6 5 13)]) (s (O 14 [f 4 5,l 1 14,E (.mx (T 15) (N 0)),d 6 (m 16)]) (s (s (O 17 [m 6,m 3,E (.bin .sub (N 4611686018427387904) (T 18)),gt 17 19]) (c 20 (r (O 2 [i 4611686018427387905])))) (O 21 [m 3,m 6,ad 21 22,d 3 (m 23)]))))) (O 24 [adi 10 1,d 10 (m 24)]))))
def w111_L0:WCode:=.loop ⟨true,[10,9,8,3],[]⟩ w111_B0
def w111:WFn:=⟨1,[.tmp 2],zd (s (O 1 [bx 0,i 0]) (s (O 3 [i 0]) (s (s (Q 7 [f 0 1,l 1 7,ln 1 8,i 0] [10,9,8,3]) (bk 0 w111_L0 ⟨true,[3],[]⟩)) w111_c0)))⟩
@[simp] theorem w111_E0:ZL w111_L0 w111_B0 ⟨true,[10,9,8,3],[]⟩:=ck_lp rfl
noncomputable abbrev w111_K0 (C:WProg) (s:WSt):Option AV:=CK C 0 (pureFin [.tmp 2]) [.sq w111_L0,.bk 0 ⟨true,[3],[]⟩,.sq w111_c0] w111_B0 s
def w332:WFn:=⟨2,[.tmp 4],zd (s (O 4 [i 0]) (s (O 8 [m 0,ca 168 [8],d 7 (m 9),ex 0 7,ex 1 7,d 5 (m 10),d 6 (m 11)]) (s (s (O 12 [m 6,nei 12 0]) (c 13 (r (O 4 [i 0])))) (r (O 14 [m 5,m 1,ca 169 [14,15],d 4 (m 16)])))))⟩
def w330:WFn:=⟨2,[.cell 4 5 true],zd (s (O 4 [E (.alloc [.int .u8 0,.int .i64 0,.int .i64 0,.int .i64 0,.ro 4 [] true])]) (r (O 5 [m 0,m 1,E (.build [.int .u8 0,.int .i64 0,.int .i64 0,.int .i64 0,.ro 4 [] true] [(0,1,.c (.int .u8 2)),(1,1,T 5),(2,1,T 6)]),n (st 5 4 7)])))⟩
def w328_c0:WCode:=zd (r (O 19 [m 3,d 2 (m 19)]))
def w328_B0:WCode:=zd (s (s (O 5 [m 4,m 0,ln 1 6,lt 5 7]) (cc 8 (w .skip) (ee 0))) (s (B 1 (O 11 [m 3,m 0,m 4,ix 1 12 13,l 1 14,E (.build [.int .u64 0,.int .u8 0,.str [],.ro 1 [] true] [(0,1,T 15)]),E (.buildS [.int .u64 0,.int .u8 0,.str [],.ro 1 [] true] 1 [(0,T 16)]),E (.app [.int .u64 0,.int .u8 0,.str [],.ro 1 [] true] 56 false (T 11) (T 17)),d 3 (m 18)])) (O 9 [m 4,adi 9 1,d 4 (m 10)])))
def w328_L0:WCode:=.loop ⟨true,[4,3,0],[]⟩ w328_B0
def w328:WFn:=⟨1,[.tmp 2],zd (s (O 2 [E (.mv (.c (.ro 4 [] true)))]) (s (R 3 [E (.mv (.c (.ro 4 [] true)))] ⟨true,[3,0],[(3,4)]⟩) (s (s (O 4 [i 0]) (bk 0 w328_L0 ⟨true,[3],[]⟩)) w328_c0)))⟩
@[simp] theorem w328_E0:ZL w328_L0 w328_B0 ⟨true,[4,3,0],[]⟩:=ck_lp rfl
def w331:WFn:=⟨2,[.cell 4 5 true],zd (s (O 4 [E (.alloc [.int .u8 0,.int .i64 0,.int .i64 0,.int .i64 0,.ro 4 [] true])]) (r (O 5 [m 0,m 1,ca 328 [6],E (.build [.int .u8 0,.int .i64 0,.int .i64 0,.int .i64 0,.ro 4 [] true] [(0,1,.c (.int .u8 1)),(1,1,T 5),(4,1,T 7)]),n (st 5 4 8)])))⟩
def w453:WFn:=⟨0,[.cell 0 2 true,.cell 1 1 true],zd (s (Q 0 [E (.alloc [.ro 9 [] true,.int .i64 0]),E (.alloc [.ro 6 [] true])] [1,0]) (s (O 5 [E (.build [.int .u8 0,.str [],.str [],.ro 3 [] true,.str [],.ro 6 [] true] [(0,1,.c (.int .u8 1)),(1,1,.c (.str [114,111,119]))]),E (.build [.int .u8 0,.str [],.str [],.ro 3 [] true,.str [],.ro 6 [] true,.int .i64 0,.bool false,.int .i64 0] [(0,6,T 5),(6,1,N 10)]),E (.buildS [.int .u8 0,.str [],.str [],.ro 3 [] true,.str [],.ro 6 [] true,.int .i64 0,.bool false,.int .i64 0] 1 [(0,T 6)]),E (.build [.ro 9 [] true,.int .i64 0] [(0,1,T 7),(1,1,N 1)]),d 2 (E (.alloc [.ro 9 [] true,.int .i64 0])),n (st 2 2 8)]) (s (O 10 [h 2 2,E (.build [.ro 6 [] true] []),E (.build [.int .u64 0,.int .u8 0,.str [],.ro 1 [] true] [(0,1,.c (.int .u64 1))]),E (.build [.int .u64 0,.int .u8 0,.str [],.ro 1 [] true] [(0,1,.c (.int .u64 2))]),E (.build [.int .u64 0,.int .u8 0,.str [],.ro 1 [] true] [(0,1,.c (.int .u64 3))]),E (.buildS [.int .u64 0,.int .u8 0,.str [],.ro 1 [] true] 3 [(0,T 12),(1,T 13),(2,T 14)]),ca 108 [10,11,15],d 9 (m 16),ex 0 9,ex 1 9,d 3 (E (.alloc [.ro 6 [] true])),n (st 1 3 17),d 4 (m 18)]) (r (V 19 [h 2 2,h 1 3,n (st 2 0 19),n (st 1 1 20)] [(1,2)] ⟨false,[],[]⟩)))))⟩
def w357_c0:WCode:=zd (r (O 4 [i 1]))
def w357_B0:WCode:=zd (s (s (O 11 [m 5,m 0,ln 1 12,lt 11 13]) (cc 14 (w .skip) (ee 0))) (s (B 1 (s (V 17 [m 0,m 5,ix 4 17 18,h 4 19,m 1,m 5,ix 4 21 22,h 4 23,ca 112 [20,24],eqi 25 0] [] ⟨false,[],[]⟩) (c 26 (r (O 4 [i 0]))))) (O 15 [m 5,adi 15 1,d 5 (m 16)])))
def w357_L0:WCode:=.loop ⟨true,[5,1,0],[]⟩ w357_B0
def w357:WFn:=⟨2,[.tmp 4],zd (s (O 4 [i 0]) (s (s (Q 6 [m 0,ln 1 6,m 1,ln 1 8,ne 7 9] [10,1,0]) (c 10 (r (O 4 [i 0])))) (s (s (O 5 [i 0]) (bk 0 w357_L0 ⟨true,[],[]⟩)) w357_c0)))⟩
@[simp] theorem w357_E0:ZL w357_L0 w357_B0 ⟨true,[5,1,0],[]⟩:=ck_lp rfl
noncomputable abbrev w357_K0 (C:WProg) (s:WSt):Option AV:=CK C 0 (pureFin [.tmp 4]) [.sq w357_L0,.bk 0 ⟨true,[],[]⟩,.sq w357_c0] w357_B0 s
def w56_c0:WCode:=zd (r (O 2 [i 0]))
def w56_B0:WCode:=zd (s (O 24 [lt 23 22]) (s (cc 24 (w .skip) (ee 1)) (s (B 2 (s (O 25 [ix 1 21 23,l 1 25,d 5 (m 26)]) (B 3 (s (Q 28 [m 5,lti 28 (-1),m 29,z 30 (m 5),z 30 (f 0 1),z 30 (l 1 32),z 30 (ge 31 33),po 30 34,d 27 (m 35)] [27,23,22,21,5,3,1]) (cc 27 (r (O 2 [i 4])) (s (O 37 [m 5,gei 37 0,m 38,y 39 (m 5),y 39 (E (.idxa 4096 1 (T 3) (T 40))),y 39 (l 1 41),pa 39 42,d 36 (m 43)]) (cc 36 (r (O 2 [i 8])) (s (O 45 [m 5,gei 45 0,d 44 (m 46)]) (c 44 (O 47 [m 5,E (.idxa 4096 1 (T 3) (T 47)),n (E (.store 1 (T 48) (.c (.bool true))))])))))))))) (O 49 [adi 23 1,d 23 (m 49)]))))
def w56_L0:WCode:=.loop ⟨true,[23,22,21,3,1],[]⟩ w56_B0
def w56:WFn:=⟨1,[.tmp 2],zd (s (O 1 [bx 0,i 0]) (s (B 0 (s (Q 7 [f 0 1,l 1 7,lti 8 0,d 6 (m 9)] [6,1]) (cc 6 (r (O 2 [i 1])) (s (O 11 [f 0 1,l 1 11,gti 12 4096,m 13,z 14 (f 1 1),z 14 (l 1 15),z 14 (ln 1 16),z 14 (gti 17 4096),po 14 18,d 10 (m 19)]) (c 10 (r (O 2 [i 3]))))))) (s (O 3 [E (.alloc (rep 4096 (.bool false)))]) (s (s (O 20 [f 1 1,l 1 20,ln 1 21,i 0]) (bk 1 w56_L0 ⟨true,[],[]⟩)) w56_c0))))⟩
@[simp] theorem w56_E0:ZL w56_L0 w56_B0 ⟨true,[23,22,21,3,1],[]⟩:=ck_lp rfl
noncomputable abbrev w56_K0 (C:WProg) (s:WSt):Option AV:=CK C 0 (pureFin [.tmp 2]) [.sq w56_L0,.bk 1 ⟨true,[],[]⟩,.sq w56_c0] w56_B0 s
def w126:WFn:=⟨1,[.tmp 2],zd (s (O 2 [E (.mv (.c (.ro 9 [] true)))]) (s (Q 6 [E (.build [.str [],.int .u8 0,.str []] [(0,1,.c (.str [110])),(1,1,.c (.int .u8 3))]),E (.build [.str [],.int .u8 0,.str []] [(0,1,.c (.str [116,101,120,116])),(1,1,.c (.int .u8 1))]),E (.buildS [.str [],.int .u8 0,.str []] 2 [(0,T 6),(1,T 7)]),E (.build [.int .u8 0,.str [],.str [],.ro 3 [] true,.str [],.ro 6 [] true] [(0,1,.c (.int .u8 3))]),E (.buildS [.int .u8 0,.str [],.str [],.ro 3 [] true,.str [],.ro 6 [] true] 1 [(0,T 9)]),E (.build [.int .u8 0,.str [],.str [],.ro 3 [] true,.str [],.ro 6 [] true] [(0,1,.c (.int .u8 1)),(1,1,.c (.str [114,111,119])),(3,1,T 8),(5,1,T 10)]),d 3 (E (.alloc [.int .u8 0,.str [],.str [],.ro 3 [] true,.str [],.ro 6 [] true])),n (st 6 3 11)] [3,0]) (s (O 12 [E (.build [.str [],.int .u8 0,.str []] [(0,1,.c (.str [105,100])),(1,1,.c (.int .u8 2))]),E (.buildS [.str [],.int .u8 0,.str []] 1 [(0,T 12)]),E (.build [.int .u8 0,.str [],.str [],.ro 3 [] true,.str [],.ro 6 [] true] [(0,1,.c (.int .u8 2)),(4,1,.c (.str [35]))]),E (.build [.int .u8 0,.str [],.str [],.ro 3 [] true,.str [],.ro 6 [] true] [(0,1,.c (.int .u8 4))]),E (.buildS [.int .u8 0,.str [],.str [],.ro 3 [] true,.str [],.ro 6 [] true] 2 [(0,T 14),(1,T 15)]),E (.build [.int .u8 0,.str [],.str [],.ro 3 [] true,.str [],.ro 6 [] true] [(0,1,.c (.int .u8 1)),(1,1,.c (.str [104,101,97,100])),(2,1,.c (.str [104])),(3,1,T 13),(5,1,T 16)]),d 4 (E (.alloc [.int .u8 0,.str [],.str [],.ro 3 [] true,.str [],.ro 6 [] true])),n (st 6 4 17)]) (s (O 18 [E (.build [.int .u8 0,.str [],.str [],.ro 3 [] true,.str [],.ro 6 [] true] [(0,1,.c (.int .u8 3))]),E (.buildS [.int .u8 0,.str [],.str [],.ro 3 [] true,.str [],.ro 6 [] true] 1 [(0,T 18)]),E (.build [.int .u8 0,.str [],.str [],.ro 3 [] true,.str [],.ro 6 [] true] [(0,1,.c (.int .u8 1)),(1,1,.c (.str [98])),(2,1,.c (.str [98,50])),(5,1,T 19)]),E (.build [.str [],.int .u8 0,.str []] [(0,1,.c (.str [111,102])),(1,1,.c (.int .u8 2))]),E (.buildS [.str [],.int .u8 0,.str []] 1 [(0,T 21)]),E (.build [.int .u8 0,.str [],.str [],.ro 3 [] true,.str [],.ro 6 [] true] [(0,1,.c (.int .u8 5)),(1,1,.c (.str [116,97,103])),(3,1,T 22)]),E (.buildS [.int .u8 0,.str [],.str [],.ro 3 [] true,.str [],.ro 6 [] true] 2 [(0,T 20),(1,T 23)]),E (.build [.int .u8 0,.str [],.str [],.ro 3 [] true,.str [],.ro 6 [] true] [(0,1,.c (.int .u8 1)),(1,1,.c (.str [114,111,119])),(5,1,T 24)]),d 5 (E (.alloc [.int .u8 0,.str [],.str [],.ro 3 [] true,.str [],.ro 6 [] true])),n (st 6 5 25)]) (r (Q 26 [h 6 3,m 0,E (.bin .rem (T 27) (.c (.int .u8 7))),E (.cvt .i64 (T 28)),E (.bin .add (N 10) (T 29)),m 0,E (.bin .rem (T 31) (.c (.int .u8 4))),E (.cvt .i64 (T 32)),E (.build [.int .u8 0,.str [],.str [],.ro 3 [] true,.str [],.ro 6 [] true,.int .i64 0,.bool false,.int .i64 0] [(0,6,T 26),(6,1,T 30),(8,1,T 33)]),h 6 4,m 0,E (.bin .rem (T 36) (.c (.int .u8 3))),E (.cvt .i64 (T 37)),E (.bin .add (N 6) (T 38)),m 0,E (.bin .quo (T 40) (.c (.int .u8 4))),E (.bin .rem (T 41) (.c (.int .u8 3))),E (.cvt .i64 (T 42)),E (.build [.int .u8 0,.str [],.str [],.ro 3 [] true,.str [],.ro 6 [] true,.int .i64 0,.bool false,.int .i64 0] [(0,6,T 35),(6,1,T 39),(7,1,.c (.bool true)),(8,1,T 43)]),h 6 5,m 0,E (.bin .rem (T 46) (.c (.int .u8 16))),E (.bin .eql (T 47) (.c (.int .u8 15))),m 0,E (.bin .quo (T 49) (.c (.int .u8 8))),E (.bin .rem (T 50) (.c (.int .u8 3))),E (.cvt .i64 (T 51)),E (.build [.int .u8 0,.str [],.str [],.ro 3 [] true,.str [],.ro 6 [] true,.int .i64 0,.bool false,.int .i64 0] [(0,6,T 45),(6,1,N 20),(7,1,T 48),(8,1,T 52)]),E (.buildS [.int .u8 0,.str [],.str [],.ro 3 [] true,.str [],.ro 6 [] true,.int .i64 0,.bool false,.int .i64 0] 3 [(0,T 34),(1,T 44),(2,T 53)]),d 2 (m 54)] [2]))))))⟩
def w270_c0:WCode:=zd (r (O 32 [m 3,d 2 (m 32)]))
def w270_B0:WCode:=zd (s (s (Q 6 [m 4,f 0 1,l 1 7,ln 1 8,lt 6 9,m 10,y 11 (m 4),y 11 (lti 12 12),pa 11 13] [14,4,3,1]) (cc 14 (w .skip) (ee 0))) (s (B 1 (s (O 17 [f 0 1,l 1 17,m 4,ix 4 18 19,h 4 20,ca 422 [21],d 5 (E (.alloc [.int .u64 0,.int .u8 0,.str [],.ro 1 [] true])),n (st 4 5 22)]) (s (O 23 [m 3,f 0 5,l 1 24,ca 423 [23,25],lti 26 0]) (c 27 (O 28 [m 3,h 4 5,E (.buildS [.int .u64 0,.int .u8 0,.str [],.ro 1 [] true] 1 [(0,T 29)]),E (.app [.int .u64 0,.int .u8 0,.str [],.ro 1 [] true] 56 false (T 28) (T 30)),d 3 (m 31)]))))) (O 15 [m 4,adi 15 1,d 4 (m 16)])))
def w270_L0:WCode:=.loop ⟨true,[4,3,1],[]⟩ w270_B0
def w270:WFn:=⟨1,[.tmp 2],zd (s (O 1 [bx 0,E (.mv (.c (.ro 4 [] true)))]) (s (R 3 [E (.mv (.c (.ro 4 [] true)))] ⟨true,[3,1],[(3,4)]⟩) (s (s (O 4 [i 0]) (bk 0 w270_L0 ⟨true,[3],[]⟩)) w270_c0)))⟩
@[simp] theorem w270_E0:ZL w270_L0 w270_B0 ⟨true,[4,3,1],[]⟩:=ck_lp rfl
noncomputable abbrev w270_K0 (C:WProg) (s:WSt):Option AV:=CK C 0 (pureFin [.tmp 2]) [.sq w270_L0,.bk 0 ⟨true,[3],[]⟩,.sq w270_c0] w270_B0 s
def w271:WFn:=⟨3,[.tmp 6],zd (s (O 3 [bx 0,bx 1,d 6 (i 0)]) (s (s (O 9 [h 4 4,f 0 3,l 1 10,ln 1 11,ca 424 [9,12],gti 13 0]) (c 14 (r (O 6 [i 6])))) (s (s (Q 15 [m 2,eqi 15 1] [16,4,3]) (c 16 (r (O 6 [i 8])))) (s (V 18 [f 0 3,l 1 18,f 1 4,l 1 20,ix 9 19 21,f 0 22,h 6 23,h 4 4,f 1 3,l 1 26,ca 425 [24,25,27],d 17 (m 28),ex 0 17,ex 1 17,d 7 (E (.alloc [.int .u8 0,.str [],.str [],.ro 2 [] true,.str [],.ro 6 [] true])),n (st 6 7 29),d 8 (m 30)] [(1,14),(3,14),(6,14),(7,14),(9,14),(10,14)] ⟨false,[],[]⟩) (s (s (O 31 [m 8,gti 31 0]) (c 32 (r (O 6 [i 14])))) (r (O 6 [i 0])))))))⟩
def w240:WFn:=⟨2,[.cell 4 6 true],zd (s (O 2 [bx 0,bx 1,E (.alloc [.int .u64 0,.int .u8 0,.str [],.ro 1 [] true,.int .i64 0,.bool false])]) (r (V 5 [h 4 3,f 0 2,l 1 6,f 1 3,l 1 8,ix 9 7 9,f 6 10,l 1 11,E (.build [.int .u64 0,.int .u8 0,.str [],.ro 1 [] true,.int .i64 0,.bool false] [(0,4,T 5),(4,1,T 12)]),n (st 6 4 13)] [] ⟨false,[],[]⟩)))⟩
def w223_c0:WCode:=zd (r (O 79 [h 1 3,ca 227 [79],d 4 (m 80)]))
def w223_B0:WCode:=zd (s (O 26 [lt 25 24]) (s (cc 26 (w .skip) (ee 0)) (s (B 1 (s (O 27 [ix 6 23 25,h 6 27,d 8 (E (.alloc [.int .u64 0,.int .u8 0,.str [],.ro 1 [] true,.int .i64 0,.bool false])),n (st 6 8 28)]) (s (s (O 29 [f 0 8,h 4 29,f 0 2,l 1 31,ln 1 32,ca 398 [30,33],d 9 (m 34)]) (s (O 35 [m 9,nei 35 0]) (c 36 (r (O 37 [m 9,d 4 (m 37)]))))) (s (s (Q 38 [m 6,f 0 8,f 0 39,l 1 40,E (.look 0 (.bool false) false (T 38) (T 41))] [42,25,24,23,8,6,3,2]) (c 42 (r (O 4 [i 8])))) (s (O 43 [m 6,f 0 8,f 0 44,l 1 45,n (E (.upd 0 (T 43) (T 46) (.c (.bool true))))]) (s (s (O 48 [h 2 2,f 0 8,h 4 49,ca 399 [48,50],d 47 (m 51),ex 0 47,ex 1 47,d 10 (E (.alloc [.int .u8 0,.str [],.str [],.ro 2 [] true,.str [],.ro 6 [] true])),n (st 6 10 52),d 11 (m 53)]) (s (O 54 [m 11,nei 54 0]) (c 55 (r (O 4 [i 14]))))) (s (U 56 [f 4 8,l 1 56,ca 225 [57],nt 58,m 59,z 60 (f 5 8),z 60 (l 1 61),z 60 (nt 62),z 60 (m 63),y 64 (f 4 8),y 64 (l 1 65),y 64 (f 0 2),y 64 (l 1 67),y 64 (f 0 8),y 64 (f 1 69),y 64 (l 1 70),y 64 (ix 9 68 71),y 64 (f 6 72),y 64 (l 1 73),y 64 (ne 66 74),z 60 (pa 64 75),po 60 76] [] [77,25,24,23,6,3,2]) (c 77 (r (O 4 [i 12])))))))))) (O 78 [adi 25 1,d 25 (m 78)]))))
def w223_L0:WCode:=.loop ⟨true,[25,24,23,6,3,2],[]⟩ w223_B0
def w223:WFn:=⟨2,[.tmp 4],zd (s (O 2 [bx 0,bx 1,i 0]) (s (s (O 12 [h 2 2,ca 115 [12],d 5 (m 13)]) (s (O 14 [m 5,nei 14 0]) (c 15 (r (O 16 [m 5,d 4 (m 16)]))))) (s (s (Q 17 [f 0 3,l 1 17,ln 1 18,gti 19 1024] [20,3,2]) (c 20 (r (O 4 [i 3])))) (s (O 21 [E .mkmap,d 6 (m 21)]) (s (s (O 22 [f 0 3,l 1 22,ln 1 23,i 0]) (bk 0 w223_L0 ⟨true,[3],[]⟩)) w223_c0)))))⟩
@[simp] theorem w223_E0:ZL w223_L0 w223_B0 ⟨true,[25,24,23,6,3,2],[]⟩:=ck_lp rfl
noncomputable abbrev w223_K0 (C:WProg) (s:WSt):Option AV:=CK C 0 (pureFin [.tmp 4]) [.sq w223_L0,.bk 0 ⟨true,[3],[]⟩,.sq w223_c0] w223_B0 s
def w110:WFn:=⟨4,[.cell 8 1 true,.tmp 9],zd (s (R 4 [bx 0,bx 1,bx 2,bx 3,E (.alloc [.ro 6 [] true]),i 0] ⟨true,[8,7,6,5,4],[(4,65536),(5,65536),(6,65536),(7,65536)]⟩) (r (V 10 [h 2 4,h 1 5,l 1 6,l 1 7,f 0 5,l 1 14,ln 1 15,ca 219 [12,13,16],E (.mkfn 222 [T 5,T 6,T 7]),E (.build [.bool false,.int .i64 0,.ro 4 [] true,.nilf,.nilf] [(0,1,T 17),(4,1,T 18)]),ca 216 [10,11,19],ex 0 20,ex 1 20,n (st 1 8 21),d 9 (m 22)] [(0,7),(1,7)] ⟨false,[],[]⟩)))⟩
def w343:WFn:=⟨3,[.cell 6 1 true,.tmp 7],zd (s (O 3 [bx 0,bx 1,bx 2,E (.alloc [.ro 6 [] true]),i 0]) (s (s (O 10 [h 2 3,h 1 4,ca 223 [10,11],d 8 (m 12)]) (s (O 13 [m 8,nei 13 0]) (c 14 (r (Q 15 [E (.build [.ro 6 [] true] []),m 8,n (st 1 6 15),d 7 (m 16)] [7,6]))))) (s (s (O 17 [h 5 5,ca 336 [17],d 9 (m 18)]) (s (O 19 [m 9,nei 19 0]) (c 20 (r (O 21 [E (.build [.ro 6 [] true] []),m 9,n (st 1 6 21),d 7 (m 22)]))))) (r (V 23 [ca 457 [],f 0 5,l 1 24,E (.idxv 6 6 true (T 23) (T 25)),E (.fldv 5 1 false (T 26)),h 2 3,h 1 4,h 5 5,E (.callv (T 27) [T 28,T 29,T 30]),ex 0 31,ex 1 31,n (st 1 6 32),d 7 (m 33)] [(0,2),(0,5),(0,6),(0,7)] ⟨false,[],[]⟩)))))⟩
def w342:WFn:=⟨3,[.tmp 6,.tmp 7],zd (s (O 5 [d 3 (bx 0),bx 2,E (.mv (.c (.ro 6 [] true))),i 0]) (s (s (O 8 [h 5 5,ca 333 [8],gti 9 0]) (c 10 (r (O 11 [h 5 5,ca 333 [11],d 6 (E (.mv (.c (.ro 6 [] true)))),d 7 (m 12)])))) (s (s (O 13 [f 0 5,l 1 13]) (B 0 (s (O 16 [E (.bin .eql (T 14) (.c (.int .u8 1))),d 15 (m 16)]) (cc 15 (r (O 17 [h 2 3,m 1,f 1 5,l 1 19,f 4 5,l 1 21,ca 461 [17,18,20,22],ex 0 23,ex 1 23,d 6 (m 24),d 7 (m 25)])) (s (O 27 [E (.bin .eql (T 14) (.c (.int .u8 2))),d 26 (m 27)]) (cc 26 (r (Q 28 [m 1,f 1 5,l 1 29,f 2 5,l 1 31,ca 241 [28,30,32],ex 0 33,ex 1 33,d 6 (m 34),d 7 (m 35)] [7,6])) (s (O 37 [E (.bin .eql (T 14) (.c (.int .u8 3))),d 36 (m 37)]) (cc 36 (r (O 38 [m 1,f 1 5,l 1 39,f 2 5,l 1 41,f 3 5,l 1 43,ca 242 [38,40,42,44],ex 0 45,ex 1 45,d 6 (m 46),d 7 (m 47)])) (s (Q 49 [E (.bin .eql (T 14) (.c (.int .u8 4))),d 48 (m 49)] [48,5,3,1]) (c 48 (r (O 50 [h 2 3,m 1,f 1 5,l 1 52,f 4 5,l 1 54,ca 462 [50,51,53,55],ex 0 56,ex 1 56,d 6 (m 57),d 7 (m 58)])))))))))))) (r (O 59 [h 2 3,f 4 5,l 1 60,ca 463 [59,61],ex 0 62,ex 1 62,d 6 (m 63),d 7 (m 64)])))))⟩
def w329_c0:WCode:=zd (r (O 6 [i 1]))
def w329_B0:WCode:=zd (s (s (O 56 [m 12,m 1,ln 1 57,lt 56 58]) (cc 59 (w .skip) (ee 0))) (s (B 1 (s (U 62 [f 0 9,f 1 62,l 1 63,m 12,ix 1 64 65,l 1 66,m 1,m 12,ix 1 68 69,l 1 70,ne 67 71,m 72,z 73 (f 2 9),z 73 (l 1 74),z 73 (m 12),z 73 (ix 1 75 76),z 73 (l 1 77),z 73 (m 2),z 73 (m 12),z 73 (ix 1 79 80),z 73 (l 1 81),z 73 (eqi 82 1),z 73 (E (.eqv 5 [] true (T 78) (T 83))),po 73 84] [] [85,12,9,2,1]) (c 85 (r (O 6 [i 0]))))) (O 60 [m 12,adi 60 1,d 12 (m 61)])))
def w329_L0:WCode:=.loop ⟨true,[12,9,2,1],[]⟩ w329_B0
def w329:WFn:=⟨3,[.tmp 6],zd (s (O 6 [i 0]) (s (O 14 [ca 453 [],d 13 (m 14),ex 0 13,ex 1 13,d 7 (E (.alloc [.ro 9 [] true,.int .i64 0])),d 8 (E (.alloc [.ro 6 [] true])),n (st 2 7 15),n (st 1 8 16)]) (s (O 18 [h 2 7,h 1 8,m 0,ca 454 [18,19,20],d 17 (m 21),ex 0 17,ex 1 17,ex 2 17,d 9 (E (.alloc [.int .i64 0,.ro 1 [] true,.ro 1 [] true,.ro 4 [] true])),n (st 4 9 22),d 10 (m 23),d 11 (m 24)]) (s (s (Q 25 [m 11,nei 25 0,m 26,z 27 (m 10),z 27 (m 0),z 27 (ln 1 29),z 27 (ne 28 30),po 27 31,m 32,z 33 (f 0 9),z 33 (f 1 34),z 33 (l 1 35),z 33 (ln 1 36),z 33 (m 1),z 33 (ln 1 38),z 33 (ne 37 39),po 33 40,m 41,z 42 (f 2 9),z 42 (l 1 43),z 42 (ln 1 44),z 42 (m 2),z 42 (ln 1 46),z 42 (ne 45 47),po 42 48,m 49,z 50 (f 0 9),z 50 (f 0 51),z 50 (l 1 52),z 50 (nei 53 3),po 50 54] [55,9,2,1]) (c 55 (r (O 6 [i 0])))) (s (s (O 12 [i 0]) (bk 0 w329_L0 ⟨true,[],[]⟩)) w329_c0)))))⟩
@[simp] theorem w329_E0:ZL w329_L0 w329_B0 ⟨true,[12,9,2,1],[]⟩:=ck_lp rfl
def w333_c0:WCode:=zd (r (O 2 [i 0]))
def w333_B0:WCode:=zd (s (s (O 16 [m 4,lti 16 4]) (cc 17 (w .skip) (ee 0))) (s (B 1 (s (Q 20 [m 4,E (.idxa 4 1 (T 3) (T 20)),l 1 21,eqi 22 0,m 23,y 24 (f 1 1),y 24 (l 1 25),y 24 (f 2 1),y 24 (l 1 27),y 24 (f 3 1),y 24 (l 1 29),y 24 (f 4 1),y 24 (l 1 31),y 24 (ln 1 32),y 24 (E (.buildS [.int .i64 0] 4 [(0,T 26),(1,T 28),(2,T 30),(3,T 33)])),y 24 (m 4),y 24 (ix 1 34 35),y 24 (l 1 36),y 24 (nei 37 0),pa 24 38] [39,4,3,1]) (c 39 (r (O 2 [i 5]))))) (O 18 [m 4,adi 18 1,d 4 (m 19)])))
def w333_L0:WCode:=.loop ⟨true,[4,3,1],[]⟩ w333_B0
def w333:WFn:=⟨1,[.tmp 2],zd (s (O 1 [bx 0,i 0]) (s (s (O 5 [f 0 1,l 1 5,E (.bin .lss (T 6) (.c (.int .u8 1))),m 7,z 8 (f 0 1),z 8 (l 1 9),z 8 (E (.bin .gtr (T 10) (.c (.int .u8 5)))),po 8 11]) (c 12 (r (O 2 [i 1])))) (s (O 13 [f 0 1,l 1 13,ca 455 [14],d 3 (E (.alloc [.int .i64 0,.int .i64 0,.int .i64 0,.int .i64 0])),n (st 4 3 15)]) (s (s (O 4 [i 0]) (bk 0 w333_L0 ⟨true,[],[]⟩)) w333_c0))))⟩
@[simp] theorem w333_E0:ZL w333_L0 w333_B0 ⟨true,[4,3,1],[]⟩:=ck_lp rfl
def w334:WFn:=⟨1,[.tmp 2],zd (s (O 1 [bx 0,i 0]) (s (s (Q 3 [f 0 1,l 1 3,E (.bin .eql (T 4) (.c (.int .u8 1))),m 5,z 6 (f 0 1),z 6 (l 1 7),z 6 (E (.bin .eql (T 8) (.c (.int .u8 4)))),po 6 9,m 10,y 11 (f 4 1),y 11 (l 1 12),y 11 (ln 1 13),y 11 (eqi 14 0),pa 11 15,m 16,z 17 (f 0 1),z 17 (l 1 18),z 17 (E (.bin .eql (T 19) (.c (.int .u8 2)))),z 17 (m 20),z 21 (f 0 1),z 21 (l 1 22),z 21 (E (.bin .eql (T 23) (.c (.int .u8 3)))),z 17 (po 21 24),z 17 (m 25),y 26 (f 2 1),y 26 (l 1 27),y 26 (eqi 28 0),z 17 (pa 26 29),po 17 30,m 31,z 32 (f 0 1),z 32 (l 1 33),z 32 (E (.bin .eql (T 34) (.c (.int .u8 3)))),z 32 (m 35),y 36 (f 3 1),y 36 (l 1 37),y 36 (f 1 1),y 36 (l 1 39),y 36 (eq 38 40),z 32 (pa 36 41),po 32 42] [43]) (c 43 (r (O 2 [i 1])))) (r (O 2 [i 0]))))⟩
def w335:WFn:=⟨2,[.cell 4 5 true,.tmp 5],zd (s (O 2 [bx 0,bx 1,E (.alloc [.int .u8 0,.int .i64 0,.int .i64 0,.int .i64 0,.ro 4 [] true]),i 0]) (s (O 7 [f 4 2,l 1 7,ln 1 8,d 6 (m 9)]) (s (B 0 (s (O 11 [f 0 2,l 1 11,E (.bin .eql (T 12) (.c (.int .u8 1))),m 13,y 14 (f 0 3),y 14 (l 1 15),y 14 (E (.bin .eql (T 16) (.c (.int .u8 1)))),pa 14 17,d 10 (m 18)]) (cc 10 (s (Q 19 [f 1 2,l 1 19,gei 20 0,m 21,y 22 (f 1 2),y 22 (l 1 23),y 22 (f 1 3),y 22 (l 1 25),y 22 (le 24 26),pa 22 27,m 28,y 29 (f 1 3),y 29 (l 1 30),y 29 (f 1 2),y 29 (l 1 32),y 29 (sb 31 33),y 29 (m 6),y 29 (le 34 35),pa 29 36] [37,4,3,2]) (c 37 (r (V 38 [f 1 2,l 1 38,f 4 2,l 1 40,f 1 3,l 1 42,f 1 2,l 1 44,sb 43 45,f 4 3,l 1 47,E (.call 456 [T 41,T 46,N 0,T 48]),E (.build [.int .u8 0,.int .i64 0,.int .i64 0,.int .i64 0,.ro 4 [] true] [(0,1,.c (.int .u8 1)),(1,1,T 39),(4,1,T 49)]),n (st 5 4 50),d 5 (i 1)] [(1,11)] ⟨false,[],[]⟩)))) (s (Q 52 [f 0 2,l 1 52,E (.bin .eql (T 53) (.c (.int .u8 2))),m 54,y 55 (f 0 3),y 55 (l 1 56),y 55 (E (.bin .eql (T 57) (.c (.int .u8 2)))),pa 55 58,d 51 (m 59)] [51,6,4,3,2]) (cc 51 (s (Q 60 [f 2 2,l 1 60,gei 61 0,m 62,y 63 (f 2 3),y 63 (l 1 64),y 63 (gei 65 0),pa 63 66,m 67,y 68 (f 1 3),y 68 (l 1 69),y 68 (gei 70 0),pa 68 71,m 72,y 73 (f 1 3),y 73 (l 1 74),y 73 (f 1 2),y 73 (l 1 76),y 73 (le 75 77),pa 73 78,m 79,y 80 (f 1 2),y 80 (l 1 81),y 80 (f 1 3),y 80 (l 1 83),y 80 (sb 82 84),y 80 (f 2 3),y 80 (l 1 86),y 80 (le 85 87),pa 80 88,m 89,y 90 (f 2 2),y 90 (l 1 91),y 90 (f 2 3),y 90 (l 1 93),y 90 (E (.bin .sub (N 9223372036854775807) (T 94))),y 90 (le 92 95),pa 90 96] [97,4,3,2]) (c 97 (r (O 98 [f 1 3,l 1 98,f 2 2,l 1 100,f 2 3,l 1 102,ad 101 103,E (.build [.int .u8 0,.int .i64 0,.int .i64 0,.int .i64 0,.ro 4 [] true] [(0,1,.c (.int .u8 2)),(1,1,T 99),(2,1,T 104)]),n (st 5 4 105),d 5 (i 1)])))) (s (O 107 [f 0 2,l 1 107,E (.bin .eql (T 108) (.c (.int .u8 5))),m 109,y 110 (f 0 3),y 110 (l 1 111),y 110 (E (.bin .eql (T 112) (.c (.int .u8 1)))),pa 110 113,m 114,y 115 (f 1 3),y 115 (l 1 116),y 115 (gei 117 0),pa 115 118,m 119,y 120 (f 1 3),y 120 (l 1 121),y 120 (m 6),y 120 (le 122 123),pa 120 124,d 106 (m 125)]) (cc 106 (r (O 126 [f 4 2,l 1 126,f 1 3,l 1 128,f 4 3,l 1 130,E (.call 456 [T 127,T 129,N 0,T 131]),E (.build [.int .u8 0,.int .i64 0,.int .i64 0,.int .i64 0,.ro 4 [] true] [(0,1,.c (.int .u8 5)),(4,1,T 132)]),n (st 5 4 133),d 5 (i 1)])) (s (Q 135 [f 0 2,l 1 135,E (.bin .eql (T 136) (.c (.int .u8 5))),m 137,y 138 (f 0 3),y 138 (l 1 139),y 138 (E (.bin .eql (T 140) (.c (.int .u8 2)))),pa 138 141,m 142,y 143 (f 1 3),y 143 (l 1 144),y 143 (f 2 3),y 143 (l 1 146),y 143 (m 6),y 143 (ca 410 [145,147,148]),y 143 (eqi 149 1),pa 143 150,d 134 (m 151)] [134,6,4,3,2]) (cc 134 (r (O 152 [f 4 2,l 1 152,f 1 3,l 1 154,f 2 3,l 1 156,E (.call 456 [T 153,T 155,T 157,.c (.ro 4 [] true)]),E (.build [.int .u8 0,.int .i64 0,.int .i64 0,.int .i64 0,.ro 4 [] true] [(0,1,.c (.int .u8 5)),(4,1,T 158)]),n (st 5 4 159),d 5 (i 1)])) (s (O 161 [f 0 2,l 1 161,E (.bin .eql (T 162) (.c (.int .u8 5))),m 163,y 164 (f 0 3),y 164 (l 1 165),y 164 (E (.bin .eql (T 166) (.c (.int .u8 4)))),pa 164 167,m 168,y 169 (f 1 3),y 169 (l 1 170),y 169 (f 4 3),y 169 (l 1 172),y 169 (ln 1 173),y 169 (m 6),y 169 (ca 410 [171,174,175]),y 169 (eqi 176 1),pa 169 177,d 160 (m 178)]) (c 160 (r (Q 179 [f 4 2,l 1 179,f 1 3,l 1 181,f 4 3,l 1 183,ln 1 184,f 4 3,l 1 186,ca 456 [180,182,185,187],E (.build [.int .u8 0,.int .i64 0,.int .i64 0,.int .i64 0,.ro 4 [] true] [(0,1,.c (.int .u8 5)),(4,1,T 188)]),n (st 5 4 189),d 5 (i 1)] [5,4]))))))))))))) (r (O 190 [h 5 2,n (st 5 4 190),d 5 (i 0)])))))⟩
def w336:WFn:=⟨1,[.tmp 2],zd (s (O 1 [bx 0,i 0]) (s (s (O 4 [f 0 1,l 1 4,E (.bin .lss (T 5) (.c (.int .u8 1))),m 6,z 7 (f 0 1),z 7 (l 1 8),z 7 (E (.bin .gtr (T 9) (.c (.int .u8 5)))),po 7 10]) (c 11 (r (O 2 [i 1])))) (s (V 12 [ca 457 [],f 0 1,l 1 13,E (.idxv 6 6 true (T 12) (T 14)),d 3 (E (.alloc [.str [],.bool false,.bool false,.bool false,.bool false,.nilf])),n (st 6 3 15)] [(0,2),(0,4),(2,4)] ⟨false,[],[]⟩) (s (s (Q 16 [f 1 3,l 1 16,nt 17,m 18,y 19 (f 1 1),y 19 (l 1 20),y 19 (nei 21 0),pa 19 22,m 23,z 24 (f 2 3),z 24 (l 1 25),z 24 (nt 26),z 24 (m 27),y 28 (f 2 1),y 28 (l 1 29),y 28 (nei 30 0),z 24 (pa 28 31),po 24 32,m 33,z 34 (f 3 3),z 34 (l 1 35),z 34 (nt 36),z 34 (m 37),y 38 (f 3 1),y 38 (l 1 39),y 38 (nei 40 0),z 34 (pa 38 41),po 34 42,m 43,z 44 (f 4 3),z 44 (l 1 45),z 44 (nt 46),z 44 (m 47),y 48 (f 4 1),y 48 (l 1 49),y 48 (ln 1 50),y 48 (gti 51 0),z 44 (pa 48 52),po 44 53] [54]) (c 54 (r (O 2 [i 5])))) (r (O 2 [i 0]))))))⟩
def w337:WFn:=⟨1,[.tmp 2],zd (s (O 1 [bx 0,ff]) (s (s (O 3 [f 0 1,l 1 3]) (B 0 (s (B 3 (s (B 2 (s (B 1 (s (s (s (s (Q 6 [E (.bin .eql (T 4) (.c (.int .u8 1))),d 5 (m 6)] [5,4,1]) (cc 5 (w .skip) (O 7 [E (.bin .eql (T 4) (.c (.int .u8 4))),d 5 (m 7)]))) (c 5 (ee 1))) (s (s (O 9 [E (.bin .eql (T 4) (.c (.int .u8 3))),d 8 (m 9)]) (c 8 (ee 2))) (s (O 11 [E (.bin .eql (T 4) (.c (.int .u8 2))),d 10 (m 11)]) (c 10 (ee 3))))) (ee 0))) (s (r (O 12 [f 4 1,l 1 12,ln 1 13,eqi 14 0,d 2 (m 15)])) (ee 0)))) (s (O 16 [f 3 1,l 1 16,f 1 1,l 1 18,eq 17 19]) (c 20 (r (O 2 [tt])))))) (s (r (O 21 [f 2 1,l 1 21,eqi 22 0,d 2 (m 23)])) (ee 0))))) (r (O 2 [ff]))))⟩
def w338:WFn:=⟨2,[.cell 4 5 true,.tmp 5],zd (s (O 2 [bx 0,bx 1,E (.alloc [.int .u8 0,.int .i64 0,.int .i64 0,.int .i64 0,.ro 4 [] true]),ff]) (s (O 9 [f 4 2,l 1 9,ln 1 10,d 6 (m 11)]) (s (B 0 (s (Q 13 [f 0 2,l 1 13,E (.bin .eql (T 14) (.c (.int .u8 1))),m 15,y 16 (f 0 3),y 16 (l 1 17),y 16 (E (.bin .eql (T 18) (.c (.int .u8 1)))),pa 16 19,d 12 (m 20)] [12,6,4,3,2]) (cc 12 (s (s (Q 21 [f 1 2,l 1 21,lti 22 0,m 23,z 24 (f 1 3),z 24 (l 1 25),z 24 (f 1 2),z 24 (l 1 27),z 24 (lt 26 28),po 24 29,m 30,z 31 (f 1 3),z 31 (l 1 32),z 31 (f 1 2),z 31 (l 1 34),z 31 (sb 33 35),z 31 (m 6),z 31 (gt 36 37),po 31 38] [39,4,3,2]) (c 39 (r (O 40 [h 5 2,n (st 5 4 40),d 5 ff])))) (s (O 41 [f 4 2,l 1 41,f 1 3,l 1 43,f 1 2,l 1 45,sb 44 46,f 4 3,l 1 48,E (.call 458 [T 42,T 47,N 0,T 49]),f 4 2,n (st 1 51 50)]) (r (Q 52 [h 5 2,n (st 5 4 52),d 5 tt] [5,4])))) (s (O 54 [f 0 2,l 1 54,E (.bin .eql (T 55) (.c (.int .u8 2))),m 56,y 57 (f 0 3),y 57 (l 1 58),y 57 (E (.bin .eql (T 59) (.c (.int .u8 2)))),pa 57 60,d 53 (m 61)]) (cc 53 (s (s (Q 62 [f 2 2,l 1 62,lti 63 0,m 64,z 65 (f 2 3),z 65 (l 1 66),z 65 (lti 67 0),po 65 68,m 69,z 70 (f 1 3),z 70 (l 1 71),z 70 (lti 72 0),po 70 73,m 74,z 75 (f 1 3),z 75 (l 1 76),z 75 (f 1 2),z 75 (l 1 78),z 75 (gt 77 79),po 75 80,m 81,z 82 (f 1 2),z 82 (l 1 83),z 82 (f 1 3),z 82 (l 1 85),z 82 (sb 84 86),z 82 (f 2 3),z 82 (l 1 88),z 82 (gt 87 89),po 82 90,m 91,z 92 (f 2 2),z 92 (l 1 93),z 92 (f 2 3),z 92 (l 1 95),z 92 (ad 94 96),z 92 (lti 97 0),po 92 98] [99,4,3,2]) (c 99 (r (O 100 [h 5 2,n (st 5 4 100),d 5 ff])))) (r (O 101 [f 1 3,l 1 101,f 2 2,l 1 103,f 2 3,l 1 105,ad 104 106,E (.build [.int .u8 0,.int .i64 0,.int .i64 0,.int .i64 0,.ro 4 [] true] [(0,1,.c (.int .u8 2)),(1,1,T 102),(2,1,T 107)]),n (st 5 4 108),d 5 tt]))) (s (O 110 [f 0 2,l 1 110,E (.bin .neq (T 111) (.c (.int .u8 5))),d 109 (m 112)]) (c 109 (r (O 113 [h 5 2,n (st 5 4 113),d 5 ff]))))))))) (s (V 114 [f 1 3,l 1 114,f 4 3,l 1 116,ln 1 117,d 7 (m 115),d 8 (m 118)] [] ⟨false,[],[]⟩) (s (s (O 119 [f 0 3,l 1 119]) (B 1 (s (O 123 [E (.bin .eql (T 120) (.c (.int .u8 1))),d 122 (m 123)]) (cc 122 (O 8 [i 0]) (s (O 125 [E (.bin .eql (T 120) (.c (.int .u8 2))),d 124 (m 125)]) (cc 124 (O 126 [f 2 3,l 1 126,d 8 (m 127)]) (s (O 129 [E (.bin .eql (T 120) (.c (.int .u8 4))),d 128 (m 129)]) (cc 128 (w .skip) (r (O 121 [h 5 2,n (st 5 4 121),d 5 ff])))))))))) (s (s (Q 130 [m 7,lti 130 0,m 131,z 132 (m 7),z 132 (m 6),z 132 (gt 133 134),po 132 135,m 136,z 137 (m 8),z 137 (lti 138 0),po 137 139,m 140,z 141 (m 8),z 141 (m 6),z 141 (m 7),z 141 (sb 143 144),z 141 (gt 142 145),po 141 146] [147,8,7,4,3,2]) (c 147 (r (O 148 [h 5 2,n (st 5 4 148),d 5 ff])))) (s (O 149 [f 4 2,l 1 149,m 7,m 8,f 4 3,l 1 153,ca 458 [150,151,152,154],f 4 2,n (st 1 156 155)]) (r (O 157 [h 5 2,n (st 5 4 157),d 5 tt])))))))))⟩
def w339:WFn:=⟨1,[.tmp 2],zd (s (O 2 [E (.mv (.c (.ro 5 [] true)))]) (s (s (O 4 [m 0,ln 1 4,eqi 5 0]) (c 6 (r (O 2 [E (.mv (.c (.ro 5 [] true)))])))) (s (O 7 [m 0,ln 1 7,E (.mksl [.int .u8 0,.int .i64 0,.int .i64 0,.int .i64 0,.ro 4 [] true] 56 (T 8) (T 8)),d 3 (m 9)]) (s (O 10 [m 3,m 0,E (.cpy 5 (T 10) (T 11))]) (r (O 13 [m 3,d 2 (m 13)]))))))⟩
def w340_c0:WCode:=zd (r (O 23 [m 3,d 2 (m 23)]))
def w340_B0:WCode:=zd (s (O 10 [lt 9 8]) (s (cc 10 (w .skip) (ee 0)) (s (B 1 (s (O 11 [m 9,d 4 (m 11)]) (O 12 [m 3,m 4,m 3,m 4,ix 4 14 15,f 3 16,l 1 17,ca 460 [18],ix 4 12 13,f 3 20,n (st 1 21 19)]))) (O 22 [adi 9 1,d 9 (m 22)]))))
def w340_L0:WCode:=.loop ⟨true,[9,8,3],[]⟩ w340_B0
def w340:WFn:=⟨1,[.tmp 2],zd (s (O 2 [E (.mv (.c (.ro 4 [] true)))]) (s (Q 5 [m 0,ca 459 [5],d 3 (m 6)] [3]) (s (s (O 7 [m 3,ln 1 7,i 0]) (bk 0 w340_L0 ⟨true,[3],[]⟩)) w340_c0)))⟩
@[simp] theorem w340_E0:ZL w340_L0 w340_B0 ⟨true,[9,8,3],[]⟩:=ck_lp rfl
noncomputable abbrev w340_K0 (C:WProg) (s:WSt):Option AV:=CK C 0 (pureFin [.tmp 2]) [.sq w340_L0,.bk 0 ⟨true,[3],[]⟩,.sq w340_c0] w340_B0 s
def w341:WFn:=⟨2,[.tmp 4],zd (s (O 2 [bx 0,bx 1,i 0]) (s (s (Q 5 [f 0 2,l 1 5,f 0 3,l 1 7,ne 6 8,m 9,z 10 (f 1 2),z 10 (l 1 11),z 10 (f 1 3),z 10 (l 1 13),z 10 (ne 12 14),po 10 15,m 16,z 17 (f 2 2),z 17 (l 1 18),z 17 (f 2 3),z 17 (l 1 20),z 17 (ne 19 21),po 17 22,m 23,z 24 (f 3 2),z 24 (l 1 25),z 24 (f 3 3),z 24 (l 1 27),z 24 (ne 26 28),po 24 29] [30,3,2]) (c 30 (r (O 4 [i 0])))) (r (O 31 [f 4 2,l 1 31,f 4 3,l 1 33,ca 357 [32,34],d 4 (m 35)]))))⟩
def w112_c0:WCode:=zd (r (O 4 [i 1]))
def w112_B0:WCode:=zd (s (s (O 34 [m 5,f 3 2,l 1 35,ln 1 36,lt 34 37]) (cc 38 (w .skip) (ee 0))) (s (B 1 (s (V 41 [f 3 2,l 1 41,m 5,ix 1 42 43,l 1 44,f 3 3,l 1 46,m 5,ix 1 47 48,l 1 49,ne 45 50] [] ⟨false,[],[]⟩) (c 51 (r (O 4 [i 0]))))) (O 39 [m 5,adi 39 1,d 5 (m 40)])))
def w112_L0:WCode:=.loop ⟨true,[5,3,2],[]⟩ w112_B0
def w112:WFn:=⟨2,[.tmp 4],zd (s (O 2 [bx 0,bx 1,i 0]) (s (s (Q 6 [f 0 2,l 1 6,f 0 3,l 1 8,ne 7 9,m 10,z 11 (f 1 2),z 11 (l 1 12),z 11 (f 1 3),z 11 (l 1 14),z 11 (ne 13 15),po 11 16,m 17,z 18 (f 2 2),z 18 (l 1 19),z 18 (f 2 3),z 18 (l 1 21),z 18 (ne 20 22),po 18 23,m 24,z 25 (f 3 2),z 25 (l 1 26),z 25 (ln 1 27),z 25 (f 3 3),z 25 (l 1 29),z 25 (ln 1 30),z 25 (ne 28 31),po 25 32] [33,3,2]) (c 33 (r (O 4 [i 0])))) (s (s (O 5 [i 0]) (bk 0 w112_L0 ⟨true,[],[]⟩)) w112_c0)))⟩
@[simp] theorem w112_E0:ZL w112_L0 w112_B0 ⟨true,[5,3,2],[]⟩:=ck_lp rfl
noncomputable abbrev w112_K0 (C:WProg) (s:WSt):Option AV:=CK C 0 (pureFin [.tmp 4]) [.sq w112_L0,.bk 0 ⟨true,[],[]⟩,.sq w112_c0] w112_B0 s
def w115:WFn:=⟨1,[.tmp 2],zd (s (O 1 [bx 0,i 0]) (s (O 3 [E (.mv (.c (.fn 230 [])))]) (s (s (Q 4 [f 0 1,l 1 4,ln 1 5,lti 6 1,m 7,z 8 (f 0 1),z 8 (l 1 9),z 8 (ln 1 10),z 8 (gti 11 8),po 8 12,m 13,z 14 (f 1 1),z 14 (l 1 15),z 14 (lti 16 1),po 14 17,m 18,z 19 (f 1 1),z 19 (l 1 20),z 19 (gti 21 64),po 19 22,m 23,z 24 (f 0 1),z 24 (l 1 25),z 24 (m 3),z 24 (ca 232 [26,27]),po 24 28] [29]) (c 29 (r (O 2 [i 7])))) (r (O 2 [i 0])))))⟩
def w65:WFn:=⟨1,[.cell 2 2 true,.tmp 3],zd (s (O 2 [E (.alloc [.int .i64 0,.ro 1 [] true]),i 0]) (s (s (O 4 [m 0,ca 77 [4]]) (c 5 (r (O 6 [E (.build [.int .i64 0,.ro 1 [] true] []),n (st 2 2 6),d 3 (i 4)])))) (r (O 7 [m 0,m 0,E (.call 1073 [T 7,T 8,.c (.fn 81 [])]),ex 0 9,ex 1 9,n (st 2 2 10),d 3 (m 11)]))))⟩
def w525:WFn:=⟨2,[.cell 4 2 true,.tmp 5],zd (s (Q 4 [d 2 (bx 0),E (.alloc [.int .i64 0,.ro 1 [] true]),E (.mv (.c .nilf))] [4,2,1]) (s (O 6 [E (.mv (.c (.fn 564 [])))]) (s (s (O 11 [f 0 2,l 1 11]) (B 0 (s (O 14 [E (.bin .eql (T 12) (.c (.int .u8 1))),d 13 (m 14)]) (cc 13 (s (Q 16 [m 1,f 1 2,l 1 17,f 4 2,l 1 19,ln 1 20,ca 66 [16,18,21],d 15 (m 22),ex 0 15,ex 1 15,n (st 2 4 23)] [6,4,2]) (r (V 25 [h 2 4,m 6,f 1 2,l 1 27,f 4 2,l 1 29,ln 1 30,E (.callv (T 26) [T 28,T 31]),n (st 2 4 25),d 5 (m 32)] [(0,7)] ⟨false,[],[]⟩))) (s (O 34 [E (.bin .eql (T 12) (.c (.int .u8 2))),d 33 (m 34)]) (cc 33 (O 36 [m 1,f 1 2,l 1 37,f 2 2,l 1 39,ca 67 [36,38,40],d 35 (m 41),ex 0 35,ex 1 35,n (st 2 4 42)]) (s (O 45 [E (.bin .eql (T 12) (.c (.int .u8 3))),d 44 (m 45)]) (cc 44 (O 47 [m 1,f 1 2,l 1 48,f 2 2,l 1 50,f 3 2,l 1 52,ca 62 [47,49,51,53],d 46 (m 54),ex 0 46,ex 1 46,n (st 2 4 55)]) (s (O 58 [E (.bin .eql (T 12) (.c (.int .u8 4))),d 57 (m 58)]) (cc 57 (s (O 60 [m 1,ca 65 [60],d 59 (m 61),ex 0 59,ex 1 59,n (st 2 4 62)]) (r (U 64 [h 2 4,m 6,f 1 2,l 1 66,f 4 2,l 1 68,ln 1 69,E (.callv (T 65) [T 67,T 70]),n (st 2 4 64),d 5 (m 71)] [(0,7)] [5,4]))) (s (O 73 [E (.bin .eql (T 12) (.c (.int .u8 5))),d 72 (m 73)]) (c 72 (s (O 75 [m 1,m 1,E (.call 67 [T 75,N 0,T 76]),d 74 (m 77),ex 0 74,ex 1 74,d 7 (E (.alloc [.int .i64 0,.ro 1 [] true])),n (st 2 7 78),d 8 (m 79)]) (s (Q 81 [f 4 2,l 1 81,ln 1 82,E (.call 66 [N 0,N 0,T 83]),d 80 (m 84),ex 0 80,ex 1 80,d 9 (E (.alloc [.int .i64 0,.ro 1 [] true])),n (st 2 9 85),d 10 (m 86)] [9,7,6,4,2]) (s (O 88 [h 2 7,h 2 9,ca 52 [88,89],d 87 (m 90),ex 0 87,ex 1 87,n (st 2 4 91)]) (r (V 93 [h 2 4,m 6,f 4 2,l 1 95,ln 1 96,E (.callv (T 94) [N 0,T 97]),n (st 2 4 93),d 5 (m 98)] [(0,5)] ⟨false,[],[]⟩))))))))))))))))) (r (V 99 [h 2 4,m 6,E (.callv (T 100) [N 0,N 0]),n (st 2 4 99),d 5 (m 101)] [(0,2)] ⟨false,[],[]⟩)))))⟩
def w52:WFn:=⟨2,[.cell 4 2 true,.tmp 5],zd (s (O 2 [bx 0,bx 1,E (.alloc [.int .i64 0,.ro 1 [] true]),i 0]) (s (s (O 8 [h 2 2,ca 56 [8],d 6 (m 9)]) (s (O 10 [m 6,nei 10 0]) (c 11 (r (O 12 [E (.build [.int .i64 0,.ro 1 [] true] []),m 6,n (st 2 4 12),d 5 (m 13)]))))) (s (s (O 14 [h 2 3,ca 56 [14],d 7 (m 15)]) (s (O 16 [m 7,nei 16 0]) (c 17 (r (Q 18 [E (.build [.int .i64 0,.ro 1 [] true] []),m 7,n (st 2 4 18),d 5 (m 19)] [5,4]))))) (s (s (O 20 [f 0 3,l 1 20,f 1 2,l 1 22,ln 1 23,ne 21 24]) (c 25 (r (O 26 [E (.build [.int .i64 0,.ro 1 [] true] []),n (st 2 4 26),d 5 (i 16)])))) (r (O 27 [f 0 2,l 1 27,f 1 3,l 1 29,ln 1 30,E (.mkfn 74 [T 3,T 2]),ca 1073 [28,31,32],ex 0 33,ex 1 33,n (st 2 4 34),d 5 (m 35)]))))))⟩
def w360_c0:WCode:=zd (r (V 27 [h 2 3,m 1,ca 469 [28],m 7,ca 340 [30],E (.build [.int .i64 0,.ro 1 [] true,.ro 1 [] true,.ro 4 [] true] [(0,2,T 27),(2,1,T 29),(3,1,T 31)]),n (st 4 6 32)] [(0,2),(0,4)] ⟨false,[],[]⟩))
def w360_B0:WCode:=zd (s (O 13 [lt 12 11]) (s (cc 13 (w .skip) (ee 0)) (s (B 1 (s (Q 14 [m 12,ix 1 10 12,l 1 15,d 8 (m 14),d 9 (m 16)] [12,11,10,9,8,7,6,3,2,1]) (s (O 17 [m 9]) (c 17 (O 18 [m 7,m 2,m 8,ix 6 19 20,f 0 21,h 4 22,E (.buildS [.int .u64 0,.int .u8 0,.str [],.ro 1 [] true] 1 [(0,T 23)]),E (.app [.int .u64 0,.int .u8 0,.str [],.ro 1 [] true] 56 false (T 18) (T 24)),d 7 (m 25)]))))) (O 26 [adi 12 1,d 12 (m 26)]))))
def w360_L0:WCode:=.loop ⟨true,[12,11,10,7,6,3,2,1],[]⟩ w360_B0
def w360:WFn:=⟨3,[.cell 6 4 true],zd (s (O 6 [d 3 (bx 0),E (.alloc [.int .i64 0,.ro 1 [] true,.ro 1 [] true,.ro 4 [] true])]) (s (R 7 [E (.mv (.c (.ro 4 [] true)))] ⟨true,[7,6,3,2,1],[(7,4)]⟩) (s (s (O 10 [m 1,ln 1 10,i 0]) (bk 0 w360_L0 ⟨true,[7,6,3,1],[]⟩)) w360_c0)))⟩
@[simp] theorem w360_E0:ZL w360_L0 w360_B0 ⟨true,[12,11,10,7,6,3,2,1],[]⟩:=ck_lp rfl
def w406:WFn:=⟨1,[.tmp 2],zd (s (O 2 [i 0]) (s (s (O 3 [m 0]) (c 3 (r (O 2 [i 1])))) (r (O 2 [i 0]))))⟩
def w407:WFn:=⟨1,[.tmp 2],zd (s (O 2 [i 0]) (s (s (O 3 [m 0,ca 504 [3],gti 4 4611686018427387904]) (c 5 (r (O 2 [i 13])))) (r (O 2 [i 0]))))⟩
def w108:WFn:=⟨3,[.cell 6 1 true,.tmp 7],zd (s (R 6 [d 3 (bx 0),d 4 (bx 1),E (.alloc [.ro 6 [] true]),i 0] ⟨true,[6,4,3,2],[(3,65536),(4,65536)]⟩) (r (V 8 [h 2 3,h 1 4,m 2,ln 1 10,m 2,E (.call 217 [.c (.ro 6 [] true)]),E (.build [.bool false,.int .i64 0,.ro 4 [] true,.nilf,.nilf] [(0,1,.c (.bool true)),(1,1,T 11),(2,1,T 12),(3,1,T 13),(4,1,.c (.fn 218 []))]),ca 216 [8,9,14],ex 0 15,ex 1 15,n (st 1 6 16),d 7 (m 17)] [(0,5),(1,5),(3,5)] ⟨false,[],[]⟩)))⟩
def w422_c0:WCode:=zd (s (s (O 45 [E (.idxa 4 1 (T 1) (N 3)),l 1 45,E (.bin .geq (T 46) (.c (.int .u8 240)))]) (c 47 (O 48 [f 3 3,l 1 48,E (.buildS [.str []] 2 [(0,.c (.str [97])),(1,.c (.str [97]))]),E (.app [.str []] 16 false (T 49) (T 50)),f 3 3,n (st 1 52 51)]))) (r (O 53 [h 4 3,n (st 4 2 53)])))
def w422_B0:WCode:=zd (s (s (O 20 [m 4,lti 20 3]) (cc 21 (w .skip) (ee 0))) (s (B 1 (s (O 24 [E (.idxa 4 1 (T 1) (N 3)),l 1 24,m 4,E (.bin .shr (T 25) (T 26)),E (.bin .and (T 27) (.c (.int .u8 1))),E (.bin .gtr (T 28) (.c (.int .u8 0)))]) (c 29 (U 30 [f 3 3,l 1 30,E (.buildS [.str []] 3 [(0,.c (.str [97])),(1,.c (.str [98,50])),(2,.c (.str [107,101,121]))]),m 4,E (.idxa 4 1 (T 1) (N 3)),l 1 34,E (.bin .quo (T 35) (.c (.int .u8 8))),E (.cvt .i64 (T 36)),ad 33 37,E (.bin .rem (T 38) (N 3)),ix 1 32 39,l 1 40,E (.buildS [.str []] 1 [(0,T 41)]),E (.app [.str []] 16 false (T 31) (T 42)),f 3 3,n (st 1 44 43)] [(1,2),(2,5),(1,12)] [4,3,2,1])))) (O 22 [m 4,adi 22 1,d 4 (m 23)])))
def w422_L0:WCode:=.loop ⟨true,[4,3,2,1],[]⟩ w422_B0
def w422:WFn:=⟨1,[.cell 2 4 true],zd (s (O 1 [bx 0,E (.alloc [.int .u64 0,.int .u8 0,.str [],.ro 1 [] true])]) (s (U 5 [E (.idxa 4 1 (T 1) (N 0)),l 1 5,E (.bin .rem (T 6) (.c (.int .u8 60))),E (.cvt .u64 (T 7)),E (.bin .add (.c (.int .u64 1)) (T 8)),E (.idxa 4 1 (T 1) (N 1)),l 1 10,E (.bin .rem (T 11) (.c (.int .u8 3))),E (.buildS [.str []] 8 [(0,.c (.str [])),(1,.c (.str [97])),(2,.c (.str [114,111,119])),(3,.c (.str [116,119,111,32,119,111,114,100,115])),(4,.c (.str [32,32])),(5,.c (.str [126,33,45,44])),(6,.c (.str [97,32,108,111,110,103,101,114,32,116,101,120,116,32,111,102,32,116,104,105,115,32,107,105,110,100])),(7,.c (.str [57]))]),E (.idxa 4 1 (T 1) (N 2)),l 1 14,E (.bin .rem (T 15) (.c (.int .u8 8))),ix 1 13 16,l 1 17,E (.build [.int .u64 0,.int .u8 0,.str [],.ro 1 [] true] [(0,1,T 9),(1,1,T 12),(2,1,T 18)]),d 3 (E (.alloc [.int .u64 0,.int .u8 0,.str [],.ro 1 [] true])),n (st 4 3 19)] [(1,8),(6,8),(8,10),(1,15),(6,15),(8,15),(10,15),(13,15)] [3,2,1]) (s (s (O 4 [i 0]) (bk 0 w422_L0 ⟨true,[3,2,1],[]⟩)) w422_c0)))⟩
@[simp] theorem w422_E0:ZL w422_L0 w422_B0 ⟨true,[4,3,2,1],[]⟩:=ck_lp rfl
noncomputable abbrev w422_K0 (C:WProg) (s:WSt):Option AV:=CK C 0 (pureFin [.cell 2 4 true]) [.sq w422_L0,.bk 0 ⟨true,[3,2,1],[]⟩,.sq w422_c0] w422_B0 s
def w423_c0:WCode:=zd (r (O 4 [i (-1)]))
def w423_B0:WCode:=zd (s (s (O 6 [m 5,m 0,ln 1 7,lt 6 8]) (cc 9 (w .skip) (ee 0))) (s (B 1 (s (O 12 [m 0,m 5,ix 4 12 13,f 0 14,l 1 15,m 1,eq 16 17]) (c 18 (r (O 19 [m 5,d 4 (m 19)]))))) (O 10 [m 5,adi 10 1,d 5 (m 11)])))
def w423_L0:WCode:=.loop ⟨true,[5,1,0],[]⟩ w423_B0
def w423:WFn:=⟨2,[.tmp 4],zd (s (O 4 [i 0]) (s (s (O 5 [i 0]) (bk 0 w423_L0 ⟨true,[],[]⟩)) w423_c0))⟩
@[simp] theorem w423_E0:ZL w423_L0 w423_B0 ⟨true,[5,1,0],[]⟩:=ck_lp rfl
noncomputable abbrev w423_K0 (C:WProg) (s:WSt):Option AV:=CK C 0 (pureFin [.tmp 4]) [.sq w423_L0,.bk 0 ⟨true,[],[]⟩,.sq w423_c0] w423_B0 s
def w424_c0:WCode:=zd (s (s (O 41 [m 5,eqi 41 1]) (c 42 (r (O 4 [i 0])))) (r (O 4 [i 6])))
def w424_B0:WCode:=zd (s (s (O 26 [m 6,f 3 2,l 1 27,ln 1 28,lt 26 29]) (cc 30 (w .skip) (ee 0))) (s (B 1 (O 33 [m 5,f 3 2,l 1 34,m 6,ix 1 35 36,l 1 37,ca 511 [38],E (.bin .mul (T 33) (T 39)),d 5 (m 40)])) (O 31 [m 6,adi 31 1,d 6 (m 32)])))
def w424_L0:WCode:=.loop ⟨true,[6,5,2],[]⟩ w424_B0
def w424:WFn:=⟨2,[.tmp 4],zd (s (O 4 [d 2 (bx 0),i 0]) (s (O 7 [f 2 2,l 1 7,ca 510 [8],d 5 (m 9)]) (s (s (Q 10 [f 0 2,l 1 10,E (.bin .eql (T 11) (.c (.int .u64 0))),m 12,z 13 (m 1),z 13 (f 1 2),z 13 (l 1 15),z 13 (E (.cvt .i64 (T 16))),z 13 (le 14 17),po 13 18,m 19,z 20 (f 3 2),z 20 (l 1 21),z 20 (ln 1 22),z 20 (gti 23 8),po 20 24] [25,5,2]) (c 25 (O 5 [i 0]))) (s (s (O 6 [i 0]) (bk 0 w424_L0 ⟨true,[5],[]⟩)) w424_c0))))⟩
@[simp] theorem w424_E0:ZL w424_L0 w424_B0 ⟨true,[6,5,2],[]⟩:=ck_lp rfl
noncomputable abbrev w424_K0 (C:WProg) (s:WSt):Option AV:=CK C 0 (pureFin [.tmp 4]) [.sq w424_L0,.bk 0 ⟨true,[5],[]⟩,.sq w424_c0] w424_B0 s
def w425:WFn:=⟨3,[.cell 6 6 true,.tmp 7],zd (s (Q 6 [d 3 (bx 0),d 4 (bx 1),E (.alloc [.int .u8 0,.str [],.str [],.ro 2 [] true,.str [],.ro 6 [] true]),i 0] [6,4,3,2]) (s (s (O 9 [m 2,lti 9 1,m 10,z 11 (m 2),z 11 (gti 12 64),po 11 13]) (c 14 (r (O 15 [E (.build [.int .u8 0,.str [],.str [],.ro 2 [] true,.str [],.ro 6 [] true] []),n (st 6 6 15),d 7 (i 1)])))) (s (s (O 16 [h 6 3,ca 408 [16],nei 17 0]) (c 18 (r (O 19 [E (.build [.int .u8 0,.str [],.str [],.ro 2 [] true,.str [],.ro 6 [] true] []),h 6 3,ca 408 [20],n (st 6 6 19),d 7 (m 21)])))) (s (s (O 22 [h 4 4,ca 512 [22],nei 23 0]) (c 24 (r (Q 25 [E (.build [.int .u8 0,.str [],.str [],.ro 2 [] true,.str [],.ro 6 [] true] []),h 4 4,ca 512 [26],n (st 6 6 25),d 7 (m 27)] [7,6])))) (s (O 28 [h 6 3,h 4 4,ca 513 [28,29],E (.idxs 6 (T 30) (N 0)),h 6 31,d 8 (E (.alloc [.int .u8 0,.str [],.str [],.ro 2 [] true,.str [],.ro 6 [] true])),n (st 6 8 32)]) (s (s (O 33 [h 6 8,ca 441 [33],nei 34 0,m 35,z 36 (h 6 8),z 36 (ca 442 [37]),z 36 (m 2),z 36 (gt 38 39),po 36 40]) (c 41 (r (O 42 [E (.build [.int .u8 0,.str [],.str [],.ro 2 [] true,.str [],.ro 6 [] true] []),n (st 6 6 42),d 7 (i 14)])))) (r (O 43 [h 6 8,n (st 6 6 43),d 7 (i 0)]))))))))⟩
def w398:WFn:=⟨2,[.tmp 4],zd (s (O 4 [d 2 (bx 0),i 0]) (s (O 7 [E (.mkfn 494 [T 2]),d 5 (m 7)]) (s (Q 8 [E (.mkfn 497 [T 2]),d 6 (m 8)] [6,5,2,1]) (s (s (O 9 [f 0 2,l 1 9,E (.bin .eql (T 10) (.c (.int .u64 0))),m 11,z 12 (f 1 2),z 12 (l 1 13),z 12 (E (.cvt .i64 (T 14))),z 12 (m 1),z 12 (ge 15 16),po 12 17,m 18,z 19 (m 5),z 19 (E (.callv (T 20) [])),z 19 (nt 21),po 19 22,m 23,z 24 (m 6),z 24 (E (.callv (T 25) [])),z 24 (nt 26),po 24 27]) (c 28 (r (O 4 [i 6])))) (r (O 4 [i 0]))))))⟩
def w399:WFn:=⟨2,[.cell 4 6 true,.tmp 5],zd (s (O 2 [bx 0,bx 1,E (.alloc [.int .u8 0,.str [],.str [],.ro 2 [] true,.str [],.ro 6 [] true]),i 0]) (r (V 6 [f 0 2,l 1 6,f 1 3,l 1 8,ix 9 7 9,f 0 10,h 6 11,h 4 3,f 1 2,l 1 14,ca 501 [12,13,15],ex 0 16,ex 1 16,n (st 6 4 17),d 5 (m 18)] [] ⟨false,[],[]⟩)))⟩
def w225:WFn:=⟨1,[.tmp 2],zd (s (O 2 [ff]) (r (O 3 [m 0,gei 3 1,m 4,y 5 (m 0),y 5 (lei 6 2305843009213693952),pa 5 7,d 2 (m 8)])))⟩
def w227:WFn:=⟨1,[.tmp 2],zd (s (O 1 [bx 0,i 0]) (s (s (O 3 [h 1 1,ca 111 [3],gti 4 4611686018427387904]) (c 5 (r (O 2 [i 13])))) (r (O 2 [i 0]))))⟩
def w216_c0:WCode:=zd (s (V 64 [f 4 5,l 1 64,h 2 3,f 2 5,l 1 67,ca 400 [66,68],E (.callv (T 65) [T 69]),ca 226 [70],d 12 (E (.alloc [.ro 6 [] true])),n (st 1 12 71)] [(1,5),(1,8),(2,8),(4,8),(5,8),(6,8),(7,8)] ⟨false,[],[]⟩) (s (s (O 72 [h 1 12,ca 227 [72],d 13 (m 73)]) (s (O 74 [m 13,nei 74 0]) (c 75 (r (O 76 [E (.build [.ro 6 [] true] []),m 13,n (st 1 6 76),d 7 (m 77)]))))) (r (O 78 [h 1 12,n (st 1 6 78),d 7 (i 0)]))))
def w216_B0:WCode:=zd (s (O 35 [lt 34 33]) (s (cc 35 (w .skip) (ee 1)) (s (B 2 (s (O 36 [m 34,ix 4 32 34,h 4 37,d 10 (E (.alloc [.int .u64 0,.int .u8 0,.str [],.ro 1 [] true])),d 9 (m 36),n (st 4 10 38)]) (s (Q 39 [h 4 10,f 0 3,l 1 40,ln 1 41,ca 398 [39,42],d 11 (m 43)] [34,33,32,11,10,9,6,5,3]) (s (s (O 44 [m 11,eqi 44 0]) (c 45 (O 46 [f 3 5,l 1 46,m 9,h 4 10,E (.callv (T 47) [T 48,T 49]),d 11 (m 50)]))) (s (s (O 51 [m 11,eqi 51 0]) (c 52 (O 54 [h 2 3,h 4 10,ca 399 [54,55],d 53 (m 56),ex 0 53,ex 1 53,d 11 (m 58)]))) (s (O 59 [m 11,nei 59 0]) (c 60 (r (O 61 [E (.build [.ro 6 [] true] []),m 11,n (st 1 6 61),d 7 (m 62)]))))))))) (Q 63 [adi 34 1,d 34 (m 63)] [34,33,32,6,5,3]))))
def w216_L0:WCode:=.loop ⟨true,[34,33,32,6,5,3],[]⟩ w216_B0
def w216:WFn:=⟨3,[.cell 6 1 true,.tmp 7],zd (s (O 3 [bx 0,bx 1,bx 2,E (.alloc [.ro 6 [] true]),i 0]) (s (s (O 14 [h 2 3,h 1 4,ca 223 [14,15],d 8 (m 16)]) (s (O 17 [m 8,nei 17 0]) (c 18 (r (O 19 [E (.build [.ro 6 [] true] []),m 8,n (st 1 6 19),d 7 (m 20)]))))) (s (B 0 (s (Q 22 [f 0 5,l 1 22,nt 23,d 21 (m 24)] [21,6,5,3]) (cc 21 (r (O 25 [E (.build [.ro 6 [] true] []),n (st 1 6 25),d 7 (i 4)])) (s (O 27 [f 1 5,l 1 27,gti 28 1024,d 26 (m 29)]) (c 26 (r (O 30 [E (.build [.ro 6 [] true] []),n (st 1 6 30),d 7 (i 3)]))))))) (s (s (O 31 [f 2 5,l 1 31,ln 1 32,i 0]) (bk 1 w216_L0 ⟨true,[6,5,3],[]⟩)) w216_c0))))⟩
@[simp] theorem w216_E0:ZL w216_L0 w216_B0 ⟨true,[34,33,32,6,5,3],[]⟩:=ck_lp rfl
noncomputable abbrev w216_K0 (C:WProg) (s:WSt):Option AV:=CK C 0 (pureFin [.cell 6 1 true,.tmp 7]) [.sq w216_L0,.bk 1 ⟨true,[6,5,3],[]⟩,.sq w216_c0] w216_B0 s
def w219:WFn:=⟨3,[.tmp 6],zd (s (O 6 [ff]) (r (O 7 [m 0,gei 7 0,m 8,y 9 (m 0),y 9 (m 2),y 9 (le 10 11),pa 9 12,m 13,y 14 (m 1),y 14 (gei 15 0),pa 14 16,m 17,y 18 (m 1),y 18 (m 2),y 18 (m 0),y 18 (sb 20 21),y 18 (le 19 22),pa 18 23,d 6 (m 24)])))⟩
def w222:WFn:=⟨4,[.tmp 5],zd (s (O 5 [E (.mv (.c (.ro 6 [] true)))]) (r (O 6 [f 0 1,l 1 6,l 1 2,l 1 3,E (.call 221 [T 7,T 8,T 9,.c (.ro 6 [] true)]),d 5 (m 10)])))⟩
def w221:WFn:=⟨4,[.tmp 8],zd (s (O 8 [E (.mv (.c (.ro 6 [] true)))]) (s (Q 10 [m 0,ln 1 10,m 2,sb 11 12,m 3,ln 1 14,ad 13 15,E (.mksl [.int .u64 0,.int .u8 0,.str [],.ro 1 [] true,.int .i64 0,.bool false] 72 (N 0) (T 16)),d 9 (m 17)] [9,3,2,1,0]) (s (O 18 [m 9,m 0,m 1,E (.slice 6 (T 19) none (some (T 20)) none),E (.app [.int .u64 0,.int .u8 0,.str [],.ro 1 [] true,.int .i64 0,.bool false] 72 false (T 18) (T 21)),d 9 (m 22)]) (s (O 23 [m 9,m 3,E (.app [.int .u64 0,.int .u8 0,.str [],.ro 1 [] true,.int .i64 0,.bool false] 72 false (T 23) (T 24)),d 9 (m 25)]) (r (O 26 [m 9,m 0,m 1,m 2,ad 28 29,E (.slice 6 (T 27) (some (T 30)) none none),E (.app [.int .u64 0,.int .u8 0,.str [],.ro 1 [] true,.int .i64 0,.bool false] 72 false (T 26) (T 31)),d 8 (m 32)]))))))⟩
def w457:WFn:=⟨0,[.cell 0 36 true],zd (s (O 0 [E (.alloc [.str [],.bool false,.bool false,.bool false,.bool false,.nilf,.str [],.bool false,.bool false,.bool false,.bool false,.nilf,.str [],.bool false,.bool false,.bool false,.bool false,.nilf,.str [],.bool false,.bool false,.bool false,.bool false,.nilf,.str [],.bool false,.bool false,.bool false,.bool false,.nilf,.str [],.bool false,.bool false,.bool false,.bool false,.nilf])]) (r (O 1 [E (.build [.str [],.bool false,.bool false,.bool false,.bool false,.nilf] [(0,1,.c (.str [105,110,115,101,114,116])),(1,1,.c (.bool true)),(2,1,.c (.bool false)),(3,1,.c (.bool false)),(4,1,.c (.bool true)),(5,1,.c (.fn 526 []))]),E (.build [.str [],.bool false,.bool false,.bool false,.bool false,.nilf] [(0,1,.c (.str [114,101,109,111,118,101])),(1,1,.c (.bool true)),(2,1,.c (.bool true)),(3,1,.c (.bool false)),(4,1,.c (.bool false)),(5,1,.c (.fn 527 []))]),E (.build [.str [],.bool false,.bool false,.bool false,.bool false,.nilf] [(0,1,.c (.str [109,111,118,101])),(1,1,.c (.bool true)),(2,1,.c (.bool true)),(3,1,.c (.bool true)),(4,1,.c (.bool false)),(5,1,.c (.fn 528 []))]),E (.build [.str [],.bool false,.bool false,.bool false,.bool false,.nilf] [(0,1,.c (.str [99,104,97,110,103,101])),(1,1,.c (.bool true)),(2,1,.c (.bool false)),(3,1,.c (.bool false)),(4,1,.c (.bool true)),(5,1,.c (.fn 529 []))]),E (.build [.str [],.bool false,.bool false,.bool false,.bool false,.nilf] [(0,1,.c (.str [114,101,115,101,116])),(1,1,.c (.bool false)),(2,1,.c (.bool false)),(3,1,.c (.bool false)),(4,1,.c (.bool true)),(5,1,.c (.fn 530 []))]),E (.build [.str [],.bool false,.bool false,.bool false,.bool false,.nilf,.str [],.bool false,.bool false,.bool false,.bool false,.nilf,.str [],.bool false,.bool false,.bool false,.bool false,.nilf,.str [],.bool false,.bool false,.bool false,.bool false,.nilf,.str [],.bool false,.bool false,.bool false,.bool false,.nilf,.str [],.bool false,.bool false,.bool false,.bool false,.nilf] [(6,6,T 1),(12,6,T 2),(18,6,T 3),(24,6,T 4),(30,6,T 5)]),n (st 36 0 6)])))⟩
def w461_c0:WCode:=zd (s (s (O 71 [m 10,ca 407 [71],gti 72 0]) (c 73 (r (O 8 [E (.mv (.c (.ro 6 [] true))),i 13])))) (r (O 8 [d 74 (m 10),m 74,i 0])))
def w461_c1:WCode:=zd (O 40 [m 11,adi 40 1,d 11 (m 41)])
def w461_c2:WCode:=zd (s (O 60 [m 11,m 1,ln 1 61,lt 60 62]) (c 63 (O 64 [m 10,m 1,m 11,ix 6 65 66,h 6 67,E (.buildS [.int .u64 0,.int .u8 0,.str [],.ro 1 [] true,.int .i64 0,.bool false] 1 [(0,T 68)]),E (.app [.int .u64 0,.int .u8 0,.str [],.ro 1 [] true,.int .i64 0,.bool false] 72 false (T 64) (T 69)),d 10 (m 70)])))
def w461_B1:WCode:=zd (s (s (O 45 [m 12,m 3,ln 1 46,lt 45 47]) (cc 48 (w .skip) (ee 2))) (s (B 3 (V 51 [m 10,h 2 4,m 3,m 12,ix 4 53 54,h 4 55,ca 240 [52,56],E (.buildS [.int .u64 0,.int .u8 0,.str [],.ro 1 [] true,.int .i64 0,.bool false] 1 [(0,T 57)]),E (.app [.int .u64 0,.int .u8 0,.str [],.ro 1 [] true,.int .i64 0,.bool false] 72 false (T 51) (T 58)),d 10 (m 59)] [] ⟨false,[],[]⟩)) (Q 49 [m 12,adi 49 1,d 12 (m 50)] [12,11,10,4,3,2,1])))
def w461_L1:WCode:=.loop ⟨true,[12,11,10,4,3,2,1],[]⟩ w461_B1
def w461_B0:WCode:=zd (s (s (O 36 [m 11,m 1,ln 1 37,le 36 38]) (cc 39 (w .skip) (ee 0))) (s (bk 1 (s (s (O 42 [m 11,m 2,eq 42 43]) (c 44 (s (O 12 [i 0]) (bk 2 w461_L1 ⟨true,[11,10,4,3,2,1],[]⟩)))) w461_c2) ⟨true,[11,10,4,3,2,1],[]⟩) w461_c1))
def w461_L0:WCode:=.loop ⟨true,[11,10,4,3,2,1],[]⟩ w461_B0
def w461:WFn:=⟨4,[.tmp 8,.tmp 9],zd (s (O 8 [d 4 (bx 0),E (.mv (.c (.ro 6 [] true))),i 0]) (s (s (Q 13 [m 2,lti 13 0,m 14,z 15 (m 2),z 15 (m 1),z 15 (ln 1 17),z 15 (gt 16 18),po 15 19] [20,4,3,2,1]) (c 20 (r (O 8 [E (.mv (.c (.ro 6 [] true))),i 4])))) (s (s (O 21 [m 1,ln 1 21,m 3,ln 1 23,ad 22 24,gti 25 1024]) (c 26 (r (O 8 [E (.mv (.c (.ro 6 [] true))),i 3])))) (s (s (O 27 [h 2 4,m 1,m 3,ca 532 [27,28,29],gti 30 0]) (c 31 (r (O 32 [h 2 4,m 1,m 3,ca 532 [32,33,34],d 8 (E (.mv (.c (.ro 6 [] true)))),d 9 (m 35)])))) (s (R 10 [E (.mv (.c (.ro 6 [] true)))] ⟨true,[10,4,3,2,1],[(10,6)]⟩) (s (s (O 11 [i 0]) (bk 0 w461_L0 ⟨true,[10],[]⟩)) w461_c0))))))⟩
@[simp] theorem w461_E1:ZL w461_L1 w461_B1 ⟨true,[12,11,10,4,3,2,1],[]⟩:=ck_lp rfl
noncomputable abbrev w461_K1 (C:WProg) (s:WSt):Option AV:=CK C 0 (pureFin [.tmp 8,.tmp 9]) [.sq w461_L1,.bk 2 ⟨true,[11,10,4,3,2,1],[]⟩,.sq w461_c2,.bk 1 ⟨true,[11,10,4,3,2,1],[]⟩,.sq w461_c1,.sq w461_L0,.bk 0 ⟨true,[10],[]⟩,.sq w461_c0] w461_B1 s
@[simp] theorem w461_E0:ZL w461_L0 w461_B0 ⟨true,[11,10,4,3,2,1],[]⟩:=ck_lp rfl
noncomputable abbrev w461_K0 (C:WProg) (s:WSt):Option AV:=CK C 0 (pureFin [.tmp 8,.tmp 9]) [.sq w461_L0,.bk 0 ⟨true,[10],[]⟩,.sq w461_c0] w461_B0 s
def w241_c0:WCode:=zd (r (O 6 [d 39 (m 8),m 39,i 0]))
def w241_B0:WCode:=zd (s (s (O 16 [m 9,m 0,ln 1 17,lt 16 18]) (cc 19 (w .skip) (ee 0))) (s (B 1 (s (Q 22 [m 9,m 1,lt 22 23,m 24,z 25 (m 9),z 25 (m 1),z 25 (m 2),z 25 (ad 27 28),z 25 (ge 26 29),po 25 30] [31,9,8,2,1,0]) (c 31 (O 32 [m 8,m 0,m 9,ix 6 33 34,h 6 35,E (.buildS [.int .u64 0,.int .u8 0,.str [],.ro 1 [] true,.int .i64 0,.bool false] 1 [(0,T 36)]),E (.app [.int .u64 0,.int .u8 0,.str [],.ro 1 [] true,.int .i64 0,.bool false] 72 false (T 32) (T 37)),d 8 (m 38)])))) (O 20 [m 9,adi 20 1,d 9 (m 21)])))
def w241_L0:WCode:=.loop ⟨true,[9,8,2,1,0],[]⟩ w241_B0
def w241:WFn:=⟨3,[.tmp 6,.tmp 7],zd (s (O 6 [E (.mv (.c (.ro 6 [] true))),i 0]) (s (s (O 10 [m 1,m 2,m 0,ln 1 12,ca 410 [10,11,13],eqi 14 0]) (c 15 (r (O 6 [E (.mv (.c (.ro 6 [] true))),i 4])))) (s (R 8 [E (.mv (.c (.ro 6 [] true)))] ⟨true,[8,2,1,0],[(8,6)]⟩) (s (s (O 9 [i 0]) (bk 0 w241_L0 ⟨true,[8],[]⟩)) w241_c0))))⟩
@[simp] theorem w241_E0:ZL w241_L0 w241_B0 ⟨true,[9,8,2,1,0],[]⟩:=ck_lp rfl
noncomputable abbrev w241_K0 (C:WProg) (s:WSt):Option AV:=CK C 0 (pureFin [.tmp 6,.tmp 7]) [.sq w241_L0,.bk 0 ⟨true,[8],[]⟩,.sq w241_c0] w241_B0 s
def w242_c0:WCode:=zd (r (O 8 [d 73 (m 12),m 73,i 0]))
def w242_c1:WCode:=zd (O 41 [m 13,adi 41 1,d 13 (m 42)])
def w242_c2:WCode:=zd (s (O 62 [m 13,m 10,ln 1 63,lt 62 64]) (c 65 (O 66 [m 12,m 10,m 13,ix 6 67 68,h 6 69,E (.buildS [.int .u64 0,.int .u8 0,.str [],.ro 1 [] true,.int .i64 0,.bool false] 1 [(0,T 70)]),E (.app [.int .u64 0,.int .u8 0,.str [],.ro 1 [] true,.int .i64 0,.bool false] 72 false (T 66) (T 71)),d 12 (m 72)])))
def w242_B1:WCode:=zd (s (s (O 43 [m 13,m 3,eq 43 44,m 45,y 46 (m 14),y 46 (m 2),y 46 (lt 47 48),pa 46 49]) (cc 50 (w .skip) (ee 2))) (s (B 3 (Q 53 [m 12,m 0,m 1,m 14,ad 55 56,ix 6 54 57,h 6 58,E (.buildS [.int .u64 0,.int .u8 0,.str [],.ro 1 [] true,.int .i64 0,.bool false] 1 [(0,T 59)]),E (.app [.int .u64 0,.int .u8 0,.str [],.ro 1 [] true,.int .i64 0,.bool false] 72 false (T 53) (T 60)),d 12 (m 61)] [14,13,12,10,3,2,1,0])) (O 51 [m 14,adi 51 1,d 14 (m 52)])))
def w242_L1:WCode:=.loop ⟨true,[14,13,12,10,3,2,1,0],[]⟩ w242_B1
def w242_B0:WCode:=zd (s (s (O 37 [m 13,m 10,ln 1 38,le 37 39]) (cc 40 (w .skip) (ee 0))) (s (bk 1 (s (s (O 14 [i 0]) (bk 2 w242_L1 ⟨true,[13,12,10,3,2,1,0],[]⟩)) w242_c2) ⟨true,[13,12,10,3,2,1,0],[]⟩) w242_c1))
def w242_L0:WCode:=.loop ⟨true,[13,12,10,3,2,1,0],[]⟩ w242_B0
def w242:WFn:=⟨4,[.tmp 8,.tmp 9],zd (s (O 8 [E (.mv (.c (.ro 6 [] true))),i 0]) (s (s (O 15 [m 1,m 2,m 0,ln 1 17,ca 410 [15,16,18],eqi 19 0,m 20,z 21 (m 3),z 21 (m 0),z 21 (ln 1 23),z 21 (m 2),z 21 (sb 24 25),z 21 (E (.call 410 [T 22,N 0,T 26])),z 21 (eqi 27 0),po 21 28]) (c 29 (r (O 8 [E (.mv (.c (.ro 6 [] true))),i 4])))) (s (Q 31 [m 0,m 1,m 2,ca 241 [31,32,33],d 30 (m 34),ex 0 30,ex 1 30,d 10 (m 35),d 11 (m 36)] [10,3,2,1,0]) (s (R 12 [E (.mv (.c (.ro 6 [] true)))] ⟨true,[12,10,3,2,1,0],[(12,6)]⟩) (s (s (O 13 [i 0]) (bk 0 w242_L0 ⟨true,[12],[]⟩)) w242_c0)))))⟩
@[simp] theorem w242_E1:ZL w242_L1 w242_B1 ⟨true,[14,13,12,10,3,2,1,0],[]⟩:=ck_lp rfl
noncomputable abbrev w242_K1 (C:WProg) (s:WSt):Option AV:=CK C 0 (pureFin [.tmp 8,.tmp 9]) [.sq w242_L1,.bk 2 ⟨true,[13,12,10,3,2,1,0],[]⟩,.sq w242_c2,.bk 1 ⟨true,[13,12,10,3,2,1,0],[]⟩,.sq w242_c1,.sq w242_L0,.bk 0 ⟨true,[12],[]⟩,.sq w242_c0] w242_B1 s
@[simp] theorem w242_E0:ZL w242_L0 w242_B0 ⟨true,[13,12,10,3,2,1,0],[]⟩:=ck_lp rfl
noncomputable abbrev w242_K0 (C:WProg) (s:WSt):Option AV:=CK C 0 (pureFin [.tmp 8,.tmp 9]) [.sq w242_L0,.bk 0 ⟨true,[12],[]⟩,.sq w242_c0] w242_B0 s
def w462_c0:WCode:=zd (s (s (O 76 [m 10,ca 407 [76],gti 77 0]) (c 78 (r (O 8 [E (.mv (.c (.ro 6 [] true))),i 13])))) (r (O 8 [d 79 (m 10),m 79,i 0])))
def w462_B0:WCode:=zd (s (s (O 34 [m 12,m 3,ln 1 35,lt 34 36]) (cc 37 (w .skip) (ee 2))) (s (B 3 (s (U 40 [h 2 4,m 3,m 12,ix 4 41 42,h 4 43,E (.call 271 [T 40,T 44,N 0]),d 13 (m 45)] [] [13,12,10,4,3,2,1]) (s (s (O 46 [m 13,eqi 46 6]) (c 47 (r (O 8 [E (.mv (.c (.ro 6 [] true))),i 6])))) (s (s (V 48 [m 1,m 2,m 12,ad 49 50,ix 6 48 51,f 0 52,f 0 53,l 1 54,m 3,m 12,ix 4 56 57,f 0 58,l 1 59,ne 55 60] [] ⟨false,[],[]⟩) (c 61 (r (O 8 [E (.mv (.c (.ro 6 [] true))),i 9])))) (s (s (O 62 [m 13,gti 62 0]) (c 63 (r (Q 8 [d 64 (m 13),E (.mv (.c (.ro 6 [] true))),m 64] [9,8])))) (V 65 [m 10,m 2,m 12,ad 66 67,h 2 4,m 3,m 12,ix 4 70 71,h 4 72,ca 240 [69,73],ix 6 65 68,n (st 6 75 74)] [] ⟨false,[],[]⟩)))))) (O 38 [m 12,adi 38 1,d 12 (m 39)])))
def w462_L0:WCode:=.loop ⟨true,[12,10,4,3,2,1],[]⟩ w462_B0
def w462_c1:WCode:=zd (s (s (O 12 [i 0]) (bk 2 w462_L0 ⟨true,[10],[]⟩)) w462_c0)
def w462_B1:WCode:=zd (s (s (O 21 [m 11,m 1,ln 1 22,lt 21 23]) (cc 24 (w .skip) (ee 0))) (s (B 1 (O 27 [m 10,m 1,m 11,ix 6 28 29,h 6 30,E (.buildS [.int .u64 0,.int .u8 0,.str [],.ro 1 [] true,.int .i64 0,.bool false] 1 [(0,T 31)]),E (.app [.int .u64 0,.int .u8 0,.str [],.ro 1 [] true,.int .i64 0,.bool false] 72 false (T 27) (T 32)),d 10 (m 33)])) (O 25 [m 11,adi 25 1,d 11 (m 26)])))
def w462_L1:WCode:=.loop ⟨true,[11,10,4,3,2,1],[]⟩ w462_B1
def w462:WFn:=⟨4,[.tmp 8,.tmp 9],zd (s (O 8 [d 4 (bx 0),E (.mv (.c (.ro 6 [] true))),i 0]) (s (s (O 14 [m 2,m 3,ln 1 15,m 1,ln 1 17,ca 410 [14,16,18],eqi 19 0]) (c 20 (r (Q 8 [E (.mv (.c (.ro 6 [] true))),i 4] [9,8])))) (s (R 10 [E (.mv (.c (.ro 6 [] true)))] ⟨true,[10,4,3,2,1],[(10,6)]⟩) (s (s (O 11 [i 0]) (bk 0 w462_L1 ⟨true,[10,4,3,2,1],[]⟩)) w462_c1))))⟩
@[simp] theorem w462_E0:ZL w462_L0 w462_B0 ⟨true,[12,10,4,3,2,1],[]⟩:=ck_lp rfl
noncomputable abbrev w462_K0 (C:WProg) (s:WSt):Option AV:=CK C 0 (pureFin [.tmp 8,.tmp 9]) [.sq w462_L0,.bk 2 ⟨true,[10],[]⟩,.sq w462_c0] w462_B0 s
@[simp] theorem w462_E1:ZL w462_L1 w462_B1 ⟨true,[11,10,4,3,2,1],[]⟩:=ck_lp rfl
noncomputable abbrev w462_K1 (C:WProg) (s:WSt):Option AV:=CK C 0 (pureFin [.tmp 8,.tmp 9]) [.sq w462_L1,.bk 0 ⟨true,[10,4,3,2,1],[]⟩,.sq w462_c1] w462_B1 s
def w463:WFn:=⟨2,[.tmp 4,.tmp 5],zd (s (O 4 [d 2 (bx 0),E (.mv (.c (.ro 6 [] true))),i 0]) (r (O 6 [h 2 2,m 1,E (.call 461 [T 6,.c (.ro 6 [] true),N 0,T 7]),ex 0 8,ex 1 8,d 4 (m 9),d 5 (m 10)])))⟩
def w455:WFn:=⟨1,[.cell 2 4 true],zd (s (O 2 [E (.alloc [.int .i64 0,.int .i64 0,.int .i64 0,.int .i64 0])]) (s (s (O 3 [m 0]) (B 0 (s (s (O 5 [E (.bin .eql (T 3) (.c (.int .u8 1))),d 4 (m 5)]) (cc 4 (w .skip) (O 6 [E (.bin .eql (T 3) (.c (.int .u8 4))),d 4 (m 6)]))) (cc 4 (r (O 7 [E (.build [.int .i64 0,.int .i64 0,.int .i64 0,.int .i64 0] [(0,1,N 1),(1,1,N 0),(2,1,N 0),(3,1,N 1)]),n (st 4 2 7)])) (s (O 9 [E (.bin .eql (T 3) (.c (.int .u8 2))),d 8 (m 9)]) (cc 8 (r (O 10 [E (.build [.int .i64 0,.int .i64 0,.int .i64 0,.int .i64 0] [(0,1,N 1),(1,1,N 1),(2,1,N 0),(3,1,N 0)]),n (st 4 2 10)])) (s (O 12 [E (.bin .eql (T 3) (.c (.int .u8 3))),d 11 (m 12)]) (cc 11 (r (O 13 [E (.build [.int .i64 0,.int .i64 0,.int .i64 0,.int .i64 0] [(0,1,N 1),(1,1,N 1),(2,1,N 1),(3,1,N 0)]),n (st 4 2 13)])) (s (O 15 [E (.bin .eql (T 3) (.c (.int .u8 5))),d 14 (m 15)]) (c 14 (r (O 16 [E (.build [.int .i64 0,.int .i64 0,.int .i64 0,.int .i64 0] [(0,1,N 0),(1,1,N 0),(2,1,N 0),(3,1,N 1)]),n (st 4 2 16)])))))))))))) (r (O 17 [E (.build [.int .i64 0,.int .i64 0,.int .i64 0,.int .i64 0] []),n (st 4 2 17)]))))⟩
def w456_c0:WCode:=zd (r (O 46 [m 9,d 8 (m 46)]))
def w456_B0:WCode:=zd (s (s (O 11 [m 10,m 0,ln 1 12,le 11 13]) (cc 14 (w .skip) (ee 0))) (s (B 1 (s (s (O 17 [m 10,m 1,eq 17 18]) (c 19 (O 20 [m 9,m 3,E (.app [.int .u64 0,.int .u8 0,.str [],.ro 1 [] true] 56 false (T 20) (T 21)),d 9 (m 22)]))) (s (Q 23 [m 10,m 0,ln 1 24,lt 23 25,m 26,y 27 (m 10),y 27 (m 1),y 27 (lt 28 29),y 27 (m 30),z 31 (m 10),z 31 (m 1),z 31 (m 2),z 31 (ad 33 34),z 31 (ge 32 35),y 27 (po 31 36),pa 27 37] [38,10,9,3,2,1,0]) (c 38 (O 39 [m 9,m 0,m 10,ix 4 40 41,h 4 42,E (.buildS [.int .u64 0,.int .u8 0,.str [],.ro 1 [] true] 1 [(0,T 43)]),E (.app [.int .u64 0,.int .u8 0,.str [],.ro 1 [] true] 56 false (T 39) (T 44)),d 9 (m 45)]))))) (O 15 [m 10,adi 15 1,d 10 (m 16)])))
def w456_L0:WCode:=.loop ⟨true,[10,9,3,2,1,0],[]⟩ w456_B0
def w456:WFn:=⟨4,[.tmp 8],zd (s (O 8 [E (.mv (.c (.ro 4 [] true)))]) (s (R 9 [E (.mv (.c (.ro 4 [] true)))] ⟨true,[9,3,2,1,0],[(9,4)]⟩) (s (s (O 10 [i 0]) (bk 0 w456_L0 ⟨true,[9],[]⟩)) w456_c0)))⟩
@[simp] theorem w456_E0:ZL w456_L0 w456_B0 ⟨true,[10,9,3,2,1,0],[]⟩:=ck_lp rfl
noncomputable abbrev w456_K0 (C:WProg) (s:WSt):Option AV:=CK C 0 (pureFin [.tmp 8]) [.sq w456_L0,.bk 0 ⟨true,[9],[]⟩,.sq w456_c0] w456_B0 s
def w410:WFn:=⟨3,[.tmp 6],zd (s (O 6 [i 0]) (r (O 7 [m 0,gei 7 0,m 8,y 9 (m 0),y 9 (m 2),y 9 (le 10 11),pa 9 12,m 13,y 14 (m 1),y 14 (gei 15 0),pa 14 16,m 17,y 18 (m 1),y 18 (m 2),y 18 (m 0),y 18 (sb 20 21),y 18 (le 19 22),pa 18 23,ca 406 [24],d 6 (m 25)])))⟩
def w458:WFn:=⟨4,[.tmp 8],zd (s (O 8 [E (.mv (.c (.ro 4 [] true)))]) (r (V 9 [m 0,m 1,E (.slice 4 (T 9) none (some (T 10)) none),m 3,m 0,m 1,m 2,ad 14 15,E (.slice 4 (T 13) (some (T 16)) none none),E (.buildS [.ro 4 [] true] 3 [(0,T 11),(1,T 12),(2,T 17)]),ca 531 [18],d 8 (m 19)] [] ⟨false,[],[]⟩)))⟩
def w459:WFn:=⟨1,[.tmp 2],zd (s (O 2 [E (.mv (.c (.ro 4 [] true)))]) (s (s (O 4 [m 0,ln 1 4,eqi 5 0]) (c 6 (r (O 2 [E (.mv (.c (.ro 4 [] true)))])))) (s (O 7 [m 0,ln 1 7,E (.mksl [.int .u64 0,.int .u8 0,.str [],.ro 1 [] true] 56 (T 8) (T 8)),d 3 (m 9)]) (s (O 10 [m 3,m 0,E (.cpy 4 (T 10) (T 11))]) (r (O 13 [m 3,d 2 (m 13)]))))))⟩
def w460:WFn:=⟨1,[.tmp 2],zd (s (O 2 [E (.mv (.c (.ro 1 [] true)))]) (s (s (O 4 [m 0,ln 1 4,eqi 5 0]) (c 6 (r (O 2 [E (.mv (.c (.ro 1 [] true)))])))) (s (O 7 [m 0,ln 1 7,E (.mksl [.str []] 16 (T 8) (T 8)),d 3 (m 9)]) (s (O 10 [m 3,m 0,E (.cpy 1 (T 10) (T 11))]) (r (O 13 [m 3,d 2 (m 13)]))))))⟩
def w230:WFn:=⟨1,[.tmp 2],zd (s (O 1 [bx 0,ff]) (r (O 3 [f 6 1,l 1 3,ca 225 [4],nt 5,m 6,z 7 (f 0 1),z 7 (h 6 8),z 7 (ca 231 [9]),z 7 (nei 10 0),po 7 11,d 2 (m 12)])))⟩
def w231:WFn:=⟨1,[.tmp 2],zd (s (O 1 [bx 0,i 0]) (s (s (O 3 [h 6 1,ca 404 [3],eqi 4 0]) (c 5 (r (O 2 [i 14])))) (r (O 2 [i 0]))))⟩
def w232:WFn:=⟨2,[.tmp 4],zd (s (O 4 [ff]) (r (O 5 [m 0,m 1,ca 405 [5,6],gei 7 0,d 4 (m 8)])))⟩
def w408:WFn:=⟨1,[.tmp 2],zd (s (O 1 [bx 0,i 0]) (s (s (O 3 [h 6 1,ca 505 [3],eqi 4 0]) (c 5 (r (O 2 [i 14])))) (r (O 2 [i 0]))))⟩
def w77:WFn:=⟨1,[.tmp 2],zd (s (O 2 [ff]) (r (O 3 [m 0,lti 3 0,m 4,z 5 (m 0),z 5 (gti 6 4096),po 5 7,d 2 (m 8)])))⟩
def w73_c0:WCode:=zd (r (O 31 [h 2 8,n (st 2 6 31),d 7 (i 0)]))
def w73_B0:WCode:=zd (s (O 21 [lt 20 19]) (s (cc 21 (w .skip) (ee 0)) (s (B 1 (s (O 22 [m 20,d 9 (m 22)]) (V 23 [f 1 8,l 1 23,m 9,m 2,m 9,E (.callv (T 26) [T 27]),ix 1 24 25,n (st 1 29 28)] [(1,5)] ⟨false,[],[]⟩))) (O 30 [adi 20 1,d 20 (m 30)]))))
def w73_L0:WCode:=.loop ⟨true,[20,19,8,6,2],[]⟩ w73_B0
def w73:WFn:=⟨3,[.cell 6 2 true,.tmp 7],zd (s (O 6 [E (.alloc [.int .i64 0,.ro 1 [] true]),i 0]) (s (O 10 [m 0,E (.build [.int .i64 0,.ro 1 [] true] [(0,1,T 10)]),d 8 (E (.alloc [.int .i64 0,.ro 1 [] true])),n (st 2 8 11)]) (s (s (O 12 [m 1,gti 12 0]) (c 13 (Q 14 [m 1,E (.mksl [.int .i64 0] 8 (T 14) (T 14)),f 1 8,n (st 1 16 15)] [8,6,2]))) (s (s (O 17 [f 1 8,l 1 17,ln 1 18,i 0]) (bk 0 w73_L0 ⟨true,[8,6],[]⟩)) w73_c0))))⟩
@[simp] theorem w73_E0:ZL w73_L0 w73_B0 ⟨true,[20,19,8,6,2],[]⟩:=ck_lp rfl
noncomputable abbrev w73_K0 (C:WProg) (s:WSt):Option AV:=CK C 0 (pureFin [.cell 6 2 true,.tmp 7]) [.sq w73_L0,.bk 0 ⟨true,[8,6],[]⟩,.sq w73_c0] w73_B0 s
def w81:WFn:=⟨1,[.tmp 2],zd (s (O 2 [i 0]) (r (O 3 [m 0,d 2 (m 3)])))⟩
def w564:WFn:=⟨2,[.tmp 4],zd (s (O 2 [bx 0,bx 1,E (.mv (.c .nilf))]) (r (O 5 [E (.mkfn 565 [T 2,T 3]),d 4 (m 5)])))⟩
def w565:WFn:=⟨3,[.tmp 4],zd (s (O 4 [ff]) (r (O 5 [m 0,l 1 1,ge 5 6,m 7,y 8 (m 0),y 8 (l 1 1),y 8 (l 1 2),y 8 (ad 10 11),y 8 (lt 9 12),pa 8 13,d 4 (m 14)])))⟩
def w66:WFn:=⟨3,[.cell 6 2 true,.tmp 7],zd (s (O 4 [bx 1,bx 2,E (.alloc [.int .i64 0,.ro 1 [] true]),i 0]) (s (B 0 (s (Q 9 [m 0,ca 77 [9],m 10,z 11 (l 1 4),z 11 (lti 12 0),po 11 13,m 14,z 15 (l 1 4),z 15 (m 0),z 15 (gt 16 17),po 15 18,m 19,z 20 (l 1 5),z 20 (lti 21 0),po 20 22,d 8 (m 23)] [8,6,5,4,0]) (cc 8 (r (O 24 [E (.build [.int .i64 0,.ro 1 [] true] []),n (st 2 6 24),d 7 (i 4)])) (s (O 26 [l 1 5,m 0,E (.bin .sub (N 4096) (T 27)),gt 26 28,d 25 (m 29)]) (c 25 (r (O 30 [E (.build [.int .i64 0,.ro 1 [] true] []),n (st 2 6 30),d 7 (i 3)]))))))) (r (O 31 [m 0,m 0,l 1 5,ad 32 33,E (.mkfn 82 [T 4,T 5]),ca 1073 [31,34,35],ex 0 36,ex 1 36,n (st 2 6 37),d 7 (m 38)]))))⟩
def w67:WFn:=⟨3,[.cell 6 2 true,.tmp 7],zd (s (Q 4 [bx 1,bx 2,E (.alloc [.int .i64 0,.ro 1 [] true]),i 0] [6,5,4,0]) (s (s (O 8 [m 0,ca 77 [8],m 9,z 10 (m 0),z 10 (l 1 4),z 10 (l 1 5),z 10 (ca 78 [11,12,13]),po 10 14]) (c 15 (r (O 16 [E (.build [.int .i64 0,.ro 1 [] true] []),n (st 2 6 16),d 7 (i 4)])))) (r (O 17 [m 0,m 0,l 1 5,sb 18 19,E (.mkfn 83 [T 4,T 5]),ca 1073 [17,20,21],ex 0 22,ex 1 22,n (st 2 6 23),d 7 (m 24)]))))⟩
def w62:WFn:=⟨4,[.cell 8 2 true,.tmp 9],zd (s (O 5 [bx 1,bx 2,bx 3,E (.alloc [.int .i64 0,.ro 1 [] true]),i 0]) (s (s (Q 11 [m 0,ca 77 [11],m 12,z 13 (m 0),z 13 (l 1 5),z 13 (l 1 6),z 13 (ca 78 [14,15,16]),po 13 17,m 18,z 19 (l 1 7),z 19 (lti 20 0),po 19 21,m 22,z 23 (l 1 7),z 23 (m 0),z 23 (l 1 6),z 23 (sb 25 26),z 23 (gt 24 27),po 23 28] [29,8,7,6,5,0]) (c 29 (r (O 30 [E (.build [.int .i64 0,.ro 1 [] true] []),n (st 2 8 30),d 9 (i 4)])))) (s (O 31 [E (.mkfn 79 [T 5,T 6]),d 10 (E (.alloc [.nilf])),n (st 1 10 31)]) (r (O 32 [m 0,m 0,E (.mkfn 80 [T 7,T 10,T 6,T 5]),ca 1073 [32,33,34],ex 0 35,ex 1 35,n (st 2 8 36),d 9 (m 37)])))))⟩
def w74:WFn:=⟨3,[.tmp 4],zd (s (O 4 [i 0]) (s (s (O 6 [f 1 1,l 1 6,m 0,ix 1 7 8,l 1 9,d 5 (m 10)]) (s (O 11 [m 5,gei 11 0]) (c 12 (r (O 13 [f 1 2,l 1 13,m 5,ix 1 14 15,l 1 16,d 4 (m 17)]))))) (r (O 4 [i (-1)]))))⟩
def w469:WFn:=⟨1,[.tmp 2],zd (s (O 2 [E (.mv (.c (.ro 1 [] true)))]) (s (s (O 4 [m 0,ln 1 4,eqi 5 0]) (c 6 (r (O 2 [E (.mv (.c (.ro 1 [] true)))])))) (s (O 7 [m 0,ln 1 7,E (.mksl [.bool false] 1 (T 8) (T 8)),d 3 (m 9)]) (s (O 10 [m 3,m 0,E (.cpy 1 (T 10) (T 11))]) (r (O 13 [m 3,d 2 (m 13)]))))))⟩
def w504_c0:WCode:=zd (r (O 27 [m 3,E (.cvt .i64 (T 27)),d 2 (m 28)]))
def w504_B0:WCode:=zd (s (s (O 5 [m 4,m 0,ln 1 6,lt 5 7]) (cc 8 (w .skip) (ee 0))) (s (B 1 (s (s (Q 11 [m 0,m 4,ix 6 11 12,f 4 13,l 1 14,gti 15 0] [16,4,3,0]) (c 16 (O 17 [m 3,m 0,m 4,ix 6 18 19,f 4 20,l 1 21,E (.cvt .u64 (T 22)),ad 17 23,d 3 (m 24)]))) (s (O 25 [m 3,E (.bin .gtr (T 25) (.c (.int .u64 4611686018427387904)))]) (c 26 (r (O 2 [i 4611686018427387905])))))) (O 9 [m 4,adi 9 1,d 4 (m 10)])))
def w504_L0:WCode:=.loop ⟨true,[4,3,0],[]⟩ w504_B0
def w504:WFn:=⟨1,[.tmp 2],zd (s (O 2 [i 0]) (s (O 3 [E (.mv (.c (.int .u64 0)))]) (s (s (O 4 [i 0]) (bk 0 w504_L0 ⟨true,[3],[]⟩)) w504_c0)))⟩
@[simp] theorem w504_E0:ZL w504_L0 w504_B0 ⟨true,[4,3,0],[]⟩:=ck_lp rfl
noncomputable abbrev w504_K0 (C:WProg) (s:WSt):Option AV:=CK C 0 (pureFin [.tmp 2]) [.sq w504_L0,.bk 0 ⟨true,[3],[]⟩,.sq w504_c0] w504_B0 s
def w217_c0:WCode:=zd (r (O 18 [E (.mkfn 401 [T 3]),d 2 (m 18)]))
def w217_B0:WCode:=zd (s (O 10 [lt 9 8]) (s (cc 10 (w .skip) (ee 0)) (s (B 1 (s (O 11 [ix 6 7 9,h 6 11,d 5 (E (.alloc [.int .u64 0,.int .u8 0,.str [],.ro 1 [] true,.int .i64 0,.bool false])),n (st 6 5 12)]) (O 13 [l 1 3,f 0 5,f 0 14,l 1 15,n (E (.upd 0 (T 13) (T 16) (.c (.bool true))))]))) (O 17 [adi 9 1,d 9 (m 17)]))))
def w217_L0:WCode:=.loop ⟨true,[9,8,7,3],[]⟩ w217_B0
def w217:WFn:=⟨1,[.tmp 2],zd (s (O 2 [E (.mv (.c .nilf))]) (s (O 6 [E .mkmap,d 3 (E (.alloc [.nilm])),n (st 1 3 6)]) (s (s (O 7 [m 0,ln 1 7,i 0]) (bk 0 w217_L0 ⟨true,[3],[]⟩)) w217_c0)))⟩
@[simp] theorem w217_E0:ZL w217_L0 w217_B0 ⟨true,[9,8,7,3],[]⟩:=ck_lp rfl
def w218:WFn:=⟨1,[.tmp 2],zd (s (O 2 [E (.mv (.c (.ro 6 [] true)))]) (r (O 3 [m 0,d 2 (m 3)])))⟩
def w510_c0:WCode:=zd (r (O 2 [i 1]))
def w510_B0:WCode:=zd (s (s (O 7 [m 3,m 0,ln 0 8,lt 7 9]) (cc 10 (w .skip) (ee 0))) (s (B 1 (s (O 13 [m 0,m 3,E (.idxstr (T 13) (T 14)),E (.bin .lss (T 15) (.c (.int .u8 32))),m 16,z 17 (m 0),z 17 (m 3),z 17 (E (.idxstr (T 18) (T 19))),z 17 (E (.bin .gtr (T 20) (.c (.int .u8 126)))),po 17 21]) (c 22 (r (O 2 [i 0]))))) (O 11 [m 3,adi 11 1,d 3 (m 12)])))
def w510_L0:WCode:=.loop ⟨true,[3,0],[]⟩ w510_B0
def w510:WFn:=⟨1,[.tmp 2],zd (s (O 2 [i 0]) (s (s (Q 4 [m 0,ln 0 4,gti 5 64] [6,0]) (c 6 (r (O 2 [i 0])))) (s (s (O 3 [i 0]) (bk 0 w510_L0 ⟨true,[],[]⟩)) w510_c0)))⟩
@[simp] theorem w510_E0:ZL w510_L0 w510_B0 ⟨true,[3,0],[]⟩:=ck_lp rfl
noncomputable abbrev w510_K0 (C:WProg) (s:WSt):Option AV:=CK C 0 (pureFin [.tmp 2]) [.sq w510_L0,.bk 0 ⟨true,[],[]⟩,.sq w510_c0] w510_B0 s
def w511_c0:WCode:=zd (r (O 2 [i 1]))
def w511_B0:WCode:=zd (s (s (O 13 [m 3,m 0,ln 0 14,lt 13 15]) (cc 16 (w .skip) (ee 0))) (s (B 1 (s (Q 19 [m 0,m 3,E (.idxstr (T 19) (T 20)),d 4 (m 21)] [4,3,0]) (s (O 22 [m 4,E (.bin .geq (T 22) (.c (.int .u8 97))),m 23,y 24 (m 4),y 24 (E (.bin .leq (T 25) (.c (.int .u8 122)))),pa 24 26,m 27,z 28 (m 4),z 28 (E (.bin .geq (T 29) (.c (.int .u8 48)))),z 28 (m 30),y 31 (m 4),y 31 (E (.bin .leq (T 32) (.c (.int .u8 57)))),z 28 (pa 31 33),po 28 34,nt 35]) (c 36 (r (O 2 [i 0])))))) (O 17 [m 3,adi 17 1,d 3 (m 18)])))
def w511_L0:WCode:=.loop ⟨true,[3,0],[]⟩ w511_B0
def w511:WFn:=⟨1,[.tmp 2],zd (s (O 2 [i 0]) (s (s (O 5 [m 0,ln 0 5,lti 6 1,m 7,z 8 (m 0),z 8 (ln 0 9),z 8 (gti 10 16),po 8 11]) (c 12 (r (O 2 [i 0])))) (s (s (O 3 [i 0]) (bk 0 w511_L0 ⟨true,[],[]⟩)) w511_c0)))⟩
@[simp] theorem w511_E0:ZL w511_L0 w511_B0 ⟨true,[3,0],[]⟩:=ck_lp rfl
noncomputable abbrev w511_K0 (C:WProg) (s:WSt):Option AV:=CK C 0 (pureFin [.tmp 2]) [.sq w511_L0,.bk 0 ⟨true,[],[]⟩,.sq w511_c0] w511_B0 s
def w512_c0:WCode:=zd (r (O 2 [i 0]))
def w512_B0:WCode:=zd (s (s (O 19 [m 3,f 3 1,l 1 20,ln 1 21,lt 19 22]) (cc 23 (w .skip) (ee 0))) (s (B 1 (s (O 26 [f 3 1,l 1 26,m 3,ix 1 27 28,l 1 29,ca 557 [30],nt 31]) (c 32 (r (O 2 [i 6]))))) (O 24 [m 3,adi 24 1,d 3 (m 25)])))
def w512_L0:WCode:=.loop ⟨true,[3,1],[]⟩ w512_B0
def w512:WFn:=⟨1,[.tmp 2],zd (s (O 1 [bx 0,i 0]) (s (s (Q 4 [f 0 1,l 1 4,E (.bin .eql (T 5) (.c (.int .u64 0))),m 6,z 7 (f 2 1),z 7 (l 1 8),z 7 (ca 556 [9]),z 7 (nt 10),po 7 11,m 12,z 13 (f 3 1),z 13 (l 1 14),z 13 (ln 1 15),z 13 (gti 16 8),po 13 17] [18,1]) (c 18 (r (O 2 [i 6])))) (s (s (O 3 [i 0]) (bk 0 w512_L0 ⟨true,[],[]⟩)) w512_c0)))⟩
@[simp] theorem w512_E0:ZL w512_L0 w512_B0 ⟨true,[3,1],[]⟩:=ck_lp rfl
noncomputable abbrev w512_K0 (C:WProg) (s:WSt):Option AV:=CK C 0 (pureFin [.tmp 2]) [.sq w512_L0,.bk 0 ⟨true,[],[]⟩,.sq w512_c0] w512_B0 s
def w513_c0:WCode:=zd (r (O 89 [h 6 7,E (.buildS [.int .u8 0,.str [],.str [],.ro 2 [] true,.str [],.ro 6 [] true] 1 [(0,T 89)]),d 4 (m 90)]))
def w513_B0:WCode:=zd (s (s (O 71 [m 8,f 5 2,l 1 72,ln 1 73,lt 71 74]) (cc 75 (w .skip) (ee 3))) (s (B 4 (V 78 [f 5 7,l 1 78,f 5 2,l 1 80,m 8,ix 6 81 82,h 6 83,h 4 3,ca 513 [84,85],E (.app [.int .u8 0,.str [],.str [],.ro 2 [] true,.str [],.ro 6 [] true] 104 false (T 79) (T 86)),f 5 7,n (st 1 88 87)] [(1,8)] ⟨false,[],[]⟩)) (O 76 [m 8,adi 76 1,d 8 (m 77)])))
def w513_L0:WCode:=.loop ⟨true,[8,7,3,2],[]⟩ w513_B0
def w513_c1:WCode:=zd (s (V 62 [f 1 2,l 1 62,f 2 2,l 1 64,f 3 2,l 1 66,h 4 3,ca 559 [67,68],E (.build [.int .u8 0,.str [],.str [],.ro 2 [] true,.str [],.ro 6 [] true] [(0,1,.c (.int .u8 1)),(1,1,T 63),(2,1,T 65),(3,1,T 69)]),d 7 (E (.alloc [.int .u8 0,.str [],.str [],.ro 2 [] true,.str [],.ro 6 [] true])),n (st 6 7 70)] [(1,7),(3,7),(1,9),(3,9),(5,9),(6,9),(7,9)] ⟨false,[],[]⟩) (s (s (Q 8 [i 0] [8,7,3,2]) (bk 3 w513_L0 ⟨true,[7],[]⟩)) w513_c0))
def w513_c2:WCode:=zd (r (O 61 [m 5,d 4 (m 61)]))
def w513_B1:WCode:=zd (s (s (O 32 [m 6,f 3 3,l 1 33,ln 1 34,lt 32 35]) (cc 36 (w .skip) (ee 1))) (s (B 2 (U 39 [m 5,f 1 2,l 1 40,f 3 3,l 1 42,m 6,ix 1 43 44,l 1 45,f 3 2,l 1 47,h 4 3,ca 559 [48,49],f 3 3,l 1 51,m 6,ix 1 52 53,l 1 54,E (.build [.int .u8 0,.str [],.str [],.ro 2 [] true,.str [],.ro 6 [] true] [(0,1,.c (.int .u8 2)),(4,1,T 55)]),E (.buildS [.int .u8 0,.str [],.str [],.ro 2 [] true,.str [],.ro 6 [] true] 1 [(0,T 56)]),E (.build [.int .u8 0,.str [],.str [],.ro 2 [] true,.str [],.ro 6 [] true] [(0,1,.c (.int .u8 1)),(1,1,T 41),(2,1,T 46),(3,1,T 50),(5,1,T 57)]),E (.buildS [.int .u8 0,.str [],.str [],.ro 2 [] true,.str [],.ro 6 [] true] 1 [(0,T 58)]),E (.app [.int .u8 0,.str [],.str [],.ro 2 [] true,.str [],.ro 6 [] true] 104 false (T 39) (T 59)),d 5 (m 60)] [(2,11),(4,11),(7,11),(11,13),(11,16),(2,18),(4,18),(7,18),(9,18),(10,18),(11,18)] [6,5,3,2])) (O 37 [m 6,adi 37 1,d 6 (m 38)])))
def w513_L1:WCode:=.loop ⟨true,[6,5,3,2],[]⟩ w513_B1
def w513:WFn:=⟨2,[.tmp 4],zd (s (O 2 [bx 0,bx 1,E (.mv (.c (.ro 6 [] true)))]) (s (s (O 9 [f 0 2,l 1 9]) (bk 0 (s (O 12 [E (.bin .eql (T 10) (.c (.int .u8 2))),d 11 (m 12)]) (cc 11 (r (O 13 [f 4 2,l 1 13,E (.build [.int .u8 0,.str [],.str [],.ro 2 [] true,.str [],.ro 6 [] true] [(0,1,.c (.int .u8 2)),(4,1,T 14)]),E (.buildS [.int .u8 0,.str [],.str [],.ro 2 [] true,.str [],.ro 6 [] true] 1 [(0,T 15)]),d 4 (m 16)])) (s (O 18 [E (.bin .eql (T 10) (.c (.int .u8 3))),d 17 (m 18)]) (cc 17 (r (O 19 [f 2 3,l 1 19,E (.build [.int .u8 0,.str [],.str [],.ro 2 [] true,.str [],.ro 6 [] true] [(0,1,.c (.int .u8 2)),(4,1,T 20)]),E (.buildS [.int .u8 0,.str [],.str [],.ro 2 [] true,.str [],.ro 6 [] true] 1 [(0,T 21)]),d 4 (m 22)])) (s (O 24 [E (.bin .eql (T 10) (.c (.int .u8 4))),d 23 (m 24)]) (cc 23 (r (Q 25 [f 0 3,l 1 25,ca 558 [26],E (.build [.int .u8 0,.str [],.str [],.ro 2 [] true,.str [],.ro 6 [] true] [(0,1,.c (.int .u8 2)),(4,1,T 27)]),E (.buildS [.int .u8 0,.str [],.str [],.ro 2 [] true,.str [],.ro 6 [] true] 1 [(0,T 28)]),d 4 (m 29)] [4])) (s (O 31 [E (.bin .eql (T 10) (.c (.int .u8 5))),d 30 (m 31)]) (c 30 (s (R 5 [E (.mv (.c (.ro 6 [] true)))] ⟨true,[5,3,2],[(5,6)]⟩) (s (s (O 6 [i 0]) (bk 1 w513_L1 ⟨true,[5],[]⟩)) w513_c2)))))))))) ⟨true,[3,2],[]⟩)) w513_c1))⟩
@[simp] theorem w513_E0:ZL w513_L0 w513_B0 ⟨true,[8,7,3,2],[]⟩:=ck_lp rfl
noncomputable abbrev w513_K0 (C:WProg) (s:WSt):Option AV:=CK C 0 (pureFin [.tmp 4]) [.sq w513_L0,.bk 3 ⟨true,[7],[]⟩,.sq w513_c0] w513_B0 s
@[simp] theorem w513_E1:ZL w513_L1 w513_B1 ⟨true,[6,5,3,2],[]⟩:=ck_lp rfl
noncomputable abbrev w513_K1 (C:WProg) (s:WSt):Option AV:=CK C 0 (pureFin [.tmp 4]) [.sq w513_L1,.bk 1 ⟨true,[5],[]⟩,.sq w513_c2,.bk 0 ⟨true,[3,2],[]⟩,.sq w513_c1] w513_B1 s
def w441:WFn:=⟨1,[.tmp 2],zd (s (O 1 [bx 0,i 0]) (s (s (O 3 [h 6 1,ca 442 [3],eqi 4 0]) (c 5 (r (O 2 [i 14])))) (r (O 2 [i 0]))))⟩
def w442:WFn:=⟨1,[.tmp 2],zd (s (O 1 [bx 0,i 0]) (s (O 4 [h 6 1,E (.call 520 [T 4,N 6]),d 3 (m 5)]) (s (s (O 6 [m 3,gti 6 64]) (c 7 (r (O 2 [i 0])))) (r (O 8 [m 3,d 2 (m 8)])))))⟩
def w494:WFn:=⟨1,[.tmp 1],zd (s (O 1 [ff]) (r (O 2 [f 2 0,l 1 2,ln 0 3,lei 4 64,m 5,y 6 (f 2 0),y 6 (l 1 7),y 6 (E (.call 495 [T 8,.c (.fn 496 [])])),y 6 (nt 9),pa 6 10,d 1 (m 11)])))⟩
def w495:WFn:=⟨2,[.tmp 4],zd (s (O 4 [ff]) (r (O 5 [m 0,m 1,ca 543 [5,6],gei 7 0,d 4 (m 8)])))⟩
def w496:WFn:=⟨1,[.tmp 2],zd (s (O 2 [ff]) (r (O 3 [m 0,E (.bin .lss (T 3) (.c (.int .i32 32))),m 4,z 5 (m 0),z 5 (E (.bin .gtr (T 6) (.c (.int .i32 126)))),po 5 7,d 2 (m 8)])))⟩
def w497:WFn:=⟨1,[.tmp 1],zd (s (O 1 [ff]) (r (O 2 [f 3 0,l 1 2,ln 1 3,lei 4 8,m 5,y 6 (f 3 0),y 6 (l 1 7),y 6 (E (.call 498 [T 8,.c (.fn 499 [])])),y 6 (nt 9),pa 6 10,d 1 (m 11)])))⟩
def w498:WFn:=⟨2,[.tmp 4],zd (s (O 4 [ff]) (r (O 5 [m 0,m 1,ca 544 [5,6],gei 7 0,d 4 (m 8)])))⟩
def w499:WFn:=⟨1,[.tmp 2],zd (s (O 2 [ff]) (r (O 3 [m 0,ca 500 [3],nt 4,d 2 (m 5)])))⟩
def w500:WFn:=⟨1,[.tmp 2],zd (s (O 2 [ff]) (s (O 3 [E (.mv (.c (.fn 545 [])))]) (r (O 4 [m 0,E (.bin .neq (T 4) (.c (.str []))),m 5,y 6 (m 0),y 6 (ln 0 7),y 6 (lei 8 16),pa 6 9,m 10,y 11 (m 0),y 11 (m 3),y 11 (ca 495 [12,13]),y 11 (nt 14),pa 11 15,d 2 (m 16)]))))⟩
def w501:WFn:=⟨3,[.cell 6 6 true,.tmp 7],zd (s (O 6 [d 3 (bx 0),d 4 (bx 1),E (.alloc [.int .u8 0,.str [],.str [],.ro 2 [] true,.str [],.ro 6 [] true]),i 0]) (s (s (Q 12 [m 2,lti 12 1,m 13,z 14 (m 2),z 14 (gti 15 64),po 14 16] [17,6,4,3,2]) (c 17 (r (O 18 [E (.build [.int .u8 0,.str [],.str [],.ro 2 [] true,.str [],.ro 6 [] true] []),n (st 6 6 18),d 7 (i 1)])))) (s (s (O 19 [h 6 3,ca 231 [19],d 8 (m 20)]) (s (O 21 [m 8,nei 21 0]) (c 22 (r (O 23 [E (.build [.int .u8 0,.str [],.str [],.ro 2 [] true,.str [],.ro 6 [] true] []),m 8,n (st 6 6 23),d 7 (m 24)]))))) (s (s (O 25 [h 4 4,ca 546 [25],d 9 (m 26)]) (s (O 27 [m 9,nei 27 0]) (c 28 (r (O 29 [E (.build [.int .u8 0,.str [],.str [],.ro 2 [] true,.str [],.ro 6 [] true] []),m 9,n (st 6 6 29),d 7 (m 30)]))))) (s (Q 31 [h 4 4,E (.build [.int .u64 0,.int .u8 0,.str [],.ro 1 [] true] [(0,4,T 31)]),h 6 3,E (.buildS [.int .u8 0,.str [],.str [],.ro 3 [] true,.str [],.ro 6 [] true] 1 [(0,T 33)]),ca 547 [32,34],E (.idxs 6 (T 35) (N 0)),h 6 36,d 10 (E (.alloc [.int .u8 0,.str [],.str [],.ro 2 [] true,.str [],.ro 6 [] true])),n (st 6 10 37)] [10,6,2]) (s (s (O 38 [h 6 10,ca 140 [38],d 11 (m 39)]) (s (O 40 [m 11,eqi 40 0,m 41,z 42 (m 11),z 42 (m 2),z 42 (gt 43 44),po 42 45]) (c 46 (r (O 47 [E (.build [.int .u8 0,.str [],.str [],.ro 2 [] true,.str [],.ro 6 [] true] []),n (st 6 6 47),d 7 (i 14)]))))) (r (O 48 [h 6 10,n (st 6 6 48),d 7 (i 0)]))))))))⟩
def w226_c0:WCode:=zd (r (O 32 [m 3,E (.build [.ro 6 [] true] [(0,1,T 32)]),n (st 1 2 33)]))
def w226_B0:WCode:=zd (s (O 16 [lt 15 14]) (s (cc 16 (w .skip) (ee 0)) (s (B 1 (s (Q 17 [m 15,ix 6 13 15,h 6 18,d 5 (E (.alloc [.int .u64 0,.int .u8 0,.str [],.ro 1 [] true,.int .i64 0,.bool false])),d 4 (m 17),n (st 6 5 19)] [15,14,13,5,4,3,2]) (s (O 20 [f 0 5,h 4 20,E (.buildS [.int .u64 0,.int .u8 0,.str [],.ro 1 [] true] 1 [(0,T 21)]),ca 340 [22],E (.idxs 4 (T 23) (N 0)),h 4 24,f 0 5,n (st 4 26 25)]) (O 27 [m 3,m 4,h 6 5,ix 6 27 28,n (st 6 30 29)])))) (O 31 [adi 15 1,d 15 (m 31)]))))
def w226_L0:WCode:=.loop ⟨true,[15,14,13,3,2],[]⟩ w226_B0
def w226:WFn:=⟨1,[.cell 2 1 true],zd (s (O 2 [E (.alloc [.ro 6 [] true])]) (s (s (O 6 [m 0,ln 1 6,eqi 7 0]) (c 8 (r (O 9 [E (.build [.ro 6 [] true] []),n (st 1 2 9)])))) (s (O 10 [m 0,ln 1 10,E (.mksl [.int .u64 0,.int .u8 0,.str [],.ro 1 [] true,.int .i64 0,.bool false] 72 (T 11) (T 11)),d 3 (m 12)]) (s (s (O 13 [m 0,ln 1 13,i 0]) (bk 0 w226_L0 ⟨true,[3,2],[]⟩)) w226_c0))))⟩
@[simp] theorem w226_E0:ZL w226_L0 w226_B0 ⟨true,[15,14,13,3,2],[]⟩:=ck_lp rfl
noncomputable abbrev w226_K0 (C:WProg) (s:WSt):Option AV:=CK C 0 (pureFin [.cell 2 1 true]) [.sq w226_L0,.bk 0 ⟨true,[3,2],[]⟩,.sq w226_c0] w226_B0 s
def w400_c0:WCode:=zd (r (O 31 [m 5,d 4 (m 31)]))
def w400_B0:WCode:=zd (s (Q 14 [lt 13 12] [14,13,12,11,5,2]) (s (cc 14 (w .skip) (ee 0)) (s (B 1 (s (O 15 [m 13,ix 4 11 13,h 4 16,d 7 (E (.alloc [.int .u64 0,.int .u8 0,.str [],.ro 1 [] true])),d 6 (m 15),n (st 4 7 17)]) (V 18 [m 5,m 6,h 4 7,f 0 2,l 1 21,f 1 7,l 1 23,ix 9 22 24,f 6 25,l 1 26,E (.build [.int .u64 0,.int .u8 0,.str [],.ro 1 [] true,.int .i64 0,.bool false] [(0,4,T 20),(4,1,T 27)]),ix 6 18 19,n (st 6 29 28)] [] ⟨false,[],[]⟩))) (O 30 [adi 13 1,d 13 (m 30)]))))
def w400_L0:WCode:=.loop ⟨true,[13,12,11,5,2],[]⟩ w400_B0
def w400:WFn:=⟨2,[.tmp 4],zd (s (O 4 [d 2 (bx 0),E (.mv (.c (.ro 6 [] true)))]) (s (O 8 [m 1,ln 1 8,E (.mksl [.int .u64 0,.int .u8 0,.str [],.ro 1 [] true,.int .i64 0,.bool false] 72 (T 9) (T 9)),d 5 (m 10)]) (s (s (O 11 [m 1,ln 1 11,i 0]) (bk 0 w400_L0 ⟨true,[5],[]⟩)) w400_c0)))⟩
@[simp] theorem w400_E0:ZL w400_L0 w400_B0 ⟨true,[13,12,11,5,2],[]⟩:=ck_lp rfl
noncomputable abbrev w400_K0 (C:WProg) (s:WSt):Option AV:=CK C 0 (pureFin [.tmp 4]) [.sq w400_L0,.bk 0 ⟨true,[5],[]⟩,.sq w400_c0] w400_B0 s
def w526:WFn:=⟨3,[.cell 6 1 true,.tmp 7],zd (s (O 3 [bx 0,bx 1,bx 2,E (.alloc [.ro 6 [] true]),i 0]) (r (O 8 [h 2 3,h 1 4,f 1 5,l 1 10,f 4 5,l 1 12,ca 109 [8,9,11,13],ex 0 14,ex 1 14,n (st 1 6 15),d 7 (m 16)])))⟩
def w109:WFn:=⟨4,[.cell 8 1 true,.tmp 9],zd (s (R 4 [bx 0,bx 1,bx 2,d 8 (E (.alloc [.ro 6 [] true])),d 9 (i 0)] ⟨true,[8,6,5,4,3],[(4,65536),(5,65536),(6,65536)]⟩) (r (U 10 [h 2 4,h 1 5,l 1 6,f 0 5,l 1 13,ln 1 14,E (.call 219 [T 12,N 0,T 15]),f 0 5,l 1 17,ln 1 18,m 3,ln 1 20,ad 19 21,m 3,f 0 5,l 1 24,ca 217 [25],E (.mkfn 220 [T 5,T 6]),E (.build [.bool false,.int .i64 0,.ro 4 [] true,.nilf,.nilf] [(0,1,T 16),(1,1,T 22),(2,1,T 23),(3,1,T 26),(4,1,T 27)]),ca 216 [10,11,28],ex 0 29,ex 1 29,n (st 1 8 30),d 9 (m 31)] [(0,6),(1,6),(6,8),(6,9),(6,11),(6,15),(0,16),(1,16),(8,16),(9,16),(11,16)] [9,8])))⟩
def w527:WFn:=⟨3,[.cell 6 1 true,.tmp 7],zd (s (O 3 [bx 0,bx 1,bx 2,E (.alloc [.ro 6 [] true]),i 0]) (r (O 8 [h 2 3,h 1 4,f 1 5,l 1 10,f 2 5,l 1 12,ca 110 [8,9,11,13],ex 0 14,ex 1 14,n (st 1 6 15),d 7 (m 16)])))⟩
def w528:WFn:=⟨3,[.cell 6 1 true,.tmp 7],zd (s (O 3 [bx 0,bx 1,bx 2,E (.alloc [.ro 6 [] true]),i 0]) (r (O 8 [h 2 3,h 1 4,f 1 5,l 1 10,f 2 5,l 1 12,f 3 5,l 1 14,ca 237 [8,9,11,13,15],ex 0 16,ex 1 16,n (st 1 6 17),d 7 (m 18)])))⟩
def w237:WFn:=⟨5,[.cell 10 1 true,.tmp 11],zd (s (R 5 [bx 0,bx 1,bx 2,bx 3,bx 4,E (.alloc [.ro 6 [] true]),i 0] ⟨true,[10,9,8,7,6,5],[(5,65536),(6,65536),(7,65536),(8,65536),(9,65536)]⟩) (s (Q 13 [l 1 7,l 1 8,f 0 6,l 1 15,ln 1 16,ca 219 [13,14,17],d 12 (m 18)] [12,10,9,8,7,6,5]) (r (V 19 [h 2 5,h 1 6,m 12,m 21,y 22 (l 1 9),y 22 (f 0 6),y 22 (l 1 24),y 22 (ln 1 25),y 22 (l 1 8),y 22 (sb 26 27),y 22 (E (.call 219 [T 23,N 0,T 28])),pa 22 29,E (.mkfn 409 [T 6,T 7,T 8,T 9]),E (.build [.bool false,.int .i64 0,.ro 4 [] true,.nilf,.nilf] [(0,1,T 30),(4,1,T 31)]),ca 216 [19,20,32],ex 0 33,ex 1 33,n (st 1 10 34),d 11 (m 35)] [(0,10),(1,10)] ⟨false,[],[]⟩))))⟩
def w529:WFn:=⟨3,[.cell 6 1 true,.tmp 7],zd (s (O 3 [bx 0,bx 1,bx 2,E (.alloc [.ro 6 [] true]),i 0]) (r (O 8 [h 2 3,h 1 4,f 1 5,l 1 10,f 4 5,l 1 12,ca 114 [8,9,11,13],ex 0 14,ex 1 14,n (st 1 6 15),d 7 (m 16)])))⟩
def w114:WFn:=⟨4,[.cell 8 1 true,.tmp 9],zd (s (R 4 [bx 0,bx 1,bx 2,bx 3,E (.alloc [.ro 6 [] true]),i 0] ⟨true,[8,7,6,5,4],[(4,65536),(5,65536),(6,65536),(7,65536)]⟩) (s (O 11 [E (.mkfn 228 [T 5,T 6]),d 10 (m 11)]) (r (V 12 [h 2 4,h 1 5,l 1 6,l 1 7,ln 1 15,f 0 5,l 1 17,ln 1 18,ca 219 [14,16,19],l 1 7,m 10,E (.mkfn 229 [T 5,T 6,T 7]),E (.build [.bool false,.int .i64 0,.ro 4 [] true,.nilf,.nilf] [(0,1,T 20),(1,1,N 0),(2,1,T 21),(3,1,T 22),(4,1,T 23)]),ca 216 [12,13,24],ex 0 25,ex 1 25,n (st 1 8 26),d 9 (m 27)] [(0,8),(1,8),(8,9)] ⟨false,[],[]⟩))))⟩
def w530:WFn:=⟨3,[.cell 6 1 true,.tmp 7],zd (s (O 3 [bx 0,bx 1,bx 2,E (.alloc [.ro 6 [] true]),i 0]) (r (O 8 [h 2 3,h 1 4,f 4 5,l 1 10,ca 108 [8,9,11],ex 0 12,ex 1 12,n (st 1 6 13),d 7 (m 14)])))⟩
def w532_c0:WCode:=zd (r (O 6 [i 0]))
def w532_B0:WCode:=zd (s (s (O 9 [m 7,m 2,ln 1 10,lt 9 11]) (cc 12 (w .skip) (ee 0))) (s (B 1 (s (U 15 [m 1,m 2,m 7,ix 4 16 17,f 0 18,l 1 19,ca 239 [15,20],gei 21 0,m 22,z 23 (m 2),z 23 (m 7),z 23 (E (.slice 4 (T 24) none (some (T 25)) none)),z 23 (m 2),z 23 (m 7),z 23 (ix 4 27 28),z 23 (f 0 29),z 23 (l 1 30),z 23 (ca 423 [26,31]),z 23 (gei 32 0),po 23 33,ca 406 [34],d 8 (m 35)] [] [8,7,3,2,1]) (s (V 36 [h 2 3,m 2,m 7,ix 4 37 38,h 4 39,m 8,ca 271 [36,40,41],gti 42 0] [] ⟨false,[],[]⟩) (c 43 (r (V 44 [h 2 3,m 2,m 7,ix 4 45 46,h 4 47,m 8,ca 271 [44,48,49],d 6 (m 50)] [] ⟨false,[],[]⟩)))))) (O 13 [m 7,adi 13 1,d 7 (m 14)])))
def w532_L0:WCode:=.loop ⟨true,[7,3,2,1],[]⟩ w532_B0
def w532:WFn:=⟨3,[.tmp 6],zd (s (O 6 [d 3 (bx 0),i 0]) (s (s (O 7 [i 0]) (bk 0 w532_L0 ⟨true,[],[]⟩)) w532_c0))⟩
@[simp] theorem w532_E0:ZL w532_L0 w532_B0 ⟨true,[7,3,2,1],[]⟩:=ck_lp rfl
noncomputable abbrev w532_K0 (C:WProg) (s:WSt):Option AV:=CK C 0 (pureFin [.tmp 6]) [.sq w532_L0,.bk 0 ⟨true,[],[]⟩,.sq w532_c0] w532_B0 s
def w531_c0:WCode:=zd (r (O 35 [m 6,d 2 (m 35)]))
def w531_B0:WCode:=zd (s (O 28 [lt 27 26]) (s (cc 28 (w .skip) (ee 2)) (s (B 3 (s (O 29 [ix 1 25 27,l 1 29,d 8 (m 30)]) (O 31 [m 6,m 8,E (.app [.int .u64 0,.int .u8 0,.str [],.ro 1 [] true] 56 false (T 31) (T 32)),d 6 (m 33)]))) (O 34 [adi 27 1,d 27 (m 34)]))))
def w531_L0:WCode:=.loop ⟨true,[27,26,25,6],[]⟩ w531_B0
def w531_c1:WCode:=zd (s (O 23 [m 3,E (.call 3006 [.c (.ro 4 [] true),T 23]),d 6 (m 24)]) (s (s (O 25 [m 0,ln 1 25,i 0]) (bk 2 w531_L0 ⟨true,[6],[]⟩)) w531_c0))
def w531_B1:WCode:=zd (s (O 12 [lt 11 10]) (s (cc 12 (w .skip) (ee 0)) (s (B 1 (s (O 13 [ix 1 9 11,l 1 13,d 5 (m 14)]) (s (O 15 [m 3,m 5,ln 1 16,ad 15 17,d 3 (m 18)]) (s (Q 19 [m 3,lti 19 0] [20,11,10,9,3,0]) (c 20 (O 21 [E .fail,n (E .fail)])))))) (O 22 [adi 11 1,d 11 (m 22)]))))
def w531_L1:WCode:=.loop ⟨true,[11,10,9,3,0],[]⟩ w531_B1
def w531:WFn:=⟨1,[.tmp 2],zd (s (O 2 [E (.mv (.c (.ro 4 [] true)))]) (s (O 3 [i 0]) (s (s (O 9 [m 0,ln 1 9,i 0]) (bk 0 w531_L1 ⟨true,[3,0],[]⟩)) w531_c1)))⟩
@[simp] theorem w531_E0:ZL w531_L0 w531_B0 ⟨true,[27,26,25,6],[]⟩:=ck_lp rfl
noncomputable abbrev w531_K0 (C:WProg) (s:WSt):Option AV:=CK C 0 (pureFin [.tmp 2]) [.sq w531_L0,.bk 2 ⟨true,[6],[]⟩,.sq w531_c0] w531_B0 s
@[simp] theorem w531_E1:ZL w531_L1 w531_B1 ⟨true,[11,10,9,3,0],[]⟩:=ck_lp rfl
noncomputable abbrev w531_K1 (C:WProg) (s:WSt):Option AV:=CK C 0 (pureFin [.tmp 2]) [.sq w531_L1,.bk 0 ⟨true,[3,0],[]⟩,.sq w531_c1] w531_B1 s
def w404:WFn:=⟨1,[.tmp 2],zd (s (O 1 [bx 0,i 0]) (r (O 3 [E (.call 502 [T 1,.c (.fn 503 [])]),d 2 (m 3)])))⟩
def w405_c0:WCode:=zd (r (O 4 [i (-1)]))
def w405_B0:WCode:=zd (s (O 9 [lt 8 7]) (s (cc 9 (w .skip) (ee 0)) (s (B 1 (s (O 10 [m 8,d 5 (m 10)]) (s (O 11 [m 1,m 0,m 5,ix 9 12 13,h 9 14,E (.callv (T 11) [T 15])]) (c 16 (r (O 17 [m 5,d 4 (m 17)])))))) (O 18 [adi 8 1,d 8 (m 18)]))))
def w405_L0:WCode:=.loop ⟨true,[8,7,1,0],[]⟩ w405_B0
def w405:WFn:=⟨2,[.tmp 4],zd (s (O 4 [i 0]) (s (s (O 6 [m 0,ln 1 6,i 0]) (bk 0 w405_L0 ⟨true,[],[]⟩)) w405_c0))⟩
@[simp] theorem w405_E0:ZL w405_L0 w405_B0 ⟨true,[8,7,1,0],[]⟩:=ck_lp rfl
noncomputable abbrev w405_K0 (C:WProg) (s:WSt):Option AV:=CK C 0 (pureFin [.tmp 4]) [.sq w405_L0,.bk 0 ⟨true,[],[]⟩,.sq w405_c0] w405_B0 s
def w505:WFn:=⟨1,[.tmp 2],zd (s (O 1 [bx 0,i 0]) (s (O 4 [h 6 1,E (.call 550 [T 4,N 6]),d 3 (m 5)]) (s (s (O 6 [f 0 1,l 1 6,E (.bin .neq (T 7) (.c (.int .u8 1))),m 8,z 9 (m 3),z 9 (gti 10 64),po 9 11]) (c 12 (r (O 2 [i 0])))) (r (O 13 [m 3,d 2 (m 13)])))))⟩
def w82:WFn:=⟨3,[.tmp 4],zd (s (O 4 [i 0]) (s (B 0 (s (O 6 [m 0,l 1 1,lt 6 7,d 5 (m 8)]) (cc 5 (r (O 9 [m 0,d 4 (m 9)])) (s (O 11 [m 0,l 1 1,l 1 2,ad 12 13,lt 11 14,d 10 (m 15)]) (c 10 (r (O 4 [i (-1)]))))))) (r (O 16 [m 0,l 1 2,sb 16 17,d 4 (m 18)]))))⟩
def w78:WFn:=⟨3,[.tmp 6],zd (s (O 6 [ff]) (r (O 7 [m 1,lti 7 0,m 8,z 9 (m 2),z 9 (lti 10 0),po 9 11,m 12,z 13 (m 1),z 13 (m 0),z 13 (gt 14 15),po 13 16,m 17,z 18 (m 2),z 18 (m 0),z 18 (m 1),z 18 (sb 20 21),z 18 (gt 19 22),po 18 23,d 6 (m 24)])))⟩
def w83:WFn:=⟨3,[.tmp 4],zd (s (O 4 [i 0]) (s (s (O 5 [m 0,l 1 1,lt 5 6]) (c 7 (r (O 8 [m 0,d 4 (m 8)])))) (r (O 9 [m 0,l 1 2,ad 9 10,d 4 (m 11)]))))⟩
def w79:WFn:=⟨3,[.tmp 4],zd (s (O 4 [i 0]) (s (s (O 5 [m 0,l 1 1,lt 5 6]) (c 7 (r (O 8 [m 0,d 4 (m 8)])))) (r (O 9 [m 0,l 1 2,ad 9 10,d 4 (m 11)]))))⟩
def w80:WFn:=⟨5,[.tmp 6],zd (s (O 6 [i 0]) (s (B 0 (s (Q 8 [m 0,l 1 1,lt 8 9,d 7 (m 10)] [7,4,3,2,1,0]) (cc 7 (r (O 11 [l 1 2,m 0,E (.callv (T 11) [T 12]),d 6 (m 13)])) (s (O 15 [m 0,l 1 1,l 1 3,ad 16 17,lt 15 18,d 14 (m 19)]) (c 14 (r (O 20 [l 1 4,m 0,ad 20 21,l 1 1,sb 22 23,d 6 (m 24)]))))))) (r (O 25 [l 1 2,m 0,l 1 3,sb 26 27,E (.callv (T 25) [T 28]),d 6 (m 29)]))))⟩
def w401:WFn:=⟨3,[.tmp 5],zd (s (O 4 [bx 1,i 0]) (s (s (O 6 [l 1 2,f 0 4,l 1 7,E (.look 0 (.bool false) false (T 6) (T 8))]) (c 9 (r (O 5 [i 8])))) (s (O 10 [l 1 2,f 0 4,l 1 11,n (E (.upd 0 (T 10) (T 12) (.c (.bool true))))]) (r (O 5 [i 0])))))⟩
def w556_c0:WCode:=zd (r (O 2 [tt]))
def w556_B0:WCode:=zd (s (s (O 7 [m 3,m 0,ln 0 8,lt 7 9]) (cc 10 (w .skip) (ee 0))) (s (B 1 (s (O 13 [m 0,m 3,E (.idxstr (T 13) (T 14)),E (.bin .lss (T 15) (.c (.int .u8 32))),m 16,z 17 (m 0),z 17 (m 3),z 17 (E (.idxstr (T 18) (T 19))),z 17 (E (.bin .gtr (T 20) (.c (.int .u8 126)))),po 17 21]) (c 22 (r (O 2 [ff]))))) (O 11 [m 3,adi 11 1,d 3 (m 12)])))
def w556_L0:WCode:=.loop ⟨true,[3,0],[]⟩ w556_B0
def w556:WFn:=⟨1,[.tmp 2],zd (s (O 2 [ff]) (s (s (Q 4 [m 0,ln 0 4,gti 5 64] [6,0]) (c 6 (r (O 2 [ff])))) (s (s (O 3 [i 0]) (bk 0 w556_L0 ⟨true,[],[]⟩)) w556_c0)))⟩
@[simp] theorem w556_E0:ZL w556_L0 w556_B0 ⟨true,[3,0],[]⟩:=ck_lp rfl
noncomputable abbrev w556_K0 (C:WProg) (s:WSt):Option AV:=CK C 0 (pureFin [.tmp 2]) [.sq w556_L0,.bk 0 ⟨true,[],[]⟩,.sq w556_c0] w556_B0 s
def w557_c0:WCode:=zd (r (O 36 [m 0,ln 0 36,gei 37 1,m 38,y 39 (m 0),y 39 (ln 0 40),y 39 (lei 41 16),pa 39 42,d 2 (m 43)]))
def w557_B0:WCode:=zd (s (s (O 4 [m 3,m 0,ln 0 5,lt 4 6,m 7,y 8 (m 3),y 8 (lti 9 17),pa 8 10]) (cc 11 (w .skip) (ee 0))) (s (B 1 (s (Q 14 [m 0,m 3,E (.idxstr (T 14) (T 15)),E (.bin .lss (T 16) (.c (.int .u8 97))),m 17,z 18 (m 0),z 18 (m 3),z 18 (E (.idxstr (T 19) (T 20))),z 18 (E (.bin .gtr (T 21) (.c (.int .u8 122)))),po 18 22,m 23,y 24 (m 0),y 24 (m 3),y 24 (E (.idxstr (T 25) (T 26))),y 24 (E (.bin .lss (T 27) (.c (.int .u8 48)))),y 24 (m 28),z 29 (m 0),z 29 (m 3),z 29 (E (.idxstr (T 30) (T 31))),z 29 (E (.bin .gtr (T 32) (.c (.int .u8 57)))),y 24 (po 29 33),pa 24 34] [35,3,0]) (c 35 (r (O 2 [ff]))))) (O 12 [m 3,adi 12 1,d 3 (m 13)])))
def w557_L0:WCode:=.loop ⟨true,[3,0],[]⟩ w557_B0
def w557:WFn:=⟨1,[.tmp 2],zd (s (O 2 [ff]) (s (s (O 3 [i 0]) (bk 0 w557_L0 ⟨true,[0],[]⟩)) w557_c0))⟩
@[simp] theorem w557_E0:ZL w557_L0 w557_B0 ⟨true,[3,0],[]⟩:=ck_lp rfl
noncomputable abbrev w557_K0 (C:WProg) (s:WSt):Option AV:=CK C 0 (pureFin [.tmp 2]) [.sq w557_L0,.bk 0 ⟨true,[0],[]⟩,.sq w557_c0] w557_B0 s
def w558:WFn:=⟨1,[.tmp 2],zd (s (O 2 [E (.mv (.c (.str [])))]) (s (s (O 3 [m 0,E (.bin .lss (T 3) (.c (.int .u64 10)))]) (c 4 (r (O 5 [m 0,m 0,E (.bin .add (T 6) (.c (.int .u64 1))),E (.slice 0 (.c (.str [48,49,50,51,52,53,54,55,56,57])) (some (T 5)) (some (T 7)) none),d 2 (m 8)])))) (r (O 9 [m 0,E (.bin .quo (T 9) (.c (.int .u64 10))),ca 558 [10],m 0,E (.bin .rem (T 12) (.c (.int .u64 10))),ca 558 [13],ad 11 14,d 2 (m 15)]))))⟩
def w559_c0:WCode:=zd (r (O 50 [m 5,d 4 (m 50)]))
def w559_B0:WCode:=zd (s (s (O 8 [m 6,m 0,ln 1 9,lt 8 10]) (cc 11 (w .skip) (ee 0))) (s (B 1 (s (O 14 [m 0,m 6,ix 3 14 15,f 2 16,l 1 17,d 7 (m 18)]) (s (s (O 19 [m 0,m 6,ix 3 19 20,f 1 21,l 1 22]) (B 2 (s (O 25 [E (.bin .eql (T 23) (.c (.int .u8 1))),d 24 (m 25)]) (cc 24 (O 26 [f 2 3,l 1 26,d 7 (m 27)]) (s (O 29 [E (.bin .eql (T 23) (.c (.int .u8 2))),d 28 (m 29)]) (cc 28 (O 30 [f 0 3,l 1 30,ca 558 [31],d 7 (m 32)]) (s (O 34 [E (.bin .eql (T 23) (.c (.int .u8 3))),d 33 (m 34)]) (c 33 (Q 35 [f 3 3,l 1 35,ln 1 36,E (.cvt .u64 (T 37)),ca 558 [38],d 7 (m 39)] [7,6,5,3,0]))))))))) (O 40 [m 5,m 0,m 6,ix 3 41 42,f 0 43,l 1 44,m 7,E (.build [.str [],.str []] [(0,1,T 45),(1,1,T 46)]),E (.buildS [.str [],.str []] 1 [(0,T 47)]),E (.app [.str [],.str []] 32 false (T 40) (T 48)),d 5 (m 49)])))) (O 12 [m 6,adi 12 1,d 6 (m 13)])))
def w559_L0:WCode:=.loop ⟨true,[6,5,3,0],[]⟩ w559_B0
def w559:WFn:=⟨2,[.tmp 4],zd (s (Q 3 [bx 1,E (.mv (.c (.ro 2 [] true)))] [3,0]) (s (R 5 [E (.mv (.c (.ro 2 [] true)))] ⟨true,[5,3,0],[(5,2)]⟩) (s (s (O 6 [i 0]) (bk 0 w559_L0 ⟨true,[5],[]⟩)) w559_c0)))⟩
@[simp] theorem w559_E0:ZL w559_L0 w559_B0 ⟨true,[6,5,3,0],[]⟩:=ck_lp rfl
noncomputable abbrev w559_K0 (C:WProg) (s:WSt):Option AV:=CK C 0 (pureFin [.tmp 4]) [.sq w559_L0,.bk 0 ⟨true,[5],[]⟩,.sq w559_c0] w559_B0 s
def w520_c0:WCode:=zd (r (O 35 [m 5,d 4 (m 35)]))
def w520_B0:WCode:=zd (s (s (Q 14 [m 6,f 5 2,l 1 15,ln 1 16,lt 14 17,m 18,y 19 (m 5),y 19 (lei 20 64),pa 19 21] [22,6,5,2,1]) (cc 22 (w .skip) (ee 0))) (s (B 1 (O 25 [m 5,f 5 2,l 1 26,m 6,ix 6 27 28,h 6 29,m 1,sbi 31 1,ca 520 [30,32],ad 25 33,d 5 (m 34)])) (O 23 [m 6,adi 23 1,d 6 (m 24)])))
def w520_L0:WCode:=.loop ⟨true,[6,5,2,1],[]⟩ w520_B0
def w520:WFn:=⟨2,[.tmp 4],zd (s (O 4 [d 2 (bx 0),i 0]) (s (s (O 7 [m 1,lti 7 1,m 8,z 9 (h 6 2),z 9 (ca 563 [10]),z 9 (nt 11),po 9 12]) (c 13 (r (O 4 [i 1000])))) (s (O 5 [i 1]) (s (s (O 6 [i 0]) (bk 0 w520_L0 ⟨true,[5],[]⟩)) w520_c0))))⟩
@[simp] theorem w520_E0:ZL w520_L0 w520_B0 ⟨true,[6,5,2,1],[]⟩:=ck_lp rfl
noncomputable abbrev w520_K0 (C:WProg) (s:WSt):Option AV:=CK C 0 (pureFin [.tmp 4]) [.sq w520_L0,.bk 0 ⟨true,[5],[]⟩,.sq w520_c0] w520_B0 s
def w543:WFn:=⟨2,[.tmp 4],zd (s (O 4 [i 0]) (r (O 5 [m 0,m 1,E (.call 578 [T 5,T 6,.c (.bool true)]),d 4 (m 7)])))⟩
def w544_c0:WCode:=zd (r (O 4 [i (-1)]))
def w544_B0:WCode:=zd (s (O 9 [lt 8 7]) (s (cc 9 (w .skip) (ee 0)) (s (B 1 (s (O 10 [m 8,d 5 (m 10)]) (s (O 11 [m 1,m 0,m 5,ix 1 12 13,l 1 14,E (.callv (T 11) [T 15])]) (c 16 (r (O 17 [m 5,d 4 (m 17)])))))) (O 18 [adi 8 1,d 8 (m 18)]))))
def w544_L0:WCode:=.loop ⟨true,[8,7,1,0],[]⟩ w544_B0
def w544:WFn:=⟨2,[.tmp 4],zd (s (O 4 [i 0]) (s (s (O 6 [m 0,ln 1 6,i 0]) (bk 0 w544_L0 ⟨true,[],[]⟩)) w544_c0))⟩
@[simp] theorem w544_E0:ZL w544_L0 w544_B0 ⟨true,[8,7,1,0],[]⟩:=ck_lp rfl
noncomputable abbrev w544_K0 (C:WProg) (s:WSt):Option AV:=CK C 0 (pureFin [.tmp 4]) [.sq w544_L0,.bk 0 ⟨true,[],[]⟩,.sq w544_c0] w544_B0 s
def w545:WFn:=⟨1,[.tmp 2],zd (s (O 2 [ff]) (r (O 3 [m 0,E (.bin .lss (T 3) (.c (.int .i32 97))),m 4,z 5 (m 0),z 5 (E (.bin .gtr (T 6) (.c (.int .i32 122)))),po 5 7,m 8,y 9 (m 0),y 9 (E (.bin .lss (T 10) (.c (.int .i32 48)))),y 9 (m 11),z 12 (m 0),z 12 (E (.bin .gtr (T 13) (.c (.int .i32 57)))),y 9 (po 12 14),pa 9 15,d 2 (m 16)])))⟩
def w546:WFn:=⟨1,[.tmp 2],zd (s (Q 1 [bx 0,i 0] [1]) (s (s (O 3 [f 0 1,l 1 3,E (.bin .eql (T 4) (.c (.int .u64 0))),m 5,z 6 (f 2 1),z 6 (l 1 7),z 6 (ca 579 [8]),z 6 (nt 9),po 6 10,m 11,z 12 (f 3 1),z 12 (l 1 13),z 12 (ln 1 14),z 12 (gti 15 8),po 12 16,m 17,z 18 (f 3 1),z 18 (l 1 19),z 18 (E (.call 498 [T 20,.c (.fn 580 [])])),po 18 21]) (c 22 (r (O 2 [i 6])))) (r (O 2 [i 0]))))⟩
def w547_c0:WCode:=zd (r (O 81 [m 5,d 4 (m 81)]))
def w547_c1:WCode:=zd (O 80 [adi 12 1,d 12 (m 80)])
def w547_B1:WCode:=zd (s (O 66 [lt 65 64]) (s (cc 66 (w .skip) (ee 3)) (s (B 4 (s (O 67 [ix 1 63 65,l 1 67,d 9 (m 68)]) (U 69 [m 5,h 4 2,h 6 7,m 9,m 9,ca 583 [73],E (.buildS [.int .u8 0,.str [],.str [],.ro 2 [] true,.str [],.ro 6 [] true] 1 [(0,T 74)]),ca 582 [70,71,72,75],E (.buildS [.int .u8 0,.str [],.str [],.ro 2 [] true,.str [],.ro 6 [] true] 1 [(0,T 76)]),E (.app [.int .u8 0,.str [],.str [],.ro 2 [] true,.str [],.ro 6 [] true] 104 false (T 69) (T 77)),d 5 (m 78)] [(1,5),(2,5),(1,6),(2,6)] [65,64,63,12,11,10,7,5,2]))) (O 79 [adi 65 1,d 65 (m 79)]))))
def w547_L1:WCode:=.loop ⟨true,[65,64,63,12,11,10,7,5,2],[]⟩ w547_B1
def w547_B0:WCode:=zd (s (O 13 [lt 12 11]) (s (cc 13 (w .skip) (ee 0)) (s (bk 1 (s (Q 14 [ix 6 10 12,h 6 14,d 7 (E (.alloc [.int .u8 0,.str [],.str [],.ro 3 [] true,.str [],.ro 6 [] true])),n (st 6 7 15)] [12,11,10,7,5,2]) (s (O 16 [f 0 7,l 1 16]) (bk 2 (s (O 19 [E (.bin .eql (T 17) (.c (.int .u8 1))),d 18 (m 19)]) (cc 18 (V 20 [m 5,h 4 2,h 6 7,f 2 7,l 1 23,h 4 2,f 5 7,l 1 26,ca 547 [25,27],ca 582 [21,22,24,28],E (.buildS [.int .u8 0,.str [],.str [],.ro 2 [] true,.str [],.ro 6 [] true] 1 [(0,T 29)]),E (.app [.int .u8 0,.str [],.str [],.ro 2 [] true,.str [],.ro 6 [] true] 104 false (T 20) (T 30)),d 5 (m 31)] [(1,8),(2,8),(4,8)] ⟨false,[],[]⟩) (s (O 33 [E (.bin .eql (T 17) (.c (.int .u8 2))),d 32 (m 33)]) (cc 32 (Q 34 [m 5,f 4 7,l 1 35,ca 583 [36],E (.buildS [.int .u8 0,.str [],.str [],.ro 2 [] true,.str [],.ro 6 [] true] 1 [(0,T 37)]),E (.app [.int .u8 0,.str [],.str [],.ro 2 [] true,.str [],.ro 6 [] true] 104 false (T 34) (T 38)),d 5 (m 39)] [12,11,10,5,2]) (s (O 41 [E (.bin .eql (T 17) (.c (.int .u8 3))),d 40 (m 41)]) (cc 40 (O 42 [m 5,f 0 2,f 2 43,l 1 44,ca 583 [45],E (.buildS [.int .u8 0,.str [],.str [],.ro 2 [] true,.str [],.ro 6 [] true] 1 [(0,T 46)]),E (.app [.int .u8 0,.str [],.str [],.ro 2 [] true,.str [],.ro 6 [] true] 104 false (T 42) (T 47)),d 5 (m 48)]) (s (O 50 [E (.bin .eql (T 17) (.c (.int .u8 4))),d 49 (m 50)]) (cc 49 (O 51 [m 5,f 0 2,f 0 52,l 1 53,ca 584 [54],ca 583 [55],E (.buildS [.int .u8 0,.str [],.str [],.ro 2 [] true,.str [],.ro 6 [] true] 1 [(0,T 56)]),E (.app [.int .u8 0,.str [],.str [],.ro 2 [] true,.str [],.ro 6 [] true] 104 false (T 51) (T 57)),d 5 (m 58)]) (s (O 60 [E (.bin .eql (T 17) (.c (.int .u8 5))),d 59 (m 60)]) (c 59 (s (O 61 [f 0 2,f 3 61,l 1 62,ln 1 63,i 0]) (bk 3 w547_L1 ⟨true,[12,11,10,5,2],[]⟩)))))))))))) ⟨true,[12,11,10,5,2],[]⟩))) ⟨true,[12,11,10,5,2],[]⟩) w547_c1)))
def w547_L0:WCode:=.loop ⟨true,[12,11,10,5,2],[]⟩ w547_B0
def w547:WFn:=⟨2,[.tmp 4],zd (s (O 4 [d 2 (bx 0),E (.mv (.c (.ro 6 [] true)))]) (s (R 5 [E (.mv (.c (.ro 6 [] true)))] ⟨true,[5,2,1],[(5,6)]⟩) (s (s (O 10 [m 1,ln 1 10,i 0]) (bk 0 w547_L0 ⟨true,[5],[]⟩)) w547_c0)))⟩
@[simp] theorem w547_E1:ZL w547_L1 w547_B1 ⟨true,[65,64,63,12,11,10,7,5,2],[]⟩:=ck_lp rfl
noncomputable abbrev w547_K1 (C:WProg) (s:WSt):Option AV:=CK C 0 (pureFin [.tmp 4]) [.sq w547_L1,.bk 3 ⟨true,[12,11,10,5,2],[]⟩,.bk 2 ⟨true,[12,11,10,5,2],[]⟩,.bk 1 ⟨true,[12,11,10,5,2],[]⟩,.sq w547_c1,.sq w547_L0,.bk 0 ⟨true,[5],[]⟩,.sq w547_c0] w547_B1 s
@[simp] theorem w547_E0:ZL w547_L0 w547_B0 ⟨true,[12,11,10,5,2],[]⟩:=ck_lp rfl
noncomputable abbrev w547_K0 (C:WProg) (s:WSt):Option AV:=CK C 0 (pureFin [.tmp 4]) [.sq w547_L0,.bk 0 ⟨true,[5],[]⟩,.sq w547_c0] w547_B0 s
def w140:WFn:=⟨1,[.tmp 2],zd (s (O 1 [bx 0,i 0]) (s (O 6 [h 6 1,ca 282 [6],d 5 (m 7),ex 0 5,ex 1 5,d 3 (m 8),d 4 (m 9)]) (r (O 10 [m 3,d 2 (m 10)]))))⟩
def w220:WFn:=⟨3,[.tmp 4],zd (s (O 4 [E (.mv (.c (.ro 6 [] true)))]) (r (O 5 [f 0 1,l 1 5,l 1 2,m 0,E (.call 221 [T 6,T 7,N 0,T 8]),d 4 (m 9)])))⟩
def w409:WFn:=⟨5,[.tmp 6],zd (s (O 6 [E (.mv (.c (.ro 6 [] true)))]) (r (V 7 [f 0 1,l 1 7,l 1 2,l 1 3,E (.call 221 [T 8,T 9,T 10,.c (.ro 6 [] true)]),l 1 4,f 0 1,l 1 13,l 1 2,l 1 2,l 1 3,ad 16 17,E (.slice 6 (T 14) (some (T 15)) (some (T 18)) none),E (.call 221 [T 11,T 12,N 0,T 19]),d 6 (m 20)] [(4,5),(4,7),(4,8),(4,9),(4,10)] ⟨false,[],[]⟩)))⟩
def w228:WFn:=⟨4,[.tmp 6],zd (s (O 5 [bx 1,i 0]) (s (s (V 7 [f 0 2,l 1 7,l 1 3,m 0,ad 9 10,ix 6 8 11,f 0 12,f 0 13,l 1 14,f 0 5,l 1 16,ne 15 17] [] ⟨false,[],[]⟩) (c 18 (r (O 6 [i 9])))) (r (O 6 [i 0]))))⟩
def w229:WFn:=⟨4,[.tmp 5],zd (s (O 5 [E (.mv (.c (.ro 6 [] true)))]) (r (O 6 [f 0 1,l 1 6,l 1 2,l 1 3,ln 1 9,m 0,ca 221 [7,8,10,11],d 5 (m 12)])))⟩
def w566:WFn:=⟨2,[.tmp 4],zd (s (O 4 [E (.mv (.c (.ro 4 [] true)))]) (s (s (O 5 [m 1,lti 5 0]) (c 6 (Q 7 [E .fail,n (E .fail)] [1,0]))) (s (s (O 8 [m 1,m 0,E (.cap (T 9)),m 0,ln 1 11,sb 10 12,sb 8 13,d 1 (m 14)]) (s (O 15 [m 1,gti 15 0]) (c 16 (O 17 [m 0,m 0,E (.cap (T 18)),E (.slice 4 (T 17) none (some (T 19)) none),m 1,E (.app [.int .u64 0,.int .u8 0,.str [],.ro 1 [] true] 56 true (T 20) (T 21)),m 0,ln 1 23,E (.slice 4 (T 22) none (some (T 24)) none),d 0 (m 25)])))) (r (O 26 [m 0,d 4 (m 26)])))))⟩
def w502:WFn:=⟨2,[.tmp 4],zd (s (O 3 [bx 1,i 0]) (s (s (O 7 [m 0,nk 7,f 0 8,l 1 9,E (.bin .neq (T 10) (.c (.int .u8 1)))]) (c 11 (r (O 4 [i 0])))) (s (O 5 [E (.alloc [.int .i64 0]),n (E (.store 1 (T 5) (N 0)))]) (s (O 6 [E (.alloc [.nilf])]) (s (O 12 [E (.mkfn 548 [T 5,T 3,T 6]),n (st 1 6 12)]) (s (s (O 13 [l 1 6,m 0,E (.callv (T 13) [T 14,N 1]),nt 15]) (c 16 (r (O 4 [i 0])))) (r (O 17 [l 1 5,d 4 (m 17)]))))))))⟩
def w503:WFn:=⟨1,[],zd (w .skip)⟩
def w550_c0:WCode:=zd (r (O 35 [m 5,d 4 (m 35)]))
def w550_B0:WCode:=zd (s (s (Q 14 [m 6,f 5 2,l 1 15,ln 1 16,lt 14 17,m 18,y 19 (m 5),y 19 (lei 20 64),pa 19 21] [22,6,5,2,1]) (cc 22 (w .skip) (ee 0))) (s (B 1 (O 25 [m 5,f 5 2,l 1 26,m 6,ix 6 27 28,h 6 29,m 1,sbi 31 1,ca 550 [30,32],ad 25 33,d 5 (m 34)])) (O 23 [m 6,adi 23 1,d 6 (m 24)])))
def w550_L0:WCode:=.loop ⟨true,[6,5,2,1],[]⟩ w550_B0
def w550:WFn:=⟨2,[.tmp 4],zd (s (O 4 [d 2 (bx 0),i 0]) (s (s (O 7 [m 1,lti 7 1,m 8,z 9 (h 6 2),z 9 (ca 586 [10]),z 9 (nt 11),po 9 12]) (c 13 (r (O 4 [i 1000])))) (s (O 5 [i 1]) (s (s (O 6 [i 0]) (bk 0 w550_L0 ⟨true,[5],[]⟩)) w550_c0))))⟩
@[simp] theorem w550_E0:ZL w550_L0 w550_B0 ⟨true,[6,5,2,1],[]⟩:=ck_lp rfl
noncomputable abbrev w550_K0 (C:WProg) (s:WSt):Option AV:=CK C 0 (pureFin [.tmp 4]) [.sq w550_L0,.bk 0 ⟨true,[5],[]⟩,.sq w550_c0] w550_B0 s
def w563_c0:WCode:=zd (r (O 2 [tt]))
def w563_c1:WCode:=zd (O 120 [m 5,adi 120 1,d 5 (m 121)])
def w563_B1:WCode:=zd (s (s (O 122 [m 6,m 5,lt 122 123]) (cc 124 (w .skip) (ee 6))) (s (B 7 (s (U 127 [f 5 1,l 1 127,m 5,ix 6 128 129,f 2 130,l 1 131,E (.bin .neq (T 132) (.c (.str []))),m 133,y 134 (f 5 1),y 134 (l 1 135),y 134 (m 5),y 134 (ix 6 136 137),y 134 (f 2 138),y 134 (l 1 139),y 134 (f 5 1),y 134 (l 1 141),y 134 (m 6),y 134 (ix 6 142 143),y 134 (f 2 144),y 134 (l 1 145),y 134 (eq 140 146),pa 134 147] [] [148,6,5,1]) (c 148 (r (O 2 [ff]))))) (O 125 [m 6,adi 125 1,d 6 (m 126)])))
def w563_L1:WCode:=.loop ⟨true,[6,5,1],[]⟩ w563_B1
def w563_B0:WCode:=zd (s (s (O 115 [m 5,f 5 1,l 1 116,ln 1 117,lt 115 118]) (cc 119 (w .skip) (ee 4))) (s (bk 5 (s (O 6 [i 0]) (bk 6 w563_L1 ⟨true,[5,1],[]⟩)) ⟨true,[5,1],[]⟩) w563_c1))
def w563_L0:WCode:=.loop ⟨true,[5,1],[]⟩ w563_B0
def w563_c2:WCode:=zd (s (s (O 5 [i 0]) (bk 4 w563_L0 ⟨true,[],[]⟩)) w563_c0)
def w563_c3:WCode:=zd (O 77 [m 3,adi 77 1,d 3 (m 78)])
def w563_B3:WCode:=zd (s (s (O 97 [m 4,m 3,lt 97 98]) (cc 99 (w .skip) (ee 2))) (s (B 3 (s (U 102 [f 3 1,l 1 102,m 4,ix 2 103 104,f 0 105,l 1 106,f 3 1,l 1 108,m 3,ix 2 109 110,f 0 111,l 1 112,ge 107 113] [] [114,4,3,1]) (c 114 (r (O 2 [ff]))))) (O 100 [m 4,adi 100 1,d 4 (m 101)])))
def w563_L3:WCode:=.loop ⟨true,[4,3,1],[]⟩ w563_B3
def w563_B2:WCode:=zd (s (s (Q 72 [m 3,f 3 1,l 1 73,ln 1 74,lt 72 75] [76,3,1]) (cc 76 (w .skip) (ee 0))) (s (bk 1 (s (s (O 79 [f 3 1,l 1 79,m 3,ix 2 80 81,f 0 82,l 1 83,ca 557 [84],nt 85,m 86,z 87 (f 3 1),z 87 (l 1 88),z 87 (m 3),z 87 (ix 2 89 90),z 87 (f 1 91),z 87 (l 1 92),z 87 (ca 556 [93]),z 87 (nt 94),po 87 95]) (c 96 (r (O 2 [ff])))) (s (O 4 [i 0]) (bk 2 w563_L3 ⟨true,[3,1],[]⟩))) ⟨true,[3,1],[]⟩) w563_c3))
def w563_L2:WCode:=.loop ⟨true,[3,1],[]⟩ w563_B2
def w563:WFn:=⟨1,[.tmp 2],zd (s (O 1 [bx 0,ff]) (s (s (O 7 [f 0 1,l 1 7,E (.bin .eql (T 8) (.c (.int .u8 2)))]) (c 9 (r (Q 10 [f 4 1,l 1 10,ca 556 [11],m 12,y 13 (f 1 1),y 13 (l 1 14),y 13 (E (.bin .eql (T 15) (.c (.str [])))),pa 13 16,m 17,y 18 (f 2 1),y 18 (l 1 19),y 18 (E (.bin .eql (T 20) (.c (.str [])))),pa 18 21,m 22,y 23 (f 3 1),y 23 (l 1 24),y 23 (ln 1 25),y 23 (eqi 26 0),pa 23 27,m 28,y 29 (f 5 1),y 29 (l 1 30),y 29 (ln 1 31),y 29 (eqi 32 0),pa 29 33,d 2 (m 34)] [2])))) (s (s (Q 35 [f 0 1,l 1 35,E (.bin .neq (T 36) (.c (.int .u8 1))),m 37,z 38 (f 1 1),z 38 (l 1 39),z 38 (ca 557 [40]),z 38 (nt 41),po 38 42,m 43,z 44 (f 2 1),z 44 (l 1 45),z 44 (E (.bin .neq (T 46) (.c (.str [])))),z 44 (m 47),y 48 (f 2 1),y 48 (l 1 49),y 48 (ca 557 [50]),y 48 (nt 51),z 44 (pa 48 52),po 44 53,m 54,z 55 (f 4 1),z 55 (l 1 56),z 55 (E (.bin .neq (T 57) (.c (.str [])))),po 55 58,m 59,z 60 (f 3 1),z 60 (l 1 61),z 60 (ln 1 62),z 60 (gti 63 8),po 60 64,m 65,z 66 (f 5 1),z 66 (l 1 67),z 66 (ln 1 68),z 66 (gti 69 16),po 66 70] [71,1]) (c 71 (r (O 2 [ff])))) (s (s (O 3 [i 0]) (bk 0 w563_L2 ⟨true,[1],[]⟩)) w563_c2))))⟩
@[simp] theorem w563_E1:ZL w563_L1 w563_B1 ⟨true,[6,5,1],[]⟩:=ck_lp rfl
noncomputable abbrev w563_K1 (C:WProg) (s:WSt):Option AV:=CK C 0 (pureFin [.tmp 2]) [.sq w563_L1,.bk 6 ⟨true,[5,1],[]⟩,.bk 5 ⟨true,[5,1],[]⟩,.sq w563_c1,.sq w563_L0,.bk 4 ⟨true,[],[]⟩,.sq w563_c0] w563_B1 s
@[simp] theorem w563_E0:ZL w563_L0 w563_B0 ⟨true,[5,1],[]⟩:=ck_lp rfl
noncomputable abbrev w563_K0 (C:WProg) (s:WSt):Option AV:=CK C 0 (pureFin [.tmp 2]) [.sq w563_L0,.bk 4 ⟨true,[],[]⟩,.sq w563_c0] w563_B0 s
@[simp] theorem w563_E3:ZL w563_L3 w563_B3 ⟨true,[4,3,1],[]⟩:=ck_lp rfl
noncomputable abbrev w563_K3 (C:WProg) (s:WSt):Option AV:=CK C 0 (pureFin [.tmp 2]) [.sq w563_L3,.bk 2 ⟨true,[3,1],[]⟩,.bk 1 ⟨true,[3,1],[]⟩,.sq w563_c3,.sq w563_L2,.bk 0 ⟨true,[1],[]⟩,.sq w563_c2] w563_B3 s
@[simp] theorem w563_E2:ZL w563_L2 w563_B2 ⟨true,[3,1],[]⟩:=ck_lp rfl
noncomputable abbrev w563_K2 (C:WProg) (s:WSt):Option AV:=CK C 0 (pureFin [.tmp 2]) [.sq w563_L2,.bk 0 ⟨true,[1],[]⟩,.sq w563_c2] w563_B2 s
def w578_c0:WCode:=zd (r (O 6 [i (-1)]))
def w578_B0:WCode:=zd (s (O 11 [E (.next (T 10)),ex 0 11]) (s (cc 12 (w .skip) (ee 0)) (B 1 (s (O 13 [ex 1 11,ex 2 11,d 7 (m 13),d 8 (m 14)]) (s (O 15 [m 1,m 8,E (.callv (T 15) [T 16]),m 2,E (.eqv 5 [] false (T 17) (T 18))]) (c 19 (r (O 20 [m 7,d 6 (m 20)]))))))))
def w578_L0:WCode:=.loop ⟨true,[10,2,1],[]⟩ w578_B0
def w578:WFn:=⟨3,[.tmp 6],zd (s (O 6 [i 0]) (s (s (O 9 [m 0,E (.range (T 9))]) (bk 0 w578_L0 ⟨true,[],[]⟩)) w578_c0))⟩
@[simp] theorem w578_E0:ZL w578_L0 w578_B0 ⟨true,[10,2,1],[]⟩:=ck_lp rfl
noncomputable abbrev w578_K0 (C:WProg) (s:WSt):Option AV:=CK C 0 (pureFin [.tmp 6]) [.sq w578_L0,.bk 0 ⟨true,[],[]⟩,.sq w578_c0] w578_B0 s
def w579:WFn:=⟨1,[.tmp 2],zd (s (O 2 [ff]) (r (O 3 [m 0,E (.build [.int .u8 0,.str [],.str [],.ro 2 [] true,.str [],.ro 6 [] true] [(0,1,.c (.int .u8 2)),(4,1,T 3)]),ca 439 [4],eqi 5 0,d 2 (m 6)])))⟩
def w580:WFn:=⟨1,[.tmp 2],zd (s (O 2 [ff]) (r (O 3 [m 0,ca 581 [3],nt 4,d 2 (m 5)])))⟩
def w581:WFn:=⟨1,[.tmp 2],zd (s (O 2 [ff]) (r (O 3 [m 0,E (.build [.int .u8 0,.str [],.str [],.ro 2 [] true,.str [],.ro 6 [] true] [(0,1,.c (.int .u8 1)),(1,1,T 3)]),ca 439 [4],eqi 5 0,d 2 (m 6)])))⟩
def w582:WFn:=⟨4,[.cell 8 6 true],zd (s (O 4 [bx 0,bx 1,d 8 (E (.alloc [.int .u8 0,.str [],.str [],.ro 2 [] true,.str [],.ro 6 [] true]))]) (r (V 9 [f 1 5,l 1 9,m 2,h 4 4,f 3 5,l 1 13,ca 592 [12,14],m 3,ca 593 [16],E (.build [.int .u8 0,.str [],.str [],.ro 2 [] true,.str [],.ro 6 [] true] [(0,1,.c (.int .u8 1)),(1,1,T 10),(2,1,T 11),(3,1,T 15),(5,1,T 17)]),n (st 6 8 18)] [(1,6),(1,8)] ⟨false,[],[]⟩)))⟩
def w583:WFn:=⟨1,[.cell 2 6 true],zd (s (O 2 [E (.alloc [.int .u8 0,.str [],.str [],.ro 2 [] true,.str [],.ro 6 [] true])]) (r (O 3 [m 0,E (.build [.int .u8 0,.str [],.str [],.ro 2 [] true,.str [],.ro 6 [] true] [(0,1,.c (.int .u8 2)),(4,1,T 3)]),n (st 6 2 4)])))⟩
def w584_B0:WCode:=zd (B 1 (s (O 5 [m 4,sbi 5 1,d 4 (m 6)]) (s (O 7 [m 4,m 0,E (.bin .rem (T 8) (.c (.int .u64 10))),E (.idxstr (.c (.str [48,49,50,51,52,53,54,55,56,57])) (T 9)),E (.idxa 20 1 (T 3) (T 7)),n (st 1 11 10)]) (s (O 12 [m 0,E (.bin .quo (T 12) (.c (.int .u64 10))),d 0 (m 13)]) (s (O 14 [m 0,E (.bin .eql (T 14) (.c (.int .u64 0)))]) (c 15 (r (O 16 [m 4,E (.sliceA 20 (T 3) (some (T 16)) none),E (.cvb (T 17)),d 2 (m 18)]))))))))
def w584_L0:WCode:=.loop ⟨true,[4,3,0],[]⟩ w584_B0
def w584:WFn:=⟨1,[.tmp 2],zd (s (O 2 [E (.mv (.c (.str [])))]) (s (O 3 [E (.alloc (rep 20 (.int .u8 0)))]) (s (O 4 [i 20]) (bk 0 w584_L0 ⟨true,[2],[]⟩))))⟩
@[simp] theorem w584_E0:ZL w584_L0 w584_B0 ⟨true,[4,3,0],[]⟩:=ck_lp rfl
noncomputable abbrev w584_K0 (C:WProg) (s:WSt):Option AV:=CK C 0 (pureFin [.tmp 2]) [.sq w584_L0,.bk 0 ⟨true,[2],[]⟩] w584_B0 s
def w282:WFn:=⟨1,[.cell 2 1 false,.cell 3 1 false],zd (s (O 1 [bx 0,E (.alloc [.int .i64 0]),E (.alloc [.int .i64 0])]) (s (O 4 [E (.alloc [.nilf])]) (s (O 5 [E (.mkfn 433 [T 2,T 3,T 4]),n (st 1 4 5)]) (s (s (O 6 [l 1 4,E (.callv (T 6) [T 1,N 1]),nt 7]) (c 8 (r (O 0 [n (E (.store 1 (T 2) (N 0))),n (E (.store 1 (T 3) (N 0)))])))) (r (V 9 [l 1 2,l 1 3,n (st 1 2 9),n (st 1 3 10)] [(1,2)] ⟨false,[],[]⟩))))))⟩
def w548_c0:WCode:=zd (r (O 7 [tt]))
def w548_B0:WCode:=zd (s (O 31 [lt 30 29]) (s (cc 31 (w .skip) (ee 0)) (s (B 1 (s (O 32 [m 30,d 8 (m 32)]) (s (V 33 [l 1 4,m 0,nk 34,f 5 35,l 1 36,m 8,ix 6 37 38,m 1,adi 40 1,E (.callv (T 33) [T 39,T 41]),nt 42] [] ⟨false,[],[]⟩) (c 43 (r (O 7 [ff])))))) (O 44 [adi 30 1,d 30 (m 44)]))))
def w548_L0:WCode:=.loop ⟨true,[30,29,4,1,0],[]⟩ w548_B0
def w548:WFn:=⟨5,[.tmp 7],zd (s (O 7 [ff]) (s (O 9 [l 1 2,adi 9 1,n (st 1 2 10)]) (s (s (O 11 [m 1,gti 11 6,m 12,z 13 (l 1 2),z 13 (gti 14 64),po 13 15,m 16,z 17 (m 0),z 17 (ca 549 [18]),z 17 (nt 19),po 17 20]) (c 21 (r (O 7 [ff])))) (s (O 22 [l 1 3,m 0,E (.callv (T 22) [T 23])]) (s (s (Q 25 [m 0,nk 25,f 5 26,l 1 27,ln 1 28,i 0] [30,29,4,1,0]) (bk 0 w548_L0 ⟨true,[],[]⟩)) w548_c0)))))⟩
@[simp] theorem w548_E0:ZL w548_L0 w548_B0 ⟨true,[30,29,4,1,0],[]⟩:=ck_lp rfl
def w549:WFn:=⟨1,[.tmp 2],zd (s (O 2 [ff]) (s (O 4 [m 0,nk 4,h 6 5,d 3 (E (.alloc [.int .u8 0,.str [],.str [],.ro 3 [] true,.str [],.ro 6 [] true])),n (st 6 3 6)]) (s (s (O 7 [m 0,nk 7,f 0 8,l 1 9]) (B 0 (s (B 5 (s (B 4 (s (B 3 (s (B 2 (s (B 1 (s (s (s (O 12 [E (.bin .eql (T 10) (.c (.int .u8 1))),d 11 (m 12)]) (c 11 (ee 1))) (s (s (O 14 [E (.bin .eql (T 10) (.c (.int .u8 5))),d 13 (m 14)]) (c 13 (ee 2))) (s (s (O 16 [E (.bin .eql (T 10) (.c (.int .u8 2))),d 15 (m 16)]) (c 15 (ee 3))) (s (s (O 18 [E (.bin .eql (T 10) (.c (.int .u8 3))),d 17 (m 18)]) (cc 17 (w .skip) (O 19 [E (.bin .eql (T 10) (.c (.int .u8 4))),d 17 (m 19)]))) (c 17 (ee 4)))))) (ee 5))) (s (s (Q 20 [m 0,nk 20,f 2 21,l 1 22,E (.bin .neq (T 23) (.c (.str []))),m 24,y 25 (m 0),y 25 (nk 26),y 25 (f 2 27),y 25 (l 1 28),y 25 (ca 581 [29]),y 25 (nt 30),pa 25 31,m 32,z 33 (m 0),z 33 (nk 34),z 33 (f 5 35),z 33 (l 1 36),z 33 (ln 1 37),z 33 (gti 38 16),po 33 39] [40,3,0]) (c 40 (r (O 2 [ff])))) (O 41 [f 2 3,n (E (.store 1 (T 41) (.c (.str [])))),f 5 3,n (E (.store 1 (T 42) (.c (.ro 6 [] true))))])))) (s (s (s (Q 43 [m 0,nk 43,f 1 44,l 1 45,ca 581 [46],nt 47,m 48,z 49 (m 0),z 49 (nk 50),z 49 (f 3 51),z 49 (l 1 52),z 49 (ca 585 [53]),z 49 (nt 54),po 49 55] [56,3]) (c 56 (r (O 2 [ff])))) (O 57 [f 1 3,n (E (.store 1 (T 57) (.c (.str [])))),f 3 3,n (E (.store 1 (T 58) (.c (.ro 3 [] true))))])) (ee 0)))) (s (s (s (O 59 [m 0,nk 59,f 4 60,l 1 61,ca 579 [62],nt 63]) (c 64 (r (O 2 [ff])))) (O 65 [f 4 3,n (E (.store 1 (T 65) (.c (.str []))))])) (ee 0)))) (ee 0))) (s (r (O 2 [ff])) (ee 0))))) (r (Q 66 [f 1 3,l 1 66,E (.bin .eql (T 67) (.c (.str []))),m 68,y 69 (f 2 3),y 69 (l 1 70),y 69 (E (.bin .eql (T 71) (.c (.str [])))),pa 69 72,m 73,y 74 (f 4 3),y 74 (l 1 75),y 74 (E (.bin .eql (T 76) (.c (.str [])))),pa 74 77,m 78,y 79 (f 3 3),y 79 (l 1 80),y 79 (ln 1 81),y 79 (eqi 82 0),pa 79 83,m 84,y 85 (f 5 3),y 85 (l 1 86),y 85 (ln 1 87),y 85 (eqi 88 0),pa 85 89,d 2 (m 90)] [2])))))⟩
def w586:WFn:=⟨1,[.tmp 2],zd (s (O 1 [bx 0,ff]) (s (s (O 3 [f 0 1,l 1 3]) (B 0 (s (O 6 [E (.bin .eql (T 4) (.c (.int .u8 1))),d 5 (m 6)]) (cc 5 (r (Q 7 [f 1 1,l 1 7,ca 557 [8],m 9,y 10 (f 2 1),y 10 (l 1 11),y 10 (E (.bin .eql (T 12) (.c (.str [])))),y 10 (m 13),z 14 (f 2 1),z 14 (l 1 15),z 14 (ca 557 [16]),y 10 (po 14 17),pa 10 18,m 19,y 20 (f 3 1),y 20 (l 1 21),y 20 (ca 594 [22]),pa 20 23,m 24,y 25 (f 4 1),y 25 (l 1 26),y 25 (E (.bin .eql (T 27) (.c (.str [])))),pa 25 28,m 29,y 30 (f 5 1),y 30 (l 1 31),y 30 (ln 1 32),y 30 (lei 33 16),pa 30 34,d 2 (m 35)] [2])) (s (O 37 [E (.bin .eql (T 4) (.c (.int .u8 2))),d 36 (m 37)]) (cc 36 (r (Q 38 [f 4 1,l 1 38,ca 556 [39],m 40,y 41 (f 1 1),y 41 (l 1 42),y 41 (E (.bin .eql (T 43) (.c (.str [])))),pa 41 44,m 45,y 46 (f 2 1),y 46 (l 1 47),y 46 (E (.bin .eql (T 48) (.c (.str [])))),pa 46 49,m 50,y 51 (f 3 1),y 51 (l 1 52),y 51 (ln 1 53),y 51 (f 5 1),y 51 (l 1 55),y 51 (ln 1 56),y 51 (ad 54 57),y 51 (eqi 58 0),pa 51 59,d 2 (m 60)] [2])) (s (s (O 62 [E (.bin .eql (T 4) (.c (.int .u8 3))),d 61 (m 62)]) (cc 61 (w .skip) (O 63 [E (.bin .eql (T 4) (.c (.int .u8 4))),d 61 (m 63)]))) (cc 61 (r (Q 64 [f 4 1,l 1 64,E (.bin .eql (T 65) (.c (.str []))),m 66,y 67 (f 1 1),y 67 (l 1 68),y 67 (E (.bin .eql (T 69) (.c (.str [])))),pa 67 70,m 71,y 72 (f 2 1),y 72 (l 1 73),y 72 (E (.bin .eql (T 74) (.c (.str [])))),pa 72 75,m 76,y 77 (f 3 1),y 77 (l 1 78),y 77 (ln 1 79),y 77 (f 5 1),y 77 (l 1 81),y 77 (ln 1 82),y 77 (ad 80 83),y 77 (eqi 84 0),pa 77 85,d 2 (m 86)] [2])) (s (O 88 [E (.bin .eql (T 4) (.c (.int .u8 5))),d 87 (m 88)]) (c 87 (r (Q 89 [f 1 1,l 1 89,ca 557 [90],m 91,y 92 (f 3 1),y 92 (l 1 93),y 92 (ca 594 [94]),pa 92 95,m 96,y 97 (f 2 1),y 97 (l 1 98),y 97 (E (.bin .eql (T 99) (.c (.str [])))),pa 97 100,m 101,y 102 (f 4 1),y 102 (l 1 103),y 102 (E (.bin .eql (T 104) (.c (.str [])))),pa 102 105,m 106,y 107 (f 5 1),y 107 (l 1 108),y 107 (ln 1 109),y 107 (eqi 110 0),pa 107 111,d 2 (m 112)] [2])))))))))))) (r (O 2 [ff]))))⟩
def w439:WFn:=⟨1,[.tmp 2],zd (s (O 1 [bx 0,i 0]) (s (s (O 3 [h 6 1,ca 140 [3],eqi 4 0]) (c 5 (r (O 2 [i 14])))) (r (O 2 [i 0]))))⟩
def w592_c0:WCode:=zd (r (O 44 [m 5,d 4 (m 44)]))
def w592_B0:WCode:=zd (s (O 14 [lt 13 12]) (s (cc 14 (w .skip) (ee 0)) (s (B 1 (s (O 15 [m 13,ix 3 11 13,h 3 16,d 7 (E (.alloc [.str [],.int .u8 0,.str []])),d 6 (m 15),n (st 3 7 17)]) (U 18 [m 5,m 6,f 0 7,l 1 20,f 2 7,l 1 22,f 0 2,f 2 24,l 1 25,f 0 2,f 0 27,l 1 28,ca 584 [29],f 0 2,f 3 31,l 1 32,ln 1 33,E (.cvt .u64 (T 34)),ca 584 [35],E (.build [.str [],.str [],.str [],.str []] [(0,1,T 23),(1,1,T 26),(2,1,T 30),(3,1,T 36)]),f 1 7,l 1 38,E (.idxv 4 1 false (T 37) (T 39)),E (.build [.str [],.str []] [(0,1,T 21),(1,1,T 40)]),ix 2 18 19,n (st 2 42 41)] [(3,12),(5,12),(8,12),(12,15),(12,16),(3,18),(5,18),(8,18),(12,21),(18,21)] [13,12,11,5,2]))) (O 43 [adi 13 1,d 13 (m 43)]))))
def w592_L0:WCode:=.loop ⟨true,[13,12,11,5,2],[]⟩ w592_B0
def w592:WFn:=⟨2,[.tmp 4],zd (s (O 4 [d 2 (bx 0),E (.mv (.c (.ro 2 [] true)))]) (s (O 8 [m 1,ln 1 8,E (.mksl [.str [],.str []] 32 (T 9) (T 9)),d 5 (m 10)]) (s (s (O 11 [m 1,ln 1 11,i 0]) (bk 0 w592_L0 ⟨true,[5],[]⟩)) w592_c0)))⟩
@[simp] theorem w592_E0:ZL w592_L0 w592_B0 ⟨true,[13,12,11,5,2],[]⟩:=ck_lp rfl
noncomputable abbrev w592_K0 (C:WProg) (s:WSt):Option AV:=CK C 0 (pureFin [.tmp 4]) [.sq w592_L0,.bk 0 ⟨true,[5],[]⟩,.sq w592_c0] w592_B0 s
def w593:WFn:=⟨1,[.tmp 2],zd (s (O 2 [E (.mv (.c (.ro 6 [] true)))]) (r (O 3 [m 0,m 0,ln 1 4,m 0,ln 1 6,E (.slice 6 (T 3) none (some (T 5)) (some (T 7))),d 2 (m 8)])))⟩
def w433_c0:WCode:=zd (r (O 7 [tt]))
def w433_B0:WCode:=zd (s (O 31 [lt 30 29]) (s (cc 31 (w .skip) (ee 0)) (s (B 1 (s (O 32 [m 30,d 8 (m 32)]) (s (V 33 [l 1 4,m 0,nk 34,f 5 35,l 1 36,m 8,ix 6 37 38,m 1,adi 40 1,E (.callv (T 33) [T 39,T 41]),nt 42] [] ⟨false,[],[]⟩) (c 43 (r (O 7 [ff])))))) (O 44 [adi 30 1,d 30 (m 44)]))))
def w433_L0:WCode:=.loop ⟨true,[30,29,4,1,0],[]⟩ w433_B0
def w433:WFn:=⟨5,[.tmp 7],zd (s (O 7 [ff]) (s (O 9 [l 1 2,adi 9 1,n (st 1 2 10)]) (s (O 11 [l 1 3,m 1,E (.mx (T 11) (T 12)),n (st 1 3 13)]) (s (s (O 14 [m 1,gti 14 6,m 15,z 16 (l 1 2),z 16 (gti 17 64),po 16 18,m 19,z 20 (m 0),z 20 (ca 434 [21]),z 20 (nt 22),po 20 23]) (c 24 (r (O 7 [ff])))) (s (s (Q 25 [m 0,nk 25,f 5 26,l 1 27,ln 1 28,i 0] [30,29,4,1,0]) (bk 0 w433_L0 ⟨true,[],[]⟩)) w433_c0)))))⟩
@[simp] theorem w433_E0:ZL w433_L0 w433_B0 ⟨true,[30,29,4,1,0],[]⟩:=ck_lp rfl
def w434_c0:WCode:=zd (r (O 2 [tt]))
def w434_B0:WCode:=zd (s (Q 143 [lt 142 141] [143,142,141,140,0]) (s (cc 143 (w .skip) (ee 2)) (s (B 3 (s (O 144 [m 142,ix 6 140 142,h 6 145,d 6 (E (.alloc [.int .u8 0,.str [],.str [],.ro 2 [] true,.str [],.ro 6 [] true])),d 5 (m 144),n (st 6 6 146)]) (s (O 147 [f 2 6,l 1 147,E (.bin .neq (T 148) (.c (.str []))),m 149,y 150 (m 0),y 150 (nk 151),y 150 (f 5 152),y 150 (l 1 153),y 150 (m 5),y 150 (E (.slice 6 (T 154) none (some (T 155)) none)),y 150 (E (.mkfn 519 [T 6])),y 150 (ca 518 [156,157]),pa 150 158]) (c 159 (r (O 2 [ff])))))) (O 160 [adi 142 1,d 142 (m 160)]))))
def w434_L0:WCode:=.loop ⟨true,[142,141,140,0],[]⟩ w434_B0
def w434_c1:WCode:=zd (s (s (O 137 [m 0,nk 137,f 5 138,l 1 139,ln 1 140,i 0]) (bk 2 w434_L0 ⟨true,[],[]⟩)) w434_c0)
def w434_B1:WCode:=zd (s (O 104 [lt 103 102]) (s (cc 104 (w .skip) (ee 0)) (s (B 1 (s (O 105 [m 103,ix 2 101 103,h 2 106,d 4 (E (.alloc [.str [],.str []])),d 3 (m 105),n (st 2 4 107)]) (s (U 108 [f 0 4,l 1 108,ca 517 [109],nt 110,m 111,z 112 (f 1 4),z 112 (l 1 113),z 112 (ca 516 [114]),z 112 (nt 115),po 112 116,m 117,z 118 (m 3),z 118 (gti 119 0),z 118 (m 120),y 121 (f 0 4),y 121 (l 1 122),y 121 (m 0),y 121 (nk 124),y 121 (f 3 125),y 121 (l 1 126),y 121 (m 3),y 121 (sbi 128 1),y 121 (ix 2 127 129),y 121 (f 0 130),y 121 (l 1 131),y 121 (le 123 132),z 118 (pa 121 133),po 118 134] [] [135,103,102,101,0]) (c 135 (r (O 2 [ff])))))) (O 136 [adi 103 1,d 103 (m 136)]))))
def w434_L1:WCode:=.loop ⟨true,[103,102,101,0],[]⟩ w434_B1
def w434:WFn:=⟨1,[.tmp 2],zd (s (O 2 [ff]) (s (s (O 7 [m 0,nk 7,f 0 8,l 1 9,E (.bin .eql (T 10) (.c (.int .u8 2)))]) (c 11 (r (Q 12 [m 0,nk 12,f 4 13,l 1 14,ca 516 [15],m 16,y 17 (m 0),y 17 (nk 18),y 17 (f 1 19),y 17 (l 1 20),y 17 (E (.bin .eql (T 21) (.c (.str [])))),pa 17 22,m 23,y 24 (m 0),y 24 (nk 25),y 24 (f 2 26),y 24 (l 1 27),y 24 (E (.bin .eql (T 28) (.c (.str [])))),pa 24 29,m 30,y 31 (m 0),y 31 (nk 32),y 31 (f 3 33),y 31 (l 1 34),y 31 (ln 1 35),y 31 (eqi 36 0),pa 31 37,m 38,y 39 (m 0),y 39 (nk 40),y 39 (f 5 41),y 39 (l 1 42),y 39 (ln 1 43),y 39 (eqi 44 0),pa 39 45,d 2 (m 46)] [2])))) (s (s (Q 47 [m 0,nk 47,f 0 48,l 1 49,E (.bin .neq (T 50) (.c (.int .u8 1))),m 51,z 52 (m 0),z 52 (nk 53),z 52 (f 1 54),z 52 (l 1 55),z 52 (ca 517 [56]),z 52 (nt 57),po 52 58,m 59,z 60 (m 0),z 60 (nk 61),z 60 (f 2 62),z 60 (l 1 63),z 60 (E (.bin .neq (T 64) (.c (.str [])))),z 60 (m 65),y 66 (m 0),y 66 (nk 67),y 66 (f 2 68),y 66 (l 1 69),y 66 (ca 517 [70]),y 66 (nt 71),z 60 (pa 66 72),po 60 73,m 74,z 75 (m 0),z 75 (nk 76),z 75 (f 4 77),z 75 (l 1 78),z 75 (E (.bin .neq (T 79) (.c (.str [])))),po 75 80,m 81,z 82 (m 0),z 82 (nk 83),z 82 (f 3 84),z 82 (l 1 85),z 82 (ln 1 86),z 82 (gti 87 8),po 82 88,m 89,z 90 (m 0),z 90 (nk 91),z 90 (f 5 92),z 90 (l 1 93),z 90 (ln 1 94),z 90 (gti 95 16),po 90 96] [97,0]) (c 97 (r (O 2 [ff])))) (s (s (O 98 [m 0,nk 98,f 3 99,l 1 100,ln 1 101,i 0]) (bk 0 w434_L1 ⟨true,[0],[]⟩)) w434_c1))))⟩
@[simp] theorem w434_E0:ZL w434_L0 w434_B0 ⟨true,[142,141,140,0],[]⟩:=ck_lp rfl
noncomputable abbrev w434_K0 (C:WProg) (s:WSt):Option AV:=CK C 0 (pureFin [.tmp 2]) [.sq w434_L0,.bk 2 ⟨true,[],[]⟩,.sq w434_c0] w434_B0 s
@[simp] theorem w434_E1:ZL w434_L1 w434_B1 ⟨true,[103,102,101,0],[]⟩:=ck_lp rfl
noncomputable abbrev w434_K1 (C:WProg) (s:WSt):Option AV:=CK C 0 (pureFin [.tmp 2]) [.sq w434_L1,.bk 0 ⟨true,[0],[]⟩,.sq w434_c1] w434_B1 s
def w585_c0:WCode:=zd (r (O 2 [tt]))
def w585_B0:WCode:=zd (s (O 11 [lt 10 9]) (s (cc 11 (w .skip) (ee 0)) (s (B 1 (s (O 12 [m 10,ix 3 8 10,h 3 13,d 4 (E (.alloc [.str [],.int .u8 0,.str []])),d 3 (m 12),n (st 3 4 14)]) (s (U 15 [f 0 4,l 1 15,ca 581 [16],nt 17,m 18,z 19 (f 1 4),z 19 (l 1 20),z 19 (E (.bin .gtr (T 21) (.c (.int .u8 3)))),po 19 22,m 23,z 24 (f 2 4),z 24 (l 1 25),z 24 (ca 579 [26]),z 24 (nt 27),po 24 28,m 29,z 30 (f 1 4),z 30 (l 1 31),z 30 (E (.bin .gtr (T 32) (.c (.int .u8 0)))),z 30 (m 33),y 34 (f 2 4),y 34 (l 1 35),y 34 (E (.bin .neq (T 36) (.c (.str [])))),z 30 (pa 34 37),po 30 38,m 39,z 40 (m 3),z 40 (gti 41 0),z 40 (m 42),y 43 (f 0 4),y 43 (l 1 44),y 43 (m 0),y 43 (m 3),y 43 (sbi 47 1),y 43 (ix 3 46 48),y 43 (f 0 49),y 43 (l 1 50),y 43 (le 45 51),z 40 (pa 43 52),po 40 53] [] [54,10,9,8,0]) (c 54 (r (O 2 [ff])))))) (O 55 [adi 10 1,d 10 (m 55)]))))
def w585_L0:WCode:=.loop ⟨true,[10,9,8,0],[]⟩ w585_B0
def w585:WFn:=⟨1,[.tmp 2],zd (s (O 2 [ff]) (s (s (O 5 [m 0,ln 1 5,gti 6 8]) (c 7 (r (O 2 [ff])))) (s (s (O 8 [m 0,ln 1 8,i 0]) (bk 0 w585_L0 ⟨true,[],[]⟩)) w585_c0)))⟩
@[simp] theorem w585_E0:ZL w585_L0 w585_B0 ⟨true,[10,9,8,0],[]⟩:=ck_lp rfl
noncomputable abbrev w585_K0 (C:WProg) (s:WSt):Option AV:=CK C 0 (pureFin [.tmp 2]) [.sq w585_L0,.bk 0 ⟨true,[],[]⟩,.sq w585_c0] w585_B0 s
def w594_c0:WCode:=zd (r (O 2 [tt]))
def w594_B0:WCode:=zd (s (s (O 8 [m 3,m 0,ln 1 9,lt 8 10]) (cc 11 (w .skip) (ee 0))) (s (B 1 (s (O 14 [m 0,m 3,ix 3 14 15,h 3 16,d 4 (E (.alloc [.str [],.int .u8 0,.str []])),n (st 3 4 17)]) (s (U 18 [f 0 4,l 1 18,ca 557 [19],nt 20,m 21,z 22 (f 1 4),z 22 (l 1 23),z 22 (E (.bin .gtr (T 24) (.c (.int .u8 3)))),po 22 25,m 26,z 27 (f 2 4),z 27 (l 1 28),z 27 (ca 556 [29]),z 27 (nt 30),po 27 31,m 32,z 33 (f 1 4),z 33 (l 1 34),z 33 (E (.bin .neq (T 35) (.c (.int .u8 0)))),z 33 (m 36),y 37 (f 2 4),y 37 (l 1 38),y 37 (E (.bin .neq (T 39) (.c (.str [])))),z 33 (pa 37 40),po 33 41,m 42,z 43 (m 3),z 43 (gti 44 0),z 43 (m 45),y 46 (m 0),y 46 (m 3),y 46 (sbi 48 1),y 46 (ix 3 47 49),y 46 (f 0 50),y 46 (l 1 51),y 46 (f 0 4),y 46 (l 1 53),y 46 (ge 52 54),z 43 (pa 46 55),po 43 56] [] [57,3,0]) (c 57 (r (O 2 [ff])))))) (O 12 [m 3,adi 12 1,d 3 (m 13)])))
def w594_L0:WCode:=.loop ⟨true,[3,0],[]⟩ w594_B0
def w594:WFn:=⟨1,[.tmp 2],zd (s (O 2 [ff]) (s (s (O 5 [m 0,ln 1 5,gti 6 8]) (c 7 (r (O 2 [ff])))) (s (s (O 3 [i 0]) (bk 0 w594_L0 ⟨true,[],[]⟩)) w594_c0)))⟩
@[simp] theorem w594_E0:ZL w594_L0 w594_B0 ⟨true,[3,0],[]⟩:=ck_lp rfl
noncomputable abbrev w594_K0 (C:WProg) (s:WSt):Option AV:=CK C 0 (pureFin [.tmp 2]) [.sq w594_L0,.bk 0 ⟨true,[],[]⟩,.sq w594_c0] w594_B0 s
def w516:WFn:=⟨1,[.tmp 2],zd (s (O 2 [ff]) (r (O 3 [m 0,ln 0 3,lei 4 64,m 5,y 6 (m 0),y 6 (E (.call 543 [T 7,.c (.fn 560 [])])),y 6 (lti 8 0),pa 6 9,d 2 (m 10)])))⟩
def w517_c0:WCode:=zd (r (O 2 [tt]))
def w517_B0:WCode:=zd (s (O 15 [lt 14 13]) (s (cc 15 (w .skip) (ee 0)) (s (B 1 (s (O 16 [m 14,d 3 (m 16)]) (s (O 17 [m 0,m 3,E (.idxstr (T 17) (T 18)),ca 561 [19],nt 20]) (c 21 (r (O 2 [ff])))))) (O 22 [adi 14 1,d 14 (m 22)]))))
def w517_L0:WCode:=.loop ⟨true,[14,13,0],[]⟩ w517_B0
def w517:WFn:=⟨1,[.tmp 2],zd (s (O 2 [ff]) (s (s (Q 4 [m 0,ln 0 4,lti 5 1,m 6,z 7 (m 0),z 7 (ln 0 8),z 7 (gti 9 16),po 7 10] [11,0]) (c 11 (r (O 2 [ff])))) (s (s (O 12 [m 0,ln 0 12,i 0]) (bk 0 w517_L0 ⟨true,[],[]⟩)) w517_c0)))⟩
@[simp] theorem w517_E0:ZL w517_L0 w517_B0 ⟨true,[14,13,0],[]⟩:=ck_lp rfl
noncomputable abbrev w517_K0 (C:WProg) (s:WSt):Option AV:=CK C 0 (pureFin [.tmp 2]) [.sq w517_L0,.bk 0 ⟨true,[],[]⟩,.sq w517_c0] w517_B0 s
def w518:WFn:=⟨2,[.tmp 4],zd (s (O 4 [ff]) (r (O 5 [m 0,m 1,ca 562 [5,6],gei 7 0,d 4 (m 8)])))⟩
def w519:WFn:=⟨2,[.tmp 3],zd (s (O 2 [bx 0,ff]) (r (O 4 [f 2 2,l 1 4,f 2 1,l 1 6,eq 5 7,d 3 (m 8)])))⟩
def w560:WFn:=⟨1,[.tmp 2],zd (s (O 2 [ff]) (r (O 3 [m 0,E (.bin .lss (T 3) (.c (.int .i32 32))),m 4,z 5 (m 0),z 5 (E (.bin .gtr (T 6) (.c (.int .i32 126)))),po 5 7,d 2 (m 8)])))⟩
def w561:WFn:=⟨1,[.tmp 2],zd (s (O 2 [ff]) (r (O 3 [m 0,E (.bin .geq (T 3) (.c (.int .u8 97))),m 4,y 5 (m 0),y 5 (E (.bin .leq (T 6) (.c (.int .u8 122)))),pa 5 7,m 8,z 9 (m 0),z 9 (E (.bin .geq (T 10) (.c (.int .u8 48)))),z 9 (m 11),y 12 (m 0),y 12 (E (.bin .leq (T 13) (.c (.int .u8 57)))),z 9 (pa 12 14),po 9 15,d 2 (m 16)])))⟩
def w562_c0:WCode:=zd (r (O 4 [i (-1)]))
def w562_B0:WCode:=zd (s (O 9 [lt 8 7]) (s (cc 9 (w .skip) (ee 0)) (s (B 1 (s (O 10 [m 8,d 5 (m 10)]) (s (O 11 [m 1,m 0,m 5,ix 6 12 13,h 6 14,E (.callv (T 11) [T 15])]) (c 16 (r (O 17 [m 5,d 4 (m 17)])))))) (O 18 [adi 8 1,d 8 (m 18)]))))
def w562_L0:WCode:=.loop ⟨true,[8,7,1,0],[]⟩ w562_B0
def w562:WFn:=⟨2,[.tmp 4],zd (s (O 4 [i 0]) (s (s (O 6 [m 0,ln 1 6,i 0]) (bk 0 w562_L0 ⟨true,[],[]⟩)) w562_c0))⟩
@[simp] theorem w562_E0:ZL w562_L0 w562_B0 ⟨true,[8,7,1,0],[]⟩:=ck_lp rfl
noncomputable abbrev w562_K0 (C:WProg) (s:WSt):Option AV:=CK C 0 (pureFin [.tmp 4]) [.sq w562_L0,.bk 0 ⟨true,[],[]⟩,.sq w562_c0] w562_B0 s
def tree:WTree:=(.node (.node (.node (.node (.node (.node (.node (.node .leaf 0 w0 .leaf) 52 w52 .leaf) 56 w56 (.node (.node .leaf 62 w62 .leaf) 65 w65 .leaf)) 66 w66 (.node (.node (.node .leaf 67 w67 .leaf) 73 w73 .leaf) 74 w74 (.node .leaf 77 w77 .leaf))) 78 w78 (.node (.node (.node (.node .leaf 79 w79 .leaf) 80 w80 .leaf) 81 w81 (.node (.node .leaf 82 w82 .leaf) 83 w83 .leaf)) 91 w91 (.node (.node (.node .leaf 108 w108 .leaf) 109 w109 .leaf) 110 w110 (.node .leaf 111 w111 .leaf)))) 112 w112 (.node (.node (.node (.node (.node .leaf 114 w114 .leaf) 115 w115 .leaf) 126 w126 (.node (.node .leaf 130 w130 .leaf) 140 w140 .leaf)) 165 w165 (.node (.node (.node .leaf 166 w166 .leaf) 167 w167 .leaf) 168 w168 (.node .leaf 169 w169 .leaf))) 170 w170 (.node (.node (.node (.node .leaf 171 w171 .leaf) 172 w172 .leaf) 216 w216 (.node (.node .leaf 217 w217 .leaf) 218 w218 .leaf)) 219 w219 (.node (.node (.node .leaf 220 w220 .leaf) 221 w221 .leaf) 222 w222 (.node .leaf 223 w223 .leaf))))) 225 w225 (.node (.node (.node (.node (.node (.node .leaf 226 w226 .leaf) 227 w227 .leaf) 228 w228 (.node (.node .leaf 229 w229 .leaf) 230 w230 .leaf)) 231 w231 (.node (.node (.node .leaf 232 w232 .leaf) 237 w237 .leaf) 239 w239 (.node .leaf 240 w240 .leaf))) 241 w241 (.node (.node (.node (.node .leaf 242 w242 .leaf) 270 w270 .leaf) 271 w271 (.node (.node .leaf 282 w282 .leaf) 328 w328 .leaf)) 329 w329 (.node (.node (.node .leaf 330 w330 .leaf) 331 w331 .leaf) 332 w332 (.node .leaf 333 w333 .leaf)))) 334 w334 (.node (.node (.node (.node (.node .leaf 335 w335 .leaf) 336 w336 .leaf) 337 w337 (.node (.node .leaf 338 w338 .leaf) 339 w339 .leaf)) 340 w340 (.node (.node (.node .leaf 341 w341 .leaf) 342 w342 .leaf) 343 w343 (.node .leaf 357 w357 .leaf))) 360 w360 (.node (.node (.node (.node .leaf 398 w398 .leaf) 399 w399 .leaf) 400 w400 (.node .leaf 401 w401 .leaf)) 404 w404 (.node (.node (.node .leaf 405 w405 .leaf) 406 w406 .leaf) 407 w407 (.node .leaf 408 w408 .leaf)))))) 409 w409 (.node (.node (.node (.node (.node (.node (.node .leaf 410 w410 .leaf) 422 w422 .leaf) 423 w423 (.node (.node .leaf 424 w424 .leaf) 425 w425 .leaf)) 433 w433 (.node (.node (.node .leaf 434 w434 .leaf) 439 w439 .leaf) 441 w441 (.node .leaf 442 w442 .leaf))) 453 w453 (.node (.node (.node (.node .leaf 454 w454 .leaf) 455 w455 .leaf) 456 w456 (.node (.node .leaf 457 w457 .leaf) 458 w458 .leaf)) 459 w459 (.node (.node (.node .leaf 460 w460 .leaf) 461 w461 .leaf) 462 w462 (.node .leaf 463 w463 .leaf)))) 469 w469 (.node (.node (.node (.node (.node .leaf 494 w494 .leaf) 495 w495 .leaf) 496 w496 (.node (.node .leaf 497 w497 .leaf) 498 w498 .leaf)) 499 w499 (.node (.node (.node .leaf 500 w500 .leaf) 501 w501 .leaf) 502 w502 (.node .leaf 503 w503 .leaf))) 504 w504 (.node (.node (.node (.node .leaf 505 w505 .leaf) 510 w510 .leaf) 511 w511 (.node .leaf 512 w512 .leaf)) 513 w513 (.node (.node (.node .leaf 516 w516 .leaf) 517 w517 .leaf) 518 w518 (.node .leaf 519 w519 .leaf))))) 520 w520 (.node (.node (.node (.node (.node (.node .leaf 525 w525 .leaf) 526 w526 .leaf) 527 w527 (.node (.node .leaf 528 w528 .leaf) 529 w529 .leaf)) 530 w530 (.node (.node (.node .leaf 531 w531 .leaf) 532 w532 .leaf) 543 w543 (.node .leaf 544 w544 .leaf))) 545 w545 (.node (.node (.node (.node .leaf 546 w546 .leaf) 547 w547 .leaf) 548 w548 (.node (.node .leaf 549 w549 .leaf) 550 w550 .leaf)) 556 w556 (.node (.node (.node .leaf 557 w557 .leaf) 558 w558 .leaf) 559 w559 (.node .leaf 560 w560 .leaf)))) 561 w561 (.node (.node (.node (.node (.node .leaf 562 w562 .leaf) 563 w563 .leaf) 564 w564 (.node (.node .leaf 565 w565 .leaf) 566 w566 .leaf)) 578 w578 (.node (.node (.node .leaf 579 w579 .leaf) 580 w580 .leaf) 581 w581 (.node .leaf 582 w582 .leaf))) 583 w583 (.node (.node (.node (.node .leaf 584 w584 .leaf) 585 w585 .leaf) 586 w586 (.node .leaf 592 w592 .leaf)) 593 w593 (.node (.node (.node .leaf 594 w594 .leaf) 1073 w73 .leaf) 3006 w566 (.node .leaf 3007 w339 .leaf)))))))
def ids:List (Nat × Nat):=[(0,2),(52,122),(56,68),(62,187),(65,120),(66,185),(67,186),(73,181),(74,188),(77,180),(78,235),(79,237),(80,238),(81,182),(82,234),(83,236),(91,5),(108,136),(109,220),(110,84),(111,58),(112,110),(114,225),(115,115),(126,73),(130,15),(140,254),(165,30),(166,31),(167,32),(168,33),(169,34),(170,35),(171,21),(172,36),(216,153),(217,198),(218,199),(219,154),(220,255),(221,156),(222,155),(223,83),(225,151),(226,217),(227,152),(228,257),(229,258),(230,174),(231,175),(232,176),(237,223),(239,26),(240,76),(241,159),(242,160),(270,74),(271,75),(282,275),(328,64),(329,100),(330,63),(331,65),(332,62),(333,101),(334,102),(335,103),(336,104),(337,105),(338,106),(339,107),(340,108),(341,109),(342,87),(343,85),(357,67),(360,123),(398,149),(399,150),(400,218),(401,243),(404,229),(405,230),(406,127),(407,128),(408,177),(409,256),(410,169),(422,142),(423,143),(424,144),(425,145),(433,283),(434,284),(439,280),(441,205),(442,206),(453,66),(454,47),(455,167),(456,168),(457,157),(458,170),(459,171),(460,172),(461,158),(462,161),(463,162),(469,189),(494,209),(495,210),(496,211),(497,212),(498,213),(499,214),(500,215),(501,216),(502,260),(503,261),(504,192),(505,231),(510,201),(511,202),(512,203),(513,204),(516,287),(517,288),(518,289),(519,290),(520,248),(525,121),(526,219),(527,221),(528,222),(529,224),(530,226),(531,228),(532,227),(543,249),(544,250),(545,251),(546,252),(547,253),(548,276),(549,277),(550,262),(556,244),(557,245),(558,246),(559,247),(560,291),(561,292),(562,293),(563,267),(564,183),(565,184),(566,259),(578,268),(579,269),(580,270),(581,271),(582,272),(583,273),(584,274),(585,285),(586,278),(592,281),(593,282),(594,286),(1073,181),(3006,259),(3007,107)]
def alts:List (Nat × Nat × Nat):=[(52,181,1073),(62,181,1073),(65,181,1073),(66,181,1073),(67,181,1073),(531,259,3006),(168,107,3007)]
end P
end
section
namespace Go.Pw
open Go Go.Pav
@[simp] def eI (x:Int):List AV:=[.int .i64 x]
@[simp] def eU8 (x:Int):List AV:=[.int .u8 x]
@[simp] def eU64 (x:Int):List AV:=[.int .u64 x]
@[simp] def eS (x:List UInt8):List AV:=[.str x]
@[simp] def eB (x:Bool):List AV:=[.bool x]
abbrev L1 (xs:List Int) (e:Bool):AV:=.ro 1 (xs.map eI) e
attribute [simp] Int.natCast_inj
attribute [-simp] List.getElem_cons_drop
section
variable (a n:Nat)
@[simp] theorem lit_lt_cast:((no_index (OfNat.ofNat a):Int) < (n:Int))=((no_index (OfNat.ofNat a):Nat) < n):=propext (Int.ofNat_lt (n:=(OfNat.ofNat a:Nat)) (m:=n))
@[simp] theorem cast_lt_lit:((n:Int) < (no_index (OfNat.ofNat a):Int))=(n < (no_index (OfNat.ofNat a):Nat)):=propext (Int.ofNat_lt (m:=(OfNat.ofNat a:Nat)) (n:=n))
@[simp] theorem lit_le_cast:((no_index (OfNat.ofNat a):Int)≤(n:Int))=((no_index (OfNat.ofNat a):Nat)≤n):=propext (Int.ofNat_le (m:=(OfNat.ofNat a:Nat)) (n:=n))
@[simp] theorem cast_le_lit:((n:Int)≤(no_index (OfNat.ofNat a):Int))=(n≤(no_index (OfNat.ofNat a):Nat)):=propext (Int.ofNat_le (n:=(OfNat.ofNat a:Nat)) (m:=n))
end
theorem fill_get {α β:Type} {f:α→β} {acc:List α} {n i:Nat} {z:β} (h:acc.length=i):(List.map f acc++List.replicate (n+1) z)[i]?=some z:=by
 rw [List.getElem?_append_right (by simp;omega)]
 simp [h]
theorem fill_set {α β:Type} {f:α→β} {acc:List α} {n i:Nat} {z v:β} (h:acc.length=i):(List.map f acc++List.replicate (n+1) z).set i v=List.map f acc++v::List.replicate n z:=by
 rw [List.set_append,if_neg (by simp;omega)]
 simp [h,List.replicate_succ]
@[simp] theorem app_le (a b:Nat):(a+(b+1)≤a)=False:=eq_false (by omega)
theorem drop_cons {α:Type} {l:List α} {i:Nat} (h:i < l.length):l.drop i=l[i]::l.drop (i+1):=List.drop_eq_getElem_cons h
theorem arr_set {α:Type} {f:α→AV} {l:List α} {k:Nat} {v:AV} (h:k < l.length):List.take k (List.map f l)++v::List.drop (k+1) (List.map f l)=(List.map f l).set k v:=by
 rw [List.set_eq_take_append_cons_drop,if_pos (by simpa using h)]
theorem mapO_self {α:Type} {g:α→Option α}:∀ {l:List α},(∀ x ∈ l,g x=some x)→mapO g l=some l
 | [],_=>rfl
 | a::l,h=>by simp only [mapO,h a List.mem_cons_self,ob,mapO_self fun x hx=>h x (List.mem_cons_of_mem _ hx),om]
@[simp] theorem frz_ints (h:WHeap) (n:Nat) (k:IntKind) (l:List Int):mapO (frzW h (n+1)) (List.map (AV.int k) l)=some (List.map (AV.int k) l) :=
 mapO_self fun x hx=>by obtain ⟨y,_,rfl⟩:=List.mem_map.1 hx;rfl
@[simp] theorem all_isC_int (k:IntKind) (l:List Int):l.all (isC ∘ AV.int k)=true:=by simp [isC]
@[simp] theorem all_isC_bool (l:List Bool):l.all (isC ∘ AV.bool)=true:=by simp [isC]
attribute [simp] isLeaf
@[simp] theorem comp_eI:((fun x:AV=>[x]) ∘ AV.int .i64)=eI:=rfl
@[simp] theorem add_le_self' (a b:Nat):(a+b≤a)=(b=0):=propext (by omega)
theorem isE {α:Type} {l:List α} (h:¬ l=[]):l.isEmpty=false:=by cases l <;> simp_all
end Go.Pw
end
section
namespace Go.D
open Go Go.Pav Go.Pw P
attribute [-simp] List.getElem_cons_drop
variable {C:WProg}
def inN (b:UInt8):Bool:=decide (97≤b.toNat∧b.toNat≤122∨48≤b.toNat∧b.toNat≤57)
def inT (b:UInt8):Bool:=decide (32≤b.toNat∧b.toNat≤126)
def isName (s:List UInt8):Bool:=decide (1≤s.length)&&decide (s.length≤16)&&s.all inN
def isText (s:List UInt8):Bool:=decide (s.length≤64)&&s.all inT
def ppB (f:Nat):Bool:=f == 502||f == 494||f == 497||f == 434||f == 518||f == 549||f == 402||f == 411||f == 446||f == 466||f == 429||f == 514||f == 374||f == 480||(decide (1000≤f)&&decide (f < 2000))
def inlB (f:Nat):Bool:=f == 217||f == 459||decide (2000≤f)
structure HasS (C:WProg):Prop where
 f561:C.fns.get 561=some w561
 f517:C.fns.get 517=some w517
 f557:C.fns.get 557=some w557
 f556:C.fns.get 556=some w556
 f511:C.fns.get 511=some w511
 f510:C.fns.get 510=some w510
 f560:C.fns.get 560=some w560
 f545:C.fns.get 545=some w545
 f578:C.fns.get 578=some w578
 f543:C.fns.get 543=some w543
 f495:C.fns.get 495=some w495
 f516:C.fns.get 516=some w516
 f500:C.fns.get 500=some w500
 inl:C.inl=inlB
 pp:C.pp=ppB
theorem inName_ok (H:HasS C) (b:UInt8):FnW C 561 [.int .u8 b.toNat]=some (.bool (inN b)):=by
 rw [fnW_eq H.f561 rfl]
 unfold inN
 by_cases c1:97≤b.toNat <;> by_cases c2:b.toNat≤122 <;> by_cases c3:48≤b.toNat <;> by_cases c4:b.toNat≤57 <;> simp [w561,c1,c2,c3,c4]
theorem named_loop (H:HasS C) (s:List UInt8) (hl:s.length≤16):∀ n i,n+i=s.length →
 w517_K0 C ⟨[(14,.int .i64 i),(13,.int .i64 s.length),(0,.str s)],[],0⟩=some (.bool ((s.drop i).all inN)):=by
 intro n
 induction n with
 | zero =>
  intro i hi
  simp only [w517_K0];rw [ck_unf w517_B0.eq_1]
  have h1:s.drop i=[]:=List.drop_eq_nil_of_le (by omega)
  have h3:¬ i < s.length:=by omega
  simp [ck_unf w517_c0.eq_1,h1,h3]
 | succ n ih =>
  intro i hi
  have h1:i < s.length:=by omega
  have:=ih (i+1) (by omega)
  have hb:=inName_ok H s[i]
  simp only [w517_K0] at this ⊢;rw [ck_unf w517_B0.eq_1]
  rw [drop_cons h1]
  simp at this
  by_cases c:inN s[i]=true
  · simp (disch:=omega) [h1,wI64,hb,c,H.inl,inlB,H.pp,ppB,this]
  · simp (disch:=omega) [h1,wI64,hb,c,H.inl,inlB,H.pp,ppB]
theorem named_ok (H:HasS C) (s:List UInt8):FnW C 517 [.str s]=some (.bool (isName s)):=by
 rw [fnW_eq H.f517 rfl]
 unfold isName
 by_cases c1:1≤s.length
 · by_cases c2:s.length≤16
   · have:=named_loop H s c2 s.length 0 (by simp)
     simp only [w517_K0] at this
     simp at this
     have c3:¬ ((s.length:Int) < 1):=by omega
     have c4:¬ (16 < (s.length:Int)):=by omega
     simp [w517,c1,c2,c3,c4,this]
   · have c3:¬ ((s.length:Int) < 1):=by omega
     have c4:(16 < (s.length:Int)):=by omega
     simp [w517,c1,c2,c3,c4]
 · have c3:((s.length:Int) < 1):=by omega
   simp [w517,c1,c3]
theorem inN_cases (b:UInt8):(inN b=true∧(97≤b.toNat∧b.toNat≤122∨¬ 97≤b.toNat∧48≤b.toNat∧b.toNat≤57))∨(inN b=false∧(¬ 97≤b.toNat∧(¬ 48≤b.toNat∨¬ b.toNat≤57)∨¬ b.toNat≤122∧¬ b.toNat≤57)):=by
 unfold inN
 by_cases c:97≤b.toNat∧b.toNat≤122∨48≤b.toNat∧b.toNat≤57
 · left;exact ⟨decide_eq_true c,by omega⟩
 · right;exact ⟨decide_eq_false c,by omega⟩
theorem rname_loop (H:HasS C) (s:List UInt8) (hl:s.length≤16∨True):∀ n i,n+i=min s.length 17 →
 w557_K0 C ⟨[(3,.int .i64 i),(0,.str s)],[],0⟩=some (.bool (((s.take 17).drop i).all inN&&decide (1≤s.length)&&decide (s.length≤16))):=by
 intro n
 induction n with
 | zero =>
  intro i hi
  simp only [w557_K0];rw [ck_unf w557_B0.eq_1]
  have h1:(s.take 17).drop i=[]:=List.drop_eq_nil_of_le (by simp;omega)
  by_cases h3:i < s.length
  · have h4:¬ i < 17:=by omega
    have h4':¬ (i:Int) < 17:=by omega
    have h5:¬ s.length≤16:=by omega
    have h6:¬ (s.length:Int)≤16:=by omega
    have h7:1≤(s.length:Int):=by omega
    simp [ck_unf w557_c0.eq_1,h1,h3,h4,h4',h5,h6,h7]
  · by_cases h5:s.length≤16 <;> by_cases h6:1≤s.length
    · have h7:(s.length:Int)≤16:=by omega
      have h8:1≤(s.length:Int):=by omega
      simp [ck_unf w557_c0.eq_1,h1,h3,h5,h6,h7,h8]
    · have h7:(s.length:Int)≤16:=by omega
      have h8:¬ 1≤(s.length:Int):=by omega
      simp [ck_unf w557_c0.eq_1,h1,h3,h5,h6,h7,h8]
    · have h7:¬ (s.length:Int)≤16:=by omega
      have h8:1≤(s.length:Int):=by omega
      simp [ck_unf w557_c0.eq_1,h1,h3,h5,h6,h7,h8]
    · omega
 | succ n ih =>
  intro i hi
  have h1:i < s.length:=by omega
  have h2:(i:Int) < 17:=by omega
  have:=ih (i+1) (by omega)
  have hd:(s.take 17).drop i=s[i]::(s.take 17).drop (i+1):=by
   rw [drop_cons (show i < (s.take 17).length by simp;omega)];simp
  rw [hd]
  simp only [w557_K0] at this ⊢;rw [ck_unf w557_B0.eq_1]
  simp at this
  have key:=inN_cases s[i]
  by_cases q1:97≤s[i].toNat <;> by_cases q2:122 < s[i].toNat <;> by_cases q3:48≤s[i].toNat <;> by_cases q4:57 < s[i].toNat <;> first
   | (exfalso;omega)
   | (have c : inN s[i] = true := by rcases key with ⟨c, _⟩ | ⟨_, q⟩ <;> first | exact c | (exfalso; omega)
      simp (disch:=omega) [h1,h2,wI64,c,q1,q2,q3,q4,this];done)
   | (have c : inN s[i] = false := by rcases key with ⟨_, q⟩ | ⟨c, _⟩ <;> first | exact c | (exfalso; omega)
      simp (disch:=omega) [h1,h2,wI64,c,q1,q2,q3,q4];done)
theorem rname_ok (H:HasS C) (s:List UInt8):FnW C 557 [.str s]=some (.bool (isName s)):=by
 rw [fnW_eq H.f557 rfl]
 have:=rname_loop H s (.inr trivial) (min s.length 17) 0 (by simp)
 simp only [w557_K0] at this
 simp only [List.drop_zero] at this
 have e:((s.take 17).all inN&&decide (1≤s.length)&&decide (s.length≤16))=isName s:=by
  unfold isName
  by_cases c:s.length≤16
  · rw [List.take_of_length_le (by omega)];simp [c];rw [Bool.and_comm]
  · simp [c]
 rw [e] at this
 simp at this
 simp [w557,this]
theorem rstr_loop (H:HasS C) (s:List UInt8) (hl:s.length≤64):∀ n i,n+i=s.length →
 w556_K0 C ⟨[(3,.int .i64 i),(0,.str s)],[],0⟩=some (.bool ((s.drop i).all inT)):=by
 intro n
 induction n with
 | zero =>
  intro i hi
  simp only [w556_K0];rw [ck_unf w556_B0.eq_1]
  have h1:s.drop i=[]:=List.drop_eq_nil_of_le (by omega)
  have h3:¬ i < s.length:=by omega
  simp [ck_unf w556_c0.eq_1,h1,h3]
 | succ n ih =>
  intro i hi
  have h1:i < s.length:=by omega
  have:=ih (i+1) (by omega)
  simp only [w556_K0] at this ⊢;rw [ck_unf w556_B0.eq_1]
  rw [drop_cons h1]
  simp at this
  by_cases c1:32≤s[i].toNat <;> by_cases c2:126 < s[i].toNat
  · have c:inT s[i]=false:=decide_eq_false (fun q=>by omega)
    simp (disch:=omega) [h1,wI64,c,c1,c2]
  · have c:inT s[i]=true:=decide_eq_true ⟨c1,by omega⟩
    simp (disch:=omega) [h1,wI64,c,c1,c2,this]
  · omega
  · have c:inT s[i]=false:=decide_eq_false (fun q=>c1 q.1)
    simp (disch:=omega) [h1,wI64,c,c1,c2]
theorem rstr_ok (H:HasS C) (s:List UInt8):FnW C 556 [.str s]=some (.bool (isText s)):=by
 rw [fnW_eq H.f556 rfl]
 unfold isText
 by_cases c2:s.length≤64
 · have:=rstr_loop H s c2 s.length 0 (by simp)
   simp only [w556_K0] at this
   simp at this
   have c4:¬ (64 < (s.length:Int)):=by omega
   simp [w556,c2,c4,this]
 · have c4:(64 < (s.length:Int)):=by omega
   simp [w556,c2,c4]
theorem words_loop (H:HasS C) (s:List UInt8) (hl:s.length≤64):∀ n i,n+i=s.length →
 w510_K0 C ⟨[(3,.int .i64 i),(0,.str s)],[],0⟩=some (.int .i64 (if (s.drop i).all inT=true then 1 else 0)):=by
 intro n
 induction n with
 | zero =>
  intro i hi
  simp only [w510_K0];rw [ck_unf w510_B0.eq_1]
  have h1:s.drop i=[]:=List.drop_eq_nil_of_le (by omega)
  have h3:¬ i < s.length:=by omega
  simp [ck_unf w510_c0.eq_1,h1,h3]
 | succ n ih =>
  intro i hi
  have h1:i < s.length:=by omega
  have:=ih (i+1) (by omega)
  simp only [w510_K0] at this ⊢;rw [ck_unf w510_B0.eq_1]
  rw [drop_cons h1]
  generalize hX:((s.drop (i+1)).all inT)=X at *
  simp at this
  rw [List.all_cons,hX]
  by_cases c1:32≤s[i].toNat <;> by_cases c2:126 < s[i].toNat
  · have c:inT s[i]=false:=decide_eq_false (fun q=>by omega)
    simp (disch:=omega) [h1,wI64,c,c1,c2]
  · have c:inT s[i]=true:=decide_eq_true ⟨c1,by omega⟩
    simp (disch:=omega) [h1,wI64,c,c1,c2,this]
  · omega
  · have c:inT s[i]=false:=decide_eq_false (fun q=>c1 q.1)
    simp (disch:=omega) [h1,wI64,c,c1,c2]
theorem words_ok (H:HasS C) (s:List UInt8):FnW C 510 [.str s]=some (.int .i64 (if isText s=true then 1 else 0)):=by
 rw [fnW_eq H.f510 rfl]
 unfold isText
 by_cases c2:s.length≤64
 · have:=words_loop H s c2 s.length 0 (by simp)
   simp only [w510_K0] at this
   simp only [List.drop_zero] at this
   generalize hX:s.all inT=X at *
   simp at this
   have c4:¬ (64 < (s.length:Int)):=by omega
   simp [w510,c2,c4,this]
 · have c4:(64 < (s.length:Int)):=by omega
   simp [w510,c2,c4]
structure Pred (C:WProg) (g:Nat) (Q:UInt8→Bool):Prop where
 asc:∀ b:UInt8,b.toNat < 128→FnW C g [.int .i32 b.toNat]=some (.bool (!Q b))
 high:∀ r:Nat,128≤r→FnW C g [.int .i32 r]=some (.bool true)
 qh:∀ b:UInt8,128≤b.toNat→Q b=false
 ne:ppB g=false
 ni:inlB g=false
theorem dec_ascii (s:List UInt8) (pos:Nat) (h:pos < s.length) (ha:s[pos].toNat < 128):Utf8.decode ⟨⟨s⟩⟩ pos=(s[pos].toNat,1):=decode_ascii ⟨⟨s⟩⟩ pos h ha
theorem dec_high (s:List UInt8) (pos:Nat) (h:pos < s.length) (ha:128≤s[pos].toNat):128≤(Utf8.decode ⟨⟨s⟩⟩ pos).1∧1≤(Utf8.decode ⟨⟨s⟩⟩ pos).2:=decode_high ⟨⟨s⟩⟩ pos h ha
theorem index_loop (H:HasS C) {g:Nat} {Q:UInt8→Bool} (G:Pred C g Q) (s:List UInt8):∀ n pos,n+pos=s.length →
 ∃ v:Int,w578_K0 C ⟨[(10,.ptr 0 0 0),(2,.bool true),(1,.fn g [])],[(0,.iter s pos)],1⟩=some (.int .i64 v)∧decide (v < 0)=(s.drop pos).all Q:=by
 intro n
 induction n with
 | zero =>
  intro pos hp
  simp only [w578_K0];rw [ck_unf w578_B0.eq_1]
  have h1:s.drop pos=[]:=List.drop_eq_nil_of_le (by omega)
  have h3:¬ pos < s.length:=by omega
  exact ⟨-1,by simp [ck_unf w578_c0.eq_1,h3],by simp [h1]⟩
 | succ n ih =>
  intro pos hp
  have h1:pos < s.length:=by omega
  have hN:=G.ne;have hI:=G.ni
  rw [drop_cons h1]
  by_cases ha:s[pos].toNat < 128
  · have hd:=dec_ascii s pos h1 ha
    have hb:=G.asc s[pos] ha
    by_cases c:Q s[pos]=true
    · obtain ⟨v,hv,hq⟩:=ih (pos+1) (by omega)
      refine ⟨v,?_,by simp [hq,c]⟩
      simp only [w578_K0] at hv ⊢;rw [ck_unf w578_B0.eq_1]
      simp (disch:=omega) [h1,hd,hb,c,H.inl,hI,H.pp,hN,hv]
    · refine ⟨pos,?_,by simp [c]⟩
      simp only [w578_K0];rw [ck_unf w578_B0.eq_1]
      simp (disch:=omega) [h1,hd,hb,c,H.inl,hI,H.pp,hN]
  · have hd:=dec_high s pos h1 (by omega)
    have hb:=G.high (Utf8.decode ⟨⟨s⟩⟩ pos).1 hd.1
    have hq:=G.qh s[pos] (by omega)
    refine ⟨pos,?_,by simp [hq]⟩
    simp only [w578_K0];rw [ck_unf w578_B0.eq_1]
    obtain ⟨D,hD⟩:∃ D,Utf8.decode ⟨⟨s⟩⟩ pos=D:=⟨_,rfl⟩
    rw [hD] at hb
    simp (disch:=omega) [h1,hD,hb,H.inl,hI,H.pp,hN]
theorem index_ok (H:HasS C) {g:Nat} {Q:UInt8→Bool} (G:Pred C g Q) (s:List UInt8) :
 ∃ v:Int,FnW C 543 [.str s,.fn g []]=some (.int .i64 v)∧decide (v < 0)=s.all Q:=by
 obtain ⟨v,h,q⟩:=index_loop H G s s.length 0 (by simp)
 refine ⟨v,?_,q⟩
 have h2:FnW C 578 [.str s,.fn g [],.bool true]=some (.int .i64 v):=by
  rw [fnW_eq H.f578 rfl]
  simp only [w578_K0] at h
  simp [w578,h]
 rw [fnW_eq H.f543 rfl]
 simp [w543,H.inl,inlB,H.pp,ppB,h2]
theorem contains_ok (H:HasS C) {g:Nat} {Q:UInt8→Bool} (G:Pred C g Q) (s:List UInt8) :
 FnW C 495 [.str s,.fn g []]=some (.bool (!s.all Q)):=by
 obtain ⟨v,h,q⟩:=index_ok H G s
 rw [fnW_eq H.f495 rfl,← q]
 by_cases c:v < 0
 · have c':¬ 0≤v:=by omega
   simp [w495,H.inl,inlB,H.pp,ppB,h,c,c']
 · have c':0≤v:=by omega
   simp [w495,H.inl,inlB,H.pp,ppB,h,c,c']
theorem pred560 (H:HasS C):Pred C 560 inT where
 asc b hb:=by
  rw [fnW_eq H.f560 rfl]
  by_cases c1:32≤b.toNat <;> by_cases c2:126 < b.toNat
  · have c:inT b=false:=decide_eq_false (fun q=>by omega)
    simp [w560,c,c1,c2]
  · have c:inT b=true:=decide_eq_true ⟨c1,by omega⟩
    simp [w560,c,c1,c2]
  · omega
  · have c:inT b=false:=decide_eq_false (fun q=>c1 q.1)
    simp [w560,c,c1,c2]
 high r hr:=by
  rw [fnW_eq H.f560 rfl]
  have h1:32≤r:=by omega
  have h2:126 < r:=by omega
  simp [w560,h1,h2]
 qh b hb:=decide_eq_false (fun q=>by omega)
 ne:=by rfl
 ni:=by rfl
theorem pred545 (H:HasS C):Pred C 545 inN where
 asc b hb:=by
  rw [fnW_eq H.f545 rfl]
  have key:=inN_cases b
  by_cases q1:97≤b.toNat <;> by_cases q2:122 < b.toNat <;> by_cases q3:48≤b.toNat <;> by_cases q4:57 < b.toNat <;> first
   | (exfalso;omega)
   | (have c : inN b = true := by rcases key with ⟨c, _⟩ | ⟨_, q⟩ <;> first | exact c | (exfalso; omega)
      simp [w545,c,q1,q2,q3,q4];done)
   | (have c : inN b = false := by rcases key with ⟨_, q⟩ | ⟨c, _⟩ <;> first | exact c | (exfalso; omega)
      simp [w545,c,q1,q2,q3,q4];done)
 high r hr:=by
  rw [fnW_eq H.f545 rfl]
  have h1:97≤r:=by omega
  have h2:122 < r:=by omega
  have h3:48≤r:=by omega
  have h4:57 < r:=by omega
  simp [w545,h1,h2,h3,h4]
 qh b hb:=by unfold inN;exact decide_eq_false (fun q=>by omega)
 ne:=by rfl
 ni:=by rfl
theorem text_ok (H:HasS C) (s:List UInt8):FnW C 516 [.str s]=some (.bool (isText s)):=by
 obtain ⟨v,h,q⟩:=index_ok H (pred560 H) s
 rw [fnW_eq H.f516 rfl]
 unfold isText
 rw [← q]
 by_cases c2:s.length≤64
 · have c4:(s.length:Int)≤64:=by omega
   simp [w516,c2,c4,H.inl,inlB,H.pp,ppB,h]
 · have c4:¬ ((s.length:Int)≤64):=by omega
   simp [w516,c2,c4]
theorem iname_ok (H:HasS C) (s:List UInt8):FnW C 500 [.str s]=some (.bool (isName s)):=by
 have h:=contains_ok H (pred545 H) s
 rw [fnW_eq H.f500 rfl]
 unfold isName
 by_cases c1:s=[]
 · subst c1;simp [w500]
 · have c3:1≤s.length:=List.length_pos_iff.2 c1
   by_cases c2:s.length≤16
   · have c4:(s.length:Int)≤16:=by omega
     simp [w500,c1,c2,c3,c4,H.inl,inlB,H.pp,ppB,h]
   · have c4:¬ ((s.length:Int)≤16):=by omega
     simp [w500,c1,c2,c4]
end Go.D
end
section
namespace Go.Pav
open Go
def phiOf (ids:List (Nat × Nat)) (f:FuncId):Option Nat :=
 match ids with
 | []=>none
 | (g,k)::r=>if k=f then some g else phiOf r f
def psiOf (ids:List (Nat × Nat)) (g:Nat):FuncId :=
 match get ids g with
 | some k=>k
 | none=>0
theorem phiOf_mem:∀ {ids:List (Nat × Nat)} {f:FuncId} {g:Nat},phiOf ids f=some g→(g,f) ∈ ids:=by
 intro ids
 induction ids with
 | nil=>intro f g h;simp [phiOf] at h
 | cons x r ih =>
  intro f g h
  obtain ⟨a,k⟩:=x
  simp only [phiOf] at h
  split at h
  · rename_i hk
    cases h;subst hk;exact List.mem_cons_self
  · exact List.mem_cons_of_mem _ (ih h)
theorem psi_phi {ids:List (Nat × Nat)} (hc:(ids.all fun x=>decide (psiOf ids x.1=x.2))=true):∀ f g,phiOf ids f=some g→psiOf ids g=f:=by
 intro f g h
 have:=List.all_eq_true.1 hc _ (phiOf_mem h)
 simpa using this
def TreeAll (p:Nat→CFn→Prop):Tree→Prop
 | .leaf=>True
 | .node l k f r=>TreeAll p l∧p k f∧TreeAll p r
theorem TreeAll.get {p:Nat→CFn→Prop}:∀ {t:Tree},TreeAll p t→∀ {g:Nat} {cf:CFn},t.get g=some cf→p g cf:=by
 intro t
 induction t with
 | leaf=>intro _ g cf h;simp [Tree.get] at h
 | node l k f r ihl ihr =>
  intro ⟨h1,h2,h3⟩ g cf h
  simp only [Tree.get] at h
  split at h
  · rename_i hk;cases h;subst hk;exact h2
  · split at h
    · exact ihl h1 h
    · exact ihr h3 h
def altOf:List (Nat × FuncId × Nat)→Nat→FuncId→Option Nat
 | [],_,_=>none
 | (g,f,k)::r,g',f'=>if g=g'∧f=f' then some k else altOf r g' f'
theorem altOf_mem:∀ {alts:List (Nat × FuncId × Nat)} {g:Nat} {f:FuncId} {k:Nat},altOf alts g f=some k→(g,f,k) ∈ alts:=by
 intro alts
 induction alts with
 | nil=>intro g f k h;simp [altOf] at h
 | cons x r ih =>
  intro g f k h
  obtain ⟨a,b,c⟩:=x
  simp only [altOf] at h
  split at h
  · rename_i hk
    obtain ⟨rfl,rfl⟩:=hk
    cases h;exact List.mem_cons_self
  · exact List.mem_cons_of_mem _ (ih h)
def phiG (ids:List (Nat × Nat)) (alts:List (Nat × FuncId × Nat)) (g:Nat) (f:FuncId):Option Nat :=
 match altOf alts g f with
 | some k=>some k
 | none=>phiOf ids f
def FnOk (P:Program) (ids:List (Nat × Nat)) (alts:List (Nat × FuncId × Nat)) (g:Nat) (cf:CFn):Prop:=∃ fn,P.funcs[psiOf ids g]?=some fn∧(cFn P (phiG ids alts g) fn).map stripF=some (stripF cf)
theorem linked {P:Program} {ids:List (Nat × Nat)} {alts:List (Nat × FuncId × Nat)} {C:Prog} (hc:(ids.all fun x=>decide (psiOf ids x.1=x.2))=true) (ha:(alts.all fun x=>decide (psiOf ids x.2.2=x.2.1))=true)
 (ht:TreeAll (FnOk P ids alts) C.fns) (hm:P.follows .mixedOrders=true):Linked P (phiG ids alts) (psiOf ids) C:=by
 refine ⟨fun g f k h=>?_,fun _ _ h=>ht.get h,hm⟩
 unfold phiG at h
 split at h
 · rename_i k' hk
   cases h
   simpa using List.all_eq_true.1 ha _ (altOf_mem hk)
 · exact psi_phi hc _ _ h
end Go.Pav
end
section
set_option maxRecDepth 100000
namespace P
open Go Go.Pav Go.Pw Go.Proofs
theorem l0:FnOk Tryz.prog ids alts 0 (erFn w0):=⟨Tryz.f2,Tryz.func2,by kernel_rfl⟩
theorem l52:FnOk Tryz.prog ids alts 52 (erFn w52):=⟨Tryz.f122,Tryz.func122,by kernel_rfl⟩
theorem l56:FnOk Tryz.prog ids alts 56 (erFn w56):=⟨Tryz.f68,Tryz.func68,by kernel_rfl⟩
theorem l62:FnOk Tryz.prog ids alts 62 (erFn w62):=⟨Tryz.f187,Tryz.func187,by kernel_rfl⟩
theorem l65:FnOk Tryz.prog ids alts 65 (erFn w65):=⟨Tryz.f120,Tryz.func120,by kernel_rfl⟩
theorem l66:FnOk Tryz.prog ids alts 66 (erFn w66):=⟨Tryz.f185,Tryz.func185,by kernel_rfl⟩
theorem l67:FnOk Tryz.prog ids alts 67 (erFn w67):=⟨Tryz.f186,Tryz.func186,by kernel_rfl⟩
theorem l73:FnOk Tryz.prog ids alts 73 (erFn w73):=⟨Tryz.f181,Tryz.func181,by kernel_rfl⟩
theorem l74:FnOk Tryz.prog ids alts 74 (erFn w74):=⟨Tryz.f188,Tryz.func188,by kernel_rfl⟩
theorem l77:FnOk Tryz.prog ids alts 77 (erFn w77):=⟨Tryz.f180,Tryz.func180,by kernel_rfl⟩
theorem l78:FnOk Tryz.prog ids alts 78 (erFn w78):=⟨Tryz.f235,Tryz.func235,by kernel_rfl⟩
theorem l79:FnOk Tryz.prog ids alts 79 (erFn w79):=⟨Tryz.f237,Tryz.func237,by kernel_rfl⟩
theorem l80:FnOk Tryz.prog ids alts 80 (erFn w80):=⟨Tryz.f238,Tryz.func238,by kernel_rfl⟩
theorem l81:FnOk Tryz.prog ids alts 81 (erFn w81):=⟨Tryz.f182,Tryz.func182,by kernel_rfl⟩
theorem l82:FnOk Tryz.prog ids alts 82 (erFn w82):=⟨Tryz.f234,Tryz.func234,by kernel_rfl⟩
theorem l83:FnOk Tryz.prog ids alts 83 (erFn w83):=⟨Tryz.f236,Tryz.func236,by kernel_rfl⟩
theorem l91:FnOk Tryz.prog ids alts 91 (erFn w91):=⟨Tryz.f5,Tryz.func5,by kernel_rfl⟩
theorem l108:FnOk Tryz.prog ids alts 108 (erFn w108):=⟨Tryz.f136,Tryz.func136,by kernel_rfl⟩
theorem l109:FnOk Tryz.prog ids alts 109 (erFn w109):=⟨Tryz.f220,Tryz.func220,by kernel_rfl⟩
theorem l110:FnOk Tryz.prog ids alts 110 (erFn w110):=⟨Tryz.f84,Tryz.func84,by kernel_rfl⟩
theorem l111:FnOk Tryz.prog ids alts 111 (erFn w111):=⟨Tryz.f58,Tryz.func58,by kernel_rfl⟩
theorem l112:FnOk Tryz.prog ids alts 112 (erFn w112):=⟨Tryz.f110,Tryz.func110,by kernel_rfl⟩
theorem l114:FnOk Tryz.prog ids alts 114 (erFn w114):=⟨Tryz.f225,Tryz.func225,by kernel_rfl⟩
theorem l115:FnOk Tryz.prog ids alts 115 (erFn w115):=⟨Tryz.f115,Tryz.func115,by kernel_rfl⟩
theorem l126:FnOk Tryz.prog ids alts 126 (erFn w126):=⟨Tryz.f73,Tryz.func73,by kernel_rfl⟩
theorem l130:FnOk Tryz.prog ids alts 130 (erFn w130):=⟨Tryz.f15,Tryz.func15,by kernel_rfl⟩
theorem l140:FnOk Tryz.prog ids alts 140 (erFn w140):=⟨Tryz.f254,Tryz.func254,by kernel_rfl⟩
theorem l165:FnOk Tryz.prog ids alts 165 (erFn w165):=⟨Tryz.f30,Tryz.func30,by kernel_rfl⟩
theorem l166:FnOk Tryz.prog ids alts 166 (erFn w166):=⟨Tryz.f31,Tryz.func31,by kernel_rfl⟩
theorem l167:FnOk Tryz.prog ids alts 167 (erFn w167):=⟨Tryz.f32,Tryz.func32,by kernel_rfl⟩
theorem l168:FnOk Tryz.prog ids alts 168 (erFn w168):=⟨Tryz.f33,Tryz.func33,by kernel_rfl⟩
theorem l169:FnOk Tryz.prog ids alts 169 (erFn w169):=⟨Tryz.f34,Tryz.func34,by kernel_rfl⟩
theorem l170:FnOk Tryz.prog ids alts 170 (erFn w170):=⟨Tryz.f35,Tryz.func35,by kernel_rfl⟩
theorem l171:FnOk Tryz.prog ids alts 171 (erFn w171):=⟨Tryz.f21,Tryz.func21,by kernel_rfl⟩
theorem l172:FnOk Tryz.prog ids alts 172 (erFn w172):=⟨Tryz.f36,Tryz.func36,by kernel_rfl⟩
theorem l216:FnOk Tryz.prog ids alts 216 (erFn w216):=⟨Tryz.f153,Tryz.func153,by kernel_rfl⟩
theorem l217:FnOk Tryz.prog ids alts 217 (erFn w217):=⟨Tryz.f198,Tryz.func198,by kernel_rfl⟩
theorem l218:FnOk Tryz.prog ids alts 218 (erFn w218):=⟨Tryz.f199,Tryz.func199,by kernel_rfl⟩
theorem l219:FnOk Tryz.prog ids alts 219 (erFn w219):=⟨Tryz.f154,Tryz.func154,by kernel_rfl⟩
theorem l220:FnOk Tryz.prog ids alts 220 (erFn w220):=⟨Tryz.f255,Tryz.func255,by kernel_rfl⟩
theorem l221:FnOk Tryz.prog ids alts 221 (erFn w221):=⟨Tryz.f156,Tryz.func156,by kernel_rfl⟩
theorem l222:FnOk Tryz.prog ids alts 222 (erFn w222):=⟨Tryz.f155,Tryz.func155,by kernel_rfl⟩
theorem l223:FnOk Tryz.prog ids alts 223 (erFn w223):=⟨Tryz.f83,Tryz.func83,by kernel_rfl⟩
theorem l225:FnOk Tryz.prog ids alts 225 (erFn w225):=⟨Tryz.f151,Tryz.func151,by kernel_rfl⟩
theorem l226:FnOk Tryz.prog ids alts 226 (erFn w226):=⟨Tryz.f217,Tryz.func217,by kernel_rfl⟩
theorem l227:FnOk Tryz.prog ids alts 227 (erFn w227):=⟨Tryz.f152,Tryz.func152,by kernel_rfl⟩
theorem l228:FnOk Tryz.prog ids alts 228 (erFn w228):=⟨Tryz.f257,Tryz.func257,by kernel_rfl⟩
theorem l229:FnOk Tryz.prog ids alts 229 (erFn w229):=⟨Tryz.f258,Tryz.func258,by kernel_rfl⟩
theorem l230:FnOk Tryz.prog ids alts 230 (erFn w230):=⟨Tryz.f174,Tryz.func174,by kernel_rfl⟩
theorem l231:FnOk Tryz.prog ids alts 231 (erFn w231):=⟨Tryz.f175,Tryz.func175,by kernel_rfl⟩
theorem l232:FnOk Tryz.prog ids alts 232 (erFn w232):=⟨Tryz.f176,Tryz.func176,by kernel_rfl⟩
theorem l237:FnOk Tryz.prog ids alts 237 (erFn w237):=⟨Tryz.f223,Tryz.func223,by kernel_rfl⟩
theorem l239:FnOk Tryz.prog ids alts 239 (erFn w239):=⟨Tryz.f26,Tryz.func26,by kernel_rfl⟩
theorem l240:FnOk Tryz.prog ids alts 240 (erFn w240):=⟨Tryz.f76,Tryz.func76,by kernel_rfl⟩
theorem l241:FnOk Tryz.prog ids alts 241 (erFn w241):=⟨Tryz.f159,Tryz.func159,by kernel_rfl⟩
theorem l242:FnOk Tryz.prog ids alts 242 (erFn w242):=⟨Tryz.f160,Tryz.func160,by kernel_rfl⟩
theorem l270:FnOk Tryz.prog ids alts 270 (erFn w270):=⟨Tryz.f74,Tryz.func74,by kernel_rfl⟩
theorem l271:FnOk Tryz.prog ids alts 271 (erFn w271):=⟨Tryz.f75,Tryz.func75,by kernel_rfl⟩
theorem l282:FnOk Tryz.prog ids alts 282 (erFn w282):=⟨Tryz.f275,Tryz.func275,by kernel_rfl⟩
theorem l328:FnOk Tryz.prog ids alts 328 (erFn w328):=⟨Tryz.f64,Tryz.func64,by kernel_rfl⟩
theorem l329:FnOk Tryz.prog ids alts 329 (erFn w329):=⟨Tryz.f100,Tryz.func100,by kernel_rfl⟩
theorem l330:FnOk Tryz.prog ids alts 330 (erFn w330):=⟨Tryz.f63,Tryz.func63,by kernel_rfl⟩
theorem l331:FnOk Tryz.prog ids alts 331 (erFn w331):=⟨Tryz.f65,Tryz.func65,by kernel_rfl⟩
theorem l332:FnOk Tryz.prog ids alts 332 (erFn w332):=⟨Tryz.f62,Tryz.func62,by kernel_rfl⟩
theorem l333:FnOk Tryz.prog ids alts 333 (erFn w333):=⟨Tryz.f101,Tryz.func101,by kernel_rfl⟩
theorem l334:FnOk Tryz.prog ids alts 334 (erFn w334):=⟨Tryz.f102,Tryz.func102,by kernel_rfl⟩
theorem l335:FnOk Tryz.prog ids alts 335 (erFn w335):=⟨Tryz.f103,Tryz.func103,by kernel_rfl⟩
theorem l336:FnOk Tryz.prog ids alts 336 (erFn w336):=⟨Tryz.f104,Tryz.func104,by kernel_rfl⟩
theorem l337:FnOk Tryz.prog ids alts 337 (erFn w337):=⟨Tryz.f105,Tryz.func105,by kernel_rfl⟩
theorem l338:FnOk Tryz.prog ids alts 338 (erFn w338):=⟨Tryz.f106,Tryz.func106,by kernel_rfl⟩
theorem l339:FnOk Tryz.prog ids alts 339 (erFn w339):=⟨Tryz.f107,Tryz.func107,by kernel_rfl⟩
theorem l340:FnOk Tryz.prog ids alts 340 (erFn w340):=⟨Tryz.f108,Tryz.func108,by kernel_rfl⟩
theorem l341:FnOk Tryz.prog ids alts 341 (erFn w341):=⟨Tryz.f109,Tryz.func109,by kernel_rfl⟩
theorem l342:FnOk Tryz.prog ids alts 342 (erFn w342):=⟨Tryz.f87,Tryz.func87,by kernel_rfl⟩
theorem l343:FnOk Tryz.prog ids alts 343 (erFn w343):=⟨Tryz.f85,Tryz.func85,by kernel_rfl⟩
theorem l357:FnOk Tryz.prog ids alts 357 (erFn w357):=⟨Tryz.f67,Tryz.func67,by kernel_rfl⟩
theorem l360:FnOk Tryz.prog ids alts 360 (erFn w360):=⟨Tryz.f123,Tryz.func123,by kernel_rfl⟩
theorem l398:FnOk Tryz.prog ids alts 398 (erFn w398):=⟨Tryz.f149,Tryz.func149,by kernel_rfl⟩
theorem l399:FnOk Tryz.prog ids alts 399 (erFn w399):=⟨Tryz.f150,Tryz.func150,by kernel_rfl⟩
theorem l400:FnOk Tryz.prog ids alts 400 (erFn w400):=⟨Tryz.f218,Tryz.func218,by kernel_rfl⟩
theorem l401:FnOk Tryz.prog ids alts 401 (erFn w401):=⟨Tryz.f243,Tryz.func243,by kernel_rfl⟩
theorem l404:FnOk Tryz.prog ids alts 404 (erFn w404):=⟨Tryz.f229,Tryz.func229,by kernel_rfl⟩
theorem l405:FnOk Tryz.prog ids alts 405 (erFn w405):=⟨Tryz.f230,Tryz.func230,by kernel_rfl⟩
theorem l406:FnOk Tryz.prog ids alts 406 (erFn w406):=⟨Tryz.f127,Tryz.func127,by kernel_rfl⟩
theorem l407:FnOk Tryz.prog ids alts 407 (erFn w407):=⟨Tryz.f128,Tryz.func128,by kernel_rfl⟩
theorem l408:FnOk Tryz.prog ids alts 408 (erFn w408):=⟨Tryz.f177,Tryz.func177,by kernel_rfl⟩
theorem l409:FnOk Tryz.prog ids alts 409 (erFn w409):=⟨Tryz.f256,Tryz.func256,by kernel_rfl⟩
theorem l410:FnOk Tryz.prog ids alts 410 (erFn w410):=⟨Tryz.f169,Tryz.func169,by kernel_rfl⟩
theorem l422:FnOk Tryz.prog ids alts 422 (erFn w422):=⟨Tryz.f142,Tryz.func142,by kernel_rfl⟩
theorem l423:FnOk Tryz.prog ids alts 423 (erFn w423):=⟨Tryz.f143,Tryz.func143,by kernel_rfl⟩
theorem l424:FnOk Tryz.prog ids alts 424 (erFn w424):=⟨Tryz.f144,Tryz.func144,by kernel_rfl⟩
theorem l425:FnOk Tryz.prog ids alts 425 (erFn w425):=⟨Tryz.f145,Tryz.func145,by kernel_rfl⟩
theorem l433:FnOk Tryz.prog ids alts 433 (erFn w433):=⟨Tryz.f283,Tryz.func283,by kernel_rfl⟩
theorem l434:FnOk Tryz.prog ids alts 434 (erFn w434):=⟨Tryz.f284,Tryz.func284,by kernel_rfl⟩
theorem l439:FnOk Tryz.prog ids alts 439 (erFn w439):=⟨Tryz.f280,Tryz.func280,by kernel_rfl⟩
theorem l441:FnOk Tryz.prog ids alts 441 (erFn w441):=⟨Tryz.f205,Tryz.func205,by kernel_rfl⟩
theorem l442:FnOk Tryz.prog ids alts 442 (erFn w442):=⟨Tryz.f206,Tryz.func206,by kernel_rfl⟩
theorem l453:FnOk Tryz.prog ids alts 453 (erFn w453):=⟨Tryz.f66,Tryz.func66,by kernel_rfl⟩
theorem l454:FnOk Tryz.prog ids alts 454 (erFn w454):=⟨Tryz.f47,Tryz.func47,by kernel_rfl⟩
theorem l455:FnOk Tryz.prog ids alts 455 (erFn w455):=⟨Tryz.f167,Tryz.func167,by kernel_rfl⟩
theorem l456:FnOk Tryz.prog ids alts 456 (erFn w456):=⟨Tryz.f168,Tryz.func168,by kernel_rfl⟩
theorem l457:FnOk Tryz.prog ids alts 457 (erFn w457):=⟨Tryz.f157,Tryz.func157,by kernel_rfl⟩
theorem l458:FnOk Tryz.prog ids alts 458 (erFn w458):=⟨Tryz.f170,Tryz.func170,by kernel_rfl⟩
theorem l459:FnOk Tryz.prog ids alts 459 (erFn w459):=⟨Tryz.f171,Tryz.func171,by kernel_rfl⟩
theorem l460:FnOk Tryz.prog ids alts 460 (erFn w460):=⟨Tryz.f172,Tryz.func172,by kernel_rfl⟩
theorem l461:FnOk Tryz.prog ids alts 461 (erFn w461):=⟨Tryz.f158,Tryz.func158,by kernel_rfl⟩
theorem l462:FnOk Tryz.prog ids alts 462 (erFn w462):=⟨Tryz.f161,Tryz.func161,by kernel_rfl⟩
theorem l463:FnOk Tryz.prog ids alts 463 (erFn w463):=⟨Tryz.f162,Tryz.func162,by kernel_rfl⟩
theorem l469:FnOk Tryz.prog ids alts 469 (erFn w469):=⟨Tryz.f189,Tryz.func189,by kernel_rfl⟩
theorem l494:FnOk Tryz.prog ids alts 494 (erFn w494):=⟨Tryz.f209,Tryz.func209,by kernel_rfl⟩
theorem l495:FnOk Tryz.prog ids alts 495 (erFn w495):=⟨Tryz.f210,Tryz.func210,by kernel_rfl⟩
theorem l496:FnOk Tryz.prog ids alts 496 (erFn w496):=⟨Tryz.f211,Tryz.func211,by kernel_rfl⟩
theorem l497:FnOk Tryz.prog ids alts 497 (erFn w497):=⟨Tryz.f212,Tryz.func212,by kernel_rfl⟩
theorem l498:FnOk Tryz.prog ids alts 498 (erFn w498):=⟨Tryz.f213,Tryz.func213,by kernel_rfl⟩
theorem l499:FnOk Tryz.prog ids alts 499 (erFn w499):=⟨Tryz.f214,Tryz.func214,by kernel_rfl⟩
theorem l500:FnOk Tryz.prog ids alts 500 (erFn w500):=⟨Tryz.f215,Tryz.func215,by kernel_rfl⟩
theorem l501:FnOk Tryz.prog ids alts 501 (erFn w501):=⟨Tryz.f216,Tryz.func216,by kernel_rfl⟩
theorem l502:FnOk Tryz.prog ids alts 502 (erFn w502):=⟨Tryz.f260,Tryz.func260,by kernel_rfl⟩
theorem l503:FnOk Tryz.prog ids alts 503 (erFn w503):=⟨Tryz.f261,Tryz.func261,by kernel_rfl⟩
theorem l504:FnOk Tryz.prog ids alts 504 (erFn w504):=⟨Tryz.f192,Tryz.func192,by kernel_rfl⟩
theorem l505:FnOk Tryz.prog ids alts 505 (erFn w505):=⟨Tryz.f231,Tryz.func231,by kernel_rfl⟩
theorem l510:FnOk Tryz.prog ids alts 510 (erFn w510):=⟨Tryz.f201,Tryz.func201,by kernel_rfl⟩
theorem l511:FnOk Tryz.prog ids alts 511 (erFn w511):=⟨Tryz.f202,Tryz.func202,by kernel_rfl⟩
theorem l512:FnOk Tryz.prog ids alts 512 (erFn w512):=⟨Tryz.f203,Tryz.func203,by kernel_rfl⟩
theorem l513:FnOk Tryz.prog ids alts 513 (erFn w513):=⟨Tryz.f204,Tryz.func204,by kernel_rfl⟩
theorem l516:FnOk Tryz.prog ids alts 516 (erFn w516):=⟨Tryz.f287,Tryz.func287,by kernel_rfl⟩
theorem l517:FnOk Tryz.prog ids alts 517 (erFn w517):=⟨Tryz.f288,Tryz.func288,by kernel_rfl⟩
theorem l518:FnOk Tryz.prog ids alts 518 (erFn w518):=⟨Tryz.f289,Tryz.func289,by kernel_rfl⟩
theorem l519:FnOk Tryz.prog ids alts 519 (erFn w519):=⟨Tryz.f290,Tryz.func290,by kernel_rfl⟩
theorem l520:FnOk Tryz.prog ids alts 520 (erFn w520):=⟨Tryz.f248,Tryz.func248,by kernel_rfl⟩
theorem l525:FnOk Tryz.prog ids alts 525 (erFn w525):=⟨Tryz.f121,Tryz.func121,by kernel_rfl⟩
theorem l526:FnOk Tryz.prog ids alts 526 (erFn w526):=⟨Tryz.f219,Tryz.func219,by kernel_rfl⟩
theorem l527:FnOk Tryz.prog ids alts 527 (erFn w527):=⟨Tryz.f221,Tryz.func221,by kernel_rfl⟩
theorem l528:FnOk Tryz.prog ids alts 528 (erFn w528):=⟨Tryz.f222,Tryz.func222,by kernel_rfl⟩
theorem l529:FnOk Tryz.prog ids alts 529 (erFn w529):=⟨Tryz.f224,Tryz.func224,by kernel_rfl⟩
theorem l530:FnOk Tryz.prog ids alts 530 (erFn w530):=⟨Tryz.f226,Tryz.func226,by kernel_rfl⟩
theorem l531:FnOk Tryz.prog ids alts 531 (erFn w531):=⟨Tryz.f228,Tryz.func228,by kernel_rfl⟩
theorem l532:FnOk Tryz.prog ids alts 532 (erFn w532):=⟨Tryz.f227,Tryz.func227,by kernel_rfl⟩
theorem l543:FnOk Tryz.prog ids alts 543 (erFn w543):=⟨Tryz.f249,Tryz.func249,by kernel_rfl⟩
theorem l544:FnOk Tryz.prog ids alts 544 (erFn w544):=⟨Tryz.f250,Tryz.func250,by kernel_rfl⟩
theorem l545:FnOk Tryz.prog ids alts 545 (erFn w545):=⟨Tryz.f251,Tryz.func251,by kernel_rfl⟩
theorem l546:FnOk Tryz.prog ids alts 546 (erFn w546):=⟨Tryz.f252,Tryz.func252,by kernel_rfl⟩
theorem l547:FnOk Tryz.prog ids alts 547 (erFn w547):=⟨Tryz.f253,Tryz.func253,by kernel_rfl⟩
theorem l548:FnOk Tryz.prog ids alts 548 (erFn w548):=⟨Tryz.f276,Tryz.func276,by kernel_rfl⟩
theorem l549:FnOk Tryz.prog ids alts 549 (erFn w549):=⟨Tryz.f277,Tryz.func277,by kernel_rfl⟩
theorem l550:FnOk Tryz.prog ids alts 550 (erFn w550):=⟨Tryz.f262,Tryz.func262,by kernel_rfl⟩
theorem l556:FnOk Tryz.prog ids alts 556 (erFn w556):=⟨Tryz.f244,Tryz.func244,by kernel_rfl⟩
theorem l557:FnOk Tryz.prog ids alts 557 (erFn w557):=⟨Tryz.f245,Tryz.func245,by kernel_rfl⟩
theorem l558:FnOk Tryz.prog ids alts 558 (erFn w558):=⟨Tryz.f246,Tryz.func246,by kernel_rfl⟩
theorem l559:FnOk Tryz.prog ids alts 559 (erFn w559):=⟨Tryz.f247,Tryz.func247,by kernel_rfl⟩
theorem l560:FnOk Tryz.prog ids alts 560 (erFn w560):=⟨Tryz.f291,Tryz.func291,by kernel_rfl⟩
theorem l561:FnOk Tryz.prog ids alts 561 (erFn w561):=⟨Tryz.f292,Tryz.func292,by kernel_rfl⟩
theorem l562:FnOk Tryz.prog ids alts 562 (erFn w562):=⟨Tryz.f293,Tryz.func293,by kernel_rfl⟩
theorem l563:FnOk Tryz.prog ids alts 563 (erFn w563):=⟨Tryz.f267,Tryz.func267,by kernel_rfl⟩
theorem l564:FnOk Tryz.prog ids alts 564 (erFn w564):=⟨Tryz.f183,Tryz.func183,by kernel_rfl⟩
theorem l565:FnOk Tryz.prog ids alts 565 (erFn w565):=⟨Tryz.f184,Tryz.func184,by kernel_rfl⟩
theorem l566:FnOk Tryz.prog ids alts 566 (erFn w566):=⟨Tryz.f259,Tryz.func259,by kernel_rfl⟩
theorem l578:FnOk Tryz.prog ids alts 578 (erFn w578):=⟨Tryz.f268,Tryz.func268,by kernel_rfl⟩
theorem l579:FnOk Tryz.prog ids alts 579 (erFn w579):=⟨Tryz.f269,Tryz.func269,by kernel_rfl⟩
theorem l580:FnOk Tryz.prog ids alts 580 (erFn w580):=⟨Tryz.f270,Tryz.func270,by kernel_rfl⟩
theorem l581:FnOk Tryz.prog ids alts 581 (erFn w581):=⟨Tryz.f271,Tryz.func271,by kernel_rfl⟩
theorem l582:FnOk Tryz.prog ids alts 582 (erFn w582):=⟨Tryz.f272,Tryz.func272,by kernel_rfl⟩
theorem l583:FnOk Tryz.prog ids alts 583 (erFn w583):=⟨Tryz.f273,Tryz.func273,by kernel_rfl⟩
theorem l584:FnOk Tryz.prog ids alts 584 (erFn w584):=⟨Tryz.f274,Tryz.func274,by kernel_rfl⟩
theorem l585:FnOk Tryz.prog ids alts 585 (erFn w585):=⟨Tryz.f285,Tryz.func285,by kernel_rfl⟩
theorem l586:FnOk Tryz.prog ids alts 586 (erFn w586):=⟨Tryz.f278,Tryz.func278,by kernel_rfl⟩
theorem l592:FnOk Tryz.prog ids alts 592 (erFn w592):=⟨Tryz.f281,Tryz.func281,by kernel_rfl⟩
theorem l593:FnOk Tryz.prog ids alts 593 (erFn w593):=⟨Tryz.f282,Tryz.func282,by kernel_rfl⟩
theorem l594:FnOk Tryz.prog ids alts 594 (erFn w594):=⟨Tryz.f286,Tryz.func286,by kernel_rfl⟩
theorem l1073:FnOk Tryz.prog ids alts 1073 (erFn w73):=⟨Tryz.f181,Tryz.func181,by kernel_rfl⟩
theorem l3006:FnOk Tryz.prog ids alts 3006 (erFn w566):=⟨Tryz.f259,Tryz.func259,by kernel_rfl⟩
theorem l3007:FnOk Tryz.prog ids alts 3007 (erFn w339):=⟨Tryz.f107,Tryz.func107,by kernel_rfl⟩
def prog:WProg:=⟨tree,Go.D.inlB,Go.D.ppB⟩
theorem all:TreeAll (FnOk Tryz.prog ids alts) (erProg prog).fns:=⟨⟨⟨⟨⟨⟨⟨⟨trivial,l0,trivial⟩,l52,trivial⟩,l56,⟨⟨trivial,l62,trivial⟩,l65,trivial⟩⟩,l66,⟨⟨⟨trivial,l67,trivial⟩,l73,trivial⟩,l74,⟨trivial,l77,trivial⟩⟩⟩,l78,⟨⟨⟨⟨trivial,l79,trivial⟩,l80,trivial⟩,l81,⟨⟨trivial,l82,trivial⟩,l83,trivial⟩⟩,l91,⟨⟨⟨trivial,l108,trivial⟩,l109,trivial⟩,l110,⟨trivial,l111,trivial⟩⟩⟩⟩,l112,⟨⟨⟨⟨⟨trivial,l114,trivial⟩,l115,trivial⟩,l126,⟨⟨trivial,l130,trivial⟩,l140,trivial⟩⟩,l165,⟨⟨⟨trivial,l166,trivial⟩,l167,trivial⟩,l168,⟨trivial,l169,trivial⟩⟩⟩,l170,⟨⟨⟨⟨trivial,l171,trivial⟩,l172,trivial⟩,l216,⟨⟨trivial,l217,trivial⟩,l218,trivial⟩⟩,l219,⟨⟨⟨trivial,l220,trivial⟩,l221,trivial⟩,l222,⟨trivial,l223,trivial⟩⟩⟩⟩⟩,l225,⟨⟨⟨⟨⟨⟨trivial,l226,trivial⟩,l227,trivial⟩,l228,⟨⟨trivial,l229,trivial⟩,l230,trivial⟩⟩,l231,⟨⟨⟨trivial,l232,trivial⟩,l237,trivial⟩,l239,⟨trivial,l240,trivial⟩⟩⟩,l241,⟨⟨⟨⟨trivial,l242,trivial⟩,l270,trivial⟩,l271,⟨⟨trivial,l282,trivial⟩,l328,trivial⟩⟩,l329,⟨⟨⟨trivial,l330,trivial⟩,l331,trivial⟩,l332,⟨trivial,l333,trivial⟩⟩⟩⟩,l334,⟨⟨⟨⟨⟨trivial,l335,trivial⟩,l336,trivial⟩,l337,⟨⟨trivial,l338,trivial⟩,l339,trivial⟩⟩,l340,⟨⟨⟨trivial,l341,trivial⟩,l342,trivial⟩,l343,⟨trivial,l357,trivial⟩⟩⟩,l360,⟨⟨⟨⟨trivial,l398,trivial⟩,l399,trivial⟩,l400,⟨trivial,l401,trivial⟩⟩,l404,⟨⟨⟨trivial,l405,trivial⟩,l406,trivial⟩,l407,⟨trivial,l408,trivial⟩⟩⟩⟩⟩⟩,l409,⟨⟨⟨⟨⟨⟨⟨trivial,l410,trivial⟩,l422,trivial⟩,l423,⟨⟨trivial,l424,trivial⟩,l425,trivial⟩⟩,l433,⟨⟨⟨trivial,l434,trivial⟩,l439,trivial⟩,l441,⟨trivial,l442,trivial⟩⟩⟩,l453,⟨⟨⟨⟨trivial,l454,trivial⟩,l455,trivial⟩,l456,⟨⟨trivial,l457,trivial⟩,l458,trivial⟩⟩,l459,⟨⟨⟨trivial,l460,trivial⟩,l461,trivial⟩,l462,⟨trivial,l463,trivial⟩⟩⟩⟩,l469,⟨⟨⟨⟨⟨trivial,l494,trivial⟩,l495,trivial⟩,l496,⟨⟨trivial,l497,trivial⟩,l498,trivial⟩⟩,l499,⟨⟨⟨trivial,l500,trivial⟩,l501,trivial⟩,l502,⟨trivial,l503,trivial⟩⟩⟩,l504,⟨⟨⟨⟨trivial,l505,trivial⟩,l510,trivial⟩,l511,⟨trivial,l512,trivial⟩⟩,l513,⟨⟨⟨trivial,l516,trivial⟩,l517,trivial⟩,l518,⟨trivial,l519,trivial⟩⟩⟩⟩⟩,l520,⟨⟨⟨⟨⟨⟨trivial,l525,trivial⟩,l526,trivial⟩,l527,⟨⟨trivial,l528,trivial⟩,l529,trivial⟩⟩,l530,⟨⟨⟨trivial,l531,trivial⟩,l532,trivial⟩,l543,⟨trivial,l544,trivial⟩⟩⟩,l545,⟨⟨⟨⟨trivial,l546,trivial⟩,l547,trivial⟩,l548,⟨⟨trivial,l549,trivial⟩,l550,trivial⟩⟩,l556,⟨⟨⟨trivial,l557,trivial⟩,l558,trivial⟩,l559,⟨trivial,l560,trivial⟩⟩⟩⟩,l561,⟨⟨⟨⟨⟨trivial,l562,trivial⟩,l563,trivial⟩,l564,⟨⟨trivial,l565,trivial⟩,l566,trivial⟩⟩,l578,⟨⟨⟨trivial,l579,trivial⟩,l580,trivial⟩,l581,⟨trivial,l582,trivial⟩⟩⟩,l583,⟨⟨⟨⟨trivial,l584,trivial⟩,l585,trivial⟩,l586,⟨trivial,l592,trivial⟩⟩,l593,⟨⟨⟨trivial,l594,trivial⟩,l1073,trivial⟩,l3006,⟨trivial,l3007,trivial⟩⟩⟩⟩⟩⟩⟩
theorem okT:okTree prog.fns=true:=by kernel_rfl
theorem link:Linked Tryz.prog (phiG ids alts) (psiOf ids) (erProg prog):=linked (by kernel_rfl) (by kernel_rfl) all (by kernel_rfl)
end P
end
section
namespace Go.Pw
open Go Go.Pav
inductive CT where
 | bool
 | int (k:IntKind)
 | str
 | slice (ts:List CT)
inductive Ty:CT→AV→Prop
 | bool (b:Bool):Ty .bool (.bool b)
 | int (k:IntKind) (n:Int) (h1:k.min≤n) (h2:n≤k.max):Ty (.int k) (.int k n)
 | str (s:List UInt8) (h:s.length < 2 ^ 63):Ty .str (.str s)
 | slice (ts:List CT) (es:List (List AV)) (ex:Bool) (hn:es.length < 2 ^ 63) (hw:∀ (i:Nat) (e:List AV),es[i]?=some e→e.length=ts.length)
  (h:∀ (i:Nat) (e:List AV) (j:Nat) (ct:CT) (x:AV),es[i]?=some e→ts[j]?=some ct→e[j]?=some x→Ty ct x):Ty (.slice ts) (.ro ts.length es ex)
theorem Ty.isC {ct:CT} {a:AV} (h:Ty ct a):Pw.isC a=true:=by cases h <;> rfl
def fieldsT (F:TypeId→Option (List CT)) (P:Program):List Field→Nat→Option (List CT)
 | [],_=>some []
 | f::r,off=>(F f.type).bind fun ts=>if f.offset=off∧ts.length=P.cellsOf f.type then (fieldsT F P r (off+ts.length)).map (ts++·) else none
def flatT (P:Program):Nat→TypeId→Option (List CT)
 | 0,_=>none
 | n+1,t=>match P.underlying t with
  | some .bool=>some [.bool]
  | some (.int k)=>some [.int k]
  | some .string=>some [.str]
  | some (.slice e)=>(flatT P n e).bind fun ts=>if ts.length=P.cellsOf e∧0 < ts.length then some [.slice ts] else none
  | some (.struct fs)=>(fieldsT (flatT P n) P fs.toList 0).bind fun ts=>if ts.length=P.cellsOf t then some ts else none
  | some (.array m e)=>(flatT P n e).bind fun ts=>if ts.length=P.cellsOf e∧m * ts.length=P.cellsOf t then some (List.replicate m ts).flatten else none
  | _=>none
theorem flatten_rep {α:Type} (ts:List α):∀ (m j:Nat),j < m * ts.length→(List.replicate m ts).flatten[j]?=ts[j % ts.length]?
 | 0,j,h=>by simp at h
 | m+1,j,h=>by
  rw [List.replicate_succ,List.flatten_cons]
  rcases Nat.lt_or_ge j ts.length with hl | hl
  · rw [List.getElem?_append_left hl,Nat.mod_eq_of_lt hl]
  · rw [List.getElem?_append_right hl,flatten_rep ts m (j - ts.length) (by rw [Nat.add_mul] at h;omega),Nat.mod_eq_sub_mod hl]
theorem trod_array {H:Type} {enc:TypeId × Value→H} {P:Program} {w:World} {base:Nat} {spare:Nat→Bool} {held:Bool} {fuel:Nat} {t:TypeId} {cs:List Value} {x:DataW H × List MemPlace} {m:Nat} {e:TypeId}
 (ht:P.underlying t=some (.array m e)) (h:DataW.trod enc P w base spare held fuel t cs=some x) :
 ∃ (xs:List (DataW H × List MemPlace)) (n:Nat),fuel=n+1∧cs.length=P.cellsOf t∧xs.length=m ∧
  ∀ i,i < m→DataW.trod enc P w base spare held n e ((cs.drop (i * P.cellsOf e)).take (P.cellsOf e))=xs[i]?:=by
 cases fuel with
 | zero=>simp [DataW.trod] at h
 | succ n =>
  unfold DataW.trod at h
  rw [ht] at h
  split at h <;> simp_all
  obtain ⟨hl,xs,hp,hd⟩:=h
  exact ⟨xs,by simpa using mapM_some_length hp,fun i hi=>mapM_some_get hp i i (List.getElem?_range hi)⟩
def CellOk (ψ:Nat→FuncId) (W:World) (ct:CT) (v:Value):Prop :=
 ∃ a a',Ty ct a∧VD id (fun _=>False) a a'∧a'.cell=true∧VR ψ W (fun c=>c < W.heap.size) (fun _=>(0,0)) (fun _=>False) a' v
section
variable {H:Type} {enc:TypeId × Value→H} {P:Program} {W:World} {ψ:Nat→FuncId}
theorem fields_open {F:TypeId→Option (List CT)} {n:Nat} {cs:List Value}
 (hF:∀ t cs x ts,F t=some ts→DataW.trod enc P W 0 (fun _=>true) true n t cs=some x→cs.length=ts.length∧∀ (j:Nat) (ct:CT),ts[j]?=some ct→∃ v,cs[j]?=some v∧CellOk ψ W ct v) :
 ∀ (fs:List Field) (off:Nat) (ts:List CT),fieldsT F P fs off=some ts→(∀ f ∈ fs,∃ x,DataW.trod enc P W 0 (fun _=>true) true n f.type ((cs.drop f.offset).take (P.cellsOf f.type))=some x) →
  ∀ (j:Nat) (ct:CT),ts[j]?=some ct→∃ v,cs[off+j]?=some v∧CellOk ψ W ct v:=by
 intro fs
 induction fs with
 | nil=>intro off ts h _ j ct hj;simp only [fieldsT,Option.some.injEq] at h;subst h;simp at hj
 | cons f r ih =>
  intro off ts h hx j ct hj
  simp only [fieldsT,Option.bind_eq_some_iff] at h
  obtain ⟨t1,h1,h⟩:=h
  split at h
  · rename_i hc
    simp only [Option.map_eq_some_iff] at h
    obtain ⟨t2,h2,rfl⟩:=h
    rcases Nat.lt_or_ge j t1.length with hl | hl
    · rw [List.getElem?_append_left hl] at hj
      obtain ⟨x,q⟩:=hx f (by simp)
      obtain ⟨v,q1,q2⟩:=(hF _ _ _ _ h1 q).2 j ct hj
      refine ⟨v,?_,q2⟩
      rw [List.getElem?_take] at q1
      split at q1
      · rw [List.getElem?_drop] at q1;rw [← hc.1];exact q1
      · cases q1
    · rw [List.getElem?_append_right hl] at hj
      obtain ⟨v,q1,q2⟩:=ih _ _ h2 (fun f hf=>hx f (by simp [hf])) _ ct hj
      exact ⟨v,by rw [← q1];congr 1;omega,q2⟩
  · cases h
theorem cells_open:∀ (n k:Nat) (t:TypeId) (cs:List Value) (x:DataW H × List MemPlace) (ts:List CT),flatT P k t=some ts→DataW.trod enc P W 0 (fun _=>true) true n t cs=some x →
 cs.length=ts.length∧∀ (j:Nat) (ct:CT),ts[j]?=some ct→∃ v,cs[j]?=some v∧CellOk ψ W ct v:=by
 intro n
 induction n with
 | zero=>intro k t cs x ts _ h;simp [DataW.trod] at h
 | succ n ih =>
  intro k t cs x ts hf h
  cases k with
  | zero=>simp [flatT] at hf
  | succ k =>
   have one:∀ {v:Value} {ct:CT},cs=[v]→ts=[ct]→CellOk ψ W ct v→cs.length=ts.length∧∀ (j:Nat) (ct:CT),ts[j]?=some ct→∃ v,cs[j]?=some v∧CellOk ψ W ct v:=by
    intro v ct h1 h2 h3
    subst h1;subst h2
    refine ⟨rfl,fun j ct' hj=>?_⟩
    cases j with
    | zero=>simp only [List.getElem?_cons_zero,Option.some.injEq] at hj;subst hj;exact ⟨v,rfl,h3⟩
    | succ j=>simp at hj
   unfold flatT at hf
   split at hf
   · rename_i ht
     cases hf
     obtain ⟨b,e,_⟩:=DataW.trod_bool ht h
     exact one e rfl ⟨_,_,.bool b,.bool b,rfl,.bool b⟩
   · rename_i k' ht
     cases hf
     obtain ⟨m,e,_,hw⟩:=DataW.trod_int ht h
     simp only [Lit.wf,Bool.and_eq_true,decide_eq_true_eq] at hw
     exact one e rfl ⟨_,_,.int k' m hw.1 hw.2,.int k' m,rfl,.int k' m⟩
   · rename_i ht
     cases hf
     obtain ⟨s,e,_,hw⟩:=DataW.trod_string ht h
     refine one e rfl ⟨.str s.data.toList,_,.str _ ?_,.str _,rfl,?_⟩
     · simp only [maxLen] at hw
       have:s.data.toList.length=s.size:=rfl
       omega
     · have:=VR.str (ψ:=ψ) (w:=W) (S:=fun c=>c < W.heap.size) (m:=fun _=>(0,0)) (A:=fun _=>False) s.data.toList
       exact this
   · rename_i el ht
     simp only [Option.bind_eq_some_iff] at hf
     obtain ⟨us,hu,hf⟩:=hf
     split at hf
     · rename_i hz
       obtain ⟨hz,hz0⟩:=hz
       cases hf
       rcases DataW.trod_slice ht h with ⟨e,_⟩ | ⟨a,len,cap,elems,rest,n',hn,e,_,_,hl,hm,hlen,hel,hsp,_⟩
       · exact one e rfl ⟨.ro us.length [] true,.nils,.slice us [] true (by simp) (by simp) (by simp),.ronil _ _,rfl,.nils⟩
       · cases hn
         refine one e rfl ?_
         have row:∀ i,i < cap→∃ vs y,W.cells? 0 (a.add (i * us.length)) us.length=some vs∧DataW.trod enc P W 0 (fun _=>true) true n el vs=some y:=by
          intro i hi
          rcases Nat.lt_or_ge i len with hil | hil
          · have:=hel i hil
            rw [List.getElem?_eq_getElem (by omega),Option.bind_eq_some_iff,← hz] at this
            obtain ⟨vs,q1,q2⟩:=this
            exact ⟨vs,_,q1,q2⟩
          · obtain ⟨q0,q⟩:=hsp rfl
            have:=q (i - len) (by omega)
            rw [List.getElem?_eq_getElem (by omega),Option.bind_eq_some_iff,← hz,show len+(i - len)=i by omega] at this
            obtain ⟨vs,q1,q2⟩:=this
            exact ⟨vs,_,q1,q2⟩
         rcases Nat.eq_zero_or_pos cap with hc0 | hc0
         · subst hc0
           obtain rfl:len=0:=by omega
           exact ⟨.ro us.length [] true,.ro us.length [] true,.slice us [] true (by simp) (by simp) (by simp),.ro _ [] [] true true (by simp) rfl id (by simp) (by simp),rfl,.roe _ _ _⟩
         · obtain ⟨b,off,spot⟩:=a
           have hfirst:∃ v,W.cell? ⟨b,off,spot⟩=some v:=by
            obtain ⟨vs,_,q1,_⟩:=row 0 hc0
            obtain ⟨_,q2,q3⟩:=World.cells?_some q1
            have:=q3 0 hz0
            rw [List.getElem?_eq_getElem (by omega)] at this
            exact ⟨_,by simpa [Addr.add] using this⟩
           obtain ⟨v0,hv0⟩:=hfirst
           obtain rfl:spot=none:=World.cell?_spot hv0
           have hS:b < W.heap.size:=by
            unfold World.cell? at hv0
            split at hv0
            · rename_i hb;exact (Array.getElem?_eq_some_iff.1 hb).1
            · cases hv0
           have key:∀ p:Nat × Nat,∃ q:Value × AV × AV,p.1 < len→∀ ct,us[p.2]?=some ct→W.cell? ⟨b,off+p.1 * us.length+p.2,none⟩=some q.1∧Ty ct q.2.1∧VD id (fun _=>False) q.2.1 q.2.2∧q.2.2.cell=true ∧
            VR ψ W (fun c=>c < W.heap.size) (fun _=>(0,0)) (fun _=>False) q.2.2 q.1:=by
            intro ⟨i,j⟩
            by_cases hi:i < len
            · cases hj:us[j]? with
              | none=>exact ⟨default,fun _ ct q=>by cases q⟩
              | some ct =>
               obtain ⟨vs,y,q1,q2⟩:=row i (by omega)
               obtain ⟨v,q3,c1,c2,q4,q5,q6,q7⟩:=(ih _ _ _ _ _ hu q2).2 j ct hj
               refine ⟨(v,c1,c2),fun _ ct' q=>?_⟩
               cases q
               refine ⟨?_,q4,q5,q6,q7⟩
               obtain ⟨_,r1,r2⟩:=World.cells?_some q1
               have hjl:j < us.length:=(List.getElem?_eq_some_iff.1 hj).1
               have:=r2 j hjl
               rw [q3] at this
               rw [← this]
               congr 1
               simp only [Addr.add]
               split <;> split <;> simp_all <;> omega
            · exact ⟨default,fun q=>absurd q hi⟩
           obtain ⟨F,hF⟩:=Classical.axiomOfChoice key
           let es:List (List AV):=(List.range len).map fun i=>(List.range us.length).map fun j=>(F (i,j)).2.1
           let es':List (List AV):=(List.range len).map fun i=>(List.range us.length).map fun j=>(F (i,j)).2.2
           have g1:∀ (i:Nat) (e:List AV),es[i]?=some e→i < len∧e=(List.range us.length).map fun j=>(F (i,j)).2.1:=by
            intro i e he
            simp only [es,List.getElem?_map,Option.map_eq_some_iff] at he
            obtain ⟨i',q1,q2⟩:=he
            have:=List.getElem?_eq_some_iff.1 q1
            obtain ⟨q3,q4⟩:=this
            simp at q3 q4
            subst q4
            exact ⟨q3,q2.symm⟩
           have g1':∀ (i:Nat) (e:List AV),es'[i]?=some e→i < len∧e=(List.range us.length).map fun j=>(F (i,j)).2.2:=by
            intro i e he
            simp only [es',List.getElem?_map,Option.map_eq_some_iff] at he
            obtain ⟨i',q1,q2⟩:=he
            have:=List.getElem?_eq_some_iff.1 q1
            obtain ⟨q3,q4⟩:=this
            simp at q3 q4
            subst q4
            exact ⟨q3,q2.symm⟩
           have g2:∀ (G:Nat→AV) (j:Nat) (x:AV),((List.range us.length).map G)[j]?=some x→∃ ct,us[j]?=some ct∧x=G j:=by
            intro G j x hx
            simp only [List.getElem?_map,Option.map_eq_some_iff] at hx
            obtain ⟨j',q1,q2⟩:=hx
            obtain ⟨q3,q4⟩:=List.getElem?_eq_some_iff.1 q1
            simp at q3 q4
            subst q4
            exact ⟨us[j],List.getElem?_eq_getElem q3,q2.symm⟩
           have l1:es.length=len:=by simp [es]
           have l2:es'.length=len:=by simp [es']
           refine ⟨.ro us.length es (decide (cap=len)),.ro us.length es' (decide (cap=len)),.slice us es _ ?_ ?_ ?_,.ro _ es es' _ _ ?_ (by rw [l1,l2]) id ?_ ?_,rfl,?_⟩
           · rw [l1];simp only [maxLen] at hm;omega
           · intro i e he;rw [(g1 i e he).2];simp
           · intro i e j ct y he hct hy
             obtain ⟨q1,rfl⟩:=g1 i e he
             obtain ⟨ct',q2,rfl⟩:=g2 _ j y hy
             rw [hct] at q2
             cases q2
             exact (hF (i,j) q1 ct hct).2.1
           · intro e he y hy
             obtain ⟨i,he⟩:=List.getElem?_of_mem he
             obtain ⟨j,hy⟩:=List.getElem?_of_mem hy
             obtain ⟨q1,rfl⟩:=g1 i e he
             obtain ⟨ct',q2,rfl⟩:=g2 _ j y hy
             exact (hF (i,j) q1 ct' q2).2.1.isC
           · intro i e e' he he'
             rw [(g1 i e he).2,(g1' i e' he').2];simp
           · intro i e e' j y y' he he' hy hy'
             obtain ⟨q1,rfl⟩:=g1 i e he
             obtain ⟨_,rfl⟩:=g1' i e' he'
             obtain ⟨ct',q2,rfl⟩:=g2 _ j y hy
             obtain ⟨_,_,rfl⟩:=g2 _ j y' hy'
             exact (hF (i,j) q1 ct' q2).2.2.1
           · have:=VR.ro (ψ:=ψ) (w:=W) (S:=fun c=>c < W.heap.size) (m:=fun _=>(0,0)) (A:=fun _=>False) us.length es' (decide (cap=len)) b off cap (fun i j=>(F (i,j)).1) hS
              (fun i e he=>by rw [(g1' i e he).2];simp) (by rw [l2];exact hl) (fun q=>by rw [l2];simpa using q)
              (fun i e j y he hy=>by
               obtain ⟨q1,rfl⟩:=g1' i e he
               obtain ⟨ct',q2,rfl⟩:=g2 _ j y hy
               have:=hF (i,j) q1 ct' q2
               exact ⟨this.2.2.2.1,this.1⟩)
              (fun i e j y he hy=>by
               obtain ⟨q1,rfl⟩:=g1' i e he
               obtain ⟨ct',q2,rfl⟩:=g2 _ j y hy
               exact (hF (i,j) q1 ct' q2).2.2.2.2)
             rw [l2] at this
             exact this
     · cases hf
   · rename_i fs ht
     simp only [Option.bind_eq_some_iff] at hf
     obtain ⟨us,hu,hf⟩:=hf
     split at hf
     · rename_i hz
       cases hf
       obtain ⟨xs,n',hn,_,hcl,hxl,hx⟩:=DataW.trod_struct ht h
       cases hn
       refine ⟨by rw [hcl,hz],fun j ct hj=>?_⟩
       have:=fields_open (cs:=cs) (F:=flatT P k) (n:=n) (fun t cs x ts h1 h2=>ih k t cs x ts h1 h2) fs.toList 0 _ hu (fun f hf=>by
        obtain ⟨i,hi⟩:=List.getElem?_of_mem hf
        have hi':fs[i]?=some f:=by simpa using hi
        have hlt:i < fs.size:=(Array.getElem?_eq_some_iff.1 hi').1
        have:=hx i f hi'
        rw [List.getElem?_eq_getElem (by omega)] at this
        exact ⟨_,this⟩) j ct hj
       simpa using this
     · cases hf
   · rename_i m' e ht
     simp only [Option.bind_eq_some_iff] at hf
     obtain ⟨us,hu,hf⟩:=hf
     split at hf
     · rename_i hz
       obtain ⟨hz1,hz2⟩:=hz
       cases hf
       obtain ⟨xs,n',hn,hcl,hxl,hx⟩:=trod_array ht h
       cases hn
       have hlen:(List.replicate m' us).flatten.length=m' * us.length:=by simp
       refine ⟨by rw [hcl,hlen,hz2],fun j ct hj=>?_⟩
       have hjl:j < m' * us.length:=by rw [← hlen];exact (List.getElem?_eq_some_iff.1 hj).1
       have hk:0 < us.length:=by
        rcases Nat.eq_zero_or_pos us.length with q | q
        · rw [q,Nat.mul_zero] at hjl;omega
        · exact q
       rw [flatten_rep us m' j hjl] at hj
       have hq:j / us.length < m':=Nat.div_lt_of_lt_mul (by rw [Nat.mul_comm];exact hjl)
       have hxq:=hx (j / us.length) hq
       rw [List.getElem?_eq_getElem (by omega)] at hxq
       obtain ⟨v,q1,q2⟩:=(ih k e _ _ us hu hxq).2 (j % us.length) ct hj
       refine ⟨v,?_,q2⟩
       rw [List.getElem?_take] at q1
       split at q1
       · rw [List.getElem?_drop,← hz1] at q1
         rw [← q1];congr 1
         exact (Nat.div_add_mod' j us.length).symm
       · cases q1
     · cases hf
   · cases hf
inductive AT where
 | c (ct:CT)
 | g (ts:List CT)
def AT.has:AT→AV→Prop
 | .c ct,a=>Ty ct a
 | .g ts,a=>∃ es,a=.agg es∧es.length=ts.length∧∀ (j:Nat) (ct:CT) (x:AV),ts[j]?=some ct→es[j]?=some x→Ty ct x
def argT (P:Program) (t:TypeId):Option AT :=
 match P.underlying t with
 | some (.struct _)=>(flatT P 20 t).map .g
 | some (.array _ _)=>(flatT P 20 t).map .g
 | some .bool | some (.int _) | some .string | some (.slice _)=>match flatT P 20 t with | some [ct]=>some (.c ct) | _=>none
 | _=>none
theorem cells_plain {t:TypeId} {base:Nat} {v:Value} (hu:P.underlying t=some .bool∨(∃ k,P.underlying t=some (.int k))∨P.underlying t=some .string∨∃ e,P.underlying t=some (.slice e)) (h:Value.okWide P W .any base t v) :
 v.cells=#[v]:=by
 cases v <;> try rfl
 rcases hu with hu | ⟨k,hu⟩ | hu | ⟨e,hu⟩ <;> simp [Value.okWide,hu,Cell.okWide,Cell.ok] at h
theorem arg_open {t:TypeId} {at_:AT} (ha:argT P t=some at_) {base:Nat} {v:Value} (hv:Value.okWide P W .any base t v) {d:DataW H} {p:List MemPlace} (h:DataW.Trod enc P W 0 (fun _=>true) true t v d p) :
 ∃ a a',at_.has a∧VD id (fun _=>False) a a'∧VR ψ W (fun c=>c < W.heap.size) (fun _=>(0,0)) (fun _=>False) a' v:=by
 obtain ⟨fuel,h⟩:=h
 have plain:(P.underlying t=some .bool∨(∃ k,P.underlying t=some (.int k))∨P.underlying t=some .string∨∃ e,P.underlying t=some (.slice e)) →
  (match flatT P 20 t with | some [ct]=>some (AT.c ct) | _=>none)=some at_→∃ a a',at_.has a∧VD id (fun _=>False) a a'∧VR ψ W (fun c=>c < W.heap.size) (fun _=>(0,0)) (fun _=>False) a' v:=by
  intro hu he
  split at he
  · rename_i ct hf
    cases he
    rw [cells_plain hu hv] at h
    obtain ⟨_,q⟩:=cells_open (ψ:=ψ) _ _ _ _ _ _ hf h
    obtain ⟨v',q1,a,a',q2,q3,_,q4⟩:=q 0 ct rfl
    simp only [List.getElem?_cons_zero,Option.some.injEq] at q1
    subst q1
    exact ⟨a,a',q2,q3,q4⟩
  · cases he
 have whole:(∃ cs,v=.agg cs)→(flatT P 20 t).map AT.g=some at_→∃ a a',at_.has a∧VD id (fun _=>False) a a'∧VR ψ W (fun c=>c < W.heap.size) (fun _=>(0,0)) (fun _=>False) a' v:=by
  rintro ⟨cs,rfl⟩ ha
  simp only [Option.map_eq_some_iff] at ha
  obtain ⟨ts,hf,rfl⟩:=ha
  obtain ⟨hl,q⟩:=cells_open (ψ:=ψ) _ _ _ _ _ _ hf h
  simp only [Value.cells] at hl q
  have key:∀ j:Nat,∃ x:AV × AV,∀ ct,ts[j]?=some ct→Ty ct x.1∧VD id (fun _=>False) x.1 x.2∧x.2.cell=true∧∃ v,cs.toList[j]?=some v∧VR ψ W (fun c=>c < W.heap.size) (fun _=>(0,0)) (fun _=>False) x.2 v:=by
   intro j
   cases hj:ts[j]? with
   | none=>exact ⟨default,fun _ q=>by cases q⟩
   | some ct =>
    obtain ⟨v,q1,a,a',q2,q3,q4,q5⟩:=q j ct hj
    exact ⟨(a,a'),fun ct' e=>by cases e;exact ⟨q2,q3,q4,v,q1,q5⟩⟩
  obtain ⟨F,hF⟩:=Classical.axiomOfChoice key
  have g2:∀ (G:Nat→AV) (j:Nat) (x:AV),((List.range ts.length).map G)[j]?=some x→∃ ct,ts[j]?=some ct∧x=G j:=by
   intro G j x hx
   simp only [List.getElem?_map,Option.map_eq_some_iff] at hx
   obtain ⟨j',q1,q2⟩:=hx
   obtain ⟨q3,q4⟩:=List.getElem?_eq_some_iff.1 q1
   simp at q3 q4
   subst q4
   exact ⟨ts[j],List.getElem?_eq_getElem q3,q2.symm⟩
  refine ⟨.agg ((List.range ts.length).map fun j=>(F j).1),.agg ((List.range ts.length).map fun j=>(F j).2),⟨_,rfl,by simp,?_⟩,.agg _ _ (by simp) ?_,.agg _ _ ?_ ?_ ?_⟩
  · intro j ct x hct hx
    obtain ⟨ct',q1,rfl⟩:=g2 _ j x hx
    exact (hF j ct hct).1
  · intro j x x' hx hx'
    obtain ⟨ct,q1,rfl⟩:=g2 _ j x hx
    obtain ⟨_,_,rfl⟩:=g2 _ j x' hx'
    exact (hF j ct q1).2.1
  · simp only [List.length_map,List.length_range]
    rw [← hl];simp
  · intro j x hx
    obtain ⟨ct,q1,rfl⟩:=g2 _ j x hx
    exact (hF j ct q1).2.2.1
  · intro j x hx
    obtain ⟨ct,q1,rfl⟩:=g2 _ j x hx
    obtain ⟨v,q2,q3⟩:=(hF j ct q1).2.2.2
    have e:cs[j]?=some v:=by simpa using q2
    rw [Array.getD_eq_getD_getElem?,e]
    exact q3
 unfold argT at ha
 split at ha
 · rename_i fs ht
   simp only [Value.okWide,ht] at hv
   obtain ⟨cs,hv,_,_⟩:=hv
   exact whole ⟨cs,hv⟩ ha
 · rename_i m e ht
   simp only [Value.okWide,ht] at hv
   obtain ⟨cs,hv,_,_⟩:=hv
   exact whole ⟨cs,hv⟩ ha
 · rename_i ht;exact plain (.inl ht) ha
 · rename_i k ht;exact plain (.inr (.inl ⟨k,ht⟩)) ha
 · rename_i ht;exact plain (.inr (.inr (.inl ht))) ha
 · rename_i e ht;exact plain (.inr (.inr (.inr ⟨e,ht⟩))) ha
 · cases ha
def TyAll:List AT→List AV→Prop
 | [],[]=>True
 | a::r,x::s=>a.has x∧TyAll r s
 | _,_=>False
theorem args_open {base:Nat}:∀ {ts:List TypeId} {ats:List AT} {vs:List Value} {ds:List (DataW H)} {p:List MemPlace},ts.map (argT P)=ats.map some →
 (∀ (j:Nat) (t:TypeId) (v:Value),ts[j]?=some t→vs[j]?=some v→Value.okWide P W .any base t v)→DataW.TrodAll enc P W 0 (fun _=>true) true ts vs ds p →
 ∃ us us',TyAll ats us∧Rel2 (VD id fun _=>False) us us'∧us'.length=vs.length∧∀ (j:Nat) (x:AV) (v:Value),us'[j]?=some x→vs[j]?=some v→VR ψ W (fun c=>c < W.heap.size) (fun _=>(0,0)) (fun _=>False) x v
 | [],[],vs,ds,p,_,_,h=>by
  obtain ⟨rfl,_,_⟩:=ChangeShapes.trodAll_nil h
  exact ⟨[],[],trivial,⟨rfl,by simp⟩,rfl,by simp⟩
 | t::ts,at_::ats,_,_,_,hm,hv,h=>by
  obtain ⟨v,vs1,d,ds1,p1,q1,rfl,rfl,rfl,h1,h2⟩:=ChangeShapes.trodAll_cons h
  simp only [List.map_cons,List.cons.injEq] at hm
  obtain ⟨a,a',r1,r2,r3⟩:=arg_open (ψ:=ψ) hm.1 (hv 0 t v rfl rfl) h1
  obtain ⟨us,us',s1,s2,s3,s4⟩:=args_open hm.2 (fun j t v e1 e2=>hv (j+1) t v e1 e2) h2
  refine ⟨a::us,a'::us',⟨r1,s1⟩,⟨by simp [s2.1],fun j x x' e1 e2=>?_⟩,by simp [s3],fun j x v' e1 e2=>?_⟩
  · cases j with
    | zero=>cases e1;cases e2;exact r2
    | succ j=>exact s2.2 j x x' e1 e2
  · cases j with
    | zero=>cases e1;cases e2;exact r3
    | succ j=>exact s4 j x v' e1 e2
 | [],_::_,_,_,_,hm,_,_=>by simp at hm
 | _::_,[],_,_,_,hm,_,_=>by simp at hm
theorem law_calls {Φ:Nat→FuncId→Option Nat} {D:WProg} (hL:Linked P Φ ψ (erProg D)) (hok:okTree D.fns=true) {f:Nat} {ts:List TypeId} {ats:List AT} (hts:ts.map (argT P)=ats.map some)
 (core:∀ us,TyAll ats us→FnW D f us=some (.bool true)) {base:Nat} {args:Array Value} {ds:List (DataW H)} {p:List MemPlace}
 (hv:∀ (j:Nat) (t:TypeId) (v:Value),ts[j]?=some t→args[j]?=some v→Value.okWide P W .any base t v) (hA:DataW.TrodAll enc P W 0 (fun _=>true) true ts args.toList ds p) :
 Calls P (ψ f) args W fun e W'=>e=.returned (.bool true)∧(∀ c,c < W.heap.size→W'.heap[c]?=W.heap[c]?)∧W.heap.size≤W'.heap.size∧W'.os=W.os∧W'.output=W.output:=by
 obtain ⟨us,us',h1,h2,h3,h4⟩:=args_open (ψ:=ψ) hts (fun j t v e1 e2=>hv j t v e1 (by simpa using e2)) hA
 obtain ⟨n,hc⟩:=fnW_call.1 (core us h1)
 obtain ⟨v',hc',hvd⟩:=callW_ok hok h2 hc
 rw [hvd.bool_inv] at hc'
 refine (callF_ok hL hc' (w:=W) (S:=fun c=>c < W.heap.size) (m:=fun _=>(0,0)) (cargs:=args) (fun _ h=>h) (by rw [h3];simp) fun j x hx=>?_).mono ?_
 · have hj:j < args.size:=by have:=(List.getElem?_eq_some_iff.1 hx).1;rw [h3] at this;simpa using this
   rw [Array.getD_eq_getD_getElem?,Array.getElem?_eq_getElem hj]
   exact h4 j x _ hx (by simp [hj])
 · rintro e W' ⟨cv,S',m',rfl,hr,q1,q2,q3,q4⟩
   rw [hr.inv_bool]
   exact ⟨rfl,q1,q2,q3,q4⟩
theorem trodAll_old {W':World} (hh:∀ c,c < W.heap.size→W'.heap[c]?=W.heap[c]?) {base:Nat} {sp:Nat→Bool} {held:Bool}:∀ {ts:List TypeId} {vs:List Value} {ds:List (DataW H)} {ps:List MemPlace},
 DataW.TrodAll enc P W base sp held ts vs ds ps→(∀ p ∈ ps,p.block < W.heap.size)→DataW.TrodAll enc P W' base sp held ts vs ds ps
 | [],[],[],_,h,_=>h
 | _::_,_::_,_::_,_,⟨p,q,⟨n,h1⟩,h2,e⟩,hs=>⟨p,q,⟨n,DataW.trod_carry n _ _ _ h1 fun x hx=>by
  have hlt:=hs x (by rw [e];exact List.mem_append_left _ hx)
  cases x with
  | cell b off=>simp only [World.sameAt,World.cell?];rw [hh b hlt]
  | map b=>exact hh b hlt⟩,trodAll_old hh h2 (fun x hx=>hs x (by rw [e];exact List.mem_append_right _ hx)),e⟩
theorem keptBut_old {W':World} (hh:∀ c,c < W.heap.size→W'.heap[c]?=W.heap[c]?) (ho:W'.os=W.os) (hp:W'.output=W.output) (may:MemPlace→Prop):W.keptBut W' may:=by
 have h:=World.keptBut_refl W may
 refine ⟨ho,hp,fun i hi=>?_⟩
 have:=h.2.2 i hi
 rw [hh i hi]
 exact this
theorem law_post {f:Func} {s:ChangeSpec} {fresh handsOn again:Bool} {W':World} {args:Array Value} {ds gs:List (DataW H)} {before:List MemPlace} {tb:TypeId}
 (kids:Kids P (· < P.types.size)) (full:∀ t e,t < P.types.size→P.underlying t=some (.slice e)→0 < P.cellsOf e)
 (hvars0:s.vars=[]) (hW:DataW.Whole enc P f.params.toList s.vars false W args.toList ds gs before) (hfn:s.fn H (ds++gs)={ results:=[.lit (.bool true)],args:=ds })
 (hps:∀ t ∈ f.params.toList,t < P.types.size) (hr:f.resultTypes=#[tb]) (htb:P.underlying tb=some .bool)
 (hh:∀ c,c < W.heap.size→W'.heap[c]?=W.heap[c]?) (_hsz:W.heap.size≤W'.heap.size) (ho:W'.os=W.os) (hp:W'.output=W.output) :
 s.post enc P f false fresh handsOn again W args (.bool true) W':=by
 have hlt:∀ p ∈ before,p.block < W.heap.size:=hW.lt
 have hW':=hW
 obtain ⟨p,q,hA,hV,rfl,hz,_⟩:=hW
 rw [hvars0] at hV
 obtain ⟨rfl,rfl⟩:=ChangeShapes.trodVars_none hV
 simp only [List.append_nil] at hlt hz hW' hfn
 have hargs:∀ sp:Nat→Bool,(∀ x ∈ p,sp x.block=true)→DataW.TrodAll enc P W' 0 sp true f.params.toList args.toList ds p:=fun sp hsp =>
  trodAll_old hh (DataW.TrodAll.respare kids full hps hA hsp) hlt
 have hvars:∀ sp:Nat→Bool,DataW.TrodVars enc P W' sp s.vars [] []:=fun sp=>by rw [hvars0];rfl
 have hres:∀ (b:Nat) (sp:Nat→Bool) (hd:Bool),DataW.TrodAll enc P W' b sp hd f.resultTypes.toList ((Value.bool true).resultList f.resultTypes.size) [.lit (.bool true)] []:=fun b sp hd=>by
  rw [hr];exact ChangeShapes.trodAll_mk1 (RowKit.shut_bool htb true)
 have hok:∀ (j:Nat) (t:TypeId) (r:Value),f.resultTypes[j]?=some t→((Value.bool true).resultList f.resultTypes.size)[j]?=some r→Value.okWide P W' .any 0 t r :=
  RowKit.ok_one hr rfl (by simp [Value.okWide,htb,Cell.okWide,Cell.ok])
 have hold:∀ x ∈ p,(fun b=>decide (b < W.heap.size)) x.block=true:=fun x hx=>by simpa using hlt x hx
 refine ⟨ds,[],p,[],p,[],hW',?_,?_,?_,keptBut_old hh ho hp _,fun _=>⟨hok,[.lit (.bool true)]++ds,[],([]++p)++[],⟨[]++p,[],?_,hvars _,rfl,?_,fun h=>by cases h⟩,?_⟩⟩
 · rw [List.append_nil,hfn];exact hres _ _ _
 · rw [List.append_nil,hfn];exact hargs _ hold
 · rw [List.append_nil,hfn];exact hvars _
 · exact ChangeShapes.trodAll_append (hargs _ fun _ _=>rfl) (hres _ _ _)
 · intro b off hb
   simp only [List.nil_append,List.append_nil] at hb
   have:=hz b off hb
   unfold World.frozen? at this ⊢
   rw [hh b (hlt _ hb)]
   exact this
 · intro x hx _
   simpa using hx
theorem trodAll_len {base:Nat} {sp:Nat→Bool} {held:Bool}:∀ {ts:List TypeId} {vs:List Value} {ds:List (DataW H)} {ps:List MemPlace},DataW.TrodAll enc P W base sp held ts vs ds ps→ds.length=ts.length
 | [],[],[],_,_=>rfl
 | _::_,_::_,_::_,_,⟨_,_,_,h2,_⟩=>by simp [trodAll_len h2]
def isTrue:Option AV→Bool
 | some (.bool true)=>true
 | _=>false
theorem isTrue_eq {o:Option AV} (h:isTrue o=true):o=some (.bool true):=by
 unfold isTrue at h
 split at h
 · rfl
 · cases h
end
end Go.Pw
end
section
namespace Go.Pw
open Go Go.Pav
theorem ty_map2 {α:Type} {g:α→List AV} {Q:List AV→Prop} {R:α→Prop} (h:∀ a,Q a→∃ x,a=g x∧R x):∀ (xs:List (List AV)),(∀ x ∈ xs,Q x)→∃ ys:List α,xs=ys.map g∧∀ y ∈ ys,R y:=by
 intro xs
 induction xs with
 | nil=>intro _;exact ⟨[],rfl,by simp⟩
 | cons a r ih =>
  intro hx
  obtain ⟨y,rfl,hy⟩:=h a (hx a (by simp))
  obtain ⟨ys,rfl,hys⟩:=ih fun x q=>hx x (by simp [q])
  exact ⟨y::ys,rfl,by simpa using ⟨hy,hys⟩⟩
theorem ty_slice {ts:List CT} {a:AV} (h:Ty (.slice ts) a):∃ (es:List (List AV)) (e:Bool),a=.ro ts.length es e∧es.length < 2 ^ 63∧∀ x ∈ es,x.length=ts.length∧∀ (j:Nat) (ct:CT) (v:AV),ts[j]?=some ct→x[j]?=some v→Ty ct v:=by
 cases h with
 | slice ts es ex hn hw h =>
  refine ⟨es,ex,rfl,hn,fun x hx=>?_⟩
  obtain ⟨i,hi⟩:=List.getElem?_of_mem hx
  exact ⟨hw i x hi,fun j ct v e1 e2=>h i x j ct v hi e1 e2⟩
theorem ty_u8 {v:AV} (h:Ty (.int .u8) v):∃ n:Int,v=.int .u8 n∧0≤n∧n≤255:=by
 cases h with
 | int k n h1 h2=>exact ⟨n,rfl,h1,h2⟩
theorem ty_u64 {v:AV} (h:Ty (.int .u64) v):∃ n:Int,v=.int .u64 n∧0≤n∧n≤18446744073709551615:=by
 cases h with
 | int k n h1 h2=>exact ⟨n,rfl,h1,h2⟩
theorem ty_i64 {v:AV} (h:Ty (.int .i64) v):∃ n:Int,v=.int .i64 n∧-9223372036854775808≤n∧n≤9223372036854775807:=by
 cases h with
 | int k n h1 h2=>exact ⟨n,rfl,h1,h2⟩
theorem ty_str {v:AV} (h:Ty .str v):∃ s:List UInt8,v=.str s∧s.length < 9223372036854775808:=by
 cases h with
 | str s h=>exact ⟨s,rfl,h⟩
end Go.Pw
end
section
namespace Go.Proofs.YtmpenhhlkcehpaaGreat
open Go.ChangeShapes Go.WideShapes Go.ChangeAt Go.RowKit Go.Pav Go.Pw P
theorem own_:ownKnob Tryz.prog.godebug=none:=by kernel_rfl
theorem kids_:Kids Tryz.prog (· < Tryz.prog.types.size):=kids_rows (by kernel_rfl) (by kernel_rfl)
theorem full_:∀ t e,t < Tryz.prog.types.size→Tryz.prog.underlying t=some (.slice e)→0 < Tryz.prog.cellsOf e:=slices_full_of Tryz.prog (by kernel_rfl)
end Go.Proofs.YtmpenhhlkcehpaaGreat
end
section
namespace Go.D
open Go Go.Pav Go.Pw P
attribute [-simp] List.getElem_cons_drop
variable {C:WProg}
structure It where
 (k t:Int) (x:List UInt8) (m:List (List UInt8)) (e:Bool)
abbrev eIt (i:It):AV:=.agg [.int .u64 i.k,.int .u8 i.t,.str i.x,.ro 1 (i.m.map eS) i.e]
structure HasI (C:WProg):Prop extends HasS C where
 f398:C.fns.get 398=some w398
 f424:C.fns.get 424=some w424
 f494:C.fns.get 494=some w494
 f496:C.fns.get 496=some w496
 f497:C.fns.get 497=some w497
 f498:C.fns.get 498=some w498
 f499:C.fns.get 499=some w499
 f544:C.fns.get 544=some w544
theorem name_loop (H:HasS C) (s:List UInt8) (hl:s.length≤16):∀ n i,n+i=s.length →
 w511_K0 C ⟨[(3,.int .i64 i),(0,.str s)],[],0⟩=some (.int .i64 (if (s.drop i).all inN=true then 1 else 0)):=by
 intro n
 induction n with
 | zero =>
  intro i hi
  simp only [w511_K0];rw [ck_unf w511_B0.eq_1]
  have h1:s.drop i=[]:=List.drop_eq_nil_of_le (by omega)
  have h3:¬ i < s.length:=by omega
  simp [ck_unf w511_c0.eq_1,h1,h3]
 | succ n ih =>
  intro i hi
  have h1:i < s.length:=by omega
  have:=ih (i+1) (by omega)
  simp only [w511_K0] at this ⊢;rw [ck_unf w511_B0.eq_1]
  rw [drop_cons h1]
  generalize hX:((s.drop (i+1)).all inN)=X at *
  simp at this
  rw [List.all_cons,hX]
  have key:=inN_cases s[i]
  by_cases q1:97≤s[i].toNat <;> by_cases q2:s[i].toNat≤122 <;> by_cases q3:48≤s[i].toNat <;> by_cases q4:s[i].toNat≤57 <;> first
   | (exfalso;omega)
   | (have c : inN s[i] = true := by rcases key with ⟨c, _⟩ | ⟨_, q⟩ <;> first | exact c | (exfalso; omega)
      simp (disch:=omega) [h1,wI64,c,q1,q2,q3,q4,this];done)
   | (have c : inN s[i] = false := by rcases key with ⟨_, q⟩ | ⟨c, _⟩ <;> first | exact c | (exfalso; omega)
      simp (disch:=omega) [h1,wI64,c,q1,q2,q3,q4];done)
theorem name_ok (H:HasS C) (s:List UInt8):FnW C 511 [.str s]=some (.int .i64 (if isName s=true then 1 else 0)):=by
 rw [fnW_eq H.f511 rfl]
 unfold isName
 by_cases c1:1≤s.length
 · by_cases c2:s.length≤16
   · have:=name_loop H s c2 s.length 0 (by simp)
     simp only [w511_K0] at this
     simp only [List.drop_zero] at this
     generalize hX:s.all inN=X at *
     simp at this
     have c3:¬ ((s.length:Int) < 1):=by omega
     have c4:¬ (16 < (s.length:Int)):=by omega
     simp [w511,c1,c2,c3,c4,this]
   · have c3:¬ ((s.length:Int) < 1):=by omega
     have c4:(16 < (s.length:Int)):=by omega
     simp [w511,c1,c2,c3,c4]
 · have c3:((s.length:Int) < 1):=by omega
   simp [w511,c1,c3]
theorem pred496 (H:HasI C):Pred C 496 inT where
 asc b hb:=by
  rw [fnW_eq H.f496 rfl]
  by_cases c1:32≤b.toNat <;> by_cases c2:126 < b.toNat
  · have c:inT b=false:=decide_eq_false (fun q=>by omega)
    simp [w496,c,c1,c2]
  · have c:inT b=true:=decide_eq_true ⟨c1,by omega⟩
    simp [w496,c,c1,c2]
  · omega
  · have c:inT b=false:=decide_eq_false (fun q=>c1 q.1)
    simp [w496,c,c1,c2]
 high r hr:=by
  rw [fnW_eq H.f496 rfl]
  have h1:32≤r:=by omega
  have h2:126 < r:=by omega
  simp [w496,h1,h2]
 qh b hb:=decide_eq_false (fun q=>by omega)
 ne:=by rfl
 ni:=by rfl
structure PredS (C:WProg) (g:Nat) (Q:List UInt8→Bool):Prop where
 ok:∀ s,FnW C g [.str s]=some (.bool (!Q s))
 ne:ppB g=false
 ni:inlB g=false
theorem indexS_loop (H:HasI C) {g:Nat} {Q:List UInt8→Bool} (G:PredS C g Q) (l:List (List UInt8)) (e:Bool) (hl:l.length≤1000000):∀ n i,n+i=l.length →
 ∃ v:Int,w544_K0 C ⟨[(8,.int .i64 i),(7,.int .i64 l.length),(1,.fn g []),(0,.ro 1 (l.map eS) e)],[],0⟩=some (.int .i64 v)∧decide (v < 0)=(l.drop i).all Q:=by
 intro n
 induction n with
 | zero =>
  intro i hi
  simp only [w544_K0];rw [ck_unf w544_B0.eq_1]
  have h1:l.drop i=[]:=List.drop_eq_nil_of_le (by omega)
  have h3:¬ i < l.length:=by omega
  exact ⟨-1,by simp [ck_unf w544_c0.eq_1,h3],by simp [h1]⟩
 | succ n ih =>
  intro i hi
  have h1:i < l.length:=by omega
  have hN:=G.ne;have hI:=G.ni
  have hb:=G.ok l[i]
  rw [drop_cons h1]
  by_cases c:Q l[i]=true
  · obtain ⟨v,hv,hq⟩:=ih (i+1) (by omega)
    refine ⟨v,?_,by simp [hq,c]⟩
    simp only [w544_K0] at hv ⊢;rw [ck_unf w544_B0.eq_1]
    simp at hv
    simp (disch:=omega) [h1,wI64,hb,c,H.inl,hI,H.pp,hN,hv]
  · refine ⟨i,?_,by simp [c]⟩
    simp only [w544_K0];rw [ck_unf w544_B0.eq_1]
    simp (disch:=omega) [h1,hb,c,H.inl,hI,H.pp,hN]
theorem containsS_ok (H:HasI C) {g:Nat} {Q:List UInt8→Bool} (G:PredS C g Q) (l:List (List UInt8)) (e:Bool) (hl:l.length≤1000000) :
 FnW C 498 [.ro 1 (l.map eS) e,.fn g []]=some (.bool (!l.all Q)):=by
 obtain ⟨v,h,q⟩:=indexS_loop H G l e hl l.length 0 (by simp)
 simp at q
 have h2:FnW C 544 [.ro 1 (l.map eS) e,.fn g []]=some (.int .i64 v):=by
  rw [fnW_eq H.f544 rfl]
  simp only [w544_K0] at h
  simp at h
  simp [w544,h]
 rw [fnW_eq H.f498 rfl]
 have q':decide (v < 0)=l.all Q:=by simpa using q
 rw [← q']
 by_cases c:v < 0
 · have c':¬ 0≤v:=by omega
   simp [w498,H.inl,inlB,H.pp,ppB,h2,c,c']
 · have c':0≤v:=by omega
   simp [w498,H.inl,inlB,H.pp,ppB,h2,c,c']
theorem pred499 (H:HasI C):PredS C 499 isName where
 ok s:=by
  have:=iname_ok H.toHasS s
  rw [fnW_eq H.f499 rfl]
  simp [w499,H.inl,inlB,H.pp,ppB,this]
 ne:=by rfl
 ni:=by rfl
def itOk (n:Int) (i:It):Bool:=decide (i.k≠0)&&decide (i.t < n)&&isText i.x&&(decide (i.m.length≤8)&&i.m.all isName)
theorem icheck_ok (H:HasI C) (i:It) (n:Int) (ht:0≤i.t∧i.t≤255):FnW C 398 [eIt i,.int .i64 n]=some (.int .i64 (if itOk n i=true then 0 else 6)):=by
 have h1:FnW C 494 [.rop [.int .u64 i.k,.int .u8 i.t,.str i.x,.ro 1 (i.m.map eS) i.e]]=some (.bool (isText i.x)):=by
  have:=contains_ok H.toHasS (pred496 H) i.x
  rw [fnW_eq H.f494 rfl]
  unfold isText
  by_cases c2:i.x.length≤64
  · have c4:(i.x.length:Int)≤64:=by omega
    simp [w494,c2,c4,H.inl,inlB,H.pp,ppB,this]
  · have c4:¬ ((i.x.length:Int)≤64):=by omega
    simp [w494,c2,c4]
 have h2:FnW C 497 [.rop [.int .u64 i.k,.int .u8 i.t,.str i.x,.ro 1 (i.m.map eS) i.e]]=some (.bool (decide (i.m.length≤8)&&i.m.all isName)):=by
  rw [fnW_eq H.f497 rfl]
  by_cases c2:i.m.length≤8
  · have:=containsS_ok H (pred499 H) i.m i.e (by omega)
    have c4:(i.m.length:Int)≤8:=by omega
    simp [w497,c2,c4,H.inl,inlB,H.pp,ppB,this]
  · have c4:¬ ((i.m.length:Int)≤8):=by omega
    simp [w497,c2,c4]
 rw [fnW_eq H.f398 rfl]
 unfold itOk
 generalize isText i.x=X at *
 generalize (decide (i.m.length≤8)&&i.m.all isName)=M at *
 by_cases c1:i.k=0
 · simp [w398,c1]
 · by_cases c2:n≤i.t
   · have c3:¬ i.t < n:=by omega
     simp (disch:=omega) [w398,c1,c2,c3,wI64]
   · have c3:i.t < n:=by omega
     cases X
     · simp (disch:=omega) [w398,c1,c2,c3,wI64,H.inl,inlB,H.pp,ppB,h1]
     · cases M <;> simp (disch:=omega) [w398,c1,c2,c3,wI64,H.inl,inlB,H.pp,ppB,h1,h2]
theorem rcheck_loop (H:HasI C) (k t:Int) (x:List UInt8) (m:List (List UInt8)) (e:Bool) (hl:m.length≤1000000):∀ n i,n+i=m.length→∀ ok:Bool,
 w424_K0 C ⟨[(6,.int .i64 i),(5,.int .i64 (if ok=true then 1 else 0)),(2,.ptr 0 0 0)],[(0,.cells 4 [[.int .u64 k,.int .u8 t,.str x,.ro 1 (m.map eS) e]] true true)],1⟩ =
  some (.int .i64 (if (ok&&(m.drop i).all isName)=true then 0 else 6)):=by
 intro n
 induction n with
 | zero =>
  intro i hi ok
  simp only [w424_K0];rw [ck_unf w424_B0.eq_1]
  have h1:m.drop i=[]:=List.drop_eq_nil_of_le (by omega)
  have h3:¬ i < m.length:=by omega
  cases ok <;> simp [ck_unf w424_c0.eq_1,h1,h3]
 | succ n ih =>
  intro i hi ok
  have h1:i < m.length:=by omega
  have:=ih (i+1) (by omega) (ok&&isName m[i])
  have hb:=name_ok H.toHasS m[i]
  rw [drop_cons h1]
  generalize hX:(m.drop (i+1)).all isName=X at *
  rw [List.all_cons,hX]
  simp only [w424_K0] at this ⊢;rw [ck_unf w424_B0.eq_1]
  cases ok <;> cases hn:isName m[i] <;> rw [hn] at this hb <;> simp at this hb <;> simp (disch:=omega) [h1,wI64,hb,H.inl,inlB,H.pp,ppB,this]
theorem rcheck_ok (H:HasI C) (i:It) (n:Int) (ht:0≤i.t∧i.t≤255) (hl:i.m.length≤1000000):FnW C 424 [eIt i,.int .i64 n]=some (.int .i64 (if itOk n i=true then 0 else 6)):=by
 have hw:=words_ok H.toHasS i.x
 have hA:=rcheck_loop H i.k i.t i.x i.m i.e hl i.m.length 0 (by simp)
 have h0:=hA false
 have h1:=hA true
 rw [fnW_eq H.f424 rfl]
 unfold itOk
 simp only [List.drop_zero,Bool.false_and,Bool.true_and] at h0 h1
 generalize i.m.all isName=M at *
 generalize isText i.x=X at *
 simp only [w424_K0] at h0 h1
 simp at h0 h1
 by_cases c1:i.k=0
 · simp [w424,eq_true c1,H.inl,inlB,H.pp,ppB,hw,h0]
 · by_cases c2:n≤i.t
   · have c3:¬ i.t < n:=by omega
     simp (disch:=omega) [w424,c1,c2,c3,wI64,H.inl,inlB,H.pp,ppB,hw,h0]
   · have c3:i.t < n:=by omega
     by_cases c4:i.m.length≤8
     · have c5:¬ (8 < (i.m.length:Int)):=by omega
       cases X
       · simp (disch:=omega) [w424,c1,c2,c3,c4,c5,wI64,H.inl,inlB,H.pp,ppB,hw,h0]
       · simp (disch:=omega) [w424,c1,c2,c3,c4,c5,wI64,H.inl,inlB,H.pp,ppB,hw,h1]
     · have c5:(8 < (i.m.length:Int)):=by omega
       simp (disch:=omega) [w424,c1,c2,c3,c4,c5,wI64,H.inl,inlB,H.pp,ppB,hw,h0]
abbrev Bs:=List UInt8
@[simp] def eA (a:Bs × Bs):List AV:=[.str a.1,.str a.2]
structure Nd where
 k:Int
 t:Bs
 y:Bs
 a:List (Bs × Bs)
 ae:Bool
 x:Bs
 ch:List Nd
 ce:Bool
mutual
def Nd.c:Nd→List AV
 | ⟨k,t,y,a,ae,x,ch,ce⟩=>[.int .u8 k,.str t,.str y,.ro 2 (a.map eA) ae,.str x,.ro 6 (Nd.cs ch) ce]
def Nd.cs:List Nd→List (List AV)
 | []=>[]
 | n::r=>n.c::Nd.cs r
end
theorem Nd.cs_eq:∀ l:List Nd,Nd.cs l=l.map Nd.c
 | []=>rfl
 | n::r=>by rw [Nd.cs,Nd.cs_eq r];rfl
theorem Nd.c_eq (n:Nd):n.c=[.int .u8 n.k,.str n.t,.str n.y,.ro 2 (n.a.map eA) n.ae,.str n.x,.ro 6 (n.ch.map Nd.c) n.ce]:=by
 cases n;rw [Nd.c,Nd.cs_eq]
@[simp] theorem Nd.c_len (n:Nd):n.c.length=6:=by rw [Nd.c_eq];rfl
@[simp] theorem Nd.c_take (n:Nd):n.c.take 6=n.c:=List.take_of_length_le (by simp)
@[simp] theorem Nd.c0 (n:Nd):n.c[0]?=some (.int .u8 n.k):=by rw [Nd.c_eq];rfl
@[simp] theorem Nd.c1 (n:Nd):n.c[1]?=some (.str n.t):=by rw [Nd.c_eq];rfl
@[simp] theorem Nd.c2 (n:Nd):n.c[2]?=some (.str n.y):=by rw [Nd.c_eq];rfl
@[simp] theorem Nd.c3 (n:Nd):n.c[3]?=some (.ro 2 (n.a.map eA) n.ae):=by rw [Nd.c_eq];rfl
@[simp] theorem Nd.c4 (n:Nd):n.c[4]?=some (.str n.x):=by rw [Nd.c_eq];rfl
@[simp] theorem Nd.c5 (n:Nd):n.c[5]?=some (.ro 6 (n.ch.map Nd.c) n.ce):=by rw [Nd.c_eq];rfl
@[simp] theorem Nd.g0 (n:Nd) (h:0 < n.c.length):n.c[0]=.int .u8 n.k:=Option.some.inj ((List.getElem?_eq_getElem h).symm.trans n.c0)
@[simp] theorem Nd.g1 (n:Nd) (h:1 < n.c.length):n.c[1]=.str n.t:=Option.some.inj ((List.getElem?_eq_getElem h).symm.trans n.c1)
@[simp] theorem Nd.g2 (n:Nd) (h:2 < n.c.length):n.c[2]=.str n.y:=Option.some.inj ((List.getElem?_eq_getElem h).symm.trans n.c2)
@[simp] theorem Nd.g3 (n:Nd) (h:3 < n.c.length):n.c[3]=.ro 2 (n.a.map eA) n.ae:=Option.some.inj ((List.getElem?_eq_getElem h).symm.trans n.c3)
@[simp] theorem Nd.g4 (n:Nd) (h:4 < n.c.length):n.c[4]=.str n.x:=Option.some.inj ((List.getElem?_eq_getElem h).symm.trans n.c4)
@[simp] theorem Nd.g5 (n:Nd) (h:5 < n.c.length):n.c[5]=.ro 6 (n.ch.map Nd.c) n.ce:=Option.some.inj ((List.getElem?_eq_getElem h).symm.trans n.c5)
@[simp] theorem Nd.hd (n:Nd):n.c.head?=some (.int .u8 n.k):=by rw [Nd.c_eq];rfl
@[simp] theorem Nd.c_ptr (n:Nd):hasPtrL n.c=false:=by rw [Nd.c_eq];rfl
@[simp] theorem Nd.c_frz (n:Nd) (h:WHeap) (k:Nat):mapO (frzW h (k+1)) n.c=some n.c:=by rw [Nd.c_eq];rfl
@[simp] theorem Nd.c_reach (n:Nd) (h:WHeap) (k:Nat):n.c.flatMap (reachW h (k+1))=[]:=by rw [Nd.c_eq];rfl
@[simp] theorem Nd.c_ren (n:Nd) (π:Nat→Option Nat):renL π n.c=some n.c:=by rw [Nd.c_eq];rfl
@[simp] theorem Nd.c_refs (n:Nd):refsL n.c=[]:=by rw [Nd.c_eq];rfl
@[simp] theorem Nd.c_isC (n:Nd):n.c.all isC=true:=by rw [Nd.c_eq];rfl
@[simp] theorem Nd.c_cell (n:Nd):n.c.all AV.cell=true:=by rw [Nd.c_eq];rfl
def after:Option Bs→Bs→Bool
 | none,_=>true
 | some p,a=>decide (p < a)
def atOk:Option Bs→List (Bs × Bs)→Bool
 | _,[]=>true
 | p,a::r=>isName a.1&&isText a.2&&after p a.1&&atOk (some a.1) r
def keysOk:List Bs→List Bs→Bool
 | _,[]=>true
 | p,k::r=>!(decide (k≠[])&&p.contains k)&&keysOk (p++[k]) r
def alone (n:Nd):Bool :=
 if n.k=2 then isText n.x&&decide (n.t=[])&&decide (n.y=[])&&decide (n.a=[])&&decide (n.ch=[])
 else decide (n.k=1)&&isName n.t&&(decide (n.y=[])||isName n.y)&&decide (n.x=[])&&decide (n.a.length≤8)&&decide (n.ch.length≤16)&&atOk none n.a&&keysOk [] (n.ch.map Nd.y)
structure HasN (C:WProg):Prop extends HasS C where
 f434:C.fns.get 434=some w434
 f519:C.fns.get 519=some w519
 f518:C.fns.get 518=some w518
 f562:C.fns.get 562=some w562
theorem k519 (H:HasN C) (n:Nd) (c:Nd):FnW C 519 [.agg n.c,.rop c.c]=some (.bool (decide (n.y=c.y))):=by
 rw [fnW_eq H.f519 rfl,Nd.c_eq,Nd.c_eq]
 by_cases h:n.y=c.y
 · simp [w519,h]
 · simp [w519,h]
theorem indexN_loop (H:HasN C) (c:Nd) (l:List Nd) (e:Bool) (hl:l.length≤1000000):∀ n i,n+i=l.length →
 ∃ v:Int,w562_K0 C ⟨[(8,.int .i64 i),(7,.int .i64 l.length),(1,.fn 519 [.rop c.c]),(0,.ro 6 (l.map Nd.c) e)],[],0⟩=some (.int .i64 v)∧decide (v < 0)=!((l.drop i).map Nd.y).contains c.y:=by
 intro n
 induction n with
 | zero =>
  intro i hi
  simp only [w562_K0];rw [ck_unf w562_B0.eq_1]
  have h1:l.drop i=[]:=List.drop_eq_nil_of_le (by omega)
  have h3:¬ i < l.length:=by omega
  exact ⟨-1,by simp [ck_unf w562_c0.eq_1,h3],by simp [h1]⟩
 | succ n ih =>
  intro i hi
  have h1:i < l.length:=by omega
  have hb:=k519 H l[i] c
  rw [drop_cons h1]
  by_cases q:l[i].y=c.y
  · refine ⟨i,?_,by simp [q]⟩
    simp only [w562_K0];rw [ck_unf w562_B0.eq_1]
    simp (disch:=omega) [h1,hb,q,H.inl,inlB,H.pp,ppB]
  · obtain ⟨v,hv,hq⟩:=ih (i+1) (by omega)
    refine ⟨v,?_,?_⟩
    · simp only [w562_K0] at hv ⊢;rw [ck_unf w562_B0.eq_1]
      simp at hv
      simp (disch:=omega) [h1,wI64,hb,q,H.inl,inlB,H.pp,ppB,hv]
    · have q':¬ c.y=l[i].y:=fun h=>q h.symm
      simp [hq,q']
theorem containsN_ok (H:HasN C) (c:Nd) (l:List Nd) (e:Bool) (hl:l.length≤1000000):FnW C 518 [.ro 6 (l.map Nd.c) e,.fn 519 [.rop c.c]]=some (.bool ((l.map Nd.y).contains c.y)):=by
 obtain ⟨v,h,q⟩:=indexN_loop H c l e hl l.length 0 (by simp)
 rw [List.drop_zero] at q
 have h2:FnW C 562 [.ro 6 (l.map Nd.c) e,.fn 519 [.rop c.c]]=some (.int .i64 v):=by
  rw [fnW_eq H.f562 rfl]
  simp only [w562_K0] at h
  simp at h
  simp [w562,h]
 have q':(l.map Nd.y).contains c.y=!decide (v < 0):=by rw [q];simp
 rw [fnW_eq H.f518 rfl,q']
 by_cases c:v < 0
 · have c':¬ 0≤v:=by omega
   simp [w518,H.inl,inlB,H.pp,ppB,h2,c,c']
 · have c':0≤v:=by omega
   simp [w518,H.inl,inlB,H.pp,ppB,h2,c,c']
theorem blt_eq:∀ x y:Bs,Pav.bytesLess x y=decide (x < y)
 | [],[]=>by simp [Pav.bytesLess]
 | [],_::_=>by simp [Pav.bytesLess]
 | _::_,[]=>by simp [Pav.bytesLess]
 | a::x,b::y=>by
  rw [Pav.bytesLess,blt_eq x y]
  by_cases h:a < b
  · simp [h,List.cons_lt_cons_iff]
  · by_cases q:a=b
    · simp [h,q,List.cons_lt_cons_iff]
    · simp [h,q,List.cons_lt_cons_iff]
theorem leq_eq (x y:Bs):(Pav.bytesLess x y||x == y)=!decide (y < x):=by
 rw [blt_eq]
 by_cases h:y < x
 · have h1:¬ x < y:=fun q=>List.lt_irrefl x (List.lt_trans q h)
   have h2:¬ x=y:=fun q=>by subst q;exact List.lt_irrefl x h
   simp [h,h1,h2]
 · rcases Decidable.em (x=y) with q | q
   · simp [h,q]
   · have h1:x < y:=Classical.byContradiction fun p=>q (List.le_antisymm (List.not_lt.1 h) (List.not_lt.1 p))
     simp [h,h1]
theorem keys_loop (H:HasN C) (k:Int) (t y x:Bs) (a:List (Bs × Bs)) (ae ce:Bool) (ch:List Nd) (hl:ch.length≤1000000):∀ n i,n+i=ch.length →
 w434_K0 C ⟨[(142,.int .i64 i),(141,.int .i64 ch.length),(140,.ro 6 (ch.map Nd.c) ce),(0,.rop [.int .u8 k,.str t,.str y,.ro 2 (a.map eA) ae,.str x,.ro 6 (ch.map Nd.c) ce])],[],0⟩ =
  some (.bool (keysOk ((ch.map Nd.y).take i) ((ch.map Nd.y).drop i))):=by
 intro n
 induction n with
 | zero =>
  intro i hi
  simp only [w434_K0];rw [ck_unf w434_B0.eq_1]
  have h1:(ch.map Nd.y).drop i=[]:=List.drop_eq_nil_of_le (by simp;omega)
  have h3:¬ i < ch.length:=by omega
  simp [ck_unf w434_c0.eq_1,h1,h3,keysOk,-List.map_drop]
 | succ n ih =>
  intro i hi
  have h1:i < ch.length:=by omega
  have h2:i < (ch.map Nd.y).length:=by simp;omega
  have hb:=containsN_ok H ch[i] (ch.take i) false (by simp;omega)
  have:=ih (i+1) (by omega)
  rw [List.take_succ_eq_append_getElem h2] at this
  rw [drop_cons h2,keysOk]
  have hy:(ch.map Nd.y)[i]=ch[i].y:=by simp
  rw [List.map_take,List.map_take] at hb
  rw [hy] at this ⊢
  have hne:¬ i=ch.length:=by omega
  have hle:i≤ch.length:=by omega
  simp only [w434_K0] at this ⊢;rw [ck_unf w434_B0.eq_1]
  generalize hP:(ch.map Nd.y).take i=P at *
  generalize hQ:(ch.map Nd.y).drop (i+1)=Q at *
  simp at this
  by_cases c1:ch[i].y=[]
  · rw [c1] at this
    simp (disch:=omega) [h1,wI64,c1,H.inl,inlB,H.pp,ppB,this]
  · by_cases c2:P.contains ch[i].y=true
    · rw [c2] at hb
      have c2':ch[i].y ∈ P:=by simpa using c2
      simp (disch:=omega) [h1,hne,hle,wI64,c1,c2',hb,H.inl,inlB,H.pp,ppB,this]
    · have c2':¬ ch[i].y ∈ P:=by simpa using c2
      have c3:P.contains ch[i].y=false:=by simpa using c2
      rw [c3] at hb
      simp (disch:=omega) [h1,hne,hle,wI64,c1,c2',hb,H.inl,inlB,H.pp,ppB,this]
theorem attrs_loop (H:HasN C) (k:Int) (t y x:Bs) (a:List (Bs × Bs)) (ae ce:Bool) (ch:List Nd) (hl:ch.length≤1000000) (ha:a.length≤1000000):∀ n i,n+i=a.length →
 w434_K1 C ⟨[(103,.int .i64 i),(102,.int .i64 a.length),(101,.ro 2 (a.map eA) ae),(0,.rop [.int .u8 k,.str t,.str y,.ro 2 (a.map eA) ae,.str x,.ro 6 (ch.map Nd.c) ce])],[],0⟩ =
  some (.bool (atOk (if i=0 then none else (a[i - 1]?).map Prod.fst) (a.drop i)&&keysOk [] (ch.map Nd.y))):=by
 intro n
 induction n with
 | zero =>
  intro i hi
  have hk:=keys_loop H k t y x a ae ce ch hl ch.length 0 (by simp)
  simp only [List.take_zero,List.drop_zero] at hk
  generalize keysOk [] (ch.map Nd.y)=K at *
  simp only [w434_K0] at hk
  simp at hk
  simp only [w434_K1];rw [ck_unf w434_B1.eq_1]
  have h1:a.drop i=[]:=List.drop_eq_nil_of_le (by omega)
  have h3:¬ i < a.length:=by omega
  simp [ck_unf w434_c1.eq_1,h1,h3,atOk,hk]
 | succ n ih =>
  intro i hi
  have h1:i < a.length:=by omega
  have hb:=named_ok H.toHasS a[i].1
  have hc:=text_ok H.toHasS a[i].2
  have:=ih (i+1) (by omega)
  rw [if_neg (by omega),show i+1 - 1=i from rfl,List.getElem?_eq_getElem h1] at this
  rw [drop_cons h1,atOk]
  generalize hK:keysOk [] (ch.map Nd.y)=K at *
  simp only [w434_K1] at this ⊢;rw [ck_unf w434_B1.eq_1]
  simp only [Option.map_some] at this
  generalize atOk (some a[i].1) (a.drop (i+1))=R at *
  simp at this
  cases q1:isName a[i].1
  · rw [q1] at hb
    simp (disch:=omega) [h1,wI64,hb,H.inl,inlB,H.pp,ppB]
  · cases q2:isText a[i].2
    · rw [q1] at hb;rw [q2] at hc
      simp (disch:=omega) [h1,wI64,hb,hc,H.inl,inlB,H.pp,ppB]
    · rw [q1] at hb;rw [q2] at hc
      cases i with
      | zero =>
       simp at this
       simp (disch:=omega) [h1,wI64,hb,hc,H.inl,inlB,H.pp,ppB,this,after]
      | succ i =>
       have h4:i < a.length:=by omega
       have h5:(i:Int)+1 < a.length:=by omega
       simp at this
       by_cases q3:a[i].1 < a[i+1].1
       · have q4:¬ a[i+1].1≤a[i].1:=List.not_le.2 q3
         simp (disch:=omega) [h1,h4,h5,wI64,hb,hc,H.inl,inlB,H.pp,ppB,this,leq_eq,after,q3,q4]
       · have q4:a[i+1].1≤a[i].1:=List.not_lt.1 q3
         simp (disch:=omega) [h1,h4,h5,wI64,hb,hc,H.inl,inlB,H.pp,ppB,this,leq_eq,after,q3,q4]
theorem alone_ok (H:HasN C) (n:Nd):FnW C 434 [.rop n.c]=some (.bool (alone n)):=by
 obtain ⟨k,t,y,a,ae,x,ch,ce⟩:=n
 rw [fnW_eq H.f434 rfl,Nd.c_eq]
 simp only []
 unfold alone
 simp only []
 have ht:=named_ok H.toHasS t
 have hy:=named_ok H.toHasS y
 have hx:=text_ok H.toHasS x
 by_cases k2:k=2
 · rw [if_pos k2]
   generalize isText x=X at *
   cases X
   · simp [w434,k2,hx,H.inl,inlB,H.pp,ppB]
   · by_cases c1:t=[] <;> by_cases c2:y=[] <;> by_cases c3:a=[] <;> by_cases c4:ch=[] <;> simp [w434,k2,hx,H.inl,inlB,H.pp,ppB,c1,c2,c3,c4]
 · rw [if_neg k2]
   by_cases k1:k=1
   · cases q1:isName t
     · rw [q1] at ht;simp [w434,k1,ht,H.inl,inlB,H.pp,ppB]
     · rw [q1] at ht
       by_cases c2:y=[]
       · subst c2
         by_cases c3:x=[]
         · subst c3
           by_cases c4:a.length≤8
           · by_cases c5:ch.length≤16
             · have c6:¬ 8 < (a.length:Int):=by omega
               have c7:¬ 16 < (ch.length:Int):=by omega
               have hl:=attrs_loop H 1 t [] [] a ae ce ch (by omega) (by omega) a.length 0 (by simp)
               simp only [w434_K1,if_true,List.drop_zero] at hl
               generalize atOk none a=A at *
               generalize keysOk [] (ch.map Nd.y)=K at *
               simp at hl
               simp [w434,k1,ht,H.inl,inlB,H.pp,ppB,c4,c5,c6,c7,hl]
             · have c6:¬ 8 < (a.length:Int):=by omega
               have c7:16 < (ch.length:Int):=by omega
               simp [w434,k1,ht,H.inl,inlB,H.pp,ppB,c4,c5,c6,c7]
           · have c6:8 < (a.length:Int):=by omega
             simp [w434,k1,ht,H.inl,inlB,H.pp,ppB,c4,c6]
         · simp [w434,k1,ht,H.inl,inlB,H.pp,ppB,c3]
       · cases q2:isName y
         · rw [q2] at hy;simp [w434,k1,ht,hy,H.inl,inlB,H.pp,ppB,c2]
         · rw [q2] at hy
           by_cases c3:x=[]
           · subst c3
             by_cases c4:a.length≤8
             · by_cases c5:ch.length≤16
               · have c6:¬ 8 < (a.length:Int):=by omega
                 have c7:¬ 16 < (ch.length:Int):=by omega
                 have hl:=attrs_loop H 1 t y [] a ae ce ch (by omega) (by omega) a.length 0 (by simp)
                 simp only [w434_K1,if_true,List.drop_zero] at hl
                 generalize atOk none a=A at *
                 generalize keysOk [] (ch.map Nd.y)=K at *
                 simp at hl
                 simp [w434,k1,ht,hy,H.inl,inlB,H.pp,ppB,c2,c4,c5,c6,c7,hl]
               · have c6:¬ 8 < (a.length:Int):=by omega
                 have c7:16 < (ch.length:Int):=by omega
                 simp [w434,k1,ht,hy,H.inl,inlB,H.pp,ppB,c2,c4,c5,c6,c7]
             · have c6:8 < (a.length:Int):=by omega
               simp [w434,k1,ht,hy,H.inl,inlB,H.pp,ppB,c2,c4,c6]
           · simp [w434,k1,ht,hy,H.inl,inlB,H.pp,ppB,c2,c3]
   · simp [w434,k1,k2,H.inl,inlB,H.pp,ppB]
end Go.D
end
