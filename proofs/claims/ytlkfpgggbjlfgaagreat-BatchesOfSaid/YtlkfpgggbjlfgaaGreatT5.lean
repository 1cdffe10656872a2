/- Part of the theory that the claims of this work use: PwP, PwLib, D01, PavLink, L24, PwGlue, PwGlue2, G00, D02. No conditions of its own. -/
import Derived.Test.YtlkfpgggbjlfgaaGreatT4
import Derived.Laws.RangeAny
import Derived.Test.YtlkfpgggbjlfgaaGreatChecked
import Derived.KernelRfl
import Derived.ChangeSame
import Derived.ChangeArms
import Derived.ReadAgain
import Derived.Handed
import Derived.JoinedOf
import Derived.RowKit
import Derived.Test.YtlkfpgggbjlfgaaGreatRows
import Derived.ProofKit
set_option linter.unusedVariables false
set_option linter.unusedSimpArgs false
set_option maxHeartbeats 4000000
set_option maxRecDepth 10000
section
set_option maxRecDepth 100000
namespace P
open Go Go.Pav Go.Pw Go.Pw.Z Go.Pw.ZC
def w0:WFn:=⟨0,[],zd (O 0 [E .fail])⟩
def ru:aA:=zd (r (O 132 [m 7,h 1 3,h 2 5,h 1 6,ca 326 [133,134,135],ca 169 [132,136],eqi 137 1,m 138,y 139 (f 0 14),y 139 (l 1 140),y 139 (m 8),y 139 (ca 172 [141,142]),y 139 (eqi 143 1),pa 139 144,m 145,y 146 (ca 166 []),pa 146 147,d 4 (m 148)]))
def FZ:aA:=zd (O 106 [m 16,adi 106 1,d 16 (m 107)])
def Dt:aA:=zd (s (s (O 113 [m 17,f 3 11,l 1 114,m 16,ix 4 115 116,f 3 117,l 1 118,ln 1 119,lt 113 120]) (cc 121 (w .skip) (ee 2))) (s (B 3 (O 124 [f 3 11,l 1 124,m 16,ix 4 125 126,f 3 127,l 1 128,m 17,ix 1 129 130,n (E (.store 1 (T 131) (.c (.str [111,116,104,101,114]))))])) (R 122 [m 17,adi 122 1,d 17 (m 123)] ⟨true,[17,16,14,11,8,7,6,5,3],[(9999,65537)]⟩)))
def PI:aA:=.loop ⟨true,[17,16,14,11,8,7,6,5,3],[(9999,65537)]⟩ Dt
def qH:aA:=zd (s (s (O 101 [m 16,f 3 11,l 1 102,ln 1 103,lt 101 104]) (cc 105 (w .skip) (ee 0))) (s (bk 1 (s (R 108 [f 3 11,l 1 108,m 16,ix 4 109 110,f 0 111,n (E (.store 1 (T 112) (.c (.int .u64 0))))] ⟨true,[16,14,11,8,7,6,5,3],[(9999,65537)]⟩) (s (O 17 [i 0]) (bk 2 PI ⟨true,[16,14,11,8,7,6,5,3],[(9999,65537)]⟩))) ⟨true,[16,14,11,8,7,6,5,3],[(9999,65537)]⟩) FZ))
def yA:aA:=.loop ⟨true,[16,14,11,8,7,6,5,3],[(9999,65537)]⟩ qH
def aaT:WFn:=⟨2,[.tmp 4],zd (s (O 2 [bx 0,bx 1,ff]) (s (R 19 [h 3 2,ca 130 [19],d 18 (m 20),ex 0 18,ex 1 18,d 5 (E (.alloc [.ro 9 [] true,.int .i64 0])),d 6 (E (.alloc [.ro 6 [] true])),n (st 2 5 21),n (st 1 6 22)] ⟨true,[6,5,3],[(9999,65537)]⟩) (s (O 23 [h 1 3,h 2 5,h 1 6,ca 326 [23,24,25],d 7 (m 26)]) (s (O 28 [h 2 5,f 0 6,l 1 29,m 7,ca 170 [28,30,31],d 27 (m 32),ex 0 27,ex 1 27,ex 2 27,d 8 (m 33),d 9 (m 34),d 10 (m 35)]) (s (R 37 [h 2 5,h 1 6,m 7,ca 5052 [37,38,39],d 36 (m 40),ex 0 36,ex 1 36,ex 2 36,d 11 (E (.alloc [.int .i64 0,.ro 1 [] true,.ro 1 [] true,.ro 4 [] true])),n (st 4 11 41),d 12 (m 42),d 13 (m 43)] ⟨true,[13,12,11,10,9,8,7,6,5,3],[(9999,65537)]⟩) (s (s (O 44 [m 13,m 10,ne 44 45,m 46,z 47 (m 12),z 47 (m 9),z 47 (ne 48 49),po 47 50]) (c 51 (r (O 4 [ff])))) (s (s (O 52 [m 10,nei 52 0]) (c 53 (r (O 54 [h 4 11,E (.build [.int .i64 0,.ro 1 [] true,.ro 1 [] true,.ro 4 [] true] []),ca 182 [54,55],eqi 56 1,m 57,y 58 (ca 166 []),pa 58 59,d 4 (m 60)])))) (s (s (V 61 [h 4 11,f 0 6,l 1 62,m 7,ca 624 [63,64],ca 182 [61,65],h 4 11,ca 625 [67],E (.bin .mul (T 66) (T 68)),eqi 69 0,m 70,z 71 (h 4 11),z 71 (ca 180 [72]),z 71 (nei 73 0),po 71 74] [(0,4),(4,6),(5,6)] ⟨true,[75,11,8,7,6,5,3],[(9999,65537)]⟩) (c 75 (r (O 4 [ff])))) (s (O 77 [h 2 5,h 1 6,h 4 11,ca 6054 [77,78,79],d 76 (m 80),ex 0 76,ex 1 76,d 14 (E (.alloc [.ro 6 [] true])),n (st 1 14 81),d 15 (m 82)]) (s (s (R 83 [m 15,nei 83 0,m 84,z 85 (f 0 14),z 85 (l 1 86),z 85 (m 8),z 85 (ca 172 [87,88]),z 85 (eqi 89 0),po 85 90,m 91,z 92 (f 0 14),z 92 (l 1 93),z 92 (E (.cap (T 94))),z 92 (f 0 14),z 92 (l 1 96),z 92 (ln 1 97),z 92 (ne 95 98),po 92 99] ⟨true,[100,14,11,8,7,6,5,3],[(9999,65537)]⟩) (c 100 (r (O 4 [ff])))) (s (s (O 16 [i 0]) (bk 0 yA ⟨true,[14,8,7,6,5,3],[(9999,65537)]⟩)) ru)))))))))))⟩
@[simp] theorem aqj:ZL PI Dt ⟨true,[17,16,14,11,8,7,6,5,3],[(9999,65537)]⟩:=aX rfl
@[simp] theorem aql:ZL yA qH ⟨true,[16,14,11,8,7,6,5,3],[(9999,65537)]⟩:=aX rfl
def Hf:aA:=zd (r (V 68 [h 2 4,h 1 6,n (st 2 2 68),n (st 1 3 69)] [(1,2)] ⟨false,[],[]⟩))
def jJ:aA:=zd (s (s (O 17 [m 7,m 5,ln 1 18,lt 17 19]) (cc 20 (w .skip) (ee 0))) (s (B 1 (s (s (V 23 [h 2 4,m 5,m 7,ix 4 24 25,h 4 26,E (.call 271 [T 23,T 27,N 0]),gti 28 0] [] ⟨false,[],[]⟩) (c 29 (ee 1))) (s (U 30 [h 2 4,m 5,m 7,ix 4 31 32,h 4 33,ca 240 [30,34],d 8 (E (.alloc [.int .u64 0,.int .u8 0,.str [],.ro 1 [] true,.int .i64 0,.bool false])),n (st 6 8 35)] [(0,6),(4,6),(5,6)] [8,7,6,5,4,3,2,1]) (s (s (O 36 [f 0 6,l 1 36,ln 1 37,d 9 (m 38)]) (s (O 39 [m 9,f 1 1,l 1 40,ln 1 41,lt 39 42,m 43,y 44 (f 1 1),y 44 (l 1 45),y 44 (m 9),y 44 (ix 1 46 47),y 44 (l 1 48),y 44 (E (.bin .gtr (T 49) (.c (.int .u8 0)))),pa 44 50]) (c 51 (s (Q 52 [f 1 1,l 1 52,m 9,ix 1 53 54,l 1 55,E (.bin .rem (T 56) (.c (.int .u8 40))),E (.cvt .i64 (T 57)),E (.bin .add (N 1) (T 58)),f 4 8,n (st 1 60 59)] [8,7,6,5,4,3,2,1]) (O 61 [f 5 8,n (E (.store 1 (T 61) (.c (.bool true))))]))))) (O 62 [f 0 6,l 1 62,h 6 8,E (.aP [.int .u64 0,.int .u8 0,.str [],.ro 1 [] true,.int .i64 0,.bool false] 1 [(0,T 64)]),E (.app [.int .u64 0,.int .u8 0,.str [],.ro 1 [] true,.int .i64 0,.bool false] 72 false (T 63) (T 65)),f 0 6,n (st 1 67 66)]))))) (O 21 [m 7,adi 21 1,d 7 (m 22)])))
def QD:aA:=.loop ⟨true,[7,6,5,4,3,2,1],[]⟩ jJ
def af9:WFn:=⟨1,[.cell 2 2 true,.cell 3 1 true],zd (s (Q 1 [bx 0,E (.alloc [.ro 9 [] true,.int .i64 0]),E (.alloc [.ro 6 [] true])] [3,2,1]) (s (O 10 [f 2 1,l 1 10,ca 126 [11],E (.build [.ro 9 [] true,.int .i64 0] [(0,1,T 12),(1,1,N 12)]),d 4 (E (.alloc [.ro 9 [] true,.int .i64 0])),n (st 2 4 13)]) (s (O 14 [f 0 1,h 1 14,ca 270 [15],d 5 (m 16)]) (s (O 6 [E (.alloc [.ro 6 [] true])]) (s (s (O 7 [i 0]) (bk 0 QD ⟨true,[6,4,3,2],[]⟩)) Hf)))))⟩
@[simp] theorem aq0:ZL QD jJ ⟨true,[7,6,5,4,3,2,1],[]⟩:=aX rfl
noncomputable abbrev iQ (C:aH) (s:WSt):Option AV:=CK C 0 (aO [.cell 2 2 true,.cell 3 1 true]) [.sq QD,.bk 0 ⟨true,[6,4,3,2],[]⟩,.sq Hf] jJ s
def Hl:aA:=zd (r (O 48 [m 7,d 6 (m 48)]))
def yO:aA:=zd (s (s (O 15 [m 9,f 0 3,l 1 16,ln 1 17,lt 15 18,m 19,y 20 (m 9),y 20 (lti 21 6),pa 20 22]) (cc 23 (w .skip) (ee 0))) (s (B 1 (s (Q 26 [f 0 3,l 1 26,m 9,ix 5 27 28,h 5 29,m 8,m 9,ca 452 [30,31,32],d 10 (E (.alloc [.int .u8 0,.int .i64 0,.int .i64 0,.int .i64 0,.ro 4 [] true])),n (st 5 10 33)] [10,9,8,7,4,3]) (s (O 34 [m 7,h 5 10,E (.aP [.int .u8 0,.int .i64 0,.int .i64 0,.int .i64 0,.ro 4 [] true] 1 [(0,T 35)]),E (.app [.int .u8 0,.int .i64 0,.int .i64 0,.int .i64 0,.ro 4 [] true] 56 false (T 34) (T 36)),d 7 (m 37)]) (s (O 39 [h 2 4,m 8,h 5 10,ca 342 [39,40,41],d 38 (m 42),ex 0 38,ex 1 38,d 11 (m 43),d 12 (m 44)]) (s (O 45 [m 12,eqi 45 0]) (c 46 (O 47 [m 11,d 8 (m 47)]))))))) (O 24 [m 9,adi 24 1,d 9 (m 25)])))
def MV:aA:=.loop ⟨true,[9,8,7,4,3],[]⟩ yO
def aic:WFn:=⟨3,[.tmp 6],zd (s (O 3 [bx 0,bx 1,bx 2,E (.mv (.c (.ro 5 [] true)))]) (s (R 7 [E (.mv (.c (.ro 5 [] true)))] ⟨true,[7,5,4,3],[(7,5)]⟩) (s (O 13 [f 0 5,l 1 13,d 8 (m 14)]) (s (s (O 9 [i 0]) (bk 0 MV ⟨true,[7],[]⟩)) Hl))))⟩
@[simp] theorem apV:ZL MV yO ⟨true,[9,8,7,4,3],[]⟩:=aX rfl
noncomputable abbrev wY (C:aH) (s:WSt):Option AV:=CK C 0 (aO [.tmp 6]) [.sq MV,.bk 0 ⟨true,[7],[]⟩,.sq Hl] yO s
def NU:aA:=zd (r (O 36 [m 1,m 2,ln 1 37,d 6 (m 36),d 7 (m 38),d 8 (i 0)]))
def Af:aA:=zd (s (s (O 15 [m 9,m 2,ln 1 16,lt 15 17]) (cc 18 (w .skip) (ee 0))) (s (B 1 (s (U 22 [h 2 3,m 1,m 2,m 9,ix 5 24 25,h 5 26,ca 342 [22,23,27],d 21 (m 28),ex 0 21,ex 1 21,d 10 (m 29),d 11 (m 30)] [] [11,10,9,3,2]) (s (s (O 31 [m 11,gti 31 0]) (c 32 (r (O 6 [d 33 (m 9),d 34 (m 11),E (.mv (.c (.ro 6 [] true))),m 33,m 34])))) (O 35 [m 10,d 1 (m 35)])))) (O 19 [m 9,adi 19 1,d 9 (m 20)])))
def Qc:aA:=.loop ⟨true,[9,3,2,1],[]⟩ Af
def aeb:WFn:=⟨3,[.tmp 6,.tmp 7,.tmp 8],zd (s (O 6 [d 3 (bx 0),E (.mv (.c (.ro 6 [] true))),i 0,i 0]) (s (s (O 12 [m 2,ln 1 12,gti 13 32]) (c 14 (r (O 6 [E (.mv (.c (.ro 6 [] true))),i 0,i 3])))) (s (s (O 9 [i 0]) (bk 0 Qc ⟨true,[2,1],[]⟩)) NU)))⟩
@[simp] theorem aqy:ZL Qc Af ⟨true,[9,3,2,1],[]⟩:=aX rfl
noncomputable abbrev BA (C:aH) (s:WSt):Option AV:=CK C 0 (aO [.tmp 6,.tmp 7,.tmp 8]) [.sq Qc,.bk 0 ⟨true,[2,1],[]⟩,.sq NU] Af s
def afr:aA:=zd (r (O 94 [h 2 10,m 12,f 0 9,l 1 96,ca 360 [94,95,97],m 7,n (st 4 6 98),d 7 (m 99),d 8 (i 0)]))
def aiq:aA:=zd (O 93 [adi 46 1,d 46 (m 93)])
def ahY:aA:=zd (s (O 87 [h 2 10,h 2 15,ca 52 [87,88],d 86 (m 89),ex 0 86,ex 1 86,n (st 2 10 90)]) (O 92 [m 17,d 12 (m 92)]))
def Yb:aA:=zd (s (O 65 [lt 64 63]) (s (cc 65 (w .skip) (ee 2)) (s (B 3 (s (O 66 [m 64,ix 1 62 64,l 1 67,d 18 (m 66),d 19 (m 68)]) (Q 69 [m 17,m 18,m 19,lti 71 0,m 72,z 73 (m 12),z 73 (m 19),z 73 (ix 1 74 75),z 73 (l 1 76),po 73 77,m 78,z 79 (m 16),z 79 (m 18),z 79 (E (.dN (T 80) [T 81])),po 79 82,ix 1 69 70,n (st 1 84 83)] [64,63,62,46,45,44,17,16,15,12,10,9,7,6]))) (O 85 [adi 64 1,d 64 (m 85)]))))
def XV:aA:=.loop ⟨true,[64,63,62,46,45,44,17,16,15,12,10,9,7,6],[]⟩ Yb
def XE:aA:=zd (s (O 47 [lt 46 45]) (s (cc 47 (w .skip) (ee 0)) (s (bk 1 (s (O 48 [ix 5 44 46,h 5 48,d 14 (E (.alloc [.int .u8 0,.int .i64 0,.int .i64 0,.int .i64 0,.ro 4 [] true])),n (st 5 14 49)]) (s (Q 51 [h 5 14,m 12,ln 1 52,ca 525 [51,53],d 50 (m 54),ex 0 50,ex 1 50,d 15 (E (.alloc [.int .i64 0,.ro 1 [] true])),n (st 2 15 55),d 16 (m 56)] [46,45,44,16,15,12,10,9,7,6]) (s (O 57 [f 1 15,l 1 57,ln 1 58,E (.kE [.bool false] 1 (T 59) (T 59)),d 17 (m 60)]) (s (s (O 61 [f 1 15,l 1 61,ln 1 62,i 0]) (bk 2 XV ⟨true,[46,45,44,17,15,10,9,7,6],[]⟩)) ahY)))) ⟨true,[46,45,44,12,10,9,7,6],[]⟩) aiq)))
def YU:aA:=.loop ⟨true,[46,45,44,12,10,9,7,6],[]⟩ XE
def ape:WFn:=⟨3,[.cell 6 4 true,.tmp 7,.tmp 8],zd (s (O 6 [d 3 (bx 0),d 4 (bx 1),E (.alloc [.int .i64 0,.ro 1 [] true,.ro 1 [] true,.ro 4 [] true]),i 0,i 0]) (s (O 21 [h 2 3,h 1 4,m 2,ca 171 [21,22,23],d 20 (m 24),ex 0 20,ex 1 20,ex 2 20,d 9 (E (.alloc [.ro 6 [] true])),n (st 1 9 25),d 7 (m 26),d 8 (m 27)]) (s (s (O 28 [m 8,nei 28 0]) (c 29 (r (Q 30 [E (.build [.int .i64 0,.ro 1 [] true,.ro 1 [] true,.ro 4 [] true] []),m 7,m 8,n (st 4 6 30),d 7 (m 31),d 8 (m 32)] [8,7,6])))) (s (O 34 [f 0 4,l 1 34,ln 1 35,ca 65 [36],d 33 (m 37),ex 0 33,ex 1 33,d 10 (E (.alloc [.int .i64 0,.ro 1 [] true])),n (st 2 10 38),d 11 (m 39)]) (s (O 40 [f 0 4,l 1 40,ln 1 41,E (.kE [.bool false] 1 (T 42) (T 42)),d 12 (m 43)]) (s (s (O 44 [m 2,ln 1 44,i 0]) (bk 0 YU ⟨true,[12,10,9,7,6],[]⟩)) afr))))))⟩
@[simp] theorem aqQ:ZL XV Yb ⟨true,[64,63,62,46,45,44,17,16,15,12,10,9,7,6],[]⟩:=aX rfl
@[simp] theorem aqb:ZL YU XE ⟨true,[46,45,44,12,10,9,7,6],[]⟩:=aX rfl
def BM:aA:=zd (r (O 94 [h 2 10,m 12,f 0 9,l 1 96,ca 5051 [94,95,97],m 7,n (st 4 6 98),d 7 (m 99),d 8 (i 0)]))
def IB:aA:=zd (O 93 [adi 46 1,d 46 (m 93)])
def JE:aA:=zd (s (O 87 [h 2 10,h 2 15,ca 52 [87,88],d 86 (m 89),ex 0 86,ex 1 86,n (st 2 10 90)]) (O 92 [m 17,d 12 (m 92)]))
def wE:aA:=zd (s (O 65 [lt 64 63]) (s (cc 65 (w .skip) (ee 2)) (s (B 3 (s (O 66 [m 64,ix 1 62 64,l 1 67,d 18 (m 66),d 19 (m 68)]) (Q 69 [m 17,m 18,m 19,lti 71 0,m 72,z 73 (m 12),z 73 (m 19),z 73 (ix 1 74 75),z 73 (l 1 76),po 73 77,m 78,z 79 (m 16),z 79 (m 18),z 79 (E (.dN (T 80) [T 81])),po 79 82,ix 1 69 70,n (st 1 84 83)] [64,63,62,46,45,44,17,16,15,12,10,9,7,6]))) (O 85 [adi 64 1,d 64 (m 85)]))))
def Jg:aA:=.loop ⟨true,[64,63,62,46,45,44,17,16,15,12,10,9,7,6],[]⟩ wE
def wI:aA:=zd (s (O 47 [lt 46 45]) (s (cc 47 (w .skip) (ee 0)) (s (bk 1 (s (O 48 [ix 5 44 46,h 5 48,d 14 (E (.alloc [.int .u8 0,.int .i64 0,.int .i64 0,.int .i64 0,.ro 4 [] true])),n (st 5 14 49)]) (s (Q 51 [h 5 14,m 12,ln 1 52,ca 525 [51,53],d 50 (m 54),ex 0 50,ex 1 50,d 15 (E (.alloc [.int .i64 0,.ro 1 [] true])),n (st 2 15 55),d 16 (m 56)] [46,45,44,16,15,12,10,9,7,6]) (s (O 57 [f 1 15,l 1 57,ln 1 58,E (.kE [.bool false] 1 (T 59) (T 59)),d 17 (m 60)]) (s (s (O 61 [f 1 15,l 1 61,ln 1 62,i 0]) (bk 2 Jg ⟨true,[46,45,44,17,15,10,9,7,6],[]⟩)) JE)))) ⟨true,[46,45,44,12,10,9,7,6],[]⟩) IB)))
def AP:aA:=.loop ⟨true,[46,45,44,12,10,9,7,6],[]⟩ wI
def Hw:WFn:=⟨3,[.cell 6 4 true,.tmp 7,.tmp 8],zd (s (O 6 [d 3 (bx 0),d 4 (bx 1),E (.alloc [.int .i64 0,.ro 1 [] true,.ro 1 [] true,.ro 4 [] true]),i 0,i 0]) (s (O 21 [h 2 3,h 1 4,m 2,ca 171 [21,22,23],d 20 (m 24),ex 0 20,ex 1 20,ex 2 20,d 9 (E (.alloc [.ro 6 [] true])),n (st 1 9 25),d 7 (m 26),d 8 (m 27)]) (s (s (O 28 [m 8,nei 28 0]) (c 29 (r (Q 30 [E (.build [.int .i64 0,.ro 1 [] true,.ro 1 [] true,.ro 4 [] true] []),m 7,m 8,n (st 4 6 30),d 7 (m 31),d 8 (m 32)] [8,7,6])))) (s (O 34 [f 0 4,l 1 34,ln 1 35,ca 65 [36],d 33 (m 37),ex 0 33,ex 1 33,d 10 (E (.alloc [.int .i64 0,.ro 1 [] true])),n (st 2 10 38),d 11 (m 39)]) (s (O 40 [f 0 4,l 1 40,ln 1 41,E (.kE [.bool false] 1 (T 42) (T 42)),d 12 (m 43)]) (s (s (O 44 [m 2,ln 1 44,i 0]) (bk 0 AP ⟨true,[12,10,9,7,6],[]⟩)) BM))))))⟩
@[simp] theorem aod:ZL Jg wE ⟨true,[64,63,62,46,45,44,17,16,15,12,10,9,7,6],[]⟩:=aX rfl
@[simp] theorem aof:ZL AP wI ⟨true,[46,45,44,12,10,9,7,6],[]⟩:=aX rfl
def Ox:aA:=zd (r (O 73 [f 3 2,l 1 73,f 3 3,l 1 75,ca 357 [74,76],d 4 (m 77)]))
def Dn:aA:=zd (s (s (Q 55 [m 6,f 2 2,l 1 56,ln 1 57,lt 55 58] [59,6,3,2]) (cc 59 (w .skip) (ee 2))) (s (B 3 (s (V 62 [f 2 2,l 1 62,m 6,ix 1 63 64,l 1 65,f 2 3,l 1 67,m 6,ix 1 68 69,l 1 70,E (.eqv 5 [] true (T 66) (T 71))] [] ⟨false,[],[]⟩) (c 72 (r (O 4 [i 0]))))) (O 60 [m 6,adi 60 1,d 6 (m 61)])))
def PL:aA:=.loop ⟨true,[6,3,2],[]⟩ Dn
def PS:aA:=zd (s (s (O 6 [i 0]) (bk 2 PL ⟨true,[3,2],[]⟩)) Ox)
def Dp:aA:=zd (s (s (Q 34 [m 5,f 0 2,f 1 35,l 1 36,ln 1 37,lt 34 38] [39,5,3,2]) (cc 39 (w .skip) (ee 0))) (s (B 1 (s (V 42 [f 0 2,f 1 42,l 1 43,m 5,ix 1 44 45,l 1 46,f 0 3,f 1 48,l 1 49,m 5,ix 1 50 51,l 1 52,ne 47 53] [] ⟨false,[],[]⟩) (c 54 (r (O 4 [i 0]))))) (O 40 [m 5,adi 40 1,d 5 (m 41)])))
def NM:aA:=.loop ⟨true,[5,3,2],[]⟩ Dp
def UE:WFn:=⟨2,[.tmp 4],zd (s (O 2 [bx 0,bx 1,i 0]) (s (s (Q 7 [f 0 2,f 0 7,l 1 8,f 0 3,f 0 10,l 1 11,ne 9 12,m 13,z 14 (f 0 2),z 14 (f 1 15),z 14 (l 1 16),z 14 (ln 1 17),z 14 (f 0 3),z 14 (f 1 19),z 14 (l 1 20),z 14 (ln 1 21),z 14 (ne 18 22),po 14 23,m 24,z 25 (f 2 2),z 25 (l 1 26),z 25 (ln 1 27),z 25 (f 2 3),z 25 (l 1 29),z 25 (ln 1 30),z 25 (ne 28 31),po 25 32] [33,3,2]) (c 33 (r (O 4 [i 0])))) (s (s (O 5 [i 0]) (bk 0 NM ⟨true,[3,2],[]⟩)) PS)))⟩
@[simp] theorem apO:ZL PL Dn ⟨true,[6,3,2],[]⟩:=aX rfl
noncomputable abbrev Hr (C:aH) (s:WSt):Option AV:=CK C 0 (aO [.tmp 4]) [.sq PL,.bk 2 ⟨true,[3,2],[]⟩,.sq Ox] Dn s
@[simp] theorem aqH:ZL NM Dp ⟨true,[5,3,2],[]⟩:=aX rfl
noncomputable abbrev Gi (C:aH) (s:WSt):Option AV:=CK C 0 (aO [.tmp 4]) [.sq NM,.bk 0 ⟨true,[3,2],[]⟩,.sq PS] Dp s
def aoh:WFn:=⟨0,[.tmp 0],zd (s (O 0 [ff]) (s (O 2 [E (.build [.int .u8 0,.int .i64 0,.int .i64 0,.int .i64 0,.ro 4 [] true] [(0,1,.c (.int .u8 3)),(2,1,N 1),(3,1,N 2)]),E (.aP [.int .u64 0] 1 [(0,.c (.int .u64 2))]),ca 328 [3],E (.build [.int .u8 0,.int .i64 0,.int .i64 0,.int .i64 0,.ro 4 [] true] [(0,1,.c (.int .u8 4)),(4,1,T 4)]),E (.aP [.int .u8 0,.int .i64 0,.int .i64 0,.int .i64 0,.ro 4 [] true] 2 [(0,T 2),(1,T 5)]),d 1 (m 6)]) (s (s (Q 7 [E (.call 330 [N 0,N 1]),E (.aP [.int .u64 0] 1 [(0,.c (.int .u64 9))]),E (.call 331 [N 2,T 8]),E (.aP [.int .u8 0,.int .i64 0,.int .i64 0,.int .i64 0,.ro 4 [] true] 2 [(0,T 7),(1,T 9)]),E (.aP [.int .i64 0] 3 [(0,N 1),(1,N 2),(2,N (-1))]),E (.aP [.int .i64 0] 3 [(0,N 0),(1,N 0),(2,N 1)]),ca 329 [10,11,12],m 1,E (.aP [.int .i64 0] 3 [(0,N 1),(1,N 2),(2,N 0)]),E (.aP [.int .i64 0] 3 [(0,N 1),(1,N 0),(2,N 0)]),ca 329 [14,15,16],E (.bin .mul (T 13) (T 17)),E (.call 330 [N 0,N 1]),E (.aP [.int .u64 0] 1 [(0,.c (.int .u64 1))]),E (.call 331 [N 0,T 20]),E (.aP [.int .u8 0,.int .i64 0,.int .i64 0,.int .i64 0,.ro 4 [] true] 2 [(0,T 19),(1,T 21)]),E (.aP [.int .i64 0] 3 [(0,N (-1)),(1,N 1),(2,N 2)]),E (.aP [.int .i64 0] 3 [(0,N 1),(1,N 0),(2,N 0)]),ca 329 [22,23,24],E (.bin .mul (T 18) (T 25)),eqi 26 0] [27]) (c 27 (r (O 0 [ff])))) (s (s (O 28 [E (.aP [.int .u64 0] 2 [(0,.c (.int .u64 5)),(1,.c (.int .u64 6))]),E (.call 331 [N 1,T 28]),E (.aP [.int .u64 0] 1 [(0,.c (.int .u64 7))]),E (.call 331 [N 2,T 30]),E (.call 330 [N 0,N 0]),E (.build [.int .u8 0,.int .i64 0,.int .i64 0,.int .i64 0,.ro 4 [] true] [(0,1,.c (.int .u8 3)),(1,1,N 3),(2,1,N 1),(3,1,N 3)]),E (.aP [.int .u8 0,.int .i64 0,.int .i64 0,.int .i64 0,.ro 4 [] true] 4 [(0,T 29),(1,T 31),(2,T 32),(3,T 33)]),E (.aP [.int .u64 0] 3 [(0,.c (.int .u64 5)),(1,.c (.int .u64 7)),(2,.c (.int .u64 6))]),E (.call 331 [N 1,T 35]),E (.aP [.int .u8 0,.int .i64 0,.int .i64 0,.int .i64 0,.ro 4 [] true] 1 [(0,T 36)]),ca 332 [34,37],eqi 38 0]) (c 39 (r (O 0 [ff])))) (s (s (Q 40 [E (.call 330 [N 4,N 2]),E (.call 330 [N 3,N 1]),E (.aP [.int .u8 0,.int .i64 0,.int .i64 0,.int .i64 0,.ro 4 [] true] 2 [(0,T 40),(1,T 41)]),E (.call 330 [N 3,N 3]),E (.aP [.int .u8 0,.int .i64 0,.int .i64 0,.int .i64 0,.ro 4 [] true] 1 [(0,T 43)]),ca 332 [42,44],E (.call 330 [N 4,N 2]),E (.call 330 [N 4,N 1]),E (.aP [.int .u8 0,.int .i64 0,.int .i64 0,.int .i64 0,.ro 4 [] true] 2 [(0,T 46),(1,T 47)]),E (.call 330 [N 4,N 3]),E (.aP [.int .u8 0,.int .i64 0,.int .i64 0,.int .i64 0,.ro 4 [] true] 1 [(0,T 49)]),ca 332 [48,50],E (.bin .mul (T 45) (T 51)),E (.call 330 [N 4,N 2]),E (.call 330 [N 2,N 1]),E (.aP [.int .u8 0,.int .i64 0,.int .i64 0,.int .i64 0,.ro 4 [] true] 2 [(0,T 53),(1,T 54)]),E (.call 330 [N 4,N 2]),E (.call 330 [N 2,N 1]),E (.aP [.int .u8 0,.int .i64 0,.int .i64 0,.int .i64 0,.ro 4 [] true] 2 [(0,T 56),(1,T 57)]),ca 332 [55,58],E (.bin .mul (T 52) (T 59)),eqi 60 0] [61]) (c 61 (r (O 0 [ff])))) (r (O 62 [E (.call 330 [N 0,N 1]),E (.aP [.int .u64 0] 2 [(0,.c (.int .u64 1)),(1,.c (.int .u64 2))]),ca 328 [63],E (.build [.int .u8 0,.int .i64 0,.int .i64 0,.int .i64 0,.ro 4 [] true] [(0,1,.c (.int .u8 5)),(4,1,T 64)]),E (.aP [.int .u64 0] 1 [(0,.c (.int .u64 3))]),E (.call 331 [N 1,T 66]),E (.call 330 [N 0,N 1]),E (.aP [.int .u8 0,.int .i64 0,.int .i64 0,.int .i64 0,.ro 4 [] true] 4 [(0,T 62),(1,T 65),(2,T 67),(3,T 68)]),E (.aP [.int .u64 0] 2 [(0,.c (.int .u64 3)),(1,.c (.int .u64 2))]),ca 328 [70],E (.build [.int .u8 0,.int .i64 0,.int .i64 0,.int .i64 0,.ro 4 [] true] [(0,1,.c (.int .u8 5)),(4,1,T 71)]),E (.aP [.int .u8 0,.int .i64 0,.int .i64 0,.int .i64 0,.ro 4 [] true] 1 [(0,T 72)]),ca 332 [69,73],eqi 74 1,d 0 (m 75)])))))))⟩
def Hg:aA:=zd (r (O 36 [m 0,ln 1 36,m 5,ca 362 [37,38],n (st 4 4 39)]))
def uH:aA:=zd (s (s (O 24 [m 7,m 1,ln 1 25,lt 24 26]) (cc 27 (w .skip) (ee 2))) (s (B 3 (O 30 [m 5,m 1,m 7,ix 5 31 32,h 5 33,ca 627 [30,34],d 5 (m 35)])) (O 28 [m 7,adi 28 1,d 7 (m 29)])))
def MI:aA:=.loop ⟨true,[7,5,4,1,0],[]⟩ uH
def FN:aA:=zd (s (s (O 7 [i 0]) (bk 2 MI ⟨true,[5,4,0],[]⟩)) Hg)
def xQ:aA:=zd (s (s (O 8 [m 6,m 0,ln 1 9,lt 8 10]) (cc 11 (w .skip) (ee 0))) (s (B 1 (Q 14 [m 5,m 6,m 0,m 6,ix 6 16 17,f 0 18,h 4 19,E (.build [.int .i64 0,.int .i64 0,.int .u64 0,.int .u8 0,.str [],.ro 1 [] true] [(0,1,T 15),(2,4,T 20)]),E (.aP [.int .i64 0,.int .i64 0,.int .u64 0,.int .u8 0,.str [],.ro 1 [] true] 1 [(0,T 21)]),E (.app [.int .i64 0,.int .i64 0,.int .u64 0,.int .u8 0,.str [],.ro 1 [] true] 72 false (T 14) (T 22)),d 5 (m 23)] [6,5,4,1,0])) (O 12 [m 6,adi 12 1,d 6 (m 13)])))
def OI:aA:=.loop ⟨true,[6,5,4,1,0],[]⟩ xQ
def agt:WFn:=⟨2,[.cell 4 4 true],zd (s (O 4 [E (.alloc [.int .i64 0,.ro 1 [] true,.ro 1 [] true,.ro 4 [] true])]) (s (R 5 [E (.mv (.c (.ro 6 [] true)))] ⟨true,[5,4,1,0],[(5,6)]⟩) (s (s (O 6 [i 0]) (bk 0 OI ⟨true,[5,4,1,0],[]⟩)) FN)))⟩
@[simp] theorem apY:ZL MI uH ⟨true,[7,5,4,1,0],[]⟩:=aX rfl
noncomputable abbrev FC (C:aH) (s:WSt):Option AV:=CK C 0 (aO [.cell 4 4 true]) [.sq MI,.bk 2 ⟨true,[5,4,0],[]⟩,.sq Hg] uH s
@[simp] theorem ard:ZL OI xQ ⟨true,[6,5,4,1,0],[]⟩:=aX rfl
noncomputable abbrev Bv (C:aH) (s:WSt):Option AV:=CK C 0 (aO [.cell 4 4 true]) [.sq OI,.bk 0 ⟨true,[5,4,1,0],[]⟩,.sq FN] xQ s
def acM:WFn:=⟨1,[.tmp 2],zd (s (O 1 [bx 0,i 0]) (s (s (Q 3 [f 0 1,f 1 3,l 1 4,E (.cap (T 5)),f 0 1,f 1 7,l 1 8,ln 1 9,ne 6 10,m 11,z 12 (f 2 1),z 12 (l 1 13),z 12 (E (.cap (T 14))),z 12 (f 2 1),z 12 (l 1 16),z 12 (ln 1 17),z 12 (ne 15 18),po 12 19,m 20,z 21 (f 3 1),z 21 (l 1 22),z 21 (E (.cap (T 23))),z 21 (f 3 1),z 21 (l 1 25),z 21 (ln 1 26),z 21 (ne 24 27),po 21 28] [29]) (c 29 (r (O 2 [i 0])))) (r (O 2 [i 1]))))⟩
def GY:aA:=zd (s (s (O 40 [m 4,f 3 1,l 1 41,ln 1 42,ne 40 43]) (c 44 (r (O 2 [i 1])))) (r (O 2 [i 0])))
def Ar:aA:=zd (s (O 25 [lt 24 23]) (s (cc 25 (w .skip) (ee 0)) (s (B 1 (s (Q 26 [m 24,ix 1 22 24,l 1 27,d 5 (m 26),d 6 (m 28)] [24,23,22,6,5,4,1]) (s (O 29 [m 6]) (cc 29 (O 30 [m 4,adi 30 1,d 4 (m 31)]) (s (O 32 [f 0 1,f 1 32,l 1 33,m 5,ix 1 34 35,l 1 36,lti 37 0]) (c 38 (r (O 2 [i 1])))))))) (O 39 [adi 24 1,d 24 (m 39)]))))
def MW:aA:=.loop ⟨true,[24,23,22,4,1],[]⟩ Ar
def aar:WFn:=⟨1,[.tmp 2],zd (s (Q 1 [bx 0,i 0] [1]) (s (s (O 7 [f 0 1,h 2 7,ca 56 [8],d 3 (m 9)]) (s (O 10 [m 3,nei 10 0]) (c 11 (r (O 12 [m 3,d 2 (m 12)]))))) (s (s (O 13 [f 2 1,l 1 13,ln 1 14,f 0 1,f 1 16,l 1 17,ln 1 18,ne 15 19]) (c 20 (r (O 2 [i 1])))) (s (O 4 [i 0]) (s (s (O 21 [f 2 1,l 1 21,ln 1 22,i 0]) (bk 0 MW ⟨true,[4,1],[]⟩)) GY)))))⟩
@[simp] theorem aq2:ZL MW Ar ⟨true,[24,23,22,4,1],[]⟩:=aX rfl
noncomputable abbrev wS (C:aH) (s:WSt):Option AV:=CK C 0 (aO [.tmp 2]) [.sq MW,.bk 0 ⟨true,[4,1],[]⟩,.sq GY] Ar s
def nP:aA:=zd (s (s (O 130 [h 2 3,h 1 10,ca 223 [130,131],d 15 (m 132)]) (s (O 133 [m 15,nei 133 0]) (c 134 (r (O 135 [E (.build [.ro 6 [] true] []),m 15,n (st 1 6 135),d 7 (m 136)]))))) (r (O 137 [f 0 10,l 1 137,ca 2053 [138],E (.build [.ro 6 [] true] [(0,1,T 139)]),n (st 1 6 140),d 7 (i 0)])))
def lq:aA:=zd (s (O 50 [lt 49 48]) (s (cc 50 (w .skip) (ee 0)) (s (B 1 (s (O 51 [m 49,ix 1 47 49,l 1 52,d 12 (m 51),d 13 (m 53)]) (s (s (O 54 [f 2 5,l 1 54,m 12,ix 1 55 56,l 1 57,nt 58]) (c 59 (s (V 60 [f 0 10,l 1 60,m 12,f 0 4,l 1 63,m 13,ix 6 64 65,h 6 66,ix 6 61 62,n (st 6 68 67)] [] ⟨false,[],[]⟩) (s (V 69 [f 0 10,l 1 69,m 12,f 0 4,l 1 72,m 13,ix 6 73 74,f 0 75,h 4 76,E (.aP [.int .u64 0,.int .u8 0,.str [],.ro 1 [] true] 1 [(0,T 77)]),ca 5044 [78],E (.idxs 4 (T 79) (N 0)),h 4 80,ix 6 70 71,f 0 82,n (st 4 83 81)] [(1,9),(1,10)] ⟨true,[49,48,47,11,10,6,5,4,3],[(9999,65537)]⟩) (ee 1))))) (s (O 84 [m 11,E (.idxs 4 (T 84) (N 0)),h 4 85,d 14 (E (.alloc [.int .u64 0,.int .u8 0,.str [],.ro 1 [] true])),n (st 4 14 86)]) (s (O 87 [m 11,E (.slice 4 (T 87) (some (N 1)) none none),d 11 (m 88)]) (s (s (V 89 [m 13,gei 89 0,m 90,y 91 (f 0 4),y 91 (l 1 92),y 91 (m 13),y 91 (ix 6 93 94),y 91 (f 0 95),y 91 (f 0 96),y 91 (l 1 97),y 91 (f 0 14),y 91 (l 1 99),y 91 (ne 98 100),pa 91 101] [] ⟨true,[102,49,48,47,14,12,11,10,6,5,4,3],[(9999,65537)]⟩) (c 102 (r (O 103 [E (.build [.ro 6 [] true] []),n (st 1 6 103),d 7 (i 9)])))) (s (O 104 [f 0 10,l 1 104,m 12,h 4 14,ix 6 105 106,f 0 108,n (st 4 109 107)]) (s (O 110 [f 1 14,l 1 110,E (.cvt .i64 (T 111)),f 0 3,l 1 113,ln 1 114,lt 112 115]) (c 116 (V 117 [f 0 10,l 1 117,m 12,f 0 3,l 1 120,f 1 14,l 1 122,ix 9 121 123,f 6 124,l 1 125,ix 6 118 119,f 4 127,n (st 1 128 126)] [] ⟨true,[49,48,47,11,10,6,5,4,3],[(9999,65537)]⟩)))))))))) (O 129 [adi 49 1,d 49 (m 129)]))))
def oU:aA:=.loop ⟨true,[49,48,47,11,10,6,5,4,3],[(9999,65537)]⟩ lq
def XH:WFn:=⟨3,[.cell 6 1 true,.tmp 7],zd (s (O 3 [bx 0,bx 1,bx 2,E (.alloc [.ro 6 [] true]),i 0]) (s (s (O 16 [h 2 3,h 1 4,ca 223 [16,17],d 8 (m 18)]) (s (O 19 [m 8,nei 19 0]) (c 20 (r (O 21 [E (.build [.ro 6 [] true] []),m 8,n (st 1 6 21),d 7 (m 22)]))))) (s (s (O 23 [h 4 5,ca 180 [23],d 9 (m 24)]) (s (O 25 [m 9,nei 25 0]) (c 26 (r (R 27 [E (.build [.ro 6 [] true] []),m 9,n (st 1 6 27),d 7 (m 28)] ⟨true,[7,6],[(9999,65537)]⟩))))) (s (s (O 29 [f 0 5,f 0 29,l 1 30,f 0 4,l 1 32,ln 1 33,ne 31 34]) (c 35 (r (O 36 [E (.build [.ro 6 [] true] []),n (st 1 6 36),d 7 (i 1)])))) (s (O 37 [f 2 5,l 1 37,ln 1 38,E (.kE [.int .u64 0,.int .u8 0,.str [],.ro 1 [] true,.int .i64 0,.bool false] 72 (T 39) (T 39)),E (.build [.ro 6 [] true] [(0,1,T 40)]),d 10 (E (.alloc [.ro 6 [] true])),n (st 1 10 41)]) (s (O 42 [f 3 5,l 1 42,ca 5044 [43],d 11 (m 44)]) (s (s (R 45 [f 0 5,f 1 45,l 1 46,ln 1 47,i 0] ⟨true,[49,48,47,11,10,6,5,4,3],[(9999,65537)]⟩) (bk 0 oU ⟨true,[10,6,3],[(9999,65537)]⟩)) nP)))))))⟩
@[simp] theorem aor:ZL oU lq ⟨true,[49,48,47,11,10,6,5,4,3],[(9999,65537)]⟩:=aX rfl
def OE:aA:=zd (r (O 4 [i 1]))
def qE:aA:=zd (s (s (O 11 [m 5,m 0,ln 1 12,lt 11 13]) (cc 14 (w .skip) (ee 0))) (s (B 1 (s (U 17 [m 0,m 5,ix 6 17 18,f 4 19,l 1 20,m 1,m 5,ix 6 22 23,f 4 24,l 1 25,ne 21 26,m 27,z 28 (m 0),z 28 (m 5),z 28 (ix 6 29 30),z 28 (f 5 31),z 28 (l 1 32),z 28 (m 1),z 28 (m 5),z 28 (ix 6 34 35),z 28 (f 5 36),z 28 (l 1 37),z 28 (E (.eqv 5 [] true (T 33) (T 38))),po 28 39,m 40,z 41 (m 0),z 41 (m 5),z 41 (ix 6 42 43),z 41 (f 0 44),z 41 (h 4 45),z 41 (m 1),z 41 (m 5),z 41 (ix 6 47 48),z 41 (f 0 49),z 41 (h 4 50),z 41 (ca 112 [46,51]),z 41 (eqi 52 0),po 41 53] [] [54,5,1,0]) (c 54 (r (O 4 [i 0]))))) (O 15 [m 5,adi 15 1,d 5 (m 16)])))
def Qw:aA:=.loop ⟨true,[5,1,0],[]⟩ qE
def abP:WFn:=⟨2,[.tmp 4],zd (s (O 4 [i 0]) (s (s (O 6 [m 0,ln 1 6,m 1,ln 1 8,ne 7 9]) (c 10 (r (O 4 [i 0])))) (s (s (O 5 [i 0]) (bk 0 Qw ⟨true,[],[]⟩)) OE)))⟩
@[simp] theorem apz:ZL Qw qE ⟨true,[5,1,0],[]⟩:=aX rfl
noncomputable abbrev uI (C:aH) (s:WSt):Option AV:=CK C 0 (aO [.tmp 4]) [.sq Qw,.bk 0 ⟨true,[],[]⟩,.sq OE] qE s
def Pv:aA:=zd (r (O 4 [i 1]))
def zQ:aA:=zd (s (s (O 11 [m 5,m 0,ln 1 12,lt 11 13]) (cc 14 (w .skip) (ee 0))) (s (B 1 (s (V 17 [m 0,m 5,ix 5 17 18,h 5 19,m 1,m 5,ix 5 21 22,h 5 23,ca 341 [20,24],eqi 25 0] [] ⟨false,[],[]⟩) (c 26 (r (O 4 [i 0]))))) (O 15 [m 5,adi 15 1,d 5 (m 16)])))
def MN:aA:=.loop ⟨true,[5,1,0],[]⟩ zQ
def ahX:WFn:=⟨2,[.tmp 4],zd (s (O 4 [i 0]) (s (s (Q 6 [m 0,ln 1 6,m 1,ln 1 8,ne 7 9] [10,1,0]) (c 10 (r (O 4 [i 0])))) (s (s (O 5 [i 0]) (bk 0 MN ⟨true,[],[]⟩)) Pv)))⟩
@[simp] theorem apS:ZL MN zQ ⟨true,[5,1,0],[]⟩:=aX rfl
noncomputable abbrev Fg (C:aH) (s:WSt):Option AV:=CK C 0 (aO [.tmp 4]) [.sq MN,.bk 0 ⟨true,[],[]⟩,.sq Pv] zQ s
def aot:WFn:=⟨2,[.tmp 4],zd (s (O 4 [i 0]) (s (O 8 [m 0,ca 168 [8],d 7 (m 9),ex 0 7,ex 1 7,d 5 (m 10),d 6 (m 11)]) (s (s (O 12 [m 6,nei 12 0]) (c 13 (r (O 4 [i 0])))) (r (O 14 [m 5,m 1,ca 169 [14,15],d 4 (m 16)])))))⟩
def apn:WFn:=⟨2,[.cell 4 5 true],zd (s (O 4 [E (.alloc [.int .u8 0,.int .i64 0,.int .i64 0,.int .i64 0,.ro 4 [] true])]) (r (O 5 [m 0,m 1,E (.build [.int .u8 0,.int .i64 0,.int .i64 0,.int .i64 0,.ro 4 [] true] [(0,1,.c (.int .u8 2)),(1,1,T 5),(2,1,T 6)]),n (st 5 4 7)])))⟩
def afG:aA:=zd (r (O 19 [m 3,d 2 (m 19)]))
def Xn:aA:=zd (s (s (O 5 [m 4,m 0,ln 1 6,lt 5 7]) (cc 8 (w .skip) (ee 0))) (s (B 1 (O 11 [m 3,m 0,m 4,ix 1 12 13,l 1 14,E (.build [.int .u64 0,.int .u8 0,.str [],.ro 1 [] true] [(0,1,T 15)]),E (.aP [.int .u64 0,.int .u8 0,.str [],.ro 1 [] true] 1 [(0,T 16)]),E (.app [.int .u64 0,.int .u8 0,.str [],.ro 1 [] true] 56 false (T 11) (T 17)),d 3 (m 18)])) (O 9 [m 4,adi 9 1,d 4 (m 10)])))
def XQ:aA:=.loop ⟨true,[4,3,0],[]⟩ Xn
def an6:WFn:=⟨1,[.tmp 2],zd (s (O 2 [E (.mv (.c (.ro 4 [] true)))]) (s (R 3 [E (.mv (.c (.ro 4 [] true)))] ⟨true,[3,0],[(3,4)]⟩) (s (s (O 4 [i 0]) (bk 0 XQ ⟨true,[3],[]⟩)) afG)))⟩
@[simp] theorem apy:ZL XQ Xn ⟨true,[4,3,0],[]⟩:=aX rfl
def anu:WFn:=⟨2,[.cell 4 5 true],zd (s (O 4 [E (.alloc [.int .u8 0,.int .i64 0,.int .i64 0,.int .i64 0,.ro 4 [] true])]) (r (O 5 [m 0,m 1,ca 328 [6],E (.build [.int .u8 0,.int .i64 0,.int .i64 0,.int .i64 0,.ro 4 [] true] [(0,1,.c (.int .u8 1)),(1,1,T 5),(4,1,T 7)]),n (st 5 4 8)])))⟩
def aow:WFn:=⟨0,[.cell 0 2 true,.cell 1 1 true],zd (s (Q 0 [E (.alloc [.ro 9 [] true,.int .i64 0]),E (.alloc [.ro 6 [] true])] [1,0]) (s (O 5 [E (.build [.int .u8 0,.str [],.str [],.ro 3 [] true,.str [],.ro 6 [] true] [(0,1,.c (.int .u8 1)),(1,1,.c (.str [114,111,119]))]),E (.build [.int .u8 0,.str [],.str [],.ro 3 [] true,.str [],.ro 6 [] true,.int .i64 0,.bool false,.int .i64 0] [(0,6,T 5),(6,1,N 10)]),E (.aP [.int .u8 0,.str [],.str [],.ro 3 [] true,.str [],.ro 6 [] true,.int .i64 0,.bool false,.int .i64 0] 1 [(0,T 6)]),E (.build [.ro 9 [] true,.int .i64 0] [(0,1,T 7),(1,1,N 1)]),d 2 (E (.alloc [.ro 9 [] true,.int .i64 0])),n (st 2 2 8)]) (s (O 10 [h 2 2,E (.build [.ro 6 [] true] []),E (.build [.int .u64 0,.int .u8 0,.str [],.ro 1 [] true] [(0,1,.c (.int .u64 1))]),E (.build [.int .u64 0,.int .u8 0,.str [],.ro 1 [] true] [(0,1,.c (.int .u64 2))]),E (.build [.int .u64 0,.int .u8 0,.str [],.ro 1 [] true] [(0,1,.c (.int .u64 3))]),E (.aP [.int .u64 0,.int .u8 0,.str [],.ro 1 [] true] 3 [(0,T 12),(1,T 13),(2,T 14)]),ca 108 [10,11,15],d 9 (m 16),ex 0 9,ex 1 9,d 3 (E (.alloc [.ro 6 [] true])),n (st 1 3 17),d 4 (m 18)]) (r (V 19 [h 2 2,h 1 3,n (st 2 0 19),n (st 1 1 20)] [(1,2)] ⟨false,[],[]⟩)))))⟩
def ahm:aA:=zd (r (O 2 [d 86 (m 7),m 86,i 0]))
def X5:aA:=zd (s (O 73 [lt 72 71]) (s (cc 73 (w .skip) (ee 5)) (s (B 6 (s (O 74 [m 72,d 12 (m 74)]) (O 75 [m 7,m 12,m 7,m 12,ix 5 77 78,f 4 79,l 1 80,ca 340 [81],ix 5 75 76,f 4 83,n (st 1 84 82)]))) (O 85 [adi 72 1,d 72 (m 85)]))))
def Y1:aA:=.loop ⟨true,[72,71,7],[]⟩ X5
def afR:aA:=zd (s (Q 68 [m 7,ca 3007 [68],d 7 (m 69)] [7]) (s (s (O 70 [m 7,ln 1 70,i 0]) (bk 5 Y1 ⟨true,[7],[]⟩)) ahm))
def Yc:aA:=zd (s (O 31 [lt 30 29]) (s (cc 31 (w .skip) (ee 2)) (s (B 3 (s (O 32 [ix 5 28 30,h 5 32,d 9 (E (.alloc [.int .u8 0,.int .i64 0,.int .i64 0,.int .i64 0,.ro 4 [] true])),n (st 5 9 33)]) (s (B 4 (s (O 35 [h 5 9,ca 337 [35],d 34 (m 36)]) (cc 34 (ee 3) (s (O 38 [f 0 9,l 1 38,E (.bin .eql (T 39) (.c (.int .u8 5))),d 37 (m 40)]) (cc 37 (R 7 [E (.mv (.c (.ro 5 [] true)))] ⟨true,[30,29,28,9,7],[(7,5)]⟩) (s (O 42 [m 7,ln 1 42,gti 43 0,d 41 (m 44)]) (c 41 (s (U 46 [m 7,m 7,ln 1 47,sbi 48 1,ix 5 46 49,h 5 50,h 5 9,ca 338 [51,52],d 45 (m 53),ex 0 45,ex 1 45,d 10 (E (.alloc [.int .u8 0,.int .i64 0,.int .i64 0,.int .i64 0,.ro 4 [] true])),n (st 5 10 54),d 11 (m 55)] [(2,11),(5,11),(6,11),(7,11)] [30,29,28,11,10,9,7]) (s (O 56 [m 11]) (c 56 (s (O 57 [m 7,m 7,ln 1 58,sbi 59 1,h 5 10,ix 5 57 60,n (st 5 62 61)]) (ee 3)))))))))))) (O 63 [m 7,h 5 9,E (.aP [.int .u8 0,.int .i64 0,.int .i64 0,.int .i64 0,.ro 4 [] true] 1 [(0,T 64)]),E (.app [.int .u8 0,.int .i64 0,.int .i64 0,.int .i64 0,.ro 4 [] true] 56 false (T 63) (T 65)),d 7 (m 66)])))) (O 67 [adi 30 1,d 30 (m 67)]))))
def XI:aA:=.loop ⟨true,[30,29,28,7],[]⟩ Yc
def ahD:aA:=zd (s (R 7 [E (.mv (.c (.ro 5 [] true)))] ⟨true,[7,0],[(7,5)]⟩) (s (s (O 28 [m 0,ln 1 28,i 0]) (bk 2 XI ⟨true,[7],[]⟩)) afR))
def YR:aA:=zd (s (O 19 [lt 18 17]) (s (cc 19 (w .skip) (ee 0)) (s (B 1 (s (O 20 [ix 5 16 18,h 5 20,d 5 (E (.alloc [.int .u8 0,.int .i64 0,.int .i64 0,.int .i64 0,.ro 4 [] true])),n (st 5 5 21)]) (s (O 22 [h 5 5,ca 336 [22],d 6 (m 23)]) (s (O 24 [m 6,nei 24 0]) (c 25 (r (Q 2 [d 26 (m 6),E (.mv (.c (.ro 5 [] true))),m 26] [3,2]))))))) (O 27 [adi 18 1,d 18 (m 27)]))))
def Xz:aA:=.loop ⟨true,[18,17,16,0],[]⟩ YR
def aoB:WFn:=⟨1,[.tmp 2,.tmp 3],zd (s (O 2 [E (.mv (.c (.ro 5 [] true))),i 0]) (s (s (O 13 [m 0,ln 1 13,gti 14 32]) (c 15 (r (O 2 [E (.mv (.c (.ro 5 [] true))),i 3])))) (s (s (O 16 [m 0,ln 1 16,i 0]) (bk 0 Xz ⟨true,[0],[]⟩)) ahD)))⟩
@[simp] theorem apv:ZL Y1 X5 ⟨true,[72,71,7],[]⟩:=aX rfl
@[simp] theorem aqO:ZL XI Yc ⟨true,[30,29,28,7],[]⟩:=aX rfl
@[simp] theorem apK:ZL Xz YR ⟨true,[18,17,16,0],[]⟩:=aX rfl
def Oo:aA:=zd (r (O 4 [i 1]))
def Aw:aA:=zd (s (s (O 11 [m 5,m 0,ln 1 12,lt 11 13]) (cc 14 (w .skip) (ee 0))) (s (B 1 (s (V 17 [m 0,m 5,ix 4 17 18,h 4 19,m 1,m 5,ix 4 21 22,h 4 23,ca 112 [20,24],eqi 25 0] [] ⟨false,[],[]⟩) (c 26 (r (O 4 [i 0]))))) (O 15 [m 5,adi 15 1,d 5 (m 16)])))
def Na:aA:=.loop ⟨true,[5,1,0],[]⟩ Aw
def aes:WFn:=⟨2,[.tmp 4],zd (s (O 4 [i 0]) (s (s (Q 6 [m 0,ln 1 6,m 1,ln 1 8,ne 7 9] [10,1,0]) (c 10 (r (O 4 [i 0])))) (s (s (O 5 [i 0]) (bk 0 Na ⟨true,[],[]⟩)) Oo)))⟩
@[simp] theorem ap7:ZL Na Aw ⟨true,[5,1,0],[]⟩:=aX rfl
noncomputable abbrev G5 (C:aH) (s:WSt):Option AV:=CK C 0 (aO [.tmp 4]) [.sq Na,.bk 0 ⟨true,[],[]⟩,.sq Oo] Aw s
def Ql:aA:=zd (r (O 49 [h 1 6,m 2,ln 1 50,m 8,n (st 1 6 49),d 7 (m 51),d 8 (m 52)]))
def AL:aA:=zd (s (O 32 [lt 31 30]) (s (cc 32 (w .skip) (ee 0)) (s (B 1 (s (O 33 [m 31,ix 5 29 31,h 5 34,d 11 (E (.alloc [.int .u8 0,.int .i64 0,.int .i64 0,.int .i64 0,.ro 4 [] true])),d 10 (m 33),n (st 5 11 35)]) (s (Q 37 [h 2 3,h 1 6,h 5 11,ca 343 [37,38,39],d 36 (m 40),ex 0 36,ex 1 36,n (st 1 6 41),d 8 (m 42)] [31,30,29,10,8,6,3,2]) (s (O 43 [m 8,nei 43 0]) (c 44 (r (O 45 [E (.build [.ro 6 [] true] []),m 10,m 8,n (st 1 6 45),d 7 (m 46),d 8 (m 47)]))))))) (O 48 [adi 31 1,d 31 (m 48)]))))
def Mc:aA:=.loop ⟨true,[31,30,29,8,6,3,2],[]⟩ AL
def aaS:WFn:=⟨3,[.cell 6 1 true,.tmp 7,.tmp 8],zd (s (O 6 [d 3 (bx 0),d 4 (bx 1),E (.alloc [.ro 6 [] true]),i 0,i 0]) (s (s (O 12 [h 2 3,h 1 4,ca 223 [12,13],d 9 (m 14)]) (s (O 15 [m 9,nei 15 0]) (c 16 (r (O 17 [E (.build [.ro 6 [] true] []),m 9,n (st 1 6 17),d 7 (i 0),d 8 (m 18)]))))) (s (s (Q 19 [m 2,ln 1 19,gti 20 32] [21,6,4,3,2]) (c 21 (r (O 7 [d 22 (E (.build [.ro 6 [] true] [])),n (st 1 6 22),i 0,i 3])))) (s (O 24 [h 2 3,h 1 4,E (.call 110 [T 24,T 25,N 0,N 0]),d 23 (m 26),ex 0 23,ex 1 23,n (st 1 6 27),d 8 (m 28)]) (s (s (O 29 [m 2,ln 1 29,i 0]) (bk 0 Mc ⟨true,[8,6,2],[]⟩)) Ql)))))⟩
@[simp] theorem ap6:ZL Mc AL ⟨true,[31,30,29,8,6,3,2],[]⟩:=aX rfl
noncomputable abbrev Ag (C:aH) (s:WSt):Option AV:=CK C 0 (aO [.cell 6 1 true,.tmp 7,.tmp 8]) [.sq Mc,.bk 0 ⟨true,[8,6,2],[]⟩,.sq Ql] AL s
def Ov:aA:=zd (r (O 4 [i (-1)]))
def xW:aA:=zd (s (s (O 6 [m 5,m 0,ln 1 7,lt 6 8]) (cc 9 (w .skip) (ee 0))) (s (B 1 (s (O 12 [m 0,m 5,ix 6 12 13,f 0 14,f 0 15,l 1 16,m 1,eq 17 18]) (c 19 (r (O 20 [m 5,d 4 (m 20)]))))) (O 10 [m 5,adi 10 1,d 5 (m 11)])))
def MZ:aA:=.loop ⟨true,[5,1,0],[]⟩ xW
def afD:WFn:=⟨2,[.tmp 4],zd (s (O 4 [i 0]) (s (s (O 5 [i 0]) (bk 0 MZ ⟨true,[],[]⟩)) Ov))⟩
@[simp] theorem apu:ZL MZ xW ⟨true,[5,1,0],[]⟩:=aX rfl
noncomputable abbrev BD (C:aH) (s:WSt):Option AV:=CK C 0 (aO [.tmp 4]) [.sq MZ,.bk 0 ⟨true,[],[]⟩,.sq Ov] xW s
def afA:WFn:=⟨3,[.cell 6 1 true,.tmp 7],zd (s (R 6 [d 3 (bx 0),d 4 (bx 1),E (.alloc [.ro 6 [] true]),i 0] ⟨true,[6,4,3,2],[(3,65536),(4,65536)]⟩) (r (V 8 [h 2 3,h 1 4,m 2,ln 1 10,m 2,E (.call 217 [.c (.ro 6 [] true)]),E (.build [.bool false,.int .i64 0,.ro 4 [] true,.bQ,.bQ] [(0,1,.c (.bool true)),(1,1,T 11),(2,1,T 12),(3,1,T 13),(4,1,.c (.fn 218 []))]),ca 216 [8,9,14],ex 0 15,ex 1 15,n (st 1 6 16),d 7 (m 17)] [(0,5),(1,5),(3,5)] ⟨false,[],[]⟩)))⟩
def aiQ:WFn:=⟨4,[.cell 8 1 true,.tmp 9],zd (s (R 4 [bx 0,bx 1,bx 2,d 8 (E (.alloc [.ro 6 [] true])),d 9 (i 0)] ⟨true,[8,6,5,4,3],[(4,65536),(5,65536),(6,65536)]⟩) (r (U 10 [h 2 4,h 1 5,l 1 6,f 0 5,l 1 13,ln 1 14,E (.call 219 [T 12,N 0,T 15]),f 0 5,l 1 17,ln 1 18,m 3,ln 1 20,ad 19 21,m 3,f 0 5,l 1 24,ca 217 [25],E (.iW 220 [T 5,T 6]),E (.build [.bool false,.int .i64 0,.ro 4 [] true,.bQ,.bQ] [(0,1,T 16),(1,1,T 22),(2,1,T 23),(3,1,T 26),(4,1,T 27)]),ca 216 [10,11,28],ex 0 29,ex 1 29,n (st 1 8 30),d 9 (m 31)] [(0,6),(1,6),(6,8),(6,9),(6,11),(6,15),(0,16),(1,16),(8,16),(9,16),(11,16)] [9,8])))⟩
def aiN:WFn:=⟨4,[.cell 8 1 true,.tmp 9],zd (s (R 4 [bx 0,bx 1,bx 2,bx 3,E (.alloc [.ro 6 [] true]),i 0] ⟨true,[8,7,6,5,4],[(4,65536),(5,65536),(6,65536),(7,65536)]⟩) (r (V 10 [h 2 4,h 1 5,l 1 6,l 1 7,f 0 5,l 1 14,ln 1 15,ca 219 [12,13,16],E (.iW 222 [T 5,T 6,T 7]),E (.build [.bool false,.int .i64 0,.ro 4 [] true,.bQ,.bQ] [(0,1,T 17),(4,1,T 18)]),ca 216 [10,11,19],ex 0 20,ex 1 20,n (st 1 8 21),d 9 (m 22)] [(0,7),(1,7)] ⟨false,[],[]⟩)))⟩
def Md:aA:=zd (r (O 25 [m 3,d 2 (m 25)]))
def wL:aA:=zd (s (O 11 [lt 10 9]) (s (cc 11 (w .skip) (ee 0)) (s (B 1 (s (O 12 [ix 6 8 10,h 6 12,d 5 (E (.alloc [.int .u64 0,.int .u8 0,.str [],.ro 1 [] true,.int .i64 0,.bool false])),n (st 6 5 13)]) (s (O 14 [f 4 5,l 1 14,E (.mx (T 15) (N 0)),d 6 (m 16)]) (s (s (O 17 [m 6,m 3,E (.bin .sub (N 4611686018427387904) (T 18)),gt 17 19]) (c 20 (r (O 2 [i 4611686018427387905])))) (O 21 [m 3,m 6,ad 21 22,d 3 (m 23)]))))) (O 24 [adi 10 1,d 10 (m 24)]))))
def P9:aA:=.loop ⟨true,[10,9,8,3],[]⟩ wL
def afN:WFn:=⟨1,[.tmp 2],zd (s (O 1 [bx 0,i 0]) (s (O 3 [i 0]) (s (s (Q 7 [f 0 1,l 1 7,ln 1 8,i 0] [10,9,8,3]) (bk 0 P9 ⟨true,[3],[]⟩)) Md)))⟩
@[simp] theorem apw:ZL P9 wL ⟨true,[10,9,8,3],[]⟩:=aX rfl
noncomputable abbrev AU (C:aH) (s:WSt):Option AV:=CK C 0 (aO [.tmp 2]) [.sq P9,.bk 0 ⟨true,[3],[]⟩,.sq Md] wL s
def Qp:aA:=zd (r (O 4 [i 1]))
def yx:aA:=zd (s (s (O 34 [m 5,f 3 2,l 1 35,ln 1 36,lt 34 37]) (cc 38 (w .skip) (ee 0))) (s (B 1 (s (V 41 [f 3 2,l 1 41,m 5,ix 1 42 43,l 1 44,f 3 3,l 1 46,m 5,ix 1 47 48,l 1 49,ne 45 50] [] ⟨false,[],[]⟩) (c 51 (r (O 4 [i 0]))))) (O 39 [m 5,adi 39 1,d 5 (m 40)])))
def Qz:aA:=.loop ⟨true,[5,3,2],[]⟩ yx
def RG:WFn:=⟨2,[.tmp 4],zd (s (O 2 [bx 0,bx 1,i 0]) (s (s (Q 6 [f 0 2,l 1 6,f 0 3,l 1 8,ne 7 9,m 10,z 11 (f 1 2),z 11 (l 1 12),z 11 (f 1 3),z 11 (l 1 14),z 11 (ne 13 15),po 11 16,m 17,z 18 (f 2 2),z 18 (l 1 19),z 18 (f 2 3),z 18 (l 1 21),z 18 (ne 20 22),po 18 23,m 24,z 25 (f 3 2),z 25 (l 1 26),z 25 (ln 1 27),z 25 (f 3 3),z 25 (l 1 29),z 25 (ln 1 30),z 25 (ne 28 31),po 25 32] [33,3,2]) (c 33 (r (O 4 [i 0])))) (s (s (O 5 [i 0]) (bk 0 Qz ⟨true,[],[]⟩)) Qp)))⟩
@[simp] theorem apB:ZL Qz yx ⟨true,[5,3,2],[]⟩:=aX rfl
noncomputable abbrev CX (C:aH) (s:WSt):Option AV:=CK C 0 (aO [.tmp 4]) [.sq Qz,.bk 0 ⟨true,[],[]⟩,.sq Qp] yx s
def ah2:WFn:=⟨4,[.cell 8 1 true,.tmp 9],zd (s (R 4 [bx 0,bx 1,bx 2,bx 3,E (.alloc [.ro 6 [] true]),i 0] ⟨true,[8,7,6,5,4],[(4,65536),(5,65536),(6,65536),(7,65536)]⟩) (s (O 11 [E (.iW 228 [T 5,T 6]),d 10 (m 11)]) (r (V 12 [h 2 4,h 1 5,l 1 6,l 1 7,ln 1 15,f 0 5,l 1 17,ln 1 18,ca 219 [14,16,19],l 1 7,m 10,E (.iW 229 [T 5,T 6,T 7]),E (.build [.bool false,.int .i64 0,.ro 4 [] true,.bQ,.bQ] [(0,1,T 20),(1,1,N 0),(2,1,T 21),(3,1,T 22),(4,1,T 23)]),ca 216 [12,13,24],ex 0 25,ex 1 25,n (st 1 8 26),d 9 (m 27)] [(0,8),(1,8),(8,9)] ⟨false,[],[]⟩))))⟩
def PE:WFn:=⟨1,[.tmp 2],zd (s (O 1 [bx 0,i 0]) (s (O 3 [E (.mv (.c (.fn 230 [])))]) (s (s (Q 4 [f 0 1,l 1 4,ln 1 5,lti 6 1,m 7,z 8 (f 0 1),z 8 (l 1 9),z 8 (ln 1 10),z 8 (gti 11 8),po 8 12,m 13,z 14 (f 1 1),z 14 (l 1 15),z 14 (lti 16 1),po 14 17,m 18,z 19 (f 1 1),z 19 (l 1 20),z 19 (gti 21 64),po 19 22,m 23,z 24 (f 0 1),z 24 (l 1 25),z 24 (m 3),z 24 (ca 232 [26,27]),po 24 28] [29]) (c 29 (r (O 2 [i 7])))) (r (O 2 [i 0])))))⟩
def ahW:WFn:=⟨1,[.tmp 2],zd (s (O 2 [E (.mv (.c (.ro 9 [] true)))]) (s (Q 6 [E (.build [.str [],.int .u8 0,.str []] [(0,1,.c (.str [110])),(1,1,.c (.int .u8 3))]),E (.build [.str [],.int .u8 0,.str []] [(0,1,.c (.str [116,101,120,116])),(1,1,.c (.int .u8 1))]),E (.aP [.str [],.int .u8 0,.str []] 2 [(0,T 6),(1,T 7)]),E (.build [.int .u8 0,.str [],.str [],.ro 3 [] true,.str [],.ro 6 [] true] [(0,1,.c (.int .u8 3))]),E (.aP [.int .u8 0,.str [],.str [],.ro 3 [] true,.str [],.ro 6 [] true] 1 [(0,T 9)]),E (.build [.int .u8 0,.str [],.str [],.ro 3 [] true,.str [],.ro 6 [] true] [(0,1,.c (.int .u8 1)),(1,1,.c (.str [114,111,119])),(3,1,T 8),(5,1,T 10)]),d 3 (E (.alloc [.int .u8 0,.str [],.str [],.ro 3 [] true,.str [],.ro 6 [] true])),n (st 6 3 11)] [3,0]) (s (O 12 [E (.build [.str [],.int .u8 0,.str []] [(0,1,.c (.str [105,100])),(1,1,.c (.int .u8 2))]),E (.aP [.str [],.int .u8 0,.str []] 1 [(0,T 12)]),E (.build [.int .u8 0,.str [],.str [],.ro 3 [] true,.str [],.ro 6 [] true] [(0,1,.c (.int .u8 2)),(4,1,.c (.str [35]))]),E (.build [.int .u8 0,.str [],.str [],.ro 3 [] true,.str [],.ro 6 [] true] [(0,1,.c (.int .u8 4))]),E (.aP [.int .u8 0,.str [],.str [],.ro 3 [] true,.str [],.ro 6 [] true] 2 [(0,T 14),(1,T 15)]),E (.build [.int .u8 0,.str [],.str [],.ro 3 [] true,.str [],.ro 6 [] true] [(0,1,.c (.int .u8 1)),(1,1,.c (.str [104,101,97,100])),(2,1,.c (.str [104])),(3,1,T 13),(5,1,T 16)]),d 4 (E (.alloc [.int .u8 0,.str [],.str [],.ro 3 [] true,.str [],.ro 6 [] true])),n (st 6 4 17)]) (s (O 18 [E (.build [.int .u8 0,.str [],.str [],.ro 3 [] true,.str [],.ro 6 [] true] [(0,1,.c (.int .u8 3))]),E (.aP [.int .u8 0,.str [],.str [],.ro 3 [] true,.str [],.ro 6 [] true] 1 [(0,T 18)]),E (.build [.int .u8 0,.str [],.str [],.ro 3 [] true,.str [],.ro 6 [] true] [(0,1,.c (.int .u8 1)),(1,1,.c (.str [98])),(2,1,.c (.str [98,50])),(5,1,T 19)]),E (.build [.str [],.int .u8 0,.str []] [(0,1,.c (.str [111,102])),(1,1,.c (.int .u8 2))]),E (.aP [.str [],.int .u8 0,.str []] 1 [(0,T 21)]),E (.build [.int .u8 0,.str [],.str [],.ro 3 [] true,.str [],.ro 6 [] true] [(0,1,.c (.int .u8 5)),(1,1,.c (.str [116,97,103])),(3,1,T 22)]),E (.aP [.int .u8 0,.str [],.str [],.ro 3 [] true,.str [],.ro 6 [] true] 2 [(0,T 20),(1,T 23)]),E (.build [.int .u8 0,.str [],.str [],.ro 3 [] true,.str [],.ro 6 [] true] [(0,1,.c (.int .u8 1)),(1,1,.c (.str [114,111,119])),(5,1,T 24)]),d 5 (E (.alloc [.int .u8 0,.str [],.str [],.ro 3 [] true,.str [],.ro 6 [] true])),n (st 6 5 25)]) (r (Q 26 [h 6 3,m 0,E (.bin .rem (T 27) (.c (.int .u8 7))),E (.cvt .i64 (T 28)),E (.bin .add (N 10) (T 29)),m 0,E (.bin .rem (T 31) (.c (.int .u8 4))),E (.cvt .i64 (T 32)),E (.build [.int .u8 0,.str [],.str [],.ro 3 [] true,.str [],.ro 6 [] true,.int .i64 0,.bool false,.int .i64 0] [(0,6,T 26),(6,1,T 30),(8,1,T 33)]),h 6 4,m 0,E (.bin .rem (T 36) (.c (.int .u8 3))),E (.cvt .i64 (T 37)),E (.bin .add (N 6) (T 38)),m 0,E (.bin .quo (T 40) (.c (.int .u8 4))),E (.bin .rem (T 41) (.c (.int .u8 3))),E (.cvt .i64 (T 42)),E (.build [.int .u8 0,.str [],.str [],.ro 3 [] true,.str [],.ro 6 [] true,.int .i64 0,.bool false,.int .i64 0] [(0,6,T 35),(6,1,T 39),(7,1,.c (.bool true)),(8,1,T 43)]),h 6 5,m 0,E (.bin .rem (T 46) (.c (.int .u8 16))),E (.bin .eql (T 47) (.c (.int .u8 15))),m 0,E (.bin .quo (T 49) (.c (.int .u8 8))),E (.bin .rem (T 50) (.c (.int .u8 3))),E (.cvt .i64 (T 51)),E (.build [.int .u8 0,.str [],.str [],.ro 3 [] true,.str [],.ro 6 [] true,.int .i64 0,.bool false,.int .i64 0] [(0,6,T 45),(6,1,N 20),(7,1,T 48),(8,1,T 52)]),E (.aP [.int .u8 0,.str [],.str [],.ro 3 [] true,.str [],.ro 6 [] true,.int .i64 0,.bool false,.int .i64 0] 3 [(0,T 34),(1,T 44),(2,T 53)]),d 2 (m 54)] [2]))))))⟩
def afB:WFn:=⟨1,[.tmp 2],zd (s (O 1 [bx 0,i 0]) (s (O 6 [h 6 1,ca 282 [6],d 5 (m 7),ex 0 5,ex 1 5,d 3 (m 8),d 4 (m 9)]) (r (O 10 [m 3,d 2 (m 10)]))))⟩
def GI:aA:=zd (r (O 32 [m 3,d 2 (m 32)]))
def wW:aA:=zd (s (s (Q 6 [m 4,f 0 1,l 1 7,ln 1 8,lt 6 9,m 10,y 11 (m 4),y 11 (lti 12 12),pa 11 13] [14,4,3,1]) (cc 14 (w .skip) (ee 0))) (s (B 1 (s (O 17 [f 0 1,l 1 17,m 4,ix 4 18 19,h 4 20,ca 422 [21],d 5 (E (.alloc [.int .u64 0,.int .u8 0,.str [],.ro 1 [] true])),n (st 4 5 22)]) (s (O 23 [m 3,f 0 5,l 1 24,ca 423 [23,25],lti 26 0]) (c 27 (O 28 [m 3,h 4 5,E (.aP [.int .u64 0,.int .u8 0,.str [],.ro 1 [] true] 1 [(0,T 29)]),E (.app [.int .u64 0,.int .u8 0,.str [],.ro 1 [] true] 56 false (T 28) (T 30)),d 3 (m 31)]))))) (O 15 [m 4,adi 15 1,d 4 (m 16)])))
def Me:aA:=.loop ⟨true,[4,3,1],[]⟩ wW
def aji:WFn:=⟨1,[.tmp 2],zd (s (O 1 [bx 0,E (.mv (.c (.ro 4 [] true)))]) (s (R 3 [E (.mv (.c (.ro 4 [] true)))] ⟨true,[3,1],[(3,4)]⟩) (s (s (O 4 [i 0]) (bk 0 Me ⟨true,[3],[]⟩)) GI)))⟩
@[simp] theorem aqY:ZL Me wW ⟨true,[4,3,1],[]⟩:=aX rfl
noncomputable abbrev Bh (C:aH) (s:WSt):Option AV:=CK C 0 (aO [.tmp 2]) [.sq Me,.bk 0 ⟨true,[3],[]⟩,.sq GI] wW s
def Ux:WFn:=⟨3,[.tmp 6],zd (s (O 3 [bx 0,bx 1,d 6 (i 0)]) (s (s (O 9 [h 4 4,f 0 3,l 1 10,ln 1 11,ca 424 [9,12],gti 13 0]) (c 14 (r (O 6 [i 6])))) (s (s (Q 15 [m 2,eqi 15 1] [16,4,3]) (c 16 (r (O 6 [i 8])))) (s (V 18 [f 0 3,l 1 18,f 1 4,l 1 20,ix 9 19 21,f 0 22,h 6 23,h 4 4,f 1 3,l 1 26,ca 425 [24,25,27],d 17 (m 28),ex 0 17,ex 1 17,d 7 (E (.alloc [.int .u8 0,.str [],.str [],.ro 2 [] true,.str [],.ro 6 [] true])),n (st 6 7 29),d 8 (m 30)] [(1,14),(3,14),(6,14),(7,14),(9,14),(10,14)] ⟨false,[],[]⟩) (s (s (O 31 [m 8,gti 31 0]) (c 32 (r (O 6 [i 14])))) (r (O 6 [i 0])))))))⟩
def ahE:WFn:=⟨2,[.cell 4 6 true],zd (s (O 2 [bx 0,bx 1,E (.alloc [.int .u64 0,.int .u8 0,.str [],.ro 1 [] true,.int .i64 0,.bool false])]) (r (V 5 [h 4 3,f 0 2,l 1 6,f 1 3,l 1 8,ix 9 7 9,f 6 10,l 1 11,E (.build [.int .u64 0,.int .u8 0,.str [],.ro 1 [] true,.int .i64 0,.bool false] [(0,4,T 5),(4,1,T 12)]),n (st 6 4 13)] [] ⟨false,[],[]⟩)))⟩
def FI:aA:=zd (r (O 208 [m 7,m 9,E (.gq 5 1 (T 3) (N 4)),l 1 210,E (.build [.int .u64 0,.int .u8 0,.str [],.ro 1 [] true] [(1,1,T 211)]),E (.aP [.int .u64 0,.int .u8 0,.str [],.ro 1 [] true] 1 [(0,T 212)]),E (.app [.int .u64 0,.int .u8 0,.str [],.ro 1 [] true] 56 false (T 209) (T 213)),E (.build [.int .u8 0,.int .i64 0,.int .i64 0,.int .i64 0,.ro 4 [] true] [(0,1,.c (.int .u8 1)),(1,1,T 208),(4,1,T 214)]),n (st 5 6 215)]))
def xR:aA:=zd (r (O 132 [h 5 13,n (st 5 6 132)]))
def tJ:aA:=zd (s (s (O 100 [m 14,m 8,E (.mn (T 101) (N 3)),lt 100 102]) (cc 103 (w .skip) (ee 3))) (s (B 4 (s (Q 106 [E (.gq 5 1 (T 3) (N 3)),l 1 106,m 14,E (.cvt .u8 (T 108)),ad 107 109,E (.gq 5 1 (T 3) (N 4)),l 1 111,E (.gq 5 1 (T 3) (N 4)),l 1 113,E (.build [.int .u8 0,.int .u8 0,.int .u8 0,.int .u8 0] [(0,1,.c (.int .u8 0)),(1,1,T 110),(2,1,T 112),(3,1,T 114)]),ca 422 [115],d 15 (E (.alloc [.int .u64 0,.int .u8 0,.str [],.ro 1 [] true])),n (st 4 15 116)] [15,14,13,8,7,6,3,1]) (s (O 117 [m 1,m 7,m 14,ad 118 119,ix 6 117 120,f 0 121,f 0 122,l 1 123,f 0 15,n (st 1 125 124)]) (O 126 [f 4 13,l 1 126,h 4 15,E (.aP [.int .u64 0,.int .u8 0,.str [],.ro 1 [] true] 1 [(0,T 128)]),E (.app [.int .u64 0,.int .u8 0,.str [],.ro 1 [] true] 56 false (T 127) (T 129)),f 4 13,n (st 1 131 130)])))) (O 104 [m 14,adi 104 1,d 14 (m 105)])))
def P8:aA:=.loop ⟨true,[14,13,8,7,6,3,1],[]⟩ tJ
def Nh:aA:=zd (r (O 151 [m 9,E (.build [.int .u8 0,.int .i64 0,.int .i64 0,.int .i64 0,.ro 4 [] true] [(0,1,.c (.int .u8 5)),(4,1,T 151)]),n (st 5 6 152)]))
def Bd:aA:=zd (s (s (O 136 [m 16,m 8,lt 136 137]) (cc 138 (w .skip) (ee 5))) (s (B 6 (Q 141 [m 9,m 1,m 7,m 16,ad 143 144,ix 6 142 145,f 0 146,h 4 147,E (.aP [.int .u64 0,.int .u8 0,.str [],.ro 1 [] true] 1 [(0,T 148)]),E (.app [.int .u64 0,.int .u8 0,.str [],.ro 1 [] true] 56 false (T 141) (T 149)),d 9 (m 150)] [16,9,8,7,6,1])) (O 139 [m 16,adi 139 1,d 16 (m 140)])))
def OD:aA:=.loop ⟨true,[16,9,8,7,6,1],[]⟩ Bd
def GZ:aA:=zd (s (s (O 64 [E (.gq 5 1 (T 3) (N 0)),l 1 64,E (.bin .rem (T 65) (.c (.int .u8 16))),d 12 (m 66)]) (bk 2 (s (O 68 [m 12,E (.bin .lss (T 68) (.c (.int .u8 4))),d 67 (m 69)]) (cc 67 (r (O 70 [m 7,m 9,E (.build [.int .u8 0,.int .i64 0,.int .i64 0,.int .i64 0,.ro 4 [] true] [(0,1,.c (.int .u8 1)),(1,1,T 70),(4,1,T 71)]),n (st 5 6 72)])) (s (O 74 [m 12,E (.bin .lss (T 74) (.c (.int .u8 6))),d 73 (m 75)]) (cc 73 (r (O 76 [m 7,m 8,E (.mn (T 77) (N 3)),E (.build [.int .u8 0,.int .i64 0,.int .i64 0,.int .i64 0,.ro 4 [] true] [(0,1,.c (.int .u8 2)),(1,1,T 76),(2,1,T 78)]),n (st 5 6 79)])) (s (O 81 [m 12,E (.bin .lss (T 81) (.c (.int .u8 8))),d 80 (m 82)]) (cc 80 (r (Q 83 [m 7,m 8,E (.gq 5 1 (T 3) (N 3)),l 1 85,E (.cvt .i64 (T 86)),m 1,ln 1 88,m 8,sb 89 90,adi 91 1,E (.bin .rem (T 87) (T 92)),E (.build [.int .u8 0,.int .i64 0,.int .i64 0,.int .i64 0,.ro 4 [] true] [(0,1,.c (.int .u8 3)),(1,1,T 83),(2,1,T 84),(3,1,T 93)]),n (st 5 6 94)] [6])) (s (O 96 [m 12,E (.bin .lss (T 96) (.c (.int .u8 10))),d 95 (m 97)]) (cc 95 (s (O 98 [m 7,E (.build [.int .u8 0,.int .i64 0,.int .i64 0,.int .i64 0,.ro 4 [] true] [(0,1,.c (.int .u8 4)),(1,1,T 98)]),d 13 (E (.alloc [.int .u8 0,.int .i64 0,.int .i64 0,.int .i64 0,.ro 4 [] true])),n (st 5 13 99)]) (s (s (O 14 [i 0]) (bk 3 P8 ⟨true,[13,6],[]⟩)) xR)) (s (O 134 [m 12,E (.bin .lss (T 134) (.c (.int .u8 11))),d 133 (m 135)]) (cc 133 (s (s (O 16 [i 0]) (bk 5 OD ⟨true,[9,6],[]⟩)) Nh) (s (Q 154 [m 12,E (.bin .lss (T 154) (.c (.int .u8 12))),d 153 (m 155)] [153,12,9,8,7,6,3]) (cc 153 (r (O 156 [m 7,m 9,E (.gq 5 1 (T 3) (N 1)),l 1 158,E (.gq 5 1 (T 3) (N 2)),l 1 160,E (.gq 5 1 (T 3) (N 3)),l 1 162,E (.gq 5 1 (T 3) (N 4)),l 1 164,E (.build [.int .u8 0,.int .u8 0,.int .u8 0,.int .u8 0] [(0,1,T 159),(1,1,T 161),(2,1,T 163),(3,1,T 165)]),ca 422 [166],E (.aP [.int .u64 0,.int .u8 0,.str [],.ro 1 [] true] 1 [(0,T 167)]),E (.app [.int .u64 0,.int .u8 0,.str [],.ro 1 [] true] 56 false (T 157) (T 168)),E (.build [.int .u8 0,.int .i64 0,.int .i64 0,.int .i64 0,.ro 4 [] true] [(0,1,.c (.int .u8 1)),(1,1,T 156),(4,1,T 169)]),n (st 5 6 170)])) (s (O 172 [m 12,E (.bin .eql (T 172) (.c (.int .u8 12))),d 171 (m 173)]) (cc 171 (r (Q 174 [E (.gq 5 1 (T 3) (N 1)),l 1 174,E (.bin .rem (T 175) (.c (.int .u8 8))),E (.gq 5 1 (T 3) (N 2)),l 1 177,E (.bin .rem (T 178) (.c (.int .u8 8))),E (.cvt .i64 (T 179)),sbi 180 2,E (.gq 5 1 (T 3) (N 3)),l 1 182,E (.bin .rem (T 183) (.c (.int .u8 4))),E (.cvt .i64 (T 184)),sbi 185 1,E (.gq 5 1 (T 3) (N 4)),l 1 187,E (.bin .rem (T 188) (.c (.int .u8 3))),E (.cvt .i64 (T 189)),E (.build [.int .u8 0,.int .i64 0,.int .i64 0,.int .i64 0,.ro 4 [] true] [(0,1,T 176),(1,1,T 181),(2,1,T 186),(3,1,T 190)]),n (st 5 6 191)] [6])) (s (O 193 [m 12,E (.bin .eql (T 193) (.c (.int .u8 13))),d 192 (m 194)]) (cc 192 (r (O 195 [m 7,m 8,adi 196 1,E (.build [.int .u8 0,.int .i64 0,.int .i64 0,.int .i64 0,.ro 4 [] true] [(0,1,.c (.int .u8 2)),(1,1,T 195),(2,1,T 197)]),n (st 5 6 198)])) (s (O 200 [m 12,E (.bin .eql (T 200) (.c (.int .u8 14))),d 199 (m 201)]) (c 199 (r (O 202 [m 7,m 9,E (.build [.int .u64 0,.int .u8 0,.str [],.ro 1 [] true] [(0,1,.c (.int .u64 1))]),E (.aP [.int .u64 0,.int .u8 0,.str [],.ro 1 [] true] 1 [(0,T 204)]),E (.app [.int .u64 0,.int .u8 0,.str [],.ro 1 [] true] 56 false (T 203) (T 205)),E (.build [.int .u8 0,.int .i64 0,.int .i64 0,.int .i64 0,.ro 4 [] true] [(0,1,.c (.int .u8 4)),(1,1,T 202),(4,1,T 206)]),n (st 5 6 207)])))))))))))))))))))) ⟨true,[9,7,6,3],[]⟩)) FI)
def Bz:aA:=zd (s (s (Q 33 [m 10,E (.gq 5 1 (T 3) (N 2)),l 1 34,E (.bin .rem (T 35) (.c (.int .u8 4))),E (.cvt .i64 (T 36)),lt 33 37] [38,10,9,8,7,6,3,2,1]) (cc 38 (w .skip) (ee 0))) (s (B 1 (s (O 41 [E (.gq 5 1 (T 3) (N 4)),l 1 41,m 10,E (.cvt .u8 (T 43)),ad 42 44,E (.gq 5 1 (T 3) (N 3)),l 1 46,E (.gq 5 1 (T 3) (N 4)),l 1 48,E (.bin .quo (T 49) (.c (.int .u8 2))),E (.build [.int .u8 0,.int .u8 0,.int .u8 0,.int .u8 0] [(0,1,.c (.int .u8 0)),(1,1,T 45),(2,1,T 47),(3,1,T 50)]),ca 422 [51],d 11 (E (.alloc [.int .u64 0,.int .u8 0,.str [],.ro 1 [] true])),n (st 4 11 52)]) (s (O 53 [m 2,E (.bin .mul (N 10) (T 53)),m 10,ad 54 55,E (.cvt .u64 (T 56)),E (.bin .add (.c (.int .u64 100)) (T 57)),f 0 11,n (st 1 59 58)]) (Q 60 [m 9,h 4 11,E (.aP [.int .u64 0,.int .u8 0,.str [],.ro 1 [] true] 1 [(0,T 61)]),E (.app [.int .u64 0,.int .u8 0,.str [],.ro 1 [] true] 56 false (T 60) (T 62)),d 9 (m 63)] [10,9,8,7,6,3,2,1])))) (O 39 [m 10,adi 39 1,d 10 (m 40)])))
def MX:aA:=.loop ⟨true,[10,9,8,7,6,3,2,1],[]⟩ Bz
def ai0:WFn:=⟨3,[.cell 6 5 true],zd (s (O 6 [d 3 (bx 0),E (.alloc [.int .u8 0,.int .i64 0,.int .i64 0,.int .i64 0,.ro 4 [] true])]) (s (O 17 [E (.gq 5 1 (T 3) (N 1)),l 1 17,E (.cvt .i64 (T 18)),m 1,ln 1 20,adi 21 1,E (.bin .rem (T 19) (T 22)),d 7 (m 23)]) (s (O 24 [E (.gq 5 1 (T 3) (N 2)),l 1 24,E (.cvt .i64 (T 25)),m 1,ln 1 27,m 7,sb 28 29,adi 30 1,E (.bin .rem (T 26) (T 31)),d 8 (m 32)]) (s (R 9 [E (.mv (.c (.ro 4 [] true)))] ⟨true,[9,8,7,6,3,2,1],[(9,4)]⟩) (s (s (O 10 [i 0]) (bk 0 MX ⟨true,[9,8,7,6,3,1],[]⟩)) GZ)))))⟩
@[simp] theorem aps:ZL P8 tJ ⟨true,[14,13,8,7,6,3,1],[]⟩:=aX rfl
noncomputable abbrev sS (C:aH) (s:WSt):Option AV:=CK C 0 (aO [.cell 6 5 true]) [.sq P8,.bk 3 ⟨true,[13,6],[]⟩,.sq xR,.bk 2 ⟨true,[9,7,6,3],[]⟩,.sq FI] tJ s
@[simp] theorem aq8:ZL OD Bd ⟨true,[16,9,8,7,6,1],[]⟩:=aX rfl
noncomputable abbrev FW (C:aH) (s:WSt):Option AV:=CK C 0 (aO [.cell 6 5 true]) [.sq OD,.bk 5 ⟨true,[9,6],[]⟩,.sq Nh,.bk 2 ⟨true,[9,7,6,3],[]⟩,.sq FI] Bd s
@[simp] theorem aqJ:ZL MX Bz ⟨true,[10,9,8,7,6,3,2,1],[]⟩:=aX rfl
noncomputable abbrev FD (C:aH) (s:WSt):Option AV:=CK C 0 (aO [.cell 6 5 true]) [.sq MX,.bk 0 ⟨true,[9,8,7,6,3,1],[]⟩,.sq GZ] Bz s
def abg:WFn:=⟨3,[.tmp 6,.tmp 7],zd (s (O 5 [d 3 (bx 0),bx 2,E (.mv (.c (.ro 6 [] true))),i 0]) (s (s (O 8 [h 5 5,ca 333 [8],gti 9 0]) (c 10 (r (O 11 [h 5 5,ca 333 [11],d 6 (E (.mv (.c (.ro 6 [] true)))),d 7 (m 12)])))) (s (s (O 13 [f 0 5,l 1 13]) (B 0 (s (O 16 [E (.bin .eql (T 14) (.c (.int .u8 1))),d 15 (m 16)]) (cc 15 (r (O 17 [h 2 3,m 1,f 1 5,l 1 19,f 4 5,l 1 21,ca 461 [17,18,20,22],ex 0 23,ex 1 23,d 6 (m 24),d 7 (m 25)])) (s (O 27 [E (.bin .eql (T 14) (.c (.int .u8 2))),d 26 (m 27)]) (cc 26 (r (Q 28 [m 1,f 1 5,l 1 29,f 2 5,l 1 31,ca 241 [28,30,32],ex 0 33,ex 1 33,d 6 (m 34),d 7 (m 35)] [7,6])) (s (O 37 [E (.bin .eql (T 14) (.c (.int .u8 3))),d 36 (m 37)]) (cc 36 (r (O 38 [m 1,f 1 5,l 1 39,f 2 5,l 1 41,f 3 5,l 1 43,ca 242 [38,40,42,44],ex 0 45,ex 1 45,d 6 (m 46),d 7 (m 47)])) (s (Q 49 [E (.bin .eql (T 14) (.c (.int .u8 4))),d 48 (m 49)] [48,5,3,1]) (c 48 (r (O 50 [h 2 3,m 1,f 1 5,l 1 52,f 4 5,l 1 54,ca 462 [50,51,53,55],ex 0 56,ex 1 56,d 6 (m 57),d 7 (m 58)])))))))))))) (r (O 59 [h 2 3,f 4 5,l 1 60,ca 463 [59,61],ex 0 62,ex 1 62,d 6 (m 63),d 7 (m 64)])))))⟩
def w65:WFn:=⟨1,[.cell 2 2 true,.tmp 3],zd (s (O 2 [E (.alloc [.int .i64 0,.ro 1 [] true]),i 0]) (s (s (O 4 [m 0,ca 77 [4]]) (c 5 (r (O 6 [E (.build [.int .i64 0,.ro 1 [] true] []),n (st 2 2 6),d 3 (i 4)])))) (r (O 7 [m 0,m 0,E (.call 1073 [T 7,T 8,.c (.fn 81 [])]),ex 0 9,ex 1 9,n (st 2 2 10),d 3 (m 11)]))))⟩
def SN:WFn:=⟨2,[.cell 4 2 true,.tmp 5],zd (s (Q 4 [d 2 (bx 0),E (.alloc [.int .i64 0,.ro 1 [] true]),E (.mv (.c .bQ))] [4,2,1]) (s (O 6 [E (.mv (.c (.fn 564 [])))]) (s (s (O 11 [f 0 2,l 1 11]) (B 0 (s (O 14 [E (.bin .eql (T 12) (.c (.int .u8 1))),d 13 (m 14)]) (cc 13 (s (Q 16 [m 1,f 1 2,l 1 17,f 4 2,l 1 19,ln 1 20,ca 66 [16,18,21],d 15 (m 22),ex 0 15,ex 1 15,n (st 2 4 23)] [6,4,2]) (r (V 25 [h 2 4,m 6,f 1 2,l 1 27,f 4 2,l 1 29,ln 1 30,E (.dN (T 26) [T 28,T 31]),n (st 2 4 25),d 5 (m 32)] [(0,7)] ⟨false,[],[]⟩))) (s (O 34 [E (.bin .eql (T 12) (.c (.int .u8 2))),d 33 (m 34)]) (cc 33 (O 36 [m 1,f 1 2,l 1 37,f 2 2,l 1 39,ca 67 [36,38,40],d 35 (m 41),ex 0 35,ex 1 35,n (st 2 4 42)]) (s (O 45 [E (.bin .eql (T 12) (.c (.int .u8 3))),d 44 (m 45)]) (cc 44 (O 47 [m 1,f 1 2,l 1 48,f 2 2,l 1 50,f 3 2,l 1 52,ca 62 [47,49,51,53],d 46 (m 54),ex 0 46,ex 1 46,n (st 2 4 55)]) (s (O 58 [E (.bin .eql (T 12) (.c (.int .u8 4))),d 57 (m 58)]) (cc 57 (s (O 60 [m 1,ca 65 [60],d 59 (m 61),ex 0 59,ex 1 59,n (st 2 4 62)]) (r (U 64 [h 2 4,m 6,f 1 2,l 1 66,f 4 2,l 1 68,ln 1 69,E (.dN (T 65) [T 67,T 70]),n (st 2 4 64),d 5 (m 71)] [(0,7)] [5,4]))) (s (O 73 [E (.bin .eql (T 12) (.c (.int .u8 5))),d 72 (m 73)]) (c 72 (s (O 75 [m 1,m 1,E (.call 67 [T 75,N 0,T 76]),d 74 (m 77),ex 0 74,ex 1 74,d 7 (E (.alloc [.int .i64 0,.ro 1 [] true])),n (st 2 7 78),d 8 (m 79)]) (s (Q 81 [f 4 2,l 1 81,ln 1 82,E (.call 66 [N 0,N 0,T 83]),d 80 (m 84),ex 0 80,ex 1 80,d 9 (E (.alloc [.int .i64 0,.ro 1 [] true])),n (st 2 9 85),d 10 (m 86)] [9,7,6,4,2]) (s (O 88 [h 2 7,h 2 9,ca 52 [88,89],d 87 (m 90),ex 0 87,ex 1 87,n (st 2 4 91)]) (r (V 93 [h 2 4,m 6,f 4 2,l 1 95,ln 1 96,E (.dN (T 94) [N 0,T 97]),n (st 2 4 93),d 5 (m 98)] [(0,5)] ⟨false,[],[]⟩))))))))))))))))) (r (V 99 [h 2 4,m 6,E (.dN (T 100) [N 0,N 0]),n (st 2 4 99),d 5 (m 101)] [(0,2)] ⟨false,[],[]⟩)))))⟩
def w52:WFn:=⟨2,[.cell 4 2 true,.tmp 5],zd (s (O 2 [bx 0,bx 1,E (.alloc [.int .i64 0,.ro 1 [] true]),i 0]) (s (s (O 8 [h 2 2,ca 56 [8],d 6 (m 9)]) (s (O 10 [m 6,nei 10 0]) (c 11 (r (O 12 [E (.build [.int .i64 0,.ro 1 [] true] []),m 6,n (st 2 4 12),d 5 (m 13)]))))) (s (s (O 14 [h 2 3,ca 56 [14],d 7 (m 15)]) (s (O 16 [m 7,nei 16 0]) (c 17 (r (Q 18 [E (.build [.int .i64 0,.ro 1 [] true] []),m 7,n (st 2 4 18),d 5 (m 19)] [5,4]))))) (s (s (O 20 [f 0 3,l 1 20,f 1 2,l 1 22,ln 1 23,ne 21 24]) (c 25 (r (O 26 [E (.build [.int .i64 0,.ro 1 [] true] []),n (st 2 4 26),d 5 (i 16)])))) (r (O 27 [f 0 2,l 1 27,f 1 3,l 1 29,ln 1 30,E (.iW 74 [T 3,T 2]),ca 1073 [28,31,32],ex 0 33,ex 1 33,n (st 2 4 34),d 5 (m 35)]))))))⟩
def aiY:aA:=zd (r (V 27 [h 2 3,m 1,ca 469 [28],m 7,ca 340 [30],E (.build [.int .i64 0,.ro 1 [] true,.ro 1 [] true,.ro 4 [] true] [(0,2,T 27),(2,1,T 29),(3,1,T 31)]),n (st 4 6 32)] [(0,2),(0,4)] ⟨false,[],[]⟩))
def Yt:aA:=zd (s (O 13 [lt 12 11]) (s (cc 13 (w .skip) (ee 0)) (s (B 1 (s (Q 14 [m 12,ix 1 10 12,l 1 15,d 8 (m 14),d 9 (m 16)] [12,11,10,9,8,7,6,3,2,1]) (s (O 17 [m 9]) (c 17 (O 18 [m 7,m 2,m 8,ix 6 19 20,f 0 21,h 4 22,E (.aP [.int .u64 0,.int .u8 0,.str [],.ro 1 [] true] 1 [(0,T 23)]),E (.app [.int .u64 0,.int .u8 0,.str [],.ro 1 [] true] 56 false (T 18) (T 24)),d 7 (m 25)]))))) (O 26 [adi 12 1,d 12 (m 26)]))))
def YS:aA:=.loop ⟨true,[12,11,10,7,6,3,2,1],[]⟩ Yt
def ao5:WFn:=⟨3,[.cell 6 4 true],zd (s (O 6 [d 3 (bx 0),E (.alloc [.int .i64 0,.ro 1 [] true,.ro 1 [] true,.ro 4 [] true])]) (s (R 7 [E (.mv (.c (.ro 4 [] true)))] ⟨true,[7,6,3,2,1],[(7,4)]⟩) (s (s (O 10 [m 1,ln 1 10,i 0]) (bk 0 YS ⟨true,[7,6,3,1],[]⟩)) aiY)))⟩
@[simp] theorem aq9:ZL YS Yt ⟨true,[12,11,10,7,6,3,2,1],[]⟩:=aX rfl
def wu:aA:=zd (r (V 27 [h 2 3,m 1,ca 469 [28],m 7,ca 5044 [30],E (.build [.int .i64 0,.ro 1 [] true,.ro 1 [] true,.ro 4 [] true] [(0,2,T 27),(2,1,T 29),(3,1,T 31)]),n (st 4 6 32)] [(0,2),(0,4)] ⟨false,[],[]⟩))
def oV:aA:=zd (s (O 13 [lt 12 11]) (s (cc 13 (w .skip) (ee 0)) (s (B 1 (s (Q 14 [m 12,ix 1 10 12,l 1 15,d 8 (m 14),d 9 (m 16)] [12,11,10,9,8,7,6,3,2,1]) (s (O 17 [m 9]) (c 17 (O 18 [m 7,m 2,m 8,ix 6 19 20,f 0 21,h 4 22,E (.aP [.int .u64 0,.int .u8 0,.str [],.ro 1 [] true] 1 [(0,T 23)]),E (.app [.int .u64 0,.int .u8 0,.str [],.ro 1 [] true] 56 false (T 18) (T 24)),d 7 (m 25)]))))) (O 26 [adi 12 1,d 12 (m 26)]))))
def CB:aA:=.loop ⟨true,[12,11,10,7,6,3,2,1],[]⟩ oV
def Yu:WFn:=⟨3,[.cell 6 4 true],zd (s (O 6 [d 3 (bx 0),E (.alloc [.int .i64 0,.ro 1 [] true,.ro 1 [] true,.ro 4 [] true])]) (s (R 7 [E (.mv (.c (.ro 4 [] true)))] ⟨true,[7,6,3,2,1],[(7,4)]⟩) (s (s (O 10 [m 1,ln 1 10,i 0]) (bk 0 CB ⟨true,[7,6,3,1],[]⟩)) wu)))⟩
@[simp] theorem aoe:ZL CB oV ⟨true,[12,11,10,7,6,3,2,1],[]⟩:=aX rfl
def agy:aA:=zd (r (O 6 [i 1]))
def Yx:aA:=zd (s (s (O 56 [m 12,m 1,ln 1 57,lt 56 58]) (cc 59 (w .skip) (ee 0))) (s (B 1 (s (U 62 [f 0 9,f 1 62,l 1 63,m 12,ix 1 64 65,l 1 66,m 1,m 12,ix 1 68 69,l 1 70,ne 67 71,m 72,z 73 (f 2 9),z 73 (l 1 74),z 73 (m 12),z 73 (ix 1 75 76),z 73 (l 1 77),z 73 (m 2),z 73 (m 12),z 73 (ix 1 79 80),z 73 (l 1 81),z 73 (eqi 82 1),z 73 (E (.eqv 5 [] true (T 78) (T 83))),po 73 84] [] [85,12,9,2,1]) (c 85 (r (O 6 [i 0]))))) (O 60 [m 12,adi 60 1,d 12 (m 61)])))
def XY:aA:=.loop ⟨true,[12,9,2,1],[]⟩ Yx
def aoc:WFn:=⟨3,[.tmp 6],zd (s (O 6 [i 0]) (s (O 14 [ca 453 [],d 13 (m 14),ex 0 13,ex 1 13,d 7 (E (.alloc [.ro 9 [] true,.int .i64 0])),d 8 (E (.alloc [.ro 6 [] true])),n (st 2 7 15),n (st 1 8 16)]) (s (O 18 [h 2 7,h 1 8,m 0,ca 454 [18,19,20],d 17 (m 21),ex 0 17,ex 1 17,ex 2 17,d 9 (E (.alloc [.int .i64 0,.ro 1 [] true,.ro 1 [] true,.ro 4 [] true])),n (st 4 9 22),d 10 (m 23),d 11 (m 24)]) (s (s (Q 25 [m 11,nei 25 0,m 26,z 27 (m 10),z 27 (m 0),z 27 (ln 1 29),z 27 (ne 28 30),po 27 31,m 32,z 33 (f 0 9),z 33 (f 1 34),z 33 (l 1 35),z 33 (ln 1 36),z 33 (m 1),z 33 (ln 1 38),z 33 (ne 37 39),po 33 40,m 41,z 42 (f 2 9),z 42 (l 1 43),z 42 (ln 1 44),z 42 (m 2),z 42 (ln 1 46),z 42 (ne 45 47),po 42 48,m 49,z 50 (f 0 9),z 50 (f 0 51),z 50 (l 1 52),z 50 (nei 53 3),po 50 54] [55,9,2,1]) (c 55 (r (O 6 [i 0])))) (s (s (O 12 [i 0]) (bk 0 XY ⟨true,[],[]⟩)) agy)))))⟩
@[simp] theorem aqa:ZL XY Yx ⟨true,[12,9,2,1],[]⟩:=aX rfl
def GX:aA:=zd (r (O 128 [m 5,d 4 (m 128)]))
def Qe:aA:=zd (r (V 113 [m 0,f 1 3,l 1 114,E (.call 630 [T 113,N 0,T 115]),m 5,m 0,f 1 3,l 1 119,m 5,ln 1 121,ad 120 122,m 0,ln 1 124,ca 630 [118,123,125],ca 629 [116,117,126],d 4 (m 127)] [(3,7),(3,9),(3,12)] ⟨false,[],[]⟩))
def Ce:aA:=zd (s (s (O 95 [m 8,m 5,ln 1 96,lt 95 97]) (cc 98 (w .skip) (ee 3))) (s (B 4 (Q 101 [m 5,m 8,m 0,f 1 3,l 1 104,m 8,ad 105 106,ix 6 103 107,f 0 108,l 1 109,ix 6 101 102,f 0 111,n (st 1 112 110)] [8,5,3,0])) (O 99 [m 8,adi 99 1,d 8 (m 100)])))
def MC:aA:=.loop ⟨true,[8,5,3,0],[]⟩ Ce
def yj:aA:=zd (s (s (O 25 [f 0 3,l 1 25]) (bk 2 (s (O 28 [E (.bin .eql (T 26) (.c (.int .u8 1))),d 27 (m 28)]) (cc 27 (r (V 29 [m 0,f 1 3,l 1 30,E (.call 630 [T 29,N 0,T 31]),m 5,m 0,f 1 3,l 1 35,m 0,ln 1 37,ca 630 [34,36,38],ca 629 [32,33,39],d 4 (m 40)] [(3,7),(3,9)] ⟨false,[],[]⟩)) (s (O 42 [E (.bin .eql (T 26) (.c (.int .u8 2))),d 41 (m 42)]) (cc 41 (r (U 43 [m 0,f 1 3,l 1 44,E (.call 630 [T 43,N 0,T 45]),m 0,f 1 3,l 1 48,f 2 3,l 1 50,ad 49 51,m 0,ln 1 53,ca 630 [47,52,54],E (.call 629 [T 46,.c (.ro 6 [] true),T 55]),d 4 (m 56)] [(3,6),(3,8),(3,11)] [4])) (s (O 58 [E (.bin .eql (T 26) (.c (.int .u8 3))),d 57 (m 58)]) (cc 57 (s (U 59 [m 0,f 1 3,l 1 60,E (.call 630 [T 59,N 0,T 61]),m 0,f 1 3,l 1 64,f 2 3,l 1 66,ad 65 67,m 0,ln 1 69,ca 630 [63,68,70],E (.call 629 [T 62,.c (.ro 6 [] true),T 71]),d 7 (m 72)] [(3,6),(3,8),(3,11)] [7,3,0]) (r (V 73 [m 7,f 3 3,l 1 74,E (.call 630 [T 73,N 0,T 75]),m 0,f 1 3,l 1 78,f 1 3,l 1 80,f 2 3,l 1 82,ad 81 83,ca 630 [77,79,84],m 7,f 3 3,l 1 87,m 7,ln 1 89,ca 630 [86,88,90],ca 629 [76,85,91],d 4 (m 92)] [(3,6),(3,8),(3,10),(3,15),(12,15),(3,17),(12,17)] ⟨false,[],[]⟩))) (s (O 94 [E (.bin .eql (T 26) (.c (.int .u8 4))),d 93 (m 94)]) (c 93 (s (s (O 8 [i 0]) (bk 3 MC ⟨true,[5,3,0],[]⟩)) Qe))))))))) ⟨true,[5],[]⟩)) GX)
def Bo:aA:=zd (s (s (O 9 [m 6,f 4 3,l 1 10,ln 1 11,lt 9 12]) (cc 13 (w .skip) (ee 0))) (s (B 1 (Q 16 [m 5,f 4 3,l 1 17,m 6,ix 4 18 19,h 4 20,E (.build [.int .i64 0,.int .i64 0,.int .u64 0,.int .u8 0,.str [],.ro 1 [] true] [(0,1,N (-1)),(1,1,N 1),(2,4,T 21)]),E (.aP [.int .i64 0,.int .i64 0,.int .u64 0,.int .u8 0,.str [],.ro 1 [] true] 1 [(0,T 22)]),E (.app [.int .i64 0,.int .i64 0,.int .u64 0,.int .u8 0,.str [],.ro 1 [] true] 72 false (T 16) (T 23)),d 5 (m 24)] [6,5,3,0])) (O 14 [m 6,adi 14 1,d 6 (m 15)])))
def QA:aA:=.loop ⟨true,[6,5,3,0],[]⟩ Bo
def aiW:WFn:=⟨2,[.tmp 4],zd (s (O 3 [bx 1,E (.mv (.c (.ro 6 [] true)))]) (s (R 5 [E (.mv (.c (.ro 6 [] true)))] ⟨true,[5,3,0],[(5,6)]⟩) (s (s (O 6 [i 0]) (bk 0 QA ⟨true,[5,3,0],[]⟩)) yj)))⟩
@[simp] theorem arf:ZL MC Ce ⟨true,[8,5,3,0],[]⟩:=aX rfl
noncomputable abbrev Gx (C:aH) (s:WSt):Option AV:=CK C 0 (aO [.tmp 4]) [.sq MC,.bk 3 ⟨true,[5,3,0],[]⟩,.sq Qe,.bk 2 ⟨true,[5],[]⟩,.sq GX] Ce s
@[simp] theorem aqS:ZL QA Bo ⟨true,[6,5,3,0],[]⟩:=aX rfl
noncomputable abbrev FQ (C:aH) (s:WSt):Option AV:=CK C 0 (aO [.tmp 4]) [.sq QA,.bk 0 ⟨true,[5,3,0],[]⟩,.sq yj] Bo s
def zW:aA:=zd (r (O 55 [h 4 5,n (st 4 4 55)]))
def lC:aA:=zd (s (s (O 10 [m 6,m 1,ln 1 11,lt 10 12]) (cc 13 (w .skip) (ee 0))) (s (B 1 (s (V 16 [f 0 5,f 1 16,l 1 17,m 1,m 6,ix 6 19 20,f 0 21,l 1 22,E (.aP [.int .i64 0] 1 [(0,T 23)]),E (.app [.int .i64 0] 8 false (T 18) (T 24)),f 0 5,f 1 26,n (st 1 27 25)] [(2,8)] ⟨false,[],[]⟩) (s (U 28 [f 2 5,l 1 28,m 1,m 6,ix 6 30 31,f 1 32,l 1 33,eqi 34 1,E (.aP [.bool false] 1 [(0,T 35)]),E (.app [.bool false] 1 false (T 29) (T 36)),f 2 5,n (st 1 38 37)] [(1,8)] [6,5,4,1]) (s (O 39 [m 1,m 6,ix 6 39 40,f 1 41,l 1 42,eqi 43 1]) (c 44 (V 45 [f 3 5,l 1 45,m 1,m 6,ix 6 47 48,f 2 49,h 4 50,E (.aP [.int .u64 0,.int .u8 0,.str [],.ro 1 [] true] 1 [(0,T 51)]),E (.app [.int .u64 0,.int .u8 0,.str [],.ro 1 [] true] 56 false (T 46) (T 52)),f 3 5,n (st 1 54 53)] [(1,7)] ⟨false,[],[]⟩)))))) (O 14 [m 6,adi 14 1,d 6 (m 15)])))
def Px:aA:=.loop ⟨true,[6,5,4,1],[]⟩ lC
def agn:WFn:=⟨2,[.cell 4 4 true],zd (s (Q 4 [E (.alloc [.int .i64 0,.ro 1 [] true,.ro 1 [] true,.ro 4 [] true])] [4,1,0]) (s (O 5 [E (.alloc [.int .i64 0,.ro 1 [] true,.ro 1 [] true,.ro 4 [] true])]) (s (O 7 [m 0,f 0 5,f 0 8,n (st 1 9 7)]) (s (s (O 6 [i 0]) (bk 0 Px ⟨true,[5,4],[]⟩)) zW))))⟩
@[simp] theorem aqA:ZL Px lC ⟨true,[6,5,4,1],[]⟩:=aX rfl
noncomputable abbrev jm (C:aH) (s:WSt):Option AV:=CK C 0 (aO [.cell 4 4 true]) [.sq Px,.bk 0 ⟨true,[5,4],[]⟩,.sq zW] lC s
def Wv:aA:=zd (r (O 2 [i 0]))
def Ii:aA:=zd (s (O 24 [lt 23 22]) (s (cc 24 (w .skip) (ee 1)) (s (B 2 (s (O 25 [ix 1 21 23,l 1 25,d 5 (m 26)]) (B 3 (s (Q 28 [m 5,lti 28 (-1),m 29,z 30 (m 5),z 30 (f 0 1),z 30 (l 1 32),z 30 (ge 31 33),po 30 34,d 27 (m 35)] [27,23,22,21,5,3,1]) (cc 27 (r (O 2 [i 4])) (s (O 37 [m 5,gei 37 0,m 38,y 39 (m 5),y 39 (E (.gq 4096 1 (T 3) (T 40))),y 39 (l 1 41),pa 39 42,d 36 (m 43)]) (cc 36 (r (O 2 [i 8])) (s (O 45 [m 5,gei 45 0,d 44 (m 46)]) (c 44 (O 47 [m 5,E (.gq 4096 1 (T 3) (T 47)),n (E (.store 1 (T 48) (.c (.bool true))))])))))))))) (O 49 [adi 23 1,d 23 (m 49)]))))
def U2:aA:=.loop ⟨true,[23,22,21,3,1],[]⟩ Ii
def w56:WFn:=⟨1,[.tmp 2],zd (s (O 1 [bx 0,i 0]) (s (B 0 (s (Q 7 [f 0 1,l 1 7,lti 8 0,d 6 (m 9)] [6,1]) (cc 6 (r (O 2 [i 1])) (s (O 11 [f 0 1,l 1 11,gti 12 4096,m 13,z 14 (f 1 1),z 14 (l 1 15),z 14 (ln 1 16),z 14 (gti 17 4096),po 14 18,d 10 (m 19)]) (c 10 (r (O 2 [i 3]))))))) (s (O 3 [E (.alloc (rep 4096 (.bool false)))]) (s (s (O 20 [f 1 1,l 1 20,ln 1 21,i 0]) (bk 1 U2 ⟨true,[],[]⟩)) Wv))))⟩
@[simp] theorem auc:ZL U2 Ii ⟨true,[23,22,21,3,1],[]⟩:=aX rfl
noncomputable abbrev MS (C:aH) (s:WSt):Option AV:=CK C 0 (aO [.tmp 2]) [.sq U2,.bk 1 ⟨true,[],[]⟩,.sq Wv] Ii s
def Qy:aA:=zd (r (O 79 [h 1 3,ca 227 [79],d 4 (m 80)]))
def lS:aA:=zd (s (O 26 [lt 25 24]) (s (cc 26 (w .skip) (ee 0)) (s (B 1 (s (O 27 [ix 6 23 25,h 6 27,d 8 (E (.alloc [.int .u64 0,.int .u8 0,.str [],.ro 1 [] true,.int .i64 0,.bool false])),n (st 6 8 28)]) (s (s (O 29 [f 0 8,h 4 29,f 0 2,l 1 31,ln 1 32,ca 398 [30,33],d 9 (m 34)]) (s (O 35 [m 9,nei 35 0]) (c 36 (r (O 37 [m 9,d 4 (m 37)]))))) (s (s (Q 38 [m 6,f 0 8,f 0 39,l 1 40,E (.look 0 (.bool false) false (T 38) (T 41))] [42,25,24,23,8,6,3,2]) (c 42 (r (O 4 [i 8])))) (s (O 43 [m 6,f 0 8,f 0 44,l 1 45,n (E (.upd 0 (T 43) (T 46) (.c (.bool true))))]) (s (s (O 48 [h 2 2,f 0 8,h 4 49,ca 399 [48,50],d 47 (m 51),ex 0 47,ex 1 47,d 10 (E (.alloc [.int .u8 0,.str [],.str [],.ro 2 [] true,.str [],.ro 6 [] true])),n (st 6 10 52),d 11 (m 53)]) (s (O 54 [m 11,nei 54 0]) (c 55 (r (O 4 [i 14]))))) (s (U 56 [f 4 8,l 1 56,ca 225 [57],nt 58,m 59,z 60 (f 5 8),z 60 (l 1 61),z 60 (nt 62),z 60 (m 63),y 64 (f 4 8),y 64 (l 1 65),y 64 (f 0 2),y 64 (l 1 67),y 64 (f 0 8),y 64 (f 1 69),y 64 (l 1 70),y 64 (ix 9 68 71),y 64 (f 6 72),y 64 (l 1 73),y 64 (ne 66 74),z 60 (pa 64 75),po 60 76] [] [77,25,24,23,6,3,2]) (c 77 (r (O 4 [i 12])))))))))) (O 78 [adi 25 1,d 25 (m 78)]))))
def Oq:aA:=.loop ⟨true,[25,24,23,6,3,2],[]⟩ lS
def aah:WFn:=⟨2,[.tmp 4],zd (s (O 2 [bx 0,bx 1,i 0]) (s (s (O 12 [h 2 2,ca 115 [12],d 5 (m 13)]) (s (O 14 [m 5,nei 14 0]) (c 15 (r (O 16 [m 5,d 4 (m 16)]))))) (s (s (Q 17 [f 0 3,l 1 17,ln 1 18,gti 19 1024] [20,3,2]) (c 20 (r (O 4 [i 3])))) (s (O 21 [E .lY,d 6 (m 21)]) (s (s (O 22 [f 0 3,l 1 22,ln 1 23,i 0]) (bk 0 Oq ⟨true,[3],[]⟩)) Qy)))))⟩
@[simp] theorem ap5:ZL Oq lS ⟨true,[25,24,23,6,3,2],[]⟩:=aX rfl
noncomputable abbrev nJ (C:aH) (s:WSt):Option AV:=CK C 0 (aO [.tmp 4]) [.sq Oq,.bk 0 ⟨true,[3],[]⟩,.sq Qy] lS s
def Yv:aA:=zd (r (O 23 [m 3,d 2 (m 23)]))
def Oj:aA:=zd (s (O 10 [lt 9 8]) (s (cc 10 (w .skip) (ee 0)) (s (B 1 (s (O 11 [m 9,d 4 (m 11)]) (O 12 [m 3,m 4,m 3,m 4,ix 4 14 15,f 3 16,l 1 17,ca 460 [18],ix 4 12 13,f 3 20,n (st 1 21 19)]))) (O 22 [adi 9 1,d 9 (m 22)]))))
def XO:aA:=.loop ⟨true,[9,8,3],[]⟩ Oj
def agE:WFn:=⟨1,[.tmp 2],zd (s (O 2 [E (.mv (.c (.ro 4 [] true)))]) (s (Q 5 [m 0,ca 459 [5],d 3 (m 6)] [3]) (s (s (O 7 [m 3,ln 1 7,i 0]) (bk 0 XO ⟨true,[3],[]⟩)) Yv)))⟩
@[simp] theorem aq7:ZL XO Oj ⟨true,[9,8,3],[]⟩:=aX rfl
def sK:aA:=zd (r (O 23 [m 3,d 2 (m 23)]))
def lI:aA:=zd (s (O 10 [lt 9 8]) (s (cc 10 (w .skip) (ee 0)) (s (B 1 (s (O 11 [m 9,d 4 (m 11)]) (O 12 [m 3,m 4,m 3,m 4,ix 4 14 15,f 3 16,l 1 17,ca 5045 [18],ix 4 12 13,f 3 20,n (st 1 21 19)]))) (O 22 [adi 9 1,d 9 (m 22)]))))
def CP:aA:=.loop ⟨true,[9,8,3],[(9999,65537)]⟩ lI
def KY:WFn:=⟨1,[.tmp 2],zd (s (O 2 [E (.mv (.c (.ro 4 [] true)))]) (s (R 5 [m 0,ca 459 [5],d 3 (m 6)] ⟨true,[3],[(9999,65537)]⟩) (s (s (O 7 [m 3,ln 1 7,i 0]) (bk 0 CP ⟨true,[3],[(9999,65537)]⟩)) sK)))⟩
@[simp] theorem aoU:ZL CP lI ⟨true,[9,8,3],[(9999,65537)]⟩:=aX rfl
def QW:WFn:=⟨1,[.tmp 2],zd (s (O 2 [E (.mv (.c (.ro 6 [] true)))]) (s (s (O 4 [m 0,ln 1 4,eqi 5 0]) (c 6 (r (O 2 [E (.mv (.c (.ro 6 [] true)))])))) (s (O 7 [m 0,ln 1 7,E (.kE [.int .u64 0,.int .u8 0,.str [],.ro 1 [] true,.int .i64 0,.bool false] 72 (T 8) (T 8)),d 3 (m 9)]) (s (O 10 [m 3,m 0,E (.cpy 6 (T 10) (T 11))]) (r (O 13 [m 3,d 2 (m 13)]))))))⟩
def ag2:WFn:=⟨2,[.tmp 4],zd (s (O 2 [bx 0,bx 1,i 0]) (s (s (Q 5 [f 0 2,l 1 5,f 0 3,l 1 7,ne 6 8,m 9,z 10 (f 1 2),z 10 (l 1 11),z 10 (f 1 3),z 10 (l 1 13),z 10 (ne 12 14),po 10 15,m 16,z 17 (f 2 2),z 17 (l 1 18),z 17 (f 2 3),z 17 (l 1 20),z 17 (ne 19 21),po 17 22,m 23,z 24 (f 3 2),z 24 (l 1 25),z 24 (f 3 3),z 24 (l 1 27),z 24 (ne 26 28),po 24 29] [30,3,2]) (c 30 (r (O 4 [i 0])))) (r (O 31 [f 4 2,l 1 31,f 4 3,l 1 33,ca 357 [32,34],d 4 (m 35)]))))⟩
def wU:aA:=zd (r (O 2 [i 0]))
def uf:aA:=zd (s (s (O 16 [m 4,lti 16 4]) (cc 17 (w .skip) (ee 0))) (s (B 1 (s (Q 20 [m 4,E (.gq 4 1 (T 3) (T 20)),l 1 21,eqi 22 0,m 23,y 24 (f 1 1),y 24 (l 1 25),y 24 (f 2 1),y 24 (l 1 27),y 24 (f 3 1),y 24 (l 1 29),y 24 (f 4 1),y 24 (l 1 31),y 24 (ln 1 32),y 24 (E (.aP [.int .i64 0] 4 [(0,T 26),(1,T 28),(2,T 30),(3,T 33)])),y 24 (m 4),y 24 (ix 1 34 35),y 24 (l 1 36),y 24 (nei 37 0),pa 24 38] [39,4,3,1]) (c 39 (r (O 2 [i 5]))))) (O 18 [m 4,adi 18 1,d 4 (m 19)])))
def YT:aA:=.loop ⟨true,[4,3,1],[]⟩ uf
def Kw:WFn:=⟨1,[.tmp 2],zd (s (O 1 [bx 0,i 0]) (s (s (O 5 [f 0 1,l 1 5,E (.bin .lss (T 6) (.c (.int .u8 1))),m 7,z 8 (f 0 1),z 8 (l 1 9),z 8 (E (.bin .gtr (T 10) (.c (.int .u8 5)))),po 8 11]) (c 12 (r (O 2 [i 1])))) (s (O 13 [f 0 1,l 1 13,ca 455 [14],d 3 (E (.alloc [.int .i64 0,.int .i64 0,.int .i64 0,.int .i64 0])),n (st 4 3 15)]) (s (s (O 4 [i 0]) (bk 0 YT ⟨true,[],[]⟩)) wU))))⟩
@[simp] theorem aqk:ZL YT uf ⟨true,[4,3,1],[]⟩:=aX rfl
def J7:WFn:=⟨1,[.tmp 2],zd (s (O 1 [bx 0,i 0]) (s (s (O 4 [f 0 1,l 1 4,E (.bin .lss (T 5) (.c (.int .u8 1))),m 6,z 7 (f 0 1),z 7 (l 1 8),z 7 (E (.bin .gtr (T 9) (.c (.int .u8 5)))),po 7 10]) (c 11 (r (O 2 [i 1])))) (s (V 12 [ca 457 [],f 0 1,l 1 13,E (.vI 6 6 true (T 12) (T 14)),d 3 (E (.alloc [.str [],.bool false,.bool false,.bool false,.bool false,.bQ])),n (st 6 3 15)] [(0,2),(0,4),(2,4)] ⟨false,[],[]⟩) (s (s (Q 16 [f 1 3,l 1 16,nt 17,m 18,y 19 (f 1 1),y 19 (l 1 20),y 19 (nei 21 0),pa 19 22,m 23,z 24 (f 2 3),z 24 (l 1 25),z 24 (nt 26),z 24 (m 27),y 28 (f 2 1),y 28 (l 1 29),y 28 (nei 30 0),z 24 (pa 28 31),po 24 32,m 33,z 34 (f 3 3),z 34 (l 1 35),z 34 (nt 36),z 34 (m 37),y 38 (f 3 1),y 38 (l 1 39),y 38 (nei 40 0),z 34 (pa 38 41),po 34 42,m 43,z 44 (f 4 3),z 44 (l 1 45),z 44 (nt 46),z 44 (m 47),y 48 (f 4 1),y 48 (l 1 49),y 48 (ln 1 50),y 48 (gti 51 0),z 44 (pa 48 52),po 44 53] [54]) (c 54 (r (O 2 [i 5])))) (r (O 2 [i 0]))))))⟩
def apj:WFn:=⟨1,[.tmp 2],zd (s (O 1 [bx 0,ff]) (s (s (O 3 [f 0 1,l 1 3]) (B 0 (s (B 3 (s (B 2 (s (B 1 (s (s (s (s (Q 6 [E (.bin .eql (T 4) (.c (.int .u8 1))),d 5 (m 6)] [5,4,1]) (cc 5 (w .skip) (O 7 [E (.bin .eql (T 4) (.c (.int .u8 4))),d 5 (m 7)]))) (c 5 (ee 1))) (s (s (O 9 [E (.bin .eql (T 4) (.c (.int .u8 3))),d 8 (m 9)]) (c 8 (ee 2))) (s (O 11 [E (.bin .eql (T 4) (.c (.int .u8 2))),d 10 (m 11)]) (c 10 (ee 3))))) (ee 0))) (s (r (O 12 [f 4 1,l 1 12,ln 1 13,eqi 14 0,d 2 (m 15)])) (ee 0)))) (s (O 16 [f 3 1,l 1 16,f 1 1,l 1 18,eq 17 19]) (c 20 (r (O 2 [tt])))))) (s (r (O 21 [f 2 1,l 1 21,eqi 22 0,d 2 (m 23)])) (ee 0))))) (r (O 2 [ff]))))⟩
def anH:WFn:=⟨2,[.cell 4 5 true,.tmp 5],zd (s (O 2 [bx 0,bx 1,E (.alloc [.int .u8 0,.int .i64 0,.int .i64 0,.int .i64 0,.ro 4 [] true]),ff]) (s (O 9 [f 4 2,l 1 9,ln 1 10,d 6 (m 11)]) (s (B 0 (s (Q 13 [f 0 2,l 1 13,E (.bin .eql (T 14) (.c (.int .u8 1))),m 15,y 16 (f 0 3),y 16 (l 1 17),y 16 (E (.bin .eql (T 18) (.c (.int .u8 1)))),pa 16 19,d 12 (m 20)] [12,6,4,3,2]) (cc 12 (s (s (Q 21 [f 1 2,l 1 21,lti 22 0,m 23,z 24 (f 1 3),z 24 (l 1 25),z 24 (f 1 2),z 24 (l 1 27),z 24 (lt 26 28),po 24 29,m 30,z 31 (f 1 3),z 31 (l 1 32),z 31 (f 1 2),z 31 (l 1 34),z 31 (sb 33 35),z 31 (m 6),z 31 (gt 36 37),po 31 38] [39,4,3,2]) (c 39 (r (O 40 [h 5 2,n (st 5 4 40),d 5 ff])))) (s (O 41 [f 4 2,l 1 41,f 1 3,l 1 43,f 1 2,l 1 45,sb 44 46,f 4 3,l 1 48,E (.call 458 [T 42,T 47,N 0,T 49]),f 4 2,n (st 1 51 50)]) (r (Q 52 [h 5 2,n (st 5 4 52),d 5 tt] [5,4])))) (s (O 54 [f 0 2,l 1 54,E (.bin .eql (T 55) (.c (.int .u8 2))),m 56,y 57 (f 0 3),y 57 (l 1 58),y 57 (E (.bin .eql (T 59) (.c (.int .u8 2)))),pa 57 60,d 53 (m 61)]) (cc 53 (s (s (Q 62 [f 2 2,l 1 62,lti 63 0,m 64,z 65 (f 2 3),z 65 (l 1 66),z 65 (lti 67 0),po 65 68,m 69,z 70 (f 1 3),z 70 (l 1 71),z 70 (lti 72 0),po 70 73,m 74,z 75 (f 1 3),z 75 (l 1 76),z 75 (f 1 2),z 75 (l 1 78),z 75 (gt 77 79),po 75 80,m 81,z 82 (f 1 2),z 82 (l 1 83),z 82 (f 1 3),z 82 (l 1 85),z 82 (sb 84 86),z 82 (f 2 3),z 82 (l 1 88),z 82 (gt 87 89),po 82 90,m 91,z 92 (f 2 2),z 92 (l 1 93),z 92 (f 2 3),z 92 (l 1 95),z 92 (ad 94 96),z 92 (lti 97 0),po 92 98] [99,4,3,2]) (c 99 (r (O 100 [h 5 2,n (st 5 4 100),d 5 ff])))) (r (O 101 [f 1 3,l 1 101,f 2 2,l 1 103,f 2 3,l 1 105,ad 104 106,E (.build [.int .u8 0,.int .i64 0,.int .i64 0,.int .i64 0,.ro 4 [] true] [(0,1,.c (.int .u8 2)),(1,1,T 102),(2,1,T 107)]),n (st 5 4 108),d 5 tt]))) (s (O 110 [f 0 2,l 1 110,E (.bin .neq (T 111) (.c (.int .u8 5))),d 109 (m 112)]) (c 109 (r (O 113 [h 5 2,n (st 5 4 113),d 5 ff]))))))))) (s (V 114 [f 1 3,l 1 114,f 4 3,l 1 116,ln 1 117,d 7 (m 115),d 8 (m 118)] [] ⟨false,[],[]⟩) (s (s (O 119 [f 0 3,l 1 119]) (B 1 (s (O 123 [E (.bin .eql (T 120) (.c (.int .u8 1))),d 122 (m 123)]) (cc 122 (O 8 [i 0]) (s (O 125 [E (.bin .eql (T 120) (.c (.int .u8 2))),d 124 (m 125)]) (cc 124 (O 126 [f 2 3,l 1 126,d 8 (m 127)]) (s (O 129 [E (.bin .eql (T 120) (.c (.int .u8 4))),d 128 (m 129)]) (cc 128 (w .skip) (r (O 121 [h 5 2,n (st 5 4 121),d 5 ff])))))))))) (s (s (Q 130 [m 7,lti 130 0,m 131,z 132 (m 7),z 132 (m 6),z 132 (gt 133 134),po 132 135,m 136,z 137 (m 8),z 137 (lti 138 0),po 137 139,m 140,z 141 (m 8),z 141 (m 6),z 141 (m 7),z 141 (sb 143 144),z 141 (gt 142 145),po 141 146] [147,8,7,4,3,2]) (c 147 (r (O 148 [h 5 2,n (st 5 4 148),d 5 ff])))) (s (O 149 [f 4 2,l 1 149,m 7,m 8,f 4 3,l 1 153,ca 458 [150,151,152,154],f 4 2,n (st 1 156 155)]) (r (O 157 [h 5 2,n (st 5 4 157),d 5 tt])))))))))⟩
def aoN:WFn:=⟨1,[.tmp 2],zd (s (O 2 [E (.mv (.c (.ro 5 [] true)))]) (s (s (O 4 [m 0,ln 1 4,eqi 5 0]) (c 6 (r (O 2 [E (.mv (.c (.ro 5 [] true)))])))) (s (O 7 [m 0,ln 1 7,E (.kE [.int .u8 0,.int .i64 0,.int .i64 0,.int .i64 0,.ro 4 [] true] 56 (T 8) (T 8)),d 3 (m 9)]) (s (O 10 [m 3,m 0,E (.cpy 5 (T 10) (T 11))]) (r (O 13 [m 3,d 2 (m 13)]))))))⟩
def O6:WFn:=⟨3,[.cell 6 1 true,.tmp 7],zd (s (O 3 [bx 0,bx 1,bx 2,E (.alloc [.ro 6 [] true]),i 0]) (s (s (O 10 [h 2 3,h 1 4,ca 223 [10,11],d 8 (m 12)]) (s (O 13 [m 8,nei 13 0]) (c 14 (r (Q 15 [E (.build [.ro 6 [] true] []),m 8,n (st 1 6 15),d 7 (m 16)] [7,6]))))) (s (s (O 17 [h 5 5,ca 336 [17],d 9 (m 18)]) (s (O 19 [m 9,nei 19 0]) (c 20 (r (O 21 [E (.build [.ro 6 [] true] []),m 9,n (st 1 6 21),d 7 (m 22)]))))) (r (V 23 [ca 457 [],f 0 5,l 1 24,E (.vI 6 6 true (T 23) (T 25)),E (.yU 5 1 false (T 26)),h 2 3,h 1 4,h 5 5,E (.dN (T 27) [T 28,T 29,T 30]),ex 0 31,ex 1 31,n (st 1 6 32),d 7 (m 33)] [(0,2),(0,5),(0,6),(0,7)] ⟨false,[],[]⟩)))))⟩
def jo:aA:=zd (s (V 64 [f 4 5,l 1 64,h 2 3,f 2 5,l 1 67,ca 400 [66,68],E (.dN (T 65) [T 69]),ca 226 [70],d 12 (E (.alloc [.ro 6 [] true])),n (st 1 12 71)] [(1,5),(1,8),(2,8),(4,8),(5,8),(6,8),(7,8)] ⟨false,[],[]⟩) (s (s (O 72 [h 1 12,ca 227 [72],d 13 (m 73)]) (s (O 74 [m 13,nei 74 0]) (c 75 (r (O 76 [E (.build [.ro 6 [] true] []),m 13,n (st 1 6 76),d 7 (m 77)]))))) (r (O 78 [h 1 12,n (st 1 6 78),d 7 (i 0)]))))
def dO:aA:=zd (s (O 35 [lt 34 33]) (s (cc 35 (w .skip) (ee 1)) (s (B 2 (s (O 36 [m 34,ix 4 32 34,h 4 37,d 10 (E (.alloc [.int .u64 0,.int .u8 0,.str [],.ro 1 [] true])),d 9 (m 36),n (st 4 10 38)]) (s (Q 39 [h 4 10,f 0 3,l 1 40,ln 1 41,ca 398 [39,42],d 11 (m 43)] [34,33,32,11,10,9,6,5,3]) (s (s (O 44 [m 11,eqi 44 0]) (c 45 (O 46 [f 3 5,l 1 46,m 9,h 4 10,E (.dN (T 47) [T 48,T 49]),d 11 (m 50)]))) (s (s (O 51 [m 11,eqi 51 0]) (c 52 (O 54 [h 2 3,h 4 10,ca 399 [54,55],d 53 (m 56),ex 0 53,ex 1 53,d 11 (m 58)]))) (s (O 59 [m 11,nei 59 0]) (c 60 (r (O 61 [E (.build [.ro 6 [] true] []),m 11,n (st 1 6 61),d 7 (m 62)]))))))))) (Q 63 [adi 34 1,d 34 (m 63)] [34,33,32,6,5,3]))))
def Di:aA:=.loop ⟨true,[34,33,32,6,5,3],[]⟩ dO
def rD:WFn:=⟨3,[.cell 6 1 true,.tmp 7],zd (s (O 3 [bx 0,bx 1,bx 2,E (.alloc [.ro 6 [] true]),i 0]) (s (s (O 14 [h 2 3,h 1 4,ca 223 [14,15],d 8 (m 16)]) (s (O 17 [m 8,nei 17 0]) (c 18 (r (O 19 [E (.build [.ro 6 [] true] []),m 8,n (st 1 6 19),d 7 (m 20)]))))) (s (B 0 (s (Q 22 [f 0 5,l 1 22,nt 23,d 21 (m 24)] [21,6,5,3]) (cc 21 (r (O 25 [E (.build [.ro 6 [] true] []),n (st 1 6 25),d 7 (i 4)])) (s (O 27 [f 1 5,l 1 27,gti 28 1024,d 26 (m 29)]) (c 26 (r (O 30 [E (.build [.ro 6 [] true] []),n (st 1 6 30),d 7 (i 3)]))))))) (s (s (O 31 [f 2 5,l 1 31,ln 1 32,i 0]) (bk 1 Di ⟨true,[6,5,3],[]⟩)) jo))))⟩
@[simp] theorem arh:ZL Di dO ⟨true,[34,33,32,6,5,3],[]⟩:=aX rfl
noncomputable abbrev uY (C:aH) (s:WSt):Option AV:=CK C 0 (aO [.cell 6 1 true,.tmp 7]) [.sq Di,.bk 1 ⟨true,[6,5,3],[]⟩,.sq jo] dO s
def BN:aA:=zd (r (O 18 [E (.iW 401 [T 3]),d 2 (m 18)]))
def qV:aA:=zd (s (O 10 [lt 9 8]) (s (cc 10 (w .skip) (ee 0)) (s (B 1 (s (O 11 [ix 6 7 9,h 6 11,d 5 (E (.alloc [.int .u64 0,.int .u8 0,.str [],.ro 1 [] true,.int .i64 0,.bool false])),n (st 6 5 12)]) (O 13 [l 1 3,f 0 5,f 0 14,l 1 15,n (E (.upd 0 (T 13) (T 16) (.c (.bool true))))]))) (O 17 [adi 9 1,d 9 (m 17)]))))
def Gt:aA:=.loop ⟨true,[9,8,7,3],[]⟩ qV
def adb:WFn:=⟨1,[.tmp 2],zd (s (O 2 [E (.mv (.c .bQ))]) (s (O 6 [E .lY,d 3 (E (.alloc [.dU])),n (st 1 3 6)]) (s (s (O 7 [m 0,ln 1 7,i 0]) (bk 0 Gt ⟨true,[3],[]⟩)) BN)))⟩
@[simp] theorem apA:ZL Gt qV ⟨true,[9,8,7,3],[]⟩:=aX rfl
def aia:WFn:=⟨1,[.tmp 2],zd (s (O 2 [E (.mv (.c (.ro 6 [] true)))]) (r (O 3 [m 0,d 2 (m 3)])))⟩
def ada:WFn:=⟨3,[.tmp 6],zd (s (O 6 [ff]) (r (O 7 [m 0,gei 7 0,m 8,y 9 (m 0),y 9 (m 2),y 9 (le 10 11),pa 9 12,m 13,y 14 (m 1),y 14 (gei 15 0),pa 14 16,m 17,y 18 (m 1),y 18 (m 2),y 18 (m 0),y 18 (sb 20 21),y 18 (le 19 22),pa 18 23,d 6 (m 24)])))⟩
def afl:WFn:=⟨3,[.tmp 4],zd (s (O 4 [E (.mv (.c (.ro 6 [] true)))]) (r (O 5 [f 0 1,l 1 5,l 1 2,m 0,E (.call 221 [T 6,T 7,N 0,T 8]),d 4 (m 9)])))⟩
def ajd:WFn:=⟨4,[.tmp 8],zd (s (O 8 [E (.mv (.c (.ro 6 [] true)))]) (s (Q 10 [m 0,ln 1 10,m 2,sb 11 12,m 3,ln 1 14,ad 13 15,E (.kE [.int .u64 0,.int .u8 0,.str [],.ro 1 [] true,.int .i64 0,.bool false] 72 (N 0) (T 16)),d 9 (m 17)] [9,3,2,1,0]) (s (O 18 [m 9,m 0,m 1,E (.slice 6 (T 19) none (some (T 20)) none),E (.app [.int .u64 0,.int .u8 0,.str [],.ro 1 [] true,.int .i64 0,.bool false] 72 false (T 18) (T 21)),d 9 (m 22)]) (s (O 23 [m 9,m 3,E (.app [.int .u64 0,.int .u8 0,.str [],.ro 1 [] true,.int .i64 0,.bool false] 72 false (T 23) (T 24)),d 9 (m 25)]) (r (O 26 [m 9,m 0,m 1,m 2,ad 28 29,E (.slice 6 (T 27) (some (T 30)) none none),E (.app [.int .u64 0,.int .u8 0,.str [],.ro 1 [] true,.int .i64 0,.bool false] 72 false (T 26) (T 31)),d 8 (m 32)]))))))⟩
def ahG:WFn:=⟨4,[.tmp 5],zd (s (O 5 [E (.mv (.c (.ro 6 [] true)))]) (r (O 6 [f 0 1,l 1 6,l 1 2,l 1 3,E (.call 221 [T 7,T 8,T 9,.c (.ro 6 [] true)]),d 5 (m 10)])))⟩
def ahR:WFn:=⟨1,[.tmp 2],zd (s (O 2 [ff]) (r (O 3 [m 0,gei 3 1,m 4,y 5 (m 0),y 5 (lei 6 2305843009213693952),pa 5 7,d 2 (m 8)])))⟩
def OX:aA:=zd (r (O 32 [m 3,E (.build [.ro 6 [] true] [(0,1,T 32)]),n (st 1 2 33)]))
def BZ:aA:=zd (s (O 16 [lt 15 14]) (s (cc 16 (w .skip) (ee 0)) (s (B 1 (s (Q 17 [m 15,ix 6 13 15,h 6 18,d 5 (E (.alloc [.int .u64 0,.int .u8 0,.str [],.ro 1 [] true,.int .i64 0,.bool false])),d 4 (m 17),n (st 6 5 19)] [15,14,13,5,4,3,2]) (s (O 20 [f 0 5,h 4 20,E (.aP [.int .u64 0,.int .u8 0,.str [],.ro 1 [] true] 1 [(0,T 21)]),ca 340 [22],E (.idxs 4 (T 23) (N 0)),h 4 24,f 0 5,n (st 4 26 25)]) (O 27 [m 3,m 4,h 6 5,ix 6 27 28,n (st 6 30 29)])))) (O 31 [adi 15 1,d 15 (m 31)]))))
def QH:aA:=.loop ⟨true,[15,14,13,3,2],[]⟩ BZ
def ab1:WFn:=⟨1,[.cell 2 1 true],zd (s (O 2 [E (.alloc [.ro 6 [] true])]) (s (s (O 6 [m 0,ln 1 6,eqi 7 0]) (c 8 (r (O 9 [E (.build [.ro 6 [] true] []),n (st 1 2 9)])))) (s (O 10 [m 0,ln 1 10,E (.kE [.int .u64 0,.int .u8 0,.str [],.ro 1 [] true,.int .i64 0,.bool false] 72 (T 11) (T 11)),d 3 (m 12)]) (s (s (O 13 [m 0,ln 1 13,i 0]) (bk 0 QH ⟨true,[3,2],[]⟩)) OX))))⟩
@[simp] theorem aqD:ZL QH BZ ⟨true,[15,14,13,3,2],[]⟩:=aX rfl
noncomputable abbrev Gf (C:aH) (s:WSt):Option AV:=CK C 0 (aO [.cell 2 1 true]) [.sq QH,.bk 0 ⟨true,[3,2],[]⟩,.sq OX] BZ s
def agv:WFn:=⟨1,[.tmp 2],zd (s (O 1 [bx 0,i 0]) (s (s (O 3 [h 1 1,ca 111 [3],gti 4 4611686018427387904]) (c 5 (r (O 2 [i 13])))) (r (O 2 [i 0]))))⟩
def aeZ:WFn:=⟨4,[.tmp 6],zd (s (O 5 [bx 1,i 0]) (s (s (V 7 [f 0 2,l 1 7,l 1 3,m 0,ad 9 10,ix 6 8 11,f 0 12,f 0 13,l 1 14,f 0 5,l 1 16,ne 15 17] [] ⟨false,[],[]⟩) (c 18 (r (O 6 [i 9])))) (r (O 6 [i 0]))))⟩
def ahB:WFn:=⟨4,[.tmp 5],zd (s (O 5 [E (.mv (.c (.ro 6 [] true)))]) (r (O 6 [f 0 1,l 1 6,l 1 2,l 1 3,ln 1 9,m 0,ca 221 [7,8,10,11],d 5 (m 12)])))⟩
def Y8:WFn:=⟨1,[.tmp 2],zd (s (O 1 [bx 0,ff]) (r (O 3 [f 6 1,l 1 3,ca 225 [4],nt 5,m 6,z 7 (f 0 1),z 7 (h 6 8),z 7 (ca 231 [9]),z 7 (nei 10 0),po 7 11,d 2 (m 12)])))⟩
def aeA:WFn:=⟨1,[.tmp 2],zd (s (O 1 [bx 0,i 0]) (s (s (O 3 [h 6 1,ca 404 [3],eqi 4 0]) (c 5 (r (O 2 [i 14])))) (r (O 2 [i 0]))))⟩
def acn:WFn:=⟨2,[.tmp 4],zd (s (O 4 [ff]) (r (O 5 [m 0,m 1,ca 405 [5,6],gei 7 0,d 4 (m 8)])))⟩
def abW:WFn:=⟨5,[.cell 10 1 true,.tmp 11],zd (s (R 5 [bx 0,bx 1,bx 2,bx 3,bx 4,E (.alloc [.ro 6 [] true]),i 0] ⟨true,[10,9,8,7,6,5],[(5,65536),(6,65536),(7,65536),(8,65536),(9,65536)]⟩) (s (Q 13 [l 1 7,l 1 8,f 0 6,l 1 15,ln 1 16,ca 219 [13,14,17],d 12 (m 18)] [12,10,9,8,7,6,5]) (r (V 19 [h 2 5,h 1 6,m 12,m 21,y 22 (l 1 9),y 22 (f 0 6),y 22 (l 1 24),y 22 (ln 1 25),y 22 (l 1 8),y 22 (sb 26 27),y 22 (E (.call 219 [T 23,N 0,T 28])),pa 22 29,E (.iW 409 [T 6,T 7,T 8,T 9]),E (.build [.bool false,.int .i64 0,.ro 4 [] true,.bQ,.bQ] [(0,1,T 30),(4,1,T 31)]),ca 216 [19,20,32],ex 0 33,ex 1 33,n (st 1 10 34),d 11 (m 35)] [(0,10),(1,10)] ⟨false,[],[]⟩))))⟩
def GV:aA:=zd (r (O 6 [d 39 (m 8),m 39,i 0]))
def uF:aA:=zd (s (s (O 16 [m 9,m 0,ln 1 17,lt 16 18]) (cc 19 (w .skip) (ee 0))) (s (B 1 (s (Q 22 [m 9,m 1,lt 22 23,m 24,z 25 (m 9),z 25 (m 1),z 25 (m 2),z 25 (ad 27 28),z 25 (ge 26 29),po 25 30] [31,9,8,2,1,0]) (c 31 (O 32 [m 8,m 0,m 9,ix 6 33 34,h 6 35,E (.aP [.int .u64 0,.int .u8 0,.str [],.ro 1 [] true,.int .i64 0,.bool false] 1 [(0,T 36)]),E (.app [.int .u64 0,.int .u8 0,.str [],.ro 1 [] true,.int .i64 0,.bool false] 72 false (T 32) (T 37)),d 8 (m 38)])))) (O 20 [m 9,adi 20 1,d 9 (m 21)])))
def PX:aA:=.loop ⟨true,[9,8,2,1,0],[]⟩ uF
def ach:WFn:=⟨3,[.tmp 6,.tmp 7],zd (s (O 6 [E (.mv (.c (.ro 6 [] true))),i 0]) (s (s (O 10 [m 1,m 2,m 0,ln 1 12,ca 410 [10,11,13],eqi 14 0]) (c 15 (r (O 6 [E (.mv (.c (.ro 6 [] true))),i 4])))) (s (R 8 [E (.mv (.c (.ro 6 [] true)))] ⟨true,[8,2,1,0],[(8,6)]⟩) (s (s (O 9 [i 0]) (bk 0 PX ⟨true,[8],[]⟩)) GV))))⟩
@[simp] theorem ap4:ZL PX uF ⟨true,[9,8,2,1,0],[]⟩:=aX rfl
noncomputable abbrev yw (C:aH) (s:WSt):Option AV:=CK C 0 (aO [.tmp 6,.tmp 7]) [.sq PX,.bk 0 ⟨true,[8],[]⟩,.sq GV] uF s
def Ac:aA:=zd (r (O 8 [d 73 (m 12),m 73,i 0]))
def xO:aA:=zd (O 41 [m 13,adi 41 1,d 13 (m 42)])
def yD:aA:=zd (s (O 62 [m 13,m 10,ln 1 63,lt 62 64]) (c 65 (O 66 [m 12,m 10,m 13,ix 6 67 68,h 6 69,E (.aP [.int .u64 0,.int .u8 0,.str [],.ro 1 [] true,.int .i64 0,.bool false] 1 [(0,T 70)]),E (.app [.int .u64 0,.int .u8 0,.str [],.ro 1 [] true,.int .i64 0,.bool false] 72 false (T 66) (T 71)),d 12 (m 72)])))
def xY:aA:=zd (s (s (O 43 [m 13,m 3,eq 43 44,m 45,y 46 (m 14),y 46 (m 2),y 46 (lt 47 48),pa 46 49]) (cc 50 (w .skip) (ee 2))) (s (B 3 (Q 53 [m 12,m 0,m 1,m 14,ad 55 56,ix 6 54 57,h 6 58,E (.aP [.int .u64 0,.int .u8 0,.str [],.ro 1 [] true,.int .i64 0,.bool false] 1 [(0,T 59)]),E (.app [.int .u64 0,.int .u8 0,.str [],.ro 1 [] true,.int .i64 0,.bool false] 72 false (T 53) (T 60)),d 12 (m 61)] [14,13,12,10,3,2,1,0])) (O 51 [m 14,adi 51 1,d 14 (m 52)])))
def OT:aA:=.loop ⟨true,[14,13,12,10,3,2,1,0],[]⟩ xY
def CW:aA:=zd (s (s (O 37 [m 13,m 10,ln 1 38,le 37 39]) (cc 40 (w .skip) (ee 0))) (s (bk 1 (s (s (O 14 [i 0]) (bk 2 OT ⟨true,[13,12,10,3,2,1,0],[]⟩)) yD) ⟨true,[13,12,10,3,2,1,0],[]⟩) xO))
def GU:aA:=.loop ⟨true,[13,12,10,3,2,1,0],[]⟩ CW
def aaq:WFn:=⟨4,[.tmp 8,.tmp 9],zd (s (O 8 [E (.mv (.c (.ro 6 [] true))),i 0]) (s (s (O 15 [m 1,m 2,m 0,ln 1 17,ca 410 [15,16,18],eqi 19 0,m 20,z 21 (m 3),z 21 (m 0),z 21 (ln 1 23),z 21 (m 2),z 21 (sb 24 25),z 21 (E (.call 410 [T 22,N 0,T 26])),z 21 (eqi 27 0),po 21 28]) (c 29 (r (O 8 [E (.mv (.c (.ro 6 [] true))),i 4])))) (s (Q 31 [m 0,m 1,m 2,ca 241 [31,32,33],d 30 (m 34),ex 0 30,ex 1 30,d 10 (m 35),d 11 (m 36)] [10,3,2,1,0]) (s (R 12 [E (.mv (.c (.ro 6 [] true)))] ⟨true,[12,10,3,2,1,0],[(12,6)]⟩) (s (s (O 13 [i 0]) (bk 0 GU ⟨true,[12],[]⟩)) Ac)))))⟩
@[simp] theorem apH:ZL OT xY ⟨true,[14,13,12,10,3,2,1,0],[]⟩:=aX rfl
noncomputable abbrev tX (C:aH) (s:WSt):Option AV:=CK C 0 (aO [.tmp 8,.tmp 9]) [.sq OT,.bk 2 ⟨true,[13,12,10,3,2,1,0],[]⟩,.sq yD,.bk 1 ⟨true,[13,12,10,3,2,1,0],[]⟩,.sq xO,.sq GU,.bk 0 ⟨true,[12],[]⟩,.sq Ac] xY s
@[simp] theorem aqZ:ZL GU CW ⟨true,[13,12,10,3,2,1,0],[]⟩:=aX rfl
noncomputable abbrev ny (C:aH) (s:WSt):Option AV:=CK C 0 (aO [.tmp 8,.tmp 9]) [.sq GU,.bk 0 ⟨true,[12],[]⟩,.sq Ac] CW s
def afV:WFn:=⟨1,[.cell 2 1 false,.cell 3 1 false],zd (s (O 1 [bx 0,E (.alloc [.int .i64 0]),E (.alloc [.int .i64 0])]) (s (O 4 [E (.alloc [.bQ])]) (s (O 5 [E (.iW 433 [T 2,T 3,T 4]),n (st 1 4 5)]) (s (s (O 6 [l 1 4,E (.dN (T 6) [T 1,N 1]),nt 7]) (c 8 (r (O 0 [n (E (.store 1 (T 2) (N 0))),n (E (.store 1 (T 3) (N 0)))])))) (r (V 9 [l 1 2,l 1 3,n (st 1 2 9),n (st 1 3 10)] [(1,2)] ⟨false,[],[]⟩))))))⟩
def yB:aA:=zd (s (s (O 45 [E (.gq 4 1 (T 1) (N 3)),l 1 45,E (.bin .geq (T 46) (.c (.int .u8 240)))]) (c 47 (O 48 [f 3 3,l 1 48,E (.aP [.str []] 2 [(0,.c (.str [97])),(1,.c (.str [97]))]),E (.app [.str []] 16 false (T 49) (T 50)),f 3 3,n (st 1 52 51)]))) (r (O 53 [h 4 3,n (st 4 2 53)])))
def kK:aA:=zd (s (s (O 20 [m 4,lti 20 3]) (cc 21 (w .skip) (ee 0))) (s (B 1 (s (O 24 [E (.gq 4 1 (T 1) (N 3)),l 1 24,m 4,E (.bin .shr (T 25) (T 26)),E (.bin .and (T 27) (.c (.int .u8 1))),E (.bin .gtr (T 28) (.c (.int .u8 0)))]) (c 29 (U 30 [f 3 3,l 1 30,E (.aP [.str []] 3 [(0,.c (.str [97])),(1,.c (.str [98,50])),(2,.c (.str [107,101,121]))]),m 4,E (.gq 4 1 (T 1) (N 3)),l 1 34,E (.bin .quo (T 35) (.c (.int .u8 8))),E (.cvt .i64 (T 36)),ad 33 37,E (.bin .rem (T 38) (N 3)),ix 1 32 39,l 1 40,E (.aP [.str []] 1 [(0,T 41)]),E (.app [.str []] 16 false (T 31) (T 42)),f 3 3,n (st 1 44 43)] [(1,2),(2,5),(1,12)] [4,3,2,1])))) (O 22 [m 4,adi 22 1,d 4 (m 23)])))
def Oe:aA:=.loop ⟨true,[4,3,2,1],[]⟩ kK
def Ik:WFn:=⟨1,[.cell 2 4 true],zd (s (O 1 [bx 0,E (.alloc [.int .u64 0,.int .u8 0,.str [],.ro 1 [] true])]) (s (U 5 [E (.gq 4 1 (T 1) (N 0)),l 1 5,E (.bin .rem (T 6) (.c (.int .u8 60))),E (.cvt .u64 (T 7)),E (.bin .add (.c (.int .u64 1)) (T 8)),E (.gq 4 1 (T 1) (N 1)),l 1 10,E (.bin .rem (T 11) (.c (.int .u8 3))),E (.aP [.str []] 8 [(0,.c (.str [])),(1,.c (.str [97])),(2,.c (.str [114,111,119])),(3,.c (.str [116,119,111,32,119,111,114,100,115])),(4,.c (.str [32,32])),(5,.c (.str [126,33,45,44])),(6,.c (.str [97,32,108,111,110,103,101,114,32,116,101,120,116,32,111,102,32,116,104,105,115,32,107,105,110,100])),(7,.c (.str [57]))]),E (.gq 4 1 (T 1) (N 2)),l 1 14,E (.bin .rem (T 15) (.c (.int .u8 8))),ix 1 13 16,l 1 17,E (.build [.int .u64 0,.int .u8 0,.str [],.ro 1 [] true] [(0,1,T 9),(1,1,T 12),(2,1,T 18)]),d 3 (E (.alloc [.int .u64 0,.int .u8 0,.str [],.ro 1 [] true])),n (st 4 3 19)] [(1,8),(6,8),(8,10),(1,15),(6,15),(8,15),(10,15),(13,15)] [3,2,1]) (s (s (O 4 [i 0]) (bk 0 Oe ⟨true,[3,2,1],[]⟩)) yB)))⟩
@[simp] theorem apU:ZL Oe kK ⟨true,[4,3,2,1],[]⟩:=aX rfl
noncomputable abbrev dn (C:aH) (s:WSt):Option AV:=CK C 0 (aO [.cell 2 4 true]) [.sq Oe,.bk 0 ⟨true,[3,2,1],[]⟩,.sq yB] kK s
def Ns:aA:=zd (r (O 4 [i (-1)]))
def yF:aA:=zd (s (s (O 6 [m 5,m 0,ln 1 7,lt 6 8]) (cc 9 (w .skip) (ee 0))) (s (B 1 (s (O 12 [m 0,m 5,ix 4 12 13,f 0 14,l 1 15,m 1,eq 16 17]) (c 18 (r (O 19 [m 5,d 4 (m 19)]))))) (O 10 [m 5,adi 10 1,d 5 (m 11)])))
def MO:aA:=.loop ⟨true,[5,1,0],[]⟩ yF
def aiT:WFn:=⟨2,[.tmp 4],zd (s (O 4 [i 0]) (s (s (O 5 [i 0]) (bk 0 MO ⟨true,[],[]⟩)) Ns))⟩
@[simp] theorem aqU:ZL MO yF ⟨true,[5,1,0],[]⟩:=aX rfl
noncomputable abbrev zX (C:aH) (s:WSt):Option AV:=CK C 0 (aO [.tmp 4]) [.sq MO,.bk 0 ⟨true,[],[]⟩,.sq Ns] yF s
def Oc:aA:=zd (s (s (O 41 [m 5,eqi 41 1]) (c 42 (r (O 4 [i 0])))) (r (O 4 [i 6])))
def Cb:aA:=zd (s (s (O 26 [m 6,f 3 2,l 1 27,ln 1 28,lt 26 29]) (cc 30 (w .skip) (ee 0))) (s (B 1 (O 33 [m 5,f 3 2,l 1 34,m 6,ix 1 35 36,l 1 37,ca 511 [38],E (.bin .mul (T 33) (T 39)),d 5 (m 40)])) (O 31 [m 6,adi 31 1,d 6 (m 32)])))
def NS:aA:=.loop ⟨true,[6,5,2],[]⟩ Cb
def RF:WFn:=⟨2,[.tmp 4],zd (s (O 4 [d 2 (bx 0),i 0]) (s (O 7 [f 2 2,l 1 7,ca 510 [8],d 5 (m 9)]) (s (s (Q 10 [f 0 2,l 1 10,E (.bin .eql (T 11) (.c (.int .u64 0))),m 12,z 13 (m 1),z 13 (f 1 2),z 13 (l 1 15),z 13 (E (.cvt .i64 (T 16))),z 13 (le 14 17),po 13 18,m 19,z 20 (f 3 2),z 20 (l 1 21),z 20 (ln 1 22),z 20 (gti 23 8),po 20 24] [25,5,2]) (c 25 (O 5 [i 0]))) (s (s (O 6 [i 0]) (bk 0 NS ⟨true,[5],[]⟩)) Oc))))⟩
@[simp] theorem ap9:ZL NS Cb ⟨true,[6,5,2],[]⟩:=aX rfl
noncomputable abbrev FX (C:aH) (s:WSt):Option AV:=CK C 0 (aO [.tmp 4]) [.sq NS,.bk 0 ⟨true,[5],[]⟩,.sq Oc] Cb s
def J6:WFn:=⟨3,[.cell 6 6 true,.tmp 7],zd (s (Q 6 [d 3 (bx 0),d 4 (bx 1),E (.alloc [.int .u8 0,.str [],.str [],.ro 2 [] true,.str [],.ro 6 [] true]),i 0] [6,4,3,2]) (s (s (O 9 [m 2,lti 9 1,m 10,z 11 (m 2),z 11 (gti 12 64),po 11 13]) (c 14 (r (O 15 [E (.build [.int .u8 0,.str [],.str [],.ro 2 [] true,.str [],.ro 6 [] true] []),n (st 6 6 15),d 7 (i 1)])))) (s (s (O 16 [h 6 3,ca 408 [16],nei 17 0]) (c 18 (r (O 19 [E (.build [.int .u8 0,.str [],.str [],.ro 2 [] true,.str [],.ro 6 [] true] []),h 6 3,ca 408 [20],n (st 6 6 19),d 7 (m 21)])))) (s (s (O 22 [h 4 4,ca 512 [22],nei 23 0]) (c 24 (r (Q 25 [E (.build [.int .u8 0,.str [],.str [],.ro 2 [] true,.str [],.ro 6 [] true] []),h 4 4,ca 512 [26],n (st 6 6 25),d 7 (m 27)] [7,6])))) (s (O 28 [h 6 3,h 4 4,ca 513 [28,29],E (.idxs 6 (T 30) (N 0)),h 6 31,d 8 (E (.alloc [.int .u8 0,.str [],.str [],.ro 2 [] true,.str [],.ro 6 [] true])),n (st 6 8 32)]) (s (s (O 33 [h 6 8,ca 441 [33],nei 34 0,m 35,z 36 (h 6 8),z 36 (ca 442 [37]),z 36 (m 2),z 36 (gt 38 39),po 36 40]) (c 41 (r (O 42 [E (.build [.int .u8 0,.str [],.str [],.ro 2 [] true,.str [],.ro 6 [] true] []),n (st 6 6 42),d 7 (i 14)])))) (r (O 43 [h 6 8,n (st 6 6 43),d 7 (i 0)]))))))))⟩
def nI:aA:=zd (s (s (O 71 [m 10,ca 407 [71],gti 72 0]) (c 73 (r (O 8 [E (.mv (.c (.ro 6 [] true))),i 13])))) (r (O 8 [d 74 (m 10),m 74,i 0])))
def qA:aA:=zd (O 40 [m 11,adi 40 1,d 11 (m 41)])
def qL:aA:=zd (s (O 60 [m 11,m 1,ln 1 61,lt 60 62]) (c 63 (O 64 [m 10,m 1,m 11,ix 6 65 66,h 6 67,E (.aP [.int .u64 0,.int .u8 0,.str [],.ro 1 [] true,.int .i64 0,.bool false] 1 [(0,T 68)]),E (.app [.int .u64 0,.int .u8 0,.str [],.ro 1 [] true,.int .i64 0,.bool false] 72 false (T 64) (T 69)),d 10 (m 70)])))
def zU:aA:=zd (s (s (O 45 [m 12,m 3,ln 1 46,lt 45 47]) (cc 48 (w .skip) (ee 2))) (s (B 3 (V 51 [m 10,h 2 4,m 3,m 12,ix 4 53 54,h 4 55,ca 240 [52,56],E (.aP [.int .u64 0,.int .u8 0,.str [],.ro 1 [] true,.int .i64 0,.bool false] 1 [(0,T 57)]),E (.app [.int .u64 0,.int .u8 0,.str [],.ro 1 [] true,.int .i64 0,.bool false] 72 false (T 51) (T 58)),d 10 (m 59)] [] ⟨false,[],[]⟩)) (Q 49 [m 12,adi 49 1,d 12 (m 50)] [12,11,10,4,3,2,1])))
def NT:aA:=.loop ⟨true,[12,11,10,4,3,2,1],[]⟩ zU
def uy:aA:=zd (s (s (O 36 [m 11,m 1,ln 1 37,le 36 38]) (cc 39 (w .skip) (ee 0))) (s (bk 1 (s (s (O 42 [m 11,m 2,eq 42 43]) (c 44 (s (O 12 [i 0]) (bk 2 NT ⟨true,[11,10,4,3,2,1],[]⟩)))) qL) ⟨true,[11,10,4,3,2,1],[]⟩) qA))
def wO:aA:=.loop ⟨true,[11,10,4,3,2,1],[]⟩ uy
def Uh:WFn:=⟨4,[.tmp 8,.tmp 9],zd (s (O 8 [d 4 (bx 0),E (.mv (.c (.ro 6 [] true))),i 0]) (s (s (Q 13 [m 2,lti 13 0,m 14,z 15 (m 2),z 15 (m 1),z 15 (ln 1 17),z 15 (gt 16 18),po 15 19] [20,4,3,2,1]) (c 20 (r (O 8 [E (.mv (.c (.ro 6 [] true))),i 4])))) (s (s (O 21 [m 1,ln 1 21,m 3,ln 1 23,ad 22 24,gti 25 1024]) (c 26 (r (O 8 [E (.mv (.c (.ro 6 [] true))),i 3])))) (s (s (O 27 [h 2 4,m 1,m 3,ca 532 [27,28,29],gti 30 0]) (c 31 (r (O 32 [h 2 4,m 1,m 3,ca 532 [32,33,34],d 8 (E (.mv (.c (.ro 6 [] true)))),d 9 (m 35)])))) (s (R 10 [E (.mv (.c (.ro 6 [] true)))] ⟨true,[10,4,3,2,1],[(10,6)]⟩) (s (s (O 11 [i 0]) (bk 0 wO ⟨true,[10],[]⟩)) nI))))))⟩
@[simp] theorem aqp:ZL NT zU ⟨true,[12,11,10,4,3,2,1],[]⟩:=aX rfl
noncomputable abbrev F5 (C:aH) (s:WSt):Option AV:=CK C 0 (aO [.tmp 8,.tmp 9]) [.sq NT,.bk 2 ⟨true,[11,10,4,3,2,1],[]⟩,.sq qL,.bk 1 ⟨true,[11,10,4,3,2,1],[]⟩,.sq qA,.sq wO,.bk 0 ⟨true,[10],[]⟩,.sq nI] zU s
@[simp] theorem arp:ZL wO uy ⟨true,[11,10,4,3,2,1],[]⟩:=aX rfl
noncomputable abbrev qW (C:aH) (s:WSt):Option AV:=CK C 0 (aO [.tmp 8,.tmp 9]) [.sq wO,.bk 0 ⟨true,[10],[]⟩,.sq nI] uy s
def Gs:aA:=zd (s (s (O 76 [m 10,ca 407 [76],gti 77 0]) (c 78 (r (O 8 [E (.mv (.c (.ro 6 [] true))),i 13])))) (r (O 8 [d 79 (m 10),m 79,i 0])))
def qZ:aA:=zd (s (s (O 34 [m 12,m 3,ln 1 35,lt 34 36]) (cc 37 (w .skip) (ee 2))) (s (B 3 (s (U 40 [h 2 4,m 3,m 12,ix 4 41 42,h 4 43,E (.call 271 [T 40,T 44,N 0]),d 13 (m 45)] [] [13,12,10,4,3,2,1]) (s (s (O 46 [m 13,eqi 46 6]) (c 47 (r (O 8 [E (.mv (.c (.ro 6 [] true))),i 6])))) (s (s (V 48 [m 1,m 2,m 12,ad 49 50,ix 6 48 51,f 0 52,f 0 53,l 1 54,m 3,m 12,ix 4 56 57,f 0 58,l 1 59,ne 55 60] [] ⟨false,[],[]⟩) (c 61 (r (O 8 [E (.mv (.c (.ro 6 [] true))),i 9])))) (s (s (O 62 [m 13,gti 62 0]) (c 63 (r (Q 8 [d 64 (m 13),E (.mv (.c (.ro 6 [] true))),m 64] [9,8])))) (V 65 [m 10,m 2,m 12,ad 66 67,h 2 4,m 3,m 12,ix 4 70 71,h 4 72,ca 240 [69,73],ix 6 65 68,n (st 6 75 74)] [] ⟨false,[],[]⟩)))))) (O 38 [m 12,adi 38 1,d 12 (m 39)])))
def NZ:aA:=.loop ⟨true,[12,10,4,3,2,1],[]⟩ qZ
def Pz:aA:=zd (s (s (O 12 [i 0]) (bk 2 NZ ⟨true,[10],[]⟩)) Gs)
def AB:aA:=zd (s (s (O 21 [m 11,m 1,ln 1 22,lt 21 23]) (cc 24 (w .skip) (ee 0))) (s (B 1 (O 27 [m 10,m 1,m 11,ix 6 28 29,h 6 30,E (.aP [.int .u64 0,.int .u8 0,.str [],.ro 1 [] true,.int .i64 0,.bool false] 1 [(0,T 31)]),E (.app [.int .u64 0,.int .u8 0,.str [],.ro 1 [] true,.int .i64 0,.bool false] 72 false (T 27) (T 32)),d 10 (m 33)])) (O 25 [m 11,adi 25 1,d 11 (m 26)])))
def Qx:aA:=.loop ⟨true,[11,10,4,3,2,1],[]⟩ AB
def acg:WFn:=⟨4,[.tmp 8,.tmp 9],zd (s (O 8 [d 4 (bx 0),E (.mv (.c (.ro 6 [] true))),i 0]) (s (s (O 14 [m 2,m 3,ln 1 15,m 1,ln 1 17,ca 410 [14,16,18],eqi 19 0]) (c 20 (r (Q 8 [E (.mv (.c (.ro 6 [] true))),i 4] [9,8])))) (s (R 10 [E (.mv (.c (.ro 6 [] true)))] ⟨true,[10,4,3,2,1],[(10,6)]⟩) (s (s (O 11 [i 0]) (bk 0 Qx ⟨true,[10,4,3,2,1],[]⟩)) Pz))))⟩
@[simp] theorem aqF:ZL NZ qZ ⟨true,[12,10,4,3,2,1],[]⟩:=aX rfl
noncomputable abbrev tC (C:aH) (s:WSt):Option AV:=CK C 0 (aO [.tmp 8,.tmp 9]) [.sq NZ,.bk 2 ⟨true,[10],[]⟩,.sq Gs] qZ s
@[simp] theorem aqR:ZL Qx AB ⟨true,[11,10,4,3,2,1],[]⟩:=aX rfl
noncomputable abbrev Gv (C:aH) (s:WSt):Option AV:=CK C 0 (aO [.tmp 8,.tmp 9]) [.sq Qx,.bk 0 ⟨true,[10,4,3,2,1],[]⟩,.sq Pz] AB s
def agL:WFn:=⟨2,[.tmp 4,.tmp 5],zd (s (O 4 [d 2 (bx 0),E (.mv (.c (.ro 6 [] true))),i 0]) (r (O 6 [h 2 2,m 1,E (.call 461 [T 6,.c (.ro 6 [] true),N 0,T 7]),ex 0 8,ex 1 8,d 4 (m 9),d 5 (m 10)])))⟩
def w77:WFn:=⟨1,[.tmp 2],zd (s (O 2 [ff]) (r (O 3 [m 0,lti 3 0,m 4,z 5 (m 0),z 5 (gti 6 4096),po 5 7,d 2 (m 8)])))⟩
def N7:aA:=zd (r (O 31 [h 2 8,n (st 2 6 31),d 7 (i 0)]))
def Eh:aA:=zd (s (O 21 [lt 20 19]) (s (cc 21 (w .skip) (ee 0)) (s (B 1 (s (O 22 [m 20,d 9 (m 22)]) (V 23 [f 1 8,l 1 23,m 9,m 2,m 9,E (.dN (T 26) [T 27]),ix 1 24 25,n (st 1 29 28)] [(1,5)] ⟨false,[],[]⟩))) (O 30 [adi 20 1,d 20 (m 30)]))))
def UO:aA:=.loop ⟨true,[20,19,8,6,2],[]⟩ Eh
def w73:WFn:=⟨3,[.cell 6 2 true,.tmp 7],zd (s (O 6 [E (.alloc [.int .i64 0,.ro 1 [] true]),i 0]) (s (O 10 [m 0,E (.build [.int .i64 0,.ro 1 [] true] [(0,1,T 10)]),d 8 (E (.alloc [.int .i64 0,.ro 1 [] true])),n (st 2 8 11)]) (s (s (O 12 [m 1,gti 12 0]) (c 13 (Q 14 [m 1,E (.kE [.int .i64 0] 8 (T 14) (T 14)),f 1 8,n (st 1 16 15)] [8,6,2]))) (s (s (O 17 [f 1 8,l 1 17,ln 1 18,i 0]) (bk 0 UO ⟨true,[8,6],[]⟩)) N7))))⟩
@[simp] theorem asl:ZL UO Eh ⟨true,[20,19,8,6,2],[]⟩:=aX rfl
noncomputable abbrev OY (C:aH) (s:WSt):Option AV:=CK C 0 (aO [.cell 6 2 true,.tmp 7]) [.sq UO,.bk 0 ⟨true,[8,6],[]⟩,.sq N7] Eh s
def w81:WFn:=⟨1,[.tmp 2],zd (s (O 2 [i 0]) (r (O 3 [m 0,d 2 (m 3)])))⟩
def ah0:WFn:=⟨2,[.tmp 4],zd (s (O 2 [bx 0,bx 1,E (.mv (.c .bQ))]) (r (O 5 [E (.iW 565 [T 2,T 3]),d 4 (m 5)])))⟩
def aez:WFn:=⟨3,[.tmp 4],zd (s (O 4 [ff]) (r (O 5 [m 0,l 1 1,ge 5 6,m 7,y 8 (m 0),y 8 (l 1 1),y 8 (l 1 2),y 8 (ad 10 11),y 8 (lt 9 12),pa 8 13,d 4 (m 14)])))⟩
def w66:WFn:=⟨3,[.cell 6 2 true,.tmp 7],zd (s (O 4 [bx 1,bx 2,E (.alloc [.int .i64 0,.ro 1 [] true]),i 0]) (s (B 0 (s (Q 9 [m 0,ca 77 [9],m 10,z 11 (l 1 4),z 11 (lti 12 0),po 11 13,m 14,z 15 (l 1 4),z 15 (m 0),z 15 (gt 16 17),po 15 18,m 19,z 20 (l 1 5),z 20 (lti 21 0),po 20 22,d 8 (m 23)] [8,6,5,4,0]) (cc 8 (r (O 24 [E (.build [.int .i64 0,.ro 1 [] true] []),n (st 2 6 24),d 7 (i 4)])) (s (O 26 [l 1 5,m 0,E (.bin .sub (N 4096) (T 27)),gt 26 28,d 25 (m 29)]) (c 25 (r (O 30 [E (.build [.int .i64 0,.ro 1 [] true] []),n (st 2 6 30),d 7 (i 3)]))))))) (r (O 31 [m 0,m 0,l 1 5,ad 32 33,E (.iW 82 [T 4,T 5]),ca 1073 [31,34,35],ex 0 36,ex 1 36,n (st 2 6 37),d 7 (m 38)]))))⟩
def w67:WFn:=⟨3,[.cell 6 2 true,.tmp 7],zd (s (Q 4 [bx 1,bx 2,E (.alloc [.int .i64 0,.ro 1 [] true]),i 0] [6,5,4,0]) (s (s (O 8 [m 0,ca 77 [8],m 9,z 10 (m 0),z 10 (l 1 4),z 10 (l 1 5),z 10 (ca 78 [11,12,13]),po 10 14]) (c 15 (r (O 16 [E (.build [.int .i64 0,.ro 1 [] true] []),n (st 2 6 16),d 7 (i 4)])))) (r (O 17 [m 0,m 0,l 1 5,sb 18 19,E (.iW 83 [T 4,T 5]),ca 1073 [17,20,21],ex 0 22,ex 1 22,n (st 2 6 23),d 7 (m 24)]))))⟩
def w62:WFn:=⟨4,[.cell 8 2 true,.tmp 9],zd (s (O 5 [bx 1,bx 2,bx 3,E (.alloc [.int .i64 0,.ro 1 [] true]),i 0]) (s (s (Q 11 [m 0,ca 77 [11],m 12,z 13 (m 0),z 13 (l 1 5),z 13 (l 1 6),z 13 (ca 78 [14,15,16]),po 13 17,m 18,z 19 (l 1 7),z 19 (lti 20 0),po 19 21,m 22,z 23 (l 1 7),z 23 (m 0),z 23 (l 1 6),z 23 (sb 25 26),z 23 (gt 24 27),po 23 28] [29,8,7,6,5,0]) (c 29 (r (O 30 [E (.build [.int .i64 0,.ro 1 [] true] []),n (st 2 8 30),d 9 (i 4)])))) (s (O 31 [E (.iW 79 [T 5,T 6]),d 10 (E (.alloc [.bQ])),n (st 1 10 31)]) (r (O 32 [m 0,m 0,E (.iW 80 [T 7,T 10,T 6,T 5]),ca 1073 [32,33,34],ex 0 35,ex 1 35,n (st 2 8 36),d 9 (m 37)])))))⟩
def w74:WFn:=⟨3,[.tmp 4],zd (s (O 4 [i 0]) (s (s (O 6 [f 1 1,l 1 6,m 0,ix 1 7 8,l 1 9,d 5 (m 10)]) (s (O 11 [m 5,gei 11 0]) (c 12 (r (O 13 [f 1 2,l 1 13,m 5,ix 1 14 15,l 1 16,d 4 (m 17)]))))) (r (O 4 [i (-1)]))))⟩
def acI:WFn:=⟨1,[.tmp 2],zd (s (O 2 [E (.mv (.c (.ro 1 [] true)))]) (s (s (O 4 [m 0,ln 1 4,eqi 5 0]) (c 6 (r (O 2 [E (.mv (.c (.ro 1 [] true)))])))) (s (O 7 [m 0,ln 1 7,E (.kE [.bool false] 1 (T 8) (T 8)),d 3 (m 9)]) (s (O 10 [m 3,m 0,E (.cpy 1 (T 10) (T 11))]) (r (O 13 [m 3,d 2 (m 13)]))))))⟩
def aiJ:WFn:=⟨3,[.tmp 6],zd (s (O 6 [E (.mv (.c (.ro 6 [] true)))]) (s (R 7 [E (.mv (.c (.ro 6 [] true)))] ⟨true,[7,2,1,0],[(7,6)]⟩) (s (O 8 [m 7,m 0,E (.app [.int .i64 0,.int .i64 0,.int .u64 0,.int .u8 0,.str [],.ro 1 [] true] 72 false (T 8) (T 9)),d 7 (m 10)]) (s (O 11 [m 7,m 1,E (.app [.int .i64 0,.int .i64 0,.int .u64 0,.int .u8 0,.str [],.ro 1 [] true] 72 false (T 11) (T 12)),d 7 (m 13)]) (r (O 14 [m 7,m 2,E (.app [.int .i64 0,.int .i64 0,.int .u64 0,.int .u8 0,.str [],.ro 1 [] true] 72 false (T 14) (T 15)),d 6 (m 16)]))))))⟩
def NV:aA:=zd (r (O 22 [m 7,d 6 (m 22)]))
def Dj:aA:=zd (s (s (O 10 [m 8,m 2,lt 10 11]) (cc 12 (w .skip) (ee 0))) (s (B 1 (O 15 [m 7,m 0,m 8,ix 6 16 17,h 6 18,E (.aP [.int .i64 0,.int .i64 0,.int .u64 0,.int .u8 0,.str [],.ro 1 [] true] 1 [(0,T 19)]),E (.app [.int .i64 0,.int .i64 0,.int .u64 0,.int .u8 0,.str [],.ro 1 [] true] 72 false (T 15) (T 20)),d 7 (m 21)])) (O 13 [m 8,adi 13 1,d 8 (m 14)])))
def QO:aA:=.loop ⟨true,[8,7,2,0],[]⟩ Dj
def ahz:WFn:=⟨3,[.tmp 6],zd (s (O 6 [E (.mv (.c (.ro 6 [] true)))]) (s (R 7 [E (.mv (.c (.ro 6 [] true)))] ⟨true,[7,2,1,0],[(7,6)]⟩) (s (s (O 9 [m 1,d 8 (m 9)]) (bk 0 QO ⟨true,[7],[]⟩)) NV)))⟩
@[simp] theorem apt:ZL QO Dj ⟨true,[8,7,2,0],[]⟩:=aX rfl
noncomputable abbrev Gp (C:aH) (s:WSt):Option AV:=CK C 0 (aO [.tmp 6]) [.sq QO,.bk 0 ⟨true,[7],[]⟩,.sq NV] Dj s
def WC:WFn:=⟨2,[.tmp 4],zd (s (O 4 [d 2 (bx 0),i 0]) (s (O 7 [E (.iW 494 [T 2]),d 5 (m 7)]) (s (Q 8 [E (.iW 497 [T 2]),d 6 (m 8)] [6,5,2,1]) (s (s (O 9 [f 0 2,l 1 9,E (.bin .eql (T 10) (.c (.int .u64 0))),m 11,z 12 (f 1 2),z 12 (l 1 13),z 12 (E (.cvt .i64 (T 14))),z 12 (m 1),z 12 (ge 15 16),po 12 17,m 18,z 19 (m 5),z 19 (E (.dN (T 20) [])),z 19 (nt 21),po 19 22,m 23,z 24 (m 6),z 24 (E (.dN (T 25) [])),z 24 (nt 26),po 24 27]) (c 28 (r (O 4 [i 6])))) (r (O 4 [i 0]))))))⟩
def ai5:WFn:=⟨2,[.cell 4 6 true,.tmp 5],zd (s (O 2 [bx 0,bx 1,E (.alloc [.int .u8 0,.str [],.str [],.ro 2 [] true,.str [],.ro 6 [] true]),i 0]) (r (V 6 [f 0 2,l 1 6,f 1 3,l 1 8,ix 9 7 9,f 0 10,h 6 11,h 4 3,f 1 2,l 1 14,ca 501 [12,13,15],ex 0 16,ex 1 16,n (st 6 4 17),d 5 (m 18)] [] ⟨false,[],[]⟩)))⟩
def UW:WFn:=⟨1,[.tmp 2],zd (s (O 2 [E (.mv (.c (.ro 4 [] true)))]) (s (s (O 4 [m 0,ln 1 4,eqi 5 0]) (c 6 (r (O 2 [E (.mv (.c (.ro 4 [] true)))])))) (s (O 7 [m 0,ln 1 7,E (.kE [.int .u64 0,.int .u8 0,.str [],.ro 1 [] true] 56 (T 8) (T 8)),d 3 (m 9)]) (s (O 10 [m 3,m 0,E (.cpy 4 (T 10) (T 11))]) (r (O 13 [m 3,d 2 (m 13)]))))))⟩
def adU:WFn:=⟨1,[.tmp 2],zd (s (O 2 [E (.mv (.c (.ro 1 [] true)))]) (s (s (O 4 [m 0,ln 1 4,eqi 5 0]) (c 6 (r (O 2 [E (.mv (.c (.ro 1 [] true)))])))) (s (O 7 [m 0,ln 1 7,E (.kE [.str []] 16 (T 8) (T 8)),d 3 (m 9)]) (s (O 10 [m 3,m 0,E (.cpy 1 (T 10) (T 11))]) (r (O 13 [m 3,d 2 (m 13)]))))))⟩
def QY:WFn:=⟨1,[.tmp 2],zd (s (O 2 [E (.mv (.c (.ro 1 [] true)))]) (s (s (O 4 [m 0,ln 1 4,eqi 5 0]) (c 6 (r (O 2 [E (.mv (.c (.ro 1 [] true)))])))) (s (O 7 [m 0,ln 1 7,E (.kE [.str []] 16 (T 8) (T 8)),d 3 (m 9)]) (s (O 10 [m 3,m 0,E (.cpy 1 (T 10) (T 11))]) (r (O 13 [m 3,d 2 (m 13)]))))))⟩
def ahU:WFn:=⟨1,[.cell 2 4 true],zd (s (O 2 [E (.alloc [.int .i64 0,.int .i64 0,.int .i64 0,.int .i64 0])]) (s (s (O 3 [m 0]) (B 0 (s (s (O 5 [E (.bin .eql (T 3) (.c (.int .u8 1))),d 4 (m 5)]) (cc 4 (w .skip) (O 6 [E (.bin .eql (T 3) (.c (.int .u8 4))),d 4 (m 6)]))) (cc 4 (r (O 7 [E (.build [.int .i64 0,.int .i64 0,.int .i64 0,.int .i64 0] [(0,1,N 1),(1,1,N 0),(2,1,N 0),(3,1,N 1)]),n (st 4 2 7)])) (s (O 9 [E (.bin .eql (T 3) (.c (.int .u8 2))),d 8 (m 9)]) (cc 8 (r (O 10 [E (.build [.int .i64 0,.int .i64 0,.int .i64 0,.int .i64 0] [(0,1,N 1),(1,1,N 1),(2,1,N 0),(3,1,N 0)]),n (st 4 2 10)])) (s (O 12 [E (.bin .eql (T 3) (.c (.int .u8 3))),d 11 (m 12)]) (cc 11 (r (O 13 [E (.build [.int .i64 0,.int .i64 0,.int .i64 0,.int .i64 0] [(0,1,N 1),(1,1,N 1),(2,1,N 1),(3,1,N 0)]),n (st 4 2 13)])) (s (O 15 [E (.bin .eql (T 3) (.c (.int .u8 5))),d 14 (m 15)]) (c 14 (r (O 16 [E (.build [.int .i64 0,.int .i64 0,.int .i64 0,.int .i64 0] [(0,1,N 0),(1,1,N 0),(2,1,N 0),(3,1,N 1)]),n (st 4 2 16)])))))))))))) (r (O 17 [E (.build [.int .i64 0,.int .i64 0,.int .i64 0,.int .i64 0] []),n (st 4 2 17)]))))⟩
def abt:WFn:=⟨3,[.tmp 6],zd (s (O 6 [i 0]) (r (O 7 [m 0,gei 7 0,m 8,y 9 (m 0),y 9 (m 2),y 9 (le 10 11),pa 9 12,m 13,y 14 (m 1),y 14 (gei 15 0),pa 14 16,m 17,y 18 (m 1),y 18 (m 2),y 18 (m 0),y 18 (sb 20 21),y 18 (le 19 22),pa 18 23,ca 406 [24],d 6 (m 25)])))⟩
def aha:WFn:=⟨0,[.cell 0 36 true],zd (s (O 0 [E (.alloc [.str [],.bool false,.bool false,.bool false,.bool false,.bQ,.str [],.bool false,.bool false,.bool false,.bool false,.bQ,.str [],.bool false,.bool false,.bool false,.bool false,.bQ,.str [],.bool false,.bool false,.bool false,.bool false,.bQ,.str [],.bool false,.bool false,.bool false,.bool false,.bQ,.str [],.bool false,.bool false,.bool false,.bool false,.bQ])]) (r (O 1 [E (.build [.str [],.bool false,.bool false,.bool false,.bool false,.bQ] [(0,1,.c (.str [105,110,115,101,114,116])),(1,1,.c (.bool true)),(2,1,.c (.bool false)),(3,1,.c (.bool false)),(4,1,.c (.bool true)),(5,1,.c (.fn 526 []))]),E (.build [.str [],.bool false,.bool false,.bool false,.bool false,.bQ] [(0,1,.c (.str [114,101,109,111,118,101])),(1,1,.c (.bool true)),(2,1,.c (.bool true)),(3,1,.c (.bool false)),(4,1,.c (.bool false)),(5,1,.c (.fn 527 []))]),E (.build [.str [],.bool false,.bool false,.bool false,.bool false,.bQ] [(0,1,.c (.str [109,111,118,101])),(1,1,.c (.bool true)),(2,1,.c (.bool true)),(3,1,.c (.bool true)),(4,1,.c (.bool false)),(5,1,.c (.fn 528 []))]),E (.build [.str [],.bool false,.bool false,.bool false,.bool false,.bQ] [(0,1,.c (.str [99,104,97,110,103,101])),(1,1,.c (.bool true)),(2,1,.c (.bool false)),(3,1,.c (.bool false)),(4,1,.c (.bool true)),(5,1,.c (.fn 529 []))]),E (.build [.str [],.bool false,.bool false,.bool false,.bool false,.bQ] [(0,1,.c (.str [114,101,115,101,116])),(1,1,.c (.bool false)),(2,1,.c (.bool false)),(3,1,.c (.bool false)),(4,1,.c (.bool true)),(5,1,.c (.fn 530 []))]),E (.build [.str [],.bool false,.bool false,.bool false,.bool false,.bQ,.str [],.bool false,.bool false,.bool false,.bool false,.bQ,.str [],.bool false,.bool false,.bool false,.bool false,.bQ,.str [],.bool false,.bool false,.bool false,.bool false,.bQ,.str [],.bool false,.bool false,.bool false,.bool false,.bQ,.str [],.bool false,.bool false,.bool false,.bool false,.bQ] [(6,6,T 1),(12,6,T 2),(18,6,T 3),(24,6,T 4),(30,6,T 5)]),n (st 36 0 6)])))⟩
def aoA:WFn:=⟨4,[.tmp 8],zd (s (O 8 [E (.mv (.c (.ro 4 [] true)))]) (r (V 9 [m 0,m 1,E (.slice 4 (T 9) none (some (T 10)) none),m 3,m 0,m 1,m 2,ad 14 15,E (.slice 4 (T 13) (some (T 16)) none none),E (.aP [.ro 4 [] true] 3 [(0,T 11),(1,T 12),(2,T 17)]),ca 531 [18],d 8 (m 19)] [] ⟨false,[],[]⟩)))⟩
def aiI:WFn:=⟨1,[.tmp 2],zd (s (O 2 [i 0]) (s (s (O 3 [m 0,ca 504 [3],gti 4 4611686018427387904]) (c 5 (r (O 2 [i 13])))) (r (O 2 [i 0]))))⟩
def Fq:aA:=zd (r (O 31 [m 5,d 4 (m 31)]))
def wQ:aA:=zd (s (Q 14 [lt 13 12] [14,13,12,11,5,2]) (s (cc 14 (w .skip) (ee 0)) (s (B 1 (s (O 15 [m 13,ix 4 11 13,h 4 16,d 7 (E (.alloc [.int .u64 0,.int .u8 0,.str [],.ro 1 [] true])),d 6 (m 15),n (st 4 7 17)]) (V 18 [m 5,m 6,h 4 7,f 0 2,l 1 21,f 1 7,l 1 23,ix 9 22 24,f 6 25,l 1 26,E (.build [.int .u64 0,.int .u8 0,.str [],.ro 1 [] true,.int .i64 0,.bool false] [(0,4,T 20),(4,1,T 27)]),ix 6 18 19,n (st 6 29 28)] [] ⟨false,[],[]⟩))) (O 30 [adi 13 1,d 13 (m 30)]))))
def PZ:aA:=.loop ⟨true,[13,12,11,5,2],[]⟩ wQ
def ac1:WFn:=⟨2,[.tmp 4],zd (s (O 4 [d 2 (bx 0),E (.mv (.c (.ro 6 [] true)))]) (s (O 8 [m 1,ln 1 8,E (.kE [.int .u64 0,.int .u8 0,.str [],.ro 1 [] true,.int .i64 0,.bool false] 72 (T 9) (T 9)),d 5 (m 10)]) (s (s (O 11 [m 1,ln 1 11,i 0]) (bk 0 PZ ⟨true,[5],[]⟩)) Fq)))⟩
@[simp] theorem aqM:ZL PZ wQ ⟨true,[13,12,11,5,2],[]⟩:=aX rfl
noncomputable abbrev Gz (C:aH) (s:WSt):Option AV:=CK C 0 (aO [.tmp 4]) [.sq PZ,.bk 0 ⟨true,[5],[]⟩,.sq Fq] wQ s
def Nu:WFn:=⟨3,[.tmp 5],zd (s (O 4 [bx 1,i 0]) (s (s (O 6 [l 1 2,f 0 4,l 1 7,E (.look 0 (.bool false) false (T 6) (T 8))]) (c 9 (r (O 5 [i 8])))) (s (O 10 [l 1 2,f 0 4,l 1 11,n (E (.upd 0 (T 10) (T 12) (.c (.bool true))))]) (r (O 5 [i 0])))))⟩
def aje:WFn:=⟨1,[.tmp 2],zd (s (O 1 [bx 0,i 0]) (r (O 3 [E (.call 502 [T 1,.c (.fn 503 [])]),d 2 (m 3)])))⟩
def Nl:aA:=zd (r (O 4 [i (-1)]))
def yK:aA:=zd (s (O 9 [lt 8 7]) (s (cc 9 (w .skip) (ee 0)) (s (B 1 (s (O 10 [m 8,d 5 (m 10)]) (s (O 11 [m 1,m 0,m 5,ix 9 12 13,h 9 14,E (.dN (T 11) [T 15])]) (c 16 (r (O 17 [m 5,d 4 (m 17)])))))) (O 18 [adi 8 1,d 8 (m 18)]))))
def QS:aA:=.loop ⟨true,[8,7,1,0],[]⟩ yK
def ahr:WFn:=⟨2,[.tmp 4],zd (s (O 4 [i 0]) (s (s (O 6 [m 0,ln 1 6,i 0]) (bk 0 QS ⟨true,[],[]⟩)) Nl))⟩
@[simp] theorem aqE:ZL QS yK ⟨true,[8,7,1,0],[]⟩:=aX rfl
noncomputable abbrev BG (C:aH) (s:WSt):Option AV:=CK C 0 (aO [.tmp 4]) [.sq QS,.bk 0 ⟨true,[],[]⟩,.sq Nl] yK s
def aiC:WFn:=⟨1,[.tmp 2],zd (s (O 2 [i 0]) (s (s (O 3 [m 0]) (c 3 (r (O 2 [i 1])))) (r (O 2 [i 0]))))⟩
def acu:WFn:=⟨1,[.tmp 2],zd (s (O 1 [bx 0,i 0]) (s (s (O 3 [h 6 1,ca 505 [3],eqi 4 0]) (c 5 (r (O 2 [i 14])))) (r (O 2 [i 0]))))⟩
def agx:WFn:=⟨5,[.tmp 6],zd (s (O 6 [E (.mv (.c (.ro 6 [] true)))]) (r (V 7 [f 0 1,l 1 7,l 1 2,l 1 3,E (.call 221 [T 8,T 9,T 10,.c (.ro 6 [] true)]),l 1 4,f 0 1,l 1 13,l 1 2,l 1 2,l 1 3,ad 16 17,E (.slice 6 (T 14) (some (T 15)) (some (T 18)) none),E (.call 221 [T 11,T 12,N 0,T 19]),d 6 (m 20)] [(4,5),(4,7),(4,8),(4,9),(4,10)] ⟨false,[],[]⟩)))⟩
def Fv:aA:=zd (r (O 7 [tt]))
def xG:aA:=zd (s (O 31 [lt 30 29]) (s (cc 31 (w .skip) (ee 0)) (s (B 1 (s (O 32 [m 30,d 8 (m 32)]) (s (V 33 [l 1 4,m 0,nk 34,f 5 35,l 1 36,m 8,ix 6 37 38,m 1,adi 40 1,E (.dN (T 33) [T 39,T 41]),nt 42] [] ⟨false,[],[]⟩) (c 43 (r (O 7 [ff])))))) (O 44 [adi 30 1,d 30 (m 44)]))))
def OA:aA:=.loop ⟨true,[30,29,4,1,0],[]⟩ xG
def JF:WFn:=⟨5,[.tmp 7],zd (s (O 7 [ff]) (s (O 9 [l 1 2,adi 9 1,n (st 1 2 10)]) (s (O 11 [l 1 3,m 1,E (.mx (T 11) (T 12)),n (st 1 3 13)]) (s (s (O 14 [m 1,gti 14 6,m 15,z 16 (l 1 2),z 16 (gti 17 64),po 16 18,m 19,z 20 (m 0),z 20 (ca 434 [21]),z 20 (nt 22),po 20 23]) (c 24 (r (O 7 [ff])))) (s (s (Q 25 [m 0,nk 25,f 5 26,l 1 27,ln 1 28,i 0] [30,29,4,1,0]) (bk 0 OA ⟨true,[],[]⟩)) Fv)))))⟩
@[simp] theorem aqL:ZL OA xG ⟨true,[30,29,4,1,0],[]⟩:=aX rfl
def Qu:aA:=zd (r (O 2 [tt]))
def BQ:aA:=zd (s (Q 143 [lt 142 141] [143,142,141,140,0]) (s (cc 143 (w .skip) (ee 2)) (s (B 3 (s (O 144 [m 142,ix 6 140 142,h 6 145,d 6 (E (.alloc [.int .u8 0,.str [],.str [],.ro 2 [] true,.str [],.ro 6 [] true])),d 5 (m 144),n (st 6 6 146)]) (s (O 147 [f 2 6,l 1 147,E (.bin .neq (T 148) (.c (.str []))),m 149,y 150 (m 0),y 150 (nk 151),y 150 (f 5 152),y 150 (l 1 153),y 150 (m 5),y 150 (E (.slice 6 (T 154) none (some (T 155)) none)),y 150 (E (.iW 519 [T 6])),y 150 (ca 518 [156,157]),pa 150 158]) (c 159 (r (O 2 [ff])))))) (O 160 [adi 142 1,d 142 (m 160)]))))
def Np:aA:=.loop ⟨true,[142,141,140,0],[]⟩ BQ
def PO:aA:=zd (s (s (O 137 [m 0,nk 137,f 5 138,l 1 139,ln 1 140,i 0]) (bk 2 Np ⟨true,[],[]⟩)) Qu)
def BU:aA:=zd (s (O 104 [lt 103 102]) (s (cc 104 (w .skip) (ee 0)) (s (B 1 (s (O 105 [m 103,ix 2 101 103,h 2 106,d 4 (E (.alloc [.str [],.str []])),d 3 (m 105),n (st 2 4 107)]) (s (U 108 [f 0 4,l 1 108,ca 517 [109],nt 110,m 111,z 112 (f 1 4),z 112 (l 1 113),z 112 (ca 516 [114]),z 112 (nt 115),po 112 116,m 117,z 118 (m 3),z 118 (gti 119 0),z 118 (m 120),y 121 (f 0 4),y 121 (l 1 122),y 121 (m 0),y 121 (nk 124),y 121 (f 3 125),y 121 (l 1 126),y 121 (m 3),y 121 (sbi 128 1),y 121 (ix 2 127 129),y 121 (f 0 130),y 121 (l 1 131),y 121 (le 123 132),z 118 (pa 121 133),po 118 134] [] [135,103,102,101,0]) (c 135 (r (O 2 [ff])))))) (O 136 [adi 103 1,d 103 (m 136)]))))
def Qi:aA:=.loop ⟨true,[103,102,101,0],[]⟩ BU
def yS:WFn:=⟨1,[.tmp 2],zd (s (O 2 [ff]) (s (s (O 7 [m 0,nk 7,f 0 8,l 1 9,E (.bin .eql (T 10) (.c (.int .u8 2)))]) (c 11 (r (Q 12 [m 0,nk 12,f 4 13,l 1 14,ca 516 [15],m 16,y 17 (m 0),y 17 (nk 18),y 17 (f 1 19),y 17 (l 1 20),y 17 (E (.bin .eql (T 21) (.c (.str [])))),pa 17 22,m 23,y 24 (m 0),y 24 (nk 25),y 24 (f 2 26),y 24 (l 1 27),y 24 (E (.bin .eql (T 28) (.c (.str [])))),pa 24 29,m 30,y 31 (m 0),y 31 (nk 32),y 31 (f 3 33),y 31 (l 1 34),y 31 (ln 1 35),y 31 (eqi 36 0),pa 31 37,m 38,y 39 (m 0),y 39 (nk 40),y 39 (f 5 41),y 39 (l 1 42),y 39 (ln 1 43),y 39 (eqi 44 0),pa 39 45,d 2 (m 46)] [2])))) (s (s (Q 47 [m 0,nk 47,f 0 48,l 1 49,E (.bin .neq (T 50) (.c (.int .u8 1))),m 51,z 52 (m 0),z 52 (nk 53),z 52 (f 1 54),z 52 (l 1 55),z 52 (ca 517 [56]),z 52 (nt 57),po 52 58,m 59,z 60 (m 0),z 60 (nk 61),z 60 (f 2 62),z 60 (l 1 63),z 60 (E (.bin .neq (T 64) (.c (.str [])))),z 60 (m 65),y 66 (m 0),y 66 (nk 67),y 66 (f 2 68),y 66 (l 1 69),y 66 (ca 517 [70]),y 66 (nt 71),z 60 (pa 66 72),po 60 73,m 74,z 75 (m 0),z 75 (nk 76),z 75 (f 4 77),z 75 (l 1 78),z 75 (E (.bin .neq (T 79) (.c (.str [])))),po 75 80,m 81,z 82 (m 0),z 82 (nk 83),z 82 (f 3 84),z 82 (l 1 85),z 82 (ln 1 86),z 82 (gti 87 8),po 82 88,m 89,z 90 (m 0),z 90 (nk 91),z 90 (f 5 92),z 90 (l 1 93),z 90 (ln 1 94),z 90 (gti 95 16),po 90 96] [97,0]) (c 97 (r (O 2 [ff])))) (s (s (O 98 [m 0,nk 98,f 3 99,l 1 100,ln 1 101,i 0]) (bk 0 Qi ⟨true,[0],[]⟩)) PO))))⟩
@[simp] theorem ap1:ZL Np BQ ⟨true,[142,141,140,0],[]⟩:=aX rfl
noncomputable abbrev Gq (C:aH) (s:WSt):Option AV:=CK C 0 (aO [.tmp 2]) [.sq Np,.bk 2 ⟨true,[],[]⟩,.sq Qu] BQ s
@[simp] theorem aqN:ZL Qi BU ⟨true,[103,102,101,0],[]⟩:=aX rfl
noncomputable abbrev Aj (C:aH) (s:WSt):Option AV:=CK C 0 (aO [.tmp 2]) [.sq Qi,.bk 0 ⟨true,[0],[]⟩,.sq PO] BU s
def abS:WFn:=⟨1,[.tmp 2],zd (s (O 1 [bx 0,i 0]) (s (s (O 3 [h 6 1,ca 140 [3],eqi 4 0]) (c 5 (r (O 2 [i 14])))) (r (O 2 [i 0]))))⟩
def adK:WFn:=⟨1,[.tmp 2],zd (s (O 1 [bx 0,i 0]) (s (s (O 3 [h 6 1,ca 442 [3],eqi 4 0]) (c 5 (r (O 2 [i 14])))) (r (O 2 [i 0]))))⟩
def aeI:WFn:=⟨1,[.tmp 2],zd (s (O 1 [bx 0,i 0]) (s (O 4 [h 6 1,E (.call 520 [T 4,N 6]),d 3 (m 5)]) (s (s (O 6 [m 3,gti 6 64]) (c 7 (r (O 2 [i 0])))) (r (O 8 [m 3,d 2 (m 8)])))))⟩
def QE:aA:=zd (r (O 2 [i 1]))
def BO:aA:=zd (s (s (O 7 [m 3,m 0,ln 0 8,lt 7 9]) (cc 10 (w .skip) (ee 0))) (s (B 1 (s (O 13 [m 0,m 3,E (.fB (T 13) (T 14)),E (.bin .lss (T 15) (.c (.int .u8 32))),m 16,z 17 (m 0),z 17 (m 3),z 17 (E (.fB (T 18) (T 19))),z 17 (E (.bin .gtr (T 20) (.c (.int .u8 126)))),po 17 21]) (c 22 (r (O 2 [i 0]))))) (O 11 [m 3,adi 11 1,d 3 (m 12)])))
def Ol:aA:=.loop ⟨true,[3,0],[]⟩ BO
def aeK:WFn:=⟨1,[.tmp 2],zd (s (O 2 [i 0]) (s (s (Q 4 [m 0,ln 0 4,gti 5 64] [6,0]) (c 6 (r (O 2 [i 0])))) (s (s (O 3 [i 0]) (bk 0 Ol ⟨true,[],[]⟩)) QE)))⟩
@[simp] theorem apZ:ZL Ol BO ⟨true,[3,0],[]⟩:=aX rfl
noncomputable abbrev Ho (C:aH) (s:WSt):Option AV:=CK C 0 (aO [.tmp 2]) [.sq Ol,.bk 0 ⟨true,[],[]⟩,.sq QE] BO s
def NP:aA:=zd (r (O 2 [i 1]))
def Df:aA:=zd (s (s (O 13 [m 3,m 0,ln 0 14,lt 13 15]) (cc 16 (w .skip) (ee 0))) (s (B 1 (s (Q 19 [m 0,m 3,E (.fB (T 19) (T 20)),d 4 (m 21)] [4,3,0]) (s (O 22 [m 4,E (.bin .geq (T 22) (.c (.int .u8 97))),m 23,y 24 (m 4),y 24 (E (.bin .leq (T 25) (.c (.int .u8 122)))),pa 24 26,m 27,z 28 (m 4),z 28 (E (.bin .geq (T 29) (.c (.int .u8 48)))),z 28 (m 30),y 31 (m 4),y 31 (E (.bin .leq (T 32) (.c (.int .u8 57)))),z 28 (pa 31 33),po 28 34,nt 35]) (c 36 (r (O 2 [i 0])))))) (O 17 [m 3,adi 17 1,d 3 (m 18)])))
def Qv:aA:=.loop ⟨true,[3,0],[]⟩ Df
def ZY:WFn:=⟨1,[.tmp 2],zd (s (O 2 [i 0]) (s (s (O 5 [m 0,ln 0 5,lti 6 1,m 7,z 8 (m 0),z 8 (ln 0 9),z 8 (gti 10 16),po 8 11]) (c 12 (r (O 2 [i 0])))) (s (s (O 3 [i 0]) (bk 0 Qv ⟨true,[],[]⟩)) NP)))⟩
@[simp] theorem aq4:ZL Qv Df ⟨true,[3,0],[]⟩:=aX rfl
noncomputable abbrev Gu (C:aH) (s:WSt):Option AV:=CK C 0 (aO [.tmp 2]) [.sq Qv,.bk 0 ⟨true,[],[]⟩,.sq NP] Df s
def Ny:aA:=zd (r (O 2 [i 0]))
def AO:aA:=zd (s (s (O 19 [m 3,f 3 1,l 1 20,ln 1 21,lt 19 22]) (cc 23 (w .skip) (ee 0))) (s (B 1 (s (O 26 [f 3 1,l 1 26,m 3,ix 1 27 28,l 1 29,ca 557 [30],nt 31]) (c 32 (r (O 2 [i 6]))))) (O 24 [m 3,adi 24 1,d 3 (m 25)])))
def Qo:aA:=.loop ⟨true,[3,1],[]⟩ AO
def WG:WFn:=⟨1,[.tmp 2],zd (s (O 1 [bx 0,i 0]) (s (s (Q 4 [f 0 1,l 1 4,E (.bin .eql (T 5) (.c (.int .u64 0))),m 6,z 7 (f 2 1),z 7 (l 1 8),z 7 (ca 556 [9]),z 7 (nt 10),po 7 11,m 12,z 13 (f 3 1),z 13 (l 1 14),z 13 (ln 1 15),z 13 (gti 16 8),po 13 17] [18,1]) (c 18 (r (O 2 [i 6])))) (s (s (O 3 [i 0]) (bk 0 Qo ⟨true,[],[]⟩)) Ny)))⟩
@[simp] theorem aqm:ZL Qo AO ⟨true,[3,1],[]⟩:=aX rfl
noncomputable abbrev Hq (C:aH) (s:WSt):Option AV:=CK C 0 (aO [.tmp 2]) [.sq Qo,.bk 0 ⟨true,[],[]⟩,.sq Ny] AO s
def FM:aA:=zd (r (O 89 [h 6 7,E (.aP [.int .u8 0,.str [],.str [],.ro 2 [] true,.str [],.ro 6 [] true] 1 [(0,T 89)]),d 4 (m 90)]))
def oG:aA:=zd (s (s (O 71 [m 8,f 5 2,l 1 72,ln 1 73,lt 71 74]) (cc 75 (w .skip) (ee 3))) (s (B 4 (V 78 [f 5 7,l 1 78,f 5 2,l 1 80,m 8,ix 6 81 82,h 6 83,h 4 3,ca 513 [84,85],E (.app [.int .u8 0,.str [],.str [],.ro 2 [] true,.str [],.ro 6 [] true] 104 false (T 79) (T 86)),f 5 7,n (st 1 88 87)] [(1,8)] ⟨false,[],[]⟩)) (O 76 [m 8,adi 76 1,d 8 (m 77)])))
def PG:aA:=.loop ⟨true,[8,7,3,2],[]⟩ oG
def OV:aA:=zd (s (V 62 [f 1 2,l 1 62,f 2 2,l 1 64,f 3 2,l 1 66,h 4 3,ca 559 [67,68],E (.build [.int .u8 0,.str [],.str [],.ro 2 [] true,.str [],.ro 6 [] true] [(0,1,.c (.int .u8 1)),(1,1,T 63),(2,1,T 65),(3,1,T 69)]),d 7 (E (.alloc [.int .u8 0,.str [],.str [],.ro 2 [] true,.str [],.ro 6 [] true])),n (st 6 7 70)] [(1,7),(3,7),(1,9),(3,9),(5,9),(6,9),(7,9)] ⟨false,[],[]⟩) (s (s (Q 8 [i 0] [8,7,3,2]) (bk 3 PG ⟨true,[7],[]⟩)) FM))
def lH:aA:=zd (r (O 61 [m 5,d 4 (m 61)]))
def kJ:aA:=zd (s (s (O 32 [m 6,f 3 3,l 1 33,ln 1 34,lt 32 35]) (cc 36 (w .skip) (ee 1))) (s (B 2 (U 39 [m 5,f 1 2,l 1 40,f 3 3,l 1 42,m 6,ix 1 43 44,l 1 45,f 3 2,l 1 47,h 4 3,ca 559 [48,49],f 3 3,l 1 51,m 6,ix 1 52 53,l 1 54,E (.build [.int .u8 0,.str [],.str [],.ro 2 [] true,.str [],.ro 6 [] true] [(0,1,.c (.int .u8 2)),(4,1,T 55)]),E (.aP [.int .u8 0,.str [],.str [],.ro 2 [] true,.str [],.ro 6 [] true] 1 [(0,T 56)]),E (.build [.int .u8 0,.str [],.str [],.ro 2 [] true,.str [],.ro 6 [] true] [(0,1,.c (.int .u8 1)),(1,1,T 41),(2,1,T 46),(3,1,T 50),(5,1,T 57)]),E (.aP [.int .u8 0,.str [],.str [],.ro 2 [] true,.str [],.ro 6 [] true] 1 [(0,T 58)]),E (.app [.int .u8 0,.str [],.str [],.ro 2 [] true,.str [],.ro 6 [] true] 104 false (T 39) (T 59)),d 5 (m 60)] [(2,11),(4,11),(7,11),(11,13),(11,16),(2,18),(4,18),(7,18),(9,18),(10,18),(11,18)] [6,5,3,2])) (O 37 [m 6,adi 37 1,d 6 (m 38)])))
def QB:aA:=.loop ⟨true,[6,5,3,2],[]⟩ kJ
def TS:WFn:=⟨2,[.tmp 4],zd (s (O 2 [bx 0,bx 1,E (.mv (.c (.ro 6 [] true)))]) (s (s (O 9 [f 0 2,l 1 9]) (bk 0 (s (O 12 [E (.bin .eql (T 10) (.c (.int .u8 2))),d 11 (m 12)]) (cc 11 (r (O 13 [f 4 2,l 1 13,E (.build [.int .u8 0,.str [],.str [],.ro 2 [] true,.str [],.ro 6 [] true] [(0,1,.c (.int .u8 2)),(4,1,T 14)]),E (.aP [.int .u8 0,.str [],.str [],.ro 2 [] true,.str [],.ro 6 [] true] 1 [(0,T 15)]),d 4 (m 16)])) (s (O 18 [E (.bin .eql (T 10) (.c (.int .u8 3))),d 17 (m 18)]) (cc 17 (r (O 19 [f 2 3,l 1 19,E (.build [.int .u8 0,.str [],.str [],.ro 2 [] true,.str [],.ro 6 [] true] [(0,1,.c (.int .u8 2)),(4,1,T 20)]),E (.aP [.int .u8 0,.str [],.str [],.ro 2 [] true,.str [],.ro 6 [] true] 1 [(0,T 21)]),d 4 (m 22)])) (s (O 24 [E (.bin .eql (T 10) (.c (.int .u8 4))),d 23 (m 24)]) (cc 23 (r (Q 25 [f 0 3,l 1 25,ca 558 [26],E (.build [.int .u8 0,.str [],.str [],.ro 2 [] true,.str [],.ro 6 [] true] [(0,1,.c (.int .u8 2)),(4,1,T 27)]),E (.aP [.int .u8 0,.str [],.str [],.ro 2 [] true,.str [],.ro 6 [] true] 1 [(0,T 28)]),d 4 (m 29)] [4])) (s (O 31 [E (.bin .eql (T 10) (.c (.int .u8 5))),d 30 (m 31)]) (c 30 (s (R 5 [E (.mv (.c (.ro 6 [] true)))] ⟨true,[5,3,2],[(5,6)]⟩) (s (s (O 6 [i 0]) (bk 1 QB ⟨true,[5],[]⟩)) lH)))))))))) ⟨true,[3,2],[]⟩)) OV))⟩
@[simp] theorem arq:ZL PG oG ⟨true,[8,7,3,2],[]⟩:=aX rfl
noncomputable abbrev oO (C:aH) (s:WSt):Option AV:=CK C 0 (aO [.tmp 4]) [.sq PG,.bk 3 ⟨true,[7],[]⟩,.sq FM] oG s
@[simp] theorem aqI:ZL QB kJ ⟨true,[6,5,3,2],[]⟩:=aX rfl
noncomputable abbrev dH (C:aH) (s:WSt):Option AV:=CK C 0 (aO [.tmp 4]) [.sq QB,.bk 1 ⟨true,[5],[]⟩,.sq lH,.bk 0 ⟨true,[3,2],[]⟩,.sq OV] kJ s
def N9:aA:=zd (r (O 6 [i 0]))
def nG:aA:=zd (s (s (O 9 [m 7,m 2,ln 1 10,lt 9 11]) (cc 12 (w .skip) (ee 0))) (s (B 1 (s (U 15 [m 1,m 2,m 7,ix 4 16 17,f 0 18,l 1 19,ca 239 [15,20],gei 21 0,m 22,z 23 (m 2),z 23 (m 7),z 23 (E (.slice 4 (T 24) none (some (T 25)) none)),z 23 (m 2),z 23 (m 7),z 23 (ix 4 27 28),z 23 (f 0 29),z 23 (l 1 30),z 23 (ca 423 [26,31]),z 23 (gei 32 0),po 23 33,ca 406 [34],d 8 (m 35)] [] [8,7,3,2,1]) (s (V 36 [h 2 3,m 2,m 7,ix 4 37 38,h 4 39,m 8,ca 271 [36,40,41],gti 42 0] [] ⟨false,[],[]⟩) (c 43 (r (V 44 [h 2 3,m 2,m 7,ix 4 45 46,h 4 47,m 8,ca 271 [44,48,49],d 6 (m 50)] [] ⟨false,[],[]⟩)))))) (O 13 [m 7,adi 13 1,d 7 (m 14)])))
def OZ:aA:=.loop ⟨true,[7,3,2,1],[]⟩ nG
def agf:WFn:=⟨3,[.tmp 6],zd (s (O 6 [d 3 (bx 0),i 0]) (s (s (O 7 [i 0]) (bk 0 OZ ⟨true,[],[]⟩)) N9))⟩
@[simp] theorem apx:ZL OZ nG ⟨true,[7,3,2,1],[]⟩:=aX rfl
noncomputable abbrev oC (C:aH) (s:WSt):Option AV:=CK C 0 (aO [.tmp 6]) [.sq OZ,.bk 0 ⟨true,[],[]⟩,.sq N9] nG s
def w82:WFn:=⟨3,[.tmp 4],zd (s (O 4 [i 0]) (s (B 0 (s (O 6 [m 0,l 1 1,lt 6 7,d 5 (m 8)]) (cc 5 (r (O 9 [m 0,d 4 (m 9)])) (s (O 11 [m 0,l 1 1,l 1 2,ad 12 13,lt 11 14,d 10 (m 15)]) (c 10 (r (O 4 [i (-1)]))))))) (r (O 16 [m 0,l 1 2,sb 16 17,d 4 (m 18)]))))⟩
def w78:WFn:=⟨3,[.tmp 6],zd (s (O 6 [ff]) (r (O 7 [m 1,lti 7 0,m 8,z 9 (m 2),z 9 (lti 10 0),po 9 11,m 12,z 13 (m 1),z 13 (m 0),z 13 (gt 14 15),po 13 16,m 17,z 18 (m 2),z 18 (m 0),z 18 (m 1),z 18 (sb 20 21),z 18 (gt 19 22),po 18 23,d 6 (m 24)])))⟩
def w83:WFn:=⟨3,[.tmp 4],zd (s (O 4 [i 0]) (s (s (O 5 [m 0,l 1 1,lt 5 6]) (c 7 (r (O 8 [m 0,d 4 (m 8)])))) (r (O 9 [m 0,l 1 2,ad 9 10,d 4 (m 11)]))))⟩
def w79:WFn:=⟨3,[.tmp 4],zd (s (O 4 [i 0]) (s (s (O 5 [m 0,l 1 1,lt 5 6]) (c 7 (r (O 8 [m 0,d 4 (m 8)])))) (r (O 9 [m 0,l 1 2,ad 9 10,d 4 (m 11)]))))⟩
def w80:WFn:=⟨5,[.tmp 6],zd (s (O 6 [i 0]) (s (B 0 (s (Q 8 [m 0,l 1 1,lt 8 9,d 7 (m 10)] [7,4,3,2,1,0]) (cc 7 (r (O 11 [l 1 2,m 0,E (.dN (T 11) [T 12]),d 6 (m 13)])) (s (O 15 [m 0,l 1 1,l 1 3,ad 16 17,lt 15 18,d 14 (m 19)]) (c 14 (r (O 20 [l 1 4,m 0,ad 20 21,l 1 1,sb 22 23,d 6 (m 24)]))))))) (r (O 25 [l 1 2,m 0,l 1 3,sb 26 27,E (.dN (T 25) [T 28]),d 6 (m 29)]))))⟩
def acG:WFn:=⟨1,[.tmp 1],zd (s (O 1 [ff]) (r (O 2 [f 2 0,l 1 2,ln 0 3,lei 4 64,m 5,y 6 (f 2 0),y 6 (l 1 7),y 6 (E (.call 495 [T 8,.c (.fn 496 [])])),y 6 (nt 9),pa 6 10,d 1 (m 11)])))⟩
def ab9:WFn:=⟨2,[.tmp 4],zd (s (O 4 [ff]) (r (O 5 [m 0,m 1,ca 543 [5,6],gei 7 0,d 4 (m 8)])))⟩
def WQ:WFn:=⟨1,[.tmp 2],zd (s (O 2 [ff]) (r (O 3 [m 0,E (.bin .lss (T 3) (.c (.int .i32 32))),m 4,z 5 (m 0),z 5 (E (.bin .gtr (T 6) (.c (.int .i32 126)))),po 5 7,d 2 (m 8)])))⟩
def ac9:WFn:=⟨1,[.tmp 1],zd (s (O 1 [ff]) (r (O 2 [f 3 0,l 1 2,ln 1 3,lei 4 8,m 5,y 6 (f 3 0),y 6 (l 1 7),y 6 (E (.call 498 [T 8,.c (.fn 499 [])])),y 6 (nt 9),pa 6 10,d 1 (m 11)])))⟩
def adR:WFn:=⟨2,[.tmp 4],zd (s (O 4 [ff]) (r (O 5 [m 0,m 1,ca 544 [5,6],gei 7 0,d 4 (m 8)])))⟩
def ai8:WFn:=⟨1,[.tmp 2],zd (s (O 2 [ff]) (r (O 3 [m 0,ca 500 [3],nt 4,d 2 (m 5)])))⟩
def aaW:WFn:=⟨1,[.tmp 2],zd (s (O 2 [ff]) (s (O 3 [E (.mv (.c (.fn 545 [])))]) (r (O 4 [m 0,E (.bin .neq (T 4) (.c (.str []))),m 5,y 6 (m 0),y 6 (ln 0 7),y 6 (lei 8 16),pa 6 9,m 10,y 11 (m 0),y 11 (m 3),y 11 (ca 495 [12,13]),y 11 (nt 14),pa 11 15,d 2 (m 16)]))))⟩
def J5:WFn:=⟨3,[.cell 6 6 true,.tmp 7],zd (s (O 6 [d 3 (bx 0),d 4 (bx 1),E (.alloc [.int .u8 0,.str [],.str [],.ro 2 [] true,.str [],.ro 6 [] true]),i 0]) (s (s (Q 12 [m 2,lti 12 1,m 13,z 14 (m 2),z 14 (gti 15 64),po 14 16] [17,6,4,3,2]) (c 17 (r (O 18 [E (.build [.int .u8 0,.str [],.str [],.ro 2 [] true,.str [],.ro 6 [] true] []),n (st 6 6 18),d 7 (i 1)])))) (s (s (O 19 [h 6 3,ca 231 [19],d 8 (m 20)]) (s (O 21 [m 8,nei 21 0]) (c 22 (r (O 23 [E (.build [.int .u8 0,.str [],.str [],.ro 2 [] true,.str [],.ro 6 [] true] []),m 8,n (st 6 6 23),d 7 (m 24)]))))) (s (s (O 25 [h 4 4,ca 546 [25],d 9 (m 26)]) (s (O 27 [m 9,nei 27 0]) (c 28 (r (O 29 [E (.build [.int .u8 0,.str [],.str [],.ro 2 [] true,.str [],.ro 6 [] true] []),m 9,n (st 6 6 29),d 7 (m 30)]))))) (s (Q 31 [h 4 4,E (.build [.int .u64 0,.int .u8 0,.str [],.ro 1 [] true] [(0,4,T 31)]),h 6 3,E (.aP [.int .u8 0,.str [],.str [],.ro 3 [] true,.str [],.ro 6 [] true] 1 [(0,T 33)]),ca 547 [32,34],E (.idxs 6 (T 35) (N 0)),h 6 36,d 10 (E (.alloc [.int .u8 0,.str [],.str [],.ro 2 [] true,.str [],.ro 6 [] true])),n (st 6 10 37)] [10,6,2]) (s (s (O 38 [h 6 10,ca 140 [38],d 11 (m 39)]) (s (O 40 [m 11,eqi 40 0,m 41,z 42 (m 11),z 42 (m 2),z 42 (gt 43 44),po 42 45]) (c 46 (r (O 47 [E (.build [.int .u8 0,.str [],.str [],.ro 2 [] true,.str [],.ro 6 [] true] []),n (st 6 6 47),d 7 (i 14)]))))) (r (O 48 [h 6 10,n (st 6 6 48),d 7 (i 0)]))))))))⟩
def ahO:WFn:=⟨3,[.cell 6 1 true,.tmp 7],zd (s (O 3 [bx 0,bx 1,bx 2,E (.alloc [.ro 6 [] true]),i 0]) (r (O 8 [h 2 3,h 1 4,f 1 5,l 1 10,f 4 5,l 1 12,ca 109 [8,9,11,13],ex 0 14,ex 1 14,n (st 1 6 15),d 7 (m 16)])))⟩
def afw:WFn:=⟨3,[.cell 6 1 true,.tmp 7],zd (s (O 3 [bx 0,bx 1,bx 2,E (.alloc [.ro 6 [] true]),i 0]) (r (O 8 [h 2 3,h 1 4,f 1 5,l 1 10,f 2 5,l 1 12,ca 110 [8,9,11,13],ex 0 14,ex 1 14,n (st 1 6 15),d 7 (m 16)])))⟩
def agl:WFn:=⟨3,[.cell 6 1 true,.tmp 7],zd (s (O 3 [bx 0,bx 1,bx 2,E (.alloc [.ro 6 [] true]),i 0]) (r (O 8 [h 2 3,h 1 4,f 1 5,l 1 10,f 2 5,l 1 12,f 3 5,l 1 14,ca 237 [8,9,11,13,15],ex 0 16,ex 1 16,n (st 1 6 17),d 7 (m 18)])))⟩
def agD:WFn:=⟨3,[.cell 6 1 true,.tmp 7],zd (s (O 3 [bx 0,bx 1,bx 2,E (.alloc [.ro 6 [] true]),i 0]) (r (O 8 [h 2 3,h 1 4,f 1 5,l 1 10,f 4 5,l 1 12,ca 114 [8,9,11,13],ex 0 14,ex 1 14,n (st 1 6 15),d 7 (m 16)])))⟩
def agA:WFn:=⟨3,[.cell 6 1 true,.tmp 7],zd (s (O 3 [bx 0,bx 1,bx 2,E (.alloc [.ro 6 [] true]),i 0]) (r (O 8 [h 2 3,h 1 4,f 4 5,l 1 10,ca 108 [8,9,11],ex 0 12,ex 1 12,n (st 1 6 13),d 7 (m 14)])))⟩
def ajb:aA:=zd (r (O 35 [m 6,d 2 (m 35)]))
def YA:aA:=zd (s (O 28 [lt 27 26]) (s (cc 28 (w .skip) (ee 2)) (s (B 3 (s (O 29 [ix 1 25 27,l 1 29,d 8 (m 30)]) (O 31 [m 6,m 8,E (.app [.int .u64 0,.int .u8 0,.str [],.ro 1 [] true] 56 false (T 31) (T 32)),d 6 (m 33)]))) (O 34 [adi 27 1,d 27 (m 34)]))))
def Xr:aA:=.loop ⟨true,[27,26,25,6],[]⟩ YA
def aiK:aA:=zd (s (O 23 [m 3,E (.call 3006 [.c (.ro 4 [] true),T 23]),d 6 (m 24)]) (s (s (O 25 [m 0,ln 1 25,i 0]) (bk 2 Xr ⟨true,[6],[]⟩)) ajb))
def XC:aA:=zd (s (O 12 [lt 11 10]) (s (cc 12 (w .skip) (ee 0)) (s (B 1 (s (O 13 [ix 1 9 11,l 1 13,d 5 (m 14)]) (s (O 15 [m 3,m 5,ln 1 16,ad 15 17,d 3 (m 18)]) (s (Q 19 [m 3,lti 19 0] [20,11,10,9,3,0]) (c 20 (O 21 [E .fail,n (E .fail)])))))) (O 22 [adi 11 1,d 11 (m 22)]))))
def Yr:aA:=.loop ⟨true,[11,10,9,3,0],[]⟩ XC
def an8:WFn:=⟨1,[.tmp 2],zd (s (O 2 [E (.mv (.c (.ro 4 [] true)))]) (s (O 3 [i 0]) (s (s (O 9 [m 0,ln 1 9,i 0]) (bk 0 Yr ⟨true,[3,0],[]⟩)) aiK)))⟩
@[simp] theorem aqo:ZL Xr YA ⟨true,[27,26,25,6],[]⟩:=aX rfl
@[simp] theorem aqs:ZL Yr XC ⟨true,[11,10,9,3,0],[]⟩:=aX rfl
def PU:aA:=zd (r (O 27 [m 3,E (.cvt .i64 (T 27)),d 2 (m 28)]))
def tH:aA:=zd (s (s (O 5 [m 4,m 0,ln 1 6,lt 5 7]) (cc 8 (w .skip) (ee 0))) (s (B 1 (s (s (Q 11 [m 0,m 4,ix 6 11 12,f 4 13,l 1 14,gti 15 0] [16,4,3,0]) (c 16 (O 17 [m 3,m 0,m 4,ix 6 18 19,f 4 20,l 1 21,E (.cvt .u64 (T 22)),ad 17 23,d 3 (m 24)]))) (s (O 25 [m 3,E (.bin .gtr (T 25) (.c (.int .u64 4611686018427387904)))]) (c 26 (r (O 2 [i 4611686018427387905])))))) (O 9 [m 4,adi 9 1,d 4 (m 10)])))
def L9:aA:=.loop ⟨true,[4,3,0],[]⟩ tH
def ahN:WFn:=⟨1,[.tmp 2],zd (s (O 2 [i 0]) (s (O 3 [E (.mv (.c (.int .u64 0)))]) (s (s (O 4 [i 0]) (bk 0 L9 ⟨true,[3],[]⟩)) PU)))⟩
@[simp] theorem ars:ZL L9 tH ⟨true,[4,3,0],[]⟩:=aX rfl
noncomputable abbrev yM (C:aH) (s:WSt):Option AV:=CK C 0 (aO [.tmp 2]) [.sq L9,.bk 0 ⟨true,[3],[]⟩,.sq PU] tH s
def ac6:WFn:=⟨2,[.tmp 4],zd (s (O 3 [bx 1,i 0]) (s (s (O 7 [m 0,nk 7,f 0 8,l 1 9,E (.bin .neq (T 10) (.c (.int .u8 1)))]) (c 11 (r (O 4 [i 0])))) (s (O 5 [E (.alloc [.int .i64 0]),n (E (.store 1 (T 5) (N 0)))]) (s (O 6 [E (.alloc [.bQ])]) (s (O 12 [E (.iW 548 [T 5,T 3,T 6]),n (st 1 6 12)]) (s (s (O 13 [l 1 6,m 0,E (.dN (T 13) [T 14,N 1]),nt 15]) (c 16 (r (O 4 [i 0])))) (r (O 17 [l 1 5,d 4 (m 17)]))))))))⟩
def aie:WFn:=⟨1,[],zd (w .skip)⟩
def aak:WFn:=⟨1,[.tmp 2],zd (s (O 1 [bx 0,i 0]) (s (O 4 [h 6 1,E (.call 550 [T 4,N 6]),d 3 (m 5)]) (s (s (O 6 [f 0 1,l 1 6,E (.bin .neq (T 7) (.c (.int .u8 1))),m 8,z 9 (m 3),z 9 (gti 10 64),po 9 11]) (c 12 (r (O 2 [i 0])))) (r (O 13 [m 3,d 2 (m 13)])))))⟩
def acD:WFn:=⟨1,[.tmp 2],zd (s (O 2 [ff]) (r (O 3 [m 0,ln 0 3,lei 4 64,m 5,y 6 (m 0),y 6 (E (.call 543 [T 7,.c (.fn 560 [])])),y 6 (lti 8 0),pa 6 9,d 2 (m 10)])))⟩
def MQ:aA:=zd (r (O 2 [tt]))
def BI:aA:=zd (s (O 15 [lt 14 13]) (s (cc 15 (w .skip) (ee 0)) (s (B 1 (s (O 16 [m 14,d 3 (m 16)]) (s (O 17 [m 0,m 3,E (.fB (T 17) (T 18)),ca 561 [19],nt 20]) (c 21 (r (O 2 [ff])))))) (O 22 [adi 14 1,d 14 (m 22)]))))
def Qs:aA:=.loop ⟨true,[14,13,0],[]⟩ BI
def aan:WFn:=⟨1,[.tmp 2],zd (s (O 2 [ff]) (s (s (Q 4 [m 0,ln 0 4,lti 5 1,m 6,z 7 (m 0),z 7 (ln 0 8),z 7 (gti 9 16),po 7 10] [11,0]) (c 11 (r (O 2 [ff])))) (s (s (O 12 [m 0,ln 0 12,i 0]) (bk 0 Qs ⟨true,[],[]⟩)) MQ)))⟩
@[simp] theorem aq3:ZL Qs BI ⟨true,[14,13,0],[]⟩:=aX rfl
noncomputable abbrev G7 (C:aH) (s:WSt):Option AV:=CK C 0 (aO [.tmp 2]) [.sq Qs,.bk 0 ⟨true,[],[]⟩,.sq MQ] BI s
def abJ:WFn:=⟨2,[.tmp 4],zd (s (O 4 [ff]) (r (O 5 [m 0,m 1,ca 562 [5,6],gei 7 0,d 4 (m 8)])))⟩
def aeV:WFn:=⟨2,[.tmp 3],zd (s (O 2 [bx 0,ff]) (r (O 4 [f 2 2,l 1 4,f 2 1,l 1 6,eq 5 7,d 3 (m 8)])))⟩
def G6:aA:=zd (r (O 35 [m 5,d 4 (m 35)]))
def xI:aA:=zd (s (s (Q 14 [m 6,f 5 2,l 1 15,ln 1 16,lt 14 17,m 18,y 19 (m 5),y 19 (lei 20 64),pa 19 21] [22,6,5,2,1]) (cc 22 (w .skip) (ee 0))) (s (B 1 (O 25 [m 5,f 5 2,l 1 26,m 6,ix 6 27 28,h 6 29,m 1,sbi 31 1,ca 520 [30,32],ad 25 33,d 5 (m 34)])) (O 23 [m 6,adi 23 1,d 6 (m 24)])))
def Nr:aA:=.loop ⟨true,[6,5,2,1],[]⟩ xI
def aao:WFn:=⟨2,[.tmp 4],zd (s (O 4 [d 2 (bx 0),i 0]) (s (s (O 7 [m 1,lti 7 1,m 8,z 9 (h 6 2),z 9 (ca 563 [10]),z 9 (nt 11),po 9 12]) (c 13 (r (O 4 [i 1000])))) (s (O 5 [i 1]) (s (s (O 6 [i 0]) (bk 0 Nr ⟨true,[5],[]⟩)) G6))))⟩
@[simp] theorem ap2:ZL Nr xI ⟨true,[6,5,2,1],[]⟩:=aX rfl
noncomputable abbrev Dk (C:aH) (s:WSt):Option AV:=CK C 0 (aO [.tmp 4]) [.sq Nr,.bk 0 ⟨true,[5],[]⟩,.sq G6] xI s
def Pj:aA:=zd (r (O 2 [tt]))
def Ah:aA:=zd (s (s (O 7 [m 3,m 0,ln 0 8,lt 7 9]) (cc 10 (w .skip) (ee 0))) (s (B 1 (s (O 13 [m 0,m 3,E (.fB (T 13) (T 14)),E (.bin .lss (T 15) (.c (.int .u8 32))),m 16,z 17 (m 0),z 17 (m 3),z 17 (E (.fB (T 18) (T 19))),z 17 (E (.bin .gtr (T 20) (.c (.int .u8 126)))),po 17 21]) (c 22 (r (O 2 [ff]))))) (O 11 [m 3,adi 11 1,d 3 (m 12)])))
def Ph:aA:=.loop ⟨true,[3,0],[]⟩ Ah
def abX:WFn:=⟨1,[.tmp 2],zd (s (O 2 [ff]) (s (s (Q 4 [m 0,ln 0 4,gti 5 64] [6,0]) (c 6 (r (O 2 [ff])))) (s (s (O 3 [i 0]) (bk 0 Ph ⟨true,[],[]⟩)) Pj)))⟩
@[simp] theorem aqv:ZL Ph Ah ⟨true,[3,0],[]⟩:=aX rfl
noncomputable abbrev F7 (C:aH) (s:WSt):Option AV:=CK C 0 (aO [.tmp 2]) [.sq Ph,.bk 0 ⟨true,[],[]⟩,.sq Pj] Ah s
def wM:aA:=zd (r (O 36 [m 0,ln 0 36,gei 37 1,m 38,y 39 (m 0),y 39 (ln 0 40),y 39 (lei 41 16),pa 39 42,d 2 (m 43)]))
def Bc:aA:=zd (s (s (O 4 [m 3,m 0,ln 0 5,lt 4 6,m 7,y 8 (m 3),y 8 (lti 9 17),pa 8 10]) (cc 11 (w .skip) (ee 0))) (s (B 1 (s (Q 14 [m 0,m 3,E (.fB (T 14) (T 15)),E (.bin .lss (T 16) (.c (.int .u8 97))),m 17,z 18 (m 0),z 18 (m 3),z 18 (E (.fB (T 19) (T 20))),z 18 (E (.bin .gtr (T 21) (.c (.int .u8 122)))),po 18 22,m 23,y 24 (m 0),y 24 (m 3),y 24 (E (.fB (T 25) (T 26))),y 24 (E (.bin .lss (T 27) (.c (.int .u8 48)))),y 24 (m 28),z 29 (m 0),z 29 (m 3),z 29 (E (.fB (T 30) (T 31))),z 29 (E (.bin .gtr (T 32) (.c (.int .u8 57)))),y 24 (po 29 33),pa 24 34] [35,3,0]) (c 35 (r (O 2 [ff]))))) (O 12 [m 3,adi 12 1,d 3 (m 13)])))
def QJ:aA:=.loop ⟨true,[3,0],[]⟩ Bc
def aiZ:WFn:=⟨1,[.tmp 2],zd (s (O 2 [ff]) (s (s (O 3 [i 0]) (bk 0 QJ ⟨true,[0],[]⟩)) wM))⟩
@[simp] theorem apC:ZL QJ Bc ⟨true,[3,0],[]⟩:=aX rfl
noncomputable abbrev GR (C:aH) (s:WSt):Option AV:=CK C 0 (aO [.tmp 2]) [.sq QJ,.bk 0 ⟨true,[0],[]⟩,.sq wM] Bc s
def abq:WFn:=⟨1,[.tmp 2],zd (s (O 2 [E (.mv (.c (.str [])))]) (s (s (O 3 [m 0,E (.bin .lss (T 3) (.c (.int .u64 10)))]) (c 4 (r (O 5 [m 0,m 0,E (.bin .add (T 6) (.c (.int .u64 1))),E (.slice 0 (.c (.str [48,49,50,51,52,53,54,55,56,57])) (some (T 5)) (some (T 7)) none),d 2 (m 8)])))) (r (O 9 [m 0,E (.bin .quo (T 9) (.c (.int .u64 10))),ca 558 [10],m 0,E (.bin .rem (T 12) (.c (.int .u64 10))),ca 558 [13],ad 11 14,d 2 (m 15)]))))⟩
def FV:aA:=zd (r (O 50 [m 5,d 4 (m 50)]))
def zY:aA:=zd (s (s (O 8 [m 6,m 0,ln 1 9,lt 8 10]) (cc 11 (w .skip) (ee 0))) (s (B 1 (s (O 14 [m 0,m 6,ix 3 14 15,f 2 16,l 1 17,d 7 (m 18)]) (s (s (O 19 [m 0,m 6,ix 3 19 20,f 1 21,l 1 22]) (B 2 (s (O 25 [E (.bin .eql (T 23) (.c (.int .u8 1))),d 24 (m 25)]) (cc 24 (O 26 [f 2 3,l 1 26,d 7 (m 27)]) (s (O 29 [E (.bin .eql (T 23) (.c (.int .u8 2))),d 28 (m 29)]) (cc 28 (O 30 [f 0 3,l 1 30,ca 558 [31],d 7 (m 32)]) (s (O 34 [E (.bin .eql (T 23) (.c (.int .u8 3))),d 33 (m 34)]) (c 33 (Q 35 [f 3 3,l 1 35,ln 1 36,E (.cvt .u64 (T 37)),ca 558 [38],d 7 (m 39)] [7,6,5,3,0]))))))))) (O 40 [m 5,m 0,m 6,ix 3 41 42,f 0 43,l 1 44,m 7,E (.build [.str [],.str []] [(0,1,T 45),(1,1,T 46)]),E (.aP [.str [],.str []] 1 [(0,T 47)]),E (.app [.str [],.str []] 32 false (T 40) (T 48)),d 5 (m 49)])))) (O 12 [m 6,adi 12 1,d 6 (m 13)])))
def Om:aA:=.loop ⟨true,[6,5,3,0],[]⟩ zY
def ag0:WFn:=⟨2,[.tmp 4],zd (s (Q 3 [bx 1,E (.mv (.c (.ro 2 [] true)))] [3,0]) (s (R 5 [E (.mv (.c (.ro 2 [] true)))] ⟨true,[5,3,0],[(5,2)]⟩) (s (s (O 6 [i 0]) (bk 0 Om ⟨true,[5],[]⟩)) FV)))⟩
@[simp] theorem apM:ZL Om zY ⟨true,[6,5,3,0],[]⟩:=aX rfl
noncomputable abbrev GN (C:aH) (s:WSt):Option AV:=CK C 0 (aO [.tmp 4]) [.sq Om,.bk 0 ⟨true,[5],[]⟩,.sq FV] zY s
def afm:WFn:=⟨2,[.tmp 4],zd (s (O 4 [i 0]) (r (O 5 [m 0,m 1,E (.call 578 [T 5,T 6,.c (.bool true)]),d 4 (m 7)])))⟩
def PW:aA:=zd (r (O 4 [i (-1)]))
def xg:aA:=zd (s (O 9 [lt 8 7]) (s (cc 9 (w .skip) (ee 0)) (s (B 1 (s (O 10 [m 8,d 5 (m 10)]) (s (O 11 [m 1,m 0,m 5,ix 1 12 13,l 1 14,E (.dN (T 11) [T 15])]) (c 16 (r (O 17 [m 5,d 4 (m 17)])))))) (O 18 [adi 8 1,d 8 (m 18)]))))
def NC:aA:=.loop ⟨true,[8,7,1,0],[]⟩ xg
def ahn:WFn:=⟨2,[.tmp 4],zd (s (O 4 [i 0]) (s (s (O 6 [m 0,ln 1 6,i 0]) (bk 0 NC ⟨true,[],[]⟩)) PW))⟩
@[simp] theorem apT:ZL NC xg ⟨true,[8,7,1,0],[]⟩:=aX rfl
noncomputable abbrev Bq (C:aH) (s:WSt):Option AV:=CK C 0 (aO [.tmp 4]) [.sq NC,.bk 0 ⟨true,[],[]⟩,.sq PW] xg s
def aa6:WFn:=⟨1,[.tmp 2],zd (s (O 2 [ff]) (r (O 3 [m 0,E (.bin .lss (T 3) (.c (.int .i32 97))),m 4,z 5 (m 0),z 5 (E (.bin .gtr (T 6) (.c (.int .i32 122)))),po 5 7,m 8,y 9 (m 0),y 9 (E (.bin .lss (T 10) (.c (.int .i32 48)))),y 9 (m 11),z 12 (m 0),z 12 (E (.bin .gtr (T 13) (.c (.int .i32 57)))),y 9 (po 12 14),pa 9 15,d 2 (m 16)])))⟩
def UL:WFn:=⟨1,[.tmp 2],zd (s (Q 1 [bx 0,i 0] [1]) (s (s (O 3 [f 0 1,l 1 3,E (.bin .eql (T 4) (.c (.int .u64 0))),m 5,z 6 (f 2 1),z 6 (l 1 7),z 6 (ca 579 [8]),z 6 (nt 9),po 6 10,m 11,z 12 (f 3 1),z 12 (l 1 13),z 12 (ln 1 14),z 12 (gti 15 8),po 12 16,m 17,z 18 (f 3 1),z 18 (l 1 19),z 18 (E (.call 498 [T 20,.c (.fn 580 [])])),po 18 21]) (c 22 (r (O 2 [i 6])))) (r (O 2 [i 0]))))⟩
def Bg:aA:=zd (r (O 81 [m 5,d 4 (m 81)]))
def qJ:aA:=zd (O 80 [adi 12 1,d 12 (m 80)])
def AZ:aA:=zd (s (O 66 [lt 65 64]) (s (cc 66 (w .skip) (ee 3)) (s (B 4 (s (O 67 [ix 1 63 65,l 1 67,d 9 (m 68)]) (U 69 [m 5,h 4 2,h 6 7,m 9,m 9,ca 583 [73],E (.aP [.int .u8 0,.str [],.str [],.ro 2 [] true,.str [],.ro 6 [] true] 1 [(0,T 74)]),ca 582 [70,71,72,75],E (.aP [.int .u8 0,.str [],.str [],.ro 2 [] true,.str [],.ro 6 [] true] 1 [(0,T 76)]),E (.app [.int .u8 0,.str [],.str [],.ro 2 [] true,.str [],.ro 6 [] true] 104 false (T 69) (T 77)),d 5 (m 78)] [(1,5),(2,5),(1,6),(2,6)] [65,64,63,12,11,10,7,5,2]))) (O 79 [adi 65 1,d 65 (m 79)]))))
def Qm:aA:=.loop ⟨true,[65,64,63,12,11,10,7,5,2],[]⟩ AZ
def oL:aA:=zd (s (O 13 [lt 12 11]) (s (cc 13 (w .skip) (ee 0)) (s (bk 1 (s (Q 14 [ix 6 10 12,h 6 14,d 7 (E (.alloc [.int .u8 0,.str [],.str [],.ro 3 [] true,.str [],.ro 6 [] true])),n (st 6 7 15)] [12,11,10,7,5,2]) (s (O 16 [f 0 7,l 1 16]) (bk 2 (s (O 19 [E (.bin .eql (T 17) (.c (.int .u8 1))),d 18 (m 19)]) (cc 18 (V 20 [m 5,h 4 2,h 6 7,f 2 7,l 1 23,h 4 2,f 5 7,l 1 26,ca 547 [25,27],ca 582 [21,22,24,28],E (.aP [.int .u8 0,.str [],.str [],.ro 2 [] true,.str [],.ro 6 [] true] 1 [(0,T 29)]),E (.app [.int .u8 0,.str [],.str [],.ro 2 [] true,.str [],.ro 6 [] true] 104 false (T 20) (T 30)),d 5 (m 31)] [(1,8),(2,8),(4,8)] ⟨false,[],[]⟩) (s (O 33 [E (.bin .eql (T 17) (.c (.int .u8 2))),d 32 (m 33)]) (cc 32 (Q 34 [m 5,f 4 7,l 1 35,ca 583 [36],E (.aP [.int .u8 0,.str [],.str [],.ro 2 [] true,.str [],.ro 6 [] true] 1 [(0,T 37)]),E (.app [.int .u8 0,.str [],.str [],.ro 2 [] true,.str [],.ro 6 [] true] 104 false (T 34) (T 38)),d 5 (m 39)] [12,11,10,5,2]) (s (O 41 [E (.bin .eql (T 17) (.c (.int .u8 3))),d 40 (m 41)]) (cc 40 (O 42 [m 5,f 0 2,f 2 43,l 1 44,ca 583 [45],E (.aP [.int .u8 0,.str [],.str [],.ro 2 [] true,.str [],.ro 6 [] true] 1 [(0,T 46)]),E (.app [.int .u8 0,.str [],.str [],.ro 2 [] true,.str [],.ro 6 [] true] 104 false (T 42) (T 47)),d 5 (m 48)]) (s (O 50 [E (.bin .eql (T 17) (.c (.int .u8 4))),d 49 (m 50)]) (cc 49 (O 51 [m 5,f 0 2,f 0 52,l 1 53,ca 584 [54],ca 583 [55],E (.aP [.int .u8 0,.str [],.str [],.ro 2 [] true,.str [],.ro 6 [] true] 1 [(0,T 56)]),E (.app [.int .u8 0,.str [],.str [],.ro 2 [] true,.str [],.ro 6 [] true] 104 false (T 51) (T 57)),d 5 (m 58)]) (s (O 60 [E (.bin .eql (T 17) (.c (.int .u8 5))),d 59 (m 60)]) (c 59 (s (O 61 [f 0 2,f 3 61,l 1 62,ln 1 63,i 0]) (bk 3 Qm ⟨true,[12,11,10,5,2],[]⟩)))))))))))) ⟨true,[12,11,10,5,2],[]⟩))) ⟨true,[12,11,10,5,2],[]⟩) qJ)))
def F6:aA:=.loop ⟨true,[12,11,10,5,2],[]⟩ oL
def ajh:WFn:=⟨2,[.tmp 4],zd (s (O 4 [d 2 (bx 0),E (.mv (.c (.ro 6 [] true)))]) (s (R 5 [E (.mv (.c (.ro 6 [] true)))] ⟨true,[5,2,1],[(5,6)]⟩) (s (s (O 10 [m 1,ln 1 10,i 0]) (bk 0 F6 ⟨true,[5],[]⟩)) Bg)))⟩
@[simp] theorem arj:ZL Qm AZ ⟨true,[65,64,63,12,11,10,7,5,2],[]⟩:=aX rfl
noncomputable abbrev Fj (C:aH) (s:WSt):Option AV:=CK C 0 (aO [.tmp 4]) [.sq Qm,.bk 3 ⟨true,[12,11,10,5,2],[]⟩,.bk 2 ⟨true,[12,11,10,5,2],[]⟩,.bk 1 ⟨true,[12,11,10,5,2],[]⟩,.sq qJ,.sq F6,.bk 0 ⟨true,[5],[]⟩,.sq Bg] AZ s
@[simp] theorem arb:ZL F6 oL ⟨true,[12,11,10,5,2],[]⟩:=aX rfl
noncomputable abbrev kG (C:aH) (s:WSt):Option AV:=CK C 0 (aO [.tmp 4]) [.sq F6,.bk 0 ⟨true,[5],[]⟩,.sq Bg] oL s
def anv:WFn:=⟨2,[.tmp 4],zd (s (O 4 [E (.mv (.c (.ro 4 [] true)))]) (s (s (O 5 [m 1,lti 5 0]) (c 6 (Q 7 [E .fail,n (E .fail)] [1,0]))) (s (s (O 8 [m 1,m 0,E (.cap (T 9)),m 0,ln 1 11,sb 10 12,sb 8 13,d 1 (m 14)]) (s (O 15 [m 1,gti 15 0]) (c 16 (O 17 [m 0,m 0,E (.cap (T 18)),E (.slice 4 (T 17) none (some (T 19)) none),m 1,E (.app [.int .u64 0,.int .u8 0,.str [],.ro 1 [] true] 56 true (T 20) (T 21)),m 0,ln 1 23,E (.slice 4 (T 22) none (some (T 24)) none),d 0 (m 25)])))) (r (O 26 [m 0,d 4 (m 26)])))))⟩
def OL:aA:=zd (r (O 7 [tt]))
def xJ:aA:=zd (s (O 31 [lt 30 29]) (s (cc 31 (w .skip) (ee 0)) (s (B 1 (s (O 32 [m 30,d 8 (m 32)]) (s (V 33 [l 1 4,m 0,nk 34,f 5 35,l 1 36,m 8,ix 6 37 38,m 1,adi 40 1,E (.dN (T 33) [T 39,T 41]),nt 42] [] ⟨false,[],[]⟩) (c 43 (r (O 7 [ff])))))) (O 44 [adi 30 1,d 30 (m 44)]))))
def OU:aA:=.loop ⟨true,[30,29,4,1,0],[]⟩ xJ
def Wi:WFn:=⟨5,[.tmp 7],zd (s (O 7 [ff]) (s (O 9 [l 1 2,adi 9 1,n (st 1 2 10)]) (s (s (O 11 [m 1,gti 11 6,m 12,z 13 (l 1 2),z 13 (gti 14 64),po 13 15,m 16,z 17 (m 0),z 17 (ca 549 [18]),z 17 (nt 19),po 17 20]) (c 21 (r (O 7 [ff])))) (s (O 22 [l 1 3,m 0,E (.dN (T 22) [T 23])]) (s (s (Q 25 [m 0,nk 25,f 5 26,l 1 27,ln 1 28,i 0] [30,29,4,1,0]) (bk 0 OU ⟨true,[],[]⟩)) OL)))))⟩
@[simp] theorem aq5:ZL OU xJ ⟨true,[30,29,4,1,0],[]⟩:=aX rfl
def ji:WFn:=⟨1,[.tmp 2],zd (s (O 2 [ff]) (s (O 4 [m 0,nk 4,h 6 5,d 3 (E (.alloc [.int .u8 0,.str [],.str [],.ro 3 [] true,.str [],.ro 6 [] true])),n (st 6 3 6)]) (s (s (O 7 [m 0,nk 7,f 0 8,l 1 9]) (B 0 (s (B 5 (s (B 4 (s (B 3 (s (B 2 (s (B 1 (s (s (s (O 12 [E (.bin .eql (T 10) (.c (.int .u8 1))),d 11 (m 12)]) (c 11 (ee 1))) (s (s (O 14 [E (.bin .eql (T 10) (.c (.int .u8 5))),d 13 (m 14)]) (c 13 (ee 2))) (s (s (O 16 [E (.bin .eql (T 10) (.c (.int .u8 2))),d 15 (m 16)]) (c 15 (ee 3))) (s (s (O 18 [E (.bin .eql (T 10) (.c (.int .u8 3))),d 17 (m 18)]) (cc 17 (w .skip) (O 19 [E (.bin .eql (T 10) (.c (.int .u8 4))),d 17 (m 19)]))) (c 17 (ee 4)))))) (ee 5))) (s (s (Q 20 [m 0,nk 20,f 2 21,l 1 22,E (.bin .neq (T 23) (.c (.str []))),m 24,y 25 (m 0),y 25 (nk 26),y 25 (f 2 27),y 25 (l 1 28),y 25 (ca 581 [29]),y 25 (nt 30),pa 25 31,m 32,z 33 (m 0),z 33 (nk 34),z 33 (f 5 35),z 33 (l 1 36),z 33 (ln 1 37),z 33 (gti 38 16),po 33 39] [40,3,0]) (c 40 (r (O 2 [ff])))) (O 41 [f 2 3,n (E (.store 1 (T 41) (.c (.str [])))),f 5 3,n (E (.store 1 (T 42) (.c (.ro 6 [] true))))])))) (s (s (s (Q 43 [m 0,nk 43,f 1 44,l 1 45,ca 581 [46],nt 47,m 48,z 49 (m 0),z 49 (nk 50),z 49 (f 3 51),z 49 (l 1 52),z 49 (ca 585 [53]),z 49 (nt 54),po 49 55] [56,3]) (c 56 (r (O 2 [ff])))) (O 57 [f 1 3,n (E (.store 1 (T 57) (.c (.str [])))),f 3 3,n (E (.store 1 (T 58) (.c (.ro 3 [] true))))])) (ee 0)))) (s (s (s (O 59 [m 0,nk 59,f 4 60,l 1 61,ca 579 [62],nt 63]) (c 64 (r (O 2 [ff])))) (O 65 [f 4 3,n (E (.store 1 (T 65) (.c (.str []))))])) (ee 0)))) (ee 0))) (s (r (O 2 [ff])) (ee 0))))) (r (Q 66 [f 1 3,l 1 66,E (.bin .eql (T 67) (.c (.str []))),m 68,y 69 (f 2 3),y 69 (l 1 70),y 69 (E (.bin .eql (T 71) (.c (.str [])))),pa 69 72,m 73,y 74 (f 4 3),y 74 (l 1 75),y 74 (E (.bin .eql (T 76) (.c (.str [])))),pa 74 77,m 78,y 79 (f 3 3),y 79 (l 1 80),y 79 (ln 1 81),y 79 (eqi 82 0),pa 79 83,m 84,y 85 (f 5 3),y 85 (l 1 86),y 85 (ln 1 87),y 85 (eqi 88 0),pa 85 89,d 2 (m 90)] [2])))))⟩
def F8:aA:=zd (r (O 35 [m 5,d 4 (m 35)]))
def yC:aA:=zd (s (s (Q 14 [m 6,f 5 2,l 1 15,ln 1 16,lt 14 17,m 18,y 19 (m 5),y 19 (lei 20 64),pa 19 21] [22,6,5,2,1]) (cc 22 (w .skip) (ee 0))) (s (B 1 (O 25 [m 5,f 5 2,l 1 26,m 6,ix 6 27 28,h 6 29,m 1,sbi 31 1,ca 550 [30,32],ad 25 33,d 5 (m 34)])) (O 23 [m 6,adi 23 1,d 6 (m 24)])))
def MJ:aA:=.loop ⟨true,[6,5,2,1],[]⟩ yC
def Zp:WFn:=⟨2,[.tmp 4],zd (s (O 4 [d 2 (bx 0),i 0]) (s (s (O 7 [m 1,lti 7 1,m 8,z 9 (h 6 2),z 9 (ca 586 [10]),z 9 (nt 11),po 9 12]) (c 13 (r (O 4 [i 1000])))) (s (O 5 [i 1]) (s (s (O 6 [i 0]) (bk 0 MJ ⟨true,[5],[]⟩)) F8))))⟩
@[simp] theorem ap8:ZL MJ yC ⟨true,[6,5,2,1],[]⟩:=aX rfl
noncomputable abbrev Ap (C:aH) (s:WSt):Option AV:=CK C 0 (aO [.tmp 4]) [.sq MJ,.bk 0 ⟨true,[5],[]⟩,.sq F8] yC s
def Uy:WFn:=⟨1,[.tmp 2],zd (s (O 2 [ff]) (r (O 3 [m 0,E (.bin .lss (T 3) (.c (.int .i32 32))),m 4,z 5 (m 0),z 5 (E (.bin .gtr (T 6) (.c (.int .i32 126)))),po 5 7,d 2 (m 8)])))⟩
def aiX:WFn:=⟨1,[.tmp 2],zd (s (O 2 [ff]) (r (O 3 [m 0,E (.bin .geq (T 3) (.c (.int .u8 97))),m 4,y 5 (m 0),y 5 (E (.bin .leq (T 6) (.c (.int .u8 122)))),pa 5 7,m 8,z 9 (m 0),z 9 (E (.bin .geq (T 10) (.c (.int .u8 48)))),z 9 (m 11),y 12 (m 0),y 12 (E (.bin .leq (T 13) (.c (.int .u8 57)))),z 9 (pa 12 14),po 9 15,d 2 (m 16)])))⟩
def Qj:aA:=zd (r (O 4 [i (-1)]))
def xP:aA:=zd (s (O 9 [lt 8 7]) (s (cc 9 (w .skip) (ee 0)) (s (B 1 (s (O 10 [m 8,d 5 (m 10)]) (s (O 11 [m 1,m 0,m 5,ix 6 12 13,h 6 14,E (.dN (T 11) [T 15])]) (c 16 (r (O 17 [m 5,d 4 (m 17)])))))) (O 18 [adi 8 1,d 8 (m 18)]))))
def NQ:aA:=.loop ⟨true,[8,7,1,0],[]⟩ xP
def aiS:WFn:=⟨2,[.tmp 4],zd (s (O 4 [i 0]) (s (s (O 6 [m 0,ln 1 6,i 0]) (bk 0 NQ ⟨true,[],[]⟩)) Qj))⟩
@[simp] theorem apD:ZL NQ xP ⟨true,[8,7,1,0],[]⟩:=aX rfl
noncomputable abbrev CV (C:aH) (s:WSt):Option AV:=CK C 0 (aO [.tmp 4]) [.sq NQ,.bk 0 ⟨true,[],[]⟩,.sq Qj] xP s
def Gm:aA:=zd (r (O 2 [tt]))
def Nz:aA:=zd (O 120 [m 5,adi 120 1,d 5 (m 121)])
def Dc:aA:=zd (s (s (O 122 [m 6,m 5,lt 122 123]) (cc 124 (w .skip) (ee 6))) (s (B 7 (s (U 127 [f 5 1,l 1 127,m 5,ix 6 128 129,f 2 130,l 1 131,E (.bin .neq (T 132) (.c (.str []))),m 133,y 134 (f 5 1),y 134 (l 1 135),y 134 (m 5),y 134 (ix 6 136 137),y 134 (f 2 138),y 134 (l 1 139),y 134 (f 5 1),y 134 (l 1 141),y 134 (m 6),y 134 (ix 6 142 143),y 134 (f 2 144),y 134 (l 1 145),y 134 (eq 140 146),pa 134 147] [] [148,6,5,1]) (c 148 (r (O 2 [ff]))))) (O 125 [m 6,adi 125 1,d 6 (m 126)])))
def MH:aA:=.loop ⟨true,[6,5,1],[]⟩ Dc
def CQ:aA:=zd (s (s (O 115 [m 5,f 5 1,l 1 116,ln 1 117,lt 115 118]) (cc 119 (w .skip) (ee 4))) (s (bk 5 (s (O 6 [i 0]) (bk 6 MH ⟨true,[5,1],[]⟩)) ⟨true,[5,1],[]⟩) Nz))
def Fz:aA:=.loop ⟨true,[5,1],[]⟩ CQ
def G9:aA:=zd (s (s (O 5 [i 0]) (bk 4 Fz ⟨true,[],[]⟩)) Gm)
def Oh:aA:=zd (O 77 [m 3,adi 77 1,d 3 (m 78)])
def sV:aA:=zd (s (s (O 97 [m 4,m 3,lt 97 98]) (cc 99 (w .skip) (ee 2))) (s (B 3 (s (U 102 [f 3 1,l 1 102,m 4,ix 2 103 104,f 0 105,l 1 106,f 3 1,l 1 108,m 3,ix 2 109 110,f 0 111,l 1 112,ge 107 113] [] [114,4,3,1]) (c 114 (r (O 2 [ff]))))) (O 100 [m 4,adi 100 1,d 4 (m 101)])))
def Pn:aA:=.loop ⟨true,[4,3,1],[]⟩ sV
def uh:aA:=zd (s (s (Q 72 [m 3,f 3 1,l 1 73,ln 1 74,lt 72 75] [76,3,1]) (cc 76 (w .skip) (ee 0))) (s (bk 1 (s (s (O 79 [f 3 1,l 1 79,m 3,ix 2 80 81,f 0 82,l 1 83,ca 557 [84],nt 85,m 86,z 87 (f 3 1),z 87 (l 1 88),z 87 (m 3),z 87 (ix 2 89 90),z 87 (f 1 91),z 87 (l 1 92),z 87 (ca 556 [93]),z 87 (nt 94),po 87 95]) (c 96 (r (O 2 [ff])))) (s (O 4 [i 0]) (bk 2 Pn ⟨true,[3,1],[]⟩))) ⟨true,[3,1],[]⟩) Oh))
def FH:aA:=.loop ⟨true,[3,1],[]⟩ uh
def yR:WFn:=⟨1,[.tmp 2],zd (s (O 1 [bx 0,ff]) (s (s (O 7 [f 0 1,l 1 7,E (.bin .eql (T 8) (.c (.int .u8 2)))]) (c 9 (r (Q 10 [f 4 1,l 1 10,ca 556 [11],m 12,y 13 (f 1 1),y 13 (l 1 14),y 13 (E (.bin .eql (T 15) (.c (.str [])))),pa 13 16,m 17,y 18 (f 2 1),y 18 (l 1 19),y 18 (E (.bin .eql (T 20) (.c (.str [])))),pa 18 21,m 22,y 23 (f 3 1),y 23 (l 1 24),y 23 (ln 1 25),y 23 (eqi 26 0),pa 23 27,m 28,y 29 (f 5 1),y 29 (l 1 30),y 29 (ln 1 31),y 29 (eqi 32 0),pa 29 33,d 2 (m 34)] [2])))) (s (s (Q 35 [f 0 1,l 1 35,E (.bin .neq (T 36) (.c (.int .u8 1))),m 37,z 38 (f 1 1),z 38 (l 1 39),z 38 (ca 557 [40]),z 38 (nt 41),po 38 42,m 43,z 44 (f 2 1),z 44 (l 1 45),z 44 (E (.bin .neq (T 46) (.c (.str [])))),z 44 (m 47),y 48 (f 2 1),y 48 (l 1 49),y 48 (ca 557 [50]),y 48 (nt 51),z 44 (pa 48 52),po 44 53,m 54,z 55 (f 4 1),z 55 (l 1 56),z 55 (E (.bin .neq (T 57) (.c (.str [])))),po 55 58,m 59,z 60 (f 3 1),z 60 (l 1 61),z 60 (ln 1 62),z 60 (gti 63 8),po 60 64,m 65,z 66 (f 5 1),z 66 (l 1 67),z 66 (ln 1 68),z 66 (gti 69 16),po 66 70] [71,1]) (c 71 (r (O 2 [ff])))) (s (s (O 3 [i 0]) (bk 0 FH ⟨true,[1],[]⟩)) G9))))⟩
@[simp] theorem aqx:ZL MH Dc ⟨true,[6,5,1],[]⟩:=aX rfl
noncomputable abbrev Gw (C:aH) (s:WSt):Option AV:=CK C 0 (aO [.tmp 2]) [.sq MH,.bk 6 ⟨true,[5,1],[]⟩,.bk 5 ⟨true,[5,1],[]⟩,.sq Nz,.sq Fz,.bk 4 ⟨true,[],[]⟩,.sq Gm] Dc s
@[simp] theorem aqT:ZL Fz CQ ⟨true,[5,1],[]⟩:=aX rfl
noncomputable abbrev wX (C:aH) (s:WSt):Option AV:=CK C 0 (aO [.tmp 2]) [.sq Fz,.bk 4 ⟨true,[],[]⟩,.sq Gm] CQ s
@[simp] theorem aqt:ZL Pn sV ⟨true,[4,3,1],[]⟩:=aX rfl
noncomputable abbrev qX (C:aH) (s:WSt):Option AV:=CK C 0 (aO [.tmp 2]) [.sq Pn,.bk 2 ⟨true,[3,1],[]⟩,.bk 1 ⟨true,[3,1],[]⟩,.sq Oh,.sq FH,.bk 0 ⟨true,[1],[]⟩,.sq G9] sV s
@[simp] theorem apJ:ZL FH uh ⟨true,[3,1],[]⟩:=aX rfl
noncomputable abbrev oN (C:aH) (s:WSt):Option AV:=CK C 0 (aO [.tmp 2]) [.sq FH,.bk 0 ⟨true,[1],[]⟩,.sq G9] uh s
def QU:aA:=zd (r (O 6 [i (-1)]))
def uS:aA:=zd (s (O 11 [E (.next (T 10)),ex 0 11]) (s (cc 12 (w .skip) (ee 0)) (B 1 (s (O 13 [ex 1 11,ex 2 11,d 7 (m 13),d 8 (m 14)]) (s (O 15 [m 1,m 8,E (.dN (T 15) [T 16]),m 2,E (.eqv 5 [] false (T 17) (T 18))]) (c 19 (r (O 20 [m 7,d 6 (m 20)]))))))))
def PN:aA:=.loop ⟨true,[10,2,1],[]⟩ uS
def afo:WFn:=⟨3,[.tmp 6],zd (s (O 6 [i 0]) (s (s (O 9 [m 0,E (.range (T 9))]) (bk 0 PN ⟨true,[],[]⟩)) QU))⟩
@[simp] theorem aq1:ZL PN uS ⟨true,[10,2,1],[]⟩:=aX rfl
noncomputable abbrev xq (C:aH) (s:WSt):Option AV:=CK C 0 (aO [.tmp 6]) [.sq PN,.bk 0 ⟨true,[],[]⟩,.sq QU] uS s
def aib:WFn:=⟨1,[.tmp 2],zd (s (O 2 [ff]) (r (O 3 [m 0,E (.build [.int .u8 0,.str [],.str [],.ro 2 [] true,.str [],.ro 6 [] true] [(0,1,.c (.int .u8 2)),(4,1,T 3)]),ca 439 [4],eqi 5 0,d 2 (m 6)])))⟩
def aiP:WFn:=⟨1,[.tmp 2],zd (s (O 2 [ff]) (r (O 3 [m 0,ca 581 [3],nt 4,d 2 (m 5)])))⟩
def agW:WFn:=⟨1,[.tmp 2],zd (s (O 2 [ff]) (r (O 3 [m 0,E (.build [.int .u8 0,.str [],.str [],.ro 2 [] true,.str [],.ro 6 [] true] [(0,1,.c (.int .u8 1)),(1,1,T 3)]),ca 439 [4],eqi 5 0,d 2 (m 6)])))⟩
def ag5:WFn:=⟨4,[.cell 8 6 true],zd (s (O 4 [bx 0,bx 1,d 8 (E (.alloc [.int .u8 0,.str [],.str [],.ro 2 [] true,.str [],.ro 6 [] true]))]) (r (V 9 [f 1 5,l 1 9,m 2,h 4 4,f 3 5,l 1 13,ca 592 [12,14],m 3,ca 593 [16],E (.build [.int .u8 0,.str [],.str [],.ro 2 [] true,.str [],.ro 6 [] true] [(0,1,.c (.int .u8 1)),(1,1,T 10),(2,1,T 11),(3,1,T 15),(5,1,T 17)]),n (st 6 8 18)] [(1,6),(1,8)] ⟨false,[],[]⟩)))⟩
def ait:WFn:=⟨1,[.cell 2 6 true],zd (s (O 2 [E (.alloc [.int .u8 0,.str [],.str [],.ro 2 [] true,.str [],.ro 6 [] true])]) (r (O 3 [m 0,E (.build [.int .u8 0,.str [],.str [],.ro 2 [] true,.str [],.ro 6 [] true] [(0,1,.c (.int .u8 2)),(4,1,T 3)]),n (st 6 2 4)])))⟩
def CU:aA:=zd (B 1 (s (O 5 [m 4,sbi 5 1,d 4 (m 6)]) (s (O 7 [m 4,m 0,E (.bin .rem (T 8) (.c (.int .u64 10))),E (.fB (.c (.str [48,49,50,51,52,53,54,55,56,57])) (T 9)),E (.gq 20 1 (T 3) (T 7)),n (st 1 11 10)]) (s (O 12 [m 0,E (.bin .quo (T 12) (.c (.int .u64 10))),d 0 (m 13)]) (s (O 14 [m 0,E (.bin .eql (T 14) (.c (.int .u64 0)))]) (c 15 (r (O 16 [m 4,E (.gX 20 (T 3) (some (T 16)) none),E (.cvb (T 17)),d 2 (m 18)]))))))))
def MB:aA:=.loop ⟨true,[4,3,0],[]⟩ CU
def ai1:WFn:=⟨1,[.tmp 2],zd (s (O 2 [E (.mv (.c (.str [])))]) (s (O 3 [E (.alloc (rep 20 (.int .u8 0)))]) (s (O 4 [i 20]) (bk 0 MB ⟨true,[2],[]⟩))))⟩
@[simp] theorem apG:ZL MB CU ⟨true,[4,3,0],[]⟩:=aX rfl
noncomputable abbrev G8 (C:aH) (s:WSt):Option AV:=CK C 0 (aO [.tmp 2]) [.sq MB,.bk 0 ⟨true,[2],[]⟩] CU s
def Pq:aA:=zd (r (O 2 [tt]))
def BK:aA:=zd (s (O 11 [lt 10 9]) (s (cc 11 (w .skip) (ee 0)) (s (B 1 (s (O 12 [m 10,ix 3 8 10,h 3 13,d 4 (E (.alloc [.str [],.int .u8 0,.str []])),d 3 (m 12),n (st 3 4 14)]) (s (U 15 [f 0 4,l 1 15,ca 581 [16],nt 17,m 18,z 19 (f 1 4),z 19 (l 1 20),z 19 (E (.bin .gtr (T 21) (.c (.int .u8 3)))),po 19 22,m 23,z 24 (f 2 4),z 24 (l 1 25),z 24 (ca 579 [26]),z 24 (nt 27),po 24 28,m 29,z 30 (f 1 4),z 30 (l 1 31),z 30 (E (.bin .gtr (T 32) (.c (.int .u8 0)))),z 30 (m 33),y 34 (f 2 4),y 34 (l 1 35),y 34 (E (.bin .neq (T 36) (.c (.str [])))),z 30 (pa 34 37),po 30 38,m 39,z 40 (m 3),z 40 (gti 41 0),z 40 (m 42),y 43 (f 0 4),y 43 (l 1 44),y 43 (m 0),y 43 (m 3),y 43 (sbi 47 1),y 43 (ix 3 46 48),y 43 (f 0 49),y 43 (l 1 50),y 43 (le 45 51),z 40 (pa 43 52),po 40 53] [] [54,10,9,8,0]) (c 54 (r (O 2 [ff])))))) (O 55 [adi 10 1,d 10 (m 55)]))))
def O9:aA:=.loop ⟨true,[10,9,8,0],[]⟩ BK
def ae8:WFn:=⟨1,[.tmp 2],zd (s (O 2 [ff]) (s (s (O 5 [m 0,ln 1 5,gti 6 8]) (c 7 (r (O 2 [ff])))) (s (s (O 8 [m 0,ln 1 8,i 0]) (bk 0 O9 ⟨true,[],[]⟩)) Pq)))⟩
@[simp] theorem ap0:ZL O9 BK ⟨true,[10,9,8,0],[]⟩:=aX rfl
noncomputable abbrev FP (C:aH) (s:WSt):Option AV:=CK C 0 (aO [.tmp 2]) [.sq O9,.bk 0 ⟨true,[],[]⟩,.sq Pq] BK s
def mM:WFn:=⟨1,[.tmp 2],zd (s (O 1 [bx 0,ff]) (s (s (O 3 [f 0 1,l 1 3]) (B 0 (s (O 6 [E (.bin .eql (T 4) (.c (.int .u8 1))),d 5 (m 6)]) (cc 5 (r (Q 7 [f 1 1,l 1 7,ca 557 [8],m 9,y 10 (f 2 1),y 10 (l 1 11),y 10 (E (.bin .eql (T 12) (.c (.str [])))),y 10 (m 13),z 14 (f 2 1),z 14 (l 1 15),z 14 (ca 557 [16]),y 10 (po 14 17),pa 10 18,m 19,y 20 (f 3 1),y 20 (l 1 21),y 20 (ca 594 [22]),pa 20 23,m 24,y 25 (f 4 1),y 25 (l 1 26),y 25 (E (.bin .eql (T 27) (.c (.str [])))),pa 25 28,m 29,y 30 (f 5 1),y 30 (l 1 31),y 30 (ln 1 32),y 30 (lei 33 16),pa 30 34,d 2 (m 35)] [2])) (s (O 37 [E (.bin .eql (T 4) (.c (.int .u8 2))),d 36 (m 37)]) (cc 36 (r (Q 38 [f 4 1,l 1 38,ca 556 [39],m 40,y 41 (f 1 1),y 41 (l 1 42),y 41 (E (.bin .eql (T 43) (.c (.str [])))),pa 41 44,m 45,y 46 (f 2 1),y 46 (l 1 47),y 46 (E (.bin .eql (T 48) (.c (.str [])))),pa 46 49,m 50,y 51 (f 3 1),y 51 (l 1 52),y 51 (ln 1 53),y 51 (f 5 1),y 51 (l 1 55),y 51 (ln 1 56),y 51 (ad 54 57),y 51 (eqi 58 0),pa 51 59,d 2 (m 60)] [2])) (s (s (O 62 [E (.bin .eql (T 4) (.c (.int .u8 3))),d 61 (m 62)]) (cc 61 (w .skip) (O 63 [E (.bin .eql (T 4) (.c (.int .u8 4))),d 61 (m 63)]))) (cc 61 (r (Q 64 [f 4 1,l 1 64,E (.bin .eql (T 65) (.c (.str []))),m 66,y 67 (f 1 1),y 67 (l 1 68),y 67 (E (.bin .eql (T 69) (.c (.str [])))),pa 67 70,m 71,y 72 (f 2 1),y 72 (l 1 73),y 72 (E (.bin .eql (T 74) (.c (.str [])))),pa 72 75,m 76,y 77 (f 3 1),y 77 (l 1 78),y 77 (ln 1 79),y 77 (f 5 1),y 77 (l 1 81),y 77 (ln 1 82),y 77 (ad 80 83),y 77 (eqi 84 0),pa 77 85,d 2 (m 86)] [2])) (s (O 88 [E (.bin .eql (T 4) (.c (.int .u8 5))),d 87 (m 88)]) (c 87 (r (Q 89 [f 1 1,l 1 89,ca 557 [90],m 91,y 92 (f 3 1),y 92 (l 1 93),y 92 (ca 594 [94]),pa 92 95,m 96,y 97 (f 2 1),y 97 (l 1 98),y 97 (E (.bin .eql (T 99) (.c (.str [])))),pa 97 100,m 101,y 102 (f 4 1),y 102 (l 1 103),y 102 (E (.bin .eql (T 104) (.c (.str [])))),pa 102 105,m 106,y 107 (f 5 1),y 107 (l 1 108),y 107 (ln 1 109),y 107 (eqi 110 0),pa 107 111,d 2 (m 112)] [2])))))))))))) (r (O 2 [ff]))))⟩
def FT:aA:=zd (r (O 44 [m 5,d 4 (m 44)]))
def xH:aA:=zd (s (O 14 [lt 13 12]) (s (cc 14 (w .skip) (ee 0)) (s (B 1 (s (O 15 [m 13,ix 3 11 13,h 3 16,d 7 (E (.alloc [.str [],.int .u8 0,.str []])),d 6 (m 15),n (st 3 7 17)]) (U 18 [m 5,m 6,f 0 7,l 1 20,f 2 7,l 1 22,f 0 2,f 2 24,l 1 25,f 0 2,f 0 27,l 1 28,ca 584 [29],f 0 2,f 3 31,l 1 32,ln 1 33,E (.cvt .u64 (T 34)),ca 584 [35],E (.build [.str [],.str [],.str [],.str []] [(0,1,T 23),(1,1,T 26),(2,1,T 30),(3,1,T 36)]),f 1 7,l 1 38,E (.vI 4 1 false (T 37) (T 39)),E (.build [.str [],.str []] [(0,1,T 21),(1,1,T 40)]),ix 2 18 19,n (st 2 42 41)] [(3,12),(5,12),(8,12),(12,15),(12,16),(3,18),(5,18),(8,18),(12,21),(18,21)] [13,12,11,5,2]))) (O 43 [adi 13 1,d 13 (m 43)]))))
def QF:aA:=.loop ⟨true,[13,12,11,5,2],[]⟩ xH
def abH:WFn:=⟨2,[.tmp 4],zd (s (O 4 [d 2 (bx 0),E (.mv (.c (.ro 2 [] true)))]) (s (O 8 [m 1,ln 1 8,E (.kE [.str [],.str []] 32 (T 9) (T 9)),d 5 (m 10)]) (s (s (O 11 [m 1,ln 1 11,i 0]) (bk 0 QF ⟨true,[5],[]⟩)) FT)))⟩
@[simp] theorem apR:ZL QF xH ⟨true,[13,12,11,5,2],[]⟩:=aX rfl
noncomputable abbrev Gh (C:aH) (s:WSt):Option AV:=CK C 0 (aO [.tmp 4]) [.sq QF,.bk 0 ⟨true,[5],[]⟩,.sq FT] xH s
def ahh:WFn:=⟨1,[.tmp 2],zd (s (O 2 [E (.mv (.c (.ro 6 [] true)))]) (r (O 3 [m 0,m 0,ln 1 4,m 0,ln 1 6,E (.slice 6 (T 3) none (some (T 5)) (some (T 7))),d 2 (m 8)])))⟩
def Nk:aA:=zd (r (O 2 [tt]))
def zS:aA:=zd (s (s (O 8 [m 3,m 0,ln 1 9,lt 8 10]) (cc 11 (w .skip) (ee 0))) (s (B 1 (s (O 14 [m 0,m 3,ix 3 14 15,h 3 16,d 4 (E (.alloc [.str [],.int .u8 0,.str []])),n (st 3 4 17)]) (s (U 18 [f 0 4,l 1 18,ca 557 [19],nt 20,m 21,z 22 (f 1 4),z 22 (l 1 23),z 22 (E (.bin .gtr (T 24) (.c (.int .u8 3)))),po 22 25,m 26,z 27 (f 2 4),z 27 (l 1 28),z 27 (ca 556 [29]),z 27 (nt 30),po 27 31,m 32,z 33 (f 1 4),z 33 (l 1 34),z 33 (E (.bin .neq (T 35) (.c (.int .u8 0)))),z 33 (m 36),y 37 (f 2 4),y 37 (l 1 38),y 37 (E (.bin .neq (T 39) (.c (.str [])))),z 33 (pa 37 40),po 33 41,m 42,z 43 (m 3),z 43 (gti 44 0),z 43 (m 45),y 46 (m 0),y 46 (m 3),y 46 (sbi 48 1),y 46 (ix 3 47 49),y 46 (f 0 50),y 46 (l 1 51),y 46 (f 0 4),y 46 (l 1 53),y 46 (ge 52 54),z 43 (pa 46 55),po 43 56] [] [57,3,0]) (c 57 (r (O 2 [ff])))))) (O 12 [m 3,adi 12 1,d 3 (m 13)])))
def OJ:aA:=.loop ⟨true,[3,0],[]⟩ zS
def abC:WFn:=⟨1,[.tmp 2],zd (s (O 2 [ff]) (s (s (O 5 [m 0,ln 1 5,gti 6 8]) (c 7 (r (O 2 [ff])))) (s (s (O 3 [i 0]) (bk 0 OJ ⟨true,[],[]⟩)) Nk)))⟩
@[simp] theorem apN:ZL OJ zS ⟨true,[3,0],[]⟩:=aX rfl
noncomputable abbrev He (C:aH) (s:WSt):Option AV:=CK C 0 (aO [.tmp 2]) [.sq OJ,.bk 0 ⟨true,[],[]⟩,.sq Nk] zS s
def tree:rX:=(.node (.node (.node (.node (.node (.node (.node (.node .leaf 0 w0 .leaf) 52 w52 .leaf) 56 w56 (.node (.node .leaf 62 w62 .leaf) 65 w65 .leaf)) 66 w66 (.node (.node (.node .leaf 67 w67 .leaf) 73 w73 .leaf) 74 w74 (.node (.node .leaf 77 w77 .leaf) 78 w78 .leaf))) 79 w79 (.node (.node (.node (.node .leaf 80 w80 .leaf) 81 w81 .leaf) 82 w82 (.node (.node .leaf 83 w83 .leaf) 108 afA .leaf)) 109 aiQ (.node (.node (.node .leaf 110 aiN .leaf) 111 afN .leaf) 112 RG (.node .leaf 114 ah2 .leaf)))) 115 PE (.node (.node (.node (.node (.node .leaf 126 ahW .leaf) 130 af9 .leaf) 140 afB (.node (.node .leaf 166 aoh .leaf) 168 aoB .leaf)) 169 ahX (.node (.node (.node .leaf 170 aeb .leaf) 171 aaS .leaf) 172 abP (.node (.node .leaf 180 aar .leaf) 182 UE .leaf))) 216 rD (.node (.node (.node (.node .leaf 217 adb .leaf) 218 aia .leaf) 219 ada (.node (.node .leaf 220 afl .leaf) 221 ajd .leaf)) 222 ahG (.node (.node (.node .leaf 223 aah .leaf) 225 ahR .leaf) 226 ab1 (.node .leaf 227 agv .leaf))))) 228 aeZ (.node (.node (.node (.node (.node (.node .leaf 229 ahB .leaf) 230 Y8 .leaf) 231 aeA (.node (.node .leaf 232 acn .leaf) 237 abW .leaf)) 239 afD (.node (.node (.node .leaf 240 ahE .leaf) 241 ach .leaf) 242 aaq (.node (.node .leaf 270 aji .leaf) 271 Ux .leaf))) 282 afV (.node (.node (.node (.node .leaf 326 aic .leaf) 328 an6 .leaf) 329 aoc (.node (.node .leaf 330 apn .leaf) 331 anu .leaf)) 332 aot (.node (.node (.node .leaf 333 Kw .leaf) 336 J7 .leaf) 337 apj (.node .leaf 338 anH .leaf)))) 340 agE (.node (.node (.node (.node (.node .leaf 341 ag2 .leaf) 342 abg .leaf) 343 O6 (.node (.node .leaf 357 aes .leaf) 360 ao5 .leaf)) 362 agn (.node (.node (.node .leaf 398 WC .leaf) 399 ai5 .leaf) 400 ac1 (.node .leaf 401 Nu .leaf))) 404 aje (.node (.node (.node (.node .leaf 405 ahr .leaf) 406 aiC .leaf) 407 aiI (.node (.node .leaf 408 acu .leaf) 409 agx .leaf)) 410 abt (.node (.node (.node .leaf 422 Ik .leaf) 423 aiT .leaf) 424 RF (.node .leaf 425 J6 .leaf)))))) 433 JF (.node (.node (.node (.node (.node (.node (.node .leaf 434 yS .leaf) 439 abS .leaf) 441 adK (.node (.node .leaf 442 aeI .leaf) 452 ai0 .leaf)) 453 aow (.node (.node (.node .leaf 454 ape .leaf) 455 ahU .leaf) 457 aha (.node (.node .leaf 458 aoA .leaf) 459 UW .leaf))) 460 adU (.node (.node (.node (.node .leaf 461 Uh .leaf) 462 acg .leaf) 463 agL (.node (.node .leaf 469 acI .leaf) 494 acG .leaf)) 495 ab9 (.node (.node (.node .leaf 496 WQ .leaf) 497 ac9 .leaf) 498 adR (.node .leaf 499 ai8 .leaf)))) 500 aaW (.node (.node (.node (.node (.node .leaf 501 J5 .leaf) 502 ac6 .leaf) 503 aie (.node (.node .leaf 504 ahN .leaf) 505 aak .leaf)) 510 aeK (.node (.node (.node .leaf 511 ZY .leaf) 512 WG .leaf) 513 TS (.node (.node .leaf 516 acD .leaf) 517 aan .leaf))) 518 abJ (.node (.node (.node (.node .leaf 519 aeV .leaf) 520 aao .leaf) 525 SN (.node (.node .leaf 526 ahO .leaf) 527 afw .leaf)) 528 agl (.node (.node (.node .leaf 529 agD .leaf) 530 agA .leaf) 531 an8 (.node .leaf 532 agf .leaf))))) 543 afm (.node (.node (.node (.node (.node (.node .leaf 544 ahn .leaf) 545 aa6 .leaf) 546 UL (.node (.node .leaf 547 ajh .leaf) 548 Wi .leaf)) 549 ji (.node (.node (.node .leaf 550 Zp .leaf) 556 abX .leaf) 557 aiZ (.node (.node .leaf 558 abq .leaf) 559 ag0 .leaf))) 560 Uy (.node (.node (.node (.node .leaf 561 aiX .leaf) 562 aiS .leaf) 563 yR (.node (.node .leaf 564 ah0 .leaf) 565 aez .leaf)) 578 afo (.node (.node (.node .leaf 579 aib .leaf) 580 aiP .leaf) 581 agW (.node .leaf 582 ag5 .leaf)))) 583 ait (.node (.node (.node (.node (.node .leaf 584 ai1 .leaf) 585 ae8 .leaf) 586 mM (.node (.node .leaf 592 abH .leaf) 593 ahh .leaf)) 594 abC (.node (.node (.node .leaf 618 aaT .leaf) 624 agt .leaf) 625 acM (.node .leaf 627 aiW .leaf))) 629 aiJ (.node (.node (.node (.node .leaf 630 ahz .leaf) 1073 w73 .leaf) 2053 QW (.node (.node .leaf 3006 anv .leaf) 3007 aoN .leaf)) 5044 KY (.node (.node (.node .leaf 5045 QY .leaf) 5051 Yu .leaf) 5052 Hw (.node .leaf 6054 XH .leaf)))))))
def ids:List (Nat × Nat):=[(0,2),(52,82),(56,87),(62,202),(65,80),(66,200),(67,201),(73,196),(74,203),(77,195),(78,264),(79,266),(80,267),(81,197),(82,263),(83,265),(108,46),(109,47),(110,48),(111,49),(112,50),(114,52),(115,53),(126,64),(130,10),(140,69),(166,15),(168,28),(169,21),(170,12),(171,37),(172,20),(180,18),(182,14),(216,119),(217,120),(218,121),(219,122),(220,123),(221,124),(222,125),(223,88),(225,126),(226,127),(227,128),(228,129),(229,130),(230,131),(231,132),(232,133),(237,138),(239,41),(240,77),(241,140),(242,141),(270,75),(271,76),(282,167),(326,11),(328,24),(329,84),(330,23),(331,26),(332,22),(333,92),(336,95),(337,96),(338,97),(340,89),(341,91),(342,79),(343,105),(357,29),(360,83),(362,86),(398,207),(399,208),(400,221),(401,222),(404,223),(405,224),(406,225),(407,220),(408,226),(409,227),(410,213),(422,188),(423,189),(424,190),(425,191),(433,245),(434,246),(439,251),(441,253),(442,254),(452,78),(453,27),(454,13),(455,211),(457,214),(458,215),(459,209),(460,210),(461,192),(462,193),(463,194),(469,204),(494,268),(495,269),(496,270),(497,271),(498,272),(499,273),(500,274),(501,275),(502,283),(503,284),(504,282),(505,285),(510,258),(511,259),(512,260),(513,261),(516,291),(517,292),(518,293),(519,294),(520,295),(525,81),(526,276),(527,277),(528,278),(529,279),(530,280),(531,281),(532,262),(543,303),(544,304),(545,305),(546,306),(547,307),(548,309),(549,310),(550,311),(556,299),(557,300),(558,301),(559,302),(560,316),(561,317),(562,318),(563,319),(564,198),(565,199),(578,320),(579,321),(580,322),(581,323),(582,324),(583,325),(584,326),(585,327),(586,328),(592,329),(593,330),(594,331),(618,3),(624,16),(625,17),(627,85),(629,205),(630,206),(1073,196),(3006,308),(3007,98),(5045,210),(5044,89),(5051,83),(5052,13),(2053,90),(6054,19)]
def alts:List (Nat × Nat × Nat):=[(52,196,1073),(62,196,1073),(65,196,1073),(66,196,1073),(67,196,1073),(531,308,3006),(168,98,3007),(5044,210,5045),(5051,89,5044),(5052,83,5051),(618,13,5052),(6054,89,5044),(6054,90,2053),(618,19,6054)]
end P
end
section
namespace Go.Pw
open Go Go.Pav
@[simp] def eI (x:Int):List AV:=[.int .i64 x]
@[simp] def eU8 (x:Int):List AV:=[.int .u8 x]
@[simp] def avF (x:Int):List AV:=[.int .u64 x]
@[simp] def eS (x:List UInt8):List AV:=[.str x]
@[simp] def eB (x:Bool):List AV:=[.bool x]
abbrev L1 (xs:List Int) (e:Bool):AV:=.ro 1 (xs.map eI) e
attribute [simp] Int.natCast_inj
attribute [-simp] List.getElem_cons_drop
section
variable (a n:Nat)
@[simp] theorem ajF:((no_index (OfNat.ofNat a):Int) < (n:Int))=((no_index (OfNat.ofNat a):Nat) < n):=propext (Int.ofNat_lt (n:=(OfNat.ofNat a:Nat)) (m:=n))
@[simp] theorem aj1:((n:Int) < (no_index (OfNat.ofNat a):Int))=(n < (no_index (OfNat.ofNat a):Nat)):=propext (Int.ofNat_lt (m:=(OfNat.ofNat a:Nat)) (n:=n))
@[simp] theorem ajL:((no_index (OfNat.ofNat a):Int)<=(n:Int))=((no_index (OfNat.ofNat a):Nat)<=n):=propext (Int.ofNat_le (m:=(OfNat.ofNat a:Nat)) (n:=n))
@[simp] theorem ajE:((n:Int)<=(no_index (OfNat.ofNat a):Int))=(n<=(no_index (OfNat.ofNat a):Nat)):=propext (Int.ofNat_le (n:=(OfNat.ofNat a:Nat)) (m:=n))
end
theorem pq {α β:Type} {f:α->β} {acc:List α} {n i:Nat} {z:β} (h:acc.length=i):(List.map f acc++List.replicate (n+1) z)[i]?=some z:=by rw [qoz qqx];simp [h]
theorem o7 {α β:Type} {f:α->β} {acc:List α} {n i:Nat} {z v:β} (h:acc.length=i):(List.map f acc++List.replicate (n+1) z).set i v=List.map f acc++v::List.replicate n z:=by rw [List.set_append,qwq qqx];simp [h,qJx]
@[simp] theorem auC (a b:Nat):(a+(b+1)<=a)=False:=eq_false qqq
theorem drop_cons {α:Type} {l:List α} {i:Nat} (h:i < l.length):l.drop i=l[i]::l.drop (i+1):=qbq h
theorem agV {α:Type} {f:α->AV} {l:List α} {k:Nat} {v:AV} (h:k < l.length):List.take k (List.map f l)++v::List.drop (k+1) (List.map f l)=(List.map f l).set k v:=by rw [List.set_eq_take_append_cons_drop,qwz (by simpa using h)]
theorem Ll {α:Type} {g:α->Option α}:∀ {l:List α},(∀ x ∈ l,g x=some x)->aZ g l=some l
 | [],_=>rfl
 | a::l,h=>by simp only [aZ,h a qXq,ob,Ll λx hx=>h x (qyz _ hx),om]
@[simp] theorem aoD (h:aG) (n:Nat) (k:IntKind) (l:List Int):aZ (bK h (n+1)) (List.map (AV.int k) l)=some (List.map (AV.int k) l) :=Ll λx hx=>by obtain ⟨y,_,rfl⟩:=qyq.1 hx;rfl
@[simp] theorem ajp (k:IntKind) (l:List Int):l.all (isC ∘ AV.int k)=true:=by simp [isC]
@[simp] theorem ah6 (l:List Bool):l.all (isC ∘ AV.bool)=true:=by simp [isC]
attribute [simp] rF
@[simp] theorem aqn:((λx:AV=>[x]) ∘ AV.int .i64)=eI:=rfl
@[simp] theorem ahb (a b:Nat):(a+b<=a)=(b=0):=propext qqq
theorem isE {α:Type} {l:List α} (h:¬ l=[]):l.isEmpty=false:=by cases l <;> simp_all
end Go.Pw
end
section
namespace Go.D
open Go Go.Pav Go.Pw P
attribute [-simp] List.getElem_cons_drop
variable {C:aH}
def inN (b:UInt8):Bool:=decide (97<=b.toNat/\b.toNat<=122\/48<=b.toNat/\b.toNat<=57)
def inT (b:UInt8):Bool:=decide (32<=b.toNat/\b.toNat<=126)
def isName (s:List UInt8):Bool:=decide (1<=s.length)&&decide (s.length<=16)&&s.all inN
def isText (s:List UInt8):Bool:=decide (s.length<=64)&&s.all inT
def ppB (f:Nat):Bool:=f == 502||f == 494||f == 497||f == 434||f == 518||f == 549||f == 402||f == 411||f == 446||f == 466||f == 429||f == 514||f == 374||f == 480||(decide (1000<=f)&&decide (f < 2000))
def ak (f:Nat):Bool:=f == 217||f == 459||decide (2000<=f)
structure pO (C:aH):Prop where
 amH:C.fns.get 561=some aiX
 ak5:C.fns.get 517=some aan
 ama:C.fns.get 557=some aiZ
 alk:C.fns.get 556=some abX
 akn:C.fns.get 511=some ZY
 al1:C.fns.get 510=some aeK
 afH:C.fns.get 560=some Uy
 ahL:C.fns.get 545=some aa6
 alE:C.fns.get 578=some afo
 amn:C.fns.get 543=some afm
 ak9:C.fns.get 495=some ab9
 akj:C.fns.get 516=some acD
 amk:C.fns.get 500=some aaW
 inl:C.inl=ak
 pp:C.pp=ppB
theorem Zb (H:pO C) (b:UInt8):FnW C 561 [.int .u8 b.toNat]=some (.bool (inN b)):=by rw [aF H.amH rfl];unfold inN;by_cases c1:97<=b.toNat <;> by_cases c2:b.toNat<=122 <;> by_cases c3:48<=b.toNat <;> by_cases c4:b.toNat<=57 <;> simp [aiX,c1,c2,c3,c4]
theorem Xh (H:pO C) (s:List UInt8) (hl:s.length<=16):∀ n i,n+i=s.length ->
 G7 C ⟨[(14,.int .i64 i),(13,.int .i64 s.length),(0,.str s)],[],0⟩=some (.bool ((s.drop i).all inN)):=by
 intro n;induction n with
 | zero =>
  intro i hi;simp only [G7];rw [aj BI.eq_1];have h1:s.drop i=[]:=qwj qqq;have h3:¬ i < s.length:=by omega
  simp [aj MQ.eq_1,h1,h3]
 | succ n ih =>
  intro i hi;have h1:i < s.length:=by omega
  have:=ih (i+1) qqq;have hb:=Zb H s[i];simp only [G7] at this |-;rw [aj BI.eq_1];rw [drop_cons h1];simp at this;by_cases c:inN s[i]=true
  ·simp (disch:=omega) [h1,aC,hb,c,H.inl,ak,H.pp,ppB,this]
  ·simp (disch:=omega) [h1,aC,hb,c,H.inl,ak,H.pp,ppB]
theorem named_ok (H:pO C) (s:List UInt8):FnW C 517 [.str s]=some (.bool (isName s)):=by
 rw [aF H.ak5 rfl];unfold isName;by_cases c1:1<=s.length
 ·by_cases c2:s.length<=16
  ·have:=Xh H s c2 s.length 0 qqz;simp only [G7] at this;simp at this;have c3:¬ ((s.length:Int) < 1):=by omega
   have c4:¬ (16 < (s.length:Int)):=by omega
   simp [aan,c1,c2,c3,c4,this]
  ·have c3:¬ ((s.length:Int) < 1):=by omega
   have c4:(16 < (s.length:Int)):=by omega
   simp [aan,c1,c2,c3,c4]
 ·have c3:((s.length:Int) < 1):=by omega
  simp [aan,c1,c3]
theorem Ee (b:UInt8):(inN b=true/\(97<=b.toNat/\b.toNat<=122\/¬ 97<=b.toNat/\48<=b.toNat/\b.toNat<=57))\/(inN b=false/\(¬ 97<=b.toNat/\(¬ 48<=b.toNat\/¬ b.toNat<=57)\/¬ b.toNat<=122/\¬ b.toNat<=57)):=by
 unfold inN;by_cases c:97<=b.toNat/\b.toNat<=122\/48<=b.toNat/\b.toNat<=57
 ·left;exact ⟨qVj c,by omega⟩
 ·right;exact ⟨qJz c,by omega⟩
theorem Vm (H:pO C) (s:List UInt8) (hl:s.length<=16\/True):∀ n i,n+i=min s.length 17 ->
 GR C ⟨[(3,.int .i64 i),(0,.str s)],[],0⟩=some (.bool (((s.take 17).drop i).all inN&&decide (1<=s.length)&&decide (s.length<=16))):=by
 intro n;induction n with
 | zero =>
  intro i hi;simp only [GR];rw [aj Bc.eq_1];have h1:(s.take 17).drop i=[]:=qwj qqx;by_cases h3:i < s.length
  ·have h4:¬ i < 17:=by omega
   have h4':¬ (i:Int) < 17:=by omega
   have h5:¬ s.length<=16:=by omega
   have h6:¬ (s.length:Int)<=16:=by omega
   have h7:1<=(s.length:Int):=by omega
   simp [aj wM.eq_1,h1,h3,h4,h4',h5,h6,h7]
  ·by_cases h5:s.length<=16 <;> by_cases h6:1<=s.length
   ·have h7:(s.length:Int)<=16:=by omega
    have h8:1<=(s.length:Int):=by omega
    simp [aj wM.eq_1,h1,h3,h5,h6,h7,h8]
   ·have h7:(s.length:Int)<=16:=by omega
    have h8:¬ 1<=(s.length:Int):=by omega
    simp [aj wM.eq_1,h1,h3,h5,h6,h7,h8]
   ·have h7:¬ (s.length:Int)<=16:=by omega
    have h8:1<=(s.length:Int):=by omega
    simp [aj wM.eq_1,h1,h3,h5,h6,h7,h8]
   ·omega
 | succ n ih =>
  intro i hi;have h1:i < s.length:=by omega
  have h2:(i:Int) < 17:=by omega
  have:=ih (i+1) qqq;have hd:(s.take 17).drop i=s[i]::(s.take 17).drop (i+1):=by rw [drop_cons (show i < (s.take 17).length by simp;omega)];simp
  rw [hd];simp only [GR] at this |-;rw [aj Bc.eq_1];simp at this;have key:=Ee s[i];by_cases q1:97<=s[i].toNat <;> by_cases q2:122 < s[i].toNat <;> by_cases q3:48<=s[i].toNat <;> by_cases q4:57 < s[i].toNat <;> first
   | (exfalso;omega)
   | (
    have c:inN s[i]=true:=by rcases key with ⟨c,_⟩ | ⟨_,q⟩ <;> first | exact c | (exfalso;omega)
    simp (disch:=omega) [h1,h2,aC,c,q1,q2,q3,q4,this];done)
   | (
    have c:inN s[i]=false:=by rcases key with ⟨_,q⟩ | ⟨c,_⟩ <;> first | exact c | (exfalso;omega)
    simp (disch:=omega) [h1,h2,aC,c,q1,q2,q3,q4];done)
theorem qc (H:pO C) (s:List UInt8):FnW C 557 [.str s]=some (.bool (isName s)):=by
 rw [aF H.ama rfl];have:=Vm H s (.inr trivial) (min s.length 17) 0 qqz;simp only [GR] at this;simp only [qjq] at this;have e:((s.take 17).all inN&&decide (1<=s.length)&&decide (s.length<=16))=isName s:=by
  unfold isName;by_cases c:s.length<=16
  ·rw [qzz qqq];simp [c];rw [Bool.and_comm]
  ·simp [c]
 rw [e] at this;simp at this;simp [aiZ,this]
theorem Zf (H:pO C) (s:List UInt8) (hl:s.length<=64):∀ n i,n+i=s.length ->
 F7 C ⟨[(3,.int .i64 i),(0,.str s)],[],0⟩=some (.bool ((s.drop i).all inT)):=by
 intro n;induction n with
 | zero =>
  intro i hi;simp only [F7];rw [aj Ah.eq_1];have h1:s.drop i=[]:=qwj qqq;have h3:¬ i < s.length:=by omega
  simp [aj Pj.eq_1,h1,h3]
 | succ n ih =>
  intro i hi;have h1:i < s.length:=by omega
  have:=ih (i+1) qqq;simp only [F7] at this |-;rw [aj Ah.eq_1];rw [drop_cons h1];simp at this;by_cases c1:32<=s[i].toNat <;> by_cases c2:126 < s[i].toNat
  ·have c:inT s[i]=false:=qJz (λq=>by omega);simp (disch:=omega) [h1,aC,c,c1,c2]
  ·have c:inT s[i]=true:=qVj ⟨c1,by omega⟩;simp (disch:=omega) [h1,aC,c,c1,c2,this]
  ·omega
  ·have c:inT s[i]=false:=qJz (λq=>c1 q.1);simp (disch:=omega) [h1,aC,c,c1,c2]
theorem BR (H:pO C) (s:List UInt8):FnW C 556 [.str s]=some (.bool (isText s)):=by
 rw [aF H.alk rfl];unfold isText;by_cases c2:s.length<=64
 ·have:=Zf H s c2 s.length 0 qqz;simp only [F7] at this;simp at this;have c4:¬ (64 < (s.length:Int)):=by omega
  simp [abX,c2,c4,this]
 ·have c4:(64 < (s.length:Int)):=by omega
  simp [abX,c2,c4]
theorem WX (H:pO C) (s:List UInt8) (hl:s.length<=64):∀ n i,n+i=s.length ->
 Ho C ⟨[(3,.int .i64 i),(0,.str s)],[],0⟩=some (.int .i64 (if (s.drop i).all inT=true then 1 else 0)):=by
 intro n;induction n with
 | zero =>
  intro i hi;simp only [Ho];rw [aj BO.eq_1];have h1:s.drop i=[]:=qwj qqq;have h3:¬ i < s.length:=by omega
  simp [aj QE.eq_1,h1,h3]
 | succ n ih =>
  intro i hi;have h1:i < s.length:=by omega
  have:=ih (i+1) qqq;simp only [Ho] at this |-;rw [aj BO.eq_1];rw [drop_cons h1];generalize hX:((s.drop (i+1)).all inT)=X at *;simp at this;rw [qdz,hX];by_cases c1:32<=s[i].toNat <;> by_cases c2:126 < s[i].toNat
  ·have c:inT s[i]=false:=qJz (λq=>by omega);simp (disch:=omega) [h1,aC,c,c1,c2]
  ·have c:inT s[i]=true:=qVj ⟨c1,by omega⟩;simp (disch:=omega) [h1,aC,c,c1,c2,this]
  ·omega
  ·have c:inT s[i]=false:=qJz (λq=>c1 q.1);simp (disch:=omega) [h1,aC,c,c1,c2]
theorem abG (H:pO C) (s:List UInt8):FnW C 510 [.str s]=some (.int .i64 (if isText s=true then 1 else 0)):=by
 rw [aF H.al1 rfl];unfold isText;by_cases c2:s.length<=64
 ·have:=WX H s c2 s.length 0 qqz;simp only [Ho] at this;simp only [qjq] at this;generalize hX:s.all inT=X at *;simp at this;have c4:¬ (64 < (s.length:Int)):=by omega
  simp [aeK,c2,c4,this]
 ·have c4:(64 < (s.length:Int)):=by omega
  simp [aeK,c2,c4]
structure Pred (C:aH) (g:Nat) (Q:UInt8->Bool):Prop where
 asc:∀ b:UInt8,b.toNat < 128->FnW C g [.int .i32 b.toNat]=some (.bool (!Q b))
 high:∀ r:Nat,128<=r->FnW C g [.int .i32 r]=some (.bool true)
 qh:∀ b:UInt8,128<=b.toNat->Q b=false
 ne:ppB g=false
 ni:ak g=false
theorem aaH (s:List UInt8) (pos:Nat) (h:pos < s.length) (ha:s[pos].toNat < 128):Utf8.decode ⟨⟨s⟩⟩ pos=(s[pos].toNat,1):=decode_ascii ⟨⟨s⟩⟩ pos h ha
theorem acj (s:List UInt8) (pos:Nat) (h:pos < s.length) (ha:128<=s[pos].toNat):128<=(Utf8.decode ⟨⟨s⟩⟩ pos).1/\1<=(Utf8.decode ⟨⟨s⟩⟩ pos).2:=decode_high ⟨⟨s⟩⟩ pos h ha
theorem VX (H:pO C) {g:Nat} {Q:UInt8->Bool} (G:Pred C g Q) (s:List UInt8):∀ n pos,n+pos=s.length ->
 ∃ v:Int,xq C ⟨[(10,.ptr 0 0 0),(2,.bool true),(1,.fn g [])],[(0,.iter s pos)],1⟩=some (.int .i64 v)/\decide (v < 0)=(s.drop pos).all Q:=by
 intro n;induction n with
 | zero =>
  intro pos hp;simp only [xq];rw [aj uS.eq_1];have h1:s.drop pos=[]:=qwj qqq;have h3:¬ pos < s.length:=by omega
  exact ⟨-1,by simp [aj QU.eq_1,h3],by simp [h1]⟩
 | succ n ih =>
  intro pos hp;have h1:pos < s.length:=by omega
  have hN:=G.ne;have hI:=G.ni;rw [drop_cons h1];by_cases ha:s[pos].toNat < 128
  ·have hd:=aaH s pos h1 ha;have hb:=G.asc s[pos] ha;by_cases c:Q s[pos]=true
   ·obtain ⟨v,hv,hq⟩:=ih (pos+1) qqq;refine ⟨v,?_,by simp [hq,c]⟩;simp only [xq] at hv |-;rw [aj uS.eq_1];simp (disch:=omega) [h1,hd,hb,c,H.inl,hI,H.pp,hN,hv]
   ·refine ⟨pos,?_,by simp [c]⟩;simp only [xq];rw [aj uS.eq_1];simp (disch:=omega) [h1,hd,hb,c,H.inl,hI,H.pp,hN]
  ·have hd:=acj s pos h1 qqq;have hb:=G.high (Utf8.decode ⟨⟨s⟩⟩ pos).1 hd.1;have hq:=G.qh s[pos] qqq;refine ⟨pos,?_,by simp [hq]⟩;simp only [xq];rw [aj uS.eq_1];obtain ⟨D,hD⟩:∃ D,Utf8.decode ⟨⟨s⟩⟩ pos=D:=⟨_,rfl⟩;rw [hD] at hb;simp (disch:=omega) [h1,hD,hb,H.inl,hI,H.pp,hN]
theorem Ad (H:pO C) {g:Nat} {Q:UInt8->Bool} (G:Pred C g Q) (s:List UInt8) :
 ∃ v:Int,FnW C 543 [.str s,.fn g []]=some (.int .i64 v)/\decide (v < 0)=s.all Q:=by
 obtain ⟨v,h,q⟩:=VX H G s s.length 0 qqz;refine ⟨v,?_,q⟩;have h2:FnW C 578 [.str s,.fn g [],.bool true]=some (.int .i64 v):=by rw [aF H.alE rfl];simp only [xq] at h;simp [afo,h]
 rw [aF H.amn rfl];simp [afm,H.inl,ak,H.pp,ppB,h2]
theorem EG (H:pO C) {g:Nat} {Q:UInt8->Bool} (G:Pred C g Q) (s:List UInt8) :
 FnW C 495 [.str s,.fn g []]=some (.bool (!s.all Q)):=by
 obtain ⟨v,h,q⟩:=Ad H G s;rw [aF H.ak9 rfl,<- q];by_cases c:v < 0
 ·have c':¬ 0<=v:=by omega
  simp [ab9,H.inl,ak,H.pp,ppB,h,c,c']
 ·have c':0<=v:=by omega
  simp [ab9,H.inl,ak,H.pp,ppB,h,c,c']
theorem agj (H:pO C):Pred C 560 inT where
 asc b hb:=by
  rw [aF H.afH rfl];by_cases c1:32<=b.toNat <;> by_cases c2:126 < b.toNat
  ·have c:inT b=false:=qJz (λq=>by omega);simp [Uy,c,c1,c2]
  ·have c:inT b=true:=qVj ⟨c1,by omega⟩;simp [Uy,c,c1,c2]
  ·omega
  ·have c:inT b=false:=qJz (λq=>c1 q.1);simp [Uy,c,c1,c2]
 high r hr:=by
  rw [aF H.afH rfl];have h1:32<=r:=by omega
  have h2:126 < r:=by omega
  simp [Uy,h1,h2]
 qh b hb:=qJz (λq=>by omega)
 ne:=by rfl
 ni:=by rfl
theorem ajg (H:pO C):Pred C 545 inN where
 asc b hb:=by
  rw [aF H.ahL rfl];have key:=Ee b;by_cases q1:97<=b.toNat <;> by_cases q2:122 < b.toNat <;> by_cases q3:48<=b.toNat <;> by_cases q4:57 < b.toNat <;> first
   | (exfalso;omega)
   | (
    have c:inN b=true:=by rcases key with ⟨c,_⟩ | ⟨_,q⟩ <;> first | exact c | (exfalso;omega)
    simp [aa6,c,q1,q2,q3,q4];done)
   | (
    have c:inN b=false:=by rcases key with ⟨_,q⟩ | ⟨c,_⟩ <;> first | exact c | (exfalso;omega)
    simp [aa6,c,q1,q2,q3,q4];done)
 high r hr:=by
  rw [aF H.ahL rfl];have h1:97<=r:=by omega
  have h2:122 < r:=by omega
  have h3:48<=r:=by omega
  have h4:57 < r:=by omega
  simp [aa6,h1,h2,h3,h4]
 qh b hb:=by unfold inN;exact qJz (λq=>by omega)
 ne:=by rfl
 ni:=by rfl
theorem XT (H:pO C) (s:List UInt8):FnW C 516 [.str s]=some (.bool (isText s)):=by
 obtain ⟨v,h,q⟩:=Ad H (agj H) s;rw [aF H.akj rfl];unfold isText;rw [<- q];by_cases c2:s.length<=64
 ·have c4:(s.length:Int)<=64:=by omega
  simp [acD,c2,c4,H.inl,ak,H.pp,ppB,h]
 ·have c4:¬ ((s.length:Int)<=64):=by omega
  simp [acD,c2,c4]
theorem adf (H:pO C) (s:List UInt8):FnW C 500 [.str s]=some (.bool (isName s)):=by
 have h:=EG H (ajg H) s;rw [aF H.amk rfl];unfold isName;by_cases c1:s=[]
 ·subst c1;simp [aaW]
 ·have c3:1<=s.length:=List.length_pos_iff.2 c1;by_cases c2:s.length<=16
  ·have c4:(s.length:Int)<=16:=by omega
   simp [aaW,c1,c2,c3,c4,H.inl,ak,H.pp,ppB,h]
  ·have c4:¬ ((s.length:Int)<=16):=by omega
   simp [aaW,c1,c2,c4]
end Go.D
end
section
namespace Go.Pav
open Go
def Lc (ids:List (Nat × Nat)) (f:FuncId):Option Nat :=
 match ids with
 | []=>none
 | (g,k)::r=>if k=f then some g else Lc r f
def Jb (ids:List (Nat × Nat)) (g:Nat):FuncId :=
 match get ids g with
 | some k=>k
 | none=>0
theorem ZQ:∀ {ids:List (Nat × Nat)} {f:FuncId} {g:Nat},Lc ids f=some g->(g,f) ∈ ids:=by
 intro ids;induction ids with
 | nil=>intro f g h;simp [Lc] at h
 | cons x r ih =>
  intro f g h;obtain ⟨a,k⟩:=x;simp only [Lc] at h;split at h
  ·rename_i hk;cases h;subst hk;exact qXq
  ·exact qyz _ (ih h)
theorem afy {ids:List (Nat × Nat)} (hc:(ids.all λx=>decide (Jb ids x.1=x.2))=true):∀ f g,Lc ids f=some g->Jb ids g=f:=by intro f g h;have:=qjx.1 hc _ (ZQ h);simpa using this
def xB (p:Nat->CFn->Prop):Tree->Prop
 | .leaf=>True
 | .node l k f r=>xB p l/\p k f/\xB p r
theorem xB.get {p:Nat->CFn->Prop}:∀ {t:Tree},xB p t->∀ {g:Nat} {cf:CFn},t.get g=some cf->p g cf:=by
 intro t;induction t with
 | leaf=>intro _ g cf h;simp [Tree.get] at h
 | node l k f r ihl ihr =>
  intro ⟨h1,h2,h3⟩ g cf h;simp only [Tree.get] at h;split at h
  ·rename_i hk;cases h;subst hk;exact h2
  ·split at h
   ·exact ihl h1 h
   ·exact ihr h3 h
def Ui:List (Nat × FuncId × Nat)->Nat->FuncId->Option Nat
 | [],_,_=>none
 | (g,f,k)::r,g',f'=>if g=g'/\f=f' then some k else Ui r g' f'
theorem aaL:∀ {alts:List (Nat × FuncId × Nat)} {g:Nat} {f:FuncId} {k:Nat},Ui alts g f=some k->(g,f,k) ∈ alts:=by
 intro alts;induction alts with
 | nil=>intro g f k h;simp [Ui] at h
 | cons x r ih =>
  intro g f k h;obtain ⟨a,b,c⟩:=x;simp only [Ui] at h;split at h
  ·rename_i hk;obtain ⟨rfl,rfl⟩:=hk;cases h;exact qXq
  ·exact qyz _ (ih h)
def aiw (ids:List (Nat × Nat)) (alts:List (Nat × FuncId × Nat)) (g:Nat) (f:FuncId):Option Nat :=
 match Ui alts g f with
 | some k=>some k
 | none=>Lc ids f
def aT (P:Program) (ids:List (Nat × Nat)) (alts:List (Nat × FuncId × Nat)) (g:Nat) (cf:CFn):Prop:=∃ fn,P.funcs[Jb ids g]?=some fn/\(cFn P (aiw ids alts g) fn).map IU=some (IU cf)
theorem linked {P:Program} {ids:List (Nat × Nat)} {alts:List (Nat × FuncId × Nat)} {C:Prog} (hc:(ids.all λx=>decide (Jb ids x.1=x.2))=true) (ha:(alts.all λx=>decide (Jb ids x.2.2=x.2.1))=true)
 (ht:xB (aT P ids alts) C.fns) (hm:P.follows .mixedOrders=true):Linked P (aiw ids alts) (Jb ids) C:=by
 refine ⟨λg f k h=>?_,λ_ _ h=>ht.get h,hm⟩;unfold aiw at h;split at h
 ·rename_i k' hk;cases h;simpa using qjx.1 ha _ (aaL hk)
 ·exact afy hc _ _ h
end Go.Pav
end
section
set_option maxRecDepth 100000
namespace P
open Go Go.Pav Go.Pw Go.Proofs
theorem l0:aT Tryz.prog ids alts 0 (aS w0):=⟨Tryz.f2,Tryz.func2,by kernel_rfl⟩
theorem l52:aT Tryz.prog ids alts 52 (aS w52):=⟨Tryz.f82,Tryz.func82,by kernel_rfl⟩
theorem l56:aT Tryz.prog ids alts 56 (aS w56):=⟨Tryz.f87,Tryz.func87,by kernel_rfl⟩
theorem l62:aT Tryz.prog ids alts 62 (aS w62):=⟨Tryz.f202,Tryz.func202,by kernel_rfl⟩
theorem l65:aT Tryz.prog ids alts 65 (aS w65):=⟨Tryz.f80,Tryz.func80,by kernel_rfl⟩
theorem l66:aT Tryz.prog ids alts 66 (aS w66):=⟨Tryz.f200,Tryz.func200,by kernel_rfl⟩
theorem l67:aT Tryz.prog ids alts 67 (aS w67):=⟨Tryz.f201,Tryz.func201,by kernel_rfl⟩
theorem l73:aT Tryz.prog ids alts 73 (aS w73):=⟨Tryz.f196,Tryz.func196,by kernel_rfl⟩
theorem l74:aT Tryz.prog ids alts 74 (aS w74):=⟨Tryz.f203,Tryz.func203,by kernel_rfl⟩
theorem l77:aT Tryz.prog ids alts 77 (aS w77):=⟨Tryz.f195,Tryz.func195,by kernel_rfl⟩
theorem l78:aT Tryz.prog ids alts 78 (aS w78):=⟨Tryz.f264,Tryz.func264,by kernel_rfl⟩
theorem l79:aT Tryz.prog ids alts 79 (aS w79):=⟨Tryz.f266,Tryz.func266,by kernel_rfl⟩
theorem l80:aT Tryz.prog ids alts 80 (aS w80):=⟨Tryz.f267,Tryz.func267,by kernel_rfl⟩
theorem l81:aT Tryz.prog ids alts 81 (aS w81):=⟨Tryz.f197,Tryz.func197,by kernel_rfl⟩
theorem l82:aT Tryz.prog ids alts 82 (aS w82):=⟨Tryz.f263,Tryz.func263,by kernel_rfl⟩
theorem l83:aT Tryz.prog ids alts 83 (aS w83):=⟨Tryz.f265,Tryz.func265,by kernel_rfl⟩
theorem asr:aT Tryz.prog ids alts 108 (aS afA):=⟨Tryz.f46,Tryz.func46,by kernel_rfl⟩
theorem ave:aT Tryz.prog ids alts 109 (aS aiQ):=⟨Tryz.f47,Tryz.func47,by kernel_rfl⟩
theorem auz:aT Tryz.prog ids alts 110 (aS aiN):=⟨Tryz.f48,Tryz.func48,by kernel_rfl⟩
theorem asz:aT Tryz.prog ids alts 111 (aS afN):=⟨Tryz.f49,Tryz.func49,by kernel_rfl⟩
theorem aru:aT Tryz.prog ids alts 112 (aS RG):=⟨Tryz.f50,Tryz.func50,by kernel_rfl⟩
theorem arw:aT Tryz.prog ids alts 114 (aS ah2):=⟨Tryz.f52,Tryz.func52,by kernel_rfl⟩
theorem arR:aT Tryz.prog ids alts 115 (aS PE):=⟨Tryz.f53,Tryz.func53,by kernel_rfl⟩
theorem ava:aT Tryz.prog ids alts 126 (aS ahW):=⟨Tryz.f64,Tryz.func64,by kernel_rfl⟩
theorem arY:aT Tryz.prog ids alts 130 (aS af9):=⟨Tryz.f10,Tryz.func10,by kernel_rfl⟩
theorem asu:aT Tryz.prog ids alts 140 (aS afB):=⟨Tryz.f69,Tryz.func69,by kernel_rfl⟩
theorem auH:aT Tryz.prog ids alts 166 (aS aoh):=⟨Tryz.f15,Tryz.func15,by kernel_rfl⟩
theorem arH:aT Tryz.prog ids alts 168 (aS aoB):=⟨Tryz.f28,Tryz.func28,by kernel_rfl⟩
theorem auP:aT Tryz.prog ids alts 169 (aS ahX):=⟨Tryz.f21,Tryz.func21,by kernel_rfl⟩
theorem asY:aT Tryz.prog ids alts 170 (aS aeb):=⟨Tryz.f12,Tryz.func12,by kernel_rfl⟩
theorem asy:aT Tryz.prog ids alts 171 (aS aaS):=⟨Tryz.f37,Tryz.func37,by kernel_rfl⟩
theorem at6:aT Tryz.prog ids alts 172 (aS abP):=⟨Tryz.f20,Tryz.func20,by kernel_rfl⟩
theorem ata:aT Tryz.prog ids alts 180 (aS aar):=⟨Tryz.f18,Tryz.func18,by kernel_rfl⟩
theorem auV:aT Tryz.prog ids alts 182 (aS UE):=⟨Tryz.f14,Tryz.func14,by kernel_rfl⟩
theorem auf:aT Tryz.prog ids alts 216 (aS rD):=⟨Tryz.f119,Tryz.func119,by kernel_rfl⟩
theorem as9:aT Tryz.prog ids alts 217 (aS adb):=⟨Tryz.f120,Tryz.func120,by kernel_rfl⟩
theorem arC:aT Tryz.prog ids alts 218 (aS aia):=⟨Tryz.f121,Tryz.func121,by kernel_rfl⟩
theorem atO:aT Tryz.prog ids alts 219 (aS ada):=⟨Tryz.f122,Tryz.func122,by kernel_rfl⟩
theorem atJ:aT Tryz.prog ids alts 220 (aS afl):=⟨Tryz.f123,Tryz.func123,by kernel_rfl⟩
theorem arB:aT Tryz.prog ids alts 221 (aS ajd):=⟨Tryz.f124,Tryz.func124,by kernel_rfl⟩
theorem arL:aT Tryz.prog ids alts 222 (aS ahG):=⟨Tryz.f125,Tryz.func125,by kernel_rfl⟩
theorem atB:aT Tryz.prog ids alts 223 (aS aah):=⟨Tryz.f88,Tryz.func88,by kernel_rfl⟩
theorem atX:aT Tryz.prog ids alts 225 (aS ahR):=⟨Tryz.f126,Tryz.func126,by kernel_rfl⟩
theorem atL:aT Tryz.prog ids alts 226 (aS ab1):=⟨Tryz.f127,Tryz.func127,by kernel_rfl⟩
theorem aug:aT Tryz.prog ids alts 227 (aS agv):=⟨Tryz.f128,Tryz.func128,by kernel_rfl⟩
theorem auG:aT Tryz.prog ids alts 228 (aS aeZ):=⟨Tryz.f129,Tryz.func129,by kernel_rfl⟩
theorem arO:aT Tryz.prog ids alts 229 (aS ahB):=⟨Tryz.f130,Tryz.func130,by kernel_rfl⟩
theorem asb:aT Tryz.prog ids alts 230 (aS Y8):=⟨Tryz.f131,Tryz.func131,by kernel_rfl⟩
theorem au4:aT Tryz.prog ids alts 231 (aS aeA):=⟨Tryz.f132,Tryz.func132,by kernel_rfl⟩
theorem arV:aT Tryz.prog ids alts 232 (aS acn):=⟨Tryz.f133,Tryz.func133,by kernel_rfl⟩
theorem l237:aT Tryz.prog ids alts 237 (aS abW):=⟨Tryz.f138,Tryz.func138,by kernel_rfl⟩
theorem asL:aT Tryz.prog ids alts 239 (aS afD):=⟨Tryz.f41,Tryz.func41,by kernel_rfl⟩
theorem auY:aT Tryz.prog ids alts 240 (aS ahE):=⟨Tryz.f77,Tryz.func77,by kernel_rfl⟩
theorem au5:aT Tryz.prog ids alts 241 (aS ach):=⟨Tryz.f140,Tryz.func140,by kernel_rfl⟩
theorem aua:aT Tryz.prog ids alts 242 (aS aaq):=⟨Tryz.f141,Tryz.func141,by kernel_rfl⟩
theorem ar7:aT Tryz.prog ids alts 270 (aS aji):=⟨Tryz.f75,Tryz.func75,by kernel_rfl⟩
theorem arZ:aT Tryz.prog ids alts 271 (aS Ux):=⟨Tryz.f76,Tryz.func76,by kernel_rfl⟩
theorem asI:aT Tryz.prog ids alts 282 (aS afV):=⟨Tryz.f167,Tryz.func167,by kernel_rfl⟩
theorem asi:aT Tryz.prog ids alts 326 (aS aic):=⟨Tryz.f11,Tryz.func11,by kernel_rfl⟩
theorem auI:aT Tryz.prog ids alts 328 (aS an6):=⟨Tryz.f24,Tryz.func24,by kernel_rfl⟩
theorem atb:aT Tryz.prog ids alts 329 (aS aoc):=⟨Tryz.f84,Tryz.func84,by kernel_rfl⟩
theorem ar6:aT Tryz.prog ids alts 330 (aS apn):=⟨Tryz.f23,Tryz.func23,by kernel_rfl⟩
theorem auW:aT Tryz.prog ids alts 331 (aS anu):=⟨Tryz.f26,Tryz.func26,by kernel_rfl⟩
theorem atu:aT Tryz.prog ids alts 332 (aS aot):=⟨Tryz.f22,Tryz.func22,by kernel_rfl⟩
theorem arW:aT Tryz.prog ids alts 333 (aS Kw):=⟨Tryz.f92,Tryz.func92,by kernel_rfl⟩
theorem arA:aT Tryz.prog ids alts 336 (aS J7):=⟨Tryz.f95,Tryz.func95,by kernel_rfl⟩
theorem arQ:aT Tryz.prog ids alts 337 (aS apj):=⟨Tryz.f96,Tryz.func96,by kernel_rfl⟩
theorem atg:aT Tryz.prog ids alts 338 (aS anH):=⟨Tryz.f97,Tryz.func97,by kernel_rfl⟩
theorem avb:aT Tryz.prog ids alts 340 (aS agE):=⟨Tryz.f89,Tryz.func89,by kernel_rfl⟩
theorem ash:aT Tryz.prog ids alts 341 (aS ag2):=⟨Tryz.f91,Tryz.func91,by kernel_rfl⟩
theorem asq:aT Tryz.prog ids alts 342 (aS abg):=⟨Tryz.f79,Tryz.func79,by kernel_rfl⟩
theorem auk:aT Tryz.prog ids alts 343 (aS O6):=⟨Tryz.f105,Tryz.func105,by kernel_rfl⟩
theorem atm:aT Tryz.prog ids alts 357 (aS aes):=⟨Tryz.f29,Tryz.func29,by kernel_rfl⟩
theorem atD:aT Tryz.prog ids alts 360 (aS ao5):=⟨Tryz.f83,Tryz.func83,by kernel_rfl⟩
theorem arK:aT Tryz.prog ids alts 362 (aS agn):=⟨Tryz.f86,Tryz.func86,by kernel_rfl⟩
theorem asT:aT Tryz.prog ids alts 398 (aS WC):=⟨Tryz.f207,Tryz.func207,by kernel_rfl⟩
theorem atP:aT Tryz.prog ids alts 399 (aS ai5):=⟨Tryz.f208,Tryz.func208,by kernel_rfl⟩
theorem arX:aT Tryz.prog ids alts 400 (aS ac1):=⟨Tryz.f221,Tryz.func221,by kernel_rfl⟩
theorem asQ:aT Tryz.prog ids alts 401 (aS Nu):=⟨Tryz.f222,Tryz.func222,by kernel_rfl⟩
theorem atl:aT Tryz.prog ids alts 404 (aS aje):=⟨Tryz.f223,Tryz.func223,by kernel_rfl⟩
theorem auB:aT Tryz.prog ids alts 405 (aS ahr):=⟨Tryz.f224,Tryz.func224,by kernel_rfl⟩
theorem asA:aT Tryz.prog ids alts 406 (aS aiC):=⟨Tryz.f225,Tryz.func225,by kernel_rfl⟩
theorem auM:aT Tryz.prog ids alts 407 (aS aiI):=⟨Tryz.f220,Tryz.func220,by kernel_rfl⟩
theorem auX:aT Tryz.prog ids alts 408 (aS acu):=⟨Tryz.f226,Tryz.func226,by kernel_rfl⟩
theorem au7:aT Tryz.prog ids alts 409 (aS agx):=⟨Tryz.f227,Tryz.func227,by kernel_rfl⟩
theorem atE:aT Tryz.prog ids alts 410 (aS abt):=⟨Tryz.f213,Tryz.func213,by kernel_rfl⟩
theorem ar8:aT Tryz.prog ids alts 422 (aS Ik):=⟨Tryz.f188,Tryz.func188,by kernel_rfl⟩
theorem atS:aT Tryz.prog ids alts 423 (aS aiT):=⟨Tryz.f189,Tryz.func189,by kernel_rfl⟩
theorem atQ:aT Tryz.prog ids alts 424 (aS RF):=⟨Tryz.f190,Tryz.func190,by kernel_rfl⟩
theorem arz:aT Tryz.prog ids alts 425 (aS J6):=⟨Tryz.f191,Tryz.func191,by kernel_rfl⟩
theorem ate:aT Tryz.prog ids alts 433 (aS JF):=⟨Tryz.f245,Tryz.func245,by kernel_rfl⟩
theorem auh:aT Tryz.prog ids alts 434 (aS yS):=⟨Tryz.f246,Tryz.func246,by kernel_rfl⟩
theorem atG:aT Tryz.prog ids alts 439 (aS abS):=⟨Tryz.f251,Tryz.func251,by kernel_rfl⟩
theorem aui:aT Tryz.prog ids alts 441 (aS adK):=⟨Tryz.f253,Tryz.func253,by kernel_rfl⟩
theorem asM:aT Tryz.prog ids alts 442 (aS aeI):=⟨Tryz.f254,Tryz.func254,by kernel_rfl⟩
theorem arD:aT Tryz.prog ids alts 452 (aS ai0):=⟨Tryz.f78,Tryz.func78,by kernel_rfl⟩
theorem aus:aT Tryz.prog ids alts 453 (aS aow):=⟨Tryz.f27,Tryz.func27,by kernel_rfl⟩
theorem asW:aT Tryz.prog ids alts 454 (aS ape):=⟨Tryz.f13,Tryz.func13,by kernel_rfl⟩
theorem as4:aT Tryz.prog ids alts 455 (aS ahU):=⟨Tryz.f211,Tryz.func211,by kernel_rfl⟩
theorem atd:aT Tryz.prog ids alts 457 (aS aha):=⟨Tryz.f214,Tryz.func214,by kernel_rfl⟩
theorem auU:aT Tryz.prog ids alts 458 (aS aoA):=⟨Tryz.f215,Tryz.func215,by kernel_rfl⟩
theorem avh:aT Tryz.prog ids alts 459 (aS UW):=⟨Tryz.f209,Tryz.func209,by kernel_rfl⟩
theorem au9:aT Tryz.prog ids alts 460 (aS adU):=⟨Tryz.f210,Tryz.func210,by kernel_rfl⟩
theorem asB:aT Tryz.prog ids alts 461 (aS Uh):=⟨Tryz.f192,Tryz.func192,by kernel_rfl⟩
theorem atx:aT Tryz.prog ids alts 462 (aS acg):=⟨Tryz.f193,Tryz.func193,by kernel_rfl⟩
theorem atA:aT Tryz.prog ids alts 463 (aS agL):=⟨Tryz.f194,Tryz.func194,by kernel_rfl⟩
theorem aul:aT Tryz.prog ids alts 469 (aS acI):=⟨Tryz.f204,Tryz.func204,by kernel_rfl⟩
theorem ar9:aT Tryz.prog ids alts 494 (aS acG):=⟨Tryz.f268,Tryz.func268,by kernel_rfl⟩
theorem atp:aT Tryz.prog ids alts 495 (aS ab9):=⟨Tryz.f269,Tryz.func269,by kernel_rfl⟩
theorem atN:aT Tryz.prog ids alts 496 (aS WQ):=⟨Tryz.f270,Tryz.func270,by kernel_rfl⟩
theorem atZ:aT Tryz.prog ids alts 497 (aS ac9):=⟨Tryz.f271,Tryz.func271,by kernel_rfl⟩
theorem au6:aT Tryz.prog ids alts 498 (aS adR):=⟨Tryz.f272,Tryz.func272,by kernel_rfl⟩
theorem ath:aT Tryz.prog ids alts 499 (aS ai8):=⟨Tryz.f273,Tryz.func273,by kernel_rfl⟩
theorem arP:aT Tryz.prog ids alts 500 (aS aaW):=⟨Tryz.f274,Tryz.func274,by kernel_rfl⟩
theorem arJ:aT Tryz.prog ids alts 501 (aS J5):=⟨Tryz.f275,Tryz.func275,by kernel_rfl⟩
theorem auy:aT Tryz.prog ids alts 502 (aS ac6):=⟨Tryz.f283,Tryz.func283,by kernel_rfl⟩
theorem atW:aT Tryz.prog ids alts 503 (aS aie):=⟨Tryz.f284,Tryz.func284,by kernel_rfl⟩
theorem ar1:aT Tryz.prog ids alts 504 (aS ahN):=⟨Tryz.f282,Tryz.func282,by kernel_rfl⟩
theorem auv:aT Tryz.prog ids alts 505 (aS aak):=⟨Tryz.f285,Tryz.func285,by kernel_rfl⟩
theorem asg:aT Tryz.prog ids alts 510 (aS aeK):=⟨Tryz.f258,Tryz.func258,by kernel_rfl⟩
theorem atv:aT Tryz.prog ids alts 511 (aS ZY):=⟨Tryz.f259,Tryz.func259,by kernel_rfl⟩
theorem arI:aT Tryz.prog ids alts 512 (aS WG):=⟨Tryz.f260,Tryz.func260,by kernel_rfl⟩
theorem ar5:aT Tryz.prog ids alts 513 (aS TS):=⟨Tryz.f261,Tryz.func261,by kernel_rfl⟩
theorem asC:aT Tryz.prog ids alts 516 (aS acD):=⟨Tryz.f291,Tryz.func291,by kernel_rfl⟩
theorem au8:aT Tryz.prog ids alts 517 (aS aan):=⟨Tryz.f292,Tryz.func292,by kernel_rfl⟩
theorem auu:aT Tryz.prog ids alts 518 (aS abJ):=⟨Tryz.f293,Tryz.func293,by kernel_rfl⟩
theorem atw:aT Tryz.prog ids alts 519 (aS aeV):=⟨Tryz.f294,Tryz.func294,by kernel_rfl⟩
theorem aut:aT Tryz.prog ids alts 520 (aS aao):=⟨Tryz.f295,Tryz.func295,by kernel_rfl⟩
theorem arM:aT Tryz.prog ids alts 525 (aS SN):=⟨Tryz.f81,Tryz.func81,by kernel_rfl⟩
theorem atY:aT Tryz.prog ids alts 526 (aS ahO):=⟨Tryz.f276,Tryz.func276,by kernel_rfl⟩
theorem atr:aT Tryz.prog ids alts 527 (aS afw):=⟨Tryz.f277,Tryz.func277,by kernel_rfl⟩
theorem avg:aT Tryz.prog ids alts 528 (aS agl):=⟨Tryz.f278,Tryz.func278,by kernel_rfl⟩
theorem asR:aT Tryz.prog ids alts 529 (aS agD):=⟨Tryz.f279,Tryz.func279,by kernel_rfl⟩
theorem atC:aT Tryz.prog ids alts 530 (aS agA):=⟨Tryz.f280,Tryz.func280,by kernel_rfl⟩
theorem aum:aT Tryz.prog ids alts 531 (aS an8):=⟨Tryz.f281,Tryz.func281,by kernel_rfl⟩
theorem arE:aT Tryz.prog ids alts 532 (aS agf):=⟨Tryz.f262,Tryz.func262,by kernel_rfl⟩
theorem asX:aT Tryz.prog ids alts 543 (aS afm):=⟨Tryz.f303,Tryz.func303,by kernel_rfl⟩
theorem auZ:aT Tryz.prog ids alts 544 (aS ahn):=⟨Tryz.f304,Tryz.func304,by kernel_rfl⟩
theorem arx:aT Tryz.prog ids alts 545 (aS aa6):=⟨Tryz.f305,Tryz.func305,by kernel_rfl⟩
theorem asf:aT Tryz.prog ids alts 546 (aS UL):=⟨Tryz.f306,Tryz.func306,by kernel_rfl⟩
theorem atV:aT Tryz.prog ids alts 547 (aS ajh):=⟨Tryz.f307,Tryz.func307,by kernel_rfl⟩
theorem ar4:aT Tryz.prog ids alts 548 (aS Wi):=⟨Tryz.f309,Tryz.func309,by kernel_rfl⟩
theorem auR:aT Tryz.prog ids alts 549 (aS ji):=⟨Tryz.f310,Tryz.func310,by kernel_rfl⟩
theorem asv:aT Tryz.prog ids alts 550 (aS Zp):=⟨Tryz.f311,Tryz.func311,by kernel_rfl⟩
theorem atF:aT Tryz.prog ids alts 556 (aS abX):=⟨Tryz.f299,Tryz.func299,by kernel_rfl⟩
theorem arN:aT Tryz.prog ids alts 557 (aS aiZ):=⟨Tryz.f300,Tryz.func300,by kernel_rfl⟩
theorem asJ:aT Tryz.prog ids alts 558 (aS abq):=⟨Tryz.f301,Tryz.func301,by kernel_rfl⟩
theorem atn:aT Tryz.prog ids alts 559 (aS ag0):=⟨Tryz.f302,Tryz.func302,by kernel_rfl⟩
theorem as6:aT Tryz.prog ids alts 560 (aS Uy):=⟨Tryz.f316,Tryz.func316,by kernel_rfl⟩
theorem auQ:aT Tryz.prog ids alts 561 (aS aiX):=⟨Tryz.f317,Tryz.func317,by kernel_rfl⟩
theorem auo:aT Tryz.prog ids alts 562 (aS aiS):=⟨Tryz.f318,Tryz.func318,by kernel_rfl⟩
theorem asa:aT Tryz.prog ids alts 563 (aS yR):=⟨Tryz.f319,Tryz.func319,by kernel_rfl⟩
theorem avi:aT Tryz.prog ids alts 564 (aS ah0):=⟨Tryz.f198,Tryz.func198,by kernel_rfl⟩
theorem as3:aT Tryz.prog ids alts 565 (aS aez):=⟨Tryz.f199,Tryz.func199,by kernel_rfl⟩
theorem auw:aT Tryz.prog ids alts 578 (aS afo):=⟨Tryz.f320,Tryz.func320,by kernel_rfl⟩
theorem auE:aT Tryz.prog ids alts 579 (aS aib):=⟨Tryz.f321,Tryz.func321,by kernel_rfl⟩
theorem arU:aT Tryz.prog ids alts 580 (aS aiP):=⟨Tryz.f322,Tryz.func322,by kernel_rfl⟩
theorem ato:aT Tryz.prog ids alts 581 (aS agW):=⟨Tryz.f323,Tryz.func323,by kernel_rfl⟩
theorem au3:aT Tryz.prog ids alts 582 (aS ag5):=⟨Tryz.f324,Tryz.func324,by kernel_rfl⟩
theorem at7:aT Tryz.prog ids alts 583 (aS ait):=⟨Tryz.f325,Tryz.func325,by kernel_rfl⟩
theorem as7:aT Tryz.prog ids alts 584 (aS ai1):=⟨Tryz.f326,Tryz.func326,by kernel_rfl⟩
theorem arT:aT Tryz.prog ids alts 585 (aS ae8):=⟨Tryz.f327,Tryz.func327,by kernel_rfl⟩
theorem avc:aT Tryz.prog ids alts 586 (aS mM):=⟨Tryz.f328,Tryz.func328,by kernel_rfl⟩
theorem aup:aT Tryz.prog ids alts 592 (aS abH):=⟨Tryz.f329,Tryz.func329,by kernel_rfl⟩
theorem aty:aT Tryz.prog ids alts 593 (aS ahh):=⟨Tryz.f330,Tryz.func330,by kernel_rfl⟩
theorem as1:aT Tryz.prog ids alts 594 (aS abC):=⟨Tryz.f331,Tryz.func331,by kernel_rfl⟩
theorem arF:aT Tryz.prog ids alts 618 (aS aaT):=⟨Tryz.f3,Tryz.func3,by kernel_rfl⟩
theorem auO:aT Tryz.prog ids alts 624 (aS agt):=⟨Tryz.f16,Tryz.func16,by kernel_rfl⟩
theorem asG:aT Tryz.prog ids alts 625 (aS acM):=⟨Tryz.f17,Tryz.func17,by kernel_rfl⟩
theorem at1:aT Tryz.prog ids alts 627 (aS aiW):=⟨Tryz.f85,Tryz.func85,by kernel_rfl⟩
theorem asV:aT Tryz.prog ids alts 629 (aS aiJ):=⟨Tryz.f205,Tryz.func205,by kernel_rfl⟩
theorem asH:aT Tryz.prog ids alts 630 (aS ahz):=⟨Tryz.f206,Tryz.func206,by kernel_rfl⟩
theorem anr:aT Tryz.prog ids alts 1073 (aS w73):=⟨Tryz.f196,Tryz.func196,by kernel_rfl⟩
theorem aoL:aT Tryz.prog ids alts 3006 (aS anv):=⟨Tryz.f308,Tryz.func308,by kernel_rfl⟩
theorem ao3:aT Tryz.prog ids alts 3007 (aS aoN):=⟨Tryz.f98,Tryz.func98,by kernel_rfl⟩
theorem aoP:aT Tryz.prog ids alts 5045 (aS QY):=⟨Tryz.f210,Tryz.func210,by kernel_rfl⟩
theorem an1:aT Tryz.prog ids alts 5044 (aS KY):=⟨Tryz.f89,Tryz.func89,by kernel_rfl⟩
theorem aoW:aT Tryz.prog ids alts 5051 (aS Yu):=⟨Tryz.f83,Tryz.func83,by kernel_rfl⟩
theorem ao4:aT Tryz.prog ids alts 5052 (aS Hw):=⟨Tryz.f13,Tryz.func13,by kernel_rfl⟩
theorem anQ:aT Tryz.prog ids alts 2053 (aS QW):=⟨Tryz.f90,Tryz.func90,by kernel_rfl⟩
theorem aos:aT Tryz.prog ids alts 6054 (aS XH):=⟨Tryz.f19,Tryz.func19,by kernel_rfl⟩
def prog:aH:=⟨tree,Go.D.ak,Go.D.ppB⟩
theorem all:xB (aT Tryz.prog ids alts) (fK prog).fns:=⟨⟨⟨⟨⟨⟨⟨⟨trivial,l0,trivial⟩,l52,trivial⟩,l56,⟨⟨trivial,l62,trivial⟩,l65,trivial⟩⟩,l66,⟨⟨⟨trivial,l67,trivial⟩,l73,trivial⟩,l74,⟨⟨trivial,l77,trivial⟩,l78,trivial⟩⟩⟩,l79,⟨⟨⟨⟨trivial,l80,trivial⟩,l81,trivial⟩,l82,⟨⟨trivial,l83,trivial⟩,asr,trivial⟩⟩,ave,⟨⟨⟨trivial,auz,trivial⟩,asz,trivial⟩,aru,⟨trivial,arw,trivial⟩⟩⟩⟩,arR,⟨⟨⟨⟨⟨trivial,ava,trivial⟩,arY,trivial⟩,asu,⟨⟨trivial,auH,trivial⟩,arH,trivial⟩⟩,auP,⟨⟨⟨trivial,asY,trivial⟩,asy,trivial⟩,at6,⟨⟨trivial,ata,trivial⟩,auV,trivial⟩⟩⟩,auf,⟨⟨⟨⟨trivial,as9,trivial⟩,arC,trivial⟩,atO,⟨⟨trivial,atJ,trivial⟩,arB,trivial⟩⟩,arL,⟨⟨⟨trivial,atB,trivial⟩,atX,trivial⟩,atL,⟨trivial,aug,trivial⟩⟩⟩⟩⟩,auG,⟨⟨⟨⟨⟨⟨trivial,arO,trivial⟩,asb,trivial⟩,au4,⟨⟨trivial,arV,trivial⟩,l237,trivial⟩⟩,asL,⟨⟨⟨trivial,auY,trivial⟩,au5,trivial⟩,aua,⟨⟨trivial,ar7,trivial⟩,arZ,trivial⟩⟩⟩,asI,⟨⟨⟨⟨trivial,asi,trivial⟩,auI,trivial⟩,atb,⟨⟨trivial,ar6,trivial⟩,auW,trivial⟩⟩,atu,⟨⟨⟨trivial,arW,trivial⟩,arA,trivial⟩,arQ,⟨trivial,atg,trivial⟩⟩⟩⟩,avb,⟨⟨⟨⟨⟨trivial,ash,trivial⟩,asq,trivial⟩,auk,⟨⟨trivial,atm,trivial⟩,atD,trivial⟩⟩,arK,⟨⟨⟨trivial,asT,trivial⟩,atP,trivial⟩,arX,⟨trivial,asQ,trivial⟩⟩⟩,atl,⟨⟨⟨⟨trivial,auB,trivial⟩,asA,trivial⟩,auM,⟨⟨trivial,auX,trivial⟩,au7,trivial⟩⟩,atE,⟨⟨⟨trivial,ar8,trivial⟩,atS,trivial⟩,atQ,⟨trivial,arz,trivial⟩⟩⟩⟩⟩⟩,ate,⟨⟨⟨⟨⟨⟨⟨trivial,auh,trivial⟩,atG,trivial⟩,aui,⟨⟨trivial,asM,trivial⟩,arD,trivial⟩⟩,aus,⟨⟨⟨trivial,asW,trivial⟩,as4,trivial⟩,atd,⟨⟨trivial,auU,trivial⟩,avh,trivial⟩⟩⟩,au9,⟨⟨⟨⟨trivial,asB,trivial⟩,atx,trivial⟩,atA,⟨⟨trivial,aul,trivial⟩,ar9,trivial⟩⟩,atp,⟨⟨⟨trivial,atN,trivial⟩,atZ,trivial⟩,au6,⟨trivial,ath,trivial⟩⟩⟩⟩,arP,⟨⟨⟨⟨⟨trivial,arJ,trivial⟩,auy,trivial⟩,atW,⟨⟨trivial,ar1,trivial⟩,auv,trivial⟩⟩,asg,⟨⟨⟨trivial,atv,trivial⟩,arI,trivial⟩,ar5,⟨⟨trivial,asC,trivial⟩,au8,trivial⟩⟩⟩,auu,⟨⟨⟨⟨trivial,atw,trivial⟩,aut,trivial⟩,arM,⟨⟨trivial,atY,trivial⟩,atr,trivial⟩⟩,avg,⟨⟨⟨trivial,asR,trivial⟩,atC,trivial⟩,aum,⟨trivial,arE,trivial⟩⟩⟩⟩⟩,asX,⟨⟨⟨⟨⟨⟨trivial,auZ,trivial⟩,arx,trivial⟩,asf,⟨⟨trivial,atV,trivial⟩,ar4,trivial⟩⟩,auR,⟨⟨⟨trivial,asv,trivial⟩,atF,trivial⟩,arN,⟨⟨trivial,asJ,trivial⟩,atn,trivial⟩⟩⟩,as6,⟨⟨⟨⟨trivial,auQ,trivial⟩,auo,trivial⟩,asa,⟨⟨trivial,avi,trivial⟩,as3,trivial⟩⟩,auw,⟨⟨⟨trivial,auE,trivial⟩,arU,trivial⟩,ato,⟨trivial,au3,trivial⟩⟩⟩⟩,at7,⟨⟨⟨⟨⟨trivial,as7,trivial⟩,arT,trivial⟩,avc,⟨⟨trivial,aup,trivial⟩,aty,trivial⟩⟩,as1,⟨⟨⟨trivial,arF,trivial⟩,auO,trivial⟩,asG,⟨trivial,at1,trivial⟩⟩⟩,asV,⟨⟨⟨⟨trivial,asH,trivial⟩,anr,trivial⟩,anQ,⟨⟨trivial,aoL,trivial⟩,ao3,trivial⟩⟩,an1,⟨⟨⟨trivial,aoP,trivial⟩,aoW,trivial⟩,ao4,⟨trivial,aos,trivial⟩⟩⟩⟩⟩⟩⟩
theorem okT:uK prog.fns=true:=by kernel_rfl
theorem link:Linked Tryz.prog (aiw ids alts) (Jb ids) (fK prog):=linked (by kernel_rfl) (by kernel_rfl) all (by kernel_rfl)
end P
end
section
namespace Go.Pw
open Go Go.Pav
inductive CT where
 | bool
 | int (k:IntKind)
 | str
 | slice (ts:List CT)
inductive Ty:CT->AV->Prop
 | bool (b:Bool):Ty .bool (.bool b)
 | int (k:IntKind) (n:Int) (h1:k.min<=n) (h2:n<=k.max):Ty (.int k) (.int k n)
 | str (s:List UInt8) (h:s.length < 2 ^ 63):Ty .str (.str s)
 | slice (ts:List CT) (es:List (List AV)) (ex:Bool) (hn:es.length < 2 ^ 63) (hw:∀ (i:Nat) (e:List AV),es[i]?=some e->e.length=ts.length)
  (h:∀ (i:Nat) (e:List AV) (j:Nat) (ct:CT) (x:AV),es[i]?=some e->ts[j]?=some ct->e[j]?=some x->Ty ct x):Ty (.slice ts) (.ro ts.length es ex)
theorem Ty.isC {ct:CT} {a:AV} (h:Ty ct a):Pw.isC a=true:=by cases h <;> rfl
def C9 (F:TypeId->Option (List CT)) (P:Program):List Field->Nat->Option (List CT)
 | [],_=>some []
 | f::r,off=>(F f.type).bind λts=>if f.offset=off/\ts.length=P.cellsOf f.type then (C9 F P r (off+ts.length)).map (ts++·) else none
def vC (P:Program):Nat->TypeId->Option (List CT)
 | 0,_=>none
 | n+1,t=>match P.underlying t with
  | some .bool=>some [.bool]
  | some (.int k)=>some [.int k]
  | some .string=>some [.str]
  | some (.slice e)=>(vC P n e).bind λts=>if ts.length=P.cellsOf e/\0 < ts.length then some [.slice ts] else none
  | some (.struct fs)=>(C9 (vC P n) P fs.toList 0).bind λts=>if ts.length=P.cellsOf t then some ts else none
  | some (.array m e)=>(vC P n e).bind λts=>if ts.length=P.cellsOf e/\m * ts.length=P.cellsOf t then some (List.replicate m ts).flatten else none
  | _=>none
theorem ER {α:Type} (ts:List α):∀ (m j:Nat),j < m * ts.length->(List.replicate m ts).flatten[j]?=ts[j % ts.length]?
 | 0,j,h=>by simp at h
 | m+1,j,h=>by
  rw [qJx,List.flatten_cons];rcases qsj j ts.length with hl | hl
  ·rw [qYz hl,Nat.mod_eq_of_lt hl]
  ·rw [qoz hl,ER ts m (j - ts.length) (by rw [qYq] at h;omega),Nat.mod_eq_sub_mod hl]
theorem trod_array {H:Type} {enc:TypeId × Value->H} {P:Program} {w:World} {base:Nat} {spare:Nat->Bool} {held:Bool} {fuel:Nat} {t:TypeId} {cs:List Value} {x:DataW H × List MemPlace} {m:Nat} {e:TypeId}
 (ht:P.underlying t=some (.array m e)) (h:DataW.trod enc P w base spare held fuel t cs=some x) :
 ∃ (xs:List (DataW H × List MemPlace)) (n:Nat),fuel=n+1/\cs.length=P.cellsOf t/\xs.length=m /\
  ∀ i,i < m->DataW.trod enc P w base spare held n e ((cs.drop (i * P.cellsOf e)).take (P.cellsOf e))=xs[i]?:=by
 cases fuel with
 | zero=>simp [DataW.trod] at h
 | succ n =>unfold DataW.trod at h;rw [ht] at h;split at h <;> simp_all;obtain ⟨hl,xs,hp,hd⟩:=h;exact ⟨xs,by simpa using mapM_some_length hp,λi hi=>mapM_some_get hp i i (qrx hi)⟩
def Js (ψ:Nat->FuncId) (W:World) (ct:CT) (v:Value):Prop :=∃ a a',Ty ct a/\VD id (λ_=>False) a a'/\a'.cell=true/\VR ψ W (λc=>c < W.heap.size) (λ_=>(0,0)) (λ_=>False) a' v
section
variable {H:Type} {enc:TypeId × Value->H} {P:Program} {W:World} {ψ:Nat->FuncId}
theorem Ry {F:TypeId->Option (List CT)} {n:Nat} {cs:List Value}
 (hF:∀ t cs x ts,F t=some ts->DataW.trod enc P W 0 (λ_=>true) true n t cs=some x->cs.length=ts.length/\∀ (j:Nat) (ct:CT),ts[j]?=some ct->∃ v,cs[j]?=some v/\Js ψ W ct v) :
 ∀ (fs:List Field) (off:Nat) (ts:List CT),C9 F P fs off=some ts->(∀ f ∈ fs,∃ x,DataW.trod enc P W 0 (λ_=>true) true n f.type ((cs.drop f.offset).take (P.cellsOf f.type))=some x) ->
  ∀ (j:Nat) (ct:CT),ts[j]?=some ct->∃ v,cs[off+j]?=some v/\Js ψ W ct v:=by
 intro fs;induction fs with
 | nil=>intro off ts h _ j ct hj;simp only [C9,qwx] at h;subst h;simp at hj
 | cons f r ih =>
  intro off ts h hx j ct hj;simp only [C9,qzj] at h;obtain ⟨t1,h1,h⟩:=h;split at h
  ·rename_i hc;simp only [qyx] at h;obtain ⟨t2,h2,rfl⟩:=h;rcases qsj j t1.length with hl | hl
   ·rw [qYz hl] at hj;obtain ⟨x,q⟩:=hx f qqz;obtain ⟨v,q1,q2⟩:=(hF _ _ _ _ h1 q).2 j ct hj;refine ⟨v,?_,q2⟩;rw [qZj] at q1;split at q1
    ·rw [qKq] at q1;rw [<- hc.1];exact q1
    ·cases q1
   ·rw [qoz hl] at hj;obtain ⟨v,q1,q2⟩:=ih _ _ h2 (λf hf=>hx f (by simp [hf])) _ ct hj;exact ⟨v,by rw [<- q1];congr 1;omega,q2⟩
  ·cases h
theorem Jr:∀ (n k:Nat) (t:TypeId) (cs:List Value) (x:DataW H × List MemPlace) (ts:List CT),vC P k t=some ts->DataW.trod enc P W 0 (λ_=>true) true n t cs=some x ->
 cs.length=ts.length/\∀ (j:Nat) (ct:CT),ts[j]?=some ct->∃ v,cs[j]?=some v/\Js ψ W ct v:=by
 intro n;induction n with
 | zero=>intro k t cs x ts _ h;simp [DataW.trod] at h
 | succ n ih =>
  intro k t cs x ts hf h;cases k with
  | zero=>simp [vC] at hf
  | succ k =>
   have one:∀ {v:Value} {ct:CT},cs=[v]->ts=[ct]->Js ψ W ct v->cs.length=ts.length/\∀ (j:Nat) (ct:CT),ts[j]?=some ct->∃ v,cs[j]?=some v/\Js ψ W ct v:=by
    intro v ct h1 h2 h3;subst h1;subst h2;refine ⟨rfl,λj ct' hj=>?_⟩;cases j with
    | zero=>simp only [List.getElem?_cons_zero,qwx] at hj;subst hj;exact ⟨v,rfl,h3⟩
    | succ j=>simp at hj
   unfold vC at hf;split at hf
   ·rename_i ht;cases hf;obtain ⟨b,e,_⟩:=DataW.trod_bool ht h;exact one e rfl ⟨_,_,.bool b,.bool b,rfl,.bool b⟩
   ·rename_i k' ht;cases hf;obtain ⟨m,e,_,hw⟩:=DataW.trod_int ht h;simp only [Lit.wf,qzq,qvj] at hw;exact one e rfl ⟨_,_,.int k' m hw.1 hw.2,.int k' m,rfl,.int k' m⟩
   ·rename_i ht;cases hf;obtain ⟨s,e,_,hw⟩:=DataW.trod_string ht h;refine one e rfl ⟨.str s.data.toList,_,.str _ ?_,.str _,rfl,?_⟩
    ·simp only [maxLen] at hw;have:s.data.toList.length=s.size:=rfl;omega
    ·have:=VR.str (ψ:=ψ) (w:=W) (S:=λc=>c < W.heap.size) (m:=λ_=>(0,0)) (A:=λ_=>False) s.data.toList;exact this
   ·rename_i el ht;simp only [qzj] at hf;obtain ⟨us,hu,hf⟩:=hf;split at hf
    ·rename_i hz;obtain ⟨hz,hz0⟩:=hz;cases hf;rcases DataW.trod_slice ht h with ⟨e,_⟩ | ⟨a,len,cap,elems,rest,n',hn,e,_,_,hl,hm,hlen,hel,hsp,_⟩
     ·exact one e rfl ⟨.ro us.length [] true,.bF,.slice us [] true qqz qqz qqz,.jP _ _,rfl,.bF⟩
     ·cases hn;refine one e rfl ?_;have row:∀ i,i < cap->∃ vs y,W.cells? 0 (a.add (i * us.length)) us.length=some vs/\DataW.trod enc P W 0 (λ_=>true) true n el vs=some y:=by
       intro i hi;rcases qsj i len with hil | hil
       ·have:=hel i hil;rw [qqj qqq,qzj,<- hz] at this;obtain ⟨vs,q1,q2⟩:=this;exact ⟨vs,_,q1,q2⟩
       ·obtain ⟨q0,q⟩:=hsp rfl;have:=q (i - len) qqq;rw [qqj qqq,qzj,<- hz,show len+(i - len)=i by omega] at this;obtain ⟨vs,q1,q2⟩:=this;exact ⟨vs,_,q1,q2⟩
      rcases Nat.eq_zero_or_pos cap with hc0 | hc0
      ·subst hc0;obtain rfl:len=0:=by omega
       exact ⟨.ro us.length [] true,.ro us.length [] true,.slice us [] true qqz qqz qqz,.ro _ [] [] true true qqz rfl id qqz qqz,rfl,.roe _ _ _ 0 (λ_=>rfl)⟩
      ·obtain ⟨b,off,spot⟩:=a;have hfirst:∃ v,W.cell? ⟨b,off,spot⟩=some v:=by obtain ⟨vs,_,q1,_⟩:=row 0 hc0;obtain ⟨_,q2,q3⟩:=World.cells?_some q1;have:=q3 0 hz0;rw [qqj qqq] at this;exact ⟨_,by simpa [Addr.add] using this⟩
       obtain ⟨v0,hv0⟩:=hfirst;obtain rfl:spot=none:=World.cell?_spot hv0;have hS:b < W.heap.size:=by
        unfold World.cell? at hv0;split at hv0
        ·rename_i hb;exact (qWq.1 hb).1
        ·cases hv0
       have key:∀ p:Nat × Nat,∃ q:Value × AV × AV,p.1 < len->∀ ct,us[p.2]?=some ct->W.cell? ⟨b,off+p.1 * us.length+p.2,none⟩=some q.1/\Ty ct q.2.1/\VD id (λ_=>False) q.2.1 q.2.2/\q.2.2.cell=true /\
        VR ψ W (λc=>c < W.heap.size) (λ_=>(0,0)) (λ_=>False) q.2.2 q.1:=by
        intro ⟨i,j⟩;by_cases hi:i < len
        ·cases hj:us[j]? with
         | none=>exact ⟨default,λ_ ct q=>by cases q⟩
         | some ct =>obtain ⟨vs,y,q1,q2⟩:=row i qqq;obtain ⟨v,q3,c1,c2,q4,q5,q6,q7⟩:=(ih _ _ _ _ _ hu q2).2 j ct hj;refine ⟨(v,c1,c2),λ_ ct' q=>?_⟩;cases q;refine ⟨?_,q4,q5,q6,q7⟩;obtain ⟨_,r1,r2⟩:=World.cells?_some q1;have hjl:j < us.length:=(qxz.1 hj).1;have:=r2 j hjl;rw [q3] at this;rw [<- this];congr 1;simp only [Addr.add];split <;> split <;> simp_all <;> omega
        ·exact ⟨default,λq=>absurd q hi⟩
       obtain ⟨F,hF⟩:=zzj key;let es:List (List AV):=(List.range len).map λi=>(List.range us.length).map λj=>(F (i,j)).2.1;let es':List (List AV):=(List.range len).map λi=>(List.range us.length).map λj=>(F (i,j)).2.2;have g1:∀ (i:Nat) (e:List AV),es[i]?=some e->i < len/\e=(List.range us.length).map λj=>(F (i,j)).2.1:=by intro i e he;simp only [es,qWx,qyx] at he;obtain ⟨i',q1,q2⟩:=he;have:=qxz.1 q1;obtain ⟨q3,q4⟩:=this;simp at q3 q4;subst q4;exact ⟨q3,q2.symm⟩
       have g1':∀ (i:Nat) (e:List AV),es'[i]?=some e->i < len/\e=(List.range us.length).map λj=>(F (i,j)).2.2:=by intro i e he;simp only [es',qWx,qyx] at he;obtain ⟨i',q1,q2⟩:=he;have:=qxz.1 q1;obtain ⟨q3,q4⟩:=this;simp at q3 q4;subst q4;exact ⟨q3,q2.symm⟩
       have g2:∀ (G:Nat->AV) (j:Nat) (x:AV),((List.range us.length).map G)[j]?=some x->∃ ct,us[j]?=some ct/\x=G j:=by intro G j x hx;simp only [qWx,qyx] at hx;obtain ⟨j',q1,q2⟩:=hx;obtain ⟨q3,q4⟩:=qxz.1 q1;simp at q3 q4;subst q4;exact ⟨us[j],qqj q3,q2.symm⟩
       have l1:es.length=len:=by simp [es]
       have l2:es'.length=len:=by simp [es']
       refine ⟨.ro us.length es (decide (cap=len)),.ro us.length es' (decide (cap=len)),.slice us es _ ?_ ?_ ?_,.ro _ es es' _ _ ?_ (by rw [l1,l2]) id ?_ ?_,rfl,?_⟩
       ·rw [l1];simp only [maxLen] at hm;omega
       ·intro i e he;rw [(g1 i e he).2];simp
       ·intro i e j ct y he hct hy;obtain ⟨q1,rfl⟩:=g1 i e he;obtain ⟨ct',q2,rfl⟩:=g2 _ j y hy;rw [hct] at q2;cases q2;exact (hF (i,j) q1 ct hct).2.1
       ·intro e he y hy;obtain ⟨i,he⟩:=q0j he;obtain ⟨j,hy⟩:=q0j hy;obtain ⟨q1,rfl⟩:=g1 i e he;obtain ⟨ct',q2,rfl⟩:=g2 _ j y hy;exact (hF (i,j) q1 ct' q2).2.1.isC
       ·intro i e e' he he';rw [(g1 i e he).2,(g1' i e' he').2];simp
       ·intro i e e' j y y' he he' hy hy';obtain ⟨q1,rfl⟩:=g1 i e he;obtain ⟨_,rfl⟩:=g1' i e' he';obtain ⟨ct',q2,rfl⟩:=g2 _ j y hy;obtain ⟨_,_,rfl⟩:=g2 _ j y' hy';exact (hF (i,j) q1 ct' q2).2.2.1
       ·have:=VR.ro (ψ:=ψ) (w:=W) (S:=λc=>c < W.heap.size) (m:=λ_=>(0,0)) (A:=λ_=>False) us.length es' (decide (cap=len)) b off cap (λi j=>(F (i,j)).1) hS
         (λi e he=>by rw [(g1' i e he).2];simp) (by rw [l2];exact hl) (λq=>by rw [l2];simpa using q)
         (λi e j y he hy=>by obtain ⟨q1,rfl⟩:=g1' i e he;obtain ⟨ct',q2,rfl⟩:=g2 _ j y hy;have:=hF (i,j) q1 ct' q2;exact ⟨this.2.2.2.1,this.1⟩)
         (λi e j y he hy=>by obtain ⟨q1,rfl⟩:=g1' i e he;obtain ⟨ct',q2,rfl⟩:=g2 _ j y hy;exact (hF (i,j) q1 ct' q2).2.2.2.2)
        rw [l2] at this;exact this
    ·cases hf
   ·rename_i fs ht;simp only [qzj] at hf;obtain ⟨us,hu,hf⟩:=hf;split at hf
    ·rename_i hz;cases hf;obtain ⟨xs,n',hn,_,hcl,hxl,hx⟩:=DataW.trod_struct ht h;cases hn;refine ⟨by rw [hcl,hz],λj ct hj=>?_⟩;have:=Ry (cs:=cs) (F:=vC P k) (n:=n) (λt cs x ts h1 h2=>ih k t cs x ts h1 h2) fs.toList 0 _ hu (λf hf=>by
      obtain ⟨i,hi⟩:=q0j hf;have hi':fs[i]?=some f:=by simpa using hi
      have hlt:i < fs.size:=(qWq.1 hi').1;have:=hx i f hi';rw [qqj qqq] at this;exact ⟨_,this⟩) j ct hj
     simpa using this
    ·cases hf
   ·rename_i m' e ht;simp only [qzj] at hf;obtain ⟨us,hu,hf⟩:=hf;split at hf
    ·rename_i hz;obtain ⟨hz1,hz2⟩:=hz;cases hf;obtain ⟨xs,n',hn,hcl,hxl,hx⟩:=trod_array ht h;cases hn;have hlen:(List.replicate m' us).flatten.length=m' * us.length:=by simp
     refine ⟨by rw [hcl,hlen,hz2],λj ct hj=>?_⟩;have hjl:j < m' * us.length:=by rw [<- hlen];exact (qxz.1 hj).1
     have hk:0 < us.length:=by
      rcases Nat.eq_zero_or_pos us.length with q | q
      ·rw [q,Nat.mul_zero] at hjl;omega
      ·exact q
     rw [ER us m' j hjl] at hj;have hq:j / us.length < m':=q7q (by rw [q1x];exact hjl);have hxq:=hx (j / us.length) hq;rw [qqj qqq] at hxq;obtain ⟨v,q1,q2⟩:=(ih k e _ _ us hu hxq).2 (j % us.length) ct hj;refine ⟨v,?_,q2⟩;rw [qZj] at q1;split at q1
     ·rw [qKq,<- hz1] at q1;rw [<- q1];congr 1;exact (Nat.div_add_mod' j us.length).symm
     ·cases q1
    ·cases hf
   ·cases hf
inductive AT where
 | c (ct:CT)
 | g (ts:List CT)
def AT.has:AT->AV->Prop
 | .c ct,a=>Ty ct a
 | .g ts,a=>∃ es,a=.agg es/\es.length=ts.length/\∀ (j:Nat) (ct:CT) (x:AV),ts[j]?=some ct->es[j]?=some x->Ty ct x
def acQ (P:Program) (t:TypeId):Option AT :=
 match P.underlying t with
 | some (.struct _)=>(vC P 20 t).map .g
 | some (.array _ _)=>(vC P 20 t).map .g
 | some .bool | some (.int _) | some .string | some (.slice _)=>match vC P 20 t with | some [ct]=>some (.c ct) | _=>none
 | _=>none
theorem Sz {t:TypeId} {base:Nat} {v:Value} (hu:P.underlying t=some .bool\/(∃ k,P.underlying t=some (.int k))\/P.underlying t=some .string\/∃ e,P.underlying t=some (.slice e)) (h:Value.okWide P W .any base t v) :
 v.cells=#[v]:=by
 cases v <;> try rfl
 rcases hu with hu | ⟨k,hu⟩ | hu | ⟨e,hu⟩ <;> simp [Value.okWide,hu,Cell.okWide,Cell.ok] at h
theorem acX {t:TypeId} {at_:AT} (ha:acQ P t=some at_) {base:Nat} {v:Value} (hv:Value.okWide P W .any base t v) {d:DataW H} {p:List MemPlace} (h:DataW.Trod enc P W 0 (λ_=>true) true t v d p) :
 ∃ a a',at_.has a/\VD id (λ_=>False) a a'/\VR ψ W (λc=>c < W.heap.size) (λ_=>(0,0)) (λ_=>False) a' v:=by
 obtain ⟨fuel,h⟩:=h;have plain:(P.underlying t=some .bool\/(∃ k,P.underlying t=some (.int k))\/P.underlying t=some .string\/∃ e,P.underlying t=some (.slice e)) ->
  (match vC P 20 t with | some [ct]=>some (AT.c ct) | _=>none)=some at_->∃ a a',at_.has a/\VD id (λ_=>False) a a'/\VR ψ W (λc=>c < W.heap.size) (λ_=>(0,0)) (λ_=>False) a' v:=by
  intro hu he;split at he
  ·rename_i ct hf;cases he;rw [Sz hu hv] at h;obtain ⟨_,q⟩:=Jr (ψ:=ψ) _ _ _ _ _ _ hf h;obtain ⟨v',q1,a,a',q2,q3,_,q4⟩:=q 0 ct rfl;simp only [List.getElem?_cons_zero,qwx] at q1;subst q1;exact ⟨a,a',q2,q3,q4⟩
  ·cases he
 have whole:(∃ cs,v=.agg cs)->(vC P 20 t).map AT.g=some at_->∃ a a',at_.has a/\VD id (λ_=>False) a a'/\VR ψ W (λc=>c < W.heap.size) (λ_=>(0,0)) (λ_=>False) a' v:=by
  rintro ⟨cs,rfl⟩ ha;simp only [qyx] at ha;obtain ⟨ts,hf,rfl⟩:=ha;obtain ⟨hl,q⟩:=Jr (ψ:=ψ) _ _ _ _ _ _ hf h;simp only [Value.cells] at hl q;have key:∀ j:Nat,∃ x:AV × AV,∀ ct,ts[j]?=some ct->Ty ct x.1/\VD id (λ_=>False) x.1 x.2/\x.2.cell=true/\∃ v,cs.toList[j]?=some v/\VR ψ W (λc=>c < W.heap.size) (λ_=>(0,0)) (λ_=>False) x.2 v:=by
   intro j;cases hj:ts[j]? with
   | none=>exact ⟨default,λ_ q=>by cases q⟩
   | some ct =>obtain ⟨v,q1,a,a',q2,q3,q4,q5⟩:=q j ct hj;exact ⟨(a,a'),λct' e=>by cases e;exact ⟨q2,q3,q4,v,q1,q5⟩⟩
  obtain ⟨F,hF⟩:=zzj key;have g2:∀ (G:Nat->AV) (j:Nat) (x:AV),((List.range ts.length).map G)[j]?=some x->∃ ct,ts[j]?=some ct/\x=G j:=by intro G j x hx;simp only [qWx,qyx] at hx;obtain ⟨j',q1,q2⟩:=hx;obtain ⟨q3,q4⟩:=qxz.1 q1;simp at q3 q4;subst q4;exact ⟨ts[j],qqj q3,q2.symm⟩
  refine ⟨.agg ((List.range ts.length).map λj=>(F j).1),.agg ((List.range ts.length).map λj=>(F j).2),⟨_,rfl,by simp,?_⟩,.agg _ _ qqz ?_,.agg _ _ ?_ ?_ ?_⟩
  ·intro j ct x hct hx;obtain ⟨ct',q1,rfl⟩:=g2 _ j x hx;exact (hF j ct hct).1
  ·intro j x x' hx hx';obtain ⟨ct,q1,rfl⟩:=g2 _ j x hx;obtain ⟨_,_,rfl⟩:=g2 _ j x' hx';exact (hF j ct q1).2.1
  ·simp only [qQq,List.length_range];rw [<- hl];simp
  ·intro j x hx;obtain ⟨ct,q1,rfl⟩:=g2 _ j x hx;exact (hF j ct q1).2.2.1
  ·intro j x hx;obtain ⟨ct,q1,rfl⟩:=g2 _ j x hx;obtain ⟨v,q2,q3⟩:=(hF j ct q1).2.2.2;have e:cs[j]?=some v:=by simpa using q2
   rw [qxj,e];exact q3
 unfold acQ at ha;split at ha
 ·rename_i fs ht;simp only [Value.okWide,ht] at hv;obtain ⟨cs,hv,_,_⟩:=hv;exact whole ⟨cs,hv⟩ ha
 ·rename_i m e ht;simp only [Value.okWide,ht] at hv;obtain ⟨cs,hv,_,_⟩:=hv;exact whole ⟨cs,hv⟩ ha
 ·rename_i ht;exact plain (.inl ht) ha
 ·rename_i k ht;exact plain (.inr (.inl ⟨k,ht⟩)) ha
 ·rename_i ht;exact plain (.inr (.inr (.inl ht))) ha
 ·rename_i e ht;exact plain (.inr (.inr (.inr ⟨e,ht⟩))) ha
 ·cases ha
def Xx:List AT->List AV->Prop
 | [],[]=>True
 | a::r,x::s=>a.has x/\Xx r s
 | _,_=>False
theorem Kz {base:Nat}:∀ {ts:List TypeId} {ats:List AT} {vs:List Value} {ds:List (DataW H)} {p:List MemPlace},ts.map (acQ P)=ats.map some ->
 (∀ (j:Nat) (t:TypeId) (v:Value),ts[j]?=some t->vs[j]?=some v->Value.okWide P W .any base t v)->DataW.TrodAll enc P W 0 (λ_=>true) true ts vs ds p ->
 ∃ us us',Xx ats us/\bC (VD id λ_=>False) us us'/\us'.length=vs.length/\∀ (j:Nat) (x:AV) (v:Value),us'[j]?=some x->vs[j]?=some v->VR ψ W (λc=>c < W.heap.size) (λ_=>(0,0)) (λ_=>False) x v
 | [],[],vs,ds,p,_,_,h=>by obtain ⟨rfl,_,_⟩:=ChangeShapes.trodAll_nil h;exact ⟨[],[],trivial,⟨rfl,by simp⟩,rfl,by simp⟩
 | t::ts,at_::ats,_,_,_,hm,hv,h=>by
  obtain ⟨v,vs1,d,ds1,p1,q1,rfl,rfl,rfl,h1,h2⟩:=ChangeShapes.trodAll_cons h;simp only [qvz,q3x] at hm;obtain ⟨a,a',r1,r2,r3⟩:=acX (ψ:=ψ) hm.1 (hv 0 t v rfl rfl) h1;obtain ⟨us,us',s1,s2,s3,s4⟩:=Kz hm.2 (λj t v e1 e2=>hv (j+1) t v e1 e2) h2;refine ⟨a::us,a'::us',⟨r1,s1⟩,⟨by simp [s2.1],λj x x' e1 e2=>?_⟩,by simp [s3],λj x v' e1 e2=>?_⟩
  ·cases j with
   | zero=>cases e1;cases e2;exact r2
   | succ j=>exact s2.2 j x x' e1 e2
  ·cases j with
   | zero=>cases e1;cases e2;exact r3
   | succ j=>exact s4 j x v' e1 e2
 | [],_::_,_,_,_,hm,_,_=>by simp at hm
 | _::_,[],_,_,_,hm,_,_=>by simp at hm
theorem aaj {Φ:Nat->FuncId->Option Nat} {D:aH} (hL:Linked P Φ ψ (fK D)) (hok:uK D.fns=true) {f:Nat} {ts:List TypeId} {ats:List AT} (hts:ts.map (acQ P)=ats.map some)
 (core:∀ us,Xx ats us->FnW D f us=some (.bool true)) {base:Nat} {args:Array Value} {ds:List (DataW H)} {p:List MemPlace}
 (hv:∀ (j:Nat) (t:TypeId) (v:Value),ts[j]?=some t->args[j]?=some v->Value.okWide P W .any base t v) (hA:DataW.TrodAll enc P W 0 (λ_=>true) true ts args.toList ds p) :
 Calls P (ψ f) args W λe W'=>e=.returned (.bool true)/\(∀ c,c < W.heap.size->W'.heap[c]?=W.heap[c]?)/\W.heap.size<=W'.heap.size/\W'.os=W.os/\W'.output=W.output:=by
 obtain ⟨us,us',h1,h2,h3,h4⟩:=Kz (ψ:=ψ) hts (λj t v e1 e2=>hv j t v e1 (by simpa using e2)) hA;obtain ⟨n,hc⟩:=Ud.1 (core us h1);obtain ⟨v',hc',hvd⟩:=acA hok h2 hc;rw [hvd.fU] at hc';refine (acf hL hc' (w:=W) (S:=λc=>c < W.heap.size) (m:=λ_=>(0,0)) (cargs:=args) (λ_ h=>h) (by rw [h3];simp) λj x hx=>?_).mono ?_
 ·have hj:j < args.size:=by have:=(qxz.1 hx).1;rw [h3] at this;simpa using this
  rw [qxj,qiz hj];exact h4 j x _ hx (by simp [hj])
 ·rintro e W' ⟨cv,S',m',rfl,hr,q1,q2,q3,q4⟩;rw [hr.iD];exact ⟨rfl,q1,q2,q3,q4⟩
theorem EM {W':World} (hh:∀ c,c < W.heap.size->W'.heap[c]?=W.heap[c]?) {base:Nat} {sp:Nat->Bool} {held:Bool}:∀ {ts:List TypeId} {vs:List Value} {ds:List (DataW H)} {ps:List MemPlace},
 DataW.TrodAll enc P W base sp held ts vs ds ps->(∀ p ∈ ps,p.block < W.heap.size)->DataW.TrodAll enc P W' base sp held ts vs ds ps
 | [],[],[],_,h,_=>h
 | _::_,_::_,_::_,_,⟨p,q,⟨n,h1⟩,h2,e⟩,hs=>⟨p,q,⟨n,DataW.trod_carry n _ _ _ h1 λx hx=>by
  have hlt:=hs x (by rw [e];exact qlx _ hx);cases x with
  | cell b off=>simp only [World.sameAt,World.cell?];rw [hh b hlt]
  | map b=>exact hh b hlt⟩,EM hh h2 (λx hx=>hs x (by rw [e];exact quq _ hx)),e⟩
theorem keptBut_old {W':World} (hh:∀ c,c < W.heap.size->W'.heap[c]?=W.heap[c]?) (ho:W'.os=W.os) (hp:W'.output=W.output) (may:MemPlace->Prop):W.keptBut W' may:=by have h:=World.keptBut_refl W may;refine ⟨ho,hp,λi hi=>?_⟩;have:=h.2.2 i hi;rw [hh i hi];exact this
theorem abo {f:Func} {s:ChangeSpec} {fresh handsOn again:Bool} {W':World} {args:Array Value} {ds gs:List (DataW H)} {before:List MemPlace} {tb:TypeId}
 (kids:Kids P (· < P.types.size)) (full:∀ t e,t < P.types.size->P.underlying t=some (.slice e)->0 < P.cellsOf e)
 (hvars0:s.vars=[]) (hW:DataW.Whole enc P f.params.toList s.vars false W args.toList ds gs before) (hfn:s.fn H (ds++gs)={ results:=[.lit (.bool true)],args:=ds })
 (hps:∀ t ∈ f.params.toList,t < P.types.size) (hr:f.resultTypes=#[tb]) (htb:P.underlying tb=some .bool)
 (hh:∀ c,c < W.heap.size->W'.heap[c]?=W.heap[c]?) (_hsz:W.heap.size<=W'.heap.size) (ho:W'.os=W.os) (hp:W'.output=W.output) :
 s.post enc P f false fresh handsOn again W args (.bool true) W':=by
 have hlt:∀ p ∈ before,p.block < W.heap.size:=hW.lt;have hW':=hW;obtain ⟨p,q,hA,hV,rfl,hz,_⟩:=hW;rw [hvars0] at hV;obtain ⟨rfl,rfl⟩:=ChangeShapes.trodVars_none hV;simp only [qXz] at hlt hz hW' hfn;have hargs:∀ sp:Nat->Bool,(∀ x ∈ p,sp x.block=true)->DataW.TrodAll enc P W' 0 sp true f.params.toList args.toList ds p:=λsp hsp =>EM hh (DataW.TrodAll.respare kids full hps hA hsp) hlt;have hvars:∀ sp:Nat->Bool,DataW.TrodVars enc P W' sp s.vars [] []:=λsp=>by rw [hvars0];rfl
 have hres:∀ (b:Nat) (sp:Nat->Bool) (hd:Bool),DataW.TrodAll enc P W' b sp hd f.resultTypes.toList ((Value.bool true).resultList f.resultTypes.size) [.lit (.bool true)] []:=λb sp hd=>by rw [hr];exact ChangeShapes.trodAll_mk1 (RowKit.shut_bool htb true)
 have hok:∀ (j:Nat) (t:TypeId) (r:Value),f.resultTypes[j]?=some t->((Value.bool true).resultList f.resultTypes.size)[j]?=some r->Value.okWide P W' .any 0 t r :=RowKit.ok_one hr rfl (by simp [Value.okWide,htb,Cell.okWide,Cell.ok]);have hold:∀ x ∈ p,(λb=>decide (b < W.heap.size)) x.block=true:=λx hx=>by simpa using hlt x hx
 refine ⟨ds,[],p,[],p,[],hW',?_,?_,?_,keptBut_old hh ho hp _,λ_=>⟨hok,[.lit (.bool true)]++ds,[],([]++p)++[],⟨[]++p,[],?_,hvars _,rfl,?_,λh=>by cases h⟩,?_⟩⟩
 ·rw [qXz,hfn];exact hres _ _ _
 ·rw [qXz,hfn];exact hargs _ hold
 ·rw [qXz,hfn];exact hvars _
 ·exact ChangeShapes.trodAll_append (hargs _ λ_ _=>rfl) (hres _ _ _)
 ·intro b off hb;simp only [qJj,qXz] at hb;have:=hz b off hb;unfold World.frozen? at this |-;rw [hh b (hlt _ hb)];exact this
 ·intro x hx _;simpa using hx
theorem Eu {base:Nat} {sp:Nat->Bool} {held:Bool}:∀ {ts:List TypeId} {vs:List Value} {ds:List (DataW H)} {ps:List MemPlace},DataW.TrodAll enc P W base sp held ts vs ds ps->ds.length=ts.length
 | [],[],[],_,_=>rfl
 | _::_,_::_,_::_,_,⟨_,_,_,h2,_⟩=>by simp [Eu h2]
def isTrue:Option AV->Bool
 | some (.bool true)=>true
 | _=>false
theorem aaF {o:Option AV} (h:isTrue o=true):o=some (.bool true):=by
 unfold isTrue at h;split at h
 ·rfl
 ·cases h
end
end Go.Pw
end
section
namespace Go.Pw
open Go Go.Pav
theorem Nv {α:Type} {g:α->List AV} {Q:List AV->Prop} {R:α->Prop} (h:∀ a,Q a->∃ x,a=g x/\R x):∀ (xs:List (List AV)),(∀ x ∈ xs,Q x)->∃ ys:List α,xs=ys.map g/\∀ y ∈ ys,R y:=by
 intro xs;induction xs with
 | nil=>intro _;exact ⟨[],rfl,by simp⟩
 | cons a r ih =>intro hx;obtain ⟨y,rfl,hy⟩:=h a (hx a qqz);obtain ⟨ys,rfl,hys⟩:=ih λx q=>hx x (by simp [q]);exact ⟨y::ys,rfl,by simpa using ⟨hy,hys⟩⟩
theorem Ip {ts:List CT} {a:AV} (h:Ty (.slice ts) a):∃ (es:List (List AV)) (e:Bool),a=.ro ts.length es e/\es.length < 2 ^ 63/\∀ x ∈ es,x.length=ts.length/\∀ (j:Nat) (ct:CT) (v:AV),ts[j]?=some ct->x[j]?=some v->Ty ct v:=by
 cases h with
 | slice ts es ex hn hw h =>refine ⟨es,ex,rfl,hn,λx hx=>?_⟩;obtain ⟨i,hi⟩:=q0j hx;exact ⟨hw i x hi,λj ct v e1 e2=>h i x j ct v hi e1 e2⟩
theorem wo {v:AV} (h:Ty (.int .u8) v):∃ n:Int,v=.int .u8 n/\0<=n/\n<=255:=by
 cases h with
 | int k n h1 h2=>exact ⟨n,rfl,h1,h2⟩
end Go.Pw
end
section
namespace Go.Proofs.YtlkfpgggbjlfgaaGreat
open Go.ChangeShapes Go.WideShapes Go.ChangeAt Go.RowKit Go.Pav Go.Pw P
theorem ati:ownKnob Tryz.prog.godebug=none:=by kernel_rfl
theorem anK:Kids Tryz.prog (· < Tryz.prog.types.size):=kids_rows (by kernel_rfl) (by kernel_rfl)
theorem aph:∀ t e,t < Tryz.prog.types.size->Tryz.prog.underlying t=some (.slice e)->0 < Tryz.prog.cellsOf e:=slices_full_of Tryz.prog (by kernel_rfl)
end Go.Proofs.YtlkfpgggbjlfgaaGreat
end
section
namespace Go.D
open Go Go.Pav Go.Pw P
attribute [-simp] List.getElem_cons_drop
variable {C:aH}
structure It where
 (k t:Int) (x:List UInt8) (m:List (List UInt8)) (e:Bool)
abbrev eIt (i:It):AV:=.agg [.int .u64 i.k,.int .u8 i.t,.str i.x,.ro 1 (i.m.map eS) i.e]
structure TR (C:aH):Prop extends pO C where
 alB:C.fns.get 398=some WC
 alh:C.fns.get 424=some RF
 akT:C.fns.get 494=some acG
 aij:C.fns.get 496=some WQ
 amW:C.fns.get 497=some ac9
 alJ:C.fns.get 498=some adR
 aky:C.fns.get 499=some ai8
 alY:C.fns.get 544=some ahn
theorem Z5 (H:pO C) (s:List UInt8) (hl:s.length<=16):∀ n i,n+i=s.length ->
 Gu C ⟨[(3,.int .i64 i),(0,.str s)],[],0⟩=some (.int .i64 (if (s.drop i).all inN=true then 1 else 0)):=by
 intro n;induction n with
 | zero =>
  intro i hi;simp only [Gu];rw [aj Df.eq_1];have h1:s.drop i=[]:=qwj qqq;have h3:¬ i < s.length:=by omega
  simp [aj NP.eq_1,h1,h3]
 | succ n ih =>
  intro i hi;have h1:i < s.length:=by omega
  have:=ih (i+1) qqq;simp only [Gu] at this |-;rw [aj Df.eq_1];rw [drop_cons h1];generalize hX:((s.drop (i+1)).all inN)=X at *;simp at this;rw [qdz,hX];have key:=Ee s[i];by_cases q1:97<=s[i].toNat <;> by_cases q2:s[i].toNat<=122 <;> by_cases q3:48<=s[i].toNat <;> by_cases q4:s[i].toNat<=57 <;> first
   | (exfalso;omega)
   | (
    have c:inN s[i]=true:=by rcases key with ⟨c,_⟩ | ⟨_,q⟩ <;> first | exact c | (exfalso;omega)
    simp (disch:=omega) [h1,aC,c,q1,q2,q3,q4,this];done)
   | (
    have c:inN s[i]=false:=by rcases key with ⟨_,q⟩ | ⟨c,_⟩ <;> first | exact c | (exfalso;omega)
    simp (disch:=omega) [h1,aC,c,q1,q2,q3,q4];done)
theorem agC (H:pO C) (s:List UInt8):FnW C 511 [.str s]=some (.int .i64 (if isName s=true then 1 else 0)):=by
 rw [aF H.akn rfl];unfold isName;by_cases c1:1<=s.length
 ·by_cases c2:s.length<=16
  ·have:=Z5 H s c2 s.length 0 qqz;simp only [Gu] at this;simp only [qjq] at this;generalize hX:s.all inN=X at *;simp at this;have c3:¬ ((s.length:Int) < 1):=by omega
   have c4:¬ (16 < (s.length:Int)):=by omega
   simp [ZY,c1,c2,c3,c4,this]
  ·have c3:¬ ((s.length:Int) < 1):=by omega
   have c4:(16 < (s.length:Int)):=by omega
   simp [ZY,c1,c2,c3,c4]
 ·have c3:((s.length:Int) < 1):=by omega
  simp [ZY,c1,c3]
theorem aiH (H:TR C):Pred C 496 inT where
 asc b hb:=by
  rw [aF H.aij rfl];by_cases c1:32<=b.toNat <;> by_cases c2:126 < b.toNat
  ·have c:inT b=false:=qJz (λq=>by omega);simp [WQ,c,c1,c2]
  ·have c:inT b=true:=qVj ⟨c1,by omega⟩;simp [WQ,c,c1,c2]
  ·omega
  ·have c:inT b=false:=qJz (λq=>c1 q.1);simp [WQ,c,c1,c2]
 high r hr:=by
  rw [aF H.aij rfl];have h1:32<=r:=by omega
  have h2:126 < r:=by omega
  simp [WQ,h1,h2]
 qh b hb:=qJz (λq=>by omega)
 ne:=by rfl
 ni:=by rfl
structure XG (C:aH) (g:Nat) (Q:List UInt8->Bool):Prop where
 ok:∀ s,FnW C g [.str s]=some (.bool (!Q s))
 ne:ppB g=false
 ni:ak g=false
theorem Tq (H:TR C) {g:Nat} {Q:List UInt8->Bool} (G:XG C g Q) (l:List (List UInt8)) (e:Bool) (hl:l.length<=1000000):∀ n i,n+i=l.length ->
 ∃ v:Int,Bq C ⟨[(8,.int .i64 i),(7,.int .i64 l.length),(1,.fn g []),(0,.ro 1 (l.map eS) e)],[],0⟩=some (.int .i64 v)/\decide (v < 0)=(l.drop i).all Q:=by
 intro n;induction n with
 | zero =>
  intro i hi;simp only [Bq];rw [aj xg.eq_1];have h1:l.drop i=[]:=qwj qqq;have h3:¬ i < l.length:=by omega
  exact ⟨-1,by simp [aj PW.eq_1,h3],by simp [h1]⟩
 | succ n ih =>
  intro i hi;have h1:i < l.length:=by omega
  have hN:=G.ne;have hI:=G.ni;have hb:=G.ok l[i];rw [drop_cons h1];by_cases c:Q l[i]=true
  ·obtain ⟨v,hv,hq⟩:=ih (i+1) qqq;refine ⟨v,?_,by simp [hq,c]⟩;simp only [Bq] at hv |-;rw [aj xg.eq_1];simp at hv;simp (disch:=omega) [h1,aC,hb,c,H.inl,hI,H.pp,hN,hv]
  ·refine ⟨i,?_,by simp [c]⟩;simp only [Bq];rw [aj xg.eq_1];simp (disch:=omega) [h1,hb,c,H.inl,hI,H.pp,hN]
theorem Aa (H:TR C) {g:Nat} {Q:List UInt8->Bool} (G:XG C g Q) (l:List (List UInt8)) (e:Bool) (hl:l.length<=1000000) :
 FnW C 498 [.ro 1 (l.map eS) e,.fn g []]=some (.bool (!l.all Q)):=by
 obtain ⟨v,h,q⟩:=Tq H G l e hl l.length 0 qqz;simp at q;have h2:FnW C 544 [.ro 1 (l.map eS) e,.fn g []]=some (.int .i64 v):=by rw [aF H.alY rfl];simp only [Bq] at h;simp at h;simp [ahn,h]
 rw [aF H.alJ rfl];have q':decide (v < 0)=l.all Q:=by simpa using q
 rw [<- q'];by_cases c:v < 0
 ·have c':¬ 0<=v:=by omega
  simp [adR,H.inl,ak,H.pp,ppB,h2,c,c']
 ·have c':0<=v:=by omega
  simp [adR,H.inl,ak,H.pp,ppB,h2,c,c']
theorem aif (H:TR C):XG C 499 isName where
 ok s:=by have:=adf H.topO s;rw [aF H.aky rfl];simp [ai8,H.inl,ak,H.pp,ppB,this]
 ne:=by rfl
 ni:=by rfl
def fM (n:Int) (i:It):Bool:=decide (i.k≠0)&&decide (i.t < n)&&isText i.x&&(decide (i.m.length<=8)&&i.m.all isName)
theorem yG (H:TR C) (i:It) (n:Int) (ht:0<=i.t/\i.t<=255):FnW C 398 [eIt i,.int .i64 n]=some (.int .i64 (if fM n i=true then 0 else 6)):=by
 have h1:FnW C 494 [.rop [.int .u64 i.k,.int .u8 i.t,.str i.x,.ro 1 (i.m.map eS) i.e]]=some (.bool (isText i.x)):=by
  have:=EG H.topO (aiH H) i.x;rw [aF H.akT rfl];unfold isText;by_cases c2:i.x.length<=64
  ·have c4:(i.x.length:Int)<=64:=by omega
   simp [acG,c2,c4,H.inl,ak,H.pp,ppB,this]
  ·have c4:¬ ((i.x.length:Int)<=64):=by omega
   simp [acG,c2,c4]
 have h2:FnW C 497 [.rop [.int .u64 i.k,.int .u8 i.t,.str i.x,.ro 1 (i.m.map eS) i.e]]=some (.bool (decide (i.m.length<=8)&&i.m.all isName)):=by
  rw [aF H.amW rfl];by_cases c2:i.m.length<=8
  ·have:=Aa H (aif H) i.m i.e qqq;have c4:(i.m.length:Int)<=8:=by omega
   simp [ac9,c2,c4,H.inl,ak,H.pp,ppB,this]
  ·have c4:¬ ((i.m.length:Int)<=8):=by omega
   simp [ac9,c2,c4]
 rw [aF H.alB rfl];unfold fM;generalize isText i.x=X at *;generalize (decide (i.m.length<=8)&&i.m.all isName)=M at *;by_cases c1:i.k=0
 ·simp [WC,c1]
 ·by_cases c2:n<=i.t
  ·have c3:¬ i.t < n:=by omega
   simp (disch:=omega) [WC,c1,c2,c3,aC]
  ·have c3:i.t < n:=by omega
   cases X
   ·simp (disch:=omega) [WC,c1,c2,c3,aC,H.inl,ak,H.pp,ppB,h1]
   ·cases M <;> simp (disch:=omega) [WC,c1,c2,c3,aC,H.inl,ak,H.pp,ppB,h1,h2]
theorem Rx (H:TR C) (k t:Int) (x:List UInt8) (m:List (List UInt8)) (e:Bool) (hl:m.length<=1000000):∀ n i,n+i=m.length->∀ ok:Bool,
 FX C ⟨[(6,.int .i64 i),(5,.int .i64 (if ok=true then 1 else 0)),(2,.ptr 0 0 0)],[(0,.cells 4 [[.int .u64 k,.int .u8 t,.str x,.ro 1 (m.map eS) e]] true true)],1⟩ =
  some (.int .i64 (if (ok&&(m.drop i).all isName)=true then 0 else 6)):=by
 intro n;induction n with
 | zero =>
  intro i hi ok;simp only [FX];rw [aj Cb.eq_1];have h1:m.drop i=[]:=qwj qqq;have h3:¬ i < m.length:=by omega
  cases ok <;> simp [aj Oc.eq_1,h1,h3]
 | succ n ih =>
  intro i hi ok;have h1:i < m.length:=by omega
  have:=ih (i+1) qqq (ok&&isName m[i]);have hb:=agC H.topO m[i];rw [drop_cons h1];generalize hX:(m.drop (i+1)).all isName=X at *;rw [qdz,hX];simp only [FX] at this |-;rw [aj Cb.eq_1];cases ok <;> cases hn:isName m[i] <;> rw [hn] at this hb <;> simp at this hb <;> simp (disch:=omega) [h1,aC,hb,H.inl,ak,H.pp,ppB,this]
theorem aad (H:TR C) (i:It) (n:Int) (ht:0<=i.t/\i.t<=255) (hl:i.m.length<=1000000):FnW C 424 [eIt i,.int .i64 n]=some (.int .i64 (if fM n i=true then 0 else 6)):=by
 have hw:=abG H.topO i.x;have hA:=Rx H i.k i.t i.x i.m i.e hl i.m.length 0 qqz;have h0:=hA false;have h1:=hA true;rw [aF H.alh rfl];unfold fM;simp only [qjq,qsz,qYj] at h0 h1;generalize i.m.all isName=M at *;generalize isText i.x=X at *;simp only [FX] at h0 h1;simp at h0 h1;by_cases c1:i.k=0
 ·simp [RF,qZx c1,H.inl,ak,H.pp,ppB,hw,h0]
 ·by_cases c2:n<=i.t
  ·have c3:¬ i.t < n:=by omega
   simp (disch:=omega) [RF,c1,c2,c3,aC,H.inl,ak,H.pp,ppB,hw,h0]
  ·have c3:i.t < n:=by omega
   by_cases c4:i.m.length<=8
   ·have c5:¬ (8 < (i.m.length:Int)):=by omega
    cases X
    ·simp (disch:=omega) [RF,c1,c2,c3,c4,c5,aC,H.inl,ak,H.pp,ppB,hw,h0]
    ·simp (disch:=omega) [RF,c1,c2,c3,c4,c5,aC,H.inl,ak,H.pp,ppB,hw,h1]
   ·have c5:(8 < (i.m.length:Int)):=by omega
    simp (disch:=omega) [RF,c1,c2,c3,c4,c5,aC,H.inl,ak,H.pp,ppB,hw,h0]
end Go.D
end
