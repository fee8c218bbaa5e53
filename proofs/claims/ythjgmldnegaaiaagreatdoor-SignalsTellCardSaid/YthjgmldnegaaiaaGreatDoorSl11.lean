/- Lemmas for the proof. No condition. -/
import Derived.Test.YthjgmldnegaaiaaGreatDoorSl10
set_option linter.unusedVariables false
set_option linter.unusedSimpArgs false
namespace Go.Proofs.YthjgmldnegaaiaaGreatDoor.Mir
open Go Go.RowKit
def q0a:SCode :=
  (jq ([.a 2 (.box 123 (.t 0)),.a 4 (.mv kF)]) (.seq (jq ([jk 5 0]) (.block 0 (.loop (.seq (jq ([jm 6 5,jo 7 0 2,jl 8 7,je 9 8,jB 10 .lss 6 9]) (jc
 10 .skip (.exit 0))) (.seq (.block 1 (jq ((ap [jo 13 0 2,jl 14 13,jm 15 5,jx 16 1 14 15,jl 17 16,jm 18 1,je 19 18,jB 20 .geq 17 19] (ap [jm 21
 20,gM 22 1 21 false] [gO 23 0 2 21 false,gL 24 23 21 false,gM 25 5 21 false,jG 26 (.idx 1 (.t 24) (.t 25)) 21 false,gL 27 26 21 false,jG 28 (.idx
 1 (.t 22) (.t 27)) 21 false,gL 29 28 21 false,jG 30 (.unot (.t 29)) 21 false,.a 31 (.pick (.t 21) kT (.t 30))]))) (jc 31 (jq ([.a 4 (.mv kF)]) .ret)
 .skip))) (.ops [jm 11 5,jb 12 .add 11 1,jm 5 12])))))) (jq ([.a 4 (.mv kT)]) .ret)))
theorem x0Q:Fn Tryz.prog 163 32 [.t 4] q0a:=.of Tryz.func163 (by kernel_rfl)
def j0Z:SCode :=
  (jq ([.a 2 (.mv kN)]) (jq ([jm 7 0,je 8 7,.a 9 (.mkslice 4 1 1 [(.v (.bool false))] (.t 8) (.t 8)),jm 3 9]) (jq ([.a 4 (.mv kN)]) (.seq (jq ([.a 5
 (.mv kT)]) (.block 0 (.loop (.seq (jq ([jm 10 5]) (jc 10 .skip (.exit 0))) (.block 1 (jq ([.a 5 (.mv kF)]) (jq ([jk 6 0]) (.block 2 (.loop (.seq (jq
 ((ap [jm 11 6,jm 12 0,je 13 12,jB 14 .lss 11 13] (ap [jm 15 14,gM 16 5 15 true] [jG 17 (.unot (.t 16)) 15 true,.a 18 (.pick (.t 15) (.t 17)
 kF)]))) (jc 18 .skip (.exit 2))) (.seq (.block 3 (jq ((ap [jm 21 3,jm 22 6,jx 23 1 21 22,jl 24 23,.a 25 (.unot (.t 24)),jm 26 25,gM 27 0 26 true]
 (ap [gM 28 6 26 true,jG 29 (.idx 3 (.t 27) (.t 28)) 26 true,jG 30 (.loadA 3 (.t 29)) 26 true,gM 31 3 26 true,jG 32 (.call (kC 163) [(.t 30),(.t
 31)]) 26 true] [.a 33 (.pick (.t 26) (.t 32) kF)]))) (jc 33 (jq ([jm 34 3,jm 35 6,jx 36 1 34 35,.n (.store 1 (.t 36) kT)]) (jq ((ap [jm 37 4,jm 38
 6,.a 39 (.bsl 3 1 1 [jI] [(0,(.t 38))]),.a 40 (.app 3 1 8 (.t 37) (.t 39))] [jm 4 40])) (.ops [.a 5 (.mv kT)]))) .skip))) (.ops [jm 19 6,jb 20 .add
 19 1,jm 6 20])))))))))))) (jq ([jm 41 4,jm 2 41]) .ret)))))
theorem r0Q:Fn Tryz.prog 146 42 [.t 2] j0Z:=.of Tryz.func146 (by kernel_rfl)
def i0e:SCode :=
  (jq ([jk 2 0]) (.seq (jq ((ap [jm 6 0,je 7 6,jb 8 .lss 7 1] (ap [jm 9 8,gM 10 0 9 false] (ap [jG 11 (.slen (.t 10)) 9 false,jG 12 (.bin .gtr (.t
 11) (kI 8)) 9 false] [.a 13 (.pick (.t 9) kT (.t 12))])))) (jc 13 (jq ([jk 2 1]) .ret) .skip)) (.seq (jq ([jk 3 0]) (.block 0 (.loop (.seq (jq ([jm 14
 3,jm 15 0,je 16 15,jB 17 .lss 14 16]) (jc 17 .skip (.exit 0))) (.seq (.block 1 (jq ([jm 20 0,jm 21 3,jx 22 3 20 21,jL 23 3 22,.a 4 (.alloc 123
 [jN,jI,jI]),.n (.store 3 (.t 4) (.t 23))]) (.seq (jq ((ap [jo 24 1 4,jl 25 24,jb 26 .lss 25 1] (ap [jm 27 26,gO 28 1 4 27 false] (ap [gL 29 28 27
 false,jG 30 (.bin .gtr (.t 29) (kI 5)) 27 false] (ap [.a 31 (.pick (.t 27) kT (.t 30)),jm 32 31,gO 33 2 4 32 false] (ap [gL 34 33 32 false,jG 35
 (.bin .lss (.t 34) (kI 1)) 32 false] (ap [.a 36 (.pick (.t 32) kT (.t 35)),jm 37 36,gO 38 2 4 37 false] (ap [gL 39 38 37 false,jG 40 (.bin .gtr (.t
 39) (kI 1048576)) 37 false] [.a 41 (.pick (.t 37) kT (.t 40))])))))))) (jc 41 (jq ([jk 2 1]) .ret) .skip)) (jq ([jk 5 0]) (.block 2 (.loop (.seq (jq
 ([jm 42 5,jo 43 0 4,jl 44 43,je 45 44,jB 46 .lss 42 45]) (jc 46 .skip (.exit 2))) (.seq (.block 3 (.seq (.drw [jo 49 0 4,jl 50 49,jm 51 5,jx 52
 1 50 51,jl 53 52,jb 54 .lss 53 0,jm 55 54,gO 56 0 4 55 false,gL 57 56 55 false,gM 58 5 55 false,jG 59 (.idx 1 (.t 57) (.t 58)) 55 false,gL 60
 59 55 false,gM 61 0 55 false,jG 62 (.slen (.t 61)) 55 false,jG 63 (.bin .geq (.t 60) (.t 62)) 55 false,.a 64 (.pick (.t 55) kT (.t 63)),jm 65 64,
 gM 66 5 65 false,jG 67 (.bin .gtr (.t 66) (kI 0)) 65 false,gM 68 67 65 false,gO 69 0 4 68 true,gL 70 69 68 true,gM 71 5 68 true,jG 72 (.idx 1 (.t
 70) (.t 71)) 68 true,gL 73 72 68 true,gO 74 0 4 68 true,gL 75 74 68 true,gM 76 5 68 true,jG 77 (.bin .sub (.t 76) (kI 1)) 68 true,jG 78 (.idx 1
 (.t 75) (.t 77)) 68 true,gL 79 78 68 true,jG 80 (.bin .leq (.t 73) (.t 79)) 68 true,jG 81 (.pick (.t 68) (.t 80) kF) 65 false,.a 82 (.pick (.t 65)
 kT (.t 81))] [0,1,0,7,15,31,63,127,255,127,1023,2047,127,4223,16383,32767,65535,131071,262143,524287,1048575,2097151,1048575,
 8388607,16777215,1048575,34603007,1048575,135266303,504365055,1041235967,2147483647,4294967295,8589934591]) (jc 82 (jq ([jk 2 1]) .ret)
 .skip))) (.ops [jm 47 5,jb 48 .add 47 1,jm 5 48]))))))))) (.ops [jm 18 3,jb 19 .add 18 1,jm 3 19])))))) (.seq (jq ((ap [jm 83 0,.a 84 (.call (kC
 146) [(.t 83)])] [je 85 84,jm 86 0,je 87 86,jB 88 .lss 85 87])) (jc 88 (jq ([jk 2 9]) .ret) .skip)) (jq ([jk 2 0]) .ret)))))
theorem p0o:Fn Tryz.prog 104 89 [.t 2] i0e:=.of Tryz.func104 (by kernel_rfl)
def i0O:SCode :=
  (jq ([.a 4 (.mv kN)]) (jq ([.a 5 (.mv kN)]) (.seq (jq ([jk 6 0]) (.block 0 (.loop (.seq (jq ([jm 7 6,jm 8 0,je 9 8,jB 10 .lss 7 9]) (jc 10 .skip
 (.exit 0))) (.seq (.block 1 (jq ((ap [jm 13 6,jm 14 1,je 15 14,jB 16 .geq 13 15] (ap [jm 17 16,gM 18 1 17 false] (ap [gM 19 6 17 false,jG 20 (.idx
 1 (.t 18) (.t 19)) 17 false,gL 21 20 17 false,jG 22 (.unot (.t 21)) 17 false,.a 23 (.pick (.t 17) kT (.t 22)),jm 24 23,gM 25 0 24 true] (ap [gM 26
 6 24 true,jG 27 (.idx 3 (.t 25) (.t 26)) 24 true,jG 28 (.loadA 3 (.t 27)) 24 true,gM 29 1 24 true,jG 30 (.call (kC 163) [(.t 28),(.t 29)]) 24
 true] [.a 31 (.pick (.t 24) (.t 30) kF)]))))) (jc 31 (.ops (ap [jm 32 5,jm 33 6,.a 34 (.bsl 3 1 1 [jI] [(0,(.t 33))]),.a 35 (.app 3 1 8 (.t 32) (.t
 34))] [jm 5 35])) .skip))) (.ops [jm 11 6,jb 12 .add 11 1,jm 6 12])))))) (jq ([jm 36 5,jm 4 36]) .ret))))
theorem o0d:Fn Tryz.prog 164 37 [.t 4] i0O:=.of Tryz.func164 (by kernel_rfl)
def c0L:SCode :=
  (jq ([.a 1 (.box 65 (.t 0)),.a 2 (.mv kN)]) (.seq (jq ((ap [jo 8 3 1,jl 9 8,jb 10 .neq 9 0] (ap [jm 11 10,gO 12 4 1 11 false] [gL 13 12 11 false,
 .a 14 (.pick (.t 11) kT (.t 13))]))) (jc 14 (jq ([.a 2 (.mv kN)]) .ret) .skip)) (jq ([.a 3 (.mv kN)]) (.seq (jq ([jk 4 0]) (.block 0 (.loop (.seq (jq
 ([jm 15 4,jo 16 6 1,jl 17 16,je 18 17,jB 19 .lss 15 18]) (jc 19 .skip (.exit 0))) (.seq (.block 1 (.ops (ap [jm 22 3,jo 23 6 1,jl 24 23,jm 25 4,
 jx 26 4 24 25,jo 27 0 26,jl 28 27,jb 29 .eql 28 2] (ap [.a 30 (.bsl 4 1 1 [jF] [(0,(.t 29))]),.a 31 (.app 4 1 1 (.t 22) (.t 30))] [jm 3 31]))))
 (.ops [jm 20 4,jb 21 .add 20 1,jm 4 21])))))) (jq ([.a 5 (.mv kN)]) (jq ((ap [jo 32 5 1,jl 33 32,jm 34 3,.a 35 (.call (kC 164) [(.t 33),(.t
 34)])] [jm 6 35])) (.seq (jq ([jk 7 0]) (.block 2 (.loop (.seq (jq ([jm 36 7,jm 37 6,je 38 37,jB 39 .lss 36 38]) (jc 39 .skip (.exit 2))) (.seq
 (.block 3 (.seq (.drw [jo 42 6 1,jl 43 42,jm 44 6,jm 45 7,jx 46 1 44 45,jl 47 46,jx 48 4 43 47,jo 49 0 48,jl 50 49,jb 51 .eql 50 0] [0,1,0,
 0,12,28,63,127,255,511]) (jc 51 (.ops (ap [jm 52 5,jm 53 6,jm 54 7,jx 55 1 53 54,jl 56 55,.a 57 (.bsl 3 1 1 [jI] [(0,(.t 56))]),.a 58
 (.app 3 1 8 (.t 52) (.t 57))] [jm 5 58])) .skip))) (.ops [jm 40 7,jb 41 .add 40 1,jm 7 41])))))) (jq ([jm 59 5,jm 2 59]) .ret))))))))
theorem d0A:Fn Tryz.prog 147 60 [.t 2] c0L:=.of Tryz.func147 (by kernel_rfl)
def i0l:SCode :=
  (jq ([.a 2 (.box 65 (.t 0)),jk 4 0]) (jq ([jk 5 0]) (.seq (jq ([jk 6 0]) (.block 0 (.loop (.seq (jq ([jm 7 6,jo 8 6 2,jl 9 8,je 10 9,jB 11 .lss 7
 10]) (jc 11 .skip (.exit 0))) (.seq (.block 1 (jq ([jo 14 6 2,jl 15 14,jm 16 6,jx 17 4 15 16,jo 18 0 17,jl 19 18,jm 20 1,jB 21 .eql 19 20]) (jc
 21 (.ops [jm 22 5,jb 23 .add 22 1,jm 5 23]) .skip))) (.ops [jm 12 6,jb 13 .add 12 1,jm 6 13])))))) (jq ([jm 24 5,jm 4 24]) .ret))))
theorem q0t:Fn Tryz.prog 107 25 [.t 4] i0l:=.of Tryz.func107 (by kernel_rfl)
def g0b:SCode :=
  (jq ([.a 1 (.box 65 (.t 0)),jk 2 0]) (.seq (.block 0 (jq ((ap [jo 4 3 1,jl 5 4,jb 6 .neq 5 0] (ap [jm 7 6,gO 8 5 1 7 false] (ap [gL 9 8 7 false,jG
 10 (.slen (.t 9)) 7 false,jG 11 (.bin .eql (.t 10) (kI 0)) 7 false] [.a 12 (.pick (.t 7) kT (.t 11)),jm 3 12])))) (jc 3 (jq ([jk 2 0]) .ret) (jq ((ap
 [jo 14 4 1,jl 15 14,jm 16 15,jG 17 (.loadA 9 (.t 1)) 16 true] (ap [jG 18 (.call (kC 107) [(.t 17),(kI 1)]) 16 true] (ap [jG 19 (.bin .eql (.t 18)
 (kI 0)) 16 true] [.a 20 (.pick (.t 16) (.t 19) kF),jm 13 20])))) (jc 13 (jq ([jk 2 11]) .ret) (jq ((ap [jL 22 9 1,.a 23 (.call (kC 107) [(.t 22),(kI
 3)])] (ap [jb 24 .gtr 23 0] [jm 21 24]))) (jc 21 (jq ([jk 2 10]) .ret) (.seq (.drw [jL 26 9 1,.a 27 (.call (kC 107) [(.t 26),(kI 2)]),jo 28 6 1,jl
 29 28,je 30 29,jB 31 .eql 27 30,jm 25 31] [0,1,0,4,12,31,63]) (jc 25 (jq ([jk 2 9]) .ret) .skip))))))))) (jq ([jk 2 0]) .ret)))
theorem n0g:Fn Tryz.prog 157 32 [.t 2] g0b:=.of Tryz.func157 (by kernel_rfl)
def p0C:SCode :=
  (jq ([.a 2 (.box 65 (.t 0)),.a 4 (.mv kF)]) (.seq (jq ([jk 5 0]) (.block 0 (.loop (.seq (jq ([jm 6 5,jo 7 8 2,jl 8 7,je 9 8,jB 10 .lss 6 9]) (jc
 10 .skip (.exit 0))) (.seq (.block 1 (jq ([jo 13 8 2,jl 14 13,jm 15 5,jx 16 3 14 15,jo 17 0 16,jl 18 17,jm 19 1,jB 20 .eql 18 19]) (jc 20 (jq
 ([.a 4 (.mv kT)]) .ret) .skip))) (.ops [jm 11 5,jb 12 .add 11 1,jm 5 12])))))) (jq ([.a 4 (.mv kF)]) .ret)))
theorem w0z:Fn Tryz.prog 30 21 [.t 4] p0C:=.of Tryz.func30 (by kernel_rfl)
def j0M:SCode :=
  (jq ([.a 2 (.box 65 (.t 0)),jk 4 0]) (.seq (jq ([jk 5 0]) (.block 0 (.loop (.seq (jq ([jm 6 5,jo 7 7 2,jl 8 7,je 9 8,jB 10 .lss 6 9]) (jc 10 .skip
 (.exit 0))) (.seq (.block 1 (jq ([jo 13 7 2,jl 14 13,jm 15 5,jx 16 3 14 15,jo 17 0 16,jl 18 17,jm 19 1,jB 20 .eql 18 19]) (jc 20 (jq ([jm 21 5,
 jm 4 21]) .ret) .skip))) (.ops [jm 11 5,jb 12 .add 11 1,jm 5 12])))))) (jq ([.a 4 (.mv (kI (-1)))]) .ret)))
theorem q0S:Fn Tryz.prog 148 22 [.t 4] j0M:=.of Tryz.func148 (by kernel_rfl)
def i0i:SCode :=
  (jq ([.a 2 (.box 65 (.t 0)),.a 3 (.box 73 (.t 1)),.a 4 (.alloc 65 [jI,jI,jI,jI,jF,jN,jN,jN,jN]),jk 5 0]) (jq ([.a 8 (.bld [jI,jI,jI,jI,
 jF,jN,jN,jN,jN] []),.a 6 (.alloc 65 [jI,jI,jI,jI,jF,jN,jN,jN,jN]),.n (.store 9 (.t 6) (.t 8))]) (.seq (jq ((ap [jL 9 9 3,.a 10 (.call
 (kC 103) [(.t 9)])] (ap [.a 11 (.unot (.t 10)),jm 12 11,gO 13 0 3 12 false] (ap [gL 14 13 12 false,gO 15 0 2 12 false,gL 16 15 12 false,jG 17
 (.bin .add (.t 16) (kI 1)) 12 false,jG 18 (.bin .neq (.t 14) (.t 17)) 12 false] (ap [.a 19 (.pick (.t 12) kT (.t 18)),jm 20 19,gO 21 1 3 20 false]
 (ap [gL 22 21 20 false,gO 23 1 2 20 false,gL 24 23 20 false,jG 25 (.bin .lss (.t 22) (.t 24)) 20 false] (ap [.a 26 (.pick (.t 20) kT (.t 25)),jm 27
 26,gO 28 2 3 27 false] (ap [gL 29 28 27 false,gO 30 2 2 27 false,gL 31 30 27 false,jG 32 (.bin .lss (.t 29) (.t 31)) 27 false] [.a 33 (.pick (.t
 27) kT (.t 32))])))))))) (jc 33 (jq ([jL 34 9 6,.n (.store 9 (.t 4) (.t 34)),jk 5 1]) .ret) .skip)) (.seq (jq ([jo 35 3 2,jl 36 35,jb 37 .neq 36
 0]) (jc 37 (jq ([jL 38 9 6,.n (.store 9 (.t 4) (.t 38)),jk 5 12]) .ret) .skip)) (.seq (jq ((ap [jo 39 0 2,jl 40 39,jb 41 .eql 40 0] (ap [jo 42 3 3,
 jl 43 42,jb 44 .eql 43 1] [.a 45 (.binb .neq (.t 41) (.t 44))]))) (jc 45 (jq ([jL 46 9 6,.n (.store 9 (.t 4) (.t 46)),jk 5 4]) .ret) .skip)) (jq
 ((ap [.a 47 (.bsl 158 4 0 [] []),jo 48 6 2,jl 49 48,.a 50 (.app 158 4 48 (.t 47) (.t 49))] [jo 51 6 2,.n (.store 1 (.t 51) (.t 50))])) (jq ([jk 7
 0]) (.seq (jq ([jo 52 3 3,jl 53 52]) (.block 0 (jq ((ap [jb 58 .eql 53 1] [jm 57 58])) (jc 57 (.seq (jq ((ap [jo 59 8 3,jl 60 59,.a 61 (.call (kC
 104) [(.t 60)])] [jb 62 .neq 61 0])) (jc 62 (jq ([jL 63 9 6,.n (.store 9 (.t 4) (.t 63)),jk 5 1]) .ret) .skip)) (jq ([jo 64 8 3,jl 65 64,jo 66 5 2,
 .n (.store 1 (.t 66) (.t 65))]) (.ops [jo 67 8 3,jl 68 67,je 69 68,.a 70 (.mkslice 158 4 48 [(.v (.int .i64 0)),(.v (.int .i64 0)),(.v (.int .i64
 0)),(.v (.slice none 0 0))] (.t 69) (.t 69)),jo 71 6 2,.n (.store 1 (.t 71) (.t 70))]))) (.seq (jq ((ap [jb 73 .eql 53 2] [jm 72 73])) (jc 72 .skip
 (jq ((ap [jb 74 .eql 53 3] [jm 72 74])) (jc 72 .skip (.ops (ap [jb 75 .eql 53 4] [jm 72 75])))))) (jc 72 (.ops (ap [jL 76 9 3,.a 77 (.call (kC 105)
 [(.t 2),(.t 76)])] [jm 7 77])) (.seq (jq ((ap [jb 79 .eql 53 5] [jm 78 79])) (jc 78 .skip (.ops (ap [jb 80 .eql 53 6] [jm 78 80])))) (jc 78 (.ops (ap
 [jL 81 9 3,.a 82 (.call (kC 106) [(.t 2),(.t 81)])] [jm 7 82])) (jq ((ap [jb 84 .eql 53 7] [jm 83 84])) (jc 83 (.seq (jq ([jL 85 9 2,jo 86 6 3,jl
 87 86,.a 88 (.call (kC 30) [(.t 85),(.t 87)])]) (jc 88 (jq ([jL 89 9 6,.n (.store 9 (.t 4) (.t 89)),jk 5 13]) .ret) .skip)) (.drw [.a 90 (.bsl 106
 3 0 [] []),jo 91 8 2,jl 92 91,.a 93 (.app 106 3 48 (.t 90) (.t 92)),jo 94 6 3,jl 95 94,jo 96 0 3,jl 97 96,jo 98 7 3,jl 99 98,.a 100 (.bld
 [(.f (.v (.string ⟨#[]⟩))),jI,jN] [(0,1,(.t 95)),(1,1,(.t 97)),(2,1,(.t 99))]),.a 101 (.bsl 106 3 1 [(.f (.v (.string ⟨#[]⟩))),jI,jN] [(0,
 (.t 100))]),.a 102 (.app 106 3 48 (.t 93) (.t 101)),jo 103 8 2,.n (.store 1 (.t 103) (.t 102))] [0,0,2,7,0,16,0,64,0,256,1008,2032,4095,
 8191,16383])) (jq ((ap [jb 105 .eql 53 8] [jm 104 105])) (jc 104 (.seq (jq ([jo 106 4 2,jl 107 106]) (jc 107 (.ops [jk 7 4]) .skip)) (.ops [jo 108 4
 2,.n (.store 1 (.t 108) kT)])) (jq ((ap [jb 110 .eql 53 9] [jm 109 110])) (jc 109 (.seq (.seq (.drw [jL 111 9 2,.a 112 (.call (kC 107) [(.t 111),(kI
 2)]),jo 113 6 2,jl 114 113,je 115 114,jB 116 .neq 112 115] [0,1,0,4,12,31]) (jc 116 (.ops [jk 7 4]) .skip)) (.ops [jo 117 3 3,jl 118 117,jo
 119 3 2,.n (.store 1 (.t 119) (.t 118))])) (jq ((ap [jb 121 .eql 53 10] [jm 120 121])) (jc 120 (.seq (jq ((ap [jL 122 9 2,.a 123 (.call (kC 107) [(.t
 122),(kI 3)])] [jb 124 .eql 123 0])) (jc 124 (.ops [jk 7 4]) .skip)) (.ops [jo 125 3 3,jl 126 125,jo 127 3 2,.n (.store 1 (.t 127) (.t 126))])) (jq
 ((ap [jb 129 .eql 53 11] [jm 128 129])) (jc 128 (.seq (jq ((ap [jo 130 4 2,jl 131 130,.a 132 (.unot (.t 131)),jm 133 132,jG 134 (.loadA 9 (.t 2))
 133 false] (ap [jG 135 (.call (kC 107) [(.t 134),(kI 1)]) 133 false] (ap [jG 136 (.bin .gtr (.t 135) (kI 0)) 133 false] [.a 137 (.pick (.t 133) kT (.t
 136))])))) (jc 137 (.ops [jk 7 4]) .skip)) (.ops [jo 138 3 3,jl 139 138,jo 140 3 2,.n (.store 1 (.t 140) (.t 139))])) (.ops [jo 54 3 3,jl 55 54,jo
 56 3 2,.n (.store 1 (.t 56) (.t 55))]))))))))))))))))))) (.seq (jq ([jm 141 7,jb 142 .neq 141 0]) (jc 142 (jq ([jL 143 9 6,jm 144 7,.n (.store 9
 (.t 4) (.t 143)),jm 5 144]) .ret) .skip)) (jq ([jo 145 0 3,jl 146 145,jo 147 0 2,.n (.store 1 (.t 147) (.t 146))]) (jq ([jo 148 1 3,jl 149 148,jo
 150 1 2,.n (.store 1 (.t 150) (.t 149))]) (jq ([jo 151 2 3,jl 152 151,jo 153 2 2,.n (.store 1 (.t 153) (.t 152))]) (jq ([jL 154 9 2,.n (.store 9
 (.t 4) (.t 154)),jk 5 0]) .ret)))))))))))))
theorem p0s:Fn Tryz.prog 66 155 [.cA 9 4,.t 5] i0i:=.of Tryz.func66 (by kernel_rfl)
def d0q:SCode :=
  (jq ([.a 3 (.box 73 (.t 1)),jk 4 0]) (.seq (.seq (.drw [jo 9 4 3,jl 10 9,jm 11 0,jn 12 11,jo 13 6 12,jl 14 13,je 15 14,jB 16 .geq 10 15] [0,1,
 0,4,12,28,60,127]) (jc 16 (jq ([jk 4 1]) .ret) .skip)) (.seq (.drw [jm 17 0,jn 18 17,jo 19 6 18,jl 20 19,jo 21 4 3,jl 22 21,jx 23 4 20 22,
 jL 24 4 23,.a 5 (.alloc 158 [jI,jI,jI,jN]),.n (.store 4 (.t 5) (.t 24))] [0,1,3,7,0,16,63,127,0,511]) (.seq (jq ([jo 25 3 3,jl 26 25,jb
 27 .eql 26 2]) (jc 27 (jq ([.a 6 (.mv kF)]) (jq ((ap [jm 28 0,jn 29 28,jL 30 9 29,.a 31 (.call (kC 147) [(.t 30)])] [jm 7 31])) (.seq (jq ([jk 8 0])
 (.block 0 (.loop (.seq (jq ([jm 32 8,jm 33 7,je 34 33,jB 35 .lss 32 34]) (jc 35 .skip (.exit 0))) (.seq (.block 1 (.drw [jm 38 6,jm 39 38,gM 40 7
 39 false,gM 41 8 39 false,jG 42 (.idx 1 (.t 40) (.t 41)) 39 false,gL 43 42 39 false,gO 44 4 3 39 false,gL 45 44 39 false,jG 46 (.bin .eql (.t 43)
 (.t 45)) 39 false,.a 47 (.pick (.t 39) kT (.t 46)),jm 6 47] [0,1,3,3,15,31,3,67,255,511,1023])) (.ops [jm 36 8,jb 37 .add 36 1,jm 8
 37])))))) (.seq (jq ((ap [jm 48 6,.a 49 (.unot (.t 48)),jm 50 49,gO 51 5 3 50 false] (ap [gL 52 51 50 false,gO 53 1 5 50 false,gL 54 53 50 false,
 jG 55 (.bin .add (.t 54) (kI 1)) 50 false,jG 56 (.bin .neq (.t 52) (.t 55)) 50 false] [.a 57 (.pick (.t 50) kT (.t 56))]))) (jc 57 (jq ([jk 4 4])
 .ret) .skip)) (.seq (.drw [jm 58 0,jn 59 58,jo 60 6 59,jl 61 60,jo 62 4 3,jl 63 62,jo 64 5 3,jl 65 64,jo 66 2 3,jl 67 66,jm 68 0,jn 69 68,
 jo 70 5 69,jl 71 70,jo 72 4 3,jl 73 72,jx 74 3 71 73,jo 75 2 74,jl 76 75,jB 77 .add 67 76,.a 78 (.bld [jI,jI,jI,jN] [(0,1,(kI 1)),(1,1,
 (.t 65)),(2,1,(.t 77))]),jx 79 4 61 63,.n (.store 4 (.t 79) (.t 78))] [0,1,3,7,0,16,0,64,0,256,0,1024,3072,7168,0,16384,64512,
 130048,261120,524032,1048512,2097151,4194303]) (jq ([jk 4 0]) .ret)))))) .skip)) (.seq (jq ((ap [jo 80 0 5,jl 81 80,jb 82 .neq 81 1] (ap [jm 83
 82,gO 84 5 3 83 false] (ap [gL 85 84 83 false,gO 86 1 5 83 false,gL 87 86 83 false,jG 88 (.bin .neq (.t 85) (.t 87)) 83 false] [.a 89 (.pick (.t
 83) kT (.t 88))])))) (jc 89 (jq ([jk 4 4]) .ret) .skip)) (jq ([jo 90 2 5,.n (.store 1 (.t 90) (kI 0))]) (.seq (.block 2 (jq ((ap [jo 93 3 3,jl 94 93,
 jb 95 .eql 94 3] [jm 92 95])) (jc 92 (jq ([jo 96 0 5,.n (.store 1 (.t 96) (kI 2))]) (.ops [jo 97 7 3,jl 98 97,jo 99 3 5,.n (.store 1 (.t 99) (.t
 98))])) (.seq (.drw [jo 101 1 5,jl 102 101,jm 103 0,jn 104 103,jo 105 5 104,jl 106 105,jo 107 4 3,jl 108 107,jx 109 3 106 108,jo 110 1 109,jl
 111 110,jB 112 .eql 102 111,jm 100 112] [0,1,0,4,12,28,0,64,252,508,1020,2047,4095]) (jc 100 (.ops [jo 113 0 5,.n (.store 1 (.t 113) (kI
 3))]) (.ops [jo 91 0 5,.n (.store 1 (.t 91) (kI 0))])))))) (.seq (.drw [jm 114 0,jn 115 114,jo 116 6 115,jl 117 116,jo 118 4 3,jl 119 118,jL 120
 4 5,jx 121 4 117 119,.n (.store 4 (.t 121) (.t 120))] [0,1,3,7,0,16,0,127,255]) (jq ([jk 4 0]) .ret)))))))))
theorem h0f:Fn Tryz.prog 105 122 [.t 4] d0q:=.of Tryz.func105 (by kernel_rfl)
def d0d:SCode :=
  (jq ([.a 3 (.box 73 (.t 1)),jk 4 0]) (.seq (.drw [jm 7 0,jn 8 7,jL 9 9 8,jo 10 6 3,jl 11 10,.a 12 (.call (kC 148) [(.t 9),(.t 11)]),jm 5 12]
 [0,1,3,0,8,31,63]) (jq ((ap [.a 13 (.bsl 180 3 0 [] []),jm 14 0,jn 15 14,jo 16 7 15,jl 17 16,.a 18 (.app 180 3 32 (.t 13) (.t 17))] [jm 6
 18])) (.seq (jq ([jo 19 3 3,jl 20 19,jb 21 .eql 20 5]) (jc 21 (.seq (jq ([jm 22 5,jb 23 .geq 22 0]) (jc 23 (jq ([jk 4 13]) .ret) .skip)) (.seq (jq
 ([jm 24 6,je 25 24,jb 26 .geq 25 8]) (jc 26 (jq ([jk 4 4]) .ret) .skip)) (jq ((ap [jm 27 0,jm 28 6,jo 29 6 3,jl 30 29,jo 31 2 3,jl 32 31,jo 33
 5 3,jl 34 33,jB 35 .add 32 34,.a 36 (.bld [(.f (.v (.string ⟨#[]⟩))),jI,jF] [(0,1,(.t 30)),(1,1,(.t 35))]),.a 37 (.bsl 180 3 1 [(.f (.v
 (.string ⟨#[]⟩))),jI,jF] [(0,(.t 36))]),.a 38 (.app 180 3 32 (.t 28) (.t 37))] [jn 39 27,jo 40 7 39,.n (.store 1 (.t 40) (.t 38))])) (jq ([jk 4
 0]) .ret)))) .skip)) (.seq (.seq (.drw [jm 41 5,jb 42 .lss 41 0,jm 43 42,gM 44 6 43 false,gM 45 5 43 false,jG 46 (.idx 3 (.t 44) (.t 45)) 43
 false,gO 47 2 46 43 false,gL 48 47 43 false,.a 49 (.pick (.t 43) kT (.t 48)),jm 50 49,gO 51 2 3 50 false,gL 52 51 50 false,gM 53 6 50 false,gM
 54 5 50 false,jG 55 (.idx 3 (.t 53) (.t 54)) 50 false,gO 56 1 55 50 false,gL 57 56 50 false,jG 58 (.bin .lss (.t 52) (.t 57)) 50 false,.a 59
 (.pick (.t 50) kT (.t 58))] [0,1,3,7,7,31,63,127,255,511,1023,2047,1023,1023,13311,29695,62463,131071,262143]) (jc 59 (jq ([jk 4 4])
 .ret) .skip)) (jq ([jm 60 6,jm 61 5,jx 62 3 60 61,jo 63 2 62,.n (.store 1 (.t 63) kT)]) (jq ([jm 64 0,jm 65 6,jn 66 64,jo 67 7 66,.n (.store 1
 (.t 67) (.t 65))]) (jq ([jk 4 0]) .ret))))))))
theorem g0L:Fn Tryz.prog 106 68 [.t 4] d0d:=.of Tryz.func106 (by kernel_rfl)
def f0x:SCode :=
  (jq ([.a 2 (.alloc 65 [jI,jI,jI,jI,jF,jN,jN,jN,jN]),jk 3 0]) (jq ([.a 4 (.alloc 65 [jI,jI,jI,jI,jF,jN,jN,jN,jN])]) (.seq (jq ([jk 5
 0]) (.block 0 (.loop (.seq (jq ([jm 7 5,jm 8 0,je 9 8,jB 10 .lss 7 9]) (jc 10 .skip (.exit 0))) (.seq (.block 1 (jq ([jk 6 0]) (.seq (.drw [jL 14 9
 4,jm 15 0,jm 16 5,jx 17 9 15 16,jL 18 9 17,.a 19 (.call (kC 66) [(.t 14),(.t 18)]),jm 13 19,jE 20 0 13,jE 21 1 13,.n (.store 9 (.t 4) (.t
 20)),jm 6 21] [0,0,0,6,14,31,63,127,127,255,1023]) (jq ([jm 22 6,jb 23 .neq 22 0]) (jc 23 (jq ([.a 24 (.bld [jI,jI,jI,jI,jF,jN,jN,
 jN,jN] []),jm 25 6,.n (.store 9 (.t 2) (.t 24)),jm 3 25]) .ret) .skip))))) (.ops [jm 11 5,jb 12 .add 11 1,jm 5 12])))))) (jq ([jL 26 9 4,.n
 (.store 9 (.t 2) (.t 26)),jk 3 0]) .ret))))
theorem j0v:Fn Tryz.prog 28 27 [.cA 9 2,.t 3] f0x:=.of Tryz.func28 (by kernel_rfl)
def k0v:SCode :=
  (jq ([.a 1 (.box 73 (.t 0)),.a 2 (.mv kF)]) (.seq (jq ((ap [jo 6 0 1,jl 7 6,jb 8 .lss 7 1] (ap [jm 9 8,gO 10 0 1 9 false] (ap [gL 11 10 9 false,jG
 12 (.bin .gtr (.t 11) (kI 200)) 9 false] (ap [.a 13 (.pick (.t 9) kT (.t 12)),jm 14 13,gO 15 1 1 14 false] (ap [gL 16 15 14 false,jG 17 (.call (kC
 114) [(.t 16)]) 14 false] (ap [jG 18 (.unot (.t 17)) 14 false,.a 19 (.pick (.t 14) kT (.t 18)),jm 20 19,gO 21 2 1 20 false] (ap [gL 22 21 20 false,
 jG 23 (.bin .lss (.t 22) (kI 0)) 20 false] (ap [.a 24 (.pick (.t 20) kT (.t 23)),jm 25 24,gO 26 2 1 25 false] (ap [gL 27 26 25 false,jG 28 (.bin
 .gtr (.t 27) (kI 1099511627776)) 25 false] (ap [.a 29 (.pick (.t 25) kT (.t 28)),jm 30 29,gO 31 3 1 30 false] (ap [gL 32 31 30 false,jG 33 (.bin
 .lss (.t 32) (kI 1)) 30 false] (ap [.a 34 (.pick (.t 30) kT (.t 33)),jm 35 34,gO 36 3 1 35 false] (ap [gL 37 36 35 false,jG 38 (.bin .gtr (.t 37)
 (kI 12)) 35 false] [.a 39 (.pick (.t 35) kT (.t 38))])))))))))))))) (jc 39 (jq ([.a 2 (.mv kF)]) .ret) .skip)) (jq ((ap [jo 40 3 1,jl 41 40,jb 42
 .eql 41 2] (ap [jm 43 42,gO 44 3 1 43 false] (ap [gL 45 44 43 false,jG 46 (.bin .eql (.t 45) (kI 3)) 43 false] (ap [.a 47 (.pick (.t 43) kT (.t 46)),
 jm 48 47,gO 49 3 1 48 false] (ap [gL 50 49 48 false,jG 51 (.bin .eql (.t 50) (kI 4)) 48 false] [.a 52 (.pick (.t 48) kT (.t 51)),jm 3 52])))))) (jq
 ((ap [jo 53 3 1,jl 54 53,jb 55 .eql 54 5] (ap [jm 56 55,gO 57 3 1 56 false] (ap [gL 58 57 56 false,jG 59 (.bin .eql (.t 58) (kI 6)) 56 false] (ap
 [.a 60 (.pick (.t 56) kT (.t 59)),jm 61 60,gO 62 3 1 61 false] (ap [gL 63 62 61 false,jG 64 (.bin .eql (.t 63) (kI 7)) 61 false] [.a 65 (.pick (.t
 61) kT (.t 64)),jm 4 65])))))) (jq ((ap [jo 66 3 1,jl 67 66,jb 68 .eql 67 3] (ap [jm 69 68,gO 70 3 1 69 false] (ap [gL 71 70 69 false,jG 72 (.bin
 .eql (.t 71) (kI 7)) 69 false] [.a 73 (.pick (.t 69) kT (.t 72)),jm 5 73])))) (.seq (.block 0 (jq ((ap [jo 75 3 1,jl 76 75,jb 77 .eql 76 1] [jm 74
 77])) (jc 74 (jq ((ap [jo 78 8 1,jl 79 78,.a 80 (.call (kC 145) [(.t 79)])] [.a 81 (.unot (.t 80))])) (jc 81 (jq ([.a 2 (.mv kF)]) .ret) .skip)) (jq
 ((ap [jo 83 8 1,jl 84 83,je 85 84,jb 86 .gtr 85 0] [jm 82 86])) (jc 82 (jq ([.a 2 (.mv kF)]) .ret) .skip))))) (.seq (jq ((ap [jm 87 3,jm 88 87,gO
 89 4 1 88 true] (ap [gL 90 89 88 true,jG 91 (.bin .lss (.t 90) (kI 0)) 88 true] (ap [gM 92 91 88 true,gO 93 4 1 92 false] (ap [gL 94 93 92 false,jG
 95 (.bin .geq (.t 94) (kI 8)) 92 false] (ap [jG 96 (.pick (.t 92) kT (.t 95)) 88 true] (ap [gM 97 96 88 true,gO 98 5 1 97 false] (ap [gL 99 98 97
 false,jG 100 (.bin .lss (.t 99) (kI 1)) 97 false] (ap [jG 101 (.pick (.t 97) kT (.t 100)) 88 true] (ap [gM 102 101 88 true,gO 103 5 1 102 false] (ap
 [gL 104 103 102 false,jG 105 (.bin .gtr (.t 104) (kI 5)) 102 false] (ap [jG 106 (.pick (.t 102) kT (.t 105)) 88 true] (ap [.a 107 (.pick (.t 88) (.t
 106) kF),jm 108 107,gM 109 3 108 false] (ap [jG 110 (.unot (.t 109)) 108 false,gM 111 110 108 false,gO 112 4 1 111 true] (ap [gL 113 112 111 true,
 jG 114 (.bin .neq (.t 113) (kI 0)) 111 true] (ap [jG 115 (.pick (.t 111) (.t 114) kF) 108 false] [.a 116 (.pick (.t 108) kT (.t 115))]))))))))))))))))
 (jc 116 (jq ([.a 2 (.mv kF)]) .ret) .skip)) (.seq (jq ((ap [jo 117 3 1,jl 118 117,jb 119 .eql 118 5] (ap [jm 120 119,gO 121 5 1 120 true] (ap [gL
 122 121 120 true,jG 123 (.bin .lss (.t 122) (kI 1)) 120 true] (ap [gM 124 123 120 true,gO 125 5 1 124 false] (ap [gL 126 125 124 false,jG 127 (.bin
 .gtr (.t 126) (kI 1048576)) 124 false] (ap [jG 128 (.pick (.t 124) kT (.t 127)) 120 true] (ap [.a 129 (.pick (.t 120) (.t 128) kF),jm 130 129,gM 131
 3 130 false] (ap [jG 132 (.unot (.t 131)) 130 false,gM 133 132 130 false,gO 134 3 1 133 true] (ap [gL 135 134 133 true,jG 136 (.bin .neq (.t 135)
 (kI 5)) 133 true] (ap [jG 137 (.pick (.t 133) (.t 136) kF) 130 false] (ap [gM 138 137 130 false,gO 139 5 1 138 true] (ap [gL 140 139 138 true,jG 141
 (.bin .neq (.t 140) (kI 0)) 138 true] (ap [jG 142 (.pick (.t 138) (.t 141) kF) 130 false] [.a 143 (.pick (.t 130) kT (.t 142))])))))))))))))) (jc 143
 (jq ([.a 2 (.mv kF)]) .ret) .skip)) (.seq (jq ((ap [jm 144 4,jm 145 144,gO 146 6 1 145 true] (ap [gL 147 146 145 true,jG 148 (.call (kC 133) [(.t
 147)]) 145 true] (ap [jG 149 (.unot (.t 148)) 145 true,.a 150 (.pick (.t 145) (.t 149) kF),jm 151 150,gM 152 4 151 false] (ap [jG 153 (.unot (.t
 152)) 151 false,gM 154 153 151 false,gO 155 6 1 154 true] (ap [gL 156 155 154 true,jG 157 (.bin .neq (.t 156) (.c (.f (.v (.string ⟨#[]⟩))))) 154
 true] (ap [jG 158 (.pick (.t 154) (.t 157) kF) 151 false] [.a 159 (.pick (.t 151) kT (.t 158))]))))))) (jc 159 (jq ([.a 2 (.mv kF)]) .ret) .skip)) (jq
 ((ap [jm 160 5,jm 161 160,gO 162 7 1 161 true] (ap [gL 163 162 161 true,jG 164 (.slen (.t 163)) 161 true,jG 165 (.bin .leq (.t 164) (kI 40)) 161
 true] (ap [.a 166 (.pick (.t 161) (.t 165) kF),jm 167 166,gO 168 7 1 167 false] (ap [gL 169 168 167 false,jG 170 (.slen (.t 169)) 167 false,jG 171
 (.bin .eql (.t 170) (kI 0)) 167 false] [.a 172 (.pick (.t 167) kT (.t 171)),jm 2 172]))))) .ret))))))))))
theorem s0K:Fn Tryz.prog 103 173 [.t 2] k0v:=.of Tryz.func103 (by kernel_rfl)
def d0D:SCode :=
  (jq ([.a 2 (.mv kF)]) (jq ((ap [jm 3 0,jb 4 .geq 3 1] (ap [jm 5 4,gM 6 0 5 true] (ap [jG 7 (.bin .leq (.t 6) (kI 1099511627776)) 5 true] (ap [.a 8
 (.pick (.t 5) (.t 7) kF),jm 9 8,gM 10 0 9 true] (ap [jG 11 (.call (kC 152) [(.t 10)]) 9 true] (ap [jG 12 (.bin .geq (.t 11) (kI 1)) 9 true] (ap [.a
 13 (.pick (.t 9) (.t 12) kF),jm 14 13,gM 15 0 14 true] (ap [jG 16 (.call (kC 152) [(.t 15)]) 14 true] (ap [jG 17 (.bin .leq (.t 16) (kI 8)) 14 true]
 [.a 18 (.pick (.t 14) (.t 17) kF),jm 2 18])))))))))) .ret))
theorem f0F:Fn Tryz.prog 114 19 [.t 2] d0D:=.of Tryz.func114 (by kernel_rfl)
def l0m:SCode :=
 (jq ([jk 2 0]) (jq ([jm 3 0,jb 4 .rem 3 10,jb 5 .add 4 10,jb 6 .rem 5 10,jm 2 6]) .ret))
theorem s0s:Fn Tryz.prog 152 7 [.t 2] l0m:=.of Tryz.func152 (by kernel_rfl)
def j0a:SCode :=
  (jq ([.a 2 (.mv kF)]) (.seq (jq ([jk 3 0]) (.block 0 (.loop (.seq (jq ([jm 4 3,jm 5 0,.a 6 (.strlen (.t 5)),jB 7 .lss 4 6]) (jc 7 .skip (.exit 0)))
 (.seq (.block 1 (jq ((ap [jm 10 0,jm 11 3,.a 12 (.sidx (.t 10) (.t 11)),.a 13 (.bin .geq (.t 12) (.c (.f (.v (.int .u8 97)))))] (ap [jm 14 13,gM 15
 0 14 true] (ap [gM 16 3 14 true,jG 17 (.sidx (.t 15) (.t 16)) 14 true,jG 18 (.bin .leq (.t 17) (.c (.f (.v (.int .u8 122))))) 14 true] (ap [.a 19
 (.pick (.t 14) (.t 18) kF),jm 20 19,gM 21 0 20 false] (ap [gM 22 3 20 false,jG 23 (.sidx (.t 21) (.t 22)) 20 false,jG 24 (.bin .geq (.t 23) (.c (.f
 (.v (.int .u8 48))))) 20 false] (ap [gM 25 24 20 false,gM 26 0 25 true] (ap [gM 27 3 25 true,jG 28 (.sidx (.t 26) (.t 27)) 25 true,jG 29 (.bin .leq
 (.t 28) (.c (.f (.v (.int .u8 57))))) 25 true] (ap [jG 30 (.pick (.t 25) (.t 29) kF) 20 false] (ap [.a 31 (.pick (.t 20) kT (.t 30)),jm 32 31,gM 33 0
 32 false] (ap [gM 34 3 32 false,jG 35 (.sidx (.t 33) (.t 34)) 32 false,jG 36 (.bin .eql (.t 35) (.c (.f (.v (.int .u8 45))))) 32 false] [.a 37 (.pick
 (.t 32) kT (.t 36)),.a 38 (.unot (.t 37))]))))))))))) (jc 38 (jq ([.a 2 (.mv kF)]) .ret) .skip))) (.ops [jm 8 3,jb 9 .add 8 1,jm 3 9])))))) (jq ((ap
 [jm 39 0,.a 40 (.strlen (.t 39)),jb 41 .geq 40 1] (ap [jm 42 41,gM 43 0 42 true] (ap [jG 44 (.strlen (.t 43)) 42 true,jG 45 (.bin .leq (.t 44) (kI
 16)) 42 true] [.a 46 (.pick (.t 42) (.t 45) kF),jm 2 46])))) .ret)))
theorem p0g:Fn Tryz.prog 133 47 [.t 2] j0a:=.of Tryz.func133 (by kernel_rfl)
def e0k:SCode :=
  (jq ([.a 2 (.mv kF)]) (.seq (jq ([jk 3 0]) (.block 0 (.loop (.seq (jq ([jm 6 3,jm 7 0,je 8 7,jB 9 .lss 6 8]) (jc 9 .skip (.exit 0))) (.seq (.block 1
 (jq ([jm 12 0,jm 13 3,jx 14 3 12 13,jL 15 3 14,.a 4 (.alloc 123 [jN,jI,jI]),.n (.store 3 (.t 4) (.t 15))]) (.seq (jq ((ap [jo 16 1 4,jl 17 16,
 jb 18 .lss 17 1] (ap [jm 19 18,gO 20 1 4 19 false] (ap [gL 21 20 19 false,jG 22 (.bin .gtr (.t 21) (kI 5)) 19 false] (ap [.a 23 (.pick (.t 19) kT (.t
 22)),jm 24 23,gO 25 2 4 24 false] (ap [gL 26 25 24 false,jG 27 (.bin .lss (.t 26) (kI 1)) 24 false] (ap [.a 28 (.pick (.t 24) kT (.t 27)),jm 29 28,
 gO 30 2 4 29 false] (ap [gL 31 30 29 false,jG 32 (.bin .gtr (.t 31) (kI 1048576)) 29 false] [.a 33 (.pick (.t 29) kT (.t 32))])))))))) (jc 33 (jq ([.a
 2 (.mv kF)]) .ret) .skip)) (jq ([jk 5 0]) (.block 2 (.loop (.seq (jq ([jm 34 5,jo 35 0 4,jl 36 35,je 37 36,jB 38 .lss 34 37]) (jc 38 .skip (.exit
 2))) (.seq (.block 3 (.seq (.drw [jo 41 0 4,jl 42 41,jm 43 5,jx 44 1 42 43,jl 45 44,jb 46 .lss 45 0,jm 47 46,gO 48 0 4 47 false,gL 49 48 47
 false,gM 50 5 47 false,jG 51 (.idx 1 (.t 49) (.t 50)) 47 false,gL 52 51 47 false,gM 53 0 47 false,jG 54 (.slen (.t 53)) 47 false,jG 55 (.bin .geq
 (.t 52) (.t 54)) 47 false,.a 56 (.pick (.t 47) kT (.t 55)),jm 57 56,gM 58 5 57 false,jG 59 (.bin .gtr (.t 58) (kI 0)) 57 false,gM 60 59 57 false,
 gO 61 0 4 60 true,gL 62 61 60 true,gM 63 5 60 true,jG 64 (.idx 1 (.t 62) (.t 63)) 60 true,gL 65 64 60 true,gO 66 0 4 60 true,gL 67 66 60 true,gM
 68 5 60 true,jG 69 (.bin .sub (.t 68) (kI 1)) 60 true,jG 70 (.idx 1 (.t 67) (.t 69)) 60 true,gL 71 70 60 true,jG 72 (.bin .leq (.t 65) (.t 71)) 60
 true,jG 73 (.pick (.t 60) (.t 72) kF) 57 false,.a 74 (.pick (.t 57) kT (.t 73))] [0,1,0,7,15,31,63,127,255,127,1023,2047,127,4223,
 16383,32767,65535,131071,262143,524287,1048575,2097151,1048575,8388607,16777215,1048575,34603007,1048575,135266303,504365055,
 1041235967,2147483647,4294967295,8589934591]) (jc 74 (jq ([.a 2 (.mv kF)]) .ret) .skip))) (.ops [jm 39 5,jb 40 .add 39 1,jm 5 40]))))))))) (.ops
 [jm 10 3,jb 11 .add 10 1,jm 3 11])))))) (jq ((ap [jm 75 0,je 76 75,jb 77 .geq 76 1] (ap [jm 78 77,gM 79 0 78 true] (ap [jG 80 (.slen (.t 79)) 78
 true,jG 81 (.bin .leq (.t 80) (kI 8)) 78 true] [.a 82 (.pick (.t 78) (.t 81) kF),jm 2 82])))) .ret)))
theorem i0T:Fn Tryz.prog 145 83 [.t 2] e0k:=.of Tryz.func145 (by kernel_rfl)
set_option maxHeartbeats 2000000
theorem c1k {done:List Bool}{x:Int}{l:List Int}:metB done (x :: l)=(inB done x&&metB done l):=rfl
theorem d0B (d:Nd)(done:List Bool)(hp:∀ x∈d.ns,0≤x)(hl:d.ns.length<1000000):Con Tryz.prog 163 [ndD d,.f (fB done)] [] fun r H'=>r=D.bool (metB done d.ns)∧H'=[]:=by
 refine Con.walk good x0Q (by simp) ?_
 unfold q0a
 simp only [a0K,List.length_cons,List.length_nil,Nat.reduceAdd]
 repeat' (with_reducible first|refine Wx.h ?_|refine Wb.h fun K hK=>?_|(refine hK _ ?_;clear hK K)|(refine wT ?_ ?_;assumption)|(refine wF ?_ ?_;assumption)|(refine Wy.h ?_ ?_;kernel_rfl)|refine Wq.h ?_ ?_<;>intro h<;>try (exfalso;omega)|refine Wu.h ?_ ?_<;>intro h<;>try simp only [h]|((fail_if_success refine Wz.h ?_);first|simp (disch:=omega) only [↓LD,LA,a0A,seval,ndD]|(refine And.intro ?_ ?_;omega)|simp only [D.int,D.bool]))
 refine HS.loopG [1,2,5] (fun k:Nat=>⟨frm 32 [(1,.f (fB done)),(2,.pt 0 0),(5,D.int k)],[.box 123 [.f (fI d.ns),D.int d.tr,D.int d.le]],[]⟩)
  (fun k=>k≤d.ns.length∧metB done d.ns=metB done (d.ns.drop k)) (fun k=>d.ns.length-k) 0 (by kernel_rfl) ⟨Nat.zero_le _,rfl⟩ ?_
 rintro k ⟨hk,hm⟩
 by_cases hkl:k<d.ns.length
 ·have hx:=hp _ (a0L hkl)
  rw [a0G hkl,c1k] at hm
  repeat' (with_reducible first|refine Wx.h ?_|refine Wb.h fun K hK=>?_|(refine hK _ ?_;clear hK K)|(refine wT ?_ ?_;assumption)|(refine wF ?_ ?_;assumption)|(refine Wy.h ?_ ?_;kernel_rfl)|refine Wq.h ?_ ?_<;>intro h<;>try (exfalso;omega)|refine Wu.h ?_ ?_<;>intro h<;>try simp only [h]|((fail_if_success refine Wz.h ?_);first|simp (disch:=omega) only [↓LD,LA,a0A,seval,fI,fB]|(refine And.intro ?_ ?_;omega)|simp only [D.int,D.bool]))
  ·exact end1 rfl rfl (by kernel_rfl) .f ⟨by rw [hm,show inB done (gt d.ns k)=false by simp [inB];omega];rfl,rfl⟩
  ·exact end1 rfl rfl (by kernel_rfl) .f ⟨by rw [hm,show inB done (gt d.ns k)=false by simp_all [inB]];try rfl,rfl⟩
  ·exact Next.mk (k+1) (by kernel_rfl) ⟨by omega,by rw [hm,show inB done (gt d.ns k)=true by simp_all [inB]];try rfl⟩ (by omega)
 ·rw [List.drop_of_length_le (by omega)] at hm
  repeat' (with_reducible first|refine Wx.h ?_|refine Wb.h fun K hK=>?_|(refine hK _ ?_;clear hK K)|(refine wT ?_ ?_;assumption)|(refine wF ?_ ?_;assumption)|(refine Wy.h ?_ ?_;kernel_rfl)|refine Wq.h ?_ ?_<;>intro h<;>try (exfalso;omega)|refine Wu.h ?_ ?_<;>intro h<;>try simp only [h]|((fail_if_success refine Wz.h ?_);first|simp (disch:=omega) only [↓LD,LA,a0A,seval,fI,fB]|(refine And.intro ?_ ?_;omega)|simp only [D.int,D.bool]))
  exact end1 rfl rfl (by kernel_rfl) .f ⟨by rw [hm];try rfl,rfl⟩
def outT (done:List Bool)(n:Nat):List Int→D × List Row
 | []=>(.f (.v (.slice none 0 0)),[.data 4 (done.map bF)])
 | x :: l=>(.sl 1 0 n,[.data 4 (done.map bF),.data 3 ((x :: l).map iF)])
theorem e1f {done:List Bool}{ds:List Nd}(hd:done.length=ds.length)(h:0≤nxt done 0 ds):opn (done.set (nxt done 0 ds).toNat true)+1=opn done:=by
 have:=d1j done 0 ds h
 exact e1j (by omega) this.2.2
theorem r0d {ds:List Nd}{n:Nat}{done:List Bool}{out:List Int}(h:nxt done 0 ds<0):ordF ds n done out=out:=by
 cases n with
 | zero=>rfl
 | succ n=>rw [ordF,if_pos h]
set_option maxRecDepth 100000 in
theorem t0M (ds:List Nd)(hl:Fit ds)(hp:Pos ds):Con Tryz.prog 146 [.f (fG ds)] [] fun r H'=>r = .f (fI (f0Y ds))∧H'=[]:=by
 obtain ⟨hl,hn⟩:=hl
 refine Con.walk good r0Q (by simp) ?_
 unfold j0Z
 simp only [a0K,List.length_cons,List.length_nil,Nat.reduceAdd]
 repeat' (with_reducible first|refine Wx.h ?_|refine Wb.h fun K hK=>?_|(refine hK _ ?_;clear hK K)|(refine wT ?_ ?_;assumption)|(refine wF ?_ ?_;assumption)|(refine Wy.h ?_ ?_;kernel_rfl)|refine Wq.h ?_ ?_<;>intro h<;>try (exfalso;omega)|refine Wu.h ?_ ?_<;>intro h<;>try simp only [h]|((fail_if_success refine Wz.h ?_);first|simp (disch:=omega) only [↓LD,LA,a0A,seval,fG]|(refine And.intro ?_ ?_;omega)|simp only [D.int,D.bool]))
 rw [h0o]
 refine HS.loopG [0,3,4,5] (fun x:Bool × Nat × List Bool × List Int=>⟨frm 42 [(0,.f (fG ds)),(3,.sl 0 0 ds.length),(4,(outT x.2.2.1 x.2.1 x.2.2.2).1),(5,D.bool x.1)],(outT x.2.2.1 x.2.1 x.2.2.2).2,[]⟩)
  (fun x=>x.2.2.1.length=ds.length∧x.2.2.2.length=x.2.1∧x.2.1+opn x.2.2.1=ds.length∧f0Y ds=ordF ds (opn x.2.2.1) x.2.2.1 x.2.2.2∧(x.1=false→f0Y ds=x.2.2.2)) (fun x=>if x.1 then opn x.2.2.1+1 else 0) (true,0,List.replicate ds.length false,[]) (by kernel_rfl)
  ⟨List.length_replicate,rfl,by simp [a1k],by dsimp only;rw [a1k];try rfl,fun h=>by cases h⟩ ?_
 rintro ⟨again,n,done,out⟩ ⟨hd,ho,hop,hr,hs⟩
 dsimp only at hd ho hop hr hs
 cases again with
 | false =>
  have hs:=hs rfl
  rcases out with _|⟨a,l⟩
  ·repeat' (with_reducible first|refine Wx.h ?_|refine Wb.h fun K hK=>?_|(refine hK _ ?_;clear hK K)|(refine wT ?_ ?_;assumption)|(refine wF ?_ ?_;assumption)|(refine Wy.h ?_ ?_;kernel_rfl)|refine Wq.h ?_ ?_<;>intro h<;>try (exfalso;omega)|refine Wu.h ?_ ?_<;>intro h<;>try simp only [h]|((fail_if_success refine Wz.h ?_);first|simp (disch:=omega) only [↓LD,LA,a0A,seval,outT]|(refine And.intro ?_ ?_;omega)|simp only [D.int,D.bool]))
   exact end1 rfl rfl (by kernel_rfl) .nil ⟨by rw [hs];try rfl,rfl⟩
  ·repeat' (with_reducible first|refine Wx.h ?_|refine Wb.h fun K hK=>?_|(refine hK _ ?_;clear hK K)|(refine wT ?_ ?_;assumption)|(refine wF ?_ ?_;assumption)|(refine Wy.h ?_ ?_;kernel_rfl)|refine Wq.h ?_ ?_<;>intro h<;>try (exfalso;omega)|refine Wu.h ?_ ?_<;>intro h<;>try simp only [h]|((fail_if_success refine Wz.h ?_);first|simp (disch:=omega) only [↓LD,LA,a0A,seval,outT]|(refine And.intro ?_ ?_;omega)|simp only [D.int,D.bool]))
   exact end1 rfl rfl (by kernel_rfl) (.sl rfl (fun e=>by simp at ho;omega)) ⟨by rw [hs,List.drop_zero,fI,ho];try rfl,rfl⟩
 | true =>
  have hnx:=e1f (ds:=ds) hd
  rcases out with _|⟨a,l⟩
  ·repeat' (with_reducible first|refine Wx.h ?_|refine Wb.h fun K hK=>?_|(refine hK _ ?_;clear hK K)|(refine wT ?_ ?_;assumption)|(refine wF ?_ ?_;assumption)|(refine Wy.h ?_ ?_;kernel_rfl)|refine Wq.h ?_ ?_<;>intro h<;>try (exfalso;omega)|refine Wu.h ?_ ?_<;>intro h<;>try simp only [h]|((fail_if_success refine Wz.h ?_);first|simp (disch:=omega) only [↓LD,LA,a0A,seval,fG,outT]|(refine And.intro ?_ ?_;omega)|simp only [D.int,D.bool]))
   refine HS.loopG [0,3,4,5,6] (fun x:Nat × Bool × Nat × List Bool × List Int=>⟨frm 42 [(0,.f (fG ds)),(3,.sl 0 0 ds.length),(4,(outT x.2.2.2.1 x.2.2.1 x.2.2.2.2).1),(5,D.bool x.2.1),(6,D.int x.1)],(outT x.2.2.2.1 x.2.2.1 x.2.2.2.2).2,[]⟩)
    (fun x=>x.1≤ds.length∧(x.2.1=false→x.2.2.1=n∧x.2.2.2.1=done∧x.2.2.2.2=[]∧nxt done 0 ds=nxt done x.1 (ds.drop x.1))∧(x.2.1=true→0≤nxt done 0 ds∧x.2.2.1=n+1∧x.2.2.2.1=done.set (nxt done 0 ds).toNat true∧x.2.2.2.2=[]++[nxt done 0 ds])) (fun x=>ds.length-x.1) (0,false,n,done,[]) (by kernel_rfl)
    ⟨Nat.zero_le _,fun _=>⟨rfl,rfl,rfl,rfl⟩,fun h=>by cases h⟩ ?_
   rintro ⟨k,ag,m,dn,ot⟩ ⟨hk,hf,ht⟩
   dsimp only at hk hf ht
   cases ag with
   | true =>
    obtain ⟨h0,rfl,rfl,rfl⟩:=ht rfl
    have hnx:=hnx h0
    repeat' (with_reducible first|refine Wx.h ?_|refine Wb.h fun K hK=>?_|(refine hK _ ?_;clear hK K)|(refine wT ?_ ?_;assumption)|(refine wF ?_ ?_;assumption)|(refine Wy.h ?_ ?_;kernel_rfl)|refine Wq.h ?_ ?_<;>intro h<;>try (exfalso;omega)|refine Wu.h ?_ ?_<;>intro h<;>try simp only [h]|((fail_if_success refine Wz.h ?_);first|simp (disch:=omega) only [↓LD,LA,a0A,seval,fG,outT]|(refine And.intro ?_ ?_;omega)|simp only [D.int,D.bool]))
    all_goals
     refine Next.mk (true,n+1,done.set (nxt done 0 ds).toNat true,[]++[nxt done 0 ds]) (by kernel_rfl) ⟨by dsimp only;rw [List.length_set,hd],by simp [←ho],by dsimp only;omega,?_,fun h=>by cases h⟩ (by simp;omega)
     rw [hr,←hnx,ordF,if_neg (by omega)]
   | false =>
    obtain ⟨rfl,rfl,rfl,hnk⟩:=hf rfl
    by_cases hkl:k<ds.length
    ·rw [a0G hkl,nxt] at hnk
     repeat' (with_reducible first|refine Wx.h ?_|refine Wb.h fun K hK=>?_|(refine hK _ ?_;clear hK K)|(refine wT ?_ ?_;assumption)|(refine wF ?_ ?_;assumption)|(refine Wy.h ?_ ?_;kernel_rfl)|refine Wq.h ?_ ?_<;>intro h<;>try (exfalso;omega)|refine Wu.h ?_ ?_<;>intro h<;>try simp only [h]|((fail_if_success refine Wz.h ?_);first|simp (disch:=omega) only [↓LD,LA,a0A,seval,fG,outT,b0H,c0S,b0P,b0O,b0J,-a0A]|(refine And.intro ?_ ?_;omega)|simp only [D.int,D.bool]))
     ·refine a0W (d0B (gt ds k) dn (hp _ (a0L hkl)) (hn _ (a0L hkl))) (.cons (Vw.ags (.cons .f (.cons .f (.cons .f .nil)))) (.cons (hd ▸ .sl rfl (fun e=>by omega)) .nil)) ?_ ?_
      ·rintro _ _ ⟨rfl,rfl⟩
       exact ⟨.f .v,by simp⟩
      rintro _ _ ⟨rfl,rfl⟩
      repeat' (with_reducible first|refine Wx.h ?_|refine Wb.h fun K hK=>?_|(refine hK _ ?_;clear hK K)|(refine wT ?_ ?_;assumption)|(refine wF ?_ ?_;assumption)|(refine Wy.h ?_ ?_;kernel_rfl)|refine Wq.h ?_ ?_<;>intro h<;>try (exfalso;omega)|refine Wu.h ?_ ?_<;>intro h<;>try simp only [h]|((fail_if_success refine Wz.h ?_);first|simp (disch:=omega) only [↓LD,LA,a0A,seval,fG,outT,List.append_nil]|(refine And.intro ?_ ?_;omega)|simp only [D.int,D.bool]))
      ·have hz:nxt dn 0 ds=(k:Int):=by rw [hnk,if_pos (by rw [Bool.and_eq_true];exact ⟨by assumption,by assumption⟩)]
       subst ho
       refine Next.mk (k+1,true,0+1,dn.set k true,[]++[(k:Int)]) (by kernel_rfl) ⟨by omega,?_,?_⟩ (by dsimp only;omega)
       ·intro h;cases h
       ·intro _;rw [hz];exact ⟨by omega,rfl,by simp,rfl⟩
      ·exact Next.mk (k+1,false,m,dn,[]) (by kernel_rfl) ⟨by omega,fun _=>⟨rfl,rfl,rfl,by rw [hnk,if_neg (by rw [show metB dn (gt ds k).ns=false by assumption,Bool.and_false];exact Bool.false_ne_true)]⟩,fun h=>by cases h⟩ (by dsimp only;omega)
     ·exact Next.mk (k+1,false,m,dn,[]) (by kernel_rfl) ⟨by omega,fun _=>⟨rfl,rfl,rfl,by rw [hnk,if_neg (by rw [show (!gt dn k)=false by assumption,Bool.false_and];exact Bool.false_ne_true)]⟩,fun h=>by cases h⟩ (by dsimp only;omega)
    ·rw [List.drop_of_length_le (by omega),nxt] at hnk
     repeat' (with_reducible first|refine Wx.h ?_|refine Wb.h fun K hK=>?_|(refine hK _ ?_;clear hK K)|(refine wT ?_ ?_;assumption)|(refine wF ?_ ?_;assumption)|(refine Wy.h ?_ ?_;kernel_rfl)|refine Wq.h ?_ ?_<;>intro h<;>try (exfalso;omega)|refine Wu.h ?_ ?_<;>intro h<;>try simp only [h]|((fail_if_success refine Wz.h ?_);first|simp (disch:=omega) only [↓LD,LA,a0A,seval,fG,outT]|(refine And.intro ?_ ?_;omega)|simp only [D.int,D.bool]))
     exact Next.mk (false,m,dn,[]) (by kernel_rfl) ⟨hd,ho,hop,hr,fun _=>by dsimp only;rw [hr,r0d (by omega)]⟩ (by simp)
  ·repeat' (with_reducible first|refine Wx.h ?_|refine Wb.h fun K hK=>?_|(refine hK _ ?_;clear hK K)|(refine wT ?_ ?_;assumption)|(refine wF ?_ ?_;assumption)|(refine Wy.h ?_ ?_;kernel_rfl)|refine Wq.h ?_ ?_<;>intro h<;>try (exfalso;omega)|refine Wu.h ?_ ?_<;>intro h<;>try simp only [h]|((fail_if_success refine Wz.h ?_);first|simp (disch:=omega) only [↓LD,LA,a0A,seval,fG,outT]|(refine And.intro ?_ ?_;omega)|simp only [D.int,D.bool]))
   refine HS.loopG [0,3,4,5,6] (fun x:Nat × Bool × Nat × List Bool × List Int=>⟨frm 42 [(0,.f (fG ds)),(3,.sl 0 0 ds.length),(4,(outT x.2.2.2.1 x.2.2.1 x.2.2.2.2).1),(5,D.bool x.2.1),(6,D.int x.1)],(outT x.2.2.2.1 x.2.2.1 x.2.2.2.2).2,[]⟩)
    (fun x=>x.1≤ds.length∧(x.2.1=false→x.2.2.1=n∧x.2.2.2.1=done∧x.2.2.2.2=(a :: l)∧nxt done 0 ds=nxt done x.1 (ds.drop x.1))∧(x.2.1=true→0≤nxt done 0 ds∧x.2.2.1=n+1∧x.2.2.2.1=done.set (nxt done 0 ds).toNat true∧x.2.2.2.2=(a :: l)++[nxt done 0 ds])) (fun x=>ds.length-x.1) (0,false,n,done,(a :: l)) (by kernel_rfl)
    ⟨Nat.zero_le _,fun _=>⟨rfl,rfl,rfl,rfl⟩,fun h=>by cases h⟩ ?_
   rintro ⟨k,ag,m,dn,ot⟩ ⟨hk,hf,ht⟩
   dsimp only at hk hf ht
   cases ag with
   | true =>
    obtain ⟨h0,rfl,rfl,rfl⟩:=ht rfl
    have hnx:=hnx h0
    repeat' (with_reducible first|refine Wx.h ?_|refine Wb.h fun K hK=>?_|(refine hK _ ?_;clear hK K)|(refine wT ?_ ?_;assumption)|(refine wF ?_ ?_;assumption)|(refine Wy.h ?_ ?_;kernel_rfl)|refine Wq.h ?_ ?_<;>intro h<;>try (exfalso;omega)|refine Wu.h ?_ ?_<;>intro h<;>try simp only [h]|((fail_if_success refine Wz.h ?_);first|simp (disch:=omega) only [↓LD,LA,a0A,seval,fG,outT]|(refine And.intro ?_ ?_;omega)|simp only [D.int,D.bool]))
    all_goals
     refine Next.mk (true,n+1,done.set (nxt done 0 ds).toNat true,(a :: l)++[nxt done 0 ds]) (by kernel_rfl) ⟨by dsimp only;rw [List.length_set,hd],by simp [←ho],by dsimp only;omega,?_,fun h=>by cases h⟩ (by simp;omega)
     rw [hr,←hnx,ordF,if_neg (by omega)]
   | false =>
    obtain ⟨rfl,rfl,rfl,hnk⟩:=hf rfl
    by_cases hkl:k<ds.length
    ·rw [a0G hkl,nxt] at hnk
     repeat' (with_reducible first|refine Wx.h ?_|refine Wb.h fun K hK=>?_|(refine hK _ ?_;clear hK K)|(refine wT ?_ ?_;assumption)|(refine wF ?_ ?_;assumption)|(refine Wy.h ?_ ?_;kernel_rfl)|refine Wq.h ?_ ?_<;>intro h<;>try (exfalso;omega)|refine Wu.h ?_ ?_<;>intro h<;>try simp only [h]|((fail_if_success refine Wz.h ?_);first|simp (disch:=omega) only [↓LD,LA,a0A,seval,fG,outT,b0H,c0S,b0P,b0O,b0J,-a0A]|(refine And.intro ?_ ?_;omega)|simp only [D.int,D.bool]))
     ·refine a0W (d0B (gt ds k) dn (hp _ (a0L hkl)) (hn _ (a0L hkl))) (.cons (Vw.ags (.cons .f (.cons .f (.cons .f .nil)))) (.cons (hd ▸ .sl rfl (fun e=>by omega)) .nil)) ?_ ?_
      ·rintro _ _ ⟨rfl,rfl⟩
       exact ⟨.f .v,by simp⟩
      rintro _ _ ⟨rfl,rfl⟩
      repeat' (with_reducible first|refine Wx.h ?_|refine Wb.h fun K hK=>?_|(refine hK _ ?_;clear hK K)|(refine wT ?_ ?_;assumption)|(refine wF ?_ ?_;assumption)|(refine Wy.h ?_ ?_;kernel_rfl)|refine Wq.h ?_ ?_<;>intro h<;>try (exfalso;omega)|refine Wu.h ?_ ?_<;>intro h<;>try simp only [h]|((fail_if_success refine Wz.h ?_);first|simp (disch:=omega) only [↓LD,LA,a0A,seval,fG,outT,List.append_nil]|(refine And.intro ?_ ?_;omega)|simp only [D.int,D.bool]))
      ·have hz:nxt dn 0 ds=(k:Int):=by rw [hnk,if_pos (by rw [Bool.and_eq_true];exact ⟨by assumption,by assumption⟩)]
       subst ho
       refine Next.mk (k+1,true,(l.length+1)+1,dn.set k true,(a :: l)++[(k:Int)]) (by kernel_rfl) ⟨by omega,?_,?_⟩ (by dsimp only;omega)
       ·intro h;cases h
       ·intro _;rw [hz];exact ⟨by omega,rfl,by simp,rfl⟩
      ·exact Next.mk (k+1,false,m,dn,(a :: l)) (by kernel_rfl) ⟨by omega,fun _=>⟨rfl,rfl,rfl,by rw [hnk,if_neg (by rw [show metB dn (gt ds k).ns=false by assumption,Bool.and_false];exact Bool.false_ne_true)]⟩,fun h=>by cases h⟩ (by dsimp only;omega)
     ·exact Next.mk (k+1,false,m,dn,(a :: l)) (by kernel_rfl) ⟨by omega,fun _=>⟨rfl,rfl,rfl,by rw [hnk,if_neg (by rw [show (!gt dn k)=false by assumption,Bool.false_and];exact Bool.false_ne_true)]⟩,fun h=>by cases h⟩ (by dsimp only;omega)
    ·rw [List.drop_of_length_le (by omega),nxt] at hnk
     repeat' (with_reducible first|refine Wx.h ?_|refine Wb.h fun K hK=>?_|(refine hK _ ?_;clear hK K)|(refine wT ?_ ?_;assumption)|(refine wF ?_ ?_;assumption)|(refine Wy.h ?_ ?_;kernel_rfl)|refine Wq.h ?_ ?_<;>intro h<;>try (exfalso;omega)|refine Wu.h ?_ ?_<;>intro h<;>try simp only [h]|((fail_if_success refine Wz.h ?_);first|simp (disch:=omega) only [↓LD,LA,a0A,seval,fG,outT]|(refine And.intro ?_ ?_;omega)|simp only [D.int,D.bool]))
     exact Next.mk (false,m,dn,(a :: l)) (by kernel_rfl) ⟨hd,ho,hop,hr,fun _=>by dsimp only;rw [hr,r0d (by omega)]⟩ (by simp)
def lstI (ns:List Int)(k:Nat):Int:=if k=0 then -1 else gt ns (k-1)
theorem i0E {d:Nd}{n:Int}:a0x d n=(rise n (-1) d.ns&&(decide (1≤d.tr)&&decide (d.tr≤5)&&decide (1≤d.le)&&decide (d.le≤1048576))):=rfl
set_option maxRecDepth 100000 in
theorem t0N (ds:List Nd)(hf:Fit ds):Con Tryz.prog 104 [.f (fG ds)] [] fun r H'=>r=D.int (a0p ds)∧H'=[]:=by
 obtain ⟨hl,hn⟩:=hf
 refine Con.walk good p0o (by simp) ?_
 unfold i0e
 simp only [a0K,List.length_cons,List.length_nil,Nat.reduceAdd]
 by_cases h18:ds.length<1∨8<ds.length
 ·have hc:a0p ds=1:=if_pos h18
  repeat' (with_reducible first|refine Wx.h ?_|refine Wb.h fun K hK=>?_|(refine hK _ ?_;clear hK K)|(refine wT ?_ ?_;assumption)|(refine wF ?_ ?_;assumption)|(refine Wy.h ?_ ?_;kernel_rfl)|refine Wq.h ?_ ?_<;>intro h<;>try (exfalso;omega)|refine Wu.h ?_ ?_<;>intro h<;>try simp only [h]|((fail_if_success refine Wz.h ?_);first|simp (disch:=omega) only [↓LD,LA,a0A,seval,fG]|(refine And.intro ?_ ?_;omega)|simp only [D.int,D.bool]))
  all_goals exact end1 rfl rfl (by kernel_rfl) .f ⟨by rw [hc];try rfl,rfl⟩
 have hc1:ds.all (fun d=>a0x d ds.length)=false→a0p ds=1:=fun h=>by rw [a0p,if_neg h18,if_pos h]
 repeat' (with_reducible first|refine Wx.h ?_|refine Wb.h fun K hK=>?_|(refine hK _ ?_;clear hK K)|(refine wT ?_ ?_;assumption)|(refine wF ?_ ?_;assumption)|(refine Wy.h ?_ ?_;kernel_rfl)|refine Wq.h ?_ ?_<;>intro h<;>try (exfalso;omega)|refine Wu.h ?_ ?_<;>intro h<;>try simp only [h]|((fail_if_success refine Wz.h ?_);first|simp (disch:=omega) only [↓LD,LA,a0A,seval,fG]|(refine And.intro ?_ ?_;omega)|simp only [D.int,D.bool]))
 refine HS.loopG [0,3] (fun i:Nat=>⟨frm 89 [(0,.f (fG ds)),(3,D.int i)],[],[]⟩)
  (fun i=>i≤ds.length∧ds.all (fun d=>a0x d ds.length)=(ds.drop i).all (fun d=>a0x d ds.length)) (fun i=>ds.length-i) 0 (by kernel_rfl) ⟨Nat.zero_le _,rfl⟩ ?_
 rintro i ⟨hi,ha⟩
 by_cases hil:i<ds.length
 ·have hnl:=hn _ (a0L hil)
  rw [a0G hil,List.all_cons,i0E] at ha
  by_cases htl:1≤(gt ds i).tr∧(gt ds i).tr≤5∧1≤(gt ds i).le∧(gt ds i).le≤1048576
  rotate_left
  ·have hc:=hc1 (by rw [ha,show (decide (1≤(gt ds i).tr)&&decide ((gt ds i).tr≤5)&&decide (1≤(gt ds i).le)&&decide ((gt ds i).le≤1048576))=false by simp only [Bool.and_eq_false_iff,decide_eq_false_iff_not];omega,Bool.and_false,Bool.false_and])
   repeat' (with_reducible first|refine Wx.h ?_|refine Wb.h fun K hK=>?_|(refine hK _ ?_;clear hK K)|(refine wT ?_ ?_;assumption)|(refine wF ?_ ?_;assumption)|(refine Wy.h ?_ ?_;kernel_rfl)|refine Wq.h ?_ ?_<;>intro h<;>try (exfalso;omega)|refine Wu.h ?_ ?_<;>intro h<;>try simp only [h]|((fail_if_success refine Wz.h ?_);first|simp (disch:=omega) only [↓LD,LA,a0A,seval,fG,b0H,c0S,b0P,b0O,b0J,-a0A]|(refine And.intro ?_ ?_;omega)|simp only [D.int,D.bool]))
   all_goals exact end1 rfl rfl (by kernel_rfl) .f ⟨by rw [hc];try rfl,rfl⟩
  rw [show (decide (1≤(gt ds i).tr)&&decide ((gt ds i).tr≤5)&&decide (1≤(gt ds i).le)&&decide ((gt ds i).le≤1048576))=true by simp only [Bool.and_eq_true,decide_eq_true_eq];omega,Bool.and_true] at ha
  repeat' (with_reducible first|refine Wx.h ?_|refine Wb.h fun K hK=>?_|(refine hK _ ?_;clear hK K)|(refine wT ?_ ?_;assumption)|(refine wF ?_ ?_;assumption)|(refine Wy.h ?_ ?_;kernel_rfl)|refine Wq.h ?_ ?_<;>intro h<;>try (exfalso;omega)|refine Wu.h ?_ ?_<;>intro h<;>try simp only [h]|((fail_if_success refine Wz.h ?_);first|simp (disch:=omega) only [↓LD,LA,a0A,seval,fG,b0H,c0S,b0P,b0O,b0J,-a0A]|(refine And.intro ?_ ?_;omega)|simp only [D.int,D.bool]))
  refine HS.loopG [0,3,4,5] (fun k:Nat=>⟨frm 89 [(0,.f (fG ds)),(3,D.int i),(4,.pt 0 0),(5,D.int k)],[.box 123 [.f (fI (gt ds i).ns),D.int (gt ds i).tr,D.int (gt ds i).le]],[]⟩)
   (fun k=>k≤(gt ds i).ns.length ∧ -1≤lstI (gt ds i).ns k∧rise ds.length (-1) (gt ds i).ns=rise ds.length (lstI (gt ds i).ns k) ((gt ds i).ns.drop k)) (fun k=>(gt ds i).ns.length-k) 0 (by kernel_rfl) ⟨Nat.zero_le _,by simp [lstI],rfl⟩ ?_
  rintro k ⟨hk,hlb,hrs⟩
  by_cases hkl:k<(gt ds i).ns.length
  ·rw [a0G hkl,rise] at hrs
   have hl1:lstI (gt ds i).ns (k+1)=gt (gt ds i).ns k:=by rw [lstI,if_neg (by omega)];try rfl
   by_cases hgd:lstI (gt ds i).ns k<gt (gt ds i).ns k∧gt (gt ds i).ns k<ds.length
   ·rw [decide_eq_true hgd.1,decide_eq_true hgd.2,←hl1] at hrs
    by_cases hk0:k=0
    ·subst hk0
     repeat' (with_reducible first|refine Wx.h ?_|refine We.h fun K hK=>?_|refine Wd.h fun K M hK hM=>?_|(refine hK _ _ _ _ ?_;clear hK K;try clear hM M)|(refine hM ?_;clear hM M;try clear hK K)|refine Wb.h fun K hK=>?_|(refine hK _ ?_;clear hK K)|(refine wT ?_ ?_;assumption)|(refine wF ?_ ?_;assumption)|(refine Wy.h ?_ ?_;kernel_rfl)|refine Wq.h ?_ ?_<;>intro h<;>try (exfalso;omega)|refine Wu.h ?_ ?_<;>intro h<;>try simp only [h]|((fail_if_success refine Wz.h ?_);first|simp (disch:=omega) only [↓LD,LA,a0A,seval,fG,fI]|(refine And.intro ?_ ?_;omega)|simp only [D.int,D.bool]))
     exact Next.mk 1 (by kernel_rfl) ⟨by omega,by rw [hl1];omega,by rw [hrs];try rfl⟩ (by omega)
    ·have hl2:lstI (gt ds i).ns k=gt (gt ds i).ns ((k:Int)-1).toNat:=by rw [lstI,if_neg hk0,show ((k:Int)-1).toNat=k-1 by omega]
     repeat' (with_reducible first|refine Wx.h ?_|refine We.h fun K hK=>?_|refine Wd.h fun K M hK hM=>?_|(refine hK _ _ _ _ ?_;clear hK K;try clear hM M)|(refine hM ?_;clear hM M;try clear hK K)|refine Wb.h fun K hK=>?_|(refine hK _ ?_;clear hK K)|(refine wT ?_ ?_;assumption)|(refine wF ?_ ?_;assumption)|(refine Wy.h ?_ ?_;kernel_rfl)|refine Wq.h ?_ ?_<;>intro h<;>try (exfalso;omega)|refine Wu.h ?_ ?_<;>intro h<;>try simp only [h]|((fail_if_success refine Wz.h ?_);first|simp (disch:=omega) only [↓LD,LA,a0A,seval,fG,fI]|(refine And.intro ?_ ?_;omega)|simp only [D.int,D.bool]))
     exact Next.mk (k+1) (by kernel_rfl) ⟨by omega,by rw [hl1];omega,by rw [hrs];try rfl⟩ (by omega)
   ·have hc:=hc1 (by rw [ha,hrs,show (decide (lstI (gt ds i).ns k<gt (gt ds i).ns k)&&decide (gt (gt ds i).ns k<ds.length))=false by simp only [Bool.and_eq_false_iff,decide_eq_false_iff_not];omega,Bool.false_and,Bool.false_and])
    by_cases hk0:k=0
    ·subst hk0
     have hl2:lstI (gt ds i).ns 0 = -1:=rfl
     repeat' (with_reducible first|refine Wx.h ?_|refine We.h fun K hK=>?_|refine Wd.h fun K M hK hM=>?_|(refine hK _ _ _ _ ?_;clear hK K;try clear hM M)|(refine hM ?_;clear hM M;try clear hK K)|refine Wb.h fun K hK=>?_|(refine hK _ ?_;clear hK K)|(refine wT ?_ ?_;assumption)|(refine wF ?_ ?_;assumption)|(refine Wy.h ?_ ?_;kernel_rfl)|refine Wq.h ?_ ?_<;>intro h<;>try (exfalso;omega)|refine Wu.h ?_ ?_<;>intro h<;>try simp only [h]|((fail_if_success refine Wz.h ?_);first|simp (disch:=omega) only [↓LD,LA,a0A,seval,fG,fI]|(refine And.intro ?_ ?_;omega)|simp only [D.int,D.bool]))
     all_goals exact end1 rfl rfl (by kernel_rfl) .f ⟨by rw [hc];try rfl,rfl⟩
    ·have hl2:lstI (gt ds i).ns k=gt (gt ds i).ns ((k:Int)-1).toNat:=by rw [lstI,if_neg hk0,show ((k:Int)-1).toNat=k-1 by omega]
     repeat' (with_reducible first|refine Wx.h ?_|refine We.h fun K hK=>?_|refine Wd.h fun K M hK hM=>?_|(refine hK _ _ _ _ ?_;clear hK K;try clear hM M)|(refine hM ?_;clear hM M;try clear hK K)|refine Wb.h fun K hK=>?_|(refine hK _ ?_;clear hK K)|(refine wT ?_ ?_;assumption)|(refine wF ?_ ?_;assumption)|(refine Wy.h ?_ ?_;kernel_rfl)|refine Wq.h ?_ ?_<;>intro h<;>try (exfalso;omega)|refine Wu.h ?_ ?_<;>intro h<;>try simp only [h]|((fail_if_success refine Wz.h ?_);first|simp (disch:=omega) only [↓LD,LA,a0A,seval,fG,fI]|(refine And.intro ?_ ?_;omega)|simp only [D.int,D.bool]))
     all_goals exact end1 rfl rfl (by kernel_rfl) .f ⟨by rw [hc];try rfl,rfl⟩
  ·rw [List.drop_of_length_le (by omega),rise] at hrs
   rw [hrs,Bool.true_and] at ha
   repeat' (with_reducible first|refine Wx.h ?_|refine Wb.h fun K hK=>?_|(refine hK _ ?_;clear hK K)|(refine wT ?_ ?_;assumption)|(refine wF ?_ ?_;assumption)|(refine Wy.h ?_ ?_;kernel_rfl)|refine Wq.h ?_ ?_<;>intro h<;>try (exfalso;omega)|refine Wu.h ?_ ?_<;>intro h<;>try simp only [h]|((fail_if_success refine Wz.h ?_);first|simp (disch:=omega) only [↓LD,LA,a0A,seval,fG,fI]|(refine And.intro ?_ ?_;omega)|simp only [D.int,D.bool]))
   exact Next.mk (i+1) (by kernel_rfl) ⟨by omega,ha⟩ (by omega)
 ·rw [List.drop_of_length_le (by omega),List.all_nil] at ha
  have hp:=b1V ha
  have hck:a0p ds=if (f0Y ds).length<ds.length then 9 else 0:=by rw [a0p,if_neg h18,if_neg (by rw [ha];simp)]
  repeat' (with_reducible first|refine Wx.h ?_|refine Wb.h fun K hK=>?_|(refine hK _ ?_;clear hK K)|(refine wT ?_ ?_;assumption)|(refine wF ?_ ?_;assumption)|(refine Wy.h ?_ ?_;kernel_rfl)|refine Wq.h ?_ ?_<;>intro h<;>try (exfalso;omega)|refine Wu.h ?_ ?_<;>intro h<;>try simp only [h]|((fail_if_success refine Wz.h ?_);first|simp (disch:=omega) only [↓LD,LA,a0A,seval,fG]|(refine And.intro ?_ ?_;omega)|simp only [D.int,D.bool]))
  refine a0y (t0M ds ⟨hl,hn⟩ hp) ?_
  rintro _ _ ⟨rfl,rfl⟩
  repeat' (with_reducible first|refine Wx.h ?_|refine Wb.h fun K hK=>?_|(refine hK _ ?_;clear hK K)|(refine wT ?_ ?_;assumption)|(refine wF ?_ ?_;assumption)|(refine Wy.h ?_ ?_;kernel_rfl)|refine Wq.h ?_ ?_<;>intro h<;>try (exfalso;omega)|refine Wu.h ?_ ?_<;>intro h<;>try simp only [h]|((fail_if_success refine Wz.h ?_);first|simp (disch:=omega) only [↓LD,LA,a0A,seval,fG,fI]|(refine And.intro ?_ ?_;omega)|simp only [D.int,D.bool]))
  ·exact end1 rfl rfl (by kernel_rfl) .f ⟨by rw [hck,if_pos (by omega)];try rfl,rfl⟩
  ·exact end1 rfl rfl (by kernel_rfl) .f ⟨by rw [hck,if_neg (by omega)];try rfl,rfl⟩
theorem i0M (ds:List Nd)(done:List Bool)(hf:Fit ds)(hp:Pos ds)(hd:done.length<140737488355328):Con Tryz.prog 164 [.f (fG ds),.f (fB done)] [] fun r H'=>r = .f (fI (rdy done 0 ds))∧H'=[]:=by
 obtain ⟨hl,hn⟩:=hf
 refine Con.walk good o0d (by simp) ?_
 unfold i0O
 simp only [a0K,List.length_cons,List.length_nil,Nat.reduceAdd]
 repeat' (with_reducible first|refine Wx.h ?_|refine Wb.h fun K hK=>?_|(refine hK _ ?_;clear hK K)|(refine wT ?_ ?_;assumption)|(refine wF ?_ ?_;assumption)|(refine Wy.h ?_ ?_;kernel_rfl)|refine Wq.h ?_ ?_<;>intro h<;>try (exfalso;omega)|refine Wu.h ?_ ?_<;>intro h<;>try simp only [h]|((fail_if_success refine Wz.h ?_);first|simp (disch:=omega) only [↓LD,LA,a0A,seval]|(refine And.intro ?_ ?_;omega)|simp only [D.int,D.bool]))
 refine HS.loopG [0,1,5,6] (fun x:Nat × Nat × List Int=>⟨frm 37 [(0,.f (fG ds)),(1,.f (fB done)),(5,(outR x.2.1 x.2.2).1),(6,D.int x.1)],(outR x.2.1 x.2.2).2,[]⟩)
  (fun x=>x.1≤ds.length∧x.2.2.length=x.2.1∧x.2.1≤x.1∧rdy done 0 ds=x.2.2++rdy done x.1 (ds.drop x.1)) (fun x=>ds.length-x.1) (0,0,[]) (by kernel_rfl) ⟨Nat.zero_le _,rfl,Nat.le_refl _,rfl⟩ ?_
 rintro ⟨k,n,out⟩ ⟨hk,ho,hnk,hr⟩
 dsimp only at hk ho hnk hr
 rcases out with _|⟨a,l⟩
 ·try simp only [List.length_cons] at ho
  repeat' (with_reducible first|refine Wx.h ?_|refine Wb.h fun K hK=>?_|(refine hK _ ?_;clear hK K)|(refine wT ?_ ?_;assumption)|(refine wF ?_ ?_;assumption)|(refine Wy.h ?_ ?_;kernel_rfl)|refine Wq.h ?_ ?_<;>intro h<;>try (exfalso;omega)|refine Wu.h ?_ ?_<;>intro h<;>try simp only [h]|((fail_if_success refine Wz.h ?_);first|simp (disch:=omega) only [↓LD,LA,a0A,seval,fG,fB,outR,b0H,c0S,b0P,b0O,b0J,-a0A]|(refine And.intro ?_ ?_;omega)|simp only [D.int,D.bool]))
  ·have hin:inB done k=false:=o0X (by omega)
   refine a0W (d0B (gt ds k) done (hp _ (a0L (by omega))) (hn _ (a0L (by omega)))) (.cons (Vw.ags (.cons .f (.cons .f (.cons .f .nil)))) (.cons .f .nil)) ?_ ?_
   ·rintro _ _ ⟨rfl,rfl⟩
    exact ⟨.f .v,by simp⟩
   rintro _ _ ⟨rfl,rfl⟩
   repeat' (with_reducible first|refine Wx.h ?_|refine Wb.h fun K hK=>?_|(refine hK _ ?_;clear hK K)|(refine wT ?_ ?_;assumption)|(refine wF ?_ ?_;assumption)|(refine Wy.h ?_ ?_;kernel_rfl)|refine Wq.h ?_ ?_<;>intro h<;>try (exfalso;omega)|refine Wu.h ?_ ?_<;>intro h<;>try simp only [h]|((fail_if_success refine Wz.h ?_);first|simp (disch:=omega) only [↓LD,LA,a0A,seval,fG,fB,List.append_nil]|(refine And.intro ?_ ?_;omega)|simp only [D.int,D.bool]))
   ·subst ho
    refine Next.mk (k+1,0+1,[]++[(k:Int)]) (by kernel_rfl) ⟨by omega,by simp,by simp at *<;>omega,?_⟩ (by omega)
    rw [hr,a0G (by omega),rdy,if_pos (by simp [hin,h])];simp
   ·refine Next.mk (k+1,n,[]) (by kernel_rfl) ⟨by omega,ho,by dsimp only;omega,?_⟩ (by omega)
    rw [hr,a0G (by omega),rdy,if_neg (by simp [hin,h])]
  ·have hin:inB done k=false:=by rw [h0U (by omega)];simpa using h
   refine a0W (d0B (gt ds k) done (hp _ (a0L (by omega))) (hn _ (a0L (by omega)))) (.cons (Vw.ags (.cons .f (.cons .f (.cons .f .nil)))) (.cons .f .nil)) ?_ ?_
   ·rintro _ _ ⟨rfl,rfl⟩
    exact ⟨.f .v,by simp⟩
   rintro _ _ ⟨rfl,rfl⟩
   repeat' (with_reducible first|refine Wx.h ?_|refine Wb.h fun K hK=>?_|(refine hK _ ?_;clear hK K)|(refine wT ?_ ?_;assumption)|(refine wF ?_ ?_;assumption)|(refine Wy.h ?_ ?_;kernel_rfl)|refine Wq.h ?_ ?_<;>intro h<;>try (exfalso;omega)|refine Wu.h ?_ ?_<;>intro h<;>try simp only [h]|((fail_if_success refine Wz.h ?_);first|simp (disch:=omega) only [↓LD,LA,a0A,seval,fG,fB,List.append_nil]|(refine And.intro ?_ ?_;omega)|simp only [D.int,D.bool]))
   ·subst ho
    refine Next.mk (k+1,0+1,[]++[(k:Int)]) (by kernel_rfl) ⟨by omega,by simp,by simp at *<;>omega,?_⟩ (by omega)
    rw [hr,a0G (by omega),rdy,if_pos (by simp [hin,h])];simp
   ·refine Next.mk (k+1,n,[]) (by kernel_rfl) ⟨by omega,ho,by dsimp only;omega,?_⟩ (by omega)
    rw [hr,a0G (by omega),rdy,if_neg (by simp [hin,h])]
  ·have hin:inB done k=true:=by rw [h0U (by omega)];simpa using h
   refine Next.mk (k+1,n,[]) (by kernel_rfl) ⟨by omega,ho,by dsimp only;omega,?_⟩ (by omega)
   rw [hr,a0G (by omega),rdy,if_neg (by simp [hin])]
  ·refine end1 rfl rfl (by kernel_rfl) (.nil) ⟨congrArg D.f ?_,rfl⟩
   rw [hr,(List.drop_of_length_le (by omega):List.drop k ds=[]),rdy,List.append_nil]
   first|rfl|(unfold fI;rw [←ho];try rfl)
 ·try simp only [List.length_cons] at ho
  repeat' (with_reducible first|refine Wx.h ?_|refine Wb.h fun K hK=>?_|(refine hK _ ?_;clear hK K)|(refine wT ?_ ?_;assumption)|(refine wF ?_ ?_;assumption)|(refine Wy.h ?_ ?_;kernel_rfl)|refine Wq.h ?_ ?_<;>intro h<;>try (exfalso;omega)|refine Wu.h ?_ ?_<;>intro h<;>try simp only [h]|((fail_if_success refine Wz.h ?_);first|simp (disch:=omega) only [↓LD,LA,a0A,seval,fG,fB,outR,b0H,c0S,b0P,b0O,b0J,-a0A]|(refine And.intro ?_ ?_;omega)|simp only [D.int,D.bool]))
  ·have hin:inB done k=false:=o0X (by omega)
   refine a0W (d0B (gt ds k) done (hp _ (a0L (by omega))) (hn _ (a0L (by omega)))) (.cons (Vw.ags (.cons .f (.cons .f (.cons .f .nil)))) (.cons .f .nil)) ?_ ?_
   ·rintro _ _ ⟨rfl,rfl⟩
    exact ⟨.f .v,by simp⟩
   rintro _ _ ⟨rfl,rfl⟩
   repeat' (with_reducible first|refine Wx.h ?_|refine Wb.h fun K hK=>?_|(refine hK _ ?_;clear hK K)|(refine wT ?_ ?_;assumption)|(refine wF ?_ ?_;assumption)|(refine Wy.h ?_ ?_;kernel_rfl)|refine Wq.h ?_ ?_<;>intro h<;>try (exfalso;omega)|refine Wu.h ?_ ?_<;>intro h<;>try simp only [h]|((fail_if_success refine Wz.h ?_);first|simp (disch:=omega) only [↓LD,LA,a0A,seval,fG,fB,List.append_nil]|(refine And.intro ?_ ?_;omega)|simp only [D.int,D.bool]))
   ·subst ho
    refine Next.mk (k+1,(l.length+1)+1,(a :: l)++[(k:Int)]) (by kernel_rfl) ⟨by omega,by simp,by simp at *<;>omega,?_⟩ (by omega)
    rw [hr,a0G (by omega),rdy,if_pos (by simp [hin,h])];simp
   ·refine Next.mk (k+1,n,(a :: l)) (by kernel_rfl) ⟨by omega,ho,by dsimp only;omega,?_⟩ (by omega)
    rw [hr,a0G (by omega),rdy,if_neg (by simp [hin,h])]
  ·have hin:inB done k=false:=by rw [h0U (by omega)];simpa using h
   refine a0W (d0B (gt ds k) done (hp _ (a0L (by omega))) (hn _ (a0L (by omega)))) (.cons (Vw.ags (.cons .f (.cons .f (.cons .f .nil)))) (.cons .f .nil)) ?_ ?_
   ·rintro _ _ ⟨rfl,rfl⟩
    exact ⟨.f .v,by simp⟩
   rintro _ _ ⟨rfl,rfl⟩
   repeat' (with_reducible first|refine Wx.h ?_|refine Wb.h fun K hK=>?_|(refine hK _ ?_;clear hK K)|(refine wT ?_ ?_;assumption)|(refine wF ?_ ?_;assumption)|(refine Wy.h ?_ ?_;kernel_rfl)|refine Wq.h ?_ ?_<;>intro h<;>try (exfalso;omega)|refine Wu.h ?_ ?_<;>intro h<;>try simp only [h]|((fail_if_success refine Wz.h ?_);first|simp (disch:=omega) only [↓LD,LA,a0A,seval,fG,fB,List.append_nil]|(refine And.intro ?_ ?_;omega)|simp only [D.int,D.bool]))
   ·subst ho
    refine Next.mk (k+1,(l.length+1)+1,(a :: l)++[(k:Int)]) (by kernel_rfl) ⟨by omega,by simp,by simp at *<;>omega,?_⟩ (by omega)
    rw [hr,a0G (by omega),rdy,if_pos (by simp [hin,h])];simp
   ·refine Next.mk (k+1,n,(a :: l)) (by kernel_rfl) ⟨by omega,ho,by dsimp only;omega,?_⟩ (by omega)
    rw [hr,a0G (by omega),rdy,if_neg (by simp [hin,h])]
  ·have hin:inB done k=true:=by rw [h0U (by omega)];simpa using h
   refine Next.mk (k+1,n,(a :: l)) (by kernel_rfl) ⟨by omega,ho,by dsimp only;omega,?_⟩ (by omega)
   rw [hr,a0G (by omega),rdy,if_neg (by simp [hin])]
  ·refine end1 rfl rfl (by kernel_rfl) (.sl rfl (fun e=>by omega)) ⟨congrArg D.f ?_,rfl⟩
   rw [hr,(List.drop_of_length_le (by omega):List.drop k ds=[]),rdy,List.append_nil]
   first|rfl|(unfold fI;rw [←ho];try rfl)
set_option maxHeartbeats 4000000
theorem c1H {l:List Nn}{i:Nat}{k:Int}(hil:i<l.length):cntL (l.take (i+1)) k=cntL (l.take i) k+(if (gt l i).st=k then 1 else 0):=by
 rw [List.take_succ_eq_append_getElem hil,cntL,List.countP_append,←b0R hil]
 simp [cntL]
theorem g1A {l:List Nn}{i:Nat}{k:Int}(hi:i≤l.length):cntL (l.take i) k≤i:=Nat.le_trans (List.countP_le_length) (by simp;omega)
theorem d0R (s:S12)(k:Int)(hl:s.nodes.length≤1000000):Con Tryz.prog 107 [stD s,D.int k] [] fun r H'=>r=D.int (cntL s.nodes k)∧H'=[]:=by
 obtain ⟨id,ver,time,closed,cancel,defs,nodes,tms,sgs⟩:=s
 dsimp only at hl ⊢
 refine Con.walk good q0t (by simp) ?_
 unfold i0l
 simp only [a0K,stD]
 repeat' (with_reducible first|refine Wx.h ?_|refine Wb.h fun K hK=>?_|(refine hK _ ?_;clear hK K)|(refine wT ?_ ?_;assumption)|(refine wF ?_ ?_;assumption)|(refine Wy.h ?_ ?_;kernel_rfl)|refine Wq.h ?_ ?_<;>intro h<;>try (exfalso;omega)|refine Wu.h ?_ ?_<;>intro h<;>try simp only [h]|((fail_if_success refine Wz.h ?_);first|simp (disch:=omega) only [↓LD,LA,a0A,seval,LSt]|(refine And.intro ?_ ?_;omega)|simp only [D.int,D.bool]))
 refine HS.loopG [1,2,5,6] (fun i:Nat=>⟨frm 25 [(1,D.int k),(2,.pt 0 0),(5,D.int (cntL (nodes.take i) k)),(6,D.int i)],[stF ⟨id,ver,time,closed,cancel,defs,nodes,tms,sgs⟩],[]⟩)
  (fun i=>i≤nodes.length) (fun i=>nodes.length-i) 0 (by kernel_rfl) (Nat.zero_le _) ?_
 rintro i hi
 by_cases hil:i<nodes.length
 ·have hc:=g1A (k:=k) hi
  have hs:=c1H (k:=k) hil
  repeat' (with_reducible first|refine Wx.h ?_|refine Wb.h fun K hK=>?_|(refine hK _ ?_;clear hK K)|(refine wT ?_ ?_;assumption)|(refine wF ?_ ?_;assumption)|(refine Wy.h ?_ ?_;kernel_rfl)|refine Wq.h ?_ ?_<;>intro h<;>try (exfalso;omega)|refine Wu.h ?_ ?_<;>intro h<;>try simp only [h]|((fail_if_success refine Wz.h ?_);first|simp (disch:=omega) only [↓LD,LA,a0A,seval,LSt,stF,b0u,Nn.cs,a0h]|(refine And.intro ?_ ?_;omega)|simp only [D.int,D.bool]))
  ·exact Next.mk (i+1) (by rw [hs,if_pos (by assumption)];kernel_rfl) (by omega) (by omega)
  ·exact Next.mk (i+1) (by rw [hs,if_neg (by assumption)];kernel_rfl) (by omega) (by omega)
 ·repeat' (with_reducible first|refine Wx.h ?_|refine Wb.h fun K hK=>?_|(refine hK _ ?_;clear hK K)|(refine wT ?_ ?_;assumption)|(refine wF ?_ ?_;assumption)|(refine Wy.h ?_ ?_;kernel_rfl)|refine Wq.h ?_ ?_<;>intro h<;>try (exfalso;omega)|refine Wu.h ?_ ?_<;>intro h<;>try simp only [h]|((fail_if_success refine Wz.h ?_);first|simp (disch:=omega) only [↓LD,LA,a0A,seval,LSt,stF]|(refine And.intro ?_ ?_;omega)|simp only [D.int,D.bool]))
  refine end1 rfl rfl (by kernel_rfl) .f ⟨?_,rfl⟩
  rw [List.take_of_length_le (by omega)];try rfl
theorem j0E (s:S12)(nm:Bs)(hl:s.sgs.length≤1000000):Con Tryz.prog 30 [stD s,.f (.v (.string (BB nm)))] [] fun r H'=>r=D.bool (c0i s.sgs nm)∧H'=[]:=by
 obtain ⟨id,ver,time,closed,cancel,defs,nodes,tms,sgs⟩:=s
 dsimp only at hl ⊢
 refine Con.walk good w0z (by simp) ?_
 unfold p0C
 simp only [a0K,stD]
 repeat' (with_reducible first|refine Wx.h ?_|refine Wb.h fun K hK=>?_|(refine hK _ ?_;clear hK K)|(refine wT ?_ ?_;assumption)|(refine wF ?_ ?_;assumption)|(refine Wy.h ?_ ?_;kernel_rfl)|refine Wq.h ?_ ?_<;>intro h<;>try (exfalso;omega)|refine Wu.h ?_ ?_<;>intro h<;>try simp only [h]|((fail_if_success refine Wz.h ?_);first|simp (disch:=omega) only [↓LD,LA,a0A,seval,LSt]|(refine And.intro ?_ ?_;omega)|simp only [D.int,D.bool]))
 refine HS.loopG [1,2,5] (fun i:Nat=>⟨frm 21 [(1,.f (.v (.string (BB nm)))),(2,.pt 0 0),(5,D.int i)],[stF ⟨id,ver,time,closed,cancel,defs,nodes,tms,sgs⟩],[]⟩)
  (fun i=>i≤sgs.length∧c0i sgs nm=c0i (sgs.drop i) nm) (fun i=>sgs.length-i) 0 (by kernel_rfl) ⟨Nat.zero_le _,rfl⟩ ?_
 rintro i ⟨hi,hh⟩
 by_cases hil:i<sgs.length
 ·rw [a0G hil] at hh
  have hh2:c0i (gt sgs i :: sgs.drop (i+1)) nm=(decide ((gt sgs i).name=nm)||c0i (sgs.drop (i+1)) nm):=rfl
  rw [hh2] at hh
  repeat' (with_reducible first|refine Wx.h ?_|refine Wb.h fun K hK=>?_|(refine hK _ ?_;clear hK K)|(refine wT ?_ ?_;assumption)|(refine wF ?_ ?_;assumption)|(refine Wy.h ?_ ?_;kernel_rfl)|refine Wq.h ?_ ?_<;>intro h<;>try (exfalso;omega)|refine Wu.h ?_ ?_<;>intro h<;>try simp only [h]|((fail_if_success refine Wz.h ?_);first|simp (disch:=omega) only [↓LD,LA,a0A,seval,LSt,stF,e1R,Sg.cs,s0O]|(refine And.intro ?_ ?_;omega)|simp only [D.int,D.bool]))
  ·exact end1 rfl rfl (by kernel_rfl) .f ⟨by rw [hh,decide_eq_true (by assumption)];try rfl,rfl⟩
  ·exact Next.mk (i+1) (by kernel_rfl) ⟨by omega,by rw [hh,decide_eq_false (by assumption)];try rfl⟩ (by omega)
 ·repeat' (with_reducible first|refine Wx.h ?_|refine Wb.h fun K hK=>?_|(refine hK _ ?_;clear hK K)|(refine wT ?_ ?_;assumption)|(refine wF ?_ ?_;assumption)|(refine Wy.h ?_ ?_;kernel_rfl)|refine Wq.h ?_ ?_<;>intro h<;>try (exfalso;omega)|refine Wu.h ?_ ?_<;>intro h<;>try simp only [h]|((fail_if_success refine Wz.h ?_);first|simp (disch:=omega) only [↓LD,LA,a0A,seval,LSt,stF]|(refine And.intro ?_ ?_;omega)|simp only [D.int,D.bool]))
  refine end1 rfl rfl (by kernel_rfl) .f ⟨?_,rfl⟩
  rw [hh,List.drop_of_length_le (by omega)];try rfl
theorem t0X (s:S12)(nm:Bs)(hl:s.tms.length≤1000000):Con Tryz.prog 148 [stD s,.f (.v (.string (BB nm)))] [] fun r H'=>r=D.int (tmI s.tms nm)∧H'=[]:=by
 obtain ⟨id,ver,time,closed,cancel,defs,nodes,tms,sgs⟩:=s
 dsimp only at hl ⊢
 refine Con.walk good q0S (by simp) ?_
 unfold j0M
 simp only [a0K,stD]
 repeat' (with_reducible first|refine Wx.h ?_|refine Wb.h fun K hK=>?_|(refine hK _ ?_;clear hK K)|(refine wT ?_ ?_;assumption)|(refine wF ?_ ?_;assumption)|(refine Wy.h ?_ ?_;kernel_rfl)|refine Wq.h ?_ ?_<;>intro h<;>try (exfalso;omega)|refine Wu.h ?_ ?_<;>intro h<;>try simp only [h]|((fail_if_success refine Wz.h ?_);first|simp (disch:=omega) only [↓LD,LA,a0A,seval,LSt]|(refine And.intro ?_ ?_;omega)|simp only [D.int,D.bool]))
 refine HS.loopG [1,2,5] (fun i:Nat=>⟨frm 22 [(1,.f (.v (.string (BB nm)))),(2,.pt 0 0),(5,D.int i)],[stF ⟨id,ver,time,closed,cancel,defs,nodes,tms,sgs⟩],[]⟩)
  (fun i=>i≤tms.length∧tmI tms nm=idxF (fun x:Tm=>decide (x.name=nm)) i (tms.drop i)) (fun i=>tms.length-i) 0 (by kernel_rfl) ⟨Nat.zero_le _,rfl⟩ ?_
 rintro i ⟨hi,hh⟩
 by_cases hil:i<tms.length
 ·rw [a0G hil,idxF] at hh
  repeat' (with_reducible first|refine Wx.h ?_|refine Wb.h fun K hK=>?_|(refine hK _ ?_;clear hK K)|(refine wT ?_ ?_;assumption)|(refine wF ?_ ?_;assumption)|(refine Wy.h ?_ ?_;kernel_rfl)|refine Wq.h ?_ ?_<;>intro h<;>try (exfalso;omega)|refine Wu.h ?_ ?_<;>intro h<;>try simp only [h]|((fail_if_success refine Wz.h ?_);first|simp (disch:=omega) only [↓LD,LA,a0A,seval,LSt,stF,f0y,Tm.cs,e0n]|(refine And.intro ?_ ?_;omega)|simp only [D.int,D.bool]))
  ·exact end1 rfl rfl (by kernel_rfl) .f ⟨by rw [hh,if_pos (by simp [*])];try rfl,rfl⟩
  ·exact Next.mk (i+1) (by kernel_rfl) ⟨by omega,by rw [hh,if_neg (by simp [*])]⟩ (by omega)
 ·repeat' (with_reducible first|refine Wx.h ?_|refine Wb.h fun K hK=>?_|(refine hK _ ?_;clear hK K)|(refine wT ?_ ?_;assumption)|(refine wF ?_ ?_;assumption)|(refine Wy.h ?_ ?_;kernel_rfl)|refine Wq.h ?_ ?_<;>intro h<;>try (exfalso;omega)|refine Wu.h ?_ ?_<;>intro h<;>try simp only [h]|((fail_if_success refine Wz.h ?_);first|simp (disch:=omega) only [↓LD,LA,a0A,seval,LSt,stF]|(refine And.intro ?_ ?_;omega)|simp only [D.int,D.bool]))
  refine end1 rfl rfl (by kernel_rfl) .f ⟨?_,rfl⟩
  rw [hh,List.drop_of_length_le (by omega)];try rfl
def stK (a:Nat)(s:S12):List D:=[D.int s.id,D.int s.ver,D.int s.time,D.int s.closed,D.bool s.cancel,.f (fG s.defs),.sl a 0 s.nodes.length,.f (fTm s.tms),.f (fSg s.sgs)]
def a0a (s:S12):List Int:=if s.closed≠0∨s.cancel=true then [] else (rdy (a0j s.nodes) 0 s.defs).filter (wtB s.nodes)
theorem t0n {done:List Bool}:∀ {k:Nat} {ds:List Nd} {x:Int},x∈rdy done k ds→x<k+ds.length
 | k,[],x,h=>by simp [rdy] at h
 | k,d :: ds,x,h=>by
  simp only [rdy] at h
  simp only [List.length_cons]
  split at h
  ·rcases List.mem_cons.1 h with rfl|h
   ·omega
   ·have:=t0n h;omega
  ·have:=t0n h;omega
theorem o0h {l:List Nn}{i:Nat}(h:i<l.length):a0j (l.take i)++[decide ((gt l i).st=2)]=a0j (l.take (i+1)):=by
 rw [List.take_succ_eq_append_getElem h,←b0R h];simp [a0j]
theorem t0q {l:List Nn}{i:Nat}(h:i≤l.length):(a0j (l.take i)).length=i:=by simp [a0j];omega
theorem g1G {l:List Bool}{b:Bool}:l.map bF++[bF b]=(l++[b]).map bF:=by simp
theorem g0S (s:S12)(hf:Fit s.defs)(hp:Pos s.defs)(hl:s.nodes.length≤1000000)(hnd:s.nodes.length=s.defs.length):Con Tryz.prog 147 [stD s] [] fun r H'=>r = .f (fI (a0a s))∧H'=[]:=by
  obtain ⟨id,ver,time,closed,cancel,defs,nodes,tms,sgs⟩:=s
  dsimp only at hf hl hp hnd ⊢
  refine Con.walk good d0A (by simp) ?_
  unfold c0L
  simp only [stD,stK]
  simp only [a0K]
  repeat' (with_reducible first|refine Wx.h ?_|refine Wb.h fun K hK=>?_|(refine hK _ ?_;clear hK K)|(refine wT ?_ ?_;assumption)|(refine wF ?_ ?_;assumption)|(refine Wy.h ?_ ?_;kernel_rfl)|refine Wq.h ?_ ?_<;>intro h<;>try (exfalso;omega)|refine Wu.h ?_ ?_<;>intro h<;>try simp only [h]|((fail_if_success refine Wz.h ?_);first|simp (disch:=omega) only [↓LD,LA,a0A,seval,LSt]|(refine And.intro ?_ ?_;omega)|simp only [D.int,D.bool]))
  all_goals try (refine end1 rfl rfl (by kernel_rfl) .nil ⟨congrArg D.f ?_,rfl⟩;first|(rw [a0a,if_pos (.inl (by assumption))];try rfl)|(rw [a0a,if_pos (.inr (by assumption))];try rfl))
  have hr:a0a ⟨id,ver,time,closed,cancel,defs,nodes,tms,sgs⟩=(rdy (a0j nodes) 0 defs).filter (wtB nodes):=by
    rw [a0a,if_neg];simp_all
  refine HS.view (View.void 4) ?_
  refine HS.view (View.slot 3 (.sl 1 0 0) (.no (by show 1<1+1;omega))) ?_
  refine HS.loopG [1,3,4] (fun i:Nat=>⟨frm 60 [(1,.pt 0 0),(3,.sl 1 0 i),(4,D.int i)],[]++[stF ⟨id,ver,time,closed,cancel,defs,nodes,tms,sgs⟩,.data 4 ((a0j (nodes.take i)).map bF)],[]⟩)
    (fun i=>i≤nodes.length) (fun i=>nodes.length-i) 0 (by kernel_rfl) (Nat.zero_le _) ?_
  rintro i hi
  by_cases hil:i<nodes.length
  · have hdl:=t0q hi
    have hds:=o0h hil
    repeat' (with_reducible first|refine Wx.h ?_|refine Wb.h fun K hK=>?_|(refine hK _ ?_;clear hK K)|(refine wT ?_ ?_;assumption)|(refine wF ?_ ?_;assumption)|(refine Wy.h ?_ ?_;kernel_rfl)|refine Wq.h ?_ ?_<;>intro h<;>try (exfalso;omega)|refine Wu.h ?_ ?_<;>intro h<;>try simp only [h]|((fail_if_success refine Wz.h ?_);first|simp (disch:=omega) only [↓LD,LA,a0A,seval,LSt,stF,stK,rN,b0u,a0h,Nn.cs,List.length_map,hdl,List.cons_append,List.nil_append]|(refine And.intro ?_ ?_;omega)|simp only [D.int,D.bool]))
    all_goals
      first|rw [decide_eq_true (by assumption)] at hds|rw [decide_eq_false (by assumption)] at hds
      rw [g1G,hds]
      exact Next.mk (i+1) (by kernel_rfl) (by omega) (by omega)
  obtain rfl:i=nodes.length:=by omega
  rw [List.take_length]
  have hdl:(a0j nodes).length=nodes.length:=by simp [a0j]
  refine HS.view (View.fzd 3 (k:=1) (b:=1) (z:=[.bool false]) rfl rfl (by kernel_rfl) (by simp [a0j]) (by omega) (by omega)) ?_
  rw [show F.s ((a0j nodes).map bF) nodes.length=fB (a0j nodes) by rw [fB,hdl]]
  repeat' (with_reducible first|refine Wx.h ?_|refine Wb.h fun K hK=>?_|(refine hK _ ?_;clear hK K)|(refine wT ?_ ?_;assumption)|(refine wF ?_ ?_;assumption)|(refine Wy.h ?_ ?_;kernel_rfl)|refine Wq.h ?_ ?_<;>intro h<;>try (exfalso;omega)|refine Wu.h ?_ ?_<;>intro h<;>try simp only [h]|((fail_if_success refine Wz.h ?_);first|simp (disch:=omega) only [↓LD,LA,a0A,seval,LSt,stF,stK,List.cons_append,List.nil_append]|(refine And.intro ?_ ?_;omega)|simp only [D.int,D.bool]))
  refine a0C (i0M defs (a0j nodes) hf hp (by rw [hdl];omega)) rfl rfl rfl ?_
  repeat' (with_reducible first|refine Wx.h ?_|refine Wb.h fun K hK=>?_|(refine hK _ ?_;clear hK K)|(refine wT ?_ ?_;assumption)|(refine wF ?_ ?_;assumption)|(refine Wy.h ?_ ?_;kernel_rfl)|refine Wq.h ?_ ?_<;>intro h<;>try (exfalso;omega)|refine Wu.h ?_ ?_<;>intro h<;>try simp only [h]|((fail_if_success refine Wz.h ?_);first|simp (disch:=omega) only [↓LD,LA,a0A,seval,LSt,stF,stK,List.cons_append,List.nil_append]|(refine And.intro ?_ ?_;omega)|simp only [D.int,D.bool]))
  have hpos:∀ x∈rdy (a0j nodes) 0 defs,0≤x∧x<nodes.length:=fun x hx=>⟨by have:=g0B hx;omega,by have:=t0n hx;omega⟩
  have hlen:(rdy (a0j nodes) 0 defs).length<1000:=Nat.lt_of_le_of_lt (k0D 0 defs) hf.1
  generalize rdy (a0j nodes) 0 defs=L at *
  refine HS.view (View.void 3) ?_
  refine HS.view (View.slot 5 (.sl 2 0 0) (.no (by show 2<2+1;omega))) ?_
  refine HS.loopG [1,5,6,7] (fun x:Nat × List Int=>⟨frm 60 [(1,.pt 0 0),(5,.sl 1 0 x.2.length),(6,.f (fI L)),(7,D.int x.1)],[]++[stF ⟨id,ver,time,closed,cancel,defs,nodes,tms,sgs⟩,.data 3 (x.2.map iF)],[]⟩)
    (fun x=>x.1≤L.length∧x.2.length≤x.1∧L.filter (wtB nodes)=x.2++(L.drop x.1).filter (wtB nodes)) (fun x=>L.length-x.1) (0,[]) (by kernel_rfl) ⟨Nat.zero_le _,Nat.le_refl _,rfl⟩ ?_
  rintro ⟨i,out⟩ ⟨hi,ho,hF⟩
  dsimp only at hi ho hF
  by_cases hil:i<L.length
  · obtain ⟨hp1,hp2⟩:=hpos _ (a0L hil)
    rw [a0G hil] at hF
    repeat' (with_reducible first|refine Wx.h ?_|refine We.h fun K hK=>?_|refine Wd.h fun K M hK hM=>?_|(refine hK _ _ _ _ ?_;clear hK K;try clear hM M)|(refine hM ?_;clear hM M;try clear hK K)|refine Wb.h fun K hK=>?_|(refine hK _ ?_;clear hK K)|(refine wT ?_ ?_;assumption)|(refine wF ?_ ?_;assumption)|(refine Wy.h ?_ ?_;kernel_rfl)|refine Wq.h ?_ ?_<;>intro h<;>try (exfalso;omega)|refine Wu.h ?_ ?_<;>intro h<;>try simp only [h]|((fail_if_success refine Wz.h ?_);first|simp (disch:=omega) only [↓LD,LA,a0A,seval,LSt,stF,stK,rN,b0u,a0h,Nn.cs,List.cons_append,List.nil_append]|(refine And.intro ?_ ?_;omega)|simp only [D.int,D.bool]))
    all_goals first
      | (have hw:wtB nodes (gt L i)=true:=by unfold wtB;rw [decide_eq_true hp2,decide_eq_true (by assumption)];try rfl
         rw [List.filter_cons_of_pos hw] at hF
         rw [show out.length+1=(out++[gt L i]).length by simp]
         exact Next.mk (i+1,out++[gt L i]) (by kernel_rfl) ⟨by dsimp only;omega,by simp;omega,by dsimp only;rw [hF];simp⟩ (by dsimp only;omega))
      | (have hw:¬ wtB nodes (gt L i)=true:=by unfold wtB;rw [decide_eq_false (p:=(gt nodes (gt L i).toNat).st=0) (by assumption)];simp
         rw [List.filter_cons_of_neg hw] at hF
         exact Next.mk (i+1,out) (by kernel_rfl) ⟨by dsimp only;omega,by dsimp only;omega,hF⟩ (by dsimp only;omega))
  · repeat' (with_reducible first|refine Wx.h ?_|refine Wb.h fun K hK=>?_|(refine hK _ ?_;clear hK K)|(refine wT ?_ ?_;assumption)|(refine wF ?_ ?_;assumption)|(refine Wy.h ?_ ?_;kernel_rfl)|refine Wq.h ?_ ?_<;>intro h<;>try (exfalso;omega)|refine Wu.h ?_ ?_<;>intro h<;>try simp only [h]|((fail_if_success refine Wz.h ?_);first|simp (disch:=omega) only [↓LD,LA,a0A,seval,stF,stK,List.cons_append,List.nil_append]|(refine And.intro ?_ ?_;omega)|simp only [D.int,D.bool]))
    refine end1 rfl rfl (by kernel_rfl) (.sl (T:=3) (xs:=out.map iF) rfl (fun e=>by rw [List.eq_nil_of_length_eq_zero e];try rfl)) ⟨?_,rfl⟩
    rw [hr,hF,show L.drop i=[] from List.drop_of_length_le (by omega),List.filter_nil,List.append_nil];try rfl
theorem g0G (s:S12)(hf:Fit s.defs)(hp:Pos s.defs)(hl:s.nodes.length≤1000000)(hnd:s.nodes.length=s.defs.length):Con Tryz.prog 147 [.ag (stK 0 s)] [rN s.nodes] fun r H'=>r = .f (fI (a0a s))∧H'=[rN s.nodes]:=by
  obtain ⟨id,ver,time,closed,cancel,defs,nodes,tms,sgs⟩:=s
  dsimp only at hf hl hp hnd ⊢
  refine Con.walk good d0A (by simp) ?_
  unfold c0L
  simp only [stD,stK]
  simp only [a0K]
  repeat' (with_reducible first|refine Wx.h ?_|refine Wb.h fun K hK=>?_|(refine hK _ ?_;clear hK K)|(refine wT ?_ ?_;assumption)|(refine wF ?_ ?_;assumption)|(refine Wy.h ?_ ?_;kernel_rfl)|refine Wq.h ?_ ?_<;>intro h<;>try (exfalso;omega)|refine Wu.h ?_ ?_<;>intro h<;>try simp only [h]|((fail_if_success refine Wz.h ?_);first|simp (disch:=omega) only [↓LD,LA,a0A,seval,LSt]|(refine And.intro ?_ ?_;omega)|simp only [D.int,D.bool]))
  all_goals try (refine end1 rfl rfl (by kernel_rfl) .nil ⟨congrArg D.f ?_,rfl⟩;first|(rw [a0a,if_pos (.inl (by assumption))];try rfl)|(rw [a0a,if_pos (.inr (by assumption))];try rfl))
  have hr:a0a ⟨id,ver,time,closed,cancel,defs,nodes,tms,sgs⟩=(rdy (a0j nodes) 0 defs).filter (wtB nodes):=by
    rw [a0a,if_neg];simp_all
  refine HS.view (View.void 4) ?_
  refine HS.view (View.slot 3 (.sl 2 0 0) (.no (by show 2<2+1;omega))) ?_
  refine HS.loopG [1,3,4] (fun i:Nat=>⟨frm 60 [(1,.pt 1 0),(3,.sl 2 0 i),(4,D.int i)],[rN nodes]++[.box 65 (stK 0 ⟨id,ver,time,closed,cancel,defs,nodes,tms,sgs⟩),.data 4 ((a0j (nodes.take i)).map bF)],[]⟩)
    (fun i=>i≤nodes.length) (fun i=>nodes.length-i) 0 (by kernel_rfl) (Nat.zero_le _) ?_
  rintro i hi
  by_cases hil:i<nodes.length
  · have hdl:=t0q hi
    have hds:=o0h hil
    repeat' (with_reducible first|refine Wx.h ?_|refine Wb.h fun K hK=>?_|(refine hK _ ?_;clear hK K)|(refine wT ?_ ?_;assumption)|(refine wF ?_ ?_;assumption)|(refine Wy.h ?_ ?_;kernel_rfl)|refine Wq.h ?_ ?_<;>intro h<;>try (exfalso;omega)|refine Wu.h ?_ ?_<;>intro h<;>try simp only [h]|((fail_if_success refine Wz.h ?_);first|simp (disch:=omega) only [↓LD,LA,a0A,seval,LSt,stF,stK,rN,b0u,a0h,Nn.cs,List.length_map,hdl,List.cons_append,List.nil_append]|(refine And.intro ?_ ?_;omega)|simp only [D.int,D.bool]))
    all_goals
      first|rw [decide_eq_true (by assumption)] at hds|rw [decide_eq_false (by assumption)] at hds
      rw [g1G,hds]
      exact Next.mk (i+1) (by kernel_rfl) (by omega) (by omega)
  obtain rfl:i=nodes.length:=by omega
  rw [List.take_length]
  have hdl:(a0j nodes).length=nodes.length:=by simp [a0j]
  refine HS.view (View.fzd 3 (k:=1) (b:=1) (z:=[.bool false]) rfl rfl (by kernel_rfl) (by simp [a0j]) (by omega) (by omega)) ?_
  rw [show F.s ((a0j nodes).map bF) nodes.length=fB (a0j nodes) by rw [fB,hdl]]
  repeat' (with_reducible first|refine Wx.h ?_|refine Wb.h fun K hK=>?_|(refine hK _ ?_;clear hK K)|(refine wT ?_ ?_;assumption)|(refine wF ?_ ?_;assumption)|(refine Wy.h ?_ ?_;kernel_rfl)|refine Wq.h ?_ ?_<;>intro h<;>try (exfalso;omega)|refine Wu.h ?_ ?_<;>intro h<;>try simp only [h]|((fail_if_success refine Wz.h ?_);first|simp (disch:=omega) only [↓LD,LA,a0A,seval,LSt,stF,stK,List.cons_append,List.nil_append]|(refine And.intro ?_ ?_;omega)|simp only [D.int,D.bool]))
  refine a0C (i0M defs (a0j nodes) hf hp (by rw [hdl];omega)) rfl rfl rfl ?_
  repeat' (with_reducible first|refine Wx.h ?_|refine Wb.h fun K hK=>?_|(refine hK _ ?_;clear hK K)|(refine wT ?_ ?_;assumption)|(refine wF ?_ ?_;assumption)|(refine Wy.h ?_ ?_;kernel_rfl)|refine Wq.h ?_ ?_<;>intro h<;>try (exfalso;omega)|refine Wu.h ?_ ?_<;>intro h<;>try simp only [h]|((fail_if_success refine Wz.h ?_);first|simp (disch:=omega) only [↓LD,LA,a0A,seval,LSt,stF,stK,List.cons_append,List.nil_append]|(refine And.intro ?_ ?_;omega)|simp only [D.int,D.bool]))
  have hpos:∀ x∈rdy (a0j nodes) 0 defs,0≤x∧x<nodes.length:=fun x hx=>⟨by have:=g0B hx;omega,by have:=t0n hx;omega⟩
  have hlen:(rdy (a0j nodes) 0 defs).length<1000:=Nat.lt_of_le_of_lt (k0D 0 defs) hf.1
  generalize rdy (a0j nodes) 0 defs=L at *
  refine HS.view (View.void 3) ?_
  refine HS.view (View.slot 5 (.sl 3 0 0) (.no (by show 3<3+1;omega))) ?_
  refine HS.loopG [1,5,6,7] (fun x:Nat × List Int=>⟨frm 60 [(1,.pt 1 0),(5,.sl 2 0 x.2.length),(6,.f (fI L)),(7,D.int x.1)],[rN nodes]++[.box 65 (stK 0 ⟨id,ver,time,closed,cancel,defs,nodes,tms,sgs⟩),.data 3 (x.2.map iF)],[]⟩)
    (fun x=>x.1≤L.length∧x.2.length≤x.1∧L.filter (wtB nodes)=x.2++(L.drop x.1).filter (wtB nodes)) (fun x=>L.length-x.1) (0,[]) (by kernel_rfl) ⟨Nat.zero_le _,Nat.le_refl _,rfl⟩ ?_
  rintro ⟨i,out⟩ ⟨hi,ho,hF⟩
  dsimp only at hi ho hF
  by_cases hil:i<L.length
  · obtain ⟨hp1,hp2⟩:=hpos _ (a0L hil)
    rw [a0G hil] at hF
    repeat' (with_reducible first|refine Wx.h ?_|refine We.h fun K hK=>?_|refine Wd.h fun K M hK hM=>?_|(refine hK _ _ _ _ ?_;clear hK K;try clear hM M)|(refine hM ?_;clear hM M;try clear hK K)|refine Wb.h fun K hK=>?_|(refine hK _ ?_;clear hK K)|(refine wT ?_ ?_;assumption)|(refine wF ?_ ?_;assumption)|(refine Wy.h ?_ ?_;kernel_rfl)|refine Wq.h ?_ ?_<;>intro h<;>try (exfalso;omega)|refine Wu.h ?_ ?_<;>intro h<;>try simp only [h]|((fail_if_success refine Wz.h ?_);first|simp (disch:=omega) only [↓LD,LA,a0A,seval,LSt,stF,stK,rN,b0u,a0h,Nn.cs,List.cons_append,List.nil_append]|(refine And.intro ?_ ?_;omega)|simp only [D.int,D.bool]))
    all_goals first
      | (have hw:wtB nodes (gt L i)=true:=by unfold wtB;rw [decide_eq_true hp2,decide_eq_true (by assumption)];try rfl
         rw [List.filter_cons_of_pos hw] at hF
         rw [show out.length+1=(out++[gt L i]).length by simp]
         exact Next.mk (i+1,out++[gt L i]) (by kernel_rfl) ⟨by dsimp only;omega,by simp;omega,by dsimp only;rw [hF];simp⟩ (by dsimp only;omega))
      | (have hw:¬ wtB nodes (gt L i)=true:=by unfold wtB;rw [decide_eq_false (p:=(gt nodes (gt L i).toNat).st=0) (by assumption)];simp
         rw [List.filter_cons_of_neg hw] at hF
         exact Next.mk (i+1,out) (by kernel_rfl) ⟨by dsimp only;omega,by dsimp only;omega,hF⟩ (by dsimp only;omega))
  · repeat' (with_reducible first|refine Wx.h ?_|refine Wb.h fun K hK=>?_|(refine hK _ ?_;clear hK K)|(refine wT ?_ ?_;assumption)|(refine wF ?_ ?_;assumption)|(refine Wy.h ?_ ?_;kernel_rfl)|refine Wq.h ?_ ?_<;>intro h<;>try (exfalso;omega)|refine Wu.h ?_ ?_<;>intro h<;>try simp only [h]|((fail_if_success refine Wz.h ?_);first|simp (disch:=omega) only [↓LD,LA,a0A,seval,stF,stK,List.cons_append,List.nil_append]|(refine And.intro ?_ ?_;omega)|simp only [D.int,D.bool]))
    refine end1 rfl rfl (by kernel_rfl) (.sl (T:=3) (xs:=out.map iF) rfl (fun e=>by rw [List.eq_nil_of_length_eq_zero e];try rfl)) ⟨?_,rfl⟩
    rw [hr,hF,show L.drop i=[] from List.drop_of_length_le (by omega),List.filter_nil,List.append_nil];try rfl
instance {id ver time closed:Int}{cancel:Bool}{defs:List Nd}{nodes:List Nn}{tms:List Tm}{sgs:List Sg}{k:Int}{H:List Row}{K:D→List Row→Prop}:Wa (a0R Tryz.prog (.fn 107 []) [.ag [.f (.v (.int .i64 id)),.f (.v (.int .i64 ver)),.f (.v (.int .i64 time)),.f (.v (.int .i64 closed)),.f (.v (.bool cancel)),.f (fG defs),.f (fNn nodes),.f (fTm tms),.f (fSg sgs)],.f (.v (.int .i64 k))] H K)
  (nodes.length≤1000000∧K (.f (.v (.int .i64 (cntL nodes k)))) H):=⟨fun h=>a0C (d0R ⟨id,ver,time,closed,cancel,defs,nodes,tms,sgs⟩ k h.1) rfl rfl rfl h.2⟩
instance {id ver time closed:Int}{cancel:Bool}{defs:List Nd}{nodes:List Nn}{tms:List Tm}{sgs:List Sg}{k:Int}{H:List Row}{K:Bool→D→List Row→Prop}:Wa (a0e Tryz.prog (.fn 107 []) [.ag [.f (.v (.int .i64 id)),.f (.v (.int .i64 ver)),.f (.v (.int .i64 time)),.f (.v (.int .i64 closed)),.f (.v (.bool cancel)),.f (fG defs),.f (fNn nodes),.f (fTm tms),.f (fSg sgs)],.f (.v (.int .i64 k))] H K)
  (nodes.length≤1000000∧K true (.f (.v (.int .i64 (cntL nodes k)))) H):=⟨fun h=>a0M (d0R ⟨id,ver,time,closed,cancel,defs,nodes,tms,sgs⟩ k h.1) rfl rfl rfl h.2⟩
set_option maxRecDepth 100000 in
theorem p0h (s:S12)(hl:s.nodes.length≤1000000):Con Tryz.prog 157 [stD s] [] fun r H'=>r=D.int (a0Y s)∧H'=[]:=by
 obtain ⟨id,ver,time,closed,cancel,defs,nodes,tms,sgs⟩:=s
 dsimp only at hl
 refine Con.walk good n0g (by simp) ?_
 unfold g0b
 simp only [a0K,stD]
 cases cancel
 all_goals
  repeat' (with_reducible first|refine Wx.h ?_|refine We.h fun K hK=>?_|refine Wd.h fun K M hK hM=>?_|(refine hK _ _ _ _ ?_;clear hK K;try clear hM M)|(refine hM ?_;clear hM M;try clear hK K)|refine Wb.h fun K hK=>?_|(refine hK _ ?_;clear hK K)|(refine wT ?_ ?_;assumption)|(refine wF ?_ ?_;assumption)|(refine Wy.h ?_ ?_;kernel_rfl)|refine Wq.h ?_ ?_<;>intro h<;>try (exfalso;omega)|refine Wu.h ?_ ?_<;>intro h<;>try simp only [h]|((fail_if_success refine Wz.h ?_);first|simp (disch:=omega) only [↓LD,LA,a0A,seval,LSt]|(refine And.intro ?_ ?_;omega)|simp only [D.int,D.bool]))
 all_goals (refine end1 rfl rfl (by kernel_rfl) .f ⟨congrArg D.int ?_,rfl⟩;simp only [a0Y])
 all_goals (repeat' split)<;>(try simp only [true_and,false_and,Bool.false_eq_true,not_false_eq_true,not_true_eq_false,ne_eq] at *)<;>omega
theorem h0s {P:Program}{H:List Row}:∀ ys:List F,a0U P H (ys.map .f)=some (ys,[])
 | []=>rfl
 | y :: ys=>by simp only [List.map_cons,a0U,b0M,h0s ys,List.append_nil]
theorem r0w {P:Program}{H:List Row}{n r off:Nat}{ys:List F}{U:TypeId}{xs:List F}(hn:ys.length=n)(h0:0<n):c0O P H n r off (.ag (ys.map .f)) (some (.data U xs))=if off+n≤xs.length then (match H[r]? with|some (.data V ws)=>some (H.set r (.data V (splice ws off ys)))|_=>none) else none:=by
 have h1:(D.ag (ys.map .f)).cells=ys.map .f:=rfl
 unfold c0O
 dsimp only
 rw [h1,List.length_map,h0s]
 by_cases h:off+n≤xs.length
 ·rw [if_pos ⟨rfl,hn,h,h0⟩,if_pos h];try rfl
 ·rw [if_neg (fun e=>h e.2.2.1),if_neg h]
theorem f0R {P:Program}{H:List Row}{r off:Nat}{a b c d:F}{U:TypeId}{xs:List F}:c0O P H 4 r off (.ag [.f a,.f b,.f c,.f d]) (some (.data U xs))=if off+4≤xs.length then (match H[r]? with|some (.data V ws)=>some (H.set r (.data V (splice ws off [a,b,c,d])))|_=>none) else none:=r0w (ys:=[a,b,c,d]) rfl (by omega)
theorem e0v {α:Type}{cs:α→List F}{n:Nat}(hn:∀ x,(cs x).length=n){y:α}:∀ {l:List α} {k:Nat},k<l.length→splice (l.flatMap cs) (k*n) (cs y)=(l.set k y).flatMap cs
 | [],k,hk=>by simp at hk
 | a :: l,0,_=>by
  unfold splice
  rw [List.set_cons_zero,List.flatMap_cons,List.flatMap_cons,Nat.zero_mul,Nat.zero_add,List.take_zero,List.nil_append,hn,List.drop_left' (hn a)]
 | a :: l,k+1,hk=>by
  have ih:=e0v hn (y:=y) (l:=l) (k:=k) (by simpa using hk)
  unfold splice at ih ⊢
  rw [List.set_cons_succ,List.flatMap_cons,List.flatMap_cons,←ih,Nat.add_mul,Nat.one_mul,Nat.add_comm (k*n) n,Nat.add_assoc,←List.append_assoc,←List.append_assoc]
  rw [←hn a,List.take_length_add_append,←List.drop_drop,List.drop_left,List.append_assoc,List.append_assoc]
theorem d0t {l:List Nn}{k:Nat}{a b c:Int}{d:Bs}(hk:k<l.length):splice (l.flatMap Nn.cs) (k*4) [.v (.int .i64 a),.v (.int .i64 b),.v (.int .i64 c),fY d]=(l.set k ⟨a,b,c,d⟩).flatMap Nn.cs:=e0v d0O (y:=⟨a,b,c,d⟩) hk
theorem w0x {xs ys zs:List F}{off:Nat}{R:F→F→Prop}(hr:∀ x,R x x)(hl:ys.length=zs.length)(h:∀ (i:Nat) (x y:F),ys[i]?=some x→zs[i]?=some y→R x y) :
  ∀ (i:Nat) (x y:F),(splice xs off ys)[i]?=some x→(splice xs off zs)[i]?=some y→R x y:=by
 intro i x y hx hy
 unfold splice at hx hy
 rw [hl,List.append_assoc] at hx
 rw [List.append_assoc] at hy
 by_cases h1:i<(xs.take off).length
 ·rw [List.getElem?_append_left h1] at hx hy
  rw [hx] at hy;cases hy;exact hr _
 ·rw [List.getElem?_append_right (by omega)] at hx hy
  by_cases h2:i-(xs.take off).length<zs.length
  ·rw [List.getElem?_append_left (by omega)] at hx
   rw [List.getElem?_append_left h2] at hy
   exact h _ _ _ hx hy
  ·rw [List.getElem?_append_right (by omega)] at hx hy
   rw [hl,] at hx
   rw [hx] at hy;cases hy;exact hr _
theorem m0z {l:List Nn}{k:Nat}{a b c:Int}(hk:k<l.length):(((l.set k ⟨a,b,c,[]⟩).flatMap Nn.cs).length=(splice (l.flatMap Nn.cs) (k*4) [.v (.int .i64 a),.v (.int .i64 b),.v (.int .i64 c),.v (.slice none 0 0)]).length) ∧
  ∀ (i:Nat) (x y:F),(splice (l.flatMap Nn.cs) (k*4) [.v (.int .i64 a),.v (.int .i64 b),.v (.int .i64 c),.v (.slice none 0 0)])[i]?=some x→((l.set k ⟨a,b,c,[]⟩).flatMap Nn.cs)[i]?=some y→x=y∨(x = .v (.slice none 0 0)∧y = .s [] 0):=by
 rw [←d0t hk]
 refine ⟨by simp [splice],w0x (fun _=>.inl rfl) rfl ?_⟩
 intro i x y hx hy
 rcases i with _|_|_|_|i
 all_goals (simp at hx hy;try (subst hx;subst hy;first|exact .inl rfl|exact .inr ⟨rfl,rfl⟩))
def b0X (s:S12)(e:Ev):Int × S12 :=
  if (s.nodes.length:Int)≤e.node then (1,s)
  else if e.ty=2 then
    (if e.node ∉ a0a s∨e.n≠(gt s.nodes e.node.toNat).tr+1 then (4,s)
     else (0,{ s with nodes:=s.nodes.set e.node.toNat ⟨1,e.n,e.time+(gt s.defs e.node.toNat).le,[]⟩ }))
  else if (gt s.nodes e.node.toNat).st≠1∨e.n≠(gt s.nodes e.node.toNat).tr then (4,s)
  else (0,{ s with nodes:=s.nodes.set e.node.toNat (if e.ty=3 then { gt s.nodes e.node.toNat with st:=2,due:=0,data:=e.data } else if (gt s.nodes e.node.toNat).tr=(gt s.defs e.node.toNat).tr then { gt s.nodes e.node.toNat with st:=3,due:=0 } else { gt s.nodes e.node.toNat with st:=0,due:=0 }) })
set_option maxRecDepth 100000 in
theorem c0c (s:S12)(e:Ev)(hn:Num s e)(h0:0≤e.node)(hf:Fit s.defs)(hp:Pos s.defs)(hl:s.nodes.length≤1000000)(hnd:s.nodes.length=s.defs.length) :
  Con Tryz.prog 105 [.pt 0 0,evD e] [.box 65 (stK 1 s),rN s.nodes] fun r H'=>r=D.int (b0X s e).1∧H'=[.box 65 (stK 1 (b0X s e).2),rN (b0X s e).2.nodes]:=by
 obtain ⟨id,ver,time,closed,cancel,defs,nodes,tms,sgs⟩:=s
 obtain ⟨hn1,hn2,hn3⟩:=hn
 dsimp only at hn1 hn2 hn3 hf hl hp hnd
 have hfl:=hf.1
 suffices hh:∀ Q:D→List Row→Prop,(∀ r H',r=D.int (b0X ⟨id,ver,time,closed,cancel,defs,nodes,tms,sgs⟩ e).1→H'=[.box 65 (stK 1 (b0X ⟨id,ver,time,closed,cancel,defs,nodes,tms,sgs⟩ e).2),rN (b0X ⟨id,ver,time,closed,cancel,defs,nodes,tms,sgs⟩ e).2.nodes]→Q r H')→Con Tryz.prog 105 [.pt 0 0,evD e] [.box 65 (stK 1 ⟨id,ver,time,closed,cancel,defs,nodes,tms,sgs⟩),rN nodes] Q from hh _ fun _ _ h1 h2=>⟨h1,h2⟩
 intro Q hQ
 refine Con.walk good h0f (by simp) ?_
 unfold d0q
 simp only [a0K,evD,stK,rN]
 repeat' (with_reducible first|refine Wx.h ?_|refine We.h fun K hK=>?_|refine Wd.h fun K M hK hM=>?_|(refine hK _ _ _ _ ?_;clear hK K;try clear hM M)|(refine hM ?_;clear hM M;try clear hK K)|refine Wb.h fun K hK=>?_|(refine hK _ ?_;clear hK K)|(refine wT ?_ ?_;assumption)|(refine wF ?_ ?_;assumption)|(refine Wy.h ?_ ?_;kernel_rfl)|refine Wq.h ?_ ?_<;>intro h<;>try (exfalso;omega)|refine Wu.h ?_ ?_<;>intro h<;>try simp only [h]|((fail_if_success refine Wz.h ?_);first|simp (disch:=omega) only [↓LD,LA,a0A,seval,LSt,c0m,e0U,Nn.cs,a0h,f0R,d0t,b0O,c0S,List.length_set]|(refine And.intro ?_ ?_;omega)|simp only [D.int,D.bool]))
 ·have hb:b0X ⟨id,ver,time,closed,cancel,defs,nodes,tms,sgs⟩ e=(1,⟨id,ver,time,closed,cancel,defs,nodes,tms,sgs⟩):=by
   unfold b0X;rw [if_pos (by assumption)]
  rw [hb] at hQ
  exact end1 rfl rfl (by kernel_rfl) .f (hQ _ _ rfl rfl)
 ·refine a0F (g0G ⟨id,ver,time,closed,cancel,defs,nodes,tms,sgs⟩ hf hp hl hnd) [1] (by kernel_rfl) rfl rfl ?_
  rintro _ _ ⟨rfl,rfl⟩
  simp (disch:=omega) only [↓LD,LA,a0A,seval,ren,List.getElem?_nil,stK,rN]
  have hb:b0X ⟨id,ver,time,closed,cancel,defs,nodes,tms,sgs⟩ e=(if e.node ∉ a0a ⟨id,ver,time,closed,cancel,defs,nodes,tms,sgs⟩∨e.n≠(gt nodes e.node.toNat).tr+1 then (4,⟨id,ver,time,closed,cancel,defs,nodes,tms,sgs⟩) else (0,⟨id,ver,time,closed,cancel,defs,nodes.set e.node.toNat ⟨1,e.n,e.time+(gt defs e.node.toNat).le,[]⟩,tms,sgs⟩)):=by
   unfold b0X;rw [if_neg (by assumption),if_pos (by assumption)]
  rw [hb] at hQ
  clear hb
  have hrl:(a0a ⟨id,ver,time,closed,cancel,defs,nodes,tms,sgs⟩).length<1000:=by
   unfold a0a;split
   ·simp
   ·exact Nat.lt_of_le_of_lt (Nat.le_trans (List.length_filter_le _ _) (k0D 0 defs)) hf.1
  have hnl:e.node.toNat<nodes.length:=by omega
  have hdl:e.node.toNat<defs.length:=by omega
  have hb1:=hn2 _ (a0L hdl)
  have hb2:=hn3 _ (a0L hnl)
  generalize a0a ⟨id,ver,time,closed,cancel,defs,nodes,tms,sgs⟩=L at *
  repeat' (with_reducible first|refine Wx.h ?_|refine We.h fun K hK=>?_|refine Wd.h fun K M hK hM=>?_|(refine hK _ _ _ _ ?_;clear hK K;try clear hM M)|(refine hM ?_;clear hM M;try clear hK K)|refine Wb.h fun K hK=>?_|(refine hK _ ?_;clear hK K)|(refine wT ?_ ?_;assumption)|(refine wF ?_ ?_;assumption)|(refine Wy.h ?_ ?_;kernel_rfl)|refine Wq.h ?_ ?_<;>intro h<;>try (exfalso;omega)|refine Wu.h ?_ ?_<;>intro h<;>try simp only [h]|((fail_if_success refine Wz.h ?_);first|simp (disch:=omega) only [↓LD,LA,a0A,seval,LSt,c0m,e0U,Nn.cs,a0h,f0R,d0t,b0J,c0S,List.length_set]|(refine And.intro ?_ ?_;omega)|simp only [D.int,D.bool]))
  refine HS.loopG [0,3,5,6,7,8] (fun i:Nat=>⟨frm 122 [(0,.pt 0 0),(3,.pt 2 0),(5,.pt 3 0),(6,D.bool (decide (e.node∈L.take i))),(7,.f (fI L)),(8,D.int i)],[.box 65 [D.int id,D.int ver,D.int time,D.int closed,D.bool cancel,.f (fG defs),.sl 1 0 nodes.length,.f (fTm tms),.f (fSg sgs)],.data 158 (nodes.flatMap Nn.cs),evB e,.box 158 ((gt nodes e.node.toNat).cs.map .f)],[]⟩)
   (fun i=>i≤L.length) (fun i=>L.length-i) 0 (by kernel_rfl) (Nat.zero_le _) ?_
  rintro i hi
  by_cases hil:i<L.length
  ·have hst:decide (e.node∈L.take (i+1))=(decide (e.node∈L.take i)||decide (gt L i=e.node)):=by
    rw [List.take_succ_eq_append_getElem hil,←b0R hil]
    simp [eq_comm]
   cases hc:decide (e.node∈L.take i)
   all_goals
    rw [hc] at hst
    repeat' (with_reducible first|refine Wx.h ?_|refine We.h fun K hK=>?_|refine Wd.h fun K M hK hM=>?_|(refine hK _ _ _ _ ?_;clear hK K;try clear hM M)|(refine hM ?_;clear hM M;try clear hK K)|refine Wb.h fun K hK=>?_|(refine hK _ ?_;clear hK K)|(refine wT ?_ ?_;assumption)|(refine wF ?_ ?_;assumption)|(refine Wy.h ?_ ?_;kernel_rfl)|refine Wq.h ?_ ?_<;>intro h<;>try (exfalso;omega)|refine Wu.h ?_ ?_<;>intro h<;>try simp only [h]|((fail_if_success refine Wz.h ?_);first|simp (disch:=omega) only [↓LD,LA,a0A,seval,evB,Nn.cs,List.map_cons,List.map_nil]|(refine And.intro ?_ ?_;omega)|simp only [D.int,D.bool]))
    all_goals exact Next.mk (i+1) (by rw [hst];(try simp only [decide_eq_true (show gt L i=e.node by assumption)]);(try simp only [decide_eq_false (show ¬ gt L i=e.node by assumption)]);kernel_rfl) (by omega) (by omega)
  have hbt:L.take i=L:=List.take_of_length_le (by omega)
  rw [hbt]
  by_cases hm:e.node∈L
  rotate_left
  ·rw [decide_eq_false hm]
   repeat' (with_reducible first|refine Wx.h ?_|refine We.h fun K hK=>?_|refine Wd.h fun K M hK hM=>?_|(refine hK _ _ _ _ ?_;clear hK K;try clear hM M)|(refine hM ?_;clear hM M;try clear hK K)|refine Wb.h fun K hK=>?_|(refine hK _ ?_;clear hK K)|(refine wT ?_ ?_;assumption)|(refine wF ?_ ?_;assumption)|(refine Wy.h ?_ ?_;kernel_rfl)|refine Wq.h ?_ ?_<;>intro h<;>try (exfalso;omega)|refine Wu.h ?_ ?_<;>intro h<;>try simp only [h]|((fail_if_success refine Wz.h ?_);first|simp (disch:=omega) only [↓LD,LA,a0A,seval,evB,Nn.cs,List.map_cons,List.map_nil,LSt,c0m,e0U,Nn.cs,a0h,f0R,d0t,b0J,c0S,List.length_set]|(refine And.intro ?_ ?_;omega)|simp only [D.int,D.bool]))
   rw [if_pos (.inl hm)] at hQ
   exact end1 rfl rfl (by kernel_rfl) .f (hQ _ _ rfl rfl)
  ·rw [decide_eq_true hm]
   repeat' (with_reducible first|refine Wa.h ?_|refine Ws.h ?_|refine We.h fun K hK=>?_|refine Wd.h fun K M hK hM=>?_|(refine hK _ _ _ _ ?_;clear hK K;try clear hM M)|(refine hM ?_;clear hM M;try clear hK K)|refine Wb.h fun K hK=>?_|(refine hK _ ?_;clear hK K)|(refine wT ?_ ?_;assumption)|(refine wF ?_ ?_;assumption)|(refine Wy.h ?_ ?_;kernel_rfl)|refine Wq.h ?_ ?_<;>intro h<;>try (exfalso;omega)|refine Wu.h ?_ ?_<;>intro h<;>try simp only [h]|((fail_if_success refine Wz.h ?_);first|simp (disch:=omega) only [↓LD,LA,a0A,seval,evB,Nn.cs,List.map_cons,List.map_nil,LSt,c0m,e0U,Nn.cs,a0h,f0R,d0t,b0J,c0S,List.length_set]|(refine And.intro ?_ ?_;omega)|simp only [D.int,D.bool]))
   ·refine HS.view (View.wkd 1 ((nodes.set e.node.toNat ⟨1,e.n,e.time+(gt defs e.node.toNat).le,[]⟩).flatMap Nn.cs) rfl (m0z hnl).1 (m0z hnl).2) ?_
    repeat' (with_reducible first|refine Wx.h ?_|refine Wb.h fun K hK=>?_|(refine hK _ ?_;clear hK K)|(refine wT ?_ ?_;assumption)|(refine wF ?_ ?_;assumption)|(refine Wy.h ?_ ?_;kernel_rfl)|refine Wq.h ?_ ?_<;>intro h<;>try (exfalso;omega)|refine Wu.h ?_ ?_<;>intro h<;>try simp only [h]|((fail_if_success refine Wz.h ?_);first|simp (disch:=omega) only [↓LD,LA,a0A,seval]|(refine And.intro ?_ ?_;omega)|simp only [D.int,D.bool]))
    rw [if_neg (by simp_all)] at hQ
    refine end1 rfl rfl (by kernel_rfl) .f (hQ _ _ rfl ?_)
    simp only [stK,rN,List.length_set]
    rfl
   ·repeat' (with_reducible first|refine Wx.h ?_|refine Wb.h fun K hK=>?_|(refine hK _ ?_;clear hK K)|(refine wT ?_ ?_;assumption)|(refine wF ?_ ?_;assumption)|(refine Wy.h ?_ ?_;kernel_rfl)|refine Wq.h ?_ ?_<;>intro h<;>try (exfalso;omega)|refine Wu.h ?_ ?_<;>intro h<;>try simp only [h]|((fail_if_success refine Wz.h ?_);first|simp (disch:=omega) only [↓LD,LA,a0A,seval]|(refine And.intro ?_ ?_;omega)|simp only [D.int,D.bool]))
    rw [if_pos (.inr (by assumption))] at hQ
    exact end1 rfl rfl (by kernel_rfl) .f (hQ _ _ rfl rfl)
 ·have hb:b0X ⟨id,ver,time,closed,cancel,defs,nodes,tms,sgs⟩ e=(0,⟨id,ver,time,closed,cancel,defs,nodes.set e.node.toNat { gt nodes e.node.toNat with st:=2,due:=0,data:=e.data },tms,sgs⟩):=by
   unfold b0X;rw [if_neg (show ¬ (nodes.length:Int)≤e.node by assumption),if_neg (by assumption),if_neg (by simp_all),if_pos (by assumption)]
  rw [hb] at hQ
  refine end1 rfl rfl (by kernel_rfl) .f (hQ _ _ rfl ?_)
  simp only [stK,rN,List.length_set]
  rfl
 ·have hb:b0X ⟨id,ver,time,closed,cancel,defs,nodes,tms,sgs⟩ e=(0,⟨id,ver,time,closed,cancel,defs,nodes.set e.node.toNat { gt nodes e.node.toNat with st:=3,due:=0 },tms,sgs⟩):=by
   unfold b0X;rw [if_neg (show ¬ (nodes.length:Int)≤e.node by assumption),if_neg (by assumption),if_neg (by simp_all),if_neg (by assumption),if_pos (by assumption)]
  rw [hb] at hQ
  refine end1 rfl rfl (by kernel_rfl) .f (hQ _ _ rfl ?_)
  simp only [stK,rN,List.length_set]
  rfl
 ·have hb:b0X ⟨id,ver,time,closed,cancel,defs,nodes,tms,sgs⟩ e=(0,⟨id,ver,time,closed,cancel,defs,nodes.set e.node.toNat { gt nodes e.node.toNat with st:=0,due:=0 },tms,sgs⟩):=by
   unfold b0X;rw [if_neg (show ¬ (nodes.length:Int)≤e.node by assumption),if_neg (by assumption),if_neg (by simp_all),if_neg (by assumption),if_neg (by assumption)]
  rw [hb] at hQ
  refine end1 rfl rfl (by kernel_rfl) .f (hQ _ _ rfl ?_)
  simp only [stK,rN,List.length_set]
  rfl
 ·have hb:b0X ⟨id,ver,time,closed,cancel,defs,nodes,tms,sgs⟩ e=(4,⟨id,ver,time,closed,cancel,defs,nodes,tms,sgs⟩):=by
   unfold b0X;rw [if_neg (show ¬ (nodes.length:Int)≤e.node by assumption),if_neg (by assumption),if_pos (.inr (by assumption))]
  rw [hb] at hQ
  exact end1 rfl rfl (by kernel_rfl) .f (hQ _ _ rfl rfl)
 ·have hb:b0X ⟨id,ver,time,closed,cancel,defs,nodes,tms,sgs⟩ e=(4,⟨id,ver,time,closed,cancel,defs,nodes,tms,sgs⟩):=by
   unfold b0X;rw [if_neg (show ¬ (nodes.length:Int)≤e.node by assumption),if_neg (by assumption),if_pos (.inl (by assumption))]
  rw [hb] at hQ
  exact end1 rfl rfl (by kernel_rfl) .f (hQ _ _ rfl rfl)
end Go.Proofs.YthjgmldnegaaiaaGreatDoor.Mir
