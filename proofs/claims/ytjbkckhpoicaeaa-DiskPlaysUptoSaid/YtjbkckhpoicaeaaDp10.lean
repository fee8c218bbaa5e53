/- Texts laid into one file: CLawDiskP. -/
import Derived.Test.YtjbkckhpoicaeaaDp09

set_option linter.unusedVariables false
set_option linter.unusedSimpArgs false
/- Functions of the program, told without it. -/
namespace Go.Proofs.Ytjbkckhpoicaeaa.Mir
open Go Go.RowKit

/-- cutover.cutoverlaw5.DiskPlays -/
def s_law_DiskPlays : SCode :=
  (.seq (.ops [.a 2 (.mv kF)]) (.seq (.ops (ap [.a 16 (.call (kC 14) [])] [.a 3 (.mv (.t 16))])) (.seq (.seq (.ops (ap [.a 17 (.call (kC 15) [])] (ap [.a
 18 (.unot (.t 17)), .a 19 (.mv (.t 18)), .g (some 20) (.mv (.t 3)) 19 false] [.g (some 21) (.nilq true 1 (.t 20) (.c (.f (.v (.pointer none))))) 19
 false, .a 22 (.pick (.t 19) kT (.t 21))]))) (.cond (.t 22) (.seq (.ops [.a 2 (.mv kF)]) .ret) .skip)) (.seq (.ops (ap [.a 23 (.call (kC 21) [])] [.a 4
 (.mv (.t 23))])) (.seq (.seq (.ops [.a 5 (.mv (kI 0))]) (.block 0 (.loop (.seq (.seq (.ops (ap [.a 24 (.mv (.t 5)), .a 25 (.mv (.t 0)), .a 26 (.slen
 (.t 25)), .a 27 (.bin .lss (.t 24) (.t 26))] (ap [.a 28 (.mv (.t 27)), .g (some 29) (.mv (.t 5)) 28 true] (ap [.g (some 30) (.bin .lss (.t 29) (kI 60))
 28 true] [.a 31 (.pick (.t 28) (.t 30) kF)])))) (.cond (.t 31) .skip (.exit 0))) (.seq (.block 1 (.seq (.ops [.a 34 (.mv (.t 0)), .a 35 (.mv (.t 5)),
 .a 36 (.idx 5 (.t 34) (.t 35)), .a 37 (.loadA 5 (.t 36)), .a 6 (.alloc 43 [jI, jI, jI, jI, jN]), .n (.store 5 (.t 6) (.t 37))]) (.seq (.ops (ap [.a 38
 (.off 1 (.t 6)), .a 39 (.load1 (.t 38)), .a 40 (.call (kC 10) [(.t 39), (kI 6)])] [.a 41 (.bin .sub (.t 40) (kI 1)), .a 7 (.mv (.t 41))])) (.seq (.ops
 [.a 8 (.mv kT)]) (.seq (.seq (.ops [.a 42 (.off 0 (.t 6)), .a 43 (.load1 (.t 42)), .a 44 (.call (kC 10) [(.t 43), (kI 11)])]) (.block 2 (.seq (.ops (ap
 [.a 57 (.bin .eql (.t 44) (kI 6))] [.a 56 (.mv (.t 57))])) (.cond (.t 56) (.ops (ap [.a 58 (.mv (.t 3)), .a 59 (.mv (.t 7)), .a 60 (.call (kC 16) [(.t
 58), (.t 59)])] (ap [.a 61 (.mv (.t 4)), .a 62 (.mv (.t 7)), .a 63 (.call (kC 22) [(.t 61), (.t 62)])] (ap [.a 64 (.bin .eql (.t 60) (.t 63))] [.a 8
 (.mv (.t 64))])))) (.seq (.seq (.ops (ap [.a 66 (.bin .eql (.t 44) (kI 7))] [.a 65 (.mv (.t 66))])) (.cond (.t 65) .skip (.ops (ap [.a 67 (.bin .eql
 (.t 44) (kI 8))] [.a 65 (.mv (.t 67))])))) (.cond (.t 65) (.ops (ap [.a 68 (.mv (.t 3)), .a 69 (.call (kC 18) [(.t 68)])] (ap [.a 70 (.mv (.t 4)), .a
 71 (.call (kC 23) [(.t 70)])] (ap [.a 72 (.bin .eql (.t 69) (.t 71))] [.a 8 (.mv (.t 72))])))) (.seq (.ops (ap [.a 74 (.bin .eql (.t 44) (kI 9))] [.a
 73 (.mv (.t 74))])) (.cond (.t 73) (.seq (.ops [.a 75 (.mv (.t 3)), .a 76 (.off 2 (.t 6)), .a 77 (.load1 (.t 76)), .a 78 (.off 3 (.t 6)), .a 79 (.load1
 (.t 78)), .a 80 (.call (kC 24) [(.t 75), (.t 77), (.t 79)])]) (.ops [.a 81 (.mv (.t 4)), .a 82 (.off 2 (.t 6)), .a 83 (.load1 (.t 82)), .a 84 (.off 3
 (.t 6)), .a 85 (.load1 (.t 84)), .a 86 (.call (kC 25) [(.t 81), (.t 83), (.t 85)])])) (.seq (.ops (ap [.a 88 (.bin .eql (.t 44) (kI 10))] [.a 87 (.mv
 (.t 88))])) (.cond (.t 87) (.seq (.ops (ap [.a 89 (.off 2 (.t 6)), .a 90 (.load1 (.t 89)), .a 91 (.call (kC 10) [(.t 90), (kI 9)])] [.a 92 (.bin .sub
 (.t 91) (kI 2)), .a 9 (.mv (.t 92))])) (.seq (.ops [.a 93 (.mv (.t 3)), .a 94 (.mv (.t 9)), .a 95 (.call (kC 26) [(.t 93), (.t 94)])]) (.ops [.a 96
 (.mv (.t 4)), .a 97 (.mv (.t 9)), .a 98 (.call (kC 27) [(.t 96), (.t 97)])]))) (.drw [.a 45 (.mv (.t 3)), .a 46 (.mv (.t 7)), .a 47 (.off 4 (.t 6)), .a
 48 (.load1 (.t 47)), .a 49 (.call (kC 17) [(.t 45), (.t 46), (.t 48)]), .a 50 (.mv (.t 4)), .a 51 (.mv (.t 7)), .a 52 (.off 4 (.t 6)), .a 53 (.load1
 (.t 52)), .a 54 (.call (kC 28) [(.t 50), (.t 51), (.t 53)]), .a 55 (.bin .eql (.t 49) (.t 54)), .a 8 (.mv (.t 55))] [0, 0, 0, 4, 15, 0, 0, 0, 128, 511,
 1023, 2047]))))))))))) (.seq (.seq (.drw [.a 99 (.mv (.t 8)), .a 100 (.unot (.t 99)), .a 101 (.mv (.t 100)), .g (some 102) (.mv (.t 3)) 101 false, .g
 (some 103) (.call (kC 29) [(.t 102)]) 101 false, .g (some 104) (.mv (.t 4)) 101 false, .g (some 105) (.nilc (.t 104)) 101 false, .g (some 106) (.off 3
 (.t 105)) 101 false, .g (some 107) (.load1 (.t 106)) 101 false, .g (some 108) (.binb .neq (.t 103) (.t 107)) 101 false, .a 109 (.pick (.t 101) kT (.t
 108)), .a 110 (.mv (.t 109)), .g (some 111) (.mv (.t 3)) 110 false, .g (some 112) (.call (kC 30) [(.t 111)]) 110 false, .g (some 113) (.mv (.t 4)) 110
 false, .g (some 114) (.nilc (.t 113)) 110 false, .g (some 115) (.off 4 (.t 114)) 110 false, .g (some 116) (.load1 (.t 115)) 110 false, .g (some 117)
 (.bin .neq (.t 112) (.t 116)) 110 false, .a 118 (.pick (.t 110) kT (.t 117)), .a 119 (.mv (.t 118)), .g (some 120) (.mv (.t 3)) 119 false, .g (some
 121) (.call (kC 31) [(.t 120)]) 119 false, .g (some 122) (.mv (.t 4)) 119 false, .g (some 123) (.nilc (.t 122)) 119 false, .g (some 124) (.off 1 (.t
 123)) 119 false, .g (some 125) (.load1 (.t 124)) 119 false, .g (some 126) (.slen (.t 125)) 119 false, .g (some 127) (.bin .neq (.t 121) (.t 126)) 119
 false, .a 128 (.pick (.t 119) kT (.t 127))] [0, 1, 3, 7, 15, 7, 39, 103, 231, 511, 1023, 2047, 4095, 8191, 4095, 20479, 53247, 118783, 262143, 524287,
 1048575, 2097151, 4194303, 2097151, 10485759, 27262975, 60817407, 127926271, 268435455, 536870911]) (.cond (.t 128) (.seq (.ops [.a 2 (.mv kF)]) .ret)
 .skip)) (.seq (.ops (ap [.a 129 (.mv (.t 3)), .a 130 (.call (kC 19) [(.t 129)])] [.a 10 (.mv (.t 130))])) (.seq (.ops (ap [.a 131 (.mv (.t 4)), .a 132
 (.call (kC 32) [(.t 131)])] [.a 11 (.mv (.t 132))])) (.seq (.seq (.ops [.a 133 (.mv (.t 10)), .a 134 (.slen (.t 133)), .a 135 (.mv (.t 11)), .a 136
 (.slen (.t 135)), .a 137 (.bin .neq (.t 134) (.t 136))]) (.cond (.t 137) (.seq (.ops [.a 2 (.mv kF)]) .ret) .skip)) (.seq (.seq (.ops [.a 12 (.mv (kI
 0))]) (.block 3 (.loop (.seq (.seq (.ops [.a 138 (.mv (.t 12)), .a 139 (.mv (.t 10)), .a 140 (.slen (.t 139)), .a 141 (.bin .lss (.t 138) (.t 140))])
 (.cond (.t 141) .skip (.exit 3))) (.seq (.block 4 (.seq (.drw [.a 144 (.mv (.t 10)), .a 145 (.mv (.t 12)), .a 146 (.idx 1 (.t 144) (.t 145)), .a 147
 (.load1 (.t 146)), .a 148 (.mv (.t 11)), .a 149 (.mv (.t 12)), .a 150 (.idx 1 (.t 148) (.t 149)), .a 151 (.load1 (.t 150)), .a 152 (.bin .neq (.t 147)
 (.t 151))] [0, 0, 3, 7, 0, 0, 48, 112, 255]) (.cond (.t 152) (.seq (.ops [.a 2 (.mv kF)]) .ret) .skip))) (.ops [.a 142 (.mv (.t 12)), .a 143 (.bin .add
 (.t 142) (kI 1)), .a 12 (.mv (.t 143))])))))) (.seq (.ops [.a 13 (.mv (kI (-1)))]) (.block 5 (.loop (.seq (.seq (.ops [.a 153 (.mv (.t 13)), .a 154
 (.bin .lss (.t 153) (kI 6))]) (.cond (.t 154) .skip (.exit 5))) (.seq (.block 6 (.seq (.ops (ap [.a 157 (.mv (.t 3)), .a 158 (.mv (.t 13)), .a 159
 (.call (kC 20) [(.t 157), (.t 158)])] [.a 14 (.mv (.t 159))])) (.seq (.seq (.drw [.a 160 (.mv (.t 14)), .a 161 (.b2s (.t 160)), .a 162 (.mv (.t 4)), .a
 163 (.mv (.t 13)), .a 164 (.call (kC 33) [(.t 162), (.t 163)]), .a 165 (.b2s (.t 164)), .a 166 (.bin .neq (.t 161) (.t 165))] [0, 1, 0, 0, 12, 28, 63])
 (.cond (.t 166) (.seq (.ops [.a 2 (.mv kF)]) .ret) .skip)) (.seq (.ops [.a 15 (.mv (kI 0))]) (.block 7 (.loop (.seq (.seq (.ops [.a 167 (.mv (.t 15)),
 .a 168 (.mv (.t 14)), .a 169 (.slen (.t 168)), .a 170 (.bin .lss (.t 167) (.t 169))]) (.cond (.t 170) .skip (.exit 7))) (.seq (.block 8 (.ops [.a 173
 (.mv (.t 14)), .a 174 (.mv (.t 15)), .a 175 (.idx 1 (.t 173) (.t 174)), .a 176 (.load1 (.t 175)), .a 177 (.bin .add (.t 176) (.c (.f (.v (.int .u8
 1))))), .a 178 (.idx 1 (.t 173) (.t 174)), .n (.store 1 (.t 178) (.t 177))])) (.ops [.a 171 (.mv (.t 15)), .a 172 (.bin .add (.t 171) (kI 1)), .a 15
 (.mv (.t 172))]))))))))) (.ops [.a 155 (.mv (.t 13)), .a 156 (.bin .add (.t 155) (kI 1)), .a 13 (.mv (.t 156))])))))))))))))))) (.ops [.a 32 (.mv (.t
 5)), .a 33 (.bin .add (.t 32) (kI 1)), .a 5 (.mv (.t 33))])))))) (.seq (.ops [.a 2 (.mv kT)]) .ret))))))
theorem fn_law_DiskPlays : Fn Try.prog 5 179 [.t 2] s_law_DiskPlays := .of Try.func5 (by kernel_rfl)

end Go.Proofs.Ytjbkckhpoicaeaa.Mir
