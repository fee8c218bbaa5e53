/- Texts laid into one file: CLawDag, Hand, DagD, DagRaw. -/
import Derived.Test.YtjbkckhpoicaeaaDt08

set_option linter.unusedVariables false
set_option linter.unusedSimpArgs false
/- Functions of the program, told without it. -/
namespace Go.Proofs.Ytjbkckhpoicaeaa.Mir
open Go Go.RowKit

/-- cutover.cutoverhand.Pick -/
def s_hand_Pick : SCode :=
  (.seq (.ops [.a 4 (.mv (.c (.f (.v (.int .i64 0)))))])
  (.seq (.ops [.a 5 (.mv (.t 0)),
 .a 6 (.mv (.t 1)),
 .a 7 (.bin .rem (.t 5) (.t 6)),
 .a 0 (.mv (.t 7))])
  (.seq (.seq (.ops [.a 8 (.mv (.t 0)),
 .a 9 (.bin .lss (.t 8) (.c (.f (.v (.int .i64 0)))))])
   (.cond (.t 9)
    (.ops [.a 10 (.mv (.t 0)),
 .a 11 (.mv (.t 1)),
 .a 12 (.bin .add (.t 10) (.t 11)),
 .a 0 (.mv (.t 12))])
    .skip))
  (.seq (.ops [.a 13 (.mv (.t 0)),
 .a 4 (.mv (.t 13))])
  .ret))))
theorem fn_hand_Pick : Fn Try.prog 10 14 [.t 4] s_hand_Pick := ⟨_, _, Try.func10, rfl, rfl, by kernel_rfl, by kernel_rfl⟩

/-- cutover.cutoverhand.Defs -/
def s_hand_Defs : SCode :=
  (.seq (.ops [.a 4 (.mv (.c (.f (.v (.slice none 0 0)))))])
  (.seq (.ops [.a 5 (.mv (.c (.f (.v (.slice none 0 0)))))])
  (.seq (.seq (.ops [.a 6 (.mv (.c (.f (.v (.int .i64 0)))))])
   (.block 0 (.loop
     (.seq (.seq (.ops ([.a 11 (.mv (.t 6)),
 .a 12 (.mv (.t 0)),
 .a 13 (.slen (.t 12)),
 .a 14 (.bin .lss (.t 11) (.t 13))] ++
 ([.a 15 (.mv (.t 14)),
 .g (some 16) (.mv (.t 6)) 15 true] ++
 ([.g (some 17) (.bin .lss (.t 16) (.c (.f (.v (.int .i64 6))))) 15 true] ++
 ([.a 18 (.pick (.t 15) (.t 17) (.c (.f (.v (.bool false)))))])))))
      (.cond (.t 18)
       .skip
       (.exit 0)))
     (.seq (.block 1 (.seq (.drw [.a 21 (.mv (.t 0)),
          .a 22 (.mv (.t 6)),
          .a 23 (.idx 3 (.t 21) (.t 22)),
          .a 24 (.off 0 (.t 23)),
          .a 25 (.load1 (.t 24)),
          .a 26 (.call (.c (.fn 10 [])) [(.t 25), (.c (.f (.v (.int .i64 3))))]),
          .a 27 (.bin .add (.c (.f (.v (.int .i64 1)))) (.t 26)),
          .a 28 (.mv (.t 0)),
          .a 29 (.mv (.t 6)),
          .a 30 (.idx 3 (.t 28) (.t 29)),
          .a 31 (.off 1 (.t 30)),
          .a 32 (.load1 (.t 31)),
          .a 33 (.call (.c (.fn 10 [])) [(.t 32), (.c (.f (.v (.int .i64 9))))]),
          .a 34 (.bin .add (.c (.f (.v (.int .i64 1)))) (.t 33)),
          .a 35 (.bld [(.f (.v (.slice none 0 0))), (.f (.v (.int .i64 0))), (.f (.v (.int .i64 0)))] [(1, 1, (.t 27)), (2, 1, (.t 34))]),
          .a 7 (.alloc 30 [(.f (.v (.slice none 0 0))), (.f (.v (.int .i64 0))), (.f (.v (.int .i64 0)))]),
          .n (.store 3 (.t 7) (.t 35))] [0, 0, 3, 7, 15, 31, 63, 0, 0, 384, 896, 1920, 4031, 8127, 16383, 0, 65535])
       (.seq (.seq (.ops [.a 8 (.mv (.c (.f (.v (.int .i64 0)))))])
        (.block 2 (.loop
          (.seq (.seq (.ops [.a 36 (.mv (.t 8)),
 .a 37 (.mv (.t 6)),
 .a 38 (.bin .lss (.t 36) (.t 37))])
           (.cond (.t 38)
            .skip
            (.exit 2)))
          (.seq (.block 3 (.seq (.ops [.a 9 (.mv (.c (.f (.v (.int .i64 0)))))])
            (.block 4 (.loop
              (.seq (.seq (.ops ([.a 41 (.mv (.t 9)),
 .a 42 (.mv (.t 0)),
 .a 43 (.mv (.t 6)),
 .a 44 (.idx 3 (.t 42) (.t 43)),
 .a 45 (.off 2 (.t 44)),
 .a 46 (.load1 (.t 45)),
 .a 47 (.slen (.t 46)),
 .a 48 (.bin .lss (.t 41) (.t 47))] ++
 ([.a 49 (.mv (.t 48)),
 .g (some 50) (.mv (.t 9)) 49 true] ++
 ([.g (some 51) (.bin .lss (.t 50) (.c (.f (.v (.int .i64 3))))) 49 true] ++
 ([.a 52 (.pick (.t 49) (.t 51) (.c (.f (.v (.bool false)))))])))))
               (.cond (.t 52)
                .skip
                (.exit 4)))
              (.seq (.block 5 (.seq (.ops ([.a 55 (.mv (.t 0)),
 .a 56 (.mv (.t 6)),
 .a 57 (.idx 3 (.t 55) (.t 56)),
 .a 58 (.off 2 (.t 57)),
 .a 59 (.load1 (.t 58)),
 .a 60 (.mv (.t 9)),
 .a 61 (.idx 1 (.t 59) (.t 60)),
 .a 62 (.load1 (.t 61)),
 .a 63 (.mv (.t 6)),
 .a 64 (.call (.c (.fn 10 [])) [(.t 62), (.t 63)])] ++
 ([.a 65 (.mv (.t 8)),
 .a 66 (.bin .eql (.t 64) (.t 65))] ++
 ([.a 67 (.mv (.t 66)),
 .g (some 68) (.off 0 (.t 7)) 67 true] ++
 ([.g (some 69) (.load1 (.t 68)) 67 true,
 .g (some 70) (.slen (.t 69)) 67 true,
 .g (some 71) (.bin .eql (.t 70) (.c (.f (.v (.int .i64 0))))) 67 true] ++
 ([.g (some 72) (.mv (.t 71)) 67 true,
 .g (some 73) (.off 0 (.t 7)) 72 false] ++
 ([.g (some 74) (.load1 (.t 73)) 72 false,
 .g (some 75) (.off 0 (.t 7)) 72 false,
 .g (some 76) (.load1 (.t 75)) 72 false,
 .g (some 77) (.slen (.t 76)) 72 false,
 .g (some 78) (.bin .sub (.t 77) (.c (.f (.v (.int .i64 1))))) 72 false,
 .g (some 79) (.idx 1 (.t 74) (.t 78)) 72 false,
 .g (some 80) (.load1 (.t 79)) 72 false,
 .g (some 81) (.mv (.t 8)) 72 false,
 .g (some 82) (.bin .lss (.t 80) (.t 81)) 72 false] ++
 ([.g (some 83) (.pick (.t 72) (.c (.f (.v (.bool true)))) (.t 82)) 67 true] ++
 ([.a 84 (.pick (.t 67) (.t 83) (.c (.f (.v (.bool false)))))])))))))))
                (.cond (.t 84)
                 (.ops ([.a 85 (.off 0 (.t 7)),
 .a 86 (.load1 (.t 85)),
 .a 87 (.mv (.t 8)),
 .a 88 (.bsl 3 1 1 [(.f (.v (.int .i64 0)))] [(0, (.t 87))]),
 .a 89 (.app 3 1 8 (.t 86) (.t 88))] ++
 ([.a 90 (.off 0 (.t 7)),
 .n (.store 1 (.t 90) (.t 89))])))
                 .skip)))
              (.ops [.a 53 (.mv (.t 9)),
 .a 54 (.bin .add (.t 53) (.c (.f (.v (.int .i64 1))))),
 .a 9 (.mv (.t 54))])))))))
          (.ops [.a 39 (.mv (.t 8)),
 .a 40 (.bin .add (.t 39) (.c (.f (.v (.int .i64 1))))),
 .a 8 (.mv (.t 40))]))))))
       (.ops ([.a 91 (.mv (.t 5)),
 .a 92 (.loadA 3 (.t 7)),
 .a 93 (.bsl 30 3 1 [(.f (.v (.slice none 0 0))), (.f (.v (.int .i64 0))), (.f (.v (.int .i64 0)))] [(0, (.t 92))]),
 .a 94 (.app 30 3 40 (.t 91) (.t 93))] ++
 ([.a 5 (.mv (.t 94))]))))))
     (.ops [.a 19 (.mv (.t 6)),
 .a 20 (.bin .add (.t 19) (.c (.f (.v (.int .i64 1))))),
 .a 6 (.mv (.t 20))]))))))
  (.seq (.seq (.ops [.a 95 (.mv (.t 5)),
 .a 96 (.slen (.t 95)),
 .a 97 (.bin .eql (.t 96) (.c (.f (.v (.int .i64 0)))))])
   (.cond (.t 97)
    (.ops [.a 98 (.bld [(.f (.v (.slice none 0 0))), (.f (.v (.int .i64 0))), (.f (.v (.int .i64 0)))] [(1, 1, (.c (.f (.v (.int .i64 1))))), (2, 1, (.c (.f (.v (.int .i64 5)))))]),
 .a 99 (.bsl 30 3 1 [(.f (.v (.slice none 0 0))), (.f (.v (.int .i64 0))), (.f (.v (.int .i64 0)))] [(0, (.t 98))]),
 .a 5 (.mv (.t 99))])
    .skip))
  (.seq (.ops ([.a 100 (.mv (.t 1)),
 .a 101 (.bin .quo (.t 100) (.c (.f (.v (.int .i64 20))))),
 .a 102 (.mv (.t 5)),
 .a 103 (.slen (.t 102)),
 .a 104 (.call (.c (.fn 10 [])) [(.t 101), (.t 103)])] ++
 ([.a 10 (.mv (.t 104))])))
  (.seq (.seq (.ops [.a 105 (.mv (.t 1)),
 .a 106 (.call (.c (.fn 10 [])) [(.t 105), (.c (.f (.v (.int .i64 20))))])])
   (.block 6 (.seq (.ops ([.a 108 (.bin .eql (.t 106) (.c (.f (.v (.int .i64 0)))))] ++
 ([.a 107 (.mv (.t 108))])))
    (.cond (.t 107)
     (.ops [.a 109 (.mv (.t 5)),
 .a 110 (.mv (.t 10)),
 .a 111 (.mv (.t 10)),
 .a 112 (.bsl 3 1 1 [(.f (.v (.int .i64 0)))] [(0, (.t 111))]),
 .a 113 (.idx 3 (.t 109) (.t 110)),
 .a 114 (.off 0 (.t 113)),
 .n (.store 1 (.t 114) (.t 112))])
     (.seq (.ops ([.a 116 (.bin .eql (.t 106) (.c (.f (.v (.int .i64 1)))))] ++
 ([.a 115 (.mv (.t 116))])))
     (.cond (.t 115)
      (.ops [.a 117 (.mv (.t 5)),
 .a 118 (.mv (.t 5)),
 .a 119 (.slen (.t 118)),
 .a 120 (.bin .sub (.t 119) (.c (.f (.v (.int .i64 1))))),
 .a 121 (.bsl 3 1 1 [(.f (.v (.int .i64 0)))] [(0, (.t 120))]),
 .a 122 (.idx 3 (.t 117) (.c (.f (.v (.int .i64 0))))),
 .a 123 (.off 0 (.t 122)),
 .n (.store 1 (.t 123) (.t 121))])
      (.seq (.ops ([.a 125 (.bin .eql (.t 106) (.c (.f (.v (.int .i64 2)))))] ++
 ([.a 124 (.mv (.t 125))])))
      (.cond (.t 124)
       (.ops ([.a 126 (.mv (.t 5)),
 .a 127 (.mv (.t 10)),
 .a 128 (.mv (.t 1)),
 .a 129 (.bin .quo (.t 128) (.c (.f (.v (.int .i64 60))))),
 .a 130 (.call (.c (.fn 10 [])) [(.t 129), (.c (.f (.v (.int .i64 9))))])] ++
 ([.a 131 (.bin .sub (.t 130) (.c (.f (.v (.int .i64 1))))),
 .a 132 (.idx 3 (.t 126) (.t 127)),
 .a 133 (.off 1 (.t 132)),
 .n (.store 1 (.t 133) (.t 131))])))
       (.seq (.ops ([.a 135 (.bin .eql (.t 106) (.c (.f (.v (.int .i64 3)))))] ++
 ([.a 134 (.mv (.t 135))])))
       (.cond (.t 134)
        (.ops ([.a 136 (.mv (.t 5)),
 .a 137 (.mv (.t 10)),
 .a 138 (.mv (.t 1)),
 .a 139 (.bin .quo (.t 138) (.c (.f (.v (.int .i64 60))))),
 .a 140 (.call (.c (.fn 10 [])) [(.t 139), (.c (.f (.v (.int .i64 9))))])] ++
 ([.a 141 (.bsl 3 1 1 [(.f (.v (.int .i64 0)))] [(0, (.t 140))]),
 .a 142 (.idx 3 (.t 136) (.t 137)),
 .a 143 (.off 0 (.t 142)),
 .n (.store 1 (.t 143) (.t 141))])))
        (.seq (.ops ([.a 145 (.bin .eql (.t 106) (.c (.f (.v (.int .i64 4)))))] ++
 ([.a 144 (.mv (.t 145))])))
        (.cond (.t 144)
         (.ops [.a 146 (.mv (.t 5)),
 .a 147 (.mv (.t 10)),
 .a 148 (.idx 3 (.t 146) (.t 147)),
 .a 149 (.off 2 (.t 148)),
 .n (.store 1 (.t 149) (.c (.f (.v (.int .i64 0)))))])
         (.seq (.ops ([.a 151 (.bin .eql (.t 106) (.c (.f (.v (.int .i64 5)))))] ++
 ([.a 150 (.mv (.t 151))])))
         (.cond (.t 150)
          (.ops [.a 152 (.mv (.t 5)),
 .a 153 (.mv (.t 10)),
 .a 154 (.bsl 3 1 2 [(.f (.v (.int .i64 0))), (.f (.v (.int .i64 0)))] [(0, (.c (.f (.v (.int .i64 1))))), (1, (.c (.f (.v (.int .i64 0)))))]),
 .a 155 (.idx 3 (.t 152) (.t 153)),
 .a 156 (.off 0 (.t 155)),
 .n (.store 1 (.t 156) (.t 154))])
          .skip))))))))))))))
  (.seq (.ops [.a 157 (.mv (.t 5)),
 .a 4 (.mv (.t 157))])
  .ret)))))))
theorem fn_hand_Defs : Fn Try.prog 7 158 [.t 4] s_hand_Defs := ⟨_, _, Try.func7, rfl, rfl, by kernel_rfl, by kernel_rfl⟩

/-- cutover.cutoverlaw11.raw -/
def s_law_raw : SCode :=
  (.seq (.ops [.a 6 (.mv (.c (.f (.v (.slice none 0 0)))))])
  (.seq (.seq (.ops [.a 12 (.mv (.t 2)),
 .a 13 (.unot (.t 12))])
   (.cond (.t 13)
    (.seq (.ops ([.a 14 (.mv (.t 0)),
 .a 15 (.mv (.t 1)),
 .a 16 (.call (.c (.fn 7 [])) [(.t 14), (.t 15)])] ++
 ([.a 6 (.mv (.t 16))])))
    .ret)
    .skip))
  (.seq (.ops [.a 7 (.mv (.c (.f (.v (.slice none 0 0)))))])
  (.seq (.seq (.ops [.a 8 (.mv (.c (.f (.v (.int .i64 0)))))])
   (.block 0 (.loop
     (.seq (.seq (.ops ([.a 17 (.mv (.t 8)),
 .a 18 (.mv (.t 0)),
 .a 19 (.slen (.t 18)),
 .a 20 (.bin .lss (.t 17) (.t 19))] ++
 ([.a 21 (.mv (.t 20)),
 .g (some 22) (.mv (.t 8)) 21 true] ++
 ([.g (some 23) (.bin .lss (.t 22) (.c (.f (.v (.int .i64 9))))) 21 true] ++
 ([.a 24 (.pick (.t 21) (.t 23) (.c (.f (.v (.bool false)))))])))))
      (.cond (.t 24)
       .skip
       (.exit 0)))
     (.seq (.block 1 (.seq (.drw [.a 27 (.mv (.t 0)),
          .a 28 (.mv (.t 8)),
          .a 29 (.idx 3 (.t 27) (.t 28)),
          .a 30 (.off 0 (.t 29)),
          .a 31 (.load1 (.t 30)),
          .a 32 (.call (.c (.fn 10 [])) [(.t 31), (.c (.f (.v (.int .i64 5))))]),
          .a 33 (.bin .add (.c (.f (.v (.int .i64 1)))) (.t 32)),
          .a 34 (.mv (.t 0)),
          .a 35 (.mv (.t 8)),
          .a 36 (.idx 3 (.t 34) (.t 35)),
          .a 37 (.off 1 (.t 36)),
          .a 38 (.load1 (.t 37)),
          .a 39 (.call (.c (.fn 10 [])) [(.t 38), (.c (.f (.v (.int .i64 9))))]),
          .a 40 (.bin .add (.c (.f (.v (.int .i64 1)))) (.t 39)),
          .a 41 (.bld [(.f (.v (.slice none 0 0))), (.f (.v (.int .i64 0))), (.f (.v (.int .i64 0)))] [(1, 1, (.t 33)), (2, 1, (.t 40))]),
          .a 9 (.alloc 30 [(.f (.v (.slice none 0 0))), (.f (.v (.int .i64 0))), (.f (.v (.int .i64 0)))]),
          .n (.store 3 (.t 9) (.t 41))] [0, 0, 3, 7, 15, 31, 63, 0, 0, 384, 896, 1920, 4031, 8127, 16383, 0, 65535])
       (.seq (.seq (.ops [.a 10 (.mv (.c (.f (.v (.int .i64 0)))))])
        (.block 2 (.loop
          (.seq (.seq (.ops [.a 42 (.mv (.t 10)),
 .a 43 (.mv (.t 0)),
 .a 44 (.slen (.t 43)),
 .a 45 (.mm false (.t 44) (.c (.f (.v (.int .i64 9))))),
 .a 46 (.bin .lss (.t 42) (.t 45))])
           (.cond (.t 46)
            .skip
            (.exit 2)))
          (.seq (.block 3 (.seq (.ops [.a 11 (.mv (.c (.f (.v (.int .i64 0)))))])
            (.block 4 (.loop
              (.seq (.seq (.ops ([.a 49 (.mv (.t 11)),
 .a 50 (.mv (.t 0)),
 .a 51 (.mv (.t 8)),
 .a 52 (.idx 3 (.t 50) (.t 51)),
 .a 53 (.off 2 (.t 52)),
 .a 54 (.load1 (.t 53)),
 .a 55 (.slen (.t 54)),
 .a 56 (.bin .lss (.t 49) (.t 55))] ++
 ([.a 57 (.mv (.t 56)),
 .g (some 58) (.mv (.t 11)) 57 true] ++
 ([.g (some 59) (.bin .lss (.t 58) (.c (.f (.v (.int .i64 2))))) 57 true] ++
 ([.a 60 (.pick (.t 57) (.t 59) (.c (.f (.v (.bool false)))))])))))
               (.cond (.t 60)
                .skip
                (.exit 4)))
              (.seq (.block 5 (.seq (.ops ([.a 63 (.mv (.t 0)),
 .a 64 (.mv (.t 8)),
 .a 65 (.idx 3 (.t 63) (.t 64)),
 .a 66 (.off 2 (.t 65)),
 .a 67 (.load1 (.t 66)),
 .a 68 (.mv (.t 11)),
 .a 69 (.idx 1 (.t 67) (.t 68)),
 .a 70 (.load1 (.t 69)),
 .a 71 (.call (.c (.fn 10 [])) [(.t 70), (.c (.f (.v (.int .i64 9))))])] ++
 ([.a 72 (.mv (.t 10)),
 .a 73 (.bin .eql (.t 71) (.t 72))] ++
 ([.a 74 (.mv (.t 73)),
 .g (some 75) (.off 0 (.t 9)) 74 true] ++
 ([.g (some 76) (.load1 (.t 75)) 74 true,
 .g (some 77) (.slen (.t 76)) 74 true,
 .g (some 78) (.bin .eql (.t 77) (.c (.f (.v (.int .i64 0))))) 74 true] ++
 ([.g (some 79) (.mv (.t 78)) 74 true,
 .g (some 80) (.off 0 (.t 9)) 79 false] ++
 ([.g (some 81) (.load1 (.t 80)) 79 false,
 .g (some 82) (.off 0 (.t 9)) 79 false,
 .g (some 83) (.load1 (.t 82)) 79 false,
 .g (some 84) (.slen (.t 83)) 79 false,
 .g (some 85) (.bin .sub (.t 84) (.c (.f (.v (.int .i64 1))))) 79 false,
 .g (some 86) (.idx 1 (.t 81) (.t 85)) 79 false,
 .g (some 87) (.load1 (.t 86)) 79 false,
 .g (some 88) (.mv (.t 10)) 79 false,
 .g (some 89) (.bin .lss (.t 87) (.t 88)) 79 false] ++
 ([.g (some 90) (.pick (.t 79) (.c (.f (.v (.bool true)))) (.t 89)) 74 true] ++
 ([.a 91 (.pick (.t 74) (.t 90) (.c (.f (.v (.bool false)))))])))))))))
                (.cond (.t 91)
                 (.ops ([.a 92 (.off 0 (.t 9)),
 .a 93 (.load1 (.t 92)),
 .a 94 (.mv (.t 10)),
 .a 95 (.bsl 3 1 1 [(.f (.v (.int .i64 0)))] [(0, (.t 94))]),
 .a 96 (.app 3 1 8 (.t 93) (.t 95))] ++
 ([.a 97 (.off 0 (.t 9)),
 .n (.store 1 (.t 97) (.t 96))])))
                 .skip)))
              (.ops [.a 61 (.mv (.t 11)),
 .a 62 (.bin .add (.t 61) (.c (.f (.v (.int .i64 1))))),
 .a 11 (.mv (.t 62))])))))))
          (.ops [.a 47 (.mv (.t 10)),
 .a 48 (.bin .add (.t 47) (.c (.f (.v (.int .i64 1))))),
 .a 10 (.mv (.t 48))]))))))
       (.ops ([.a 98 (.mv (.t 7)),
 .a 99 (.loadA 3 (.t 9)),
 .a 100 (.bsl 30 3 1 [(.f (.v (.slice none 0 0))), (.f (.v (.int .i64 0))), (.f (.v (.int .i64 0)))] [(0, (.t 99))]),
 .a 101 (.app 30 3 40 (.t 98) (.t 100))] ++
 ([.a 7 (.mv (.t 101))]))))))
     (.ops [.a 25 (.mv (.t 8)),
 .a 26 (.bin .add (.t 25) (.c (.f (.v (.int .i64 1))))),
 .a 8 (.mv (.t 26))]))))))
  (.seq (.ops [.a 102 (.mv (.t 7)),
 .a 6 (.mv (.t 102))])
  .ret)))))
theorem fn_law_raw : Fn Try.prog 34 103 [.t 6] s_law_raw := ⟨_, _, Try.func34, rfl, rfl, by kernel_rfl, by kernel_rfl⟩

/-- cutover.cutoverlaw11.known -/
def s_law_known : SCode :=
  (.seq (.ops [.a 0 (.mv (.c (.f (.v (.bool false)))))])
  (.seq (.ops ([.a 4 (.bsl 3 1 1 [(.f (.v (.int .i64 0)))] [(0, (.c (.f (.v (.int .i64 1)))))]),
 .a 5 (.bld [(.f (.v (.slice none 0 0))), (.f (.v (.int .i64 0))), (.f (.v (.int .i64 0)))] [(1, 1, (.c (.f (.v (.int .i64 1))))), (2, 1, (.c (.f (.v (.int .i64 1))))), (0, 1, (.t 4))]),
 .a 6 (.bld [(.f (.v (.slice none 0 0))), (.f (.v (.int .i64 0))), (.f (.v (.int .i64 0)))] [(1, 1, (.c (.f (.v (.int .i64 1))))), (2, 1, (.c (.f (.v (.int .i64 1)))))]),
 .a 7 (.bsl 30 3 2 [(.f (.v (.slice none 0 0))), (.f (.v (.int .i64 0))), (.f (.v (.int .i64 0))), (.f (.v (.slice none 0 0))), (.f (.v (.int .i64 0))), (.f (.v (.int .i64 0)))] [(0, (.t 5)), (3, (.t 6))]),
 .a 8 (.call (.c (.fn 11 [])) [(.t 7)])] ++
 ([.a 3 (.mv (.t 8)),
 .a 9 (.ext 0 (.t 3)),
 .a 10 (.ext 1 (.t 3)),
 .a 1 (.mv (.t 9)),
 .a 2 (.mv (.t 10))])))
  (.seq (.ops ([.a 11 (.mv (.t 2)),
 .a 12 (.mv (.t 11)),
 .g (some 13) (.mv (.t 1)) 12 true] ++
 ([.g (some 14) (.bsl 3 1 2 [(.f (.v (.int .i64 0))), (.f (.v (.int .i64 0)))] [(0, (.c (.f (.v (.int .i64 1))))), (1, (.c (.f (.v (.int .i64 0)))))]) 12 true,
 .g (some 15) (.call (.c (.fn 37 [])) [(.t 13), (.t 14)]) 12 true] ++
 ([.a 16 (.pick (.t 12) (.t 15) (.c (.f (.v (.bool false))))),
 .a 0 (.mv (.t 16))]))))
  .ret)))
theorem fn_law_known : Fn Try.prog 8 17 [.t 0] s_law_known := ⟨_, _, Try.func8, rfl, rfl, by kernel_rfl, by kernel_rfl⟩

/-- cutover.cutoverref8.SameInts -/
def s_ref_SameInts : SCode :=
  (.seq (.ops [.a 4 (.mv (.c (.f (.v (.bool false)))))])
  (.seq (.seq (.ops [.a 6 (.mv (.t 0)),
 .a 7 (.slen (.t 6)),
 .a 8 (.mv (.t 1)),
 .a 9 (.slen (.t 8)),
 .a 10 (.bin .neq (.t 7) (.t 9))])
   (.cond (.t 10)
    (.seq (.ops [.a 4 (.mv (.c (.f (.v (.bool false)))))])
    .ret)
    .skip))
  (.seq (.seq (.ops [.a 5 (.mv (.c (.f (.v (.int .i64 0)))))])
   (.block 0 (.loop
     (.seq (.seq (.ops [.a 11 (.mv (.t 5)),
 .a 12 (.mv (.t 0)),
 .a 13 (.slen (.t 12)),
 .a 14 (.bin .lss (.t 11) (.t 13))])
      (.cond (.t 14)
       .skip
       (.exit 0)))
     (.seq (.block 1 (.seq (.drw [.a 17 (.mv (.t 0)),
          .a 18 (.mv (.t 5)),
          .a 19 (.idx 1 (.t 17) (.t 18)),
          .a 20 (.load1 (.t 19)),
          .a 21 (.mv (.t 1)),
          .a 22 (.mv (.t 5)),
          .a 23 (.idx 1 (.t 21) (.t 22)),
          .a 24 (.load1 (.t 23)),
          .a 25 (.bin .neq (.t 20) (.t 24))] [0, 0, 3, 7, 0, 0, 48, 112, 255])
       (.cond (.t 25)
        (.seq (.ops [.a 4 (.mv (.c (.f (.v (.bool false)))))])
        .ret)
        .skip)))
     (.ops [.a 15 (.mv (.t 5)),
 .a 16 (.bin .add (.t 15) (.c (.f (.v (.int .i64 1))))),
 .a 5 (.mv (.t 16))]))))))
  (.seq (.ops [.a 4 (.mv (.c (.f (.v (.bool true)))))])
  .ret))))
theorem fn_ref_SameInts : Fn Try.prog 37 26 [.t 4] s_ref_SameInts := ⟨_, _, Try.func37, rfl, rfl, by kernel_rfl, by kernel_rfl⟩

end Go.Proofs.Ytjbkckhpoicaeaa.Mir

/- The hand's Pick; contracts out of runs. -/
namespace Go.Proofs.Ytjbkckhpoicaeaa.Mir
open Go Go.RowKit
set_option linter.unusedVariables false
set_option linter.unusedSimpArgs false
set_option maxHeartbeats 2000000

def pick (x n : Int) : Int := if x.tmod n < 0 then x.tmod n + n else x.tmod n
theorem tmod_lt {x n : Int} (hn : 0 < n) : x.tmod n < n := Int.tmod_lt_of_pos x hn
theorem tmod_gt {x n : Int} (hn : 0 < n) : -n < x.tmod n := by
  have := Int.tmod_lt_of_pos (-x) hn
  rw [Int.neg_tmod] at this; omega
theorem pick_in {x n : Int} (hn : 0 < n) : 0 ≤ pick x n ∧ pick x n < n := by
  have h1 := tmod_lt (x := x) hn
  have h2 := tmod_gt (x := x) hn
  unfold pick; split <;> omega
theorem c_hand_Pick (x n : Int) (hn : 0 < n) (hn2 : n ≤ 1000000) : Con Try.prog 10 [D.int x, D.int n] [] fun r H' => r = D.int (pick x n) ∧ H' = [] := by
  have h1 := tmod_lt (x := x) hn
  have h2 := tmod_gt (x := x) hn
  refine Con.walk good fn_hand_Pick (by simp) ?_
  unfold s_hand_Pick
  simp only [argsE, List.length_cons, List.length_nil, Nat.reduceAdd]
  repeat' (first | (with_reducible first | refine r1 ?_ | refine rK fun K hK => ?_ | refine wpS_app fun K hK => ?_ | (refine hK _ ?_; clear hK K) | refine rL fun K hK => ?_) | ((with_reducible refine And.intro (Chk.mk' ?_) ?_); kernel_rfl) | ((with_reducible refine HS.cond1 ?_ ?_); rfl) | ((with_reducible refine HS.cond0 ?_ ?_); rfl) | ((with_reducible apply HS.condB) <;> first | rfl | (with_reducible intro h)) | (with_reducible first | refine r2 ?_ | refine r3 ?_ | refine r4 ?_ | refine r5 ?_ | refine r6 ?_ | refine r7 ?_ | refine r8 ?_ | refine r9 ?_ | refine rA ?_ | refine rB ?_ | refine rC ?_ | refine rD ?_) | ((with_reducible refine blockQ_miss ?_ ?_); rfl) | (with_reducible refine Two.mk' (fun h => ?_) (fun h => ?_) <;> try (exfalso; omega)) | ((with_reducible refine Bsel.mk' (fun h => ?_) (fun h => ?_)) <;> (try simp only [h])) | ((fail_if_success (with_reducible first | refine s1 ?_ | refine s2 ?_ | refine s3 ?_ | refine s4 ?_ | refine s5 ?_ | refine s6 ?_ | refine s7 ?_ | refine s8 ?_ | refine s9 ?_)); simp (disch := omega) only [↓LD, LU, LS, LT, loadA_rf, ↓reduceIte, reduceCtorEq, Nat.reduceAdd, Nat.reduceMul, Nat.reduceSub, Nat.reduceLeDiff, Nat.reduceLT, Nat.reduceEqDiff, Int.reduceNeg, Int.reduceLT, Int.reduceLE, Int.reduceEq, Int.reduceToNat]) | ((with_reducible refine And.intro ?_ ?_); omega) | ((fail_if_success (with_reducible first | refine s1 ?_ | refine s2 ?_ | refine s3 ?_ | refine s4 ?_ | refine s5 ?_ | refine s6 ?_ | refine s7 ?_ | refine s8 ?_ | refine s9 ?_)); simp only [D.int, D.bool]))
  · refine end1 rfl rfl (by kernel_rfl) .f ⟨congrArg D.int ?_, rfl⟩
    rw [pick, if_pos h]
  · refine end1 rfl rfl (by kernel_rfl) .f ⟨congrArg D.int ?_, rfl⟩
    rw [pick, if_neg h]

/-- A run tells a contract. -/
theorem Con.run {P : Program} (hP : Good P) {ext : Ext} (hext : ∀ f g, ext f = some g → Sound P f g) {n : Nat} {f : FuncId} {args : List D} {H : List Row} {e : Eff} (hf : ∃ fn, P.funcs[f]? = some fn ∧ fn.body.isSome = true)
    (h : Mir.run P ext n f args H = some e) : Con P f args H fun r H' => r = e.res ∧ H' = e.heap H :=
  ⟨hf, fun w φ X vs hH ha => (run_ok hP hext n f args H e h w φ X vs hH ha).mono fun _ _ ⟨v, h1, h2⟩ => ⟨v, e.res, e.heap H, h1, ⟨rfl, rfl⟩, LeavesW.of h2⟩⟩
theorem Fn.has {P : Program} {f : FuncId} {n : Nat} {rs : List SR} {c : SCode} (h : Fn P f n rs c) : ∃ fn, P.funcs[f]? = some fn ∧ fn.body.isSome = true := by
  obtain ⟨fn, k, h1, h2, _⟩ := h
  exact ⟨fn, h1, by rw [h2]; rfl⟩
end Go.Proofs.Ytjbkckhpoicaeaa.Mir

/- The hand's makers: Pick, and graphs out of raw numbers. -/
namespace Go.Proofs.Ytjbkckhpoicaeaa.Mir
open Go Go.RowKit
set_option linter.unusedVariables false
set_option linter.unusedSimpArgs false
set_option maxHeartbeats 2000000

/-- A raw node. -/
structure Rd where
  tr : Int
  le : Int
  ns : List Int
  deriving Inhabited
def Rd.cs (d : Rd) : List F := [iF d.tr, iF d.le, fI d.ns]
theorem Rd.cs_len (d : Rd) : d.cs.length = 3 := rfl
def fR (g : List Rd) : F := .s (g.flatMap Rd.cs) g.length
theorem rd_at0 {g : List Rd} {k : Nat} (hk : k < g.length) : (g.flatMap Rd.cs)[k * 3]? = some (iF (gt g k).tr) := flat_at (j := 0) Rd.cs_len hk (by omega)
theorem rd_at1 {g : List Rd} {k : Nat} (hk : k < g.length) : (g.flatMap Rd.cs)[k * 3 + 1]? = some (iF (gt g k).le) := flat_at (j := 1) Rd.cs_len hk (by omega)
theorem rd_at2 {g : List Rd} {k : Nat} (hk : k < g.length) : (g.flatMap Rd.cs)[k * 3 + 2]? = some (fI (gt g k).ns) := flat_at (j := 2) Rd.cs_len hk (by omega)

/-- What a maker of graphs answers: some graph that fits. -/
def Some' (r : D) (H' : List Row) : Prop := ∃ ds, r = .f (fG ds) ∧ Fit ds ∧ H' = []
theorem some'_of {m : Nat} {ds : List Nd} (hl : ds.length = m) (h : Fit ds) : Some' (.f (.s ((ds.flatMap Nd.cs).drop 0) m)) [] := ⟨ds, by rw [List.drop_zero, fG, hl], h, rfl⟩
/-- Nodes that grow from nil: how many, and which. -/
def outN (n : Nat) (ds : List Nd) : D × List Row := match n with
  | 0 => (.f (.v (.slice none 0 0)), [])
  | m + 1 => (.sl 0 0 (m + 1), [.data 30 (ds.flatMap Nd.cs)])
/-- Numbers that grow from nil, in a box's first cell. -/
def inV (r m : Nat) (ns : List Int) (tr le : Int) : List Row := match m with
  | 0 => [.box 30 [.f (.v (.slice none 0 0)), D.int tr, D.int le]]
  | m + 1 => [.box 30 [.sl r 0 (m + 1), D.int tr, D.int le], .data 3 (ns.map iF)]
theorem flat_set {α : Type} [Inhabited α] {cs : α → List F} {n : Nat} (hn : ∀ x, (cs x).length = n) {y : α} {v : F} {j : Nat} (hj : j < n) : ∀ {l : List α} {k : Nat}, k < l.length → cs y = (cs (gt l k)).set j v → (l.flatMap cs).set (k * n + j) v = (l.set k y).flatMap cs
  | [], k, hk, _ => by simp at hk
  | x :: l, 0, _, hy => by
    have h0 : gt (x :: l) 0 = x := rfl
    rw [h0] at hy
    rw [List.flatMap_cons, Nat.zero_mul, Nat.zero_add, List.set_append_left _ _ (by rw [hn]; exact hj), List.set_cons_zero, List.flatMap_cons, hy]
  | x :: l, k + 1, hk, hy => by
    have h0 : gt (x :: l) (k + 1) = gt l k := rfl
    rw [h0] at hy
    rw [List.flatMap_cons, List.set_append_right _ _ (by rw [hn, Nat.add_mul]; omega), hn, show (k + 1) * n + j - n = k * n + j by rw [Nat.add_mul]; omega, flat_set hn hj (by simpa using hk) hy, List.set_cons_succ, List.flatMap_cons]
theorem nd_set0 {l : List Nd} {k : Nat} {ns : List Int} (hk : k < l.length) : (l.flatMap Nd.cs).set (k * 3) (fI ns) = (l.set k ⟨ns, (gt l k).tr, (gt l k).le⟩).flatMap Nd.cs := flat_set (j := 0) Nd.cs_len (by omega) hk rfl
theorem nd_set1 {l : List Nd} {k : Nat} {x : Int} (hk : k < l.length) : (l.flatMap Nd.cs).set (k * 3 + 1) (iF x) = (l.set k ⟨(gt l k).ns, x, (gt l k).le⟩).flatMap Nd.cs := flat_set (j := 1) Nd.cs_len (by omega) hk rfl
theorem nd_set2 {l : List Nd} {k : Nat} {x : Int} (hk : k < l.length) : (l.flatMap Nd.cs).set (k * 3 + 2) (iF x) = (l.set k ⟨(gt l k).ns, (gt l k).tr, x⟩).flatMap Nd.cs := flat_set (j := 2) Nd.cs_len (by omega) hk rfl
theorem fit_set {ds : List Nd} {k : Nat} {d : Nd} (h : Fit ds) (hd : d.ns.length < 1000000) : Fit (ds.set k d) := by
  refine ⟨by simpa using h.1, fun e he => ?_⟩
  rcases List.mem_or_eq_of_mem_set he with he | rfl
  · exact h.2 e he
  · exact hd
theorem freeze_sl {P : Program} {H : List Row} {r n : Nat} {T : TypeId} {xs : List F} {b : Nat} {z : List Value} {a c : F} (hH : H[r]? = some (.data T xs)) (hi : inf P T = some (1, b, z)) (hn : xs.length = n + 1) :
    freezeAll P H [.sl r 0 (n + 1), .f a, .f c] = some ([.s xs (n + 1), a, c], [(r, .froz T xs)]) := by
  have h1 : ¬ (n + 1 = 0) := by omega
  have h2 : 0 + (n + 1) * 1 ≤ xs.length := by omega
  have h3 : (xs.drop 0).take ((n + 1) * 1) = xs := by rw [List.drop_zero, Nat.mul_one, ← hn, List.take_length]
  simp only [freezeAll, freeze1, hH, hi, h3, if_neg h1, if_pos h2, List.append_nil, List.nil_append]
theorem store_row {P : Program} {U T : TypeId} {xs ys : List F} {off m b : Nat} {z : List Value} (hi : inf P T = some (1, b, z)) (hy : ys.length = m + 1) (ho : off + 1 ≤ xs.length) :
    storeR P [.data U xs, .data T ys] 1 0 off (.sl 1 0 (m + 1)) (some (.data U xs)) = some [.data U (xs.set off (.s ys (m + 1))), .froz T ys] := by
  have h1 : ¬ (m + 1 = 0) := by omega
  have h2 : 0 + (m + 1) * 1 ≤ ys.length := by omega
  have h3 : (ys.drop 0).take ((m + 1) * 1) = ys := by rw [List.drop_zero, Nat.mul_one, ← hy, List.take_length]
  have hf : freezeAll P [.data U xs, .data T ys] [.sl 1 0 (m + 1)] = some ([.s ys (m + 1)], [(1, .froz T ys)]) := by
    simp only [freezeAll, freeze1, List.getElem?_cons_succ, List.getElem?_cons_zero, hi, h3, if_neg h1, if_pos h2, List.append_nil, List.nil_append]
  have hu : applyUpd [.data U xs, .data T ys] [(1, .froz T ys)] = [Row.data U xs, .froz T ys] := rfl
  have ho' : okCell (.sl 1 0 (m + 1)) = true ∧ (D.cells (.sl 1 0 (m + 1))).length = 1 ∧ off + 1 ≤ xs.length := ⟨rfl, rfl, ho⟩
  have hc : D.cells (.sl 1 0 (m + 1)) = [.sl 1 0 (m + 1)] := rfl
  unfold storeR
  simp only [if_pos ho']
  simp only [hc, hf, hu, List.getElem?_cons_zero, List.set_cons_zero, splice_one (show off < xs.length by omega)]
theorem store_ns {ds : List Nd} {k m : Nat} {l : List Int} (hk : k < ds.length) (hl : l.length = m + 1) :
    storeR Try.prog [.data 30 (ds.flatMap Nd.cs), .data 3 (l.map iF)] 1 0 (k * 3) (.sl 1 0 (m + 1)) (some (.data 30 (ds.flatMap Nd.cs))) =
      some [.data 30 ((ds.set k ⟨l, (gt ds k).tr, (gt ds k).le⟩).flatMap Nd.cs), .froz 3 (l.map iF)] := by
  rw [store_row (b := 8) (z := [.int .i64 0]) (by kernel_rfl) (by rw [List.length_map]; exact hl) (by rw [flat_len' Nd.cs_len]; omega), ← nd_set0 hk, fI, hl]
theorem app_nd {ds : List Nd} {ns : List Int} {n : Nat} {a b : Int} (hn : ns.length = n) : ds.flatMap Nd.cs ++ [.s (ns.map iF) n, .v (.int .i64 a), .v (.int .i64 b)] = (ds ++ [(⟨ns, a, b⟩ : Nd)]).flatMap Nd.cs := by
  subst hn
  rw [List.flatMap_append]; rfl
theorem app_nd0 {ds : List Nd} {a b : Int} : ds.flatMap Nd.cs ++ [.s [] 0, .v (.int .i64 a), .v (.int .i64 b)] = (ds ++ [(⟨[], a, b⟩ : Nd)]).flatMap Nd.cs := by
  rw [List.flatMap_append]; rfl
theorem fit_app {ds : List Nd} {d : Nd} (h : Fit ds) (hl : ds.length < 900) (hd : d.ns.length < 1000000) : Fit (ds ++ [d]) := by
  refine ⟨by simp; omega, fun e he => ?_⟩
  rcases List.mem_append.1 he with he | he
  · exact h.2 e he
  · rw [List.mem_singleton.1 he]; exact hd
set_option maxRecDepth 100000 in
theorem c_hand_Defs (l : List Rd) (how : Int) : Con Try.prog 7 [.f (fR l), D.int how] [] Some' := by
  refine Con.walk good fn_hand_Defs (by simp) ?_
  unfold s_hand_Defs
  simp only [argsE, List.length_cons, List.length_nil, Nat.reduceAdd]
  repeat' (first | (with_reducible first | refine r1 ?_ | refine rK fun K hK => ?_ | refine wpS_app fun K hK => ?_ | (refine hK _ ?_; clear hK K) | refine rL fun K hK => ?_) | ((with_reducible refine And.intro (Chk.mk' ?_) ?_); kernel_rfl) | ((with_reducible refine HS.cond1 ?_ ?_); rfl) | ((with_reducible refine HS.cond0 ?_ ?_); rfl) | ((with_reducible apply HS.condB) <;> first | rfl | (with_reducible intro h)) | (with_reducible first | refine r2 ?_ | refine r3 ?_ | refine r4 ?_ | refine r5 ?_ | refine r6 ?_ | refine r7 ?_ | refine r8 ?_ | refine r9 ?_ | refine rA ?_ | refine rB ?_ | refine rC ?_ | refine rD ?_) | ((with_reducible refine blockQ_miss ?_ ?_); rfl) | (with_reducible refine Two.mk' (fun h => ?_) (fun h => ?_) <;> try (exfalso; omega)) | ((with_reducible refine Bsel.mk' (fun h => ?_) (fun h => ?_)) <;> (try simp only [h])) | ((fail_if_success (with_reducible first | refine s1 ?_ | refine s2 ?_ | refine s3 ?_ | refine s4 ?_ | refine s5 ?_ | refine s6 ?_ | refine s7 ?_ | refine s8 ?_ | refine s9 ?_)); simp (disch := omega) only [↓LD, LU, LS, LT, loadA_rf, ↓reduceIte, reduceCtorEq, Nat.reduceAdd, Nat.reduceMul, Nat.reduceSub, Nat.reduceLeDiff, Nat.reduceLT, Nat.reduceEqDiff, Int.reduceNeg, Int.reduceLT, Int.reduceLE, Int.reduceEq, Int.reduceToNat, fR]) | ((with_reducible refine And.intro ?_ ?_); omega) | ((fail_if_success (with_reducible first | refine s1 ?_ | refine s2 ?_ | refine s3 ?_ | refine s4 ?_ | refine s5 ?_ | refine s6 ?_ | refine s7 ?_ | refine s8 ?_ | refine s9 ?_)); simp only [D.int, D.bool]))
  refine HS.cut [1, 5] 0 (fun x : Nat × List Nd => ⟨frm 158 [(1, D.int how), (5, (outN x.1 x.2).1)], (outN x.1 x.2).2, []⟩) (fun x => Fit x.2 ∧ x.2.length = x.1 ∧ x.1 ≤ 6) ?_ ?_
  · refine HS.loopG [0, 1, 5, 6] (fun x : Nat × Nat × List Nd => ⟨frm 158 [(0, .f (fR l)), (1, D.int how), (5, (outN x.2.1 x.2.2).1), (6, D.int x.1)], (outN x.2.1 x.2.2).2, []⟩)
      (fun x => x.1 ≤ 6 ∧ Fit x.2.2 ∧ x.2.2.length = x.2.1 ∧ x.2.1 = x.1) (fun x => 6 - x.1) (0, 0, []) (by kernel_rfl) ⟨by omega, ⟨by simp, by simp⟩, rfl, rfl⟩ ?_
    rintro ⟨i, nd, ds⟩ ⟨hi, hds, hdl, hni⟩
    dsimp only at hi hds hdl hni
    have p1 := pick_in (x := (gt l i).tr) (n := 3) (by omega)
    have p2 := pick_in (x := (gt l i).le) (n := 9) (by omega)
    rcases nd with _ | nd
    · obtain rfl := List.eq_nil_of_length_eq_zero hdl
      repeat' (first | (with_reducible first | refine r1 ?_ | refine rK fun K hK => ?_ | refine wpS_app fun K hK => ?_ | (refine hK _ ?_; clear hK K) | refine rL fun K hK => ?_) | ((with_reducible refine And.intro (Chk.mk' ?_) ?_); kernel_rfl) | ((with_reducible refine HS.cond1 ?_ ?_); rfl) | ((with_reducible refine HS.cond0 ?_ ?_); rfl) | ((with_reducible apply HS.condB) <;> first | rfl | (with_reducible intro h)) | (with_reducible first | refine r2 ?_ | refine r3 ?_ | refine r4 ?_ | refine r5 ?_ | refine r6 ?_ | refine r7 ?_ | refine r8 ?_ | refine r9 ?_ | refine rA ?_ | refine rB ?_ | refine rC ?_ | refine rD ?_) | ((with_reducible refine blockQ_miss ?_ ?_); rfl) | (with_reducible refine Two.mk' (fun h => ?_) (fun h => ?_) <;> try (exfalso; omega)) | ((with_reducible refine Bsel.mk' (fun h => ?_) (fun h => ?_)) <;> (try simp only [h])) | ((fail_if_success (with_reducible first | refine s1 ?_ | refine s2 ?_ | refine s3 ?_ | refine s4 ?_ | refine s5 ?_ | refine s6 ?_ | refine s7 ?_ | refine s8 ?_ | refine s9 ?_)); simp (disch := omega) only [↓LD, LU, LS, LT, loadA_rf, ↓reduceIte, reduceCtorEq, Nat.reduceAdd, Nat.reduceMul, Nat.reduceSub, Nat.reduceLeDiff, Nat.reduceLT, Nat.reduceEqDiff, Int.reduceNeg, Int.reduceLT, Int.reduceLE, Int.reduceEq, Int.reduceToNat, fR, outN, rd_at0, rd_at1, rd_at2]) | ((with_reducible refine And.intro ?_ ?_); omega) | ((fail_if_success (with_reducible first | refine s1 ?_ | refine s2 ?_ | refine s3 ?_ | refine s4 ?_ | refine s5 ?_ | refine s6 ?_ | refine s7 ?_ | refine s8 ?_ | refine s9 ?_)); simp only [D.int, D.bool]))
      · refine callDr_peek (c_hand_Pick _ 3 (by omega) (by omega)) (.cons .f (.cons .f .nil)) ⟨.f .v, by simp⟩ ?_
        repeat' (first | (with_reducible first | refine r1 ?_ | refine rK fun K hK => ?_ | refine wpS_app fun K hK => ?_ | (refine hK _ ?_; clear hK K) | refine rL fun K hK => ?_) | ((with_reducible refine And.intro (Chk.mk' ?_) ?_); kernel_rfl) | ((with_reducible refine HS.cond1 ?_ ?_); rfl) | ((with_reducible refine HS.cond0 ?_ ?_); rfl) | ((with_reducible apply HS.condB) <;> first | rfl | (with_reducible intro h)) | (with_reducible first | refine r2 ?_ | refine r3 ?_ | refine r4 ?_ | refine r5 ?_ | refine r6 ?_ | refine r7 ?_ | refine r8 ?_ | refine r9 ?_ | refine rA ?_ | refine rB ?_ | refine rC ?_ | refine rD ?_) | ((with_reducible refine blockQ_miss ?_ ?_); rfl) | (with_reducible refine Two.mk' (fun h => ?_) (fun h => ?_) <;> try (exfalso; omega)) | ((with_reducible refine Bsel.mk' (fun h => ?_) (fun h => ?_)) <;> (try simp only [h])) | ((fail_if_success (with_reducible first | refine s1 ?_ | refine s2 ?_ | refine s3 ?_ | refine s4 ?_ | refine s5 ?_ | refine s6 ?_ | refine s7 ?_ | refine s8 ?_ | refine s9 ?_)); simp (disch := omega) only [↓LD, LU, LS, LT, loadA_rf, ↓reduceIte, reduceCtorEq, Nat.reduceAdd, Nat.reduceMul, Nat.reduceSub, Nat.reduceLeDiff, Nat.reduceLT, Nat.reduceEqDiff, Int.reduceNeg, Int.reduceLT, Int.reduceLE, Int.reduceEq, Int.reduceToNat, fR, outN, rd_at0, rd_at1, rd_at2, List.append_nil, List.map_nil, D.int]) | ((with_reducible refine And.intro ?_ ?_); omega) | ((fail_if_success (with_reducible first | refine s1 ?_ | refine s2 ?_ | refine s3 ?_ | refine s4 ?_ | refine s5 ?_ | refine s6 ?_ | refine s7 ?_ | refine s8 ?_ | refine s9 ?_)); simp only [D.int, D.bool]))
        refine callDr_peek (c_hand_Pick _ 9 (by omega) (by omega)) (.cons .f (.cons .f .nil)) ⟨.f .v, by simp⟩ ?_
        repeat' (first | (with_reducible first | refine r1 ?_ | refine rK fun K hK => ?_ | refine wpS_app fun K hK => ?_ | (refine hK _ ?_; clear hK K) | refine rL fun K hK => ?_) | ((with_reducible refine And.intro (Chk.mk' ?_) ?_); kernel_rfl) | ((with_reducible refine HS.cond1 ?_ ?_); rfl) | ((with_reducible refine HS.cond0 ?_ ?_); rfl) | ((with_reducible apply HS.condB) <;> first | rfl | (with_reducible intro h)) | (with_reducible first | refine r2 ?_ | refine r3 ?_ | refine r4 ?_ | refine r5 ?_ | refine r6 ?_ | refine r7 ?_ | refine r8 ?_ | refine r9 ?_ | refine rA ?_ | refine rB ?_ | refine rC ?_ | refine rD ?_) | ((with_reducible refine blockQ_miss ?_ ?_); rfl) | (with_reducible refine Two.mk' (fun h => ?_) (fun h => ?_) <;> try (exfalso; omega)) | ((with_reducible refine Bsel.mk' (fun h => ?_) (fun h => ?_)) <;> (try simp only [h])) | ((fail_if_success (with_reducible first | refine s1 ?_ | refine s2 ?_ | refine s3 ?_ | refine s4 ?_ | refine s5 ?_ | refine s6 ?_ | refine s7 ?_ | refine s8 ?_ | refine s9 ?_)); simp (disch := omega) only [↓LD, LU, LS, LT, loadA_rf, ↓reduceIte, reduceCtorEq, Nat.reduceAdd, Nat.reduceMul, Nat.reduceSub, Nat.reduceLeDiff, Nat.reduceLT, Nat.reduceEqDiff, Int.reduceNeg, Int.reduceLT, Int.reduceLE, Int.reduceEq, Int.reduceToNat, fR, outN, rd_at0, rd_at1, rd_at2, List.append_nil, List.map_nil, D.int]) | ((with_reducible refine And.intro ?_ ?_); omega) | ((fail_if_success (with_reducible first | refine s1 ?_ | refine s2 ?_ | refine s3 ?_ | refine s4 ?_ | refine s5 ?_ | refine s6 ?_ | refine s7 ?_ | refine s8 ?_ | refine s9 ?_)); simp only [D.int, D.bool]))
        refine HS.cut [0, 1, 5, 6, 7] 2 (fun x : Nat × Nat × List Int => ⟨frm 158 [(0, .f (fR l)), (1, D.int how), (5, (outN 0 []).1), (6, D.int i), (7, .pt 0 0)], (outN 0 []).2 ++ inV (0 + 1) x.2.1 x.2.2 (1 + pick (gt l i).tr 3) (1 + pick (gt l i).le 9), []⟩) (fun x => x.2.2.length = x.2.1 ∧ x.2.1 ≤ 100) ?_ ?_
        · refine HS.loopG [0, 1, 5, 6, 7, 8] (fun x : Nat × Nat × List Int => ⟨frm 158 [(0, .f (fR l)), (1, D.int how), (5, (outN 0 []).1), (6, D.int i), (7, .pt 0 0), (8, D.int x.1)], (outN 0 []).2 ++ inV (0 + 1) x.2.1 x.2.2 (1 + pick (gt l i).tr 3) (1 + pick (gt l i).le 9), []⟩)
            (fun x => x.1 ≤ i ∧ x.2.2.length = x.2.1 ∧ x.2.1 ≤ 3 * x.1) (fun x => i - x.1) (0, 0, []) (by kernel_rfl) ⟨by omega, rfl, by simp⟩ ?_
          rintro ⟨j, n, ns⟩ ⟨hj, hn, hnj⟩
          dsimp only at hj hn hnj
          obtain rfl : n = 0 := by omega
          repeat' (first | (with_reducible first | refine r1 ?_ | refine rK fun K hK => ?_ | refine wpS_app fun K hK => ?_ | (refine hK _ ?_; clear hK K) | refine rL fun K hK => ?_) | ((with_reducible refine And.intro (Chk.mk' ?_) ?_); kernel_rfl) | ((with_reducible refine HS.cond1 ?_ ?_); rfl) | ((with_reducible refine HS.cond0 ?_ ?_); rfl) | ((with_reducible apply HS.condB) <;> first | rfl | (with_reducible intro h)) | (with_reducible first | refine r2 ?_ | refine r3 ?_ | refine r4 ?_ | refine r5 ?_ | refine r6 ?_ | refine r7 ?_ | refine r8 ?_ | refine r9 ?_ | refine rA ?_ | refine rB ?_ | refine rC ?_ | refine rD ?_) | ((with_reducible refine blockQ_miss ?_ ?_); rfl) | (with_reducible refine Two.mk' (fun h => ?_) (fun h => ?_) <;> try (exfalso; omega)) | ((with_reducible refine Bsel.mk' (fun h => ?_) (fun h => ?_)) <;> (try simp only [h])) | ((fail_if_success (with_reducible first | refine s1 ?_ | refine s2 ?_ | refine s3 ?_ | refine s4 ?_ | refine s5 ?_ | refine s6 ?_ | refine s7 ?_ | refine s8 ?_ | refine s9 ?_)); simp (disch := omega) only [↓LD, LU, LS, LT, loadA_rf, ↓reduceIte, reduceCtorEq, Nat.reduceAdd, Nat.reduceMul, Nat.reduceSub, Nat.reduceLeDiff, Nat.reduceLT, Nat.reduceEqDiff, Int.reduceNeg, Int.reduceLT, Int.reduceLE, Int.reduceEq, Int.reduceToNat, fR, outN, inV, List.append_nil]) | ((with_reducible refine And.intro ?_ ?_); omega) | ((fail_if_success (with_reducible first | refine s1 ?_ | refine s2 ?_ | refine s3 ?_ | refine s4 ?_ | refine s5 ?_ | refine s6 ?_ | refine s7 ?_ | refine s8 ?_ | refine s9 ?_)); simp only [D.int, D.bool]))
          exact OutS.mk (j, 0, ns) (by kernel_rfl) ⟨hn, by dsimp only; omega⟩
        · rintro ⟨_, n, ns⟩ ⟨hn, hn2⟩ s' hv
          dsimp only at hn hn2
          refine blockQ_hit ?_
          refine thenQ_n ?_
          refine HS.view hv ?_
          rcases n with _ | n
          · refine HS.view (View.nil0 (r := 0) (i := 0) rfl rfl) ?_
            repeat' (first | (with_reducible first | refine r1 ?_ | refine rK fun K hK => ?_ | refine wpS_app fun K hK => ?_ | (refine hK _ ?_; clear hK K) | refine rL fun K hK => ?_) | ((with_reducible refine And.intro (Chk.mk' ?_) ?_); kernel_rfl) | ((with_reducible refine HS.cond1 ?_ ?_); rfl) | ((with_reducible refine HS.cond0 ?_ ?_); rfl) | ((with_reducible apply HS.condB) <;> first | rfl | (with_reducible intro h)) | (with_reducible first | refine r2 ?_ | refine r3 ?_ | refine r4 ?_ | refine r5 ?_ | refine r6 ?_ | refine r7 ?_ | refine r8 ?_ | refine r9 ?_ | refine rA ?_ | refine rB ?_ | refine rC ?_ | refine rD ?_) | ((with_reducible refine blockQ_miss ?_ ?_); rfl) | (with_reducible refine Two.mk' (fun h => ?_) (fun h => ?_) <;> try (exfalso; omega)) | ((with_reducible refine Bsel.mk' (fun h => ?_) (fun h => ?_)) <;> (try simp only [h])) | ((fail_if_success (with_reducible first | refine s1 ?_ | refine s2 ?_ | refine s3 ?_ | refine s4 ?_ | refine s5 ?_ | refine s6 ?_ | refine s7 ?_ | refine s8 ?_ | refine s9 ?_)); simp (disch := omega) only [↓LD, LU, LS, LT, loadA_rf, ↓reduceIte, reduceCtorEq, Nat.reduceAdd, Nat.reduceMul, Nat.reduceSub, Nat.reduceLeDiff, Nat.reduceLT, Nat.reduceEqDiff, Int.reduceNeg, Int.reduceLT, Int.reduceLE, Int.reduceEq, Int.reduceToNat, fR, outN, inV, List.append_nil, List.set_cons_succ, List.set_cons_zero]) | ((with_reducible refine And.intro ?_ ?_); omega) | ((fail_if_success (with_reducible first | refine s1 ?_ | refine s2 ?_ | refine s3 ?_ | refine s4 ?_ | refine s5 ?_ | refine s6 ?_ | refine s7 ?_ | refine s8 ?_ | refine s9 ?_)); simp only [D.int, D.bool]))
            skip
            skip
            refine Next.mk (i + 1, 0 + 1, [] ++ [(⟨[], 1 + pick (gt l i).tr 3, 1 + pick (gt l i).le 9⟩ : Nd)]) (by kernel_rfl) ⟨by dsimp only; omega, fit_app hds (by simp) (by simp), by simp [], by dsimp only; omega⟩ (by dsimp only; omega)
          · repeat' (first | (with_reducible first | refine r1 ?_ | refine rK fun K hK => ?_ | refine wpS_app fun K hK => ?_ | (refine hK _ ?_; clear hK K) | refine rL fun K hK => ?_) | ((with_reducible refine And.intro (Chk.mk' ?_) ?_); kernel_rfl) | ((with_reducible refine HS.cond1 ?_ ?_); rfl) | ((with_reducible refine HS.cond0 ?_ ?_); rfl) | ((with_reducible apply HS.condB) <;> first | rfl | (with_reducible intro h)) | (with_reducible first | refine r2 ?_ | refine r3 ?_ | refine r4 ?_ | refine r5 ?_ | refine r6 ?_ | refine r7 ?_ | refine r8 ?_ | refine r9 ?_ | refine rA ?_ | refine rB ?_ | refine rC ?_ | refine rD ?_) | ((with_reducible refine blockQ_miss ?_ ?_); rfl) | (with_reducible refine Two.mk' (fun h => ?_) (fun h => ?_) <;> try (exfalso; omega)) | ((with_reducible refine Bsel.mk' (fun h => ?_) (fun h => ?_)) <;> (try simp only [h])) | ((fail_if_success (with_reducible first | refine s1 ?_ | refine s2 ?_ | refine s3 ?_ | refine s4 ?_ | refine s5 ?_ | refine s6 ?_ | refine s7 ?_ | refine s8 ?_ | refine s9 ?_)); simp (disch := omega) only [↓LD, LU, LS, LT, loadA_rf, ↓reduceIte, reduceCtorEq, Nat.reduceAdd, Nat.reduceMul, Nat.reduceSub, Nat.reduceLeDiff, Nat.reduceLT, Nat.reduceEqDiff, Int.reduceNeg, Int.reduceLT, Int.reduceLE, Int.reduceEq, Int.reduceToNat, fR, outN, inV, List.append_nil]) | ((with_reducible refine And.intro ?_ ?_); omega) | ((fail_if_success (with_reducible first | refine s1 ?_ | refine s2 ?_ | refine s3 ?_ | refine s4 ?_ | refine s5 ?_ | refine s6 ?_ | refine s7 ?_ | refine s8 ?_ | refine s9 ?_)); simp only [D.int, D.bool]))
            refine bind'_of (freeze_sl (b := 8) (z := [.int .i64 0]) rfl (by kernel_rfl) (by rw [List.length_map]; exact hn)) ?_
            repeat' (first | (with_reducible first | refine r1 ?_ | refine rK fun K hK => ?_ | refine wpS_app fun K hK => ?_ | (refine hK _ ?_; clear hK K) | refine rL fun K hK => ?_) | ((with_reducible refine And.intro (Chk.mk' ?_) ?_); kernel_rfl) | ((with_reducible refine HS.cond1 ?_ ?_); rfl) | ((with_reducible refine HS.cond0 ?_ ?_); rfl) | ((with_reducible apply HS.condB) <;> first | rfl | (with_reducible intro h)) | (with_reducible first | refine r2 ?_ | refine r3 ?_ | refine r4 ?_ | refine r5 ?_ | refine r6 ?_ | refine r7 ?_ | refine r8 ?_ | refine r9 ?_ | refine rA ?_ | refine rB ?_ | refine rC ?_ | refine rD ?_) | ((with_reducible refine blockQ_miss ?_ ?_); rfl) | (with_reducible refine Two.mk' (fun h => ?_) (fun h => ?_) <;> try (exfalso; omega)) | ((with_reducible refine Bsel.mk' (fun h => ?_) (fun h => ?_)) <;> (try simp only [h])) | ((fail_if_success (with_reducible first | refine s1 ?_ | refine s2 ?_ | refine s3 ?_ | refine s4 ?_ | refine s5 ?_ | refine s6 ?_ | refine s7 ?_ | refine s8 ?_ | refine s9 ?_)); simp (disch := omega) only [↓LD, LU, LS, LT, loadA_rf, ↓reduceIte, reduceCtorEq, Nat.reduceAdd, Nat.reduceMul, Nat.reduceSub, Nat.reduceLeDiff, Nat.reduceLT, Nat.reduceEqDiff, Int.reduceNeg, Int.reduceLT, Int.reduceLE, Int.reduceEq, Int.reduceToNat, applyUpd, List.append_nil]) | ((with_reducible refine And.intro ?_ ?_); omega) | ((fail_if_success (with_reducible first | refine s1 ?_ | refine s2 ?_ | refine s3 ?_ | refine s4 ?_ | refine s5 ?_ | refine s6 ?_ | refine s7 ?_ | refine s8 ?_ | refine s9 ?_)); simp only [D.int, D.bool]))
            skip
            skip
            exact Next.mk (i + 1, 0 + 1, [] ++ [(⟨ns, 1 + pick (gt l i).tr 3, 1 + pick (gt l i).le 9⟩ : Nd)]) (by rw [← hn]; kernel_rfl) ⟨by dsimp only; omega, fit_app hds (by simp) (by dsimp only; omega), by simp [], by dsimp only; omega⟩ (by dsimp only; omega)
      all_goals exact OutS.mk (0, []) (by kernel_rfl) ⟨hds, hdl, by dsimp only; omega⟩
    · skip
      repeat' (first | (with_reducible first | refine r1 ?_ | refine rK fun K hK => ?_ | refine wpS_app fun K hK => ?_ | (refine hK _ ?_; clear hK K) | refine rL fun K hK => ?_) | ((with_reducible refine And.intro (Chk.mk' ?_) ?_); kernel_rfl) | ((with_reducible refine HS.cond1 ?_ ?_); rfl) | ((with_reducible refine HS.cond0 ?_ ?_); rfl) | ((with_reducible apply HS.condB) <;> first | rfl | (with_reducible intro h)) | (with_reducible first | refine r2 ?_ | refine r3 ?_ | refine r4 ?_ | refine r5 ?_ | refine r6 ?_ | refine r7 ?_ | refine r8 ?_ | refine r9 ?_ | refine rA ?_ | refine rB ?_ | refine rC ?_ | refine rD ?_) | ((with_reducible refine blockQ_miss ?_ ?_); rfl) | (with_reducible refine Two.mk' (fun h => ?_) (fun h => ?_) <;> try (exfalso; omega)) | ((with_reducible refine Bsel.mk' (fun h => ?_) (fun h => ?_)) <;> (try simp only [h])) | ((fail_if_success (with_reducible first | refine s1 ?_ | refine s2 ?_ | refine s3 ?_ | refine s4 ?_ | refine s5 ?_ | refine s6 ?_ | refine s7 ?_ | refine s8 ?_ | refine s9 ?_)); simp (disch := omega) only [↓LD, LU, LS, LT, loadA_rf, ↓reduceIte, reduceCtorEq, Nat.reduceAdd, Nat.reduceMul, Nat.reduceSub, Nat.reduceLeDiff, Nat.reduceLT, Nat.reduceEqDiff, Int.reduceNeg, Int.reduceLT, Int.reduceLE, Int.reduceEq, Int.reduceToNat, fR, outN, rd_at0, rd_at1, rd_at2]) | ((with_reducible refine And.intro ?_ ?_); omega) | ((fail_if_success (with_reducible first | refine s1 ?_ | refine s2 ?_ | refine s3 ?_ | refine s4 ?_ | refine s5 ?_ | refine s6 ?_ | refine s7 ?_ | refine s8 ?_ | refine s9 ?_)); simp only [D.int, D.bool]))
      · refine callDr_peek (c_hand_Pick _ 3 (by omega) (by omega)) (.cons .f (.cons .f .nil)) ⟨.f .v, by simp⟩ ?_
        repeat' (first | (with_reducible first | refine r1 ?_ | refine rK fun K hK => ?_ | refine wpS_app fun K hK => ?_ | (refine hK _ ?_; clear hK K) | refine rL fun K hK => ?_) | ((with_reducible refine And.intro (Chk.mk' ?_) ?_); kernel_rfl) | ((with_reducible refine HS.cond1 ?_ ?_); rfl) | ((with_reducible refine HS.cond0 ?_ ?_); rfl) | ((with_reducible apply HS.condB) <;> first | rfl | (with_reducible intro h)) | (with_reducible first | refine r2 ?_ | refine r3 ?_ | refine r4 ?_ | refine r5 ?_ | refine r6 ?_ | refine r7 ?_ | refine r8 ?_ | refine r9 ?_ | refine rA ?_ | refine rB ?_ | refine rC ?_ | refine rD ?_) | ((with_reducible refine blockQ_miss ?_ ?_); rfl) | (with_reducible refine Two.mk' (fun h => ?_) (fun h => ?_) <;> try (exfalso; omega)) | ((with_reducible refine Bsel.mk' (fun h => ?_) (fun h => ?_)) <;> (try simp only [h])) | ((fail_if_success (with_reducible first | refine s1 ?_ | refine s2 ?_ | refine s3 ?_ | refine s4 ?_ | refine s5 ?_ | refine s6 ?_ | refine s7 ?_ | refine s8 ?_ | refine s9 ?_)); simp (disch := omega) only [↓LD, LU, LS, LT, loadA_rf, ↓reduceIte, reduceCtorEq, Nat.reduceAdd, Nat.reduceMul, Nat.reduceSub, Nat.reduceLeDiff, Nat.reduceLT, Nat.reduceEqDiff, Int.reduceNeg, Int.reduceLT, Int.reduceLE, Int.reduceEq, Int.reduceToNat, fR, outN, rd_at0, rd_at1, rd_at2, List.append_nil, List.map_nil, D.int]) | ((with_reducible refine And.intro ?_ ?_); omega) | ((fail_if_success (with_reducible first | refine s1 ?_ | refine s2 ?_ | refine s3 ?_ | refine s4 ?_ | refine s5 ?_ | refine s6 ?_ | refine s7 ?_ | refine s8 ?_ | refine s9 ?_)); simp only [D.int, D.bool]))
        refine callDr_peek (c_hand_Pick _ 9 (by omega) (by omega)) (.cons .f (.cons .f .nil)) ⟨.f .v, by simp⟩ ?_
        repeat' (first | (with_reducible first | refine r1 ?_ | refine rK fun K hK => ?_ | refine wpS_app fun K hK => ?_ | (refine hK _ ?_; clear hK K) | refine rL fun K hK => ?_) | ((with_reducible refine And.intro (Chk.mk' ?_) ?_); kernel_rfl) | ((with_reducible refine HS.cond1 ?_ ?_); rfl) | ((with_reducible refine HS.cond0 ?_ ?_); rfl) | ((with_reducible apply HS.condB) <;> first | rfl | (with_reducible intro h)) | (with_reducible first | refine r2 ?_ | refine r3 ?_ | refine r4 ?_ | refine r5 ?_ | refine r6 ?_ | refine r7 ?_ | refine r8 ?_ | refine r9 ?_ | refine rA ?_ | refine rB ?_ | refine rC ?_ | refine rD ?_) | ((with_reducible refine blockQ_miss ?_ ?_); rfl) | (with_reducible refine Two.mk' (fun h => ?_) (fun h => ?_) <;> try (exfalso; omega)) | ((with_reducible refine Bsel.mk' (fun h => ?_) (fun h => ?_)) <;> (try simp only [h])) | ((fail_if_success (with_reducible first | refine s1 ?_ | refine s2 ?_ | refine s3 ?_ | refine s4 ?_ | refine s5 ?_ | refine s6 ?_ | refine s7 ?_ | refine s8 ?_ | refine s9 ?_)); simp (disch := omega) only [↓LD, LU, LS, LT, loadA_rf, ↓reduceIte, reduceCtorEq, Nat.reduceAdd, Nat.reduceMul, Nat.reduceSub, Nat.reduceLeDiff, Nat.reduceLT, Nat.reduceEqDiff, Int.reduceNeg, Int.reduceLT, Int.reduceLE, Int.reduceEq, Int.reduceToNat, fR, outN, rd_at0, rd_at1, rd_at2, List.append_nil, List.map_nil, D.int]) | ((with_reducible refine And.intro ?_ ?_); omega) | ((fail_if_success (with_reducible first | refine s1 ?_ | refine s2 ?_ | refine s3 ?_ | refine s4 ?_ | refine s5 ?_ | refine s6 ?_ | refine s7 ?_ | refine s8 ?_ | refine s9 ?_)); simp only [D.int, D.bool]))
        refine HS.cut [0, 1, 5, 6, 7] 2 (fun x : Nat × Nat × List Int => ⟨frm 158 [(0, .f (fR l)), (1, D.int how), (5, (outN (nd + 1) ds).1), (6, D.int i), (7, .pt 1 0)], (outN (nd + 1) ds).2 ++ inV (1 + 1) x.2.1 x.2.2 (1 + pick (gt l i).tr 3) (1 + pick (gt l i).le 9), []⟩) (fun x => x.2.2.length = x.2.1 ∧ x.2.1 ≤ 100) ?_ ?_
        · refine HS.loopG [0, 1, 5, 6, 7, 8] (fun x : Nat × Nat × List Int => ⟨frm 158 [(0, .f (fR l)), (1, D.int how), (5, (outN (nd + 1) ds).1), (6, D.int i), (7, .pt 1 0), (8, D.int x.1)], (outN (nd + 1) ds).2 ++ inV (1 + 1) x.2.1 x.2.2 (1 + pick (gt l i).tr 3) (1 + pick (gt l i).le 9), []⟩)
            (fun x => x.1 ≤ i ∧ x.2.2.length = x.2.1 ∧ x.2.1 ≤ 3 * x.1) (fun x => i - x.1) (0, 0, []) (by kernel_rfl) ⟨by omega, rfl, by simp⟩ ?_
          rintro ⟨j, n, ns⟩ ⟨hj, hn, hnj⟩
          dsimp only at hj hn hnj
          rcases n with _ | n
          · repeat' (first | (with_reducible first | refine r1 ?_ | refine rK fun K hK => ?_ | refine wpS_app fun K hK => ?_ | (refine hK _ ?_; clear hK K) | refine rL fun K hK => ?_) | ((with_reducible refine And.intro (Chk.mk' ?_) ?_); kernel_rfl) | ((with_reducible refine HS.cond1 ?_ ?_); rfl) | ((with_reducible refine HS.cond0 ?_ ?_); rfl) | ((with_reducible apply HS.condB) <;> first | rfl | (with_reducible intro h)) | (with_reducible first | refine r2 ?_ | refine r3 ?_ | refine r4 ?_ | refine r5 ?_ | refine r6 ?_ | refine r7 ?_ | refine r8 ?_ | refine r9 ?_ | refine rA ?_ | refine rB ?_ | refine rC ?_ | refine rD ?_) | ((with_reducible refine blockQ_miss ?_ ?_); rfl) | (with_reducible refine Two.mk' (fun h => ?_) (fun h => ?_) <;> try (exfalso; omega)) | ((with_reducible refine Bsel.mk' (fun h => ?_) (fun h => ?_)) <;> (try simp only [h])) | ((fail_if_success (with_reducible first | refine s1 ?_ | refine s2 ?_ | refine s3 ?_ | refine s4 ?_ | refine s5 ?_ | refine s6 ?_ | refine s7 ?_ | refine s8 ?_ | refine s9 ?_)); simp (disch := omega) only [↓LD, LU, LS, LT, loadA_rf, ↓reduceIte, reduceCtorEq, Nat.reduceAdd, Nat.reduceMul, Nat.reduceSub, Nat.reduceLeDiff, Nat.reduceLT, Nat.reduceEqDiff, Int.reduceNeg, Int.reduceLT, Int.reduceLE, Int.reduceEq, Int.reduceToNat, fR, outN, inV, List.append_nil]) | ((with_reducible refine And.intro ?_ ?_); omega) | ((fail_if_success (with_reducible first | refine s1 ?_ | refine s2 ?_ | refine s3 ?_ | refine s4 ?_ | refine s5 ?_ | refine s6 ?_ | refine s7 ?_ | refine s8 ?_ | refine s9 ?_)); simp only [D.int, D.bool]))
            · refine HS.loopG [0, 1, 5, 6, 7, 8, 9] (fun x : Nat × Nat × List Int => ⟨frm 158 [(0, .f (fR l)), (1, D.int how), (5, (outN (nd + 1) ds).1), (6, D.int i), (7, .pt 1 0), (8, D.int j), (9, D.int x.1)], (outN (nd + 1) ds).2 ++ inV (1 + 1) x.2.1 x.2.2 (1 + pick (gt l i).tr 3) (1 + pick (gt l i).le 9), []⟩)
                (fun x => x.1 ≤ 3 ∧ x.2.2.length = x.2.1 ∧ x.2.1 ≤ 3 * j + x.1) (fun x => 3 - x.1) (0, 0, ns) (by kernel_rfl) ⟨by omega, hn, by dsimp only; omega⟩ ?_
              rintro ⟨m, q, qs⟩ ⟨hm, hq, hqj⟩
              dsimp only at hm hq hqj
              have p3 := pick_in (x := gt (gt l i).ns m) (n := i) (by omega)
              rcases q with _ | q
              · repeat' (first | (with_reducible first | refine r1 ?_ | refine rK fun K hK => ?_ | refine wpS_app fun K hK => ?_ | (refine hK _ ?_; clear hK K) | refine rL fun K hK => ?_) | ((with_reducible refine And.intro (Chk.mk' ?_) ?_); kernel_rfl) | ((with_reducible refine HS.cond1 ?_ ?_); rfl) | ((with_reducible refine HS.cond0 ?_ ?_); rfl) | ((with_reducible apply HS.condB) <;> first | rfl | (with_reducible intro h)) | (with_reducible first | refine r2 ?_ | refine r3 ?_ | refine r4 ?_ | refine r5 ?_ | refine r6 ?_ | refine r7 ?_ | refine r8 ?_ | refine r9 ?_ | refine rA ?_ | refine rB ?_ | refine rC ?_ | refine rD ?_) | ((with_reducible refine blockQ_miss ?_ ?_); rfl) | (with_reducible refine Two.mk' (fun h => ?_) (fun h => ?_) <;> try (exfalso; omega)) | ((with_reducible refine Bsel.mk' (fun h => ?_) (fun h => ?_)) <;> (try simp only [h])) | ((fail_if_success (with_reducible first | refine s1 ?_ | refine s2 ?_ | refine s3 ?_ | refine s4 ?_ | refine s5 ?_ | refine s6 ?_ | refine s7 ?_ | refine s8 ?_ | refine s9 ?_)); simp (disch := omega) only [↓LD, LU, LS, LT, loadA_rf, ↓reduceIte, reduceCtorEq, Nat.reduceAdd, Nat.reduceMul, Nat.reduceSub, Nat.reduceLeDiff, Nat.reduceLT, Nat.reduceEqDiff, Int.reduceNeg, Int.reduceLT, Int.reduceLE, Int.reduceEq, Int.reduceToNat, fR, fI, outN, inV, rd_at0, rd_at1, rd_at2, List.append_nil]) | ((with_reducible refine And.intro ?_ ?_); omega) | ((fail_if_success (with_reducible first | refine s1 ?_ | refine s2 ?_ | refine s3 ?_ | refine s4 ?_ | refine s5 ?_ | refine s6 ?_ | refine s7 ?_ | refine s8 ?_ | refine s9 ?_)); simp only [D.int, D.bool]))
                · refine callW_peek (c_hand_Pick _ i (by omega) (by omega)) (.cons .f (.cons .f .nil)) ?_ ?_
                  · rintro _ _ ⟨rfl, rfl⟩
                    exact ⟨.f .v, by simp⟩
                  rintro _ _ ⟨rfl, rfl⟩
                  repeat' (first | (with_reducible first | refine r1 ?_ | refine rK fun K hK => ?_ | refine wpS_app fun K hK => ?_ | (refine hK _ ?_; clear hK K) | refine rL fun K hK => ?_) | ((with_reducible refine And.intro (Chk.mk' ?_) ?_); kernel_rfl) | ((with_reducible refine HS.cond1 ?_ ?_); rfl) | ((with_reducible refine HS.cond0 ?_ ?_); rfl) | ((with_reducible apply HS.condB) <;> first | rfl | (with_reducible intro h)) | (with_reducible first | refine r2 ?_ | refine r3 ?_ | refine r4 ?_ | refine r5 ?_ | refine r6 ?_ | refine r7 ?_ | refine r8 ?_ | refine r9 ?_ | refine rA ?_ | refine rB ?_ | refine rC ?_ | refine rD ?_) | ((with_reducible refine blockQ_miss ?_ ?_); rfl) | (with_reducible refine Two.mk' (fun h => ?_) (fun h => ?_) <;> try (exfalso; omega)) | ((with_reducible refine Bsel.mk' (fun h => ?_) (fun h => ?_)) <;> (try simp only [h])) | ((fail_if_success (with_reducible first | refine s1 ?_ | refine s2 ?_ | refine s3 ?_ | refine s4 ?_ | refine s5 ?_ | refine s6 ?_ | refine s7 ?_ | refine s8 ?_ | refine s9 ?_)); simp (disch := omega) only [↓LD, LU, LS, LT, loadA_rf, ↓reduceIte, reduceCtorEq, Nat.reduceAdd, Nat.reduceMul, Nat.reduceSub, Nat.reduceLeDiff, Nat.reduceLT, Nat.reduceEqDiff, Int.reduceNeg, Int.reduceLT, Int.reduceLE, Int.reduceEq, Int.reduceToNat, fR, fI, outN, inV, rd_at0, rd_at1, rd_at2, List.append_nil, List.map_nil]) | ((with_reducible refine And.intro ?_ ?_); omega) | ((fail_if_success (with_reducible first | refine s1 ?_ | refine s2 ?_ | refine s3 ?_ | refine s4 ?_ | refine s5 ?_ | refine s6 ?_ | refine s7 ?_ | refine s8 ?_ | refine s9 ?_)); simp only [D.int, D.bool]))
                  · exact Next.mk (m + 1, 1, [(j : Int)]) (by kernel_rfl) ⟨by dsimp only; omega, rfl, by dsimp only; omega⟩ (by dsimp only; omega)
                  · exact Next.mk (m + 1, 0, qs) (by kernel_rfl) ⟨by dsimp only; omega, hq, by dsimp only; omega⟩ (by dsimp only; omega)
                · exact Next.mk (j + 1, 0, qs) (by kernel_rfl) ⟨by dsimp only; omega, hq, by dsimp only; omega⟩ (by dsimp only; omega)
                · exact Next.mk (j + 1, 0, qs) (by kernel_rfl) ⟨by dsimp only; omega, hq, by dsimp only; omega⟩ (by dsimp only; omega)
              · repeat' (first | (with_reducible first | refine r1 ?_ | refine rK fun K hK => ?_ | refine wpS_app fun K hK => ?_ | (refine hK _ ?_; clear hK K) | refine rL fun K hK => ?_) | ((with_reducible refine And.intro (Chk.mk' ?_) ?_); kernel_rfl) | ((with_reducible refine HS.cond1 ?_ ?_); rfl) | ((with_reducible refine HS.cond0 ?_ ?_); rfl) | ((with_reducible apply HS.condB) <;> first | rfl | (with_reducible intro h)) | (with_reducible first | refine r2 ?_ | refine r3 ?_ | refine r4 ?_ | refine r5 ?_ | refine r6 ?_ | refine r7 ?_ | refine r8 ?_ | refine r9 ?_ | refine rA ?_ | refine rB ?_ | refine rC ?_ | refine rD ?_) | ((with_reducible refine blockQ_miss ?_ ?_); rfl) | (with_reducible refine Two.mk' (fun h => ?_) (fun h => ?_) <;> try (exfalso; omega)) | ((with_reducible refine Bsel.mk' (fun h => ?_) (fun h => ?_)) <;> (try simp only [h])) | ((fail_if_success (with_reducible first | refine s1 ?_ | refine s2 ?_ | refine s3 ?_ | refine s4 ?_ | refine s5 ?_ | refine s6 ?_ | refine s7 ?_ | refine s8 ?_ | refine s9 ?_)); simp (disch := omega) only [↓LD, LU, LS, LT, loadA_rf, ↓reduceIte, reduceCtorEq, Nat.reduceAdd, Nat.reduceMul, Nat.reduceSub, Nat.reduceLeDiff, Nat.reduceLT, Nat.reduceEqDiff, Int.reduceNeg, Int.reduceLT, Int.reduceLE, Int.reduceEq, Int.reduceToNat, fR, fI, outN, inV, rd_at0, rd_at1, rd_at2, List.append_nil]) | ((with_reducible refine And.intro ?_ ?_); omega) | ((fail_if_success (with_reducible first | refine s1 ?_ | refine s2 ?_ | refine s3 ?_ | refine s4 ?_ | refine s5 ?_ | refine s6 ?_ | refine s7 ?_ | refine s8 ?_ | refine s9 ?_)); simp only [D.int, D.bool]))
                · refine callW_peek (c_hand_Pick _ i (by omega) (by omega)) (.cons .f (.cons .f .nil)) ?_ ?_
                  · rintro _ _ ⟨rfl, rfl⟩
                    exact ⟨.f .v, by simp⟩
                  rintro _ _ ⟨rfl, rfl⟩
                  repeat' (first | (with_reducible first | refine r1 ?_ | refine rK fun K hK => ?_ | refine wpS_app fun K hK => ?_ | (refine hK _ ?_; clear hK K) | refine rL fun K hK => ?_) | ((with_reducible refine And.intro (Chk.mk' ?_) ?_); kernel_rfl) | ((with_reducible refine HS.cond1 ?_ ?_); rfl) | ((with_reducible refine HS.cond0 ?_ ?_); rfl) | ((with_reducible apply HS.condB) <;> first | rfl | (with_reducible intro h)) | (with_reducible first | refine r2 ?_ | refine r3 ?_ | refine r4 ?_ | refine r5 ?_ | refine r6 ?_ | refine r7 ?_ | refine r8 ?_ | refine r9 ?_ | refine rA ?_ | refine rB ?_ | refine rC ?_ | refine rD ?_) | ((with_reducible refine blockQ_miss ?_ ?_); rfl) | (with_reducible refine Two.mk' (fun h => ?_) (fun h => ?_) <;> try (exfalso; omega)) | ((with_reducible refine Bsel.mk' (fun h => ?_) (fun h => ?_)) <;> (try simp only [h])) | ((fail_if_success (with_reducible first | refine s1 ?_ | refine s2 ?_ | refine s3 ?_ | refine s4 ?_ | refine s5 ?_ | refine s6 ?_ | refine s7 ?_ | refine s8 ?_ | refine s9 ?_)); simp (disch := omega) only [↓LD, LU, LS, LT, loadA_rf, ↓reduceIte, reduceCtorEq, Nat.reduceAdd, Nat.reduceMul, Nat.reduceSub, Nat.reduceLeDiff, Nat.reduceLT, Nat.reduceEqDiff, Int.reduceNeg, Int.reduceLT, Int.reduceLE, Int.reduceEq, Int.reduceToNat, fR, fI, outN, inV, rd_at0, rd_at1, rd_at2, List.append_nil, List.map_nil]) | ((with_reducible refine And.intro ?_ ?_); omega) | ((fail_if_success (with_reducible first | refine s1 ?_ | refine s2 ?_ | refine s3 ?_ | refine s4 ?_ | refine s5 ?_ | refine s6 ?_ | refine s7 ?_ | refine s8 ?_ | refine s9 ?_)); simp only [D.int, D.bool]))
                  · exact Next.mk (m + 1, q + 2, qs ++ [(j : Int)]) (by kernel_rfl) ⟨by dsimp only; omega, by simp [hq], by dsimp only; omega⟩ (by dsimp only; omega)
                  · exact Next.mk (m + 1, q + 1, qs) (by kernel_rfl) ⟨by dsimp only; omega, hq, by dsimp only; omega⟩ (by dsimp only; omega)
                  · exact Next.mk (m + 1, q + 1, qs) (by kernel_rfl) ⟨by dsimp only; omega, hq, by dsimp only; omega⟩ (by dsimp only; omega)
                · exact Next.mk (j + 1, (q + 1), qs) (by kernel_rfl) ⟨by dsimp only; omega, hq, by dsimp only; omega⟩ (by dsimp only; omega)
                · exact Next.mk (j + 1, (q + 1), qs) (by kernel_rfl) ⟨by dsimp only; omega, hq, by dsimp only; omega⟩ (by dsimp only; omega)
            · exact OutS.mk (j, 0, ns) (by kernel_rfl) ⟨hn, by dsimp only; omega⟩
          · repeat' (first | (with_reducible first | refine r1 ?_ | refine rK fun K hK => ?_ | refine wpS_app fun K hK => ?_ | (refine hK _ ?_; clear hK K) | refine rL fun K hK => ?_) | ((with_reducible refine And.intro (Chk.mk' ?_) ?_); kernel_rfl) | ((with_reducible refine HS.cond1 ?_ ?_); rfl) | ((with_reducible refine HS.cond0 ?_ ?_); rfl) | ((with_reducible apply HS.condB) <;> first | rfl | (with_reducible intro h)) | (with_reducible first | refine r2 ?_ | refine r3 ?_ | refine r4 ?_ | refine r5 ?_ | refine r6 ?_ | refine r7 ?_ | refine r8 ?_ | refine r9 ?_ | refine rA ?_ | refine rB ?_ | refine rC ?_ | refine rD ?_) | ((with_reducible refine blockQ_miss ?_ ?_); rfl) | (with_reducible refine Two.mk' (fun h => ?_) (fun h => ?_) <;> try (exfalso; omega)) | ((with_reducible refine Bsel.mk' (fun h => ?_) (fun h => ?_)) <;> (try simp only [h])) | ((fail_if_success (with_reducible first | refine s1 ?_ | refine s2 ?_ | refine s3 ?_ | refine s4 ?_ | refine s5 ?_ | refine s6 ?_ | refine s7 ?_ | refine s8 ?_ | refine s9 ?_)); simp (disch := omega) only [↓LD, LU, LS, LT, loadA_rf, ↓reduceIte, reduceCtorEq, Nat.reduceAdd, Nat.reduceMul, Nat.reduceSub, Nat.reduceLeDiff, Nat.reduceLT, Nat.reduceEqDiff, Int.reduceNeg, Int.reduceLT, Int.reduceLE, Int.reduceEq, Int.reduceToNat, fR, outN, inV, List.append_nil]) | ((with_reducible refine And.intro ?_ ?_); omega) | ((fail_if_success (with_reducible first | refine s1 ?_ | refine s2 ?_ | refine s3 ?_ | refine s4 ?_ | refine s5 ?_ | refine s6 ?_ | refine s7 ?_ | refine s8 ?_ | refine s9 ?_)); simp only [D.int, D.bool]))
            · refine HS.loopG [0, 1, 5, 6, 7, 8, 9] (fun x : Nat × Nat × List Int => ⟨frm 158 [(0, .f (fR l)), (1, D.int how), (5, (outN (nd + 1) ds).1), (6, D.int i), (7, .pt 1 0), (8, D.int j), (9, D.int x.1)], (outN (nd + 1) ds).2 ++ inV (1 + 1) x.2.1 x.2.2 (1 + pick (gt l i).tr 3) (1 + pick (gt l i).le 9), []⟩)
                (fun x => x.1 ≤ 3 ∧ x.2.2.length = x.2.1 ∧ x.2.1 ≤ 3 * j + x.1) (fun x => 3 - x.1) (0, (n + 1), ns) (by kernel_rfl) ⟨by omega, hn, by dsimp only; omega⟩ ?_
              rintro ⟨m, q, qs⟩ ⟨hm, hq, hqj⟩
              dsimp only at hm hq hqj
              have p3 := pick_in (x := gt (gt l i).ns m) (n := i) (by omega)
              rcases q with _ | q
              · repeat' (first | (with_reducible first | refine r1 ?_ | refine rK fun K hK => ?_ | refine wpS_app fun K hK => ?_ | (refine hK _ ?_; clear hK K) | refine rL fun K hK => ?_) | ((with_reducible refine And.intro (Chk.mk' ?_) ?_); kernel_rfl) | ((with_reducible refine HS.cond1 ?_ ?_); rfl) | ((with_reducible refine HS.cond0 ?_ ?_); rfl) | ((with_reducible apply HS.condB) <;> first | rfl | (with_reducible intro h)) | (with_reducible first | refine r2 ?_ | refine r3 ?_ | refine r4 ?_ | refine r5 ?_ | refine r6 ?_ | refine r7 ?_ | refine r8 ?_ | refine r9 ?_ | refine rA ?_ | refine rB ?_ | refine rC ?_ | refine rD ?_) | ((with_reducible refine blockQ_miss ?_ ?_); rfl) | (with_reducible refine Two.mk' (fun h => ?_) (fun h => ?_) <;> try (exfalso; omega)) | ((with_reducible refine Bsel.mk' (fun h => ?_) (fun h => ?_)) <;> (try simp only [h])) | ((fail_if_success (with_reducible first | refine s1 ?_ | refine s2 ?_ | refine s3 ?_ | refine s4 ?_ | refine s5 ?_ | refine s6 ?_ | refine s7 ?_ | refine s8 ?_ | refine s9 ?_)); simp (disch := omega) only [↓LD, LU, LS, LT, loadA_rf, ↓reduceIte, reduceCtorEq, Nat.reduceAdd, Nat.reduceMul, Nat.reduceSub, Nat.reduceLeDiff, Nat.reduceLT, Nat.reduceEqDiff, Int.reduceNeg, Int.reduceLT, Int.reduceLE, Int.reduceEq, Int.reduceToNat, fR, fI, outN, inV, rd_at0, rd_at1, rd_at2, List.append_nil]) | ((with_reducible refine And.intro ?_ ?_); omega) | ((fail_if_success (with_reducible first | refine s1 ?_ | refine s2 ?_ | refine s3 ?_ | refine s4 ?_ | refine s5 ?_ | refine s6 ?_ | refine s7 ?_ | refine s8 ?_ | refine s9 ?_)); simp only [D.int, D.bool]))
                · refine callW_peek (c_hand_Pick _ i (by omega) (by omega)) (.cons .f (.cons .f .nil)) ?_ ?_
                  · rintro _ _ ⟨rfl, rfl⟩
                    exact ⟨.f .v, by simp⟩
                  rintro _ _ ⟨rfl, rfl⟩
                  repeat' (first | (with_reducible first | refine r1 ?_ | refine rK fun K hK => ?_ | refine wpS_app fun K hK => ?_ | (refine hK _ ?_; clear hK K) | refine rL fun K hK => ?_) | ((with_reducible refine And.intro (Chk.mk' ?_) ?_); kernel_rfl) | ((with_reducible refine HS.cond1 ?_ ?_); rfl) | ((with_reducible refine HS.cond0 ?_ ?_); rfl) | ((with_reducible apply HS.condB) <;> first | rfl | (with_reducible intro h)) | (with_reducible first | refine r2 ?_ | refine r3 ?_ | refine r4 ?_ | refine r5 ?_ | refine r6 ?_ | refine r7 ?_ | refine r8 ?_ | refine r9 ?_ | refine rA ?_ | refine rB ?_ | refine rC ?_ | refine rD ?_) | ((with_reducible refine blockQ_miss ?_ ?_); rfl) | (with_reducible refine Two.mk' (fun h => ?_) (fun h => ?_) <;> try (exfalso; omega)) | ((with_reducible refine Bsel.mk' (fun h => ?_) (fun h => ?_)) <;> (try simp only [h])) | ((fail_if_success (with_reducible first | refine s1 ?_ | refine s2 ?_ | refine s3 ?_ | refine s4 ?_ | refine s5 ?_ | refine s6 ?_ | refine s7 ?_ | refine s8 ?_ | refine s9 ?_)); simp (disch := omega) only [↓LD, LU, LS, LT, loadA_rf, ↓reduceIte, reduceCtorEq, Nat.reduceAdd, Nat.reduceMul, Nat.reduceSub, Nat.reduceLeDiff, Nat.reduceLT, Nat.reduceEqDiff, Int.reduceNeg, Int.reduceLT, Int.reduceLE, Int.reduceEq, Int.reduceToNat, fR, fI, outN, inV, rd_at0, rd_at1, rd_at2, List.append_nil, List.map_nil]) | ((with_reducible refine And.intro ?_ ?_); omega) | ((fail_if_success (with_reducible first | refine s1 ?_ | refine s2 ?_ | refine s3 ?_ | refine s4 ?_ | refine s5 ?_ | refine s6 ?_ | refine s7 ?_ | refine s8 ?_ | refine s9 ?_)); simp only [D.int, D.bool]))
                  · exact Next.mk (m + 1, 1, [(j : Int)]) (by kernel_rfl) ⟨by dsimp only; omega, rfl, by dsimp only; omega⟩ (by dsimp only; omega)
                  · exact Next.mk (m + 1, 0, qs) (by kernel_rfl) ⟨by dsimp only; omega, hq, by dsimp only; omega⟩ (by dsimp only; omega)
                · exact Next.mk (j + 1, 0, qs) (by kernel_rfl) ⟨by dsimp only; omega, hq, by dsimp only; omega⟩ (by dsimp only; omega)
                · exact Next.mk (j + 1, 0, qs) (by kernel_rfl) ⟨by dsimp only; omega, hq, by dsimp only; omega⟩ (by dsimp only; omega)
              · repeat' (first | (with_reducible first | refine r1 ?_ | refine rK fun K hK => ?_ | refine wpS_app fun K hK => ?_ | (refine hK _ ?_; clear hK K) | refine rL fun K hK => ?_) | ((with_reducible refine And.intro (Chk.mk' ?_) ?_); kernel_rfl) | ((with_reducible refine HS.cond1 ?_ ?_); rfl) | ((with_reducible refine HS.cond0 ?_ ?_); rfl) | ((with_reducible apply HS.condB) <;> first | rfl | (with_reducible intro h)) | (with_reducible first | refine r2 ?_ | refine r3 ?_ | refine r4 ?_ | refine r5 ?_ | refine r6 ?_ | refine r7 ?_ | refine r8 ?_ | refine r9 ?_ | refine rA ?_ | refine rB ?_ | refine rC ?_ | refine rD ?_) | ((with_reducible refine blockQ_miss ?_ ?_); rfl) | (with_reducible refine Two.mk' (fun h => ?_) (fun h => ?_) <;> try (exfalso; omega)) | ((with_reducible refine Bsel.mk' (fun h => ?_) (fun h => ?_)) <;> (try simp only [h])) | ((fail_if_success (with_reducible first | refine s1 ?_ | refine s2 ?_ | refine s3 ?_ | refine s4 ?_ | refine s5 ?_ | refine s6 ?_ | refine s7 ?_ | refine s8 ?_ | refine s9 ?_)); simp (disch := omega) only [↓LD, LU, LS, LT, loadA_rf, ↓reduceIte, reduceCtorEq, Nat.reduceAdd, Nat.reduceMul, Nat.reduceSub, Nat.reduceLeDiff, Nat.reduceLT, Nat.reduceEqDiff, Int.reduceNeg, Int.reduceLT, Int.reduceLE, Int.reduceEq, Int.reduceToNat, fR, fI, outN, inV, rd_at0, rd_at1, rd_at2, List.append_nil]) | ((with_reducible refine And.intro ?_ ?_); omega) | ((fail_if_success (with_reducible first | refine s1 ?_ | refine s2 ?_ | refine s3 ?_ | refine s4 ?_ | refine s5 ?_ | refine s6 ?_ | refine s7 ?_ | refine s8 ?_ | refine s9 ?_)); simp only [D.int, D.bool]))
                · refine callW_peek (c_hand_Pick _ i (by omega) (by omega)) (.cons .f (.cons .f .nil)) ?_ ?_
                  · rintro _ _ ⟨rfl, rfl⟩
                    exact ⟨.f .v, by simp⟩
                  rintro _ _ ⟨rfl, rfl⟩
                  repeat' (first | (with_reducible first | refine r1 ?_ | refine rK fun K hK => ?_ | refine wpS_app fun K hK => ?_ | (refine hK _ ?_; clear hK K) | refine rL fun K hK => ?_) | ((with_reducible refine And.intro (Chk.mk' ?_) ?_); kernel_rfl) | ((with_reducible refine HS.cond1 ?_ ?_); rfl) | ((with_reducible refine HS.cond0 ?_ ?_); rfl) | ((with_reducible apply HS.condB) <;> first | rfl | (with_reducible intro h)) | (with_reducible first | refine r2 ?_ | refine r3 ?_ | refine r4 ?_ | refine r5 ?_ | refine r6 ?_ | refine r7 ?_ | refine r8 ?_ | refine r9 ?_ | refine rA ?_ | refine rB ?_ | refine rC ?_ | refine rD ?_) | ((with_reducible refine blockQ_miss ?_ ?_); rfl) | (with_reducible refine Two.mk' (fun h => ?_) (fun h => ?_) <;> try (exfalso; omega)) | ((with_reducible refine Bsel.mk' (fun h => ?_) (fun h => ?_)) <;> (try simp only [h])) | ((fail_if_success (with_reducible first | refine s1 ?_ | refine s2 ?_ | refine s3 ?_ | refine s4 ?_ | refine s5 ?_ | refine s6 ?_ | refine s7 ?_ | refine s8 ?_ | refine s9 ?_)); simp (disch := omega) only [↓LD, LU, LS, LT, loadA_rf, ↓reduceIte, reduceCtorEq, Nat.reduceAdd, Nat.reduceMul, Nat.reduceSub, Nat.reduceLeDiff, Nat.reduceLT, Nat.reduceEqDiff, Int.reduceNeg, Int.reduceLT, Int.reduceLE, Int.reduceEq, Int.reduceToNat, fR, fI, outN, inV, rd_at0, rd_at1, rd_at2, List.append_nil, List.map_nil]) | ((with_reducible refine And.intro ?_ ?_); omega) | ((fail_if_success (with_reducible first | refine s1 ?_ | refine s2 ?_ | refine s3 ?_ | refine s4 ?_ | refine s5 ?_ | refine s6 ?_ | refine s7 ?_ | refine s8 ?_ | refine s9 ?_)); simp only [D.int, D.bool]))
                  · exact Next.mk (m + 1, q + 2, qs ++ [(j : Int)]) (by kernel_rfl) ⟨by dsimp only; omega, by simp [hq], by dsimp only; omega⟩ (by dsimp only; omega)
                  · exact Next.mk (m + 1, q + 1, qs) (by kernel_rfl) ⟨by dsimp only; omega, hq, by dsimp only; omega⟩ (by dsimp only; omega)
                  · exact Next.mk (m + 1, q + 1, qs) (by kernel_rfl) ⟨by dsimp only; omega, hq, by dsimp only; omega⟩ (by dsimp only; omega)
                · exact Next.mk (j + 1, (q + 1), qs) (by kernel_rfl) ⟨by dsimp only; omega, hq, by dsimp only; omega⟩ (by dsimp only; omega)
                · exact Next.mk (j + 1, (q + 1), qs) (by kernel_rfl) ⟨by dsimp only; omega, hq, by dsimp only; omega⟩ (by dsimp only; omega)
            · exact OutS.mk (j, (n + 1), ns) (by kernel_rfl) ⟨hn, by dsimp only; omega⟩
        · rintro ⟨_, n, ns⟩ ⟨hn, hn2⟩ s' hv
          dsimp only at hn hn2
          refine blockQ_hit ?_
          refine thenQ_n ?_
          refine HS.view hv ?_
          rcases n with _ | n
          · refine HS.view (View.nil0 (r := 1) (i := 0) rfl rfl) ?_
            repeat' (first | (with_reducible first | refine r1 ?_ | refine rK fun K hK => ?_ | refine wpS_app fun K hK => ?_ | (refine hK _ ?_; clear hK K) | refine rL fun K hK => ?_) | ((with_reducible refine And.intro (Chk.mk' ?_) ?_); kernel_rfl) | ((with_reducible refine HS.cond1 ?_ ?_); rfl) | ((with_reducible refine HS.cond0 ?_ ?_); rfl) | ((with_reducible apply HS.condB) <;> first | rfl | (with_reducible intro h)) | (with_reducible first | refine r2 ?_ | refine r3 ?_ | refine r4 ?_ | refine r5 ?_ | refine r6 ?_ | refine r7 ?_ | refine r8 ?_ | refine r9 ?_ | refine rA ?_ | refine rB ?_ | refine rC ?_ | refine rD ?_) | ((with_reducible refine blockQ_miss ?_ ?_); rfl) | (with_reducible refine Two.mk' (fun h => ?_) (fun h => ?_) <;> try (exfalso; omega)) | ((with_reducible refine Bsel.mk' (fun h => ?_) (fun h => ?_)) <;> (try simp only [h])) | ((fail_if_success (with_reducible first | refine s1 ?_ | refine s2 ?_ | refine s3 ?_ | refine s4 ?_ | refine s5 ?_ | refine s6 ?_ | refine s7 ?_ | refine s8 ?_ | refine s9 ?_)); simp (disch := omega) only [↓LD, LU, LS, LT, loadA_rf, ↓reduceIte, reduceCtorEq, Nat.reduceAdd, Nat.reduceMul, Nat.reduceSub, Nat.reduceLeDiff, Nat.reduceLT, Nat.reduceEqDiff, Int.reduceNeg, Int.reduceLT, Int.reduceLE, Int.reduceEq, Int.reduceToNat, fR, outN, inV, List.append_nil, List.set_cons_succ, List.set_cons_zero]) | ((with_reducible refine And.intro ?_ ?_); omega) | ((fail_if_success (with_reducible first | refine s1 ?_ | refine s2 ?_ | refine s3 ?_ | refine s4 ?_ | refine s5 ?_ | refine s6 ?_ | refine s7 ?_ | refine s8 ?_ | refine s9 ?_)); simp only [D.int, D.bool]))
            refine And.intro (by rw [flat_len' Nd.cs_len, hdl]) ?_
            repeat' (first | (with_reducible first | refine r1 ?_ | refine rK fun K hK => ?_ | refine wpS_app fun K hK => ?_ | (refine hK _ ?_; clear hK K) | refine rL fun K hK => ?_) | ((with_reducible refine And.intro (Chk.mk' ?_) ?_); kernel_rfl) | ((with_reducible refine HS.cond1 ?_ ?_); rfl) | ((with_reducible refine HS.cond0 ?_ ?_); rfl) | ((with_reducible apply HS.condB) <;> first | rfl | (with_reducible intro h)) | (with_reducible first | refine r2 ?_ | refine r3 ?_ | refine r4 ?_ | refine r5 ?_ | refine r6 ?_ | refine r7 ?_ | refine r8 ?_ | refine r9 ?_ | refine rA ?_ | refine rB ?_ | refine rC ?_ | refine rD ?_) | ((with_reducible refine blockQ_miss ?_ ?_); rfl) | (with_reducible refine Two.mk' (fun h => ?_) (fun h => ?_) <;> try (exfalso; omega)) | ((with_reducible refine Bsel.mk' (fun h => ?_) (fun h => ?_)) <;> (try simp only [h])) | ((fail_if_success (with_reducible first | refine s1 ?_ | refine s2 ?_ | refine s3 ?_ | refine s4 ?_ | refine s5 ?_ | refine s6 ?_ | refine s7 ?_ | refine s8 ?_ | refine s9 ?_)); simp (disch := omega) only [↓LD, LU, LS, LT, loadA_rf, ↓reduceIte, reduceCtorEq, Nat.reduceAdd, Nat.reduceMul, Nat.reduceSub, Nat.reduceLeDiff, Nat.reduceLT, Nat.reduceEqDiff, Int.reduceNeg, Int.reduceLT, Int.reduceLE, Int.reduceEq, Int.reduceToNat, app_nd0]) | ((with_reducible refine And.intro ?_ ?_); omega) | ((fail_if_success (with_reducible first | refine s1 ?_ | refine s2 ?_ | refine s3 ?_ | refine s4 ?_ | refine s5 ?_ | refine s6 ?_ | refine s7 ?_ | refine s8 ?_ | refine s9 ?_)); simp only [D.int, D.bool]))
            refine Next.mk (i + 1, (nd + 1) + 1, ds ++ [(⟨[], 1 + pick (gt l i).tr 3, 1 + pick (gt l i).le 9⟩ : Nd)]) (by kernel_rfl) ⟨by dsimp only; omega, fit_app hds (by omega) (by simp), by simp [hdl], by dsimp only; omega⟩ (by dsimp only; omega)
          · repeat' (first | (with_reducible first | refine r1 ?_ | refine rK fun K hK => ?_ | refine wpS_app fun K hK => ?_ | (refine hK _ ?_; clear hK K) | refine rL fun K hK => ?_) | ((with_reducible refine And.intro (Chk.mk' ?_) ?_); kernel_rfl) | ((with_reducible refine HS.cond1 ?_ ?_); rfl) | ((with_reducible refine HS.cond0 ?_ ?_); rfl) | ((with_reducible apply HS.condB) <;> first | rfl | (with_reducible intro h)) | (with_reducible first | refine r2 ?_ | refine r3 ?_ | refine r4 ?_ | refine r5 ?_ | refine r6 ?_ | refine r7 ?_ | refine r8 ?_ | refine r9 ?_ | refine rA ?_ | refine rB ?_ | refine rC ?_ | refine rD ?_) | ((with_reducible refine blockQ_miss ?_ ?_); rfl) | (with_reducible refine Two.mk' (fun h => ?_) (fun h => ?_) <;> try (exfalso; omega)) | ((with_reducible refine Bsel.mk' (fun h => ?_) (fun h => ?_)) <;> (try simp only [h])) | ((fail_if_success (with_reducible first | refine s1 ?_ | refine s2 ?_ | refine s3 ?_ | refine s4 ?_ | refine s5 ?_ | refine s6 ?_ | refine s7 ?_ | refine s8 ?_ | refine s9 ?_)); simp (disch := omega) only [↓LD, LU, LS, LT, loadA_rf, ↓reduceIte, reduceCtorEq, Nat.reduceAdd, Nat.reduceMul, Nat.reduceSub, Nat.reduceLeDiff, Nat.reduceLT, Nat.reduceEqDiff, Int.reduceNeg, Int.reduceLT, Int.reduceLE, Int.reduceEq, Int.reduceToNat, fR, outN, inV, List.append_nil]) | ((with_reducible refine And.intro ?_ ?_); omega) | ((fail_if_success (with_reducible first | refine s1 ?_ | refine s2 ?_ | refine s3 ?_ | refine s4 ?_ | refine s5 ?_ | refine s6 ?_ | refine s7 ?_ | refine s8 ?_ | refine s9 ?_)); simp only [D.int, D.bool]))
            refine bind'_of (freeze_sl (b := 8) (z := [.int .i64 0]) rfl (by kernel_rfl) (by rw [List.length_map]; exact hn)) ?_
            repeat' (first | (with_reducible first | refine r1 ?_ | refine rK fun K hK => ?_ | refine wpS_app fun K hK => ?_ | (refine hK _ ?_; clear hK K) | refine rL fun K hK => ?_) | ((with_reducible refine And.intro (Chk.mk' ?_) ?_); kernel_rfl) | ((with_reducible refine HS.cond1 ?_ ?_); rfl) | ((with_reducible refine HS.cond0 ?_ ?_); rfl) | ((with_reducible apply HS.condB) <;> first | rfl | (with_reducible intro h)) | (with_reducible first | refine r2 ?_ | refine r3 ?_ | refine r4 ?_ | refine r5 ?_ | refine r6 ?_ | refine r7 ?_ | refine r8 ?_ | refine r9 ?_ | refine rA ?_ | refine rB ?_ | refine rC ?_ | refine rD ?_) | ((with_reducible refine blockQ_miss ?_ ?_); rfl) | (with_reducible refine Two.mk' (fun h => ?_) (fun h => ?_) <;> try (exfalso; omega)) | ((with_reducible refine Bsel.mk' (fun h => ?_) (fun h => ?_)) <;> (try simp only [h])) | ((fail_if_success (with_reducible first | refine s1 ?_ | refine s2 ?_ | refine s3 ?_ | refine s4 ?_ | refine s5 ?_ | refine s6 ?_ | refine s7 ?_ | refine s8 ?_ | refine s9 ?_)); simp (disch := omega) only [↓LD, LU, LS, LT, loadA_rf, ↓reduceIte, reduceCtorEq, Nat.reduceAdd, Nat.reduceMul, Nat.reduceSub, Nat.reduceLeDiff, Nat.reduceLT, Nat.reduceEqDiff, Int.reduceNeg, Int.reduceLT, Int.reduceLE, Int.reduceEq, Int.reduceToNat, applyUpd, List.append_nil]) | ((with_reducible refine And.intro ?_ ?_); omega) | ((fail_if_success (with_reducible first | refine s1 ?_ | refine s2 ?_ | refine s3 ?_ | refine s4 ?_ | refine s5 ?_ | refine s6 ?_ | refine s7 ?_ | refine s8 ?_ | refine s9 ?_)); simp only [D.int, D.bool]))
            refine And.intro (by rw [flat_len' Nd.cs_len, hdl]) ?_
            repeat' (first | (with_reducible first | refine r1 ?_ | refine rK fun K hK => ?_ | refine wpS_app fun K hK => ?_ | (refine hK _ ?_; clear hK K) | refine rL fun K hK => ?_) | ((with_reducible refine And.intro (Chk.mk' ?_) ?_); kernel_rfl) | ((with_reducible refine HS.cond1 ?_ ?_); rfl) | ((with_reducible refine HS.cond0 ?_ ?_); rfl) | ((with_reducible apply HS.condB) <;> first | rfl | (with_reducible intro h)) | (with_reducible first | refine r2 ?_ | refine r3 ?_ | refine r4 ?_ | refine r5 ?_ | refine r6 ?_ | refine r7 ?_ | refine r8 ?_ | refine r9 ?_ | refine rA ?_ | refine rB ?_ | refine rC ?_ | refine rD ?_) | ((with_reducible refine blockQ_miss ?_ ?_); rfl) | (with_reducible refine Two.mk' (fun h => ?_) (fun h => ?_) <;> try (exfalso; omega)) | ((with_reducible refine Bsel.mk' (fun h => ?_) (fun h => ?_)) <;> (try simp only [h])) | ((fail_if_success (with_reducible first | refine s1 ?_ | refine s2 ?_ | refine s3 ?_ | refine s4 ?_ | refine s5 ?_ | refine s6 ?_ | refine s7 ?_ | refine s8 ?_ | refine s9 ?_)); simp (disch := omega) only [↓LD, LU, LS, LT, loadA_rf, ↓reduceIte, reduceCtorEq, Nat.reduceAdd, Nat.reduceMul, Nat.reduceSub, Nat.reduceLeDiff, Nat.reduceLT, Nat.reduceEqDiff, Int.reduceNeg, Int.reduceLT, Int.reduceLE, Int.reduceEq, Int.reduceToNat, app_nd hn]) | ((with_reducible refine And.intro ?_ ?_); omega) | ((fail_if_success (with_reducible first | refine s1 ?_ | refine s2 ?_ | refine s3 ?_ | refine s4 ?_ | refine s5 ?_ | refine s6 ?_ | refine s7 ?_ | refine s8 ?_ | refine s9 ?_)); simp only [D.int, D.bool]))
            exact Next.mk (i + 1, (nd + 1) + 1, ds ++ [(⟨ns, 1 + pick (gt l i).tr 3, 1 + pick (gt l i).le 9⟩ : Nd)]) (by kernel_rfl) ⟨by dsimp only; omega, fit_app hds (by omega) (by dsimp only; omega), by simp [hdl], by dsimp only; omega⟩ (by dsimp only; omega)
      all_goals exact OutS.mk ((nd + 1), ds) (by kernel_rfl) ⟨hds, hdl, by dsimp only; omega⟩
  · rintro ⟨n, ds⟩ ⟨hds, hdl, hn⟩ s' hv
    dsimp only at hdl hn
    refine blockQ_hit ?_
    refine thenQ_n ?_
    refine HS.view hv ?_
    refine HS.seq ?_
    refine HS.cutn (fun x : Nat × List Nd => ⟨frm 158 [(1, D.int how), (5, .sl 0 0 (x.1 + 1))], [.data 30 (x.2.flatMap Nd.cs)], []⟩) (fun x => Fit x.2 ∧ x.2.length = x.1 + 1 ∧ x.1 < 6) ?_ ?_
    · rcases n with _ | n
      · repeat' (first | (with_reducible first | refine r1 ?_ | refine rK fun K hK => ?_ | refine wpS_app fun K hK => ?_ | (refine hK _ ?_; clear hK K) | refine rL fun K hK => ?_) | ((with_reducible refine And.intro (Chk.mk' ?_) ?_); kernel_rfl) | ((with_reducible refine HS.cond1 ?_ ?_); rfl) | ((with_reducible refine HS.cond0 ?_ ?_); rfl) | ((with_reducible apply HS.condB) <;> first | rfl | (with_reducible intro h)) | (with_reducible first | refine r2 ?_ | refine r3 ?_ | refine r4 ?_ | refine r5 ?_ | refine r6 ?_ | refine r7 ?_ | refine r8 ?_ | refine r9 ?_ | refine rA ?_ | refine rB ?_ | refine rC ?_ | refine rD ?_) | ((with_reducible refine blockQ_miss ?_ ?_); rfl) | (with_reducible refine Two.mk' (fun h => ?_) (fun h => ?_) <;> try (exfalso; omega)) | ((with_reducible refine Bsel.mk' (fun h => ?_) (fun h => ?_)) <;> (try simp only [h])) | ((fail_if_success (with_reducible first | refine s1 ?_ | refine s2 ?_ | refine s3 ?_ | refine s4 ?_ | refine s5 ?_ | refine s6 ?_ | refine s7 ?_ | refine s8 ?_ | refine s9 ?_)); simp (disch := omega) only [↓LD, LU, LS, LT, loadA_rf, ↓reduceIte, reduceCtorEq, Nat.reduceAdd, Nat.reduceMul, Nat.reduceSub, Nat.reduceLeDiff, Nat.reduceLT, Nat.reduceEqDiff, Int.reduceNeg, Int.reduceLT, Int.reduceLE, Int.reduceEq, Int.reduceToNat, outN]) | ((with_reducible refine And.intro ?_ ?_); omega) | ((fail_if_success (with_reducible first | refine s1 ?_ | refine s2 ?_ | refine s3 ?_ | refine s4 ?_ | refine s5 ?_ | refine s6 ?_ | refine s7 ?_ | refine s8 ?_ | refine s9 ?_)); simp only [D.int, D.bool]))
        exact OutN.via [1, 5] (s1 := ⟨frm 158 [(1, D.int how), (5, .sl 0 0 1)], [.data 30 [.v (.slice none 0 0), iF 1, iF 5]], []⟩) (0, [(⟨[], 1, 5⟩ : Nd)]) (by kernel_rfl) (View.nild (ts := frm 158 [(1, D.int how), (5, .sl 0 0 1)]) (H := [.data 30 [.v (.slice none 0 0), iF 1, iF 5]]) (dr := []) (r := 0) (i := 0) (T := 30) (xs := [.v (.slice none 0 0), iF 1, iF 5]) rfl rfl) ⟨⟨by simp, by simp⟩, rfl, by dsimp only; omega⟩
      · repeat' (first | (with_reducible first | refine r1 ?_ | refine rK fun K hK => ?_ | refine wpS_app fun K hK => ?_ | (refine hK _ ?_; clear hK K) | refine rL fun K hK => ?_) | ((with_reducible refine And.intro (Chk.mk' ?_) ?_); kernel_rfl) | ((with_reducible refine HS.cond1 ?_ ?_); rfl) | ((with_reducible refine HS.cond0 ?_ ?_); rfl) | ((with_reducible apply HS.condB) <;> first | rfl | (with_reducible intro h)) | (with_reducible first | refine r2 ?_ | refine r3 ?_ | refine r4 ?_ | refine r5 ?_ | refine r6 ?_ | refine r7 ?_ | refine r8 ?_ | refine r9 ?_ | refine rA ?_ | refine rB ?_ | refine rC ?_ | refine rD ?_) | ((with_reducible refine blockQ_miss ?_ ?_); rfl) | (with_reducible refine Two.mk' (fun h => ?_) (fun h => ?_) <;> try (exfalso; omega)) | ((with_reducible refine Bsel.mk' (fun h => ?_) (fun h => ?_)) <;> (try simp only [h])) | ((fail_if_success (with_reducible first | refine s1 ?_ | refine s2 ?_ | refine s3 ?_ | refine s4 ?_ | refine s5 ?_ | refine s6 ?_ | refine s7 ?_ | refine s8 ?_ | refine s9 ?_)); simp (disch := omega) only [↓LD, LU, LS, LT, loadA_rf, ↓reduceIte, reduceCtorEq, Nat.reduceAdd, Nat.reduceMul, Nat.reduceSub, Nat.reduceLeDiff, Nat.reduceLT, Nat.reduceEqDiff, Int.reduceNeg, Int.reduceLT, Int.reduceLE, Int.reduceEq, Int.reduceToNat, outN]) | ((with_reducible refine And.intro ?_ ?_); omega) | ((fail_if_success (with_reducible first | refine s1 ?_ | refine s2 ?_ | refine s3 ?_ | refine s4 ?_ | refine s5 ?_ | refine s6 ?_ | refine s7 ?_ | refine s8 ?_ | refine s9 ?_)); simp only [D.int, D.bool]))
        exact OutN.mk [1, 5] (n, ds) (by kernel_rfl) ⟨hds, hdl, by dsimp only; omega⟩
    · rintro ⟨n, ds⟩ ⟨hds, hdl, hn⟩ s' hv
      dsimp only at hds hdl hn
      refine thenQ_n ?_
      refine HS.view hv ?_
      clear hv
      repeat' (first | (with_reducible first | refine r1 ?_ | refine rK fun K hK => ?_ | refine wpS_app fun K hK => ?_ | (refine hK _ ?_; clear hK K) | refine rL fun K hK => ?_) | ((with_reducible refine And.intro (Chk.mk' ?_) ?_); kernel_rfl) | ((with_reducible refine HS.cond1 ?_ ?_); rfl) | ((with_reducible refine HS.cond0 ?_ ?_); rfl) | ((with_reducible apply HS.condB) <;> first | rfl | (with_reducible intro h)) | (with_reducible first | refine r2 ?_ | refine r3 ?_ | refine r4 ?_ | refine r5 ?_ | refine r6 ?_ | refine r7 ?_ | refine r8 ?_ | refine r9 ?_ | refine rA ?_ | refine rB ?_ | refine rC ?_ | refine rD ?_) | ((with_reducible refine blockQ_miss ?_ ?_); rfl) | (with_reducible refine Two.mk' (fun h => ?_) (fun h => ?_) <;> try (exfalso; omega)) | ((with_reducible refine Bsel.mk' (fun h => ?_) (fun h => ?_)) <;> (try simp only [h])) | ((fail_if_success (with_reducible first | refine s1 ?_ | refine s2 ?_ | refine s3 ?_ | refine s4 ?_ | refine s5 ?_ | refine s6 ?_ | refine s7 ?_ | refine s8 ?_ | refine s9 ?_)); simp (disch := omega) only [↓LD, LU, LS, LT, loadA_rf, ↓reduceIte, reduceCtorEq, Nat.reduceAdd, Nat.reduceMul, Nat.reduceSub, Nat.reduceLeDiff, Nat.reduceLT, Nat.reduceEqDiff, Int.reduceNeg, Int.reduceLT, Int.reduceLE, Int.reduceEq, Int.reduceToNat]) | ((with_reducible refine And.intro ?_ ?_); omega) | ((fail_if_success (with_reducible first | refine s1 ?_ | refine s2 ?_ | refine s3 ?_ | refine s4 ?_ | refine s5 ?_ | refine s6 ?_ | refine s7 ?_ | refine s8 ?_ | refine s9 ?_)); simp only [D.int, D.bool]))
      refine callW_peek (c_hand_Pick _ ((n + 1 : Nat) : Int) (by omega) (by omega)) (.cons .f (.cons .f .nil)) ?_ ?_
      · rintro _ _ ⟨rfl, rfl⟩
        exact ⟨.f .v, by simp⟩
      rintro _ _ ⟨rfl, rfl⟩
      have pk := pick_in (x := IntKind.i64.wrap (how.tdiv 20)) (n := ((n + 1 : Nat) : Int)) (by omega)
      obtain ⟨k, hk⟩ := Int.eq_ofNat_of_zero_le pk.1
      rw [hk] at pk ⊢
      clear hk
      repeat' (first | (with_reducible first | refine r1 ?_ | refine rK fun K hK => ?_ | refine wpS_app fun K hK => ?_ | (refine hK _ ?_; clear hK K) | refine rL fun K hK => ?_) | ((with_reducible refine And.intro (Chk.mk' ?_) ?_); kernel_rfl) | ((with_reducible refine HS.cond1 ?_ ?_); rfl) | ((with_reducible refine HS.cond0 ?_ ?_); rfl) | ((with_reducible apply HS.condB) <;> first | rfl | (with_reducible intro h)) | (with_reducible first | refine r2 ?_ | refine r3 ?_ | refine r4 ?_ | refine r5 ?_ | refine r6 ?_ | refine r7 ?_ | refine r8 ?_ | refine r9 ?_ | refine rA ?_ | refine rB ?_ | refine rC ?_ | refine rD ?_) | ((with_reducible refine blockQ_miss ?_ ?_); rfl) | (with_reducible refine Two.mk' (fun h => ?_) (fun h => ?_) <;> try (exfalso; omega)) | ((with_reducible refine Bsel.mk' (fun h => ?_) (fun h => ?_)) <;> (try simp only [h])) | ((fail_if_success (with_reducible first | refine s1 ?_ | refine s2 ?_ | refine s3 ?_ | refine s4 ?_ | refine s5 ?_ | refine s6 ?_ | refine s7 ?_ | refine s8 ?_ | refine s9 ?_)); simp (disch := omega) only [↓LD, LU, LS, LT, loadA_rf, ↓reduceIte, reduceCtorEq, Nat.reduceAdd, Nat.reduceMul, Nat.reduceSub, Nat.reduceLeDiff, Nat.reduceLT, Nat.reduceEqDiff, Int.reduceNeg, Int.reduceLT, Int.reduceLE, Int.reduceEq, Int.reduceToNat, D.int]) | ((with_reducible refine And.intro ?_ ?_); omega) | ((fail_if_success (with_reducible first | refine s1 ?_ | refine s2 ?_ | refine s3 ?_ | refine s4 ?_ | refine s5 ?_ | refine s6 ?_ | refine s7 ?_ | refine s8 ?_ | refine s9 ?_)); simp only [D.int, D.bool]))
      refine callW_peek (c_hand_Pick _ 20 (by omega) (by omega)) (.cons .f (.cons .f .nil)) ?_ ?_
      · rintro _ _ ⟨rfl, rfl⟩
        exact ⟨.f .v, by simp⟩
      rintro _ _ ⟨rfl, rfl⟩
      generalize pick how 20 = w
      have hk : k < ds.length := by omega
      repeat' (first | (with_reducible first | refine r1 ?_ | refine rK fun K hK => ?_ | refine wpS_app fun K hK => ?_ | (refine hK _ ?_; clear hK K) | refine rL fun K hK => ?_) | ((with_reducible refine And.intro (Chk.mk' ?_) ?_); kernel_rfl) | ((with_reducible refine HS.cond1 ?_ ?_); rfl) | ((with_reducible refine HS.cond0 ?_ ?_); rfl) | ((with_reducible apply HS.condB) <;> first | rfl | (with_reducible intro h)) | (with_reducible first | refine r2 ?_ | refine r3 ?_ | refine r4 ?_ | refine r5 ?_ | refine r6 ?_ | refine r7 ?_ | refine r8 ?_ | refine r9 ?_ | refine rA ?_ | refine rB ?_ | refine rC ?_ | refine rD ?_) | ((with_reducible refine blockQ_miss ?_ ?_); rfl) | (with_reducible refine Two.mk' (fun h => ?_) (fun h => ?_) <;> try (exfalso; omega)) | ((with_reducible refine Bsel.mk' (fun h => ?_) (fun h => ?_)) <;> (try simp only [h])) | ((fail_if_success (with_reducible first | refine s1 ?_ | refine s2 ?_ | refine s3 ?_ | refine s4 ?_ | refine s5 ?_ | refine s6 ?_ | refine s7 ?_ | refine s8 ?_ | refine s9 ?_)); simp (disch := omega) only [↓LD, LU, LS, LT, loadA_rf, ↓reduceIte, reduceCtorEq, Nat.reduceAdd, Nat.reduceMul, Nat.reduceSub, Nat.reduceLeDiff, Nat.reduceLT, Nat.reduceEqDiff, Int.reduceNeg, Int.reduceLT, Int.reduceLE, Int.reduceEq, Int.reduceToNat, D.int, flat_len' Nd.cs_len, nd_set1, nd_set2]) | ((with_reducible refine And.intro ?_ ?_); omega) | ((fail_if_success (with_reducible first | refine s1 ?_ | refine s2 ?_ | refine s3 ?_ | refine s4 ?_ | refine s5 ?_ | refine s6 ?_ | refine s7 ?_ | refine s8 ?_ | refine s9 ?_)); simp only [D.int, D.bool]))
      · refine bind'_of (store_ns (m := 0) (l := [(k : Int)]) hk rfl) ?_
        repeat' (first | (with_reducible first | refine r1 ?_ | refine rK fun K hK => ?_ | refine wpS_app fun K hK => ?_ | (refine hK _ ?_; clear hK K) | refine rL fun K hK => ?_) | ((with_reducible refine And.intro (Chk.mk' ?_) ?_); kernel_rfl) | ((with_reducible refine HS.cond1 ?_ ?_); rfl) | ((with_reducible refine HS.cond0 ?_ ?_); rfl) | ((with_reducible apply HS.condB) <;> first | rfl | (with_reducible intro h)) | (with_reducible first | refine r2 ?_ | refine r3 ?_ | refine r4 ?_ | refine r5 ?_ | refine r6 ?_ | refine r7 ?_ | refine r8 ?_ | refine r9 ?_ | refine rA ?_ | refine rB ?_ | refine rC ?_ | refine rD ?_) | ((with_reducible refine blockQ_miss ?_ ?_); rfl) | (with_reducible refine Two.mk' (fun h => ?_) (fun h => ?_) <;> try (exfalso; omega)) | ((with_reducible refine Bsel.mk' (fun h => ?_) (fun h => ?_)) <;> (try simp only [h])) | ((fail_if_success (with_reducible first | refine s1 ?_ | refine s2 ?_ | refine s3 ?_ | refine s4 ?_ | refine s5 ?_ | refine s6 ?_ | refine s7 ?_ | refine s8 ?_ | refine s9 ?_)); simp (disch := omega) only [↓LD, LU, LS, LT, loadA_rf, ↓reduceIte, reduceCtorEq, Nat.reduceAdd, Nat.reduceMul, Nat.reduceSub, Nat.reduceLeDiff, Nat.reduceLT, Nat.reduceEqDiff, Int.reduceNeg, Int.reduceLT, Int.reduceLE, Int.reduceEq, Int.reduceToNat]) | ((with_reducible refine And.intro ?_ ?_); omega) | ((fail_if_success (with_reducible first | refine s1 ?_ | refine s2 ?_ | refine s3 ?_ | refine s4 ?_ | refine s5 ?_ | refine s6 ?_ | refine s7 ?_ | refine s8 ?_ | refine s9 ?_)); simp only [D.int, D.bool]))
        exact end1 rfl rfl (by kernel_rfl) (.sl rfl (fun e => by omega)) (some'_of (by rw [List.length_set, hdl]) (fit_set hds (by simp)))
      · refine bind'_of (store_ns (k := 0) (m := 0) (l := [((n + 1 : Nat) : Int) - 1]) (by omega) rfl) ?_
        repeat' (first | (with_reducible first | refine r1 ?_ | refine rK fun K hK => ?_ | refine wpS_app fun K hK => ?_ | (refine hK _ ?_; clear hK K) | refine rL fun K hK => ?_) | ((with_reducible refine And.intro (Chk.mk' ?_) ?_); kernel_rfl) | ((with_reducible refine HS.cond1 ?_ ?_); rfl) | ((with_reducible refine HS.cond0 ?_ ?_); rfl) | ((with_reducible apply HS.condB) <;> first | rfl | (with_reducible intro h)) | (with_reducible first | refine r2 ?_ | refine r3 ?_ | refine r4 ?_ | refine r5 ?_ | refine r6 ?_ | refine r7 ?_ | refine r8 ?_ | refine r9 ?_ | refine rA ?_ | refine rB ?_ | refine rC ?_ | refine rD ?_) | ((with_reducible refine blockQ_miss ?_ ?_); rfl) | (with_reducible refine Two.mk' (fun h => ?_) (fun h => ?_) <;> try (exfalso; omega)) | ((with_reducible refine Bsel.mk' (fun h => ?_) (fun h => ?_)) <;> (try simp only [h])) | ((fail_if_success (with_reducible first | refine s1 ?_ | refine s2 ?_ | refine s3 ?_ | refine s4 ?_ | refine s5 ?_ | refine s6 ?_ | refine s7 ?_ | refine s8 ?_ | refine s9 ?_)); simp (disch := omega) only [↓LD, LU, LS, LT, loadA_rf, ↓reduceIte, reduceCtorEq, Nat.reduceAdd, Nat.reduceMul, Nat.reduceSub, Nat.reduceLeDiff, Nat.reduceLT, Nat.reduceEqDiff, Int.reduceNeg, Int.reduceLT, Int.reduceLE, Int.reduceEq, Int.reduceToNat]) | ((with_reducible refine And.intro ?_ ?_); omega) | ((fail_if_success (with_reducible first | refine s1 ?_ | refine s2 ?_ | refine s3 ?_ | refine s4 ?_ | refine s5 ?_ | refine s6 ?_ | refine s7 ?_ | refine s8 ?_ | refine s9 ?_)); simp only [D.int, D.bool]))
        exact end1 rfl rfl (by kernel_rfl) (.sl rfl (fun e => by omega)) (some'_of (by rw [List.length_set, hdl]) (fit_set hds (by simp)))
      · refine callW_peek (c_hand_Pick _ 9 (by omega) (by omega)) (.cons .f (.cons .f .nil)) ?_ ?_
        · rintro _ _ ⟨rfl, rfl⟩
          exact ⟨.f .v, by simp⟩
        rintro _ _ ⟨rfl, rfl⟩
        have p4 := pick_in (x := IntKind.i64.wrap (how.tdiv 60)) (n := 9) (by omega)
        repeat' (first | (with_reducible first | refine r1 ?_ | refine rK fun K hK => ?_ | refine wpS_app fun K hK => ?_ | (refine hK _ ?_; clear hK K) | refine rL fun K hK => ?_) | ((with_reducible refine And.intro (Chk.mk' ?_) ?_); kernel_rfl) | ((with_reducible refine HS.cond1 ?_ ?_); rfl) | ((with_reducible refine HS.cond0 ?_ ?_); rfl) | ((with_reducible apply HS.condB) <;> first | rfl | (with_reducible intro h)) | (with_reducible first | refine r2 ?_ | refine r3 ?_ | refine r4 ?_ | refine r5 ?_ | refine r6 ?_ | refine r7 ?_ | refine r8 ?_ | refine r9 ?_ | refine rA ?_ | refine rB ?_ | refine rC ?_ | refine rD ?_) | ((with_reducible refine blockQ_miss ?_ ?_); rfl) | (with_reducible refine Two.mk' (fun h => ?_) (fun h => ?_) <;> try (exfalso; omega)) | ((with_reducible refine Bsel.mk' (fun h => ?_) (fun h => ?_)) <;> (try simp only [h])) | ((fail_if_success (with_reducible first | refine s1 ?_ | refine s2 ?_ | refine s3 ?_ | refine s4 ?_ | refine s5 ?_ | refine s6 ?_ | refine s7 ?_ | refine s8 ?_ | refine s9 ?_)); simp (disch := omega) only [↓LD, LU, LS, LT, loadA_rf, ↓reduceIte, reduceCtorEq, Nat.reduceAdd, Nat.reduceMul, Nat.reduceSub, Nat.reduceLeDiff, Nat.reduceLT, Nat.reduceEqDiff, Int.reduceNeg, Int.reduceLT, Int.reduceLE, Int.reduceEq, Int.reduceToNat, D.int, flat_len' Nd.cs_len, nd_set1, nd_set2]) | ((with_reducible refine And.intro ?_ ?_); omega) | ((fail_if_success (with_reducible first | refine s1 ?_ | refine s2 ?_ | refine s3 ?_ | refine s4 ?_ | refine s5 ?_ | refine s6 ?_ | refine s7 ?_ | refine s8 ?_ | refine s9 ?_)); simp only [D.int, D.bool]))
        exact end1 rfl rfl (by kernel_rfl) (.sl rfl (fun e => by omega)) (some'_of (by rw [List.length_set, hdl]) (fit_set hds (hds.2 (gt ds k) (gt_mem hk))))
      · refine callW_peek (c_hand_Pick _ 9 (by omega) (by omega)) (.cons .f (.cons .f .nil)) ?_ ?_
        · rintro _ _ ⟨rfl, rfl⟩
          exact ⟨.f .v, by simp⟩
        rintro _ _ ⟨rfl, rfl⟩
        repeat' (first | (with_reducible first | refine r1 ?_ | refine rK fun K hK => ?_ | refine wpS_app fun K hK => ?_ | (refine hK _ ?_; clear hK K) | refine rL fun K hK => ?_) | ((with_reducible refine And.intro (Chk.mk' ?_) ?_); kernel_rfl) | ((with_reducible refine HS.cond1 ?_ ?_); rfl) | ((with_reducible refine HS.cond0 ?_ ?_); rfl) | ((with_reducible apply HS.condB) <;> first | rfl | (with_reducible intro h)) | (with_reducible first | refine r2 ?_ | refine r3 ?_ | refine r4 ?_ | refine r5 ?_ | refine r6 ?_ | refine r7 ?_ | refine r8 ?_ | refine r9 ?_ | refine rA ?_ | refine rB ?_ | refine rC ?_ | refine rD ?_) | ((with_reducible refine blockQ_miss ?_ ?_); rfl) | (with_reducible refine Two.mk' (fun h => ?_) (fun h => ?_) <;> try (exfalso; omega)) | ((with_reducible refine Bsel.mk' (fun h => ?_) (fun h => ?_)) <;> (try simp only [h])) | ((fail_if_success (with_reducible first | refine s1 ?_ | refine s2 ?_ | refine s3 ?_ | refine s4 ?_ | refine s5 ?_ | refine s6 ?_ | refine s7 ?_ | refine s8 ?_ | refine s9 ?_)); simp (disch := omega) only [↓LD, LU, LS, LT, loadA_rf, ↓reduceIte, reduceCtorEq, Nat.reduceAdd, Nat.reduceMul, Nat.reduceSub, Nat.reduceLeDiff, Nat.reduceLT, Nat.reduceEqDiff, Int.reduceNeg, Int.reduceLT, Int.reduceLE, Int.reduceEq, Int.reduceToNat, D.int, flat_len' Nd.cs_len]) | ((with_reducible refine And.intro ?_ ?_); omega) | ((fail_if_success (with_reducible first | refine s1 ?_ | refine s2 ?_ | refine s3 ?_ | refine s4 ?_ | refine s5 ?_ | refine s6 ?_ | refine s7 ?_ | refine s8 ?_ | refine s9 ?_)); simp only [D.int, D.bool]))
        refine bind'_of (store_ns (m := 0) (l := [pick (IntKind.i64.wrap (how.tdiv 60)) 9]) hk rfl) ?_
        repeat' (first | (with_reducible first | refine r1 ?_ | refine rK fun K hK => ?_ | refine wpS_app fun K hK => ?_ | (refine hK _ ?_; clear hK K) | refine rL fun K hK => ?_) | ((with_reducible refine And.intro (Chk.mk' ?_) ?_); kernel_rfl) | ((with_reducible refine HS.cond1 ?_ ?_); rfl) | ((with_reducible refine HS.cond0 ?_ ?_); rfl) | ((with_reducible apply HS.condB) <;> first | rfl | (with_reducible intro h)) | (with_reducible first | refine r2 ?_ | refine r3 ?_ | refine r4 ?_ | refine r5 ?_ | refine r6 ?_ | refine r7 ?_ | refine r8 ?_ | refine r9 ?_ | refine rA ?_ | refine rB ?_ | refine rC ?_ | refine rD ?_) | ((with_reducible refine blockQ_miss ?_ ?_); rfl) | (with_reducible refine Two.mk' (fun h => ?_) (fun h => ?_) <;> try (exfalso; omega)) | ((with_reducible refine Bsel.mk' (fun h => ?_) (fun h => ?_)) <;> (try simp only [h])) | ((fail_if_success (with_reducible first | refine s1 ?_ | refine s2 ?_ | refine s3 ?_ | refine s4 ?_ | refine s5 ?_ | refine s6 ?_ | refine s7 ?_ | refine s8 ?_ | refine s9 ?_)); simp (disch := omega) only [↓LD, LU, LS, LT, loadA_rf, ↓reduceIte, reduceCtorEq, Nat.reduceAdd, Nat.reduceMul, Nat.reduceSub, Nat.reduceLeDiff, Nat.reduceLT, Nat.reduceEqDiff, Int.reduceNeg, Int.reduceLT, Int.reduceLE, Int.reduceEq, Int.reduceToNat]) | ((with_reducible refine And.intro ?_ ?_); omega) | ((fail_if_success (with_reducible first | refine s1 ?_ | refine s2 ?_ | refine s3 ?_ | refine s4 ?_ | refine s5 ?_ | refine s6 ?_ | refine s7 ?_ | refine s8 ?_ | refine s9 ?_)); simp only [D.int, D.bool]))
        exact end1 rfl rfl (by kernel_rfl) (.sl rfl (fun e => by omega)) (some'_of (by rw [List.length_set, hdl]) (fit_set hds (by simp)))
      · exact end1 rfl rfl (by kernel_rfl) (.sl rfl (fun e => by omega)) (some'_of (by rw [List.length_set, hdl]) (fit_set hds (hds.2 (gt ds k) (gt_mem hk))))
      · refine bind'_of (store_ns (m := 1) (l := [1, 0]) hk rfl) ?_
        repeat' (first | (with_reducible first | refine r1 ?_ | refine rK fun K hK => ?_ | refine wpS_app fun K hK => ?_ | (refine hK _ ?_; clear hK K) | refine rL fun K hK => ?_) | ((with_reducible refine And.intro (Chk.mk' ?_) ?_); kernel_rfl) | ((with_reducible refine HS.cond1 ?_ ?_); rfl) | ((with_reducible refine HS.cond0 ?_ ?_); rfl) | ((with_reducible apply HS.condB) <;> first | rfl | (with_reducible intro h)) | (with_reducible first | refine r2 ?_ | refine r3 ?_ | refine r4 ?_ | refine r5 ?_ | refine r6 ?_ | refine r7 ?_ | refine r8 ?_ | refine r9 ?_ | refine rA ?_ | refine rB ?_ | refine rC ?_ | refine rD ?_) | ((with_reducible refine blockQ_miss ?_ ?_); rfl) | (with_reducible refine Two.mk' (fun h => ?_) (fun h => ?_) <;> try (exfalso; omega)) | ((with_reducible refine Bsel.mk' (fun h => ?_) (fun h => ?_)) <;> (try simp only [h])) | ((fail_if_success (with_reducible first | refine s1 ?_ | refine s2 ?_ | refine s3 ?_ | refine s4 ?_ | refine s5 ?_ | refine s6 ?_ | refine s7 ?_ | refine s8 ?_ | refine s9 ?_)); simp (disch := omega) only [↓LD, LU, LS, LT, loadA_rf, ↓reduceIte, reduceCtorEq, Nat.reduceAdd, Nat.reduceMul, Nat.reduceSub, Nat.reduceLeDiff, Nat.reduceLT, Nat.reduceEqDiff, Int.reduceNeg, Int.reduceLT, Int.reduceLE, Int.reduceEq, Int.reduceToNat]) | ((with_reducible refine And.intro ?_ ?_); omega) | ((fail_if_success (with_reducible first | refine s1 ?_ | refine s2 ?_ | refine s3 ?_ | refine s4 ?_ | refine s5 ?_ | refine s6 ?_ | refine s7 ?_ | refine s8 ?_ | refine s9 ?_)); simp only [D.int, D.bool]))
        exact end1 rfl rfl (by kernel_rfl) (.sl rfl (fun e => by omega)) (some'_of (by rw [List.length_set, hdl]) (fit_set hds (by simp)))
      · exact end1 rfl rfl (by kernel_rfl) (.sl rfl (fun e => by omega)) (some'_of hdl hds)
end Go.Proofs.Ytjbkckhpoicaeaa.Mir

/- Raw graphs that came in, opened. -/
namespace Go.Proofs.Ytjbkckhpoicaeaa
open Go Go.RowKit

abbrev RawIn := Int × Int × Option Addr × Nat × List Int
def rawV (x : RawIn) : List Value := [.int .i64 x.1, .int .i64 x.2.1, .slice x.2.2.1 x.2.2.2.2.length x.2.2.2.1]
def rawOk (W : World) (x : RawIn) : Prop := InS (fun n : Int => [Value.int .i64 n]) (fun n => (Lit.int .i64 n).wf = true) 8 W x.2.2.1 x.2.2.2.1 x.2.2.2.2
theorem reader_raw (W : World) : Reader Try.prog W 65 rawV (rawOk W) :=
  Reader.map (reader_struct Try.underlying65 (by kernel_rfl) (freader_cons (m := 1) rfl (by kernel_rfl) (reader_int Try.underlying3)
    (freader_cons (m := 1) rfl (by kernel_rfl) (reader_int Try.underlying3) (freader_cons (m := 1) rfl (by kernel_rfl) (reader_slice (n := 1) (B := 8) Try.underlying23 (by kernel_rfl) (by kernel_rfl) (fun _ => rfl) (reader_int Try.underlying3)) (freader_nil _)))))
    (fun x => (x.1, x.2.1, x.2.2.1)) (fun _ _ => rfl) (fun _ h => h.2.2.1)
theorem open_raws {H : Type} {enc : TypeId × Value → H} {W : World} {ts : List TypeId} {ds : List (DataW H)} (hsz : (DataW.weightsEach Try.prog ts ds).all (· ≤ reachBytes) = true) {d : DataW H} {ps : List MemPlace} (j : Nat) (htj : ts[j]? = some 22) (hdj : ds[j]? = some d)
    {a : Option Addr} {len cap : Nat} (h : DataW.Trod enc Try.prog W 0 (fun _ => true) true 22 (.slice a len cap) d ps) : ∃ xs : List RawIn, xs.length = len ∧ InS rawV (rawOk W) 40 W a cap xs :=
  open_slice_arg (n := 3) (B := 40) (f := rawV) hsz j htj hdj Try.underlying22 (by kernel_rfl) (by kernel_rfl) (fun _ => rfl) (reader_raw W) h
def rawD (x : RawIn) : Mir.Rd := ⟨x.1, x.2.1, x.2.2.2.2⟩
theorem rf_raws {W : World} {A : Nat → Prop} (hA : ∀ b, ¬ A b) {a : Option Addr} {c : Nat} {xs : List RawIn} (h : InS rawV (rawOk W) 40 W a c xs) : Mir.RF W A (Mir.fR (xs.map rawD)) (.slice a xs.length c) := by
  have h1 := Mir.rf_in (A := A) (g := fun x => Mir.Rd.cs (rawD x)) h hA fun x hx => .cons (.v rfl) (.cons (.v rfl) (.cons (Mir.rf_ints hx hA) .nil))
  have e : Mir.fR (xs.map rawD) = .s (xs.flatMap fun x => Mir.Rd.cs (rawD x)) xs.length := by rw [Mir.fR, List.flatMap_map, List.length_map]
  rw [e]; exact h1
end Go.Proofs.Ytjbkckhpoicaeaa
