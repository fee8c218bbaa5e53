/- Functions of the program, told without it. -/
import Derived.Test.YtjhemkeilagnnaaL
namespace Go.Proofs.Ytjhemkeilagnnaa.Mir
open Go Go.RowKit

/-- cutover.cutoverhand.Pick -/
def s_hand_Pick : SCode :=
  (.seq (.ops [.a 4 (.mv (.c (.f (.v (.int .i64 0)))))])
  (.seq (.ops [.a 5 (.mv (.t 0)),
 .a 6 (.mv (.t 1)),
 .a 7 (.bin .rem (.t 5) (.t 6)),
 .a 0 (.mv (.t 7))])
  (.seq (.seq (.ops [.a 8 (.mv (.t 0)),
 .a 9 (.bin .lss (.t 8) (.c (.f (.v (.int .i64 0)))))])
   (.cond (.t 9)
    (.ops [.a 10 (.mv (.t 0)),
 .a 11 (.mv (.t 1)),
 .a 12 (.bin .add (.t 10) (.t 11)),
 .a 0 (.mv (.t 12))])
    .skip))
  (.seq (.ops [.a 13 (.mv (.t 0)),
 .a 4 (.mv (.t 13))])
  .ret))))
theorem fn_hand_Pick : Fn Try.prog 23 14 [.t 4] s_hand_Pick := ⟨_, _, Try.func23, rfl, rfl, by kernel_rfl, by kernel_rfl⟩

/-- cutover.cutoverhand.Defs -/
def s_hand_Defs : SCode :=
  (.seq (.ops [.a 4 (.mv (.c (.f (.v (.slice none 0 0)))))])
  (.seq (.ops [.a 5 (.mv (.c (.f (.v (.slice none 0 0)))))])
  (.seq (.seq (.ops [.a 6 (.mv (.c (.f (.v (.int .i64 0)))))])
   (.block 0 (.loop
     (.seq (.seq (.ops ([.a 11 (.mv (.t 6)),
 .a 12 (.mv (.t 0)),
 .a 13 (.slen (.t 12)),
 .a 14 (.bin .lss (.t 11) (.t 13))] ++
 ([.a 15 (.mv (.t 14)),
 .g (some 16) (.mv (.t 6)) 15 true] ++
 ([.g (some 17) (.bin .lss (.t 16) (.c (.f (.v (.int .i64 6))))) 15 true] ++
 ([.a 18 (.pick (.t 15) (.t 17) (.c (.f (.v (.bool false)))))])))))
      (.cond (.t 18)
       .skip
       (.exit 0)))
     (.seq (.block 1 (.seq (.drw [.a 21 (.mv (.t 0)),
          .a 22 (.mv (.t 6)),
          .a 23 (.idx 3 (.t 21) (.t 22)),
          .a 24 (.off 0 (.t 23)),
          .a 25 (.load1 (.t 24)),
          .a 26 (.call (.c (.fn 23 [])) [(.t 25), (.c (.f (.v (.int .i64 3))))]),
          .a 27 (.bin .add (.c (.f (.v (.int .i64 1)))) (.t 26)),
          .a 28 (.mv (.t 0)),
          .a 29 (.mv (.t 6)),
          .a 30 (.idx 3 (.t 28) (.t 29)),
          .a 31 (.off 1 (.t 30)),
          .a 32 (.load1 (.t 31)),
          .a 33 (.call (.c (.fn 23 [])) [(.t 32), (.c (.f (.v (.int .i64 9))))]),
          .a 34 (.bin .add (.c (.f (.v (.int .i64 1)))) (.t 33)),
          .a 35 (.bld [(.f (.v (.slice none 0 0))), (.f (.v (.int .i64 0))), (.f (.v (.int .i64 0)))] [(1, 1, (.t 27)), (2, 1, (.t 34))]),
          .a 7 (.alloc 53 [(.f (.v (.slice none 0 0))), (.f (.v (.int .i64 0))), (.f (.v (.int .i64 0)))]),
          .n (.store 3 (.t 7) (.t 35))] [0, 0, 3, 7, 15, 31, 63, 0, 0, 384, 896, 1920, 4031, 8127, 16383, 0, 65535])
       (.seq (.seq (.ops [.a 8 (.mv (.c (.f (.v (.int .i64 0)))))])
        (.block 2 (.loop
          (.seq (.seq (.ops [.a 36 (.mv (.t 8)),
 .a 37 (.mv (.t 6)),
 .a 38 (.bin .lss (.t 36) (.t 37))])
           (.cond (.t 38)
            .skip
            (.exit 2)))
          (.seq (.block 3 (.seq (.ops [.a 9 (.mv (.c (.f (.v (.int .i64 0)))))])
            (.block 4 (.loop
              (.seq (.seq (.ops ([.a 41 (.mv (.t 9)),
 .a 42 (.mv (.t 0)),
 .a 43 (.mv (.t 6)),
 .a 44 (.idx 3 (.t 42) (.t 43)),
 .a 45 (.off 2 (.t 44)),
 .a 46 (.load1 (.t 45)),
 .a 47 (.slen (.t 46)),
 .a 48 (.bin .lss (.t 41) (.t 47))] ++
 ([.a 49 (.mv (.t 48)),
 .g (some 50) (.mv (.t 9)) 49 true] ++
 ([.g (some 51) (.bin .lss (.t 50) (.c (.f (.v (.int .i64 3))))) 49 true] ++
 ([.a 52 (.pick (.t 49) (.t 51) (.c (.f (.v (.bool false)))))])))))
               (.cond (.t 52)
                .skip
                (.exit 4)))
              (.seq (.block 5 (.seq (.ops ([.a 55 (.mv (.t 0)),
 .a 56 (.mv (.t 6)),
 .a 57 (.idx 3 (.t 55) (.t 56)),
 .a 58 (.off 2 (.t 57)),
 .a 59 (.load1 (.t 58)),
 .a 60 (.mv (.t 9)),
 .a 61 (.idx 1 (.t 59) (.t 60)),
 .a 62 (.load1 (.t 61)),
 .a 63 (.mv (.t 6)),
 .a 64 (.call (.c (.fn 23 [])) [(.t 62), (.t 63)])] ++
 ([.a 65 (.mv (.t 8)),
 .a 66 (.bin .eql (.t 64) (.t 65))] ++
 ([.a 67 (.mv (.t 66)),
 .g (some 68) (.off 0 (.t 7)) 67 true] ++
 ([.g (some 69) (.load1 (.t 68)) 67 true,
 .g (some 70) (.slen (.t 69)) 67 true,
 .g (some 71) (.bin .eql (.t 70) (.c (.f (.v (.int .i64 0))))) 67 true] ++
 ([.g (some 72) (.mv (.t 71)) 67 true,
 .g (some 73) (.off 0 (.t 7)) 72 false] ++
 ([.g (some 74) (.load1 (.t 73)) 72 false,
 .g (some 75) (.off 0 (.t 7)) 72 false,
 .g (some 76) (.load1 (.t 75)) 72 false,
 .g (some 77) (.slen (.t 76)) 72 false,
 .g (some 78) (.bin .sub (.t 77) (.c (.f (.v (.int .i64 1))))) 72 false,
 .g (some 79) (.idx 1 (.t 74) (.t 78)) 72 false,
 .g (some 80) (.load1 (.t 79)) 72 false,
 .g (some 81) (.mv (.t 8)) 72 false,
 .g (some 82) (.bin .lss (.t 80) (.t 81)) 72 false] ++
 ([.g (some 83) (.pick (.t 72) (.c (.f (.v (.bool true)))) (.t 82)) 67 true] ++
 ([.a 84 (.pick (.t 67) (.t 83) (.c (.f (.v (.bool false)))))])))))))))
                (.cond (.t 84)
                 (.ops ([.a 85 (.off 0 (.t 7)),
 .a 86 (.load1 (.t 85)),
 .a 87 (.mv (.t 8)),
 .a 88 (.bsl 3 1 1 [(.f (.v (.int .i64 0)))] [(0, (.t 87))]),
 .a 89 (.app 3 1 8 (.t 86) (.t 88))] ++
 ([.a 90 (.off 0 (.t 7)),
 .n (.store 1 (.t 90) (.t 89))])))
                 .skip)))
              (.ops [.a 53 (.mv (.t 9)),
 .a 54 (.bin .add (.t 53) (.c (.f (.v (.int .i64 1))))),
 .a 9 (.mv (.t 54))])))))))
          (.ops [.a 39 (.mv (.t 8)),
 .a 40 (.bin .add (.t 39) (.c (.f (.v (.int .i64 1))))),
 .a 8 (.mv (.t 40))]))))))
       (.ops ([.a 91 (.mv (.t 5)),
 .a 92 (.loadA 3 (.t 7)),
 .a 93 (.bsl 53 3 1 [(.f (.v (.slice none 0 0))), (.f (.v (.int .i64 0))), (.f (.v (.int .i64 0)))] [(0, (.t 92))]),
 .a 94 (.app 53 3 40 (.t 91) (.t 93))] ++
 ([.a 5 (.mv (.t 94))]))))))
     (.ops [.a 19 (.mv (.t 6)),
 .a 20 (.bin .add (.t 19) (.c (.f (.v (.int .i64 1))))),
 .a 6 (.mv (.t 20))]))))))
  (.seq (.seq (.ops [.a 95 (.mv (.t 5)),
 .a 96 (.slen (.t 95)),
 .a 97 (.bin .eql (.t 96) (.c (.f (.v (.int .i64 0)))))])
   (.cond (.t 97)
    (.ops [.a 98 (.bld [(.f (.v (.slice none 0 0))), (.f (.v (.int .i64 0))), (.f (.v (.int .i64 0)))] [(1, 1, (.c (.f (.v (.int .i64 1))))), (2, 1, (.c (.f (.v (.int .i64 5)))))]),
 .a 99 (.bsl 53 3 1 [(.f (.v (.slice none 0 0))), (.f (.v (.int .i64 0))), (.f (.v (.int .i64 0)))] [(0, (.t 98))]),
 .a 5 (.mv (.t 99))])
    .skip))
  (.seq (.ops ([.a 100 (.mv (.t 1)),
 .a 101 (.bin .quo (.t 100) (.c (.f (.v (.int .i64 20))))),
 .a 102 (.mv (.t 5)),
 .a 103 (.slen (.t 102)),
 .a 104 (.call (.c (.fn 23 [])) [(.t 101), (.t 103)])] ++
 ([.a 10 (.mv (.t 104))])))
  (.seq (.seq (.ops [.a 105 (.mv (.t 1)),
 .a 106 (.call (.c (.fn 23 [])) [(.t 105), (.c (.f (.v (.int .i64 20))))])])
   (.block 6 (.seq (.ops ([.a 108 (.bin .eql (.t 106) (.c (.f (.v (.int .i64 0)))))] ++
 ([.a 107 (.mv (.t 108))])))
    (.cond (.t 107)
     (.ops [.a 109 (.mv (.t 5)),
 .a 110 (.mv (.t 10)),
 .a 111 (.mv (.t 10)),
 .a 112 (.bsl 3 1 1 [(.f (.v (.int .i64 0)))] [(0, (.t 111))]),
 .a 113 (.idx 3 (.t 109) (.t 110)),
 .a 114 (.off 0 (.t 113)),
 .n (.store 1 (.t 114) (.t 112))])
     (.seq (.ops ([.a 116 (.bin .eql (.t 106) (.c (.f (.v (.int .i64 1)))))] ++
 ([.a 115 (.mv (.t 116))])))
     (.cond (.t 115)
      (.ops [.a 117 (.mv (.t 5)),
 .a 118 (.mv (.t 5)),
 .a 119 (.slen (.t 118)),
 .a 120 (.bin .sub (.t 119) (.c (.f (.v (.int .i64 1))))),
 .a 121 (.bsl 3 1 1 [(.f (.v (.int .i64 0)))] [(0, (.t 120))]),
 .a 122 (.idx 3 (.t 117) (.c (.f (.v (.int .i64 0))))),
 .a 123 (.off 0 (.t 122)),
 .n (.store 1 (.t 123) (.t 121))])
      (.seq (.ops ([.a 125 (.bin .eql (.t 106) (.c (.f (.v (.int .i64 2)))))] ++
 ([.a 124 (.mv (.t 125))])))
      (.cond (.t 124)
       (.ops ([.a 126 (.mv (.t 5)),
 .a 127 (.mv (.t 10)),
 .a 128 (.mv (.t 1)),
 .a 129 (.bin .quo (.t 128) (.c (.f (.v (.int .i64 60))))),
 .a 130 (.call (.c (.fn 23 [])) [(.t 129), (.c (.f (.v (.int .i64 9))))])] ++
 ([.a 131 (.bin .sub (.t 130) (.c (.f (.v (.int .i64 1))))),
 .a 132 (.idx 3 (.t 126) (.t 127)),
 .a 133 (.off 1 (.t 132)),
 .n (.store 1 (.t 133) (.t 131))])))
       (.seq (.ops ([.a 135 (.bin .eql (.t 106) (.c (.f (.v (.int .i64 3)))))] ++
 ([.a 134 (.mv (.t 135))])))
       (.cond (.t 134)
        (.ops ([.a 136 (.mv (.t 5)),
 .a 137 (.mv (.t 10)),
 .a 138 (.mv (.t 1)),
 .a 139 (.bin .quo (.t 138) (.c (.f (.v (.int .i64 60))))),
 .a 140 (.call (.c (.fn 23 [])) [(.t 139), (.c (.f (.v (.int .i64 9))))])] ++
 ([.a 141 (.bsl 3 1 1 [(.f (.v (.int .i64 0)))] [(0, (.t 140))]),
 .a 142 (.idx 3 (.t 136) (.t 137)),
 .a 143 (.off 0 (.t 142)),
 .n (.store 1 (.t 143) (.t 141))])))
        (.seq (.ops ([.a 145 (.bin .eql (.t 106) (.c (.f (.v (.int .i64 4)))))] ++
 ([.a 144 (.mv (.t 145))])))
        (.cond (.t 144)
         (.ops [.a 146 (.mv (.t 5)),
 .a 147 (.mv (.t 10)),
 .a 148 (.idx 3 (.t 146) (.t 147)),
 .a 149 (.off 2 (.t 148)),
 .n (.store 1 (.t 149) (.c (.f (.v (.int .i64 0)))))])
         (.seq (.ops ([.a 151 (.bin .eql (.t 106) (.c (.f (.v (.int .i64 5)))))] ++
 ([.a 150 (.mv (.t 151))])))
         (.cond (.t 150)
          (.ops [.a 152 (.mv (.t 5)),
 .a 153 (.mv (.t 10)),
 .a 154 (.bsl 3 1 2 [(.f (.v (.int .i64 0))), (.f (.v (.int .i64 0)))] [(0, (.c (.f (.v (.int .i64 1))))), (1, (.c (.f (.v (.int .i64 0)))))]),
 .a 155 (.idx 3 (.t 152) (.t 153)),
 .a 156 (.off 0 (.t 155)),
 .n (.store 1 (.t 156) (.t 154))])
          .skip))))))))))))))
  (.seq (.ops [.a 157 (.mv (.t 5)),
 .a 4 (.mv (.t 157))])
  .ret)))))))
theorem fn_hand_Defs : Fn Try.prog 31 158 [.t 4] s_hand_Defs := ⟨_, _, Try.func31, rfl, rfl, by kernel_rfl, by kernel_rfl⟩

/-- cutover.cutoverlaw11.raw -/
def s_law_raw : SCode :=
  (.seq (.ops [.a 6 (.mv (.c (.f (.v (.slice none 0 0)))))])
  (.seq (.seq (.ops [.a 12 (.mv (.t 2)),
 .a 13 (.unot (.t 12))])
   (.cond (.t 13)
    (.seq (.ops ([.a 14 (.mv (.t 0)),
 .a 15 (.mv (.t 1)),
 .a 16 (.call (.c (.fn 31 [])) [(.t 14), (.t 15)])] ++
 ([.a 6 (.mv (.t 16))])))
    .ret)
    .skip))
  (.seq (.ops [.a 7 (.mv (.c (.f (.v (.slice none 0 0)))))])
  (.seq (.seq (.ops [.a 8 (.mv (.c (.f (.v (.int .i64 0)))))])
   (.block 0 (.loop
     (.seq (.seq (.ops ([.a 17 (.mv (.t 8)),
 .a 18 (.mv (.t 0)),
 .a 19 (.slen (.t 18)),
 .a 20 (.bin .lss (.t 17) (.t 19))] ++
 ([.a 21 (.mv (.t 20)),
 .g (some 22) (.mv (.t 8)) 21 true] ++
 ([.g (some 23) (.bin .lss (.t 22) (.c (.f (.v (.int .i64 9))))) 21 true] ++
 ([.a 24 (.pick (.t 21) (.t 23) (.c (.f (.v (.bool false)))))])))))
      (.cond (.t 24)
       .skip
       (.exit 0)))
     (.seq (.block 1 (.seq (.drw [.a 27 (.mv (.t 0)),
          .a 28 (.mv (.t 8)),
          .a 29 (.idx 3 (.t 27) (.t 28)),
          .a 30 (.off 0 (.t 29)),
          .a 31 (.load1 (.t 30)),
          .a 32 (.call (.c (.fn 23 [])) [(.t 31), (.c (.f (.v (.int .i64 5))))]),
          .a 33 (.bin .add (.c (.f (.v (.int .i64 1)))) (.t 32)),
          .a 34 (.mv (.t 0)),
          .a 35 (.mv (.t 8)),
          .a 36 (.idx 3 (.t 34) (.t 35)),
          .a 37 (.off 1 (.t 36)),
          .a 38 (.load1 (.t 37)),
          .a 39 (.call (.c (.fn 23 [])) [(.t 38), (.c (.f (.v (.int .i64 9))))]),
          .a 40 (.bin .add (.c (.f (.v (.int .i64 1)))) (.t 39)),
          .a 41 (.bld [(.f (.v (.slice none 0 0))), (.f (.v (.int .i64 0))), (.f (.v (.int .i64 0)))] [(1, 1, (.t 33)), (2, 1, (.t 40))]),
          .a 9 (.alloc 53 [(.f (.v (.slice none 0 0))), (.f (.v (.int .i64 0))), (.f (.v (.int .i64 0)))]),
          .n (.store 3 (.t 9) (.t 41))] [0, 0, 3, 7, 15, 31, 63, 0, 0, 384, 896, 1920, 4031, 8127, 16383, 0, 65535])
       (.seq (.seq (.ops [.a 10 (.mv (.c (.f (.v (.int .i64 0)))))])
        (.block 2 (.loop
          (.seq (.seq (.ops [.a 42 (.mv (.t 10)),
 .a 43 (.mv (.t 0)),
 .a 44 (.slen (.t 43)),
 .a 45 (.mm false (.t 44) (.c (.f (.v (.int .i64 9))))),
 .a 46 (.bin .lss (.t 42) (.t 45))])
           (.cond (.t 46)
            .skip
            (.exit 2)))
          (.seq (.block 3 (.seq (.ops [.a 11 (.mv (.c (.f (.v (.int .i64 0)))))])
            (.block 4 (.loop
              (.seq (.seq (.ops ([.a 49 (.mv (.t 11)),
 .a 50 (.mv (.t 0)),
 .a 51 (.mv (.t 8)),
 .a 52 (.idx 3 (.t 50) (.t 51)),
 .a 53 (.off 2 (.t 52)),
 .a 54 (.load1 (.t 53)),
 .a 55 (.slen (.t 54)),
 .a 56 (.bin .lss (.t 49) (.t 55))] ++
 ([.a 57 (.mv (.t 56)),
 .g (some 58) (.mv (.t 11)) 57 true] ++
 ([.g (some 59) (.bin .lss (.t 58) (.c (.f (.v (.int .i64 2))))) 57 true] ++
 ([.a 60 (.pick (.t 57) (.t 59) (.c (.f (.v (.bool false)))))])))))
               (.cond (.t 60)
                .skip
                (.exit 4)))
              (.seq (.block 5 (.seq (.ops ([.a 63 (.mv (.t 0)),
 .a 64 (.mv (.t 8)),
 .a 65 (.idx 3 (.t 63) (.t 64)),
 .a 66 (.off 2 (.t 65)),
 .a 67 (.load1 (.t 66)),
 .a 68 (.mv (.t 11)),
 .a 69 (.idx 1 (.t 67) (.t 68)),
 .a 70 (.load1 (.t 69)),
 .a 71 (.call (.c (.fn 23 [])) [(.t 70), (.c (.f (.v (.int .i64 9))))])] ++
 ([.a 72 (.mv (.t 10)),
 .a 73 (.bin .eql (.t 71) (.t 72))] ++
 ([.a 74 (.mv (.t 73)),
 .g (some 75) (.off 0 (.t 9)) 74 true] ++
 ([.g (some 76) (.load1 (.t 75)) 74 true,
 .g (some 77) (.slen (.t 76)) 74 true,
 .g (some 78) (.bin .eql (.t 77) (.c (.f (.v (.int .i64 0))))) 74 true] ++
 ([.g (some 79) (.mv (.t 78)) 74 true,
 .g (some 80) (.off 0 (.t 9)) 79 false] ++
 ([.g (some 81) (.load1 (.t 80)) 79 false,
 .g (some 82) (.off 0 (.t 9)) 79 false,
 .g (some 83) (.load1 (.t 82)) 79 false,
 .g (some 84) (.slen (.t 83)) 79 false,
 .g (some 85) (.bin .sub (.t 84) (.c (.f (.v (.int .i64 1))))) 79 false,
 .g (some 86) (.idx 1 (.t 81) (.t 85)) 79 false,
 .g (some 87) (.load1 (.t 86)) 79 false,
 .g (some 88) (.mv (.t 10)) 79 false,
 .g (some 89) (.bin .lss (.t 87) (.t 88)) 79 false] ++
 ([.g (some 90) (.pick (.t 79) (.c (.f (.v (.bool true)))) (.t 89)) 74 true] ++
 ([.a 91 (.pick (.t 74) (.t 90) (.c (.f (.v (.bool false)))))])))))))))
                (.cond (.t 91)
                 (.ops ([.a 92 (.off 0 (.t 9)),
 .a 93 (.load1 (.t 92)),
 .a 94 (.mv (.t 10)),
 .a 95 (.bsl 3 1 1 [(.f (.v (.int .i64 0)))] [(0, (.t 94))]),
 .a 96 (.app 3 1 8 (.t 93) (.t 95))] ++
 ([.a 97 (.off 0 (.t 9)),
 .n (.store 1 (.t 97) (.t 96))])))
                 .skip)))
              (.ops [.a 61 (.mv (.t 11)),
 .a 62 (.bin .add (.t 61) (.c (.f (.v (.int .i64 1))))),
 .a 11 (.mv (.t 62))])))))))
          (.ops [.a 47 (.mv (.t 10)),
 .a 48 (.bin .add (.t 47) (.c (.f (.v (.int .i64 1))))),
 .a 10 (.mv (.t 48))]))))))
       (.ops ([.a 98 (.mv (.t 7)),
 .a 99 (.loadA 3 (.t 9)),
 .a 100 (.bsl 53 3 1 [(.f (.v (.slice none 0 0))), (.f (.v (.int .i64 0))), (.f (.v (.int .i64 0)))] [(0, (.t 99))]),
 .a 101 (.app 53 3 40 (.t 98) (.t 100))] ++
 ([.a 7 (.mv (.t 101))]))))))
     (.ops [.a 25 (.mv (.t 8)),
 .a 26 (.bin .add (.t 25) (.c (.f (.v (.int .i64 1))))),
 .a 8 (.mv (.t 26))]))))))
  (.seq (.ops [.a 102 (.mv (.t 7)),
 .a 6 (.mv (.t 102))])
  .ret)))))
theorem fn_law_raw : Fn Try.prog 14 103 [.t 6] s_law_raw := ⟨_, _, Try.func14, rfl, rfl, by kernel_rfl, by kernel_rfl⟩

/-- cutover.cutoverlaw11.known -/
def s_law_known : SCode :=
  (.seq (.ops [.a 0 (.mv (.c (.f (.v (.bool false)))))])
  (.seq (.ops ([.a 4 (.bsl 3 1 1 [(.f (.v (.int .i64 0)))] [(0, (.c (.f (.v (.int .i64 1)))))]),
 .a 5 (.bld [(.f (.v (.slice none 0 0))), (.f (.v (.int .i64 0))), (.f (.v (.int .i64 0)))] [(1, 1, (.c (.f (.v (.int .i64 1))))), (2, 1, (.c (.f (.v (.int .i64 1))))), (0, 1, (.t 4))]),
 .a 6 (.bld [(.f (.v (.slice none 0 0))), (.f (.v (.int .i64 0))), (.f (.v (.int .i64 0)))] [(1, 1, (.c (.f (.v (.int .i64 1))))), (2, 1, (.c (.f (.v (.int .i64 1)))))]),
 .a 7 (.bsl 53 3 2 [(.f (.v (.slice none 0 0))), (.f (.v (.int .i64 0))), (.f (.v (.int .i64 0))), (.f (.v (.slice none 0 0))), (.f (.v (.int .i64 0))), (.f (.v (.int .i64 0)))] [(0, (.t 5)), (3, (.t 6))]),
 .a 8 (.call (.c (.fn 15 [])) [(.t 7)])] ++
 ([.a 3 (.mv (.t 8)),
 .a 9 (.ext 0 (.t 3)),
 .a 10 (.ext 1 (.t 3)),
 .a 1 (.mv (.t 9)),
 .a 2 (.mv (.t 10))])))
  (.seq (.ops ([.a 11 (.mv (.t 2)),
 .a 12 (.mv (.t 11)),
 .g (some 13) (.mv (.t 1)) 12 true] ++
 ([.g (some 14) (.bsl 3 1 2 [(.f (.v (.int .i64 0))), (.f (.v (.int .i64 0)))] [(0, (.c (.f (.v (.int .i64 1))))), (1, (.c (.f (.v (.int .i64 0)))))]) 12 true,
 .g (some 15) (.call (.c (.fn 43 [])) [(.t 13), (.t 14)]) 12 true] ++
 ([.a 16 (.pick (.t 12) (.t 15) (.c (.f (.v (.bool false))))),
 .a 0 (.mv (.t 16))]))))
  .ret)))
theorem fn_law_known : Fn Try.prog 16 17 [.t 0] s_law_known := ⟨_, _, Try.func16, rfl, rfl, by kernel_rfl, by kernel_rfl⟩

/-- cutover.cutoverref8.SameInts -/
def s_ref_SameInts : SCode :=
  (.seq (.ops [.a 4 (.mv (.c (.f (.v (.bool false)))))])
  (.seq (.seq (.ops [.a 6 (.mv (.t 0)),
 .a 7 (.slen (.t 6)),
 .a 8 (.mv (.t 1)),
 .a 9 (.slen (.t 8)),
 .a 10 (.bin .neq (.t 7) (.t 9))])
   (.cond (.t 10)
    (.seq (.ops [.a 4 (.mv (.c (.f (.v (.bool false)))))])
    .ret)
    .skip))
  (.seq (.seq (.ops [.a 5 (.mv (.c (.f (.v (.int .i64 0)))))])
   (.block 0 (.loop
     (.seq (.seq (.ops [.a 11 (.mv (.t 5)),
 .a 12 (.mv (.t 0)),
 .a 13 (.slen (.t 12)),
 .a 14 (.bin .lss (.t 11) (.t 13))])
      (.cond (.t 14)
       .skip
       (.exit 0)))
     (.seq (.block 1 (.seq (.drw [.a 17 (.mv (.t 0)),
          .a 18 (.mv (.t 5)),
          .a 19 (.idx 1 (.t 17) (.t 18)),
          .a 20 (.load1 (.t 19)),
          .a 21 (.mv (.t 1)),
          .a 22 (.mv (.t 5)),
          .a 23 (.idx 1 (.t 21) (.t 22)),
          .a 24 (.load1 (.t 23)),
          .a 25 (.bin .neq (.t 20) (.t 24))] [0, 0, 3, 7, 0, 0, 48, 112, 255])
       (.cond (.t 25)
        (.seq (.ops [.a 4 (.mv (.c (.f (.v (.bool false)))))])
        .ret)
        .skip)))
     (.ops [.a 15 (.mv (.t 5)),
 .a 16 (.bin .add (.t 15) (.c (.f (.v (.int .i64 1))))),
 .a 5 (.mv (.t 16))]))))))
  (.seq (.ops [.a 4 (.mv (.c (.f (.v (.bool true)))))])
  .ret))))
theorem fn_ref_SameInts : Fn Try.prog 43 26 [.t 4] s_ref_SameInts := ⟨_, _, Try.func43, rfl, rfl, by kernel_rfl, by kernel_rfl⟩

/-- cutover.cutoverlaw11.DagOrders -/
def s_law_DagOrders : SCode :=
  (.seq (.ops [.a 6 (.mv (.c (.f (.v (.bool false)))))])
  (.seq (.ops ([.a 15 (.mv (.t 0)),
 .a 16 (.mv (.t 1)),
 .a 17 (.mv (.t 2)),
 .a 18 (.call (.c (.fn 14 [])) [(.t 15), (.t 16), (.t 17)])] ++
 ([.a 7 (.mv (.t 18))])))
  (.seq (.ops ([.a 20 (.mv (.t 7)),
 .a 21 (.call (.c (.fn 15 [])) [(.t 20)])] ++
 ([.a 19 (.mv (.t 21)),
 .a 22 (.ext 0 (.t 19)),
 .a 23 (.ext 1 (.t 19)),
 .a 8 (.mv (.t 22)),
 .a 9 (.mv (.t 23))])))
  (.seq (.seq (.ops ([.a 24 (.call (.c (.fn 16 [])) [])] ++
 ([.a 25 (.unot (.t 24)),
 .a 26 (.mv (.t 25)),
 .g (some 27) (.mv (.t 9)) 26 false] ++
 ([.g (some 28) (.unot (.t 27)) 26 false,
 .a 29 (.pick (.t 26) (.c (.f (.v (.bool true)))) (.t 28))]))))
   (.cond (.t 29)
    (.seq (.ops ([.a 30 (.call (.c (.fn 16 [])) [])] ++
 ([.a 31 (.mv (.t 30)),
 .g (some 32) (.mv (.t 7)) 31 true] ++
 ([.g (some 33) (.call (.c (.fn 17 [])) [(.t 32)]) 31 true] ++
 ([.g (some 34) (.bin .neq (.t 33) (.c (.f (.v (.int .i64 0))))) 31 true] ++
 ([.a 35 (.pick (.t 31) (.t 34) (.c (.f (.v (.bool false))))),
 .a 6 (.mv (.t 35))]))))))
    .ret)
    .skip))
  (.seq (.ops [.a 36 (.mv (.t 7)),
 .a 37 (.slen (.t 36)),
 .a 38 (.mkslice 4 1 1 [(.v (.bool false))] (.t 37) (.t 37)),
 .a 10 (.mv (.t 38))])
  (.seq (.seq (.ops [.a 11 (.mv (.c (.f (.v (.int .i64 0)))))])
   (.block 0 (.loop
     (.seq (.seq (.ops [.a 39 (.mv (.t 11)),
 .a 40 (.mv (.t 8)),
 .a 41 (.slen (.t 40)),
 .a 42 (.bin .lss (.t 39) (.t 41))])
      (.cond (.t 42)
       .skip
       (.exit 0)))
     (.seq (.block 1 (.seq (.seq (.ops ([.a 45 (.mv (.t 8)),
 .a 46 (.mv (.t 11)),
 .a 47 (.idx 1 (.t 45) (.t 46)),
 .a 48 (.load1 (.t 47)),
 .a 49 (.bin .lss (.t 48) (.c (.f (.v (.int .i64 0)))))] ++
 ([.a 50 (.mv (.t 49)),
 .g (some 51) (.mv (.t 8)) 50 false] ++
 ([.g (some 52) (.mv (.t 11)) 50 false,
 .g (some 53) (.idx 1 (.t 51) (.t 52)) 50 false,
 .g (some 54) (.load1 (.t 53)) 50 false,
 .g (some 55) (.mv (.t 7)) 50 false,
 .g (some 56) (.slen (.t 55)) 50 false,
 .g (some 57) (.bin .geq (.t 54) (.t 56)) 50 false] ++
 ([.a 58 (.pick (.t 50) (.c (.f (.v (.bool true)))) (.t 57)),
 .a 59 (.mv (.t 58)),
 .g (some 60) (.mv (.t 10)) 59 false] ++
 ([.g (some 61) (.mv (.t 8)) 59 false,
 .g (some 62) (.mv (.t 11)) 59 false,
 .g (some 63) (.idx 1 (.t 61) (.t 62)) 59 false,
 .g (some 64) (.load1 (.t 63)) 59 false,
 .g (some 65) (.idx 1 (.t 60) (.t 64)) 59 false,
 .g (some 66) (.load1 (.t 65)) 59 false,
 .a 67 (.pick (.t 59) (.c (.f (.v (.bool true)))) (.t 66))]))))))
        (.cond (.t 67)
         (.seq (.ops [.a 6 (.mv (.c (.f (.v (.bool false)))))])
         .ret)
         .skip))
       (.seq (.ops [.a 12 (.mv (.c (.f (.v (.bool false)))))])
       (.seq (.ops ([.a 68 (.mv (.t 7)),
 .a 69 (.mv (.t 10)),
 .a 70 (.call (.c (.fn 18 [])) [(.t 68), (.t 69)])] ++
 ([.a 13 (.mv (.t 70))])))
       (.seq (.seq (.ops [.a 14 (.mv (.c (.f (.v (.int .i64 0)))))])
        (.block 2 (.loop
          (.seq (.seq (.ops [.a 71 (.mv (.t 14)),
 .a 72 (.mv (.t 13)),
 .a 73 (.slen (.t 72)),
 .a 74 (.bin .lss (.t 71) (.t 73))])
           (.cond (.t 74)
            .skip
            (.exit 2)))
          (.seq (.block 3 (.drw [.a 77 (.mv (.t 12)),
              .a 78 (.mv (.t 77)),
              .g (some 79) (.mv (.t 13)) 78 false,
              .g (some 80) (.mv (.t 14)) 78 false,
              .g (some 81) (.idx 1 (.t 79) (.t 80)) 78 false,
              .g (some 82) (.load1 (.t 81)) 78 false,
              .g (some 83) (.mv (.t 8)) 78 false,
              .g (some 84) (.mv (.t 11)) 78 false,
              .g (some 85) (.idx 1 (.t 83) (.t 84)) 78 false,
              .g (some 86) (.load1 (.t 85)) 78 false,
              .g (some 87) (.bin .eql (.t 82) (.t 86)) 78 false,
              .a 88 (.pick (.t 78) (.c (.f (.v (.bool true)))) (.t 87)),
              .a 12 (.mv (.t 88))] [0, 1, 3, 3, 15, 31, 3, 3, 195, 451, 1023, 2047, 4095]))
          (.ops [.a 75 (.mv (.t 14)),
 .a 76 (.bin .add (.t 75) (.c (.f (.v (.int .i64 1))))),
 .a 14 (.mv (.t 76))]))))))
       (.seq (.seq (.drw [.a 89 (.mv (.t 12)),
           .a 90 (.unot (.t 89)),
           .a 91 (.mv (.t 90)),
           .g (some 92) (.mv (.t 13)) 91 false,
           .g (some 93) (.idx 1 (.t 92) (.c (.f (.v (.int .i64 0))))) 91 false,
           .g (some 94) (.load1 (.t 93)) 91 false,
           .g (some 95) (.mv (.t 8)) 91 false,
           .g (some 96) (.mv (.t 11)) 91 false,
           .g (some 97) (.idx 1 (.t 95) (.t 96)) 91 false,
           .g (some 98) (.load1 (.t 97)) 91 false,
           .g (some 99) (.bin .neq (.t 94) (.t 98)) 91 false,
           .a 100 (.pick (.t 91) (.c (.f (.v (.bool true)))) (.t 99))] [0, 1, 3, 7, 15, 31, 7, 7, 199, 455, 1023, 2047])
        (.cond (.t 100)
         (.seq (.ops [.a 6 (.mv (.c (.f (.v (.bool false)))))])
         .ret)
         .skip))
       (.ops [.a 101 (.mv (.t 10)),
 .a 102 (.mv (.t 8)),
 .a 103 (.mv (.t 11)),
 .a 104 (.idx 1 (.t 102) (.t 103)),
 .a 105 (.load1 (.t 104)),
 .a 106 (.idx 1 (.t 101) (.t 105)),
 .n (.store 1 (.t 106) (.c (.f (.v (.bool true)))))])))))))
     (.ops [.a 43 (.mv (.t 11)),
 .a 44 (.bin .add (.t 43) (.c (.f (.v (.int .i64 1))))),
 .a 11 (.mv (.t 44))]))))))
  (.seq (.ops ([.a 107 (.mv (.t 8)),
 .a 108 (.slen (.t 107)),
 .a 109 (.mv (.t 7)),
 .a 110 (.slen (.t 109)),
 .a 111 (.bin .eql (.t 108) (.t 110))] ++
 ([.a 112 (.mv (.t 111)),
 .g (some 113) (.mv (.t 7)) 112 true] ++
 ([.g (some 114) (.mv (.t 10)) 112 true,
 .g (some 115) (.call (.c (.fn 18 [])) [(.t 113), (.t 114)]) 112 true] ++
 ([.g (some 116) (.slen (.t 115)) 112 true,
 .g (some 117) (.bin .eql (.t 116) (.c (.f (.v (.int .i64 0))))) 112 true] ++
 ([.a 118 (.pick (.t 112) (.t 117) (.c (.f (.v (.bool false))))),
 .a 6 (.mv (.t 118))]))))))
  .ret)))))))
theorem fn_law_DagOrders : Fn Try.prog 3 119 [.t 6] s_law_DagOrders := ⟨_, _, Try.func3, rfl, rfl, by kernel_rfl, by kernel_rfl⟩

end Go.Proofs.Ytjhemkeilagnnaa.Mir
