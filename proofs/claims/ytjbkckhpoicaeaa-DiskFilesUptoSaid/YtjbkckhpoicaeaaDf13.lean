/- Texts laid into one file: CLawDag, Hand, MirExtD, DiskFK, CLawDiskF. -/
import Derived.Test.YtjbkckhpoicaeaaDf12

/- Functions of the program, told without it. -/
namespace Go.Proofs.Ytjbkckhpoicaeaa.Mir
open Go Go.RowKit

/-- cutover.cutoverhand.Pick -/
def s_hand_Pick : SCode :=
  (.seq (.ops [.a 4 (.mv (.c (.f (.v (.int .i64 0)))))])
  (.seq (.ops [.a 5 (.mv (.t 0)),
 .a 6 (.mv (.t 1)),
 .a 7 (.bin .rem (.t 5) (.t 6)),
 .a 0 (.mv (.t 7))])
  (.seq (.seq (.ops [.a 8 (.mv (.t 0)),
 .a 9 (.bin .lss (.t 8) (.c (.f (.v (.int .i64 0)))))])
   (.cond (.t 9)
    (.ops [.a 10 (.mv (.t 0)),
 .a 11 (.mv (.t 1)),
 .a 12 (.bin .add (.t 10) (.t 11)),
 .a 0 (.mv (.t 12))])
    .skip))
  (.seq (.ops [.a 13 (.mv (.t 0)),
 .a 4 (.mv (.t 13))])
  .ret))))
theorem fn_hand_Pick : Fn Try.prog 10 14 [.t 4] s_hand_Pick := ⟨_, _, Try.func10, rfl, rfl, by kernel_rfl, by kernel_rfl⟩

/-- cutover.cutoverhand.Defs -/
def s_hand_Defs : SCode :=
  (.seq (.ops [.a 4 (.mv (.c (.f (.v (.slice none 0 0)))))])
  (.seq (.ops [.a 5 (.mv (.c (.f (.v (.slice none 0 0)))))])
  (.seq (.seq (.ops [.a 6 (.mv (.c (.f (.v (.int .i64 0)))))])
   (.block 0 (.loop
     (.seq (.seq (.ops ([.a 11 (.mv (.t 6)),
 .a 12 (.mv (.t 0)),
 .a 13 (.slen (.t 12)),
 .a 14 (.bin .lss (.t 11) (.t 13))] ++
 ([.a 15 (.mv (.t 14)),
 .g (some 16) (.mv (.t 6)) 15 true] ++
 ([.g (some 17) (.bin .lss (.t 16) (.c (.f (.v (.int .i64 6))))) 15 true] ++
 ([.a 18 (.pick (.t 15) (.t 17) (.c (.f (.v (.bool false)))))])))))
      (.cond (.t 18)
       .skip
       (.exit 0)))
     (.seq (.block 1 (.seq (.drw [.a 21 (.mv (.t 0)),
          .a 22 (.mv (.t 6)),
          .a 23 (.idx 3 (.t 21) (.t 22)),
          .a 24 (.off 0 (.t 23)),
          .a 25 (.load1 (.t 24)),
          .a 26 (.call (.c (.fn 10 [])) [(.t 25), (.c (.f (.v (.int .i64 3))))]),
          .a 27 (.bin .add (.c (.f (.v (.int .i64 1)))) (.t 26)),
          .a 28 (.mv (.t 0)),
          .a 29 (.mv (.t 6)),
          .a 30 (.idx 3 (.t 28) (.t 29)),
          .a 31 (.off 1 (.t 30)),
          .a 32 (.load1 (.t 31)),
          .a 33 (.call (.c (.fn 10 [])) [(.t 32), (.c (.f (.v (.int .i64 9))))]),
          .a 34 (.bin .add (.c (.f (.v (.int .i64 1)))) (.t 33)),
          .a 35 (.bld [(.f (.v (.slice none 0 0))), (.f (.v (.int .i64 0))), (.f (.v (.int .i64 0)))] [(1, 1, (.t 27)), (2, 1, (.t 34))]),
          .a 7 (.alloc 30 [(.f (.v (.slice none 0 0))), (.f (.v (.int .i64 0))), (.f (.v (.int .i64 0)))]),
          .n (.store 3 (.t 7) (.t 35))] [0, 0, 3, 7, 15, 31, 63, 0, 0, 384, 896, 1920, 4031, 8127, 16383, 0, 65535])
       (.seq (.seq (.ops [.a 8 (.mv (.c (.f (.v (.int .i64 0)))))])
        (.block 2 (.loop
          (.seq (.seq (.ops [.a 36 (.mv (.t 8)),
 .a 37 (.mv (.t 6)),
 .a 38 (.bin .lss (.t 36) (.t 37))])
           (.cond (.t 38)
            .skip
            (.exit 2)))
          (.seq (.block 3 (.seq (.ops [.a 9 (.mv (.c (.f (.v (.int .i64 0)))))])
            (.block 4 (.loop
              (.seq (.seq (.ops ([.a 41 (.mv (.t 9)),
 .a 42 (.mv (.t 0)),
 .a 43 (.mv (.t 6)),
 .a 44 (.idx 3 (.t 42) (.t 43)),
 .a 45 (.off 2 (.t 44)),
 .a 46 (.load1 (.t 45)),
 .a 47 (.slen (.t 46)),
 .a 48 (.bin .lss (.t 41) (.t 47))] ++
 ([.a 49 (.mv (.t 48)),
 .g (some 50) (.mv (.t 9)) 49 true] ++
 ([.g (some 51) (.bin .lss (.t 50) (.c (.f (.v (.int .i64 3))))) 49 true] ++
 ([.a 52 (.pick (.t 49) (.t 51) (.c (.f (.v (.bool false)))))])))))
               (.cond (.t 52)
                .skip
                (.exit 4)))
              (.seq (.block 5 (.seq (.ops ([.a 55 (.mv (.t 0)),
 .a 56 (.mv (.t 6)),
 .a 57 (.idx 3 (.t 55) (.t 56)),
 .a 58 (.off 2 (.t 57)),
 .a 59 (.load1 (.t 58)),
 .a 60 (.mv (.t 9)),
 .a 61 (.idx 1 (.t 59) (.t 60)),
 .a 62 (.load1 (.t 61)),
 .a 63 (.mv (.t 6)),
 .a 64 (.call (.c (.fn 10 [])) [(.t 62), (.t 63)])] ++
 ([.a 65 (.mv (.t 8)),
 .a 66 (.bin .eql (.t 64) (.t 65))] ++
 ([.a 67 (.mv (.t 66)),
 .g (some 68) (.off 0 (.t 7)) 67 true] ++
 ([.g (some 69) (.load1 (.t 68)) 67 true,
 .g (some 70) (.slen (.t 69)) 67 true,
 .g (some 71) (.bin .eql (.t 70) (.c (.f (.v (.int .i64 0))))) 67 true] ++
 ([.g (some 72) (.mv (.t 71)) 67 true,
 .g (some 73) (.off 0 (.t 7)) 72 false] ++
 ([.g (some 74) (.load1 (.t 73)) 72 false,
 .g (some 75) (.off 0 (.t 7)) 72 false,
 .g (some 76) (.load1 (.t 75)) 72 false,
 .g (some 77) (.slen (.t 76)) 72 false,
 .g (some 78) (.bin .sub (.t 77) (.c (.f (.v (.int .i64 1))))) 72 false,
 .g (some 79) (.idx 1 (.t 74) (.t 78)) 72 false,
 .g (some 80) (.load1 (.t 79)) 72 false,
 .g (some 81) (.mv (.t 8)) 72 false,
 .g (some 82) (.bin .lss (.t 80) (.t 81)) 72 false] ++
 ([.g (some 83) (.pick (.t 72) (.c (.f (.v (.bool true)))) (.t 82)) 67 true] ++
 ([.a 84 (.pick (.t 67) (.t 83) (.c (.f (.v (.bool false)))))])))))))))
                (.cond (.t 84)
                 (.ops ([.a 85 (.off 0 (.t 7)),
 .a 86 (.load1 (.t 85)),
 .a 87 (.mv (.t 8)),
 .a 88 (.bsl 3 1 1 [(.f (.v (.int .i64 0)))] [(0, (.t 87))]),
 .a 89 (.app 3 1 8 (.t 86) (.t 88))] ++
 ([.a 90 (.off 0 (.t 7)),
 .n (.store 1 (.t 90) (.t 89))])))
                 .skip)))
              (.ops [.a 53 (.mv (.t 9)),
 .a 54 (.bin .add (.t 53) (.c (.f (.v (.int .i64 1))))),
 .a 9 (.mv (.t 54))])))))))
          (.ops [.a 39 (.mv (.t 8)),
 .a 40 (.bin .add (.t 39) (.c (.f (.v (.int .i64 1))))),
 .a 8 (.mv (.t 40))]))))))
       (.ops ([.a 91 (.mv (.t 5)),
 .a 92 (.loadA 3 (.t 7)),
 .a 93 (.bsl 30 3 1 [(.f (.v (.slice none 0 0))), (.f (.v (.int .i64 0))), (.f (.v (.int .i64 0)))] [(0, (.t 92))]),
 .a 94 (.app 30 3 40 (.t 91) (.t 93))] ++
 ([.a 5 (.mv (.t 94))]))))))
     (.ops [.a 19 (.mv (.t 6)),
 .a 20 (.bin .add (.t 19) (.c (.f (.v (.int .i64 1))))),
 .a 6 (.mv (.t 20))]))))))
  (.seq (.seq (.ops [.a 95 (.mv (.t 5)),
 .a 96 (.slen (.t 95)),
 .a 97 (.bin .eql (.t 96) (.c (.f (.v (.int .i64 0)))))])
   (.cond (.t 97)
    (.ops [.a 98 (.bld [(.f (.v (.slice none 0 0))), (.f (.v (.int .i64 0))), (.f (.v (.int .i64 0)))] [(1, 1, (.c (.f (.v (.int .i64 1))))), (2, 1, (.c (.f (.v (.int .i64 5)))))]),
 .a 99 (.bsl 30 3 1 [(.f (.v (.slice none 0 0))), (.f (.v (.int .i64 0))), (.f (.v (.int .i64 0)))] [(0, (.t 98))]),
 .a 5 (.mv (.t 99))])
    .skip))
  (.seq (.ops ([.a 100 (.mv (.t 1)),
 .a 101 (.bin .quo (.t 100) (.c (.f (.v (.int .i64 20))))),
 .a 102 (.mv (.t 5)),
 .a 103 (.slen (.t 102)),
 .a 104 (.call (.c (.fn 10 [])) [(.t 101), (.t 103)])] ++
 ([.a 10 (.mv (.t 104))])))
  (.seq (.seq (.ops [.a 105 (.mv (.t 1)),
 .a 106 (.call (.c (.fn 10 [])) [(.t 105), (.c (.f (.v (.int .i64 20))))])])
   (.block 6 (.seq (.ops ([.a 108 (.bin .eql (.t 106) (.c (.f (.v (.int .i64 0)))))] ++
 ([.a 107 (.mv (.t 108))])))
    (.cond (.t 107)
     (.ops [.a 109 (.mv (.t 5)),
 .a 110 (.mv (.t 10)),
 .a 111 (.mv (.t 10)),
 .a 112 (.bsl 3 1 1 [(.f (.v (.int .i64 0)))] [(0, (.t 111))]),
 .a 113 (.idx 3 (.t 109) (.t 110)),
 .a 114 (.off 0 (.t 113)),
 .n (.store 1 (.t 114) (.t 112))])
     (.seq (.ops ([.a 116 (.bin .eql (.t 106) (.c (.f (.v (.int .i64 1)))))] ++
 ([.a 115 (.mv (.t 116))])))
     (.cond (.t 115)
      (.ops [.a 117 (.mv (.t 5)),
 .a 118 (.mv (.t 5)),
 .a 119 (.slen (.t 118)),
 .a 120 (.bin .sub (.t 119) (.c (.f (.v (.int .i64 1))))),
 .a 121 (.bsl 3 1 1 [(.f (.v (.int .i64 0)))] [(0, (.t 120))]),
 .a 122 (.idx 3 (.t 117) (.c (.f (.v (.int .i64 0))))),
 .a 123 (.off 0 (.t 122)),
 .n (.store 1 (.t 123) (.t 121))])
      (.seq (.ops ([.a 125 (.bin .eql (.t 106) (.c (.f (.v (.int .i64 2)))))] ++
 ([.a 124 (.mv (.t 125))])))
      (.cond (.t 124)
       (.ops ([.a 126 (.mv (.t 5)),
 .a 127 (.mv (.t 10)),
 .a 128 (.mv (.t 1)),
 .a 129 (.bin .quo (.t 128) (.c (.f (.v (.int .i64 60))))),
 .a 130 (.call (.c (.fn 10 [])) [(.t 129), (.c (.f (.v (.int .i64 9))))])] ++
 ([.a 131 (.bin .sub (.t 130) (.c (.f (.v (.int .i64 1))))),
 .a 132 (.idx 3 (.t 126) (.t 127)),
 .a 133 (.off 1 (.t 132)),
 .n (.store 1 (.t 133) (.t 131))])))
       (.seq (.ops ([.a 135 (.bin .eql (.t 106) (.c (.f (.v (.int .i64 3)))))] ++
 ([.a 134 (.mv (.t 135))])))
       (.cond (.t 134)
        (.ops ([.a 136 (.mv (.t 5)),
 .a 137 (.mv (.t 10)),
 .a 138 (.mv (.t 1)),
 .a 139 (.bin .quo (.t 138) (.c (.f (.v (.int .i64 60))))),
 .a 140 (.call (.c (.fn 10 [])) [(.t 139), (.c (.f (.v (.int .i64 9))))])] ++
 ([.a 141 (.bsl 3 1 1 [(.f (.v (.int .i64 0)))] [(0, (.t 140))]),
 .a 142 (.idx 3 (.t 136) (.t 137)),
 .a 143 (.off 0 (.t 142)),
 .n (.store 1 (.t 143) (.t 141))])))
        (.seq (.ops ([.a 145 (.bin .eql (.t 106) (.c (.f (.v (.int .i64 4)))))] ++
 ([.a 144 (.mv (.t 145))])))
        (.cond (.t 144)
         (.ops [.a 146 (.mv (.t 5)),
 .a 147 (.mv (.t 10)),
 .a 148 (.idx 3 (.t 146) (.t 147)),
 .a 149 (.off 2 (.t 148)),
 .n (.store 1 (.t 149) (.c (.f (.v (.int .i64 0)))))])
         (.seq (.ops ([.a 151 (.bin .eql (.t 106) (.c (.f (.v (.int .i64 5)))))] ++
 ([.a 150 (.mv (.t 151))])))
         (.cond (.t 150)
          (.ops [.a 152 (.mv (.t 5)),
 .a 153 (.mv (.t 10)),
 .a 154 (.bsl 3 1 2 [(.f (.v (.int .i64 0))), (.f (.v (.int .i64 0)))] [(0, (.c (.f (.v (.int .i64 1))))), (1, (.c (.f (.v (.int .i64 0)))))]),
 .a 155 (.idx 3 (.t 152) (.t 153)),
 .a 156 (.off 0 (.t 155)),
 .n (.store 1 (.t 156) (.t 154))])
          .skip))))))))))))))
  (.seq (.ops [.a 157 (.mv (.t 5)),
 .a 4 (.mv (.t 157))])
  .ret)))))))
theorem fn_hand_Defs : Fn Try.prog 7 158 [.t 4] s_hand_Defs := ⟨_, _, Try.func7, rfl, rfl, by kernel_rfl, by kernel_rfl⟩

/-- cutover.cutoverlaw11.raw -/
def s_law_raw : SCode :=
  (.seq (.ops [.a 6 (.mv (.c (.f (.v (.slice none 0 0)))))])
  (.seq (.seq (.ops [.a 12 (.mv (.t 2)),
 .a 13 (.unot (.t 12))])
   (.cond (.t 13)
    (.seq (.ops ([.a 14 (.mv (.t 0)),
 .a 15 (.mv (.t 1)),
 .a 16 (.call (.c (.fn 7 [])) [(.t 14), (.t 15)])] ++
 ([.a 6 (.mv (.t 16))])))
    .ret)
    .skip))
  (.seq (.ops [.a 7 (.mv (.c (.f (.v (.slice none 0 0)))))])
  (.seq (.seq (.ops [.a 8 (.mv (.c (.f (.v (.int .i64 0)))))])
   (.block 0 (.loop
     (.seq (.seq (.ops ([.a 17 (.mv (.t 8)),
 .a 18 (.mv (.t 0)),
 .a 19 (.slen (.t 18)),
 .a 20 (.bin .lss (.t 17) (.t 19))] ++
 ([.a 21 (.mv (.t 20)),
 .g (some 22) (.mv (.t 8)) 21 true] ++
 ([.g (some 23) (.bin .lss (.t 22) (.c (.f (.v (.int .i64 9))))) 21 true] ++
 ([.a 24 (.pick (.t 21) (.t 23) (.c (.f (.v (.bool false)))))])))))
      (.cond (.t 24)
       .skip
       (.exit 0)))
     (.seq (.block 1 (.seq (.drw [.a 27 (.mv (.t 0)),
          .a 28 (.mv (.t 8)),
          .a 29 (.idx 3 (.t 27) (.t 28)),
          .a 30 (.off 0 (.t 29)),
          .a 31 (.load1 (.t 30)),
          .a 32 (.call (.c (.fn 10 [])) [(.t 31), (.c (.f (.v (.int .i64 5))))]),
          .a 33 (.bin .add (.c (.f (.v (.int .i64 1)))) (.t 32)),
          .a 34 (.mv (.t 0)),
          .a 35 (.mv (.t 8)),
          .a 36 (.idx 3 (.t 34) (.t 35)),
          .a 37 (.off 1 (.t 36)),
          .a 38 (.load1 (.t 37)),
          .a 39 (.call (.c (.fn 10 [])) [(.t 38), (.c (.f (.v (.int .i64 9))))]),
          .a 40 (.bin .add (.c (.f (.v (.int .i64 1)))) (.t 39)),
          .a 41 (.bld [(.f (.v (.slice none 0 0))), (.f (.v (.int .i64 0))), (.f (.v (.int .i64 0)))] [(1, 1, (.t 33)), (2, 1, (.t 40))]),
          .a 9 (.alloc 30 [(.f (.v (.slice none 0 0))), (.f (.v (.int .i64 0))), (.f (.v (.int .i64 0)))]),
          .n (.store 3 (.t 9) (.t 41))] [0, 0, 3, 7, 15, 31, 63, 0, 0, 384, 896, 1920, 4031, 8127, 16383, 0, 65535])
       (.seq (.seq (.ops [.a 10 (.mv (.c (.f (.v (.int .i64 0)))))])
        (.block 2 (.loop
          (.seq (.seq (.ops [.a 42 (.mv (.t 10)),
 .a 43 (.mv (.t 0)),
 .a 44 (.slen (.t 43)),
 .a 45 (.mm false (.t 44) (.c (.f (.v (.int .i64 9))))),
 .a 46 (.bin .lss (.t 42) (.t 45))])
           (.cond (.t 46)
            .skip
            (.exit 2)))
          (.seq (.block 3 (.seq (.ops [.a 11 (.mv (.c (.f (.v (.int .i64 0)))))])
            (.block 4 (.loop
              (.seq (.seq (.ops ([.a 49 (.mv (.t 11)),
 .a 50 (.mv (.t 0)),
 .a 51 (.mv (.t 8)),
 .a 52 (.idx 3 (.t 50) (.t 51)),
 .a 53 (.off 2 (.t 52)),
 .a 54 (.load1 (.t 53)),
 .a 55 (.slen (.t 54)),
 .a 56 (.bin .lss (.t 49) (.t 55))] ++
 ([.a 57 (.mv (.t 56)),
 .g (some 58) (.mv (.t 11)) 57 true] ++
 ([.g (some 59) (.bin .lss (.t 58) (.c (.f (.v (.int .i64 2))))) 57 true] ++
 ([.a 60 (.pick (.t 57) (.t 59) (.c (.f (.v (.bool false)))))])))))
               (.cond (.t 60)
                .skip
                (.exit 4)))
              (.seq (.block 5 (.seq (.ops ([.a 63 (.mv (.t 0)),
 .a 64 (.mv (.t 8)),
 .a 65 (.idx 3 (.t 63) (.t 64)),
 .a 66 (.off 2 (.t 65)),
 .a 67 (.load1 (.t 66)),
 .a 68 (.mv (.t 11)),
 .a 69 (.idx 1 (.t 67) (.t 68)),
 .a 70 (.load1 (.t 69)),
 .a 71 (.call (.c (.fn 10 [])) [(.t 70), (.c (.f (.v (.int .i64 9))))])] ++
 ([.a 72 (.mv (.t 10)),
 .a 73 (.bin .eql (.t 71) (.t 72))] ++
 ([.a 74 (.mv (.t 73)),
 .g (some 75) (.off 0 (.t 9)) 74 true] ++
 ([.g (some 76) (.load1 (.t 75)) 74 true,
 .g (some 77) (.slen (.t 76)) 74 true,
 .g (some 78) (.bin .eql (.t 77) (.c (.f (.v (.int .i64 0))))) 74 true] ++
 ([.g (some 79) (.mv (.t 78)) 74 true,
 .g (some 80) (.off 0 (.t 9)) 79 false] ++
 ([.g (some 81) (.load1 (.t 80)) 79 false,
 .g (some 82) (.off 0 (.t 9)) 79 false,
 .g (some 83) (.load1 (.t 82)) 79 false,
 .g (some 84) (.slen (.t 83)) 79 false,
 .g (some 85) (.bin .sub (.t 84) (.c (.f (.v (.int .i64 1))))) 79 false,
 .g (some 86) (.idx 1 (.t 81) (.t 85)) 79 false,
 .g (some 87) (.load1 (.t 86)) 79 false,
 .g (some 88) (.mv (.t 10)) 79 false,
 .g (some 89) (.bin .lss (.t 87) (.t 88)) 79 false] ++
 ([.g (some 90) (.pick (.t 79) (.c (.f (.v (.bool true)))) (.t 89)) 74 true] ++
 ([.a 91 (.pick (.t 74) (.t 90) (.c (.f (.v (.bool false)))))])))))))))
                (.cond (.t 91)
                 (.ops ([.a 92 (.off 0 (.t 9)),
 .a 93 (.load1 (.t 92)),
 .a 94 (.mv (.t 10)),
 .a 95 (.bsl 3 1 1 [(.f (.v (.int .i64 0)))] [(0, (.t 94))]),
 .a 96 (.app 3 1 8 (.t 93) (.t 95))] ++
 ([.a 97 (.off 0 (.t 9)),
 .n (.store 1 (.t 97) (.t 96))])))
                 .skip)))
              (.ops [.a 61 (.mv (.t 11)),
 .a 62 (.bin .add (.t 61) (.c (.f (.v (.int .i64 1))))),
 .a 11 (.mv (.t 62))])))))))
          (.ops [.a 47 (.mv (.t 10)),
 .a 48 (.bin .add (.t 47) (.c (.f (.v (.int .i64 1))))),
 .a 10 (.mv (.t 48))]))))))
       (.ops ([.a 98 (.mv (.t 7)),
 .a 99 (.loadA 3 (.t 9)),
 .a 100 (.bsl 30 3 1 [(.f (.v (.slice none 0 0))), (.f (.v (.int .i64 0))), (.f (.v (.int .i64 0)))] [(0, (.t 99))]),
 .a 101 (.app 30 3 40 (.t 98) (.t 100))] ++
 ([.a 7 (.mv (.t 101))]))))))
     (.ops [.a 25 (.mv (.t 8)),
 .a 26 (.bin .add (.t 25) (.c (.f (.v (.int .i64 1))))),
 .a 8 (.mv (.t 26))]))))))
  (.seq (.ops [.a 102 (.mv (.t 7)),
 .a 6 (.mv (.t 102))])
  .ret)))))
theorem fn_law_raw : Fn Try.prog 34 103 [.t 6] s_law_raw := ⟨_, _, Try.func34, rfl, rfl, by kernel_rfl, by kernel_rfl⟩

/-- cutover.cutoverlaw11.known -/
def s_law_known : SCode :=
  (.seq (.ops [.a 0 (.mv (.c (.f (.v (.bool false)))))])
  (.seq (.ops ([.a 4 (.bsl 3 1 1 [(.f (.v (.int .i64 0)))] [(0, (.c (.f (.v (.int .i64 1)))))]),
 .a 5 (.bld [(.f (.v (.slice none 0 0))), (.f (.v (.int .i64 0))), (.f (.v (.int .i64 0)))] [(1, 1, (.c (.f (.v (.int .i64 1))))), (2, 1, (.c (.f (.v (.int .i64 1))))), (0, 1, (.t 4))]),
 .a 6 (.bld [(.f (.v (.slice none 0 0))), (.f (.v (.int .i64 0))), (.f (.v (.int .i64 0)))] [(1, 1, (.c (.f (.v (.int .i64 1))))), (2, 1, (.c (.f (.v (.int .i64 1)))))]),
 .a 7 (.bsl 30 3 2 [(.f (.v (.slice none 0 0))), (.f (.v (.int .i64 0))), (.f (.v (.int .i64 0))), (.f (.v (.slice none 0 0))), (.f (.v (.int .i64 0))), (.f (.v (.int .i64 0)))] [(0, (.t 5)), (3, (.t 6))]),
 .a 8 (.call (.c (.fn 11 [])) [(.t 7)])] ++
 ([.a 3 (.mv (.t 8)),
 .a 9 (.ext 0 (.t 3)),
 .a 10 (.ext 1 (.t 3)),
 .a 1 (.mv (.t 9)),
 .a 2 (.mv (.t 10))])))
  (.seq (.ops ([.a 11 (.mv (.t 2)),
 .a 12 (.mv (.t 11)),
 .g (some 13) (.mv (.t 1)) 12 true] ++
 ([.g (some 14) (.bsl 3 1 2 [(.f (.v (.int .i64 0))), (.f (.v (.int .i64 0)))] [(0, (.c (.f (.v (.int .i64 1))))), (1, (.c (.f (.v (.int .i64 0)))))]) 12 true,
 .g (some 15) (.call (.c (.fn 37 [])) [(.t 13), (.t 14)]) 12 true] ++
 ([.a 16 (.pick (.t 12) (.t 15) (.c (.f (.v (.bool false))))),
 .a 0 (.mv (.t 16))]))))
  .ret)))
theorem fn_law_known : Fn Try.prog 8 17 [.t 0] s_law_known := ⟨_, _, Try.func8, rfl, rfl, by kernel_rfl, by kernel_rfl⟩

/-- cutover.cutoverref8.SameInts -/
def s_ref_SameInts : SCode :=
  (.seq (.ops [.a 4 (.mv (.c (.f (.v (.bool false)))))])
  (.seq (.seq (.ops [.a 6 (.mv (.t 0)),
 .a 7 (.slen (.t 6)),
 .a 8 (.mv (.t 1)),
 .a 9 (.slen (.t 8)),
 .a 10 (.bin .neq (.t 7) (.t 9))])
   (.cond (.t 10)
    (.seq (.ops [.a 4 (.mv (.c (.f (.v (.bool false)))))])
    .ret)
    .skip))
  (.seq (.seq (.ops [.a 5 (.mv (.c (.f (.v (.int .i64 0)))))])
   (.block 0 (.loop
     (.seq (.seq (.ops [.a 11 (.mv (.t 5)),
 .a 12 (.mv (.t 0)),
 .a 13 (.slen (.t 12)),
 .a 14 (.bin .lss (.t 11) (.t 13))])
      (.cond (.t 14)
       .skip
       (.exit 0)))
     (.seq (.block 1 (.seq (.drw [.a 17 (.mv (.t 0)),
          .a 18 (.mv (.t 5)),
          .a 19 (.idx 1 (.t 17) (.t 18)),
          .a 20 (.load1 (.t 19)),
          .a 21 (.mv (.t 1)),
          .a 22 (.mv (.t 5)),
          .a 23 (.idx 1 (.t 21) (.t 22)),
          .a 24 (.load1 (.t 23)),
          .a 25 (.bin .neq (.t 20) (.t 24))] [0, 0, 3, 7, 0, 0, 48, 112, 255])
       (.cond (.t 25)
        (.seq (.ops [.a 4 (.mv (.c (.f (.v (.bool false)))))])
        .ret)
        .skip)))
     (.ops [.a 15 (.mv (.t 5)),
 .a 16 (.bin .add (.t 15) (.c (.f (.v (.int .i64 1))))),
 .a 5 (.mv (.t 16))]))))))
  (.seq (.ops [.a 4 (.mv (.c (.f (.v (.bool true)))))])
  .ret))))
theorem fn_ref_SameInts : Fn Try.prog 37 26 [.t 4] s_ref_SameInts := ⟨_, _, Try.func37, rfl, rfl, by kernel_rfl, by kernel_rfl⟩

end Go.Proofs.Ytjbkckhpoicaeaa.Mir

/- The hand's Pick; contracts out of runs. -/
namespace Go.Proofs.Ytjbkckhpoicaeaa.Mir
open Go Go.RowKit
set_option linter.unusedVariables false
set_option linter.unusedSimpArgs false
set_option maxHeartbeats 2000000

def pick (x n : Int) : Int := if x.tmod n < 0 then x.tmod n + n else x.tmod n
theorem tmod_lt {x n : Int} (hn : 0 < n) : x.tmod n < n := Int.tmod_lt_of_pos x hn
theorem tmod_gt {x n : Int} (hn : 0 < n) : -n < x.tmod n := by
  have := Int.tmod_lt_of_pos (-x) hn
  rw [Int.neg_tmod] at this; omega
theorem pick_in {x n : Int} (hn : 0 < n) : 0 ≤ pick x n ∧ pick x n < n := by
  have h1 := tmod_lt (x := x) hn
  have h2 := tmod_gt (x := x) hn
  unfold pick; split <;> omega
theorem c_hand_Pick (x n : Int) (hn : 0 < n) (hn2 : n ≤ 1000000) : Con Try.prog 10 [D.int x, D.int n] [] fun r H' => r = D.int (pick x n) ∧ H' = [] := by
  have h1 := tmod_lt (x := x) hn
  have h2 := tmod_gt (x := x) hn
  refine Con.walk good fn_hand_Pick (by simp) ?_
  unfold s_hand_Pick
  simp only [argsE, List.length_cons, List.length_nil, Nat.reduceAdd]
  repeat' (first | (with_reducible refine HS.seq ?_) | (with_reducible refine HS.opsK good (fun K hK => ?_)) | (with_reducible refine wpS_app (fun K hK => ?_)) | ((with_reducible refine hK _ ?_); clear hK K) | (with_reducible refine HS.drw good (fun K hK => ?_)) | ((with_reducible refine And.intro (Chk.mk' ?_) ?_); kernel_rfl) | (with_reducible refine HS.block ?_) | ((with_reducible refine HS.cond1 ?_ ?_); rfl) | ((with_reducible refine HS.cond0 ?_ ?_); rfl) | ((with_reducible apply HS.condB) <;> first | rfl | (with_reducible intro h)) | (with_reducible refine HS.exit ?_) | (with_reducible refine HS.ret ?_) | (with_reducible refine HS.skip ?_) | (with_reducible first | refine thenQ_n ?_ | refine blockQ_n ?_ | refine thenQ_r ?_ | refine blockQ_r ?_ | refine thenQ_x ?_ | refine blockQ_hit ?_ | refine endS_r ?_ | refine endS_n ?_) | ((with_reducible refine blockQ_miss ?_ ?_); rfl) | (with_reducible refine Two.mk' (fun h => ?_) (fun h => ?_) <;> try (exfalso; omega)) | ((with_reducible refine Bsel.mk' (fun h => ?_) (fun h => ?_)) <;> (try simp only [h])) | ((fail_if_success (with_reducible first | refine isHS ?_ | refine isRet ?_ | refine isCall ?_ | refine isNext ?_ | refine isNextP ?_ | refine isThen ?_ | refine isBlock ?_ | refine isOut ?_ | refine isOutN ?_)); simp (disch := omega) only [↓LD, LU, loadA_rf, wpS_nil, wpS_a, wpS_n, wpS_g, ↓Bsel_true, ↓Bsel_false, frm_get, frm_getD, frm_set, look_cons, look_nil, List.set_cons_succ, List.set_cons_zero, List.getElem?_cons_succ, List.getElem?_cons_zero, ↓bind'_some, ↓Two_true, ↓Two_false, List.length_cons, List.length_nil, List.cons_append, List.nil_append, List.map_cons, List.map_nil, List.take_succ_cons, List.take_zero, List.drop_succ_cons, List.drop_zero, Option.map_some, Option.map_none, ↓reduceIte, Nat.reduceAdd, Nat.reduceMul, Nat.reduceSub, Nat.reduceLeDiff, Nat.reduceLT, Nat.reduceEqDiff, Nat.add_zero, Nat.zero_add, Nat.mul_one, Int.toNat_natCast, Nat.mul_zero, Nat.zero_mul, true_and, and_true, reduceCtorEq, Int.reduceNeg, Int.reduceLT, Int.reduceLE, Int.reduceEq, Int.reduceToNat, wrap_in, List.getElem?_drop, List.getElem?_map, List.length_map, if_some, most_eq, set_map_b, app_map_i, getElem?_some_of, Int.natCast_nonneg, Bool.false_eq_true, decide_true, decide_false, Bool.not_true, Bool.not_false, and_self, eq_self, false_implies, or_self, Bool.and_self, false_or, or_false, Bool.false_and, Bool.true_beq, Bool.false_beq]) | ((with_reducible refine And.intro ?_ ?_); omega) | ((fail_if_success (with_reducible first | refine isHS ?_ | refine isRet ?_ | refine isCall ?_ | refine isNext ?_ | refine isNextP ?_ | refine isThen ?_ | refine isBlock ?_ | refine isOut ?_ | refine isOutN ?_)); (simp only [D.int, D.bool])))
  · refine end1 rfl rfl (by kernel_rfl) .f ⟨congrArg D.int ?_, rfl⟩
    rw [pick, if_pos h]
  · refine end1 rfl rfl (by kernel_rfl) .f ⟨congrArg D.int ?_, rfl⟩
    rw [pick, if_neg h]

/-- A run tells a contract. -/
theorem Con.run {P : Program} (hP : Good P) {ext : Ext} (hext : ∀ f g, ext f = some g → Sound P f g) {n : Nat} {f : FuncId} {args : List D} {H : List Row} {e : Eff} (hf : ∃ fn, P.funcs[f]? = some fn ∧ fn.body.isSome = true)
    (h : Mir.run P ext n f args H = some e) : Con P f args H fun r H' => r = e.res ∧ H' = e.heap H :=
  ⟨hf, fun w φ X vs hH ha => (run_ok hP hext n f args H e h w φ X vs hH ha).mono fun _ _ ⟨v, h1, h2⟩ => ⟨v, e.res, e.heap H, h1, ⟨rfl, rfl⟩, LeavesW.of h2⟩⟩
theorem Fn.has {P : Program} {f : FuncId} {n : Nat} {rs : List SR} {c : SCode} (h : Fn P f n rs c) : ∃ fn, P.funcs[f]? = some fn ∧ fn.body.isSome = true := by
  obtain ⟨fn, k, h1, h2, _⟩ := h
  exact ⟨fn, h1, by rw [h2]; rfl⟩
end Go.Proofs.Ytjbkckhpoicaeaa.Mir

/- What is told by hand in the runs of the disk's laws. -/
namespace Go.Proofs.Ytjbkckhpoicaeaa.Mir
open Go Go.RowKit

def extDk : Ext := fun f => match Nat.beq f 52 with
  | true => some (sortedG 68 3 sortI)
  | false => match Nat.beq f 51 with
    | true => some cloneG
    | false => none
theorem extDk_ok : ∀ f g, extDk f = some g → Sound Try.prog f g := by
  intro f g h
  unfold extDk at h
  split at h
  · rename_i hf
    obtain rfl := Nat.eq_of_beq_eq_true hf
    cases h
    exact sortedI_ok
  · split at h
    · rename_i hf
      obtain rfl := Nat.eq_of_beq_eq_true hf
      cases h
      exact clone_ok
    · cases h
end Go.Proofs.Ytjbkckhpoicaeaa.Mir

/- Chapter 5's example. -/
namespace Go.Proofs.Ytjbkckhpoicaeaa.Mir
open Go Go.RowKit

theorem diskEx_run : isTrue (runF Try.prog extDk 60 15 [] []) = true := by kernel_rfl
theorem c_disk_known : Con Try.prog 15 [] [] fun r H' => r = D.bool true ∧ H' = [] :=
  (Con.run good extDk_ok (has_of (by kernel_rfl)) (isTrue_eq (by rw [← runF_eq]; exact diskEx_run))).mono fun _ _ h => h
theorem hd0 : deadN' (-1) false = false := rfl
theorem hf0 : fuseN (-1) false = -1 := rfl
theorem hw0 (k : Int) : worksN (-1) false k = k + 1 := rfl
end Go.Proofs.Ytjbkckhpoicaeaa.Mir

/- Functions of the program, told without it. -/
namespace Go.Proofs.Ytjbkckhpoicaeaa.Mir
open Go Go.RowKit

/-- cutover.cutoverlaw5.DiskFiles -/
def s_law_DiskFiles : SCode :=
  (.seq (.ops [.a 2 (.mv (.c (.f (.v (.bool false)))))])
  (.seq (.ops ([.a 10 (.call (.c (.fn 14 [])) [])] ++
 ([.a 3 (.mv (.t 10))])))
  (.seq (.seq (.ops ([.a 11 (.call (.c (.fn 15 [])) [])] ++
 ([.a 12 (.unot (.t 11)),
 .a 13 (.mv (.t 12)),
 .g (some 14) (.mv (.t 3)) 13 false] ++
 ([.g (some 15) (.nilq true 1 (.t 14) (.c (.f (.v (.pointer none))))) 13 false,
 .a 16 (.pick (.t 13) (.c (.f (.v (.bool true)))) (.t 15))]))))
   (.cond (.t 16)
    (.seq (.ops [.a 2 (.mv (.c (.f (.v (.bool false)))))])
    .ret)
    .skip))
  (.seq (.ops [.a 4 (.alloc 40 [(.f (.v (.string ⟨#[]⟩))), (.f (.v (.string ⟨#[]⟩))), (.f (.v (.string ⟨#[]⟩))), (.f (.v (.string ⟨#[]⟩))), (.f (.v (.string ⟨#[]⟩)))])])
  (.seq (.seq (.ops [.a 5 (.mv (.c (.f (.v (.int .i64 0)))))])
   (.block 0 (.loop
     (.seq (.seq (.ops ([.a 17 (.mv (.t 5)),
 .a 18 (.mv (.t 0)),
 .a 19 (.slen (.t 18)),
 .a 20 (.bin .lss (.t 17) (.t 19))] ++
 ([.a 21 (.mv (.t 20)),
 .g (some 22) (.mv (.t 5)) 21 true] ++
 ([.g (some 23) (.bin .lss (.t 22) (.c (.f (.v (.int .i64 50))))) 21 true] ++
 ([.a 24 (.pick (.t 21) (.t 23) (.c (.f (.v (.bool false)))))])))))
      (.cond (.t 24)
       .skip
       (.exit 0)))
     (.seq (.block 1 (.seq (.ops ([.a 27 (.mv (.t 0)),
 .a 28 (.mv (.t 5)),
 .a 29 (.idx 5 (.t 27) (.t 28)),
 .a 30 (.off 1 (.t 29)),
 .a 31 (.load1 (.t 30)),
 .a 32 (.call (.c (.fn 10 [])) [(.t 31), (.c (.f (.v (.int .i64 5))))])] ++
 ([.a 6 (.mv (.t 32))])))
       (.seq (.seq (.ops ([.a 33 (.mv (.t 0)),
 .a 34 (.mv (.t 5)),
 .a 35 (.idx 5 (.t 33) (.t 34)),
 .a 36 (.off 0 (.t 35)),
 .a 37 (.load1 (.t 36)),
 .a 38 (.call (.c (.fn 10 [])) [(.t 37), (.c (.f (.v (.int .i64 5))))])] ++
 ([.a 39 (.bin .eql (.t 38) (.c (.f (.v (.int .i64 0)))))])))
        (.cond (.t 39)
         (.seq (.ops [.a 40 (.mv (.t 3)),
 .a 41 (.mv (.t 6)),
 .a 42 (.call (.c (.fn 16 [])) [(.t 40), (.t 41)])])
         (.ops [.a 43 (.mv (.t 6)),
 .a 44 (.arr 1 5 (.t 4) (.t 43)),
 .n (.store 1 (.t 44) (.c (.f (.v (.string ⟨#[]⟩)))))]))
         (.seq (.ops [.a 45 (.mv (.t 3)),
 .a 46 (.mv (.t 6)),
 .a 47 (.mv (.t 0)),
 .a 48 (.mv (.t 5)),
 .a 49 (.idx 5 (.t 47) (.t 48)),
 .a 50 (.off 4 (.t 49)),
 .a 51 (.load1 (.t 50)),
 .a 52 (.call (.c (.fn 17 [])) [(.t 45), (.t 46), (.t 51)])])
         (.drw [.a 53 (.mv (.t 6)),
           .a 54 (.mv (.t 6)),
           .a 55 (.arr 1 5 (.t 4) (.t 54)),
           .a 56 (.load1 (.t 55)),
           .a 57 (.mv (.t 0)),
           .a 58 (.mv (.t 5)),
           .a 59 (.idx 5 (.t 57) (.t 58)),
           .a 60 (.off 4 (.t 59)),
           .a 61 (.load1 (.t 60)),
           .a 62 (.b2s (.t 61)),
           .a 63 (.bin .add (.t 56) (.t 62)),
           .a 64 (.arr 1 5 (.t 4) (.t 53)),
           .n (.store 1 (.t 64) (.t 63))] [0, 0, 2, 6, 0, 0, 48, 112, 240, 496, 1022, 2047, 4095]))))
       (.seq (.seq (.ops [.a 65 (.mv (.t 0)),
 .a 66 (.mv (.t 5)),
 .a 67 (.idx 5 (.t 65) (.t 66)),
 .a 68 (.off 2 (.t 67)),
 .a 69 (.load1 (.t 68)),
 .a 70 (.bin .rem (.t 69) (.c (.f (.v (.int .i64 3))))),
 .a 71 (.bin .eql (.t 70) (.c (.f (.v (.int .i64 0)))))])
        (.cond (.t 71)
         (.ops [.a 72 (.mv (.t 3)),
 .a 73 (.call (.c (.fn 18 [])) [(.t 72)])])
         .skip))
       (.seq (.ops [.a 7 (.mv (.c (.f (.v (.int .i64 0)))))])
       (.seq (.ops ([.a 74 (.mv (.t 3)),
 .a 75 (.call (.c (.fn 19 [])) [(.t 74)])] ++
 ([.a 8 (.mv (.t 75))])))
       (.seq (.seq (.ops [.a 9 (.mv (.c (.f (.v (.int .i64 0)))))])
        (.block 2 (.loop
          (.seq (.seq (.ops [.a 76 (.mv (.t 9)),
 .a 77 (.bin .lss (.t 76) (.c (.f (.v (.int .i64 5)))))])
           (.cond (.t 77)
            .skip
            (.exit 2)))
          (.seq (.block 3 (.seq (.seq (.drw [.a 80 (.mv (.t 3)),
                .a 81 (.mv (.t 9)),
                .a 82 (.call (.c (.fn 20 [])) [(.t 80), (.t 81)]),
                .a 83 (.b2s (.t 82)),
                .a 84 (.mv (.t 9)),
                .a 85 (.arr 1 5 (.t 4) (.t 84)),
                .a 86 (.load1 (.t 85)),
                .a 87 (.bin .neq (.t 83) (.t 86))] [0, 0, 3, 7, 0, 16, 48, 127])
             (.cond (.t 87)
              (.seq (.ops [.a 2 (.mv (.c (.f (.v (.bool false)))))])
              .ret)
              .skip))
            (.seq (.ops [.a 88 (.mv (.t 9)),
 .a 89 (.arr 1 5 (.t 4) (.t 88)),
 .a 90 (.load1 (.t 89)),
 .a 91 (.bin .neq (.t 90) (.c (.f (.v (.string ⟨#[]⟩)))))])
            (.cond (.t 91)
             (.seq (.seq (.ops ([.a 92 (.mv (.t 7)),
 .a 93 (.mv (.t 8)),
 .a 94 (.slen (.t 93)),
 .a 95 (.bin .geq (.t 92) (.t 94))] ++
 ([.a 96 (.mv (.t 95)),
 .g (some 97) (.mv (.t 8)) 96 false] ++
 ([.g (some 98) (.mv (.t 7)) 96 false,
 .g (some 99) (.idx 1 (.t 97) (.t 98)) 96 false,
 .g (some 100) (.load1 (.t 99)) 96 false,
 .g (some 101) (.mv (.t 9)) 96 false,
 .g (some 102) (.bin .neq (.t 100) (.t 101)) 96 false] ++
 ([.a 103 (.pick (.t 96) (.c (.f (.v (.bool true)))) (.t 102))])))))
              (.cond (.t 103)
               (.seq (.ops [.a 2 (.mv (.c (.f (.v (.bool false)))))])
               .ret)
               .skip))
             (.ops [.a 104 (.mv (.t 7)),
 .a 105 (.bin .add (.t 104) (.c (.f (.v (.int .i64 1))))),
 .a 7 (.mv (.t 105))]))
             .skip))))
          (.ops [.a 78 (.mv (.t 9)),
 .a 79 (.bin .add (.t 78) (.c (.f (.v (.int .i64 1))))),
 .a 9 (.mv (.t 79))]))))))
       (.seq (.ops [.a 106 (.mv (.t 7)),
 .a 107 (.mv (.t 8)),
 .a 108 (.slen (.t 107)),
 .a 109 (.bin .neq (.t 106) (.t 108))])
       (.cond (.t 109)
        (.seq (.ops [.a 2 (.mv (.c (.f (.v (.bool false)))))])
        .ret)
        .skip)))))))))
     (.ops [.a 25 (.mv (.t 5)),
 .a 26 (.bin .add (.t 25) (.c (.f (.v (.int .i64 1))))),
 .a 5 (.mv (.t 26))]))))))
  (.seq (.ops [.a 2 (.mv (.c (.f (.v (.bool true)))))])
  .ret))))))
theorem fn_law_DiskFiles : Fn Try.prog 4 110 [.t 2] s_law_DiskFiles := ⟨_, _, Try.func4, rfl, rfl, by kernel_rfl, by kernel_rfl⟩

end Go.Proofs.Ytjbkckhpoicaeaa.Mir
