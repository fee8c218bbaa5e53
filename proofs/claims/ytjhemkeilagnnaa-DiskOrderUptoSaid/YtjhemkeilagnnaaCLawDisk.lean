/- Functions of the program, told without it. -/
import Derived.Test.YtjhemkeilagnnaaL
namespace Go.Proofs.Ytjhemkeilagnnaa.Mir
open Go Go.RowKit

/-- cutover.cutoverlaw5.DiskFuses -/
def s_law_DiskFuses : SCode :=
  (.seq (.ops [.a 4 (.mv (.c (.f (.v (.bool false)))))])
  (.seq (.ops ([.a 8 (.call (.c (.fn 19 [])) [])] ++
 ([.a 5 (.mv (.t 8))])))
  (.seq (.seq (.ops ([.a 9 (.call (.c (.fn 20 [])) [])] ++
 ([.a 10 (.unot (.t 9)),
 .a 11 (.mv (.t 10)),
 .g (some 12) (.mv (.t 5)) 11 false] ++
 ([.g (some 13) (.nilq true 1 (.t 12) (.c (.f (.v (.pointer none))))) 11 false,
 .a 14 (.pick (.t 11) (.c (.f (.v (.bool true)))) (.t 13))]))))
   (.cond (.t 14)
    (.seq (.ops [.a 4 (.mv (.c (.f (.v (.bool false)))))])
    .ret)
    .skip))
  (.seq (.ops ([.a 15 (.mv (.t 0)),
 .a 16 (.call (.c (.fn 23 [])) [(.t 15), (.c (.f (.v (.int .i64 12))))])] ++
 ([.a 0 (.mv (.t 16))])))
  (.seq (.ops [.a 17 (.mv (.t 5)),
 .a 18 (.mv (.t 0)),
 .a 19 (.call (.c (.fn 28 [])) [(.t 17), (.t 18)])])
  (.seq (.seq (.ops [.a 6 (.mv (.c (.f (.v (.int .i64 0)))))])
   (.block 0 (.loop
     (.seq (.seq (.ops ([.a 20 (.mv (.t 6)),
 .a 21 (.mv (.t 1)),
 .a 22 (.slen (.t 21)),
 .a 23 (.bin .lss (.t 20) (.t 22))] ++
 ([.a 24 (.mv (.t 23)),
 .g (some 25) (.mv (.t 6)) 24 true] ++
 ([.g (some 26) (.bin .lss (.t 25) (.c (.f (.v (.int .i64 20))))) 24 true] ++
 ([.a 27 (.pick (.t 24) (.t 26) (.c (.f (.v (.bool false)))))])))))
      (.cond (.t 27)
       .skip
       (.exit 0)))
     (.seq (.block 1 (.seq (.ops [.a 7 (.mv (.c (.f (.v (.int .i64 0)))))])
       (.seq (.seq (.ops [.a 30 (.mv (.t 1)),
 .a 31 (.mv (.t 6)),
 .a 32 (.idx 1 (.t 30) (.t 31)),
 .a 33 (.load1 (.t 32)),
 .a 34 (.call (.c (.fn 23 [])) [(.t 33), (.c (.f (.v (.int .i64 3))))])])
        (.block 2 (.seq (.ops ([.a 38 (.bin .eql (.t 34) (.c (.f (.v (.int .i64 0)))))] ++
 ([.a 37 (.mv (.t 38))])))
         (.cond (.t 37)
          (.ops ([.a 39 (.mv (.t 5)),
 .a 40 (.mv (.t 6)),
 .a 41 (.conv .u8 (.t 40)),
 .a 42 (.bsl 5 1 1 [(.f (.v (.int .u8 0)))] [(0, (.t 41))]),
 .a 43 (.call (.c (.fn 21 [])) [(.t 39), (.c (.f (.v (.int .i64 1)))), (.t 42)])] ++
 ([.a 7 (.mv (.t 43))])))
          (.seq (.ops ([.a 45 (.bin .eql (.t 34) (.c (.f (.v (.int .i64 1)))))] ++
 ([.a 44 (.mv (.t 45))])))
          (.cond (.t 44)
           (.ops ([.a 46 (.mv (.t 5)),
 .a 47 (.call (.c (.fn 26 [])) [(.t 46)])] ++
 ([.a 7 (.mv (.t 47))])))
           (.ops ([.a 35 (.mv (.t 5)),
 .a 36 (.call (.c (.fn 27 [])) [(.t 35), (.c (.f (.v (.int .i64 2))))])] ++
 ([.a 7 (.mv (.t 36))])))))))))
       (.seq (.ops ([.a 48 (.mv (.t 7)),
 .a 49 (.bin .eql (.t 48) (.c (.f (.v (.int .i64 0)))))] ++
 ([.a 50 (.mv (.t 6)),
 .a 51 (.mv (.t 0)),
 .a 52 (.bin .lss (.t 50) (.t 51))] ++
 ([.a 53 (.binb .neq (.t 49) (.t 52)),
 .a 54 (.mv (.t 53)),
 .g (some 55) (.mv (.t 5)) 54 false] ++
 ([.g (some 56) (.call (.c (.fn 29 [])) [(.t 55)]) 54 false] ++
 ([.g (some 57) (.mv (.t 6)) 54 false,
 .g (some 58) (.mv (.t 0)) 54 false,
 .g (some 59) (.bin .geq (.t 57) (.t 58)) 54 false] ++
 ([.g (some 60) (.binb .neq (.t 56) (.t 59)) 54 false,
 .a 61 (.pick (.t 54) (.c (.f (.v (.bool true)))) (.t 60)),
 .a 62 (.mv (.t 61)),
 .g (some 63) (.mv (.t 5)) 62 false] ++
 ([.g (some 64) (.call (.c (.fn 30 [])) [(.t 63)]) 62 false] ++
 ([.g (some 65) (.mv (.t 6)) 62 false,
 .g (some 66) (.bin .add (.t 65) (.c (.f (.v (.int .i64 1))))) 62 false,
 .g (some 67) (.mv (.t 0)) 62 false,
 .g (some 68) (.mm false (.t 66) (.t 67)) 62 false,
 .g (some 69) (.bin .neq (.t 64) (.t 68)) 62 false] ++
 ([.a 70 (.pick (.t 62) (.c (.f (.v (.bool true)))) (.t 69))]))))))))))
       (.cond (.t 70)
        (.seq (.ops [.a 4 (.mv (.c (.f (.v (.bool false)))))])
        .ret)
        .skip)))))
     (.ops [.a 28 (.mv (.t 6)),
 .a 29 (.bin .add (.t 28) (.c (.f (.v (.int .i64 1))))),
 .a 6 (.mv (.t 29))]))))))
  (.seq (.ops [.a 71 (.mv (.t 5)),
 .a 72 (.call (.c (.fn 24 [])) [(.t 71), (.c (.f (.v (.int .i64 0)))), (.c (.f (.v (.int .i64 0))))])])
  (.seq (.ops ([.a 73 (.mv (.t 5)),
 .a 74 (.call (.c (.fn 29 [])) [(.t 73)])] ++
 ([.a 75 (.unot (.t 74)),
 .a 76 (.mv (.t 75)),
 .g (some 77) (.mv (.t 5)) 76 true] ++
 ([.g (some 78) (.call (.c (.fn 26 [])) [(.t 77)]) 76 true] ++
 ([.g (some 79) (.bin .eql (.t 78) (.c (.f (.v (.int .i64 0))))) 76 true] ++
 ([.a 80 (.pick (.t 76) (.t 79) (.c (.f (.v (.bool false))))),
 .a 4 (.mv (.t 80))]))))))
  .ret))))))))
theorem fn_law_DiskFuses : Fn Try.prog 6 81 [.t 4] s_law_DiskFuses := ⟨_, _, Try.func6, rfl, rfl, by kernel_rfl, by kernel_rfl⟩

/-- cutover.cutoverlaw5.DiskSynced -/
def s_law_DiskSynced : SCode :=
  (.seq (.ops [.a 6 (.mv (.c (.f (.v (.bool false)))))])
  (.seq (.ops ([.a 9 (.call (.c (.fn 19 [])) [])] ++
 ([.a 7 (.mv (.t 9))])))
  (.seq (.seq (.ops ([.a 10 (.call (.c (.fn 20 [])) [])] ++
 ([.a 11 (.unot (.t 10)),
 .a 12 (.mv (.t 11)),
 .g (some 13) (.mv (.t 7)) 12 false] ++
 ([.g (some 14) (.nilq true 1 (.t 13) (.c (.f (.v (.pointer none))))) 12 false,
 .a 15 (.pick (.t 12) (.c (.f (.v (.bool true)))) (.t 14)),
 .a 16 (.mv (.t 15)),
 .g (some 17) (.mv (.t 7)) 16 false] ++
 ([.g (some 18) (.mv (.t 0)) 16 false,
 .g (some 19) (.call (.c (.fn 21 [])) [(.t 17), (.c (.f (.v (.int .i64 0)))), (.t 18)]) 16 false] ++
 ([.g (some 20) (.bin .neq (.t 19) (.c (.f (.v (.int .i64 0))))) 16 false] ++
 ([.a 21 (.pick (.t 16) (.c (.f (.v (.bool true)))) (.t 20)),
 .a 22 (.mv (.t 21)),
 .g (some 23) (.mv (.t 7)) 22 false] ++
 ([.g (some 24) (.mv (.t 1)) 22 false,
 .g (some 25) (.call (.c (.fn 21 [])) [(.t 23), (.c (.f (.v (.int .i64 1)))), (.t 24)]) 22 false] ++
 ([.g (some 26) (.bin .neq (.t 25) (.c (.f (.v (.int .i64 0))))) 22 false] ++
 ([.a 27 (.pick (.t 22) (.c (.f (.v (.bool true)))) (.t 26)),
 .a 28 (.mv (.t 27)),
 .g (some 29) (.mv (.t 7)) 28 false] ++
 ([.g (some 30) (.call (.c (.fn 26 [])) [(.t 29)]) 28 false] ++
 ([.g (some 31) (.bin .neq (.t 30) (.c (.f (.v (.int .i64 0))))) 28 false] ++
 ([.a 32 (.pick (.t 28) (.c (.f (.v (.bool true)))) (.t 31))])))))))))))))
   (.cond (.t 32)
    (.seq (.ops [.a 6 (.mv (.c (.f (.v (.bool false)))))])
    .ret)
    .skip))
  (.seq (.seq (.ops [.a 8 (.mv (.c (.f (.v (.int .i64 0)))))])
   (.block 0 (.loop
     (.seq (.seq (.ops ([.a 33 (.mv (.t 8)),
 .a 34 (.mv (.t 2)),
 .a 35 (.slen (.t 34)),
 .a 36 (.bin .lss (.t 33) (.t 35))] ++
 ([.a 37 (.mv (.t 36)),
 .g (some 38) (.mv (.t 8)) 37 true] ++
 ([.g (some 39) (.bin .lss (.t 38) (.c (.f (.v (.int .i64 10))))) 37 true] ++
 ([.a 40 (.pick (.t 37) (.t 39) (.c (.f (.v (.bool false)))))])))))
      (.cond (.t 40)
       .skip
       (.exit 0)))
     (.seq (.block 1 (.seq (.ops [.a 43 (.mv (.t 7)),
 .a 44 (.mv (.t 8)),
 .a 45 (.conv .u8 (.t 44)),
 .a 46 (.bsl 5 1 1 [(.f (.v (.int .u8 0)))] [(0, (.t 45))]),
 .a 47 (.call (.c (.fn 21 [])) [(.t 43), (.c (.f (.v (.int .i64 2)))), (.t 46)])])
       (.seq (.ops [.a 48 (.mv (.t 7)),
 .a 49 (.call (.c (.fn 24 [])) [(.t 48), (.c (.f (.v (.int .i64 0)))), (.c (.f (.v (.int .i64 0))))])])
       (.seq (.seq (.drw [.a 50 (.mv (.t 7)),
           .a 51 (.call (.c (.fn 25 [])) [(.t 50), (.c (.f (.v (.int .i64 0))))]),
           .a 52 (.b2s (.t 51)),
           .a 53 (.mv (.t 0)),
           .a 54 (.b2s (.t 53)),
           .a 55 (.bin .neq (.t 52) (.t 54)),
           .a 56 (.mv (.t 55)),
           .g (some 57) (.mv (.t 7)) 56 false,
           .g (some 58) (.call (.c (.fn 25 [])) [(.t 57), (.c (.f (.v (.int .i64 1))))]) 56 false,
           .g (some 59) (.b2s (.t 58)) 56 false,
           .g (some 60) (.mv (.t 1)) 56 false,
           .g (some 61) (.b2s (.t 60)) 56 false,
           .g (some 62) (.bin .neq (.t 59) (.t 61)) 56 false,
           .a 63 (.pick (.t 56) (.c (.f (.v (.bool true)))) (.t 62)),
           .a 64 (.mv (.t 63)),
           .g (some 65) (.mv (.t 7)) 64 false,
           .g (some 66) (.call (.c (.fn 25 [])) [(.t 65), (.c (.f (.v (.int .i64 2))))]) 64 false,
           .g (some 67) (.slen (.t 66)) 64 false,
           .g (some 68) (.bin .neq (.t 67) (.c (.f (.v (.int .i64 0))))) 64 false,
           .a 69 (.pick (.t 64) (.c (.f (.v (.bool true)))) (.t 68))] [0, 1, 3, 0, 8, 31, 63, 127, 255, 511, 127, 1151, 4095, 8191, 16383, 32767, 65535, 131071, 262143, 524287])
        (.cond (.t 69)
         (.seq (.ops [.a 6 (.mv (.c (.f (.v (.bool false)))))])
         .ret)
         .skip))
       (.seq (.ops [.a 70 (.mv (.t 7)),
 .a 71 (.call (.c (.fn 27 [])) [(.t 70), (.c (.f (.v (.int .i64 0))))])])
       (.seq (.ops ([.a 72 (.mv (.t 7)),
 .a 73 (.mv (.t 2)),
 .a 74 (.mv (.t 8)),
 .a 75 (.idx 1 (.t 73) (.t 74)),
 .a 76 (.load1 (.t 75)),
 .a 77 (.call (.c (.fn 23 [])) [(.t 76), (.c (.f (.v (.int .i64 1))))])] ++
 ([.a 78 (.bin .mul (.c (.f (.v (.int .i64 2)))) (.t 77)),
 .a 79 (.call (.c (.fn 24 [])) [(.t 72), (.t 78), (.c (.f (.v (.int .i64 0))))])])))
       (.seq (.drw [.a 80 (.mv (.t 7)),
          .a 81 (.call (.c (.fn 25 [])) [(.t 80), (.c (.f (.v (.int .i64 0))))]),
          .a 82 (.b2s (.t 81)),
          .a 83 (.mv (.t 0)),
          .a 84 (.b2s (.t 83)),
          .a 85 (.bin .neq (.t 82) (.t 84))] [0, 1, 3, 0, 8, 31])
       (.cond (.t 85)
        (.seq (.ops [.a 6 (.mv (.c (.f (.v (.bool false)))))])
        .ret)
        .skip))))))))
     (.ops [.a 41 (.mv (.t 8)),
 .a 42 (.bin .add (.t 41) (.c (.f (.v (.int .i64 1))))),
 .a 8 (.mv (.t 42))]))))))
  (.seq (.ops [.a 6 (.mv (.c (.f (.v (.bool true)))))])
  .ret)))))
theorem fn_law_DiskSynced : Fn Try.prog 5 86 [.t 6] s_law_DiskSynced := ⟨_, _, Try.func5, rfl, rfl, by kernel_rfl, by kernel_rfl⟩

/-- cutover.cutoverlaw5.DiskOrder -/
def s_law_DiskOrder : SCode :=
  (.seq (.ops [.a 6 (.mv (.c (.f (.v (.bool false)))))])
  (.seq (.ops ([.a 15 (.call (.c (.fn 19 [])) [])] ++
 ([.a 7 (.mv (.t 15))])))
  (.seq (.seq (.ops ([.a 16 (.call (.c (.fn 20 [])) [])] ++
 ([.a 17 (.unot (.t 16)),
 .a 18 (.mv (.t 17)),
 .g (some 19) (.mv (.t 7)) 18 false] ++
 ([.g (some 20) (.nilq true 1 (.t 19) (.c (.f (.v (.pointer none))))) 18 false,
 .a 21 (.pick (.t 18) (.c (.f (.v (.bool true)))) (.t 20))]))))
   (.cond (.t 21)
    (.seq (.ops [.a 6 (.mv (.c (.f (.v (.bool false)))))])
    .ret)
    .skip))
  (.seq (.ops [.a 8 (.mv (.c (.f (.v (.string ⟨#[]⟩)))))])
  (.seq (.ops [.a 9 (.mv (.c (.f (.v (.int .i64 0)))))])
  (.seq (.ops [.a 10 (.mv (.c (.f (.v (.slice none 0 0)))))])
  (.seq (.seq (.ops [.a 11 (.mv (.c (.f (.v (.int .i64 0)))))])
   (.block 0 (.loop
     (.seq (.seq (.ops ([.a 22 (.mv (.t 11)),
 .a 23 (.mv (.t 0)),
 .a 24 (.slen (.t 23)),
 .a 25 (.bin .lss (.t 22) (.t 24))] ++
 ([.a 26 (.mv (.t 25)),
 .g (some 27) (.mv (.t 11)) 26 true] ++
 ([.g (some 28) (.bin .lss (.t 27) (.c (.f (.v (.int .i64 20))))) 26 true] ++
 ([.a 29 (.pick (.t 26) (.t 28) (.c (.f (.v (.bool false)))))])))))
      (.cond (.t 29)
       .skip
       (.exit 0)))
     (.seq (.block 1 (.seq (.seq (.ops [.a 32 (.mv (.t 0)),
 .a 33 (.mv (.t 11)),
 .a 34 (.idx 1 (.t 32) (.t 33)),
 .a 35 (.load1 (.t 34)),
 .a 36 (.slen (.t 35)),
 .a 37 (.bin .eql (.t 36) (.c (.f (.v (.int .i64 0)))))])
        (.cond (.t 37)
         (.exit 1)
         .skip))
       (.seq (.ops [.a 38 (.mv (.t 7)),
 .a 39 (.mv (.t 0)),
 .a 40 (.mv (.t 11)),
 .a 41 (.idx 1 (.t 39) (.t 40)),
 .a 42 (.load1 (.t 41)),
 .a 43 (.call (.c (.fn 21 [])) [(.t 38), (.c (.f (.v (.int .i64 0)))), (.t 42)])])
       (.seq (.ops [.a 44 (.mv (.t 8)),
 .a 45 (.mv (.t 0)),
 .a 46 (.mv (.t 11)),
 .a 47 (.idx 1 (.t 45) (.t 46)),
 .a 48 (.load1 (.t 47)),
 .a 49 (.b2s (.t 48)),
 .a 50 (.bin .add (.t 44) (.t 49)),
 .a 8 (.mv (.t 50))])
       (.seq (.ops [.a 51 (.mv (.t 9)),
 .a 52 (.bin .add (.t 51) (.c (.f (.v (.int .i64 1))))),
 .a 9 (.mv (.t 52))])
       (.ops ([.a 53 (.mv (.t 10)),
 .a 54 (.mv (.t 8)),
 .a 55 (.strlen (.t 54)),
 .a 56 (.bsl 3 1 1 [(.f (.v (.int .i64 0)))] [(0, (.t 55))]),
 .a 57 (.app 3 1 8 (.t 53) (.t 56))] ++
 ([.a 10 (.mv (.t 57))]))))))))
     (.ops [.a 30 (.mv (.t 11)),
 .a 31 (.bin .add (.t 30) (.c (.f (.v (.int .i64 1))))),
 .a 11 (.mv (.t 31))]))))))
  (.seq (.seq (.ops ([.a 58 (.mv (.t 7)),
 .a 59 (.call (.c (.fn 22 [])) [(.t 58)])] ++
 ([.a 60 (.mv (.t 9)),
 .a 61 (.bin .neq (.t 59) (.t 60))])))
   (.cond (.t 61)
    (.seq (.ops [.a 6 (.mv (.c (.f (.v (.bool false)))))])
    .ret)
    .skip))
  (.seq (.ops ([.a 62 (.mv (.t 1)),
 .a 63 (.mv (.t 9)),
 .a 64 (.bin .add (.t 63) (.c (.f (.v (.int .i64 1))))),
 .a 65 (.call (.c (.fn 23 [])) [(.t 62), (.t 64)])] ++
 ([.a 1 (.mv (.t 65))])))
  (.seq (.ops [.a 66 (.mv (.t 7)),
 .a 67 (.mv (.t 1)),
 .a 68 (.mv (.t 2)),
 .a 69 (.call (.c (.fn 24 [])) [(.t 66), (.t 67), (.t 68)])])
  (.seq (.ops ([.a 70 (.mv (.t 7)),
 .a 71 (.call (.c (.fn 25 [])) [(.t 70), (.c (.f (.v (.int .i64 0))))])] ++
 ([.a 72 (.b2s (.t 71)),
 .a 12 (.mv (.t 72))])))
  (.seq (.seq (.ops ([.a 73 (.mv (.t 12)),
 .a 74 (.strlen (.t 73)),
 .a 75 (.mv (.t 8)),
 .a 76 (.strlen (.t 75)),
 .a 77 (.bin .gtr (.t 74) (.t 76))] ++
 ([.a 78 (.mv (.t 77)),
 .g (some 79) (.mv (.t 12)) 78 false] ++
 ([.g (some 80) (.mv (.t 8)) 78 false,
 .g (some 81) (.mv (.t 12)) 78 false,
 .g (some 82) (.strlen (.t 81)) 78 false,
 .g (some 83) (.ssub (.t 80) none (some (.t 82))) 78 false,
 .g (some 84) (.bin .neq (.t 79) (.t 83)) 78 false] ++
 ([.a 85 (.pick (.t 78) (.c (.f (.v (.bool true)))) (.t 84))])))))
   (.cond (.t 85)
    (.seq (.ops [.a 6 (.mv (.c (.f (.v (.bool false)))))])
    .ret)
    .skip))
  (.seq (.ops [.a 13 (.mv (.c (.f (.v (.int .i64 0)))))])
  (.seq (.seq (.ops [.a 86 (.mv (.t 1)),
 .a 87 (.bin .gtr (.t 86) (.c (.f (.v (.int .i64 0)))))])
   (.cond (.t 87)
    (.ops [.a 88 (.mv (.t 10)),
 .a 89 (.mv (.t 1)),
 .a 90 (.bin .sub (.t 89) (.c (.f (.v (.int .i64 1))))),
 .a 91 (.idx 1 (.t 88) (.t 90)),
 .a 92 (.load1 (.t 91)),
 .a 13 (.mv (.t 92))])
    .skip))
  (.seq (.ops [.a 93 (.mv (.t 8)),
 .a 94 (.strlen (.t 93)),
 .a 14 (.mv (.t 94))])
  (.seq (.seq (.ops [.a 95 (.mv (.t 1)),
 .a 96 (.mv (.t 9)),
 .a 97 (.bin .lss (.t 95) (.t 96))])
   (.cond (.t 97)
    (.ops [.a 98 (.mv (.t 10)),
 .a 99 (.mv (.t 1)),
 .a 100 (.idx 1 (.t 98) (.t 99)),
 .a 101 (.load1 (.t 100)),
 .a 14 (.mv (.t 101))])
    .skip))
  (.seq (.ops ([.a 102 (.mv (.t 12)),
 .a 103 (.strlen (.t 102)),
 .a 104 (.mv (.t 13)),
 .a 105 (.bin .geq (.t 103) (.t 104))] ++
 ([.a 106 (.mv (.t 105)),
 .g (some 107) (.mv (.t 12)) 106 true] ++
 ([.g (some 108) (.strlen (.t 107)) 106 true,
 .g (some 109) (.mv (.t 14)) 106 true,
 .g (some 110) (.bin .leq (.t 108) (.t 109)) 106 true] ++
 ([.a 111 (.pick (.t 106) (.t 110) (.c (.f (.v (.bool false))))),
 .a 112 (.mv (.t 111)),
 .g (some 113) (.mv (.t 7)) 112 true] ++
 ([.g (some 114) (.call (.c (.fn 22 [])) [(.t 113)]) 112 true] ++
 ([.g (some 115) (.bin .eql (.t 114) (.c (.f (.v (.int .i64 0))))) 112 true] ++
 ([.a 116 (.pick (.t 112) (.t 115) (.c (.f (.v (.bool false))))),
 .a 6 (.mv (.t 116))]))))))))
  .ret)))))))))))))))))
theorem fn_law_DiskOrder : Fn Try.prog 4 117 [.t 6] s_law_DiskOrder := ⟨_, _, Try.func4, rfl, rfl, by kernel_rfl, by kernel_rfl⟩

end Go.Proofs.Ytjhemkeilagnnaa.Mir
