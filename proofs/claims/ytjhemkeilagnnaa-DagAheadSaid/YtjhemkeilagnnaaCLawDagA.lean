/- Functions of the program, told without it. -/
import Derived.Test.YtjhemkeilagnnaaL
namespace Go.Proofs.Ytjhemkeilagnnaa.Mir
open Go Go.RowKit

/-- cutover.cutoverlaw11.DagAhead -/
def s_law_DagAhead : SCode :=
  (.seq (.ops [.a 6 (.mv (.c (.f (.v (.bool false)))))])
  (.seq (.ops ([.a 14 (.mv (.t 0)),
 .a 15 (.mv (.t 1)),
 .a 16 (.call (.c (.fn 31 [])) [(.t 14), (.t 15)])] ++
 ([.a 7 (.mv (.t 16))])))
  (.seq (.seq (.ops ([.a 17 (.mv (.t 7)),
 .a 18 (.call (.c (.fn 17 [])) [(.t 17)])] ++
 ([.a 19 (.bin .neq (.t 18) (.c (.f (.v (.int .i64 0)))))])))
   (.cond (.t 19)
    (.seq (.ops ([.a 20 (.call (.c (.fn 16 [])) [])] ++
 ([.a 21 (.mv (.t 20)),
 .g (some 22) (.mv (.t 7)) 21 true] ++
 ([.g (some 23) (.call (.c (.fn 32 [])) [(.t 22)]) 21 true] ++
 ([.g (some 24) (.bin .eql (.t 23) (.c (.f (.v (.int .i64 0))))) 21 true] ++
 ([.a 25 (.pick (.t 21) (.t 24) (.c (.f (.v (.bool false))))),
 .a 6 (.mv (.t 25))]))))))
    .ret)
    .skip))
  (.seq (.ops ([.a 26 (.mv (.t 2)),
 .a 27 (.mv (.t 7)),
 .a 28 (.slen (.t 27)),
 .a 29 (.call (.c (.fn 23 [])) [(.t 26), (.t 28)])] ++
 ([.a 2 (.mv (.t 29))])))
  (.seq (.ops ([.a 30 (.mv (.t 7)),
 .a 31 (.mv (.t 2)),
 .a 32 (.call (.c (.fn 33 [])) [(.t 30), (.t 31)])] ++
 ([.a 8 (.mv (.t 32))])))
  (.seq (.seq (.ops [.a 9 (.mv (.c (.f (.v (.int .i64 0)))))])
   (.block 0 (.loop
     (.seq (.seq (.ops [.a 33 (.mv (.t 9)),
 .a 34 (.mv (.t 8)),
 .a 35 (.slen (.t 34)),
 .a 36 (.bin .lss (.t 33) (.t 35))])
      (.cond (.t 36)
       .skip
       (.exit 0)))
     (.seq (.block 1 (.seq (.seq (.drw [.a 39 (.mv (.t 8)),
           .a 40 (.mv (.t 9)),
           .a 41 (.idx 1 (.t 39) (.t 40)),
           .a 42 (.load1 (.t 41)),
           .a 43 (.bin .lss (.t 42) (.c (.f (.v (.int .i64 0))))),
           .a 44 (.mv (.t 43)),
           .g (some 45) (.mv (.t 8)) 44 false,
           .g (some 46) (.mv (.t 9)) 44 false,
           .g (some 47) (.idx 1 (.t 45) (.t 46)) 44 false,
           .g (some 48) (.load1 (.t 47)) 44 false,
           .g (some 49) (.mv (.t 7)) 44 false,
           .g (some 50) (.slen (.t 49)) 44 false,
           .g (some 51) (.bin .geq (.t 48) (.t 50)) 44 false,
           .a 52 (.pick (.t 44) (.c (.f (.v (.bool true)))) (.t 51)),
           .a 53 (.mv (.t 52)),
           .g (some 54) (.mv (.t 8)) 53 false,
           .g (some 55) (.mv (.t 9)) 53 false,
           .g (some 56) (.idx 1 (.t 54) (.t 55)) 53 false,
           .g (some 57) (.load1 (.t 56)) 53 false,
           .g (some 58) (.mv (.t 2)) 53 false,
           .g (some 59) (.bin .eql (.t 57) (.t 58)) 53 false,
           .a 60 (.pick (.t 53) (.c (.f (.v (.bool true)))) (.t 59)),
           .a 61 (.mv (.t 60)),
           .g (some 62) (.mv (.t 9)) 61 false,
           .g (some 63) (.bin .gtr (.t 62) (.c (.f (.v (.int .i64 0))))) 61 false,
           .g (some 64) (.mv (.t 63)) 61 false,
           .g (some 65) (.mv (.t 8)) 64 true,
           .g (some 66) (.mv (.t 9)) 64 true,
           .g (some 67) (.idx 1 (.t 65) (.t 66)) 64 true,
           .g (some 68) (.load1 (.t 67)) 64 true,
           .g (some 69) (.mv (.t 8)) 64 true,
           .g (some 70) (.mv (.t 9)) 64 true,
           .g (some 71) (.bin .sub (.t 70) (.c (.f (.v (.int .i64 1))))) 64 true,
           .g (some 72) (.idx 1 (.t 69) (.t 71)) 64 true,
           .g (some 73) (.load1 (.t 72)) 64 true,
           .g (some 74) (.bin .leq (.t 68) (.t 73)) 64 true,
           .g (some 75) (.pick (.t 64) (.t 74) (.c (.f (.v (.bool false))))) 61 false,
           .a 76 (.pick (.t 61) (.c (.f (.v (.bool true)))) (.t 75))] [0, 0, 3, 7, 15, 31, 63, 63, 255, 511, 63, 1087, 4095, 8191, 16383, 32767, 32767, 131071, 262143, 32767, 1048575, 2097151, 4194303, 8388607, 16777215, 33554431, 67108863, 67108863, 268435455, 536870911, 67108863, 67108863, 2214592511, 7583301631, 16173236223, 34359738367, 68719476735, 137438953471])
        (.cond (.t 76)
         (.seq (.ops [.a 6 (.mv (.c (.f (.v (.bool false)))))])
         .ret)
         .skip))
       (.seq (.ops ([.a 77 (.mv (.t 7)),
 .a 78 (.mv (.t 8)),
 .a 79 (.mv (.t 9)),
 .a 80 (.idx 1 (.t 78) (.t 79)),
 .a 81 (.load1 (.t 80)),
 .a 82 (.call (.c (.fn 33 [])) [(.t 77), (.t 81)])] ++
 ([.a 10 (.mv (.t 82))])))
       (.seq (.ops [.a 11 (.mv (.c (.f (.v (.int .i64 0)))))])
       (.block 2 (.loop
         (.seq (.seq (.ops [.a 83 (.mv (.t 11)),
 .a 84 (.mv (.t 10)),
 .a 85 (.slen (.t 84)),
 .a 86 (.bin .lss (.t 83) (.t 85))])
          (.cond (.t 86)
           .skip
           (.exit 2)))
         (.seq (.block 3 (.seq (.ops [.a 12 (.mv (.c (.f (.v (.bool false)))))])
           (.seq (.seq (.ops [.a 13 (.mv (.c (.f (.v (.int .i64 0)))))])
            (.block 4 (.loop
              (.seq (.seq (.ops [.a 89 (.mv (.t 13)),
 .a 90 (.mv (.t 8)),
 .a 91 (.slen (.t 90)),
 .a 92 (.bin .lss (.t 89) (.t 91))])
               (.cond (.t 92)
                .skip
                (.exit 4)))
              (.seq (.block 5 (.drw [.a 95 (.mv (.t 12)),
                  .a 96 (.mv (.t 95)),
                  .g (some 97) (.mv (.t 8)) 96 false,
                  .g (some 98) (.mv (.t 13)) 96 false,
                  .g (some 99) (.idx 1 (.t 97) (.t 98)) 96 false,
                  .g (some 100) (.load1 (.t 99)) 96 false,
                  .g (some 101) (.mv (.t 10)) 96 false,
                  .g (some 102) (.mv (.t 11)) 96 false,
                  .g (some 103) (.idx 1 (.t 101) (.t 102)) 96 false,
                  .g (some 104) (.load1 (.t 103)) 96 false,
                  .g (some 105) (.bin .eql (.t 100) (.t 104)) 96 false,
                  .a 106 (.pick (.t 96) (.c (.f (.v (.bool true)))) (.t 105)),
                  .a 12 (.mv (.t 106))] [0, 1, 3, 3, 15, 31, 3, 3, 195, 451, 1023, 2047, 4095]))
              (.ops [.a 93 (.mv (.t 13)),
 .a 94 (.bin .add (.t 93) (.c (.f (.v (.int .i64 1))))),
 .a 13 (.mv (.t 94))]))))))
           (.seq (.ops [.a 107 (.mv (.t 12)),
 .a 108 (.unot (.t 107))])
           (.cond (.t 108)
            (.seq (.ops [.a 6 (.mv (.c (.f (.v (.bool false)))))])
            .ret)
            .skip)))))
         (.ops [.a 87 (.mv (.t 11)),
 .a 88 (.bin .add (.t 87) (.c (.f (.v (.int .i64 1))))),
 .a 11 (.mv (.t 88))])))))))))
     (.ops [.a 37 (.mv (.t 9)),
 .a 38 (.bin .add (.t 37) (.c (.f (.v (.int .i64 1))))),
 .a 9 (.mv (.t 38))]))))))
  (.seq (.ops ([.a 109 (.call (.c (.fn 16 [])) [])] ++
 ([.a 110 (.mv (.t 109)),
 .g (some 111) (.mv (.t 8)) 110 true] ++
 ([.g (some 112) (.slen (.t 111)) 110 true,
 .g (some 113) (.mv (.t 7)) 110 true,
 .g (some 114) (.mv (.t 2)) 110 true,
 .g (some 115) (.idx 3 (.t 113) (.t 114)) 110 true,
 .g (some 116) (.off 0 (.t 115)) 110 true,
 .g (some 117) (.load1 (.t 116)) 110 true,
 .g (some 118) (.slen (.t 117)) 110 true,
 .g (some 119) (.bin .geq (.t 112) (.t 118)) 110 true] ++
 ([.a 120 (.pick (.t 110) (.t 119) (.c (.f (.v (.bool false))))),
 .a 121 (.mv (.t 120)),
 .g (some 122) (.mv (.t 7)) 121 true] ++
 ([.g (some 123) (.call (.c (.fn 32 [])) [(.t 122)]) 121 true] ++
 ([.g (some 124) (.bin .geq (.t 123) (.c (.f (.v (.int .i64 1))))) 121 true] ++
 ([.a 125 (.pick (.t 121) (.t 124) (.c (.f (.v (.bool false))))),
 .a 126 (.mv (.t 125)),
 .g (some 127) (.mv (.t 7)) 126 true] ++
 ([.g (some 128) (.call (.c (.fn 32 [])) [(.t 127)]) 126 true] ++
 ([.g (some 129) (.mv (.t 7)) 126 true,
 .g (some 130) (.slen (.t 129)) 126 true,
 .g (some 131) (.bin .leq (.t 128) (.t 130)) 126 true] ++
 ([.a 132 (.pick (.t 126) (.t 131) (.c (.f (.v (.bool false))))),
 .a 6 (.mv (.t 132))])))))))))))
  .ret)))))))
theorem fn_law_DagAhead : Fn Try.prog 7 133 [.t 6] s_law_DagAhead := ⟨_, _, Try.func7, rfl, rfl, by kernel_rfl, by kernel_rfl⟩

end Go.Proofs.Ytjhemkeilagnnaa.Mir
