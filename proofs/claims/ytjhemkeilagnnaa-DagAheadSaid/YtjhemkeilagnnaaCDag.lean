/- Functions of the program, told without it. -/
import Derived.Test.YtjhemkeilagnnaaL
namespace Go.Proofs.Ytjhemkeilagnnaa.Mir
open Go Go.RowKit

/-- cutover.dag.right -/
def s_dag_right : SCode :=
  (.seq (.ops [.a 2 (.box 53 (.t 0)),
 .a 4 (.mv (.c (.f (.v (.bool false)))))])
  (.seq (.ops [.a 5 (.mv (.c (.f (.v (.int .i64 (-1))))))])
  (.seq (.seq (.ops [.a 8 (.off 0 (.t 2)),
 .a 9 (.load1 (.t 8)),
 .a 10 (.slen (.t 9)),
 .a 11 (.mv (.c (.f (.v (.int .i64 0)))))])
   (.block 0 (.loop
     (.seq (.ops [.a 12 (.bin .lss (.t 11) (.t 10))])
     (.seq (.cond (.t 12)
       .skip
       (.exit 0))
     (.seq (.block 1 (.seq (.ops [.a 13 (.idx 1 (.t 9) (.t 11)),
 .a 14 (.load1 (.t 13)),
 .a 7 (.mv (.t 14))])
       (.seq (.seq (.ops ([.a 15 (.mv (.t 7)),
 .a 16 (.mv (.t 5)),
 .a 17 (.bin .leq (.t 15) (.t 16))] ++
 ([.a 18 (.mv (.t 17)),
 .g (some 19) (.mv (.t 7)) 18 false] ++
 ([.g (some 20) (.mv (.t 1)) 18 false,
 .g (some 21) (.bin .geq (.t 19) (.t 20)) 18 false] ++
 ([.a 22 (.pick (.t 18) (.c (.f (.v (.bool true)))) (.t 21))])))))
        (.cond (.t 22)
         (.seq (.ops [.a 4 (.mv (.c (.f (.v (.bool false)))))])
         .ret)
         .skip))
       (.ops [.a 23 (.mv (.t 7)),
 .a 5 (.mv (.t 23))]))))
     (.ops [.a 24 (.bin .add (.t 11) (.c (.f (.v (.int .i64 1))))),
 .a 11 (.mv (.t 24))])))))))
  (.seq (.ops ([.a 25 (.off 1 (.t 2)),
 .a 26 (.load1 (.t 25)),
 .a 27 (.bin .geq (.t 26) (.c (.f (.v (.int .i64 1)))))] ++
 ([.a 28 (.mv (.t 27)),
 .g (some 29) (.off 1 (.t 2)) 28 true] ++
 ([.g (some 30) (.load1 (.t 29)) 28 true,
 .g (some 31) (.bin .leq (.t 30) (.c (.f (.v (.int .i64 5))))) 28 true] ++
 ([.a 32 (.pick (.t 28) (.t 31) (.c (.f (.v (.bool false))))),
 .a 33 (.mv (.t 32)),
 .g (some 34) (.off 2 (.t 2)) 33 true] ++
 ([.g (some 35) (.load1 (.t 34)) 33 true,
 .g (some 36) (.bin .geq (.t 35) (.c (.f (.v (.int .i64 1))))) 33 true] ++
 ([.a 37 (.pick (.t 33) (.t 36) (.c (.f (.v (.bool false))))),
 .a 38 (.mv (.t 37)),
 .g (some 39) (.off 2 (.t 2)) 38 true] ++
 ([.g (some 40) (.load1 (.t 39)) 38 true,
 .g (some 41) (.bin .leq (.t 40) (.c (.f (.v (.int .i64 1048576))))) 38 true] ++
 ([.a 42 (.pick (.t 38) (.t 41) (.c (.f (.v (.bool false))))),
 .a 4 (.mv (.t 42))])))))))))
  .ret))))
theorem fn_dag_right : Fn Try.prog 50 43 [.t 4] s_dag_right := ⟨_, _, Try.func50, rfl, rfl, by kernel_rfl, by kernel_rfl⟩

/-- cutover.dag.met -/
def s_dag_met : SCode :=
  (.seq (.ops [.a 3 (.box 31 (.t 1)),
 .a 4 (.mv (.c (.f (.v (.bool false)))))])
  (.seq (.ops ([.a 5 (.mv (.t 0)),
 .a 6 (.fn 71 [(.t 3)]),
 .a 7 (.call (.c (.fn 70 [])) [(.t 5), (.t 6)])] ++
 ([.a 8 (.unot (.t 7)),
 .a 4 (.mv (.t 8))])))
  .ret))
theorem fn_dag_met : Fn Try.prog 51 9 [.t 4] s_dag_met := ⟨_, _, Try.func51, rfl, rfl, by kernel_rfl, by kernel_rfl⟩

/-- cutover.dag.met$1 -/
def s_dag_met1 : SCode :=
  (.seq (.ops [.a 3 (.mv (.c (.f (.v (.bool false)))))])
  (.seq (.ops ([.a 4 (.mv (.t 0)),
 .a 5 (.load1 (.t 1)),
 .a 6 (.slen (.t 5)),
 .a 7 (.bin .geq (.t 4) (.t 6))] ++
 ([.a 8 (.mv (.t 7)),
 .g (some 9) (.load1 (.t 1)) 8 false] ++
 ([.g (some 10) (.mv (.t 0)) 8 false,
 .g (some 11) (.idx 1 (.t 9) (.t 10)) 8 false,
 .g (some 12) (.load1 (.t 11)) 8 false,
 .g (some 13) (.unot (.t 12)) 8 false,
 .a 14 (.pick (.t 8) (.c (.f (.v (.bool true)))) (.t 13)),
 .a 3 (.mv (.t 14))]))))
  .ret))
theorem fn_dag_met1 : Fn Try.prog 71 15 [.t 3] s_dag_met1 := ⟨_, _, Try.func71, rfl, rfl, by kernel_rfl, by kernel_rfl⟩

/-- slices.ContainsFunc[[]int,int] -/
def s_int_ContainsFunc : SCode :=
  (.seq (.ops [.a 4 (.mv (.c (.f (.v (.bool false)))))])
  (.seq (.ops ([.a 5 (.mv (.t 0)),
 .a 6 (.mv (.t 1)),
 .a 7 (.call (.c (.fn 78 [])) [(.t 5), (.t 6)])] ++
 ([.a 8 (.bin .geq (.t 7) (.c (.f (.v (.int .i64 0)))))] ++
 ([.a 4 (.mv (.t 8))]))))
  .ret))
theorem fn_int_ContainsFunc : Fn Try.prog 70 9 [.t 4] s_int_ContainsFunc := ⟨_, _, Try.func70, rfl, rfl, by kernel_rfl, by kernel_rfl⟩

/-- slices.IndexFunc[[]int,int] -/
def s_int_IndexFunc : SCode :=
  (.seq (.ops [.a 4 (.mv (.c (.f (.v (.int .i64 0)))))])
  (.seq (.seq (.ops [.a 6 (.mv (.t 0)),
 .a 7 (.slen (.t 6)),
 .a 8 (.mv (.c (.f (.v (.int .i64 0)))))])
   (.block 0 (.loop
     (.seq (.ops [.a 9 (.bin .lss (.t 8) (.t 7))])
     (.seq (.cond (.t 9)
       .skip
       (.exit 0))
     (.seq (.block 1 (.seq (.ops [.a 10 (.mv (.t 8)),
 .a 5 (.mv (.t 10))])
       (.seq (.ops [.a 11 (.mv (.t 1)),
 .a 12 (.mv (.t 0)),
 .a 13 (.mv (.t 5)),
 .a 14 (.idx 1 (.t 12) (.t 13)),
 .a 15 (.load1 (.t 14)),
 .a 16 (.call (.t 11) [(.t 15)])])
       (.cond (.t 16)
        (.seq (.ops [.a 17 (.mv (.t 5)),
 .a 4 (.mv (.t 17))])
        .ret)
        .skip))))
     (.ops [.a 18 (.bin .add (.t 8) (.c (.f (.v (.int .i64 1))))),
 .a 8 (.mv (.t 18))])))))))
  (.seq (.ops [.a 4 (.mv (.c (.f (.v (.int .i64 (-1))))))])
  .ret)))
theorem fn_int_IndexFunc : Fn Try.prog 78 19 [.t 4] s_int_IndexFunc := ⟨_, _, Try.func78, rfl, rfl, by kernel_rfl, by kernel_rfl⟩

/-- cutover.dag.order -/
def s_dag_order : SCode :=
  (.seq (.ops [.a 2 (.mv (.c (.f (.v (.slice none 0 0)))))])
  (.seq (.ops [.a 3 (.mv (.c (.f (.v (.slice none 0 0)))))])
  (.seq (.ops [.a 8 (.mv (.t 0)),
 .a 9 (.slen (.t 8)),
 .a 10 (.mkslice 4 1 1 [(.v (.bool false))] (.t 9) (.t 9)),
 .a 4 (.mv (.t 10))])
  (.seq (.seq (.ops [.a 11 (.mv (.t 0)),
 .a 12 (.slen (.t 11)),
 .a 13 (.mv (.c (.f (.v (.int .i64 0)))))])
   (.block 0 (.loop
     (.seq (.ops [.a 14 (.bin .lss (.t 13) (.t 12))])
     (.seq (.cond (.t 14)
       .skip
       (.exit 0))
     (.seq (.block 1 (.seq (.ops [.a 5 (.mv (.c (.f (.v (.int .i64 (-1))))))])
       (.seq (.seq (.ops [.a 15 (.mv (.t 0)),
 .a 16 (.slen (.t 15)),
 .a 17 (.mv (.c (.f (.v (.int .i64 0)))))])
        (.block 2 (.loop
          (.seq (.ops [.a 18 (.bin .lss (.t 17) (.t 16))])
          (.seq (.cond (.t 18)
            .skip
            (.exit 2))
          (.seq (.block 3 (.seq (.ops [.a 19 (.mv (.t 17)),
 .a 20 (.idx 3 (.t 15) (.t 17)),
 .a 21 (.loadA 3 (.t 20)),
 .a 7 (.alloc 53 [(.f (.v (.slice none 0 0))), (.f (.v (.int .i64 0))), (.f (.v (.int .i64 0)))]),
 .a 6 (.mv (.t 19)),
 .n (.store 3 (.t 7) (.t 21))])
            (.seq (.ops ([.a 22 (.mv (.t 5)),
 .a 23 (.bin .lss (.t 22) (.c (.f (.v (.int .i64 0)))))] ++
 ([.a 24 (.mv (.t 23)),
 .g (some 25) (.mv (.t 4)) 24 true] ++
 ([.g (some 26) (.mv (.t 6)) 24 true,
 .g (some 27) (.idx 1 (.t 25) (.t 26)) 24 true,
 .g (some 28) (.load1 (.t 27)) 24 true,
 .g (some 29) (.unot (.t 28)) 24 true,
 .a 30 (.pick (.t 24) (.t 29) (.c (.f (.v (.bool false))))),
 .a 31 (.mv (.t 30)),
 .g (some 32) (.off 0 (.t 7)) 31 true] ++
 ([.g (some 33) (.load1 (.t 32)) 31 true,
 .g (some 34) (.mv (.t 4)) 31 true,
 .g (some 35) (.call (.c (.fn 51 [])) [(.t 33), (.t 34)]) 31 true] ++
 ([.a 36 (.pick (.t 31) (.t 35) (.c (.f (.v (.bool false)))))]))))))
            (.cond (.t 36)
             (.ops [.a 37 (.mv (.t 6)),
 .a 5 (.mv (.t 37))])
             .skip))))
          (.ops [.a 38 (.bin .add (.t 17) (.c (.f (.v (.int .i64 1))))),
 .a 17 (.mv (.t 38))])))))))
       (.seq (.seq (.ops [.a 39 (.mv (.t 5)),
 .a 40 (.bin .lss (.t 39) (.c (.f (.v (.int .i64 0)))))])
        (.cond (.t 40)
         (.exit 0)
         .skip))
       (.seq (.ops [.a 41 (.mv (.t 4)),
 .a 42 (.mv (.t 5)),
 .a 43 (.idx 1 (.t 41) (.t 42)),
 .n (.store 1 (.t 43) (.c (.f (.v (.bool true)))))])
       (.ops ([.a 44 (.mv (.t 3)),
 .a 45 (.mv (.t 5)),
 .a 46 (.bsl 3 1 1 [(.f (.v (.int .i64 0)))] [(0, (.t 45))]),
 .a 47 (.app 3 1 8 (.t 44) (.t 46))] ++
 ([.a 3 (.mv (.t 47))]))))))))
     (.ops [.a 48 (.bin .add (.t 13) (.c (.f (.v (.int .i64 1))))),
 .a 13 (.mv (.t 48))])))))))
  (.seq (.ops [.a 49 (.mv (.t 3)),
 .a 2 (.mv (.t 49))])
  .ret)))))
theorem fn_dag_order : Fn Try.prog 49 50 [.t 2] s_dag_order := ⟨_, _, Try.func49, rfl, rfl, by kernel_rfl, by kernel_rfl⟩

/-- cutover.dag.Order -/
def s_dag_Order : SCode :=
  (.seq (.ops [.a 2 (.mv (.c (.f (.v (.slice none 0 0))))),
 .a 3 (.mv (.c (.f (.v (.bool false)))))])
  (.seq (.seq (.ops ([.a 4 (.mv (.t 0)),
 .a 5 (.call (.c (.fn 17 [])) [(.t 4)])] ++
 ([.a 6 (.bin .neq (.t 5) (.c (.f (.v (.int .i64 0)))))])))
   (.cond (.t 6)
    (.seq (.ops [.a 2 (.mv (.c (.f (.v (.slice none 0 0))))),
 .a 3 (.mv (.c (.f (.v (.bool false)))))])
    .ret)
    .skip))
  (.seq (.ops ([.a 7 (.mv (.t 0)),
 .a 8 (.call (.c (.fn 49 [])) [(.t 7)])] ++
 ([.a 2 (.mv (.t 8)),
 .a 3 (.mv (.c (.f (.v (.bool true)))))])))
  .ret)))
theorem fn_dag_Order : Fn Try.prog 15 9 [.t 2, .t 3] s_dag_Order := ⟨_, _, Try.func15, rfl, rfl, by kernel_rfl, by kernel_rfl⟩

/-- cutover.dag.Check -/
def s_dag_Check : SCode :=
  (.seq (.ops [.a 2 (.mv (.c (.f (.v (.int .i64 0)))))])
  (.seq (.seq (.ops ([.a 5 (.mv (.t 0)),
 .a 6 (.slen (.t 5)),
 .a 7 (.bin .lss (.t 6) (.c (.f (.v (.int .i64 1)))))] ++
 ([.a 8 (.mv (.t 7)),
 .g (some 9) (.mv (.t 0)) 8 false] ++
 ([.g (some 10) (.slen (.t 9)) 8 false,
 .g (some 11) (.bin .gtr (.t 10) (.c (.f (.v (.int .i64 8))))) 8 false] ++
 ([.a 12 (.pick (.t 8) (.c (.f (.v (.bool true)))) (.t 11))])))))
   (.cond (.t 12)
    (.seq (.ops [.a 2 (.mv (.c (.f (.v (.int .i64 1)))))])
    .ret)
    .skip))
  (.seq (.seq (.ops [.a 13 (.mv (.t 0)),
 .a 14 (.slen (.t 13)),
 .a 15 (.mv (.c (.f (.v (.int .i64 0)))))])
   (.block 0 (.loop
     (.seq (.ops [.a 16 (.bin .lss (.t 15) (.t 14))])
     (.seq (.cond (.t 16)
       .skip
       (.exit 0))
     (.seq (.block 1 (.seq (.ops [.a 17 (.idx 3 (.t 13) (.t 15)),
 .a 18 (.loadA 3 (.t 17)),
 .a 4 (.alloc 53 [(.f (.v (.slice none 0 0))), (.f (.v (.int .i64 0))), (.f (.v (.int .i64 0)))]),
 .n (.store 3 (.t 4) (.t 18))])
       (.seq (.ops ([.a 19 (.loadA 3 (.t 4)),
 .a 20 (.mv (.t 0)),
 .a 21 (.slen (.t 20)),
 .a 22 (.call (.c (.fn 50 [])) [(.t 19), (.t 21)])] ++
 ([.a 23 (.unot (.t 22))])))
       (.cond (.t 23)
        (.seq (.ops [.a 2 (.mv (.c (.f (.v (.int .i64 1)))))])
        .ret)
        .skip))))
     (.ops [.a 24 (.bin .add (.t 15) (.c (.f (.v (.int .i64 1))))),
 .a 15 (.mv (.t 24))])))))))
  (.seq (.seq (.ops ([.a 25 (.mv (.t 0)),
 .a 26 (.call (.c (.fn 49 [])) [(.t 25)])] ++
 ([.a 27 (.slen (.t 26)),
 .a 28 (.mv (.t 0)),
 .a 29 (.slen (.t 28)),
 .a 30 (.bin .lss (.t 27) (.t 29))])))
   (.cond (.t 30)
    (.seq (.ops [.a 2 (.mv (.c (.f (.v (.int .i64 9)))))])
    .ret)
    .skip))
  (.seq (.ops [.a 2 (.mv (.c (.f (.v (.int .i64 0)))))])
  .ret)))))
theorem fn_dag_Check : Fn Try.prog 17 31 [.t 2] s_dag_Check := ⟨_, _, Try.func17, rfl, rfl, by kernel_rfl, by kernel_rfl⟩

/-- cutover.dag.Ready -/
def s_dag_Ready : SCode :=
  (.seq (.ops [.a 4 (.mv (.c (.f (.v (.slice none 0 0)))))])
  (.seq (.ops [.a 5 (.mv (.c (.f (.v (.slice none 0 0)))))])
  (.seq (.seq (.ops ([.a 8 (.mv (.t 0)),
 .a 9 (.call (.c (.fn 17 [])) [(.t 8)])] ++
 ([.a 10 (.bin .neq (.t 9) (.c (.f (.v (.int .i64 0)))))])))
   (.cond (.t 10)
    (.seq (.ops [.a 4 (.mv (.c (.f (.v (.slice none 0 0)))))])
    .ret)
    .skip))
  (.seq (.seq (.ops [.a 11 (.mv (.t 0)),
 .a 12 (.slen (.t 11)),
 .a 13 (.mv (.c (.f (.v (.int .i64 0)))))])
   (.block 0 (.loop
     (.seq (.ops [.a 14 (.bin .lss (.t 13) (.t 12))])
     (.seq (.cond (.t 14)
       .skip
       (.exit 0))
     (.seq (.block 1 (.seq (.ops [.a 15 (.mv (.t 13)),
 .a 16 (.idx 3 (.t 11) (.t 13)),
 .a 17 (.loadA 3 (.t 16)),
 .a 7 (.alloc 53 [(.f (.v (.slice none 0 0))), (.f (.v (.int .i64 0))), (.f (.v (.int .i64 0)))]),
 .a 6 (.mv (.t 15)),
 .n (.store 3 (.t 7) (.t 17))])
       (.seq (.ops ([.a 18 (.mv (.t 6)),
 .a 19 (.mv (.t 1)),
 .a 20 (.slen (.t 19)),
 .a 21 (.bin .geq (.t 18) (.t 20))] ++
 ([.a 22 (.mv (.t 21)),
 .g (some 23) (.mv (.t 1)) 22 false] ++
 ([.g (some 24) (.mv (.t 6)) 22 false,
 .g (some 25) (.idx 1 (.t 23) (.t 24)) 22 false,
 .g (some 26) (.load1 (.t 25)) 22 false,
 .g (some 27) (.unot (.t 26)) 22 false,
 .a 28 (.pick (.t 22) (.c (.f (.v (.bool true)))) (.t 27)),
 .a 29 (.mv (.t 28)),
 .g (some 30) (.off 0 (.t 7)) 29 true] ++
 ([.g (some 31) (.load1 (.t 30)) 29 true,
 .g (some 32) (.mv (.t 1)) 29 true,
 .g (some 33) (.call (.c (.fn 51 [])) [(.t 31), (.t 32)]) 29 true] ++
 ([.a 34 (.pick (.t 29) (.t 33) (.c (.f (.v (.bool false)))))]))))))
       (.cond (.t 34)
        (.ops ([.a 35 (.mv (.t 5)),
 .a 36 (.mv (.t 6)),
 .a 37 (.bsl 3 1 1 [(.f (.v (.int .i64 0)))] [(0, (.t 36))]),
 .a 38 (.app 3 1 8 (.t 35) (.t 37))] ++
 ([.a 5 (.mv (.t 38))])))
        .skip))))
     (.ops [.a 39 (.bin .add (.t 13) (.c (.f (.v (.int .i64 1))))),
 .a 13 (.mv (.t 39))])))))))
  (.seq (.ops [.a 40 (.mv (.t 5)),
 .a 4 (.mv (.t 40))])
  .ret)))))
theorem fn_dag_Ready : Fn Try.prog 18 41 [.t 4] s_dag_Ready := ⟨_, _, Try.func18, rfl, rfl, by kernel_rfl, by kernel_rfl⟩

/-- cutover.dag.Depth -/
def s_dag_Depth : SCode :=
  (.seq (.ops [.a 2 (.mv (.c (.f (.v (.int .i64 0)))))])
  (.seq (.seq (.ops ([.a 8 (.mv (.t 0)),
 .a 9 (.call (.c (.fn 17 [])) [(.t 8)])] ++
 ([.a 10 (.bin .neq (.t 9) (.c (.f (.v (.int .i64 0)))))])))
   (.cond (.t 10)
    (.seq (.ops [.a 2 (.mv (.c (.f (.v (.int .i64 0)))))])
    .ret)
    .skip))
  (.seq (.ops [.a 11 (.mv (.t 0)),
 .a 12 (.slen (.t 11)),
 .a 13 (.mkslice 3 1 8 [(.v (.int .i64 0))] (.t 12) (.t 12)),
 .a 3 (.mv (.t 13))])
  (.seq (.seq (.ops ([.a 14 (.mv (.t 0)),
 .a 15 (.call (.c (.fn 49 [])) [(.t 14)])] ++
 ([.a 16 (.slen (.t 15)),
 .a 17 (.mv (.c (.f (.v (.int .i64 0)))))])))
   (.block 0 (.loop
     (.seq (.ops [.a 18 (.bin .lss (.t 17) (.t 16))])
     (.seq (.cond (.t 18)
       .skip
       (.exit 0))
     (.seq (.block 1 (.seq (.ops [.a 19 (.idx 1 (.t 15) (.t 17)),
 .a 20 (.load1 (.t 19)),
 .a 5 (.mv (.t 20))])
       (.seq (.seq (.ops [.a 21 (.mv (.t 0)),
 .a 22 (.mv (.t 5)),
 .a 23 (.idx 3 (.t 21) (.t 22)),
 .a 24 (.off 0 (.t 23)),
 .a 25 (.load1 (.t 24)),
 .a 26 (.slen (.t 25)),
 .a 27 (.mv (.c (.f (.v (.int .i64 0)))))])
        (.block 2 (.loop
          (.seq (.ops [.a 28 (.bin .lss (.t 27) (.t 26))])
          (.seq (.cond (.t 28)
            .skip
            (.exit 2))
          (.seq (.block 3 (.seq (.ops [.a 29 (.idx 1 (.t 25) (.t 27)),
 .a 30 (.load1 (.t 29)),
 .a 7 (.mv (.t 30))])
            (.drw [.a 31 (.mv (.t 3)),
              .a 32 (.mv (.t 5)),
              .a 33 (.mv (.t 3)),
              .a 34 (.mv (.t 5)),
              .a 35 (.idx 1 (.t 33) (.t 34)),
              .a 36 (.load1 (.t 35)),
              .a 37 (.mv (.t 3)),
              .a 38 (.mv (.t 7)),
              .a 39 (.idx 1 (.t 37) (.t 38)),
              .a 40 (.load1 (.t 39)),
              .a 41 (.mm true (.t 36) (.t 40)),
              .a 42 (.idx 1 (.t 31) (.t 32)),
              .n (.store 1 (.t 42) (.t 41))] [0, 0, 0, 0, 12, 28, 0, 0, 192, 448, 1020, 2047, 4095])))
          (.ops [.a 43 (.bin .add (.t 27) (.c (.f (.v (.int .i64 1))))),
 .a 27 (.mv (.t 43))])))))))
       (.ops [.a 44 (.mv (.t 3)),
 .a 45 (.mv (.t 5)),
 .a 46 (.idx 1 (.t 44) (.t 45)),
 .a 47 (.load1 (.t 46)),
 .a 48 (.bin .add (.t 47) (.c (.f (.v (.int .i64 1))))),
 .a 49 (.idx 1 (.t 44) (.t 45)),
 .n (.store 1 (.t 49) (.t 48))]))))
     (.ops [.a 50 (.bin .add (.t 17) (.c (.f (.v (.int .i64 1))))),
 .a 17 (.mv (.t 50))])))))))
  (.seq (.ops ([.a 51 (.mv (.t 3)),
 .a 52 (.call (.c (.fn 58 [])) [(.t 51)])] ++
 ([.a 2 (.mv (.t 52))])))
  .ret)))))
theorem fn_dag_Depth : Fn Try.prog 32 53 [.t 2] s_dag_Depth := ⟨_, _, Try.func32, rfl, rfl, by kernel_rfl, by kernel_rfl⟩

/-- cutover.dag.Ahead -/
def s_dag_Ahead : SCode :=
  (.seq (.ops [.a 4 (.mv (.c (.f (.v (.slice none 0 0)))))])
  (.seq (.seq (.ops ([.a 8 (.mv (.t 0)),
 .a 9 (.call (.c (.fn 17 [])) [(.t 8)])] ++
 ([.a 10 (.bin .neq (.t 9) (.c (.f (.v (.int .i64 0)))))] ++
 ([.a 11 (.mv (.t 10)),
 .g (some 12) (.mv (.t 1)) 11 false] ++
 ([.g (some 13) (.bin .lss (.t 12) (.c (.f (.v (.int .i64 0))))) 11 false] ++
 ([.a 14 (.pick (.t 11) (.c (.f (.v (.bool true)))) (.t 13)),
 .a 15 (.mv (.t 14)),
 .g (some 16) (.mv (.t 1)) 15 false] ++
 ([.g (some 17) (.mv (.t 0)) 15 false,
 .g (some 18) (.slen (.t 17)) 15 false,
 .g (some 19) (.bin .geq (.t 16) (.t 18)) 15 false] ++
 ([.a 20 (.pick (.t 15) (.c (.f (.v (.bool true)))) (.t 19))]))))))))
   (.cond (.t 20)
    (.seq (.ops [.a 4 (.mv (.c (.f (.v (.slice none 0 0)))))])
    .ret)
    .skip))
  (.seq (.ops [.a 5 (.mv (.c (.f (.v (.slice none 0 0)))))])
  (.seq (.ops ([.a 21 (.mv (.t 0)),
 .a 22 (.mv (.t 1)),
 .a 23 (.idx 3 (.t 21) (.t 22)),
 .a 24 (.off 0 (.t 23)),
 .a 25 (.load1 (.t 24)),
 .a 26 (.call (.c (.fn 59 [])) [(.t 25)])] ++
 ([.a 6 (.mv (.t 26))])))
  (.seq (.block 0 (.loop
     (.seq (.seq (.ops [.a 27 (.mv (.t 6)),
 .a 28 (.slen (.t 27)),
 .a 29 (.bin .gtr (.t 28) (.c (.f (.v (.int .i64 0)))))])
      (.cond (.t 29)
       .skip
       (.exit 0)))
     (.block 1 (.seq (.ops [.a 30 (.mv (.t 6)),
 .a 31 (.idx 1 (.t 30) (.c (.f (.v (.int .i64 0))))),
 .a 32 (.load1 (.t 31)),
 .a 7 (.mv (.t 32))])
      (.seq (.ops [.a 33 (.mv (.t 6)),
 .a 34 (.sub 1 3 (.t 33) (some (.c (.f (.v (.int .i64 1))))) none none),
 .a 6 (.mv (.t 34))])
      (.seq (.ops ([.a 35 (.mv (.t 5)),
 .a 36 (.mv (.t 7)),
 .a 37 (.call (.c (.fn 60 [])) [(.t 35), (.t 36)])] ++
 ([.a 38 (.unot (.t 37))])))
      (.cond (.t 38)
       (.seq (.ops ([.a 39 (.mv (.t 5)),
 .a 40 (.mv (.t 7)),
 .a 41 (.bsl 3 1 1 [(.f (.v (.int .i64 0)))] [(0, (.t 40))]),
 .a 42 (.app 3 1 8 (.t 39) (.t 41))] ++
 ([.a 5 (.mv (.t 42))])))
       (.ops ([.a 43 (.mv (.t 6)),
 .a 44 (.mv (.t 0)),
 .a 45 (.mv (.t 7)),
 .a 46 (.idx 3 (.t 44) (.t 45)),
 .a 47 (.off 0 (.t 46)),
 .a 48 (.load1 (.t 47)),
 .a 49 (.app 3 1 8 (.t 43) (.t 48))] ++
 ([.a 6 (.mv (.t 49))]))))
       .skip))))))))
  (.seq (.ops [.a 50 (.mv (.t 5)),
 .a 51 (.call (.c (.fn 61 [])) [(.t 50)])])
  (.seq (.ops [.a 52 (.mv (.t 5)),
 .a 4 (.mv (.t 52))])
  .ret)))))))
theorem fn_dag_Ahead : Fn Try.prog 33 53 [.t 4] s_dag_Ahead := ⟨_, _, Try.func33, rfl, rfl, by kernel_rfl, by kernel_rfl⟩

/-- slices.Clone[[]int,int] -/
def s_int_Clone : SCode :=
  (.seq (.ops [.a 2 (.mv (.c (.f (.v (.slice none 0 0)))))])
  (.seq (.seq (.ops [.a 3 (.mv (.t 0)),
 .a 4 (.nilq true 0 (.t 3) (.c (.f (.v (.slice none 0 0)))))])
   (.cond (.t 4)
    (.seq (.ops [.a 2 (.mv (.c (.f (.v (.slice none 0 0)))))])
    .ret)
    .skip))
  (.seq (.ops ([.a 5 (.bsl 3 1 0 [] []),
 .a 6 (.mv (.t 0)),
 .a 7 (.app 3 1 8 (.t 5) (.t 6))] ++
 ([.a 2 (.mv (.t 7))])))
  .ret)))
theorem fn_int_Clone : Fn Try.prog 59 8 [.t 2] s_int_Clone := ⟨_, _, Try.func59, rfl, rfl, by kernel_rfl, by kernel_rfl⟩

/-- slices.Contains[[]int,int] -/
def s_int_Contains : SCode :=
  (.seq (.ops [.a 4 (.mv (.c (.f (.v (.bool false)))))])
  (.seq (.ops ([.a 5 (.mv (.t 0)),
 .a 6 (.mv (.t 1)),
 .a 7 (.call (.c (.fn 73 [])) [(.t 5), (.t 6)])] ++
 ([.a 8 (.bin .geq (.t 7) (.c (.f (.v (.int .i64 0)))))] ++
 ([.a 4 (.mv (.t 8))]))))
  .ret))
theorem fn_int_Contains : Fn Try.prog 60 9 [.t 4] s_int_Contains := ⟨_, _, Try.func60, rfl, rfl, by kernel_rfl, by kernel_rfl⟩

/-- slices.Index[[]int,int] -/
def s_int_Index : SCode :=
  (.seq (.ops [.a 4 (.mv (.c (.f (.v (.int .i64 0)))))])
  (.seq (.seq (.ops [.a 6 (.mv (.t 0)),
 .a 7 (.slen (.t 6)),
 .a 8 (.mv (.c (.f (.v (.int .i64 0)))))])
   (.block 0 (.loop
     (.seq (.ops [.a 9 (.bin .lss (.t 8) (.t 7))])
     (.seq (.cond (.t 9)
       .skip
       (.exit 0))
     (.seq (.block 1 (.seq (.ops [.a 10 (.mv (.t 8)),
 .a 5 (.mv (.t 10))])
       (.seq (.ops [.a 11 (.mv (.t 1)),
 .a 12 (.mv (.t 0)),
 .a 13 (.mv (.t 5)),
 .a 14 (.idx 1 (.t 12) (.t 13)),
 .a 15 (.load1 (.t 14)),
 .a 16 (.bin .eql (.t 11) (.t 15))])
       (.cond (.t 16)
        (.seq (.ops [.a 17 (.mv (.t 5)),
 .a 4 (.mv (.t 17))])
        .ret)
        .skip))))
     (.ops [.a 18 (.bin .add (.t 8) (.c (.f (.v (.int .i64 1))))),
 .a 8 (.mv (.t 18))])))))))
  (.seq (.ops [.a 4 (.mv (.c (.f (.v (.int .i64 (-1))))))])
  .ret)))
theorem fn_int_Index : Fn Try.prog 73 19 [.t 4] s_int_Index := ⟨_, _, Try.func73, rfl, rfl, by kernel_rfl, by kernel_rfl⟩

def rawsOf_CDag : SCode → List Oper
  | .ops l => l.filterMap fun i => match i.op with | .raw o => some o | _ => none
  | .drw l _ => l.filterMap fun i => match i.op with | .raw o => some o | _ => none
  | .seq a b => rawsOf_CDag a ++ rawsOf_CDag b
  | .cond _ a b => rawsOf_CDag a ++ rawsOf_CDag b
  | .block _ a => rawsOf_CDag a
  | .loop a => rawsOf_CDag a
  | _ => []
def rawAt_CDag (P : Program) (f : FuncId) (k : Nat) : SOp := (((P.funcs[f]?).bind fun fn => fn.body).bind fun b => (rawsOf_CDag (compC P b))[k]?).elim (.mv (.t 0)) .raw

/-- slices.Max[[]int,int] -/
def s_int_Max (P : Program) : SCode :=
  (.seq (.ops [.a 2 (.mv (.c (.f (.v (.int .i64 0)))))])
  (.seq (.seq (.ops [.a 5 (.mv (.t 0)),
 .a 6 (.slen (.t 5)),
 .a 7 (.bin .lss (.t 6) (.c (.f (.v (.int .i64 1)))))])
   (.cond (.t 7)
    (.ops [.a 8 (rawAt_CDag P 58 0),
 .n (rawAt_CDag P 58 1)])
    .skip))
  (.seq (.ops [.a 9 (.mv (.t 0)),
 .a 10 (.idx 1 (.t 9) (.c (.f (.v (.int .i64 0))))),
 .a 11 (.load1 (.t 10)),
 .a 3 (.mv (.t 11))])
  (.seq (.seq (.ops [.a 4 (.mv (.c (.f (.v (.int .i64 1)))))])
   (.block 0 (.loop
     (.seq (.seq (.ops [.a 12 (.mv (.t 4)),
 .a 13 (.mv (.t 0)),
 .a 14 (.slen (.t 13)),
 .a 15 (.bin .lss (.t 12) (.t 14))])
      (.cond (.t 15)
       .skip
       (.exit 0)))
     (.seq (.block 1 (.ops [.a 18 (.mv (.t 3)),
 .a 19 (.mv (.t 0)),
 .a 20 (.mv (.t 4)),
 .a 21 (.idx 1 (.t 19) (.t 20)),
 .a 22 (.load1 (.t 21)),
 .a 23 (.mm true (.t 18) (.t 22)),
 .a 3 (.mv (.t 23))]))
     (.ops [.a 16 (.mv (.t 4)),
 .a 17 (.bin .add (.t 16) (.c (.f (.v (.int .i64 1))))),
 .a 4 (.mv (.t 17))]))))))
  (.seq (.ops [.a 24 (.mv (.t 3)),
 .a 2 (.mv (.t 24))])
  .ret)))))
theorem fn_int_Max : Fn Try.prog 58 25 [.t 2] (s_int_Max Try.prog) := ⟨_, _, Try.func58, rfl, rfl, by kernel_rfl, by kernel_rfl⟩

end Go.Proofs.Ytjhemkeilagnnaa.Mir
