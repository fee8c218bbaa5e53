/- Functions of the program, told without it. -/
import Derived.Test.YtjhemkeilagnnaaL
namespace Go.Proofs.Ytjhemkeilagnnaa.Mir
open Go Go.RowKit

/-- cutover.disk.New -/
def s_disk_New : SCode :=
  (.seq (.ops [.a 0 (.mv (.c (.f (.v (.pointer none)))))])
  (.seq (.ops [.a 1 (.mkmap),
 .a 2 (.mkmap),
 .a 3 (.bld [(.f (.v (.map none))), (.f (.v (.map none))), (.f (.v (.slice none 0 0))), (.f (.v (.int .i64 0))), (.f (.v (.bool false))), (.f (.v (.int .i64 0)))] [(0, 1, (.t 1)), (1, 1, (.t 2)), (3, 1, (.c (.f (.v (.int .i64 (-1))))))]),
 .a 4 (.box 78 (.t 3)),
 .a 0 (.mv (.t 4))])
  .ret))
theorem fn_disk_New : Fn Try.prog 19 5 [.t 0] s_disk_New := ⟨_, _, Try.func19, rfl, rfl, by kernel_rfl, by kernel_rfl⟩

/-- (cutover.disk.files).do -/
def s_disk_do : SCode :=
  (.seq (.ops [.a 3 (.box 82 (.t 1))])
  (.seq (.seq (.ops [.a 4 (.off 1 (.t 3)),
 .a 5 (.load1 (.t 4)),
 .a 6 (.slen (.t 5)),
 .a 7 (.bin .eql (.t 6) (.c (.f (.v (.int .i64 0)))))])
   (.cond (.t 7)
    (.seq (.ops [.a 8 (.mv (.t 0)),
 .a 9 (.off 0 (.t 3)),
 .a 10 (.load1 (.t 9)),
 .n (.mdel 3 (.t 8) (.t 10))])
    .ret)
    .skip))
  (.drw [.a 11 (.mv (.t 0)),
    .a 12 (.off 0 (.t 3)),
    .a 13 (.load1 (.t 12)),
    .a 14 (.mv (.t 0)),
    .a 15 (.off 0 (.t 3)),
    .a 16 (.load1 (.t 15)),
    .a 17 (.look false 3 (.f (.v (.slice none 0 0))) (.t 14) (.t 16)),
    .a 18 (.call (.c (.fn 54 [])) [(.t 17)]),
    .a 19 (.off 1 (.t 3)),
    .a 20 (.load1 (.t 19)),
    .a 21 (.app 5 1 1 (.t 18) (.t 20)),
    .n (.mput 3 (.t 11) (.t 13) (.t 21))] [0, 0, 2, 0, 0, 16, 56, 120, 0, 256, 1016, 2047])))
theorem fn_disk_do : Fn Try.prog 56 22 [] s_disk_do := ⟨_, _, Try.func56, rfl, rfl, by kernel_rfl, by kernel_rfl⟩

/-- (*cutover.disk.Disk).work -/
def s_disk_work : SCode :=
  (.seq (.ops [.a 2 (.mv (.c (.f (.v (.int .i64 0)))))])
  (.seq (.seq (.ops [.a 3 (.mv (.t 0)),
 .a 4 (.nilc (.t 3)),
 .a 5 (.off 3 (.t 4)),
 .a 6 (.load1 (.t 5)),
 .a 7 (.bin .eql (.t 6) (.c (.f (.v (.int .i64 0)))))])
   (.cond (.t 7)
    (.ops [.a 8 (.mv (.t 0)),
 .a 9 (.nilc (.t 8)),
 .a 10 (.off 4 (.t 9)),
 .n (.store 1 (.t 10) (.c (.f (.v (.bool true)))))])
    .skip))
  (.seq (.seq (.ops [.a 11 (.mv (.t 0)),
 .a 12 (.nilc (.t 11)),
 .a 13 (.off 4 (.t 12)),
 .a 14 (.load1 (.t 13))])
   (.cond (.t 14)
    (.seq (.ops [.a 2 (.mv (.c (.f (.v (.int .i64 14)))))])
    .ret)
    .skip))
  (.seq (.seq (.ops [.a 15 (.mv (.t 0)),
 .a 16 (.nilc (.t 15)),
 .a 17 (.off 3 (.t 16)),
 .a 18 (.load1 (.t 17)),
 .a 19 (.bin .gtr (.t 18) (.c (.f (.v (.int .i64 0)))))])
   (.cond (.t 19)
    (.ops [.a 20 (.mv (.t 0)),
 .a 21 (.nilc (.t 20)),
 .a 22 (.off 3 (.t 21)),
 .a 23 (.load1 (.t 22)),
 .a 24 (.bin .sub (.t 23) (.c (.f (.v (.int .i64 1))))),
 .a 25 (.nilc (.t 20)),
 .a 26 (.off 3 (.t 25)),
 .n (.store 1 (.t 26) (.t 24))])
    .skip))
  (.seq (.ops [.a 27 (.mv (.t 0)),
 .a 28 (.nilc (.t 27)),
 .a 29 (.off 5 (.t 28)),
 .a 30 (.load1 (.t 29)),
 .a 31 (.bin .add (.t 30) (.c (.f (.v (.int .i64 1))))),
 .a 32 (.nilc (.t 27)),
 .a 33 (.off 5 (.t 32)),
 .n (.store 1 (.t 33) (.t 31))])
  (.seq (.ops [.a 2 (.mv (.c (.f (.v (.int .i64 0)))))])
  .ret))))))
theorem fn_disk_work : Fn Try.prog 52 34 [.t 2] s_disk_work := ⟨_, _, Try.func52, rfl, rfl, by kernel_rfl, by kernel_rfl⟩

/-- (*cutover.disk.Disk).put -/
def s_disk_put : SCode :=
  (.seq (.ops [.a 3 (.box 82 (.t 1))])
  (.seq (.drw [.a 4 (.mv (.t 0)),
     .a 5 (.mv (.t 0)),
     .a 6 (.nilc (.t 5)),
     .a 7 (.off 2 (.t 6)),
     .a 8 (.load1 (.t 7)),
     .a 9 (.loadA 2 (.t 3)),
     .a 10 (.bsl 82 2 1 [(.f (.v (.int .i64 0))), (.f (.v (.slice none 0 0)))] [(0, (.t 9))]),
     .a 11 (.app 82 2 32 (.t 8) (.t 10)),
     .a 12 (.nilc (.t 4)),
     .a 13 (.off 2 (.t 12)),
     .n (.store 1 (.t 13) (.t 11))] [0, 0, 2, 6, 14, 0, 32, 126, 255, 511, 1023])
  (.drw [.a 14 (.mv (.t 0)),
    .a 15 (.nilc (.t 14)),
    .a 16 (.off 1 (.t 15)),
    .a 17 (.load1 (.t 16)),
    .a 18 (.loadA 2 (.t 3)),
    .a 19 (.call (.c (.fn 56 [])) [(.t 17), (.t 18)])] [0, 1, 3, 7, 0, 31])))
theorem fn_disk_put : Fn Try.prog 53 20 [] s_disk_put := ⟨_, _, Try.func53, rfl, rfl, by kernel_rfl, by kernel_rfl⟩

/-- (*cutover.disk.Disk).Append -/
def s_disk_Append : SCode :=
  (.seq (.ops [.a 6 (.mv (.c (.f (.v (.int .i64 0)))))])
  (.seq (.seq (.ops [.a 8 (.mv (.t 1)),
 .a 9 (.bin .lss (.t 8) (.c (.f (.v (.int .i64 0)))))])
   (.cond (.t 9)
    (.seq (.ops [.a 6 (.mv (.c (.f (.v (.int .i64 1)))))])
    .ret)
    .skip))
  (.seq (.seq (.ops ([.a 10 (.mv (.t 0)),
 .a 11 (.call (.c (.fn 52 [])) [(.t 10)])] ++
 ([.a 7 (.mv (.t 11))])))
   (.seq (.ops [.a 12 (.mv (.t 7)),
 .a 13 (.bin .neq (.t 12) (.c (.f (.v (.int .i64 0)))))])
   (.cond (.t 13)
    (.seq (.ops [.a 14 (.mv (.t 7)),
 .a 6 (.mv (.t 14))])
    .ret)
    .skip)))
  (.seq (.seq (.ops [.a 15 (.mv (.t 2)),
 .a 16 (.slen (.t 15)),
 .a 17 (.bin .gtr (.t 16) (.c (.f (.v (.int .i64 0)))))])
   (.cond (.t 17)
    (.ops ([.a 18 (.mv (.t 0)),
 .a 19 (.mv (.t 1)),
 .a 20 (.mv (.t 2)),
 .a 21 (.call (.c (.fn 54 [])) [(.t 20)])] ++
 ([.a 22 (.bld [(.f (.v (.int .i64 0))), (.f (.v (.slice none 0 0)))] [(0, 1, (.t 19)), (1, 1, (.t 21))]),
 .a 23 (.call (.c (.fn 53 [])) [(.t 18), (.t 22)])])))
    .skip))
  (.seq (.ops [.a 6 (.mv (.c (.f (.v (.int .i64 0)))))])
  .ret)))))
theorem fn_disk_Append : Fn Try.prog 21 24 [.t 6] s_disk_Append := ⟨_, _, Try.func21, rfl, rfl, by kernel_rfl, by kernel_rfl⟩

/-- (*cutover.disk.Disk).Remove -/
def s_disk_Remove : SCode :=
  (.seq (.ops [.a 4 (.mv (.c (.f (.v (.int .i64 0)))))])
  (.seq (.seq (.ops [.a 6 (.mv (.t 1)),
 .a 7 (.bin .lss (.t 6) (.c (.f (.v (.int .i64 0)))))])
   (.cond (.t 7)
    (.seq (.ops [.a 4 (.mv (.c (.f (.v (.int .i64 1)))))])
    .ret)
    .skip))
  (.seq (.seq (.ops ([.a 8 (.mv (.t 0)),
 .a 9 (.call (.c (.fn 52 [])) [(.t 8)])] ++
 ([.a 5 (.mv (.t 9))])))
   (.seq (.ops [.a 10 (.mv (.t 5)),
 .a 11 (.bin .neq (.t 10) (.c (.f (.v (.int .i64 0)))))])
   (.cond (.t 11)
    (.seq (.ops [.a 12 (.mv (.t 5)),
 .a 4 (.mv (.t 12))])
    .ret)
    .skip)))
  (.seq (.seq (.ops [.a 13 (.mv (.t 0)),
 .a 14 (.nilc (.t 13)),
 .a 15 (.off 1 (.t 14)),
 .a 16 (.load1 (.t 15)),
 .a 17 (.mv (.t 1)),
 .a 18 (.look false 3 (.f (.v (.slice none 0 0))) (.t 16) (.t 17)),
 .a 19 (.slen (.t 18)),
 .a 20 (.bin .gtr (.t 19) (.c (.f (.v (.int .i64 0)))))])
   (.cond (.t 20)
    (.ops [.a 21 (.mv (.t 0)),
 .a 22 (.mv (.t 1)),
 .a 23 (.bld [(.f (.v (.int .i64 0))), (.f (.v (.slice none 0 0)))] [(0, 1, (.t 22))]),
 .a 24 (.call (.c (.fn 53 [])) [(.t 21), (.t 23)])])
    .skip))
  (.seq (.ops [.a 4 (.mv (.c (.f (.v (.int .i64 0)))))])
  .ret)))))
theorem fn_disk_Remove : Fn Try.prog 27 25 [.t 4] s_disk_Remove := ⟨_, _, Try.func27, rfl, rfl, by kernel_rfl, by kernel_rfl⟩

/-- (*cutover.disk.Disk).Sync -/
def s_disk_Sync : SCode :=
  (.seq (.ops [.a 2 (.mv (.c (.f (.v (.int .i64 0)))))])
  (.seq (.seq (.ops ([.a 4 (.mv (.t 0)),
 .a 5 (.call (.c (.fn 52 [])) [(.t 4)])] ++
 ([.a 3 (.mv (.t 5))])))
   (.seq (.ops [.a 6 (.mv (.t 3)),
 .a 7 (.bin .neq (.t 6) (.c (.f (.v (.int .i64 0)))))])
   (.cond (.t 7)
    (.seq (.ops [.a 8 (.mv (.t 3)),
 .a 2 (.mv (.t 8))])
    .ret)
    .skip)))
  (.seq (.ops ([.a 9 (.mv (.t 0)),
 .a 10 (.mv (.t 0)),
 .a 11 (.mv (.t 0)),
 .a 12 (.nilc (.t 11)),
 .a 13 (.off 1 (.t 12)),
 .a 14 (.load1 (.t 13)),
 .a 15 (.call (.c (.fn 57 [])) [(.t 14)])] ++
 ([.a 16 (.nilc (.t 9)),
 .a 17 (.off 0 (.t 16)),
 .n (.store 1 (.t 17) (.t 15)),
 .a 18 (.nilc (.t 10)),
 .a 19 (.off 2 (.t 18)),
 .n (.store 1 (.t 19) (.c (.f (.v (.slice none 0 0)))))])))
  (.seq (.ops [.a 2 (.mv (.c (.f (.v (.int .i64 0)))))])
  .ret))))
theorem fn_disk_Sync : Fn Try.prog 26 20 [.t 2] s_disk_Sync := ⟨_, _, Try.func26, rfl, rfl, by kernel_rfl, by kernel_rfl⟩

/-- (*cutover.disk.Disk).Crash -/
def s_disk_Crash : SCode :=
  (.seq (.ops ([.a 10 (.mv (.t 1)),
 .a 11 (.mv (.t 0)),
 .a 12 (.nilc (.t 11)),
 .a 13 (.off 2 (.t 12)),
 .a 14 (.load1 (.t 13)),
 .a 15 (.slen (.t 14)),
 .a 16 (.bin .add (.t 15) (.c (.f (.v (.int .i64 1))))),
 .a 17 (.call (.c (.fn 55 [])) [(.t 10), (.t 16)])] ++
 ([.a 6 (.mv (.t 17))])))
  (.seq (.seq (.ops [.a 18 (.mv (.t 0)),
 .a 19 (.nilc (.t 18)),
 .a 20 (.off 2 (.t 19)),
 .a 21 (.load1 (.t 20)),
 .a 22 (.slen (.t 21)),
 .a 23 (.mv (.c (.f (.v (.int .i64 0)))))])
   (.block 0 (.loop
     (.seq (.ops [.a 24 (.bin .lss (.t 23) (.t 22))])
     (.seq (.cond (.t 24)
       .skip
       (.exit 0))
     (.seq (.block 1 (.seq (.ops [.a 25 (.mv (.t 23)),
 .a 26 (.idx 2 (.t 21) (.t 23)),
 .a 27 (.loadA 2 (.t 26)),
 .a 8 (.alloc 82 [(.f (.v (.int .i64 0))), (.f (.v (.slice none 0 0)))]),
 .a 7 (.mv (.t 25)),
 .n (.store 2 (.t 8) (.t 27))])
       (.block 2 (.seq (.ops ([.a 29 (.mv (.t 7)),
 .a 30 (.mv (.t 6)),
 .a 31 (.bin .lss (.t 29) (.t 30))] ++
 ([.a 28 (.mv (.t 31))])))
        (.cond (.t 28)
         (.drw [.a 32 (.mv (.t 0)),
           .a 33 (.nilc (.t 32)),
           .a 34 (.off 0 (.t 33)),
           .a 35 (.load1 (.t 34)),
           .a 36 (.loadA 2 (.t 8)),
           .a 37 (.call (.c (.fn 56 [])) [(.t 35), (.t 36)])] [0, 1, 3, 7, 0, 31])
         (.seq (.ops ([.a 39 (.mv (.t 7)),
 .a 40 (.mv (.t 6)),
 .a 41 (.bin .eql (.t 39) (.t 40))] ++
 ([.a 42 (.mv (.t 41)),
 .g (some 43) (.off 1 (.t 8)) 42 true] ++
 ([.g (some 44) (.load1 (.t 43)) 42 true,
 .g (some 45) (.slen (.t 44)) 42 true,
 .g (some 46) (.bin .gtr (.t 45) (.c (.f (.v (.int .i64 0))))) 42 true] ++
 ([.a 47 (.pick (.t 42) (.t 46) (.c (.f (.v (.bool false))))),
 .a 38 (.mv (.t 47))])))))
         (.cond (.t 38)
          (.seq (.drw [.a 48 (.off 1 (.t 8)),
             .a 49 (.load1 (.t 48)),
             .a 50 (.mv (.t 2)),
             .a 51 (.off 1 (.t 8)),
             .a 52 (.load1 (.t 51)),
             .a 53 (.slen (.t 52)),
             .a 54 (.bin .add (.t 53) (.c (.f (.v (.int .i64 1))))),
             .a 55 (.call (.c (.fn 55 [])) [(.t 50), (.t 54)]),
             .a 56 (.sub 1 5 (.t 49) none (some (.t 55)) none),
             .a 9 (.mv (.t 56))] [0, 1, 0, 0, 8, 24, 56, 124, 255, 511])
          (.seq (.ops [.a 57 (.mv (.t 9)),
 .a 58 (.slen (.t 57)),
 .a 59 (.bin .gtr (.t 58) (.c (.f (.v (.int .i64 0)))))])
          (.cond (.t 59)
           (.drw [.a 60 (.mv (.t 0)),
             .a 61 (.nilc (.t 60)),
             .a 62 (.off 0 (.t 61)),
             .a 63 (.load1 (.t 62)),
             .a 64 (.off 0 (.t 8)),
             .a 65 (.load1 (.t 64)),
             .a 66 (.mv (.t 9)),
             .a 67 (.bld [(.f (.v (.int .i64 0))), (.f (.v (.slice none 0 0)))] [(0, 1, (.t 65)), (1, 1, (.t 66))]),
             .a 68 (.call (.c (.fn 56 [])) [(.t 63), (.t 67)])] [0, 1, 3, 7, 0, 16, 0, 112, 255])
           .skip)))
          .skip)))))))
     (.ops [.a 69 (.bin .add (.t 23) (.c (.f (.v (.int .i64 1))))),
 .a 23 (.mv (.t 69))])))))))
  (.ops ([.a 70 (.mv (.t 0)),
 .a 71 (.mv (.t 0)),
 .a 72 (.mv (.t 0)),
 .a 73 (.mv (.t 0)),
 .a 74 (.mv (.t 0)),
 .a 75 (.nilc (.t 74)),
 .a 76 (.off 0 (.t 75)),
 .a 77 (.load1 (.t 76)),
 .a 78 (.call (.c (.fn 57 [])) [(.t 77)])] ++
 ([.a 79 (.nilc (.t 70)),
 .a 80 (.off 1 (.t 79)),
 .n (.store 1 (.t 80) (.t 78)),
 .a 81 (.nilc (.t 71)),
 .a 82 (.off 2 (.t 81)),
 .n (.store 1 (.t 82) (.c (.f (.v (.slice none 0 0))))),
 .a 83 (.nilc (.t 72)),
 .a 84 (.off 4 (.t 83)),
 .n (.store 1 (.t 84) (.c (.f (.v (.bool false))))),
 .a 85 (.nilc (.t 73)),
 .a 86 (.off 3 (.t 85)),
 .n (.store 1 (.t 86) (.c (.f (.v (.int .i64 (-1))))))])))))
theorem fn_disk_Crash : Fn Try.prog 24 87 [] s_disk_Crash := ⟨_, _, Try.func24, rfl, rfl, by kernel_rfl, by kernel_rfl⟩

/-- (*cutover.disk.Disk).Read -/
def s_disk_Read : SCode :=
  (.seq (.ops [.a 4 (.mv (.c (.f (.v (.slice none 0 0)))))])
  (.seq (.seq (.ops [.a 5 (.mv (.t 0)),
 .a 6 (.nilc (.t 5)),
 .a 7 (.off 4 (.t 6)),
 .a 8 (.load1 (.t 7))])
   (.cond (.t 8)
    (.seq (.ops [.a 4 (.mv (.c (.f (.v (.slice none 0 0)))))])
    .ret)
    .skip))
  (.seq (.ops ([.a 9 (.mv (.t 0)),
 .a 10 (.nilc (.t 9)),
 .a 11 (.off 1 (.t 10)),
 .a 12 (.load1 (.t 11)),
 .a 13 (.mv (.t 1)),
 .a 14 (.look false 3 (.f (.v (.slice none 0 0))) (.t 12) (.t 13)),
 .a 15 (.call (.c (.fn 54 [])) [(.t 14)])] ++
 ([.a 4 (.mv (.t 15))])))
  .ret)))
theorem fn_disk_Read : Fn Try.prog 25 16 [.t 4] s_disk_Read := ⟨_, _, Try.func25, rfl, rfl, by kernel_rfl, by kernel_rfl⟩

/-- cutover.disk.rest -/
def s_disk_rest : SCode :=
  (.seq (.ops [.a 4 (.mv (.c (.f (.v (.int .i64 0)))))])
  (.seq (.ops [.a 5 (.mv (.t 0)),
 .a 6 (.mv (.t 1)),
 .a 7 (.bin .rem (.t 5) (.t 6)),
 .a 8 (.mv (.t 1)),
 .a 9 (.bin .add (.t 7) (.t 8)),
 .a 10 (.mv (.t 1)),
 .a 11 (.bin .rem (.t 9) (.t 10)),
 .a 4 (.mv (.t 11))])
  .ret))
theorem fn_disk_rest : Fn Try.prog 55 12 [.t 4] s_disk_rest := ⟨_, _, Try.func55, rfl, rfl, by kernel_rfl, by kernel_rfl⟩

/-- (*cutover.disk.Disk).Fuse -/
def s_disk_Fuse : SCode :=
  (.ops [.a 4 (.mv (.t 0)),
 .a 5 (.mv (.t 1)),
 .a 6 (.mm true (.t 5) (.c (.f (.v (.int .i64 (-1)))))),
 .a 7 (.nilc (.t 4)),
 .a 8 (.off 3 (.t 7)),
 .n (.store 1 (.t 8) (.t 6))])
theorem fn_disk_Fuse : Fn Try.prog 28 9 [] s_disk_Fuse := ⟨_, _, Try.func28, rfl, rfl, by kernel_rfl, by kernel_rfl⟩

/-- (*cutover.disk.Disk).Dead -/
def s_disk_Dead : SCode :=
  (.seq (.ops [.a 2 (.mv (.c (.f (.v (.bool false)))))])
  (.seq (.ops [.a 3 (.mv (.t 0)),
 .a 4 (.nilc (.t 3)),
 .a 5 (.off 4 (.t 4)),
 .a 6 (.load1 (.t 5)),
 .a 2 (.mv (.t 6))])
  .ret))
theorem fn_disk_Dead : Fn Try.prog 29 7 [.t 2] s_disk_Dead := ⟨_, _, Try.func29, rfl, rfl, by kernel_rfl, by kernel_rfl⟩

/-- (*cutover.disk.Disk).Works -/
def s_disk_Works : SCode :=
  (.seq (.ops [.a 2 (.mv (.c (.f (.v (.int .i64 0)))))])
  (.seq (.ops [.a 3 (.mv (.t 0)),
 .a 4 (.nilc (.t 3)),
 .a 5 (.off 5 (.t 4)),
 .a 6 (.load1 (.t 5)),
 .a 2 (.mv (.t 6))])
  .ret))
theorem fn_disk_Works : Fn Try.prog 30 7 [.t 2] s_disk_Works := ⟨_, _, Try.func30, rfl, rfl, by kernel_rfl, by kernel_rfl⟩

/-- (*cutover.disk.Disk).Pending -/
def s_disk_Pending : SCode :=
  (.seq (.ops [.a 2 (.mv (.c (.f (.v (.int .i64 0)))))])
  (.seq (.ops [.a 3 (.mv (.t 0)),
 .a 4 (.nilc (.t 3)),
 .a 5 (.off 2 (.t 4)),
 .a 6 (.load1 (.t 5)),
 .a 7 (.slen (.t 6)),
 .a 2 (.mv (.t 7))])
  .ret))
theorem fn_disk_Pending : Fn Try.prog 22 8 [.t 2] s_disk_Pending := ⟨_, _, Try.func22, rfl, rfl, by kernel_rfl, by kernel_rfl⟩

/-- slices.Clone[[]byte,byte] -/
def s_byte_Clone : SCode :=
  (.seq (.ops [.a 2 (.mv (.c (.f (.v (.slice none 0 0)))))])
  (.seq (.seq (.ops [.a 3 (.mv (.t 0)),
 .a 4 (.nilq true 0 (.t 3) (.c (.f (.v (.slice none 0 0)))))])
   (.cond (.t 4)
    (.seq (.ops [.a 2 (.mv (.c (.f (.v (.slice none 0 0)))))])
    .ret)
    .skip))
  (.seq (.ops ([.a 5 (.bsl 5 1 0 [] []),
 .a 6 (.mv (.t 0)),
 .a 7 (.app 5 1 1 (.t 5) (.t 6))] ++
 ([.a 2 (.mv (.t 7))])))
  .ret)))
theorem fn_byte_Clone : Fn Try.prog 54 8 [.t 2] s_byte_Clone := ⟨_, _, Try.func54, rfl, rfl, by kernel_rfl, by kernel_rfl⟩

end Go.Proofs.Ytjhemkeilagnnaa.Mir
