/-
  Slim code of functions, each held against the loaded program. Printed by vp.py.
-/
import Derived.Test.YtchmoleeajkioaaDoorProg
import Derived.KernelRfl
import Derived.Test.YtchmoleeajkioaaDoorSa
namespace Go.Proofs.YtchmoleeajkioaaDoor.V
open Go Go.RowKit
set_option linter.unusedSimpArgs false
set_option linter.unusedVariables false

/-- internal/stringslite.Index -/
def s84 : SC :=
  (.seq (.rg [⟨some 4, none, .mv (.c (.d (.int .i64 0)))⟩])
  (.seq (.rg [⟨some 14, none, .mv (.t 1)⟩,
  ⟨some 15, none, .sln (.t 14)⟩,
  ⟨some 5, none, .mv (.t 15)⟩])
  (.seq (.blk 0 (.seq (.rg [⟨some 17, none, .mv (.t 5)⟩,
  ⟨some 18, none, .bin .eql .i64 (.t 17) (.c (.d (.int .i64 0)))⟩,
  ⟨some 19, none, .mv (.t 18)⟩,
  ⟨some 20, some (19, false), .mv (.t 1)⟩,
  ⟨some 21, some (19, false), .mv (.t 0)⟩,
  ⟨some 22, some (19, false), .sbin .eql (.t 20) (.t 21)⟩,
  ⟨some 23, none, .pick (.t 19) (.c (.d (.bool true))) (.t 22)⟩,
  ⟨some 16, none, .mv (.t 23)⟩])
  (.cond (.t 16)
    (.seq (.rg [⟨some 4, none, .mv (.c (.d (.int .i64 0)))⟩])
    .ret)
    (.seq (.rg [⟨some 25, none, .mv (.t 5)⟩,
    ⟨some 26, none, .bin .eql .i64 (.t 25) (.c (.d (.int .i64 1)))⟩,
    ⟨some 24, none, .mv (.t 26)⟩])
    (.cond (.t 24)
      (.seq (.rg [⟨some 27, none, .mv (.t 0)⟩,
      ⟨some 28, none, .mv (.t 1)⟩,
      ⟨some 29, none, .ist (.t 28) (.c (.d (.int .i64 0)))⟩,
      ⟨some 30, none, .call 86 [(.t 27), (.t 29)]⟩,
      ⟨some 4, none, .mv (.t 30)⟩])
      .ret)
      (.seq (.rg [⟨some 32, none, .mv (.t 5)⟩,
      ⟨some 33, none, .mv (.t 0)⟩,
      ⟨some 34, none, .sln (.t 33)⟩,
      ⟨some 35, none, .bin .geq .i64 (.t 32) (.t 34)⟩,
      ⟨some 31, none, .mv (.t 35)⟩])
      (.cond (.t 31)
        (.seq (.rg [⟨some 4, none, .mv (.c (.d (.int .i64 (-1))))⟩])
        .ret)
        (.seq (.rg [⟨some 37, none, .mv (.t 5)⟩,
        ⟨some 38, none, .bad⟩,
        ⟨some 39, none, .bin .leq .i64 (.t 37) (.t 38)⟩,
        ⟨some 40, none, .mv (.t 39)⟩,
        ⟨some 41, some (40, true), .mv (.t 0)⟩,
        ⟨some 42, some (40, true), .sln (.t 41)⟩,
        ⟨some 43, some (40, true), .bin .leq .i64 (.t 42) (.c (.d (.int .i64 64)))⟩,
        ⟨some 44, none, .pick (.t 40) (.t 43) (.c (.d (.bool false)))⟩,
        ⟨some 36, none, .mv (.t 44)⟩])
        (.cond (.t 36)
          (.seq (.rg [⟨some 45, none, .mv (.t 0)⟩,
          ⟨some 46, none, .mv (.t 1)⟩,
          ⟨some 47, none, .call 87 [(.t 45), (.t 46)]⟩,
          ⟨some 4, none, .mv (.t 47)⟩])
          .ret)
          .skip)))))))))
  (.seq (.rg [⟨some 48, none, .mv (.t 1)⟩,
  ⟨some 49, none, .ist (.t 48) (.c (.d (.int .i64 0)))⟩,
  ⟨some 6, none, .mv (.t 49)⟩])
  (.seq (.rg [⟨some 50, none, .mv (.t 1)⟩,
  ⟨some 51, none, .ist (.t 50) (.c (.d (.int .i64 1)))⟩,
  ⟨some 7, none, .mv (.t 51)⟩])
  (.seq (.rg [⟨some 8, none, .mv (.c (.d (.int .i64 0)))⟩])
  (.seq (.rg [⟨some 52, none, .mv (.t 0)⟩,
  ⟨some 53, none, .sln (.t 52)⟩,
  ⟨some 54, none, .mv (.t 5)⟩,
  ⟨some 55, none, .bin .sub .i64 (.t 53) (.t 54)⟩,
  ⟨some 56, none, .bin .add .i64 (.t 55) (.c (.d (.int .i64 1)))⟩,
  ⟨some 9, none, .mv (.t 56)⟩])
  (.seq (.rg [⟨some 10, none, .mv (.c (.d (.int .i64 0)))⟩])
  (.seq (.blk 1 (.loop (.seq (.seq (.rg [⟨some 57, none, .mv (.t 8)⟩,
    ⟨some 58, none, .mv (.t 9)⟩,
    ⟨some 59, none, .bin .lss .i64 (.t 57) (.t 58)⟩])
    (.cond (.t 59)
      .skip
      (.exit 1)))
    (.blk 2 (.seq (.seq (.rg [⟨some 60, none, .mv (.t 0)⟩,
    ⟨some 61, none, .mv (.t 8)⟩,
    ⟨some 62, none, .ist (.t 60) (.t 61)⟩,
    ⟨some 63, none, .mv (.t 6)⟩,
    ⟨some 64, none, .bin .neq .u8 (.t 62) (.t 63)⟩])
    (.cond (.t 64)
      (.seq (.rg [⟨some 65, none, .mv (.t 0)⟩,
      ⟨some 66, none, .mv (.t 8)⟩,
      ⟨some 67, none, .bin .add .i64 (.t 66) (.c (.d (.int .i64 1)))⟩,
      ⟨some 68, none, .mv (.t 9)⟩,
      ⟨some 69, none, .sst (.t 65) (some (.t 67)) (some (.t 68))⟩,
      ⟨some 70, none, .mv (.t 6)⟩,
      ⟨some 71, none, .call 86 [(.t 69), (.t 70)]⟩,
      ⟨some 11, none, .mv (.t 71)⟩])
      (.seq (.seq (.rg [⟨some 72, none, .mv (.t 11)⟩,
      ⟨some 73, none, .bin .lss .i64 (.t 72) (.c (.d (.int .i64 0)))⟩])
      (.cond (.t 73)
        (.seq (.rg [⟨some 4, none, .mv (.c (.d (.int .i64 (-1))))⟩])
        .ret)
        .skip))
      (.rg [⟨some 74, none, .mv (.t 8)⟩,
      ⟨some 75, none, .mv (.t 11)⟩,
      ⟨some 76, none, .bin .add .i64 (.t 75) (.c (.d (.int .i64 1)))⟩,
      ⟨some 77, none, .bin .add .i64 (.t 74) (.t 76)⟩,
      ⟨some 8, none, .mv (.t 77)⟩])))
      .skip))
    (.seq (.seq (.rg [⟨some 78, none, .mv (.t 0)⟩,
    ⟨some 79, none, .mv (.t 8)⟩,
    ⟨some 80, none, .bin .add .i64 (.t 79) (.c (.d (.int .i64 1)))⟩,
    ⟨some 81, none, .ist (.t 78) (.t 80)⟩,
    ⟨some 82, none, .mv (.t 7)⟩,
    ⟨some 83, none, .bin .eql .u8 (.t 81) (.t 82)⟩,
    ⟨some 84, none, .mv (.t 83)⟩,
    ⟨some 85, some (84, true), .mv (.t 0)⟩,
    ⟨some 86, some (84, true), .mv (.t 8)⟩,
    ⟨some 87, some (84, true), .mv (.t 8)⟩,
    ⟨some 88, some (84, true), .mv (.t 5)⟩,
    ⟨some 89, some (84, true), .bin .add .i64 (.t 87) (.t 88)⟩,
    ⟨some 90, some (84, true), .sst (.t 85) (some (.t 86)) (some (.t 89))⟩,
    ⟨some 91, some (84, true), .mv (.t 1)⟩,
    ⟨some 92, some (84, true), .sbin .eql (.t 90) (.t 91)⟩,
    ⟨some 93, none, .pick (.t 84) (.t 92) (.c (.d (.bool false)))⟩])
    (.cond (.t 93)
      (.seq (.rg [⟨some 94, none, .mv (.t 8)⟩,
      ⟨some 4, none, .mv (.t 94)⟩])
      .ret)
      .skip))
    (.seq (.rg [⟨some 95, none, .mv (.t 8)⟩,
    ⟨some 96, none, .bin .add .i64 (.t 95) (.c (.d (.int .i64 1)))⟩,
    ⟨some 8, none, .mv (.t 96)⟩])
    (.seq (.rg [⟨some 97, none, .mv (.t 10)⟩,
    ⟨some 98, none, .bin .add .i64 (.t 97) (.c (.d (.int .i64 1)))⟩,
    ⟨some 10, none, .mv (.t 98)⟩])
    (.seq (.rg [⟨some 99, none, .mv (.t 5)⟩,
    ⟨some 100, none, .bad⟩,
    ⟨some 101, none, .bin .leq .i64 (.t 99) (.t 100)⟩,
    ⟨some 102, none, .mv (.t 101)⟩,
    ⟨some 103, some (102, true), .mv (.t 10)⟩,
    ⟨some 104, some (102, true), .mv (.t 8)⟩,
    ⟨some 105, some (102, true), .call 88 [(.t 104)]⟩,
    ⟨some 106, some (102, true), .bin .gtr .i64 (.t 103) (.t 105)⟩,
    ⟨some 107, none, .pick (.t 102) (.t 106) (.c (.d (.bool false)))⟩])
    (.cond (.t 107)
      (.seq (.rg [⟨some 108, none, .mv (.t 0)⟩,
      ⟨some 109, none, .mv (.t 8)⟩,
      ⟨some 110, none, .sst (.t 108) (some (.t 109)) none⟩,
      ⟨some 111, none, .mv (.t 1)⟩,
      ⟨some 112, none, .call 87 [(.t 110), (.t 111)]⟩,
      ⟨some 12, none, .mv (.t 112)⟩])
      (.seq (.seq (.rg [⟨some 113, none, .mv (.t 12)⟩,
      ⟨some 114, none, .bin .geq .i64 (.t 113) (.c (.d (.int .i64 0)))⟩])
      (.cond (.t 114)
        (.seq (.rg [⟨some 115, none, .mv (.t 12)⟩,
        ⟨some 116, none, .mv (.t 8)⟩,
        ⟨some 117, none, .bin .add .i64 (.t 115) (.t 116)⟩,
        ⟨some 4, none, .mv (.t 117)⟩])
        .ret)
        .skip))
      (.seq (.rg [⟨some 4, none, .mv (.c (.d (.int .i64 (-1))))⟩])
      .ret)))
      (.seq (.rg [⟨some 118, none, .mv (.t 5)⟩,
      ⟨some 119, none, .bad⟩,
      ⟨some 120, none, .bin .gtr .i64 (.t 118) (.t 119)⟩,
      ⟨some 121, none, .mv (.t 120)⟩,
      ⟨some 122, some (121, true), .mv (.t 10)⟩,
      ⟨some 123, some (121, true), .mv (.t 8)⟩,
      ⟨some 124, some (121, true), .shf .shr .i64 (.t 123) (.c (.d (.int .u64 4)))⟩,
      ⟨some 125, some (121, true), .bin .add .i64 (.c (.d (.int .i64 4))) (.t 124)⟩,
      ⟨some 126, some (121, true), .bin .geq .i64 (.t 122) (.t 125)⟩,
      ⟨some 127, none, .pick (.t 121) (.t 126) (.c (.d (.bool false)))⟩,
      ⟨some 128, none, .mv (.t 127)⟩,
      ⟨some 129, some (128, true), .mv (.t 8)⟩,
      ⟨some 130, some (128, true), .mv (.t 9)⟩,
      ⟨some 131, some (128, true), .bin .lss .i64 (.t 129) (.t 130)⟩,
      ⟨some 132, none, .pick (.t 128) (.t 131) (.c (.d (.bool false)))⟩])
      (.cond (.t 132)
        (.seq (.rg [⟨some 133, none, .mv (.t 0)⟩,
        ⟨some 134, none, .mv (.t 8)⟩,
        ⟨some 135, none, .sst (.t 133) (some (.t 134)) none⟩,
        ⟨some 136, none, .mv (.t 1)⟩,
        ⟨some 137, none, .call 89 [(.t 135), (.t 136)]⟩,
        ⟨some 13, none, .mv (.t 137)⟩])
        (.seq (.seq (.rg [⟨some 138, none, .mv (.t 13)⟩,
        ⟨some 139, none, .bin .lss .i64 (.t 138) (.c (.d (.int .i64 0)))⟩])
        (.cond (.t 139)
          (.seq (.rg [⟨some 4, none, .mv (.c (.d (.int .i64 (-1))))⟩])
          .ret)
          .skip))
        (.seq (.rg [⟨some 140, none, .mv (.t 8)⟩,
        ⟨some 141, none, .mv (.t 13)⟩,
        ⟨some 142, none, .bin .add .i64 (.t 140) (.t 141)⟩,
        ⟨some 4, none, .mv (.t 142)⟩])
        .ret)))
        .skip))))))))))))
  (.seq (.rg [⟨some 4, none, .mv (.c (.d (.int .i64 (-1))))⟩])
  .ret))))))))))
def r84 : List RV := [.t 4]

theorem k84 : (Tryd.f84.body.bind (slim Tryd.prog loudF Tryd.f84.ntmps)) = some s84 := by kernel_rfl

/-- internal/stringslite.IndexByte -/
def s86 : SC :=
  (.seq (.rg [⟨some 4, none, .mv (.c (.d (.int .i64 0)))⟩])
  (.seq (.rg [⟨some 5, none, .mv (.t 0)⟩,
  ⟨some 6, none, .mv (.t 1)⟩,
  ⟨some 7, none, .call 90 [(.t 5), (.t 6)]⟩,
  ⟨some 4, none, .mv (.t 7)⟩])
  .ret))
def r86 : List RV := [.t 4]

theorem k86 : (Tryd.f86.body.bind (slim Tryd.prog loudF Tryd.f86.ntmps)) = some s86 := by kernel_rfl

end Go.Proofs.YtchmoleeajkioaaDoor.V
