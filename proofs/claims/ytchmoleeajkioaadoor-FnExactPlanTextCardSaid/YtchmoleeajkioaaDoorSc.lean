/-
  Slim code of functions, each held against the loaded program. Printed by vp.py.
-/
import Derived.Test.YtchmoleeajkioaaDoorProg
import Derived.KernelRfl
import Derived.Test.YtchmoleeajkioaaDoorSa
namespace Go.Proofs.YtchmoleeajkioaaDoor.V
open Go Go.RowKit
set_option linter.unusedSimpArgs false
set_option linter.unusedVariables false

/-- loop.example/g00208/laws.FnExactPlanText -/
def s3 : SC :=
  (.seq (.rg [⟨some 2, none, .box 5 (.t 0)⟩,
  ⟨some 4, none, .mv (.c (.d (.bool false)))⟩])
  (.seq (.rg [⟨some 5, none, .mv (.c (.d (.int .i64 1048576)))⟩])
  (.seq (.rg [⟨some 11, none, .ld (some 5) (.t 2)⟩,
  ⟨some 12, none, .mv (.t 5)⟩,
  ⟨some 13, none, .call 4 [(.t 11), (.t 12)]⟩,
  ⟨some 5, none, .mv (.t 13)⟩])
  (.seq (.seq (.rg [⟨some 14, none, .mv (.t 5)⟩,
  ⟨some 15, none, .bin .lss .i64 (.t 14) (.c (.d (.int .i64 0)))⟩])
  (.cond (.t 15)
    (.seq (.rg [⟨some 4, none, .mv (.c (.d (.bool true)))⟩])
    .ret)
    .skip))
  (.seq (.rg [⟨some 16, none, .mv (.t 1)⟩,
  ⟨some 17, none, .mv (.t 5)⟩,
  ⟨some 18, none, .call 5 [(.t 16), (.t 17)]⟩,
  ⟨some 5, none, .mv (.t 18)⟩])
  (.seq (.seq (.rg [⟨some 19, none, .mv (.t 5)⟩,
  ⟨some 20, none, .bin .lss .i64 (.t 19) (.c (.d (.int .i64 0)))⟩])
  (.cond (.t 20)
    (.seq (.rg [⟨some 4, none, .mv (.c (.d (.bool true)))⟩])
    .ret)
    .skip))
  (.seq (.rg [⟨some 22, none, .ld (some 5) (.t 2)⟩,
  ⟨some 23, none, .call 7 [(.t 22)]⟩,
  ⟨some 24, none, .mv (.t 1)⟩,
  ⟨some 25, none, .call 8 [(.t 24)]⟩,
  ⟨some 26, none, .call 6 [(.t 23), (.t 25)]⟩,
  ⟨some 21, none, .mv (.t 26)⟩,
  ⟨some 27, none, .ext 0 (.t 21)⟩,
  ⟨some 28, none, .ext 1 (.t 21)⟩,
  ⟨some 6, none, .mv (.t 27)⟩,
  ⟨some 7, none, .mv (.t 28)⟩])
  (.seq (.rg [⟨some 29, none, .mv (.t 1)⟩,
  ⟨some 30, none, .call 8 [(.t 29)]⟩,
  ⟨some 8, none, .mv (.t 30)⟩])
  (.seq (.rg [⟨some 32, none, .ld (some 5) (.t 2)⟩,
  ⟨some 33, none, .call 7 [(.t 32)]⟩,
  ⟨some 34, none, .mv (.t 8)⟩,
  ⟨some 35, none, .call 9 [(.t 33), (.t 34)]⟩,
  ⟨some 31, none, .mv (.t 35)⟩,
  ⟨some 36, none, .ext 0 (.t 31)⟩,
  ⟨some 37, none, .ext 1 (.t 31)⟩,
  ⟨some 9, none, .mv (.t 36)⟩,
  ⟨some 10, none, .mv (.t 37)⟩])
  (.seq (.seq (.rg [⟨some 38, none, .mv (.t 9)⟩,
  ⟨some 39, none, .mv (.t 6)⟩,
  ⟨some 40, none, .sbin .neq (.t 38) (.t 39)⟩,
  ⟨some 41, none, .mv (.t 40)⟩,
  ⟨some 42, some (41, false), .mv (.t 10)⟩,
  ⟨some 43, some (41, false), .mv (.t 7)⟩,
  ⟨some 44, some (41, false), .bin .neq .i64 (.t 42) (.t 43)⟩,
  ⟨some 45, none, .pick (.t 41) (.c (.d (.bool true))) (.t 44)⟩])
  (.cond (.t 45)
    (.seq (.rg [⟨some 4, none, .mv (.c (.d (.bool false)))⟩])
    .ret)
    .skip))
  (.seq (.seq (.rg [⟨some 46, none, .mv (.t 8)⟩,
  ⟨some 47, none, .mv (.t 1)⟩,
  ⟨some 48, none, .call 8 [(.t 47)]⟩,
  ⟨some 49, none, .call 10 [(.t 46), (.t 48)]⟩,
  ⟨some 50, none, .not (.t 49)⟩])
  (.cond (.t 50)
    (.seq (.rg [⟨some 4, none, .mv (.c (.d (.bool false)))⟩])
    .ret)
    .skip))
  (.seq (.rg [⟨some 4, none, .mv (.c (.d (.bool true)))⟩])
  .ret))))))))))))
def r3 : List RV := [.t 4]

theorem k3 : (Tryd.f3.body.bind (slim Tryd.prog loudF Tryd.f3.ntmps)) = some s3 := by kernel_rfl

end Go.Proofs.YtchmoleeajkioaaDoor.V
