/-
  Slim code of functions, each held against the loaded program. Printed by vp.py.
-/
import Derived.Test.YthipieoadfbohaaDoorProg
import Derived.KernelRfl
import Derived.Test.YthipieoadfbohaaDoorSa
namespace Go.Proofs.YthipieoadfbohaaDoor.V
open Go Go.RowKit
set_option linter.unusedSimpArgs false
set_option linter.unusedVariables false

/-- loop.example/g00208/laws.FnExactGuardOK -/
def s3 : SC :=
  (.seq (.rg [⟨some 2, none, .box 3 (.t 0)⟩,
  ⟨some 4, none, .mv (.c (.d (.bool false)))⟩])
  (.seq (.rg [⟨some 5, none, .mv (.c (.d (.int .i64 1048576)))⟩])
  (.seq (.rg [⟨some 10, none, .ld (some 3) (.t 2)⟩,
  ⟨some 11, none, .mv (.t 5)⟩,
  ⟨some 12, none, .call 4 [(.t 10), (.t 11)]⟩,
  ⟨some 5, none, .mv (.t 12)⟩])
  (.seq (.seq (.rg [⟨some 13, none, .mv (.t 5)⟩,
  ⟨some 14, none, .bin .lss .i64 (.t 13) (.c (.d (.int .i64 0)))⟩])
  (.cond (.t 14)
    (.seq (.rg [⟨some 4, none, .mv (.c (.d (.bool true)))⟩])
    .ret)
    .skip))
  (.seq (.rg [⟨some 15, none, .mv (.t 1)⟩,
  ⟨some 16, none, .mv (.t 5)⟩,
  ⟨some 17, none, .call 5 [(.t 15), (.t 16)]⟩,
  ⟨some 5, none, .mv (.t 17)⟩])
  (.seq (.seq (.rg [⟨some 18, none, .mv (.t 5)⟩,
  ⟨some 19, none, .bin .lss .i64 (.t 18) (.c (.d (.int .i64 0)))⟩])
  (.cond (.t 19)
    (.seq (.rg [⟨some 4, none, .mv (.c (.d (.bool true)))⟩])
    .ret)
    .skip))
  (.seq (.rg [⟨some 20, none, .ld (some 3) (.t 2)⟩,
  ⟨some 21, none, .call 7 [(.t 20)]⟩,
  ⟨some 22, none, .mv (.t 1)⟩,
  ⟨some 23, none, .call 8 [(.t 22)]⟩,
  ⟨some 24, none, .call 6 [(.t 21), (.t 23)]⟩,
  ⟨some 6, none, .mv (.t 24)⟩])
  (.seq (.rg [⟨some 25, none, .ld (some 3) (.t 2)⟩,
  ⟨some 26, none, .call 7 [(.t 25)]⟩,
  ⟨some 7, none, .new [.d (.str []), .d (.int .i64 0), .nils 2]⟩,
  ⟨none, none, .st 3 (.t 7) (.t 26)⟩])
  (.seq (.rg [⟨some 27, none, .mv (.t 1)⟩,
  ⟨some 28, none, .call 8 [(.t 27)]⟩,
  ⟨some 8, none, .mv (.t 28)⟩])
  (.seq (.rg [⟨some 29, none, .ld (some 3) (.t 7)⟩,
  ⟨some 30, none, .mv (.t 8)⟩,
  ⟨some 31, none, .call 9 [(.t 29), (.t 30)]⟩,
  ⟨some 9, none, .mv (.t 31)⟩])
  (.seq (.seq (.rg [⟨some 32, none, .mv (.t 9)⟩,
  ⟨some 33, none, .mv (.t 6)⟩,
  ⟨some 34, none, .bbin true (.t 32) (.t 33)⟩])
  (.cond (.t 34)
    (.seq (.rg [⟨some 4, none, .mv (.c (.d (.bool false)))⟩])
    .ret)
    .skip))
  (.seq (.seq (.rgd (.op ⟨some 35, none, .ld (some 3) (.t 7)⟩ (.op ⟨some 36, none, .ld (some 3) (.t 2)⟩ (.op ⟨some 37, none, .call 7 [(.t 36)]⟩ (.op ⟨some 38, none, .call 10 [(.t 35), (.t 37)]⟩ (.op ⟨some 39, none, .not (.t 38)⟩ .done))))))
  (.cond (.t 39)
    (.seq (.rg [⟨some 4, none, .mv (.c (.d (.bool false)))⟩])
    .ret)
    .skip))
  (.seq (.seq (.rg [⟨some 40, none, .mv (.t 8)⟩,
  ⟨some 41, none, .mv (.t 1)⟩,
  ⟨some 42, none, .call 8 [(.t 41)]⟩,
  ⟨some 43, none, .call 11 [(.t 40), (.t 42)]⟩,
  ⟨some 44, none, .not (.t 43)⟩])
  (.cond (.t 44)
    (.seq (.rg [⟨some 4, none, .mv (.c (.d (.bool false)))⟩])
    .ret)
    .skip))
  (.seq (.rg [⟨some 4, none, .mv (.c (.d (.bool true)))⟩])
  .ret))))))))))))))
def r3 : List RV := [.t 4]

theorem k3 : (Tryd.f3.body.bind (slim Tryd.prog loudF Tryd.f3.ntmps)) = some s3 := by kernel_rfl

end Go.Proofs.YthipieoadfbohaaDoor.V
