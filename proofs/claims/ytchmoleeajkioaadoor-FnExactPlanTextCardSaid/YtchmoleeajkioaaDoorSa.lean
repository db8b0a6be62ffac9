/-
  Slim code of functions, each held against the loaded program. Printed by vp.py.
-/
import Derived.Test.YtchmoleeajkioaaDoorProg
import Derived.KernelRfl
import Derived.Test.YtchmoleeajkioaaDoorVx
namespace Go.Proofs.YtchmoleeajkioaaDoor.V
open Go Go.RowKit
set_option linter.unusedSimpArgs false
set_option linter.unusedVariables false

/-- Functions that write memory that was there before. -/
def loudF (f : Nat) : Bool := [59, 62, 64, 73, 100, 101, 102, 103, 104].contains f

/-- loop.example/g00208/laws.szPlan -/
def s4 : SC :=
  (.seq (.rg [⟨some 2, none, .box 5 (.t 0)⟩,
  ⟨some 4, none, .mv (.c (.d (.int .i64 0)))⟩])
  (.seq (.rg [⟨some 5, none, .mv (.t 1)⟩,
  ⟨some 6, none, .fad 0 (.t 2)⟩,
  ⟨some 7, none, .ld none (.t 6)⟩,
  ⟨some 8, none, .sln (.t 7)⟩,
  ⟨some 9, none, .bin .sub .i64 (.t 5) (.t 8)⟩,
  ⟨some 1, none, .mv (.t 9)⟩])
  (.seq (.seq (.rg [⟨some 10, none, .mv (.t 1)⟩,
  ⟨some 11, none, .bin .lss .i64 (.t 10) (.c (.d (.int .i64 0)))⟩])
  (.cond (.t 11)
    (.seq (.rg [⟨some 4, none, .mv (.c (.d (.int .i64 (-1))))⟩])
    .ret)
    .skip))
  (.seq (.rg [⟨some 12, none, .mv (.t 1)⟩,
  ⟨some 13, none, .fad 2 (.t 2)⟩,
  ⟨some 14, none, .ld none (.t 13)⟩,
  ⟨some 15, none, .sln (.t 14)⟩,
  ⟨some 16, none, .bin .sub .i64 (.t 12) (.t 15)⟩,
  ⟨some 1, none, .mv (.t 16)⟩])
  (.seq (.seq (.rg [⟨some 17, none, .mv (.t 1)⟩,
  ⟨some 18, none, .bin .lss .i64 (.t 17) (.c (.d (.int .i64 0)))⟩])
  (.cond (.t 18)
    (.seq (.rg [⟨some 4, none, .mv (.c (.d (.int .i64 (-1))))⟩])
    .ret)
    .skip))
  (.seq (.rg [⟨some 19, none, .mv (.t 1)⟩,
  ⟨some 20, none, .fad 3 (.t 2)⟩,
  ⟨some 21, none, .ld none (.t 20)⟩,
  ⟨some 22, none, .sln (.t 21)⟩,
  ⟨some 23, none, .bin .sub .i64 (.t 19) (.t 22)⟩,
  ⟨some 1, none, .mv (.t 23)⟩])
  (.seq (.seq (.rg [⟨some 24, none, .mv (.t 1)⟩,
  ⟨some 25, none, .bin .lss .i64 (.t 24) (.c (.d (.int .i64 0)))⟩])
  (.cond (.t 25)
    (.seq (.rg [⟨some 4, none, .mv (.c (.d (.int .i64 (-1))))⟩])
    .ret)
    .skip))
  (.seq (.rg [⟨some 26, none, .mv (.t 1)⟩,
  ⟨some 4, none, .mv (.t 26)⟩])
  .ret))))))))
def r4 : List RV := [.t 4]

theorem k4 : (Tryd.f4.body.bind (slim Tryd.prog loudF Tryd.f4.ntmps)) = some s4 := by kernel_rfl

/-- loop.example/g00208/laws.szTableS -/
def s5 : SC :=
  (.seq (.rg [⟨some 4, none, .mv (.c (.d (.int .i64 0)))⟩])
  (.seq (.rg [⟨some 6, none, .mv (.t 1)⟩,
  ⟨some 7, none, .mv (.t 0)⟩,
  ⟨some 8, none, .len (.t 7)⟩,
  ⟨some 9, none, .bin .sub .i64 (.t 6) (.t 8)⟩,
  ⟨some 1, none, .mv (.t 9)⟩])
  (.seq (.seq (.rg [⟨some 10, none, .mv (.t 1)⟩,
  ⟨some 11, none, .bin .lss .i64 (.t 10) (.c (.d (.int .i64 0)))⟩])
  (.cond (.t 11)
    (.seq (.rg [⟨some 4, none, .mv (.c (.d (.int .i64 (-1))))⟩])
    .ret)
    .skip))
  (.seq (.seq (.rg [⟨some 5, none, .mv (.c (.d (.int .i64 0)))⟩])
  (.blk 0 (.loop (.seq (.seq (.rg [⟨some 12, none, .mv (.t 5)⟩,
    ⟨some 13, none, .mv (.t 0)⟩,
    ⟨some 14, none, .len (.t 13)⟩,
    ⟨some 15, none, .bin .lss .i64 (.t 12) (.t 14)⟩])
    (.cond (.t 15)
      .skip
      (.exit 0)))
    (.seq (.blk 1 (.seq (.rg [⟨some 18, none, .mv (.t 0)⟩,
    ⟨some 19, none, .mv (.t 5)⟩,
    ⟨some 20, none, .iad 4 [.str [], .sl 3 [], .int .i64 0, .sl 2 []] (.t 18) (.t 19)⟩,
    ⟨some 21, none, .ld (some 4) (.t 20)⟩,
    ⟨some 22, none, .mv (.t 1)⟩,
    ⟨some 23, none, .call 11 [(.t 21), (.t 22)]⟩,
    ⟨some 1, none, .mv (.t 23)⟩])
    (.seq (.rg [⟨some 24, none, .mv (.t 1)⟩,
    ⟨some 25, none, .bin .lss .i64 (.t 24) (.c (.d (.int .i64 0)))⟩])
    (.cond (.t 25)
      (.seq (.rg [⟨some 4, none, .mv (.c (.d (.int .i64 (-1))))⟩])
      .ret)
      .skip))))
    (.rg [⟨some 16, none, .mv (.t 5)⟩,
    ⟨some 17, none, .bin .add .i64 (.t 16) (.c (.d (.int .i64 1)))⟩,
    ⟨some 5, none, .mv (.t 17)⟩]))))))
  (.seq (.rg [⟨some 26, none, .mv (.t 1)⟩,
  ⟨some 4, none, .mv (.t 26)⟩])
  .ret)))))
def r5 : List RV := [.t 4]

theorem k5 : (Tryd.f5.body.bind (slim Tryd.prog loudF Tryd.f5.ntmps)) = some s5 := by kernel_rfl

/-- loop.example/g00208/spec.PlanText -/
def s6 : SC :=
  (.seq (.rg [⟨some 2, none, .box 5 (.t 0)⟩,
  ⟨some 4, none, .mv (.c (.d (.str [])))⟩,
  ⟨some 5, none, .mv (.c (.d (.int .i64 0)))⟩])
  (.seq (.seq (.rg [⟨some 7, none, .mv (.t 1)⟩,
  ⟨some 8, none, .len (.t 7)⟩,
  ⟨some 9, none, .bin .gtr .i64 (.t 8) (.c (.d (.int .i64 4096)))⟩])
  (.cond (.t 9)
    (.seq (.rg [⟨some 4, none, .mv (.c (.d (.str [])))⟩,
    ⟨some 5, none, .mv (.c (.d (.int .i64 2)))⟩])
    .ret)
    .skip))
  (.seq (.seq (.rg [⟨some 10, none, .mv (.t 1)⟩,
  ⟨some 11, none, .call 12 [(.t 10)]⟩,
  ⟨some 12, none, .not (.t 11)⟩,
  ⟨some 13, none, .mv (.t 12)⟩,
  ⟨some 14, some (13, false), .ld (some 5) (.t 2)⟩,
  ⟨some 15, some (13, false), .mv (.t 1)⟩,
  ⟨some 16, some (13, false), .call 13 [(.t 14), (.t 15)]⟩,
  ⟨some 17, some (13, false), .not (.t 16)⟩,
  ⟨some 18, none, .pick (.t 13) (.c (.d (.bool true))) (.t 17)⟩])
  (.cond (.t 18)
    (.seq (.rg [⟨some 4, none, .mv (.c (.d (.str [])))⟩,
    ⟨some 5, none, .mv (.c (.d (.int .i64 1)))⟩])
    .ret)
    .skip))
  (.seq (.seq (.rg [⟨some 19, none, .fad 4 (.t 2)⟩,
  ⟨some 20, none, .ld none (.t 19)⟩,
  ⟨some 21, none, .bin .eql .i64 (.t 20) (.c (.d (.int .i64 0)))⟩])
  (.cond (.t 21)
    (.seq (.rg [⟨some 22, none, .fad 0 (.t 2)⟩,
    ⟨some 23, none, .ld none (.t 22)⟩,
    ⟨some 24, none, .sbin .add (.t 23) (.c (.d (.str [32, 97, 108, 108])))⟩,
    ⟨some 4, none, .mv (.t 24)⟩,
    ⟨some 5, none, .mv (.c (.d (.int .i64 0)))⟩])
    .ret)
    .skip))
  (.seq (.seq (.rg [⟨some 25, none, .fad 1 (.t 2)⟩,
  ⟨some 26, none, .ld none (.t 25)⟩,
  ⟨some 27, none, .bin .lss .i64 (.t 26) (.c (.d (.int .i64 0)))⟩])
  (.cond (.t 27)
    (.seq (.rgd (.op ⟨some 28, none, .fad 0 (.t 2)⟩ (.op ⟨some 29, none, .ld none (.t 28)⟩ (.op ⟨some 30, none, .sbin .add (.t 29) (.c (.d (.str [32, 107, 101, 121, 32, 102, 114, 111, 109, 32])))⟩ (.op ⟨some 31, none, .fad 2 (.t 2)⟩ (.op ⟨some 32, none, .ld none (.t 31)⟩ (.op ⟨some 36, none, .fad 3 (.t 2)⟩ (.op ⟨some 37, none, .ld none (.t 36)⟩ (.op ⟨some 33, none, .call 14 [(.t 32)]⟩ (.op ⟨some 34, none, .sbin .add (.t 30) (.t 33)⟩ (.op ⟨some 35, none, .sbin .add (.t 34) (.c (.d (.str [32, 98, 101, 108, 111, 119, 32])))⟩ (.op ⟨some 38, none, .call 14 [(.t 37)]⟩ (.op ⟨some 39, none, .sbin .add (.t 35) (.t 38)⟩ (.op ⟨some 4, none, .mv (.t 39)⟩ (.op ⟨some 5, none, .mv (.c (.d (.int .i64 0)))⟩ .done)))))))))))))))
    .ret)
    .skip))
  (.seq (.rg [⟨some 40, none, .mv (.t 1)⟩,
  ⟨some 41, none, .mv (.t 1)⟩,
  ⟨some 42, none, .fad 0 (.t 2)⟩,
  ⟨some 43, none, .ld none (.t 42)⟩,
  ⟨some 44, none, .call 15 [(.t 41), (.t 43)]⟩,
  ⟨some 45, none, .iad 4 [.str [], .sl 3 [], .int .i64 0, .sl 2 []] (.t 40) (.t 44)⟩,
  ⟨some 46, none, .ld (some 4) (.t 45)⟩,
  ⟨some 6, none, .new [.d (.str []), .nils 3, .d (.int .i64 0), .nils 2]⟩,
  ⟨none, none, .st 4 (.t 6) (.t 46)⟩])
  (.seq (.rgd (.op ⟨some 47, none, .fad 0 (.t 2)⟩ (.op ⟨some 48, none, .ld none (.t 47)⟩ (.op ⟨some 49, none, .sbin .add (.t 48) (.c (.d (.str [32, 105, 110, 100, 101, 120, 32])))⟩ (.op ⟨some 50, none, .fad 3 (.t 6)⟩ (.op ⟨some 51, none, .ld none (.t 50)⟩ (.op ⟨some 52, none, .fad 1 (.t 2)⟩ (.op ⟨some 53, none, .ld none (.t 52)⟩ (.op ⟨some 54, none, .iad 2 [.str [], .sl 1 []] (.t 51) (.t 53)⟩ (.op ⟨some 55, none, .fad 0 (.t 54)⟩ (.op ⟨some 56, none, .ld none (.t 55)⟩ (.op ⟨some 57, none, .sbin .add (.t 49) (.t 56)⟩ (.op ⟨some 58, none, .sbin .add (.t 57) (.c (.d (.str [32, 102, 114, 111, 109, 32])))⟩ (.op ⟨some 59, none, .fad 2 (.t 2)⟩ (.op ⟨some 60, none, .ld none (.t 59)⟩ (.op ⟨some 64, none, .fad 3 (.t 2)⟩ (.op ⟨some 65, none, .ld none (.t 64)⟩ (.op ⟨some 61, none, .call 14 [(.t 60)]⟩ (.op ⟨some 62, none, .sbin .add (.t 58) (.t 61)⟩ (.op ⟨some 63, none, .sbin .add (.t 62) (.c (.d (.str [32, 98, 101, 108, 111, 119, 32])))⟩ (.op ⟨some 66, none, .call 14 [(.t 65)]⟩ (.op ⟨some 67, none, .sbin .add (.t 63) (.t 66)⟩ (.op ⟨some 4, none, .mv (.t 67)⟩ (.op ⟨some 5, none, .mv (.c (.d (.int .i64 0)))⟩ .done))))))))))))))))))))))))
  .ret)))))))
def r6 : List RV := [.t 4, .t 5]

theorem k6 : (Tryd.f6.body.bind (slim Tryd.prog loudF Tryd.f6.ntmps)) = some s6 := by kernel_rfl

/-- loop.example/g00208/laws.toPlan -/
def s7 : SC :=
  (.seq (.rg [⟨some 1, none, .box 5 (.t 0)⟩,
  ⟨some 2, none, .new [.d (.str []), .d (.int .i64 0), .d (.str []), .d (.str []), .d (.int .i64 0)]⟩])
  (.seq (.rg [⟨some 3, none, .new [.d (.str []), .d (.int .i64 0), .d (.str []), .d (.str []), .d (.int .i64 0)]⟩])
  (.seq (.rg [⟨some 4, none, .fad 0 (.t 1)⟩,
  ⟨some 5, none, .ld none (.t 4)⟩,
  ⟨some 6, none, .fad 0 (.t 3)⟩,
  ⟨none, none, .st 1 (.t 6) (.t 5)⟩])
  (.seq (.rg [⟨some 7, none, .fad 1 (.t 1)⟩,
  ⟨some 8, none, .ld none (.t 7)⟩,
  ⟨some 9, none, .fad 1 (.t 3)⟩,
  ⟨none, none, .st 1 (.t 9) (.t 8)⟩])
  (.seq (.rg [⟨some 10, none, .fad 2 (.t 1)⟩,
  ⟨some 11, none, .ld none (.t 10)⟩,
  ⟨some 12, none, .fad 2 (.t 3)⟩,
  ⟨none, none, .st 1 (.t 12) (.t 11)⟩])
  (.seq (.rg [⟨some 13, none, .fad 3 (.t 1)⟩,
  ⟨some 14, none, .ld none (.t 13)⟩,
  ⟨some 15, none, .fad 3 (.t 3)⟩,
  ⟨none, none, .st 1 (.t 15) (.t 14)⟩])
  (.seq (.rg [⟨some 16, none, .fad 4 (.t 1)⟩,
  ⟨some 17, none, .ld none (.t 16)⟩,
  ⟨some 18, none, .fad 4 (.t 3)⟩,
  ⟨none, none, .st 1 (.t 18) (.t 17)⟩])
  (.seq (.rg [⟨some 19, none, .ld (some 5) (.t 3)⟩,
  ⟨none, none, .st 5 (.t 2) (.t 19)⟩])
  .ret))))))))
def r7 : List RV := [.c 2 (some 5)]

theorem k7 : (Tryd.f7.body.bind (slim Tryd.prog loudF Tryd.f7.ntmps)) = some s7 := by kernel_rfl

/-- loop.example/g00208/laws.toTableS -/
def s8 : SC :=
  (.seq (.rg [⟨some 2, none, .mv (.c (.nils 4))⟩])
  (.seq (.rg [⟨some 5, none, .mv (.t 0)⟩,
  ⟨some 6, none, .len (.t 5)⟩,
  ⟨some 7, none, .mk 4 [.str [], .sl 3 [], .int .i64 0, .sl 2 []] (.t 6) (.t 6)⟩,
  ⟨some 3, none, .mv (.t 7)⟩])
  (.seq (.seq (.rg [⟨some 4, none, .mv (.c (.d (.int .i64 0)))⟩])
  (.blk 0 (.loop (.seq (.seq (.rg [⟨some 8, none, .mv (.t 4)⟩,
    ⟨some 9, none, .mv (.t 0)⟩,
    ⟨some 10, none, .len (.t 9)⟩,
    ⟨some 11, none, .bin .lss .i64 (.t 8) (.t 10)⟩])
    (.cond (.t 11)
      .skip
      (.exit 0)))
    (.seq (.blk 1 (.rg [⟨some 14, none, .mv (.t 3)⟩,
    ⟨some 15, none, .mv (.t 4)⟩,
    ⟨some 16, none, .mv (.t 0)⟩,
    ⟨some 17, none, .mv (.t 4)⟩,
    ⟨some 18, none, .iad 4 [.str [], .sl 3 [], .int .i64 0, .sl 2 []] (.t 16) (.t 17)⟩,
    ⟨some 19, none, .ld (some 4) (.t 18)⟩,
    ⟨some 20, none, .call 16 [(.t 19)]⟩,
    ⟨some 21, none, .iad 4 [.str [], .sl 3 [], .int .i64 0, .sl 2 []] (.t 14) (.t 15)⟩,
    ⟨none, none, .st 4 (.t 21) (.t 20)⟩]))
    (.rg [⟨some 12, none, .mv (.t 4)⟩,
    ⟨some 13, none, .bin .add .i64 (.t 12) (.c (.d (.int .i64 1)))⟩,
    ⟨some 4, none, .mv (.t 13)⟩]))))))
  (.seq (.rg [⟨some 22, none, .mv (.t 3)⟩,
  ⟨some 2, none, .mv (.t 22)⟩])
  .ret))))
def r8 : List RV := [.t 2]

theorem k8 : (Tryd.f8.body.bind (slim Tryd.prog loudF Tryd.f8.ntmps)) = some s8 := by kernel_rfl

/-- loop.example/g00208/impl.PlanText -/
def s9 : SC :=
  (.seq (.rg [⟨some 2, none, .box 5 (.t 0)⟩,
  ⟨some 4, none, .mv (.c (.d (.str [])))⟩,
  ⟨some 5, none, .mv (.c (.d (.int .i64 0)))⟩])
  (.seq (.blk 0 (.seq (.rg [⟨some 10, none, .mv (.t 1)⟩,
  ⟨some 11, none, .len (.t 10)⟩,
  ⟨some 12, none, .bin .gtr .i64 (.t 11) (.c (.d (.int .i64 4096)))⟩,
  ⟨some 9, none, .mv (.t 12)⟩])
  (.cond (.t 9)
    (.seq (.rg [⟨some 4, none, .mv (.c (.d (.str [])))⟩,
    ⟨some 5, none, .mv (.c (.d (.int .i64 2)))⟩])
    .ret)
    (.seq (.rg [⟨some 14, none, .mv (.t 1)⟩,
    ⟨some 15, none, .call 17 [(.t 14)]⟩,
    ⟨some 16, none, .not (.t 15)⟩,
    ⟨some 17, none, .mv (.t 16)⟩,
    ⟨some 18, some (17, false), .ld (some 5) (.t 2)⟩,
    ⟨some 19, some (17, false), .mv (.t 1)⟩,
    ⟨some 20, some (17, false), .call 18 [(.t 18), (.t 19)]⟩,
    ⟨some 21, some (17, false), .not (.t 20)⟩,
    ⟨some 22, none, .pick (.t 17) (.c (.d (.bool true))) (.t 21)⟩,
    ⟨some 13, none, .mv (.t 22)⟩])
    (.cond (.t 13)
      (.seq (.rg [⟨some 4, none, .mv (.c (.d (.str [])))⟩,
      ⟨some 5, none, .mv (.c (.d (.int .i64 1)))⟩])
      .ret)
      (.seq (.rg [⟨some 24, none, .fad 4 (.t 2)⟩,
      ⟨some 25, none, .ld none (.t 24)⟩,
      ⟨some 26, none, .bin .eql .i64 (.t 25) (.c (.d (.int .i64 0)))⟩,
      ⟨some 23, none, .mv (.t 26)⟩])
      (.cond (.t 23)
        (.seq (.rg [⟨some 27, none, .fad 0 (.t 2)⟩,
        ⟨some 28, none, .ld none (.t 27)⟩,
        ⟨some 29, none, .sbin .add (.t 28) (.c (.d (.str [32, 97, 108, 108])))⟩,
        ⟨some 4, none, .mv (.t 29)⟩,
        ⟨some 5, none, .mv (.c (.d (.int .i64 0)))⟩])
        .ret)
        .skip)))))))
  (.seq (.rg [⟨some 6, none, .mv (.c (.d (.str [107, 101, 121])))⟩])
  (.seq (.seq (.rg [⟨some 30, none, .fad 1 (.t 2)⟩,
  ⟨some 31, none, .ld none (.t 30)⟩,
  ⟨some 32, none, .bin .geq .i64 (.t 31) (.c (.d (.int .i64 0)))⟩])
  (.cond (.t 32)
    (.seq (.rg [⟨some 34, none, .mv (.t 1)⟩,
    ⟨some 35, none, .fad 0 (.t 2)⟩,
    ⟨some 36, none, .ld none (.t 35)⟩,
    ⟨some 37, none, .call 19 [(.t 34), (.t 36)]⟩,
    ⟨some 33, none, .mv (.t 37)⟩,
    ⟨some 38, none, .ext 0 (.t 33)⟩,
    ⟨some 39, none, .ext 1 (.t 33)⟩,
    ⟨some 7, none, .mv (.t 38)⟩,
    ⟨some 8, none, .mv (.t 39)⟩])
    (.rgd (.op ⟨some 40, none, .mv (.t 1)⟩ (.op ⟨some 41, none, .mv (.t 7)⟩ (.op ⟨some 42, none, .iad 4 [.str [], .sl 3 [], .int .i64 0, .sl 2 []] (.t 40) (.t 41)⟩ (.op ⟨some 43, none, .fad 3 (.t 42)⟩ (.op ⟨some 44, none, .ld none (.t 43)⟩ (.op ⟨some 45, none, .fad 1 (.t 2)⟩ (.op ⟨some 46, none, .ld none (.t 45)⟩ (.op ⟨some 47, none, .iad 2 [.str [], .sl 1 []] (.t 44) (.t 46)⟩ (.op ⟨some 48, none, .fad 0 (.t 47)⟩ (.op ⟨some 49, none, .ld none (.t 48)⟩ (.op ⟨some 50, none, .sbin .add (.c (.d (.str [105, 110, 100, 101, 120, 32]))) (.t 49)⟩ (.op ⟨some 6, none, .mv (.t 50)⟩ .done))))))))))))))
    .skip))
  (.seq (.rgd (.op ⟨some 51, none, .fad 0 (.t 2)⟩ (.op ⟨some 52, none, .ld none (.t 51)⟩ (.op ⟨some 53, none, .sbin .add (.t 52) (.c (.d (.str [32])))⟩ (.op ⟨some 54, none, .mv (.t 6)⟩ (.op ⟨some 55, none, .sbin .add (.t 53) (.t 54)⟩ (.op ⟨some 56, none, .sbin .add (.t 55) (.c (.d (.str [32, 102, 114, 111, 109, 32])))⟩ (.op ⟨some 57, none, .fad 2 (.t 2)⟩ (.op ⟨some 58, none, .ld none (.t 57)⟩ (.op ⟨some 62, none, .fad 3 (.t 2)⟩ (.op ⟨some 63, none, .ld none (.t 62)⟩ (.op ⟨some 59, none, .call 20 [(.t 58)]⟩ (.op ⟨some 60, none, .sbin .add (.t 56) (.t 59)⟩ (.op ⟨some 61, none, .sbin .add (.t 60) (.c (.d (.str [32, 98, 101, 108, 111, 119, 32])))⟩ (.op ⟨some 64, none, .call 20 [(.t 63)]⟩ (.op ⟨some 65, none, .sbin .add (.t 61) (.t 64)⟩ (.op ⟨some 4, none, .mv (.t 65)⟩ (.op ⟨some 5, none, .mv (.c (.d (.int .i64 0)))⟩ .done))))))))))))))))))
  .ret)))))
def r9 : List RV := [.t 4, .t 5]

theorem k9 : (Tryd.f9.body.bind (slim Tryd.prog loudF Tryd.f9.ntmps)) = some s9 := by kernel_rfl

/-- loop.example/g00208/laws.eqTableS -/
def s10 : SC :=
  (.seq (.rg [⟨some 4, none, .mv (.c (.d (.bool false)))⟩])
  (.seq (.seq (.rg [⟨some 6, none, .mv (.t 0)⟩,
  ⟨some 7, none, .len (.t 6)⟩,
  ⟨some 8, none, .mv (.t 1)⟩,
  ⟨some 9, none, .len (.t 8)⟩,
  ⟨some 10, none, .bin .neq .i64 (.t 7) (.t 9)⟩])
  (.cond (.t 10)
    (.seq (.rg [⟨some 4, none, .mv (.c (.d (.bool false)))⟩])
    .ret)
    .skip))
  (.seq (.seq (.rg [⟨some 5, none, .mv (.c (.d (.int .i64 0)))⟩])
  (.blk 0 (.loop (.seq (.seq (.rg [⟨some 11, none, .mv (.t 5)⟩,
    ⟨some 12, none, .mv (.t 0)⟩,
    ⟨some 13, none, .len (.t 12)⟩,
    ⟨some 14, none, .bin .lss .i64 (.t 11) (.t 13)⟩])
    (.cond (.t 14)
      .skip
      (.exit 0)))
    (.seq (.blk 1 (.seq (.rgd (.op ⟨some 17, none, .mv (.t 0)⟩ (.op ⟨some 18, none, .mv (.t 5)⟩ (.op ⟨some 19, none, .iad 4 [.str [], .sl 3 [], .int .i64 0, .sl 2 []] (.t 17) (.t 18)⟩ (.op ⟨some 20, none, .ld (some 4) (.t 19)⟩ (.op ⟨some 21, none, .mv (.t 1)⟩ (.op ⟨some 22, none, .mv (.t 5)⟩ (.op ⟨some 23, none, .iad 4 [.str [], .sl 3 [], .int .i64 0, .sl 2 []] (.t 21) (.t 22)⟩ (.op ⟨some 24, none, .ld (some 4) (.t 23)⟩ (.op ⟨some 25, none, .call 21 [(.t 20), (.t 24)]⟩ (.op ⟨some 26, none, .not (.t 25)⟩ .done)))))))))))
    (.cond (.t 26)
      (.seq (.rg [⟨some 4, none, .mv (.c (.d (.bool false)))⟩])
      .ret)
      .skip)))
    (.rg [⟨some 15, none, .mv (.t 5)⟩,
    ⟨some 16, none, .bin .add .i64 (.t 15) (.c (.d (.int .i64 1)))⟩,
    ⟨some 5, none, .mv (.t 16)⟩]))))))
  (.seq (.rg [⟨some 4, none, .mv (.c (.d (.bool true)))⟩])
  .ret))))
def r10 : List RV := [.t 4]

theorem k10 : (Tryd.f10.body.bind (slim Tryd.prog loudF Tryd.f10.ntmps)) = some s10 := by kernel_rfl

/-- loop.example/g00208/laws.szTable -/
def s11 : SC :=
  (.seq (.rg [⟨some 2, none, .box 4 (.t 0)⟩,
  ⟨some 4, none, .mv (.c (.d (.int .i64 0)))⟩])
  (.seq (.rg [⟨some 5, none, .mv (.t 1)⟩,
  ⟨some 6, none, .fad 0 (.t 2)⟩,
  ⟨some 7, none, .ld none (.t 6)⟩,
  ⟨some 8, none, .sln (.t 7)⟩,
  ⟨some 9, none, .bin .sub .i64 (.t 5) (.t 8)⟩,
  ⟨some 1, none, .mv (.t 9)⟩])
  (.seq (.seq (.rg [⟨some 10, none, .mv (.t 1)⟩,
  ⟨some 11, none, .bin .lss .i64 (.t 10) (.c (.d (.int .i64 0)))⟩])
  (.cond (.t 11)
    (.seq (.rg [⟨some 4, none, .mv (.c (.d (.int .i64 (-1))))⟩])
    .ret)
    .skip))
  (.seq (.rg [⟨some 12, none, .fad 1 (.t 2)⟩,
  ⟨some 13, none, .ld none (.t 12)⟩,
  ⟨some 14, none, .mv (.t 1)⟩,
  ⟨some 15, none, .call 22 [(.t 13), (.t 14)]⟩,
  ⟨some 1, none, .mv (.t 15)⟩])
  (.seq (.seq (.rg [⟨some 16, none, .mv (.t 1)⟩,
  ⟨some 17, none, .bin .lss .i64 (.t 16) (.c (.d (.int .i64 0)))⟩])
  (.cond (.t 17)
    (.seq (.rg [⟨some 4, none, .mv (.c (.d (.int .i64 (-1))))⟩])
    .ret)
    .skip))
  (.seq (.rg [⟨some 18, none, .fad 3 (.t 2)⟩,
  ⟨some 19, none, .ld none (.t 18)⟩,
  ⟨some 20, none, .mv (.t 1)⟩,
  ⟨some 21, none, .call 23 [(.t 19), (.t 20)]⟩,
  ⟨some 1, none, .mv (.t 21)⟩])
  (.seq (.seq (.rg [⟨some 22, none, .mv (.t 1)⟩,
  ⟨some 23, none, .bin .lss .i64 (.t 22) (.c (.d (.int .i64 0)))⟩])
  (.cond (.t 23)
    (.seq (.rg [⟨some 4, none, .mv (.c (.d (.int .i64 (-1))))⟩])
    .ret)
    .skip))
  (.seq (.rg [⟨some 24, none, .mv (.t 1)⟩,
  ⟨some 4, none, .mv (.t 24)⟩])
  .ret))))))))
def r11 : List RV := [.t 4]

theorem k11 : (Tryd.f11.body.bind (slim Tryd.prog loudF Tryd.f11.ntmps)) = some s11 := by kernel_rfl

/-- loop.example/g00208/spec.CatalogOK -/
def s12 : SC :=
  (.seq (.rg [⟨some 2, none, .mv (.c (.d (.bool false)))⟩])
  (.seq (.seq (.rg [⟨some 4, none, .mv (.t 0)⟩,
  ⟨some 5, none, .len (.t 4)⟩,
  ⟨some 6, none, .bin .gtr .i64 (.t 5) (.c (.d (.int .i64 4096)))⟩])
  (.cond (.t 6)
    (.seq (.rg [⟨some 2, none, .mv (.c (.d (.bool false)))⟩])
    .ret)
    .skip))
  (.seq (.seq (.rg [⟨some 7, none, .mv (.t 0)⟩,
  ⟨some 8, none, .len (.t 7)⟩,
  ⟨some 9, none, .bin .gtr .i64 (.t 8) (.c (.d (.int .i64 6)))⟩])
  (.cond (.t 9)
    (.seq (.rg [⟨some 2, none, .mv (.c (.d (.bool false)))⟩])
    .ret)
    .skip))
  (.seq (.seq (.rg [⟨some 3, none, .mv (.c (.d (.int .i64 0)))⟩])
  (.blk 0 (.loop (.seq (.seq (.rg [⟨some 10, none, .mv (.t 3)⟩,
    ⟨some 11, none, .mv (.t 0)⟩,
    ⟨some 12, none, .len (.t 11)⟩,
    ⟨some 13, none, .bin .lss .i64 (.t 10) (.t 12)⟩])
    (.cond (.t 13)
      .skip
      (.exit 0)))
    (.seq (.blk 1 (.seq (.rgd (.op ⟨some 16, none, .mv (.t 0)⟩ (.op ⟨some 17, none, .mv (.t 3)⟩ (.op ⟨some 18, none, .iad 4 [.str [], .sl 3 [], .int .i64 0, .sl 2 []] (.t 16) (.t 17)⟩ (.op ⟨some 19, none, .ld (some 4) (.t 18)⟩ (.op ⟨some 20, none, .call 24 [(.t 19)]⟩ (.op ⟨some 21, none, .not (.t 20)⟩ (.op ⟨some 22, none, .mv (.t 21)⟩ (.op ⟨some 23, some (22, false), .mv (.t 3)⟩ (.op ⟨some 24, some (22, false), .bin .gtr .i64 (.t 23) (.c (.d (.int .i64 0)))⟩ (.op ⟨some 25, some (22, false), .mv (.t 24)⟩ (.op ⟨some 26, some (25, true), .mv (.t 0)⟩ (.op ⟨some 27, some (25, true), .mv (.t 3)⟩ (.op ⟨some 28, some (25, true), .bin .sub .i64 (.t 27) (.c (.d (.int .i64 1)))⟩ (.op ⟨some 29, some (25, true), .iad 4 [.str [], .sl 3 [], .int .i64 0, .sl 2 []] (.t 26) (.t 28)⟩ (.op ⟨some 30, some (25, true), .fad 0 (.t 29)⟩ (.op ⟨some 31, some (25, true), .ld none (.t 30)⟩ (.op ⟨some 32, some (25, true), .mv (.t 0)⟩ (.op ⟨some 33, some (25, true), .mv (.t 3)⟩ (.op ⟨some 34, some (25, true), .iad 4 [.str [], .sl 3 [], .int .i64 0, .sl 2 []] (.t 32) (.t 33)⟩ (.op ⟨some 35, some (25, true), .fad 0 (.t 34)⟩ (.op ⟨some 36, some (25, true), .ld none (.t 35)⟩ (.op ⟨some 37, some (25, true), .sbin .geq (.t 31) (.t 36)⟩ (.op ⟨some 38, some (22, false), .pick (.t 25) (.t 37) (.c (.d (.bool false)))⟩ (.op ⟨some 39, none, .pick (.t 22) (.c (.d (.bool true))) (.t 38)⟩ .done)))))))))))))))))))))))))
    (.cond (.t 39)
      (.seq (.rg [⟨some 2, none, .mv (.c (.d (.bool false)))⟩])
      .ret)
      .skip)))
    (.rg [⟨some 14, none, .mv (.t 3)⟩,
    ⟨some 15, none, .bin .add .i64 (.t 14) (.c (.d (.int .i64 1)))⟩,
    ⟨some 3, none, .mv (.t 15)⟩]))))))
  (.seq (.rg [⟨some 2, none, .mv (.c (.d (.bool true)))⟩])
  .ret)))))
def r12 : List RV := [.t 2]

theorem k12 : (Tryd.f12.body.bind (slim Tryd.prog loudF Tryd.f12.ntmps)) = some s12 := by kernel_rfl

/-- loop.example/g00208/spec.l14PlanOK -/
def s13 : SC :=
  (.seq (.rg [⟨some 2, none, .box 5 (.t 0)⟩,
  ⟨some 4, none, .mv (.c (.d (.bool false)))⟩])
  (.seq (.rg [⟨some 6, none, .mv (.t 1)⟩,
  ⟨some 7, none, .fad 0 (.t 2)⟩,
  ⟨some 8, none, .ld none (.t 7)⟩,
  ⟨some 9, none, .call 15 [(.t 6), (.t 8)]⟩,
  ⟨some 5, none, .mv (.t 9)⟩])
  (.seq (.rgd (.op ⟨some 10, none, .mv (.t 5)⟩ (.op ⟨some 11, none, .bin .geq .i64 (.t 10) (.c (.d (.int .i64 0)))⟩ (.op ⟨some 12, none, .mv (.t 11)⟩ (.op ⟨some 13, some (12, true), .fad 1 (.t 2)⟩ (.op ⟨some 14, some (12, true), .ld none (.t 13)⟩ (.op ⟨some 15, some (12, true), .mv (.t 1)⟩ (.op ⟨some 16, some (12, true), .mv (.t 5)⟩ (.op ⟨some 17, some (12, true), .iad 4 [.str [], .sl 3 [], .int .i64 0, .sl 2 []] (.t 15) (.t 16)⟩ (.op ⟨some 18, some (12, true), .fad 3 (.t 17)⟩ (.op ⟨some 19, some (12, true), .ld none (.t 18)⟩ (.op ⟨some 20, some (12, true), .len (.t 19)⟩ (.op ⟨some 21, some (12, true), .bin .sub .i64 (.t 20) (.c (.d (.int .i64 1)))⟩ (.op ⟨some 22, some (12, true), .call 25 [(.t 14), (.c (.d (.int .i64 (-1)))), (.t 21)]⟩ (.op ⟨some 23, none, .pick (.t 12) (.t 22) (.c (.d (.bool false)))⟩ (.op ⟨some 24, none, .mv (.t 23)⟩ (.op ⟨some 25, some (24, true), .fad 2 (.t 2)⟩ (.op ⟨some 26, some (24, true), .ld none (.t 25)⟩ (.op ⟨some 27, some (24, true), .sln (.t 26)⟩ (.op ⟨some 28, some (24, true), .bin .leq .i64 (.t 27) (.c (.d (.int .i64 200)))⟩ (.op ⟨some 29, none, .pick (.t 24) (.t 28) (.c (.d (.bool false)))⟩ (.op ⟨some 30, none, .mv (.t 29)⟩ (.op ⟨some 31, some (30, true), .fad 3 (.t 2)⟩ (.op ⟨some 32, some (30, true), .ld none (.t 31)⟩ (.op ⟨some 33, some (30, true), .sln (.t 32)⟩ (.op ⟨some 34, some (30, true), .bin .leq .i64 (.t 33) (.c (.d (.int .i64 200)))⟩ (.op ⟨some 35, none, .pick (.t 30) (.t 34) (.c (.d (.bool false)))⟩ (.op ⟨some 36, none, .mv (.t 35)⟩ (.op ⟨some 37, some (36, true), .fad 4 (.t 2)⟩ (.op ⟨some 38, some (36, true), .ld none (.t 37)⟩ (.op ⟨some 39, some (36, true), .call 25 [(.t 38), (.c (.d (.int .i64 0))), (.c (.d (.int .i64 1000)))]⟩ (.op ⟨some 40, none, .pick (.t 36) (.t 39) (.c (.d (.bool false)))⟩ (.op ⟨some 4, none, .mv (.t 40)⟩ .done)))))))))))))))))))))))))))))))))
  .ret)))
def r13 : List RV := [.t 4]

theorem k13 : (Tryd.f13.body.bind (slim Tryd.prog loudF Tryd.f13.ntmps)) = some s13 := by kernel_rfl

/-- loop.example/g00208/spec.l01Hex -/
def s14 : SC :=
  (.seq (.rg [⟨some 2, none, .mv (.c (.d (.str [])))⟩])
  (.seq (.rg [⟨some 5, none, .bsl 1 [.int .u8 0] 0 []⟩,
  ⟨some 3, none, .mv (.t 5)⟩])
  (.seq (.seq (.rg [⟨some 4, none, .mv (.c (.d (.int .i64 0)))⟩])
  (.blk 0 (.loop (.seq (.seq (.rg [⟨some 6, none, .mv (.t 4)⟩,
    ⟨some 7, none, .mv (.t 0)⟩,
    ⟨some 8, none, .sln (.t 7)⟩,
    ⟨some 9, none, .bin .lss .i64 (.t 6) (.t 8)⟩])
    (.cond (.t 9)
      .skip
      (.exit 0)))
    (.seq (.blk 1 (.rgd (.op ⟨some 12, none, .mv (.t 3)⟩ (.op ⟨some 13, none, .mv (.t 0)⟩ (.op ⟨some 14, none, .mv (.t 4)⟩ (.op ⟨some 15, none, .ist (.t 13) (.t 14)⟩ (.op ⟨some 16, none, .bin .quo .u8 (.t 15) (.c (.d (.int .u8 16)))⟩ (.op ⟨some 17, none, .ist (.c (.d (.str [48, 49, 50, 51, 52, 53, 54, 55, 56, 57, 97, 98, 99, 100, 101, 102]))) (.t 16)⟩ (.op ⟨some 18, none, .mv (.t 0)⟩ (.op ⟨some 19, none, .mv (.t 4)⟩ (.op ⟨some 20, none, .ist (.t 18) (.t 19)⟩ (.op ⟨some 21, none, .bin .rem .u8 (.t 20) (.c (.d (.int .u8 16)))⟩ (.op ⟨some 22, none, .ist (.c (.d (.str [48, 49, 50, 51, 52, 53, 54, 55, 56, 57, 97, 98, 99, 100, 101, 102]))) (.t 21)⟩ (.op ⟨some 23, none, .bsl 1 [.int .u8 0] 2 [(0, (.t 17)), (1, (.t 22))]⟩ (.op ⟨some 24, none, .app 1 (.t 12) (.t 23)⟩ (.op ⟨some 3, none, .mv (.t 24)⟩ .done))))))))))))))))
    (.rg [⟨some 10, none, .mv (.t 4)⟩,
    ⟨some 11, none, .bin .add .i64 (.t 10) (.c (.d (.int .i64 1)))⟩,
    ⟨some 4, none, .mv (.t 11)⟩]))))))
  (.seq (.rg [⟨some 25, none, .mv (.t 3)⟩,
  ⟨some 26, none, .b2s (.t 25)⟩,
  ⟨some 2, none, .mv (.t 26)⟩])
  .ret))))
def r14 : List RV := [.t 2]

theorem k14 : (Tryd.f14.body.bind (slim Tryd.prog loudF Tryd.f14.ntmps)) = some s14 := by kernel_rfl

/-- loop.example/g00208/spec.l09Find -/
def s15 : SC :=
  (.seq (.rg [⟨some 4, none, .mv (.c (.d (.int .i64 0)))⟩])
  (.seq (.seq (.rg [⟨some 5, none, .mv (.c (.d (.int .i64 0)))⟩])
  (.blk 0 (.loop (.seq (.seq (.rg [⟨some 6, none, .mv (.t 5)⟩,
    ⟨some 7, none, .mv (.t 0)⟩,
    ⟨some 8, none, .len (.t 7)⟩,
    ⟨some 9, none, .bin .lss .i64 (.t 6) (.t 8)⟩])
    (.cond (.t 9)
      .skip
      (.exit 0)))
    (.seq (.blk 1 (.seq (.rg [⟨some 12, none, .mv (.t 0)⟩,
    ⟨some 13, none, .mv (.t 5)⟩,
    ⟨some 14, none, .iad 4 [.str [], .sl 3 [], .int .i64 0, .sl 2 []] (.t 12) (.t 13)⟩,
    ⟨some 15, none, .fad 0 (.t 14)⟩,
    ⟨some 16, none, .ld none (.t 15)⟩,
    ⟨some 17, none, .mv (.t 1)⟩,
    ⟨some 18, none, .sbin .eql (.t 16) (.t 17)⟩])
    (.cond (.t 18)
      (.seq (.rg [⟨some 19, none, .mv (.t 5)⟩,
      ⟨some 4, none, .mv (.t 19)⟩])
      .ret)
      .skip)))
    (.rg [⟨some 10, none, .mv (.t 5)⟩,
    ⟨some 11, none, .bin .add .i64 (.t 10) (.c (.d (.int .i64 1)))⟩,
    ⟨some 5, none, .mv (.t 11)⟩]))))))
  (.seq (.rg [⟨some 4, none, .mv (.c (.d (.int .i64 (-1))))⟩])
  .ret)))
def r15 : List RV := [.t 4]

theorem k15 : (Tryd.f15.body.bind (slim Tryd.prog loudF Tryd.f15.ntmps)) = some s15 := by kernel_rfl

/-- loop.example/g00208/laws.toTable -/
def s16 : SC :=
  (.seq (.rg [⟨some 1, none, .box 4 (.t 0)⟩,
  ⟨some 2, none, .new [.d (.str []), .nils 3, .d (.int .i64 0), .nils 2]⟩])
  (.seq (.rg [⟨some 3, none, .new [.d (.str []), .nils 3, .d (.int .i64 0), .nils 2]⟩])
  (.seq (.rg [⟨some 4, none, .fad 0 (.t 1)⟩,
  ⟨some 5, none, .ld none (.t 4)⟩,
  ⟨some 6, none, .fad 0 (.t 3)⟩,
  ⟨none, none, .st 1 (.t 6) (.t 5)⟩])
  (.seq (.rg [⟨some 7, none, .fad 1 (.t 1)⟩,
  ⟨some 8, none, .ld none (.t 7)⟩,
  ⟨some 9, none, .call 26 [(.t 8)]⟩,
  ⟨some 10, none, .fad 1 (.t 3)⟩,
  ⟨none, none, .st 1 (.t 10) (.t 9)⟩])
  (.seq (.rg [⟨some 11, none, .fad 2 (.t 1)⟩,
  ⟨some 12, none, .ld none (.t 11)⟩,
  ⟨some 13, none, .fad 2 (.t 3)⟩,
  ⟨none, none, .st 1 (.t 13) (.t 12)⟩])
  (.seq (.rg [⟨some 14, none, .fad 3 (.t 1)⟩,
  ⟨some 15, none, .ld none (.t 14)⟩,
  ⟨some 16, none, .call 27 [(.t 15)]⟩,
  ⟨some 17, none, .fad 3 (.t 3)⟩,
  ⟨none, none, .st 1 (.t 17) (.t 16)⟩])
  (.seq (.rg [⟨some 18, none, .ld (some 4) (.t 3)⟩,
  ⟨none, none, .st 4 (.t 2) (.t 18)⟩])
  .ret)))))))
def r16 : List RV := [.c 2 (some 4)]

theorem k16 : (Tryd.f16.body.bind (slim Tryd.prog loudF Tryd.f16.ntmps)) = some s16 := by kernel_rfl

/-- loop.example/g00208/impl.CatalogOK -/
def s17 : SC :=
  (.seq (.rg [⟨some 2, none, .mv (.c (.d (.bool false)))⟩])
  (.seq (.seq (.rg [⟨some 5, none, .mv (.t 0)⟩,
  ⟨some 6, none, .len (.t 5)⟩,
  ⟨some 7, none, .mv (.c (.d (.int .i64 0)))⟩])
  (.blk 0 (.loop (.seq (.rg [⟨some 8, none, .bin .lss .i64 (.t 7) (.t 6)⟩])
    (.seq (.cond (.t 8)
      .skip
      (.exit 0))
    (.seq (.blk 1 (.seq (.rg [⟨some 9, none, .mv (.t 7)⟩,
    ⟨some 10, none, .iad 4 [.str [], .sl 3 [], .int .i64 0, .sl 2 []] (.t 5) (.t 7)⟩,
    ⟨some 11, none, .ld (some 4) (.t 10)⟩,
    ⟨some 4, none, .new [.d (.str []), .nils 3, .d (.int .i64 0), .nils 2]⟩,
    ⟨some 3, none, .mv (.t 9)⟩,
    ⟨none, none, .st 4 (.t 4) (.t 11)⟩])
    (.seq (.rgd (.op ⟨some 12, none, .ld (some 4) (.t 4)⟩ (.op ⟨some 13, none, .call 28 [(.t 12)]⟩ (.op ⟨some 14, none, .not (.t 13)⟩ (.op ⟨some 15, none, .mv (.t 14)⟩ (.op ⟨some 16, some (15, false), .mv (.t 3)⟩ (.op ⟨some 17, some (15, false), .bin .gtr .i64 (.t 16) (.c (.d (.int .i64 0)))⟩ (.op ⟨some 18, some (15, false), .mv (.t 17)⟩ (.op ⟨some 19, some (18, true), .fad 0 (.t 4)⟩ (.op ⟨some 20, some (18, true), .ld none (.t 19)⟩ (.op ⟨some 21, some (18, true), .mv (.t 0)⟩ (.op ⟨some 22, some (18, true), .mv (.t 3)⟩ (.op ⟨some 23, some (18, true), .bin .sub .i64 (.t 22) (.c (.d (.int .i64 1)))⟩ (.op ⟨some 24, some (18, true), .iad 4 [.str [], .sl 3 [], .int .i64 0, .sl 2 []] (.t 21) (.t 23)⟩ (.op ⟨some 25, some (18, true), .fad 0 (.t 24)⟩ (.op ⟨some 26, some (18, true), .ld none (.t 25)⟩ (.op ⟨some 27, some (18, true), .sbin .leq (.t 20) (.t 26)⟩ (.op ⟨some 28, some (15, false), .pick (.t 18) (.t 27) (.c (.d (.bool false)))⟩ (.op ⟨some 29, none, .pick (.t 15) (.c (.d (.bool true))) (.t 28)⟩ .done)))))))))))))))))))
    (.cond (.t 29)
      (.seq (.rg [⟨some 2, none, .mv (.c (.d (.bool false)))⟩])
      .ret)
      .skip))))
    (.rg [⟨some 30, none, .bin .add .i64 (.t 7) (.c (.d (.int .i64 1)))⟩,
    ⟨some 7, none, .mv (.t 30)⟩])))))))
  (.seq (.rg [⟨some 31, none, .mv (.t 0)⟩,
  ⟨some 32, none, .len (.t 31)⟩,
  ⟨some 33, none, .bin .leq .i64 (.t 32) (.c (.d (.int .i64 6)))⟩,
  ⟨some 2, none, .mv (.t 33)⟩])
  .ret)))
def r17 : List RV := [.t 2]

theorem k17 : (Tryd.f17.body.bind (slim Tryd.prog loudF Tryd.f17.ntmps)) = some s17 := by kernel_rfl

/-- loop.example/g00208/impl.planOK -/
def s18 : SC :=
  (.seq (.rg [⟨some 2, none, .box 5 (.t 0)⟩,
  ⟨some 4, none, .mv (.c (.d (.bool false)))⟩])
  (.seq (.rg [⟨some 8, none, .mv (.t 1)⟩,
  ⟨some 9, none, .fad 0 (.t 2)⟩,
  ⟨some 10, none, .ld none (.t 9)⟩,
  ⟨some 11, none, .call 19 [(.t 8), (.t 10)]⟩,
  ⟨some 7, none, .mv (.t 11)⟩,
  ⟨some 12, none, .ext 0 (.t 7)⟩,
  ⟨some 13, none, .ext 1 (.t 7)⟩,
  ⟨some 5, none, .mv (.t 12)⟩,
  ⟨some 6, none, .mv (.t 13)⟩])
  (.seq (.rgd (.op ⟨some 14, none, .mv (.t 6)⟩ (.op ⟨some 15, none, .mv (.t 14)⟩ (.op ⟨some 16, some (15, true), .fad 1 (.t 2)⟩ (.op ⟨some 17, some (15, true), .ld none (.t 16)⟩ (.op ⟨some 18, some (15, true), .mv (.t 1)⟩ (.op ⟨some 19, some (15, true), .mv (.t 5)⟩ (.op ⟨some 20, some (15, true), .iad 4 [.str [], .sl 3 [], .int .i64 0, .sl 2 []] (.t 18) (.t 19)⟩ (.op ⟨some 21, some (15, true), .fad 3 (.t 20)⟩ (.op ⟨some 22, some (15, true), .ld none (.t 21)⟩ (.op ⟨some 23, some (15, true), .len (.t 22)⟩ (.op ⟨some 24, some (15, true), .bin .sub .i64 (.t 23) (.c (.d (.int .i64 1)))⟩ (.op ⟨some 25, some (15, true), .call 29 [(.t 17), (.c (.d (.int .i64 (-1)))), (.t 24)]⟩ (.op ⟨some 26, none, .pick (.t 15) (.t 25) (.c (.d (.bool false)))⟩ (.op ⟨some 27, none, .mv (.t 26)⟩ (.op ⟨some 28, some (27, true), .fad 2 (.t 2)⟩ (.op ⟨some 29, some (27, true), .ld none (.t 28)⟩ (.op ⟨some 30, some (27, true), .sln (.t 29)⟩ (.op ⟨some 31, some (27, true), .bin .leq .i64 (.t 30) (.c (.d (.int .i64 200)))⟩ (.op ⟨some 32, none, .pick (.t 27) (.t 31) (.c (.d (.bool false)))⟩ (.op ⟨some 33, none, .mv (.t 32)⟩ (.op ⟨some 34, some (33, true), .fad 3 (.t 2)⟩ (.op ⟨some 35, some (33, true), .ld none (.t 34)⟩ (.op ⟨some 36, some (33, true), .sln (.t 35)⟩ (.op ⟨some 37, some (33, true), .bin .leq .i64 (.t 36) (.c (.d (.int .i64 200)))⟩ (.op ⟨some 38, none, .pick (.t 33) (.t 37) (.c (.d (.bool false)))⟩ (.op ⟨some 39, none, .mv (.t 38)⟩ (.op ⟨some 40, some (39, true), .fad 4 (.t 2)⟩ (.op ⟨some 41, some (39, true), .ld none (.t 40)⟩ (.op ⟨some 42, some (39, true), .call 29 [(.t 41), (.c (.d (.int .i64 0))), (.c (.d (.int .i64 1000)))]⟩ (.op ⟨some 43, none, .pick (.t 39) (.t 42) (.c (.d (.bool false)))⟩ (.op ⟨some 4, none, .mv (.t 43)⟩ .done))))))))))))))))))))))))))))))))
  .ret)))
def r18 : List RV := [.t 4]

theorem k18 : (Tryd.f18.body.bind (slim Tryd.prog loudF Tryd.f18.ntmps)) = some s18 := by kernel_rfl

/-- loop.example/g00208/impl.tableAt -/
def s19 : SC :=
  (.seq (.rg [⟨some 4, none, .mv (.c (.d (.int .i64 0)))⟩,
  ⟨some 5, none, .mv (.c (.d (.bool false)))⟩])
  (.seq (.rg [⟨some 6, none, .mv (.t 0)⟩,
  ⟨some 7, none, .mv (.t 1)⟩,
  ⟨some 8, none, .call 30 [(.t 6), (.t 7), (.c (.clos (.func 31) [] []))]⟩,
  ⟨some 9, none, .ext 0 (.t 8)⟩,
  ⟨some 10, none, .ext 1 (.t 8)⟩,
  ⟨some 4, none, .mv (.t 9)⟩,
  ⟨some 5, none, .mv (.t 10)⟩])
  .ret))
def r19 : List RV := [.t 4, .t 5]

theorem k19 : (Tryd.f19.body.bind (slim Tryd.prog loudF Tryd.f19.ntmps)) = some s19 := by kernel_rfl

/-- loop.example/g00208/impl.hexText -/
def s20 : SC :=
  (.seq (.rg [⟨some 2, none, .mv (.c (.d (.str [])))⟩])
  (.seq (.rg [⟨some 5, none, .mv (.t 0)⟩,
  ⟨some 6, none, .sln (.t 5)⟩,
  ⟨some 7, none, .bin .mul .i64 (.c (.d (.int .i64 2))) (.t 6)⟩,
  ⟨some 8, none, .mk 1 [.int .u8 0] (.c (.d (.int .i64 0))) (.t 7)⟩,
  ⟨some 3, none, .mv (.t 8)⟩])
  (.seq (.seq (.rg [⟨some 9, none, .mv (.t 0)⟩,
  ⟨some 10, none, .sln (.t 9)⟩,
  ⟨some 11, none, .mv (.c (.d (.int .i64 0)))⟩])
  (.blk 0 (.loop (.seq (.rg [⟨some 12, none, .bin .lss .i64 (.t 11) (.t 10)⟩])
    (.seq (.cond (.t 12)
      .skip
      (.exit 0))
    (.seq (.blk 1 (.seq (.rg [⟨some 13, none, .mv (.t 11)⟩,
    ⟨some 4, none, .mv (.t 13)⟩])
    (.rgd (.op ⟨some 14, none, .mv (.t 3)⟩ (.op ⟨some 15, none, .mv (.t 0)⟩ (.op ⟨some 16, none, .mv (.t 4)⟩ (.op ⟨some 17, none, .ist (.t 15) (.t 16)⟩ (.op ⟨some 18, none, .shf .shr .u8 (.t 17) (.c (.d (.int .u64 4)))⟩ (.op ⟨some 19, none, .ist (.c (.d (.str [48, 49, 50, 51, 52, 53, 54, 55, 56, 57, 97, 98, 99, 100, 101, 102]))) (.t 18)⟩ (.op ⟨some 20, none, .mv (.t 0)⟩ (.op ⟨some 21, none, .mv (.t 4)⟩ (.op ⟨some 22, none, .ist (.t 20) (.t 21)⟩ (.op ⟨some 23, none, .bin .and .u8 (.t 22) (.c (.d (.int .u8 15)))⟩ (.op ⟨some 24, none, .ist (.c (.d (.str [48, 49, 50, 51, 52, 53, 54, 55, 56, 57, 97, 98, 99, 100, 101, 102]))) (.t 23)⟩ (.op ⟨some 25, none, .bsl 1 [.int .u8 0] 2 [(0, (.t 19)), (1, (.t 24))]⟩ (.op ⟨some 26, none, .app 1 (.t 14) (.t 25)⟩ (.op ⟨some 3, none, .mv (.t 26)⟩ .done)))))))))))))))))
    (.rg [⟨some 27, none, .bin .add .i64 (.t 11) (.c (.d (.int .i64 1)))⟩,
    ⟨some 11, none, .mv (.t 27)⟩])))))))
  (.seq (.rg [⟨some 28, none, .mv (.t 3)⟩,
  ⟨some 29, none, .b2s (.t 28)⟩,
  ⟨some 2, none, .mv (.t 29)⟩])
  .ret))))
def r20 : List RV := [.t 2]

theorem k20 : (Tryd.f20.body.bind (slim Tryd.prog loudF Tryd.f20.ntmps)) = some s20 := by kernel_rfl

/-- loop.example/g00208/laws.eqTable -/
def s21 : SC :=
  (.seq (.rg [⟨some 2, none, .box 4 (.t 0)⟩,
  ⟨some 3, none, .box 4 (.t 1)⟩,
  ⟨some 4, none, .mv (.c (.d (.bool false)))⟩])
  (.seq (.seq (.rg [⟨some 5, none, .fad 0 (.t 2)⟩,
  ⟨some 6, none, .ld none (.t 5)⟩,
  ⟨some 7, none, .fad 0 (.t 3)⟩,
  ⟨some 8, none, .ld none (.t 7)⟩,
  ⟨some 9, none, .sbin .neq (.t 6) (.t 8)⟩])
  (.cond (.t 9)
    (.seq (.rg [⟨some 4, none, .mv (.c (.d (.bool false)))⟩])
    .ret)
    .skip))
  (.seq (.seq (.rg [⟨some 10, none, .fad 1 (.t 2)⟩,
  ⟨some 11, none, .ld none (.t 10)⟩,
  ⟨some 12, none, .fad 1 (.t 3)⟩,
  ⟨some 13, none, .ld none (.t 12)⟩,
  ⟨some 14, none, .call 33 [(.t 11), (.t 13)]⟩,
  ⟨some 15, none, .not (.t 14)⟩])
  (.cond (.t 15)
    (.seq (.rg [⟨some 4, none, .mv (.c (.d (.bool false)))⟩])
    .ret)
    .skip))
  (.seq (.seq (.rg [⟨some 16, none, .fad 2 (.t 2)⟩,
  ⟨some 17, none, .ld none (.t 16)⟩,
  ⟨some 18, none, .fad 2 (.t 3)⟩,
  ⟨some 19, none, .ld none (.t 18)⟩,
  ⟨some 20, none, .bin .neq .i64 (.t 17) (.t 19)⟩])
  (.cond (.t 20)
    (.seq (.rg [⟨some 4, none, .mv (.c (.d (.bool false)))⟩])
    .ret)
    .skip))
  (.seq (.seq (.rg [⟨some 21, none, .fad 3 (.t 2)⟩,
  ⟨some 22, none, .ld none (.t 21)⟩,
  ⟨some 23, none, .fad 3 (.t 3)⟩,
  ⟨some 24, none, .ld none (.t 23)⟩,
  ⟨some 25, none, .call 34 [(.t 22), (.t 24)]⟩,
  ⟨some 26, none, .not (.t 25)⟩])
  (.cond (.t 26)
    (.seq (.rg [⟨some 4, none, .mv (.c (.d (.bool false)))⟩])
    .ret)
    .skip))
  (.seq (.rg [⟨some 4, none, .mv (.c (.d (.bool true)))⟩])
  .ret))))))
def r21 : List RV := [.t 4]

theorem k21 : (Tryd.f21.body.bind (slim Tryd.prog loudF Tryd.f21.ntmps)) = some s21 := by kernel_rfl

/-- loop.example/g00208/laws.szColumnS -/
def s22 : SC :=
  (.seq (.rg [⟨some 4, none, .mv (.c (.d (.int .i64 0)))⟩])
  (.seq (.rg [⟨some 6, none, .mv (.t 1)⟩,
  ⟨some 7, none, .mv (.t 0)⟩,
  ⟨some 8, none, .len (.t 7)⟩,
  ⟨some 9, none, .bin .sub .i64 (.t 6) (.t 8)⟩,
  ⟨some 1, none, .mv (.t 9)⟩])
  (.seq (.seq (.rg [⟨some 10, none, .mv (.t 1)⟩,
  ⟨some 11, none, .bin .lss .i64 (.t 10) (.c (.d (.int .i64 0)))⟩])
  (.cond (.t 11)
    (.seq (.rg [⟨some 4, none, .mv (.c (.d (.int .i64 (-1))))⟩])
    .ret)
    .skip))
  (.seq (.seq (.rg [⟨some 5, none, .mv (.c (.d (.int .i64 0)))⟩])
  (.blk 0 (.loop (.seq (.seq (.rg [⟨some 12, none, .mv (.t 5)⟩,
    ⟨some 13, none, .mv (.t 0)⟩,
    ⟨some 14, none, .len (.t 13)⟩,
    ⟨some 15, none, .bin .lss .i64 (.t 12) (.t 14)⟩])
    (.cond (.t 15)
      .skip
      (.exit 0)))
    (.seq (.blk 1 (.seq (.rg [⟨some 18, none, .mv (.t 0)⟩,
    ⟨some 19, none, .mv (.t 5)⟩,
    ⟨some 20, none, .iad 3 [.str [], .int .i64 0, .bool false] (.t 18) (.t 19)⟩,
    ⟨some 21, none, .ld (some 3) (.t 20)⟩,
    ⟨some 22, none, .mv (.t 1)⟩,
    ⟨some 23, none, .call 35 [(.t 21), (.t 22)]⟩,
    ⟨some 1, none, .mv (.t 23)⟩])
    (.seq (.rg [⟨some 24, none, .mv (.t 1)⟩,
    ⟨some 25, none, .bin .lss .i64 (.t 24) (.c (.d (.int .i64 0)))⟩])
    (.cond (.t 25)
      (.seq (.rg [⟨some 4, none, .mv (.c (.d (.int .i64 (-1))))⟩])
      .ret)
      .skip))))
    (.rg [⟨some 16, none, .mv (.t 5)⟩,
    ⟨some 17, none, .bin .add .i64 (.t 16) (.c (.d (.int .i64 1)))⟩,
    ⟨some 5, none, .mv (.t 17)⟩]))))))
  (.seq (.rg [⟨some 26, none, .mv (.t 1)⟩,
  ⟨some 4, none, .mv (.t 26)⟩])
  .ret)))))
def r22 : List RV := [.t 4]

theorem k22 : (Tryd.f22.body.bind (slim Tryd.prog loudF Tryd.f22.ntmps)) = some s22 := by kernel_rfl

/-- loop.example/g00208/laws.szIndexS -/
def s23 : SC :=
  (.seq (.rg [⟨some 4, none, .mv (.c (.d (.int .i64 0)))⟩])
  (.seq (.rg [⟨some 6, none, .mv (.t 1)⟩,
  ⟨some 7, none, .mv (.t 0)⟩,
  ⟨some 8, none, .len (.t 7)⟩,
  ⟨some 9, none, .bin .sub .i64 (.t 6) (.t 8)⟩,
  ⟨some 1, none, .mv (.t 9)⟩])
  (.seq (.seq (.rg [⟨some 10, none, .mv (.t 1)⟩,
  ⟨some 11, none, .bin .lss .i64 (.t 10) (.c (.d (.int .i64 0)))⟩])
  (.cond (.t 11)
    (.seq (.rg [⟨some 4, none, .mv (.c (.d (.int .i64 (-1))))⟩])
    .ret)
    .skip))
  (.seq (.seq (.rg [⟨some 5, none, .mv (.c (.d (.int .i64 0)))⟩])
  (.blk 0 (.loop (.seq (.seq (.rg [⟨some 12, none, .mv (.t 5)⟩,
    ⟨some 13, none, .mv (.t 0)⟩,
    ⟨some 14, none, .len (.t 13)⟩,
    ⟨some 15, none, .bin .lss .i64 (.t 12) (.t 14)⟩])
    (.cond (.t 15)
      .skip
      (.exit 0)))
    (.seq (.blk 1 (.seq (.rg [⟨some 18, none, .mv (.t 0)⟩,
    ⟨some 19, none, .mv (.t 5)⟩,
    ⟨some 20, none, .iad 2 [.str [], .sl 1 []] (.t 18) (.t 19)⟩,
    ⟨some 21, none, .ld (some 2) (.t 20)⟩,
    ⟨some 22, none, .mv (.t 1)⟩,
    ⟨some 23, none, .call 36 [(.t 21), (.t 22)]⟩,
    ⟨some 1, none, .mv (.t 23)⟩])
    (.seq (.rg [⟨some 24, none, .mv (.t 1)⟩,
    ⟨some 25, none, .bin .lss .i64 (.t 24) (.c (.d (.int .i64 0)))⟩])
    (.cond (.t 25)
      (.seq (.rg [⟨some 4, none, .mv (.c (.d (.int .i64 (-1))))⟩])
      .ret)
      .skip))))
    (.rg [⟨some 16, none, .mv (.t 5)⟩,
    ⟨some 17, none, .bin .add .i64 (.t 16) (.c (.d (.int .i64 1)))⟩,
    ⟨some 5, none, .mv (.t 17)⟩]))))))
  (.seq (.rg [⟨some 26, none, .mv (.t 1)⟩,
  ⟨some 4, none, .mv (.t 26)⟩])
  .ret)))))
def r23 : List RV := [.t 4]

theorem k23 : (Tryd.f23.body.bind (slim Tryd.prog loudF Tryd.f23.ntmps)) = some s23 := by kernel_rfl

/-- loop.example/g00208/spec.TableOK -/
def s24 : SC :=
  (.seq (.rg [⟨some 1, none, .box 4 (.t 0)⟩,
  ⟨some 2, none, .mv (.c (.d (.bool false)))⟩])
  (.seq (.seq (.rg [⟨some 6, none, .fad 0 (.t 1)⟩,
  ⟨some 7, none, .ld none (.t 6)⟩,
  ⟨some 8, none, .call 37 [(.t 7)]⟩,
  ⟨some 9, none, .not (.t 8)⟩,
  ⟨some 10, none, .mv (.t 9)⟩,
  ⟨some 11, some (10, false), .fad 1 (.t 1)⟩,
  ⟨some 12, some (10, false), .ld none (.t 11)⟩,
  ⟨some 13, some (10, false), .len (.t 12)⟩,
  ⟨some 14, some (10, false), .call 25 [(.t 13), (.c (.d (.int .i64 1))), (.c (.d (.int .i64 8)))]⟩,
  ⟨some 15, some (10, false), .not (.t 14)⟩,
  ⟨some 16, none, .pick (.t 10) (.c (.d (.bool true))) (.t 15)⟩,
  ⟨some 17, none, .mv (.t 16)⟩,
  ⟨some 18, some (17, false), .fad 2 (.t 1)⟩,
  ⟨some 19, some (17, false), .ld none (.t 18)⟩,
  ⟨some 20, some (17, false), .fad 1 (.t 1)⟩,
  ⟨some 21, some (17, false), .ld none (.t 20)⟩,
  ⟨some 22, some (17, false), .len (.t 21)⟩,
  ⟨some 23, some (17, false), .call 25 [(.t 19), (.c (.d (.int .i64 1))), (.t 22)]⟩,
  ⟨some 24, some (17, false), .not (.t 23)⟩,
  ⟨some 25, none, .pick (.t 17) (.c (.d (.bool true))) (.t 24)⟩,
  ⟨some 26, none, .mv (.t 25)⟩,
  ⟨some 27, some (26, false), .fad 3 (.t 1)⟩,
  ⟨some 28, some (26, false), .ld none (.t 27)⟩,
  ⟨some 29, some (26, false), .len (.t 28)⟩,
  ⟨some 30, some (26, false), .bin .gtr .i64 (.t 29) (.c (.d (.int .i64 4)))⟩,
  ⟨some 31, none, .pick (.t 26) (.c (.d (.bool true))) (.t 30)⟩])
  (.cond (.t 31)
    (.seq (.rg [⟨some 2, none, .mv (.c (.d (.bool false)))⟩])
    .ret)
    .skip))
  (.seq (.seq (.rg [⟨some 3, none, .mv (.c (.d (.int .i64 0)))⟩])
  (.blk 0 (.loop (.seq (.seq (.rg [⟨some 32, none, .mv (.t 3)⟩,
    ⟨some 33, none, .fad 1 (.t 1)⟩,
    ⟨some 34, none, .ld none (.t 33)⟩,
    ⟨some 35, none, .len (.t 34)⟩,
    ⟨some 36, none, .bin .lss .i64 (.t 32) (.t 35)⟩])
    (.cond (.t 36)
      .skip
      (.exit 0)))
    (.seq (.blk 1 (.seq (.rg [⟨some 39, none, .fad 1 (.t 1)⟩,
    ⟨some 40, none, .ld none (.t 39)⟩,
    ⟨some 41, none, .mv (.t 3)⟩,
    ⟨some 42, none, .iad 3 [.str [], .int .i64 0, .bool false] (.t 40) (.t 41)⟩,
    ⟨some 43, none, .ld (some 3) (.t 42)⟩,
    ⟨some 4, none, .new [.d (.str []), .d (.int .i64 0), .d (.bool false)]⟩,
    ⟨none, none, .st 3 (.t 4) (.t 43)⟩])
    (.seq (.rgd (.op ⟨some 44, none, .fad 0 (.t 4)⟩ (.op ⟨some 45, none, .ld none (.t 44)⟩ (.op ⟨some 46, none, .call 37 [(.t 45)]⟩ (.op ⟨some 47, none, .not (.t 46)⟩ (.op ⟨some 48, none, .mv (.t 47)⟩ (.op ⟨some 49, some (48, false), .fad 1 (.t 4)⟩ (.op ⟨some 50, some (48, false), .ld none (.t 49)⟩ (.op ⟨some 51, some (48, false), .call 25 [(.t 50), (.c (.d (.int .i64 1))), (.c (.d (.int .i64 4)))]⟩ (.op ⟨some 52, some (48, false), .not (.t 51)⟩ (.op ⟨some 53, none, .pick (.t 48) (.c (.d (.bool true))) (.t 52)⟩ (.op ⟨some 54, none, .mv (.t 53)⟩ (.op ⟨some 55, some (54, false), .mv (.t 3)⟩ (.op ⟨some 56, some (54, false), .fad 2 (.t 1)⟩ (.op ⟨some 57, some (54, false), .ld none (.t 56)⟩ (.op ⟨some 58, some (54, false), .bin .lss .i64 (.t 55) (.t 57)⟩ (.op ⟨some 59, some (54, false), .mv (.t 58)⟩ (.op ⟨some 60, some (59, true), .fad 2 (.t 4)⟩ (.op ⟨some 61, some (59, true), .ld none (.t 60)⟩ (.op ⟨some 62, some (54, false), .pick (.t 59) (.t 61) (.c (.d (.bool false)))⟩ (.op ⟨some 63, none, .pick (.t 54) (.c (.d (.bool true))) (.t 62)⟩ (.op ⟨some 64, none, .mv (.t 63)⟩ (.op ⟨some 65, some (64, false), .fad 1 (.t 1)⟩ (.op ⟨some 66, some (64, false), .ld none (.t 65)⟩ (.op ⟨some 67, some (64, false), .mv (.t 3)⟩ (.op ⟨some 68, some (64, false), .sli 3 (.t 66) none (some (.t 67))⟩ (.op ⟨some 69, some (64, false), .fad 0 (.t 4)⟩ (.op ⟨some 70, some (64, false), .ld none (.t 69)⟩ (.op ⟨some 71, some (64, false), .call 38 [(.t 68), (.t 70)]⟩ (.op ⟨some 72, some (64, false), .bin .geq .i64 (.t 71) (.c (.d (.int .i64 0)))⟩ (.op ⟨some 73, none, .pick (.t 64) (.c (.d (.bool true))) (.t 72)⟩ .done)))))))))))))))))))))))))))))))
    (.cond (.t 73)
      (.seq (.rg [⟨some 2, none, .mv (.c (.d (.bool false)))⟩])
      .ret)
      .skip))))
    (.rg [⟨some 37, none, .mv (.t 3)⟩,
    ⟨some 38, none, .bin .add .i64 (.t 37) (.c (.d (.int .i64 1)))⟩,
    ⟨some 3, none, .mv (.t 38)⟩]))))))
  (.seq (.seq (.rg [⟨some 5, none, .mv (.c (.d (.int .i64 0)))⟩])
  (.blk 2 (.loop (.seq (.seq (.rg [⟨some 74, none, .mv (.t 5)⟩,
    ⟨some 75, none, .fad 3 (.t 1)⟩,
    ⟨some 76, none, .ld none (.t 75)⟩,
    ⟨some 77, none, .len (.t 76)⟩,
    ⟨some 78, none, .bin .lss .i64 (.t 74) (.t 77)⟩])
    (.cond (.t 78)
      .skip
      (.exit 2)))
    (.seq (.blk 3 (.seq (.rgd (.op ⟨some 81, none, .ld (some 4) (.t 1)⟩ (.op ⟨some 82, none, .fad 3 (.t 1)⟩ (.op ⟨some 83, none, .ld none (.t 82)⟩ (.op ⟨some 84, none, .mv (.t 5)⟩ (.op ⟨some 85, none, .iad 2 [.str [], .sl 1 []] (.t 83) (.t 84)⟩ (.op ⟨some 86, none, .ld (some 2) (.t 85)⟩ (.op ⟨some 87, none, .call 39 [(.t 81), (.t 86)]⟩ (.op ⟨some 88, none, .not (.t 87)⟩ (.op ⟨some 89, none, .mv (.t 88)⟩ (.op ⟨some 90, some (89, false), .fad 3 (.t 1)⟩ (.op ⟨some 91, some (89, false), .ld none (.t 90)⟩ (.op ⟨some 92, some (89, false), .mv (.t 5)⟩ (.op ⟨some 93, some (89, false), .sli 2 (.t 91) none (some (.t 92))⟩ (.op ⟨some 94, some (89, false), .fad 3 (.t 1)⟩ (.op ⟨some 95, some (89, false), .ld none (.t 94)⟩ (.op ⟨some 96, some (89, false), .mv (.t 5)⟩ (.op ⟨some 97, some (89, false), .iad 2 [.str [], .sl 1 []] (.t 95) (.t 96)⟩ (.op ⟨some 98, some (89, false), .fad 0 (.t 97)⟩ (.op ⟨some 99, some (89, false), .ld none (.t 98)⟩ (.op ⟨some 100, some (89, false), .call 40 [(.t 93), (.t 99)]⟩ (.op ⟨some 101, some (89, false), .bin .geq .i64 (.t 100) (.c (.d (.int .i64 0)))⟩ (.op ⟨some 102, none, .pick (.t 89) (.c (.d (.bool true))) (.t 101)⟩ .done)))))))))))))))))))))))
    (.cond (.t 102)
      (.seq (.rg [⟨some 2, none, .mv (.c (.d (.bool false)))⟩])
      .ret)
      .skip)))
    (.rg [⟨some 79, none, .mv (.t 5)⟩,
    ⟨some 80, none, .bin .add .i64 (.t 79) (.c (.d (.int .i64 1)))⟩,
    ⟨some 5, none, .mv (.t 80)⟩]))))))
  (.seq (.rg [⟨some 2, none, .mv (.c (.d (.bool true)))⟩])
  .ret)))))
def r24 : List RV := [.t 2]

theorem k24 : (Tryd.f24.body.bind (slim Tryd.prog loudF Tryd.f24.ntmps)) = some s24 := by kernel_rfl

/-- loop.example/g00208/spec.l01In -/
def s25 : SC :=
  (.seq (.rg [⟨some 6, none, .mv (.c (.d (.bool false)))⟩])
  (.seq (.rg [⟨some 7, none, .mv (.t 0)⟩,
  ⟨some 8, none, .mv (.t 1)⟩,
  ⟨some 9, none, .bin .geq .i64 (.t 7) (.t 8)⟩,
  ⟨some 10, none, .mv (.t 9)⟩,
  ⟨some 11, some (10, true), .mv (.t 0)⟩,
  ⟨some 12, some (10, true), .mv (.t 2)⟩,
  ⟨some 13, some (10, true), .bin .leq .i64 (.t 11) (.t 12)⟩,
  ⟨some 14, none, .pick (.t 10) (.t 13) (.c (.d (.bool false)))⟩,
  ⟨some 6, none, .mv (.t 14)⟩])
  .ret))
def r25 : List RV := [.t 6]

theorem k25 : (Tryd.f25.body.bind (slim Tryd.prog loudF Tryd.f25.ntmps)) = some s25 := by kernel_rfl

/-- loop.example/g00208/laws.toColumnS -/
def s26 : SC :=
  (.seq (.rg [⟨some 2, none, .mv (.c (.nils 3))⟩])
  (.seq (.rg [⟨some 5, none, .mv (.t 0)⟩,
  ⟨some 6, none, .len (.t 5)⟩,
  ⟨some 7, none, .mk 3 [.str [], .int .i64 0, .bool false] (.t 6) (.t 6)⟩,
  ⟨some 3, none, .mv (.t 7)⟩])
  (.seq (.seq (.rg [⟨some 4, none, .mv (.c (.d (.int .i64 0)))⟩])
  (.blk 0 (.loop (.seq (.seq (.rg [⟨some 8, none, .mv (.t 4)⟩,
    ⟨some 9, none, .mv (.t 0)⟩,
    ⟨some 10, none, .len (.t 9)⟩,
    ⟨some 11, none, .bin .lss .i64 (.t 8) (.t 10)⟩])
    (.cond (.t 11)
      .skip
      (.exit 0)))
    (.seq (.blk 1 (.rg [⟨some 14, none, .mv (.t 3)⟩,
    ⟨some 15, none, .mv (.t 4)⟩,
    ⟨some 16, none, .mv (.t 0)⟩,
    ⟨some 17, none, .mv (.t 4)⟩,
    ⟨some 18, none, .iad 3 [.str [], .int .i64 0, .bool false] (.t 16) (.t 17)⟩,
    ⟨some 19, none, .ld (some 3) (.t 18)⟩,
    ⟨some 20, none, .call 41 [(.t 19)]⟩,
    ⟨some 21, none, .iad 3 [.str [], .int .i64 0, .bool false] (.t 14) (.t 15)⟩,
    ⟨none, none, .st 3 (.t 21) (.t 20)⟩]))
    (.rg [⟨some 12, none, .mv (.t 4)⟩,
    ⟨some 13, none, .bin .add .i64 (.t 12) (.c (.d (.int .i64 1)))⟩,
    ⟨some 4, none, .mv (.t 13)⟩]))))))
  (.seq (.rg [⟨some 22, none, .mv (.t 3)⟩,
  ⟨some 2, none, .mv (.t 22)⟩])
  .ret))))
def r26 : List RV := [.t 2]

theorem k26 : (Tryd.f26.body.bind (slim Tryd.prog loudF Tryd.f26.ntmps)) = some s26 := by kernel_rfl

/-- loop.example/g00208/laws.toIndexS -/
def s27 : SC :=
  (.seq (.rg [⟨some 2, none, .mv (.c (.nils 2))⟩])
  (.seq (.rg [⟨some 5, none, .mv (.t 0)⟩,
  ⟨some 6, none, .len (.t 5)⟩,
  ⟨some 7, none, .mk 2 [.str [], .sl 1 []] (.t 6) (.t 6)⟩,
  ⟨some 3, none, .mv (.t 7)⟩])
  (.seq (.seq (.rg [⟨some 4, none, .mv (.c (.d (.int .i64 0)))⟩])
  (.blk 0 (.loop (.seq (.seq (.rg [⟨some 8, none, .mv (.t 4)⟩,
    ⟨some 9, none, .mv (.t 0)⟩,
    ⟨some 10, none, .len (.t 9)⟩,
    ⟨some 11, none, .bin .lss .i64 (.t 8) (.t 10)⟩])
    (.cond (.t 11)
      .skip
      (.exit 0)))
    (.seq (.blk 1 (.rg [⟨some 14, none, .mv (.t 3)⟩,
    ⟨some 15, none, .mv (.t 4)⟩,
    ⟨some 16, none, .mv (.t 0)⟩,
    ⟨some 17, none, .mv (.t 4)⟩,
    ⟨some 18, none, .iad 2 [.str [], .sl 1 []] (.t 16) (.t 17)⟩,
    ⟨some 19, none, .ld (some 2) (.t 18)⟩,
    ⟨some 20, none, .call 42 [(.t 19)]⟩,
    ⟨some 21, none, .iad 2 [.str [], .sl 1 []] (.t 14) (.t 15)⟩,
    ⟨none, none, .st 2 (.t 21) (.t 20)⟩]))
    (.rg [⟨some 12, none, .mv (.t 4)⟩,
    ⟨some 13, none, .bin .add .i64 (.t 12) (.c (.d (.int .i64 1)))⟩,
    ⟨some 4, none, .mv (.t 13)⟩]))))))
  (.seq (.rg [⟨some 22, none, .mv (.t 3)⟩,
  ⟨some 2, none, .mv (.t 22)⟩])
  .ret))))
def r27 : List RV := [.t 2]

theorem k27 : (Tryd.f27.body.bind (slim Tryd.prog loudF Tryd.f27.ntmps)) = some s27 := by kernel_rfl

/-- loop.example/g00208/impl.TableOK -/
def s28 : SC :=
  (.seq (.rg [⟨some 1, none, .box 4 (.t 0)⟩,
  ⟨some 2, none, .mv (.c (.d (.bool false)))⟩])
  (.seq (.seq (.rg [⟨some 7, none, .fad 0 (.t 1)⟩,
  ⟨some 8, none, .ld none (.t 7)⟩,
  ⟨some 9, none, .call 43 [(.t 8)]⟩,
  ⟨some 10, none, .not (.t 9)⟩,
  ⟨some 11, none, .mv (.t 10)⟩,
  ⟨some 12, some (11, false), .fad 1 (.t 1)⟩,
  ⟨some 13, some (11, false), .ld none (.t 12)⟩,
  ⟨some 14, some (11, false), .len (.t 13)⟩,
  ⟨some 15, some (11, false), .call 29 [(.t 14), (.c (.d (.int .i64 1))), (.c (.d (.int .i64 8)))]⟩,
  ⟨some 16, some (11, false), .not (.t 15)⟩,
  ⟨some 17, none, .pick (.t 11) (.c (.d (.bool true))) (.t 16)⟩,
  ⟨some 18, none, .mv (.t 17)⟩,
  ⟨some 19, some (18, false), .fad 2 (.t 1)⟩,
  ⟨some 20, some (18, false), .ld none (.t 19)⟩,
  ⟨some 21, some (18, false), .fad 1 (.t 1)⟩,
  ⟨some 22, some (18, false), .ld none (.t 21)⟩,
  ⟨some 23, some (18, false), .len (.t 22)⟩,
  ⟨some 24, some (18, false), .call 29 [(.t 20), (.c (.d (.int .i64 1))), (.t 23)]⟩,
  ⟨some 25, some (18, false), .not (.t 24)⟩,
  ⟨some 26, none, .pick (.t 18) (.c (.d (.bool true))) (.t 25)⟩,
  ⟨some 27, none, .mv (.t 26)⟩,
  ⟨some 28, some (27, false), .fad 3 (.t 1)⟩,
  ⟨some 29, some (27, false), .ld none (.t 28)⟩,
  ⟨some 30, some (27, false), .len (.t 29)⟩,
  ⟨some 31, some (27, false), .bin .gtr .i64 (.t 30) (.c (.d (.int .i64 4)))⟩,
  ⟨some 32, none, .pick (.t 27) (.c (.d (.bool true))) (.t 31)⟩])
  (.cond (.t 32)
    (.seq (.rg [⟨some 2, none, .mv (.c (.d (.bool false)))⟩])
    .ret)
    .skip))
  (.seq (.seq (.rg [⟨some 33, none, .fad 1 (.t 1)⟩,
  ⟨some 34, none, .ld none (.t 33)⟩,
  ⟨some 35, none, .len (.t 34)⟩,
  ⟨some 36, none, .mv (.c (.d (.int .i64 0)))⟩])
  (.blk 0 (.loop (.seq (.rg [⟨some 37, none, .bin .lss .i64 (.t 36) (.t 35)⟩])
    (.seq (.cond (.t 37)
      .skip
      (.exit 0))
    (.seq (.blk 1 (.seq (.rg [⟨some 38, none, .mv (.t 36)⟩,
    ⟨some 39, none, .iad 3 [.str [], .int .i64 0, .bool false] (.t 34) (.t 36)⟩,
    ⟨some 40, none, .ld (some 3) (.t 39)⟩,
    ⟨some 4, none, .new [.d (.str []), .d (.int .i64 0), .d (.bool false)]⟩,
    ⟨some 3, none, .mv (.t 38)⟩,
    ⟨none, none, .st 3 (.t 4) (.t 40)⟩])
    (.seq (.rg [⟨some 41, none, .ld (some 3) (.t 4)⟩,
    ⟨some 42, none, .call 44 [(.t 41)]⟩,
    ⟨some 43, none, .not (.t 42)⟩,
    ⟨some 44, none, .mv (.t 43)⟩,
    ⟨some 45, some (44, false), .ld (some 4) (.t 1)⟩,
    ⟨some 46, some (44, false), .fad 0 (.t 4)⟩,
    ⟨some 47, some (44, false), .ld none (.t 46)⟩,
    ⟨some 48, some (44, false), .call 45 [(.t 45), (.t 47)]⟩,
    ⟨some 49, some (44, false), .mv (.t 3)⟩,
    ⟨some 50, some (44, false), .bin .neq .i64 (.t 48) (.t 49)⟩,
    ⟨some 51, none, .pick (.t 44) (.c (.d (.bool true))) (.t 50)⟩,
    ⟨some 52, none, .mv (.t 51)⟩,
    ⟨some 53, some (52, false), .mv (.t 3)⟩,
    ⟨some 54, some (52, false), .fad 2 (.t 1)⟩,
    ⟨some 55, some (52, false), .ld none (.t 54)⟩,
    ⟨some 56, some (52, false), .bin .lss .i64 (.t 53) (.t 55)⟩,
    ⟨some 57, some (52, false), .mv (.t 56)⟩,
    ⟨some 58, some (57, true), .fad 2 (.t 4)⟩,
    ⟨some 59, some (57, true), .ld none (.t 58)⟩,
    ⟨some 60, some (52, false), .pick (.t 57) (.t 59) (.c (.d (.bool false)))⟩,
    ⟨some 61, none, .pick (.t 52) (.c (.d (.bool true))) (.t 60)⟩])
    (.cond (.t 61)
      (.seq (.rg [⟨some 2, none, .mv (.c (.d (.bool false)))⟩])
      .ret)
      .skip))))
    (.rg [⟨some 62, none, .bin .add .i64 (.t 36) (.c (.d (.int .i64 1)))⟩,
    ⟨some 36, none, .mv (.t 62)⟩])))))))
  (.seq (.seq (.rg [⟨some 63, none, .fad 3 (.t 1)⟩,
  ⟨some 64, none, .ld none (.t 63)⟩,
  ⟨some 65, none, .len (.t 64)⟩,
  ⟨some 66, none, .mv (.c (.d (.int .i64 0)))⟩])
  (.blk 2 (.loop (.seq (.rg [⟨some 67, none, .bin .lss .i64 (.t 66) (.t 65)⟩])
    (.seq (.cond (.t 67)
      .skip
      (.exit 2))
    (.seq (.blk 3 (.seq (.rg [⟨some 68, none, .mv (.t 66)⟩,
    ⟨some 69, none, .iad 2 [.str [], .sl 1 []] (.t 64) (.t 66)⟩,
    ⟨some 70, none, .ld (some 2) (.t 69)⟩,
    ⟨some 6, none, .new [.d (.str []), .nils 1]⟩,
    ⟨some 5, none, .mv (.t 68)⟩,
    ⟨none, none, .st 2 (.t 6) (.t 70)⟩])
    (.seq (.rg [⟨some 71, none, .ld (some 4) (.t 1)⟩,
    ⟨some 72, none, .ld (some 2) (.t 6)⟩,
    ⟨some 73, none, .call 46 [(.t 71), (.t 72)]⟩,
    ⟨some 74, none, .not (.t 73)⟩,
    ⟨some 75, none, .mv (.t 74)⟩,
    ⟨some 76, some (75, false), .ld (some 4) (.t 1)⟩,
    ⟨some 77, some (75, false), .fad 0 (.t 6)⟩,
    ⟨some 78, some (75, false), .ld none (.t 77)⟩,
    ⟨some 79, some (75, false), .call 47 [(.t 76), (.t 78)]⟩,
    ⟨some 80, some (75, false), .mv (.t 5)⟩,
    ⟨some 81, some (75, false), .bin .neq .i64 (.t 79) (.t 80)⟩,
    ⟨some 82, none, .pick (.t 75) (.c (.d (.bool true))) (.t 81)⟩])
    (.cond (.t 82)
      (.seq (.rg [⟨some 2, none, .mv (.c (.d (.bool false)))⟩])
      .ret)
      .skip))))
    (.rg [⟨some 83, none, .bin .add .i64 (.t 66) (.c (.d (.int .i64 1)))⟩,
    ⟨some 66, none, .mv (.t 83)⟩])))))))
  (.seq (.rg [⟨some 2, none, .mv (.c (.d (.bool true)))⟩])
  .ret)))))
def r28 : List RV := [.t 2]

theorem k28 : (Tryd.f28.body.bind (slim Tryd.prog loudF Tryd.f28.ntmps)) = some s28 := by kernel_rfl

/-- loop.example/g00208/impl.within -/
def s29 : SC :=
  (.seq (.rg [⟨some 6, none, .mv (.c (.d (.bool false)))⟩])
  (.seq (.rg [⟨some 7, none, .mv (.t 0)⟩,
  ⟨some 8, none, .mv (.t 1)⟩,
  ⟨some 9, none, .bin .geq .i64 (.t 7) (.t 8)⟩,
  ⟨some 10, none, .mv (.t 9)⟩,
  ⟨some 11, some (10, true), .mv (.t 0)⟩,
  ⟨some 12, some (10, true), .mv (.t 2)⟩,
  ⟨some 13, some (10, true), .bin .leq .i64 (.t 11) (.t 12)⟩,
  ⟨some 14, none, .pick (.t 10) (.t 13) (.c (.d (.bool false)))⟩,
  ⟨some 6, none, .mv (.t 14)⟩])
  .ret))
def r29 : List RV := [.t 6]

theorem k29 : (Tryd.f29.body.bind (slim Tryd.prog loudF Tryd.f29.ntmps)) = some s29 := by kernel_rfl

/-- slices.BinarySearchFunc[[]loop.example/g00208/impl.Table,loop.example/g00208/impl.Table,string] -/
def s30 : SC :=
  (.seq (.rg [⟨some 6, none, .mv (.c (.d (.int .i64 0)))⟩,
  ⟨some 7, none, .mv (.c (.d (.bool false)))⟩])
  (.seq (.rg [⟨some 12, none, .mv (.t 0)⟩,
  ⟨some 13, none, .len (.t 12)⟩,
  ⟨some 8, none, .mv (.t 13)⟩])
  (.seq (.rg [⟨some 14, none, .mv (.t 8)⟩,
  ⟨some 9, none, .mv (.c (.d (.int .i64 0)))⟩,
  ⟨some 10, none, .mv (.t 14)⟩])
  (.seq (.blk 0 (.loop (.seq (.seq (.rg [⟨some 15, none, .mv (.t 9)⟩,
    ⟨some 16, none, .mv (.t 10)⟩,
    ⟨some 17, none, .bin .lss .i64 (.t 15) (.t 16)⟩])
    (.cond (.t 17)
      .skip
      (.exit 0)))
    (.blk 1 (.seq (.rg [⟨some 18, none, .mv (.t 9)⟩,
    ⟨some 19, none, .mv (.t 10)⟩,
    ⟨some 20, none, .bin .add .i64 (.t 18) (.t 19)⟩,
    ⟨some 21, none, .conv .u64 (.t 20)⟩,
    ⟨some 22, none, .shf .shr .u64 (.t 21) (.c (.d (.int .u64 1)))⟩,
    ⟨some 23, none, .conv .i64 (.t 22)⟩,
    ⟨some 11, none, .mv (.t 23)⟩])
    (.seq (.rg [⟨some 24, none, .mv (.t 2)⟩,
    ⟨some 25, none, .mv (.t 0)⟩,
    ⟨some 26, none, .mv (.t 11)⟩,
    ⟨some 27, none, .iad 4 [.str [], .sl 3 [], .int .i64 0, .sl 2 []] (.t 25) (.t 26)⟩,
    ⟨some 28, none, .ld (some 4) (.t 27)⟩,
    ⟨some 29, none, .mv (.t 1)⟩,
    ⟨some 30, none, .calv (.t 24) [(.t 28), (.t 29)]⟩,
    ⟨some 31, none, .bin .lss .i64 (.t 30) (.c (.d (.int .i64 0)))⟩])
    (.cond (.t 31)
      (.rg [⟨some 32, none, .mv (.t 11)⟩,
      ⟨some 33, none, .bin .add .i64 (.t 32) (.c (.d (.int .i64 1)))⟩,
      ⟨some 9, none, .mv (.t 33)⟩])
      (.rg [⟨some 34, none, .mv (.t 11)⟩,
      ⟨some 10, none, .mv (.t 34)⟩]))))))))
  (.seq (.rg [⟨some 35, none, .mv (.t 9)⟩,
  ⟨some 36, none, .mv (.t 9)⟩,
  ⟨some 37, none, .mv (.t 8)⟩,
  ⟨some 38, none, .bin .lss .i64 (.t 36) (.t 37)⟩,
  ⟨some 39, none, .mv (.t 38)⟩,
  ⟨some 40, some (39, true), .mv (.t 2)⟩,
  ⟨some 41, some (39, true), .mv (.t 0)⟩,
  ⟨some 42, some (39, true), .mv (.t 9)⟩,
  ⟨some 43, some (39, true), .iad 4 [.str [], .sl 3 [], .int .i64 0, .sl 2 []] (.t 41) (.t 42)⟩,
  ⟨some 44, some (39, true), .ld (some 4) (.t 43)⟩,
  ⟨some 45, some (39, true), .mv (.t 1)⟩,
  ⟨some 46, some (39, true), .calv (.t 40) [(.t 44), (.t 45)]⟩,
  ⟨some 47, some (39, true), .bin .eql .i64 (.t 46) (.c (.d (.int .i64 0)))⟩,
  ⟨some 48, none, .pick (.t 39) (.t 47) (.c (.d (.bool false)))⟩,
  ⟨some 6, none, .mv (.t 35)⟩,
  ⟨some 7, none, .mv (.t 48)⟩])
  .ret)))))
def r30 : List RV := [.t 6, .t 7]

theorem k30 : (Tryd.f30.body.bind (slim Tryd.prog loudF Tryd.f30.ntmps)) = some s30 := by kernel_rfl

/-- loop.example/g00208/impl.tableAt$1 -/
def s31 : SC :=
  (.seq (.rg [⟨some 2, none, .box 4 (.t 0)⟩,
  ⟨some 4, none, .mv (.c (.d (.int .i64 0)))⟩])
  (.seq (.rg [⟨some 5, none, .fad 0 (.t 2)⟩,
  ⟨some 6, none, .ld none (.t 5)⟩,
  ⟨some 7, none, .mv (.t 1)⟩,
  ⟨some 8, none, .call 32 [(.t 6), (.t 7)]⟩,
  ⟨some 4, none, .mv (.t 8)⟩])
  .ret))
def r31 : List RV := [.t 4]

theorem k31 : (Tryd.f31.body.bind (slim Tryd.prog loudF Tryd.f31.ntmps)) = some s31 := by kernel_rfl

/-- cmp.Compare[string] -/
def s32 : SC :=
  (.seq (.rg [⟨some 4, none, .mv (.c (.d (.int .i64 0)))⟩])
  (.seq (.rg [⟨some 7, none, .mv (.t 0)⟩,
  ⟨some 8, none, .call 48 [(.t 7)]⟩,
  ⟨some 5, none, .mv (.t 8)⟩])
  (.seq (.rg [⟨some 9, none, .mv (.t 1)⟩,
  ⟨some 10, none, .call 48 [(.t 9)]⟩,
  ⟨some 6, none, .mv (.t 10)⟩])
  (.seq (.seq (.rg [⟨some 11, none, .mv (.t 5)⟩])
  (.cond (.t 11)
    (.seq (.seq (.rg [⟨some 12, none, .mv (.t 6)⟩])
    (.cond (.t 12)
      (.seq (.rg [⟨some 4, none, .mv (.c (.d (.int .i64 0)))⟩])
      .ret)
      .skip))
    (.seq (.rg [⟨some 4, none, .mv (.c (.d (.int .i64 (-1))))⟩])
    .ret))
    .skip))
  (.seq (.seq (.rg [⟨some 13, none, .mv (.t 6)⟩])
  (.cond (.t 13)
    (.seq (.rg [⟨some 4, none, .mv (.c (.d (.int .i64 1)))⟩])
    .ret)
    .skip))
  (.seq (.seq (.rg [⟨some 14, none, .mv (.t 0)⟩,
  ⟨some 15, none, .mv (.t 1)⟩,
  ⟨some 16, none, .sbin .lss (.t 14) (.t 15)⟩])
  (.cond (.t 16)
    (.seq (.rg [⟨some 4, none, .mv (.c (.d (.int .i64 (-1))))⟩])
    .ret)
    .skip))
  (.seq (.seq (.rg [⟨some 17, none, .mv (.t 0)⟩,
  ⟨some 18, none, .mv (.t 1)⟩,
  ⟨some 19, none, .sbin .gtr (.t 17) (.t 18)⟩])
  (.cond (.t 19)
    (.seq (.rg [⟨some 4, none, .mv (.c (.d (.int .i64 1)))⟩])
    .ret)
    .skip))
  (.seq (.rg [⟨some 4, none, .mv (.c (.d (.int .i64 0)))⟩])
  .ret))))))))
def r32 : List RV := [.t 4]

theorem k32 : (Tryd.f32.body.bind (slim Tryd.prog loudF Tryd.f32.ntmps)) = some s32 := by kernel_rfl

/-- loop.example/g00208/laws.eqColumnS -/
def s33 : SC :=
  (.seq (.rg [⟨some 4, none, .mv (.c (.d (.bool false)))⟩])
  (.seq (.seq (.rg [⟨some 6, none, .mv (.t 0)⟩,
  ⟨some 7, none, .len (.t 6)⟩,
  ⟨some 8, none, .mv (.t 1)⟩,
  ⟨some 9, none, .len (.t 8)⟩,
  ⟨some 10, none, .bin .neq .i64 (.t 7) (.t 9)⟩])
  (.cond (.t 10)
    (.seq (.rg [⟨some 4, none, .mv (.c (.d (.bool false)))⟩])
    .ret)
    .skip))
  (.seq (.seq (.rg [⟨some 5, none, .mv (.c (.d (.int .i64 0)))⟩])
  (.blk 0 (.loop (.seq (.seq (.rg [⟨some 11, none, .mv (.t 5)⟩,
    ⟨some 12, none, .mv (.t 0)⟩,
    ⟨some 13, none, .len (.t 12)⟩,
    ⟨some 14, none, .bin .lss .i64 (.t 11) (.t 13)⟩])
    (.cond (.t 14)
      .skip
      (.exit 0)))
    (.seq (.blk 1 (.seq (.rgd (.op ⟨some 17, none, .mv (.t 0)⟩ (.op ⟨some 18, none, .mv (.t 5)⟩ (.op ⟨some 19, none, .iad 3 [.str [], .int .i64 0, .bool false] (.t 17) (.t 18)⟩ (.op ⟨some 20, none, .ld (some 3) (.t 19)⟩ (.op ⟨some 21, none, .mv (.t 1)⟩ (.op ⟨some 22, none, .mv (.t 5)⟩ (.op ⟨some 23, none, .iad 3 [.str [], .int .i64 0, .bool false] (.t 21) (.t 22)⟩ (.op ⟨some 24, none, .ld (some 3) (.t 23)⟩ (.op ⟨some 25, none, .call 49 [(.t 20), (.t 24)]⟩ (.op ⟨some 26, none, .not (.t 25)⟩ .done)))))))))))
    (.cond (.t 26)
      (.seq (.rg [⟨some 4, none, .mv (.c (.d (.bool false)))⟩])
      .ret)
      .skip)))
    (.rg [⟨some 15, none, .mv (.t 5)⟩,
    ⟨some 16, none, .bin .add .i64 (.t 15) (.c (.d (.int .i64 1)))⟩,
    ⟨some 5, none, .mv (.t 16)⟩]))))))
  (.seq (.rg [⟨some 4, none, .mv (.c (.d (.bool true)))⟩])
  .ret))))
def r33 : List RV := [.t 4]

theorem k33 : (Tryd.f33.body.bind (slim Tryd.prog loudF Tryd.f33.ntmps)) = some s33 := by kernel_rfl

/-- loop.example/g00208/laws.eqIndexS -/
def s34 : SC :=
  (.seq (.rg [⟨some 4, none, .mv (.c (.d (.bool false)))⟩])
  (.seq (.seq (.rg [⟨some 6, none, .mv (.t 0)⟩,
  ⟨some 7, none, .len (.t 6)⟩,
  ⟨some 8, none, .mv (.t 1)⟩,
  ⟨some 9, none, .len (.t 8)⟩,
  ⟨some 10, none, .bin .neq .i64 (.t 7) (.t 9)⟩])
  (.cond (.t 10)
    (.seq (.rg [⟨some 4, none, .mv (.c (.d (.bool false)))⟩])
    .ret)
    .skip))
  (.seq (.seq (.rg [⟨some 5, none, .mv (.c (.d (.int .i64 0)))⟩])
  (.blk 0 (.loop (.seq (.seq (.rg [⟨some 11, none, .mv (.t 5)⟩,
    ⟨some 12, none, .mv (.t 0)⟩,
    ⟨some 13, none, .len (.t 12)⟩,
    ⟨some 14, none, .bin .lss .i64 (.t 11) (.t 13)⟩])
    (.cond (.t 14)
      .skip
      (.exit 0)))
    (.seq (.blk 1 (.seq (.rgd (.op ⟨some 17, none, .mv (.t 0)⟩ (.op ⟨some 18, none, .mv (.t 5)⟩ (.op ⟨some 19, none, .iad 2 [.str [], .sl 1 []] (.t 17) (.t 18)⟩ (.op ⟨some 20, none, .ld (some 2) (.t 19)⟩ (.op ⟨some 21, none, .mv (.t 1)⟩ (.op ⟨some 22, none, .mv (.t 5)⟩ (.op ⟨some 23, none, .iad 2 [.str [], .sl 1 []] (.t 21) (.t 22)⟩ (.op ⟨some 24, none, .ld (some 2) (.t 23)⟩ (.op ⟨some 25, none, .call 50 [(.t 20), (.t 24)]⟩ (.op ⟨some 26, none, .not (.t 25)⟩ .done)))))))))))
    (.cond (.t 26)
      (.seq (.rg [⟨some 4, none, .mv (.c (.d (.bool false)))⟩])
      .ret)
      .skip)))
    (.rg [⟨some 15, none, .mv (.t 5)⟩,
    ⟨some 16, none, .bin .add .i64 (.t 15) (.c (.d (.int .i64 1)))⟩,
    ⟨some 5, none, .mv (.t 16)⟩]))))))
  (.seq (.rg [⟨some 4, none, .mv (.c (.d (.bool true)))⟩])
  .ret))))
def r34 : List RV := [.t 4]

theorem k34 : (Tryd.f34.body.bind (slim Tryd.prog loudF Tryd.f34.ntmps)) = some s34 := by kernel_rfl

/-- loop.example/g00208/laws.szColumn -/
def s35 : SC :=
  (.seq (.rg [⟨some 2, none, .box 3 (.t 0)⟩,
  ⟨some 4, none, .mv (.c (.d (.int .i64 0)))⟩])
  (.seq (.rg [⟨some 5, none, .mv (.t 1)⟩,
  ⟨some 6, none, .fad 0 (.t 2)⟩,
  ⟨some 7, none, .ld none (.t 6)⟩,
  ⟨some 8, none, .sln (.t 7)⟩,
  ⟨some 9, none, .bin .sub .i64 (.t 5) (.t 8)⟩,
  ⟨some 1, none, .mv (.t 9)⟩])
  (.seq (.seq (.rg [⟨some 10, none, .mv (.t 1)⟩,
  ⟨some 11, none, .bin .lss .i64 (.t 10) (.c (.d (.int .i64 0)))⟩])
  (.cond (.t 11)
    (.seq (.rg [⟨some 4, none, .mv (.c (.d (.int .i64 (-1))))⟩])
    .ret)
    .skip))
  (.seq (.rg [⟨some 12, none, .mv (.t 1)⟩,
  ⟨some 4, none, .mv (.t 12)⟩])
  .ret))))
def r35 : List RV := [.t 4]

theorem k35 : (Tryd.f35.body.bind (slim Tryd.prog loudF Tryd.f35.ntmps)) = some s35 := by kernel_rfl

/-- loop.example/g00208/laws.szIndex -/
def s36 : SC :=
  (.seq (.rg [⟨some 2, none, .box 2 (.t 0)⟩,
  ⟨some 4, none, .mv (.c (.d (.int .i64 0)))⟩])
  (.seq (.rg [⟨some 5, none, .mv (.t 1)⟩,
  ⟨some 6, none, .fad 0 (.t 2)⟩,
  ⟨some 7, none, .ld none (.t 6)⟩,
  ⟨some 8, none, .sln (.t 7)⟩,
  ⟨some 9, none, .bin .sub .i64 (.t 5) (.t 8)⟩,
  ⟨some 1, none, .mv (.t 9)⟩])
  (.seq (.seq (.rg [⟨some 10, none, .mv (.t 1)⟩,
  ⟨some 11, none, .bin .lss .i64 (.t 10) (.c (.d (.int .i64 0)))⟩])
  (.cond (.t 11)
    (.seq (.rg [⟨some 4, none, .mv (.c (.d (.int .i64 (-1))))⟩])
    .ret)
    .skip))
  (.seq (.rg [⟨some 12, none, .fad 1 (.t 2)⟩,
  ⟨some 13, none, .ld none (.t 12)⟩,
  ⟨some 14, none, .mv (.t 1)⟩,
  ⟨some 15, none, .call 51 [(.t 13), (.t 14)]⟩,
  ⟨some 1, none, .mv (.t 15)⟩])
  (.seq (.seq (.rg [⟨some 16, none, .mv (.t 1)⟩,
  ⟨some 17, none, .bin .lss .i64 (.t 16) (.c (.d (.int .i64 0)))⟩])
  (.cond (.t 17)
    (.seq (.rg [⟨some 4, none, .mv (.c (.d (.int .i64 (-1))))⟩])
    .ret)
    .skip))
  (.seq (.rg [⟨some 18, none, .mv (.t 1)⟩,
  ⟨some 4, none, .mv (.t 18)⟩])
  .ret))))))
def r36 : List RV := [.t 4]

theorem k36 : (Tryd.f36.body.bind (slim Tryd.prog loudF Tryd.f36.ntmps)) = some s36 := by kernel_rfl

/-- loop.example/g00208/spec.l09Name -/
def s37 : SC :=
  (.seq (.rg [⟨some 2, none, .mv (.c (.d (.bool false)))⟩])
  (.seq (.seq (.rg [⟨some 4, none, .mv (.t 0)⟩,
  ⟨some 5, none, .call 52 [(.t 4)]⟩,
  ⟨some 6, none, .not (.t 5)⟩])
  (.cond (.t 6)
    (.seq (.rg [⟨some 2, none, .mv (.c (.d (.bool false)))⟩])
    .ret)
    .skip))
  (.seq (.seq (.rg [⟨some 3, none, .mv (.c (.d (.int .i64 0)))⟩])
  (.blk 0 (.loop (.seq (.seq (.rg [⟨some 7, none, .mv (.t 3)⟩,
    ⟨some 8, none, .call 53 []⟩,
    ⟨some 9, none, .len (.t 8)⟩,
    ⟨some 10, none, .bin .lss .i64 (.t 7) (.t 9)⟩])
    (.cond (.t 10)
      .skip
      (.exit 0)))
    (.seq (.blk 1 (.seq (.rg [⟨some 13, none, .call 53 []⟩,
    ⟨some 14, none, .mv (.t 3)⟩,
    ⟨some 15, none, .iad 1 [.str []] (.t 13) (.t 14)⟩,
    ⟨some 16, none, .ld none (.t 15)⟩,
    ⟨some 17, none, .mv (.t 0)⟩,
    ⟨some 18, none, .sbin .eql (.t 16) (.t 17)⟩])
    (.cond (.t 18)
      (.seq (.rg [⟨some 2, none, .mv (.c (.d (.bool false)))⟩])
      .ret)
      .skip)))
    (.rg [⟨some 11, none, .mv (.t 3)⟩,
    ⟨some 12, none, .bin .add .i64 (.t 11) (.c (.d (.int .i64 1)))⟩,
    ⟨some 3, none, .mv (.t 12)⟩]))))))
  (.seq (.rg [⟨some 2, none, .mv (.c (.d (.bool true)))⟩])
  .ret))))
def r37 : List RV := [.t 2]

theorem k37 : (Tryd.f37.body.bind (slim Tryd.prog loudF Tryd.f37.ntmps)) = some s37 := by kernel_rfl

/-- loop.example/g00208/spec.l09Column -/
def s38 : SC :=
  (.seq (.rg [⟨some 4, none, .mv (.c (.d (.int .i64 0)))⟩])
  (.seq (.seq (.rg [⟨some 5, none, .mv (.c (.d (.int .i64 0)))⟩])
  (.blk 0 (.loop (.seq (.seq (.rg [⟨some 6, none, .mv (.t 5)⟩,
    ⟨some 7, none, .mv (.t 0)⟩,
    ⟨some 8, none, .len (.t 7)⟩,
    ⟨some 9, none, .bin .lss .i64 (.t 6) (.t 8)⟩])
    (.cond (.t 9)
      .skip
      (.exit 0)))
    (.seq (.blk 1 (.seq (.rg [⟨some 12, none, .mv (.t 0)⟩,
    ⟨some 13, none, .mv (.t 5)⟩,
    ⟨some 14, none, .iad 3 [.str [], .int .i64 0, .bool false] (.t 12) (.t 13)⟩,
    ⟨some 15, none, .fad 0 (.t 14)⟩,
    ⟨some 16, none, .ld none (.t 15)⟩,
    ⟨some 17, none, .mv (.t 1)⟩,
    ⟨some 18, none, .sbin .eql (.t 16) (.t 17)⟩])
    (.cond (.t 18)
      (.seq (.rg [⟨some 19, none, .mv (.t 5)⟩,
      ⟨some 4, none, .mv (.t 19)⟩])
      .ret)
      .skip)))
    (.rg [⟨some 10, none, .mv (.t 5)⟩,
    ⟨some 11, none, .bin .add .i64 (.t 10) (.c (.d (.int .i64 1)))⟩,
    ⟨some 5, none, .mv (.t 11)⟩]))))))
  (.seq (.rg [⟨some 4, none, .mv (.c (.d (.int .i64 (-1))))⟩])
  .ret)))
def r38 : List RV := [.t 4]

theorem k38 : (Tryd.f38.body.bind (slim Tryd.prog loudF Tryd.f38.ntmps)) = some s38 := by kernel_rfl

/-- loop.example/g00208/spec.l09IndexOK -/
def s39 : SC :=
  (.seq (.rg [⟨some 2, none, .box 4 (.t 0)⟩,
  ⟨some 3, none, .box 2 (.t 1)⟩,
  ⟨some 4, none, .mv (.c (.d (.bool false)))⟩])
  (.seq (.seq (.rg [⟨some 6, none, .fad 0 (.t 3)⟩,
  ⟨some 7, none, .ld none (.t 6)⟩,
  ⟨some 8, none, .call 37 [(.t 7)]⟩,
  ⟨some 9, none, .not (.t 8)⟩,
  ⟨some 10, none, .mv (.t 9)⟩,
  ⟨some 11, some (10, false), .fad 1 (.t 3)⟩,
  ⟨some 12, some (10, false), .ld none (.t 11)⟩,
  ⟨some 13, some (10, false), .len (.t 12)⟩,
  ⟨some 14, some (10, false), .bin .eql .i64 (.t 13) (.c (.d (.int .i64 0)))⟩,
  ⟨some 15, none, .pick (.t 10) (.c (.d (.bool true))) (.t 14)⟩,
  ⟨some 16, none, .mv (.t 15)⟩,
  ⟨some 17, some (16, false), .fad 1 (.t 3)⟩,
  ⟨some 18, some (16, false), .ld none (.t 17)⟩,
  ⟨some 19, some (16, false), .len (.t 18)⟩,
  ⟨some 20, some (16, false), .fad 1 (.t 2)⟩,
  ⟨some 21, some (16, false), .ld none (.t 20)⟩,
  ⟨some 22, some (16, false), .len (.t 21)⟩,
  ⟨some 23, some (16, false), .bin .gtr .i64 (.t 19) (.t 22)⟩,
  ⟨some 24, none, .pick (.t 16) (.c (.d (.bool true))) (.t 23)⟩])
  (.cond (.t 24)
    (.seq (.rg [⟨some 4, none, .mv (.c (.d (.bool false)))⟩])
    .ret)
    .skip))
  (.seq (.seq (.rg [⟨some 5, none, .mv (.c (.d (.int .i64 0)))⟩])
  (.blk 0 (.loop (.seq (.seq (.rg [⟨some 25, none, .mv (.t 5)⟩,
    ⟨some 26, none, .fad 1 (.t 3)⟩,
    ⟨some 27, none, .ld none (.t 26)⟩,
    ⟨some 28, none, .len (.t 27)⟩,
    ⟨some 29, none, .bin .lss .i64 (.t 25) (.t 28)⟩])
    (.cond (.t 29)
      .skip
      (.exit 0)))
    (.seq (.blk 1 (.seq (.rgd (.op ⟨some 32, none, .fad 1 (.t 3)⟩ (.op ⟨some 33, none, .ld none (.t 32)⟩ (.op ⟨some 34, none, .mv (.t 5)⟩ (.op ⟨some 35, none, .iad 1 [.int .i64 0] (.t 33) (.t 34)⟩ (.op ⟨some 36, none, .ld none (.t 35)⟩ (.op ⟨some 37, none, .fad 1 (.t 2)⟩ (.op ⟨some 38, none, .ld none (.t 37)⟩ (.op ⟨some 39, none, .len (.t 38)⟩ (.op ⟨some 40, none, .bin .sub .i64 (.t 39) (.c (.d (.int .i64 1)))⟩ (.op ⟨some 41, none, .call 25 [(.t 36), (.c (.d (.int .i64 0))), (.t 40)]⟩ (.op ⟨some 42, none, .not (.t 41)⟩ (.op ⟨some 43, none, .mv (.t 42)⟩ (.op ⟨some 44, some (43, false), .fad 1 (.t 3)⟩ (.op ⟨some 45, some (43, false), .ld none (.t 44)⟩ (.op ⟨some 46, some (43, false), .mv (.t 5)⟩ (.op ⟨some 47, some (43, false), .sli 1 (.t 45) none (some (.t 46))⟩ (.op ⟨some 48, some (43, false), .fad 1 (.t 3)⟩ (.op ⟨some 49, some (43, false), .ld none (.t 48)⟩ (.op ⟨some 50, some (43, false), .mv (.t 5)⟩ (.op ⟨some 51, some (43, false), .iad 1 [.int .i64 0] (.t 49) (.t 50)⟩ (.op ⟨some 52, some (43, false), .ld none (.t 51)⟩ (.op ⟨some 53, some (43, false), .call 54 [(.t 47), (.t 52)]⟩ (.op ⟨some 54, none, .pick (.t 43) (.c (.d (.bool true))) (.t 53)⟩ .done))))))))))))))))))))))))
    (.cond (.t 54)
      (.seq (.rg [⟨some 4, none, .mv (.c (.d (.bool false)))⟩])
      .ret)
      .skip)))
    (.rg [⟨some 30, none, .mv (.t 5)⟩,
    ⟨some 31, none, .bin .add .i64 (.t 30) (.c (.d (.int .i64 1)))⟩,
    ⟨some 5, none, .mv (.t 31)⟩]))))))
  (.seq (.rg [⟨some 4, none, .mv (.c (.d (.bool true)))⟩])
  .ret))))
def r39 : List RV := [.t 4]

theorem k39 : (Tryd.f39.body.bind (slim Tryd.prog loudF Tryd.f39.ntmps)) = some s39 := by kernel_rfl

/-- loop.example/g00208/spec.l09Index -/
def s40 : SC :=
  (.seq (.rg [⟨some 4, none, .mv (.c (.d (.int .i64 0)))⟩])
  (.seq (.seq (.rg [⟨some 5, none, .mv (.c (.d (.int .i64 0)))⟩])
  (.blk 0 (.loop (.seq (.seq (.rg [⟨some 6, none, .mv (.t 5)⟩,
    ⟨some 7, none, .mv (.t 0)⟩,
    ⟨some 8, none, .len (.t 7)⟩,
    ⟨some 9, none, .bin .lss .i64 (.t 6) (.t 8)⟩])
    (.cond (.t 9)
      .skip
      (.exit 0)))
    (.seq (.blk 1 (.seq (.rg [⟨some 12, none, .mv (.t 0)⟩,
    ⟨some 13, none, .mv (.t 5)⟩,
    ⟨some 14, none, .iad 2 [.str [], .sl 1 []] (.t 12) (.t 13)⟩,
    ⟨some 15, none, .fad 0 (.t 14)⟩,
    ⟨some 16, none, .ld none (.t 15)⟩,
    ⟨some 17, none, .mv (.t 1)⟩,
    ⟨some 18, none, .sbin .eql (.t 16) (.t 17)⟩])
    (.cond (.t 18)
      (.seq (.rg [⟨some 19, none, .mv (.t 5)⟩,
      ⟨some 4, none, .mv (.t 19)⟩])
      .ret)
      .skip)))
    (.rg [⟨some 10, none, .mv (.t 5)⟩,
    ⟨some 11, none, .bin .add .i64 (.t 10) (.c (.d (.int .i64 1)))⟩,
    ⟨some 5, none, .mv (.t 11)⟩]))))))
  (.seq (.rg [⟨some 4, none, .mv (.c (.d (.int .i64 (-1))))⟩])
  .ret)))
def r40 : List RV := [.t 4]

theorem k40 : (Tryd.f40.body.bind (slim Tryd.prog loudF Tryd.f40.ntmps)) = some s40 := by kernel_rfl

/-- loop.example/g00208/laws.toColumn -/
def s41 : SC :=
  (.seq (.rg [⟨some 1, none, .box 3 (.t 0)⟩,
  ⟨some 2, none, .new [.d (.str []), .d (.int .i64 0), .d (.bool false)]⟩])
  (.seq (.rg [⟨some 3, none, .new [.d (.str []), .d (.int .i64 0), .d (.bool false)]⟩])
  (.seq (.rg [⟨some 4, none, .fad 0 (.t 1)⟩,
  ⟨some 5, none, .ld none (.t 4)⟩,
  ⟨some 6, none, .fad 0 (.t 3)⟩,
  ⟨none, none, .st 1 (.t 6) (.t 5)⟩])
  (.seq (.rg [⟨some 7, none, .fad 1 (.t 1)⟩,
  ⟨some 8, none, .ld none (.t 7)⟩,
  ⟨some 9, none, .fad 1 (.t 3)⟩,
  ⟨none, none, .st 1 (.t 9) (.t 8)⟩])
  (.seq (.rg [⟨some 10, none, .fad 2 (.t 1)⟩,
  ⟨some 11, none, .ld none (.t 10)⟩,
  ⟨some 12, none, .fad 2 (.t 3)⟩,
  ⟨none, none, .st 1 (.t 12) (.t 11)⟩])
  (.seq (.rg [⟨some 13, none, .ld (some 3) (.t 3)⟩,
  ⟨none, none, .st 3 (.t 2) (.t 13)⟩])
  .ret))))))
def r41 : List RV := [.c 2 (some 3)]

theorem k41 : (Tryd.f41.body.bind (slim Tryd.prog loudF Tryd.f41.ntmps)) = some s41 := by kernel_rfl

/-- loop.example/g00208/laws.toIndex -/
def s42 : SC :=
  (.seq (.rg [⟨some 1, none, .box 2 (.t 0)⟩,
  ⟨some 2, none, .new [.d (.str []), .nils 1]⟩])
  (.seq (.rg [⟨some 3, none, .new [.d (.str []), .nils 1]⟩])
  (.seq (.rg [⟨some 4, none, .fad 0 (.t 1)⟩,
  ⟨some 5, none, .ld none (.t 4)⟩,
  ⟨some 6, none, .fad 0 (.t 3)⟩,
  ⟨none, none, .st 1 (.t 6) (.t 5)⟩])
  (.seq (.rg [⟨some 7, none, .fad 1 (.t 1)⟩,
  ⟨some 8, none, .ld none (.t 7)⟩,
  ⟨some 9, none, .call 55 [(.t 8)]⟩,
  ⟨some 10, none, .fad 1 (.t 3)⟩,
  ⟨none, none, .st 1 (.t 10) (.t 9)⟩])
  (.seq (.rg [⟨some 11, none, .ld (some 2) (.t 3)⟩,
  ⟨none, none, .st 2 (.t 2) (.t 11)⟩])
  .ret)))))
def r42 : List RV := [.c 2 (some 2)]

theorem k42 : (Tryd.f42.body.bind (slim Tryd.prog loudF Tryd.f42.ntmps)) = some s42 := by kernel_rfl

/-- loop.example/g00208/impl.isFree -/
def s43 : SC :=
  (.seq (.rg [⟨some 2, none, .mv (.c (.d (.bool false)))⟩])
  (.seq (.rg [⟨some 3, none, .mv (.t 0)⟩,
  ⟨some 4, none, .call 56 [(.t 3)]⟩,
  ⟨some 5, none, .mv (.t 4)⟩,
  ⟨some 6, some (5, true), .call 58 []⟩,
  ⟨some 7, some (5, true), .mv (.t 0)⟩,
  ⟨some 8, some (5, true), .call 57 [(.t 6), (.t 7)]⟩,
  ⟨some 9, some (5, true), .not (.t 8)⟩,
  ⟨some 10, none, .pick (.t 5) (.t 9) (.c (.d (.bool false)))⟩,
  ⟨some 2, none, .mv (.t 10)⟩])
  .ret))
def r43 : List RV := [.t 2]

theorem k43 : (Tryd.f43.body.bind (slim Tryd.prog loudF Tryd.f43.ntmps)) = some s43 := by kernel_rfl

/-- loop.example/g00208/impl.columnOK -/
def s44 : SC :=
  (.seq (.rg [⟨some 1, none, .box 3 (.t 0)⟩,
  ⟨some 2, none, .mv (.c (.d (.bool false)))⟩])
  (.seq (.rg [⟨some 3, none, .fad 0 (.t 1)⟩,
  ⟨some 4, none, .ld none (.t 3)⟩,
  ⟨some 5, none, .call 43 [(.t 4)]⟩,
  ⟨some 6, none, .mv (.t 5)⟩,
  ⟨some 7, some (6, true), .fad 1 (.t 1)⟩,
  ⟨some 8, some (6, true), .ld none (.t 7)⟩,
  ⟨some 9, some (6, true), .call 29 [(.t 8), (.c (.d (.int .i64 1))), (.c (.d (.int .i64 4)))]⟩,
  ⟨some 10, none, .pick (.t 6) (.t 9) (.c (.d (.bool false)))⟩,
  ⟨some 2, none, .mv (.t 10)⟩])
  .ret))
def r44 : List RV := [.t 2]

theorem k44 : (Tryd.f44.body.bind (slim Tryd.prog loudF Tryd.f44.ntmps)) = some s44 := by kernel_rfl

/-- (loop.example/g00208/impl.Table).column -/
def s45 : SC :=
  (.seq (.rg [⟨some 2, none, .box 4 (.t 0)⟩,
  ⟨some 3, none, .box 1 (.t 1)⟩,
  ⟨some 4, none, .mv (.c (.d (.int .i64 0)))⟩])
  (.seq (.rg [⟨some 5, none, .fad 1 (.t 2)⟩,
  ⟨some 6, none, .ld none (.t 5)⟩,
  ⟨some 7, none, .mkf (.func 60) [] [(.t 3)]⟩,
  ⟨some 8, none, .call 59 [(.t 6), (.t 7)]⟩,
  ⟨some 4, none, .mv (.t 8)⟩])
  .ret))
def r45 : List RV := [.t 4]

theorem k45 : (Tryd.f45.body.bind (slim Tryd.prog loudF Tryd.f45.ntmps)) = some s45 := by kernel_rfl

/-- (loop.example/g00208/impl.Table).indexOK -/
def s46 : SC :=
  (.seq (.rg [⟨some 2, none, .box 4 (.t 0)⟩,
  ⟨some 3, none, .box 2 (.t 1)⟩,
  ⟨some 4, none, .mv (.c (.d (.bool false)))⟩])
  (.seq (.rg [⟨some 5, none, .fad 0 (.t 3)⟩,
  ⟨some 6, none, .ld none (.t 5)⟩,
  ⟨some 7, none, .call 43 [(.t 6)]⟩,
  ⟨some 8, none, .mv (.t 7)⟩,
  ⟨some 9, some (8, true), .fad 1 (.t 3)⟩,
  ⟨some 10, some (8, true), .ld none (.t 9)⟩,
  ⟨some 11, some (8, true), .len (.t 10)⟩,
  ⟨some 12, some (8, true), .bin .gtr .i64 (.t 11) (.c (.d (.int .i64 0)))⟩,
  ⟨some 13, none, .pick (.t 8) (.t 12) (.c (.d (.bool false)))⟩,
  ⟨some 14, none, .mv (.t 13)⟩,
  ⟨some 15, some (14, true), .fad 1 (.t 3)⟩,
  ⟨some 16, some (14, true), .ld none (.t 15)⟩,
  ⟨some 17, some (14, true), .call 61 [(.t 16)]⟩,
  ⟨some 18, some (14, true), .not (.t 17)⟩,
  ⟨some 19, none, .pick (.t 14) (.t 18) (.c (.d (.bool false)))⟩,
  ⟨some 20, none, .mv (.t 19)⟩,
  ⟨some 21, some (20, true), .fad 1 (.t 3)⟩,
  ⟨some 22, some (20, true), .ld none (.t 21)⟩,
  ⟨some 23, some (20, true), .mkf (.func 63) [] [(.t 2)]⟩,
  ⟨some 24, some (20, true), .call 62 [(.t 22), (.t 23)]⟩,
  ⟨some 25, some (20, true), .not (.t 24)⟩,
  ⟨some 26, none, .pick (.t 20) (.t 25) (.c (.d (.bool false)))⟩,
  ⟨some 4, none, .mv (.t 26)⟩])
  .ret))
def r46 : List RV := [.t 4]

theorem k46 : (Tryd.f46.body.bind (slim Tryd.prog loudF Tryd.f46.ntmps)) = some s46 := by kernel_rfl

/-- (loop.example/g00208/impl.Table).index -/
def s47 : SC :=
  (.seq (.rg [⟨some 2, none, .box 4 (.t 0)⟩,
  ⟨some 3, none, .box 1 (.t 1)⟩,
  ⟨some 4, none, .mv (.c (.d (.int .i64 0)))⟩])
  (.seq (.rg [⟨some 5, none, .fad 3 (.t 2)⟩,
  ⟨some 6, none, .ld none (.t 5)⟩,
  ⟨some 7, none, .mkf (.func 65) [] [(.t 3)]⟩,
  ⟨some 8, none, .call 64 [(.t 6), (.t 7)]⟩,
  ⟨some 4, none, .mv (.t 8)⟩])
  .ret))
def r47 : List RV := [.t 4]

theorem k47 : (Tryd.f47.body.bind (slim Tryd.prog loudF Tryd.f47.ntmps)) = some s47 := by kernel_rfl

/-- cmp.isNaN[string] -/
def s48 : SC :=
  (.seq (.rg [⟨some 2, none, .mv (.c (.d (.bool false)))⟩])
  (.seq (.rg [⟨some 3, none, .mv (.t 0)⟩,
  ⟨some 4, none, .mv (.t 0)⟩,
  ⟨some 5, none, .sbin .neq (.t 3) (.t 4)⟩,
  ⟨some 2, none, .mv (.t 5)⟩])
  .ret))
def r48 : List RV := [.t 2]

theorem k48 : (Tryd.f48.body.bind (slim Tryd.prog loudF Tryd.f48.ntmps)) = some s48 := by kernel_rfl

/-- loop.example/g00208/laws.eqColumn -/
def s49 : SC :=
  (.seq (.rg [⟨some 2, none, .box 3 (.t 0)⟩,
  ⟨some 3, none, .box 3 (.t 1)⟩,
  ⟨some 4, none, .mv (.c (.d (.bool false)))⟩])
  (.seq (.seq (.rg [⟨some 5, none, .fad 0 (.t 2)⟩,
  ⟨some 6, none, .ld none (.t 5)⟩,
  ⟨some 7, none, .fad 0 (.t 3)⟩,
  ⟨some 8, none, .ld none (.t 7)⟩,
  ⟨some 9, none, .sbin .neq (.t 6) (.t 8)⟩])
  (.cond (.t 9)
    (.seq (.rg [⟨some 4, none, .mv (.c (.d (.bool false)))⟩])
    .ret)
    .skip))
  (.seq (.seq (.rg [⟨some 10, none, .fad 1 (.t 2)⟩,
  ⟨some 11, none, .ld none (.t 10)⟩,
  ⟨some 12, none, .fad 1 (.t 3)⟩,
  ⟨some 13, none, .ld none (.t 12)⟩,
  ⟨some 14, none, .bin .neq .i64 (.t 11) (.t 13)⟩])
  (.cond (.t 14)
    (.seq (.rg [⟨some 4, none, .mv (.c (.d (.bool false)))⟩])
    .ret)
    .skip))
  (.seq (.seq (.rg [⟨some 15, none, .fad 2 (.t 2)⟩,
  ⟨some 16, none, .ld none (.t 15)⟩,
  ⟨some 17, none, .fad 2 (.t 3)⟩,
  ⟨some 18, none, .ld none (.t 17)⟩,
  ⟨some 19, none, .bbin true (.t 16) (.t 18)⟩])
  (.cond (.t 19)
    (.seq (.rg [⟨some 4, none, .mv (.c (.d (.bool false)))⟩])
    .ret)
    .skip))
  (.seq (.rg [⟨some 4, none, .mv (.c (.d (.bool true)))⟩])
  .ret)))))
def r49 : List RV := [.t 4]

theorem k49 : (Tryd.f49.body.bind (slim Tryd.prog loudF Tryd.f49.ntmps)) = some s49 := by kernel_rfl

/-- loop.example/g00208/laws.eqIndex -/
def s50 : SC :=
  (.seq (.rg [⟨some 2, none, .box 2 (.t 0)⟩,
  ⟨some 3, none, .box 2 (.t 1)⟩,
  ⟨some 4, none, .mv (.c (.d (.bool false)))⟩])
  (.seq (.seq (.rg [⟨some 5, none, .fad 0 (.t 2)⟩,
  ⟨some 6, none, .ld none (.t 5)⟩,
  ⟨some 7, none, .fad 0 (.t 3)⟩,
  ⟨some 8, none, .ld none (.t 7)⟩,
  ⟨some 9, none, .sbin .neq (.t 6) (.t 8)⟩])
  (.cond (.t 9)
    (.seq (.rg [⟨some 4, none, .mv (.c (.d (.bool false)))⟩])
    .ret)
    .skip))
  (.seq (.seq (.rg [⟨some 10, none, .fad 1 (.t 2)⟩,
  ⟨some 11, none, .ld none (.t 10)⟩,
  ⟨some 12, none, .fad 1 (.t 3)⟩,
  ⟨some 13, none, .ld none (.t 12)⟩,
  ⟨some 14, none, .call 66 [(.t 11), (.t 13)]⟩,
  ⟨some 15, none, .not (.t 14)⟩])
  (.cond (.t 15)
    (.seq (.rg [⟨some 4, none, .mv (.c (.d (.bool false)))⟩])
    .ret)
    .skip))
  (.seq (.rg [⟨some 4, none, .mv (.c (.d (.bool true)))⟩])
  .ret))))
def r50 : List RV := [.t 4]

theorem k50 : (Tryd.f50.body.bind (slim Tryd.prog loudF Tryd.f50.ntmps)) = some s50 := by kernel_rfl

/-- loop.example/g00208/laws.szIntS -/
def s51 : SC :=
  (.seq (.rg [⟨some 4, none, .mv (.c (.d (.int .i64 0)))⟩])
  (.seq (.rg [⟨some 5, none, .mv (.t 1)⟩,
  ⟨some 6, none, .mv (.t 0)⟩,
  ⟨some 7, none, .len (.t 6)⟩,
  ⟨some 8, none, .bin .sub .i64 (.t 5) (.t 7)⟩,
  ⟨some 1, none, .mv (.t 8)⟩])
  (.seq (.seq (.rg [⟨some 9, none, .mv (.t 1)⟩,
  ⟨some 10, none, .bin .lss .i64 (.t 9) (.c (.d (.int .i64 0)))⟩])
  (.cond (.t 10)
    (.seq (.rg [⟨some 4, none, .mv (.c (.d (.int .i64 (-1))))⟩])
    .ret)
    .skip))
  (.seq (.rg [⟨some 11, none, .mv (.t 1)⟩,
  ⟨some 4, none, .mv (.t 11)⟩])
  .ret))))
def r51 : List RV := [.t 4]

theorem k51 : (Tryd.f51.body.bind (slim Tryd.prog loudF Tryd.f51.ntmps)) = some s51 := by kernel_rfl

/-- loop.example/g00208/spec.NameOK -/
def s52 : SC :=
  (.seq (.rg [⟨some 2, none, .mv (.c (.d (.bool false)))⟩])
  (.seq (.rg [⟨some 3, none, .mv (.t 0)⟩,
  ⟨some 4, none, .call 67 [(.t 3)]⟩,
  ⟨some 2, none, .mv (.t 4)⟩])
  .ret))
def r52 : List RV := [.t 2]

theorem k52 : (Tryd.f52.body.bind (slim Tryd.prog loudF Tryd.f52.ntmps)) = some s52 := by kernel_rfl

/-- loop.example/g00208/spec.l09Words -/
def s53 : SC :=
  (.seq (.rg [⟨some 0, none, .mv (.c (.nils 1))⟩])
  (.seq (.rg [⟨some 1, none, .bsl 1 [.str []] 28 [(0, (.c (.d (.str [115, 101, 108, 101, 99, 116])))), (1, (.c (.d (.str [102, 114, 111, 109])))), (2, (.c (.d (.str [106, 111, 105, 110])))), (3, (.c (.d (.str [111, 110])))), (4, (.c (.d (.str [119, 104, 101, 114, 101])))), (5, (.c (.d (.str [103, 114, 111, 117, 112])))), (6, (.c (.d (.str [98, 121])))), (7, (.c (.d (.str [111, 114, 100, 101, 114])))), (8, (.c (.d (.str [108, 105, 109, 105, 116])))), (9, (.c (.d (.str [100, 101, 115, 99])))), (10, (.c (.d (.str [105, 110, 115, 101, 114, 116])))), (11, (.c (.d (.str [105, 110, 116, 111])))), (12, (.c (.d (.str [118, 97, 108, 117, 101, 115])))), (13, (.c (.d (.str [117, 112, 100, 97, 116, 101])))), (14, (.c (.d (.str [115, 101, 116])))), (15, (.c (.d (.str [100, 101, 108, 101, 116, 101])))), (16, (.c (.d (.str [97, 110, 100])))), (17, (.c (.d (.str [111, 114])))), (18, (.c (.d (.str [110, 111, 116])))), (19, (.c (.d (.str [105, 115])))), (20, (.c (.d (.str [110, 117, 108, 108])))), (21, (.c (.d (.str [116, 114, 117, 101])))), (22, (.c (.d (.str [102, 97, 108, 115, 101])))), (23, (.c (.d (.str [99, 111, 117, 110, 116])))), (24, (.c (.d (.str [115, 117, 109])))), (25, (.c (.d (.str [109, 105, 110])))), (26, (.c (.d (.str [109, 97, 120])))), (27, (.c (.d (.str [97, 115]))))]⟩,
  ⟨some 0, none, .mv (.t 1)⟩])
  .ret))
def r53 : List RV := [.t 0]

theorem k53 : (Tryd.f53.body.bind (slim Tryd.prog loudF Tryd.f53.ntmps)) = some s53 := by kernel_rfl

/-- loop.example/g00208/spec.l03Has -/
def s54 : SC :=
  (.seq (.rg [⟨some 4, none, .mv (.c (.d (.bool false)))⟩])
  (.seq (.seq (.rg [⟨some 5, none, .mv (.c (.d (.int .i64 0)))⟩])
  (.blk 0 (.loop (.seq (.seq (.rg [⟨some 6, none, .mv (.t 5)⟩,
    ⟨some 7, none, .mv (.t 0)⟩,
    ⟨some 8, none, .len (.t 7)⟩,
    ⟨some 9, none, .bin .lss .i64 (.t 6) (.t 8)⟩])
    (.cond (.t 9)
      .skip
      (.exit 0)))
    (.seq (.blk 1 (.seq (.rg [⟨some 12, none, .mv (.t 0)⟩,
    ⟨some 13, none, .mv (.t 5)⟩,
    ⟨some 14, none, .iad 1 [.int .i64 0] (.t 12) (.t 13)⟩,
    ⟨some 15, none, .ld none (.t 14)⟩,
    ⟨some 16, none, .mv (.t 1)⟩,
    ⟨some 17, none, .bin .eql .i64 (.t 15) (.t 16)⟩])
    (.cond (.t 17)
      (.seq (.rg [⟨some 4, none, .mv (.c (.d (.bool true)))⟩])
      .ret)
      .skip)))
    (.rg [⟨some 10, none, .mv (.t 5)⟩,
    ⟨some 11, none, .bin .add .i64 (.t 10) (.c (.d (.int .i64 1)))⟩,
    ⟨some 5, none, .mv (.t 11)⟩]))))))
  (.seq (.rg [⟨some 4, none, .mv (.c (.d (.bool false)))⟩])
  .ret)))
def r54 : List RV := [.t 4]

theorem k54 : (Tryd.f54.body.bind (slim Tryd.prog loudF Tryd.f54.ntmps)) = some s54 := by kernel_rfl

/-- loop.example/g00208/laws.toIntS -/
def s55 : SC :=
  (.seq (.rg [⟨some 2, none, .mv (.c (.nils 1))⟩])
  (.seq (.rg [⟨some 5, none, .mv (.t 0)⟩,
  ⟨some 6, none, .len (.t 5)⟩,
  ⟨some 7, none, .mk 1 [.int .i64 0] (.t 6) (.t 6)⟩,
  ⟨some 3, none, .mv (.t 7)⟩])
  (.seq (.seq (.rg [⟨some 4, none, .mv (.c (.d (.int .i64 0)))⟩])
  (.blk 0 (.loop (.seq (.seq (.rg [⟨some 8, none, .mv (.t 4)⟩,
    ⟨some 9, none, .mv (.t 0)⟩,
    ⟨some 10, none, .len (.t 9)⟩,
    ⟨some 11, none, .bin .lss .i64 (.t 8) (.t 10)⟩])
    (.cond (.t 11)
      .skip
      (.exit 0)))
    (.seq (.blk 1 (.rg [⟨some 14, none, .mv (.t 3)⟩,
    ⟨some 15, none, .mv (.t 4)⟩,
    ⟨some 16, none, .mv (.t 0)⟩,
    ⟨some 17, none, .mv (.t 4)⟩,
    ⟨some 18, none, .iad 1 [.int .i64 0] (.t 16) (.t 17)⟩,
    ⟨some 19, none, .ld none (.t 18)⟩,
    ⟨some 20, none, .iad 1 [.int .i64 0] (.t 14) (.t 15)⟩,
    ⟨none, none, .st 1 (.t 20) (.t 19)⟩]))
    (.rg [⟨some 12, none, .mv (.t 4)⟩,
    ⟨some 13, none, .bin .add .i64 (.t 12) (.c (.d (.int .i64 1)))⟩,
    ⟨some 4, none, .mv (.t 13)⟩]))))))
  (.seq (.rg [⟨some 21, none, .mv (.t 3)⟩,
  ⟨some 2, none, .mv (.t 21)⟩])
  .ret))))
def r55 : List RV := [.t 2]

theorem k55 : (Tryd.f55.body.bind (slim Tryd.prog loudF Tryd.f55.ntmps)) = some s55 := by kernel_rfl

/-- loop.example/g00208/impl.NameOK -/
def s56 : SC :=
  (.seq (.rg [⟨some 2, none, .mv (.c (.d (.bool false)))⟩])
  (.seq (.seq (.rg [⟨some 4, none, .mv (.t 0)⟩,
  ⟨some 5, none, .sln (.t 4)⟩,
  ⟨some 6, none, .mv (.c (.d (.int .i64 0)))⟩])
  (.blk 0 (.loop (.seq (.rg [⟨some 7, none, .bin .lss .i64 (.t 6) (.t 5)⟩])
    (.seq (.cond (.t 7)
      .skip
      (.exit 0))
    (.seq (.blk 1 (.seq (.rg [⟨some 8, none, .mv (.t 6)⟩,
    ⟨some 3, none, .mv (.t 8)⟩])
    (.seq (.rg [⟨some 9, none, .mv (.t 0)⟩,
    ⟨some 10, none, .mv (.t 3)⟩,
    ⟨some 11, none, .ist (.t 9) (.t 10)⟩,
    ⟨some 12, none, .call 68 [(.t 11)]⟩,
    ⟨some 13, none, .not (.t 12)⟩,
    ⟨some 14, none, .mv (.t 13)⟩,
    ⟨some 15, some (14, true), .mv (.t 3)⟩,
    ⟨some 16, some (14, true), .bin .eql .i64 (.t 15) (.c (.d (.int .i64 0)))⟩,
    ⟨some 17, some (14, true), .mv (.t 16)⟩,
    ⟨some 18, some (17, false), .mv (.t 0)⟩,
    ⟨some 19, some (17, false), .mv (.t 3)⟩,
    ⟨some 20, some (17, false), .ist (.t 18) (.t 19)⟩,
    ⟨some 21, some (17, false), .call 69 [(.t 20)]⟩,
    ⟨some 22, some (17, false), .not (.t 21)⟩,
    ⟨some 23, some (14, true), .pick (.t 17) (.c (.d (.bool true))) (.t 22)⟩,
    ⟨some 24, none, .pick (.t 14) (.t 23) (.c (.d (.bool false)))⟩])
    (.cond (.t 24)
      (.seq (.rg [⟨some 2, none, .mv (.c (.d (.bool false)))⟩])
      .ret)
      .skip))))
    (.rg [⟨some 25, none, .bin .add .i64 (.t 6) (.c (.d (.int .i64 1)))⟩,
    ⟨some 6, none, .mv (.t 25)⟩])))))))
  (.seq (.rg [⟨some 26, none, .mv (.t 0)⟩,
  ⟨some 27, none, .sln (.t 26)⟩,
  ⟨some 28, none, .call 29 [(.t 27), (.c (.d (.int .i64 1))), (.c (.d (.int .i64 40)))]⟩,
  ⟨some 2, none, .mv (.t 28)⟩])
  .ret)))
def r56 : List RV := [.t 2]

theorem k56 : (Tryd.f56.body.bind (slim Tryd.prog loudF Tryd.f56.ntmps)) = some s56 := by kernel_rfl

/-- slices.Contains[[]string,string] -/
def s57 : SC :=
  (.seq (.rg [⟨some 4, none, .mv (.c (.d (.bool false)))⟩])
  (.seq (.rg [⟨some 5, none, .mv (.t 0)⟩,
  ⟨some 6, none, .mv (.t 1)⟩,
  ⟨some 7, none, .call 70 [(.t 5), (.t 6)]⟩,
  ⟨some 8, none, .bin .geq .i64 (.t 7) (.c (.d (.int .i64 0)))⟩,
  ⟨some 4, none, .mv (.t 8)⟩])
  .ret))
def r57 : List RV := [.t 4]

theorem k57 : (Tryd.f57.body.bind (slim Tryd.prog loudF Tryd.f57.ntmps)) = some s57 := by kernel_rfl

/-- loop.example/g00208/impl.reserved -/
def s58 : SC :=
  (.seq (.rg [⟨some 0, none, .mv (.c (.nils 1))⟩])
  (.seq (.rg [⟨some 1, none, .call 71 [(.c (.d (.str [115, 101, 108, 101, 99, 116, 32, 102, 114, 111, 109, 32, 106, 111, 105, 110, 32, 111, 110, 32, 119, 104, 101, 114, 101, 32, 103, 114, 111, 117, 112, 32, 98, 121, 32, 111, 114, 100, 101, 114, 32, 108, 105, 109, 105, 116, 32, 100, 101, 115, 99, 32, 105, 110, 115, 101, 114, 116, 32, 105, 110, 116, 111, 32, 118, 97, 108, 117, 101, 115, 32, 117, 112, 100, 97, 116, 101, 32, 115, 101, 116, 32, 100, 101, 108, 101, 116, 101, 32, 97, 110, 100, 32, 111, 114, 32, 110, 111, 116, 32, 105, 115, 32, 110, 117, 108, 108, 32, 116, 114, 117, 101, 32, 102, 97, 108, 115, 101, 32, 99, 111, 117, 110, 116, 32, 115, 117, 109, 32, 109, 105, 110, 32, 109, 97, 120, 32, 97, 115]))), (.c (.d (.str [32])))]⟩,
  ⟨some 0, none, .mv (.t 1)⟩])
  .ret))
def r58 : List RV := [.t 0]

theorem k58 : (Tryd.f58.body.bind (slim Tryd.prog loudF Tryd.f58.ntmps)) = some s58 := by kernel_rfl

/-- slices.IndexFunc[[]loop.example/g00208/impl.Column,loop.example/g00208/impl.Column] -/
def s59 : SC :=
  (.seq (.rg [⟨some 4, none, .mv (.c (.d (.int .i64 0)))⟩])
  (.seq (.seq (.rg [⟨some 6, none, .mv (.t 0)⟩,
  ⟨some 7, none, .len (.t 6)⟩,
  ⟨some 8, none, .mv (.c (.d (.int .i64 0)))⟩])
  (.blk 0 (.loop (.seq (.rg [⟨some 9, none, .bin .lss .i64 (.t 8) (.t 7)⟩])
    (.seq (.cond (.t 9)
      .skip
      (.exit 0))
    (.seq (.blk 1 (.seq (.rg [⟨some 10, none, .mv (.t 8)⟩,
    ⟨some 5, none, .mv (.t 10)⟩])
    (.seq (.rg [⟨some 11, none, .mv (.t 1)⟩,
    ⟨some 12, none, .mv (.t 0)⟩,
    ⟨some 13, none, .mv (.t 5)⟩,
    ⟨some 14, none, .iad 3 [.str [], .int .i64 0, .bool false] (.t 12) (.t 13)⟩,
    ⟨some 15, none, .ld (some 3) (.t 14)⟩,
    ⟨some 16, none, .calv (.t 11) [(.t 15)]⟩])
    (.cond (.t 16)
      (.seq (.rg [⟨some 17, none, .mv (.t 5)⟩,
      ⟨some 4, none, .mv (.t 17)⟩])
      .ret)
      .skip))))
    (.rg [⟨some 18, none, .bin .add .i64 (.t 8) (.c (.d (.int .i64 1)))⟩,
    ⟨some 8, none, .mv (.t 18)⟩])))))))
  (.seq (.rg [⟨some 4, none, .mv (.c (.d (.int .i64 (-1))))⟩])
  .ret)))
def r59 : List RV := [.t 4]

theorem k59 : (Tryd.f59.body.bind (slim Tryd.prog loudF Tryd.f59.ntmps)) = some s59 := by kernel_rfl

/-- (loop.example/g00208/impl.Table).column$1 -/
def s60 : SC :=
  (.seq (.rg [⟨some 2, none, .box 3 (.t 0)⟩,
  ⟨some 3, none, .mv (.c (.d (.bool false)))⟩])
  (.seq (.rg [⟨some 4, none, .fad 0 (.t 2)⟩,
  ⟨some 5, none, .ld none (.t 4)⟩,
  ⟨some 6, none, .ld none (.t 1)⟩,
  ⟨some 7, none, .sbin .eql (.t 5) (.t 6)⟩,
  ⟨some 3, none, .mv (.t 7)⟩])
  .ret))
def r60 : List RV := [.t 3]

theorem k60 : (Tryd.f60.body.bind (slim Tryd.prog loudF Tryd.f60.ntmps)) = some s60 := by kernel_rfl

/-- loop.example/g00208/impl.isTwice -/
def s61 : SC :=
  (.seq (.rg [⟨some 2, none, .mv (.c (.d (.bool false)))⟩])
  (.seq (.seq (.rg [⟨some 5, none, .mv (.t 0)⟩,
  ⟨some 6, none, .len (.t 5)⟩,
  ⟨some 7, none, .mv (.c (.d (.int .i64 0)))⟩])
  (.blk 0 (.loop (.seq (.rg [⟨some 8, none, .bin .lss .i64 (.t 7) (.t 6)⟩])
    (.seq (.cond (.t 8)
      .skip
      (.exit 0))
    (.seq (.blk 1 (.seq (.rg [⟨some 9, none, .mv (.t 7)⟩,
    ⟨some 10, none, .iad 1 [.int .i64 0] (.t 5) (.t 7)⟩,
    ⟨some 11, none, .ld none (.t 10)⟩,
    ⟨some 3, none, .mv (.t 9)⟩,
    ⟨some 4, none, .mv (.t 11)⟩])
    (.seq (.rg [⟨some 12, none, .mv (.t 0)⟩,
    ⟨some 13, none, .mv (.t 3)⟩,
    ⟨some 14, none, .sli 1 (.t 12) none (some (.t 13))⟩,
    ⟨some 15, none, .mv (.t 4)⟩,
    ⟨some 16, none, .call 72 [(.t 14), (.t 15)]⟩])
    (.cond (.t 16)
      (.seq (.rg [⟨some 2, none, .mv (.c (.d (.bool true)))⟩])
      .ret)
      .skip))))
    (.rg [⟨some 17, none, .bin .add .i64 (.t 7) (.c (.d (.int .i64 1)))⟩,
    ⟨some 7, none, .mv (.t 17)⟩])))))))
  (.seq (.rg [⟨some 2, none, .mv (.c (.d (.bool false)))⟩])
  .ret)))
def r61 : List RV := [.t 2]

theorem k61 : (Tryd.f61.body.bind (slim Tryd.prog loudF Tryd.f61.ntmps)) = some s61 := by kernel_rfl

/-- slices.ContainsFunc[[]int,int] -/
def s62 : SC :=
  (.seq (.rg [⟨some 4, none, .mv (.c (.d (.bool false)))⟩])
  (.seq (.rg [⟨some 5, none, .mv (.t 0)⟩,
  ⟨some 6, none, .mv (.t 1)⟩,
  ⟨some 7, none, .call 73 [(.t 5), (.t 6)]⟩,
  ⟨some 8, none, .bin .geq .i64 (.t 7) (.c (.d (.int .i64 0)))⟩,
  ⟨some 4, none, .mv (.t 8)⟩])
  .ret))
def r62 : List RV := [.t 4]

theorem k62 : (Tryd.f62.body.bind (slim Tryd.prog loudF Tryd.f62.ntmps)) = some s62 := by kernel_rfl

/-- (loop.example/g00208/impl.Table).indexOK$1 -/
def s63 : SC :=
  (.seq (.rg [⟨some 3, none, .mv (.c (.d (.bool false)))⟩])
  (.seq (.rg [⟨some 4, none, .mv (.t 0)⟩,
  ⟨some 5, none, .fad 1 (.t 1)⟩,
  ⟨some 6, none, .ld none (.t 5)⟩,
  ⟨some 7, none, .len (.t 6)⟩,
  ⟨some 8, none, .bin .sub .i64 (.t 7) (.c (.d (.int .i64 1)))⟩,
  ⟨some 9, none, .call 29 [(.t 4), (.c (.d (.int .i64 0))), (.t 8)]⟩,
  ⟨some 10, none, .not (.t 9)⟩,
  ⟨some 3, none, .mv (.t 10)⟩])
  .ret))
def r63 : List RV := [.t 3]

theorem k63 : (Tryd.f63.body.bind (slim Tryd.prog loudF Tryd.f63.ntmps)) = some s63 := by kernel_rfl

/-- slices.IndexFunc[[]loop.example/g00208/impl.Index,loop.example/g00208/impl.Index] -/
def s64 : SC :=
  (.seq (.rg [⟨some 4, none, .mv (.c (.d (.int .i64 0)))⟩])
  (.seq (.seq (.rg [⟨some 6, none, .mv (.t 0)⟩,
  ⟨some 7, none, .len (.t 6)⟩,
  ⟨some 8, none, .mv (.c (.d (.int .i64 0)))⟩])
  (.blk 0 (.loop (.seq (.rg [⟨some 9, none, .bin .lss .i64 (.t 8) (.t 7)⟩])
    (.seq (.cond (.t 9)
      .skip
      (.exit 0))
    (.seq (.blk 1 (.seq (.rg [⟨some 10, none, .mv (.t 8)⟩,
    ⟨some 5, none, .mv (.t 10)⟩])
    (.seq (.rg [⟨some 11, none, .mv (.t 1)⟩,
    ⟨some 12, none, .mv (.t 0)⟩,
    ⟨some 13, none, .mv (.t 5)⟩,
    ⟨some 14, none, .iad 2 [.str [], .sl 1 []] (.t 12) (.t 13)⟩,
    ⟨some 15, none, .ld (some 2) (.t 14)⟩,
    ⟨some 16, none, .calv (.t 11) [(.t 15)]⟩])
    (.cond (.t 16)
      (.seq (.rg [⟨some 17, none, .mv (.t 5)⟩,
      ⟨some 4, none, .mv (.t 17)⟩])
      .ret)
      .skip))))
    (.rg [⟨some 18, none, .bin .add .i64 (.t 8) (.c (.d (.int .i64 1)))⟩,
    ⟨some 8, none, .mv (.t 18)⟩])))))))
  (.seq (.rg [⟨some 4, none, .mv (.c (.d (.int .i64 (-1))))⟩])
  .ret)))
def r64 : List RV := [.t 4]

theorem k64 : (Tryd.f64.body.bind (slim Tryd.prog loudF Tryd.f64.ntmps)) = some s64 := by kernel_rfl

/-- (loop.example/g00208/impl.Table).index$1 -/
def s65 : SC :=
  (.seq (.rg [⟨some 2, none, .box 2 (.t 0)⟩,
  ⟨some 3, none, .mv (.c (.d (.bool false)))⟩])
  (.seq (.rg [⟨some 4, none, .fad 0 (.t 2)⟩,
  ⟨some 5, none, .ld none (.t 4)⟩,
  ⟨some 6, none, .ld none (.t 1)⟩,
  ⟨some 7, none, .sbin .eql (.t 5) (.t 6)⟩,
  ⟨some 3, none, .mv (.t 7)⟩])
  .ret))
def r65 : List RV := [.t 3]

theorem k65 : (Tryd.f65.body.bind (slim Tryd.prog loudF Tryd.f65.ntmps)) = some s65 := by kernel_rfl

/-- loop.example/g00208/laws.eqIntS -/
def s66 : SC :=
  (.seq (.rg [⟨some 4, none, .mv (.c (.d (.bool false)))⟩])
  (.seq (.seq (.rg [⟨some 6, none, .mv (.t 0)⟩,
  ⟨some 7, none, .len (.t 6)⟩,
  ⟨some 8, none, .mv (.t 1)⟩,
  ⟨some 9, none, .len (.t 8)⟩,
  ⟨some 10, none, .bin .neq .i64 (.t 7) (.t 9)⟩])
  (.cond (.t 10)
    (.seq (.rg [⟨some 4, none, .mv (.c (.d (.bool false)))⟩])
    .ret)
    .skip))
  (.seq (.seq (.rg [⟨some 5, none, .mv (.c (.d (.int .i64 0)))⟩])
  (.blk 0 (.loop (.seq (.seq (.rg [⟨some 11, none, .mv (.t 5)⟩,
    ⟨some 12, none, .mv (.t 0)⟩,
    ⟨some 13, none, .len (.t 12)⟩,
    ⟨some 14, none, .bin .lss .i64 (.t 11) (.t 13)⟩])
    (.cond (.t 14)
      .skip
      (.exit 0)))
    (.seq (.blk 1 (.seq (.rgd (.op ⟨some 17, none, .mv (.t 0)⟩ (.op ⟨some 18, none, .mv (.t 5)⟩ (.op ⟨some 19, none, .iad 1 [.int .i64 0] (.t 17) (.t 18)⟩ (.op ⟨some 20, none, .ld none (.t 19)⟩ (.op ⟨some 21, none, .mv (.t 1)⟩ (.op ⟨some 22, none, .mv (.t 5)⟩ (.op ⟨some 23, none, .iad 1 [.int .i64 0] (.t 21) (.t 22)⟩ (.op ⟨some 24, none, .ld none (.t 23)⟩ (.op ⟨some 25, none, .bin .neq .i64 (.t 20) (.t 24)⟩ .done))))))))))
    (.cond (.t 25)
      (.seq (.rg [⟨some 4, none, .mv (.c (.d (.bool false)))⟩])
      .ret)
      .skip)))
    (.rg [⟨some 15, none, .mv (.t 5)⟩,
    ⟨some 16, none, .bin .add .i64 (.t 15) (.c (.d (.int .i64 1)))⟩,
    ⟨some 5, none, .mv (.t 16)⟩]))))))
  (.seq (.rg [⟨some 4, none, .mv (.c (.d (.bool true)))⟩])
  .ret))))
def r66 : List RV := [.t 4]

theorem k66 : (Tryd.f66.body.bind (slim Tryd.prog loudF Tryd.f66.ntmps)) = some s66 := by kernel_rfl

/-- loop.example/g00208/spec.l00Word -/
def s67 : SC :=
  (.seq (.rg [⟨some 2, none, .mv (.c (.d (.bool false)))⟩])
  (.seq (.seq (.rg [⟨some 4, none, .mv (.t 0)⟩,
  ⟨some 5, none, .sln (.t 4)⟩,
  ⟨some 6, none, .bin .lss .i64 (.t 5) (.c (.d (.int .i64 1)))⟩,
  ⟨some 7, none, .mv (.t 6)⟩,
  ⟨some 8, some (7, false), .mv (.t 0)⟩,
  ⟨some 9, some (7, false), .sln (.t 8)⟩,
  ⟨some 10, some (7, false), .bin .gtr .i64 (.t 9) (.c (.d (.int .i64 40)))⟩,
  ⟨some 11, none, .pick (.t 7) (.c (.d (.bool true))) (.t 10)⟩,
  ⟨some 12, none, .mv (.t 11)⟩,
  ⟨some 13, some (12, false), .mv (.t 0)⟩,
  ⟨some 14, some (12, false), .ist (.t 13) (.c (.d (.int .i64 0)))⟩,
  ⟨some 15, some (12, false), .call 74 [(.t 14)]⟩,
  ⟨some 16, some (12, false), .not (.t 15)⟩,
  ⟨some 17, none, .pick (.t 12) (.c (.d (.bool true))) (.t 16)⟩])
  (.cond (.t 17)
    (.seq (.rg [⟨some 2, none, .mv (.c (.d (.bool false)))⟩])
    .ret)
    .skip))
  (.seq (.seq (.rg [⟨some 3, none, .mv (.c (.d (.int .i64 1)))⟩])
  (.blk 0 (.loop (.seq (.seq (.rg [⟨some 18, none, .mv (.t 3)⟩,
    ⟨some 19, none, .mv (.t 0)⟩,
    ⟨some 20, none, .sln (.t 19)⟩,
    ⟨some 21, none, .bin .lss .i64 (.t 18) (.t 20)⟩])
    (.cond (.t 21)
      .skip
      (.exit 0)))
    (.seq (.blk 1 (.seq (.rg [⟨some 24, none, .mv (.t 0)⟩,
    ⟨some 25, none, .mv (.t 3)⟩,
    ⟨some 26, none, .ist (.t 24) (.t 25)⟩,
    ⟨some 27, none, .call 74 [(.t 26)]⟩,
    ⟨some 28, none, .not (.t 27)⟩,
    ⟨some 29, none, .mv (.t 28)⟩,
    ⟨some 30, some (29, true), .mv (.t 0)⟩,
    ⟨some 31, some (29, true), .mv (.t 3)⟩,
    ⟨some 32, some (29, true), .ist (.t 30) (.t 31)⟩,
    ⟨some 33, some (29, true), .call 75 [(.t 32)]⟩,
    ⟨some 34, some (29, true), .not (.t 33)⟩,
    ⟨some 35, none, .pick (.t 29) (.t 34) (.c (.d (.bool false)))⟩])
    (.cond (.t 35)
      (.seq (.rg [⟨some 2, none, .mv (.c (.d (.bool false)))⟩])
      .ret)
      .skip)))
    (.rg [⟨some 22, none, .mv (.t 3)⟩,
    ⟨some 23, none, .bin .add .i64 (.t 22) (.c (.d (.int .i64 1)))⟩,
    ⟨some 3, none, .mv (.t 23)⟩]))))))
  (.seq (.rg [⟨some 2, none, .mv (.c (.d (.bool true)))⟩])
  .ret))))
def r67 : List RV := [.t 2]

theorem k67 : (Tryd.f67.body.bind (slim Tryd.prog loudF Tryd.f67.ntmps)) = some s67 := by kernel_rfl

/-- loop.example/g00208/impl.isLetter -/
def s68 : SC :=
  (.seq (.rg [⟨some 2, none, .mv (.c (.d (.bool false)))⟩])
  (.seq (.rg [⟨some 3, none, .mv (.t 0)⟩,
  ⟨some 4, none, .bin .geq .u8 (.t 3) (.c (.d (.int .u8 97)))⟩,
  ⟨some 5, none, .mv (.t 4)⟩,
  ⟨some 6, some (5, true), .mv (.t 0)⟩,
  ⟨some 7, some (5, true), .bin .leq .u8 (.t 6) (.c (.d (.int .u8 122)))⟩,
  ⟨some 8, none, .pick (.t 5) (.t 7) (.c (.d (.bool false)))⟩,
  ⟨some 9, none, .mv (.t 8)⟩,
  ⟨some 10, some (9, false), .mv (.t 0)⟩,
  ⟨some 11, some (9, false), .bin .geq .u8 (.t 10) (.c (.d (.int .u8 65)))⟩,
  ⟨some 12, some (9, false), .mv (.t 11)⟩,
  ⟨some 13, some (12, true), .mv (.t 0)⟩,
  ⟨some 14, some (12, true), .bin .leq .u8 (.t 13) (.c (.d (.int .u8 90)))⟩,
  ⟨some 15, some (9, false), .pick (.t 12) (.t 14) (.c (.d (.bool false)))⟩,
  ⟨some 16, none, .pick (.t 9) (.c (.d (.bool true))) (.t 15)⟩,
  ⟨some 17, none, .mv (.t 16)⟩,
  ⟨some 18, some (17, false), .mv (.t 0)⟩,
  ⟨some 19, some (17, false), .bin .eql .u8 (.t 18) (.c (.d (.int .u8 95)))⟩,
  ⟨some 20, none, .pick (.t 17) (.c (.d (.bool true))) (.t 19)⟩,
  ⟨some 2, none, .mv (.t 20)⟩])
  .ret))
def r68 : List RV := [.t 2]

theorem k68 : (Tryd.f68.body.bind (slim Tryd.prog loudF Tryd.f68.ntmps)) = some s68 := by kernel_rfl

/-- loop.example/g00208/impl.isDigit -/
def s69 : SC :=
  (.seq (.rg [⟨some 2, none, .mv (.c (.d (.bool false)))⟩])
  (.seq (.rg [⟨some 3, none, .mv (.t 0)⟩,
  ⟨some 4, none, .bin .geq .u8 (.t 3) (.c (.d (.int .u8 48)))⟩,
  ⟨some 5, none, .mv (.t 4)⟩,
  ⟨some 6, some (5, true), .mv (.t 0)⟩,
  ⟨some 7, some (5, true), .bin .leq .u8 (.t 6) (.c (.d (.int .u8 57)))⟩,
  ⟨some 8, none, .pick (.t 5) (.t 7) (.c (.d (.bool false)))⟩,
  ⟨some 2, none, .mv (.t 8)⟩])
  .ret))
def r69 : List RV := [.t 2]

theorem k69 : (Tryd.f69.body.bind (slim Tryd.prog loudF Tryd.f69.ntmps)) = some s69 := by kernel_rfl

/-- slices.Index[[]string,string] -/
def s70 : SC :=
  (.seq (.rg [⟨some 4, none, .mv (.c (.d (.int .i64 0)))⟩])
  (.seq (.seq (.rg [⟨some 6, none, .mv (.t 0)⟩,
  ⟨some 7, none, .len (.t 6)⟩,
  ⟨some 8, none, .mv (.c (.d (.int .i64 0)))⟩])
  (.blk 0 (.loop (.seq (.rg [⟨some 9, none, .bin .lss .i64 (.t 8) (.t 7)⟩])
    (.seq (.cond (.t 9)
      .skip
      (.exit 0))
    (.seq (.blk 1 (.seq (.rg [⟨some 10, none, .mv (.t 8)⟩,
    ⟨some 5, none, .mv (.t 10)⟩])
    (.seq (.rg [⟨some 11, none, .mv (.t 1)⟩,
    ⟨some 12, none, .mv (.t 0)⟩,
    ⟨some 13, none, .mv (.t 5)⟩,
    ⟨some 14, none, .iad 1 [.str []] (.t 12) (.t 13)⟩,
    ⟨some 15, none, .ld none (.t 14)⟩,
    ⟨some 16, none, .sbin .eql (.t 11) (.t 15)⟩])
    (.cond (.t 16)
      (.seq (.rg [⟨some 17, none, .mv (.t 5)⟩,
      ⟨some 4, none, .mv (.t 17)⟩])
      .ret)
      .skip))))
    (.rg [⟨some 18, none, .bin .add .i64 (.t 8) (.c (.d (.int .i64 1)))⟩,
    ⟨some 8, none, .mv (.t 18)⟩])))))))
  (.seq (.rg [⟨some 4, none, .mv (.c (.d (.int .i64 (-1))))⟩])
  .ret)))
def r70 : List RV := [.t 4]

theorem k70 : (Tryd.f70.body.bind (slim Tryd.prog loudF Tryd.f70.ntmps)) = some s70 := by kernel_rfl

/-- strings.Split -/
def s71 : SC :=
  (.seq (.rg [⟨some 4, none, .mv (.c (.nils 1))⟩])
  (.seq (.rg [⟨some 5, none, .mv (.t 0)⟩,
  ⟨some 6, none, .mv (.t 1)⟩,
  ⟨some 7, none, .call 76 [(.t 5), (.t 6), (.c (.d (.int .i64 0))), (.c (.d (.int .i64 (-1))))]⟩,
  ⟨some 4, none, .mv (.t 7)⟩])
  .ret))
def r71 : List RV := [.t 4]

theorem k71 : (Tryd.f71.body.bind (slim Tryd.prog loudF Tryd.f71.ntmps)) = some s71 := by kernel_rfl

/-- slices.Contains[[]int,int] -/
def s72 : SC :=
  (.seq (.rg [⟨some 4, none, .mv (.c (.d (.bool false)))⟩])
  (.seq (.rg [⟨some 5, none, .mv (.t 0)⟩,
  ⟨some 6, none, .mv (.t 1)⟩,
  ⟨some 7, none, .call 77 [(.t 5), (.t 6)]⟩,
  ⟨some 8, none, .bin .geq .i64 (.t 7) (.c (.d (.int .i64 0)))⟩,
  ⟨some 4, none, .mv (.t 8)⟩])
  .ret))
def r72 : List RV := [.t 4]

theorem k72 : (Tryd.f72.body.bind (slim Tryd.prog loudF Tryd.f72.ntmps)) = some s72 := by kernel_rfl

/-- slices.IndexFunc[[]int,int] -/
def s73 : SC :=
  (.seq (.rg [⟨some 4, none, .mv (.c (.d (.int .i64 0)))⟩])
  (.seq (.seq (.rg [⟨some 6, none, .mv (.t 0)⟩,
  ⟨some 7, none, .len (.t 6)⟩,
  ⟨some 8, none, .mv (.c (.d (.int .i64 0)))⟩])
  (.blk 0 (.loop (.seq (.rg [⟨some 9, none, .bin .lss .i64 (.t 8) (.t 7)⟩])
    (.seq (.cond (.t 9)
      .skip
      (.exit 0))
    (.seq (.blk 1 (.seq (.rg [⟨some 10, none, .mv (.t 8)⟩,
    ⟨some 5, none, .mv (.t 10)⟩])
    (.seq (.rg [⟨some 11, none, .mv (.t 1)⟩,
    ⟨some 12, none, .mv (.t 0)⟩,
    ⟨some 13, none, .mv (.t 5)⟩,
    ⟨some 14, none, .iad 1 [.int .i64 0] (.t 12) (.t 13)⟩,
    ⟨some 15, none, .ld none (.t 14)⟩,
    ⟨some 16, none, .calv (.t 11) [(.t 15)]⟩])
    (.cond (.t 16)
      (.seq (.rg [⟨some 17, none, .mv (.t 5)⟩,
      ⟨some 4, none, .mv (.t 17)⟩])
      .ret)
      .skip))))
    (.rg [⟨some 18, none, .bin .add .i64 (.t 8) (.c (.d (.int .i64 1)))⟩,
    ⟨some 8, none, .mv (.t 18)⟩])))))))
  (.seq (.rg [⟨some 4, none, .mv (.c (.d (.int .i64 (-1))))⟩])
  .ret)))
def r73 : List RV := [.t 4]

theorem k73 : (Tryd.f73.body.bind (slim Tryd.prog loudF Tryd.f73.ntmps)) = some s73 := by kernel_rfl

/-- loop.example/g00208/spec.l00Letter -/
def s74 : SC :=
  (.seq (.rg [⟨some 2, none, .mv (.c (.d (.bool false)))⟩])
  (.seq (.rg [⟨some 3, none, .mv (.t 0)⟩,
  ⟨some 4, none, .bin .geq .u8 (.t 3) (.c (.d (.int .u8 97)))⟩,
  ⟨some 5, none, .mv (.t 4)⟩,
  ⟨some 6, some (5, true), .mv (.t 0)⟩,
  ⟨some 7, some (5, true), .bin .leq .u8 (.t 6) (.c (.d (.int .u8 122)))⟩,
  ⟨some 8, none, .pick (.t 5) (.t 7) (.c (.d (.bool false)))⟩,
  ⟨some 9, none, .mv (.t 8)⟩,
  ⟨some 10, some (9, false), .mv (.t 0)⟩,
  ⟨some 11, some (9, false), .bin .geq .u8 (.t 10) (.c (.d (.int .u8 65)))⟩,
  ⟨some 12, some (9, false), .mv (.t 11)⟩,
  ⟨some 13, some (12, true), .mv (.t 0)⟩,
  ⟨some 14, some (12, true), .bin .leq .u8 (.t 13) (.c (.d (.int .u8 90)))⟩,
  ⟨some 15, some (9, false), .pick (.t 12) (.t 14) (.c (.d (.bool false)))⟩,
  ⟨some 16, none, .pick (.t 9) (.c (.d (.bool true))) (.t 15)⟩,
  ⟨some 17, none, .mv (.t 16)⟩,
  ⟨some 18, some (17, false), .mv (.t 0)⟩,
  ⟨some 19, some (17, false), .bin .eql .u8 (.t 18) (.c (.d (.int .u8 95)))⟩,
  ⟨some 20, none, .pick (.t 17) (.c (.d (.bool true))) (.t 19)⟩,
  ⟨some 2, none, .mv (.t 20)⟩])
  .ret))
def r74 : List RV := [.t 2]

theorem k74 : (Tryd.f74.body.bind (slim Tryd.prog loudF Tryd.f74.ntmps)) = some s74 := by kernel_rfl

/-- loop.example/g00208/spec.l00Digit -/
def s75 : SC :=
  (.seq (.rg [⟨some 2, none, .mv (.c (.d (.bool false)))⟩])
  (.seq (.rg [⟨some 3, none, .mv (.t 0)⟩,
  ⟨some 4, none, .bin .geq .u8 (.t 3) (.c (.d (.int .u8 48)))⟩,
  ⟨some 5, none, .mv (.t 4)⟩,
  ⟨some 6, some (5, true), .mv (.t 0)⟩,
  ⟨some 7, some (5, true), .bin .leq .u8 (.t 6) (.c (.d (.int .u8 57)))⟩,
  ⟨some 8, none, .pick (.t 5) (.t 7) (.c (.d (.bool false)))⟩,
  ⟨some 2, none, .mv (.t 8)⟩])
  .ret))
def r75 : List RV := [.t 2]

theorem k75 : (Tryd.f75.body.bind (slim Tryd.prog loudF Tryd.f75.ntmps)) = some s75 := by kernel_rfl

/-- strings.genSplit -/
def s76 : SC :=
  (.seq (.rg [⟨some 8, none, .mv (.c (.nils 1))⟩])
  (.seq (.seq (.rg [⟨some 12, none, .mv (.t 3)⟩,
  ⟨some 13, none, .bin .eql .i64 (.t 12) (.c (.d (.int .i64 0)))⟩])
  (.cond (.t 13)
    (.seq (.rg [⟨some 8, none, .mv (.c (.nils 1))⟩])
    .ret)
    .skip))
  (.seq (.seq (.rg [⟨some 14, none, .mv (.t 1)⟩,
  ⟨some 15, none, .sbin .eql (.t 14) (.c (.d (.str [])))⟩])
  (.cond (.t 15)
    (.seq (.rg [⟨some 16, none, .mv (.t 0)⟩,
    ⟨some 17, none, .mv (.t 3)⟩,
    ⟨some 18, none, .call 78 [(.t 16), (.t 17)]⟩,
    ⟨some 8, none, .mv (.t 18)⟩])
    .ret)
    .skip))
  (.seq (.seq (.rg [⟨some 19, none, .mv (.t 3)⟩,
  ⟨some 20, none, .bin .lss .i64 (.t 19) (.c (.d (.int .i64 0)))⟩])
  (.cond (.t 20)
    (.rg [⟨some 21, none, .mv (.t 0)⟩,
    ⟨some 22, none, .mv (.t 1)⟩,
    ⟨some 23, none, .call 79 [(.t 21), (.t 22)]⟩,
    ⟨some 24, none, .bin .add .i64 (.t 23) (.c (.d (.int .i64 1)))⟩,
    ⟨some 3, none, .mv (.t 24)⟩])
    .skip))
  (.seq (.rg [⟨some 25, none, .mv (.t 3)⟩,
  ⟨some 26, none, .mv (.t 0)⟩,
  ⟨some 27, none, .sln (.t 26)⟩,
  ⟨some 28, none, .bin .add .i64 (.t 27) (.c (.d (.int .i64 1)))⟩,
  ⟨some 29, none, .mn (.t 25) (.t 28)⟩,
  ⟨some 3, none, .mv (.t 29)⟩])
  (.seq (.rg [⟨some 30, none, .mv (.t 3)⟩,
  ⟨some 31, none, .mk 1 [.str []] (.t 30) (.t 30)⟩,
  ⟨some 9, none, .mv (.t 31)⟩])
  (.seq (.rg [⟨some 32, none, .mv (.t 3)⟩,
  ⟨some 33, none, .bin .sub .i64 (.t 32) (.c (.d (.int .i64 1)))⟩,
  ⟨some 3, none, .mv (.t 33)⟩])
  (.seq (.rg [⟨some 10, none, .mv (.c (.d (.int .i64 0)))⟩])
  (.seq (.blk 0 (.loop (.seq (.seq (.rg [⟨some 34, none, .mv (.t 10)⟩,
    ⟨some 35, none, .mv (.t 3)⟩,
    ⟨some 36, none, .bin .lss .i64 (.t 34) (.t 35)⟩])
    (.cond (.t 36)
      .skip
      (.exit 0)))
    (.blk 1 (.seq (.rg [⟨some 37, none, .mv (.t 0)⟩,
    ⟨some 38, none, .mv (.t 1)⟩,
    ⟨some 39, none, .call 80 [(.t 37), (.t 38)]⟩,
    ⟨some 11, none, .mv (.t 39)⟩])
    (.seq (.seq (.rg [⟨some 40, none, .mv (.t 11)⟩,
    ⟨some 41, none, .bin .lss .i64 (.t 40) (.c (.d (.int .i64 0)))⟩])
    (.cond (.t 41)
      (.exit 0)
      .skip))
    (.seq (.rg [⟨some 42, none, .mv (.t 9)⟩,
    ⟨some 43, none, .mv (.t 10)⟩,
    ⟨some 44, none, .mv (.t 0)⟩,
    ⟨some 45, none, .mv (.t 11)⟩,
    ⟨some 46, none, .mv (.t 2)⟩,
    ⟨some 47, none, .bin .add .i64 (.t 45) (.t 46)⟩,
    ⟨some 48, none, .sst (.t 44) none (some (.t 47))⟩,
    ⟨some 49, none, .iad 1 [.str []] (.t 42) (.t 43)⟩,
    ⟨none, none, .st 1 (.t 49) (.t 48)⟩])
    (.seq (.rg [⟨some 50, none, .mv (.t 0)⟩,
    ⟨some 51, none, .mv (.t 11)⟩,
    ⟨some 52, none, .mv (.t 1)⟩,
    ⟨some 53, none, .sln (.t 52)⟩,
    ⟨some 54, none, .bin .add .i64 (.t 51) (.t 53)⟩,
    ⟨some 55, none, .sst (.t 50) (some (.t 54)) none⟩,
    ⟨some 0, none, .mv (.t 55)⟩])
    (.rg [⟨some 56, none, .mv (.t 10)⟩,
    ⟨some 57, none, .bin .add .i64 (.t 56) (.c (.d (.int .i64 1)))⟩,
    ⟨some 10, none, .mv (.t 57)⟩])))))))))
  (.seq (.rg [⟨some 58, none, .mv (.t 9)⟩,
  ⟨some 59, none, .mv (.t 10)⟩,
  ⟨some 60, none, .mv (.t 0)⟩,
  ⟨some 61, none, .iad 1 [.str []] (.t 58) (.t 59)⟩,
  ⟨none, none, .st 1 (.t 61) (.t 60)⟩])
  (.seq (.rg [⟨some 62, none, .mv (.t 9)⟩,
  ⟨some 63, none, .mv (.t 10)⟩,
  ⟨some 64, none, .bin .add .i64 (.t 63) (.c (.d (.int .i64 1)))⟩,
  ⟨some 65, none, .sli 1 (.t 62) none (some (.t 64))⟩,
  ⟨some 8, none, .mv (.t 65)⟩])
  .ret)))))))))))
def r76 : List RV := [.t 8]

theorem k76 : (Tryd.f76.body.bind (slim Tryd.prog loudF Tryd.f76.ntmps)) = some s76 := by kernel_rfl

/-- slices.Index[[]int,int] -/
def s77 : SC :=
  (.seq (.rg [⟨some 4, none, .mv (.c (.d (.int .i64 0)))⟩])
  (.seq (.seq (.rg [⟨some 6, none, .mv (.t 0)⟩,
  ⟨some 7, none, .len (.t 6)⟩,
  ⟨some 8, none, .mv (.c (.d (.int .i64 0)))⟩])
  (.blk 0 (.loop (.seq (.rg [⟨some 9, none, .bin .lss .i64 (.t 8) (.t 7)⟩])
    (.seq (.cond (.t 9)
      .skip
      (.exit 0))
    (.seq (.blk 1 (.seq (.rg [⟨some 10, none, .mv (.t 8)⟩,
    ⟨some 5, none, .mv (.t 10)⟩])
    (.seq (.rg [⟨some 11, none, .mv (.t 1)⟩,
    ⟨some 12, none, .mv (.t 0)⟩,
    ⟨some 13, none, .mv (.t 5)⟩,
    ⟨some 14, none, .iad 1 [.int .i64 0] (.t 12) (.t 13)⟩,
    ⟨some 15, none, .ld none (.t 14)⟩,
    ⟨some 16, none, .bin .eql .i64 (.t 11) (.t 15)⟩])
    (.cond (.t 16)
      (.seq (.rg [⟨some 17, none, .mv (.t 5)⟩,
      ⟨some 4, none, .mv (.t 17)⟩])
      .ret)
      .skip))))
    (.rg [⟨some 18, none, .bin .add .i64 (.t 8) (.c (.d (.int .i64 1)))⟩,
    ⟨some 8, none, .mv (.t 18)⟩])))))))
  (.seq (.rg [⟨some 4, none, .mv (.c (.d (.int .i64 (-1))))⟩])
  .ret)))
def r77 : List RV := [.t 4]

theorem k77 : (Tryd.f77.body.bind (slim Tryd.prog loudF Tryd.f77.ntmps)) = some s77 := by kernel_rfl

/-- strings.explode -/
def s78 : SC :=
  (.seq (.rg [⟨some 4, none, .mv (.c (.nils 1))⟩])
  (.seq (.rg [⟨some 10, none, .mv (.t 0)⟩,
  ⟨some 11, none, .call 81 [(.t 10)]⟩,
  ⟨some 5, none, .mv (.t 11)⟩])
  (.seq (.seq (.rg [⟨some 12, none, .mv (.t 1)⟩,
  ⟨some 13, none, .bin .lss .i64 (.t 12) (.c (.d (.int .i64 0)))⟩,
  ⟨some 14, none, .mv (.t 13)⟩,
  ⟨some 15, some (14, false), .mv (.t 1)⟩,
  ⟨some 16, some (14, false), .mv (.t 5)⟩,
  ⟨some 17, some (14, false), .bin .gtr .i64 (.t 15) (.t 16)⟩,
  ⟨some 18, none, .pick (.t 14) (.c (.d (.bool true))) (.t 17)⟩])
  (.cond (.t 18)
    (.rg [⟨some 19, none, .mv (.t 5)⟩,
    ⟨some 1, none, .mv (.t 19)⟩])
    .skip))
  (.seq (.rg [⟨some 20, none, .mv (.t 1)⟩,
  ⟨some 21, none, .mk 1 [.str []] (.t 20) (.t 20)⟩,
  ⟨some 6, none, .mv (.t 21)⟩])
  (.seq (.seq (.rg [⟨some 7, none, .mv (.c (.d (.int .i64 0)))⟩])
  (.blk 0 (.loop (.seq (.seq (.rg [⟨some 22, none, .mv (.t 7)⟩,
    ⟨some 23, none, .mv (.t 1)⟩,
    ⟨some 24, none, .bin .sub .i64 (.t 23) (.c (.d (.int .i64 1)))⟩,
    ⟨some 25, none, .bin .lss .i64 (.t 22) (.t 24)⟩])
    (.cond (.t 25)
      .skip
      (.exit 0)))
    (.seq (.blk 1 (.seq (.rg [⟨some 29, none, .mv (.t 0)⟩,
    ⟨some 30, none, .call 82 [(.t 29)]⟩,
    ⟨some 28, none, .mv (.t 30)⟩,
    ⟨some 31, none, .ext 0 (.t 28)⟩,
    ⟨some 32, none, .ext 1 (.t 28)⟩,
    ⟨some 8, none, .mv (.t 31)⟩,
    ⟨some 9, none, .mv (.t 32)⟩])
    (.seq (.rg [⟨some 33, none, .mv (.t 6)⟩,
    ⟨some 34, none, .mv (.t 7)⟩,
    ⟨some 35, none, .mv (.t 0)⟩,
    ⟨some 36, none, .mv (.t 9)⟩,
    ⟨some 37, none, .sst (.t 35) none (some (.t 36))⟩,
    ⟨some 38, none, .iad 1 [.str []] (.t 33) (.t 34)⟩,
    ⟨none, none, .st 1 (.t 38) (.t 37)⟩])
    (.rg [⟨some 39, none, .mv (.t 0)⟩,
    ⟨some 40, none, .mv (.t 9)⟩,
    ⟨some 41, none, .sst (.t 39) (some (.t 40)) none⟩,
    ⟨some 0, none, .mv (.t 41)⟩]))))
    (.rg [⟨some 26, none, .mv (.t 7)⟩,
    ⟨some 27, none, .bin .add .i64 (.t 26) (.c (.d (.int .i64 1)))⟩,
    ⟨some 7, none, .mv (.t 27)⟩]))))))
  (.seq (.seq (.rg [⟨some 42, none, .mv (.t 1)⟩,
  ⟨some 43, none, .bin .gtr .i64 (.t 42) (.c (.d (.int .i64 0)))⟩])
  (.cond (.t 43)
    (.rg [⟨some 44, none, .mv (.t 6)⟩,
    ⟨some 45, none, .mv (.t 1)⟩,
    ⟨some 46, none, .bin .sub .i64 (.t 45) (.c (.d (.int .i64 1)))⟩,
    ⟨some 47, none, .mv (.t 0)⟩,
    ⟨some 48, none, .iad 1 [.str []] (.t 44) (.t 46)⟩,
    ⟨none, none, .st 1 (.t 48) (.t 47)⟩])
    .skip))
  (.seq (.rg [⟨some 49, none, .mv (.t 6)⟩,
  ⟨some 4, none, .mv (.t 49)⟩])
  .ret)))))))
def r78 : List RV := [.t 4]

theorem k78 : (Tryd.f78.body.bind (slim Tryd.prog loudF Tryd.f78.ntmps)) = some s78 := by kernel_rfl

/-- strings.Count -/
def s79 : SC :=
  (.seq (.rg [⟨some 4, none, .mv (.c (.d (.int .i64 0)))⟩])
  (.seq (.seq (.rg [⟨some 7, none, .mv (.t 1)⟩,
  ⟨some 8, none, .sln (.t 7)⟩,
  ⟨some 9, none, .bin .eql .i64 (.t 8) (.c (.d (.int .i64 0)))⟩])
  (.cond (.t 9)
    (.seq (.rg [⟨some 10, none, .mv (.t 0)⟩,
    ⟨some 11, none, .call 81 [(.t 10)]⟩,
    ⟨some 12, none, .bin .add .i64 (.t 11) (.c (.d (.int .i64 1)))⟩,
    ⟨some 4, none, .mv (.t 12)⟩])
    .ret)
    .skip))
  (.seq (.seq (.rg [⟨some 13, none, .mv (.t 1)⟩,
  ⟨some 14, none, .sln (.t 13)⟩,
  ⟨some 15, none, .bin .eql .i64 (.t 14) (.c (.d (.int .i64 1)))⟩])
  (.cond (.t 15)
    (.seq (.rg [⟨some 16, none, .mv (.t 0)⟩,
    ⟨some 17, none, .mv (.t 1)⟩,
    ⟨some 18, none, .ist (.t 17) (.c (.d (.int .i64 0)))⟩,
    ⟨some 19, none, .call 83 [(.t 16), (.t 18)]⟩,
    ⟨some 4, none, .mv (.t 19)⟩])
    .ret)
    .skip))
  (.seq (.rg [⟨some 5, none, .mv (.c (.d (.int .i64 0)))⟩])
  (.blk 0 (.loop (.blk 1 (.seq (.rg [⟨some 20, none, .mv (.t 0)⟩,
    ⟨some 21, none, .mv (.t 1)⟩,
    ⟨some 22, none, .call 80 [(.t 20), (.t 21)]⟩,
    ⟨some 6, none, .mv (.t 22)⟩])
    (.seq (.seq (.rg [⟨some 23, none, .mv (.t 6)⟩,
    ⟨some 24, none, .bin .eql .i64 (.t 23) (.c (.d (.int .i64 (-1))))⟩])
    (.cond (.t 24)
      (.seq (.rg [⟨some 25, none, .mv (.t 5)⟩,
      ⟨some 4, none, .mv (.t 25)⟩])
      .ret)
      .skip))
    (.seq (.rg [⟨some 26, none, .mv (.t 5)⟩,
    ⟨some 27, none, .bin .add .i64 (.t 26) (.c (.d (.int .i64 1)))⟩,
    ⟨some 5, none, .mv (.t 27)⟩])
    (.rg [⟨some 28, none, .mv (.t 0)⟩,
    ⟨some 29, none, .mv (.t 6)⟩,
    ⟨some 30, none, .mv (.t 1)⟩,
    ⟨some 31, none, .sln (.t 30)⟩,
    ⟨some 32, none, .bin .add .i64 (.t 29) (.t 31)⟩,
    ⟨some 33, none, .sst (.t 28) (some (.t 32)) none⟩,
    ⟨some 0, none, .mv (.t 33)⟩])))))))))))
def r79 : List RV := [.t 4]

theorem k79 : (Tryd.f79.body.bind (slim Tryd.prog loudF Tryd.f79.ntmps)) = some s79 := by kernel_rfl

/-- strings.Index -/
def s80 : SC :=
  (.seq (.rg [⟨some 4, none, .mv (.c (.d (.int .i64 0)))⟩])
  (.seq (.rg [⟨some 5, none, .mv (.t 0)⟩,
  ⟨some 6, none, .mv (.t 1)⟩,
  ⟨some 7, none, .call 84 [(.t 5), (.t 6)]⟩,
  ⟨some 4, none, .mv (.t 7)⟩])
  .ret))
def r80 : List RV := [.t 4]

theorem k80 : (Tryd.f80.body.bind (slim Tryd.prog loudF Tryd.f80.ntmps)) = some s80 := by kernel_rfl

end Go.Proofs.YtchmoleeajkioaaDoor.V
