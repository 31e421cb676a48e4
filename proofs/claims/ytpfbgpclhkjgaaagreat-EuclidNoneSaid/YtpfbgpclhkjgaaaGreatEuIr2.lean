/- A part of the proof: an evaluator of programs, its soundness, and what it says of the functions in hand. It holds without further conditions. -/
import Derived.Test.YtpfbgpclhkjgaaaGreatAb23
import Derived.Test.YtpfbgpclhkjgaaaGreatChecked
set_option linter.unusedVariables false
set_option maxRecDepth 100000
namespace Go.Proofs.YtpfbgpclhkjgaaaGreat
open Go.Ab

-- ashlar/ashlarref1.Sign
def h96 : List (List Nat) := [[0], [1], [], [1], [], []]
def i96 : IFn := { nparams := 1, ntmps := 9, results := [.tmp 2], body :=
  (.seq (.reg [0] [⟨(some 1), .box 2 (.s 0), none, [], false⟩,
     ⟨(some 2), .mv (.c (.int .i64 0)), none, [], true⟩])
   (.seq (.seq (.reg [1] [⟨(some 3), .fldA 1 false 1 (.s 1), none, [], false⟩,
     ⟨(some 4), .load false 1 (.s 3), none, [], false⟩,
     ⟨(some 5), .len false (.s 4), none, [], false⟩,
     ⟨(some 6), .bin .eql .num (.s 5) (.c (.int .i64 0)), none, [], false⟩])
   (.cond (.s 6)
    (.seq (.reg [] [⟨(some 2), .mv (.c (.int .i64 0)), none, [], true⟩])
    .ret)
    .skip))
   (.seq (.seq (.reg [1] [⟨(some 7), .fldA 0 false 1 (.s 1), none, [], false⟩,
     ⟨(some 8), .load false 1 (.s 7), none, [], false⟩])
   (.cond (.s 8)
    (.seq (.reg [] [⟨(some 2), .mv (.c (.int .i64 (-1))), none, [], true⟩])
    .ret)
    .skip))
   (.seq (.reg [] [⟨(some 2), .mv (.c (.int .i64 1)), none, [], true⟩])
   .ret)))) }
theorem tr96 : trF Tryz.prog h96 Tryz.f96 = some i96 := by kernel_rfl

-- ashlar/ashlarref3.At
def h97 : List (List Nat) := [[0, 1], [0, 1, 4], [4], [0, 1, 4]]
def i97 : IFn := { nparams := 2, ntmps := 18, results := [.cell 4 true 2], body :=
  (.seq (.reg [0, 1] [⟨(some 4), .alloc 2 (.agg [(.bool false), (.sl .nil [])]), none, [], false⟩])
   (.seq (.seq (.reg [0, 1, 4] [⟨(some 5), .mv (.s 1), none, [], false⟩,
     ⟨(some 6), .bin .lss .num (.s 5) (.c (.int .i64 0)), none, [], false⟩,
     ⟨(some 7), .mv (.s 6), none, [], false⟩,
     ⟨(some 8), .mv (.s 1), (some (7, false)), [], false⟩,
     ⟨(some 9), .mv (.s 0), (some (7, false)), [], false⟩,
     ⟨(some 10), .len false (.s 9), (some (7, false)), [], false⟩,
     ⟨(some 11), .bin .geq .num (.s 8) (.s 10), (some (7, false)), [], false⟩,
     ⟨(some 12), .pick (.s 7) (.c (.bool true)) (.s 11), none, [], false⟩])
   (.cond (.s 12)
    (.seq (.reg [4] [⟨(some 13), .call (.c (.fn (.func 35) [] [])) [(.c (.int .i64 0))], none, [], false⟩,
      ⟨none, .store 2 (.s 4) (.s 13), none, [], false⟩])
    .ret)
    .skip))
   (.seq (.reg [0, 1, 4] [⟨(some 14), .mv (.s 0), none, [], false⟩,
     ⟨(some 15), .mv (.s 1), none, [], false⟩,
     ⟨(some 16), .idxA 2 (.s 14) (.s 15), none, [], false⟩,
     ⟨(some 17), .load true 2 (.s 16), none, [], false⟩,
     ⟨none, .store 2 (.s 4) (.s 17), none, [], false⟩])
   .ret))) }
theorem tr97 : trF Tryz.prog h97 Tryz.f97 = some i97 := by kernel_rfl

-- (ashlar/ashlarref8.Rule).Delta
def h98 : List (List Nat) := [[0, 1], [1, 2], [1], []]
def i98 : IFn := { nparams := 2, ntmps := 10, results := [.tmp 4], body :=
  (.seq (.reg [0, 1] [⟨(some 2), .box 3 (.s 0), none, [], false⟩,
     ⟨(some 4), .mv (.c (.sl .nil [])), none, [], true⟩])
   (.seq (.seq (.reg [1, 2] [⟨(some 5), .fldA 0 false 1 (.s 2), none, [], false⟩,
     ⟨(some 6), .load false 1 (.s 5), none, [], false⟩,
     ⟨(some 7), .bin .eql .num (.s 6) (.c (.int .i64 2)), none, [], false⟩])
   (.cond (.s 7)
    (.seq (.reg [1] [⟨(some 8), .mv (.s 1), none, [], false⟩,
      ⟨(some 9), .call (.c (.fn (.func 141) [] [])) [(.s 8)], none, [], false⟩,
      ⟨(some 4), .mv (.s 9), none, [], true⟩])
    .ret)
    .skip))
   (.seq (.reg [] [⟨(some 4), .mv (.c (.sl .nil [])), none, [], true⟩])
   .ret))) }
theorem tr98 : trF Tryz.prog h98 Tryz.f98 = some i98 := by kernel_rfl

-- (ashlar/ashlarref8.Rule).Sigma
def h99 : List (List Nat) := [[0, 1], [1, 2], [1, 2, 6], [1], [1, 2, 6], [1, 2], [1]]
def i99 : IFn := { nparams := 2, ntmps := 22, results := [.tmp 4], body :=
  (.seq (.reg [0, 1] [⟨(some 2), .box 3 (.s 0), none, [], false⟩,
     ⟨(some 4), .mv (.c (.sl .nil [])), none, [], true⟩])
   (.seq (.seq (.reg [1, 2] [⟨(some 5), .fldA 0 false 1 (.s 2), none, [], false⟩,
     ⟨(some 6), .load false 1 (.s 5), none, [], false⟩])
   (.block 0
    (.seq (.reg [1, 2, 6] [⟨(some 8), .bin .eql .num (.s 6) (.c (.int .i64 1)), none, [], false⟩,
      ⟨(some 7), .mv (.s 8), none, [], true⟩])
    (.cond (.s 7)
     (.seq (.reg [1] [⟨(some 9), .mv (.s 1), none, [], false⟩,
       ⟨(some 10), .call (.c (.fn (.func 35) [] [])) [(.c (.int .i64 1))], none, [], false⟩,
       ⟨(some 11), .call (.c (.fn (.func 142) [] [])) [(.s 9), (.s 10)], none, [], false⟩,
       ⟨(some 4), .mv (.s 11), none, [], true⟩])
     .ret)
     (.seq (.reg [1, 2, 6] [⟨(some 13), .bin .eql .num (.s 6) (.c (.int .i64 3)), none, [], false⟩,
       ⟨(some 12), .mv (.s 13), none, [], true⟩])
     (.cond (.s 12)
      (.seq (.draw [1, 2] [⟨(some 14), .mv (.s 1), none, [], false⟩,
        ⟨(some 15), .call (.c (.fn (.func 35) [] [])) [(.c (.int .i64 0))], none, [], false⟩,
        ⟨(some 16), .fldA 1 true 2 (.s 2), none, [], false⟩,
        ⟨(some 17), .load true 2 (.s 16), none, [2], false⟩,
        ⟨(some 18), .bsl 2 (.agg [(.bool false), (.sl .nil [])]) 2 [(0, (.s 15)), (1, (.s 17))], none, [1, 3], false⟩,
        ⟨(some 19), .call (.c (.fn (.func 49) [] [])) [(.s 18)], none, [4, 1], false⟩,
        ⟨(some 20), .call (.c (.fn (.func 143) [] [])) [(.s 14), (.s 19)], none, [0, 5], false⟩,
        ⟨(some 4), .mv (.s 20), none, [6, 0, 1, 2, 3, 4, 5], true⟩])
      .ret)
      .skip))))))
   (.seq (.reg [1] [⟨(some 21), .mv (.s 1), none, [], false⟩,
     ⟨(some 4), .mv (.s 21), none, [], true⟩])
   .ret))) }
theorem tr99 : trF Tryz.prog h99 Tryz.f99 = some i99 := by kernel_rfl

-- ashlar/ashlarref1.Eq
def h100 : List (List Nat) := [[0, 1], [2, 3], [], [2, 3], [2, 3, 5], [2, 3, 5], [2, 3, 5], [], [2, 3, 5], []]
def i100b0 : ICode :=
  (.seq (.seq (.reg [2, 3, 5] [⟨(some 20), .mv (.s 5), none, [], false⟩,
    ⟨(some 21), .fldA 1 false 1 (.s 2), none, [], false⟩,
    ⟨(some 22), .load false 1 (.s 21), none, [], false⟩,
    ⟨(some 23), .len false (.s 22), none, [], false⟩,
    ⟨(some 24), .bin .lss .num (.s 20) (.s 23), none, [], false⟩])
  (.cond (.s 24)
   .skip
   (.exit 0)))
  (.seq (.block 1
   (.seq (.draw [2, 3, 5] [⟨(some 27), .fldA 1 false 1 (.s 2), none, [], false⟩,
     ⟨(some 28), .load false 1 (.s 27), none, [0], false⟩,
     ⟨(some 29), .mv (.s 5), none, [], false⟩,
     ⟨(some 30), .idxA 1 (.s 28) (.s 29), none, [1, 2], false⟩,
     ⟨(some 31), .load false 1 (.s 30), none, [3], false⟩,
     ⟨(some 32), .fldA 1 false 1 (.s 3), none, [], false⟩,
     ⟨(some 33), .load false 1 (.s 32), none, [5], false⟩,
     ⟨(some 34), .mv (.s 5), none, [], false⟩,
     ⟨(some 35), .idxA 1 (.s 33) (.s 34), none, [6, 7], false⟩,
     ⟨(some 36), .load false 1 (.s 35), none, [8], false⟩,
     ⟨(some 37), .bin .neq .num (.s 31) (.s 36), none, [4, 9], false⟩])
   (.cond (.s 37)
    (.seq (.reg [] [⟨(some 4), .mv (.c (.bool false)), none, [], true⟩])
    .ret)
    .skip)))
  (.reg [2, 3, 5] [⟨(some 25), .mv (.s 5), none, [], false⟩,
    ⟨(some 26), .bin .add .num (.s 25) (.c (.int .i64 1)), none, [], false⟩,
    ⟨(some 5), .mv (.s 26), none, [], true⟩])))
def i100 : IFn := { nparams := 2, ntmps := 38, results := [.tmp 4], body :=
  (.seq (.reg [0, 1] [⟨(some 2), .box 2 (.s 0), none, [], false⟩,
     ⟨(some 3), .box 2 (.s 1), none, [], false⟩,
     ⟨(some 4), .mv (.c (.bool false)), none, [], true⟩])
   (.seq (.seq (.reg [2, 3] [⟨(some 6), .fldA 0 false 1 (.s 2), none, [], false⟩,
     ⟨(some 7), .load false 1 (.s 6), none, [], false⟩,
     ⟨(some 8), .fldA 0 false 1 (.s 3), none, [], false⟩,
     ⟨(some 9), .load false 1 (.s 8), none, [], false⟩,
     ⟨(some 10), .bin .neq .bool (.s 7) (.s 9), none, [], false⟩,
     ⟨(some 11), .mv (.s 10), none, [], false⟩,
     ⟨(some 12), .fldA 1 false 1 (.s 2), (some (11, false)), [], false⟩,
     ⟨(some 13), .load false 1 (.s 12), (some (11, false)), [], false⟩,
     ⟨(some 14), .len false (.s 13), (some (11, false)), [], false⟩,
     ⟨(some 15), .fldA 1 false 1 (.s 3), (some (11, false)), [], false⟩,
     ⟨(some 16), .load false 1 (.s 15), (some (11, false)), [], false⟩,
     ⟨(some 17), .len false (.s 16), (some (11, false)), [], false⟩,
     ⟨(some 18), .bin .neq .num (.s 14) (.s 17), (some (11, false)), [], false⟩,
     ⟨(some 19), .pick (.s 11) (.c (.bool true)) (.s 18), none, [], false⟩])
   (.cond (.s 19)
    (.seq (.reg [] [⟨(some 4), .mv (.c (.bool false)), none, [], true⟩])
    .ret)
    .skip))
   (.seq (.seq (.reg [2, 3] [⟨(some 5), .mv (.c (.int .i64 0)), none, [], true⟩])
   (.block 0
    (.loop [2, 3, 5] i100b0)))
   (.seq (.reg [] [⟨(some 4), .mv (.c (.bool true)), none, [], true⟩])
   .ret)))) }
theorem tr100 : trF Tryz.prog h100 Tryz.f100 = some i100 := by kernel_rfl

-- ashlar/ashlarref1.To
def h101 : List (List Nat) := [[0], [1, 2], [1, 2, 3], [1, 2, 3, 4], [1, 2, 3, 4], [1, 2, 3, 4], [1, 2, 3, 4, 5], [1, 2, 3, 4, 5], [1, 2, 3, 4, 5], [1, 2, 3, 4], [1, 2, 3]]
def i101b0 : ICode :=
  (.seq (.seq (.reg [1, 2, 3, 4] [⟨(some 6), .mv (.s 4), none, [], false⟩,
    ⟨(some 7), .fldA 1 false 1 (.s 1), none, [], false⟩,
    ⟨(some 8), .load false 1 (.s 7), none, [], false⟩,
    ⟨(some 9), .len false (.s 8), none, [], false⟩,
    ⟨(some 10), .bin .lss .num (.s 6) (.s 9), none, [], false⟩])
  (.cond (.s 10)
   .skip
   (.exit 0)))
  (.seq (.block 1
   (.seq (.reg [1, 2, 3, 4] [⟨(some 13), .fldA 1 false 1 (.s 1), none, [], false⟩,
     ⟨(some 14), .load false 1 (.s 13), none, [], false⟩,
     ⟨(some 15), .mv (.s 4), none, [], false⟩,
     ⟨(some 16), .idxA 1 (.s 14) (.s 15), none, [], false⟩,
     ⟨(some 17), .load false 1 (.s 16), none, [], false⟩,
     ⟨(some 18), .conv .u32 (.s 17), none, [], false⟩,
     ⟨(some 5), .mv (.s 18), none, [], true⟩])
   (.seq (.seq (.reg [1, 2, 3, 4, 5] [⟨(some 19), .mv (.s 4), none, [], false⟩,
     ⟨(some 20), .bin .add .num (.s 19) (.c (.int .i64 1)), none, [], false⟩,
     ⟨(some 21), .fldA 1 false 1 (.s 1), none, [], false⟩,
     ⟨(some 22), .load false 1 (.s 21), none, [], false⟩,
     ⟨(some 23), .len false (.s 22), none, [], false⟩,
     ⟨(some 24), .bin .lss .num (.s 20) (.s 23), none, [], false⟩])
   (.cond (.s 24)
    (.reg [1, 2, 3, 4, 5] [⟨(some 25), .mv (.s 5), none, [], false⟩,
      ⟨(some 26), .fldA 1 false 1 (.s 1), none, [], false⟩,
      ⟨(some 27), .load false 1 (.s 26), none, [], false⟩,
      ⟨(some 28), .mv (.s 4), none, [], false⟩,
      ⟨(some 29), .bin .add .num (.s 28) (.c (.int .i64 1)), none, [], false⟩,
      ⟨(some 30), .idxA 1 (.s 27) (.s 29), none, [], false⟩,
      ⟨(some 31), .load false 1 (.s 30), none, [], false⟩,
      ⟨(some 32), .conv .u32 (.s 31), none, [], false⟩,
      ⟨(some 33), .bin .mul .num (.s 32) (.c (.int .u32 65536)), none, [], false⟩,
      ⟨(some 34), .bin .add .num (.s 25) (.s 33), none, [], false⟩,
      ⟨(some 5), .mv (.s 34), none, [], true⟩])
    .skip))
   (.reg [1, 2, 3, 4, 5] [⟨(some 35), .mv (.s 3), none, [], false⟩,
     ⟨(some 36), .mv (.s 5), none, [], false⟩,
     ⟨(some 37), .bsl 1 (.int .u32 0) 1 [(0, (.s 36))], none, [], false⟩,
     ⟨(some 38), .app 1 4 (.s 35) (.s 37), none, [], false⟩,
     ⟨(some 3), .mv (.s 38), none, [], true⟩]))))
  (.reg [1, 2, 3, 4] [⟨(some 11), .mv (.s 4), none, [], false⟩,
    ⟨(some 12), .bin .add .num (.s 11) (.c (.int .i64 2)), none, [], false⟩,
    ⟨(some 4), .mv (.s 12), none, [], true⟩])))
def i101 : IFn := { nparams := 1, ntmps := 43, results := [.cell 2 true 2], body :=
  (.seq (.reg [0] [⟨(some 1), .box 2 (.s 0), none, [], false⟩,
     ⟨(some 2), .alloc 2 (.agg [(.bool false), (.sl .nil [])]), none, [], false⟩])
   (.seq (.reg [1, 2] [⟨(some 3), .mv (.c (.sl .nil [])), none, [], true⟩])
   (.seq (.seq (.reg [1, 2, 3] [⟨(some 4), .mv (.c (.int .i64 0)), none, [], true⟩])
   (.block 0
    (.loop [1, 2, 3, 4] i101b0)))
   (.seq (.reg [1, 2, 3] [⟨(some 39), .fldA 0 false 1 (.s 1), none, [], false⟩,
     ⟨(some 40), .load false 1 (.s 39), none, [], false⟩,
     ⟨(some 41), .mv (.s 3), none, [], false⟩,
     ⟨(some 42), .build [(.bool false), (.sl .nil [])] [(0, 1, (.s 40)), (1, 1, (.s 41))], none, [], false⟩,
     ⟨none, .store 2 (.s 2) (.s 42), none, [], false⟩])
   .ret)))) }
theorem tr101 : trF Tryz.prog h101 Tryz.f101 = some i101 := by kernel_rfl

-- ashlar/ashlarref1.Cmp
def h102 : List (List Nat) := [[0, 1], [2, 3], [2, 3, 5], [2, 3, 5, 6], [5, 6], [], [], [2, 3, 5]]
def i102 : IFn := { nparams := 2, ntmps := 24, results := [.tmp 4], body :=
  (.seq (.reg [0, 1] [⟨(some 2), .box 2 (.s 0), none, [], false⟩,
     ⟨(some 3), .box 2 (.s 1), none, [], false⟩,
     ⟨(some 4), .mv (.c (.int .i64 0)), none, [], true⟩])
   (.seq (.reg [2, 3] [⟨(some 7), .load true 2 (.s 2), none, [], false⟩,
     ⟨(some 8), .call (.c (.fn (.func 96) [] [])) [(.s 7)], none, [], false⟩,
     ⟨(some 5), .mv (.s 8), none, [], true⟩])
   (.seq (.reg [2, 3, 5] [⟨(some 9), .load true 2 (.s 3), none, [], false⟩,
     ⟨(some 10), .call (.c (.fn (.func 96) [] [])) [(.s 9)], none, [], false⟩,
     ⟨(some 6), .mv (.s 10), none, [], true⟩])
   (.seq (.seq (.reg [2, 3, 5, 6] [⟨(some 11), .mv (.s 5), none, [], false⟩,
     ⟨(some 12), .mv (.s 6), none, [], false⟩,
     ⟨(some 13), .bin .neq .num (.s 11) (.s 12), none, [], false⟩])
   (.cond (.s 13)
    (.seq (.seq (.reg [5, 6] [⟨(some 14), .mv (.s 5), none, [], false⟩,
      ⟨(some 15), .mv (.s 6), none, [], false⟩,
      ⟨(some 16), .bin .lss .num (.s 14) (.s 15), none, [], false⟩])
    (.cond (.s 16)
     (.seq (.reg [] [⟨(some 4), .mv (.c (.int .i64 (-1))), none, [], true⟩])
     .ret)
     .skip))
    (.seq (.reg [] [⟨(some 4), .mv (.c (.int .i64 1)), none, [], true⟩])
    .ret))
    .skip))
   (.seq (.reg [2, 3, 5] [⟨(some 17), .mv (.s 5), none, [], false⟩,
     ⟨(some 18), .fldA 1 false 1 (.s 2), none, [], false⟩,
     ⟨(some 19), .load false 1 (.s 18), none, [], false⟩,
     ⟨(some 20), .fldA 1 false 1 (.s 3), none, [], false⟩,
     ⟨(some 21), .load false 1 (.s 20), none, [], false⟩,
     ⟨(some 22), .call (.c (.fn (.func 139) [] [])) [(.s 19), (.s 21)], none, [], false⟩,
     ⟨(some 23), .bin .mul .num (.s 17) (.s 22), none, [], false⟩,
     ⟨(some 4), .mv (.s 23), none, [], true⟩])
   .ret))))) }
theorem tr102 : trF Tryz.prog h102 Tryz.f102 = some i102 := by kernel_rfl

-- ashlar/zore.Times
def h103 : List (List Nat) := [[0, 1, 2], [1, 2, 3], [1, 2, 3, 7], [2, 3, 7, 11, 12, 13], [2, 3, 7, 11, 12, 13], [2, 3, 7, 11, 12, 13], [2, 3, 7, 8, 9, 11, 12, 13], [2, 3, 7, 9, 11, 12, 13], [2, 3, 7, 9, 11, 12, 13], [2, 3, 7, 11, 12, 13], [7]]
def i103b0 : ICode :=
  (.seq (.reg [2, 3, 7, 11, 12, 13] [⟨(some 14), .bin .lss .num (.s 13) (.s 12), none, [], false⟩])
  (.seq (.cond (.s 14)
   .skip
   (.exit 0))
  (.seq (.block 1
   (.seq (.reg [2, 3, 7, 11, 12, 13] [⟨(some 15), .mv (.s 13), none, [], false⟩,
     ⟨(some 16), .idxA 1 (.s 11) (.s 13), none, [], false⟩,
     ⟨(some 17), .load false 1 (.s 16), none, [], false⟩,
     ⟨(some 8), .mv (.s 15), none, [], true⟩,
     ⟨(some 9), .mv (.s 17), none, [], true⟩])
   (.seq (.seq (.reg [2, 3, 7, 8, 9, 11, 12, 13] [⟨(some 18), .mv (.s 8), none, [], false⟩,
     ⟨(some 19), .bin .gtr .num (.s 18) (.c (.int .i64 0)), none, [], false⟩])
   (.cond (.s 19)
    (.reg [2, 3, 7, 9, 11, 12, 13] [⟨(some 20), .load true 2 (.s 3), none, [], false⟩,
      ⟨(some 21), .mv (.s 2), none, [], false⟩,
      ⟨(some 22), .call (.c (.fn (.func 82) [] [])) [(.s 20), (.s 21), (.c (.int .i64 1))], none, [], false⟩,
      ⟨(some 2), .mv (.s 22), none, [], true⟩])
    .skip))
   (.reg [2, 3, 7, 9, 11, 12, 13] [⟨(some 23), .mv (.s 7), none, [], false⟩,
     ⟨(some 24), .mv (.s 9), none, [], false⟩,
     ⟨(some 25), .mv (.s 2), none, [], false⟩,
     ⟨(some 26), .call (.c (.fn (.func 87) [] [])) [(.s 24), (.s 25)], none, [], false⟩,
     ⟨(some 27), .call (.c (.fn (.func 86) [] [])) [(.s 23), (.s 26)], none, [], false⟩,
     ⟨(some 7), .mv (.s 27), none, [], true⟩]))))
  (.reg [2, 3, 7, 11, 12, 13] [⟨(some 28), .bin .add .num (.s 13) (.c (.int .i64 1)), none, [], false⟩,
    ⟨(some 13), .mv (.s 28), none, [], false⟩]))))
def i103 : IFn := { nparams := 3, ntmps := 30, results := [.tmp 6], body :=
  (.seq (.reg [0, 1, 2] [⟨(some 3), .box 2 (.s 0), none, [], false⟩,
     ⟨(some 6), .mv (.c (.sl .nil [])), none, [], true⟩])
   (.seq (.reg [1, 2, 3] [⟨(some 7), .mv (.c (.sl .nil [])), none, [], true⟩])
   (.seq (.seq (.reg [1, 2, 3, 7] [⟨(some 10), .mv (.s 1), none, [], false⟩,
     ⟨(some 11), .call (.c (.fn (.func 81) [] [])) [(.s 10)], none, [], false⟩,
     ⟨(some 12), .len false (.s 11), none, [], false⟩,
     ⟨(some 13), .mv (.c (.int .i64 0)), none, [], false⟩])
   (.block 0
    (.loop [2, 3, 7, 11, 12, 13] i103b0)))
   (.seq (.reg [7] [⟨(some 29), .mv (.s 7), none, [], false⟩,
     ⟨(some 6), .mv (.s 29), none, [], true⟩])
   .ret)))) }
theorem tr103 : trF Tryz.prog h103 Tryz.f103 = some i103 := by kernel_rfl

-- (ashlar/zore.Line).thin
def h104 : List (List Nat) := [[0], [1, 2], [1, 2, 3], [1, 2, 4]]
def i104 : IFn := { nparams := 1, ntmps := 30, results := [.cell 2 true 3], body :=
  (.seq (.reg [0] [⟨(some 1), .box 3 (.s 0), none, [], false⟩,
     ⟨(some 2), .alloc 3 (.agg [(.sl .nil []), (.sl .nil []), (.sl .nil [])]), none, [], false⟩])
   (.seq (.draw [1, 2] [⟨(some 5), .fldA 0 false 1 (.s 1), none, [], false⟩,
     ⟨(some 6), .load false 1 (.s 5), none, [0], false⟩,
     ⟨(some 7), .call (.c (.fn (.func 61) [] [])) [(.s 6)], none, [1], false⟩,
     ⟨(some 8), .fldA 1 false 1 (.s 1), none, [], false⟩,
     ⟨(some 9), .load false 1 (.s 8), none, [3], false⟩,
     ⟨(some 10), .call (.c (.fn (.func 61) [] [])) [(.s 9)], none, [4, 2], false⟩,
     ⟨(some 11), .call (.c (.fn (.func 83) [] [])) [(.s 7), (.s 10)], none, [2, 5], false⟩,
     ⟨(some 12), .fldA 2 false 1 (.s 1), none, [], false⟩,
     ⟨(some 13), .load false 1 (.s 12), none, [7], false⟩,
     ⟨(some 14), .call (.c (.fn (.func 61) [] [])) [(.s 13)], none, [8, 6], false⟩,
     ⟨(some 15), .call (.c (.fn (.func 83) [] [])) [(.s 11), (.s 14)], none, [6, 9], false⟩,
     ⟨(some 3), .alloc 1 (.sl .nil []), none, [], false⟩,
     ⟨none, .store 1 (.s 3) (.s 15), none, [11, 10, 0, 1, 2, 3, 4, 5, 6, 7, 8, 9], false⟩])
   (.seq (.reg [1, 2, 3] [⟨(some 16), .mkfn (.func 144) [] [(.s 3)], none, [], false⟩,
     ⟨(some 4), .mv (.s 16), none, [], true⟩])
   (.seq (.draw [1, 2, 4] [⟨(some 17), .fldA 0 false 1 (.s 1), none, [], false⟩,
     ⟨(some 18), .load false 1 (.s 17), none, [0], false⟩,
     ⟨(some 19), .mv (.s 4), none, [], false⟩,
     ⟨(some 20), .call (.c (.fn (.func 108) [] [])) [(.s 18), (.s 19)], none, [1, 2], false⟩,
     ⟨(some 21), .fldA 1 false 1 (.s 1), none, [], false⟩,
     ⟨(some 22), .load false 1 (.s 21), none, [4], false⟩,
     ⟨(some 23), .mv (.s 4), none, [], false⟩,
     ⟨(some 24), .call (.c (.fn (.func 108) [] [])) [(.s 22), (.s 23)], none, [5, 6, 3], false⟩,
     ⟨(some 25), .fldA 2 false 1 (.s 1), none, [], false⟩,
     ⟨(some 26), .load false 1 (.s 25), none, [8], false⟩,
     ⟨(some 27), .mv (.s 4), none, [], false⟩,
     ⟨(some 28), .call (.c (.fn (.func 108) [] [])) [(.s 26), (.s 27)], none, [9, 10, 7], false⟩,
     ⟨(some 29), .build [(.sl .nil []), (.sl .nil []), (.sl .nil [])] [(0, 1, (.s 20)), (1, 1, (.s 24)), (2, 1, (.s 28))], none, [3, 7, 11], false⟩,
     ⟨none, .store 3 (.s 2) (.s 29), none, [12, 11, 0, 1, 2, 3, 4, 5, 6, 7, 8, 9, 10], false⟩])
   .ret)))) }
theorem tr104 : trF Tryz.prog h104 Tryz.f104 = some i104 := by kernel_rfl

-- ashlar/upoly.Lead
def h105 : List (List Nat) := [[0], [0, 2], [0, 2], [0, 2], [2]]
def i105 : IFn := { nparams := 1, ntmps := 16, results := [.cell 2 true 2], body :=
  (.seq (.reg [0] [⟨(some 2), .alloc 2 (.agg [(.bool false), (.sl .nil [])]), none, [], false⟩])
   (.seq (.seq (.reg [0, 2] [⟨(some 3), .mv (.s 0), none, [], false⟩,
     ⟨(some 4), .call (.c (.fn (.func 122) [] [])) [(.s 3)], none, [], false⟩,
     ⟨(some 0), .mv (.s 4), none, [], true⟩])
   (.seq (.reg [0, 2] [⟨(some 5), .mv (.s 0), none, [], false⟩,
     ⟨(some 6), .len false (.s 5), none, [], false⟩,
     ⟨(some 7), .bin .gtr .num (.s 6) (.c (.int .i64 0)), none, [], false⟩])
   (.cond (.s 7)
    (.seq (.reg [0, 2] [⟨(some 8), .mv (.s 0), none, [], false⟩,
      ⟨(some 9), .mv (.s 0), none, [], false⟩,
      ⟨(some 10), .len false (.s 9), none, [], false⟩,
      ⟨(some 11), .bin .sub .num (.s 10) (.c (.int .i64 1)), none, [], false⟩,
      ⟨(some 12), .idxA 2 (.s 8) (.s 11), none, [], false⟩,
      ⟨(some 13), .load true 2 (.s 12), none, [], false⟩,
      ⟨(some 14), .call (.c (.fn (.func 145) [] [])) [(.s 13)], none, [], false⟩,
      ⟨none, .store 2 (.s 2) (.s 14), none, [], false⟩])
    .ret)
    .skip)))
   (.seq (.reg [2] [⟨(some 15), .build [(.bool false), (.sl .nil [])] [], none, [], false⟩,
     ⟨none, .store 2 (.s 2) (.s 15), none, [], false⟩])
   .ret))) }
theorem tr105 : trF Tryz.prog h105 Tryz.f105 = some i105 := by kernel_rfl

-- ashlar/upoly.Scale
def h106 : List (List Nat) := [[0, 1], [0, 3]]
def i106 : IFn := { nparams := 2, ntmps := 10, results := [.tmp 4], body :=
  (.seq (.reg [0, 1] [⟨(some 3), .box 2 (.s 1), none, [], false⟩,
     ⟨(some 4), .mv (.c (.sl .nil [])), none, [], true⟩])
   (.seq (.reg [0, 3] [⟨(some 5), .mv (.s 0), none, [], false⟩,
     ⟨(some 6), .load true 2 (.s 3), none, [], false⟩,
     ⟨(some 7), .build [(.bool false), (.sl .nil [])] [(0, 2, (.s 6))], none, [], false⟩,
     ⟨(some 8), .mkfn (.func 147) [(.s 7)] [], none, [], false⟩,
     ⟨(some 9), .call (.c (.fn (.func 146) [] [])) [(.s 5), (.s 8)], none, [], false⟩,
     ⟨(some 4), .mv (.s 9), none, [], true⟩])
   .ret)) }
theorem tr106 : trF Tryz.prog h106 Tryz.f106 = some i106 := by kernel_rfl

-- ashlar/limbs.Of
def h107 : List (List Nat) := [[0], [0, 2], [0, 2, 3], [0, 2, 3], [0, 2, 3]]
def i107 : IFn := { nparams := 1, ntmps := 19, results := [.cell 2 true 2], body :=
  (.seq (.reg [0] [⟨(some 2), .alloc 2 (.agg [(.bool false), (.sl .nil [])]), none, [], false⟩])
   (.seq (.reg [0, 2] [⟨(some 4), .mv (.s 0), none, [], false⟩,
     ⟨(some 5), .conv .u64 (.s 4), none, [], false⟩,
     ⟨(some 3), .mv (.s 5), none, [], true⟩])
   (.seq (.seq (.reg [0, 2, 3] [⟨(some 6), .mv (.s 0), none, [], false⟩,
     ⟨(some 7), .bin .lss .num (.s 6) (.c (.int .i64 0)), none, [], false⟩])
   (.cond (.s 7)
    (.reg [0, 2, 3] [⟨(some 8), .mv (.s 3), none, [], false⟩,
      ⟨(some 9), .un .neg (.s 8), none, [], false⟩,
      ⟨(some 3), .mv (.s 9), none, [], true⟩])
    .skip))
   (.seq (.reg [0, 2, 3] [⟨(some 10), .mv (.s 0), none, [], false⟩,
     ⟨(some 11), .bin .lss .num (.s 10) (.c (.int .i64 0)), none, [], false⟩,
     ⟨(some 12), .mv (.s 3), none, [], false⟩,
     ⟨(some 13), .conv .u32 (.s 12), none, [], false⟩,
     ⟨(some 14), .mv (.s 3), none, [], false⟩,
     ⟨(some 15), .bin .shr .num (.s 14) (.c (.int .u64 32)), none, [], false⟩,
     ⟨(some 16), .conv .u32 (.s 15), none, [], false⟩,
     ⟨(some 17), .bsl 1 (.int .u32 0) 2 [(0, (.s 13)), (1, (.s 16))], none, [], false⟩,
     ⟨(some 18), .call (.c (.fn (.func 148) [] [])) [(.s 11), (.s 17)], none, [], false⟩,
     ⟨none, .store 2 (.s 2) (.s 18), none, [], false⟩])
   .ret)))) }
theorem tr107 : trF Tryz.prog h107 Tryz.f107 = some i107 := by kernel_rfl

-- ashlar/ore.Each
def h108 : List (List Nat) := [[0, 1], [0, 1], [0, 1], [0, 1, 5], [1, 5, 13, 14, 15], [1, 5, 13, 14, 15], [1, 5, 13, 14, 15], [1, 5, 6, 7, 13, 14, 15], [1, 5, 6, 13, 14, 15], [1, 5, 6, 13, 14, 15], [1, 5, 13, 14, 15], [5]]
def i108b0 : ICode :=
  (.seq (.reg [1, 5, 13, 14, 15] [⟨(some 16), .bin .lss .num (.s 15) (.s 14), none, [], false⟩])
  (.seq (.cond (.s 16)
   .skip
   (.exit 0))
  (.seq (.block 1
   (.seq (.reg [1, 5, 13, 14, 15] [⟨(some 17), .mv (.s 15), none, [], false⟩,
     ⟨(some 18), .idxA 1 (.s 13) (.s 15), none, [], false⟩,
     ⟨(some 19), .load false 1 (.s 18), none, [], false⟩,
     ⟨(some 6), .mv (.s 17), none, [], true⟩,
     ⟨(some 7), .mv (.s 19), none, [], true⟩])
   (.seq (.reg [1, 5, 6, 7, 13, 14, 15] [⟨(some 20), .mv (.s 5), none, [], false⟩,
     ⟨(some 21), .mv (.s 6), none, [], false⟩,
     ⟨(some 22), .mv (.s 7), none, [], false⟩,
     ⟨(some 23), .call (.c (.fn (.func 110) [] [])) [(.s 22)], none, [], false⟩,
     ⟨(some 24), .idxA 1 (.s 20) (.s 21), none, [], false⟩,
     ⟨none, .store 1 (.s 24) (.s 23), none, [], false⟩])
   (.seq (.reg [1, 5, 6, 13, 14, 15] [⟨(some 25), .mv (.s 1), none, [], false⟩,
     ⟨(some 26), .bin .neq .fn (.s 25) (.c .nilFn), none, [], false⟩])
   (.cond (.s 26)
    (.reg [1, 5, 6, 13, 14, 15] [⟨(some 27), .mv (.s 5), none, [], false⟩,
      ⟨(some 28), .mv (.s 6), none, [], false⟩,
      ⟨(some 29), .mv (.s 1), none, [], false⟩,
      ⟨(some 30), .mv (.s 5), none, [], false⟩,
      ⟨(some 31), .mv (.s 6), none, [], false⟩,
      ⟨(some 32), .idxA 1 (.s 30) (.s 31), none, [], false⟩,
      ⟨(some 33), .load false 1 (.s 32), none, [], false⟩,
      ⟨(some 34), .call (.s 29) [(.s 33)], none, [], false⟩,
      ⟨(some 35), .call (.c (.fn (.func 110) [] [])) [(.s 34)], none, [], false⟩,
      ⟨(some 36), .idxA 1 (.s 27) (.s 28), none, [], false⟩,
      ⟨none, .store 1 (.s 36) (.s 35), none, [], false⟩])
    .skip)))))
  (.reg [1, 5, 13, 14, 15] [⟨(some 37), .bin .add .num (.s 15) (.c (.int .i64 1)), none, [], false⟩,
    ⟨(some 15), .mv (.s 37), none, [], false⟩]))))
def i108 : IFn := { nparams := 2, ntmps := 40, results := [.tmp 4], body :=
  (.seq (.reg [0, 1] [⟨(some 4), .mv (.c (.sl .nil [])), none, [], true⟩])
   (.seq (.reg [0, 1] [⟨(some 8), .mv (.s 0), none, [], false⟩,
     ⟨(some 9), .call (.c (.fn (.func 74) [] [])) [(.s 8)], none, [], false⟩,
     ⟨(some 0), .mv (.s 9), none, [], true⟩])
   (.seq (.reg [0, 1] [⟨(some 10), .mv (.s 0), none, [], false⟩,
     ⟨(some 11), .len false (.s 10), none, [], false⟩,
     ⟨(some 12), .mksl 1 24 (.sl .nil []) (.s 11) (.s 11), none, [], false⟩,
     ⟨(some 5), .mv (.s 12), none, [], true⟩])
   (.seq (.seq (.reg [0, 1, 5] [⟨(some 13), .mv (.s 0), none, [], false⟩,
     ⟨(some 14), .len false (.s 13), none, [], false⟩,
     ⟨(some 15), .mv (.c (.int .i64 0)), none, [], false⟩])
   (.block 0
    (.loop [1, 5, 13, 14, 15] i108b0)))
   (.seq (.reg [5] [⟨(some 38), .mv (.s 5), none, [], false⟩,
     ⟨(some 39), .call (.c (.fn (.func 74) [] [])) [(.s 38)], none, [], false⟩,
     ⟨(some 4), .mv (.s 39), none, [], true⟩])
   .ret))))) }
theorem tr108 : trF Tryz.prog h108 Tryz.f108 = some i108 := by kernel_rfl

-- (ashlar/ore.divisor).of
def h109 : List (List Nat) := [[0, 1], [1, 2], [5]]
def i109 : IFn := { nparams := 2, ntmps := 15, results := [.tmp 4], body :=
  (.seq (.reg [0, 1] [⟨(some 2), .box 1 (.s 0), none, [], false⟩,
     ⟨(some 4), .mv (.c (.sl .nil [])), none, [], true⟩])
   (.seq (.reg [1, 2] [⟨(some 8), .mv (.s 1), none, [], false⟩,
     ⟨(some 9), .fldA 0 false 1 (.s 2), none, [], false⟩,
     ⟨(some 10), .load false 1 (.s 9), none, [], false⟩,
     ⟨(some 11), .call (.c (.fn (.func 127) [] [])) [(.s 8), (.s 10)], none, [], false⟩,
     ⟨(some 7), .mv (.s 11), none, [], false⟩,
     ⟨(some 12), .extr (.s 7) 0, none, [], false⟩,
     ⟨(some 13), .extr (.s 7) 1, none, [], false⟩,
     ⟨(some 5), .mv (.s 12), none, [], true⟩,
     ⟨(some 6), .mv (.s 13), none, [], true⟩])
   (.seq (.reg [5] [⟨(some 14), .mv (.s 5), none, [], false⟩,
     ⟨(some 4), .mv (.s 14), none, [], true⟩])
   .ret))) }
theorem tr109 : trF Tryz.prog h109 Tryz.f109 = some i109 := by kernel_rfl

-- ashlar/upoly.Norm
def h110 : List (List Nat) := [[0], [0]]
def i110 : IFn := { nparams := 1, ntmps := 5, results := [.tmp 2], body :=
  (.seq (.reg [0] [⟨(some 2), .mv (.c (.sl .nil [])), none, [], true⟩])
   (.seq (.reg [0] [⟨(some 3), .mv (.s 0), none, [], false⟩,
     ⟨(some 4), .call (.c (.fn (.func 146) [] [])) [(.s 3), (.c (.fn (.func 145) [] []))], none, [], false⟩,
     ⟨(some 2), .mv (.s 4), none, [], true⟩])
   .ret)) }
theorem tr110 : trF Tryz.prog h110 Tryz.f110 = some i110 := by kernel_rfl

-- ashlar/ashlarref3.Gcd
def h111 : List (List Nat) := [[0, 1], [0, 1], [0, 1, 5], [5, 6, 7], [5, 6, 7], [5, 6, 7], [5, 7, 9], [5, 6]]
def i111b0 : ICode :=
  (.seq (.seq (.reg [5, 6, 7] [⟨(some 19), .mv (.s 7), none, [], false⟩,
    ⟨(some 20), .len false (.s 19), none, [], false⟩,
    ⟨(some 21), .bin .gtr .num (.s 20) (.c (.int .i64 0)), none, [], false⟩])
  (.cond (.s 21)
   .skip
   (.exit 0)))
  (.block 1
   (.seq (.reg [5, 6, 7] [⟨(some 23), .mv (.s 6), none, [], false⟩,
     ⟨(some 24), .mv (.s 7), none, [], false⟩,
     ⟨(some 25), .call (.c (.fn (.func 152) [] [])) [(.s 23), (.s 24)], none, [], false⟩,
     ⟨(some 22), .mv (.s 25), none, [], false⟩,
     ⟨(some 26), .extr (.s 22) 0, none, [], false⟩,
     ⟨(some 27), .extr (.s 22) 1, none, [], false⟩,
     ⟨(some 8), .mv (.s 26), none, [], true⟩,
     ⟨(some 9), .mv (.s 27), none, [], true⟩])
   (.reg [5, 7, 9] [⟨(some 28), .mv (.s 7), none, [], false⟩,
     ⟨(some 29), .mv (.s 9), none, [], false⟩,
     ⟨(some 30), .call (.c (.fn (.func 151) [] [])) [(.s 29)], none, [], false⟩,
     ⟨(some 6), .mv (.s 28), none, [], true⟩,
     ⟨(some 7), .mv (.s 30), none, [], true⟩]))))
def i111 : IFn := { nparams := 2, ntmps := 34, results := [.tmp 4], body :=
  (.seq (.reg [0, 1] [⟨(some 4), .mv (.c (.sl .nil [])), none, [], true⟩])
   (.seq (.reg [0, 1] [⟨(some 10), .mv (.s 0), none, [], false⟩,
     ⟨(some 11), .call (.c (.fn (.func 150) [] [])) [(.s 10)], none, [], false⟩,
     ⟨(some 12), .mv (.s 1), none, [], false⟩,
     ⟨(some 13), .call (.c (.fn (.func 150) [] [])) [(.s 12)], none, [], false⟩,
     ⟨(some 14), .call (.c (.fn (.func 149) [] [])) [(.s 11), (.s 13)], none, [], false⟩,
     ⟨(some 5), .alloc 2 (.agg [(.bool false), (.sl .nil [])]), none, [], false⟩,
     ⟨none, .store 2 (.s 5) (.s 14), none, [], false⟩])
   (.seq (.reg [0, 1, 5] [⟨(some 15), .mv (.s 0), none, [], false⟩,
     ⟨(some 16), .call (.c (.fn (.func 151) [] [])) [(.s 15)], none, [], false⟩,
     ⟨(some 17), .mv (.s 1), none, [], false⟩,
     ⟨(some 18), .call (.c (.fn (.func 151) [] [])) [(.s 17)], none, [], false⟩,
     ⟨(some 6), .mv (.s 16), none, [], true⟩,
     ⟨(some 7), .mv (.s 18), none, [], true⟩])
   (.seq (.block 0
    (.loop [5, 6, 7] i111b0))
   (.seq (.reg [5, 6] [⟨(some 31), .mv (.s 6), none, [], false⟩,
     ⟨(some 32), .load true 2 (.s 5), none, [], false⟩,
     ⟨(some 33), .call (.c (.fn (.func 153) [] [])) [(.s 31), (.s 32)], none, [], false⟩,
     ⟨(some 4), .mv (.s 33), none, [], true⟩])
   .ret))))) }
theorem tr111 : trF Tryz.prog h111 Tryz.f111 = some i111 := by kernel_rfl

-- ashlar/ashlarref3.Deg
def h112 : List (List Nat) := [[0], [0]]
def i112 : IFn := { nparams := 1, ntmps := 6, results := [.tmp 2], body :=
  (.seq (.reg [0] [⟨(some 2), .mv (.c (.int .i64 0)), none, [], true⟩])
   (.seq (.reg [0] [⟨(some 3), .mv (.s 0), none, [], false⟩,
     ⟨(some 4), .len false (.s 3), none, [], false⟩,
     ⟨(some 5), .bin .sub .num (.s 4) (.c (.int .i64 1)), none, [], false⟩,
     ⟨(some 2), .mv (.s 5), none, [], true⟩])
   .ret)) }
theorem tr112 : trF Tryz.prog h112 Tryz.f112 = some i112 := by kernel_rfl

-- ashlar/ashlarref1.Quo
def h113 : List (List Nat) := [[0, 1], [2, 3, 4, 5], [2, 3, 4, 5, 6, 7], [2, 3, 4, 5, 7, 8], [3, 4, 5, 8, 9], [3, 4, 5, 8, 9], [3, 4, 5, 8, 9], [3, 4, 5, 8, 9], [4, 5, 8, 9]]
def i113 : IFn := { nparams := 2, ntmps := 47, results := [.cell 4 true 2, .cell 5 true 2], body :=
  (.seq (.reg [0, 1] [⟨(some 2), .box 2 (.s 0), none, [], false⟩,
     ⟨(some 3), .box 2 (.s 1), none, [], false⟩,
     ⟨(some 4), .alloc 2 (.agg [(.bool false), (.sl .nil [])]), none, [], false⟩,
     ⟨(some 5), .alloc 2 (.agg [(.bool false), (.sl .nil [])]), none, [], false⟩])
   (.seq (.reg [2, 3, 4, 5] [⟨(some 11), .fldA 1 false 1 (.s 2), none, [], false⟩,
     ⟨(some 12), .load false 1 (.s 11), none, [], false⟩,
     ⟨(some 13), .fldA 1 false 1 (.s 3), none, [], false⟩,
     ⟨(some 14), .load false 1 (.s 13), none, [], false⟩,
     ⟨(some 15), .call (.c (.fn (.func 154) [] [])) [(.s 12), (.s 14)], none, [], false⟩,
     ⟨(some 10), .mv (.s 15), none, [], false⟩,
     ⟨(some 16), .extr (.s 10) 0, none, [], false⟩,
     ⟨(some 17), .extr (.s 10) 1, none, [], false⟩,
     ⟨(some 6), .mv (.s 16), none, [], true⟩,
     ⟨(some 7), .mv (.s 17), none, [], true⟩])
   (.seq (.reg [2, 3, 4, 5, 6, 7] [⟨(some 18), .fldA 0 false 1 (.s 2), none, [], false⟩,
     ⟨(some 19), .load false 1 (.s 18), none, [], false⟩,
     ⟨(some 20), .fldA 0 false 1 (.s 3), none, [], false⟩,
     ⟨(some 21), .load false 1 (.s 20), none, [], false⟩,
     ⟨(some 22), .bin .neq .bool (.s 19) (.s 21), none, [], false⟩,
     ⟨(some 23), .mv (.s 6), none, [], false⟩,
     ⟨(some 24), .call (.c (.fn (.func 72) [] [])) [(.s 22), (.s 23)], none, [], false⟩,
     ⟨(some 8), .alloc 2 (.agg [(.bool false), (.sl .nil [])]), none, [], false⟩,
     ⟨none, .store 2 (.s 8) (.s 24), none, [], false⟩])
   (.seq (.reg [2, 3, 4, 5, 7, 8] [⟨(some 25), .fldA 0 false 1 (.s 2), none, [], false⟩,
     ⟨(some 26), .load false 1 (.s 25), none, [], false⟩,
     ⟨(some 27), .mv (.s 7), none, [], false⟩,
     ⟨(some 28), .call (.c (.fn (.func 72) [] [])) [(.s 26), (.s 27)], none, [], false⟩,
     ⟨(some 9), .alloc 2 (.agg [(.bool false), (.sl .nil [])]), none, [], false⟩,
     ⟨none, .store 2 (.s 9) (.s 28), none, [], false⟩])
   (.seq (.seq (.reg [3, 4, 5, 8, 9] [⟨(some 29), .fldA 0 false 1 (.s 9), none, [], false⟩,
     ⟨(some 30), .load false 1 (.s 29), none, [], false⟩])
   (.cond (.s 30)
    (.seq (.seq (.reg [3, 4, 5, 8, 9] [⟨(some 31), .fldA 0 false 1 (.s 3), none, [], false⟩,
      ⟨(some 32), .load false 1 (.s 31), none, [], false⟩])
    (.cond (.s 32)
     (.seq (.draw [3, 4, 5, 8, 9] [⟨(some 33), .load true 2 (.s 8), none, [], false⟩,
       ⟨(some 34), .call (.c (.fn (.func 35) [] [])) [(.c (.int .i64 1))], none, [], false⟩,
       ⟨(some 35), .call (.c (.fn (.func 94) [] [])) [(.s 33), (.s 34)], none, [0, 1], false⟩,
       ⟨(some 36), .load true 2 (.s 9), none, [], false⟩,
       ⟨(some 37), .load true 2 (.s 3), none, [], false⟩,
       ⟨(some 38), .call (.c (.fn (.func 155) [] [])) [(.s 36), (.s 37)], none, [3, 4, 2], false⟩,
       ⟨none, .store 2 (.s 4) (.s 35), none, [2, 5, 0, 1], false⟩,
       ⟨none, .store 2 (.s 5) (.s 38), none, [5, 6, 0, 1, 2, 3, 4], false⟩])
     .ret)
     .skip))
    (.seq (.draw [3, 4, 5, 8, 9] [⟨(some 39), .load true 2 (.s 8), none, [], false⟩,
      ⟨(some 40), .call (.c (.fn (.func 35) [] [])) [(.c (.int .i64 1))], none, [], false⟩,
      ⟨(some 41), .call (.c (.fn (.func 155) [] [])) [(.s 39), (.s 40)], none, [0, 1], false⟩,
      ⟨(some 42), .load true 2 (.s 9), none, [], false⟩,
      ⟨(some 43), .load true 2 (.s 3), none, [], false⟩,
      ⟨(some 44), .call (.c (.fn (.func 94) [] [])) [(.s 42), (.s 43)], none, [3, 4, 2], false⟩,
      ⟨none, .store 2 (.s 4) (.s 41), none, [2, 5, 0, 1], false⟩,
      ⟨none, .store 2 (.s 5) (.s 44), none, [5, 6, 0, 1, 2, 3, 4], false⟩])
    .ret))
    .skip))
   (.seq (.draw [4, 5, 8, 9] [⟨(some 45), .load true 2 (.s 8), none, [], false⟩,
     ⟨(some 46), .load true 2 (.s 9), none, [], false⟩,
     ⟨none, .store 2 (.s 4) (.s 45), none, [0], false⟩,
     ⟨none, .store 2 (.s 5) (.s 46), none, [1, 2, 0], false⟩])
   .ret)))))) }
theorem tr113 : trF Tryz.prog h113 Tryz.f113 = some i113 := by kernel_rfl

-- ashlar/ashlarref3.Sub
def h114 : List (List Nat) := [[0, 1], [0, 1]]
def i114 : IFn := { nparams := 2, ntmps := 10, results := [.tmp 4], body :=
  (.seq (.reg [0, 1] [⟨(some 4), .mv (.c (.sl .nil [])), none, [], true⟩])
   (.seq (.reg [0, 1] [⟨(some 5), .mv (.s 0), none, [], false⟩,
     ⟨(some 6), .mv (.s 1), none, [], false⟩,
     ⟨(some 7), .call (.c (.fn (.func 35) [] [])) [(.c (.int .i64 (-1)))], none, [], false⟩,
     ⟨(some 8), .call (.c (.fn (.func 153) [] [])) [(.s 6), (.s 7)], none, [], false⟩,
     ⟨(some 9), .call (.c (.fn (.func 50) [] [])) [(.s 5), (.s 8)], none, [], false⟩,
     ⟨(some 4), .mv (.s 9), none, [], true⟩])
   .ret)) }
theorem tr114 : trF Tryz.prog h114 Tryz.f114 = some i114 := by kernel_rfl

-- ashlar/limbs.mag
def h115 : List (List Nat) := [[0], [1]]
def i115 : IFn := { nparams := 1, ntmps := 6, results := [.tmp 2], body :=
  (.seq (.reg [0] [⟨(some 1), .box 2 (.s 0), none, [], false⟩,
     ⟨(some 2), .mv (.c (.sl .nil [])), none, [], true⟩])
   (.seq (.reg [1] [⟨(some 3), .fldA 1 false 1 (.s 1), none, [], false⟩,
     ⟨(some 4), .load false 1 (.s 3), none, [], false⟩,
     ⟨(some 5), .call (.c (.fn (.func 156) [] [])) [(.s 4)], none, [], false⟩,
     ⟨(some 2), .mv (.s 5), none, [], true⟩])
   .ret)) }
theorem tr115 : trF Tryz.prog h115 Tryz.f115 = some i115 := by kernel_rfl

-- ashlar/limbs.sum
def h116 : List (List Nat) := [[0, 1, 2], [2, 3, 4, 6], [2, 3, 4, 6, 7, 8], [6, 7, 8, 9, 10], [6, 7, 8, 9], [6, 7, 8, 9, 10], [6, 7, 8, 9], [6, 7, 8, 10]]
def i116 : IFn := { nparams := 3, ntmps := 45, results := [.cell 6 true 2], body :=
  (.seq (.reg [0, 1, 2] [⟨(some 3), .box 2 (.s 0), none, [], false⟩,
     ⟨(some 4), .box 2 (.s 1), none, [], false⟩,
     ⟨(some 6), .alloc 2 (.agg [(.bool false), (.sl .nil [])]), none, [], false⟩])
   (.seq (.draw [2, 3, 4, 6] [⟨(some 11), .load true 2 (.s 3), none, [], false⟩,
     ⟨(some 12), .call (.c (.fn (.func 115) [] [])) [(.s 11)], none, [0], false⟩,
     ⟨(some 13), .load true 2 (.s 4), none, [], false⟩,
     ⟨(some 14), .call (.c (.fn (.func 115) [] [])) [(.s 13)], none, [2, 1], false⟩,
     ⟨(some 7), .mv (.s 12), none, [1, 3, 0], true⟩,
     ⟨(some 8), .mv (.s 14), none, [3, 4, 0, 1, 2], true⟩])
   (.seq (.draw [2, 3, 4, 6, 7, 8] [⟨(some 15), .load true 2 (.s 3), none, [], false⟩,
     ⟨(some 16), .call (.c (.fn (.func 157) [] [])) [(.s 15)], none, [0], false⟩,
     ⟨(some 17), .load true 2 (.s 4), none, [], false⟩,
     ⟨(some 18), .call (.c (.fn (.func 157) [] [])) [(.s 17)], none, [2, 1], false⟩,
     ⟨(some 19), .mv (.s 2), none, [], false⟩,
     ⟨(some 20), .bin .neq .bool (.s 18) (.s 19), none, [3, 4], false⟩,
     ⟨(some 9), .mv (.s 16), none, [1, 3, 0], true⟩,
     ⟨(some 10), .mv (.s 20), none, [5, 6, 0, 1, 2, 3, 4], true⟩])
   (.seq (.block 0
    (.seq (.reg [6, 7, 8, 9, 10] [⟨(some 22), .mv (.s 9), none, [], false⟩,
      ⟨(some 23), .mv (.s 10), none, [], false⟩,
      ⟨(some 24), .bin .eql .bool (.s 22) (.s 23), none, [], false⟩,
      ⟨(some 21), .mv (.s 24), none, [], true⟩])
    (.cond (.s 21)
     (.seq (.reg [6, 7, 8, 9] [⟨(some 25), .mv (.s 9), none, [], false⟩,
       ⟨(some 26), .mv (.s 7), none, [], false⟩,
       ⟨(some 27), .mv (.s 8), none, [], false⟩,
       ⟨(some 28), .call (.c (.fn (.func 158) [] [])) [(.s 26), (.s 27)], none, [], false⟩,
       ⟨(some 29), .call (.c (.fn (.func 148) [] [])) [(.s 25), (.s 28)], none, [], false⟩,
       ⟨none, .store 2 (.s 6) (.s 29), none, [], false⟩])
     .ret)
     (.seq (.reg [6, 7, 8, 9, 10] [⟨(some 31), .mv (.s 7), none, [], false⟩,
       ⟨(some 32), .mv (.s 8), none, [], false⟩,
       ⟨(some 33), .call (.c (.fn (.func 159) [] [])) [(.s 31), (.s 32)], none, [], false⟩,
       ⟨(some 34), .bin .geq .num (.s 33) (.c (.int .i64 0)), none, [], false⟩,
       ⟨(some 30), .mv (.s 34), none, [], true⟩])
     (.cond (.s 30)
      (.seq (.reg [6, 7, 8, 9] [⟨(some 35), .mv (.s 9), none, [], false⟩,
        ⟨(some 36), .mv (.s 7), none, [], false⟩,
        ⟨(some 37), .mv (.s 8), none, [], false⟩,
        ⟨(some 38), .call (.c (.fn (.func 160) [] [])) [(.s 36), (.s 37)], none, [], false⟩,
        ⟨(some 39), .call (.c (.fn (.func 148) [] [])) [(.s 35), (.s 38)], none, [], false⟩,
        ⟨none, .store 2 (.s 6) (.s 39), none, [], false⟩])
      .ret)
      .skip)))))
   (.seq (.reg [6, 7, 8, 10] [⟨(some 40), .mv (.s 10), none, [], false⟩,
     ⟨(some 41), .mv (.s 8), none, [], false⟩,
     ⟨(some 42), .mv (.s 7), none, [], false⟩,
     ⟨(some 43), .call (.c (.fn (.func 160) [] [])) [(.s 41), (.s 42)], none, [], false⟩,
     ⟨(some 44), .call (.c (.fn (.func 148) [] [])) [(.s 40), (.s 43)], none, [], false⟩,
     ⟨none, .store 2 (.s 6) (.s 44), none, [], false⟩])
   .ret))))) }
theorem tr116 : trF Tryz.prog h116 Tryz.f116 = some i116 := by kernel_rfl

-- ashlar/upoly.Deg
def h117 : List (List Nat) := [[0], [0]]
def i117 : IFn := { nparams := 1, ntmps := 7, results := [.tmp 2], body :=
  (.seq (.reg [0] [⟨(some 2), .mv (.c (.int .i64 0)), none, [], true⟩])
   (.seq (.reg [0] [⟨(some 3), .mv (.s 0), none, [], false⟩,
     ⟨(some 4), .call (.c (.fn (.func 122) [] [])) [(.s 3)], none, [], false⟩,
     ⟨(some 5), .len false (.s 4), none, [], false⟩,
     ⟨(some 6), .bin .sub .num (.s 5) (.c (.int .i64 1)), none, [], false⟩,
     ⟨(some 2), .mv (.s 6), none, [], true⟩])
   .ret)) }
theorem tr117 : trF Tryz.prog h117 Tryz.f117 = some i117 := by kernel_rfl

-- ashlar/zcost.Of
def h118 : List (List Nat) := [[0], [0, 2], [0, 2, 3], [0, 2, 3], [0, 2, 3], [0, 2, 3], [2], [0, 2, 3], [0, 2, 3, 4], [2, 4, 30, 31, 32], [2, 4, 30, 31, 32], [2, 4, 30, 31, 32], [2, 4, 6, 30, 31, 32], [2, 4, 30, 31, 32], [2, 4]]
def i118b0 : ICode :=
  (.seq (.seq (.reg [0, 2, 3] [⟨(some 10), .mv (.s 3), none, [], false⟩,
    ⟨(some 11), .bin .geq .num (.s 10) (.c (.int .i64 0)), none, [], false⟩,
    ⟨(some 12), .mv (.s 11), none, [], false⟩,
    ⟨(some 13), .mv (.s 0), (some (12, true)), [], false⟩,
    ⟨(some 14), .mv (.s 3), (some (12, true)), [], false⟩,
    ⟨(some 15), .idxA 1 (.s 13) (.s 14), (some (12, true)), [], false⟩,
    ⟨(some 16), .load false 1 (.s 15), (some (12, true)), [], false⟩,
    ⟨(some 17), .call (.c (.fn (.func 117) [] [])) [(.s 16)], (some (12, true)), [], false⟩,
    ⟨(some 18), .bin .lss .num (.s 17) (.c (.int .i64 0)), (some (12, true)), [], false⟩,
    ⟨(some 19), .pick (.s 12) (.s 18) (.c (.bool false)), none, [], false⟩])
  (.cond (.s 19)
   .skip
   (.exit 0)))
  (.block 1
   (.reg [0, 2, 3] [⟨(some 20), .mv (.s 3), none, [], false⟩,
     ⟨(some 21), .bin .sub .num (.s 20) (.c (.int .i64 1)), none, [], false⟩,
     ⟨(some 3), .mv (.s 21), none, [], true⟩])))
def i118b1 : ICode :=
  (.seq (.reg [2, 4, 30, 31, 32] [⟨(some 33), .bin .lss .num (.s 32) (.s 31), none, [], false⟩])
  (.seq (.cond (.s 33)
   .skip
   (.exit 2))
  (.seq (.block 3
   (.seq (.reg [2, 4, 30, 31, 32] [⟨(some 34), .idxA 1 (.s 30) (.s 32), none, [], false⟩,
     ⟨(some 35), .load false 1 (.s 34), none, [], false⟩,
     ⟨(some 6), .mv (.s 35), none, [], true⟩])
   (.draw [2, 4, 6, 30, 31, 32] [⟨(some 36), .fldA 1 false 1 (.s 4), none, [], false⟩,
     ⟨(some 37), .load false 1 (.s 36), none, [0], false⟩,
     ⟨(some 38), .mv (.s 6), none, [], false⟩,
     ⟨(some 39), .call (.c (.fn (.func 117) [] [])) [(.s 38)], none, [2], false⟩,
     ⟨(some 40), .mx [(.s 37), (.s 39)], none, [1, 3], false⟩,
     ⟨(some 41), .fldA 2 false 1 (.s 4), none, [], false⟩,
     ⟨(some 42), .load false 1 (.s 41), none, [5], false⟩,
     ⟨(some 43), .mv (.s 6), none, [], false⟩,
     ⟨(some 44), .call (.c (.fn (.func 161) [] [])) [(.s 43)], none, [7, 3], false⟩,
     ⟨(some 45), .mx [(.s 42), (.s 44)], none, [6, 8], false⟩,
     ⟨(some 46), .fldA 1 false 1 (.s 4), none, [0, 1, 2, 3, 4, 5, 6], false⟩,
     ⟨none, .store 1 (.s 46) (.s 40), none, [10, 4, 8, 0, 1, 2, 3, 5, 6], false⟩,
     ⟨(some 47), .fldA 2 false 1 (.s 4), none, [0, 1, 2, 3, 4, 5, 6, 7, 8, 9, 10, 11], false⟩,
     ⟨none, .store 1 (.s 47) (.s 45), none, [12, 9, 11, 0, 1, 2, 3, 4, 5, 6, 7, 8, 10], false⟩])))
  (.reg [2, 4, 30, 31, 32] [⟨(some 48), .bin .add .num (.s 32) (.c (.int .i64 1)), none, [], false⟩,
    ⟨(some 32), .mv (.s 48), none, [], false⟩]))))
def i118 : IFn := { nparams := 1, ntmps := 50, results := [.cell 2 true 3], body :=
  (.seq (.reg [0] [⟨(some 2), .alloc 3 (.agg [(.int .i64 0), (.int .i64 0), (.int .i64 0)]), none, [], false⟩])
   (.seq (.reg [0, 2] [⟨(some 7), .mv (.s 0), none, [], false⟩,
     ⟨(some 8), .len false (.s 7), none, [], false⟩,
     ⟨(some 9), .bin .sub .num (.s 8) (.c (.int .i64 1)), none, [], false⟩,
     ⟨(some 3), .mv (.s 9), none, [], true⟩])
   (.seq (.block 0
    (.loop [0, 2, 3] i118b0))
   (.seq (.seq (.reg [0, 2, 3] [⟨(some 22), .mv (.s 3), none, [], false⟩,
     ⟨(some 23), .bin .lss .num (.s 22) (.c (.int .i64 0)), none, [], false⟩])
   (.cond (.s 23)
    (.seq (.reg [2] [⟨(some 24), .build [(.int .i64 0), (.int .i64 0), (.int .i64 0)] [], none, [], false⟩,
      ⟨none, .store 3 (.s 2) (.s 24), none, [], false⟩])
    .ret)
    .skip))
   (.seq (.reg [0, 2, 3] [⟨(some 25), .mv (.s 3), none, [], false⟩,
     ⟨(some 26), .build [(.int .i64 0), (.int .i64 0), (.int .i64 0)] [(0, 1, (.s 25))], none, [], false⟩,
     ⟨(some 4), .alloc 3 (.agg [(.int .i64 0), (.int .i64 0), (.int .i64 0)]), none, [], false⟩,
     ⟨none, .store 3 (.s 4) (.s 26), none, [], false⟩])
   (.seq (.seq (.reg [0, 2, 3, 4] [⟨(some 27), .mv (.s 0), none, [], false⟩,
     ⟨(some 28), .mv (.s 3), none, [], false⟩,
     ⟨(some 29), .bin .add .num (.s 28) (.c (.int .i64 1)), none, [], false⟩,
     ⟨(some 30), .slice 1 (.s 27) none (some (.s 29)) none, none, [], false⟩,
     ⟨(some 31), .len false (.s 30), none, [], false⟩,
     ⟨(some 32), .mv (.c (.int .i64 0)), none, [], false⟩])
   (.block 2
    (.loop [2, 4, 30, 31, 32] i118b1)))
   (.seq (.reg [2, 4] [⟨(some 49), .load true 3 (.s 4), none, [], false⟩,
     ⟨none, .store 3 (.s 2) (.s 49), none, [], false⟩])
   .ret))))))) }
theorem tr118 : trF Tryz.prog h118 Tryz.f118 = some i118 := by kernel_rfl

-- math/bits.Len32
def h119 : List (List Nat) := [[0], [0, 2], [0], [0], [0, 2], [0, 2], [0, 2], [0, 2]]
def i119 : IFn := { nparams := 1, ntmps := 19, results := [.tmp 2], body :=
  (.seq (.reg [0] [⟨(some 2), .mv (.c (.int .i64 0)), none, [], true⟩])
   (.seq (.seq (.reg [0, 2] [⟨(some 3), .mv (.s 0), none, [], false⟩,
     ⟨(some 4), .bin .geq .num (.s 3) (.c (.int .u32 65536)), none, [], false⟩])
   (.cond (.s 4)
    (.seq (.reg [0] [⟨(some 5), .mv (.s 0), none, [], false⟩,
      ⟨(some 6), .bin .shr .num (.s 5) (.c (.int .u64 16)), none, [], false⟩,
      ⟨(some 0), .mv (.s 6), none, [], true⟩])
    (.reg [0] [⟨(some 2), .mv (.c (.int .i64 16)), none, [], true⟩]))
    .skip))
   (.seq (.seq (.reg [0, 2] [⟨(some 7), .mv (.s 0), none, [], false⟩,
     ⟨(some 8), .bin .geq .num (.s 7) (.c (.int .u32 256)), none, [], false⟩])
   (.cond (.s 8)
    (.seq (.reg [0, 2] [⟨(some 9), .mv (.s 0), none, [], false⟩,
      ⟨(some 10), .bin .shr .num (.s 9) (.c (.int .u64 8)), none, [], false⟩,
      ⟨(some 0), .mv (.s 10), none, [], true⟩])
    (.reg [0, 2] [⟨(some 11), .mv (.s 2), none, [], false⟩,
      ⟨(some 12), .bin .add .num (.s 11) (.c (.int .i64 8)), none, [], false⟩,
      ⟨(some 2), .mv (.s 12), none, [], true⟩]))
    .skip))
   (.seq (.reg [0, 2] [⟨(some 13), .mv (.s 2), none, [], false⟩,
     ⟨(some 14), .mv (.s 0), none, [], false⟩,
     ⟨(some 15), .conv .u8 (.s 14), none, [], false⟩,
     ⟨(some 16), .idxS (.c (.str ⟨#[0, 1, 2, 2, 3, 3, 3, 3, 4, 4, 4, 4, 4, 4, 4, 4, 5, 5, 5, 5, 5, 5, 5, 5, 5, 5, 5, 5, 5, 5, 5, 5, 6, 6, 6, 6, 6, 6, 6, 6, 6, 6, 6, 6, 6, 6, 6, 6, 6, 6, 6, 6, 6, 6, 6, 6, 6, 6, 6, 6, 6, 6, 6, 6, 7, 7, 7, 7, 7, 7, 7, 7, 7, 7, 7, 7, 7, 7, 7, 7, 7, 7, 7, 7, 7, 7, 7, 7, 7, 7, 7, 7, 7, 7, 7, 7, 7, 7, 7, 7, 7, 7, 7, 7, 7, 7, 7, 7, 7, 7, 7, 7, 7, 7, 7, 7, 7, 7, 7, 7, 7, 7, 7, 7, 7, 7, 7, 7, 8, 8, 8, 8, 8, 8, 8, 8, 8, 8, 8, 8, 8, 8, 8, 8, 8, 8, 8, 8, 8, 8, 8, 8, 8, 8, 8, 8, 8, 8, 8, 8, 8, 8, 8, 8, 8, 8, 8, 8, 8, 8, 8, 8, 8, 8, 8, 8, 8, 8, 8, 8, 8, 8, 8, 8, 8, 8, 8, 8, 8, 8, 8, 8, 8, 8, 8, 8, 8, 8, 8, 8, 8, 8, 8, 8, 8, 8, 8, 8, 8, 8, 8, 8, 8, 8, 8, 8, 8, 8, 8, 8, 8, 8, 8, 8, 8, 8, 8, 8, 8, 8, 8, 8, 8, 8, 8, 8, 8, 8, 8, 8, 8, 8, 8, 8, 8, 8, 8, 8, 8, 8, 8, 8, 8, 8, 8, 8]⟩)) (.s 15), none, [], false⟩,
     ⟨(some 17), .conv .i64 (.s 16), none, [], false⟩,
     ⟨(some 18), .bin .add .num (.s 13) (.s 17), none, [], false⟩,
     ⟨(some 2), .mv (.s 18), none, [], true⟩])
   .ret)))) }
theorem tr119 : trF Tryz.prog h119 Tryz.f119 = some i119 := by kernel_rfl

-- ashlar/gauge.each
def h120 : List (List Nat) := [[0, 1], [0, 6, 7, 8], [0, 6, 7, 8], [0, 6, 7, 8], [0, 5, 6, 7, 8], [0, 6, 7, 8]]
def i120b0 : ICode :=
  (.seq (.reg [0, 6, 7, 8] [⟨(some 9), .bin .lss .num (.s 8) (.s 7), none, [], false⟩])
  (.seq (.cond (.s 9)
   .skip
   (.exit 0))
  (.seq (.block 1
   (.seq (.reg [0, 6, 7, 8] [⟨(some 10), .idxA 1 (.s 6) (.s 8), none, [], false⟩,
     ⟨(some 11), .load false 1 (.s 10), none, [], false⟩,
     ⟨(some 5), .mv (.s 11), none, [], true⟩])
   (.reg [0, 5, 6, 7, 8] [⟨(some 12), .mv (.s 0), none, [], false⟩,
     ⟨(some 13), .mv (.s 5), none, [], false⟩,
     ⟨(some 14), .call (.s 12) [(.s 13)], none, [], false⟩])))
  (.reg [0, 6, 7, 8] [⟨(some 15), .bin .add .num (.s 8) (.c (.int .i64 1)), none, [], false⟩,
    ⟨(some 8), .mv (.s 15), none, [], false⟩]))))
def i120 : IFn := { nparams := 2, ntmps := 16, results := [], body :=
  (.seq (.reg [0, 1] [⟨(some 6), .mv (.s 1), none, [], false⟩,
     ⟨(some 7), .len false (.s 6), none, [], false⟩,
     ⟨(some 8), .mv (.c (.int .i64 0)), none, [], false⟩])
   (.block 0
    (.loop [0, 6, 7, 8] i120b0))) }
theorem tr120 : trF Tryz.prog h120 Tryz.f120 = some i120 := by kernel_rfl

-- (*ashlar/gauge.product).take
def h121 : List (List Nat) := [[0, 1]]
def i121 : IFn := { nparams := 2, ntmps := 15, results := [], body :=
  (.reg [0, 1] [⟨(some 4), .mv (.s 0), none, [], false⟩,
     ⟨(some 5), .mv (.s 0), none, [], false⟩,
     ⟨(some 6), .nilc (.s 5), none, [], false⟩,
     ⟨(some 7), .fldA 0 false 1 (.s 6), none, [], false⟩,
     ⟨(some 8), .load false 1 (.s 7), none, [], false⟩,
     ⟨(some 9), .mv (.s 1), none, [], false⟩,
     ⟨(some 10), .mx [(.s 9), (.c (.int .i64 1))], none, [], false⟩,
     ⟨(some 11), .bsl 1 (.int .i64 0) 2 [(0, (.s 8)), (1, (.s 10))], none, [], false⟩,
     ⟨(some 12), .call (.c (.fn (.func 78) [] [])) [(.s 11)], none, [], false⟩,
     ⟨(some 13), .nilc (.s 4), none, [], false⟩,
     ⟨(some 14), .fldA 0 false 1 (.s 13), none, [], false⟩,
     ⟨none, .store 1 (.s 14) (.s 12), none, [], false⟩]) }
theorem tr121 : trF Tryz.prog h121 Tryz.f121 = some i121 := by kernel_rfl

-- ashlar/upoly.cut
def h122 : List (List Nat) := [[0], [0], [0, 3], [0, 3], [0, 3], [0, 3], [], [0, 3]]
def i122b0 : ICode :=
  (.seq (.seq (.reg [0, 3] [⟨(some 6), .mv (.s 3), none, [], false⟩,
    ⟨(some 7), .bin .gtr .num (.s 6) (.c (.int .i64 0)), none, [], false⟩,
    ⟨(some 8), .mv (.s 7), none, [], false⟩,
    ⟨(some 9), .mv (.s 0), (some (8, true)), [], false⟩,
    ⟨(some 10), .mv (.s 3), (some (8, true)), [], false⟩,
    ⟨(some 11), .bin .sub .num (.s 10) (.c (.int .i64 1)), (some (8, true)), [], false⟩,
    ⟨(some 12), .idxA 2 (.s 9) (.s 11), (some (8, true)), [], false⟩,
    ⟨(some 13), .load true 2 (.s 12), (some (8, true)), [], false⟩,
    ⟨(some 14), .call (.c (.fn (.func 69) [] [])) [(.s 13)], (some (8, true)), [], false⟩,
    ⟨(some 15), .bin .eql .num (.s 14) (.c (.int .i64 0)), (some (8, true)), [], false⟩,
    ⟨(some 16), .pick (.s 8) (.s 15) (.c (.bool false)), none, [], false⟩])
  (.cond (.s 16)
   .skip
   (.exit 0)))
  (.block 1
   (.reg [0, 3] [⟨(some 17), .mv (.s 3), none, [], false⟩,
     ⟨(some 18), .bin .sub .num (.s 17) (.c (.int .i64 1)), none, [], false⟩,
     ⟨(some 3), .mv (.s 18), none, [], true⟩])))
def i122 : IFn := { nparams := 1, ntmps := 24, results := [.tmp 2], body :=
  (.seq (.reg [0] [⟨(some 2), .mv (.c (.sl .nil [])), none, [], true⟩])
   (.seq (.reg [0] [⟨(some 4), .mv (.s 0), none, [], false⟩,
     ⟨(some 5), .len false (.s 4), none, [], false⟩,
     ⟨(some 3), .mv (.s 5), none, [], true⟩])
   (.seq (.block 0
    (.loop [0, 3] i122b0))
   (.seq (.seq (.reg [0, 3] [⟨(some 19), .mv (.s 3), none, [], false⟩,
     ⟨(some 20), .bin .eql .num (.s 19) (.c (.int .i64 0)), none, [], false⟩])
   (.cond (.s 20)
    (.seq (.reg [] [⟨(some 2), .mv (.c (.sl .nil [])), none, [], true⟩])
    .ret)
    .skip))
   (.seq (.reg [0, 3] [⟨(some 21), .mv (.s 0), none, [], false⟩,
     ⟨(some 22), .mv (.s 3), none, [], false⟩,
     ⟨(some 23), .slice 2 (.s 21) none (some (.s 22)) none, none, [], false⟩,
     ⟨(some 2), .mv (.s 23), none, [], true⟩])
   .ret))))) }
theorem tr122 : trF Tryz.prog h122 Tryz.f122 = some i122 := by kernel_rfl

-- ashlar/limbs.Gcd
def h123 : List (List Nat) := [[0, 1], [2, 3, 4], [4, 5, 6], [4, 5, 6], [4, 5, 6], [4, 6, 8], [4, 5]]
def i123b0 : ICode :=
  (.seq (.seq (.reg [4, 5, 6] [⟨(some 13), .mv (.s 6), none, [], false⟩,
    ⟨(some 14), .len false (.s 13), none, [], false⟩,
    ⟨(some 15), .bin .gtr .num (.s 14) (.c (.int .i64 0)), none, [], false⟩])
  (.cond (.s 15)
   .skip
   (.exit 0)))
  (.block 1
   (.seq (.reg [4, 5, 6] [⟨(some 17), .mv (.s 5), none, [], false⟩,
     ⟨(some 18), .mv (.s 6), none, [], false⟩,
     ⟨(some 19), .call (.c (.fn (.func 162) [] [])) [(.s 17), (.s 18)], none, [], false⟩,
     ⟨(some 16), .mv (.s 19), none, [], false⟩,
     ⟨(some 20), .extr (.s 16) 0, none, [], false⟩,
     ⟨(some 21), .extr (.s 16) 1, none, [], false⟩,
     ⟨(some 7), .mv (.s 20), none, [], true⟩,
     ⟨(some 8), .mv (.s 21), none, [], true⟩])
   (.reg [4, 6, 8] [⟨(some 22), .mv (.s 6), none, [], false⟩,
     ⟨(some 23), .mv (.s 8), none, [], false⟩,
     ⟨(some 5), .mv (.s 22), none, [], true⟩,
     ⟨(some 6), .mv (.s 23), none, [], true⟩]))))
def i123 : IFn := { nparams := 2, ntmps := 26, results := [.cell 4 true 2], body :=
  (.seq (.reg [0, 1] [⟨(some 2), .box 2 (.s 0), none, [], false⟩,
     ⟨(some 3), .box 2 (.s 1), none, [], false⟩,
     ⟨(some 4), .alloc 2 (.agg [(.bool false), (.sl .nil [])]), none, [], false⟩])
   (.seq (.draw [2, 3, 4] [⟨(some 9), .load true 2 (.s 2), none, [], false⟩,
     ⟨(some 10), .call (.c (.fn (.func 115) [] [])) [(.s 9)], none, [0], false⟩,
     ⟨(some 11), .load true 2 (.s 3), none, [], false⟩,
     ⟨(some 12), .call (.c (.fn (.func 115) [] [])) [(.s 11)], none, [2, 1], false⟩,
     ⟨(some 5), .mv (.s 10), none, [1, 3, 0], true⟩,
     ⟨(some 6), .mv (.s 12), none, [3, 4, 0, 1, 2], true⟩])
   (.seq (.block 0
    (.loop [4, 5, 6] i123b0))
   (.seq (.reg [4, 5] [⟨(some 24), .mv (.s 5), none, [], false⟩,
     ⟨(some 25), .call (.c (.fn (.func 148) [] [])) [(.c (.bool false)), (.s 24)], none, [], false⟩,
     ⟨none, .store 2 (.s 4) (.s 25), none, [], false⟩])
   .ret)))) }
theorem tr123 : trF Tryz.prog h123 Tryz.f123 = some i123 := by kernel_rfl

-- ashlar/upoly.Content
def h124 : List (List Nat) := [[0], [0, 2], [0, 2, 3], [2, 3, 7, 8, 9], [2, 3, 7, 8, 9], [2, 3, 7, 8, 9], [2, 3, 5, 7, 8, 9], [2, 3, 7, 8, 9], [2, 3]]
def i124b0 : ICode :=
  (.seq (.reg [2, 3, 7, 8, 9] [⟨(some 10), .bin .lss .num (.s 9) (.s 8), none, [], false⟩])
  (.seq (.cond (.s 10)
   .skip
   (.exit 0))
  (.seq (.block 1
   (.seq (.reg [2, 3, 7, 8, 9] [⟨(some 11), .idxA 2 (.s 7) (.s 9), none, [], false⟩,
     ⟨(some 12), .load true 2 (.s 11), none, [], false⟩,
     ⟨(some 5), .alloc 2 (.agg [(.bool false), (.sl .nil [])]), none, [], false⟩,
     ⟨none, .store 2 (.s 5) (.s 12), none, [], false⟩])
   (.reg [2, 3, 5, 7, 8, 9] [⟨(some 13), .load true 2 (.s 3), none, [], false⟩,
     ⟨(some 14), .load true 2 (.s 5), none, [], false⟩,
     ⟨(some 15), .call (.c (.fn (.func 123) [] [])) [(.s 13), (.s 14)], none, [], false⟩,
     ⟨none, .store 2 (.s 3) (.s 15), none, [], false⟩])))
  (.reg [2, 3, 7, 8, 9] [⟨(some 16), .bin .add .num (.s 9) (.c (.int .i64 1)), none, [], false⟩,
    ⟨(some 9), .mv (.s 16), none, [], false⟩]))))
def i124 : IFn := { nparams := 1, ntmps := 18, results := [.cell 2 true 2], body :=
  (.seq (.reg [0] [⟨(some 2), .alloc 2 (.agg [(.bool false), (.sl .nil [])]), none, [], false⟩])
   (.seq (.reg [0, 2] [⟨(some 6), .build [(.bool false), (.sl .nil [])] [], none, [], false⟩,
     ⟨(some 3), .alloc 2 (.agg [(.bool false), (.sl .nil [])]), none, [], false⟩,
     ⟨none, .store 2 (.s 3) (.s 6), none, [], false⟩])
   (.seq (.seq (.reg [0, 2, 3] [⟨(some 7), .mv (.s 0), none, [], false⟩,
     ⟨(some 8), .len false (.s 7), none, [], false⟩,
     ⟨(some 9), .mv (.c (.int .i64 0)), none, [], false⟩])
   (.block 0
    (.loop [2, 3, 7, 8, 9] i124b0)))
   (.seq (.reg [2, 3] [⟨(some 17), .load true 2 (.s 3), none, [], false⟩,
     ⟨none, .store 2 (.s 2) (.s 17), none, [], false⟩])
   .ret)))) }
theorem tr124 : trF Tryz.prog h124 Tryz.f124 = some i124 := by kernel_rfl

-- ashlar/upoly.Prim
def h125 : List (List Nat) := [[0], [0], [0], [], [0], [0, 3], [0, 3], [0, 3]]
def i125 : IFn := { nparams := 1, ntmps := 24, results := [.tmp 2], body :=
  (.seq (.reg [0] [⟨(some 2), .mv (.c (.sl .nil [])), none, [], true⟩])
   (.seq (.reg [0] [⟨(some 4), .mv (.s 0), none, [], false⟩,
     ⟨(some 5), .call (.c (.fn (.func 122) [] [])) [(.s 4)], none, [], false⟩,
     ⟨(some 0), .mv (.s 5), none, [], true⟩])
   (.seq (.seq (.reg [0] [⟨(some 6), .mv (.s 0), none, [], false⟩,
     ⟨(some 7), .len false (.s 6), none, [], false⟩,
     ⟨(some 8), .bin .eql .num (.s 7) (.c (.int .i64 0)), none, [], false⟩])
   (.cond (.s 8)
    (.seq (.reg [] [⟨(some 2), .mv (.c (.sl .nil [])), none, [], true⟩])
    .ret)
    .skip))
   (.seq (.reg [0] [⟨(some 9), .mv (.s 0), none, [], false⟩,
     ⟨(some 10), .call (.c (.fn (.func 124) [] [])) [(.s 9)], none, [], false⟩,
     ⟨(some 3), .alloc 2 (.agg [(.bool false), (.sl .nil [])]), none, [], false⟩,
     ⟨none, .store 2 (.s 3) (.s 10), none, [], false⟩])
   (.seq (.seq (.reg [0, 3] [⟨(some 11), .mv (.s 0), none, [], false⟩,
     ⟨(some 12), .mv (.s 0), none, [], false⟩,
     ⟨(some 13), .len false (.s 12), none, [], false⟩,
     ⟨(some 14), .bin .sub .num (.s 13) (.c (.int .i64 1)), none, [], false⟩,
     ⟨(some 15), .idxA 2 (.s 11) (.s 14), none, [], false⟩,
     ⟨(some 16), .load true 2 (.s 15), none, [], false⟩,
     ⟨(some 17), .call (.c (.fn (.func 69) [] [])) [(.s 16)], none, [], false⟩,
     ⟨(some 18), .bin .lss .num (.s 17) (.c (.int .i64 0)), none, [], false⟩])
   (.cond (.s 18)
    (.reg [0, 3] [⟨(some 19), .load true 2 (.s 3), none, [], false⟩,
      ⟨(some 20), .call (.c (.fn (.func 163) [] [])) [(.s 19)], none, [], false⟩,
      ⟨none, .store 2 (.s 3) (.s 20), none, [], false⟩])
    .skip))
   (.seq (.reg [0, 3] [⟨(some 21), .mv (.s 0), none, [], false⟩,
     ⟨(some 22), .load true 2 (.s 3), none, [], false⟩,
     ⟨(some 23), .call (.c (.fn (.func 164) [] [])) [(.s 21), (.s 22)], none, [], false⟩,
     ⟨(some 2), .mv (.s 23), none, [], true⟩])
   .ret)))))) }
theorem tr125 : trF Tryz.prog h125 Tryz.f125 = some i125 := by kernel_rfl

-- ashlar/upoly.common
def h126 : List (List Nat) := [[0, 1], [0, 1], [0, 1, 5], [0, 1, 5, 6], [0, 1, 5, 6, 7], [0, 1, 5, 6, 7, 8], [0, 1, 5, 6, 7, 8], [0, 1, 5, 6, 7, 8, 9, 10], [0, 1, 5, 6, 7, 8, 9, 10], [0, 1, 5, 6, 7, 8, 11], [], [0, 1, 5, 6, 7, 8, 11], [0, 1, 5, 6, 7, 8, 11], [0, 1, 5, 8, 11], [0, 1, 5, 6, 7, 8, 11], [0, 1, 5, 6, 7, 8, 11, 12], [0, 1, 5, 6, 7, 8, 11, 12, 87, 88], [0, 1, 5, 6, 7, 8, 11, 12, 87, 88], [0, 1, 5, 6, 7, 8, 11, 12, 87, 88], [0, 1, 5, 6, 7, 8, 11, 12, 14, 87, 88], [0, 1, 5, 6, 7, 8, 11, 12, 87, 88], [0, 1, 5, 6, 7, 8, 11], [0, 1, 5, 6, 7, 8], [0, 1, 5, 6, 7, 8, 15], [0, 1, 5, 6, 7, 8, 15, 17], [0, 1, 5, 6, 7, 8, 15, 17, 19], [15], [0, 1, 5, 6, 7, 8]]
def i126b0 : ICode :=
  (.seq (.reg [0, 1, 5, 6, 7, 8, 11, 12, 87, 88] [⟨(some 89), .bin .lss .num (.s 88) (.s 87), none, [], false⟩])
  (.seq (.cond (.s 89)
   .skip
   (.exit 3))
  (.seq (.block 4
   (.seq (.reg [0, 1, 5, 6, 7, 8, 11, 12, 87, 88] [⟨(some 90), .mv (.s 88), none, [], false⟩,
     ⟨(some 14), .mv (.s 90), none, [], true⟩])
   (.reg [0, 1, 5, 6, 7, 8, 11, 12, 14, 87, 88] [⟨(some 91), .mv (.s 11), none, [], false⟩,
     ⟨(some 92), .mv (.s 14), none, [], false⟩,
     ⟨(some 93), .mv (.s 11), none, [], false⟩,
     ⟨(some 94), .mv (.s 14), none, [], false⟩,
     ⟨(some 95), .idxA 1 (.s 93) (.s 94), none, [], false⟩,
     ⟨(some 96), .load false 1 (.s 95), none, [], false⟩,
     ⟨(some 97), .mv (.s 12), none, [], false⟩,
     ⟨(some 98), .mv (.s 8), none, [], false⟩,
     ⟨(some 99), .call (.c (.fn (.func 169) [] [])) [(.s 96), (.s 97), (.s 98)], none, [], false⟩,
     ⟨(some 100), .idxA 1 (.s 91) (.s 92), none, [], false⟩,
     ⟨none, .store 1 (.s 100) (.s 99), none, [], false⟩])))
  (.reg [0, 1, 5, 6, 7, 8, 11, 12, 87, 88] [⟨(some 101), .bin .add .num (.s 88) (.c (.int .i64 1)), none, [], false⟩,
    ⟨(some 88), .mv (.s 101), none, [], false⟩]))))
def i126b1 : ICode :=
  (.seq (.block 1
   (.seq (.reg [0, 1, 5, 6, 7, 8] [⟨(some 35), .mv (.s 0), none, [], false⟩,
     ⟨(some 36), .mv (.s 8), none, [], false⟩,
     ⟨(some 37), .call (.c (.fn (.func 166) [] [])) [(.s 35), (.s 36)], none, [], false⟩,
     ⟨(some 38), .mv (.s 1), none, [], false⟩,
     ⟨(some 39), .mv (.s 8), none, [], false⟩,
     ⟨(some 40), .call (.c (.fn (.func 166) [] [])) [(.s 38), (.s 39)], none, [], false⟩,
     ⟨(some 9), .mv (.s 37), none, [], true⟩,
     ⟨(some 10), .mv (.s 40), none, [], true⟩])
   (.seq (.seq (.reg [0, 1, 5, 6, 7, 8, 9, 10] [⟨(some 41), .mv (.s 9), none, [], false⟩,
     ⟨(some 42), .len false (.s 41), none, [], false⟩,
     ⟨(some 43), .mv (.s 0), none, [], false⟩,
     ⟨(some 44), .len false (.s 43), none, [], false⟩,
     ⟨(some 45), .bin .lss .num (.s 42) (.s 44), none, [], false⟩,
     ⟨(some 46), .mv (.s 45), none, [], false⟩,
     ⟨(some 47), .mv (.s 10), (some (46, false)), [], false⟩,
     ⟨(some 48), .len false (.s 47), (some (46, false)), [], false⟩,
     ⟨(some 49), .mv (.s 1), (some (46, false)), [], false⟩,
     ⟨(some 50), .len false (.s 49), (some (46, false)), [], false⟩,
     ⟨(some 51), .bin .lss .num (.s 48) (.s 50), (some (46, false)), [], false⟩,
     ⟨(some 52), .pick (.s 46) (.c (.bool true)) (.s 51), none, [], false⟩])
   (.cond (.s 52)
    (.exit 1)
    .skip))
   (.seq (.reg [0, 1, 5, 6, 7, 8, 9, 10] [⟨(some 53), .mv (.s 9), none, [], false⟩,
     ⟨(some 54), .mv (.s 10), none, [], false⟩,
     ⟨(some 55), .mv (.s 8), none, [], false⟩,
     ⟨(some 56), .call (.c (.fn (.func 167) [] [])) [(.s 53), (.s 54), (.s 55)], none, [], false⟩,
     ⟨(some 11), .mv (.s 56), none, [], true⟩])
   (.seq (.block 2
    (.seq (.reg [0, 1, 5, 6, 7, 8, 11] [⟨(some 58), .mv (.s 11), none, [], false⟩,
      ⟨(some 59), .len false (.s 58), none, [], false⟩,
      ⟨(some 60), .bin .eql .num (.s 59) (.c (.int .i64 1)), none, [], false⟩,
      ⟨(some 57), .mv (.s 60), none, [], true⟩])
    (.cond (.s 57)
     (.seq (.reg [] [⟨(some 61), .bsl 1 (.int .i64 0) 1 [(0, (.c (.int .i64 1)))], none, [], false⟩,
       ⟨(some 62), .call (.c (.fn (.func 80) [] [])) [(.s 61)], none, [], false⟩,
       ⟨(some 4), .mv (.s 62), none, [], true⟩])
     .ret)
     (.seq (.reg [0, 1, 5, 6, 7, 8, 11] [⟨(some 64), .mv (.s 11), none, [], false⟩,
       ⟨(some 65), .len false (.s 64), none, [], false⟩,
       ⟨(some 66), .bin .sub .num (.s 65) (.c (.int .i64 1)), none, [], false⟩,
       ⟨(some 67), .mv (.s 6), none, [], false⟩,
       ⟨(some 68), .bin .gtr .num (.s 66) (.s 67), none, [], false⟩,
       ⟨(some 63), .mv (.s 68), none, [], true⟩])
     (.cond (.s 63)
      (.exit 1)
      (.seq (.reg [0, 1, 5, 6, 7, 8, 11] [⟨(some 70), .mv (.s 11), none, [], false⟩,
        ⟨(some 71), .len false (.s 70), none, [], false⟩,
        ⟨(some 72), .bin .sub .num (.s 71) (.c (.int .i64 1)), none, [], false⟩,
        ⟨(some 73), .mv (.s 6), none, [], false⟩,
        ⟨(some 74), .bin .lss .num (.s 72) (.s 73), none, [], false⟩,
        ⟨(some 69), .mv (.s 74), none, [], true⟩])
      (.cond (.s 69)
       (.reg [0, 1, 5, 8, 11] [⟨(some 75), .mv (.s 11), none, [], false⟩,
         ⟨(some 76), .len false (.s 75), none, [], false⟩,
         ⟨(some 77), .bin .sub .num (.s 76) (.c (.int .i64 1)), none, [], false⟩,
         ⟨(some 78), .build [(.bool false), (.sl .nil []), (.sl .nil [])] [], none, [], false⟩,
         ⟨(some 79), .box 3 (.s 78), none, [], false⟩,
         ⟨(some 6), .mv (.s 77), none, [], true⟩,
         ⟨(some 7), .mv (.s 79), none, [], true⟩])
       .skip)))))))
   (.seq (.reg [0, 1, 5, 6, 7, 8, 11] [⟨(some 81), .load true 2 (.s 5), none, [], false⟩,
     ⟨(some 82), .mv (.s 8), none, [], false⟩,
     ⟨(some 83), .call (.c (.fn (.func 168) [] [])) [(.s 81), (.s 82)], none, [], false⟩,
     ⟨(some 80), .mv (.s 83), none, [], false⟩,
     ⟨(some 84), .extr (.s 80) 0, none, [], false⟩,
     ⟨(some 85), .extr (.s 80) 1, none, [], false⟩,
     ⟨(some 12), .mv (.s 84), none, [], true⟩,
     ⟨(some 13), .mv (.s 85), none, [], true⟩])
   (.seq (.seq (.reg [0, 1, 5, 6, 7, 8, 11, 12] [⟨(some 86), .mv (.s 11), none, [], false⟩,
     ⟨(some 87), .len false (.s 86), none, [], false⟩,
     ⟨(some 88), .mv (.c (.int .i64 0)), none, [], false⟩])
   (.block 3
    (.loop [0, 1, 5, 6, 7, 8, 11, 12, 87, 88] i126b0)))
   (.seq (.seq (.reg [0, 1, 5, 6, 7, 8, 11] [⟨(some 102), .mv (.s 7), none, [], false⟩,
     ⟨(some 103), .mv (.s 11), none, [], false⟩,
     ⟨(some 104), .mv (.s 8), none, [], false⟩,
     ⟨(some 105), .call (.c (.fn (.func 170) [] [])) [(.s 102), (.s 103), (.s 104)], none, [], false⟩,
     ⟨(some 106), .un .not (.s 105), none, [], false⟩])
   (.cond (.s 106)
    (.exit 1)
    .skip))
   (.seq (.reg [0, 1, 5, 6, 7, 8] [⟨(some 107), .mv (.s 7), none, [], false⟩,
     ⟨(some 108), .nilc (.s 107), none, [], false⟩,
     ⟨(some 109), .fldA 2 false 1 (.s 108), none, [], false⟩,
     ⟨(some 110), .load false 1 (.s 109), none, [], false⟩,
     ⟨(some 111), .call (.c (.fn (.func 125) [] [])) [(.s 110)], none, [], false⟩,
     ⟨(some 15), .mv (.s 111), none, [], true⟩])
   (.seq (.reg [0, 1, 5, 6, 7, 8, 15] [⟨(some 113), .mv (.s 0), none, [], false⟩,
     ⟨(some 114), .mv (.s 15), none, [], false⟩,
     ⟨(some 115), .call (.c (.fn (.func 127) [] [])) [(.s 113), (.s 114)], none, [], false⟩,
     ⟨(some 112), .mv (.s 115), none, [], false⟩,
     ⟨(some 116), .extr (.s 112) 0, none, [], false⟩,
     ⟨(some 117), .extr (.s 112) 1, none, [], false⟩,
     ⟨(some 16), .mv (.s 116), none, [], true⟩,
     ⟨(some 17), .mv (.s 117), none, [], true⟩])
   (.seq (.reg [0, 1, 5, 6, 7, 8, 15, 17] [⟨(some 119), .mv (.s 1), none, [], false⟩,
     ⟨(some 120), .mv (.s 15), none, [], false⟩,
     ⟨(some 121), .call (.c (.fn (.func 127) [] [])) [(.s 119), (.s 120)], none, [], false⟩,
     ⟨(some 118), .mv (.s 121), none, [], false⟩,
     ⟨(some 122), .extr (.s 118) 0, none, [], false⟩,
     ⟨(some 123), .extr (.s 118) 1, none, [], false⟩,
     ⟨(some 18), .mv (.s 122), none, [], true⟩,
     ⟨(some 19), .mv (.s 123), none, [], true⟩])
   (.seq (.reg [0, 1, 5, 6, 7, 8, 15, 17, 19] [⟨(some 124), .mv (.s 17), none, [], false⟩,
     ⟨(some 125), .mv (.s 124), none, [], false⟩,
     ⟨(some 126), .mv (.s 19), (some (125, true)), [], false⟩,
     ⟨(some 127), .pick (.s 125) (.s 126) (.c (.bool false)), none, [], false⟩])
   (.cond (.s 127)
    (.seq (.reg [15] [⟨(some 128), .mv (.s 15), none, [], false⟩,
      ⟨(some 4), .mv (.s 128), none, [], true⟩])
    .ret)
    .skip)))))))))))))
  (.reg [0, 1, 5, 6, 7, 8] [⟨(some 33), .mv (.s 8), none, [], false⟩,
    ⟨(some 34), .call (.c (.fn (.func 165) [] [])) [(.s 33)], none, [], false⟩,
    ⟨(some 8), .mv (.s 34), none, [], true⟩]))
def i126 : IFn := { nparams := 2, ntmps := 129, results := [.tmp 4], body :=
  (.seq (.reg [0, 1] [⟨(some 4), .mv (.c (.sl .nil [])), none, [], true⟩])
   (.seq (.reg [0, 1] [⟨(some 20), .mv (.s 0), none, [], false⟩,
     ⟨(some 21), .call (.c (.fn (.func 105) [] [])) [(.s 20)], none, [], false⟩,
     ⟨(some 22), .mv (.s 1), none, [], false⟩,
     ⟨(some 23), .call (.c (.fn (.func 105) [] [])) [(.s 22)], none, [], false⟩,
     ⟨(some 24), .call (.c (.fn (.func 123) [] [])) [(.s 21), (.s 23)], none, [], false⟩,
     ⟨(some 5), .alloc 2 (.agg [(.bool false), (.sl .nil [])]), none, [], false⟩,
     ⟨none, .store 2 (.s 5) (.s 24), none, [], false⟩])
   (.seq (.reg [0, 1, 5] [⟨(some 25), .mv (.s 0), none, [], false⟩,
     ⟨(some 26), .len false (.s 25), none, [], false⟩,
     ⟨(some 27), .mv (.s 1), none, [], false⟩,
     ⟨(some 28), .len false (.s 27), none, [], false⟩,
     ⟨(some 29), .mn [(.s 26), (.s 28)], none, [], false⟩,
     ⟨(some 6), .mv (.s 29), none, [], true⟩])
   (.seq (.reg [0, 1, 5, 6] [⟨(some 30), .build [(.bool false), (.sl .nil []), (.sl .nil [])] [], none, [], false⟩,
     ⟨(some 31), .box 3 (.s 30), none, [], false⟩,
     ⟨(some 7), .mv (.s 31), none, [], true⟩])
   (.seq (.reg [0, 1, 5, 6, 7] [⟨(some 32), .call (.c (.fn (.func 165) [] [])) [(.c (.int .i64 2147483648))], none, [], false⟩,
     ⟨(some 8), .mv (.s 32), none, [], true⟩])
   (.block 0
    (.loop [0, 1, 5, 6, 7, 8] i126b1))))))) }
theorem tr126 : trF Tryz.prog h126 Tryz.f126 = some i126 := by kernel_rfl

-- ashlar/upoly.Exact
def h127 : List (List Nat) := [[0, 1], [0, 1], [0, 1], [], [0, 1], [0, 1, 6], [0, 1, 6], [0, 1, 6], [0, 1, 6, 7, 8], [], [0, 1, 6, 7], [0, 1, 6, 10], [0, 1, 6, 10], [0, 6], [], [6]]
def i127b0 : ICode :=
  (.seq (.seq (.reg [0, 1, 6] [⟨(some 18), .mv (.s 0), none, [], false⟩,
    ⟨(some 19), .len false (.s 18), none, [], false⟩,
    ⟨(some 20), .mv (.s 1), none, [], false⟩,
    ⟨(some 21), .len false (.s 20), none, [], false⟩,
    ⟨(some 22), .bin .geq .num (.s 19) (.s 21), none, [], false⟩])
  (.cond (.s 22)
   .skip
   (.exit 0)))
  (.block 1
   (.seq (.draw [0, 1, 6] [⟨(some 24), .mv (.s 0), none, [], false⟩,
     ⟨(some 25), .mv (.s 0), none, [], false⟩,
     ⟨(some 26), .len false (.s 25), none, [1], false⟩,
     ⟨(some 27), .bin .sub .num (.s 26) (.c (.int .i64 1)), none, [2], false⟩,
     ⟨(some 28), .idxA 2 (.s 24) (.s 27), none, [0, 3], false⟩,
     ⟨(some 29), .load true 2 (.s 28), none, [4], false⟩,
     ⟨(some 30), .mv (.s 1), none, [], false⟩,
     ⟨(some 31), .mv (.s 1), none, [], false⟩,
     ⟨(some 32), .len false (.s 31), none, [7], false⟩,
     ⟨(some 33), .bin .sub .num (.s 32) (.c (.int .i64 1)), none, [8], false⟩,
     ⟨(some 34), .idxA 2 (.s 30) (.s 33), none, [6, 9], false⟩,
     ⟨(some 35), .load true 2 (.s 34), none, [10], false⟩,
     ⟨(some 36), .call (.c (.fn (.func 171) [] [])) [(.s 29), (.s 35)], none, [5, 11], false⟩,
     ⟨(some 23), .mv (.s 36), none, [12], false⟩,
     ⟨(some 37), .extr (.s 23) 0, none, [13], false⟩,
     ⟨(some 38), .extr (.s 23) 1, none, [13], false⟩,
     ⟨(some 39), .extr (.s 23) 2, none, [13], false⟩,
     ⟨(some 7), .alloc 2 (.agg [(.bool false), (.sl .nil [])]), none, [], false⟩,
     ⟨(some 8), .alloc 2 (.agg [(.bool false), (.sl .nil [])]), none, [], false⟩,
     ⟨none, .store 2 (.s 7) (.s 37), none, [17, 14, 12, 0, 1, 2, 3, 4, 5, 6, 7, 8, 9, 10, 11, 13, 18], false⟩,
     ⟨none, .store 2 (.s 8) (.s 38), none, [18, 15, 19, 0, 1, 2, 3, 4, 5, 6, 7, 8, 9, 10, 11, 12, 13, 14, 17], false⟩,
     ⟨(some 9), .mv (.s 39), none, [16, 20, 0, 1, 2, 3, 4, 5, 6, 7, 8, 9, 10, 11, 12, 13, 14, 15, 17, 18, 19], true⟩])
   (.seq (.seq (.reg [0, 1, 6, 7, 8] [⟨(some 40), .load true 2 (.s 8), none, [], false⟩,
     ⟨(some 41), .call (.c (.fn (.func 69) [] [])) [(.s 40)], none, [], false⟩,
     ⟨(some 42), .bin .neq .num (.s 41) (.c (.int .i64 0)), none, [], false⟩])
   (.cond (.s 42)
    (.seq (.reg [] [⟨(some 4), .mv (.c (.sl .nil [])), none, [], true⟩,
      ⟨(some 5), .mv (.c (.bool false)), none, [], true⟩])
    .ret)
    .skip))
   (.seq (.reg [0, 1, 6, 7] [⟨(some 43), .load true 2 (.s 7), none, [], false⟩,
     ⟨(some 44), .mv (.s 0), none, [], false⟩,
     ⟨(some 45), .len false (.s 44), none, [], false⟩,
     ⟨(some 46), .mv (.s 1), none, [], false⟩,
     ⟨(some 47), .len false (.s 46), none, [], false⟩,
     ⟨(some 48), .bin .sub .num (.s 45) (.s 47), none, [], false⟩,
     ⟨(some 49), .call (.c (.fn (.func 172) [] [])) [(.s 43), (.s 48)], none, [], false⟩,
     ⟨(some 10), .mv (.s 49), none, [], true⟩])
   (.seq (.reg [0, 1, 6, 10] [⟨(some 50), .mv (.s 6), none, [], false⟩,
     ⟨(some 51), .mv (.s 10), none, [], false⟩,
     ⟨(some 52), .call (.c (.fn (.func 130) [] [])) [(.s 50), (.s 51)], none, [], false⟩,
     ⟨(some 6), .mv (.s 52), none, [], true⟩])
   (.reg [0, 1, 6, 10] [⟨(some 53), .mv (.s 0), none, [], false⟩,
     ⟨(some 54), .mv (.s 10), none, [], false⟩,
     ⟨(some 55), .mv (.s 1), none, [], false⟩,
     ⟨(some 56), .call (.c (.fn (.func 85) [] [])) [(.s 54), (.s 55)], none, [], false⟩,
     ⟨(some 57), .call (.c (.fn (.func 132) [] [])) [(.s 53), (.s 56)], none, [], false⟩,
     ⟨(some 0), .mv (.s 57), none, [], true⟩])))))))
def i127 : IFn := { nparams := 2, ntmps := 62, results := [.tmp 4, .tmp 5], body :=
  (.seq (.reg [0, 1] [⟨(some 4), .mv (.c (.sl .nil [])), none, [], true⟩,
     ⟨(some 5), .mv (.c (.bool false)), none, [], true⟩])
   (.seq (.reg [0, 1] [⟨(some 11), .mv (.s 0), none, [], false⟩,
     ⟨(some 12), .call (.c (.fn (.func 110) [] [])) [(.s 11)], none, [], false⟩,
     ⟨(some 13), .mv (.s 1), none, [], false⟩,
     ⟨(some 14), .call (.c (.fn (.func 110) [] [])) [(.s 13)], none, [], false⟩,
     ⟨(some 0), .mv (.s 12), none, [], true⟩,
     ⟨(some 1), .mv (.s 14), none, [], true⟩])
   (.seq (.seq (.reg [0, 1] [⟨(some 15), .mv (.s 1), none, [], false⟩,
     ⟨(some 16), .len false (.s 15), none, [], false⟩,
     ⟨(some 17), .bin .eql .num (.s 16) (.c (.int .i64 0)), none, [], false⟩])
   (.cond (.s 17)
    (.seq (.reg [] [⟨(some 4), .mv (.c (.sl .nil [])), none, [], true⟩,
      ⟨(some 5), .mv (.c (.bool false)), none, [], true⟩])
    .ret)
    .skip))
   (.seq (.reg [0, 1] [⟨(some 6), .mv (.c (.sl .nil [])), none, [], true⟩])
   (.seq (.block 0
    (.loop [0, 1, 6] i127b0))
   (.seq (.seq (.reg [0, 6] [⟨(some 58), .mv (.s 0), none, [], false⟩,
     ⟨(some 59), .len false (.s 58), none, [], false⟩,
     ⟨(some 60), .bin .gtr .num (.s 59) (.c (.int .i64 0)), none, [], false⟩])
   (.cond (.s 60)
    (.seq (.reg [] [⟨(some 4), .mv (.c (.sl .nil [])), none, [], true⟩,
      ⟨(some 5), .mv (.c (.bool false)), none, [], true⟩])
    .ret)
    .skip))
   (.seq (.reg [6] [⟨(some 61), .mv (.s 6), none, [], false⟩,
     ⟨(some 4), .mv (.s 61), none, [], true⟩,
     ⟨(some 5), .mv (.c (.bool true)), none, [], true⟩])
   .ret))))))) }
theorem tr127 : trF Tryz.prog h127 Tryz.f127 = some i127 := by kernel_rfl

-- ashlar/limbs.Mul
def h128 : List (List Nat) := [[0, 1], [2, 3, 4]]
def i128 : IFn := { nparams := 2, ntmps := 16, results := [.cell 4 true 2], body :=
  (.seq (.reg [0, 1] [⟨(some 2), .box 2 (.s 0), none, [], false⟩,
     ⟨(some 3), .box 2 (.s 1), none, [], false⟩,
     ⟨(some 4), .alloc 2 (.agg [(.bool false), (.sl .nil [])]), none, [], false⟩])
   (.seq (.draw [2, 3, 4] [⟨(some 5), .load true 2 (.s 2), none, [], false⟩,
     ⟨(some 6), .call (.c (.fn (.func 157) [] [])) [(.s 5)], none, [0], false⟩,
     ⟨(some 7), .load true 2 (.s 3), none, [], false⟩,
     ⟨(some 8), .call (.c (.fn (.func 157) [] [])) [(.s 7)], none, [2, 1], false⟩,
     ⟨(some 9), .bin .neq .bool (.s 6) (.s 8), none, [1, 3], false⟩,
     ⟨(some 10), .load true 2 (.s 2), none, [], false⟩,
     ⟨(some 11), .call (.c (.fn (.func 115) [] [])) [(.s 10)], none, [5, 3], false⟩,
     ⟨(some 12), .load true 2 (.s 3), none, [], false⟩,
     ⟨(some 13), .call (.c (.fn (.func 115) [] [])) [(.s 12)], none, [7, 6], false⟩,
     ⟨(some 14), .call (.c (.fn (.func 173) [] [])) [(.s 11), (.s 13)], none, [6, 8], false⟩,
     ⟨(some 15), .call (.c (.fn (.func 148) [] [])) [(.s 9), (.s 14)], none, [4, 9], false⟩,
     ⟨none, .store 2 (.s 4) (.s 15), none, [10, 0, 1, 2, 3, 4, 5, 6, 7, 8, 9], false⟩])
   .ret)) }
theorem tr128 : trF Tryz.prog h128 Tryz.f128 = some i128 := by kernel_rfl

-- ashlar/ore.sum
def h129 : List (List Nat) := [[0, 1, 2], [0, 1, 2], [0, 1, 2, 7], [0, 1, 2, 7, 16, 17], [0, 1, 2, 7, 16, 17], [0, 1, 2, 7, 16, 17], [0, 1, 2, 7, 8, 16, 17], [0, 1, 2, 7, 16, 17], [7]]
def i129b0 : ICode :=
  (.seq (.reg [0, 1, 2, 7, 16, 17] [⟨(some 18), .bin .lss .num (.s 17) (.s 16), none, [], false⟩])
  (.seq (.cond (.s 18)
   .skip
   (.exit 0))
  (.seq (.block 1
   (.seq (.reg [0, 1, 2, 7, 16, 17] [⟨(some 19), .mv (.s 17), none, [], false⟩,
     ⟨(some 8), .mv (.s 19), none, [], true⟩])
   (.reg [0, 1, 2, 7, 8, 16, 17] [⟨(some 20), .mv (.s 7), none, [], false⟩,
     ⟨(some 21), .mv (.s 8), none, [], false⟩,
     ⟨(some 22), .mv (.s 2), none, [], false⟩,
     ⟨(some 23), .mv (.s 0), none, [], false⟩,
     ⟨(some 24), .mv (.s 8), none, [], false⟩,
     ⟨(some 25), .call (.c (.fn (.func 174) [] [])) [(.s 23), (.s 24)], none, [], false⟩,
     ⟨(some 26), .mv (.s 1), none, [], false⟩,
     ⟨(some 27), .mv (.s 8), none, [], false⟩,
     ⟨(some 28), .call (.c (.fn (.func 174) [] [])) [(.s 26), (.s 27)], none, [], false⟩,
     ⟨(some 29), .call (.s 22) [(.s 25), (.s 28)], none, [], false⟩,
     ⟨(some 30), .idxA 1 (.s 20) (.s 21), none, [], false⟩,
     ⟨none, .store 1 (.s 30) (.s 29), none, [], false⟩])))
  (.reg [0, 1, 2, 7, 16, 17] [⟨(some 31), .bin .add .num (.s 17) (.c (.int .i64 1)), none, [], false⟩,
    ⟨(some 17), .mv (.s 31), none, [], false⟩]))))
def i129 : IFn := { nparams := 3, ntmps := 34, results := [.tmp 6], body :=
  (.seq (.reg [0, 1, 2] [⟨(some 6), .mv (.c (.sl .nil [])), none, [], true⟩])
   (.seq (.reg [0, 1, 2] [⟨(some 9), .mv (.s 0), none, [], false⟩,
     ⟨(some 10), .len false (.s 9), none, [], false⟩,
     ⟨(some 11), .mv (.s 1), none, [], false⟩,
     ⟨(some 12), .len false (.s 11), none, [], false⟩,
     ⟨(some 13), .mx [(.s 10), (.s 12)], none, [], false⟩,
     ⟨(some 14), .mksl 1 24 (.sl .nil []) (.s 13) (.s 13), none, [], false⟩,
     ⟨(some 7), .mv (.s 14), none, [], true⟩])
   (.seq (.seq (.reg [0, 1, 2, 7] [⟨(some 15), .mv (.s 7), none, [], false⟩,
     ⟨(some 16), .len false (.s 15), none, [], false⟩,
     ⟨(some 17), .mv (.c (.int .i64 0)), none, [], false⟩])
   (.block 0
    (.loop [0, 1, 2, 7, 16, 17] i129b0)))
   (.seq (.reg [7] [⟨(some 32), .mv (.s 7), none, [], false⟩,
     ⟨(some 33), .call (.c (.fn (.func 74) [] [])) [(.s 32)], none, [], false⟩,
     ⟨(some 6), .mv (.s 33), none, [], true⟩])
   .ret)))) }
theorem tr129 : trF Tryz.prog h129 Tryz.f129 = some i129 := by kernel_rfl

-- ashlar/upoly.Add
def h130 : List (List Nat) := [[0, 1], [0, 1]]
def i130 : IFn := { nparams := 2, ntmps := 8, results := [.tmp 4], body :=
  (.seq (.reg [0, 1] [⟨(some 4), .mv (.c (.sl .nil [])), none, [], true⟩])
   (.seq (.reg [0, 1] [⟨(some 5), .mv (.s 0), none, [], false⟩,
     ⟨(some 6), .mv (.s 1), none, [], false⟩,
     ⟨(some 7), .call (.c (.fn (.func 175) [] [])) [(.s 5), (.s 6), (.c (.fn (.func 70) [] []))], none, [], false⟩,
     ⟨(some 4), .mv (.s 7), none, [], true⟩])
   .ret)) }
theorem tr130 : trF Tryz.prog h130 Tryz.f130 = some i130 := by kernel_rfl

-- (ashlar/ore.factor).times
def h131 : List (List Nat) := [[0, 1], [1, 2]]
def i131 : IFn := { nparams := 2, ntmps := 9, results := [.tmp 4], body :=
  (.seq (.reg [0, 1] [⟨(some 2), .box 1 (.s 0), none, [], false⟩,
     ⟨(some 4), .mv (.c (.sl .nil [])), none, [], true⟩])
   (.seq (.reg [1, 2] [⟨(some 5), .fldA 0 false 1 (.s 2), none, [], false⟩,
     ⟨(some 6), .load false 1 (.s 5), none, [], false⟩,
     ⟨(some 7), .mv (.s 1), none, [], false⟩,
     ⟨(some 8), .call (.c (.fn (.func 85) [] [])) [(.s 6), (.s 7)], none, [], false⟩,
     ⟨(some 4), .mv (.s 8), none, [], true⟩])
   .ret)) }
theorem tr131 : trF Tryz.prog h131 Tryz.f131 = some i131 := by kernel_rfl

-- ashlar/upoly.Sub
def h132 : List (List Nat) := [[0, 1], [0, 1]]
def i132 : IFn := { nparams := 2, ntmps := 8, results := [.tmp 4], body :=
  (.seq (.reg [0, 1] [⟨(some 4), .mv (.c (.sl .nil [])), none, [], true⟩])
   (.seq (.reg [0, 1] [⟨(some 5), .mv (.s 0), none, [], false⟩,
     ⟨(some 6), .mv (.s 1), none, [], false⟩,
     ⟨(some 7), .call (.c (.fn (.func 175) [] [])) [(.s 5), (.s 6), (.c (.fn (.func 176) [] []))], none, [], false⟩,
     ⟨(some 4), .mv (.s 7), none, [], true⟩])
   .ret)) }
theorem tr132 : trF Tryz.prog h132 Tryz.f132 = some i132 := by kernel_rfl

-- (*ashlar/ore.Rule).Algebra
def h133 : List (List Nat) := [[0], [0], [], [0]]
def i133 : IFn := { nparams := 1, ntmps := 9, results := [.tmp 2], body :=
  (.seq (.reg [0] [⟨(some 2), .mv (.c (.int .i64 0)), none, [], true⟩])
   (.seq (.seq (.reg [0] [⟨(some 3), .mv (.s 0), none, [], false⟩,
     ⟨(some 4), .bin .eql .ptr (.s 3) (.c .nilPtr), none, [], false⟩])
   (.cond (.s 4)
    (.seq (.reg [] [⟨(some 2), .mv (.c (.int .i64 0)), none, [], true⟩])
    .ret)
    .skip))
   (.seq (.reg [0] [⟨(some 5), .mv (.s 0), none, [], false⟩,
     ⟨(some 6), .nilc (.s 5), none, [], false⟩,
     ⟨(some 7), .fldA 0 false 1 (.s 6), none, [], false⟩,
     ⟨(some 8), .load false 1 (.s 7), none, [], false⟩,
     ⟨(some 2), .mv (.s 8), none, [], true⟩])
   .ret))) }
theorem tr133 : trF Tryz.prog h133 Tryz.f133 = some i133 := by kernel_rfl

-- ashlar/upoly.Shift
def h134 : List (List Nat) := [[0, 1], [0, 3], [0, 3], [0, 3, 5], [0, 3, 5, 6], [0, 3, 5, 6], [0, 3, 5, 6], [0, 3, 5, 6], [5]]
def i134b0 : ICode :=
  (.seq (.seq (.reg [0, 3, 5, 6] [⟨(some 12), .mv (.s 6), none, [], false⟩,
    ⟨(some 13), .bin .geq .num (.s 12) (.c (.int .i64 0)), none, [], false⟩])
  (.cond (.s 13)
   .skip
   (.exit 0)))
  (.seq (.block 1
   (.draw [0, 3, 5, 6] [⟨(some 16), .mv (.s 5), none, [], false⟩,
     ⟨(some 17), .load true 2 (.s 3), none, [], false⟩,
     ⟨(some 18), .call (.c (.fn (.func 177) [] [])) [(.s 17)], none, [1], false⟩,
     ⟨(some 19), .call (.c (.fn (.func 85) [] [])) [(.s 16), (.s 18)], none, [0, 2], false⟩,
     ⟨(some 20), .mv (.s 0), none, [], false⟩,
     ⟨(some 21), .mv (.s 6), none, [], false⟩,
     ⟨(some 22), .idxA 2 (.s 20) (.s 21), none, [4, 5], false⟩,
     ⟨(some 23), .load true 2 (.s 22), none, [6], false⟩,
     ⟨(some 24), .bsl 2 (.agg [(.bool false), (.sl .nil [])]) 1 [(0, (.s 23))], none, [7], false⟩,
     ⟨(some 25), .call (.c (.fn (.func 130) [] [])) [(.s 19), (.s 24)], none, [3, 8], false⟩,
     ⟨(some 5), .mv (.s 25), none, [9, 0, 1, 2, 3, 4, 5, 6, 7, 8], true⟩]))
  (.reg [0, 3, 5, 6] [⟨(some 14), .mv (.s 6), none, [], false⟩,
    ⟨(some 15), .bin .sub .num (.s 14) (.c (.int .i64 1)), none, [], false⟩,
    ⟨(some 6), .mv (.s 15), none, [], true⟩])))
def i134 : IFn := { nparams := 2, ntmps := 27, results := [.tmp 4], body :=
  (.seq (.reg [0, 1] [⟨(some 3), .box 2 (.s 1), none, [], false⟩,
     ⟨(some 4), .mv (.c (.sl .nil [])), none, [], true⟩])
   (.seq (.reg [0, 3] [⟨(some 7), .mv (.s 0), none, [], false⟩,
     ⟨(some 8), .call (.c (.fn (.func 122) [] [])) [(.s 7)], none, [], false⟩,
     ⟨(some 0), .mv (.s 8), none, [], true⟩])
   (.seq (.reg [0, 3] [⟨(some 5), .mv (.c (.sl .nil [])), none, [], true⟩])
   (.seq (.seq (.reg [0, 3, 5] [⟨(some 9), .mv (.s 0), none, [], false⟩,
     ⟨(some 10), .len false (.s 9), none, [], false⟩,
     ⟨(some 11), .bin .sub .num (.s 10) (.c (.int .i64 1)), none, [], false⟩,
     ⟨(some 6), .mv (.s 11), none, [], true⟩])
   (.block 0
    (.loop [0, 3, 5, 6] i134b0)))
   (.seq (.reg [5] [⟨(some 26), .mv (.s 5), none, [], false⟩,
     ⟨(some 4), .mv (.s 26), none, [], true⟩])
   .ret))))) }
theorem tr134 : trF Tryz.prog h134 Tryz.f134 = some i134 := by kernel_rfl

-- (*ashlar/ore.Rule).stretch
def h135 : List (List Nat) := [[0, 1], [0, 1], [0, 5], [0, 5, 6], [0, 5, 6, 12, 13], [0, 5, 6, 12, 13], [0, 5, 6, 12, 13], [0, 5, 6, 7, 12, 13], [0, 5, 6, 12, 13], [0, 5, 6, 12, 13], [5]]
def i135b0 : ICode :=
  (.seq (.reg [0, 5, 6, 12, 13] [⟨(some 14), .bin .lss .num (.s 13) (.s 12), none, [], false⟩])
  (.seq (.cond (.s 14)
   .skip
   (.exit 0))
  (.seq (.block 1
   (.seq (.reg [0, 5, 6, 12, 13] [⟨(some 15), .mv (.s 13), none, [], false⟩,
     ⟨(some 7), .mv (.s 15), none, [], true⟩])
   (.seq (.draw [0, 5, 6, 7, 12, 13] [⟨(some 16), .mv (.s 5), none, [], false⟩,
     ⟨(some 17), .mv (.s 7), none, [], false⟩,
     ⟨(some 18), .mv (.s 5), none, [], false⟩,
     ⟨(some 19), .mv (.s 7), none, [], false⟩,
     ⟨(some 20), .idxA 2 (.s 18) (.s 19), none, [2, 3], false⟩,
     ⟨(some 21), .load true 2 (.s 20), none, [4], false⟩,
     ⟨(some 22), .load true 2 (.s 6), none, [], false⟩,
     ⟨(some 23), .call (.c (.fn (.func 128) [] [])) [(.s 21), (.s 22)], none, [5, 6], false⟩,
     ⟨(some 24), .idxA 2 (.s 16) (.s 17), none, [0, 1, 2, 3, 4, 5, 6, 7], false⟩,
     ⟨none, .store 2 (.s 24) (.s 23), none, [8, 7, 0, 1, 2, 3, 4, 5, 6], false⟩])
   (.draw [0, 5, 6, 12, 13] [⟨(some 25), .load true 2 (.s 6), none, [], false⟩,
     ⟨(some 26), .mv (.s 0), none, [], false⟩,
     ⟨(some 27), .nilc (.s 26), none, [1], false⟩,
     ⟨(some 28), .fldA 1 true 2 (.s 27), none, [2], false⟩,
     ⟨(some 29), .load true 2 (.s 28), none, [3], false⟩,
     ⟨(some 30), .call (.c (.fn (.func 128) [] [])) [(.s 25), (.s 29)], none, [0, 4], false⟩,
     ⟨none, .store 2 (.s 6) (.s 30), none, [5, 0, 1, 2, 3, 4], false⟩]))))
  (.reg [0, 5, 6, 12, 13] [⟨(some 31), .bin .add .num (.s 13) (.c (.int .i64 1)), none, [], false⟩,
    ⟨(some 13), .mv (.s 31), none, [], false⟩]))))
def i135 : IFn := { nparams := 2, ntmps := 33, results := [.tmp 4], body :=
  (.seq (.reg [0, 1] [⟨(some 4), .mv (.c (.sl .nil [])), none, [], true⟩])
   (.seq (.reg [0, 1] [⟨(some 8), .mv (.s 1), none, [], false⟩,
     ⟨(some 9), .call (.c (.fn (.func 110) [] [])) [(.s 8)], none, [], false⟩,
     ⟨(some 5), .mv (.s 9), none, [], true⟩])
   (.seq (.reg [0, 5] [⟨(some 10), .call (.c (.fn (.func 107) [] [])) [(.c (.int .i64 1))], none, [], false⟩,
     ⟨(some 6), .alloc 2 (.agg [(.bool false), (.sl .nil [])]), none, [], false⟩,
     ⟨none, .store 2 (.s 6) (.s 10), none, [], false⟩])
   (.seq (.seq (.reg [0, 5, 6] [⟨(some 11), .mv (.s 5), none, [], false⟩,
     ⟨(some 12), .len false (.s 11), none, [], false⟩,
     ⟨(some 13), .mv (.c (.int .i64 0)), none, [], false⟩])
   (.block 0
    (.loop [0, 5, 6, 12, 13] i135b0)))
   (.seq (.reg [5] [⟨(some 32), .mv (.s 5), none, [], false⟩,
     ⟨(some 4), .mv (.s 32), none, [], true⟩])
   .ret))))) }
theorem tr135 : trF Tryz.prog h135 Tryz.f135 = some i135 := by kernel_rfl

-- ashlar/upoly.Deriv
def h136 : List (List Nat) := [[0], [0], [0], [], [0], [0, 3], [0, 3, 15, 16], [0, 3, 15, 16], [0, 3, 15, 16], [0, 3, 4, 15, 16], [0, 3, 15, 16], [3]]
def i136b0 : ICode :=
  (.seq (.reg [0, 3, 15, 16] [⟨(some 17), .bin .lss .num (.s 16) (.s 15), none, [], false⟩])
  (.seq (.cond (.s 17)
   .skip
   (.exit 0))
  (.seq (.block 1
   (.seq (.reg [0, 3, 15, 16] [⟨(some 18), .mv (.s 16), none, [], false⟩,
     ⟨(some 4), .mv (.s 18), none, [], true⟩])
   (.draw [0, 3, 4, 15, 16] [⟨(some 19), .mv (.s 3), none, [], false⟩,
     ⟨(some 20), .mv (.s 4), none, [], false⟩,
     ⟨(some 21), .mv (.s 0), none, [], false⟩,
     ⟨(some 22), .mv (.s 4), none, [], false⟩,
     ⟨(some 23), .bin .add .num (.s 22) (.c (.int .i64 1)), none, [3], false⟩,
     ⟨(some 24), .idxA 2 (.s 21) (.s 23), none, [2, 4], false⟩,
     ⟨(some 25), .load true 2 (.s 24), none, [5], false⟩,
     ⟨(some 26), .mv (.s 4), none, [], false⟩,
     ⟨(some 27), .bin .add .num (.s 26) (.c (.int .i64 1)), none, [7], false⟩,
     ⟨(some 28), .call (.c (.fn (.func 107) [] [])) [(.s 27)], none, [8], false⟩,
     ⟨(some 29), .call (.c (.fn (.func 128) [] [])) [(.s 25), (.s 28)], none, [6, 9], false⟩,
     ⟨(some 30), .idxA 2 (.s 19) (.s 20), none, [0, 1, 2, 3, 4, 5, 6, 7, 8, 9, 10], false⟩,
     ⟨none, .store 2 (.s 30) (.s 29), none, [11, 10, 0, 1, 2, 3, 4, 5, 6, 7, 8, 9], false⟩])))
  (.reg [0, 3, 15, 16] [⟨(some 31), .bin .add .num (.s 16) (.c (.int .i64 1)), none, [], false⟩,
    ⟨(some 16), .mv (.s 31), none, [], false⟩]))))
def i136 : IFn := { nparams := 1, ntmps := 34, results := [.tmp 2], body :=
  (.seq (.reg [0] [⟨(some 2), .mv (.c (.sl .nil [])), none, [], true⟩])
   (.seq (.reg [0] [⟨(some 5), .mv (.s 0), none, [], false⟩,
     ⟨(some 6), .call (.c (.fn (.func 122) [] [])) [(.s 5)], none, [], false⟩,
     ⟨(some 0), .mv (.s 6), none, [], true⟩])
   (.seq (.seq (.reg [0] [⟨(some 7), .mv (.s 0), none, [], false⟩,
     ⟨(some 8), .len false (.s 7), none, [], false⟩,
     ⟨(some 9), .bin .lss .num (.s 8) (.c (.int .i64 2)), none, [], false⟩])
   (.cond (.s 9)
    (.seq (.reg [] [⟨(some 2), .mv (.c (.sl .nil [])), none, [], true⟩])
    .ret)
    .skip))
   (.seq (.reg [0] [⟨(some 10), .mv (.s 0), none, [], false⟩,
     ⟨(some 11), .len false (.s 10), none, [], false⟩,
     ⟨(some 12), .bin .sub .num (.s 11) (.c (.int .i64 1)), none, [], false⟩,
     ⟨(some 13), .mksl 2 32 (.agg [(.bool false), (.sl .nil [])]) (.s 12) (.s 12), none, [], false⟩,
     ⟨(some 3), .mv (.s 13), none, [], true⟩])
   (.seq (.seq (.reg [0, 3] [⟨(some 14), .mv (.s 3), none, [], false⟩,
     ⟨(some 15), .len false (.s 14), none, [], false⟩,
     ⟨(some 16), .mv (.c (.int .i64 0)), none, [], false⟩])
   (.block 0
    (.loop [0, 3, 15, 16] i136b0)))
   (.seq (.reg [3] [⟨(some 32), .mv (.s 3), none, [], false⟩,
     ⟨(some 33), .call (.c (.fn (.func 122) [] [])) [(.s 32)], none, [], false⟩,
     ⟨(some 2), .mv (.s 33), none, [], true⟩])
   .ret)))))) }
theorem tr136 : trF Tryz.prog h136 Tryz.f136 = some i136 := by kernel_rfl

-- ashlar/ashlarref3.Bits
def h137 : List (List Nat) := [[0], [0], [0, 3], [0, 3, 4], [0, 3, 4], [0, 3, 4], [0, 3, 4, 5], [0, 4, 5], [0, 3, 4], [3]]
def i137b0 : ICode :=
  (.seq (.seq (.reg [0, 3, 4] [⟨(some 6), .mv (.s 4), none, [], false⟩,
    ⟨(some 7), .mv (.s 0), none, [], false⟩,
    ⟨(some 8), .len false (.s 7), none, [], false⟩,
    ⟨(some 9), .bin .lss .num (.s 6) (.s 8), none, [], false⟩])
  (.cond (.s 9)
   .skip
   (.exit 0)))
  (.seq (.block 1
   (.seq (.reg [0, 3, 4] [⟨(some 12), .mv (.s 0), none, [], false⟩,
     ⟨(some 13), .mv (.s 4), none, [], false⟩,
     ⟨(some 14), .idxA 2 (.s 12) (.s 13), none, [], false⟩,
     ⟨(some 15), .load true 2 (.s 14), none, [], false⟩,
     ⟨(some 16), .call (.c (.fn (.func 44) [] [])) [(.s 15)], none, [], false⟩,
     ⟨(some 5), .mv (.s 16), none, [], true⟩])
   (.seq (.reg [0, 3, 4, 5] [⟨(some 17), .mv (.s 5), none, [], false⟩,
     ⟨(some 18), .mv (.s 3), none, [], false⟩,
     ⟨(some 19), .bin .gtr .num (.s 17) (.s 18), none, [], false⟩])
   (.cond (.s 19)
    (.reg [0, 4, 5] [⟨(some 20), .mv (.s 5), none, [], false⟩,
      ⟨(some 3), .mv (.s 20), none, [], true⟩])
    .skip))))
  (.reg [0, 3, 4] [⟨(some 10), .mv (.s 4), none, [], false⟩,
    ⟨(some 11), .bin .add .num (.s 10) (.c (.int .i64 1)), none, [], false⟩,
    ⟨(some 4), .mv (.s 11), none, [], true⟩])))
def i137 : IFn := { nparams := 1, ntmps := 22, results := [.tmp 2], body :=
  (.seq (.reg [0] [⟨(some 2), .mv (.c (.int .i64 0)), none, [], true⟩])
   (.seq (.reg [0] [⟨(some 3), .mv (.c (.int .i64 0)), none, [], true⟩])
   (.seq (.seq (.reg [0, 3] [⟨(some 4), .mv (.c (.int .i64 0)), none, [], true⟩])
   (.block 0
    (.loop [0, 3, 4] i137b0)))
   (.seq (.reg [3] [⟨(some 21), .mv (.s 3), none, [], false⟩,
     ⟨(some 2), .mv (.s 21), none, [], true⟩])
   .ret)))) }
theorem tr137 : trF Tryz.prog h137 Tryz.f137 = some i137 := by kernel_rfl

-- ashlar/ashlarref1.add
def h138 : List (List Nat) := [[0, 1], [0, 1], [0, 1, 5], [0, 1, 5, 6], [0, 1, 5, 6, 7], [0, 1, 5, 6, 7], [0, 1, 5, 6, 7], [0, 1, 5, 6, 7], [0, 1, 5, 6, 7], [0, 1, 5, 6, 7], [0, 1, 5, 6, 7], [0, 1, 5, 6, 7], [0, 1, 5, 6, 7], [5]]
def i138b0 : ICode :=
  (.seq (.seq (.reg [0, 1, 5, 6, 7] [⟨(some 8), .mv (.s 7), none, [], false⟩,
    ⟨(some 9), .mv (.s 0), none, [], false⟩,
    ⟨(some 10), .len false (.s 9), none, [], false⟩,
    ⟨(some 11), .bin .lss .num (.s 8) (.s 10), none, [], false⟩,
    ⟨(some 12), .mv (.s 11), none, [], false⟩,
    ⟨(some 13), .mv (.s 7), (some (12, false)), [], false⟩,
    ⟨(some 14), .mv (.s 1), (some (12, false)), [], false⟩,
    ⟨(some 15), .len false (.s 14), (some (12, false)), [], false⟩,
    ⟨(some 16), .bin .lss .num (.s 13) (.s 15), (some (12, false)), [], false⟩,
    ⟨(some 17), .pick (.s 12) (.c (.bool true)) (.s 16), none, [], false⟩,
    ⟨(some 18), .mv (.s 17), none, [], false⟩,
    ⟨(some 19), .mv (.s 6), (some (18, false)), [], false⟩,
    ⟨(some 20), .bin .gtr .num (.s 19) (.c (.int .i64 0)), (some (18, false)), [], false⟩,
    ⟨(some 21), .pick (.s 18) (.c (.bool true)) (.s 20), none, [], false⟩])
  (.cond (.s 21)
   .skip
   (.exit 0)))
  (.seq (.block 1
   (.seq (.seq (.reg [0, 1, 5, 6, 7] [⟨(some 24), .mv (.s 7), none, [], false⟩,
     ⟨(some 25), .mv (.s 0), none, [], false⟩,
     ⟨(some 26), .len false (.s 25), none, [], false⟩,
     ⟨(some 27), .bin .lss .num (.s 24) (.s 26), none, [], false⟩])
   (.cond (.s 27)
    (.reg [0, 1, 5, 6, 7] [⟨(some 28), .mv (.s 6), none, [], false⟩,
      ⟨(some 29), .mv (.s 0), none, [], false⟩,
      ⟨(some 30), .mv (.s 7), none, [], false⟩,
      ⟨(some 31), .idxA 1 (.s 29) (.s 30), none, [], false⟩,
      ⟨(some 32), .load false 1 (.s 31), none, [], false⟩,
      ⟨(some 33), .bin .add .num (.s 28) (.s 32), none, [], false⟩,
      ⟨(some 6), .mv (.s 33), none, [], true⟩])
    .skip))
   (.seq (.seq (.reg [0, 1, 5, 6, 7] [⟨(some 34), .mv (.s 7), none, [], false⟩,
     ⟨(some 35), .mv (.s 1), none, [], false⟩,
     ⟨(some 36), .len false (.s 35), none, [], false⟩,
     ⟨(some 37), .bin .lss .num (.s 34) (.s 36), none, [], false⟩])
   (.cond (.s 37)
    (.reg [0, 1, 5, 6, 7] [⟨(some 38), .mv (.s 6), none, [], false⟩,
      ⟨(some 39), .mv (.s 1), none, [], false⟩,
      ⟨(some 40), .mv (.s 7), none, [], false⟩,
      ⟨(some 41), .idxA 1 (.s 39) (.s 40), none, [], false⟩,
      ⟨(some 42), .load false 1 (.s 41), none, [], false⟩,
      ⟨(some 43), .bin .add .num (.s 38) (.s 42), none, [], false⟩,
      ⟨(some 6), .mv (.s 43), none, [], true⟩])
    .skip))
   (.seq (.reg [0, 1, 5, 6, 7] [⟨(some 44), .mv (.s 5), none, [], false⟩,
     ⟨(some 45), .mv (.s 6), none, [], false⟩,
     ⟨(some 46), .bin .rem .num (.s 45) (.c (.int .i64 65536)), none, [], false⟩,
     ⟨(some 47), .bsl 1 (.int .i64 0) 1 [(0, (.s 46))], none, [], false⟩,
     ⟨(some 48), .app 1 8 (.s 44) (.s 47), none, [], false⟩,
     ⟨(some 5), .mv (.s 48), none, [], true⟩])
   (.reg [0, 1, 5, 6, 7] [⟨(some 49), .mv (.s 6), none, [], false⟩,
     ⟨(some 50), .bin .quo .num (.s 49) (.c (.int .i64 65536)), none, [], false⟩,
     ⟨(some 6), .mv (.s 50), none, [], true⟩])))))
  (.reg [0, 1, 5, 6, 7] [⟨(some 22), .mv (.s 7), none, [], false⟩,
    ⟨(some 23), .bin .add .num (.s 22) (.c (.int .i64 1)), none, [], false⟩,
    ⟨(some 7), .mv (.s 23), none, [], true⟩])))
def i138 : IFn := { nparams := 2, ntmps := 52, results := [.tmp 4], body :=
  (.seq (.reg [0, 1] [⟨(some 4), .mv (.c (.sl .nil [])), none, [], true⟩])
   (.seq (.reg [0, 1] [⟨(some 5), .mv (.c (.sl .nil [])), none, [], true⟩])
   (.seq (.reg [0, 1, 5] [⟨(some 6), .mv (.c (.int .i64 0)), none, [], true⟩])
   (.seq (.seq (.reg [0, 1, 5, 6] [⟨(some 7), .mv (.c (.int .i64 0)), none, [], true⟩])
   (.block 0
    (.loop [0, 1, 5, 6, 7] i138b0)))
   (.seq (.reg [5] [⟨(some 51), .mv (.s 5), none, [], false⟩,
     ⟨(some 4), .mv (.s 51), none, [], true⟩])
   .ret))))) }
theorem tr138 : trF Tryz.prog h138 Tryz.f138 = some i138 := by kernel_rfl

-- ashlar/ashlarref1.cmp
def h139 : List (List Nat) := [[0, 1], [0, 1], [0, 1], [], [], [0, 1], [0, 1, 5], [0, 1, 5], [0, 1, 5], [], [0, 1, 5], [], [0, 1, 5], []]
def i139b0 : ICode :=
  (.seq (.seq (.reg [0, 1, 5] [⟨(some 19), .mv (.s 5), none, [], false⟩,
    ⟨(some 20), .bin .geq .num (.s 19) (.c (.int .i64 0)), none, [], false⟩])
  (.cond (.s 20)
   .skip
   (.exit 0)))
  (.seq (.block 1
   (.seq (.seq (.draw [0, 1, 5] [⟨(some 23), .mv (.s 0), none, [], false⟩,
     ⟨(some 24), .mv (.s 5), none, [], false⟩,
     ⟨(some 25), .idxA 1 (.s 23) (.s 24), none, [0, 1], false⟩,
     ⟨(some 26), .load false 1 (.s 25), none, [2], false⟩,
     ⟨(some 27), .mv (.s 1), none, [], false⟩,
     ⟨(some 28), .mv (.s 5), none, [], false⟩,
     ⟨(some 29), .idxA 1 (.s 27) (.s 28), none, [4, 5], false⟩,
     ⟨(some 30), .load false 1 (.s 29), none, [6], false⟩,
     ⟨(some 31), .bin .lss .num (.s 26) (.s 30), none, [3, 7], false⟩])
   (.cond (.s 31)
    (.seq (.reg [] [⟨(some 4), .mv (.c (.int .i64 (-1))), none, [], true⟩])
    .ret)
    .skip))
   (.seq (.draw [0, 1, 5] [⟨(some 32), .mv (.s 0), none, [], false⟩,
     ⟨(some 33), .mv (.s 5), none, [], false⟩,
     ⟨(some 34), .idxA 1 (.s 32) (.s 33), none, [0, 1], false⟩,
     ⟨(some 35), .load false 1 (.s 34), none, [2], false⟩,
     ⟨(some 36), .mv (.s 1), none, [], false⟩,
     ⟨(some 37), .mv (.s 5), none, [], false⟩,
     ⟨(some 38), .idxA 1 (.s 36) (.s 37), none, [4, 5], false⟩,
     ⟨(some 39), .load false 1 (.s 38), none, [6], false⟩,
     ⟨(some 40), .bin .gtr .num (.s 35) (.s 39), none, [3, 7], false⟩])
   (.cond (.s 40)
    (.seq (.reg [] [⟨(some 4), .mv (.c (.int .i64 1)), none, [], true⟩])
    .ret)
    .skip))))
  (.reg [0, 1, 5] [⟨(some 21), .mv (.s 5), none, [], false⟩,
    ⟨(some 22), .bin .sub .num (.s 21) (.c (.int .i64 1)), none, [], false⟩,
    ⟨(some 5), .mv (.s 22), none, [], true⟩])))
def i139 : IFn := { nparams := 2, ntmps := 41, results := [.tmp 4], body :=
  (.seq (.reg [0, 1] [⟨(some 4), .mv (.c (.int .i64 0)), none, [], true⟩])
   (.seq (.seq (.reg [0, 1] [⟨(some 6), .mv (.s 0), none, [], false⟩,
     ⟨(some 7), .len false (.s 6), none, [], false⟩,
     ⟨(some 8), .mv (.s 1), none, [], false⟩,
     ⟨(some 9), .len false (.s 8), none, [], false⟩,
     ⟨(some 10), .bin .neq .num (.s 7) (.s 9), none, [], false⟩])
   (.cond (.s 10)
    (.seq (.seq (.reg [0, 1] [⟨(some 11), .mv (.s 0), none, [], false⟩,
      ⟨(some 12), .len false (.s 11), none, [], false⟩,
      ⟨(some 13), .mv (.s 1), none, [], false⟩,
      ⟨(some 14), .len false (.s 13), none, [], false⟩,
      ⟨(some 15), .bin .lss .num (.s 12) (.s 14), none, [], false⟩])
    (.cond (.s 15)
     (.seq (.reg [] [⟨(some 4), .mv (.c (.int .i64 (-1))), none, [], true⟩])
     .ret)
     .skip))
    (.seq (.reg [] [⟨(some 4), .mv (.c (.int .i64 1)), none, [], true⟩])
    .ret))
    .skip))
   (.seq (.seq (.reg [0, 1] [⟨(some 16), .mv (.s 0), none, [], false⟩,
     ⟨(some 17), .len false (.s 16), none, [], false⟩,
     ⟨(some 18), .bin .sub .num (.s 17) (.c (.int .i64 1)), none, [], false⟩,
     ⟨(some 5), .mv (.s 18), none, [], true⟩])
   (.block 0
    (.loop [0, 1, 5] i139b0)))
   (.seq (.reg [] [⟨(some 4), .mv (.c (.int .i64 0)), none, [], true⟩])
   .ret)))) }
theorem tr139 : trF Tryz.prog h139 Tryz.f139 = some i139 := by kernel_rfl

-- ashlar/ashlarref1.sub
def h140 : List (List Nat) := [[0, 1], [0, 1], [0, 1, 5], [0, 1, 5, 6], [0, 1, 5, 6, 7], [0, 1, 5, 6, 7], [0, 1, 5, 6, 7], [0, 1, 5, 7, 8], [0, 1, 5, 6, 7, 8], [0, 1, 5, 6, 7, 8], [0, 1, 5, 6, 7, 8], [0, 1, 5, 7, 8], [0, 1, 5, 7, 8], [0, 1, 5, 6, 7, 8], [0, 1, 5, 6, 7], [5]]
def i140b0 : ICode :=
  (.seq (.seq (.reg [0, 1, 5, 6, 7] [⟨(some 9), .mv (.s 7), none, [], false⟩,
    ⟨(some 10), .mv (.s 0), none, [], false⟩,
    ⟨(some 11), .len false (.s 10), none, [], false⟩,
    ⟨(some 12), .bin .lss .num (.s 9) (.s 11), none, [], false⟩])
  (.cond (.s 12)
   .skip
   (.exit 0)))
  (.seq (.block 1
   (.seq (.reg [0, 1, 5, 6, 7] [⟨(some 15), .mv (.s 0), none, [], false⟩,
     ⟨(some 16), .mv (.s 7), none, [], false⟩,
     ⟨(some 17), .idxA 1 (.s 15) (.s 16), none, [], false⟩,
     ⟨(some 18), .load false 1 (.s 17), none, [], false⟩,
     ⟨(some 19), .mv (.s 6), none, [], false⟩,
     ⟨(some 20), .bin .sub .num (.s 18) (.s 19), none, [], false⟩,
     ⟨(some 8), .mv (.s 20), none, [], true⟩])
   (.seq (.reg [0, 1, 5, 7, 8] [⟨(some 6), .mv (.c (.int .i64 0)), none, [], true⟩])
   (.seq (.seq (.reg [0, 1, 5, 6, 7, 8] [⟨(some 21), .mv (.s 7), none, [], false⟩,
     ⟨(some 22), .mv (.s 1), none, [], false⟩,
     ⟨(some 23), .len false (.s 22), none, [], false⟩,
     ⟨(some 24), .bin .lss .num (.s 21) (.s 23), none, [], false⟩])
   (.cond (.s 24)
    (.reg [0, 1, 5, 6, 7, 8] [⟨(some 25), .mv (.s 8), none, [], false⟩,
      ⟨(some 26), .mv (.s 1), none, [], false⟩,
      ⟨(some 27), .mv (.s 7), none, [], false⟩,
      ⟨(some 28), .idxA 1 (.s 26) (.s 27), none, [], false⟩,
      ⟨(some 29), .load false 1 (.s 28), none, [], false⟩,
      ⟨(some 30), .bin .sub .num (.s 25) (.s 29), none, [], false⟩,
      ⟨(some 8), .mv (.s 30), none, [], true⟩])
    .skip))
   (.seq (.seq (.reg [0, 1, 5, 6, 7, 8] [⟨(some 31), .mv (.s 8), none, [], false⟩,
     ⟨(some 32), .bin .lss .num (.s 31) (.c (.int .i64 0)), none, [], false⟩])
   (.cond (.s 32)
    (.seq (.reg [0, 1, 5, 7, 8] [⟨(some 33), .mv (.s 8), none, [], false⟩,
      ⟨(some 34), .bin .add .num (.s 33) (.c (.int .i64 65536)), none, [], false⟩,
      ⟨(some 8), .mv (.s 34), none, [], true⟩])
    (.reg [0, 1, 5, 7, 8] [⟨(some 6), .mv (.c (.int .i64 1)), none, [], true⟩]))
    .skip))
   (.reg [0, 1, 5, 6, 7, 8] [⟨(some 35), .mv (.s 5), none, [], false⟩,
     ⟨(some 36), .mv (.s 8), none, [], false⟩,
     ⟨(some 37), .bsl 1 (.int .i64 0) 1 [(0, (.s 36))], none, [], false⟩,
     ⟨(some 38), .app 1 8 (.s 35) (.s 37), none, [], false⟩,
     ⟨(some 5), .mv (.s 38), none, [], true⟩]))))))
  (.reg [0, 1, 5, 6, 7] [⟨(some 13), .mv (.s 7), none, [], false⟩,
    ⟨(some 14), .bin .add .num (.s 13) (.c (.int .i64 1)), none, [], false⟩,
    ⟨(some 7), .mv (.s 14), none, [], true⟩])))
def i140 : IFn := { nparams := 2, ntmps := 40, results := [.tmp 4], body :=
  (.seq (.reg [0, 1] [⟨(some 4), .mv (.c (.sl .nil [])), none, [], true⟩])
   (.seq (.reg [0, 1] [⟨(some 5), .mv (.c (.sl .nil [])), none, [], true⟩])
   (.seq (.reg [0, 1, 5] [⟨(some 6), .mv (.c (.int .i64 0)), none, [], true⟩])
   (.seq (.seq (.reg [0, 1, 5, 6] [⟨(some 7), .mv (.c (.int .i64 0)), none, [], true⟩])
   (.block 0
    (.loop [0, 1, 5, 6, 7] i140b0)))
   (.seq (.reg [5] [⟨(some 39), .mv (.s 5), none, [], false⟩,
     ⟨(some 4), .mv (.s 39), none, [], true⟩])
   .ret))))) }
theorem tr140 : trF Tryz.prog h140 Tryz.f140 = some i140 := by kernel_rfl

-- ashlar/ashlarref3.Deriv
def h141 : List (List Nat) := [[0], [0], [0, 3], [0, 3, 4], [0, 3, 4], [0, 3, 4], [0, 3, 4], [3]]
def i141b0 : ICode :=
  (.seq (.seq (.reg [0, 3, 4] [⟨(some 5), .mv (.s 4), none, [], false⟩,
    ⟨(some 6), .mv (.s 0), none, [], false⟩,
    ⟨(some 7), .len false (.s 6), none, [], false⟩,
    ⟨(some 8), .bin .lss .num (.s 5) (.s 7), none, [], false⟩])
  (.cond (.s 8)
   .skip
   (.exit 0)))
  (.seq (.block 1
   (.draw [0, 3, 4] [⟨(some 11), .mv (.s 3), none, [], false⟩,
     ⟨(some 12), .mv (.s 4), none, [], false⟩,
     ⟨(some 13), .call (.c (.fn (.func 35) [] [])) [(.s 12)], none, [1], false⟩,
     ⟨(some 14), .mv (.s 0), none, [], false⟩,
     ⟨(some 15), .mv (.s 4), none, [], false⟩,
     ⟨(some 16), .idxA 2 (.s 14) (.s 15), none, [3, 4], false⟩,
     ⟨(some 17), .load true 2 (.s 16), none, [5], false⟩,
     ⟨(some 18), .call (.c (.fn (.func 95) [] [])) [(.s 13), (.s 17)], none, [2, 6], false⟩,
     ⟨(some 19), .bsl 2 (.agg [(.bool false), (.sl .nil [])]) 1 [(0, (.s 18))], none, [7], false⟩,
     ⟨(some 20), .app 2 32 (.s 11) (.s 19), none, [0, 8, 7], false⟩,
     ⟨(some 3), .mv (.s 20), none, [9, 0, 1, 2, 3, 4, 5, 6, 7, 8], true⟩]))
  (.reg [0, 3, 4] [⟨(some 9), .mv (.s 4), none, [], false⟩,
    ⟨(some 10), .bin .add .num (.s 9) (.c (.int .i64 1)), none, [], false⟩,
    ⟨(some 4), .mv (.s 10), none, [], true⟩])))
def i141 : IFn := { nparams := 1, ntmps := 23, results := [.tmp 2], body :=
  (.seq (.reg [0] [⟨(some 2), .mv (.c (.sl .nil [])), none, [], true⟩])
   (.seq (.reg [0] [⟨(some 3), .mv (.c (.sl .nil [])), none, [], true⟩])
   (.seq (.seq (.reg [0, 3] [⟨(some 4), .mv (.c (.int .i64 1)), none, [], true⟩])
   (.block 0
    (.loop [0, 3, 4] i141b0)))
   (.seq (.reg [3] [⟨(some 21), .mv (.s 3), none, [], false⟩,
     ⟨(some 22), .call (.c (.fn (.func 49) [] [])) [(.s 21)], none, [], false⟩,
     ⟨(some 2), .mv (.s 22), none, [], true⟩])
   .ret)))) }
theorem tr141 : trF Tryz.prog h141 Tryz.f141 = some i141 := by kernel_rfl

-- ashlar/ashlarref3.Shift
def h142 : List (List Nat) := [[0, 1], [0, 3]]
def i142 : IFn := { nparams := 2, ntmps := 10, results := [.tmp 4], body :=
  (.seq (.reg [0, 1] [⟨(some 3), .box 2 (.s 1), none, [], false⟩,
     ⟨(some 4), .mv (.c (.sl .nil [])), none, [], true⟩])
   (.seq (.draw [0, 3] [⟨(some 5), .mv (.s 0), none, [], false⟩,
     ⟨(some 6), .load true 2 (.s 3), none, [], false⟩,
     ⟨(some 7), .call (.c (.fn (.func 35) [] [])) [(.c (.int .i64 1))], none, [], false⟩,
     ⟨(some 8), .bsl 2 (.agg [(.bool false), (.sl .nil [])]) 2 [(0, (.s 6)), (1, (.s 7))], none, [1, 2], false⟩,
     ⟨(some 9), .call (.c (.fn (.func 143) [] [])) [(.s 5), (.s 8)], none, [0, 3, 2], false⟩,
     ⟨(some 4), .mv (.s 9), none, [4, 0, 1, 2, 3], true⟩])
   .ret)) }
theorem tr142 : trF Tryz.prog h142 Tryz.f142 = some i142 := by kernel_rfl

-- ashlar/ashlarref3.Compose
def h143 : List (List Nat) := [[0, 1], [0, 1], [0, 1, 5], [0, 1, 5, 6], [0, 1, 5, 6], [0, 1, 5, 6], [0, 1, 5, 6], [5]]
def i143b0 : ICode :=
  (.seq (.seq (.reg [0, 1, 5, 6] [⟨(some 10), .mv (.s 6), none, [], false⟩,
    ⟨(some 11), .bin .geq .num (.s 10) (.c (.int .i64 0)), none, [], false⟩])
  (.cond (.s 11)
   .skip
   (.exit 0)))
  (.seq (.block 1
   (.draw [0, 1, 5, 6] [⟨(some 14), .mv (.s 5), none, [], false⟩,
     ⟨(some 15), .mv (.s 1), none, [], false⟩,
     ⟨(some 16), .call (.c (.fn (.func 48) [] [])) [(.s 14), (.s 15)], none, [0, 1], false⟩,
     ⟨(some 17), .mv (.s 0), none, [], false⟩,
     ⟨(some 18), .mv (.s 6), none, [], false⟩,
     ⟨(some 19), .idxA 2 (.s 17) (.s 18), none, [3, 4], false⟩,
     ⟨(some 20), .load true 2 (.s 19), none, [5], false⟩,
     ⟨(some 21), .bsl 2 (.agg [(.bool false), (.sl .nil [])]) 1 [(0, (.s 20))], none, [6], false⟩,
     ⟨(some 22), .call (.c (.fn (.func 49) [] [])) [(.s 21)], none, [7, 2], false⟩,
     ⟨(some 23), .call (.c (.fn (.func 50) [] [])) [(.s 16), (.s 22)], none, [2, 8], false⟩,
     ⟨(some 5), .mv (.s 23), none, [9, 0, 1, 2, 3, 4, 5, 6, 7, 8], true⟩]))
  (.reg [0, 1, 5, 6] [⟨(some 12), .mv (.s 6), none, [], false⟩,
    ⟨(some 13), .bin .sub .num (.s 12) (.c (.int .i64 1)), none, [], false⟩,
    ⟨(some 6), .mv (.s 13), none, [], true⟩])))
def i143 : IFn := { nparams := 2, ntmps := 25, results := [.tmp 4], body :=
  (.seq (.reg [0, 1] [⟨(some 4), .mv (.c (.sl .nil [])), none, [], true⟩])
   (.seq (.reg [0, 1] [⟨(some 5), .mv (.c (.sl .nil [])), none, [], true⟩])
   (.seq (.seq (.reg [0, 1, 5] [⟨(some 7), .mv (.s 0), none, [], false⟩,
     ⟨(some 8), .len false (.s 7), none, [], false⟩,
     ⟨(some 9), .bin .sub .num (.s 8) (.c (.int .i64 1)), none, [], false⟩,
     ⟨(some 6), .mv (.s 9), none, [], true⟩])
   (.block 0
    (.loop [0, 1, 5, 6] i143b0)))
   (.seq (.reg [5] [⟨(some 24), .mv (.s 5), none, [], false⟩,
     ⟨(some 4), .mv (.s 24), none, [], true⟩])
   .ret)))) }
theorem tr143 : trF Tryz.prog h143 Tryz.f143 = some i143 := by kernel_rfl

-- (ashlar/zore.Line).thin$1
def h144 : List (List Nat) := [[0, 1], [0, 1]]
def i144 : IFn := { nparams := 2, ntmps := 7, results := [.tmp 3], body :=
  (.seq (.reg [0, 1] [⟨(some 3), .mv (.c (.sl .nil [])), none, [], true⟩])
   (.seq (.reg [0, 1] [⟨(some 4), .mv (.s 0), none, [], false⟩,
     ⟨(some 5), .load false 1 (.s 1), none, [], false⟩,
     ⟨(some 6), .call (.c (.fn (.func 84) [] [])) [(.s 4), (.s 5)], none, [], false⟩,
     ⟨(some 3), .mv (.s 6), none, [], true⟩])
   .ret)) }
theorem tr144 : trF Tryz.prog h144 Tryz.f144 = some i144 := by kernel_rfl

-- ashlar/upoly.same
def h145 : List (List Nat) := [[0], [1, 2]]
def i145 : IFn := { nparams := 1, ntmps := 6, results := [.cell 2 true 2], body :=
  (.seq (.reg [0] [⟨(some 1), .box 2 (.s 0), none, [], false⟩,
     ⟨(some 2), .alloc 2 (.agg [(.bool false), (.sl .nil [])]), none, [], false⟩])
   (.seq (.reg [1, 2] [⟨(some 3), .load true 2 (.s 1), none, [], false⟩,
     ⟨(some 4), .build [(.bool false), (.sl .nil [])] [], none, [], false⟩,
     ⟨(some 5), .call (.c (.fn (.func 70) [] [])) [(.s 3), (.s 4)], none, [], false⟩,
     ⟨none, .store 2 (.s 2) (.s 5), none, [], false⟩])
   .ret)) }
theorem tr145 : trF Tryz.prog h145 Tryz.f145 = some i145 := by kernel_rfl

-- ashlar/upoly.each
def h146 : List (List Nat) := [[0, 1], [0, 1], [0, 1], [0, 1, 5], [1, 5, 13, 14, 15], [1, 5, 13, 14, 15], [1, 5, 13, 14, 15], [1, 5, 6, 7, 13, 14, 15], [1, 5, 13, 14, 15], [5]]
def i146b0 : ICode :=
  (.seq (.reg [1, 5, 13, 14, 15] [⟨(some 16), .bin .lss .num (.s 15) (.s 14), none, [], false⟩])
  (.seq (.cond (.s 16)
   .skip
   (.exit 0))
  (.seq (.block 1
   (.seq (.reg [1, 5, 13, 14, 15] [⟨(some 17), .mv (.s 15), none, [], false⟩,
     ⟨(some 18), .idxA 2 (.s 13) (.s 15), none, [], false⟩,
     ⟨(some 19), .load true 2 (.s 18), none, [], false⟩,
     ⟨(some 7), .alloc 2 (.agg [(.bool false), (.sl .nil [])]), none, [], false⟩,
     ⟨(some 6), .mv (.s 17), none, [], true⟩,
     ⟨none, .store 2 (.s 7) (.s 19), none, [], false⟩])
   (.reg [1, 5, 6, 7, 13, 14, 15] [⟨(some 20), .mv (.s 5), none, [], false⟩,
     ⟨(some 21), .mv (.s 6), none, [], false⟩,
     ⟨(some 22), .mv (.s 1), none, [], false⟩,
     ⟨(some 23), .load true 2 (.s 7), none, [], false⟩,
     ⟨(some 24), .call (.s 22) [(.s 23)], none, [], false⟩,
     ⟨(some 25), .idxA 2 (.s 20) (.s 21), none, [], false⟩,
     ⟨none, .store 2 (.s 25) (.s 24), none, [], false⟩])))
  (.reg [1, 5, 13, 14, 15] [⟨(some 26), .bin .add .num (.s 15) (.c (.int .i64 1)), none, [], false⟩,
    ⟨(some 15), .mv (.s 26), none, [], false⟩]))))
def i146 : IFn := { nparams := 2, ntmps := 29, results := [.tmp 4], body :=
  (.seq (.reg [0, 1] [⟨(some 4), .mv (.c (.sl .nil [])), none, [], true⟩])
   (.seq (.reg [0, 1] [⟨(some 8), .mv (.s 0), none, [], false⟩,
     ⟨(some 9), .call (.c (.fn (.func 122) [] [])) [(.s 8)], none, [], false⟩,
     ⟨(some 0), .mv (.s 9), none, [], true⟩])
   (.seq (.reg [0, 1] [⟨(some 10), .mv (.s 0), none, [], false⟩,
     ⟨(some 11), .len false (.s 10), none, [], false⟩,
     ⟨(some 12), .mksl 2 32 (.agg [(.bool false), (.sl .nil [])]) (.s 11) (.s 11), none, [], false⟩,
     ⟨(some 5), .mv (.s 12), none, [], true⟩])
   (.seq (.seq (.reg [0, 1, 5] [⟨(some 13), .mv (.s 0), none, [], false⟩,
     ⟨(some 14), .len false (.s 13), none, [], false⟩,
     ⟨(some 15), .mv (.c (.int .i64 0)), none, [], false⟩])
   (.block 0
    (.loop [1, 5, 13, 14, 15] i146b0)))
   (.seq (.reg [5] [⟨(some 27), .mv (.s 5), none, [], false⟩,
     ⟨(some 28), .call (.c (.fn (.func 122) [] [])) [(.s 27)], none, [], false⟩,
     ⟨(some 4), .mv (.s 28), none, [], true⟩])
   .ret))))) }
theorem tr146 : trF Tryz.prog h146 Tryz.f146 = some i146 := by kernel_rfl

-- (ashlar/upoly.by).times
def h147 : List (List Nat) := [[0, 1], [2, 3, 4]]
def i147 : IFn := { nparams := 2, ntmps := 9, results := [.cell 4 true 2], body :=
  (.seq (.reg [0, 1] [⟨(some 2), .box 2 (.s 0), none, [], false⟩,
     ⟨(some 3), .box 2 (.s 1), none, [], false⟩,
     ⟨(some 4), .alloc 2 (.agg [(.bool false), (.sl .nil [])]), none, [], false⟩])
   (.seq (.reg [2, 3, 4] [⟨(some 5), .fldA 0 true 2 (.s 2), none, [], false⟩,
     ⟨(some 6), .load true 2 (.s 5), none, [], false⟩,
     ⟨(some 7), .load true 2 (.s 3), none, [], false⟩,
     ⟨(some 8), .call (.c (.fn (.func 128) [] [])) [(.s 6), (.s 7)], none, [], false⟩,
     ⟨none, .store 2 (.s 4) (.s 8), none, [], false⟩])
   .ret)) }
theorem tr147 : trF Tryz.prog h147 Tryz.f147 = some i147 := by kernel_rfl

-- ashlar/limbs.made
def h148 : List (List Nat) := [[0, 1], [0, 1, 4], [0, 1, 4], [4], [0, 1, 4]]
def i148 : IFn := { nparams := 2, ntmps := 15, results := [.cell 4 true 2], body :=
  (.seq (.reg [0, 1] [⟨(some 4), .alloc 2 (.agg [(.bool false), (.sl .nil [])]), none, [], false⟩])
   (.seq (.reg [0, 1, 4] [⟨(some 5), .mv (.s 1), none, [], false⟩,
     ⟨(some 6), .call (.c (.fn (.func 156) [] [])) [(.s 5)], none, [], false⟩,
     ⟨(some 1), .mv (.s 6), none, [], true⟩])
   (.seq (.seq (.reg [0, 1, 4] [⟨(some 7), .mv (.s 1), none, [], false⟩,
     ⟨(some 8), .len false (.s 7), none, [], false⟩,
     ⟨(some 9), .bin .eql .num (.s 8) (.c (.int .i64 0)), none, [], false⟩])
   (.cond (.s 9)
    (.seq (.reg [4] [⟨(some 10), .build [(.bool false), (.sl .nil [])] [], none, [], false⟩,
      ⟨none, .store 2 (.s 4) (.s 10), none, [], false⟩])
    .ret)
    .skip))
   (.seq (.reg [0, 1, 4] [⟨(some 11), .mv (.s 0), none, [], false⟩,
     ⟨(some 12), .mv (.s 1), none, [], false⟩,
     ⟨(some 13), .app 1 4 (.c (.sl .nil [])) (.s 12), none, [], false⟩,
     ⟨(some 14), .build [(.bool false), (.sl .nil [])] [(0, 1, (.s 11)), (1, 1, (.s 13))], none, [], false⟩,
     ⟨none, .store 2 (.s 4) (.s 14), none, [], false⟩])
   .ret)))) }
theorem tr148 : trF Tryz.prog h148 Tryz.f148 = some i148 := by kernel_rfl

-- ashlar/ashlarref1.Gcd
def h149 : List (List Nat) := [[0, 1], [2, 3, 4], [4, 5, 6], [4, 5, 6], [4, 5, 6], [4, 5, 6, 8], [4, 5]]
def i149b0 : ICode :=
  (.seq (.seq (.reg [4, 5, 6] [⟨(some 13), .load true 2 (.s 6), none, [], false⟩,
    ⟨(some 14), .call (.c (.fn (.func 96) [] [])) [(.s 13)], none, [], false⟩,
    ⟨(some 15), .bin .neq .num (.s 14) (.c (.int .i64 0)), none, [], false⟩])
  (.cond (.s 15)
   .skip
   (.exit 0)))
  (.block 1
   (.seq (.reg [4, 5, 6] [⟨(some 17), .load true 2 (.s 5), none, [], false⟩,
     ⟨(some 18), .load true 2 (.s 6), none, [], false⟩,
     ⟨(some 19), .call (.c (.fn (.func 113) [] [])) [(.s 17), (.s 18)], none, [], false⟩,
     ⟨(some 16), .mv (.s 19), none, [], false⟩,
     ⟨(some 20), .extr (.s 16) 0, none, [], false⟩,
     ⟨(some 21), .extr (.s 16) 1, none, [], false⟩,
     ⟨(some 7), .alloc 2 (.agg [(.bool false), (.sl .nil [])]), none, [], false⟩,
     ⟨(some 8), .alloc 2 (.agg [(.bool false), (.sl .nil [])]), none, [], false⟩,
     ⟨none, .store 2 (.s 7) (.s 20), none, [], false⟩,
     ⟨none, .store 2 (.s 8) (.s 21), none, [], false⟩])
   (.draw [4, 5, 6, 8] [⟨(some 22), .load true 2 (.s 6), none, [], false⟩,
     ⟨(some 23), .load true 2 (.s 8), none, [], false⟩,
     ⟨none, .store 2 (.s 5) (.s 22), none, [0], false⟩,
     ⟨none, .store 2 (.s 6) (.s 23), none, [1, 2, 0], false⟩]))))
def i149 : IFn := { nparams := 2, ntmps := 25, results := [.cell 4 true 2], body :=
  (.seq (.reg [0, 1] [⟨(some 2), .box 2 (.s 0), none, [], false⟩,
     ⟨(some 3), .box 2 (.s 1), none, [], false⟩,
     ⟨(some 4), .alloc 2 (.agg [(.bool false), (.sl .nil [])]), none, [], false⟩])
   (.seq (.draw [2, 3, 4] [⟨(some 9), .load true 2 (.s 2), none, [], false⟩,
     ⟨(some 10), .call (.c (.fn (.func 178) [] [])) [(.s 9)], none, [0], false⟩,
     ⟨(some 11), .load true 2 (.s 3), none, [], false⟩,
     ⟨(some 12), .call (.c (.fn (.func 178) [] [])) [(.s 11)], none, [2, 1], false⟩,
     ⟨(some 5), .alloc 2 (.agg [(.bool false), (.sl .nil [])]), none, [], false⟩,
     ⟨(some 6), .alloc 2 (.agg [(.bool false), (.sl .nil [])]), none, [], false⟩,
     ⟨none, .store 2 (.s 5) (.s 10), none, [4, 1, 3, 0, 5], false⟩,
     ⟨none, .store 2 (.s 6) (.s 12), none, [5, 3, 6, 0, 1, 2, 4], false⟩])
   (.seq (.block 0
    (.loop [4, 5, 6] i149b0))
   (.seq (.reg [4, 5] [⟨(some 24), .load true 2 (.s 5), none, [], false⟩,
     ⟨none, .store 2 (.s 4) (.s 24), none, [], false⟩])
   .ret)))) }
theorem tr149 : trF Tryz.prog h149 Tryz.f149 = some i149 := by kernel_rfl

-- ashlar/ashlarref3.Content
def h150 : List (List Nat) := [[0], [0, 2], [0, 2, 3], [0, 2, 3, 4], [0, 2, 3, 4], [0, 2, 3, 4], [0, 2, 3, 4], [2, 3]]
def i150b0 : ICode :=
  (.seq (.seq (.reg [0, 2, 3, 4] [⟨(some 6), .mv (.s 4), none, [], false⟩,
    ⟨(some 7), .mv (.s 0), none, [], false⟩,
    ⟨(some 8), .len false (.s 7), none, [], false⟩,
    ⟨(some 9), .bin .lss .num (.s 6) (.s 8), none, [], false⟩])
  (.cond (.s 9)
   .skip
   (.exit 0)))
  (.seq (.block 1
   (.draw [0, 2, 3, 4] [⟨(some 12), .load true 2 (.s 3), none, [], false⟩,
     ⟨(some 13), .mv (.s 0), none, [], false⟩,
     ⟨(some 14), .mv (.s 4), none, [], false⟩,
     ⟨(some 15), .idxA 2 (.s 13) (.s 14), none, [1, 2], false⟩,
     ⟨(some 16), .load true 2 (.s 15), none, [3], false⟩,
     ⟨(some 17), .call (.c (.fn (.func 149) [] [])) [(.s 12), (.s 16)], none, [0, 4], false⟩,
     ⟨none, .store 2 (.s 3) (.s 17), none, [5, 0, 1, 2, 3, 4], false⟩]))
  (.reg [0, 2, 3, 4] [⟨(some 10), .mv (.s 4), none, [], false⟩,
    ⟨(some 11), .bin .add .num (.s 10) (.c (.int .i64 1)), none, [], false⟩,
    ⟨(some 4), .mv (.s 11), none, [], true⟩])))
def i150 : IFn := { nparams := 1, ntmps := 19, results := [.cell 2 true 2], body :=
  (.seq (.reg [0] [⟨(some 2), .alloc 2 (.agg [(.bool false), (.sl .nil [])]), none, [], false⟩])
   (.seq (.reg [0, 2] [⟨(some 5), .call (.c (.fn (.func 35) [] [])) [(.c (.int .i64 0))], none, [], false⟩,
     ⟨(some 3), .alloc 2 (.agg [(.bool false), (.sl .nil [])]), none, [], false⟩,
     ⟨none, .store 2 (.s 3) (.s 5), none, [], false⟩])
   (.seq (.seq (.reg [0, 2, 3] [⟨(some 4), .mv (.c (.int .i64 0)), none, [], true⟩])
   (.block 0
    (.loop [0, 2, 3, 4] i150b0)))
   (.seq (.reg [2, 3] [⟨(some 18), .load true 2 (.s 3), none, [], false⟩,
     ⟨none, .store 2 (.s 2) (.s 18), none, [], false⟩])
   .ret)))) }
theorem tr150 : trF Tryz.prog h150 Tryz.f150 = some i150 := by kernel_rfl

-- ashlar/ashlarref3.Prim
def h151 : List (List Nat) := [[0], [0], [], [0], [0, 3], [0, 3], [0, 3]]
def i151 : IFn := { nparams := 1, ntmps := 17, results := [.tmp 2], body :=
  (.seq (.reg [0] [⟨(some 2), .mv (.c (.sl .nil [])), none, [], true⟩])
   (.seq (.seq (.reg [0] [⟨(some 4), .mv (.s 0), none, [], false⟩,
     ⟨(some 5), .len false (.s 4), none, [], false⟩,
     ⟨(some 6), .bin .eql .num (.s 5) (.c (.int .i64 0)), none, [], false⟩])
   (.cond (.s 6)
    (.seq (.reg [] [⟨(some 2), .mv (.c (.sl .nil [])), none, [], true⟩])
    .ret)
    .skip))
   (.seq (.reg [0] [⟨(some 7), .mv (.s 0), none, [], false⟩,
     ⟨(some 8), .call (.c (.fn (.func 150) [] [])) [(.s 7)], none, [], false⟩,
     ⟨(some 3), .alloc 2 (.agg [(.bool false), (.sl .nil [])]), none, [], false⟩,
     ⟨none, .store 2 (.s 3) (.s 8), none, [], false⟩])
   (.seq (.seq (.reg [0, 3] [⟨(some 9), .mv (.s 0), none, [], false⟩,
     ⟨(some 10), .call (.c (.fn (.func 66) [] [])) [(.s 9)], none, [], false⟩,
     ⟨(some 11), .fld 0 false 1 (.s 10), none, [], false⟩])
   (.cond (.s 11)
    (.reg [0, 3] [⟨(some 12), .load true 2 (.s 3), none, [], false⟩,
      ⟨(some 13), .call (.c (.fn (.func 179) [] [])) [(.s 12)], none, [], false⟩,
      ⟨none, .store 2 (.s 3) (.s 13), none, [], false⟩])
    .skip))
   (.seq (.reg [0, 3] [⟨(some 14), .mv (.s 0), none, [], false⟩,
     ⟨(some 15), .load true 2 (.s 3), none, [], false⟩,
     ⟨(some 16), .call (.c (.fn (.func 180) [] [])) [(.s 14), (.s 15)], none, [], false⟩,
     ⟨(some 2), .mv (.s 16), none, [], true⟩])
   .ret))))) }
theorem tr151 : trF Tryz.prog h151 Tryz.f151 = some i151 := by kernel_rfl

-- ashlar/ashlarref3.Pseudo
def h152 : List (List Nat) := [[0, 1], [0, 1], [0, 1, 6], [0, 1, 6, 7], [1, 6, 7, 8], [1, 6, 7, 8, 9], [1, 6, 7, 8, 9], [1, 6, 7, 8, 9], [1, 6, 7, 8, 9, 10], [1, 6, 7, 8, 9, 10], [1, 6, 7, 8, 9, 10], [1, 6, 7, 8, 9], [6, 7, 8, 9], [6, 7, 8, 9], [6, 7, 8, 9], [6, 7, 8, 9], [6, 7, 8, 9], [6, 7]]
def i152b0 : ICode :=
  (.seq (.seq (.reg [1, 6, 7, 8, 9] [⟨(some 20), .mv (.s 7), none, [], false⟩,
    ⟨(some 21), .call (.c (.fn (.func 112) [] [])) [(.s 20)], none, [], false⟩,
    ⟨(some 22), .mv (.s 1), none, [], false⟩,
    ⟨(some 23), .call (.c (.fn (.func 112) [] [])) [(.s 22)], none, [], false⟩,
    ⟨(some 24), .bin .geq .num (.s 21) (.s 23), none, [], false⟩])
  (.cond (.s 24)
   .skip
   (.exit 0)))
  (.block 1
   (.seq (.reg [1, 6, 7, 8, 9] [⟨(some 25), .mv (.s 7), none, [], false⟩,
     ⟨(some 26), .call (.c (.fn (.func 112) [] [])) [(.s 25)], none, [], false⟩,
     ⟨(some 27), .mv (.s 1), none, [], false⟩,
     ⟨(some 28), .call (.c (.fn (.func 112) [] [])) [(.s 27)], none, [], false⟩,
     ⟨(some 29), .bin .sub .num (.s 26) (.s 28), none, [], false⟩,
     ⟨(some 30), .bin .add .num (.s 29) (.c (.int .i64 1)), none, [], false⟩,
     ⟨(some 31), .mksl 2 32 (.agg [(.bool false), (.sl .nil [])]) (.s 30) (.s 30), none, [], false⟩,
     ⟨(some 10), .mv (.s 31), none, [], true⟩])
   (.seq (.reg [1, 6, 7, 8, 9, 10] [⟨(some 32), .mv (.s 10), none, [], false⟩,
     ⟨(some 33), .mv (.s 10), none, [], false⟩,
     ⟨(some 34), .len false (.s 33), none, [], false⟩,
     ⟨(some 35), .bin .sub .num (.s 34) (.c (.int .i64 1)), none, [], false⟩,
     ⟨(some 36), .mv (.s 7), none, [], false⟩,
     ⟨(some 37), .call (.c (.fn (.func 66) [] [])) [(.s 36)], none, [], false⟩,
     ⟨(some 38), .idxA 2 (.s 32) (.s 35), none, [], false⟩,
     ⟨none, .store 2 (.s 38) (.s 37), none, [], false⟩])
   (.seq (.reg [1, 6, 7, 8, 9, 10] [⟨(some 39), .mv (.s 6), none, [], false⟩,
     ⟨(some 40), .load true 2 (.s 9), none, [], false⟩,
     ⟨(some 41), .call (.c (.fn (.func 153) [] [])) [(.s 39), (.s 40)], none, [], false⟩,
     ⟨(some 42), .mv (.s 10), none, [], false⟩,
     ⟨(some 43), .call (.c (.fn (.func 50) [] [])) [(.s 41), (.s 42)], none, [], false⟩,
     ⟨(some 6), .mv (.s 43), none, [], true⟩])
   (.seq (.reg [1, 6, 7, 8, 9, 10] [⟨(some 44), .mv (.s 7), none, [], false⟩,
     ⟨(some 45), .load true 2 (.s 9), none, [], false⟩,
     ⟨(some 46), .call (.c (.fn (.func 153) [] [])) [(.s 44), (.s 45)], none, [], false⟩,
     ⟨(some 47), .mv (.s 10), none, [], false⟩,
     ⟨(some 48), .mv (.s 1), none, [], false⟩,
     ⟨(some 49), .call (.c (.fn (.func 48) [] [])) [(.s 47), (.s 48)], none, [], false⟩,
     ⟨(some 50), .call (.c (.fn (.func 114) [] [])) [(.s 46), (.s 49)], none, [], false⟩,
     ⟨(some 7), .mv (.s 50), none, [], true⟩])
   (.reg [1, 6, 7, 8, 9] [⟨(some 51), .mv (.s 8), none, [], false⟩,
     ⟨(some 52), .bin .sub .num (.s 51) (.c (.int .i64 1)), none, [], false⟩,
     ⟨(some 8), .mv (.s 52), none, [], true⟩])))))))
def i152b1 : ICode :=
  (.seq (.seq (.reg [6, 7, 8, 9] [⟨(some 53), .mv (.s 8), none, [], false⟩,
    ⟨(some 54), .bin .gtr .num (.s 53) (.c (.int .i64 0)), none, [], false⟩])
  (.cond (.s 54)
   .skip
   (.exit 2)))
  (.seq (.block 3
   (.seq (.reg [6, 7, 8, 9] [⟨(some 57), .mv (.s 6), none, [], false⟩,
     ⟨(some 58), .load true 2 (.s 9), none, [], false⟩,
     ⟨(some 59), .call (.c (.fn (.func 153) [] [])) [(.s 57), (.s 58)], none, [], false⟩,
     ⟨(some 6), .mv (.s 59), none, [], true⟩])
   (.reg [6, 7, 8, 9] [⟨(some 60), .mv (.s 7), none, [], false⟩,
     ⟨(some 61), .load true 2 (.s 9), none, [], false⟩,
     ⟨(some 62), .call (.c (.fn (.func 153) [] [])) [(.s 60), (.s 61)], none, [], false⟩,
     ⟨(some 7), .mv (.s 62), none, [], true⟩])))
  (.reg [6, 7, 8, 9] [⟨(some 55), .mv (.s 8), none, [], false⟩,
    ⟨(some 56), .bin .sub .num (.s 55) (.c (.int .i64 1)), none, [], false⟩,
    ⟨(some 8), .mv (.s 56), none, [], true⟩])))
def i152 : IFn := { nparams := 2, ntmps := 65, results := [.tmp 4, .tmp 5], body :=
  (.seq (.reg [0, 1] [⟨(some 4), .mv (.c (.sl .nil [])), none, [], true⟩,
     ⟨(some 5), .mv (.c (.sl .nil [])), none, [], true⟩])
   (.seq (.reg [0, 1] [⟨(some 6), .mv (.c (.sl .nil [])), none, [], true⟩])
   (.seq (.reg [0, 1, 6] [⟨(some 11), .mv (.s 0), none, [], false⟩,
     ⟨(some 7), .mv (.s 11), none, [], true⟩])
   (.seq (.reg [0, 1, 6, 7] [⟨(some 12), .mv (.s 0), none, [], false⟩,
     ⟨(some 13), .call (.c (.fn (.func 112) [] [])) [(.s 12)], none, [], false⟩,
     ⟨(some 14), .mv (.s 1), none, [], false⟩,
     ⟨(some 15), .call (.c (.fn (.func 112) [] [])) [(.s 14)], none, [], false⟩,
     ⟨(some 16), .bin .sub .num (.s 13) (.s 15), none, [], false⟩,
     ⟨(some 17), .bin .add .num (.s 16) (.c (.int .i64 1)), none, [], false⟩,
     ⟨(some 8), .mv (.s 17), none, [], true⟩])
   (.seq (.reg [1, 6, 7, 8] [⟨(some 18), .mv (.s 1), none, [], false⟩,
     ⟨(some 19), .call (.c (.fn (.func 66) [] [])) [(.s 18)], none, [], false⟩,
     ⟨(some 9), .alloc 2 (.agg [(.bool false), (.sl .nil [])]), none, [], false⟩,
     ⟨none, .store 2 (.s 9) (.s 19), none, [], false⟩])
   (.seq (.block 0
    (.loop [1, 6, 7, 8, 9] i152b0))
   (.seq (.block 2
    (.loop [6, 7, 8, 9] i152b1))
   (.seq (.reg [6, 7] [⟨(some 63), .mv (.s 6), none, [], false⟩,
     ⟨(some 64), .mv (.s 7), none, [], false⟩,
     ⟨(some 4), .mv (.s 63), none, [], true⟩,
     ⟨(some 5), .mv (.s 64), none, [], true⟩])
   .ret)))))))) }
theorem tr152 : trF Tryz.prog h152 Tryz.f152 = some i152 := by kernel_rfl
end Go.Proofs.YtpfbgpclhkjgaaaGreat
