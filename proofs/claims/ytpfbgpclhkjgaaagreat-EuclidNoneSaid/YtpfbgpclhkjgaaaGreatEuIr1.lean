/- A part of the proof: an evaluator of programs, its soundness, and what it says of the functions in hand. It holds without further conditions. -/
import Derived.Test.YtpfbgpclhkjgaaaGreatAb23
import Derived.Test.YtpfbgpclhkjgaaaGreatChecked
set_option linter.unusedVariables false
set_option maxRecDepth 100000
namespace Go.Proofs.YtpfbgpclhkjgaaaGreat
open Go.Ab

-- ashlar/ashlarlaw3.Cut
def h34 : List (List Nat) := [[0, 1, 2], [0, 1, 2], [0, 1, 2, 7], [0, 1, 2, 7, 8], [0, 1, 2, 7, 8], [0, 1, 2, 7, 8], [0, 1, 2, 7, 8, 9], [0, 1, 2, 7, 8, 9], [0, 1, 2, 7, 8, 9], [0, 1, 2, 7, 8], [7]]
def i34b0 : ICode :=
  (.seq (.seq (.reg [0, 1, 2, 7, 8] [⟨(some 10), .mv (.s 8), none, [], false⟩,
    ⟨(some 11), .mv (.s 0), none, [], false⟩,
    ⟨(some 12), .len false (.s 11), none, [], false⟩,
    ⟨(some 13), .bin .lss .num (.s 10) (.s 12), none, [], false⟩,
    ⟨(some 14), .mv (.s 13), none, [], false⟩,
    ⟨(some 15), .mv (.s 8), (some (14, true)), [], false⟩,
    ⟨(some 16), .mv (.s 1), (some (14, true)), [], false⟩,
    ⟨(some 17), .bin .lss .num (.s 15) (.s 16), (some (14, true)), [], false⟩,
    ⟨(some 18), .pick (.s 14) (.s 17) (.c (.bool false)), none, [], false⟩])
  (.cond (.s 18)
   .skip
   (.exit 0)))
  (.seq (.block 1
   (.seq (.reg [0, 1, 2, 7, 8] [⟨(some 21), .mv (.s 0), none, [], false⟩,
     ⟨(some 22), .mv (.s 8), none, [], false⟩,
     ⟨(some 23), .idxA 2 (.s 21) (.s 22), none, [], false⟩,
     ⟨(some 24), .load true 2 (.s 23), none, [], false⟩,
     ⟨(some 25), .call (.c (.fn (.func 71) [] [])) [(.s 24)], none, [], false⟩,
     ⟨(some 9), .alloc 2 (.agg [(.bool false), (.sl .nil [])]), none, [], false⟩,
     ⟨none, .store 2 (.s 9) (.s 25), none, [], false⟩])
   (.seq (.seq (.reg [0, 1, 2, 7, 8, 9] [⟨(some 26), .fldA 1 false 1 (.s 9), none, [], false⟩,
     ⟨(some 27), .load false 1 (.s 26), none, [], false⟩,
     ⟨(some 28), .len false (.s 27), none, [], false⟩,
     ⟨(some 29), .mv (.s 2), none, [], false⟩,
     ⟨(some 30), .bin .gtr .num (.s 28) (.s 29), none, [], false⟩])
   (.cond (.s 30)
    (.reg [0, 1, 2, 7, 8, 9] [⟨(some 31), .fldA 1 false 1 (.s 9), none, [], false⟩,
      ⟨(some 32), .load false 1 (.s 31), none, [], false⟩,
      ⟨(some 33), .mv (.s 2), none, [], false⟩,
      ⟨(some 34), .slice 1 (.s 32) none (some (.s 33)) none, none, [], false⟩,
      ⟨(some 35), .fldA 1 false 1 (.s 9), none, [], false⟩,
      ⟨none, .store 1 (.s 35) (.s 34), none, [], false⟩])
    .skip))
   (.reg [0, 1, 2, 7, 8, 9] [⟨(some 36), .mv (.s 7), none, [], false⟩,
     ⟨(some 37), .load true 2 (.s 9), none, [], false⟩,
     ⟨(some 38), .bsl 2 (.agg [(.bool false), (.sl .nil [])]) 1 [(0, (.s 37))], none, [], false⟩,
     ⟨(some 39), .app 2 32 (.s 36) (.s 38), none, [], false⟩,
     ⟨(some 7), .mv (.s 39), none, [], true⟩]))))
  (.reg [0, 1, 2, 7, 8] [⟨(some 19), .mv (.s 8), none, [], false⟩,
    ⟨(some 20), .bin .add .num (.s 19) (.c (.int .i64 1)), none, [], false⟩,
    ⟨(some 8), .mv (.s 20), none, [], true⟩])))
def i34 : IFn := { nparams := 3, ntmps := 41, results := [.tmp 6], body :=
  (.seq (.reg [0, 1, 2] [⟨(some 6), .mv (.c (.sl .nil [])), none, [], true⟩])
   (.seq (.reg [0, 1, 2] [⟨(some 7), .mv (.c (.sl .nil [])), none, [], true⟩])
   (.seq (.seq (.reg [0, 1, 2, 7] [⟨(some 8), .mv (.c (.int .i64 0)), none, [], true⟩])
   (.block 0
    (.loop [0, 1, 2, 7, 8] i34b0)))
   (.seq (.reg [7] [⟨(some 40), .mv (.s 7), none, [], false⟩,
     ⟨(some 6), .mv (.s 40), none, [], true⟩])
   .ret)))) }
theorem tr34 : trF Tryz.prog h34 Tryz.f34 = some i34 := by kernel_rfl

-- ashlar/ashlarref1.Of
def h35 : List (List Nat) := [[0], [0, 2], [0, 2, 3], [0, 2, 3, 4], [0, 2, 3, 4], [0, 2, 3, 4], [0, 2, 3, 4, 5], [0, 2, 3, 4, 5], [0, 2, 3, 4, 5], [0, 2, 3, 4, 5], [2, 3, 4]]
def i35b0 : ICode :=
  (.seq (.seq (.reg [0, 2, 3, 4] [⟨(some 8), .mv (.s 0), none, [], false⟩,
    ⟨(some 9), .bin .neq .num (.s 8) (.c (.int .i64 0)), none, [], false⟩])
  (.cond (.s 9)
   .skip
   (.exit 0)))
  (.block 1
   (.seq (.reg [0, 2, 3, 4] [⟨(some 10), .mv (.s 0), none, [], false⟩,
     ⟨(some 11), .bin .rem .num (.s 10) (.c (.int .i64 65536)), none, [], false⟩,
     ⟨(some 5), .mv (.s 11), none, [], true⟩])
   (.seq (.reg [0, 2, 3, 4, 5] [⟨(some 12), .mv (.s 0), none, [], false⟩,
     ⟨(some 13), .bin .quo .num (.s 12) (.c (.int .i64 65536)), none, [], false⟩,
     ⟨(some 0), .mv (.s 13), none, [], true⟩])
   (.seq (.seq (.reg [0, 2, 3, 4, 5] [⟨(some 14), .mv (.s 5), none, [], false⟩,
     ⟨(some 15), .bin .lss .num (.s 14) (.c (.int .i64 0)), none, [], false⟩])
   (.cond (.s 15)
    (.reg [0, 2, 3, 4, 5] [⟨(some 16), .mv (.s 5), none, [], false⟩,
      ⟨(some 17), .un .neg (.s 16), none, [], false⟩,
      ⟨(some 5), .mv (.s 17), none, [], true⟩])
    .skip))
   (.reg [0, 2, 3, 4, 5] [⟨(some 18), .mv (.s 4), none, [], false⟩,
     ⟨(some 19), .mv (.s 5), none, [], false⟩,
     ⟨(some 20), .bsl 1 (.int .i64 0) 1 [(0, (.s 19))], none, [], false⟩,
     ⟨(some 21), .app 1 8 (.s 18) (.s 20), none, [], false⟩,
     ⟨(some 4), .mv (.s 21), none, [], true⟩]))))))
def i35 : IFn := { nparams := 1, ntmps := 25, results := [.cell 2 true 2], body :=
  (.seq (.reg [0] [⟨(some 2), .alloc 2 (.agg [(.bool false), (.sl .nil [])]), none, [], false⟩])
   (.seq (.reg [0, 2] [⟨(some 6), .mv (.s 0), none, [], false⟩,
     ⟨(some 7), .bin .lss .num (.s 6) (.c (.int .i64 0)), none, [], false⟩,
     ⟨(some 3), .mv (.s 7), none, [], true⟩])
   (.seq (.reg [0, 2, 3] [⟨(some 4), .mv (.c (.sl .nil [])), none, [], true⟩])
   (.seq (.block 0
    (.loop [0, 2, 3, 4] i35b0))
   (.seq (.reg [2, 3, 4] [⟨(some 22), .mv (.s 3), none, [], false⟩,
     ⟨(some 23), .mv (.s 4), none, [], false⟩,
     ⟨(some 24), .call (.c (.fn (.func 72) [] [])) [(.s 22), (.s 23)], none, [], false⟩,
     ⟨none, .store 2 (.s 2) (.s 24), none, [], false⟩])
   .ret))))) }
theorem tr35 : trF Tryz.prog h35 Tryz.f35 = some i35 := by kernel_rfl

-- ashlar/ashlarref1.From
def h36 : List (List Nat) := [[0], [1, 2], [1, 2, 3], [1, 2, 3, 4], [1, 2, 3, 4], [1, 2, 3, 4], [1, 2, 3, 4], [1, 2, 3]]
def i36b0 : ICode :=
  (.seq (.seq (.reg [1, 2, 3, 4] [⟨(some 5), .mv (.s 4), none, [], false⟩,
    ⟨(some 6), .fldA 1 false 1 (.s 1), none, [], false⟩,
    ⟨(some 7), .load false 1 (.s 6), none, [], false⟩,
    ⟨(some 8), .len false (.s 7), none, [], false⟩,
    ⟨(some 9), .bin .lss .num (.s 5) (.s 8), none, [], false⟩])
  (.cond (.s 9)
   .skip
   (.exit 0)))
  (.seq (.block 1
   (.draw [1, 2, 3, 4] [⟨(some 12), .mv (.s 3), none, [], false⟩,
     ⟨(some 13), .fldA 1 false 1 (.s 1), none, [], false⟩,
     ⟨(some 14), .load false 1 (.s 13), none, [1], false⟩,
     ⟨(some 15), .mv (.s 4), none, [], false⟩,
     ⟨(some 16), .idxA 1 (.s 14) (.s 15), none, [2, 3], false⟩,
     ⟨(some 17), .load false 1 (.s 16), none, [4], false⟩,
     ⟨(some 18), .bin .rem .num (.s 17) (.c (.int .u32 65536)), none, [5], false⟩,
     ⟨(some 19), .conv .i64 (.s 18), none, [6], false⟩,
     ⟨(some 20), .fldA 1 false 1 (.s 1), none, [], false⟩,
     ⟨(some 21), .load false 1 (.s 20), none, [8], false⟩,
     ⟨(some 22), .mv (.s 4), none, [], false⟩,
     ⟨(some 23), .idxA 1 (.s 21) (.s 22), none, [9, 10], false⟩,
     ⟨(some 24), .load false 1 (.s 23), none, [11], false⟩,
     ⟨(some 25), .bin .quo .num (.s 24) (.c (.int .u32 65536)), none, [12], false⟩,
     ⟨(some 26), .conv .i64 (.s 25), none, [13], false⟩,
     ⟨(some 27), .bsl 1 (.int .i64 0) 2 [(0, (.s 19)), (1, (.s 26))], none, [7, 14], false⟩,
     ⟨(some 28), .app 1 8 (.s 12) (.s 27), none, [0, 15], false⟩,
     ⟨(some 3), .mv (.s 28), none, [16, 0, 1, 2, 3, 4, 5, 6, 7, 8, 9, 10, 11, 12, 13, 14, 15], true⟩]))
  (.reg [1, 2, 3, 4] [⟨(some 10), .mv (.s 4), none, [], false⟩,
    ⟨(some 11), .bin .add .num (.s 10) (.c (.int .i64 1)), none, [], false⟩,
    ⟨(some 4), .mv (.s 11), none, [], true⟩])))
def i36 : IFn := { nparams := 1, ntmps := 33, results := [.cell 2 true 2], body :=
  (.seq (.reg [0] [⟨(some 1), .box 2 (.s 0), none, [], false⟩,
     ⟨(some 2), .alloc 2 (.agg [(.bool false), (.sl .nil [])]), none, [], false⟩])
   (.seq (.reg [1, 2] [⟨(some 3), .mv (.c (.sl .nil [])), none, [], true⟩])
   (.seq (.seq (.reg [1, 2, 3] [⟨(some 4), .mv (.c (.int .i64 0)), none, [], true⟩])
   (.block 0
    (.loop [1, 2, 3, 4] i36b0)))
   (.seq (.reg [1, 2, 3] [⟨(some 29), .fldA 0 false 1 (.s 1), none, [], false⟩,
     ⟨(some 30), .load false 1 (.s 29), none, [], false⟩,
     ⟨(some 31), .mv (.s 3), none, [], false⟩,
     ⟨(some 32), .call (.c (.fn (.func 72) [] [])) [(.s 30), (.s 31)], none, [], false⟩,
     ⟨none, .store 2 (.s 2) (.s 32), none, [], false⟩])
   .ret)))) }
theorem tr36 : trF Tryz.prog h36 Tryz.f36 = some i36 := by kernel_rfl

-- ashlar/ashlarref8.Trim
def h37 : List (List Nat) := [[0], [0], [0, 3], [0, 3], [0, 3], [0, 3]]
def i37b0 : ICode :=
  (.seq (.seq (.reg [0, 3] [⟨(some 6), .mv (.s 3), none, [], false⟩,
    ⟨(some 7), .bin .gtr .num (.s 6) (.c (.int .i64 0)), none, [], false⟩,
    ⟨(some 8), .mv (.s 7), none, [], false⟩,
    ⟨(some 9), .mv (.s 0), (some (8, true)), [], false⟩,
    ⟨(some 10), .mv (.s 3), (some (8, true)), [], false⟩,
    ⟨(some 11), .bin .sub .num (.s 10) (.c (.int .i64 1)), (some (8, true)), [], false⟩,
    ⟨(some 12), .idxA 1 (.s 9) (.s 11), (some (8, true)), [], false⟩,
    ⟨(some 13), .load false 1 (.s 12), (some (8, true)), [], false⟩,
    ⟨(some 14), .len false (.s 13), (some (8, true)), [], false⟩,
    ⟨(some 15), .bin .eql .num (.s 14) (.c (.int .i64 0)), (some (8, true)), [], false⟩,
    ⟨(some 16), .pick (.s 8) (.s 15) (.c (.bool false)), none, [], false⟩])
  (.cond (.s 16)
   .skip
   (.exit 0)))
  (.block 1
   (.reg [0, 3] [⟨(some 17), .mv (.s 3), none, [], false⟩,
     ⟨(some 18), .bin .sub .num (.s 17) (.c (.int .i64 1)), none, [], false⟩,
     ⟨(some 3), .mv (.s 18), none, [], true⟩])))
def i37 : IFn := { nparams := 1, ntmps := 23, results := [.tmp 2], body :=
  (.seq (.reg [0] [⟨(some 2), .mv (.c (.sl .nil [])), none, [], true⟩])
   (.seq (.reg [0] [⟨(some 4), .mv (.s 0), none, [], false⟩,
     ⟨(some 5), .len false (.s 4), none, [], false⟩,
     ⟨(some 3), .mv (.s 5), none, [], true⟩])
   (.seq (.block 0
    (.loop [0, 3] i37b0))
   (.seq (.reg [0, 3] [⟨(some 19), .mv (.s 0), none, [], false⟩,
     ⟨(some 20), .mv (.s 3), none, [], false⟩,
     ⟨(some 21), .mv (.s 3), none, [], false⟩,
     ⟨(some 22), .slice 1 (.s 19) none (some (.s 20)) (some (.s 21)), none, [], false⟩,
     ⟨(some 2), .mv (.s 22), none, [], true⟩])
   .ret)))) }
theorem tr37 : trF Tryz.prog h37 Tryz.f37 = some i37 := by kernel_rfl

-- ashlar/euclid.refused
def h38 : List (List Nat) := [[0, 1, 2, 3, 4], [0, 1, 2, 3, 4], [], [0, 1, 2, 3, 4], [], [0, 2, 3, 4], [], []]
def i38 : IFn := { nparams := 5, ntmps := 24, results := [.tmp 10], body :=
  (.seq (.reg [0, 1, 2, 3, 4] [⟨(some 10), .mv (.c (.int .i64 0)), none, [], true⟩])
   (.seq (.block 0
    (.seq (.reg [0, 1, 2, 3, 4] [⟨(some 12), .mv (.s 0), none, [], false⟩,
      ⟨(some 13), .bin .eql .ptr (.s 12) (.c .nilPtr), none, [], false⟩,
      ⟨(some 11), .mv (.s 13), none, [], true⟩])
    (.cond (.s 11)
     (.seq (.reg [] [⟨(some 10), .mv (.c (.int .i64 1)), none, [], true⟩])
     .ret)
     (.seq (.reg [0, 1, 2, 3, 4] [⟨(some 15), .mv (.s 1), none, [], false⟩,
       ⟨(some 14), .mv (.s 15), none, [], true⟩])
     (.cond (.s 14)
      (.seq (.reg [] [⟨(some 10), .mv (.c (.int .i64 2)), none, [], true⟩])
      .ret)
      (.seq (.reg [0, 2, 3, 4] [⟨(some 17), .mv (.s 2), none, [], false⟩,
        ⟨(some 18), .mv (.s 3), none, [], false⟩,
        ⟨(some 19), .mv (.s 4), none, [], false⟩,
        ⟨(some 20), .mv (.s 0), none, [], false⟩,
        ⟨(some 21), .call (.c (.fn (.func 73) [] [])) [(.s 20)], none, [], false⟩,
        ⟨(some 22), .call (.s 17) [(.s 18), (.s 19), (.s 21)], none, [], false⟩,
        ⟨(some 23), .bin .gtr .num (.s 22) (.c (.int .i64 1048576)), none, [], false⟩,
        ⟨(some 16), .mv (.s 23), none, [], true⟩])
      (.cond (.s 16)
       (.seq (.reg [] [⟨(some 10), .mv (.c (.int .i64 4)), none, [], true⟩])
       .ret)
       .skip)))))))
   (.seq (.reg [] [⟨(some 10), .mv (.c (.int .i64 0)), none, [], true⟩])
   .ret))) }
theorem tr38 : trF Tryz.prog h38 Tryz.f38 = some i38 := by kernel_rfl

-- ashlar/ore.Order
def h39 : List (List Nat) := [[0], [0]]
def i39 : IFn := { nparams := 1, ntmps := 7, results := [.tmp 2], body :=
  (.seq (.reg [0] [⟨(some 2), .mv (.c (.int .i64 0)), none, [], true⟩])
   (.seq (.reg [0] [⟨(some 3), .mv (.s 0), none, [], false⟩,
     ⟨(some 4), .call (.c (.fn (.func 74) [] [])) [(.s 3)], none, [], false⟩,
     ⟨(some 5), .len false (.s 4), none, [], false⟩,
     ⟨(some 6), .bin .sub .num (.s 5) (.c (.int .i64 1)), none, [], false⟩,
     ⟨(some 2), .mv (.s 6), none, [], true⟩])
   .ret)) }
theorem tr39 : trF Tryz.prog h39 Tryz.f39 = some i39 := by kernel_rfl

-- ashlar/gauge.Divide
def h40 : List (List Nat) := [[0, 1, 2], [0, 1, 5], [7, 8, 9], [7, 8, 10]]
def i40 : IFn := { nparams := 3, ntmps := 52, results := [.tmp 6], body :=
  (.seq (.reg [0, 1, 2] [⟨(some 5), .box 2 (.s 2), none, [], false⟩,
     ⟨(some 6), .mv (.c (.int .i64 0)), none, [], true⟩])
   (.seq (.draw [0, 1, 5] [⟨(some 11), .mv (.s 0), none, [], false⟩,
     ⟨(some 12), .call (.c (.fn (.func 75) [] [])) [(.s 11)], none, [0], false⟩,
     ⟨(some 13), .mv (.s 1), none, [], false⟩,
     ⟨(some 14), .call (.c (.fn (.func 75) [] [])) [(.s 13)], none, [2, 1], false⟩,
     ⟨(some 15), .load true 2 (.s 5), none, [], false⟩,
     ⟨(some 16), .call (.c (.fn (.func 76) [] [])) [(.s 15)], none, [4, 3], false⟩,
     ⟨(some 7), .alloc 3 (.agg [(.int .i64 0), (.int .i64 0), (.int .i64 0)]), none, [], false⟩,
     ⟨(some 8), .alloc 3 (.agg [(.int .i64 0), (.int .i64 0), (.int .i64 0)]), none, [], false⟩,
     ⟨none, .store 3 (.s 7) (.s 12), none, [6, 1, 5, 0, 7], false⟩,
     ⟨none, .store 3 (.s 8) (.s 14), none, [7, 3, 8, 0, 1, 2, 6], false⟩,
     ⟨(some 9), .mv (.s 16), none, [5, 9, 0, 1, 2, 3, 4, 6, 7, 8], true⟩])
   (.seq (.draw [7, 8, 9] [⟨(some 17), .fldA 2 false 1 (.s 7), none, [], false⟩,
     ⟨(some 18), .load false 1 (.s 17), none, [0], false⟩,
     ⟨(some 19), .fldA 2 false 1 (.s 8), none, [], false⟩,
     ⟨(some 20), .load false 1 (.s 19), none, [2], false⟩,
     ⟨(some 21), .fldA 0 false 1 (.s 7), none, [], false⟩,
     ⟨(some 22), .load false 1 (.s 21), none, [4], false⟩,
     ⟨(some 23), .bin .add .num (.s 22) (.c (.int .i64 1)), none, [5], false⟩,
     ⟨(some 24), .mv (.s 9), none, [], false⟩,
     ⟨(some 25), .bsl 1 (.int .i64 0) 2 [(0, (.s 24)), (1, (.c (.int .i64 2)))], none, [7], false⟩,
     ⟨(some 26), .call (.c (.fn (.func 77) [] [])) [(.s 25)], none, [8], false⟩,
     ⟨(some 27), .bsl 1 (.int .i64 0) 2 [(0, (.s 23)), (1, (.s 26))], none, [6, 9], false⟩,
     ⟨(some 28), .call (.c (.fn (.func 78) [] [])) [(.s 27)], none, [10, 9], false⟩,
     ⟨(some 29), .bsl 1 (.int .i64 0) 4 [(0, (.s 18)), (1, (.s 20)), (2, (.s 28)), (3, (.c (.int .i64 8)))], none, [1, 3, 11], false⟩,
     ⟨(some 30), .call (.c (.fn (.func 77) [] [])) [(.s 29)], none, [12, 11], false⟩,
     ⟨(some 10), .mv (.s 30), none, [13, 0, 1, 2, 3, 4, 5, 6, 7, 8, 9, 10, 11, 12], true⟩])
   (.seq (.draw [7, 8, 10] [⟨(some 31), .fldA 0 false 1 (.s 7), none, [], false⟩,
     ⟨(some 32), .load false 1 (.s 31), none, [0], false⟩,
     ⟨(some 33), .bin .add .num (.s 32) (.c (.int .i64 1)), none, [1], false⟩,
     ⟨(some 34), .fldA 0 false 1 (.s 8), none, [], false⟩,
     ⟨(some 35), .load false 1 (.s 34), none, [3], false⟩,
     ⟨(some 36), .bin .add .num (.s 35) (.c (.int .i64 1)), none, [4], false⟩,
     ⟨(some 37), .fldA 0 false 1 (.s 7), none, [], false⟩,
     ⟨(some 38), .load false 1 (.s 37), none, [6], false⟩,
     ⟨(some 39), .fldA 0 false 1 (.s 8), none, [], false⟩,
     ⟨(some 40), .load false 1 (.s 39), none, [8], false⟩,
     ⟨(some 41), .bsl 1 (.int .i64 0) 3 [(0, (.s 38)), (1, (.s 40)), (2, (.c (.int .i64 2)))], none, [7, 9], false⟩,
     ⟨(some 42), .call (.c (.fn (.func 77) [] [])) [(.s 41)], none, [10], false⟩,
     ⟨(some 43), .fldA 1 false 1 (.s 7), none, [], false⟩,
     ⟨(some 44), .load false 1 (.s 43), none, [12], false⟩,
     ⟨(some 45), .fldA 1 false 1 (.s 8), none, [], false⟩,
     ⟨(some 46), .load false 1 (.s 45), none, [14], false⟩,
     ⟨(some 47), .bsl 1 (.int .i64 0) 3 [(0, (.s 44)), (1, (.s 46)), (2, (.c (.int .i64 2)))], none, [13, 15], false⟩,
     ⟨(some 48), .call (.c (.fn (.func 77) [] [])) [(.s 47)], none, [16, 11], false⟩,
     ⟨(some 49), .mv (.s 10), none, [], false⟩,
     ⟨(some 50), .bsl 1 (.int .i64 0) 5 [(0, (.s 33)), (1, (.s 36)), (2, (.s 42)), (3, (.s 48)), (4, (.s 49))], none, [2, 5, 11, 17, 18], false⟩,
     ⟨(some 51), .call (.c (.fn (.func 79) [] [])) [(.s 50)], none, [19, 17], false⟩,
     ⟨(some 6), .mv (.s 51), none, [20, 0, 1, 2, 3, 4, 5, 6, 7, 8, 9, 10, 11, 12, 13, 14, 15, 16, 17, 18, 19], true⟩])
   .ret)))) }
theorem tr40 : trF Tryz.prog h40 Tryz.f40 = some i40 := by kernel_rfl

-- ashlar/zore.Divide
def h41 : List (List Nat) := [[0, 1, 2], [1, 2, 3], [1, 2, 3, 9], [1, 2, 3, 9, 10], [2, 3, 9, 10, 11], [2, 3, 9, 10, 11, 12], [2, 3, 9, 10, 11, 12], [2, 3, 9, 10, 11, 12], [2, 3, 9, 10, 11, 12, 13], [2, 3, 9, 10, 11, 12, 13, 14], [2, 3, 9, 10, 11, 12, 13, 14, 15, 16], [2, 3, 9, 10, 11, 12, 13, 14, 15, 16, 17], [2, 3, 9, 10, 11, 12, 13, 14, 15, 16], [2, 3, 9, 10, 11, 12, 13, 14, 15, 16], [2, 3, 9, 10, 11, 12, 14, 15, 16], [9, 10, 11]]
def i41b0 : ICode :=
  (.seq (.seq (.reg [2, 3, 9, 10, 11, 12] [⟨(some 24), .mv (.s 11), none, [], false⟩,
    ⟨(some 25), .call (.c (.fn (.func 39) [] [])) [(.s 24)], none, [], false⟩,
    ⟨(some 26), .mv (.s 12), none, [], false⟩,
    ⟨(some 27), .bin .geq .num (.s 25) (.s 26), none, [], false⟩])
  (.cond (.s 27)
   .skip
   (.exit 0)))
  (.block 1
   (.seq (.reg [2, 3, 9, 10, 11, 12] [⟨(some 28), .mv (.s 11), none, [], false⟩,
     ⟨(some 29), .call (.c (.fn (.func 39) [] [])) [(.s 28)], none, [], false⟩,
     ⟨(some 30), .mv (.s 12), none, [], false⟩,
     ⟨(some 31), .bin .sub .num (.s 29) (.s 30), none, [], false⟩,
     ⟨(some 13), .mv (.s 31), none, [], true⟩])
   (.seq (.draw [2, 3, 9, 10, 11, 12, 13] [⟨(some 32), .load true 2 (.s 3), none, [], false⟩,
     ⟨(some 33), .mv (.s 2), none, [], false⟩,
     ⟨(some 34), .call (.c (.fn (.func 81) [] [])) [(.s 33)], none, [1], false⟩,
     ⟨(some 35), .mv (.s 13), none, [], false⟩,
     ⟨(some 36), .call (.c (.fn (.func 82) [] [])) [(.s 32), (.s 34), (.s 35)], none, [0, 2, 3], false⟩,
     ⟨(some 14), .mv (.s 36), none, [4, 0, 1, 2, 3], true⟩])
   (.seq (.reg [2, 3, 9, 10, 11, 12, 13, 14] [⟨(some 37), .mv (.s 14), none, [], false⟩,
     ⟨(some 38), .call (.c (.fn (.func 62) [] [])) [(.s 37)], none, [], false⟩,
     ⟨(some 39), .mv (.s 11), none, [], false⟩,
     ⟨(some 40), .call (.c (.fn (.func 62) [] [])) [(.s 39)], none, [], false⟩,
     ⟨(some 15), .mv (.s 38), none, [], true⟩,
     ⟨(some 16), .mv (.s 40), none, [], true⟩])
   (.seq (.reg [2, 3, 9, 10, 11, 12, 13, 14, 15, 16] [⟨(some 41), .mv (.s 15), none, [], false⟩,
     ⟨(some 42), .mv (.s 16), none, [], false⟩,
     ⟨(some 43), .call (.c (.fn (.func 83) [] [])) [(.s 41), (.s 42)], none, [], false⟩,
     ⟨(some 17), .mv (.s 43), none, [], true⟩])
   (.seq (.reg [2, 3, 9, 10, 11, 12, 13, 14, 15, 16, 17] [⟨(some 44), .mv (.s 15), none, [], false⟩,
     ⟨(some 45), .mv (.s 17), none, [], false⟩,
     ⟨(some 46), .call (.c (.fn (.func 84) [] [])) [(.s 44), (.s 45)], none, [], false⟩,
     ⟨(some 47), .mv (.s 16), none, [], false⟩,
     ⟨(some 48), .mv (.s 17), none, [], false⟩,
     ⟨(some 49), .call (.c (.fn (.func 84) [] [])) [(.s 47), (.s 48)], none, [], false⟩,
     ⟨(some 15), .mv (.s 46), none, [], true⟩,
     ⟨(some 16), .mv (.s 49), none, [], true⟩])
   (.seq (.reg [2, 3, 9, 10, 11, 12, 13, 14, 15, 16] [⟨(some 50), .mv (.s 15), none, [], false⟩,
     ⟨(some 51), .mv (.s 9), none, [], false⟩,
     ⟨(some 52), .call (.c (.fn (.func 85) [] [])) [(.s 50), (.s 51)], none, [], false⟩,
     ⟨(some 9), .mv (.s 52), none, [], true⟩])
   (.seq (.reg [2, 3, 9, 10, 11, 12, 13, 14, 15, 16] [⟨(some 53), .mv (.s 15), none, [], false⟩,
     ⟨(some 54), .mv (.s 10), none, [], false⟩,
     ⟨(some 55), .call (.c (.fn (.func 87) [] [])) [(.s 53), (.s 54)], none, [], false⟩,
     ⟨(some 56), .mv (.s 16), none, [], false⟩,
     ⟨(some 57), .mv (.s 13), none, [], false⟩,
     ⟨(some 58), .call (.c (.fn (.func 88) [] [])) [(.s 56), (.s 57)], none, [], false⟩,
     ⟨(some 59), .call (.c (.fn (.func 86) [] [])) [(.s 55), (.s 58)], none, [], false⟩,
     ⟨(some 10), .mv (.s 59), none, [], true⟩])
   (.reg [2, 3, 9, 10, 11, 12, 14, 15, 16] [⟨(some 60), .mv (.s 15), none, [], false⟩,
     ⟨(some 61), .mv (.s 11), none, [], false⟩,
     ⟨(some 62), .call (.c (.fn (.func 87) [] [])) [(.s 60), (.s 61)], none, [], false⟩,
     ⟨(some 63), .mv (.s 16), none, [], false⟩,
     ⟨(some 64), .mv (.s 14), none, [], false⟩,
     ⟨(some 65), .call (.c (.fn (.func 87) [] [])) [(.s 63), (.s 64)], none, [], false⟩,
     ⟨(some 66), .call (.c (.fn (.func 89) [] [])) [(.s 62), (.s 65)], none, [], false⟩,
     ⟨(some 11), .mv (.s 66), none, [], true⟩]))))))))))
def i41 : IFn := { nparams := 3, ntmps := 70, results := [.tmp 6, .tmp 7, .tmp 8], body :=
  (.seq (.reg [0, 1, 2] [⟨(some 3), .box 2 (.s 0), none, [], false⟩,
     ⟨(some 6), .mv (.c (.sl .nil [])), none, [], true⟩,
     ⟨(some 7), .mv (.c (.sl .nil [])), none, [], true⟩,
     ⟨(some 8), .mv (.c (.sl .nil [])), none, [], true⟩])
   (.seq (.reg [1, 2, 3] [⟨(some 18), .bsl 1 (.int .i64 0) 1 [(0, (.c (.int .i64 1)))], none, [], false⟩,
     ⟨(some 19), .call (.c (.fn (.func 80) [] [])) [(.s 18)], none, [], false⟩,
     ⟨(some 9), .mv (.s 19), none, [], true⟩])
   (.seq (.reg [1, 2, 3, 9] [⟨(some 10), .mv (.c (.sl .nil [])), none, [], true⟩])
   (.seq (.reg [1, 2, 3, 9, 10] [⟨(some 20), .mv (.s 1), none, [], false⟩,
     ⟨(some 21), .call (.c (.fn (.func 81) [] [])) [(.s 20)], none, [], false⟩,
     ⟨(some 11), .mv (.s 21), none, [], true⟩])
   (.seq (.reg [2, 3, 9, 10, 11] [⟨(some 22), .mv (.s 2), none, [], false⟩,
     ⟨(some 23), .call (.c (.fn (.func 39) [] [])) [(.s 22)], none, [], false⟩,
     ⟨(some 12), .mv (.s 23), none, [], true⟩])
   (.seq (.block 0
    (.loop [2, 3, 9, 10, 11, 12] i41b0))
   (.seq (.reg [9, 10, 11] [⟨(some 67), .mv (.s 9), none, [], false⟩,
     ⟨(some 68), .mv (.s 10), none, [], false⟩,
     ⟨(some 69), .mv (.s 11), none, [], false⟩,
     ⟨(some 6), .mv (.s 67), none, [], true⟩,
     ⟨(some 7), .mv (.s 68), none, [], true⟩,
     ⟨(some 8), .mv (.s 69), none, [], true⟩])
   .ret))))))) }
theorem tr41 : trF Tryz.prog h41 Tryz.f41 = some i41 := by kernel_rfl

-- ashlar/euclid.maps
def h42 : List (List Nat) := [[0], [0, 2]]
def i42 : IFn := { nparams := 1, ntmps := 8, results := [.cell 2 true 2], body :=
  (.seq (.reg [0] [⟨(some 2), .alloc 2 (.agg [.nilFn, .nilFn]), none, [], false⟩])
   (.seq (.reg [0, 2] [⟨(some 3), .mv (.s 0), none, [], false⟩,
     ⟨(some 4), .mkfn (.func 90) [(.s 3)] [], none, [], false⟩,
     ⟨(some 5), .mv (.s 0), none, [], false⟩,
     ⟨(some 6), .mkfn (.func 91) [(.s 5)] [], none, [], false⟩,
     ⟨(some 7), .build [.nilFn, .nilFn] [(0, 1, (.s 4)), (1, 1, (.s 6))], none, [], false⟩,
     ⟨none, .store 2 (.s 2) (.s 7), none, [], false⟩])
   .ret)) }
theorem tr42 : trF Tryz.prog h42 Tryz.f42 = some i42 := by kernel_rfl

-- ashlar/ashlarref9.Size
def h43 : List (List Nat) := [[0], [0], [], [0]]
def i43 : IFn := { nparams := 1, ntmps := 14, results := [.tmp 2, .tmp 3, .tmp 4], body :=
  (.seq (.reg [0] [⟨(some 2), .mv (.c (.int .i64 0)), none, [], true⟩,
     ⟨(some 3), .mv (.c (.int .i64 0)), none, [], true⟩,
     ⟨(some 4), .mv (.c (.int .i64 0)), none, [], true⟩])
   (.seq (.seq (.reg [0] [⟨(some 5), .mv (.s 0), none, [], false⟩,
     ⟨(some 6), .len false (.s 5), none, [], false⟩,
     ⟨(some 7), .bin .eql .num (.s 6) (.c (.int .i64 0)), none, [], false⟩])
   (.cond (.s 7)
    (.seq (.reg [] [⟨(some 2), .mv (.c (.int .i64 0)), none, [], true⟩,
      ⟨(some 3), .mv (.c (.int .i64 0)), none, [], true⟩,
      ⟨(some 4), .mv (.c (.int .i64 0)), none, [], true⟩])
    .ret)
    .skip))
   (.seq (.reg [0] [⟨(some 8), .mv (.s 0), none, [], false⟩,
     ⟨(some 9), .call (.c (.fn (.func 20) [] [])) [(.s 8)], none, [], false⟩,
     ⟨(some 10), .mv (.s 0), none, [], false⟩,
     ⟨(some 11), .call (.c (.fn (.func 92) [] [])) [(.s 10)], none, [], false⟩,
     ⟨(some 12), .mv (.s 0), none, [], false⟩,
     ⟨(some 13), .call (.c (.fn (.func 93) [] [])) [(.s 12)], none, [], false⟩,
     ⟨(some 2), .mv (.s 9), none, [], true⟩,
     ⟨(some 3), .mv (.s 11), none, [], true⟩,
     ⟨(some 4), .mv (.s 13), none, [], true⟩])
   .ret))) }
theorem tr43 : trF Tryz.prog h43 Tryz.f43 = some i43 := by kernel_rfl

-- ashlar/ashlarref1.Bits
def h44 : List (List Nat) := [[0], [1], [1, 3], [], [1, 3], [1, 3, 4], [3, 4, 5], [3, 4, 5], [3, 4, 5], [3, 4, 5], [3, 4]]
def i44b0 : ICode :=
  (.seq (.seq (.reg [3, 4, 5] [⟨(some 17), .mv (.s 5), none, [], false⟩,
    ⟨(some 18), .bin .gtr .num (.s 17) (.c (.int .i64 0)), none, [], false⟩])
  (.cond (.s 18)
   .skip
   (.exit 0)))
  (.seq (.block 1
   (.reg [3, 4, 5] [⟨(some 21), .mv (.s 4), none, [], false⟩,
     ⟨(some 22), .bin .add .num (.s 21) (.c (.int .i64 1)), none, [], false⟩,
     ⟨(some 4), .mv (.s 22), none, [], true⟩]))
  (.reg [3, 4, 5] [⟨(some 19), .mv (.s 5), none, [], false⟩,
    ⟨(some 20), .bin .quo .num (.s 19) (.c (.int .i64 2)), none, [], false⟩,
    ⟨(some 5), .mv (.s 20), none, [], true⟩])))
def i44 : IFn := { nparams := 1, ntmps := 28, results := [.tmp 2], body :=
  (.seq (.reg [0] [⟨(some 1), .box 2 (.s 0), none, [], false⟩,
     ⟨(some 2), .mv (.c (.int .i64 0)), none, [], true⟩])
   (.seq (.reg [1] [⟨(some 6), .fldA 1 false 1 (.s 1), none, [], false⟩,
     ⟨(some 7), .load false 1 (.s 6), none, [], false⟩,
     ⟨(some 8), .len false (.s 7), none, [], false⟩,
     ⟨(some 3), .mv (.s 8), none, [], true⟩])
   (.seq (.seq (.reg [1, 3] [⟨(some 9), .mv (.s 3), none, [], false⟩,
     ⟨(some 10), .bin .eql .num (.s 9) (.c (.int .i64 0)), none, [], false⟩])
   (.cond (.s 10)
    (.seq (.reg [] [⟨(some 2), .mv (.c (.int .i64 0)), none, [], true⟩])
    .ret)
    .skip))
   (.seq (.reg [1, 3] [⟨(some 4), .mv (.c (.int .i64 0)), none, [], true⟩])
   (.seq (.seq (.reg [1, 3, 4] [⟨(some 11), .fldA 1 false 1 (.s 1), none, [], false⟩,
     ⟨(some 12), .load false 1 (.s 11), none, [], false⟩,
     ⟨(some 13), .mv (.s 3), none, [], false⟩,
     ⟨(some 14), .bin .sub .num (.s 13) (.c (.int .i64 1)), none, [], false⟩,
     ⟨(some 15), .idxA 1 (.s 12) (.s 14), none, [], false⟩,
     ⟨(some 16), .load false 1 (.s 15), none, [], false⟩,
     ⟨(some 5), .mv (.s 16), none, [], true⟩])
   (.block 0
    (.loop [3, 4, 5] i44b0)))
   (.seq (.reg [3, 4] [⟨(some 23), .mv (.s 3), none, [], false⟩,
     ⟨(some 24), .bin .sub .num (.s 23) (.c (.int .i64 1)), none, [], false⟩,
     ⟨(some 25), .bin .mul .num (.c (.int .i64 16)) (.s 24), none, [], false⟩,
     ⟨(some 26), .mv (.s 4), none, [], false⟩,
     ⟨(some 27), .bin .add .num (.s 25) (.s 26), none, [], false⟩,
     ⟨(some 2), .mv (.s 27), none, [], true⟩])
   .ret)))))) }
theorem tr44 : trF Tryz.prog h44 Tryz.f44 = some i44 := by kernel_rfl

-- ashlar/ashlarref9.Times
def h45 : List (List Nat) := [[0], [0], [0, 3], [0, 3, 4], [0, 3, 4], [0, 3, 4], [0, 3, 4], [0, 3, 4], [3]]
def i45b0 : ICode :=
  (.seq (.seq (.reg [0, 3, 4] [⟨(some 5), .mv (.s 4), none, [], false⟩,
    ⟨(some 6), .mv (.s 0), none, [], false⟩,
    ⟨(some 7), .len false (.s 6), none, [], false⟩,
    ⟨(some 8), .bin .lss .num (.s 5) (.s 7), none, [], false⟩])
  (.cond (.s 8)
   .skip
   (.exit 0)))
  (.seq (.block 1
   (.seq (.reg [0, 3, 4] [⟨(some 11), .mv (.s 0), none, [], false⟩,
     ⟨(some 12), .mv (.s 4), none, [], false⟩,
     ⟨(some 13), .idxA 1 (.s 11) (.s 12), none, [], false⟩,
     ⟨(some 14), .load false 1 (.s 13), none, [], false⟩,
     ⟨(some 15), .bin .gtr .num (.s 14) (.c (.int .i64 1)), none, [], false⟩])
   (.cond (.s 15)
    (.reg [0, 3, 4] [⟨(some 16), .mv (.s 3), none, [], false⟩,
      ⟨(some 17), .mv (.s 0), none, [], false⟩,
      ⟨(some 18), .mv (.s 4), none, [], false⟩,
      ⟨(some 19), .idxA 1 (.s 17) (.s 18), none, [], false⟩,
      ⟨(some 20), .load false 1 (.s 19), none, [], false⟩,
      ⟨(some 21), .call (.c (.fn (.func 47) [] [])) [(.s 16), (.s 20)], none, [], false⟩,
      ⟨(some 3), .mv (.s 21), none, [], true⟩])
    .skip)))
  (.reg [0, 3, 4] [⟨(some 9), .mv (.s 4), none, [], false⟩,
    ⟨(some 10), .bin .add .num (.s 9) (.c (.int .i64 1)), none, [], false⟩,
    ⟨(some 4), .mv (.s 10), none, [], true⟩])))
def i45 : IFn := { nparams := 1, ntmps := 23, results := [.tmp 2], body :=
  (.seq (.reg [0] [⟨(some 2), .mv (.c (.int .i64 0)), none, [], true⟩])
   (.seq (.reg [0] [⟨(some 3), .mv (.c (.int .i64 1)), none, [], true⟩])
   (.seq (.seq (.reg [0, 3] [⟨(some 4), .mv (.c (.int .i64 0)), none, [], true⟩])
   (.block 0
    (.loop [0, 3, 4] i45b0)))
   (.seq (.reg [3] [⟨(some 22), .mv (.s 3), none, [], false⟩,
     ⟨(some 2), .mv (.s 22), none, [], true⟩])
   .ret)))) }
theorem tr45 : trF Tryz.prog h45 Tryz.f45 = some i45 := by kernel_rfl

-- ashlar/ashlarref9.Sum
def h46 : List (List Nat) := [[0], [0], [0, 3], [0, 3, 4], [0, 3, 4], [0, 3, 4], [0, 3, 4], [3]]
def i46b0 : ICode :=
  (.seq (.seq (.reg [0, 3, 4] [⟨(some 5), .mv (.s 4), none, [], false⟩,
    ⟨(some 6), .mv (.s 0), none, [], false⟩,
    ⟨(some 7), .len false (.s 6), none, [], false⟩,
    ⟨(some 8), .bin .lss .num (.s 5) (.s 7), none, [], false⟩])
  (.cond (.s 8)
   .skip
   (.exit 0)))
  (.seq (.block 1
   (.reg [0, 3, 4] [⟨(some 11), .mv (.s 3), none, [], false⟩,
     ⟨(some 12), .mv (.s 0), none, [], false⟩,
     ⟨(some 13), .mv (.s 4), none, [], false⟩,
     ⟨(some 14), .idxA 1 (.s 12) (.s 13), none, [], false⟩,
     ⟨(some 15), .load false 1 (.s 14), none, [], false⟩,
     ⟨(some 16), .call (.c (.fn (.func 63) [] [])) [(.s 11), (.s 15)], none, [], false⟩,
     ⟨(some 3), .mv (.s 16), none, [], true⟩]))
  (.reg [0, 3, 4] [⟨(some 9), .mv (.s 4), none, [], false⟩,
    ⟨(some 10), .bin .add .num (.s 9) (.c (.int .i64 1)), none, [], false⟩,
    ⟨(some 4), .mv (.s 10), none, [], true⟩])))
def i46 : IFn := { nparams := 1, ntmps := 18, results := [.tmp 2], body :=
  (.seq (.reg [0] [⟨(some 2), .mv (.c (.int .i64 0)), none, [], true⟩])
   (.seq (.reg [0] [⟨(some 3), .mv (.c (.int .i64 0)), none, [], true⟩])
   (.seq (.seq (.reg [0, 3] [⟨(some 4), .mv (.c (.int .i64 0)), none, [], true⟩])
   (.block 0
    (.loop [0, 3, 4] i46b0)))
   (.seq (.reg [3] [⟨(some 17), .mv (.s 3), none, [], false⟩,
     ⟨(some 2), .mv (.s 17), none, [], true⟩])
   .ret)))) }
theorem tr46 : trF Tryz.prog h46 Tryz.f46 = some i46 := by kernel_rfl

-- ashlar/ashlarref9.By
def h47 : List (List Nat) := [[0, 1], [0, 1], [1], [0, 1], [], [0, 1]]
def i47 : IFn := { nparams := 2, ntmps := 18, results := [.tmp 4], body :=
  (.seq (.reg [0, 1] [⟨(some 4), .mv (.c (.int .i64 0)), none, [], true⟩])
   (.seq (.seq (.reg [0, 1] [⟨(some 5), .mv (.s 0), none, [], false⟩,
     ⟨(some 6), .bin .gtr .num (.s 5) (.c (.int .i64 4611686018427387904)), none, [], false⟩])
   (.cond (.s 6)
    (.reg [1] [⟨(some 0), .mv (.c (.int .i64 4611686018427387904)), none, [], true⟩])
    .skip))
   (.seq (.seq (.reg [0, 1] [⟨(some 7), .mv (.s 0), none, [], false⟩,
     ⟨(some 8), .bin .neq .num (.s 7) (.c (.int .i64 0)), none, [], false⟩,
     ⟨(some 9), .mv (.s 8), none, [], false⟩,
     ⟨(some 10), .mv (.s 1), (some (9, true)), [], false⟩,
     ⟨(some 11), .mv (.s 0), (some (9, true)), [], false⟩,
     ⟨(some 12), .bin .quo .num (.c (.int .i64 4611686018427387904)) (.s 11), (some (9, true)), [], false⟩,
     ⟨(some 13), .bin .gtr .num (.s 10) (.s 12), (some (9, true)), [], false⟩,
     ⟨(some 14), .pick (.s 9) (.s 13) (.c (.bool false)), none, [], false⟩])
   (.cond (.s 14)
    (.seq (.reg [] [⟨(some 4), .mv (.c (.int .i64 4611686018427387904)), none, [], true⟩])
    .ret)
    .skip))
   (.seq (.reg [0, 1] [⟨(some 15), .mv (.s 0), none, [], false⟩,
     ⟨(some 16), .mv (.s 1), none, [], false⟩,
     ⟨(some 17), .bin .mul .num (.s 15) (.s 16), none, [], false⟩,
     ⟨(some 4), .mv (.s 17), none, [], true⟩])
   .ret)))) }
theorem tr47 : trF Tryz.prog h47 Tryz.f47 = some i47 := by kernel_rfl

-- ashlar/ashlarref3.Mul
def h48 : List (List Nat) := [[0, 1], [0, 1], [], [0, 1], [0, 1, 5], [0, 1, 5, 6], [0, 1, 5, 6], [0, 1, 5, 6], [0, 1, 5, 6, 7], [0, 1, 5, 6, 7], [0, 1, 5, 6, 7], [0, 1, 5, 6, 7], [0, 1, 5, 6], [5]]
def i48b0 : ICode :=
  (.seq (.seq (.reg [0, 1, 5, 6, 7] [⟨(some 29), .mv (.s 7), none, [], false⟩,
    ⟨(some 30), .mv (.s 1), none, [], false⟩,
    ⟨(some 31), .len false (.s 30), none, [], false⟩,
    ⟨(some 32), .bin .lss .num (.s 29) (.s 31), none, [], false⟩])
  (.cond (.s 32)
   .skip
   (.exit 2)))
  (.seq (.block 3
   (.draw [0, 1, 5, 6, 7] [⟨(some 35), .mv (.s 5), none, [], false⟩,
     ⟨(some 36), .mv (.s 6), none, [], false⟩,
     ⟨(some 37), .mv (.s 7), none, [], false⟩,
     ⟨(some 38), .bin .add .num (.s 36) (.s 37), none, [1, 2], false⟩,
     ⟨(some 39), .mv (.s 5), none, [], false⟩,
     ⟨(some 40), .mv (.s 6), none, [], false⟩,
     ⟨(some 41), .mv (.s 7), none, [], false⟩,
     ⟨(some 42), .bin .add .num (.s 40) (.s 41), none, [5, 6], false⟩,
     ⟨(some 43), .idxA 2 (.s 39) (.s 42), none, [4, 7], false⟩,
     ⟨(some 44), .load true 2 (.s 43), none, [8], false⟩,
     ⟨(some 45), .mv (.s 0), none, [], false⟩,
     ⟨(some 46), .mv (.s 6), none, [], false⟩,
     ⟨(some 47), .idxA 2 (.s 45) (.s 46), none, [10, 11], false⟩,
     ⟨(some 48), .load true 2 (.s 47), none, [12], false⟩,
     ⟨(some 49), .mv (.s 1), none, [], false⟩,
     ⟨(some 50), .mv (.s 7), none, [], false⟩,
     ⟨(some 51), .idxA 2 (.s 49) (.s 50), none, [14, 15], false⟩,
     ⟨(some 52), .load true 2 (.s 51), none, [16], false⟩,
     ⟨(some 53), .call (.c (.fn (.func 95) [] [])) [(.s 48), (.s 52)], none, [13, 17], false⟩,
     ⟨(some 54), .call (.c (.fn (.func 94) [] [])) [(.s 44), (.s 53)], none, [9, 18], false⟩,
     ⟨(some 55), .idxA 2 (.s 35) (.s 38), none, [0, 3, 1, 2, 4, 5, 6, 7, 8, 9, 10, 11, 12, 13, 14, 15, 16, 17, 18, 19], false⟩,
     ⟨none, .store 2 (.s 55) (.s 54), none, [20, 19, 0, 1, 2, 3, 4, 5, 6, 7, 8, 9, 10, 11, 12, 13, 14, 15, 16, 17, 18], false⟩]))
  (.reg [0, 1, 5, 6, 7] [⟨(some 33), .mv (.s 7), none, [], false⟩,
    ⟨(some 34), .bin .add .num (.s 33) (.c (.int .i64 1)), none, [], false⟩,
    ⟨(some 7), .mv (.s 34), none, [], true⟩])))
def i48b1 : ICode :=
  (.seq (.seq (.reg [0, 1, 5, 6] [⟨(some 23), .mv (.s 6), none, [], false⟩,
    ⟨(some 24), .mv (.s 0), none, [], false⟩,
    ⟨(some 25), .len false (.s 24), none, [], false⟩,
    ⟨(some 26), .bin .lss .num (.s 23) (.s 25), none, [], false⟩])
  (.cond (.s 26)
   .skip
   (.exit 0)))
  (.seq (.block 1
   (.seq (.reg [0, 1, 5, 6] [⟨(some 7), .mv (.c (.int .i64 0)), none, [], true⟩])
   (.block 2
    (.loop [0, 1, 5, 6, 7] i48b0))))
  (.reg [0, 1, 5, 6] [⟨(some 27), .mv (.s 6), none, [], false⟩,
    ⟨(some 28), .bin .add .num (.s 27) (.c (.int .i64 1)), none, [], false⟩,
    ⟨(some 6), .mv (.s 28), none, [], true⟩])))
def i48 : IFn := { nparams := 2, ntmps := 58, results := [.tmp 4], body :=
  (.seq (.reg [0, 1] [⟨(some 4), .mv (.c (.sl .nil [])), none, [], true⟩])
   (.seq (.seq (.reg [0, 1] [⟨(some 8), .mv (.s 0), none, [], false⟩,
     ⟨(some 9), .len false (.s 8), none, [], false⟩,
     ⟨(some 10), .bin .eql .num (.s 9) (.c (.int .i64 0)), none, [], false⟩,
     ⟨(some 11), .mv (.s 10), none, [], false⟩,
     ⟨(some 12), .mv (.s 1), (some (11, false)), [], false⟩,
     ⟨(some 13), .len false (.s 12), (some (11, false)), [], false⟩,
     ⟨(some 14), .bin .eql .num (.s 13) (.c (.int .i64 0)), (some (11, false)), [], false⟩,
     ⟨(some 15), .pick (.s 11) (.c (.bool true)) (.s 14), none, [], false⟩])
   (.cond (.s 15)
    (.seq (.reg [] [⟨(some 4), .mv (.c (.sl .nil [])), none, [], true⟩])
    .ret)
    .skip))
   (.seq (.reg [0, 1] [⟨(some 16), .mv (.s 0), none, [], false⟩,
     ⟨(some 17), .len false (.s 16), none, [], false⟩,
     ⟨(some 18), .mv (.s 1), none, [], false⟩,
     ⟨(some 19), .len false (.s 18), none, [], false⟩,
     ⟨(some 20), .bin .add .num (.s 17) (.s 19), none, [], false⟩,
     ⟨(some 21), .bin .sub .num (.s 20) (.c (.int .i64 1)), none, [], false⟩,
     ⟨(some 22), .mksl 2 32 (.agg [(.bool false), (.sl .nil [])]) (.s 21) (.s 21), none, [], false⟩,
     ⟨(some 5), .mv (.s 22), none, [], true⟩])
   (.seq (.seq (.reg [0, 1, 5] [⟨(some 6), .mv (.c (.int .i64 0)), none, [], true⟩])
   (.block 0
    (.loop [0, 1, 5, 6] i48b1)))
   (.seq (.reg [5] [⟨(some 56), .mv (.s 5), none, [], false⟩,
     ⟨(some 57), .call (.c (.fn (.func 49) [] [])) [(.s 56)], none, [], false⟩,
     ⟨(some 4), .mv (.s 57), none, [], true⟩])
   .ret))))) }
theorem tr48 : trF Tryz.prog h48 Tryz.f48 = some i48 := by kernel_rfl

-- ashlar/ashlarref3.Trim
def h49 : List (List Nat) := [[0], [0], [0, 3], [0, 3], [0, 3], [0, 3]]
def i49b0 : ICode :=
  (.seq (.seq (.reg [0, 3] [⟨(some 6), .mv (.s 3), none, [], false⟩,
    ⟨(some 7), .bin .gtr .num (.s 6) (.c (.int .i64 0)), none, [], false⟩,
    ⟨(some 8), .mv (.s 7), none, [], false⟩,
    ⟨(some 9), .mv (.s 0), (some (8, true)), [], false⟩,
    ⟨(some 10), .mv (.s 3), (some (8, true)), [], false⟩,
    ⟨(some 11), .bin .sub .num (.s 10) (.c (.int .i64 1)), (some (8, true)), [], false⟩,
    ⟨(some 12), .idxA 2 (.s 9) (.s 11), (some (8, true)), [], false⟩,
    ⟨(some 13), .load true 2 (.s 12), (some (8, true)), [], false⟩,
    ⟨(some 14), .call (.c (.fn (.func 96) [] [])) [(.s 13)], (some (8, true)), [], false⟩,
    ⟨(some 15), .bin .eql .num (.s 14) (.c (.int .i64 0)), (some (8, true)), [], false⟩,
    ⟨(some 16), .pick (.s 8) (.s 15) (.c (.bool false)), none, [], false⟩])
  (.cond (.s 16)
   .skip
   (.exit 0)))
  (.block 1
   (.reg [0, 3] [⟨(some 17), .mv (.s 3), none, [], false⟩,
     ⟨(some 18), .bin .sub .num (.s 17) (.c (.int .i64 1)), none, [], false⟩,
     ⟨(some 3), .mv (.s 18), none, [], true⟩])))
def i49 : IFn := { nparams := 1, ntmps := 23, results := [.tmp 2], body :=
  (.seq (.reg [0] [⟨(some 2), .mv (.c (.sl .nil [])), none, [], true⟩])
   (.seq (.reg [0] [⟨(some 4), .mv (.s 0), none, [], false⟩,
     ⟨(some 5), .len false (.s 4), none, [], false⟩,
     ⟨(some 3), .mv (.s 5), none, [], true⟩])
   (.seq (.block 0
    (.loop [0, 3] i49b0))
   (.seq (.reg [0, 3] [⟨(some 19), .mv (.s 0), none, [], false⟩,
     ⟨(some 20), .mv (.s 3), none, [], false⟩,
     ⟨(some 21), .mv (.s 3), none, [], false⟩,
     ⟨(some 22), .slice 2 (.s 19) none (some (.s 20)) (some (.s 21)), none, [], false⟩,
     ⟨(some 2), .mv (.s 22), none, [], true⟩])
   .ret)))) }
theorem tr49 : trF Tryz.prog h49 Tryz.f49 = some i49 := by kernel_rfl

-- ashlar/ashlarref3.Add
def h50 : List (List Nat) := [[0, 1], [0, 1], [0, 1, 5], [0, 1, 5, 6], [0, 1, 5, 6], [0, 1, 5, 6], [0, 1, 5, 6], [5]]
def i50b0 : ICode :=
  (.seq (.seq (.reg [0, 1, 5, 6] [⟨(some 7), .mv (.s 6), none, [], false⟩,
    ⟨(some 8), .mv (.s 0), none, [], false⟩,
    ⟨(some 9), .len false (.s 8), none, [], false⟩,
    ⟨(some 10), .bin .lss .num (.s 7) (.s 9), none, [], false⟩,
    ⟨(some 11), .mv (.s 10), none, [], false⟩,
    ⟨(some 12), .mv (.s 6), (some (11, false)), [], false⟩,
    ⟨(some 13), .mv (.s 1), (some (11, false)), [], false⟩,
    ⟨(some 14), .len false (.s 13), (some (11, false)), [], false⟩,
    ⟨(some 15), .bin .lss .num (.s 12) (.s 14), (some (11, false)), [], false⟩,
    ⟨(some 16), .pick (.s 11) (.c (.bool true)) (.s 15), none, [], false⟩])
  (.cond (.s 16)
   .skip
   (.exit 0)))
  (.seq (.block 1
   (.reg [0, 1, 5, 6] [⟨(some 19), .mv (.s 5), none, [], false⟩,
     ⟨(some 20), .mv (.s 0), none, [], false⟩,
     ⟨(some 21), .mv (.s 6), none, [], false⟩,
     ⟨(some 22), .call (.c (.fn (.func 97) [] [])) [(.s 20), (.s 21)], none, [], false⟩,
     ⟨(some 23), .mv (.s 1), none, [], false⟩,
     ⟨(some 24), .mv (.s 6), none, [], false⟩,
     ⟨(some 25), .call (.c (.fn (.func 97) [] [])) [(.s 23), (.s 24)], none, [], false⟩,
     ⟨(some 26), .call (.c (.fn (.func 94) [] [])) [(.s 22), (.s 25)], none, [], false⟩,
     ⟨(some 27), .bsl 2 (.agg [(.bool false), (.sl .nil [])]) 1 [(0, (.s 26))], none, [], false⟩,
     ⟨(some 28), .app 2 32 (.s 19) (.s 27), none, [], false⟩,
     ⟨(some 5), .mv (.s 28), none, [], true⟩]))
  (.reg [0, 1, 5, 6] [⟨(some 17), .mv (.s 6), none, [], false⟩,
    ⟨(some 18), .bin .add .num (.s 17) (.c (.int .i64 1)), none, [], false⟩,
    ⟨(some 6), .mv (.s 18), none, [], true⟩])))
def i50 : IFn := { nparams := 2, ntmps := 31, results := [.tmp 4], body :=
  (.seq (.reg [0, 1] [⟨(some 4), .mv (.c (.sl .nil [])), none, [], true⟩])
   (.seq (.reg [0, 1] [⟨(some 5), .mv (.c (.sl .nil [])), none, [], true⟩])
   (.seq (.seq (.reg [0, 1, 5] [⟨(some 6), .mv (.c (.int .i64 0)), none, [], true⟩])
   (.block 0
    (.loop [0, 1, 5, 6] i50b0)))
   (.seq (.reg [5] [⟨(some 29), .mv (.s 5), none, [], false⟩,
     ⟨(some 30), .call (.c (.fn (.func 49) [] [])) [(.s 29)], none, [], false⟩,
     ⟨(some 4), .mv (.s 30), none, [], true⟩])
   .ret)))) }
theorem tr50 : trF Tryz.prog h50 Tryz.f50 = some i50 := by kernel_rfl

-- ashlar/ashlarref8.At
def h51 : List (List Nat) := [[0, 1], [0, 1], [], [0, 1]]
def i51 : IFn := { nparams := 2, ntmps := 17, results := [.tmp 4], body :=
  (.seq (.reg [0, 1] [⟨(some 4), .mv (.c (.sl .nil [])), none, [], true⟩])
   (.seq (.seq (.reg [0, 1] [⟨(some 5), .mv (.s 1), none, [], false⟩,
     ⟨(some 6), .bin .lss .num (.s 5) (.c (.int .i64 0)), none, [], false⟩,
     ⟨(some 7), .mv (.s 6), none, [], false⟩,
     ⟨(some 8), .mv (.s 1), (some (7, false)), [], false⟩,
     ⟨(some 9), .mv (.s 0), (some (7, false)), [], false⟩,
     ⟨(some 10), .len false (.s 9), (some (7, false)), [], false⟩,
     ⟨(some 11), .bin .geq .num (.s 8) (.s 10), (some (7, false)), [], false⟩,
     ⟨(some 12), .pick (.s 7) (.c (.bool true)) (.s 11), none, [], false⟩])
   (.cond (.s 12)
    (.seq (.reg [] [⟨(some 4), .mv (.c (.sl .nil [])), none, [], true⟩])
    .ret)
    .skip))
   (.seq (.reg [0, 1] [⟨(some 13), .mv (.s 0), none, [], false⟩,
     ⟨(some 14), .mv (.s 1), none, [], false⟩,
     ⟨(some 15), .idxA 1 (.s 13) (.s 14), none, [], false⟩,
     ⟨(some 16), .load false 1 (.s 15), none, [], false⟩,
     ⟨(some 4), .mv (.s 16), none, [], true⟩])
   .ret))) }
theorem tr51 : trF Tryz.prog h51 Tryz.f51 = some i51 := by kernel_rfl

-- (ashlar/ashlarref8.Rule).Past
def h52 : List (List Nat) := [[0, 1], [1, 2], [1, 2, 5], [1, 2, 5, 6], [1, 2, 5, 6], [1, 2, 5, 6], [1, 2, 5, 6], [1, 2, 5, 6], [5]]
def i52b0 : ICode :=
  (.seq (.seq (.reg [1, 2, 5, 6] [⟨(some 11), .mv (.s 6), none, [], false⟩,
    ⟨(some 12), .mv (.s 1), none, [], false⟩,
    ⟨(some 13), .len false (.s 12), none, [], false⟩,
    ⟨(some 14), .bin .lss .num (.s 11) (.s 13), none, [], false⟩])
  (.cond (.s 14)
   .skip
   (.exit 0)))
  (.seq (.block 1
   (.seq (.draw [1, 2, 5, 6] [⟨(some 17), .mv (.s 5), none, [], false⟩,
     ⟨(some 18), .mv (.s 6), none, [], false⟩,
     ⟨(some 19), .mv (.s 5), none, [], false⟩,
     ⟨(some 20), .mv (.s 6), none, [], false⟩,
     ⟨(some 21), .idxA 1 (.s 19) (.s 20), none, [2, 3], false⟩,
     ⟨(some 22), .load false 1 (.s 21), none, [4], false⟩,
     ⟨(some 23), .load true 3 (.s 2), none, [], false⟩,
     ⟨(some 24), .mv (.s 1), none, [], false⟩,
     ⟨(some 25), .mv (.s 6), none, [], false⟩,
     ⟨(some 26), .idxA 1 (.s 24) (.s 25), none, [7, 8], false⟩,
     ⟨(some 27), .load false 1 (.s 26), none, [9], false⟩,
     ⟨(some 28), .call (.c (.fn (.func 98) [] [])) [(.s 23), (.s 27)], none, [6, 10], false⟩,
     ⟨(some 29), .call (.c (.fn (.func 50) [] [])) [(.s 22), (.s 28)], none, [5, 11], false⟩,
     ⟨(some 30), .idxA 1 (.s 17) (.s 18), none, [0, 1, 2, 3, 4, 5, 6, 7, 8, 9, 10, 11, 12], false⟩,
     ⟨none, .store 1 (.s 30) (.s 29), none, [13, 12, 0, 1, 2, 3, 4, 5, 6, 7, 8, 9, 10, 11], false⟩])
   (.draw [1, 2, 5, 6] [⟨(some 31), .mv (.s 5), none, [], false⟩,
     ⟨(some 32), .mv (.s 6), none, [], false⟩,
     ⟨(some 33), .bin .add .num (.s 32) (.c (.int .i64 1)), none, [1], false⟩,
     ⟨(some 34), .mv (.s 5), none, [], false⟩,
     ⟨(some 35), .mv (.s 6), none, [], false⟩,
     ⟨(some 36), .bin .add .num (.s 35) (.c (.int .i64 1)), none, [4], false⟩,
     ⟨(some 37), .idxA 1 (.s 34) (.s 36), none, [3, 5], false⟩,
     ⟨(some 38), .load false 1 (.s 37), none, [6], false⟩,
     ⟨(some 39), .load true 3 (.s 2), none, [], false⟩,
     ⟨(some 40), .mv (.s 1), none, [], false⟩,
     ⟨(some 41), .mv (.s 6), none, [], false⟩,
     ⟨(some 42), .idxA 1 (.s 40) (.s 41), none, [9, 10], false⟩,
     ⟨(some 43), .load false 1 (.s 42), none, [11], false⟩,
     ⟨(some 44), .call (.c (.fn (.func 99) [] [])) [(.s 39), (.s 43)], none, [8, 12], false⟩,
     ⟨(some 45), .call (.c (.fn (.func 50) [] [])) [(.s 38), (.s 44)], none, [7, 13], false⟩,
     ⟨(some 46), .idxA 1 (.s 31) (.s 33), none, [0, 2, 1, 3, 4, 5, 6, 7, 8, 9, 10, 11, 12, 13, 14], false⟩,
     ⟨none, .store 1 (.s 46) (.s 45), none, [15, 14, 0, 1, 2, 3, 4, 5, 6, 7, 8, 9, 10, 11, 12, 13], false⟩])))
  (.reg [1, 2, 5, 6] [⟨(some 15), .mv (.s 6), none, [], false⟩,
    ⟨(some 16), .bin .add .num (.s 15) (.c (.int .i64 1)), none, [], false⟩,
    ⟨(some 6), .mv (.s 16), none, [], true⟩])))
def i52 : IFn := { nparams := 2, ntmps := 49, results := [.tmp 4], body :=
  (.seq (.reg [0, 1] [⟨(some 2), .box 3 (.s 0), none, [], false⟩,
     ⟨(some 4), .mv (.c (.sl .nil [])), none, [], true⟩])
   (.seq (.reg [1, 2] [⟨(some 7), .mv (.s 1), none, [], false⟩,
     ⟨(some 8), .len false (.s 7), none, [], false⟩,
     ⟨(some 9), .bin .add .num (.s 8) (.c (.int .i64 1)), none, [], false⟩,
     ⟨(some 10), .mksl 1 24 (.sl .nil []) (.s 9) (.s 9), none, [], false⟩,
     ⟨(some 5), .mv (.s 10), none, [], true⟩])
   (.seq (.seq (.reg [1, 2, 5] [⟨(some 6), .mv (.c (.int .i64 0)), none, [], true⟩])
   (.block 0
    (.loop [1, 2, 5, 6] i52b0)))
   (.seq (.reg [5] [⟨(some 47), .mv (.s 5), none, [], false⟩,
     ⟨(some 48), .call (.c (.fn (.func 37) [] [])) [(.s 47)], none, [], false⟩,
     ⟨(some 4), .mv (.s 48), none, [], true⟩])
   .ret)))) }
theorem tr52 : trF Tryz.prog h52 Tryz.f52 = some i52 := by kernel_rfl

-- ashlar/ashlarref8.Fine
def h53 : List (List Nat) := [[0], [0]]
def i53 : IFn := { nparams := 1, ntmps := 7, results := [.tmp 2], body :=
  (.seq (.reg [0] [⟨(some 2), .mv (.c (.bool false)), none, [], true⟩])
   (.seq (.reg [0] [⟨(some 3), .mv (.s 0), none, [], false⟩,
     ⟨(some 4), .mv (.s 0), none, [], false⟩,
     ⟨(some 5), .call (.c (.fn (.func 12) [] [])) [(.s 4)], none, [], false⟩,
     ⟨(some 6), .call (.c (.fn (.func 29) [] [])) [(.s 3), (.s 5)], none, [], false⟩,
     ⟨(some 2), .mv (.s 6), none, [], true⟩])
   .ret)) }
theorem tr53 : trF Tryz.prog h53 Tryz.f53 = some i53 := by kernel_rfl

-- ashlar/ashlarref1.Is
def h54 : List (List Nat) := [[0, 1], [2, 3]]
def i54 : IFn := { nparams := 2, ntmps := 9, results := [.tmp 4], body :=
  (.seq (.reg [0, 1] [⟨(some 2), .box 2 (.s 0), none, [], false⟩,
     ⟨(some 3), .box 2 (.s 1), none, [], false⟩,
     ⟨(some 4), .mv (.c (.bool false)), none, [], true⟩])
   (.seq (.draw [2, 3] [⟨(some 5), .load true 2 (.s 2), none, [], false⟩,
     ⟨(some 6), .load true 2 (.s 3), none, [], false⟩,
     ⟨(some 7), .call (.c (.fn (.func 101) [] [])) [(.s 6)], none, [1], false⟩,
     ⟨(some 8), .call (.c (.fn (.func 100) [] [])) [(.s 5), (.s 7)], none, [0, 2], false⟩,
     ⟨(some 4), .mv (.s 8), none, [3, 0, 1, 2], true⟩])
   .ret)) }
theorem tr54 : trF Tryz.prog h54 Tryz.f54 = some i54 := by kernel_rfl

-- ashlar/ashlarref3.Eq
def h55 : List (List Nat) := [[0, 1], [0, 1], [], [0, 1], [0, 1, 5], [0, 1, 5], [0, 1, 5], [], [0, 1, 5], []]
def i55b0 : ICode :=
  (.seq (.seq (.reg [0, 1, 5] [⟨(some 11), .mv (.s 5), none, [], false⟩,
    ⟨(some 12), .mv (.s 0), none, [], false⟩,
    ⟨(some 13), .len false (.s 12), none, [], false⟩,
    ⟨(some 14), .bin .lss .num (.s 11) (.s 13), none, [], false⟩])
  (.cond (.s 14)
   .skip
   (.exit 0)))
  (.seq (.block 1
   (.seq (.draw [0, 1, 5] [⟨(some 17), .mv (.s 0), none, [], false⟩,
     ⟨(some 18), .mv (.s 5), none, [], false⟩,
     ⟨(some 19), .idxA 2 (.s 17) (.s 18), none, [0, 1], false⟩,
     ⟨(some 20), .load true 2 (.s 19), none, [2], false⟩,
     ⟨(some 21), .mv (.s 1), none, [], false⟩,
     ⟨(some 22), .mv (.s 5), none, [], false⟩,
     ⟨(some 23), .idxA 2 (.s 21) (.s 22), none, [4, 5], false⟩,
     ⟨(some 24), .load true 2 (.s 23), none, [6], false⟩,
     ⟨(some 25), .call (.c (.fn (.func 102) [] [])) [(.s 20), (.s 24)], none, [3, 7], false⟩,
     ⟨(some 26), .bin .neq .num (.s 25) (.c (.int .i64 0)), none, [8], false⟩])
   (.cond (.s 26)
    (.seq (.reg [] [⟨(some 4), .mv (.c (.bool false)), none, [], true⟩])
    .ret)
    .skip)))
  (.reg [0, 1, 5] [⟨(some 15), .mv (.s 5), none, [], false⟩,
    ⟨(some 16), .bin .add .num (.s 15) (.c (.int .i64 1)), none, [], false⟩,
    ⟨(some 5), .mv (.s 16), none, [], true⟩])))
def i55 : IFn := { nparams := 2, ntmps := 27, results := [.tmp 4], body :=
  (.seq (.reg [0, 1] [⟨(some 4), .mv (.c (.bool false)), none, [], true⟩])
   (.seq (.seq (.reg [0, 1] [⟨(some 6), .mv (.s 0), none, [], false⟩,
     ⟨(some 7), .len false (.s 6), none, [], false⟩,
     ⟨(some 8), .mv (.s 1), none, [], false⟩,
     ⟨(some 9), .len false (.s 8), none, [], false⟩,
     ⟨(some 10), .bin .neq .num (.s 7) (.s 9), none, [], false⟩])
   (.cond (.s 10)
    (.seq (.reg [] [⟨(some 4), .mv (.c (.bool false)), none, [], true⟩])
    .ret)
    .skip))
   (.seq (.seq (.reg [0, 1] [⟨(some 5), .mv (.c (.int .i64 0)), none, [], true⟩])
   (.block 0
    (.loop [0, 1, 5] i55b0)))
   (.seq (.reg [] [⟨(some 4), .mv (.c (.bool true)), none, [], true⟩])
   .ret)))) }
theorem tr55 : trF Tryz.prog h55 Tryz.f55 = some i55 := by kernel_rfl

-- ashlar/ashlarref3.To
def h56 : List (List Nat) := [[0], [0], [0, 3], [0, 3, 4], [0, 3, 4], [0, 3, 4], [0, 3, 4], [3]]
def i56b0 : ICode :=
  (.seq (.seq (.reg [0, 3, 4] [⟨(some 5), .mv (.s 4), none, [], false⟩,
    ⟨(some 6), .mv (.s 0), none, [], false⟩,
    ⟨(some 7), .len false (.s 6), none, [], false⟩,
    ⟨(some 8), .bin .lss .num (.s 5) (.s 7), none, [], false⟩])
  (.cond (.s 8)
   .skip
   (.exit 0)))
  (.seq (.block 1
   (.reg [0, 3, 4] [⟨(some 11), .mv (.s 3), none, [], false⟩,
     ⟨(some 12), .mv (.s 0), none, [], false⟩,
     ⟨(some 13), .mv (.s 4), none, [], false⟩,
     ⟨(some 14), .idxA 2 (.s 12) (.s 13), none, [], false⟩,
     ⟨(some 15), .load true 2 (.s 14), none, [], false⟩,
     ⟨(some 16), .call (.c (.fn (.func 101) [] [])) [(.s 15)], none, [], false⟩,
     ⟨(some 17), .bsl 2 (.agg [(.bool false), (.sl .nil [])]) 1 [(0, (.s 16))], none, [], false⟩,
     ⟨(some 18), .app 2 32 (.s 11) (.s 17), none, [], false⟩,
     ⟨(some 3), .mv (.s 18), none, [], true⟩]))
  (.reg [0, 3, 4] [⟨(some 9), .mv (.s 4), none, [], false⟩,
    ⟨(some 10), .bin .add .num (.s 9) (.c (.int .i64 1)), none, [], false⟩,
    ⟨(some 4), .mv (.s 10), none, [], true⟩])))
def i56 : IFn := { nparams := 1, ntmps := 20, results := [.tmp 2], body :=
  (.seq (.reg [0] [⟨(some 2), .mv (.c (.sl .nil [])), none, [], true⟩])
   (.seq (.reg [0] [⟨(some 3), .mv (.c (.sl .nil [])), none, [], true⟩])
   (.seq (.seq (.reg [0, 3] [⟨(some 4), .mv (.c (.int .i64 0)), none, [], true⟩])
   (.block 0
    (.loop [0, 3, 4] i56b0)))
   (.seq (.reg [3] [⟨(some 19), .mv (.s 3), none, [], false⟩,
     ⟨(some 2), .mv (.s 19), none, [], true⟩])
   .ret)))) }
theorem tr56 : trF Tryz.prog h56 Tryz.f56 = some i56 := by kernel_rfl

-- ashlar/gauge.Common
def h57 : List (List Nat) := [[0, 1, 2], [0, 1, 5], [7, 8, 9], [7, 8, 9, 10], [7, 8, 10, 11]]
def i57 : IFn := { nparams := 3, ntmps := 54, results := [.tmp 6], body :=
  (.seq (.reg [0, 1, 2] [⟨(some 5), .box 2 (.s 2), none, [], false⟩,
     ⟨(some 6), .mv (.c (.int .i64 0)), none, [], true⟩])
   (.seq (.draw [0, 1, 5] [⟨(some 12), .mv (.s 0), none, [], false⟩,
     ⟨(some 13), .call (.c (.fn (.func 75) [] [])) [(.s 12)], none, [0], false⟩,
     ⟨(some 14), .mv (.s 1), none, [], false⟩,
     ⟨(some 15), .call (.c (.fn (.func 75) [] [])) [(.s 14)], none, [2, 1], false⟩,
     ⟨(some 16), .load true 2 (.s 5), none, [], false⟩,
     ⟨(some 17), .call (.c (.fn (.func 76) [] [])) [(.s 16)], none, [4, 3], false⟩,
     ⟨(some 7), .alloc 3 (.agg [(.int .i64 0), (.int .i64 0), (.int .i64 0)]), none, [], false⟩,
     ⟨(some 8), .alloc 3 (.agg [(.int .i64 0), (.int .i64 0), (.int .i64 0)]), none, [], false⟩,
     ⟨none, .store 3 (.s 7) (.s 13), none, [6, 1, 5, 0, 7], false⟩,
     ⟨none, .store 3 (.s 8) (.s 15), none, [7, 3, 8, 0, 1, 2, 6], false⟩,
     ⟨(some 9), .mv (.s 17), none, [5, 9, 0, 1, 2, 3, 4, 6, 7, 8], true⟩])
   (.seq (.reg [7, 8, 9] [⟨(some 18), .fldA 0 false 1 (.s 7), none, [], false⟩,
     ⟨(some 19), .load false 1 (.s 18), none, [], false⟩,
     ⟨(some 20), .fldA 0 false 1 (.s 8), none, [], false⟩,
     ⟨(some 21), .load false 1 (.s 20), none, [], false⟩,
     ⟨(some 22), .bsl 1 (.int .i64 0) 3 [(0, (.s 19)), (1, (.s 21)), (2, (.c (.int .i64 2)))], none, [], false⟩,
     ⟨(some 23), .call (.c (.fn (.func 77) [] [])) [(.s 22)], none, [], false⟩,
     ⟨(some 10), .mv (.s 23), none, [], true⟩])
   (.seq (.draw [7, 8, 9, 10] [⟨(some 24), .fldA 2 false 1 (.s 7), none, [], false⟩,
     ⟨(some 25), .load false 1 (.s 24), none, [0], false⟩,
     ⟨(some 26), .fldA 2 false 1 (.s 8), none, [], false⟩,
     ⟨(some 27), .load false 1 (.s 26), none, [2], false⟩,
     ⟨(some 28), .mv (.s 10), none, [], false⟩,
     ⟨(some 29), .bin .sub .num (.s 28) (.c (.int .i64 1)), none, [4], false⟩,
     ⟨(some 30), .mv (.s 9), none, [], false⟩,
     ⟨(some 31), .bsl 1 (.int .i64 0) 2 [(0, (.s 30)), (1, (.c (.int .i64 2)))], none, [6], false⟩,
     ⟨(some 32), .call (.c (.fn (.func 77) [] [])) [(.s 31)], none, [7], false⟩,
     ⟨(some 33), .bsl 1 (.int .i64 0) 2 [(0, (.s 29)), (1, (.s 32))], none, [5, 8], false⟩,
     ⟨(some 34), .call (.c (.fn (.func 78) [] [])) [(.s 33)], none, [9, 8], false⟩,
     ⟨(some 35), .bsl 1 (.int .i64 0) 4 [(0, (.s 25)), (1, (.s 27)), (2, (.s 34)), (3, (.c (.int .i64 8)))], none, [1, 3, 10], false⟩,
     ⟨(some 36), .call (.c (.fn (.func 77) [] [])) [(.s 35)], none, [11, 10], false⟩,
     ⟨(some 11), .mv (.s 36), none, [12, 0, 1, 2, 3, 4, 5, 6, 7, 8, 9, 10, 11], true⟩])
   (.seq (.reg [7, 8, 10, 11] [⟨(some 37), .mv (.s 10), none, [], false⟩,
     ⟨(some 38), .mv (.s 10), none, [], false⟩,
     ⟨(some 39), .mv (.s 10), none, [], false⟩,
     ⟨(some 40), .mv (.s 10), none, [], false⟩,
     ⟨(some 41), .fldA 1 false 1 (.s 7), none, [], false⟩,
     ⟨(some 42), .load false 1 (.s 41), none, [], false⟩,
     ⟨(some 43), .fldA 1 false 1 (.s 8), none, [], false⟩,
     ⟨(some 44), .load false 1 (.s 43), none, [], false⟩,
     ⟨(some 45), .bsl 1 (.int .i64 0) 2 [(0, (.s 42)), (1, (.s 44))], none, [], false⟩,
     ⟨(some 46), .call (.c (.fn (.func 77) [] [])) [(.s 45)], none, [], false⟩,
     ⟨(some 47), .bsl 1 (.int .i64 0) 2 [(0, (.s 40)), (1, (.s 46))], none, [], false⟩,
     ⟨(some 48), .call (.c (.fn (.func 78) [] [])) [(.s 47)], none, [], false⟩,
     ⟨(some 49), .bsl 1 (.int .i64 0) 2 [(0, (.s 48)), (1, (.c (.int .i64 2)))], none, [], false⟩,
     ⟨(some 50), .call (.c (.fn (.func 77) [] [])) [(.s 49)], none, [], false⟩,
     ⟨(some 51), .mv (.s 11), none, [], false⟩,
     ⟨(some 52), .bsl 1 (.int .i64 0) 5 [(0, (.s 37)), (1, (.s 38)), (2, (.s 39)), (3, (.s 50)), (4, (.s 51))], none, [], false⟩,
     ⟨(some 53), .call (.c (.fn (.func 79) [] [])) [(.s 52)], none, [], false⟩,
     ⟨(some 6), .mv (.s 53), none, [], true⟩])
   .ret))))) }
theorem tr57 : trF Tryz.prog h57 Tryz.f57 = some i57 := by kernel_rfl

-- ashlar/zore.Lines
def h58 : List (List Nat) := [[0, 1, 2], [1, 2, 3, 6, 7], [1, 2, 3, 6, 7, 8], [3, 6, 7, 9, 10], [3, 6, 7, 9, 10], [3, 6, 7, 9, 10], [3, 6, 7, 9, 10, 11, 12, 13], [3, 6, 7, 9, 10, 14], [6, 7, 9, 10]]
def i58b0 : ICode :=
  (.seq (.seq (.reg [3, 6, 7, 9, 10] [⟨(some 26), .fldA 2 false 1 (.s 10), none, [], false⟩,
    ⟨(some 27), .load false 1 (.s 26), none, [], false⟩,
    ⟨(some 28), .len false (.s 27), none, [], false⟩,
    ⟨(some 29), .bin .gtr .num (.s 28) (.c (.int .i64 0)), none, [], false⟩])
  (.cond (.s 29)
   .skip
   (.exit 0)))
  (.block 1
   (.seq (.reg [3, 6, 7, 9, 10] [⟨(some 31), .load true 2 (.s 3), none, [], false⟩,
     ⟨(some 32), .fldA 2 false 1 (.s 9), none, [], false⟩,
     ⟨(some 33), .load false 1 (.s 32), none, [], false⟩,
     ⟨(some 34), .fldA 2 false 1 (.s 10), none, [], false⟩,
     ⟨(some 35), .load false 1 (.s 34), none, [], false⟩,
     ⟨(some 36), .call (.c (.fn (.func 41) [] [])) [(.s 31), (.s 33), (.s 35)], none, [], false⟩,
     ⟨(some 30), .mv (.s 36), none, [], false⟩,
     ⟨(some 37), .extr (.s 30) 0, none, [], false⟩,
     ⟨(some 38), .extr (.s 30) 1, none, [], false⟩,
     ⟨(some 39), .extr (.s 30) 2, none, [], false⟩,
     ⟨(some 11), .mv (.s 37), none, [], true⟩,
     ⟨(some 12), .mv (.s 38), none, [], true⟩,
     ⟨(some 13), .mv (.s 39), none, [], true⟩])
   (.seq (.draw [3, 6, 7, 9, 10, 11, 12, 13] [⟨(some 40), .mv (.s 11), none, [], false⟩,
     ⟨(some 41), .fldA 0 false 1 (.s 9), none, [], false⟩,
     ⟨(some 42), .load false 1 (.s 41), none, [1], false⟩,
     ⟨(some 43), .call (.c (.fn (.func 87) [] [])) [(.s 40), (.s 42)], none, [0, 2], false⟩,
     ⟨(some 44), .load true 2 (.s 3), none, [], false⟩,
     ⟨(some 45), .mv (.s 12), none, [], false⟩,
     ⟨(some 46), .fldA 0 false 1 (.s 10), none, [], false⟩,
     ⟨(some 47), .load false 1 (.s 46), none, [6], false⟩,
     ⟨(some 48), .call (.c (.fn (.func 103) [] [])) [(.s 44), (.s 45), (.s 47)], none, [4, 5, 7, 3], false⟩,
     ⟨(some 49), .call (.c (.fn (.func 89) [] [])) [(.s 43), (.s 48)], none, [3, 8], false⟩,
     ⟨(some 50), .mv (.s 11), none, [], false⟩,
     ⟨(some 51), .fldA 1 false 1 (.s 9), none, [], false⟩,
     ⟨(some 52), .load false 1 (.s 51), none, [11], false⟩,
     ⟨(some 53), .call (.c (.fn (.func 87) [] [])) [(.s 50), (.s 52)], none, [10, 12, 9], false⟩,
     ⟨(some 54), .load true 2 (.s 3), none, [], false⟩,
     ⟨(some 55), .mv (.s 12), none, [], false⟩,
     ⟨(some 56), .fldA 1 false 1 (.s 10), none, [], false⟩,
     ⟨(some 57), .load false 1 (.s 56), none, [16], false⟩,
     ⟨(some 58), .call (.c (.fn (.func 103) [] [])) [(.s 54), (.s 55), (.s 57)], none, [14, 15, 17, 13], false⟩,
     ⟨(some 59), .call (.c (.fn (.func 89) [] [])) [(.s 53), (.s 58)], none, [13, 18], false⟩,
     ⟨(some 60), .mv (.s 13), none, [], false⟩,
     ⟨(some 61), .build [(.sl .nil []), (.sl .nil []), (.sl .nil [])] [(0, 1, (.s 49)), (1, 1, (.s 59)), (2, 1, (.s 60))], none, [9, 19, 20], false⟩,
     ⟨(some 14), .alloc 3 (.agg [(.sl .nil []), (.sl .nil []), (.sl .nil [])]), none, [], false⟩,
     ⟨none, .store 3 (.s 14) (.s 61), none, [22, 21, 19, 0, 1, 2, 3, 4, 5, 6, 7, 8, 9, 10, 11, 12, 13, 14, 15, 16, 17, 18, 20], false⟩])
   (.draw [3, 6, 7, 9, 10, 14] [⟨(some 62), .load true 3 (.s 10), none, [], false⟩,
     ⟨(some 63), .load true 3 (.s 14), none, [], false⟩,
     ⟨(some 64), .call (.c (.fn (.func 104) [] [])) [(.s 63)], none, [1], false⟩,
     ⟨none, .store 3 (.s 9) (.s 62), none, [0, 2], false⟩,
     ⟨none, .store 3 (.s 10) (.s 64), none, [2, 3, 0, 1], false⟩])))))
def i58 : IFn := { nparams := 3, ntmps := 67, results := [.cell 6 true 3, .cell 7 true 3], body :=
  (.seq (.reg [0, 1, 2] [⟨(some 3), .box 2 (.s 0), none, [], false⟩,
     ⟨(some 6), .alloc 3 (.agg [(.sl .nil []), (.sl .nil []), (.sl .nil [])]), none, [], false⟩,
     ⟨(some 7), .alloc 3 (.agg [(.sl .nil []), (.sl .nil []), (.sl .nil [])]), none, [], false⟩])
   (.seq (.reg [1, 2, 3, 6, 7] [⟨(some 15), .bsl 1 (.int .i64 0) 1 [(0, (.c (.int .i64 1)))], none, [], false⟩,
     ⟨(some 16), .call (.c (.fn (.func 80) [] [])) [(.s 15)], none, [], false⟩,
     ⟨(some 17), .bsl 1 (.sl .nil []) 1 [(0, (.s 16))], none, [], false⟩,
     ⟨(some 8), .mv (.s 17), none, [], true⟩])
   (.seq (.reg [1, 2, 3, 6, 7, 8] [⟨(some 18), .mv (.s 8), none, [], false⟩,
     ⟨(some 19), .mv (.s 1), none, [], false⟩,
     ⟨(some 20), .call (.c (.fn (.func 81) [] [])) [(.s 19)], none, [], false⟩,
     ⟨(some 21), .build [(.sl .nil []), (.sl .nil []), (.sl .nil [])] [(0, 1, (.s 18)), (1, 1, (.c (.sl .nil []))), (2, 1, (.s 20))], none, [], false⟩,
     ⟨(some 22), .mv (.s 8), none, [], false⟩,
     ⟨(some 23), .mv (.s 2), none, [], false⟩,
     ⟨(some 24), .call (.c (.fn (.func 81) [] [])) [(.s 23)], none, [], false⟩,
     ⟨(some 25), .build [(.sl .nil []), (.sl .nil []), (.sl .nil [])] [(0, 1, (.c (.sl .nil []))), (1, 1, (.s 22)), (2, 1, (.s 24))], none, [], false⟩,
     ⟨(some 9), .alloc 3 (.agg [(.sl .nil []), (.sl .nil []), (.sl .nil [])]), none, [], false⟩,
     ⟨(some 10), .alloc 3 (.agg [(.sl .nil []), (.sl .nil []), (.sl .nil [])]), none, [], false⟩,
     ⟨none, .store 3 (.s 9) (.s 21), none, [], false⟩,
     ⟨none, .store 3 (.s 10) (.s 25), none, [], false⟩])
   (.seq (.block 0
    (.loop [3, 6, 7, 9, 10] i58b0))
   (.seq (.draw [6, 7, 9, 10] [⟨(some 65), .load true 3 (.s 9), none, [], false⟩,
     ⟨(some 66), .load true 3 (.s 10), none, [], false⟩,
     ⟨none, .store 3 (.s 6) (.s 65), none, [0], false⟩,
     ⟨none, .store 3 (.s 7) (.s 66), none, [1, 2, 0], false⟩])
   .ret))))) }
theorem tr58 : trF Tryz.prog h58 Tryz.f58 = some i58 := by kernel_rfl

-- ashlar/ore.Prim
def h59 : List (List Nat) := [[0], [0], [0], [], [0], [0, 3], [0, 3], [0, 3]]
def i59 : IFn := { nparams := 1, ntmps := 28, results := [.tmp 2], body :=
  (.seq (.reg [0] [⟨(some 2), .mv (.c (.sl .nil [])), none, [], true⟩])
   (.seq (.reg [0] [⟨(some 4), .mv (.s 0), none, [], false⟩,
     ⟨(some 5), .call (.c (.fn (.func 74) [] [])) [(.s 4)], none, [], false⟩,
     ⟨(some 0), .mv (.s 5), none, [], true⟩])
   (.seq (.seq (.reg [0] [⟨(some 6), .mv (.s 0), none, [], false⟩,
     ⟨(some 7), .len false (.s 6), none, [], false⟩,
     ⟨(some 8), .bin .eql .num (.s 7) (.c (.int .i64 0)), none, [], false⟩])
   (.cond (.s 8)
    (.seq (.reg [] [⟨(some 2), .mv (.c (.sl .nil [])), none, [], true⟩])
    .ret)
    .skip))
   (.seq (.reg [0] [⟨(some 9), .mv (.s 0), none, [], false⟩,
     ⟨(some 10), .call (.c (.fn (.func 61) [] [])) [(.s 9)], none, [], false⟩,
     ⟨(some 3), .mv (.s 10), none, [], true⟩])
   (.seq (.seq (.reg [0, 3] [⟨(some 11), .mv (.s 0), none, [], false⟩,
     ⟨(some 12), .mv (.s 0), none, [], false⟩,
     ⟨(some 13), .len false (.s 12), none, [], false⟩,
     ⟨(some 14), .bin .sub .num (.s 13) (.c (.int .i64 1)), none, [], false⟩,
     ⟨(some 15), .idxA 1 (.s 11) (.s 14), none, [], false⟩,
     ⟨(some 16), .load false 1 (.s 15), none, [], false⟩,
     ⟨(some 17), .call (.c (.fn (.func 105) [] [])) [(.s 16)], none, [], false⟩,
     ⟨(some 18), .call (.c (.fn (.func 69) [] [])) [(.s 17)], none, [], false⟩,
     ⟨(some 19), .bin .lss .num (.s 18) (.c (.int .i64 0)), none, [], false⟩])
   (.cond (.s 19)
    (.reg [0, 3] [⟨(some 20), .mv (.s 3), none, [], false⟩,
      ⟨(some 21), .call (.c (.fn (.func 107) [] [])) [(.c (.int .i64 (-1)))], none, [], false⟩,
      ⟨(some 22), .call (.c (.fn (.func 106) [] [])) [(.s 20), (.s 21)], none, [], false⟩,
      ⟨(some 3), .mv (.s 22), none, [], true⟩])
    .skip))
   (.seq (.reg [0, 3] [⟨(some 23), .mv (.s 0), none, [], false⟩,
     ⟨(some 24), .mv (.s 3), none, [], false⟩,
     ⟨(some 25), .build [(.sl .nil [])] [(0, 1, (.s 24))], none, [], false⟩,
     ⟨(some 26), .mkfn (.func 109) [(.s 25)] [], none, [], false⟩,
     ⟨(some 27), .call (.c (.fn (.func 108) [] [])) [(.s 23), (.s 26)], none, [], false⟩,
     ⟨(some 2), .mv (.s 27), none, [], true⟩])
   .ret)))))) }
theorem tr59 : trF Tryz.prog h59 Tryz.f59 = some i59 := by kernel_rfl

-- ashlar/zore.Flip
def h60 : List (List Nat) := [[0, 1], [0, 1], [0], [0]]
def i60 : IFn := { nparams := 2, ntmps := 13, results := [.tmp 4], body :=
  (.seq (.reg [0, 1] [⟨(some 4), .mv (.c (.sl .nil [])), none, [], true⟩])
   (.seq (.seq (.reg [0, 1] [⟨(some 5), .mv (.s 1), none, [], false⟩,
     ⟨(some 6), .call (.c (.fn (.func 105) [] [])) [(.s 5)], none, [], false⟩,
     ⟨(some 7), .call (.c (.fn (.func 69) [] [])) [(.s 6)], none, [], false⟩,
     ⟨(some 8), .bin .lss .num (.s 7) (.c (.int .i64 0)), none, [], false⟩])
   (.cond (.s 8)
    (.seq (.reg [0] [⟨(some 9), .mv (.s 0), none, [], false⟩,
      ⟨(some 10), .call (.c (.fn (.func 107) [] [])) [(.c (.int .i64 (-1)))], none, [], false⟩,
      ⟨(some 11), .call (.c (.fn (.func 106) [] [])) [(.s 9), (.s 10)], none, [], false⟩,
      ⟨(some 4), .mv (.s 11), none, [], true⟩])
    .ret)
    .skip))
   (.seq (.reg [0] [⟨(some 12), .mv (.s 0), none, [], false⟩,
     ⟨(some 4), .mv (.s 12), none, [], true⟩])
   .ret))) }
theorem tr60 : trF Tryz.prog h60 Tryz.f60 = some i60 := by kernel_rfl

-- ashlar/ore.Content
def h61 : List (List Nat) := [[0], [0], [0, 3], [3, 6, 7, 8], [3, 6, 7, 8], [3, 6, 7, 8], [3, 5, 6, 7, 8], [3, 6, 7, 8], [3]]
def i61b0 : ICode :=
  (.seq (.reg [3, 6, 7, 8] [⟨(some 9), .bin .lss .num (.s 8) (.s 7), none, [], false⟩])
  (.seq (.cond (.s 9)
   .skip
   (.exit 0))
  (.seq (.block 1
   (.seq (.reg [3, 6, 7, 8] [⟨(some 10), .idxA 1 (.s 6) (.s 8), none, [], false⟩,
     ⟨(some 11), .load false 1 (.s 10), none, [], false⟩,
     ⟨(some 5), .mv (.s 11), none, [], true⟩])
   (.reg [3, 5, 6, 7, 8] [⟨(some 12), .mv (.s 3), none, [], false⟩,
     ⟨(some 13), .mv (.s 5), none, [], false⟩,
     ⟨(some 14), .call (.c (.fn (.func 83) [] [])) [(.s 12), (.s 13)], none, [], false⟩,
     ⟨(some 3), .mv (.s 14), none, [], true⟩])))
  (.reg [3, 6, 7, 8] [⟨(some 15), .bin .add .num (.s 8) (.c (.int .i64 1)), none, [], false⟩,
    ⟨(some 8), .mv (.s 15), none, [], false⟩]))))
def i61 : IFn := { nparams := 1, ntmps := 17, results := [.tmp 2], body :=
  (.seq (.reg [0] [⟨(some 2), .mv (.c (.sl .nil [])), none, [], true⟩])
   (.seq (.reg [0] [⟨(some 3), .mv (.c (.sl .nil [])), none, [], true⟩])
   (.seq (.seq (.reg [0, 3] [⟨(some 6), .mv (.s 0), none, [], false⟩,
     ⟨(some 7), .len false (.s 6), none, [], false⟩,
     ⟨(some 8), .mv (.c (.int .i64 0)), none, [], false⟩])
   (.block 0
    (.loop [3, 6, 7, 8] i61b0)))
   (.seq (.reg [3] [⟨(some 16), .mv (.s 3), none, [], false⟩,
     ⟨(some 2), .mv (.s 16), none, [], true⟩])
   .ret)))) }
theorem tr61 : trF Tryz.prog h61 Tryz.f61 = some i61 := by kernel_rfl

-- ashlar/ore.Lead
def h62 : List (List Nat) := [[0], [0], [0], [0], []]
def i62 : IFn := { nparams := 1, ntmps := 15, results := [.tmp 2], body :=
  (.seq (.reg [0] [⟨(some 2), .mv (.c (.sl .nil [])), none, [], true⟩])
   (.seq (.seq (.reg [0] [⟨(some 3), .mv (.s 0), none, [], false⟩,
     ⟨(some 4), .call (.c (.fn (.func 74) [] [])) [(.s 3)], none, [], false⟩,
     ⟨(some 0), .mv (.s 4), none, [], true⟩])
   (.seq (.reg [0] [⟨(some 5), .mv (.s 0), none, [], false⟩,
     ⟨(some 6), .len false (.s 5), none, [], false⟩,
     ⟨(some 7), .bin .gtr .num (.s 6) (.c (.int .i64 0)), none, [], false⟩])
   (.cond (.s 7)
    (.seq (.reg [0] [⟨(some 8), .mv (.s 0), none, [], false⟩,
      ⟨(some 9), .mv (.s 0), none, [], false⟩,
      ⟨(some 10), .len false (.s 9), none, [], false⟩,
      ⟨(some 11), .bin .sub .num (.s 10) (.c (.int .i64 1)), none, [], false⟩,
      ⟨(some 12), .idxA 1 (.s 8) (.s 11), none, [], false⟩,
      ⟨(some 13), .load false 1 (.s 12), none, [], false⟩,
      ⟨(some 14), .call (.c (.fn (.func 110) [] [])) [(.s 13)], none, [], false⟩,
      ⟨(some 2), .mv (.s 14), none, [], true⟩])
    .ret)
    .skip)))
   (.seq (.reg [] [⟨(some 2), .mv (.c (.sl .nil [])), none, [], true⟩])
   .ret))) }
theorem tr62 : trF Tryz.prog h62 Tryz.f62 = some i62 := by kernel_rfl

-- ashlar/ashlarref9.Plus
def h63 : List (List Nat) := [[0, 1], [0, 1], [], [0, 1]]
def i63 : IFn := { nparams := 2, ntmps := 12, results := [.tmp 4], body :=
  (.seq (.reg [0, 1] [⟨(some 4), .mv (.c (.int .i64 0)), none, [], true⟩])
   (.seq (.seq (.reg [0, 1] [⟨(some 5), .mv (.s 0), none, [], false⟩,
     ⟨(some 6), .mv (.s 1), none, [], false⟩,
     ⟨(some 7), .bin .sub .num (.c (.int .i64 4611686018427387904)) (.s 6), none, [], false⟩,
     ⟨(some 8), .bin .gtr .num (.s 5) (.s 7), none, [], false⟩])
   (.cond (.s 8)
    (.seq (.reg [] [⟨(some 4), .mv (.c (.int .i64 4611686018427387904)), none, [], true⟩])
    .ret)
    .skip))
   (.seq (.reg [0, 1] [⟨(some 9), .mv (.s 0), none, [], false⟩,
     ⟨(some 10), .mv (.s 1), none, [], false⟩,
     ⟨(some 11), .bin .add .num (.s 9) (.s 10), none, [], false⟩,
     ⟨(some 4), .mv (.s 11), none, [], true⟩])
   .ret))) }
theorem tr63 : trF Tryz.prog h63 Tryz.f63 = some i63 := by kernel_rfl

-- ashlar/ashlarref8.Content
def h64 : List (List Nat) := [[0], [0], [0, 3], [0, 3, 4], [0, 3, 4], [0, 3, 4], [0, 3, 4], [3]]
def i64b0 : ICode :=
  (.seq (.seq (.reg [0, 3, 4] [⟨(some 5), .mv (.s 4), none, [], false⟩,
    ⟨(some 6), .mv (.s 0), none, [], false⟩,
    ⟨(some 7), .len false (.s 6), none, [], false⟩,
    ⟨(some 8), .bin .lss .num (.s 5) (.s 7), none, [], false⟩])
  (.cond (.s 8)
   .skip
   (.exit 0)))
  (.seq (.block 1
   (.reg [0, 3, 4] [⟨(some 11), .mv (.s 3), none, [], false⟩,
     ⟨(some 12), .mv (.s 0), none, [], false⟩,
     ⟨(some 13), .mv (.s 4), none, [], false⟩,
     ⟨(some 14), .idxA 1 (.s 12) (.s 13), none, [], false⟩,
     ⟨(some 15), .load false 1 (.s 14), none, [], false⟩,
     ⟨(some 16), .call (.c (.fn (.func 111) [] [])) [(.s 11), (.s 15)], none, [], false⟩,
     ⟨(some 3), .mv (.s 16), none, [], true⟩]))
  (.reg [0, 3, 4] [⟨(some 9), .mv (.s 4), none, [], false⟩,
    ⟨(some 10), .bin .add .num (.s 9) (.c (.int .i64 1)), none, [], false⟩,
    ⟨(some 4), .mv (.s 10), none, [], true⟩])))
def i64 : IFn := { nparams := 1, ntmps := 18, results := [.tmp 2], body :=
  (.seq (.reg [0] [⟨(some 2), .mv (.c (.sl .nil [])), none, [], true⟩])
   (.seq (.reg [0] [⟨(some 3), .mv (.c (.sl .nil [])), none, [], true⟩])
   (.seq (.seq (.reg [0, 3] [⟨(some 4), .mv (.c (.int .i64 0)), none, [], true⟩])
   (.block 0
    (.loop [0, 3, 4] i64b0)))
   (.seq (.reg [3] [⟨(some 17), .mv (.s 3), none, [], false⟩,
     ⟨(some 2), .mv (.s 17), none, [], true⟩])
   .ret)))) }
theorem tr64 : trF Tryz.prog h64 Tryz.f64 = some i64 := by kernel_rfl

-- ashlar/ashlarref3.Exact
def h65 : List (List Nat) := [[0, 1], [0, 1], [], [0, 1], [0, 1, 6], [1, 6, 7], [1, 6, 7], [1, 6, 7], [1, 6, 7, 8, 9], [], [1, 6, 7, 8], [1, 6, 7, 8, 10], [1, 6, 7, 10], [1, 6, 7, 10], [6, 7]]
def i65b0 : ICode :=
  (.seq (.seq (.reg [1, 6, 7] [⟨(some 15), .mv (.s 7), none, [], false⟩,
    ⟨(some 16), .call (.c (.fn (.func 112) [] [])) [(.s 15)], none, [], false⟩,
    ⟨(some 17), .mv (.s 1), none, [], false⟩,
    ⟨(some 18), .call (.c (.fn (.func 112) [] [])) [(.s 17)], none, [], false⟩,
    ⟨(some 19), .bin .geq .num (.s 16) (.s 18), none, [], false⟩])
  (.cond (.s 19)
   .skip
   (.exit 0)))
  (.block 1
   (.seq (.reg [1, 6, 7] [⟨(some 21), .mv (.s 7), none, [], false⟩,
     ⟨(some 22), .call (.c (.fn (.func 66) [] [])) [(.s 21)], none, [], false⟩,
     ⟨(some 23), .mv (.s 1), none, [], false⟩,
     ⟨(some 24), .call (.c (.fn (.func 66) [] [])) [(.s 23)], none, [], false⟩,
     ⟨(some 25), .call (.c (.fn (.func 113) [] [])) [(.s 22), (.s 24)], none, [], false⟩,
     ⟨(some 20), .mv (.s 25), none, [], false⟩,
     ⟨(some 26), .extr (.s 20) 0, none, [], false⟩,
     ⟨(some 27), .extr (.s 20) 1, none, [], false⟩,
     ⟨(some 8), .alloc 2 (.agg [(.bool false), (.sl .nil [])]), none, [], false⟩,
     ⟨(some 9), .alloc 2 (.agg [(.bool false), (.sl .nil [])]), none, [], false⟩,
     ⟨none, .store 2 (.s 8) (.s 26), none, [], false⟩,
     ⟨none, .store 2 (.s 9) (.s 27), none, [], false⟩])
   (.seq (.seq (.reg [1, 6, 7, 8, 9] [⟨(some 28), .load true 2 (.s 9), none, [], false⟩,
     ⟨(some 29), .call (.c (.fn (.func 96) [] [])) [(.s 28)], none, [], false⟩,
     ⟨(some 30), .bin .neq .num (.s 29) (.c (.int .i64 0)), none, [], false⟩])
   (.cond (.s 30)
    (.seq (.reg [] [⟨(some 4), .mv (.c (.sl .nil [])), none, [], true⟩,
      ⟨(some 5), .mv (.c (.bool false)), none, [], true⟩])
    .ret)
    .skip))
   (.seq (.reg [1, 6, 7, 8] [⟨(some 31), .mv (.s 7), none, [], false⟩,
     ⟨(some 32), .call (.c (.fn (.func 112) [] [])) [(.s 31)], none, [], false⟩,
     ⟨(some 33), .mv (.s 1), none, [], false⟩,
     ⟨(some 34), .call (.c (.fn (.func 112) [] [])) [(.s 33)], none, [], false⟩,
     ⟨(some 35), .bin .sub .num (.s 32) (.s 34), none, [], false⟩,
     ⟨(some 36), .bin .add .num (.s 35) (.c (.int .i64 1)), none, [], false⟩,
     ⟨(some 37), .mksl 2 32 (.agg [(.bool false), (.sl .nil [])]) (.s 36) (.s 36), none, [], false⟩,
     ⟨(some 10), .mv (.s 37), none, [], true⟩])
   (.seq (.reg [1, 6, 7, 8, 10] [⟨(some 38), .mv (.s 10), none, [], false⟩,
     ⟨(some 39), .mv (.s 10), none, [], false⟩,
     ⟨(some 40), .len false (.s 39), none, [], false⟩,
     ⟨(some 41), .bin .sub .num (.s 40) (.c (.int .i64 1)), none, [], false⟩,
     ⟨(some 42), .load true 2 (.s 8), none, [], false⟩,
     ⟨(some 43), .idxA 2 (.s 38) (.s 41), none, [], false⟩,
     ⟨none, .store 2 (.s 43) (.s 42), none, [], false⟩])
   (.seq (.reg [1, 6, 7, 10] [⟨(some 44), .mv (.s 6), none, [], false⟩,
     ⟨(some 45), .mv (.s 10), none, [], false⟩,
     ⟨(some 46), .call (.c (.fn (.func 50) [] [])) [(.s 44), (.s 45)], none, [], false⟩,
     ⟨(some 6), .mv (.s 46), none, [], true⟩])
   (.reg [1, 6, 7, 10] [⟨(some 47), .mv (.s 7), none, [], false⟩,
     ⟨(some 48), .mv (.s 10), none, [], false⟩,
     ⟨(some 49), .mv (.s 1), none, [], false⟩,
     ⟨(some 50), .call (.c (.fn (.func 48) [] [])) [(.s 48), (.s 49)], none, [], false⟩,
     ⟨(some 51), .call (.c (.fn (.func 114) [] [])) [(.s 47), (.s 50)], none, [], false⟩,
     ⟨(some 7), .mv (.s 51), none, [], true⟩]))))))))
def i65 : IFn := { nparams := 2, ntmps := 56, results := [.tmp 4, .tmp 5], body :=
  (.seq (.reg [0, 1] [⟨(some 4), .mv (.c (.sl .nil [])), none, [], true⟩,
     ⟨(some 5), .mv (.c (.bool false)), none, [], true⟩])
   (.seq (.seq (.reg [0, 1] [⟨(some 11), .mv (.s 1), none, [], false⟩,
     ⟨(some 12), .len false (.s 11), none, [], false⟩,
     ⟨(some 13), .bin .eql .num (.s 12) (.c (.int .i64 0)), none, [], false⟩])
   (.cond (.s 13)
    (.seq (.reg [] [⟨(some 4), .mv (.c (.sl .nil [])), none, [], true⟩,
      ⟨(some 5), .mv (.c (.bool false)), none, [], true⟩])
    .ret)
    .skip))
   (.seq (.reg [0, 1] [⟨(some 6), .mv (.c (.sl .nil [])), none, [], true⟩])
   (.seq (.reg [0, 1, 6] [⟨(some 14), .mv (.s 0), none, [], false⟩,
     ⟨(some 7), .mv (.s 14), none, [], true⟩])
   (.seq (.block 0
    (.loop [1, 6, 7] i65b0))
   (.seq (.reg [6, 7] [⟨(some 52), .mv (.s 6), none, [], false⟩,
     ⟨(some 53), .mv (.s 7), none, [], false⟩,
     ⟨(some 54), .len false (.s 53), none, [], false⟩,
     ⟨(some 55), .bin .eql .num (.s 54) (.c (.int .i64 0)), none, [], false⟩,
     ⟨(some 4), .mv (.s 52), none, [], true⟩,
     ⟨(some 5), .mv (.s 55), none, [], true⟩])
   .ret)))))) }
theorem tr65 : trF Tryz.prog h65 Tryz.f65 = some i65 := by kernel_rfl

-- ashlar/ashlarref3.Lead
def h66 : List (List Nat) := [[0], [0, 2]]
def i66 : IFn := { nparams := 1, ntmps := 8, results := [.cell 2 true 2], body :=
  (.seq (.reg [0] [⟨(some 2), .alloc 2 (.agg [(.bool false), (.sl .nil [])]), none, [], false⟩])
   (.seq (.reg [0, 2] [⟨(some 3), .mv (.s 0), none, [], false⟩,
     ⟨(some 4), .mv (.s 0), none, [], false⟩,
     ⟨(some 5), .len false (.s 4), none, [], false⟩,
     ⟨(some 6), .bin .sub .num (.s 5) (.c (.int .i64 1)), none, [], false⟩,
     ⟨(some 7), .call (.c (.fn (.func 97) [] [])) [(.s 3), (.s 6)], none, [], false⟩,
     ⟨none, .store 2 (.s 2) (.s 7), none, [], false⟩])
   .ret)) }
theorem tr66 : trF Tryz.prog h66 Tryz.f66 = some i66 := by kernel_rfl

-- ashlar/ashlarref8.Lead
def h67 : List (List Nat) := [[0], [0]]
def i67 : IFn := { nparams := 1, ntmps := 8, results := [.tmp 2], body :=
  (.seq (.reg [0] [⟨(some 2), .mv (.c (.sl .nil [])), none, [], true⟩])
   (.seq (.reg [0] [⟨(some 3), .mv (.s 0), none, [], false⟩,
     ⟨(some 4), .mv (.s 0), none, [], false⟩,
     ⟨(some 5), .len false (.s 4), none, [], false⟩,
     ⟨(some 6), .bin .sub .num (.s 5) (.c (.int .i64 1)), none, [], false⟩,
     ⟨(some 7), .call (.c (.fn (.func 51) [] [])) [(.s 3), (.s 6)], none, [], false⟩,
     ⟨(some 2), .mv (.s 7), none, [], true⟩])
   .ret)) }
theorem tr67 : trF Tryz.prog h67 Tryz.f67 = some i67 := by kernel_rfl

-- ashlar/zore.Multiple
def h68 : List (List Nat) := [[0, 1, 2], [1, 2, 3], [1, 3, 10]]
def i68 : IFn := { nparams := 3, ntmps := 31, results := [.tmp 6, .tmp 7, .tmp 8], body :=
  (.seq (.reg [0, 1, 2] [⟨(some 3), .box 2 (.s 0), none, [], false⟩,
     ⟨(some 6), .mv (.c (.sl .nil [])), none, [], true⟩,
     ⟨(some 7), .mv (.c (.sl .nil [])), none, [], true⟩,
     ⟨(some 8), .mv (.c (.sl .nil [])), none, [], true⟩])
   (.seq (.reg [1, 2, 3] [⟨(some 12), .load true 2 (.s 3), none, [], false⟩,
     ⟨(some 13), .mv (.s 1), none, [], false⟩,
     ⟨(some 14), .mv (.s 2), none, [], false⟩,
     ⟨(some 15), .call (.c (.fn (.func 58) [] [])) [(.s 12), (.s 13), (.s 14)], none, [], false⟩,
     ⟨(some 11), .mv (.s 15), none, [], false⟩,
     ⟨(some 16), .extr (.s 11) 0, none, [], false⟩,
     ⟨(some 17), .extr (.s 11) 1, none, [], false⟩,
     ⟨(some 9), .alloc 3 (.agg [(.sl .nil []), (.sl .nil []), (.sl .nil [])]), none, [], false⟩,
     ⟨(some 10), .alloc 3 (.agg [(.sl .nil []), (.sl .nil []), (.sl .nil [])]), none, [], false⟩,
     ⟨none, .store 3 (.s 9) (.s 16), none, [], false⟩,
     ⟨none, .store 3 (.s 10) (.s 17), none, [], false⟩])
   (.seq (.draw [1, 3, 10] [⟨(some 18), .load true 2 (.s 3), none, [], false⟩,
     ⟨(some 19), .fldA 0 false 1 (.s 10), none, [], false⟩,
     ⟨(some 20), .load false 1 (.s 19), none, [1], false⟩,
     ⟨(some 21), .mv (.s 1), none, [], false⟩,
     ⟨(some 22), .call (.c (.fn (.func 81) [] [])) [(.s 21)], none, [3], false⟩,
     ⟨(some 23), .call (.c (.fn (.func 103) [] [])) [(.s 18), (.s 20), (.s 22)], none, [0, 2, 4], false⟩,
     ⟨(some 24), .fldA 0 false 1 (.s 10), none, [], false⟩,
     ⟨(some 25), .load false 1 (.s 24), none, [6], false⟩,
     ⟨(some 26), .bsl 1 (.int .i64 0) 1 [(0, (.c (.int .i64 (-1))))], none, [], false⟩,
     ⟨(some 27), .call (.c (.fn (.func 80) [] [])) [(.s 26)], none, [8, 5], false⟩,
     ⟨(some 28), .fldA 1 false 1 (.s 10), none, [], false⟩,
     ⟨(some 29), .load false 1 (.s 28), none, [10], false⟩,
     ⟨(some 30), .call (.c (.fn (.func 87) [] [])) [(.s 27), (.s 29)], none, [9, 11], false⟩,
     ⟨(some 6), .mv (.s 23), none, [5, 12, 0, 1, 2, 3, 4], true⟩,
     ⟨(some 7), .mv (.s 25), none, [7, 13, 0, 1, 2, 3, 4, 5, 6], true⟩,
     ⟨(some 8), .mv (.s 30), none, [12, 14, 0, 1, 2, 3, 4, 5, 6, 7, 8, 9, 10, 11, 13], true⟩])
   .ret))) }
theorem tr68 : trF Tryz.prog h68 Tryz.f68 = some i68 := by kernel_rfl

-- ashlar/limbs.Sign
def h69 : List (List Nat) := [[0], [1], [], [1], [], []]
def i69 : IFn := { nparams := 1, ntmps := 11, results := [.tmp 2], body :=
  (.seq (.reg [0] [⟨(some 1), .box 2 (.s 0), none, [], false⟩,
     ⟨(some 2), .mv (.c (.int .i64 0)), none, [], true⟩])
   (.seq (.block 0
    (.seq (.reg [1] [⟨(some 4), .load true 2 (.s 1), none, [], false⟩,
      ⟨(some 5), .call (.c (.fn (.func 115) [] [])) [(.s 4)], none, [], false⟩,
      ⟨(some 6), .len false (.s 5), none, [], false⟩,
      ⟨(some 7), .bin .eql .num (.s 6) (.c (.int .i64 0)), none, [], false⟩,
      ⟨(some 3), .mv (.s 7), none, [], true⟩])
    (.cond (.s 3)
     (.seq (.reg [] [⟨(some 2), .mv (.c (.int .i64 0)), none, [], true⟩])
     .ret)
     (.seq (.reg [1] [⟨(some 9), .fldA 0 false 1 (.s 1), none, [], false⟩,
       ⟨(some 10), .load false 1 (.s 9), none, [], false⟩,
       ⟨(some 8), .mv (.s 10), none, [], true⟩])
     (.cond (.s 8)
      (.seq (.reg [] [⟨(some 2), .mv (.c (.int .i64 (-1))), none, [], true⟩])
      .ret)
      .skip)))))
   (.seq (.reg [] [⟨(some 2), .mv (.c (.int .i64 1)), none, [], true⟩])
   .ret))) }
theorem tr69 : trF Tryz.prog h69 Tryz.f69 = some i69 := by kernel_rfl

-- ashlar/limbs.Add
def h70 : List (List Nat) := [[0, 1], [2, 3, 4]]
def i70 : IFn := { nparams := 2, ntmps := 8, results := [.cell 4 true 2], body :=
  (.seq (.reg [0, 1] [⟨(some 2), .box 2 (.s 0), none, [], false⟩,
     ⟨(some 3), .box 2 (.s 1), none, [], false⟩,
     ⟨(some 4), .alloc 2 (.agg [(.bool false), (.sl .nil [])]), none, [], false⟩])
   (.seq (.reg [2, 3, 4] [⟨(some 5), .load true 2 (.s 2), none, [], false⟩,
     ⟨(some 6), .load true 2 (.s 3), none, [], false⟩,
     ⟨(some 7), .call (.c (.fn (.func 116) [] [])) [(.s 5), (.s 6), (.c (.bool false))], none, [], false⟩,
     ⟨none, .store 2 (.s 4) (.s 7), none, [], false⟩])
   .ret)) }
theorem tr70 : trF Tryz.prog h70 Tryz.f70 = some i70 := by kernel_rfl

-- ashlar/ashlarlaw1.Cut
def h71 : List (List Nat) := [[0], [1, 2], [1, 2, 3], [1, 2], [1, 2, 3]]
def i71 : IFn := { nparams := 1, ntmps := 17, results := [.cell 2 true 2], body :=
  (.seq (.reg [0] [⟨(some 1), .box 2 (.s 0), none, [], false⟩,
     ⟨(some 2), .alloc 2 (.agg [(.bool false), (.sl .nil [])]), none, [], false⟩])
   (.seq (.reg [1, 2] [⟨(some 4), .fldA 1 false 1 (.s 1), none, [], false⟩,
     ⟨(some 5), .load false 1 (.s 4), none, [], false⟩,
     ⟨(some 6), .len false (.s 5), none, [], false⟩,
     ⟨(some 3), .mv (.s 6), none, [], true⟩])
   (.seq (.seq (.reg [1, 2, 3] [⟨(some 7), .mv (.s 3), none, [], false⟩,
     ⟨(some 8), .bin .gtr .num (.s 7) (.c (.int .i64 24)), none, [], false⟩])
   (.cond (.s 8)
    (.reg [1, 2] [⟨(some 3), .mv (.c (.int .i64 24)), none, [], true⟩])
    .skip))
   (.seq (.draw [1, 2, 3] [⟨(some 9), .fldA 0 false 1 (.s 1), none, [], false⟩,
     ⟨(some 10), .load false 1 (.s 9), none, [0], false⟩,
     ⟨(some 11), .fldA 1 false 1 (.s 1), none, [], false⟩,
     ⟨(some 12), .load false 1 (.s 11), none, [2], false⟩,
     ⟨(some 13), .mv (.s 3), none, [], false⟩,
     ⟨(some 14), .slice 1 (.s 12) none (some (.s 13)) none, none, [3, 4], false⟩,
     ⟨(some 15), .app 1 4 (.c (.sl .nil [])) (.s 14), none, [5], false⟩,
     ⟨(some 16), .build [(.bool false), (.sl .nil [])] [(0, 1, (.s 10)), (1, 1, (.s 15))], none, [1, 6], false⟩,
     ⟨none, .store 2 (.s 2) (.s 16), none, [7, 6, 0, 1, 2, 3, 4, 5], false⟩])
   .ret)))) }
theorem tr71 : trF Tryz.prog h71 Tryz.f71 = some i71 := by kernel_rfl

-- ashlar/ashlarref1.trim
def h72 : List (List Nat) := [[0, 1], [0, 1, 4], [0, 1, 4, 5], [0, 1, 4, 5], [0, 1, 4, 5], [0, 1, 4, 5]]
def i72b0 : ICode :=
  (.seq (.seq (.reg [0, 1, 4, 5] [⟨(some 8), .mv (.s 5), none, [], false⟩,
    ⟨(some 9), .bin .gtr .num (.s 8) (.c (.int .i64 0)), none, [], false⟩,
    ⟨(some 10), .mv (.s 9), none, [], false⟩,
    ⟨(some 11), .mv (.s 1), (some (10, true)), [], false⟩,
    ⟨(some 12), .mv (.s 5), (some (10, true)), [], false⟩,
    ⟨(some 13), .bin .sub .num (.s 12) (.c (.int .i64 1)), (some (10, true)), [], false⟩,
    ⟨(some 14), .idxA 1 (.s 11) (.s 13), (some (10, true)), [], false⟩,
    ⟨(some 15), .load false 1 (.s 14), (some (10, true)), [], false⟩,
    ⟨(some 16), .bin .eql .num (.s 15) (.c (.int .i64 0)), (some (10, true)), [], false⟩,
    ⟨(some 17), .pick (.s 10) (.s 16) (.c (.bool false)), none, [], false⟩])
  (.cond (.s 17)
   .skip
   (.exit 0)))
  (.block 1
   (.reg [0, 1, 4, 5] [⟨(some 18), .mv (.s 5), none, [], false⟩,
     ⟨(some 19), .bin .sub .num (.s 18) (.c (.int .i64 1)), none, [], false⟩,
     ⟨(some 5), .mv (.s 19), none, [], true⟩])))
def i72 : IFn := { nparams := 2, ntmps := 30, results := [.cell 4 true 2], body :=
  (.seq (.reg [0, 1] [⟨(some 4), .alloc 2 (.agg [(.bool false), (.sl .nil [])]), none, [], false⟩])
   (.seq (.reg [0, 1, 4] [⟨(some 6), .mv (.s 1), none, [], false⟩,
     ⟨(some 7), .len false (.s 6), none, [], false⟩,
     ⟨(some 5), .mv (.s 7), none, [], true⟩])
   (.seq (.block 0
    (.loop [0, 1, 4, 5] i72b0))
   (.seq (.reg [0, 1, 4, 5] [⟨(some 20), .mv (.s 0), none, [], false⟩,
     ⟨(some 21), .mv (.s 20), none, [], false⟩,
     ⟨(some 22), .mv (.s 5), (some (21, true)), [], false⟩,
     ⟨(some 23), .bin .gtr .num (.s 22) (.c (.int .i64 0)), (some (21, true)), [], false⟩,
     ⟨(some 24), .pick (.s 21) (.s 23) (.c (.bool false)), none, [], false⟩,
     ⟨(some 25), .mv (.s 1), none, [], false⟩,
     ⟨(some 26), .mv (.s 5), none, [], false⟩,
     ⟨(some 27), .mv (.s 5), none, [], false⟩,
     ⟨(some 28), .slice 1 (.s 25) none (some (.s 26)) (some (.s 27)), none, [], false⟩,
     ⟨(some 29), .build [(.bool false), (.sl .nil [])] [(0, 1, (.s 24)), (1, 1, (.s 28))], none, [], false⟩,
     ⟨none, .store 2 (.s 4) (.s 29), none, [], false⟩])
   .ret)))) }
theorem tr72 : trF Tryz.prog h72 Tryz.f72 = some i72 := by kernel_rfl

-- (*ashlar/ore.Rule).Q
def h73 : List (List Nat) := [[0], [0, 2], [2], [0, 2]]
def i73 : IFn := { nparams := 1, ntmps := 12, results := [.cell 2 true 2], body :=
  (.seq (.reg [0] [⟨(some 2), .alloc 2 (.agg [(.bool false), (.sl .nil [])]), none, [], false⟩])
   (.seq (.seq (.reg [0, 2] [⟨(some 3), .mv (.s 0), none, [], false⟩,
     ⟨(some 4), .bin .eql .ptr (.s 3) (.c .nilPtr), none, [], false⟩])
   (.cond (.s 4)
    (.seq (.reg [2] [⟨(some 5), .build [(.bool false), (.sl .nil [])] [], none, [], false⟩,
      ⟨none, .store 2 (.s 2) (.s 5), none, [], false⟩])
    .ret)
    .skip))
   (.seq (.reg [0, 2] [⟨(some 6), .mv (.s 0), none, [], false⟩,
     ⟨(some 7), .nilc (.s 6), none, [], false⟩,
     ⟨(some 8), .fldA 1 true 2 (.s 7), none, [], false⟩,
     ⟨(some 9), .load true 2 (.s 8), none, [], false⟩,
     ⟨(some 10), .build [(.bool false), (.sl .nil [])] [], none, [], false⟩,
     ⟨(some 11), .call (.c (.fn (.func 70) [] [])) [(.s 9), (.s 10)], none, [], false⟩,
     ⟨none, .store 2 (.s 2) (.s 11), none, [], false⟩])
   .ret))) }
theorem tr73 : trF Tryz.prog h73 Tryz.f73 = some i73 := by kernel_rfl

-- ashlar/ore.cut
def h74 : List (List Nat) := [[0], [0], [0, 3], [0, 3], [0, 3], [0, 3], [], [0, 3]]
def i74b0 : ICode :=
  (.seq (.seq (.reg [0, 3] [⟨(some 6), .mv (.s 3), none, [], false⟩,
    ⟨(some 7), .bin .gtr .num (.s 6) (.c (.int .i64 0)), none, [], false⟩,
    ⟨(some 8), .mv (.s 7), none, [], false⟩,
    ⟨(some 9), .mv (.s 0), (some (8, true)), [], false⟩,
    ⟨(some 10), .mv (.s 3), (some (8, true)), [], false⟩,
    ⟨(some 11), .bin .sub .num (.s 10) (.c (.int .i64 1)), (some (8, true)), [], false⟩,
    ⟨(some 12), .idxA 1 (.s 9) (.s 11), (some (8, true)), [], false⟩,
    ⟨(some 13), .load false 1 (.s 12), (some (8, true)), [], false⟩,
    ⟨(some 14), .call (.c (.fn (.func 117) [] [])) [(.s 13)], (some (8, true)), [], false⟩,
    ⟨(some 15), .bin .lss .num (.s 14) (.c (.int .i64 0)), (some (8, true)), [], false⟩,
    ⟨(some 16), .pick (.s 8) (.s 15) (.c (.bool false)), none, [], false⟩])
  (.cond (.s 16)
   .skip
   (.exit 0)))
  (.block 1
   (.reg [0, 3] [⟨(some 17), .mv (.s 3), none, [], false⟩,
     ⟨(some 18), .bin .sub .num (.s 17) (.c (.int .i64 1)), none, [], false⟩,
     ⟨(some 3), .mv (.s 18), none, [], true⟩])))
def i74 : IFn := { nparams := 1, ntmps := 24, results := [.tmp 2], body :=
  (.seq (.reg [0] [⟨(some 2), .mv (.c (.sl .nil [])), none, [], true⟩])
   (.seq (.reg [0] [⟨(some 4), .mv (.s 0), none, [], false⟩,
     ⟨(some 5), .len false (.s 4), none, [], false⟩,
     ⟨(some 3), .mv (.s 5), none, [], true⟩])
   (.seq (.block 0
    (.loop [0, 3] i74b0))
   (.seq (.seq (.reg [0, 3] [⟨(some 19), .mv (.s 3), none, [], false⟩,
     ⟨(some 20), .bin .eql .num (.s 19) (.c (.int .i64 0)), none, [], false⟩])
   (.cond (.s 20)
    (.seq (.reg [] [⟨(some 2), .mv (.c (.sl .nil [])), none, [], true⟩])
    .ret)
    .skip))
   (.seq (.reg [0, 3] [⟨(some 21), .mv (.s 0), none, [], false⟩,
     ⟨(some 22), .mv (.s 3), none, [], false⟩,
     ⟨(some 23), .slice 1 (.s 21) none (some (.s 22)) none, none, [], false⟩,
     ⟨(some 2), .mv (.s 23), none, [], true⟩])
   .ret))))) }
theorem tr74 : trF Tryz.prog h74 Tryz.f74 = some i74 := by kernel_rfl

-- ashlar/gauge.Of
def h75 : List (List Nat) := [[0], [0, 2]]
def i75 : IFn := { nparams := 1, ntmps := 5, results := [.cell 2 true 3], body :=
  (.seq (.reg [0] [⟨(some 2), .alloc 3 (.agg [(.int .i64 0), (.int .i64 0), (.int .i64 0)]), none, [], false⟩])
   (.seq (.reg [0, 2] [⟨(some 3), .mv (.s 0), none, [], false⟩,
     ⟨(some 4), .call (.c (.fn (.func 118) [] [])) [(.s 3)], none, [], false⟩,
     ⟨none, .store 3 (.s 2) (.s 4), none, [], false⟩])
   .ret)) }
theorem tr75 : trF Tryz.prog h75 Tryz.f75 = some i75 := by kernel_rfl

-- ashlar/limbs.Bits
def h76 : List (List Nat) := [[0], [1], [3], [], [3]]
def i76 : IFn := { nparams := 1, ntmps := 21, results := [.tmp 2], body :=
  (.seq (.reg [0] [⟨(some 1), .box 2 (.s 0), none, [], false⟩,
     ⟨(some 2), .mv (.c (.int .i64 0)), none, [], true⟩])
   (.seq (.reg [1] [⟨(some 4), .load true 2 (.s 1), none, [], false⟩,
     ⟨(some 5), .call (.c (.fn (.func 115) [] [])) [(.s 4)], none, [], false⟩,
     ⟨(some 3), .mv (.s 5), none, [], true⟩])
   (.seq (.seq (.reg [3] [⟨(some 6), .mv (.s 3), none, [], false⟩,
     ⟨(some 7), .len false (.s 6), none, [], false⟩,
     ⟨(some 8), .bin .eql .num (.s 7) (.c (.int .i64 0)), none, [], false⟩])
   (.cond (.s 8)
    (.seq (.reg [] [⟨(some 2), .mv (.c (.int .i64 0)), none, [], true⟩])
    .ret)
    .skip))
   (.seq (.reg [3] [⟨(some 9), .mv (.s 3), none, [], false⟩,
     ⟨(some 10), .len false (.s 9), none, [], false⟩,
     ⟨(some 11), .bin .sub .num (.s 10) (.c (.int .i64 1)), none, [], false⟩,
     ⟨(some 12), .bin .mul .num (.c (.int .i64 32)) (.s 11), none, [], false⟩,
     ⟨(some 13), .mv (.s 3), none, [], false⟩,
     ⟨(some 14), .mv (.s 3), none, [], false⟩,
     ⟨(some 15), .len false (.s 14), none, [], false⟩,
     ⟨(some 16), .bin .sub .num (.s 15) (.c (.int .i64 1)), none, [], false⟩,
     ⟨(some 17), .idxA 1 (.s 13) (.s 16), none, [], false⟩,
     ⟨(some 18), .load false 1 (.s 17), none, [], false⟩,
     ⟨(some 19), .call (.c (.fn (.func 119) [] [])) [(.s 18)], none, [], false⟩,
     ⟨(some 20), .bin .add .num (.s 12) (.s 19), none, [], false⟩,
     ⟨(some 2), .mv (.s 20), none, [], true⟩])
   .ret)))) }
theorem tr76 : trF Tryz.prog h76 Tryz.f76 = some i76 := by kernel_rfl

-- ashlar/zcost.Add
def h77 : List (List Nat) := [[0], [0], [0, 3], [3, 6, 7, 8], [3, 6, 7, 8], [3, 6, 7, 8], [3, 5, 6, 7, 8], [], [3, 5, 6, 7, 8], [3, 6, 7, 8], [3]]
def i77b0 : ICode :=
  (.seq (.reg [3, 6, 7, 8] [⟨(some 9), .bin .lss .num (.s 8) (.s 7), none, [], false⟩])
  (.seq (.cond (.s 9)
   .skip
   (.exit 0))
  (.seq (.block 1
   (.seq (.reg [3, 6, 7, 8] [⟨(some 10), .idxA 1 (.s 6) (.s 8), none, [], false⟩,
     ⟨(some 11), .load false 1 (.s 10), none, [], false⟩,
     ⟨(some 5), .mv (.s 11), none, [], true⟩])
   (.seq (.seq (.reg [3, 5, 6, 7, 8] [⟨(some 12), .mv (.s 5), none, [], false⟩,
     ⟨(some 13), .mv (.s 3), none, [], false⟩,
     ⟨(some 14), .bin .sub .num (.c (.int .i64 4611686018427387904)) (.s 13), none, [], false⟩,
     ⟨(some 15), .bin .gtr .num (.s 12) (.s 14), none, [], false⟩])
   (.cond (.s 15)
    (.seq (.reg [] [⟨(some 2), .mv (.c (.int .i64 4611686018427387904)), none, [], true⟩])
    .ret)
    .skip))
   (.reg [3, 5, 6, 7, 8] [⟨(some 16), .mv (.s 3), none, [], false⟩,
     ⟨(some 17), .mv (.s 5), none, [], false⟩,
     ⟨(some 18), .bin .add .num (.s 16) (.s 17), none, [], false⟩,
     ⟨(some 3), .mv (.s 18), none, [], true⟩]))))
  (.reg [3, 6, 7, 8] [⟨(some 19), .bin .add .num (.s 8) (.c (.int .i64 1)), none, [], false⟩,
    ⟨(some 8), .mv (.s 19), none, [], false⟩]))))
def i77 : IFn := { nparams := 1, ntmps := 21, results := [.tmp 2], body :=
  (.seq (.reg [0] [⟨(some 2), .mv (.c (.int .i64 0)), none, [], true⟩])
   (.seq (.reg [0] [⟨(some 3), .mv (.c (.int .i64 0)), none, [], true⟩])
   (.seq (.seq (.reg [0, 3] [⟨(some 6), .mv (.s 0), none, [], false⟩,
     ⟨(some 7), .len false (.s 6), none, [], false⟩,
     ⟨(some 8), .mv (.c (.int .i64 0)), none, [], false⟩])
   (.block 0
    (.loop [3, 6, 7, 8] i77b0)))
   (.seq (.reg [3] [⟨(some 20), .mv (.s 3), none, [], false⟩,
     ⟨(some 2), .mv (.s 20), none, [], true⟩])
   .ret)))) }
theorem tr77 : trF Tryz.prog h77 Tryz.f77 = some i77 := by kernel_rfl

-- ashlar/zcost.Mul
def h78 : List (List Nat) := [[0], [0], [0, 3], [0, 3, 8, 9, 10], [0, 3, 8, 9, 10], [0, 3, 8, 9, 10], [0, 3, 5, 8, 9, 10], [], [0, 3, 8, 9, 10], [0, 3], [3, 17, 18, 19], [3, 17, 18, 19], [3, 17, 18, 19], [3, 7, 17, 18, 19], [], [3, 7, 17, 18, 19], [3, 17, 18, 19], [3]]
def i78b0 : ICode :=
  (.seq (.reg [0, 3, 8, 9, 10] [⟨(some 11), .bin .lss .num (.s 10) (.s 9), none, [], false⟩])
  (.seq (.cond (.s 11)
   .skip
   (.exit 0))
  (.seq (.block 1
   (.seq (.reg [0, 3, 8, 9, 10] [⟨(some 12), .idxA 1 (.s 8) (.s 10), none, [], false⟩,
     ⟨(some 13), .load false 1 (.s 12), none, [], false⟩,
     ⟨(some 5), .mv (.s 13), none, [], true⟩])
   (.seq (.reg [0, 3, 5, 8, 9, 10] [⟨(some 14), .mv (.s 5), none, [], false⟩,
     ⟨(some 15), .bin .eql .num (.s 14) (.c (.int .i64 0)), none, [], false⟩])
   (.cond (.s 15)
    (.seq (.reg [] [⟨(some 2), .mv (.c (.int .i64 0)), none, [], true⟩])
    .ret)
    .skip))))
  (.reg [0, 3, 8, 9, 10] [⟨(some 16), .bin .add .num (.s 10) (.c (.int .i64 1)), none, [], false⟩,
    ⟨(some 10), .mv (.s 16), none, [], false⟩]))))
def i78b1 : ICode :=
  (.seq (.reg [3, 17, 18, 19] [⟨(some 20), .bin .lss .num (.s 19) (.s 18), none, [], false⟩])
  (.seq (.cond (.s 20)
   .skip
   (.exit 2))
  (.seq (.block 3
   (.seq (.reg [3, 17, 18, 19] [⟨(some 21), .idxA 1 (.s 17) (.s 19), none, [], false⟩,
     ⟨(some 22), .load false 1 (.s 21), none, [], false⟩,
     ⟨(some 7), .mv (.s 22), none, [], true⟩])
   (.seq (.seq (.reg [3, 7, 17, 18, 19] [⟨(some 23), .mv (.s 3), none, [], false⟩,
     ⟨(some 24), .mv (.s 7), none, [], false⟩,
     ⟨(some 25), .bin .quo .num (.c (.int .i64 4611686018427387904)) (.s 24), none, [], false⟩,
     ⟨(some 26), .bin .gtr .num (.s 23) (.s 25), none, [], false⟩])
   (.cond (.s 26)
    (.seq (.reg [] [⟨(some 2), .mv (.c (.int .i64 4611686018427387904)), none, [], true⟩])
    .ret)
    .skip))
   (.reg [3, 7, 17, 18, 19] [⟨(some 27), .mv (.s 3), none, [], false⟩,
     ⟨(some 28), .mv (.s 7), none, [], false⟩,
     ⟨(some 29), .bin .mul .num (.s 27) (.s 28), none, [], false⟩,
     ⟨(some 3), .mv (.s 29), none, [], true⟩]))))
  (.reg [3, 17, 18, 19] [⟨(some 30), .bin .add .num (.s 19) (.c (.int .i64 1)), none, [], false⟩,
    ⟨(some 19), .mv (.s 30), none, [], false⟩]))))
def i78 : IFn := { nparams := 1, ntmps := 32, results := [.tmp 2], body :=
  (.seq (.reg [0] [⟨(some 2), .mv (.c (.int .i64 0)), none, [], true⟩])
   (.seq (.reg [0] [⟨(some 3), .mv (.c (.int .i64 1)), none, [], true⟩])
   (.seq (.seq (.reg [0, 3] [⟨(some 8), .mv (.s 0), none, [], false⟩,
     ⟨(some 9), .len false (.s 8), none, [], false⟩,
     ⟨(some 10), .mv (.c (.int .i64 0)), none, [], false⟩])
   (.block 0
    (.loop [0, 3, 8, 9, 10] i78b0)))
   (.seq (.seq (.reg [0, 3] [⟨(some 17), .mv (.s 0), none, [], false⟩,
     ⟨(some 18), .len false (.s 17), none, [], false⟩,
     ⟨(some 19), .mv (.c (.int .i64 0)), none, [], false⟩])
   (.block 2
    (.loop [3, 17, 18, 19] i78b1)))
   (.seq (.reg [3] [⟨(some 31), .mv (.s 3), none, [], false⟩,
     ⟨(some 2), .mv (.s 31), none, [], true⟩])
   .ret))))) }
theorem tr78 : trF Tryz.prog h78 Tryz.f78 = some i78 := by kernel_rfl

-- ashlar/gauge.Times
def h79 : List (List Nat) := [[0], [0], [0, 3], [3]]
def i79 : IFn := { nparams := 1, ntmps := 14, results := [.tmp 2], body :=
  (.seq (.reg [0] [⟨(some 2), .mv (.c (.int .i64 0)), none, [], true⟩])
   (.seq (.reg [0] [⟨(some 4), .build [(.int .i64 0)] [(0, 1, (.c (.int .i64 1)))], none, [], false⟩,
     ⟨(some 5), .box 1 (.s 4), none, [], false⟩,
     ⟨(some 3), .mv (.s 5), none, [], true⟩])
   (.seq (.reg [0, 3] [⟨(some 6), .mv (.s 3), none, [], false⟩,
     ⟨(some 7), .mkfn (.func 121) [(.s 6)] [], none, [], false⟩,
     ⟨(some 8), .mv (.s 0), none, [], false⟩,
     ⟨(some 9), .call (.c (.fn (.func 120) [] [])) [(.s 7), (.s 8)], none, [], false⟩])
   (.seq (.reg [3] [⟨(some 10), .mv (.s 3), none, [], false⟩,
     ⟨(some 11), .nilc (.s 10), none, [], false⟩,
     ⟨(some 12), .fldA 0 false 1 (.s 11), none, [], false⟩,
     ⟨(some 13), .load false 1 (.s 12), none, [], false⟩,
     ⟨(some 2), .mv (.s 13), none, [], true⟩])
   .ret)))) }
theorem tr79 : trF Tryz.prog h79 Tryz.f79 = some i79 := by kernel_rfl

-- ashlar/upoly.Of
def h80 : List (List Nat) := [[0], [0], [0, 3], [3, 9, 10, 11], [3, 9, 10, 11], [3, 9, 10, 11], [3, 4, 5, 9, 10, 11], [3, 9, 10, 11], [3]]
def i80b0 : ICode :=
  (.seq (.reg [3, 9, 10, 11] [⟨(some 12), .bin .lss .num (.s 11) (.s 10), none, [], false⟩])
  (.seq (.cond (.s 12)
   .skip
   (.exit 0))
  (.seq (.block 1
   (.seq (.reg [3, 9, 10, 11] [⟨(some 13), .mv (.s 11), none, [], false⟩,
     ⟨(some 14), .idxA 1 (.s 9) (.s 11), none, [], false⟩,
     ⟨(some 15), .load false 1 (.s 14), none, [], false⟩,
     ⟨(some 4), .mv (.s 13), none, [], true⟩,
     ⟨(some 5), .mv (.s 15), none, [], true⟩])
   (.reg [3, 4, 5, 9, 10, 11] [⟨(some 16), .mv (.s 3), none, [], false⟩,
     ⟨(some 17), .mv (.s 4), none, [], false⟩,
     ⟨(some 18), .mv (.s 5), none, [], false⟩,
     ⟨(some 19), .call (.c (.fn (.func 107) [] [])) [(.s 18)], none, [], false⟩,
     ⟨(some 20), .idxA 2 (.s 16) (.s 17), none, [], false⟩,
     ⟨none, .store 2 (.s 20) (.s 19), none, [], false⟩])))
  (.reg [3, 9, 10, 11] [⟨(some 21), .bin .add .num (.s 11) (.c (.int .i64 1)), none, [], false⟩,
    ⟨(some 11), .mv (.s 21), none, [], false⟩]))))
def i80 : IFn := { nparams := 1, ntmps := 24, results := [.tmp 2], body :=
  (.seq (.reg [0] [⟨(some 2), .mv (.c (.sl .nil [])), none, [], true⟩])
   (.seq (.reg [0] [⟨(some 6), .mv (.s 0), none, [], false⟩,
     ⟨(some 7), .len false (.s 6), none, [], false⟩,
     ⟨(some 8), .mksl 2 32 (.agg [(.bool false), (.sl .nil [])]) (.s 7) (.s 7), none, [], false⟩,
     ⟨(some 3), .mv (.s 8), none, [], true⟩])
   (.seq (.seq (.reg [0, 3] [⟨(some 9), .mv (.s 0), none, [], false⟩,
     ⟨(some 10), .len false (.s 9), none, [], false⟩,
     ⟨(some 11), .mv (.c (.int .i64 0)), none, [], false⟩])
   (.block 0
    (.loop [3, 9, 10, 11] i80b0)))
   (.seq (.reg [3] [⟨(some 22), .mv (.s 3), none, [], false⟩,
     ⟨(some 23), .call (.c (.fn (.func 122) [] [])) [(.s 22)], none, [], false⟩,
     ⟨(some 2), .mv (.s 23), none, [], true⟩])
   .ret)))) }
theorem tr80 : trF Tryz.prog h80 Tryz.f80 = some i80 := by kernel_rfl

-- ashlar/ore.Norm
def h81 : List (List Nat) := [[0], [0]]
def i81 : IFn := { nparams := 1, ntmps := 5, results := [.tmp 2], body :=
  (.seq (.reg [0] [⟨(some 2), .mv (.c (.sl .nil [])), none, [], true⟩])
   (.seq (.reg [0] [⟨(some 3), .mv (.s 0), none, [], false⟩,
     ⟨(some 4), .call (.c (.fn (.func 108) [] [])) [(.s 3), (.c .nilFn)], none, [], false⟩,
     ⟨(some 2), .mv (.s 4), none, [], true⟩])
   .ret)) }
theorem tr81 : trF Tryz.prog h81 Tryz.f81 = some i81 := by kernel_rfl

-- ashlar/zore.past
def h82 : List (List Nat) := [[0, 1, 2], [1, 2, 3], [1, 3, 7, 8], [1, 3, 7, 8], [1, 3, 7, 8], [1, 3, 7, 8], [1]]
def i82b0 : ICode :=
  (.seq (.reg [1, 3, 7, 8] [⟨(some 9), .bin .lss .num (.s 8) (.s 7), none, [], false⟩])
  (.seq (.cond (.s 9)
   .skip
   (.exit 0))
  (.seq (.block 1
   (.draw [1, 3, 7, 8] [⟨(some 10), .bsl 1 (.sl .nil []) 1 [(0, (.c (.sl .nil [])))], none, [], false⟩,
     ⟨(some 11), .mv (.s 1), none, [], false⟩,
     ⟨(some 12), .fldA 0 false 1 (.s 3), none, [], false⟩,
     ⟨(some 13), .load false 1 (.s 12), none, [2], false⟩,
     ⟨(some 14), .call (.c (.fn (.func 108) [] [])) [(.s 11), (.s 13)], none, [1, 3], false⟩,
     ⟨(some 15), .app 1 24 (.s 10) (.s 14), none, [0, 4], false⟩,
     ⟨(some 16), .mv (.s 1), none, [], false⟩,
     ⟨(some 17), .fldA 1 false 1 (.s 3), none, [], false⟩,
     ⟨(some 18), .load false 1 (.s 17), none, [7], false⟩,
     ⟨(some 19), .call (.c (.fn (.func 108) [] [])) [(.s 16), (.s 18)], none, [6, 8, 5], false⟩,
     ⟨(some 20), .call (.c (.fn (.func 86) [] [])) [(.s 15), (.s 19)], none, [5, 9], false⟩,
     ⟨(some 1), .mv (.s 20), none, [10, 0, 1, 2, 3, 4, 5, 6, 7, 8, 9], true⟩]))
  (.reg [1, 3, 7, 8] [⟨(some 21), .bin .add .num (.s 8) (.c (.int .i64 1)), none, [], false⟩,
    ⟨(some 8), .mv (.s 21), none, [], false⟩]))))
def i82 : IFn := { nparams := 3, ntmps := 23, results := [.tmp 6], body :=
  (.seq (.reg [0, 1, 2] [⟨(some 3), .box 2 (.s 0), none, [], false⟩,
     ⟨(some 6), .mv (.c (.sl .nil [])), none, [], true⟩])
   (.seq (.seq (.reg [1, 2, 3] [⟨(some 7), .mv (.s 2), none, [], false⟩,
     ⟨(some 8), .mv (.c (.int .i64 0)), none, [], false⟩])
   (.block 0
    (.loop [1, 3, 7, 8] i82b0)))
   (.seq (.reg [1] [⟨(some 22), .mv (.s 1), none, [], false⟩,
     ⟨(some 6), .mv (.s 22), none, [], true⟩])
   .ret))) }
theorem tr82 : trF Tryz.prog h82 Tryz.f82 = some i82 := by kernel_rfl

-- ashlar/upoly.Gcd
def h83 : List (List Nat) := [[0, 1], [0, 1], [0, 1, 5], [0, 1, 5], [1, 5], [0, 1, 5], [0, 5], [0, 1, 5], [5], [0, 1, 5]]
def i83 : IFn := { nparams := 2, ntmps := 46, results := [.tmp 4], body :=
  (.seq (.reg [0, 1] [⟨(some 4), .mv (.c (.sl .nil [])), none, [], true⟩])
   (.seq (.reg [0, 1] [⟨(some 6), .mv (.s 0), none, [], false⟩,
     ⟨(some 7), .call (.c (.fn (.func 124) [] [])) [(.s 6)], none, [], false⟩,
     ⟨(some 8), .mv (.s 1), none, [], false⟩,
     ⟨(some 9), .call (.c (.fn (.func 124) [] [])) [(.s 8)], none, [], false⟩,
     ⟨(some 10), .call (.c (.fn (.func 123) [] [])) [(.s 7), (.s 9)], none, [], false⟩,
     ⟨(some 5), .alloc 2 (.agg [(.bool false), (.sl .nil [])]), none, [], false⟩,
     ⟨none, .store 2 (.s 5) (.s 10), none, [], false⟩])
   (.seq (.reg [0, 1, 5] [⟨(some 11), .mv (.s 0), none, [], false⟩,
     ⟨(some 12), .call (.c (.fn (.func 125) [] [])) [(.s 11)], none, [], false⟩,
     ⟨(some 13), .mv (.s 1), none, [], false⟩,
     ⟨(some 14), .call (.c (.fn (.func 125) [] [])) [(.s 13)], none, [], false⟩,
     ⟨(some 0), .mv (.s 12), none, [], true⟩,
     ⟨(some 1), .mv (.s 14), none, [], true⟩])
   (.seq (.block 0
    (.seq (.reg [0, 1, 5] [⟨(some 16), .mv (.s 0), none, [], false⟩,
      ⟨(some 17), .len false (.s 16), none, [], false⟩,
      ⟨(some 18), .bin .eql .num (.s 17) (.c (.int .i64 0)), none, [], false⟩,
      ⟨(some 15), .mv (.s 18), none, [], true⟩])
    (.cond (.s 15)
     (.seq (.reg [1, 5] [⟨(some 19), .mv (.s 1), none, [], false⟩,
       ⟨(some 20), .load true 2 (.s 5), none, [], false⟩,
       ⟨(some 21), .call (.c (.fn (.func 106) [] [])) [(.s 19), (.s 20)], none, [], false⟩,
       ⟨(some 4), .mv (.s 21), none, [], true⟩])
     .ret)
     (.seq (.reg [0, 1, 5] [⟨(some 23), .mv (.s 1), none, [], false⟩,
       ⟨(some 24), .len false (.s 23), none, [], false⟩,
       ⟨(some 25), .bin .eql .num (.s 24) (.c (.int .i64 0)), none, [], false⟩,
       ⟨(some 22), .mv (.s 25), none, [], true⟩])
     (.cond (.s 22)
      (.seq (.reg [0, 5] [⟨(some 26), .mv (.s 0), none, [], false⟩,
        ⟨(some 27), .load true 2 (.s 5), none, [], false⟩,
        ⟨(some 28), .call (.c (.fn (.func 106) [] [])) [(.s 26), (.s 27)], none, [], false⟩,
        ⟨(some 4), .mv (.s 28), none, [], true⟩])
      .ret)
      (.seq (.reg [0, 1, 5] [⟨(some 30), .mv (.s 0), none, [], false⟩,
        ⟨(some 31), .len false (.s 30), none, [], false⟩,
        ⟨(some 32), .bin .eql .num (.s 31) (.c (.int .i64 1)), none, [], false⟩,
        ⟨(some 33), .mv (.s 32), none, [], false⟩,
        ⟨(some 34), .mv (.s 1), (some (33, false)), [], false⟩,
        ⟨(some 35), .len false (.s 34), (some (33, false)), [], false⟩,
        ⟨(some 36), .bin .eql .num (.s 35) (.c (.int .i64 1)), (some (33, false)), [], false⟩,
        ⟨(some 37), .pick (.s 33) (.c (.bool true)) (.s 36), none, [], false⟩,
        ⟨(some 29), .mv (.s 37), none, [], true⟩])
      (.cond (.s 29)
       (.seq (.reg [5] [⟨(some 38), .load true 2 (.s 5), none, [], false⟩,
         ⟨(some 39), .bsl 2 (.agg [(.bool false), (.sl .nil [])]) 1 [(0, (.s 38))], none, [], false⟩,
         ⟨(some 40), .call (.c (.fn (.func 110) [] [])) [(.s 39)], none, [], false⟩,
         ⟨(some 4), .mv (.s 40), none, [], true⟩])
       .ret)
       .skip)))))))
   (.seq (.draw [0, 1, 5] [⟨(some 41), .mv (.s 0), none, [], false⟩,
     ⟨(some 42), .mv (.s 1), none, [], false⟩,
     ⟨(some 43), .call (.c (.fn (.func 126) [] [])) [(.s 41), (.s 42)], none, [0, 1], false⟩,
     ⟨(some 44), .load true 2 (.s 5), none, [], false⟩,
     ⟨(some 45), .call (.c (.fn (.func 106) [] [])) [(.s 43), (.s 44)], none, [2, 3], false⟩,
     ⟨(some 4), .mv (.s 45), none, [4, 0, 1, 2, 3], true⟩])
   .ret))))) }
theorem tr83 : trF Tryz.prog h83 Tryz.f83 = some i83 := by kernel_rfl

-- ashlar/zore.over
def h84 : List (List Nat) := [[0, 1], [0, 1], [5]]
def i84 : IFn := { nparams := 2, ntmps := 14, results := [.tmp 4], body :=
  (.seq (.reg [0, 1] [⟨(some 4), .mv (.c (.sl .nil [])), none, [], true⟩])
   (.seq (.reg [0, 1] [⟨(some 8), .mv (.s 0), none, [], false⟩,
     ⟨(some 9), .mv (.s 1), none, [], false⟩,
     ⟨(some 10), .call (.c (.fn (.func 127) [] [])) [(.s 8), (.s 9)], none, [], false⟩,
     ⟨(some 7), .mv (.s 10), none, [], false⟩,
     ⟨(some 11), .extr (.s 7) 0, none, [], false⟩,
     ⟨(some 12), .extr (.s 7) 1, none, [], false⟩,
     ⟨(some 5), .mv (.s 11), none, [], true⟩,
     ⟨(some 6), .mv (.s 12), none, [], true⟩])
   (.seq (.reg [5] [⟨(some 13), .mv (.s 5), none, [], false⟩,
     ⟨(some 4), .mv (.s 13), none, [], true⟩])
   .ret))) }
theorem tr84 : trF Tryz.prog h84 Tryz.f84 = some i84 := by kernel_rfl

-- ashlar/upoly.Mul
def h85 : List (List Nat) := [[0, 1], [0, 1], [0, 1], [], [0, 1], [0, 1, 5], [1, 5, 29, 30, 31], [1, 5, 29, 30, 31], [1, 5, 29, 30, 31], [1, 5, 6, 7, 29, 30, 31], [1, 5, 6, 7, 29, 30, 31], [1, 5, 6, 7, 29, 30, 31, 39, 40, 41], [1, 5, 6, 7, 29, 30, 31, 39, 40, 41], [1, 5, 6, 7, 29, 30, 31, 39, 40, 41], [1, 5, 6, 7, 8, 9, 29, 30, 31, 39, 40, 41], [1, 5, 6, 7, 29, 30, 31, 39, 40, 41], [1, 5, 29, 30, 31], [5]]
def i85b0 : ICode :=
  (.seq (.reg [1, 5, 6, 7, 29, 30, 31, 39, 40, 41] [⟨(some 42), .bin .lss .num (.s 41) (.s 40), none, [], false⟩])
  (.seq (.cond (.s 42)
   .skip
   (.exit 2))
  (.seq (.block 3
   (.seq (.reg [1, 5, 6, 7, 29, 30, 31, 39, 40, 41] [⟨(some 43), .mv (.s 41), none, [], false⟩,
     ⟨(some 44), .idxA 2 (.s 39) (.s 41), none, [], false⟩,
     ⟨(some 45), .load true 2 (.s 44), none, [], false⟩,
     ⟨(some 9), .alloc 2 (.agg [(.bool false), (.sl .nil [])]), none, [], false⟩,
     ⟨(some 8), .mv (.s 43), none, [], true⟩,
     ⟨none, .store 2 (.s 9) (.s 45), none, [], false⟩])
   (.draw [1, 5, 6, 7, 8, 9, 29, 30, 31, 39, 40, 41] [⟨(some 46), .mv (.s 5), none, [], false⟩,
     ⟨(some 47), .mv (.s 6), none, [], false⟩,
     ⟨(some 48), .mv (.s 8), none, [], false⟩,
     ⟨(some 49), .bin .add .num (.s 47) (.s 48), none, [1, 2], false⟩,
     ⟨(some 50), .mv (.s 5), none, [], false⟩,
     ⟨(some 51), .mv (.s 6), none, [], false⟩,
     ⟨(some 52), .mv (.s 8), none, [], false⟩,
     ⟨(some 53), .bin .add .num (.s 51) (.s 52), none, [5, 6], false⟩,
     ⟨(some 54), .idxA 2 (.s 50) (.s 53), none, [4, 7], false⟩,
     ⟨(some 55), .load true 2 (.s 54), none, [8], false⟩,
     ⟨(some 56), .load true 2 (.s 7), none, [], false⟩,
     ⟨(some 57), .load true 2 (.s 9), none, [], false⟩,
     ⟨(some 58), .call (.c (.fn (.func 128) [] [])) [(.s 56), (.s 57)], none, [10, 11], false⟩,
     ⟨(some 59), .call (.c (.fn (.func 70) [] [])) [(.s 55), (.s 58)], none, [9, 12], false⟩,
     ⟨(some 60), .idxA 2 (.s 46) (.s 49), none, [0, 3, 1, 2, 4, 5, 6, 7, 8, 9, 10, 11, 12, 13], false⟩,
     ⟨none, .store 2 (.s 60) (.s 59), none, [14, 13, 0, 1, 2, 3, 4, 5, 6, 7, 8, 9, 10, 11, 12], false⟩])))
  (.reg [1, 5, 6, 7, 29, 30, 31, 39, 40, 41] [⟨(some 61), .bin .add .num (.s 41) (.c (.int .i64 1)), none, [], false⟩,
    ⟨(some 41), .mv (.s 61), none, [], false⟩]))))
def i85b1 : ICode :=
  (.seq (.reg [1, 5, 29, 30, 31] [⟨(some 32), .bin .lss .num (.s 31) (.s 30), none, [], false⟩])
  (.seq (.cond (.s 32)
   .skip
   (.exit 0))
  (.seq (.block 1
   (.seq (.reg [1, 5, 29, 30, 31] [⟨(some 33), .mv (.s 31), none, [], false⟩,
     ⟨(some 34), .idxA 2 (.s 29) (.s 31), none, [], false⟩,
     ⟨(some 35), .load true 2 (.s 34), none, [], false⟩,
     ⟨(some 7), .alloc 2 (.agg [(.bool false), (.sl .nil [])]), none, [], false⟩,
     ⟨(some 6), .mv (.s 33), none, [], true⟩,
     ⟨none, .store 2 (.s 7) (.s 35), none, [], false⟩])
   (.seq (.seq (.reg [1, 5, 6, 7, 29, 30, 31] [⟨(some 36), .load true 2 (.s 7), none, [], false⟩,
     ⟨(some 37), .call (.c (.fn (.func 69) [] [])) [(.s 36)], none, [], false⟩,
     ⟨(some 38), .bin .eql .num (.s 37) (.c (.int .i64 0)), none, [], false⟩])
   (.cond (.s 38)
    (.exit 1)
    .skip))
   (.seq (.reg [1, 5, 6, 7, 29, 30, 31] [⟨(some 39), .mv (.s 1), none, [], false⟩,
     ⟨(some 40), .len false (.s 39), none, [], false⟩,
     ⟨(some 41), .mv (.c (.int .i64 0)), none, [], false⟩])
   (.block 2
    (.loop [1, 5, 6, 7, 29, 30, 31, 39, 40, 41] i85b0))))))
  (.reg [1, 5, 29, 30, 31] [⟨(some 62), .bin .add .num (.s 31) (.c (.int .i64 1)), none, [], false⟩,
    ⟨(some 31), .mv (.s 62), none, [], false⟩]))))
def i85 : IFn := { nparams := 2, ntmps := 65, results := [.tmp 4], body :=
  (.seq (.reg [0, 1] [⟨(some 4), .mv (.c (.sl .nil [])), none, [], true⟩])
   (.seq (.reg [0, 1] [⟨(some 10), .mv (.s 0), none, [], false⟩,
     ⟨(some 11), .call (.c (.fn (.func 122) [] [])) [(.s 10)], none, [], false⟩,
     ⟨(some 12), .mv (.s 1), none, [], false⟩,
     ⟨(some 13), .call (.c (.fn (.func 122) [] [])) [(.s 12)], none, [], false⟩,
     ⟨(some 0), .mv (.s 11), none, [], true⟩,
     ⟨(some 1), .mv (.s 13), none, [], true⟩])
   (.seq (.seq (.reg [0, 1] [⟨(some 14), .mv (.s 0), none, [], false⟩,
     ⟨(some 15), .len false (.s 14), none, [], false⟩,
     ⟨(some 16), .bin .eql .num (.s 15) (.c (.int .i64 0)), none, [], false⟩,
     ⟨(some 17), .mv (.s 16), none, [], false⟩,
     ⟨(some 18), .mv (.s 1), (some (17, false)), [], false⟩,
     ⟨(some 19), .len false (.s 18), (some (17, false)), [], false⟩,
     ⟨(some 20), .bin .eql .num (.s 19) (.c (.int .i64 0)), (some (17, false)), [], false⟩,
     ⟨(some 21), .pick (.s 17) (.c (.bool true)) (.s 20), none, [], false⟩])
   (.cond (.s 21)
    (.seq (.reg [] [⟨(some 4), .mv (.c (.sl .nil [])), none, [], true⟩])
    .ret)
    .skip))
   (.seq (.reg [0, 1] [⟨(some 22), .mv (.s 0), none, [], false⟩,
     ⟨(some 23), .len false (.s 22), none, [], false⟩,
     ⟨(some 24), .mv (.s 1), none, [], false⟩,
     ⟨(some 25), .len false (.s 24), none, [], false⟩,
     ⟨(some 26), .bin .add .num (.s 23) (.s 25), none, [], false⟩,
     ⟨(some 27), .bin .sub .num (.s 26) (.c (.int .i64 1)), none, [], false⟩,
     ⟨(some 28), .mksl 2 32 (.agg [(.bool false), (.sl .nil [])]) (.s 27) (.s 27), none, [], false⟩,
     ⟨(some 5), .mv (.s 28), none, [], true⟩])
   (.seq (.seq (.reg [0, 1, 5] [⟨(some 29), .mv (.s 0), none, [], false⟩,
     ⟨(some 30), .len false (.s 29), none, [], false⟩,
     ⟨(some 31), .mv (.c (.int .i64 0)), none, [], false⟩])
   (.block 0
    (.loop [1, 5, 29, 30, 31] i85b1)))
   (.seq (.reg [5] [⟨(some 63), .mv (.s 5), none, [], false⟩,
     ⟨(some 64), .call (.c (.fn (.func 122) [] [])) [(.s 63)], none, [], false⟩,
     ⟨(some 4), .mv (.s 64), none, [], true⟩])
   .ret)))))) }
theorem tr85 : trF Tryz.prog h85 Tryz.f85 = some i85 := by kernel_rfl

-- ashlar/ore.Add
def h86 : List (List Nat) := [[0, 1], [0, 1]]
def i86 : IFn := { nparams := 2, ntmps := 8, results := [.tmp 4], body :=
  (.seq (.reg [0, 1] [⟨(some 4), .mv (.c (.sl .nil [])), none, [], true⟩])
   (.seq (.reg [0, 1] [⟨(some 5), .mv (.s 0), none, [], false⟩,
     ⟨(some 6), .mv (.s 1), none, [], false⟩,
     ⟨(some 7), .call (.c (.fn (.func 129) [] [])) [(.s 5), (.s 6), (.c (.fn (.func 130) [] []))], none, [], false⟩,
     ⟨(some 4), .mv (.s 7), none, [], true⟩])
   .ret)) }
theorem tr86 : trF Tryz.prog h86 Tryz.f86 = some i86 := by kernel_rfl

-- ashlar/ore.Scale
def h87 : List (List Nat) := [[0, 1], [0, 1]]
def i87 : IFn := { nparams := 2, ntmps := 10, results := [.tmp 4], body :=
  (.seq (.reg [0, 1] [⟨(some 4), .mv (.c (.sl .nil [])), none, [], true⟩])
   (.seq (.reg [0, 1] [⟨(some 5), .mv (.s 1), none, [], false⟩,
     ⟨(some 6), .mv (.s 0), none, [], false⟩,
     ⟨(some 7), .build [(.sl .nil [])] [(0, 1, (.s 6))], none, [], false⟩,
     ⟨(some 8), .mkfn (.func 131) [(.s 7)] [], none, [], false⟩,
     ⟨(some 9), .call (.c (.fn (.func 108) [] [])) [(.s 5), (.s 8)], none, [], false⟩,
     ⟨(some 4), .mv (.s 9), none, [], true⟩])
   .ret)) }
theorem tr87 : trF Tryz.prog h87 Tryz.f87 = some i87 := by kernel_rfl

-- ashlar/zore.Letter
def h88 : List (List Nat) := [[0, 1], [0, 1]]
def i88 : IFn := { nparams := 2, ntmps := 10, results := [.tmp 4], body :=
  (.seq (.reg [0, 1] [⟨(some 4), .mv (.c (.sl .nil [])), none, [], true⟩])
   (.seq (.reg [0, 1] [⟨(some 5), .mv (.s 1), none, [], false⟩,
     ⟨(some 6), .mksl 1 24 (.sl .nil []) (.s 5) (.s 5), none, [], false⟩,
     ⟨(some 7), .mv (.s 0), none, [], false⟩,
     ⟨(some 8), .bsl 1 (.sl .nil []) 1 [(0, (.s 7))], none, [], false⟩,
     ⟨(some 9), .app 1 24 (.s 6) (.s 8), none, [], false⟩,
     ⟨(some 4), .mv (.s 9), none, [], true⟩])
   .ret)) }
theorem tr88 : trF Tryz.prog h88 Tryz.f88 = some i88 := by kernel_rfl

-- ashlar/ore.Sub
def h89 : List (List Nat) := [[0, 1], [0, 1]]
def i89 : IFn := { nparams := 2, ntmps := 8, results := [.tmp 4], body :=
  (.seq (.reg [0, 1] [⟨(some 4), .mv (.c (.sl .nil [])), none, [], true⟩])
   (.seq (.reg [0, 1] [⟨(some 5), .mv (.s 0), none, [], false⟩,
     ⟨(some 6), .mv (.s 1), none, [], false⟩,
     ⟨(some 7), .call (.c (.fn (.func 129) [] [])) [(.s 5), (.s 6), (.c (.fn (.func 132) [] []))], none, [], false⟩,
     ⟨(some 4), .mv (.s 7), none, [], true⟩])
   .ret)) }
theorem tr89 : trF Tryz.prog h89 Tryz.f89 = some i89 := by kernel_rfl

-- (*ashlar/ore.Rule).Sigma
def h90 : List (List Nat) := [[0, 1], [0, 1], [0, 1, 6], [1], [0, 1, 6], [1], [0, 1, 6], [0, 1], []]
def i90 : IFn := { nparams := 2, ntmps := 21, results := [.tmp 4], body :=
  (.seq (.reg [0, 1] [⟨(some 4), .mv (.c (.sl .nil [])), none, [], true⟩])
   (.seq (.seq (.reg [0, 1] [⟨(some 5), .mv (.s 0), none, [], false⟩,
     ⟨(some 6), .call (.c (.fn (.func 133) [] [])) [(.s 5)], none, [], false⟩])
   (.block 0
    (.seq (.reg [0, 1, 6] [⟨(some 8), .bin .eql .num (.s 6) (.c (.int .i64 1)), none, [], false⟩,
      ⟨(some 7), .mv (.s 8), none, [], true⟩])
    (.cond (.s 7)
     (.seq (.reg [1] [⟨(some 9), .mv (.s 1), none, [], false⟩,
       ⟨(some 10), .call (.c (.fn (.func 107) [] [])) [(.c (.int .i64 1))], none, [], false⟩,
       ⟨(some 11), .call (.c (.fn (.func 134) [] [])) [(.s 9), (.s 10)], none, [], false⟩,
       ⟨(some 4), .mv (.s 11), none, [], true⟩])
     .ret)
     (.seq (.reg [0, 1, 6] [⟨(some 13), .bin .eql .num (.s 6) (.c (.int .i64 2)), none, [], false⟩,
       ⟨(some 12), .mv (.s 13), none, [], true⟩])
     (.cond (.s 12)
      (.seq (.reg [1] [⟨(some 14), .mv (.s 1), none, [], false⟩,
        ⟨(some 15), .call (.c (.fn (.func 110) [] [])) [(.s 14)], none, [], false⟩,
        ⟨(some 4), .mv (.s 15), none, [], true⟩])
      .ret)
      (.seq (.reg [0, 1, 6] [⟨(some 17), .bin .eql .num (.s 6) (.c (.int .i64 3)), none, [], false⟩,
        ⟨(some 16), .mv (.s 17), none, [], true⟩])
      (.cond (.s 16)
       (.seq (.reg [0, 1] [⟨(some 18), .mv (.s 0), none, [], false⟩,
         ⟨(some 19), .mv (.s 1), none, [], false⟩,
         ⟨(some 20), .call (.c (.fn (.func 135) [] [])) [(.s 18), (.s 19)], none, [], false⟩,
         ⟨(some 4), .mv (.s 20), none, [], true⟩])
       .ret)
       .skip))))))))
   (.seq (.reg [] [⟨(some 4), .mv (.c (.sl .nil [])), none, [], true⟩])
   .ret))) }
theorem tr90 : trF Tryz.prog h90 Tryz.f90 = some i90 := by kernel_rfl

-- (*ashlar/ore.Rule).Delta
def h91 : List (List Nat) := [[0, 1], [0, 1], [1], []]
def i91 : IFn := { nparams := 2, ntmps := 10, results := [.tmp 4], body :=
  (.seq (.reg [0, 1] [⟨(some 4), .mv (.c (.sl .nil [])), none, [], true⟩])
   (.seq (.seq (.reg [0, 1] [⟨(some 5), .mv (.s 0), none, [], false⟩,
     ⟨(some 6), .call (.c (.fn (.func 133) [] [])) [(.s 5)], none, [], false⟩,
     ⟨(some 7), .bin .eql .num (.s 6) (.c (.int .i64 2)), none, [], false⟩])
   (.cond (.s 7)
    (.seq (.reg [1] [⟨(some 8), .mv (.s 1), none, [], false⟩,
      ⟨(some 9), .call (.c (.fn (.func 136) [] [])) [(.s 8)], none, [], false⟩,
      ⟨(some 4), .mv (.s 9), none, [], true⟩])
    .ret)
    .skip))
   (.seq (.reg [] [⟨(some 4), .mv (.c (.sl .nil [])), none, [], true⟩])
   .ret))) }
theorem tr91 : trF Tryz.prog h91 Tryz.f91 = some i91 := by kernel_rfl

-- ashlar/ashlarref8.Degree
def h92 : List (List Nat) := [[0], [0], [0, 3], [0, 3, 4], [0, 3, 4], [0, 3, 4], [0, 3, 4, 5], [0, 4, 5], [0, 3, 4], [3]]
def i92b0 : ICode :=
  (.seq (.seq (.reg [0, 3, 4] [⟨(some 6), .mv (.s 4), none, [], false⟩,
    ⟨(some 7), .mv (.s 0), none, [], false⟩,
    ⟨(some 8), .len false (.s 7), none, [], false⟩,
    ⟨(some 9), .bin .lss .num (.s 6) (.s 8), none, [], false⟩])
  (.cond (.s 9)
   .skip
   (.exit 0)))
  (.seq (.block 1
   (.seq (.reg [0, 3, 4] [⟨(some 12), .mv (.s 0), none, [], false⟩,
     ⟨(some 13), .mv (.s 4), none, [], false⟩,
     ⟨(some 14), .idxA 1 (.s 12) (.s 13), none, [], false⟩,
     ⟨(some 15), .load false 1 (.s 14), none, [], false⟩,
     ⟨(some 16), .call (.c (.fn (.func 112) [] [])) [(.s 15)], none, [], false⟩,
     ⟨(some 5), .mv (.s 16), none, [], true⟩])
   (.seq (.reg [0, 3, 4, 5] [⟨(some 17), .mv (.s 5), none, [], false⟩,
     ⟨(some 18), .mv (.s 3), none, [], false⟩,
     ⟨(some 19), .bin .gtr .num (.s 17) (.s 18), none, [], false⟩])
   (.cond (.s 19)
    (.reg [0, 4, 5] [⟨(some 20), .mv (.s 5), none, [], false⟩,
      ⟨(some 3), .mv (.s 20), none, [], true⟩])
    .skip))))
  (.reg [0, 3, 4] [⟨(some 10), .mv (.s 4), none, [], false⟩,
    ⟨(some 11), .bin .add .num (.s 10) (.c (.int .i64 1)), none, [], false⟩,
    ⟨(some 4), .mv (.s 11), none, [], true⟩])))
def i92 : IFn := { nparams := 1, ntmps := 22, results := [.tmp 2], body :=
  (.seq (.reg [0] [⟨(some 2), .mv (.c (.int .i64 0)), none, [], true⟩])
   (.seq (.reg [0] [⟨(some 3), .mv (.c (.int .i64 (-1))), none, [], true⟩])
   (.seq (.seq (.reg [0, 3] [⟨(some 4), .mv (.c (.int .i64 0)), none, [], true⟩])
   (.block 0
    (.loop [0, 3, 4] i92b0)))
   (.seq (.reg [3] [⟨(some 21), .mv (.s 3), none, [], false⟩,
     ⟨(some 2), .mv (.s 21), none, [], true⟩])
   .ret)))) }
theorem tr92 : trF Tryz.prog h92 Tryz.f92 = some i92 := by kernel_rfl

-- ashlar/ashlarref8.Bits
def h93 : List (List Nat) := [[0], [0], [0, 3], [0, 3, 4], [0, 3, 4], [0, 3, 4], [0, 3, 4, 5], [0, 4, 5], [0, 3, 4], [3]]
def i93b0 : ICode :=
  (.seq (.seq (.reg [0, 3, 4] [⟨(some 6), .mv (.s 4), none, [], false⟩,
    ⟨(some 7), .mv (.s 0), none, [], false⟩,
    ⟨(some 8), .len false (.s 7), none, [], false⟩,
    ⟨(some 9), .bin .lss .num (.s 6) (.s 8), none, [], false⟩])
  (.cond (.s 9)
   .skip
   (.exit 0)))
  (.seq (.block 1
   (.seq (.reg [0, 3, 4] [⟨(some 12), .mv (.s 0), none, [], false⟩,
     ⟨(some 13), .mv (.s 4), none, [], false⟩,
     ⟨(some 14), .idxA 1 (.s 12) (.s 13), none, [], false⟩,
     ⟨(some 15), .load false 1 (.s 14), none, [], false⟩,
     ⟨(some 16), .call (.c (.fn (.func 137) [] [])) [(.s 15)], none, [], false⟩,
     ⟨(some 5), .mv (.s 16), none, [], true⟩])
   (.seq (.reg [0, 3, 4, 5] [⟨(some 17), .mv (.s 5), none, [], false⟩,
     ⟨(some 18), .mv (.s 3), none, [], false⟩,
     ⟨(some 19), .bin .gtr .num (.s 17) (.s 18), none, [], false⟩])
   (.cond (.s 19)
    (.reg [0, 4, 5] [⟨(some 20), .mv (.s 5), none, [], false⟩,
      ⟨(some 3), .mv (.s 20), none, [], true⟩])
    .skip))))
  (.reg [0, 3, 4] [⟨(some 10), .mv (.s 4), none, [], false⟩,
    ⟨(some 11), .bin .add .num (.s 10) (.c (.int .i64 1)), none, [], false⟩,
    ⟨(some 4), .mv (.s 11), none, [], true⟩])))
def i93 : IFn := { nparams := 1, ntmps := 22, results := [.tmp 2], body :=
  (.seq (.reg [0] [⟨(some 2), .mv (.c (.int .i64 0)), none, [], true⟩])
   (.seq (.reg [0] [⟨(some 3), .mv (.c (.int .i64 0)), none, [], true⟩])
   (.seq (.seq (.reg [0, 3] [⟨(some 4), .mv (.c (.int .i64 0)), none, [], true⟩])
   (.block 0
    (.loop [0, 3, 4] i93b0)))
   (.seq (.reg [3] [⟨(some 21), .mv (.s 3), none, [], false⟩,
     ⟨(some 2), .mv (.s 21), none, [], true⟩])
   .ret)))) }
theorem tr93 : trF Tryz.prog h93 Tryz.f93 = some i93 := by kernel_rfl

-- ashlar/ashlarref1.Add
def h94 : List (List Nat) := [[0, 1], [2, 3, 4], [2, 3, 4], [2, 3, 4], [2, 3, 4], [2, 3, 4]]
def i94 : IFn := { nparams := 2, ntmps := 40, results := [.cell 4 true 2], body :=
  (.seq (.reg [0, 1] [⟨(some 2), .box 2 (.s 0), none, [], false⟩,
     ⟨(some 3), .box 2 (.s 1), none, [], false⟩,
     ⟨(some 4), .alloc 2 (.agg [(.bool false), (.sl .nil [])]), none, [], false⟩])
   (.seq (.seq (.reg [2, 3, 4] [⟨(some 5), .fldA 0 false 1 (.s 2), none, [], false⟩,
     ⟨(some 6), .load false 1 (.s 5), none, [], false⟩,
     ⟨(some 7), .fldA 0 false 1 (.s 3), none, [], false⟩,
     ⟨(some 8), .load false 1 (.s 7), none, [], false⟩,
     ⟨(some 9), .bin .eql .bool (.s 6) (.s 8), none, [], false⟩])
   (.cond (.s 9)
    (.seq (.draw [2, 3, 4] [⟨(some 10), .fldA 0 false 1 (.s 2), none, [], false⟩,
      ⟨(some 11), .load false 1 (.s 10), none, [0], false⟩,
      ⟨(some 12), .fldA 1 false 1 (.s 2), none, [], false⟩,
      ⟨(some 13), .load false 1 (.s 12), none, [2], false⟩,
      ⟨(some 14), .fldA 1 false 1 (.s 3), none, [], false⟩,
      ⟨(some 15), .load false 1 (.s 14), none, [4], false⟩,
      ⟨(some 16), .call (.c (.fn (.func 138) [] [])) [(.s 13), (.s 15)], none, [3, 5], false⟩,
      ⟨(some 17), .call (.c (.fn (.func 72) [] [])) [(.s 11), (.s 16)], none, [1, 6], false⟩,
      ⟨none, .store 2 (.s 4) (.s 17), none, [7, 0, 1, 2, 3, 4, 5, 6], false⟩])
    .ret)
    .skip))
   (.seq (.seq (.reg [2, 3, 4] [⟨(some 18), .fldA 1 false 1 (.s 2), none, [], false⟩,
     ⟨(some 19), .load false 1 (.s 18), none, [], false⟩,
     ⟨(some 20), .fldA 1 false 1 (.s 3), none, [], false⟩,
     ⟨(some 21), .load false 1 (.s 20), none, [], false⟩,
     ⟨(some 22), .call (.c (.fn (.func 139) [] [])) [(.s 19), (.s 21)], none, [], false⟩,
     ⟨(some 23), .bin .geq .num (.s 22) (.c (.int .i64 0)), none, [], false⟩])
   (.cond (.s 23)
    (.seq (.draw [2, 3, 4] [⟨(some 24), .fldA 0 false 1 (.s 2), none, [], false⟩,
      ⟨(some 25), .load false 1 (.s 24), none, [0], false⟩,
      ⟨(some 26), .fldA 1 false 1 (.s 2), none, [], false⟩,
      ⟨(some 27), .load false 1 (.s 26), none, [2], false⟩,
      ⟨(some 28), .fldA 1 false 1 (.s 3), none, [], false⟩,
      ⟨(some 29), .load false 1 (.s 28), none, [4], false⟩,
      ⟨(some 30), .call (.c (.fn (.func 140) [] [])) [(.s 27), (.s 29)], none, [3, 5], false⟩,
      ⟨(some 31), .call (.c (.fn (.func 72) [] [])) [(.s 25), (.s 30)], none, [1, 6], false⟩,
      ⟨none, .store 2 (.s 4) (.s 31), none, [7, 0, 1, 2, 3, 4, 5, 6], false⟩])
    .ret)
    .skip))
   (.seq (.draw [2, 3, 4] [⟨(some 32), .fldA 0 false 1 (.s 3), none, [], false⟩,
     ⟨(some 33), .load false 1 (.s 32), none, [0], false⟩,
     ⟨(some 34), .fldA 1 false 1 (.s 3), none, [], false⟩,
     ⟨(some 35), .load false 1 (.s 34), none, [2], false⟩,
     ⟨(some 36), .fldA 1 false 1 (.s 2), none, [], false⟩,
     ⟨(some 37), .load false 1 (.s 36), none, [4], false⟩,
     ⟨(some 38), .call (.c (.fn (.func 140) [] [])) [(.s 35), (.s 37)], none, [3, 5], false⟩,
     ⟨(some 39), .call (.c (.fn (.func 72) [] [])) [(.s 33), (.s 38)], none, [1, 6], false⟩,
     ⟨none, .store 2 (.s 4) (.s 39), none, [7, 0, 1, 2, 3, 4, 5, 6], false⟩])
   .ret)))) }
theorem tr94 : trF Tryz.prog h94 Tryz.f94 = some i94 := by kernel_rfl

-- ashlar/ashlarref1.Mul
def h95 : List (List Nat) := [[0, 1], [2, 3, 4], [2, 3, 4, 5], [2, 3, 4, 5, 6], [2, 3, 4, 5, 6], [2, 3, 4, 5, 6], [2, 3, 4, 5, 6, 7], [2, 3, 4, 5, 6, 7, 8], [2, 3, 4, 5, 6, 7, 8], [2, 3, 4, 5, 6, 7, 8], [2, 3, 4, 5, 6, 7, 8], [2, 3, 4, 5, 6, 7, 8], [2, 3, 4, 5, 6, 7, 8], [2, 3, 4, 5, 6, 7], [2, 3, 4, 5, 6, 7, 9], [2, 3, 4, 5, 6, 7, 9], [2, 3, 4, 5, 6, 7, 9], [2, 3, 4, 5, 6, 7, 9], [2, 3, 4, 5, 6, 7, 9], [2, 3, 4, 5, 6, 7, 9], [2, 3, 4, 5, 6], [2, 3, 4, 5]]
def i95b0 : ICode :=
  (.seq (.seq (.reg [2, 3, 4, 5, 6, 7, 8] [⟨(some 26), .mv (.s 8), none, [], false⟩,
    ⟨(some 27), .fldA 1 false 1 (.s 3), none, [], false⟩,
    ⟨(some 28), .load false 1 (.s 27), none, [], false⟩,
    ⟨(some 29), .len false (.s 28), none, [], false⟩,
    ⟨(some 30), .bin .lss .num (.s 26) (.s 29), none, [], false⟩])
  (.cond (.s 30)
   .skip
   (.exit 2)))
  (.seq (.block 3
   (.seq (.draw [2, 3, 4, 5, 6, 7, 8] [⟨(some 33), .mv (.s 7), none, [], false⟩,
     ⟨(some 34), .mv (.s 5), none, [], false⟩,
     ⟨(some 35), .mv (.s 6), none, [], false⟩,
     ⟨(some 36), .mv (.s 8), none, [], false⟩,
     ⟨(some 37), .bin .add .num (.s 35) (.s 36), none, [2, 3], false⟩,
     ⟨(some 38), .idxA 1 (.s 34) (.s 37), none, [1, 4], false⟩,
     ⟨(some 39), .load false 1 (.s 38), none, [5], false⟩,
     ⟨(some 40), .fldA 1 false 1 (.s 2), none, [], false⟩,
     ⟨(some 41), .load false 1 (.s 40), none, [7], false⟩,
     ⟨(some 42), .mv (.s 6), none, [], false⟩,
     ⟨(some 43), .idxA 1 (.s 41) (.s 42), none, [8, 9], false⟩,
     ⟨(some 44), .load false 1 (.s 43), none, [10], false⟩,
     ⟨(some 45), .fldA 1 false 1 (.s 3), none, [], false⟩,
     ⟨(some 46), .load false 1 (.s 45), none, [12], false⟩,
     ⟨(some 47), .mv (.s 8), none, [], false⟩,
     ⟨(some 48), .idxA 1 (.s 46) (.s 47), none, [13, 14], false⟩,
     ⟨(some 49), .load false 1 (.s 48), none, [15], false⟩,
     ⟨(some 50), .bin .mul .num (.s 44) (.s 49), none, [11, 16], false⟩,
     ⟨(some 51), .bin .add .num (.s 39) (.s 50), none, [6, 17], false⟩,
     ⟨(some 52), .bin .add .num (.s 33) (.s 51), none, [0, 18], false⟩,
     ⟨(some 7), .mv (.s 52), none, [19, 0, 1, 2, 3, 4, 5, 6, 7, 8, 9, 10, 11, 12, 13, 14, 15, 16, 17, 18], true⟩])
   (.seq (.reg [2, 3, 4, 5, 6, 7, 8] [⟨(some 53), .mv (.s 5), none, [], false⟩,
     ⟨(some 54), .mv (.s 6), none, [], false⟩,
     ⟨(some 55), .mv (.s 8), none, [], false⟩,
     ⟨(some 56), .bin .add .num (.s 54) (.s 55), none, [], false⟩,
     ⟨(some 57), .mv (.s 7), none, [], false⟩,
     ⟨(some 58), .bin .rem .num (.s 57) (.c (.int .i64 65536)), none, [], false⟩,
     ⟨(some 59), .idxA 1 (.s 53) (.s 56), none, [], false⟩,
     ⟨none, .store 1 (.s 59) (.s 58), none, [], false⟩])
   (.reg [2, 3, 4, 5, 6, 7, 8] [⟨(some 60), .mv (.s 7), none, [], false⟩,
     ⟨(some 61), .bin .quo .num (.s 60) (.c (.int .i64 65536)), none, [], false⟩,
     ⟨(some 7), .mv (.s 61), none, [], true⟩]))))
  (.reg [2, 3, 4, 5, 6, 7, 8] [⟨(some 31), .mv (.s 8), none, [], false⟩,
    ⟨(some 32), .bin .add .num (.s 31) (.c (.int .i64 1)), none, [], false⟩,
    ⟨(some 8), .mv (.s 32), none, [], true⟩])))
def i95b1 : ICode :=
  (.seq (.seq (.reg [2, 3, 4, 5, 6, 7, 9] [⟨(some 67), .mv (.s 7), none, [], false⟩,
    ⟨(some 68), .bin .gtr .num (.s 67) (.c (.int .i64 0)), none, [], false⟩])
  (.cond (.s 68)
   .skip
   (.exit 4)))
  (.seq (.block 5
   (.seq (.reg [2, 3, 4, 5, 6, 7, 9] [⟨(some 71), .mv (.s 7), none, [], false⟩,
     ⟨(some 72), .mv (.s 5), none, [], false⟩,
     ⟨(some 73), .mv (.s 9), none, [], false⟩,
     ⟨(some 74), .idxA 1 (.s 72) (.s 73), none, [], false⟩,
     ⟨(some 75), .load false 1 (.s 74), none, [], false⟩,
     ⟨(some 76), .bin .add .num (.s 71) (.s 75), none, [], false⟩,
     ⟨(some 7), .mv (.s 76), none, [], true⟩])
   (.seq (.reg [2, 3, 4, 5, 6, 7, 9] [⟨(some 77), .mv (.s 5), none, [], false⟩,
     ⟨(some 78), .mv (.s 9), none, [], false⟩,
     ⟨(some 79), .mv (.s 7), none, [], false⟩,
     ⟨(some 80), .bin .rem .num (.s 79) (.c (.int .i64 65536)), none, [], false⟩,
     ⟨(some 81), .idxA 1 (.s 77) (.s 78), none, [], false⟩,
     ⟨none, .store 1 (.s 81) (.s 80), none, [], false⟩])
   (.reg [2, 3, 4, 5, 6, 7, 9] [⟨(some 82), .mv (.s 7), none, [], false⟩,
     ⟨(some 83), .bin .quo .num (.s 82) (.c (.int .i64 65536)), none, [], false⟩,
     ⟨(some 7), .mv (.s 83), none, [], true⟩]))))
  (.reg [2, 3, 4, 5, 6, 7, 9] [⟨(some 69), .mv (.s 9), none, [], false⟩,
    ⟨(some 70), .bin .add .num (.s 69) (.c (.int .i64 1)), none, [], false⟩,
    ⟨(some 9), .mv (.s 70), none, [], true⟩])))
def i95b2 : ICode :=
  (.seq (.seq (.reg [2, 3, 4, 5, 6] [⟨(some 19), .mv (.s 6), none, [], false⟩,
    ⟨(some 20), .fldA 1 false 1 (.s 2), none, [], false⟩,
    ⟨(some 21), .load false 1 (.s 20), none, [], false⟩,
    ⟨(some 22), .len false (.s 21), none, [], false⟩,
    ⟨(some 23), .bin .lss .num (.s 19) (.s 22), none, [], false⟩])
  (.cond (.s 23)
   .skip
   (.exit 0)))
  (.seq (.block 1
   (.seq (.reg [2, 3, 4, 5, 6] [⟨(some 7), .mv (.c (.int .i64 0)), none, [], true⟩])
   (.seq (.seq (.reg [2, 3, 4, 5, 6, 7] [⟨(some 8), .mv (.c (.int .i64 0)), none, [], true⟩])
   (.block 2
    (.loop [2, 3, 4, 5, 6, 7, 8] i95b0)))
   (.seq (.reg [2, 3, 4, 5, 6, 7] [⟨(some 62), .mv (.s 6), none, [], false⟩,
     ⟨(some 63), .fldA 1 false 1 (.s 3), none, [], false⟩,
     ⟨(some 64), .load false 1 (.s 63), none, [], false⟩,
     ⟨(some 65), .len false (.s 64), none, [], false⟩,
     ⟨(some 66), .bin .add .num (.s 62) (.s 65), none, [], false⟩,
     ⟨(some 9), .mv (.s 66), none, [], true⟩])
   (.block 4
    (.loop [2, 3, 4, 5, 6, 7, 9] i95b1))))))
  (.reg [2, 3, 4, 5, 6] [⟨(some 24), .mv (.s 6), none, [], false⟩,
    ⟨(some 25), .bin .add .num (.s 24) (.c (.int .i64 1)), none, [], false⟩,
    ⟨(some 6), .mv (.s 25), none, [], true⟩])))
def i95 : IFn := { nparams := 2, ntmps := 91, results := [.cell 4 true 2], body :=
  (.seq (.reg [0, 1] [⟨(some 2), .box 2 (.s 0), none, [], false⟩,
     ⟨(some 3), .box 2 (.s 1), none, [], false⟩,
     ⟨(some 4), .alloc 2 (.agg [(.bool false), (.sl .nil [])]), none, [], false⟩])
   (.seq (.reg [2, 3, 4] [⟨(some 10), .fldA 1 false 1 (.s 2), none, [], false⟩,
     ⟨(some 11), .load false 1 (.s 10), none, [], false⟩,
     ⟨(some 12), .len false (.s 11), none, [], false⟩,
     ⟨(some 13), .fldA 1 false 1 (.s 3), none, [], false⟩,
     ⟨(some 14), .load false 1 (.s 13), none, [], false⟩,
     ⟨(some 15), .len false (.s 14), none, [], false⟩,
     ⟨(some 16), .bin .add .num (.s 12) (.s 15), none, [], false⟩,
     ⟨(some 17), .bin .add .num (.s 16) (.c (.int .i64 1)), none, [], false⟩,
     ⟨(some 18), .mksl 1 8 (.int .i64 0) (.s 17) (.s 17), none, [], false⟩,
     ⟨(some 5), .mv (.s 18), none, [], true⟩])
   (.seq (.seq (.reg [2, 3, 4, 5] [⟨(some 6), .mv (.c (.int .i64 0)), none, [], true⟩])
   (.block 0
    (.loop [2, 3, 4, 5, 6] i95b2)))
   (.seq (.reg [2, 3, 4, 5] [⟨(some 84), .fldA 0 false 1 (.s 2), none, [], false⟩,
     ⟨(some 85), .load false 1 (.s 84), none, [], false⟩,
     ⟨(some 86), .fldA 0 false 1 (.s 3), none, [], false⟩,
     ⟨(some 87), .load false 1 (.s 86), none, [], false⟩,
     ⟨(some 88), .bin .neq .bool (.s 85) (.s 87), none, [], false⟩,
     ⟨(some 89), .mv (.s 5), none, [], false⟩,
     ⟨(some 90), .call (.c (.fn (.func 72) [] [])) [(.s 88), (.s 89)], none, [], false⟩,
     ⟨none, .store 2 (.s 4) (.s 90), none, [], false⟩])
   .ret)))) }
theorem tr95 : trF Tryz.prog h95 Tryz.f95 = some i95 := by kernel_rfl
end Go.Proofs.YtpfbgpclhkjgaaaGreat
